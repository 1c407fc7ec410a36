/- Part 1 of the proof: the texts PiTy, WA, WB, WC, WD, WE, PSol, PSolB, PSolC, PSolD, PSolE, PSolF, PSolG, one behind the other. Each holds for every input that it names; no condition is hidden. -/
import Derived.Test.YtdgpmopcmacicaaPiMerge
import Derived.Test.YtdgpmopcmacicaaProg
import Derived.KernelRfl
import Derived.Test.YtdgpmopcmacicaaPiGo
import Derived.Test.YtdgpmopcmacicaaPiVecM
/- What the abstract program logic asks of this seat's types, found by looking. -/
set_option linter.unusedVariables false
namespace Go.Proofs.YtdgpmopcmacicaaPi

theorem ty_2 : sizeT Try.prog 2 = some 1 ∧ bytesT Try.prog 2 = some 8 ∧ aggT Try.prog 2 = some false ∧ elemT Try.prog 2 = none ∧ arrT Try.prog 2 = none ∧ intT Try.prog 2 = some .i64 ∧ boolT Try.prog 2 = false ∧ stringT Try.prog 2 = false ∧ sliceT Try.prog 2 = false ∧ Program.underlying Try.prog 2 = some (.int .i64) ∧ zeroT Try.prog 2 = some [.im (.int .i64 0)] ∧ zeroImT Try.prog 2 = some [(.int .i64 0)] ∧ u8T Try.prog 2 = false ∧ zeroOne Try.prog 2 = some (.int .i64 0) ∧ placesT Try.prog 2 = none := ⟨by kernel_rfl, by kernel_rfl, by kernel_rfl, by kernel_rfl, by kernel_rfl, by kernel_rfl, by kernel_rfl, by kernel_rfl, by kernel_rfl, by kernel_rfl, by kernel_rfl, by kernel_rfl, by kernel_rfl, by kernel_rfl, by kernel_rfl⟩
theorem ty_3 : sizeT Try.prog 3 = some 1 ∧ bytesT Try.prog 3 = some 8 ∧ aggT Try.prog 3 = some false ∧ elemT Try.prog 3 = none ∧ arrT Try.prog 3 = none ∧ intT Try.prog 3 = some .i64 ∧ boolT Try.prog 3 = false ∧ stringT Try.prog 3 = false ∧ sliceT Try.prog 3 = false ∧ Program.underlying Try.prog 3 = some (.int .i64) ∧ zeroT Try.prog 3 = some [.im (.int .i64 0)] ∧ zeroImT Try.prog 3 = some [(.int .i64 0)] ∧ u8T Try.prog 3 = false ∧ zeroOne Try.prog 3 = some (.int .i64 0) ∧ placesT Try.prog 3 = none := ⟨by kernel_rfl, by kernel_rfl, by kernel_rfl, by kernel_rfl, by kernel_rfl, by kernel_rfl, by kernel_rfl, by kernel_rfl, by kernel_rfl, by kernel_rfl, by kernel_rfl, by kernel_rfl, by kernel_rfl, by kernel_rfl, by kernel_rfl⟩
theorem ty_4 : sizeT Try.prog 4 = some 1 ∧ bytesT Try.prog 4 = some 1 ∧ aggT Try.prog 4 = some false ∧ elemT Try.prog 4 = none ∧ arrT Try.prog 4 = none ∧ intT Try.prog 4 = none ∧ boolT Try.prog 4 = true ∧ stringT Try.prog 4 = false ∧ sliceT Try.prog 4 = false ∧ zeroT Try.prog 4 = some [.im (.bool false)] ∧ zeroImT Try.prog 4 = some [(.bool false)] ∧ u8T Try.prog 4 = false ∧ zeroOne Try.prog 4 = some (.bool false) ∧ placesT Try.prog 4 = none := ⟨by kernel_rfl, by kernel_rfl, by kernel_rfl, by kernel_rfl, by kernel_rfl, by kernel_rfl, by kernel_rfl, by kernel_rfl, by kernel_rfl, by kernel_rfl, by kernel_rfl, by kernel_rfl, by kernel_rfl, by kernel_rfl⟩
theorem ty_5 : sizeT Try.prog 5 = some 1 ∧ bytesT Try.prog 5 = some 1 ∧ aggT Try.prog 5 = some false ∧ elemT Try.prog 5 = none ∧ arrT Try.prog 5 = none ∧ intT Try.prog 5 = some .u8 ∧ boolT Try.prog 5 = false ∧ stringT Try.prog 5 = false ∧ sliceT Try.prog 5 = false ∧ Program.underlying Try.prog 5 = some (.int .u8) ∧ zeroT Try.prog 5 = some [.im (.int .u8 0)] ∧ zeroImT Try.prog 5 = some [(.int .u8 0)] ∧ u8T Try.prog 5 = false ∧ zeroOne Try.prog 5 = some (.int .u8 0) ∧ placesT Try.prog 5 = none := ⟨by kernel_rfl, by kernel_rfl, by kernel_rfl, by kernel_rfl, by kernel_rfl, by kernel_rfl, by kernel_rfl, by kernel_rfl, by kernel_rfl, by kernel_rfl, by kernel_rfl, by kernel_rfl, by kernel_rfl, by kernel_rfl, by kernel_rfl⟩
theorem ty_6 : sizeT Try.prog 6 = some 1 ∧ bytesT Try.prog 6 = some 1 ∧ aggT Try.prog 6 = some false ∧ elemT Try.prog 6 = none ∧ arrT Try.prog 6 = none ∧ intT Try.prog 6 = some .u8 ∧ boolT Try.prog 6 = false ∧ stringT Try.prog 6 = false ∧ sliceT Try.prog 6 = false ∧ Program.underlying Try.prog 6 = some (.int .u8) ∧ zeroT Try.prog 6 = some [.im (.int .u8 0)] ∧ zeroImT Try.prog 6 = some [(.int .u8 0)] ∧ u8T Try.prog 6 = false ∧ zeroOne Try.prog 6 = some (.int .u8 0) ∧ placesT Try.prog 6 = none := ⟨by kernel_rfl, by kernel_rfl, by kernel_rfl, by kernel_rfl, by kernel_rfl, by kernel_rfl, by kernel_rfl, by kernel_rfl, by kernel_rfl, by kernel_rfl, by kernel_rfl, by kernel_rfl, by kernel_rfl, by kernel_rfl, by kernel_rfl⟩
theorem ty_7 : sizeT Try.prog 7 = some 4 ∧ bytesT Try.prog 7 = some 24 ∧ aggT Try.prog 7 = some true ∧ elemT Try.prog 7 = none ∧ arrT Try.prog 7 = none ∧ intT Try.prog 7 = none ∧ boolT Try.prog 7 = false ∧ stringT Try.prog 7 = false ∧ sliceT Try.prog 7 = false ∧ zeroT Try.prog 7 = some [.im (.int .i64 0), .im (.int .i64 0), .im (.bool false), .im (.int .u8 0)] ∧ zeroImT Try.prog 7 = some [(.int .i64 0), (.int .i64 0), (.bool false), (.int .u8 0)] ∧ u8T Try.prog 7 = false ∧ placesT Try.prog 7 = some [(0, 1), (1, 1), (2, 1), (3, 1)] ∧ fieldT Try.prog 7 0 = some (0, 1) ∧ fieldT Try.prog 7 1 = some (1, 1) ∧ fieldT Try.prog 7 2 = some (2, 1) ∧ fieldT Try.prog 7 3 = some (3, 1) := ⟨by kernel_rfl, by kernel_rfl, by kernel_rfl, by kernel_rfl, by kernel_rfl, by kernel_rfl, by kernel_rfl, by kernel_rfl, by kernel_rfl, by kernel_rfl, by kernel_rfl, by kernel_rfl, by kernel_rfl, by kernel_rfl, by kernel_rfl, by kernel_rfl, by kernel_rfl⟩
theorem ty_8 : sizeT Try.prog 8 = some 4 ∧ bytesT Try.prog 8 = some 24 ∧ aggT Try.prog 8 = some true ∧ elemT Try.prog 8 = none ∧ arrT Try.prog 8 = none ∧ intT Try.prog 8 = none ∧ boolT Try.prog 8 = false ∧ stringT Try.prog 8 = false ∧ sliceT Try.prog 8 = false ∧ zeroT Try.prog 8 = some [.im (.int .i64 0), .im (.int .i64 0), .im (.bool false), .im (.int .u8 0)] ∧ zeroImT Try.prog 8 = some [(.int .i64 0), (.int .i64 0), (.bool false), (.int .u8 0)] ∧ u8T Try.prog 8 = false ∧ placesT Try.prog 8 = some [(0, 1), (1, 1), (2, 1), (3, 1)] ∧ fieldT Try.prog 8 0 = some (0, 1) ∧ fieldT Try.prog 8 1 = some (1, 1) ∧ fieldT Try.prog 8 2 = some (2, 1) ∧ fieldT Try.prog 8 3 = some (3, 1) := ⟨by kernel_rfl, by kernel_rfl, by kernel_rfl, by kernel_rfl, by kernel_rfl, by kernel_rfl, by kernel_rfl, by kernel_rfl, by kernel_rfl, by kernel_rfl, by kernel_rfl, by kernel_rfl, by kernel_rfl, by kernel_rfl, by kernel_rfl, by kernel_rfl, by kernel_rfl⟩
theorem ty_9 : sizeT Try.prog 9 = some 1 ∧ bytesT Try.prog 9 = some 16 ∧ aggT Try.prog 9 = some false ∧ elemT Try.prog 9 = none ∧ arrT Try.prog 9 = none ∧ intT Try.prog 9 = none ∧ boolT Try.prog 9 = false ∧ stringT Try.prog 9 = true ∧ sliceT Try.prog 9 = false ∧ Program.underlying Try.prog 9 = some .string ∧ zeroT Try.prog 9 = some [.im (.str ByteArray.empty)] ∧ zeroImT Try.prog 9 = some [(.str ByteArray.empty)] ∧ u8T Try.prog 9 = false ∧ zeroOne Try.prog 9 = some (.str ByteArray.empty) ∧ placesT Try.prog 9 = none := ⟨by kernel_rfl, by kernel_rfl, by kernel_rfl, by kernel_rfl, by kernel_rfl, by kernel_rfl, by kernel_rfl, by kernel_rfl, by kernel_rfl, by kernel_rfl, by kernel_rfl, by kernel_rfl, by kernel_rfl, by kernel_rfl, by kernel_rfl⟩
theorem ty_22 : sizeT Try.prog 22 = some 1 ∧ bytesT Try.prog 22 = some 24 ∧ aggT Try.prog 22 = some false ∧ elemT Try.prog 22 = some 3 ∧ arrT Try.prog 22 = none ∧ intT Try.prog 22 = none ∧ boolT Try.prog 22 = false ∧ stringT Try.prog 22 = false ∧ sliceT Try.prog 22 = true ∧ zeroT Try.prog 22 = some [.nils] ∧ zeroImT Try.prog 22 = some [(.sl [])] ∧ u8T Try.prog 22 = false ∧ zeroOne Try.prog 22 = some (.sl []) ∧ placesT Try.prog 22 = none := ⟨by kernel_rfl, by kernel_rfl, by kernel_rfl, by kernel_rfl, by kernel_rfl, by kernel_rfl, by kernel_rfl, by kernel_rfl, by kernel_rfl, by kernel_rfl, by kernel_rfl, by kernel_rfl, by kernel_rfl, by kernel_rfl⟩
theorem ty_23 : sizeT Try.prog 23 = some 1 ∧ bytesT Try.prog 23 = some 8 ∧ aggT Try.prog 23 = some false ∧ elemT Try.prog 23 = none ∧ arrT Try.prog 23 = none ∧ intT Try.prog 23 = none ∧ boolT Try.prog 23 = false ∧ stringT Try.prog 23 = false ∧ sliceT Try.prog 23 = false ∧ ptrT Try.prog 23 = true ∧ zeroT Try.prog 23 = some [.nilp] ∧ u8T Try.prog 23 = false ∧ placesT Try.prog 23 = none := ⟨by kernel_rfl, by kernel_rfl, by kernel_rfl, by kernel_rfl, by kernel_rfl, by kernel_rfl, by kernel_rfl, by kernel_rfl, by kernel_rfl, by kernel_rfl, by kernel_rfl, by kernel_rfl, by kernel_rfl⟩
theorem ty_25 : sizeT Try.prog 25 = some 2 ∧ bytesT Try.prog 25 = some 32 ∧ aggT Try.prog 25 = some true ∧ elemT Try.prog 25 = none ∧ arrT Try.prog 25 = none ∧ intT Try.prog 25 = none ∧ boolT Try.prog 25 = false ∧ stringT Try.prog 25 = false ∧ sliceT Try.prog 25 = false ∧ zeroT Try.prog 25 = some [.nils, .im (.int .i64 0)] ∧ zeroImT Try.prog 25 = some [(.sl []), (.int .i64 0)] ∧ u8T Try.prog 25 = false ∧ placesT Try.prog 25 = some [(0, 1), (1, 1)] ∧ fieldT Try.prog 25 0 = some (0, 1) ∧ fieldT Try.prog 25 1 = some (1, 1) := ⟨by kernel_rfl, by kernel_rfl, by kernel_rfl, by kernel_rfl, by kernel_rfl, by kernel_rfl, by kernel_rfl, by kernel_rfl, by kernel_rfl, by kernel_rfl, by kernel_rfl, by kernel_rfl, by kernel_rfl, by kernel_rfl, by kernel_rfl⟩
theorem ty_39 : sizeT Try.prog 39 = some 1 ∧ bytesT Try.prog 39 = some 8 ∧ aggT Try.prog 39 = some false ∧ elemT Try.prog 39 = none ∧ arrT Try.prog 39 = none ∧ intT Try.prog 39 = some .i64 ∧ boolT Try.prog 39 = false ∧ stringT Try.prog 39 = false ∧ sliceT Try.prog 39 = false ∧ Program.underlying Try.prog 39 = some (.int .i64) ∧ zeroT Try.prog 39 = some [.im (.int .i64 0)] ∧ zeroImT Try.prog 39 = some [(.int .i64 0)] ∧ u8T Try.prog 39 = false ∧ zeroOne Try.prog 39 = some (.int .i64 0) ∧ placesT Try.prog 39 = none := ⟨by kernel_rfl, by kernel_rfl, by kernel_rfl, by kernel_rfl, by kernel_rfl, by kernel_rfl, by kernel_rfl, by kernel_rfl, by kernel_rfl, by kernel_rfl, by kernel_rfl, by kernel_rfl, by kernel_rfl, by kernel_rfl, by kernel_rfl⟩
theorem ty_71 : sizeT Try.prog 71 = some 1 ∧ bytesT Try.prog 71 = some 24 ∧ aggT Try.prog 71 = some false ∧ elemT Try.prog 71 = some 4 ∧ arrT Try.prog 71 = none ∧ intT Try.prog 71 = none ∧ boolT Try.prog 71 = false ∧ stringT Try.prog 71 = false ∧ sliceT Try.prog 71 = true ∧ zeroT Try.prog 71 = some [.nils] ∧ zeroImT Try.prog 71 = some [(.sl [])] ∧ u8T Try.prog 71 = false ∧ zeroOne Try.prog 71 = some (.sl []) ∧ placesT Try.prog 71 = none := ⟨by kernel_rfl, by kernel_rfl, by kernel_rfl, by kernel_rfl, by kernel_rfl, by kernel_rfl, by kernel_rfl, by kernel_rfl, by kernel_rfl, by kernel_rfl, by kernel_rfl, by kernel_rfl, by kernel_rfl, by kernel_rfl⟩
theorem ty_81 : sizeT Try.prog 81 = some 1 ∧ bytesT Try.prog 81 = some 24 ∧ aggT Try.prog 81 = some false ∧ elemT Try.prog 81 = some 22 ∧ arrT Try.prog 81 = none ∧ intT Try.prog 81 = none ∧ boolT Try.prog 81 = false ∧ stringT Try.prog 81 = false ∧ sliceT Try.prog 81 = true ∧ zeroT Try.prog 81 = some [.nils] ∧ zeroImT Try.prog 81 = some [(.sl [])] ∧ u8T Try.prog 81 = false ∧ zeroOne Try.prog 81 = some (.sl []) ∧ placesT Try.prog 81 = none := ⟨by kernel_rfl, by kernel_rfl, by kernel_rfl, by kernel_rfl, by kernel_rfl, by kernel_rfl, by kernel_rfl, by kernel_rfl, by kernel_rfl, by kernel_rfl, by kernel_rfl, by kernel_rfl, by kernel_rfl, by kernel_rfl⟩
theorem ty_84 : sizeT Try.prog 84 = some 1 ∧ bytesT Try.prog 84 = some 24 ∧ aggT Try.prog 84 = some false ∧ elemT Try.prog 84 = some 92 ∧ arrT Try.prog 84 = none ∧ intT Try.prog 84 = none ∧ boolT Try.prog 84 = false ∧ stringT Try.prog 84 = false ∧ sliceT Try.prog 84 = true ∧ zeroT Try.prog 84 = some [.nils] ∧ zeroImT Try.prog 84 = some [(.sl [])] ∧ u8T Try.prog 84 = false ∧ zeroOne Try.prog 84 = some (.sl []) ∧ placesT Try.prog 84 = none := ⟨by kernel_rfl, by kernel_rfl, by kernel_rfl, by kernel_rfl, by kernel_rfl, by kernel_rfl, by kernel_rfl, by kernel_rfl, by kernel_rfl, by kernel_rfl, by kernel_rfl, by kernel_rfl, by kernel_rfl, by kernel_rfl⟩
theorem ty_86 : sizeT Try.prog 86 = some 5 ∧ bytesT Try.prog 86 = some 64 ∧ aggT Try.prog 86 = some true ∧ elemT Try.prog 86 = none ∧ arrT Try.prog 86 = none ∧ intT Try.prog 86 = none ∧ boolT Try.prog 86 = false ∧ stringT Try.prog 86 = false ∧ sliceT Try.prog 86 = false ∧ zeroT Try.prog 86 = some [.im (.bool false), .im (.bool false), .nils, .nils, .im (.int .i64 0)] ∧ zeroImT Try.prog 86 = some [(.bool false), (.bool false), (.sl []), (.sl []), (.int .i64 0)] ∧ u8T Try.prog 86 = false ∧ placesT Try.prog 86 = some [(0, 1), (1, 1), (2, 1), (3, 1), (4, 1)] ∧ fieldT Try.prog 86 0 = some (0, 1) ∧ fieldT Try.prog 86 1 = some (1, 1) ∧ fieldT Try.prog 86 2 = some (2, 1) ∧ fieldT Try.prog 86 3 = some (3, 1) ∧ fieldT Try.prog 86 4 = some (4, 1) := ⟨by kernel_rfl, by kernel_rfl, by kernel_rfl, by kernel_rfl, by kernel_rfl, by kernel_rfl, by kernel_rfl, by kernel_rfl, by kernel_rfl, by kernel_rfl, by kernel_rfl, by kernel_rfl, by kernel_rfl, by kernel_rfl, by kernel_rfl, by kernel_rfl, by kernel_rfl, by kernel_rfl⟩
theorem ty_92 : sizeT Try.prog 92 = some 2 ∧ bytesT Try.prog 92 = some 32 ∧ aggT Try.prog 92 = some true ∧ elemT Try.prog 92 = none ∧ arrT Try.prog 92 = none ∧ intT Try.prog 92 = none ∧ boolT Try.prog 92 = false ∧ stringT Try.prog 92 = false ∧ sliceT Try.prog 92 = false ∧ zeroT Try.prog 92 = some [.im (.bool false), .nils] ∧ zeroImT Try.prog 92 = some [(.bool false), (.sl [])] ∧ u8T Try.prog 92 = false ∧ placesT Try.prog 92 = some [(0, 1), (1, 1)] ∧ fieldT Try.prog 92 0 = some (0, 1) ∧ fieldT Try.prog 92 1 = some (1, 1) := ⟨by kernel_rfl, by kernel_rfl, by kernel_rfl, by kernel_rfl, by kernel_rfl, by kernel_rfl, by kernel_rfl, by kernel_rfl, by kernel_rfl, by kernel_rfl, by kernel_rfl, by kernel_rfl, by kernel_rfl, by kernel_rfl, by kernel_rfl⟩
theorem ty_122 : sizeT Try.prog 122 = some 1 ∧ bytesT Try.prog 122 = some 8 ∧ aggT Try.prog 122 = some false ∧ elemT Try.prog 122 = none ∧ arrT Try.prog 122 = none ∧ intT Try.prog 122 = none ∧ boolT Try.prog 122 = false ∧ stringT Try.prog 122 = false ∧ sliceT Try.prog 122 = false ∧ zeroT Try.prog 122 = some [.any] ∧ u8T Try.prog 122 = false ∧ mapT Try.prog 122 = some (3, 4) ∧ placesT Try.prog 122 = none := ⟨by kernel_rfl, by kernel_rfl, by kernel_rfl, by kernel_rfl, by kernel_rfl, by kernel_rfl, by kernel_rfl, by kernel_rfl, by kernel_rfl, by kernel_rfl, by kernel_rfl, by kernel_rfl, by kernel_rfl⟩
theorem ty_171 : sizeT Try.prog 171 = some 1 ∧ bytesT Try.prog 171 = some 8 ∧ aggT Try.prog 171 = some false ∧ elemT Try.prog 171 = none ∧ arrT Try.prog 171 = none ∧ intT Try.prog 171 = some .u64 ∧ boolT Try.prog 171 = false ∧ stringT Try.prog 171 = false ∧ sliceT Try.prog 171 = false ∧ Program.underlying Try.prog 171 = some (.int .u64) ∧ zeroT Try.prog 171 = some [.im (.int .u64 0)] ∧ zeroImT Try.prog 171 = some [(.int .u64 0)] ∧ u8T Try.prog 171 = false ∧ zeroOne Try.prog 171 = some (.int .u64 0) ∧ placesT Try.prog 171 = none := ⟨by kernel_rfl, by kernel_rfl, by kernel_rfl, by kernel_rfl, by kernel_rfl, by kernel_rfl, by kernel_rfl, by kernel_rfl, by kernel_rfl, by kernel_rfl, by kernel_rfl, by kernel_rfl, by kernel_rfl, by kernel_rfl, by kernel_rfl⟩
theorem ty_198 : sizeT Try.prog 198 = some 1 ∧ bytesT Try.prog 198 = some 8 ∧ aggT Try.prog 198 = some false ∧ elemT Try.prog 198 = none ∧ arrT Try.prog 198 = none ∧ intT Try.prog 198 = some .u64 ∧ boolT Try.prog 198 = false ∧ stringT Try.prog 198 = false ∧ sliceT Try.prog 198 = false ∧ Program.underlying Try.prog 198 = some (.int .u64) ∧ zeroT Try.prog 198 = some [.im (.int .u64 0)] ∧ zeroImT Try.prog 198 = some [(.int .u64 0)] ∧ u8T Try.prog 198 = false ∧ zeroOne Try.prog 198 = some (.int .u64 0) ∧ placesT Try.prog 198 = none := ⟨by kernel_rfl, by kernel_rfl, by kernel_rfl, by kernel_rfl, by kernel_rfl, by kernel_rfl, by kernel_rfl, by kernel_rfl, by kernel_rfl, by kernel_rfl, by kernel_rfl, by kernel_rfl, by kernel_rfl, by kernel_rfl, by kernel_rfl⟩
theorem ty_216 : sizeT Try.prog 216 = some 1 ∧ bytesT Try.prog 216 = some 8 ∧ aggT Try.prog 216 = some false ∧ elemT Try.prog 216 = none ∧ arrT Try.prog 216 = none ∧ intT Try.prog 216 = none ∧ boolT Try.prog 216 = false ∧ stringT Try.prog 216 = false ∧ sliceT Try.prog 216 = false ∧ ptrT Try.prog 216 = true ∧ zeroT Try.prog 216 = some [.nilp] ∧ u8T Try.prog 216 = false ∧ placesT Try.prog 216 = none := ⟨by kernel_rfl, by kernel_rfl, by kernel_rfl, by kernel_rfl, by kernel_rfl, by kernel_rfl, by kernel_rfl, by kernel_rfl, by kernel_rfl, by kernel_rfl, by kernel_rfl, by kernel_rfl, by kernel_rfl⟩
theorem ty_217 : sizeT Try.prog 217 = some 1 ∧ bytesT Try.prog 217 = some 24 ∧ aggT Try.prog 217 = some false ∧ elemT Try.prog 217 = some 221 ∧ arrT Try.prog 217 = none ∧ intT Try.prog 217 = none ∧ boolT Try.prog 217 = false ∧ stringT Try.prog 217 = false ∧ sliceT Try.prog 217 = true ∧ zeroT Try.prog 217 = some [.nils] ∧ zeroImT Try.prog 217 = some [(.sl [])] ∧ u8T Try.prog 217 = false ∧ zeroOne Try.prog 217 = some (.sl []) ∧ placesT Try.prog 217 = none := ⟨by kernel_rfl, by kernel_rfl, by kernel_rfl, by kernel_rfl, by kernel_rfl, by kernel_rfl, by kernel_rfl, by kernel_rfl, by kernel_rfl, by kernel_rfl, by kernel_rfl, by kernel_rfl, by kernel_rfl, by kernel_rfl⟩
theorem ty_219 : sizeT Try.prog 219 = some 9 ∧ bytesT Try.prog 219 = some 184 ∧ aggT Try.prog 219 = some true ∧ elemT Try.prog 219 = none ∧ arrT Try.prog 219 = none ∧ intT Try.prog 219 = none ∧ boolT Try.prog 219 = false ∧ stringT Try.prog 219 = false ∧ sliceT Try.prog 219 = false ∧ zeroT Try.prog 219 = some [.nils, .nils, .nils, .nils, .nils, .nils, .nils, .im (.int .i64 0), .im (.int .i64 0)] ∧ zeroImT Try.prog 219 = some [(.sl []), (.sl []), (.sl []), (.sl []), (.sl []), (.sl []), (.sl []), (.int .i64 0), (.int .i64 0)] ∧ u8T Try.prog 219 = false ∧ placesT Try.prog 219 = some [(0, 1), (1, 1), (2, 1), (3, 1), (4, 1), (5, 1), (6, 1), (7, 1), (8, 1)] ∧ fieldT Try.prog 219 0 = some (0, 1) ∧ fieldT Try.prog 219 1 = some (1, 1) ∧ fieldT Try.prog 219 2 = some (2, 1) ∧ fieldT Try.prog 219 3 = some (3, 1) ∧ fieldT Try.prog 219 4 = some (4, 1) ∧ fieldT Try.prog 219 5 = some (5, 1) ∧ fieldT Try.prog 219 6 = some (6, 1) ∧ fieldT Try.prog 219 7 = some (7, 1) ∧ fieldT Try.prog 219 8 = some (8, 1) := ⟨by kernel_rfl, by kernel_rfl, by kernel_rfl, by kernel_rfl, by kernel_rfl, by kernel_rfl, by kernel_rfl, by kernel_rfl, by kernel_rfl, by kernel_rfl, by kernel_rfl, by kernel_rfl, by kernel_rfl, by kernel_rfl, by kernel_rfl, by kernel_rfl, by kernel_rfl, by kernel_rfl, by kernel_rfl, by kernel_rfl, by kernel_rfl, by kernel_rfl⟩
theorem ty_221 : sizeT Try.prog 221 = some 1 ∧ bytesT Try.prog 221 = some 1 ∧ aggT Try.prog 221 = some false ∧ elemT Try.prog 221 = none ∧ arrT Try.prog 221 = none ∧ intT Try.prog 221 = some .i8 ∧ boolT Try.prog 221 = false ∧ stringT Try.prog 221 = false ∧ sliceT Try.prog 221 = false ∧ Program.underlying Try.prog 221 = some (.int .i8) ∧ zeroT Try.prog 221 = some [.im (.int .i8 0)] ∧ zeroImT Try.prog 221 = some [(.int .i8 0)] ∧ u8T Try.prog 221 = false ∧ zeroOne Try.prog 221 = some (.int .i8 0) ∧ placesT Try.prog 221 = none := ⟨by kernel_rfl, by kernel_rfl, by kernel_rfl, by kernel_rfl, by kernel_rfl, by kernel_rfl, by kernel_rfl, by kernel_rfl, by kernel_rfl, by kernel_rfl, by kernel_rfl, by kernel_rfl, by kernel_rfl, by kernel_rfl, by kernel_rfl⟩
theorem ty_259 : sizeT Try.prog 259 = some 1 ∧ bytesT Try.prog 259 = some 8 ∧ aggT Try.prog 259 = some false ∧ elemT Try.prog 259 = none ∧ arrT Try.prog 259 = none ∧ intT Try.prog 259 = some .i64 ∧ boolT Try.prog 259 = false ∧ stringT Try.prog 259 = false ∧ sliceT Try.prog 259 = false ∧ Program.underlying Try.prog 259 = some (.int .i64) ∧ zeroT Try.prog 259 = some [.im (.int .i64 0)] ∧ zeroImT Try.prog 259 = some [(.int .i64 0)] ∧ u8T Try.prog 259 = false ∧ zeroOne Try.prog 259 = some (.int .i64 0) ∧ placesT Try.prog 259 = none := ⟨by kernel_rfl, by kernel_rfl, by kernel_rfl, by kernel_rfl, by kernel_rfl, by kernel_rfl, by kernel_rfl, by kernel_rfl, by kernel_rfl, by kernel_rfl, by kernel_rfl, by kernel_rfl, by kernel_rfl, by kernel_rfl, by kernel_rfl⟩
theorem ty_266 : sizeT Try.prog 266 = some 1 ∧ bytesT Try.prog 266 = some 4 ∧ aggT Try.prog 266 = some false ∧ elemT Try.prog 266 = none ∧ arrT Try.prog 266 = none ∧ intT Try.prog 266 = some .u32 ∧ boolT Try.prog 266 = false ∧ stringT Try.prog 266 = false ∧ sliceT Try.prog 266 = false ∧ Program.underlying Try.prog 266 = some (.int .u32) ∧ zeroT Try.prog 266 = some [.im (.int .u32 0)] ∧ zeroImT Try.prog 266 = some [(.int .u32 0)] ∧ u8T Try.prog 266 = false ∧ zeroOne Try.prog 266 = some (.int .u32 0) ∧ placesT Try.prog 266 = none := ⟨by kernel_rfl, by kernel_rfl, by kernel_rfl, by kernel_rfl, by kernel_rfl, by kernel_rfl, by kernel_rfl, by kernel_rfl, by kernel_rfl, by kernel_rfl, by kernel_rfl, by kernel_rfl, by kernel_rfl, by kernel_rfl, by kernel_rfl⟩
end Go.Proofs.YtdgpmopcmacicaaPi

/- The walks of the drawing functions (Below, Next). -/
set_option linter.unusedVariables false
set_option linter.unusedSimpArgs false
set_option maxRecDepth 100000
namespace Go.Proofs.YtdgpmopcmacicaaPi

abbrev I64 (x : Int) : Prop := -9223372036854775808 ≤ x ∧ x ≤ 9223372036854775807
theorem wrap64 {x : Int} (h : I64 x) : IntKind.i64.wrap x = x := by
  unfold IntKind.wrap
  simp only [IntKind.bits, IntKind.signed]
  simp
  omega
abbrev PV.i (x : Int) : PV := .im (.int .i64 x)
def below (x n : Int) : Int := if n < 1 then 0 else x % n
theorem Below_ok (x n : Int) (hx : I64 x) (hn : I64 n) (up : Frs) : ACalls Try.prog 11 [.i x, .i n] up fun v u => v = .i (below x n) ∧ u = up := by
  refine ACalls.code Try.func11 rfl 16 rfl (by simp) [.tmp 4] rfl fun Q hQ => ?_
  simp only [ups, PV.up, argEnv]
  refine Run.seq ?_
  refine Run.region rfl fun K hK => GOps.run ?_
  simp only [lookupV, updateV, lookupK, updateK, slicePV, pe0, pe1, pe2, pe3, pe4, pe5, pe6, pe7, pr0, pr1, Nat.reduceAdd, Nat.reduceMul, Nat.reduceLeDiff, Nat.reduceLT, Nat.reduceEqDiff, Nat.reduceBEq, Nat.reduceSub, reduceCtorEq, reduceIte, Int.reduceToNat, Int.reduceLE, Int.reduceEq, Int.reduceNe, Int.reduceBEq, Int.reduceBNe, Int.reduceLT, Int.reduceGT, Int.reduceGE, Int.reduceNeg, ty_3, ty_4]
  refine GOps.done (hK _ ?_); clear hK K
  refine End.keep [0, 1] ?_
  simp only [pk0, Nat.reduceBEq, reduceIte]
  refine Run.seq ?_
  refine Run.seq ?_
  refine Run.region rfl fun K hK => GOps.run ?_
  simp only [lookupV, updateV, lookupK, updateK, slicePV, pe0, pe1, pe2, pe3, pe4, pe5, pe6, pe7, pr0, pr1, Nat.reduceAdd, Nat.reduceMul, Nat.reduceLeDiff, Nat.reduceLT, Nat.reduceEqDiff, Nat.reduceBEq, Nat.reduceSub, reduceCtorEq, reduceIte, Int.reduceToNat, Int.reduceLE, Int.reduceEq, Int.reduceNe, Int.reduceBEq, Int.reduceBNe, Int.reduceLT, Int.reduceGT, Int.reduceGE, Int.reduceNeg, ty_3, ty_4]
  refine GOps.done (hK _ ?_); clear hK K
  refine End.keep [0, 1, 6] ?_
  simp only [pk0, Nat.reduceBEq, reduceIte]
  refine Run.cond _ rfl (fun hb => ?_) (fun hb => ?_)
  · have hb := of_decide_eq_true hb
    refine Run.seq ?_
    refine Run.region rfl fun K hK => GOps.run ?_
    simp only [lookupV, updateV, lookupK, updateK, slicePV, pe0, pe1, pe2, pe3, pe4, pe5, pe6, pe7, pr0, pr1, Nat.reduceAdd, Nat.reduceMul, Nat.reduceLeDiff, Nat.reduceLT, Nat.reduceEqDiff, Nat.reduceBEq, Nat.reduceSub, reduceCtorEq, reduceIte, Int.reduceToNat, Int.reduceLE, Int.reduceEq, Int.reduceNe, Int.reduceBEq, Int.reduceBNe, Int.reduceLT, Int.reduceGT, Int.reduceGE, Int.reduceNeg, ty_3, ty_4]
    refine GOps.done (hK _ ?_); clear hK K
    refine End.keep [4] ?_
    simp only [pk0, Nat.reduceBEq, reduceIte]
    refine Run.ret (hQ _ _ ⟨.inr rfl, _, rfl, _, rfl, ?_⟩)
    simp [below, hb]
  · have hb := of_decide_eq_false hb
    have hn0 : ¬ n = 0 := by omega
    have ht : x.tmod n = if x < 0 then (if x % n = 0 then 0 else x % n - n) else x % n := by
      rw [Int.tmod_eq_emod]
      have h1 : n.natAbs = n := by omega
      by_cases h0 : x < 0
      · by_cases h2 : n ∣ x
        · have := Int.emod_eq_zero_of_dvd h2
          simp [h2, h0, this]
        · have : ¬ x % n = 0 := fun e => h2 (Int.dvd_of_emod_eq_zero e)
          rw [if_neg (by omega), if_pos h0, if_neg this]
          omega
      · rw [if_pos (by omega), if_neg h0]
        omega
    have hm0 := Int.emod_nonneg x hn0
    have hm1 := Int.emod_lt_of_pos x (show 0 < n by omega)
    refine Run.skip ?_
    refine End.keep [0, 1] ?_
    simp only [pk0, Nat.reduceBEq, reduceIte]
    refine Run.seq ?_
    refine Run.region rfl fun K hK => GOps.run ?_
    simp only [lookupV, updateV, lookupK, updateK, slicePV, pe0, pe1, pe2, pe3, pe4, pe5, pe6, pe7, pr0, pr1, Nat.reduceAdd, Nat.reduceMul, Nat.reduceLeDiff, Nat.reduceLT, Nat.reduceEqDiff, Nat.reduceBEq, Nat.reduceSub, reduceCtorEq, reduceIte, Int.reduceToNat, Int.reduceLE, Int.reduceEq, Int.reduceNe, Int.reduceBEq, Int.reduceBNe, Int.reduceLT, Int.reduceGT, Int.reduceGE, Int.reduceNeg, ty_3, ty_4, hn0]
    refine GOps.done (hK _ ?_); clear hK K
    refine End.keep [0, 1] ?_
    simp only [pk0, Nat.reduceBEq, reduceIte]
    refine Run.seq ?_
    refine Run.seq ?_
    refine Run.region rfl fun K hK => GOps.run ?_
    simp only [lookupV, updateV, lookupK, updateK, slicePV, pe0, pe1, pe2, pe3, pe4, pe5, pe6, pe7, pr0, pr1, Nat.reduceAdd, Nat.reduceMul, Nat.reduceLeDiff, Nat.reduceLT, Nat.reduceEqDiff, Nat.reduceBEq, Nat.reduceSub, reduceCtorEq, reduceIte, Int.reduceToNat, Int.reduceLE, Int.reduceEq, Int.reduceNe, Int.reduceBEq, Int.reduceBNe, Int.reduceLT, Int.reduceGT, Int.reduceGE, Int.reduceNeg, ty_3, ty_4]
    refine GOps.done (hK _ ?_); clear hK K
    refine End.keep [0, 1, 11] ?_
    simp only [pk0, Nat.reduceBEq, reduceIte]
    refine Run.cond _ rfl (fun hb => ?_) (fun hb => ?_)
    · have hc := of_decide_eq_true hb
      refine Run.region rfl fun K hK => GOps.run ?_
      simp only [lookupV, updateV, lookupK, updateK, slicePV, pe0, pe1, pe2, pe3, pe4, pe5, pe6, pe7, pr0, pr1, Nat.reduceAdd, Nat.reduceMul, Nat.reduceLeDiff, Nat.reduceLT, Nat.reduceEqDiff, Nat.reduceBEq, Nat.reduceSub, reduceCtorEq, reduceIte, Int.reduceToNat, Int.reduceLE, Int.reduceEq, Int.reduceNe, Int.reduceBEq, Int.reduceBNe, Int.reduceLT, Int.reduceGT, Int.reduceGE, Int.reduceNeg, ty_3, ty_4]
      refine GOps.done (hK _ ?_); clear hK K
      refine End.keep [0] ?_
      simp only [pk0, Nat.reduceBEq, reduceIte]
      refine Run.seq ?_
      refine Run.region rfl fun K hK => GOps.run ?_
      simp only [lookupV, updateV, lookupK, updateK, slicePV, pe0, pe1, pe2, pe3, pe4, pe5, pe6, pe7, pr0, pr1, Nat.reduceAdd, Nat.reduceMul, Nat.reduceLeDiff, Nat.reduceLT, Nat.reduceEqDiff, Nat.reduceBEq, Nat.reduceSub, reduceCtorEq, reduceIte, Int.reduceToNat, Int.reduceLE, Int.reduceEq, Int.reduceNe, Int.reduceBEq, Int.reduceBNe, Int.reduceLT, Int.reduceGT, Int.reduceGE, Int.reduceNeg, ty_3, ty_4]
      refine GOps.done (hK _ ?_); clear hK K
      refine End.keep [4] ?_
      simp only [pk0, Nat.reduceBEq, reduceIte]
      refine Run.ret (hQ _ _ ⟨.inr rfl, _, rfl, _, rfl, ?_⟩)
      refine ⟨?_, rfl⟩
      have e : x.tmod n + n = x % n := by
        rw [ht] at hc ⊢
        split at hc
        · split at hc
          · omega
          · rename_i h1 h2; rw [if_pos h1, if_neg h2]; omega
        · omega
      rw [e, wrap64 (by omega)]
      simp [below, hb, show ¬ n < 1 by omega]
    · have hc := of_decide_eq_false hb
      refine Run.skip ?_
      refine End.keep [0] ?_
      simp only [pk0, Nat.reduceBEq, reduceIte]
      refine Run.seq ?_
      refine Run.region rfl fun K hK => GOps.run ?_
      simp only [lookupV, updateV, lookupK, updateK, slicePV, pe0, pe1, pe2, pe3, pe4, pe5, pe6, pe7, pr0, pr1, Nat.reduceAdd, Nat.reduceMul, Nat.reduceLeDiff, Nat.reduceLT, Nat.reduceEqDiff, Nat.reduceBEq, Nat.reduceSub, reduceCtorEq, reduceIte, Int.reduceToNat, Int.reduceLE, Int.reduceEq, Int.reduceNe, Int.reduceBEq, Int.reduceBNe, Int.reduceLT, Int.reduceGT, Int.reduceGE, Int.reduceNeg, ty_3, ty_4]
      refine GOps.done (hK _ ?_); clear hK K
      refine End.keep [4] ?_
      simp only [pk0, Nat.reduceBEq, reduceIte]
      refine Run.ret (hQ _ _ ⟨.inr rfl, _, rfl, _, rfl, ?_⟩)
      refine ⟨?_, rfl⟩
      have e : x.tmod n = x % n := by
        rw [ht] at hc ⊢
        split at hc
        · split at hc
          · rename_i h1 h2; rw [if_pos h1, if_pos h2, h2]
          · omega
        · rename_i h1; rw [if_neg h1]
      rw [e]
      simp [below, show ¬ n < 1 by omega]
abbrev ints (l : List Int) : List (List Im) := l.map fun x => [.int .i64 x]
/-- A stream of numbers: the list, and how many were drawn. -/
abbrev stm (l : List Int) (a : Int) : AObj := .box [.im (.sl (ints l)), .i a]
def nextV (l : List Int) (a n : Int) : Int :=
  if l = [] then below ((a + 1) * 7919) n else below (below (l.getD (a % l.length).toNat 0) 1073741824 + a / l.length * (7919 + a % l.length)) n
theorem ints_len (l : List Int) : (ints l).length = l.length := by simp
theorem ints_get (l : List Int) (i : Nat) (h : i < l.length) : (ints l)[i]? = some [.int .i64 (l.getD i 0)] := by simp [h]
structure StmOk (l : List Int) (a : Int) : Prop where
  vals : ∀ x ∈ l, I64 x
  len : l.length ≤ 9223372036854775807
  pos : 0 ≤ a
  few : a < 1099511627776
theorem Next_ok (l : List Int) (a n : Int) (hs : StmOk l a) (hn : I64 n) (up : Frs) (d j : Nat) (hl : fget up d j = some (stm l a)) : ACalls Try.prog 13 [.ptr d j 0, .i n] up fun v u => v = .i (nextV l a n) ∧ u = fset up d j (stm l (a + 1)) := by
  have hset : ∀ o, fget (fset up d j o) d j = some o := fun o => fget_fset_same _ _ _ _ _ hl
  have hw1 : IntKind.i64.wrap (a + 1) = a + 1 := wrap64 (by have := hs.pos; have := hs.few; omega)
  have hw2 : IntKind.i64.wrap ((a + 1) * 7919) = (a + 1) * 7919 := wrap64 (by have := hs.pos; have := hs.few; omega)
  refine ACalls.code Try.func13 rfl 64 rfl (by simp) [.tmp 4] rfl fun Q hQ => ?_
  simp only [ups, PV.up, argEnv]
  refine Run.seq ?_
  refine Run.region rfl fun K hK => GOps.run ?_
  simp only [lookupV, updateV, lookupK, updateK, slicePV, pe0, pe1, pe2, pe3, pe4, pe5, pe6, pe7, pr0, pr1, Nat.reduceAdd, Nat.reduceMul, Nat.reduceLeDiff, Nat.reduceLT, Nat.reduceEqDiff, Nat.reduceBEq, Nat.reduceSub, reduceCtorEq, reduceIte, Int.reduceToNat, Int.reduceLE, Int.reduceEq, Int.reduceNe, Int.reduceBEq, Int.reduceBNe, Int.reduceLT, Int.reduceGT, Int.reduceGE, Int.reduceNeg, ty_3, ty_4, ty_22, ty_23, ty_25, hl, hset, hw1, hw2, ints_len]
  refine GOps.done (hK _ ?_); clear hK K
  refine End.keep [0, 1] ?_
  simp only [pk0, Nat.reduceBEq, reduceIte]
  refine Run.seq ?_
  refine Run.region rfl fun K hK => GOps.run ?_
  simp only [lookupV, updateV, lookupK, updateK, slicePV, pe0, pe1, pe2, pe3, pe4, pe5, pe6, pe7, pr0, pr1, Nat.reduceAdd, Nat.reduceMul, Nat.reduceLeDiff, Nat.reduceLT, Nat.reduceEqDiff, Nat.reduceBEq, Nat.reduceSub, reduceCtorEq, reduceIte, Int.reduceToNat, Int.reduceLE, Int.reduceEq, Int.reduceNe, Int.reduceBEq, Int.reduceBNe, Int.reduceLT, Int.reduceGT, Int.reduceGE, Int.reduceNeg, ty_3, ty_4, ty_22, ty_23, ty_25, hl, hset, hw1, hw2, ints_len]
  refine GOps.done (hK _ ?_); clear hK K
  refine End.keep [0, 1] ?_
  simp only [pk0, Nat.reduceBEq, reduceIte]
  refine Run.seq ?_
  refine Run.seq ?_
  refine Run.region rfl fun K hK => GOps.run ?_
  simp only [lookupV, updateV, lookupK, updateK, slicePV, pe0, pe1, pe2, pe3, pe4, pe5, pe6, pe7, pr0, pr1, Nat.reduceAdd, Nat.reduceMul, Nat.reduceLeDiff, Nat.reduceLT, Nat.reduceEqDiff, Nat.reduceBEq, Nat.reduceSub, reduceCtorEq, reduceIte, Int.reduceToNat, Int.reduceLE, Int.reduceEq, Int.reduceNe, Int.reduceBEq, Int.reduceBNe, Int.reduceLT, Int.reduceGT, Int.reduceGE, Int.reduceNeg, ty_3, ty_4, ty_22, ty_23, ty_25, hl, hset, hw1, hw2, ints_len]
  refine GOps.done (hK _ ?_); clear hK K
  refine End.keep [0, 1, 19] ?_
  simp only [pk0, Nat.reduceBEq, reduceIte]
  refine Run.cond _ rfl (fun hb => ?_) (fun hb => ?_)
  · have hb := hb
    refine Run.seq ?_
    -- region 3: call F35(t24, t25) : 3,3
    refine Run.region rfl fun K hK => GOps.run ?_
    simp only [lookupV, updateV, lookupK, updateK, slicePV, pe0, pe1, pe2, pe3, pe4, pe5, pe6, pe7, pr0, pr1, Nat.reduceAdd, Nat.reduceMul, Nat.reduceLeDiff, Nat.reduceLT, Nat.reduceEqDiff, Nat.reduceBEq, Nat.reduceSub, reduceCtorEq, reduceIte, Int.reduceToNat, Int.reduceLE, Int.reduceEq, Int.reduceNe, Int.reduceBEq, Int.reduceBNe, Int.reduceLT, Int.reduceGT, Int.reduceGE, Int.reduceNeg, ty_3, ty_4, ty_22, ty_23, ty_25, hl, hset, hw1, hw2, ints_len]
    refine GOps.call rfl rfl rfl rfl (by kernel_rfl) ?_  -- call F35(t24, t25) : 3,3
    simp only [lookupV, updateV, lookupK, updateK, slicePV, pe0, pe1, pe2, pe3, pe4, pe5, pe6, pe7, pr0, pr1, Nat.reduceAdd, Nat.reduceMul, Nat.reduceLeDiff, Nat.reduceLT, Nat.reduceEqDiff, Nat.reduceBEq, Nat.reduceSub, reduceCtorEq, reduceIte, Int.reduceToNat, Int.reduceLE, Int.reduceEq, Int.reduceNe, Int.reduceBEq, Int.reduceBNe, Int.reduceLT, Int.reduceGT, Int.reduceGE, Int.reduceNeg, hw2]
    refine (Below_ok ((a + 1) * 7919) n (by have := hs.pos; have := hs.few; constructor <;> omega) hn _).mono fun v u hv => ?_
    obtain ⟨rfl, rfl⟩ := hv
    refine ⟨_, _, rfl, GOps.run ?_⟩
    simp only [lookupV, updateV, lookupK, updateK, slicePV, pe0, pe1, pe2, pe3, pe4, pe5, pe6, pe7, pr0, pr1, Nat.reduceAdd, Nat.reduceMul, Nat.reduceLeDiff, Nat.reduceLT, Nat.reduceEqDiff, Nat.reduceBEq, Nat.reduceSub, reduceCtorEq, reduceIte, Int.reduceToNat, Int.reduceLE, Int.reduceEq, Int.reduceNe, Int.reduceBEq, Int.reduceBNe, Int.reduceLT, Int.reduceGT, Int.reduceGE, Int.reduceNeg, ty_3, ty_4, ty_22, ty_23, ty_25, hl, hset, hw1, hw2, ints_len]
    refine GOps.done (hK _ ?_); clear hK K
    refine End.keep [4] ?_
    simp only [pk0, Nat.reduceBEq, reduceIte]
    refine Run.ret (hQ _ _ ⟨.inr rfl, _, rfl, _, rfl, ?_⟩)
    have h0 : l = [] := by simpa using hb
    exact ⟨by simp [nextV, h0], rfl⟩
  · have hne : l ≠ [] := fun e => by subst e; simp at hb
    have hpos : 0 < l.length := List.length_pos_iff.2 hne
    have hlz : ¬ ((l.length : Int) = 0) := by omega
    have hp := hs.pos
    have hf := hs.few
    have hll := hs.len
    have hw3 : IntKind.i64.wrap (a + 1 - 1) = a := by rw [show a + 1 - 1 = a by omega]; exact wrap64 (by omega)
    have hm : a.tmod l.length = a % l.length := Int.tmod_eq_emod_of_nonneg hp
    have hd : a.tdiv l.length = a / l.length := Int.tdiv_eq_ediv_of_nonneg hp
    have hm0 := Int.emod_nonneg a hlz
    have hm1 := Int.emod_lt_of_pos a (show (0 : Int) < l.length by omega)
    have hd0 : 0 ≤ a / l.length := Int.ediv_nonneg hp (by omega)
    have hia : a % l.length ≤ a := by
      have h2 := Int.mul_ediv_add_emod a l.length
      have h3 : 0 ≤ (l.length : Int) * (a / l.length) := Int.mul_nonneg (by omega) hd0
      omega
    have hd1 : a / l.length ≤ a := Int.ediv_le_self _ hp
    have hw4 : IntKind.i64.wrap (a / l.length) = a / l.length := wrap64 (by omega)
    have hlt : (a % l.length).toNat < l.length := by omega
    have hx := ints_get l (a % l.length).toNat hlt
    generalize hi : a % (l.length : Int) = i at *
    generalize hr : a / (l.length : Int) = r at *
    have hmul : r * (7919 + i) ≤ 10000000000000000 := by
      have h1 : r * i ≤ a := by
        have h2 := Int.mul_ediv_add_emod a l.length
        rw [hi, hr] at h2
        have h3 : r * i ≤ r * l.length := Int.mul_le_mul_of_nonneg_left (by omega) hd0
        rw [Int.mul_comm] at h2
        omega
      rw [Int.mul_add]
      omega
    have hmul0 : 0 ≤ r * (7919 + i) := Int.mul_nonneg hd0 (by omega)
    have hb1 : 0 ≤ below (l.getD i.toNat 0) 1073741824 ∧ below (l.getD i.toNat 0) 1073741824 < 1073741824 := by
      simp only [below]
      rw [if_neg (by decide)]
      exact ⟨Int.emod_nonneg _ (by decide), Int.emod_lt_of_pos _ (by decide)⟩
    have hw7 : IntKind.i64.wrap (below (l.getD i.toNat 0) 1073741824 + r * (7919 + i)) = below (l.getD i.toNat 0) 1073741824 + r * (7919 + i) := wrap64 (by omega)
    have hw5 : IntKind.i64.wrap (7919 + i) = 7919 + i := wrap64 (by omega)
    have hw6 : IntKind.i64.wrap (r * (7919 + i)) = r * (7919 + i) := wrap64 (by omega)
    refine Run.skip ?_
    refine End.keep [0, 1] ?_
    simp only [pk0, Nat.reduceBEq, reduceIte]
    refine Run.seq ?_
    refine Run.draw [[], [0], [0, 1], [0, 1, 2], [0, 1, 2, 3], [], [5], [5, 6], [5, 6, 7], [5, 6, 7, 8], [0, 1, 2, 3, 4, 5, 6, 7, 8, 9], [0, 1, 2, 3, 4, 5, 6, 7, 8, 9, 10]] (by kernel_rfl) rfl (by kernel_rfl) (by kernel_rfl) fun K hK => DOps.run ?_
    simp only [lookupV, updateV, lookupK, updateK, slicePV, pe0, pe1, pe2, pe3, pe4, pe5, pe6, pe7, pr0, pr1, Nat.reduceAdd, Nat.reduceMul, Nat.reduceLeDiff, Nat.reduceLT, Nat.reduceEqDiff, Nat.reduceBEq, Nat.reduceSub, reduceCtorEq, reduceIte, Int.reduceToNat, Int.reduceLE, Int.reduceEq, Int.reduceNe, Int.reduceBEq, Int.reduceBNe, Int.reduceLT, Int.reduceGT, Int.reduceGE, Int.reduceNeg, ty_3, ty_4, ty_22, ty_23, ty_25, hl, hset, hw1, hw3, ints_len, hlz, hm, hd, hw4, hw5, hw6, hx, hm0, hw7]
    refine DOps.nil (metAll_quiet rfl) (hK _ ?_); clear hK K
    refine End.keep [0, 1, 5] ?_
    simp only [pk0, Nat.reduceBEq, reduceIte]
    refine Run.seq ?_
    refine Run.draw [[], [0], [0, 1], [0, 1, 2], [0, 1, 2, 3], [], [5], [5, 6], [5, 6, 7], [5, 6, 7, 8], [0, 1, 2, 3, 4, 5, 6, 7, 8, 9], [0, 1, 2, 3, 4, 5, 6, 7, 8, 9, 10]] (by kernel_rfl) rfl (by kernel_rfl) (by kernel_rfl) fun K hK => DOps.run ?_
    simp only [lookupV, updateV, lookupK, updateK, slicePV, pe0, pe1, pe2, pe3, pe4, pe5, pe6, pe7, pr0, pr1, Nat.reduceAdd, Nat.reduceMul, Nat.reduceLeDiff, Nat.reduceLT, Nat.reduceEqDiff, Nat.reduceBEq, Nat.reduceSub, reduceCtorEq, reduceIte, Int.reduceToNat, Int.reduceLE, Int.reduceEq, Int.reduceNe, Int.reduceBEq, Int.reduceBNe, Int.reduceLT, Int.reduceGT, Int.reduceGE, Int.reduceNeg, ty_3, ty_4, ty_22, ty_23, ty_25, hl, hset, hw1, hw3, ints_len, hlz, hm, hd, hw4, hw5, hw6, hx, hm0, hw7]
    refine DOps.nil (metAll_quiet rfl) (hK _ ?_); clear hK K
    refine End.keep [0, 1, 5, 6] ?_
    simp only [pk0, Nat.reduceBEq, reduceIte]
    refine Run.seq ?_
    -- region 6: call F35(t55, 1073741824) : 3,3; call F35(t61, t62) : 3,3
    refine Run.region rfl fun K hK => GOps.run ?_
    simp only [lookupV, updateV, lookupK, updateK, slicePV, pe0, pe1, pe2, pe3, pe4, pe5, pe6, pe7, pr0, pr1, Nat.reduceAdd, Nat.reduceMul, Nat.reduceLeDiff, Nat.reduceLT, Nat.reduceEqDiff, Nat.reduceBEq, Nat.reduceSub, reduceCtorEq, reduceIte, Int.reduceToNat, Int.reduceLE, Int.reduceEq, Int.reduceNe, Int.reduceBEq, Int.reduceBNe, Int.reduceLT, Int.reduceGT, Int.reduceGE, Int.reduceNeg, ty_3, ty_4, ty_22, ty_23, ty_25, hl, hset, hw1, hw3, ints_len, hlz, hm, hd, hw4, hw5, hw6, hx, hm0, hw7]
    refine GOps.call rfl rfl rfl rfl (by kernel_rfl) ?_  -- call F35(t55, 1073741824) : 3,3
    refine (Below_ok (l.getD i.toNat 0) 1073741824 (by
      have hm : l.getD i.toNat 0 ∈ l := by rw [List.getD_eq_getElem?_getD, List.getElem?_eq_getElem hlt]; simp
      exact hs.vals _ hm) (by omega) _).mono fun v u hv => ?_
    obtain ⟨rfl, rfl⟩ := hv
    refine ⟨_, _, rfl, GOps.run ?_⟩
    simp only [lookupV, updateV, lookupK, updateK, slicePV, pe0, pe1, pe2, pe3, pe4, pe5, pe6, pe7, pr0, pr1, Nat.reduceAdd, Nat.reduceMul, Nat.reduceLeDiff, Nat.reduceLT, Nat.reduceEqDiff, Nat.reduceBEq, Nat.reduceSub, reduceCtorEq, reduceIte, Int.reduceToNat, Int.reduceLE, Int.reduceEq, Int.reduceNe, Int.reduceBEq, Int.reduceBNe, Int.reduceLT, Int.reduceGT, Int.reduceGE, Int.reduceNeg, ty_3, ty_4, ty_22, ty_23, ty_25, hl, hset, hw1, hw3, ints_len, hlz, hm, hd, hw4, hw5, hw6, hx, hm0, hw7]
    refine GOps.call rfl rfl rfl rfl (by kernel_rfl) ?_  -- call F35(t61, t62) : 3,3
    simp only [lookupV, updateV, lookupK, updateK, slicePV, pe0, pe1, pe2, pe3, pe4, pe5, pe6, pe7, pr0, pr1, Nat.reduceAdd, Nat.reduceMul, Nat.reduceLeDiff, Nat.reduceLT, Nat.reduceEqDiff, Nat.reduceBEq, Nat.reduceSub, reduceCtorEq, reduceIte, Int.reduceToNat, Int.reduceLE, Int.reduceEq, Int.reduceNe, Int.reduceBEq, Int.reduceBNe, Int.reduceLT, Int.reduceGT, Int.reduceGE, Int.reduceNeg, hw7]
    refine (Below_ok (below (l.getD i.toNat 0) 1073741824 + r * (7919 + i)) n (by omega) hn _).mono fun v u hv => ?_
    obtain ⟨rfl, rfl⟩ := hv
    refine ⟨_, _, rfl, GOps.run ?_⟩
    simp only [lookupV, updateV, lookupK, updateK, slicePV, pe0, pe1, pe2, pe3, pe4, pe5, pe6, pe7, pr0, pr1, Nat.reduceAdd, Nat.reduceMul, Nat.reduceLeDiff, Nat.reduceLT, Nat.reduceEqDiff, Nat.reduceBEq, Nat.reduceSub, reduceCtorEq, reduceIte, Int.reduceToNat, Int.reduceLE, Int.reduceEq, Int.reduceNe, Int.reduceBEq, Int.reduceBNe, Int.reduceLT, Int.reduceGT, Int.reduceGE, Int.reduceNeg, ty_3, ty_4, ty_22, ty_23, ty_25, hl, hset, hw1, hw3, ints_len, hlz, hm, hd, hw4, hw5, hw6, hx, hm0, hw7]
    refine GOps.done (hK _ ?_); clear hK K
    refine End.keep [4] ?_
    simp only [pk0, Nat.reduceBEq, reduceIte]
    refine Run.ret (hQ _ _ ⟨.inr rfl, _, rfl, _, rfl, ?_⟩)
    refine ⟨?_, rfl⟩
    simp only [nextV, if_neg hne, hi, hr]
end Go.Proofs.YtdgpmopcmacicaaPi

/- The walks of the functions that draw words, masks, picks and nets. -/
set_option linter.unusedVariables false
set_option linter.unusedSimpArgs false
namespace Go.Proofs.YtdgpmopcmacicaaPi
theorem below_range (x n : Int) (h : 1 ≤ n) : 0 ≤ below x n ∧ below x n < n := by
  unfold below
  rw [if_neg (by omega)]
  exact ⟨Int.emod_nonneg _ (by omega), Int.emod_lt_of_pos _ (by omega)⟩
theorem nextV_range (l : List Int) (a n : Int) (h : 1 ≤ n) : 0 ≤ nextV l a n ∧ nextV l a n < n := by
  unfold nextV
  split <;> exact below_range _ _ h
theorem StmOk.next {l : List Int} {a : Int} (h : StmOk l a) (hf : a + 1 < 1099511627776) : StmOk l (a + 1) := ⟨h.vals, h.len, by have := h.pos; omega, hf⟩
abbrev PV.u (x : Int) : PV := .im (.int .u64 x)
-- GONE word_ok
-- GONE mask_ok
-- GONE Pick_ok
-- GONE net_ok
end Go.Proofs.YtdgpmopcmacicaaPi

/- The walks of the function that draws names. -/
set_option linter.unusedVariables false
set_option linter.unusedSimpArgs false
set_option maxRecDepth 100000
namespace Go.Proofs.YtdgpmopcmacicaaPi

abbrev strs (l : List ByteArray) : List (List Im) := l.map fun s => [.str s]
end Go.Proofs.YtdgpmopcmacicaaPi

/- The walk of the function that draws a netlist. -/
set_option linter.unusedVariables false
set_option linter.unusedSimpArgs false
namespace Go.Proofs.YtdgpmopcmacicaaPi

set_option maxHeartbeats 2000000
structure LGate where
  table : Int
  ins : List Int
abbrev LGate.im (g : LGate) : List Im := [.int .i64 (-1), .int .u64 g.table, .sl (ints g.ins)]
structure LFlop where
  name : ByteArray
  d : Int
  en : Int
  init : Bool
abbrev LFlop.im (f : LFlop) : List Im := [.str f.name, .int .i64 (-1), .int .i64 f.d, .int .i64 f.en, .bool f.init]
structure LNet where
  inn : List ByteArray
  out : List ByteArray
  flops : List LFlop
  gates : List LGate
  outs : List Int
abbrev LNet.pv (n : LNet) : PV := .agg [.im (.sl (strs n.inn)), .im (.sl (strs n.out)), .im (.sl (n.flops.map LFlop.im)), .im (.sl (n.gates.map LGate.im)), .im (.sl (ints n.outs))]
-- GONE Netlist_ok
end Go.Proofs.YtdgpmopcmacicaaPi

/- The walks of small functions: ranges, bits, lanes, numbers of nets, masks, clones. -/
set_option linter.unusedVariables false
set_option linter.unusedSimpArgs false
set_option maxRecDepth 100000
namespace Go.Proofs.YtdgpmopcmacicaaPi

abbrev bools (l : List Bool) : List (List Im) := l.map fun b => [.bool b]
theorem bools_len (l : List Bool) : (bools l).length = l.length := by simp
theorem bools_get (l : List Bool) (i : Nat) (h : i < l.length) : (bools l)[i]? = some [.bool (l.getD i false)] := by simp [h]
theorem wsucc {i n : Nat} (h : i < n) (hn : n ≤ 140737488355328) : IntKind.i64.wrap ((i : Int) + 1) = ((i + 1 : Nat) : Int) := by rw [wrap64 (by omega)]; omega
def valsV (l : List Int) : Nat → Int → List Bool
  | 0, _ => []
  | k + 1, a => (nextV l a 2 == 0) :: valsV l k (a + 1)
theorem valsV_len (l : List Int) : ∀ (k : Nat) (a : Int), (valsV l k a).length = k
  | 0, a => rfl
  | k + 1, a => by simp [valsV, valsV_len l k]
theorem Range_ok (low high : Int) (h1 : 0 ≤ low) (h2 : low ≤ high) (h3 : high ≤ 1000000) (l : List Int) (a : Int) (hs : StmOk l a) (hf : a + 1000 < 1099511627776) (up : Frs) (d j : Nat) (hl : fget up d j = some (stm l a)) : ACalls Try.prog 33 [.ptr d j 0, .i low, .i high] up fun v u => v = .i (low + nextV l a (high - low + 1)) ∧ u = fset up d j (stm l (a + 1)) := by
  have hset : ∀ o, fget (fset up d j o) d j = some o := fun o => fget_fset_same _ _ _ _ _ hl
  have hp := hs.pos
  
  obtain ⟨r0, r1⟩ := nextV_range l a (high - low + 1) (by omega)
  have w1 : IntKind.i64.wrap (high - low) = high - low := wrap64 (by omega)
  have w2 : IntKind.i64.wrap (high - low + 1) = high - low + 1 := wrap64 (by omega)
  have w3 : IntKind.i64.wrap (low + nextV l a (high - low + 1)) = low + nextV l a (high - low + 1) := wrap64 (by omega)
  refine ACalls.code Try.func33 rfl 19 rfl (by simp) [.tmp 6] rfl fun Q hQ => ?_
  simp only [ups, PV.up, argEnv]
  have ft := And.intro ty_3 (And.intro ty_4 (And.intro ty_23 trivial))
  refine Run.seq ?_
  have fx := And.intro w3 (And.intro w2 (And.intro w1 (And.intro hset (And.intro hl ft))))
  refine Run.go ?_
  refine End.kp [0, 1, 2] ?_
  refine Run.seq ?_
  refine Run.seq ?_
  refine Run.go ?_
  refine End.kp [0, 1, 2, 9] ?_
  refine Run.cond _ rfl (fun hb => ?_) (fun hb => ?_)
  · have hb := of_decide_eq_true hb
    omega
  · have hb := of_decide_eq_false hb
    refine Run.skip ?_
    refine End.kp [0, 1, 2] ?_
    refine Run.seq ?_
    have fx := And.intro w3 (And.intro w2 (And.intro w1 (And.intro hset (And.intro hl ft))))
    refine Run.region rfl fun K hK => GOps.sim ?_
    refine GOps.call rfl rfl rfl rfl (by kernel_rfl) (ACalls.sim ?_)
    refine (Next_ok l a (high - low + 1) hs (by omega) _ (d + 1) j hl).mono fun v u hv => ?_
    obtain ⟨rfl, rfl⟩ := hv
    refine ⟨_, _, rfl, GOps.sim ?_⟩
    refine GOps.done (hK _ ?_); clear hK K
    refine End.kp [6] ?_
    refine Run.ret (hQ _ _ ⟨.inr rfl, _, rfl, _, rfl, ?_⟩)
    exact ⟨rfl, rfl⟩
theorem Values_ok (N : Nat) (hN : N ≤ 500) (l : List Int) (a : Int) (hs : StmOk l a) (hf : a + 1000 < 1099511627776) (up : Frs) (d j : Nat) (hl : fget up d j = some (stm l a)) : ACalls Try.prog 46 [.ptr d j 0, .i N] up fun v u => v = .im (.sl (bools (valsV l N a))) ∧ u = fset up d j (stm l (a + N)) := by
  have hset : ∀ o, fget (fset up d j o) d j = some o := fun o => fget_fset_same _ _ _ _ _ hl
  have hp := hs.pos
  refine ACalls.code Try.func46 rfl 17 rfl (by simp) [.tmp 4] rfl fun Q hQ => ?_
  simp only [ups, PV.up, argEnv]
  have ft := And.intro ty_3 (And.intro ty_4 (And.intro ty_23 (And.intro ty_71 trivial)))
  refine Run.seq ?_
  have fx := And.intro hset (And.intro hl ft)
  refine Run.go ?_
  refine End.kp [0, 1] ?_
  refine Run.seq ?_
  refine Run.go ?_
  refine End.kp [0, 1, 5] ?_
  refine Run.seq ?_
  refine Run.seq ?_
  refine Run.go ?_
  refine End.kp [0, 5, 6, 7] ?_
  refine Run.block ?_
  refine Run.ghost (Ghost.thaw (u := 5) 4 1 (by decide) rfl) ?_
  refine Run.ghost (Ghost.form [(0, .ptr (d + 1) j 0), (5, .ms 0 0 (0)), (6, .i N), (7, .i (0 : Nat))] 1 ⟨rfl, rfl, rfl, rfl, trivial⟩ rfl rfl) ?_
  refine Run.loop (fun m s => ∃ (i : Nat) (done : List Bool), m = N - i ∧ i ≤ N ∧ done.length = i ∧ done ++ valsV l (N - i) (a + i) = valsV l N a ∧
    s = ⟨[(0, .ptr (d + 1) j 0), (5, .ms 0 0 (i)), (6, .i N), (7, .i (i : Nat))], [.row 4 1 (bools done) 0], fset up d j (stm l (a + i))⟩) N ⟨0, [], rfl, by omega, rfl, by simp, by rw [show a + ((0 : Nat) : Int) = a by omega, fset_self up d j _ hl]; rfl⟩ fun m s hI => ?_
  obtain ⟨i, done, rfl, hi, hdl, hw1, rfl⟩ := hI
  have hsl : (bools done).length = i := by rw [bools_len, hdl]
  have hs0 : StmOk l (a + i) := ⟨hs.vals, hs.len, by omega, by omega⟩
  have hap : (i + 1) * 1 ≤ 140737488355328 := by omega
  refine Run.seq ?_
  have fx := And.intro hap (And.intro hsl (And.intro hset (And.intro hl ft)))
  refine Run.go ?_
  refine End.kp [0, 5, 6, 7, 8] ?_
  refine Run.seq ?_
  refine Run.cond _ rfl (fun hb => ?_) (fun hb => ?_)
  · have hb := of_decide_eq_true hb
    have hin : i < N := by omega
    have wi := wsucc hin (by omega)
    refine Run.skip ?_
    refine End.kp [0, 5, 6, 7] ?_
    refine Run.seq ?_
    refine Run.block ?_
    have fx := And.intro wi (And.intro hap (And.intro hsl (And.intro hset (And.intro hl ft))))
    refine Run.region rfl fun K hK => GOps.sim ?_
    refine GOps.call rfl rfl rfl rfl (by kernel_rfl) (ACalls.sim ?_)
    refine (Next_ok l (a + i) 2 hs0 (by omega) _ (d + 1) j (hset _)).mono fun v u hv => ?_
    obtain ⟨rfl, rfl⟩ := hv
    refine ⟨_, _, rfl, GOps.sim ?_⟩
    refine GOps.done (hK _ ?_); clear hK K
    refine End.blk ?_
    refine End.kp [0, 5, 6, 7] ?_
    refine Run.go ?_
    refine End.lp ?_
    have hvi : valsV l (N - i) (a + i) = (nextV l (a + i) 2 == 0) :: valsV l (N - (i + 1)) (a + ((i + 1 : Nat) : Int)) := by
      rw [show N - i = (N - (i + 1)) + 1 by omega, show a + ((i + 1 : Nat) : Int) = a + i + 1 by omega]
      rfl
    rw [hvi] at hw1
    refine ⟨N - (i + 1), _, by omega, Ghost.form [(0, .ptr (d + 1) j 0), (5, .ms 0 0 (i + 1)), (6, .i N), (7, .i (i + 1 : Nat))] 1 ⟨rfl, rfl, rfl, rfl, trivial⟩ rfl rfl, i + 1, done ++ [nextV l (a + i) 2 == 0], rfl, by omega, by simp [hdl], by simpa using hw1, ?_⟩
    rw [show a + ((i + 1 : Nat) : Int) = a + i + 1 by omega]
    simp
  · have hb := of_decide_eq_false hb
    have hiN : i = N := by omega
    subst hiN
    simp only [Nat.sub_self, valsV, List.append_nil] at hw1
    refine Run.exit rfl ?_
    refine End.kp [5] ?_
    refine Run.seq ?_
    refine Run.ghost (Ghost.shut (t := 5) (j := 0) rfl rfl hsl) ?_
    simp only [eput, edel]
    have fx := And.intro hap (And.intro hsl (And.intro hset (And.intro hl ft)))
    refine Run.go ?_
    refine End.kp [4] ?_
    refine Run.ret (hQ _ _ ⟨.inr rfl, _, rfl, _, rfl, ?_⟩)
    exact ⟨by rw [hw1], rfl⟩
end Go.Proofs.YtdgpmopcmacicaaPi

/- Plain: a solver of clauses, as numbers and lists. No program in sight. -/
set_option linter.unusedVariables false
set_option linter.unusedSimpArgs false
set_option linter.unusedSectionVars false
namespace Go.Proofs.YtdgpmopcmacicaaPi
/-- The index of a literal. -/
def atL (l : Int) : Nat := (if l < 0 then -2 * l + 1 else 2 * l).toNat
structure Sol where
  n : Nat
  cl : List (List Int)
  wl : List (List Nat)
  val : List Int
  lev : List Nat
  why : List Int
  tr : List Int
  st : List Nat
  head : Nat
  next : Nat
namespace Sol
def is (S : Sol) (l : Int) : Int := if l < 0 then -(S.val.getD l.natAbs 0) else S.val.getD l.natAbs 0
def sgn (l : Int) : Int := if l < 0 then -1 else 1
def set (S : Sol) (l w : Int) : Sol := { S with val := S.val.set l.natAbs (sgn l), lev := S.lev.set l.natAbs S.st.length, why := S.why.set l.natAbs w, tr := S.tr ++ [l] }
def push (wl : List (List Nat)) (i k : Nat) : List (List Nat) := wl.set i (wl.getD i [] ++ [k])
def add (S : Sol) (c : List Int) : Sol := { S with cl := S.cl ++ [c], wl := push (push S.wl (atL (c.getD 0 0)) S.cl.length) (atL (c.getD 1 0)) S.cl.length }
end Sol
/-- Literals of n variables. -/
def LitOk (n : Nat) (l : Int) : Prop := l ≠ 0 ∧ l.natAbs ≤ n
/-- What keeps the solver's memory in order. -/
structure SLen (S : Sol) : Prop where
  n : S.n ≤ 20000
  val : S.val.length = S.n + 1
  lev : S.lev.length = S.n + 1
  why : S.why.length = S.n + 1
  wl : S.wl.length = 2 * S.n + 2
  tri : ∀ x ∈ S.val, -1 ≤ x ∧ x ≤ 1
  tr : ∀ l ∈ S.tr, LitOk S.n l
  trn : S.tr.length ≤ S.n
  stn : S.st.length ≤ S.n
theorem atL_lt {n : Nat} {l : Int} (h : LitOk n l) : atL l < 2 * n + 2 := by
  have := h.2
  unfold atL
  split <;> omega
theorem atL_cast {n : Nat} {l : Int} (h : LitOk n l) : ((atL l : Nat) : Int) = if l < 0 then -2 * l + 1 else 2 * l := by
  unfold atL
  have := h.2
  split <;> omega
theorem getD_mem {α : Type} {l : List α} {i : Nat} {d : α} (h : i < l.length) : l.getD i d ∈ l := by
  rw [List.getD_eq_getElem?_getD, List.getElem?_eq_getElem h]
  exact List.getElem_mem h
theorem getD_some {α : Type} {l : List α} {i : Nat} (d : α) (h : i < l.length) : l[i]? = some (l.getD i d) := by
  rw [List.getD_eq_getElem?_getD, List.getElem?_eq_getElem h]
  rfl
end Go.Proofs.YtdgpmopcmacicaaPi

/- Plain: what follows by unit clauses, watched by two literals. No program in sight. -/
set_option linter.unusedVariables false
set_option linter.unusedSimpArgs false
set_option linter.unusedSectionVars false
namespace Go.Proofs.YtdgpmopcmacicaaPi
namespace Sol
def swapAt (c : List Int) (i j : Nat) : List Int := (c.set i (c.getD j 0)).set j (c.getD i 0)
/-- The first literal from j on that is not false. -/
def scan (S : Sol) (c : List Int) (j : Nat) : Nat := if h : j < c.length ∧ S.is (c.getD j 0) = -1 then scan S c (j + 1) else j
termination_by c.length - j
def turn (l : Int) (c : List Int) : List Int := if c.getD 0 0 = l then swapAt c 0 1 else c
def putC (S : Sol) (k : Nat) (c : List Int) : Sol := { S with cl := S.cl.set k c }
/-- One clause of a watch list: the solver, the list that is kept, whether the clause is false. -/
def visit (l : Int) (S : Sol) (kept : List Nat) (k : Nat) : Sol × List Nat × Bool :=
  let c := turn l (S.cl.getD k [])
  if S.is (c.getD 0 0) = 1 then (putC S k c, kept ++ [k], false)
  else
    let j := scan S c 2
    if j < c.length then
      let c' := swapAt c 1 j
      ({ putC S k c' with wl := push S.wl (atL (c'.getD 1 0)) k }, kept, false)
    else if S.is (c.getD 0 0) = -1 then (putC S k c, kept ++ [k], true)
    else ((putC S k c).set (c.getD 0 0) k, kept ++ [k], false)
def putW (S : Sol) (i : Nat) (ks : List Nat) : Sol := { S with wl := S.wl.set i ks }
/-- A watch list, from some clause on. -/
def inner (l : Int) : List Nat → Sol → List Nat → Sol × Option Nat
  | [], S, kept => (putW S (atL l) kept, none)
  | k :: ks, S, kept => match visit l S kept k with
    | (S', kept', true) => (putW S' (atL l) (kept' ++ ks), some k)
    | (S', kept', false) => inner l ks S' kept'
/-- What follows. -/
def spread : Nat → Sol → Sol × Option Nat
  | 0, S => (S, none)
  | f + 1, S => if S.head < S.tr.length then
      (match inner (-(S.tr.getD S.head 0)) (S.wl.getD (atL (-(S.tr.getD S.head 0))) []) { S with head := S.head + 1 } [] with
        | (S', some k) => (S', some k)
        | (S', none) => spread f S')
    else (S, none)
end Sol
theorem nodup_len : ∀ (n : Nat) (l : List Nat), l.Nodup → (∀ x ∈ l, 1 ≤ x ∧ x ≤ n) → l.length ≤ n
  | 0, l, _, h => by
    cases l with
    | nil => simp
    | cons x xs => have := h x (by simp); omega
  | n + 1, l, hn, h => by
    by_cases hm : n + 1 ∈ l
    · have h1 := nodup_len n (l.erase (n + 1)) (hn.erase _) (fun x hx => by
        have hx2 := (List.Nodup.mem_erase_iff hn).1 hx
        have := h x hx2.2
        omega)
      rw [List.length_erase_of_mem hm] at h1
      omega
    · have := nodup_len n l hn (fun x hx => by
        have h2 := h x hx
        have : x ≠ n + 1 := fun e => hm (e ▸ hx)
        omega)
      omega
/-- What keeps the search in order. -/
structure SW (S : Sol) (B : Nat) : Prop where
  len : SLen S
  cls : ∀ c ∈ S.cl, 2 ≤ c.length ∧ c.length ≤ 100000 ∧ ∀ l ∈ c, LitOk S.n l
  csz : S.cl.length ≤ 1000000
  wls : ∀ ks ∈ S.wl, ∀ k ∈ ks, k < S.cl.length
  asg : ∀ l ∈ S.tr, S.is l = 1
  nd : (S.tr.map Int.natAbs).Nodup
  tot : (S.wl.map List.length).sum ≤ B
  hd : S.head ≤ S.tr.length
theorem sum_le_mem {l : List Nat} {x : Nat} (h : x ∈ l) : x ≤ l.sum := by
  induction l with
  | nil => simp at h
  | cons y ys ih =>
    rcases List.mem_cons.1 h with rfl | h
    · simp
    · have := ih h
      simp
      omega
theorem sum_set {l : List Nat} {i x : Nat} (h : i < l.length) : (l.set i x).sum + l[i] = l.sum + x := by
  induction l generalizing i with
  | nil => simp at h
  | cons y ys ih =>
    cases i with
    | zero => simp; omega
    | succ i =>
      have := ih (i := i) (by simpa using h)
      simp only [List.set_cons_succ, List.sum_cons, List.getElem_cons_succ]
      omega
theorem SW.list {S : Sol} {B : Nat} (h : SW S B) {i : Nat} (hi : i < 2 * S.n + 2) : (S.wl.getD i []).length ≤ B ∧ ∀ k ∈ S.wl.getD i [], k < S.cl.length := by
  have hm := getD_mem (l := S.wl) (i := i) (d := []) (by rw [h.len.wl]; exact hi)
  exact ⟨Nat.le_trans (sum_le_mem (List.mem_map_of_mem hm)) h.tot, h.wls _ hm⟩
theorem SW.cl {S : Sol} {B : Nat} (h : SW S B) {k : Nat} (hk : k < S.cl.length) : 2 ≤ (S.cl.getD k []).length ∧ (S.cl.getD k []).length ≤ 100000 ∧ ∀ l ∈ S.cl.getD k [], LitOk S.n l := h.cls _ (getD_mem hk)
theorem swapAt_len (c : List Int) (i j : Nat) : (Sol.swapAt c i j).length = c.length := by simp [Sol.swapAt]
theorem swapAt_mem {c : List Int} {i j : Nat} (hi : i < c.length) (hj : j < c.length) : ∀ l ∈ Sol.swapAt c i j, l ∈ c := fun l hl => by
  unfold Sol.swapAt at hl
  rcases List.mem_or_eq_of_mem_set hl with h | rfl
  · rcases List.mem_or_eq_of_mem_set h with h | rfl
    · exact h
    · exact getD_mem hj
  · exact getD_mem hi
theorem turn_len (l : Int) (c : List Int) : (Sol.turn l c).length = c.length := by unfold Sol.turn; split <;> simp [swapAt_len]
theorem turn_mem {l : Int} {c : List Int} (h : 2 ≤ c.length) : ∀ x ∈ Sol.turn l c, x ∈ c := fun x hx => by
  unfold Sol.turn at hx
  split at hx
  · exact swapAt_mem (by omega) (by omega) x hx
  · exact hx
theorem SW.putC {S : Sol} {B : Nat} (h : SW S B) {k : Nat} {c : List Int} (hc : 2 ≤ c.length ∧ c.length ≤ 100000 ∧ ∀ l ∈ c, LitOk S.n l) : SW (S.putC k c) B := by
  refine ⟨⟨h.len.n, h.len.val, h.len.lev, h.len.why, h.len.wl, h.len.tri, h.len.tr, h.len.trn, h.len.stn⟩, fun x hx => ?_, by simpa [Sol.putC] using h.csz, fun ks hks k' hk' => by simpa [Sol.putC] using h.wls ks hks k' hk', h.asg, h.nd, h.tot, h.hd⟩
  rcases List.mem_or_eq_of_mem_set (show x ∈ S.cl.set k c from hx) with h1 | rfl
  · exact h.cls x h1
  · exact hc
theorem sgn_ne (l : Int) : Sol.sgn l ≠ 0 := by unfold Sol.sgn; split <;> simp
theorem getD_set {α : Type} (l : List α) (i j : Nat) (x d : α) (h : i < l.length) : (l.set i x).getD j d = if j = i then x else l.getD j d := by
  simp only [List.getD_eq_getElem?_getD, List.getElem?_set]
  by_cases e : i = j
  · subst e; simp [h]
  · rw [if_neg e, if_neg (fun h => e h.symm)]
theorem is_set_same {S : Sol} {l w : Int} (h : l.natAbs < S.val.length) (h0 : l ≠ 0) : (S.set l w).is l = 1 := by
  simp only [Sol.is, Sol.set, getD_set _ _ _ _ _ h, if_true, Sol.sgn]
  split <;> omega
theorem is_set_ne {S : Sol} {l w x : Int} (h : l.natAbs < S.val.length) (h0 : x.natAbs ≠ l.natAbs) : (S.set l w).is x = S.is x := by
  simp only [Sol.is, Sol.set, getD_set _ _ _ _ _ h, if_neg h0]
theorem SW.set {S : Sol} {B : Nat} (h : SW S B) {l : Int} (w : Int) (hl : LitOk S.n l) (hu : S.val.getD l.natAbs 0 = 0) : SW (S.set l w) B := by
  have hn := h.len
  have hnew : l.natAbs ∉ S.tr.map Int.natAbs := fun hm => by
    obtain ⟨x, hx, e⟩ := List.mem_map.1 hm
    have := h.asg x hx
    unfold Sol.is at this
    rw [e, hu] at this
    split at this <;> omega
  have hlt : l.natAbs < S.val.length := by rw [hn.val]; have := hl.2; omega
  have hnd : ((S.tr ++ [l]).map Int.natAbs).Nodup := by
    rw [List.map_append, List.nodup_append]
    refine ⟨h.nd, by simp, fun a ha b hb e => hnew ?_⟩
    simp only [List.map_cons, List.map_nil, List.mem_singleton] at hb
    rw [← hb, ← e]
    exact ha
  have htr : ∀ x ∈ S.tr ++ [l], LitOk S.n x := fun x hx => by
    rcases List.mem_append.1 hx with h1 | h1
    · exact hn.tr x h1
    · rw [List.mem_singleton.1 h1]; exact hl
  have htl : (S.tr ++ [l]).length ≤ S.n := by
    have := nodup_len S.n _ hnd (fun x hx => by
      obtain ⟨y, hy, rfl⟩ := List.mem_map.1 hx
      have := htr y hy
      unfold LitOk at this
      omega)
    simpa using this
  refine ⟨⟨hn.n, by simpa [Sol.set] using hn.val, by simpa [Sol.set] using hn.lev, by simpa [Sol.set] using hn.why, hn.wl, fun x hx => ?_, htr, htl, hn.stn⟩, h.cls, h.csz, h.wls, fun x hx => ?_, hnd, h.tot, by have := h.hd; simp only [Sol.set, List.length_append]; omega⟩
  · rcases List.mem_or_eq_of_mem_set (show x ∈ S.val.set l.natAbs (Sol.sgn l) from hx) with h1 | rfl
    · exact hn.tri x h1
    · unfold Sol.sgn; split <;> omega
  · rcases List.mem_append.1 (show x ∈ S.tr ++ [l] from hx) with h1 | h1
    · rw [is_set_ne hlt (fun e => hnew (List.mem_map.2 ⟨x, h1, e⟩))]
      exact h.asg x h1
    · rw [List.mem_singleton.1 h1]
      exact is_set_same hlt hl.1
theorem SW.push {S : Sol} {B : Nat} (h : SW S B) {i k : Nat} (hi : i < 2 * S.n + 2) (hk : k < S.cl.length) : SW { S with wl := Sol.push S.wl i k } (B + 1) := by
  have hn := h.len
  have hlt : i < S.wl.length := by rw [hn.wl]; exact hi
  refine ⟨⟨hn.n, hn.val, hn.lev, hn.why, by simp [Sol.push]; exact hn.wl, hn.tri, hn.tr, hn.trn, hn.stn⟩, h.cls, h.csz, fun ks hks k' hk' => ?_, h.asg, h.nd, ?_, h.hd⟩
  · rcases List.mem_or_eq_of_mem_set (show ks ∈ S.wl.set i _ from hks) with h1 | rfl
    · exact h.wls ks h1 k' hk'
    · rcases List.mem_append.1 hk' with h1 | h1
      · exact (h.list hi).2 k' h1
      · rw [List.mem_singleton.1 h1]; exact hk
  · have := sum_set (l := S.wl.map List.length) (i := i) (x := (S.wl.getD i []).length + 1) (by simpa using hlt)
    simp only [List.getElem_map] at this
    have e : (Sol.push S.wl i k).map List.length = (S.wl.map List.length).set i ((S.wl.getD i []).length + 1) := by simp [Sol.push, List.map_set]
    have e2 : S.wl.getD i [] = S.wl[i] := by rw [List.getD_eq_getElem?_getD, List.getElem?_eq_getElem hlt]; rfl
    rw [e]
    rw [e2] at this ⊢
    have := h.tot
    omega
theorem is_zero {S : Sol} {l : Int} (h : S.is l = 0) : S.val.getD l.natAbs 0 = 0 := by
  unfold Sol.is at h
  split at h <;> omega
theorem is_cases {S : Sol} (h : SLen S) {l : Int} (hl : LitOk S.n l) : S.is l = 1 ∨ S.is l = -1 ∨ S.is l = 0 := by
  have := h.tri _ (getD_mem (l := S.val) (i := l.natAbs) (d := 0) (by rw [h.val]; have := hl.2; omega))
  unfold Sol.is
  split <;> omega
theorem visit_sw {S : Sol} {B : Nat} (h : SW S B) {l : Int} {kept : List Nat} {k : Nat} (hk : k < S.cl.length) : SW (Sol.visit l S kept k).1 (B + 1) ∧ (Sol.visit l S kept k).1.n = S.n ∧ (Sol.visit l S kept k).1.cl.length = S.cl.length ∧ (Sol.visit l S kept k).1.st = S.st ∧ (Sol.visit l S kept k).1.head = S.head := by
  obtain ⟨c1, c2, c3⟩ := h.cl hk
  have t1 : 2 ≤ (Sol.turn l (S.cl.getD k [])).length ∧ (Sol.turn l (S.cl.getD k [])).length ≤ 100000 ∧ ∀ x ∈ Sol.turn l (S.cl.getD k []), LitOk S.n x := by
    rw [turn_len]
    exact ⟨c1, c2, fun x hx => c3 x (turn_mem c1 x hx)⟩
  have up : ∀ {S' : Sol}, SW S' B → SW S' (B + 1) := fun h => ⟨h.len, h.cls, h.csz, h.wls, h.asg, h.nd, Nat.le_trans h.tot (by omega), h.hd⟩
  unfold Sol.visit
  simp only
  generalize Sol.turn l (S.cl.getD k []) = c at t1
  have l0 : LitOk S.n (c.getD 0 0) := t1.2.2 _ (getD_mem (by omega))
  split
  · exact ⟨up (h.putC t1), rfl, by simp [Sol.putC], rfl, rfl⟩
  · rename_i hn1
    split
    · rename_i hj
      have s1 : 2 ≤ (Sol.swapAt c 1 (S.scan c 2)).length ∧ (Sol.swapAt c 1 (S.scan c 2)).length ≤ 100000 ∧ ∀ x ∈ Sol.swapAt c 1 (S.scan c 2), LitOk S.n x := by
        rw [swapAt_len]
        exact ⟨t1.1, t1.2.1, fun x hx => t1.2.2 x (swapAt_mem (by omega) hj x hx)⟩
      have hp := h.putC (k := k) s1
      exact ⟨SW.push (S := S.putC k (Sol.swapAt c 1 (S.scan c 2))) hp (atL_lt (s1.2.2 _ (getD_mem (by omega)))) (by simp [Sol.putC]; exact hk), rfl, by simp [Sol.putC], rfl, rfl⟩
    · split
      · exact ⟨up (h.putC t1), rfl, by simp [Sol.putC], rfl, rfl⟩
      · rename_i hn2
        have h0 : S.is (c.getD 0 0) = 0 := by
          rcases is_cases h.len l0 with e | e | e
          · exact absurd e hn1
          · exact absurd e hn2
          · exact e
        exact ⟨up ((h.putC t1).set (S := S.putC k c) _ l0 (is_zero h0)), rfl, by simp [Sol.putC, Sol.set], rfl, rfl⟩
theorem drop_gtD {α : Type} {l : List α} {i : Nat} (d : α) (h : i < l.length) : l.drop i = l.getD i d :: l.drop (i + 1) := by
  rw [List.drop_eq_getElem_cons h, List.getD_eq_getElem?_getD, List.getElem?_eq_getElem h]
  rfl
theorem inner_ok {l : Int} {k : Nat} {ks kept kept' : List Nat} {S S' : Sol} (h : Sol.visit l S kept k = (S', kept', false)) : Sol.inner l (k :: ks) S kept = Sol.inner l ks S' kept' := by rw [Sol.inner, h]
theorem inner_bad {l : Int} {k : Nat} {ks kept kept' : List Nat} {S S' : Sol} (h : Sol.visit l S kept k = (S', kept', true)) : Sol.inner l (k :: ks) S kept = (Sol.putW S' (atL l) (kept' ++ ks), some k) := by rw [Sol.inner, h]
theorem scan_more {S : Sol} {c : List Int} {j : Nat} (h : j < c.length) (h1 : S.is (c.getD j 0) = -1) : S.scan c j = S.scan c (j + 1) := by rw [Sol.scan, dif_pos ⟨h, h1⟩]
theorem scan_stop {S : Sol} {c : List Int} {j : Nat} (h : ¬ (j < c.length ∧ S.is (c.getD j 0) = -1)) : S.scan c j = j := by rw [Sol.scan, dif_neg h]
theorem SW.putW {S : Sol} {B B' i : Nat} {ks : List Nat} (h : SW S B) (hi : i < 2 * S.n + 2) (hk : ∀ k ∈ ks, k < S.cl.length) (hl : B + ks.length ≤ B' + (S.wl.getD i []).length) : SW (S.putW i ks) B' := by
  have hn := h.len
  have hlt : i < S.wl.length := by rw [hn.wl]; exact hi
  refine ⟨⟨hn.n, hn.val, hn.lev, hn.why, by simp [Sol.putW]; exact hn.wl, hn.tri, hn.tr, hn.trn, hn.stn⟩, h.cls, h.csz, fun x hx k' hk' => ?_, h.asg, h.nd, ?_, h.hd⟩
  · rcases List.mem_or_eq_of_mem_set (show x ∈ S.wl.set i ks from hx) with h1 | rfl
    · exact h.wls x h1 k' hk'
    · exact hk k' hk'
  · have := sum_set (l := S.wl.map List.length) (i := i) (x := ks.length) (by simpa using hlt)
    simp only [List.getElem_map] at this
    have e : (S.putW i ks).wl.map List.length = (S.wl.map List.length).set i ks.length := by simp [Sol.putW, List.map_set]
    have e2 : S.wl.getD i [] = S.wl[i] := by rw [List.getD_eq_getElem?_getD, List.getElem?_eq_getElem hlt]; rfl
    rw [e]
    rw [e2] at hl
    have := h.tot
    omega
end Go.Proofs.YtdgpmopcmacicaaPi

/- Plain: decisions and taking them back. No program in sight. -/
set_option linter.unusedVariables false
set_option linter.unusedSimpArgs false
set_option linter.unusedSectionVars false
namespace Go.Proofs.YtdgpmopcmacicaaPi
namespace Sol
/-- The first free variable. -/
def skip (v : List Int) (i : Nat) : Nat := if h : i < v.length ∧ v.getD i 0 ≠ 0 then skip v (i + 1) else i
termination_by v.length - i
def start (S : Sol) (p : Nat) : Sol := { S with next := p, st := S.st ++ [S.tr.length] }
def nextTo (S : Sol) (p : Nat) : Sol := { S with next := p }
def decide (S : Sol) : Sol × Bool :=
  if skip S.val S.next = S.n + 1 then (S.nextTo (S.n + 1), false)
  else ((S.start (skip S.val S.next)).set (-((skip S.val S.next : Nat) : Int)) (-1), true)
def zero (v : List Int) (ls : List Int) : List Int := ls.foldl (fun v l => v.set l.natAbs 0) v
def low (p : Nat) (ls : List Int) : Nat := ls.foldl (fun p l => min p l.natAbs) p
/-- All decisions from number d on are taken back. -/
def back (S : Sol) (d : Nat) : Sol :=
  if d < S.st.length then { S with val := zero S.val (S.tr.drop (S.st.getD d 0)), next := low S.next (S.tr.drop (S.st.getD d 0)), tr := S.tr.take (S.st.getD d 0), st := S.st.take d, head := S.st.getD d 0 } else S
/-- Literals that are free again. -/
def undo (S : Sol) (ls : List Int) : Sol := { S with val := zero S.val ls, next := low S.next ls }
/-- The trail is cut. -/
def cut (S : Sol) (t d : Nat) : Sol := { S with tr := S.tr.take t, st := S.st.take d, head := t }
/-- The clause that not all decisions are right. -/
def refuted (S : Sol) : List Int := (List.range S.st.length).reverse.map fun d => -(S.tr.getD (S.st.getD d 0) 0)
end Sol
theorem back_eq {S : Sol} {d : Nat} (h : d < S.st.length) : S.back d = (S.undo (S.tr.drop (S.st.getD d 0))).cut (S.st.getD d 0) d := by rw [Sol.back, if_pos h]; rfl
theorem zero_len (v ls : List Int) : (Sol.zero v ls).length = v.length := by
  unfold Sol.zero
  induction ls generalizing v with
  | nil => rfl
  | cons x xs ih => rw [List.foldl_cons, ih]; simp
theorem zero_snoc (v ls : List Int) (l : Int) : Sol.zero v (ls ++ [l]) = (Sol.zero v ls).set l.natAbs 0 := by simp [Sol.zero, List.foldl_append]
theorem low_snoc (p : Nat) (ls : List Int) (l : Int) : Sol.low p (ls ++ [l]) = min (Sol.low p ls) l.natAbs := by simp [Sol.low, List.foldl_append]
theorem take_next (l : List Int) (t i : Nat) (h : t + i < l.length) : (l.drop t).take (i + 1) = (l.drop t).take i ++ [l.getD (t + i) 0] := by
  rw [List.take_add_one, List.getElem?_drop, getD_some 0 h]
  rfl
def Sol.dec (S : Sol) (d : Nat) : Int := -(S.tr.getD (S.st.getD d 0) 0)
theorem refuted_len (S : Sol) : S.refuted.length = S.st.length := by simp [Sol.refuted]
theorem refuted_next (S : Sol) (m : Nat) (h : m < S.st.length) : S.refuted.take (m + 1) = S.refuted.take m ++ [S.dec (S.st.length - 1 - m)] := by
  rw [List.take_add_one]
  congr 1
  simp [Sol.refuted, Sol.dec, List.getElem?_map, List.getElem?_reverse, h]
theorem skip_more {v : List Int} {i : Nat} (h : i < v.length) (h1 : v.getD i 0 ≠ 0) : Sol.skip v i = Sol.skip v (i + 1) := by rw [Sol.skip, dif_pos ⟨h, h1⟩]
theorem skip_stop {v : List Int} {i : Nat} (h : ¬ (i < v.length ∧ v.getD i 0 ≠ 0)) : Sol.skip v i = i := by rw [Sol.skip, dif_neg h]
theorem SW.start {S : Sol} {B : Nat} (h : SW S B) {p : Nat} (hs : S.st.length + 1 ≤ S.n) : SW (S.start p) B :=
  ⟨⟨h.len.n, h.len.val, h.len.lev, h.len.why, h.len.wl, h.len.tri, h.len.tr, h.len.trn, by simpa [Sol.start] using hs⟩, h.cls, h.csz, h.wls, h.asg, h.nd, h.tot, h.hd⟩
theorem SW.nextTo {S : Sol} {B : Nat} (h : SW S B) (p : Nat) : SW (S.nextTo p) B :=
  ⟨⟨h.len.n, h.len.val, h.len.lev, h.len.why, h.len.wl, h.len.tri, h.len.tr, h.len.trn, h.len.stn⟩, h.cls, h.csz, h.wls, h.asg, h.nd, h.tot, h.hd⟩
theorem free_len {S : Sol} {B : Nat} (h : SW S B) {p : Nat} (h1 : 1 ≤ p) (h2 : p ≤ S.n) (h0 : S.val.getD p 0 = 0) : S.tr.length + 1 ≤ S.n := by
  have := (h.set (l := -(p : Int)) 0 ⟨by omega, by omega⟩ (by rw [show (-(p : Int)).natAbs = p by omega]; exact h0)).len.trn
  simpa [Sol.set] using this
end Go.Proofs.YtdgpmopcmacicaaPi

/- Plain: what stays true in the search. No program in sight. -/
set_option linter.unusedVariables false
set_option linter.unusedSimpArgs false
set_option linter.unusedSectionVars false
namespace Go.Proofs.YtdgpmopcmacicaaPi
theorem mem_getD {α : Type} {l : List α} {d x : α} (h : x ∈ l) : ∃ k, k < l.length ∧ l.getD k d = x := by
  obtain ⟨k, hk, e⟩ := List.getElem_of_mem h
  exact ⟨k, hk, by rw [List.getD_eq_getElem?_getD, List.getElem?_eq_getElem hk]; exact e⟩
/-- No literal stands twice. -/
def Dis (c : List Int) : Prop := ∀ i j, i < c.length → j < c.length → c.getD i 0 = c.getD j 0 → i = j
theorem swapAt_get {c : List Int} {i j : Nat} (hi : i < c.length) (hj : j < c.length) (k : Nat) : (Sol.swapAt c i j).getD k 0 = c.getD (if k = j then i else if k = i then j else k) 0 := by
  unfold Sol.swapAt
  rw [getD_set _ _ _ _ _ (by simp; exact hj), getD_set _ _ _ _ _ hi]
  split
  · rfl
  · split <;> rfl
theorem swapAt_dis {c : List Int} {i j : Nat} (h : Dis c) (hi : i < c.length) (hj : j < c.length) : Dis (Sol.swapAt c i j) := fun a b ha hb e => by
  rw [swapAt_len] at ha hb
  rw [swapAt_get hi hj, swapAt_get hi hj] at e
  have := h _ _ (by split; omega; split <;> omega) (by split; omega; split <;> omega) e
  repeat' split at this
  all_goals omega
theorem swapAt_iff {c : List Int} {i j : Nat} (hi : i < c.length) (hj : j < c.length) (x : Int) : x ∈ Sol.swapAt c i j ↔ x ∈ c := ⟨swapAt_mem hi hj x, fun hx => by
  obtain ⟨k, hk, e⟩ := mem_getD (d := 0) hx
  have h1 : (if k = j then i else if k = i then j else k) < (Sol.swapAt c i j).length := by rw [swapAt_len]; split; omega; split <;> omega
  have h2 := swapAt_get hi hj (if k = j then i else if k = i then j else k)
  rw [← e]
  have h3 : (Sol.swapAt c i j).getD (if k = j then i else if k = i then j else k) 0 = c.getD k 0 := by
    rw [h2]
    congr 1
    split <;> split <;> (try split) <;> omega
  rw [← h3]
  exact getD_mem h1⟩
/-- The level of a place of the trail. -/
def lv (st : List Nat) (i : Nat) : Nat := (st.filter fun s => decide (s ≤ i)).length
theorem lv_le (st : List Nat) (i : Nat) : lv st i ≤ st.length := List.length_filter_le _ _
theorem lv_all {st : List Nat} {i : Nat} (h : ∀ x ∈ st, x ≤ i) : lv st i = st.length := by
  unfold lv
  rw [List.filter_eq_self.2 (fun x hx => decide_eq_true (h x hx))]
theorem lv_mono (st : List Nat) {i j : Nat} (h : i ≤ j) : lv st i ≤ lv st j := by
  unfold lv
  induction st with
  | nil => simp
  | cons x xs ih =>
    simp only [List.filter_cons]
    by_cases h1 : x ≤ i
    · rw [if_pos (decide_eq_true h1), if_pos (decide_eq_true (by omega))]; simp; omega
    · rw [if_neg (by simpa using h1)]
      split
      · simp; omega
      · omega
theorem lv_snoc {st : List Nat} {t i : Nat} (h : i < t) : lv (st ++ [t]) i = lv st i := by
  unfold lv
  rw [List.filter_append]
  simp [h]
theorem lv_pos {st : List Nat} {i : Nat} (h : i ∈ st) : 0 < lv st i := by
  unfold lv
  exact List.length_pos_of_mem (List.mem_filter.2 ⟨h, by simp⟩)
namespace Sol
def lvl (S : Sol) (l : Int) : Nat := S.lev.getD l.natAbs 0
def wy (S : Sol) (l : Int) : Int := S.why.getD l.natAbs 0
def lit (S : Sol) (i : Nat) : Int := S.tr.getD i 0
def cla (S : Sol) (k : Nat) : List Int := S.cl.getD k []
def Forced (S : Sol) (i k : Nat) (l : Int) : Prop := k < S.cl.length ∧ l ∈ S.cla k ∧ ∀ x ∈ S.cla k, x ≠ l → ∃ j, j < i ∧ S.lit j = -x
def Why (S : Sol) (i : Nat) : Prop := (S.wy (S.lit i) = -1 ∧ (i ∈ S.st ∨ lv S.st i = 0)) ∨ ∃ k : Nat, S.wy (S.lit i) = (k : Int) ∧ S.Forced i k (S.lit i)
def Wat (S : Sol) : Prop := ∀ i, i < 2 * S.n + 2 → (S.wl.getD i []).Nodup ∧ ∀ k, k ∈ S.wl.getD i [] ↔ k < S.cl.length ∧ (atL ((S.cla k).getD 0 0) = i ∨ atL ((S.cla k).getD 1 0) = i)
/-- A watched literal that is false, and done with, stands beside a true one that is not newer. -/
def Pro (S : Sol) (ex : Nat → Int → Prop) : Prop := ∀ k, k < S.cl.length → ∀ p q, (p = 0 ∧ q = 1 ∨ p = 1 ∧ q = 0) → ∀ j, j < S.head → S.lit j = -((S.cla k).getD p 0) → ¬ ex k ((S.cla k).getD p 0) → S.is ((S.cla k).getD q 0) = 1 ∧ S.lvl ((S.cla k).getD q 0) ≤ S.lvl ((S.cla k).getD p 0)
end Sol
structure Inv (S : Sol) : Prop where
  dis : ∀ k, k < S.cl.length → Dis (S.cla k)
  asd : ∀ v, 1 ≤ v → v ≤ S.n → S.val.getD v 0 ≠ 0 → ∃ i, i < S.tr.length ∧ (S.lit i).natAbs = v
  sts : ∀ i j, i < j → j < S.st.length → S.st.getD i 0 < S.st.getD j 0
  stl : ∀ x ∈ S.st, x ≤ S.tr.length
  lev : ∀ i, i < S.tr.length → S.lvl (S.lit i) = lv S.st i
  why : ∀ i, i < S.tr.length → S.Why i
  nxt : ∀ v, 1 ≤ v → v < S.next → S.val.getD v 0 ≠ 0
theorem lit_ok {S : Sol} {B : Nat} (h : SW S B) {i : Nat} (hi : i < S.tr.length) : LitOk S.n (S.lit i) := h.len.tr _ (getD_mem hi)
theorem lit_is {S : Sol} {B : Nat} (h : SW S B) {i : Nat} (hi : i < S.tr.length) : S.is (S.lit i) = 1 := h.asg _ (getD_mem hi)
theorem is_neg' (S : Sol) {x : Int} (h : x ≠ 0) : S.is (-x) = -(S.is x) := by
  unfold Sol.is
  rw [Int.natAbs_neg]
  split <;> split <;> omega
theorem lit_inj {S : Sol} {B : Nat} (h : SW S B) {i j : Nat} (hi : i < S.tr.length) (hj : j < S.tr.length) (e : (S.lit i).natAbs = (S.lit j).natAbs) : i = j := by
  have hn := h.nd
  have e1 : ∀ i, i < S.tr.length → (S.tr.map Int.natAbs)[i]? = some (S.lit i).natAbs := fun i hi => by rw [List.getElem?_map, getD_some 0 hi]; rfl
  exact (List.getElem?_inj (by simpa using hi) hn).1 (by rw [e1 i hi, e1 j hj, e])
theorem false_on {S : Sol} {B : Nat} (h : SW S B) (k : Inv S) {x : Int} (hx : LitOk S.n x) (hf : S.is x = -1) : ∃ i, i < S.tr.length ∧ S.lit i = -x := by
  have h0 := hx.1
  have h1 := hx.2
  obtain ⟨i, hi, e⟩ := k.asd x.natAbs (by omega) h1 (fun h0 => by
    unfold Sol.is at hf
    rw [h0] at hf
    split at hf <;> omega)
  refine ⟨i, hi, ?_⟩
  have := lit_is h hi
  by_cases e2 : S.lit i = x
  · rw [e2, hf] at this; omega
  · omega
theorem on_false {S : Sol} {B : Nat} (h : SW S B) {x : Int} {i : Nat} (hi : i < S.tr.length) (e : S.lit i = -x) : S.is x = -1 := by
  have h1 := lit_is h hi
  have h2 := (lit_ok h hi).1
  rw [e, is_neg' S (by omega)] at h1
  omega
theorem lit_set {S : Sol} {l w : Int} {i : Nat} : (S.set l w).lit i = if i < S.tr.length then S.lit i else if i = S.tr.length then l else 0 := by
  simp only [Sol.lit, Sol.set, List.getD_eq_getElem?_getD, List.getElem?_append]
  split
  · rfl
  · rename_i h
    by_cases e : i = S.tr.length
    · subst e; simp
    · rw [if_neg e, List.getElem?_eq_none (by simp; omega)]; rfl
theorem lvl_set {S : Sol} {l w x : Int} (h : l.natAbs < S.lev.length) : (S.set l w).lvl x = if x.natAbs = l.natAbs then S.st.length else S.lvl x := by
  simp only [Sol.lvl, Sol.set, getD_set _ _ _ _ _ h]
theorem wy_set {S : Sol} {l w x : Int} (h : l.natAbs < S.why.length) : (S.set l w).wy x = if x.natAbs = l.natAbs then w else S.wy x := by
  simp only [Sol.wy, Sol.set, getD_set _ _ _ _ _ h]
theorem off_trail {S : Sol} {B : Nat} (h : SW S B) {l : Int} (hu : S.val.getD l.natAbs 0 = 0) {i : Nat} (hi : i < S.tr.length) : (S.lit i).natAbs ≠ l.natAbs := fun e => by
  have h1 := lit_is h hi
  unfold Sol.is at h1
  rw [e, hu] at h1
  split at h1 <;> omega
theorem Inv.set {S : Sol} {B : Nat} (h : SW S B) (k : Inv S) {l w : Int} (hl : LitOk S.n l) (hu : S.val.getD l.natAbs 0 = 0) (hw : (w = -1 ∧ (S.tr.length ∈ S.st ∨ lv S.st S.tr.length = 0)) ∨ ∃ c : Nat, w = (c : Int) ∧ S.Forced S.tr.length c l) : Inv (S.set l w) := by
  have h2 := hl.2
  have hv : l.natAbs < S.val.length := by rw [h.len.val]; omega
  have hle : l.natAbs < S.lev.length := by rw [h.len.lev]; omega
  have hwy : l.natAbs < S.why.length := by rw [h.len.why]; omega
  have htl : (S.set l w).tr.length = S.tr.length + 1 := by simp [Sol.set]
  have hF : ∀ i c x, i ≤ S.tr.length → S.Forced i c x → (S.set l w).Forced i c x := fun i c x hi hf => ⟨hf.1, hf.2.1, fun y hy hne => by
    obtain ⟨j, hj, e⟩ := hf.2.2 y hy hne
    exact ⟨j, hj, by rw [lit_set, if_pos (by omega)]; exact e⟩⟩
  refine ⟨k.dis, fun v h1 h3 h4 => ?_, k.sts, fun x hx => ?_, fun i hi => ?_, fun i hi => ?_, fun v h1 h3 => ?_⟩
  · by_cases e : v = l.natAbs
    · exact ⟨S.tr.length, by omega, by rw [lit_set, if_neg (by omega), if_pos rfl]; exact e.symm⟩
    · have : S.val.getD v 0 ≠ 0 := by
        have h5 : (S.val.set l.natAbs (Sol.sgn l)).getD v 0 ≠ 0 := h4
        rwa [getD_set _ _ _ _ _ hv, if_neg e] at h5
      obtain ⟨i, hi, e2⟩ := k.asd v h1 h3 this
      exact ⟨i, by omega, by rw [lit_set, if_pos hi]; exact e2⟩
  · have := k.stl x hx
    omega
  · rw [lit_set, lvl_set hle]
    show _ = lv S.st i
    by_cases e : i < S.tr.length
    · rw [if_pos e, if_neg (off_trail h hu e)]
      exact k.lev i e
    · have e2 : i = S.tr.length := by omega
      subst e2
      rw [if_neg e, if_pos rfl, if_pos rfl, lv_all k.stl]
  · unfold Sol.Why
    rw [lit_set, wy_set hwy]
    by_cases e : i < S.tr.length
    · rw [if_pos e, if_neg (off_trail h hu e)]
      rcases k.why i e with h1 | ⟨c, h1, h2⟩
      · exact .inl h1
      · exact .inr ⟨c, h1, hF _ _ _ (by omega) h2⟩
    · have e2 : i = S.tr.length := by omega
      subst e2
      rw [if_neg e, if_pos rfl, if_pos rfl]
      rcases hw with h1 | ⟨c, h1, h2⟩
      · exact .inl h1
      · exact .inr ⟨c, h1, hF _ _ _ (by omega) h2⟩
  · show (S.val.set l.natAbs (Sol.sgn l)).getD v 0 ≠ 0
    rw [getD_set _ _ _ _ _ hv]
    split
    · exact sgn_ne l
    · exact k.nxt v h1 h3
theorem putC_cla {S : Sol} {k : Nat} {c : List Int} (h : k < S.cl.length) (j : Nat) : (S.putC k c).cla j = if j = k then c else S.cla j := getD_set _ _ _ _ _ h
theorem putC_len (S : Sol) (k : Nat) (c : List Int) : (S.putC k c).cl.length = S.cl.length := by simp [Sol.putC]
theorem Inv.putC {S : Sol} (h : Inv S) {k : Nat} {c : List Int} (hk : k < S.cl.length) (hd : Dis c) (hm : ∀ x, x ∈ c ↔ x ∈ S.cla k) : Inv (S.putC k c) := by
  refine ⟨fun j hj => ?_, h.asd, h.sts, h.stl, h.lev, fun i hi => ?_, h.nxt⟩
  · rw [putC_cla hk]
    split
    · exact hd
    · exact h.dis j (by rwa [putC_len] at hj)
  · rcases h.why i hi with h1 | ⟨q, h1, h2, h3, h4⟩
    · exact .inl h1
    · refine .inr ⟨q, h1, by rw [putC_len]; exact h2, ?_, fun x hx => ?_⟩
      · rw [putC_cla hk]
        split
        · rename_i e; subst e; exact (hm _).2 h3
        · exact h3
      · rw [putC_cla hk] at hx
        refine h4 x ?_
        split at hx
        · rename_i e; subst e; exact (hm _).1 hx
        · exact hx
/-- A clause whose two watched literals change places. -/
def Turned (c c' : List Int) : Prop := c'.length = c.length ∧ (c' = c ∨ (c'.getD 0 0 = c.getD 1 0 ∧ c'.getD 1 0 = c.getD 0 0))
theorem Wat.turned {S : Sol} {k : Nat} {c : List Int} (hk : k < S.cl.length) (h : S.Wat) (hc : Turned (S.cla k) c) : (S.putC k c).Wat := fun i hi => by
  obtain ⟨h1, h2⟩ := h i hi
  refine ⟨h1, fun j => (h2 j).trans ?_⟩
  rw [putC_cla hk, putC_len]
  by_cases e : j = k
  · subst e
    rw [if_pos rfl]
    rcases hc.2 with e2 | ⟨e2, e3⟩
    · rw [e2]
    · rw [e2, e3]
      exact ⟨fun h => ⟨h.1, h.2.symm⟩, fun h => ⟨h.1, h.2.symm⟩⟩
  · rw [if_neg e]
theorem Pro.turned {S : Sol} {ex : Nat → Int → Prop} {k : Nat} {c : List Int} (hk : k < S.cl.length) (h : S.Pro ex) (hc : Turned (S.cla k) c) : (S.putC k c).Pro ex := fun j hj p q hpq i hi e hex => by
  rw [putC_len] at hj
  rw [putC_cla hk] at e hex ⊢
  by_cases e1 : j = k
  · subst e1
    rw [if_pos rfl] at e hex ⊢
    rcases hc.2 with e2 | ⟨e2, e3⟩
    · subst e2; exact h _ hj p q hpq i hi e hex
    · rcases hpq with ⟨rfl, rfl⟩ | ⟨rfl, rfl⟩
      · rw [e2] at e hex ⊢; rw [e3]; exact h _ hj 1 0 (.inr ⟨rfl, rfl⟩) i hi e hex
      · rw [e3] at e hex ⊢; rw [e2]; exact h _ hj 0 1 (.inl ⟨rfl, rfl⟩) i hi e hex
  · rw [if_neg e1] at e hex ⊢
    exact h _ hj p q hpq i hi e hex
theorem Pro.set {S : Sol} {B : Nat} (hS : SW S B) {ex : Nat → Int → Prop} (h : S.Pro ex) {l w : Int} (hl : LitOk S.n l) (hu : S.val.getD l.natAbs 0 = 0) : (S.set l w).Pro ex := fun j hj p q hpq i hi e hex => by
  have h2 := hl.2
  have hv : l.natAbs < S.val.length := by rw [hS.len.val]; omega
  have hle : l.natAbs < S.lev.length := by rw [hS.len.lev]; omega
  have hi2 : i < S.tr.length := Nat.lt_of_lt_of_le hi hS.hd
  rw [lit_set, if_pos hi2] at e
  obtain ⟨h3, h4⟩ := h j hj p q hpq i hi e hex
  have n1 : ((S.cla j).getD p 0).natAbs ≠ l.natAbs := by
    have := off_trail hS hu hi2
    rw [e, Int.natAbs_neg] at this
    exact this
  have n2 : ((S.cla j).getD q 0).natAbs ≠ l.natAbs := fun e2 => by
    unfold Sol.is at h3
    rw [e2, hu] at h3
    split at h3 <;> omega
  show (S.set l w).is ((S.cla j).getD q 0) = 1 ∧ (S.set l w).lvl ((S.cla j).getD q 0) ≤ (S.set l w).lvl ((S.cla j).getD p 0)
  rw [is_set_ne hv n2, lvl_set hle, lvl_set hle, if_neg n1, if_neg n2]
  exact ⟨h3, h4⟩
end Go.Proofs.YtdgpmopcmacicaaPi

/- Plain: what spread keeps. No program in sight. -/
set_option linter.unusedVariables false
set_option linter.unusedSimpArgs false
set_option linter.unusedSectionVars false
namespace Go.Proofs.YtdgpmopcmacicaaPi
structure Ext (S S' : Sol) : Prop where
  n : S'.n = S.n
  st : S'.st = S.st
  nx : S'.next = S.next
  cln : S'.cl.length = S.cl.length
  cls : ∀ k, k < S.cl.length → ∀ x, x ∈ S'.cla k ↔ x ∈ S.cla k
  trp : S.tr.length ≤ S'.tr.length
  lits : ∀ i, i < S.tr.length → S'.lit i = S.lit i
  old : ∀ i, i < S.tr.length → S'.wy (S.lit i) = S.wy (S.lit i)
  new : ∀ i, S.tr.length ≤ i → i < S'.tr.length → 0 ≤ S'.wy (S'.lit i)
theorem Ext.refl (S : Sol) : Ext S S := ⟨rfl, rfl, rfl, rfl, fun _ _ _ => Iff.rfl, Nat.le_refl _, fun _ _ => rfl, fun _ _ => rfl, fun i h1 h2 => by omega⟩
theorem Ext.trans {S1 S2 S3 : Sol} (h : Ext S1 S2) (k : Ext S2 S3) : Ext S1 S3 :=
  ⟨k.n.trans h.n, k.st.trans h.st, k.nx.trans h.nx, k.cln.trans h.cln, fun c hc x => (k.cls c (by rw [h.cln]; exact hc) x).trans (h.cls c hc x), Nat.le_trans h.trp k.trp,
    fun i hi => (k.lits i (Nat.lt_of_lt_of_le hi h.trp)).trans (h.lits i hi), fun i hi => by
      have h1 := k.old i (Nat.lt_of_lt_of_le hi h.trp)
      rw [h.lits i hi] at h1
      exact h1.trans (h.old i hi), fun i h1 h2 => by
      by_cases e : i < S2.tr.length
      · rw [k.lits i e, k.old i e]
        exact h.new i h1 e
      · exact k.new i (by omega) h2⟩
theorem Ext.putC {S : Sol} {k : Nat} {c : List Int} (hk : k < S.cl.length) (hm : ∀ x, x ∈ c ↔ x ∈ S.cla k) : Ext S (S.putC k c) :=
  ⟨rfl, rfl, rfl, putC_len _ _ _, fun j hj x => by
    rw [putC_cla hk]
    split
    · rename_i e; subst e; exact hm x
    · exact Iff.rfl, Nat.le_refl _, fun _ _ => rfl, fun _ _ => rfl, fun i h1 h2 => absurd h2 (Nat.not_lt.2 h1)⟩
theorem Ext.set {S : Sol} {B : Nat} (hS : SW S B) {l : Int} {k : Nat} (hl : LitOk S.n l) (hu : S.val.getD l.natAbs 0 = 0) : Ext S (S.set l k) := by
  have h2 := hl.2
  have hwy : l.natAbs < S.why.length := by rw [hS.len.why]; omega
  refine ⟨rfl, rfl, rfl, rfl, fun _ _ _ => Iff.rfl, by simp [Sol.set], fun i hi => by rw [lit_set, if_pos hi], fun i hi => by rw [wy_set hwy, if_neg (off_trail hS hu hi)], fun i h3 h4 => ?_⟩
  have e : i = S.tr.length := by simp [Sol.set] at h4; omega
  subst e
  rw [lit_set, if_neg (by omega), if_pos rfl, wy_set hwy, if_pos rfl]
  omega
theorem true_on {S : Sol} {B : Nat} (h : SW S B) (k : Inv S) {x : Int} (hx : LitOk S.n x) (hf : S.is x = 1) : ∃ i, i < S.tr.length ∧ S.lit i = x := by
  obtain ⟨i, hi, e⟩ := false_on h k (x := -x) ⟨by have := hx.1; omega, by rw [Int.natAbs_neg]; exact hx.2⟩ (by rw [is_neg' S hx.1, hf])
  exact ⟨i, hi, by rw [e, Int.neg_neg]⟩
theorem lvl_neg (S : Sol) (x : Int) : S.lvl (-x) = S.lvl x := by rw [Sol.lvl, Sol.lvl, Int.natAbs_neg]
theorem lvl_le {S : Sol} {B : Nat} (h : SW S B) (k : Inv S) {x : Int} (hx : LitOk S.n x) (hf : S.is x = 1) : S.lvl x ≤ S.st.length := by
  obtain ⟨i, hi, e⟩ := true_on h k hx hf
  rw [← e, k.lev i hi]
  exact lv_le _ _
structure Flux (l : Int) (S : Sol) (kept R : List Nat) : Prop where
  inv : Inv S
  wat : (S.putW (atL l) (kept ++ R)).Wat
  pro : S.Pro (fun k a => k ∈ R ∧ a = l)
  cur : ∃ j, j < S.head ∧ S.lit j = -l
  lvc : S.lvl l = S.st.length
theorem turn_turned (l : Int) {c : List Int} (h : 2 ≤ c.length) : Turned c (Sol.turn l c) := by
  refine ⟨turn_len l c, ?_⟩
  unfold Sol.turn
  split
  · exact .inr ⟨by rw [swapAt_get (by omega) (by omega)]; rfl, by rw [swapAt_get (by omega) (by omega)]; rfl⟩
  · exact .inl rfl
theorem turn_iff (l : Int) {c : List Int} (h : 2 ≤ c.length) (x : Int) : x ∈ Sol.turn l c ↔ x ∈ c := by
  unfold Sol.turn
  split
  · exact swapAt_iff (by omega) (by omega) x
  · exact Iff.rfl
theorem turn_dis (l : Int) {c : List Int} (h : 2 ≤ c.length) (hd : Dis c) : Dis (Sol.turn l c) := by
  unfold Sol.turn
  split
  · exact swapAt_dis hd (by omega) (by omega)
  · exact hd
theorem Flux.turn {l : Int} {S : Sol} {kept R : List Nat} (h : Flux l S kept R) {k : Nat} (hk : k < S.cl.length) (h2 : 2 ≤ (S.cla k).length) : Flux l (S.putC k (Sol.turn l (S.cla k))) kept R :=
  ⟨h.inv.putC hk (turn_dis l h2 (h.inv.dis k hk)) (turn_iff l h2), Wat.turned (S := S.putW (atL l) (kept ++ R)) hk h.wat (turn_turned l h2), Pro.turned hk h.pro (turn_turned l h2), h.cur, h.lvc⟩
theorem scan_ge (S : Sol) (c : List Int) : ∀ (m j : Nat), c.length - j = m → j ≤ S.scan c j
  | 0, j, h => by rw [scan_stop (fun h2 => by omega)]; exact Nat.le_refl _
  | m + 1, j, h => by
    by_cases h1 : j < c.length ∧ S.is (c.getD j 0) = -1
    · rw [scan_more h1.1 h1.2]
      have := scan_ge S c m (j + 1) (by omega)
      omega
    · rw [scan_stop h1]; exact Nat.le_refl _
theorem scan_all (S : Sol) (c : List Int) : ∀ (m j : Nat), c.length - j = m → ∀ i, j ≤ i → i < S.scan c j → i < c.length ∧ S.is (c.getD i 0) = -1
  | 0, j, h, i, h1, h2 => by rw [scan_stop (fun h2 => by omega)] at h2; omega
  | m + 1, j, h, i, h1, h2 => by
    by_cases h3 : j < c.length ∧ S.is (c.getD j 0) = -1
    · rw [scan_more h3.1 h3.2] at h2
      by_cases e : i = j
      · subst e; exact h3
      · exact scan_all S c m (j + 1) (by omega) i (by omega) h2
    · rw [scan_stop h3] at h2; omega
theorem scan_not (S : Sol) (c : List Int) : ∀ (m j : Nat), c.length - j = m → S.scan c j < c.length → S.is (c.getD (S.scan c j) 0) ≠ -1
  | 0, j, h, h2 => by rw [scan_stop (fun h2 => by omega)] at h2; omega
  | m + 1, j, h, h2 => by
    by_cases h3 : j < c.length ∧ S.is (c.getD j 0) = -1
    · rw [scan_more h3.1 h3.2] at h2 ⊢
      exact scan_not S c m (j + 1) (by omega) h2
    · rw [scan_stop h3] at h2 ⊢
      exact fun e => h3 ⟨h2, e⟩
theorem atL_inj' {n : Nat} {a b : Int} (ha : LitOk n a) (hb : LitOk n b) (h : atL a = atL b) : a = b := by
  have h1 := atL_cast ha
  have h2 := atL_cast hb
  rw [h, h2] at h1
  split at h1 <;> split at h1 <;> omega
theorem Flux.lok {l : Int} {S : Sol} {kept R : List Nat} {B : Nat} (hS : SW S B) (h : Flux l S kept R) : LitOk S.n l ∧ S.is l = -1 := by
  obtain ⟨j, hj, e⟩ := h.cur
  have hj2 : j < S.tr.length := Nat.lt_of_lt_of_le hj hS.hd
  have := lit_ok hS hj2
  rw [e] at this
  exact ⟨⟨by have := this.1; omega, by have := this.2; rwa [Int.natAbs_neg] at this⟩, on_false hS hj2 e⟩
theorem putW_wl {S : Sol} {i : Nat} {ks : List Nat} (h : i < S.wl.length) (j : Nat) : (S.putW i ks).wl.getD j [] = if j = i then ks else S.wl.getD j [] := getD_set _ _ _ _ _ h
/-- What stands at hand of the clause that is looked at: its second literal is the false one. -/
theorem Flux.clause {l : Int} {S : Sol} {kept R : List Nat} {B k : Nat} (hS : SW S B) (h : Flux l S kept (k :: R)) : k < S.cl.length ∧ 2 ≤ (S.cla k).length ∧ (∀ x ∈ S.cla k, LitOk S.n x) ∧ (Sol.turn l (S.cla k)).getD 1 0 = l := by
  obtain ⟨hl, _⟩ := h.lok hS
  have hi := atL_lt hl
  have hlt : atL l < S.wl.length := by rw [hS.len.wl]; exact hi
  have hm := (h.wat (atL l) hi).2 k
  rw [putW_wl hlt, if_pos rfl] at hm
  obtain ⟨h1, h2⟩ := hm.1 (by simp)
  obtain ⟨c1, c2, c3⟩ := hS.cl (k := k) h1
  refine ⟨h1, c1, c3, ?_⟩
  have a0 : LitOk S.n ((S.cla k).getD 0 0) := c3 _ (getD_mem (by omega))
  have a1 : LitOk S.n ((S.cla k).getD 1 0) := c3 _ (getD_mem (by omega))
  unfold Sol.turn
  split
  · rename_i e
    rw [swapAt_get (by show 0 < (S.cla k).length; have : 2 ≤ (S.cla k).length := c1; omega) (by show 1 < (S.cla k).length; exact c1)]
    exact e
  · rename_i e
    rcases h2 with h2 | h2
    · exact absurd (atL_inj' a0 hl h2) e
    · exact atL_inj' a1 hl h2
theorem visit_flux {l : Int} {S : Sol} {kept R : List Nat} {B k : Nat} (hS : SW S B) (h : Flux l S kept (k :: R)) : Ext S (Sol.visit l S kept k).1 ∧
    ((Sol.visit l S kept k).2.2 = false → Flux l (Sol.visit l S kept k).1 (Sol.visit l S kept k).2.1 R) ∧
    ((Sol.visit l S kept k).2.2 = true → Flux l (Sol.visit l S kept k).1 kept (k :: R) ∧ (Sol.visit l S kept k).2.1 = kept ++ [k] ∧ k < S.cl.length ∧ l ∈ (Sol.visit l S kept k).1.cla k ∧ ∀ x ∈ (Sol.visit l S kept k).1.cla k, (Sol.visit l S kept k).1.is x = -1) := by
  obtain ⟨hk, h2, hlo, hc1⟩ := h.clause hS
  obtain ⟨hl, hlf⟩ := h.lok hS
  have hF := h.turn hk h2
  have hE := Ext.putC (c := Sol.turn l (S.cla k)) hk (turn_iff l h2)
  have hD := turn_dis l h2 (h.inv.dis k hk)
  have hlen : (Sol.turn l (S.cla k)).length = (S.cla k).length := turn_len _ _
  have hmem := turn_iff l h2
  have hW : SW (S.putC k (Sol.turn l (S.cla k))) B := hS.putC ⟨by rw [hlen]; exact h2, by rw [hlen]; exact (hS.cl hk).2.1, fun x hx => hlo x ((hmem x).1 hx)⟩
  have hcla : (S.putC k (Sol.turn l (S.cla k))).cla k = Sol.turn l (S.cla k) := by rw [putC_cla hk, if_pos rfl]
  unfold Sol.visit
  show Ext S (if S.is ((Sol.turn l (S.cla k)).getD 0 0) = 1 then _ else _ : Sol × List Nat × Bool).1 ∧ _
  simp only
  have hvis : S.cl.getD k [] = S.cla k := rfl
  rw [hvis]
  generalize Sol.turn l (S.cla k) = c at *
  have hc2 : 2 ≤ c.length := by omega
  have l0 : LitOk S.n (c.getD 0 0) := hlo _ ((hmem _).1 (getD_mem (by omega)))
  have hne : c.getD 0 0 ≠ l := fun e => by
    have := hD 0 1 (by omega) (by omega) (by rw [e, hc1])
    omega
  obtain ⟨j0, hj0, hjl⟩ := hF.cur
  have app : kept ++ [k] ++ R = kept ++ k :: R := by simp
  -- a state in which the clause is kept
  have keep : ∀ S' : Sol, Inv S' → (S'.putW (atL l) (kept ++ k :: R)).Wat → S'.Pro (fun q a => q ∈ k :: R ∧ a = l) → (∃ j, j < S'.head ∧ S'.lit j = -l) → S'.lvl l = S'.st.length → S'.cla k = c → S'.is (c.getD 0 0) = 1 → S'.lvl (c.getD 0 0) ≤ S'.lvl l → Flux l S' (kept ++ [k]) R := fun S' g1 g2 g3 g4 g5 g6 g7 g8 =>
    ⟨g1, by rw [app]; exact g2, fun j hj p q hpq i hi e hex => by
      by_cases e1 : j = k ∧ (S'.cla j).getD p 0 = l
      · obtain ⟨rfl, e2⟩ := e1
        rw [g6] at e2 ⊢
        rcases hpq with ⟨rfl, rfl⟩ | ⟨rfl, rfl⟩
        · exact absurd e2 hne
        · rw [e2]; exact ⟨g7, g8⟩
      · exact g3 j hj p q hpq i hi e (fun h3 => by
          rcases List.mem_cons.1 h3.1 with h4 | h4
          · exact e1 ⟨h4, h3.2⟩
          · exact hex ⟨h4, h3.2⟩), g4, g5⟩
  split
  · rename_i ht
    refine ⟨hE, fun _ => keep _ hF.inv hF.wat hF.pro hF.cur hF.lvc hcla ht ?_, fun h3 => by simp at h3⟩
    rw [hF.lvc]
    exact lvl_le hW hF.inv l0 ht
  · rename_i hn1
    split
    · rename_i hj
      have hj2 := scan_ge S c _ 2 rfl
      have hjn := scan_not S c _ 2 rfl hj
      generalize S.scan c 2 = j at hj hj2 hjn
      have hc' : ∀ x, x ∈ Sol.swapAt c 1 j ↔ x ∈ S.cla k := fun x => (swapAt_iff (by omega) hj x).trans (hmem x)
      have x0 : (Sol.swapAt c 1 j).getD 0 0 = c.getD 0 0 := by rw [swapAt_get (by omega) hj, if_neg (by omega), if_neg (by omega)]
      have x1 : (Sol.swapAt c 1 j).getD 1 0 = c.getD j 0 := by rw [swapAt_get (by omega) hj, if_neg (by omega), if_pos rfl]
      have lj : LitOk S.n (c.getD j 0) := hlo _ ((hmem _).1 (getD_mem hj))
      have nj0 : c.getD j 0 ≠ c.getD 0 0 := fun e => by have := hD j 0 hj (by omega) e; omega
      have njl : c.getD j 0 ≠ l := fun e => by have := hD j 1 hj (by omega) (by rw [e, hc1]); omega
      have hI := h.inv.putC hk (swapAt_dis hD (by omega) hj) hc'
      have hcl2 : ∀ q, (S.putC k (Sol.swapAt c 1 j)).cla q = if q = k then Sol.swapAt c 1 j else S.cla q := putC_cla hk
      have hcl1 : ∀ q, (S.putC k c).cla q = if q = k then c else S.cla q := putC_cla hk
      have hE2 := Ext.putC (c := Sol.swapAt c 1 j) hk hc'
      refine ⟨⟨hE2.n, hE2.st, hE2.nx, hE2.cln, hE2.cls, hE2.trp, hE2.lits, hE2.old, hE2.new⟩, fun _ => ⟨⟨hI.dis, hI.asd, hI.sts, hI.stl, hI.lev, hI.why, hI.nxt⟩, fun i hi => ?_, fun q hq p r hpr i hi e hex => ?_, hF.cur, hF.lvc⟩, fun h3 => by simp at h3⟩
      · have hil := atL_lt hl
        have hlt : atL l < S.wl.length := by rw [hS.len.wl]; exact hil
        have hjt : atL (c.getD j 0) < S.wl.length := by rw [hS.len.wl]; exact atL_lt lj
        obtain ⟨o1, o2⟩ := hF.wat i hi
        have e1 : ((S.putC k c).putW (atL l) (kept ++ k :: R)).wl.getD i [] = if i = atL l then kept ++ k :: R else S.wl.getD i [] := putW_wl (S := S.putC k c) hlt i
        have e2 : (Sol.putW { S.putC k (Sol.swapAt c 1 j) with wl := Sol.push S.wl (atL ((Sol.swapAt c 1 j).getD 1 0)) k } (atL l) (kept ++ R)).wl.getD i [] = if i = atL l then kept ++ R else if i = atL (c.getD j 0) then S.wl.getD i [] ++ [k] else S.wl.getD i [] := by
          refine (putW_wl (S := { S.putC k (Sol.swapAt c 1 j) with wl := Sol.push S.wl (atL ((Sol.swapAt c 1 j).getD 1 0)) k }) (by simp [Sol.push]; exact hlt) i).trans ?_
          split
          · rfl
          · show (Sol.push S.wl (atL ((Sol.swapAt c 1 j).getD 1 0)) k).getD i [] = _
            rw [x1, Sol.push, getD_set _ _ _ _ _ hjt]
            split
            · rename_i e; rw [e]
            · rfl
        rw [e1] at o1 o2
        have o3 : ∀ q, q < S.cl.length ∧ (atL (((S.putC k c).cla q).getD 0 0) = i ∨ atL (((S.putC k c).cla q).getD 1 0) = i) ↔ (q ∈ if i = atL l then kept ++ k :: R else S.wl.getD i []) := fun q => by
          have := o2 q
          rw [this]
          show _ ↔ q < (S.putC k c).cl.length ∧ _
          rw [putC_len]
          exact Iff.rfl
        show (List.getD (Sol.putW { S.putC k (Sol.swapAt c 1 j) with wl := Sol.push S.wl (atL ((Sol.swapAt c 1 j).getD 1 0)) k } (atL l) (kept ++ R)).wl i []).Nodup ∧ ∀ q, q ∈ (List.getD (Sol.putW { S.putC k (Sol.swapAt c 1 j) with wl := Sol.push S.wl (atL ((Sol.swapAt c 1 j).getD 1 0)) k } (atL l) (kept ++ R)).wl i []) ↔ q < (S.putC k (Sol.swapAt c 1 j)).cl.length ∧ (atL (((S.putC k (Sol.swapAt c 1 j)).cla q).getD 0 0) = i ∨ atL (((S.putC k (Sol.swapAt c 1 j)).cla q).getD 1 0) = i)
        rw [e2, putC_len]
        have sameq : ∀ q, q ≠ k → (q < S.cl.length ∧ (atL (((S.putC k (Sol.swapAt c 1 j)).cla q).getD 0 0) = i ∨ atL (((S.putC k (Sol.swapAt c 1 j)).cla q).getD 1 0) = i) ↔ (q ∈ if i = atL l then kept ++ k :: R else S.wl.getD i [])) := fun q hq => by
          rw [← o3 q, hcl1, hcl2, if_neg hq, if_neg hq]
        have atk : (atL (((S.putC k (Sol.swapAt c 1 j)).cla k).getD 0 0) = i ∨ atL (((S.putC k (Sol.swapAt c 1 j)).cla k).getD 1 0) = i) ↔ (atL (c.getD 0 0) = i ∨ atL (c.getD j 0) = i) := by
          rw [hcl2, if_pos rfl, x0, x1]
        have ok := o3 k
        rw [hcl1, if_pos rfl, hc1] at ok
        by_cases il : i = atL l
        · rw [if_pos il] at o1
          simp only [if_pos il] at sameq ⊢
          have nk : k ∉ kept ++ R ∧ (kept ++ R).Nodup := by
            rw [List.nodup_append] at o1
            obtain ⟨p1, p2, p3⟩ := o1
            rw [List.nodup_cons] at p2
            refine ⟨fun hm => ?_, List.nodup_append.2 ⟨p1, p2.2, fun a ha b hb => p3 a ha b (List.mem_cons_of_mem _ hb)⟩⟩
            rcases List.mem_append.1 hm with hm | hm
            · exact p3 k hm k (by simp) rfl
            · exact p2.1 hm
          refine ⟨nk.2, fun q => ?_⟩
          by_cases e : q = k
          · subst e
            rw [atk]
            refine ⟨fun hm => absurd hm nk.1, fun hm => ?_⟩
            rcases hm.2 with e | e
            · exact absurd (atL_inj' l0 hl (e.trans il)) hne
            · exact absurd (atL_inj' lj hl (e.trans il)) njl
          · rw [sameq q e]
            simp [e]
        · simp only [if_neg il] at sameq ok o1 ⊢
          have nk : atL (c.getD 0 0) ≠ i → k ∉ S.wl.getD i [] := fun hn hm => by
            rcases (ok.2 hm).2 with e | e
            · exact hn e
            · exact il e.symm
          by_cases ij : i = atL (c.getD j 0)
          · simp only [if_pos ij]
            have hk0 : k ∉ S.wl.getD i [] := nk (fun e => nj0 (atL_inj' lj l0 (ij.symm.trans e.symm)))
            refine ⟨List.nodup_append.2 ⟨o1, by simp, fun a ha b hb => fun e => hk0 (by rw [List.mem_singleton.1 hb] at e; rw [← e]; exact ha)⟩, fun q => ?_⟩
            by_cases e : q = k
            · subst e
              rw [atk]
              exact ⟨fun _ => ⟨hk, .inr ij.symm⟩, fun _ => by simp⟩
            · rw [sameq q e]
              simp [e]
          · simp only [if_neg ij]
            refine ⟨o1, fun q => ?_⟩
            by_cases e : q = k
            · subst e
              rw [atk, ← ok]
              exact ⟨fun h3 => ⟨hk, h3.2.elim .inl (fun e => absurd e.symm il)⟩, fun h3 => ⟨hk, h3.2.elim .inl (fun e => absurd e.symm ij)⟩⟩
            · rw [sameq q e]
      · have hq2 : q < S.cl.length := by rw [← putC_len S k (Sol.swapAt c 1 j)]; exact hq
        have hi2 : i < S.tr.length := Nat.lt_of_lt_of_le hi hS.hd
        show S.is (((S.putC k (Sol.swapAt c 1 j)).cla q).getD r 0) = 1 ∧ S.lvl (((S.putC k (Sol.swapAt c 1 j)).cla q).getD r 0) ≤ S.lvl (((S.putC k (Sol.swapAt c 1 j)).cla q).getD p 0)
        have e' : S.lit i = -(((S.putC k (Sol.swapAt c 1 j)).cla q).getD p 0) := e
        have hex' : ¬ (q ∈ R ∧ ((S.putC k (Sol.swapAt c 1 j)).cla q).getD p 0 = l) := hex
        rw [hcl2] at e' hex' ⊢
        by_cases eq : q = k
        · subst eq
          rw [if_pos rfl] at e' hex' ⊢
          exfalso
          rcases hpr with ⟨rfl, rfl⟩ | ⟨rfl, rfl⟩
          · rw [x0] at e'
            have := hF.pro q (by rw [putC_len]; exact hk) 0 1 (.inl ⟨rfl, rfl⟩) i hi (by rw [hcla]; exact e') (by rw [hcla]; exact fun h3 => hne h3.2)
            rw [hcla, hc1] at this
            have h4 : S.is l = 1 := this.1
            omega
          · rw [x1] at e'
            exact hjn (on_false hS hi2 e')
        · rw [if_neg eq] at e' hex' ⊢
          have := hF.pro q (by rw [putC_len]; exact hq2) p r hpr i hi (by rw [hcl1, if_neg eq]; exact e') (by
            rw [hcl1, if_neg eq]
            exact fun h3 => hex' ⟨(List.mem_cons.1 h3.1).resolve_left eq, h3.2⟩)
          rw [hcl1, if_neg eq] at this
          exact this
    · rename_i hj
      have hfal : ∀ x ∈ c, x ≠ c.getD 0 0 → S.is x = -1 := fun x hx hx0 => by
        obtain ⟨i, hi, e⟩ := mem_getD (d := 0) hx
        by_cases i0 : i = 0
        · subst i0; exact absurd e.symm hx0
        · by_cases i1 : i = 1
          · subst i1; rw [← e, hc1]; exact hlf
          · rw [← e]
            exact (scan_all S c _ 2 rfl i (by omega) (by omega)).2
      split
      · rename_i hf0
        refine ⟨hE, fun h3 => by simp at h3, fun _ => ⟨hF, rfl, hk, by rw [hcla, ← hc1]; exact getD_mem (by omega), fun x hx => ?_⟩⟩
        rw [hcla] at hx
        show S.is x = -1
        by_cases e : x = c.getD 0 0
        · rw [e]; exact hf0
        · exact hfal x hx e
      · rename_i hn2
        have h0 : S.is (c.getD 0 0) = 0 := by
          rcases is_cases hS.len l0 with e | e | e
          · exact absurd e hn1
          · exact absurd e hn2
          · exact e
        have hu : (S.putC k c).val.getD (c.getD 0 0).natAbs 0 = 0 := is_zero h0
        have hle : (c.getD 0 0).natAbs < (S.putC k c).lev.length := by show _ < S.lev.length; rw [hS.len.lev]; have := l0.2; omega
        have hv : (c.getD 0 0).natAbs < (S.putC k c).val.length := by show _ < S.val.length; rw [hS.len.val]; have := l0.2; omega
        have hj3 : j0 < (S.putC k c).tr.length := Nat.lt_of_lt_of_le hj0 hW.hd
        have hab : l.natAbs ≠ (c.getD 0 0).natAbs := by
          have := off_trail hW hu hj3
          rw [hjl, Int.natAbs_neg] at this
          exact this
        refine ⟨hE.trans (Ext.set hW l0 hu), fun _ => keep _ (Inv.set hW hF.inv l0 hu (.inr ⟨k, rfl, by rw [putC_len]; exact hk, by rw [hcla]; exact getD_mem (by omega), fun x hx hx0 => ?_⟩)) hF.wat (Pro.set hW hF.pro l0 hu) ⟨j0, hj0, by rw [lit_set, if_pos hj3]; exact hjl⟩ ?_ hcla (is_set_same hv l0.1) ?_, fun h3 => by simp at h3⟩
        · rw [hcla] at hx
          exact false_on hW hF.inv (hlo x ((hmem x).1 hx)) (hfal x hx hx0)
        · rw [lvl_set hle, if_neg hab]; exact hF.lvc
        · rw [lvl_set hle, lvl_set hle, if_pos rfl, if_neg hab, hF.lvc]; exact Nat.le_refl _
/-- What a false clause shows. -/
structure Confl (S : Sol) (k : Nat) : Prop where
  inv : Inv S
  wat : S.Wat
  pro : S.Pro (fun _ a => S.lvl a = S.st.length)
  kl : k < S.cl.length
  cur : ∃ x ∈ S.cla k, S.lvl x = S.st.length
  fal : ∀ x ∈ S.cla k, S.is x = -1
structure Calm (S : Sol) : Prop where
  inv : Inv S
  wat : S.Wat
  pro : S.Pro (fun _ _ => False)
theorem inner_flux {l : Int} : ∀ (ks : List Nat) (S : Sol) (kept : List Nat) (B : Nat), SW S B → Flux l S kept ks → Ext S (Sol.inner l ks S kept).1 ∧ (Sol.inner l ks S kept).1.head = S.head ∧
    ((Sol.inner l ks S kept).2 = none → Calm (Sol.inner l ks S kept).1) ∧ (∀ k, (Sol.inner l ks S kept).2 = some k → Confl (Sol.inner l ks S kept).1 k)
  | [], S, kept, B, hS, h => by
    rw [Sol.inner]
    have hw := h.wat
    rw [List.append_nil] at hw
    refine ⟨⟨rfl, rfl, rfl, rfl, fun _ _ _ => Iff.rfl, Nat.le_refl _, fun _ _ => rfl, fun _ _ => rfl, fun i h1 h2 => absurd h2 (Nat.not_lt.2 h1)⟩, rfl, fun _ => ⟨⟨h.inv.dis, h.inv.asd, h.inv.sts, h.inv.stl, h.inv.lev, h.inv.why, h.inv.nxt⟩, hw, fun j hj p q hpq i hi e _ => h.pro j hj p q hpq i hi e (fun h3 => by simp at h3)⟩, fun k hk => by simp at hk⟩
  | k :: ks, S, kept, B, hS, h => by
    obtain ⟨hE, h1, h2⟩ := visit_flux hS h
    obtain ⟨hk, _⟩ := h.clause hS
    obtain ⟨s1, s2, s3, s4, s5⟩ := visit_sw (l := l) (kept := kept) hS hk
    cases hv : Sol.visit l S kept k with
    | mk S' r =>
      obtain ⟨kept', b⟩ := r
      rw [hv] at hE h1 h2 s1 s5
      cases b with
      | true =>
        rw [inner_bad hv]
        obtain ⟨hF, hkp, hk2, hlm, hfa⟩ := h2 rfl
        simp only at hF hkp hlm hfa hE s5
        have hap : kept' ++ ks = kept ++ k :: ks := by rw [hkp]; simp
        have hi := hF.inv
        refine ⟨⟨hE.n, hE.st, hE.nx, hE.cln, hE.cls, hE.trp, hE.lits, hE.old, hE.new⟩, s5, fun h3 => by simp at h3, fun q hq => ?_⟩
        have e : k = q := by simpa using hq
        subst e
        exact ⟨⟨hi.dis, hi.asd, hi.sts, hi.stl, hi.lev, hi.why, hi.nxt⟩, by rw [hap]; exact hF.wat, fun j hj p q hpq i hi e hex => hF.pro j hj p q hpq i hi e (fun h3 => hex (by have e9 : (S'.cla j).getD p 0 = l := h3.2; show S'.lvl ((S'.cla j).getD p 0) = S'.st.length; rw [e9]; exact hF.lvc)), by show k < S'.cl.length; rw [hE.cln]; exact hk2, ⟨l, hlm, hF.lvc⟩, hfa⟩
      | false =>
        rw [inner_ok hv]
        have hF := h1 rfl
        simp only at hF hE s5 s1
        obtain ⟨g1, g2, g3, g4⟩ := inner_flux ks S' kept' _ s1 hF
        exact ⟨hE.trans g1, g2.trans s5, g3, g4⟩
theorem inner_sw {l : Int} : ∀ (ks : List Nat) (S : Sol) (kept : List Nat) (B : Nat), SW S B → Flux l S kept ks → ∃ B', SW (Sol.inner l ks S kept).1 B'
  | [], S, kept, B, hS, h => by
    rw [Sol.inner]
    obtain ⟨hl, _⟩ := h.lok hS
    have hi := atL_lt hl
    have hlt : atL l < S.wl.length := by rw [hS.len.wl]; exact hi
    have hw := (h.wat (atL l) hi).2
    exact ⟨B + kept.length, hS.putW hi (fun k hk => by
      have := (hw k).1 (by rw [putW_wl hlt, if_pos rfl]; simpa using hk)
      exact this.1) (by omega)⟩
  | k :: ks, S, kept, B, hS, h => by
    obtain ⟨hE, h1, h2⟩ := visit_flux hS h
    obtain ⟨hk, _⟩ := h.clause hS
    obtain ⟨s1, s2, s3, s4, s5⟩ := visit_sw (l := l) (kept := kept) hS hk
    cases hv : Sol.visit l S kept k with
    | mk S' r =>
      obtain ⟨kept', b⟩ := r
      rw [hv] at hE h1 h2 s1 s3
      cases b with
      | true =>
        rw [inner_bad hv]
        obtain ⟨hF, hkp, hk2, hlm, hfa⟩ := h2 rfl
        simp only at hF hkp s1 s3
        have hap : kept' ++ ks = kept ++ k :: ks := by rw [hkp]; simp
        obtain ⟨hl, _⟩ := hF.lok s1
        have hi := atL_lt hl
        have hlt : atL l < S'.wl.length := by rw [s1.len.wl]; exact hi
        have hw := (hF.wat (atL l) hi).2
        exact ⟨B + 1 + (kept' ++ ks).length, s1.putW hi (fun q hq => by
          have := (hw q).1 (by rw [putW_wl hlt, if_pos rfl, ← hap]; exact hq)
          exact this.1) (by omega)⟩
      | false =>
        rw [inner_ok hv]
        exact inner_sw ks S' kept' _ s1 (h1 rfl)
theorem set_self {α : Type} (l : List α) (i : Nat) (d : α) : l.set i (l.getD i d) = l := by
  refine List.ext_getElem? fun j => ?_
  rw [List.getElem?_set]
  split
  · rename_i e
    subst e
    split
    · rename_i h; rw [getD_some d h]
    · rename_i h; rw [List.getElem?_eq_none (by omega)]
  · rfl
theorem head_flux {S : Sol} {B : Nat} (hS : SW S B) (h : Calm S) (hst : ∀ x ∈ S.st, x ≤ S.head) (hh : S.head < S.tr.length) : SW { S with head := S.head + 1 } B ∧ Flux (-(S.tr.getD S.head 0)) { S with head := S.head + 1 } [] (S.wl.getD (atL (-(S.tr.getD S.head 0))) []) := by
  have hi := h.inv
  have hlo := lit_ok hS hh
  have hll : LitOk S.n (-(S.lit S.head)) := ⟨by have := hlo.1; omega, by rw [Int.natAbs_neg]; exact hlo.2⟩
  refine ⟨⟨⟨hS.len.n, hS.len.val, hS.len.lev, hS.len.why, hS.len.wl, hS.len.tri, hS.len.tr, hS.len.trn, hS.len.stn⟩, hS.cls, hS.csz, hS.wls, hS.asg, hS.nd, hS.tot, hh⟩, ⟨hi.dis, hi.asd, hi.sts, hi.stl, hi.lev, hi.why, hi.nxt⟩, ?_, fun k hk p q hpq i hi2 e hex => ?_, ⟨S.head, Nat.lt_succ_self _, by rw [Int.neg_neg]; rfl⟩, ?_⟩
  · rw [List.nil_append]
    have : Sol.putW { S with head := S.head + 1 } (atL (-(S.tr.getD S.head 0))) (S.wl.getD (atL (-(S.tr.getD S.head 0))) []) = { S with head := S.head + 1 } := by
      unfold Sol.putW
      simp only [set_self]
    rw [this]
    exact h.wat
  · by_cases e2 : i < S.head
    · exact h.pro k hk p q hpq i e2 e (fun h => h)
    · exfalso
      have e3 : i = S.head := by have : i < S.head + 1 := hi2; omega
      subst e3
      have e4 : (S.cla k).getD p 0 = -(S.lit S.head) := by have : S.lit S.head = -((S.cla k).getD p 0) := e; rw [this, Int.neg_neg]
      refine hex ⟨((h.wat _ (atL_lt hll)).2 k).2 ⟨hk, ?_⟩, e4⟩
      rcases hpq with ⟨rfl, rfl⟩ | ⟨rfl, rfl⟩
      · exact .inl (by rw [e4])
      · exact .inr (by rw [e4])
  · show S.lvl (-(S.lit S.head)) = S.st.length
    rw [lvl_neg, hi.lev _ hh, lv_all hst]
theorem spread_calm : ∀ (f : Nat) (S : Sol) (B : Nat), SW S B → Calm S → (∀ x ∈ S.st, x ≤ S.head) → S.n + 1 ≤ f + S.head → Ext S (Sol.spread f S).1 ∧ (∃ B', SW (Sol.spread f S).1 B') ∧ S.head ≤ (Sol.spread f S).1.head ∧
    ((Sol.spread f S).2 = none → Calm (Sol.spread f S).1 ∧ (Sol.spread f S).1.head = (Sol.spread f S).1.tr.length) ∧ (∀ k, (Sol.spread f S).2 = some k → Confl (Sol.spread f S).1 k)
  | 0, S, B, hS, h, hst, hf => by
    have := hS.hd
    have := hS.len.trn
    omega
  | f + 1, S, B, hS, h, hst, hf => by
    rw [Sol.spread]
    split
    · rename_i hh
      obtain ⟨w1, w2⟩ := head_flux hS h hst hh
      obtain ⟨B', w3⟩ := inner_sw _ _ _ _ w1 w2
      obtain ⟨g1, g2, g3, g4⟩ := inner_flux _ _ _ _ w1 w2
      have hE : Ext S { S with head := S.head + 1 } := ⟨rfl, rfl, rfl, rfl, fun _ _ _ => Iff.rfl, Nat.le_refl _, fun _ _ => rfl, fun _ _ => rfl, fun i h1 h2 => absurd h2 (Nat.not_lt.2 h1)⟩
      cases hv : Sol.inner (-(S.tr.getD S.head 0)) (S.wl.getD (atL (-(S.tr.getD S.head 0))) []) { S with head := S.head + 1 } [] with
      | mk S' r =>
        rw [hv] at g1 g2 g3 g4 w3
        simp only at g1 g2 g3 g4 w3
        have hE2 := hE.trans g1
        cases r with
        | some k => exact ⟨hE2, ⟨_, w3⟩, by show S.head ≤ S'.head; rw [g2]; exact Nat.le_succ _, fun h3 => by simp at h3, fun q hq => g4 q hq⟩
        | none =>
          have r := spread_calm f S' B' w3 (g3 rfl) (by rw [hE2.st, g2]; exact fun x hx => Nat.le_succ_of_le (hst x hx)) (by rw [hE2.n, g2]; show S.n + 1 ≤ f + (S.head + 1); omega)
          exact ⟨hE2.trans r.1, r.2.1, Nat.le_trans (by rw [g2]; exact Nat.le_succ _) r.2.2.1, r.2.2.2⟩
    · rename_i hh
      exact ⟨Ext.refl S, ⟨B, hS⟩, Nat.le_refl _, fun _ => ⟨h, by have := hS.hd; show S.head = S.tr.length; omega⟩, fun k hk => by simp at hk⟩
end Go.Proofs.YtdgpmopcmacicaaPi

/- Plain: decisions, taking back, clauses that are learned: what they keep. No program in sight. -/
set_option linter.unusedVariables false
set_option linter.unusedSimpArgs false
set_option linter.unusedSectionVars false
namespace Go.Proofs.YtdgpmopcmacicaaPi
theorem skip_spec (v : List Int) : ∀ (m i : Nat), v.length - i = m → i ≤ v.length → i ≤ Sol.skip v i ∧ Sol.skip v i ≤ v.length ∧ (∀ j, i ≤ j → j < Sol.skip v i → v.getD j 0 ≠ 0) ∧ (Sol.skip v i < v.length → v.getD (Sol.skip v i) 0 = 0)
  | 0, i, h, h2 => by
    rw [skip_stop (fun h => by omega)]
    exact ⟨Nat.le_refl _, h2, fun j h3 h4 => by omega, fun h3 => by omega⟩
  | m + 1, i, h, h2 => by
    by_cases h1 : i < v.length ∧ v.getD i 0 ≠ 0
    · rw [skip_more h1.1 h1.2]
      obtain ⟨a, b, c, d⟩ := skip_spec v m (i + 1) (by omega) (by omega)
      refine ⟨by omega, b, fun j h3 h4 => ?_, d⟩
      by_cases e : j = i
      · subst e; exact h1.2
      · exact c j (by omega) h4
    · rw [skip_stop h1]
      exact ⟨Nat.le_refl _, h2, fun j h3 h4 => by omega, fun h3 => by
        by_cases e : v.getD i 0 = 0
        · exact e
        · exact absurd ⟨h3, e⟩ h1⟩
theorem snoc_getD {α : Type} (l : List α) (x d : α) (i : Nat) : (l ++ [x]).getD i d = if i < l.length then l.getD i d else if i = l.length then x else d := by
  simp only [List.getD_eq_getElem?_getD, List.getElem?_append]
  split
  · rfl
  · rename_i h
    by_cases e : i = l.length
    · subst e; simp
    · rw [if_neg e, List.getElem?_eq_none (by simp; omega)]; rfl
theorem Calm.start {S : Sol} (h : Calm S) {p : Nat} (hst : ∀ x ∈ S.st, x < S.tr.length) (hp : ∀ v, 1 ≤ v → v < p → S.val.getD v 0 ≠ 0) : Calm (S.start p) := by
  have hi := h.inv
  refine ⟨⟨hi.dis, hi.asd, fun i j hij hj => ?_, fun x hx => ?_, fun i hi2 => ?_, fun i hi2 => ?_, hp⟩, h.wat, h.pro⟩
  · show (S.st ++ [S.tr.length]).getD i 0 < (S.st ++ [S.tr.length]).getD j 0
    have hj2 : j < S.st.length + 1 := by simpa [Sol.start] using hj
    rw [snoc_getD, snoc_getD, if_pos (by omega)]
    split
    · exact hi.sts i j hij (by omega)
    · rw [if_pos (by omega)]
      exact hst _ (getD_mem (by omega))
  · rcases List.mem_append.1 (show x ∈ S.st ++ [S.tr.length] from hx) with h1 | h1
    · exact hi.stl x h1
    · rw [List.mem_singleton.1 h1]; exact Nat.le_refl _
  · show S.lvl (S.lit i) = lv (S.st ++ [S.tr.length]) i
    rw [lv_snoc (show i < S.tr.length from hi2)]
    exact hi.lev i hi2
  · rcases hi.why i hi2 with ⟨h1, h2⟩ | h1
    · refine .inl ⟨h1, ?_⟩
      rcases h2 with h2 | h2
      · exact .inl (List.mem_append.2 (.inl h2))
      · exact .inr (by show lv (S.st ++ [S.tr.length]) i = 0; rw [lv_snoc (show i < S.tr.length from hi2)]; exact h2)
    · exact .inr h1
theorem Calm.set {S : Sol} {B : Nat} (hS : SW S B) (h : Calm S) {l w : Int} (hl : LitOk S.n l) (hu : S.val.getD l.natAbs 0 = 0) (hw : (w = -1 ∧ (S.tr.length ∈ S.st ∨ lv S.st S.tr.length = 0)) ∨ ∃ c : Nat, w = (c : Int) ∧ S.Forced S.tr.length c l) : Calm (S.set l w) :=
  ⟨Inv.set hS h.inv hl hu hw, h.wat, Pro.set hS h.pro hl hu⟩
theorem decide_calm {S : Sol} {B : Nat} (hS : SW S B) (h : Calm S) (hst : ∀ x ∈ S.st, x < S.tr.length) (h1 : 1 ≤ S.next) (h2 : S.next ≤ S.n + 1) :
    (S.decide.2 = false → S.decide.1 = S.nextTo (S.n + 1) ∧ ∀ v, 1 ≤ v → v ≤ S.n → S.val.getD v 0 ≠ 0) ∧
    (S.decide.2 = true → ∃ p, 1 ≤ p ∧ p ≤ S.n ∧ S.decide.1 = (S.start p).set (-(p : Int)) (-1) ∧ S.val.getD p 0 = 0 ∧ SW S.decide.1 B ∧ Calm S.decide.1 ∧ S.tr.length < S.n) := by
  have hsk := skip_spec S.val _ S.next rfl (by rw [hS.len.val]; omega)
  unfold Sol.decide
  split
  · rename_i e
    rw [e] at hsk
    refine ⟨fun _ => ⟨rfl, fun v h3 h4 => ?_⟩, fun h3 => by simp at h3⟩
    by_cases e2 : v < S.next
    · exact h.inv.nxt v h3 e2
    · exact hsk.2.2.1 v (by omega) (by omega)
  · rename_i e
    refine ⟨fun h3 => by simp at h3, fun _ => ?_⟩
    obtain ⟨a, b, c, d⟩ := hsk
    rw [hS.len.val] at b d
    generalize Sol.skip S.val S.next = p at a b c d e
    have hp := d (by omega)
    have hfl := free_len hS (p := p) (by omega) (by omega) hp
    have hsl : S.st.length + 1 ≤ S.n := by
      have : S.st.length ≤ S.tr.length := by
        have grow : ∀ i, i < S.st.length → i ≤ S.st.getD i 0 := fun i => by
          induction i with
          | zero => intro _; omega
          | succ i ih =>
            intro hi
            have := ih (by omega)
            have := h.inv.sts i (i + 1) (by omega) hi
            omega
        by_cases e0 : S.st.length = 0
        · omega
        · have := grow (S.st.length - 1) (by omega)
          have := hst _ (getD_mem (l := S.st) (i := S.st.length - 1) (d := 0) (by omega))
          omega
      omega
    have hs1 : SW (S.start p) B := hS.start hsl
    have hc1 : Calm (S.start p) := h.start hst (fun v h3 h4 => by
      by_cases e2 : v < S.next
      · exact h.inv.nxt v h3 e2
      · exact c v (by omega) h4)
    have hl : LitOk (S.start p).n (-(p : Int)) := ⟨by omega, by show (-(p : Int)).natAbs ≤ S.n; omega⟩
    have hu : (S.start p).val.getD (-(p : Int)).natAbs 0 = 0 := by rw [show (-(p : Int)).natAbs = p by omega]; exact hp
    refine ⟨p, by omega, by omega, rfl, hp, hs1.set _ hl hu, hc1.set hs1 hl hu (.inl ⟨rfl, .inl ?_⟩), hfl⟩
    show S.tr.length ∈ S.st ++ [S.tr.length]
    simp
/-- Back. -/
theorem zero_get (ls : List Int) : ∀ (v : List Int), (∀ l ∈ ls, l.natAbs < v.length) → ∀ j, (Sol.zero v ls).getD j 0 = if j ∈ ls.map Int.natAbs then 0 else v.getD j 0 := by
  induction ls with
  | nil => intro v _ j; rfl
  | cons x xs ih =>
    intro v hv j
    show (Sol.zero (v.set x.natAbs 0) xs).getD j 0 = _
    rw [ih _ (fun l hl => by simpa using hv l (List.mem_cons_of_mem _ hl)) j, getD_set _ _ _ _ _ (hv x (by simp))]
    by_cases e : j ∈ xs.map Int.natAbs
    · rw [if_pos e, if_pos (by simp only [List.map_cons]; exact List.mem_cons_of_mem _ e)]
    · rw [if_neg e]
      by_cases e2 : j = x.natAbs
      · rw [if_pos e2, if_pos (by simp [e2])]
      · rw [if_neg e2, if_neg (by simp only [List.map_cons, List.mem_cons]; exact fun h => h.elim e2 e)]
theorem low_le (ls : List Int) : ∀ p, Sol.low p ls ≤ p ∧ ∀ l ∈ ls, Sol.low p ls ≤ l.natAbs := by
  induction ls with
  | nil => intro p; exact ⟨Nat.le_refl _, fun l h => by simp at h⟩
  | cons x xs ih =>
    intro p
    obtain ⟨a, b⟩ := ih (min p x.natAbs)
    have e : Sol.low p (x :: xs) = Sol.low (min p x.natAbs) xs := rfl
    rw [e]
    refine ⟨by omega, fun l hl => ?_⟩
    rcases List.mem_cons.1 hl with rfl | hl
    · omega
    · exact b l hl
theorem low_ge (ls : List Int) (q : Nat) : ∀ p, q ≤ p → (∀ l ∈ ls, q ≤ l.natAbs) → q ≤ Sol.low p ls := by
  induction ls with
  | nil => intro p h _; exact h
  | cons x xs ih =>
    intro p h h2
    have e : Sol.low p (x :: xs) = Sol.low (min p x.natAbs) xs := rfl
    rw [e]
    exact ih _ (by have := h2 x (by simp); omega) (fun l hl => h2 l (List.mem_cons_of_mem _ hl))
theorem lv_take {st : List Nat} {d i : Nat} (hs : ∀ i j, i < j → j < st.length → st.getD i 0 < st.getD j 0) (hd : d < st.length) (hi : i < st.getD d 0) : lv st i = lv (st.take d) i := by
  have e : st.filter (fun s => decide (s ≤ i)) = (st.take d).filter (fun s => decide (s ≤ i)) ++ (st.drop d).filter (fun s => decide (s ≤ i)) := by rw [← List.filter_append, List.take_append_drop]
  have e2 : (st.drop d).filter (fun s => decide (s ≤ i)) = [] := by
    rw [List.filter_eq_nil_iff]
    intro x hx
    obtain ⟨k, hk, e⟩ := mem_getD (d := 0) hx
    simp only [List.length_drop] at hk
    have e3 : (st.drop d).getD k 0 = st.getD (d + k) 0 := by simp [List.getD_eq_getElem?_getD, List.getElem?_drop]
    rw [e3] at e
    have : st.getD d 0 ≤ x := by
      by_cases k0 : k = 0
      · subst k0; rw [← e]; exact Nat.le_refl _
      · have := hs d (d + k) (by omega) (by omega); omega
    simp; omega
  unfold lv
  rw [e, e2, List.append_nil]
theorem lv_lt {st : List Nat} {d i : Nat} (hs : ∀ i j, i < j → j < st.length → st.getD i 0 < st.getD j 0) (hd : d < st.length) (hi : i < st.getD d 0) : lv st i ≤ d := by
  rw [lv_take hs hd hi]
  exact Nat.le_trans (lv_le _ _) (by simp; omega)
theorem lv_ge {st : List Nat} {d i : Nat} (hs : ∀ i j, i < j → j < st.length → st.getD i 0 < st.getD j 0) (hd : d < st.length) (hi : st.getD d 0 ≤ i) : d + 1 ≤ lv st i := by
  have e : st.filter (fun s => decide (s ≤ i)) = (st.take (d + 1)).filter (fun s => decide (s ≤ i)) ++ (st.drop (d + 1)).filter (fun s => decide (s ≤ i)) := by rw [← List.filter_append, List.take_append_drop]
  have e2 : (st.take (d + 1)).filter (fun s => decide (s ≤ i)) = st.take (d + 1) := by
    rw [List.filter_eq_self]
    intro x hx
    obtain ⟨k, hk, e⟩ := mem_getD (d := 0) hx
    simp only [List.length_take] at hk
    have e3 : (st.take (d + 1)).getD k 0 = st.getD k 0 := by simp only [List.getD_eq_getElem?_getD]; rw [List.getElem?_take_of_lt (by omega)]
    rw [e3] at e
    by_cases k0 : k = d
    · subst k0; simp; omega
    · have := hs k d (by omega) (by omega); simp; omega
  unfold lv
  rw [e, List.length_append, e2, List.length_take]
  omega
theorem take_getD {α : Type} (l : List α) (d : α) {t i : Nat} (h : i < t) : (l.take t).getD i d = l.getD i d := by
  simp only [List.getD_eq_getElem?_getD]
  rw [List.getElem?_take_of_lt h]
/-- What is left after decisions are taken back. -/
structure Bk (S : Sol) (d : Nat) (S' : Sol) : Prop where
  n : S'.n = S.n
  cl : S'.cl = S.cl
  st : S'.st = S.st.take d
  trl : S'.tr.length = S.st.getD d 0
  lits : ∀ i, i < S'.tr.length → S'.lit i = S.lit i
  lvl : ∀ x, S'.lvl x = S.lvl x
  wy : ∀ x, S'.wy x = S.wy x
  hd : S'.head = S'.tr.length
  calm : Calm S'
  free : ∀ i, S'.tr.length ≤ i → i < S.tr.length → S'.val.getD (S.lit i).natAbs 0 = 0
  nx : 1 ≤ S.next → 1 ≤ S'.next
  nx2 : S'.next ≤ S.next
theorem back_calm {S : Sol} {B d : Nat} (hS : SW S B) (hi : Inv S) (hw : S.Wat) (hp : S.Pro (fun _ a => S.lvl a = S.st.length)) (hst : ∀ x ∈ S.st, x < S.tr.length) (hsh : ∀ x ∈ S.st, x ≤ S.head) (hd : d < S.st.length) : SW (S.back d) B ∧ Bk S d (S.back d) := by
  have ht := hst _ (getD_mem (d := 0) hd)
  rw [Sol.back, if_pos hd]
  generalize htt : S.st.getD d 0 = t at ht
  have hlt : ∀ l ∈ S.tr.drop t, l.natAbs < S.val.length := fun l hl => by
    have := (hS.len.tr l (List.mem_of_mem_drop hl)).2
    rw [hS.len.val]; omega
  have htk : (S.tr.take t).length = t := by simp; omega
  have hlit : ∀ i, i < t → (S.tr.take t).getD i 0 = S.lit i := fun i hi => take_getD _ _ hi
  have dropm : ∀ v, v ∈ (S.tr.drop t).map Int.natAbs ↔ ∃ i, t ≤ i ∧ i < S.tr.length ∧ (S.lit i).natAbs = v := fun v => by
    constructor
    · intro hv
      obtain ⟨x, hx, e⟩ := List.mem_map.1 hv
      obtain ⟨k, hk, e2⟩ := mem_getD (d := 0) hx
      simp only [List.length_drop] at hk
      refine ⟨t + k, by omega, by omega, ?_⟩
      have e3 : (S.tr.drop t).getD k 0 = S.lit (t + k) := by simp [Sol.lit, List.getD_eq_getElem?_getD, List.getElem?_drop]
      rw [← e3, e2, e]
    · rintro ⟨i, h1, h2, e⟩
      refine List.mem_map.2 ⟨S.lit i, ?_, e⟩
      have e3 : (S.tr.drop t).getD (i - t) 0 = S.lit i := by
        simp only [Sol.lit, List.getD_eq_getElem?_getD, List.getElem?_drop]
        rw [show t + (i - t) = i by omega]
      rw [← e3]
      exact getD_mem (by simp; omega)
  have hval : ∀ v, (Sol.zero S.val (S.tr.drop t)).getD v 0 = if v ∈ (S.tr.drop t).map Int.natAbs then 0 else S.val.getD v 0 := zero_get _ _ hlt
  have keepi : ∀ i, i < t → ¬ (S.lit i).natAbs ∈ (S.tr.drop t).map Int.natAbs := fun i hi2 hm => by
    obtain ⟨j, h1, h2, e⟩ := (dropm _).1 hm
    have := lit_inj hS (i := j) (j := i) h2 (by omega) e
    omega
  have hsame : ∀ x : Int, ¬ x.natAbs ∈ (S.tr.drop t).map Int.natAbs → Sol.is { S with val := Sol.zero S.val (S.tr.drop t), next := Sol.low S.next (S.tr.drop t), tr := S.tr.take t, st := S.st.take d, head := t } x = S.is x := fun x hx => by
    unfold Sol.is
    simp only [hval, if_neg hx]
  have hsd : ∀ i j, i < j → j < (S.st.take d).length → (S.st.take d).getD i 0 < (S.st.take d).getD j 0 := fun i j hij hj => by
    simp only [List.length_take] at hj
    rw [take_getD _ _ (by omega), take_getD _ _ (by omega)]
    exact hi.sts i j hij (by omega)
  have hlv : ∀ i, i < t → lv S.st i = lv (S.st.take d) i := fun i hi2 => lv_take hi.sts hd (by rw [htt]; exact hi2)
  refine ⟨⟨⟨hS.len.n, by rw [zero_len]; exact hS.len.val, hS.len.lev, hS.len.why, hS.len.wl, fun x hx => ?_, fun l hl => hS.len.tr l (List.mem_of_mem_take hl), ?_, ?_⟩, hS.cls, hS.csz, hS.wls, fun l hl => ?_, ?_, hS.tot, ?_⟩, ?_⟩
  · obtain ⟨k, hk, e⟩ := mem_getD (d := 0) hx
    rw [hval] at e
    rw [← e]
    rw [zero_len] at hk
    split
    · omega
    · exact hS.len.tri _ (getD_mem hk)
  · show (S.tr.take t).length ≤ S.n
    have := hS.len.trn
    omega
  · show (S.st.take d).length ≤ S.n
    have := hS.len.stn
    simp; omega
  · obtain ⟨k, hk, e⟩ := mem_getD (d := 0) hl
    have hk2 : k < t := by simpa [htk] using hk
    rw [hlit k hk2] at e
    rw [← e, hsame _ (keepi k hk2)]
    exact lit_is hS (by omega)
  · show ((S.tr.take t).map Int.natAbs).Nodup
    rw [List.map_take]
    exact hS.nd.sublist (List.take_sublist _ _)
  · show t ≤ (S.tr.take t).length
    omega
  have hI : Inv { S with val := Sol.zero S.val (S.tr.drop t), next := Sol.low S.next (S.tr.drop t), tr := S.tr.take t, st := S.st.take d, head := t } := by
    refine ⟨hi.dis, fun v h1 h2 h3 => ?_, hsd, fun x hx => ?_, fun i hi2 => ?_, fun i hi2 => ?_, fun v h1 h2 => ?_⟩
    · rw [hval] at h3
      split at h3
      · exact absurd rfl h3
      · rename_i h4
        obtain ⟨i, h5, e⟩ := hi.asd v h1 h2 h3
        have h6 : i < t := by
          by_cases h7 : i < t
          · exact h7
          · exact absurd ((dropm v).2 ⟨i, by omega, h5, e⟩) h4
        exact ⟨i, by show i < (S.tr.take t).length; omega, by show ((S.tr.take t).getD i 0).natAbs = v; rw [hlit i h6]; exact e⟩
    · obtain ⟨k, hk, e⟩ := mem_getD (d := 0) hx
      have hk2 : k < d := by have : k < (S.st.take d).length := hk; simp at this; omega
      have e2 : S.st.getD k 0 = x := by rw [← e]; exact (take_getD _ _ hk2).symm
      have := hi.sts k d hk2 hd
      show x ≤ (S.tr.take t).length
      omega
    · have hi3 : i < t := by have : i < (S.tr.take t).length := hi2; omega
      show S.lvl ((S.tr.take t).getD i 0) = lv (S.st.take d) i
      rw [hlit i hi3, ← hlv i hi3]
      exact hi.lev i (by omega)
    · have hi3 : i < t := by have : i < (S.tr.take t).length := hi2; omega
      have := hi.why i (by omega)
      unfold Sol.Why
      show (S.wy ((S.tr.take t).getD i 0) = -1 ∧ (i ∈ S.st.take d ∨ lv (S.st.take d) i = 0)) ∨ ∃ k : Nat, S.wy ((S.tr.take t).getD i 0) = (k : Int) ∧ k < S.cl.length ∧ (S.tr.take t).getD i 0 ∈ S.cla k ∧ ∀ x ∈ S.cla k, x ≠ (S.tr.take t).getD i 0 → ∃ j, j < i ∧ (S.tr.take t).getD j 0 = -x
      rw [hlit i hi3, ← hlv i hi3]
      rcases this with ⟨h1, h2⟩ | ⟨k, h1, h2, h3, h4⟩
      · refine .inl ⟨h1, ?_⟩
        rcases h2 with h2 | h2
        · obtain ⟨k, hk, e⟩ := mem_getD (d := 0) h2
          have hkd : k < d := by
            by_cases h5 : k < d
            · exact h5
            · exfalso
              have : S.st.getD d 0 ≤ S.st.getD k 0 := by
                by_cases h6 : d = k
                · subst h6; exact Nat.le_refl _
                · exact Nat.le_of_lt (hi.sts d k (by omega) hk)
              omega
          refine .inl ?_
          rw [← e, ← take_getD S.st 0 hkd]
          exact getD_mem (by simp; omega)
        · exact .inr h2
      · refine .inr ⟨k, h1, h2, h3, fun x hx hne => ?_⟩
        obtain ⟨j, hj, e⟩ := h4 x hx hne
        exact ⟨j, hj, by rw [hlit j (by omega)]; exact e⟩
    · show (Sol.zero S.val (S.tr.drop t)).getD v 0 ≠ 0
      obtain ⟨a, b⟩ := low_le (S.tr.drop t) S.next
      have h3 : v < Sol.low S.next (S.tr.drop t) := h2
      rw [hval, if_neg (fun hm => by
        obtain ⟨x, hx, e⟩ := List.mem_map.1 hm
        have := b x hx
        omega)]
      exact hi.nxt v h1 (by omega)
  refine ⟨rfl, rfl, rfl, by rw [htt]; exact htk, fun i hi2 => hlit i (by have : i < (S.tr.take t).length := hi2; omega), fun _ => rfl, fun _ => rfl, htk.symm, ⟨hI, hw, fun k hk p q hpq j hj e _ => ?_⟩, fun i h1 h2 => ?_, fun h1 => ?_, (low_le _ _).1⟩
  · have hj2 : j < t := hj
    have e2 : S.lit j = -((S.cla k).getD p 0) := by rw [← hlit j hj2]; exact e
    have l1 : S.lvl ((S.cla k).getD p 0) ≤ d := by
      rw [← lvl_neg, ← e2, hi.lev j (by omega)]
      exact lv_lt hi.sts hd (by rw [htt]; exact hj2)
    have hth := hsh _ (getD_mem (d := 0) hd)
    obtain ⟨h3, h4⟩ := hp k hk p q hpq j (by omega) e2 (by show ¬ (S.lvl _ = S.st.length); omega)
    have hc := hS.cl (k := k) hk
    have hq : q < (S.cla k).length := by have : 2 ≤ (S.cla k).length := hc.1; omega
    have hlo : LitOk S.n ((S.cla k).getD q 0) := hc.2.2 _ (getD_mem hq)
    obtain ⟨i, h5, h6⟩ := true_on hS hi hlo h3
    have h7 : i < t := by
      by_cases h8 : i < t
      · exact h8
      · have h9 := lv_ge hi.sts hd (i := i) (by omega)
        rw [← hi.lev i h5, h6] at h9
        omega
    refine ⟨?_, h4⟩
    show Sol.is { S with val := Sol.zero S.val (S.tr.drop t), next := Sol.low S.next (S.tr.drop t), tr := S.tr.take t, st := S.st.take d, head := t } ((S.cla k).getD q 0) = 1
    rw [hsame _ (by rw [← h6]; exact keepi i h7)]
    exact h3
  · show (Sol.zero S.val (S.tr.drop t)).getD (S.lit i).natAbs 0 = 0
    rw [hval, if_pos ((dropm _).2 ⟨i, by have : (S.tr.take t).length ≤ i := h1; omega, h2, rfl⟩)]
  · exact low_ge _ _ _ h1 (fun l hl => by
      have := (hS.len.tr l (List.mem_of_mem_drop hl)).1
      omega)
end Go.Proofs.YtdgpmopcmacicaaPi

/- Plain: what a lesson keeps; what a model that fulfils the clauses tells; how many false clauses there can be. No program in sight. -/
set_option linter.unusedVariables false
set_option linter.unusedSimpArgs false
set_option linter.unusedSectionVars false
namespace Go.Proofs.YtdgpmopcmacicaaPi
def hl (M : Nat → Bool) (l : Int) : Prop := M l.natAbs = decide (0 < l)
theorem hl_neg {M : Nat → Bool} {x : Int} (h : x ≠ 0) : hl M (-x) ↔ ¬ hl M x := by
  unfold hl
  rw [Int.natAbs_neg]
  by_cases h1 : 0 < x
  · rw [decide_eq_true h1, decide_eq_false (show ¬ 0 < -x by omega)]
    cases M x.natAbs <;> simp
  · rw [decide_eq_false h1, decide_eq_true (show 0 < -x by omega)]
    cases M x.natAbs <;> simp
def HoldsC (M : Nat → Bool) (c : List Int) : Prop := ∃ l ∈ c, hl M l
structure Snd (M : Nat → Bool) (S : Sol) : Prop where
  cls : ∀ k, k < S.cl.length → HoldsC M (S.cla k)
  why : ∀ i, i < S.tr.length → S.wy (S.lit i) = -1 → i ∉ S.st → hl M (S.lit i)
theorem Snd.ext {M : Nat → Bool} {S S' : Sol} (h : Snd M S) (k : Ext S S') : Snd M S' := by
  refine ⟨fun c hc => ?_, fun i hi hw hs => ?_⟩
  · rw [k.cln] at hc
    obtain ⟨l, h1, h2⟩ := h.cls c hc
    exact ⟨l, (k.cls c hc l).2 h1, h2⟩
  · by_cases e : i < S.tr.length
    · rw [k.lits i e] at hw ⊢
      rw [k.old i e] at hw
      exact h.why i e hw (by rwa [k.st] at hs)
    · have := k.new i (by omega) hi
      omega
theorem Snd.upto {M : Nat → Bool} {S : Sol} {B : Nat} (hS : SW S B) (hi : Inv S) (h : Snd M S) (t : Nat) (hd : ∀ i ∈ S.st, i < t → hl M (S.lit i)) : ∀ i, i < t → i < S.tr.length → hl M (S.lit i) := by
  intro i
  induction i using Nat.strongRecOn with
  | ind i ih =>
    intro ht hl1
    rcases hi.why i hl1 with ⟨h1, h2⟩ | ⟨k, h1, h2, h3, h4⟩
    · by_cases e : i ∈ S.st
      · exact hd i e ht
      · exact h.why i hl1 h1 e
    · obtain ⟨x, hx, hm⟩ := h.cls k h2
      by_cases e : x = S.lit i
      · rw [← e]; exact hm
      · obtain ⟨j, hj, e2⟩ := h4 x hx e
        have := ih j hj (by omega) (by omega)
        have lo := (lit_ok hS (i := j) (by omega)).1
        rw [e2] at this lo
        exact absurd hm ((hl_neg (by omega)).1 this)
/-- Not all decisions are right if a clause is false. -/
theorem Confl.wrong {M : Nat → Bool} {S : Sol} {B k : Nat} (hS : SW S B) (hc : Confl S k) (h : Snd M S) : ∃ i ∈ S.st, ¬ hl M (S.lit i) := by
  by_cases e : ∃ i ∈ S.st, ¬ hl M (S.lit i)
  · exact e
  · exfalso
    have hd : ∀ i ∈ S.st, i < S.tr.length → hl M (S.lit i) := fun i hi _ => by
      by_cases e2 : hl M (S.lit i)
      · exact e2
      · exact absurd ⟨i, hi, e2⟩ e
    have ha := Snd.upto hS hc.inv h S.tr.length hd
    obtain ⟨x, hx, hm⟩ := h.cls k hc.kl
    have hlo := (hS.cl (k := k) hc.kl).2.2 x hx
    obtain ⟨i, hi, e2⟩ := false_on hS hc.inv hlo (hc.fal x hx)
    have := ha i hi hi
    rw [e2] at this
    exact absurd hm ((hl_neg hlo.1).1 this)
structure Lesson (S : Sol) (c : List Int) (d : Nat) : Prop where
  dl : d < S.st.length
  pos : 0 < c.length
  dis : Dis c
  on : ∀ x ∈ c, ∃ i, i < S.tr.length ∧ S.lit i = -x
  fst : d < S.lvl (c.getD 0 0)
  rst : ∀ j, 1 ≤ j → j < c.length → S.lvl (c.getD j 0) ≤ d
  snd : 1 < c.length → S.lvl (c.getD 1 0) = d
  one : c.length = 1 → d = 0
/-- A lesson is heeded. -/
def Sol.heed (S : Sol) (c : List Int) : Sol := if 1 < c.length then (S.add c).set (c.getD 0 0) (S.cl.length : Nat) else S.set (c.getD 0 0) (-1)
theorem add_cla (S : Sol) (c : List Int) (k : Nat) : (S.add c).cla k = if k < S.cl.length then S.cla k else if k = S.cl.length then c else [] := snoc_getD _ _ _ _
theorem push_getD (wl : List (List Nat)) (i k j : Nat) (h : i < wl.length) : (Sol.push wl i k).getD j [] = if j = i then wl.getD j [] ++ [k] else wl.getD j [] := by
  rw [Sol.push, getD_set _ _ _ _ _ h]
  split
  · rename_i e; rw [e]
  · rfl
theorem SW.add {S : Sol} {B : Nat} (h : SW S B) {c : List Int} (h2 : 2 ≤ c.length) (h3 : c.length ≤ 100000) (hl : ∀ x ∈ c, LitOk S.n x) (hz : S.cl.length + 1 ≤ 1000000) : SW (S.add c) (B + 2) := by
  have hn := h.len
  have h1 : SW { S with cl := S.cl ++ [c] } B := ⟨⟨hn.n, hn.val, hn.lev, hn.why, hn.wl, hn.tri, hn.tr, hn.trn, hn.stn⟩, fun x hx => by
    rcases List.mem_append.1 (show x ∈ S.cl ++ [c] from hx) with h1 | h1
    · exact h.cls x h1
    · rw [List.mem_singleton.1 h1]; exact ⟨h2, h3, hl⟩, by show (S.cl ++ [c]).length ≤ _; simp; omega, fun ks hks k hk => by
      have := h.wls ks hks k hk
      show k < (S.cl ++ [c]).length
      simp; omega, h.asg, h.nd, h.tot, h.hd⟩
  have hk : S.cl.length < (S.cl ++ [c]).length := by simp
  have a := SW.push (S := { S with cl := S.cl ++ [c] }) h1 (atL_lt (hl _ (getD_mem (l := c) (i := 0) (d := 0) (by omega)))) hk
  exact SW.push (S := { S with cl := S.cl ++ [c], wl := Sol.push S.wl (atL (c.getD 0 0)) S.cl.length }) a (atL_lt (hl _ (getD_mem (l := c) (i := 1) (d := 0) (by omega)))) hk
theorem Inv.add {S : Sol} (h : Inv S) {c : List Int} (hd : Dis c) : Inv (S.add c) := by
  refine ⟨fun k hk => ?_, h.asd, h.sts, h.stl, h.lev, fun i hi => ?_, h.nxt⟩
  · rw [add_cla]
    have hk2 : k < S.cl.length + 1 := by simpa [Sol.add] using hk
    split
    · rename_i e; exact h.dis k e
    · rw [if_pos (by omega)]; exact hd
  · rcases h.why i hi with h1 | ⟨k, h1, h2, h3, h4⟩
    · exact .inl h1
    · refine .inr ⟨k, h1, by simp [Sol.add]; omega, ?_, fun x hx => ?_⟩
      · rw [add_cla, if_pos h2]; exact h3
      · rw [add_cla, if_pos h2] at hx; exact h4 x hx
theorem Wat.add {S : Sol} {B : Nat} (hS : SW S B) (h : S.Wat) {c : List Int} (hd : Dis c) (h2 : 2 ≤ c.length) (hl : ∀ x ∈ c, LitOk S.n x) : (S.add c).Wat := fun i hi => by
  have hi2 : i < 2 * S.n + 2 := hi
  obtain ⟨h3, h4⟩ := h i hi2
  have l0 := hl _ (getD_mem (l := c) (i := 0) (d := 0) (by omega))
  have l1 := hl _ (getD_mem (l := c) (i := 1) (d := 0) (by omega))
  have hne : atL (c.getD 0 0) ≠ atL (c.getD 1 0) := fun e => by
    have := hd 0 1 (by omega) (by omega) (atL_inj' l0 l1 e)
    omega
  have e : (S.add c).wl.getD i [] = if atL (c.getD 0 0) = i ∨ atL (c.getD 1 0) = i then S.wl.getD i [] ++ [S.cl.length] else S.wl.getD i [] := by
    show (Sol.push (Sol.push S.wl (atL (c.getD 0 0)) S.cl.length) (atL (c.getD 1 0)) S.cl.length).getD i [] = _
    rw [push_getD _ _ _ _ (by simp [Sol.push, hS.len.wl]; exact atL_lt l1), push_getD _ _ _ _ (by rw [hS.len.wl]; exact atL_lt l0)]
    by_cases e1 : i = atL (c.getD 1 0)
    · rw [if_pos e1, if_neg (fun e2 => hne (e2.symm.trans e1)), if_pos (.inr e1.symm)]
    · rw [if_neg e1]
      by_cases e2 : i = atL (c.getD 0 0)
      · rw [if_pos e2, if_pos (.inl e2.symm)]
      · rw [if_neg e2, if_neg (fun h => h.elim (fun h => e2 h.symm) (fun h => e1 h.symm))]
  have hK : S.cl.length ∉ S.wl.getD i [] := fun hm => by have := ((h4 _).1 hm).1; omega
  have hlen : (S.add c).cl.length = S.cl.length + 1 := by simp [Sol.add]
  rw [e, hlen]
  have old : ∀ k, k ≠ S.cl.length → (k < S.cl.length + 1 ∧ (atL (((S.add c).cla k).getD 0 0) = i ∨ atL (((S.add c).cla k).getD 1 0) = i) ↔ k ∈ S.wl.getD i []) := fun k hk => by
    rw [h4 k, add_cla]
    by_cases e1 : k < S.cl.length
    · rw [if_pos e1]
      exact ⟨fun h => ⟨e1, h.2⟩, fun h => ⟨by omega, h.2⟩⟩
    · exact ⟨fun h => absurd h.1 (by omega), fun h => absurd h.1 e1⟩
  have new : (atL (((S.add c).cla S.cl.length).getD 0 0) = i ∨ atL (((S.add c).cla S.cl.length).getD 1 0) = i) ↔ (atL (c.getD 0 0) = i ∨ atL (c.getD 1 0) = i) := by
    rw [add_cla, if_neg (Nat.lt_irrefl _), if_pos rfl]
  split
  · rename_i hp
    refine ⟨List.nodup_append.2 ⟨h3, by simp, fun a ha b hb e => hK (by rw [List.mem_singleton.1 hb] at e; rw [← e]; exact ha)⟩, fun k => ?_⟩
    by_cases ek : k = S.cl.length
    · subst ek
      rw [new]
      exact ⟨fun _ => ⟨by omega, hp⟩, fun _ => by simp⟩
    · rw [old k ek]
      simp [ek]
  · rename_i hp
    refine ⟨h3, fun k => ?_⟩
    by_cases ek : k = S.cl.length
    · subst ek
      rw [new]
      exact ⟨fun h => absurd h hK, fun h => absurd h.2 hp⟩
    · rw [old k ek]
/-- A clause to be heeded, after decisions were taken back. -/
structure Heed (S : Sol) (c : List Int) : Prop where
  pos : 0 < c.length
  dis : Dis c
  lok : ∀ x ∈ c, LitOk S.n x
  fst : S.val.getD (c.getD 0 0).natAbs 0 = 0
  rst : ∀ j, 1 ≤ j → j < c.length → ∃ i, i < S.tr.length ∧ S.lit i = -(c.getD j 0)
  snd : 1 < c.length → S.lvl (c.getD 1 0) = S.st.length
  one : c.length = 1 → S.st.length = 0
theorem Lesson.heed {S S1 : Sol} {B d : Nat} {c : List Int} (hS : SW S B) (hi : Inv S) (h : Lesson S c d) (hb : Bk S d S1) : Heed S1 c := by
  have hok : ∀ x ∈ c, LitOk S.n x := fun x hx => by
    obtain ⟨i, h1, h2⟩ := h.on x hx
    have := lit_ok hS h1
    rw [h2] at this
    exact ⟨by have := this.1; omega, by have := this.2; rwa [Int.natAbs_neg] at this⟩
  have hst : S1.st.length = d := by rw [hb.st]; simp; have := h.dl; omega
  refine ⟨h.pos, h.dis, by rw [hb.n]; exact hok, ?_, fun j h1 h2 => ?_, fun h1 => by rw [hb.lvl, hst]; exact h.snd h1, fun h1 => by rw [hst]; exact h.one h1⟩
  · obtain ⟨i, h3, h4⟩ := h.on _ (getD_mem (d := 0) h.pos)
    have h5 := h.fst
    rw [← lvl_neg, ← h4, hi.lev i h3] at h5
    have h6 : S1.tr.length ≤ i := by
      rw [hb.trl]
      by_cases h7 : i < S.st.getD d 0
      · have := lv_lt hi.sts h.dl h7; omega
      · omega
    have := hb.free i h6 h3
    rwa [h4, Int.natAbs_neg] at this
  · obtain ⟨i, h3, h4⟩ := h.on _ (getD_mem (d := 0) h2)
    have h5 := h.rst j h1 h2
    rw [← lvl_neg, ← h4, hi.lev i h3] at h5
    have h6 : i < S1.tr.length := by
      rw [hb.trl]
      by_cases h7 : i < S.st.getD d 0
      · exact h7
      · have := lv_ge hi.sts h.dl (i := i) (by omega); omega
    exact ⟨i, h6, by rw [hb.lits i h6]; exact h4⟩
theorem heed_calm {S : Sol} {B : Nat} {c : List Int} (hS : SW S B) (h : Calm S) (hd : S.head = S.tr.length) (hst : ∀ x ∈ S.st, x < S.tr.length) (hz : S.cl.length + 1 ≤ 1000000) (hc : Heed S c) (hcl : c.length ≤ 100000) : SW (S.heed c) (B + 2) ∧ Calm (S.heed c) := by
  have l0 := hc.lok _ (getD_mem (d := 0) hc.pos)
  unfold Sol.heed
  split
  · rename_i h2
    have hS2 := hS.add h2 hcl hc.lok hz
    have hw := Wat.add hS h.wat hc.dis h2 hc.lok
    have hI := h.inv.add hc.dis
    have hu : (S.add c).val.getD (c.getD 0 0).natAbs 0 = 0 := hc.fst
    have hlen : (S.add c).cl.length = S.cl.length + 1 := by simp [Sol.add]
    have hcK : (S.add c).cla S.cl.length = c := by rw [add_cla, if_neg (Nat.lt_irrefl _), if_pos rfl]
    have hp0 : (S.add c).Pro (fun k _ => k = S.cl.length) := fun k hk p q hpq j hj e hex => by
      have hk2 : k < S.cl.length := by rw [hlen] at hk; have : ¬ (k = S.cl.length) := hex; omega
      rw [add_cla, if_pos hk2] at e ⊢
      exact h.pro k hk2 p q hpq j hj e (fun h => h)
    have hp1 := Pro.set (w := (S.cl.length : Nat)) hS2 hp0 l0 hu
    have hI2 := Inv.set (w := (S.cl.length : Nat)) hS2 hI l0 hu (.inr ⟨S.cl.length, rfl, by rw [hlen]; omega, by rw [hcK]; exact getD_mem hc.pos, fun x hx hne => by
      rw [hcK] at hx
      obtain ⟨j, hj, e⟩ := mem_getD (d := 0) hx
      have j0 : j ≠ 0 := fun e2 => hne (by rw [← e, e2])
      obtain ⟨i, h3, h4⟩ := hc.rst j (by omega) hj
      exact ⟨i, h3, by rw [← e]; exact h4⟩⟩)
    refine ⟨hS2.set _ l0 hu, hI2, hw, fun k hk p q hpq j hj e hex => ?_⟩
    by_cases ek : k = S.cl.length
    · subst ek
      have hj2 : j < S.tr.length := by have : j < S.head := hj; omega
      have e2 : S.lit j = -(((S.add c).cla S.cl.length).getD p 0) := by
        have h5 : ((S.add c).set (c.getD 0 0) (S.cl.length : Nat)).lit j = -(((S.add c).cla S.cl.length).getD p 0) := e
        rw [lit_set, if_pos (show j < (S.add c).tr.length from hj2)] at h5
        exact h5
      show Sol.is _ (((S.add c).cla S.cl.length).getD q 0) = 1 ∧ Sol.lvl _ (((S.add c).cla S.cl.length).getD q 0) ≤ Sol.lvl _ (((S.add c).cla S.cl.length).getD p 0)
      rw [hcK] at e2 ⊢
      have hoff := off_trail hS hc.fst hj2
      rw [e2, Int.natAbs_neg] at hoff
      rcases hpq with ⟨rfl, rfl⟩ | ⟨rfl, rfl⟩
      · exact absurd rfl hoff
      · have hle : (c.getD 0 0).natAbs < (S.add c).lev.length := by show _ < S.lev.length; rw [hS.len.lev]; have := l0.2; omega
        have hv : (c.getD 0 0).natAbs < (S.add c).val.length := by show _ < S.val.length; rw [hS.len.val]; have := l0.2; omega
        refine ⟨is_set_same hv l0.1, ?_⟩
        rw [lvl_set hle, lvl_set hle, if_pos rfl, if_neg hoff]
        exact Nat.le_of_eq (hc.snd h2).symm
    · exact hp1 k hk p q hpq j hj e ek
  · rename_i h2
    have h3 := hS.set (-1) l0 hc.fst
    have hz0 := hc.one (by have := hc.pos; omega)
    exact ⟨⟨h3.len, h3.cls, h3.csz, h3.wls, h3.asg, h3.nd, by have := h3.tot; omega, h3.hd⟩, h.set hS l0 hc.fst (.inl ⟨rfl, .inr (by have := lv_le S.st S.tr.length; omega)⟩)⟩
theorem heed_snd {M : Nat → Bool} {S : Sol} {B : Nat} {c : List Int} (hS : SW S B) (h : Snd M S) (hc : Heed S c) (hm : HoldsC M c) : Snd M (S.heed c) := by
  have l0 := hc.lok _ (getD_mem (d := 0) hc.pos)
  have hwy : (c.getD 0 0).natAbs < S.why.length := by rw [hS.len.why]; have := l0.2; omega
  unfold Sol.heed
  split
  · rename_i h2
    refine ⟨fun k hk => ?_, fun i hi hw hs => ?_⟩
    · have hk2 : k < S.cl.length + 1 := by simpa [Sol.add, Sol.set] using hk
      show HoldsC M ((S.add c).cla k)
      rw [add_cla]
      split
      · rename_i e; exact h.cls k e
      · rw [if_pos (by omega)]; exact hm
    · have hi2 : i < S.tr.length + 1 := by simpa [Sol.add, Sol.set] using hi
      rw [lit_set, wy_set (show (c.getD 0 0).natAbs < (S.add c).why.length from hwy)] at hw
      rw [lit_set]
      by_cases e : i < S.tr.length
      · rw [if_pos (show i < (S.add c).tr.length from e)] at hw ⊢
        have hw2 : (if (S.lit i).natAbs = (c.getD 0 0).natAbs then ((S.cl.length : Nat) : Int) else S.wy (S.lit i)) = -1 := hw
        rw [if_neg (off_trail hS hc.fst e)] at hw2
        exact h.why i e hw2 hs
      · rw [if_neg (show ¬ i < (S.add c).tr.length from e), if_pos (show i = (S.add c).tr.length by show i = S.tr.length; omega), if_pos rfl] at hw
        omega
  · rename_i h2
    refine ⟨h.cls, fun i hi hw hs => ?_⟩
    have hi2 : i < S.tr.length + 1 := by simpa [Sol.set] using hi
    rw [lit_set, wy_set hwy] at hw
    rw [lit_set]
    by_cases e : i < S.tr.length
    · rw [if_pos e] at hw ⊢
      rw [if_neg (off_trail hS hc.fst e)] at hw
      exact h.why i e hw hs
    · rw [if_neg e, if_pos (by omega)]
      obtain ⟨x, hx, hm⟩ := hm
      obtain ⟨j, hj, e2⟩ := mem_getD (d := 0) hx
      have : j = 0 := by omega
      subst this
      rw [e2]
      exact hm
theorem Snd.back {M : Nat → Bool} {S S1 : Sol} {d : Nat} (h : Snd M S) (hi : Inv S) (hd : d < S.st.length) (hb : Bk S d S1) (htl : S.st.getD d 0 ≤ S.tr.length) : Snd M S1 := by
  refine ⟨fun k hk => ?_, fun i hi2 hw hs => ?_⟩
  · rw [hb.cl] at hk
    have := h.cls k hk
    unfold Sol.cla at this ⊢
    rw [hb.cl]
    exact this
  · have ht := hb.trl
    rw [hb.wy, hb.lits i hi2] at hw
    rw [hb.lits i hi2]
    refine h.why i (by omega) hw (fun hm => hs ?_)
    obtain ⟨k, hk, e⟩ := mem_getD (d := 0) hm
    have hkd : k < d := by
      by_cases h5 : k < d
      · exact h5
      · exfalso
        have : S.st.getD d 0 ≤ S.st.getD k 0 := by
          by_cases h6 : d = k
          · subst h6; exact Nat.le_refl _
          · exact Nat.le_of_lt (hi.sts d k (by omega) hk)
        omega
    rw [hb.st, ← e, ← take_getD S.st 0 hkd]
    exact getD_mem (by simp; omega)
theorem Snd.decide {M : Nat → Bool} {S : Sol} {B p : Nat} (hS : SW S B) (h : Snd M S) (h1 : 1 ≤ p) (h2 : p ≤ S.n) (hp : S.val.getD p 0 = 0) : Snd M ((S.start p).set (-(p : Int)) (-1)) := by
  have hab : (-(p : Int)).natAbs = p := by omega
  have hwy : (-(p : Int)).natAbs < (S.start p).why.length := by show _ < S.why.length; rw [hS.len.why]; omega
  refine ⟨h.cls, fun i hi hw hs => ?_⟩
  have hi2 : i < S.tr.length + 1 := by simpa [Sol.start, Sol.set] using hi
  rw [lit_set, wy_set hwy] at hw
  rw [lit_set]
  have hs2 : i ∉ S.st ++ [S.tr.length] := hs
  by_cases e : i < S.tr.length
  · rw [if_pos (show i < (S.start p).tr.length from e)] at hw ⊢
    have hw2 : (if (S.lit i).natAbs = (-(p : Int)).natAbs then -1 else S.wy (S.lit i)) = -1 := hw
    rw [if_neg (off_trail (l := -(p : Int)) hS (by rw [hab]; exact hp) e)] at hw2
    exact h.why i e hw2 (fun h => hs2 (List.mem_append.2 (.inl h)))
  · exact absurd (List.mem_append.2 (.inr (by rw [show i = S.tr.length by omega]; simp))) hs2
/-- What is left to be looked at. -/
def Sol.pot (S : Sol) : Nat := (S.st.map fun s => 2 ^ (S.n - s - 1)).sum + 2 ^ (S.n - S.tr.length)
theorem Ext.pot {S S' : Sol} (h : Ext S S') : S'.pot ≤ S.pot := by
  unfold Sol.pot
  rw [h.st, h.n]
  have := Nat.pow_le_pow_right (n := 2) (by decide) (show S.n - S'.tr.length ≤ S.n - S.tr.length by have := h.trp; omega)
  omega
theorem decide_pot {S : Sol} {p : Nat} (h : S.tr.length < S.n) : ((S.start p).set (-(p : Int)) (-1)).pot = S.pot := by
  show ((S.st ++ [S.tr.length]).map fun s => 2 ^ (S.n - s - 1)).sum + 2 ^ (S.n - (S.tr ++ [-(p : Int)]).length) = _
  unfold Sol.pot
  have e : 2 ^ (S.n - S.tr.length) = 2 ^ (S.n - S.tr.length - 1) + 2 ^ (S.n - S.tr.length - 1) := by
    have : S.n - S.tr.length = S.n - S.tr.length - 1 + 1 := by omega
    rw [this, Nat.pow_succ]
    simp only [Nat.add_sub_cancel]
    omega
  simp only [List.map_append, List.map_cons, List.map_nil, List.sum_append, List.sum_cons, List.sum_nil, List.length_append, List.length_cons, List.length_nil, Nat.zero_add, Nat.add_zero, ← Nat.sub_sub]
  omega
theorem back_pot {S S1 : Sol} {d : Nat} {c : List Int} (hd : d + 1 = S.st.length) (hb : Bk S d S1) : (S1.heed c).pot + 1 ≤ S.pot := by
  have e : (S1.heed c).pot = (S1.st.map fun s => 2 ^ (S1.n - s - 1)).sum + 2 ^ (S1.n - S1.tr.length - 1) := by
    unfold Sol.heed
    split
    · show ((S1.st).map fun s => 2 ^ (S1.n - s - 1)).sum + 2 ^ (S1.n - (S1.tr ++ [c.getD 0 0]).length) = _
      rw [List.length_append, List.length_singleton, ← Nat.sub_sub]
    · show ((S1.st).map fun s => 2 ^ (S1.n - s - 1)).sum + 2 ^ (S1.n - (S1.tr ++ [c.getD 0 0]).length) = _
      rw [List.length_append, List.length_singleton, ← Nat.sub_sub]
  rw [e, hb.n, hb.st, hb.trl]
  unfold Sol.pot
  have hs : S.st = S.st.take d ++ [S.st.getD d 0] := by
    have h1 : S.st.drop d = [S.st.getD d 0] := by
      rw [drop_gtD 0 (by omega), List.drop_of_length_le (by omega)]
    rw [← h1, List.take_append_drop]
  have h2 : (S.st.map fun s => 2 ^ (S.n - s - 1)).sum = ((S.st.take d).map fun s => 2 ^ (S.n - s - 1)).sum + 2 ^ (S.n - S.st.getD d 0 - 1) := by
    conv => lhs; rw [hs]
    simp
  rw [h2]
  have := Nat.one_le_two_pow (n := S.n - S.tr.length)
  omega
end Go.Proofs.YtdgpmopcmacicaaPi

