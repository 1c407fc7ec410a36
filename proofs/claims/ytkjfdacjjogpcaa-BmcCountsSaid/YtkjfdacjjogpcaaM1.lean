/- Part 1 of the proof: the texts PiTy, WA, WB, PBit0, WC, WD, WE, WM, WN, WF, WG, WH, WP, WQ, PLane, WR, PWords, PNames, one behind the other. Each holds for every input that it names; no condition is hidden. -/
import Derived.Test.YtkjfdacjjogpcaaPiMerge
import Derived.Test.YtkjfdacjjogpcaaProg
import Derived.KernelRfl
import Derived.Test.YtkjfdacjjogpcaaPiGo
set_option linter.unusedVariables false
set_option linter.unusedSimpArgs false
set_option linter.unusedSectionVars false
namespace Go.Proofs.YtkjfdacjjogpcaaPi
theorem ai {a b : Prop} (h : a) (k : b) : a ∧ b := ⟨h, k⟩
theorem zNn : ∀ n : Nat, (0 : Int) ≤ n := Int.natCast_nonneg
theorem zTn : ∀ n : Nat, Int.toNat n = n := Int.toNat_natCast
theorem zZa : ∀ n : Nat, 0 + n = n := Nat.zero_add
theorem Ghost.fm {n : Nat} {st : ASt} (e : List (Nat × PV)) (L : Nat) (h1 : ehas st.env e := by (repeat first | exact trivial | refine ⟨rfl, ?_⟩)) (h2 : unders L (e.map (·.2)) = true := by rfl) (h3 : (st.loc.take L).all (AObj.under L) = true := by simp only [ASt.push, List.nil_append, List.cons_append, List.take_succ_cons, List.take_zero, List.all_cons, List.all_nil, AObj.under, unders, PV.under, Bool.and_true, Bool.and_self]) : Ghost n st ⟨e, st.loc.take L, st.up⟩ := Ghost.form e L h1 h2 h3

theorem ty_2 : sizeT Try.prog 2 = some 1 ∧ bytesT Try.prog 2 = some 8 ∧ aggT Try.prog 2 = some false ∧ elemT Try.prog 2 = none ∧ arrT Try.prog 2 = none ∧ intT Try.prog 2 = some .i64 ∧ boolT Try.prog 2 = false ∧ stringT Try.prog 2 = false ∧ sliceT Try.prog 2 = false ∧ Program.underlying Try.prog 2 = some (.int .i64) ∧ zeroT Try.prog 2 = some [.im (.int .i64 0)] ∧ zeroImT Try.prog 2 = some [(.int .i64 0)] ∧ u8T Try.prog 2 = false ∧ zeroOne Try.prog 2 = some (.int .i64 0) ∧ placesT Try.prog 2 = none := ⟨by kernel_rfl, by kernel_rfl, by kernel_rfl, by kernel_rfl, by kernel_rfl, by kernel_rfl, by kernel_rfl, by kernel_rfl, by kernel_rfl, by kernel_rfl, by kernel_rfl, by kernel_rfl, by kernel_rfl, by kernel_rfl, by kernel_rfl⟩
theorem ty_3 : sizeT Try.prog 3 = some 1 ∧ bytesT Try.prog 3 = some 8 ∧ aggT Try.prog 3 = some false ∧ elemT Try.prog 3 = none ∧ arrT Try.prog 3 = none ∧ intT Try.prog 3 = some .i64 ∧ boolT Try.prog 3 = false ∧ stringT Try.prog 3 = false ∧ sliceT Try.prog 3 = false ∧ Program.underlying Try.prog 3 = some (.int .i64) ∧ zeroT Try.prog 3 = some [.im (.int .i64 0)] ∧ zeroImT Try.prog 3 = some [(.int .i64 0)] ∧ u8T Try.prog 3 = false ∧ zeroOne Try.prog 3 = some (.int .i64 0) ∧ placesT Try.prog 3 = none := ⟨by kernel_rfl, by kernel_rfl, by kernel_rfl, by kernel_rfl, by kernel_rfl, by kernel_rfl, by kernel_rfl, by kernel_rfl, by kernel_rfl, by kernel_rfl, by kernel_rfl, by kernel_rfl, by kernel_rfl, by kernel_rfl, by kernel_rfl⟩
theorem ty_4 : sizeT Try.prog 4 = some 1 ∧ bytesT Try.prog 4 = some 1 ∧ aggT Try.prog 4 = some false ∧ elemT Try.prog 4 = none ∧ arrT Try.prog 4 = none ∧ intT Try.prog 4 = none ∧ boolT Try.prog 4 = true ∧ stringT Try.prog 4 = false ∧ sliceT Try.prog 4 = false ∧ zeroT Try.prog 4 = some [.im (.bool false)] ∧ zeroImT Try.prog 4 = some [(.bool false)] ∧ u8T Try.prog 4 = false ∧ zeroOne Try.prog 4 = some (.bool false) ∧ placesT Try.prog 4 = none := ⟨by kernel_rfl, by kernel_rfl, by kernel_rfl, by kernel_rfl, by kernel_rfl, by kernel_rfl, by kernel_rfl, by kernel_rfl, by kernel_rfl, by kernel_rfl, by kernel_rfl, by kernel_rfl, by kernel_rfl, by kernel_rfl⟩
theorem ty_5 : sizeT Try.prog 5 = some 1 ∧ bytesT Try.prog 5 = some 1 ∧ aggT Try.prog 5 = some false ∧ elemT Try.prog 5 = none ∧ arrT Try.prog 5 = none ∧ intT Try.prog 5 = some .u8 ∧ boolT Try.prog 5 = false ∧ stringT Try.prog 5 = false ∧ sliceT Try.prog 5 = false ∧ Program.underlying Try.prog 5 = some (.int .u8) ∧ zeroT Try.prog 5 = some [.im (.int .u8 0)] ∧ zeroImT Try.prog 5 = some [(.int .u8 0)] ∧ u8T Try.prog 5 = false ∧ zeroOne Try.prog 5 = some (.int .u8 0) ∧ placesT Try.prog 5 = none := ⟨by kernel_rfl, by kernel_rfl, by kernel_rfl, by kernel_rfl, by kernel_rfl, by kernel_rfl, by kernel_rfl, by kernel_rfl, by kernel_rfl, by kernel_rfl, by kernel_rfl, by kernel_rfl, by kernel_rfl, by kernel_rfl, by kernel_rfl⟩
theorem ty_6 : sizeT Try.prog 6 = some 1 ∧ bytesT Try.prog 6 = some 1 ∧ aggT Try.prog 6 = some false ∧ elemT Try.prog 6 = none ∧ arrT Try.prog 6 = none ∧ intT Try.prog 6 = some .u8 ∧ boolT Try.prog 6 = false ∧ stringT Try.prog 6 = false ∧ sliceT Try.prog 6 = false ∧ Program.underlying Try.prog 6 = some (.int .u8) ∧ zeroT Try.prog 6 = some [.im (.int .u8 0)] ∧ zeroImT Try.prog 6 = some [(.int .u8 0)] ∧ u8T Try.prog 6 = false ∧ zeroOne Try.prog 6 = some (.int .u8 0) ∧ placesT Try.prog 6 = none := ⟨by kernel_rfl, by kernel_rfl, by kernel_rfl, by kernel_rfl, by kernel_rfl, by kernel_rfl, by kernel_rfl, by kernel_rfl, by kernel_rfl, by kernel_rfl, by kernel_rfl, by kernel_rfl, by kernel_rfl, by kernel_rfl, by kernel_rfl⟩
theorem ty_7 : sizeT Try.prog 7 = some 4 ∧ bytesT Try.prog 7 = some 24 ∧ aggT Try.prog 7 = some true ∧ elemT Try.prog 7 = none ∧ arrT Try.prog 7 = none ∧ intT Try.prog 7 = none ∧ boolT Try.prog 7 = false ∧ stringT Try.prog 7 = false ∧ sliceT Try.prog 7 = false ∧ zeroT Try.prog 7 = some [.im (.int .i64 0), .im (.int .i64 0), .im (.bool false), .im (.int .u8 0)] ∧ zeroImT Try.prog 7 = some [(.int .i64 0), (.int .i64 0), (.bool false), (.int .u8 0)] ∧ u8T Try.prog 7 = false ∧ placesT Try.prog 7 = some [(0, 1), (1, 1), (2, 1), (3, 1)] ∧ fieldT Try.prog 7 0 = some (0, 1) ∧ fieldT Try.prog 7 1 = some (1, 1) ∧ fieldT Try.prog 7 2 = some (2, 1) ∧ fieldT Try.prog 7 3 = some (3, 1) := ⟨by kernel_rfl, by kernel_rfl, by kernel_rfl, by kernel_rfl, by kernel_rfl, by kernel_rfl, by kernel_rfl, by kernel_rfl, by kernel_rfl, by kernel_rfl, by kernel_rfl, by kernel_rfl, by kernel_rfl, by kernel_rfl, by kernel_rfl, by kernel_rfl, by kernel_rfl⟩
theorem ty_8 : sizeT Try.prog 8 = some 4 ∧ bytesT Try.prog 8 = some 24 ∧ aggT Try.prog 8 = some true ∧ elemT Try.prog 8 = none ∧ arrT Try.prog 8 = none ∧ intT Try.prog 8 = none ∧ boolT Try.prog 8 = false ∧ stringT Try.prog 8 = false ∧ sliceT Try.prog 8 = false ∧ zeroT Try.prog 8 = some [.im (.int .i64 0), .im (.int .i64 0), .im (.bool false), .im (.int .u8 0)] ∧ zeroImT Try.prog 8 = some [(.int .i64 0), (.int .i64 0), (.bool false), (.int .u8 0)] ∧ u8T Try.prog 8 = false ∧ placesT Try.prog 8 = some [(0, 1), (1, 1), (2, 1), (3, 1)] ∧ fieldT Try.prog 8 0 = some (0, 1) ∧ fieldT Try.prog 8 1 = some (1, 1) ∧ fieldT Try.prog 8 2 = some (2, 1) ∧ fieldT Try.prog 8 3 = some (3, 1) := ⟨by kernel_rfl, by kernel_rfl, by kernel_rfl, by kernel_rfl, by kernel_rfl, by kernel_rfl, by kernel_rfl, by kernel_rfl, by kernel_rfl, by kernel_rfl, by kernel_rfl, by kernel_rfl, by kernel_rfl, by kernel_rfl, by kernel_rfl, by kernel_rfl, by kernel_rfl⟩
theorem ty_9 : sizeT Try.prog 9 = some 1 ∧ bytesT Try.prog 9 = some 16 ∧ aggT Try.prog 9 = some false ∧ elemT Try.prog 9 = none ∧ arrT Try.prog 9 = none ∧ intT Try.prog 9 = none ∧ boolT Try.prog 9 = false ∧ stringT Try.prog 9 = true ∧ sliceT Try.prog 9 = false ∧ Program.underlying Try.prog 9 = some .string ∧ zeroT Try.prog 9 = some [.im (.str ByteArray.empty)] ∧ zeroImT Try.prog 9 = some [(.str ByteArray.empty)] ∧ u8T Try.prog 9 = false ∧ zeroOne Try.prog 9 = some (.str ByteArray.empty) ∧ placesT Try.prog 9 = none := ⟨by kernel_rfl, by kernel_rfl, by kernel_rfl, by kernel_rfl, by kernel_rfl, by kernel_rfl, by kernel_rfl, by kernel_rfl, by kernel_rfl, by kernel_rfl, by kernel_rfl, by kernel_rfl, by kernel_rfl, by kernel_rfl, by kernel_rfl⟩
theorem ty_21 : sizeT Try.prog 21 = some 1 ∧ bytesT Try.prog 21 = some 4 ∧ aggT Try.prog 21 = some false ∧ elemT Try.prog 21 = none ∧ arrT Try.prog 21 = none ∧ intT Try.prog 21 = some .i32 ∧ boolT Try.prog 21 = false ∧ stringT Try.prog 21 = false ∧ sliceT Try.prog 21 = false ∧ Program.underlying Try.prog 21 = some (.int .i32) ∧ zeroT Try.prog 21 = some [.im (.int .i32 0)] ∧ zeroImT Try.prog 21 = some [(.int .i32 0)] ∧ u8T Try.prog 21 = false ∧ zeroOne Try.prog 21 = some (.int .i32 0) ∧ placesT Try.prog 21 = none := ⟨by kernel_rfl, by kernel_rfl, by kernel_rfl, by kernel_rfl, by kernel_rfl, by kernel_rfl, by kernel_rfl, by kernel_rfl, by kernel_rfl, by kernel_rfl, by kernel_rfl, by kernel_rfl, by kernel_rfl, by kernel_rfl, by kernel_rfl⟩
theorem ty_22 : sizeT Try.prog 22 = some 1 ∧ bytesT Try.prog 22 = some 24 ∧ aggT Try.prog 22 = some false ∧ elemT Try.prog 22 = some 3 ∧ arrT Try.prog 22 = none ∧ intT Try.prog 22 = none ∧ boolT Try.prog 22 = false ∧ stringT Try.prog 22 = false ∧ sliceT Try.prog 22 = true ∧ zeroT Try.prog 22 = some [.nils] ∧ zeroImT Try.prog 22 = some [(.sl [])] ∧ u8T Try.prog 22 = false ∧ zeroOne Try.prog 22 = some (.sl []) ∧ placesT Try.prog 22 = none := ⟨by kernel_rfl, by kernel_rfl, by kernel_rfl, by kernel_rfl, by kernel_rfl, by kernel_rfl, by kernel_rfl, by kernel_rfl, by kernel_rfl, by kernel_rfl, by kernel_rfl, by kernel_rfl, by kernel_rfl, by kernel_rfl⟩
theorem ty_26 : sizeT Try.prog 26 = some 1 ∧ bytesT Try.prog 26 = some 24 ∧ aggT Try.prog 26 = some false ∧ elemT Try.prog 26 = some 9 ∧ arrT Try.prog 26 = none ∧ intT Try.prog 26 = none ∧ boolT Try.prog 26 = false ∧ stringT Try.prog 26 = false ∧ sliceT Try.prog 26 = true ∧ zeroT Try.prog 26 = some [.nils] ∧ zeroImT Try.prog 26 = some [(.sl [])] ∧ u8T Try.prog 26 = false ∧ zeroOne Try.prog 26 = some (.sl []) ∧ placesT Try.prog 26 = none := ⟨by kernel_rfl, by kernel_rfl, by kernel_rfl, by kernel_rfl, by kernel_rfl, by kernel_rfl, by kernel_rfl, by kernel_rfl, by kernel_rfl, by kernel_rfl, by kernel_rfl, by kernel_rfl, by kernel_rfl, by kernel_rfl⟩
theorem ty_27 : sizeT Try.prog 27 = some 1 ∧ bytesT Try.prog 27 = some 24 ∧ aggT Try.prog 27 = some false ∧ elemT Try.prog 27 = some 57 ∧ arrT Try.prog 27 = none ∧ intT Try.prog 27 = none ∧ boolT Try.prog 27 = false ∧ stringT Try.prog 27 = false ∧ sliceT Try.prog 27 = true ∧ zeroT Try.prog 27 = some [.nils] ∧ zeroImT Try.prog 27 = some [(.sl [])] ∧ u8T Try.prog 27 = false ∧ zeroOne Try.prog 27 = some (.sl []) ∧ placesT Try.prog 27 = none := ⟨by kernel_rfl, by kernel_rfl, by kernel_rfl, by kernel_rfl, by kernel_rfl, by kernel_rfl, by kernel_rfl, by kernel_rfl, by kernel_rfl, by kernel_rfl, by kernel_rfl, by kernel_rfl, by kernel_rfl, by kernel_rfl⟩
theorem ty_28 : sizeT Try.prog 28 = some 1 ∧ bytesT Try.prog 28 = some 24 ∧ aggT Try.prog 28 = some false ∧ elemT Try.prog 28 = some 59 ∧ arrT Try.prog 28 = none ∧ intT Try.prog 28 = none ∧ boolT Try.prog 28 = false ∧ stringT Try.prog 28 = false ∧ sliceT Try.prog 28 = true ∧ zeroT Try.prog 28 = some [.nils] ∧ zeroImT Try.prog 28 = some [(.sl [])] ∧ u8T Try.prog 28 = false ∧ zeroOne Try.prog 28 = some (.sl []) ∧ placesT Try.prog 28 = none := ⟨by kernel_rfl, by kernel_rfl, by kernel_rfl, by kernel_rfl, by kernel_rfl, by kernel_rfl, by kernel_rfl, by kernel_rfl, by kernel_rfl, by kernel_rfl, by kernel_rfl, by kernel_rfl, by kernel_rfl, by kernel_rfl⟩
theorem ty_29 : sizeT Try.prog 29 = some 1 ∧ bytesT Try.prog 29 = some 24 ∧ aggT Try.prog 29 = some false ∧ elemT Try.prog 29 = some 55 ∧ arrT Try.prog 29 = none ∧ intT Try.prog 29 = none ∧ boolT Try.prog 29 = false ∧ stringT Try.prog 29 = false ∧ sliceT Try.prog 29 = true ∧ zeroT Try.prog 29 = some [.nils] ∧ zeroImT Try.prog 29 = some [(.sl [])] ∧ u8T Try.prog 29 = false ∧ zeroOne Try.prog 29 = some (.sl []) ∧ placesT Try.prog 29 = none := ⟨by kernel_rfl, by kernel_rfl, by kernel_rfl, by kernel_rfl, by kernel_rfl, by kernel_rfl, by kernel_rfl, by kernel_rfl, by kernel_rfl, by kernel_rfl, by kernel_rfl, by kernel_rfl, by kernel_rfl, by kernel_rfl⟩
theorem ty_31 : sizeT Try.prog 31 = some 5 ∧ bytesT Try.prog 31 = some 120 ∧ aggT Try.prog 31 = some true ∧ elemT Try.prog 31 = none ∧ arrT Try.prog 31 = none ∧ intT Try.prog 31 = none ∧ boolT Try.prog 31 = false ∧ stringT Try.prog 31 = false ∧ sliceT Try.prog 31 = false ∧ zeroT Try.prog 31 = some [.nils, .nils, .nils, .nils, .nils] ∧ zeroImT Try.prog 31 = some [(.sl []), (.sl []), (.sl []), (.sl []), (.sl [])] ∧ u8T Try.prog 31 = false ∧ placesT Try.prog 31 = some [(0, 1), (1, 1), (2, 1), (3, 1), (4, 1)] ∧ fieldT Try.prog 31 0 = some (0, 1) ∧ fieldT Try.prog 31 1 = some (1, 1) ∧ fieldT Try.prog 31 2 = some (2, 1) ∧ fieldT Try.prog 31 3 = some (3, 1) ∧ fieldT Try.prog 31 4 = some (4, 1) := ⟨by kernel_rfl, by kernel_rfl, by kernel_rfl, by kernel_rfl, by kernel_rfl, by kernel_rfl, by kernel_rfl, by kernel_rfl, by kernel_rfl, by kernel_rfl, by kernel_rfl, by kernel_rfl, by kernel_rfl, by kernel_rfl, by kernel_rfl, by kernel_rfl, by kernel_rfl, by kernel_rfl⟩
theorem ty_33 : sizeT Try.prog 33 = some 1 ∧ bytesT Try.prog 33 = some 24 ∧ aggT Try.prog 33 = some false ∧ elemT Try.prog 33 = some 4 ∧ arrT Try.prog 33 = none ∧ intT Try.prog 33 = none ∧ boolT Try.prog 33 = false ∧ stringT Try.prog 33 = false ∧ sliceT Try.prog 33 = true ∧ zeroT Try.prog 33 = some [.nils] ∧ zeroImT Try.prog 33 = some [(.sl [])] ∧ u8T Try.prog 33 = false ∧ zeroOne Try.prog 33 = some (.sl []) ∧ placesT Try.prog 33 = none := ⟨by kernel_rfl, by kernel_rfl, by kernel_rfl, by kernel_rfl, by kernel_rfl, by kernel_rfl, by kernel_rfl, by kernel_rfl, by kernel_rfl, by kernel_rfl, by kernel_rfl, by kernel_rfl, by kernel_rfl, by kernel_rfl⟩
theorem ty_35 : sizeT Try.prog 35 = some 1 ∧ bytesT Try.prog 35 = some 24 ∧ aggT Try.prog 35 = some false ∧ elemT Try.prog 35 = some 22 ∧ arrT Try.prog 35 = none ∧ intT Try.prog 35 = none ∧ boolT Try.prog 35 = false ∧ stringT Try.prog 35 = false ∧ sliceT Try.prog 35 = true ∧ zeroT Try.prog 35 = some [.nils] ∧ zeroImT Try.prog 35 = some [(.sl [])] ∧ u8T Try.prog 35 = false ∧ zeroOne Try.prog 35 = some (.sl []) ∧ placesT Try.prog 35 = none := ⟨by kernel_rfl, by kernel_rfl, by kernel_rfl, by kernel_rfl, by kernel_rfl, by kernel_rfl, by kernel_rfl, by kernel_rfl, by kernel_rfl, by kernel_rfl, by kernel_rfl, by kernel_rfl, by kernel_rfl, by kernel_rfl⟩
theorem ty_36 : sizeT Try.prog 36 = some 1 ∧ bytesT Try.prog 36 = some 8 ∧ aggT Try.prog 36 = some false ∧ elemT Try.prog 36 = none ∧ arrT Try.prog 36 = none ∧ intT Try.prog 36 = some .i64 ∧ boolT Try.prog 36 = false ∧ stringT Try.prog 36 = false ∧ sliceT Try.prog 36 = false ∧ Program.underlying Try.prog 36 = some (.int .i64) ∧ zeroT Try.prog 36 = some [.im (.int .i64 0)] ∧ zeroImT Try.prog 36 = some [(.int .i64 0)] ∧ u8T Try.prog 36 = false ∧ zeroOne Try.prog 36 = some (.int .i64 0) ∧ placesT Try.prog 36 = none := ⟨by kernel_rfl, by kernel_rfl, by kernel_rfl, by kernel_rfl, by kernel_rfl, by kernel_rfl, by kernel_rfl, by kernel_rfl, by kernel_rfl, by kernel_rfl, by kernel_rfl, by kernel_rfl, by kernel_rfl, by kernel_rfl, by kernel_rfl⟩
theorem ty_39 : sizeT Try.prog 39 = some 1 ∧ bytesT Try.prog 39 = some 24 ∧ aggT Try.prog 39 = some false ∧ elemT Try.prog 39 = some 99 ∧ arrT Try.prog 39 = none ∧ intT Try.prog 39 = none ∧ boolT Try.prog 39 = false ∧ stringT Try.prog 39 = false ∧ sliceT Try.prog 39 = true ∧ zeroT Try.prog 39 = some [.nils] ∧ zeroImT Try.prog 39 = some [(.sl [])] ∧ u8T Try.prog 39 = false ∧ zeroOne Try.prog 39 = some (.sl []) ∧ placesT Try.prog 39 = none := ⟨by kernel_rfl, by kernel_rfl, by kernel_rfl, by kernel_rfl, by kernel_rfl, by kernel_rfl, by kernel_rfl, by kernel_rfl, by kernel_rfl, by kernel_rfl, by kernel_rfl, by kernel_rfl, by kernel_rfl, by kernel_rfl⟩
theorem ty_44 : sizeT Try.prog 44 = some 1 ∧ bytesT Try.prog 44 = some 24 ∧ aggT Try.prog 44 = some false ∧ elemT Try.prog 44 = some 135 ∧ arrT Try.prog 44 = none ∧ intT Try.prog 44 = none ∧ boolT Try.prog 44 = false ∧ stringT Try.prog 44 = false ∧ sliceT Try.prog 44 = true ∧ zeroT Try.prog 44 = some [.nils] ∧ zeroImT Try.prog 44 = some [(.sl [])] ∧ u8T Try.prog 44 = false ∧ zeroOne Try.prog 44 = some (.sl []) ∧ placesT Try.prog 44 = none := ⟨by kernel_rfl, by kernel_rfl, by kernel_rfl, by kernel_rfl, by kernel_rfl, by kernel_rfl, by kernel_rfl, by kernel_rfl, by kernel_rfl, by kernel_rfl, by kernel_rfl, by kernel_rfl, by kernel_rfl, by kernel_rfl⟩
theorem ty_46 : sizeT Try.prog 46 = some 5 ∧ bytesT Try.prog 46 = some 64 ∧ aggT Try.prog 46 = some true ∧ elemT Try.prog 46 = none ∧ arrT Try.prog 46 = none ∧ intT Try.prog 46 = none ∧ boolT Try.prog 46 = false ∧ stringT Try.prog 46 = false ∧ sliceT Try.prog 46 = false ∧ zeroT Try.prog 46 = some [.im (.bool false), .im (.bool false), .nils, .nils, .im (.int .i64 0)] ∧ zeroImT Try.prog 46 = some [(.bool false), (.bool false), (.sl []), (.sl []), (.int .i64 0)] ∧ u8T Try.prog 46 = false ∧ placesT Try.prog 46 = some [(0, 1), (1, 1), (2, 1), (3, 1), (4, 1)] ∧ fieldT Try.prog 46 0 = some (0, 1) ∧ fieldT Try.prog 46 1 = some (1, 1) ∧ fieldT Try.prog 46 2 = some (2, 1) ∧ fieldT Try.prog 46 3 = some (3, 1) ∧ fieldT Try.prog 46 4 = some (4, 1) := ⟨by kernel_rfl, by kernel_rfl, by kernel_rfl, by kernel_rfl, by kernel_rfl, by kernel_rfl, by kernel_rfl, by kernel_rfl, by kernel_rfl, by kernel_rfl, by kernel_rfl, by kernel_rfl, by kernel_rfl, by kernel_rfl, by kernel_rfl, by kernel_rfl, by kernel_rfl, by kernel_rfl⟩
theorem ty_55 : sizeT Try.prog 55 = some 1 ∧ bytesT Try.prog 55 = some 8 ∧ aggT Try.prog 55 = some false ∧ elemT Try.prog 55 = none ∧ arrT Try.prog 55 = none ∧ intT Try.prog 55 = some .i64 ∧ boolT Try.prog 55 = false ∧ stringT Try.prog 55 = false ∧ sliceT Try.prog 55 = false ∧ Program.underlying Try.prog 55 = some (.int .i64) ∧ zeroT Try.prog 55 = some [.im (.int .i64 0)] ∧ zeroImT Try.prog 55 = some [(.int .i64 0)] ∧ u8T Try.prog 55 = false ∧ zeroOne Try.prog 55 = some (.int .i64 0) ∧ placesT Try.prog 55 = none := ⟨by kernel_rfl, by kernel_rfl, by kernel_rfl, by kernel_rfl, by kernel_rfl, by kernel_rfl, by kernel_rfl, by kernel_rfl, by kernel_rfl, by kernel_rfl, by kernel_rfl, by kernel_rfl, by kernel_rfl, by kernel_rfl, by kernel_rfl⟩
theorem ty_57 : sizeT Try.prog 57 = some 3 ∧ bytesT Try.prog 57 = some 32 ∧ aggT Try.prog 57 = some true ∧ elemT Try.prog 57 = none ∧ arrT Try.prog 57 = none ∧ intT Try.prog 57 = none ∧ boolT Try.prog 57 = false ∧ stringT Try.prog 57 = false ∧ sliceT Try.prog 57 = false ∧ zeroT Try.prog 57 = some [.im (.str ByteArray.empty), .im (.int .i64 0), .im (.bool false)] ∧ zeroImT Try.prog 57 = some [(.str ByteArray.empty), (.int .i64 0), (.bool false)] ∧ u8T Try.prog 57 = false ∧ eqsT Try.prog 57 = some [9, 55, 4] ∧ placesT Try.prog 57 = some [(0, 1), (1, 1), (2, 1)] ∧ fieldT Try.prog 57 0 = some (0, 1) ∧ fieldT Try.prog 57 1 = some (1, 1) ∧ fieldT Try.prog 57 2 = some (2, 1) := ⟨by kernel_rfl, by kernel_rfl, by kernel_rfl, by kernel_rfl, by kernel_rfl, by kernel_rfl, by kernel_rfl, by kernel_rfl, by kernel_rfl, by kernel_rfl, by kernel_rfl, by kernel_rfl, by kernel_rfl, by kernel_rfl, by kernel_rfl, by kernel_rfl, by kernel_rfl⟩
theorem ty_59 : sizeT Try.prog 59 = some 2 ∧ bytesT Try.prog 59 = some 16 ∧ aggT Try.prog 59 = some true ∧ elemT Try.prog 59 = none ∧ arrT Try.prog 59 = none ∧ intT Try.prog 59 = none ∧ boolT Try.prog 59 = false ∧ stringT Try.prog 59 = false ∧ sliceT Try.prog 59 = false ∧ zeroT Try.prog 59 = some [.im (.int .i64 0), .im (.int .i64 0)] ∧ zeroImT Try.prog 59 = some [(.int .i64 0), (.int .i64 0)] ∧ u8T Try.prog 59 = false ∧ eqsT Try.prog 59 = some [55, 55] ∧ placesT Try.prog 59 = some [(0, 1), (1, 1)] ∧ fieldT Try.prog 59 0 = some (0, 1) ∧ fieldT Try.prog 59 1 = some (1, 1) := ⟨by kernel_rfl, by kernel_rfl, by kernel_rfl, by kernel_rfl, by kernel_rfl, by kernel_rfl, by kernel_rfl, by kernel_rfl, by kernel_rfl, by kernel_rfl, by kernel_rfl, by kernel_rfl, by kernel_rfl, by kernel_rfl, by kernel_rfl, by kernel_rfl⟩
theorem ty_60 : sizeT Try.prog 60 = some 1 ∧ bytesT Try.prog 60 = some 8 ∧ aggT Try.prog 60 = some false ∧ elemT Try.prog 60 = none ∧ arrT Try.prog 60 = none ∧ intT Try.prog 60 = some .i64 ∧ boolT Try.prog 60 = false ∧ stringT Try.prog 60 = false ∧ sliceT Try.prog 60 = false ∧ Program.underlying Try.prog 60 = some (.int .i64) ∧ zeroT Try.prog 60 = some [.im (.int .i64 0)] ∧ zeroImT Try.prog 60 = some [(.int .i64 0)] ∧ u8T Try.prog 60 = false ∧ zeroOne Try.prog 60 = some (.int .i64 0) ∧ placesT Try.prog 60 = none := ⟨by kernel_rfl, by kernel_rfl, by kernel_rfl, by kernel_rfl, by kernel_rfl, by kernel_rfl, by kernel_rfl, by kernel_rfl, by kernel_rfl, by kernel_rfl, by kernel_rfl, by kernel_rfl, by kernel_rfl, by kernel_rfl, by kernel_rfl⟩
theorem ty_61 : sizeT Try.prog 61 = some 1 ∧ bytesT Try.prog 61 = some 24 ∧ aggT Try.prog 61 = some false ∧ elemT Try.prog 61 = some 44 ∧ arrT Try.prog 61 = none ∧ intT Try.prog 61 = none ∧ boolT Try.prog 61 = false ∧ stringT Try.prog 61 = false ∧ sliceT Try.prog 61 = true ∧ zeroT Try.prog 61 = some [.nils] ∧ zeroImT Try.prog 61 = some [(.sl [])] ∧ u8T Try.prog 61 = false ∧ zeroOne Try.prog 61 = some (.sl []) ∧ placesT Try.prog 61 = none := ⟨by kernel_rfl, by kernel_rfl, by kernel_rfl, by kernel_rfl, by kernel_rfl, by kernel_rfl, by kernel_rfl, by kernel_rfl, by kernel_rfl, by kernel_rfl, by kernel_rfl, by kernel_rfl, by kernel_rfl, by kernel_rfl⟩
theorem ty_62 : sizeT Try.prog 62 = some 1 ∧ bytesT Try.prog 62 = some 24 ∧ aggT Try.prog 62 = some false ∧ elemT Try.prog 62 = some 33 ∧ arrT Try.prog 62 = none ∧ intT Try.prog 62 = none ∧ boolT Try.prog 62 = false ∧ stringT Try.prog 62 = false ∧ sliceT Try.prog 62 = true ∧ zeroT Try.prog 62 = some [.nils] ∧ zeroImT Try.prog 62 = some [(.sl [])] ∧ u8T Try.prog 62 = false ∧ zeroOne Try.prog 62 = some (.sl []) ∧ placesT Try.prog 62 = none := ⟨by kernel_rfl, by kernel_rfl, by kernel_rfl, by kernel_rfl, by kernel_rfl, by kernel_rfl, by kernel_rfl, by kernel_rfl, by kernel_rfl, by kernel_rfl, by kernel_rfl, by kernel_rfl, by kernel_rfl, by kernel_rfl⟩
theorem ty_77 : sizeT Try.prog 77 = some 3 ∧ bytesT Try.prog 77 = some 56 ∧ aggT Try.prog 77 = some true ∧ elemT Try.prog 77 = none ∧ arrT Try.prog 77 = none ∧ intT Try.prog 77 = none ∧ boolT Try.prog 77 = false ∧ stringT Try.prog 77 = false ∧ sliceT Try.prog 77 = false ∧ zeroT Try.prog 77 = some [.im (.int .i64 0), .nils, .nils] ∧ zeroImT Try.prog 77 = some [(.int .i64 0), (.sl []), (.sl [])] ∧ u8T Try.prog 77 = false ∧ placesT Try.prog 77 = some [(0, 1), (1, 1), (2, 1)] ∧ fieldT Try.prog 77 0 = some (0, 1) ∧ fieldT Try.prog 77 1 = some (1, 1) ∧ fieldT Try.prog 77 2 = some (2, 1) := ⟨by kernel_rfl, by kernel_rfl, by kernel_rfl, by kernel_rfl, by kernel_rfl, by kernel_rfl, by kernel_rfl, by kernel_rfl, by kernel_rfl, by kernel_rfl, by kernel_rfl, by kernel_rfl, by kernel_rfl, by kernel_rfl, by kernel_rfl, by kernel_rfl⟩
theorem ty_99 : sizeT Try.prog 99 = some 1 ∧ bytesT Try.prog 99 = some 8 ∧ aggT Try.prog 99 = some false ∧ elemT Try.prog 99 = none ∧ arrT Try.prog 99 = none ∧ intT Try.prog 99 = some .u64 ∧ boolT Try.prog 99 = false ∧ stringT Try.prog 99 = false ∧ sliceT Try.prog 99 = false ∧ Program.underlying Try.prog 99 = some (.int .u64) ∧ zeroT Try.prog 99 = some [.im (.int .u64 0)] ∧ zeroImT Try.prog 99 = some [(.int .u64 0)] ∧ u8T Try.prog 99 = false ∧ zeroOne Try.prog 99 = some (.int .u64 0) ∧ placesT Try.prog 99 = none := ⟨by kernel_rfl, by kernel_rfl, by kernel_rfl, by kernel_rfl, by kernel_rfl, by kernel_rfl, by kernel_rfl, by kernel_rfl, by kernel_rfl, by kernel_rfl, by kernel_rfl, by kernel_rfl, by kernel_rfl, by kernel_rfl, by kernel_rfl⟩
theorem ty_123 : sizeT Try.prog 123 = some 1 ∧ bytesT Try.prog 123 = some 8 ∧ aggT Try.prog 123 = some false ∧ elemT Try.prog 123 = none ∧ arrT Try.prog 123 = none ∧ intT Try.prog 123 = none ∧ boolT Try.prog 123 = false ∧ stringT Try.prog 123 = false ∧ sliceT Try.prog 123 = false ∧ ptrT Try.prog 123 = true ∧ zeroT Try.prog 123 = some [.nilp] ∧ u8T Try.prog 123 = false ∧ placesT Try.prog 123 = none := ⟨by kernel_rfl, by kernel_rfl, by kernel_rfl, by kernel_rfl, by kernel_rfl, by kernel_rfl, by kernel_rfl, by kernel_rfl, by kernel_rfl, by kernel_rfl, by kernel_rfl, by kernel_rfl, by kernel_rfl⟩
theorem ty_130 : sizeT Try.prog 130 = some 1 ∧ bytesT Try.prog 130 = some 8 ∧ aggT Try.prog 130 = some false ∧ elemT Try.prog 130 = none ∧ arrT Try.prog 130 = none ∧ intT Try.prog 130 = none ∧ boolT Try.prog 130 = false ∧ stringT Try.prog 130 = false ∧ sliceT Try.prog 130 = false ∧ ptrT Try.prog 130 = true ∧ zeroT Try.prog 130 = some [.nilp] ∧ u8T Try.prog 130 = false ∧ placesT Try.prog 130 = none := ⟨by kernel_rfl, by kernel_rfl, by kernel_rfl, by kernel_rfl, by kernel_rfl, by kernel_rfl, by kernel_rfl, by kernel_rfl, by kernel_rfl, by kernel_rfl, by kernel_rfl, by kernel_rfl, by kernel_rfl⟩
theorem ty_131 : sizeT Try.prog 131 = some 1 ∧ bytesT Try.prog 131 = some 24 ∧ aggT Try.prog 131 = some false ∧ elemT Try.prog 131 = some 138 ∧ arrT Try.prog 131 = none ∧ intT Try.prog 131 = none ∧ boolT Try.prog 131 = false ∧ stringT Try.prog 131 = false ∧ sliceT Try.prog 131 = true ∧ zeroT Try.prog 131 = some [.nils] ∧ zeroImT Try.prog 131 = some [(.sl [])] ∧ u8T Try.prog 131 = false ∧ zeroOne Try.prog 131 = some (.sl []) ∧ placesT Try.prog 131 = none := ⟨by kernel_rfl, by kernel_rfl, by kernel_rfl, by kernel_rfl, by kernel_rfl, by kernel_rfl, by kernel_rfl, by kernel_rfl, by kernel_rfl, by kernel_rfl, by kernel_rfl, by kernel_rfl, by kernel_rfl, by kernel_rfl⟩
theorem ty_133 : sizeT Try.prog 133 = some 9 ∧ bytesT Try.prog 133 = some 184 ∧ aggT Try.prog 133 = some true ∧ elemT Try.prog 133 = none ∧ arrT Try.prog 133 = none ∧ intT Try.prog 133 = none ∧ boolT Try.prog 133 = false ∧ stringT Try.prog 133 = false ∧ sliceT Try.prog 133 = false ∧ zeroT Try.prog 133 = some [.nils, .nils, .nils, .nils, .nils, .nils, .nils, .im (.int .i64 0), .im (.int .i64 0)] ∧ zeroImT Try.prog 133 = some [(.sl []), (.sl []), (.sl []), (.sl []), (.sl []), (.sl []), (.sl []), (.int .i64 0), (.int .i64 0)] ∧ u8T Try.prog 133 = false ∧ placesT Try.prog 133 = some [(0, 1), (1, 1), (2, 1), (3, 1), (4, 1), (5, 1), (6, 1), (7, 1), (8, 1)] ∧ fieldT Try.prog 133 0 = some (0, 1) ∧ fieldT Try.prog 133 1 = some (1, 1) ∧ fieldT Try.prog 133 2 = some (2, 1) ∧ fieldT Try.prog 133 3 = some (3, 1) ∧ fieldT Try.prog 133 4 = some (4, 1) ∧ fieldT Try.prog 133 5 = some (5, 1) ∧ fieldT Try.prog 133 6 = some (6, 1) ∧ fieldT Try.prog 133 7 = some (7, 1) ∧ fieldT Try.prog 133 8 = some (8, 1) := ⟨by kernel_rfl, by kernel_rfl, by kernel_rfl, by kernel_rfl, by kernel_rfl, by kernel_rfl, by kernel_rfl, by kernel_rfl, by kernel_rfl, by kernel_rfl, by kernel_rfl, by kernel_rfl, by kernel_rfl, by kernel_rfl, by kernel_rfl, by kernel_rfl, by kernel_rfl, by kernel_rfl, by kernel_rfl, by kernel_rfl, by kernel_rfl, by kernel_rfl⟩
theorem ty_135 : sizeT Try.prog 135 = some 2 ∧ bytesT Try.prog 135 = some 32 ∧ aggT Try.prog 135 = some true ∧ elemT Try.prog 135 = none ∧ arrT Try.prog 135 = none ∧ intT Try.prog 135 = none ∧ boolT Try.prog 135 = false ∧ stringT Try.prog 135 = false ∧ sliceT Try.prog 135 = false ∧ zeroT Try.prog 135 = some [.im (.bool false), .nils] ∧ zeroImT Try.prog 135 = some [(.bool false), (.sl [])] ∧ u8T Try.prog 135 = false ∧ placesT Try.prog 135 = some [(0, 1), (1, 1)] ∧ fieldT Try.prog 135 0 = some (0, 1) ∧ fieldT Try.prog 135 1 = some (1, 1) := ⟨by kernel_rfl, by kernel_rfl, by kernel_rfl, by kernel_rfl, by kernel_rfl, by kernel_rfl, by kernel_rfl, by kernel_rfl, by kernel_rfl, by kernel_rfl, by kernel_rfl, by kernel_rfl, by kernel_rfl, by kernel_rfl, by kernel_rfl⟩
theorem ty_138 : sizeT Try.prog 138 = some 1 ∧ bytesT Try.prog 138 = some 1 ∧ aggT Try.prog 138 = some false ∧ elemT Try.prog 138 = none ∧ arrT Try.prog 138 = none ∧ intT Try.prog 138 = some .i8 ∧ boolT Try.prog 138 = false ∧ stringT Try.prog 138 = false ∧ sliceT Try.prog 138 = false ∧ Program.underlying Try.prog 138 = some (.int .i8) ∧ zeroT Try.prog 138 = some [.im (.int .i8 0)] ∧ zeroImT Try.prog 138 = some [(.int .i8 0)] ∧ u8T Try.prog 138 = false ∧ zeroOne Try.prog 138 = some (.int .i8 0) ∧ placesT Try.prog 138 = none := ⟨by kernel_rfl, by kernel_rfl, by kernel_rfl, by kernel_rfl, by kernel_rfl, by kernel_rfl, by kernel_rfl, by kernel_rfl, by kernel_rfl, by kernel_rfl, by kernel_rfl, by kernel_rfl, by kernel_rfl, by kernel_rfl, by kernel_rfl⟩
theorem ty_148 : sizeT Try.prog 148 = some 1 ∧ bytesT Try.prog 148 = some 24 ∧ aggT Try.prog 148 = some false ∧ elemT Try.prog 148 = some 5 ∧ arrT Try.prog 148 = none ∧ intT Try.prog 148 = none ∧ boolT Try.prog 148 = false ∧ stringT Try.prog 148 = false ∧ sliceT Try.prog 148 = true ∧ zeroT Try.prog 148 = some [.nils] ∧ zeroImT Try.prog 148 = some [(.sl [])] ∧ u8T Try.prog 148 = true ∧ zeroOne Try.prog 148 = some (.sl []) ∧ placesT Try.prog 148 = none := ⟨by kernel_rfl, by kernel_rfl, by kernel_rfl, by kernel_rfl, by kernel_rfl, by kernel_rfl, by kernel_rfl, by kernel_rfl, by kernel_rfl, by kernel_rfl, by kernel_rfl, by kernel_rfl, by kernel_rfl, by kernel_rfl⟩
theorem ty_154 : sizeT Try.prog 154 = some 1 ∧ bytesT Try.prog 154 = some 8 ∧ aggT Try.prog 154 = some false ∧ elemT Try.prog 154 = none ∧ arrT Try.prog 154 = none ∧ intT Try.prog 154 = none ∧ boolT Try.prog 154 = false ∧ stringT Try.prog 154 = false ∧ sliceT Try.prog 154 = false ∧ zeroT Try.prog 154 = some [.any] ∧ u8T Try.prog 154 = false ∧ mapT Try.prog 154 = some (59, 55) ∧ placesT Try.prog 154 = none := ⟨by kernel_rfl, by kernel_rfl, by kernel_rfl, by kernel_rfl, by kernel_rfl, by kernel_rfl, by kernel_rfl, by kernel_rfl, by kernel_rfl, by kernel_rfl, by kernel_rfl, by kernel_rfl, by kernel_rfl⟩
theorem ty_156 : sizeT Try.prog 156 = some 5 ∧ bytesT Try.prog 156 = some 88 ∧ aggT Try.prog 156 = some true ∧ elemT Try.prog 156 = none ∧ arrT Try.prog 156 = none ∧ intT Try.prog 156 = none ∧ boolT Try.prog 156 = false ∧ stringT Try.prog 156 = false ∧ sliceT Try.prog 156 = false ∧ zeroT Try.prog 156 = some [.nils, .nils, .nils, .any, .im (.int .i64 0)] ∧ u8T Try.prog 156 = false ∧ placesT Try.prog 156 = some [(0, 1), (1, 1), (2, 1), (3, 1), (4, 1)] ∧ fieldT Try.prog 156 0 = some (0, 1) ∧ fieldT Try.prog 156 1 = some (1, 1) ∧ fieldT Try.prog 156 2 = some (2, 1) ∧ fieldT Try.prog 156 3 = some (3, 1) ∧ fieldT Try.prog 156 4 = some (4, 1) := ⟨by kernel_rfl, by kernel_rfl, by kernel_rfl, by kernel_rfl, by kernel_rfl, by kernel_rfl, by kernel_rfl, by kernel_rfl, by kernel_rfl, by kernel_rfl, by kernel_rfl, by kernel_rfl, by kernel_rfl, by kernel_rfl, by kernel_rfl, by kernel_rfl, by kernel_rfl⟩
theorem ty_162 : sizeT Try.prog 162 = some 1 ∧ bytesT Try.prog 162 = some 8 ∧ aggT Try.prog 162 = some false ∧ elemT Try.prog 162 = none ∧ arrT Try.prog 162 = none ∧ intT Try.prog 162 = none ∧ boolT Try.prog 162 = false ∧ stringT Try.prog 162 = false ∧ sliceT Try.prog 162 = false ∧ zeroT Try.prog 162 = some [.any] ∧ u8T Try.prog 162 = false ∧ mapT Try.prog 162 = some (9, 3) ∧ placesT Try.prog 162 = none := ⟨by kernel_rfl, by kernel_rfl, by kernel_rfl, by kernel_rfl, by kernel_rfl, by kernel_rfl, by kernel_rfl, by kernel_rfl, by kernel_rfl, by kernel_rfl, by kernel_rfl, by kernel_rfl, by kernel_rfl⟩
theorem ty_167 : sizeT Try.prog 167 = some 1 ∧ bytesT Try.prog 167 = some 8 ∧ aggT Try.prog 167 = some false ∧ elemT Try.prog 167 = none ∧ arrT Try.prog 167 = none ∧ intT Try.prog 167 = none ∧ boolT Try.prog 167 = false ∧ stringT Try.prog 167 = false ∧ sliceT Try.prog 167 = false ∧ zeroT Try.prog 167 = some [.any] ∧ u8T Try.prog 167 = false ∧ mapT Try.prog 167 = some (3, 4) ∧ placesT Try.prog 167 = none := ⟨by kernel_rfl, by kernel_rfl, by kernel_rfl, by kernel_rfl, by kernel_rfl, by kernel_rfl, by kernel_rfl, by kernel_rfl, by kernel_rfl, by kernel_rfl, by kernel_rfl, by kernel_rfl, by kernel_rfl⟩
theorem ty_177 : sizeT Try.prog 177 = some 1 ∧ bytesT Try.prog 177 = some 8 ∧ aggT Try.prog 177 = some false ∧ elemT Try.prog 177 = none ∧ arrT Try.prog 177 = none ∧ intT Try.prog 177 = some .u64 ∧ boolT Try.prog 177 = false ∧ stringT Try.prog 177 = false ∧ sliceT Try.prog 177 = false ∧ Program.underlying Try.prog 177 = some (.int .u64) ∧ zeroT Try.prog 177 = some [.im (.int .u64 0)] ∧ zeroImT Try.prog 177 = some [(.int .u64 0)] ∧ u8T Try.prog 177 = false ∧ zeroOne Try.prog 177 = some (.int .u64 0) ∧ placesT Try.prog 177 = none := ⟨by kernel_rfl, by kernel_rfl, by kernel_rfl, by kernel_rfl, by kernel_rfl, by kernel_rfl, by kernel_rfl, by kernel_rfl, by kernel_rfl, by kernel_rfl, by kernel_rfl, by kernel_rfl, by kernel_rfl, by kernel_rfl, by kernel_rfl⟩
theorem ty_180 : sizeT Try.prog 180 = some 1 ∧ bytesT Try.prog 180 = some 8 ∧ aggT Try.prog 180 = some false ∧ elemT Try.prog 180 = none ∧ arrT Try.prog 180 = none ∧ intT Try.prog 180 = some .i64 ∧ boolT Try.prog 180 = false ∧ stringT Try.prog 180 = false ∧ sliceT Try.prog 180 = false ∧ Program.underlying Try.prog 180 = some (.int .i64) ∧ zeroT Try.prog 180 = some [.im (.int .i64 0)] ∧ zeroImT Try.prog 180 = some [(.int .i64 0)] ∧ u8T Try.prog 180 = false ∧ zeroOne Try.prog 180 = some (.int .i64 0) ∧ placesT Try.prog 180 = none := ⟨by kernel_rfl, by kernel_rfl, by kernel_rfl, by kernel_rfl, by kernel_rfl, by kernel_rfl, by kernel_rfl, by kernel_rfl, by kernel_rfl, by kernel_rfl, by kernel_rfl, by kernel_rfl, by kernel_rfl, by kernel_rfl, by kernel_rfl⟩
theorem ty_188 : sizeT Try.prog 188 = some 1 ∧ bytesT Try.prog 188 = some 4 ∧ aggT Try.prog 188 = some false ∧ elemT Try.prog 188 = none ∧ arrT Try.prog 188 = none ∧ intT Try.prog 188 = some .u32 ∧ boolT Try.prog 188 = false ∧ stringT Try.prog 188 = false ∧ sliceT Try.prog 188 = false ∧ Program.underlying Try.prog 188 = some (.int .u32) ∧ zeroT Try.prog 188 = some [.im (.int .u32 0)] ∧ zeroImT Try.prog 188 = some [(.int .u32 0)] ∧ u8T Try.prog 188 = false ∧ zeroOne Try.prog 188 = some (.int .u32 0) ∧ placesT Try.prog 188 = none := ⟨by kernel_rfl, by kernel_rfl, by kernel_rfl, by kernel_rfl, by kernel_rfl, by kernel_rfl, by kernel_rfl, by kernel_rfl, by kernel_rfl, by kernel_rfl, by kernel_rfl, by kernel_rfl, by kernel_rfl, by kernel_rfl, by kernel_rfl⟩

set_option maxRecDepth 100000

abbrev I64 (x : Int) : Prop := -9223372036854775808 ≤ x ∧ x ≤ 9223372036854775807
theorem wrap64 {x : Int} (h : I64 x) : IntKind.i64.wrap x = x := by
 unfold IntKind.wrap
 simp only [IntKind.bits, IntKind.signed]
 simp
 omega
abbrev PV.i (x : Int) : PV := .im (.int .i64 x)
def below (x n : Int) : Int := if n < 1 then 0 else x % n
theorem Below_ok (x n : Int) (hx : I64 x) (hn : I64 n) (up : Frs) : ACalls Try.prog 21 [.i x, .i n] up fun v u => v = .i (below x n) ∧ u = up := by
 refine ACalls.code Try.func21 rfl 16 rfl (by simp) [.tmp 4] rfl fun Q hQ => ?_
 simp only [ups, PV.up, argEnv]
 refine Run.seq ?_
 refine Run.region rfl fun K hK => GOps.run ?_
 simp only [lookupV, updateV, lookupK, updateK, slicePV, pe0, pe1, pe2, pe3, pe4, pe5, pe6, pe7, pr0, pr1, Nat.reduceAdd, Nat.reduceMul, Nat.reduceLeDiff, Nat.reduceLT, Nat.reduceEqDiff, Nat.reduceBEq, Nat.reduceSub, reduceCtorEq, reduceIte, Int.reduceToNat, Int.reduceLE, Int.reduceEq, Int.reduceNe, Int.reduceBEq, Int.reduceBNe, Int.reduceLT, Int.reduceGT, Int.reduceGE, Int.reduceNeg, ty_3, ty_4]
 refine GOps.done (hK _ ?_); clear hK K
 refine End.keep [0, 1] ?_
 simp only [pk0, Nat.reduceBEq, reduceIte]
 refine Run.seq ?_
 refine Run.seq ?_
 refine Run.region rfl fun K hK => GOps.run ?_
 simp only [lookupV, updateV, lookupK, updateK, slicePV, pe0, pe1, pe2, pe3, pe4, pe5, pe6, pe7, pr0, pr1, Nat.reduceAdd, Nat.reduceMul, Nat.reduceLeDiff, Nat.reduceLT, Nat.reduceEqDiff, Nat.reduceBEq, Nat.reduceSub, reduceCtorEq, reduceIte, Int.reduceToNat, Int.reduceLE, Int.reduceEq, Int.reduceNe, Int.reduceBEq, Int.reduceBNe, Int.reduceLT, Int.reduceGT, Int.reduceGE, Int.reduceNeg, ty_3, ty_4]
 refine GOps.done (hK _ ?_); clear hK K
 refine End.keep [0, 1, 6] ?_
 simp only [pk0, Nat.reduceBEq, reduceIte]
 refine Run.cond _ rfl (fun hb => ?_) (fun hb => ?_)
 ·have hb := of_decide_eq_true hb
  refine Run.seq ?_
  refine Run.region rfl fun K hK => GOps.run ?_
  simp only [lookupV, updateV, lookupK, updateK, slicePV, pe0, pe1, pe2, pe3, pe4, pe5, pe6, pe7, pr0, pr1, Nat.reduceAdd, Nat.reduceMul, Nat.reduceLeDiff, Nat.reduceLT, Nat.reduceEqDiff, Nat.reduceBEq, Nat.reduceSub, reduceCtorEq, reduceIte, Int.reduceToNat, Int.reduceLE, Int.reduceEq, Int.reduceNe, Int.reduceBEq, Int.reduceBNe, Int.reduceLT, Int.reduceGT, Int.reduceGE, Int.reduceNeg, ty_3, ty_4]
  refine GOps.done (hK _ ?_); clear hK K
  refine End.keep [4] ?_
  simp only [pk0, Nat.reduceBEq, reduceIte]
  refine Run.ret (hQ _ _ ⟨.inr rfl, _, rfl, _, rfl, ?_⟩)
  simp [below, hb]
 ·have hb := of_decide_eq_false hb
  have hn0 : ¬ n = 0 := by omega
  have ht : x.tmod n = if x < 0 then (if x % n = 0 then 0 else x % n - n) else x % n := by
   rw [Int.tmod_eq_emod]
   have h1 : n.natAbs = n := by omega
   by_cases h0 : x < 0
   ·by_cases h2 : n ∣ x
    ·have := Int.emod_eq_zero_of_dvd h2
     simp [h2, h0, this]
    ·have : ¬ x % n = 0 := fun e => h2 (Int.dvd_of_emod_eq_zero e)
     rw [if_neg (by omega), if_pos h0, if_neg this]
     omega
   ·rw [if_pos (by omega), if_neg h0]
    omega
  have hm0 := Int.emod_nonneg x hn0
  have hm1 := Int.emod_lt_of_pos x (show 0 < n by omega)
  refine Run.skip ?_
  refine End.keep [0, 1] ?_
  simp only [pk0, Nat.reduceBEq, reduceIte]
  refine Run.seq ?_
  refine Run.region rfl fun K hK => GOps.run ?_
  simp only [lookupV, updateV, lookupK, updateK, slicePV, pe0, pe1, pe2, pe3, pe4, pe5, pe6, pe7, pr0, pr1, Nat.reduceAdd, Nat.reduceMul, Nat.reduceLeDiff, Nat.reduceLT, Nat.reduceEqDiff, Nat.reduceBEq, Nat.reduceSub, reduceCtorEq, reduceIte, Int.reduceToNat, Int.reduceLE, Int.reduceEq, Int.reduceNe, Int.reduceBEq, Int.reduceBNe, Int.reduceLT, Int.reduceGT, Int.reduceGE, Int.reduceNeg, ty_3, ty_4, hn0]
  refine GOps.done (hK _ ?_); clear hK K
  refine End.keep [0, 1] ?_
  simp only [pk0, Nat.reduceBEq, reduceIte]
  refine Run.seq ?_
  refine Run.seq ?_
  refine Run.region rfl fun K hK => GOps.run ?_
  simp only [lookupV, updateV, lookupK, updateK, slicePV, pe0, pe1, pe2, pe3, pe4, pe5, pe6, pe7, pr0, pr1, Nat.reduceAdd, Nat.reduceMul, Nat.reduceLeDiff, Nat.reduceLT, Nat.reduceEqDiff, Nat.reduceBEq, Nat.reduceSub, reduceCtorEq, reduceIte, Int.reduceToNat, Int.reduceLE, Int.reduceEq, Int.reduceNe, Int.reduceBEq, Int.reduceBNe, Int.reduceLT, Int.reduceGT, Int.reduceGE, Int.reduceNeg, ty_3, ty_4]
  refine GOps.done (hK _ ?_); clear hK K
  refine End.keep [0, 1, 11] ?_
  simp only [pk0, Nat.reduceBEq, reduceIte]
  refine Run.cond _ rfl (fun hb => ?_) (fun hb => ?_)
  ·have hc := of_decide_eq_true hb
   refine Run.region rfl fun K hK => GOps.run ?_
   simp only [lookupV, updateV, lookupK, updateK, slicePV, pe0, pe1, pe2, pe3, pe4, pe5, pe6, pe7, pr0, pr1, Nat.reduceAdd, Nat.reduceMul, Nat.reduceLeDiff, Nat.reduceLT, Nat.reduceEqDiff, Nat.reduceBEq, Nat.reduceSub, reduceCtorEq, reduceIte, Int.reduceToNat, Int.reduceLE, Int.reduceEq, Int.reduceNe, Int.reduceBEq, Int.reduceBNe, Int.reduceLT, Int.reduceGT, Int.reduceGE, Int.reduceNeg, ty_3, ty_4]
   refine GOps.done (hK _ ?_); clear hK K
   refine End.keep [0] ?_
   simp only [pk0, Nat.reduceBEq, reduceIte]
   refine Run.seq ?_
   refine Run.region rfl fun K hK => GOps.run ?_
   simp only [lookupV, updateV, lookupK, updateK, slicePV, pe0, pe1, pe2, pe3, pe4, pe5, pe6, pe7, pr0, pr1, Nat.reduceAdd, Nat.reduceMul, Nat.reduceLeDiff, Nat.reduceLT, Nat.reduceEqDiff, Nat.reduceBEq, Nat.reduceSub, reduceCtorEq, reduceIte, Int.reduceToNat, Int.reduceLE, Int.reduceEq, Int.reduceNe, Int.reduceBEq, Int.reduceBNe, Int.reduceLT, Int.reduceGT, Int.reduceGE, Int.reduceNeg, ty_3, ty_4]
   refine GOps.done (hK _ ?_); clear hK K
   refine End.keep [4] ?_
   simp only [pk0, Nat.reduceBEq, reduceIte]
   refine Run.ret (hQ _ _ ⟨.inr rfl, _, rfl, _, rfl, ?_⟩)
   refine ⟨?_, rfl⟩
   have e : x.tmod n + n = x % n := by
    rw [ht] at hc ⊢
    split at hc
    ·split at hc
     ·omega
     ·rename_i h1 h2; rw [if_pos h1, if_neg h2]; omega
    ·omega
   rw [e, wrap64 (by omega)]
   simp [below, hb, show ¬ n < 1 by omega]
  ·have hc := of_decide_eq_false hb
   refine Run.skip ?_
   refine End.keep [0] ?_
   simp only [pk0, Nat.reduceBEq, reduceIte]
   refine Run.seq ?_
   refine Run.region rfl fun K hK => GOps.run ?_
   simp only [lookupV, updateV, lookupK, updateK, slicePV, pe0, pe1, pe2, pe3, pe4, pe5, pe6, pe7, pr0, pr1, Nat.reduceAdd, Nat.reduceMul, Nat.reduceLeDiff, Nat.reduceLT, Nat.reduceEqDiff, Nat.reduceBEq, Nat.reduceSub, reduceCtorEq, reduceIte, Int.reduceToNat, Int.reduceLE, Int.reduceEq, Int.reduceNe, Int.reduceBEq, Int.reduceBNe, Int.reduceLT, Int.reduceGT, Int.reduceGE, Int.reduceNeg, ty_3, ty_4]
   refine GOps.done (hK _ ?_); clear hK K
   refine End.keep [4] ?_
   simp only [pk0, Nat.reduceBEq, reduceIte]
   refine Run.ret (hQ _ _ ⟨.inr rfl, _, rfl, _, rfl, ?_⟩)
   refine ⟨?_, rfl⟩
   have e : x.tmod n = x % n := by
    rw [ht] at hc ⊢
    split at hc
    ·split at hc
     ·rename_i h1 h2; rw [if_pos h1, if_pos h2, h2]
     ·omega
    ·rename_i h1; rw [if_neg h1]
   rw [e]
   simp [below, show ¬ n < 1 by omega]
abbrev ints (l : List Int) : List (List Im) := l.map fun x => [.int .i64 x]
theorem ints_len (l : List Int) : (ints l).length = l.length := by simp
structure StmOk (l : List Int) (a : Int) : Prop where
 vals : ∀ x ∈ l, I64 x
 len : l.length ≤ 9223372036854775807
 pos : 0 ≤ a
 few : a < 1099511627776

theorem below_range (x n : Int) (h : 1 ≤ n) : 0 ≤ below x n ∧ below x n < n := by
 unfold below
 rw [if_neg (by omega)]
 exact ⟨Int.emod_nonneg _ (by omega), Int.emod_lt_of_pos _ (by omega)⟩
theorem StmOk.next {l : List Int} {a : Int} (h : StmOk l a) (hf : a + 1 < 1099511627776) : StmOk l (a + 1) := ⟨h.vals, h.len, by have := h.pos; omega, hf⟩
abbrev PV.u (x : Int) : PV := .im (.int .u64 x)
theorem wrapU {x : Int} (h : 0 ≤ x ∧ x ≤ 18446744073709551615) : IntKind.u64.wrap x = x := by
 unfold IntKind.wrap
 simp only [IntKind.bits, IntKind.signed]
 simp
 omega


def bit0 (x : Int) : Bool := (BitVec.ofInt 64 x).getLsbD 0
theorem back0 (r : BitVec 64) : bit0 (IntKind.u64.wrap r.toNat) = r.getLsbD 0 := by
 have h : IntKind.u64.wrap r.toNat = r.toNat := wrapU (by have := r.isLt; omega)
 rw [bit0, h]
 congr 1
 apply BitVec.eq_of_toNat_eq
 simp
theorem bit0_and (x y : Int) : bit0 (bits .and .u64 x y) = (bit0 x && bit0 y) := by
 show bit0 (IntKind.u64.wrap (BitVec.ofInt 64 x &&& BitVec.ofInt 64 y).toNat) = _
 rw [back0, BitVec.getLsbD_and]
 rfl
theorem bit0_not (y : Int) : bit0 (bits .xor .u64 (if IntKind.u64.signed = true then -1 else IntKind.u64.max) y) = !bit0 y := by
 show bit0 (IntKind.u64.wrap (BitVec.ofInt 64 _ ^^^ BitVec.ofInt 64 y).toNat) = _
 rw [back0, BitVec.getLsbD_xor]
 have : (BitVec.ofInt 64 (if IntKind.u64.signed = true then -1 else IntKind.u64.max)).getLsbD 0 = true := by decide
 rw [this]
 simp [bit0]
theorem one_iff (x : Int) : (bits .and .u64 x 1 == 1) = bit0 x := by
 have h1 : bits .and .u64 x 1 = ((BitVec.ofInt 64 x &&& 1#64).toNat : Int) := by
  show IntKind.u64.wrap (BitVec.ofInt 64 x &&& BitVec.ofInt 64 1).toNat = _
  rw [wrapU (by have := (BitVec.ofInt 64 x &&& BitVec.ofInt 64 1).isLt; omega)]
  rfl
 rw [h1, bit0]
 generalize BitVec.ofInt 64 x = b
 have h2 : (b &&& 1#64).toNat = b.toNat % 2 := by
  rw [BitVec.toNat_and]
  exact Nat.and_one_is_mod _
 have h3 : b.getLsbD 0 = decide (b.toNat % 2 = 1) := by
  rw [BitVec.getLsbD, Nat.testBit_zero]
 rw [h2, h3]
 by_cases h : b.toNat % 2 = 1
 ·simp [h]
 ·have h0 : b.toNat % 2 = 0 := by omega
  simp [h0]
theorem bit0_lane (b : Bool) : bit0 (if b = true then 1 else 0) = b := by cases b <;> decide

set_option maxRecDepth 100000

abbrev strs (l : List ByteArray) : List (List Im) := l.map fun s => [.str s]
theorem strs_len (l : List ByteArray) : (strs l).length = l.length := by simp


set_option maxHeartbeats 2000000
structure LGate where
 table : Int
 ins : List Int
abbrev LGate.im (g : LGate) : List Im := [.int .i64 (-1), .int .u64 g.table, .sl (ints g.ins)]
structure LFlop where
 name : ByteArray
 d : Int
 en : Int
 init : Bool
abbrev LFlop.im (f : LFlop) : List Im := [.str f.name, .int .i64 (-1), .int .i64 f.d, .int .i64 f.en, .bool f.init]
structure LNet where
 inn : List ByteArray
 out : List ByteArray
 flops : List LFlop
 gates : List LGate
 outs : List Int
abbrev LNet.pv (n : LNet) : PV := .agg [.im (.sl (strs n.inn)), .im (.sl (strs n.out)), .im (.sl (n.flops.map LFlop.im)), .im (.sl (n.gates.map LGate.im)), .im (.sl (ints n.outs))]

set_option maxRecDepth 100000

abbrev bools (l : List Bool) : List (List Im) := l.map fun b => [.bool b]
abbrev us (l : List Int) : List (List Im) := l.map fun x => [.int .u64 x]
theorem bools_len (l : List Bool) : (bools l).length = l.length := by simp
theorem us_len (l : List Int) : (us l).length = l.length := by simp
theorem bools_get (l : List Bool) (i : Nat) (h : i < l.length) : (bools l)[i]? = some [.bool (l.getD i false)] := by simp [h]
theorem us_get (l : List Int) (i : Nat) (h : i < l.length) : (us l)[i]? = some [.int .u64 (l.getD i 0)] := by simp [h]
theorem wsucc {i n : Nat} (h : i < n) (hn : n ≤ 140737488355328) : IntKind.i64.wrap ((i : Int) + 1) = ((i + 1 : Nat) : Int) := by rw [wrap64 (by omega)]; omega
theorem fill_next (done : List (List Im)) (k : Nat) (z y : List Im) : (done ++ List.replicate (k + 1) z).set done.length y = (done ++ [y]) ++ List.replicate k z := by
 rw [List.set_append_right _ _ (Nat.le_refl _)]
 simp [List.replicate_succ]
theorem take_snoc {α : Type} (l : List α) (i : Nat) (z : α) (h : i < l.length) : l.take (i + 1) = l.take i ++ [l.getD i z] := by
 rw [List.take_add_one]
 simp [h]
theorem fill_map {α : Type} (f : α → List Im) (q : List α) (z : List Im) (d : α) (i : Nat) (h : i < q.length) :
  ((q.take i).map f ++ List.replicate (q.length - i) z).set i (f (q.getD i d)) = (q.take (i + 1)).map f ++ List.replicate (q.length - (i + 1)) z := by
 have hA : ((q.take i).map f).length = i := by simp; omega
 have := fill_next ((q.take i).map f) (q.length - (i + 1)) z (f (q.getD i d))
 rw [hA] at this
 rw [show q.length - i = q.length - (i + 1) + 1 by omega, this, take_snoc q i d h]
 simp
theorem fill_len {α : Type} (f : α → List Im) (q : List α) (z : List Im) (i : Nat) (h : i ≤ q.length) : ((q.take i).map f ++ List.replicate (q.length - i) z).length = q.length := by simp; omega
theorem fill_get {α : Type} (f : α → List Im) (q : List α) (z : List Im) (i : Nat) (h : i < q.length) : ((q.take i).map f ++ List.replicate (q.length - i) z)[i]? = some z := by
 have hA : ((q.take i).map f).length = i := by simp; omega
 rw [List.getElem?_append_right (by omega), hA, Nat.sub_self, List.getElem?_replicate, if_pos (by omega)]
theorem fill_all {α : Type} (f : α → List Im) (q : List α) (z : List Im) : (q.take q.length).map f ++ List.replicate (q.length - q.length) z = q.map f := by simp
abbrev b2u (b : Bool) : List Im := [.int .u64 (if b then 1 else 0)]
theorem b2u_map (q : List Bool) : q.map b2u = us (q.map fun b => if b then 1 else 0) := by simp
theorem Lanes_ok (q : List Bool) (hq : q.length ≤ 1000) (up : Frs) : ACalls Try.prog 14 [.im (.sl (bools q))] up fun v u => v = .im (.sl (us (q.map fun b => if b then 1 else 0))) ∧ u = up := by
 have hc : (0 : Int) ≤ q.length := by omega
 have hm1 : ((8 : Nat) : Int) * (q.length : Int) ≤ 281474976710656 := by omega
 have hm2 : (q.length : Int) ≤ 9223372036854775807 := by omega
 refine ACalls.code Try.func14 rfl 22 rfl (by simp) [.tmp 2] rfl fun Q hQ => ?_
 simp only [ups, PV.up, argEnv]
 have ft := ai ty_3 (ai ty_4 (ai ty_33 (ai ty_39 (ai ty_99 trivial))))
 refine Run.seq ?_
 have fx := ai hm2 (ai hm1 (ai hc (ai bools_len ft)))
 refine Run.go ?_
 refine End.kp [0] ?_
 refine Run.seq ?_
 refine Run.go ?_
 refine End.kp [0, 3] ?_
 refine Run.seq ?_
 refine Run.seq ?_
 refine Run.go ?_
 refine End.kp [3, 9, 10, 11] ?_
 refine Run.block ?_
 refine Run.ghost (Ghost.form [(3, .ms 0 0 q.length), (9, .im (.sl (bools q))), (10, .i q.length), (11, .i (0 : Nat))] 1 ⟨rfl, rfl, rfl, rfl, trivial⟩ rfl rfl) ?_
 refine Run.loop (fun m s => ∃ (i : Nat), m = q.length - i ∧ i ≤ q.length ∧
  s = ⟨[(3, .ms 0 0 q.length), (9, .im (.sl (bools q))), (10, .i q.length), (11, .i (i : Nat))], [.row 99 1 ((q.take i).map b2u ++ List.replicate (q.length - i) [.int .u64 0]) 0], up⟩) q.length ⟨0, rfl, by omega, by simp⟩ fun m s hI => ?_
 obtain ⟨i, rfl, hi, rfl⟩ := hI
 have hrl := fill_len b2u q [.int .u64 0] i hi
 refine Run.seq ?_
 have fx := ai hrl fx
 refine Run.go ?_
 refine End.kp [3, 9, 10, 11, 12] ?_
 refine Run.seq ?_
 refine Run.cond _ rfl (fun hb => ?_) (fun hb => ?_)
 ·have hb := of_decide_eq_true hb
  have hin : i < q.length := by omega
  have wi := wsucc hin (by omega)
  have hg := bools_get q i hin
  have hri := fill_get b2u q [.int .u64 0] i hin
  have hfm := fill_map b2u q [.int .u64 0] false i hin
  refine Run.skip ?_
  refine End.kp [3, 9, 10, 11] ?_
  refine Run.seq ?_
  refine Run.block ?_
  refine Run.seq ?_
  have fx := ai hri (ai hin (ai (@Int.ofNat_lt) (ai zNn (ai hg (ai wi fx)))))
  refine Run.go ?_
  refine End.kp [3, 4, 5, 9, 10, 11] ?_
  refine Run.seq ?_
  refine Run.go ?_
  refine End.kp [3, 4, 9, 10, 11, 16] ?_
  refine Run.cond _ rfl (fun hb => ?_) (fun hb => ?_)
  ·have hb := hb
   refine Run.go ?_
   refine End.blk ?_
   refine End.kp [3, 9, 10, 11] ?_
   refine Run.go ?_
   refine End.lp ?_
   refine ⟨q.length - (i + 1), _, by omega, Ghost.form [(3, .ms 0 0 q.length), (9, .im (.sl (bools q))), (10, .i q.length), (11, .i (i + 1 : Nat))] 1 ⟨rfl, rfl, rfl, rfl, trivial⟩ rfl rfl, i + 1, rfl, by omega, ?_⟩
   rw [← hfm, hb]
   rfl
  ·have hb := hb
   refine Run.skip ?_
   refine End.blk ?_
   refine End.kp [3, 9, 10, 11] ?_
   refine Run.go ?_
   refine End.lp ?_
   refine ⟨q.length - (i + 1), _, by omega, Ghost.form [(3, .ms 0 0 q.length), (9, .im (.sl (bools q))), (10, .i q.length), (11, .i (i + 1 : Nat))] 1 ⟨rfl, rfl, rfl, rfl, trivial⟩ rfl rfl, i + 1, rfl, by omega, ?_⟩
   rw [← hfm, hb]
   have : ((q.take i).map b2u ++ List.replicate (q.length - i) [Im.int .u64 0]).set i (b2u false) = (q.take i).map b2u ++ List.replicate (q.length - i) [Im.int .u64 0] := by
    apply List.ext_getElem?
    intro k
    rw [List.getElem?_set]
    split
    ·rename_i e
     subst e
     rw [hri, if_pos (by rw [hrl]; omega)]
     rfl
    ·rfl
   rw [this]
   rfl
 ·have hb := of_decide_eq_false hb
  have hiN : i = q.length := by omega
  subst hiN
  rw [fill_all, b2u_map] at hrl ⊢
  refine Run.exit rfl ?_
  refine End.kp [3] ?_
  refine Run.seq ?_
  refine Run.ghost (Ghost.shut (t := 3) (j := 0) rfl rfl hrl) ?_
  simp only [eput, edel]
  have fx := ai hrl (ai hm2 (ai hm1 (ai hc (ai bools_len ft))))
  refine Run.go ?_
  refine End.kp [2] ?_
  refine Run.ret (hQ _ _ ⟨.inr rfl, _, rfl, _, rfl, ?_⟩)
  exact ⟨rfl, rfl⟩
abbrev u2b (w : Int) : List Im := [.bool (bits .and .u64 w 1 == 1)]
theorem u2b_map (q : List Int) : q.map u2b = bools (q.map fun w => bits .and .u64 w 1 == 1) := by simp
theorem Lane_ok (q : List Int) (hq : q.length ≤ 1000) (up : Frs) : ACalls Try.prog 20 [.im (.sl (us q))] up fun v u => v = .im (.sl (bools (q.map fun w => bits .and .u64 w 1 == 1))) ∧ u = up := by
 have hc : (0 : Int) ≤ q.length := by omega
 have hm1 : ((1 : Nat) : Int) * (q.length : Int) ≤ 281474976710656 := by omega
 have hm2 : (q.length : Int) ≤ 9223372036854775807 := by omega
 refine ACalls.code Try.func20 rfl 24 rfl (by simp) [.tmp 2] rfl fun Q hQ => ?_
 simp only [ups, PV.up, argEnv]
 have ft := ai ty_3 (ai ty_4 (ai ty_33 (ai ty_39 (ai ty_99 trivial))))
 refine Run.seq ?_
 have fx := ai hm2 (ai hm1 (ai hc (ai us_len ft)))
 refine Run.go ?_
 refine End.kp [0] ?_
 refine Run.seq ?_
 refine Run.go ?_
 refine End.kp [0, 3] ?_
 refine Run.seq ?_
 refine Run.seq ?_
 refine Run.go ?_
 refine End.kp [3, 9, 10, 11] ?_
 refine Run.block ?_
 refine Run.ghost (Ghost.form [(3, .ms 0 0 q.length), (9, .im (.sl (us q))), (10, .i q.length), (11, .i (0 : Nat))] 1 ⟨rfl, rfl, rfl, rfl, trivial⟩ rfl rfl) ?_
 refine Run.loop (fun m s => ∃ (i : Nat), m = q.length - i ∧ i ≤ q.length ∧
  s = ⟨[(3, .ms 0 0 q.length), (9, .im (.sl (us q))), (10, .i q.length), (11, .i (i : Nat))], [.row 4 1 ((q.take i).map u2b ++ List.replicate (q.length - i) [.bool false]) 0], up⟩) q.length ⟨0, rfl, by omega, by simp⟩ fun m s hI => ?_
 obtain ⟨i, rfl, hi, rfl⟩ := hI
 have hrl := fill_len u2b q [.bool false] i hi
 refine Run.seq ?_
 have fx := ai hrl fx
 refine Run.go ?_
 refine End.kp [3, 9, 10, 11, 12] ?_
 refine Run.seq ?_
 refine Run.cond _ rfl (fun hb => ?_) (fun hb => ?_)
 ·have hb := of_decide_eq_true hb
  have hin : i < q.length := by omega
  have wi := wsucc hin (by omega)
  have hg := us_get q i hin
  have hri := fill_get u2b q [.bool false] i hin
  have hfm := fill_map u2b q [.bool false] 0 i hin
  refine Run.skip ?_
  refine End.kp [3, 9, 10, 11] ?_
  refine Run.seq ?_
  refine Run.block ?_
  refine Run.seq ?_
  have fx := ai hri (ai hin (ai (@Int.ofNat_lt) (ai zNn (ai hg (ai wi fx)))))
  refine Run.go ?_
  refine End.kp [3, 4, 5, 9, 10, 11] ?_
  refine Run.go ?_
  refine End.blk ?_
  refine End.kp [3, 9, 10, 11] ?_
  refine Run.go ?_
  refine End.lp ?_
  refine ⟨q.length - (i + 1), _, by omega, Ghost.form [(3, .ms 0 0 q.length), (9, .im (.sl (us q))), (10, .i q.length), (11, .i (i + 1 : Nat))] 1 ⟨rfl, rfl, rfl, rfl, trivial⟩ rfl rfl, i + 1, rfl, by omega, ?_⟩
  rw [← hfm]
  rfl
 ·have hb := of_decide_eq_false hb
  have hiN : i = q.length := by omega
  subst hiN
  rw [fill_all, u2b_map] at hrl ⊢
  refine Run.exit rfl ?_
  refine End.kp [3] ?_
  refine Run.seq ?_
  refine Run.ghost (Ghost.shut (t := 3) (j := 0) rfl rfl hrl) ?_
  simp only [eput, edel]
  have fx := ai hrl (ai hm2 (ai hm1 (ai hc (ai us_len ft))))
  refine Run.go ?_
  refine End.kp [2] ?_
  refine Run.ret (hQ _ _ ⟨.inr rfl, _, rfl, _, rfl, ?_⟩)
  exact ⟨rfl, rfl⟩

set_option maxRecDepth 100000
set_option maxHeartbeats 2000000

structure LReg where
 name : ByteArray
 next : Int
 init : Bool
abbrev LReg.im (r : LReg) : List Im := [.str r.name, .int .i64 r.next, .bool r.init]
abbrev nd (p : Int × Int) : List Im := [.int .i64 p.1, .int .i64 p.2]
structure LGraph where
 inn : List ByteArray
 out : List ByteArray
 regs : List LReg
 ands : List (Int × Int)
 outs : List Int
abbrev LGraph.cells (g : LGraph) : List PV := [.im (.sl (strs g.inn)), .im (.sl (strs g.out)), .im (.sl (g.regs.map LReg.im)), .im (.sl (g.ands.map nd)), .im (.sl (ints g.outs))]
abbrev LGraph.pv (g : LGraph) : PV := .agg g.cells
theorem rim_len (l : List LReg) : (l.map LReg.im).length = l.length := by simp
theorem nd_len (l : List (Int × Int)) : (l.map nd).length = l.length := by simp


set_option maxRecDepth 100000
set_option maxHeartbeats 2000000
abbrev boolss (l : List (List Bool)) : List (List Im) := l.map fun r => [.sl (bools r)]
theorem boolss_len (l : List (List Bool)) : (boolss l).length = l.length := by simp
theorem boolss_at (q : List (List Bool)) (i : Nat) (h : i < q.length) : ∃ r, q[i]? = some r ∧ r ∈ q ∧ q.getD i [] = r ∧ (boolss q)[i]? = some [.sl (bools r)] :=
 ⟨q[i], List.getElem?_eq_getElem h, List.getElem_mem h, by simp [h], by simp [h]⟩



set_option maxRecDepth 100000
theorem CloneS_nil (up : Frs) : ACalls Try.prog 54 [.im (.sl (strs []))] up fun v u => v = .im (.sl (strs [])) ∧ u = up := by
 refine ACalls.code Try.func54 rfl 8 rfl (by simp) [.tmp 2] rfl fun Q hQ => ?_
 simp only [ups, PV.up, argEnv]
 have ft := ai ty_4 (ai ty_9 (ai ty_26 trivial))
 refine Run.seq ?_
 have fx := ai (@List.map_nil.{0, 0}) ft
 refine Run.go ?_
 refine End.kp [0] ?_
 refine Run.seq ?_
 refine Run.seq ?_
 refine Run.go ?_
 refine End.kp [0, 4] ?_
 refine Run.cond_any rfl ?_ ?_
 ·skip
  refine Run.seq ?_
  refine Run.go ?_
  refine End.kp [2] ?_
  refine Run.resC hQ ?_
  exact ⟨rfl, rfl⟩
 ·skip
  refine Run.skip ?_
  refine End.kp [0] ?_
  refine Run.seq ?_
  refine Run.go ?_
  refine End.kp [2] ?_
  refine Run.resC hQ ?_
  exact ⟨rfl, rfl⟩
theorem CloneS_cons (x : ByteArray) (xs : List ByteArray) (h : xs.length ≤ 1000000) (up : Frs) : ACalls Try.prog 54 [.im (.sl (strs (x :: xs)))] up fun v u => v = .im (.sl (strs (x :: xs))) ∧ u = up := by
 have hall : (strs xs).all (fun r => r.length == 1) = true := by simp
 have hlen : ((xs.map fun s => [Im.str s]).length + 1) * 16 ≤ 140737488355328 := by rw [List.length_map]; omega
 refine ACalls.code Try.func54 rfl 8 rfl (by simp) [.tmp 2] rfl fun Q hQ => ?_
 simp only [ups, PV.up, argEnv]
 have ft := ai ty_4 (ai ty_9 (ai ty_26 trivial))
 refine Run.seq ?_
 have fx := ai hlen (ai hall (ai (@List.map_cons.{0, 0}) ft))
 refine Run.go ?_
 refine End.kp [0] ?_
 refine Run.seq ?_
 refine Run.seq ?_
 refine Run.go ?_
 refine End.kp [0, 4] ?_
 refine Run.cond _ rfl (fun hb => ?_) (fun hb => ?_)
 ·have hb := hb
  simp at hb
 ·have hb := hb
  refine Run.skip ?_
  refine End.kp [0] ?_
  refine Run.seq ?_
  refine Run.go ?_
  refine End.move (Ghost.shut (t := 2) (j := 0) rfl rfl rfl) ?_
  simp only [eput, edel]
  refine End.kp [2] ?_
  refine Run.ret (hQ _ _ ⟨.inr rfl, _, rfl, _, rfl, ?_⟩)
  exact ⟨rfl, rfl⟩
theorem CloneS_ok (q : List ByteArray) (h : q.length ≤ 1000000) (up : Frs) : ACalls Try.prog 54 [.im (.sl (strs q))] up fun v u => v = .im (.sl (strs q)) ∧ u = up := by
 cases q with
 | nil => exact CloneS_nil up
 | cons x xs => exact CloneS_cons x xs (by simp at h; omega) up
structure NameOk (s : ByteArray) : Prop where
 low : 1 ≤ s.size
 high : s.size ≤ 128
 chars : ∀ b ∈ s.data.toList, 33 ≤ b.toNat ∧ b.toNat ≤ 126
theorem byteRows_len (s : ByteArray) : (byteRows s).length = s.size := by simp [byteRows]
theorem byteRows_get (s : ByteArray) (h : NameOk s) (i : Nat) (hi : i < s.size) : ∃ b : Int, 33 ≤ b ∧ b ≤ 126 ∧ (byteRows s)[i]? = some [.int .u8 b] := by
 have hi2 : i < s.data.toList.length := by simpa using hi
 refine ⟨(s.data.toList[i]).toNat, ?_, ?_, ?_⟩
 ·have := (h.chars _ (List.getElem_mem hi2)).1; omega
 ·have := (h.chars _ (List.getElem_mem hi2)).2; omega
 ·simp only [byteRows, List.getElem?_map, List.getElem?_eq_getElem hi2, Option.map_some]
theorem Name_ok (s : ByteArray) (hs : NameOk s) (up : Frs) : ACalls Try.prog 93 [.im (.str s)] up fun v u => v = .im (.bool true) ∧ u = up := by
 have hlow := hs.low
 have hhigh := hs.high
 have d1 : decide ((s.size : Int) < 1) = false := decide_eq_false (by omega)
 have d2 : decide ((s.size : Int) > 128) = false := decide_eq_false (by omega)
 refine ACalls.code Try.func93 rfl 27 rfl (by simp) [.tmp 2] rfl fun Q hQ => ?_
 simp only [ups, PV.up, argEnv]
 have ft := ai ty_3 (ai ty_4 (ai ty_5 (ai ty_9 (ai ty_148 trivial))))
 refine Run.seq ?_
 have fx := ai byteRows_len (ai d2 (ai d1 ft))
 refine Run.go ?_
 refine End.kp [0] ?_
 refine Run.seq ?_
 refine Run.seq ?_
 refine Run.go ?_
 refine End.kp [0, 12] ?_
 refine Run.cond _ rfl (fun hb => ?_) (fun hb => ?_)
 ·have hb := hb
  simp at hb
 ·have hb := hb
  refine Run.skip ?_
  refine End.kp [0] ?_
  refine Run.seq ?_
  refine Run.seq ?_
  refine Run.go ?_
  refine End.kp [14, 15, 16] ?_
  refine Run.block ?_
  refine Run.ghost (Ghost.form [(14, .im (.sl (byteRows s))), (15, .i s.size), (16, .i (0 : Nat))] 0 ⟨rfl, rfl, rfl, trivial⟩ rfl rfl) ?_
  refine Run.loop (fun m st => ∃ (i : Nat), m = s.size - i ∧ i ≤ s.size ∧ st = ⟨[(14, .im (.sl (byteRows s))), (15, .i s.size), (16, .i (i : Nat))], [], up⟩) s.size ⟨0, rfl, by omega, rfl⟩ fun m st hI => ?_
  obtain ⟨i, rfl, hi, rfl⟩ := hI
  refine Run.seq ?_
  refine Run.go ?_
  refine End.kp [14, 15, 16, 17] ?_
  refine Run.seq ?_
  refine Run.cond _ rfl (fun hb => ?_) (fun hb => ?_)
  ·have hb := of_decide_eq_true hb
   have hin : i < s.size := by omega
   have wi := wsucc hin (by omega)
   obtain ⟨b, b1, b2, hg⟩ := byteRows_get s hs i hin
   have d3 : decide (b < 33) = false := decide_eq_false (by omega)
   have d4 : decide (b > 126) = false := decide_eq_false (by omega)
   refine Run.skip ?_
   refine End.kp [14, 15, 16] ?_
   refine Run.seq ?_
   refine Run.block ?_
   refine Run.seq ?_
   have fx := ai zTn (ai zNn (ai d4 (ai d3 (ai hg (ai wi fx)))))
   refine Run.go ?_
   refine End.kp [4, 14, 15, 16] ?_
   refine Run.seq ?_
   refine Run.go ?_
   refine End.kp [14, 15, 16, 25] ?_
   refine Run.cond _ rfl (fun hb => ?_) (fun hb => ?_)
   ·have hb := hb
    simp at hb
   ·have hb := hb
    refine Run.skip ?_
    refine End.blk ?_
    refine End.kp [14, 15, 16] ?_
    refine Run.go ?_
    refine End.lp ?_
    refine ⟨s.size - (i + 1), _, by omega, Ghost.form [(14, .im (.sl (byteRows s))), (15, .i s.size), (16, .i (i + 1 : Nat))] 0 ⟨rfl, rfl, rfl, trivial⟩ rfl rfl, i + 1, rfl, by omega, rfl⟩
  ·have hb := of_decide_eq_false hb
   refine Run.exit rfl ?_
   refine End.kp [] ?_
   refine Run.seq ?_
   refine Run.go ?_
   refine End.kp [2] ?_
   refine Run.ret (hQ _ _ ⟨.inr rfl, _, rfl, _, rfl, ?_⟩)
   exact ⟨rfl, rfl⟩
def ents (l : List ByteArray) : List (List Im × Im) := l.map fun s => ([.str s], .int .i64 1)
theorem same_ne (s x : ByteArray) (h : x ≠ s) : sameIm Try.prog 9 (.str s) (.str x) = some false := by
 simp only [sameIm, ty_9, if_true, Option.some.injEq]
 have := mt (MapKept.bytes_beq s x).1 (fun e => h e.symm)
 simpa using this
theorem find_none (s : ByteArray) : ∀ (l : List ByteArray) (i : Nat), s ∉ l → findIm Try.prog 9 (.str s) (ents l) i = some none
 | [], i, _ => rfl
 | x :: xs, i, h => by
  simp only [List.mem_cons, not_or] at h
  simp only [ents, List.map_cons, findIm, same_ne s x (fun e => h.1 e.symm)]
  exact find_none s xs (i + 1) h.2
theorem find_last (s : ByteArray) (v : Im) : ∀ (l : List ByteArray) (i : Nat), s ∉ l → findIm Try.prog 9 (.str s) (ents l ++ [([.str s], v)]) i = some (some (i + l.length, v))
 | [], i, _ => by
  have : sameIm Try.prog 9 (.str s) (.str s) = some true := by
   simp only [sameIm, ty_9, if_true, Option.some.injEq]
   exact (MapKept.bytes_beq s s).2 rfl
  simp only [ents, List.map_nil, List.nil_append, findIm, this, List.length_nil, Nat.add_zero]
 | x :: xs, i, h => by
  simp only [List.mem_cons, not_or] at h
  simp only [ents, List.map_cons, List.cons_append, findIm, same_ne s x (fun e => h.1 e.symm)]
  have := find_last s v xs (i + 1) h.2
  simp only [ents] at this
  rw [this, List.length_cons]
  congr 3
  omega
theorem nodup_take {l : List ByteArray} (h : l.Nodup) (i : Nat) (hi : i < l.length) : l.getD i ByteArray.empty ∉ l.take i := by
 intro hm
 obtain ⟨k, hk, e⟩ := List.getElem_of_mem hm
 have hk2 : k < i := by simp at hk; omega
 rw [List.getElem_take] at e
 have e2 : l.getD i ByteArray.empty = l[i] := by simp [hi]
 rw [e2] at e
 have := (List.getElem_inj h).1 e
 omega
theorem strs_get (l : List ByteArray) (i : Nat) (h : i < l.length) : (strs l)[i]? = some [.str (l.getD i ByteArray.empty)] := by simp [h]
theorem getD_mem {l : List ByteArray} {i : Nat} (h : i < l.length) : l.getD i ByteArray.empty ∈ l := by
 have e2 : l.getD i ByteArray.empty = l[i] := by simp [h]
 rw [e2]
 exact List.getElem_mem h
theorem Names_ok (q : List ByteArray) (hq : q.length ≤ 1000000) (hv : ∀ s ∈ q, NameOk s) (hd : q.Nodup) (up : Frs) : ACalls Try.prog 68 [.im (.sl (strs q))] up fun v u => v = .i 0 ∧ u = up := by
 refine ACalls.code Try.func68 rfl 25 rfl (by simp) [.tmp 2] rfl fun Q hQ => ?_
 simp only [ups, PV.up, argEnv]
 have ft := ai ty_3 (ai ty_4 (ai ty_9 (ai ty_26 (ai ty_36 (ai ty_162 trivial)))))
 refine Run.seq ?_
 have fx := ai strs_len ft
 refine Run.go ?_
 refine End.kp [0] ?_
 refine Run.seq ?_
 refine Run.go ?_
 refine End.kp [0, 3] ?_
 refine Run.seq ?_
 refine Run.seq ?_
 refine Run.go ?_
 refine End.kp [3, 7, 8, 9] ?_
 refine Run.block ?_
 refine Run.ghost (Ghost.form [(3, .map 0 0), (7, .im (.sl (strs q))), (8, .i q.length), (9, .i (0 : Nat))] 1 ⟨rfl, rfl, rfl, rfl, trivial⟩ rfl rfl) ?_
 refine Run.loop (fun m st => ∃ (i : Nat), m = q.length - i ∧ i ≤ q.length ∧ st = ⟨[(3, .map 0 0), (7, .im (.sl (strs q))), (8, .i q.length), (9, .i (i : Nat))], [.map (ents (q.take i))], up⟩) q.length ⟨0, rfl, by omega, rfl⟩ fun m st hI => ?_
 obtain ⟨i, rfl, hi, rfl⟩ := hI
 refine Run.seq ?_
 refine Run.go ?_
 refine End.kp [3, 7, 8, 9, 10] ?_
 refine Run.seq ?_
 refine Run.cond _ rfl (fun hb => ?_) (fun hb => ?_)
 ·have hb := of_decide_eq_true hb
  have hin : i < q.length := by omega
  have wi := wsucc hin (by omega)
  have hg := strs_get q i hin
  have hno := nodup_take hd i hin
  have hnm := hv _ (getD_mem hin)
  have htk := take_snoc q i ByteArray.empty hin
  generalize q.getD i ByteArray.empty = s at hg hno hnm htk
  have hf1 := find_none s (q.take i) 0 hno
  have hf2 := find_last s (.int .i64 1) (q.take i) 0 hno
  have w1 : IntKind.i64.wrap (0 + 1) = 1 := by decide
  refine Run.skip ?_
  refine End.kp [3, 7, 8, 9] ?_
  refine Run.seq ?_
  refine Run.block ?_
  refine Run.seq ?_
  have fx := ai zTn (ai zNn (ai w1 (ai hf2 (ai hf1 (ai hg (ai wi (ai strs_len ft)))))))
  refine Run.go ?_
  refine End.kp [3, 5, 7, 8, 9] ?_
  refine Run.seq ?_
  refine Run.seq ?_
  refine Run.region rfl fun K hK => GOps.sim ?_
  refine GOps.call rfl rfl rfl rfl (by kernel_rfl) (ACalls.sim ?_)
  refine (Name_ok s hnm _).mono fun v u hv => ?_
  obtain ⟨rfl, rfl⟩ := hv
  refine ⟨_, _, rfl, GOps.sim ?_⟩
  refine GOps.done (hK _ ?_); clear hK K
  refine End.kp [3, 5, 7, 8, 9, 15] ?_
  refine Run.cond _ rfl (fun hb => ?_) (fun hb => ?_)
  ·have hb := hb
   simp at hb
  ·have hb := hb
   refine Run.skip ?_
   refine End.kp [3, 5, 7, 8, 9] ?_
   refine Run.seq ?_
   have fx := ai zTn (ai zNn (ai w1 (ai hf2 (ai hf1 (ai hg (ai wi (ai strs_len ft)))))))
   refine Run.go ?_
   refine End.kp [3, 5, 7, 8, 9] ?_
   refine Run.seq ?_
   refine Run.go ?_
   refine End.kp [3, 7, 8, 9, 23] ?_
   refine Run.cond _ rfl (fun hb => ?_) (fun hb => ?_)
   ·have hb := hb
    simp at hb
   ·have hb := hb
    refine Run.skip ?_
    refine End.blk ?_
    refine End.kp [3, 7, 8, 9] ?_
    refine Run.go ?_
    refine End.lp ?_
    refine ⟨q.length - (i + 1), _, by omega, Ghost.form [(3, .map 0 0), (7, .im (.sl (strs q))), (8, .i q.length), (9, .i (i + 1 : Nat))] 1 ⟨rfl, rfl, rfl, rfl, trivial⟩ rfl rfl, i + 1, rfl, by omega, ?_⟩
    rw [htk]
    simp [ents]
 ·have hb := of_decide_eq_false hb
  refine Run.exit rfl ?_
  refine End.kp [] ?_
  refine Run.seq ?_
  refine Run.go ?_
  refine End.kp [2] ?_
  refine Run.ret (hQ _ _ ⟨.inr rfl, _, rfl, _, rfl, ?_⟩)
  exact ⟨rfl, rfl⟩

set_option maxRecDepth 100000
theorem CloneX_nil (f : List AObj) (rest : Frs) : ACalls Try.prog 54 [.im (.sl (strs []))] (f :: rest) fun v u => v = .ms 0 (f.length + 0) 0 ∧ u = (f ++ [.row 9 1 (strs []) 0]) :: rest := by
 refine ACalls.codeX Try.func54 rfl 8 rfl (by simp) [.tmp 2] rfl fun Q hQ => ?_
 simp only [ups, PV.up, argEnv]
 have ft := ai ty_4 (ai ty_9 (ai ty_26 trivial))
 refine Run.seq ?_
 have fx := ai (@List.map_nil.{0, 0}) ft
 refine Run.go ?_
 refine End.kp [0] ?_
 refine Run.seq ?_
 refine Run.seq ?_
 refine Run.go ?_
 refine End.kp [0, 4] ?_
 refine Run.cond_any rfl ?_ ?_
 ·skip
  refine Run.seq ?_
  refine Run.go ?_
  refine End.move (Ghost.thaw (u := 2) 9 1 (by decide) rfl) ?_
  refine End.kp [2] ?_
  refine Run.ret (hQ _ _ ⟨.inr rfl, _, rfl, _, _, rfl, ?_⟩)
  exact ⟨rfl, rfl⟩
 ·skip
  refine Run.skip ?_
  refine End.kp [0] ?_
  refine Run.seq ?_
  refine Run.go ?_
  refine End.kp [2] ?_
  refine Run.ret (hQ _ _ ⟨.inr rfl, _, rfl, _, _, rfl, ?_⟩)
  exact ⟨rfl, rfl⟩
theorem CloneX_cons (x : ByteArray) (xs : List ByteArray) (h : xs.length ≤ 1000000) (f : List AObj) (rest : Frs) : ACalls Try.prog 54 [.im (.sl (strs (x :: xs)))] (f :: rest) fun v u => v = .ms 0 (f.length + 0) (x :: xs).length ∧ u = (f ++ [.row 9 1 (strs (x :: xs)) 0]) :: rest := by
 have hall : (strs xs).all (fun r => r.length == 1) = true := by simp
 have hlen : (xs.length + 1) * 16 ≤ 140737488355328 := by omega
 refine ACalls.codeX Try.func54 rfl 8 rfl (by simp) [.tmp 2] rfl fun Q hQ => ?_
 simp only [ups, PV.up, argEnv]
 have ft := ai ty_4 (ai ty_9 (ai ty_26 trivial))
 refine Run.seq ?_
 have fx := ai (@List.length_map.{0, 0}) (ai hlen (ai hall (ai (@List.map_cons.{0, 0}) ft)))
 refine Run.go ?_
 refine End.kp [0] ?_
 refine Run.seq ?_
 refine Run.seq ?_
 refine Run.go ?_
 refine End.kp [0, 4] ?_
 refine Run.cond _ rfl (fun hb => ?_) (fun hb => ?_)
 ·have hb := hb
  simp at hb
 ·have hb := hb
  refine Run.skip ?_
  refine End.kp [0] ?_
  refine Run.seq ?_
  refine Run.go ?_
  refine End.kp [2] ?_
  refine Run.ret (hQ _ _ ⟨.inr rfl, _, rfl, _, _, rfl, ?_⟩)
  exact ⟨rfl, rfl⟩
theorem CloneX_ok (q : List ByteArray) (h : q.length ≤ 1000000) (f : List AObj) (rest : Frs) : ACalls Try.prog 54 [.im (.sl (strs q))] (f :: rest) fun v u => v = .ms 0 (f.length + 0) q.length ∧ u = (f ++ [.row 9 1 (strs q) 0]) :: rest := by
 cases q with
 | nil => exact CloneX_nil f rest
 | cons x xs => exact CloneX_cons x xs (by simp at h; omega) f rest
abbrev lanes0 (l : List Bool) : List Int := l.map fun b => if b = true then 1 else 0
theorem int_at (l : List Int) (i : Nat) (h : i < l.length) : ∃ x, l[i]? = some x ∧ x ∈ l ∧ (ints l)[i]? = some [.int .i64 x] :=
 ⟨l[i], by simp [h], List.getElem_mem h, by simp [h]⟩

set_option maxRecDepth 100000
set_option maxHeartbeats 2000000

structure GSmall (g : LGraph) : Prop where
 inn : g.inn.length ≤ 128
 out : g.out.length ≤ 128
 regs : g.regs.length ≤ 288
 ands : g.ands.length ≤ 4000
 outs : g.outs.length ≤ 128
structure GraphOk (g : LGraph) : Prop where
 small : GSmall g
 names : ∀ s ∈ g.inn ++ g.regs.map LReg.name, NameOk s
 nodup : (g.inn ++ g.regs.map LReg.name).Nodup
 onames : ∀ s ∈ g.out, NameOk s
 onodup : g.out.Nodup
 olen : g.out.length = g.outs.length
 ands : ∀ (i : Nat) (p : Int × Int), g.ands[i]? = some p → (0 ≤ p.1 ∧ p.1 < 2 * (1 + (g.inn.length : Int) + g.regs.length + i)) ∧ 0 ≤ p.2 ∧ p.2 < 2 * (1 + (g.inn.length : Int) + g.regs.length + i)
 regs : ∀ r ∈ g.regs, 0 ≤ r.next ∧ r.next < 2 * (1 + (g.inn.length : Int) + g.regs.length + g.ands.length)
 outs : ∀ x ∈ g.outs, 0 ≤ x ∧ x < 2 * (1 + (g.inn.length : Int) + g.regs.length + g.ands.length)
theorem reg_at (l : List LReg) (i : Nat) (h : i < l.length) : ∃ r, l[i]? = some r ∧ r ∈ l ∧ (l.map LReg.im)[i]? = some [.str r.name, .int .i64 r.next, .bool r.init] :=
 ⟨l[i], by simp [h], List.getElem_mem h, by simp [h]⟩
theorem node_at (l : List (Int × Int)) (i : Nat) (h : i < l.length) : ∃ p, l[i]? = some p ∧ p ∈ l ∧ (l.map nd)[i]? = some [.int .i64 p.1, .int .i64 p.2] :=
 ⟨l[i], by simp [h], List.getElem_mem h, by simp [h]⟩
theorem tmod2 (x : Int) (h : 0 ≤ x) : x.tmod 2 = x % 2 := Int.tmod_eq_emod_of_nonneg h
theorem tdiv2 (x : Int) (h : 0 ≤ x) (h2 : x ≤ 1000000000) : IntKind.i64.wrap (x.tdiv 2) = x / 2 := by
 rw [Int.tdiv_eq_ediv_of_nonneg h]
 exact wrap64 (by omega)
theorem GFirst_ok (g : LGraph) (hg : GSmall g) (up : Frs) : ACalls Try.prog 47 [g.pv] up fun v u => v = .i (1 + g.inn.length + g.regs.length) ∧ u = up := by
 obtain ⟨z1, z2, z3, z4, z5⟩ := hg
 have w1 : IntKind.i64.wrap (1 + (g.inn.length : Int)) = 1 + (g.inn.length : Int) := wrap64 (by omega)
 have w2 : IntKind.i64.wrap (1 + (g.inn.length : Int) + g.regs.length) = 1 + (g.inn.length : Int) + g.regs.length := wrap64 (by omega)
 refine ACalls.code Try.func47 rfl 11 rfl (by simp) [.tmp 2] rfl fun Q hQ => ?_
 simp only [ups, PV.up, argEnv]
 have ft := ai ty_2 (ai ty_3 (ai ty_9 (ai ty_26 (ai ty_27 (ai ty_31 (ai ty_57 trivial))))))
 refine Run.seq ?_
 have fx := ai w2 (ai w1 (ai rim_len (ai strs_len ft)))
 refine Run.go ?_
 refine End.kp [1] ?_
 refine Run.seq ?_
 refine Run.go ?_
 refine End.kp [2] ?_
 refine Run.ret (hQ _ _ ⟨.inr rfl, _, rfl, _, rfl, ?_⟩)
 exact ⟨rfl, rfl⟩
theorem before_pos (l n : Int) (h0 : 0 ≤ l) (hn : 0 ≤ n) (hn2 : n ≤ 1000000) (up : Frs) : ACalls Try.prog 69 [.i l, .i n] up fun v u => v = .im (.bool (decide (l < 2 * n))) ∧ u = up := by
 have d1 : decide (0 ≤ l) = true := decide_eq_true (by omega)
 have w1 : IntKind.i64.wrap (2 * n) = 2 * n := wrap64 (by omega)
 refine ACalls.code Try.func69 rfl 13 rfl (by simp) [.tmp 4] rfl fun Q hQ => ?_
 simp only [ups, PV.up, argEnv]
 have ft := ai ty_3 (ai ty_4 (ai ty_55 trivial))
 refine Run.seq ?_
 have fx := ai (@ge_iff_le Int _) (ai w1 (ai d1 ft))
 refine Run.go ?_
 refine End.kp [0, 1] ?_
 refine Run.seq ?_
 refine Run.go ?_
 refine End.kp [4] ?_
 refine Run.ret (hQ _ _ ⟨.inr rfl, _, rfl, _, rfl, ?_⟩)
 exact ⟨rfl, rfl⟩
theorem before_ok (l n : Int) (h0 : 0 ≤ l) (h1 : l < 2 * n) (hn2 : n ≤ 1000000) (up : Frs) : ACalls Try.prog 69 [.i l, .i n] up fun v u => v = .im (.bool true) ∧ u = up :=
 (before_pos l n h0 (by omega) hn2 up).mono fun v u ⟨h1', h2⟩ => ⟨by rw [h1']; simp; omega, h2⟩
abbrev gnms (g : LGraph) (i : Nat) : List ByteArray := g.inn ++ (g.regs.take i).map LReg.name
theorem gnms_len (g : LGraph) (i : Nat) (h : i ≤ g.regs.length) : (strs (gnms g i)).length = g.inn.length + i := by simp; omega
theorem gnms_next (g : LGraph) (i : Nat) (f : LReg) (h : g.regs[i]? = some f) : gnms g (i + 1) = gnms g i ++ [f.name] := by simp [gnms, List.take_add_one, h]
theorem Check_ok (g : LGraph) (hg : GraphOk g) (up : Frs) : ACalls Try.prog 41 [g.pv] up fun v u => v = .i 0 ∧ u = up := by
 have hsm := hg.small
 obtain ⟨z1, z2, z3, z4, z5⟩ := hg.small
 have d1 : decide ((g.inn.length : Int) > 128) = false := decide_eq_false (by omega)
 have d2 : decide ((g.out.length : Int) > 128) = false := decide_eq_false (by omega)
 have d3 : decide ((g.regs.length : Int) > 288) = false := decide_eq_false (by omega)
 have d4 : decide ((g.ands.length : Int) > 4000) = false := decide_eq_false (by omega)
 have d5 : ((g.out.length : Int) != g.outs.length) = false := by rw [hg.olen]; simp
 have wn : IntKind.i64.wrap (1 + (g.inn.length : Int) + g.regs.length + g.ands.length) = 1 + (g.inn.length : Int) + g.regs.length + g.ands.length := wrap64 (by omega)
 refine ACalls.code Try.func41 rfl 128 rfl (by simp) [.tmp 2] rfl fun Q hQ => ?_
 simp only [ups, PV.up, argEnv]
 have ft := ai ty_2 (ai ty_3 (ai ty_4 (ai ty_9 (ai ty_26 (ai ty_27 (ai ty_28 (ai ty_29 (ai ty_31 (ai ty_36 (ai ty_55 (ai ty_57 (ai ty_59 trivial))))))))))))
 refine Run.seq ?_
 have fx := ai d5 (ai d4 (ai d3 (ai d2 (ai d1 (ai ints_len (ai nd_len (ai rim_len (ai strs_len ft))))))))
 refine Run.go ?_
 refine End.kp [1] ?_
 refine Run.seq ?_
 refine Run.seq ?_
 refine Run.go ?_
 refine End.kp [1, 36] ?_
 refine Run.cond _ rfl (fun hb => ?_) (fun hb => ?_)
 ·have hb := hb
  simp at hb
 ·have hb := hb
  refine Run.skip ?_
  refine End.kp [1] ?_
  refine Run.seq ?_
  refine Run.seq ?_
  refine Run.go ?_
  refine End.kp [1, 43] ?_
  refine Run.cond _ rfl (fun hb => ?_) (fun hb => ?_)
  ·have hb := hb
   simp at hb
  ·have hb := hb
   refine Run.skip ?_
   refine End.kp [1] ?_
   refine Run.seq ?_
   refine Run.region rfl fun K hK => GOps.sim ?_
   refine GOps.call rfl rfl rfl rfl (by kernel_rfl) (ACalls.sim ?_)
   refine (CloneX_ok g.inn (by omega) _ _).mono fun v u hv => ?_
   obtain ⟨rfl, rfl⟩ := hv
   refine ⟨_, _, rfl, GOps.sim ?_⟩
   refine GOps.done (hK _ ?_); clear hK K
   refine End.kp [1, 3] ?_
   refine Run.seq ?_
   refine Run.seq ?_
   refine Run.go ?_
   refine End.kp [1, 3, 48, 49, 50] ?_
   refine Run.block ?_
   refine Run.ghost (Ghost.form [(1, .ptr 0 0 0), (3, .ms 0 1 (g.inn.length + 0)), (48, .im (.sl (g.regs.map LReg.im))), (49, .i g.regs.length), (50, .i (0 : Nat))] 2 ⟨rfl, rfl, rfl, rfl, rfl, trivial⟩ rfl rfl) ?_
   refine Run.loop (fun m st => ∃ (i : Nat), m = g.regs.length - i ∧ i ≤ g.regs.length ∧ st = ⟨[(1, .ptr 0 0 0), (3, .ms 0 1 (g.inn.length + i)), (48, .im (.sl (g.regs.map LReg.im))), (49, .i g.regs.length), (50, .i (i : Nat))], [.box [.im (.sl (strs g.inn)), .im (.sl (strs g.out)), .im (.sl (g.regs.map LReg.im)), .im (.sl (g.ands.map nd)), .im (.sl (ints g.outs))], .row 9 1 (strs (gnms g i)) 0], up⟩) g.regs.length ⟨0, rfl, by omega, by simp⟩ fun m st hI => ?_
   obtain ⟨i, rfl, hi, rfl⟩ := hI
   have hsl := gnms_len g i hi
   have hap : (g.inn.length + i + 1) * 16 ≤ 140737488355328 := by omega
   refine Run.seq ?_
   have fx := ai hap (ai hsl (ai d5 (ai d4 (ai d3 (ai d2 (ai d1 (ai ints_len (ai nd_len (ai rim_len (ai strs_len ft))))))))))
   refine Run.go ?_
   refine End.kp [1, 3, 48, 49, 50, 51] ?_
   refine Run.seq ?_
   refine Run.cond _ rfl (fun hb => ?_) (fun hb => ?_)
   ·have hb := of_decide_eq_true hb
    have hin : i < g.regs.length := by omega
    have wi := wsucc hin (by omega)
    obtain ⟨f, hf, hfm, hgt⟩ := reg_at g.regs i hin
    refine Run.skip ?_
    refine End.kp [1, 3, 48, 49, 50] ?_
    refine Run.seq ?_
    refine Run.block ?_
    refine Run.seq ?_
    have fx := ai zTn (ai zNn (ai hgt (ai wi fx)))
    refine Run.go ?_
    refine End.kp [1, 3, 5, 48, 49, 50] ?_
    refine Run.go ?_
    refine End.blk ?_
    refine End.kp [1, 3, 48, 49, 50] ?_
    refine Run.go ?_
    refine End.lp ?_
    refine ⟨g.regs.length - (i + 1), _, by omega, Ghost.form [(1, .ptr 0 0 0), (3, .ms 0 1 (g.inn.length + (i + 1))), (48, .im (.sl (g.regs.map LReg.im))), (49, .i g.regs.length), (50, .i (i + 1 : Nat))] 2 ⟨rfl, rfl, rfl, rfl, rfl, trivial⟩ rfl rfl, i + 1, rfl, by omega, ?_⟩
    rw [gnms_next g i f hf]
    simp
   ·have hb := of_decide_eq_false hb
    have hiN : i = g.regs.length := by omega
    subst hiN
    have hall : gnms g g.regs.length = g.inn ++ g.regs.map LReg.name := by simp [gnms]
    refine Run.exit rfl ?_
    refine End.kp [1, 3] ?_
    refine Run.seq ?_
    refine Run.seq ?_
    refine Run.region rfl fun K hK => GOps.sim ?_
    refine GOps.call rfl rfl rfl rfl (by kernel_rfl) (ACalls.sim ?_)
    refine (Names_ok (gnms g g.regs.length) (by rw [hall]; simp; omega) (by rw [hall]; exact hg.names) (by rw [hall]; exact hg.nodup) _).mono fun v u hv => ?_
    obtain ⟨rfl, rfl⟩ := hv
    refine ⟨_, _, rfl, GOps.sim ?_⟩
    refine GOps.done (hK _ ?_); clear hK K
    refine End.kp [1, 6] ?_
    refine Run.seq ?_
    refine Run.go ?_
    refine End.kp [1, 6, 63] ?_
    refine Run.cond _ rfl (fun hb => ?_) (fun hb => ?_)
    ·have hb := hb
     simp at hb
    ·have hb := hb
     refine Run.skip ?_
     refine End.kp [1] ?_
     refine Run.seq ?_
     refine Run.seq ?_
     have fx := ai hap (ai hsl (ai d5 (ai d4 (ai d3 (ai d2 (ai d1 (ai ints_len (ai nd_len (ai rim_len (ai strs_len ft))))))))))
     refine Run.region rfl fun K hK => GOps.sim ?_
     refine GOps.call rfl rfl rfl rfl (by kernel_rfl) (ACalls.sim ?_)
     refine (Names_ok g.out (by omega) hg.onames hg.onodup _).mono fun v u hv => ?_
     obtain ⟨rfl, rfl⟩ := hv
     refine ⟨_, _, rfl, GOps.sim ?_⟩
     refine GOps.done (hK _ ?_); clear hK K
     refine End.kp [1, 7] ?_
     refine Run.seq ?_
     refine Run.go ?_
     refine End.kp [1, 7, 69] ?_
     refine Run.cond _ rfl (fun hb => ?_) (fun hb => ?_)
     ·have hb := hb
      simp at hb
     ·have hb := hb
      refine Run.skip ?_
      refine End.kp [1] ?_
      refine Run.seq ?_
      have fx := ai hap (ai hsl (ai d5 (ai d4 (ai d3 (ai d2 (ai d1 (ai ints_len (ai nd_len (ai rim_len (ai strs_len ft))))))))))
      refine Run.region rfl fun K hK => GOps.sim ?_
      refine GOps.call rfl rfl rfl rfl (by kernel_rfl) (ACalls.sim ?_)
      refine (GFirst_ok g hsm _).mono fun v u hv => ?_
      obtain ⟨rfl, rfl⟩ := hv
      refine ⟨_, _, rfl, GOps.sim ?_⟩
      refine GOps.done (hK _ ?_); clear hK K
      refine End.kp [1, 8] ?_
      refine Run.seq ?_
      refine Run.seq ?_
      refine Run.go ?_
      refine End.kp [1, 8, 74, 75, 76] ?_
      refine Run.block ?_
      refine Run.ghost (Ghost.form [(1, .ptr 0 0 0), (8, .i (1 + g.inn.length + g.regs.length)), (74, .im (.sl (g.ands.map nd))), (75, .i g.ands.length), (76, .i (0 : Nat))] 1 ⟨rfl, rfl, rfl, rfl, rfl, trivial⟩ rfl rfl) ?_
      refine Run.loop (fun m st => ∃ (i : Nat), m = g.ands.length - i ∧ i ≤ g.ands.length ∧ st = ⟨[(1, .ptr 0 0 0), (8, .i (1 + g.inn.length + g.regs.length)), (74, .im (.sl (g.ands.map nd))), (75, .i g.ands.length), (76, .i (i : Nat))], [.box [.im (.sl (strs g.inn)), .im (.sl (strs g.out)), .im (.sl (g.regs.map LReg.im)), .im (.sl (g.ands.map nd)), .im (.sl (ints g.outs))]], up⟩) g.ands.length ⟨0, rfl, by omega, rfl⟩ fun m st hI => ?_
      obtain ⟨i, rfl, hi, rfl⟩ := hI
      refine Run.seq ?_
      have fx := ai hap (ai hsl (ai d5 (ai d4 (ai d3 (ai d2 (ai d1 (ai ints_len (ai nd_len (ai rim_len (ai strs_len ft))))))))))
      refine Run.go ?_
      refine End.kp [1, 8, 74, 75, 76, 77] ?_
      refine Run.seq ?_
      refine Run.cond _ rfl (fun hb => ?_) (fun hb => ?_)
      ·have hb := of_decide_eq_true hb
       have hin : i < g.ands.length := by omega
       have wi := wsucc hin (by omega)
       obtain ⟨p, hpi, hpm, hp⟩ := node_at g.ands i hin
       obtain ⟨⟨e1, e2⟩, e3, e4⟩ := hg.ands i p hpi
       have wfi : IntKind.i64.wrap (1 + (g.inn.length : Int) + g.regs.length + i) = 1 + (g.inn.length : Int) + g.regs.length + i := wrap64 (by omega)
       refine Run.skip ?_
       refine End.kp [1, 8, 74, 75, 76] ?_
       refine Run.seq ?_
       refine Run.block ?_
       refine Run.seq ?_
       have fx := ai zTn (ai zNn (ai wfi (ai hp (ai wi fx))))
       refine Run.go ?_
       refine End.kp [1, 8, 9, 10, 74, 75, 76] ?_
       refine Run.seq ?_
       refine Run.region rfl fun K hK => GOps.sim ?_
       refine GOps.call rfl rfl rfl rfl (by kernel_rfl) (ACalls.sim ?_)
       refine (before_ok p.1 (1 + g.inn.length + g.regs.length + i) e1 e2 (by omega) _).mono fun v u hv => ?_
       obtain ⟨rfl, rfl⟩ := hv
       refine ⟨_, _, rfl, GOps.sim ?_⟩
       refine GOps.call rfl rfl rfl rfl (by kernel_rfl) (ACalls.sim ?_)
       refine (before_ok p.2 (1 + g.inn.length + g.regs.length + i) e3 e4 (by omega) _).mono fun v u hv => ?_
       obtain ⟨rfl, rfl⟩ := hv
       refine ⟨_, _, rfl, GOps.sim ?_⟩
       refine GOps.done (hK _ ?_); clear hK K
       refine End.kp [1, 8, 74, 75, 76, 96] ?_
       refine Run.cond _ rfl (fun hb => ?_) (fun hb => ?_)
       ·have hb := hb
        simp at hb
       ·have hb := hb
        refine Run.skip ?_
        refine End.blk ?_
        refine End.kp [1, 8, 74, 75, 76] ?_
        have fx := ai zTn (ai zNn (ai wfi (ai hp (ai wi (ai hap (ai hsl (ai d5 (ai d4 (ai d3 (ai d2 (ai d1 (ai ints_len (ai nd_len (ai rim_len (ai strs_len ft)))))))))))))))
        refine Run.go ?_
        refine End.lp ?_
        refine ⟨g.ands.length - (i + 1), _, by omega, Ghost.form [(1, .ptr 0 0 0), (8, .i (1 + g.inn.length + g.regs.length)), (74, .im (.sl (g.ands.map nd))), (75, .i g.ands.length), (76, .i (i + 1 : Nat))] 1 ⟨rfl, rfl, rfl, rfl, rfl, trivial⟩ rfl rfl, i + 1, rfl, by omega, rfl⟩
      ·have hb := of_decide_eq_false hb
       refine Run.exit rfl ?_
       refine End.kp [1, 8] ?_
       refine Run.seq ?_
       have fx := ai wn fx
       refine Run.go ?_
       refine End.kp [1, 8] ?_
       refine Run.seq ?_
       refine Run.seq ?_
       refine Run.go ?_
       refine End.kp [1, 8, 104, 105, 106] ?_
       refine Run.block ?_
       refine Run.ghost (Ghost.form [(1, .ptr 0 0 0), (8, .i (1 + g.inn.length + g.regs.length + g.ands.length)), (104, .im (.sl (g.regs.map LReg.im))), (105, .i g.regs.length), (106, .i (0 : Nat))] 1 ⟨rfl, rfl, rfl, rfl, rfl, trivial⟩ rfl rfl) ?_
       refine Run.loop (fun m st => ∃ (i : Nat), m = g.regs.length - i ∧ i ≤ g.regs.length ∧ st = ⟨[(1, .ptr 0 0 0), (8, .i (1 + g.inn.length + g.regs.length + g.ands.length)), (104, .im (.sl (g.regs.map LReg.im))), (105, .i g.regs.length), (106, .i (i : Nat))], [.box [.im (.sl (strs g.inn)), .im (.sl (strs g.out)), .im (.sl (g.regs.map LReg.im)), .im (.sl (g.ands.map nd)), .im (.sl (ints g.outs))]], up⟩) g.regs.length ⟨0, rfl, by omega, rfl⟩ fun m st hI => ?_
       obtain ⟨i, rfl, hi, rfl⟩ := hI
       refine Run.seq ?_
       refine Run.go ?_
       refine End.kp [1, 8, 104, 105, 106, 107] ?_
       refine Run.seq ?_
       refine Run.cond _ rfl (fun hb => ?_) (fun hb => ?_)
       ·have hb := of_decide_eq_true hb
        have hin : i < g.regs.length := by omega
        have wi := wsucc hin (by omega)
        obtain ⟨f, hf, hfm, hgt⟩ := reg_at g.regs i hin
        obtain ⟨e1, e2⟩ := hg.regs f hfm
        refine Run.skip ?_
        refine End.kp [1, 8, 104, 105, 106] ?_
        refine Run.seq ?_
        refine Run.block ?_
        refine Run.seq ?_
        have fx := ai zTn (ai zNn (ai hgt (ai wi fx)))
        refine Run.go ?_
        refine End.kp [1, 8, 12, 104, 105, 106] ?_
        refine Run.seq ?_
        refine Run.region rfl fun K hK => GOps.sim ?_
        refine GOps.call rfl rfl rfl rfl (by kernel_rfl) (ACalls.sim ?_)
        refine (before_ok f.next (1 + g.inn.length + g.regs.length + g.ands.length) e1 e2 (by omega) _).mono fun v u hv => ?_
        obtain ⟨rfl, rfl⟩ := hv
        refine ⟨_, _, rfl, GOps.sim ?_⟩
        refine GOps.done (hK _ ?_); clear hK K
        refine End.kp [1, 8, 104, 105, 106, 114] ?_
        refine Run.cond _ rfl (fun hb => ?_) (fun hb => ?_)
        ·have hb := hb
         simp at hb
        ·have hb := hb
         refine Run.skip ?_
         refine End.blk ?_
         refine End.kp [1, 8, 104, 105, 106] ?_
         have fx := ai zTn (ai zNn (ai hgt (ai wi (ai wn (ai hap (ai hsl (ai d5 (ai d4 (ai d3 (ai d2 (ai d1 (ai ints_len (ai nd_len (ai rim_len (ai strs_len ft)))))))))))))))
         refine Run.go ?_
         refine End.lp ?_
         refine ⟨g.regs.length - (i + 1), _, by omega, Ghost.form [(1, .ptr 0 0 0), (8, .i (1 + g.inn.length + g.regs.length + g.ands.length)), (104, .im (.sl (g.regs.map LReg.im))), (105, .i g.regs.length), (106, .i (i + 1 : Nat))] 1 ⟨rfl, rfl, rfl, rfl, rfl, trivial⟩ rfl rfl, i + 1, rfl, by omega, rfl⟩
       ·have hb := of_decide_eq_false hb
        refine Run.exit rfl ?_
        refine End.kp [1, 8] ?_
        refine Run.seq ?_
        refine Run.seq ?_
        refine Run.go ?_
        refine End.kp [8, 117, 118, 119] ?_
        refine Run.block ?_
        refine Run.ghost (Ghost.form [(8, .i (1 + g.inn.length + g.regs.length + g.ands.length)), (117, .im (.sl (ints g.outs))), (118, .i g.outs.length), (119, .i (0 : Nat))] 0 ⟨rfl, rfl, rfl, rfl, trivial⟩ rfl rfl) ?_
        refine Run.loop (fun m st => ∃ (i : Nat), m = g.outs.length - i ∧ i ≤ g.outs.length ∧ st = ⟨[(8, .i (1 + g.inn.length + g.regs.length + g.ands.length)), (117, .im (.sl (ints g.outs))), (118, .i g.outs.length), (119, .i (i : Nat))], [], up⟩) g.outs.length ⟨0, rfl, by omega, rfl⟩ fun m st hI => ?_
        obtain ⟨i, rfl, hi, rfl⟩ := hI
        refine Run.seq ?_
        refine Run.go ?_
        refine End.kp [8, 117, 118, 119, 120] ?_
        refine Run.seq ?_
        refine Run.cond _ rfl (fun hb => ?_) (fun hb => ?_)
        ·have hb := of_decide_eq_true hb
         have hin : i < g.outs.length := by omega
         have wi := wsucc hin (by omega)
         obtain ⟨x, _, hxm, hx⟩ := int_at g.outs i hin
         obtain ⟨e1, e2⟩ := hg.outs x hxm
         refine Run.skip ?_
         refine End.kp [8, 117, 118, 119] ?_
         refine Run.seq ?_
         refine Run.block ?_
         refine Run.seq ?_
         have fx := ai zTn (ai zNn (ai hx (ai wi fx)))
         refine Run.go ?_
         refine End.kp [8, 14, 117, 118, 119] ?_
         refine Run.seq ?_
         refine Run.region rfl fun K hK => GOps.sim ?_
         refine GOps.call rfl rfl rfl rfl (by kernel_rfl) (ACalls.sim ?_)
         refine (before_ok x (1 + g.inn.length + g.regs.length + g.ands.length) e1 e2 (by omega) _).mono fun v u hv => ?_
         obtain ⟨rfl, rfl⟩ := hv
         refine ⟨_, _, rfl, GOps.sim ?_⟩
         refine GOps.done (hK _ ?_); clear hK K
         refine End.kp [8, 117, 118, 119, 126] ?_
         refine Run.cond _ rfl (fun hb => ?_) (fun hb => ?_)
         ·have hb := hb
          simp at hb
         ·have hb := hb
          refine Run.skip ?_
          refine End.blk ?_
          refine End.kp [8, 117, 118, 119] ?_
          have fx := ai zTn (ai zNn (ai hx (ai wi (ai wn (ai hap (ai hsl (ai d5 (ai d4 (ai d3 (ai d2 (ai d1 (ai ints_len (ai nd_len (ai rim_len (ai strs_len ft)))))))))))))))
          refine Run.go ?_
          refine End.lp ?_
          refine ⟨g.outs.length - (i + 1), _, by omega, Ghost.form [(8, .i (1 + g.inn.length + g.regs.length + g.ands.length)), (117, .im (.sl (ints g.outs))), (118, .i g.outs.length), (119, .i (i + 1 : Nat))] 0 ⟨rfl, rfl, rfl, rfl, trivial⟩ rfl rfl, i + 1, rfl, by omega, rfl⟩
        ·have hb := of_decide_eq_false hb
         refine Run.exit rfl ?_
         refine End.kp [] ?_
         refine Run.seq ?_
         refine Run.go ?_
         refine End.kp [2] ?_
         refine Run.ret (hQ _ _ ⟨.inr rfl, _, rfl, _, rfl, ?_⟩)
         exact ⟨rfl, rfl⟩
abbrev vnot (x : Int) : Int := bits .xor .u64 (if IntKind.u64.signed = true then -1 else IntKind.u64.max) x
def ofV (v : List Int) (l : Int) : Int := if l % 2 = 1 then vnot (v.getD (l / 2).toNat 0) else v.getD (l / 2).toNat 0
def valsA : List (Int × Int) → List Int → List Int
 | [], v => v
 | p :: ps, v => valsA ps (v ++ [bits .and .u64 (ofV v p.1) (ofV v p.2)])
def graphVals (g : LGraph) (inn st : List Int) : List Int := valsA g.ands ([0] ++ inn ++ st)
theorem valsA_len : ∀ (ps : List (Int × Int)) (v : List Int), (valsA ps v).length = v.length + ps.length
 | [], v => by simp [valsA]
 | p :: ps, v => by
  rw [valsA, valsA_len ps]
  simp
  omega
theorem graphVals_len (g : LGraph) (inn st : List Int) (h1 : inn.length = g.inn.length) (h2 : st.length = g.regs.length) : (graphVals g inn st).length = 1 + g.inn.length + g.regs.length + g.ands.length := by
 rw [graphVals, valsA_len]
 simp
 omega
def outsG (g : LGraph) (v : List Int) : List Int := g.outs.map (ofV v)
def nextsG (g : LGraph) (v : List Int) : List Int := g.regs.map fun r => ofV v r.next
theorem node_drop (l : List (Int × Int)) (i : Nat) (p : Int × Int) (h : l[i]? = some p) : l.drop i = p :: l.drop (i + 1) := by
 obtain ⟨hi, rfl⟩ := List.getElem?_eq_some_iff.1 h
 exact List.drop_eq_getElem_cons hi
theorem int_snoc (l : List Int) (i : Nat) (r : Int) (h : l[i]? = some r) : l.take (i + 1) = l.take i ++ [r] := by simp [List.take_add_one, h]
theorem reg_snoc (l : List LReg) (i : Nat) (r : LReg) (h : l[i]? = some r) : l.take (i + 1) = l.take i ++ [r] := by simp [List.take_add_one, h]
theorem of_ok (v : List Int) (l : Int) (h0 : 0 ≤ l) (h1 : l < 2 * (v.length : Int)) (hv2 : v.length ≤ 100000) (up : Frs) : ACalls Try.prog 70 [.im (.sl (us v)), .i l] up fun r u => r = .u (ofV v l) ∧ u = up := by
 have hm := tmod2 l h0
 have hd := tdiv2 l h0 (by omega)
 have hd0 : 0 ≤ l / 2 := by omega
 have hdl : l / 2 < (v.length : Int) := by omega
 have hv := us_get v (l / 2).toNat (by omega)
 refine ACalls.code Try.func70 rfl 19 rfl (by simp) [.tmp 4] rfl fun Q hQ => ?_
 simp only [ups, PV.up, argEnv]
 have ft := ai ty_4 (ai ty_39 (ai ty_55 (ai ty_99 trivial)))
 refine Run.seq ?_
 have fx := ai hv (ai hdl (ai hd0 (ai hd (ai hm (ai us_len ft)))))
 refine Run.go ?_
 refine End.kp [0, 1] ?_
 refine Run.seq ?_
 refine Run.seq ?_
 refine Run.go ?_
 refine End.kp [0, 1, 7] ?_
 refine Run.cond _ rfl (fun hb => ?_) (fun hb => ?_)
 ·have hb := eq_of_beq hb
  refine Run.seq ?_
  refine Run.go ?_
  refine End.kp [4] ?_
  refine Run.ret (hQ _ _ ⟨.inr rfl, _, rfl, _, rfl, ?_⟩)
  exact ⟨by simp [ofV, hb], rfl⟩
 ·have hb : ¬ l % 2 = 1 := fun e => by simp [e] at hb
  refine Run.skip ?_
  refine End.kp [0, 1] ?_
  refine Run.seq ?_
  have fx := ai hv (ai hdl (ai hd0 (ai hd (ai hm (ai us_len ft)))))
  refine Run.go ?_
  refine End.kp [4] ?_
  refine Run.ret (hQ _ _ ⟨.inr rfl, _, rfl, _, rfl, ?_⟩)
  exact ⟨by simp [ofV, hb], rfl⟩
theorem of_ms (v : List Int) (l : Int) (h0 : 0 ≤ l) (h1 : l < 2 * (v.length : Int)) (hv2 : v.length ≤ 100000) (up : Frs) (d j n fz : Nat) (hn : n = v.length) (hl : fget up d j = some (.row 99 1 (us v) fz)) : ACalls Try.prog 70 [.ms d j n, .i l] up fun r u => r = .u (ofV v l) ∧ u = up := by
 subst hn
 have hm := tmod2 l h0
 have hd := tdiv2 l h0 (by omega)
 have hd0 : 0 ≤ l / 2 := by omega
 have hdl : l / 2 < (v.length : Int) := by omega
 have hv := us_get v (l / 2).toNat (by omega)
 refine ACalls.code Try.func70 rfl 19 rfl (by simp) [.tmp 4] rfl fun Q hQ => ?_
 simp only [ups, PV.up, argEnv]
 have ft := ai ty_4 (ai ty_39 (ai ty_55 (ai ty_99 trivial)))
 refine Run.seq ?_
 have fx := ai hv (ai hdl (ai hd0 (ai hd (ai hm (ai hl (ai us_len ft))))))
 refine Run.go ?_
 refine End.kp [0, 1] ?_
 refine Run.seq ?_
 refine Run.seq ?_
 refine Run.go ?_
 refine End.kp [0, 1, 7] ?_
 refine Run.cond _ rfl (fun hb => ?_) (fun hb => ?_)
 ·have hb := eq_of_beq hb
  refine Run.seq ?_
  refine Run.go ?_
  refine End.kp [4] ?_
  refine Run.ret (hQ _ _ ⟨.inr rfl, _, rfl, _, rfl, ?_⟩)
  exact ⟨by simp [ofV, hb], rfl⟩
 ·have hb : ¬ l % 2 = 1 := fun e => by simp [e] at hb
  refine Run.skip ?_
  refine End.kp [0, 1] ?_
  refine Run.seq ?_
  have fx := ai hv (ai hdl (ai hd0 (ai hd (ai hm (ai hl (ai us_len ft))))))
  refine Run.go ?_
  refine End.kp [4] ?_
  refine Run.ret (hQ _ _ ⟨.inr rfl, _, rfl, _, rfl, ?_⟩)
  exact ⟨by simp [ofV, hb], rfl⟩
theorem gvalues_ok (g : LGraph) (hg : GraphOk g) (inn st : List Int) (h1 : inn.length = g.inn.length) (h2 : st.length = g.regs.length) (up : Frs) : ACalls Try.prog 43 [g.pv, .im (.sl (us inn)), .im (.sl (us st))] up fun v u => v = .im (.sl (us (graphVals g inn st))) ∧ u = up := by
 obtain ⟨z1, z2, z3, z4, z5⟩ := hg.small
 have a1 : (1 + inn.length) * 8 ≤ 140737488355328 := by omega
 have a2 : (1 + inn.length + st.length) * 8 ≤ 140737488355328 := by omega
 have b1 : inn.length + 1 = 1 + inn.length := by omega
 have al : ∀ l : List Int, (us l).all (fun r => r.length == 1) = true := fun l => by simp
 refine ACalls.code Try.func43 rfl 37 rfl (by simp) [.tmp 6] rfl fun Q hQ => ?_
 simp only [ups, PV.up, argEnv]
 have ft := ai ty_3 (ai ty_28 (ai ty_31 (ai ty_39 (ai ty_55 (ai ty_59 (ai ty_99 trivial))))))
 refine Run.seq ?_
 have fx := ai (@List.length_append.{0}) (ai b1 (ai al (ai a2 (ai a1 (ai ints_len (ai nd_len (ai us_len ft)))))))
 refine Run.go ?_
 refine End.kp [1, 2, 3] ?_
 refine Run.seq ?_
 refine Run.go ?_
 refine End.kp [2, 3, 7] ?_
 refine Run.seq ?_
 refine Run.go ?_
 refine End.kp [3, 7] ?_
 refine Run.seq ?_
 refine Run.seq ?_
 refine Run.go ?_
 refine End.kp [7, 17, 18, 19] ?_
 refine Run.block ?_
 refine Run.ghost (Ghost.form [(7, .ms 0 1 (1 + inn.length + st.length)), (17, .im (.sl (g.ands.map nd))), (18, .i g.ands.length), (19, .i (0 : Nat))] 2 ⟨rfl, rfl, rfl, rfl, trivial⟩ rfl rfl) ?_
 refine Run.loop (fun m s => ∃ (i : Nat) (v : List Int), m = g.ands.length - i ∧ i ≤ g.ands.length ∧ v.length = 1 + inn.length + st.length + i ∧ valsA (g.ands.drop i) v = graphVals g inn st ∧ s = ⟨[(7, .ms 0 1 v.length), (17, .im (.sl (g.ands.map nd))), (18, .i g.ands.length), (19, .i (i : Nat))], [.box [.im (.sl (strs g.inn)), .im (.sl (strs g.out)), .im (.sl (g.regs.map LReg.im)), .im (.sl (g.ands.map nd)), .im (.sl (ints g.outs))], .row 99 1 (us v) 0], up⟩) g.ands.length ⟨0, [0] ++ inn ++ st, rfl, by omega, by simp; omega, rfl, ?_⟩ fun m s hI => ?_
 ·simp
  omega
 obtain ⟨i, v, rfl, hi, hvl, hV, rfl⟩ := hI
 have hav : (v.length + 1) * 8 ≤ 140737488355328 := by omega
 refine Run.seq ?_
 have fx := ai hav fx
 refine Run.go ?_
 refine End.kp [7, 17, 18, 19, 20] ?_
 refine Run.seq ?_
 refine Run.cond _ rfl (fun hb => ?_) (fun hb => ?_)
 ·have hb := of_decide_eq_true hb
  have hin : i < g.ands.length := by omega
  have wi := wsucc hin (by omega)
  obtain ⟨p, hpi, hpm, hp⟩ := node_at g.ands i hin
  obtain ⟨⟨e1, e2⟩, e3, e4⟩ := hg.ands i p hpi
  have e2' : p.1 < 2 * (v.length : Int) := by omega
  have e4' : p.2 < 2 * (v.length : Int) := by omega
  rw [node_drop _ i p hpi, valsA] at hV
  refine Run.skip ?_
  refine End.kp [7, 17, 18, 19] ?_
  refine Run.seq ?_
  refine Run.block ?_
  refine Run.seq ?_
  have fx := ai zTn (ai zNn (ai hp (ai wi (ai hav (ai (@List.length_append.{0}) (ai b1 (ai al (ai a2 (ai a1 (ai ints_len (ai nd_len (ai us_len ft))))))))))))
  refine Run.go ?_
  refine End.kp [7, 9, 17, 18, 19] ?_
  refine Run.ghost (.spares 1) ?_
  simp only [ASt.pushN, ASt.push, List.append_assoc, List.cons_append, List.nil_append]
  refine Run.drawA fun K hK => ?_
  refine DOps.sim ?_
  refine DOps.call (.u (ofV v p.1)) [((0, 1), .row 99 1 (us v) 0)] [] rfl rfl rfl rfl (by kernel_rfl) (by simp [Agree, ASt.fr]) (fun u hu => of_ms v p.1 e1 e2' (by omega) u 0 1 v.length 0 rfl (hu ((0, 1), .row 99 1 (us v) 0) (by simp))) ?_
  refine DOps.sim ?_
  refine DOps.call (.u (ofV v p.2)) [((0, 1), .row 99 1 (us v) 0)] [] rfl rfl rfl rfl (by kernel_rfl) (by simp [Agree, ASt.fr]) (fun u hu => of_ms v p.2 e3 e4' (by omega) u 0 1 v.length 0 rfl (hu ((0, 1), .row 99 1 (us v) 0) (by simp))) ?_
  refine DOps.sim ?_
  refine DOps.nil (by rfl) (hK _ ?_); clear hK K
  refine End.blk ?_
  refine End.kp [7, 17, 18, 19] ?_
  refine Run.go ?_
  refine End.lp ?_
  refine ⟨g.ands.length - (i + 1), _, by omega, Ghost.form [(7, .ms 0 1 (v.length + 1)), (17, .im (.sl (g.ands.map nd))), (18, .i g.ands.length), (19, .i (i + 1 : Nat))] 2 ⟨rfl, rfl, rfl, rfl, trivial⟩ rfl rfl, i + 1, v ++ [bits .and .u64 (ofV v p.1) (ofV v p.2)], rfl, by omega, by simp; omega, hV, ?_⟩
  simp
 ·have hb := of_decide_eq_false hb
  have hiN : i = g.ands.length := by omega
  subst hiN
  rw [List.drop_length, valsA] at hV
  refine Run.exit rfl ?_
  refine End.kp [7] ?_
  refine Run.seq ?_
  refine Run.ghost (Ghost.shut (t := 7) (j := 1) rfl rfl (us_len v)) ?_
  simp only [eput, edel]
  have fx := ai hav (ai (@List.length_append.{0}) (ai b1 (ai al (ai a2 (ai a1 (ai ints_len (ai nd_len (ai us_len ft))))))))
  refine Run.go ?_
  refine End.kp [6] ?_
  refine Run.ret (hQ _ _ ⟨.inr rfl, _, rfl, _, rfl, ?_⟩)
  exact ⟨by rw [hV], rfl⟩

set_option maxRecDepth 100000
set_option maxHeartbeats 2000000
abbrev laneB (l : List Int) : List Bool := l.map fun w => bits .and .u64 w 1 == 1
def runG (g : LGraph) : List Int → List (List Bool) → List (List Bool)
 | _, [] => []
 | st, r :: t => laneB (outsG g (graphVals g (lanes0 r) st)) :: runG g (nextsG g (graphVals g (lanes0 r) st)) t
theorem runG_len (g : LGraph) : ∀ (t : List (List Bool)) (st : List Int), (runG g st t).length = t.length
 | [], st => rfl
 | r :: t, st => by simp [runG, runG_len g t]
abbrev initG (g : LGraph) : List Bool := g.regs.map LReg.init
theorem gresults_ok (g : LGraph) (hg : GraphOk g) (v : List Int) (hv : v.length = 1 + g.inn.length + g.regs.length + g.ands.length) (up : Frs) : ACalls Try.prog 50 [g.pv, .im (.sl (us v))] up fun r u => r = .tup [.im (.sl (us (outsG g v))), .im (.sl (us (nextsG g v)))] ∧ u = up := by
 obtain ⟨z1, z2, z3, z4, z5⟩ := hg.small
 refine ACalls.code Try.func50 rfl 41 rfl (by simp) [.tmp 4, .tmp 5] rfl fun Q hQ => ?_
 simp only [ups, PV.up, argEnv]
 have ft := ai ty_2 (ai ty_3 (ai ty_4 (ai ty_27 (ai ty_29 (ai ty_31 (ai ty_39 (ai ty_55 (ai ty_57 (ai ty_99 trivial)))))))))
 refine Run.seq ?_
 have fx := ai ints_len (ai rim_len (ai us_len ft))
 refine Run.go ?_
 refine End.kp [1, 2, 4, 5] ?_
 refine Run.seq ?_
 refine Run.seq ?_
 refine Run.go ?_
 refine End.kp [1, 2, 4, 5, 11, 12, 13] ?_
 refine Run.block ?_
 refine Run.ghost (Ghost.thaw (u := 4) 99 1 (by decide) rfl) ?_
 refine Run.ghost (Ghost.form [(1, .im (.sl (us v))), (2, .ptr 0 0 0), (4, .ms 0 1 0), (5, .nils), (11, .im (.sl (ints g.outs))), (12, .i g.outs.length), (13, .i (0 : Nat))] 2 ⟨rfl, rfl, rfl, rfl, rfl, rfl, rfl, trivial⟩ rfl rfl) ?_
 refine Run.loop (fun m s => ∃ (i : Nat), m = g.outs.length - i ∧ i ≤ g.outs.length ∧ s = ⟨[(1, .im (.sl (us v))), (2, .ptr 0 0 0), (4, .ms 0 1 i), (5, .nils), (11, .im (.sl (ints g.outs))), (12, .i g.outs.length), (13, .i (i : Nat))], [.box [.im (.sl (strs g.inn)), .im (.sl (strs g.out)), .im (.sl (g.regs.map LReg.im)), .im (.sl (g.ands.map nd)), .im (.sl (ints g.outs))], .row 99 1 (us ((g.outs.take i).map (ofV v))) 0], up⟩) g.outs.length ⟨0, rfl, by omega, rfl⟩ fun m s hI => ?_
 obtain ⟨i, rfl, hi, rfl⟩ := hI
 have hol : ((g.outs.take i).map (ofV v)).length = i := by simp; omega
 have hao : (i + 1) * 8 ≤ 140737488355328 := by omega
 refine Run.seq ?_
 have fx := ai hao (ai hol fx)
 refine Run.go ?_
 refine End.kp [1, 2, 4, 5, 11, 12, 13, 14] ?_
 refine Run.seq ?_
 refine Run.cond _ rfl (fun hb => ?_) (fun hb => ?_)
 ·have hb := of_decide_eq_true hb
  have hin : i < g.outs.length := by omega
  have wi := wsucc hin (by omega)
  obtain ⟨x, hxi, hxm, hx⟩ := int_at g.outs i hin
  obtain ⟨x1, x2⟩ := hg.outs x hxm
  have x2' : x < 2 * (v.length : Int) := by omega
  have htk := int_snoc g.outs i x hxi
  refine Run.skip ?_
  refine End.kp [1, 2, 4, 5, 11, 12, 13] ?_
  refine Run.seq ?_
  refine Run.block ?_
  refine Run.seq ?_
  have fx := ai zTn (ai zNn (ai hx (ai wi fx)))
  refine Run.go ?_
  refine End.kp [1, 2, 4, 5, 7, 11, 12, 13] ?_
  refine Run.region rfl fun K hK => GOps.sim ?_
  refine GOps.call rfl rfl rfl rfl (by kernel_rfl) (ACalls.sim ?_)
  refine (of_ok v x x1 x2' (by omega) _).mono fun v u hv => ?_
  obtain ⟨rfl, rfl⟩ := hv
  refine ⟨_, _, rfl, GOps.sim ?_⟩
  refine GOps.done (hK _ ?_); clear hK K
  refine End.blk ?_
  refine End.kp [1, 2, 4, 5, 11, 12, 13] ?_
  refine Run.go ?_
  refine End.lp ?_
  refine ⟨g.outs.length - (i + 1), _, by omega, Ghost.form [(1, .im (.sl (us v))), (2, .ptr 0 0 0), (4, .ms 0 1 (i + 1)), (5, .nils), (11, .im (.sl (ints g.outs))), (12, .i g.outs.length), (13, .i (i + 1 : Nat))] 2 ⟨rfl, rfl, rfl, rfl, rfl, rfl, rfl, trivial⟩ rfl rfl, i + 1, rfl, by omega, ?_⟩
  rw [htk]
  simp
 ·have hb := of_decide_eq_false hb
  have hiN : i = g.outs.length := by omega
  subst hiN
  rw [List.take_length] at hol ⊢
  refine Run.exit rfl ?_
  refine End.kp [1, 2, 4, 5] ?_
  refine Run.seq ?_
  refine Run.seq ?_
  have fx := ai hao (ai hol (ai ints_len (ai rim_len (ai us_len ft))))
  refine Run.go ?_
  refine End.kp [1, 4, 5, 25, 26, 27] ?_
  refine Run.block ?_
  refine Run.ghost (Ghost.thaw (u := 5) 99 1 (by decide) rfl) ?_
  refine Run.ghost (Ghost.form [(1, .im (.sl (us v))), (4, .ms 0 1 g.outs.length), (5, .ms 0 2 0), (25, .im (.sl (g.regs.map LReg.im))), (26, .i g.regs.length), (27, .i (0 : Nat))] 3 ⟨rfl, rfl, rfl, rfl, rfl, rfl, trivial⟩ rfl rfl) ?_
  refine Run.loop (fun m s => ∃ (i : Nat), m = g.regs.length - i ∧ i ≤ g.regs.length ∧ s = ⟨[(1, .im (.sl (us v))), (4, .ms 0 1 g.outs.length), (5, .ms 0 2 i), (25, .im (.sl (g.regs.map LReg.im))), (26, .i g.regs.length), (27, .i (i : Nat))], [.box [.im (.sl (strs g.inn)), .im (.sl (strs g.out)), .im (.sl (g.regs.map LReg.im)), .im (.sl (g.ands.map nd)), .im (.sl (ints g.outs))], .row 99 1 (us (outsG g v)) 0, .row 99 1 (us ((g.regs.take i).map fun r => ofV v r.next)) 0], up⟩) g.regs.length ⟨0, rfl, by omega, rfl⟩ fun m s hI => ?_
  obtain ⟨i, rfl, hi, rfl⟩ := hI
  have hdn : ((g.regs.take i).map fun r => ofV v r.next).length = i := by simp; omega
  have haf : (i + 1) * 8 ≤ 140737488355328 := by omega
  refine Run.seq ?_
  have fx := ai haf (ai hdn fx)
  refine Run.go ?_
  refine End.kp [1, 4, 5, 25, 26, 27, 28] ?_
  refine Run.seq ?_
  refine Run.cond _ rfl (fun hb => ?_) (fun hb => ?_)
  ·have hb := of_decide_eq_true hb
   have hin : i < g.regs.length := by omega
   have wi := wsucc hin (by omega)
   obtain ⟨f, hfi, hfm, hf⟩ := reg_at g.regs i hin
   obtain ⟨x1, x2⟩ := hg.regs f hfm
   have x2' : f.next < 2 * (v.length : Int) := by omega
   have htk := reg_snoc g.regs i f hfi
   refine Run.skip ?_
   refine End.kp [1, 4, 5, 25, 26, 27] ?_
   refine Run.seq ?_
   refine Run.block ?_
   refine Run.seq ?_
   have fx := ai zTn (ai zNn (ai hf (ai wi fx)))
   refine Run.go ?_
   refine End.kp [1, 4, 5, 9, 25, 26, 27] ?_
   refine Run.region rfl fun K hK => GOps.sim ?_
   refine GOps.call rfl rfl rfl rfl (by kernel_rfl) (ACalls.sim ?_)
   refine (of_ok v f.next x1 x2' (by omega) _).mono fun v u hv => ?_
   obtain ⟨rfl, rfl⟩ := hv
   refine ⟨_, _, rfl, GOps.sim ?_⟩
   refine GOps.done (hK _ ?_); clear hK K
   refine End.blk ?_
   refine End.kp [1, 4, 5, 25, 26, 27] ?_
   refine Run.go ?_
   refine End.lp ?_
   refine ⟨g.regs.length - (i + 1), _, by omega, Ghost.form [(1, .im (.sl (us v))), (4, .ms 0 1 g.outs.length), (5, .ms 0 2 (i + 1)), (25, .im (.sl (g.regs.map LReg.im))), (26, .i g.regs.length), (27, .i (i + 1 : Nat))] 3 ⟨rfl, rfl, rfl, rfl, rfl, rfl, trivial⟩ rfl rfl, i + 1, rfl, by omega, ?_⟩
   rw [htk]
   simp
  ·have hb := of_decide_eq_false hb
   have hiN : i = g.regs.length := by omega
   subst hiN
   rw [List.take_length] at hdn ⊢
   refine Run.exit rfl ?_
   refine End.kp [4, 5] ?_
   refine Run.seq ?_
   refine Run.ghost (Ghost.shut (t := 4) (j := 1) rfl rfl (by rw [us_len]; exact hol)) ?_
   simp only [eput, edel]
   refine Run.ghost (Ghost.shut (t := 5) (j := 2) rfl rfl (by rw [us_len, hdn])) ?_
   simp only [eput, edel]
   have fx := ai haf (ai hdn (ai hao (ai hol (ai ints_len (ai rim_len (ai us_len ft))))))
   refine Run.go ?_
   refine End.kp [4, 5] ?_
   refine Run.ret (hQ _ _ ⟨.inr rfl, _, rfl, _, rfl, ?_⟩)
   exact ⟨rfl, rfl⟩
theorem GInit_ok (g : LGraph) (hg : GSmall g) (up : Frs) : ACalls Try.prog 49 [g.pv] up fun v u => v = .im (.sl (bools (initG g))) ∧ u = up := by
 obtain ⟨z1, z2, z3, z4, z5⟩ := hg
 have hc : (0 : Int) ≤ g.regs.length := by omega
 have hm1 : ((1 : Nat) : Int) * (g.regs.length : Int) ≤ 281474976710656 := by omega
 have hm2 : (g.regs.length : Int) ≤ 9223372036854775807 := by omega
 refine ACalls.code Try.func49 rfl 25 rfl (by simp) [.tmp 2] rfl fun Q hQ => ?_
 simp only [ups, PV.up, argEnv]
 have ft := ai ty_2 (ai ty_3 (ai ty_4 (ai ty_27 (ai ty_31 (ai ty_33 (ai ty_57 trivial))))))
 refine Run.seq ?_
 have fx := ai hm2 (ai hm1 (ai hc (ai rim_len ft)))
 refine Run.go ?_
 refine End.kp [1] ?_
 refine Run.seq ?_
 refine Run.go ?_
 refine End.kp [1, 3] ?_
 refine Run.seq ?_
 refine Run.seq ?_
 refine Run.go ?_
 refine End.kp [3, 11, 12, 13] ?_
 refine Run.block ?_
 refine Run.ghost (Ghost.form [(3, .ms 0 1 g.regs.length), (11, .im (.sl (g.regs.map LReg.im))), (12, .i g.regs.length), (13, .i (0 : Nat))] 2 ⟨rfl, rfl, rfl, rfl, trivial⟩ rfl rfl) ?_
 refine Run.loop (fun m s => ∃ (i : Nat), m = g.regs.length - i ∧ i ≤ g.regs.length ∧ s = ⟨[(3, .ms 0 1 g.regs.length), (11, .im (.sl (g.regs.map LReg.im))), (12, .i g.regs.length), (13, .i (i : Nat))], [.box [.im (.sl (strs g.inn)), .im (.sl (strs g.out)), .im (.sl (g.regs.map LReg.im)), .im (.sl (g.ands.map nd)), .im (.sl (ints g.outs))], .row 4 1 ((g.regs.take i).map (fun r => [Im.bool r.init]) ++ List.replicate (g.regs.length - i) [.bool false]) 0], up⟩) g.regs.length ⟨0, rfl, by omega, by simp⟩ fun m s hI => ?_
 obtain ⟨i, rfl, hi, rfl⟩ := hI
 have hrl := fill_len (fun r => [Im.bool r.init]) g.regs [.bool false] i hi
 refine Run.seq ?_
 have fx := ai hrl fx
 refine Run.go ?_
 refine End.kp [3, 11, 12, 13, 14] ?_
 refine Run.seq ?_
 refine Run.cond _ rfl (fun hb => ?_) (fun hb => ?_)
 ·have hb := of_decide_eq_true hb
  have hin : i < g.regs.length := by omega
  have wi := wsucc hin (by omega)
  obtain ⟨f, hfi, hfm, hf⟩ := reg_at g.regs i hin
  have hri := fill_get (fun r => [Im.bool r.init]) g.regs [.bool false] i hin
  have hfd : g.regs.getD i ⟨ByteArray.empty, 0, false⟩ = f := by simp [hfi]
  have hfm2 := fill_map (fun r => [Im.bool r.init]) g.regs [.bool false] ⟨ByteArray.empty, 0, false⟩ i hin
  rw [hfd] at hfm2
  refine Run.skip ?_
  refine End.kp [3, 11, 12, 13] ?_
  refine Run.seq ?_
  refine Run.block ?_
  refine Run.seq ?_
  have fx := ai hri (ai hin (ai (@Int.ofNat_lt) (ai zTn (ai zNn (ai hf (ai wi (ai hrl (ai hm2 (ai hm1 (ai hc (ai rim_len ft)))))))))))
  refine Run.go ?_
  refine End.kp [3, 4, 5, 11, 12, 13] ?_
  refine Run.go ?_
  refine End.blk ?_
  refine End.kp [3, 11, 12, 13] ?_
  refine Run.go ?_
  refine End.lp ?_
  refine ⟨g.regs.length - (i + 1), _, by omega, Ghost.form [(3, .ms 0 1 g.regs.length), (11, .im (.sl (g.regs.map LReg.im))), (12, .i g.regs.length), (13, .i (i + 1 : Nat))] 2 ⟨rfl, rfl, rfl, rfl, trivial⟩ rfl rfl, i + 1, rfl, by omega, ?_⟩
  rw [← hfm2]
  rfl
 ·have hb := of_decide_eq_false hb
  have hiN : i = g.regs.length := by omega
  subst hiN
  rw [fill_all] at hrl ⊢
  refine Run.exit rfl ?_
  refine End.kp [3] ?_
  refine Run.seq ?_
  refine Run.ghost (Ghost.shut (t := 3) (j := 1) rfl rfl hrl) ?_
  simp only [eput, edel]
  have fx := ai hrl (ai hm2 (ai hm1 (ai hc (ai rim_len ft))))
  refine Run.go ?_
  refine End.kp [2] ?_
  refine Run.ret (hQ _ _ ⟨.inr rfl, _, rfl, _, rfl, ?_⟩)
  exact ⟨by simp, rfl⟩
theorem GRun_ok (g : LGraph) (hg : GraphOk g) (tr : List (List Bool)) (hn : tr.length ≤ 64) (ht : ∀ r ∈ tr, r.length = g.inn.length) (up : Frs) : ACalls Try.prog 26 [g.pv, .im (.sl (boolss tr))] up fun v u => v = .tup [.im (.sl (boolss (runG g (lanes0 (initG g)) tr))), .i 0] ∧ u = up := by
 have hsm := hg.small
 obtain ⟨z1, z2, z3, z4, z5⟩ := hg.small
 have d1 : decide ((tr.length : Int) > 64) = false := decide_eq_false (by omega)
 refine ACalls.code Try.func26 rfl 63 rfl (by simp) [.tmp 4, .tmp 5] rfl fun Q hQ => ?_
 simp only [ups, PV.up, argEnv]
 have ft := ai ty_3 (ai ty_4 (ai ty_9 (ai ty_26 (ai ty_31 (ai ty_33 (ai ty_36 (ai ty_39 (ai ty_62 (ai ty_99 trivial)))))))))
 refine Run.seq ?_
 have fx := ai d1 (ai strs_len (ai bools_len (ai boolss_len ft)))
 refine Run.go ?_
 refine End.kp [1, 2] ?_
 refine Run.seq ?_
 refine Run.seq ?_
 refine Run.region rfl fun K hK => GOps.sim ?_
 refine GOps.call rfl rfl rfl rfl (by kernel_rfl) (ACalls.sim ?_)
 refine (Check_ok g hg _).mono fun v u hv => ?_
 obtain ⟨rfl, rfl⟩ := hv
 refine ⟨_, _, rfl, GOps.sim ?_⟩
 refine GOps.done (hK _ ?_); clear hK K
 refine End.kp [1, 2, 6] ?_
 refine Run.seq ?_
 refine Run.go ?_
 refine End.kp [1, 2, 6, 18] ?_
 refine Run.cond _ rfl (fun hb => ?_) (fun hb => ?_)
 ·have hb := hb
  simp at hb
 ·have hb := hb
  refine Run.skip ?_
  refine End.kp [1, 2] ?_
  refine Run.seq ?_
  refine Run.seq ?_
  have fx := ai d1 (ai strs_len (ai bools_len (ai boolss_len ft)))
  refine Run.go ?_
  refine End.kp [1, 2, 22] ?_
  refine Run.cond _ rfl (fun hb => ?_) (fun hb => ?_)
  ·have hb := hb
   simp at hb
  ·have hb := hb
   refine Run.skip ?_
   refine End.kp [1, 2] ?_
   refine Run.seq ?_
   refine Run.seq ?_
   refine Run.go ?_
   refine End.kp [1, 2, 23, 24, 25] ?_
   refine Run.block ?_
   refine Run.ghost (Ghost.form [(1, .im (.sl (boolss tr))), (2, .ptr 0 0 0), (23, .im (.sl (boolss tr))), (24, .i tr.length), (25, .i (0 : Nat))] 1 ⟨rfl, rfl, rfl, rfl, rfl, trivial⟩ rfl rfl) ?_
   refine Run.loop (fun m s => ∃ (i : Nat), m = tr.length - i ∧ i ≤ tr.length ∧ s = ⟨[(1, .im (.sl (boolss tr))), (2, .ptr 0 0 0), (23, .im (.sl (boolss tr))), (24, .i tr.length), (25, .i (i : Nat))], [.box [.im (.sl (strs g.inn)), .im (.sl (strs g.out)), .im (.sl (g.regs.map LReg.im)), .im (.sl (g.ands.map nd)), .im (.sl (ints g.outs))]], up⟩) tr.length ⟨0, rfl, by omega, rfl⟩ fun m s hI => ?_
   obtain ⟨i, rfl, hi, rfl⟩ := hI
   refine Run.seq ?_
   refine Run.go ?_
   refine End.kp [1, 2, 23, 24, 25, 26] ?_
   refine Run.seq ?_
   refine Run.cond _ rfl (fun hb => ?_) (fun hb => ?_)
   ·have hb := of_decide_eq_true hb
    have hin : i < tr.length := by omega
    have wi := wsucc hin (by omega)
    obtain ⟨r, hri, hrm, _, hr⟩ := boolss_at tr i hin
    have d2 : ((r.length : Int) != g.inn.length) = false := by rw [ht r hrm]; simp
    refine Run.skip ?_
    refine End.kp [1, 2, 23, 24, 25] ?_
    refine Run.seq ?_
    refine Run.block ?_
    refine Run.seq ?_
    have fx := ai zTn (ai zNn (ai d2 (ai hr (ai wi fx))))
    refine Run.go ?_
    refine End.kp [1, 2, 8, 23, 24, 25] ?_
    refine Run.seq ?_
    refine Run.go ?_
    refine End.kp [1, 2, 23, 24, 25, 34] ?_
    refine Run.cond _ rfl (fun hb => ?_) (fun hb => ?_)
    ·have hb := hb
     simp at hb
    ·have hb := hb
     refine Run.skip ?_
     refine End.blk ?_
     refine End.kp [1, 2, 23, 24, 25] ?_
     refine Run.go ?_
     refine End.lp ?_
     refine ⟨tr.length - (i + 1), _, by omega, Ghost.form [(1, .im (.sl (boolss tr))), (2, .ptr 0 0 0), (23, .im (.sl (boolss tr))), (24, .i tr.length), (25, .i (i + 1 : Nat))] 1 ⟨rfl, rfl, rfl, rfl, rfl, trivial⟩ rfl rfl, i + 1, rfl, by omega, rfl⟩
   ·have hb := of_decide_eq_false hb
    refine Run.exit rfl ?_
    refine End.kp [1, 2] ?_
    refine Run.seq ?_
    refine Run.region rfl fun K hK => GOps.sim ?_
    refine GOps.call rfl rfl rfl rfl (by kernel_rfl) (ACalls.sim ?_)
    refine (GInit_ok g hsm _).mono fun v u hv => ?_
    obtain ⟨rfl, rfl⟩ := hv
    refine ⟨_, _, rfl, GOps.sim ?_⟩
    refine GOps.call rfl rfl rfl rfl (by kernel_rfl) (ACalls.sim ?_)
    refine (Lanes_ok (initG g) (by simp; omega) _).mono fun v u hv => ?_
    obtain ⟨rfl, rfl⟩ := hv
    refine ⟨_, _, rfl, GOps.sim ?_⟩
    refine GOps.done (hK _ ?_); clear hK K
    refine End.kp [1, 2, 9] ?_
    refine Run.seq ?_
    refine Run.go ?_
    refine End.kp [1, 2, 9, 10] ?_
    refine Run.seq ?_
    refine Run.seq ?_
    refine Run.go ?_
    refine End.kp [2, 9, 10, 39, 40, 41] ?_
    refine Run.block ?_
    refine Run.ghost (Ghost.thaw (u := 10) 33 1 (by decide) rfl) ?_
    refine Run.ghost (Ghost.form [(2, .ptr 0 0 0), (9, .im (.sl (us (lanes0 (initG g))))), (10, .ms 0 1 (0)), (39, .im (.sl (boolss tr))), (40, .i tr.length), (41, .i (0 : Nat))] 2 ⟨rfl, rfl, rfl, rfl, rfl, rfl, trivial⟩ rfl rfl) ?_
    refine Run.loop (fun m s => ∃ (i : Nat) (st : List Int) (dn : List (List Bool)), m = tr.length - i ∧ i ≤ tr.length ∧ dn.length = i ∧ st.length = g.regs.length ∧ dn ++ runG g st (tr.drop i) = runG g (lanes0 (initG g)) tr ∧ s = ⟨[(2, .ptr 0 0 0), (9, .im (.sl (us st))), (10, .ms 0 1 (i)), (39, .im (.sl (boolss tr))), (40, .i tr.length), (41, .i (i : Nat))], [.box [.im (.sl (strs g.inn)), .im (.sl (strs g.out)), .im (.sl (g.regs.map LReg.im)), .im (.sl (g.ands.map nd)), .im (.sl (ints g.outs))], .row 33 1 (boolss dn) 0], up⟩) tr.length ⟨0, _, [], rfl, by omega, rfl, by simp, rfl, rfl⟩ fun m s hI => ?_
    obtain ⟨i, st, dn, rfl, hi, hdn, hst, hR, rfl⟩ := hI
    have hap : (i + 1) * 24 ≤ 140737488355328 := by omega
    refine Run.seq ?_
    have fx := ai hap (ai hdn (ai d1 (ai strs_len (ai bools_len (ai boolss_len ft)))))
    refine Run.go ?_
    refine End.kp [2, 9, 10, 39, 40, 41, 42] ?_
    refine Run.seq ?_
    refine Run.cond _ rfl (fun hb => ?_) (fun hb => ?_)
    ·have hb := of_decide_eq_true hb
     have hin : i < tr.length := by omega
     have wi := wsucc hin (by omega)
     obtain ⟨r, hri, hrm, _, hr⟩ := boolss_at tr i hin
     have hrl := ht r hrm
     have hdr : tr.drop i = r :: tr.drop (i + 1) := by
      obtain ⟨h, e⟩ := List.getElem?_eq_some_iff.1 hri
      rw [← e]
      exact List.drop_eq_getElem_cons h
     rw [hdr, runG] at hR
     refine Run.skip ?_
     refine End.kp [2, 9, 10, 39, 40, 41] ?_
     refine Run.seq ?_
     refine Run.block ?_
     refine Run.seq ?_
     have fx := ai zTn (ai zNn (ai hr (ai wi (ai hap (ai hdn (ai d1 (ai strs_len (ai bools_len (ai boolss_len ft)))))))))
     refine Run.go ?_
     refine End.kp [2, 9, 10, 12, 39, 40, 41] ?_
     refine Run.seq ?_
     refine Run.drawA fun K hK => ?_
     refine DOps.sim ?_
     refine DOps.call (.im (.sl (us (lanes0 r)))) [] [] rfl rfl rfl rfl (by kernel_rfl) (by simp [Agree]) (fun u hu => Lanes_ok r (by omega) u) ?_
     refine DOps.sim ?_
     refine DOps.call (.im (.sl (us (graphVals g (lanes0 r) st)))) [] [] rfl rfl rfl rfl (by kernel_rfl) (by simp [Agree]) (fun u hu => gvalues_ok g hg (lanes0 r) st (by simpa using hrl) hst u) ?_
     refine DOps.sim ?_
     refine DOps.call (.tup [.im (.sl (us (outsG g (graphVals g (lanes0 r) st)))), .im (.sl (us (nextsG g (graphVals g (lanes0 r) st))))]) [] [] rfl rfl rfl rfl (by kernel_rfl) (by simp [Agree]) (fun u hu => gresults_ok g hg (graphVals g (lanes0 r) st) (by rw [graphVals_len g _ _ (by simpa using hrl) hst]) u) ?_
     refine DOps.sim ?_
     refine DOps.nil (metAll_quiet rfl) (hK _ ?_); clear hK K
     refine End.kp [2, 10, 13, 14, 39, 40, 41] ?_
     refine Run.region rfl fun K hK => GOps.sim ?_
     refine GOps.call rfl rfl rfl rfl (by kernel_rfl) (ACalls.sim ?_)
     refine (Lane_ok _ (by simp [outsG]; omega) _).mono fun v u hv => ?_
     obtain ⟨rfl, rfl⟩ := hv
     refine ⟨_, _, rfl, GOps.sim ?_⟩
     refine GOps.done (hK _ ?_); clear hK K
     refine End.blk ?_
     refine End.kp [2, 9, 10, 39, 40, 41] ?_
     refine Run.go ?_
     refine End.lp ?_
     refine ⟨tr.length - (i + 1), _, by omega, Ghost.form [(2, .ptr 0 0 0), (9, .im (.sl (us (nextsG g (graphVals g (lanes0 r) st))))), (10, .ms 0 1 ((i + 1))), (39, .im (.sl (boolss tr))), (40, .i tr.length), (41, .i (i + 1 : Nat))] 2 ⟨rfl, rfl, rfl, rfl, rfl, rfl, trivial⟩ rfl rfl, i + 1, nextsG g (graphVals g (lanes0 r) st), dn ++ [laneB (outsG g (graphVals g (lanes0 r) st))], rfl, by omega, by simp [hdn], by simp [nextsG], by simpa using hR, ?_⟩
     simp
    ·have hb := of_decide_eq_false hb
     have hiN : i = tr.length := by omega
     subst hiN
     rw [List.drop_length, runG, List.append_nil] at hR
     refine Run.exit rfl ?_
     refine End.kp [10] ?_
     refine Run.seq ?_
     refine Run.ghost (Ghost.shut (t := 10) (j := 1) rfl rfl (by rw [boolss_len, hdn])) ?_
     simp only [eput, edel]
     have fx := ai hap (ai hdn (ai d1 (ai strs_len (ai bools_len (ai boolss_len ft)))))
     refine Run.go ?_
     refine End.kp [4, 5] ?_
     refine Run.ret (hQ _ _ ⟨.inr rfl, _, rfl, _, rfl, ?_⟩)
     exact ⟨by rw [hR], rfl⟩


def same0 (v v' : List Int) : Prop := v.length = v'.length ∧ ∀ k, bit0 (v.getD k 0) = bit0 (v'.getD k 0)
theorem laneB_bit0 (v : List Int) : laneB v = v.map bit0 := by
 unfold laneB
 exact List.map_congr_left fun x _ => one_iff x
theorem same0_of {v v' : List Int} (h : same0 v v') (l : Int) : bit0 (ofV v l) = bit0 (ofV v' l) := by
 unfold ofV
 split
 ·rw [vnot, vnot, bit0_not, bit0_not, h.2]
 ·exact h.2 _
theorem same0_app {v v' w w' : List Int} (h : same0 v v') (k : same0 w w') : same0 (v ++ w) (v' ++ w') := by
 refine ⟨by simp [h.1, k.1], fun q => ?_⟩
 simp only [List.getD_eq_getElem?_getD, List.getElem?_append]
 rw [h.1]
 split
 ·have := h.2 q
  simpa only [List.getD_eq_getElem?_getD] using this
 ·have := k.2 (q - v'.length)
  simpa only [List.getD_eq_getElem?_getD] using this
theorem same0_refl (v : List Int) : same0 v v := ⟨rfl, fun _ => rfl⟩
theorem same0_one {x y : Int} (h : bit0 x = bit0 y) : same0 [x] [y] := ⟨rfl, fun k => by
 cases k with
 | zero => simpa using h
 | succ k => simp⟩
theorem same0_valsA : ∀ (ps : List (Int × Int)) {v v' : List Int}, same0 v v' → same0 (valsA ps v) (valsA ps v')
 | [], v, v', h => h
 | p :: ps, v, v', h => by
  simp only [valsA]
  refine same0_valsA ps (same0_app h (same0_one ?_))
  rw [bit0_and, bit0_and, same0_of h, same0_of h]
theorem same0_vals (g : LGraph) (inn : List Int) {st st' : List Int} (h : same0 st st') : same0 (graphVals g inn st) (graphVals g inn st') := same0_valsA _ (same0_app (same0_refl _) h)
theorem same0_map {α : Type} (l : List α) (f f' : α → Int) (h : ∀ x, bit0 (f x) = bit0 (f' x)) : same0 (l.map f) (l.map f') := by
 refine ⟨by simp, fun k => ?_⟩
 simp only [List.getD_eq_getElem?_getD, List.getElem?_map]
 cases l[k]? with
 | none => rfl
 | some x => exact h x
theorem same0_lane {v v' : List Int} (h : same0 v v') : laneB v = laneB v' := by
 rw [laneB_bit0, laneB_bit0]
 refine List.ext_getElem? fun k => ?_
 rw [List.getElem?_map, List.getElem?_map]
 have := h.2 k
 simp only [List.getD_eq_getElem?_getD] at this
 have hl := h.1
 by_cases hk : k < v.length
 ·rw [List.getElem?_eq_getElem hk, List.getElem?_eq_getElem (by omega)] at this ⊢
  simpa using this
 ·rw [List.getElem?_eq_none (by omega), List.getElem?_eq_none (by omega)]
theorem lane_same0 (v : List Int) : same0 v (lanes0 (laneB v)) := by
 refine ⟨by simp, fun k => ?_⟩
 rw [laneB_bit0]
 simp only [List.getD_eq_getElem?_getD, List.getElem?_map]
 cases v[k]? with
 | none => rfl
 | some x => exact (bit0_lane (bit0 x)).symm
theorem runG_same (g : LGraph) : ∀ (t : List (List Bool)) {st st' : List Int}, same0 st st' → runG g st t = runG g st' t
 | [], st, st', h => rfl
 | r :: t, st, st', h => by
  have hv := same0_vals g (lanes0 r) h
  have e1 : laneB (outsG g (graphVals g (lanes0 r) st)) = laneB (outsG g (graphVals g (lanes0 r) st')) := same0_lane (same0_map g.outs (ofV (graphVals g (lanes0 r) st)) (ofV (graphVals g (lanes0 r) st')) (fun x => same0_of hv x))
  have e2 : runG g (nextsG g (graphVals g (lanes0 r) st)) t = runG g (nextsG g (graphVals g (lanes0 r) st')) t := runG_same g t (same0_map g.regs (fun r' => ofV (graphVals g (lanes0 r) st) r'.next) (fun r' => ofV (graphVals g (lanes0 r) st') r'.next) (fun x => same0_of hv x.next))
  simp only [runG]
  rw [e1, e2]
theorem runG_lane (g : LGraph) (t : List (List Bool)) (st : List Int) : runG g st t = runG g (lanes0 (laneB st)) t := runG_same g t (lane_same0 st)

set_option maxHeartbeats 2000000
def flipL (l : Int) : Int := if l % 2 = 0 then l + 1 else l - 1
theorem xor_one (l : Int) (h0 : 0 ≤ l) (h1 : l ≤ 1000000000) : bits .xor .i64 l 1 = flipL l := by
 obtain ⟨n, rfl⟩ : ∃ n : Nat, l = n := ⟨l.toNat, by omega⟩
 have e : bits .xor .i64 (n : Int) 1 = IntKind.i64.wrap ((n ^^^ 1 : Nat) : Int) := by
  show IntKind.i64.wrap ((BitVec.ofInt 64 (n : Int) ^^^ BitVec.ofInt 64 1).toNat : Int) = _
  rw [BitVec.toNat_xor]
  have a1 : (BitVec.ofInt 64 (n : Int)).toNat = n := by
   rw [BitVec.toNat_ofInt]
   omega
  have a2 : (BitVec.ofInt 64 1).toNat = 1 := by decide
  rw [a1, a2]
 have h2 : n ^^^ 1 = if n % 2 = 0 then n + 1 else n - 1 := by
  have k1 : (n ^^^ 1) / 2 = n / 2 := by
   rw [Nat.xor_div_two]
   simp
  have k2 : (n ^^^ 1) % 2 = 1 ↔ ¬ n % 2 = 1 := by
   rw [Nat.xor_mod_two_eq_one]
   simp
  split <;> omega
 rw [e, h2, flipL]
 by_cases h : n % 2 = 0
 ·rw [if_pos h, if_pos (by omega), wrap64 (by omega)]
  omega
 ·rw [if_neg h, if_neg (by omega), wrap64 (by omega)]
  omega
theorem flipL_lt (l n : Int) (h0 : 0 ≤ l) (h1 : l < 2 * n) : 0 ≤ flipL l ∧ flipL l < 2 * n := by
 unfold flipL
 split <;> omega

section

abbrev bv (x : Int) : BitVec 64 := BitVec.ofInt 64 x
theorem bv_nat (r : BitVec 64) : bv (r.toNat : Int) = r := by
 apply BitVec.eq_of_toNat_eq
 simp
theorem wrap_nat (r : BitVec 64) : IntKind.u64.wrap (r.toNat : Int) = r.toNat := wrapU (by have := r.isLt; omega)
theorem bits_and (x y : Int) : bits .and .u64 x y = ((bv x &&& bv y).toNat : Int) := wrap_nat _
theorem bits_xor (x y : Int) : bits .xor .u64 x y = ((bv x ^^^ bv y).toNat : Int) := wrap_nat _
theorem bv_and (x y : Int) : bv (bits .and .u64 x y) = bv x &&& bv y := by rw [bits_and, bv_nat]
theorem bv_xor (x y : Int) : bv (bits .xor .u64 x y) = bv x ^^^ bv y := by rw [bits_xor, bv_nat]
theorem bv_vnot (x : Int) : bv (vnot x) = ~~~ bv x := by
 rw [vnot, bv_xor]
 have : bv (if IntKind.u64.signed = true then -1 else IntKind.u64.max) = BitVec.allOnes 64 := by decide
 rw [this]
 apply BitVec.eq_of_getLsbD_eq
 intro i hi
 simp only [BitVec.getLsbD_xor, BitVec.getLsbD_allOnes, BitVec.getLsbD_not, hi, decide_true, Bool.true_and, Bool.true_xor]
def litB (v : List Int) (l : Int) : BitVec 64 := if l % 2 = 1 then ~~~ bv (v.getD (l / 2).toNat 0) else bv (v.getD (l / 2).toNat 0)
theorem bv_of (v : List Int) (l : Int) : bv (ofV v l) = litB v l := by
 unfold ofV litB
 split
 ·exact bv_vnot _
 ·rfl
theorem valsA_pre : ∀ (ps : List (Int × Int)) (v : List Int) (k : Nat), k < v.length → (valsA ps v).getD k 0 = v.getD k 0
 | [], v, k, h => rfl
 | p :: ps, v, k, h => by
  rw [valsA, valsA_pre ps _ k (by simp; omega)]
  simp [List.getElem?_append_left h]
theorem valsA_litB (ps : List (Int × Int)) (v : List Int) (l : Int) (h0 : 0 ≤ l) (h : l < 2 * (v.length : Int)) : litB (valsA ps v) l = litB v l := by
 unfold litB
 rw [valsA_pre ps v (l / 2).toNat (by omega)]
theorem valsA_node : ∀ (ps : List (Int × Int)) (v : List Int) (i : Nat) (p : Int × Int), ps[i]? = some p → (∀ (i : Nat) (p : Int × Int), ps[i]? = some p → (0 ≤ p.1 ∧ p.1 < 2 * ((v.length : Int) + i)) ∧ 0 ≤ p.2 ∧ p.2 < 2 * ((v.length : Int) + i)) →
  bv ((valsA ps v).getD (v.length + i) 0) = litB (valsA ps v) p.1 &&& litB (valsA ps v) p.2
 | [], v, i, p, h, _ => by simp at h
 | q :: qs, v, 0, p, h, hr => by
  simp at h
  subst h
  obtain ⟨⟨a1, a2⟩, a3, a4⟩ := hr 0 q rfl
  rw [valsA]
  have hl : (v ++ [bits .and .u64 (ofV v q.1) (ofV v q.2)]).length = v.length + 1 := by simp
  rw [valsA_pre qs _ _ (by omega), valsA_litB qs _ q.1 a1 (by rw [hl]; omega), valsA_litB qs _ q.2 a3 (by rw [hl]; omega)]
  have e : ∀ l : Int, 0 ≤ l → l < 2 * (v.length : Int) → litB (v ++ [bits .and .u64 (ofV v q.1) (ofV v q.2)]) l = litB v l := fun l h1 h2 => by
   unfold litB
   have : (v ++ [bits .and .u64 (ofV v q.1) (ofV v q.2)]).getD (l / 2).toNat 0 = v.getD (l / 2).toNat 0 := by
    simp only [List.getD_eq_getElem?_getD]
    rw [List.getElem?_append_left (by omega)]
   rw [this]
  rw [e q.1 a1 (by omega), e q.2 a3 (by omega)]
  simp [bv_and, bv_of]
 | q :: qs, v, i + 1, p, h, hr => by
  rw [valsA]
  have hl : (v ++ [bits .and .u64 (ofV v q.1) (ofV v q.2)]).length = v.length + 1 := by simp
  have := valsA_node qs (v ++ [bits .and .u64 (ofV v q.1) (ofV v q.2)]) i p (by simpa using h) (fun j p' hp' => by
   have := hr (j + 1) p' (by simpa using hp')
   rw [hl]
   omega)
  rw [hl] at this
  rw [show v.length + (i + 1) = v.length + 1 + i by omega]
  exact this
section
variable {g : LGraph} (hg : GraphOk g) {inn st : List Int} (h1 : inn.length = g.inn.length) (h2 : st.length = g.regs.length)
include hg h1 h2
theorem g_and (i : Nat) (p : Int × Int) (hp : g.ands[i]? = some p) : litB (graphVals g inn st) (2 * (1 + (g.inn.length : Int) + g.regs.length + i)) = litB (graphVals g inn st) p.1 &&& litB (graphVals g inn st) p.2 := by
 have hl : ([0] ++ inn ++ st).length = 1 + g.inn.length + g.regs.length := by simp; omega
 have := valsA_node g.ands ([0] ++ inn ++ st) i p hp (fun j q hq => by
  have := hg.ands j q hq
  rw [hl]
  omega)
 rw [hl] at this
 rw [graphVals, litB, if_neg (by omega)]
 have e : (2 * (1 + (g.inn.length : Int) + g.regs.length + i) / 2).toNat = 1 + g.inn.length + g.regs.length + i := by omega
 rw [e]
 exact this
end

end


end Go.Proofs.YtkjfdacjjogpcaaPi
