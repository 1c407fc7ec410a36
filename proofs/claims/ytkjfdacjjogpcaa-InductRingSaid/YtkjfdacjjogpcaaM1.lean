/- Part 1 of the proof: the texts PiTy, WA, WB, PBit0, WC, WD, WE, WM, WN, WF, WG, WH, WP, WQ, PLane, WR, PWords, PNames, WX, WY, WGA, WGB, WGC, WGD, WO, WUA, WGE, WTA, WTB, PTB, PSat, PSol, PSolB, PSolC, PSolD, WSA, WSB, one behind the other. Each holds for every input that it names; no condition is hidden. -/
import Derived.Test.YtkjfdacjjogpcaaPiMerge
import Derived.Test.YtkjfdacjjogpcaaProg
import Derived.KernelRfl
import Derived.Test.YtkjfdacjjogpcaaPiGo
import Derived.Test.YtkjfdacjjogpcaaPiVecM
set_option linter.unusedVariables false
set_option linter.unusedSimpArgs false
set_option linter.unusedSectionVars false
namespace Go.Proofs.YtkjfdacjjogpcaaPi
theorem ai {a b : Prop} (h : a) (k : b) : a ∧ b := ⟨h, k⟩
theorem zNn : ∀ n : Nat, (0 : Int) ≤ n := Int.natCast_nonneg
theorem zTn : ∀ n : Nat, Int.toNat n = n := Int.toNat_natCast
theorem zZa : ∀ n : Nat, 0 + n = n := Nat.zero_add
theorem Ghost.fm {n : Nat} {st : ASt} (e : List (Nat × PV)) (L : Nat) (h1 : ehas st.env e := by (repeat first | exact trivial | refine ⟨rfl, ?_⟩)) (h2 : unders L (e.map (·.2)) = true := by rfl) (h3 : (st.loc.take L).all (AObj.under L) = true := by simp only [ASt.push, List.nil_append, List.cons_append, List.take_succ_cons, List.take_zero, List.all_cons, List.all_nil, AObj.under, unders, PV.under, Bool.and_true, Bool.and_self]) : Ghost n st ⟨e, st.loc.take L, st.up⟩ := Ghost.form e L h1 h2 h3

theorem ty_2 : sizeT Try.prog 2 = some 1 ∧ bytesT Try.prog 2 = some 8 ∧ aggT Try.prog 2 = some false ∧ elemT Try.prog 2 = none ∧ arrT Try.prog 2 = none ∧ intT Try.prog 2 = some .i64 ∧ boolT Try.prog 2 = false ∧ stringT Try.prog 2 = false ∧ sliceT Try.prog 2 = false ∧ Program.underlying Try.prog 2 = some (.int .i64) ∧ zeroT Try.prog 2 = some [.im (.int .i64 0)] ∧ zeroImT Try.prog 2 = some [(.int .i64 0)] ∧ u8T Try.prog 2 = false ∧ zeroOne Try.prog 2 = some (.int .i64 0) ∧ placesT Try.prog 2 = none := ⟨by kernel_rfl, by kernel_rfl, by kernel_rfl, by kernel_rfl, by kernel_rfl, by kernel_rfl, by kernel_rfl, by kernel_rfl, by kernel_rfl, by kernel_rfl, by kernel_rfl, by kernel_rfl, by kernel_rfl, by kernel_rfl, by kernel_rfl⟩
theorem ty_3 : sizeT Try.prog 3 = some 1 ∧ bytesT Try.prog 3 = some 8 ∧ aggT Try.prog 3 = some false ∧ elemT Try.prog 3 = none ∧ arrT Try.prog 3 = none ∧ intT Try.prog 3 = some .i64 ∧ boolT Try.prog 3 = false ∧ stringT Try.prog 3 = false ∧ sliceT Try.prog 3 = false ∧ Program.underlying Try.prog 3 = some (.int .i64) ∧ zeroT Try.prog 3 = some [.im (.int .i64 0)] ∧ zeroImT Try.prog 3 = some [(.int .i64 0)] ∧ u8T Try.prog 3 = false ∧ zeroOne Try.prog 3 = some (.int .i64 0) ∧ placesT Try.prog 3 = none := ⟨by kernel_rfl, by kernel_rfl, by kernel_rfl, by kernel_rfl, by kernel_rfl, by kernel_rfl, by kernel_rfl, by kernel_rfl, by kernel_rfl, by kernel_rfl, by kernel_rfl, by kernel_rfl, by kernel_rfl, by kernel_rfl, by kernel_rfl⟩
theorem ty_4 : sizeT Try.prog 4 = some 1 ∧ bytesT Try.prog 4 = some 1 ∧ aggT Try.prog 4 = some false ∧ elemT Try.prog 4 = none ∧ arrT Try.prog 4 = none ∧ intT Try.prog 4 = none ∧ boolT Try.prog 4 = true ∧ stringT Try.prog 4 = false ∧ sliceT Try.prog 4 = false ∧ zeroT Try.prog 4 = some [.im (.bool false)] ∧ zeroImT Try.prog 4 = some [(.bool false)] ∧ u8T Try.prog 4 = false ∧ zeroOne Try.prog 4 = some (.bool false) ∧ placesT Try.prog 4 = none := ⟨by kernel_rfl, by kernel_rfl, by kernel_rfl, by kernel_rfl, by kernel_rfl, by kernel_rfl, by kernel_rfl, by kernel_rfl, by kernel_rfl, by kernel_rfl, by kernel_rfl, by kernel_rfl, by kernel_rfl, by kernel_rfl⟩
theorem ty_5 : sizeT Try.prog 5 = some 1 ∧ bytesT Try.prog 5 = some 1 ∧ aggT Try.prog 5 = some false ∧ elemT Try.prog 5 = none ∧ arrT Try.prog 5 = none ∧ intT Try.prog 5 = some .u8 ∧ boolT Try.prog 5 = false ∧ stringT Try.prog 5 = false ∧ sliceT Try.prog 5 = false ∧ Program.underlying Try.prog 5 = some (.int .u8) ∧ zeroT Try.prog 5 = some [.im (.int .u8 0)] ∧ zeroImT Try.prog 5 = some [(.int .u8 0)] ∧ u8T Try.prog 5 = false ∧ zeroOne Try.prog 5 = some (.int .u8 0) ∧ placesT Try.prog 5 = none := ⟨by kernel_rfl, by kernel_rfl, by kernel_rfl, by kernel_rfl, by kernel_rfl, by kernel_rfl, by kernel_rfl, by kernel_rfl, by kernel_rfl, by kernel_rfl, by kernel_rfl, by kernel_rfl, by kernel_rfl, by kernel_rfl, by kernel_rfl⟩
theorem ty_6 : sizeT Try.prog 6 = some 1 ∧ bytesT Try.prog 6 = some 1 ∧ aggT Try.prog 6 = some false ∧ elemT Try.prog 6 = none ∧ arrT Try.prog 6 = none ∧ intT Try.prog 6 = some .u8 ∧ boolT Try.prog 6 = false ∧ stringT Try.prog 6 = false ∧ sliceT Try.prog 6 = false ∧ Program.underlying Try.prog 6 = some (.int .u8) ∧ zeroT Try.prog 6 = some [.im (.int .u8 0)] ∧ zeroImT Try.prog 6 = some [(.int .u8 0)] ∧ u8T Try.prog 6 = false ∧ zeroOne Try.prog 6 = some (.int .u8 0) ∧ placesT Try.prog 6 = none := ⟨by kernel_rfl, by kernel_rfl, by kernel_rfl, by kernel_rfl, by kernel_rfl, by kernel_rfl, by kernel_rfl, by kernel_rfl, by kernel_rfl, by kernel_rfl, by kernel_rfl, by kernel_rfl, by kernel_rfl, by kernel_rfl, by kernel_rfl⟩
theorem ty_7 : sizeT Try.prog 7 = some 4 ∧ bytesT Try.prog 7 = some 24 ∧ aggT Try.prog 7 = some true ∧ elemT Try.prog 7 = none ∧ arrT Try.prog 7 = none ∧ intT Try.prog 7 = none ∧ boolT Try.prog 7 = false ∧ stringT Try.prog 7 = false ∧ sliceT Try.prog 7 = false ∧ zeroT Try.prog 7 = some [.im (.int .i64 0), .im (.int .i64 0), .im (.bool false), .im (.int .u8 0)] ∧ zeroImT Try.prog 7 = some [(.int .i64 0), (.int .i64 0), (.bool false), (.int .u8 0)] ∧ u8T Try.prog 7 = false ∧ placesT Try.prog 7 = some [(0, 1), (1, 1), (2, 1), (3, 1)] ∧ fieldT Try.prog 7 0 = some (0, 1) ∧ fieldT Try.prog 7 1 = some (1, 1) ∧ fieldT Try.prog 7 2 = some (2, 1) ∧ fieldT Try.prog 7 3 = some (3, 1) := ⟨by kernel_rfl, by kernel_rfl, by kernel_rfl, by kernel_rfl, by kernel_rfl, by kernel_rfl, by kernel_rfl, by kernel_rfl, by kernel_rfl, by kernel_rfl, by kernel_rfl, by kernel_rfl, by kernel_rfl, by kernel_rfl, by kernel_rfl, by kernel_rfl, by kernel_rfl⟩
theorem ty_8 : sizeT Try.prog 8 = some 4 ∧ bytesT Try.prog 8 = some 24 ∧ aggT Try.prog 8 = some true ∧ elemT Try.prog 8 = none ∧ arrT Try.prog 8 = none ∧ intT Try.prog 8 = none ∧ boolT Try.prog 8 = false ∧ stringT Try.prog 8 = false ∧ sliceT Try.prog 8 = false ∧ zeroT Try.prog 8 = some [.im (.int .i64 0), .im (.int .i64 0), .im (.bool false), .im (.int .u8 0)] ∧ zeroImT Try.prog 8 = some [(.int .i64 0), (.int .i64 0), (.bool false), (.int .u8 0)] ∧ u8T Try.prog 8 = false ∧ placesT Try.prog 8 = some [(0, 1), (1, 1), (2, 1), (3, 1)] ∧ fieldT Try.prog 8 0 = some (0, 1) ∧ fieldT Try.prog 8 1 = some (1, 1) ∧ fieldT Try.prog 8 2 = some (2, 1) ∧ fieldT Try.prog 8 3 = some (3, 1) := ⟨by kernel_rfl, by kernel_rfl, by kernel_rfl, by kernel_rfl, by kernel_rfl, by kernel_rfl, by kernel_rfl, by kernel_rfl, by kernel_rfl, by kernel_rfl, by kernel_rfl, by kernel_rfl, by kernel_rfl, by kernel_rfl, by kernel_rfl, by kernel_rfl, by kernel_rfl⟩
theorem ty_9 : sizeT Try.prog 9 = some 1 ∧ bytesT Try.prog 9 = some 16 ∧ aggT Try.prog 9 = some false ∧ elemT Try.prog 9 = none ∧ arrT Try.prog 9 = none ∧ intT Try.prog 9 = none ∧ boolT Try.prog 9 = false ∧ stringT Try.prog 9 = true ∧ sliceT Try.prog 9 = false ∧ Program.underlying Try.prog 9 = some .string ∧ zeroT Try.prog 9 = some [.im (.str ByteArray.empty)] ∧ zeroImT Try.prog 9 = some [(.str ByteArray.empty)] ∧ u8T Try.prog 9 = false ∧ zeroOne Try.prog 9 = some (.str ByteArray.empty) ∧ placesT Try.prog 9 = none := ⟨by kernel_rfl, by kernel_rfl, by kernel_rfl, by kernel_rfl, by kernel_rfl, by kernel_rfl, by kernel_rfl, by kernel_rfl, by kernel_rfl, by kernel_rfl, by kernel_rfl, by kernel_rfl, by kernel_rfl, by kernel_rfl, by kernel_rfl⟩
theorem ty_21 : sizeT Try.prog 21 = some 1 ∧ bytesT Try.prog 21 = some 4 ∧ aggT Try.prog 21 = some false ∧ elemT Try.prog 21 = none ∧ arrT Try.prog 21 = none ∧ intT Try.prog 21 = some .i32 ∧ boolT Try.prog 21 = false ∧ stringT Try.prog 21 = false ∧ sliceT Try.prog 21 = false ∧ Program.underlying Try.prog 21 = some (.int .i32) ∧ zeroT Try.prog 21 = some [.im (.int .i32 0)] ∧ zeroImT Try.prog 21 = some [(.int .i32 0)] ∧ u8T Try.prog 21 = false ∧ zeroOne Try.prog 21 = some (.int .i32 0) ∧ placesT Try.prog 21 = none := ⟨by kernel_rfl, by kernel_rfl, by kernel_rfl, by kernel_rfl, by kernel_rfl, by kernel_rfl, by kernel_rfl, by kernel_rfl, by kernel_rfl, by kernel_rfl, by kernel_rfl, by kernel_rfl, by kernel_rfl, by kernel_rfl, by kernel_rfl⟩
theorem ty_22 : sizeT Try.prog 22 = some 1 ∧ bytesT Try.prog 22 = some 24 ∧ aggT Try.prog 22 = some false ∧ elemT Try.prog 22 = some 3 ∧ arrT Try.prog 22 = none ∧ intT Try.prog 22 = none ∧ boolT Try.prog 22 = false ∧ stringT Try.prog 22 = false ∧ sliceT Try.prog 22 = true ∧ zeroT Try.prog 22 = some [.nils] ∧ zeroImT Try.prog 22 = some [(.sl [])] ∧ u8T Try.prog 22 = false ∧ zeroOne Try.prog 22 = some (.sl []) ∧ placesT Try.prog 22 = none := ⟨by kernel_rfl, by kernel_rfl, by kernel_rfl, by kernel_rfl, by kernel_rfl, by kernel_rfl, by kernel_rfl, by kernel_rfl, by kernel_rfl, by kernel_rfl, by kernel_rfl, by kernel_rfl, by kernel_rfl, by kernel_rfl⟩
theorem ty_26 : sizeT Try.prog 26 = some 1 ∧ bytesT Try.prog 26 = some 24 ∧ aggT Try.prog 26 = some false ∧ elemT Try.prog 26 = some 9 ∧ arrT Try.prog 26 = none ∧ intT Try.prog 26 = none ∧ boolT Try.prog 26 = false ∧ stringT Try.prog 26 = false ∧ sliceT Try.prog 26 = true ∧ zeroT Try.prog 26 = some [.nils] ∧ zeroImT Try.prog 26 = some [(.sl [])] ∧ u8T Try.prog 26 = false ∧ zeroOne Try.prog 26 = some (.sl []) ∧ placesT Try.prog 26 = none := ⟨by kernel_rfl, by kernel_rfl, by kernel_rfl, by kernel_rfl, by kernel_rfl, by kernel_rfl, by kernel_rfl, by kernel_rfl, by kernel_rfl, by kernel_rfl, by kernel_rfl, by kernel_rfl, by kernel_rfl, by kernel_rfl⟩
theorem ty_27 : sizeT Try.prog 27 = some 1 ∧ bytesT Try.prog 27 = some 24 ∧ aggT Try.prog 27 = some false ∧ elemT Try.prog 27 = some 57 ∧ arrT Try.prog 27 = none ∧ intT Try.prog 27 = none ∧ boolT Try.prog 27 = false ∧ stringT Try.prog 27 = false ∧ sliceT Try.prog 27 = true ∧ zeroT Try.prog 27 = some [.nils] ∧ zeroImT Try.prog 27 = some [(.sl [])] ∧ u8T Try.prog 27 = false ∧ zeroOne Try.prog 27 = some (.sl []) ∧ placesT Try.prog 27 = none := ⟨by kernel_rfl, by kernel_rfl, by kernel_rfl, by kernel_rfl, by kernel_rfl, by kernel_rfl, by kernel_rfl, by kernel_rfl, by kernel_rfl, by kernel_rfl, by kernel_rfl, by kernel_rfl, by kernel_rfl, by kernel_rfl⟩
theorem ty_28 : sizeT Try.prog 28 = some 1 ∧ bytesT Try.prog 28 = some 24 ∧ aggT Try.prog 28 = some false ∧ elemT Try.prog 28 = some 59 ∧ arrT Try.prog 28 = none ∧ intT Try.prog 28 = none ∧ boolT Try.prog 28 = false ∧ stringT Try.prog 28 = false ∧ sliceT Try.prog 28 = true ∧ zeroT Try.prog 28 = some [.nils] ∧ zeroImT Try.prog 28 = some [(.sl [])] ∧ u8T Try.prog 28 = false ∧ zeroOne Try.prog 28 = some (.sl []) ∧ placesT Try.prog 28 = none := ⟨by kernel_rfl, by kernel_rfl, by kernel_rfl, by kernel_rfl, by kernel_rfl, by kernel_rfl, by kernel_rfl, by kernel_rfl, by kernel_rfl, by kernel_rfl, by kernel_rfl, by kernel_rfl, by kernel_rfl, by kernel_rfl⟩
theorem ty_29 : sizeT Try.prog 29 = some 1 ∧ bytesT Try.prog 29 = some 24 ∧ aggT Try.prog 29 = some false ∧ elemT Try.prog 29 = some 55 ∧ arrT Try.prog 29 = none ∧ intT Try.prog 29 = none ∧ boolT Try.prog 29 = false ∧ stringT Try.prog 29 = false ∧ sliceT Try.prog 29 = true ∧ zeroT Try.prog 29 = some [.nils] ∧ zeroImT Try.prog 29 = some [(.sl [])] ∧ u8T Try.prog 29 = false ∧ zeroOne Try.prog 29 = some (.sl []) ∧ placesT Try.prog 29 = none := ⟨by kernel_rfl, by kernel_rfl, by kernel_rfl, by kernel_rfl, by kernel_rfl, by kernel_rfl, by kernel_rfl, by kernel_rfl, by kernel_rfl, by kernel_rfl, by kernel_rfl, by kernel_rfl, by kernel_rfl, by kernel_rfl⟩
theorem ty_31 : sizeT Try.prog 31 = some 5 ∧ bytesT Try.prog 31 = some 120 ∧ aggT Try.prog 31 = some true ∧ elemT Try.prog 31 = none ∧ arrT Try.prog 31 = none ∧ intT Try.prog 31 = none ∧ boolT Try.prog 31 = false ∧ stringT Try.prog 31 = false ∧ sliceT Try.prog 31 = false ∧ zeroT Try.prog 31 = some [.nils, .nils, .nils, .nils, .nils] ∧ zeroImT Try.prog 31 = some [(.sl []), (.sl []), (.sl []), (.sl []), (.sl [])] ∧ u8T Try.prog 31 = false ∧ placesT Try.prog 31 = some [(0, 1), (1, 1), (2, 1), (3, 1), (4, 1)] ∧ fieldT Try.prog 31 0 = some (0, 1) ∧ fieldT Try.prog 31 1 = some (1, 1) ∧ fieldT Try.prog 31 2 = some (2, 1) ∧ fieldT Try.prog 31 3 = some (3, 1) ∧ fieldT Try.prog 31 4 = some (4, 1) := ⟨by kernel_rfl, by kernel_rfl, by kernel_rfl, by kernel_rfl, by kernel_rfl, by kernel_rfl, by kernel_rfl, by kernel_rfl, by kernel_rfl, by kernel_rfl, by kernel_rfl, by kernel_rfl, by kernel_rfl, by kernel_rfl, by kernel_rfl, by kernel_rfl, by kernel_rfl, by kernel_rfl⟩
theorem ty_33 : sizeT Try.prog 33 = some 1 ∧ bytesT Try.prog 33 = some 24 ∧ aggT Try.prog 33 = some false ∧ elemT Try.prog 33 = some 4 ∧ arrT Try.prog 33 = none ∧ intT Try.prog 33 = none ∧ boolT Try.prog 33 = false ∧ stringT Try.prog 33 = false ∧ sliceT Try.prog 33 = true ∧ zeroT Try.prog 33 = some [.nils] ∧ zeroImT Try.prog 33 = some [(.sl [])] ∧ u8T Try.prog 33 = false ∧ zeroOne Try.prog 33 = some (.sl []) ∧ placesT Try.prog 33 = none := ⟨by kernel_rfl, by kernel_rfl, by kernel_rfl, by kernel_rfl, by kernel_rfl, by kernel_rfl, by kernel_rfl, by kernel_rfl, by kernel_rfl, by kernel_rfl, by kernel_rfl, by kernel_rfl, by kernel_rfl, by kernel_rfl⟩
theorem ty_35 : sizeT Try.prog 35 = some 1 ∧ bytesT Try.prog 35 = some 24 ∧ aggT Try.prog 35 = some false ∧ elemT Try.prog 35 = some 22 ∧ arrT Try.prog 35 = none ∧ intT Try.prog 35 = none ∧ boolT Try.prog 35 = false ∧ stringT Try.prog 35 = false ∧ sliceT Try.prog 35 = true ∧ zeroT Try.prog 35 = some [.nils] ∧ zeroImT Try.prog 35 = some [(.sl [])] ∧ u8T Try.prog 35 = false ∧ zeroOne Try.prog 35 = some (.sl []) ∧ placesT Try.prog 35 = none := ⟨by kernel_rfl, by kernel_rfl, by kernel_rfl, by kernel_rfl, by kernel_rfl, by kernel_rfl, by kernel_rfl, by kernel_rfl, by kernel_rfl, by kernel_rfl, by kernel_rfl, by kernel_rfl, by kernel_rfl, by kernel_rfl⟩
theorem ty_36 : sizeT Try.prog 36 = some 1 ∧ bytesT Try.prog 36 = some 8 ∧ aggT Try.prog 36 = some false ∧ elemT Try.prog 36 = none ∧ arrT Try.prog 36 = none ∧ intT Try.prog 36 = some .i64 ∧ boolT Try.prog 36 = false ∧ stringT Try.prog 36 = false ∧ sliceT Try.prog 36 = false ∧ Program.underlying Try.prog 36 = some (.int .i64) ∧ zeroT Try.prog 36 = some [.im (.int .i64 0)] ∧ zeroImT Try.prog 36 = some [(.int .i64 0)] ∧ u8T Try.prog 36 = false ∧ zeroOne Try.prog 36 = some (.int .i64 0) ∧ placesT Try.prog 36 = none := ⟨by kernel_rfl, by kernel_rfl, by kernel_rfl, by kernel_rfl, by kernel_rfl, by kernel_rfl, by kernel_rfl, by kernel_rfl, by kernel_rfl, by kernel_rfl, by kernel_rfl, by kernel_rfl, by kernel_rfl, by kernel_rfl, by kernel_rfl⟩
theorem ty_44 : sizeT Try.prog 44 = some 1 ∧ bytesT Try.prog 44 = some 24 ∧ aggT Try.prog 44 = some false ∧ elemT Try.prog 44 = some 135 ∧ arrT Try.prog 44 = none ∧ intT Try.prog 44 = none ∧ boolT Try.prog 44 = false ∧ stringT Try.prog 44 = false ∧ sliceT Try.prog 44 = true ∧ zeroT Try.prog 44 = some [.nils] ∧ zeroImT Try.prog 44 = some [(.sl [])] ∧ u8T Try.prog 44 = false ∧ zeroOne Try.prog 44 = some (.sl []) ∧ placesT Try.prog 44 = none := ⟨by kernel_rfl, by kernel_rfl, by kernel_rfl, by kernel_rfl, by kernel_rfl, by kernel_rfl, by kernel_rfl, by kernel_rfl, by kernel_rfl, by kernel_rfl, by kernel_rfl, by kernel_rfl, by kernel_rfl, by kernel_rfl⟩
theorem ty_46 : sizeT Try.prog 46 = some 5 ∧ bytesT Try.prog 46 = some 64 ∧ aggT Try.prog 46 = some true ∧ elemT Try.prog 46 = none ∧ arrT Try.prog 46 = none ∧ intT Try.prog 46 = none ∧ boolT Try.prog 46 = false ∧ stringT Try.prog 46 = false ∧ sliceT Try.prog 46 = false ∧ zeroT Try.prog 46 = some [.im (.bool false), .im (.bool false), .nils, .nils, .im (.int .i64 0)] ∧ zeroImT Try.prog 46 = some [(.bool false), (.bool false), (.sl []), (.sl []), (.int .i64 0)] ∧ u8T Try.prog 46 = false ∧ placesT Try.prog 46 = some [(0, 1), (1, 1), (2, 1), (3, 1), (4, 1)] ∧ fieldT Try.prog 46 0 = some (0, 1) ∧ fieldT Try.prog 46 1 = some (1, 1) ∧ fieldT Try.prog 46 2 = some (2, 1) ∧ fieldT Try.prog 46 3 = some (3, 1) ∧ fieldT Try.prog 46 4 = some (4, 1) := ⟨by kernel_rfl, by kernel_rfl, by kernel_rfl, by kernel_rfl, by kernel_rfl, by kernel_rfl, by kernel_rfl, by kernel_rfl, by kernel_rfl, by kernel_rfl, by kernel_rfl, by kernel_rfl, by kernel_rfl, by kernel_rfl, by kernel_rfl, by kernel_rfl, by kernel_rfl, by kernel_rfl⟩
theorem ty_55 : sizeT Try.prog 55 = some 1 ∧ bytesT Try.prog 55 = some 8 ∧ aggT Try.prog 55 = some false ∧ elemT Try.prog 55 = none ∧ arrT Try.prog 55 = none ∧ intT Try.prog 55 = some .i64 ∧ boolT Try.prog 55 = false ∧ stringT Try.prog 55 = false ∧ sliceT Try.prog 55 = false ∧ Program.underlying Try.prog 55 = some (.int .i64) ∧ zeroT Try.prog 55 = some [.im (.int .i64 0)] ∧ zeroImT Try.prog 55 = some [(.int .i64 0)] ∧ u8T Try.prog 55 = false ∧ zeroOne Try.prog 55 = some (.int .i64 0) ∧ placesT Try.prog 55 = none := ⟨by kernel_rfl, by kernel_rfl, by kernel_rfl, by kernel_rfl, by kernel_rfl, by kernel_rfl, by kernel_rfl, by kernel_rfl, by kernel_rfl, by kernel_rfl, by kernel_rfl, by kernel_rfl, by kernel_rfl, by kernel_rfl, by kernel_rfl⟩
theorem ty_57 : sizeT Try.prog 57 = some 3 ∧ bytesT Try.prog 57 = some 32 ∧ aggT Try.prog 57 = some true ∧ elemT Try.prog 57 = none ∧ arrT Try.prog 57 = none ∧ intT Try.prog 57 = none ∧ boolT Try.prog 57 = false ∧ stringT Try.prog 57 = false ∧ sliceT Try.prog 57 = false ∧ zeroT Try.prog 57 = some [.im (.str ByteArray.empty), .im (.int .i64 0), .im (.bool false)] ∧ zeroImT Try.prog 57 = some [(.str ByteArray.empty), (.int .i64 0), (.bool false)] ∧ u8T Try.prog 57 = false ∧ eqsT Try.prog 57 = some [9, 55, 4] ∧ placesT Try.prog 57 = some [(0, 1), (1, 1), (2, 1)] ∧ fieldT Try.prog 57 0 = some (0, 1) ∧ fieldT Try.prog 57 1 = some (1, 1) ∧ fieldT Try.prog 57 2 = some (2, 1) := ⟨by kernel_rfl, by kernel_rfl, by kernel_rfl, by kernel_rfl, by kernel_rfl, by kernel_rfl, by kernel_rfl, by kernel_rfl, by kernel_rfl, by kernel_rfl, by kernel_rfl, by kernel_rfl, by kernel_rfl, by kernel_rfl, by kernel_rfl, by kernel_rfl, by kernel_rfl⟩
theorem ty_59 : sizeT Try.prog 59 = some 2 ∧ bytesT Try.prog 59 = some 16 ∧ aggT Try.prog 59 = some true ∧ elemT Try.prog 59 = none ∧ arrT Try.prog 59 = none ∧ intT Try.prog 59 = none ∧ boolT Try.prog 59 = false ∧ stringT Try.prog 59 = false ∧ sliceT Try.prog 59 = false ∧ zeroT Try.prog 59 = some [.im (.int .i64 0), .im (.int .i64 0)] ∧ zeroImT Try.prog 59 = some [(.int .i64 0), (.int .i64 0)] ∧ u8T Try.prog 59 = false ∧ eqsT Try.prog 59 = some [55, 55] ∧ placesT Try.prog 59 = some [(0, 1), (1, 1)] ∧ fieldT Try.prog 59 0 = some (0, 1) ∧ fieldT Try.prog 59 1 = some (1, 1) := ⟨by kernel_rfl, by kernel_rfl, by kernel_rfl, by kernel_rfl, by kernel_rfl, by kernel_rfl, by kernel_rfl, by kernel_rfl, by kernel_rfl, by kernel_rfl, by kernel_rfl, by kernel_rfl, by kernel_rfl, by kernel_rfl, by kernel_rfl, by kernel_rfl⟩
theorem ty_60 : sizeT Try.prog 60 = some 1 ∧ bytesT Try.prog 60 = some 8 ∧ aggT Try.prog 60 = some false ∧ elemT Try.prog 60 = none ∧ arrT Try.prog 60 = none ∧ intT Try.prog 60 = some .i64 ∧ boolT Try.prog 60 = false ∧ stringT Try.prog 60 = false ∧ sliceT Try.prog 60 = false ∧ Program.underlying Try.prog 60 = some (.int .i64) ∧ zeroT Try.prog 60 = some [.im (.int .i64 0)] ∧ zeroImT Try.prog 60 = some [(.int .i64 0)] ∧ u8T Try.prog 60 = false ∧ zeroOne Try.prog 60 = some (.int .i64 0) ∧ placesT Try.prog 60 = none := ⟨by kernel_rfl, by kernel_rfl, by kernel_rfl, by kernel_rfl, by kernel_rfl, by kernel_rfl, by kernel_rfl, by kernel_rfl, by kernel_rfl, by kernel_rfl, by kernel_rfl, by kernel_rfl, by kernel_rfl, by kernel_rfl, by kernel_rfl⟩
theorem ty_61 : sizeT Try.prog 61 = some 1 ∧ bytesT Try.prog 61 = some 24 ∧ aggT Try.prog 61 = some false ∧ elemT Try.prog 61 = some 44 ∧ arrT Try.prog 61 = none ∧ intT Try.prog 61 = none ∧ boolT Try.prog 61 = false ∧ stringT Try.prog 61 = false ∧ sliceT Try.prog 61 = true ∧ zeroT Try.prog 61 = some [.nils] ∧ zeroImT Try.prog 61 = some [(.sl [])] ∧ u8T Try.prog 61 = false ∧ zeroOne Try.prog 61 = some (.sl []) ∧ placesT Try.prog 61 = none := ⟨by kernel_rfl, by kernel_rfl, by kernel_rfl, by kernel_rfl, by kernel_rfl, by kernel_rfl, by kernel_rfl, by kernel_rfl, by kernel_rfl, by kernel_rfl, by kernel_rfl, by kernel_rfl, by kernel_rfl, by kernel_rfl⟩
theorem ty_62 : sizeT Try.prog 62 = some 1 ∧ bytesT Try.prog 62 = some 24 ∧ aggT Try.prog 62 = some false ∧ elemT Try.prog 62 = some 33 ∧ arrT Try.prog 62 = none ∧ intT Try.prog 62 = none ∧ boolT Try.prog 62 = false ∧ stringT Try.prog 62 = false ∧ sliceT Try.prog 62 = true ∧ zeroT Try.prog 62 = some [.nils] ∧ zeroImT Try.prog 62 = some [(.sl [])] ∧ u8T Try.prog 62 = false ∧ zeroOne Try.prog 62 = some (.sl []) ∧ placesT Try.prog 62 = none := ⟨by kernel_rfl, by kernel_rfl, by kernel_rfl, by kernel_rfl, by kernel_rfl, by kernel_rfl, by kernel_rfl, by kernel_rfl, by kernel_rfl, by kernel_rfl, by kernel_rfl, by kernel_rfl, by kernel_rfl, by kernel_rfl⟩
theorem ty_64 : sizeT Try.prog 64 = some 5 ∧ bytesT Try.prog 64 = some 104 ∧ aggT Try.prog 64 = some true ∧ elemT Try.prog 64 = none ∧ arrT Try.prog 64 = none ∧ intT Try.prog 64 = none ∧ boolT Try.prog 64 = false ∧ stringT Try.prog 64 = false ∧ sliceT Try.prog 64 = false ∧ zeroT Try.prog 64 = some [.im (.int .i64 0), .nils, .nils, .nils, .nils] ∧ zeroImT Try.prog 64 = some [(.int .i64 0), (.sl []), (.sl []), (.sl []), (.sl [])] ∧ u8T Try.prog 64 = false ∧ placesT Try.prog 64 = some [(0, 1), (1, 1), (2, 1), (3, 1), (4, 1)] ∧ fieldT Try.prog 64 0 = some (0, 1) ∧ fieldT Try.prog 64 1 = some (1, 1) ∧ fieldT Try.prog 64 2 = some (2, 1) ∧ fieldT Try.prog 64 3 = some (3, 1) ∧ fieldT Try.prog 64 4 = some (4, 1) := ⟨by kernel_rfl, by kernel_rfl, by kernel_rfl, by kernel_rfl, by kernel_rfl, by kernel_rfl, by kernel_rfl, by kernel_rfl, by kernel_rfl, by kernel_rfl, by kernel_rfl, by kernel_rfl, by kernel_rfl, by kernel_rfl, by kernel_rfl, by kernel_rfl, by kernel_rfl, by kernel_rfl⟩
theorem ty_77 : sizeT Try.prog 77 = some 3 ∧ bytesT Try.prog 77 = some 56 ∧ aggT Try.prog 77 = some true ∧ elemT Try.prog 77 = none ∧ arrT Try.prog 77 = none ∧ intT Try.prog 77 = none ∧ boolT Try.prog 77 = false ∧ stringT Try.prog 77 = false ∧ sliceT Try.prog 77 = false ∧ zeroT Try.prog 77 = some [.im (.int .i64 0), .nils, .nils] ∧ zeroImT Try.prog 77 = some [(.int .i64 0), (.sl []), (.sl [])] ∧ u8T Try.prog 77 = false ∧ placesT Try.prog 77 = some [(0, 1), (1, 1), (2, 1)] ∧ fieldT Try.prog 77 0 = some (0, 1) ∧ fieldT Try.prog 77 1 = some (1, 1) ∧ fieldT Try.prog 77 2 = some (2, 1) := ⟨by kernel_rfl, by kernel_rfl, by kernel_rfl, by kernel_rfl, by kernel_rfl, by kernel_rfl, by kernel_rfl, by kernel_rfl, by kernel_rfl, by kernel_rfl, by kernel_rfl, by kernel_rfl, by kernel_rfl, by kernel_rfl, by kernel_rfl, by kernel_rfl⟩
theorem ty_99 : sizeT Try.prog 99 = some 1 ∧ bytesT Try.prog 99 = some 8 ∧ aggT Try.prog 99 = some false ∧ elemT Try.prog 99 = none ∧ arrT Try.prog 99 = none ∧ intT Try.prog 99 = some .u64 ∧ boolT Try.prog 99 = false ∧ stringT Try.prog 99 = false ∧ sliceT Try.prog 99 = false ∧ Program.underlying Try.prog 99 = some (.int .u64) ∧ zeroT Try.prog 99 = some [.im (.int .u64 0)] ∧ zeroImT Try.prog 99 = some [(.int .u64 0)] ∧ u8T Try.prog 99 = false ∧ zeroOne Try.prog 99 = some (.int .u64 0) ∧ placesT Try.prog 99 = none := ⟨by kernel_rfl, by kernel_rfl, by kernel_rfl, by kernel_rfl, by kernel_rfl, by kernel_rfl, by kernel_rfl, by kernel_rfl, by kernel_rfl, by kernel_rfl, by kernel_rfl, by kernel_rfl, by kernel_rfl, by kernel_rfl, by kernel_rfl⟩
theorem ty_130 : sizeT Try.prog 130 = some 1 ∧ bytesT Try.prog 130 = some 8 ∧ aggT Try.prog 130 = some false ∧ elemT Try.prog 130 = none ∧ arrT Try.prog 130 = none ∧ intT Try.prog 130 = none ∧ boolT Try.prog 130 = false ∧ stringT Try.prog 130 = false ∧ sliceT Try.prog 130 = false ∧ ptrT Try.prog 130 = true ∧ zeroT Try.prog 130 = some [.nilp] ∧ u8T Try.prog 130 = false ∧ placesT Try.prog 130 = none := ⟨by kernel_rfl, by kernel_rfl, by kernel_rfl, by kernel_rfl, by kernel_rfl, by kernel_rfl, by kernel_rfl, by kernel_rfl, by kernel_rfl, by kernel_rfl, by kernel_rfl, by kernel_rfl, by kernel_rfl⟩
theorem ty_131 : sizeT Try.prog 131 = some 1 ∧ bytesT Try.prog 131 = some 24 ∧ aggT Try.prog 131 = some false ∧ elemT Try.prog 131 = some 138 ∧ arrT Try.prog 131 = none ∧ intT Try.prog 131 = none ∧ boolT Try.prog 131 = false ∧ stringT Try.prog 131 = false ∧ sliceT Try.prog 131 = true ∧ zeroT Try.prog 131 = some [.nils] ∧ zeroImT Try.prog 131 = some [(.sl [])] ∧ u8T Try.prog 131 = false ∧ zeroOne Try.prog 131 = some (.sl []) ∧ placesT Try.prog 131 = none := ⟨by kernel_rfl, by kernel_rfl, by kernel_rfl, by kernel_rfl, by kernel_rfl, by kernel_rfl, by kernel_rfl, by kernel_rfl, by kernel_rfl, by kernel_rfl, by kernel_rfl, by kernel_rfl, by kernel_rfl, by kernel_rfl⟩
theorem ty_133 : sizeT Try.prog 133 = some 9 ∧ bytesT Try.prog 133 = some 184 ∧ aggT Try.prog 133 = some true ∧ elemT Try.prog 133 = none ∧ arrT Try.prog 133 = none ∧ intT Try.prog 133 = none ∧ boolT Try.prog 133 = false ∧ stringT Try.prog 133 = false ∧ sliceT Try.prog 133 = false ∧ zeroT Try.prog 133 = some [.nils, .nils, .nils, .nils, .nils, .nils, .nils, .im (.int .i64 0), .im (.int .i64 0)] ∧ zeroImT Try.prog 133 = some [(.sl []), (.sl []), (.sl []), (.sl []), (.sl []), (.sl []), (.sl []), (.int .i64 0), (.int .i64 0)] ∧ u8T Try.prog 133 = false ∧ placesT Try.prog 133 = some [(0, 1), (1, 1), (2, 1), (3, 1), (4, 1), (5, 1), (6, 1), (7, 1), (8, 1)] ∧ fieldT Try.prog 133 0 = some (0, 1) ∧ fieldT Try.prog 133 1 = some (1, 1) ∧ fieldT Try.prog 133 2 = some (2, 1) ∧ fieldT Try.prog 133 3 = some (3, 1) ∧ fieldT Try.prog 133 4 = some (4, 1) ∧ fieldT Try.prog 133 5 = some (5, 1) ∧ fieldT Try.prog 133 6 = some (6, 1) ∧ fieldT Try.prog 133 7 = some (7, 1) ∧ fieldT Try.prog 133 8 = some (8, 1) := ⟨by kernel_rfl, by kernel_rfl, by kernel_rfl, by kernel_rfl, by kernel_rfl, by kernel_rfl, by kernel_rfl, by kernel_rfl, by kernel_rfl, by kernel_rfl, by kernel_rfl, by kernel_rfl, by kernel_rfl, by kernel_rfl, by kernel_rfl, by kernel_rfl, by kernel_rfl, by kernel_rfl, by kernel_rfl, by kernel_rfl, by kernel_rfl, by kernel_rfl⟩
theorem ty_135 : sizeT Try.prog 135 = some 2 ∧ bytesT Try.prog 135 = some 32 ∧ aggT Try.prog 135 = some true ∧ elemT Try.prog 135 = none ∧ arrT Try.prog 135 = none ∧ intT Try.prog 135 = none ∧ boolT Try.prog 135 = false ∧ stringT Try.prog 135 = false ∧ sliceT Try.prog 135 = false ∧ zeroT Try.prog 135 = some [.im (.bool false), .nils] ∧ zeroImT Try.prog 135 = some [(.bool false), (.sl [])] ∧ u8T Try.prog 135 = false ∧ placesT Try.prog 135 = some [(0, 1), (1, 1)] ∧ fieldT Try.prog 135 0 = some (0, 1) ∧ fieldT Try.prog 135 1 = some (1, 1) := ⟨by kernel_rfl, by kernel_rfl, by kernel_rfl, by kernel_rfl, by kernel_rfl, by kernel_rfl, by kernel_rfl, by kernel_rfl, by kernel_rfl, by kernel_rfl, by kernel_rfl, by kernel_rfl, by kernel_rfl, by kernel_rfl, by kernel_rfl⟩
theorem ty_138 : sizeT Try.prog 138 = some 1 ∧ bytesT Try.prog 138 = some 1 ∧ aggT Try.prog 138 = some false ∧ elemT Try.prog 138 = none ∧ arrT Try.prog 138 = none ∧ intT Try.prog 138 = some .i8 ∧ boolT Try.prog 138 = false ∧ stringT Try.prog 138 = false ∧ sliceT Try.prog 138 = false ∧ Program.underlying Try.prog 138 = some (.int .i8) ∧ zeroT Try.prog 138 = some [.im (.int .i8 0)] ∧ zeroImT Try.prog 138 = some [(.int .i8 0)] ∧ u8T Try.prog 138 = false ∧ zeroOne Try.prog 138 = some (.int .i8 0) ∧ placesT Try.prog 138 = none := ⟨by kernel_rfl, by kernel_rfl, by kernel_rfl, by kernel_rfl, by kernel_rfl, by kernel_rfl, by kernel_rfl, by kernel_rfl, by kernel_rfl, by kernel_rfl, by kernel_rfl, by kernel_rfl, by kernel_rfl, by kernel_rfl, by kernel_rfl⟩
theorem ty_148 : sizeT Try.prog 148 = some 1 ∧ bytesT Try.prog 148 = some 24 ∧ aggT Try.prog 148 = some false ∧ elemT Try.prog 148 = some 5 ∧ arrT Try.prog 148 = none ∧ intT Try.prog 148 = none ∧ boolT Try.prog 148 = false ∧ stringT Try.prog 148 = false ∧ sliceT Try.prog 148 = true ∧ zeroT Try.prog 148 = some [.nils] ∧ zeroImT Try.prog 148 = some [(.sl [])] ∧ u8T Try.prog 148 = true ∧ zeroOne Try.prog 148 = some (.sl []) ∧ placesT Try.prog 148 = none := ⟨by kernel_rfl, by kernel_rfl, by kernel_rfl, by kernel_rfl, by kernel_rfl, by kernel_rfl, by kernel_rfl, by kernel_rfl, by kernel_rfl, by kernel_rfl, by kernel_rfl, by kernel_rfl, by kernel_rfl, by kernel_rfl⟩
theorem ty_162 : sizeT Try.prog 162 = some 1 ∧ bytesT Try.prog 162 = some 8 ∧ aggT Try.prog 162 = some false ∧ elemT Try.prog 162 = none ∧ arrT Try.prog 162 = none ∧ intT Try.prog 162 = none ∧ boolT Try.prog 162 = false ∧ stringT Try.prog 162 = false ∧ sliceT Try.prog 162 = false ∧ zeroT Try.prog 162 = some [.any] ∧ u8T Try.prog 162 = false ∧ mapT Try.prog 162 = some (9, 3) ∧ placesT Try.prog 162 = none := ⟨by kernel_rfl, by kernel_rfl, by kernel_rfl, by kernel_rfl, by kernel_rfl, by kernel_rfl, by kernel_rfl, by kernel_rfl, by kernel_rfl, by kernel_rfl, by kernel_rfl, by kernel_rfl, by kernel_rfl⟩
theorem ty_167 : sizeT Try.prog 167 = some 1 ∧ bytesT Try.prog 167 = some 8 ∧ aggT Try.prog 167 = some false ∧ elemT Try.prog 167 = none ∧ arrT Try.prog 167 = none ∧ intT Try.prog 167 = none ∧ boolT Try.prog 167 = false ∧ stringT Try.prog 167 = false ∧ sliceT Try.prog 167 = false ∧ zeroT Try.prog 167 = some [.any] ∧ u8T Try.prog 167 = false ∧ mapT Try.prog 167 = some (3, 4) ∧ placesT Try.prog 167 = none := ⟨by kernel_rfl, by kernel_rfl, by kernel_rfl, by kernel_rfl, by kernel_rfl, by kernel_rfl, by kernel_rfl, by kernel_rfl, by kernel_rfl, by kernel_rfl, by kernel_rfl, by kernel_rfl, by kernel_rfl⟩
theorem ty_177 : sizeT Try.prog 177 = some 1 ∧ bytesT Try.prog 177 = some 8 ∧ aggT Try.prog 177 = some false ∧ elemT Try.prog 177 = none ∧ arrT Try.prog 177 = none ∧ intT Try.prog 177 = some .u64 ∧ boolT Try.prog 177 = false ∧ stringT Try.prog 177 = false ∧ sliceT Try.prog 177 = false ∧ Program.underlying Try.prog 177 = some (.int .u64) ∧ zeroT Try.prog 177 = some [.im (.int .u64 0)] ∧ zeroImT Try.prog 177 = some [(.int .u64 0)] ∧ u8T Try.prog 177 = false ∧ zeroOne Try.prog 177 = some (.int .u64 0) ∧ placesT Try.prog 177 = none := ⟨by kernel_rfl, by kernel_rfl, by kernel_rfl, by kernel_rfl, by kernel_rfl, by kernel_rfl, by kernel_rfl, by kernel_rfl, by kernel_rfl, by kernel_rfl, by kernel_rfl, by kernel_rfl, by kernel_rfl, by kernel_rfl, by kernel_rfl⟩
theorem ty_180 : sizeT Try.prog 180 = some 1 ∧ bytesT Try.prog 180 = some 8 ∧ aggT Try.prog 180 = some false ∧ elemT Try.prog 180 = none ∧ arrT Try.prog 180 = none ∧ intT Try.prog 180 = some .i64 ∧ boolT Try.prog 180 = false ∧ stringT Try.prog 180 = false ∧ sliceT Try.prog 180 = false ∧ Program.underlying Try.prog 180 = some (.int .i64) ∧ zeroT Try.prog 180 = some [.im (.int .i64 0)] ∧ zeroImT Try.prog 180 = some [(.int .i64 0)] ∧ u8T Try.prog 180 = false ∧ zeroOne Try.prog 180 = some (.int .i64 0) ∧ placesT Try.prog 180 = none := ⟨by kernel_rfl, by kernel_rfl, by kernel_rfl, by kernel_rfl, by kernel_rfl, by kernel_rfl, by kernel_rfl, by kernel_rfl, by kernel_rfl, by kernel_rfl, by kernel_rfl, by kernel_rfl, by kernel_rfl, by kernel_rfl, by kernel_rfl⟩
theorem ty_188 : sizeT Try.prog 188 = some 1 ∧ bytesT Try.prog 188 = some 4 ∧ aggT Try.prog 188 = some false ∧ elemT Try.prog 188 = none ∧ arrT Try.prog 188 = none ∧ intT Try.prog 188 = some .u32 ∧ boolT Try.prog 188 = false ∧ stringT Try.prog 188 = false ∧ sliceT Try.prog 188 = false ∧ Program.underlying Try.prog 188 = some (.int .u32) ∧ zeroT Try.prog 188 = some [.im (.int .u32 0)] ∧ zeroImT Try.prog 188 = some [(.int .u32 0)] ∧ u8T Try.prog 188 = false ∧ zeroOne Try.prog 188 = some (.int .u32 0) ∧ placesT Try.prog 188 = none := ⟨by kernel_rfl, by kernel_rfl, by kernel_rfl, by kernel_rfl, by kernel_rfl, by kernel_rfl, by kernel_rfl, by kernel_rfl, by kernel_rfl, by kernel_rfl, by kernel_rfl, by kernel_rfl, by kernel_rfl, by kernel_rfl, by kernel_rfl⟩

set_option maxRecDepth 100000

abbrev I64 (x : Int) : Prop := -9223372036854775808 ≤ x ∧ x ≤ 9223372036854775807
theorem wrap64 {x : Int} (h : I64 x) : IntKind.i64.wrap x = x := by
 unfold IntKind.wrap
 simp only [IntKind.bits, IntKind.signed]
 simp
 omega
abbrev PV.i (x : Int) : PV := .im (.int .i64 x)
def below (x n : Int) : Int := if n < 1 then 0 else x % n
theorem Below_ok (x n : Int) (hx : I64 x) (hn : I64 n) (up : Frs) : ACalls Try.prog 21 [.i x, .i n] up fun v u => v = .i (below x n) ∧ u = up := by
 refine ACalls.code Try.func21 rfl 16 rfl (by simp) [.tmp 4] rfl fun Q hQ => ?_
 simp only [ups, PV.up, argEnv]
 refine Run.seq ?_
 refine Run.region rfl fun K hK => GOps.run ?_
 simp only [lookupV, updateV, lookupK, updateK, slicePV, pe0, pe1, pe2, pe3, pe4, pe5, pe6, pe7, pr0, pr1, Nat.reduceAdd, Nat.reduceMul, Nat.reduceLeDiff, Nat.reduceLT, Nat.reduceEqDiff, Nat.reduceBEq, Nat.reduceSub, reduceCtorEq, reduceIte, Int.reduceToNat, Int.reduceLE, Int.reduceEq, Int.reduceNe, Int.reduceBEq, Int.reduceBNe, Int.reduceLT, Int.reduceGT, Int.reduceGE, Int.reduceNeg, ty_3, ty_4]
 refine GOps.done (hK _ ?_); clear hK K
 refine End.keep [0, 1] ?_
 simp only [pk0, Nat.reduceBEq, reduceIte]
 refine Run.seq ?_
 refine Run.seq ?_
 refine Run.region rfl fun K hK => GOps.run ?_
 simp only [lookupV, updateV, lookupK, updateK, slicePV, pe0, pe1, pe2, pe3, pe4, pe5, pe6, pe7, pr0, pr1, Nat.reduceAdd, Nat.reduceMul, Nat.reduceLeDiff, Nat.reduceLT, Nat.reduceEqDiff, Nat.reduceBEq, Nat.reduceSub, reduceCtorEq, reduceIte, Int.reduceToNat, Int.reduceLE, Int.reduceEq, Int.reduceNe, Int.reduceBEq, Int.reduceBNe, Int.reduceLT, Int.reduceGT, Int.reduceGE, Int.reduceNeg, ty_3, ty_4]
 refine GOps.done (hK _ ?_); clear hK K
 refine End.keep [0, 1, 6] ?_
 simp only [pk0, Nat.reduceBEq, reduceIte]
 refine Run.cond _ rfl (fun hb => ?_) (fun hb => ?_)
 ·have hb := of_decide_eq_true hb
  refine Run.seq ?_
  refine Run.region rfl fun K hK => GOps.run ?_
  simp only [lookupV, updateV, lookupK, updateK, slicePV, pe0, pe1, pe2, pe3, pe4, pe5, pe6, pe7, pr0, pr1, Nat.reduceAdd, Nat.reduceMul, Nat.reduceLeDiff, Nat.reduceLT, Nat.reduceEqDiff, Nat.reduceBEq, Nat.reduceSub, reduceCtorEq, reduceIte, Int.reduceToNat, Int.reduceLE, Int.reduceEq, Int.reduceNe, Int.reduceBEq, Int.reduceBNe, Int.reduceLT, Int.reduceGT, Int.reduceGE, Int.reduceNeg, ty_3, ty_4]
  refine GOps.done (hK _ ?_); clear hK K
  refine End.keep [4] ?_
  simp only [pk0, Nat.reduceBEq, reduceIte]
  refine Run.ret (hQ _ _ ⟨.inr rfl, _, rfl, _, rfl, ?_⟩)
  simp [below, hb]
 ·have hb := of_decide_eq_false hb
  have hn0 : ¬ n = 0 := by omega
  have ht : x.tmod n = if x < 0 then (if x % n = 0 then 0 else x % n - n) else x % n := by
   rw [Int.tmod_eq_emod]
   have h1 : n.natAbs = n := by omega
   by_cases h0 : x < 0
   ·by_cases h2 : n ∣ x
    ·have := Int.emod_eq_zero_of_dvd h2
     simp [h2, h0, this]
    ·have : ¬ x % n = 0 := fun e => h2 (Int.dvd_of_emod_eq_zero e)
     rw [if_neg (by omega), if_pos h0, if_neg this]
     omega
   ·rw [if_pos (by omega), if_neg h0]
    omega
  have hm0 := Int.emod_nonneg x hn0
  have hm1 := Int.emod_lt_of_pos x (show 0 < n by omega)
  refine Run.skip ?_
  refine End.keep [0, 1] ?_
  simp only [pk0, Nat.reduceBEq, reduceIte]
  refine Run.seq ?_
  refine Run.region rfl fun K hK => GOps.run ?_
  simp only [lookupV, updateV, lookupK, updateK, slicePV, pe0, pe1, pe2, pe3, pe4, pe5, pe6, pe7, pr0, pr1, Nat.reduceAdd, Nat.reduceMul, Nat.reduceLeDiff, Nat.reduceLT, Nat.reduceEqDiff, Nat.reduceBEq, Nat.reduceSub, reduceCtorEq, reduceIte, Int.reduceToNat, Int.reduceLE, Int.reduceEq, Int.reduceNe, Int.reduceBEq, Int.reduceBNe, Int.reduceLT, Int.reduceGT, Int.reduceGE, Int.reduceNeg, ty_3, ty_4, hn0]
  refine GOps.done (hK _ ?_); clear hK K
  refine End.keep [0, 1] ?_
  simp only [pk0, Nat.reduceBEq, reduceIte]
  refine Run.seq ?_
  refine Run.seq ?_
  refine Run.region rfl fun K hK => GOps.run ?_
  simp only [lookupV, updateV, lookupK, updateK, slicePV, pe0, pe1, pe2, pe3, pe4, pe5, pe6, pe7, pr0, pr1, Nat.reduceAdd, Nat.reduceMul, Nat.reduceLeDiff, Nat.reduceLT, Nat.reduceEqDiff, Nat.reduceBEq, Nat.reduceSub, reduceCtorEq, reduceIte, Int.reduceToNat, Int.reduceLE, Int.reduceEq, Int.reduceNe, Int.reduceBEq, Int.reduceBNe, Int.reduceLT, Int.reduceGT, Int.reduceGE, Int.reduceNeg, ty_3, ty_4]
  refine GOps.done (hK _ ?_); clear hK K
  refine End.keep [0, 1, 11] ?_
  simp only [pk0, Nat.reduceBEq, reduceIte]
  refine Run.cond _ rfl (fun hb => ?_) (fun hb => ?_)
  ·have hc := of_decide_eq_true hb
   refine Run.region rfl fun K hK => GOps.run ?_
   simp only [lookupV, updateV, lookupK, updateK, slicePV, pe0, pe1, pe2, pe3, pe4, pe5, pe6, pe7, pr0, pr1, Nat.reduceAdd, Nat.reduceMul, Nat.reduceLeDiff, Nat.reduceLT, Nat.reduceEqDiff, Nat.reduceBEq, Nat.reduceSub, reduceCtorEq, reduceIte, Int.reduceToNat, Int.reduceLE, Int.reduceEq, Int.reduceNe, Int.reduceBEq, Int.reduceBNe, Int.reduceLT, Int.reduceGT, Int.reduceGE, Int.reduceNeg, ty_3, ty_4]
   refine GOps.done (hK _ ?_); clear hK K
   refine End.keep [0] ?_
   simp only [pk0, Nat.reduceBEq, reduceIte]
   refine Run.seq ?_
   refine Run.region rfl fun K hK => GOps.run ?_
   simp only [lookupV, updateV, lookupK, updateK, slicePV, pe0, pe1, pe2, pe3, pe4, pe5, pe6, pe7, pr0, pr1, Nat.reduceAdd, Nat.reduceMul, Nat.reduceLeDiff, Nat.reduceLT, Nat.reduceEqDiff, Nat.reduceBEq, Nat.reduceSub, reduceCtorEq, reduceIte, Int.reduceToNat, Int.reduceLE, Int.reduceEq, Int.reduceNe, Int.reduceBEq, Int.reduceBNe, Int.reduceLT, Int.reduceGT, Int.reduceGE, Int.reduceNeg, ty_3, ty_4]
   refine GOps.done (hK _ ?_); clear hK K
   refine End.keep [4] ?_
   simp only [pk0, Nat.reduceBEq, reduceIte]
   refine Run.ret (hQ _ _ ⟨.inr rfl, _, rfl, _, rfl, ?_⟩)
   refine ⟨?_, rfl⟩
   have e : x.tmod n + n = x % n := by
    rw [ht] at hc ⊢
    split at hc
    ·split at hc
     ·omega
     ·rename_i h1 h2; rw [if_pos h1, if_neg h2]; omega
    ·omega
   rw [e, wrap64 (by omega)]
   simp [below, hb, show ¬ n < 1 by omega]
  ·have hc := of_decide_eq_false hb
   refine Run.skip ?_
   refine End.keep [0] ?_
   simp only [pk0, Nat.reduceBEq, reduceIte]
   refine Run.seq ?_
   refine Run.region rfl fun K hK => GOps.run ?_
   simp only [lookupV, updateV, lookupK, updateK, slicePV, pe0, pe1, pe2, pe3, pe4, pe5, pe6, pe7, pr0, pr1, Nat.reduceAdd, Nat.reduceMul, Nat.reduceLeDiff, Nat.reduceLT, Nat.reduceEqDiff, Nat.reduceBEq, Nat.reduceSub, reduceCtorEq, reduceIte, Int.reduceToNat, Int.reduceLE, Int.reduceEq, Int.reduceNe, Int.reduceBEq, Int.reduceBNe, Int.reduceLT, Int.reduceGT, Int.reduceGE, Int.reduceNeg, ty_3, ty_4]
   refine GOps.done (hK _ ?_); clear hK K
   refine End.keep [4] ?_
   simp only [pk0, Nat.reduceBEq, reduceIte]
   refine Run.ret (hQ _ _ ⟨.inr rfl, _, rfl, _, rfl, ?_⟩)
   refine ⟨?_, rfl⟩
   have e : x.tmod n = x % n := by
    rw [ht] at hc ⊢
    split at hc
    ·split at hc
     ·rename_i h1 h2; rw [if_pos h1, if_pos h2, h2]
     ·omega
    ·rename_i h1; rw [if_neg h1]
   rw [e]
   simp [below, show ¬ n < 1 by omega]
abbrev ints (l : List Int) : List (List Im) := l.map fun x => [.int .i64 x]
theorem ints_len (l : List Int) : (ints l).length = l.length := by simp
structure StmOk (l : List Int) (a : Int) : Prop where
 vals : ∀ x ∈ l, I64 x
 len : l.length ≤ 9223372036854775807
 pos : 0 ≤ a
 few : a < 1099511627776

theorem below_range (x n : Int) (h : 1 ≤ n) : 0 ≤ below x n ∧ below x n < n := by
 unfold below
 rw [if_neg (by omega)]
 exact ⟨Int.emod_nonneg _ (by omega), Int.emod_lt_of_pos _ (by omega)⟩
theorem StmOk.next {l : List Int} {a : Int} (h : StmOk l a) (hf : a + 1 < 1099511627776) : StmOk l (a + 1) := ⟨h.vals, h.len, by have := h.pos; omega, hf⟩
abbrev PV.u (x : Int) : PV := .im (.int .u64 x)
theorem wrapU {x : Int} (h : 0 ≤ x ∧ x ≤ 18446744073709551615) : IntKind.u64.wrap x = x := by
 unfold IntKind.wrap
 simp only [IntKind.bits, IntKind.signed]
 simp
 omega


def bit0 (x : Int) : Bool := (BitVec.ofInt 64 x).getLsbD 0
theorem back0 (r : BitVec 64) : bit0 (IntKind.u64.wrap r.toNat) = r.getLsbD 0 := by
 have h : IntKind.u64.wrap r.toNat = r.toNat := wrapU (by have := r.isLt; omega)
 rw [bit0, h]
 congr 1
 apply BitVec.eq_of_toNat_eq
 simp
theorem bit0_not (y : Int) : bit0 (bits .xor .u64 (if IntKind.u64.signed = true then -1 else IntKind.u64.max) y) = !bit0 y := by
 show bit0 (IntKind.u64.wrap (BitVec.ofInt 64 _ ^^^ BitVec.ofInt 64 y).toNat) = _
 rw [back0, BitVec.getLsbD_xor]
 have : (BitVec.ofInt 64 (if IntKind.u64.signed = true then -1 else IntKind.u64.max)).getLsbD 0 = true := by decide
 rw [this]
 simp [bit0]
theorem one_iff (x : Int) : (bits .and .u64 x 1 == 1) = bit0 x := by
 have h1 : bits .and .u64 x 1 = ((BitVec.ofInt 64 x &&& 1#64).toNat : Int) := by
  show IntKind.u64.wrap (BitVec.ofInt 64 x &&& BitVec.ofInt 64 1).toNat = _
  rw [wrapU (by have := (BitVec.ofInt 64 x &&& BitVec.ofInt 64 1).isLt; omega)]
  rfl
 rw [h1, bit0]
 generalize BitVec.ofInt 64 x = b
 have h2 : (b &&& 1#64).toNat = b.toNat % 2 := by
  rw [BitVec.toNat_and]
  exact Nat.and_one_is_mod _
 have h3 : b.getLsbD 0 = decide (b.toNat % 2 = 1) := by
  rw [BitVec.getLsbD, Nat.testBit_zero]
 rw [h2, h3]
 by_cases h : b.toNat % 2 = 1
 ·simp [h]
 ·have h0 : b.toNat % 2 = 0 := by omega
  simp [h0]
theorem bit0_lane (b : Bool) : bit0 (if b = true then 1 else 0) = b := by cases b <;> decide

set_option maxRecDepth 100000

abbrev strs (l : List ByteArray) : List (List Im) := l.map fun s => [.str s]
theorem strs_len (l : List ByteArray) : (strs l).length = l.length := by simp


set_option maxHeartbeats 2000000
structure LGate where
 table : Int
 ins : List Int
abbrev LGate.im (g : LGate) : List Im := [.int .i64 (-1), .int .u64 g.table, .sl (ints g.ins)]
structure LFlop where
 name : ByteArray
 d : Int
 en : Int
 init : Bool
abbrev LFlop.im (f : LFlop) : List Im := [.str f.name, .int .i64 (-1), .int .i64 f.d, .int .i64 f.en, .bool f.init]
structure LNet where
 inn : List ByteArray
 out : List ByteArray
 flops : List LFlop
 gates : List LGate
 outs : List Int
abbrev LNet.pv (n : LNet) : PV := .agg [.im (.sl (strs n.inn)), .im (.sl (strs n.out)), .im (.sl (n.flops.map LFlop.im)), .im (.sl (n.gates.map LGate.im)), .im (.sl (ints n.outs))]

set_option maxRecDepth 100000

abbrev bools (l : List Bool) : List (List Im) := l.map fun b => [.bool b]
abbrev us (l : List Int) : List (List Im) := l.map fun x => [.int .u64 x]
theorem bools_len (l : List Bool) : (bools l).length = l.length := by simp
theorem bools_get (l : List Bool) (i : Nat) (h : i < l.length) : (bools l)[i]? = some [.bool (l.getD i false)] := by simp [h]
theorem wsucc {i n : Nat} (h : i < n) (hn : n ≤ 140737488355328) : IntKind.i64.wrap ((i : Int) + 1) = ((i + 1 : Nat) : Int) := by rw [wrap64 (by omega)]; omega
theorem fill_next (done : List (List Im)) (k : Nat) (z y : List Im) : (done ++ List.replicate (k + 1) z).set done.length y = (done ++ [y]) ++ List.replicate k z := by
 rw [List.set_append_right _ _ (Nat.le_refl _)]
 simp [List.replicate_succ]
theorem take_snoc {α : Type} (l : List α) (i : Nat) (z : α) (h : i < l.length) : l.take (i + 1) = l.take i ++ [l.getD i z] := by
 rw [List.take_add_one]
 simp [h]
theorem fill_map {α : Type} (f : α → List Im) (q : List α) (z : List Im) (d : α) (i : Nat) (h : i < q.length) :
  ((q.take i).map f ++ List.replicate (q.length - i) z).set i (f (q.getD i d)) = (q.take (i + 1)).map f ++ List.replicate (q.length - (i + 1)) z := by
 have hA : ((q.take i).map f).length = i := by simp; omega
 have := fill_next ((q.take i).map f) (q.length - (i + 1)) z (f (q.getD i d))
 rw [hA] at this
 rw [show q.length - i = q.length - (i + 1) + 1 by omega, this, take_snoc q i d h]
 simp
theorem fill_len {α : Type} (f : α → List Im) (q : List α) (z : List Im) (i : Nat) (h : i ≤ q.length) : ((q.take i).map f ++ List.replicate (q.length - i) z).length = q.length := by simp; omega
theorem fill_get {α : Type} (f : α → List Im) (q : List α) (z : List Im) (i : Nat) (h : i < q.length) : ((q.take i).map f ++ List.replicate (q.length - i) z)[i]? = some z := by
 have hA : ((q.take i).map f).length = i := by simp; omega
 rw [List.getElem?_append_right (by omega), hA, Nat.sub_self, List.getElem?_replicate, if_pos (by omega)]
theorem fill_all {α : Type} (f : α → List Im) (q : List α) (z : List Im) : (q.take q.length).map f ++ List.replicate (q.length - q.length) z = q.map f := by simp

set_option maxRecDepth 100000
set_option maxHeartbeats 2000000

structure LReg where
 name : ByteArray
 next : Int
 init : Bool
abbrev LReg.im (r : LReg) : List Im := [.str r.name, .int .i64 r.next, .bool r.init]
abbrev nd (p : Int × Int) : List Im := [.int .i64 p.1, .int .i64 p.2]
structure LGraph where
 inn : List ByteArray
 out : List ByteArray
 regs : List LReg
 ands : List (Int × Int)
 outs : List Int
abbrev LGraph.cells (g : LGraph) : List PV := [.im (.sl (strs g.inn)), .im (.sl (strs g.out)), .im (.sl (g.regs.map LReg.im)), .im (.sl (g.ands.map nd)), .im (.sl (ints g.outs))]
abbrev LGraph.pv (g : LGraph) : PV := .agg g.cells
theorem rim_len (l : List LReg) : (l.map LReg.im).length = l.length := by simp
theorem nd_len (l : List (Int × Int)) : (l.map nd).length = l.length := by simp


set_option maxRecDepth 100000
set_option maxHeartbeats 2000000
abbrev boolss (l : List (List Bool)) : List (List Im) := l.map fun r => [.sl (bools r)]
theorem boolss_len (l : List (List Bool)) : (boolss l).length = l.length := by simp



set_option maxRecDepth 100000
structure NameOk (s : ByteArray) : Prop where
 low : 1 ≤ s.size
 high : s.size ≤ 128
 chars : ∀ b ∈ s.data.toList, 33 ≤ b.toNat ∧ b.toNat ≤ 126
theorem byteRows_len (s : ByteArray) : (byteRows s).length = s.size := by simp [byteRows]
theorem byteRows_get (s : ByteArray) (h : NameOk s) (i : Nat) (hi : i < s.size) : ∃ b : Int, 33 ≤ b ∧ b ≤ 126 ∧ (byteRows s)[i]? = some [.int .u8 b] := by
 have hi2 : i < s.data.toList.length := by simpa using hi
 refine ⟨(s.data.toList[i]).toNat, ?_, ?_, ?_⟩
 ·have := (h.chars _ (List.getElem_mem hi2)).1; omega
 ·have := (h.chars _ (List.getElem_mem hi2)).2; omega
 ·simp only [byteRows, List.getElem?_map, List.getElem?_eq_getElem hi2, Option.map_some]
theorem Name_ok (s : ByteArray) (hs : NameOk s) (up : Frs) : ACalls Try.prog 93 [.im (.str s)] up fun v u => v = .im (.bool true) ∧ u = up := by
 have hlow := hs.low
 have hhigh := hs.high
 have d1 : decide ((s.size : Int) < 1) = false := decide_eq_false (by omega)
 have d2 : decide ((s.size : Int) > 128) = false := decide_eq_false (by omega)
 refine ACalls.code Try.func93 rfl 27 rfl (by simp) [.tmp 2] rfl fun Q hQ => ?_
 simp only [ups, PV.up, argEnv]
 have ft := ai ty_3 (ai ty_4 (ai ty_5 (ai ty_9 (ai ty_148 trivial))))
 refine Run.seq ?_
 have fx := ai byteRows_len (ai d2 (ai d1 ft))
 refine Run.go ?_
 refine End.kp [0] ?_
 refine Run.seq ?_
 refine Run.seq ?_
 refine Run.go ?_
 refine End.kp [0, 12] ?_
 refine Run.cond _ rfl (fun hb => ?_) (fun hb => ?_)
 ·have hb := hb
  simp at hb
 ·have hb := hb
  refine Run.skip ?_
  refine End.kp [0] ?_
  refine Run.seq ?_
  refine Run.seq ?_
  refine Run.go ?_
  refine End.kp [14, 15, 16] ?_
  refine Run.block ?_
  refine Run.ghost (Ghost.form [(14, .im (.sl (byteRows s))), (15, .i s.size), (16, .i (0 : Nat))] 0 ⟨rfl, rfl, rfl, trivial⟩ rfl rfl) ?_
  refine Run.loop (fun m st => ∃ (i : Nat), m = s.size - i ∧ i ≤ s.size ∧ st = ⟨[(14, .im (.sl (byteRows s))), (15, .i s.size), (16, .i (i : Nat))], [], up⟩) s.size ⟨0, rfl, by omega, rfl⟩ fun m st hI => ?_
  obtain ⟨i, rfl, hi, rfl⟩ := hI
  refine Run.seq ?_
  refine Run.go ?_
  refine End.kp [14, 15, 16, 17] ?_
  refine Run.seq ?_
  refine Run.cond _ rfl (fun hb => ?_) (fun hb => ?_)
  ·have hb := of_decide_eq_true hb
   have hin : i < s.size := by omega
   have wi := wsucc hin (by omega)
   obtain ⟨b, b1, b2, hg⟩ := byteRows_get s hs i hin
   have d3 : decide (b < 33) = false := decide_eq_false (by omega)
   have d4 : decide (b > 126) = false := decide_eq_false (by omega)
   refine Run.skip ?_
   refine End.kp [14, 15, 16] ?_
   refine Run.seq ?_
   refine Run.block ?_
   refine Run.seq ?_
   have fx := ai zTn (ai zNn (ai d4 (ai d3 (ai hg (ai wi fx)))))
   refine Run.go ?_
   refine End.kp [4, 14, 15, 16] ?_
   refine Run.seq ?_
   refine Run.go ?_
   refine End.kp [14, 15, 16, 25] ?_
   refine Run.cond _ rfl (fun hb => ?_) (fun hb => ?_)
   ·have hb := hb
    simp at hb
   ·have hb := hb
    refine Run.skip ?_
    refine End.blk ?_
    refine End.kp [14, 15, 16] ?_
    refine Run.go ?_
    refine End.lp ?_
    refine ⟨s.size - (i + 1), _, by omega, Ghost.form [(14, .im (.sl (byteRows s))), (15, .i s.size), (16, .i (i + 1 : Nat))] 0 ⟨rfl, rfl, rfl, trivial⟩ rfl rfl, i + 1, rfl, by omega, rfl⟩
  ·have hb := of_decide_eq_false hb
   refine Run.exit rfl ?_
   refine End.kp [] ?_
   refine Run.seq ?_
   refine Run.go ?_
   refine End.kp [2] ?_
   refine Run.ret (hQ _ _ ⟨.inr rfl, _, rfl, _, rfl, ?_⟩)
   exact ⟨rfl, rfl⟩
def ents (l : List ByteArray) : List (List Im × Im) := l.map fun s => ([.str s], .int .i64 1)
theorem same_ne (s x : ByteArray) (h : x ≠ s) : sameIm Try.prog 9 (.str s) (.str x) = some false := by
 simp only [sameIm, ty_9, if_true, Option.some.injEq]
 have := mt (MapKept.bytes_beq s x).1 (fun e => h e.symm)
 simpa using this
theorem find_none (s : ByteArray) : ∀ (l : List ByteArray) (i : Nat), s ∉ l → findIm Try.prog 9 (.str s) (ents l) i = some none
 | [], i, _ => rfl
 | x :: xs, i, h => by
  simp only [List.mem_cons, not_or] at h
  simp only [ents, List.map_cons, findIm, same_ne s x (fun e => h.1 e.symm)]
  exact find_none s xs (i + 1) h.2
theorem find_last (s : ByteArray) (v : Im) : ∀ (l : List ByteArray) (i : Nat), s ∉ l → findIm Try.prog 9 (.str s) (ents l ++ [([.str s], v)]) i = some (some (i + l.length, v))
 | [], i, _ => by
  have : sameIm Try.prog 9 (.str s) (.str s) = some true := by
   simp only [sameIm, ty_9, if_true, Option.some.injEq]
   exact (MapKept.bytes_beq s s).2 rfl
  simp only [ents, List.map_nil, List.nil_append, findIm, this, List.length_nil, Nat.add_zero]
 | x :: xs, i, h => by
  simp only [List.mem_cons, not_or] at h
  simp only [ents, List.map_cons, List.cons_append, findIm, same_ne s x (fun e => h.1 e.symm)]
  have := find_last s v xs (i + 1) h.2
  simp only [ents] at this
  rw [this, List.length_cons]
  congr 3
  omega
theorem nodup_take {l : List ByteArray} (h : l.Nodup) (i : Nat) (hi : i < l.length) : l.getD i ByteArray.empty ∉ l.take i := by
 intro hm
 obtain ⟨k, hk, e⟩ := List.getElem_of_mem hm
 have hk2 : k < i := by simp at hk; omega
 rw [List.getElem_take] at e
 have e2 : l.getD i ByteArray.empty = l[i] := by simp [hi]
 rw [e2] at e
 have := (List.getElem_inj h).1 e
 omega
theorem strs_get (l : List ByteArray) (i : Nat) (h : i < l.length) : (strs l)[i]? = some [.str (l.getD i ByteArray.empty)] := by simp [h]
theorem getD_mem {l : List ByteArray} {i : Nat} (h : i < l.length) : l.getD i ByteArray.empty ∈ l := by
 have e2 : l.getD i ByteArray.empty = l[i] := by simp [h]
 rw [e2]
 exact List.getElem_mem h
theorem Names_ok (q : List ByteArray) (hq : q.length ≤ 1000000) (hv : ∀ s ∈ q, NameOk s) (hd : q.Nodup) (up : Frs) : ACalls Try.prog 68 [.im (.sl (strs q))] up fun v u => v = .i 0 ∧ u = up := by
 refine ACalls.code Try.func68 rfl 25 rfl (by simp) [.tmp 2] rfl fun Q hQ => ?_
 simp only [ups, PV.up, argEnv]
 have ft := ai ty_3 (ai ty_4 (ai ty_9 (ai ty_26 (ai ty_36 (ai ty_162 trivial)))))
 refine Run.seq ?_
 have fx := ai strs_len ft
 refine Run.go ?_
 refine End.kp [0] ?_
 refine Run.seq ?_
 refine Run.go ?_
 refine End.kp [0, 3] ?_
 refine Run.seq ?_
 refine Run.seq ?_
 refine Run.go ?_
 refine End.kp [3, 7, 8, 9] ?_
 refine Run.block ?_
 refine Run.ghost (Ghost.form [(3, .map 0 0), (7, .im (.sl (strs q))), (8, .i q.length), (9, .i (0 : Nat))] 1 ⟨rfl, rfl, rfl, rfl, trivial⟩ rfl rfl) ?_
 refine Run.loop (fun m st => ∃ (i : Nat), m = q.length - i ∧ i ≤ q.length ∧ st = ⟨[(3, .map 0 0), (7, .im (.sl (strs q))), (8, .i q.length), (9, .i (i : Nat))], [.map (ents (q.take i))], up⟩) q.length ⟨0, rfl, by omega, rfl⟩ fun m st hI => ?_
 obtain ⟨i, rfl, hi, rfl⟩ := hI
 refine Run.seq ?_
 refine Run.go ?_
 refine End.kp [3, 7, 8, 9, 10] ?_
 refine Run.seq ?_
 refine Run.cond _ rfl (fun hb => ?_) (fun hb => ?_)
 ·have hb := of_decide_eq_true hb
  have hin : i < q.length := by omega
  have wi := wsucc hin (by omega)
  have hg := strs_get q i hin
  have hno := nodup_take hd i hin
  have hnm := hv _ (getD_mem hin)
  have htk := take_snoc q i ByteArray.empty hin
  generalize q.getD i ByteArray.empty = s at hg hno hnm htk
  have hf1 := find_none s (q.take i) 0 hno
  have hf2 := find_last s (.int .i64 1) (q.take i) 0 hno
  have w1 : IntKind.i64.wrap (0 + 1) = 1 := by decide
  refine Run.skip ?_
  refine End.kp [3, 7, 8, 9] ?_
  refine Run.seq ?_
  refine Run.block ?_
  refine Run.seq ?_
  have fx := ai zTn (ai zNn (ai w1 (ai hf2 (ai hf1 (ai hg (ai wi (ai strs_len ft)))))))
  refine Run.go ?_
  refine End.kp [3, 5, 7, 8, 9] ?_
  refine Run.seq ?_
  refine Run.seq ?_
  refine Run.region rfl fun K hK => GOps.sim ?_
  refine GOps.call rfl rfl rfl rfl (by kernel_rfl) (ACalls.sim ?_)
  refine (Name_ok s hnm _).mono fun v u hv => ?_
  obtain ⟨rfl, rfl⟩ := hv
  refine ⟨_, _, rfl, GOps.sim ?_⟩
  refine GOps.done (hK _ ?_); clear hK K
  refine End.kp [3, 5, 7, 8, 9, 15] ?_
  refine Run.cond _ rfl (fun hb => ?_) (fun hb => ?_)
  ·have hb := hb
   simp at hb
  ·have hb := hb
   refine Run.skip ?_
   refine End.kp [3, 5, 7, 8, 9] ?_
   refine Run.seq ?_
   have fx := ai zTn (ai zNn (ai w1 (ai hf2 (ai hf1 (ai hg (ai wi (ai strs_len ft)))))))
   refine Run.go ?_
   refine End.kp [3, 5, 7, 8, 9] ?_
   refine Run.seq ?_
   refine Run.go ?_
   refine End.kp [3, 7, 8, 9, 23] ?_
   refine Run.cond _ rfl (fun hb => ?_) (fun hb => ?_)
   ·have hb := hb
    simp at hb
   ·have hb := hb
    refine Run.skip ?_
    refine End.blk ?_
    refine End.kp [3, 7, 8, 9] ?_
    refine Run.go ?_
    refine End.lp ?_
    refine ⟨q.length - (i + 1), _, by omega, Ghost.form [(3, .map 0 0), (7, .im (.sl (strs q))), (8, .i q.length), (9, .i (i + 1 : Nat))] 1 ⟨rfl, rfl, rfl, rfl, trivial⟩ rfl rfl, i + 1, rfl, by omega, ?_⟩
    rw [htk]
    simp [ents]
 ·have hb := of_decide_eq_false hb
  refine Run.exit rfl ?_
  refine End.kp [] ?_
  refine Run.seq ?_
  refine Run.go ?_
  refine End.kp [2] ?_
  refine Run.ret (hQ _ _ ⟨.inr rfl, _, rfl, _, rfl, ?_⟩)
  exact ⟨rfl, rfl⟩

set_option maxRecDepth 100000
theorem CloneX_nil (f : List AObj) (rest : Frs) : ACalls Try.prog 54 [.im (.sl (strs []))] (f :: rest) fun v u => v = .ms 0 (f.length + 0) 0 ∧ u = (f ++ [.row 9 1 (strs []) 0]) :: rest := by
 refine ACalls.codeX Try.func54 rfl 8 rfl (by simp) [.tmp 2] rfl fun Q hQ => ?_
 simp only [ups, PV.up, argEnv]
 have ft := ai ty_4 (ai ty_9 (ai ty_26 trivial))
 refine Run.seq ?_
 have fx := ai (@List.map_nil.{0, 0}) ft
 refine Run.go ?_
 refine End.kp [0] ?_
 refine Run.seq ?_
 refine Run.seq ?_
 refine Run.go ?_
 refine End.kp [0, 4] ?_
 refine Run.cond_any rfl ?_ ?_
 ·skip
  refine Run.seq ?_
  refine Run.go ?_
  refine End.move (Ghost.thaw (u := 2) 9 1 (by decide) rfl) ?_
  refine End.kp [2] ?_
  refine Run.ret (hQ _ _ ⟨.inr rfl, _, rfl, _, _, rfl, ?_⟩)
  exact ⟨rfl, rfl⟩
 ·skip
  refine Run.skip ?_
  refine End.kp [0] ?_
  refine Run.seq ?_
  refine Run.go ?_
  refine End.kp [2] ?_
  refine Run.ret (hQ _ _ ⟨.inr rfl, _, rfl, _, _, rfl, ?_⟩)
  exact ⟨rfl, rfl⟩
theorem CloneX_cons (x : ByteArray) (xs : List ByteArray) (h : xs.length ≤ 1000000) (f : List AObj) (rest : Frs) : ACalls Try.prog 54 [.im (.sl (strs (x :: xs)))] (f :: rest) fun v u => v = .ms 0 (f.length + 0) (x :: xs).length ∧ u = (f ++ [.row 9 1 (strs (x :: xs)) 0]) :: rest := by
 have hall : (strs xs).all (fun r => r.length == 1) = true := by simp
 have hlen : (xs.length + 1) * 16 ≤ 140737488355328 := by omega
 refine ACalls.codeX Try.func54 rfl 8 rfl (by simp) [.tmp 2] rfl fun Q hQ => ?_
 simp only [ups, PV.up, argEnv]
 have ft := ai ty_4 (ai ty_9 (ai ty_26 trivial))
 refine Run.seq ?_
 have fx := ai (@List.length_map.{0, 0}) (ai hlen (ai hall (ai (@List.map_cons.{0, 0}) ft)))
 refine Run.go ?_
 refine End.kp [0] ?_
 refine Run.seq ?_
 refine Run.seq ?_
 refine Run.go ?_
 refine End.kp [0, 4] ?_
 refine Run.cond _ rfl (fun hb => ?_) (fun hb => ?_)
 ·have hb := hb
  simp at hb
 ·have hb := hb
  refine Run.skip ?_
  refine End.kp [0] ?_
  refine Run.seq ?_
  refine Run.go ?_
  refine End.kp [2] ?_
  refine Run.ret (hQ _ _ ⟨.inr rfl, _, rfl, _, _, rfl, ?_⟩)
  exact ⟨rfl, rfl⟩
theorem CloneX_ok (q : List ByteArray) (h : q.length ≤ 1000000) (f : List AObj) (rest : Frs) : ACalls Try.prog 54 [.im (.sl (strs q))] (f :: rest) fun v u => v = .ms 0 (f.length + 0) q.length ∧ u = (f ++ [.row 9 1 (strs q) 0]) :: rest := by
 cases q with
 | nil => exact CloneX_nil f rest
 | cons x xs => exact CloneX_cons x xs (by simp at h; omega) f rest
abbrev lanes0 (l : List Bool) : List Int := l.map fun b => if b = true then 1 else 0
theorem int_at (l : List Int) (i : Nat) (h : i < l.length) : ∃ x, l[i]? = some x ∧ x ∈ l ∧ (ints l)[i]? = some [.int .i64 x] :=
 ⟨l[i], by simp [h], List.getElem_mem h, by simp [h]⟩

set_option maxRecDepth 100000
set_option maxHeartbeats 2000000

structure GSmall (g : LGraph) : Prop where
 inn : g.inn.length ≤ 128
 out : g.out.length ≤ 128
 regs : g.regs.length ≤ 288
 ands : g.ands.length ≤ 4000
 outs : g.outs.length ≤ 128
structure GraphOk (g : LGraph) : Prop where
 small : GSmall g
 names : ∀ s ∈ g.inn ++ g.regs.map LReg.name, NameOk s
 nodup : (g.inn ++ g.regs.map LReg.name).Nodup
 onames : ∀ s ∈ g.out, NameOk s
 onodup : g.out.Nodup
 olen : g.out.length = g.outs.length
 ands : ∀ (i : Nat) (p : Int × Int), g.ands[i]? = some p → (0 ≤ p.1 ∧ p.1 < 2 * (1 + (g.inn.length : Int) + g.regs.length + i)) ∧ 0 ≤ p.2 ∧ p.2 < 2 * (1 + (g.inn.length : Int) + g.regs.length + i)
 regs : ∀ r ∈ g.regs, 0 ≤ r.next ∧ r.next < 2 * (1 + (g.inn.length : Int) + g.regs.length + g.ands.length)
 outs : ∀ x ∈ g.outs, 0 ≤ x ∧ x < 2 * (1 + (g.inn.length : Int) + g.regs.length + g.ands.length)
theorem reg_at (l : List LReg) (i : Nat) (h : i < l.length) : ∃ r, l[i]? = some r ∧ r ∈ l ∧ (l.map LReg.im)[i]? = some [.str r.name, .int .i64 r.next, .bool r.init] :=
 ⟨l[i], by simp [h], List.getElem_mem h, by simp [h]⟩
theorem node_at (l : List (Int × Int)) (i : Nat) (h : i < l.length) : ∃ p, l[i]? = some p ∧ p ∈ l ∧ (l.map nd)[i]? = some [.int .i64 p.1, .int .i64 p.2] :=
 ⟨l[i], by simp [h], List.getElem_mem h, by simp [h]⟩
theorem tmod2 (x : Int) (h : 0 ≤ x) : x.tmod 2 = x % 2 := Int.tmod_eq_emod_of_nonneg h
theorem tdiv2 (x : Int) (h : 0 ≤ x) (h2 : x ≤ 1000000000) : IntKind.i64.wrap (x.tdiv 2) = x / 2 := by
 rw [Int.tdiv_eq_ediv_of_nonneg h]
 exact wrap64 (by omega)
theorem GFirst_ok (g : LGraph) (hg : GSmall g) (up : Frs) : ACalls Try.prog 47 [g.pv] up fun v u => v = .i (1 + g.inn.length + g.regs.length) ∧ u = up := by
 obtain ⟨z1, z2, z3, z4, z5⟩ := hg
 have w1 : IntKind.i64.wrap (1 + (g.inn.length : Int)) = 1 + (g.inn.length : Int) := wrap64 (by omega)
 have w2 : IntKind.i64.wrap (1 + (g.inn.length : Int) + g.regs.length) = 1 + (g.inn.length : Int) + g.regs.length := wrap64 (by omega)
 refine ACalls.code Try.func47 rfl 11 rfl (by simp) [.tmp 2] rfl fun Q hQ => ?_
 simp only [ups, PV.up, argEnv]
 have ft := ai ty_2 (ai ty_3 (ai ty_9 (ai ty_26 (ai ty_27 (ai ty_31 (ai ty_57 trivial))))))
 refine Run.seq ?_
 have fx := ai w2 (ai w1 (ai rim_len (ai strs_len ft)))
 refine Run.go ?_
 refine End.kp [1] ?_
 refine Run.seq ?_
 refine Run.go ?_
 refine End.kp [2] ?_
 refine Run.ret (hQ _ _ ⟨.inr rfl, _, rfl, _, rfl, ?_⟩)
 exact ⟨rfl, rfl⟩
theorem before_pos (l n : Int) (h0 : 0 ≤ l) (hn : 0 ≤ n) (hn2 : n ≤ 1000000) (up : Frs) : ACalls Try.prog 69 [.i l, .i n] up fun v u => v = .im (.bool (decide (l < 2 * n))) ∧ u = up := by
 have d1 : decide (0 ≤ l) = true := decide_eq_true (by omega)
 have w1 : IntKind.i64.wrap (2 * n) = 2 * n := wrap64 (by omega)
 refine ACalls.code Try.func69 rfl 13 rfl (by simp) [.tmp 4] rfl fun Q hQ => ?_
 simp only [ups, PV.up, argEnv]
 have ft := ai ty_3 (ai ty_4 (ai ty_55 trivial))
 refine Run.seq ?_
 have fx := ai (@ge_iff_le Int _) (ai w1 (ai d1 ft))
 refine Run.go ?_
 refine End.kp [0, 1] ?_
 refine Run.seq ?_
 refine Run.go ?_
 refine End.kp [4] ?_
 refine Run.ret (hQ _ _ ⟨.inr rfl, _, rfl, _, rfl, ?_⟩)
 exact ⟨rfl, rfl⟩
theorem before_ok (l n : Int) (h0 : 0 ≤ l) (h1 : l < 2 * n) (hn2 : n ≤ 1000000) (up : Frs) : ACalls Try.prog 69 [.i l, .i n] up fun v u => v = .im (.bool true) ∧ u = up :=
 (before_pos l n h0 (by omega) hn2 up).mono fun v u ⟨h1', h2⟩ => ⟨by rw [h1']; simp; omega, h2⟩
abbrev gnms (g : LGraph) (i : Nat) : List ByteArray := g.inn ++ (g.regs.take i).map LReg.name
theorem gnms_len (g : LGraph) (i : Nat) (h : i ≤ g.regs.length) : (strs (gnms g i)).length = g.inn.length + i := by simp; omega
theorem gnms_next (g : LGraph) (i : Nat) (f : LReg) (h : g.regs[i]? = some f) : gnms g (i + 1) = gnms g i ++ [f.name] := by simp [gnms, List.take_add_one, h]
theorem Check_ok (g : LGraph) (hg : GraphOk g) (up : Frs) : ACalls Try.prog 41 [g.pv] up fun v u => v = .i 0 ∧ u = up := by
 have hsm := hg.small
 obtain ⟨z1, z2, z3, z4, z5⟩ := hg.small
 have d1 : decide ((g.inn.length : Int) > 128) = false := decide_eq_false (by omega)
 have d2 : decide ((g.out.length : Int) > 128) = false := decide_eq_false (by omega)
 have d3 : decide ((g.regs.length : Int) > 288) = false := decide_eq_false (by omega)
 have d4 : decide ((g.ands.length : Int) > 4000) = false := decide_eq_false (by omega)
 have d5 : ((g.out.length : Int) != g.outs.length) = false := by rw [hg.olen]; simp
 have wn : IntKind.i64.wrap (1 + (g.inn.length : Int) + g.regs.length + g.ands.length) = 1 + (g.inn.length : Int) + g.regs.length + g.ands.length := wrap64 (by omega)
 refine ACalls.code Try.func41 rfl 128 rfl (by simp) [.tmp 2] rfl fun Q hQ => ?_
 simp only [ups, PV.up, argEnv]
 have ft := ai ty_2 (ai ty_3 (ai ty_4 (ai ty_9 (ai ty_26 (ai ty_27 (ai ty_28 (ai ty_29 (ai ty_31 (ai ty_36 (ai ty_55 (ai ty_57 (ai ty_59 trivial))))))))))))
 refine Run.seq ?_
 have fx := ai d5 (ai d4 (ai d3 (ai d2 (ai d1 (ai ints_len (ai nd_len (ai rim_len (ai strs_len ft))))))))
 refine Run.go ?_
 refine End.kp [1] ?_
 refine Run.seq ?_
 refine Run.seq ?_
 refine Run.go ?_
 refine End.kp [1, 36] ?_
 refine Run.cond _ rfl (fun hb => ?_) (fun hb => ?_)
 ·have hb := hb
  simp at hb
 ·have hb := hb
  refine Run.skip ?_
  refine End.kp [1] ?_
  refine Run.seq ?_
  refine Run.seq ?_
  refine Run.go ?_
  refine End.kp [1, 43] ?_
  refine Run.cond _ rfl (fun hb => ?_) (fun hb => ?_)
  ·have hb := hb
   simp at hb
  ·have hb := hb
   refine Run.skip ?_
   refine End.kp [1] ?_
   refine Run.seq ?_
   refine Run.region rfl fun K hK => GOps.sim ?_
   refine GOps.call rfl rfl rfl rfl (by kernel_rfl) (ACalls.sim ?_)
   refine (CloneX_ok g.inn (by omega) _ _).mono fun v u hv => ?_
   obtain ⟨rfl, rfl⟩ := hv
   refine ⟨_, _, rfl, GOps.sim ?_⟩
   refine GOps.done (hK _ ?_); clear hK K
   refine End.kp [1, 3] ?_
   refine Run.seq ?_
   refine Run.seq ?_
   refine Run.go ?_
   refine End.kp [1, 3, 48, 49, 50] ?_
   refine Run.block ?_
   refine Run.ghost (Ghost.form [(1, .ptr 0 0 0), (3, .ms 0 1 (g.inn.length + 0)), (48, .im (.sl (g.regs.map LReg.im))), (49, .i g.regs.length), (50, .i (0 : Nat))] 2 ⟨rfl, rfl, rfl, rfl, rfl, trivial⟩ rfl rfl) ?_
   refine Run.loop (fun m st => ∃ (i : Nat), m = g.regs.length - i ∧ i ≤ g.regs.length ∧ st = ⟨[(1, .ptr 0 0 0), (3, .ms 0 1 (g.inn.length + i)), (48, .im (.sl (g.regs.map LReg.im))), (49, .i g.regs.length), (50, .i (i : Nat))], [.box [.im (.sl (strs g.inn)), .im (.sl (strs g.out)), .im (.sl (g.regs.map LReg.im)), .im (.sl (g.ands.map nd)), .im (.sl (ints g.outs))], .row 9 1 (strs (gnms g i)) 0], up⟩) g.regs.length ⟨0, rfl, by omega, by simp⟩ fun m st hI => ?_
   obtain ⟨i, rfl, hi, rfl⟩ := hI
   have hsl := gnms_len g i hi
   have hap : (g.inn.length + i + 1) * 16 ≤ 140737488355328 := by omega
   refine Run.seq ?_
   have fx := ai hap (ai hsl (ai d5 (ai d4 (ai d3 (ai d2 (ai d1 (ai ints_len (ai nd_len (ai rim_len (ai strs_len ft))))))))))
   refine Run.go ?_
   refine End.kp [1, 3, 48, 49, 50, 51] ?_
   refine Run.seq ?_
   refine Run.cond _ rfl (fun hb => ?_) (fun hb => ?_)
   ·have hb := of_decide_eq_true hb
    have hin : i < g.regs.length := by omega
    have wi := wsucc hin (by omega)
    obtain ⟨f, hf, hfm, hgt⟩ := reg_at g.regs i hin
    refine Run.skip ?_
    refine End.kp [1, 3, 48, 49, 50] ?_
    refine Run.seq ?_
    refine Run.block ?_
    refine Run.seq ?_
    have fx := ai zTn (ai zNn (ai hgt (ai wi fx)))
    refine Run.go ?_
    refine End.kp [1, 3, 5, 48, 49, 50] ?_
    refine Run.go ?_
    refine End.blk ?_
    refine End.kp [1, 3, 48, 49, 50] ?_
    refine Run.go ?_
    refine End.lp ?_
    refine ⟨g.regs.length - (i + 1), _, by omega, Ghost.form [(1, .ptr 0 0 0), (3, .ms 0 1 (g.inn.length + (i + 1))), (48, .im (.sl (g.regs.map LReg.im))), (49, .i g.regs.length), (50, .i (i + 1 : Nat))] 2 ⟨rfl, rfl, rfl, rfl, rfl, trivial⟩ rfl rfl, i + 1, rfl, by omega, ?_⟩
    rw [gnms_next g i f hf]
    simp
   ·have hb := of_decide_eq_false hb
    have hiN : i = g.regs.length := by omega
    subst hiN
    have hall : gnms g g.regs.length = g.inn ++ g.regs.map LReg.name := by simp [gnms]
    refine Run.exit rfl ?_
    refine End.kp [1, 3] ?_
    refine Run.seq ?_
    refine Run.seq ?_
    refine Run.region rfl fun K hK => GOps.sim ?_
    refine GOps.call rfl rfl rfl rfl (by kernel_rfl) (ACalls.sim ?_)
    refine (Names_ok (gnms g g.regs.length) (by rw [hall]; simp; omega) (by rw [hall]; exact hg.names) (by rw [hall]; exact hg.nodup) _).mono fun v u hv => ?_
    obtain ⟨rfl, rfl⟩ := hv
    refine ⟨_, _, rfl, GOps.sim ?_⟩
    refine GOps.done (hK _ ?_); clear hK K
    refine End.kp [1, 6] ?_
    refine Run.seq ?_
    refine Run.go ?_
    refine End.kp [1, 6, 63] ?_
    refine Run.cond _ rfl (fun hb => ?_) (fun hb => ?_)
    ·have hb := hb
     simp at hb
    ·have hb := hb
     refine Run.skip ?_
     refine End.kp [1] ?_
     refine Run.seq ?_
     refine Run.seq ?_
     have fx := ai hap (ai hsl (ai d5 (ai d4 (ai d3 (ai d2 (ai d1 (ai ints_len (ai nd_len (ai rim_len (ai strs_len ft))))))))))
     refine Run.region rfl fun K hK => GOps.sim ?_
     refine GOps.call rfl rfl rfl rfl (by kernel_rfl) (ACalls.sim ?_)
     refine (Names_ok g.out (by omega) hg.onames hg.onodup _).mono fun v u hv => ?_
     obtain ⟨rfl, rfl⟩ := hv
     refine ⟨_, _, rfl, GOps.sim ?_⟩
     refine GOps.done (hK _ ?_); clear hK K
     refine End.kp [1, 7] ?_
     refine Run.seq ?_
     refine Run.go ?_
     refine End.kp [1, 7, 69] ?_
     refine Run.cond _ rfl (fun hb => ?_) (fun hb => ?_)
     ·have hb := hb
      simp at hb
     ·have hb := hb
      refine Run.skip ?_
      refine End.kp [1] ?_
      refine Run.seq ?_
      have fx := ai hap (ai hsl (ai d5 (ai d4 (ai d3 (ai d2 (ai d1 (ai ints_len (ai nd_len (ai rim_len (ai strs_len ft))))))))))
      refine Run.region rfl fun K hK => GOps.sim ?_
      refine GOps.call rfl rfl rfl rfl (by kernel_rfl) (ACalls.sim ?_)
      refine (GFirst_ok g hsm _).mono fun v u hv => ?_
      obtain ⟨rfl, rfl⟩ := hv
      refine ⟨_, _, rfl, GOps.sim ?_⟩
      refine GOps.done (hK _ ?_); clear hK K
      refine End.kp [1, 8] ?_
      refine Run.seq ?_
      refine Run.seq ?_
      refine Run.go ?_
      refine End.kp [1, 8, 74, 75, 76] ?_
      refine Run.block ?_
      refine Run.ghost (Ghost.form [(1, .ptr 0 0 0), (8, .i (1 + g.inn.length + g.regs.length)), (74, .im (.sl (g.ands.map nd))), (75, .i g.ands.length), (76, .i (0 : Nat))] 1 ⟨rfl, rfl, rfl, rfl, rfl, trivial⟩ rfl rfl) ?_
      refine Run.loop (fun m st => ∃ (i : Nat), m = g.ands.length - i ∧ i ≤ g.ands.length ∧ st = ⟨[(1, .ptr 0 0 0), (8, .i (1 + g.inn.length + g.regs.length)), (74, .im (.sl (g.ands.map nd))), (75, .i g.ands.length), (76, .i (i : Nat))], [.box [.im (.sl (strs g.inn)), .im (.sl (strs g.out)), .im (.sl (g.regs.map LReg.im)), .im (.sl (g.ands.map nd)), .im (.sl (ints g.outs))]], up⟩) g.ands.length ⟨0, rfl, by omega, rfl⟩ fun m st hI => ?_
      obtain ⟨i, rfl, hi, rfl⟩ := hI
      refine Run.seq ?_
      have fx := ai hap (ai hsl (ai d5 (ai d4 (ai d3 (ai d2 (ai d1 (ai ints_len (ai nd_len (ai rim_len (ai strs_len ft))))))))))
      refine Run.go ?_
      refine End.kp [1, 8, 74, 75, 76, 77] ?_
      refine Run.seq ?_
      refine Run.cond _ rfl (fun hb => ?_) (fun hb => ?_)
      ·have hb := of_decide_eq_true hb
       have hin : i < g.ands.length := by omega
       have wi := wsucc hin (by omega)
       obtain ⟨p, hpi, hpm, hp⟩ := node_at g.ands i hin
       obtain ⟨⟨e1, e2⟩, e3, e4⟩ := hg.ands i p hpi
       have wfi : IntKind.i64.wrap (1 + (g.inn.length : Int) + g.regs.length + i) = 1 + (g.inn.length : Int) + g.regs.length + i := wrap64 (by omega)
       refine Run.skip ?_
       refine End.kp [1, 8, 74, 75, 76] ?_
       refine Run.seq ?_
       refine Run.block ?_
       refine Run.seq ?_
       have fx := ai zTn (ai zNn (ai wfi (ai hp (ai wi fx))))
       refine Run.go ?_
       refine End.kp [1, 8, 9, 10, 74, 75, 76] ?_
       refine Run.seq ?_
       refine Run.region rfl fun K hK => GOps.sim ?_
       refine GOps.call rfl rfl rfl rfl (by kernel_rfl) (ACalls.sim ?_)
       refine (before_ok p.1 (1 + g.inn.length + g.regs.length + i) e1 e2 (by omega) _).mono fun v u hv => ?_
       obtain ⟨rfl, rfl⟩ := hv
       refine ⟨_, _, rfl, GOps.sim ?_⟩
       refine GOps.call rfl rfl rfl rfl (by kernel_rfl) (ACalls.sim ?_)
       refine (before_ok p.2 (1 + g.inn.length + g.regs.length + i) e3 e4 (by omega) _).mono fun v u hv => ?_
       obtain ⟨rfl, rfl⟩ := hv
       refine ⟨_, _, rfl, GOps.sim ?_⟩
       refine GOps.done (hK _ ?_); clear hK K
       refine End.kp [1, 8, 74, 75, 76, 96] ?_
       refine Run.cond _ rfl (fun hb => ?_) (fun hb => ?_)
       ·have hb := hb
        simp at hb
       ·have hb := hb
        refine Run.skip ?_
        refine End.blk ?_
        refine End.kp [1, 8, 74, 75, 76] ?_
        have fx := ai zTn (ai zNn (ai wfi (ai hp (ai wi (ai hap (ai hsl (ai d5 (ai d4 (ai d3 (ai d2 (ai d1 (ai ints_len (ai nd_len (ai rim_len (ai strs_len ft)))))))))))))))
        refine Run.go ?_
        refine End.lp ?_
        refine ⟨g.ands.length - (i + 1), _, by omega, Ghost.form [(1, .ptr 0 0 0), (8, .i (1 + g.inn.length + g.regs.length)), (74, .im (.sl (g.ands.map nd))), (75, .i g.ands.length), (76, .i (i + 1 : Nat))] 1 ⟨rfl, rfl, rfl, rfl, rfl, trivial⟩ rfl rfl, i + 1, rfl, by omega, rfl⟩
      ·have hb := of_decide_eq_false hb
       refine Run.exit rfl ?_
       refine End.kp [1, 8] ?_
       refine Run.seq ?_
       have fx := ai wn fx
       refine Run.go ?_
       refine End.kp [1, 8] ?_
       refine Run.seq ?_
       refine Run.seq ?_
       refine Run.go ?_
       refine End.kp [1, 8, 104, 105, 106] ?_
       refine Run.block ?_
       refine Run.ghost (Ghost.form [(1, .ptr 0 0 0), (8, .i (1 + g.inn.length + g.regs.length + g.ands.length)), (104, .im (.sl (g.regs.map LReg.im))), (105, .i g.regs.length), (106, .i (0 : Nat))] 1 ⟨rfl, rfl, rfl, rfl, rfl, trivial⟩ rfl rfl) ?_
       refine Run.loop (fun m st => ∃ (i : Nat), m = g.regs.length - i ∧ i ≤ g.regs.length ∧ st = ⟨[(1, .ptr 0 0 0), (8, .i (1 + g.inn.length + g.regs.length + g.ands.length)), (104, .im (.sl (g.regs.map LReg.im))), (105, .i g.regs.length), (106, .i (i : Nat))], [.box [.im (.sl (strs g.inn)), .im (.sl (strs g.out)), .im (.sl (g.regs.map LReg.im)), .im (.sl (g.ands.map nd)), .im (.sl (ints g.outs))]], up⟩) g.regs.length ⟨0, rfl, by omega, rfl⟩ fun m st hI => ?_
       obtain ⟨i, rfl, hi, rfl⟩ := hI
       refine Run.seq ?_
       refine Run.go ?_
       refine End.kp [1, 8, 104, 105, 106, 107] ?_
       refine Run.seq ?_
       refine Run.cond _ rfl (fun hb => ?_) (fun hb => ?_)
       ·have hb := of_decide_eq_true hb
        have hin : i < g.regs.length := by omega
        have wi := wsucc hin (by omega)
        obtain ⟨f, hf, hfm, hgt⟩ := reg_at g.regs i hin
        obtain ⟨e1, e2⟩ := hg.regs f hfm
        refine Run.skip ?_
        refine End.kp [1, 8, 104, 105, 106] ?_
        refine Run.seq ?_
        refine Run.block ?_
        refine Run.seq ?_
        have fx := ai zTn (ai zNn (ai hgt (ai wi fx)))
        refine Run.go ?_
        refine End.kp [1, 8, 12, 104, 105, 106] ?_
        refine Run.seq ?_
        refine Run.region rfl fun K hK => GOps.sim ?_
        refine GOps.call rfl rfl rfl rfl (by kernel_rfl) (ACalls.sim ?_)
        refine (before_ok f.next (1 + g.inn.length + g.regs.length + g.ands.length) e1 e2 (by omega) _).mono fun v u hv => ?_
        obtain ⟨rfl, rfl⟩ := hv
        refine ⟨_, _, rfl, GOps.sim ?_⟩
        refine GOps.done (hK _ ?_); clear hK K
        refine End.kp [1, 8, 104, 105, 106, 114] ?_
        refine Run.cond _ rfl (fun hb => ?_) (fun hb => ?_)
        ·have hb := hb
         simp at hb
        ·have hb := hb
         refine Run.skip ?_
         refine End.blk ?_
         refine End.kp [1, 8, 104, 105, 106] ?_
         have fx := ai zTn (ai zNn (ai hgt (ai wi (ai wn (ai hap (ai hsl (ai d5 (ai d4 (ai d3 (ai d2 (ai d1 (ai ints_len (ai nd_len (ai rim_len (ai strs_len ft)))))))))))))))
         refine Run.go ?_
         refine End.lp ?_
         refine ⟨g.regs.length - (i + 1), _, by omega, Ghost.form [(1, .ptr 0 0 0), (8, .i (1 + g.inn.length + g.regs.length + g.ands.length)), (104, .im (.sl (g.regs.map LReg.im))), (105, .i g.regs.length), (106, .i (i + 1 : Nat))] 1 ⟨rfl, rfl, rfl, rfl, rfl, trivial⟩ rfl rfl, i + 1, rfl, by omega, rfl⟩
       ·have hb := of_decide_eq_false hb
        refine Run.exit rfl ?_
        refine End.kp [1, 8] ?_
        refine Run.seq ?_
        refine Run.seq ?_
        refine Run.go ?_
        refine End.kp [8, 117, 118, 119] ?_
        refine Run.block ?_
        refine Run.ghost (Ghost.form [(8, .i (1 + g.inn.length + g.regs.length + g.ands.length)), (117, .im (.sl (ints g.outs))), (118, .i g.outs.length), (119, .i (0 : Nat))] 0 ⟨rfl, rfl, rfl, rfl, trivial⟩ rfl rfl) ?_
        refine Run.loop (fun m st => ∃ (i : Nat), m = g.outs.length - i ∧ i ≤ g.outs.length ∧ st = ⟨[(8, .i (1 + g.inn.length + g.regs.length + g.ands.length)), (117, .im (.sl (ints g.outs))), (118, .i g.outs.length), (119, .i (i : Nat))], [], up⟩) g.outs.length ⟨0, rfl, by omega, rfl⟩ fun m st hI => ?_
        obtain ⟨i, rfl, hi, rfl⟩ := hI
        refine Run.seq ?_
        refine Run.go ?_
        refine End.kp [8, 117, 118, 119, 120] ?_
        refine Run.seq ?_
        refine Run.cond _ rfl (fun hb => ?_) (fun hb => ?_)
        ·have hb := of_decide_eq_true hb
         have hin : i < g.outs.length := by omega
         have wi := wsucc hin (by omega)
         obtain ⟨x, _, hxm, hx⟩ := int_at g.outs i hin
         obtain ⟨e1, e2⟩ := hg.outs x hxm
         refine Run.skip ?_
         refine End.kp [8, 117, 118, 119] ?_
         refine Run.seq ?_
         refine Run.block ?_
         refine Run.seq ?_
         have fx := ai zTn (ai zNn (ai hx (ai wi fx)))
         refine Run.go ?_
         refine End.kp [8, 14, 117, 118, 119] ?_
         refine Run.seq ?_
         refine Run.region rfl fun K hK => GOps.sim ?_
         refine GOps.call rfl rfl rfl rfl (by kernel_rfl) (ACalls.sim ?_)
         refine (before_ok x (1 + g.inn.length + g.regs.length + g.ands.length) e1 e2 (by omega) _).mono fun v u hv => ?_
         obtain ⟨rfl, rfl⟩ := hv
         refine ⟨_, _, rfl, GOps.sim ?_⟩
         refine GOps.done (hK _ ?_); clear hK K
         refine End.kp [8, 117, 118, 119, 126] ?_
         refine Run.cond _ rfl (fun hb => ?_) (fun hb => ?_)
         ·have hb := hb
          simp at hb
         ·have hb := hb
          refine Run.skip ?_
          refine End.blk ?_
          refine End.kp [8, 117, 118, 119] ?_
          have fx := ai zTn (ai zNn (ai hx (ai wi (ai wn (ai hap (ai hsl (ai d5 (ai d4 (ai d3 (ai d2 (ai d1 (ai ints_len (ai nd_len (ai rim_len (ai strs_len ft)))))))))))))))
          refine Run.go ?_
          refine End.lp ?_
          refine ⟨g.outs.length - (i + 1), _, by omega, Ghost.form [(8, .i (1 + g.inn.length + g.regs.length + g.ands.length)), (117, .im (.sl (ints g.outs))), (118, .i g.outs.length), (119, .i (i + 1 : Nat))] 0 ⟨rfl, rfl, rfl, rfl, trivial⟩ rfl rfl, i + 1, rfl, by omega, rfl⟩
        ·have hb := of_decide_eq_false hb
         refine Run.exit rfl ?_
         refine End.kp [] ?_
         refine Run.seq ?_
         refine Run.go ?_
         refine End.kp [2] ?_
         refine Run.ret (hQ _ _ ⟨.inr rfl, _, rfl, _, rfl, ?_⟩)
         exact ⟨rfl, rfl⟩
abbrev vnot (x : Int) : Int := bits .xor .u64 (if IntKind.u64.signed = true then -1 else IntKind.u64.max) x
def ofV (v : List Int) (l : Int) : Int := if l % 2 = 1 then vnot (v.getD (l / 2).toNat 0) else v.getD (l / 2).toNat 0
def valsA : List (Int × Int) → List Int → List Int
 | [], v => v
 | p :: ps, v => valsA ps (v ++ [bits .and .u64 (ofV v p.1) (ofV v p.2)])
def graphVals (g : LGraph) (inn st : List Int) : List Int := valsA g.ands ([0] ++ inn ++ st)

set_option maxRecDepth 100000
set_option maxHeartbeats 2000000
abbrev laneB (l : List Int) : List Bool := l.map fun w => bits .and .u64 w 1 == 1
abbrev initG (g : LGraph) : List Bool := g.regs.map LReg.init


def same0 (v v' : List Int) : Prop := v.length = v'.length ∧ ∀ k, bit0 (v.getD k 0) = bit0 (v'.getD k 0)
theorem laneB_bit0 (v : List Int) : laneB v = v.map bit0 := by
 unfold laneB
 exact List.map_congr_left fun x _ => one_iff x
theorem lane_same0 (v : List Int) : same0 v (lanes0 (laneB v)) := by
 refine ⟨by simp, fun k => ?_⟩
 rw [laneB_bit0]
 simp only [List.getD_eq_getElem?_getD, List.getElem?_map]
 cases v[k]? with
 | none => rfl
 | some x => exact (bit0_lane (bit0 x)).symm

set_option maxHeartbeats 2000000

section

abbrev bv (x : Int) : BitVec 64 := BitVec.ofInt 64 x
theorem bv_nat (r : BitVec 64) : bv (r.toNat : Int) = r := by
 apply BitVec.eq_of_toNat_eq
 simp
theorem wrap_nat (r : BitVec 64) : IntKind.u64.wrap (r.toNat : Int) = r.toNat := wrapU (by have := r.isLt; omega)
theorem bits_and (x y : Int) : bits .and .u64 x y = ((bv x &&& bv y).toNat : Int) := wrap_nat _
theorem bits_xor (x y : Int) : bits .xor .u64 x y = ((bv x ^^^ bv y).toNat : Int) := wrap_nat _
theorem bv_and (x y : Int) : bv (bits .and .u64 x y) = bv x &&& bv y := by rw [bits_and, bv_nat]
theorem bv_xor (x y : Int) : bv (bits .xor .u64 x y) = bv x ^^^ bv y := by rw [bits_xor, bv_nat]
theorem bv_vnot (x : Int) : bv (vnot x) = ~~~ bv x := by
 rw [vnot, bv_xor]
 have : bv (if IntKind.u64.signed = true then -1 else IntKind.u64.max) = BitVec.allOnes 64 := by decide
 rw [this]
 apply BitVec.eq_of_getLsbD_eq
 intro i hi
 simp only [BitVec.getLsbD_xor, BitVec.getLsbD_allOnes, BitVec.getLsbD_not, hi, decide_true, Bool.true_and, Bool.true_xor]
def litB (v : List Int) (l : Int) : BitVec 64 := if l % 2 = 1 then ~~~ bv (v.getD (l / 2).toNat 0) else bv (v.getD (l / 2).toNat 0)
theorem bv_of (v : List Int) (l : Int) : bv (ofV v l) = litB v l := by
 unfold ofV litB
 split
 ·exact bv_vnot _
 ·rfl
theorem valsA_pre : ∀ (ps : List (Int × Int)) (v : List Int) (k : Nat), k < v.length → (valsA ps v).getD k 0 = v.getD k 0
 | [], v, k, h => rfl
 | p :: ps, v, k, h => by
  rw [valsA, valsA_pre ps _ k (by simp; omega)]
  simp [List.getElem?_append_left h]
theorem valsA_litB (ps : List (Int × Int)) (v : List Int) (l : Int) (h0 : 0 ≤ l) (h : l < 2 * (v.length : Int)) : litB (valsA ps v) l = litB v l := by
 unfold litB
 rw [valsA_pre ps v (l / 2).toNat (by omega)]
theorem valsA_node : ∀ (ps : List (Int × Int)) (v : List Int) (i : Nat) (p : Int × Int), ps[i]? = some p → (∀ (i : Nat) (p : Int × Int), ps[i]? = some p → (0 ≤ p.1 ∧ p.1 < 2 * ((v.length : Int) + i)) ∧ 0 ≤ p.2 ∧ p.2 < 2 * ((v.length : Int) + i)) →
  bv ((valsA ps v).getD (v.length + i) 0) = litB (valsA ps v) p.1 &&& litB (valsA ps v) p.2
 | [], v, i, p, h, _ => by simp at h
 | q :: qs, v, 0, p, h, hr => by
  simp at h
  subst h
  obtain ⟨⟨a1, a2⟩, a3, a4⟩ := hr 0 q rfl
  rw [valsA]
  have hl : (v ++ [bits .and .u64 (ofV v q.1) (ofV v q.2)]).length = v.length + 1 := by simp
  rw [valsA_pre qs _ _ (by omega), valsA_litB qs _ q.1 a1 (by rw [hl]; omega), valsA_litB qs _ q.2 a3 (by rw [hl]; omega)]
  have e : ∀ l : Int, 0 ≤ l → l < 2 * (v.length : Int) → litB (v ++ [bits .and .u64 (ofV v q.1) (ofV v q.2)]) l = litB v l := fun l h1 h2 => by
   unfold litB
   have : (v ++ [bits .and .u64 (ofV v q.1) (ofV v q.2)]).getD (l / 2).toNat 0 = v.getD (l / 2).toNat 0 := by
    simp only [List.getD_eq_getElem?_getD]
    rw [List.getElem?_append_left (by omega)]
   rw [this]
  rw [e q.1 a1 (by omega), e q.2 a3 (by omega)]
  simp [bv_and, bv_of]
 | q :: qs, v, i + 1, p, h, hr => by
  rw [valsA]
  have hl : (v ++ [bits .and .u64 (ofV v q.1) (ofV v q.2)]).length = v.length + 1 := by simp
  have := valsA_node qs (v ++ [bits .and .u64 (ofV v q.1) (ofV v q.2)]) i p (by simpa using h) (fun j p' hp' => by
   have := hr (j + 1) p' (by simpa using hp')
   rw [hl]
   omega)
  rw [hl] at this
  rw [show v.length + (i + 1) = v.length + 1 + i by omega]
  exact this
section
variable {g : LGraph} (hg : GraphOk g) {inn st : List Int} (h1 : inn.length = g.inn.length) (h2 : st.length = g.regs.length)
include hg h1 h2
theorem g_and (i : Nat) (p : Int × Int) (hp : g.ands[i]? = some p) : litB (graphVals g inn st) (2 * (1 + (g.inn.length : Int) + g.regs.length + i)) = litB (graphVals g inn st) p.1 &&& litB (graphVals g inn st) p.2 := by
 have hl : ([0] ++ inn ++ st).length = 1 + g.inn.length + g.regs.length := by simp; omega
 have := valsA_node g.ands ([0] ++ inn ++ st) i p hp (fun j q hq => by
  have := hg.ands j q hq
  rw [hl]
  omega)
 rw [hl] at this
 rw [graphVals, litB, if_neg (by omega)]
 have e : (2 * (1 + (g.inn.length : Int) + g.regs.length + i) / 2).toNat = 1 + g.inn.length + g.regs.length + i := by omega
 rw [e]
 exact this
end

end


set_option maxRecDepth 100000
set_option maxHeartbeats 4000000
structure LMk where
 inn : List ByteArray
 regs : List LReg
 ands : List (Int × Int)
 bad : Int
abbrev LMk.first (m : LMk) : Int := 1 + m.inn.length + m.regs.length
structure MkSmall (m : LMk) : Prop where
 inn : m.inn.length ≤ 200
 regs : m.regs.length ≤ 300
 ands : m.ands.length ≤ 4000

set_option maxRecDepth 100000
set_option maxHeartbeats 4000000

set_option maxRecDepth 100000
set_option maxHeartbeats 4000000
def ToOk (to : List Int) : Prop := ∀ x ∈ to, 0 ≤ x ∧ x ≤ 1000000
theorem ToOk.get {to : List Int} (h : ToOk to) (k : Nat) : 0 ≤ to.getD k 0 ∧ to.getD k 0 ≤ 1000000 := by
 rw [List.getD_eq_getElem?_getD]
 cases hk : to[k]? with
 | none => simp
 | some x => exact h x (List.mem_of_getElem? hk)
theorem GNodes_ok (g : LGraph) (hg : GSmall g) (up : Frs) : ACalls Try.prog 17 [g.pv] up fun v u => v = .i (1 + g.inn.length + g.regs.length + g.ands.length) ∧ u = up := by
 have hg2 := hg
 obtain ⟨z1, z2, z3, z4, z5⟩ := hg
 have w1 : IntKind.i64.wrap (1 + (g.inn.length : Int) + g.regs.length + g.ands.length) = 1 + (g.inn.length : Int) + g.regs.length + g.ands.length := wrap64 (by omega)
 refine ACalls.code Try.func17 rfl 9 rfl (by simp) [.tmp 2] rfl fun Q hQ => ?_
 simp only [ups, PV.up, argEnv]
 have ft := ai ty_3 (ai ty_28 (ai ty_31 (ai ty_59 trivial)))
 refine Run.seq ?_
 have fx := ai w1 (ai nd_len ft)
 refine Run.go ?_
 refine End.kp [1] ?_
 refine Run.seq ?_
 refine Run.drawA fun K hK => ?_
 refine DOps.sim ?_
 refine DOps.call (.i (1 + (g.inn.length : Int) + g.regs.length)) [] [] rfl rfl rfl rfl (by kernel_rfl) (by simp [Agree]) (fun u hu => GFirst_ok g hg2 u) ?_
 refine DOps.sim ?_
 refine DOps.nil (metAll_quiet rfl) (hK _ ?_); clear hK K
 refine End.kp [2] ?_
 refine Run.ret (hQ _ _ ⟨.inr rfl, _, rfl, _, rfl, ?_⟩)
 exact ⟨rfl, rfl⟩

set_option maxHeartbeats 4000000

set_option maxHeartbeats 4000000

set_option maxHeartbeats 4000000

set_option maxHeartbeats 4000000

set_option maxHeartbeats 4000000

set_option maxHeartbeats 4000000

set_option maxRecDepth 100000
set_option maxHeartbeats 4000000
abbrev LMk.top (m : LMk) : Int := 2 * (m.first + m.ands.length)
abbrev InM (m : LMk) (a : Int) : Prop := 0 ≤ a ∧ a < m.top
structure AfterM (m m' : LMk) (n : Nat) : Prop where
 inn : m'.inn = m.inn
 regs : m'.regs = m.regs
 less : m.ands.length ≤ m'.ands.length
 most : m'.ands.length ≤ m.ands.length + n
theorem AfterM.first {m m' : LMk} {n : Nat} (h : AfterM m m' n) : m'.first = m.first := by rw [LMk.first, LMk.first, h.inn, h.regs]
theorem AfterM.small {m m' : LMk} {n : Nat} (h : AfterM m m' n) (hm : MkSmall m) (hn : m.ands.length + n ≤ 4000) : MkSmall m' := ⟨by rw [h.inn]; exact hm.inn, by rw [h.regs]; exact hm.regs, by have := h.most; omega⟩
theorem AfterM.up {m m' : LMk} {n : Nat} (h : AfterM m m' n) {a : Int} (ha : InM m a) : InM m' a := by
 have := h.first
 have := h.less
 unfold InM LMk.top at *
 omega
theorem AfterM.trans {m m' m2 : LMk} {n k : Nat} (h : AfterM m m' n) (h' : AfterM m' m2 k) : AfterM m m2 (n + k) := ⟨by rw [h'.inn, h.inn], by rw [h'.regs, h.regs], by have := h.less; have := h'.less; omega, by have := h.most; have := h'.most; omega⟩
theorem AfterM.refl (m : LMk) (n : Nat) : AfterM m m n := ⟨rfl, rfl, Nat.le_refl _, by omega⟩

set_option maxHeartbeats 4000000

set_option maxHeartbeats 4000000
theorem AfterM.more {m m' : LMk} {n k : Nat} (h : AfterM m m' n) (hk : n ≤ k) : AfterM m m' k := ⟨h.inn, h.regs, h.less, by have := h.most; omega⟩

set_option maxRecDepth 100000
set_option maxHeartbeats 4000000

set_option maxHeartbeats 4000000

set_option maxHeartbeats 4000000

section

def lb (v : List Int) (l : Int) : Bool := bit0 (ofV v l)
theorem lb_litB (v : List Int) (l : Int) : lb v l = (litB v l).getLsbD 0 := by
 rw [← bv_of]; rfl
theorem lb_def (v : List Int) (l : Int) : lb v l = if l % 2 = 1 then !bit0 (v.getD (l / 2).toNat 0) else bit0 (v.getD (l / 2).toNat 0) := by
 unfold lb ofV
 split
 ·rw [vnot, bit0_not]
 ·rfl
theorem lb_even (v : List Int) (k : Nat) : lb v (2 * (k : Int)) = bit0 (v.getD k 0) := by
 rw [lb_def, if_neg (by omega), show (2 * (k : Int) / 2).toNat = k by omega]
theorem node_lb {g : LGraph} (hg : GraphOk g) {inn st : List Int} (h1 : inn.length = g.inn.length) (h2 : st.length = g.regs.length) (i : Nat) (p : Int × Int) (hp : g.ands[i]? = some p) : bit0 ((graphVals g inn st).getD (1 + g.inn.length + g.regs.length + i) 0) = (lb (graphVals g inn st) p.1 && lb (graphVals g inn st) p.2) := by
 have h := g_and hg h1 h2 i p hp
 rw [← lb_even, show (2 * ((1 + g.inn.length + g.regs.length + i : Nat) : Int)) = 2 * (1 + (g.inn.length : Int) + g.regs.length + i) by omega, lb_litB, h, lb_litB, lb_litB]
 simp
section
variable {g : LGraph} (hg : GraphOk g)
include hg
end

section
variable {g : LGraph} (hg : GraphOk g) {inn st : List Int} (h1 : inn.length = g.inn.length) (h2 : st.length = g.regs.length)
include hg h1 h2
end


section
variable {g : LGraph} {inn st : List Int} (h1 : inn.length = g.inn.length) (h2 : st.length = g.regs.length)
include h1 h2
end


abbrev vl (base : List Int) (m : LMk) (l : Int) : Bool := lb (valsA m.ands base) l
section
variable {g : LGraph} {inn st : List Int} (h1 : inn.length = g.inn.length) (h2 : st.length = g.regs.length)
include h1 h2
end
section
variable {g : LGraph} {inn st : List Int} (h1 : inn.length = g.inn.length) (h2 : st.length = g.regs.length)
include h1 h2
end

end
def lbit (b : Nat → Bool) (l : Int) : Bool := if l % 2 = 1 then !b (l / 2).toNat else b (l / 2).toNat
theorem lb_lbit (v : List Int) (l : Int) : lb v l = lbit (fun k => bit0 (v.getD k 0)) l := lb_def v l
theorem lbit_congr {b b' : Nat → Bool} {n : Nat} (h : ∀ k, k < n → b k = b' k) (l : Int) (l0 : 0 ≤ l) (l1 : l < 2 * (n : Int)) : lbit b l = lbit b' l := by
 unfold lbit
 rw [h _ (by omega)]
structure Sat (g : LGraph) (r s : List Bool) (b : Nat → Bool) : Prop where
 zero : b 0 = false
 inn : ∀ i, i < g.inn.length → b (1 + i) = r.getD i false
 regs : ∀ k, k < g.regs.length → b (1 + g.inn.length + k) = s.getD k false
 ands : ∀ (j : Nat) (p : Int × Int), g.ands[j]? = some p → b (1 + g.inn.length + g.regs.length + j) = (lbit b p.1 && lbit b p.2)
theorem sat_uniq {g : LGraph} (hg : GraphOk g) {r s : List Bool} {b b' : Nat → Bool} (h : Sat g r s b) (h' : Sat g r s b') : ∀ k, k < 1 + g.inn.length + g.regs.length + g.ands.length → b k = b' k := by
 intro k
 induction k using Nat.strongRecOn with
 | _ k ih =>
  intro hk
  by_cases c0 : k = 0
  ·subst c0
   rw [h.zero, h'.zero]
  by_cases c1 : k < 1 + g.inn.length
  ·obtain ⟨i, rfl⟩ : ∃ i, k = 1 + i := ⟨k - 1, by omega⟩
   rw [h.inn i (by omega), h'.inn i (by omega)]
  by_cases c2 : k < 1 + g.inn.length + g.regs.length
  ·obtain ⟨i, rfl⟩ : ∃ i, k = 1 + g.inn.length + i := ⟨k - (1 + g.inn.length), by omega⟩
   rw [h.regs i (by omega), h'.regs i (by omega)]
  ·obtain ⟨j, rfl⟩ : ∃ j, k = 1 + g.inn.length + g.regs.length + j := ⟨k - (1 + g.inn.length + g.regs.length), by omega⟩
   obtain ⟨p, hp, _, _⟩ := node_at g.ands j (by omega)
   obtain ⟨⟨p0, p1⟩, p2, p3⟩ := hg.ands j p hp
   rw [h.ands j p hp, h'.ands j p hp, lbit_congr (n := 1 + g.inn.length + g.regs.length + j) (fun q hq => ih q hq (by omega)) p.1 p0 (by omega), lbit_congr (n := 1 + g.inn.length + g.regs.length + j) (fun q hq => ih q hq (by omega)) p.2 p2 (by omega)]
abbrev bitsG (g : LGraph) (r s : List Bool) : Nat → Bool := fun k => bit0 ((graphVals g (lanes0 r) (lanes0 s)).getD k 0)
theorem sat_bits {g : LGraph} (hg : GraphOk g) {r s : List Bool} (h1 : r.length = g.inn.length) (h2 : s.length = g.regs.length) : Sat g r s (bitsG g r s) := by
 have hb : ([0] ++ lanes0 r ++ lanes0 s).length = 1 + g.inn.length + g.regs.length := by simp; omega
 have pre : ∀ k, k < 1 + g.inn.length + g.regs.length → bitsG g r s k = bit0 (([0] ++ lanes0 r ++ lanes0 s).getD k 0) := fun k hk => by
  show bit0 ((graphVals g (lanes0 r) (lanes0 s)).getD k 0) = _
  rw [graphVals, valsA_pre _ _ _ (by omega)]
 have lane : ∀ (t : List Bool) i, bit0 ((lanes0 t).getD i 0) = t.getD i false := fun t i => by
  have h := (lane_same0 (lanes0 t)).2 i
  simp only [List.getD_eq_getElem?_getD, List.getElem?_map]
  cases t[i]? with
  | none => rfl
  | some x => cases x <;> rfl
 refine ⟨?_, fun i hi => ?_, fun k hk => ?_, fun j p hp => ?_⟩
 ·rw [pre 0 (by omega)]
  show bit0 0 = false
  decide
 ·rw [pre _ (by omega), ← lane r i]
  congr 1
  simp only [List.getD_eq_getElem?_getD]
  rw [List.append_assoc, List.getElem?_append_right (by simp), List.getElem?_append_left (by simp; omega)]
  simp
 ·rw [pre _ (by omega), ← lane s k]
  congr 1
  simp only [List.getD_eq_getElem?_getD]
  rw [List.getElem?_append_right (by simp; omega)]
  simp only [List.length_append, List.length_cons, List.length_nil, List.length_map]
  rw [show 1 + g.inn.length + k - (0 + 1 + r.length) = k by omega]
 ·have := node_lb hg (inn := lanes0 r) (st := lanes0 s) (by simp [h1]) (by simp [h2]) j p hp
  rw [← lb_lbit, ← lb_lbit]
  exact this

section
def atL (l : Int) : Nat := (if l < 0 then -2 * l + 1 else 2 * l).toNat
structure Sol where
 n : Nat
 cl : List (List Int)
 wl : List (List Nat)
 val : List Int
 lev : List Nat
 why : List Int
 tr : List Int
 st : List Nat
 head : Nat
 next : Nat
namespace Sol
def is (S : Sol) (l : Int) : Int := if l < 0 then -(S.val.getD l.natAbs 0) else S.val.getD l.natAbs 0
def sgn (l : Int) : Int := if l < 0 then -1 else 1
def set (S : Sol) (l w : Int) : Sol := { S with val := S.val.set l.natAbs (sgn l), lev := S.lev.set l.natAbs S.st.length, why := S.why.set l.natAbs w, tr := S.tr ++ [l] }
def push (wl : List (List Nat)) (i k : Nat) : List (List Nat) := wl.set i (wl.getD i [] ++ [k])
def add (S : Sol) (c : List Int) : Sol := { S with cl := S.cl ++ [c], wl := push (push S.wl (atL (c.getD 0 0)) S.cl.length) (atL (c.getD 1 0)) S.cl.length }
end Sol
def LitOk (n : Nat) (l : Int) : Prop := l ≠ 0 ∧ l.natAbs ≤ n
structure SLen (S : Sol) : Prop where
 n : S.n ≤ 20000
 val : S.val.length = S.n + 1
 lev : S.lev.length = S.n + 1
 why : S.why.length = S.n + 1
 wl : S.wl.length = 2 * S.n + 2
 tri : ∀ x ∈ S.val, -1 ≤ x ∧ x ≤ 1
 tr : ∀ l ∈ S.tr, LitOk S.n l
 trn : S.tr.length ≤ S.n
 stn : S.st.length ≤ S.n
theorem atL_lt {n : Nat} {l : Int} (h : LitOk n l) : atL l < 2 * n + 2 := by
 have := h.2
 unfold atL
 split <;> omega
theorem atL_cast {n : Nat} {l : Int} (h : LitOk n l) : ((atL l : Nat) : Int) = if l < 0 then -2 * l + 1 else 2 * l := by
 unfold atL
 have := h.2
 split <;> omega
theorem gtD_mem {α : Type} {l : List α} {i : Nat} {d : α} (h : i < l.length) : l.getD i d ∈ l := by
 rw [List.getD_eq_getElem?_getD, List.getElem?_eq_getElem h]
 exact List.getElem_mem h
theorem getD_some {α : Type} {l : List α} {i : Nat} (d : α) (h : i < l.length) : l[i]? = some (l.getD i d) := by
 rw [List.getD_eq_getElem?_getD, List.getElem?_eq_getElem h]
 rfl

end
section
namespace Sol
def swapAt (c : List Int) (i j : Nat) : List Int := (c.set i (c.getD j 0)).set j (c.getD i 0)
def scan (S : Sol) (c : List Int) (j : Nat) : Nat := if h : j < c.length ∧ S.is (c.getD j 0) = -1 then scan S c (j + 1) else j
termination_by c.length - j
def turn (l : Int) (c : List Int) : List Int := if c.getD 0 0 = l then swapAt c 0 1 else c
def putC (S : Sol) (k : Nat) (c : List Int) : Sol := { S with cl := S.cl.set k c }
def visit (l : Int) (S : Sol) (kept : List Nat) (k : Nat) : Sol × List Nat × Bool :=
 let c := turn l (S.cl.getD k [])
 if S.is (c.getD 0 0) = 1 then (putC S k c, kept ++ [k], false)
 else
  let j := scan S c 2
  if j < c.length then
   let c' := swapAt c 1 j
   ({ putC S k c' with wl := push S.wl (atL (c'.getD 1 0)) k }, kept, false)
  else if S.is (c.getD 0 0) = -1 then (putC S k c, kept ++ [k], true)
  else ((putC S k c).set (c.getD 0 0) k, kept ++ [k], false)
def putW (S : Sol) (i : Nat) (ks : List Nat) : Sol := { S with wl := S.wl.set i ks }
def inner (l : Int) : List Nat → Sol → List Nat → Sol × Option Nat
 | [], S, kept => (putW S (atL l) kept, none)
 | k :: ks, S, kept => match visit l S kept k with
  | (S', kept', true) => (putW S' (atL l) (kept' ++ ks), some k)
  | (S', kept', false) => inner l ks S' kept'
def spread : Nat → Sol → Sol × Option Nat
 | 0, S => (S, none)
 | f + 1, S => if S.head < S.tr.length then
   (match inner (-(S.tr.getD S.head 0)) (S.wl.getD (atL (-(S.tr.getD S.head 0))) []) { S with head := S.head + 1 } [] with
    | (S', some k) => (S', some k)
    | (S', none) => spread f S')
  else (S, none)
end Sol
theorem nodup_len : ∀ (n : Nat) (l : List Nat), l.Nodup → (∀ x ∈ l, 1 ≤ x ∧ x ≤ n) → l.length ≤ n
 | 0, l, _, h => by
  cases l with
  | nil => simp
  | cons x xs => have := h x (by simp); omega
 | n + 1, l, hn, h => by
  by_cases hm : n + 1 ∈ l
  ·have h1 := nodup_len n (l.erase (n + 1)) (hn.erase _) (fun x hx => by
    have hx2 := (List.Nodup.mem_erase_iff hn).1 hx
    have := h x hx2.2
    omega)
   rw [List.length_erase_of_mem hm] at h1
   omega
  ·have := nodup_len n l hn (fun x hx => by
    have h2 := h x hx
    have : x ≠ n + 1 := fun e => hm (e ▸ hx)
    omega)
   omega
structure SW (S : Sol) (B : Nat) : Prop where
 len : SLen S
 cls : ∀ c ∈ S.cl, 2 ≤ c.length ∧ c.length ≤ 100000 ∧ ∀ l ∈ c, LitOk S.n l
 csz : S.cl.length ≤ 1000000
 wls : ∀ ks ∈ S.wl, ∀ k ∈ ks, k < S.cl.length
 asg : ∀ l ∈ S.tr, S.is l = 1
 nd : (S.tr.map Int.natAbs).Nodup
 tot : (S.wl.map List.length).sum ≤ B
 hd : S.head ≤ S.tr.length
theorem sum_le_mem {l : List Nat} {x : Nat} (h : x ∈ l) : x ≤ l.sum := by
 induction l with
 | nil => simp at h
 | cons y ys ih =>
  rcases List.mem_cons.1 h with rfl | h
  ·simp
  ·have := ih h
   simp
   omega
theorem sum_set {l : List Nat} {i x : Nat} (h : i < l.length) : (l.set i x).sum + l[i] = l.sum + x := by
 induction l generalizing i with
 | nil => simp at h
 | cons y ys ih =>
  cases i with
  | zero => simp; omega
  | succ i =>
   have := ih (i := i) (by simpa using h)
   simp only [List.set_cons_succ, List.sum_cons, List.getElem_cons_succ]
   omega
theorem SW.list {S : Sol} {B : Nat} (h : SW S B) {i : Nat} (hi : i < 2 * S.n + 2) : (S.wl.getD i []).length ≤ B ∧ ∀ k ∈ S.wl.getD i [], k < S.cl.length := by
 have hm := gtD_mem (l := S.wl) (i := i) (d := []) (by rw [h.len.wl]; exact hi)
 exact ⟨Nat.le_trans (sum_le_mem (List.mem_map_of_mem hm)) h.tot, h.wls _ hm⟩
theorem SW.cl {S : Sol} {B : Nat} (h : SW S B) {k : Nat} (hk : k < S.cl.length) : 2 ≤ (S.cl.getD k []).length ∧ (S.cl.getD k []).length ≤ 100000 ∧ ∀ l ∈ S.cl.getD k [], LitOk S.n l := h.cls _ (gtD_mem hk)
theorem swapAt_len (c : List Int) (i j : Nat) : (Sol.swapAt c i j).length = c.length := by simp [Sol.swapAt]
theorem swapAt_mem {c : List Int} {i j : Nat} (hi : i < c.length) (hj : j < c.length) : ∀ l ∈ Sol.swapAt c i j, l ∈ c := fun l hl => by
 unfold Sol.swapAt at hl
 rcases List.mem_or_eq_of_mem_set hl with h | rfl
 ·rcases List.mem_or_eq_of_mem_set h with h | rfl
  ·exact h
  ·exact gtD_mem hj
 ·exact gtD_mem hi
theorem turn_len (l : Int) (c : List Int) : (Sol.turn l c).length = c.length := by unfold Sol.turn; split <;> simp [swapAt_len]
theorem turn_mem {l : Int} {c : List Int} (h : 2 ≤ c.length) : ∀ x ∈ Sol.turn l c, x ∈ c := fun x hx => by
 unfold Sol.turn at hx
 split at hx
 ·exact swapAt_mem (by omega) (by omega) x hx
 ·exact hx
theorem SW.putC {S : Sol} {B : Nat} (h : SW S B) {k : Nat} {c : List Int} (hc : 2 ≤ c.length ∧ c.length ≤ 100000 ∧ ∀ l ∈ c, LitOk S.n l) : SW (S.putC k c) B := by
 refine ⟨⟨h.len.n, h.len.val, h.len.lev, h.len.why, h.len.wl, h.len.tri, h.len.tr, h.len.trn, h.len.stn⟩, fun x hx => ?_, by simpa [Sol.putC] using h.csz, fun ks hks k' hk' => by simpa [Sol.putC] using h.wls ks hks k' hk', h.asg, h.nd, h.tot, h.hd⟩
 rcases List.mem_or_eq_of_mem_set (show x ∈ S.cl.set k c from hx) with h1 | rfl
 ·exact h.cls x h1
 ·exact hc
theorem sgn_ne (l : Int) : Sol.sgn l ≠ 0 := by unfold Sol.sgn; split <;> simp
theorem getD_set {α : Type} (l : List α) (i j : Nat) (x d : α) (h : i < l.length) : (l.set i x).getD j d = if j = i then x else l.getD j d := by
 simp only [List.getD_eq_getElem?_getD, List.getElem?_set]
 by_cases e : i = j
 ·subst e; simp [h]
 ·rw [if_neg e, if_neg (fun h => e h.symm)]
theorem is_set_same {S : Sol} {l w : Int} (h : l.natAbs < S.val.length) (h0 : l ≠ 0) : (S.set l w).is l = 1 := by
 simp only [Sol.is, Sol.set, getD_set _ _ _ _ _ h, if_true, Sol.sgn]
 split <;> omega
theorem is_set_ne {S : Sol} {l w x : Int} (h : l.natAbs < S.val.length) (h0 : x.natAbs ≠ l.natAbs) : (S.set l w).is x = S.is x := by
 simp only [Sol.is, Sol.set, getD_set _ _ _ _ _ h, if_neg h0]
theorem SW.set {S : Sol} {B : Nat} (h : SW S B) {l : Int} (w : Int) (hl : LitOk S.n l) (hu : S.val.getD l.natAbs 0 = 0) : SW (S.set l w) B := by
 have hn := h.len
 have hnew : l.natAbs ∉ S.tr.map Int.natAbs := fun hm => by
  obtain ⟨x, hx, e⟩ := List.mem_map.1 hm
  have := h.asg x hx
  unfold Sol.is at this
  rw [e, hu] at this
  split at this <;> omega
 have hlt : l.natAbs < S.val.length := by rw [hn.val]; have := hl.2; omega
 have hnd : ((S.tr ++ [l]).map Int.natAbs).Nodup := by
  rw [List.map_append, List.nodup_append]
  refine ⟨h.nd, by simp, fun a ha b hb e => hnew ?_⟩
  simp only [List.map_cons, List.map_nil, List.mem_singleton] at hb
  rw [← hb, ← e]
  exact ha
 have htr : ∀ x ∈ S.tr ++ [l], LitOk S.n x := fun x hx => by
  rcases List.mem_append.1 hx with h1 | h1
  ·exact hn.tr x h1
  ·rw [List.mem_singleton.1 h1]; exact hl
 have htl : (S.tr ++ [l]).length ≤ S.n := by
  have := nodup_len S.n _ hnd (fun x hx => by
   obtain ⟨y, hy, rfl⟩ := List.mem_map.1 hx
   have := htr y hy
   unfold LitOk at this
   omega)
  simpa using this
 refine ⟨⟨hn.n, by simpa [Sol.set] using hn.val, by simpa [Sol.set] using hn.lev, by simpa [Sol.set] using hn.why, hn.wl, fun x hx => ?_, htr, htl, hn.stn⟩, h.cls, h.csz, h.wls, fun x hx => ?_, hnd, h.tot, by have := h.hd; simp only [Sol.set, List.length_append]; omega⟩
 ·rcases List.mem_or_eq_of_mem_set (show x ∈ S.val.set l.natAbs (Sol.sgn l) from hx) with h1 | rfl
  ·exact hn.tri x h1
  ·unfold Sol.sgn; split <;> omega
 ·rcases List.mem_append.1 (show x ∈ S.tr ++ [l] from hx) with h1 | h1
  ·rw [is_set_ne hlt (fun e => hnew (List.mem_map.2 ⟨x, h1, e⟩))]
   exact h.asg x h1
  ·rw [List.mem_singleton.1 h1]
   exact is_set_same hlt hl.1
theorem SW.push {S : Sol} {B : Nat} (h : SW S B) {i k : Nat} (hi : i < 2 * S.n + 2) (hk : k < S.cl.length) : SW { S with wl := Sol.push S.wl i k } (B + 1) := by
 have hn := h.len
 have hlt : i < S.wl.length := by rw [hn.wl]; exact hi
 refine ⟨⟨hn.n, hn.val, hn.lev, hn.why, by simp [Sol.push]; exact hn.wl, hn.tri, hn.tr, hn.trn, hn.stn⟩, h.cls, h.csz, fun ks hks k' hk' => ?_, h.asg, h.nd, ?_, h.hd⟩
 ·rcases List.mem_or_eq_of_mem_set (show ks ∈ S.wl.set i _ from hks) with h1 | rfl
  ·exact h.wls ks h1 k' hk'
  ·rcases List.mem_append.1 hk' with h1 | h1
   ·exact (h.list hi).2 k' h1
   ·rw [List.mem_singleton.1 h1]; exact hk
 ·have := sum_set (l := S.wl.map List.length) (i := i) (x := (S.wl.getD i []).length + 1) (by simpa using hlt)
  simp only [List.getElem_map] at this
  have e : (Sol.push S.wl i k).map List.length = (S.wl.map List.length).set i ((S.wl.getD i []).length + 1) := by simp [Sol.push, List.map_set]
  have e2 : S.wl.getD i [] = S.wl[i] := by rw [List.getD_eq_getElem?_getD, List.getElem?_eq_getElem hlt]; rfl
  rw [e]
  rw [e2] at this ⊢
  have := h.tot
  omega
theorem is_zero {S : Sol} {l : Int} (h : S.is l = 0) : S.val.getD l.natAbs 0 = 0 := by
 unfold Sol.is at h
 split at h <;> omega
theorem is_cases {S : Sol} (h : SLen S) {l : Int} (hl : LitOk S.n l) : S.is l = 1 ∨ S.is l = -1 ∨ S.is l = 0 := by
 have := h.tri _ (gtD_mem (l := S.val) (i := l.natAbs) (d := 0) (by rw [h.val]; have := hl.2; omega))
 unfold Sol.is
 split <;> omega
theorem visit_sw {S : Sol} {B : Nat} (h : SW S B) {l : Int} {kept : List Nat} {k : Nat} (hk : k < S.cl.length) : SW (Sol.visit l S kept k).1 (B + 1) ∧ (Sol.visit l S kept k).1.n = S.n ∧ (Sol.visit l S kept k).1.cl.length = S.cl.length ∧ (Sol.visit l S kept k).1.st = S.st ∧ (Sol.visit l S kept k).1.head = S.head := by
 obtain ⟨c1, c2, c3⟩ := h.cl hk
 have t1 : 2 ≤ (Sol.turn l (S.cl.getD k [])).length ∧ (Sol.turn l (S.cl.getD k [])).length ≤ 100000 ∧ ∀ x ∈ Sol.turn l (S.cl.getD k []), LitOk S.n x := by
  rw [turn_len]
  exact ⟨c1, c2, fun x hx => c3 x (turn_mem c1 x hx)⟩
 have up : ∀ {S' : Sol}, SW S' B → SW S' (B + 1) := fun h => ⟨h.len, h.cls, h.csz, h.wls, h.asg, h.nd, Nat.le_trans h.tot (by omega), h.hd⟩
 unfold Sol.visit
 simp only
 generalize Sol.turn l (S.cl.getD k []) = c at t1
 have l0 : LitOk S.n (c.getD 0 0) := t1.2.2 _ (gtD_mem (by omega))
 split
 ·exact ⟨up (h.putC t1), rfl, by simp [Sol.putC], rfl, rfl⟩
 ·rename_i hn1
  split
  ·rename_i hj
   have s1 : 2 ≤ (Sol.swapAt c 1 (S.scan c 2)).length ∧ (Sol.swapAt c 1 (S.scan c 2)).length ≤ 100000 ∧ ∀ x ∈ Sol.swapAt c 1 (S.scan c 2), LitOk S.n x := by
    rw [swapAt_len]
    exact ⟨t1.1, t1.2.1, fun x hx => t1.2.2 x (swapAt_mem (by omega) hj x hx)⟩
   have hp := h.putC (k := k) s1
   exact ⟨SW.push (S := S.putC k (Sol.swapAt c 1 (S.scan c 2))) hp (atL_lt (s1.2.2 _ (gtD_mem (by omega)))) (by simp [Sol.putC]; exact hk), rfl, by simp [Sol.putC], rfl, rfl⟩
  ·split
   ·exact ⟨up (h.putC t1), rfl, by simp [Sol.putC], rfl, rfl⟩
   ·rename_i hn2
    have h0 : S.is (c.getD 0 0) = 0 := by
     rcases is_cases h.len l0 with e | e | e
     ·exact absurd e hn1
     ·exact absurd e hn2
     ·exact e
    exact ⟨up ((h.putC t1).set (S := S.putC k c) _ l0 (is_zero h0)), rfl, by simp [Sol.putC, Sol.set], rfl, rfl⟩
theorem drop_gtD {α : Type} {l : List α} {i : Nat} (d : α) (h : i < l.length) : l.drop i = l.getD i d :: l.drop (i + 1) := by
 rw [List.drop_eq_getElem_cons h, List.getD_eq_getElem?_getD, List.getElem?_eq_getElem h]
 rfl
theorem inner_ok {l : Int} {k : Nat} {ks kept kept' : List Nat} {S S' : Sol} (h : Sol.visit l S kept k = (S', kept', false)) : Sol.inner l (k :: ks) S kept = Sol.inner l ks S' kept' := by rw [Sol.inner, h]
theorem inner_bad {l : Int} {k : Nat} {ks kept kept' : List Nat} {S S' : Sol} (h : Sol.visit l S kept k = (S', kept', true)) : Sol.inner l (k :: ks) S kept = (Sol.putW S' (atL l) (kept' ++ ks), some k) := by rw [Sol.inner, h]
theorem scan_more {S : Sol} {c : List Int} {j : Nat} (h : j < c.length) (h1 : S.is (c.getD j 0) = -1) : S.scan c j = S.scan c (j + 1) := by rw [Sol.scan, dif_pos ⟨h, h1⟩]
theorem scan_stop {S : Sol} {c : List Int} {j : Nat} (h : ¬ (j < c.length ∧ S.is (c.getD j 0) = -1)) : S.scan c j = j := by rw [Sol.scan, dif_neg h]
theorem SW.putW {S : Sol} {B B' i : Nat} {ks : List Nat} (h : SW S B) (hi : i < 2 * S.n + 2) (hk : ∀ k ∈ ks, k < S.cl.length) (hl : B + ks.length ≤ B' + (S.wl.getD i []).length) : SW (S.putW i ks) B' := by
 have hn := h.len
 have hlt : i < S.wl.length := by rw [hn.wl]; exact hi
 refine ⟨⟨hn.n, hn.val, hn.lev, hn.why, by simp [Sol.putW]; exact hn.wl, hn.tri, hn.tr, hn.trn, hn.stn⟩, h.cls, h.csz, fun x hx k' hk' => ?_, h.asg, h.nd, ?_, h.hd⟩
 ·rcases List.mem_or_eq_of_mem_set (show x ∈ S.wl.set i ks from hx) with h1 | rfl
  ·exact h.wls x h1 k' hk'
  ·exact hk k' hk'
 ·have := sum_set (l := S.wl.map List.length) (i := i) (x := ks.length) (by simpa using hlt)
  simp only [List.getElem_map] at this
  have e : (S.putW i ks).wl.map List.length = (S.wl.map List.length).set i ks.length := by simp [Sol.putW, List.map_set]
  have e2 : S.wl.getD i [] = S.wl[i] := by rw [List.getD_eq_getElem?_getD, List.getElem?_eq_getElem hlt]; rfl
  rw [e]
  rw [e2] at hl
  have := h.tot
  omega

end
section
namespace Sol
def skip (v : List Int) (i : Nat) : Nat := if h : i < v.length ∧ v.getD i 0 ≠ 0 then skip v (i + 1) else i
termination_by v.length - i
def start (S : Sol) (p : Nat) : Sol := { S with next := p, st := S.st ++ [S.tr.length] }
def nextTo (S : Sol) (p : Nat) : Sol := { S with next := p }
def decide (S : Sol) : Sol × Bool :=
 if skip S.val S.next = S.n + 1 then (S.nextTo (S.n + 1), false)
 else ((S.start (skip S.val S.next)).set (-((skip S.val S.next : Nat) : Int)) (-1), true)
def zero (v : List Int) (ls : List Int) : List Int := ls.foldl (fun v l => v.set l.natAbs 0) v
def low (p : Nat) (ls : List Int) : Nat := ls.foldl (fun p l => min p l.natAbs) p
def back (S : Sol) (d : Nat) : Sol :=
 if d < S.st.length then { S with val := zero S.val (S.tr.drop (S.st.getD d 0)), next := low S.next (S.tr.drop (S.st.getD d 0)), tr := S.tr.take (S.st.getD d 0), st := S.st.take d, head := S.st.getD d 0 } else S
def undo (S : Sol) (ls : List Int) : Sol := { S with val := zero S.val ls, next := low S.next ls }
def cut (S : Sol) (t d : Nat) : Sol := { S with tr := S.tr.take t, st := S.st.take d, head := t }
def refuted (S : Sol) : List Int := (List.range S.st.length).reverse.map fun d => -(S.tr.getD (S.st.getD d 0) 0)
end Sol
theorem back_eq {S : Sol} {d : Nat} (h : d < S.st.length) : S.back d = (S.undo (S.tr.drop (S.st.getD d 0))).cut (S.st.getD d 0) d := by rw [Sol.back, if_pos h]; rfl
theorem zero_len (v ls : List Int) : (Sol.zero v ls).length = v.length := by
 unfold Sol.zero
 induction ls generalizing v with
 | nil => rfl
 | cons x xs ih => rw [List.foldl_cons, ih]; simp
theorem zero_snoc (v ls : List Int) (l : Int) : Sol.zero v (ls ++ [l]) = (Sol.zero v ls).set l.natAbs 0 := by simp [Sol.zero, List.foldl_append]
theorem low_snoc (p : Nat) (ls : List Int) (l : Int) : Sol.low p (ls ++ [l]) = min (Sol.low p ls) l.natAbs := by simp [Sol.low, List.foldl_append]
theorem take_next (l : List Int) (t i : Nat) (h : t + i < l.length) : (l.drop t).take (i + 1) = (l.drop t).take i ++ [l.getD (t + i) 0] := by
 rw [List.take_add_one, List.getElem?_drop, getD_some 0 h]
 rfl
def Sol.dec (S : Sol) (d : Nat) : Int := -(S.tr.getD (S.st.getD d 0) 0)
theorem refuted_len (S : Sol) : S.refuted.length = S.st.length := by simp [Sol.refuted]
theorem refuted_next (S : Sol) (m : Nat) (h : m < S.st.length) : S.refuted.take (m + 1) = S.refuted.take m ++ [S.dec (S.st.length - 1 - m)] := by
 rw [List.take_add_one]
 congr 1
 simp [Sol.refuted, Sol.dec, List.getElem?_map, List.getElem?_reverse, h]
theorem skip_more {v : List Int} {i : Nat} (h : i < v.length) (h1 : v.getD i 0 ≠ 0) : Sol.skip v i = Sol.skip v (i + 1) := by rw [Sol.skip, dif_pos ⟨h, h1⟩]
theorem skip_stop {v : List Int} {i : Nat} (h : ¬ (i < v.length ∧ v.getD i 0 ≠ 0)) : Sol.skip v i = i := by rw [Sol.skip, dif_neg h]
theorem SW.start {S : Sol} {B : Nat} (h : SW S B) {p : Nat} (hs : S.st.length + 1 ≤ S.n) : SW (S.start p) B :=
 ⟨⟨h.len.n, h.len.val, h.len.lev, h.len.why, h.len.wl, h.len.tri, h.len.tr, h.len.trn, by simpa [Sol.start] using hs⟩, h.cls, h.csz, h.wls, h.asg, h.nd, h.tot, h.hd⟩
theorem SW.nextTo {S : Sol} {B : Nat} (h : SW S B) (p : Nat) : SW (S.nextTo p) B :=
 ⟨⟨h.len.n, h.len.val, h.len.lev, h.len.why, h.len.wl, h.len.tri, h.len.tr, h.len.trn, h.len.stn⟩, h.cls, h.csz, h.wls, h.asg, h.nd, h.tot, h.hd⟩
theorem free_len {S : Sol} {B : Nat} (h : SW S B) {p : Nat} (h1 : 1 ≤ p) (h2 : p ≤ S.n) (h0 : S.val.getD p 0 = 0) : S.tr.length + 1 ≤ S.n := by
 have := (h.set (l := -(p : Int)) 0 ⟨by omega, by omega⟩ (by rw [show (-(p : Int)).natAbs = p by omega]; exact h0)).len.trn
 simpa [Sol.set] using this

end
section
theorem mem_getD {α : Type} {l : List α} {d x : α} (h : x ∈ l) : ∃ k, k < l.length ∧ l.getD k d = x := by
 obtain ⟨k, hk, e⟩ := List.getElem_of_mem h
 exact ⟨k, hk, by rw [List.getD_eq_getElem?_getD, List.getElem?_eq_getElem hk]; exact e⟩
def Dis (c : List Int) : Prop := ∀ i j, i < c.length → j < c.length → c.getD i 0 = c.getD j 0 → i = j
theorem swapAt_get {c : List Int} {i j : Nat} (hi : i < c.length) (hj : j < c.length) (k : Nat) : (Sol.swapAt c i j).getD k 0 = c.getD (if k = j then i else if k = i then j else k) 0 := by
 unfold Sol.swapAt
 rw [getD_set _ _ _ _ _ (by simp; exact hj), getD_set _ _ _ _ _ hi]
 split
 ·rfl
 ·split <;> rfl
theorem swapAt_dis {c : List Int} {i j : Nat} (h : Dis c) (hi : i < c.length) (hj : j < c.length) : Dis (Sol.swapAt c i j) := fun a b ha hb e => by
 rw [swapAt_len] at ha hb
 rw [swapAt_get hi hj, swapAt_get hi hj] at e
 have := h _ _ (by split; omega; split <;> omega) (by split; omega; split <;> omega) e
 repeat' split at this
 all_goals omega
theorem swapAt_iff {c : List Int} {i j : Nat} (hi : i < c.length) (hj : j < c.length) (x : Int) : x ∈ Sol.swapAt c i j ↔ x ∈ c := ⟨swapAt_mem hi hj x, fun hx => by
 obtain ⟨k, hk, e⟩ := mem_getD (d := 0) hx
 have h1 : (if k = j then i else if k = i then j else k) < (Sol.swapAt c i j).length := by rw [swapAt_len]; split; omega; split <;> omega
 have h2 := swapAt_get hi hj (if k = j then i else if k = i then j else k)
 rw [← e]
 have h3 : (Sol.swapAt c i j).getD (if k = j then i else if k = i then j else k) 0 = c.getD k 0 := by
  rw [h2]
  congr 1
  split <;> split <;> (try split) <;> omega
 rw [← h3]
 exact gtD_mem h1⟩
def lv (st : List Nat) (i : Nat) : Nat := (st.filter fun s => decide (s ≤ i)).length
theorem lv_le (st : List Nat) (i : Nat) : lv st i ≤ st.length := List.length_filter_le _ _
theorem lv_all {st : List Nat} {i : Nat} (h : ∀ x ∈ st, x ≤ i) : lv st i = st.length := by
 unfold lv
 rw [List.filter_eq_self.2 (fun x hx => decide_eq_true (h x hx))]
theorem lv_mono (st : List Nat) {i j : Nat} (h : i ≤ j) : lv st i ≤ lv st j := by
 unfold lv
 induction st with
 | nil => simp
 | cons x xs ih =>
  simp only [List.filter_cons]
  by_cases h1 : x ≤ i
  ·rw [if_pos (decide_eq_true h1), if_pos (decide_eq_true (by omega))]; simp; omega
  ·rw [if_neg (by simpa using h1)]
   split
   ·simp; omega
   ·omega
theorem lv_snoc {st : List Nat} {t i : Nat} (h : i < t) : lv (st ++ [t]) i = lv st i := by
 unfold lv
 rw [List.filter_append]
 simp [h]
theorem lv_pos {st : List Nat} {i : Nat} (h : i ∈ st) : 0 < lv st i := by
 unfold lv
 exact List.length_pos_of_mem (List.mem_filter.2 ⟨h, by simp⟩)
namespace Sol
def lvl (S : Sol) (l : Int) : Nat := S.lev.getD l.natAbs 0
def wy (S : Sol) (l : Int) : Int := S.why.getD l.natAbs 0
def lit (S : Sol) (i : Nat) : Int := S.tr.getD i 0
def cla (S : Sol) (k : Nat) : List Int := S.cl.getD k []
def Forced (S : Sol) (i k : Nat) (l : Int) : Prop := k < S.cl.length ∧ l ∈ S.cla k ∧ ∀ x ∈ S.cla k, x ≠ l → ∃ j, j < i ∧ S.lit j = -x
def Why (S : Sol) (i : Nat) : Prop := (S.wy (S.lit i) = -1 ∧ (i ∈ S.st ∨ lv S.st i = 0)) ∨ ∃ k : Nat, S.wy (S.lit i) = (k : Int) ∧ S.Forced i k (S.lit i)
def Wat (S : Sol) : Prop := ∀ i, i < 2 * S.n + 2 → (S.wl.getD i []).Nodup ∧ ∀ k, k ∈ S.wl.getD i [] ↔ k < S.cl.length ∧ (atL ((S.cla k).getD 0 0) = i ∨ atL ((S.cla k).getD 1 0) = i)
def Pro (S : Sol) (ex : Nat → Int → Prop) : Prop := ∀ k, k < S.cl.length → ∀ p q, (p = 0 ∧ q = 1 ∨ p = 1 ∧ q = 0) → ∀ j, j < S.head → S.lit j = -((S.cla k).getD p 0) → ¬ ex k ((S.cla k).getD p 0) → S.is ((S.cla k).getD q 0) = 1 ∧ S.lvl ((S.cla k).getD q 0) ≤ S.lvl ((S.cla k).getD p 0)
end Sol
structure Inv (S : Sol) : Prop where
 dis : ∀ k, k < S.cl.length → Dis (S.cla k)
 asd : ∀ v, 1 ≤ v → v ≤ S.n → S.val.getD v 0 ≠ 0 → ∃ i, i < S.tr.length ∧ (S.lit i).natAbs = v
 sts : ∀ i j, i < j → j < S.st.length → S.st.getD i 0 < S.st.getD j 0
 stl : ∀ x ∈ S.st, x ≤ S.tr.length
 lev : ∀ i, i < S.tr.length → S.lvl (S.lit i) = lv S.st i
 why : ∀ i, i < S.tr.length → S.Why i
 nxt : ∀ v, 1 ≤ v → v < S.next → S.val.getD v 0 ≠ 0
theorem slit_ok {S : Sol} {B : Nat} (h : SW S B) {i : Nat} (hi : i < S.tr.length) : LitOk S.n (S.lit i) := h.len.tr _ (gtD_mem hi)
theorem lit_is {S : Sol} {B : Nat} (h : SW S B) {i : Nat} (hi : i < S.tr.length) : S.is (S.lit i) = 1 := h.asg _ (gtD_mem hi)
theorem is_neg' (S : Sol) {x : Int} (h : x ≠ 0) : S.is (-x) = -(S.is x) := by
 unfold Sol.is
 rw [Int.natAbs_neg]
 split <;> split <;> omega
theorem lit_inj {S : Sol} {B : Nat} (h : SW S B) {i j : Nat} (hi : i < S.tr.length) (hj : j < S.tr.length) (e : (S.lit i).natAbs = (S.lit j).natAbs) : i = j := by
 have hn := h.nd
 have e1 : ∀ i, i < S.tr.length → (S.tr.map Int.natAbs)[i]? = some (S.lit i).natAbs := fun i hi => by rw [List.getElem?_map, getD_some 0 hi]; rfl
 exact (List.getElem?_inj (by simpa using hi) hn).1 (by rw [e1 i hi, e1 j hj, e])
theorem false_on {S : Sol} {B : Nat} (h : SW S B) (k : Inv S) {x : Int} (hx : LitOk S.n x) (hf : S.is x = -1) : ∃ i, i < S.tr.length ∧ S.lit i = -x := by
 have h0 := hx.1
 have h1 := hx.2
 obtain ⟨i, hi, e⟩ := k.asd x.natAbs (by omega) h1 (fun h0 => by
  unfold Sol.is at hf
  rw [h0] at hf
  split at hf <;> omega)
 refine ⟨i, hi, ?_⟩
 have := lit_is h hi
 by_cases e2 : S.lit i = x
 ·rw [e2, hf] at this; omega
 ·omega
theorem on_false {S : Sol} {B : Nat} (h : SW S B) {x : Int} {i : Nat} (hi : i < S.tr.length) (e : S.lit i = -x) : S.is x = -1 := by
 have h1 := lit_is h hi
 have h2 := (slit_ok h hi).1
 rw [e, is_neg' S (by omega)] at h1
 omega
theorem lit_set {S : Sol} {l w : Int} {i : Nat} : (S.set l w).lit i = if i < S.tr.length then S.lit i else if i = S.tr.length then l else 0 := by
 simp only [Sol.lit, Sol.set, List.getD_eq_getElem?_getD, List.getElem?_append]
 split
 ·rfl
 ·rename_i h
  by_cases e : i = S.tr.length
  ·subst e; simp
  ·rw [if_neg e, List.getElem?_eq_none (by simp; omega)]; rfl
theorem lvl_set {S : Sol} {l w x : Int} (h : l.natAbs < S.lev.length) : (S.set l w).lvl x = if x.natAbs = l.natAbs then S.st.length else S.lvl x := by
 simp only [Sol.lvl, Sol.set, getD_set _ _ _ _ _ h]
theorem wy_set {S : Sol} {l w x : Int} (h : l.natAbs < S.why.length) : (S.set l w).wy x = if x.natAbs = l.natAbs then w else S.wy x := by
 simp only [Sol.wy, Sol.set, getD_set _ _ _ _ _ h]
theorem off_trail {S : Sol} {B : Nat} (h : SW S B) {l : Int} (hu : S.val.getD l.natAbs 0 = 0) {i : Nat} (hi : i < S.tr.length) : (S.lit i).natAbs ≠ l.natAbs := fun e => by
 have h1 := lit_is h hi
 unfold Sol.is at h1
 rw [e, hu] at h1
 split at h1 <;> omega
theorem Inv.set {S : Sol} {B : Nat} (h : SW S B) (k : Inv S) {l w : Int} (hl : LitOk S.n l) (hu : S.val.getD l.natAbs 0 = 0) (hw : (w = -1 ∧ (S.tr.length ∈ S.st ∨ lv S.st S.tr.length = 0)) ∨ ∃ c : Nat, w = (c : Int) ∧ S.Forced S.tr.length c l) : Inv (S.set l w) := by
 have h2 := hl.2
 have hv : l.natAbs < S.val.length := by rw [h.len.val]; omega
 have hle : l.natAbs < S.lev.length := by rw [h.len.lev]; omega
 have hwy : l.natAbs < S.why.length := by rw [h.len.why]; omega
 have htl : (S.set l w).tr.length = S.tr.length + 1 := by simp [Sol.set]
 have hF : ∀ i c x, i ≤ S.tr.length → S.Forced i c x → (S.set l w).Forced i c x := fun i c x hi hf => ⟨hf.1, hf.2.1, fun y hy hne => by
  obtain ⟨j, hj, e⟩ := hf.2.2 y hy hne
  exact ⟨j, hj, by rw [lit_set, if_pos (by omega)]; exact e⟩⟩
 refine ⟨k.dis, fun v h1 h3 h4 => ?_, k.sts, fun x hx => ?_, fun i hi => ?_, fun i hi => ?_, fun v h1 h3 => ?_⟩
 ·by_cases e : v = l.natAbs
  ·exact ⟨S.tr.length, by omega, by rw [lit_set, if_neg (by omega), if_pos rfl]; exact e.symm⟩
  ·have : S.val.getD v 0 ≠ 0 := by
    have h5 : (S.val.set l.natAbs (Sol.sgn l)).getD v 0 ≠ 0 := h4
    rwa [getD_set _ _ _ _ _ hv, if_neg e] at h5
   obtain ⟨i, hi, e2⟩ := k.asd v h1 h3 this
   exact ⟨i, by omega, by rw [lit_set, if_pos hi]; exact e2⟩
 ·have := k.stl x hx
  omega
 ·rw [lit_set, lvl_set hle]
  show _ = lv S.st i
  by_cases e : i < S.tr.length
  ·rw [if_pos e, if_neg (off_trail h hu e)]
   exact k.lev i e
  ·have e2 : i = S.tr.length := by omega
   subst e2
   rw [if_neg e, if_pos rfl, if_pos rfl, lv_all k.stl]
 ·unfold Sol.Why
  rw [lit_set, wy_set hwy]
  by_cases e : i < S.tr.length
  ·rw [if_pos e, if_neg (off_trail h hu e)]
   rcases k.why i e with h1 | ⟨c, h1, h2⟩
   ·exact .inl h1
   ·exact .inr ⟨c, h1, hF _ _ _ (by omega) h2⟩
  ·have e2 : i = S.tr.length := by omega
   subst e2
   rw [if_neg e, if_pos rfl, if_pos rfl]
   rcases hw with h1 | ⟨c, h1, h2⟩
   ·exact .inl h1
   ·exact .inr ⟨c, h1, hF _ _ _ (by omega) h2⟩
 ·show (S.val.set l.natAbs (Sol.sgn l)).getD v 0 ≠ 0
  rw [getD_set _ _ _ _ _ hv]
  split
  ·exact sgn_ne l
  ·exact k.nxt v h1 h3
theorem putC_cla {S : Sol} {k : Nat} {c : List Int} (h : k < S.cl.length) (j : Nat) : (S.putC k c).cla j = if j = k then c else S.cla j := getD_set _ _ _ _ _ h
theorem putC_len (S : Sol) (k : Nat) (c : List Int) : (S.putC k c).cl.length = S.cl.length := by simp [Sol.putC]
theorem Inv.putC {S : Sol} (h : Inv S) {k : Nat} {c : List Int} (hk : k < S.cl.length) (hd : Dis c) (hm : ∀ x, x ∈ c ↔ x ∈ S.cla k) : Inv (S.putC k c) := by
 refine ⟨fun j hj => ?_, h.asd, h.sts, h.stl, h.lev, fun i hi => ?_, h.nxt⟩
 ·rw [putC_cla hk]
  split
  ·exact hd
  ·exact h.dis j (by rwa [putC_len] at hj)
 ·rcases h.why i hi with h1 | ⟨q, h1, h2, h3, h4⟩
  ·exact .inl h1
  ·refine .inr ⟨q, h1, by rw [putC_len]; exact h2, ?_, fun x hx => ?_⟩
   ·rw [putC_cla hk]
    split
    ·rename_i e; subst e; exact (hm _).2 h3
    ·exact h3
   ·rw [putC_cla hk] at hx
    refine h4 x ?_
    split at hx
    ·rename_i e; subst e; exact (hm _).1 hx
    ·exact hx
def Turned (c c' : List Int) : Prop := c'.length = c.length ∧ (c' = c ∨ (c'.getD 0 0 = c.getD 1 0 ∧ c'.getD 1 0 = c.getD 0 0))
theorem Wat.turned {S : Sol} {k : Nat} {c : List Int} (hk : k < S.cl.length) (h : S.Wat) (hc : Turned (S.cla k) c) : (S.putC k c).Wat := fun i hi => by
 obtain ⟨h1, h2⟩ := h i hi
 refine ⟨h1, fun j => (h2 j).trans ?_⟩
 rw [putC_cla hk, putC_len]
 by_cases e : j = k
 ·subst e
  rw [if_pos rfl]
  rcases hc.2 with e2 | ⟨e2, e3⟩
  ·rw [e2]
  ·rw [e2, e3]
   exact ⟨fun h => ⟨h.1, h.2.symm⟩, fun h => ⟨h.1, h.2.symm⟩⟩
 ·rw [if_neg e]
theorem Pro.turned {S : Sol} {ex : Nat → Int → Prop} {k : Nat} {c : List Int} (hk : k < S.cl.length) (h : S.Pro ex) (hc : Turned (S.cla k) c) : (S.putC k c).Pro ex := fun j hj p q hpq i hi e hex => by
 rw [putC_len] at hj
 rw [putC_cla hk] at e hex ⊢
 by_cases e1 : j = k
 ·subst e1
  rw [if_pos rfl] at e hex ⊢
  rcases hc.2 with e2 | ⟨e2, e3⟩
  ·subst e2; exact h _ hj p q hpq i hi e hex
  ·rcases hpq with ⟨rfl, rfl⟩ | ⟨rfl, rfl⟩
   ·rw [e2] at e hex ⊢; rw [e3]; exact h _ hj 1 0 (.inr ⟨rfl, rfl⟩) i hi e hex
   ·rw [e3] at e hex ⊢; rw [e2]; exact h _ hj 0 1 (.inl ⟨rfl, rfl⟩) i hi e hex
 ·rw [if_neg e1] at e hex ⊢
  exact h _ hj p q hpq i hi e hex
theorem Pro.set {S : Sol} {B : Nat} (hS : SW S B) {ex : Nat → Int → Prop} (h : S.Pro ex) {l w : Int} (hl : LitOk S.n l) (hu : S.val.getD l.natAbs 0 = 0) : (S.set l w).Pro ex := fun j hj p q hpq i hi e hex => by
 have h2 := hl.2
 have hv : l.natAbs < S.val.length := by rw [hS.len.val]; omega
 have hle : l.natAbs < S.lev.length := by rw [hS.len.lev]; omega
 have hi2 : i < S.tr.length := Nat.lt_of_lt_of_le hi hS.hd
 rw [lit_set, if_pos hi2] at e
 obtain ⟨h3, h4⟩ := h j hj p q hpq i hi e hex
 have n1 : ((S.cla j).getD p 0).natAbs ≠ l.natAbs := by
  have := off_trail hS hu hi2
  rw [e, Int.natAbs_neg] at this
  exact this
 have n2 : ((S.cla j).getD q 0).natAbs ≠ l.natAbs := fun e2 => by
  unfold Sol.is at h3
  rw [e2, hu] at h3
  split at h3 <;> omega
 show (S.set l w).is ((S.cla j).getD q 0) = 1 ∧ (S.set l w).lvl ((S.cla j).getD q 0) ≤ (S.set l w).lvl ((S.cla j).getD p 0)
 rw [is_set_ne hv n2, lvl_set hle, lvl_set hle, if_neg n1, if_neg n2]
 exact ⟨h3, h4⟩

end
set_option maxRecDepth 100000
set_option maxHeartbeats 4000000
abbrev PV.b8 (x : Int) : PV := .im (.int .i8 x)
abbrev i8s (l : List Int) : List PV := (l.map fun x => Im.int .i8 x).map PV.im
abbrev i64s (l : List Int) : List PV := (l.map fun x => Im.int .i64 x).map PV.im
abbrev n64s (l : List Nat) : List PV := (l.map fun (x : Nat) => Im.int .i64 (x : Int)).map PV.im
structure Ver where
 c : Nat
 t : Nat
 s : Nat
 wv : Nat → Nat
 tx : List Int
 sx : List Nat
 K : Nat
abbrev wcells (S : Sol) (V : Ver) : List PV := (List.range (2 * S.n + 2)).map fun i => PV.vs 0 (i + 11) 0 (S.wl.getD i []).length (V.wv i)
abbrev ccells (S : Sol) : List PV := (List.range S.cl.length).map fun k => PV.vs 0 (k + (2 * S.n + 2) + 11) 0 (S.cl.getD k []).length 0
abbrev sbox (S : Sol) (V : Ver) : AObj := .box [.vs 0 7 0 S.cl.length V.c, .vs 0 1 0 (2 * S.n + 2) 0, .vs 0 2 0 (S.n + 1) 0, .vs 0 3 0 (S.n + 1) 0, .vs 0 4 0 (S.n + 1) 0, .vs 0 8 0 S.tr.length V.t, .vs 0 9 0 S.st.length V.s, .i S.head, .i S.next]
structure SAt (up : Frs) (d : Nat) (S : Sol) (V : Ver) : Prop where
 box : fget up d 5 = some (sbox S V)
 wch : fget up d 1 = some (.vec 22 0 (wcells S V))
 val : fget up d 2 = some (.vec 138 0 (i8s S.val))
 lev : fget up d 3 = some (.vec 3 0 (n64s S.lev))
 why : fget up d 4 = some (.vec 3 0 (i64s S.why))
 clo : fget up d 7 = some (.vec 22 V.c (ccells S))
 trl : fget up d 8 = some (.vec 3 V.t (i64s S.tr ++ i64s V.tx))
 sts : fget up d 9 = some (.vec 3 V.s (n64s S.st ++ n64s V.sx))
 wli : ∀ i, i < 2 * S.n + 2 → fget up d (i + 11) = some (.vec 3 (V.wv i) (n64s (S.wl.getD i [])))
 cli : ∀ k, k < S.cl.length → fget up d (k + (2 * S.n + 2) + 11) = some (.vec 3 0 (i64s (S.cl.getD k [])))
def Spare (up : Frs) (d : Nat) (S : Sol) (K m : Nat) : Prop := ∀ k, m ≤ k → k < K → fget up d (k + (2 * S.n + 2) + 11) = some .dead
def SPl (S : Sol) (K j : Nat) : Prop := (1 ≤ j ∧ j ≤ 5) ∨ (7 ≤ j ∧ j ≤ 9) ∨ (11 ≤ j ∧ j < K + (2 * S.n + 2) + 11)
structure Else (up u : Frs) (d : Nat) (S : Sol) (K : Nat) : Prop where
 shape : u.map List.length = up.map List.length
 same : ∀ d' j, ¬ (d' = d ∧ SPl S K j) → fget u d' j = fget up d' j
theorem Else.refl (up : Frs) (d : Nat) (S : Sol) (K : Nat) : Else up up d S K := ⟨rfl, fun _ _ _ => rfl⟩
theorem Else.trans {up u v : Frs} {d : Nat} {S S' : Sol} {K : Nat} (h : Else up u d S K) (hn : S'.n = S.n) (k : Else u v d S' K) : Else up v d S K :=
 ⟨k.shape.trans h.shape, fun d' j hj => (k.same d' j (by unfold SPl at hj ⊢; rw [hn]; exact hj)).trans (h.same d' j hj)⟩
theorem Else.fset {up u : Frs} {d : Nat} {S : Sol} {K j : Nat} (h : Else up u d S K) (hj : SPl S K j) (o : AObj) : Else up (fset u d j o) d S K :=
 ⟨by rw [fset_shape]; exact h.shape, fun d' j' hn => by
  rw [fget_fset, if_neg (fun e => hn (by rw [e.1, e.2]; exact ⟨rfl, hj⟩))]
  exact h.same d' j' hn⟩
theorem i8s_get (l : List Int) (i : Nat) (h : i < l.length) : (i8s l)[i]? = some (.im (.int .i8 (l.getD i 0))) := by rw [i8s, List.getElem?_map, List.getElem?_map, getD_some 0 h]; rfl
theorem i64s_get (l : List Int) (i : Nat) (h : i < l.length) : (i64s l)[i]? = some (.im (.int .i64 (l.getD i 0))) := by rw [i64s, List.getElem?_map, List.getElem?_map, getD_some 0 h]; rfl
theorem n64s_get (l : List Nat) (i : Nat) (h : i < l.length) : (n64s l)[i]? = some (.im (.int .i64 ((l.getD i 0 : Nat) : Int))) := by rw [n64s, List.getElem?_map, List.getElem?_map, getD_some 0 h]; rfl
theorem wrapi8 {x : Int} (h1 : -128 ≤ x) (h2 : x ≤ 127) : IntKind.i8.wrap x = x := by
 simp [IntKind.wrap, IntKind.signed, IntKind.bits]
 omega
theorem at_ok (n : Nat) (l : Int) (h : LitOk n l) (hn : n ≤ 20000) (up : Frs) : ACalls Try.prog 96 [.i l] up fun v u => v = .i (atL l : Nat) ∧ u = up := by
 have h2 := h.2
 have e := atL_cast h
 have w1 : IntKind.i64.wrap (-2 * l) = -2 * l := wrap64 (by omega)
 have w2 : IntKind.i64.wrap (-2 * l + 1) = -2 * l + 1 := wrap64 (by omega)
 have w3 : IntKind.i64.wrap (2 * l) = 2 * l := wrap64 (by omega)
 refine ACalls.code Try.func96 rfl 10 rfl (by simp) [.tmp 2] rfl fun Q hQ => ?_
 simp only [ups, PV.up, argEnv]
 have ft := ai ty_3 (ai ty_4 trivial)
 refine Run.seq ?_
 have fx := ai w3 (ai w2 (ai w1 ft))
 refine Run.go ?_
 refine End.kp [0] ?_
 refine Run.seq ?_
 refine Run.seq ?_
 refine Run.go ?_
 refine End.kp [0, 4] ?_
 refine Run.cond _ rfl (fun hb => ?_) (fun hb => ?_)
 ·have hb2 := of_decide_eq_true hb
  refine Run.seq ?_
  refine Run.go ?_
  refine End.kp [2] ?_
  refine Run.ret (hQ _ _ ⟨.inr rfl, _, rfl, _, rfl, ?_⟩)
  exact ⟨by rw [e, if_pos hb2], rfl⟩
 ·have hb2 := of_decide_eq_false hb
  refine Run.skip ?_
  refine End.kp [0] ?_
  refine Run.seq ?_
  refine Run.go ?_
  refine End.kp [2] ?_
  refine Run.ret (hQ _ _ ⟨.inr rfl, _, rfl, _, rfl, ?_⟩)
  exact ⟨by rw [e, if_neg hb2], rfl⟩
theorem is_ok (S : Sol) (V : Ver) (d : Nat) (up : Frs) (hA : SAt up d S V) (hS : SLen S) (l : Int) (h : LitOk S.n l) : ACalls Try.prog 95 [.ptr d 5 0, .i l] up fun v u => v = .b8 (S.is l) ∧ u = up := by
 obtain ⟨h0, h2⟩ := h
 have hn := hS.n
 have hbx := hA.box
 have hvl := hA.val
 have hg := i8s_get S.val l.natAbs (by have := hS.val; omega)
 have ht := hS.tri _ (gtD_mem (l := S.val) (i := l.natAbs) (d := 0) (by have := hS.val; omega))
 have wn : IntKind.i64.wrap (0 - l) = -l := by rw [wrap64 (by omega)]; omega
 have w8 : IntKind.i8.wrap (0 - S.val.getD l.natAbs 0) = -(S.val.getD l.natAbs 0) := by rw [wrapi8 (by omega) (by omega)]; omega
 refine ACalls.code Try.func95 rfl 23 rfl (by simp) [.tmp 4] rfl fun Q hQ => ?_
 simp only [ups, PV.up, argEnv]
 have ft := ai ty_2 (ai ty_3 (ai ty_4 (ai ty_130 (ai ty_131 (ai ty_133 (ai ty_138 trivial))))))
 refine Run.seq ?_
 have fx := ai zZa (ai w8 (ai wn (ai hvl (ai hbx ft))))
 refine Run.go ?_
 refine End.kp [0, 1] ?_
 refine Run.seq ?_
 refine Run.seq ?_
 refine Run.go ?_
 refine End.kp [0, 1, 6] ?_
 refine Run.cond _ rfl (fun hb => ?_) (fun hb => ?_)
 ·have hb2 := of_decide_eq_true hb
  have q0 : 0 ≤ -l := by omega
  have q1 : -l < ((S.n + 1 : Nat) : Int) := by omega
  have q2 : (-l).toNat = l.natAbs := by omega
  refine Run.seq ?_
  have fx := ai hg (ai q2 (ai q1 (ai q0 fx)))
  refine Run.go ?_
  refine End.kp [4] ?_
  refine Run.ret (hQ _ _ ⟨.inr rfl, _, rfl, _, rfl, ?_⟩)
  exact ⟨by rw [Sol.is, if_pos hb2], rfl⟩
 ·have hb2 := of_decide_eq_false hb
  have q0 : 0 ≤ l := by omega
  have q1 : l < ((S.n + 1 : Nat) : Int) := by omega
  have q2 : l.toNat = l.natAbs := by omega
  refine Run.skip ?_
  refine End.kp [0, 1] ?_
  refine Run.seq ?_
  have fx := ai hg (ai q2 (ai q1 (ai q0 fx)))
  refine Run.go ?_
  refine End.kp [4] ?_
  refine Run.ret (hQ _ _ ⟨.inr rfl, _, rfl, _, rfl, ?_⟩)
  exact ⟨by rw [Sol.is, if_neg hb2], rfl⟩

set_option maxRecDepth 100000
set_option maxHeartbeats 4000000
def setV (V : Ver) : Ver := { V with t := V.t + 1, tx := [] }
def setU (up : Frs) (d : Nat) (S : Sol) (V : Ver) (l w : Int) : Frs :=
 fset (fset (fset (fset (fset up d 2 (.vec 138 0 (i8s (S.set l w).val))) d 3 (.vec 3 0 (n64s (S.set l w).lev))) d 4 (.vec 3 0 (i64s (S.set l w).why))) d 8 (.vec 3 (V.t + 1) (i64s (S.set l w).tr))) d 5 (sbox (S.set l w) (setV V))
theorem setU_at {up : Frs} {d : Nat} {S : Sol} {V : Ver} (h : SAt up d S V) (l w : Int) : SAt (setU up d S V l w) d (S.set l w) (setV V) := by
 have e : ∀ j, fget (setU up d S V l w) d j = if j = 5 then some (sbox (S.set l w) (setV V)) else if j = 8 then some (.vec 3 (V.t + 1) (i64s (S.set l w).tr)) else if j = 4 then some (.vec 3 0 (i64s (S.set l w).why)) else if j = 3 then some (.vec 3 0 (n64s (S.set l w).lev)) else if j = 2 then some (.vec 138 0 (i8s (S.set l w).val)) else fget up d j := fun j => by
  simp only [setU, fget_fset, true_and, h.box, h.val, h.lev, h.why, h.trl, Nat.reduceEqDiff, if_false, Option.map_some]
 refine ⟨by rw [e]; rfl, ?_, by rw [e]; rfl, by rw [e]; rfl, by rw [e]; rfl, ?_, ?_, ?_, fun i hi => ?_, fun k hk => ?_⟩
 ·rw [e]; exact h.wch
 ·rw [e]; exact h.clo
 ·rw [e, if_neg (by decide), if_pos rfl]; simp [setV]
 ·rw [e]; exact h.sts
 ·rw [e, if_neg (by omega), if_neg (by omega), if_neg (by omega), if_neg (by omega), if_neg (by omega)]; exact h.wli i hi
 ·rw [e, if_neg (by omega), if_neg (by omega), if_neg (by omega), if_neg (by omega), if_neg (by omega)]; exact h.cli k hk
theorem setU_spare {up : Frs} {d : Nat} {S : Sol} {V : Ver} {K m : Nat} (h : Spare up d S K m) (l w : Int) : Spare (setU up d S V l w) d (S.set l w) K m := fun k h1 h2 => by
 have := h k h1 h2
 simp only [setU, fget_fset, true_and]
 rw [if_neg (by omega), if_neg (by omega), if_neg (by omega), if_neg (by omega), if_neg (by omega)]
 exact this
theorem setU_else (up : Frs) (d : Nat) (S : Sol) (V : Ver) (l w : Int) : Else up (setU up d S V l w) d S V.K :=
 ((((((Else.refl up d S V.K).fset (by unfold SPl; omega) _).fset (by unfold SPl; omega) _).fset (by unfold SPl; omega) _).fset (by unfold SPl; omega) _).fset (by unfold SPl; omega) _)
theorem n64s_set (l : List Nat) (i x : Nat) : (n64s l).set i (.im (.int .i64 (x : Int))) = n64s (l.set i x) := by simp [n64s, List.map_set]
theorem i64s_set (l : List Int) (i : Nat) (x : Int) : (i64s l).set i (.im (.int .i64 x)) = i64s (l.set i x) := by simp [i64s, List.map_set]
theorem i8s_set (l : List Int) (i : Nat) (x : Int) : (i8s l).set i (.im (.int .i8 x)) = i8s (l.set i x) := by simp [i8s, List.map_set]
theorem take_tr (S : Sol) (V : Ver) : (i64s S.tr ++ i64s V.tx).take S.tr.length = i64s S.tr := by rw [List.take_left' (by simp)]
theorem set_ok (S : Sol) (V : Ver) (d : Nat) (up : Frs) (hA : SAt up d S V) (hS : SLen S) (l w : Int) (h : LitOk S.n l) : ACalls Try.prog 79 [.ptr d 5 0, .i l, .i w] up fun v u => v = .tup [] ∧ u = setU up d S V l w := by
 obtain ⟨h0, h2⟩ := h
 have hn := hS.n
 have hbx := hA.box
 have hvl := hA.val
 have hlv := hA.lev
 have hwy := hA.why
 have htr := hA.trl
 have lv := hS.val
 have ll := hS.lev
 have ly := hS.why
 have lt := hS.trn
 have wn : IntKind.i64.wrap (0 - l) = -l := by rw [wrap64 (by omega)]; omega
 have hmx : (if l < -l then -l else l) = (l.natAbs : Int) := by split <;> omega
 have q1 : ((l.natAbs : Nat) : Int) < ((S.n + 1 : Nat) : Int) := by omega
 have c1 : l.natAbs < S.n + 1 := by omega
 have e8 : (i8s S.val).length = S.n + 1 := by rw [i8s, List.length_map, List.length_map, lv]
 have e3 : (n64s S.lev).length = S.n + 1 := by rw [n64s, List.length_map, List.length_map, ll]
 have e4 : (i64s S.why).length = S.n + 1 := by rw [i64s, List.length_map, List.length_map, ly]
 have htk := take_tr S V
 have hap : (S.tr.length + 1) * 8 ≤ 140737488355328 := by omega
 refine ACalls.code Try.func79 rfl 53 rfl (by simp) [] rfl fun Q hQ => ?_
 simp only [ups, PV.up, argEnv]
 have ft := ai ty_2 (ai ty_3 (ai ty_4 (ai ty_5 (ai ty_6 (ai ty_22 (ai ty_130 (ai ty_131 (ai ty_133 (ai ty_138 trivial)))))))))
 refine Run.seq ?_
 have fx := ai (@List.length_set.{0}) (ai zTn (ai zNn (ai zZa (ai hap (ai htk (ai e4 (ai e3 (ai e8 (ai c1 (ai q1 (ai hmx (ai wn (ai htr (ai hwy (ai hlv (ai hvl (ai hbx (ai (@fget_fset) ft))))))))))))))))))
 refine Run.go ?_
 refine End.kp [0, 1, 2, 6] ?_
 refine Run.seq ?_
 refine Run.go ?_
 refine End.kp [0, 1, 2, 6] ?_
 refine Run.seq ?_
 refine Run.seq ?_
 refine Run.go ?_
 refine End.kp [0, 1, 2, 6, 18] ?_
 refine Run.cond _ rfl (fun hb => ?_) (fun hb => ?_)
 ·have hb2 := of_decide_eq_true hb
  refine Run.go ?_
  refine End.kp [0, 1, 2, 6] ?_
  refine Run.seq ?_
  refine Run.drawA fun K hK => ?_
  refine DOps.sim ?_
  refine DOps.nil (by rfl) (hK _ ?_); clear hK K
  refine End.kp [0, 1] ?_
  refine Run.go ?_
  refine End.all (hQ _ _ ⟨.inl rfl, _, rfl, _, rfl, ?_⟩)
  refine ⟨rfl, ?_⟩
  have x1 : ((i8s S.val).set l.natAbs (PV.im (Im.int IntKind.i8 1))).set l.natAbs (PV.im (Im.int IntKind.i8 (-1))) = i8s (S.set l w).val := by simp only [List.set_set, i8s_set, Sol.set, Sol.sgn, if_pos hb2]
  have x2 : (n64s S.lev).set l.natAbs (PV.im (Im.int IntKind.i64 (S.st.length : Nat))) = n64s (S.set l w).lev := n64s_set _ _ _
  have x3 : (i64s S.why).set l.natAbs (PV.im (Im.int IntKind.i64 w)) = i64s (S.set l w).why := i64s_set _ _ _
  have x4 : i64s S.tr ++ [PV.im (Im.int IntKind.i64 l)] = i64s (S.set l w).tr := by simp [Sol.set]
  have x5 : (S.set l w).tr.length = S.tr.length + 1 := by simp [Sol.set]
  rw [setU, sbox, x5, ← x1, ← x2, ← x3, ← x4]
  rfl
 ·have hb2 := of_decide_eq_false hb
  refine Run.skip ?_
  refine End.kp [0, 1, 2, 6] ?_
  refine Run.seq ?_
  refine Run.drawA fun K hK => ?_
  refine DOps.sim ?_
  refine DOps.nil (by rfl) (hK _ ?_); clear hK K
  refine End.kp [0, 1] ?_
  refine Run.go ?_
  refine End.all (hQ _ _ ⟨.inl rfl, _, rfl, _, rfl, ?_⟩)
  refine ⟨rfl, ?_⟩
  have x1 : (i8s S.val).set l.natAbs (PV.im (Im.int IntKind.i8 1)) = i8s (S.set l w).val := by simp only [List.set_set, i8s_set, Sol.set, Sol.sgn, if_neg hb2]
  have x2 : (n64s S.lev).set l.natAbs (PV.im (Im.int IntKind.i64 (S.st.length : Nat))) = n64s (S.set l w).lev := n64s_set _ _ _
  have x3 : (i64s S.why).set l.natAbs (PV.im (Im.int IntKind.i64 w)) = i64s (S.set l w).why := i64s_set _ _ _
  have x4 : i64s S.tr ++ [PV.im (Im.int IntKind.i64 l)] = i64s (S.set l w).tr := by simp [Sol.set]
  have x5 : (S.set l w).tr.length = S.tr.length + 1 := by simp [Sol.set]
  rw [setU, sbox, x5, ← x1, ← x2, ← x3, ← x4]
  rfl

end Go.Proofs.YtkjfdacjjogpcaaPi
