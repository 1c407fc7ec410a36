/- Part 4 of the proof: the texts WSJ, WSL, PDup, PSolI, WSF, WSH, WSG, WSK, WSP, WSQ, WSR, one behind the other. Each holds for every input that it names; no condition is hidden. -/
import Derived.Test.YtdgpmopcmacicaaM3
import Derived.Test.YtdgpmopcmacicaaM2
import Derived.Test.YtdgpmopcmacicaaM1
/- The walk of the library's insertion sort. -/
set_option linter.unusedVariables false
set_option linter.unusedSimpArgs false
set_option maxRecDepth 100000
namespace Go.Proofs.YtdgpmopcmacicaaPi
set_option maxHeartbeats 40000000
/-- A number sinks to its place. -/
def sink (c : List Int) : Nat → List Int
  | 0 => c
  | j + 1 => if c.getD (j + 1) 0 < c.getD j 0 then sink (Sol.swapAt c (j + 1) j) j else c
def sorts : Nat → List Int → Nat → List Int
  | 0, c, i => c
  | f + 1, c, i => if i < c.length then sorts f (sink c i) (i + 1) else c
theorem sink_len (c : List Int) (j : Nat) : (sink c j).length = c.length := by
  induction j generalizing c with
  | zero => rfl
  | succ j ih =>
    rw [sink]
    split
    · rw [ih, swapAt_len]
    · rfl
theorem isNaN_ok (x : Int) (up : Frs) : ACalls Try.prog 204 [.i x] up fun v u => v = .im (.bool false) ∧ u = up := by
  have e0 : (x != x) = false := by simp
  refine ACalls.code Try.func204 rfl 6 rfl (by simp) [.tmp 2] rfl fun Q hQ => ?_
  simp only [ups, PV.up, argEnv]
  have ft := And.intro ty_3 (And.intro ty_4 trivial)
  refine Run.seq ?_
  have fx := And.intro e0 ft
  refine Run.go ?_
  refine End.kp [0] ?_
  refine Run.seq ?_
  refine Run.go ?_
  refine End.kp [2] ?_
  refine Run.ret (hQ _ _ ⟨.inr rfl, _, rfl, _, rfl, ?_⟩)
  exact ⟨rfl, rfl⟩
theorem cmpLess_ok (x y : Int) (up : Frs) : ACalls Try.prog 189 [.i x, .i y] up fun v u => v = .im (.bool (decide (x < y))) ∧ u = up := by
  refine ACalls.code Try.func189 rfl 17 rfl (by simp) [.tmp 4] rfl fun Q hQ => ?_
  simp only [ups, PV.up, argEnv]
  have ft := And.intro ty_3 (And.intro ty_4 trivial)
  refine Run.seq ?_
  have fx := ft
  refine Run.go ?_
  refine End.kp [0, 1] ?_
  refine Run.seq ?_
  refine Run.region rfl fun K hK => GOps.sim ?_
  refine GOps.call rfl rfl rfl rfl (by kernel_rfl) (ACalls.sim ?_)
  refine (isNaN_ok x _).mono fun v u hv => ?_
  obtain ⟨rfl, rfl⟩ := hv
  refine ⟨_, _, rfl, GOps.sim ?_⟩
  refine GOps.done (hK _ ?_); clear hK K
  refine End.kp [4] ?_
  refine Run.ret (hQ _ _ ⟨.inr rfl, _, rfl, _, rfl, ?_⟩)
  exact ⟨rfl, rfl⟩
theorem insSort_ok (p g n : Nat) (c : List Int) (up : Frs) (hc : fget up 2 p = some (.vec 3 g (i64s c))) (hn : n = c.length) (hl : n ≤ 12) : ACalls Try.prog 183 [.vs 2 p 0 n g, .i 0, .i (n : Nat)] up fun v u => v = .tup [] ∧ u = fset up 2 p (.vec 3 g (i64s (sorts (n - 1) c 1))) := by
  refine ACalls.code Try.func183 rfl 49 rfl (by simp) [] rfl fun Q hQ => ?_
  simp only [ups, PV.up, argEnv]
  have ft := And.intro ty_3 (And.intro ty_4 (And.intro ty_22 trivial))
  refine Run.seq ?_
  have fx := And.intro (@List.length_set.{0}) (And.intro (@Int.toNat_natCast) (And.intro (@Int.natCast_nonneg) (And.intro (@Nat.zero_add) ft)))
  refine Run.go ?_
  refine End.kp [0, 1, 2, 6] ?_
  refine Run.block ?_
  refine Run.ghost (Ghost.form [(0, .vs 3 p 0 n g), (1, .i 0), (2, .i (n : Nat)), (6, .i 1)] 0 ⟨rfl, rfl, rfl, rfl, trivial⟩ rfl (by simp only [ASt.push, List.nil_append, List.cons_append, List.take_succ_cons, List.take_zero, List.all_cons, List.all_nil, AObj.under, PV.under, Bool.and_true, Bool.and_self])) ?_
  refine Run.loop (fun m st => ∃ (i : Nat) (c1 : List Int), m = n - i ∧ 1 ≤ i ∧ c1.length = n ∧ sorts (n - 1) c 1 = sorts m c1 i ∧ st = ⟨[(0, .vs 3 p 0 n g), (1, .i 0), (2, .i (n : Nat)), (6, .i (i : Nat))], [], fset up 2 p (.vec 3 g (i64s c1))⟩) (n - 1) ⟨1, c, rfl, by omega, hn.symm, rfl, ?_⟩ fun m st hI => ?_
  case refine_1 => rw [fset_self _ _ _ _ hc]; rfl
  obtain ⟨i, c1, rfl, hi, hc1, hsr, rfl⟩ := hI
  refine Run.seq ?_
  refine Run.seq ?_
  have fx := And.intro (@List.length_set.{0}) (And.intro (@Int.toNat_natCast) (And.intro (@Int.natCast_nonneg) (And.intro (@Nat.zero_add) ft)))
  refine Run.go ?_
  refine End.kp [0, 1, 2, 6, 12] ?_
  refine Run.cond _ rfl (fun hb => ?_) (fun hb => ?_)
  · have hb2 := of_decide_eq_true hb
    have hin : i < n := by omega
    have wi := nsucc hin (by omega)
    refine Run.skip ?_
    refine End.kp [0, 1, 2, 6] ?_
    refine Run.seq ?_
    refine Run.block ?_
    refine Run.seq ?_
    have fx := And.intro wi (And.intro (@List.length_set.{0}) (And.intro (@Int.toNat_natCast) (And.intro (@Int.natCast_nonneg) (And.intro (@Nat.zero_add) ft))))
    refine Run.go ?_
    refine End.kp [0, 1, 2, 6, 7] ?_
    refine Run.block ?_
    refine Run.ghost (Ghost.form [(0, .vs 3 p 0 n g), (1, .i 0), (2, .i (n : Nat)), (6, .i (i : Nat)), (7, .i (i : Nat))] 0 ⟨rfl, rfl, rfl, rfl, rfl, trivial⟩ rfl (by simp only [ASt.push, List.nil_append, List.cons_append, List.take_succ_cons, List.take_zero, List.all_cons, List.all_nil, AObj.under, PV.under, Bool.and_true, Bool.and_self])) ?_
    refine Run.loop (fun m st => ∃ (j : Nat) (c2 : List Int), j = m ∧ j ≤ i ∧ c2.length = n ∧ sink c1 i = sink c2 j ∧ st = ⟨[(0, .vs 3 p 0 n g), (1, .i 0), (2, .i (n : Nat)), (6, .i (i : Nat)), (7, .i (j : Nat))], [], fset up 2 p (.vec 3 g (i64s c2))⟩) i ⟨i, c1, rfl, by omega, hc1, rfl, rfl⟩ fun m st hJ => ?_
    obtain ⟨j, c2, rfl, hj, hc2, hsk, rfl⟩ := hJ
    have hcc : fget (fset up 2 p (.vec 3 g (i64s c2))) 2 p = some (.vec 3 g (i64s c2)) := by rw [fget_fset, if_pos ⟨rfl, rfl⟩, hc]; rfl
    refine Run.seq ?_
    refine Run.seq ?_
    rcases Bool.eq_false_or_eq_true (decide (0 < j)) with hs4 | hs4
    · skip
      have hjp := of_decide_eq_true hs4
      obtain ⟨q, hq⟩ : ∃ q, j = q + 1 := ⟨j - 1, by omega⟩
      have dj : decide ((0 : Int) < (j : Int)) = true := decide_eq_true (by omega)
      have gj := i64s_get c2 j (by omega)
      have gq := i64s_get c2 q (by omega)
      have wj : IntKind.i64.wrap ((j : Int) - 1) = (q : Int) := by rw [wrap64 (by omega)]; omega
      have j1 : (j : Int) < (n : Int) := by omega
      have q1 : (q : Int) < (n : Int) := by omega
      have jl : j < (i64s c2).length := by simp; omega
      have ql : q < (i64s c2).length := by simp; omega
      have fx := And.intro ql (And.intro jl (And.intro q1 (And.intro j1 (And.intro wj (And.intro gq (And.intro gj (And.intro dj (And.intro hs4 (And.intro hcc (And.intro wi (And.intro (@List.length_set.{0}) (And.intro (@Int.toNat_natCast) (And.intro (@Int.natCast_nonneg) (And.intro (@Nat.zero_add) ft))))))))))))))
      refine Run.drawA fun K hK => ?_
      refine DOps.sim ?_
      refine DOps.call (.im (.bool (decide (c2.getD j 0 < c2.getD q 0)))) [] [] rfl rfl rfl rfl (by kernel_rfl) (by simp [Agree]) (fun u hu => cmpLess_ok (c2.getD j 0) (c2.getD q 0) u) ?_
      refine DOps.sim ?_
      refine DOps.nil (metAll_quiet rfl) (hK _ ?_); clear hK K
      refine End.kp [0, 1, 2, 6, 7, 30] ?_
      refine Run.cond _ rfl (fun hb => ?_) (fun hb => ?_)
      · have hb3 := of_decide_eq_true hb
        have hsw := swap_cells c2 j q
        have hsn : sink c1 i = sink (Sol.swapAt c2 j q) q := by rw [hsk, hq, sink, if_pos (by rw [← hq]; exact hb3)]
        refine Run.skip ?_
        refine End.kp [0, 1, 2, 6, 7] ?_
        refine Run.seq ?_
        refine Run.block ?_
        have fx := And.intro hc (And.intro (@fget_fset) (And.intro ql (And.intro jl (And.intro q1 (And.intro j1 (And.intro wj (And.intro gq (And.intro gj (And.intro dj (And.intro hs4 (And.intro hcc (And.intro wi (And.intro (@List.length_set.{0}) (And.intro (@Int.toNat_natCast) (And.intro (@Int.natCast_nonneg) (And.intro (@Nat.zero_add) ft))))))))))))))))
        refine Run.drawA fun K hK => ?_
        refine DOps.sim ?_
        refine DOps.nil ?_ (hK _ ?_)
        · rfl
        clear hK K
        refine End.blk ?_
        refine End.kp [0, 1, 2, 6, 7] ?_
        refine Run.go ?_
        refine End.lp ?_
        refine ⟨q, _, by omega, Ghost.form [(0, .vs 3 p 0 n g), (1, .i 0), (2, .i (n : Nat)), (6, .i (i : Nat)), (7, .i (q : Nat))] 0 ⟨rfl, rfl, rfl, rfl, rfl, trivial⟩ rfl (by simp only [ASt.push, List.nil_append, List.cons_append, List.take_succ_cons, List.take_zero, List.all_cons, List.all_nil, AObj.under, PV.under, Bool.and_true, Bool.and_self]), q, Sol.swapAt c2 j q, rfl, by omega, by rw [swapAt_len]; exact hc2, hsn, ?_⟩
        rw [hsw]
        rfl
      · have hb3 := of_decide_eq_false hb
        have hsn : sink c1 i = c2 := by rw [hsk, hq, sink, if_neg (by rw [← hq]; exact hb3)]
        refine Run.exit rfl ?_
        refine End.blk ?_
        refine End.kp [0, 1, 2, 6] ?_
        have fx := And.intro ql (And.intro jl (And.intro q1 (And.intro j1 (And.intro wj (And.intro gq (And.intro gj (And.intro dj (And.intro hs4 (And.intro hcc (And.intro wi (And.intro (@List.length_set.{0}) (And.intro (@Int.toNat_natCast) (And.intro (@Int.natCast_nonneg) (And.intro (@Nat.zero_add) ft))))))))))))))
        refine Run.go ?_
        refine End.lp ?_
        refine ⟨n - (i + 1), _, by omega, Ghost.form [(0, .vs 3 p 0 n g), (1, .i 0), (2, .i (n : Nat)), (6, .i (i + 1 : Nat))] 0 ⟨rfl, rfl, rfl, rfl, trivial⟩ rfl (by simp only [ASt.push, List.nil_append, List.cons_append, List.take_succ_cons, List.take_zero, List.all_cons, List.all_nil, AObj.under, PV.under, Bool.and_true, Bool.and_self]), i + 1, c2, rfl, by omega, by omega, ?_, rfl⟩
        rw [hsr, show n - i = (n - (i + 1)) + 1 by omega, sorts, if_pos (by omega), hsn]
    · skip
      have hjp := of_decide_eq_false hs4
      have dj : decide ((0 : Int) < (j : Int)) = false := decide_eq_false (by omega)
      have gj : True := trivial
      have gq : True := trivial
      have wj : True := trivial
      have j1 : True := trivial
      have q1 : True := trivial
      have jl : True := trivial
      have ql : True := trivial
      have fx := And.intro ql (And.intro jl (And.intro q1 (And.intro j1 (And.intro wj (And.intro gq (And.intro gj (And.intro dj (And.intro hs4 (And.intro hcc (And.intro wi (And.intro (@List.length_set.{0}) (And.intro (@Int.toNat_natCast) (And.intro (@Int.natCast_nonneg) (And.intro (@Nat.zero_add) ft))))))))))))))
      refine Run.drawA fun K hK => ?_
      refine DOps.sim ?_
      refine DOps.nil (metAll_quiet rfl) (hK _ ?_); clear hK K
      refine End.kp [0, 1, 2, 6, 7, 30] ?_
      refine Run.cond _ rfl (fun hb => ?_) (fun hb => ?_)
      · have hb3 := hb
        simp at hb
      · have hb3 := hb
        have hsn : sink c1 i = c2 := by rw [hsk, show j = 0 by omega]; rfl
        refine Run.exit rfl ?_
        refine End.blk ?_
        refine End.kp [0, 1, 2, 6] ?_
        have fx := And.intro ql (And.intro jl (And.intro q1 (And.intro j1 (And.intro wj (And.intro gq (And.intro gj (And.intro dj (And.intro hs4 (And.intro hcc (And.intro wi (And.intro (@List.length_set.{0}) (And.intro (@Int.toNat_natCast) (And.intro (@Int.natCast_nonneg) (And.intro (@Nat.zero_add) ft))))))))))))))
        refine Run.go ?_
        refine End.lp ?_
        refine ⟨n - (i + 1), _, by omega, Ghost.form [(0, .vs 3 p 0 n g), (1, .i 0), (2, .i (n : Nat)), (6, .i (i + 1 : Nat))] 0 ⟨rfl, rfl, rfl, rfl, trivial⟩ rfl (by simp only [ASt.push, List.nil_append, List.cons_append, List.take_succ_cons, List.take_zero, List.all_cons, List.all_nil, AObj.under, PV.under, Bool.and_true, Bool.and_self]), i + 1, c2, rfl, by omega, by omega, ?_, rfl⟩
        rw [hsr, show n - i = (n - (i + 1)) + 1 by omega, sorts, if_pos (by omega), hsn]
  · have hb2 := of_decide_eq_false hb
    refine Run.exit rfl ?_
    refine End.all (hQ _ _ ⟨.inl rfl, _, rfl, _, rfl, ?_⟩)
    refine ⟨rfl, ?_⟩
    rw [hsr, show n - i = 0 by omega]
    rfl
end Go.Proofs.YtdgpmopcmacicaaPi

/- The walk of the library's search in a sorted row. -/
set_option linter.unusedVariables false
set_option linter.unusedSimpArgs false
set_option maxRecDepth 100000
namespace Go.Proofs.YtdgpmopcmacicaaPi
set_option maxHeartbeats 40000000
def Up (c : List Int) : Prop := ∀ i j, i ≤ j → j < c.length → c.getD i 0 ≤ c.getD j 0
theorem mem_at {c : List Int} {t : Int} (h : t ∈ c) : ∃ k, k < c.length ∧ c.getD k 0 = t := by
  obtain ⟨k, hk, e⟩ := List.getElem_of_mem h
  exact ⟨k, hk, by rw [List.getD_eq_getElem?_getD, List.getElem?_eq_getElem hk]; exact e⟩
theorem slNaN_ok (x : Int) (up : Frs) : ACalls Try.prog 205 [.i x] up fun v u => v = .im (.bool false) ∧ u = up := by
  have e0 : (x != x) = false := by simp
  refine ACalls.code Try.func205 rfl 6 rfl (by simp) [.tmp 2] rfl fun Q hQ => ?_
  simp only [ups, PV.up, argEnv]
  have ft := And.intro ty_3 (And.intro ty_4 trivial)
  refine Run.seq ?_
  have fx := And.intro e0 ft
  refine Run.go ?_
  refine End.kp [0] ?_
  refine Run.seq ?_
  refine Run.go ?_
  refine End.kp [2] ?_
  refine Run.ret (hQ _ _ ⟨.inr rfl, _, rfl, _, rfl, ?_⟩)
  exact ⟨rfl, rfl⟩
theorem bsV_ok (p g n : Nat) (t : Int) (c : List Int) (rest : List PV) (up : Frs) (hc : fget up 0 p = some (.vec 3 g (i64s c ++ rest))) (hn : n = c.length) (hl : n ≤ 1000000) (hs : Up c) : ACalls Try.prog 195 [.vs 0 p 0 n g, .i t] up fun v u => (∃ k : Int, v = .tup [.i k, .im (.bool (decide (t ∈ c)))]) ∧ u = up := by
  refine ACalls.code Try.func195 rfl 54 rfl (by simp) [.tmp 4, .tmp 5] rfl fun Q hQ => ?_
  simp only [ups, PV.up, argEnv]
  have ft := And.intro ty_3 (And.intro ty_4 (And.intro ty_22 (And.intro ty_198 trivial)))
  refine Run.seq ?_
  have fx := And.intro (@Int.toNat_natCast) (And.intro (@Int.natCast_nonneg) (And.intro (@Nat.zero_add) (And.intro hc ft)))
  refine Run.go ?_
  refine End.kp [0, 1] ?_
  refine Run.seq ?_
  refine Run.go ?_
  refine End.kp [0, 1, 6] ?_
  refine Run.seq ?_
  refine Run.go ?_
  refine End.kp [0, 1, 6, 7, 8] ?_
  refine Run.seq ?_
  refine Run.block ?_
  refine Run.ghost (Ghost.form [(0, .vs 1 p 0 n g), (1, .i t), (6, .i (n : Nat)), (7, .i 0), (8, .i (n : Nat))] 0 ⟨rfl, rfl, rfl, rfl, rfl, trivial⟩ rfl (by simp only [ASt.push, List.nil_append, List.cons_append, List.take_succ_cons, List.take_zero, List.all_cons, List.all_nil, AObj.under, PV.under, Bool.and_true, Bool.and_self])) ?_
  refine Run.loop (fun m st => ∃ (i j : Nat), m = j - i ∧ i ≤ j ∧ j ≤ n ∧ (∀ k, k < i → c.getD k 0 < t) ∧ (∀ k, j ≤ k → k < n → t ≤ c.getD k 0) ∧ st = ⟨[(0, .vs 1 p 0 n g), (1, .i t), (6, .i (n : Nat)), (7, .i (i : Nat)), (8, .i (j : Nat))], [], up⟩) n ⟨0, n, rfl, by omega, by omega, fun k hk => by omega, fun k h1 h2 => by omega, rfl⟩ fun m st hI => ?_
  obtain ⟨i, j, rfl, hij, hjn, hlo, hhi, rfl⟩ := hI
  refine Run.seq ?_
  refine Run.seq ?_
  have fx := And.intro (@Int.toNat_natCast) (And.intro (@Int.natCast_nonneg) (And.intro (@Nat.zero_add) (And.intro hc ft)))
  refine Run.go ?_
  refine End.kp [0, 1, 6, 7, 8, 15] ?_
  refine Run.cond _ rfl (fun hb => ?_) (fun hb => ?_)
  · have hb2 := of_decide_eq_true hb
    obtain ⟨h, hh⟩ : ∃ h, h = (i + j) / 2 := ⟨_, rfl⟩
    have wa : IntKind.i64.wrap ((i : Int) + (j : Int)) = ((i + j : Nat) : Int) := by rw [wrap64 (by omega)]; rfl
    have wu : IntKind.u64.wrap ((i + j : Nat) : Int) = ((i + j : Nat) : Int) := by simp [IntKind.wrap, IntKind.signed, IntKind.bits]; omega
    have wh : IntKind.i64.wrap (((i + j : Nat) : Int).fdiv (2 ^ min 1 IntKind.u64.bits)) = (h : Int) := by
      show IntKind.i64.wrap (((i + j : Nat) : Int).fdiv 2) = _
      rw [Int.fdiv_eq_ediv_of_nonneg _ (by decide), wrap64 (by omega)]
      omega
    have wh2 := csucc (i := h) (n := n) (by omega) (by omega)
    have gh := i64s_get c h (by omega)
    have gh2 : (i64s c ++ rest)[h]? = some (.im (.int .i64 (c.getD h 0))) := by rw [List.getElem?_append_left (by simp; omega)]; exact gh
    have hhn : (h : Int) < (n : Int) := by omega
    refine Run.skip ?_
    refine End.kp [0, 1, 6, 7, 8] ?_
    refine Run.block ?_
    refine Run.seq ?_
    have fx := And.intro hhn (And.intro gh2 (And.intro wh2 (And.intro wh (And.intro wu (And.intro wa (And.intro (@Int.toNat_natCast) (And.intro (@Int.natCast_nonneg) (And.intro (@Nat.zero_add) (And.intro hc ft)))))))))
    refine Run.go ?_
    refine End.kp [0, 1, 6, 7, 8, 9] ?_
    refine Run.seq ?_
    refine Run.region rfl fun K hK => GOps.sim ?_
    refine GOps.call rfl rfl rfl rfl (by kernel_rfl) (ACalls.sim ?_)
    refine (cmpLess_ok (c.getD h 0) t _).mono fun v u hv => ?_
    obtain ⟨rfl, rfl⟩ := hv
    refine ⟨_, _, rfl, GOps.sim ?_⟩
    refine GOps.done (hK _ ?_); clear hK K
    refine End.kp [0, 1, 6, 7, 8, 9, 27] ?_
    refine Run.cond _ rfl (fun hb => ?_) (fun hb => ?_)
    · have hb3 := of_decide_eq_true hb
      have fx := And.intro hhn (And.intro gh2 (And.intro wh2 (And.intro wh (And.intro wu (And.intro wa (And.intro (@Int.toNat_natCast) (And.intro (@Int.natCast_nonneg) (And.intro (@Nat.zero_add) (And.intro hc ft)))))))))
      refine Run.go ?_
      refine End.blk ?_
      refine End.lp ?_
      refine ⟨j - (h + 1), _, by omega, Ghost.form [(0, .vs 1 p 0 n g), (1, .i t), (6, .i (n : Nat)), (7, .i (h + 1 : Nat)), (8, .i (j : Nat))] 0 ⟨rfl, rfl, rfl, rfl, rfl, trivial⟩ rfl (by simp only [ASt.push, List.nil_append, List.cons_append, List.take_succ_cons, List.take_zero, List.all_cons, List.all_nil, AObj.under, PV.under, Bool.and_true, Bool.and_self]), h + 1, j, rfl, by omega, by omega, fun k hk => ?_, hhi, rfl⟩
      have := hs k h (by omega) (by omega)
      omega
    · have hb3 := of_decide_eq_false hb
      have fx := And.intro hhn (And.intro gh2 (And.intro wh2 (And.intro wh (And.intro wu (And.intro wa (And.intro (@Int.toNat_natCast) (And.intro (@Int.natCast_nonneg) (And.intro (@Nat.zero_add) (And.intro hc ft)))))))))
      refine Run.go ?_
      refine End.blk ?_
      refine End.lp ?_
      refine ⟨h - i, _, by omega, Ghost.form [(0, .vs 1 p 0 n g), (1, .i t), (6, .i (n : Nat)), (7, .i (i : Nat)), (8, .i (h : Nat))] 0 ⟨rfl, rfl, rfl, rfl, rfl, trivial⟩ rfl (by simp only [ASt.push, List.nil_append, List.cons_append, List.take_succ_cons, List.take_zero, List.all_cons, List.all_nil, AObj.under, PV.under, Bool.and_true, Bool.and_self]), i, h, rfl, by omega, by omega, hlo, fun k h1 h2 => ?_, rfl⟩
      have := hs h k (by omega) (by omega)
      omega
  · have hb2 := of_decide_eq_false hb
    have hij2 : i = j := by omega
    refine Run.exit rfl ?_
    refine End.kp [0, 1, 6, 7] ?_
    refine Run.seq ?_
    rcases Bool.eq_false_or_eq_true (decide (i < n)) with hs8 | hs8
    · skip
      have hin := of_decide_eq_true hs8
      have di : decide ((i : Int) < (n : Int)) = true := decide_eq_true (by omega)
      have gi := i64s_get c i (by omega)
      have gi2 : (i64s c ++ rest)[i]? = some (.im (.int .i64 (c.getD i 0))) := by rw [List.getElem?_append_left (by simp; omega)]; exact gi
      have hii : (i : Int) < (n : Int) := by omega
      rcases Bool.eq_false_or_eq_true ((c.getD i 0 == t)) with hs8b | hs8b
      · skip
        have fx := And.intro hii (And.intro gi2 (And.intro di (And.intro hs8b (And.intro hs8 (And.intro (@Int.toNat_natCast) (And.intro (@Int.natCast_nonneg) (And.intro (@Nat.zero_add) (And.intro hc ft))))))))
        refine Run.region rfl fun K hK => GOps.sim ?_
        refine GOps.done (hK _ ?_); clear hK K
        refine End.kp [4, 5] ?_
        refine Run.ret (hQ _ _ ⟨.inr rfl, _, rfl, _, rfl, ?_⟩)
        have hm : decide (t ∈ c) = true := decide_eq_true (by rw [← eq_of_beq hs8b]; exact getD_mem (by omega))
        rw [hm]
        exact ⟨⟨_, rfl⟩, rfl⟩
      · skip
        have fx := And.intro hii (And.intro gi2 (And.intro di (And.intro hs8b (And.intro hs8 (And.intro (@Int.toNat_natCast) (And.intro (@Int.natCast_nonneg) (And.intro (@Nat.zero_add) (And.intro hc ft))))))))
        refine Run.region rfl fun K hK => GOps.sim ?_
        refine GOps.call rfl rfl rfl rfl (by kernel_rfl) (ACalls.sim ?_)
        refine (slNaN_ok _ _).mono fun v u hv => ?_
        obtain ⟨rfl, rfl⟩ := hv
        refine ⟨_, _, rfl, GOps.sim ?_⟩
        refine GOps.done (hK _ ?_); clear hK K
        refine End.kp [4, 5] ?_
        refine Run.ret (hQ _ _ ⟨.inr rfl, _, rfl, _, rfl, ?_⟩)
        have hne : c.getD i 0 ≠ t := ne_of_beq_false hs8b
        have hm : decide (t ∈ c) = false := decide_eq_false (fun h => by
          obtain ⟨k, hk, e⟩ := mem_at h
          by_cases h1 : k < i
          · have := hlo k h1; omega
          · have h2 := hs i k (by omega) hk
            have h3 := hhi i (by omega) (by omega)
            omega)
        rw [hm]
        exact ⟨⟨_, rfl⟩, rfl⟩
    · skip
      have hin := of_decide_eq_false hs8
      have di : decide ((i : Int) < (n : Int)) = false := decide_eq_false (by omega)
      have gi2 : True := trivial
      have hii : True := trivial
      have fx := And.intro hii (And.intro gi2 (And.intro di (And.intro hs8 (And.intro (@Int.toNat_natCast) (And.intro (@Int.natCast_nonneg) (And.intro (@Nat.zero_add) (And.intro hc ft)))))))
      refine Run.region rfl fun K hK => GOps.sim ?_
      refine GOps.done (hK _ ?_); clear hK K
      refine End.kp [4, 5] ?_
      refine Run.ret (hQ _ _ ⟨.inr rfl, _, rfl, _, rfl, ?_⟩)
      have hm : decide (t ∈ c) = false := decide_eq_false (fun h => by
        obtain ⟨k, hk, e⟩ := mem_at h
        have := hlo k (by omega)
        omega)
      rw [hm]
      exact ⟨⟨_, rfl⟩, rfl⟩
end Go.Proofs.YtdgpmopcmacicaaPi

/- Plain: rows that are sorted, each number once. No program in sight. -/
set_option linter.unusedVariables false
set_option linter.unusedSimpArgs false
namespace Go.Proofs.YtdgpmopcmacicaaPi
/-- The first j numbers, without those that stand beside an equal one before. -/
def ddN (c : List Int) : Nat → List Int
  | 0 => []
  | j + 1 => if 0 < j ∧ c.getD j 0 = c.getD (j - 1) 0 then ddN c j else ddN c j ++ [c.getD j 0]
def dd (c : List Int) : List Int := ddN c c.length
theorem ddN_len (c : List Int) : ∀ j, (ddN c j).length ≤ j
  | 0 => Nat.le_refl _
  | j + 1 => by
    have := ddN_len c j
    rw [ddN]
    split
    · omega
    · simp; omega
theorem ddN_take (c : List Int) : ∀ j, j ≤ c.length → (∀ i, 1 ≤ i → i < j → c.getD i 0 ≠ c.getD (i - 1) 0) → ddN c j = c.take j
  | 0, _, _ => by simp [ddN]
  | j + 1, h, h2 => by
    rw [ddN, if_neg (fun h3 => h2 j (by omega) (by omega) h3.2), ddN_take c j (by omega) (fun i h3 h4 => h2 i h3 (by omega)), List.take_add_one, getD_some 0 (show j < c.length by omega)]
    rfl
theorem ddN_mem (c : List Int) : ∀ j, j ≤ c.length → ∀ x, x ∈ ddN c j ↔ ∃ i, i < j ∧ c.getD i 0 = x
  | 0, _, x => by simp [ddN]
  | j + 1, h, x => by
    have ih := ddN_mem c j (by omega)
    rw [ddN]
    split
    · rename_i h1
      rw [ih]
      constructor
      · rintro ⟨i, h2, h3⟩; exact ⟨i, by omega, h3⟩
      · rintro ⟨i, h2, h3⟩
        by_cases e : i = j
        · subst e; exact ⟨i - 1, by omega, by rw [← h1.2]; exact h3⟩
        · exact ⟨i, by omega, h3⟩
    · rw [List.mem_append, ih, List.mem_singleton]
      constructor
      · rintro (⟨i, h2, h3⟩ | h2)
        · exact ⟨i, by omega, h3⟩
        · exact ⟨j, by omega, h2.symm⟩
      · rintro ⟨i, h2, h3⟩
        by_cases e : i = j
        · subst e; exact .inr h3.symm
        · exact .inl ⟨i, by omega, h3⟩
theorem dd_mem (c : List Int) (x : Int) : x ∈ dd c ↔ x ∈ c := by
  rw [dd, ddN_mem c _ (Nat.le_refl _)]
  constructor
  · rintro ⟨i, h1, h2⟩; rw [← h2]; exact getD_mem h1
  · intro h; obtain ⟨k, h1, h2⟩ := mem_getD (d := 0) h; exact ⟨k, h1, h2⟩
theorem ddN_strict (c : List Int) (hu : Up c) : ∀ j, j ≤ c.length → (∀ a b, a < b → b < (ddN c j).length → (ddN c j).getD a 0 < (ddN c j).getD b 0) ∧ ∀ x ∈ ddN c j, x ≤ c.getD (j - 1) 0
  | 0, _ => ⟨fun a b _ h => by simp [ddN] at h, fun x h => by simp [ddN] at h⟩
  | j + 1, h => by
    obtain ⟨h1, h2⟩ := ddN_strict c hu j (by omega)
    rw [ddN]
    split
    · rename_i h3
      exact ⟨h1, fun x hx => by have := h2 x hx; simp only [Nat.add_sub_cancel]; omega⟩
    · rename_i h3
      have hlt : ∀ x ∈ ddN c j, x < c.getD j 0 := fun x hx => by
        have h4 := h2 x hx
        have hj : 0 < j := by
          cases j with
          | zero => simp [ddN] at hx
          | succ j => omega
        have := hu (j - 1) j (by omega) (by omega)
        have : c.getD j 0 ≠ c.getD (j - 1) 0 := fun e => h3 ⟨hj, e⟩
        omega
      have sg : ∀ i, (ddN c j ++ [c.getD j 0]).getD i 0 = if i < (ddN c j).length then (ddN c j).getD i 0 else if i = (ddN c j).length then c.getD j 0 else 0 := fun i => by
        simp only [List.getD_eq_getElem?_getD, List.getElem?_append]
        split
        · rfl
        · rename_i h
          by_cases e : i = (ddN c j).length
          · subst e; simp
          · rw [if_neg e, List.getElem?_eq_none (by simp; omega)]; rfl
      refine ⟨fun a b hab hb => ?_, fun x hx => ?_⟩
      · simp only [List.length_append, List.length_cons, List.length_nil] at hb
        rw [sg, sg, if_pos (by omega)]
        split
        · exact h1 a b hab (by omega)
        · rw [if_pos (by omega)]
          exact hlt _ (getD_mem (by omega))
      · simp only [Nat.add_sub_cancel]
        rcases List.mem_append.1 hx with hx | hx
        · have := hlt x hx; omega
        · rw [List.mem_singleton.1 hx]; exact Int.le_refl _
theorem dd_up {c : List Int} (hu : Up c) : Up (dd c) := fun i j hij hj => by
  by_cases e : i = j
  · subst e; exact Int.le_refl _
  · exact Int.le_of_lt ((ddN_strict c hu _ (Nat.le_refl _)).1 i j (by omega) hj)
theorem dd_dis {c : List Int} (hu : Up c) : Dis (dd c) := fun i j hi hj e => by
  have h := (ddN_strict c hu _ (Nat.le_refl _)).1
  by_cases h1 : i < j
  · have := h i j h1 hj; unfold dd at e; omega
  · by_cases h2 : j < i
    · have := h j i h2 hi; unfold dd at e; omega
    · omega
/-- Sorting. -/
theorem sink_iff (x : Int) : ∀ (j : Nat) (c : List Int), j < c.length → (x ∈ sink c j ↔ x ∈ c)
  | 0, c, h => Iff.rfl
  | j + 1, c, h => by
    rw [sink]
    split
    · rw [sink_iff x j _ (by rw [swapAt_len]; omega)]
      exact swapAt_iff h (by omega) x
    · exact Iff.rfl
theorem sink_far : ∀ (j : Nat) (c : List Int), j < c.length → ∀ i, j < i → (sink c j).getD i 0 = c.getD i 0
  | 0, c, h, i, hi => rfl
  | j + 1, c, h, i, hi => by
    rw [sink]
    split
    · rw [sink_far j _ (by rw [swapAt_len]; omega) i (by omega), swapAt_get h (by omega), if_neg (by omega), if_neg (by omega)]
    · rfl
theorem sink_le : ∀ (j : Nat) (c : List Int) (m : Int), j < c.length → (∀ i, i ≤ j → c.getD i 0 ≤ m) → ∀ i, i ≤ j → (sink c j).getD i 0 ≤ m
  | 0, c, m, h, h1, i, hi => h1 i hi
  | j + 1, c, m, h, h1, i, hi => by
    rw [sink]
    split
    · have hj : j < (Sol.swapAt c (j + 1) j).length := by rw [swapAt_len]; omega
      have hb : ∀ i, i ≤ j + 1 → (Sol.swapAt c (j + 1) j).getD i 0 ≤ m := fun i hi => by
        rw [swapAt_get h (by omega)]
        split
        · exact h1 _ (Nat.le_refl _)
        · split
          · exact h1 _ (by omega)
          · exact h1 i hi
      by_cases e : i ≤ j
      · exact sink_le j _ m hj (fun i hi => hb i (by omega)) i e
      · rw [sink_far j _ hj i (by omega)]
        exact hb i hi
    · exact h1 i hi
theorem sink_up : ∀ (j : Nat) (c : List Int), j < c.length → (∀ a b, a ≤ b → b < j → c.getD a 0 ≤ c.getD b 0) → ∀ a b, a ≤ b → b ≤ j → (sink c j).getD a 0 ≤ (sink c j).getD b 0
  | 0, c, h, h1, a, b, hab, hb => by rw [show a = b by omega]; exact Int.le_refl _
  | j + 1, c, h, h1, a, b, hab, hb => by
    have hj : j < (Sol.swapAt c (j + 1) j).length := by rw [swapAt_len]; omega
    rw [sink]
    split
    · rename_i hlt
      have hsame : ∀ i, i < j → (Sol.swapAt c (j + 1) j).getD i 0 = c.getD i 0 := fun i hi => by rw [swapAt_get h (by omega), if_neg (by omega), if_neg (by omega)]
      by_cases e : b ≤ j
      · exact sink_up j _ hj (fun a b hab hb => by rw [hsame a (by omega), hsame b hb]; exact h1 a b hab (by omega)) a b hab e
      · have eb : b = j + 1 := by omega
        subst eb
        by_cases ea : a = j + 1
        · subst ea; exact Int.le_refl _
        · rw [sink_far j _ hj (j + 1) (by omega)]
          refine sink_le j _ _ hj (fun i hi => ?_) a (by omega)
          rw [swapAt_get h (by omega), swapAt_get h (by omega)]
          simp only [if_neg (show ¬ (j + 1 = j) by omega), if_true]
          by_cases ei : i = j
          · rw [if_pos ei]; omega
          · rw [if_neg ei, if_neg (by omega)]
            exact h1 i j (by omega) (by omega)
    · rename_i hge
      by_cases e : b ≤ j
      · exact h1 a b hab (by omega)
      · have eb : b = j + 1 := by omega
        subst eb
        by_cases ea : a = j + 1
        · subst ea; exact Int.le_refl _
        · have := h1 a j (by omega) (by omega)
          omega
theorem sorts_spec : ∀ (f : Nat) (c : List Int) (i : Nat), c.length ≤ f + i → 1 ≤ i → (∀ a b, a ≤ b → b < i → b < c.length → c.getD a 0 ≤ c.getD b 0) → (sorts f c i).length = c.length ∧ (∀ x, x ∈ sorts f c i ↔ x ∈ c) ∧ Up (sorts f c i)
  | 0, c, i, h, h1, h2 => ⟨rfl, fun _ => Iff.rfl, fun a b hab hb => h2 a b hab (by have : b < c.length := hb; omega) hb⟩
  | f + 1, c, i, h, h1, h2 => by
    rw [sorts]
    split
    · rename_i hi
      have hl := sink_len c i
      obtain ⟨a1, a2, a3⟩ := sorts_spec f (sink c i) (i + 1) (by rw [hl]; omega) (by omega) (fun a b hab hb _ => sink_up i c hi (fun a b hab hb => h2 a b hab hb (by omega)) a b hab (by omega))
      exact ⟨a1.trans hl, fun x => (a2 x).trans (sink_iff x i c hi), a3⟩
    · rename_i hi
      exact ⟨rfl, fun _ => Iff.rfl, fun a b hab hb => h2 a b hab (by have : b < c.length := hb; omega) hb⟩
/-- A clause in order: sorted, each literal once. -/
def tidyL (c : List Int) : List Int := dd (sorts (c.length - 1) c 1)
theorem tidyL_spec (c : List Int) : Dis (tidyL c) ∧ Up (tidyL c) ∧ (∀ x, x ∈ tidyL c ↔ x ∈ c) ∧ (tidyL c).length ≤ c.length := by
  obtain ⟨h1, h2, h3⟩ := sorts_spec (c.length - 1) c 1 (by omega) (by omega) (fun a b hab hb _ => by rw [show a = b by omega]; exact Int.le_refl _)
  exact ⟨dd_dis h3, dd_up h3, fun x => (dd_mem _ x).trans (h2 x), by have := ddN_len (sorts (c.length - 1) c 1) (sorts (c.length - 1) c 1).length; rw [h1] at this; unfold tidyL dd; rw [h1]; exact this⟩
/-- A clause holds a literal and its negative. -/
def taut (c : List Int) : Bool := decide (∃ l ∈ c, -l ∈ c)
namespace Sol
/-- One clause is taken in. -/
def take1 (S : Sol) (c : List Int) : Sol × Bool :=
  if taut (tidyL c) = true then (S, true)
  else if (tidyL c).length = 1 then
    (if S.is ((tidyL c).getD 0 0) = -1 then (S, false) else if S.is ((tidyL c).getD 0 0) = 0 then (S.set ((tidyL c).getD 0 0) (-1), true) else (S, true))
  else if 2 ≤ (tidyL c).length then (S.add (tidyL c), true) else (S, false)
def load : List (List Int) → Sol → Sol × Bool
  | [], S => (S, true)
  | c :: cs, S => match S.take1 c with
    | (S', true) => load cs S'
    | (S', false) => (S', false)
end Sol
theorem load_yes {S S' : Sol} {c : List Int} {cs : List (List Int)} (h : S.take1 c = (S', true)) : Sol.load (c :: cs) S = Sol.load cs S' := by rw [Sol.load, h]
theorem load_no {S S' : Sol} {c : List Int} {cs : List (List Int)} (h : S.take1 c = (S', false)) : Sol.load (c :: cs) S = (S', false) := by rw [Sol.load, h]
end Go.Proofs.YtdgpmopcmacicaaPi

/- Plain: the search as a whole, for clauses that some model fulfils. No program in sight. -/
set_option linter.unusedVariables false
set_option linter.unusedSimpArgs false
set_option linter.unusedSectionVars false
namespace Go.Proofs.YtdgpmopcmacicaaPi
structure Base (M : Nat → Bool) (S : Sol) (B : Nat) : Prop where
  sw : SW S B
  calm : Calm S
  hst : ∀ x ∈ S.st, x < S.tr.length
  hsh : ∀ x ∈ S.st, x ≤ S.head
  n1 : 1 ≤ S.next
  n2 : S.next ≤ S.n + 1
  snd : Snd M S
/-- A clause that was taken in. -/
def Cov (S : Sol) (c : List Int) : Prop := taut c = true ∨ (∃ l ∈ c, ∃ i, i < S.tr.length ∧ S.lit i = l ∧ ∀ s ∈ S.st, i < s) ∨ ∃ k, k < S.cl.length ∧ ∀ x, x ∈ S.cla k ↔ x ∈ c
theorem Cov.ext {S S' : Sol} {c : List Int} (h : Cov S c) (k : Ext S S') : Cov S' c := by
  rcases h with h | ⟨l, h1, i, h2, h3, h4⟩ | ⟨q, h1, h2⟩
  · exact .inl h
  · exact .inr (.inl ⟨l, h1, i, Nat.lt_of_lt_of_le h2 k.trp, by rw [k.lits i h2]; exact h3, by rw [k.st]; exact h4⟩)
  · exact .inr (.inr ⟨q, by rw [k.cln]; exact h1, fun x => (k.cls q h1 x).trans (h2 x)⟩)
theorem Cov.decide {S : Sol} {c : List Int} (h : Cov S c) (p : Nat) (w : Int) : Cov ((S.start p).set (-(p : Int)) w) c := by
  rcases h with h | ⟨l, h1, i, h2, h3, h4⟩ | ⟨q, h1, h2⟩
  · exact .inl h
  · refine .inr (.inl ⟨l, h1, i, by simp [Sol.set, Sol.start]; omega, by rw [lit_set, if_pos (show i < (S.start p).tr.length from h2)]; exact h3, fun s hs => ?_⟩)
    rcases List.mem_append.1 (show s ∈ S.st ++ [S.tr.length] from hs) with h5 | h5
    · exact h4 s h5
    · rw [List.mem_singleton.1 h5]; exact h2
  · exact .inr (.inr ⟨q, h1, h2⟩)
theorem Cov.back {S S1 : Sol} {d : Nat} {c : List Int} (h : Cov S c) (hb : Bk S d S1) (hd : d < S.st.length) : Cov S1 c := by
  rcases h with h | ⟨l, h1, i, h2, h3, h4⟩ | ⟨q, h1, h2⟩
  · exact .inl h
  · have hi : i < S1.tr.length := by rw [hb.trl]; exact h4 _ (getD_mem hd)
    refine .inr (.inl ⟨l, h1, i, hi, by rw [hb.lits i hi]; exact h3, fun s hs => h4 s ?_⟩)
    rw [hb.st] at hs
    exact List.mem_of_mem_take hs
  · exact .inr (.inr ⟨q, by rw [hb.cl]; exact h1, fun x => by unfold Sol.cla at h2 ⊢; rw [hb.cl]; exact h2 x⟩)
theorem Cov.set {S : Sol} {c : List Int} (h : Cov S c) (l w : Int) : Cov (S.set l w) c := by
  rcases h with h | ⟨l2, h1, i, h2, h3, h4⟩ | ⟨q, h1, h2⟩
  · exact .inl h
  · exact .inr (.inl ⟨l2, h1, i, by simp [Sol.set]; omega, by rw [lit_set, if_pos h2]; exact h3, h4⟩)
  · exact .inr (.inr ⟨q, h1, h2⟩)
theorem Cov.add {S : Sol} {c : List Int} (h : Cov S c) (e : List Int) : Cov (S.add e) c := by
  rcases h with h | h | ⟨q, h1, h2⟩
  · exact .inl h
  · exact .inr (.inl h)
  · exact .inr (.inr ⟨q, by simp [Sol.add]; omega, fun x => by rw [add_cla, if_pos h1]; exact h2 x⟩)
theorem Cov.heed {S : Sol} {c : List Int} (h : Cov S c) (e : List Int) : Cov (S.heed e) c := by
  unfold Sol.heed
  split
  · exact (h.add e).set _ _
  · exact h.set _ _
/-- A search that stands at a false clause. -/
structure Bad (M : Nat → Bool) (S : Sol) (B k : Nat) : Prop where
  sw : SW S B
  con : Confl S k
  hst : ∀ x ∈ S.st, x < S.tr.length
  hsh : ∀ x ∈ S.st, x ≤ S.head
  n1 : 1 ≤ S.next
  n2 : S.next ≤ S.n + 1
  snd : Snd M S
theorem Base.spread {M : Nat → Bool} {S : Sol} {B B' f : Nat} (h : Base M S B) (hf : S.n + 1 ≤ f + S.head) (hw : SW (Sol.spread f S).1 B') : Ext S (Sol.spread f S).1 ∧
    ((Sol.spread f S).2 = none → Base M (Sol.spread f S).1 B' ∧ (Sol.spread f S).1.head = (Sol.spread f S).1.tr.length) ∧ (∀ k, (Sol.spread f S).2 = some k → Bad M (Sol.spread f S).1 B' k) := by
  obtain ⟨h1, h2, h3, h4, h5⟩ := spread_calm f S B h.sw h.calm h.hsh hf
  have a1 : ∀ x ∈ (Sol.spread f S).1.st, x < (Sol.spread f S).1.tr.length := fun x hx => by rw [h1.st] at hx; exact Nat.lt_of_lt_of_le (h.hst x hx) h1.trp
  have a2 : ∀ x ∈ (Sol.spread f S).1.st, x ≤ (Sol.spread f S).1.head := fun x hx => by rw [h1.st] at hx; exact Nat.le_trans (h.hsh x hx) h3
  have a3 : 1 ≤ (Sol.spread f S).1.next := by rw [h1.nx]; exact h.n1
  have a4 : (Sol.spread f S).1.next ≤ (Sol.spread f S).1.n + 1 := by rw [h1.nx, h1.n]; exact h.n2
  exact ⟨h1, fun hn => ⟨⟨hw, (h4 hn).1, a1, a2, a3, a4, h.snd.ext h1⟩, (h4 hn).2⟩, fun k hk => ⟨hw, h5 k hk, a1, a2, a3, a4, h.snd.ext h1⟩⟩
theorem Base.decide {M : Nat → Bool} {S : Sol} {B : Nat} (h : Base M S B) (hh : S.head = S.tr.length) :
    (S.decide.2 = false → S.decide.1 = S.nextTo (S.n + 1) ∧ ∀ v, 1 ≤ v → v ≤ S.n → S.val.getD v 0 ≠ 0) ∧
    (S.decide.2 = true → Base M S.decide.1 B ∧ S.decide.1.pot = S.pot ∧ S.decide.1.n = S.n ∧ S.decide.1.cl = S.cl ∧ S.decide.1.tr.length = S.tr.length + 1 ∧ S.tr.length < S.n ∧ ∀ c, Cov S c → Cov S.decide.1 c) := by
  obtain ⟨h1, h2⟩ := decide_calm h.sw h.calm h.hst h.n1 h.n2
  refine ⟨h1, fun hd => ?_⟩
  obtain ⟨p, p1, p2, e, hp, sw, calm, htr⟩ := h2 hd
  have hl : S.decide.1.tr.length = S.tr.length + 1 := by rw [e]; simp [Sol.set, Sol.start]
  have hs : S.decide.1.st = S.st ++ [S.tr.length] := by rw [e]; rfl
  have hhd : S.decide.1.head = S.head := by rw [e]; rfl
  have hnx : S.decide.1.next = p := by rw [e]; rfl
  have hn : S.decide.1.n = S.n := by rw [e]; rfl
  refine ⟨⟨sw, calm, fun x hx => ?_, fun x hx => ?_, by omega, by omega, by rw [e]; exact Snd.decide h.sw h.snd p1 p2 hp⟩, by rw [e]; exact decide_pot htr, hn, by rw [e]; rfl, hl, htr, fun c hc => by rw [e]; exact hc.decide p _⟩
  · rw [hs] at hx
    rcases List.mem_append.1 hx with h5 | h5
    · have := h.hst x h5; omega
    · rw [List.mem_singleton.1 h5]; omega
  · rw [hs] at hx
    rcases List.mem_append.1 hx with h5 | h5
    · have := h.hsh x h5; omega
    · rw [List.mem_singleton.1 h5]; omega
theorem Bad.pos {M : Nat → Bool} {S : Sol} {B k : Nat} (h : Bad M S B k) : 0 < S.st.length := by
  obtain ⟨i, hi, _⟩ := Confl.wrong h.sw h.con h.snd
  exact List.length_pos_of_mem hi
theorem Bad.heed {M : Nat → Bool} {S : Sol} {B k d : Nat} {c : List Int} (h : Bad M S B k) (hl : Lesson S c d) (hm : HoldsC M c) (hc : c.length ≤ 100000) (hz : S.cl.length + 1 ≤ 1000000) : Bk S d (S.back d) ∧ Heed (S.back d) c ∧ SW (S.back d) B ∧ Base M ((S.back d).heed c) (B + 2) ∧ (∀ e, Cov S e → Cov ((S.back d).heed c) e) ∧ ((S.back d).heed c).n = S.n ∧ ((S.back d).heed c).cl.length ≤ S.cl.length + 1 ∧ S.cl.length ≤ ((S.back d).heed c).cl.length := by
  obtain ⟨b1, b2⟩ := back_calm h.sw h.con.inv h.con.wat h.con.pro h.hst h.hsh hl.dl
  have hd := hl.dl
  have ht := h.hst _ (getD_mem (d := 0) hd)
  have hst1 : ∀ x ∈ (S.back d).st, x < (S.back d).tr.length := fun x hx => by
    rw [b2.st] at hx
    obtain ⟨q, hq, e⟩ := mem_getD (d := 0) hx
    have hq2 : q < d := by have : q < (S.st.take d).length := hq; simp at this; omega
    rw [take_getD _ _ hq2] at e
    rw [b2.trl, ← e]
    exact h.con.inv.sts q d hq2 hd
  have hh := hl.heed h.sw h.con.inv b2
  have hz1 : (S.back d).cl.length + 1 ≤ 1000000 := by rw [b2.cl]; exact hz
  obtain ⟨s1, s2⟩ := heed_calm b1 b2.calm b2.hd hst1 hz1 hh hc
  have snd1 := h.snd.back h.con.inv hd b2 (Nat.le_of_lt ht)
  have snd2 := heed_snd b1 snd1 hh hm
  have f1 : ((S.back d).heed c).st = (S.back d).st := by unfold Sol.heed; split <;> rfl
  have f2 : ((S.back d).heed c).tr.length = (S.back d).tr.length + 1 := by unfold Sol.heed; split <;> simp [Sol.set, Sol.add]
  have f3 : ((S.back d).heed c).head = (S.back d).head := by unfold Sol.heed; split <;> rfl
  have f4 : ((S.back d).heed c).next = (S.back d).next := by unfold Sol.heed; split <;> rfl
  have f5 : ((S.back d).heed c).n = (S.back d).n := by unfold Sol.heed; split <;> rfl
  have f6 : ((S.back d).heed c).cl.length ≤ (S.back d).cl.length + 1 ∧ (S.back d).cl.length ≤ ((S.back d).heed c).cl.length := by unfold Sol.heed; split <;> simp [Sol.set, Sol.add]
  refine ⟨b2, hh, b1, ⟨s1, s2, fun x hx => ?_, fun x hx => ?_, by rw [f4]; exact b2.nx h.n1, by rw [f4, f5, b2.n]; exact Nat.le_trans b2.nx2 h.n2, snd2⟩, fun e he => (he.back b2 hd).heed c, f5.trans b2.n, by rw [← b2.cl]; exact f6.1, by rw [← b2.cl]; exact f6.2⟩
  · rw [f1] at hx; have := hst1 x hx; omega
  · rw [f1] at hx; rw [f3, b2.hd]; exact Nat.le_of_lt (hst1 x hx)
/-- The search before the first clause. -/
def Sol.new (n : Nat) : Sol := ⟨n, [], List.replicate (2 * n + 2) [], List.replicate (n + 1) 0, List.replicate (n + 1) 0, List.replicate (n + 1) 0, [], [], 0, 1⟩
theorem new_base (M : Nat → Bool) {n : Nat} (hn : n ≤ 20000) : Base M (Sol.new n) 0 := by
  have hg : ∀ v, (List.replicate (n + 1) (0 : Int)).getD v 0 = 0 := fun v => by
    simp only [List.getD_eq_getElem?_getD, List.getElem?_replicate]
    split <;> rfl
  have hw : ∀ i, (List.replicate (2 * n + 2) ([] : List Nat)).getD i [] = [] := fun i => by
    simp only [List.getD_eq_getElem?_getD, List.getElem?_replicate]
    split <;> rfl
  refine ⟨⟨⟨hn, by simp [Sol.new], by simp [Sol.new], by simp [Sol.new], by simp [Sol.new], fun x hx => ?_, fun l hl => by simp [Sol.new] at hl, by simp [Sol.new], by simp [Sol.new]⟩, fun c hc => by simp [Sol.new] at hc, by simp [Sol.new], fun ks hks k hk => ?_, fun l hl => by simp [Sol.new] at hl, by simp [Sol.new], ?_, by simp [Sol.new]⟩,
    ⟨⟨fun k hk => by simp [Sol.new] at hk, fun v h1 h2 h3 => absurd (hg v) h3, fun i j h1 h2 => by simp [Sol.new] at h2, fun x hx => by simp [Sol.new] at hx, fun i hi => by simp [Sol.new] at hi, fun i hi => by simp [Sol.new] at hi, fun v h1 h2 => by simp [Sol.new] at h2; omega⟩, fun i hi => ?_, fun k hk => by simp [Sol.new] at hk⟩,
    fun x hx => by simp [Sol.new] at hx, fun x hx => by simp [Sol.new] at hx, by simp [Sol.new], by simp [Sol.new], ⟨fun k hk => by simp [Sol.new] at hk, fun i hi => by simp [Sol.new] at hi⟩⟩
  · have := List.eq_of_mem_replicate (show x ∈ List.replicate (n + 1) (0 : Int) from hx)
    omega
  · rw [List.eq_of_mem_replicate (show ks ∈ List.replicate (2 * n + 2) ([] : List Nat) from hks)] at hk
    simp at hk
  · simp [Sol.new]
  · show ((List.replicate (2 * n + 2) ([] : List Nat)).getD i []).Nodup ∧ _
    rw [hw]
    refine ⟨by simp, fun k => ?_⟩
    show k ∈ (List.replicate (2 * n + 2) ([] : List Nat)).getD i [] ↔ k < 0 ∧ _
    rw [hw]
    simp
/-- The state while clauses are taken in. -/
structure Ld (M : Nat → Bool) (S : Sol) (B : Nat) : Prop where
  base : Base M S B
  st : S.st = []
  hd : S.head = 0
theorem Ld.take {M : Nat → Bool} {S : Sol} {B : Nat} {c : List Int} (h : Ld M S B) (hc : 0 < c.length ∧ c.length ≤ 12 ∧ ∀ l ∈ c, LitOk S.n l) (hm : HoldsC M c) (hz : S.cl.length + 1 ≤ 1000000) :
    ∃ S', S.take1 c = (S', true) ∧ Ld M S' (B + 2) ∧ Cov S' c ∧ (∀ e, Cov S e → Cov S' e) ∧ S'.n = S.n ∧ S'.cl.length ≤ S.cl.length + 1 := by
  obtain ⟨td, tu, tm, tl⟩ := tidyL_spec c
  have hlo : ∀ l ∈ tidyL c, LitOk S.n l := fun l hl => hc.2.2 l ((tm l).1 hl)
  have hmt : HoldsC M (tidyL c) := by
    obtain ⟨l, h1, h2⟩ := hm
    exact ⟨l, (tm l).2 h1, h2⟩
  have tpos : 0 < (tidyL c).length := by
    obtain ⟨l, h1, _⟩ := hmt
    exact List.length_pos_of_mem h1
  have up : ∀ {S : Sol}, SW S B → SW S (B + 2) := fun h => ⟨h.len, h.cls, h.csz, h.wls, h.asg, h.nd, Nat.le_trans h.tot (by omega), h.hd⟩
  have hb := h.base
  have same : Ld M S (B + 2) := ⟨⟨up hb.sw, hb.calm, hb.hst, hb.hsh, hb.n1, hb.n2, hb.snd⟩, h.st, h.hd⟩
  unfold Sol.take1
  split
  · rename_i ht
    refine ⟨S, rfl, same, .inl ?_, fun e he => he, rfl, by omega⟩
    obtain ⟨l, h1, h2⟩ := of_decide_eq_true ht
    exact decide_eq_true ⟨l, (tm l).1 h1, (tm _).1 h2⟩
  · split
    · rename_i h1
      obtain ⟨l, htl⟩ : ∃ l, tidyL c = [l] := by
        match tidyL c, h1 with
        | [l], _ => exact ⟨l, rfl⟩
      have hg : (tidyL c).getD 0 0 = l := by rw [htl]; rfl
      have hlk : LitOk S.n l := hlo l (by rw [htl]; simp)
      have hml : hl M l := by
        obtain ⟨x, h2, h3⟩ := hmt
        rw [htl, List.mem_singleton] at h2
        rw [← h2]; exact h3
      have hlc : l ∈ c := (tm l).1 (by rw [htl]; simp)
      rw [hg]
      have all0 := Snd.upto hb.sw hb.calm.inv hb.snd S.tr.length (fun i hi _ => by rw [h.st] at hi; simp at hi)
      split
      · rename_i h2
        exfalso
        obtain ⟨i, h3, h4⟩ := false_on hb.sw hb.calm.inv hlk h2
        have := all0 i h3 h3
        rw [h4] at this
        exact (hl_neg hlk.1).1 this hml
      · rename_i h2
        split
        · rename_i h3
          have hu := is_zero h3
          have hwy : l.natAbs < S.why.length := by rw [hb.sw.len.why]; have := hlk.2; omega
          refine ⟨_, rfl, ⟨⟨up (hb.sw.set _ hlk hu), hb.calm.set hb.sw hlk hu (.inl ⟨rfl, .inr (by rw [h.st]; rfl)⟩), fun x hx => ?_, fun x hx => ?_, hb.n1, hb.n2, ⟨hb.snd.cls, fun i hi hw hs => ?_⟩⟩, h.st, h.hd⟩, .inr (.inl ⟨l, hlc, S.tr.length, by simp [Sol.set], by rw [lit_set, if_neg (by omega), if_pos rfl], fun s hs => ?_⟩), fun e he => he.set _ _, rfl, by show S.cl.length ≤ _; omega⟩
          · have : x ∈ S.st := hx; rw [h.st] at this; simp at this
          · have : x ∈ S.st := hx; rw [h.st] at this; simp at this
          · have hi2 : i < S.tr.length + 1 := by simpa [Sol.set] using hi
            rw [lit_set]
            by_cases e : i < S.tr.length
            · rw [if_pos e]; exact all0 i e e
            · rw [if_neg e, if_pos (by omega)]; exact hml
          · have : s ∈ S.st := hs; rw [h.st] at this; simp at this
        · rename_i h3
          have h4 : S.is l = 1 := by
            rcases is_cases hb.sw.len hlk with e | e | e
            · exact e
            · exact absurd e h2
            · exact absurd e h3
          obtain ⟨i, h5, h6⟩ := true_on hb.sw hb.calm.inv hlk h4
          exact ⟨S, rfl, same, .inr (.inl ⟨l, hlc, i, h5, h6, fun s hs => by rw [h.st] at hs; simp at hs⟩), fun e he => he, rfl, by omega⟩
    · rename_i h1
      rw [if_pos (by omega)]
      have h2 : 2 ≤ (tidyL c).length := by omega
      refine ⟨_, rfl, ⟨⟨hb.sw.add h2 (by omega) hlo hz, ⟨hb.calm.inv.add td, Wat.add hb.sw hb.calm.wat td h2 hlo, fun k hk p q hpq j hj e _ => ?_⟩, hb.hst, hb.hsh, hb.n1, hb.n2, ⟨fun k hk => ?_, hb.snd.why⟩⟩, h.st, h.hd⟩, .inr (.inr ⟨S.cl.length, by simp [Sol.add], fun x => by rw [add_cla, if_neg (Nat.lt_irrefl _), if_pos rfl]; exact tm x⟩), fun e he => he.add _, rfl, by simp [Sol.add]⟩
      · have : j < S.head := hj
        rw [h.hd] at this
        omega
      · rw [add_cla]
        have hk2 : k < S.cl.length + 1 := by simpa [Sol.add] using hk
        split
        · rename_i e; exact hb.snd.cls k e
        · rw [if_pos (by omega)]; exact hmt
theorem Ld.load {M : Nat → Bool} : ∀ (cs : List (List Int)) {S : Sol} {B : Nat}, Ld M S B → (∀ c ∈ cs, 0 < c.length ∧ c.length ≤ 12 ∧ ∀ l ∈ c, LitOk S.n l) → (∀ c ∈ cs, HoldsC M c) → S.cl.length + cs.length ≤ 1000000 →
    (Sol.load cs S).2 = true ∧ (∃ B', Ld M (Sol.load cs S).1 B') ∧ (∀ c ∈ cs, Cov (Sol.load cs S).1 c) ∧ (∀ e, Cov S e → Cov (Sol.load cs S).1 e) ∧ (Sol.load cs S).1.n = S.n
  | [], S, B, h, _, _, _ => ⟨rfl, ⟨B, h⟩, fun c hc => by simp at hc, fun e he => he, rfl⟩
  | c :: cs, S, B, h, h1, h2, h3 => by
    simp only [List.length_cons] at h3
    obtain ⟨S', e1, e2, e3, e4, e5, e6⟩ := h.take (h1 c (by simp)) (h2 c (by simp)) (by omega)
    rw [load_yes e1]
    obtain ⟨g1, g2, g3, g4, g5⟩ := Ld.load cs e2 (fun d hd => by rw [e5]; exact h1 d (by simp [hd])) (fun d hd => h2 d (by simp [hd])) (by omega)
    refine ⟨g1, g2, fun d hd => ?_, fun e he => g4 e (e4 e he), g5.trans e5⟩
    rcases List.mem_cons.1 hd with rfl | hd
    · exact g4 _ e3
    · exact g3 d hd
/-- The model that is found. -/
def Sol.mdl (S : Sol) : Nat → Bool := fun v => Decidable.decide (S.val.getD v 0 = 1)
theorem mdl_hl {S : Sol} {l : Int} (h : S.is l = 1) (h0 : l ≠ 0) : hl S.mdl l := by
  unfold Sol.is at h
  unfold hl Sol.mdl
  split at h
  · rw [decide_eq_false (show ¬ 0 < l by omega), decide_eq_false (by omega)]
  · rw [decide_eq_true (show 0 < l by omega), decide_eq_true h]
theorem Base.model {M : Nat → Bool} {S : Sol} {B : Nat} (h : Base M S B) (hh : S.head = S.tr.length) (ha : ∀ v, 1 ≤ v → v ≤ S.n → S.val.getD v 0 ≠ 0) {c : List Int} (h0 : ∀ l ∈ c, l ≠ 0) (hc : Cov S c) : HoldsC S.mdl c := by
  have hi := h.calm.inv
  have key : ∀ l, LitOk S.n l → S.is l ≠ -1 → hl S.mdl l := fun l hl hn => by
    rcases is_cases h.sw.len hl with e | e | e
    · exact mdl_hl e hl.1
    · exact absurd e hn
    · exact absurd (is_zero e) (ha _ (by have := hl.1; omega) hl.2)
  rcases hc with hc | ⟨l, h1, i, h2, h3, h4⟩ | ⟨k, h1, h2⟩
  · obtain ⟨l, h1, h2⟩ := of_decide_eq_true hc
    by_cases e : hl S.mdl l
    · exact ⟨l, h1, e⟩
    · exact ⟨-l, h2, (hl_neg (h0 l h1)).2 e⟩
  · have := lit_is h.sw h2
    rw [h3] at this
    exact ⟨l, h1, mdl_hl this (by have := (lit_ok h.sw h2).1; rwa [h3] at this)⟩
  · obtain ⟨c1, c2, c3⟩ := h.sw.cl (k := k) h1
    have l0 := c3 _ (getD_mem (l := S.cl.getD k []) (i := 0) (d := 0) (by omega))
    have l1 := c3 _ (getD_mem (l := S.cl.getD k []) (i := 1) (d := 0) (by omega))
    by_cases e : S.is ((S.cla k).getD 0 0) = -1
    · obtain ⟨i, h3, h4⟩ := false_on h.sw hi l0 e
      have := h.calm.pro k h1 0 1 (.inl ⟨rfl, rfl⟩) i (by omega) h4 (fun h => h)
      exact ⟨_, (h2 _).1 (getD_mem (l := S.cla k) (i := 1) (d := 0) (by show 1 < (S.cl.getD k []).length; omega)), mdl_hl this.1 l1.1⟩
    · exact ⟨_, (h2 _).1 (getD_mem (l := S.cla k) (i := 0) (d := 0) (by show 0 < (S.cl.getD k []).length; omega)), key _ l0 e⟩
end Go.Proofs.YtdgpmopcmacicaaPi

/- The walk of decide. -/
set_option linter.unusedVariables false
set_option linter.unusedSimpArgs false
set_option maxRecDepth 100000
namespace Go.Proofs.YtdgpmopcmacicaaPi
set_option maxHeartbeats 40000000
/-- What a part of the search that decides or takes back keeps. -/
structure KeptD (up u : Frs) (d : Nat) (S : Sol) (V : Ver) (S' : Sol) (V' : Ver) : Prop where
  at' : SAt u d S' V'
  els : Else up u d S V.K
  K : V'.K = V.K
  n : S'.n = S.n
  cl : S'.cl.length = S.cl.length
  spare : ∀ m, S.cl.length ≤ m → Spare up d S V.K m → Spare u d S V.K m
theorem Kept.toD {up u : Frs} {d : Nat} {S S' : Sol} {V V' : Ver} (h : Kept up u d S V S' V') : KeptD up u d S V S' V' := ⟨h.at', h.els, h.K, h.n, h.cl, h.spare⟩
theorem KeptD.trans {up u v : Frs} {d : Nat} {S S1 S2 : Sol} {V V1 V2 : Ver} (h : KeptD up u d S V S1 V1) (k : KeptD u v d S1 V1 S2 V2) : KeptD up v d S V S2 V2 :=
  ⟨k.at', h.els.trans h.n (h.K ▸ k.els), k.K.trans h.K, k.n.trans h.n, k.cl.trans h.cl, fun m hm hs => by
    have h1 := h.spare m hm hs
    have h2 := k.spare m (by rw [h.cl]; exact hm) (by intro q a b; rw [h.n]; exact h1 q a (by rw [← h.K]; exact b))
    intro q a b
    have := h2 q a (by rw [h.K]; exact b)
    rwa [h.n] at this⟩
theorem nextU_kept {up : Frs} {d : Nat} {S : Sol} {V : Ver} (h : SAt up d S V) (p : Nat) : Kept up (fset up d 5 (sbox (S.nextTo p) V)) d S V (S.nextTo p) V := by
  have o : ∀ j, j ≠ 5 → fget (fset up d 5 (sbox (S.nextTo p) V)) d j = fget up d j := fun j h1 => by rw [fget_fset, if_neg (fun e => h1 e.2)]
  exact ⟨⟨by rw [fget_fset, if_pos ⟨rfl, rfl⟩, h.box]; rfl, (o 1 (by omega)).trans h.wch, (o 2 (by omega)).trans h.val, (o 3 (by omega)).trans h.lev, (o 4 (by omega)).trans h.why, (o 7 (by omega)).trans h.clo, (o 8 (by omega)).trans h.trl, (o 9 (by omega)).trans h.sts, fun j hj => (o _ (by omega)).trans (h.wli j hj), fun j hj => (o _ (by omega)).trans (h.cli j hj)⟩,
    (Else.refl _ _ _ _).fset (by unfold SPl; omega) _, rfl, rfl, rfl, rfl, fun m hm hs => hs.fset (by omega) _⟩
def startV (V : Ver) : Ver := { V with s := V.s + 1, sx := [] }
/-- A decision more. -/
def startU (up : Frs) (d : Nat) (S : Sol) (V : Ver) : Frs :=
  fset (fset up d 9 (.vec 3 (V.s + 1) (n64s (S.st ++ [S.tr.length])))) d 5 (sbox (S.start S.next) (startV V))
theorem startU_kept {up : Frs} {d : Nat} {S : Sol} {V : Ver} (h : SAt up d S V) : KeptD up (startU up d S V) d S V (S.start S.next) (startV V) := by
  have e : ∀ j, fget (startU up d S V) d j = if j = 5 then some (sbox (S.start S.next) (startV V)) else if j = 9 then some (.vec 3 (V.s + 1) (n64s (S.st ++ [S.tr.length]))) else fget up d j := fun j => by
    simp only [startU, fget_fset, true_and, h.box, h.sts, Nat.reduceEqDiff, if_false, Option.map_some]
  have o : ∀ j, j ≠ 5 → j ≠ 9 → fget (startU up d S V) d j = fget up d j := fun j h1 h2 => by rw [e, if_neg h1, if_neg h2]
  refine ⟨⟨by rw [e, if_pos rfl], (o 1 (by omega) (by omega)).trans h.wch, (o 2 (by omega) (by omega)).trans h.val, (o 3 (by omega) (by omega)).trans h.lev, (o 4 (by omega) (by omega)).trans h.why, (o 7 (by omega) (by omega)).trans h.clo, (o 8 (by omega) (by omega)).trans h.trl, ?_, fun j hj => (o _ (by omega) (by omega)).trans (h.wli j hj), fun j hj => (o _ (by omega) (by omega)).trans (h.cli j hj)⟩,
    (((Else.refl up d S V.K).fset (by unfold SPl; omega) _).fset (by unfold SPl; omega) _), rfl, rfl, rfl, fun m hm hs => Spare.fset (S := S) (Spare.fset (S := S) hs (by omega) _) (by omega) _⟩
  rw [e, if_neg (by omega), if_pos rfl, startV, Sol.start]
  simp
theorem take_st (S : Sol) (V : Ver) : (n64s S.st ++ n64s V.sx).take S.st.length = n64s S.st := by rw [List.take_left' (by simp)]
theorem decide_ok (S : Sol) (V : Ver) (B : Nat) (up : Frs) (hA : SAt up 0 S V) (hS : SW S B) (h1 : 1 ≤ S.next) (h2 : S.next ≤ S.n + 1) (hst : S.st.length ≤ S.tr.length) : ACalls Try.prog 142 [.ptr 0 5 0] up fun v u => ∃ V',
    v = .im (.bool S.decide.2) ∧ KeptD up u 0 S V S.decide.1 V' := by
  refine ACalls.code Try.func142 rfl 64 rfl (by simp) [.tmp 2] rfl fun Q hQ => ?_
  simp only [ups, PV.up, argEnv]
  have ft := And.intro ty_2 (And.intro ty_3 (And.intro ty_4 (And.intro ty_5 (And.intro ty_6 (And.intro ty_8 (And.intro ty_22 (And.intro ty_216 (And.intro ty_217 (And.intro ty_219 (And.intro ty_221 trivial))))))))))
  refine Run.seq ?_
  have fx := And.intro (@Int.toNat_natCast) (And.intro (@Int.natCast_nonneg) (And.intro (@Nat.zero_add) ft))
  refine Run.go ?_
  refine End.kp [0] ?_
  refine Run.seq ?_
  refine Run.block ?_
  refine Run.ghost (Ghost.form [(0, .ptr 1 5 0)] 0 ⟨rfl, trivial⟩ rfl (by simp only [ASt.push, List.nil_append, List.cons_append, List.take_succ_cons, List.take_zero, List.all_cons, List.all_nil, AObj.under, PV.under, Bool.and_true, Bool.and_self])) ?_
  refine Run.loop (fun m st => ∃ (i : Nat) (u : Frs), m = S.n + 1 - i ∧ S.next ≤ i ∧ i ≤ S.n + 1 ∧ Sol.skip S.val S.next = Sol.skip S.val i ∧ Kept up u 0 S V (S.nextTo i) V ∧ st = ⟨[(0, .ptr 1 5 0)], [], u⟩) (S.n + 1 - S.next) ⟨S.next, up, rfl, by omega, h2, rfl, Kept.refl hA, rfl⟩ fun m st hI => ?_
  obtain ⟨i, u, rfl, hi1, hi2, hsk, hK, rfl⟩ := hI
  have hA1 := hK.at'
  have ubx : fget u 0 5 = some (.box [.vs 0 7 0 S.cl.length V.c, .vs 0 1 0 (2 * S.n + 2) 0, .vs 0 2 0 (S.n + 1) 0, .vs 0 3 0 (S.n + 1) 0, .vs 0 4 0 (S.n + 1) 0, .vs 0 8 0 S.tr.length V.t, .vs 0 9 0 S.st.length V.s, .i S.head, .i (i : Nat)]) := hA1.box
  have uvl : fget u 0 2 = some (.vec 221 0 (i8s S.val)) := hA1.val
  have ust : fget u 0 9 = some (.vec 3 V.s (n64s S.st ++ n64s V.sx)) := hA1.sts
  have lv := hS.len.val
  have hn := hS.len.n
  have i0 : (0 : Int) ≤ (i : Int) := by omega
  refine Run.seq ?_
  refine Run.seq ?_
  rcases Bool.eq_false_or_eq_true (decide (i < S.n + 1)) with hs1 | hs1
  · skip
    have hil := of_decide_eq_true hs1
    have di : decide ((i : Int) < ((S.n + 1 : Nat) : Int)) = true := decide_eq_true (by omega)
    have dip : (i : Int) < ((S.n + 1 : Nat) : Int) := by omega
    have gi := i8s_get S.val i (by omega)
    have wi := nsucc hil (by omega)
    have fx := And.intro wi (And.intro gi (And.intro dip (And.intro di (And.intro hs1 (And.intro uvl (And.intro ubx (And.intro (@Int.toNat_natCast) (And.intro (@Int.natCast_nonneg) (And.intro (@Nat.zero_add) ft)))))))))
    refine Run.drawA fun K hK => ?_
    refine DOps.sim ?_
    refine DOps.nil (metAll_quiet rfl) (hK _ ?_); clear hK K
    refine End.kp [0, 25] ?_
    refine Run.cond _ rfl (fun hb => ?_) (fun hb => ?_)
    · have hb3 : S.val.getD i 0 ≠ 0 := by simpa using hb
      have hk5 := hK.trans (nextU_kept hA1 (i + 1))
      refine Run.skip ?_
      refine End.kp [0] ?_
      refine Run.block ?_
      have fx := And.intro wi (And.intro gi (And.intro dip (And.intro di (And.intro hs1 (And.intro uvl (And.intro ubx (And.intro (@Int.toNat_natCast) (And.intro (@Int.natCast_nonneg) (And.intro (@Nat.zero_add) ft)))))))))
      refine Run.go ?_
      refine End.blk ?_
      refine End.lp ?_
      refine ⟨S.n + 1 - (i + 1), _, by omega, Ghost.form [(0, .ptr 1 5 0)] 0 ⟨rfl, trivial⟩ rfl (by simp only [ASt.push, List.nil_append, List.cons_append, List.take_succ_cons, List.take_zero, List.all_cons, List.all_nil, AObj.under, PV.under, Bool.and_true, Bool.and_self]), i + 1, fset u 0 5 (sbox (S.nextTo (i + 1)) V), rfl, by omega, by omega, by rw [hsk, skip_more (by omega) hb3], hk5, rfl⟩
    · have hb3 : S.val.getD i 0 = 0 := by simpa using hb
      refine Run.exit rfl ?_
      refine End.kp [0] ?_
      refine Run.seq ?_
      refine Run.seq ?_
      have fx := And.intro wi (And.intro gi (And.intro dip (And.intro di (And.intro hs1 (And.intro uvl (And.intro ubx (And.intro (@Int.toNat_natCast) (And.intro (@Int.natCast_nonneg) (And.intro (@Nat.zero_add) ft)))))))))
      refine Run.drawA fun K hK => ?_
      refine DOps.sim ?_
      refine DOps.nil (metAll_quiet rfl) (hK _ ?_); clear hK K
      refine End.kp [0, 42] ?_
      refine Run.cond _ rfl (fun hb => ?_) (fun hb => ?_)
      · have hb4 := hb
        have := of_decide_eq_true hb; omega
      · have hb4 := hb
        have hst0 : Sol.skip S.val S.next = i := by rw [hsk]; exact skip_stop (fun h => h.2 hb3)
        have hfl := free_len hS (p := i) (by omega) (by omega) hb3
        have tks := take_st S V
        have ap : (S.st.length + 1) * 8 ≤ 140737488355328 := by have := hS.len.stn; omega
        have wn : IntKind.i64.wrap (0 - (i : Int)) = -(i : Int) := by rw [wrap64 (by omega)]; omega
        refine Run.skip ?_
        refine End.kp [0] ?_
        refine Run.seq ?_
        refine Run.ghost (.spares 1) ?_
        simp only [ASt.pushN, ASt.push, List.append_assoc, List.cons_append, List.nil_append]
        have fx := And.intro wn (And.intro ap (And.intro tks (And.intro ust (And.intro (@fget_fset) (And.intro wi (And.intro gi (And.intro dip (And.intro di (And.intro hs1 (And.intro uvl (And.intro ubx (And.intro (@Int.toNat_natCast) (And.intro (@Int.natCast_nonneg) (And.intro (@Nat.zero_add) ft))))))))))))))
        refine Run.drawA fun K hK => ?_
        refine DOps.sim ?_
        refine DOps.nil ?_ (hK _ ?_)
        · rfl
        clear hK K
        have yl : (S.start i).st.length = S.st.length + 1 := by simp [Sol.start]
        have y2 : n64s (S.st ++ [S.tr.length]) = n64s S.st ++ [PV.im (Im.int .i64 (S.tr.length : Nat))] := by simp
        have hk2 : KeptD up (startU u 0 (S.nextTo i) V) 0 S V (S.start i) (startV V) := hK.toD.trans (startU_kept hA1)
        have hu : fset (fset u 0 9 (AObj.vec 3 (V.s + 1) (n64s S.st ++ [PV.im ([Im.int IntKind.i64 (S.tr.length : Nat)].headD (Im.bool false))]))) 0 5 (.box [.vs 0 7 0 S.cl.length V.c, .vs 0 1 0 (2 * S.n + 2) 0, .vs 0 2 0 (S.n + 1) 0, .vs 0 3 0 (S.n + 1) 0, .vs 0 4 0 (S.n + 1) 0, .vs 0 8 0 S.tr.length V.t, .vs 0 9 0 (S.st.length + 1) (V.s + 1), .i S.head, .i (i : Nat)]) = startU u 0 (S.nextTo i) V := by
          show _ = fset (fset u 0 9 (.vec 3 (V.s + 1) (n64s (S.st ++ [S.tr.length])))) 0 5 (sbox (S.start i) (startV V))
          unfold sbox
          rw [y2, yl]
          rfl
        rw [hu]
        generalize startU u 0 (S.nextTo i) V = u2 at hk2
        have vbx : fget u2 0 5 = some (.box [.vs 0 7 0 S.cl.length V.c, .vs 0 1 0 (2 * S.n + 2) 0, .vs 0 2 0 (S.n + 1) 0, .vs 0 3 0 (S.n + 1) 0, .vs 0 4 0 (S.n + 1) 0, .vs 0 8 0 S.tr.length V.t, .vs 0 9 0 (S.st.length + 1) (V.s + 1), .i S.head, .i (i : Nat)]) := by have := hk2.at'.box; unfold sbox at this; rw [yl] at this; exact this
        have hlit : LitOk S.n (-(i : Int)) := ⟨by omega, by omega⟩
        have hset : ∀ (loc : List AObj), ACalls Try.prog 148 [.ptr 1 5 0, .i (-(i : Int)), .i (-1)] (loc :: u2) fun v u => v = .tup [] ∧ u = loc :: setU u2 0 (S.start i) (startV V) (-(i : Int)) (-1) := fun loc => set_ok (S.start i) (startV V) 1 _ (hk2.at'.cons _) (hS.start (p := i) (by omega)).len _ _ hlit
        have hd : S.decide = ((S.start i).set (-(i : Int)) (-1), true) := by rw [Sol.decide, hst0, if_neg (by omega)]
        refine End.kp [0] ?_
        refine Run.seq ?_
        have fx := And.intro vbx (And.intro wn (And.intro ap (And.intro tks (And.intro ust (And.intro (@fget_fset) (And.intro wi (And.intro gi (And.intro dip (And.intro di (And.intro hs1 (And.intro uvl (And.intro ubx (And.intro (@Int.toNat_natCast) (And.intro (@Int.natCast_nonneg) (And.intro (@Nat.zero_add) ft)))))))))))))))
        refine Run.region rfl fun K hK => GOps.sim ?_
        refine GOps.call rfl rfl rfl rfl (by kernel_rfl) (ACalls.sim ?_)
        refine (hset _).mono fun v u hv => ?_
        obtain ⟨rfl, rfl⟩ := hv
        refine ⟨_, _, rfl, GOps.sim ?_⟩
        refine GOps.done (hK _ ?_); clear hK K
        refine End.kp [] ?_
        refine Run.seq ?_
        refine Run.go ?_
        refine End.kp [2] ?_
        refine Run.ret (hQ _ _ ⟨.inr rfl, _, rfl, _, rfl, ?_⟩)
        rw [hd]; exact ⟨setV (startV V), rfl, hk2.trans (setU_kept hk2.at' _ _).toD⟩
  · skip
    have hil := of_decide_eq_false hs1
    have di : decide ((i : Int) < ((S.n + 1 : Nat) : Int)) = false := decide_eq_false (by omega)
    have dip : True := trivial
    have gi : True := trivial
    have wi : True := trivial
    have fx := And.intro wi (And.intro gi (And.intro dip (And.intro di (And.intro hs1 (And.intro uvl (And.intro ubx (And.intro (@Int.toNat_natCast) (And.intro (@Int.natCast_nonneg) (And.intro (@Nat.zero_add) ft)))))))))
    refine Run.drawA fun K hK => ?_
    refine DOps.sim ?_
    refine DOps.nil (metAll_quiet rfl) (hK _ ?_); clear hK K
    refine End.kp [0, 25] ?_
    refine Run.cond _ rfl (fun hb => ?_) (fun hb => ?_)
    · have hb3 := hb
      simp at hb
    · have hb3 := hb
      refine Run.exit rfl ?_
      refine End.kp [0] ?_
      refine Run.seq ?_
      refine Run.seq ?_
      have fx := And.intro wi (And.intro gi (And.intro dip (And.intro di (And.intro hs1 (And.intro uvl (And.intro ubx (And.intro (@Int.toNat_natCast) (And.intro (@Int.natCast_nonneg) (And.intro (@Nat.zero_add) ft)))))))))
      refine Run.drawA fun K hK => ?_
      refine DOps.sim ?_
      refine DOps.nil (metAll_quiet rfl) (hK _ ?_); clear hK K
      refine End.kp [0, 42] ?_
      refine Run.cond _ rfl (fun hb => ?_) (fun hb => ?_)
      · have hb4 := of_decide_eq_true hb
        have hst0 : Sol.skip S.val S.next = i := by rw [hsk]; exact skip_stop (fun h => by omega)
        have hd : S.decide = (S.nextTo i, false) := by rw [Sol.decide, hst0, if_pos (by omega), show i = S.n + 1 by omega]
        refine Run.seq ?_
        have fx := And.intro wi (And.intro gi (And.intro dip (And.intro di (And.intro hs1 (And.intro uvl (And.intro ubx (And.intro (@Int.toNat_natCast) (And.intro (@Int.natCast_nonneg) (And.intro (@Nat.zero_add) ft)))))))))
        refine Run.go ?_
        refine End.kp [2] ?_
        refine Run.ret (hQ _ _ ⟨.inr rfl, _, rfl, _, rfl, ?_⟩)
        rw [hd]; exact ⟨V, rfl, hK.toD⟩
      · have hb4 := hb
        have := of_decide_eq_false hb; omega
end Go.Proofs.YtdgpmopcmacicaaPi

/- The walk of refute. -/
set_option linter.unusedVariables false
set_option linter.unusedSimpArgs false
set_option maxRecDepth 100000
namespace Go.Proofs.YtdgpmopcmacicaaPi
set_option maxHeartbeats 40000000
theorem refute_ok (S : Sol) (V : Ver) (B : Nat) (f : List AObj) (rest : Frs) (hA : SAt (f :: rest) 0 S V) (hS : SW S B) (hst : ∀ x ∈ S.st, x < S.tr.length) : ACalls Try.prog 144 [.ptr 0 5 0] (f :: rest) fun v u =>
    v = .tup [.ms 0 (f.length + 0) S.st.length, .i ((S.st.length : Int) - 1)] ∧ u = (f ++ [.row 3 1 (ints S.refuted) 0]) :: rest := by
  obtain ⟨up, hup⟩ : ∃ up, up = f :: rest := ⟨_, rfl⟩
  rw [← hup] at hA
  have hbx := hA.box
  have htr := hA.trl
  have hts := hA.sts
  have hn := hS.len.n
  have htn := hS.len.trn
  have hsn := hS.len.stn
  have w1 : IntKind.i64.wrap ((S.st.length : Int) - 1) = (S.st.length : Int) - 1 := wrap64 (by omega)
  rw [hup] at hbx htr hts
  refine ACalls.codeX Try.func144 rfl 40 rfl (by simp) [.tmp 2, .tmp 3] rfl fun Q hQ => ?_
  simp only [ups, PV.up, argEnv]
  have ft := And.intro ty_3 (And.intro ty_4 (And.intro ty_5 (And.intro ty_6 (And.intro ty_22 (And.intro ty_216 (And.intro ty_219 trivial))))))
  refine Run.seq ?_
  have fx := And.intro (@Int.toNat_natCast) (And.intro (@Int.natCast_nonneg) (And.intro (@Nat.zero_add) (And.intro w1 (And.intro hts (And.intro htr (And.intro hbx ft))))))
  refine Run.go ?_
  refine End.kp [0] ?_
  refine Run.seq ?_
  refine Run.go ?_
  refine End.kp [0, 4] ?_
  refine Run.seq ?_
  refine Run.seq ?_
  refine Run.go ?_
  refine End.kp [0, 4, 5] ?_
  refine Run.block ?_
  refine Run.ghost (Ghost.thaw (u := 4) 3 1 (by decide) rfl) ?_
  refine Run.ghost (Ghost.form [(0, .ptr 1 5 0), (4, .ms 0 0 (0)), (5, .i ((S.st.length : Int) - 1))] 1 ⟨rfl, rfl, rfl, trivial⟩ rfl (by simp only [ASt.push, List.nil_append, List.cons_append, List.take_succ_cons, List.take_zero, List.all_cons, List.all_nil, AObj.under, PV.under, Bool.and_true, Bool.and_self])) ?_
  refine Run.loop (fun k st => ∃ (m : Nat) (e : Int), e = (S.st.length : Int) - 1 - (m : Nat) ∧ k = S.st.length - m ∧ m ≤ S.st.length ∧ st = ⟨[(0, .ptr 1 5 0), (4, .ms 0 0 (m)), (5, .i (e))], [.row 3 1 (ints (S.refuted.take m)) 0], f :: rest⟩) S.st.length ⟨0, (S.st.length : Int) - 1, by omega, rfl, by omega, rfl⟩ fun k st hI => ?_
  obtain ⟨m, e, he, rfl, hm, rfl⟩ := hI
  refine Run.seq ?_
  refine Run.seq ?_
  have fx := And.intro (@Int.toNat_natCast) (And.intro (@Int.natCast_nonneg) (And.intro (@Nat.zero_add) (And.intro w1 (And.intro hts (And.intro htr (And.intro hbx ft))))))
  refine Run.go ?_
  refine End.kp [0, 4, 5, 13] ?_
  refine Run.cond _ rfl (fun hb => ?_) (fun hb => ?_)
  · have hb2 := of_decide_eq_true hb
    have hml : m < S.st.length := by omega
    obtain ⟨d, hd⟩ : ∃ d, d = S.st.length - 1 - m := ⟨_, rfl⟩
    have hdi : e = (d : Nat) := by omega
    have hdl : d < S.st.length := by omega
    have gd : (n64s S.st ++ n64s V.sx)[d]? = some (.im (.int .i64 ((S.st.getD d 0 : Nat) : Int))) := by rw [List.getElem?_append_left (by simp; omega)]; exact n64s_get _ _ hdl
    have htl := hst _ (getD_mem (d := 0) hdl)
    have hnx := refuted_next S m hml
    rw [← hd, Sol.dec] at hnx
    generalize S.st.getD d 0 = t at gd htl hnx
    have gt : (i64s S.tr ++ i64s V.tx)[t]? = some (.im (.int .i64 (S.tr.getD t 0))) := by rw [List.getElem?_append_left (by simp; omega)]; exact i64s_get _ _ htl
    have hlx := hS.len.tr _ (getD_mem (d := 0) htl)
    generalize S.tr.getD t 0 = x at gt hlx hnx
    have wn : IntKind.i64.wrap (0 - x) = -x := by have := hlx.2; rw [wrap64 (by omega)]; omega
    have d1 : (d : Int) < (S.st.length : Int) := by omega
    have t1 : (t : Int) < (S.tr.length : Int) := by omega
    have wd : IntKind.i64.wrap ((d : Int) - 1) = (d : Int) - 1 := wrap64 (by omega)
    have hap : (m + 1) * 8 ≤ 140737488355328 := by omega
    have htk : (ints (S.refuted.take m)).length = m := by simp only [List.length_map, List.length_take, refuted_len]; omega
    subst hdi
    refine Run.skip ?_
    refine End.kp [0, 4, 5] ?_
    refine Run.seq ?_
    refine Run.block ?_
    refine Run.ghost (.spares 1) ?_
    simp only [ASt.pushN, ASt.push, List.append_assoc, List.cons_append, List.nil_append]
    have fx := And.intro htl (And.intro hdl (And.intro htk (And.intro hap (And.intro wd (And.intro t1 (And.intro d1 (And.intro wn (And.intro gt (And.intro gd (And.intro (@Int.toNat_natCast) (And.intro (@Int.natCast_nonneg) (And.intro (@Nat.zero_add) (And.intro w1 (And.intro hts (And.intro htr (And.intro hbx ft))))))))))))))))
    refine Run.drawA fun K hK => ?_
    refine DOps.sim ?_
    refine DOps.nil ?_ (hK _ ?_)
    · rfl
    clear hK K
    refine End.blk ?_
    refine End.kp [0, 4, 5] ?_
    refine Run.go ?_
    refine End.lp ?_
    have y : ints (S.refuted.take (m + 1)) = ints (S.refuted.take m) ++ [[Im.int IntKind.i64 (-x)]] := by rw [hnx]; simp
    refine ⟨S.st.length - (m + 1), _, by omega, Ghost.form [(0, .ptr 1 5 0), (4, .ms 0 0 (m + 1)), (5, .i ((d : Int) - 1))] 1 ⟨rfl, rfl, rfl, trivial⟩ rfl (by simp only [ASt.push, List.nil_append, List.cons_append, List.take_succ_cons, List.take_zero, List.all_cons, List.all_nil, AObj.under, PV.under, Bool.and_true, Bool.and_self]), m + 1, (d : Int) - 1, by omega, rfl, by omega, by rw [y]; rfl⟩
  · have hb2 := of_decide_eq_false hb
    have hml : m = S.st.length := by omega
    subst hml
    rw [List.take_of_length_le (by rw [refuted_len]; omega)]
    refine Run.exit rfl ?_
    refine End.kp [0, 4] ?_
    refine Run.seq ?_
    have fx := And.intro (@Int.toNat_natCast) (And.intro (@Int.natCast_nonneg) (And.intro (@Nat.zero_add) (And.intro w1 (And.intro hts (And.intro htr (And.intro hbx ft))))))
    refine Run.drawA fun K hK => ?_
    refine DOps.sim ?_
    refine DOps.nil (metAll_quiet rfl) (hK _ ?_); clear hK K
    refine End.kp [2, 3] ?_
    refine Run.ret (hQ _ _ ⟨.inr rfl, _, rfl, _, _, rfl, ?_⟩)
    exact ⟨rfl, rfl⟩
end Go.Proofs.YtdgpmopcmacicaaPi

/- The walk of back. -/
set_option linter.unusedVariables false
set_option linter.unusedSimpArgs false
set_option maxRecDepth 100000
namespace Go.Proofs.YtdgpmopcmacicaaPi
set_option maxHeartbeats 40000000
/-- Values and the first free variable change. -/
def undoU (up : Frs) (d : Nat) (S : Sol) (V : Ver) (v : List Int) (p : Nat) : Frs := fset (fset up d 2 (.vec 221 0 (i8s v))) d 5 (sbox { S with val := v, next := p } V)
theorem undoU_kept {up : Frs} {d : Nat} {S : Sol} {V : Ver} (h : SAt up d S V) (v : List Int) (p : Nat) : Kept up (undoU up d S V v p) d S V { S with val := v, next := p } V := by
  have e : ∀ j, fget (undoU up d S V v p) d j = if j = 5 then some (sbox { S with val := v, next := p } V) else if j = 2 then some (.vec 221 0 (i8s v)) else fget up d j := fun j => by
    simp only [undoU, fget_fset, true_and, h.box, h.val, Nat.reduceEqDiff, if_false, Option.map_some]
  have o : ∀ j, j ≠ 5 → j ≠ 2 → fget (undoU up d S V v p) d j = fget up d j := fun j h1 h2 => by rw [e, if_neg h1, if_neg h2]
  exact ⟨⟨by rw [e, if_pos rfl], (o 1 (by omega) (by omega)).trans h.wch, by rw [e, if_neg (by omega), if_pos rfl], (o 3 (by omega) (by omega)).trans h.lev, (o 4 (by omega) (by omega)).trans h.why, (o 7 (by omega) (by omega)).trans h.clo, (o 8 (by omega) (by omega)).trans h.trl, (o 9 (by omega) (by omega)).trans h.sts, fun j hj => (o _ (by omega) (by omega)).trans (h.wli j hj), fun j hj => (o _ (by omega) (by omega)).trans (h.cli j hj)⟩,
    (((Else.refl up d S V.K).fset (by unfold SPl; omega) _).fset (by unfold SPl; omega) _), rfl, rfl, rfl, rfl, fun m hm hs => Spare.fset (S := S) (Spare.fset (S := S) hs (by omega) _) (by omega) _⟩
def cutV (S : Sol) (V : Ver) (t d : Nat) : Ver := { V with tx := S.tr.drop t ++ V.tx, sx := S.st.drop d ++ V.sx }
theorem cutU_kept {up : Frs} {d : Nat} {S : Sol} {V : Ver} (h : SAt up d S V) (t k : Nat) : KeptD up (fset up d 5 (sbox (S.cut t k) (cutV S V t k))) d S V (S.cut t k) (cutV S V t k) := by
  have o : ∀ j, j ≠ 5 → fget (fset up d 5 (sbox (S.cut t k) (cutV S V t k))) d j = fget up d j := fun j h1 => by rw [fget_fset, if_neg (fun e => h1 e.2)]
  refine ⟨⟨by rw [fget_fset, if_pos ⟨rfl, rfl⟩, h.box]; rfl, (o 1 (by omega)).trans h.wch, (o 2 (by omega)).trans h.val, (o 3 (by omega)).trans h.lev, (o 4 (by omega)).trans h.why, (o 7 (by omega)).trans h.clo, (o 8 (by omega)).trans ?_, (o 9 (by omega)).trans ?_, fun j hj => (o _ (by omega)).trans (h.wli j hj), fun j hj => (o _ (by omega)).trans (h.cli j hj)⟩,
    (Else.refl _ _ _ _).fset (by unfold SPl; omega) _, rfl, rfl, rfl, fun m hm hs => hs.fset (by omega) _⟩
  · rw [h.trl]
    have : i64s S.tr = i64s (S.tr.take t) ++ i64s (S.tr.drop t) := by rw [← List.map_append, ← List.map_append, List.take_append_drop]
    rw [this, List.append_assoc]
    show _ = some (AObj.vec _ _ (i64s (S.tr.take t) ++ i64s (S.tr.drop t ++ V.tx)))
    rw [show i64s (S.tr.drop t ++ V.tx) = i64s (S.tr.drop t) ++ i64s V.tx by simp]
    rfl
  · rw [h.sts]
    have : n64s S.st = n64s (S.st.take k) ++ n64s (S.st.drop k) := by rw [← List.map_append, ← List.map_append, List.take_append_drop]
    rw [this, List.append_assoc]
    show _ = some (AObj.vec _ _ (n64s (S.st.take k) ++ n64s (S.st.drop k ++ V.sx)))
    rw [show n64s (S.st.drop k ++ V.sx) = n64s (S.st.drop k) ++ n64s V.sx by simp]
    rfl
theorem back_ok (S : Sol) (V : Ver) (B : Nat) (up : Frs) (hA : SAt up 0 S V) (hS : SW S B) (hst : ∀ x ∈ S.st, x ≤ S.tr.length) (h1 : S.next ≤ S.n + 1) (d : Nat) : ACalls Try.prog 146 [.ptr 0 5 0, .i (d : Nat)] up fun v u => ∃ V',
    v = .tup [] ∧ KeptD up u 0 S V (S.back d) V' := by
  have hbx := hA.box
  have htr := hA.trl
  have hts := hA.sts
  have hn := hS.len.n
  have htn := hS.len.trn
  have hsn := hS.len.stn
  refine ACalls.code Try.func146 rfl 83 rfl (by simp) [] rfl fun Q hQ => ?_
  simp only [ups, PV.up, argEnv]
  have ft := And.intro ty_2 (And.intro ty_3 (And.intro ty_4 (And.intro ty_5 (And.intro ty_6 (And.intro ty_7 (And.intro ty_8 (And.intro ty_22 (And.intro ty_216 (And.intro ty_217 (And.intro ty_219 (And.intro ty_221 trivial)))))))))))
  refine Run.seq ?_
  refine Run.seq ?_
  have fx := And.intro (@Int.toNat_natCast) (And.intro (@Int.natCast_nonneg) (And.intro (@Nat.zero_add) (And.intro hts (And.intro htr (And.intro hbx ft)))))
  refine Run.go ?_
  refine End.kp [0, 1, 13] ?_
  refine Run.cond _ rfl (fun hb => ?_) (fun hb => ?_)
  · have hb2 := of_decide_eq_true hb
    refine Run.ret (hQ _ _ ⟨.inr rfl, _, rfl, _, rfl, ?_⟩)
    exact ⟨V, rfl, by rw [Sol.back, if_neg (by omega)]; exact (Kept.refl hA).toD⟩
  · have hb2 := of_decide_eq_false hb
    have hds : d < S.st.length := by omega
    have gd : (n64s S.st ++ n64s V.sx)[d]? = some (.im (.int .i64 ((S.st.getD d 0 : Nat) : Int))) := by rw [List.getElem?_append_left (by simp; omega)]; exact n64s_get _ _ hds
    have htl := hst _ (getD_mem (d := 0) hds)
    have hbk := back_eq hds
    obtain ⟨t, ht⟩ : ∃ t, t = S.st.getD d 0 := ⟨_, rfl⟩
    rw [← ht] at gd htl hbk
    have hdi : (d : Int) < (S.st.length : Int) := by omega
    have htz : ((t : Nat) : Int) ≤ (S.tr.length : Int) := by omega
    refine Run.skip ?_
    refine End.kp [0, 1] ?_
    refine Run.seq ?_
    refine Run.seq ?_
    have fx := And.intro htz (And.intro hdi (And.intro htl (And.intro gd (And.intro (@Int.toNat_natCast) (And.intro (@Int.natCast_nonneg) (And.intro (@Nat.zero_add) (And.intro hts (And.intro htr (And.intro hbx ft)))))))))
    refine Run.drawA fun K hK => ?_
    refine DOps.sim ?_
    refine DOps.nil (metAll_quiet rfl) (hK _ ?_); clear hK K
    refine End.kp [0, 1, 25, 26, 27] ?_
    refine Run.block ?_
    refine Run.ghost (Ghost.form [(0, .ptr 1 5 0), (1, .i (d : Nat)), (25, .vs 1 8 t (S.tr.length - t) V.t), (26, .i (S.tr.length - t : Nat)), (27, .i 0)] 0 ⟨rfl, rfl, rfl, rfl, rfl, trivial⟩ rfl (by simp only [ASt.push, List.nil_append, List.cons_append, List.take_succ_cons, List.take_zero, List.all_cons, List.all_nil, AObj.under, PV.under, Bool.and_true, Bool.and_self])) ?_
    refine Run.loop (fun m st => ∃ (i : Nat) (u : Frs), m = S.tr.length - t - i ∧ i ≤ S.tr.length - t ∧ Kept up u 0 S V (S.undo ((S.tr.drop t).take i)) V ∧ st = ⟨[(0, .ptr 1 5 0), (1, .i (d : Nat)), (25, .vs 1 8 t (S.tr.length - t) V.t), (26, .i (S.tr.length - t : Nat)), (27, .i (i : Nat))], [], u⟩) (S.tr.length - t) ⟨0, up, rfl, by omega, Kept.refl hA, rfl⟩ fun m st hI => ?_
    obtain ⟨i, u, rfl, hi1, hK, rfl⟩ := hI
    have hA1 := hK.at'
    have utr : fget u 0 8 = some (.vec 3 V.t (i64s S.tr ++ i64s V.tx)) := hA1.trl
    refine Run.seq ?_
    have fx := And.intro utr (And.intro htz (And.intro hdi (And.intro htl (And.intro gd (And.intro (@Int.toNat_natCast) (And.intro (@Int.natCast_nonneg) (And.intro (@Nat.zero_add) (And.intro hts (And.intro htr (And.intro hbx ft))))))))))
    refine Run.go ?_
    refine End.kp [0, 1, 25, 26, 27, 28] ?_
    refine Run.seq ?_
    refine Run.cond _ rfl (fun hb => ?_) (fun hb => ?_)
    · have hb3 := of_decide_eq_true hb
      have hil : i < S.tr.length - t := by omega
      have gx : (i64s S.tr ++ i64s V.tx)[t + i]? = some (.im (.int .i64 (S.tr.getD (t + i) 0))) := by rw [List.getElem?_append_left (by simp; omega)]; exact i64s_get _ _ (by omega)
      have hlx := hS.len.tr _ (getD_mem (l := S.tr) (i := t + i) (d := 0) (by omega))
      have hnx := take_next S.tr t i (by omega)
      obtain ⟨l, hl⟩ : ∃ l, l = S.tr.getD (t + i) 0 := ⟨_, rfl⟩
      rw [← hl] at gx hlx hnx
      obtain ⟨h0, h2⟩ := hlx
      have wn : IntKind.i64.wrap (0 - l) = -l := by rw [wrap64 (by omega)]; omega
      have hmx : (if l < -l then -l else l) = (l.natAbs : Int) := by split <;> omega
      have wi := nsucc hil (by omega)
      have uvl : fget u 0 2 = some (.vec 221 0 (i8s (Sol.zero S.val ((S.tr.drop t).take i)))) := hA1.val
      have ubx : fget u 0 5 = some (.box [.vs 0 7 0 S.cl.length V.c, .vs 0 1 0 (2 * S.n + 2) 0, .vs 0 2 0 (S.n + 1) 0, .vs 0 3 0 (S.n + 1) 0, .vs 0 4 0 (S.n + 1) 0, .vs 0 8 0 S.tr.length V.t, .vs 0 9 0 S.st.length V.s, .i S.head, .i (Sol.low S.next ((S.tr.drop t).take i) : Nat)]) := hA1.box
      have e8 : (i8s (Sol.zero S.val ((S.tr.drop t).take i))).length = S.n + 1 := by simp only [i8s, List.length_map, zero_len]; exact hS.len.val
      have hz := zero_snoc S.val ((S.tr.drop t).take i) l
      have hw := low_snoc S.next ((S.tr.drop t).take i) l
      rw [← hnx] at hz hw
      generalize hvi : Sol.zero S.val ((S.tr.drop t).take i) = vi at uvl e8 hz
      generalize hpi : Sol.low S.next ((S.tr.drop t).take i) = pi at ubx hw
      have q1 : ((l.natAbs : Nat) : Int) < ((S.n + 1 : Nat) : Int) := by omega
      have c1 : l.natAbs < S.n + 1 := by omega
      have hii : (i : Int) < ((S.tr.length - t : Nat) : Int) := by omega
      refine Run.skip ?_
      refine End.kp [0, 1, 25, 26, 27] ?_
      refine Run.seq ?_
      refine Run.block ?_
      refine Run.seq ?_
      have fx := And.intro hil (And.intro hii (And.intro c1 (And.intro q1 (And.intro e8 (And.intro ubx (And.intro uvl (And.intro wi (And.intro hmx (And.intro wn (And.intro gx (And.intro (@fget_fset) (And.intro utr (And.intro htz (And.intro hdi (And.intro htl (And.intro gd (And.intro (@Int.toNat_natCast) (And.intro (@Int.natCast_nonneg) (And.intro (@Nat.zero_add) (And.intro hts (And.intro htr (And.intro hbx ft))))))))))))))))))))))
      refine Run.go ?_
      refine End.kp [0, 1, 5, 25, 26, 27] ?_
      refine Run.seq ?_
      refine Run.go ?_
      refine End.kp [0, 1, 6, 25, 26, 27] ?_
      refine Run.seq ?_
      refine Run.go ?_
      refine End.kp [0, 1, 6, 25, 26, 27] ?_
      refine Run.go ?_
      refine End.blk ?_
      refine End.kp [0, 1, 25, 26, 27] ?_
      refine Run.go ?_
      refine End.lp ?_
      have hk5 := hK.trans (undoU_kept hA1 (vi.set l.natAbs 0) (min pi l.natAbs))
      have hS2 : { S.undo ((S.tr.drop t).take i) with val := vi.set l.natAbs 0, next := min pi l.natAbs } = S.undo ((S.tr.drop t).take (i + 1)) := by rw [Sol.undo, Sol.undo, hz, hw]
      have y1 : (i8s vi).set l.natAbs (PV.im (.int .i8 0)) = i8s (vi.set l.natAbs 0) := i8s_set _ _ _
      have y2 : (if ((l.natAbs : Nat) : Int) < ((pi : Nat) : Int) then ((l.natAbs : Nat) : Int) else ((pi : Nat) : Int)) = ((min pi l.natAbs : Nat) : Int) := by split <;> omega
      unfold undoU sbox at hk5
      rw [← y1, ← y2] at hk5
      refine ⟨S.tr.length - t - (i + 1), _, by omega, Ghost.form [(0, .ptr 1 5 0), (1, .i (d : Nat)), (25, .vs 1 8 t (S.tr.length - t) V.t), (26, .i (S.tr.length - t : Nat)), (27, .i (i + 1 : Nat))] 0 ⟨rfl, rfl, rfl, rfl, rfl, trivial⟩ rfl (by simp only [ASt.push, List.nil_append, List.cons_append, List.take_succ_cons, List.take_zero, List.all_cons, List.all_nil, AObj.under, PV.under, Bool.and_true, Bool.and_self]), i + 1, _, rfl, by omega, by rw [← hS2]; exact hk5, rfl⟩
    · have hb3 := of_decide_eq_false hb
      have hii : i = S.tr.length - t := by omega
      have hfull : (S.tr.drop t).take i = S.tr.drop t := List.take_of_length_le (by simp; omega)
      rw [hfull] at hK
      have hA1 := hK.at'
      have ust : fget u 0 9 = some (.vec 3 V.s (n64s S.st ++ n64s V.sx)) := hA1.sts
      obtain ⟨p, hp⟩ : ∃ p, p = Sol.low S.next (S.tr.drop t) := ⟨_, rfl⟩
      have ubx : fget u 0 5 = some (.box [.vs 0 7 0 S.cl.length V.c, .vs 0 1 0 (2 * S.n + 2) 0, .vs 0 2 0 (S.n + 1) 0, .vs 0 3 0 (S.n + 1) 0, .vs 0 4 0 (S.n + 1) 0, .vs 0 8 0 S.tr.length V.t, .vs 0 9 0 S.st.length V.s, .i S.head, .i (p : Nat)]) := by rw [hp]; exact hA1.box
      have hdl : d ≤ S.st.length := by omega
      refine Run.exit rfl ?_
      refine End.kp [0, 1] ?_
      refine Run.seq ?_
      have fx := And.intro hdl (And.intro ubx (And.intro ust (And.intro (@fget_fset) (And.intro utr (And.intro htz (And.intro hdi (And.intro htl (And.intro gd (And.intro (@Int.toNat_natCast) (And.intro (@Int.natCast_nonneg) (And.intro (@Nat.zero_add) (And.intro hts (And.intro htr (And.intro hbx ft))))))))))))))
      refine Run.drawA fun K hK => ?_
      refine DOps.sim ?_
      refine DOps.nil ?_ (hK _ ?_)
      · rfl
      clear hK K
      refine End.kp [0, 1] ?_
      refine Run.seq ?_
      refine Run.go ?_
      refine End.kp [0] ?_
      refine Run.go ?_
      refine End.all (hQ _ _ ⟨.inl rfl, _, rfl, _, rfl, ?_⟩)
      have hk := cutU_kept hA1 t d
      have xt : ((S.undo (S.tr.drop t)).cut t d).tr.length = t := by simp only [Sol.cut, Sol.undo, List.length_take]; omega
      have xs : ((S.undo (S.tr.drop t)).cut t d).st.length = d := by simp only [Sol.cut, Sol.undo, List.length_take]; omega
      unfold sbox at hk
      rw [xt, xs] at hk
      subst hp
      rw [hbk]
      exact ⟨cutV (S.undo (S.tr.drop t)) V t d, rfl, hK.toD.trans hk⟩
end Go.Proofs.YtdgpmopcmacicaaPi

/- The walks of the library's Len at small numbers. -/
set_option linter.unusedVariables false
set_option linter.unusedSimpArgs false
set_option maxRecDepth 100000
namespace Go.Proofs.YtdgpmopcmacicaaPi
set_option maxHeartbeats 40000000
set_option maxRecDepth 10000
theorem ba_some (b : ByteArray) (n i : Nat) (h : b.size = n) (hi : i < n) : ∃ y, b[i]? = some y := ⟨b[i]'(by omega), getElem?_pos b i (by omega)⟩
theorem len8_get (x : Nat) (h : x ≤ 12) : ∃ y, ({ data := (([0, 1, 2, 2, 3, 3, 3, 3, 4, 4, 4, 4, 4, 4, 4, 4, 5, 5, 5, 5, 5, 5, 5, 5, 5, 5, 5, 5, 5, 5, 5, 5, 6, 6, 6, 6, 6, 6, 6, 6, 6, 6, 6, 6, 6, 6, 6, 6, 6, 6, 6, 6, 6, 6, 6, 6, 6, 6, 6, 6, 6, 6, 6, 6].append [7, 7, 7, 7, 7, 7, 7, 7, 7, 7, 7, 7, 7, 7, 7, 7, 7, 7, 7, 7, 7, 7, 7, 7, 7, 7, 7, 7, 7, 7, 7, 7, 7, 7, 7, 7, 7, 7, 7, 7, 7, 7, 7, 7, 7, 7, 7, 7, 7, 7, 7, 7, 7, 7, 7, 7, 7, 7, 7, 7, 7, 7, 7, 7]).append ([8, 8, 8, 8, 8, 8, 8, 8, 8, 8, 8, 8, 8, 8, 8, 8, 8, 8, 8, 8, 8, 8, 8, 8, 8, 8, 8, 8, 8, 8, 8, 8, 8, 8, 8, 8, 8, 8, 8, 8, 8, 8, 8, 8, 8, 8, 8, 8, 8, 8, 8, 8, 8, 8, 8, 8, 8, 8, 8, 8, 8, 8, 8, 8].append [8, 8, 8, 8, 8, 8, 8, 8, 8, 8, 8, 8, 8, 8, 8, 8, 8, 8, 8, 8, 8, 8, 8, 8, 8, 8, 8, 8, 8, 8, 8, 8, 8, 8, 8, 8, 8, 8, 8, 8, 8, 8, 8, 8, 8, 8, 8, 8, 8, 8, 8, 8, 8, 8, 8, 8, 8, 8, 8, 8, 8, 8, 8, 8])).toArray } : ByteArray)[x]? = some y := ba_some _ 256 x rfl (by omega)
theorem len64_ok (x : Nat) (h : x ≤ 12) (up : Frs) : ACalls Try.prog 193 [.im (.int .u64 (x : Nat))] up fun v u => ∃ k : Int, v = .i k ∧ u = up := by
  have d0 : decide ((4294967296 : Int) ≤ (x : Int)) = false := decide_eq_false (by omega)
  have d1 : decide ((65536 : Int) ≤ (x : Int)) = false := decide_eq_false (by omega)
  have d2 : decide ((256 : Int) ≤ (x : Int)) = false := decide_eq_false (by omega)
  have w8 : IntKind.u8.wrap (x : Int) = (x : Int) := by simp [IntKind.wrap, IntKind.signed, IntKind.bits]; omega
  obtain ⟨y, hy⟩ := len8_get x h
  refine ACalls.code Try.func193 rfl 25 rfl (by simp) [.tmp 2] rfl fun Q hQ => ?_
  simp only [ups, PV.up, argEnv]
  have ft := And.intro ty_3 (And.intro ty_4 (And.intro ty_5 (And.intro ty_9 (And.intro ty_171 (And.intro ty_198 trivial)))))
  refine Run.seq ?_
  have fx := And.intro (@Int.toNat_natCast) (And.intro (@Int.natCast_nonneg) (And.intro hy (And.intro w8 (And.intro d2 (And.intro d1 (And.intro d0 ft))))))
  refine Run.go ?_
  refine End.kp [0, 2] ?_
  refine Run.seq ?_
  refine Run.seq ?_
  refine Run.go ?_
  refine End.kp [0, 2, 4] ?_
  refine Run.cond _ rfl (fun hb => ?_) (fun hb => ?_)
  · have hb1 := hb
    simp at hb
  · have hb1 := hb
    refine Run.skip ?_
    refine End.kp [0, 2] ?_
    refine Run.seq ?_
    refine Run.seq ?_
    have fx := And.intro (@Int.toNat_natCast) (And.intro (@Int.natCast_nonneg) (And.intro hy (And.intro w8 (And.intro d2 (And.intro d1 (And.intro d0 ft))))))
    refine Run.go ?_
    refine End.kp [0, 2, 8] ?_
    refine Run.cond _ rfl (fun hb => ?_) (fun hb => ?_)
    · have hb1 := hb
      simp at hb
    · have hb1 := hb
      refine Run.skip ?_
      refine End.kp [0, 2] ?_
      refine Run.seq ?_
      refine Run.seq ?_
      have fx := And.intro (@Int.toNat_natCast) (And.intro (@Int.natCast_nonneg) (And.intro hy (And.intro w8 (And.intro d2 (And.intro d1 (And.intro d0 ft))))))
      refine Run.go ?_
      refine End.kp [0, 2, 14] ?_
      refine Run.cond _ rfl (fun hb => ?_) (fun hb => ?_)
      · have hb1 := hb
        simp at hb
      · have hb1 := hb
        refine Run.skip ?_
        refine End.kp [0, 2] ?_
        refine Run.seq ?_
        have fx := And.intro (@Int.toNat_natCast) (And.intro (@Int.natCast_nonneg) (And.intro hy (And.intro w8 (And.intro d2 (And.intro d1 (And.intro d0 ft))))))
        refine Run.go ?_
        refine End.kp [2] ?_
        refine Run.ret (hQ _ _ ⟨.inr rfl, _, rfl, _, rfl, ?_⟩)
        exact ⟨_, rfl, rfl⟩
theorem lenU_ok (x : Nat) (h : x ≤ 12) (up : Frs) : ACalls Try.prog 163 [.im (.int .u64 (x : Nat))] up fun v u => ∃ k : Int, v = .i k ∧ u = up := by
  refine ACalls.code Try.func163 rfl 8 rfl (by simp) [.tmp 2] rfl fun Q hQ => ?_
  simp only [ups, PV.up, argEnv]
  have ft := And.intro ty_3 (And.intro ty_171 (And.intro ty_198 (And.intro ty_266 trivial)))
  refine Run.seq ?_
  have fx := ft
  refine Run.go ?_
  refine End.kp [0] ?_
  refine Run.seq ?_
  refine Run.cond _ rfl (fun hb => ?_) (fun hb => ?_)
  · have hb1 := hb
    simp at hb
  · have hb1 := hb
    refine Run.skip ?_
    refine End.kp [0] ?_
    refine Run.seq ?_
    have fx := ft
    refine Run.region rfl fun K hK => GOps.sim ?_
    refine GOps.call rfl rfl rfl rfl (by kernel_rfl) (ACalls.sim ?_)
    refine (len64_ok x h _).mono fun v u hv => ?_
    obtain ⟨k, rfl, rfl⟩ := hv
    refine ⟨_, _, rfl, GOps.sim ?_⟩
    refine GOps.done (hK _ ?_); clear hK K
    refine End.kp [2] ?_
    refine Run.ret (hQ _ _ ⟨.inr rfl, _, rfl, _, rfl, ?_⟩)
    exact ⟨_, rfl, rfl⟩
theorem pdq_ok (p g n : Nat) (k : Int) (c : List Int) (up : Frs) (hc : fget up 1 p = some (.vec 3 g (i64s c))) (hn : n = c.length) (hl : n ≤ 12) : ACalls Try.prog 162 [.vs 1 p 0 n g, .i 0, .i (n : Nat), .i k] up fun v u => v = .tup [] ∧ u = fset up 1 p (.vec 3 g (i64s (sorts (n - 1) c 1))) := by
  have wn : IntKind.i64.wrap ((n : Int) - 0) = (n : Int) := by rw [wrap64 (by omega)]; omega
  have dn : decide ((n : Int) ≤ 12) = true := decide_eq_true (by omega)
  refine ACalls.code Try.func162 rfl 134 rfl (by simp) [] rfl fun Q hQ => ?_
  simp only [ups, PV.up, argEnv]
  have ft := And.intro ty_3 (And.intro ty_4 (And.intro ty_22 (And.intro ty_259 trivial)))
  refine Run.seq ?_
  have fx := And.intro dn (And.intro wn ft)
  refine Run.go ?_
  refine End.kp [0, 1, 2, 3, 8] ?_
  refine Run.seq ?_
  refine Run.go ?_
  refine End.kp [0, 1, 2, 3, 8, 9] ?_
  refine Run.block ?_
  refine Run.ghost (Ghost.form [(0, .vs 2 p 0 n g), (1, .i 0), (2, .i (n : Nat)), (3, .i k), (8, .im (.bool true)), (9, .im (.bool true))] 0 ⟨rfl, rfl, rfl, rfl, rfl, rfl, trivial⟩ rfl (by simp only [ASt.push, List.nil_append, List.cons_append, List.take_succ_cons, List.take_zero, List.all_cons, List.all_nil, AObj.under, PV.under, Bool.and_true, Bool.and_self])) ?_
  refine Run.loop (fun m st => st = ⟨[(0, .vs 2 p 0 n g), (1, .i 0), (2, .i (n : Nat)), (3, .i k), (8, .im (.bool true)), (9, .im (.bool true))], [], up⟩) 0 rfl fun m st hI => ?_
  subst hI
  refine Run.block ?_
  refine Run.seq ?_
  have fx := And.intro dn (And.intro wn ft)
  refine Run.go ?_
  refine End.kp [0, 1, 2, 3, 8, 9, 10] ?_
  refine Run.seq ?_
  refine Run.seq ?_
  refine Run.go ?_
  refine End.kp [0, 1, 2, 3, 8, 9, 10, 23] ?_
  refine Run.cond _ rfl (fun hb => ?_) (fun hb => ?_)
  · have hb1 := hb
    refine Run.seq ?_
    have fx := And.intro dn (And.intro wn ft)
    refine Run.region rfl fun K hK => GOps.sim ?_
    refine GOps.call rfl rfl rfl rfl (by kernel_rfl) (ACalls.sim ?_)
    refine (insSort_ok p g n c _ hc hn hl).mono fun v u hv => ?_
    obtain ⟨rfl, rfl⟩ := hv
    refine ⟨_, _, rfl, GOps.sim ?_⟩
    refine GOps.done (hK _ ?_); clear hK K
    refine End.kp [] ?_
    refine Run.ret (hQ _ _ ⟨.inr rfl, _, rfl, _, rfl, ?_⟩)
    exact ⟨rfl, rfl⟩
  · have hb1 := hb
    simp at hb
theorem sortV_ok (p g n : Nat) (c : List Int) (up : Frs) (hc : fget up 0 p = some (.vec 3 g (i64s c))) (hn : n = c.length) (hl : n ≤ 12) : ACalls Try.prog 137 [.vs 0 p 0 n g] up fun v u => v = .tup [] ∧ u = fset up 0 p (.vec 3 g (i64s (sorts (n - 1) c 1))) := by
  have wn : IntKind.u64.wrap (n : Int) = (n : Int) := by simp [IntKind.wrap, IntKind.signed, IntKind.bits]; omega
  refine ACalls.code Try.func137 rfl 11 rfl (by simp) [] rfl fun Q hQ => ?_
  simp only [ups, PV.up, argEnv]
  have ft := And.intro ty_3 (And.intro ty_22 (And.intro ty_198 trivial))
  refine Run.seq ?_
  have fx := And.intro wn ft
  refine Run.go ?_
  refine End.kp [0, 2] ?_
  refine Run.region rfl fun K hK => GOps.sim ?_
  refine GOps.call rfl rfl rfl rfl (by kernel_rfl) (ACalls.sim ?_)
  refine (lenU_ok n hl _).mono fun v u hv => ?_
  obtain ⟨k, rfl, rfl⟩ := hv
  refine ⟨_, _, rfl, GOps.sim ?_⟩
  refine GOps.call rfl rfl rfl rfl (by kernel_rfl) (ACalls.sim ?_)
  refine (pdq_ok p g n k c _ hc hn hl).mono fun v u hv => ?_
  obtain ⟨rfl, rfl⟩ := hv
  refine ⟨_, _, rfl, GOps.sim ?_⟩
  refine GOps.done (hK _ ?_); clear hK K
  refine End.all (hQ _ _ ⟨.inl rfl, _, rfl, _, rfl, ?_⟩)
  exact ⟨rfl, rfl⟩
end Go.Proofs.YtdgpmopcmacicaaPi

/- The walk of the library's Compact over a slice that may grow. -/
set_option linter.unusedVariables false
set_option linter.unusedSimpArgs false
set_option maxRecDepth 100000
namespace Go.Proofs.YtdgpmopcmacicaaPi
set_option maxHeartbeats 40000000
theorem i64s_app (a b : List Int) : i64s (a ++ b) = i64s a ++ i64s b := by simp
/-- What lies there after j numbers were looked at. -/
def midL (c : List Int) (j : Nat) : List Int := ddN c j ++ c.drop (ddN c j).length
theorem midL_len (c : List Int) (j : Nat) (h : j ≤ c.length) : (midL c j).length = c.length := by
  have := ddN_len c j
  simp [midL]
  omega
theorem midL_get (c : List Int) (j i : Nat) (h : (ddN c j).length ≤ i) (hi : i < c.length) : (midL c j).getD i 0 = c.getD i 0 := by
  simp only [midL, List.getD_eq_getElem?_getD, List.getElem?_append, List.getElem?_drop]
  rw [if_neg (by omega), show (ddN c j).length + (i - (ddN c j).length) = i by omega]
theorem midL_same (c : List Int) (j : Nat) (h0 : 0 < j) (h : c.getD j 0 = c.getD (j - 1) 0) : ddN c (j + 1) = ddN c j := by rw [ddN, if_pos ⟨h0, h⟩]
theorem midL_next (c : List Int) (j : Nat) (hj : j < c.length) (hl : (ddN c j).length < j) (h : c.getD j 0 ≠ c.getD (j - 1) 0) : (midL c j).set (ddN c j).length (c.getD j 0) = midL c (j + 1) ∧ (ddN c (j + 1)).length = (ddN c j).length + 1 := by
  have e : ddN c (j + 1) = ddN c j ++ [c.getD j 0] := by rw [ddN, if_neg (fun h2 => h h2.2)]
  refine ⟨?_, by rw [e]; simp⟩
  rw [midL, midL, e, List.set_append_right _ _ (Nat.le_refl _), Nat.sub_self]
  have : c.drop (ddN c j).length = c.getD (ddN c j).length 0 :: c.drop ((ddN c j).length + 1) := drop_gtD 0 (by omega)
  rw [this]
  simp
theorem fset_fset2 {α : Type} : ∀ (fr : List (List α)) (d j : Nat) (x y : α), fset (fset fr d j x) d j y = fset fr d j y
  | [], d, j, x, y => rfl
  | f :: fr, 0, j, x, y => by simp [fset]
  | f :: fr, d + 1, j, x, y => by simp only [fset, fset_fset2 fr d j x y]
theorem compactV_ok (p g n : Nat) (c : List Int) (up : Frs) (hc : fget up 0 p = some (.vec 3 g (i64s c))) (hn : n = c.length) (hl : c.length ≤ 1000000) : ACalls Try.prog 194 [.vs 0 p 0 n g] up fun v u => ∃ rest : List Int, v = .vs 0 p 0 (dd c).length g ∧ u = fset up 0 p (.vec 3 g (i64s (dd c) ++ i64s rest)) := by
  have hfs := fset_self up 0 p _ hc
  refine ACalls.code Try.func194 rfl 61 rfl (by simp) [.tmp 2] rfl fun Q hQ => ?_
  simp only [ups, PV.up, argEnv]
  have ft := And.intro ty_3 (And.intro ty_4 (And.intro ty_22 trivial))
  refine Run.seq ?_
  have fx := And.intro (@List.length_set.{0}) (And.intro (@Int.toNat_natCast) (And.intro (@Int.natCast_nonneg) (And.intro (@Nat.zero_add) ft)))
  refine Run.go ?_
  refine End.kp [0] ?_
  refine Run.seq ?_
  refine Run.seq ?_
  refine Run.go ?_
  refine End.kp [0, 8] ?_
  refine Run.cond _ rfl (fun hb => ?_) (fun hb => ?_)
  · have hb2 := of_decide_eq_true hb
    have hd : dd c = c := by
      unfold dd
      rw [ddN_take c _ (Nat.le_refl _) (fun i h1 h2 => by omega), List.take_of_length_le (Nat.le_refl _)]
    refine Run.seq ?_
    have fx := And.intro (@List.length_set.{0}) (And.intro (@Int.toNat_natCast) (And.intro (@Int.natCast_nonneg) (And.intro (@Nat.zero_add) ft)))
    refine Run.go ?_
    refine End.kp [2] ?_
    refine Run.ret (hQ _ _ ⟨.inr rfl, _, rfl, _, rfl, ?_⟩)
    exact ⟨[], by rw [hd, ← hn], by rw [hd]; exact (List.append_nil (i64s c)).symm ▸ hfs.symm⟩
  · have hb2 := of_decide_eq_false hb
    refine Run.skip ?_
    refine End.kp [0] ?_
    refine Run.seq ?_
    refine Run.seq ?_
    have fx := And.intro (@List.length_set.{0}) (And.intro (@Int.toNat_natCast) (And.intro (@Int.natCast_nonneg) (And.intro (@Nat.zero_add) ft)))
    refine Run.go ?_
    refine End.kp [0, 3] ?_
    refine Run.block ?_
    refine Run.ghost (Ghost.form [(0, .vs 1 p 0 n g), (3, .i (1 : Nat))] 0 ⟨rfl, rfl, trivial⟩ rfl (by simp only [ASt.push, List.nil_append, List.cons_append, List.take_succ_cons, List.take_zero, List.all_cons, List.all_nil, AObj.under, i64s_set, unders_append, unders_ims, unders, PV.under, Bool.and_true, Bool.and_self])) ?_
    refine Run.loop (fun m st => ∃ (k : Nat), m = n - k ∧ 1 ≤ k ∧ k ≤ n ∧ (∀ i, 1 ≤ i → i < k → c.getD i 0 ≠ c.getD (i - 1) 0) ∧ st = ⟨[(0, .vs 1 p 0 n g), (3, .i (k : Nat))], [], up⟩) (n - 1) ⟨1, rfl, by omega, by omega, fun i h1 h2 => by omega, rfl⟩ fun m st hI => ?_
    obtain ⟨k0, rfl, hk1, hkn, hne, rfl⟩ := hI
    refine Run.seq ?_
    refine Run.seq ?_
    have fx := And.intro (@List.length_set.{0}) (And.intro (@Int.toNat_natCast) (And.intro (@Int.natCast_nonneg) (And.intro (@Nat.zero_add) ft)))
    refine Run.go ?_
    refine End.kp [0, 3, 13] ?_
    refine Run.cond _ rfl (fun hb => ?_) (fun hb => ?_)
    · have hb3 := of_decide_eq_true hb
      have hkl : k0 < n := by omega
      have gk := i64s_get c k0 (by omega)
      have gk1 := i64s_get c (k0 - 1) (by omega)
      have wk : IntKind.i64.wrap ((k0 : Int) - 1) = ((k0 - 1 : Nat) : Int) := by rw [wrap64 (by omega)]; omega
      have ki : (k0 : Int) < (n : Int) := by omega
      have ki1 : ((k0 - 1 : Nat) : Int) < (n : Int) := by omega
      have wk2 := nsucc hkl (by omega)
      refine Run.skip ?_
      refine End.kp [0, 3] ?_
      refine Run.seq ?_
      refine Run.block ?_
      refine Run.seq ?_
      have fx := And.intro wk2 (And.intro ki1 (And.intro ki (And.intro wk (And.intro gk1 (And.intro gk (And.intro hc (And.intro (@List.length_set.{0}) (And.intro (@Int.toNat_natCast) (And.intro (@Int.natCast_nonneg) (And.intro (@Nat.zero_add) ft))))))))))
      refine Run.drawA fun K hK => ?_
      refine DOps.sim ?_
      refine DOps.nil ?_ (hK _ ?_)
      · rfl
      clear hK K
      refine End.kp [0, 3, 25] ?_
      refine Run.cond _ rfl (fun hb => ?_) (fun hb => ?_)
      · have heq : c.getD k0 0 = c.getD (k0 - 1) 0 := eq_of_beq hb
        have hk0n : k0 ≤ n := by omega
        refine Run.seq ?_
        have fx := And.intro hk0n (And.intro wk2 (And.intro ki1 (And.intro ki (And.intro wk (And.intro gk1 (And.intro gk (And.intro hc (And.intro (@List.length_set.{0}) (And.intro (@Int.toNat_natCast) (And.intro (@Int.natCast_nonneg) (And.intro (@Nat.zero_add) ft)))))))))))
        refine Run.go ?_
        refine End.kp [0, 3, 4] ?_
        refine Run.seq ?_
        refine Run.seq ?_
        refine Run.go ?_
        refine End.kp [0, 3, 4, 5] ?_
        refine Run.block ?_
        refine Run.ghost (Ghost.form [(0, .vs 1 p 0 n g), (3, .i (k0 : Nat)), (4, .vs 1 p k0 (n - k0) g), (5, .i (1 : Nat))] 0 ⟨rfl, rfl, rfl, rfl, trivial⟩ rfl (by simp only [ASt.push, List.nil_append, List.cons_append, List.take_succ_cons, List.take_zero, List.all_cons, List.all_nil, AObj.under, i64s_set, unders_append, unders_ims, unders, PV.under, Bool.and_true, Bool.and_self])) ?_
        have hd0 : ddN c (k0 + 1) = c.take k0 := by rw [midL_same c k0 (by omega) heq]; exact ddN_take c k0 (by omega) hne
        have hl0 : (ddN c (k0 + 1)).length = k0 := by rw [hd0]; simp; omega
        have hm0 : midL c (k0 + 1) = c := by rw [midL, hl0, hd0, List.take_append_drop]
        refine Run.loop (fun m st => ∃ (q : Nat), m = n - (k0 + q) ∧ 1 ≤ q ∧ k0 + q ≤ n ∧ (ddN c (k0 + q)).length < k0 + q ∧ st = ⟨[(0, .vs 1 p 0 n g), (3, .i ((ddN c (k0 + q)).length : Nat)), (4, .vs 1 p k0 (n - k0) g), (5, .i (q : Nat))], [], fset up 0 p (.vec 3 g (i64s (midL c (k0 + q))))⟩) (n - (k0 + 1)) ⟨1, rfl, by omega, by omega, by omega, by rw [hl0, hm0, hfs]; rfl⟩ fun m st hJ => ?_
        obtain ⟨q, rfl, hq1, hqn, hdl, rfl⟩ := hJ
        have hcc : fget (fset up 0 p (.vec 3 g (i64s (midL c (k0 + q))))) 0 p = some (.vec 3 g (i64s (midL c (k0 + q)))) := by rw [fget_fset, if_pos ⟨rfl, rfl⟩, hc]; rfl
        have hml := midL_len c (k0 + q) (by omega)
        have hmg := midL_get c (k0 + q)
        have hmi : (i64s (midL c (k0 + q))).length = n := by simp; omega
        have kk1 : (ddN c (k0 + q)).length ≤ n := by omega
        refine Run.seq ?_
        refine Run.seq ?_
        have fx := And.intro hcc (And.intro hk0n (And.intro wk2 (And.intro ki1 (And.intro ki (And.intro wk (And.intro gk1 (And.intro gk (And.intro hc (And.intro (@List.length_set.{0}) (And.intro (@Int.toNat_natCast) (And.intro (@Int.natCast_nonneg) (And.intro (@Nat.zero_add) ft))))))))))))
        refine Run.go ?_
        refine End.kp [0, 3, 4, 5, 32] ?_
        refine Run.cond _ rfl (fun hb => ?_) (fun hb => ?_)
        · have hb4 := of_decide_eq_true hb
          have hjl : k0 + q < n := by omega
          have gj : (i64s (midL c (k0 + q)))[k0 + q]? = some (.im (.int .i64 (c.getD (k0 + q) 0))) := by rw [i64s_get _ _ (by omega), hmg _ (by omega) (by omega)]
          have gj1 : (i64s (midL c (k0 + q)))[k0 + (q - 1)]? = some (.im (.int .i64 (c.getD (k0 + q - 1) 0))) := by rw [i64s_get _ _ (by omega), hmg _ (by omega) (by omega), show k0 + (q - 1) = k0 + q - 1 by omega]
          have wq : IntKind.i64.wrap ((q : Int) - 1) = ((q - 1 : Nat) : Int) := by rw [wrap64 (by omega)]; omega
          have qi : (q : Int) < ((n - k0 : Nat) : Int) := by omega
          have qi1 : ((q - 1 : Nat) : Int) < ((n - k0 : Nat) : Int) := by omega
          have wq2 := nsucc (i := q) (n := n) (by omega) (by omega)
          have wd2 := nsucc (i := (ddN c (k0 + q)).length) (n := n) (by omega) (by omega)
          have di : (((ddN c (k0 + q)).length : Nat) : Int) < (n : Int) := by omega
          have dn : (ddN c (k0 + q)).length < n := by omega
          refine Run.skip ?_
          refine End.kp [0, 3, 4, 5] ?_
          refine Run.seq ?_
          refine Run.block ?_
          refine Run.seq ?_
          have fx := And.intro hmi (And.intro dn (And.intro di (And.intro wd2 (And.intro wq2 (And.intro qi1 (And.intro qi (And.intro wq (And.intro gj1 (And.intro gj (And.intro (@fget_fset) (And.intro hcc (And.intro hk0n (And.intro wk2 (And.intro ki1 (And.intro ki (And.intro wk (And.intro gk1 (And.intro gk (And.intro hc (And.intro (@List.length_set.{0}) (And.intro (@Int.toNat_natCast) (And.intro (@Int.natCast_nonneg) (And.intro (@Nat.zero_add) ft)))))))))))))))))))))))
          refine Run.drawA fun K hK => ?_
          refine DOps.sim ?_
          refine DOps.nil ?_ (hK _ ?_)
          · rfl
          clear hK K
          refine End.kp [0, 3, 4, 5, 44] ?_
          refine Run.cond _ rfl (fun hb => ?_) (fun hb => ?_)
          · have hne2 : c.getD (k0 + q) 0 ≠ c.getD (k0 + q - 1) 0 := by simpa using hb
            obtain ⟨hs1, hs2⟩ := midL_next c (k0 + q) (by omega) hdl hne2
            refine Run.seq ?_
            have fx := And.intro hmi (And.intro dn (And.intro di (And.intro wd2 (And.intro wq2 (And.intro qi1 (And.intro qi (And.intro wq (And.intro gj1 (And.intro gj (And.intro (@fget_fset) (And.intro hcc (And.intro hk0n (And.intro wk2 (And.intro ki1 (And.intro ki (And.intro wk (And.intro gk1 (And.intro gk (And.intro hc (And.intro (@List.length_set.{0}) (And.intro (@Int.toNat_natCast) (And.intro (@Int.natCast_nonneg) (And.intro (@Nat.zero_add) ft)))))))))))))))))))))))
            refine Run.go ?_
            refine End.kp [0, 3, 4, 5] ?_
            refine Run.go ?_
            refine End.blk ?_
            refine End.kp [0, 3, 4, 5] ?_
            refine Run.go ?_
            refine End.lp ?_
            refine ⟨n - (k0 + (q + 1)), _, by omega, Ghost.form [(0, .vs 1 p 0 n g), (3, .i (((ddN c (k0 + q)).length + 1) : Nat)), (4, .vs 1 p k0 (n - k0) g), (5, .i (q + 1 : Nat))] 0 ⟨rfl, rfl, rfl, rfl, trivial⟩ rfl (by simp only [ASt.push, List.nil_append, List.cons_append, List.take_succ_cons, List.take_zero, List.all_cons, List.all_nil, AObj.under, i64s_set, unders_append, unders_ims, unders, PV.under, Bool.and_true, Bool.and_self]), q + 1, rfl, by omega, by omega, by show (ddN c (k0 + q + 1)).length < _; omega, ?_⟩
            show _ = (⟨_, [], fset up 0 p (.vec 3 g (i64s (midL c (k0 + q + 1))))⟩ : ASt)
            rw [← hs1, show (ddN c (k0 + (q + 1))).length = (ddN c (k0 + q)).length + 1 from hs2, ← i64s_set]
            simp only [ASt.push, List.take_zero, fset_fset2]
          · have heq2 : c.getD (k0 + q) 0 = c.getD (k0 + q - 1) 0 := by simpa using hb
            have hs1 := midL_same c (k0 + q) (by omega) heq2
            refine Run.skip ?_
            refine End.blk ?_
            refine End.kp [0, 3, 4, 5] ?_
            have fx := And.intro hmi (And.intro dn (And.intro di (And.intro wd2 (And.intro wq2 (And.intro qi1 (And.intro qi (And.intro wq (And.intro gj1 (And.intro gj (And.intro (@fget_fset) (And.intro hcc (And.intro hk0n (And.intro wk2 (And.intro ki1 (And.intro ki (And.intro wk (And.intro gk1 (And.intro gk (And.intro hc (And.intro (@List.length_set.{0}) (And.intro (@Int.toNat_natCast) (And.intro (@Int.natCast_nonneg) (And.intro (@Nat.zero_add) ft)))))))))))))))))))))))
            refine Run.go ?_
            refine End.lp ?_
            refine ⟨n - (k0 + (q + 1)), _, by omega, Ghost.form [(0, .vs 1 p 0 n g), (3, .i ((ddN c (k0 + q)).length : Nat)), (4, .vs 1 p k0 (n - k0) g), (5, .i (q + 1 : Nat))] 0 ⟨rfl, rfl, rfl, rfl, trivial⟩ rfl (by simp only [ASt.push, List.nil_append, List.cons_append, List.take_succ_cons, List.take_zero, List.all_cons, List.all_nil, AObj.under, i64s_set, unders_append, unders_ims, unders, PV.under, Bool.and_true, Bool.and_self]), q + 1, rfl, by omega, by omega, by show (ddN c (k0 + q + 1)).length < _; rw [hs1]; omega, ?_⟩
            show _ = (⟨_, [], fset up 0 p (.vec 3 g (i64s (midL c (k0 + q + 1))))⟩ : ASt)
            rw [show midL c (k0 + q + 1) = midL c (k0 + q) by unfold midL; rw [hs1], show (ddN c (k0 + (q + 1))) = ddN c (k0 + q) from hs1]
            rfl
        · have hb4 := of_decide_eq_false hb
          have hqe : k0 + q = n := by omega
          have hdd : dd c = ddN c (k0 + q) := by rw [hqe, hn]; rfl
          have hlt : (ddN c (k0 + q)).length < n := by omega
          refine Run.exit rfl ?_
          refine End.kp [0, 3] ?_
          refine Run.seq ?_
          have fx := And.intro kk1 (And.intro hcc (And.intro hk0n (And.intro wk2 (And.intro ki1 (And.intro ki (And.intro wk (And.intro gk1 (And.intro gk (And.intro hc (And.intro (@List.length_set.{0}) (And.intro (@Int.toNat_natCast) (And.intro (@Int.natCast_nonneg) (And.intro (@Nat.zero_add) ft)))))))))))))
          refine Run.region rfl fun K hK => GOps.simK 3 ?_
          refine GOps.clearVs (d := 1) (j := p) (o := (ddN c (k0 + q)).length) (m := n - (ddN c (k0 + q)).length) (g := g) (e := 3) (z := .im (.int .i64 0)) (cs := i64s (midL c (k0 + q))) (by exact hcc) (by omega) ?_
          refine GOps.sim ?_
          refine GOps.done (hK _ ?_); clear hK K
          refine End.kp [0, 3] ?_
          refine Run.seq ?_
          have fx := And.intro kk1 (And.intro hcc (And.intro hk0n (And.intro wk2 (And.intro ki1 (And.intro ki (And.intro wk (And.intro gk1 (And.intro gk (And.intro hc (And.intro (@List.length_set.{0}) (And.intro (@Int.toNat_natCast) (And.intro (@Int.natCast_nonneg) (And.intro (@Nat.zero_add) ft)))))))))))))
          refine Run.go ?_
          refine End.kp [2] ?_
          refine Run.ret (hQ _ _ ⟨.inr rfl, _, rfl, _, rfl, ?_⟩)
          refine ⟨List.replicate (n - (ddN c (k0 + q)).length) 0, by rw [hdd]; rfl, ?_⟩
          rw [hdd, show i64s (List.replicate (n - (ddN c (k0 + q)).length) 0) = List.replicate (n - (ddN c (k0 + q)).length) (PV.im (.int .i64 0)) by simp]
          have h1 : (List.replicate (n - (ddN c (k0 + q)).length) (PV.im (.int .i64 0))).length = n - (ddN c (k0 + q)).length := by simp
          have h2 : (i64s (midL c (k0 + q))).take (ddN c (k0 + q)).length = i64s (ddN c (k0 + q)) := by rw [midL, i64s_app, List.take_left' (by simp)]
          have h3 : (i64s (midL c (k0 + q))).drop ((ddN c (k0 + q)).length + (n - (ddN c (k0 + q)).length)) = [] := List.drop_of_length_le (by omega)
          show fset up 0 p _ = fset up 0 p _
          rw [h1, h2, h3, List.append_nil]
      · have hne1 : c.getD k0 0 ≠ c.getD (k0 - 1) 0 := ne_of_beq_false hb
        refine Run.skip ?_
        refine End.blk ?_
        refine End.kp [0, 3] ?_
        have fx := And.intro wk2 (And.intro ki1 (And.intro ki (And.intro wk (And.intro gk1 (And.intro gk (And.intro hc (And.intro (@List.length_set.{0}) (And.intro (@Int.toNat_natCast) (And.intro (@Int.natCast_nonneg) (And.intro (@Nat.zero_add) ft))))))))))
        refine Run.go ?_
        refine End.lp ?_
        refine ⟨n - (k0 + 1), _, by omega, Ghost.form [(0, .vs 1 p 0 n g), (3, .i ((k0 + 1) : Nat))] 0 ⟨rfl, rfl, trivial⟩ rfl (by simp only [ASt.push, List.nil_append, List.cons_append, List.take_succ_cons, List.take_zero, List.all_cons, List.all_nil, AObj.under, i64s_set, unders_append, unders_ims, unders, PV.under, Bool.and_true, Bool.and_self]), k0 + 1, rfl, by omega, by omega, fun i h1 h2 => ?_, rfl⟩
        by_cases e : i = k0
        · subst e; exact hne1
        · exact hne i h1 (by omega)
    · have hb3 := of_decide_eq_false hb
      have hd : dd c = c := by
        unfold dd
        rw [ddN_take c _ (Nat.le_refl _) (fun i h1 h2 => hne i h1 (by omega)), List.take_of_length_le (Nat.le_refl _)]
      refine Run.exit rfl ?_
      refine End.kp [0] ?_
      refine Run.seq ?_
      have fx := And.intro (@List.length_set.{0}) (And.intro (@Int.toNat_natCast) (And.intro (@Int.natCast_nonneg) (And.intro (@Nat.zero_add) ft)))
      refine Run.go ?_
      refine End.kp [2] ?_
      refine Run.ret (hQ _ _ ⟨.inr rfl, _, rfl, _, rfl, ?_⟩)
      exact ⟨[], by rw [hd, ← hn], by rw [hd]; exact (List.append_nil (i64s c)).symm ▸ hfs.symm⟩
end Go.Proofs.YtdgpmopcmacicaaPi

/- The walk of tidy. -/
set_option linter.unusedVariables false
set_option linter.unusedSimpArgs false
set_option maxRecDepth 100000
namespace Go.Proofs.YtdgpmopcmacicaaPi
set_option maxHeartbeats 40000000
theorem tidy_ok (x : Int) (xs : List Int) (hl : xs.length ≤ 11) (hb0 : ∀ l ∈ x :: xs, -100000 ≤ l ∧ l ≤ 100000) (f : List AObj) (rest : Frs) : ACalls Try.prog 166 [.im (.sl (ints (x :: xs)))] (f :: rest) fun v u =>
    ∃ rs : List Int, v = (if taut (tidyL (x :: xs)) = true then .tup [.nils, .im (.bool false)] else .tup [.vs 0 (f.length + 0) 0 (tidyL (x :: xs)).length 1, .im (.bool true)]) ∧ u = (f ++ [.vec 3 1 (i64s (tidyL (x :: xs)) ++ i64s rs)]) :: rest := by
  obtain ⟨t1, t2, t3, t4⟩ := tidyL_spec (x :: xs)
  obtain ⟨s1, s2, s3⟩ := sorts_spec ((x :: xs).length - 1) (x :: xs) 1 (by simp) (by omega) (fun a b hab hb _ => by rw [show a = b by omega]; exact Int.le_refl _)
  simp only [List.length_cons] at t4
  refine ACalls.codeX Try.func166 rfl 30 rfl (by simp) [.tmp 2, .tmp 3] rfl fun Q hQ => ?_
  simp only [ups, PV.up, argEnv]
  have ft := And.intro ty_3 (And.intro ty_4 (And.intro ty_22 trivial))
  refine Run.seq ?_
  have fx := And.intro (@Int.toNat_natCast) (And.intro (@Int.natCast_nonneg) (And.intro (@Nat.zero_add) ft))
  refine Run.go ?_
  refine End.kp [0] ?_
  refine Run.seq ?_
  refine Run.region rfl fun K hK => GOps.sim ?_
  refine GOps.call rfl rfl rfl rfl (by kernel_rfl) (ACalls.sim ?_)
  refine (CloneD_cons x xs (by omega) _ _).mono fun v u hv => ?_
  obtain ⟨rfl, rfl⟩ := hv
  refine ⟨_, _, rfl, GOps.sim ?_⟩
  refine GOps.done (hK _ ?_); clear hK K
  refine End.kp [0] ?_
  refine Run.seq ?_
  refine Run.region rfl fun K hK => GOps.sim ?_
  refine GOps.call rfl rfl rfl rfl (by kernel_rfl) (ACalls.sim ?_)
  refine (sortV_ok 0 1 (xs.length + 1) (x :: xs) _ rfl rfl (by omega)).mono fun v u hv => ?_
  obtain ⟨rfl, rfl⟩ := hv
  refine ⟨_, _, rfl, GOps.sim ?_⟩
  refine GOps.done (hK _ ?_); clear hK K
  refine End.kp [0] ?_
  refine Run.seq ?_
  refine Run.region rfl fun K hK => GOps.sim ?_
  refine GOps.call rfl rfl rfl rfl (by kernel_rfl) (ACalls.sim ?_)
  refine (compactV_ok 0 1 (xs.length + 1) (sorts ((x :: xs).length - 1) (x :: xs) 1) _ rfl s1.symm (by rw [s1]; simp; omega)).mono fun v u hv => ?_
  obtain ⟨rs, rfl, rfl⟩ := hv
  refine ⟨_, _, rfl, GOps.sim ?_⟩
  refine GOps.done (hK _ ?_); clear hK K
  refine End.kp [0] ?_
  refine Run.seq ?_
  refine Run.seq ?_
  refine Run.go ?_
  refine End.kp [0, 14, 15, 16] ?_
  refine Run.block ?_
  change Run _ _ _ _ _ (⟨_, [.vec 3 1 (i64s (tidyL (x :: xs)) ++ i64s rs)], _⟩ : ASt)
  refine Run.ghost (Ghost.form [(0, .vs 0 0 0 (tidyL (x :: xs)).length 1), (14, .vs 0 0 0 (tidyL (x :: xs)).length 1), (15, .i (tidyL (x :: xs)).length), (16, .i (0 : Nat))] 1 ⟨rfl, rfl, rfl, rfl, trivial⟩ rfl (by simp only [ASt.push, List.nil_append, List.cons_append, List.take_succ_cons, List.take_zero, List.all_cons, List.all_nil, AObj.under, i64s_set, unders_append, unders_ims, unders, PV.under, Bool.and_true, Bool.and_self])) ?_
  refine Run.loop (fun m st => ∃ (i : Nat), m = (tidyL (x :: xs)).length - i ∧ i ≤ (tidyL (x :: xs)).length ∧ (∀ q, q < i → -((tidyL (x :: xs)).getD q 0) ∉ tidyL (x :: xs)) ∧ st = ⟨[(0, .vs 0 0 0 (tidyL (x :: xs)).length 1), (14, .vs 0 0 0 (tidyL (x :: xs)).length 1), (15, .i (tidyL (x :: xs)).length), (16, .i (i : Nat))], [.vec 3 1 (i64s (tidyL (x :: xs)) ++ i64s rs)], f :: rest⟩) (tidyL (x :: xs)).length ⟨0, rfl, by omega, fun q hq => by omega, rfl⟩ fun m st hI => ?_
  obtain ⟨i, rfl, hi, hno, rfl⟩ := hI
  refine Run.seq ?_
  have fx := And.intro (@Int.toNat_natCast) (And.intro (@Int.natCast_nonneg) (And.intro (@Nat.zero_add) ft))
  refine Run.go ?_
  refine End.kp [0, 14, 15, 16, 17] ?_
  refine Run.seq ?_
  refine Run.cond _ rfl (fun hb => ?_) (fun hb => ?_)
  · have hb2 := of_decide_eq_true hb
    have hil : i < (tidyL (x :: xs)).length := by omega
    have gi : (i64s (tidyL (x :: xs)) ++ i64s rs)[i]? = some (.im (.int .i64 ((tidyL (x :: xs)).getD i 0))) := by rw [List.getElem?_append_left (by simp; omega)]; exact i64s_get _ _ hil
    have hii : (i : Int) < ((tidyL (x :: xs)).length : Int) := by omega
    have wi := nsucc hil (by omega)
    have hlb := hb0 _ ((t3 _).1 (getD_mem (d := 0) hil))
    obtain ⟨l, hle⟩ : ∃ l, l = (tidyL (x :: xs)).getD i 0 := ⟨_, rfl⟩
    rw [← hle] at gi hlb
    have wn : IntKind.i64.wrap (0 - l) = -l := by rw [wrap64 (by omega)]; omega
    refine Run.skip ?_
    refine End.kp [0, 14, 15, 16] ?_
    refine Run.seq ?_
    refine Run.block ?_
    refine Run.seq ?_
    have fx := And.intro wn (And.intro wi (And.intro hii (And.intro gi (And.intro (@Int.toNat_natCast) (And.intro (@Int.natCast_nonneg) (And.intro (@Nat.zero_add) ft))))))
    refine Run.go ?_
    refine End.kp [0, 5, 14, 15, 16] ?_
    refine Run.seq ?_
    refine Run.region rfl fun K hK => GOps.sim ?_
    refine GOps.call rfl rfl rfl rfl (by kernel_rfl) (ACalls.sim ?_)
    refine (bsV_ok 0 1 (tidyL (x :: xs)).length (-l) (tidyL (x :: xs)) (i64s rs) _ rfl rfl (by omega) t2).mono fun v u hv => ?_
    obtain ⟨⟨k, rfl⟩, rfl⟩ := hv
    refine ⟨_, _, rfl, GOps.sim ?_⟩
    refine GOps.done (hK _ ?_); clear hK K
    refine End.kp [0, 7, 14, 15, 16] ?_
    refine Run.seq ?_
    refine Run.go ?_
    refine End.kp [0, 14, 15, 16, 27] ?_
    refine Run.cond _ rfl (fun hb => ?_) (fun hb => ?_)
    · have hm := of_decide_eq_true hb
      have ht : taut (tidyL (x :: xs)) = true := decide_eq_true ⟨l, by rw [hle]; exact getD_mem hil, hm⟩
      refine Run.seq ?_
      have fx := And.intro wn (And.intro wi (And.intro hii (And.intro gi (And.intro (@Int.toNat_natCast) (And.intro (@Int.natCast_nonneg) (And.intro (@Nat.zero_add) ft))))))
      refine Run.go ?_
      refine End.kp [2, 3] ?_
      refine Run.ret (hQ _ _ ⟨.inr rfl, _, rfl, _, _, rfl, ?_⟩)
      refine ⟨rs, by rw [ht]; rfl, ?_⟩
      show (f ++ [AObj.vec 3 1 (mgs f.length (i64s (tidyL (x :: xs)) ++ i64s rs))]) :: rest = _
      rw [← i64s_app, mgs_ims]
    · have hm := of_decide_eq_false hb
      refine Run.skip ?_
      refine End.blk ?_
      refine End.kp [0, 14, 15, 16] ?_
      have fx := And.intro wn (And.intro wi (And.intro hii (And.intro gi (And.intro (@Int.toNat_natCast) (And.intro (@Int.natCast_nonneg) (And.intro (@Nat.zero_add) ft))))))
      refine Run.go ?_
      refine End.lp ?_
      refine ⟨(tidyL (x :: xs)).length - (i + 1), _, by omega, Ghost.form [(0, .vs 0 0 0 (tidyL (x :: xs)).length 1), (14, .vs 0 0 0 (tidyL (x :: xs)).length 1), (15, .i (tidyL (x :: xs)).length), (16, .i ((i + 1) : Nat))] 1 ⟨rfl, rfl, rfl, rfl, trivial⟩ rfl (by simp only [ASt.push, List.nil_append, List.cons_append, List.take_succ_cons, List.take_zero, List.all_cons, List.all_nil, AObj.under, i64s_set, unders_append, unders_ims, unders, PV.under, Bool.and_true, Bool.and_self]), i + 1, rfl, by omega, fun q hq => ?_, rfl⟩
      by_cases e : q = i
      · rw [e, ← hle]; exact hm
      · exact hno q (by omega)
  · have hb2 := of_decide_eq_false hb
    have ht : taut (tidyL (x :: xs)) = false := decide_eq_false (fun ⟨l, h1, h2⟩ => by
      obtain ⟨q, hq, e⟩ := mem_getD (d := 0) h1
      exact hno q (by omega) (by rw [e]; exact h2))
    refine Run.exit rfl ?_
    refine End.kp [0] ?_
    refine Run.seq ?_
    have fx := And.intro (@Int.toNat_natCast) (And.intro (@Int.natCast_nonneg) (And.intro (@Nat.zero_add) ft))
    refine Run.go ?_
    refine End.kp [2, 3] ?_
    refine Run.ret (hQ _ _ ⟨.inr rfl, _, rfl, _, _, rfl, ?_⟩)
    refine ⟨rs, by rw [ht]; rfl, ?_⟩
    show (f ++ [AObj.vec 3 1 (mgs f.length (i64s (tidyL (x :: xs)) ++ i64s rs))]) :: rest = _
    rw [← i64s_app, mgs_ims]
end Go.Proofs.YtdgpmopcmacicaaPi

/- The walk of load. -/
set_option linter.unusedVariables false
set_option linter.unusedSimpArgs false
set_option maxRecDepth 100000
namespace Go.Proofs.YtdgpmopcmacicaaPi
set_option maxHeartbeats 40000000
/-- What a part of the search that may take in clauses keeps. -/
structure KeptN (up u : Frs) (d : Nat) (S : Sol) (V : Ver) (S' : Sol) (V' : Ver) : Prop where
  at' : SAt u d S' V'
  els : Else up u d S V.K
  K : V'.K = V.K
  n : S'.n = S.n
  cl : S.cl.length ≤ S'.cl.length
  spare : ∀ m, S'.cl.length ≤ m → Spare up d S V.K m → Spare u d S V.K m
theorem KeptD.toN {up u : Frs} {d : Nat} {S S' : Sol} {V V' : Ver} (h : KeptD up u d S V S' V') : KeptN up u d S V S' V' := ⟨h.at', h.els, h.K, h.n, Nat.le_of_eq h.cl.symm, fun m hm => h.spare m (by rw [← h.cl]; exact hm)⟩
theorem KeptN.trans {up u v : Frs} {d : Nat} {S S1 S2 : Sol} {V V1 V2 : Ver} (h : KeptN up u d S V S1 V1) (k : KeptN u v d S1 V1 S2 V2) : KeptN up v d S V S2 V2 :=
  ⟨k.at', h.els.trans h.n (h.K ▸ k.els), k.K.trans h.K, k.n.trans h.n, Nat.le_trans h.cl k.cl, fun m hm hs => by
    have h1 := h.spare m (Nat.le_trans k.cl hm) hs
    have h2 := k.spare m hm (by intro q a b; rw [h.n]; exact h1 q a (by rw [← h.K]; exact b))
    intro q a b
    have := h2 q a (by rw [h.K]; exact b)
    rwa [h.n] at this⟩
theorem SAt.put {up : Frs} {d : Nat} {S : Sol} {V : Ver} (h : SAt up d S V) {k : Nat} (hk : S.cl.length ≤ k) (o : AObj) : SAt (fset up d (k + (2 * S.n + 2) + 11) o) d S V := by
  have e : ∀ j, j ≠ k + (2 * S.n + 2) + 11 → fget (fset up d (k + (2 * S.n + 2) + 11) o) d j = fget up d j := fun j h1 => by rw [fget_fset, if_neg (fun e => h1 e.2)]
  exact ⟨(e 5 (by omega)).trans h.box, (e 1 (by omega)).trans h.wch, (e 2 (by omega)).trans h.val, (e 3 (by omega)).trans h.lev, (e 4 (by omega)).trans h.why, (e 7 (by omega)).trans h.clo, (e 8 (by omega)).trans h.trl, (e 9 (by omega)).trans h.sts, fun i hi => (e _ (by omega)).trans (h.wli i hi), fun i hi => (e _ (by omega)).trans (h.cli i hi)⟩
/-- A clause laid at the next free place and taken in. -/
theorem addU_kept {up : Frs} {d : Nat} {S : Sol} {V : Ver} (h : SAt up d S V) {c : List Int} (hw : S.wl.length = 2 * S.n + 2) (hK : S.cl.length < V.K) (hsp : Spare up d S V.K S.cl.length) (h0 : atL (c.getD 0 0) < 2 * S.n + 2) (h1 : atL (c.getD 1 0) < 2 * S.n + 2) :
    KeptN up (addU (fset up d (S.cl.length + (2 * S.n + 2) + 11) (.vec 3 0 (i64s c))) d S V c) d S V (S.add c) (addV V c) := by
  have hd := hsp S.cl.length (Nat.le_refl _) hK
  have hA := h.put (k := S.cl.length) (Nat.le_refl _) (.vec 3 0 (i64s c))
  refine ⟨addU_at hA c (by rw [fget_fset, if_pos ⟨rfl, rfl⟩, hd]; rfl) hw h0 h1, ((Else.refl up d S V.K).fset (by unfold SPl; omega) _).trans rfl (addU_else _ d S V c h0 h1), rfl, rfl, by simp [Sol.add], fun m hm hs => ?_⟩
  have hm2 : S.cl.length + 1 ≤ m := by simpa [Sol.add] using hm
  exact addU_spare (fun k q1 q2 => by rw [fget_fset, if_neg (by omega)]; exact hs k q1 q2) h0 h1
/-- Clauses that are taken in. -/
structure ClsIn (n : Nat) (cs : List (List Int)) : Prop where
  len : cs.length ≤ 80000
  cls : ∀ c ∈ cs, 0 < c.length ∧ c.length ≤ 12 ∧ ∀ l ∈ c, LitOk n l
theorem tidy_no (x : Int) (xs : List Int) (h : taut (tidyL (x :: xs)) = true) (hl : xs.length ≤ 11) (hb0 : ∀ l ∈ x :: xs, -100000 ≤ l ∧ l ≤ 100000) (f : List AObj) (rest : Frs) : ACalls Try.prog 166 [.im (.sl (ints (x :: xs)))] (f :: rest) fun v u =>
    ∃ rs : List Int, v = .tup [.nils, .im (.bool false)] ∧ u = (f ++ [.vec 3 1 (i64s (tidyL (x :: xs)) ++ i64s rs)]) :: rest := (tidy_ok x xs hl hb0 f rest).mono fun v u ⟨rs, h1, h2⟩ => ⟨rs, by rw [h1, if_pos h], h2⟩
theorem tidy_yes (x : Int) (xs : List Int) (h : taut (tidyL (x :: xs)) = false) (hl : xs.length ≤ 11) (hb0 : ∀ l ∈ x :: xs, -100000 ≤ l ∧ l ≤ 100000) (f : List AObj) (rest : Frs) : ACalls Try.prog 166 [.im (.sl (ints (x :: xs)))] (f :: rest) fun v u =>
    ∃ rs : List Int, v = .tup [.vs 0 (f.length + 0) 0 (tidyL (x :: xs)).length 1, .im (.bool true)] ∧ u = (f ++ [.vec 3 1 (i64s (tidyL (x :: xs)) ++ i64s rs)]) :: rest := (tidy_ok x xs hl hb0 f rest).mono fun v u ⟨rs, h1, h2⟩ => ⟨rs, by rw [h1, if_neg (by rw [h]; decide)], h2⟩
theorem sload_ok (S : Sol) (V : Ver) (B : Nat) (up : Frs) (cs : List (List Int)) (hcs : ClsIn S.n cs) (hA : SAt up 0 S V) (hS : SW S B) (hK : S.cl.length + cs.length ≤ V.K) (hK2 : V.K ≤ 400000) (hsp : Spare up 0 S V.K S.cl.length) (hB : B + 2 * cs.length ≤ 1000000) : ACalls Try.prog 140 [.ptr 0 5 0, .im (.sl (clss cs))] up fun v u => ∃ V' B',
    v = .im (.bool (Sol.load cs S).2) ∧ KeptN up u 0 S V (Sol.load cs S).1 V' ∧ SW (Sol.load cs S).1 B' ∧ B' ≤ B + 2 * cs.length ∧ (Sol.load cs S).1.cl.length ≤ S.cl.length + cs.length := by
  have hcl := hcs.len
  have hn := hS.len.n
  refine ACalls.code Try.func140 rfl 65 rfl (by simp) [.tmp 4] rfl fun Q hQ => ?_
  simp only [ups, PV.up, argEnv]
  have ft := And.intro ty_3 (And.intro ty_4 (And.intro ty_22 (And.intro ty_81 (And.intro ty_216 (And.intro ty_221 trivial)))))
  refine Run.seq ?_
  have fx := And.intro (@Nat.zero_add) (And.intro (@Int.toNat_natCast) (And.intro (@Int.natCast_nonneg) (And.intro (@List.length_map.{0, 0}) ft)))
  refine Run.go ?_
  refine End.kp [0, 1] ?_
  refine Run.seq ?_
  refine Run.seq ?_
  refine Run.go ?_
  refine End.kp [0, 9, 10, 11] ?_
  refine Run.block ?_
  refine Run.ghost (Ghost.form [(0, .ptr 1 5 0), (9, .im (.sl (clss cs))), (10, .i cs.length), (11, .i (0 : Nat))] 0 ⟨rfl, rfl, rfl, rfl, trivial⟩ rfl (by simp only [ASt.push, List.nil_append, List.cons_append, List.take_succ_cons, List.take_zero, List.all_cons, List.all_nil, AObj.under, i64s_set, unders_append, unders_ims, unders, PV.under, Bool.and_true, Bool.and_self])) ?_
  refine Run.loop (fun m st => ∃ (i : Nat) (u : Frs) (S1 : Sol) (V1 : Ver) (B1 : Nat), m = cs.length - i ∧ i ≤ cs.length ∧ Sol.load cs S = Sol.load (cs.drop i) S1 ∧ (KeptN up u 0 S V S1 V1 ∧ SW S1 B1 ∧ B1 ≤ B + 2 * i ∧ S1.cl.length ≤ S.cl.length + i) ∧ st = ⟨[(0, .ptr 1 5 0), (9, .im (.sl (clss cs))), (10, .i cs.length), (11, .i (i : Nat))], [], u⟩) cs.length ⟨0, up, S, V, B, rfl, by omega, rfl, ⟨(Kept.refl hA).toD.toN, hS, by omega, by omega⟩, rfl⟩ fun m st hI => ?_
  obtain ⟨i, u, S1, V1, B1, rfl, hi, heq, ⟨hkp, hS1, hB1, hc1⟩, rfl⟩ := hI
  have hA1 := hkp.at'
  refine Run.seq ?_
  have fx := And.intro (@Nat.zero_add) (And.intro (@Int.toNat_natCast) (And.intro (@Int.natCast_nonneg) (And.intro (@List.length_map.{0, 0}) ft)))
  refine Run.go ?_
  refine End.kp [0, 9, 10, 11, 12] ?_
  refine Run.seq ?_
  refine Run.cond _ rfl (fun hb => ?_) (fun hb => ?_)
  · have hb2 := of_decide_eq_true hb
    have hil : i < cs.length := by omega
    have gi := clss_get cs i hil
    have hii : (i : Int) < (cs.length : Int) := by omega
    have wi := csucc hil (by omega)
    obtain ⟨k1, k2, k3⟩ := hcs.cls _ (getD_mem (d := []) hil)
    rw [drop_gtD [] hil] at heq
    generalize cs.getD i [] = c at gi k1 k2 k3 heq
    obtain ⟨x, xs, rfl⟩ : ∃ x xs, c = x :: xs := by
      cases c with
      | nil => simp at k1
      | cons x xs => exact ⟨x, xs, rfl⟩
    simp only [List.length_cons] at k2
    have hlb : ∀ l ∈ x :: xs, -100000 ≤ l ∧ l ≤ 100000 := fun l hl => by have := (k3 l hl).2; omega
    obtain ⟨td, tu, tm, tl⟩ := tidyL_spec (x :: xs)
    have tlo : ∀ l ∈ tidyL (x :: xs), LitOk S1.n l := fun l hl => by rw [hkp.n]; exact k3 l ((tm l).1 hl)
    have tpos : 0 < (tidyL (x :: xs)).length := List.length_pos_iff.2 (List.ne_nil_of_mem ((tm x).2 (by simp)))
    simp only [List.length_cons] at tl
    have l0 := tlo _ (getD_mem (d := 0) tpos)
    refine Run.skip ?_
    refine End.kp [0, 9, 10, 11] ?_
    refine Run.seq ?_
    refine Run.block ?_
    refine Run.seq ?_
    have fx := And.intro wi (And.intro hii (And.intro gi (And.intro (@Nat.zero_add) (And.intro (@Int.toNat_natCast) (And.intro (@Int.natCast_nonneg) (And.intro (@List.length_map.{0, 0}) ft))))))
    refine Run.go ?_
    refine End.kp [0, 6, 9, 10, 11] ?_
    refine Run.seq ?_
    rcases Bool.eq_false_or_eq_true (taut (tidyL (x :: xs))) with hs4 | hs4
    · skip
      have hs5 := hs4
      have fx := And.intro hs4 (And.intro wi (And.intro hii (And.intro gi (And.intro (@Nat.zero_add) (And.intro (@Int.toNat_natCast) (And.intro (@Int.natCast_nonneg) (And.intro (@List.length_map.{0, 0}) ft)))))))
      refine Run.region rfl fun K hK => GOps.sim ?_
      refine GOps.call rfl rfl rfl rfl (by kernel_rfl) (ACalls.sim ?_)
      refine (tidy_no x xs hs4 (by omega) hlb _ _).mono fun v u hv => ?_
      obtain ⟨rs, rfl, rfl⟩ := hv
      refine ⟨_, _, rfl, GOps.sim ?_⟩
      refine GOps.done (hK _ ?_); clear hK K
      refine End.kp [0, 7, 8, 9, 10, 11] ?_
      refine Run.block ?_
      refine Run.seq ?_
      refine Run.go ?_
      refine End.kp [0, 7, 9, 10, 11, 20] ?_
      refine Run.cond _ rfl (fun hb => ?_) (fun hb => ?_)
      · have hb3 := hb
        refine Run.skip ?_
        refine End.blk ?_
        refine End.blk ?_
        refine End.kp [0, 9, 10, 11] ?_
        have fx := And.intro hs4 (And.intro wi (And.intro hii (And.intro gi (And.intro (@Nat.zero_add) (And.intro (@Int.toNat_natCast) (And.intro (@Int.natCast_nonneg) (And.intro (@List.length_map.{0, 0}) ft)))))))
        refine Run.go ?_
        refine End.lp ?_
        refine ⟨cs.length - (i + 1), _, by omega, Ghost.form [(0, .ptr 1 5 0), (9, .im (.sl (clss cs))), (10, .i cs.length), (11, .i ((i + 1) : Nat))] 0 ⟨rfl, rfl, rfl, rfl, trivial⟩ rfl (by simp only [ASt.push, List.nil_append, List.cons_append, List.take_succ_cons, List.take_zero, List.all_cons, List.all_nil, AObj.under, i64s_set, unders_append, unders_ims, unders, PV.under, Bool.and_true, Bool.and_self]), i + 1, _, S1, V1, B1, rfl, by omega, by rw [heq, load_yes (show S1.take1 (x :: xs) = (S1, true) by rw [Sol.take1, if_pos hs5])], ⟨hkp, hS1, by omega, by omega⟩, rfl⟩
      · have hb3 := hb
        simp at hb
    · skip
      have hs5 := hs4
      have fx := And.intro hs4 (And.intro wi (And.intro hii (And.intro gi (And.intro (@Nat.zero_add) (And.intro (@Int.toNat_natCast) (And.intro (@Int.natCast_nonneg) (And.intro (@List.length_map.{0, 0}) ft)))))))
      refine Run.region rfl fun K hK => GOps.sim ?_
      refine GOps.call rfl rfl rfl rfl (by kernel_rfl) (ACalls.sim ?_)
      refine (tidy_yes x xs hs4 (by omega) hlb _ _).mono fun v u hv => ?_
      obtain ⟨rs, rfl, rfl⟩ := hv
      refine ⟨_, _, rfl, GOps.sim ?_⟩
      refine GOps.done (hK _ ?_); clear hK K
      refine End.kp [0, 7, 8, 9, 10, 11] ?_
      refine Run.block ?_
      refine Run.seq ?_
      refine Run.go ?_
      refine End.kp [0, 7, 9, 10, 11, 20] ?_
      refine Run.cond _ rfl (fun hb => ?_) (fun hb => ?_)
      · have hb3 := hb
        simp at hb
      · have hb3 := hb
        have p0 : (0 : Int) < ((tidyL (x :: xs)).length : Int) := by omega
        have g0 : (i64s (tidyL (x :: xs)) ++ i64s rs)[0]? = some (.im (.int .i64 ((tidyL (x :: xs)).getD 0 0))) := by rw [List.getElem?_append_left (by simp; omega)]; exact i64s_get _ _ tpos
        have e0 : (((tidyL (x :: xs)).length : Int) == 0) = false := beq_eq_false_iff_ne.2 (by omega)
        have hnt : ¬ (taut (tidyL (x :: xs)) = true) := by rw [hs5]; decide
        obtain ⟨l, hl⟩ : ∃ l, l = (tidyL (x :: xs)).getD 0 0 := ⟨_, rfl⟩
        rw [← hl] at g0 l0
        refine Run.seq ?_
        rcases Bool.eq_false_or_eq_true (decide ((tidyL (x :: xs)).length = 1)) with hs6 | hs6
        · skip
          have h1 := of_decide_eq_true hs6
          have e1 : (((tidyL (x :: xs)).length : Int) == 1) = true := by rw [h1]; rfl
          have e2 : decide ((1 : Int) < ((tidyL (x :: xs)).length : Int)) = false := by rw [h1]; rfl
          have hsx : ∀ (loc : List AObj), ACalls Try.prog 167 [.ptr 1 5 0, .i l] (loc :: u) fun v u' => v = .b8 (S1.is l) ∧ u' = loc :: u := fun loc => is_ok S1 V1 1 _ (hA1.cons _) hS1.len l l0
          have hset : ∀ (loc : List AObj), ACalls Try.prog 148 [.ptr 1 5 0, .i l, .i (-1)] (loc :: u) fun v u' => v = .tup [] ∧ u' = loc :: setU u 0 S1 V1 l (-1) := fun loc => set_ok S1 V1 1 _ (hA1.cons _) hS1.len l (-1) l0
          have fx := And.intro e2 (And.intro e1 (And.intro hs6 (And.intro tpos (And.intro e0 (And.intro g0 (And.intro p0 (And.intro hs4 (And.intro wi (And.intro hii (And.intro gi (And.intro (@Nat.zero_add) (And.intro (@Int.toNat_natCast) (And.intro (@Int.natCast_nonneg) (And.intro (@List.length_map.{0, 0}) ft))))))))))))))
          refine Run.region rfl fun K hK => GOps.sim ?_
          refine GOps.call rfl rfl rfl rfl (by kernel_rfl) (ACalls.sim ?_)
          refine (hsx _).mono fun v u hv => ?_
          obtain ⟨rfl, rfl⟩ := hv
          refine ⟨_, _, rfl, GOps.sim ?_⟩
          refine GOps.done (hK _ ?_); clear hK K
          refine End.kp [0, 7, 9, 10, 11, 23] ?_
          refine Run.cond _ rfl (fun hb => ?_) (fun hb => ?_)
          · have hm1 : S1.is l = -1 := by simpa using hb
            have hr : S1.take1 (x :: xs) = (S1, false) := by rw [Sol.take1, if_neg hnt, if_pos h1, ← hl, if_pos hm1]
            refine Run.seq ?_
            have fx := And.intro e2 (And.intro e1 (And.intro hs6 (And.intro tpos (And.intro e0 (And.intro g0 (And.intro p0 (And.intro hs4 (And.intro wi (And.intro hii (And.intro gi (And.intro (@Nat.zero_add) (And.intro (@Int.toNat_natCast) (And.intro (@Int.natCast_nonneg) (And.intro (@List.length_map.{0, 0}) ft))))))))))))))
            refine Run.go ?_
            refine End.kp [4] ?_
            refine Run.ret (hQ _ _ ⟨.inr rfl, _, rfl, _, rfl, ?_⟩)
            rw [heq, load_no hr]; exact ⟨V1, B1, rfl, hkp, hS1, by omega, by show S1.cl.length ≤ _; omega⟩
          · have hm1 : ¬ (S1.is l = -1) := by simpa using hb
            refine Run.seq ?_
            have fx := And.intro e2 (And.intro e1 (And.intro hs6 (And.intro tpos (And.intro e0 (And.intro g0 (And.intro p0 (And.intro hs4 (And.intro wi (And.intro hii (And.intro gi (And.intro (@Nat.zero_add) (And.intro (@Int.toNat_natCast) (And.intro (@Int.natCast_nonneg) (And.intro (@List.length_map.{0, 0}) ft))))))))))))))
            refine Run.region rfl fun K hK => GOps.sim ?_
            refine GOps.call rfl rfl rfl rfl (by kernel_rfl) (ACalls.sim ?_)
            refine (hsx _).mono fun v u hv => ?_
            obtain ⟨rfl, rfl⟩ := hv
            refine ⟨_, _, rfl, GOps.sim ?_⟩
            refine GOps.done (hK _ ?_); clear hK K
            refine End.kp [0, 7, 9, 10, 11, 40] ?_
            refine Run.cond _ rfl (fun hb => ?_) (fun hb => ?_)
            · have hm0 : S1.is l = 0 := by simpa using hb
              have hr : S1.take1 (x :: xs) = (S1.set l (-1), true) := by rw [Sol.take1, if_neg hnt, if_pos h1, ← hl, if_neg hm1, if_pos hm0]
              have fx := And.intro e2 (And.intro e1 (And.intro hs6 (And.intro tpos (And.intro e0 (And.intro g0 (And.intro p0 (And.intro hs4 (And.intro wi (And.intro hii (And.intro gi (And.intro (@Nat.zero_add) (And.intro (@Int.toNat_natCast) (And.intro (@Int.natCast_nonneg) (And.intro (@List.length_map.{0, 0}) ft))))))))))))))
              refine Run.region rfl fun K hK => GOps.sim ?_
              refine GOps.call rfl rfl rfl rfl (by kernel_rfl) (ACalls.sim ?_)
              refine (hset _).mono fun v u hv => ?_
              obtain ⟨rfl, rfl⟩ := hv
              refine ⟨_, _, rfl, GOps.sim ?_⟩
              refine GOps.done (hK _ ?_); clear hK K
              refine End.blk ?_
              refine End.blk ?_
              refine End.kp [0, 9, 10, 11] ?_
              refine Run.go ?_
              refine End.lp ?_
              refine ⟨cs.length - (i + 1), _, by omega, Ghost.form [(0, .ptr 1 5 0), (9, .im (.sl (clss cs))), (10, .i cs.length), (11, .i ((i + 1) : Nat))] 0 ⟨rfl, rfl, rfl, rfl, trivial⟩ rfl (by simp only [ASt.push, List.nil_append, List.cons_append, List.take_succ_cons, List.take_zero, List.all_cons, List.all_nil, AObj.under, i64s_set, unders_append, unders_ims, unders, PV.under, Bool.and_true, Bool.and_self]), i + 1, _, S1.set l (-1), setV V1, B1, rfl, by omega, by rw [heq, load_yes (hr)], ⟨hkp.trans (setU_kept hA1 l (-1)).toD.toN, hS1.set _ l0 (is_zero hm0), by omega, by show S1.cl.length ≤ _; omega⟩, rfl⟩
            · have hm0 : ¬ (S1.is l = 0) := by simpa using hb
              have hr : S1.take1 (x :: xs) = (S1, true) := by rw [Sol.take1, if_neg hnt, if_pos h1, ← hl, if_neg hm1, if_neg hm0]
              refine Run.seq ?_
              have fx := And.intro e2 (And.intro e1 (And.intro hs6 (And.intro tpos (And.intro e0 (And.intro g0 (And.intro p0 (And.intro hs4 (And.intro wi (And.intro hii (And.intro gi (And.intro (@Nat.zero_add) (And.intro (@Int.toNat_natCast) (And.intro (@Int.natCast_nonneg) (And.intro (@List.length_map.{0, 0}) ft))))))))))))))
              refine Run.go ?_
              refine End.kp [0, 7, 9, 10, 11, 57] ?_
              refine Run.cond _ rfl (fun hb => ?_) (fun hb => ?_)
              · have hb4 := hb
                simp at hb
              · have hb4 := hb
                refine Run.skip ?_
                refine End.blk ?_
                refine End.blk ?_
                refine End.kp [0, 9, 10, 11] ?_
                have fx := And.intro e2 (And.intro e1 (And.intro hs6 (And.intro tpos (And.intro e0 (And.intro g0 (And.intro p0 (And.intro hs4 (And.intro wi (And.intro hii (And.intro gi (And.intro (@Nat.zero_add) (And.intro (@Int.toNat_natCast) (And.intro (@Int.natCast_nonneg) (And.intro (@List.length_map.{0, 0}) ft))))))))))))))
                refine Run.go ?_
                refine End.lp ?_
                refine ⟨cs.length - (i + 1), _, by omega, Ghost.form [(0, .ptr 1 5 0), (9, .im (.sl (clss cs))), (10, .i cs.length), (11, .i ((i + 1) : Nat))] 0 ⟨rfl, rfl, rfl, rfl, trivial⟩ rfl (by simp only [ASt.push, List.nil_append, List.cons_append, List.take_succ_cons, List.take_zero, List.all_cons, List.all_nil, AObj.under, i64s_set, unders_append, unders_ims, unders, PV.under, Bool.and_true, Bool.and_self]), i + 1, _, S1, V1, B1, rfl, by omega, by rw [heq, load_yes (hr)], ⟨hkp, hS1, by omega, by omega⟩, rfl⟩
        · skip
          have h1 := of_decide_eq_false hs6
          have e1 : (((tidyL (x :: xs)).length : Int) == 1) = false := beq_eq_false_iff_ne.2 (by omega)
          have e2 : decide ((1 : Int) < ((tidyL (x :: xs)).length : Int)) = true := decide_eq_true (by omega)
          have fx := And.intro e2 (And.intro e1 (And.intro hs6 (And.intro tpos (And.intro e0 (And.intro g0 (And.intro p0 (And.intro hs4 (And.intro wi (And.intro hii (And.intro gi (And.intro (@Nat.zero_add) (And.intro (@Int.toNat_natCast) (And.intro (@Int.natCast_nonneg) (And.intro (@List.length_map.{0, 0}) ft))))))))))))))
          refine Run.region rfl fun K hK => GOps.sim ?_
          refine GOps.done (hK _ ?_); clear hK K
          refine End.kp [0, 7, 9, 10, 11, 23] ?_
          refine Run.cond _ rfl (fun hb => ?_) (fun hb => ?_)
          · have hb4 := hb
            simp at hb
          · have hb4 := hb
            refine Run.seq ?_
            have fx := And.intro e2 (And.intro e1 (And.intro hs6 (And.intro tpos (And.intro e0 (And.intro g0 (And.intro p0 (And.intro hs4 (And.intro wi (And.intro hii (And.intro gi (And.intro (@Nat.zero_add) (And.intro (@Int.toNat_natCast) (And.intro (@Int.natCast_nonneg) (And.intro (@List.length_map.{0, 0}) ft))))))))))))))
            refine Run.region rfl fun K hK => GOps.sim ?_
            refine GOps.done (hK _ ?_); clear hK K
            refine End.kp [0, 7, 9, 10, 11, 40] ?_
            refine Run.cond _ rfl (fun hb => ?_) (fun hb => ?_)
            · have hb5 := hb
              simp at hb
            · have hb5 := hb
              refine Run.seq ?_
              have fx := And.intro e2 (And.intro e1 (And.intro hs6 (And.intro tpos (And.intro e0 (And.intro g0 (And.intro p0 (And.intro hs4 (And.intro wi (And.intro hii (And.intro gi (And.intro (@Nat.zero_add) (And.intro (@Int.toNat_natCast) (And.intro (@Int.natCast_nonneg) (And.intro (@List.length_map.{0, 0}) ft))))))))))))))
              refine Run.go ?_
              refine End.kp [0, 7, 9, 10, 11, 57] ?_
              refine Run.cond _ rfl (fun hb => ?_) (fun hb => ?_)
              · have hb6 := hb
                have h2 : 2 ≤ (tidyL (x :: xs)).length := by omega
                have hr : S1.take1 (x :: xs) = (S1.add (tidyL (x :: xs)), true) := by rw [Sol.take1, if_neg hnt, if_neg h1, if_pos h2]
                have hK1 : S1.cl.length < V1.K := by rw [hkp.K]; omega
                have hsp1 : Spare u 0 S1 V1.K S1.cl.length := fun q q1 q2 => by
                  have hh := hkp.spare S1.cl.length (Nat.le_refl _) (fun q q3 q4 => hsp q (Nat.le_trans hkp.cl q3) q4)
                  have := hh q q1 (by rw [← hkp.K]; exact q2)
                  rw [hkp.n]; exact this
                have hdead := hsp1 S1.cl.length (Nat.le_refl _) hK1
                have l1 := tlo _ (getD_mem (l := tidyL (x :: xs)) (i := 1) (d := 0) (by omega))
                have hka := addU_kept (c := tidyL (x :: xs)) hA1 hS1.len.wl hK1 hsp1 (atL_lt (by rw [← hl]; exact l0)) (atL_lt l1)
                have hSa := hS1.add h2 (by omega) tlo (by omega)
                have hA2 := hA1.put (k := S1.cl.length) (Nat.le_refl _) (.vec 3 0 (i64s (tidyL (x :: xs))))
                have hcc : fget (fset u 0 (S1.cl.length + (2 * S1.n + 2) + 11) (.vec 3 0 (i64s (tidyL (x :: xs))))) 0 (S1.cl.length + (2 * S1.n + 2) + 11) = some (.vec 3 0 (i64s (tidyL (x :: xs)))) := by rw [fget_fset, if_pos ⟨rfl, rfl⟩, hdead]; rfl
                have hadd : ∀ (loc : List AObj), ACalls Try.prog 147 [.ptr 1 5 0, .vs 1 (S1.cl.length + (2 * S1.n + 2) + 11) 0 (tidyL (x :: xs)).length 0] (loc :: fset u 0 (S1.cl.length + (2 * S1.n + 2) + 11) (.vec 3 0 (i64s (tidyL (x :: xs))))) fun v u' => v = .i S1.cl.length ∧ u' = loc :: addU (fset u 0 (S1.cl.length + (2 * S1.n + 2) + 11) (.vec 3 0 (i64s (tidyL (x :: xs))))) 0 S1 V1 (tidyL (x :: xs)) := fun loc => add_ok S1 V1 1 _ (hA2.cons _) hS1.len (.inr rfl) (tidyL (x :: xs)) hcc h2 (by rw [← hl]; exact l0) l1 (fun e => by have := td 0 1 (by omega) (by omega) e; omega) (by omega) (fun q hq => by have := (hS1.list hq).1; omega)
                refine Run.ghost (Ghost.vecTrim (L := []) (rs := i64s rs) (e := [(0, .ptr 1 5 0), (7, .vs 0 0 0 (tidyL (x :: xs)).length 1), (9, .im (.sl (clss cs))), (10, .i cs.length), (11, .i i)]) ((tidyL (x :: xs)).map fun x => Im.int .i64 x) (cTrim.keep rfl rfl (cTrim.at rfl (by rw [List.length_map]; omega) (cTrim.keep rfl rfl (cTrim.keep rfl rfl (cTrim.keep rfl rfl cTrim.nil))))) rfl) ?_
                refine Run.ghost (Ghost.moveLast (L := []) (L' := []) (up' := fset u 0 (S1.cl.length + (2 * S1.n + 2) + 11) (.vec 3 0 (i64s (tidyL (x :: xs))))) (ims := (tidyL (x :: xs)).map fun x => Im.int .i64 x) (g := 1) (e := [(0, .ptr 1 5 0), (7, .vs 1 (S1.cl.length + (2 * S1.n + 2) + 11) 0 (tidyL (x :: xs)).length 0), (9, .im (.sl (clss cs))), (10, .i cs.length), (11, .i i)]) 1 (S1.cl.length + (2 * S1.n + 2) + 11) 0 (o := .dead) hdead trivial rfl (cMove.keep rfl rfl (cMove.conv rfl (cMove.keep rfl rfl (cMove.keep rfl rfl (cMove.keep rfl rfl cMove.nil))))) rfl) ?_
                have fx := And.intro e2 (And.intro e1 (And.intro hs6 (And.intro tpos (And.intro e0 (And.intro g0 (And.intro p0 (And.intro hs4 (And.intro wi (And.intro hii (And.intro gi (And.intro (@Nat.zero_add) (And.intro (@Int.toNat_natCast) (And.intro (@Int.natCast_nonneg) (And.intro (@List.length_map.{0, 0}) ft))))))))))))))
                refine Run.region rfl fun K hK => GOps.sim ?_
                refine GOps.call rfl rfl rfl rfl (by kernel_rfl) (ACalls.sim ?_)
                refine (hadd _).mono fun v u hv => ?_
                obtain ⟨rfl, rfl⟩ := hv
                refine ⟨_, _, rfl, GOps.sim ?_⟩
                refine GOps.done (hK _ ?_); clear hK K
                refine End.blk ?_
                refine End.blk ?_
                refine End.kp [0, 9, 10, 11] ?_
                refine Run.go ?_
                refine End.lp ?_
                refine ⟨cs.length - (i + 1), _, by omega, Ghost.form [(0, .ptr 1 5 0), (9, .im (.sl (clss cs))), (10, .i cs.length), (11, .i ((i + 1) : Nat))] 0 ⟨rfl, rfl, rfl, rfl, trivial⟩ rfl (by simp only [ASt.push, List.nil_append, List.cons_append, List.take_succ_cons, List.take_zero, List.all_cons, List.all_nil, AObj.under, i64s_set, unders_append, unders_ims, unders, PV.under, Bool.and_true, Bool.and_self]), i + 1, _, S1.add (tidyL (x :: xs)), addV V1 (tidyL (x :: xs)), (B1 + 2), rfl, by omega, by rw [heq, load_yes (hr)], ⟨hkp.trans hka, hSa, by omega, by simp [Sol.add]; omega⟩, rfl⟩
              · have hb6 := hb
                simp at hb
  · have hb2 := of_decide_eq_false hb
    refine Run.exit rfl ?_
    refine End.kp [] ?_
    refine Run.seq ?_
    have fx := And.intro (@Nat.zero_add) (And.intro (@Int.toNat_natCast) (And.intro (@Int.natCast_nonneg) (And.intro (@List.length_map.{0, 0}) ft)))
    refine Run.go ?_
    refine End.kp [4] ?_
    refine Run.ret (hQ _ _ ⟨.inr rfl, _, rfl, _, rfl, ?_⟩)
    rw [heq, List.drop_of_length_le (by omega)]; exact ⟨V1, B1, rfl, hkp, hS1, by omega, by show S1.cl.length ≤ _; omega⟩
end Go.Proofs.YtdgpmopcmacicaaPi

