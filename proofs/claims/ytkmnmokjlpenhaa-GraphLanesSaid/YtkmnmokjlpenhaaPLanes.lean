/- Plain law: lane k of words over spread rows is what lane 0 is over row k. -/
import Derived.Test.YtkmnmokjlpenhaaPLane
import Derived.Test.YtkmnmokjlpenhaaPWords
set_option linter.unusedVariables false
set_option linter.unusedSimpArgs false
namespace Go.Proofs.YtkmnmokjlpenhaaPi

/-- Lane k of words is lane 0 of others. -/
def lnK (k : Nat) (v v' : List Int) : Prop := v.length = v'.length ∧ ∀ q, (bv (v.getD q 0)).getLsbD k = (bv (v'.getD q 0)).getLsbD 0
theorem lnK_of {k : Nat} (hk : k < 64) {v v' : List Int} (h : lnK k v v') (l : Int) : (bv (ofV v l)).getLsbD k = (bv (ofV v' l)).getLsbD 0 := by
  rw [bv_of, bv_of]
  unfold litB
  split
  · rw [BitVec.getLsbD_not, BitVec.getLsbD_not, h.2]
    simp [hk]
  · exact h.2 _
theorem lnK_app {k : Nat} {v v' w w' : List Int} (h : lnK k v v') (e : lnK k w w') : lnK k (v ++ w) (v' ++ w') := by
  refine ⟨by simp [h.1, e.1], fun q => ?_⟩
  simp only [List.getD_eq_getElem?_getD, List.getElem?_append]
  rw [h.1]
  split
  · have := h.2 q
    simpa only [List.getD_eq_getElem?_getD] using this
  · have := e.2 (q - v'.length)
    simpa only [List.getD_eq_getElem?_getD] using this
theorem lnK_one {k : Nat} {x y : Int} (h : (bv x).getLsbD k = (bv y).getLsbD 0) : lnK k [x] [y] := ⟨rfl, fun q => by
  cases q with
  | zero => simpa using h
  | succ q => simp⟩
theorem lnK_valsA {k : Nat} (hk : k < 64) : ∀ (ps : List (Int × Int)) {v v' : List Int}, lnK k v v' → lnK k (valsA ps v) (valsA ps v')
  | [], v, v', h => h
  | p :: ps, v, v', h => by
    simp only [valsA]
    refine lnK_valsA hk ps (lnK_app h (lnK_one ?_))
    rw [bv_and, bv_and, BitVec.getLsbD_and, BitVec.getLsbD_and, lnK_of hk h, lnK_of hk h]
theorem lnK_vals {k : Nat} (hk : k < 64) (g : LGraph) {inn inn' st st' : List Int} (h : lnK k inn inn') (e : lnK k st st') : lnK k (graphVals g inn st) (graphVals g inn' st') :=
  lnK_valsA hk _ (lnK_app (lnK_app (lnK_one (by simp)) h) e)
/-- A word's bit as the program takes it. -/
def bitW (k : Nat) (x : Int) : Bool := bits .and .u64 (x.fdiv (2 ^ (min k IntKind.u64.bits))) 1 == 1
theorem bitW_eq {k : Nat} (hk : k < 64) {x : Int} (hx : U64 x) : bitW k x = (bv x).getLsbD k := by
  unfold bitW
  rw [one_iff, bit0, show min k IntKind.u64.bits = k from Nat.min_eq_left (Nat.le_of_lt hk)]
  obtain ⟨h0, h1⟩ := hx
  obtain ⟨r, rfl⟩ : ∃ r : Nat, x = r := ⟨x.toNat, by omega⟩
  have e : ((r : Int).fdiv (2 ^ k)) = ((r / 2 ^ k : Nat) : Int) := by
    rw [show ((2 : Int) ^ k) = ((2 ^ k : Nat) : Int) by simp, Int.fdiv_eq_ediv_of_nonneg _ (Int.natCast_nonneg _)]
    rfl
  rw [e]
  show (BitVec.ofInt 64 ((r / 2 ^ k : Nat) : Int)).getLsbD 0 = (BitVec.ofInt 64 (r : Int)).getLsbD k
  rw [BitVec.ofInt_natCast, BitVec.ofInt_natCast, BitVec.getLsbD_ofNat, BitVec.getLsbD_ofNat]
  simp only [hk, Nat.testBit_div_two_pow]
  simp
theorem two_bit {n k : Nat} (hn : n < 64) (hk : k < 64) : (bv (IntKind.u64.wrap (1 * 2 ^ (min n IntKind.u64.bits)))).getLsbD k = decide (n = k) := by
  have h : ∀ n, n < 64 → ∀ k, k < 64 → (bv (IntKind.u64.wrap (1 * 2 ^ (min n IntKind.u64.bits)))).getLsbD k = decide (n = k) := by decide +kernel
  exact h n hn k hk
theorem col_bit (rows : List (List Bool)) (i : Nat) {k : Nat} (hk : k < 64) : ∀ n, n ≤ 64 → (bv (colV rows i n)).getLsbD k = (decide (k < n) && (rows.getD k []).getD i false)
  | 0, _ => by simp [colV]
  | n + 1, hn => by
    rw [colV, orBit]
    have ih := col_bit rows i hk n (by omega)
    split
    · rename_i hb
      rw [bv_or, BitVec.getLsbD_or, ih, two_bit (by omega) hk]
      by_cases h : n = k
      · subst h
        rw [hb]
        simp
      · by_cases h2 : k < n
        · simp [h, h2, show k < n + 1 by omega]
        · simp [h, h2, show ¬ k < n + 1 by omega]
    · rename_i hb
      rw [ih]
      by_cases h : n = k
      · subst h
        simp at hb
        simp [hb]
      · by_cases h2 : k < n
        · simp [h2, show k < n + 1 by omega]
        · simp [h2, show ¬ k < n + 1 by omega]
theorem lnK_spread {rows : List (List Bool)} {K k : Nat} (hn : rows.length ≤ 64) (hk : k < rows.length) (hr : ∀ r ∈ rows, r.length = K) {r : List Bool} (hg : rows[k]? = some r) : lnK k (spreadV rows K) (lanes0 r) := by
  have hm := hr r (List.mem_of_getElem? hg)
  refine ⟨by simp [spreadV, hm], fun q => ?_⟩
  have e : rows.getD k [] = r := by simp [hg]
  simp only [spreadV, List.getD_eq_getElem?_getD, List.getElem?_map]
  by_cases hq : q < K
  · rw [List.getElem?_range hq, List.getElem?_eq_getElem (by omega)]
    simp only [Option.map_some, Option.getD_some]
    rw [col_bit rows q (by omega) _ hn, decide_eq_true hk, Bool.true_and, e, List.getD_eq_getElem?_getD, List.getElem?_eq_getElem (by omega), Option.getD_some]
    exact (bit0_lane _).symm
  · rw [List.getElem?_eq_none (by simpa using hq), List.getElem?_eq_none (by omega)]
    simp
/-- What the words' bits k are: the bits of the single call. -/
theorem lane_map {k : Nat} (hk : k < 64) {α : Type} (l : List α) (f f' : α → Int) (hu : ∀ x, U64 (f x)) (h : ∀ x, (bv (f x)).getLsbD k = (bv (f' x)).getLsbD 0) : laneB (l.map f') = (l.map f).map (bitW k) := by
  rw [laneB_bit0, List.map_map, List.map_map]
  refine List.map_congr_left fun x _ => ?_
  show bit0 (f' x) = bitW k (f x)
  rw [bitW_eq hk (hu x), h]
  rfl
theorem lanes_law (g : LGraph) (ins sts : List (List Bool)) {k : Nat} (h1 : ins.length = 64) (h2 : sts.length = 64) (hk : k < 64) (hi : ∀ r ∈ ins, r.length = g.inn.length) (hs : ∀ r ∈ sts, r.length = g.regs.length) {a b : List Bool} (ha : ins[k]? = some a) (hb : sts[k]? = some b) :
    laneB (outsG g (graphVals g (lanes0 a) (lanes0 b))) ++ laneB (nextsG g (graphVals g (lanes0 a) (lanes0 b))) = (outsG g (graphVals g (spreadV ins g.inn.length) (spreadV sts g.regs.length)) ++ nextsG g (graphVals g (spreadV ins g.inn.length) (spreadV sts g.regs.length))).map (bitW k) := by
  have hv := lnK_vals hk g (lnK_spread (by omega) (by omega) hi ha) (lnK_spread (by omega) (by omega) hs hb)
  have hu : ∀ x ∈ graphVals g (spreadV ins g.inn.length) (spreadV sts g.regs.length), U64 x := valsA_u64 _ _ fun x hx => by
    simp only [List.mem_append, List.mem_singleton] at hx
    rcases hx with (rfl | hx) | hx
    · exact ⟨by omega, by omega⟩
    · exact spreadV_u64 _ _ _ hx
    · exact spreadV_u64 _ _ _ hx
  rw [List.map_append]
  congr 1
  · exact lane_map hk g.outs (ofV _) (ofV _) (fun x => ofV_u64 hu x) (fun x => lnK_of hk hv x)
  · exact lane_map hk g.regs (fun r => ofV _ r.next) (fun r => ofV _ r.next) (fun x => ofV_u64 hu x.next) (fun x => lnK_of hk hv x.next)
end Go.Proofs.YtkmnmokjlpenhaaPi
