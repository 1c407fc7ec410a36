/- Plain law: words made bit by bit; orders of inputs, inverted inputs, cofactors. -/
import Derived.Test.YtkmnmokjlpenhaaPWords
set_option linter.unusedVariables false
set_option linter.unusedSimpArgs false
namespace Go.Proofs.YtkmnmokjlpenhaaPi

/-- A word whose first n bits are those of a function. -/
def tableB (f : Nat → Bool) : Nat → BitVec 64
  | 0 => 0#64
  | k + 1 => tableB f k ||| (if f k then BitVec.twoPow 64 k else 0#64)
theorem tableB_bit (f : Nat → Bool) {j : Nat} (hj : j < 64) : ∀ n, (tableB f n).getLsbD j = (decide (j < n) && f j)
  | 0 => by simp [tableB]
  | n + 1 => by
    rw [tableB, BitVec.getLsbD_or, tableB_bit f hj n]
    have e : ((if f n then BitVec.twoPow 64 n else 0#64) : BitVec 64).getLsbD j = (f n && decide (n = j)) := by
      split
      · rename_i h
        rw [BitVec.getLsbD_twoPow, h]
        by_cases e : n = j
        · subst e; simp [hj]
        · simp [e]
      · rename_i h; simp [h]
    rw [e]
    by_cases h : n = j
    · subst h; simp
    · by_cases h2 : j < n
      · simp [h, h2, show j < n + 1 by omega]
      · simp [h, h2, show ¬ j < n + 1 by omega]
abbrev tw (f : Nat → Bool) (n : Nat) : Int := ((tableB f n).toNat : Int)
abbrev b01 (b : Bool) : Int := if b then 1 else 0
theorem tw_u64 (f : Nat → Bool) (n : Nat) : U64 (tw f n) := u64_nat _
theorem bv_tw (f : Nat → Bool) (n : Nat) : bv (tw f n) = tableB f n := bv_nat _
theorem wrap_pow : ∀ k : Nat, k < 64 → bv (IntKind.u64.wrap (1 * 2 ^ min k IntKind.u64.bits)) = BitVec.twoPow 64 k := by decide +kernel
theorem b01_wrap (b : Bool) : IntKind.u64.wrap (b01 b) = b01 b := by cases b <;> decide
theorem tw_step (f : Nat → Bool) {k : Nat} (hk : k < 64) : bits .or .u64 (tw f k) (IntKind.u64.wrap (b01 (f k) * 2 ^ min k IntKind.u64.bits)) = tw f (k + 1) := by
  rw [bits_or, bv_tw]
  show _ = ((tableB f k ||| _).toNat : Int)
  congr 3
  cases f k with
  | true => exact wrap_pow k hk
  | false => simp [b01, IntKind.wrap, IntKind.signed, IntKind.bits]
theorem fdiv_nat (r o : Nat) : ((r : Int).fdiv (2 ^ o)) = ((r / 2 ^ o : Nat) : Int) := by
  rw [show ((2 : Int) ^ o) = ((2 ^ o : Nat) : Int) by simp, Int.fdiv_eq_ediv_of_nonneg _ (Int.natCast_nonneg _)]
  rfl
theorem getbit {t : Int} (ht : U64 t) {o : Nat} (ho : o < 64) : bits .and .u64 (t.fdiv (2 ^ min o IntKind.u64.bits)) 1 = b01 ((bv t).getLsbD o) := by
  obtain ⟨h0, h1⟩ := ht
  obtain ⟨r, rfl⟩ : ∃ r : Nat, t = r := ⟨t.toNat, by omega⟩
  rw [show min o IntKind.u64.bits = o from Nat.min_eq_left (Nat.le_of_lt ho), fdiv_nat, bits_and]
  have e : (bv ((r / 2 ^ o : Nat) : Int) &&& bv 1).toNat = (r / 2 ^ o) % 2 := by
    have h2 : r / 2 ^ o ≤ r := Nat.div_le_self _ _
    have h3 : (bv ((r / 2 ^ o : Nat) : Int)).toNat = r / 2 ^ o := by
      show (BitVec.ofInt 64 _).toNat = _
      rw [BitVec.ofInt_natCast, BitVec.toNat_ofNat]
      exact Nat.mod_eq_of_lt (by omega)
    rw [BitVec.toNat_and, h3]
    exact Nat.and_one_is_mod _
  rw [e]
  have h4 : (bv (r : Int)).getLsbD o = decide (r / 2 ^ o % 2 = 1) := by
    show (BitVec.ofInt 64 _).getLsbD o = _
    rw [BitVec.ofInt_natCast, BitVec.getLsbD_ofNat, Nat.testBit_eq_decide_div_mod_eq]
    simp [ho]
  rw [h4]
  have h5 : r / 2 ^ o % 2 < 2 := Nat.mod_lt _ (by omega)
  generalize r / 2 ^ o % 2 = z at h5
  rcases (show z = 0 ∨ z = 1 by omega) with rfl | rfl <;> rfl
theorem kbit : ∀ i : Nat, i < 6 → ∀ k : Nat, k < 64 → bits .and .i64 ((k : Int).fdiv (2 ^ min i IntKind.i64.bits)) 1 = b01 (k.testBit i) := by decide +kernel
theorem pow_i : ∀ n : Nat, n ≤ 6 → IntKind.i64.wrap (1 * 2 ^ min n IntKind.i64.bits) = ((2 ^ n : Nat) : Int) := by decide +kernel
theorem pow_64 {n : Nat} (h : n ≤ 6) : 2 ^ n ≤ 64 := Nat.le_trans (Nat.pow_le_pow_right (by omega) h) (by decide)
/-- The number that a place of a table was, before the inputs were moved. -/
def oldN (to : List Nat) (k : Nat) : Nat → Nat
  | 0 => 0
  | i + 1 => oldN to k i ||| (if k.testBit (to.getD i 0) then 2 ^ i else 0)
theorem oldN_lt (to : List Nat) (k : Nat) : ∀ i, oldN to k i < 2 ^ i
  | 0 => by simp [oldN]
  | i + 1 => by
    have h := oldN_lt to k i
    rw [oldN]
    refine Nat.or_lt_two_pow (Nat.lt_of_lt_of_le h (Nat.pow_le_pow_right (by omega) (by omega))) ?_
    split
    · exact Nat.pow_lt_pow_right (by omega) (by omega)
    · exact Nat.two_pow_pos _
theorem oldN_bit (to : List Nat) (k : Nat) (j : Nat) : ∀ i, (oldN to k i).testBit j = (decide (j < i) && k.testBit (to.getD j 0))
  | 0 => by simp [oldN]
  | i + 1 => by
    rw [oldN, Nat.testBit_or, oldN_bit to k j i]
    have e : (if k.testBit (to.getD i 0) then 2 ^ i else 0).testBit j = (k.testBit (to.getD i 0) && decide (i = j)) := by
      split
      · rename_i h; rw [Nat.testBit_two_pow, h]; simp
      · rename_i h; rw [Bool.eq_false_iff.2 h]; simp
    rw [e]
    by_cases h : i = j
    · subst h; simp
    · by_cases h2 : j < i
      · simp [h, h2, show j < i + 1 by omega]
      · simp [h, h2, show ¬ j < i + 1 by omega]
theorem old_step : ∀ i : Nat, i < 6 → ∀ a : Nat, a < 64 → ∀ b : Bool, bits .or .i64 (a : Int) (IntKind.i64.wrap (b01 b * 2 ^ min i IntKind.i64.bits)) = ((a ||| (if b then 2 ^ i else 0) : Nat) : Int) := by decide +kernel
theorem xor_i : ∀ a : Nat, a < 64 → ∀ b : Nat, b < 64 → bits .xor .i64 (a : Int) (b : Int) = ((a ^^^ b : Nat) : Int) := by decide +kernel
abbrev nI (to : List Nat) : List Int := to.map fun x : Nat => (x : Int)
def moveF (t : Int) (to : List Nat) (k : Nat) : Bool := (bv t).getLsbD (oldN to k to.length)
def flipF (t : Int) (mask : Nat) (k : Nat) : Bool := (bv t).getLsbD (k ^^^ mask)
abbrev varW (i : Nat) : Int := tw (fun k => k.testBit i) 64
/-- A cofactor. -/
def cofW (t : Int) (i : Nat) (v : Bool) : Int :=
  if v then bits .or .u64 (bits .and .u64 t (varW i)) ((bits .and .u64 t (varW i)).fdiv (2 ^ min (2 ^ i) IntKind.u64.bits))
  else bits .or .u64 (bits .andNot .u64 t (varW i)) (IntKind.u64.wrap (bits .andNot .u64 t (varW i) * 2 ^ min (2 ^ i) IntKind.u64.bits))
theorem cofW_u64 (t : Int) (i : Nat) (v : Bool) : U64 (cofW t i v) := by
  unfold cofW
  split <;> exact u64_or _ _
theorem bv_shr {t : Int} (h : U64 t) (s : Nat) : bv (t.fdiv (2 ^ s)) = bv t >>> s := by
  obtain ⟨h0, h1⟩ := h
  obtain ⟨r, rfl⟩ : ∃ r : Nat, t = r := ⟨t.toNat, by omega⟩
  rw [fdiv_nat]
  have hle : r / 2 ^ s ≤ r := Nat.div_le_self _ _
  apply BitVec.eq_of_toNat_eq
  show (BitVec.ofInt 64 _).toNat = (BitVec.ofInt 64 _ >>> s).toNat
  rw [BitVec.ofInt_natCast, BitVec.ofInt_natCast, BitVec.toNat_ushiftRight, BitVec.toNat_ofNat, BitVec.toNat_ofNat, Nat.shiftRight_eq_div_pow, Nat.mod_eq_of_lt (by omega), Nat.mod_eq_of_lt (by omega)]
theorem bv_shl {t : Int} (h : U64 t) (s : Nat) : bv (IntKind.u64.wrap (t * 2 ^ s)) = bv t <<< s := by
  obtain ⟨h0, h1⟩ := h
  obtain ⟨r, rfl⟩ : ∃ r : Nat, t = r := ⟨t.toNat, by omega⟩
  apply BitVec.eq_of_toNat_eq
  have e : ((r : Int) * 2 ^ s) = ((r * 2 ^ s : Nat) : Int) := by simp
  rw [e]
  show (BitVec.ofInt 64 (IntKind.u64.wrap _)).toNat = (BitVec.ofInt 64 _ <<< s).toNat
  have e2 : IntKind.u64.wrap ((r * 2 ^ s : Nat) : Int) = ((r * 2 ^ s % 2 ^ 64 : Nat) : Int) := by
    simp [IntKind.wrap, IntKind.signed, IntKind.bits]
  rw [e2, BitVec.ofInt_natCast, BitVec.ofInt_natCast, BitVec.toNat_shiftLeft, BitVec.toNat_ofNat, BitVec.toNat_ofNat, Nat.shiftLeft_eq, Nat.mod_mod, Nat.mod_mul_mod]
theorem tb2 : ∀ i, i < 6 → ∀ k, k < 64 → k.testBit i = true → (k + 2 ^ i).testBit i = false ∨ 64 ≤ k + 2 ^ i := by decide +kernel
theorem tb3 : ∀ i, i < 6 → ∀ k, k < 64 → k.testBit i = false → (k + 2 ^ i).testBit i = true ∧ k + 2 ^ i < 64 := by decide +kernel
theorem tb4 : ∀ i, i < 6 → ∀ k, k < 64 → k.testBit i = true → 2 ^ i ≤ k ∧ (k - 2 ^ i).testBit i = false := by decide +kernel
theorem tb5 : ∀ i, i < 6 → ∀ k, k < 64 → k.testBit i = false → k < 2 ^ i ∨ (k - 2 ^ i).testBit i = true := by decide +kernel
/-- The bits of a cofactor: those where the input is as it is held. -/
theorem cof_bit {t : Int} (ht : U64 t) {i : Nat} (hi : i < 6) (v : Bool) {k : Nat} (hk : k < 64) : (bv (cofW t i v)).getLsbD k = (bv t).getLsbD (if k.testBit i = v then k else if v then k + 2 ^ i else k - 2 ^ i) := by
  have hm : min (2 ^ i) IntKind.u64.bits = 2 ^ i := Nat.min_eq_left (show 2 ^ i ≤ 64 from pow_64 (by omega))
  have hv : ∀ j, j < 64 → (bv (varW i)).getLsbD j = j.testBit i := fun j hj => by rw [bv_tw, tableB_bit _ hj]; simp [hj]
  unfold cofW
  rw [hm]
  cases v with
  | true =>
    simp only [if_true]
    rw [bv_or, BitVec.getLsbD_or, bv_shr (u64_and _ _), BitVec.getLsbD_ushiftRight, bv_and, BitVec.getLsbD_and, BitVec.getLsbD_and, hv k hk]
    cases h : k.testBit i with
    | true =>
      simp only [if_true, Bool.and_true]
      rcases tb2 i hi k hk h with h2 | h2
      · by_cases h3 : 2 ^ i + k < 64
        · rw [hv _ h3, Nat.add_comm, h2]; simp
        · rw [BitVec.getLsbD_of_ge (bv t) (2 ^ i + k) (by omega)]; simp
      · rw [BitVec.getLsbD_of_ge (bv t) (2 ^ i + k) (by omega)]; simp
    | false =>
      obtain ⟨h2, h3⟩ := tb3 i hi k hk h
      simp only [Bool.and_false, Bool.false_or, Bool.false_eq_true, if_false]
      rw [hv (2 ^ i + k) (by omega), Nat.add_comm, h2, Bool.and_true]
  | false =>
    simp only [Bool.false_eq_true, if_false]
    have hu : U64 (bits .andNot .u64 t (varW i)) := by rw [bits_andNot]; exact u64_nat _
    have hn : ∀ j, j < 64 → (bv (bits .andNot .u64 t (varW i))).getLsbD j = ((bv t).getLsbD j && !j.testBit i) := fun j hj => by
      rw [bv_andNot, BitVec.getLsbD_and, BitVec.getLsbD_not, hv j hj]; simp [hj]
    rw [bv_or, BitVec.getLsbD_or, bv_shl hu, BitVec.getLsbD_shiftLeft, hn k hk]
    cases h : k.testBit i with
    | false =>
      simp only [Bool.not_false, Bool.and_true, if_true]
      rcases tb5 i hi k hk h with h2 | h2
      · simp [h2]
      · rw [hn (k - 2 ^ i) (Nat.lt_of_le_of_lt (Nat.sub_le _ _) hk), h2]; simp
    | true =>
      obtain ⟨h2, h3⟩ := tb4 i hi k hk h
      simp only [Bool.not_true, Bool.and_false, Bool.false_or, Bool.true_eq_false, if_false]
      rw [hn (k - 2 ^ i) (Nat.lt_of_le_of_lt (Nat.sub_le _ _) hk), h3]
      simp [hk, show ¬ k < 2 ^ i by omega]
/-- The place with bit i held. -/
def plc (i : Nat) (v : Bool) (k : Nat) : Nat := if k.testBit i = v then k else if v then k + 2 ^ i else k - 2 ^ i
theorem plc_lt : ∀ i : Nat, i < 6 → ∀ k : Nat, k < 64 → ∀ v, plc i v k < 64 := by decide +kernel
theorem plc_plc : ∀ i : Nat, i < 6 → ∀ k : Nat, k < 64 → ∀ v w, plc i v (plc i w k) = plc i v k := by decide +kernel
theorem cof_same {t : Int} (ht : U64 t) {i : Nat} (hi : i < 6) (v : Bool) : cofW (cofW t i v) i false = cofW (cofW t i v) i true := by
  refine u64_eq (cofW_u64 _ _ _) (cofW_u64 _ _ _) (bv_ext fun k hk => ?_)
  have h : ∀ w, (bv (cofW (cofW t i v) i w)).getLsbD k = (bv t).getLsbD (plc i v k) := fun w => by
    rw [cof_bit (cofW_u64 t i v) hi w hk]
    show (bv (cofW t i v)).getLsbD (plc i w k) = _
    rw [cof_bit ht hi v (plc_lt i hi k hk w)]
    show (bv t).getLsbD (plc i v (plc i w k)) = _
    rw [plc_plc i hi k hk]
  rw [h, h]
theorem whole_law {t : Int} (ht : U64 t) {i : Nat} (hi : i < 6) : bits .or .u64 (bits .and .u64 (varW i) (cofW t i true)) (bits .and .u64 (vnot (varW i)) (cofW t i false)) = t := by
  refine u64_eq (u64_or _ _) ht (bv_ext fun k hk => ?_)
  have hv : (bv (varW i)).getLsbD k = k.testBit i := by rw [bv_tw, tableB_bit _ hk]; simp [hk]
  rw [bv_or, BitVec.getLsbD_or, bv_and, bv_and, BitVec.getLsbD_and, BitVec.getLsbD_and, bv_vnot, BitVec.getLsbD_not, hv, cof_bit ht hi true hk, cof_bit ht hi false hk]
  cases k.testBit i <;> simp [hk]
/-- An order of the numbers 0 to 5 and its way back. -/
structure Undo (L B : List Nat) : Prop where
  l6 : L.length = 6
  b6 : B.length = 6
  lt : ∀ j, j < 6 → L.getD j 0 < 6
  back : ∀ j, j < 6 → B.getD (L.getD j 0) 0 = j
theorem move_law {t : Int} (ht : U64 t) {L B : List Nat} (h : Undo L B) : tw (moveF (tw (moveF t L) 64) B) 64 = t := by
  refine u64_eq (tw_u64 _ _) ht (bv_ext fun k hk => ?_)
  have e : oldN L (oldN B k 6) 6 = k := by
    refine Nat.eq_of_testBit_eq fun j => ?_
    rw [oldN_bit]
    by_cases hj : j < 6
    · rw [decide_eq_true hj, Bool.true_and, oldN_bit, decide_eq_true (h.lt j hj), Bool.true_and, h.back j hj]
    · rw [decide_eq_false hj, Bool.false_and, Nat.testBit_lt_two_pow (Nat.lt_of_lt_of_le (show k < 2 ^ 6 from hk) (Nat.pow_le_pow_right (by omega) (show 6 ≤ j by omega)))]
  have h1 : oldN B k 6 < 64 := oldN_lt B k 6
  rw [bv_tw, tableB_bit _ hk, decide_eq_true hk, Bool.true_and, moveF, h.b6, bv_tw, tableB_bit _ h1, decide_eq_true h1, Bool.true_and, moveF, h.l6, e]
theorem flip_law {t : Int} (ht : U64 t) {m : Nat} (hm : m < 64) : tw (flipF (tw (flipF t m) 64) m) 64 = t := by
  refine u64_eq (tw_u64 _ _) ht (bv_ext fun k hk => ?_)
  have h1 : k ^^^ m < 64 := Nat.xor_lt_two_pow (n := 6) hk hm
  rw [bv_tw, tableB_bit _ hk, decide_eq_true hk, Bool.true_and, flipF, bv_tw, tableB_bit _ h1, decide_eq_true h1, Bool.true_and, flipF, Nat.xor_assoc, Nat.xor_self, Nat.xor_zero]
/-- The inputs on which a table depends. -/
def depB (t : Int) (i : Nat) : Bool := bits .and .u64 (bits .xor .u64 (cofW t i false) (cofW t i true)) 18446744073709551615 != 0
def depL (t : Int) (n : Nat) : List Nat := (List.range n).filter (depB t)
theorem depL_succ (t : Int) (n : Nat) : depL t (n + 1) = if depB t n then depL t n ++ [n] else depL t n := by
  unfold depL
  rw [List.range_succ, List.filter_append]
  cases h : depB t n <;> simp [h]
theorem dep_no {t : Int} (ht : U64 t) {i : Nat} (hi : i < 6) (v : Bool) : (i : Int) ∉ nI (depL (cofW t i v) 6) := by
  intro h
  simp only [List.mem_map] at h
  obtain ⟨j, hj, e⟩ := h
  have : j = i := by omega
  subst this
  simp only [depL, List.mem_filter] at hj
  obtain ⟨_, hd⟩ := hj
  unfold depB at hd
  rw [cof_same ht hi v, bits_and, bv_xor, BitVec.xor_self] at hd
  simp at hd
/-- An element is put in. -/
def insN (L : List Nat) (i x : Nat) : List Nat := L.take i ++ [x] ++ L.drop i
theorem insN_len (L : List Nat) (i x : Nat) (h : i ≤ L.length) : (insN L i x).length = L.length + 1 := by
  simp only [insN, List.length_append, List.length_take, List.length_drop, List.length_cons, List.length_nil]
  omega
theorem insN_perm (L : List Nat) (i x : Nat) : (insN L i x).Perm (x :: L) := by
  unfold insN
  have h := List.perm_middle (a := x) (l₁ := L.take i) (l₂ := L.drop i)
  rw [List.take_append_drop] at h
  simpa using h
end Go.Proofs.YtkmnmokjlpenhaaPi
