/- Plain law: tables of four inputs, made of each other by orders and inversions; the least of them. -/
import Derived.Test.YtkmnmokjlpenhaaPTabB
set_option linter.unusedVariables false
set_option linter.unusedSimpArgs false
namespace Go.Proofs.YtkmnmokjlpenhaaPi

def U16 (x : Int) : Prop := 0 ≤ x ∧ x < 65536
theorem U16.u64 {x : Int} (h : U16 x) : U64 x := ⟨h.1, by have := h.2; omega⟩
theorem u16_wrap (x : Int) : U16 (IntKind.u16.wrap x) := by
  unfold IntKind.wrap
  simp only [IntKind.bits, IntKind.signed]
  simp
  exact ⟨Int.emod_nonneg _ (by decide), Int.emod_lt_of_pos _ (by decide)⟩
theorem bv_u16 {x : Int} (h : U64 x) {k : Nat} (hk : k < 64) : (bv (IntKind.u16.wrap x)).getLsbD k = (decide (k < 16) && (bv x).getLsbD k) := by
  obtain ⟨h0, h1⟩ := h
  obtain ⟨r, rfl⟩ : ∃ r : Nat, x = r := ⟨x.toNat, by omega⟩
  have e : IntKind.u16.wrap (r : Int) = ((r % 2 ^ 16 : Nat) : Int) := by simp [IntKind.wrap, IntKind.signed, IntKind.bits]
  rw [e]
  show (BitVec.ofInt 64 _).getLsbD k = (_ && (BitVec.ofInt 64 _).getLsbD k)
  rw [BitVec.ofInt_natCast, BitVec.ofInt_natCast, BitVec.getLsbD_ofNat, BitVec.getLsbD_ofNat, Nat.testBit_mod_two_pow]
  simp [hk]
theorem bv_u16_high {x : Int} (h : U16 x) {k : Nat} (hk : 16 ≤ k) : (bv x).getLsbD k = false := by
  obtain ⟨h0, h1⟩ := h
  obtain ⟨r, rfl⟩ : ∃ r : Nat, x = r := ⟨x.toNat, by omega⟩
  show (BitVec.ofInt 64 _).getLsbD k = false
  rw [BitVec.ofInt_natCast, BitVec.getLsbD_ofNat, Nat.testBit_lt_two_pow (Nat.lt_of_lt_of_le (show r < 2 ^ 16 by omega) (Nat.pow_le_pow_right (by omega) hk)), Bool.and_false]
theorem u16_eq {x y : Int} (hx : U16 x) (hy : U16 y) (h : ∀ k, k < 16 → (bv x).getLsbD k = (bv y).getLsbD k) : x = y := u64_eq hx.u64 hy.u64 (bv_ext fun k _ => by
  by_cases hk : k < 16
  · exact h k hk
  · rw [bv_u16_high hx (by omega), bv_u16_high hy (by omega)])

/-- The table that an order, inversions of inputs, and that of the result make. -/
def clsX (t : Int) (p : List Nat) (f : Nat) : Int := tw (flipF (tw (moveF t p) 16) f) 16
def clsW (t : Int) (p : List Nat) (f : Nat) (o : Bool) : Int := IntKind.u16.wrap (if o then vnot (clsX t p f) else clsX t p f)
theorem clsW_u16 (t : Int) (p : List Nat) (f : Nat) (o : Bool) : U16 (clsW t p f o) := u16_wrap _
theorem cls_bit (t : Int) (p : List Nat) (hp : p.length = 4) (f : Nat) (hf : f < 16) (o : Bool) {k : Nat} (hk : k < 16) : (bv (clsW t p f o)).getLsbD k = (o ^^ (bv t).getLsbD (oldN p (k ^^^ f) 4)) := by
  have hx : k ^^^ f < 16 := Nat.xor_lt_two_pow (n := 4) hk hf
  have h0 : (bv (clsX t p f)).getLsbD k = (bv t).getLsbD (oldN p (k ^^^ f) 4) := by
    rw [clsX, bv_tw, tableB_bit _ (by omega), decide_eq_true hk, Bool.true_and, flipF, bv_tw, tableB_bit _ (by omega), decide_eq_true hx, Bool.true_and, moveF, hp]
  have hu : U64 (if o then vnot (clsX t p f) else clsX t p f) := by
    split
    · exact u64_vnot _
    · exact tw_u64 _ _
  rw [clsW, bv_u16 hu (by omega), decide_eq_true hk, Bool.true_and]
  cases o with
  | true => rw [if_pos rfl, bv_vnot, BitVec.getLsbD_not, h0]; simp [show k < 64 by omega]
  | false => rw [if_neg (by simp), h0]; simp
theorem oldN_xor (p : List Nat) (a b : Nat) : ∀ n, oldN p (a ^^^ b) n = oldN p a n ^^^ oldN p b n := fun n => by
  refine Nat.eq_of_testBit_eq fun j => ?_
  rw [Nat.testBit_xor, oldN_bit, oldN_bit, oldN_bit, Nat.testBit_xor]
  cases decide (j < n) <;> simp
def ords : List (List Nat) := [[0, 1, 2, 3], [0, 1, 3, 2], [0, 2, 1, 3], [0, 2, 3, 1], [0, 3, 1, 2], [0, 3, 2, 1], [1, 0, 2, 3], [1, 0, 3, 2], [1, 2, 0, 3], [1, 2, 3, 0], [1, 3, 0, 2], [1, 3, 2, 0], [2, 0, 1, 3], [2, 0, 3, 1], [2, 1, 0, 3], [2, 1, 3, 0], [2, 3, 0, 1], [2, 3, 1, 0], [3, 0, 1, 2], [3, 0, 2, 1], [3, 1, 0, 2], [3, 1, 2, 0], [3, 2, 0, 1], [3, 2, 1, 0]]
structure OrdOk (p : List Nat) : Prop where
  len : p.length = 4
  lt : ∀ x ∈ p, x < 4
  nodup : p.Nodup
  four : p = [p.getD 0 0, p.getD 1 0, p.getD 2 0, p.getD 3 0]
theorem ords_ok (p : List Nat) (h : p ∈ ords) : OrdOk p := by
  have h1 : ∀ p ∈ ords, p.length = 4 ∧ (∀ x ∈ p, x < 4) ∧ p.Nodup ∧ p = [p.getD 0 0, p.getD 1 0, p.getD 2 0, p.getD 3 0] := by decide +kernel
  obtain ⟨a, b, c, d⟩ := h1 p h
  exact ⟨a, b, c, d⟩
def cmp (p q : List Nat) : List Nat := p.map fun i => q.getD i 0
theorem cmp_in : ∀ p ∈ ords, ∀ q ∈ ords, cmp p q ∈ ords := by decide +kernel
theorem cmp_old (p q : List Nat) (hp : OrdOk p) (k : Nat) : oldN p (oldN q k 4) 4 = oldN (cmp p q) k 4 := by
  refine Nat.eq_of_testBit_eq fun j => ?_
  rw [oldN_bit, oldN_bit, oldN_bit]
  by_cases hj : j < 4
  · have hj2 : j < p.length := by rw [hp.len]; exact hj
    have e : p.getD j 0 = p[j] := by simp [hj2]
    have hlt := hp.lt p[j] (List.getElem_mem hj2)
    have e2 : (cmp p q).getD j 0 = q.getD p[j] 0 := by simp [cmp, hj2]
    rw [decide_eq_true hj, e, decide_eq_true hlt, e2, Bool.true_and]
  · rw [decide_eq_false hj, Bool.false_and, Bool.false_and]
def invP (p : List Nat) : List Nat := (List.range 4).map fun y => p.idxOf y
theorem inv_in : ∀ p ∈ ords, invP p ∈ ords := by decide +kernel
theorem inv_old : ∀ p ∈ ords, ∀ k, k < 16 → oldN p (oldN (invP p) k 4) 4 = k := by decide +kernel
theorem inv_old2 : ∀ p ∈ ords, ∀ k, k < 16 → oldN (invP p) (oldN p k 4) 4 = k := by decide +kernel
theorem cls_comp (t : Int) {p q : List Nat} (hp : p ∈ ords) (hq : q ∈ ords) {f g : Nat} (hf : f < 16) (hg : g < 16) (o r : Bool) : ∃ h, h < 16 ∧ clsW (clsW t p f o) q g r = clsW t (cmp p q) h (r ^^ o) := by
  have kp := ords_ok p hp
  have kq := ords_ok q hq
  have hc := cmp_in p hp q hq
  have kc := ords_ok _ hc
  have h1 : oldN p f 4 < 16 := oldN_lt p f 4
  have h2 : oldN (invP (cmp p q)) (oldN p f 4) 4 < 16 := oldN_lt _ _ 4
  refine ⟨g ^^^ oldN (invP (cmp p q)) (oldN p f 4) 4, Nat.xor_lt_two_pow (n := 4) hg h2, u16_eq (clsW_u16 _ _ _ _) (clsW_u16 _ _ _ _) fun k hk => ?_⟩
  have h3 : oldN q (k ^^^ g) 4 < 16 := oldN_lt q _ 4
  rw [cls_bit _ q kq.len g hg r hk, cls_bit t p kp.len f hf o h3, cls_bit t _ kc.len _ (Nat.xor_lt_two_pow (n := 4) hg h2) _ hk, Bool.xor_assoc]
  congr 3
  rw [oldN_xor, cmp_old p q kp, ← Nat.xor_assoc, oldN_xor _ (k ^^^ g), inv_old _ hc _ h1]
theorem cls_back (t : Int) (ht : U16 t) {p : List Nat} (hp : p ∈ ords) {f : Nat} (hf : f < 16) (o : Bool) : clsW (clsW t p f o) (invP p) (oldN p f 4) o = t := by
  have kp := ords_ok p hp
  have ki := ords_ok _ (inv_in p hp)
  have h1 : oldN p f 4 < 16 := oldN_lt p f 4
  refine u16_eq (clsW_u16 _ _ _ _) ht fun k hk => ?_
  have h3 : oldN (invP p) (k ^^^ oldN p f 4) 4 < 16 := oldN_lt _ _ 4
  rw [cls_bit _ _ ki.len _ h1 o hk, cls_bit t p kp.len f hf o h3, oldN_xor, inv_old p hp _ (Nat.xor_lt_two_pow (n := 4) hk h1), Nat.xor_assoc, Nat.xor_self, Nat.xor_zero]
  simp
theorem cls_id (t : Int) (ht : U16 t) : clsW t [0, 1, 2, 3] 0 false = t := by
  refine u16_eq (clsW_u16 _ _ _ _) ht fun k hk => ?_
  rw [cls_bit t _ rfl 0 (by omega) false hk, Nat.xor_zero]
  have : ∀ k, k < 16 → oldN [0, 1, 2, 3] k 4 = k := by decide +kernel
  rw [this k hk]
  simp

/-- A class. -/
structure Cls where
  T : Int
  p : List Nat
  f : Nat
  o : Bool
def candN (t : Int) (n : Nat) : Cls := ⟨clsW t (ords.getD (n / 32) []) (n / 2 % 16) (n % 2 == 1), ords.getD (n / 32) [], n / 2 % 16, n % 2 == 1⟩
/-- The best of the first n ones. -/
def bestN (t : Int) : Nat → Cls
  | 0 => ⟨t, [0, 1, 2, 3], 0, false⟩
  | n + 1 => if n = 0 ∨ (candN t n).T < (bestN t n).T then candN t n else bestN t n
theorem bestN_ok (t : Int) : ∀ n, 0 < n → n ≤ 768 → (bestN t n).p ∈ ords ∧ (bestN t n).f < 16 ∧ (bestN t n).T = clsW t (bestN t n).p (bestN t n).f (bestN t n).o ∧ ∀ m, m < n → (bestN t n).T ≤ (candN t m).T
  | 0, h, _ => by omega
  | n + 1, _, hn => by
    have hin : ords.getD (n / 32) [] ∈ ords := by
      have : ∀ i, i < 24 → ords.getD i [] ∈ ords := by decide +kernel
      exact this _ (by omega)
    rw [bestN]
    by_cases hc : n = 0 ∨ (candN t n).T < (bestN t n).T
    · rw [if_pos hc]
      refine ⟨hin, by simp only [candN]; omega, rfl, fun m hm => ?_⟩
      rcases hc with rfl | hc
      · have : m = 0 := by omega
        subst this
        exact Int.le_refl _
      · by_cases e : m = n
        · subst e; exact Int.le_refl _
        · rcases Nat.eq_zero_or_pos n with h0 | h0
          · omega
          · have := (bestN_ok t n h0 (by omega)).2.2.2 m (by omega)
            omega
    · rw [if_neg hc]
      have h0 : 0 < n := by omega
      obtain ⟨h1, h2, h3, h4⟩ := bestN_ok t n h0 (by omega)
      refine ⟨h1, h2, h3, fun m hm => ?_⟩
      by_cases e : m = n
      · subst e; omega
      · exact h4 m (by omega)
theorem cand_all (t : Int) {p : List Nat} (hp : p ∈ ords) {f : Nat} (hf : f < 16) (o : Bool) : ∃ m, m < 768 ∧ (candN t m).T = clsW t p f o := by
  obtain ⟨i, hi, e⟩ := List.getElem_of_mem hp
  have hi24 : i < 24 := hi
  refine ⟨i * 32 + f * 2 + (if o then 1 else 0), by split <;> omega, ?_⟩
  have e1 : (i * 32 + f * 2 + (if o then 1 else 0)) / 32 = i := by split <;> omega
  have e2 : (i * 32 + f * 2 + (if o then 1 else 0)) / 2 % 16 = f := by split <;> omega
  have e3 : ((i * 32 + f * 2 + (if o then 1 else 0)) % 2 == 1) = o := by
    cases o with
    | true => simp; omega
    | false => simp; omega
  simp only [candN]
  rw [e1, e2, e3]
  congr 1
  simp [hi24, ← e]
  exact Option.some.inj (by rw [← List.getElem?_eq_getElem hi]; simp [List.getElem?_eq_getElem hi])
theorem best_le (t : Int) {p : List Nat} (hp : p ∈ ords) {f : Nat} (hf : f < 16) (o : Bool) : (bestN t 768).T ≤ clsW t p f o := by
  obtain ⟨m, hm, e⟩ := cand_all t hp hf o
  rw [← e]
  exact (bestN_ok t 768 (by omega) (by omega)).2.2.2 m hm
theorem id_in : [0, 1, 2, 3] ∈ ords := by decide
theorem best_self (t : Int) (ht : U16 t) : (bestN t 768).T ≤ t := by
  have := best_le t id_in (f := 0) (by omega) false
  rwa [cls_id t ht] at this
theorem best_same (t : Int) (ht : U16 t) {p : List Nat} (hp : p ∈ ords) {f : Nat} (hf : f < 16) (o : Bool) : (bestN t 768).T = (bestN (clsW t p f o) 768).T := by
  obtain ⟨a1, a2, a3, _⟩ := bestN_ok t 768 (by omega) (by omega)
  obtain ⟨b1, b2, b3, _⟩ := bestN_ok (clsW t p f o) 768 (by omega) (by omega)
  refine Int.le_antisymm ?_ ?_
  · rw [b3]
    obtain ⟨h, hh, e⟩ := cls_comp t hp b1 hf b2 o (bestN (clsW t p f o) 768).o
    rw [e]
    exact best_le t (cmp_in _ hp _ b1) hh _
  · rw [a3]
    obtain ⟨h, hh, e⟩ := cls_comp (clsW t p f o) (inv_in p hp) a1 (oldN_lt p f 4) a2 o (bestN t 768).o
    rw [cls_back t ht hp hf o] at e
    rw [e]
    exact best_le _ (cmp_in _ (inv_in p hp) _ a1) hh _
theorem best_full : (bestN 65535 768).T = 0 := by
  have h1 := best_le 65535 id_in (f := 0) (by omega) true
  have h2 : clsW 65535 [0, 1, 2, 3] 0 true = 0 := by decide +kernel
  obtain ⟨_, _, h3, _⟩ := bestN_ok 65535 768 (by omega) (by omega)
  have h4 := (clsW_u16 65535 (bestN 65535 768).p (bestN 65535 768).f (bestN 65535 768).o).1
  rw [h2] at h1
  omega
end Go.Proofs.YtkmnmokjlpenhaaPi
