/- The walks of classes of tables of four inputs: orders, Apply. -/
import Derived.Test.YtkmnmokjlpenhaaWHA
import Derived.Test.YtkmnmokjlpenhaaPCls
import Derived.Test.YtkmnmokjlpenhaaPiArr
set_option linter.unusedVariables false
set_option linter.unusedSimpArgs false
set_option maxRecDepth 100000
namespace Go.Proofs.YtkmnmokjlpenhaaPi
set_option maxHeartbeats 4000000
abbrev ip (p : List Nat) : List Im := p.map fun x : Nat => .int .i64 (x : Int)
abbrev PV.h (x : Int) : PV := .im (.int .u16 x)
def f4 (k : Nat) : List Nat := [k / 64, k / 16 % 4, k / 4 % 4, k % 4]
def okO (k : Nat) : Bool := bits .or .i64 (bits .or .i64 (bits .or .i64 ((2 ^ (k / 64) : Nat) : Int) ((2 ^ (k / 16 % 4) : Nat) : Int)) ((2 ^ (k / 4 % 4) : Nat) : Int)) ((2 ^ (k % 4) : Nat) : Int) == 15
def ordN (n : Nat) : List (List Nat) := ((List.range n).filter okO).map f4
theorem ordN_all : ordN 256 = ords := by decide +kernel
theorem ordN_succ (n : Nat) : ordN (n + 1) = if okO n then ordN n ++ [f4 n] else ordN n := by
  unfold ordN
  rw [List.range_succ, List.filter_append]
  cases h : okO n <;> simp [h]
theorem in4 : (0 : Int) < ((4 : Nat) : Int) ∧ (1 : Int) < ((4 : Nat) : Int) ∧ (2 : Int) < ((4 : Nat) : Int) ∧ (3 : Int) < ((4 : Nat) : Int) := by decide
theorem o1 : ∀ k : Nat, k < 256 → (k : Int).fdiv (2 ^ min 6 IntKind.i64.bits) = ((k / 64 : Nat) : Int) ∧ bits .and .i64 ((k : Int).fdiv (2 ^ min 4 IntKind.i64.bits)) 3 = ((k / 16 % 4 : Nat) : Int) ∧ bits .and .i64 ((k : Int).fdiv (2 ^ min 2 IntKind.i64.bits)) 3 = ((k / 4 % 4 : Nat) : Int) ∧ bits .and .i64 (k : Int) 3 = ((k % 4 : Nat) : Int) := by decide +kernel
theorem orders_ok (up : Frs) : ACalls Try.prog 96 [] up fun v u => v = .im (.sl (ords.map ip)) ∧ u = up := by
  refine ACalls.code Try.func96 rfl 40 rfl (by simp) [.tmp 0] rfl fun Q hQ => ?_
  simp only [ups, PV.up, argEnv]
  have ft := And.intro ty_2 (And.intro ty_3 (And.intro ty_4 (And.intro ty_88 (And.intro ty_148 (And.intro ty_188 trivial)))))
  refine Run.seq ?_
  have fx := ft
  refine Run.go ?_
  refine End.kp [] ?_
  refine Run.seq ?_
  refine Run.go ?_
  refine End.kp [1] ?_
  refine Run.seq ?_
  refine Run.seq ?_
  refine Run.go ?_
  refine End.kp [1, 4] ?_
  refine Run.block ?_
  refine Run.ghost (Ghost.thaw (u := 1) 88 4 (by decide) rfl) ?_
  refine Run.ghost (Ghost.form [(1, .ms 0 0 0), (4, .i (0 : Nat))] 1 ⟨rfl, rfl, trivial⟩ rfl rfl) ?_
  refine Run.loop (fun m s => ∃ k : Nat, m = 256 - k ∧ k ≤ 256 ∧ s = ⟨[(1, .ms 0 0 (ordN k).length), (4, .i (k : Nat))], [.row 88 4 ((ordN k).map ip) 0], up⟩) 256 ⟨0, rfl, by omega, rfl⟩ fun m s hI => ?_
  obtain ⟨k, rfl, hk, rfl⟩ := hI
  have hol : ((ordN k).map ip).length = (ordN k).length := by simp
  have ho6 : (ordN k).length ≤ k := by simp [ordN]; exact Nat.le_trans (List.length_filter_le _ _) (by simp)
  have hap : ((ordN k).length + 1) * 32 ≤ 140737488355328 := by omega
  refine Run.seq ?_
  have fx := And.intro hap (And.intro hol ft)
  refine Run.go ?_
  refine End.kp [1, 4, 5] ?_
  refine Run.seq ?_
  refine Run.cond _ rfl (fun hb => ?_) (fun hb => ?_)
  · have hb2 := of_decide_eq_true hb
    have hkn : k < 256 := by omega
    have wk := wsucc hkn (by omega)
    obtain ⟨q1, q2, q3, q4⟩ := o1 k hkn
    have p1 := pow_i (k / 64) (by omega)
    have p2 := pow_i (k / 16 % 4) (by omega)
    have p3 := pow_i (k / 4 % 4) (by omega)
    have p4 := pow_i (k % 4) (by omega)
    have z1 : ¬ (((k / 64 : Nat) : Int) < 0) := Int.not_lt.2 (Int.natCast_nonneg _)
    have z2 : ¬ (((k / 16 % 4 : Nat) : Int) < 0) := Int.not_lt.2 (Int.natCast_nonneg _)
    have z3 : ¬ (((k / 4 % 4 : Nat) : Int) < 0) := Int.not_lt.2 (Int.natCast_nonneg _)
    have z4 : ¬ (((k % 4 : Nat) : Int) < 0) := Int.not_lt.2 (Int.natCast_nonneg _)
    refine Run.skip ?_
    refine End.kp [1, 4] ?_
    refine Run.seq ?_
    refine Run.block ?_
    refine Run.seq ?_
    have fx := And.intro (@Int.toNat_natCast) (And.intro z4 (And.intro z3 (And.intro z2 (And.intro z1 (And.intro p4 (And.intro p3 (And.intro p2 (And.intro p1 (And.intro q4 (And.intro q3 (And.intro q2 (And.intro q1 (And.intro in4 (And.intro wk (And.intro hap (And.intro hol ft))))))))))))))))
    refine Run.go ?_
    refine End.kp [1, 2, 4] ?_
    refine Run.seq ?_
    refine Run.go ?_
    refine End.kp [1, 3, 4] ?_
    refine Run.seq ?_
    refine Run.drawA fun K hK => ?_
    refine DOps.sim ?_
    refine DOps.nil (by rfl) (hK _ ?_); clear hK K
    refine End.kp [1, 3, 4, 33] ?_
    refine Run.cond _ rfl (fun hb => ?_) (fun hb => ?_)
    · have hb3 : okO k = true := hb
      have hos := ordN_succ k
      rw [if_pos hb3] at hos
      have fx := And.intro (@Int.toNat_natCast) (And.intro z4 (And.intro z3 (And.intro z2 (And.intro z1 (And.intro p4 (And.intro p3 (And.intro p2 (And.intro p1 (And.intro q4 (And.intro q3 (And.intro q2 (And.intro q1 (And.intro in4 (And.intro wk (And.intro hap (And.intro hol ft))))))))))))))))
      refine Run.go ?_
      refine End.blk ?_
      refine End.kp [1, 4] ?_
      refine Run.go ?_
      refine End.lp ?_
      have hlnx : (ordN (k + 1)).length = (ordN k).length + 1 := by rw [hos]; simp
      refine ⟨256 - (k + 1), _, by omega, Ghost.form [(1, .ms 0 0 ((ordN k).length + 1)), (4, .i (k + 1 : Nat))] 1 ⟨rfl, rfl, trivial⟩ rfl rfl, k + 1, rfl, by omega, ?_⟩
      rw [hlnx, hos]
      simp [f4]
    · have hb3 : ¬ okO k = true := by
        intro e
        rw [okO] at e
        rw [e] at hb
        simp at hb
      have hos := ordN_succ k
      rw [if_neg hb3] at hos
      refine Run.skip ?_
      refine End.blk ?_
      refine End.kp [1, 4] ?_
      have fx := And.intro (@Int.toNat_natCast) (And.intro z4 (And.intro z3 (And.intro z2 (And.intro z1 (And.intro p4 (And.intro p3 (And.intro p2 (And.intro p1 (And.intro q4 (And.intro q3 (And.intro q2 (And.intro q1 (And.intro in4 (And.intro wk (And.intro hap (And.intro hol ft))))))))))))))))
      refine Run.go ?_
      refine End.lp ?_
      refine ⟨256 - (k + 1), _, by omega, Ghost.form [(1, .ms 0 0 (ordN k).length), (4, .i (k + 1 : Nat))] 1 ⟨rfl, rfl, trivial⟩ rfl rfl, k + 1, rfl, by omega, ?_⟩
      rw [hos]
      rfl
  · have hb2 := of_decide_eq_false hb
    have hkN : k = 256 := by omega
    subst hkN
    refine Run.exit rfl ?_
    refine End.kp [1] ?_
    refine Run.seq ?_
    refine Run.ghost (Ghost.shut (t := 1) (j := 0) rfl rfl hol) ?_
    simp only [eput, edel]
    rw [ordN_all]
    have fx := And.intro hap (And.intro hol ft)
    refine Run.go ?_
    refine End.kp [0] ?_
    refine Run.ret (hQ _ _ ⟨.inr rfl, _, rfl, _, rfl, ?_⟩)
    exact ⟨rfl, rfl⟩
def seenN (p : List Nat) : Nat → Nat
  | 0 => 0
  | i + 1 => seenN p i ||| 2 ^ p.getD i 0
theorem seen_all : ∀ p ∈ ords, seenN p 4 = 15 := by decide +kernel
theorem seen_lt (p : List Nat) (h : ∀ x ∈ p, x < 4) : ∀ i, seenN p i < 16
  | 0 => by simp [seenN]
  | i + 1 => by
    rw [seenN]
    refine Nat.or_lt_two_pow (n := 4) (seen_lt p h i) (Nat.pow_lt_pow_right (by omega) ?_)
    rw [List.getD_eq_getElem?_getD]
    cases hx : p[i]? with
    | none => simp
    | some x => exact h x (List.mem_of_getElem? hx)
abbrev clsPV (T : Int) (p : List Nat) (f : Nat) (o : Bool) : List PV := [.h T, .i (p.getD 0 0 : Nat), .i (p.getD 1 0 : Nat), .i (p.getD 2 0 : Nat), .i (p.getD 3 0 : Nat), .i f, .im (.bool o)]
theorem u16_id {t : Int} (h : U16 t) : IntKind.u64.wrap t = t := wrapU (by obtain ⟨h0, h1⟩ := h; omega)
theorem ints4 {p : List Nat} (h : p = [p.getD 0 0, p.getD 1 0, p.getD 2 0, p.getD 3 0]) : ints (nI p) = [[.int .i64 (p.getD 0 0 : Nat)], [.int .i64 (p.getD 1 0 : Nat)], [.int .i64 (p.getD 2 0 : Nat)], [.int .i64 (p.getD 3 0 : Nat)]] := by
  conv => lhs; rw [h]
  rfl
theorem at4 {p : List Nat} (i x : Nat) (h : [p.getD 0 0, p.getD 1 0, p.getD 2 0, p.getD 3 0][i]? = some x) : ([.i (p.getD 0 0 : Nat), .i (p.getD 1 0 : Nat), .i (p.getD 2 0 : Nat), .i (p.getD 3 0 : Nat)] : List PV)[i]? = some (.i (x : Nat)) := by
  have e : ([.i (p.getD 0 0 : Nat), .i (p.getD 1 0 : Nat), .i (p.getD 2 0 : Nat), .i (p.getD 3 0 : Nat)] : List PV) = [p.getD 0 0, p.getD 1 0, p.getD 2 0, p.getD 3 0].map fun x : Nat => PV.i (x : Int) := rfl
  rw [e, List.getElem?_map, h]
  rfl
theorem Apply_ok (t T : Int) (p : List Nat) (f : Nat) (o : Bool) (ht : U16 t) (hp : p ∈ ords) (hf : f < 16) (up : Frs) : ACalls Try.prog 45 [.h t, .agg (clsPV T p f o)] up fun v u => v = .h (clsW t p f o) ∧ u = up := by
  have hpo := ords_ok p hp
  have d1 : decide ((f : Int) < 0) = false := decide_eq_false (by omega)
  have d2 : decide (15 < (f : Int)) = false := decide_eq_false (by omega)
  have h4 := ints4 hpo.four
  have hw := u16_id ht
  refine ACalls.code Try.func45 rfl 49 rfl (by simp) [.tmp 4] rfl fun Q hQ => ?_
  simp only [ups, PV.up, argEnv]
  have ft := And.intro ty_2 (And.intro ty_3 (And.intro ty_4 (And.intro ty_22 (And.intro ty_37 (And.intro ty_87 (And.intro ty_88 (And.intro ty_90 trivial)))))))
  refine Run.seq ?_
  have fx := And.intro hw (And.intro (@gt_iff_lt Int _) (And.intro d2 (And.intro d1 ft)))
  refine Run.region rfl fun K hK => ?_
  refine GOps.boxF (.int .u16 T :: [.int .i64 (p.getD 0 0 : Nat), .int .i64 (p.getD 1 0 : Nat), .int .i64 (p.getD 2 0 : Nat), .int .i64 (p.getD 3 0 : Nat), .int .i64 f, .bool o]) ?_
  refine GOps.sim ?_
  refine GOps.done (hK _ ?_); clear hK K
  refine End.kp [0, 3] ?_
  refine Run.seq ?_
  refine Run.seq ?_
  have fx := And.intro hw (And.intro (@gt_iff_lt Int _) (And.intro d2 (And.intro d1 ft)))
  refine Run.go ?_
  refine End.kp [0, 3, 16] ?_
  refine Run.cond _ rfl (fun hb => ?_) (fun hb => ?_)
  · have hb2 := hb
    simp at hb
  · have hb2 := hb
    refine Run.skip ?_
    refine End.kp [0, 3] ?_
    refine Run.seq ?_
    have fx := And.intro hw (And.intro (@gt_iff_lt Int _) (And.intro d2 (And.intro d1 ft)))
    refine Run.go ?_
    refine End.kp [0, 3, 5] ?_
    refine Run.seq ?_
    refine Run.seq ?_
    refine Run.go ?_
    refine End.kp [0, 3, 5, 18, 19] ?_
    refine Run.block ?_
    refine Run.ghost (Ghost.form [(0, .h t), (3, .iptr (.int .u16 T :: [.int .i64 (p.getD 0 0 : Nat), .int .i64 (p.getD 1 0 : Nat), .int .i64 (p.getD 2 0 : Nat), .int .i64 (p.getD 3 0 : Nat), .int .i64 f, .bool o])), (5, .i (seenN p 0 : Nat)), (18, .agg [.i (p.getD 0 0 : Nat), .i (p.getD 1 0 : Nat), .i (p.getD 2 0 : Nat), .i (p.getD 3 0 : Nat)]), (19, .i (0 : Nat))] 0 ⟨rfl, rfl, rfl, rfl, rfl, trivial⟩ rfl rfl) ?_
    refine Run.loop (fun m s => ∃ i : Nat, m = 4 - i ∧ i ≤ 4 ∧ s = ⟨[(0, .h t), (3, .iptr (.int .u16 T :: [.int .i64 (p.getD 0 0 : Nat), .int .i64 (p.getD 1 0 : Nat), .int .i64 (p.getD 2 0 : Nat), .int .i64 (p.getD 3 0 : Nat), .int .i64 f, .bool o])), (5, .i (seenN p i : Nat)), (18, .agg [.i (p.getD 0 0 : Nat), .i (p.getD 1 0 : Nat), .i (p.getD 2 0 : Nat), .i (p.getD 3 0 : Nat)]), (19, .i (i : Nat))], [], up⟩) 4 ⟨0, rfl, by omega, rfl⟩ fun m s hI => ?_
    obtain ⟨i, rfl, hi, rfl⟩ := hI
    refine Run.seq ?_
    have fx := And.intro hw (And.intro (@gt_iff_lt Int _) (And.intro d2 (And.intro d1 ft)))
    refine Run.go ?_
    refine End.kp [0, 3, 5, 18, 19, 20] ?_
    refine Run.seq ?_
    refine Run.cond _ rfl (fun hb => ?_) (fun hb => ?_)
    · have hb2 := of_decide_eq_true hb
      have hin : i < 4 := by omega
      have wi := wsucc hin (by omega)
      obtain ⟨x, hx1, hx2, hx3, _⟩ := nI_at p i (by rw [hpo.len]; exact hin)
      have hx4 := hpo.lt x hx2
      have hx5 := at4 i x (by rw [← hpo.four]; exact hx1)
      have d3 : decide ((x : Int) < 0) = false := decide_eq_false (by omega)
      have d4 : decide (3 < (x : Int)) = false := decide_eq_false (by omega)
      have hx0 : ¬ ((x : Int) < 0) := by omega
      have hil : (i : Int) < ((4 : Nat) : Int) := by omega
      have hst := old_step x (by omega) (seenN p i) (by have := seen_lt p hpo.lt i; omega) true
      have hso : (seenN p i ||| (if true = true then 2 ^ x else 0) : Nat) = seenN p (i + 1) := by rw [seenN, hx3]; rfl
      rw [hso] at hst
      rw [show b01 true = 1 from rfl] at hst
      refine Run.skip ?_
      refine End.kp [0, 3, 5, 18, 19] ?_
      refine Run.seq ?_
      refine Run.block ?_
      refine Run.seq ?_
      have fx := And.intro (@Int.toNat_natCast) (And.intro (@Int.natCast_nonneg) (And.intro hst (And.intro hil (And.intro hx0 (And.intro d4 (And.intro d3 (And.intro hx5 (And.intro wi (And.intro hw (And.intro (@gt_iff_lt Int _) (And.intro d2 (And.intro d1 ft))))))))))))
      refine Run.go ?_
      refine End.kp [0, 3, 5, 7, 18, 19] ?_
      refine Run.seq ?_
      refine Run.seq ?_
      refine Run.go ?_
      refine End.kp [0, 3, 5, 7, 18, 19, 27] ?_
      refine Run.cond _ rfl (fun hb => ?_) (fun hb => ?_)
      · have hb3 := hb
        simp at hb
      · have hb3 := hb
        refine Run.skip ?_
        refine End.kp [0, 3, 5, 7, 18, 19] ?_
        have fx := And.intro (@Int.toNat_natCast) (And.intro (@Int.natCast_nonneg) (And.intro hst (And.intro hil (And.intro hx0 (And.intro d4 (And.intro d3 (And.intro hx5 (And.intro wi (And.intro hw (And.intro (@gt_iff_lt Int _) (And.intro d2 (And.intro d1 ft))))))))))))
        refine Run.go ?_
        refine End.blk ?_
        refine End.kp [0, 3, 5, 18, 19] ?_
        refine Run.go ?_
        refine End.lp ?_
        refine ⟨4 - (i + 1), _, by omega, Ghost.form [(0, .h t), (3, .iptr (.int .u16 T :: [.int .i64 (p.getD 0 0 : Nat), .int .i64 (p.getD 1 0 : Nat), .int .i64 (p.getD 2 0 : Nat), .int .i64 (p.getD 3 0 : Nat), .int .i64 f, .bool o])), (5, .i (seenN p (i + 1) : Nat)), (18, .agg [.i (p.getD 0 0 : Nat), .i (p.getD 1 0 : Nat), .i (p.getD 2 0 : Nat), .i (p.getD 3 0 : Nat)]), (19, .i (i + 1 : Nat))] 0 ⟨rfl, rfl, rfl, rfl, rfl, trivial⟩ rfl rfl, i + 1, rfl, by omega, rfl⟩
    · have hb2 := of_decide_eq_false hb
      have hiN : i = 4 := by omega
      subst hiN
      have hsa := seen_all p hp
      rw [hsa]
      refine Run.exit rfl ?_
      refine End.kp [0, 3, 5] ?_
      refine Run.seq ?_
      refine Run.seq ?_
      have fx := And.intro hw (And.intro (@gt_iff_lt Int _) (And.intro d2 (And.intro d1 ft)))
      refine Run.go ?_
      refine End.kp [0, 3, 34] ?_
      refine Run.cond _ rfl (fun hb => ?_) (fun hb => ?_)
      · have hb3 := hb
        simp at hb
      · have hb3 := hb
        refine Run.skip ?_
        refine End.kp [0, 3] ?_
        refine Run.seq ?_
        have fx := And.intro hw (And.intro (@gt_iff_lt Int _) (And.intro d2 (And.intro d1 ft)))
        refine Run.drawA fun K hK => ?_
        refine DOps.sim ?_
        refine DOps.sliceArr 4 ?_
        refine DOps.sim ?_
        refine DOps.call (.u (tw (moveF t p) 16)) [] [] rfl rfl rfl rfl (by kernel_rfl) (by simp [Agree]) (fun u hu => by have := Move_ok t ht.u64 p 4 (by omega) (by rw [hpo.len]; omega) hpo.lt hpo.nodup u; rw [h4] at this; exact this) ?_
        refine DOps.sim ?_
        refine DOps.call (.u (clsX t p f)) [] [] rfl rfl rfl rfl (by kernel_rfl) (by simp [Agree]) (fun u hu => Flip_ok _ (tw_u64 _ _) f 4 (by omega) hf u) ?_
        refine DOps.sim ?_
        refine DOps.nil (by rfl) (hK _ ?_); clear hK K
        refine End.kp [3, 8] ?_
        refine Run.seq ?_
        refine Run.seq ?_
        have fx := And.intro hw (And.intro (@gt_iff_lt Int _) (And.intro d2 (And.intro d1 ft)))
        refine Run.go ?_
        refine End.kp [8, 44] ?_
        refine Run.cond _ rfl (fun hb => ?_) (fun hb => ?_)
        · have hb5 := hb
          have fx := And.intro hw (And.intro (@gt_iff_lt Int _) (And.intro d2 (And.intro d1 ft)))
          refine Run.go ?_
          refine End.kp [8] ?_
          refine Run.seq ?_
          refine Run.go ?_
          refine End.kp [4] ?_
          refine Run.ret (hQ _ _ ⟨.inr rfl, _, rfl, _, rfl, ?_⟩)
          exact ⟨by rw [clsW, hb5, if_pos rfl], rfl⟩
        · have hb5 := hb
          refine Run.skip ?_
          refine End.kp [8] ?_
          refine Run.seq ?_
          have fx := And.intro hw (And.intro (@gt_iff_lt Int _) (And.intro d2 (And.intro d1 ft)))
          refine Run.go ?_
          refine End.kp [4] ?_
          refine Run.ret (hQ _ _ ⟨.inr rfl, _, rfl, _, rfl, ?_⟩)
          exact ⟨by rw [clsW, hb5, if_neg (by simp)], rfl⟩
end Go.Proofs.YtkmnmokjlpenhaaPi
