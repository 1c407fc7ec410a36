/- The walks of Small, Moving, Played, spread; a drawn graph. -/
import Derived.Test.YtkmnmokjlpenhaaWM
set_option linter.unusedVariables false
set_option linter.unusedSimpArgs false
set_option maxRecDepth 100000
namespace Go.Proofs.YtkmnmokjlpenhaaPi
set_option maxHeartbeats 2000000
abbrev boolss (l : List (List Bool)) : List (List Im) := l.map fun r => [.sl (bools r)]
theorem boolss_len (l : List (List Bool)) : (boolss l).length = l.length := by simp
def playedV (l : List Int) (k : Nat) (a : Int) (n : Nat) : List (List Bool) × Int := drawN (fun _ b => (valsV l k b, b + k)) a n
theorem playedV_pos (l : List Int) (k : Nat) (a : Int) : ∀ n : Nat, (playedV l k a n).2 = a + k * n
  | 0 => by simp [playedV, drawN]
  | n + 1 => by
    have := playedV_pos l k a n
    have e : (playedV l k a (n + 1)).2 = (playedV l k a n).2 + k := rfl
    rw [e, this, Int.natCast_add, Int.mul_add]
    simp
    omega
theorem playedV_len (l : List Int) (k : Nat) (a : Int) (n : Nat) : (playedV l k a n).1.length = n := drawN_len _ _ _
theorem playedV_row (l : List Int) (k : Nat) (a : Int) (n : Nat) : ∀ r ∈ (playedV l k a n).1, r.length = k := by
  intro r hr
  obtain ⟨i, hi⟩ := List.mem_iff_getElem?.1 hr
  exact drawN_mem _ a (fun _ x => x.length = k) (fun i b => valsV_len l k b) n i r hi
def smallV (l : List Int) (a : Int) (ands : Nat) : LGraph × Int :=
  graphV l (a + 1 + 1 + 1 + 1) (nextV l a 5).toNat (nextV l (a + 1) 4).toNat (nextV l (a + 1 + 1) (ands + 1)).toNat (1 + nextV l (a + 1 + 1 + 1) (4 - 1 + 1)).toNat
def rX (l : List Int) (ins regs : Int) (b : Int) : Int := 2 * (1 + ins + nextV l b regs) + nextV l (b + 1) 2
def mv1 (l : List Int) (ins regs : Int) (x b : Int) : Int × Int := if nextV l b 3 = 0 then (rX l ins regs (b + 1), b + 1 + 1 + 1) else (x, b + 1)
def mvX (l : List Int) (ins regs : Int) (A : List (Int × Int)) (i : Nat) (b : Int) : (Int × Int) × Int :=
  (((mv1 l ins regs (A.getD i (0, 0)).1 b).1, (mv1 l ins regs (A.getD i (0, 0)).2 (mv1 l ins regs (A.getD i (0, 0)).1 b).2).1), (mv1 l ins regs (A.getD i (0, 0)).2 (mv1 l ins regs (A.getD i (0, 0)).1 b).2).2)
theorem mv1_pos (l : List Int) (ins regs x b : Int) : b ≤ (mv1 l ins regs x b).2 ∧ (mv1 l ins regs x b).2 ≤ b + (3 : Nat) := by
  unfold mv1
  split <;> exact ⟨by simp only; omega, by simp only; omega⟩
theorem mvX_pos (l : List Int) (ins regs : Int) (A : List (Int × Int)) (i : Nat) (b : Int) : b ≤ (mvX l ins regs A i b).2 ∧ (mvX l ins regs A i b).2 ≤ b + (6 : Nat) := by
  have h1 := mv1_pos l ins regs (A.getD i (0, 0)).1 b
  have h2 := mv1_pos l ins regs (A.getD i (0, 0)).2 (mv1 l ins regs (A.getD i (0, 0)).1 b).2
  simp only [mvX]
  omega
def movingV (l : List Int) (a : Int) (ands : Nat) : LGraph × Int :=
  let ins := (1 + nextV l a (3 - 1 + 1)).toNat
  let regs := (2 + nextV l (a + 1) (7 - 2 + 1)).toNat
  let G := graphV l (a + 1 + 1 + 1 + 1) ins regs (1 + nextV l (a + 1 + 1) (ands - 1 + 1)).toNat (1 + nextV l (a + 1 + 1 + 1) (3 - 1 + 1)).toNat
  let M := drawN (mvX l ins regs G.1.ands) G.2 G.1.ands.length
  ({ G.1 with ands := M.1 }, M.2)
theorem graphV_pos (l : List Int) (a : Int) (ins regs ands outs : Nat) : a ≤ (graphV l a ins regs ands outs).2 ∧ (graphV l a ins regs ands outs).2 ≤ a + 3 * (ins + regs + outs) + 8 * ands + 5 * regs + 4 * outs ∧ (graphV l a ins regs ands outs).1.inn.length = ins ∧ (graphV l a ins regs ands outs).1.out.length = outs ∧
    (graphV l a ins regs ands outs).1.regs.length = regs ∧ (graphV l a ins regs ands outs).1.ands.length = ands ∧ (graphV l a ins regs ands outs).1.outs.length = outs := by
  obtain ⟨p1, p2, p3⟩ := wordsV_pos l (ins + regs) 0 a
  obtain ⟨q1, q2, q3⟩ := wordsV_pos l outs 0 (wordsV l (ins + regs) 0 a).2
  have h1 := drawN_pos (andX l ((1 + ins + regs : Nat) : Int)) (wordsV l outs 0 (wordsV l (ins + regs) 0 a).2).2 8 (andX_pos l _) ands
  simp only [graphV]
  generalize (drawN (andX l ((1 + ins + regs : Nat) : Int)) (wordsV l outs 0 (wordsV l (ins + regs) 0 a).2).2 ands).2 = a3 at h1
  have h2 := drawN_pos (regX l (((1 + ins + regs : Nat) : Int) + ands) (List.drop ins (wordsV l (ins + regs) 0 a).1)) a3 5 (regX_pos l _ _) regs
  generalize (drawN (regX l (((1 + ins + regs : Nat) : Int) + ands) (List.drop ins (wordsV l (ins + regs) 0 a).1)) a3 regs).2 = a4 at h2
  have h3 := drawN_pos (fun _ b => litX l b (((1 + ins + regs : Nat) : Int) + ands)) a4 4 (fun _ b => litX_pos l b _) outs
  refine ⟨by omega, by omega, by rw [List.length_take]; omega, q3, drawN_len _ _ _, drawN_len _ _ _, drawN_len _ _ _⟩
theorem Small_ok (ands : Nat) (h3 : ands ≤ 99) (l : List Int) (a : Int) (hs : StmOk l a) (hf : a + 20000 < 1099511627776) (up : Frs) (d j : Nat) (hl : fget up d j = some (stm l a)) :
    ACalls Try.prog 47 [.ptr d j 0, .i ands] up fun v u => v = (smallV l a ands).1.pv ∧ u = fset up d j (stm l (smallV l a ands).2) := by
  have hset : ∀ o, fget (fset up d j o) d j = some o := fun o => fget_fset_same _ _ _ _ _ hl
  have hp := hs.pos
  
  have ok : ∀ b : Int, a ≤ b → b ≤ a + 3000 → StmOk l b := fun b h1 h2 => ⟨hs.vals, hs.len, by omega, by omega⟩
  obtain ⟨r1, s1⟩ := nextV_range l a 5 (by omega)
  obtain ⟨r2, s2⟩ := nextV_range l (a + 1) 4 (by omega)
  obtain ⟨r3, s3⟩ := nextV_range l (a + 1 + 1) (ands + 1) (by omega)
  obtain ⟨r4, s4⟩ := nextV_range l (a + 1 + 1 + 1) (4 - 1 + 1) (by omega)
  obtain ⟨ins, e1⟩ : ∃ k : Nat, nextV l a 5 = k := ⟨(nextV l a 5).toNat, by omega⟩
  obtain ⟨regs, e2⟩ : ∃ k : Nat, nextV l (a + 1) 4 = k := ⟨(nextV l (a + 1) 4).toNat, by omega⟩
  obtain ⟨k, e3⟩ : ∃ k : Nat, nextV l (a + 1 + 1) (ands + 1) = k := ⟨(nextV l (a + 1 + 1) (ands + 1)).toNat, by omega⟩
  obtain ⟨outs, e4⟩ : ∃ k : Nat, 1 + nextV l (a + 1 + 1 + 1) (4 - 1 + 1) = k := ⟨(1 + nextV l (a + 1 + 1 + 1) (4 - 1 + 1)).toNat, by omega⟩
  have wa : IntKind.i64.wrap ((ands : Int) + 1) = ands + 1 := wrap64 (by omega)
  have hG : smallV l a ands = graphV l (a + 1 + 1 + 1 + 1) ins regs k outs := by simp only [smallV, e1, e2, e3, e4, Int.toNat_natCast]
  have hal : ((graphV l (a + 1 + 1 + 1 + 1) ins regs k outs).1.ands.map nd).length = k := by rw [nd_len]; exact (graphV_pos l (a + 1 + 1 + 1 + 1) ins regs k outs).2.2.2.2.2.1
  refine ACalls.code Try.func47 rfl 17 rfl (by simp) [.cell 4 51] rfl fun Q hQ => ?_
  simp only [ups, PV.up, argEnv]
  have ft := And.intro ty_3 (And.intro ty_23 (And.intro ty_51 trivial))
  refine Run.seq ?_
  have fx := And.intro e4 (And.intro e3 (And.intro e2 (And.intro e1 (And.intro wa (And.intro hset (And.intro hl ft))))))
  refine Run.go ?_
  refine End.kp [0, 1, 4] ?_
  refine Run.seq ?_
  refine Run.ghost (.spares 1) ?_
  simp only [ASt.pushN, ASt.push, List.append_assoc, List.cons_append, List.nil_append]
  have fx := And.intro e4 (And.intro e3 (And.intro e2 (And.intro e1 (And.intro wa (And.intro hset (And.intro hl ft))))))
  refine Run.region rfl fun K hK => GOps.sim ?_
  refine GOps.call rfl rfl rfl rfl (by kernel_rfl) (ACalls.sim ?_)
  refine (Next_ok l a 5 hs (by omega) _ (d + 1) j hl).mono fun v u hv => ?_
  obtain ⟨rfl, rfl⟩ := hv
  refine ⟨_, _, rfl, GOps.sim ?_⟩
  refine GOps.call rfl rfl rfl rfl (by kernel_rfl) (ACalls.sim ?_)
  refine (Next_ok l (a + 1) 4 (ok _ (by omega) (by omega)) (by omega) _ (d + 1) j (hset _)).mono fun v u hv => ?_
  obtain ⟨rfl, rfl⟩ := hv
  refine ⟨_, _, rfl, GOps.sim ?_⟩
  refine GOps.call rfl rfl rfl rfl (by kernel_rfl) (ACalls.sim ?_)
  refine (Next_ok l (a + 1 + 1) (ands + 1) (ok _ (by omega) (by omega)) (by omega) _ (d + 1) j (hset _)).mono fun v u hv => ?_
  obtain ⟨rfl, rfl⟩ := hv
  refine ⟨_, _, rfl, GOps.sim ?_⟩
  refine GOps.call rfl rfl rfl rfl (by kernel_rfl) (ACalls.sim ?_)
  refine (Range_ok 1 4 (by omega) (by omega) (by omega) l (a + 1 + 1 + 1) (ok _ (by omega) (by omega)) (by omega) _ (d + 1) j (hset _)).mono fun v u hv => ?_
  obtain ⟨rfl, rfl⟩ := hv
  refine ⟨_, _, rfl, GOps.sim ?_⟩
  refine GOps.call rfl rfl rfl rfl (by kernel_rfl) (ACalls.sim ?_)
  refine (Graph_ok ins regs k outs (by omega) (by omega) (by omega) (by omega) l (a + 1 + 1 + 1 + 1) (ok _ (by omega) (by omega)) (by omega) _ (d + 1) j (hset _) 1 rfl).mono fun v u hv => ?_
  obtain ⟨rfl, rfl⟩ := hv
  refine ⟨_, _, rfl, GOps.sim ?_⟩
  refine GOps.done (hK _ ?_); clear hK K
  refine End.move (Ghost.boxShut (j := 0) (i := 3) (r := 1) rfl rfl rfl hal) ?_
  simp only [List.set_cons_zero, List.set_cons_succ]
  refine End.kp [4] ?_
  have fx := And.intro e4 (And.intro e3 (And.intro e2 (And.intro e1 (And.intro wa (And.intro hset (And.intro hl ft))))))
  refine Run.resC hQ ?_
  rw [hG]
  exact ⟨rfl, rfl⟩
theorem r_ok (ins regs : Int) (hi0 : 0 ≤ ins) (hi1 : ins ≤ 1000) (hr0 : 1 ≤ regs) (hr1 : regs ≤ 1000) (k1 k2 k3 : Nat) (l : List Int) (a : Int) (hs : StmOk l a) (hf : a + 1000 < 1099511627776) (up : Frs) (d j : Nat) (hl : fget up (d + 1) j = some (stm l a))
    (hk1 : fget up 0 k1 = some (.box [.i ins])) (hk2 : fget up 0 k2 = some (.box [.ptr (d + 1) j 0])) (hk3 : fget up 0 k3 = some (.box [.i regs])) : ACalls Try.prog 85 [.ptr 0 k1 0, .ptr 0 k2 0, .ptr 0 k3 0] up fun v u => v = .i (rX l ins regs a) ∧ u = fset up (d + 1) j (stm l (a + 1 + 1)) := by
  have hset : ∀ o, fget (fset up (d + 1) j o) (d + 1) j = some o := fun o => fget_fset_same _ _ _ _ _ hl
  have hs2 : ∀ o, fget (fset up (d + 1) j o) 0 k2 = some (.box [.ptr (d + 1) j 0]) := fun o => by rw [fget_fset, if_neg (by omega)]; exact hk2
  have hp := hs.pos
  obtain ⟨r0, r1⟩ := nextV_range l a regs hr0
  obtain ⟨m0, m1⟩ := nextV_range l (a + 1) 2 (by omega)
  have w1 : IntKind.i64.wrap (1 + ins) = 1 + ins := wrap64 (by omega)
  have w2 : IntKind.i64.wrap (1 + ins + nextV l a regs) = 1 + ins + nextV l a regs := wrap64 (by omega)
  have w3 : IntKind.i64.wrap (2 * (1 + ins + nextV l a regs)) = 2 * (1 + ins + nextV l a regs) := wrap64 (by omega)
  have w4 : IntKind.i64.wrap (2 * (1 + ins + nextV l a regs) + nextV l (a + 1) 2) = 2 * (1 + ins + nextV l a regs) + nextV l (a + 1) 2 := wrap64 (by omega)
  refine ACalls.code Try.func85 rfl 14 rfl (by simp) [.tmp 3] rfl fun Q hQ => ?_
  simp only [ups, PV.up, argEnv]
  have ft := And.intro ty_3 (And.intro ty_23 (And.intro ty_62 trivial))
  refine Run.seq ?_
  have fx := And.intro w4 (And.intro w3 (And.intro w2 (And.intro w1 (And.intro hs2 (And.intro hk3 (And.intro hk2 (And.intro hk1 (And.intro hset (And.intro hl ft)))))))))
  refine Run.go ?_
  refine End.kp [0, 1, 2] ?_
  refine Run.seq ?_
  refine Run.drawA fun K hK => ?_
  refine DOps.sim ?_
  refine DOps.call (.i (nextV l a regs)) [((d + 2, j), stm l a)] [((d + 2, j), stm l (a + 1))] rfl rfl rfl rfl (by kernel_rfl) (by simp [Agree, ASt.fr, hl]) (fun u hu => Next_ok l a regs hs (by omega) u (d + 2) j (hu ((d + 2, j), stm l a) (by simp))) ?_
  refine DOps.sim ?_
  refine DOps.call (.i (nextV l (a + 1) 2)) [((d + 2, j), stm l (a + 1))] [((d + 2, j), stm l (a + 1 + 1))] rfl rfl rfl rfl (by kernel_rfl) (by simp [Agree, ASt.fr, hset]) (fun u hu => Next_ok l (a + 1) 2 (hs.plus 1 (by omega) (by omega)) (by omega) u (d + 2) j (hu ((d + 2, j), stm l (a + 1)) (by simp))) ?_
  refine DOps.sim ?_
  refine DOps.nil (by rfl) (hK _ ?_); clear hK K
  refine End.kp [3] ?_
  refine Run.ret (hQ _ _ ⟨.inr rfl, _, rfl, _, rfl, ?_⟩)
  exact ⟨rfl, rfl⟩
theorem Played_ok (n k : Nat) (hn : n ≤ 200) (hk : k ≤ 100) (l : List Int) (a : Int) (hs : StmOk l a) (hf : a + 40000 < 1099511627776) (up : Frs) (d j : Nat) (hl : fget up d j = some (stm l a)) :
    ACalls Try.prog 24 [.ptr d j 0, .i n, .i k] up fun v u => v = .im (.sl (boolss (playedV l k a n).1)) ∧ u = fset up d j (stm l (playedV l k a n).2) := by
  have hset : ∀ o, fget (fset up d j o) d j = some o := fun o => fget_fset_same _ _ _ _ _ hl
  have hp := hs.pos
  refine ACalls.code Try.func24 rfl 19 rfl (by simp) [.tmp 6] rfl fun Q hQ => ?_
  simp only [ups, PV.up, argEnv]
  have ft := And.intro ty_3 (And.intro ty_4 (And.intro ty_23 (And.intro ty_58 (And.intro ty_71 trivial))))
  refine Run.seq ?_
  have fx := And.intro hset (And.intro hl ft)
  refine Run.go ?_
  refine End.kp [0, 1, 2] ?_
  refine Run.seq ?_
  refine Run.go ?_
  refine End.kp [0, 1, 2, 7] ?_
  refine Run.seq ?_
  refine Run.seq ?_
  refine Run.go ?_
  refine End.kp [0, 2, 7, 8, 9] ?_
  refine Run.block ?_
  refine Run.ghost (Ghost.thaw (u := 7) 71 1 (by decide) rfl) ?_
  refine Run.ghost (Ghost.form [(0, .ptr (d + 1) j 0), (2, .i k), (7, .ms 0 0 (0)), (8, .i n), (9, .i (0 : Nat))] 1 ⟨rfl, rfl, rfl, rfl, rfl, trivial⟩ rfl rfl) ?_
  refine Run.loop (fun m s => ∃ i : Nat, m = n - i ∧ i ≤ n ∧ s = ⟨[(0, .ptr (d + 1) j 0), (2, .i k), (7, .ms 0 0 (i)), (8, .i n), (9, .i (i : Nat))], [.row 71 1 (boolss (playedV l k a i).1) 0], fset up d j (stm l (playedV l k a i).2)⟩) n ⟨0, rfl, by omega, by rw [show (playedV l k a 0) = ([], a) from rfl]; simp only; rw [fset_self up d j _ hl]; rfl⟩ fun m s hI => ?_
  obtain ⟨i, rfl, hi, rfl⟩ := hI
  have hsl : (boolss (playedV l k a i).1).length = i := by rw [boolss_len, playedV_len]
  have hpp := playedV_pos l k a i
  have hki : ((k : Int) * i) ≤ 100 * 200 := by
    have h1 : (k : Int) * i ≤ 100 * (i : Int) := Int.mul_le_mul_of_nonneg_right (by omega) (by omega)
    omega
  have hki0 : 0 ≤ (k : Int) * i := Int.mul_nonneg (by omega) (by omega)
  generalize hc : (playedV l k a i).2 = c at hpp
  have hs0 : StmOk l c := ⟨hs.vals, hs.len, by omega, by omega⟩
  have hap : (i + 1) * 24 ≤ 140737488355328 := by omega
  refine Run.seq ?_
  have fx := And.intro hap (And.intro hsl (And.intro hset (And.intro hl ft)))
  refine Run.go ?_
  refine End.kp [0, 2, 7, 8, 9, 10] ?_
  refine Run.seq ?_
  refine Run.cond _ rfl (fun hb => ?_) (fun hb => ?_)
  · have hb := of_decide_eq_true hb
    have hin : i < n := by omega
    have wi := wsucc hin (by omega)
    refine Run.skip ?_
    refine End.kp [0, 2, 7, 8, 9] ?_
    refine Run.seq ?_
    refine Run.block ?_
    have fx := And.intro wi (And.intro hap (And.intro hsl (And.intro hset (And.intro hl ft))))
    refine Run.region rfl fun K hK => GOps.sim ?_
    refine GOps.call rfl rfl rfl rfl (by kernel_rfl) (ACalls.sim ?_)
    refine (Values_ok k (by omega) l c hs0 (by omega) _ (d + 1) j (hset _)).mono fun v u hv => ?_
    obtain ⟨rfl, rfl⟩ := hv
    refine ⟨_, _, rfl, GOps.sim ?_⟩
    refine GOps.done (hK _ ?_); clear hK K
    refine End.blk ?_
    refine End.kp [0, 2, 7, 8, 9] ?_
    refine Run.go ?_
    refine End.lp ?_
    refine ⟨n - (i + 1), _, by omega, Ghost.form [(0, .ptr (d + 1) j 0), (2, .i k), (7, .ms 0 0 ((i + 1))), (8, .i n), (9, .i (i + 1 : Nat))] 1 ⟨rfl, rfl, rfl, rfl, rfl, trivial⟩ rfl rfl, i + 1, rfl, by omega, ?_⟩
    have e1 : playedV l k a (i + 1) = ((playedV l k a i).1 ++ [valsV l k c], c + k) := by rw [← hc]; rfl
    rw [e1]
    simp
  · have hb := of_decide_eq_false hb
    have hiN : i = n := by omega
    subst hiN
    refine Run.exit rfl ?_
    refine End.kp [7] ?_
    refine Run.seq ?_
    refine Run.ghost (Ghost.shut (t := 7) (j := 0) rfl rfl hsl) ?_
    simp only [eput, edel]
    have fx := And.intro hap (And.intro hsl (And.intro hset (And.intro hl ft)))
    refine Run.go ?_
    refine End.kp [6] ?_
    refine Run.ret (hQ _ _ ⟨.inr rfl, _, rfl, _, rfl, ?_⟩)
    exact ⟨rfl, by rw [hc]⟩
def orBit (w : Int) (k : Nat) (b : Bool) : Int := if b then bits .or .u64 w (IntKind.u64.wrap (1 * 2 ^ (min k IntKind.u64.bits))) else w
def colV (rows : List (List Bool)) (i : Nat) : Nat → Int
  | 0 => 0
  | k + 1 => orBit (colV rows i k) k ((rows.getD k []).getD i false)
/-- The words of rows whose first k rows, and the first i bits of the next one, are laid in. -/
def spreadU (rows : List (List Bool)) (K k i : Nat) : List Int := (List.range (if k = 0 then i else K)).map fun q => if q < i then colV rows q (k + 1) else colV rows q k
def spreadV (rows : List (List Bool)) (K : Nat) : List Int := (List.range K).map fun q => colV rows q rows.length
theorem spreadU_len (rows : List (List Bool)) (K k i : Nat) : (spreadU rows K k i).length = if k = 0 then i else K := by simp [spreadU]
theorem spreadU_full (rows : List (List Bool)) (K k : Nat) : spreadU rows K k K = spreadU rows K (k + 1) 0 := by
  unfold spreadU
  rw [if_neg (show ¬ k + 1 = 0 by omega)]
  have : (if k = 0 then K else K) = K := by split <;> rfl
  rw [this]
  refine List.map_congr_left fun q hq => ?_
  rw [if_pos (by simpa using hq), if_neg (by omega)]
theorem spreadU_all (rows : List (List Bool)) (K : Nat) (h : rows ≠ []) : spreadU rows K rows.length 0 = spreadV rows K := by
  unfold spreadU spreadV
  rw [if_neg (by simpa using h)]
  refine List.map_congr_left fun q hq => ?_
  rw [if_neg (by omega)]
theorem spreadU_get (rows : List (List Bool)) (K k i : Nat) (hk : k ≠ 0) (hi : i < K) : (spreadU rows K k i)[i]? = some (colV rows i k) := by
  unfold spreadU
  rw [List.getElem?_map, List.getElem?_range (by rw [if_neg hk]; exact hi)]
  simp
theorem spreadU_set (rows : List (List Bool)) (K k i : Nat) (hk : k ≠ 0) (hi : i < K) : (spreadU rows K k i).set i (orBit (colV rows i k) k ((rows.getD k []).getD i false)) = spreadU rows K k (i + 1) := by
  refine List.ext_getElem? fun q => ?_
  unfold spreadU
  rw [List.getElem?_set]
  simp only [if_neg hk, List.length_map, List.length_range, List.getElem?_map]
  by_cases h : i = q
  · subst h
    rw [if_pos rfl, if_pos hi, List.getElem?_range hi, Option.map_some, if_pos (by omega)]
    rfl
  · rw [if_neg h]
    by_cases hq : q < K
    · rw [List.getElem?_range hq]
      simp only [Option.map_some, Option.some.injEq]
      by_cases h2 : q < i
      · rw [if_pos h2, if_pos (by omega)]
      · rw [if_neg h2, if_neg (by omega)]
    · rw [List.getElem?_eq_none (by simpa using hq)]
      rfl
theorem spreadU_first (rows : List (List Bool)) (K i : Nat) : spreadU rows K 0 i ++ [orBit 0 0 ((rows.getD 0 []).getD i false)] = spreadU rows K 0 (i + 1) := by
  unfold spreadU
  simp only [if_true, List.range_succ, List.map_append, List.map_cons, List.map_nil]
  congr 1
  · refine List.map_congr_left fun q hq => ?_
    have hq : q < i := by simpa using hq
    rw [if_pos hq, if_pos (by omega)]
  · rw [if_pos (by omega)]
    rfl
theorem spreadU_same (rows : List (List Bool)) (K k i : Nat) (hk : k ≠ 0) (hi : i < K) : (spreadU rows K k i).set i (colV rows i k) = spreadU rows K k i := by
  obtain ⟨h, e⟩ := List.getElem?_eq_some_iff.1 (spreadU_get rows K k i hk hi)
  rw [← e, List.set_getElem_self]
theorem us_set (q : List Int) (i : Nat) (x : Int) : (us q).set i [.int .u64 x] = us (q.set i x) := by simp [List.map_set]
theorem boolss_at (q : List (List Bool)) (i : Nat) (h : i < q.length) : ∃ r, q[i]? = some r ∧ r ∈ q ∧ q.getD i [] = r ∧ (boolss q)[i]? = some [.sl (bools r)] :=
  ⟨q[i], List.getElem?_eq_getElem h, List.getElem_mem h, by simp [h], by simp [h]⟩
theorem spread_ok (rows : List (List Bool)) (K : Nat) (hn : rows.length ≤ 64) (hne : rows ≠ []) (hK : K ≤ 1000) (hr : ∀ r ∈ rows, r.length = K) (up : Frs) : ACalls Try.prog 23 [.im (.sl (boolss rows))] up fun v u => v = .im (.sl (us (spreadV rows K))) ∧ u = up := by
  refine ACalls.code Try.func23 rfl 41 rfl (by simp) [.tmp 2] rfl fun Q hQ => ?_
  simp only [ups, PV.up, argEnv]
  have ft := And.intro ty_3 (And.intro ty_4 (And.intro ty_37 (And.intro ty_56 (And.intro ty_58 (And.intro ty_71 trivial)))))
  refine Run.seq ?_
  have fx := And.intro bools_len (And.intro boolss_len ft)
  refine Run.go ?_
  refine End.kp [0] ?_
  refine Run.seq ?_
  refine Run.go ?_
  refine End.kp [0, 3] ?_
  refine Run.seq ?_
  refine Run.seq ?_
  refine Run.go ?_
  refine End.kp [3, 8, 9, 10] ?_
  refine Run.block ?_
  refine Run.ghost (Ghost.thaw (u := 3) 37 1 (by decide) rfl) ?_
  refine Run.ghost (Ghost.form [(3, .ms 0 0 ((spreadU rows K 0 0).length)), (8, .im (.sl (boolss rows))), (9, .i rows.length), (10, .i (0 : Nat))] 1 ⟨rfl, rfl, rfl, rfl, trivial⟩ rfl rfl) ?_
  refine Run.loop (fun m s => ∃ k : Nat, m = rows.length - k ∧ k ≤ rows.length ∧ s = ⟨[(3, .ms 0 0 ((spreadU rows K k 0).length)), (8, .im (.sl (boolss rows))), (9, .i rows.length), (10, .i (k : Nat))], [.row 37 1 (us (spreadU rows K k 0)) 0], up⟩) rows.length ⟨0, rfl, by omega, rfl⟩ fun m s hI => ?_
  obtain ⟨k, rfl, hk, rfl⟩ := hI
  refine Run.seq ?_
  have fx := And.intro bools_len (And.intro boolss_len ft)
  refine Run.go ?_
  refine End.kp [3, 8, 9, 10, 11] ?_
  refine Run.seq ?_
  refine Run.cond _ rfl (fun hb => ?_) (fun hb => ?_)
  · have hb := of_decide_eq_true hb
    have hkn : k < rows.length := by omega
    have wk := wsucc hkn (by omega)
    obtain ⟨r, hr1, hr2, hr3, hr4⟩ := boolss_at rows k hkn
    have hrl := hr r hr2
    refine Run.skip ?_
    refine End.kp [3, 8, 9, 10] ?_
    refine Run.seq ?_
    refine Run.block ?_
    refine Run.seq ?_
    have fx := And.intro (@Int.toNat_natCast) (And.intro (@Int.natCast_nonneg) (And.intro hr4 (And.intro wk (And.intro bools_len (And.intro boolss_len ft)))))
    refine Run.go ?_
    refine End.kp [3, 4, 5, 8, 9, 10] ?_
    refine Run.seq ?_
    refine Run.go ?_
    refine End.kp [3, 4, 8, 9, 10, 15, 16, 17] ?_
    refine Run.block ?_
    refine Run.ghost (Ghost.form [(3, .ms 0 0 ((spreadU rows K k 0).length)), (4, .i (k : Nat)), (8, .im (.sl (boolss rows))), (9, .i rows.length), (10, .i (k : Nat)), (15, .im (.sl (bools r))), (16, .i r.length), (17, .i (0 : Nat))] 1 ⟨rfl, rfl, rfl, rfl, rfl, rfl, rfl, rfl, trivial⟩ rfl rfl) ?_
    refine Run.loop (fun m s => ∃ i : Nat, m = K - i ∧ i ≤ K ∧ s = ⟨[(3, .ms 0 0 ((spreadU rows K k i).length)), (4, .i (k : Nat)), (8, .im (.sl (boolss rows))), (9, .i rows.length), (10, .i (k : Nat)), (15, .im (.sl (bools r))), (16, .i r.length), (17, .i (i : Nat))], [.row 37 1 (us (spreadU rows K k i)) 0], up⟩) K ⟨0, rfl, by omega, rfl⟩ fun m s hI => ?_
    obtain ⟨i, rfl, hi, rfl⟩ := hI
    have hul := spreadU_len rows K k i
    have huu : (us (spreadU rows K k i)).length = (spreadU rows K k i).length := us_len _
    have hap : ((spreadU rows K k i).length + 1) * 8 ≤ 140737488355328 := by rw [hul]; split <;> omega
    have hkk : ¬ ((k : Int) < 0) := by omega
    refine Run.seq ?_
    have fx := And.intro hkk (And.intro hap (And.intro huu (And.intro (@Int.toNat_natCast) (And.intro (@Int.natCast_nonneg) (And.intro hr4 (And.intro wk (And.intro bools_len (And.intro boolss_len ft))))))))
    refine Run.go ?_
    refine End.kp [3, 4, 8, 9, 10, 15, 16, 17, 18] ?_
    refine Run.seq ?_
    refine Run.cond _ rfl (fun hb => ?_) (fun hb => ?_)
    · have hb := of_decide_eq_true hb
      have hin : i < K := by omega
      have wi := wsucc hin (by omega)
      have hbi := bools_get r i (by omega)
      refine Run.skip ?_
      refine End.kp [3, 4, 8, 9, 10, 15, 16, 17] ?_
      refine Run.seq ?_
      refine Run.block ?_
      refine Run.seq ?_
      have fx := And.intro hbi (And.intro wi (And.intro hkk (And.intro hap (And.intro huu (And.intro (@Int.toNat_natCast) (And.intro (@Int.natCast_nonneg) (And.intro hr4 (And.intro wk (And.intro bools_len (And.intro boolss_len ft))))))))))
      refine Run.go ?_
      refine End.kp [3, 4, 6, 7, 8, 9, 10, 15, 16, 17] ?_
      refine Run.seq ?_
      refine Run.seq ?_
      refine Run.go ?_
      refine End.kp [3, 4, 6, 7, 8, 9, 10, 15, 16, 17, 25] ?_
      refine Run.cond _ rfl (fun hb => ?_) (fun hb => ?_)
      · have hb2 := eq_of_beq hb
        have hk0 : k = 0 := by
          rcases Nat.eq_zero_or_pos k with h | h
          · exact h
          · rw [hul, if_neg (by omega)] at hb2
            omega
        subst hk0
        have hin2 : (spreadU rows K 0 i).length = i := by rw [hul, if_pos rfl]
        have hg2 : (us (spreadU rows K 0 i) ++ [[Im.int .u64 0]])[i]? = some [.int .u64 0] := by
          rw [List.getElem?_append_right (by rw [us_len]; omega)]
          simp [hin2]
        have hs2 : ∀ x : Int, (us (spreadU rows K 0 i) ++ [[Im.int .u64 0]]).set i [.int .u64 x] = us (spreadU rows K 0 i ++ [x]) := fun x => by
          rw [List.set_append_right _ _ (by rw [us_len]; omega), us_len, hin2, Nat.sub_self]
          simp
        have hl2 : (us (spreadU rows K 0 i) ++ [[Im.int .u64 0]]).length = i + 1 := by simp [hin2]
        have hlt2 : ((i : Nat) : Int) < ((i + 1 : Nat) : Int) := by omega
        have hap2 : (i + 1) * 8 ≤ 140737488355328 := by omega
        have fx := And.intro hap2 (And.intro hlt2 (And.intro hl2 (And.intro hs2 (And.intro hg2 (And.intro hin2 (And.intro hbi (And.intro wi (And.intro hkk (And.intro hap (And.intro huu (And.intro (@Int.toNat_natCast) (And.intro (@Int.natCast_nonneg) (And.intro hr4 (And.intro wk (And.intro bools_len (And.intro boolss_len ft))))))))))))))))
        refine Run.go ?_
        refine End.kp [3, 4, 6, 7, 8, 9, 10, 15, 16, 17] ?_
        refine Run.seq ?_
        refine Run.go ?_
        refine End.kp [3, 4, 6, 8, 9, 10, 15, 16, 17, 29] ?_
        refine Run.cond _ rfl (fun hb => ?_) (fun hb => ?_)
        · have hb3 := hb
          have fx := And.intro hap2 (And.intro hlt2 (And.intro hl2 (And.intro hs2 (And.intro hg2 (And.intro hin2 (And.intro hbi (And.intro wi (And.intro hkk (And.intro hap (And.intro huu (And.intro (@Int.toNat_natCast) (And.intro (@Int.natCast_nonneg) (And.intro hr4 (And.intro wk (And.intro bools_len (And.intro boolss_len ft))))))))))))))))
          refine Run.drawA fun K hK => ?_
          refine DOps.sim ?_
          refine DOps.nil (by rfl) (hK _ ?_); clear hK K
          refine End.blk ?_
          refine End.kp [3, 4, 8, 9, 10, 15, 16, 17] ?_
          refine Run.go ?_
          refine End.lp ?_
          have hlnx : (spreadU rows K 0 (i + 1)).length = i + 1 := by rw [spreadU_len, if_pos rfl]
          refine ⟨K - (i + 1), _, by omega, Ghost.form [(3, .ms 0 0 (i + 1)), (4, .i (0 : Nat)), (8, .im (.sl (boolss rows))), (9, .i rows.length), (10, .i (0 : Nat)), (15, .im (.sl (bools r))), (16, .i r.length), (17, .i (i + 1 : Nat))] 1 ⟨rfl, rfl, rfl, rfl, rfl, rfl, rfl, rfl, trivial⟩ rfl rfl, i + 1, rfl, by omega, ?_⟩
          rw [hlnx]
          have := spreadU_first rows K i
          rw [hr3, hb3] at this
          rw [← this]
          simp [orBit]
        · have hb3 := hb
          refine Run.skip ?_
          refine End.blk ?_
          refine End.kp [3, 4, 8, 9, 10, 15, 16, 17] ?_
          have fx := And.intro hap2 (And.intro hlt2 (And.intro hl2 (And.intro hs2 (And.intro hg2 (And.intro hin2 (And.intro hbi (And.intro wi (And.intro hkk (And.intro hap (And.intro huu (And.intro (@Int.toNat_natCast) (And.intro (@Int.natCast_nonneg) (And.intro hr4 (And.intro wk (And.intro bools_len (And.intro boolss_len ft))))))))))))))))
          refine Run.go ?_
          refine End.lp ?_
          have hlnx : (spreadU rows K 0 (i + 1)).length = i + 1 := by rw [spreadU_len, if_pos rfl]
          refine ⟨K - (i + 1), _, by omega, Ghost.form [(3, .ms 0 0 (i + 1)), (4, .i (0 : Nat)), (8, .im (.sl (boolss rows))), (9, .i rows.length), (10, .i (0 : Nat)), (15, .im (.sl (bools r))), (16, .i r.length), (17, .i (i + 1 : Nat))] 1 ⟨rfl, rfl, rfl, rfl, rfl, rfl, rfl, rfl, trivial⟩ rfl rfl, i + 1, rfl, by omega, ?_⟩
          rw [hlnx]
          have := spreadU_first rows K i
          rw [hr3, hb3] at this
          rw [← this]
          simp [orBit]
      · have hb2 : ¬ ((i : Int) = ((spreadU rows K k i).length : Nat)) := fun e => by simp [e] at hb
        have hk0 : k ≠ 0 := fun e => by
          rw [hul, if_pos e] at hb2
          exact hb2 rfl
        have hin2 : (spreadU rows K k i).length = K := by rw [hul, if_neg hk0]
        have hg2 : (us (spreadU rows K k i))[i]? = some [.int .u64 (colV rows i k)] := by rw [List.getElem?_map, spreadU_get rows K k i hk0 hin]; rfl
        have hs2 := us_set (spreadU rows K k i) i
        have hlt2 : ((i : Nat) : Int) < ((K : Nat) : Int) := by omega
        refine Run.skip ?_
        refine End.kp [3, 4, 6, 7, 8, 9, 10, 15, 16, 17] ?_
        refine Run.seq ?_
        have fx := And.intro hlt2 (And.intro hs2 (And.intro hg2 (And.intro hin2 (And.intro hbi (And.intro wi (And.intro hkk (And.intro hap (And.intro huu (And.intro (@Int.toNat_natCast) (And.intro (@Int.natCast_nonneg) (And.intro hr4 (And.intro wk (And.intro bools_len (And.intro boolss_len ft))))))))))))))
        refine Run.go ?_
        refine End.kp [3, 4, 6, 8, 9, 10, 15, 16, 17, 29] ?_
        refine Run.cond _ rfl (fun hb => ?_) (fun hb => ?_)
        · have hb3 := hb
          have fx := And.intro hlt2 (And.intro hs2 (And.intro hg2 (And.intro hin2 (And.intro hbi (And.intro wi (And.intro hkk (And.intro hap (And.intro huu (And.intro (@Int.toNat_natCast) (And.intro (@Int.natCast_nonneg) (And.intro hr4 (And.intro wk (And.intro bools_len (And.intro boolss_len ft))))))))))))))
          refine Run.drawA fun K hK => ?_
          refine DOps.sim ?_
          refine DOps.nil (by rfl) (hK _ ?_); clear hK K
          refine End.blk ?_
          refine End.kp [3, 4, 8, 9, 10, 15, 16, 17] ?_
          refine Run.go ?_
          refine End.lp ?_
          have hlnx : (spreadU rows K k (i + 1)).length = K := by rw [spreadU_len, if_neg hk0]
          refine ⟨K - (i + 1), _, by omega, Ghost.form [(3, .ms 0 0 (K)), (4, .i (k : Nat)), (8, .im (.sl (boolss rows))), (9, .i rows.length), (10, .i (k : Nat)), (15, .im (.sl (bools r))), (16, .i r.length), (17, .i (i + 1 : Nat))] 1 ⟨rfl, rfl, rfl, rfl, rfl, rfl, rfl, rfl, trivial⟩ rfl rfl, i + 1, rfl, by omega, ?_⟩
          rw [hlnx]
          have := spreadU_set rows K k i hk0 hin
          rw [hr3, hb3] at this
          rw [← this]
          simp [orBit]
        · have hb3 := hb
          refine Run.skip ?_
          refine End.blk ?_
          refine End.kp [3, 4, 8, 9, 10, 15, 16, 17] ?_
          have fx := And.intro hlt2 (And.intro hs2 (And.intro hg2 (And.intro hin2 (And.intro hbi (And.intro wi (And.intro hkk (And.intro hap (And.intro huu (And.intro (@Int.toNat_natCast) (And.intro (@Int.natCast_nonneg) (And.intro hr4 (And.intro wk (And.intro bools_len (And.intro boolss_len ft))))))))))))))
          refine Run.go ?_
          refine End.lp ?_
          have hlnx : (spreadU rows K k (i + 1)).length = K := by rw [spreadU_len, if_neg hk0]
          refine ⟨K - (i + 1), _, by omega, Ghost.form [(3, .ms 0 0 (K)), (4, .i (k : Nat)), (8, .im (.sl (boolss rows))), (9, .i rows.length), (10, .i (k : Nat)), (15, .im (.sl (bools r))), (16, .i r.length), (17, .i (i + 1 : Nat))] 1 ⟨rfl, rfl, rfl, rfl, rfl, rfl, rfl, rfl, trivial⟩ rfl rfl, i + 1, rfl, by omega, ?_⟩
          rw [hlnx]
          have := spreadU_set rows K k i hk0 hin
          rw [hr3, hb3, show orBit (colV rows i k) k false = colV rows i k from rfl, spreadU_same rows K k i hk0 hin] at this
          rw [← this]
          rfl
    · have hb := of_decide_eq_false hb
      have hiK : i = K := by omega
      subst hiK
      refine Run.exit rfl ?_
      refine End.blk ?_
      refine End.kp [3, 8, 9, 10] ?_
      have fx := And.intro hkk (And.intro hap (And.intro huu (And.intro (@Int.toNat_natCast) (And.intro (@Int.natCast_nonneg) (And.intro hr4 (And.intro wk (And.intro bools_len (And.intro boolss_len ft))))))))
      refine Run.go ?_
      refine End.lp ?_
      refine ⟨rows.length - (k + 1), _, by omega, Ghost.form [(3, .ms 0 0 (((spreadU rows i k i).length))), (8, .im (.sl (boolss rows))), (9, .i rows.length), (10, .i (k + 1 : Nat))] 1 ⟨rfl, rfl, rfl, rfl, trivial⟩ rfl rfl, k + 1, rfl, by omega, ?_⟩
      rw [spreadU_full]
      rfl
  · have hb := of_decide_eq_false hb
    have hkN : k = rows.length := by omega
    subst hkN
    refine Run.exit rfl ?_
    refine End.kp [3] ?_
    refine Run.seq ?_
    refine Run.ghost (Ghost.shut (t := 3) (j := 0) rfl rfl (us_len _)) ?_
    simp only [eput, edel]
    have fx := And.intro bools_len (And.intro boolss_len ft)
    refine Run.go ?_
    refine End.kp [2] ?_
    refine Run.ret (hQ _ _ ⟨.inr rfl, _, rfl, _, rfl, ?_⟩)
    exact ⟨by rw [spreadU_all rows K hne], rfl⟩
end Go.Proofs.YtkmnmokjlpenhaaPi
