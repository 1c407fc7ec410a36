/- Part 2 of the proof: the texts WN, WF, WG, WH, WP, WQ, PNames, one behind the other. Each holds for every input that it names; no condition is hidden. -/
import Derived.Test.YtkmnmokjlpenhaaM1
import Derived.Test.YtkmnmokjlpenhaaPiMerge
/- The walks of Small, Moving, Played, spread; a drawn graph. -/
set_option linter.unusedVariables false
set_option linter.unusedSimpArgs false
set_option maxRecDepth 100000
namespace Go.Proofs.YtkmnmokjlpenhaaPi
set_option maxHeartbeats 2000000
abbrev boolss (l : List (List Bool)) : List (List Im) := l.map fun r => [.sl (bools r)]
theorem boolss_len (l : List (List Bool)) : (boolss l).length = l.length := by simp
def playedV (l : List Int) (k : Nat) (a : Int) (n : Nat) : List (List Bool) × Int := drawN (fun _ b => (valsV l k b, b + k)) a n
theorem playedV_pos (l : List Int) (k : Nat) (a : Int) : ∀ n : Nat, (playedV l k a n).2 = a + k * n
  | 0 => by simp [playedV, drawN]
  | n + 1 => by
    have := playedV_pos l k a n
    have e : (playedV l k a (n + 1)).2 = (playedV l k a n).2 + k := rfl
    rw [e, this, Int.natCast_add, Int.mul_add]
    simp
    omega
theorem playedV_len (l : List Int) (k : Nat) (a : Int) (n : Nat) : (playedV l k a n).1.length = n := drawN_len _ _ _
theorem playedV_row (l : List Int) (k : Nat) (a : Int) (n : Nat) : ∀ r ∈ (playedV l k a n).1, r.length = k := by
  intro r hr
  obtain ⟨i, hi⟩ := List.mem_iff_getElem?.1 hr
  exact drawN_mem _ a (fun _ x => x.length = k) (fun i b => valsV_len l k b) n i r hi
def smallV (l : List Int) (a : Int) (ands : Nat) : LGraph × Int :=
  graphV l (a + 1 + 1 + 1 + 1) (nextV l a 5).toNat (nextV l (a + 1) 4).toNat (nextV l (a + 1 + 1) (ands + 1)).toNat (1 + nextV l (a + 1 + 1 + 1) (4 - 1 + 1)).toNat
def rX (l : List Int) (ins regs : Int) (b : Int) : Int := 2 * (1 + ins + nextV l b regs) + nextV l (b + 1) 2
def mv1 (l : List Int) (ins regs : Int) (x b : Int) : Int × Int := if nextV l b 3 = 0 then (rX l ins regs (b + 1), b + 1 + 1 + 1) else (x, b + 1)
def mvX (l : List Int) (ins regs : Int) (A : List (Int × Int)) (i : Nat) (b : Int) : (Int × Int) × Int :=
  (((mv1 l ins regs (A.getD i (0, 0)).1 b).1, (mv1 l ins regs (A.getD i (0, 0)).2 (mv1 l ins regs (A.getD i (0, 0)).1 b).2).1), (mv1 l ins regs (A.getD i (0, 0)).2 (mv1 l ins regs (A.getD i (0, 0)).1 b).2).2)
theorem mv1_pos (l : List Int) (ins regs x b : Int) : b ≤ (mv1 l ins regs x b).2 ∧ (mv1 l ins regs x b).2 ≤ b + (3 : Nat) := by
  unfold mv1
  split <;> exact ⟨by simp only; omega, by simp only; omega⟩
theorem mvX_pos (l : List Int) (ins regs : Int) (A : List (Int × Int)) (i : Nat) (b : Int) : b ≤ (mvX l ins regs A i b).2 ∧ (mvX l ins regs A i b).2 ≤ b + (6 : Nat) := by
  have h1 := mv1_pos l ins regs (A.getD i (0, 0)).1 b
  have h2 := mv1_pos l ins regs (A.getD i (0, 0)).2 (mv1 l ins regs (A.getD i (0, 0)).1 b).2
  simp only [mvX]
  omega
def movingV (l : List Int) (a : Int) (ands : Nat) : LGraph × Int :=
  let ins := (1 + nextV l a (3 - 1 + 1)).toNat
  let regs := (2 + nextV l (a + 1) (7 - 2 + 1)).toNat
  let G := graphV l (a + 1 + 1 + 1 + 1) ins regs (1 + nextV l (a + 1 + 1) (ands - 1 + 1)).toNat (1 + nextV l (a + 1 + 1 + 1) (3 - 1 + 1)).toNat
  let M := drawN (mvX l ins regs G.1.ands) G.2 G.1.ands.length
  ({ G.1 with ands := M.1 }, M.2)
theorem graphV_pos (l : List Int) (a : Int) (ins regs ands outs : Nat) : a ≤ (graphV l a ins regs ands outs).2 ∧ (graphV l a ins regs ands outs).2 ≤ a + 3 * (ins + regs + outs) + 8 * ands + 5 * regs + 4 * outs ∧ (graphV l a ins regs ands outs).1.inn.length = ins ∧ (graphV l a ins regs ands outs).1.out.length = outs ∧
    (graphV l a ins regs ands outs).1.regs.length = regs ∧ (graphV l a ins regs ands outs).1.ands.length = ands ∧ (graphV l a ins regs ands outs).1.outs.length = outs := by
  obtain ⟨p1, p2, p3⟩ := wordsV_pos l (ins + regs) 0 a
  obtain ⟨q1, q2, q3⟩ := wordsV_pos l outs 0 (wordsV l (ins + regs) 0 a).2
  have h1 := drawN_pos (andX l ((1 + ins + regs : Nat) : Int)) (wordsV l outs 0 (wordsV l (ins + regs) 0 a).2).2 8 (andX_pos l _) ands
  simp only [graphV]
  generalize (drawN (andX l ((1 + ins + regs : Nat) : Int)) (wordsV l outs 0 (wordsV l (ins + regs) 0 a).2).2 ands).2 = a3 at h1
  have h2 := drawN_pos (regX l (((1 + ins + regs : Nat) : Int) + ands) (List.drop ins (wordsV l (ins + regs) 0 a).1)) a3 5 (regX_pos l _ _) regs
  generalize (drawN (regX l (((1 + ins + regs : Nat) : Int) + ands) (List.drop ins (wordsV l (ins + regs) 0 a).1)) a3 regs).2 = a4 at h2
  have h3 := drawN_pos (fun _ b => litX l b (((1 + ins + regs : Nat) : Int) + ands)) a4 4 (fun _ b => litX_pos l b _) outs
  refine ⟨by omega, by omega, by rw [List.length_take]; omega, q3, drawN_len _ _ _, drawN_len _ _ _, drawN_len _ _ _⟩
theorem Small_ok (ands : Nat) (h3 : ands ≤ 99) (l : List Int) (a : Int) (hs : StmOk l a) (hf : a + 20000 < 1099511627776) (up : Frs) (d j : Nat) (hl : fget up d j = some (stm l a)) :
    ACalls Try.prog 47 [.ptr d j 0, .i ands] up fun v u => v = (smallV l a ands).1.pv ∧ u = fset up d j (stm l (smallV l a ands).2) := by
  have hset : ∀ o, fget (fset up d j o) d j = some o := fun o => fget_fset_same _ _ _ _ _ hl
  have hp := hs.pos
  
  have ok : ∀ b : Int, a ≤ b → b ≤ a + 3000 → StmOk l b := fun b h1 h2 => ⟨hs.vals, hs.len, by omega, by omega⟩
  obtain ⟨r1, s1⟩ := nextV_range l a 5 (by omega)
  obtain ⟨r2, s2⟩ := nextV_range l (a + 1) 4 (by omega)
  obtain ⟨r3, s3⟩ := nextV_range l (a + 1 + 1) (ands + 1) (by omega)
  obtain ⟨r4, s4⟩ := nextV_range l (a + 1 + 1 + 1) (4 - 1 + 1) (by omega)
  obtain ⟨ins, e1⟩ : ∃ k : Nat, nextV l a 5 = k := ⟨(nextV l a 5).toNat, by omega⟩
  obtain ⟨regs, e2⟩ : ∃ k : Nat, nextV l (a + 1) 4 = k := ⟨(nextV l (a + 1) 4).toNat, by omega⟩
  obtain ⟨k, e3⟩ : ∃ k : Nat, nextV l (a + 1 + 1) (ands + 1) = k := ⟨(nextV l (a + 1 + 1) (ands + 1)).toNat, by omega⟩
  obtain ⟨outs, e4⟩ : ∃ k : Nat, 1 + nextV l (a + 1 + 1 + 1) (4 - 1 + 1) = k := ⟨(1 + nextV l (a + 1 + 1 + 1) (4 - 1 + 1)).toNat, by omega⟩
  have wa : IntKind.i64.wrap ((ands : Int) + 1) = ands + 1 := wrap64 (by omega)
  have hG : smallV l a ands = graphV l (a + 1 + 1 + 1 + 1) ins regs k outs := by simp only [smallV, e1, e2, e3, e4, Int.toNat_natCast]
  have hal : ((graphV l (a + 1 + 1 + 1 + 1) ins regs k outs).1.ands.map nd).length = k := by rw [nd_len]; exact (graphV_pos l (a + 1 + 1 + 1 + 1) ins regs k outs).2.2.2.2.2.1
  refine ACalls.code Try.func47 rfl 17 rfl (by simp) [.cell 4 51] rfl fun Q hQ => ?_
  simp only [ups, PV.up, argEnv]
  have ft := And.intro ty_3 (And.intro ty_23 (And.intro ty_51 trivial))
  refine Run.seq ?_
  have fx := And.intro e4 (And.intro e3 (And.intro e2 (And.intro e1 (And.intro wa (And.intro hset (And.intro hl ft))))))
  refine Run.go ?_
  refine End.kp [0, 1, 4] ?_
  refine Run.seq ?_
  refine Run.ghost (.spares 1) ?_
  simp only [ASt.pushN, ASt.push, List.append_assoc, List.cons_append, List.nil_append]
  have fx := And.intro e4 (And.intro e3 (And.intro e2 (And.intro e1 (And.intro wa (And.intro hset (And.intro hl ft))))))
  refine Run.region rfl fun K hK => GOps.sim ?_
  refine GOps.call rfl rfl rfl rfl (by kernel_rfl) (ACalls.sim ?_)
  refine (Next_ok l a 5 hs (by omega) _ (d + 1) j hl).mono fun v u hv => ?_
  obtain ⟨rfl, rfl⟩ := hv
  refine ⟨_, _, rfl, GOps.sim ?_⟩
  refine GOps.call rfl rfl rfl rfl (by kernel_rfl) (ACalls.sim ?_)
  refine (Next_ok l (a + 1) 4 (ok _ (by omega) (by omega)) (by omega) _ (d + 1) j (hset _)).mono fun v u hv => ?_
  obtain ⟨rfl, rfl⟩ := hv
  refine ⟨_, _, rfl, GOps.sim ?_⟩
  refine GOps.call rfl rfl rfl rfl (by kernel_rfl) (ACalls.sim ?_)
  refine (Next_ok l (a + 1 + 1) (ands + 1) (ok _ (by omega) (by omega)) (by omega) _ (d + 1) j (hset _)).mono fun v u hv => ?_
  obtain ⟨rfl, rfl⟩ := hv
  refine ⟨_, _, rfl, GOps.sim ?_⟩
  refine GOps.call rfl rfl rfl rfl (by kernel_rfl) (ACalls.sim ?_)
  refine (Range_ok 1 4 (by omega) (by omega) (by omega) l (a + 1 + 1 + 1) (ok _ (by omega) (by omega)) (by omega) _ (d + 1) j (hset _)).mono fun v u hv => ?_
  obtain ⟨rfl, rfl⟩ := hv
  refine ⟨_, _, rfl, GOps.sim ?_⟩
  refine GOps.call rfl rfl rfl rfl (by kernel_rfl) (ACalls.sim ?_)
  refine (Graph_ok ins regs k outs (by omega) (by omega) (by omega) (by omega) l (a + 1 + 1 + 1 + 1) (ok _ (by omega) (by omega)) (by omega) _ (d + 1) j (hset _) 1 rfl).mono fun v u hv => ?_
  obtain ⟨rfl, rfl⟩ := hv
  refine ⟨_, _, rfl, GOps.sim ?_⟩
  refine GOps.done (hK _ ?_); clear hK K
  refine End.move (Ghost.boxShut (j := 0) (i := 3) (r := 1) rfl rfl rfl hal) ?_
  simp only [List.set_cons_zero, List.set_cons_succ]
  refine End.kp [4] ?_
  have fx := And.intro e4 (And.intro e3 (And.intro e2 (And.intro e1 (And.intro wa (And.intro hset (And.intro hl ft))))))
  refine Run.resC hQ ?_
  rw [hG]
  exact ⟨rfl, rfl⟩
theorem r_ok (ins regs : Int) (hi0 : 0 ≤ ins) (hi1 : ins ≤ 1000) (hr0 : 1 ≤ regs) (hr1 : regs ≤ 1000) (k1 k2 k3 : Nat) (l : List Int) (a : Int) (hs : StmOk l a) (hf : a + 1000 < 1099511627776) (up : Frs) (d j : Nat) (hl : fget up (d + 1) j = some (stm l a))
    (hk1 : fget up 0 k1 = some (.box [.i ins])) (hk2 : fget up 0 k2 = some (.box [.ptr (d + 1) j 0])) (hk3 : fget up 0 k3 = some (.box [.i regs])) : ACalls Try.prog 85 [.ptr 0 k1 0, .ptr 0 k2 0, .ptr 0 k3 0] up fun v u => v = .i (rX l ins regs a) ∧ u = fset up (d + 1) j (stm l (a + 1 + 1)) := by
  have hset : ∀ o, fget (fset up (d + 1) j o) (d + 1) j = some o := fun o => fget_fset_same _ _ _ _ _ hl
  have hs2 : ∀ o, fget (fset up (d + 1) j o) 0 k2 = some (.box [.ptr (d + 1) j 0]) := fun o => by rw [fget_fset, if_neg (by omega)]; exact hk2
  have hp := hs.pos
  obtain ⟨r0, r1⟩ := nextV_range l a regs hr0
  obtain ⟨m0, m1⟩ := nextV_range l (a + 1) 2 (by omega)
  have w1 : IntKind.i64.wrap (1 + ins) = 1 + ins := wrap64 (by omega)
  have w2 : IntKind.i64.wrap (1 + ins + nextV l a regs) = 1 + ins + nextV l a regs := wrap64 (by omega)
  have w3 : IntKind.i64.wrap (2 * (1 + ins + nextV l a regs)) = 2 * (1 + ins + nextV l a regs) := wrap64 (by omega)
  have w4 : IntKind.i64.wrap (2 * (1 + ins + nextV l a regs) + nextV l (a + 1) 2) = 2 * (1 + ins + nextV l a regs) + nextV l (a + 1) 2 := wrap64 (by omega)
  refine ACalls.code Try.func85 rfl 14 rfl (by simp) [.tmp 3] rfl fun Q hQ => ?_
  simp only [ups, PV.up, argEnv]
  have ft := And.intro ty_3 (And.intro ty_23 (And.intro ty_62 trivial))
  refine Run.seq ?_
  have fx := And.intro w4 (And.intro w3 (And.intro w2 (And.intro w1 (And.intro hs2 (And.intro hk3 (And.intro hk2 (And.intro hk1 (And.intro hset (And.intro hl ft)))))))))
  refine Run.go ?_
  refine End.kp [0, 1, 2] ?_
  refine Run.seq ?_
  refine Run.drawA fun K hK => ?_
  refine DOps.sim ?_
  refine DOps.call (.i (nextV l a regs)) [((d + 2, j), stm l a)] [((d + 2, j), stm l (a + 1))] rfl rfl rfl rfl (by kernel_rfl) (by simp [Agree, ASt.fr, hl]) (fun u hu => Next_ok l a regs hs (by omega) u (d + 2) j (hu ((d + 2, j), stm l a) (by simp))) ?_
  refine DOps.sim ?_
  refine DOps.call (.i (nextV l (a + 1) 2)) [((d + 2, j), stm l (a + 1))] [((d + 2, j), stm l (a + 1 + 1))] rfl rfl rfl rfl (by kernel_rfl) (by simp [Agree, ASt.fr, hset]) (fun u hu => Next_ok l (a + 1) 2 (hs.plus 1 (by omega) (by omega)) (by omega) u (d + 2) j (hu ((d + 2, j), stm l (a + 1)) (by simp))) ?_
  refine DOps.sim ?_
  refine DOps.nil (by rfl) (hK _ ?_); clear hK K
  refine End.kp [3] ?_
  refine Run.ret (hQ _ _ ⟨.inr rfl, _, rfl, _, rfl, ?_⟩)
  exact ⟨rfl, rfl⟩
theorem Played_ok (n k : Nat) (hn : n ≤ 200) (hk : k ≤ 100) (l : List Int) (a : Int) (hs : StmOk l a) (hf : a + 40000 < 1099511627776) (up : Frs) (d j : Nat) (hl : fget up d j = some (stm l a)) :
    ACalls Try.prog 24 [.ptr d j 0, .i n, .i k] up fun v u => v = .im (.sl (boolss (playedV l k a n).1)) ∧ u = fset up d j (stm l (playedV l k a n).2) := by
  have hset : ∀ o, fget (fset up d j o) d j = some o := fun o => fget_fset_same _ _ _ _ _ hl
  have hp := hs.pos
  refine ACalls.code Try.func24 rfl 19 rfl (by simp) [.tmp 6] rfl fun Q hQ => ?_
  simp only [ups, PV.up, argEnv]
  have ft := And.intro ty_3 (And.intro ty_4 (And.intro ty_23 (And.intro ty_58 (And.intro ty_71 trivial))))
  refine Run.seq ?_
  have fx := And.intro hset (And.intro hl ft)
  refine Run.go ?_
  refine End.kp [0, 1, 2] ?_
  refine Run.seq ?_
  refine Run.go ?_
  refine End.kp [0, 1, 2, 7] ?_
  refine Run.seq ?_
  refine Run.seq ?_
  refine Run.go ?_
  refine End.kp [0, 2, 7, 8, 9] ?_
  refine Run.block ?_
  refine Run.ghost (Ghost.thaw (u := 7) 71 1 (by decide) rfl) ?_
  refine Run.ghost (Ghost.form [(0, .ptr (d + 1) j 0), (2, .i k), (7, .ms 0 0 (0)), (8, .i n), (9, .i (0 : Nat))] 1 ⟨rfl, rfl, rfl, rfl, rfl, trivial⟩ rfl rfl) ?_
  refine Run.loop (fun m s => ∃ i : Nat, m = n - i ∧ i ≤ n ∧ s = ⟨[(0, .ptr (d + 1) j 0), (2, .i k), (7, .ms 0 0 (i)), (8, .i n), (9, .i (i : Nat))], [.row 71 1 (boolss (playedV l k a i).1) 0], fset up d j (stm l (playedV l k a i).2)⟩) n ⟨0, rfl, by omega, by rw [show (playedV l k a 0) = ([], a) from rfl]; simp only; rw [fset_self up d j _ hl]; rfl⟩ fun m s hI => ?_
  obtain ⟨i, rfl, hi, rfl⟩ := hI
  have hsl : (boolss (playedV l k a i).1).length = i := by rw [boolss_len, playedV_len]
  have hpp := playedV_pos l k a i
  have hki : ((k : Int) * i) ≤ 100 * 200 := by
    have h1 : (k : Int) * i ≤ 100 * (i : Int) := Int.mul_le_mul_of_nonneg_right (by omega) (by omega)
    omega
  have hki0 : 0 ≤ (k : Int) * i := Int.mul_nonneg (by omega) (by omega)
  generalize hc : (playedV l k a i).2 = c at hpp
  have hs0 : StmOk l c := ⟨hs.vals, hs.len, by omega, by omega⟩
  have hap : (i + 1) * 24 ≤ 140737488355328 := by omega
  refine Run.seq ?_
  have fx := And.intro hap (And.intro hsl (And.intro hset (And.intro hl ft)))
  refine Run.go ?_
  refine End.kp [0, 2, 7, 8, 9, 10] ?_
  refine Run.seq ?_
  refine Run.cond _ rfl (fun hb => ?_) (fun hb => ?_)
  · have hb := of_decide_eq_true hb
    have hin : i < n := by omega
    have wi := wsucc hin (by omega)
    refine Run.skip ?_
    refine End.kp [0, 2, 7, 8, 9] ?_
    refine Run.seq ?_
    refine Run.block ?_
    have fx := And.intro wi (And.intro hap (And.intro hsl (And.intro hset (And.intro hl ft))))
    refine Run.region rfl fun K hK => GOps.sim ?_
    refine GOps.call rfl rfl rfl rfl (by kernel_rfl) (ACalls.sim ?_)
    refine (Values_ok k (by omega) l c hs0 (by omega) _ (d + 1) j (hset _)).mono fun v u hv => ?_
    obtain ⟨rfl, rfl⟩ := hv
    refine ⟨_, _, rfl, GOps.sim ?_⟩
    refine GOps.done (hK _ ?_); clear hK K
    refine End.blk ?_
    refine End.kp [0, 2, 7, 8, 9] ?_
    refine Run.go ?_
    refine End.lp ?_
    refine ⟨n - (i + 1), _, by omega, Ghost.form [(0, .ptr (d + 1) j 0), (2, .i k), (7, .ms 0 0 ((i + 1))), (8, .i n), (9, .i (i + 1 : Nat))] 1 ⟨rfl, rfl, rfl, rfl, rfl, trivial⟩ rfl rfl, i + 1, rfl, by omega, ?_⟩
    have e1 : playedV l k a (i + 1) = ((playedV l k a i).1 ++ [valsV l k c], c + k) := by rw [← hc]; rfl
    rw [e1]
    simp
  · have hb := of_decide_eq_false hb
    have hiN : i = n := by omega
    subst hiN
    refine Run.exit rfl ?_
    refine End.kp [7] ?_
    refine Run.seq ?_
    refine Run.ghost (Ghost.shut (t := 7) (j := 0) rfl rfl hsl) ?_
    simp only [eput, edel]
    have fx := And.intro hap (And.intro hsl (And.intro hset (And.intro hl ft)))
    refine Run.go ?_
    refine End.kp [6] ?_
    refine Run.ret (hQ _ _ ⟨.inr rfl, _, rfl, _, rfl, ?_⟩)
    exact ⟨rfl, by rw [hc]⟩
def orBit (w : Int) (k : Nat) (b : Bool) : Int := if b then bits .or .u64 w (IntKind.u64.wrap (1 * 2 ^ (min k IntKind.u64.bits))) else w
def colV (rows : List (List Bool)) (i : Nat) : Nat → Int
  | 0 => 0
  | k + 1 => orBit (colV rows i k) k ((rows.getD k []).getD i false)
/-- The words of rows whose first k rows, and the first i bits of the next one, are laid in. -/
def spreadU (rows : List (List Bool)) (K k i : Nat) : List Int := (List.range (if k = 0 then i else K)).map fun q => if q < i then colV rows q (k + 1) else colV rows q k
def spreadV (rows : List (List Bool)) (K : Nat) : List Int := (List.range K).map fun q => colV rows q rows.length
theorem spreadU_len (rows : List (List Bool)) (K k i : Nat) : (spreadU rows K k i).length = if k = 0 then i else K := by simp [spreadU]
theorem spreadU_full (rows : List (List Bool)) (K k : Nat) : spreadU rows K k K = spreadU rows K (k + 1) 0 := by
  unfold spreadU
  rw [if_neg (show ¬ k + 1 = 0 by omega)]
  have : (if k = 0 then K else K) = K := by split <;> rfl
  rw [this]
  refine List.map_congr_left fun q hq => ?_
  rw [if_pos (by simpa using hq), if_neg (by omega)]
theorem spreadU_all (rows : List (List Bool)) (K : Nat) (h : rows ≠ []) : spreadU rows K rows.length 0 = spreadV rows K := by
  unfold spreadU spreadV
  rw [if_neg (by simpa using h)]
  refine List.map_congr_left fun q hq => ?_
  rw [if_neg (by omega)]
theorem spreadU_get (rows : List (List Bool)) (K k i : Nat) (hk : k ≠ 0) (hi : i < K) : (spreadU rows K k i)[i]? = some (colV rows i k) := by
  unfold spreadU
  rw [List.getElem?_map, List.getElem?_range (by rw [if_neg hk]; exact hi)]
  simp
theorem spreadU_set (rows : List (List Bool)) (K k i : Nat) (hk : k ≠ 0) (hi : i < K) : (spreadU rows K k i).set i (orBit (colV rows i k) k ((rows.getD k []).getD i false)) = spreadU rows K k (i + 1) := by
  refine List.ext_getElem? fun q => ?_
  unfold spreadU
  rw [List.getElem?_set]
  simp only [if_neg hk, List.length_map, List.length_range, List.getElem?_map]
  by_cases h : i = q
  · subst h
    rw [if_pos rfl, if_pos hi, List.getElem?_range hi, Option.map_some, if_pos (by omega)]
    rfl
  · rw [if_neg h]
    by_cases hq : q < K
    · rw [List.getElem?_range hq]
      simp only [Option.map_some, Option.some.injEq]
      by_cases h2 : q < i
      · rw [if_pos h2, if_pos (by omega)]
      · rw [if_neg h2, if_neg (by omega)]
    · rw [List.getElem?_eq_none (by simpa using hq)]
      rfl
theorem spreadU_first (rows : List (List Bool)) (K i : Nat) : spreadU rows K 0 i ++ [orBit 0 0 ((rows.getD 0 []).getD i false)] = spreadU rows K 0 (i + 1) := by
  unfold spreadU
  simp only [if_true, List.range_succ, List.map_append, List.map_cons, List.map_nil]
  congr 1
  · refine List.map_congr_left fun q hq => ?_
    have hq : q < i := by simpa using hq
    rw [if_pos hq, if_pos (by omega)]
  · rw [if_pos (by omega)]
    rfl
theorem spreadU_same (rows : List (List Bool)) (K k i : Nat) (hk : k ≠ 0) (hi : i < K) : (spreadU rows K k i).set i (colV rows i k) = spreadU rows K k i := by
  obtain ⟨h, e⟩ := List.getElem?_eq_some_iff.1 (spreadU_get rows K k i hk hi)
  rw [← e, List.set_getElem_self]
theorem us_set (q : List Int) (i : Nat) (x : Int) : (us q).set i [.int .u64 x] = us (q.set i x) := by simp [List.map_set]
theorem boolss_at (q : List (List Bool)) (i : Nat) (h : i < q.length) : ∃ r, q[i]? = some r ∧ r ∈ q ∧ q.getD i [] = r ∧ (boolss q)[i]? = some [.sl (bools r)] :=
  ⟨q[i], List.getElem?_eq_getElem h, List.getElem_mem h, by simp [h], by simp [h]⟩
theorem spread_ok (rows : List (List Bool)) (K : Nat) (hn : rows.length ≤ 64) (hne : rows ≠ []) (hK : K ≤ 1000) (hr : ∀ r ∈ rows, r.length = K) (up : Frs) : ACalls Try.prog 23 [.im (.sl (boolss rows))] up fun v u => v = .im (.sl (us (spreadV rows K))) ∧ u = up := by
  refine ACalls.code Try.func23 rfl 41 rfl (by simp) [.tmp 2] rfl fun Q hQ => ?_
  simp only [ups, PV.up, argEnv]
  have ft := And.intro ty_3 (And.intro ty_4 (And.intro ty_37 (And.intro ty_56 (And.intro ty_58 (And.intro ty_71 trivial)))))
  refine Run.seq ?_
  have fx := And.intro bools_len (And.intro boolss_len ft)
  refine Run.go ?_
  refine End.kp [0] ?_
  refine Run.seq ?_
  refine Run.go ?_
  refine End.kp [0, 3] ?_
  refine Run.seq ?_
  refine Run.seq ?_
  refine Run.go ?_
  refine End.kp [3, 8, 9, 10] ?_
  refine Run.block ?_
  refine Run.ghost (Ghost.thaw (u := 3) 37 1 (by decide) rfl) ?_
  refine Run.ghost (Ghost.form [(3, .ms 0 0 ((spreadU rows K 0 0).length)), (8, .im (.sl (boolss rows))), (9, .i rows.length), (10, .i (0 : Nat))] 1 ⟨rfl, rfl, rfl, rfl, trivial⟩ rfl rfl) ?_
  refine Run.loop (fun m s => ∃ k : Nat, m = rows.length - k ∧ k ≤ rows.length ∧ s = ⟨[(3, .ms 0 0 ((spreadU rows K k 0).length)), (8, .im (.sl (boolss rows))), (9, .i rows.length), (10, .i (k : Nat))], [.row 37 1 (us (spreadU rows K k 0)) 0], up⟩) rows.length ⟨0, rfl, by omega, rfl⟩ fun m s hI => ?_
  obtain ⟨k, rfl, hk, rfl⟩ := hI
  refine Run.seq ?_
  have fx := And.intro bools_len (And.intro boolss_len ft)
  refine Run.go ?_
  refine End.kp [3, 8, 9, 10, 11] ?_
  refine Run.seq ?_
  refine Run.cond _ rfl (fun hb => ?_) (fun hb => ?_)
  · have hb := of_decide_eq_true hb
    have hkn : k < rows.length := by omega
    have wk := wsucc hkn (by omega)
    obtain ⟨r, hr1, hr2, hr3, hr4⟩ := boolss_at rows k hkn
    have hrl := hr r hr2
    refine Run.skip ?_
    refine End.kp [3, 8, 9, 10] ?_
    refine Run.seq ?_
    refine Run.block ?_
    refine Run.seq ?_
    have fx := And.intro (@Int.toNat_natCast) (And.intro (@Int.natCast_nonneg) (And.intro hr4 (And.intro wk (And.intro bools_len (And.intro boolss_len ft)))))
    refine Run.go ?_
    refine End.kp [3, 4, 5, 8, 9, 10] ?_
    refine Run.seq ?_
    refine Run.go ?_
    refine End.kp [3, 4, 8, 9, 10, 15, 16, 17] ?_
    refine Run.block ?_
    refine Run.ghost (Ghost.form [(3, .ms 0 0 ((spreadU rows K k 0).length)), (4, .i (k : Nat)), (8, .im (.sl (boolss rows))), (9, .i rows.length), (10, .i (k : Nat)), (15, .im (.sl (bools r))), (16, .i r.length), (17, .i (0 : Nat))] 1 ⟨rfl, rfl, rfl, rfl, rfl, rfl, rfl, rfl, trivial⟩ rfl rfl) ?_
    refine Run.loop (fun m s => ∃ i : Nat, m = K - i ∧ i ≤ K ∧ s = ⟨[(3, .ms 0 0 ((spreadU rows K k i).length)), (4, .i (k : Nat)), (8, .im (.sl (boolss rows))), (9, .i rows.length), (10, .i (k : Nat)), (15, .im (.sl (bools r))), (16, .i r.length), (17, .i (i : Nat))], [.row 37 1 (us (spreadU rows K k i)) 0], up⟩) K ⟨0, rfl, by omega, rfl⟩ fun m s hI => ?_
    obtain ⟨i, rfl, hi, rfl⟩ := hI
    have hul := spreadU_len rows K k i
    have huu : (us (spreadU rows K k i)).length = (spreadU rows K k i).length := us_len _
    have hap : ((spreadU rows K k i).length + 1) * 8 ≤ 140737488355328 := by rw [hul]; split <;> omega
    have hkk : ¬ ((k : Int) < 0) := by omega
    refine Run.seq ?_
    have fx := And.intro hkk (And.intro hap (And.intro huu (And.intro (@Int.toNat_natCast) (And.intro (@Int.natCast_nonneg) (And.intro hr4 (And.intro wk (And.intro bools_len (And.intro boolss_len ft))))))))
    refine Run.go ?_
    refine End.kp [3, 4, 8, 9, 10, 15, 16, 17, 18] ?_
    refine Run.seq ?_
    refine Run.cond _ rfl (fun hb => ?_) (fun hb => ?_)
    · have hb := of_decide_eq_true hb
      have hin : i < K := by omega
      have wi := wsucc hin (by omega)
      have hbi := bools_get r i (by omega)
      refine Run.skip ?_
      refine End.kp [3, 4, 8, 9, 10, 15, 16, 17] ?_
      refine Run.seq ?_
      refine Run.block ?_
      refine Run.seq ?_
      have fx := And.intro hbi (And.intro wi (And.intro hkk (And.intro hap (And.intro huu (And.intro (@Int.toNat_natCast) (And.intro (@Int.natCast_nonneg) (And.intro hr4 (And.intro wk (And.intro bools_len (And.intro boolss_len ft))))))))))
      refine Run.go ?_
      refine End.kp [3, 4, 6, 7, 8, 9, 10, 15, 16, 17] ?_
      refine Run.seq ?_
      refine Run.seq ?_
      refine Run.go ?_
      refine End.kp [3, 4, 6, 7, 8, 9, 10, 15, 16, 17, 25] ?_
      refine Run.cond _ rfl (fun hb => ?_) (fun hb => ?_)
      · have hb2 := eq_of_beq hb
        have hk0 : k = 0 := by
          rcases Nat.eq_zero_or_pos k with h | h
          · exact h
          · rw [hul, if_neg (by omega)] at hb2
            omega
        subst hk0
        have hin2 : (spreadU rows K 0 i).length = i := by rw [hul, if_pos rfl]
        have hg2 : (us (spreadU rows K 0 i) ++ [[Im.int .u64 0]])[i]? = some [.int .u64 0] := by
          rw [List.getElem?_append_right (by rw [us_len]; omega)]
          simp [hin2]
        have hs2 : ∀ x : Int, (us (spreadU rows K 0 i) ++ [[Im.int .u64 0]]).set i [.int .u64 x] = us (spreadU rows K 0 i ++ [x]) := fun x => by
          rw [List.set_append_right _ _ (by rw [us_len]; omega), us_len, hin2, Nat.sub_self]
          simp
        have hl2 : (us (spreadU rows K 0 i) ++ [[Im.int .u64 0]]).length = i + 1 := by simp [hin2]
        have hlt2 : ((i : Nat) : Int) < ((i + 1 : Nat) : Int) := by omega
        have hap2 : (i + 1) * 8 ≤ 140737488355328 := by omega
        have fx := And.intro hap2 (And.intro hlt2 (And.intro hl2 (And.intro hs2 (And.intro hg2 (And.intro hin2 (And.intro hbi (And.intro wi (And.intro hkk (And.intro hap (And.intro huu (And.intro (@Int.toNat_natCast) (And.intro (@Int.natCast_nonneg) (And.intro hr4 (And.intro wk (And.intro bools_len (And.intro boolss_len ft))))))))))))))))
        refine Run.go ?_
        refine End.kp [3, 4, 6, 7, 8, 9, 10, 15, 16, 17] ?_
        refine Run.seq ?_
        refine Run.go ?_
        refine End.kp [3, 4, 6, 8, 9, 10, 15, 16, 17, 29] ?_
        refine Run.cond _ rfl (fun hb => ?_) (fun hb => ?_)
        · have hb3 := hb
          have fx := And.intro hap2 (And.intro hlt2 (And.intro hl2 (And.intro hs2 (And.intro hg2 (And.intro hin2 (And.intro hbi (And.intro wi (And.intro hkk (And.intro hap (And.intro huu (And.intro (@Int.toNat_natCast) (And.intro (@Int.natCast_nonneg) (And.intro hr4 (And.intro wk (And.intro bools_len (And.intro boolss_len ft))))))))))))))))
          refine Run.drawA fun K hK => ?_
          refine DOps.sim ?_
          refine DOps.nil (by rfl) (hK _ ?_); clear hK K
          refine End.blk ?_
          refine End.kp [3, 4, 8, 9, 10, 15, 16, 17] ?_
          refine Run.go ?_
          refine End.lp ?_
          have hlnx : (spreadU rows K 0 (i + 1)).length = i + 1 := by rw [spreadU_len, if_pos rfl]
          refine ⟨K - (i + 1), _, by omega, Ghost.form [(3, .ms 0 0 (i + 1)), (4, .i (0 : Nat)), (8, .im (.sl (boolss rows))), (9, .i rows.length), (10, .i (0 : Nat)), (15, .im (.sl (bools r))), (16, .i r.length), (17, .i (i + 1 : Nat))] 1 ⟨rfl, rfl, rfl, rfl, rfl, rfl, rfl, rfl, trivial⟩ rfl rfl, i + 1, rfl, by omega, ?_⟩
          rw [hlnx]
          have := spreadU_first rows K i
          rw [hr3, hb3] at this
          rw [← this]
          simp [orBit]
        · have hb3 := hb
          refine Run.skip ?_
          refine End.blk ?_
          refine End.kp [3, 4, 8, 9, 10, 15, 16, 17] ?_
          have fx := And.intro hap2 (And.intro hlt2 (And.intro hl2 (And.intro hs2 (And.intro hg2 (And.intro hin2 (And.intro hbi (And.intro wi (And.intro hkk (And.intro hap (And.intro huu (And.intro (@Int.toNat_natCast) (And.intro (@Int.natCast_nonneg) (And.intro hr4 (And.intro wk (And.intro bools_len (And.intro boolss_len ft))))))))))))))))
          refine Run.go ?_
          refine End.lp ?_
          have hlnx : (spreadU rows K 0 (i + 1)).length = i + 1 := by rw [spreadU_len, if_pos rfl]
          refine ⟨K - (i + 1), _, by omega, Ghost.form [(3, .ms 0 0 (i + 1)), (4, .i (0 : Nat)), (8, .im (.sl (boolss rows))), (9, .i rows.length), (10, .i (0 : Nat)), (15, .im (.sl (bools r))), (16, .i r.length), (17, .i (i + 1 : Nat))] 1 ⟨rfl, rfl, rfl, rfl, rfl, rfl, rfl, rfl, trivial⟩ rfl rfl, i + 1, rfl, by omega, ?_⟩
          rw [hlnx]
          have := spreadU_first rows K i
          rw [hr3, hb3] at this
          rw [← this]
          simp [orBit]
      · have hb2 : ¬ ((i : Int) = ((spreadU rows K k i).length : Nat)) := fun e => by simp [e] at hb
        have hk0 : k ≠ 0 := fun e => by
          rw [hul, if_pos e] at hb2
          exact hb2 rfl
        have hin2 : (spreadU rows K k i).length = K := by rw [hul, if_neg hk0]
        have hg2 : (us (spreadU rows K k i))[i]? = some [.int .u64 (colV rows i k)] := by rw [List.getElem?_map, spreadU_get rows K k i hk0 hin]; rfl
        have hs2 := us_set (spreadU rows K k i) i
        have hlt2 : ((i : Nat) : Int) < ((K : Nat) : Int) := by omega
        refine Run.skip ?_
        refine End.kp [3, 4, 6, 7, 8, 9, 10, 15, 16, 17] ?_
        refine Run.seq ?_
        have fx := And.intro hlt2 (And.intro hs2 (And.intro hg2 (And.intro hin2 (And.intro hbi (And.intro wi (And.intro hkk (And.intro hap (And.intro huu (And.intro (@Int.toNat_natCast) (And.intro (@Int.natCast_nonneg) (And.intro hr4 (And.intro wk (And.intro bools_len (And.intro boolss_len ft))))))))))))))
        refine Run.go ?_
        refine End.kp [3, 4, 6, 8, 9, 10, 15, 16, 17, 29] ?_
        refine Run.cond _ rfl (fun hb => ?_) (fun hb => ?_)
        · have hb3 := hb
          have fx := And.intro hlt2 (And.intro hs2 (And.intro hg2 (And.intro hin2 (And.intro hbi (And.intro wi (And.intro hkk (And.intro hap (And.intro huu (And.intro (@Int.toNat_natCast) (And.intro (@Int.natCast_nonneg) (And.intro hr4 (And.intro wk (And.intro bools_len (And.intro boolss_len ft))))))))))))))
          refine Run.drawA fun K hK => ?_
          refine DOps.sim ?_
          refine DOps.nil (by rfl) (hK _ ?_); clear hK K
          refine End.blk ?_
          refine End.kp [3, 4, 8, 9, 10, 15, 16, 17] ?_
          refine Run.go ?_
          refine End.lp ?_
          have hlnx : (spreadU rows K k (i + 1)).length = K := by rw [spreadU_len, if_neg hk0]
          refine ⟨K - (i + 1), _, by omega, Ghost.form [(3, .ms 0 0 (K)), (4, .i (k : Nat)), (8, .im (.sl (boolss rows))), (9, .i rows.length), (10, .i (k : Nat)), (15, .im (.sl (bools r))), (16, .i r.length), (17, .i (i + 1 : Nat))] 1 ⟨rfl, rfl, rfl, rfl, rfl, rfl, rfl, rfl, trivial⟩ rfl rfl, i + 1, rfl, by omega, ?_⟩
          rw [hlnx]
          have := spreadU_set rows K k i hk0 hin
          rw [hr3, hb3] at this
          rw [← this]
          simp [orBit]
        · have hb3 := hb
          refine Run.skip ?_
          refine End.blk ?_
          refine End.kp [3, 4, 8, 9, 10, 15, 16, 17] ?_
          have fx := And.intro hlt2 (And.intro hs2 (And.intro hg2 (And.intro hin2 (And.intro hbi (And.intro wi (And.intro hkk (And.intro hap (And.intro huu (And.intro (@Int.toNat_natCast) (And.intro (@Int.natCast_nonneg) (And.intro hr4 (And.intro wk (And.intro bools_len (And.intro boolss_len ft))))))))))))))
          refine Run.go ?_
          refine End.lp ?_
          have hlnx : (spreadU rows K k (i + 1)).length = K := by rw [spreadU_len, if_neg hk0]
          refine ⟨K - (i + 1), _, by omega, Ghost.form [(3, .ms 0 0 (K)), (4, .i (k : Nat)), (8, .im (.sl (boolss rows))), (9, .i rows.length), (10, .i (k : Nat)), (15, .im (.sl (bools r))), (16, .i r.length), (17, .i (i + 1 : Nat))] 1 ⟨rfl, rfl, rfl, rfl, rfl, rfl, rfl, rfl, trivial⟩ rfl rfl, i + 1, rfl, by omega, ?_⟩
          rw [hlnx]
          have := spreadU_set rows K k i hk0 hin
          rw [hr3, hb3, show orBit (colV rows i k) k false = colV rows i k from rfl, spreadU_same rows K k i hk0 hin] at this
          rw [← this]
          rfl
    · have hb := of_decide_eq_false hb
      have hiK : i = K := by omega
      subst hiK
      refine Run.exit rfl ?_
      refine End.blk ?_
      refine End.kp [3, 8, 9, 10] ?_
      have fx := And.intro hkk (And.intro hap (And.intro huu (And.intro (@Int.toNat_natCast) (And.intro (@Int.natCast_nonneg) (And.intro hr4 (And.intro wk (And.intro bools_len (And.intro boolss_len ft))))))))
      refine Run.go ?_
      refine End.lp ?_
      refine ⟨rows.length - (k + 1), _, by omega, Ghost.form [(3, .ms 0 0 (((spreadU rows i k i).length))), (8, .im (.sl (boolss rows))), (9, .i rows.length), (10, .i (k + 1 : Nat))] 1 ⟨rfl, rfl, rfl, rfl, trivial⟩ rfl rfl, k + 1, rfl, by omega, ?_⟩
      rw [spreadU_full]
      rfl
  · have hb := of_decide_eq_false hb
    have hkN : k = rows.length := by omega
    subst hkN
    refine Run.exit rfl ?_
    refine End.kp [3] ?_
    refine Run.seq ?_
    refine Run.ghost (Ghost.shut (t := 3) (j := 0) rfl rfl (us_len _)) ?_
    simp only [eput, edel]
    have fx := And.intro bools_len (And.intro boolss_len ft)
    refine Run.go ?_
    refine End.kp [2] ?_
    refine Run.ret (hQ _ _ ⟨.inr rfl, _, rfl, _, rfl, ?_⟩)
    exact ⟨by rw [spreadU_all rows K hne], rfl⟩
end Go.Proofs.YtkmnmokjlpenhaaPi

/- The walks of the tables of netlists: Mask, look, Look, nets. -/
set_option linter.unusedVariables false
set_option linter.unusedSimpArgs false
set_option maxRecDepth 100000
namespace Go.Proofs.YtkmnmokjlpenhaaPi

theorem small_pow : ∀ k : Nat, k ≤ 6 → (2 : Int) ^ k ≤ 64 ∧ (1 : Int) ≤ 2 ^ k := by
  intro k hk
  have : k = 0 ∨ k = 1 ∨ k = 2 ∨ k = 3 ∨ k = 4 ∨ k = 5 ∨ k = 6 := by omega
  rcases this with rfl | rfl | rfl | rfl | rfl | rfl | rfl <;> decide
theorem small_pow2 : ∀ k : Nat, k < 6 → IntKind.u64.wrap (1 * 2 ^ ((2 : Int) ^ k).toNat) = 2 ^ ((2 : Int) ^ k).toNat ∧ IntKind.u64.wrap (2 ^ ((2 : Int) ^ k).toNat - 1) = 2 ^ ((2 : Int) ^ k).toNat - 1 := by
  intro k hk
  have : k = 0 ∨ k = 1 ∨ k = 2 ∨ k = 3 ∨ k = 4 ∨ k = 5 := by omega
  rcases this with rfl | rfl | rfl | rfl | rfl | rfl <;> decide
def lookIns (k : Nat) : List Int → Nat → Int → Int
  | [], _, all => all
  | v :: vs, i, all => lookIns k vs (i + 1) (if bits .and .i64 ((k : Int).fdiv (2 ^ min i IntKind.i64.bits)) 1 == 1 then bits .and .u64 all v else bits .andNot .u64 all v)
def lookOut (table : Int) (ins : List Int) : Nat → Nat → Int → Int
  | 0, _, out => out
  | n + 1, k, out => lookOut table ins n (k + 1) (if bits .and .u64 (table.fdiv (2 ^ min k IntKind.u64.bits)) 1 == 0 then out else bits .or .u64 out (lookIns k ins 0 18446744073709551615))
def lookV (table : Int) (ins : List Int) : Int := lookOut table ins (2 ^ ins.length) 0 0
theorem Mask_ok (k : Nat) (hk : k ≤ 6) (up : Frs) : ACalls Try.prog 80 [.i k] up fun v u => v = .u (2 ^ ((2 : Int) ^ k).toNat - 1) ∧ u = up := by
  have d1 : decide ((k : Int) < 0) = false := decide_eq_false (by omega)
  have d2 : decide ((k : Int) > 6) = false := decide_eq_false (by omega)
  have d3 : ¬ ((k : Int) < 0) := by omega
  refine ACalls.code Try.func80 rfl 17 rfl (by simp) [.tmp 2] rfl fun Q hQ => ?_
  simp only [ups, PV.up, argEnv]
  have ft := And.intro ty_3 (And.intro ty_4 (And.intro ty_37 (And.intro ty_188 trivial)))
  refine Run.seq ?_
  have fx := And.intro d2 (And.intro d1 ft)
  refine Run.go ?_
  refine End.kp [0] ?_
  refine Run.seq ?_
  refine Run.block ?_
  refine Run.seq ?_
  refine Run.go ?_
  refine End.kp [0, 3] ?_
  refine Run.cond _ rfl (fun hb => ?_) (fun hb => ?_)
  · have hb := hb
    simp at hb
  · have hb := hb
    refine Run.seq ?_
    have fx := And.intro d2 (And.intro d1 ft)
    refine Run.go ?_
    refine End.kp [0, 10] ?_
    refine Run.cond _ rfl (fun hb => ?_) (fun hb => ?_)
    · have hb : (k : Int) = 6 := eq_of_beq hb
      refine Run.seq ?_
      have fx := And.intro d2 (And.intro d1 ft)
      refine Run.go ?_
      refine End.kp [2] ?_
      refine Run.ret (hQ _ _ ⟨.inr rfl, _, rfl, _, rfl, ?_⟩)
      have : k = 6 := by omega
      subst this
      exact ⟨rfl, rfl⟩
    · have hb : ¬ (k : Int) = 6 := fun e => by simp [e] at hb
      have hk5 : k < 6 := by omega
      obtain ⟨p1, p2⟩ := small_pow k hk
      obtain ⟨w2, w3⟩ := small_pow2 k hk5
      have hm : min k IntKind.u64.bits = k := by simp only [IntKind.bits]; omega
      have hle : ((2 : Int) ^ k).toNat ≤ 64 := by
        generalize (2 : Int) ^ k = z at p1
        omega
      have hm2 : min ((2 : Int) ^ k).toNat IntKind.u64.bits = ((2 : Int) ^ k).toNat := Nat.min_eq_left (by simp only [IntKind.bits]; exact hle)
      have w1 : IntKind.u64.wrap (1 * 2 ^ k) = 2 ^ k := by rw [Int.one_mul]; exact wrapU (by omega)
      have hp0 : ¬ ((2 : Int) ^ k < 0) := by omega
      refine Run.skip ?_
      refine End.blk ?_
      refine End.kp [0] ?_
      refine Run.seq ?_
      have fx := And.intro hp0 (And.intro w3 (And.intro w2 (And.intro w1 (And.intro hm2 (And.intro hm (And.intro d3 (And.intro d2 (And.intro d1 ft))))))))
      refine Run.go ?_
      refine End.kp [2] ?_
      refine Run.ret (hQ _ _ ⟨.inr rfl, _, rfl, _, rfl, ?_⟩)
      exact ⟨rfl, rfl⟩
theorem look_ok (table : Int) (ins : List Int) (hn : ins.length ≤ 6) (up : Frs) : ACalls Try.prog 135 [.u table, .im (.sl (us ins))] up fun v u => v = .u (lookV table ins) ∧ u = up := by
  obtain ⟨p1, p2⟩ := small_pow ins.length hn
  have hcast : ((2 ^ ins.length : Nat) : Int) = (2 : Int) ^ ins.length := Int.natCast_pow 2 ins.length
  have hm : min ins.length IntKind.i64.bits = ins.length := by simp only [IntKind.bits]; omega
  have wsh : IntKind.i64.wrap (1 * 2 ^ ins.length) = ((2 ^ ins.length : Nat) : Int) := by rw [Int.one_mul, hcast]; exact wrap64 (by omega)
  have hn0 : ¬ ((ins.length : Int) < 0) := by omega
  have hN64 : 2 ^ ins.length ≤ 64 := by omega
  refine ACalls.code Try.func135 rfl 45 rfl (by simp) [.tmp 4] rfl fun Q hQ => ?_
  simp only [ups, PV.up, argEnv]
  have ft := And.intro ty_3 (And.intro ty_4 (And.intro ty_37 (And.intro ty_56 trivial)))
  refine Run.seq ?_
  have fx := And.intro (@Int.toNat_natCast) (And.intro hn0 (And.intro wsh (And.intro hm (And.intro us_len ft))))
  refine Run.go ?_
  refine End.kp [0, 1] ?_
  refine Run.seq ?_
  refine Run.go ?_
  refine End.kp [0, 1, 5] ?_
  refine Run.seq ?_
  refine Run.seq ?_
  refine Run.go ?_
  refine End.kp [0, 1, 5, 12, 13] ?_
  refine Run.block ?_
  refine Run.ghost (Ghost.form [(0, .u table), (1, .im (.sl (us ins))), (5, .u 0), (12, .i ((2 ^ ins.length : Nat) : Int)), (13, .i (0 : Nat))] 0 ⟨rfl, rfl, rfl, rfl, rfl, trivial⟩ rfl rfl) ?_
  refine Run.loop (fun m s => ∃ (k : Nat) (out : Int), m = 2 ^ ins.length - k ∧ k ≤ 2 ^ ins.length ∧ lookOut table ins (2 ^ ins.length - k) k out = lookV table ins ∧ s = ⟨[(0, .u table), (1, .im (.sl (us ins))), (5, .u out), (12, .i ((2 ^ ins.length : Nat) : Int)), (13, .i (k : Nat))], [], up⟩) (2 ^ ins.length) ⟨0, 0, by omega, by omega, rfl, rfl⟩ fun m s hI => ?_
  obtain ⟨k, out, rfl, hk, hL, rfl⟩ := hI
  have hk0 : ¬ ((k : Int) < 0) := by omega
  refine Run.seq ?_
  have fx := And.intro hk0 (And.intro (@Int.toNat_natCast) (And.intro hn0 (And.intro wsh (And.intro hm (And.intro us_len ft)))))
  refine Run.go ?_
  refine End.kp [0, 1, 5, 12, 13, 14] ?_
  refine Run.seq ?_
  refine Run.cond _ rfl (fun hb => ?_) (fun hb => ?_)
  · have hb := of_decide_eq_true hb
    have hkN : k < 2 ^ ins.length := by omega
    have wk := wsucc hkN (by omega)
    have hLs : lookOut table ins (2 ^ ins.length - k) k out = lookOut table ins (2 ^ ins.length - (k + 1)) (k + 1) (if bits .and .u64 (table.fdiv (2 ^ min k IntKind.u64.bits)) 1 == 0 then out else bits .or .u64 out (lookIns k ins 0 18446744073709551615)) := by
      rw [show 2 ^ ins.length - k = 2 ^ ins.length - (k + 1) + 1 by omega]
      rfl
    rw [hLs] at hL
    refine Run.skip ?_
    refine End.kp [0, 1, 5, 12, 13] ?_
    refine Run.seq ?_
    refine Run.block ?_
    refine Run.seq ?_
    have fx := And.intro wk (And.intro hk0 (And.intro (@Int.toNat_natCast) (And.intro hn0 (And.intro wsh (And.intro hm (And.intro us_len ft))))))
    refine Run.go ?_
    refine End.kp [0, 1, 5, 6, 12, 13] ?_
    refine Run.seq ?_
    refine Run.seq ?_
    refine Run.go ?_
    refine End.kp [0, 1, 5, 6, 12, 13, 20] ?_
    refine Run.cond _ rfl (fun hb => ?_) (fun hb => ?_)
    · have hb := hb
      rw [if_pos hb] at hL
      refine Run.exit rfl ?_
      refine End.kp [0, 1, 5, 12, 13] ?_
      have fx := And.intro wk (And.intro hk0 (And.intro (@Int.toNat_natCast) (And.intro hn0 (And.intro wsh (And.intro hm (And.intro us_len ft))))))
      refine Run.go ?_
      refine End.lp ?_
      refine ⟨2 ^ ins.length - (k + 1), _, by omega, Ghost.form [(0, .u table), (1, .im (.sl (us ins))), (5, .u out), (12, .i ((2 ^ ins.length : Nat) : Int)), (13, .i (k + 1 : Nat))] 0 ⟨rfl, rfl, rfl, rfl, rfl, trivial⟩ rfl rfl, k + 1, out, rfl, by omega, hL, rfl⟩
    · have hb := hb
      rw [if_neg (by rw [hb]; simp)] at hL
      refine Run.skip ?_
      refine End.kp [0, 1, 5, 6, 12, 13] ?_
      refine Run.seq ?_
      have fx := And.intro wk (And.intro hk0 (And.intro (@Int.toNat_natCast) (And.intro hn0 (And.intro wsh (And.intro hm (And.intro us_len ft))))))
      refine Run.go ?_
      refine End.kp [0, 1, 5, 6, 7, 12, 13] ?_
      refine Run.seq ?_
      refine Run.seq ?_
      refine Run.go ?_
      refine End.kp [0, 1, 5, 6, 7, 12, 13, 21, 22, 23] ?_
      refine Run.block ?_
      refine Run.ghost (Ghost.form [(0, .u table), (1, .im (.sl (us ins))), (5, .u out), (6, .i (k : Nat)), (7, .u 18446744073709551615), (12, .i ((2 ^ ins.length : Nat) : Int)), (13, .i (k : Nat)), (21, .im (.sl (us ins))), (22, .i ins.length), (23, .i (0 : Nat))] 0 ⟨rfl, rfl, rfl, rfl, rfl, rfl, rfl, rfl, rfl, rfl, trivial⟩ rfl rfl) ?_
      refine Run.loop (fun m s => ∃ (i : Nat) (all : Int), m = ins.length - i ∧ i ≤ ins.length ∧ lookIns k (ins.drop i) i all = lookIns k ins 0 18446744073709551615 ∧ s = ⟨[(0, .u table), (1, .im (.sl (us ins))), (5, .u out), (6, .i (k : Nat)), (7, .u all), (12, .i ((2 ^ ins.length : Nat) : Int)), (13, .i (k : Nat)), (21, .im (.sl (us ins))), (22, .i ins.length), (23, .i (i : Nat))], [], up⟩) ins.length ⟨0, _, by omega, by omega, rfl, rfl⟩ fun m s hI => ?_
      obtain ⟨i, all, rfl, hi, hA, rfl⟩ := hI
      have hi0 : ¬ ((i : Int) < 0) := by omega
      refine Run.seq ?_
      have fx := And.intro hi0 (And.intro wk (And.intro hk0 (And.intro (@Int.toNat_natCast) (And.intro hn0 (And.intro wsh (And.intro hm (And.intro us_len ft)))))))
      refine Run.go ?_
      refine End.kp [0, 1, 5, 6, 7, 12, 13, 21, 22, 23, 24] ?_
      refine Run.seq ?_
      refine Run.cond _ rfl (fun hb => ?_) (fun hb => ?_)
      · have hb := of_decide_eq_true hb
        have hin : i < ins.length := by omega
        have wi := wsucc hin (by omega)
        have hg := us_get ins i hin
        rw [drop_getD ins i 0 hin, lookIns] at hA
        generalize ins.getD i 0 = v at hg hA
        refine Run.skip ?_
        refine End.kp [0, 1, 5, 6, 7, 12, 13, 21, 22, 23] ?_
        refine Run.seq ?_
        refine Run.block ?_
        refine Run.seq ?_
        have fx := And.intro (@Int.natCast_nonneg) (And.intro hg (And.intro wi (And.intro hi0 (And.intro wk (And.intro hk0 (And.intro (@Int.toNat_natCast) (And.intro hn0 (And.intro wsh (And.intro hm (And.intro us_len ft))))))))))
        refine Run.go ?_
        refine End.kp [0, 1, 5, 6, 7, 8, 9, 12, 13, 21, 22, 23] ?_
        refine Run.seq ?_
        refine Run.go ?_
        refine End.kp [0, 1, 5, 6, 7, 9, 12, 13, 21, 22, 23, 32] ?_
        refine Run.cond _ rfl (fun hb => ?_) (fun hb => ?_)
        · have hb := hb
          rw [if_pos hb] at hA
          have fx := And.intro (@Int.natCast_nonneg) (And.intro hg (And.intro wi (And.intro hi0 (And.intro wk (And.intro hk0 (And.intro (@Int.toNat_natCast) (And.intro hn0 (And.intro wsh (And.intro hm (And.intro us_len ft))))))))))
          refine Run.go ?_
          refine End.blk ?_
          refine End.kp [0, 1, 5, 6, 7, 12, 13, 21, 22, 23] ?_
          refine Run.go ?_
          refine End.lp ?_
          refine ⟨ins.length - (i + 1), _, by omega, Ghost.form [(0, .u table), (1, .im (.sl (us ins))), (5, .u out), (6, .i (k : Nat)), (7, .u (bits .and .u64 all v)), (12, .i ((2 ^ ins.length : Nat) : Int)), (13, .i (k : Nat)), (21, .im (.sl (us ins))), (22, .i ins.length), (23, .i (i + 1 : Nat))] 0 ⟨rfl, rfl, rfl, rfl, rfl, rfl, rfl, rfl, rfl, rfl, trivial⟩ rfl rfl, i + 1, _, rfl, by omega, hA, rfl⟩
        · have hb := hb
          rw [if_neg (by rw [hb]; simp)] at hA
          have fx := And.intro (@Int.natCast_nonneg) (And.intro hg (And.intro wi (And.intro hi0 (And.intro wk (And.intro hk0 (And.intro (@Int.toNat_natCast) (And.intro hn0 (And.intro wsh (And.intro hm (And.intro us_len ft))))))))))
          refine Run.go ?_
          refine End.blk ?_
          refine End.kp [0, 1, 5, 6, 7, 12, 13, 21, 22, 23] ?_
          refine Run.go ?_
          refine End.lp ?_
          refine ⟨ins.length - (i + 1), _, by omega, Ghost.form [(0, .u table), (1, .im (.sl (us ins))), (5, .u out), (6, .i (k : Nat)), (7, .u (bits .andNot .u64 all v)), (12, .i ((2 ^ ins.length : Nat) : Int)), (13, .i (k : Nat)), (21, .im (.sl (us ins))), (22, .i ins.length), (23, .i (i + 1 : Nat))] 0 ⟨rfl, rfl, rfl, rfl, rfl, rfl, rfl, rfl, rfl, rfl, trivial⟩ rfl rfl, i + 1, _, rfl, by omega, hA, rfl⟩
      · have hb := of_decide_eq_false hb
        have hiN : i = ins.length := by omega
        subst hiN
        rw [List.drop_length, lookIns] at hA
        rw [← hA] at hL
        refine Run.exit rfl ?_
        refine End.kp [0, 1, 5, 7, 12, 13] ?_
        have fx := And.intro hi0 (And.intro wk (And.intro hk0 (And.intro (@Int.toNat_natCast) (And.intro hn0 (And.intro wsh (And.intro hm (And.intro us_len ft)))))))
        refine Run.go ?_
        refine End.blk ?_
        refine End.kp [0, 1, 5, 12, 13] ?_
        refine Run.go ?_
        refine End.lp ?_
        refine ⟨2 ^ ins.length - (k + 1), _, by omega, Ghost.form [(0, .u table), (1, .im (.sl (us ins))), (5, .u (bits .or .u64 out all)), (12, .i ((2 ^ ins.length : Nat) : Int)), (13, .i (k + 1 : Nat))] 0 ⟨rfl, rfl, rfl, rfl, rfl, trivial⟩ rfl rfl, k + 1, _, rfl, by omega, hL, rfl⟩
  · have hb := of_decide_eq_false hb
    have hkN : k = 2 ^ ins.length := by omega
    subst hkN
    rw [Nat.sub_self, lookOut] at hL
    refine Run.exit rfl ?_
    refine End.kp [5] ?_
    refine Run.seq ?_
    have fx := And.intro hk0 (And.intro (@Int.toNat_natCast) (And.intro hn0 (And.intro wsh (And.intro hm (And.intro us_len ft)))))
    refine Run.go ?_
    refine End.kp [4] ?_
    refine Run.ret (hQ _ _ ⟨.inr rfl, _, rfl, _, rfl, ?_⟩)
    exact ⟨by rw [hL], rfl⟩
theorem Look_ok (table : Int) (ins : List Int) (hn : ins.length ≤ 6) (up : Frs) : ACalls Try.prog 81 [.u table, .im (.sl (us ins))] up fun v u => v = .u (lookV table ins) ∧ u = up := by
  refine ACalls.code Try.func81 rfl 11 rfl (by simp) [.tmp 4] rfl fun Q hQ => ?_
  simp only [ups, PV.up, argEnv]
  have ft := And.intro ty_3 (And.intro ty_4 (And.intro ty_37 (And.intro ty_56 trivial)))
  refine Run.seq ?_
  have fx := And.intro us_len ft
  refine Run.go ?_
  refine End.kp [0, 1] ?_
  refine Run.seq ?_
  refine Run.seq ?_
  refine Run.go ?_
  refine End.kp [0, 1, 7] ?_
  refine Run.cond _ rfl (fun hb => ?_) (fun hb => ?_)
  · have hb := of_decide_eq_true hb
    omega
  · have hb := of_decide_eq_false hb
    refine Run.skip ?_
    refine End.kp [0, 1] ?_
    refine Run.seq ?_
    have fx := And.intro us_len ft
    refine Run.region rfl fun K hK => GOps.sim ?_
    refine GOps.call rfl rfl rfl rfl (by kernel_rfl) (ACalls.sim ?_)
    refine (look_ok table ins hn _).mono fun v u hv => ?_
    obtain ⟨rfl, rfl⟩ := hv
    refine ⟨_, _, rfl, GOps.sim ?_⟩
    refine GOps.done (hK _ ?_); clear hK K
    refine End.kp [4] ?_
    refine Run.ret (hQ _ _ ⟨.inr rfl, _, rfl, _, rfl, ?_⟩)
    exact ⟨rfl, rfl⟩
theorem nets_ok (up : Frs) : ACalls Try.prog 18 [] up fun v u => v = .im (.bool true) ∧ u = up := by
  have hM : (2 : Int) ^ ((2 : Int) ^ 1).toNat - 1 = 3 := by decide
  have hL : lookV 8 [12, 10] = 8 := by decide
  refine ACalls.code Try.func18 rfl 8 rfl (by simp) [.tmp 0] rfl fun Q hQ => ?_
  simp only [ups, PV.up, argEnv]
  have ft := And.intro ty_2 (And.intro ty_3 (And.intro ty_4 (And.intro ty_37 (And.intro ty_56 trivial))))
  refine Run.seq ?_
  have fx := And.intro hL (And.intro hM ft)
  refine Run.go ?_
  refine End.kp [] ?_
  refine Run.seq ?_
  refine Run.region rfl fun K hK => GOps.sim ?_
  refine GOps.call rfl rfl rfl rfl (by kernel_rfl) (ACalls.sim ?_)
  refine (Mask_ok 1 (by decide) _).mono fun v u hv => ?_
  obtain ⟨rfl, rfl⟩ := hv
  refine ⟨_, _, rfl, GOps.sim ?_⟩
  refine GOps.call rfl rfl rfl rfl (by kernel_rfl) (ACalls.sim ?_)
  refine (Look_ok 8 [12, 10] (by decide) _).mono fun v u hv => ?_
  obtain ⟨rfl, rfl⟩ := hv
  refine ⟨_, _, rfl, GOps.sim ?_⟩
  refine GOps.done (hK _ ?_); clear hK K
  refine End.kp [0] ?_
  refine Run.ret (hQ _ _ ⟨.inr rfl, _, rfl, _, rfl, ?_⟩)
  exact ⟨rfl, rfl⟩
end Go.Proofs.YtkmnmokjlpenhaaPi

/- The walks of clones of names, of Name, Names and ends. -/
set_option linter.unusedVariables false
set_option linter.unusedSimpArgs false
set_option maxRecDepth 100000
namespace Go.Proofs.YtkmnmokjlpenhaaPi
theorem CloneS_nil (up : Frs) : ACalls Try.prog 111 [.im (.sl (strs []))] up fun v u => v = .im (.sl (strs [])) ∧ u = up := by
  refine ACalls.code Try.func111 rfl 8 rfl (by simp) [.tmp 2] rfl fun Q hQ => ?_
  simp only [ups, PV.up, argEnv]
  have ft := And.intro ty_4 (And.intro ty_9 (And.intro ty_26 trivial))
  refine Run.seq ?_
  have fx := And.intro (@List.map_nil.{0, 0}) ft
  refine Run.go ?_
  refine End.kp [0] ?_
  refine Run.seq ?_
  refine Run.seq ?_
  refine Run.go ?_
  refine End.kp [0, 4] ?_
  refine Run.cond_any rfl ?_ ?_
  · skip
    refine Run.seq ?_
    have fx := And.intro (@List.map_nil.{0, 0}) ft
    refine Run.go ?_
    refine End.kp [2] ?_
    refine Run.resC hQ ?_
    exact ⟨rfl, rfl⟩
  · skip
    refine Run.skip ?_
    refine End.kp [0] ?_
    refine Run.seq ?_
    have fx := And.intro (@List.map_nil.{0, 0}) ft
    refine Run.go ?_
    refine End.kp [2] ?_
    refine Run.resC hQ ?_
    exact ⟨rfl, rfl⟩
theorem CloneS_cons (x : ByteArray) (xs : List ByteArray) (h : xs.length ≤ 1000000) (up : Frs) : ACalls Try.prog 111 [.im (.sl (strs (x :: xs)))] up fun v u => v = .im (.sl (strs (x :: xs))) ∧ u = up := by
  have hall : (strs xs).all (fun r => r.length == 1) = true := by simp
  have hlen : ((xs.map fun s => [Im.str s]).length + 1) * 16 ≤ 140737488355328 := by rw [List.length_map]; omega
  refine ACalls.code Try.func111 rfl 8 rfl (by simp) [.tmp 2] rfl fun Q hQ => ?_
  simp only [ups, PV.up, argEnv]
  have ft := And.intro ty_4 (And.intro ty_9 (And.intro ty_26 trivial))
  refine Run.seq ?_
  have fx := And.intro hlen (And.intro hall (And.intro (@List.map_cons.{0, 0}) ft))
  refine Run.go ?_
  refine End.kp [0] ?_
  refine Run.seq ?_
  refine Run.seq ?_
  refine Run.go ?_
  refine End.kp [0, 4] ?_
  refine Run.cond _ rfl (fun hb => ?_) (fun hb => ?_)
  · have hb := hb
    simp at hb
  · have hb := hb
    refine Run.skip ?_
    refine End.kp [0] ?_
    refine Run.seq ?_
    have fx := And.intro hlen (And.intro hall (And.intro (@List.map_cons.{0, 0}) ft))
    refine Run.go ?_
    refine End.move (Ghost.shut (t := 2) (j := 0) rfl rfl rfl) ?_
    simp only [eput, edel]
    refine End.kp [2] ?_
    refine Run.ret (hQ _ _ ⟨.inr rfl, _, rfl, _, rfl, ?_⟩)
    exact ⟨rfl, rfl⟩
theorem CloneS_ok (q : List ByteArray) (h : q.length ≤ 1000000) (up : Frs) : ACalls Try.prog 111 [.im (.sl (strs q))] up fun v u => v = .im (.sl (strs q)) ∧ u = up := by
  cases q with
  | nil => exact CloneS_nil up
  | cons x xs => exact CloneS_cons x xs (by simp at h; omega) up
/-- A name that may be: 1 to 128 letters from 33 to 126. -/
structure NameOk (s : ByteArray) : Prop where
  low : 1 ≤ s.size
  high : s.size ≤ 128
  chars : ∀ b ∈ s.data.toList, 33 ≤ b.toNat ∧ b.toNat ≤ 126
theorem byteRows_len (s : ByteArray) : (byteRows s).length = s.size := by simp [byteRows]
theorem byteRows_get (s : ByteArray) (h : NameOk s) (i : Nat) (hi : i < s.size) : ∃ b : Int, 33 ≤ b ∧ b ≤ 126 ∧ (byteRows s)[i]? = some [.int .u8 b] := by
  have hi2 : i < s.data.toList.length := by simpa using hi
  refine ⟨(s.data.toList[i]).toNat, ?_, ?_, ?_⟩
  · have := (h.chars _ (List.getElem_mem hi2)).1; omega
  · have := (h.chars _ (List.getElem_mem hi2)).2; omega
  · simp only [byteRows, List.getElem?_map, List.getElem?_eq_getElem hi2, Option.map_some]
theorem Name_ok (s : ByteArray) (hs : NameOk s) (up : Frs) : ACalls Try.prog 99 [.im (.str s)] up fun v u => v = .im (.bool true) ∧ u = up := by
  have hlow := hs.low
  have hhigh := hs.high
  have d1 : decide ((s.size : Int) < 1) = false := decide_eq_false (by omega)
  have d2 : decide ((s.size : Int) > 128) = false := decide_eq_false (by omega)
  refine ACalls.code Try.func99 rfl 27 rfl (by simp) [.tmp 2] rfl fun Q hQ => ?_
  simp only [ups, PV.up, argEnv]
  have ft := And.intro ty_3 (And.intro ty_4 (And.intro ty_5 (And.intro ty_9 (And.intro ty_165 trivial))))
  refine Run.seq ?_
  have fx := And.intro byteRows_len (And.intro d2 (And.intro d1 ft))
  refine Run.go ?_
  refine End.kp [0] ?_
  refine Run.seq ?_
  refine Run.seq ?_
  refine Run.go ?_
  refine End.kp [0, 12] ?_
  refine Run.cond _ rfl (fun hb => ?_) (fun hb => ?_)
  · have hb := hb
    simp at hb
  · have hb := hb
    refine Run.skip ?_
    refine End.kp [0] ?_
    refine Run.seq ?_
    refine Run.seq ?_
    have fx := And.intro byteRows_len (And.intro d2 (And.intro d1 ft))
    refine Run.go ?_
    refine End.kp [14, 15, 16] ?_
    refine Run.block ?_
    refine Run.ghost (Ghost.form [(14, .im (.sl (byteRows s))), (15, .i s.size), (16, .i (0 : Nat))] 0 ⟨rfl, rfl, rfl, trivial⟩ rfl rfl) ?_
    refine Run.loop (fun m st => ∃ (i : Nat), m = s.size - i ∧ i ≤ s.size ∧ st = ⟨[(14, .im (.sl (byteRows s))), (15, .i s.size), (16, .i (i : Nat))], [], up⟩) s.size ⟨0, rfl, by omega, rfl⟩ fun m st hI => ?_
    obtain ⟨i, rfl, hi, rfl⟩ := hI
    refine Run.seq ?_
    have fx := And.intro byteRows_len (And.intro d2 (And.intro d1 ft))
    refine Run.go ?_
    refine End.kp [14, 15, 16, 17] ?_
    refine Run.seq ?_
    refine Run.cond _ rfl (fun hb => ?_) (fun hb => ?_)
    · have hb := of_decide_eq_true hb
      have hin : i < s.size := by omega
      have wi := wsucc hin (by omega)
      obtain ⟨b, b1, b2, hg⟩ := byteRows_get s hs i hin
      have d3 : decide (b < 33) = false := decide_eq_false (by omega)
      have d4 : decide (b > 126) = false := decide_eq_false (by omega)
      refine Run.skip ?_
      refine End.kp [14, 15, 16] ?_
      refine Run.seq ?_
      refine Run.block ?_
      refine Run.seq ?_
      have fx := And.intro (@Int.toNat_natCast) (And.intro (@Int.natCast_nonneg) (And.intro d4 (And.intro d3 (And.intro hg (And.intro wi (And.intro byteRows_len (And.intro d2 (And.intro d1 ft))))))))
      refine Run.go ?_
      refine End.kp [4, 14, 15, 16] ?_
      refine Run.seq ?_
      refine Run.go ?_
      refine End.kp [14, 15, 16, 25] ?_
      refine Run.cond _ rfl (fun hb => ?_) (fun hb => ?_)
      · have hb := hb
        simp at hb
      · have hb := hb
        refine Run.skip ?_
        refine End.blk ?_
        refine End.kp [14, 15, 16] ?_
        have fx := And.intro (@Int.toNat_natCast) (And.intro (@Int.natCast_nonneg) (And.intro d4 (And.intro d3 (And.intro hg (And.intro wi (And.intro byteRows_len (And.intro d2 (And.intro d1 ft))))))))
        refine Run.go ?_
        refine End.lp ?_
        refine ⟨s.size - (i + 1), _, by omega, Ghost.form [(14, .im (.sl (byteRows s))), (15, .i s.size), (16, .i (i + 1 : Nat))] 0 ⟨rfl, rfl, rfl, trivial⟩ rfl rfl, i + 1, rfl, by omega, rfl⟩
    · have hb := of_decide_eq_false hb
      refine Run.exit rfl ?_
      refine End.kp [] ?_
      refine Run.seq ?_
      have fx := And.intro byteRows_len (And.intro d2 (And.intro d1 ft))
      refine Run.go ?_
      refine End.kp [2] ?_
      refine Run.ret (hQ _ _ ⟨.inr rfl, _, rfl, _, rfl, ?_⟩)
      exact ⟨rfl, rfl⟩
def ents (l : List ByteArray) : List (List Im × Im) := l.map fun s => ([.str s], .int .i64 1)
theorem same_ne (s x : ByteArray) (h : x ≠ s) : sameIm Try.prog 9 (.str s) (.str x) = some false := by
  simp only [sameIm, ty_9, if_true, Option.some.injEq]
  have := mt (MapKept.bytes_beq s x).1 (fun e => h e.symm)
  simpa using this
theorem find_none (s : ByteArray) : ∀ (l : List ByteArray) (i : Nat), s ∉ l → findIm Try.prog 9 (.str s) (ents l) i = some none
  | [], i, _ => rfl
  | x :: xs, i, h => by
    simp only [List.mem_cons, not_or] at h
    simp only [ents, List.map_cons, findIm, same_ne s x (fun e => h.1 e.symm)]
    exact find_none s xs (i + 1) h.2
theorem find_last (s : ByteArray) (v : Im) : ∀ (l : List ByteArray) (i : Nat), s ∉ l → findIm Try.prog 9 (.str s) (ents l ++ [([.str s], v)]) i = some (some (i + l.length, v))
  | [], i, _ => by
    have : sameIm Try.prog 9 (.str s) (.str s) = some true := by
      simp only [sameIm, ty_9, if_true, Option.some.injEq]
      exact (MapKept.bytes_beq s s).2 rfl
    simp only [ents, List.map_nil, List.nil_append, findIm, this, List.length_nil, Nat.add_zero]
  | x :: xs, i, h => by
    simp only [List.mem_cons, not_or] at h
    simp only [ents, List.map_cons, List.cons_append, findIm, same_ne s x (fun e => h.1 e.symm)]
    have := find_last s v xs (i + 1) h.2
    simp only [ents] at this
    rw [this, List.length_cons]
    congr 3
    omega
theorem nodup_take {l : List ByteArray} (h : l.Nodup) (i : Nat) (hi : i < l.length) : l.getD i ByteArray.empty ∉ l.take i := by
  intro hm
  obtain ⟨k, hk, e⟩ := List.getElem_of_mem hm
  have hk2 : k < i := by simp at hk; omega
  rw [List.getElem_take] at e
  have e2 : l.getD i ByteArray.empty = l[i] := by simp [hi]
  rw [e2] at e
  have := (List.getElem_inj h).1 e
  omega
theorem strs_get (l : List ByteArray) (i : Nat) (h : i < l.length) : (strs l)[i]? = some [.str (l.getD i ByteArray.empty)] := by simp [h]
theorem getD_mem {l : List ByteArray} {i : Nat} (h : i < l.length) : l.getD i ByteArray.empty ∈ l := by
  have e2 : l.getD i ByteArray.empty = l[i] := by simp [h]
  rw [e2]
  exact List.getElem_mem h
theorem Names_ok (q : List ByteArray) (hq : q.length ≤ 1000000) (hv : ∀ s ∈ q, NameOk s) (hd : q.Nodup) (up : Frs) : ACalls Try.prog 133 [.im (.sl (strs q))] up fun v u => v = .i 0 ∧ u = up := by
  refine ACalls.code Try.func133 rfl 25 rfl (by simp) [.tmp 2] rfl fun Q hQ => ?_
  simp only [ups, PV.up, argEnv]
  have ft := And.intro ty_3 (And.intro ty_4 (And.intro ty_9 (And.intro ty_26 (And.intro ty_34 (And.intro ty_208 trivial)))))
  refine Run.seq ?_
  have fx := And.intro strs_len ft
  refine Run.go ?_
  refine End.kp [0] ?_
  refine Run.seq ?_
  refine Run.go ?_
  refine End.kp [0, 3] ?_
  refine Run.seq ?_
  refine Run.seq ?_
  refine Run.go ?_
  refine End.kp [3, 7, 8, 9] ?_
  refine Run.block ?_
  refine Run.ghost (Ghost.form [(3, .map 0 0), (7, .im (.sl (strs q))), (8, .i q.length), (9, .i (0 : Nat))] 1 ⟨rfl, rfl, rfl, rfl, trivial⟩ rfl rfl) ?_
  refine Run.loop (fun m st => ∃ (i : Nat), m = q.length - i ∧ i ≤ q.length ∧ st = ⟨[(3, .map 0 0), (7, .im (.sl (strs q))), (8, .i q.length), (9, .i (i : Nat))], [.map (ents (q.take i))], up⟩) q.length ⟨0, rfl, by omega, rfl⟩ fun m st hI => ?_
  obtain ⟨i, rfl, hi, rfl⟩ := hI
  refine Run.seq ?_
  have fx := And.intro strs_len ft
  refine Run.go ?_
  refine End.kp [3, 7, 8, 9, 10] ?_
  refine Run.seq ?_
  refine Run.cond _ rfl (fun hb => ?_) (fun hb => ?_)
  · have hb := of_decide_eq_true hb
    have hin : i < q.length := by omega
    have wi := wsucc hin (by omega)
    have hg := strs_get q i hin
    have hno := nodup_take hd i hin
    have hnm := hv _ (getD_mem hin)
    have htk := take_snoc q i ByteArray.empty hin
    generalize q.getD i ByteArray.empty = s at hg hno hnm htk
    have hf1 := find_none s (q.take i) 0 hno
    have hf2 := find_last s (.int .i64 1) (q.take i) 0 hno
    have w1 : IntKind.i64.wrap (0 + 1) = 1 := by decide
    refine Run.skip ?_
    refine End.kp [3, 7, 8, 9] ?_
    refine Run.seq ?_
    refine Run.block ?_
    refine Run.seq ?_
    have fx := And.intro (@Int.toNat_natCast) (And.intro (@Int.natCast_nonneg) (And.intro w1 (And.intro hf2 (And.intro hf1 (And.intro hg (And.intro wi (And.intro strs_len ft)))))))
    refine Run.go ?_
    refine End.kp [3, 5, 7, 8, 9] ?_
    refine Run.seq ?_
    refine Run.seq ?_
    refine Run.region rfl fun K hK => GOps.sim ?_
    refine GOps.call rfl rfl rfl rfl (by kernel_rfl) (ACalls.sim ?_)
    refine (Name_ok s hnm _).mono fun v u hv => ?_
    obtain ⟨rfl, rfl⟩ := hv
    refine ⟨_, _, rfl, GOps.sim ?_⟩
    refine GOps.done (hK _ ?_); clear hK K
    refine End.kp [3, 5, 7, 8, 9, 15] ?_
    refine Run.cond _ rfl (fun hb => ?_) (fun hb => ?_)
    · have hb := hb
      simp at hb
    · have hb := hb
      refine Run.skip ?_
      refine End.kp [3, 5, 7, 8, 9] ?_
      refine Run.seq ?_
      have fx := And.intro (@Int.toNat_natCast) (And.intro (@Int.natCast_nonneg) (And.intro w1 (And.intro hf2 (And.intro hf1 (And.intro hg (And.intro wi (And.intro strs_len ft)))))))
      refine Run.go ?_
      refine End.kp [3, 5, 7, 8, 9] ?_
      refine Run.seq ?_
      refine Run.go ?_
      refine End.kp [3, 7, 8, 9, 23] ?_
      refine Run.cond _ rfl (fun hb => ?_) (fun hb => ?_)
      · have hb := hb
        simp at hb
      · have hb := hb
        refine Run.skip ?_
        refine End.blk ?_
        refine End.kp [3, 7, 8, 9] ?_
        have fx := And.intro (@Int.toNat_natCast) (And.intro (@Int.natCast_nonneg) (And.intro w1 (And.intro hf2 (And.intro hf1 (And.intro hg (And.intro wi (And.intro strs_len ft)))))))
        refine Run.go ?_
        refine End.lp ?_
        refine ⟨q.length - (i + 1), _, by omega, Ghost.form [(3, .map 0 0), (7, .im (.sl (strs q))), (8, .i q.length), (9, .i (i + 1 : Nat))] 1 ⟨rfl, rfl, rfl, rfl, trivial⟩ rfl rfl, i + 1, rfl, by omega, ?_⟩
        rw [htk]
        simp [ents]
  · have hb := of_decide_eq_false hb
    refine Run.exit rfl ?_
    refine End.kp [] ?_
    refine Run.seq ?_
    have fx := And.intro strs_len ft
    refine Run.go ?_
    refine End.kp [2] ?_
    refine Run.ret (hQ _ _ ⟨.inr rfl, _, rfl, _, rfl, ?_⟩)
    exact ⟨rfl, rfl⟩
end Go.Proofs.YtkmnmokjlpenhaaPi

/- The walks of ends and of clones that go over to the caller. -/
set_option linter.unusedVariables false
set_option linter.unusedSimpArgs false
set_option maxRecDepth 100000
namespace Go.Proofs.YtkmnmokjlpenhaaPi
theorem CloneX_nil (f : List AObj) (rest : Frs) : ACalls Try.prog 111 [.im (.sl (strs []))] (f :: rest) fun v u => v = .ms 0 (f.length + 0) 0 ∧ u = (f ++ [.row 9 1 (strs []) 0]) :: rest := by
  refine ACalls.codeX Try.func111 rfl 8 rfl (by simp) [.tmp 2] rfl fun Q hQ => ?_
  simp only [ups, PV.up, argEnv]
  have ft := And.intro ty_4 (And.intro ty_9 (And.intro ty_26 trivial))
  refine Run.seq ?_
  have fx := And.intro (@List.map_nil.{0, 0}) ft
  refine Run.go ?_
  refine End.kp [0] ?_
  refine Run.seq ?_
  refine Run.seq ?_
  refine Run.go ?_
  refine End.kp [0, 4] ?_
  refine Run.cond_any rfl ?_ ?_
  · skip
    refine Run.seq ?_
    have fx := And.intro (@List.map_nil.{0, 0}) ft
    refine Run.go ?_
    refine End.move (Ghost.thaw (u := 2) 9 1 (by decide) rfl) ?_
    refine End.kp [2] ?_
    refine Run.ret (hQ _ _ ⟨.inr rfl, _, rfl, _, _, rfl, ?_⟩)
    exact ⟨rfl, rfl⟩
  · skip
    refine Run.skip ?_
    refine End.kp [0] ?_
    refine Run.seq ?_
    have fx := And.intro (@List.map_nil.{0, 0}) ft
    refine Run.go ?_
    refine End.kp [2] ?_
    refine Run.ret (hQ _ _ ⟨.inr rfl, _, rfl, _, _, rfl, ?_⟩)
    exact ⟨rfl, rfl⟩
theorem CloneX_cons (x : ByteArray) (xs : List ByteArray) (h : xs.length ≤ 1000000) (f : List AObj) (rest : Frs) : ACalls Try.prog 111 [.im (.sl (strs (x :: xs)))] (f :: rest) fun v u => v = .ms 0 (f.length + 0) (x :: xs).length ∧ u = (f ++ [.row 9 1 (strs (x :: xs)) 0]) :: rest := by
  have hall : (strs xs).all (fun r => r.length == 1) = true := by simp
  have hlen : (xs.length + 1) * 16 ≤ 140737488355328 := by omega
  refine ACalls.codeX Try.func111 rfl 8 rfl (by simp) [.tmp 2] rfl fun Q hQ => ?_
  simp only [ups, PV.up, argEnv]
  have ft := And.intro ty_4 (And.intro ty_9 (And.intro ty_26 trivial))
  refine Run.seq ?_
  have fx := And.intro (@List.length_map.{0, 0}) (And.intro hlen (And.intro hall (And.intro (@List.map_cons.{0, 0}) ft)))
  refine Run.go ?_
  refine End.kp [0] ?_
  refine Run.seq ?_
  refine Run.seq ?_
  refine Run.go ?_
  refine End.kp [0, 4] ?_
  refine Run.cond _ rfl (fun hb => ?_) (fun hb => ?_)
  · have hb := hb
    simp at hb
  · have hb := hb
    refine Run.skip ?_
    refine End.kp [0] ?_
    refine Run.seq ?_
    have fx := And.intro (@List.length_map.{0, 0}) (And.intro hlen (And.intro hall (And.intro (@List.map_cons.{0, 0}) ft)))
    refine Run.go ?_
    refine End.kp [2] ?_
    refine Run.ret (hQ _ _ ⟨.inr rfl, _, rfl, _, _, rfl, ?_⟩)
    exact ⟨rfl, rfl⟩
theorem CloneX_ok (q : List ByteArray) (h : q.length ≤ 1000000) (f : List AObj) (rest : Frs) : ACalls Try.prog 111 [.im (.sl (strs q))] (f :: rest) fun v u => v = .ms 0 (f.length + 0) q.length ∧ u = (f ++ [.row 9 1 (strs q) 0]) :: rest := by
  cases q with
  | nil => exact CloneX_nil f rest
  | cons x xs => exact CloneX_cons x xs (by simp at h; omega) f rest
structure EndsOk (n : LNet) : Prop where
  flops : ∀ f ∈ n.flops, (0 ≤ f.d ∧ f.d < 2 + n.inn.length + n.flops.length + n.gates.length) ∧ 0 ≤ f.en ∧ f.en < 2 + n.inn.length + n.flops.length + n.gates.length
  outs : ∀ k ∈ n.outs, 0 ≤ k ∧ k < 2 + n.inn.length + n.flops.length + n.gates.length
theorem flop_at (l : List LFlop) (i : Nat) (h : i < l.length) : ∃ f, l[i]? = some f ∧ f ∈ l ∧ (l.map LFlop.im)[i]? = some [.str f.name, .int .i64 (-1), .int .i64 f.d, .int .i64 f.en, .bool f.init] :=
  ⟨l[i], by simp [h], List.getElem_mem h, by simp [h]⟩
theorem gate_at (l : List LGate) (i : Nat) (h : i < l.length) : ∃ g, l[i]? = some g ∧ g ∈ l ∧ (l.map LGate.im)[i]? = some [.int .i64 (-1), .int .u64 g.table, .sl (ints g.ins)] :=
  ⟨l[i], by simp [h], List.getElem_mem h, by simp [h]⟩
theorem int_at (l : List Int) (i : Nat) (h : i < l.length) : ∃ x, l[i]? = some x ∧ x ∈ l ∧ (ints l)[i]? = some [.int .i64 x] :=
  ⟨l[i], by simp [h], List.getElem_mem h, by simp [h]⟩
theorem ends_ok (n : LNet) (hn : NetSmall n) (he : EndsOk n) (up : Frs) : ACalls Try.prog 134 [n.pv] up fun v u => v = .i 0 ∧ u = up := by
  have hn2 := hn
  obtain ⟨z1, z2, z3, z4, z5⟩ := hn
  refine ACalls.code Try.func134 rfl 53 rfl (by simp) [.tmp 2] rfl fun Q hQ => ?_
  simp only [ups, PV.up, argEnv]
  have ft := And.intro ty_2 (And.intro ty_3 (And.intro ty_4 (And.intro ty_22 (And.intro ty_27 (And.intro ty_30 (And.intro ty_34 (And.intro ty_78 trivial)))))))
  refine Run.seq ?_
  have fx := And.intro ints_len (And.intro fim_len ft)
  refine Run.go ?_
  refine End.kp [1] ?_
  refine Run.seq ?_
  refine Run.region rfl fun K hK => GOps.sim ?_
  refine GOps.call rfl rfl rfl rfl (by kernel_rfl) (ACalls.sim ?_)
  refine (Nets_ok n hn2 _).mono fun v u hv => ?_
  obtain ⟨rfl, rfl⟩ := hv
  refine ⟨_, _, rfl, GOps.sim ?_⟩
  refine GOps.done (hK _ ?_); clear hK K
  refine End.kp [1, 3] ?_
  refine Run.seq ?_
  refine Run.seq ?_
  refine Run.go ?_
  refine End.kp [1, 3, 11, 12, 13] ?_
  refine Run.block ?_
  refine Run.ghost (Ghost.form [(1, .ptr 0 0 0), (3, .i (2 + n.inn.length + n.flops.length + n.gates.length)), (11, .im (.sl (n.flops.map LFlop.im))), (12, .i n.flops.length), (13, .i (0 : Nat))] 1 ⟨rfl, rfl, rfl, rfl, rfl, trivial⟩ rfl rfl) ?_
  refine Run.loop (fun m st => ∃ (i : Nat), m = n.flops.length - i ∧ i ≤ n.flops.length ∧ st = ⟨[(1, .ptr 0 0 0), (3, .i (2 + n.inn.length + n.flops.length + n.gates.length)), (11, .im (.sl (n.flops.map LFlop.im))), (12, .i n.flops.length), (13, .i (i : Nat))], [.box [.im (.sl (strs n.inn)), .im (.sl (strs n.out)), .im (.sl (n.flops.map LFlop.im)), .im (.sl (n.gates.map LGate.im)), .im (.sl (ints n.outs))]], up⟩) n.flops.length ⟨0, rfl, by omega, rfl⟩ fun m st hI => ?_
  obtain ⟨i, rfl, hi, rfl⟩ := hI
  refine Run.seq ?_
  have fx := And.intro ints_len (And.intro fim_len ft)
  refine Run.go ?_
  refine End.kp [1, 3, 11, 12, 13, 14] ?_
  refine Run.seq ?_
  refine Run.cond _ rfl (fun hb => ?_) (fun hb => ?_)
  · have hb := of_decide_eq_true hb
    have hin : i < n.flops.length := by omega
    have wi := wsucc hin (by omega)
    obtain ⟨f, _, hfm, hg⟩ := flop_at n.flops i hin
    obtain ⟨⟨e1, e2⟩, e3, e4⟩ := he.flops f hfm
    have d1 : decide (f.d < 0) = false := decide_eq_false (by omega)
    have d2 : decide (f.d ≥ 2 + (n.inn.length : Int) + n.flops.length + n.gates.length) = false := decide_eq_false (by omega)
    have d3 : decide (f.en < 0) = false := decide_eq_false (by omega)
    have d4 : decide (f.en ≥ 2 + (n.inn.length : Int) + n.flops.length + n.gates.length) = false := decide_eq_false (by omega)
    refine Run.skip ?_
    refine End.kp [1, 3, 11, 12, 13] ?_
    refine Run.seq ?_
    refine Run.block ?_
    refine Run.seq ?_
    have fx := And.intro (@Int.toNat_natCast) (And.intro (@Int.natCast_nonneg) (And.intro d4 (And.intro d3 (And.intro d2 (And.intro d1 (And.intro hg (And.intro wi (And.intro ints_len (And.intro fim_len ft)))))))))
    refine Run.go ?_
    refine End.kp [1, 3, 5, 11, 12, 13] ?_
    refine Run.seq ?_
    refine Run.go ?_
    refine End.kp [1, 3, 11, 12, 13, 36] ?_
    refine Run.cond _ rfl (fun hb => ?_) (fun hb => ?_)
    · have hb := hb
      simp at hb
    · have hb := hb
      refine Run.skip ?_
      refine End.blk ?_
      refine End.kp [1, 3, 11, 12, 13] ?_
      have fx := And.intro (@Int.toNat_natCast) (And.intro (@Int.natCast_nonneg) (And.intro d4 (And.intro d3 (And.intro d2 (And.intro d1 (And.intro hg (And.intro wi (And.intro ints_len (And.intro fim_len ft)))))))))
      refine Run.go ?_
      refine End.lp ?_
      refine ⟨n.flops.length - (i + 1), _, by omega, Ghost.form [(1, .ptr 0 0 0), (3, .i (2 + n.inn.length + n.flops.length + n.gates.length)), (11, .im (.sl (n.flops.map LFlop.im))), (12, .i n.flops.length), (13, .i (i + 1 : Nat))] 1 ⟨rfl, rfl, rfl, rfl, rfl, trivial⟩ rfl rfl, i + 1, rfl, by omega, rfl⟩
  · have hb := of_decide_eq_false hb
    refine Run.exit rfl ?_
    refine End.kp [1, 3] ?_
    refine Run.seq ?_
    refine Run.seq ?_
    have fx := And.intro ints_len (And.intro fim_len ft)
    refine Run.go ?_
    refine End.kp [3, 39, 40, 41] ?_
    refine Run.block ?_
    refine Run.ghost (Ghost.form [(3, .i (2 + n.inn.length + n.flops.length + n.gates.length)), (39, .im (.sl (ints n.outs))), (40, .i n.outs.length), (41, .i (0 : Nat))] 0 ⟨rfl, rfl, rfl, rfl, trivial⟩ rfl rfl) ?_
    refine Run.loop (fun m st => ∃ (i : Nat), m = n.outs.length - i ∧ i ≤ n.outs.length ∧ st = ⟨[(3, .i (2 + n.inn.length + n.flops.length + n.gates.length)), (39, .im (.sl (ints n.outs))), (40, .i n.outs.length), (41, .i (i : Nat))], [], up⟩) n.outs.length ⟨0, rfl, by omega, rfl⟩ fun m st hI => ?_
    obtain ⟨i, rfl, hi, rfl⟩ := hI
    refine Run.seq ?_
    have fx := And.intro ints_len (And.intro fim_len ft)
    refine Run.go ?_
    refine End.kp [3, 39, 40, 41, 42] ?_
    refine Run.seq ?_
    refine Run.cond _ rfl (fun hb => ?_) (fun hb => ?_)
    · have hb := of_decide_eq_true hb
      have hin : i < n.outs.length := by omega
      have wi := wsucc hin (by omega)
      obtain ⟨f, _, hfm, hg⟩ := int_at n.outs i hin
      obtain ⟨e1, e2⟩ := he.outs f hfm
      have d1 : decide (f < 0) = false := decide_eq_false (by omega)
      have d2 : decide (f ≥ 2 + (n.inn.length : Int) + n.flops.length + n.gates.length) = false := decide_eq_false (by omega)
      refine Run.skip ?_
      refine End.kp [3, 39, 40, 41] ?_
      refine Run.seq ?_
      refine Run.block ?_
      refine Run.seq ?_
      have fx := And.intro (@Int.toNat_natCast) (And.intro (@Int.natCast_nonneg) (And.intro d2 (And.intro d1 (And.intro hg (And.intro wi (And.intro ints_len (And.intro fim_len ft)))))))
      refine Run.go ?_
      refine End.kp [3, 7, 39, 40, 41] ?_
      refine Run.seq ?_
      refine Run.go ?_
      refine End.kp [3, 39, 40, 41, 51] ?_
      refine Run.cond _ rfl (fun hb => ?_) (fun hb => ?_)
      · have hb := hb
        simp at hb
      · have hb := hb
        refine Run.skip ?_
        refine End.blk ?_
        refine End.kp [3, 39, 40, 41] ?_
        have fx := And.intro (@Int.toNat_natCast) (And.intro (@Int.natCast_nonneg) (And.intro d2 (And.intro d1 (And.intro hg (And.intro wi (And.intro ints_len (And.intro fim_len ft)))))))
        refine Run.go ?_
        refine End.lp ?_
        refine ⟨n.outs.length - (i + 1), _, by omega, Ghost.form [(3, .i (2 + n.inn.length + n.flops.length + n.gates.length)), (39, .im (.sl (ints n.outs))), (40, .i n.outs.length), (41, .i (i + 1 : Nat))] 0 ⟨rfl, rfl, rfl, rfl, trivial⟩ rfl rfl, i + 1, rfl, by omega, rfl⟩
    · have hb := of_decide_eq_false hb
      refine Run.exit rfl ?_
      refine End.kp [] ?_
      refine Run.seq ?_
      have fx := And.intro ints_len (And.intro fim_len ft)
      refine Run.go ?_
      refine End.kp [2] ?_
      refine Run.ret (hQ _ _ ⟨.inr rfl, _, rfl, _, rfl, ?_⟩)
      exact ⟨rfl, rfl⟩
end Go.Proofs.YtkmnmokjlpenhaaPi

/- The walks of the checks of graphs: First, before, Check; and of their values. -/
set_option linter.unusedVariables false
set_option linter.unusedSimpArgs false
set_option maxRecDepth 100000
namespace Go.Proofs.YtkmnmokjlpenhaaPi
set_option maxHeartbeats 2000000

structure GSmall (g : LGraph) : Prop where
  inn : g.inn.length ≤ 128
  out : g.out.length ≤ 128
  regs : g.regs.length ≤ 288
  ands : g.ands.length ≤ 4000
  outs : g.outs.length ≤ 128
abbrev firstG (g : LGraph) : Int := 1 + g.inn.length + g.regs.length
abbrev nodesG (g : LGraph) : Int := 1 + g.inn.length + g.regs.length + g.ands.length
structure GraphOk (g : LGraph) : Prop where
  small : GSmall g
  names : ∀ s ∈ g.inn ++ g.regs.map LReg.name, NameOk s
  nodup : (g.inn ++ g.regs.map LReg.name).Nodup
  onames : ∀ s ∈ g.out, NameOk s
  onodup : g.out.Nodup
  olen : g.out.length = g.outs.length
  ands : ∀ (i : Nat) (p : Int × Int), g.ands[i]? = some p → (0 ≤ p.1 ∧ p.1 < 2 * (1 + (g.inn.length : Int) + g.regs.length + i)) ∧ 0 ≤ p.2 ∧ p.2 < 2 * (1 + (g.inn.length : Int) + g.regs.length + i)
  regs : ∀ r ∈ g.regs, 0 ≤ r.next ∧ r.next < 2 * (1 + (g.inn.length : Int) + g.regs.length + g.ands.length)
  outs : ∀ x ∈ g.outs, 0 ≤ x ∧ x < 2 * (1 + (g.inn.length : Int) + g.regs.length + g.ands.length)
theorem reg_at (l : List LReg) (i : Nat) (h : i < l.length) : ∃ r, l[i]? = some r ∧ r ∈ l ∧ (l.map LReg.im)[i]? = some [.str r.name, .int .i64 r.next, .bool r.init] :=
  ⟨l[i], by simp [h], List.getElem_mem h, by simp [h]⟩
theorem node_at (l : List (Int × Int)) (i : Nat) (h : i < l.length) : ∃ p, l[i]? = some p ∧ p ∈ l ∧ (l.map nd)[i]? = some [.int .i64 p.1, .int .i64 p.2] :=
  ⟨l[i], by simp [h], List.getElem_mem h, by simp [h]⟩
theorem tmod2 (x : Int) (h : 0 ≤ x) : x.tmod 2 = x % 2 := Int.tmod_eq_emod_of_nonneg h
theorem tdiv2 (x : Int) (h : 0 ≤ x) (h2 : x ≤ 1000000000) : IntKind.i64.wrap (x.tdiv 2) = x / 2 := by
  rw [Int.tdiv_eq_ediv_of_nonneg h]
  exact wrap64 (by omega)
theorem GFirst_ok (g : LGraph) (hg : GSmall g) (up : Frs) : ACalls Try.prog 120 [g.pv] up fun v u => v = .i (1 + g.inn.length + g.regs.length) ∧ u = up := by
  obtain ⟨z1, z2, z3, z4, z5⟩ := hg
  have w1 : IntKind.i64.wrap (1 + (g.inn.length : Int)) = 1 + (g.inn.length : Int) := wrap64 (by omega)
  have w2 : IntKind.i64.wrap (1 + (g.inn.length : Int) + g.regs.length) = 1 + (g.inn.length : Int) + g.regs.length := wrap64 (by omega)
  refine ACalls.code Try.func120 rfl 11 rfl (by simp) [.tmp 2] rfl fun Q hQ => ?_
  simp only [ups, PV.up, argEnv]
  have ft := And.intro ty_2 (And.intro ty_3 (And.intro ty_9 (And.intro ty_26 (And.intro ty_47 (And.intro ty_51 (And.intro ty_69 trivial))))))
  refine Run.seq ?_
  have fx := And.intro w2 (And.intro w1 (And.intro rim_len (And.intro strs_len ft)))
  refine Run.go ?_
  refine End.kp [1] ?_
  refine Run.seq ?_
  refine Run.go ?_
  refine End.kp [2] ?_
  refine Run.ret (hQ _ _ ⟨.inr rfl, _, rfl, _, rfl, ?_⟩)
  exact ⟨rfl, rfl⟩
theorem before_neg (l n : Int) (h0 : l < 0) (up : Frs) : ACalls Try.prog 137 [.i l, .i n] up fun v u => v = .im (.bool false) ∧ u = up := by
  have d1 : decide (0 ≤ l) = false := decide_eq_false (by omega)
  refine ACalls.code Try.func137 rfl 13 rfl (by simp) [.tmp 4] rfl fun Q hQ => ?_
  simp only [ups, PV.up, argEnv]
  have ft := And.intro ty_3 (And.intro ty_4 (And.intro ty_62 trivial))
  refine Run.seq ?_
  have fx := And.intro (@ge_iff_le Int _) (And.intro d1 ft)
  refine Run.go ?_
  refine End.kp [0, 1] ?_
  refine Run.seq ?_
  refine Run.go ?_
  refine End.kp [4] ?_
  refine Run.ret (hQ _ _ ⟨.inr rfl, _, rfl, _, rfl, ?_⟩)
  exact ⟨rfl, rfl⟩
theorem before_pos (l n : Int) (h0 : 0 ≤ l) (hn : 0 ≤ n) (hn2 : n ≤ 1000000) (up : Frs) : ACalls Try.prog 137 [.i l, .i n] up fun v u => v = .im (.bool (decide (l < 2 * n))) ∧ u = up := by
  have d1 : decide (0 ≤ l) = true := decide_eq_true (by omega)
  have w1 : IntKind.i64.wrap (2 * n) = 2 * n := wrap64 (by omega)
  refine ACalls.code Try.func137 rfl 13 rfl (by simp) [.tmp 4] rfl fun Q hQ => ?_
  simp only [ups, PV.up, argEnv]
  have ft := And.intro ty_3 (And.intro ty_4 (And.intro ty_62 trivial))
  refine Run.seq ?_
  have fx := And.intro (@ge_iff_le Int _) (And.intro w1 (And.intro d1 ft))
  refine Run.go ?_
  refine End.kp [0, 1] ?_
  refine Run.seq ?_
  refine Run.go ?_
  refine End.kp [4] ?_
  refine Run.ret (hQ _ _ ⟨.inr rfl, _, rfl, _, rfl, ?_⟩)
  exact ⟨rfl, rfl⟩
theorem before_ok (l n : Int) (h0 : 0 ≤ l) (h1 : l < 2 * n) (hn2 : n ≤ 1000000) (up : Frs) : ACalls Try.prog 137 [.i l, .i n] up fun v u => v = .im (.bool true) ∧ u = up :=
  (before_pos l n h0 (by omega) hn2 up).mono fun v u ⟨h1', h2⟩ => ⟨by rw [h1']; simp; omega, h2⟩
abbrev gnms (g : LGraph) (i : Nat) : List ByteArray := g.inn ++ (g.regs.take i).map LReg.name
theorem gnms_len (g : LGraph) (i : Nat) (h : i ≤ g.regs.length) : (strs (gnms g i)).length = g.inn.length + i := by simp; omega
theorem gnms_next (g : LGraph) (i : Nat) (f : LReg) (h : g.regs[i]? = some f) : gnms g (i + 1) = gnms g i ++ [f.name] := by simp [gnms, List.take_add_one, h]
theorem Check_ok (g : LGraph) (hg : GraphOk g) (up : Frs) : ACalls Try.prog 86 [g.pv] up fun v u => v = .i 0 ∧ u = up := by
  have hsm := hg.small
  obtain ⟨z1, z2, z3, z4, z5⟩ := hg.small
  have d1 : decide ((g.inn.length : Int) > 128) = false := decide_eq_false (by omega)
  have d2 : decide ((g.out.length : Int) > 128) = false := decide_eq_false (by omega)
  have d3 : decide ((g.regs.length : Int) > 288) = false := decide_eq_false (by omega)
  have d4 : decide ((g.ands.length : Int) > 4000) = false := decide_eq_false (by omega)
  have d5 : ((g.out.length : Int) != g.outs.length) = false := by rw [hg.olen]; simp
  have wn : IntKind.i64.wrap (1 + (g.inn.length : Int) + g.regs.length + g.ands.length) = 1 + (g.inn.length : Int) + g.regs.length + g.ands.length := wrap64 (by omega)
  refine ACalls.code Try.func86 rfl 128 rfl (by simp) [.tmp 2] rfl fun Q hQ => ?_
  simp only [ups, PV.up, argEnv]
  have ft := And.intro ty_2 (And.intro ty_3 (And.intro ty_4 (And.intro ty_9 (And.intro ty_26 (And.intro ty_34 (And.intro ty_47 (And.intro ty_48 (And.intro ty_49 (And.intro ty_51 (And.intro ty_62 (And.intro ty_69 (And.intro ty_137 trivial))))))))))))
  refine Run.seq ?_
  have fx := And.intro d5 (And.intro d4 (And.intro d3 (And.intro d2 (And.intro d1 (And.intro ints_len (And.intro nd_len (And.intro rim_len (And.intro strs_len ft))))))))
  refine Run.go ?_
  refine End.kp [1] ?_
  refine Run.seq ?_
  refine Run.seq ?_
  refine Run.go ?_
  refine End.kp [1, 36] ?_
  refine Run.cond _ rfl (fun hb => ?_) (fun hb => ?_)
  · have hb := hb
    simp at hb
  · have hb := hb
    refine Run.skip ?_
    refine End.kp [1] ?_
    refine Run.seq ?_
    refine Run.seq ?_
    have fx := And.intro d5 (And.intro d4 (And.intro d3 (And.intro d2 (And.intro d1 (And.intro ints_len (And.intro nd_len (And.intro rim_len (And.intro strs_len ft))))))))
    refine Run.go ?_
    refine End.kp [1, 43] ?_
    refine Run.cond _ rfl (fun hb => ?_) (fun hb => ?_)
    · have hb := hb
      simp at hb
    · have hb := hb
      refine Run.skip ?_
      refine End.kp [1] ?_
      refine Run.seq ?_
      have fx := And.intro d5 (And.intro d4 (And.intro d3 (And.intro d2 (And.intro d1 (And.intro ints_len (And.intro nd_len (And.intro rim_len (And.intro strs_len ft))))))))
      refine Run.region rfl fun K hK => GOps.sim ?_
      refine GOps.call rfl rfl rfl rfl (by kernel_rfl) (ACalls.sim ?_)
      refine (CloneX_ok g.inn (by omega) _ _).mono fun v u hv => ?_
      obtain ⟨rfl, rfl⟩ := hv
      refine ⟨_, _, rfl, GOps.sim ?_⟩
      refine GOps.done (hK _ ?_); clear hK K
      refine End.kp [1, 3] ?_
      refine Run.seq ?_
      refine Run.seq ?_
      refine Run.go ?_
      refine End.kp [1, 3, 48, 49, 50] ?_
      refine Run.block ?_
      refine Run.ghost (Ghost.form [(1, .ptr 0 0 0), (3, .ms 0 1 (g.inn.length + 0)), (48, .im (.sl (g.regs.map LReg.im))), (49, .i g.regs.length), (50, .i (0 : Nat))] 2 ⟨rfl, rfl, rfl, rfl, rfl, trivial⟩ rfl rfl) ?_
      refine Run.loop (fun m st => ∃ (i : Nat), m = g.regs.length - i ∧ i ≤ g.regs.length ∧ st = ⟨[(1, .ptr 0 0 0), (3, .ms 0 1 (g.inn.length + i)), (48, .im (.sl (g.regs.map LReg.im))), (49, .i g.regs.length), (50, .i (i : Nat))], [.box [.im (.sl (strs g.inn)), .im (.sl (strs g.out)), .im (.sl (g.regs.map LReg.im)), .im (.sl (g.ands.map nd)), .im (.sl (ints g.outs))], .row 9 1 (strs (gnms g i)) 0], up⟩) g.regs.length ⟨0, rfl, by omega, by simp⟩ fun m st hI => ?_
      obtain ⟨i, rfl, hi, rfl⟩ := hI
      have hsl := gnms_len g i hi
      have hap : (g.inn.length + i + 1) * 16 ≤ 140737488355328 := by omega
      refine Run.seq ?_
      have fx := And.intro hap (And.intro hsl (And.intro d5 (And.intro d4 (And.intro d3 (And.intro d2 (And.intro d1 (And.intro ints_len (And.intro nd_len (And.intro rim_len (And.intro strs_len ft))))))))))
      refine Run.go ?_
      refine End.kp [1, 3, 48, 49, 50, 51] ?_
      refine Run.seq ?_
      refine Run.cond _ rfl (fun hb => ?_) (fun hb => ?_)
      · have hb := of_decide_eq_true hb
        have hin : i < g.regs.length := by omega
        have wi := wsucc hin (by omega)
        obtain ⟨f, hf, hfm, hgt⟩ := reg_at g.regs i hin
        refine Run.skip ?_
        refine End.kp [1, 3, 48, 49, 50] ?_
        refine Run.seq ?_
        refine Run.block ?_
        refine Run.seq ?_
        have fx := And.intro (@Int.toNat_natCast) (And.intro (@Int.natCast_nonneg) (And.intro hgt (And.intro wi (And.intro hap (And.intro hsl (And.intro d5 (And.intro d4 (And.intro d3 (And.intro d2 (And.intro d1 (And.intro ints_len (And.intro nd_len (And.intro rim_len (And.intro strs_len ft))))))))))))))
        refine Run.go ?_
        refine End.kp [1, 3, 5, 48, 49, 50] ?_
        refine Run.go ?_
        refine End.blk ?_
        refine End.kp [1, 3, 48, 49, 50] ?_
        refine Run.go ?_
        refine End.lp ?_
        refine ⟨g.regs.length - (i + 1), _, by omega, Ghost.form [(1, .ptr 0 0 0), (3, .ms 0 1 (g.inn.length + (i + 1))), (48, .im (.sl (g.regs.map LReg.im))), (49, .i g.regs.length), (50, .i (i + 1 : Nat))] 2 ⟨rfl, rfl, rfl, rfl, rfl, trivial⟩ rfl rfl, i + 1, rfl, by omega, ?_⟩
        rw [gnms_next g i f hf]
        simp
      · have hb := of_decide_eq_false hb
        have hiN : i = g.regs.length := by omega
        subst hiN
        have hall : gnms g g.regs.length = g.inn ++ g.regs.map LReg.name := by simp [gnms]
        refine Run.exit rfl ?_
        refine End.kp [1, 3] ?_
        refine Run.seq ?_
        refine Run.seq ?_
        have fx := And.intro hap (And.intro hsl (And.intro d5 (And.intro d4 (And.intro d3 (And.intro d2 (And.intro d1 (And.intro ints_len (And.intro nd_len (And.intro rim_len (And.intro strs_len ft))))))))))
        refine Run.region rfl fun K hK => GOps.sim ?_
        refine GOps.call rfl rfl rfl rfl (by kernel_rfl) (ACalls.sim ?_)
        refine (Names_ok (gnms g g.regs.length) (by rw [hall]; simp; omega) (by rw [hall]; exact hg.names) (by rw [hall]; exact hg.nodup) _).mono fun v u hv => ?_
        obtain ⟨rfl, rfl⟩ := hv
        refine ⟨_, _, rfl, GOps.sim ?_⟩
        refine GOps.done (hK _ ?_); clear hK K
        refine End.kp [1, 6] ?_
        refine Run.seq ?_
        refine Run.go ?_
        refine End.kp [1, 6, 63] ?_
        refine Run.cond _ rfl (fun hb => ?_) (fun hb => ?_)
        · have hb := hb
          simp at hb
        · have hb := hb
          refine Run.skip ?_
          refine End.kp [1] ?_
          refine Run.seq ?_
          refine Run.seq ?_
          have fx := And.intro hap (And.intro hsl (And.intro d5 (And.intro d4 (And.intro d3 (And.intro d2 (And.intro d1 (And.intro ints_len (And.intro nd_len (And.intro rim_len (And.intro strs_len ft))))))))))
          refine Run.region rfl fun K hK => GOps.sim ?_
          refine GOps.call rfl rfl rfl rfl (by kernel_rfl) (ACalls.sim ?_)
          refine (Names_ok g.out (by omega) hg.onames hg.onodup _).mono fun v u hv => ?_
          obtain ⟨rfl, rfl⟩ := hv
          refine ⟨_, _, rfl, GOps.sim ?_⟩
          refine GOps.done (hK _ ?_); clear hK K
          refine End.kp [1, 7] ?_
          refine Run.seq ?_
          refine Run.go ?_
          refine End.kp [1, 7, 69] ?_
          refine Run.cond _ rfl (fun hb => ?_) (fun hb => ?_)
          · have hb := hb
            simp at hb
          · have hb := hb
            refine Run.skip ?_
            refine End.kp [1] ?_
            refine Run.seq ?_
            have fx := And.intro hap (And.intro hsl (And.intro d5 (And.intro d4 (And.intro d3 (And.intro d2 (And.intro d1 (And.intro ints_len (And.intro nd_len (And.intro rim_len (And.intro strs_len ft))))))))))
            refine Run.region rfl fun K hK => GOps.sim ?_
            refine GOps.call rfl rfl rfl rfl (by kernel_rfl) (ACalls.sim ?_)
            refine (GFirst_ok g hsm _).mono fun v u hv => ?_
            obtain ⟨rfl, rfl⟩ := hv
            refine ⟨_, _, rfl, GOps.sim ?_⟩
            refine GOps.done (hK _ ?_); clear hK K
            refine End.kp [1, 8] ?_
            refine Run.seq ?_
            refine Run.seq ?_
            refine Run.go ?_
            refine End.kp [1, 8, 74, 75, 76] ?_
            refine Run.block ?_
            refine Run.ghost (Ghost.form [(1, .ptr 0 0 0), (8, .i (1 + g.inn.length + g.regs.length)), (74, .im (.sl (g.ands.map nd))), (75, .i g.ands.length), (76, .i (0 : Nat))] 1 ⟨rfl, rfl, rfl, rfl, rfl, trivial⟩ rfl rfl) ?_
            refine Run.loop (fun m st => ∃ (i : Nat), m = g.ands.length - i ∧ i ≤ g.ands.length ∧ st = ⟨[(1, .ptr 0 0 0), (8, .i (1 + g.inn.length + g.regs.length)), (74, .im (.sl (g.ands.map nd))), (75, .i g.ands.length), (76, .i (i : Nat))], [.box [.im (.sl (strs g.inn)), .im (.sl (strs g.out)), .im (.sl (g.regs.map LReg.im)), .im (.sl (g.ands.map nd)), .im (.sl (ints g.outs))]], up⟩) g.ands.length ⟨0, rfl, by omega, rfl⟩ fun m st hI => ?_
            obtain ⟨i, rfl, hi, rfl⟩ := hI
            refine Run.seq ?_
            have fx := And.intro hap (And.intro hsl (And.intro d5 (And.intro d4 (And.intro d3 (And.intro d2 (And.intro d1 (And.intro ints_len (And.intro nd_len (And.intro rim_len (And.intro strs_len ft))))))))))
            refine Run.go ?_
            refine End.kp [1, 8, 74, 75, 76, 77] ?_
            refine Run.seq ?_
            refine Run.cond _ rfl (fun hb => ?_) (fun hb => ?_)
            · have hb := of_decide_eq_true hb
              have hin : i < g.ands.length := by omega
              have wi := wsucc hin (by omega)
              obtain ⟨p, hpi, hpm, hp⟩ := node_at g.ands i hin
              obtain ⟨⟨e1, e2⟩, e3, e4⟩ := hg.ands i p hpi
              have wfi : IntKind.i64.wrap (1 + (g.inn.length : Int) + g.regs.length + i) = 1 + (g.inn.length : Int) + g.regs.length + i := wrap64 (by omega)
              refine Run.skip ?_
              refine End.kp [1, 8, 74, 75, 76] ?_
              refine Run.seq ?_
              refine Run.block ?_
              refine Run.seq ?_
              have fx := And.intro (@Int.toNat_natCast) (And.intro (@Int.natCast_nonneg) (And.intro wfi (And.intro hp (And.intro wi (And.intro hap (And.intro hsl (And.intro d5 (And.intro d4 (And.intro d3 (And.intro d2 (And.intro d1 (And.intro ints_len (And.intro nd_len (And.intro rim_len (And.intro strs_len ft)))))))))))))))
              refine Run.go ?_
              refine End.kp [1, 8, 9, 10, 74, 75, 76] ?_
              refine Run.seq ?_
              refine Run.region rfl fun K hK => GOps.sim ?_
              refine GOps.call rfl rfl rfl rfl (by kernel_rfl) (ACalls.sim ?_)
              refine (before_ok p.1 (1 + g.inn.length + g.regs.length + i) e1 e2 (by omega) _).mono fun v u hv => ?_
              obtain ⟨rfl, rfl⟩ := hv
              refine ⟨_, _, rfl, GOps.sim ?_⟩
              refine GOps.call rfl rfl rfl rfl (by kernel_rfl) (ACalls.sim ?_)
              refine (before_ok p.2 (1 + g.inn.length + g.regs.length + i) e3 e4 (by omega) _).mono fun v u hv => ?_
              obtain ⟨rfl, rfl⟩ := hv
              refine ⟨_, _, rfl, GOps.sim ?_⟩
              refine GOps.done (hK _ ?_); clear hK K
              refine End.kp [1, 8, 74, 75, 76, 96] ?_
              refine Run.cond _ rfl (fun hb => ?_) (fun hb => ?_)
              · have hb := hb
                simp at hb
              · have hb := hb
                refine Run.skip ?_
                refine End.blk ?_
                refine End.kp [1, 8, 74, 75, 76] ?_
                have fx := And.intro (@Int.toNat_natCast) (And.intro (@Int.natCast_nonneg) (And.intro wfi (And.intro hp (And.intro wi (And.intro hap (And.intro hsl (And.intro d5 (And.intro d4 (And.intro d3 (And.intro d2 (And.intro d1 (And.intro ints_len (And.intro nd_len (And.intro rim_len (And.intro strs_len ft)))))))))))))))
                refine Run.go ?_
                refine End.lp ?_
                refine ⟨g.ands.length - (i + 1), _, by omega, Ghost.form [(1, .ptr 0 0 0), (8, .i (1 + g.inn.length + g.regs.length)), (74, .im (.sl (g.ands.map nd))), (75, .i g.ands.length), (76, .i (i + 1 : Nat))] 1 ⟨rfl, rfl, rfl, rfl, rfl, trivial⟩ rfl rfl, i + 1, rfl, by omega, rfl⟩
            · have hb := of_decide_eq_false hb
              refine Run.exit rfl ?_
              refine End.kp [1, 8] ?_
              refine Run.seq ?_
              have fx := And.intro wn (And.intro hap (And.intro hsl (And.intro d5 (And.intro d4 (And.intro d3 (And.intro d2 (And.intro d1 (And.intro ints_len (And.intro nd_len (And.intro rim_len (And.intro strs_len ft)))))))))))
              refine Run.go ?_
              refine End.kp [1, 8] ?_
              refine Run.seq ?_
              refine Run.seq ?_
              refine Run.go ?_
              refine End.kp [1, 8, 104, 105, 106] ?_
              refine Run.block ?_
              refine Run.ghost (Ghost.form [(1, .ptr 0 0 0), (8, .i (1 + g.inn.length + g.regs.length + g.ands.length)), (104, .im (.sl (g.regs.map LReg.im))), (105, .i g.regs.length), (106, .i (0 : Nat))] 1 ⟨rfl, rfl, rfl, rfl, rfl, trivial⟩ rfl rfl) ?_
              refine Run.loop (fun m st => ∃ (i : Nat), m = g.regs.length - i ∧ i ≤ g.regs.length ∧ st = ⟨[(1, .ptr 0 0 0), (8, .i (1 + g.inn.length + g.regs.length + g.ands.length)), (104, .im (.sl (g.regs.map LReg.im))), (105, .i g.regs.length), (106, .i (i : Nat))], [.box [.im (.sl (strs g.inn)), .im (.sl (strs g.out)), .im (.sl (g.regs.map LReg.im)), .im (.sl (g.ands.map nd)), .im (.sl (ints g.outs))]], up⟩) g.regs.length ⟨0, rfl, by omega, rfl⟩ fun m st hI => ?_
              obtain ⟨i, rfl, hi, rfl⟩ := hI
              refine Run.seq ?_
              have fx := And.intro wn (And.intro hap (And.intro hsl (And.intro d5 (And.intro d4 (And.intro d3 (And.intro d2 (And.intro d1 (And.intro ints_len (And.intro nd_len (And.intro rim_len (And.intro strs_len ft)))))))))))
              refine Run.go ?_
              refine End.kp [1, 8, 104, 105, 106, 107] ?_
              refine Run.seq ?_
              refine Run.cond _ rfl (fun hb => ?_) (fun hb => ?_)
              · have hb := of_decide_eq_true hb
                have hin : i < g.regs.length := by omega
                have wi := wsucc hin (by omega)
                obtain ⟨f, hf, hfm, hgt⟩ := reg_at g.regs i hin
                obtain ⟨e1, e2⟩ := hg.regs f hfm
                refine Run.skip ?_
                refine End.kp [1, 8, 104, 105, 106] ?_
                refine Run.seq ?_
                refine Run.block ?_
                refine Run.seq ?_
                have fx := And.intro (@Int.toNat_natCast) (And.intro (@Int.natCast_nonneg) (And.intro hgt (And.intro wi (And.intro wn (And.intro hap (And.intro hsl (And.intro d5 (And.intro d4 (And.intro d3 (And.intro d2 (And.intro d1 (And.intro ints_len (And.intro nd_len (And.intro rim_len (And.intro strs_len ft)))))))))))))))
                refine Run.go ?_
                refine End.kp [1, 8, 12, 104, 105, 106] ?_
                refine Run.seq ?_
                refine Run.region rfl fun K hK => GOps.sim ?_
                refine GOps.call rfl rfl rfl rfl (by kernel_rfl) (ACalls.sim ?_)
                refine (before_ok f.next (1 + g.inn.length + g.regs.length + g.ands.length) e1 e2 (by omega) _).mono fun v u hv => ?_
                obtain ⟨rfl, rfl⟩ := hv
                refine ⟨_, _, rfl, GOps.sim ?_⟩
                refine GOps.done (hK _ ?_); clear hK K
                refine End.kp [1, 8, 104, 105, 106, 114] ?_
                refine Run.cond _ rfl (fun hb => ?_) (fun hb => ?_)
                · have hb := hb
                  simp at hb
                · have hb := hb
                  refine Run.skip ?_
                  refine End.blk ?_
                  refine End.kp [1, 8, 104, 105, 106] ?_
                  have fx := And.intro (@Int.toNat_natCast) (And.intro (@Int.natCast_nonneg) (And.intro hgt (And.intro wi (And.intro wn (And.intro hap (And.intro hsl (And.intro d5 (And.intro d4 (And.intro d3 (And.intro d2 (And.intro d1 (And.intro ints_len (And.intro nd_len (And.intro rim_len (And.intro strs_len ft)))))))))))))))
                  refine Run.go ?_
                  refine End.lp ?_
                  refine ⟨g.regs.length - (i + 1), _, by omega, Ghost.form [(1, .ptr 0 0 0), (8, .i (1 + g.inn.length + g.regs.length + g.ands.length)), (104, .im (.sl (g.regs.map LReg.im))), (105, .i g.regs.length), (106, .i (i + 1 : Nat))] 1 ⟨rfl, rfl, rfl, rfl, rfl, trivial⟩ rfl rfl, i + 1, rfl, by omega, rfl⟩
              · have hb := of_decide_eq_false hb
                refine Run.exit rfl ?_
                refine End.kp [1, 8] ?_
                refine Run.seq ?_
                refine Run.seq ?_
                have fx := And.intro wn (And.intro hap (And.intro hsl (And.intro d5 (And.intro d4 (And.intro d3 (And.intro d2 (And.intro d1 (And.intro ints_len (And.intro nd_len (And.intro rim_len (And.intro strs_len ft)))))))))))
                refine Run.go ?_
                refine End.kp [8, 117, 118, 119] ?_
                refine Run.block ?_
                refine Run.ghost (Ghost.form [(8, .i (1 + g.inn.length + g.regs.length + g.ands.length)), (117, .im (.sl (ints g.outs))), (118, .i g.outs.length), (119, .i (0 : Nat))] 0 ⟨rfl, rfl, rfl, rfl, trivial⟩ rfl rfl) ?_
                refine Run.loop (fun m st => ∃ (i : Nat), m = g.outs.length - i ∧ i ≤ g.outs.length ∧ st = ⟨[(8, .i (1 + g.inn.length + g.regs.length + g.ands.length)), (117, .im (.sl (ints g.outs))), (118, .i g.outs.length), (119, .i (i : Nat))], [], up⟩) g.outs.length ⟨0, rfl, by omega, rfl⟩ fun m st hI => ?_
                obtain ⟨i, rfl, hi, rfl⟩ := hI
                refine Run.seq ?_
                have fx := And.intro wn (And.intro hap (And.intro hsl (And.intro d5 (And.intro d4 (And.intro d3 (And.intro d2 (And.intro d1 (And.intro ints_len (And.intro nd_len (And.intro rim_len (And.intro strs_len ft)))))))))))
                refine Run.go ?_
                refine End.kp [8, 117, 118, 119, 120] ?_
                refine Run.seq ?_
                refine Run.cond _ rfl (fun hb => ?_) (fun hb => ?_)
                · have hb := of_decide_eq_true hb
                  have hin : i < g.outs.length := by omega
                  have wi := wsucc hin (by omega)
                  obtain ⟨x, _, hxm, hx⟩ := int_at g.outs i hin
                  obtain ⟨e1, e2⟩ := hg.outs x hxm
                  refine Run.skip ?_
                  refine End.kp [8, 117, 118, 119] ?_
                  refine Run.seq ?_
                  refine Run.block ?_
                  refine Run.seq ?_
                  have fx := And.intro (@Int.toNat_natCast) (And.intro (@Int.natCast_nonneg) (And.intro hx (And.intro wi (And.intro wn (And.intro hap (And.intro hsl (And.intro d5 (And.intro d4 (And.intro d3 (And.intro d2 (And.intro d1 (And.intro ints_len (And.intro nd_len (And.intro rim_len (And.intro strs_len ft)))))))))))))))
                  refine Run.go ?_
                  refine End.kp [8, 14, 117, 118, 119] ?_
                  refine Run.seq ?_
                  refine Run.region rfl fun K hK => GOps.sim ?_
                  refine GOps.call rfl rfl rfl rfl (by kernel_rfl) (ACalls.sim ?_)
                  refine (before_ok x (1 + g.inn.length + g.regs.length + g.ands.length) e1 e2 (by omega) _).mono fun v u hv => ?_
                  obtain ⟨rfl, rfl⟩ := hv
                  refine ⟨_, _, rfl, GOps.sim ?_⟩
                  refine GOps.done (hK _ ?_); clear hK K
                  refine End.kp [8, 117, 118, 119, 126] ?_
                  refine Run.cond _ rfl (fun hb => ?_) (fun hb => ?_)
                  · have hb := hb
                    simp at hb
                  · have hb := hb
                    refine Run.skip ?_
                    refine End.blk ?_
                    refine End.kp [8, 117, 118, 119] ?_
                    have fx := And.intro (@Int.toNat_natCast) (And.intro (@Int.natCast_nonneg) (And.intro hx (And.intro wi (And.intro wn (And.intro hap (And.intro hsl (And.intro d5 (And.intro d4 (And.intro d3 (And.intro d2 (And.intro d1 (And.intro ints_len (And.intro nd_len (And.intro rim_len (And.intro strs_len ft)))))))))))))))
                    refine Run.go ?_
                    refine End.lp ?_
                    refine ⟨g.outs.length - (i + 1), _, by omega, Ghost.form [(8, .i (1 + g.inn.length + g.regs.length + g.ands.length)), (117, .im (.sl (ints g.outs))), (118, .i g.outs.length), (119, .i (i + 1 : Nat))] 0 ⟨rfl, rfl, rfl, rfl, trivial⟩ rfl rfl, i + 1, rfl, by omega, rfl⟩
                · have hb := of_decide_eq_false hb
                  refine Run.exit rfl ?_
                  refine End.kp [] ?_
                  refine Run.seq ?_
                  have fx := And.intro wn (And.intro hap (And.intro hsl (And.intro d5 (And.intro d4 (And.intro d3 (And.intro d2 (And.intro d1 (And.intro ints_len (And.intro nd_len (And.intro rim_len (And.intro strs_len ft)))))))))))
                  refine Run.go ?_
                  refine End.kp [2] ?_
                  refine Run.ret (hQ _ _ ⟨.inr rfl, _, rfl, _, rfl, ?_⟩)
                  exact ⟨rfl, rfl⟩
abbrev vnot (x : Int) : Int := bits .xor .u64 (if IntKind.u64.signed = true then -1 else IntKind.u64.max) x
def ofV (v : List Int) (l : Int) : Int := if l % 2 = 1 then vnot (v.getD (l / 2).toNat 0) else v.getD (l / 2).toNat 0
def valsA : List (Int × Int) → List Int → List Int
  | [], v => v
  | p :: ps, v => valsA ps (v ++ [bits .and .u64 (ofV v p.1) (ofV v p.2)])
def graphVals (g : LGraph) (inn st : List Int) : List Int := valsA g.ands ([0] ++ inn ++ st)
theorem valsA_len : ∀ (ps : List (Int × Int)) (v : List Int), (valsA ps v).length = v.length + ps.length
  | [], v => by simp [valsA]
  | p :: ps, v => by
    rw [valsA, valsA_len ps]
    simp
    omega
theorem graphVals_len (g : LGraph) (inn st : List Int) (h1 : inn.length = g.inn.length) (h2 : st.length = g.regs.length) : (graphVals g inn st).length = 1 + g.inn.length + g.regs.length + g.ands.length := by
  rw [graphVals, valsA_len]
  simp
  omega
def outsG (g : LGraph) (v : List Int) : List Int := g.outs.map (ofV v)
def nextsG (g : LGraph) (v : List Int) : List Int := g.regs.map fun r => ofV v r.next
theorem node_drop (l : List (Int × Int)) (i : Nat) (p : Int × Int) (h : l[i]? = some p) : l.drop i = p :: l.drop (i + 1) := by
  obtain ⟨hi, rfl⟩ := List.getElem?_eq_some_iff.1 h
  exact List.drop_eq_getElem_cons hi
theorem int_snoc (l : List Int) (i : Nat) (r : Int) (h : l[i]? = some r) : l.take (i + 1) = l.take i ++ [r] := by simp [List.take_add_one, h]
theorem reg_snoc (l : List LReg) (i : Nat) (r : LReg) (h : l[i]? = some r) : l.take (i + 1) = l.take i ++ [r] := by simp [List.take_add_one, h]
theorem of_ok (v : List Int) (l : Int) (h0 : 0 ≤ l) (h1 : l < 2 * (v.length : Int)) (hv2 : v.length ≤ 100000) (up : Frs) : ACalls Try.prog 140 [.im (.sl (us v)), .i l] up fun r u => r = .u (ofV v l) ∧ u = up := by
  have hm := tmod2 l h0
  have hd := tdiv2 l h0 (by omega)
  have hd0 : 0 ≤ l / 2 := by omega
  have hdl : l / 2 < (v.length : Int) := by omega
  have hv := us_get v (l / 2).toNat (by omega)
  refine ACalls.code Try.func140 rfl 19 rfl (by simp) [.tmp 4] rfl fun Q hQ => ?_
  simp only [ups, PV.up, argEnv]
  have ft := And.intro ty_4 (And.intro ty_37 (And.intro ty_56 (And.intro ty_62 trivial)))
  refine Run.seq ?_
  have fx := And.intro hv (And.intro hdl (And.intro hd0 (And.intro hd (And.intro hm (And.intro us_len ft)))))
  refine Run.go ?_
  refine End.kp [0, 1] ?_
  refine Run.seq ?_
  refine Run.seq ?_
  refine Run.go ?_
  refine End.kp [0, 1, 7] ?_
  refine Run.cond _ rfl (fun hb => ?_) (fun hb => ?_)
  · have hb := eq_of_beq hb
    refine Run.seq ?_
    have fx := And.intro hv (And.intro hdl (And.intro hd0 (And.intro hd (And.intro hm (And.intro us_len ft)))))
    refine Run.go ?_
    refine End.kp [4] ?_
    refine Run.ret (hQ _ _ ⟨.inr rfl, _, rfl, _, rfl, ?_⟩)
    exact ⟨by simp [ofV, hb], rfl⟩
  · have hb : ¬ l % 2 = 1 := fun e => by simp [e] at hb
    refine Run.skip ?_
    refine End.kp [0, 1] ?_
    refine Run.seq ?_
    have fx := And.intro hv (And.intro hdl (And.intro hd0 (And.intro hd (And.intro hm (And.intro us_len ft)))))
    refine Run.go ?_
    refine End.kp [4] ?_
    refine Run.ret (hQ _ _ ⟨.inr rfl, _, rfl, _, rfl, ?_⟩)
    exact ⟨by simp [ofV, hb], rfl⟩
theorem of_ms (v : List Int) (l : Int) (h0 : 0 ≤ l) (h1 : l < 2 * (v.length : Int)) (hv2 : v.length ≤ 100000) (up : Frs) (d j n fz : Nat) (hn : n = v.length) (hl : fget up d j = some (.row 37 1 (us v) fz)) : ACalls Try.prog 140 [.ms d j n, .i l] up fun r u => r = .u (ofV v l) ∧ u = up := by
  subst hn
  have hm := tmod2 l h0
  have hd := tdiv2 l h0 (by omega)
  have hd0 : 0 ≤ l / 2 := by omega
  have hdl : l / 2 < (v.length : Int) := by omega
  have hv := us_get v (l / 2).toNat (by omega)
  refine ACalls.code Try.func140 rfl 19 rfl (by simp) [.tmp 4] rfl fun Q hQ => ?_
  simp only [ups, PV.up, argEnv]
  have ft := And.intro ty_4 (And.intro ty_37 (And.intro ty_56 (And.intro ty_62 trivial)))
  refine Run.seq ?_
  have fx := And.intro hv (And.intro hdl (And.intro hd0 (And.intro hd (And.intro hm (And.intro hl (And.intro us_len ft))))))
  refine Run.go ?_
  refine End.kp [0, 1] ?_
  refine Run.seq ?_
  refine Run.seq ?_
  refine Run.go ?_
  refine End.kp [0, 1, 7] ?_
  refine Run.cond _ rfl (fun hb => ?_) (fun hb => ?_)
  · have hb := eq_of_beq hb
    refine Run.seq ?_
    have fx := And.intro hv (And.intro hdl (And.intro hd0 (And.intro hd (And.intro hm (And.intro hl (And.intro us_len ft))))))
    refine Run.go ?_
    refine End.kp [4] ?_
    refine Run.ret (hQ _ _ ⟨.inr rfl, _, rfl, _, rfl, ?_⟩)
    exact ⟨by simp [ofV, hb], rfl⟩
  · have hb : ¬ l % 2 = 1 := fun e => by simp [e] at hb
    refine Run.skip ?_
    refine End.kp [0, 1] ?_
    refine Run.seq ?_
    have fx := And.intro hv (And.intro hdl (And.intro hd0 (And.intro hd (And.intro hm (And.intro hl (And.intro us_len ft))))))
    refine Run.go ?_
    refine End.kp [4] ?_
    refine Run.ret (hQ _ _ ⟨.inr rfl, _, rfl, _, rfl, ?_⟩)
    exact ⟨by simp [ofV, hb], rfl⟩
theorem gvalues_ok (g : LGraph) (hg : GraphOk g) (inn st : List Int) (h1 : inn.length = g.inn.length) (h2 : st.length = g.regs.length) (up : Frs) : ACalls Try.prog 89 [g.pv, .im (.sl (us inn)), .im (.sl (us st))] up fun v u => v = .im (.sl (us (graphVals g inn st))) ∧ u = up := by
  obtain ⟨z1, z2, z3, z4, z5⟩ := hg.small
  have a1 : (1 + inn.length) * 8 ≤ 140737488355328 := by omega
  have a2 : (1 + inn.length + st.length) * 8 ≤ 140737488355328 := by omega
  have b1 : inn.length + 1 = 1 + inn.length := by omega
  have al : ∀ l : List Int, (us l).all (fun r => r.length == 1) = true := fun l => by simp
  refine ACalls.code Try.func89 rfl 37 rfl (by simp) [.tmp 6] rfl fun Q hQ => ?_
  simp only [ups, PV.up, argEnv]
  have ft := And.intro ty_3 (And.intro ty_37 (And.intro ty_48 (And.intro ty_51 (And.intro ty_56 (And.intro ty_62 (And.intro ty_137 trivial))))))
  refine Run.seq ?_
  have fx := And.intro (@List.length_append.{0}) (And.intro b1 (And.intro al (And.intro a2 (And.intro a1 (And.intro ints_len (And.intro nd_len (And.intro us_len ft)))))))
  refine Run.go ?_
  refine End.kp [1, 2, 3] ?_
  refine Run.seq ?_
  refine Run.go ?_
  refine End.kp [2, 3, 7] ?_
  refine Run.seq ?_
  refine Run.go ?_
  refine End.kp [3, 7] ?_
  refine Run.seq ?_
  refine Run.seq ?_
  refine Run.go ?_
  refine End.kp [7, 17, 18, 19] ?_
  refine Run.block ?_
  refine Run.ghost (Ghost.form [(7, .ms 0 1 (1 + inn.length + st.length)), (17, .im (.sl (g.ands.map nd))), (18, .i g.ands.length), (19, .i (0 : Nat))] 2 ⟨rfl, rfl, rfl, rfl, trivial⟩ rfl rfl) ?_
  refine Run.loop (fun m s => ∃ (i : Nat) (v : List Int), m = g.ands.length - i ∧ i ≤ g.ands.length ∧ v.length = 1 + inn.length + st.length + i ∧ valsA (g.ands.drop i) v = graphVals g inn st ∧ s = ⟨[(7, .ms 0 1 v.length), (17, .im (.sl (g.ands.map nd))), (18, .i g.ands.length), (19, .i (i : Nat))], [.box [.im (.sl (strs g.inn)), .im (.sl (strs g.out)), .im (.sl (g.regs.map LReg.im)), .im (.sl (g.ands.map nd)), .im (.sl (ints g.outs))], .row 37 1 (us v) 0], up⟩) g.ands.length ⟨0, [0] ++ inn ++ st, rfl, by omega, by simp; omega, rfl, ?_⟩ fun m s hI => ?_
  · simp
    omega
  obtain ⟨i, v, rfl, hi, hvl, hV, rfl⟩ := hI
  have hav : (v.length + 1) * 8 ≤ 140737488355328 := by omega
  refine Run.seq ?_
  have fx := And.intro hav (And.intro (@List.length_append.{0}) (And.intro b1 (And.intro al (And.intro a2 (And.intro a1 (And.intro ints_len (And.intro nd_len (And.intro us_len ft))))))))
  refine Run.go ?_
  refine End.kp [7, 17, 18, 19, 20] ?_
  refine Run.seq ?_
  refine Run.cond _ rfl (fun hb => ?_) (fun hb => ?_)
  · have hb := of_decide_eq_true hb
    have hin : i < g.ands.length := by omega
    have wi := wsucc hin (by omega)
    obtain ⟨p, hpi, hpm, hp⟩ := node_at g.ands i hin
    obtain ⟨⟨e1, e2⟩, e3, e4⟩ := hg.ands i p hpi
    have e2' : p.1 < 2 * (v.length : Int) := by omega
    have e4' : p.2 < 2 * (v.length : Int) := by omega
    rw [node_drop _ i p hpi, valsA] at hV
    refine Run.skip ?_
    refine End.kp [7, 17, 18, 19] ?_
    refine Run.seq ?_
    refine Run.block ?_
    refine Run.seq ?_
    have fx := And.intro (@Int.toNat_natCast) (And.intro (@Int.natCast_nonneg) (And.intro hp (And.intro wi (And.intro hav (And.intro (@List.length_append.{0}) (And.intro b1 (And.intro al (And.intro a2 (And.intro a1 (And.intro ints_len (And.intro nd_len (And.intro us_len ft))))))))))))
    refine Run.go ?_
    refine End.kp [7, 9, 17, 18, 19] ?_
    refine Run.ghost (.spares 1) ?_
    simp only [ASt.pushN, ASt.push, List.append_assoc, List.cons_append, List.nil_append]
    refine Run.drawA fun K hK => ?_
    refine DOps.sim ?_
    refine DOps.call (.u (ofV v p.1)) [((0, 1), .row 37 1 (us v) 0)] [] rfl rfl rfl rfl (by kernel_rfl) (by simp [Agree, ASt.fr]) (fun u hu => of_ms v p.1 e1 e2' (by omega) u 0 1 v.length 0 rfl (hu ((0, 1), .row 37 1 (us v) 0) (by simp))) ?_
    refine DOps.sim ?_
    refine DOps.call (.u (ofV v p.2)) [((0, 1), .row 37 1 (us v) 0)] [] rfl rfl rfl rfl (by kernel_rfl) (by simp [Agree, ASt.fr]) (fun u hu => of_ms v p.2 e3 e4' (by omega) u 0 1 v.length 0 rfl (hu ((0, 1), .row 37 1 (us v) 0) (by simp))) ?_
    refine DOps.sim ?_
    refine DOps.nil (by rfl) (hK _ ?_); clear hK K
    refine End.blk ?_
    refine End.kp [7, 17, 18, 19] ?_
    refine Run.go ?_
    refine End.lp ?_
    refine ⟨g.ands.length - (i + 1), _, by omega, Ghost.form [(7, .ms 0 1 (v.length + 1)), (17, .im (.sl (g.ands.map nd))), (18, .i g.ands.length), (19, .i (i + 1 : Nat))] 2 ⟨rfl, rfl, rfl, rfl, trivial⟩ rfl rfl, i + 1, v ++ [bits .and .u64 (ofV v p.1) (ofV v p.2)], rfl, by omega, by simp; omega, hV, ?_⟩
    simp
  · have hb := of_decide_eq_false hb
    have hiN : i = g.ands.length := by omega
    subst hiN
    rw [List.drop_length, valsA] at hV
    refine Run.exit rfl ?_
    refine End.kp [7] ?_
    refine Run.seq ?_
    refine Run.ghost (Ghost.shut (t := 7) (j := 1) rfl rfl (us_len v)) ?_
    simp only [eput, edel]
    have fx := And.intro hav (And.intro (@List.length_append.{0}) (And.intro b1 (And.intro al (And.intro a2 (And.intro a1 (And.intro ints_len (And.intro nd_len (And.intro us_len ft))))))))
    refine Run.go ?_
    refine End.kp [6] ?_
    refine Run.ret (hQ _ _ ⟨.inr rfl, _, rfl, _, rfl, ?_⟩)
    exact ⟨by rw [hV], rfl⟩
theorem GValues_ok (g : LGraph) (hg : GraphOk g) (inn st : List Int) (h1 : inn.length = g.inn.length) (h2 : st.length = g.regs.length) (up : Frs) : ACalls Try.prog 25 [g.pv, .im (.sl (us inn)), .im (.sl (us st))] up fun v u => v = .tup [.im (.sl (us (graphVals g inn st))), .i 0] ∧ u = up := by
  have d1 : ((inn.length : Int) != g.inn.length) = false := by rw [h1]; simp
  have d2 : ((st.length : Int) != g.regs.length) = false := by rw [h2]; simp
  refine ACalls.code Try.func25 rfl 32 rfl (by simp) [.tmp 6, .tmp 7] rfl fun Q hQ => ?_
  simp only [ups, PV.up, argEnv]
  have ft := And.intro ty_2 (And.intro ty_3 (And.intro ty_4 (And.intro ty_9 (And.intro ty_26 (And.intro ty_34 (And.intro ty_37 (And.intro ty_47 (And.intro ty_51 (And.intro ty_56 (And.intro ty_69 trivial))))))))))
  refine Run.seq ?_
  have fx := And.intro d2 (And.intro d1 (And.intro rim_len (And.intro strs_len (And.intro us_len ft))))
  refine Run.go ?_
  refine End.kp [1, 2, 3] ?_
  refine Run.seq ?_
  refine Run.seq ?_
  refine Run.region rfl fun K hK => GOps.sim ?_
  refine GOps.call rfl rfl rfl rfl (by kernel_rfl) (ACalls.sim ?_)
  refine (Check_ok g hg _).mono fun v u hv => ?_
  obtain ⟨rfl, rfl⟩ := hv
  refine ⟨_, _, rfl, GOps.sim ?_⟩
  refine GOps.done (hK _ ?_); clear hK K
  refine End.kp [1, 2, 3, 8] ?_
  refine Run.seq ?_
  refine Run.go ?_
  refine End.kp [1, 2, 3, 8, 12] ?_
  refine Run.cond _ rfl (fun hb => ?_) (fun hb => ?_)
  · have hb := hb
    simp at hb
  · have hb := hb
    refine Run.skip ?_
    refine End.kp [1, 2, 3] ?_
    refine Run.seq ?_
    refine Run.seq ?_
    have fx := And.intro d2 (And.intro d1 (And.intro rim_len (And.intro strs_len (And.intro us_len ft))))
    refine Run.go ?_
    refine End.kp [1, 2, 3, 27] ?_
    refine Run.cond _ rfl (fun hb => ?_) (fun hb => ?_)
    · have hb := hb
      simp at hb
    · have hb := hb
      refine Run.skip ?_
      refine End.kp [1, 2, 3] ?_
      refine Run.seq ?_
      have fx := And.intro d2 (And.intro d1 (And.intro rim_len (And.intro strs_len (And.intro us_len ft))))
      refine Run.region rfl fun K hK => GOps.sim ?_
      refine GOps.call rfl rfl rfl rfl (by kernel_rfl) (ACalls.sim ?_)
      refine (gvalues_ok g hg inn st h1 h2 _).mono fun v u hv => ?_
      obtain ⟨rfl, rfl⟩ := hv
      refine ⟨_, _, rfl, GOps.sim ?_⟩
      refine GOps.done (hK _ ?_); clear hK K
      refine End.kp [6, 7] ?_
      refine Run.ret (hQ _ _ ⟨.inr rfl, _, rfl, _, rfl, ?_⟩)
      exact ⟨rfl, rfl⟩
end Go.Proofs.YtkmnmokjlpenhaaPi

/- The walks of results, Words, Eval, Init, Run of graphs. -/
set_option linter.unusedVariables false
set_option linter.unusedSimpArgs false
set_option maxRecDepth 100000
namespace Go.Proofs.YtkmnmokjlpenhaaPi
set_option maxHeartbeats 2000000
abbrev lanes0 (l : List Bool) : List Int := l.map fun b => if b = true then 1 else 0
abbrev laneB (l : List Int) : List Bool := l.map fun w => bits .and .u64 w 1 == 1
def runG (g : LGraph) : List Int → List (List Bool) → List (List Bool)
  | _, [] => []
  | st, r :: t => laneB (outsG g (graphVals g (lanes0 r) st)) :: runG g (nextsG g (graphVals g (lanes0 r) st)) t
def stateG (g : LGraph) : List Int → List (List Bool) → List Int
  | st, [] => st
  | st, r :: t => stateG g (nextsG g (graphVals g (lanes0 r) st)) t
theorem runG_len (g : LGraph) : ∀ (t : List (List Bool)) (st : List Int), (runG g st t).length = t.length
  | [], st => rfl
  | r :: t, st => by simp [runG, runG_len g t]
abbrev initG (g : LGraph) : List Bool := g.regs.map LReg.init
theorem gresults_ok (g : LGraph) (hg : GraphOk g) (v : List Int) (hv : v.length = 1 + g.inn.length + g.regs.length + g.ands.length) (up : Frs) : ACalls Try.prog 97 [g.pv, .im (.sl (us v))] up fun r u => r = .tup [.im (.sl (us (outsG g v))), .im (.sl (us (nextsG g v)))] ∧ u = up := by
  obtain ⟨z1, z2, z3, z4, z5⟩ := hg.small
  refine ACalls.code Try.func97 rfl 41 rfl (by simp) [.tmp 4, .tmp 5] rfl fun Q hQ => ?_
  simp only [ups, PV.up, argEnv]
  have ft := And.intro ty_2 (And.intro ty_3 (And.intro ty_4 (And.intro ty_37 (And.intro ty_47 (And.intro ty_49 (And.intro ty_51 (And.intro ty_56 (And.intro ty_62 (And.intro ty_69 trivial)))))))))
  refine Run.seq ?_
  have fx := And.intro ints_len (And.intro rim_len (And.intro us_len ft))
  refine Run.go ?_
  refine End.kp [1, 2, 4, 5] ?_
  refine Run.seq ?_
  refine Run.seq ?_
  refine Run.go ?_
  refine End.kp [1, 2, 4, 5, 11, 12, 13] ?_
  refine Run.block ?_
  refine Run.ghost (Ghost.thaw (u := 4) 37 1 (by decide) rfl) ?_
  refine Run.ghost (Ghost.form [(1, .im (.sl (us v))), (2, .ptr 0 0 0), (4, .ms 0 1 0), (5, .nils), (11, .im (.sl (ints g.outs))), (12, .i g.outs.length), (13, .i (0 : Nat))] 2 ⟨rfl, rfl, rfl, rfl, rfl, rfl, rfl, trivial⟩ rfl rfl) ?_
  refine Run.loop (fun m s => ∃ (i : Nat), m = g.outs.length - i ∧ i ≤ g.outs.length ∧ s = ⟨[(1, .im (.sl (us v))), (2, .ptr 0 0 0), (4, .ms 0 1 i), (5, .nils), (11, .im (.sl (ints g.outs))), (12, .i g.outs.length), (13, .i (i : Nat))], [.box [.im (.sl (strs g.inn)), .im (.sl (strs g.out)), .im (.sl (g.regs.map LReg.im)), .im (.sl (g.ands.map nd)), .im (.sl (ints g.outs))], .row 37 1 (us ((g.outs.take i).map (ofV v))) 0], up⟩) g.outs.length ⟨0, rfl, by omega, rfl⟩ fun m s hI => ?_
  obtain ⟨i, rfl, hi, rfl⟩ := hI
  have hol : ((g.outs.take i).map (ofV v)).length = i := by simp; omega
  have hao : (i + 1) * 8 ≤ 140737488355328 := by omega
  refine Run.seq ?_
  have fx := And.intro hao (And.intro hol (And.intro ints_len (And.intro rim_len (And.intro us_len ft))))
  refine Run.go ?_
  refine End.kp [1, 2, 4, 5, 11, 12, 13, 14] ?_
  refine Run.seq ?_
  refine Run.cond _ rfl (fun hb => ?_) (fun hb => ?_)
  · have hb := of_decide_eq_true hb
    have hin : i < g.outs.length := by omega
    have wi := wsucc hin (by omega)
    obtain ⟨x, hxi, hxm, hx⟩ := int_at g.outs i hin
    obtain ⟨x1, x2⟩ := hg.outs x hxm
    have x2' : x < 2 * (v.length : Int) := by omega
    have htk := int_snoc g.outs i x hxi
    refine Run.skip ?_
    refine End.kp [1, 2, 4, 5, 11, 12, 13] ?_
    refine Run.seq ?_
    refine Run.block ?_
    refine Run.seq ?_
    have fx := And.intro (@Int.toNat_natCast) (And.intro (@Int.natCast_nonneg) (And.intro hx (And.intro wi (And.intro hao (And.intro hol (And.intro ints_len (And.intro rim_len (And.intro us_len ft))))))))
    refine Run.go ?_
    refine End.kp [1, 2, 4, 5, 7, 11, 12, 13] ?_
    refine Run.region rfl fun K hK => GOps.sim ?_
    refine GOps.call rfl rfl rfl rfl (by kernel_rfl) (ACalls.sim ?_)
    refine (of_ok v x x1 x2' (by omega) _).mono fun v u hv => ?_
    obtain ⟨rfl, rfl⟩ := hv
    refine ⟨_, _, rfl, GOps.sim ?_⟩
    refine GOps.done (hK _ ?_); clear hK K
    refine End.blk ?_
    refine End.kp [1, 2, 4, 5, 11, 12, 13] ?_
    refine Run.go ?_
    refine End.lp ?_
    refine ⟨g.outs.length - (i + 1), _, by omega, Ghost.form [(1, .im (.sl (us v))), (2, .ptr 0 0 0), (4, .ms 0 1 (i + 1)), (5, .nils), (11, .im (.sl (ints g.outs))), (12, .i g.outs.length), (13, .i (i + 1 : Nat))] 2 ⟨rfl, rfl, rfl, rfl, rfl, rfl, rfl, trivial⟩ rfl rfl, i + 1, rfl, by omega, ?_⟩
    rw [htk]
    simp
  · have hb := of_decide_eq_false hb
    have hiN : i = g.outs.length := by omega
    subst hiN
    rw [List.take_length] at hol ⊢
    refine Run.exit rfl ?_
    refine End.kp [1, 2, 4, 5] ?_
    refine Run.seq ?_
    refine Run.seq ?_
    have fx := And.intro hao (And.intro hol (And.intro ints_len (And.intro rim_len (And.intro us_len ft))))
    refine Run.go ?_
    refine End.kp [1, 4, 5, 25, 26, 27] ?_
    refine Run.block ?_
    refine Run.ghost (Ghost.thaw (u := 5) 37 1 (by decide) rfl) ?_
    refine Run.ghost (Ghost.form [(1, .im (.sl (us v))), (4, .ms 0 1 g.outs.length), (5, .ms 0 2 0), (25, .im (.sl (g.regs.map LReg.im))), (26, .i g.regs.length), (27, .i (0 : Nat))] 3 ⟨rfl, rfl, rfl, rfl, rfl, rfl, trivial⟩ rfl rfl) ?_
    refine Run.loop (fun m s => ∃ (i : Nat), m = g.regs.length - i ∧ i ≤ g.regs.length ∧ s = ⟨[(1, .im (.sl (us v))), (4, .ms 0 1 g.outs.length), (5, .ms 0 2 i), (25, .im (.sl (g.regs.map LReg.im))), (26, .i g.regs.length), (27, .i (i : Nat))], [.box [.im (.sl (strs g.inn)), .im (.sl (strs g.out)), .im (.sl (g.regs.map LReg.im)), .im (.sl (g.ands.map nd)), .im (.sl (ints g.outs))], .row 37 1 (us (outsG g v)) 0, .row 37 1 (us ((g.regs.take i).map fun r => ofV v r.next)) 0], up⟩) g.regs.length ⟨0, rfl, by omega, rfl⟩ fun m s hI => ?_
    obtain ⟨i, rfl, hi, rfl⟩ := hI
    have hdn : ((g.regs.take i).map fun r => ofV v r.next).length = i := by simp; omega
    have haf : (i + 1) * 8 ≤ 140737488355328 := by omega
    refine Run.seq ?_
    have fx := And.intro haf (And.intro hdn (And.intro hao (And.intro hol (And.intro ints_len (And.intro rim_len (And.intro us_len ft))))))
    refine Run.go ?_
    refine End.kp [1, 4, 5, 25, 26, 27, 28] ?_
    refine Run.seq ?_
    refine Run.cond _ rfl (fun hb => ?_) (fun hb => ?_)
    · have hb := of_decide_eq_true hb
      have hin : i < g.regs.length := by omega
      have wi := wsucc hin (by omega)
      obtain ⟨f, hfi, hfm, hf⟩ := reg_at g.regs i hin
      obtain ⟨x1, x2⟩ := hg.regs f hfm
      have x2' : f.next < 2 * (v.length : Int) := by omega
      have htk := reg_snoc g.regs i f hfi
      refine Run.skip ?_
      refine End.kp [1, 4, 5, 25, 26, 27] ?_
      refine Run.seq ?_
      refine Run.block ?_
      refine Run.seq ?_
      have fx := And.intro (@Int.toNat_natCast) (And.intro (@Int.natCast_nonneg) (And.intro hf (And.intro wi (And.intro haf (And.intro hdn (And.intro hao (And.intro hol (And.intro ints_len (And.intro rim_len (And.intro us_len ft))))))))))
      refine Run.go ?_
      refine End.kp [1, 4, 5, 9, 25, 26, 27] ?_
      refine Run.region rfl fun K hK => GOps.sim ?_
      refine GOps.call rfl rfl rfl rfl (by kernel_rfl) (ACalls.sim ?_)
      refine (of_ok v f.next x1 x2' (by omega) _).mono fun v u hv => ?_
      obtain ⟨rfl, rfl⟩ := hv
      refine ⟨_, _, rfl, GOps.sim ?_⟩
      refine GOps.done (hK _ ?_); clear hK K
      refine End.blk ?_
      refine End.kp [1, 4, 5, 25, 26, 27] ?_
      refine Run.go ?_
      refine End.lp ?_
      refine ⟨g.regs.length - (i + 1), _, by omega, Ghost.form [(1, .im (.sl (us v))), (4, .ms 0 1 g.outs.length), (5, .ms 0 2 (i + 1)), (25, .im (.sl (g.regs.map LReg.im))), (26, .i g.regs.length), (27, .i (i + 1 : Nat))] 3 ⟨rfl, rfl, rfl, rfl, rfl, rfl, trivial⟩ rfl rfl, i + 1, rfl, by omega, ?_⟩
      rw [htk]
      simp
    · have hb := of_decide_eq_false hb
      have hiN : i = g.regs.length := by omega
      subst hiN
      rw [List.take_length] at hdn ⊢
      refine Run.exit rfl ?_
      refine End.kp [4, 5] ?_
      refine Run.seq ?_
      refine Run.ghost (Ghost.shut (t := 4) (j := 1) rfl rfl (by rw [us_len]; exact hol)) ?_
      simp only [eput, edel]
      refine Run.ghost (Ghost.shut (t := 5) (j := 2) rfl rfl (by rw [us_len, hdn])) ?_
      simp only [eput, edel]
      have fx := And.intro haf (And.intro hdn (And.intro hao (And.intro hol (And.intro ints_len (And.intro rim_len (And.intro us_len ft))))))
      refine Run.go ?_
      refine End.kp [4, 5] ?_
      refine Run.ret (hQ _ _ ⟨.inr rfl, _, rfl, _, rfl, ?_⟩)
      exact ⟨rfl, rfl⟩
theorem GWords_ok (g : LGraph) (hg : GraphOk g) (inn st : List Int) (h1 : inn.length = g.inn.length) (h2 : st.length = g.regs.length) (up : Frs) : ACalls Try.prog 48 [g.pv, .im (.sl (us inn)), .im (.sl (us st))] up fun v u => v = .tup [.im (.sl (us (outsG g (graphVals g inn st)))), .im (.sl (us (nextsG g (graphVals g inn st)))), .i 0] ∧ u = up := by
  refine ACalls.code Try.func48 rfl 28 rfl (by simp) [.tmp 6, .tmp 7, .tmp 8] rfl fun Q hQ => ?_
  simp only [ups, PV.up, argEnv]
  have ft := And.intro ty_4 (And.intro ty_34 (And.intro ty_37 (And.intro ty_51 (And.intro ty_56 trivial))))
  refine Run.seq ?_
  have fx := ft
  refine Run.go ?_
  refine End.kp [1, 2, 3] ?_
  refine Run.seq ?_
  refine Run.region rfl fun K hK => GOps.sim ?_
  refine GOps.call rfl rfl rfl rfl (by kernel_rfl) (ACalls.sim ?_)
  refine (GValues_ok g hg inn st h1 h2 _).mono fun v u hv => ?_
  obtain ⟨rfl, rfl⟩ := hv
  refine ⟨_, _, rfl, GOps.sim ?_⟩
  refine GOps.done (hK _ ?_); clear hK K
  refine End.kp [3, 8, 9] ?_
  refine Run.seq ?_
  refine Run.seq ?_
  refine Run.go ?_
  refine End.kp [3, 8, 9, 18] ?_
  refine Run.cond _ rfl (fun hb => ?_) (fun hb => ?_)
  · have hb := hb
    simp at hb
  · have hb := hb
    refine Run.skip ?_
    refine End.kp [3, 9] ?_
    refine Run.seq ?_
    have fx := ft
    refine Run.region rfl fun K hK => GOps.sim ?_
    refine GOps.call rfl rfl rfl rfl (by kernel_rfl) (ACalls.sim ?_)
    refine (gresults_ok g hg (graphVals g inn st) (by rw [graphVals_len g inn st h1 h2]) _).mono fun v u hv => ?_
    obtain ⟨rfl, rfl⟩ := hv
    refine ⟨_, _, rfl, GOps.sim ?_⟩
    refine GOps.done (hK _ ?_); clear hK K
    refine End.kp [6, 7] ?_
    refine Run.seq ?_
    refine Run.go ?_
    refine End.kp [6, 7, 8] ?_
    refine Run.ret (hQ _ _ ⟨.inr rfl, _, rfl, _, rfl, ?_⟩)
    exact ⟨rfl, rfl⟩
theorem GEval_ok (g : LGraph) (hg : GraphOk g) (inn st : List Bool) (h1 : inn.length = g.inn.length) (h2 : st.length = g.regs.length) (up : Frs) : ACalls Try.prog 50 [g.pv, .im (.sl (bools inn)), .im (.sl (bools st))] up fun v u => v = .tup [.im (.sl (bools (laneB (outsG g (graphVals g (lanes0 inn) (lanes0 st)))))), .im (.sl (bools (laneB (nextsG g (graphVals g (lanes0 inn) (lanes0 st)))))), .i 0] ∧ u = up := by
  obtain ⟨z1, z2, z3, z4, z5⟩ := hg.small
  refine ACalls.code Try.func50 rfl 28 rfl (by simp) [.tmp 6, .tmp 7, .tmp 8] rfl fun Q hQ => ?_
  simp only [ups, PV.up, argEnv]
  have ft := And.intro ty_2 (And.intro ty_4 (And.intro ty_34 (And.intro ty_37 (And.intro ty_51 (And.intro ty_56 (And.intro ty_71 trivial))))))
  refine Run.seq ?_
  have fx := ft
  refine Run.go ?_
  refine End.kp [1, 2, 3] ?_
  refine Run.seq ?_
  refine Run.drawA fun K hK => ?_
  refine DOps.sim ?_
  refine DOps.call (.im (.sl (us (lanes0 inn)))) [] [] rfl rfl rfl rfl (by kernel_rfl) (by simp [Agree]) (fun u hu => Lanes_ok inn (by omega) u) ?_
  refine DOps.sim ?_
  refine DOps.call (.im (.sl (us (lanes0 st)))) [] [] rfl rfl rfl rfl (by kernel_rfl) (by simp [Agree]) (fun u hu => Lanes_ok st (by omega) u) ?_
  refine DOps.sim ?_
  refine DOps.call (.tup [.im (.sl (us (outsG g (graphVals g (lanes0 inn) (lanes0 st))))), .im (.sl (us (nextsG g (graphVals g (lanes0 inn) (lanes0 st))))), .i 0]) [] [] rfl rfl rfl rfl (by kernel_rfl) (by simp [Agree]) (fun u hu => GWords_ok g hg (lanes0 inn) (lanes0 st) (by simpa using h1) (by simpa using h2) u) ?_
  refine DOps.sim ?_
  refine DOps.nil (metAll_quiet rfl) (hK _ ?_); clear hK K
  refine End.kp [8, 9, 10] ?_
  refine Run.seq ?_
  refine Run.seq ?_
  refine Run.go ?_
  refine End.kp [8, 9, 10, 22] ?_
  refine Run.cond _ rfl (fun hb => ?_) (fun hb => ?_)
  · have hb := hb
    simp at hb
  · have hb := hb
    refine Run.skip ?_
    refine End.kp [9, 10] ?_
    refine Run.seq ?_
    have fx := ft
    refine Run.region rfl fun K hK => GOps.sim ?_
    refine GOps.call rfl rfl rfl rfl (by kernel_rfl) (ACalls.sim ?_)
    refine (Lane_ok _ (by simp [outsG]; omega) _).mono fun v u hv => ?_
    obtain ⟨rfl, rfl⟩ := hv
    refine ⟨_, _, rfl, GOps.sim ?_⟩
    refine GOps.call rfl rfl rfl rfl (by kernel_rfl) (ACalls.sim ?_)
    refine (Lane_ok _ (by simp [nextsG]; omega) _).mono fun v u hv => ?_
    obtain ⟨rfl, rfl⟩ := hv
    refine ⟨_, _, rfl, GOps.sim ?_⟩
    refine GOps.done (hK _ ?_); clear hK K
    refine End.kp [6, 7, 8] ?_
    refine Run.ret (hQ _ _ ⟨.inr rfl, _, rfl, _, rfl, ?_⟩)
    exact ⟨rfl, rfl⟩
theorem GInit_ok (g : LGraph) (hg : GSmall g) (up : Frs) : ACalls Try.prog 54 [g.pv] up fun v u => v = .im (.sl (bools (initG g))) ∧ u = up := by
  obtain ⟨z1, z2, z3, z4, z5⟩ := hg
  have hc : (0 : Int) ≤ g.regs.length := by omega
  have hm1 : ((1 : Nat) : Int) * (g.regs.length : Int) ≤ 281474976710656 := by omega
  have hm2 : (g.regs.length : Int) ≤ 9223372036854775807 := by omega
  refine ACalls.code Try.func54 rfl 25 rfl (by simp) [.tmp 2] rfl fun Q hQ => ?_
  simp only [ups, PV.up, argEnv]
  have ft := And.intro ty_2 (And.intro ty_3 (And.intro ty_4 (And.intro ty_47 (And.intro ty_51 (And.intro ty_69 (And.intro ty_71 trivial))))))
  refine Run.seq ?_
  have fx := And.intro hm2 (And.intro hm1 (And.intro hc (And.intro rim_len ft)))
  refine Run.go ?_
  refine End.kp [1] ?_
  refine Run.seq ?_
  refine Run.go ?_
  refine End.kp [1, 3] ?_
  refine Run.seq ?_
  refine Run.seq ?_
  refine Run.go ?_
  refine End.kp [3, 11, 12, 13] ?_
  refine Run.block ?_
  refine Run.ghost (Ghost.form [(3, .ms 0 1 g.regs.length), (11, .im (.sl (g.regs.map LReg.im))), (12, .i g.regs.length), (13, .i (0 : Nat))] 2 ⟨rfl, rfl, rfl, rfl, trivial⟩ rfl rfl) ?_
  refine Run.loop (fun m s => ∃ (i : Nat), m = g.regs.length - i ∧ i ≤ g.regs.length ∧ s = ⟨[(3, .ms 0 1 g.regs.length), (11, .im (.sl (g.regs.map LReg.im))), (12, .i g.regs.length), (13, .i (i : Nat))], [.box [.im (.sl (strs g.inn)), .im (.sl (strs g.out)), .im (.sl (g.regs.map LReg.im)), .im (.sl (g.ands.map nd)), .im (.sl (ints g.outs))], .row 4 1 ((g.regs.take i).map (fun r => [Im.bool r.init]) ++ List.replicate (g.regs.length - i) [.bool false]) 0], up⟩) g.regs.length ⟨0, rfl, by omega, by simp⟩ fun m s hI => ?_
  obtain ⟨i, rfl, hi, rfl⟩ := hI
  have hrl := fill_len (fun r => [Im.bool r.init]) g.regs [.bool false] i hi
  refine Run.seq ?_
  have fx := And.intro hrl (And.intro hm2 (And.intro hm1 (And.intro hc (And.intro rim_len ft))))
  refine Run.go ?_
  refine End.kp [3, 11, 12, 13, 14] ?_
  refine Run.seq ?_
  refine Run.cond _ rfl (fun hb => ?_) (fun hb => ?_)
  · have hb := of_decide_eq_true hb
    have hin : i < g.regs.length := by omega
    have wi := wsucc hin (by omega)
    obtain ⟨f, hfi, hfm, hf⟩ := reg_at g.regs i hin
    have hri := fill_get (fun r => [Im.bool r.init]) g.regs [.bool false] i hin
    have hfd : g.regs.getD i ⟨ByteArray.empty, 0, false⟩ = f := by simp [hfi]
    have hfm2 := fill_map (fun r => [Im.bool r.init]) g.regs [.bool false] ⟨ByteArray.empty, 0, false⟩ i hin
    rw [hfd] at hfm2
    refine Run.skip ?_
    refine End.kp [3, 11, 12, 13] ?_
    refine Run.seq ?_
    refine Run.block ?_
    refine Run.seq ?_
    have fx := And.intro hri (And.intro hin (And.intro (@Int.ofNat_lt) (And.intro (@Int.toNat_natCast) (And.intro (@Int.natCast_nonneg) (And.intro hf (And.intro wi (And.intro hrl (And.intro hm2 (And.intro hm1 (And.intro hc (And.intro rim_len ft)))))))))))
    refine Run.go ?_
    refine End.kp [3, 4, 5, 11, 12, 13] ?_
    refine Run.go ?_
    refine End.blk ?_
    refine End.kp [3, 11, 12, 13] ?_
    refine Run.go ?_
    refine End.lp ?_
    refine ⟨g.regs.length - (i + 1), _, by omega, Ghost.form [(3, .ms 0 1 g.regs.length), (11, .im (.sl (g.regs.map LReg.im))), (12, .i g.regs.length), (13, .i (i + 1 : Nat))] 2 ⟨rfl, rfl, rfl, rfl, trivial⟩ rfl rfl, i + 1, rfl, by omega, ?_⟩
    rw [← hfm2]
    rfl
  · have hb := of_decide_eq_false hb
    have hiN : i = g.regs.length := by omega
    subst hiN
    rw [fill_all] at hrl ⊢
    refine Run.exit rfl ?_
    refine End.kp [3] ?_
    refine Run.seq ?_
    refine Run.ghost (Ghost.shut (t := 3) (j := 1) rfl rfl hrl) ?_
    simp only [eput, edel]
    have fx := And.intro hrl (And.intro hm2 (And.intro hm1 (And.intro hc (And.intro rim_len ft))))
    refine Run.go ?_
    refine End.kp [2] ?_
    refine Run.ret (hQ _ _ ⟨.inr rfl, _, rfl, _, rfl, ?_⟩)
    exact ⟨by simp, rfl⟩
theorem GRun_ok (g : LGraph) (hg : GraphOk g) (tr : List (List Bool)) (hn : tr.length ≤ 64) (ht : ∀ r ∈ tr, r.length = g.inn.length) (up : Frs) : ACalls Try.prog 53 [g.pv, .im (.sl (boolss tr))] up fun v u => v = .tup [.im (.sl (boolss (runG g (lanes0 (initG g)) tr))), .i 0] ∧ u = up := by
  have hsm := hg.small
  obtain ⟨z1, z2, z3, z4, z5⟩ := hg.small
  have d1 : decide ((tr.length : Int) > 64) = false := decide_eq_false (by omega)
  refine ACalls.code Try.func53 rfl 63 rfl (by simp) [.tmp 4, .tmp 5] rfl fun Q hQ => ?_
  simp only [ups, PV.up, argEnv]
  have ft := And.intro ty_3 (And.intro ty_4 (And.intro ty_9 (And.intro ty_26 (And.intro ty_34 (And.intro ty_37 (And.intro ty_51 (And.intro ty_56 (And.intro ty_58 (And.intro ty_71 trivial)))))))))
  refine Run.seq ?_
  have fx := And.intro d1 (And.intro strs_len (And.intro bools_len (And.intro boolss_len ft)))
  refine Run.go ?_
  refine End.kp [1, 2] ?_
  refine Run.seq ?_
  refine Run.seq ?_
  refine Run.region rfl fun K hK => GOps.sim ?_
  refine GOps.call rfl rfl rfl rfl (by kernel_rfl) (ACalls.sim ?_)
  refine (Check_ok g hg _).mono fun v u hv => ?_
  obtain ⟨rfl, rfl⟩ := hv
  refine ⟨_, _, rfl, GOps.sim ?_⟩
  refine GOps.done (hK _ ?_); clear hK K
  refine End.kp [1, 2, 6] ?_
  refine Run.seq ?_
  refine Run.go ?_
  refine End.kp [1, 2, 6, 18] ?_
  refine Run.cond _ rfl (fun hb => ?_) (fun hb => ?_)
  · have hb := hb
    simp at hb
  · have hb := hb
    refine Run.skip ?_
    refine End.kp [1, 2] ?_
    refine Run.seq ?_
    refine Run.seq ?_
    have fx := And.intro d1 (And.intro strs_len (And.intro bools_len (And.intro boolss_len ft)))
    refine Run.go ?_
    refine End.kp [1, 2, 22] ?_
    refine Run.cond _ rfl (fun hb => ?_) (fun hb => ?_)
    · have hb := hb
      simp at hb
    · have hb := hb
      refine Run.skip ?_
      refine End.kp [1, 2] ?_
      refine Run.seq ?_
      refine Run.seq ?_
      have fx := And.intro d1 (And.intro strs_len (And.intro bools_len (And.intro boolss_len ft)))
      refine Run.go ?_
      refine End.kp [1, 2, 23, 24, 25] ?_
      refine Run.block ?_
      refine Run.ghost (Ghost.form [(1, .im (.sl (boolss tr))), (2, .ptr 0 0 0), (23, .im (.sl (boolss tr))), (24, .i tr.length), (25, .i (0 : Nat))] 1 ⟨rfl, rfl, rfl, rfl, rfl, trivial⟩ rfl rfl) ?_
      refine Run.loop (fun m s => ∃ (i : Nat), m = tr.length - i ∧ i ≤ tr.length ∧ s = ⟨[(1, .im (.sl (boolss tr))), (2, .ptr 0 0 0), (23, .im (.sl (boolss tr))), (24, .i tr.length), (25, .i (i : Nat))], [.box [.im (.sl (strs g.inn)), .im (.sl (strs g.out)), .im (.sl (g.regs.map LReg.im)), .im (.sl (g.ands.map nd)), .im (.sl (ints g.outs))]], up⟩) tr.length ⟨0, rfl, by omega, rfl⟩ fun m s hI => ?_
      obtain ⟨i, rfl, hi, rfl⟩ := hI
      refine Run.seq ?_
      have fx := And.intro d1 (And.intro strs_len (And.intro bools_len (And.intro boolss_len ft)))
      refine Run.go ?_
      refine End.kp [1, 2, 23, 24, 25, 26] ?_
      refine Run.seq ?_
      refine Run.cond _ rfl (fun hb => ?_) (fun hb => ?_)
      · have hb := of_decide_eq_true hb
        have hin : i < tr.length := by omega
        have wi := wsucc hin (by omega)
        obtain ⟨r, hri, hrm, _, hr⟩ := boolss_at tr i hin
        have d2 : ((r.length : Int) != g.inn.length) = false := by rw [ht r hrm]; simp
        refine Run.skip ?_
        refine End.kp [1, 2, 23, 24, 25] ?_
        refine Run.seq ?_
        refine Run.block ?_
        refine Run.seq ?_
        have fx := And.intro (@Int.toNat_natCast) (And.intro (@Int.natCast_nonneg) (And.intro d2 (And.intro hr (And.intro wi (And.intro d1 (And.intro strs_len (And.intro bools_len (And.intro boolss_len ft))))))))
        refine Run.go ?_
        refine End.kp [1, 2, 8, 23, 24, 25] ?_
        refine Run.seq ?_
        refine Run.go ?_
        refine End.kp [1, 2, 23, 24, 25, 34] ?_
        refine Run.cond _ rfl (fun hb => ?_) (fun hb => ?_)
        · have hb := hb
          simp at hb
        · have hb := hb
          refine Run.skip ?_
          refine End.blk ?_
          refine End.kp [1, 2, 23, 24, 25] ?_
          have fx := And.intro (@Int.toNat_natCast) (And.intro (@Int.natCast_nonneg) (And.intro d2 (And.intro hr (And.intro wi (And.intro d1 (And.intro strs_len (And.intro bools_len (And.intro boolss_len ft))))))))
          refine Run.go ?_
          refine End.lp ?_
          refine ⟨tr.length - (i + 1), _, by omega, Ghost.form [(1, .im (.sl (boolss tr))), (2, .ptr 0 0 0), (23, .im (.sl (boolss tr))), (24, .i tr.length), (25, .i (i + 1 : Nat))] 1 ⟨rfl, rfl, rfl, rfl, rfl, trivial⟩ rfl rfl, i + 1, rfl, by omega, rfl⟩
      · have hb := of_decide_eq_false hb
        refine Run.exit rfl ?_
        refine End.kp [1, 2] ?_
        refine Run.seq ?_
        have fx := And.intro d1 (And.intro strs_len (And.intro bools_len (And.intro boolss_len ft)))
        refine Run.region rfl fun K hK => GOps.sim ?_
        refine GOps.call rfl rfl rfl rfl (by kernel_rfl) (ACalls.sim ?_)
        refine (GInit_ok g hsm _).mono fun v u hv => ?_
        obtain ⟨rfl, rfl⟩ := hv
        refine ⟨_, _, rfl, GOps.sim ?_⟩
        refine GOps.call rfl rfl rfl rfl (by kernel_rfl) (ACalls.sim ?_)
        refine (Lanes_ok (initG g) (by simp; omega) _).mono fun v u hv => ?_
        obtain ⟨rfl, rfl⟩ := hv
        refine ⟨_, _, rfl, GOps.sim ?_⟩
        refine GOps.done (hK _ ?_); clear hK K
        refine End.kp [1, 2, 9] ?_
        refine Run.seq ?_
        refine Run.go ?_
        refine End.kp [1, 2, 9, 10] ?_
        refine Run.seq ?_
        refine Run.seq ?_
        refine Run.go ?_
        refine End.kp [2, 9, 10, 39, 40, 41] ?_
        refine Run.block ?_
        refine Run.ghost (Ghost.thaw (u := 10) 71 1 (by decide) rfl) ?_
        refine Run.ghost (Ghost.form [(2, .ptr 0 0 0), (9, .im (.sl (us (lanes0 (initG g))))), (10, .ms 0 1 (0)), (39, .im (.sl (boolss tr))), (40, .i tr.length), (41, .i (0 : Nat))] 2 ⟨rfl, rfl, rfl, rfl, rfl, rfl, trivial⟩ rfl rfl) ?_
        refine Run.loop (fun m s => ∃ (i : Nat) (st : List Int) (dn : List (List Bool)), m = tr.length - i ∧ i ≤ tr.length ∧ dn.length = i ∧ st.length = g.regs.length ∧ dn ++ runG g st (tr.drop i) = runG g (lanes0 (initG g)) tr ∧ s = ⟨[(2, .ptr 0 0 0), (9, .im (.sl (us st))), (10, .ms 0 1 (i)), (39, .im (.sl (boolss tr))), (40, .i tr.length), (41, .i (i : Nat))], [.box [.im (.sl (strs g.inn)), .im (.sl (strs g.out)), .im (.sl (g.regs.map LReg.im)), .im (.sl (g.ands.map nd)), .im (.sl (ints g.outs))], .row 71 1 (boolss dn) 0], up⟩) tr.length ⟨0, _, [], rfl, by omega, rfl, by simp, rfl, rfl⟩ fun m s hI => ?_
        obtain ⟨i, st, dn, rfl, hi, hdn, hst, hR, rfl⟩ := hI
        have hap : (i + 1) * 24 ≤ 140737488355328 := by omega
        refine Run.seq ?_
        have fx := And.intro hap (And.intro hdn (And.intro d1 (And.intro strs_len (And.intro bools_len (And.intro boolss_len ft)))))
        refine Run.go ?_
        refine End.kp [2, 9, 10, 39, 40, 41, 42] ?_
        refine Run.seq ?_
        refine Run.cond _ rfl (fun hb => ?_) (fun hb => ?_)
        · have hb := of_decide_eq_true hb
          have hin : i < tr.length := by omega
          have wi := wsucc hin (by omega)
          obtain ⟨r, hri, hrm, _, hr⟩ := boolss_at tr i hin
          have hrl := ht r hrm
          have hdr : tr.drop i = r :: tr.drop (i + 1) := by
            obtain ⟨h, e⟩ := List.getElem?_eq_some_iff.1 hri
            rw [← e]
            exact List.drop_eq_getElem_cons h
          rw [hdr, runG] at hR
          refine Run.skip ?_
          refine End.kp [2, 9, 10, 39, 40, 41] ?_
          refine Run.seq ?_
          refine Run.block ?_
          refine Run.seq ?_
          have fx := And.intro (@Int.toNat_natCast) (And.intro (@Int.natCast_nonneg) (And.intro hr (And.intro wi (And.intro hap (And.intro hdn (And.intro d1 (And.intro strs_len (And.intro bools_len (And.intro boolss_len ft)))))))))
          refine Run.go ?_
          refine End.kp [2, 9, 10, 12, 39, 40, 41] ?_
          refine Run.seq ?_
          refine Run.drawA fun K hK => ?_
          refine DOps.sim ?_
          refine DOps.call (.im (.sl (us (lanes0 r)))) [] [] rfl rfl rfl rfl (by kernel_rfl) (by simp [Agree]) (fun u hu => Lanes_ok r (by omega) u) ?_
          refine DOps.sim ?_
          refine DOps.call (.im (.sl (us (graphVals g (lanes0 r) st)))) [] [] rfl rfl rfl rfl (by kernel_rfl) (by simp [Agree]) (fun u hu => gvalues_ok g hg (lanes0 r) st (by simpa using hrl) hst u) ?_
          refine DOps.sim ?_
          refine DOps.call (.tup [.im (.sl (us (outsG g (graphVals g (lanes0 r) st)))), .im (.sl (us (nextsG g (graphVals g (lanes0 r) st))))]) [] [] rfl rfl rfl rfl (by kernel_rfl) (by simp [Agree]) (fun u hu => gresults_ok g hg (graphVals g (lanes0 r) st) (by rw [graphVals_len g _ _ (by simpa using hrl) hst]) u) ?_
          refine DOps.sim ?_
          refine DOps.nil (metAll_quiet rfl) (hK _ ?_); clear hK K
          refine End.kp [2, 10, 13, 14, 39, 40, 41] ?_
          refine Run.region rfl fun K hK => GOps.sim ?_
          refine GOps.call rfl rfl rfl rfl (by kernel_rfl) (ACalls.sim ?_)
          refine (Lane_ok _ (by simp [outsG]; omega) _).mono fun v u hv => ?_
          obtain ⟨rfl, rfl⟩ := hv
          refine ⟨_, _, rfl, GOps.sim ?_⟩
          refine GOps.done (hK _ ?_); clear hK K
          refine End.blk ?_
          refine End.kp [2, 9, 10, 39, 40, 41] ?_
          refine Run.go ?_
          refine End.lp ?_
          refine ⟨tr.length - (i + 1), _, by omega, Ghost.form [(2, .ptr 0 0 0), (9, .im (.sl (us (nextsG g (graphVals g (lanes0 r) st))))), (10, .ms 0 1 ((i + 1))), (39, .im (.sl (boolss tr))), (40, .i tr.length), (41, .i (i + 1 : Nat))] 2 ⟨rfl, rfl, rfl, rfl, rfl, rfl, trivial⟩ rfl rfl, i + 1, nextsG g (graphVals g (lanes0 r) st), dn ++ [laneB (outsG g (graphVals g (lanes0 r) st))], rfl, by omega, by simp [hdn], by simp [nextsG], by simpa using hR, ?_⟩
          simp
        · have hb := of_decide_eq_false hb
          have hiN : i = tr.length := by omega
          subst hiN
          rw [List.drop_length, runG, List.append_nil] at hR
          refine Run.exit rfl ?_
          refine End.kp [10] ?_
          refine Run.seq ?_
          refine Run.ghost (Ghost.shut (t := 10) (j := 1) rfl rfl (by rw [boolss_len, hdn])) ?_
          simp only [eput, edel]
          have fx := And.intro hap (And.intro hdn (And.intro d1 (And.intro strs_len (And.intro bools_len (And.intro boolss_len ft)))))
          refine Run.go ?_
          refine End.kp [4, 5] ?_
          refine Run.ret (hQ _ _ ⟨.inr rfl, _, rfl, _, rfl, ?_⟩)
          exact ⟨by rw [hR], rfl⟩
end Go.Proofs.YtkmnmokjlpenhaaPi

/- Plain law: drawn names are in order, and no two of them are the same. -/
set_option linter.unusedVariables false
set_option linter.unusedSimpArgs false
namespace Go.Proofs.YtkmnmokjlpenhaaPi

theorem chr_nat (n : Int) (h0 : 0 ≤ n) (h1 : n < 256) : (chr n).toNat = n.toNat := by
  simp only [chr, UInt8.toNat_ofNat']
  omega
/-- The letter that tells one drawn name from the others. -/
def tag (s : ByteArray) : Option UInt8 := if s.data.toList[1]? = some 46 then s.data.toList[3]? else s.data.toList[1]?
theorem chr_46 (n : Int) (h0 : 97 ≤ n) (h1 : n < 256) : chr n ≠ 46 := fun e => by
  have := chr_nat n (by omega) h1
  rw [e] at this
  simp at this
  omega
theorem ba_app (a b : Array UInt8) : (ByteArray.mk a ++ ByteArray.mk b).data.toList = a.toList ++ b.toList := by simp
theorem name_tag (l : List Int) (a i : Int) (hi : 0 ≤ i) : tag (nameV l a i).1 = some (chr (97 + i % 26)) := by
  have m0 := Int.emod_nonneg i (show (26 : Int) ≠ 0 by decide)
  have m1 := Int.emod_lt_of_pos i (show (0 : Int) < 26 by decide)
  have hne := chr_46 (97 + i % 26) (by omega) (by omega)
  unfold nameV
  split
  · simp [tag, hne]
  · split
    · simp [tag]
    · simp [tag, hne]
theorem chr_mem (n : Int) (h0 : 33 ≤ n) (h1 : n ≤ 126) : 33 ≤ (chr n).toNat ∧ (chr n).toNat ≤ 126 := by
  rw [chr_nat n (by omega) (by omega)]
  omega
theorem name_ok (l : List Int) (a i : Int) : NameOk (nameV l a i).1 := by
  have m0 := Int.emod_nonneg i (show (26 : Int) ≠ 0 by decide)
  have m1 := Int.emod_lt_of_pos i (show (0 : Int) < 26 by decide)
  have m2 := Int.emod_nonneg (i / 26) (show (26 : Int) ≠ 0 by decide)
  have m3 := Int.emod_lt_of_pos (i / 26) (show (0 : Int) < 26 by decide)
  obtain ⟨r0, r1⟩ := nextV_range l a 26 (by omega)
  obtain ⟨r4, r5⟩ := nextV_range l (a + 1 + 1) 10 (by omega)
  have c1 := chr_mem (97 + nextV l a 26) (by omega) (by omega)
  have c2 := chr_mem (97 + i % 26) (by omega) (by omega)
  have c3 := chr_mem (97 + i / 26 % 26) (by omega) (by omega)
  have c4 := chr_mem (48 + nextV l (a + 1 + 1) 10) (by omega) (by omega)
  unfold nameV
  split
  · refine ⟨by simp [ba_size], by simp [ba_size], fun b hb => ?_⟩
    simp only [ByteArray.data_append, Array.toList_append, List.mem_append, List.mem_cons, List.not_mem_nil, or_false] at hb
    rcases hb with (rfl | rfl | rfl) | (rfl | rfl) | rfl <;> first | assumption | decide
  · split
    · refine ⟨by simp [ba_size], by simp [ba_size], fun b hb => ?_⟩
      simp only [ByteArray.data_append, Array.toList_append, List.mem_append, List.mem_cons, List.not_mem_nil, or_false] at hb
      rcases hb with (rfl | rfl) | (rfl | rfl | rfl) <;> first | assumption | decide
    · refine ⟨by simp [ba_size], by simp [ba_size], fun b hb => ?_⟩
      simp only [List.mem_cons, List.not_mem_nil, or_false] at hb
      rcases hb with rfl | rfl | rfl <;> assumption
theorem words_ok (l : List Int) : ∀ (k i : Nat) (a : Int), (∀ s ∈ (wordsV l k i a).1, NameOk s) ∧ (wordsV l k i a).1.map tag = (List.range' i k).map fun i : Nat => some (chr (97 + (i : Int) % 26))
  | 0, i, a => by simp [wordsV]
  | k + 1, i, a => by
    obtain ⟨h1, h2⟩ := words_ok l k (i + 1) (nameV l a i).2
    refine ⟨fun s hs => ?_, ?_⟩
    · simp only [wordsV, List.mem_cons] at hs
      rcases hs with rfl | hs
      · exact name_ok l a i
      · exact h1 s hs
    · simp only [wordsV, List.map_cons, List.range'_succ, h2, name_tag l a i (by omega)]
theorem words_nodup (l : List Int) (k : Nat) (a : Int) (hk : k ≤ 26) : (wordsV l k 0 a).1.Nodup := by
  have h : ((wordsV l k 0 a).1.map tag).Pairwise (· ≠ ·) := by
    rw [(words_ok l k 0 a).2, List.pairwise_map]
    refine (List.pairwise_lt_range' (s := 0) (n := k)).imp_of_mem ?_
    intro x y hx hy hxy e
    simp only [List.mem_range'_1] at hx hy
    simp only [Option.some.injEq] at e
    have := congrArg UInt8.toNat e
    rw [chr_nat _ (by omega) (by omega), chr_nat _ (by omega) (by omega)] at this
    omega
  rw [List.pairwise_map] at h
  exact h.imp fun hne e => hne (by rw [e])
end Go.Proofs.YtkmnmokjlpenhaaPi

