/- The walks of the functions that draw graphs. -/
import Derived.Test.YtkmnmokjlpenhaaWE
set_option linter.unusedVariables false
set_option linter.unusedSimpArgs false
set_option maxRecDepth 100000
namespace Go.Proofs.YtkmnmokjlpenhaaPi
set_option maxHeartbeats 2000000

structure LReg where
  name : ByteArray
  next : Int
  init : Bool
abbrev LReg.im (r : LReg) : List Im := [.str r.name, .int .i64 r.next, .bool r.init]
abbrev nd (p : Int × Int) : List Im := [.int .i64 p.1, .int .i64 p.2]
structure LGraph where
  inn : List ByteArray
  out : List ByteArray
  regs : List LReg
  ands : List (Int × Int)
  outs : List Int
abbrev LGraph.cells (g : LGraph) : List PV := [.im (.sl (strs g.inn)), .im (.sl (strs g.out)), .im (.sl (g.regs.map LReg.im)), .im (.sl (g.ands.map nd)), .im (.sl (ints g.outs))]
abbrev LGraph.pv (g : LGraph) : PV := .agg g.cells
theorem rim_len (l : List LReg) : (l.map LReg.im).length = l.length := by simp
theorem nd_len (l : List (Int × Int)) : (l.map nd).length = l.length := by simp

/-- Things drawn one after the other. -/
def drawN {α : Type} (f : Nat → Int → α × Int) (a : Int) : Nat → List α × Int
  | 0 => ([], a)
  | i + 1 => ((drawN f a i).1 ++ [(f i (drawN f a i).2).1], (f i (drawN f a i).2).2)
theorem drawN_len {α : Type} (f : Nat → Int → α × Int) (a : Int) : ∀ i, (drawN f a i).1.length = i
  | 0 => rfl
  | i + 1 => by simp [drawN, drawN_len f a i]
theorem drawN_pos {α : Type} (f : Nat → Int → α × Int) (a : Int) (c : Nat) (h : ∀ i b, b ≤ (f i b).2 ∧ (f i b).2 ≤ b + c) : ∀ i : Nat, a ≤ (drawN f a i).2 ∧ (drawN f a i).2 ≤ a + c * i
  | 0 => by simp [drawN]
  | i + 1 => by
    have h1 := drawN_pos f a c h i
    have h2 := h i (drawN f a i).2
    simp only [drawN]
    have : (c : Int) * ((i + 1 : Nat) : Int) = c * i + c := by rw [Int.natCast_add, Int.mul_add]; simp
    omega
theorem drawN_mem {α : Type} (f : Nat → Int → α × Int) (a : Int) (Q : Nat → α → Prop) (h : ∀ i b, Q i (f i b).1) : ∀ n i x, (drawN f a n).1[i]? = some x → Q i x
  | 0, i, x, hx => by simp [drawN] at hx
  | n + 1, i, x, hx => by
    simp only [drawN, List.getElem?_append, drawN_len] at hx
    split at hx
    · exact drawN_mem f a Q h n i x hx
    · rename_i hi
      have : i - n = 0 := by
        have := (List.getElem?_eq_some_iff.1 hx).1
        simp at this
        omega
      rw [this] at hx
      simp at hx
      subst hx
      have : i = n := by omega
      subst this
      exact h i _

def litX (l : List Int) (a n : Int) : Int × Int :=
  if nextV l (a + 1) 2 = 0 then (2 * (n - 1 - nextV l (a + 1 + 1) (min n 6)) + nextV l (a + 1 + 1 + 1) 2, a + 1 + 1 + 1 + 1)
  else (2 * nextV l a n + nextV l (a + 1 + 1) 2, a + 1 + 1 + 1)
theorem litX_pos (l : List Int) (a n : Int) : a ≤ (litX l a n).2 ∧ (litX l a n).2 ≤ a + (4 : Nat) := by
  unfold litX
  split <;> exact ⟨by simp only; omega, by simp only; omega⟩
theorem litX_range (l : List Int) (a n : Int) (h : 1 ≤ n) : 0 ≤ (litX l a n).1 ∧ (litX l a n).1 < 2 * n := by
  unfold litX
  split
  · have h1 := nextV_range l (a + 1 + 1) (min n 6) (by omega)
    have h2 := nextV_range l (a + 1 + 1 + 1) 2 (by omega)
    simp only
    omega
  · have h1 := nextV_range l a n h
    have h2 := nextV_range l (a + 1 + 1) 2 (by omega)
    simp only
    omega
def andX (l : List Int) (n : Int) (i : Nat) (a : Int) : (Int × Int) × Int := (((litX l a (n + i)).1, (litX l (litX l a (n + i)).2 (n + i)).1), (litX l (litX l a (n + i)).2 (n + i)).2)
theorem andX_pos (l : List Int) (n : Int) (i : Nat) (a : Int) : a ≤ (andX l n i a).2 ∧ (andX l n i a).2 ≤ a + (8 : Nat) := by
  have h1 := litX_pos l a (n + i)
  have h2 := litX_pos l (litX l a (n + i)).2 (n + i)
  simp only [andX]
  omega
def regX (l : List Int) (n : Int) (names : List ByteArray) (i : Nat) (a : Int) : LReg × Int := (⟨names.getD i ByteArray.empty, (litX l a n).1, nextV l (litX l a n).2 2 == 0⟩, (litX l a n).2 + 1)
theorem regX_pos (l : List Int) (n : Int) (names : List ByteArray) (i : Nat) (a : Int) : a ≤ (regX l n names i a).2 ∧ (regX l n names i a).2 ≤ a + (5 : Nat) := by
  have h1 := litX_pos l a n
  simp only [regX]
  omega
def graphV (l : List Int) (a : Int) (ins regs ands outs : Nat) : LGraph × Int :=
  let w := wordsV l (ins + regs) 0 a
  let o := wordsV l outs 0 w.2
  let n : Int := ((1 + ins + regs : Nat) : Int)
  let A := drawN (andX l n) o.2 ands
  let R := drawN (regX l (n + ands) (w.1.drop ins)) A.2 regs
  let O := drawN (fun _ b => litX l b (n + ands)) R.2 outs
  (⟨w.1.take ins, o.1, R.1, A.1, O.1⟩, O.2)
theorem lit_ok (n : Int) (hn : 1 ≤ n) (hn2 : n ≤ 1000000) (l : List Int) (a : Int) (hs : StmOk l a) (hf : a + 1000 < 1099511627776) (up : Frs) (d j : Nat) (hl : fget up d j = some (stm l a)) : ACalls Try.prog 136 [.ptr d j 0, .i n] up fun v u => v = .i (litX l a n).1 ∧ u = fset up d j (stm l (litX l a n).2) := by
  have hset : ∀ o, fget (fset up d j o) d j = some o := fun o => fget_fset_same _ _ _ _ _ hl
  have hp := hs.pos
  
  obtain ⟨r0, r1⟩ := nextV_range l a n hn
  have ok : ∀ b : Int, a ≤ b → b ≤ a + 10 → StmOk l b := fun b h1 h2 => ⟨hs.vals, hs.len, by omega, by omega⟩
  refine ACalls.code Try.func136 rfl 24 rfl (by simp) [.tmp 4] rfl fun Q hQ => ?_
  simp only [ups, PV.up, argEnv]
  have ft := And.intro ty_3 (And.intro ty_4 (And.intro ty_23 (And.intro ty_62 trivial)))
  refine Run.seq ?_
  have fx := And.intro hset (And.intro hl ft)
  refine Run.go ?_
  refine End.kp [0, 1] ?_
  refine Run.seq ?_
  refine Run.region rfl fun K hK => GOps.sim ?_
  refine GOps.call rfl rfl rfl rfl (by kernel_rfl) (ACalls.sim ?_)
  refine (Next_ok l a n hs (by omega) _ (d + 1) j hl).mono fun v u hv => ?_
  obtain ⟨rfl, rfl⟩ := hv
  refine ⟨_, _, rfl, GOps.sim ?_⟩
  refine GOps.done (hK _ ?_); clear hK K
  refine End.kp [0, 1, 5] ?_
  refine Run.seq ?_
  refine Run.seq ?_
  refine Run.region rfl fun K hK => GOps.sim ?_
  refine GOps.call rfl rfl rfl rfl (by kernel_rfl) (ACalls.sim ?_)
  refine (Next_ok l (a + 1) 2 (ok _ (by omega) (by omega)) (by omega) _ (d + 1) j (hset _)).mono fun v u hv => ?_
  obtain ⟨rfl, rfl⟩ := hv
  refine ⟨_, _, rfl, GOps.sim ?_⟩
  refine GOps.done (hK _ ?_); clear hK K
  refine End.kp [0, 1, 5, 11] ?_
  refine Run.cond _ rfl (fun hb => ?_) (fun hb => ?_)
  · have hb := eq_of_beq hb
    have hmin : (if (6 : Int) < n then 6 else n) = min n 6 := by split <;> omega
    obtain ⟨k0, k1⟩ := nextV_range l (a + 1 + 1) (min n 6) (by omega)
    obtain ⟨m0, m1⟩ := nextV_range l (a + 1 + 1 + 1) 2 (by omega)
    have w1 : IntKind.i64.wrap (n - 1) = n - 1 := wrap64 (by omega)
    have w2 : IntKind.i64.wrap (n - 1 - nextV l (a + 1 + 1) (min n 6)) = n - 1 - nextV l (a + 1 + 1) (min n 6) := wrap64 (by omega)
    have w3 : IntKind.i64.wrap (2 * (n - 1 - nextV l (a + 1 + 1) (min n 6))) = 2 * (n - 1 - nextV l (a + 1 + 1) (min n 6)) := wrap64 (by omega)
    have w4 : IntKind.i64.wrap (2 * (n - 1 - nextV l (a + 1 + 1) (min n 6)) + nextV l (a + 1 + 1 + 1) 2) = 2 * (n - 1 - nextV l (a + 1 + 1) (min n 6)) + nextV l (a + 1 + 1 + 1) 2 := wrap64 (by omega)
    have fx := And.intro w4 (And.intro w3 (And.intro w2 (And.intro w1 (And.intro hmin (And.intro hset (And.intro hl ft))))))
    refine Run.region rfl fun K hK => GOps.sim ?_
    refine GOps.call rfl rfl rfl rfl (by kernel_rfl) (ACalls.sim ?_)
    refine (Next_ok l (a + 1 + 1) (min n 6) (ok _ (by omega) (by omega)) (by omega) _ (d + 1) j (hset _)).mono fun v u hv => ?_
    obtain ⟨rfl, rfl⟩ := hv
    refine ⟨_, _, rfl, GOps.sim ?_⟩
    refine GOps.done (hK _ ?_); clear hK K
    refine End.kp [0, 5] ?_
    refine Run.seq ?_
    refine Run.region rfl fun K hK => GOps.sim ?_
    refine GOps.call rfl rfl rfl rfl (by kernel_rfl) (ACalls.sim ?_)
    refine (Next_ok l (a + 1 + 1 + 1) 2 (ok _ (by omega) (by omega)) (by omega) _ (d + 1) j (hset _)).mono fun v u hv => ?_
    obtain ⟨rfl, rfl⟩ := hv
    refine ⟨_, _, rfl, GOps.sim ?_⟩
    refine GOps.done (hK _ ?_); clear hK K
    refine End.kp [4] ?_
    refine Run.ret (hQ _ _ ⟨.inr rfl, _, rfl, _, rfl, ?_⟩)
    exact ⟨by simp [litX, hb], by simp [litX, hb]⟩
  · have hb : ¬ nextV l (a + 1) 2 = 0 := fun e => by simp [e] at hb
    obtain ⟨m0, m1⟩ := nextV_range l (a + 1 + 1) 2 (by omega)
    have w3 : IntKind.i64.wrap (2 * nextV l a n) = 2 * nextV l a n := wrap64 (by omega)
    have w4 : IntKind.i64.wrap (2 * nextV l a n + nextV l (a + 1 + 1) 2) = 2 * nextV l a n + nextV l (a + 1 + 1) 2 := wrap64 (by omega)
    refine Run.skip ?_
    refine End.kp [0, 5] ?_
    refine Run.seq ?_
    have fx := And.intro w4 (And.intro w3 (And.intro hset (And.intro hl ft)))
    refine Run.region rfl fun K hK => GOps.sim ?_
    refine GOps.call rfl rfl rfl rfl (by kernel_rfl) (ACalls.sim ?_)
    refine (Next_ok l (a + 1 + 1) 2 (ok _ (by omega) (by omega)) (by omega) _ (d + 1) j (hset _)).mono fun v u hv => ?_
    obtain ⟨rfl, rfl⟩ := hv
    refine ⟨_, _, rfl, GOps.sim ?_⟩
    refine GOps.done (hK _ ?_); clear hK K
    refine End.kp [4] ?_
    refine Run.ret (hQ _ _ ⟨.inr rfl, _, rfl, _, rfl, ?_⟩)
    exact ⟨by simp [litX, hb], by simp [litX, hb]⟩
theorem Graph_ok (ins regs ands outs : Nat) (h1 : ins ≤ 50) (h2 : regs ≤ 50) (h3 : ands ≤ 100) (h4 : outs ≤ 50) (l : List Int) (a : Int) (hs : StmOk l a) (hf : a + 10000 < 1099511627776) (up : Frs) (d j : Nat) (hl : fget up d j = some (stm l a)) (k : Nat) (hk : fget up 0 k = some .dead) :
    ACalls Try.prog 84 [.ptr d j 0, .i ins, .i regs, .i ands, .i outs] up fun v u => v = .agg [.im (.sl (strs (graphV l a ins regs ands outs).1.inn)), .im (.sl (strs (graphV l a ins regs ands outs).1.out)), .im (.sl ((graphV l a ins regs ands outs).1.regs.map LReg.im)), .ms 0 k ands, .im (.sl (ints (graphV l a ins regs ands outs).1.outs))] ∧
      u = fset (fset up d j (stm l (graphV l a ins regs ands outs).2)) 0 k (.row 137 2 ((graphV l a ins regs ands outs).1.ands.map nd) 0) := by
  have hset : ∀ o, fget (fset up d j o) d j = some o := fun o => fget_fset_same _ _ _ _ _ hl
  have hne : ¬ (0 = d ∧ k = j) := ref_ne hl hk (by simp)
  have hkset : ∀ o, fget (fset up d j o) 0 k = some .dead := fun o => by rw [fget_fset_ne hne]; exact hk
  have hp := hs.pos
  have ok : ∀ b : Int, a ≤ b → b ≤ a + 3000 → StmOk l b := fun b h1 h2 => ⟨hs.vals, hs.len, by omega, by omega⟩
  have wif : IntKind.i64.wrap ((ins : Int) + regs) = ((ins + regs : Nat) : Int) := by rw [wrap64 (by omega)]; omega
  generalize hG : graphV l a ins regs ands outs = G
  generalize hwv : wordsV l (ins + regs) 0 a = W
  obtain ⟨wn, a1⟩ := W
  obtain ⟨p1, p2, p3⟩ := wordsV_pos l (ins + regs) 0 a
  rw [hwv] at p1 p2 p3
  simp only at p1 p2 p3
  generalize hov : wordsV l outs 0 a1 = O
  obtain ⟨on, a2⟩ := O
  obtain ⟨q1, q2, q3⟩ := wordsV_pos l outs 0 a1
  rw [hov] at q1 q2 q3
  simp only at q1 q2 q3
  have hsi : (strs wn).length = ins + regs := by rw [strs_len, p3]
  have hslice : 0 ≤ ins ∧ ins = ins ∧ ins ≤ (strs wn).length ∧ szOk 1 0 (strs wn) := ⟨by omega, rfl, by omega, .inl rfl⟩
  have htake : (strs wn).take ins = strs (wn.take ins) := by simp [strs, List.map_take]
  have wf1 : IntKind.i64.wrap (1 + (ins : Int)) = 1 + (ins : Int) := wrap64 (by omega)
  have wf2 : IntKind.i64.wrap (1 + (ins : Int) + regs) = 1 + (ins : Int) + regs := wrap64 (by omega)
  obtain ⟨n, hn⟩ : ∃ f : Int, f = 1 + (ins : Int) + regs := ⟨_, rfl⟩
  have wf3 : IntKind.i64.wrap n = n := wrap64 (by omega)
  have wfg : IntKind.i64.wrap (n + ands) = n + ands := wrap64 (by omega)
  have pA : ∀ i : Nat, _ := drawN_pos (andX l n) a2 8 (andX_pos l n)
  generalize ha3 : (drawN (andX l n) a2 ands).2 = a3
  have pA3 := pA ands
  rw [ha3] at pA3
  have pR : ∀ i : Nat, _ := drawN_pos (regX l (n + ands) (wn.drop ins)) a3 5 (regX_pos l (n + ands) (wn.drop ins))
  generalize ha4 : (drawN (regX l (n + ands) (wn.drop ins)) a3 regs).2 = a4
  have pR4 := pR regs
  rw [ha4] at pR4
  have pO : ∀ i : Nat, _ := drawN_pos (fun _ b => litX l b (n + ands)) a4 4 (fun _ b => litX_pos l b (n + ands))
  have hN : G = (⟨wn.take ins, on, (drawN (regX l (n + ands) (wn.drop ins)) a3 regs).1, (drawN (andX l n) a2 ands).1, (drawN (fun _ b => litX l b (n + ands)) a4 outs).1⟩, (drawN (fun _ b => litX l b (n + ands)) a4 outs).2) := by
    have hc : ((1 + ins + regs : Nat) : Int) = n := by omega
    rw [← hG]
    simp only [graphV, hwv, hov, hc, ha3, ha4]
  refine ACalls.codeI Try.func84 rfl 94 rfl (by simp) [.cell 10 51] rfl k fun Q hQ => ?_
  simp only [ups, PV.up, argEnv]
  have ft := And.intro ty_2 (And.intro ty_3 (And.intro ty_4 (And.intro ty_9 (And.intro ty_23 (And.intro ty_26 (And.intro ty_47 (And.intro ty_48 (And.intro ty_49 (And.intro ty_51 (And.intro ty_62 (And.intro ty_69 (And.intro ty_137 trivial))))))))))))
  refine Run.seq ?_
  have fx := And.intro wif (And.intro hset (And.intro hl ft))
  refine Run.go ?_
  refine End.kp [0, 1, 2, 3, 4, 10] ?_
  refine Run.seq ?_
  refine Run.region rfl fun K hK => GOps.sim ?_
  refine GOps.call rfl rfl rfl rfl (by kernel_rfl) (ACalls.sim ?_)
  refine (Words_ok (ins + regs) (by omega) l a hs (by omega) _ (d + 1) j hl).mono fun v u hv => ?_
  obtain ⟨rfl, rfl⟩ := hv
  rw [hwv]
  have fx := And.intro (@Int.toNat_natCast) (And.intro (@Int.natCast_nonneg) (And.intro wf3 (And.intro hn.symm (And.intro wf2 (And.intro wf1 (And.intro htake (And.intro hslice (And.intro wif (And.intro hset (And.intro hl ft))))))))))
  refine ⟨_, _, rfl, GOps.sim ?_⟩
  refine GOps.done (hK _ ?_); clear hK K
  refine End.kp [0, 1, 2, 3, 4, 10, 11] ?_
  refine Run.seq ?_
  refine Run.ghost (.spares 1) ?_
  simp only [ASt.pushN, ASt.push, List.append_assoc, List.cons_append, List.nil_append]
  refine Run.drawA fun K hK => ?_
  refine DOps.sim ?_
  refine DOps.call (.im (.sl (strs on))) [((d + 1, j), stm l (a1))] [((d + 1, j), stm l (a2))] rfl rfl rfl rfl (by kernel_rfl) (by simp [Agree, ASt.fr, hset]) (fun u hu => by have := Words_ok outs (by omega) l a1 (ok _ (by omega) (by omega)) (by omega) u (d + 1) j (hu (((d + 1, j), stm l (a1))) (by simp)); rw [hov] at this; exact this) ?_
  refine DOps.sim ?_
  refine DOps.nil (by rfl) (hK _ ?_); clear hK K
  refine End.kp [0, 1, 2, 3, 4, 10, 11, 12] ?_
  refine Run.seq ?_
  refine Run.go ?_
  refine End.kp [0, 1, 2, 3, 4, 10, 11, 12, 13] ?_
  refine Run.seq ?_
  refine Run.seq ?_
  refine Run.go ?_
  refine End.kp [0, 1, 2, 3, 4, 10, 11, 12, 13, 33, 34] ?_
  refine Run.block ?_
  refine Run.ghost (.thawBox (j := 1) (i := 3) 137 2 (by decide) rfl rfl) ?_
  refine Run.ghost (Ghost.form [(0, .ptr (d + 1) j 0), (1, .i ins), (2, .i regs), (3, .i ands), (4, .i outs), (10, .ptr 0 0 0), (11, .im (.sl (strs wn))), (12, .ptr 0 1 0), (13, .i n), (33, .i ands), (34, .i (0 : Nat))] 3 ⟨rfl, rfl, rfl, rfl, rfl, rfl, rfl, rfl, rfl, rfl, rfl, trivial⟩ rfl rfl) ?_
  refine Run.loop (fun m s => ∃ i : Nat, m = ands - i ∧ i ≤ ands ∧ s = ⟨[(0, .ptr (d + 1) j 0), (1, .i ins), (2, .i regs), (3, .i ands), (4, .i outs), (10, .ptr 0 0 0), (11, .im (.sl (strs wn))), (12, .ptr 0 1 0), (13, .i n), (33, .i ands), (34, .i (i : Nat))], [.box [.nils, .nils, .nils, .nils, .nils], .box [.full (strs (wn.take ins)), .im (.sl (strs on)), .nils, .ms 0 2 i, .nils], .row 137 2 ((drawN (andX l n) a2 i).1.map nd) 0], fset up d j (stm l (drawN (andX l n) a2 i).2)⟩) ands ⟨0, rfl, by omega, rfl⟩ fun m s hI => ?_
  obtain ⟨i, rfl, hi, rfl⟩ := hI
  have hsl : ((drawN (andX l n) a2 i).1.map nd).length = i := by rw [nd_len, drawN_len]
  have pAi := pA i
  have hc : (drawN (andX l n) a2 i).2 ≤ a2 + 800 := by omega
  generalize hcA : (drawN (andX l n) a2 i).2 = c at pAi hc
  have wi : IntKind.i64.wrap ((i : Int) + 1) = ((i + 1 : Nat) : Int) := by rw [wrap64 (by omega)]; omega
  have wfi : IntKind.i64.wrap (n + (i : Int)) = n + (i : Int) := wrap64 (by omega)
  have hap : (i + 1) * 16 ≤ 140737488355328 := by omega
  have pl1 := litX_pos l c (n + i)
  refine Run.seq ?_
  have fx := And.intro hap (And.intro wfi (And.intro wi (And.intro hsl (And.intro (@Int.toNat_natCast) (And.intro (@Int.natCast_nonneg) (And.intro wf3 (And.intro hn.symm (And.intro wf2 (And.intro wf1 (And.intro htake (And.intro hslice (And.intro wif (And.intro hset (And.intro hl ft))))))))))))))
  refine Run.go ?_
  refine End.kp [0, 1, 2, 3, 4, 10, 11, 12, 13, 33, 34, 35] ?_
  refine Run.seq ?_
  refine Run.cond _ rfl (fun hb => ?_) (fun hb => ?_)
  · have hb := of_decide_eq_true hb
    have hin : i < ands := by omega
    refine Run.skip ?_
    refine End.kp [0, 1, 2, 3, 4, 10, 11, 12, 13, 33, 34] ?_
    refine Run.seq ?_
    refine Run.block ?_
    refine Run.seq ?_
    have fx := And.intro hap (And.intro wfi (And.intro wi (And.intro hsl (And.intro (@Int.toNat_natCast) (And.intro (@Int.natCast_nonneg) (And.intro wf3 (And.intro hn.symm (And.intro wf2 (And.intro wf1 (And.intro htake (And.intro hslice (And.intro wif (And.intro hset (And.intro hl ft))))))))))))))
    refine Run.go ?_
    refine End.kp [0, 1, 2, 3, 4, 10, 11, 12, 13, 14, 33, 34] ?_
    refine Run.ghost (.spares 1) ?_
    simp only [ASt.pushN, ASt.push, List.append_assoc, List.cons_append, List.nil_append]
    refine Run.drawA fun K hK => ?_
    refine DOps.sim ?_
    refine DOps.call (.i (litX l (c) (n + i)).1) [((d + 1, j), stm l (c))] [((d + 1, j), stm l ((litX l (c) (n + i)).2))] rfl rfl rfl rfl (by kernel_rfl) (by simp [Agree, ASt.fr, hset]) (fun u hu => lit_ok (n + i) (by omega) (by omega) l (c) (ok _ (by omega) (by omega)) (by omega) u (d + 1) j (hu (((d + 1, j), stm l (c))) (by simp))) ?_
    refine DOps.sim ?_
    refine DOps.call (.i (litX l ((litX l c (n + i)).2) (n + i)).1) [((d + 1, j), stm l ((litX l c (n + i)).2))] [((d + 1, j), stm l ((litX l ((litX l c (n + i)).2) (n + i)).2))] rfl rfl rfl rfl (by kernel_rfl) (by simp [Agree, ASt.fr, hset]) (fun u hu => lit_ok (n + i) (by omega) (by omega) l ((litX l c (n + i)).2) (ok _ (by omega) (by omega)) (by omega) u (d + 1) j (hu (((d + 1, j), stm l ((litX l c (n + i)).2))) (by simp))) ?_
    refine DOps.sim ?_
    refine DOps.nil (by rfl) (hK _ ?_); clear hK K
    refine End.blk ?_
    refine End.kp [0, 1, 2, 3, 4, 10, 11, 12, 13, 33, 34] ?_
    refine Run.go ?_
    refine End.lp ?_
    refine ⟨ands - (i + 1), _, by omega, Ghost.form [(0, .ptr (d + 1) j 0), (1, .i ins), (2, .i regs), (3, .i ands), (4, .i outs), (10, .ptr 0 0 0), (11, .im (.sl (strs wn))), (12, .ptr 0 1 0), (13, .i n), (33, .i ands), (34, .i (i + 1 : Nat))] 3 ⟨rfl, rfl, rfl, rfl, rfl, rfl, rfl, rfl, rfl, rfl, rfl, trivial⟩ rfl rfl, i + 1, rfl, by omega, ?_⟩
    simp [drawN, hcA, andX]
  · have hb := of_decide_eq_false hb
    have hiN : i = ands := by omega
    rw [hiN] at hsl hcA
    rw [ha3] at hcA
    subst hcA
    have hnf : ∀ k : Nat, k < regs → (strs wn)[ins + k]? = some [.str ((wn.drop ins).getD k ByteArray.empty)] := fun k hk => by
      have : ins + k < wn.length := by omega
      simp [this]
    refine Run.exit rfl ?_
    refine End.kp [0, 1, 2, 3, 4, 10, 11, 12, 13] ?_
    refine Run.seq ?_
    refine Run.seq ?_
    have fx := And.intro hsi (And.intro hap (And.intro wfi (And.intro wi (And.intro hsl (And.intro (@Int.toNat_natCast) (And.intro (@Int.natCast_nonneg) (And.intro wf3 (And.intro hn.symm (And.intro wf2 (And.intro wf1 (And.intro htake (And.intro hslice (And.intro wif (And.intro hset (And.intro hl ft)))))))))))))))
    refine Run.go ?_
    refine End.kp [0, 1, 3, 4, 10, 11, 12, 13, 54, 55] ?_
    refine Run.block ?_
    rw [hiN]
    refine Run.ghost (.thawBox (j := 1) (i := 2) 69 3 (by decide) rfl rfl) ?_
    refine Run.ghost (Ghost.form [(0, .ptr (d + 1) j 0), (1, .i ins), (3, .i ands), (4, .i outs), (10, .ptr 0 0 0), (11, .im (.sl (strs wn))), (12, .ptr 0 1 0), (13, .i n), (54, .i regs), (55, .i (0 : Nat))] 4 ⟨rfl, rfl, rfl, rfl, rfl, rfl, rfl, rfl, rfl, rfl, trivial⟩ rfl rfl) ?_
    refine Run.loop (fun m s => ∃ k : Nat, m = regs - k ∧ k ≤ regs ∧ s = ⟨[(0, .ptr (d + 1) j 0), (1, .i ins), (3, .i ands), (4, .i outs), (10, .ptr 0 0 0), (11, .im (.sl (strs wn))), (12, .ptr 0 1 0), (13, .i n), (54, .i regs), (55, .i (k : Nat))], [.box [.nils, .nils, .nils, .nils, .nils], .box [.full (strs (wn.take ins)), .im (.sl (strs on)), .ms 0 3 k, .ms 0 2 ands, .nils], .row 137 2 ((drawN (andX l n) a2 ands).1.map nd) 0, .row 69 3 ((drawN (regX l (n + ands) (wn.drop ins)) a3 k).1.map LReg.im) 0], fset up d j (stm l (drawN (regX l (n + ands) (wn.drop ins)) a3 k).2)⟩) regs ⟨0, rfl, by omega, rfl⟩ fun m s hI => ?_
    obtain ⟨k', rfl, hk', rfl⟩ := hI
    have hfl : ((drawN (regX l (n + ands) (wn.drop ins)) a3 k').1.map LReg.im).length = k' := by rw [rim_len, drawN_len]
    have pRi := pR k'
    have hc : (drawN (regX l (n + ands) (wn.drop ins)) a3 k').2 ≤ a3 + 250 := by omega
    generalize hcR : (drawN (regX l (n + ands) (wn.drop ins)) a3 k').2 = c at pRi hc
    have wk : IntKind.i64.wrap ((k' : Int) + 1) = ((k' + 1 : Nat) : Int) := by rw [wrap64 (by omega)]; omega
    have wik : IntKind.i64.wrap ((ins : Int) + k') = ((ins + k' : Nat) : Int) := by rw [wrap64 (by omega)]; omega
    have hak : (k' + 1) * 32 ≤ 140737488355328 := by omega
    have pl1 := litX_pos l c (n + ands)
    refine Run.seq ?_
    have fx := And.intro wfg (And.intro hak (And.intro wik (And.intro wk (And.intro hfl (And.intro hsi (And.intro hap (And.intro wfi (And.intro wi (And.intro hsl (And.intro (@Int.toNat_natCast) (And.intro (@Int.natCast_nonneg) (And.intro wf3 (And.intro hn.symm (And.intro wf2 (And.intro wf1 (And.intro htake (And.intro hslice (And.intro wif (And.intro hset (And.intro hl ft))))))))))))))))))))
    refine Run.go ?_
    refine End.kp [0, 1, 3, 4, 10, 11, 12, 13, 54, 55, 56] ?_
    refine Run.seq ?_
    refine Run.cond _ rfl (fun hb => ?_) (fun hb => ?_)
    · have hb := of_decide_eq_true hb
      have hkf : k' < regs := by omega
      have hnk := hnf k' hkf
      generalize hnm : (wn.drop ins).getD k' ByteArray.empty = nm at hnk
      refine Run.skip ?_
      refine End.kp [0, 1, 3, 4, 10, 11, 12, 13, 54, 55] ?_
      refine Run.seq ?_
      refine Run.block ?_
      refine Run.seq ?_
      have fx := And.intro hnk (And.intro wfg (And.intro hak (And.intro wik (And.intro wk (And.intro hfl (And.intro hsi (And.intro hap (And.intro wfi (And.intro wi (And.intro hsl (And.intro (@Int.toNat_natCast) (And.intro (@Int.natCast_nonneg) (And.intro wf3 (And.intro hn.symm (And.intro wf2 (And.intro wf1 (And.intro htake (And.intro hslice (And.intro wif (And.intro hset (And.intro hl ft)))))))))))))))))))))
      refine Run.go ?_
      refine End.kp [0, 1, 3, 4, 10, 11, 12, 13, 15, 54, 55] ?_
      refine Run.ghost (.spares 1) ?_
      simp only [ASt.pushN, ASt.push, List.append_assoc, List.cons_append, List.nil_append]
      refine Run.drawA fun K hK => ?_
      refine DOps.sim ?_
      refine DOps.call (.i (litX l (c) (n + ands)).1) [((d + 1, j), stm l (c))] [((d + 1, j), stm l ((litX l (c) (n + ands)).2))] rfl rfl rfl rfl (by kernel_rfl) (by simp [Agree, ASt.fr, hset]) (fun u hu => lit_ok (n + ands) (by omega) (by omega) l (c) (ok _ (by omega) (by omega)) (by omega) u (d + 1) j (hu (((d + 1, j), stm l (c))) (by simp))) ?_
      refine DOps.sim ?_
      refine DOps.call (.i (nextV l (litX l c (n + ands)).2 2)) [((d + 1, j), stm l ((litX l c (n + ands)).2))] [((d + 1, j), stm l ((litX l c (n + ands)).2 + 1))] rfl rfl rfl rfl (by kernel_rfl) (by simp [Agree, ASt.fr, hset]) (fun u hu => Next_ok l (litX l c (n + ands)).2 2 (ok _ (by omega) (by omega)) (by omega) u (d + 1) j (hu (((d + 1, j), stm l ((litX l c (n + ands)).2))) (by simp))) ?_
      refine DOps.sim ?_
      refine DOps.nil (by rfl) (hK _ ?_); clear hK K
      refine End.blk ?_
      refine End.kp [0, 1, 3, 4, 10, 11, 12, 13, 54, 55] ?_
      refine Run.go ?_
      refine End.lp ?_
      refine ⟨regs - (k' + 1), _, by omega, Ghost.form [(0, .ptr (d + 1) j 0), (1, .i ins), (3, .i ands), (4, .i outs), (10, .ptr 0 0 0), (11, .im (.sl (strs wn))), (12, .ptr 0 1 0), (13, .i n), (54, .i regs), (55, .i (k' + 1 : Nat))] 4 ⟨rfl, rfl, rfl, rfl, rfl, rfl, rfl, rfl, rfl, rfl, trivial⟩ rfl rfl, k' + 1, rfl, by omega, ?_⟩
      have hnm2 : wn[ins + k']?.getD ByteArray.empty = nm := by rw [← hnm]; simp
      simp [drawN, hcR, regX, hnm2]
    · have hb := of_decide_eq_false hb
      have hkR : k' = regs := by omega
      rw [hkR] at hfl hcR
      rw [ha4] at hcR
      subst hcR
      refine Run.exit rfl ?_
      refine End.kp [0, 3, 4, 10, 12, 13] ?_
      refine Run.seq ?_
      refine Run.seq ?_
      have fx := And.intro wfg (And.intro hak (And.intro wik (And.intro wk (And.intro hfl (And.intro hsi (And.intro hap (And.intro wfi (And.intro wi (And.intro hsl (And.intro (@Int.toNat_natCast) (And.intro (@Int.natCast_nonneg) (And.intro wf3 (And.intro hn.symm (And.intro wf2 (And.intro wf1 (And.intro htake (And.intro hslice (And.intro wif (And.intro hset (And.intro hl ft))))))))))))))))))))
      refine Run.go ?_
      refine End.kp [0, 3, 10, 12, 13, 79, 80] ?_
      refine Run.block ?_
      rw [hkR]
      refine Run.ghost (.thawBox (j := 1) (i := 4) 62 1 (by decide) rfl rfl) ?_
      refine Run.ghost (Ghost.form [(0, .ptr (d + 1) j 0), (3, .i ands), (10, .ptr 0 0 0), (12, .ptr 0 1 0), (13, .i n), (79, .i outs), (80, .i (0 : Nat))] 5 ⟨rfl, rfl, rfl, rfl, rfl, rfl, rfl, trivial⟩ rfl rfl) ?_
      refine Run.loop (fun m s => ∃ q : Nat, m = outs - q ∧ q ≤ outs ∧ s = ⟨[(0, .ptr (d + 1) j 0), (3, .i ands), (10, .ptr 0 0 0), (12, .ptr 0 1 0), (13, .i n), (79, .i outs), (80, .i (q : Nat))], [.box [.nils, .nils, .nils, .nils, .nils], .box [.full (strs (wn.take ins)), .im (.sl (strs on)), .ms 0 3 regs, .ms 0 2 ands, .ms 0 4 q], .row 137 2 ((drawN (andX l n) a2 ands).1.map nd) 0, .row 69 3 ((drawN (regX l (n + ands) (wn.drop ins)) a3 regs).1.map LReg.im) 0, .row 62 1 (ints (drawN (fun _ b => litX l b (n + ands)) a4 q).1) 0], fset up d j (stm l (drawN (fun _ b => litX l b (n + ands)) a4 q).2)⟩) outs ⟨0, rfl, by omega, rfl⟩ fun m s hI => ?_
      obtain ⟨q, rfl, hq, rfl⟩ := hI
      have hql : (ints (drawN (fun _ b => litX l b (n + ands)) a4 q).1).length = q := by rw [ints_len, drawN_len]
      have pOi := pO q
      have hc : (drawN (fun _ b => litX l b (n + ands)) a4 q).2 ≤ a4 + 200 := by omega
      generalize hcO : (drawN (fun _ b => litX l b (n + ands)) a4 q).2 = c at pOi hc
      have wq : IntKind.i64.wrap ((q : Int) + 1) = ((q + 1 : Nat) : Int) := by rw [wrap64 (by omega)]; omega
      have haq : (q + 1) * 8 ≤ 140737488355328 := by omega
      refine Run.seq ?_
      have fx := And.intro haq (And.intro wq (And.intro hql (And.intro wfg (And.intro hak (And.intro wik (And.intro wk (And.intro hfl (And.intro hsi (And.intro hap (And.intro wfi (And.intro wi (And.intro hsl (And.intro (@Int.toNat_natCast) (And.intro (@Int.natCast_nonneg) (And.intro wf3 (And.intro hn.symm (And.intro wf2 (And.intro wf1 (And.intro htake (And.intro hslice (And.intro wif (And.intro hset (And.intro hl ft)))))))))))))))))))))))
      refine Run.go ?_
      refine End.kp [0, 3, 10, 12, 13, 79, 80, 81] ?_
      refine Run.seq ?_
      refine Run.cond _ rfl (fun hb => ?_) (fun hb => ?_)
      · have hb := of_decide_eq_true hb
        have hqn : q < outs := by omega
        refine Run.skip ?_
        refine End.kp [0, 3, 10, 12, 13, 79, 80] ?_
        refine Run.seq ?_
        refine Run.block ?_
        refine Run.ghost (.spares 1) ?_
        simp only [ASt.pushN, ASt.push, List.append_assoc, List.cons_append, List.nil_append]
        have fx := And.intro haq (And.intro wq (And.intro hql (And.intro wfg (And.intro hak (And.intro wik (And.intro wk (And.intro hfl (And.intro hsi (And.intro hap (And.intro wfi (And.intro wi (And.intro hsl (And.intro (@Int.toNat_natCast) (And.intro (@Int.natCast_nonneg) (And.intro wf3 (And.intro hn.symm (And.intro wf2 (And.intro wf1 (And.intro htake (And.intro hslice (And.intro wif (And.intro hset (And.intro hl ft)))))))))))))))))))))))
        refine Run.drawA fun K hK => ?_
        refine DOps.sim ?_
        refine DOps.call (.i (litX l (c) (n + ands)).1) [((d + 1, j), stm l (c))] [((d + 1, j), stm l ((litX l (c) (n + ands)).2))] rfl rfl rfl rfl (by kernel_rfl) (by simp [Agree, ASt.fr, hset]) (fun u hu => lit_ok (n + ands) (by omega) (by omega) l (c) (ok _ (by omega) (by omega)) (by omega) u (d + 1) j (hu (((d + 1, j), stm l (c))) (by simp))) ?_
        refine DOps.sim ?_
        refine DOps.nil (by rfl) (hK _ ?_); clear hK K
        refine End.blk ?_
        refine End.kp [0, 3, 10, 12, 13, 79, 80] ?_
        refine Run.go ?_
        refine End.lp ?_
        refine ⟨outs - (q + 1), _, by omega, Ghost.form [(0, .ptr (d + 1) j 0), (3, .i ands), (10, .ptr 0 0 0), (12, .ptr 0 1 0), (13, .i n), (79, .i outs), (80, .i (q + 1 : Nat))] 5 ⟨rfl, rfl, rfl, rfl, rfl, rfl, rfl, trivial⟩ rfl rfl, q + 1, rfl, by omega, ?_⟩
        simp [drawN, hcO]
      · have hb := of_decide_eq_false hb
        have hqe : q = outs := by omega
        rw [hqe] at hql hcO
        subst hcO
        refine Run.exit rfl ?_
        refine End.kp [10, 12] ?_
        refine Run.seq ?_
        rw [hqe]
        refine Run.ghost (.freeze (d := 0) (j := 3) rfl) ?_
        refine Run.ghost (.freeze (d := 0) (j := 4) rfl) ?_
        refine Run.ghost (.boxAt (j := 1) (i := 2) rfl rfl) ?_
        refine Run.ghost (.boxAt (j := 1) (i := 4) rfl rfl) ?_
        refine Run.ghost (.boxAt (j := 1) (i := 0) rfl rfl) ?_
        have fx := And.intro haq (And.intro wq (And.intro hql (And.intro wfg (And.intro hak (And.intro wik (And.intro wk (And.intro hfl (And.intro hsi (And.intro hap (And.intro wfi (And.intro wi (And.intro hsl (And.intro (@Int.toNat_natCast) (And.intro (@Int.natCast_nonneg) (And.intro wf3 (And.intro hn.symm (And.intro wf2 (And.intro wf1 (And.intro htake (And.intro hslice (And.intro wif (And.intro hset (And.intro hl ft)))))))))))))))))))))))
        refine Run.go ?_
        refine End.kp [10] ?_
        refine Run.resI 2 hQ (hkset _) ?_
        rw [hN]
        exact ⟨rfl, rfl⟩
end Go.Proofs.YtkmnmokjlpenhaaPi
