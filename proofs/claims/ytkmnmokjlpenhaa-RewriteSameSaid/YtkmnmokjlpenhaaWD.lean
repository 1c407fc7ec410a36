/- The walk of the function that draws a netlist. -/
import Derived.Test.YtkmnmokjlpenhaaWC
set_option linter.unusedVariables false
set_option linter.unusedSimpArgs false
set_option maxRecDepth 100000
namespace Go.Proofs.YtkmnmokjlpenhaaPi

def netsV (l : List Int) (most : Int) : Nat → Int → List Int × Int
  | 0, a => ([], a)
  | k + 1, a => (netV l a most :: (netsV l most k (a + 1 + 1)).1, (netsV l most k (a + 1 + 1)).2)
theorem netsV_all (l : List Int) (most : Int) (h : 1 ≤ most) : ∀ (k : Nat) (a : Int), (netsV l most k a).2 = a + 2 * k ∧ (netsV l most k a).1.length = k ∧ ∀ x ∈ (netsV l most k a).1, 0 ≤ x ∧ x < most
  | 0, a => by simp [netsV]
  | k + 1, a => by
    obtain ⟨h1, h2, h3⟩ := netsV_all l most h k (a + 1 + 1)
    refine ⟨?_, ?_, ?_⟩
    · simp only [netsV]; omega
    · simp only [netsV, List.length_cons]; omega
    · intro x hx
      simp only [netsV, List.mem_cons] at hx
      rcases hx with rfl | hx
      · exact netV_range l a most h
      · exact h3 x hx
set_option maxHeartbeats 2000000
structure LGate where
  table : Int
  ins : List Int
abbrev LGate.im (g : LGate) : List Im := [.int .i64 (-1), .int .u64 g.table, .sl (ints g.ins)]
structure LFlop where
  name : ByteArray
  d : Int
  en : Int
  init : Bool
abbrev LFlop.im (f : LFlop) : List Im := [.str f.name, .int .i64 (-1), .int .i64 f.d, .int .i64 f.en, .bool f.init]
structure LNet where
  inn : List ByteArray
  out : List ByteArray
  flops : List LFlop
  gates : List LGate
  outs : List Int
abbrev LNet.pv (n : LNet) : PV := .agg [.im (.sl (strs n.inn)), .im (.sl (strs n.out)), .im (.sl (n.flops.map LFlop.im)), .im (.sl (n.gates.map LGate.im)), .im (.sl (ints n.outs))]
abbrev picks : List Int := [0, 1, 2, 2, 3, 3, 4, 5, 6]
def gateN (l : List Int) (a : Int) : Nat := (picks.getD (nextV l a 9).toNat 0).toNat
theorem gateN_le (l : List Int) (a : Int) : gateN l a ≤ 6 ∧ picks.getD (nextV l a 9).toNat 0 = gateN l a := by
  have key : ∀ k : Nat, 0 ≤ picks.getD k 0 ∧ picks.getD k 0 ≤ 6 := by
    intro k
    by_cases h : k < 9
    · have : k = 0 ∨ k = 1 ∨ k = 2 ∨ k = 3 ∨ k = 4 ∨ k = 5 ∨ k = 6 ∨ k = 7 ∨ k = 8 := by omega
      rcases this with rfl | rfl | rfl | rfl | rfl | rfl | rfl | rfl | rfl <;> decide
    · rw [List.getD_eq_getElem?_getD, List.getElem?_eq_none (by simp; omega)]
      decide
  have := key (nextV l a 9).toNat
  unfold gateN
  omega
def gateV (l : List Int) (a most : Int) : LGate × Int :=
  (⟨bits .and .u64 (wordV l (netsV l most (gateN l a) (a + 1)).2) (2 ^ ((2 : Int) ^ gateN l a).toNat - 1), (netsV l most (gateN l a) (a + 1)).1⟩, (netsV l most (gateN l a) (a + 1)).2 + 1 + 1 + 1)
theorem gateV_pos (l : List Int) (a most : Int) (h : 1 ≤ most) : a < (gateV l a most).2 ∧ (gateV l a most).2 ≤ a + 16 := by
  have h1 := (netsV_all l most h (gateN l a) (a + 1)).1
  have h2 := (gateN_le l a).1
  simp only [gateV]
  omega
def gatesV (l : List Int) (first : Int) : Nat → Nat → Int → List LGate × Int
  | 0, _, a => ([], a)
  | k + 1, i, a => ((gateV l a (first + i)).1 :: (gatesV l first k (i + 1) (gateV l a (first + i)).2).1, (gatesV l first k (i + 1) (gateV l a (first + i)).2).2)
theorem gatesV_pos (l : List Int) (first : Int) (h : 1 ≤ first) : ∀ (k i : Nat) (a : Int), a ≤ (gatesV l first k i a).2 ∧ (gatesV l first k i a).2 ≤ a + 16 * k ∧ (gatesV l first k i a).1.length = k
  | 0, i, a => by simp [gatesV]
  | k + 1, i, a => by
    have h1 := gateV_pos l a (first + i) (by omega)
    have h2 := gatesV_pos l first h k (i + 1) (gateV l a (first + i)).2
    refine ⟨?_, ?_, ?_⟩
    · simp only [gatesV]; omega
    · simp only [gatesV]; omega
    · simp only [gatesV, List.length_cons]; omega
def flopV (l : List Int) (a most : Int) (name : ByteArray) : LFlop × Int :=
  if nextV l (a + 1 + 1 + 1) 2 = 0 then (⟨name, netV l a most, netV l (a + 1 + 1 + 1 + 1) most, nextV l (a + 1 + 1) 2 == 0⟩, a + 1 + 1 + 1 + 1 + 1 + 1)
  else (⟨name, netV l a most, 1, nextV l (a + 1 + 1) 2 == 0⟩, a + 1 + 1 + 1 + 1)
theorem flopV_pos (l : List Int) (a most : Int) (nm : ByteArray) : a < (flopV l a most nm).2 ∧ (flopV l a most nm).2 ≤ a + 6 := by
  unfold flopV
  split <;> exact ⟨by simp only; omega, by simp only; omega⟩
def flopsV (l : List Int) (most : Int) : List ByteArray → Int → List LFlop × Int
  | [], a => ([], a)
  | nm :: ns, a => ((flopV l a most nm).1 :: (flopsV l most ns (flopV l a most nm).2).1, (flopsV l most ns (flopV l a most nm).2).2)
theorem flopsV_pos (l : List Int) (most : Int) : ∀ (ns : List ByteArray) (a : Int), a ≤ (flopsV l most ns a).2 ∧ (flopsV l most ns a).2 ≤ a + 6 * ns.length ∧ (flopsV l most ns a).1.length = ns.length
  | [], a => by simp [flopsV]
  | nm :: ns, a => by
    have h1 := flopV_pos l a most nm
    have h2 := flopsV_pos l most ns (flopV l a most nm).2
    refine ⟨?_, ?_, ?_⟩
    · simp only [flopsV]; omega
    · simp only [flopsV, List.length_cons]; omega
    · simp only [flopsV, List.length_cons]; omega
def netlistV (l : List Int) (a : Int) (ins flops gates outs : Nat) : LNet × Int :=
  let w := wordsV l (ins + flops) 0 a
  let o := wordsV l outs 0 w.2
  let first : Int := ((2 + ins + flops : Nat) : Int)
  let g := gatesV l first gates 0 o.2
  let f := flopsV l (first + gates) (w.1.drop ins) g.2
  let q := netsV l (first + gates) outs f.2
  (⟨w.1.take ins, o.1, f.1, g.1, q.1⟩, q.2)
theorem gim_len (l : List LGate) : (l.map LGate.im).length = l.length := by simp
theorem fim_len (l : List LFlop) : (l.map LFlop.im).length = l.length := by simp
theorem Netlist_ok (ins flops gates outs : Nat) (h1 : ins ≤ 50) (h2 : flops ≤ 50) (h3 : gates ≤ 50) (h4 : outs ≤ 50) (l : List Int) (a : Int) (hs : StmOk l a) (hf : a + 10000 < 1099511627776) (up : Frs) (d j : Nat) (hl : fget up d j = some (stm l a)) :
    ACalls Try.prog 15 [.ptr d j 0, .i ins, .i flops, .i gates, .i outs] up fun v u => v = (netlistV l a ins flops gates outs).1.pv ∧ u = fset up d j (stm l (netlistV l a ins flops gates outs).2) := by
  have hset : ∀ o, fget (fset up d j o) d j = some o := fun o => fget_fset_same _ _ _ _ _ hl
  have hp := hs.pos
  have wif : IntKind.i64.wrap ((ins : Int) + flops) = ((ins + flops : Nat) : Int) := by rw [wrap64 (by omega)]; omega
  generalize hwv : wordsV l (ins + flops) 0 a = W
  obtain ⟨wn, a1⟩ := W
  obtain ⟨p1, p2, p3⟩ := wordsV_pos l (ins + flops) 0 a
  rw [hwv] at p1 p2 p3
  simp only at p1 p2 p3
  generalize hov : wordsV l outs 0 a1 = O
  obtain ⟨on, a2⟩ := O
  obtain ⟨q1, q2, q3⟩ := wordsV_pos l outs 0 a1
  rw [hov] at q1 q2 q3
  simp only at q1 q2 q3
  have hs1 : StmOk l a1 := ⟨hs.vals, hs.len, by omega, by omega⟩
  have hs2 : StmOk l a2 := ⟨hs.vals, hs.len, by omega, by omega⟩
  have hsi : (strs wn).length = ins + flops := by rw [strs_len, p3]
  have hslice : 0 ≤ ins ∧ ins = ins ∧ ins ≤ (strs wn).length ∧ szOk 1 0 (strs wn) := ⟨by omega, rfl, by omega, .inl rfl⟩
  have htake : (strs wn).take ins = strs (wn.take ins) := by simp [strs, List.map_take]
  have wf1 : IntKind.i64.wrap (2 + (ins : Int)) = 2 + (ins : Int) := wrap64 (by omega)
  have wf2 : IntKind.i64.wrap (2 + (ins : Int) + flops) = 2 + (ins : Int) + flops := wrap64 (by omega)
  obtain ⟨first, hfirst⟩ : ∃ f : Int, f = 2 + (ins : Int) + flops := ⟨_, rfl⟩
  have wf3 : IntKind.i64.wrap first = first := wrap64 (by omega)
  have wfg : IntKind.i64.wrap (first + gates) = first + gates := wrap64 (by omega)
  obtain ⟨g1, g2, g3⟩ := gatesV_pos l first (by omega) gates 0 a2
  generalize hgv : gatesV l first gates 0 a2 = G
  obtain ⟨gs, a3⟩ := G
  rw [hgv] at g1 g2 g3
  simp only at g1 g2 g3
  obtain ⟨f1, f2, f3⟩ := flopsV_pos l (first + gates) (wn.drop ins) a3
  generalize hfv : flopsV l (first + gates) (wn.drop ins) a3 = FV
  obtain ⟨fs, a4⟩ := FV
  rw [hfv, List.length_drop, p3] at f2 f3
  rw [hfv] at f1
  simp only at f1 f2 f3
  obtain ⟨o1, o2, o3⟩ := netsV_all l (first + gates) (by omega) outs a4
  generalize hqv : netsV l (first + gates) outs a4 = QV
  obtain ⟨qs, a5⟩ := QV
  rw [hqv] at o1 o2 o3
  simp only at o1 o2 o3
  have hN : netlistV l a ins flops gates outs = (⟨wn.take ins, on, fs, gs, qs⟩, a5) := by
    have hc : ((2 + ins + flops : Nat) : Int) = first := by omega
    simp only [netlistV, hwv, hov, hc, hgv, hfv, hqv]
  refine ACalls.code Try.func15 rfl 124 rfl (by simp) [.cell 10 30] rfl fun Q hQ => ?_
  simp only [ups, PV.up, argEnv]
  have ft := And.intro ty_2 (And.intro ty_3 (And.intro ty_4 (And.intro ty_5 (And.intro ty_6 (And.intro ty_7 (And.intro ty_8 (And.intro ty_9 (And.intro ty_22 (And.intro ty_23 (And.intro ty_26 (And.intro ty_27 (And.intro ty_28 (And.intro ty_30 (And.intro ty_37 (And.intro ty_39 (And.intro ty_78 trivial))))))))))))))))
  refine Run.seq ?_
  have fx := And.intro wif (And.intro hset (And.intro hl ft))
  refine Run.go ?_
  refine End.kp [1, 2, 3, 4, 5, 10] ?_
  refine Run.seq ?_
  refine Run.region rfl fun K hK => GOps.sim ?_
  refine GOps.call rfl rfl rfl rfl (by kernel_rfl) (ACalls.sim ?_)
  refine (Words_ok (ins + flops) (by omega) l a hs (by omega) _ (d + 1) j hl).mono fun v u hv => ?_
  obtain ⟨rfl, rfl⟩ := hv
  rw [hwv]
  have fx := And.intro (@Int.toNat_natCast) (And.intro (@Int.natCast_nonneg) (And.intro hfirst.symm (And.intro wf3 (And.intro wf2 (And.intro wf1 (And.intro htake (And.intro hslice (And.intro wif (And.intro hset (And.intro hl ft))))))))))
  refine ⟨_, _, rfl, GOps.sim ?_⟩
  refine GOps.done (hK _ ?_); clear hK K
  refine End.kp [1, 2, 3, 4, 5, 10, 11] ?_
  refine Run.seq ?_
  refine Run.ghost (.spares 1) ?_
  simp only [ASt.pushN, ASt.push, List.append_assoc, List.cons_append, List.nil_append]
  refine Run.drawA fun K hK => ?_
  refine DOps.sim ?_
  refine DOps.call (.im (.sl (strs on))) [((d + 1, j), stm l (a1))] [((d + 1, j), stm l (a2))] rfl rfl rfl rfl (by kernel_rfl) (by simp [Agree, ASt.fr, hset]) (fun u hu => by have := Words_ok outs (by omega) l a1 hs1 (by omega) u (d + 1) j (hu (((d + 1, j), stm l (a1))) (by simp)); rw [hov] at this; exact this) ?_
  refine DOps.sim ?_
  refine DOps.nil (by rfl) (hK _ ?_); clear hK K
  refine End.kp [1, 2, 3, 4, 5, 10, 11, 12] ?_
  refine Run.seq ?_
  refine Run.go ?_
  refine End.kp [1, 2, 3, 4, 5, 10, 11, 12, 13] ?_
  refine Run.seq ?_
  refine Run.go ?_
  refine End.kp [1, 2, 3, 4, 5, 10, 11, 12, 13, 14] ?_
  refine Run.seq ?_
  refine Run.seq ?_
  refine Run.go ?_
  refine End.kp [1, 2, 3, 4, 5, 10, 11, 12, 13, 14, 37, 38] ?_
  refine Run.block ?_
  refine Run.ghost (.thawBox (j := 2) (i := 3) 39 3 (by decide) rfl rfl) ?_
  refine Run.ghost (Ghost.form [(1, .i ins), (2, .i flops), (3, .i gates), (4, .i outs), (5, .ptr 0 0 0), (10, .ptr 0 1 0), (11, .im (.sl (strs wn))), (12, .ptr 0 2 0), (13, .i first), (14, .fn 74 [.ptr 0 0 0]), (37, .i gates), (38, .i (0 : Nat))] 4 ⟨rfl, rfl, rfl, rfl, rfl, rfl, rfl, rfl, rfl, rfl, rfl, rfl, trivial⟩ rfl rfl) ?_
  refine Run.loop (fun m s => ∃ (i : Nat) (done : List LGate) (b : Int), m = gates - i ∧ i ≤ gates ∧ done.length = i ∧ (gatesV l first (gates - i) i b).2 = a3 ∧ done ++ (gatesV l first (gates - i) i b).1 = gs ∧ a2 ≤ b ∧ b ≤ a2 + 16 * i ∧
    s = ⟨[(1, .i ins), (2, .i flops), (3, .i gates), (4, .i outs), (5, .ptr 0 0 0), (10, .ptr 0 1 0), (11, .im (.sl (strs wn))), (12, .ptr 0 2 0), (13, .i first), (14, .fn 74 [.ptr 0 0 0]), (37, .i gates), (38, .i (i : Nat))], [.box [.ptr (d + 1) j 0], .box [.nils, .nils, .nils, .nils, .nils], .box [.full (strs (wn.take ins)), .im (.sl (strs on)), .nils, .ms 0 3 i, .nils], .row 39 3 (done.map LGate.im) 0], fset up d j (stm l b)⟩) gates ⟨0, [], a2, rfl, by omega, rfl, by rw [Nat.sub_zero, hgv], by rw [Nat.sub_zero, hgv]; rfl, by omega, by omega, rfl⟩ fun m s hI => ?_
  obtain ⟨i, done, b, rfl, hi, hdl, hw2, hw1, hb0, hb1, rfl⟩ := hI
  have hsl : (done.map LGate.im).length = i := by rw [gim_len, hdl]
  have hs0 : StmOk l b := ⟨hs.vals, hs.len, by omega, by omega⟩
  have hkn := (gateN_le l b).1
  have hgn : picks.getD (nextV l b (picks.length : Nat)).toNat 0 = (gateN l b : Int) := (gateN_le l b).2
  have wi : IntKind.i64.wrap ((i : Int) + 1) = ((i + 1 : Nat) : Int) := by rw [wrap64 (by omega)]; omega
  have wfi : IntKind.i64.wrap (first + (i : Int)) = first + (i : Int) := wrap64 (by omega)
  have hap : (i + 1) * 40 ≤ 140737488355328 := by omega
  refine Run.seq ?_
  have fx := And.intro hap (And.intro wfi (And.intro wi (And.intro hsl (And.intro (@Int.toNat_natCast) (And.intro (@Int.natCast_nonneg) (And.intro hfirst.symm (And.intro wf3 (And.intro wf2 (And.intro wf1 (And.intro htake (And.intro hslice (And.intro wif (And.intro hset (And.intro hl ft))))))))))))))
  refine Run.go ?_
  refine End.kp [1, 2, 3, 4, 5, 10, 11, 12, 13, 14, 37, 38, 39] ?_
  refine Run.seq ?_
  refine Run.cond _ rfl (fun hb => ?_) (fun hb => ?_)
  · have hb := of_decide_eq_true hb
    have hin : i < gates := by omega
    refine Run.skip ?_
    refine End.kp [1, 2, 3, 4, 5, 10, 11, 12, 13, 14, 37, 38] ?_
    refine Run.seq ?_
    refine Run.block ?_
    refine Run.seq ?_
    have fx := And.intro hap (And.intro wfi (And.intro wi (And.intro hsl (And.intro (@Int.toNat_natCast) (And.intro (@Int.natCast_nonneg) (And.intro hfirst.symm (And.intro wf3 (And.intro wf2 (And.intro wf1 (And.intro htake (And.intro hslice (And.intro wif (And.intro hset (And.intro hl ft))))))))))))))
    refine Run.go ?_
    refine End.kp [1, 2, 3, 4, 5, 10, 11, 12, 13, 14, 15, 37, 38] ?_
    refine Run.seq ?_
    refine Run.go ?_
    refine End.kp [1, 2, 3, 4, 5, 10, 11, 12, 13, 14, 15, 16, 37, 38] ?_
    refine Run.seq ?_
    refine Run.seq ?_
    refine Run.region rfl fun K hK => GOps.sim ?_
    refine GOps.call rfl rfl rfl rfl (by kernel_rfl) (ACalls.sim ?_)
    refine (Pick_ok picks (by decide) (by decide) l b hs0 (by omega) _ (d + 1) j (hset _)).mono fun v u hv => ?_
    obtain ⟨hv1, rfl⟩ := hv
    rw [hgn] at hv1
    subst hv1
    have fx := And.intro hap (And.intro wfi (And.intro wi (And.intro hsl (And.intro (@Int.toNat_natCast) (And.intro (@Int.natCast_nonneg) (And.intro hfirst.symm (And.intro wf3 (And.intro wf2 (And.intro wf1 (And.intro htake (And.intro hslice (And.intro wif (And.intro hset (And.intro hl ft))))))))))))))
    refine ⟨_, _, rfl, GOps.sim ?_⟩
    refine GOps.done (hK _ ?_); clear hK K
    refine End.kp [1, 2, 3, 4, 5, 10, 11, 12, 13, 14, 15, 16, 37, 38, 44, 45] ?_
    refine Run.block ?_
    refine Run.ghost (Ghost.form [(1, .i ins), (2, .i flops), (3, .i gates), (4, .i outs), (5, .ptr 0 0 0), (10, .ptr 0 1 0), (11, .im (.sl (strs wn))), (12, .ptr 0 2 0), (13, .i first), (14, .fn 74 [.ptr 0 0 0]), (15, .i (i : Nat)), (16, .ptr 0 4 0), (37, .i gates), (38, .i (i : Nat)), (44, .i (gateN l b)), (45, .i (0 : Nat))] 5 ⟨rfl, rfl, rfl, rfl, rfl, rfl, rfl, rfl, rfl, rfl, rfl, rfl, rfl, rfl, rfl, rfl, trivial⟩ rfl rfl) ?_
    refine Run.ghost (.thawBox (j := 4) (i := 2) 3 1 (by decide) rfl rfl) ?_
    obtain ⟨n1, n2, n3⟩ := netsV_all l (first + i) (by omega) (gateN l b) (b + 1)
    generalize hnv : netsV l (first + i) (gateN l b) (b + 1) = NV
    obtain ⟨is, cE⟩ := NV
    rw [hnv] at n1 n2 n3
    simp only at n1 n2 n3
    refine Run.loop (fun m s => ∃ (q : Nat) (dn : List Int) (c : Int), m = gateN l b - q ∧ q ≤ gateN l b ∧ dn.length = q ∧ c = b + 1 + 2 * q ∧ (netsV l (first + i) (gateN l b - q) c).2 = cE ∧ dn ++ (netsV l (first + i) (gateN l b - q) c).1 = is ∧
      s = ⟨[(1, .i ins), (2, .i flops), (3, .i gates), (4, .i outs), (5, .ptr 0 0 0), (10, .ptr 0 1 0), (11, .im (.sl (strs wn))), (12, .ptr 0 2 0), (13, .i first), (14, .fn 74 [.ptr 0 0 0]), (15, .i (i : Nat)), (16, .ptr 0 4 0), (37, .i gates), (38, .i (i : Nat)), (44, .i (gateN l b)), (45, .i (q : Nat))], [.box [.ptr (d + 1) j 0], .box [.nils, .nils, .nils, .nils, .nils], .box [.full (strs (wn.take ins)), .im (.sl (strs on)), .nils, .ms 0 3 i, .nils], .row 39 3 (done.map LGate.im) 0, .box [.im (.int .i64 (-1)), .im (.int .u64 0), .ms 0 5 q], .row 3 1 (ints dn) 0], fset up d j (stm l c)⟩) (gateN l b) ⟨0, [], b + 1, rfl, by omega, rfl, by omega, by rw [Nat.sub_zero, hnv], by rw [Nat.sub_zero, hnv]; rfl, rfl⟩ fun m s hI => ?_
    obtain ⟨q, dn, c, rfl, hq, hdn, hcq, hx2, hx1, rfl⟩ := hI
    have hql : (ints dn).length = q := by rw [ints_len, hdn]
    have wq : IntKind.i64.wrap ((q : Int) + 1) = ((q + 1 : Nat) : Int) := by rw [wrap64 (by omega)]; omega
    have haq : (q + 1) * 8 ≤ 140737488355328 := by omega
    refine Run.seq ?_
    have fx := And.intro haq (And.intro wq (And.intro hql (And.intro hap (And.intro wfi (And.intro wi (And.intro hsl (And.intro (@Int.toNat_natCast) (And.intro (@Int.natCast_nonneg) (And.intro hfirst.symm (And.intro wf3 (And.intro wf2 (And.intro wf1 (And.intro htake (And.intro hslice (And.intro wif (And.intro hset (And.intro hl ft)))))))))))))))))
    refine Run.go ?_
    refine End.kp [1, 2, 3, 4, 5, 10, 11, 12, 13, 14, 15, 16, 37, 38, 44, 45, 46] ?_
    refine Run.seq ?_
    refine Run.cond _ rfl (fun hb => ?_) (fun hb => ?_)
    · have hb := of_decide_eq_true hb
      have hqn : q < gateN l b := by omega
      refine Run.skip ?_
      refine End.kp [1, 2, 3, 4, 5, 10, 11, 12, 13, 14, 15, 16, 37, 38, 44, 45] ?_
      refine Run.seq ?_
      refine Run.block ?_
      refine Run.ghost (.spares 1) ?_
      simp only [ASt.pushN, ASt.push, List.append_assoc, List.cons_append, List.nil_append]
      have fx := And.intro haq (And.intro wq (And.intro hql (And.intro hap (And.intro wfi (And.intro wi (And.intro hsl (And.intro (@Int.toNat_natCast) (And.intro (@Int.natCast_nonneg) (And.intro hfirst.symm (And.intro wf3 (And.intro wf2 (And.intro wf1 (And.intro htake (And.intro hslice (And.intro wif (And.intro hset (And.intro hl ft)))))))))))))))))
      refine Run.drawA fun K hK => ?_
      refine DOps.sim ?_
      refine DOps.call (.i (netV l (c) (first + i))) [((0, 0), .box [.ptr (d + 1) j 0]), ((d + 1, j), stm l (c))] [((d + 1, j), stm l (c + 1 + 1))] rfl rfl rfl rfl (by kernel_rfl) (by simp [Agree, ASt.fr, hset]) (fun u hu => net_ok (first + i) (by omega) (by omega) 0 l (c) ⟨hs.vals, hs.len, by omega, by omega⟩ (by omega) u d j (hu (((d + 1, j), stm l (c))) (by simp)) (hu (((0, 0), .box [.ptr (d + 1) j 0])) (by simp))) ?_
      refine DOps.sim ?_
      refine DOps.nil (by rfl) (hK _ ?_); clear hK K
      refine End.blk ?_
      refine End.kp [1, 2, 3, 4, 5, 10, 11, 12, 13, 14, 15, 16, 37, 38, 44, 45] ?_
      refine Run.go ?_
      refine End.lp ?_
      have hni : netsV l (first + i) (gateN l b - q) c = (netV l c (first + i) :: (netsV l (first + i) (gateN l b - (q + 1)) (c + 1 + 1)).1, (netsV l (first + i) (gateN l b - (q + 1)) (c + 1 + 1)).2) := by
        rw [show gateN l b - q = (gateN l b - (q + 1)) + 1 by omega]
        rfl
      rw [hni] at hx1 hx2
      refine ⟨gateN l b - (q + 1), _, by omega, Ghost.form [(1, .i ins), (2, .i flops), (3, .i gates), (4, .i outs), (5, .ptr 0 0 0), (10, .ptr 0 1 0), (11, .im (.sl (strs wn))), (12, .ptr 0 2 0), (13, .i first), (14, .fn 74 [.ptr 0 0 0]), (15, .i (i : Nat)), (16, .ptr 0 4 0), (37, .i gates), (38, .i (i : Nat)), (44, .i (gateN l b)), (45, .i (q + 1 : Nat))] 6 ⟨rfl, rfl, rfl, rfl, rfl, rfl, rfl, rfl, rfl, rfl, rfl, rfl, rfl, rfl, rfl, rfl, trivial⟩ rfl rfl, q + 1, dn ++ [netV l c (first + i)], c + 1 + 1, rfl, by omega, by simp [hdn], by omega, hx2, by simpa using hx1, by simp⟩
    · have hb := of_decide_eq_false hb
      have hqe : q = gateN l b := by omega
      rw [hqe] at hql hdn
      subst hqe
      simp only [Nat.sub_self, netsV, List.append_nil] at hx1 hx2
      subst hx1 hx2
      have hng : ¬ ((gateN l b : Int) < 0) := by omega
      have hmn : min (gateN l b) IntKind.i64.bits = gateN l b := by simp only [IntKind.bits]; omega
      have pw : ∀ k : Nat, k ≤ 6 → (2 : Int) ^ k ≤ 64 ∧ (1 : Int) ≤ 2 ^ k := by
        intro k hk
        have : k = 0 ∨ k = 1 ∨ k = 2 ∨ k = 3 ∨ k = 4 ∨ k = 5 ∨ k = 6 := by omega
        rcases this with rfl | rfl | rfl | rfl | rfl | rfl | rfl <;> decide
      obtain ⟨pw1, pw2⟩ := pw _ hkn
      have wpw : IntKind.i64.wrap (1 * 2 ^ gateN l b) = 2 ^ gateN l b := by rw [Int.one_mul]; exact wrap64 (by omega)
      refine Run.exit rfl ?_
      refine End.kp [1, 2, 3, 4, 5, 10, 11, 12, 13, 14, 16, 37, 38] ?_
      refine Run.seq ?_
      have fx := And.intro wpw (And.intro hmn (And.intro hng (And.intro haq (And.intro wq (And.intro hql (And.intro hap (And.intro wfi (And.intro wi (And.intro hsl (And.intro (@Int.toNat_natCast) (And.intro (@Int.natCast_nonneg) (And.intro hfirst.symm (And.intro wf3 (And.intro wf2 (And.intro wf1 (And.intro htake (And.intro hslice (And.intro wif (And.intro hset (And.intro hl ft))))))))))))))))))))
      refine Run.drawA fun K hK => ?_
      refine DOps.sim ?_
      refine DOps.call (.u (wordV l c)) [((d + 1, j), stm l (c))] [((d + 1, j), stm l (c + 1 + 1 + 1))] rfl rfl rfl rfl (by kernel_rfl) (by simp [Agree, ASt.fr, hset]) (fun u hu => word_ok l c ⟨hs.vals, hs.len, by omega, by omega⟩ (by omega) u (d + 1) j (hu (((d + 1, j), stm l (c))) (by simp))) ?_
      refine DOps.sim ?_
      refine DOps.call (.u (2 ^ ((2 : Int) ^ gateN l b).toNat - 1)) [] [] rfl rfl rfl rfl (by kernel_rfl) (by simp [Agree]) (fun u hu => mask_ok ((2 : Int) ^ gateN l b) (by omega) pw1 u) ?_
      refine DOps.sim ?_
      refine DOps.nil (by rfl) (hK _ ?_); clear hK K
      refine End.kp [1, 2, 3, 4, 5, 10, 11, 12, 13, 14, 16, 37, 38] ?_
      refine Run.ghost (.freeze (d := 0) (j := 5) rfl) ?_
      have fx := And.intro wpw (And.intro hmn (And.intro hng (And.intro haq (And.intro wq (And.intro hql (And.intro hap (And.intro wfi (And.intro wi (And.intro hsl (And.intro (@Int.toNat_natCast) (And.intro (@Int.natCast_nonneg) (And.intro hfirst.symm (And.intro wf3 (And.intro wf2 (And.intro wf1 (And.intro htake (And.intro hslice (And.intro wif (And.intro hset (And.intro hl ft))))))))))))))))))))
      refine Run.go ?_
      refine End.blk ?_
      refine End.kp [1, 2, 3, 4, 5, 10, 11, 12, 13, 14, 37, 38] ?_
      refine Run.go ?_
      refine End.lp ?_
      have hgv2 : gateV l b (first + i) = (⟨bits .and .u64 (wordV l c) (2 ^ ((2 : Int) ^ gateN l b).toNat - 1), dn⟩, c + 1 + 1 + 1) := by simp only [gateV, hnv]
      have hgi : gatesV l first (gates - i) i b = ((gateV l b (first + i)).1 :: (gatesV l first (gates - (i + 1)) (i + 1) (gateV l b (first + i)).2).1, (gatesV l first (gates - (i + 1)) (i + 1) (gateV l b (first + i)).2).2) := by
        rw [show gates - i = (gates - (i + 1)) + 1 by omega]
        rfl
      rw [hgi, hgv2] at hw1 hw2
      refine ⟨gates - (i + 1), _, by omega, Ghost.form [(1, .i ins), (2, .i flops), (3, .i gates), (4, .i outs), (5, .ptr 0 0 0), (10, .ptr 0 1 0), (11, .im (.sl (strs wn))), (12, .ptr 0 2 0), (13, .i first), (14, .fn 74 [.ptr 0 0 0]), (37, .i gates), (38, .i (i + 1 : Nat))] 4 ⟨rfl, rfl, rfl, rfl, rfl, rfl, rfl, rfl, rfl, rfl, rfl, rfl, trivial⟩ rfl rfl, i + 1, done ++ [⟨bits .and .u64 (wordV l c) (2 ^ ((2 : Int) ^ gateN l b).toNat - 1), dn⟩], c + 1 + 1 + 1, rfl, by omega, by simp [hdl], hw2, by simpa using hw1, by omega, by omega, by simp⟩
  · have hb := of_decide_eq_false hb
    have hiN : i = gates := by omega
    rw [hiN, Nat.sub_self] at hw1 hw2
    simp only [gatesV, List.append_nil] at hw1 hw2
    subst hw2
    have hw1' := hw1.symm
    subst hw1'
    rw [hiN] at hsl
    
    have hnf : ∀ k : Nat, k < flops → (strs wn)[ins + k]? = some [.str (wn.getD (ins + k) ByteArray.empty)] := fun k hk => by
      have : ins + k < wn.length := by omega
      simp [this]
    have hdr : ∀ k : Nat, k < flops → wn.drop (ins + k) = wn.getD (ins + k) ByteArray.empty :: wn.drop (ins + (k + 1)) := fun k hk => by
      have h : ins + k < wn.length := by omega
      have e : wn.getD (ins + k) ByteArray.empty = wn[ins + k] := by simp [h]
      rw [e]
      exact List.drop_eq_getElem_cons h
    refine Run.exit rfl ?_
    refine End.kp [1, 2, 3, 4, 5, 10, 11, 12, 13, 14] ?_
    refine Run.seq ?_
    refine Run.seq ?_
    have fx := And.intro hsi (And.intro hap (And.intro wfi (And.intro wi (And.intro hsl (And.intro (@Int.toNat_natCast) (And.intro (@Int.natCast_nonneg) (And.intro hfirst.symm (And.intro wf3 (And.intro wf2 (And.intro wf1 (And.intro htake (And.intro hslice (And.intro wif (And.intro hset (And.intro hl ft)))))))))))))))
    refine Run.go ?_
    refine End.kp [1, 3, 4, 5, 10, 11, 12, 13, 14, 74, 75] ?_
    refine Run.block ?_
    refine Run.ghost (.thawBox (j := 2) (i := 2) 78 5 (by decide) rfl rfl) ?_
    refine Run.ghost (Ghost.form [(1, .i ins), (3, .i gates), (4, .i outs), (5, .ptr 0 0 0), (10, .ptr 0 1 0), (11, .im (.sl (strs wn))), (12, .ptr 0 2 0), (13, .i first), (14, .fn 74 [.ptr 0 0 0]), (74, .i flops), (75, .i (0 : Nat))] 5 ⟨rfl, rfl, rfl, rfl, rfl, rfl, rfl, rfl, rfl, rfl, rfl, trivial⟩ rfl rfl) ?_
    refine Run.loop (fun m s => ∃ (k : Nat) (fd : List LFlop) (c : Int), m = flops - k ∧ k ≤ flops ∧ fd.length = k ∧ (flopsV l (first + gates) (wn.drop (ins + k)) c).2 = a4 ∧ fd ++ (flopsV l (first + gates) (wn.drop (ins + k)) c).1 = fs ∧ b ≤ c ∧ c ≤ b + 6 * k ∧
      s = ⟨[(1, .i ins), (3, .i gates), (4, .i outs), (5, .ptr 0 0 0), (10, .ptr 0 1 0), (11, .im (.sl (strs wn))), (12, .ptr 0 2 0), (13, .i first), (14, .fn 74 [.ptr 0 0 0]), (74, .i flops), (75, .i (k : Nat))], [.box [.ptr (d + 1) j 0], .box [.nils, .nils, .nils, .nils, .nils], .box [.full (strs (wn.take ins)), .im (.sl (strs on)), .ms 0 4 k, .ms 0 3 gates, .nils], .row 39 3 (gs.map LGate.im) 0, .row 78 5 (fd.map LFlop.im) 0], fset up d j (stm l c)⟩) flops ⟨0, [], b, rfl, by omega, rfl, by rw [Nat.add_zero, hfv], by rw [Nat.add_zero, hfv]; rfl, by omega, by omega, by rw [hiN]; rfl⟩ fun m s hI => ?_
    obtain ⟨k, fd, c, rfl, hk, hfd, hy2, hy1, hc0, hc1, rfl⟩ := hI
    have hfl : (fd.map LFlop.im).length = k := by rw [fim_len, hfd]
    have wk : IntKind.i64.wrap ((k : Int) + 1) = ((k + 1 : Nat) : Int) := by rw [wrap64 (by omega)]; omega
    have wik : IntKind.i64.wrap ((ins : Int) + k) = ((ins + k : Nat) : Int) := by rw [wrap64 (by omega)]; omega
    have hak : (k + 1) * 48 ≤ 140737488355328 := by omega
    refine Run.seq ?_
    have fx := And.intro wfg (And.intro hak (And.intro wik (And.intro wk (And.intro hfl (And.intro hsi (And.intro hap (And.intro wfi (And.intro wi (And.intro hsl (And.intro (@Int.toNat_natCast) (And.intro (@Int.natCast_nonneg) (And.intro hfirst.symm (And.intro wf3 (And.intro wf2 (And.intro wf1 (And.intro htake (And.intro hslice (And.intro wif (And.intro hset (And.intro hl ft))))))))))))))))))))
    refine Run.go ?_
    refine End.kp [1, 3, 4, 5, 10, 11, 12, 13, 14, 74, 75, 76] ?_
    refine Run.seq ?_
    refine Run.cond _ rfl (fun hb => ?_) (fun hb => ?_)
    · have hb := of_decide_eq_true hb
      have hkf : k < flops := by omega
      have hnk := hnf k hkf
      have hdk := hdr k hkf
      generalize wn.getD (ins + k) ByteArray.empty = nm at hnk hdk
      refine Run.skip ?_
      refine End.kp [1, 3, 4, 5, 10, 11, 12, 13, 14, 74, 75] ?_
      refine Run.seq ?_
      refine Run.block ?_
      refine Run.seq ?_
      have fx := And.intro hnk (And.intro wfg (And.intro hak (And.intro wik (And.intro wk (And.intro hfl (And.intro hsi (And.intro hap (And.intro wfi (And.intro wi (And.intro hsl (And.intro (@Int.toNat_natCast) (And.intro (@Int.natCast_nonneg) (And.intro hfirst.symm (And.intro wf3 (And.intro wf2 (And.intro wf1 (And.intro htake (And.intro hslice (And.intro wif (And.intro hset (And.intro hl ft)))))))))))))))))))))
      refine Run.go ?_
      refine End.kp [1, 3, 4, 5, 10, 11, 12, 13, 14, 17, 74, 75] ?_
      refine Run.seq ?_
      refine Run.ghost (.spares 1) ?_
      simp only [ASt.pushN, ASt.push, List.append_assoc, List.cons_append, List.nil_append]
      refine Run.drawA fun K hK => ?_
      refine DOps.sim ?_
      refine DOps.call (.i (netV l (c) (first + gates))) [((0, 0), .box [.ptr (d + 1) j 0]), ((d + 1, j), stm l (c))] [((d + 1, j), stm l (c + 1 + 1))] rfl rfl rfl rfl (by kernel_rfl) (by simp [Agree, ASt.fr, hset]) (fun u hu => net_ok (first + gates) (by omega) (by omega) 0 l (c) ⟨hs.vals, hs.len, by omega, by omega⟩ (by omega) u d j (hu (((d + 1, j), stm l (c))) (by simp)) (hu (((0, 0), .box [.ptr (d + 1) j 0])) (by simp))) ?_
      refine DOps.sim ?_
      refine DOps.call (.i (nextV l (c + 1 + 1) 2)) [((d + 1, j), stm l (c + 1 + 1))] [((d + 1, j), stm l (c + 1 + 1 + 1))] rfl rfl rfl rfl (by kernel_rfl) (by simp [Agree, ASt.fr, hset]) (fun u hu => Next_ok l (c + 1 + 1) 2 ⟨hs.vals, hs.len, by omega, by omega⟩ (by omega) u (d + 1) j (hu (((d + 1, j), stm l (c + 1 + 1))) (by simp))) ?_
      refine DOps.sim ?_
      refine DOps.nil (by rfl) (hK _ ?_); clear hK K
      refine End.kp [1, 3, 4, 5, 10, 11, 12, 13, 14, 18, 74, 75] ?_
      refine Run.seq ?_
      refine Run.seq ?_
      refine Run.region rfl fun K hK => GOps.sim ?_
      refine GOps.call rfl rfl rfl rfl (by kernel_rfl) (ACalls.sim ?_)
      refine (Next_ok l (c + 1 + 1 + 1) 2 ⟨hs.vals, hs.len, by omega, by omega⟩ (by omega) _ (d + 1) j (hset _)).mono fun v u hv => ?_
      obtain ⟨rfl, rfl⟩ := hv
      refine ⟨_, _, rfl, GOps.sim ?_⟩
      refine GOps.done (hK _ ?_); clear hK K
      refine End.kp [1, 3, 4, 5, 10, 11, 12, 13, 14, 18, 74, 75, 95] ?_
      refine Run.cond _ rfl (fun hb => ?_) (fun hb => ?_)
      · have hb9 : nextV l (c + 1 + 1 + 1) 2 = 0 := eq_of_beq hb
        have fx := And.intro hnk (And.intro wfg (And.intro hak (And.intro wik (And.intro wk (And.intro hfl (And.intro hsi (And.intro hap (And.intro wfi (And.intro wi (And.intro hsl (And.intro (@Int.toNat_natCast) (And.intro (@Int.natCast_nonneg) (And.intro hfirst.symm (And.intro wf3 (And.intro wf2 (And.intro wf1 (And.intro htake (And.intro hslice (And.intro wif (And.intro hset (And.intro hl ft)))))))))))))))))))))
        refine Run.region rfl fun K hK => GOps.sim ?_
        refine GOps.call rfl rfl rfl rfl (by kernel_rfl) (ACalls.sim ?_)
        refine (net_ok (first + gates) (by omega) (by omega) 0 l (c + 1 + 1 + 1 + 1) ⟨hs.vals, hs.len, by omega, by omega⟩ (by omega) _ d j (hset _) rfl).mono fun v u hv => ?_
        obtain ⟨rfl, rfl⟩ := hv
        refine ⟨_, _, rfl, GOps.sim ?_⟩
        refine GOps.done (hK _ ?_); clear hK K
        refine End.kp [1, 3, 4, 5, 10, 11, 12, 13, 14, 18, 74, 75] ?_
        refine Run.go ?_
        refine End.blk ?_
        refine End.kp [1, 3, 4, 5, 10, 11, 12, 13, 14, 74, 75] ?_
        refine Run.go ?_
        refine End.lp ?_
        have hfi : flopV l c (first + gates) nm = (⟨nm, netV l c (first + gates), netV l (c + 1 + 1 + 1 + 1) (first + gates), nextV l (c + 1 + 1) 2 == 0⟩, c + 1 + 1 + 1 + 1 + 1 + 1) := by simp [flopV, hb9]
        rw [hdk, flopsV, hfi] at hy1 hy2
        refine ⟨flops - (k + 1), _, by omega, Ghost.form [(1, .i ins), (3, .i gates), (4, .i outs), (5, .ptr 0 0 0), (10, .ptr 0 1 0), (11, .im (.sl (strs wn))), (12, .ptr 0 2 0), (13, .i first), (14, .fn 74 [.ptr 0 0 0]), (74, .i flops), (75, .i (k + 1 : Nat))] 5 ⟨rfl, rfl, rfl, rfl, rfl, rfl, rfl, rfl, rfl, rfl, rfl, trivial⟩ rfl rfl, k + 1, fd ++ [⟨nm, netV l c (first + gates), netV l (c + 1 + 1 + 1 + 1) (first + gates), nextV l (c + 1 + 1) 2 == 0⟩], c + 1 + 1 + 1 + 1 + 1 + 1, rfl, by omega, by simp [hfd], hy2, by simpa using hy1, by omega, by omega, by simp⟩
      · have hb9 : ¬ nextV l (c + 1 + 1 + 1) 2 = 0 := fun e => by simp [e] at hb
        refine Run.skip ?_
        refine End.kp [1, 3, 4, 5, 10, 11, 12, 13, 14, 18, 74, 75] ?_
        have fx := And.intro hnk (And.intro wfg (And.intro hak (And.intro wik (And.intro wk (And.intro hfl (And.intro hsi (And.intro hap (And.intro wfi (And.intro wi (And.intro hsl (And.intro (@Int.toNat_natCast) (And.intro (@Int.natCast_nonneg) (And.intro hfirst.symm (And.intro wf3 (And.intro wf2 (And.intro wf1 (And.intro htake (And.intro hslice (And.intro wif (And.intro hset (And.intro hl ft)))))))))))))))))))))
        refine Run.go ?_
        refine End.blk ?_
        refine End.kp [1, 3, 4, 5, 10, 11, 12, 13, 14, 74, 75] ?_
        refine Run.go ?_
        refine End.lp ?_
        have hfi : flopV l c (first + gates) nm = (⟨nm, netV l c (first + gates), 1, nextV l (c + 1 + 1) 2 == 0⟩, c + 1 + 1 + 1 + 1) := by simp [flopV, hb9]
        rw [hdk, flopsV, hfi] at hy1 hy2
        refine ⟨flops - (k + 1), _, by omega, Ghost.form [(1, .i ins), (3, .i gates), (4, .i outs), (5, .ptr 0 0 0), (10, .ptr 0 1 0), (11, .im (.sl (strs wn))), (12, .ptr 0 2 0), (13, .i first), (14, .fn 74 [.ptr 0 0 0]), (74, .i flops), (75, .i (k + 1 : Nat))] 5 ⟨rfl, rfl, rfl, rfl, rfl, rfl, rfl, rfl, rfl, rfl, rfl, trivial⟩ rfl rfl, k + 1, fd ++ [⟨nm, netV l c (first + gates), 1, nextV l (c + 1 + 1) 2 == 0⟩], c + 1 + 1 + 1 + 1, rfl, by omega, by simp [hfd], hy2, by simpa using hy1, by omega, by omega, by simp⟩
    · have hb := of_decide_eq_false hb
      have hkF : k = flops := by omega
      rw [hkF, List.drop_eq_nil_of_le (by omega)] at hy1 hy2
      simp only [flopsV, List.append_nil] at hy1 hy2
      subst hy2
      have hy1' := hy1.symm
      subst hy1'
      rw [hkF] at hfl
      refine Run.exit rfl ?_
      refine End.kp [3, 4, 10, 12, 13, 14] ?_
      refine Run.seq ?_
      refine Run.seq ?_
      have fx := And.intro wfg (And.intro hak (And.intro wik (And.intro wk (And.intro hfl (And.intro hsi (And.intro hap (And.intro wfi (And.intro wi (And.intro hsl (And.intro (@Int.toNat_natCast) (And.intro (@Int.natCast_nonneg) (And.intro hfirst.symm (And.intro wf3 (And.intro wf2 (And.intro wf1 (And.intro htake (And.intro hslice (And.intro wif (And.intro hset (And.intro hl ft))))))))))))))))))))
      refine Run.go ?_
      refine End.kp [3, 10, 12, 13, 14, 109, 110] ?_
      refine Run.block ?_
      refine Run.ghost (.thawBox (j := 2) (i := 4) 3 1 (by decide) rfl rfl) ?_
      refine Run.ghost (Ghost.form [(3, .i gates), (10, .ptr 0 1 0), (12, .ptr 0 2 0), (13, .i first), (14, .fn 74 [.ptr 0 0 0]), (109, .i outs), (110, .i (0 : Nat))] 6 ⟨rfl, rfl, rfl, rfl, rfl, rfl, rfl, trivial⟩ rfl rfl) ?_
      refine Run.loop (fun m s => ∃ (q : Nat) (dn : List Int) (e : Int), m = outs - q ∧ q ≤ outs ∧ dn.length = q ∧ e = c + 2 * q ∧ (netsV l (first + gates) (outs - q) e).2 = a5 ∧ dn ++ (netsV l (first + gates) (outs - q) e).1 = qs ∧
        s = ⟨[(3, .i gates), (10, .ptr 0 1 0), (12, .ptr 0 2 0), (13, .i first), (14, .fn 74 [.ptr 0 0 0]), (109, .i outs), (110, .i (q : Nat))], [.box [.ptr (d + 1) j 0], .box [.nils, .nils, .nils, .nils, .nils], .box [.full (strs (wn.take ins)), .im (.sl (strs on)), .ms 0 4 flops, .ms 0 3 gates, .ms 0 5 q], .row 39 3 (gs.map LGate.im) 0, .row 78 5 (fs.map LFlop.im) 0, .row 3 1 (ints dn) 0], fset up d j (stm l e)⟩) outs ⟨0, [], c, rfl, by omega, rfl, by omega, by rw [Nat.sub_zero, hqv], by rw [Nat.sub_zero, hqv]; rfl, by rw [hkF]; rfl⟩ fun m s hI => ?_
      obtain ⟨q, dn, e, rfl, hq, hdn, hcq, hx2, hx1, rfl⟩ := hI
      have hql : (ints dn).length = q := by rw [ints_len, hdn]
      have wq : IntKind.i64.wrap ((q : Int) + 1) = ((q + 1 : Nat) : Int) := by rw [wrap64 (by omega)]; omega
      have haq : (q + 1) * 8 ≤ 140737488355328 := by omega
      refine Run.seq ?_
      have fx := And.intro haq (And.intro wq (And.intro hql (And.intro wfg (And.intro hak (And.intro wik (And.intro wk (And.intro hfl (And.intro hsi (And.intro hap (And.intro wfi (And.intro wi (And.intro hsl (And.intro (@Int.toNat_natCast) (And.intro (@Int.natCast_nonneg) (And.intro hfirst.symm (And.intro wf3 (And.intro wf2 (And.intro wf1 (And.intro htake (And.intro hslice (And.intro wif (And.intro hset (And.intro hl ft)))))))))))))))))))))))
      refine Run.go ?_
      refine End.kp [3, 10, 12, 13, 14, 109, 110, 111] ?_
      refine Run.seq ?_
      refine Run.cond _ rfl (fun hb => ?_) (fun hb => ?_)
      · have hb := of_decide_eq_true hb
        have hqn : q < outs := by omega
        refine Run.skip ?_
        refine End.kp [3, 10, 12, 13, 14, 109, 110] ?_
        refine Run.seq ?_
        refine Run.block ?_
        refine Run.ghost (.spares 1) ?_
        simp only [ASt.pushN, ASt.push, List.append_assoc, List.cons_append, List.nil_append]
        have fx := And.intro haq (And.intro wq (And.intro hql (And.intro wfg (And.intro hak (And.intro wik (And.intro wk (And.intro hfl (And.intro hsi (And.intro hap (And.intro wfi (And.intro wi (And.intro hsl (And.intro (@Int.toNat_natCast) (And.intro (@Int.natCast_nonneg) (And.intro hfirst.symm (And.intro wf3 (And.intro wf2 (And.intro wf1 (And.intro htake (And.intro hslice (And.intro wif (And.intro hset (And.intro hl ft)))))))))))))))))))))))
        refine Run.drawA fun K hK => ?_
        refine DOps.sim ?_
        refine DOps.call (.i (netV l (e) (first + gates))) [((0, 0), .box [.ptr (d + 1) j 0]), ((d + 1, j), stm l (e))] [((d + 1, j), stm l (e + 1 + 1))] rfl rfl rfl rfl (by kernel_rfl) (by simp [Agree, ASt.fr, hset]) (fun u hu => net_ok (first + gates) (by omega) (by omega) 0 l (e) ⟨hs.vals, hs.len, by omega, by omega⟩ (by omega) u d j (hu (((d + 1, j), stm l (e))) (by simp)) (hu (((0, 0), .box [.ptr (d + 1) j 0])) (by simp))) ?_
        refine DOps.sim ?_
        refine DOps.nil (by rfl) (hK _ ?_); clear hK K
        refine End.blk ?_
        refine End.kp [3, 10, 12, 13, 14, 109, 110] ?_
        refine Run.go ?_
        refine End.lp ?_
        have hni : netsV l (first + gates) (outs - q) e = (netV l e (first + gates) :: (netsV l (first + gates) (outs - (q + 1)) (e + 1 + 1)).1, (netsV l (first + gates) (outs - (q + 1)) (e + 1 + 1)).2) := by
          rw [show outs - q = (outs - (q + 1)) + 1 by omega]
          rfl
        rw [hni] at hx1 hx2
        refine ⟨outs - (q + 1), _, by omega, Ghost.form [(3, .i gates), (10, .ptr 0 1 0), (12, .ptr 0 2 0), (13, .i first), (14, .fn 74 [.ptr 0 0 0]), (109, .i outs), (110, .i (q + 1 : Nat))] 6 ⟨rfl, rfl, rfl, rfl, rfl, rfl, rfl, trivial⟩ rfl rfl, q + 1, dn ++ [netV l e (first + gates)], e + 1 + 1, rfl, by omega, by simp [hdn], by omega, hx2, by simpa using hx1, by simp⟩
      · have hb := of_decide_eq_false hb
        have hqe : q = outs := by omega
        rw [hqe, Nat.sub_self] at hx1 hx2
        simp only [netsV, List.append_nil] at hx1 hx2
        subst hx2
        have hx1' := hx1.symm
        subst hx1'
        rw [hqe] at hql
        refine Run.exit rfl ?_
        refine End.kp [10, 12] ?_
        refine Run.seq ?_
        rw [hqe]
        refine Run.ghost (.freeze (d := 0) (j := 3) rfl) ?_
        refine Run.ghost (.freeze (d := 0) (j := 4) rfl) ?_
        refine Run.ghost (.freeze (d := 0) (j := 5) rfl) ?_
        refine Run.ghost (.boxData (j := 2) rfl) ?_
        have fx := And.intro haq (And.intro wq (And.intro hql (And.intro wfg (And.intro hak (And.intro wik (And.intro wk (And.intro hfl (And.intro hsi (And.intro hap (And.intro wfi (And.intro wi (And.intro hsl (And.intro (@Int.toNat_natCast) (And.intro (@Int.natCast_nonneg) (And.intro hfirst.symm (And.intro wf3 (And.intro wf2 (And.intro wf1 (And.intro htake (And.intro hslice (And.intro wif (And.intro hset (And.intro hl ft)))))))))))))))))))))))
        refine Run.go ?_
        refine End.kp [10] ?_
        refine Run.resC hQ ?_
        rw [hN]
        exact ⟨rfl, rfl⟩
end Go.Proofs.YtkmnmokjlpenhaaPi
