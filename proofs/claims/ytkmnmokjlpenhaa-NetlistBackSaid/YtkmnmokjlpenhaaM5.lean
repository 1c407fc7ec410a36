/- Part 5 of the proof: the texts WKC, WKD, PBack, WGL, WKE, WKF, one behind the other. Each holds for every input that it names; no condition is hidden. -/
import Derived.Test.YtkmnmokjlpenhaaM4
import Derived.Test.YtkmnmokjlpenhaaM1
import Derived.Test.YtkmnmokjlpenhaaPiRes
import Derived.Test.YtkmnmokjlpenhaaM2
import Derived.Test.YtkmnmokjlpenhaaM3
/- The walk of With: the netlist of a graph. -/
set_option linter.unusedVariables false
set_option linter.unusedSimpArgs false
set_option maxRecDepth 100000
namespace Go.Proofs.YtkmnmokjlpenhaaPi
set_option maxHeartbeats 8000000
def wsAt (inn out : List ByteArray) (nf no : Nat) (I : List (Int × Int)) (G : List LGate) : List (Ref × AObj) :=
  [((0, 6), .map (mapI I)), ((0, 4), .row 39 3 (G.map LGate.im) 0), ((0, 2), .box [.im (.sl (strs inn)), .im (.sl (strs out)), .ms 0 3 nf, .ms 0 4 G.length, .ms 0 5 no])]
theorem at_ok (inn out : List ByteArray) (nf no : Nat) (I : List (Int × Int)) (G : List LGate) (l : Int) (h0 : 0 ≤ l) (h1 : l ≤ 1000000) (b1 : inn.length ≤ 1000) (b2 : nf ≤ 1000) (b3 : G.length ≤ 900) (u0 : Frs) (hu : Agree (((0, 7), .box [.map 0 6]) :: wsAt inn out nf no I G) u0) :
    ACalls Try.prog 156 [.i l, .ptr 0 7 0, .ptr 0 2 0] u0 fun v u => v = .i (atN (2 + inn.length + nf) l I G).1 ∧ u = wr u0 (wsAt inn out nf no (atN (2 + inn.length + nf) l I G).2.1 (atN (2 + inn.length + nf) l I G).2.2) := by
  have k7 : fget u0 0 7 = some (.box [.map 0 6]) := hu ((0, 7), .box [.map 0 6]) (by simp)
  have k6 : fget u0 0 6 = some (.map (mapI I)) := hu ((0, 6), .map (mapI I)) (by simp [wsAt])
  have k4 : fget u0 0 4 = some (.row 39 3 (G.map LGate.im) 0) := hu ((0, 4), .row 39 3 (G.map LGate.im) 0) (by simp [wsAt])
  have k2 : fget u0 0 2 = some (.box [.im (.sl (strs inn)), .im (.sl (strs out)), .ms 0 3 nf, .ms 0 4 G.length, .ms 0 5 no]) := hu ((0, 2), .box [.im (.sl (strs inn)), .im (.sl (strs out)), .ms 0 3 nf, .ms 0 4 G.length, .ms 0 5 no]) (by simp [wsAt])
  have self : u0 = wr u0 (wsAt inn out nf no I G) := by
    simp only [wsAt, wr]
    rw [fset_self u0 0 6 _ k6, fset_self u0 0 4 _ k4, fset_self u0 0 2 _ k2]
  unfold atN
  by_cases he : 1 < l ∧ l % 2 = 0
  · rw [if_pos he]
    exact (at_even inn out nf no I G l h0 h1 b1 b2 b3 u0 k7 k6 k2 k4 he).mono fun v u hv => ⟨hv.1, hv.2.trans self⟩
  · rw [if_neg he]
    cases hq : lookI l I 0 with
    | some p =>
      obtain ⟨q, k⟩ := p
      exact (at_old inn out nf no I G l h0 h1 b1 b2 b3 u0 k7 k6 k2 k4 he q k hq).mono fun v u hv => ⟨hv.1, hv.2.trans self⟩
    | none =>
      refine (at_new inn out nf no I G l h0 h1 b1 b2 b3 u0 k7 k6 k2 k4 he hq).mono fun v u hv => ⟨hv.1, hv.2.trans ?_⟩
      simp only [wsAt, wr, mapI, List.map_append, List.map_cons, List.map_nil, List.length_append, List.length_cons, List.length_nil, Nat.zero_add]
/-- The gate of an and. -/
def andG (p : Int × Int) : LGate := ⟨2 ^ (3 - (p.1 % 2 + 2 * (p.2 % 2))).toNat, [netOf p.1, netOf p.2]⟩
def stO (nb : Int) (S : List Int × List (Int × Int) × List LGate) (l : Int) : List Int × List (Int × Int) × List LGate := (S.1 ++ [(atN nb l S.2.1 S.2.2).1], (atN nb l S.2.1 S.2.2).2)
def stF (nb : Int) (S : List (Int × Int) × List (Int × Int) × List LGate) (p : Int × Int) : List (Int × Int) × List (Int × Int) × List LGate :=
  (S.1 ++ [((atN nb p.1 S.2.1 S.2.2).1, (atN nb p.2 (atN nb p.1 S.2.1 S.2.2).2.1 (atN nb p.1 S.2.1 S.2.2).2.2).1)], (atN nb p.2 (atN nb p.1 S.2.1 S.2.2).2.1 (atN nb p.1 S.2.1 S.2.2).2.2).2)
def flop0 (r : LReg) : LFlop := ⟨r.name, 0, 0, r.init⟩
def flopsAt (regs : List LReg) (ds : List (Int × Int)) : List LFlop := (List.range regs.length).map fun k => ⟨((regs.map LReg.name).getD k ByteArray.empty), (ds.getD k (0, 0)).1, (ds.getD k (0, 0)).2, ((regs.map LReg.init).getD k false)⟩
def nbG (g : LGraph) : Int := 2 + g.inn.length + g.regs.length
def outsS (g : LGraph) (i : Nat) : List Int × List (Int × Int) × List LGate := (g.outs.take i).foldl (stO (nbG g)) ([], [(0, 0), (1, 1)], g.ands.map andG)
def flopsS (g : LGraph) (d en : List Int) (i : Nat) : List (Int × Int) × List (Int × Int) × List LGate := ((d.zip en).take i).foldl (stF (nbG g)) ([], (outsS g g.outs.length).2)
/-- The netlist of a graph whose flip-flops take d under en. -/
def withV (g : LGraph) (d en : List Int) : LNet := ⟨g.inn, g.out, flopsAt g.regs (flopsS g d en g.regs.length).1, (flopsS g d en g.regs.length).2.2, (outsS g g.outs.length).1⟩
theorem outsS_next (g : LGraph) (i : Nat) (x : Int) (h : g.outs[i]? = some x) : outsS g (i + 1) = stO (nbG g) (outsS g i) x := by simp [outsS, List.take_add_one, h]
theorem flopsS_next (g : LGraph) (d en : List Int) (i : Nat) (x y : Int) (h : d[i]? = some x) (h2 : en[i]? = some y) : flopsS g d en (i + 1) = stF (nbG g) (flopsS g d en i) (x, y) := by
  have : (d.zip en)[i]? = some (x, y) := by rw [List.getElem?_zip_eq_some]; exact ⟨h, h2⟩
  simp [flopsS, List.take_add_one, this]
theorem atN_len (nb l : Int) (I : List (Int × Int)) (G : List LGate) : (atN nb l I G).2.2.length ≤ G.length + 1 := by
  unfold atN
  split
  · simp
  · split <;> simp
theorem outsS_len (g : LGraph) : ∀ i, i ≤ g.outs.length → (outsS g i).1.length = i ∧ (outsS g i).2.2.length ≤ g.ands.length + i
  | 0, _ => by simp [outsS]
  | i + 1, h => by
    obtain ⟨h1, h2⟩ := outsS_len g i (by omega)
    obtain ⟨x, hx⟩ : ∃ x, g.outs[i]? = some x := ⟨_, List.getElem?_eq_getElem (by omega)⟩
    rw [outsS_next g i x hx]
    have := atN_len (nbG g) x (outsS g i).2.1 (outsS g i).2.2
    simp only [stO, List.length_append, List.length_cons, List.length_nil]
    omega
theorem flopsS_len (g : LGraph) (d en : List Int) : ∀ i, i ≤ d.length → i ≤ en.length → (flopsS g d en i).1.length = i ∧ (flopsS g d en i).2.2.length ≤ g.ands.length + g.outs.length + 2 * i
  | 0, _, _ => by
    have := (outsS_len g g.outs.length (Nat.le_refl _)).2
    simp [flopsS]
    exact this
  | i + 1, h, h' => by
    obtain ⟨h1, h2⟩ := flopsS_len g d en i (by omega) (by omega)
    obtain ⟨x, hx⟩ : ∃ x, d[i]? = some x := ⟨_, List.getElem?_eq_getElem (by omega)⟩
    obtain ⟨y, hy⟩ : ∃ y, en[i]? = some y := ⟨_, List.getElem?_eq_getElem (by omega)⟩
    rw [flopsS_next g d en i x y hx hy]
    have h3 := atN_len (nbG g) x (flopsS g d en i).2.1 (flopsS g d en i).2.2
    have h4 := atN_len (nbG g) y (atN (nbG g) x (flopsS g d en i).2.1 (flopsS g d en i).2.2).2.1 (atN (nbG g) x (flopsS g d en i).2.1 (flopsS g d en i).2.2).2.2
    simp only [stF, List.length_append, List.length_cons, List.length_nil]
    omega
theorem flopsAt_len (regs : List LReg) (ds : List (Int × Int)) : (flopsAt regs ds).length = regs.length := by simp [flopsAt]
theorem flopsAt_nil (regs : List LReg) : flopsAt regs [] = regs.map flop0 := by
  refine List.ext_getElem? fun k => ?_
  by_cases h : k < regs.length
  · simp [flopsAt, h, flop0]
  · rw [List.getElem?_eq_none (by rw [flopsAt_len]; omega), List.getElem?_eq_none (by simp; omega)]
theorem flopsAt_get (regs : List LReg) (ds : List (Int × Int)) (k : Nat) (r : LReg) (h : regs[k]? = some r) : (flopsAt regs ds)[k]? = some ⟨r.name, (ds.getD k (0, 0)).1, (ds.getD k (0, 0)).2, r.init⟩ := by
  obtain ⟨hk, he⟩ := List.getElem?_eq_some_iff.1 h
  subst he
  simp [flopsAt, hk, List.getD_eq_getElem?_getD]
theorem flopsAt_set (regs : List LReg) (ds : List (Int × Int)) (r : LReg) (v1 v2 : Int) (h : regs[ds.length]? = some r) : (flopsAt regs ds).set ds.length ⟨r.name, v1, v2, r.init⟩ = flopsAt regs (ds ++ [(v1, v2)]) := by
  refine List.ext_getElem? fun k => ?_
  rw [List.getElem?_set, flopsAt_len]
  have hk := (List.getElem?_eq_some_iff.1 h).1
  by_cases e : ds.length = k
  · subst e
    rw [if_pos rfl, if_pos hk, flopsAt_get _ _ _ r h]
    simp [List.getD_eq_getElem?_getD]
  · rw [if_neg e]
    by_cases h2 : k < regs.length
    · obtain ⟨r2, hr2⟩ : ∃ r2, regs[k]? = some r2 := ⟨_, List.getElem?_eq_getElem h2⟩
      rw [flopsAt_get _ _ _ r2 hr2, flopsAt_get _ _ _ r2 hr2]
      have : (ds ++ [(v1, v2)]).getD k (0, 0) = ds.getD k (0, 0) := by
        simp only [List.getD_eq_getElem?_getD]
        by_cases h3 : k < ds.length
        · rw [List.getElem?_append_left h3]
        · rw [List.getElem?_append_right (by omega), List.getElem?_eq_none (l := ds) (by omega), List.getElem?_eq_none (by simp; omega)]
      rw [this]
    · rw [List.getElem?_eq_none (by rw [flopsAt_len]; omega), List.getElem?_eq_none (by rw [flopsAt_len]; omega)]
theorem wsAt_eq (inn out : List ByteArray) (nf no : Nat) (I : List (Int × Int)) (G : List LGate) : wsAt inn out nf no I G = [((0, 6), .map (mapI I)), ((0, 4), .row 39 3 (G.map LGate.im) 0), ((0, 2), .box [.im (.sl (strs inn)), .im (.sl (strs out)), .ms 0 3 nf, .ms 0 4 G.length, .ms 0 5 no])] := rfl
theorem ConcatDE_ok (d en : List Int) (h1 : d.length ≤ 1000) (h2 : en.length ≤ 1000) (up : Frs) : ACalls Try.prog 154 [.im (.sl [[.sl (ints d)], [.sl (ints en)]])] up fun v u => v = .im (.sl (ints (d ++ en))) ∧ u = up := by
  by_cases h : 0 < sumL [d, en]
  · have := ConcatL_ok [d, en] h (by simp [sumL]; omega) (by simp) up
    simpa using this
  · have e1 : d = [] := by cases d with | nil => rfl | cons x l => simp [sumL] at h
    have e2 : en = [] := by cases en with | nil => rfl | cons x l => simp [sumL] at h
    subst e1 e2
    exact ConcatL0_ok up
theorem and_k (a b : Int) (ha : 0 ≤ a) (hb : 0 ≤ b) : ∃ k : Nat, k ≤ 3 ∧ bits .andNot .i64 3 (bits .or .i64 (a % 2) (IntKind.i64.wrap (b % 2 * 2 ^ min 1 IntKind.i64.bits))) = (k : Int) ∧ (3 - (a % 2 + 2 * (b % 2))).toNat = k := by
  rcases (show a % 2 = 0 ∨ a % 2 = 1 by omega) with h1 | h1 <;> rcases (show b % 2 = 0 ∨ b % 2 = 1 by omega) with h2 | h2 <;> rw [h1, h2]
  · exact ⟨3, by decide, by decide, by decide⟩
  · exact ⟨1, by decide, by decide, by decide⟩
  · exact ⟨2, by decide, by decide, by decide⟩
  · exact ⟨0, by decide, by decide, by decide⟩
theorem With_ok (g : LGraph) (hg : GraphOk g) (h100 : g.ands.length ≤ 100) (d en : List Int) (hd : d.length = g.regs.length) (he : en.length = g.regs.length) (hr : ∀ x ∈ d ++ en, 0 ≤ x ∧ x < 2 * (1 + (g.inn.length : Int) + g.regs.length + g.ands.length)) (hok : NetOk (withV g d en)) (up : Frs) : ACalls Try.prog 130 [g.pv, .im (.sl (ints d)), .im (.sl (ints en))] up fun v u => v = .tup [(withV g d en).pv, .i 0] ∧ u = up := by
  have hg2 := hg
  obtain ⟨z1, z2, z3, z4, z5⟩ := hg.small
  have e1 : ((d.length : Int) != g.regs.length) = false := by rw [hd]; simp
  have e2 : ((en.length : Int) != g.regs.length) = false := by rw [he]; simp
  refine ACalls.code Try.func130 rfl 176 rfl (by simp) [.cell 6 30, .tmp 7] rfl fun Q hQ => ?_
  simp only [ups, PV.up, argEnv]
  have ft := And.intro ty_2 (And.intro ty_3 (And.intro ty_4 (And.intro ty_9 (And.intro ty_22 (And.intro ty_26 (And.intro ty_27 (And.intro ty_28 (And.intro ty_30 (And.intro ty_34 (And.intro ty_37 (And.intro ty_39 (And.intro ty_47 (And.intro ty_48 (And.intro ty_49 (And.intro ty_51 (And.intro ty_62 (And.intro ty_69 (And.intro ty_78 (And.intro ty_137 (And.intro ty_188 (And.intro ty_206 (And.intro ty_212 trivial))))))))))))))))))))))
  refine Run.seq ?_
  have fx := And.intro e2 (And.intro e1 (And.intro ints_len (And.intro nd_len (And.intro rim_len (And.intro strs_len ft)))))
  refine Run.go ?_
  refine End.kp [1, 2, 3, 6] ?_
  refine Run.seq ?_
  refine Run.seq ?_
  refine Run.region rfl fun K hK => GOps.sim ?_
  refine GOps.call rfl rfl rfl rfl (by kernel_rfl) (ACalls.sim ?_)
  refine (Check_ok g hg _).mono fun v u hv => ?_
  obtain ⟨rfl, rfl⟩ := hv
  refine ⟨_, _, rfl, GOps.sim ?_⟩
  refine GOps.done (hK _ ?_); clear hK K
  refine End.kp [1, 2, 3, 6, 8] ?_
  refine Run.seq ?_
  refine Run.go ?_
  refine End.kp [1, 2, 3, 6, 8, 26] ?_
  refine Run.cond _ rfl (fun hb => ?_) (fun hb => ?_)
  · have hb2 := hb
    simp at hb
  · have hb2 := hb
    refine Run.skip ?_
    refine End.kp [1, 2, 3, 6] ?_
    refine Run.seq ?_
    refine Run.seq ?_
    have fx := And.intro e2 (And.intro e1 (And.intro ints_len (And.intro nd_len (And.intro rim_len (And.intro strs_len ft)))))
    refine Run.go ?_
    refine End.kp [1, 2, 3, 6, 42] ?_
    refine Run.cond _ rfl (fun hb => ?_) (fun hb => ?_)
    · have hb2 := hb
      simp at hb
    · have hb2 := hb
      refine Run.skip ?_
      refine End.kp [1, 2, 3, 6] ?_
      refine Run.seq ?_
      refine Run.seq ?_
      have fx := And.intro e2 (And.intro e1 (And.intro ints_len (And.intro nd_len (And.intro rim_len (And.intro strs_len ft)))))
      refine Run.region rfl fun K hK => GOps.sim ?_
      refine GOps.call rfl rfl rfl rfl (by kernel_rfl) (ACalls.sim ?_)
      refine (ConcatDE_ok d en (by omega) (by omega) _).mono fun v u hv => ?_
      obtain ⟨rfl, rfl⟩ := hv
      refine ⟨_, _, rfl, GOps.sim ?_⟩
      refine GOps.done (hK _ ?_); clear hK K
      refine End.kp [1, 2, 3, 6, 47, 48, 49] ?_
      refine Run.block ?_
      refine Run.ghost (Ghost.form [(1, .im (.sl (ints d))), (2, .im (.sl (ints en))), (3, .ptr 0 0 0), (6, .ptr 0 1 0), (47, .im (.sl (ints (d ++ en)))), (48, .i (d ++ en).length), (49, .i (0 : Nat))] 2 ⟨rfl, rfl, rfl, rfl, rfl, rfl, rfl, trivial⟩ rfl rfl) ?_
      refine Run.loop (fun m s => ∃ i : Nat, m = (d ++ en).length - i ∧ i ≤ (d ++ en).length ∧ s = ⟨[(1, .im (.sl (ints d))), (2, .im (.sl (ints en))), (3, .ptr 0 0 0), (6, .ptr 0 1 0), (47, .im (.sl (ints (d ++ en)))), (48, .i (d ++ en).length), (49, .i (i : Nat))], [.box [.im (.sl (strs g.inn)), .im (.sl (strs g.out)), .im (.sl (g.regs.map LReg.im)), .im (.sl (g.ands.map nd)), .im (.sl (ints g.outs))], .box [.nils, .nils, .nils, .nils, .nils]], up⟩) (d ++ en).length ⟨0, rfl, by omega, rfl⟩ fun m s hI => ?_
      obtain ⟨i, rfl, hi, rfl⟩ := hI
      refine Run.seq ?_
      have fx := And.intro e2 (And.intro e1 (And.intro ints_len (And.intro nd_len (And.intro rim_len (And.intro strs_len ft)))))
      refine Run.go ?_
      refine End.kp [1, 2, 3, 6, 47, 48, 49, 50] ?_
      refine Run.seq ?_
      refine Run.cond _ rfl (fun hb => ?_) (fun hb => ?_)
      · have hb3 := of_decide_eq_true hb
        have hin : i < (d ++ en).length := by omega
        have wi := wsucc hin (by rw [List.length_append]; omega)
        obtain ⟨x, hxi, hxm, hx⟩ := int_at (d ++ en) i hin
        obtain ⟨x1, x2⟩ := hr x hxm
        have hq := tdiv2 x x1 (by omega)
        have c1 : decide (x < 0) = false := decide_eq_false (by omega)
        have c2 : decide (1 + (g.inn.length : Int) + g.regs.length + g.ands.length ≤ x / 2) = false := decide_eq_false (by omega)
        refine Run.skip ?_
        refine End.kp [1, 2, 3, 6, 47, 48, 49] ?_
        refine Run.seq ?_
        refine Run.block ?_
        refine Run.seq ?_
        have fx := And.intro (@Int.toNat_natCast) (And.intro (@Int.natCast_nonneg) (And.intro (@ge_iff_le Int _) (And.intro c2 (And.intro c1 (And.intro hq (And.intro hx (And.intro wi (And.intro e2 (And.intro e1 (And.intro ints_len (And.intro nd_len (And.intro rim_len (And.intro strs_len ft)))))))))))))
        refine Run.go ?_
        refine End.kp [1, 2, 3, 6, 10, 47, 48, 49] ?_
        refine Run.seq ?_
        refine Run.region rfl fun K hK => GOps.sim ?_
        refine GOps.call rfl rfl rfl rfl (by kernel_rfl) (ACalls.sim ?_)
        refine (GNodes_ok g hg.small _).mono fun v u hv => ?_
        obtain ⟨rfl, rfl⟩ := hv
        refine ⟨_, _, rfl, GOps.sim ?_⟩
        refine GOps.done (hK _ ?_); clear hK K
        refine End.kp [1, 2, 3, 6, 47, 48, 49, 61] ?_
        refine Run.cond _ rfl (fun hb => ?_) (fun hb => ?_)
        · have hb2 := hb
          simp at hb
        · have hb2 := hb
          refine Run.skip ?_
          refine End.blk ?_
          refine End.kp [1, 2, 3, 6, 47, 48, 49] ?_
          have fx := And.intro (@Int.toNat_natCast) (And.intro (@Int.natCast_nonneg) (And.intro (@ge_iff_le Int _) (And.intro c2 (And.intro c1 (And.intro hq (And.intro hx (And.intro wi (And.intro e2 (And.intro e1 (And.intro ints_len (And.intro nd_len (And.intro rim_len (And.intro strs_len ft)))))))))))))
          refine Run.go ?_
          refine End.lp ?_
          refine ⟨(d ++ en).length - (i + 1), _, by omega, Ghost.form [(1, .im (.sl (ints d))), (2, .im (.sl (ints en))), (3, .ptr 0 0 0), (6, .ptr 0 1 0), (47, .im (.sl (ints (d ++ en)))), (48, .i (d ++ en).length), (49, .i (i + 1 : Nat))] 2 ⟨rfl, rfl, rfl, rfl, rfl, rfl, rfl, trivial⟩ rfl rfl, i + 1, rfl, by omega, rfl⟩
      · have hb3 := hb
        refine Run.exit rfl ?_
        refine End.kp [1, 2, 3, 6] ?_
        refine Run.seq ?_
        refine Run.ghost (.spares 1) ?_
        simp only [ASt.pushN, ASt.push, List.append_assoc, List.cons_append, List.nil_append]
        have fx := And.intro e2 (And.intro e1 (And.intro ints_len (And.intro nd_len (And.intro rim_len (And.intro strs_len ft)))))
        refine Run.drawA fun K hK => ?_
        refine DOps.sim ?_
        refine DOps.call (.im (.sl (strs g.inn))) [] [] rfl rfl rfl rfl (by kernel_rfl) (by simp [Agree]) (fun u hu => CloneS_ok g.inn (by omega) u) ?_
        refine DOps.sim ?_
        refine DOps.call (.im (.sl (strs g.out))) [] [] rfl rfl rfl rfl (by kernel_rfl) (by simp [Agree]) (fun u hu => CloneS_ok g.out (by omega) u) ?_
        refine DOps.sim ?_
        refine DOps.nil (by rfl) (hK _ ?_); clear hK K
        refine End.kp [1, 2, 3, 6, 11] ?_
        refine Run.seq ?_
        refine Run.seq ?_
        refine Run.go ?_
        refine End.kp [1, 2, 3, 6, 11, 72, 73, 74] ?_
        refine Run.block ?_
        refine Run.ghost (Ghost.thawBox (j := 2) (i := 2) 78 5 (by decide) rfl rfl) ?_
        refine Run.ghost (Ghost.thawBox (j := 2) (i := 3) 39 3 (by decide) rfl rfl) ?_
        refine Run.ghost (Ghost.thawBox (j := 2) (i := 4) 3 1 (by decide) rfl rfl) ?_
        refine Run.ghost (Ghost.form [(1, .im (.sl (ints d))), (2, .im (.sl (ints en))), (3, .ptr 0 0 0), (6, .ptr 0 1 0), (11, .ptr 0 2 0), (72, .im (.sl (g.regs.map LReg.im))), (73, .i g.regs.length), (74, .i (0 : Nat))] 6 ⟨rfl, rfl, rfl, rfl, rfl, rfl, rfl, rfl, trivial⟩ rfl rfl) ?_
        refine Run.loop (fun m s => ∃ i : Nat, m = g.regs.length - i ∧ i ≤ g.regs.length ∧ s = ⟨[(1, .im (.sl (ints d))), (2, .im (.sl (ints en))), (3, .ptr 0 0 0), (6, .ptr 0 1 0), (11, .ptr 0 2 0), (72, .im (.sl (g.regs.map LReg.im))), (73, .i g.regs.length), (74, .i (i : Nat))], [.box [.im (.sl (strs g.inn)), .im (.sl (strs g.out)), .im (.sl (g.regs.map LReg.im)), .im (.sl (g.ands.map nd)), .im (.sl (ints g.outs))], .box [.nils, .nils, .nils, .nils, .nils], .box [.im (.sl (strs g.inn)), .im (.sl (strs g.out)), .ms 0 3 (i), .ms 0 4 0, .ms 0 5 0], .row 78 5 (((g.regs.take (i)).map flop0).map LFlop.im) 0, .row 39 3 (([]).map LGate.im) 0, .row 3 1 (ints ([])) 0], up⟩) g.regs.length ⟨0, rfl, by omega, rfl⟩ fun m s hI => ?_
        obtain ⟨i, rfl, hi, rfl⟩ := hI
        refine Run.seq ?_
        have fx := And.intro e2 (And.intro e1 (And.intro ints_len (And.intro nd_len (And.intro rim_len (And.intro strs_len ft)))))
        refine Run.go ?_
        refine End.kp [1, 2, 3, 6, 11, 72, 73, 74, 75] ?_
        refine Run.seq ?_
        refine Run.cond _ rfl (fun hb => ?_) (fun hb => ?_)
        · have hb3 := of_decide_eq_true hb
          have hin : i < g.regs.length := by omega
          have wi := wsucc hin (by omega)
          obtain ⟨r, hri, hrm, hrr⟩ := reg_at g.regs i hin
          have hap : (i + 1) * 48 ≤ 140737488355328 := by omega
          have hil : (((g.regs.take i).map flop0).map LFlop.im).length = i := by simp; omega
          have hnx : ((g.regs.take (i + 1)).map flop0).map LFlop.im = ((g.regs.take i).map flop0).map LFlop.im ++ [[.str r.name, .int .i64 (-1), .int .i64 0, .int .i64 0, .bool r.init]] := by simp [List.take_add_one, hri, flop0]
          refine Run.skip ?_
          refine End.kp [1, 2, 3, 6, 11, 72, 73, 74] ?_
          refine Run.seq ?_
          refine Run.block ?_
          refine Run.seq ?_
          have fx := And.intro (@Int.toNat_natCast) (And.intro (@Int.natCast_nonneg) (And.intro hil (And.intro hap (And.intro hrr (And.intro wi (And.intro e2 (And.intro e1 (And.intro ints_len (And.intro nd_len (And.intro rim_len (And.intro strs_len ft)))))))))))
          refine Run.go ?_
          refine End.kp [1, 2, 3, 6, 11, 13, 72, 73, 74] ?_
          refine Run.go ?_
          refine End.blk ?_
          refine End.kp [1, 2, 3, 6, 11, 72, 73, 74] ?_
          refine Run.go ?_
          refine End.lp ?_
          refine ⟨g.regs.length - (i + 1), _, by omega, Ghost.form [(1, .im (.sl (ints d))), (2, .im (.sl (ints en))), (3, .ptr 0 0 0), (6, .ptr 0 1 0), (11, .ptr 0 2 0), (72, .im (.sl (g.regs.map LReg.im))), (73, .i g.regs.length), (74, .i (i + 1 : Nat))] 6 ⟨rfl, rfl, rfl, rfl, rfl, rfl, rfl, rfl, trivial⟩ rfl rfl, i + 1, rfl, by omega, by rw [hnx]; rfl⟩
        · have hb3 := of_decide_eq_false hb
          have hie : i = g.regs.length := by omega
          subst hie
          rw [List.take_length]
          refine Run.exit rfl ?_
          refine End.kp [1, 2, 3, 6, 11] ?_
          refine Run.seq ?_
          refine Run.seq ?_
          have fx := And.intro e2 (And.intro e1 (And.intro ints_len (And.intro nd_len (And.intro rim_len (And.intro strs_len ft)))))
          refine Run.go ?_
          refine End.kp [1, 2, 3, 6, 11, 90, 91, 92] ?_
          refine Run.block ?_
          refine Run.ghost (Ghost.form [(1, .im (.sl (ints d))), (2, .im (.sl (ints en))), (3, .ptr 0 0 0), (6, .ptr 0 1 0), (11, .ptr 0 2 0), (90, .im (.sl (g.ands.map nd))), (91, .i g.ands.length), (92, .i (0 : Nat))] 6 ⟨rfl, rfl, rfl, rfl, rfl, rfl, rfl, rfl, trivial⟩ rfl rfl) ?_
          refine Run.loop (fun m s => ∃ i : Nat, m = g.ands.length - i ∧ i ≤ g.ands.length ∧ s = ⟨[(1, .im (.sl (ints d))), (2, .im (.sl (ints en))), (3, .ptr 0 0 0), (6, .ptr 0 1 0), (11, .ptr 0 2 0), (90, .im (.sl (g.ands.map nd))), (91, .i g.ands.length), (92, .i (i : Nat))], [.box [.im (.sl (strs g.inn)), .im (.sl (strs g.out)), .im (.sl (g.regs.map LReg.im)), .im (.sl (g.ands.map nd)), .im (.sl (ints g.outs))], .box [.nils, .nils, .nils, .nils, .nils], .box [.im (.sl (strs g.inn)), .im (.sl (strs g.out)), .ms 0 3 g.regs.length, .ms 0 4 (i), .ms 0 5 0], .row 78 5 ((g.regs.map flop0).map LFlop.im) 0, .row 39 3 (((g.ands.take (i)).map andG).map LGate.im) 0, .row 3 1 (ints ([])) 0], up⟩) g.ands.length ⟨0, rfl, by omega, rfl⟩ fun m s hI => ?_
          obtain ⟨i, rfl, hi, rfl⟩ := hI
          refine Run.seq ?_
          have fx := And.intro e2 (And.intro e1 (And.intro ints_len (And.intro nd_len (And.intro rim_len (And.intro strs_len ft)))))
          refine Run.go ?_
          refine End.kp [1, 2, 3, 6, 11, 90, 91, 92, 93] ?_
          refine Run.seq ?_
          refine Run.cond _ rfl (fun hb => ?_) (fun hb => ?_)
          · have hb3 := of_decide_eq_true hb
            have hin : i < g.ands.length := by omega
            have wi := wsucc hin (by omega)
            obtain ⟨p, hpi, hpm, hpp⟩ := node_at g.ands i hin
            obtain ⟨⟨x1, x2⟩, y1, y2⟩ := hg.ands i p hpi
            have t1 := tmod2 p.1 x1
            have t2 := tmod2 p.2 y1
            have t3 : IntKind.i64.wrap (p.1 % 2) = p.1 % 2 := wrap64 (by omega)
            have t4 : IntKind.i64.wrap (p.2 % 2) = p.2 % 2 := wrap64 (by omega)
            obtain ⟨k, k1, k2, k3⟩ := and_k p.1 p.2 x1 y1
            have u1 := shlU k (by omega)
            have hk0 : ((k : Int) < 0) = False := by simp
            have hap : (i + 1) * 40 ≤ 140737488355328 := by omega
            have hil : (((g.ands.take i).map andG).map LGate.im).length = i := by simp; omega
            have hnx : (g.ands.take (i + 1)).map andG = (g.ands.take i).map andG ++ [andG p] := by simp [List.take_add_one, hpi]
            have hgp : (andG p).im = [.int .i64 (-1), .int .u64 ((2 ^ k : Nat) : Int), .sl (ints [netOf p.1, netOf p.2])] := by simp [andG, LGate.im, k3]
            refine Run.skip ?_
            refine End.kp [1, 2, 3, 6, 11, 90, 91, 92] ?_
            refine Run.seq ?_
            refine Run.block ?_
            refine Run.seq ?_
            have fx := And.intro (@Int.toNat_natCast) (And.intro (@Int.natCast_nonneg) (And.intro hil (And.intro hap (And.intro hk0 (And.intro u1 (And.intro k2 (And.intro t4 (And.intro t3 (And.intro t2 (And.intro t1 (And.intro hpp (And.intro wi (And.intro e2 (And.intro e1 (And.intro ints_len (And.intro nd_len (And.intro rim_len (And.intro strs_len ft))))))))))))))))))
            refine Run.go ?_
            refine End.kp [1, 2, 3, 6, 11, 15, 90, 91, 92] ?_
            refine Run.seq ?_
            refine Run.go ?_
            refine End.kp [1, 2, 3, 6, 11, 15, 16, 90, 91, 92] ?_
            refine Run.ghost (.spares 1) ?_
            simp only [ASt.pushN, ASt.push, List.append_assoc, List.cons_append, List.nil_append]
            refine Run.drawA fun K hK => ?_
            refine DOps.sim ?_
            refine DOps.call (.i (netOf p.1)) [] [] rfl rfl rfl rfl (by kernel_rfl) (by simp [Agree]) (fun u hu => netLit_ok p.1 x1 (by omega) u) ?_
            refine DOps.sim ?_
            refine DOps.call (.i (netOf p.2)) [] [] rfl rfl rfl rfl (by kernel_rfl) (by simp [Agree]) (fun u hu => netLit_ok p.2 y1 (by omega) u) ?_
            refine DOps.litF ?_
            refine DOps.sim ?_
            refine DOps.nil (by rfl) (hK _ ?_); clear hK K
            refine End.blk ?_
            refine End.kp [1, 2, 3, 6, 11, 90, 91, 92] ?_
            have fx := And.intro (@Int.toNat_natCast) (And.intro (@Int.natCast_nonneg) (And.intro hil (And.intro hap (And.intro hk0 (And.intro u1 (And.intro k2 (And.intro t4 (And.intro t3 (And.intro t2 (And.intro t1 (And.intro hpp (And.intro wi (And.intro e2 (And.intro e1 (And.intro ints_len (And.intro nd_len (And.intro rim_len (And.intro strs_len ft))))))))))))))))))
            refine Run.go ?_
            refine End.lp ?_
            refine ⟨g.ands.length - (i + 1), _, by omega, Ghost.form [(1, .im (.sl (ints d))), (2, .im (.sl (ints en))), (3, .ptr 0 0 0), (6, .ptr 0 1 0), (11, .ptr 0 2 0), (90, .im (.sl (g.ands.map nd))), (91, .i g.ands.length), (92, .i (i + 1 : Nat))] 6 ⟨rfl, rfl, rfl, rfl, rfl, rfl, rfl, rfl, trivial⟩ rfl rfl, i + 1, rfl, by omega, by rw [hnx, List.map_append, List.map_cons, hgp]; rfl⟩
          · have hb3 := of_decide_eq_false hb
            have hie : i = g.ands.length := by omega
            subst hie
            rw [List.take_length]
            refine Run.exit rfl ?_
            refine End.kp [1, 2, 3, 6, 11] ?_
            refine Run.seq ?_
            have fx := And.intro e2 (And.intro e1 (And.intro ints_len (And.intro nd_len (And.intro rim_len (And.intro strs_len ft)))))
            refine Run.region rfl fun K hK => GOps.sim ?_
            refine GOps.insert (d := 0) (j := 6) [] rfl ?_
            refine GOps.insert (d := 0) (j := 6) [([.int .i64 0], .int .i64 0)] (findI 1 [(0, 0)] 0) (GOps.sim ?_)
            refine GOps.done (hK _ ?_); clear hK K
            refine End.kp [1, 2, 3, 6, 11, 17] ?_
            refine Run.seq ?_
            have fx := And.intro e2 (And.intro e1 (And.intro ints_len (And.intro nd_len (And.intro rim_len (And.intro strs_len ft)))))
            refine Run.go ?_
            refine End.kp [1, 2, 3, 6, 11, 18] ?_
            refine Run.seq ?_
            refine Run.seq ?_
            refine Run.go ?_
            refine End.kp [1, 2, 6, 11, 18, 125, 126, 127] ?_
            refine Run.block ?_
            refine Run.ghost (Ghost.form [(1, .im (.sl (ints d))), (2, .im (.sl (ints en))), (6, .ptr 0 1 0), (11, .ptr 0 2 0), (18, .fn 156 [.ptr 0 7 0, .ptr 0 2 0]), (125, .im (.sl (ints g.outs))), (126, .i g.outs.length), (127, .i (0 : Nat))] 8 ⟨rfl, rfl, rfl, rfl, rfl, rfl, rfl, rfl, trivial⟩ rfl rfl) ?_
            refine Run.loop (fun m s => ∃ i : Nat, m = g.outs.length - i ∧ i ≤ g.outs.length ∧ s = ⟨[(1, .im (.sl (ints d))), (2, .im (.sl (ints en))), (6, .ptr 0 1 0), (11, .ptr 0 2 0), (18, .fn 156 [.ptr 0 7 0, .ptr 0 2 0]), (125, .im (.sl (ints g.outs))), (126, .i g.outs.length), (127, .i (i : Nat))], [.box [.im (.sl (strs g.inn)), .im (.sl (strs g.out)), .im (.sl (g.regs.map LReg.im)), .im (.sl (g.ands.map nd)), .im (.sl (ints g.outs))], .box [.nils, .nils, .nils, .nils, .nils], .box [.im (.sl (strs g.inn)), .im (.sl (strs g.out)), .ms 0 3 g.regs.length, .ms 0 4 (outsS g (i)).2.2.length, .ms 0 5 (i)], .row 78 5 ((g.regs.map flop0).map LFlop.im) 0, .row 39 3 (((outsS g (i)).2.2).map LGate.im) 0, .row 3 1 (ints ((outsS g (i)).1)) 0, .map (mapI (outsS g (i)).2.1), .box [.map 0 6]], up⟩) g.outs.length ⟨0, rfl, by omega, by rw [show (outsS g 0).2.2.length = g.ands.length from by simp [outsS]]; rfl⟩ fun m s hI => ?_
            obtain ⟨i, rfl, hi, rfl⟩ := hI
            refine Run.seq ?_
            have fx := And.intro e2 (And.intro e1 (And.intro ints_len (And.intro nd_len (And.intro rim_len (And.intro strs_len ft)))))
            refine Run.go ?_
            refine End.kp [1, 2, 6, 11, 18, 125, 126, 127, 128] ?_
            refine Run.seq ?_
            refine Run.cond _ rfl (fun hb => ?_) (fun hb => ?_)
            · have hb3 := of_decide_eq_true hb
              have hin : i < g.outs.length := by omega
              have wi := wsucc hin (by omega)
              obtain ⟨x, hxi, hxm, hx⟩ := int_at g.outs i hin
              obtain ⟨x1, x2⟩ := hg.outs x hxm
              obtain ⟨l1, l2⟩ := outsS_len g i (by omega)
              have hnx := outsS_next g i x hxi
              have hap : (i + 1) * 8 ≤ 140737488355328 := by omega
              have hil : (ints (outsS g i).1).length = i := by rw [ints_len, l1]
              refine Run.skip ?_
              refine End.kp [1, 2, 6, 11, 18, 125, 126, 127] ?_
              refine Run.seq ?_
              refine Run.block ?_
              refine Run.seq ?_
              have fx := And.intro (@Int.toNat_natCast) (And.intro (@Int.natCast_nonneg) (And.intro wsAt_eq (And.intro hil (And.intro hap (And.intro hx (And.intro wi (And.intro e2 (And.intro e1 (And.intro ints_len (And.intro nd_len (And.intro rim_len (And.intro strs_len ft))))))))))))
              refine Run.go ?_
              refine End.kp [1, 2, 6, 11, 18, 20, 125, 126, 127] ?_
              refine Run.ghost (.spares 1) ?_
              simp only [ASt.pushN, ASt.push, List.append_assoc, List.cons_append, List.nil_append]
              refine Run.drawA fun K hK => ?_
              refine DOps.sim1 ?_
              refine DOps.loadS ?_
              refine DOps.sim ?_
              refine DOps.callK (.i (atN (nbG g) x (outsS g i).2.1 (outsS g i).2.2).1) (((0, 7), .box [.map 0 6]) :: wsAt g.inn g.out g.regs.length i (outsS g i).2.1 (outsS g i).2.2) (wsAt g.inn g.out g.regs.length i (atN (nbG g) x (outsS g i).2.1 (outsS g i).2.2).2.1 (atN (nbG g) x (outsS g i).2.1 (outsS g i).2.2).2.2) [((0, 2), 4)] rfl rfl rfl rfl (by kernel_rfl) (by simp [Agree, wsAt, ASt.fr, look, fget]) (fun u hu => at_ok g.inn g.out g.regs.length i _ _ x x1 (by omega) (by omega) (by omega) (by omega) u hu) (by simp [wsAt, cellOf]) ?_
              refine DOps.sim ?_
              refine DOps.nil (by rfl) (hK _ ?_); clear hK K
              refine End.blk ?_
              refine End.kp [1, 2, 6, 11, 18, 125, 126, 127] ?_
              have fx := And.intro (@Int.toNat_natCast) (And.intro (@Int.natCast_nonneg) (And.intro wsAt_eq (And.intro hil (And.intro hap (And.intro hx (And.intro wi (And.intro e2 (And.intro e1 (And.intro ints_len (And.intro nd_len (And.intro rim_len (And.intro strs_len ft))))))))))))
              refine Run.go ?_
              refine End.lp ?_
              refine ⟨g.outs.length - (i + 1), _, by omega, Ghost.form [(1, .im (.sl (ints d))), (2, .im (.sl (ints en))), (6, .ptr 0 1 0), (11, .ptr 0 2 0), (18, .fn 156 [.ptr 0 7 0, .ptr 0 2 0]), (125, .im (.sl (ints g.outs))), (126, .i g.outs.length), (127, .i (i + 1 : Nat))] 8 ⟨rfl, rfl, rfl, rfl, rfl, rfl, rfl, rfl, trivial⟩ rfl rfl, i + 1, rfl, by omega, by rw [hnx]; simp only [stO, ints, List.map_append, List.map_cons, List.map_nil]; rfl⟩
            · have hb3 := of_decide_eq_false hb
              have hie : i = g.outs.length := by omega
              subst hie
              have hfl0 : ((g.regs.map flop0).map LFlop.im).length = g.regs.length := by simp
              refine Run.exit rfl ?_
              refine End.kp [1, 2, 6, 11, 18] ?_
              refine Run.seq ?_
              refine Run.seq ?_
              have fx := And.intro hfl0 (And.intro e2 (And.intro e1 (And.intro ints_len (And.intro nd_len (And.intro rim_len (And.intro strs_len ft))))))
              refine Run.go ?_
              refine End.kp [1, 2, 6, 11, 18, 142, 143] ?_
              refine Run.block ?_
              refine Run.ghost (Ghost.form [(1, .im (.sl (ints d))), (2, .im (.sl (ints en))), (6, .ptr 0 1 0), (11, .ptr 0 2 0), (18, .fn 156 [.ptr 0 7 0, .ptr 0 2 0]), (142, .i g.regs.length), (143, .i (0 : Nat))] 8 ⟨rfl, rfl, rfl, rfl, rfl, rfl, rfl, trivial⟩ rfl rfl) ?_
              refine Run.loop (fun m s => ∃ i : Nat, m = g.regs.length - i ∧ i ≤ g.regs.length ∧ s = ⟨[(1, .im (.sl (ints d))), (2, .im (.sl (ints en))), (6, .ptr 0 1 0), (11, .ptr 0 2 0), (18, .fn 156 [.ptr 0 7 0, .ptr 0 2 0]), (142, .i g.regs.length), (143, .i (i : Nat))], [.box [.im (.sl (strs g.inn)), .im (.sl (strs g.out)), .im (.sl (g.regs.map LReg.im)), .im (.sl (g.ands.map nd)), .im (.sl (ints g.outs))], .box [.nils, .nils, .nils, .nils, .nils], .box [.im (.sl (strs g.inn)), .im (.sl (strs g.out)), .ms 0 3 g.regs.length, .ms 0 4 (flopsS g d en (i)).2.2.length, .ms 0 5 g.outs.length], .row 78 5 ((flopsAt g.regs (flopsS g d en (i)).1).map LFlop.im) 0, .row 39 3 (((flopsS g d en (i)).2.2).map LGate.im) 0, .row 3 1 (ints ((outsS g g.outs.length).1)) 0, .map (mapI (flopsS g d en (i)).2.1), .box [.map 0 6]], up⟩) g.regs.length ⟨0, rfl, by omega, by rw [show (flopsS g d en 0).1 = [] from rfl, flopsAt_nil]; rfl⟩ fun m s hI => ?_
              obtain ⟨i, rfl, hi, rfl⟩ := hI
              refine Run.seq ?_
              have fx := And.intro hfl0 (And.intro e2 (And.intro e1 (And.intro ints_len (And.intro nd_len (And.intro rim_len (And.intro strs_len ft))))))
              refine Run.go ?_
              refine End.kp [1, 2, 6, 11, 18, 142, 143, 144] ?_
              refine Run.seq ?_
              refine Run.cond _ rfl (fun hb => ?_) (fun hb => ?_)
              · have hb3 := of_decide_eq_true hb
                have hin : i < g.regs.length := by omega
                have wi := wsucc hin (by omega)
                obtain ⟨x, hxi, hxm, hx⟩ := int_at d i (by omega)
                obtain ⟨y, hyi, hym, hy⟩ := int_at en i (by omega)
                obtain ⟨x1, x2⟩ := hr x (List.mem_append_left _ hxm)
                obtain ⟨y1, y2⟩ := hr y (List.mem_append_right _ hym)
                obtain ⟨r, hri, hrm, hrr⟩ := reg_at g.regs i hin
                obtain ⟨l1, l2⟩ := flopsS_len g d en i (by omega) (by omega)
                have l3 := atN_len (nbG g) x (flopsS g d en i).2.1 (flopsS g d en i).2.2
                have hnx := flopsS_next g d en i x y hxi hyi
                have hil : (i : Int) < (g.regs.length : Int) := by omega
                have hdl : (i : Int) < (d.length : Int) := by omega
                have hel : (i : Int) < (en.length : Int) := by omega
                have hfr : ((flopsAt g.regs (flopsS g d en i).1).map LFlop.im)[i]? = some [.str r.name, .int .i64 (-1), .int .i64 0, .int .i64 0, .bool r.init] := by
                  rw [List.getElem?_map, flopsAt_get _ _ i r hri]
                  have : (flopsS g d en i).1.getD i (0, 0) = (0, 0) := by rw [List.getD_eq_getElem?_getD, List.getElem?_eq_none (by omega)]; rfl
                  rw [this]
                  rfl
                have hl0 : ((flopsAt g.regs (flopsS g d en i).1).map LFlop.im).length = g.regs.length := by rw [List.length_map, flopsAt_len]
                have hs1 : ∀ r', (((flopsAt g.regs (flopsS g d en i).1).map LFlop.im).set i r')[i]? = some r' := fun r' => List.getElem?_set_self (by rw [hl0]; exact hin)
                have hl1 : ∀ r', (((flopsAt g.regs (flopsS g d en i).1).map LFlop.im).set i r').length = g.regs.length := fun r' => by rw [List.length_set, hl0]
                have hset : ∀ (a : List Im) (u v : Int), (((flopsAt g.regs (flopsS g d en i).1).map LFlop.im).set i a).set i [.str r.name, .int .i64 (-1), .int .i64 u, .int .i64 v, .bool r.init] = (flopsAt g.regs ((flopsS g d en i).1 ++ [(u, v)])).map LFlop.im := fun a u v => by
                  have := flopsAt_set g.regs (flopsS g d en i).1 r u v (by rw [l1]; exact hri)
                  rw [List.set_set, ← this, List.map_set, l1]
                refine Run.skip ?_
                refine End.kp [1, 2, 6, 11, 18, 142, 143] ?_
                refine Run.seq ?_
                refine Run.block ?_
                refine Run.seq ?_
                have fx := And.intro (@Int.toNat_natCast) (And.intro (@Int.natCast_nonneg) (And.intro wsAt_eq (And.intro hl1 (And.intro hs1 (And.intro hl0 (And.intro hfr (And.intro hel (And.intro hdl (And.intro hil (And.intro hy (And.intro hx (And.intro wi (And.intro hfl0 (And.intro e2 (And.intro e1 (And.intro ints_len (And.intro nd_len (And.intro rim_len (And.intro strs_len ft)))))))))))))))))))
                refine Run.go ?_
                refine End.kp [1, 2, 6, 11, 18, 21, 142, 143] ?_
                refine Run.seq ?_
                refine Run.drawA fun K hK => ?_
                refine DOps.sim1 ?_
                refine DOps.loadS ?_
                refine DOps.sim ?_
                refine DOps.callK (.i (atN (nbG g) x (flopsS g d en i).2.1 (flopsS g d en i).2.2).1) (((0, 7), .box [.map 0 6]) :: wsAt g.inn g.out g.regs.length g.outs.length (flopsS g d en i).2.1 (flopsS g d en i).2.2) (wsAt g.inn g.out g.regs.length g.outs.length (atN (nbG g) x (flopsS g d en i).2.1 (flopsS g d en i).2.2).2.1 (atN (nbG g) x (flopsS g d en i).2.1 (flopsS g d en i).2.2).2.2) [((0, 2), 2)] rfl rfl rfl rfl (by kernel_rfl) (by simp [Agree, wsAt, ASt.fr, look, fget]) (fun u hu => at_ok g.inn g.out g.regs.length g.outs.length _ _ x x1 (by omega) (by omega) (by omega) (by omega) u hu) (by simp [wsAt, cellOf]) ?_
                refine DOps.sim ?_
                refine DOps.nil (by rfl) (hK _ ?_); clear hK K
                refine End.kp [1, 2, 6, 11, 18, 21, 142, 143] ?_
                have fx := And.intro (@Int.toNat_natCast) (And.intro (@Int.natCast_nonneg) (And.intro wsAt_eq (And.intro hl1 (And.intro hs1 (And.intro hl0 (And.intro hfr (And.intro hel (And.intro hdl (And.intro hil (And.intro hy (And.intro hx (And.intro wi (And.intro hfl0 (And.intro e2 (And.intro e1 (And.intro ints_len (And.intro nd_len (And.intro rim_len (And.intro strs_len ft)))))))))))))))))))
                refine Run.drawA fun K hK => ?_
                refine DOps.sim1 ?_
                refine DOps.loadS ?_
                refine DOps.sim ?_
                refine DOps.callK (.i (atN (nbG g) y (atN (nbG g) x (flopsS g d en i).2.1 (flopsS g d en i).2.2).2.1 (atN (nbG g) x (flopsS g d en i).2.1 (flopsS g d en i).2.2).2.2).1) (((0, 7), .box [.map 0 6]) :: wsAt g.inn g.out g.regs.length g.outs.length (atN (nbG g) x (flopsS g d en i).2.1 (flopsS g d en i).2.2).2.1 (atN (nbG g) x (flopsS g d en i).2.1 (flopsS g d en i).2.2).2.2) (wsAt g.inn g.out g.regs.length g.outs.length (atN (nbG g) y (atN (nbG g) x (flopsS g d en i).2.1 (flopsS g d en i).2.2).2.1 (atN (nbG g) x (flopsS g d en i).2.1 (flopsS g d en i).2.2).2.2).2.1 (atN (nbG g) y (atN (nbG g) x (flopsS g d en i).2.1 (flopsS g d en i).2.2).2.1 (atN (nbG g) x (flopsS g d en i).2.1 (flopsS g d en i).2.2).2.2).2.2) [((0, 2), 2)] rfl rfl rfl rfl (by kernel_rfl) (by simp [Agree, wsAt, ASt.fr, look, fget]) (fun u hu => at_ok g.inn g.out g.regs.length g.outs.length _ _ y y1 (by omega) (by omega) (by omega) (by omega) u hu) (by simp [wsAt, cellOf]) ?_
                refine DOps.sim ?_
                refine DOps.nil (by rfl) (hK _ ?_); clear hK K
                refine End.blk ?_
                refine End.kp [1, 2, 6, 11, 18, 142, 143] ?_
                have fx := And.intro (@Int.toNat_natCast) (And.intro (@Int.natCast_nonneg) (And.intro wsAt_eq (And.intro hl1 (And.intro hs1 (And.intro hl0 (And.intro hfr (And.intro hel (And.intro hdl (And.intro hil (And.intro hy (And.intro hx (And.intro wi (And.intro hfl0 (And.intro e2 (And.intro e1 (And.intro ints_len (And.intro nd_len (And.intro rim_len (And.intro strs_len ft)))))))))))))))))))
                refine Run.go ?_
                refine End.lp ?_
                refine ⟨g.regs.length - (i + 1), _, by omega, Ghost.form [(1, .im (.sl (ints d))), (2, .im (.sl (ints en))), (6, .ptr 0 1 0), (11, .ptr 0 2 0), (18, .fn 156 [.ptr 0 7 0, .ptr 0 2 0]), (142, .i g.regs.length), (143, .i (i + 1 : Nat))] 8 ⟨rfl, rfl, rfl, rfl, rfl, rfl, rfl, trivial⟩ rfl rfl, i + 1, rfl, by omega, by rw [hnx]; simp only [stF]; rw [← hset]; rfl⟩
              · have hb3 := of_decide_eq_false hb
                have hie : i = g.regs.length := by omega
                subst hie
                have hlf : ((flopsAt g.regs (flopsS g d en g.regs.length).1).map LFlop.im).length = g.regs.length := by rw [List.length_map, flopsAt_len]
                have hlg : ((flopsS g d en g.regs.length).2.2.map LGate.im).length = (flopsS g d en g.regs.length).2.2.length := by simp
                have hlo : (ints (outsS g g.outs.length).1).length = g.outs.length := by rw [ints_len]; exact (outsS_len g _ (Nat.le_refl _)).1
                refine Run.exit rfl ?_
                refine End.kp [6, 11] ?_
                refine Run.seq ?_
                refine Run.seq ?_
                refine Run.ghost (Ghost.boxShut (j := 2) (i := 2) (r := 3) rfl rfl rfl hlf) ?_
                refine Run.ghost (Ghost.boxShut (j := 2) (i := 3) (r := 4) rfl rfl rfl hlg) ?_
                refine Run.ghost (Ghost.boxShut (j := 2) (i := 4) (r := 5) rfl rfl rfl hlo) ?_
                simp only [List.set_cons_succ, List.set_cons_zero]
                have fx := And.intro hlo (And.intro hlg (And.intro hlf (And.intro hfl0 (And.intro e2 (And.intro e1 (And.intro ints_len (And.intro nd_len (And.intro rim_len (And.intro strs_len ft)))))))))
                refine Run.region rfl fun K hK => GOps.sim ?_
                refine GOps.call rfl rfl rfl rfl (by kernel_rfl) (ACalls.sim ?_)
                refine (Form_ok (withV g d en) hok _).mono fun v u hv => ?_
                obtain ⟨rfl, rfl⟩ := hv
                refine ⟨_, _, rfl, GOps.sim ?_⟩
                refine GOps.done (hK _ ?_); clear hK K
                refine End.kp [6, 11, 22] ?_
                refine Run.seq ?_
                refine Run.go ?_
                refine End.kp [6, 11, 22, 172] ?_
                refine Run.cond _ rfl (fun hb => ?_) (fun hb => ?_)
                · have hb2 := hb
                  simp at hb
                · have hb2 := hb
                  refine Run.skip ?_
                  refine End.kp [6, 11] ?_
                  refine Run.seq ?_
                  have fx := And.intro hlo (And.intro hlg (And.intro hlf (And.intro hfl0 (And.intro e2 (And.intro e1 (And.intro ints_len (And.intro nd_len (And.intro rim_len (And.intro strs_len ft)))))))))
                  refine Run.go ?_
                  refine End.kp [6, 7] ?_
                  refine Run.resC hQ ?_
                  exact ⟨rfl, rfl⟩
end Go.Proofs.YtkmnmokjlpenhaaPi

/- The walks of netlist.Init, netlist.Run and netlist.Of. -/
set_option linter.unusedVariables false
set_option linter.unusedSimpArgs false
set_option maxRecDepth 100000
namespace Go.Proofs.YtkmnmokjlpenhaaPi
set_option maxHeartbeats 4000000
def nextsM (n : LNet) (v : List Int) : List Int := nextsF n v 0 n.flops
def initN (n : LNet) : List Bool := n.flops.map LFlop.init
def runN (n : LNet) : List Int → List (List Bool) → List (List Bool)
  | _, [] => []
  | st, r :: t => laneB (outV n (valuesV n (lanes0 r) st)) :: runN n (nextsM n (valuesV n (lanes0 r) st)) t
theorem NInit_ok (n : LNet) (hg : NetSmall n) (up : Frs) : ACalls Try.prog 104 [n.pv] up fun v u => v = .im (.sl (bools (initN n))) ∧ u = up := by
  obtain ⟨z1, z2, z3, z4, z5⟩ := hg
  have hc : (0 : Int) ≤ n.flops.length := by omega
  have hm1 : ((1 : Nat) : Int) * (n.flops.length : Int) ≤ 281474976710656 := by omega
  have hm2 : (n.flops.length : Int) ≤ 9223372036854775807 := by omega
  refine ACalls.code Try.func104 rfl 25 rfl (by simp) [.tmp 2] rfl fun Q hQ => ?_
  simp only [ups, PV.up, argEnv]
  have ft := And.intro ty_2 (And.intro ty_3 (And.intro ty_4 (And.intro ty_27 (And.intro ty_30 (And.intro ty_71 (And.intro ty_78 trivial))))))
  refine Run.seq ?_
  have fx := And.intro hm2 (And.intro hm1 (And.intro hc (And.intro fim_len ft)))
  refine Run.go ?_
  refine End.kp [1] ?_
  refine Run.seq ?_
  refine Run.go ?_
  refine End.kp [1, 3] ?_
  refine Run.seq ?_
  refine Run.seq ?_
  refine Run.go ?_
  refine End.kp [3, 11, 12, 13] ?_
  refine Run.block ?_
  refine Run.ghost (Ghost.form [(3, .ms 0 1 n.flops.length), (11, .im (.sl (n.flops.map LFlop.im))), (12, .i n.flops.length), (13, .i (0 : Nat))] 2 ⟨rfl, rfl, rfl, rfl, trivial⟩ rfl rfl) ?_
  refine Run.loop (fun m s => ∃ (i : Nat), m = n.flops.length - i ∧ i ≤ n.flops.length ∧ s = ⟨[(3, .ms 0 1 n.flops.length), (11, .im (.sl (n.flops.map LFlop.im))), (12, .i n.flops.length), (13, .i (i : Nat))], [.box [.im (.sl (strs n.inn)), .im (.sl (strs n.out)), .im (.sl (n.flops.map LFlop.im)), .im (.sl (n.gates.map LGate.im)), .im (.sl (ints n.outs))], .row 4 1 ((n.flops.take i).map (fun r => [Im.bool r.init]) ++ List.replicate (n.flops.length - i) [.bool false]) 0], up⟩) n.flops.length ⟨0, rfl, by omega, by simp⟩ fun m s hI => ?_
  obtain ⟨i, rfl, hi, rfl⟩ := hI
  have hrl := fill_len (fun r => [Im.bool r.init]) n.flops [.bool false] i hi
  refine Run.seq ?_
  have fx := And.intro hrl (And.intro hm2 (And.intro hm1 (And.intro hc (And.intro fim_len ft))))
  refine Run.go ?_
  refine End.kp [3, 11, 12, 13, 14] ?_
  refine Run.seq ?_
  refine Run.cond _ rfl (fun hb => ?_) (fun hb => ?_)
  · have hb := of_decide_eq_true hb
    have hin : i < n.flops.length := by omega
    have wi := wsucc hin (by omega)
    obtain ⟨f, hfi, hfm, hf⟩ := flop_at n.flops i hin
    have hri := fill_get (fun r => [Im.bool r.init]) n.flops [.bool false] i hin
    have hfd : n.flops.getD i ⟨ByteArray.empty, 0, 0, false⟩ = f := by simp [hfi]
    have hfm2 := fill_map (fun r => [Im.bool r.init]) n.flops [.bool false] ⟨ByteArray.empty, 0, 0, false⟩ i hin
    rw [hfd] at hfm2
    refine Run.skip ?_
    refine End.kp [3, 11, 12, 13] ?_
    refine Run.seq ?_
    refine Run.block ?_
    refine Run.seq ?_
    have fx := And.intro hri (And.intro hin (And.intro (@Int.ofNat_lt) (And.intro (@Int.toNat_natCast) (And.intro (@Int.natCast_nonneg) (And.intro hf (And.intro wi (And.intro hrl (And.intro hm2 (And.intro hm1 (And.intro hc (And.intro fim_len ft)))))))))))
    refine Run.go ?_
    refine End.kp [3, 4, 5, 11, 12, 13] ?_
    refine Run.go ?_
    refine End.blk ?_
    refine End.kp [3, 11, 12, 13] ?_
    refine Run.go ?_
    refine End.lp ?_
    refine ⟨n.flops.length - (i + 1), _, by omega, Ghost.form [(3, .ms 0 1 n.flops.length), (11, .im (.sl (n.flops.map LFlop.im))), (12, .i n.flops.length), (13, .i (i + 1 : Nat))] 2 ⟨rfl, rfl, rfl, rfl, trivial⟩ rfl rfl, i + 1, rfl, by omega, ?_⟩
    rw [← hfm2]
    rfl
  · have hb := of_decide_eq_false hb
    have hiN : i = n.flops.length := by omega
    subst hiN
    rw [fill_all] at hrl ⊢
    refine Run.exit rfl ?_
    refine End.kp [3] ?_
    refine Run.seq ?_
    refine Run.ghost (Ghost.shut (t := 3) (j := 1) rfl rfl hrl) ?_
    simp only [eput, edel]
    have fx := And.intro hrl (And.intro hm2 (And.intro hm1 (And.intro hc (And.intro fim_len ft))))
    refine Run.go ?_
    refine End.kp [2] ?_
    refine Run.ret (hQ _ _ ⟨.inr rfl, _, rfl, _, rfl, ?_⟩)
    exact ⟨by simp [initN], rfl⟩
theorem NRun_ok (n : LNet) (hg : NetOk n) (tr : List (List Bool)) (hn : tr.length ≤ 64) (ht : ∀ r ∈ tr, r.length = n.inn.length) (up : Frs) : ACalls Try.prog 57 [n.pv, .im (.sl (boolss tr))] up fun v u => v = .tup [.im (.sl (boolss (runN n (lanes0 (initN n)) tr))), .i 0] ∧ u = up := by
  have hsm := hg.small
  obtain ⟨z1, z2, z3, z4, z5⟩ := hg.small
  have d1 : decide ((tr.length : Int) > 64) = false := decide_eq_false (by omega)
  refine ACalls.code Try.func57 rfl 63 rfl (by simp) [.tmp 4, .tmp 5] rfl fun Q hQ => ?_
  simp only [ups, PV.up, argEnv]
  have ft := And.intro ty_3 (And.intro ty_4 (And.intro ty_9 (And.intro ty_26 (And.intro ty_30 (And.intro ty_34 (And.intro ty_37 (And.intro ty_56 (And.intro ty_58 (And.intro ty_71 trivial)))))))))
  refine Run.seq ?_
  have fx := And.intro d1 (And.intro strs_len (And.intro bools_len (And.intro boolss_len ft)))
  refine Run.go ?_
  refine End.kp [1, 2] ?_
  refine Run.seq ?_
  refine Run.seq ?_
  refine Run.region rfl fun K hK => GOps.sim ?_
  refine GOps.call rfl rfl rfl rfl (by kernel_rfl) (ACalls.sim ?_)
  refine (Form_ok n hg _).mono fun v u hv => ?_
  obtain ⟨rfl, rfl⟩ := hv
  refine ⟨_, _, rfl, GOps.sim ?_⟩
  refine GOps.done (hK _ ?_); clear hK K
  refine End.kp [1, 2, 6] ?_
  refine Run.seq ?_
  refine Run.go ?_
  refine End.kp [1, 2, 6, 18] ?_
  refine Run.cond _ rfl (fun hb => ?_) (fun hb => ?_)
  · have hb := hb
    simp at hb
  · have hb := hb
    refine Run.skip ?_
    refine End.kp [1, 2] ?_
    refine Run.seq ?_
    refine Run.seq ?_
    have fx := And.intro d1 (And.intro strs_len (And.intro bools_len (And.intro boolss_len ft)))
    refine Run.go ?_
    refine End.kp [1, 2, 22] ?_
    refine Run.cond _ rfl (fun hb => ?_) (fun hb => ?_)
    · have hb := hb
      simp at hb
    · have hb := hb
      refine Run.skip ?_
      refine End.kp [1, 2] ?_
      refine Run.seq ?_
      refine Run.seq ?_
      have fx := And.intro d1 (And.intro strs_len (And.intro bools_len (And.intro boolss_len ft)))
      refine Run.go ?_
      refine End.kp [1, 2, 23, 24, 25] ?_
      refine Run.block ?_
      refine Run.ghost (Ghost.form [(1, .im (.sl (boolss tr))), (2, .ptr 0 0 0), (23, .im (.sl (boolss tr))), (24, .i tr.length), (25, .i (0 : Nat))] 1 ⟨rfl, rfl, rfl, rfl, rfl, trivial⟩ rfl rfl) ?_
      refine Run.loop (fun m s => ∃ (i : Nat), m = tr.length - i ∧ i ≤ tr.length ∧ s = ⟨[(1, .im (.sl (boolss tr))), (2, .ptr 0 0 0), (23, .im (.sl (boolss tr))), (24, .i tr.length), (25, .i (i : Nat))], [.box [.im (.sl (strs n.inn)), .im (.sl (strs n.out)), .im (.sl (n.flops.map LFlop.im)), .im (.sl (n.gates.map LGate.im)), .im (.sl (ints n.outs))]], up⟩) tr.length ⟨0, rfl, by omega, rfl⟩ fun m s hI => ?_
      obtain ⟨i, rfl, hi, rfl⟩ := hI
      refine Run.seq ?_
      have fx := And.intro d1 (And.intro strs_len (And.intro bools_len (And.intro boolss_len ft)))
      refine Run.go ?_
      refine End.kp [1, 2, 23, 24, 25, 26] ?_
      refine Run.seq ?_
      refine Run.cond _ rfl (fun hb => ?_) (fun hb => ?_)
      · have hb := of_decide_eq_true hb
        have hin : i < tr.length := by omega
        have wi := wsucc hin (by omega)
        obtain ⟨r, hri, hrm, _, hr⟩ := boolss_at tr i hin
        have d2 : ((r.length : Int) != n.inn.length) = false := by rw [ht r hrm]; simp
        refine Run.skip ?_
        refine End.kp [1, 2, 23, 24, 25] ?_
        refine Run.seq ?_
        refine Run.block ?_
        refine Run.seq ?_
        have fx := And.intro (@Int.toNat_natCast) (And.intro (@Int.natCast_nonneg) (And.intro d2 (And.intro hr (And.intro wi (And.intro d1 (And.intro strs_len (And.intro bools_len (And.intro boolss_len ft))))))))
        refine Run.go ?_
        refine End.kp [1, 2, 8, 23, 24, 25] ?_
        refine Run.seq ?_
        refine Run.go ?_
        refine End.kp [1, 2, 23, 24, 25, 34] ?_
        refine Run.cond _ rfl (fun hb => ?_) (fun hb => ?_)
        · have hb := hb
          simp at hb
        · have hb := hb
          refine Run.skip ?_
          refine End.blk ?_
          refine End.kp [1, 2, 23, 24, 25] ?_
          have fx := And.intro (@Int.toNat_natCast) (And.intro (@Int.natCast_nonneg) (And.intro d2 (And.intro hr (And.intro wi (And.intro d1 (And.intro strs_len (And.intro bools_len (And.intro boolss_len ft))))))))
          refine Run.go ?_
          refine End.lp ?_
          refine ⟨tr.length - (i + 1), _, by omega, Ghost.form [(1, .im (.sl (boolss tr))), (2, .ptr 0 0 0), (23, .im (.sl (boolss tr))), (24, .i tr.length), (25, .i (i + 1 : Nat))] 1 ⟨rfl, rfl, rfl, rfl, rfl, trivial⟩ rfl rfl, i + 1, rfl, by omega, rfl⟩
      · have hb := of_decide_eq_false hb
        refine Run.exit rfl ?_
        refine End.kp [1, 2] ?_
        refine Run.seq ?_
        have fx := And.intro d1 (And.intro strs_len (And.intro bools_len (And.intro boolss_len ft)))
        refine Run.region rfl fun K hK => GOps.sim ?_
        refine GOps.call rfl rfl rfl rfl (by kernel_rfl) (ACalls.sim ?_)
        refine (NInit_ok n hsm _).mono fun v u hv => ?_
        obtain ⟨rfl, rfl⟩ := hv
        refine ⟨_, _, rfl, GOps.sim ?_⟩
        refine GOps.call rfl rfl rfl rfl (by kernel_rfl) (ACalls.sim ?_)
        refine (Lanes_ok (initN n) (by simp [initN]; omega) _).mono fun v u hv => ?_
        obtain ⟨rfl, rfl⟩ := hv
        refine ⟨_, _, rfl, GOps.sim ?_⟩
        refine GOps.done (hK _ ?_); clear hK K
        refine End.kp [1, 2, 9] ?_
        refine Run.seq ?_
        refine Run.go ?_
        refine End.kp [1, 2, 9, 10] ?_
        refine Run.seq ?_
        refine Run.seq ?_
        refine Run.go ?_
        refine End.kp [2, 9, 10, 39, 40, 41] ?_
        refine Run.block ?_
        refine Run.ghost (Ghost.thaw (u := 10) 71 1 (by decide) rfl) ?_
        refine Run.ghost (Ghost.form [(2, .ptr 0 0 0), (9, .im (.sl (us (lanes0 (initN n))))), (10, .ms 0 1 (0)), (39, .im (.sl (boolss tr))), (40, .i tr.length), (41, .i (0 : Nat))] 2 ⟨rfl, rfl, rfl, rfl, rfl, rfl, trivial⟩ rfl rfl) ?_
        refine Run.loop (fun m s => ∃ (i : Nat) (st : List Int) (dn : List (List Bool)), m = tr.length - i ∧ i ≤ tr.length ∧ dn.length = i ∧ st.length = n.flops.length ∧ dn ++ runN n st (tr.drop i) = runN n (lanes0 (initN n)) tr ∧ s = ⟨[(2, .ptr 0 0 0), (9, .im (.sl (us st))), (10, .ms 0 1 (i)), (39, .im (.sl (boolss tr))), (40, .i tr.length), (41, .i (i : Nat))], [.box [.im (.sl (strs n.inn)), .im (.sl (strs n.out)), .im (.sl (n.flops.map LFlop.im)), .im (.sl (n.gates.map LGate.im)), .im (.sl (ints n.outs))], .row 71 1 (boolss dn) 0], up⟩) tr.length ⟨0, _, [], rfl, by omega, rfl, by simp [initN], rfl, rfl⟩ fun m s hI => ?_
        obtain ⟨i, st, dn, rfl, hi, hdn, hst, hR, rfl⟩ := hI
        have hap : (i + 1) * 24 ≤ 140737488355328 := by omega
        refine Run.seq ?_
        have fx := And.intro hap (And.intro hdn (And.intro d1 (And.intro strs_len (And.intro bools_len (And.intro boolss_len ft)))))
        refine Run.go ?_
        refine End.kp [2, 9, 10, 39, 40, 41, 42] ?_
        refine Run.seq ?_
        refine Run.cond _ rfl (fun hb => ?_) (fun hb => ?_)
        · have hb := of_decide_eq_true hb
          have hin : i < tr.length := by omega
          have wi := wsucc hin (by omega)
          obtain ⟨r, hri, hrm, _, hr⟩ := boolss_at tr i hin
          have hrl := ht r hrm
          have hdr : tr.drop i = r :: tr.drop (i + 1) := by
            obtain ⟨h, e⟩ := List.getElem?_eq_some_iff.1 hri
            rw [← e]
            exact List.drop_eq_getElem_cons h
          rw [hdr, runN] at hR
          refine Run.skip ?_
          refine End.kp [2, 9, 10, 39, 40, 41] ?_
          refine Run.seq ?_
          refine Run.block ?_
          refine Run.seq ?_
          have fx := And.intro (@Int.toNat_natCast) (And.intro (@Int.natCast_nonneg) (And.intro hr (And.intro wi (And.intro hap (And.intro hdn (And.intro d1 (And.intro strs_len (And.intro bools_len (And.intro boolss_len ft)))))))))
          refine Run.go ?_
          refine End.kp [2, 9, 10, 12, 39, 40, 41] ?_
          refine Run.seq ?_
          refine Run.drawA fun K hK => ?_
          refine DOps.sim ?_
          refine DOps.call (.im (.sl (us (lanes0 r)))) [] [] rfl rfl rfl rfl (by kernel_rfl) (by simp [Agree]) (fun u hu => Lanes_ok r (by omega) u) ?_
          refine DOps.sim ?_
          refine DOps.call (.im (.sl (us (valuesV n (lanes0 r) st)))) [] [] rfl rfl rfl rfl (by kernel_rfl) (by simp [Agree]) (fun u hu => values_ok n hg (lanes0 r) st (by simpa using hrl) hst u) ?_
          refine DOps.sim ?_
          refine DOps.call (.tup [.im (.sl (us (outV n (valuesV n (lanes0 r) st)))), .im (.sl (us (nextsM n (valuesV n (lanes0 r) st))))]) [] [] rfl rfl rfl rfl (by kernel_rfl) (by simp [Agree]) (fun u hu => nresults_ok n hg (valuesV n (lanes0 r) st) (by rw [valuesV_len n _ _ (by simpa using hrl) hst]) u) ?_
          refine DOps.sim ?_
          refine DOps.nil (metAll_quiet rfl) (hK _ ?_); clear hK K
          refine End.kp [2, 10, 13, 14, 39, 40, 41] ?_
          refine Run.region rfl fun K hK => GOps.sim ?_
          refine GOps.call rfl rfl rfl rfl (by kernel_rfl) (ACalls.sim ?_)
          refine (Lane_ok _ (by simp [outV]; omega) _).mono fun v u hv => ?_
          obtain ⟨rfl, rfl⟩ := hv
          refine ⟨_, _, rfl, GOps.sim ?_⟩
          refine GOps.done (hK _ ?_); clear hK K
          refine End.blk ?_
          refine End.kp [2, 9, 10, 39, 40, 41] ?_
          refine Run.go ?_
          refine End.lp ?_
          refine ⟨tr.length - (i + 1), _, by omega, Ghost.form [(2, .ptr 0 0 0), (9, .im (.sl (us (nextsM n (valuesV n (lanes0 r) st))))), (10, .ms 0 1 ((i + 1))), (39, .im (.sl (boolss tr))), (40, .i tr.length), (41, .i (i + 1 : Nat))] 2 ⟨rfl, rfl, rfl, rfl, rfl, rfl, trivial⟩ rfl rfl, i + 1, nextsM n (valuesV n (lanes0 r) st), dn ++ [laneB (outV n (valuesV n (lanes0 r) st))], rfl, by omega, by simp [hdn], by simp [nextsM, nextsF_len], by simpa using hR, ?_⟩
          simp
        · have hb := of_decide_eq_false hb
          have hiN : i = tr.length := by omega
          subst hiN
          rw [List.drop_length, runN, List.append_nil] at hR
          refine Run.exit rfl ?_
          refine End.kp [10] ?_
          refine Run.seq ?_
          refine Run.ghost (Ghost.shut (t := 10) (j := 1) rfl rfl (by rw [boolss_len, hdn])) ?_
          simp only [eput, edel]
          have fx := And.intro hap (And.intro hdn (And.intro d1 (And.intro strs_len (And.intro bools_len (And.intro boolss_len ft)))))
          refine Run.go ?_
          refine End.kp [4, 5] ?_
          refine Run.ret (hQ _ _ ⟨.inr rfl, _, rfl, _, rfl, ?_⟩)
          exact ⟨by rw [hR], rfl⟩
/-- The netlist of a graph: each register takes its literal in each cycle. -/
def netG (g : LGraph) : LNet := withV g (g.regs.map LReg.next) (g.regs.map fun _ => 1)
theorem Of_ok (g : LGraph) (hg : GraphOk g) (h100 : g.ands.length ≤ 100) (hok : NetOk (netG g)) (up : Frs) : ACalls Try.prog 72 [g.pv] up fun v u => v = .tup [(netG g).pv, .i 0] ∧ u = up := by
  have hg2 := hg
  obtain ⟨z1, z2, z3, z4, z5⟩ := hg.small
  refine ACalls.code Try.func72 rfl 30 rfl (by simp) [.cell 2 30, .tmp 3] rfl fun Q hQ => ?_
  simp only [ups, PV.up, argEnv]
  have ft := And.intro ty_2 (And.intro ty_3 (And.intro ty_30 (And.intro ty_34 (And.intro ty_47 (And.intro ty_49 (And.intro ty_51 (And.intro ty_62 (And.intro ty_69 trivial))))))))
  refine Run.seq ?_
  have fx := And.intro rim_len ft
  refine Run.go ?_
  refine End.kp [1, 2] ?_
  refine Run.seq ?_
  refine Run.go ?_
  refine End.kp [1, 2, 4, 5] ?_
  refine Run.seq ?_
  refine Run.seq ?_
  refine Run.go ?_
  refine End.kp [1, 2, 4, 5, 9, 10, 11] ?_
  refine Run.block ?_
  refine Run.ghost (Ghost.thaw (u := 4) 62 1 (by decide) rfl) ?_
  refine Run.ghost (Ghost.thaw (u := 5) 62 1 (by decide) rfl) ?_
  refine Run.ghost (Ghost.form [(1, .ptr 0 0 0), (2, .ptr 0 1 0), (4, .ms 0 2 (0)), (5, .ms 0 3 (0)), (9, .im (.sl (g.regs.map LReg.im))), (10, .i g.regs.length), (11, .i (0 : Nat))] 4 ⟨rfl, rfl, rfl, rfl, rfl, rfl, rfl, trivial⟩ rfl rfl) ?_
  refine Run.loop (fun m s => ∃ i : Nat, m = g.regs.length - i ∧ i ≤ g.regs.length ∧ s = ⟨[(1, .ptr 0 0 0), (2, .ptr 0 1 0), (4, .ms 0 2 (i)), (5, .ms 0 3 (i)), (9, .im (.sl (g.regs.map LReg.im))), (10, .i g.regs.length), (11, .i (i : Nat))], [.box [.im (.sl (strs g.inn)), .im (.sl (strs g.out)), .im (.sl (g.regs.map LReg.im)), .im (.sl (g.ands.map nd)), .im (.sl (ints g.outs))], .box [.nils, .nils, .nils, .nils, .nils], .row 62 1 (ints ((g.regs.take i).map LReg.next)) 0, .row 62 1 (ints ((g.regs.take i).map fun _ => 1)) 0], up⟩) g.regs.length ⟨0, rfl, by omega, rfl⟩ fun m s hI => ?_
  obtain ⟨i, rfl, hi, rfl⟩ := hI
  have hl1 : (ints ((g.regs.take i).map LReg.next)).length = i := by simp; omega
  have hl2 : (ints ((g.regs.take i).map fun _ => 1)).length = i := by simp; omega
  refine Run.seq ?_
  have fx := And.intro rim_len ft
  refine Run.go ?_
  refine End.kp [1, 2, 4, 5, 9, 10, 11, 12] ?_
  refine Run.seq ?_
  refine Run.cond _ rfl (fun hb => ?_) (fun hb => ?_)
  · have hb2 := of_decide_eq_true hb
    have hin : i < g.regs.length := by omega
    have wi := wsucc hin (by omega)
    obtain ⟨r, hri, hrm, hrr⟩ := reg_at g.regs i hin
    have hap : (i + 1) * 8 ≤ 140737488355328 := by omega
    have n1 : ints ((g.regs.take (i + 1)).map LReg.next) = ints ((g.regs.take i).map LReg.next) ++ [[.int .i64 r.next]] := by simp [List.take_add_one, hri]
    have n2 : ints ((g.regs.take (i + 1)).map fun _ => 1) = ints ((g.regs.take i).map fun _ => 1) ++ [[.int .i64 1]] := by simp [List.take_add_one, hri]
    refine Run.skip ?_
    refine End.kp [1, 2, 4, 5, 9, 10, 11] ?_
    refine Run.seq ?_
    refine Run.block ?_
    refine Run.seq ?_
    have fx := And.intro (@Int.toNat_natCast) (And.intro (@Int.natCast_nonneg) (And.intro hl2 (And.intro hl1 (And.intro hap (And.intro hrr (And.intro wi (And.intro rim_len ft)))))))
    refine Run.go ?_
    refine End.kp [1, 2, 4, 5, 7, 9, 10, 11] ?_
    refine Run.go ?_
    refine End.blk ?_
    refine End.kp [1, 2, 4, 5, 9, 10, 11] ?_
    refine Run.go ?_
    refine End.lp ?_
    refine ⟨g.regs.length - (i + 1), _, by omega, Ghost.form [(1, .ptr 0 0 0), (2, .ptr 0 1 0), (4, .ms 0 2 (i + 1)), (5, .ms 0 3 (i + 1)), (9, .im (.sl (g.regs.map LReg.im))), (10, .i g.regs.length), (11, .i (i + 1 : Nat))] 4 ⟨rfl, rfl, rfl, rfl, rfl, rfl, rfl, trivial⟩ rfl rfl, i + 1, rfl, by omega, by rw [n1, n2]; rfl⟩
  · have hb2 := of_decide_eq_false hb
    have hie : i = g.regs.length := by omega
    subst hie
    rw [List.take_length] at hl1 hl2 ⊢
    refine Run.exit rfl ?_
    refine End.kp [1, 2, 4, 5] ?_
    refine Run.seq ?_
    refine Run.ghost (Ghost.shut (t := 4) (j := 2) rfl rfl hl1) ?_
    refine Run.ghost (Ghost.shut (t := 5) (j := 3) rfl rfl hl2) ?_
    simp only [eput, edel]
    have fx := And.intro rim_len ft
    refine Run.region rfl fun K hK => GOps.sim ?_
    refine GOps.call rfl rfl rfl rfl (by kernel_rfl) (ACalls.sim ?_)
    refine (With_ok g hg h100 (g.regs.map LReg.next) (g.regs.map fun _ => 1) (by simp) (by simp) (by
  intro x hx
  rcases List.mem_append.1 hx with hx | hx
  · obtain ⟨r, hr, rfl⟩ := List.mem_map.1 hx
    exact hg.regs r hr
  · obtain ⟨r, hr, rfl⟩ := List.mem_map.1 hx
    omega) hok _).mono fun v u hv => ?_
    obtain ⟨rfl, rfl⟩ := hv
    refine ⟨_, _, rfl, GOps.sim ?_⟩
    refine GOps.done (hK _ ?_); clear hK K
    refine End.kp [2, 3] ?_
    refine Run.resC hQ ?_
    exact ⟨rfl, rfl⟩
end Go.Proofs.YtkmnmokjlpenhaaPi

/- Plain law: the netlist of a graph shows what the graph shows. -/
set_option linter.unusedVariables false
set_option linter.unusedSimpArgs false
namespace Go.Proofs.YtkmnmokjlpenhaaPi
set_option maxHeartbeats 1000000

/- Lane 0 of a gate. -/
theorem matchBit : ∀ i, i < 6 → ∀ k : Nat, k < 64 → (bits .and .i64 ((k : Int).fdiv (2 ^ min i IntKind.i64.bits)) 1 == 1) = k.testBit i := by decide +kernel
def matchK (k : Nat) : List Int → Nat → Bool
  | [], _ => true
  | v :: vs, i => (k.testBit i == bit0 v) && matchK k vs (i + 1)
theorem bit0_andNot (x y : Int) : bit0 (bits .andNot .u64 x y) = (bit0 x && !bit0 y) := by
  show bit0 (IntKind.u64.wrap (BitVec.ofInt 64 x &&& ~~~ BitVec.ofInt 64 y).toNat) = _
  rw [back0]
  simp [bit0]
theorem lookIns_bit (k : Nat) (hk : k < 64) : ∀ (vs : List Int) (i : Nat) (all : Int), i + vs.length ≤ 6 → bit0 (lookIns k vs i all) = (bit0 all && matchK k vs i)
  | [], i, all, _ => by simp [lookIns, matchK]
  | v :: vs, i, all, h => by
    simp only [List.length_cons] at h
    rw [lookIns, lookIns_bit k hk vs (i + 1) _ (by omega), matchK, matchBit i (by omega) k hk]
    cases k.testBit i
    · simp [bit0_andNot, Bool.and_assoc]
    · simp [bit0_and, Bool.and_assoc]
theorem matchK_iff (k : Nat) : ∀ (vs : List Int) (i : Nat), matchK k vs i = true ↔ ∀ q, q < vs.length → k.testBit (i + q) = bit0 (vs.getD q 0)
  | [], i => by simp [matchK]
  | v :: vs, i => by
    rw [matchK, Bool.and_eq_true, matchK_iff k vs (i + 1), beq_iff_eq]
    constructor
    · intro ⟨h1, h2⟩ q hq
      cases q with
      | zero => simpa using h1
      | succ q =>
        have := h2 q (by simpa using hq)
        rw [show i + (q + 1) = i + 1 + q by omega, this]
        simp
    · intro h
      refine ⟨by simpa using h 0 (by simp), fun q hq => ?_⟩
      have := h (q + 1) (by simpa using hq)
      rw [show i + 1 + q = i + (q + 1) by omega, this]
      simp
theorem idx_testBit (f : Int → Bool) (l : List Int) : ∀ n q, q < n → (idxL f l n).testBit q = f (l.getD q 0)
  | 0, q, h => by omega
  | n + 1, q, h => by
    rw [idxL]
    have hlt := idxL_lt f l n
    by_cases hq : q = n
    · subst hq
      split
      · rename_i hf
        rw [Nat.testBit_two_pow_add_eq, Nat.testBit_lt_two_pow hlt, hf]
        rfl
      · rename_i hf
        rw [Nat.testBit_lt_two_pow hlt]
        simpa using hf
    · have ih := idx_testBit f l n q (by omega)
      split
      · rw [Nat.testBit_two_pow_add_gt (by omega), ih]
      · exact ih
theorem match_idx (k : Nat) (vs : List Int) (hk : k < 2 ^ vs.length) : matchK k vs 0 = decide (k = idxL bit0 vs vs.length) := by
  rw [Bool.eq_iff_iff, matchK_iff, decide_eq_true_iff]
  constructor
  · intro h
    rw [idx_bits bit0 vs k vs.length (fun q hq => by rw [← h q hq, Nat.zero_add]), Nat.mod_eq_of_lt hk]
  · intro h q hq
    rw [h, Nat.zero_add, idx_testBit _ _ _ _ hq]
theorem tb_bit (t : Int) (ht : U64 t) (k : Nat) (hk : k < 64) : (bits .and .u64 (t.fdiv (2 ^ min k IntKind.u64.bits)) 1 == 0) = !tb t k := by
  have hm : min k IntKind.u64.bits = k := by simp only [IntKind.bits]; omega
  have h1 := one_iff (t.fdiv (2 ^ k))
  have h2 : bit0 (t.fdiv (2 ^ k)) = tb t k := tb_shift t ht k 0
  rw [hm, ← h2, ← h1]
  rcases bit_and_one (t.fdiv (2 ^ k)) with h | h <;> rw [h] <;> rfl
def anyOf (t : Int) (ins : List Int) : Nat → Nat → Bool
  | 0, _ => false
  | n + 1, k => (tb t k && matchK k ins 0) || anyOf t ins n (k + 1)
theorem lookOut_bit (t : Int) (ht : U64 t) (ins : List Int) (hi : ins.length ≤ 6) : ∀ (n k : Nat) (out : Int), k + n ≤ 64 → bit0 (lookOut t ins n k out) = (bit0 out || anyOf t ins n k)
  | 0, k, out, _ => by simp [lookOut, anyOf]
  | n + 1, k, out, h => by
    rw [lookOut, lookOut_bit t ht ins hi n (k + 1) _ (by omega), anyOf, tb_bit t ht k (by omega)]
    cases tb t k
    · simp
    · have e : bit0 18446744073709551615 = true := by decide
      simp [bit0_or, lookIns_bit k (by omega) ins 0 _ (by omega), e, Bool.or_assoc]
theorem anyOf_iff (t : Int) (ins : List Int) : ∀ (n k : Nat), anyOf t ins n k = true ↔ ∃ j, k ≤ j ∧ j < k + n ∧ tb t j = true ∧ matchK j ins 0 = true
  | 0, k => by simp [anyOf]; omega
  | n + 1, k => by
    rw [anyOf, Bool.or_eq_true, Bool.and_eq_true, anyOf_iff t ins n (k + 1)]
    constructor
    · rintro (⟨h1, h2⟩ | ⟨j, h1, h2, h3⟩)
      · exact ⟨k, by omega, by omega, h1, h2⟩
      · exact ⟨j, by omega, by omega, h3⟩
    · rintro ⟨j, h1, h2, h3⟩
      by_cases e : j = k
      · subst e; exact .inl h3
      · exact .inr ⟨j, by omega, by omega, h3⟩
theorem look_bit (t : Int) (ht : U64 t) (ins : List Int) (hi : ins.length ≤ 6) : bit0 (lookV t ins) = tb t (idxL bit0 ins ins.length) := by
  have hp := pow_le64 hi
  have hlt := idxL_lt bit0 ins ins.length
  rw [lookV, lookOut_bit t ht ins hi _ _ _ (by omega)]
  have e : bit0 0 = false := by decide
  rw [e, Bool.false_or, Bool.eq_iff_iff, anyOf_iff]
  constructor
  · rintro ⟨j, _, h2, h3, h4⟩
    rw [match_idx j ins (by omega), decide_eq_true_iff] at h4
    rw [← h4]; exact h3
  · intro h
    exact ⟨_, by omega, by omega, h, by rw [match_idx _ ins hlt]; simp⟩
theorem gate_bit (g : LGate) (v : List Int) (h6 : g.ins.length ≤ 6) (ht : U64 g.table) : bit0 (gateVal g v) = tb g.table (idxL bit0 (g.ins.map fun k => v.getD k.toNat 0) g.ins.length) := by
  rw [gateVal, look_bit _ ht _ (by simpa using h6), List.length_map]

/- Nets of nodes. -/
theorem valsN_app : ∀ (gs hs : List LGate) (v : List Int), valsN (gs ++ hs) v = valsN hs (valsN gs v)
  | [], hs, v => rfl
  | g :: gs, hs, v => by rw [List.cons_append, valsN, valsN_app gs hs, valsN]
theorem valsN_snoc (gs : List LGate) (g : LGate) (v : List Int) : valsN (gs ++ [g]) v = valsN gs v ++ [gateVal g (valsN gs v)] := by rw [valsN_app]; rfl
abbrev nb0 (inn st : List Int) : List Int := [0, 18446744073709551615] ++ inn ++ st
theorem nb0_len (inn st : List Int) : (nb0 inn st).length = 2 + inn.length + st.length := by simp; omega
theorem getD_app_left {v w : List Int} {k : Nat} (h : k < v.length) : (v ++ w).getD k 0 = v.getD k 0 := by
  simp only [List.getD_eq_getElem?_getD]
  rw [List.getElem?_append_left h]
theorem getD_app_end (v : List Int) (x : Int) : (v ++ [x]).getD v.length 0 = x := by simp
theorem app_get_end {α : Type} {v : List α} {x : α} {j : Nat} (h : v.length = j) : (v ++ [x])[j]? = some x := by subst h; simp
theorem valsN_keep (gs hs : List LGate) (v : List Int) (k : Nat) (hk : k < v.length + gs.length) : (valsN (gs ++ hs) v).getD k 0 = (valsN gs v).getD k 0 := by
  rw [valsN_app, valsN_pre _ _ _ (by rw [valsN_len]; exact hk)]
theorem and_tab (a b : Int) (x y : Bool) : tb (2 ^ (3 - (a % 2 + 2 * (b % 2))).toNat) (if y = true then 2 ^ 1 + (if x = true then 2 ^ 0 + 0 else 0) else (if x = true then 2 ^ 0 + 0 else 0)) = ((if a % 2 = 1 then !x else x) && (if b % 2 = 1 then !y else y)) := by
  rcases (show a % 2 = 0 ∨ a % 2 = 1 by omega) with h | h <;> rcases (show b % 2 = 0 ∨ b % 2 = 1 by omega) with h' | h' <;> rw [h, h'] <;> cases x <;> cases y <;> decide
theorem and_u64 (a b : Int) : U64 (2 ^ (3 - (a % 2 + 2 * (b % 2))).toNat) := by
  rcases (show a % 2 = 0 ∨ a % 2 = 1 by omega) with h | h <;> rcases (show b % 2 = 0 ∨ b % 2 = 1 by omega) with h' | h' <;> rw [h, h'] <;> exact ⟨by decide, by decide⟩
theorem one_u64 : U64 1 := ⟨by decide, by decide⟩
theorem inv_tab (x : Bool) : tb 1 (if x = true then 2 ^ 0 + 0 else 0) = !x := by cases x <;> decide
def netK (k : Nat) : Nat := if k = 0 then 0 else k + 1
theorem netOf_K (l : Int) (h : 0 ≤ l) : (netOf l).toNat = netK (l / 2).toNat := by
  unfold netOf netK
  by_cases h2 : l < 2
  · rw [if_pos h2, if_pos (by omega)]; rfl
  · rw [if_neg h2, if_neg (by omega)]; omega
theorem lb_of_node (v : List Int) (l : Int) (x : Bool) (h : x = bit0 (v.getD (l / 2).toNat 0)) : (if l % 2 = 1 then !x else x) = lb v l := by
  rw [lb_def, h]
section
variable {g : LGraph} (hg : GraphOk g) {inn st : List Int} (h1 : inn.length = g.inn.length) (h2 : st.length = g.regs.length)
include hg h1 h2
theorem ands_nets : ∀ i, i ≤ g.ands.length → ∀ k, k < 1 + g.inn.length + g.regs.length + i → bit0 ((valsN ((g.ands.take i).map andG) (nb0 inn st)).getD (netK k) 0) = bit0 ((graphVals g inn st).getD k 0)
  | 0, _, k, hk => by
    have hw : (graphVals g inn st).getD k 0 = ([0] ++ inn ++ st).getD k 0 := by rw [graphVals, valsA_pre _ _ _ (by simp; omega)]
    rw [hw]
    simp only [List.take_zero, List.map_nil, valsN, netK]
    cases k with
    | zero => simp
    | succ k => simp
  | i + 1, hi, k, hk => by
    obtain ⟨p, hp⟩ : ∃ p, g.ands[i]? = some p := ⟨_, List.getElem?_eq_getElem (by omega)⟩
    have ih := ands_nets i (by omega)
    have hlen : (valsN ((g.ands.take i).map andG) (nb0 inn st)).length = 2 + g.inn.length + g.regs.length + i := by
      rw [valsN_len, nb0_len, List.length_map, List.length_take]; omega
    have et : (g.ands.take (i + 1)).map andG = (g.ands.take i).map andG ++ [andG p] := by simp [List.take_add_one, hp]
    rw [et, valsN_snoc]
    generalize hv : valsN ((g.ands.take i).map andG) (nb0 inn st) = v at ih hlen
    by_cases he : k = 1 + g.inn.length + g.regs.length + i
    · have hk2 : netK k = v.length := by unfold netK; rw [if_neg (by omega), hlen, he]; omega
      obtain ⟨⟨a1, a2⟩, a3, a4⟩ := hg.ands i p hp
      have e1 := ih (p.1 / 2).toNat (by omega)
      have e2 := ih (p.2 / 2).toNat (by omega)
      rw [← netOf_K _ a1] at e1
      rw [← netOf_K _ a3] at e2
      rw [hk2, getD_app_end, gate_bit _ _ (by simp [andG]) (and_u64 _ _), he, node_lb hg h1 h2 i p hp]
      have := and_tab p.1 p.2 (bit0 (v.getD (netOf p.1).toNat 0)) (bit0 (v.getD (netOf p.2).toNat 0))
      rw [lb_of_node _ p.1 _ e1, lb_of_node _ p.2 _ e2] at this
      rw [← this]
      rfl
    · have hk2 : netK k < v.length := by unfold netK; split <;> omega
      rw [getD_app_left hk2]
      exact ih k (by omega)
theorem lit_net (E : List LGate) (l : Int) (l0 : 0 ≤ l) (l1 : l < 2 * (1 + (g.inn.length : Int) + g.regs.length + g.ands.length)) : bit0 ((valsN (g.ands.map andG ++ E) (nb0 inn st)).getD (netOf l).toNat 0) = bit0 ((graphVals g inn st).getD (l / 2).toNat 0) := by
  have := ands_nets hg h1 h2 g.ands.length (Nat.le_refl _) (l / 2).toNat (by omega)
  rw [List.take_length] at this
  rw [valsN_keep _ _ _ _ (by rw [nb0_len, List.length_map, netOf_K _ l0]; unfold netK; split <;> omega), netOf_K _ l0, this]
end

/- The literals that get nets. -/
structure AtRes (g : LGraph) (l k : Int) (G : List LGate) : Prop where
  lo : 0 ≤ k
  hi : k < nbG g + G.length
  val : ∀ inn st : List Int, inn.length = g.inn.length → st.length = g.regs.length → bit0 ((valsN G (nb0 inn st)).getD k.toNat 0) = lb (graphVals g inn st) l
theorem AtRes.app {g : LGraph} {l k : Int} {G : List LGate} (h : AtRes g l k G) (E : List LGate) : AtRes g l k (G ++ E) := by
  have h0 := h.lo
  have h1 := h.hi
  unfold nbG at h1
  refine ⟨h0, by unfold nbG; simp only [List.length_append]; omega, fun inn st e1 e2 => ?_⟩
  rw [valsN_keep _ _ _ _ (by rw [nb0_len]; omega)]
  exact h.val inn st e1 e2
structure WInv (g : LGraph) (I : List (Int × Int)) (G : List LGate) : Prop where
  pre : ∃ J, I = (0, 0) :: (1, 1) :: J
  gates : ∃ E, G = g.ands.map andG ++ E ∧ ∀ x ∈ E, ∃ l, 0 ≤ l ∧ l < 2 * (1 + (g.inn.length : Int) + g.regs.length + g.ands.length) ∧ x = ⟨1, [netOf l]⟩
  keys : ∀ p ∈ I, AtRes g p.1 p.2 G
theorem lookI_mem (l : Int) : ∀ (I : List (Int × Int)) (i : Nat) (q : Nat × Int), lookI l I i = some q → (l, q.2) ∈ I
  | [], i, q, h => by simp [lookI] at h
  | p :: I, i, q, h => by
    rw [lookI] at h
    split at h
    · rename_i e
      simp only [Option.some.injEq] at h
      subst h
      subst e
      simp
    · exact List.mem_cons_of_mem _ (lookI_mem l I _ q h)
theorem netOf_range {l n : Int} (h0 : 0 ≤ l) (h1 : l < 2 * n) : 0 ≤ netOf l ∧ netOf l < 1 + n := by
  unfold netOf; split <;> omega
theorem atN_ok {g : LGraph} (hg : GraphOk g) {I : List (Int × Int)} {G : List LGate} (hI : WInv g I G) (l : Int) (l0 : 0 ≤ l) (l1 : l < 2 * (1 + (g.inn.length : Int) + g.regs.length + g.ands.length)) :
    WInv g (atN (nbG g) l I G).2.1 (atN (nbG g) l I G).2.2 ∧ AtRes g l (atN (nbG g) l I G).1 (atN (nbG g) l I G).2.2 ∧ ∃ E, (atN (nbG g) l I G).2.2 = G ++ E := by
  obtain ⟨E, hE, hx⟩ := hI.gates
  have hr := netOf_range l0 l1
  have hGl : g.ands.length ≤ G.length := by rw [hE]; simp
  unfold atN
  split
  · rename_i h
    refine ⟨hI, ⟨hr.1, by unfold nbG; simp only; omega, fun inn st e1 e2 => ?_⟩, [], by simp⟩
    simp only
    rw [hE, lit_net hg e1 e2 E l l0 l1, lb_def, if_neg (by omega)]
  · rename_i h
    split
    · rename_i q k hk
      exact ⟨hI, hI.keys _ (lookI_mem l I 0 _ hk), [], by simp⟩
    · rename_i hk
      have hodd : l % 2 = 1 := by
        obtain ⟨J, hJ⟩ := hI.pre
        rw [hJ, lookI, lookI] at hk
        split at hk
        · simp at hk
        · split at hk
          · simp at hk
          · simp only at *
            omega
      have hat : AtRes g l (nbG g + G.length) (G ++ [⟨1, [netOf l]⟩]) := by
        refine ⟨by unfold nbG; omega, by simp only [List.length_append, List.length_cons, List.length_nil]; omega, fun inn st e1 e2 => ?_⟩
        have e3 : (nbG g + (G.length : Int)).toNat = (valsN G (nb0 inn st)).length := by rw [valsN_len, nb0_len]; unfold nbG; omega
        rw [valsN_snoc, e3, getD_app_end, gate_bit _ _ (by simp) one_u64]
        have := inv_tab (bit0 ((valsN G (nb0 inn st)).getD (netOf l).toNat 0))
        have e4 : bit0 ((valsN G (nb0 inn st)).getD (netOf l).toNat 0) = bit0 ((graphVals g inn st).getD (l / 2).toNat 0) := by rw [hE]; exact lit_net hg e1 e2 E l l0 l1
        rw [lb_def, if_pos hodd, ← e4, ← this]
        rfl
      refine ⟨⟨?_, ⟨E ++ [⟨1, [netOf l]⟩], by rw [hE, List.append_assoc], fun x hx' => ?_⟩, fun p hp => ?_⟩, hat, _, rfl⟩
      · obtain ⟨J, hJ⟩ := hI.pre
        exact ⟨J ++ [(l, nbG g + G.length)], by simp [hJ]⟩
      · rcases List.mem_append.1 hx' with h' | h'
        · exact hx x h'
        · exact ⟨l, l0, l1, by simpa using h'⟩
      · rcases List.mem_append.1 hp with h' | h'
        · exact (hI.keys p h').app _
        · have e : p = (l, nbG g + G.length) := by simpa using h'
          subst e
          exact hat
theorem winv0 {g : LGraph} (hg : GraphOk g) : WInv g [(0, 0), (1, 1)] (g.ands.map andG) := by
  refine ⟨⟨[], rfl⟩, ⟨[], by simp, fun x hx => by simp at hx⟩, fun p hp => ?_⟩
  have hz : ∀ inn st : List Int, inn.length = g.inn.length → st.length = g.regs.length → bit0 ((graphVals g inn st).getD 0 0) = false := fun inn st e1 e2 => by
    rw [graphVals, valsA_pre _ _ _ (by simp)]
    simp [bit0]
  have hb : ∀ inn st : List Int, ∀ k, k < 2 → (valsN (g.ands.map andG) (nb0 inn st)).getD k 0 = (nb0 inn st).getD k 0 := fun inn st k hk => valsN_pre _ _ _ (by rw [nb0_len]; omega)
  simp only [List.mem_cons, List.not_mem_nil, or_false] at hp
  rcases hp with rfl | rfl
  · refine ⟨by omega, by unfold nbG; simp only; omega, fun inn st e1 e2 => ?_⟩
    have := hz inn st e1 e2
    simp only
    rw [lb_def, if_neg (by omega), show ((0 : Int) / 2).toNat = 0 by rfl, this, show (0 : Int).toNat = 0 by rfl, hb _ _ 0 (by omega)]
    simp [bit0]
  · refine ⟨by omega, by unfold nbG; simp only; omega, fun inn st e1 e2 => ?_⟩
    have := hz inn st e1 e2
    simp only
    rw [lb_def, if_pos (by omega), show ((1 : Int) / 2).toNat = 0 by rfl, this, show (1 : Int).toNat = 1 by rfl, hb _ _ 1 (by omega)]
    simp [bit0]
theorem outsS_ok {g : LGraph} (hg : GraphOk g) : ∀ i, i ≤ g.outs.length → WInv g (outsS g i).2.1 (outsS g i).2.2 ∧ ∀ (j : Nat) (x : Int), j < i → g.outs[j]? = some x → ∃ k : Int, (outsS g i).1[j]? = some k ∧ AtRes g x k (outsS g i).2.2
  | 0, _ => ⟨by simpa [outsS] using winv0 hg, fun j x h => by omega⟩
  | i + 1, h => by
    obtain ⟨ih1, ih2⟩ := outsS_ok hg i (by omega)
    obtain ⟨x, hx⟩ : ∃ x, g.outs[i]? = some x := ⟨_, List.getElem?_eq_getElem (by omega)⟩
    have hl := (outsS_len g i (by omega)).1
    obtain ⟨r0, r1⟩ := hg.outs x (List.mem_of_getElem? hx)
    obtain ⟨a1, a2, E, a3⟩ := atN_ok hg ih1 x r0 r1
    rw [outsS_next g i x hx]
    refine ⟨a1, fun j y hj hy => ?_⟩
    by_cases e : j = i
    · subst e
      rw [hx] at hy
      cases hy
      exact ⟨_, app_get_end hl, a2⟩
    · obtain ⟨k, k1, k2⟩ := ih2 j y (by omega) hy
      refine ⟨k, ?_, ?_⟩
      · simp only [stO]; rw [List.getElem?_append_left (by omega)]; exact k1
      · show AtRes g y k (atN _ _ _ _).2.2
        rw [a3]; exact k2.app E
theorem flopsS_ok {g : LGraph} (hg : GraphOk g) (d en : List Int) (hd : d.length = g.regs.length) (he : en.length = g.regs.length) (hr : ∀ x ∈ d ++ en, 0 ≤ x ∧ x < 2 * (1 + (g.inn.length : Int) + g.regs.length + g.ands.length)) :
    ∀ i, i ≤ g.regs.length → WInv g (flopsS g d en i).2.1 (flopsS g d en i).2.2 ∧ (∃ E, (flopsS g d en i).2.2 = (outsS g g.outs.length).2.2 ++ E) ∧ ∀ (j : Nat) (x y : Int), j < i → d[j]? = some x → en[j]? = some y → AtRes g x ((flopsS g d en i).1.getD j (0, 0)).1 (flopsS g d en i).2.2 ∧ AtRes g y ((flopsS g d en i).1.getD j (0, 0)).2 (flopsS g d en i).2.2
  | 0, _ => ⟨by simpa [flopsS] using (outsS_ok hg g.outs.length (Nat.le_refl _)).1, ⟨[], by simp [flopsS]⟩, fun j x y h => by omega⟩
  | i + 1, h => by
    obtain ⟨ih1, ⟨E0, ih0⟩, ih2⟩ := flopsS_ok hg d en hd he hr i (by omega)
    obtain ⟨x, hx⟩ : ∃ x, d[i]? = some x := ⟨_, List.getElem?_eq_getElem (by omega)⟩
    obtain ⟨y, hy⟩ : ∃ y, en[i]? = some y := ⟨_, List.getElem?_eq_getElem (by omega)⟩
    have hl := (flopsS_len g d en i (by omega) (by omega)).1
    obtain ⟨r0, r1⟩ := hr x (List.mem_append_left _ (List.mem_of_getElem? hx))
    obtain ⟨s0, s1⟩ := hr y (List.mem_append_right _ (List.mem_of_getElem? hy))
    obtain ⟨a1, a2, E, a3⟩ := atN_ok hg ih1 x r0 r1
    obtain ⟨b1, b2, E', b3⟩ := atN_ok hg a1 y s0 s1
    rw [flopsS_next g d en i x y hx hy]
    refine ⟨b1, ⟨E0 ++ E ++ E', ?_⟩, fun j x' y' hj hx' hy' => ?_⟩
    · show (atN _ _ _ _).2.2 = _
      rw [b3, a3, ih0]
      simp
    · by_cases e : j = i
      · subst e
        rw [hx] at hx'
        rw [hy] at hy'
        cases hx'
        cases hy'
        have hg' : (stF (nbG g) (flopsS g d en j) (x, y)).1.getD j (0, 0) = ((atN (nbG g) x (flopsS g d en j).2.1 (flopsS g d en j).2.2).1, (atN (nbG g) y (atN (nbG g) x (flopsS g d en j).2.1 (flopsS g d en j).2.2).2.1 (atN (nbG g) x (flopsS g d en j).2.1 (flopsS g d en j).2.2).2.2).1) := by
          simp only [stF, List.getD_eq_getElem?_getD]
          rw [List.getElem?_append_right (by omega)]
          simp [hl]
        rw [hg']
        refine ⟨?_, b2⟩
        show AtRes g x _ (atN _ _ _ _).2.2
        rw [b3]
        exact a2.app E'
      · obtain ⟨k1, k2⟩ := ih2 j x' y' (by omega) hx' hy'
        have hg' : (stF (nbG g) (flopsS g d en i) (x, y)).1.getD j (0, 0) = (flopsS g d en i).1.getD j (0, 0) := by
          simp only [stF, List.getD_eq_getElem?_getD]
          rw [List.getElem?_append_left (by omega)]
        rw [hg']
        refine ⟨?_, ?_⟩
        · show AtRes g x' _ (atN _ _ _ _).2.2
          rw [b3, a3]; exact (k1.app E).app E'
        · show AtRes g y' _ (atN _ _ _ _).2.2
          rw [b3, a3]; exact (k2.app E).app E'
/-- What the netlist of a graph is. -/
structure WithLaw (g : LGraph) (d en : List Int) : Prop where
  ok : NetOk (withV g d en)
  two : ∀ (i : Nat) (x : LGate), (withV g d en).gates[i]? = some x → x.ins.length ≤ 2
  u64 : ∀ x ∈ (withV g d en).gates, U64 x.table
  outs : ∀ (j : Nat) (x : Int), g.outs[j]? = some x → ∃ k : Int, (withV g d en).outs[j]? = some k ∧ AtRes g x k (withV g d en).gates
  flops : ∀ (j : Nat) (r : LReg) (x y : Int), g.regs[j]? = some r → d[j]? = some x → en[j]? = some y → ∃ f : LFlop, (withV g d en).flops[j]? = some f ∧ f.init = r.init ∧ AtRes g x f.d (withV g d en).gates ∧ AtRes g y f.en (withV g d en).gates
theorem flopsAt_names (regs : List LReg) (ds : List (Int × Int)) : (flopsAt regs ds).map LFlop.name = regs.map LReg.name := by
  refine List.ext_getElem? fun k => ?_
  rw [List.getElem?_map, List.getElem?_map]
  cases h : regs[k]? with
  | none => rw [List.getElem?_eq_none (by rw [flopsAt_len]; exact List.getElem?_eq_none_iff.1 h)]; rfl
  | some r => rw [flopsAt_get _ _ _ r h]; rfl
theorem tabAnd {a b : Int} (t : Int) (h : bits .andNot .u64 t 15 = 0) : bits .andNot .u64 t (2 ^ ((2 : Int) ^ [a, b].length).toNat - 1) = 0 := h
theorem tabInv {a : Int} : bits .andNot .u64 1 (2 ^ ((2 : Int) ^ [a].length).toNat - 1) = 0 := (by decide : bits .andNot .u64 1 3 = 0)
theorem withLaw {g : LGraph} (hg : GraphOk g) (b1 : g.inn.length ≤ 100) (b2 : g.out.length ≤ 100) (b3 : g.regs.length ≤ 20) (b4 : g.ands.length + g.outs.length + 2 * g.regs.length ≤ 100) (d en : List Int) (hd : d.length = g.regs.length) (he : en.length = g.regs.length) (hr : ∀ x ∈ d ++ en, 0 ≤ x ∧ x < 2 * (1 + (g.inn.length : Int) + g.regs.length + g.ands.length)) : WithLaw g d en := by
  obtain ⟨o1, o2⟩ := outsS_ok hg g.outs.length (Nat.le_refl _)
  obtain ⟨f1, ⟨E, f2⟩, f3⟩ := flopsS_ok hg d en hd he hr g.regs.length (Nat.le_refl _)
  have ol := (outsS_len g g.outs.length (Nat.le_refl _)).1
  obtain ⟨fl, fg⟩ := flopsS_len g d en g.regs.length (by omega) (by omega)
  have hfl : (withV g d en).flops.length = g.regs.length := flopsAt_len _ _
  have hnb : ∀ k : Int, k < nbG g + (withV g d en).gates.length → k < 2 + (withV g d en).inn.length + (withV g d en).flops.length + (withV g d en).gates.length := fun k hk => by
    rw [hfl]; unfold nbG at hk; exact hk
  have hnames : (withV g d en).inn ++ (withV g d en).flops.map LFlop.name = g.inn ++ g.regs.map LReg.name := by simp only [withV, flopsAt_names]
  have hgt : ∀ (i : Nat) (x : LGate), (withV g d en).gates[i]? = some x → (∃ p, g.ands[i]? = some p ∧ x = andG p) ∨ (g.ands.length ≤ i ∧ ∃ l, 0 ≤ l ∧ l < 2 * (1 + (g.inn.length : Int) + g.regs.length + g.ands.length) ∧ x = ⟨1, [netOf l]⟩) := fun i x hx => by
    obtain ⟨E', e1, e2⟩ := f1.gates
    simp only [withV] at hx
    rw [e1, List.getElem?_append, List.length_map] at hx
    split at hx
    · rw [List.getElem?_map, Option.map_eq_some_iff] at hx
      obtain ⟨p, hp, rfl⟩ := hx
      exact .inl ⟨p, hp, rfl⟩
    · exact .inr ⟨by omega, e2 x (List.mem_of_getElem? hx)⟩
  have houts : ∀ (j : Nat) (x : Int), g.outs[j]? = some x → ∃ k : Int, (withV g d en).outs[j]? = some k ∧ AtRes g x k (withV g d en).gates := fun j x hx => by
    obtain ⟨k, k1, k2⟩ := o2 j x (List.getElem?_eq_some_iff.1 hx).1 hx
    refine ⟨k, k1, ?_⟩
    show AtRes g x k (flopsS g d en g.regs.length).2.2
    rw [f2]
    exact k2.app E
  have hflops : ∀ (j : Nat) (r : LReg) (x y : Int), g.regs[j]? = some r → d[j]? = some x → en[j]? = some y → ∃ f : LFlop, (withV g d en).flops[j]? = some f ∧ f.init = r.init ∧ AtRes g x f.d (withV g d en).gates ∧ AtRes g y f.en (withV g d en).gates := fun j r x y h1 h2 h3 => by
    obtain ⟨k1, k2⟩ := f3 j x y (List.getElem?_eq_some_iff.1 h1).1 h2 h3
    exact ⟨_, flopsAt_get _ _ _ r h1, rfl, k1, k2⟩
  refine ⟨⟨⟨b1, b2, by rw [hfl]; omega, by simp only [withV]; omega, by simp only [withV]; omega⟩, ?_, ?_, hg.onames, hg.onodup, by simp only [withV]; rw [ol]; exact hg.olen, fun i x hx => ?_, ⟨fun f hf => ?_, fun k hk => ?_⟩⟩, fun i x hx => ?_, fun x hx => ?_, houts, hflops⟩
  · rw [hnames]; exact hg.names
  · rw [hnames]; exact hg.nodup
  · rw [hfl]
    rcases hgt i x hx with ⟨p, hp, rfl⟩ | ⟨hi, l, l0, l1, rfl⟩
    · refine ⟨by simp [andG], ?_, fun k hk => ?_⟩
      · simp only [andG]
        rcases (show p.1 % 2 = 0 ∨ p.1 % 2 = 1 by omega) with h | h <;> rcases (show p.2 % 2 = 0 ∨ p.2 % 2 = 1 by omega) with h' | h' <;> rw [h, h'] <;> exact tabAnd _ (by decide)
      · obtain ⟨⟨a1, a2⟩, a3, a4⟩ := hg.ands i p hp
        simp only [andG, List.mem_cons, List.not_mem_nil, or_false] at hk
        simp only [withV]
        rcases hk with rfl | rfl
        · have := netOf_range a1 a2; omega
        · have := netOf_range a3 a4; omega
    · refine ⟨by simp, tabInv, fun k hk => ?_⟩
      simp only [List.mem_cons, List.not_mem_nil, or_false] at hk
      subst hk
      have := netOf_range l0 l1
      simp only [withV]
      omega
  · obtain ⟨j, hj⟩ := List.mem_iff_getElem?.1 hf
    have hjl := (List.getElem?_eq_some_iff.1 hj).1
    rw [hfl] at hjl
    obtain ⟨f', e1, _, e3, e4⟩ := hflops j _ _ _ (List.getElem?_eq_getElem hjl) (List.getElem?_eq_getElem (by omega)) (List.getElem?_eq_getElem (by omega))
    rw [hj] at e1
    cases e1
    exact ⟨⟨e3.lo, hnb _ e3.hi⟩, e4.lo, hnb _ e4.hi⟩
  · obtain ⟨j, hj⟩ := List.mem_iff_getElem?.1 hk
    have hjl := (List.getElem?_eq_some_iff.1 hj).1
    have hjl2 : j < g.outs.length := by simp only [withV] at hjl; omega
    obtain ⟨k', e1, e2⟩ := houts j _ (List.getElem?_eq_getElem hjl2)
    rw [hj] at e1
    cases e1
    exact ⟨e2.lo, hnb _ e2.hi⟩
  · rcases hgt i x hx with ⟨p, hp, rfl⟩ | ⟨hi, l, l0, l1, rfl⟩
    · simp [andG]
    · simp
  · obtain ⟨i, hi⟩ := List.mem_iff_getElem?.1 hx
    rcases hgt i x hi with ⟨p, hp, rfl⟩ | ⟨_, l, l0, l1, rfl⟩
    · exact and_u64 _ _
    · exact one_u64
/-- A flip-flop's next state, in lane 0. -/
theorem nextF_bit (n : LNet) (v : List Int) (i : Nat) (f : LFlop) : bit0 (nextF n v i f) = if bit0 (v.getD f.en.toNat 0) = true then bit0 (v.getD f.d.toNat 0) else bit0 (v.getD (2 + n.inn.length + i) 0) := by
  have e : (2 + (n.inn.length : Int) + i).toNat = 2 + n.inn.length + i := by omega
  rw [nextF, bit0_or, bit0_and, bit0_and, bit0_not, e]
  cases bit0 (v.getD f.en.toNat 0) <;> simp
/-- The run of a netlist whose outputs and next states are, in lane 0, those of a graph. -/
theorem run_same {n : LNet} {g : LGraph} (hi : n.inn.length = g.inn.length) (hl : n.flops.length = g.regs.length) (ho : n.outs.length = g.outs.length)
    (H1 : ∀ inn st st' : List Int, inn.length = g.inn.length → same0 st st' → st.length = g.regs.length → ∀ (j : Nat) (x k : Int), g.outs[j]? = some x → n.outs[j]? = some k → bit0 ((valuesV n inn st).getD k.toNat 0) = lb (graphVals g inn st') x)
    (H2 : ∀ inn st st' : List Int, inn.length = g.inn.length → same0 st st' → st.length = g.regs.length → ∀ (j : Nat) (r : LReg) (f : LFlop), g.regs[j]? = some r → n.flops[j]? = some f → bit0 (nextF n (valuesV n inn st) j f) = lb (graphVals g inn st') r.next) :
    ∀ (t : List (List Bool)) (st st' : List Int), (∀ r ∈ t, r.length = g.inn.length) → same0 st st' → st.length = g.regs.length → runN n st t = runG g st' t
  | [], st, st', _, _, _ => rfl
  | r :: t, st, st', hr, hs, hst => by
    have hin : (lanes0 r).length = g.inn.length := by simpa using hr r (by simp)
    have k1 := H1 (lanes0 r) st st' hin hs hst
    have k2 := H2 (lanes0 r) st st' hin hs hst
    simp only [runN, runG]
    generalize valuesV n (lanes0 r) st = v at k1 k2
    generalize graphVals g (lanes0 r) st' = w at k1 k2
    have e1 : laneB (outV n v) = laneB (outsG g w) := by
      rw [laneB_bit0, laneB_bit0]
      refine List.ext_getElem? fun j => ?_
      simp only [outV, outsG, List.getElem?_map]
      cases hx : g.outs[j]? with
      | none => rw [List.getElem?_eq_none (by rw [ho]; exact List.getElem?_eq_none_iff.1 hx)]; rfl
      | some x =>
        obtain ⟨k, hk⟩ : ∃ k, n.outs[j]? = some k := ⟨_, List.getElem?_eq_getElem (by have := (List.getElem?_eq_some_iff.1 hx).1; omega)⟩
        rw [hk]
        simp only [Option.map_some, Option.some.injEq]
        exact k1 j x k hx hk
    have e2 : same0 (nextsM n v) (nextsG g w) := by
      refine ⟨by rw [nextsM, nextsF_len, nextsG, List.length_map, hl], fun j => ?_⟩
      simp only [nextsM, nextsG, List.getD_eq_getElem?_getD, List.getElem?_map]
      cases hx : g.regs[j]? with
      | none => rw [List.getElem?_eq_none (by rw [nextsF_len, hl]; exact List.getElem?_eq_none_iff.1 hx)]; rfl
      | some x =>
        obtain ⟨f, hf⟩ : ∃ f, n.flops[j]? = some f := ⟨_, List.getElem?_eq_getElem (by have := (List.getElem?_eq_some_iff.1 hx).1; omega)⟩
        rw [nextsF_get n v n.flops 0 j f hf]
        simp only [Option.map_some, Option.getD_some, Nat.zero_add]
        exact k2 j x f hx hf
    rw [e1, run_same hi hl ho H1 H2 t _ _ (fun x hx => hr x (by simp [hx])) e2 (by rw [nextsM, nextsF_len, hl])]
theorem lb_same {v v' : List Int} (h : same0 v v') (l : Int) : lb v l = lb v' l := same0_of h l
theorem with_run {g : LGraph} (hg : GraphOk g) {d en : List Int} (hd : d.length = g.regs.length) (he : en.length = g.regs.length) (hw : WithLaw g d en)
    (H : ∀ inn st : List Int, inn.length = g.inn.length → st.length = g.regs.length → ∀ (j : Nat) (r : LReg) (x y : Int), g.regs[j]? = some r → d[j]? = some x → en[j]? = some y → (if lb (graphVals g inn st) y = true then lb (graphVals g inn st) x else bit0 (st.getD j 0)) = lb (graphVals g inn st) r.next)
    (t : List (List Bool)) (hr : ∀ r ∈ t, r.length = g.inn.length) : runN (withV g d en) (lanes0 (initN (withV g d en))) t = runI g t := by
  have hfl : (withV g d en).flops.length = g.regs.length := flopsAt_len _ _
  have hol : (withV g d en).outs.length = g.outs.length := by simp only [withV]; exact (outsS_len g g.outs.length (Nat.le_refl _)).1
  have e0 : initN (withV g d en) = initG g := by
    unfold initN initG
    refine List.ext_getElem? fun j => ?_
    rw [List.getElem?_map, List.getElem?_map]
    cases hx : g.regs[j]? with
    | none => rw [List.getElem?_eq_none (by rw [hfl]; exact List.getElem?_eq_none_iff.1 hx)]; rfl
    | some r =>
      have hjl := (List.getElem?_eq_some_iff.1 hx).1
      obtain ⟨f, f1, f2, _⟩ := hw.flops j r _ _ hx (List.getElem?_eq_getElem (by omega)) (List.getElem?_eq_getElem (by omega))
      rw [f1]; simp [f2]
  rw [runI, e0]
  refine run_same rfl hfl hol (fun inn st st' h1 hs h2 j x k hx hk => ?_) (fun inn st st' h1 hs h2 j r f hx hf => ?_) t _ _ hr (same0_refl _) (by simp [initG])
  · obtain ⟨k', k1, k2⟩ := hw.outs j x hx
    rw [hk] at k1
    cases k1
    rw [valuesV, k2.val inn st h1 h2, lb_same (same0_vals g inn hs)]
  · have hjl := (List.getElem?_eq_some_iff.1 hx).1
    obtain ⟨f', f1, _, f3, f4⟩ := hw.flops j r _ _ hx (List.getElem?_eq_getElem (by omega)) (List.getElem?_eq_getElem (by omega))
    rw [hf] at f1
    cases f1
    have := H inn st h1 h2 j r _ _ hx (List.getElem?_eq_getElem (by omega)) (List.getElem?_eq_getElem (by omega))
    rw [nextF_bit, valuesV, f3.val inn st h1 h2, f4.val inn st h1 h2, ← lb_same (same0_vals g inn hs), ← this]
    congr 2
    rw [valsN_pre _ _ _ (by rw [nb0_len]; simp only [withV]; omega)]
    simp only [List.getD_eq_getElem?_getD, withV]
    rw [List.getElem?_append_right (by simp; omega)]
    congr 2
    simp
    omega
/-- The netlist of a graph, and its run. -/
theorem netG_law {g : LGraph} (hg : GraphOk g) (b1 : g.inn.length ≤ 100) (b2 : g.out.length ≤ 100) (b3 : g.regs.length ≤ 20) (b4 : g.ands.length + g.outs.length + 2 * g.regs.length ≤ 100) : WithLaw g (g.regs.map LReg.next) (g.regs.map fun _ => 1) := by
  refine withLaw hg b1 b2 b3 b4 _ _ (by simp) (by simp) fun x hx => ?_
  rcases List.mem_append.1 hx with hx | hx
  · obtain ⟨r, hr, rfl⟩ := List.mem_map.1 hx
    exact hg.regs r hr
  · obtain ⟨r, hr, rfl⟩ := List.mem_map.1 hx
    omega
theorem netG_run {g : LGraph} (hg : GraphOk g) (b1 : g.inn.length ≤ 100) (b2 : g.out.length ≤ 100) (b3 : g.regs.length ≤ 20) (b4 : g.ands.length + g.outs.length + 2 * g.regs.length ≤ 100) (t : List (List Bool)) (hr : ∀ r ∈ t, r.length = g.inn.length) : runN (netG g) (lanes0 (initN (netG g))) t = runI g t := by
  refine with_run hg (by simp) (by simp) (netG_law hg b1 b2 b3 b4) (fun inn st h1 h2 j r x y hj hx hy => ?_) t hr
  rw [List.getElem?_map, hj] at hx hy
  simp only [Option.map_some, Option.some.injEq] at hx hy
  subst hx
  subst hy
  have h0 := g_on hg h1 h2
  rw [if_pos]
  rw [lb_litB, h0]
  simp
end Go.Proofs.YtkmnmokjlpenhaaPi

/- The walk of Mux of makers. -/
set_option linter.unusedVariables false
set_option linter.unusedSimpArgs false
set_option maxRecDepth 100000
namespace Go.Proofs.YtkmnmokjlpenhaaPi
set_option maxHeartbeats 4000000
theorem mMux_ok (s a b : Int) (m : LMk) (hm : MkSmall m) (up : Frs) (d j r q : Nat) (hk : MkAt up d j r q m) (hn : m.ands.length + 3 ≤ 4000) (hs : InM m s) (ha : InM m a) (hb0 : InM m b) : ACalls Try.prog 131 [.ptr d j 0, .i s, .i a, .i b] up fun v u => v = .i (mkPair m s a (flipL s) b).1 ∧ u = setMk up d j r q (mkPair m s a (flipL s) b).2 := by
  have hm2 := hm
  obtain ⟨z1, z2, z3⟩ := hm
  have hs2 : 0 ≤ s ∧ s ≤ 1000000 := by have := hs; unfold InM LMk.top LMk.first at this; omega
  have hkn : ∀ x ∈ [s, a, b], 0 ≤ x ∧ x < 2 * (1 + (m.inn.length : Int) + m.regs.length + m.ands.length) := fun x hx => by
    simp only [List.mem_cons, List.not_mem_nil, or_false] at hx
    rcases hx with rfl | rfl | rfl
    · exact hs
    · exact ha
    · exact hb0
  refine ACalls.code Try.func131 rfl 29 rfl (by simp) [.tmp 8] rfl fun Q hQ => ?_
  simp only [ups, PV.up, argEnv]
  have ft := And.intro ty_2 (And.intro ty_3 (And.intro ty_4 (And.intro ty_49 (And.intro ty_62 (And.intro ty_109 trivial)))))
  refine Run.seq ?_
  have fx := ft
  refine Run.go ?_
  refine End.kp [0, 1, 2, 3] ?_
  refine Run.seq ?_
  refine Run.seq ?_
  refine Run.region rfl fun K hK => GOps.sim ?_
  refine GOps.call rfl rfl rfl rfl (by kernel_rfl) (ACalls.sim ?_)
  refine (mknown_ok m hm2 _ (d + 1) j r q (by exact ⟨hk.box, hk.row, hk.map⟩) [s, a, b] hkn (by simp)).mono fun v u hv => ?_
  obtain ⟨rfl, rfl⟩ := hv
  refine ⟨_, _, rfl, GOps.sim ?_⟩
  refine GOps.done (hK _ ?_); clear hK K
  refine End.kp [0, 1, 2, 3, 17] ?_
  refine Run.cond _ rfl (fun hb => ?_) (fun hb => ?_)
  · have hb2 := hb
    simp at hb
  · have hb2 := hb
    refine Run.skip ?_
    refine End.kp [0, 1, 2, 3] ?_
    refine Run.seq ?_
    have fx := ft
    refine Run.region rfl fun K hK => GOps.sim ?_
    refine GOps.call rfl rfl rfl rfl (by kernel_rfl) (ACalls.sim ?_)
    refine (Not_ok s hs2.1 (by omega) _).mono fun v u hv => ?_
    obtain ⟨rfl, rfl⟩ := hv
    refine ⟨_, _, rfl, GOps.sim ?_⟩
    refine GOps.call rfl rfl rfl rfl (by kernel_rfl) (ACalls.sim ?_)
    refine (mpair_ok s a (flipL s) b m hm2 _ (d + 1) j r q (by exact ⟨hk.box, hk.row, hk.map⟩) hn hs ha (flip_in hs) hb0).mono fun v u hv => ?_
    obtain ⟨rfl, rfl⟩ := hv
    refine ⟨_, _, rfl, GOps.sim ?_⟩
    refine GOps.done (hK _ ?_); clear hK K
    refine End.kp [9] ?_
    refine Run.seq ?_
    refine Run.go ?_
    refine End.kp [8] ?_
    refine Run.ret (hQ _ _ ⟨.inr rfl, _, rfl, _, rfl, ?_⟩)
    exact ⟨rfl, rfl⟩
end Go.Proofs.YtkmnmokjlpenhaaPi

/- The walks of Maker.Reg, and of Maker.Graph with registers. -/
set_option linter.unusedVariables false
set_option linter.unusedSimpArgs false
set_option maxRecDepth 100000
namespace Go.Proofs.YtkmnmokjlpenhaaPi
set_option maxHeartbeats 4000000
theorem mReg_ok (i : Nat) (m : LMk) (hm : MkSmall m) (up : Frs) (d j r q : Nat) (hk : MkAt up d j r q m) (hi : i < m.regs.length) : ACalls Try.prog 132 [.ptr d j 0, .i i] up fun v u => v = .i (2 * (1 + m.inn.length + i)) ∧ u = up := by
  obtain ⟨z1, z2, z3⟩ := hm
  have kb := hk.box
  have kr := hk.row
  have kq := hk.map
  have w1 : IntKind.i64.wrap (1 + (m.inn.length : Int)) = 1 + (m.inn.length : Int) := wrap64 (by omega)
  have d1 : decide ((i : Int) < 0) = false := decide_eq_false (by omega)
  have d2 : decide ((m.regs.length : Int) ≤ i) = false := decide_eq_false (by omega)
  have w4 : IntKind.i64.wrap (1 + (m.inn.length : Int) + i) = 1 + (m.inn.length : Int) + i := wrap64 (by omega)
  have w5 : IntKind.i64.wrap (2 * (1 + (m.inn.length : Int) + i)) = 2 * (1 + (m.inn.length : Int) + i) := wrap64 (by omega)
  refine ACalls.code Try.func132 rfl 27 rfl (by simp) [.tmp 4] rfl fun Q hQ => ?_
  simp only [ups, PV.up, argEnv]
  have ft := And.intro ty_3 (And.intro ty_4 (And.intro ty_9 (And.intro ty_26 (And.intro ty_34 (And.intro ty_47 (And.intro ty_62 (And.intro ty_69 (And.intro ty_109 (And.intro ty_170 trivial)))))))))
  refine Run.seq ?_
  have fx := And.intro (@ge_iff_le Int _) (And.intro w5 (And.intro w4 (And.intro w1 (And.intro d2 (And.intro d1 (And.intro rim_len (And.intro strs_len (And.intro kb ft))))))))
  refine Run.go ?_
  refine End.kp [0, 1] ?_
  refine Run.seq ?_
  refine Run.seq ?_
  refine Run.go ?_
  refine End.kp [0, 1, 15] ?_
  refine Run.cond _ rfl (fun hb => ?_) (fun hb => ?_)
  · have hb2 := hb
    simp at hb
  · have hb2 := hb
    refine Run.skip ?_
    refine End.kp [0, 1] ?_
    refine Run.seq ?_
    have fx := And.intro (@ge_iff_le Int _) (And.intro w5 (And.intro w4 (And.intro w1 (And.intro d2 (And.intro d1 (And.intro rim_len (And.intro strs_len (And.intro kb ft))))))))
    refine Run.go ?_
    refine End.kp [4] ?_
    refine Run.ret (hQ _ _ ⟨.inr rfl, _, rfl, _, rfl, ?_⟩)
    exact ⟨rfl, rfl⟩
theorem CopyRI_ok (g : LGraph) (hg : GSmall g) (k : Nat) (up : Frs) (hk : fget up 0 k = some .dead) : ACalls Try.prog 117 [g.pv] up fun v u => v = .agg [.im (.sl (strs g.inn)), .im (.sl (strs g.out)), .ms 0 k g.regs.length, .im (.sl (g.ands.map nd)), .im (.sl (ints g.outs))] ∧ u = fset up 0 k (.row 69 3 (g.regs.map LReg.im) 0) := by
  obtain ⟨z1, z2, z3, z4, z5⟩ := hg
  have hset : ∀ (u : Frs) (d j : Nat) (o x : AObj), fget u d j = some o → fget (fset u d j x) d j = some x := fun u d j o x h => fget_fset_same _ _ _ _ _ h
  refine ACalls.codeI Try.func117 rfl 19 rfl (by simp) [.cell 2 51] rfl k fun Q hQ => ?_
  simp only [ups, PV.up, argEnv]
  have ft := And.intro ty_2 (And.intro ty_3 (And.intro ty_4 (And.intro ty_9 (And.intro ty_26 (And.intro ty_47 (And.intro ty_48 (And.intro ty_49 (And.intro ty_51 (And.intro ty_62 (And.intro ty_69 (And.intro ty_137 trivial)))))))))))
  refine Run.ghost (.spares 1) ?_
  simp only [ASt.pushN, ASt.push, List.append_assoc, List.cons_append, List.nil_append]
  refine Run.seq ?_
  have fx := ft
  refine Run.go ?_
  refine End.kp [1, 2] ?_
  refine Run.seq ?_
  refine Run.drawA fun K hK => ?_
  refine DOps.sim ?_
  refine DOps.call (.im (.sl (strs g.inn))) [] [] rfl rfl rfl rfl (by kernel_rfl) (by simp [Agree]) (fun u hu => CloneS_ok g.inn (by omega) u) ?_
  refine DOps.sim ?_
  refine DOps.call (.im (.sl (strs g.out))) [] [] rfl rfl rfl rfl (by kernel_rfl) (by simp [Agree]) (fun u hu => CloneS_ok g.out (by omega) u) ?_
  refine DOps.sim ?_
  refine DOps.call (.ms 0 0 g.regs.length) [((0, 0), .dead)] [((0, 0), .row 69 3 (g.regs.map LReg.im) 0)] rfl rfl rfl rfl (by kernel_rfl) (by simp [Agree, ASt.fr]) (fun u hu => CloneRI_ok g.regs (by omega) 0 u (hu ((0, 0), .dead) (by simp))) ?_
  refine DOps.sim ?_
  refine DOps.call (.im (.sl (g.ands.map nd))) [] [] rfl rfl rfl rfl (by kernel_rfl) (by simp [Agree]) (fun u hu => CloneN_ok g.ands (by omega) u) ?_
  refine DOps.sim ?_
  refine DOps.call (.im (.sl (ints g.outs))) [] [] rfl rfl rfl rfl (by kernel_rfl) (by simp [Agree]) (fun u hu => CloneL_ok g.outs (by omega) u) ?_
  refine DOps.sim ?_
  refine DOps.nil (by rfl) (hK _ ?_); clear hK K
  refine End.kp [2] ?_
  refine Run.resI 0 hQ hk ?_
  exact ⟨rfl, rfl⟩
end Go.Proofs.YtkmnmokjlpenhaaPi

/- The walk of Maker.Graph with registers. -/
set_option linter.unusedVariables false
set_option linter.unusedSimpArgs false
set_option maxRecDepth 100000
namespace Go.Proofs.YtkmnmokjlpenhaaPi
set_option maxHeartbeats 4000000
/-- The registers, the first i of which take their next literals. -/
def regsN (R0 : List LReg) (next : List Int) (i : Nat) : List LReg := (List.range R0.length).map fun k => ⟨(R0.map LReg.name).getD k ByteArray.empty, if k < i then next.getD k 0 else (R0.map LReg.next).getD k 0, (R0.map LReg.init).getD k false⟩
theorem regsN_len (R0 : List LReg) (next : List Int) (i : Nat) : (regsN R0 next i).length = R0.length := by simp [regsN]
theorem regsN_get (R0 : List LReg) (next : List Int) (i k : Nat) (r : LReg) (h : R0[k]? = some r) : (regsN R0 next i)[k]? = some ⟨r.name, if k < i then next.getD k 0 else r.next, r.init⟩ := by
  obtain ⟨hk, he⟩ := List.getElem?_eq_some_iff.1 h
  subst he
  simp [regsN, hk, List.getD_eq_getElem?_getD]
theorem regsN_zero (R0 : List LReg) (next : List Int) : regsN R0 next 0 = R0 := by
  refine List.ext_getElem? fun k => ?_
  by_cases h : k < R0.length
  · rw [regsN_get R0 next 0 k R0[k] (List.getElem?_eq_getElem h), List.getElem?_eq_getElem h]
    simp
  · rw [List.getElem?_eq_none (by rw [regsN_len]; omega), List.getElem?_eq_none (by omega)]
theorem regsN_set (R0 : List LReg) (next : List Int) (i : Nat) (r : LReg) (x : Int) (h : R0[i]? = some r) (hx : next[i]? = some x) : (regsN R0 next i).set i ⟨r.name, x, r.init⟩ = regsN R0 next (i + 1) := by
  refine List.ext_getElem? fun k => ?_
  have hi := (List.getElem?_eq_some_iff.1 h).1
  rw [List.getElem?_set, regsN_len]
  by_cases e : i = k
  · subst e
    rw [if_pos rfl, if_pos hi, regsN_get R0 next (i + 1) i r h]
    simp [List.getD_eq_getElem?_getD, hx]
  · rw [if_neg e]
    by_cases hk : k < R0.length
    · rw [regsN_get R0 next i k R0[k] (List.getElem?_eq_getElem hk), regsN_get R0 next (i + 1) k R0[k] (List.getElem?_eq_getElem hk)]
      by_cases h2 : k < i
      · rw [if_pos h2, if_pos (by omega)]
      · rw [if_neg h2, if_neg (by omega)]
    · rw [List.getElem?_eq_none (by rw [regsN_len]; omega), List.getElem?_eq_none (by rw [regsN_len]; omega)]
theorem mGraphR_ok (g : LGraph) (hs : GSmall g) (next : List Int) (hn : next.length = g.regs.length) (hg : GraphOk (⟨g.inn, g.out, regsN g.regs next g.regs.length, g.ands, g.outs⟩ : LGraph)) (up : Frs) (d j q : Nat) (hk : fget up d j = some (.box [.im (.sl (strs g.inn)), .im (.sl (g.regs.map LReg.im)), .im (.sl (g.ands.map nd)), .map 0 q, .i 0])) : ACalls Try.prog 64 [.ptr d j 0, .im (.sl (strs g.out)), .im (.sl (ints g.outs)), .im (.sl (ints next))] up fun v u => v = .tup [(⟨g.inn, g.out, regsN g.regs next g.regs.length, g.ands, g.outs⟩ : LGraph).pv, .i 0] ∧ u = up := by
  obtain ⟨z1, z2, z3, z4, z5⟩ := hs
  have dR : ((next.length : Int) != g.regs.length) = false := by rw [hn]; simp
  refine ACalls.code Try.func64 rfl 70 rfl (by simp) [.cell 8 51, .tmp 9] rfl fun Q hQ => ?_
  simp only [ups, PV.up, argEnv]
  have ft := And.intro ty_2 (And.intro ty_3 (And.intro ty_4 (And.intro ty_9 (And.intro ty_26 (And.intro ty_34 (And.intro ty_47 (And.intro ty_48 (And.intro ty_49 (And.intro ty_51 (And.intro ty_62 (And.intro ty_69 (And.intro ty_109 (And.intro ty_137 (And.intro ty_170 trivial))))))))))))))
  refine Run.seq ?_
  have fx := And.intro dR (And.intro ints_len (And.intro rim_len (And.intro hk ft)))
  refine Run.go ?_
  refine End.kp [0, 1, 2, 3, 8] ?_
  refine Run.seq ?_
  refine Run.seq ?_
  refine Run.go ?_
  refine End.kp [0, 1, 2, 3, 8, 18] ?_
  refine Run.cond _ rfl (fun hb => ?_) (fun hb => ?_)
  · have hb0 := hb
    simp at hb
  · have hb0 := hb
    refine Run.skip ?_
    refine End.kp [0, 1, 2, 3, 8] ?_
    refine Run.seq ?_
    refine Run.seq ?_
    have fx := And.intro dR (And.intro ints_len (And.intro rim_len (And.intro hk ft)))
    refine Run.go ?_
    refine End.kp [0, 1, 2, 3, 8, 31] ?_
    refine Run.cond _ rfl (fun hb => ?_) (fun hb => ?_)
    · have hb0 := hb
      simp at hb
    · have hb0 := hb
      refine Run.skip ?_
      refine End.kp [0, 1, 2, 3, 8] ?_
      refine Run.seq ?_
      have fx := And.intro dR (And.intro ints_len (And.intro rim_len (And.intro hk ft)))
      refine Run.ghost (.spares 2) ?_
      simp only [ASt.pushN, ASt.push, List.append_assoc, List.cons_append, List.nil_append]
      refine Run.drawA fun K hK => ?_
      refine DOps.sim ?_
      refine DOps.call (.agg [.im (.sl (strs g.inn)), .im (.sl (strs g.out)), .ms 0 1 g.regs.length, .im (.sl (g.ands.map nd)), .im (.sl (ints g.outs))]) [((0, 1), .dead)] [((0, 1), .row 69 3 (g.regs.map LReg.im) 0)] rfl rfl rfl rfl (by kernel_rfl) (by simp [Agree, ASt.fr]) (fun u hu => CopyRI_ok g ⟨z1, z2, z3, z4, z5⟩ 1 u (hu ((0, 1), .dead) (by simp))) ?_
      refine DOps.sim ?_
      refine DOps.nil (by rfl) (hK _ ?_); clear hK K
      refine End.kp [3, 8, 10] ?_
      refine Run.seq ?_
      refine Run.seq ?_
      have fx := And.intro dR (And.intro ints_len (And.intro rim_len (And.intro hk ft)))
      refine Run.go ?_
      refine End.kp [8, 10, 49, 50, 51] ?_
      refine Run.block ?_
      refine Run.ghost (Ghost.form [(8, .ptr 0 0 0), (10, .ptr 0 2 0), (49, .im (.sl (ints next))), (50, .i next.length), (51, .i (0 : Nat))] 3 ⟨rfl, rfl, rfl, rfl, rfl, trivial⟩ rfl rfl) ?_
      refine Run.loop (fun m s => ∃ i : Nat, m = next.length - i ∧ i ≤ next.length ∧ s = ⟨[(8, .ptr 0 0 0), (10, .ptr 0 2 0), (49, .im (.sl (ints next))), (50, .i next.length), (51, .i (i : Nat))], [.box [.nils, .nils, .nils, .nils, .nils], .row 69 3 ((regsN g.regs next (i)).map LReg.im) 0, .box [.im (.sl (strs g.inn)), .im (.sl (strs g.out)), .ms 0 1 g.regs.length, .im (.sl (g.ands.map nd)), .im (.sl (ints g.outs))]], up⟩) next.length ⟨0, rfl, by omega, by rw [regsN_zero]; rfl⟩ fun m s hI => ?_
      obtain ⟨i, rfl, hi, rfl⟩ := hI
      refine Run.seq ?_
      have fx := And.intro dR (And.intro ints_len (And.intro rim_len (And.intro hk ft)))
      refine Run.go ?_
      refine End.kp [8, 10, 49, 50, 51, 52] ?_
      refine Run.seq ?_
      refine Run.cond _ rfl (fun hb => ?_) (fun hb => ?_)
      · have hb3 := of_decide_eq_true hb
        have hin : i < next.length := by omega
        have wi := wsucc hin (by omega)
        obtain ⟨x, hxi, hxm, hx⟩ := int_at next i hin
        obtain ⟨r, hri, hrm, hrr⟩ := reg_at g.regs i (by omega)
        have hil : (i : Int) < (g.regs.length : Int) := by omega
        have hfr : ((regsN g.regs next i).map LReg.im)[i]? = some [.str r.name, .int .i64 r.next, .bool r.init] := by
          rw [List.getElem?_map, regsN_get _ _ _ i r hri, if_neg (by omega)]
          rfl
        have hl0 : ((regsN g.regs next i).map LReg.im).length = g.regs.length := by rw [List.length_map, regsN_len]
        have hset : ((regsN g.regs next i).map LReg.im).set i [.str r.name, .int .i64 x, .bool r.init] = (regsN g.regs next (i + 1)).map LReg.im := by
          rw [← regsN_set g.regs next i r x hri hxi, List.map_set]
        refine Run.skip ?_
        refine End.kp [8, 10, 49, 50, 51] ?_
        refine Run.seq ?_
        refine Run.block ?_
        refine Run.seq ?_
        have fx := And.intro (@Int.toNat_natCast) (And.intro (@Int.natCast_nonneg) (And.intro hl0 (And.intro hfr (And.intro hil (And.intro hx (And.intro wi (And.intro dR (And.intro ints_len (And.intro rim_len (And.intro hk ft))))))))))
        refine Run.go ?_
        refine End.kp [8, 10, 11, 12, 49, 50, 51] ?_
        refine Run.go ?_
        refine End.blk ?_
        refine End.kp [8, 10, 49, 50, 51] ?_
        refine Run.go ?_
        refine End.lp ?_
        refine ⟨next.length - (i + 1), _, by omega, Ghost.form [(8, .ptr 0 0 0), (10, .ptr 0 2 0), (49, .im (.sl (ints next))), (50, .i next.length), (51, .i (i + 1 : Nat))] 3 ⟨rfl, rfl, rfl, rfl, rfl, trivial⟩ rfl rfl, i + 1, rfl, by omega, by rw [← hset]; rfl⟩
      · have hb3 := of_decide_eq_false hb
        have hie : i = g.regs.length := by omega
        subst hie
        refine Run.exit rfl ?_
        refine End.kp [8, 10] ?_
        refine Run.seq ?_
        refine Run.seq ?_
        refine Run.ghost (Ghost.boxShut (j := 2) (i := 2) (r := 1) rfl rfl rfl (by rw [List.length_map, regsN_len])) ?_
        simp only [List.set_cons_succ, List.set_cons_zero]
        have fx := And.intro dR (And.intro ints_len (And.intro rim_len (And.intro hk ft)))
        refine Run.region rfl fun K hK => GOps.sim ?_
        refine GOps.call rfl rfl rfl rfl (by kernel_rfl) (ACalls.sim ?_)
        refine (Check_ok (⟨g.inn, g.out, regsN g.regs next g.regs.length, g.ands, g.outs⟩ : LGraph) hg _).mono fun v u hv => ?_
        obtain ⟨rfl, rfl⟩ := hv
        refine ⟨_, _, rfl, GOps.sim ?_⟩
        refine GOps.done (hK _ ?_); clear hK K
        refine End.kp [8, 10, 13] ?_
        refine Run.seq ?_
        refine Run.go ?_
        refine End.kp [8, 10, 13, 66] ?_
        refine Run.cond _ rfl (fun hb => ?_) (fun hb => ?_)
        · have hb3 := hb
          simp at hb
        · have hb3 := hb
          refine Run.skip ?_
          refine End.kp [8, 10] ?_
          refine Run.seq ?_
          have fx := And.intro dR (And.intro ints_len (And.intro rim_len (And.intro hk ft)))
          refine Run.go ?_
          refine End.kp [8, 9] ?_
          refine Run.resC hQ ?_
          exact ⟨rfl, rfl⟩
end Go.Proofs.YtkmnmokjlpenhaaPi

