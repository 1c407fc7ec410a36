/- The walks of small functions: ranges, bits, lanes, numbers of nets, masks, clones. -/
import Derived.Test.YtkmnmokjlpenhaaWD
set_option linter.unusedVariables false
set_option linter.unusedSimpArgs false
set_option maxRecDepth 100000
namespace Go.Proofs.YtkmnmokjlpenhaaPi

abbrev bools (l : List Bool) : List (List Im) := l.map fun b => [.bool b]
abbrev us (l : List Int) : List (List Im) := l.map fun x => [.int .u64 x]
theorem bools_len (l : List Bool) : (bools l).length = l.length := by simp
theorem us_len (l : List Int) : (us l).length = l.length := by simp
theorem bools_get (l : List Bool) (i : Nat) (h : i < l.length) : (bools l)[i]? = some [.bool (l.getD i false)] := by simp [h]
theorem us_get (l : List Int) (i : Nat) (h : i < l.length) : (us l)[i]? = some [.int .u64 (l.getD i 0)] := by simp [h]
theorem drop_getD {α : Type} (l : List α) (i : Nat) (z : α) (h : i < l.length) : l.drop i = l.getD i z :: l.drop (i + 1) := by
  have e : l.getD i z = l[i] := by simp [h]
  rw [e]
  exact List.drop_eq_getElem_cons h
theorem wsucc {i n : Nat} (h : i < n) (hn : n ≤ 140737488355328) : IntKind.i64.wrap ((i : Int) + 1) = ((i + 1 : Nat) : Int) := by rw [wrap64 (by omega)]; omega
/-- The next place of a row that is being filled. -/
theorem fill_next (done : List (List Im)) (k : Nat) (z y : List Im) : (done ++ List.replicate (k + 1) z).set done.length y = (done ++ [y]) ++ List.replicate k z := by
  rw [List.set_append_right _ _ (Nat.le_refl _)]
  simp [List.replicate_succ]
theorem take_snoc {α : Type} (l : List α) (i : Nat) (z : α) (h : i < l.length) : l.take (i + 1) = l.take i ++ [l.getD i z] := by
  rw [List.take_add_one]
  simp [h]
/-- A row whose first places are filled, one more of them. -/
theorem fill_map {α : Type} (f : α → List Im) (q : List α) (z : List Im) (d : α) (i : Nat) (h : i < q.length) :
    ((q.take i).map f ++ List.replicate (q.length - i) z).set i (f (q.getD i d)) = (q.take (i + 1)).map f ++ List.replicate (q.length - (i + 1)) z := by
  have hA : ((q.take i).map f).length = i := by simp; omega
  have := fill_next ((q.take i).map f) (q.length - (i + 1)) z (f (q.getD i d))
  rw [hA] at this
  rw [show q.length - i = q.length - (i + 1) + 1 by omega, this, take_snoc q i d h]
  simp
theorem fill_len {α : Type} (f : α → List Im) (q : List α) (z : List Im) (i : Nat) (h : i ≤ q.length) : ((q.take i).map f ++ List.replicate (q.length - i) z).length = q.length := by simp; omega
theorem fill_get {α : Type} (f : α → List Im) (q : List α) (z : List Im) (i : Nat) (h : i < q.length) : ((q.take i).map f ++ List.replicate (q.length - i) z)[i]? = some z := by
  have hA : ((q.take i).map f).length = i := by simp; omega
  rw [List.getElem?_append_right (by omega), hA, Nat.sub_self, List.getElem?_replicate, if_pos (by omega)]
theorem fill_all {α : Type} (f : α → List Im) (q : List α) (z : List Im) : (q.take q.length).map f ++ List.replicate (q.length - q.length) z = q.map f := by simp
abbrev b2u (b : Bool) : List Im := [.int .u64 (if b then 1 else 0)]
theorem b2u_map (q : List Bool) : q.map b2u = us (q.map fun b => if b then 1 else 0) := by simp
def valsV (l : List Int) : Nat → Int → List Bool
  | 0, _ => []
  | k + 1, a => (nextV l a 2 == 0) :: valsV l k (a + 1)
theorem valsV_len (l : List Int) : ∀ (k : Nat) (a : Int), (valsV l k a).length = k
  | 0, a => rfl
  | k + 1, a => by simp [valsV, valsV_len l k]
theorem Range_ok (low high : Int) (h1 : 0 ≤ low) (h2 : low ≤ high) (h3 : high ≤ 1000000) (l : List Int) (a : Int) (hs : StmOk l a) (hf : a + 1000 < 1099511627776) (up : Frs) (d j : Nat) (hl : fget up d j = some (stm l a)) : ACalls Try.prog 30 [.ptr d j 0, .i low, .i high] up fun v u => v = .i (low + nextV l a (high - low + 1)) ∧ u = fset up d j (stm l (a + 1)) := by
  have hset : ∀ o, fget (fset up d j o) d j = some o := fun o => fget_fset_same _ _ _ _ _ hl
  have hp := hs.pos
  
  obtain ⟨r0, r1⟩ := nextV_range l a (high - low + 1) (by omega)
  have w1 : IntKind.i64.wrap (high - low) = high - low := wrap64 (by omega)
  have w2 : IntKind.i64.wrap (high - low + 1) = high - low + 1 := wrap64 (by omega)
  have w3 : IntKind.i64.wrap (low + nextV l a (high - low + 1)) = low + nextV l a (high - low + 1) := wrap64 (by omega)
  refine ACalls.code Try.func30 rfl 19 rfl (by simp) [.tmp 6] rfl fun Q hQ => ?_
  simp only [ups, PV.up, argEnv]
  have ft := And.intro ty_3 (And.intro ty_4 (And.intro ty_23 trivial))
  refine Run.seq ?_
  have fx := And.intro w3 (And.intro w2 (And.intro w1 (And.intro hset (And.intro hl ft))))
  refine Run.go ?_
  refine End.kp [0, 1, 2] ?_
  refine Run.seq ?_
  refine Run.seq ?_
  refine Run.go ?_
  refine End.kp [0, 1, 2, 9] ?_
  refine Run.cond _ rfl (fun hb => ?_) (fun hb => ?_)
  · have hb := of_decide_eq_true hb
    omega
  · have hb := of_decide_eq_false hb
    refine Run.skip ?_
    refine End.kp [0, 1, 2] ?_
    refine Run.seq ?_
    have fx := And.intro w3 (And.intro w2 (And.intro w1 (And.intro hset (And.intro hl ft))))
    refine Run.region rfl fun K hK => GOps.sim ?_
    refine GOps.call rfl rfl rfl rfl (by kernel_rfl) (ACalls.sim ?_)
    refine (Next_ok l a (high - low + 1) hs (by omega) _ (d + 1) j hl).mono fun v u hv => ?_
    obtain ⟨rfl, rfl⟩ := hv
    refine ⟨_, _, rfl, GOps.sim ?_⟩
    refine GOps.done (hK _ ?_); clear hK K
    refine End.kp [6] ?_
    refine Run.ret (hQ _ _ ⟨.inr rfl, _, rfl, _, rfl, ?_⟩)
    exact ⟨rfl, rfl⟩
theorem Values_ok (N : Nat) (hN : N ≤ 500) (l : List Int) (a : Int) (hs : StmOk l a) (hf : a + 1000 < 1099511627776) (up : Frs) (d j : Nat) (hl : fget up d j = some (stm l a)) : ACalls Try.prog 31 [.ptr d j 0, .i N] up fun v u => v = .im (.sl (bools (valsV l N a))) ∧ u = fset up d j (stm l (a + N)) := by
  have hset : ∀ o, fget (fset up d j o) d j = some o := fun o => fget_fset_same _ _ _ _ _ hl
  have hp := hs.pos
  refine ACalls.code Try.func31 rfl 17 rfl (by simp) [.tmp 4] rfl fun Q hQ => ?_
  simp only [ups, PV.up, argEnv]
  have ft := And.intro ty_3 (And.intro ty_4 (And.intro ty_23 (And.intro ty_71 trivial)))
  refine Run.seq ?_
  have fx := And.intro hset (And.intro hl ft)
  refine Run.go ?_
  refine End.kp [0, 1] ?_
  refine Run.seq ?_
  refine Run.go ?_
  refine End.kp [0, 1, 5] ?_
  refine Run.seq ?_
  refine Run.seq ?_
  refine Run.go ?_
  refine End.kp [0, 5, 6, 7] ?_
  refine Run.block ?_
  refine Run.ghost (Ghost.thaw (u := 5) 4 1 (by decide) rfl) ?_
  refine Run.ghost (Ghost.form [(0, .ptr (d + 1) j 0), (5, .ms 0 0 (0)), (6, .i N), (7, .i (0 : Nat))] 1 ⟨rfl, rfl, rfl, rfl, trivial⟩ rfl rfl) ?_
  refine Run.loop (fun m s => ∃ (i : Nat) (done : List Bool), m = N - i ∧ i ≤ N ∧ done.length = i ∧ done ++ valsV l (N - i) (a + i) = valsV l N a ∧
    s = ⟨[(0, .ptr (d + 1) j 0), (5, .ms 0 0 (i)), (6, .i N), (7, .i (i : Nat))], [.row 4 1 (bools done) 0], fset up d j (stm l (a + i))⟩) N ⟨0, [], rfl, by omega, rfl, by simp, by rw [show a + ((0 : Nat) : Int) = a by omega, fset_self up d j _ hl]; rfl⟩ fun m s hI => ?_
  obtain ⟨i, done, rfl, hi, hdl, hw1, rfl⟩ := hI
  have hsl : (bools done).length = i := by rw [bools_len, hdl]
  have hs0 : StmOk l (a + i) := ⟨hs.vals, hs.len, by omega, by omega⟩
  have hap : (i + 1) * 1 ≤ 140737488355328 := by omega
  refine Run.seq ?_
  have fx := And.intro hap (And.intro hsl (And.intro hset (And.intro hl ft)))
  refine Run.go ?_
  refine End.kp [0, 5, 6, 7, 8] ?_
  refine Run.seq ?_
  refine Run.cond _ rfl (fun hb => ?_) (fun hb => ?_)
  · have hb := of_decide_eq_true hb
    have hin : i < N := by omega
    have wi := wsucc hin (by omega)
    refine Run.skip ?_
    refine End.kp [0, 5, 6, 7] ?_
    refine Run.seq ?_
    refine Run.block ?_
    have fx := And.intro wi (And.intro hap (And.intro hsl (And.intro hset (And.intro hl ft))))
    refine Run.region rfl fun K hK => GOps.sim ?_
    refine GOps.call rfl rfl rfl rfl (by kernel_rfl) (ACalls.sim ?_)
    refine (Next_ok l (a + i) 2 hs0 (by omega) _ (d + 1) j (hset _)).mono fun v u hv => ?_
    obtain ⟨rfl, rfl⟩ := hv
    refine ⟨_, _, rfl, GOps.sim ?_⟩
    refine GOps.done (hK _ ?_); clear hK K
    refine End.blk ?_
    refine End.kp [0, 5, 6, 7] ?_
    refine Run.go ?_
    refine End.lp ?_
    have hvi : valsV l (N - i) (a + i) = (nextV l (a + i) 2 == 0) :: valsV l (N - (i + 1)) (a + ((i + 1 : Nat) : Int)) := by
      rw [show N - i = (N - (i + 1)) + 1 by omega, show a + ((i + 1 : Nat) : Int) = a + i + 1 by omega]
      rfl
    rw [hvi] at hw1
    refine ⟨N - (i + 1), _, by omega, Ghost.form [(0, .ptr (d + 1) j 0), (5, .ms 0 0 (i + 1)), (6, .i N), (7, .i (i + 1 : Nat))] 1 ⟨rfl, rfl, rfl, rfl, trivial⟩ rfl rfl, i + 1, done ++ [nextV l (a + i) 2 == 0], rfl, by omega, by simp [hdl], by simpa using hw1, ?_⟩
    rw [show a + ((i + 1 : Nat) : Int) = a + i + 1 by omega]
    simp
  · have hb := of_decide_eq_false hb
    have hiN : i = N := by omega
    subst hiN
    simp only [Nat.sub_self, valsV, List.append_nil] at hw1
    refine Run.exit rfl ?_
    refine End.kp [5] ?_
    refine Run.seq ?_
    refine Run.ghost (Ghost.shut (t := 5) (j := 0) rfl rfl hsl) ?_
    simp only [eput, edel]
    have fx := And.intro hap (And.intro hsl (And.intro hset (And.intro hl ft)))
    refine Run.go ?_
    refine End.kp [4] ?_
    refine Run.ret (hQ _ _ ⟨.inr rfl, _, rfl, _, rfl, ?_⟩)
    exact ⟨by rw [hw1], rfl⟩
theorem Lanes_ok (q : List Bool) (hq : q.length ≤ 1000) (up : Frs) : ACalls Try.prog 33 [.im (.sl (bools q))] up fun v u => v = .im (.sl (us (q.map fun b => if b then 1 else 0))) ∧ u = up := by
  have hc : (0 : Int) ≤ q.length := by omega
  have hm1 : ((8 : Nat) : Int) * (q.length : Int) ≤ 281474976710656 := by omega
  have hm2 : (q.length : Int) ≤ 9223372036854775807 := by omega
  refine ACalls.code Try.func33 rfl 22 rfl (by simp) [.tmp 2] rfl fun Q hQ => ?_
  simp only [ups, PV.up, argEnv]
  have ft := And.intro ty_3 (And.intro ty_4 (And.intro ty_37 (And.intro ty_56 (And.intro ty_71 trivial))))
  refine Run.seq ?_
  have fx := And.intro hm2 (And.intro hm1 (And.intro hc (And.intro bools_len ft)))
  refine Run.go ?_
  refine End.kp [0] ?_
  refine Run.seq ?_
  refine Run.go ?_
  refine End.kp [0, 3] ?_
  refine Run.seq ?_
  refine Run.seq ?_
  refine Run.go ?_
  refine End.kp [3, 9, 10, 11] ?_
  refine Run.block ?_
  refine Run.ghost (Ghost.form [(3, .ms 0 0 q.length), (9, .im (.sl (bools q))), (10, .i q.length), (11, .i (0 : Nat))] 1 ⟨rfl, rfl, rfl, rfl, trivial⟩ rfl rfl) ?_
  refine Run.loop (fun m s => ∃ (i : Nat), m = q.length - i ∧ i ≤ q.length ∧
    s = ⟨[(3, .ms 0 0 q.length), (9, .im (.sl (bools q))), (10, .i q.length), (11, .i (i : Nat))], [.row 37 1 ((q.take i).map b2u ++ List.replicate (q.length - i) [.int .u64 0]) 0], up⟩) q.length ⟨0, rfl, by omega, by simp⟩ fun m s hI => ?_
  obtain ⟨i, rfl, hi, rfl⟩ := hI
  have hrl := fill_len b2u q [.int .u64 0] i hi
  refine Run.seq ?_
  have fx := And.intro hrl (And.intro hm2 (And.intro hm1 (And.intro hc (And.intro bools_len ft))))
  refine Run.go ?_
  refine End.kp [3, 9, 10, 11, 12] ?_
  refine Run.seq ?_
  refine Run.cond _ rfl (fun hb => ?_) (fun hb => ?_)
  · have hb := of_decide_eq_true hb
    have hin : i < q.length := by omega
    have wi := wsucc hin (by omega)
    have hg := bools_get q i hin
    have hri := fill_get b2u q [.int .u64 0] i hin
    have hfm := fill_map b2u q [.int .u64 0] false i hin
    refine Run.skip ?_
    refine End.kp [3, 9, 10, 11] ?_
    refine Run.seq ?_
    refine Run.block ?_
    refine Run.seq ?_
    have fx := And.intro hri (And.intro hin (And.intro (@Int.ofNat_lt) (And.intro (@Int.natCast_nonneg) (And.intro hg (And.intro wi (And.intro hrl (And.intro hm2 (And.intro hm1 (And.intro hc (And.intro bools_len ft))))))))))
    refine Run.go ?_
    refine End.kp [3, 4, 5, 9, 10, 11] ?_
    refine Run.seq ?_
    refine Run.go ?_
    refine End.kp [3, 4, 9, 10, 11, 16] ?_
    refine Run.cond _ rfl (fun hb => ?_) (fun hb => ?_)
    · have hb := hb
      have fx := And.intro hri (And.intro hin (And.intro (@Int.ofNat_lt) (And.intro (@Int.natCast_nonneg) (And.intro hg (And.intro wi (And.intro hrl (And.intro hm2 (And.intro hm1 (And.intro hc (And.intro bools_len ft))))))))))
      refine Run.go ?_
      refine End.blk ?_
      refine End.kp [3, 9, 10, 11] ?_
      refine Run.go ?_
      refine End.lp ?_
      refine ⟨q.length - (i + 1), _, by omega, Ghost.form [(3, .ms 0 0 q.length), (9, .im (.sl (bools q))), (10, .i q.length), (11, .i (i + 1 : Nat))] 1 ⟨rfl, rfl, rfl, rfl, trivial⟩ rfl rfl, i + 1, rfl, by omega, ?_⟩
      rw [← hfm, hb]
      rfl
    · have hb := hb
      refine Run.skip ?_
      refine End.blk ?_
      refine End.kp [3, 9, 10, 11] ?_
      have fx := And.intro hri (And.intro hin (And.intro (@Int.ofNat_lt) (And.intro (@Int.natCast_nonneg) (And.intro hg (And.intro wi (And.intro hrl (And.intro hm2 (And.intro hm1 (And.intro hc (And.intro bools_len ft))))))))))
      refine Run.go ?_
      refine End.lp ?_
      refine ⟨q.length - (i + 1), _, by omega, Ghost.form [(3, .ms 0 0 q.length), (9, .im (.sl (bools q))), (10, .i q.length), (11, .i (i + 1 : Nat))] 1 ⟨rfl, rfl, rfl, rfl, trivial⟩ rfl rfl, i + 1, rfl, by omega, ?_⟩
      rw [← hfm, hb]
      have : ((q.take i).map b2u ++ List.replicate (q.length - i) [Im.int .u64 0]).set i (b2u false) = (q.take i).map b2u ++ List.replicate (q.length - i) [Im.int .u64 0] := by
        apply List.ext_getElem?
        intro k
        rw [List.getElem?_set]
        split
        · rename_i e
          subst e
          rw [hri, if_pos (by rw [hrl]; omega)]
          rfl
        · rfl
      rw [this]
      rfl
  · have hb := of_decide_eq_false hb
    have hiN : i = q.length := by omega
    subst hiN
    rw [fill_all, b2u_map] at hrl ⊢
    refine Run.exit rfl ?_
    refine End.kp [3] ?_
    refine Run.seq ?_
    refine Run.ghost (Ghost.shut (t := 3) (j := 0) rfl rfl hrl) ?_
    simp only [eput, edel]
    have fx := And.intro hrl (And.intro hm2 (And.intro hm1 (And.intro hc (And.intro bools_len ft))))
    refine Run.go ?_
    refine End.kp [2] ?_
    refine Run.ret (hQ _ _ ⟨.inr rfl, _, rfl, _, rfl, ?_⟩)
    exact ⟨rfl, rfl⟩
abbrev u2b (w : Int) : List Im := [.bool (bits .and .u64 w 1 == 1)]
theorem u2b_map (q : List Int) : q.map u2b = bools (q.map fun w => bits .and .u64 w 1 == 1) := by simp
theorem Lane_ok (q : List Int) (hq : q.length ≤ 1000) (up : Frs) : ACalls Try.prog 92 [.im (.sl (us q))] up fun v u => v = .im (.sl (bools (q.map fun w => bits .and .u64 w 1 == 1))) ∧ u = up := by
  have hc : (0 : Int) ≤ q.length := by omega
  have hm1 : ((1 : Nat) : Int) * (q.length : Int) ≤ 281474976710656 := by omega
  have hm2 : (q.length : Int) ≤ 9223372036854775807 := by omega
  refine ACalls.code Try.func92 rfl 24 rfl (by simp) [.tmp 2] rfl fun Q hQ => ?_
  simp only [ups, PV.up, argEnv]
  have ft := And.intro ty_3 (And.intro ty_4 (And.intro ty_37 (And.intro ty_56 (And.intro ty_71 trivial))))
  refine Run.seq ?_
  have fx := And.intro hm2 (And.intro hm1 (And.intro hc (And.intro us_len ft)))
  refine Run.go ?_
  refine End.kp [0] ?_
  refine Run.seq ?_
  refine Run.go ?_
  refine End.kp [0, 3] ?_
  refine Run.seq ?_
  refine Run.seq ?_
  refine Run.go ?_
  refine End.kp [3, 9, 10, 11] ?_
  refine Run.block ?_
  refine Run.ghost (Ghost.form [(3, .ms 0 0 q.length), (9, .im (.sl (us q))), (10, .i q.length), (11, .i (0 : Nat))] 1 ⟨rfl, rfl, rfl, rfl, trivial⟩ rfl rfl) ?_
  refine Run.loop (fun m s => ∃ (i : Nat), m = q.length - i ∧ i ≤ q.length ∧
    s = ⟨[(3, .ms 0 0 q.length), (9, .im (.sl (us q))), (10, .i q.length), (11, .i (i : Nat))], [.row 4 1 ((q.take i).map u2b ++ List.replicate (q.length - i) [.bool false]) 0], up⟩) q.length ⟨0, rfl, by omega, by simp⟩ fun m s hI => ?_
  obtain ⟨i, rfl, hi, rfl⟩ := hI
  have hrl := fill_len u2b q [.bool false] i hi
  refine Run.seq ?_
  have fx := And.intro hrl (And.intro hm2 (And.intro hm1 (And.intro hc (And.intro us_len ft))))
  refine Run.go ?_
  refine End.kp [3, 9, 10, 11, 12] ?_
  refine Run.seq ?_
  refine Run.cond _ rfl (fun hb => ?_) (fun hb => ?_)
  · have hb := of_decide_eq_true hb
    have hin : i < q.length := by omega
    have wi := wsucc hin (by omega)
    have hg := us_get q i hin
    have hri := fill_get u2b q [.bool false] i hin
    have hfm := fill_map u2b q [.bool false] 0 i hin
    refine Run.skip ?_
    refine End.kp [3, 9, 10, 11] ?_
    refine Run.seq ?_
    refine Run.block ?_
    refine Run.seq ?_
    have fx := And.intro hri (And.intro hin (And.intro (@Int.ofNat_lt) (And.intro (@Int.natCast_nonneg) (And.intro hg (And.intro wi (And.intro hrl (And.intro hm2 (And.intro hm1 (And.intro hc (And.intro us_len ft))))))))))
    refine Run.go ?_
    refine End.kp [3, 4, 5, 9, 10, 11] ?_
    refine Run.go ?_
    refine End.blk ?_
    refine End.kp [3, 9, 10, 11] ?_
    refine Run.go ?_
    refine End.lp ?_
    refine ⟨q.length - (i + 1), _, by omega, Ghost.form [(3, .ms 0 0 q.length), (9, .im (.sl (us q))), (10, .i q.length), (11, .i (i + 1 : Nat))] 1 ⟨rfl, rfl, rfl, rfl, trivial⟩ rfl rfl, i + 1, rfl, by omega, ?_⟩
    rw [← hfm]
    rfl
  · have hb := of_decide_eq_false hb
    have hiN : i = q.length := by omega
    subst hiN
    rw [fill_all, u2b_map] at hrl ⊢
    refine Run.exit rfl ?_
    refine End.kp [3] ?_
    refine Run.seq ?_
    refine Run.ghost (Ghost.shut (t := 3) (j := 0) rfl rfl hrl) ?_
    simp only [eput, edel]
    have fx := And.intro hrl (And.intro hm2 (And.intro hm1 (And.intro hc (And.intro us_len ft))))
    refine Run.go ?_
    refine End.kp [2] ?_
    refine Run.ret (hQ _ _ ⟨.inr rfl, _, rfl, _, rfl, ?_⟩)
    exact ⟨rfl, rfl⟩
structure NetSmall (n : LNet) : Prop where
  inn : n.inn.length ≤ 100
  out : n.out.length ≤ 100
  flops : n.flops.length ≤ 100
  gates : n.gates.length ≤ 100
  outs : n.outs.length ≤ 100
theorem First_ok (n : LNet) (hn : NetSmall n) (up : Frs) : ACalls Try.prog 82 [n.pv] up fun v u => v = .i (2 + n.inn.length + n.flops.length) ∧ u = up := by
  obtain ⟨z1, z2, z3, z4, z5⟩ := hn
  have w1 : IntKind.i64.wrap (2 + (n.inn.length : Int)) = 2 + (n.inn.length : Int) := wrap64 (by omega)
  have w2 : IntKind.i64.wrap (2 + (n.inn.length : Int) + n.flops.length) = 2 + (n.inn.length : Int) + n.flops.length := wrap64 (by omega)
  refine ACalls.code Try.func82 rfl 11 rfl (by simp) [.tmp 2] rfl fun Q hQ => ?_
  simp only [ups, PV.up, argEnv]
  have ft := And.intro ty_2 (And.intro ty_3 (And.intro ty_9 (And.intro ty_26 (And.intro ty_27 (And.intro ty_30 (And.intro ty_78 trivial))))))
  refine Run.seq ?_
  have fx := And.intro w2 (And.intro w1 (And.intro fim_len (And.intro strs_len ft)))
  refine Run.go ?_
  refine End.kp [1] ?_
  refine Run.seq ?_
  refine Run.go ?_
  refine End.kp [2] ?_
  refine Run.ret (hQ _ _ ⟨.inr rfl, _, rfl, _, rfl, ?_⟩)
  exact ⟨rfl, rfl⟩
theorem Nets_ok (n : LNet) (hn : NetSmall n) (up : Frs) : ACalls Try.prog 19 [n.pv] up fun v u => v = .i (2 + n.inn.length + n.flops.length + n.gates.length) ∧ u = up := by
  have hn2 := hn
  obtain ⟨z1, z2, z3, z4, z5⟩ := hn
  have w1 : IntKind.i64.wrap (2 + (n.inn.length : Int)) = 2 + (n.inn.length : Int) := wrap64 (by omega)
  have w2 : IntKind.i64.wrap (2 + (n.inn.length : Int) + n.flops.length) = 2 + (n.inn.length : Int) + n.flops.length := wrap64 (by omega)
  have w3 : IntKind.i64.wrap (2 + (n.inn.length : Int) + n.flops.length + n.gates.length) = 2 + (n.inn.length : Int) + n.flops.length + n.gates.length := wrap64 (by omega)
  refine ACalls.code Try.func19 rfl 9 rfl (by simp) [.tmp 2] rfl fun Q hQ => ?_
  simp only [ups, PV.up, argEnv]
  have ft := And.intro ty_3 (And.intro ty_28 (And.intro ty_30 (And.intro ty_39 trivial)))
  refine Run.seq ?_
  have fx := And.intro w3 (And.intro gim_len ft)
  refine Run.go ?_
  refine End.kp [1] ?_
  refine Run.seq ?_
  refine Run.drawA fun K hK => ?_
  refine DOps.sim ?_
  refine DOps.call (.i (2 + n.inn.length + n.flops.length)) [] [] rfl rfl rfl rfl (by kernel_rfl) (by simp [Agree]) (fun u hu => First_ok n hn2 u) ?_
  refine DOps.sim ?_
  refine DOps.nil (metAll_quiet rfl) (hK _ ?_); clear hK K
  refine End.kp [2] ?_
  refine Run.ret (hQ _ _ ⟨.inr rfl, _, rfl, _, rfl, ?_⟩)
  exact ⟨rfl, rfl⟩
end Go.Proofs.YtkmnmokjlpenhaaPi
