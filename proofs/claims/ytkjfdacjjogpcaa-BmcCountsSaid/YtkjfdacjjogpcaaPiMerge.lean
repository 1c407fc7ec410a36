/- Functions that hand back objects of their own: at the return these go over to the caller. No Go text in it. -/
import Derived.Test.YtkjfdacjjogpcaaPiMove
set_option linter.unusedVariables false
set_option linter.unusedSimpArgs false
namespace Go.Proofs.YtkjfdacjjogpcaaPi
variable {P : Program}

mutual
def PV.mg (m : Nat) : PV → PV
 | .agg cs => .agg (mgs m cs)
 | .tup cs => .tup (mgs m cs)
 | .fn f cap => .fn f (mgs m cap)
 | .ms 0 j n => .ms 0 (m + j) n
 | .ms (d + 1) j n => .ms d j n
 | .ptr 0 j o => .ptr 0 (m + j) o
 | .ptr (d + 1) j o => .ptr d j o
 | .bs 0 j n => .bs 0 (m + j) n
 | .bs (d + 1) j n => .bs d j n
 | .vs 0 j o n g => .vs 0 (m + j) o n g
 | .vs (d + 1) j o n g => .vs d j o n g
 | .vp 0 j i g => .vp 0 (m + j) i g
 | .vp (d + 1) j i g => .vp d j i g
 | .rptr 0 j n i o => .rptr 0 (m + j) n i o
 | .rptr (d + 1) j n i o => .rptr d j n i o
 | .map 0 j => .map 0 (m + j)
 | .map (d + 1) j => .map d j
 | x => x
def mgs (m : Nat) : List PV → List PV
 | [] => []
 | x :: xs => x.mg m :: mgs m xs
end
theorem mgs_length {m : Nat} : ∀ {xs : List PV}, (mgs m xs).length = xs.length
 | [] => rfl
 | x :: xs => by simp [mgs, mgs_length (xs := xs)]
def AObj.mg (m : Nat) : AObj → AObj
 | .box cs => .box (mgs m cs)
 | .vec t g cs => .vec t g (mgs m cs)
 | o => o
section
variable {F : Fz} {b0 b1 : List Bnd} {l f : List AObj} {bs : Bns} {rest : Frs}
abbrev mgF (l f : List AObj) (rest : Frs) : Frs := (f ++ l.map (AObj.mg f.length)) :: rest
theorem lk0 {o : AObj} {j : Nat} (h : l[j]? = some o) : fget (mgF l f rest) 0 (f.length + j) = some (o.mg f.length) := by
 simp only [look_zero]
 rw [List.getElem?_append_right (by omega), show f.length + j - f.length = j by omega, List.getElem?_map, h]
 rfl
theorem bk0 {a : Bnd} {j : Nat} (hl : b1.length = f.length) (h : b0[j]? = some a) : fget ((b1 ++ b0) :: bs) 0 (f.length + j) = some a := by
 simp only [look_zero]
 rw [List.getElem?_append_right (by omega), show f.length + j - b1.length = j by omega, h]
theorem lk1 {o : AObj} {j : Nat} (h : f[j]? = some o) : fget (mgF l f rest) 0 j = some o := by
 simp only [look_zero]
 rw [List.getElem?_append_left (List.getElem?_eq_some_iff.1 h).1, h]
theorem bk1 {a : Bnd} {j : Nat} (h : b1[j]? = some a) : fget ((b1 ++ b0) :: bs) 0 j = some a := by
 simp only [look_zero]
 rw [List.getElem?_append_left (List.getElem?_eq_some_iff.1 h).1, h]
def mgR (m : Nat) : Nat → Nat → Nat × Nat
 | 0, j => (0, m + j)
 | d + 1, j => (d, j)
theorem lkm {o : AObj} {d j : Nat} (h : fget (l :: f :: rest) d j = some o) : fget (mgF l f rest) (mgR f.length d j).1 (mgR f.length d j).2 = some (if d = 0 then o.mg f.length else o) := by
 match d, h with
 | 0, h => exact lk0 h
 | 1, h => exact lk1 h
 | d + 2, h => exact h
theorem bkm {a : Bnd} {d j : Nat} (hl : b1.length = f.length) (h : fget (b0 :: b1 :: bs) d j = some a) : fget ((b1 ++ b0) :: bs) (mgR f.length d j).1 (mgR f.length d j).2 = some a := by
 match d, h with
 | 0, h => exact bk0 hl h
 | 1, h => exact bk1 h
 | d + 2, h => exact h
theorem mg_row {m t sz fz : Nat} {rows : List (List Im)} {d : Nat} : (if d = 0 then (AObj.row t sz rows fz).mg m else AObj.row t sz rows fz) = .row t sz rows fz := by split <;> rfl
theorem mg_map {m : Nat} {es : List (List Im × Im)} {d : Nat} : (if d = 0 then (AObj.map es).mg m else AObj.map es) = .map es := by split <;> rfl
mutual
theorem VRel.mg (hl : b1.length = f.length) : ∀ {x : PV} {v : Value}, VRel F (b0 :: b1 :: bs) (l :: f :: rest) x v → VRel F ((b1 ++ b0) :: bs) (mgF l f rest) (x.mg f.length) v
 | .im x, v, h => by simpa only [VRel, PV.mg] using h
 | .full x, v, h => by simpa only [VRel, PV.mg] using h
 | .agg cs, v, h => by
  simp only [VRel, PV.mg] at h ⊢
  obtain ⟨vs, h1, h2⟩ := h
  exact ⟨vs, h1, VRels.mg hl h2⟩
 | .tup cs, v, h => by
  simp only [VRel, PV.mg] at h ⊢
  obtain ⟨vs, h1, h2⟩ := h
  exact ⟨vs, h1, VRels.mg hl h2⟩
 | .fn g cap, v, h => by
  simp only [VRel, PV.mg] at h ⊢
  obtain ⟨vs, h1, h2⟩ := h
  exact ⟨vs, h1, VRels.mg hl h2⟩
 | .ms d j n, v, h => by
  have e : (PV.ms d j n).mg f.length = .ms (mgR f.length d j).1 (mgR f.length d j).2 n := by cases d <;> rfl
  rw [e]
  simp only [VRel] at h ⊢
  obtain ⟨A, c, h1, h2, t, sz, rows, fz, a, h3, h4, h5, h6⟩ := h
  have := lkm h3
  rw [mg_row] at this
  exact ⟨A, c, h1, h2, t, sz, rows, fz, a, this, bkm hl h4, h5, h6⟩
 | .ptr d j n, v, h => by
  have e : (PV.ptr d j n).mg f.length = .ptr (mgR f.length d j).1 (mgR f.length d j).2 n := by cases d <;> rfl
  rw [e]
  simp only [VRel] at h ⊢
  obtain ⟨b, k, cs, h1, h2, h3⟩ := h
  have := lkm h1
  by_cases hd : d = 0
  ·rw [if_pos hd] at this
   exact ⟨b, k, _, this, bkm hl h2, h3⟩
  ·rw [if_neg hd] at this
   exact ⟨b, k, _, this, bkm hl h2, h3⟩
 | .bs d j n, v, h => by
  have e : (PV.bs d j n).mg f.length = .bs (mgR f.length d j).1 (mgR f.length d j).2 n := by cases d <;> rfl
  rw [e]
  simp only [VRel] at h ⊢
  obtain ⟨b, k, cs, c, h1, h2, h3⟩ := h
  have := lkm h1
  by_cases hd : d = 0
  ·rw [if_pos hd] at this
   exact ⟨b, k, _, c, this, bkm hl h2, h3⟩
  ·rw [if_neg hd] at this
   exact ⟨b, k, _, c, this, bkm hl h2, h3⟩
 | .vs d j o n g, v, h => by
  have e : (PV.vs d j o n g).mg f.length = .vs (mgR f.length d j).1 (mgR f.length d j).2 o n g := by cases d <;> rfl
  rw [e]
  simp only [VRel] at h ⊢
  obtain ⟨A, c, h1, h2, t, g', cs, a, h3, h4, h5, h6⟩ := h
  have := lkm h3
  by_cases hd : d = 0
  ·rw [if_pos hd] at this
   refine ⟨A, c, h1, h2, t, g', _, a, this, bkm hl h4, h5, fun e => ?_⟩
   rw [mgs_length]
   exact h6 e
  ·rw [if_neg hd] at this
   exact ⟨A, c, h1, h2, t, g', _, a, this, bkm hl h4, h5, h6⟩
 | .vp d j i g, v, h => by
  have e : (PV.vp d j i g).mg f.length = .vp (mgR f.length d j).1 (mgR f.length d j).2 i g := by cases d <;> rfl
  rw [e]
  simp only [VRel] at h ⊢
  obtain ⟨p, t, g', cs, a, h1, h2, h3, h4, h5, h6⟩ := h
  have := lkm h3
  by_cases hd : d = 0
  ·rw [if_pos hd] at this
   refine ⟨p, t, g', _, a, h1, h2, this, bkm hl h4, h5, fun e => ?_⟩
   rw [mgs_length]
   exact h6 e
  ·rw [if_neg hd] at this
   exact ⟨p, t, g', _, a, h1, h2, this, bkm hl h4, h5, h6⟩
 | .rptr d j n i o, v, h => by
  have e : (PV.rptr d j n i o).mg f.length = .rptr (mgR f.length d j).1 (mgR f.length d j).2 n i o := by cases d <;> rfl
  rw [e]
  simp only [VRel] at h ⊢
  obtain ⟨p, t, sz, rows, fz, a, h0, h1, h3, h4, h5, h6⟩ := h
  have := lkm h3
  rw [mg_row] at this
  exact ⟨p, t, sz, rows, fz, a, h0, h1, this, bkm hl h4, h5, h6⟩
 | .map d j, v, h => by
  have e : (PV.map d j).mg f.length = .map (mgR f.length d j).1 (mgR f.length d j).2 := by cases d <;> rfl
  rw [e]
  simp only [VRel] at h ⊢
  obtain ⟨b, k, es, h1, h2, h3⟩ := h
  have := lkm h1
  rw [mg_map] at this
  exact ⟨b, k, es, this, bkm hl h2, h3⟩
 | .iptr cs, v, h => by simpa only [VRel, PV.mg] using h
 | .nilp, v, h => by simpa only [VRel, PV.mg] using h
 | .nils, v, h => by simpa only [VRel, PV.mg] using h
 | .abool, v, h => by simpa only [VRel, PV.mg] using h
 | .any, v, h => by simp only [VRel, PV.mg]
theorem VRels.mg (hl : b1.length = f.length) : ∀ {xs : List PV} {vs : List Value}, VRels F (b0 :: b1 :: bs) (l :: f :: rest) xs vs → VRels F ((b1 ++ b0) :: bs) (mgF l f rest) (mgs f.length xs) vs
 | [], vs, h => by simpa only [VRels, mgs] using h
 | x :: xs, vs, h => by
  simp only [VRels, mgs] at h ⊢
  obtain ⟨v, vs', h1, h2, h3⟩ := h
  exact ⟨v, vs', h1, VRel.mg hl h2, VRels.mg hl h3⟩
end
theorem ev_mg : Evolve (b1 :: bs) (f :: rest) ((b1 ++ b0) :: bs) (mgF l f rest) := fun d j o a h1 h2 => by
 refine ⟨o, a, ?_, ?_, o.becomes_refl a⟩
 ·cases d with
  | zero => exact lk1 h1
  | succ d => exact h1
 ·cases d with
  | zero => exact bk1 h2
  | succ d => exact h2
theorem live_mg {o : AObj} {m : Nat} : (o.mg m).live ↔ o.live := by cases o <;> simp [AObj.mg, AObj.live]
theorem unmg {w : World} (hm : MRel F (b0 :: b1 :: bs) (l :: f :: rest) w) {d j : Nat} {o : AObj} {a : Bnd} (h1 : fget (mgF l f rest) d j = some o) (h2 : fget ((b1 ++ b0) :: bs) d j = some a) :
  ∃ d0 j0 o0, fget (l :: f :: rest) d0 j0 = some o0 ∧ fget (b0 :: b1 :: bs) d0 j0 = some a ∧ (d, j) = mgR f.length d0 j0 ∧ o = (if d0 = 0 then o0.mg f.length else o0) := by
 have hsh := hm.shape
 simp only [List.map_cons, List.cons.injEq] at hsh
 cases d with
 | succ d => exact ⟨d + 2, j, o, h1, h2, rfl, by simp⟩
 | zero =>
  simp only [look_zero] at h1 h2
  by_cases hj : j < f.length
  ·rw [List.getElem?_append_left hj] at h1
   rw [List.getElem?_append_left (by omega)] at h2
   exact ⟨1, j, o, h1, h2, rfl, by simp⟩
  ·rw [List.getElem?_append_right (by omega), List.getElem?_map, Option.map_eq_some_iff] at h1
   rw [List.getElem?_append_right (by omega)] at h2
   obtain ⟨o0, h3, rfl⟩ := h1
   refine ⟨0, j - f.length, o0, h3, by rw [look_zero, ← hsh.2.1]; exact h2, ?_, by simp⟩
   simp only [mgR, Prod.mk.injEq, true_and]
   omega
theorem own_unmg {w : World} (hm : MRel F (b0 :: b1 :: bs) (l :: f :: rest) w) {d j b : Nat} (h : Own ((b1 ++ b0) :: bs) (mgF l f rest) d j b) : ∃ d0 j0, Own (b0 :: b1 :: bs) (l :: f :: rest) d0 j0 b ∧ (d, j) = mgR f.length d0 j0 := by
 obtain ⟨o, k, h1, h2, h3⟩ := h
 obtain ⟨d0, j0, o0, h4, h5, h6, h7⟩ := unmg hm h1 h3
 refine ⟨d0, j0, ⟨o0, k, h4, ?_, h5⟩, h6⟩
 subst h7
 split at h2
 ·exact live_mg.1 h2
 ·exact h2
theorem MRel.mg {w : World} (hm : MRel F (b0 :: b1 :: bs) (l :: f :: rest) w) : MRel F ((b1 ++ b0) :: bs) (mgF l f rest) w := by
 have hsh := hm.shape
 simp only [List.map_cons, List.cons.injEq] at hsh
 refine ⟨by simp [hsh.1, hsh.2.1, hsh.2.2], fun d j o a h1 h2 => ?_, fun d j d' j' b h1 h2 => ?_, hm.fz⟩
 ·obtain ⟨d0, j0, o0, h4, h5, h6, h7⟩ := unmg hm h1 h2
  have hmo := hm.obj d0 j0 o0 a h4 h5
  match d0, h4, h6, h7, hmo with
  | 0, h4, h6, h7, hmo =>
   simp only [mgR, Prod.mk.injEq] at h6
   obtain ⟨rfl, rfl⟩ := h6
   simp only [if_true] at h7
   subst h7
   simp only [List.drop_zero] at hmo ⊢
   cases o0 with
   | box cs =>
    obtain ⟨b, arr, t, k1, k2, k3, k4⟩ := hmo
    exact ⟨b, arr, t, k1, k2, VRels.mg hsh.2.1 k3, k4⟩
   | row t sz rows fz => exact hmo
   | map es => exact hmo
   | dead => trivial
   | vec t g cs =>
    obtain ⟨k1, k2, k3, k4⟩ := hmo
    refine ⟨by rw [mgs_length]; exact k1, k2, k3, fun q hq => ?_⟩
    obtain ⟨arr, k5, k6, k7, k8⟩ := k4 q hq
    exact ⟨arr, k5, k6, by rw [mgs_length]; exact VRels.mg hsh.2.1 k7, k8⟩
  | 1, h4, h6, h7, hmo =>
   simp only [mgR, Prod.mk.injEq] at h6
   obtain ⟨rfl, rfl⟩ := h6
   simp only [Nat.one_ne_zero, if_false] at h7
   subst h7
   simp only [List.drop_succ_cons, List.drop_zero] at hmo ⊢
   exact hmo.move (Fz.le_refl F) ev_mg (fun b _ _ => ⟨rfl, fun _ => rfl⟩)
  | d0 + 2, h4, h6, h7, hmo =>
   simp only [mgR, Prod.mk.injEq] at h6
   obtain ⟨rfl, rfl⟩ := h6
   simp at h7
   subst h7
   simpa using hmo
 ·obtain ⟨d0, j0, h3, h4⟩ := own_unmg hm h1
  obtain ⟨d1, j1, h5, h6⟩ := own_unmg hm h2
  have := hm.inj d0 j0 d1 j1 b h3 h5
  obtain ⟨rfl, rfl⟩ := this
  have := h4.trans h6.symm
  simpa using this
end
def RetX (P : Program) (n : Nat) (rs : List ResultVar) (R : PV → Frs → Prop) (e : Exit) (st : ASt) : Prop :=
 (e = .normal ∨ e = .ret) ∧ ∃ xs, ressPV P st rs = some xs ∧ ∃ f rest, st.up = f :: rest ∧ R ((oneOrTup xs).mg f.length) (mgF st.loc f rest)
theorem ACalls.bodyX {g : FuncId} {fn : Func} {c : Code} {args : List PV} {up : Frs} {R : PV → Frs → Prop} (hf : P.funcs[g]? = some fn) (hb : fn.body = some c) (hn : args.length ≤ fn.ntmps)
  (h : AWp P fn.ntmps c (RetX P fn.ntmps fn.results.toList R) ⟨argEnv 0 (ups args), [], up⟩) : ACalls P g args up R := fun F bs w vs hm hv => by
 refine calls_of_wp hf hb ?_
 have hvl := hv.length
 simp only [Array.length_toList] at hvl
 have hups : ∀ (l : List PV), (ups l).length = l.length := by intro l; induction l with | nil => rfl | cons x l ih => simp [ups, ih]
 have hm0 : MRel F ([] :: bs) ([] :: up) w := by
  refine ⟨by simp [hm.shape], fun d j o a h1 h2 => ?_, fun d j d' j' b h1 h2 => ?_, hm.fz⟩
  ·cases d with
   | zero => simp at h1
   | succ d => simpa using hm.obj d j o a (by simpa using h1) (by simpa using h2)
  ·cases d with
   | zero => obtain ⟨o, k, h3, _⟩ := h1; simp at h3
   | succ d =>
    cases d' with
    | zero => obtain ⟨o, k, h3, _⟩ := h2; simp at h3
    | succ d' =>
     have := hm.inj d j d' j' b h1.pred h2.pred
     exact ⟨by omega, this.2⟩
 have hr : ARel fn.ntmps F ([] :: bs) ⟨argEnv 0 (ups args), [], up⟩ { tmps := vs ++ Array.replicate (fn.ntmps - vs.size) undef, defers := [] } w := by
  refine ⟨hm0, by simp; omega, fun t x hx => ?_, rfl⟩
  obtain ⟨_, h2⟩ := eget_argEnv _ _ _ _ hx
  simp only [Nat.sub_zero] at h2
  have hlt := (List.getElem?_eq_some_iff.1 h2).1
  rw [hups] at hlt
  refine ⟨by omega, ?_⟩
  have hu := VRels.up (b := []) (f := []) hv
  obtain ⟨v, h3, h4⟩ := hu.get t x h2
  have hg : (vs ++ Array.replicate (fn.ntmps - vs.size) undef).getD t undef = v := by
   rw [Array.getD_eq_getD_getElem?, Array.getElem?_append_left (by omega)]
   have : vs[t]? = some v := by simpa using h3
   simp [this]
  rw [hg]
  exact h4
 refine wp_mono (h F _ _ w hr) ?_
 rintro e a' w' ⟨st', F', bs', ⟨he, xs, hxs, f, rest, hup, hR⟩, hr', hs⟩
 obtain ⟨v, hv1, hv2⟩ := results_ok hr' hxs
 have hmm := hr'.mem
 have hdef : a'.defers = [] := hr'.defers
 have hfr : st'.fr = st'.loc :: f :: rest := by rw [ASt.fr, hup]
 rw [hfr] at hmm hv2
 have hsh := hmm.shape
 cases bs' with
 | nil => simp at hsh
 | cons b0 bs' =>
  cases bs' with
  | nil => simp at hsh
  | cons b1 bs' =>
   simp only [List.map_cons, List.cons.injEq] at hsh
   have hfin : (fun e w' => ∃ v pv F' bs' up', e = Ending.returned v ∧ R pv up' ∧ MRel F' bs' up' w' ∧ VRel F' bs' up' pv v ∧ CStep F bs up w F' bs' up' w') (.returned v) w' := by
    refine ⟨v, _, F', _, _, rfl, hR, MRel.mg hmm, VRel.mg hsh.2.1 hv2, ?_⟩
    have hk : Keeps bs up w w' := ⟨hs.keeps.os, hs.keeps.tape, hs.keeps.output, hs.keeps.size, fun b hb hno => hs.keeps.block b hb fun d j ho => by
     cases d with
     | zero => obtain ⟨o, k, h3, _⟩ := ho; simp [ASt.fr] at h3
     | succ d => exact hno d j ho.pred⟩
    have hev := hs.ev
    simp only [List.tail_cons, hup] at hev
    refine ⟨hs.le, hev.trans ev_mg, hk, fun d j b ho => ?_⟩
    obtain ⟨d0, j0, h1, _⟩ := own_unmg hmm ho
    rw [← hfr] at h1
    rcases hs.owns d0 j0 b h1 with ⟨d1, j1, h2⟩ | h2
    ·cases d1 with
     | zero => obtain ⟨o, k, h3, _⟩ := h2; simp [ASt.fr] at h3
     | succ d1 => exact .inl ⟨d1, j1, h2.pred⟩
    ·exact .inr h2
   rcases he with rfl | rfl
   ·exact ⟨hdef, v, hv1, hfin⟩
   ·exact ⟨hdef, v, hv1, hfin⟩
theorem ACalls.codeX {f : FuncId} {fn : Func} {c : Code} {args : List PV} {up : Frs} {R : PV → Frs → Prop} (hf : P.funcs[f]? = some fn) (hb : fn.body = some c) (m : Nat) (hm : fn.ntmps = m) (hn : args.length ≤ m) (rs : List ResultVar) (hrs : fn.results.toList = rs)
  (h : ∀ Q : Exit → ASt → Prop, (∀ e s, RetX P m rs R e s → Q e s) → Run P m Q [] c ⟨argEnv 0 (ups args), [], up⟩) : ACalls P f args up R := by
 subst hm hrs
 exact ACalls.bodyX hf hb hn (h _ fun _ _ h => h)
end Go.Proofs.YtkjfdacjjogpcaaPi

