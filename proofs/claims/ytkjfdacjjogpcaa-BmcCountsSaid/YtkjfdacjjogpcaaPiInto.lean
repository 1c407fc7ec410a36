/- Results that are new rows laid into a spare place of the caller's frame; and what may be said of data. No Go text in it. -/
import Derived.Test.YtkjfdacjjogpcaaPiMerge
set_option linter.unusedVariables false
set_option linter.unusedSimpArgs false
namespace Go.Proofs.YtkjfdacjjogpcaaPi
variable {P : Program}

mutual
def PV.into (j k : Nat) : PV → Option PV
 | .agg cs => (intos j k cs).map .agg
 | .tup cs => (intos j k cs).map .tup
 | .ms 0 j' n => if j' = j then some (.ms 0 k n) else none
 | .ms (d + 1) j' n => some (.ms d j' n)
 | .ptr (d + 1) j' off => some (.ptr d j' off)
 | .bs (d + 1) j' n => some (.bs d j' n)
 | .vs (d + 1) j' o n g => some (.vs d j' o n g)
 | .vp (d + 1) j' i g => some (.vp d j' i g)
 | .rptr (d + 1) j' n i off => some (.rptr d j' n i off)
 | .map (d + 1) j' => some (.map d j')
 | .fn f cap => (intos j k cap).map (.fn f)
 | .ptr 0 _ _ => none
 | .bs 0 _ _ => none
 | .vs 0 _ _ _ _ => none
 | .vp 0 _ _ _ => none
 | .rptr 0 _ _ _ _ => none
 | .map 0 _ => none
 | .im x => some (.im x)
 | .full x => some (.full x)
 | .iptr x => some (.iptr x)
 | .nilp => some .nilp
 | .nils => some .nils
 | .abool => some .abool
 | .any => some .any
def intos (j k : Nat) : List PV → Option (List PV)
 | [] => some []
 | x :: xs => match x.into j k, intos j k xs with
  | some y, some ys => some (y :: ys)
  | _, _ => none
end
section
variable {F : Fz} {b0 b1 : List Bnd} {bs : Bns} {l f : List AObj} {rest : Frs} {j k : Nat} {t sz fz : Nat} {rows : List (List Im)} {a : Bnd}
theorem intoEv (hk : f[k]? = some .dead) : Evolve (b1 :: bs) (f :: rest) (b1.set k a :: bs) (f.set k (.row t sz rows fz) :: rest) := fun d q o a' h1 h2 => by
 cases d with
 | succ d => exact ⟨o, a', by simpa using h1, by simpa using h2, o.becomes_refl a'⟩
 | zero =>
  simp only [look_zero] at h1 h2
  by_cases e : q = k
  ·subst e
   rw [hk] at h1
   cases h1
   have hb := (List.getElem?_eq_some_iff.1 h2).1
   have hf := (List.getElem?_eq_some_iff.1 hk).1
   exact ⟨.row t sz rows fz, a, by simp [hf], by simp [hb], trivial⟩
  ·exact ⟨o, a', by simp only [look_zero]; rw [List.getElem?_set_ne (fun e' => e e'.symm)]; exact h1, by simp only [look_zero]; rw [List.getElem?_set_ne (fun e' => e e'.symm)]; exact h2, o.becomes_refl a'⟩
mutual
theorem VRel.into (hj : l[j]? = some (.row t sz rows fz)) (ha : b0[j]? = some a) (hk : f[k]? = some .dead) (hl : b1.length = f.length) : ∀ {x y : PV} {v : Value}, x.into j k = some y → VRel F (b0 :: b1 :: bs) (l :: f :: rest) x v →
  VRel F (b1.set k a :: bs) (f.set k (.row t sz rows fz) :: rest) y v
 | .im x, y, v, hd, h => by simp only [PV.into, Option.some.injEq] at hd; subst hd; simpa only [VRel] using h
 | .full x, y, v, hd, h => by simp only [PV.into, Option.some.injEq] at hd; subst hd; simpa only [VRel] using h
 | .iptr x, y, v, hd, h => by simp only [PV.into, Option.some.injEq] at hd; subst hd; simpa only [VRel] using h
 | .nilp, y, v, hd, h => by simp only [PV.into, Option.some.injEq] at hd; subst hd; simpa only [VRel] using h
 | .nils, y, v, hd, h => by simp only [PV.into, Option.some.injEq] at hd; subst hd; simpa only [VRel] using h
 | .abool, y, v, hd, h => by simp only [PV.into, Option.some.injEq] at hd; subst hd; simpa only [VRel] using h
 | .any, y, v, hd, h => by simp only [PV.into, Option.some.injEq] at hd; subst hd; simp only [VRel]
 | .agg cs, y, v, hd, h => by
  simp only [PV.into, Option.map_eq_some_iff] at hd
  obtain ⟨ys, hy, rfl⟩ := hd
  simp only [VRel] at h ⊢
  obtain ⟨vs, h1, h2⟩ := h
  exact ⟨vs, h1, VRels.into hj ha hk hl hy h2⟩
 | .tup cs, y, v, hd, h => by
  simp only [PV.into, Option.map_eq_some_iff] at hd
  obtain ⟨ys, hy, rfl⟩ := hd
  simp only [VRel] at h ⊢
  obtain ⟨vs, h1, h2⟩ := h
  exact ⟨vs, h1, VRels.into hj ha hk hl hy h2⟩
 | .fn g cap, y, v, hd, h => by
  simp only [PV.into, Option.map_eq_some_iff] at hd
  obtain ⟨ys, hy, rfl⟩ := hd
  simp only [VRel] at h ⊢
  obtain ⟨vs, h1, h2⟩ := h
  exact ⟨vs, h1, VRels.into hj ha hk hl hy h2⟩
 | .ms 0 j' n, y, v, hd, h => by
  simp only [PV.into] at hd
  split at hd
  ·rename_i e
   subst e
   simp only [Option.some.injEq] at hd
   subst hd
   simp only [VRel] at h ⊢
   obtain ⟨A, c, h1, h2, t', sz', rows', fz', a', h3, h4, h5, h6⟩ := h
   have e1 : (AObj.row t sz rows fz) = .row t' sz' rows' fz' := Option.some.inj (hj.symm.trans h3)
   have e2 : a = a' := Option.some.inj (ha.symm.trans h4)
   subst e2
   cases e1
   have hf := (List.getElem?_eq_some_iff.1 hk).1
   exact ⟨A, c, h1, h2, t, sz, rows, fz, a, by simp [hf], by simp [hl, hf], h5, h6⟩
  ·simp at hd
 | .ms (d + 1) j' n, y, v, hd, h => by
  simp only [PV.into, Option.some.injEq] at hd
  subst hd
  exact VRel.move (Fz.le_refl F) (intoEv hk) (VRel.down (b := b0) (f := l) (x := .ms (d + 1) j' n) (by simp [PV.down]) h)
 | .bs (d + 1) j' o, y, v, hd, h => by
  simp only [PV.into, Option.some.injEq] at hd
  subst hd
  exact VRel.move (Fz.le_refl F) (intoEv hk) (VRel.down (b := b0) (f := l) (x := .bs (d + 1) j' o) (by simp [PV.down]) h)
 | .bs 0 j' o, y, v, hd, h => by simp [PV.into] at hd
 | .vs (d + 1) j' o n g, y, v, hd, h => by
  simp only [PV.into, Option.some.injEq] at hd
  subst hd
  exact VRel.move (Fz.le_refl F) (intoEv hk) (VRel.down (b := b0) (f := l) (x := .vs (d + 1) j' o n g) (by simp [PV.down]) h)
 | .vs 0 j' o n g, y, v, hd, h => by simp [PV.into] at hd
 | .vp (d + 1) j' i g, y, v, hd, h => by
  simp only [PV.into, Option.some.injEq] at hd
  subst hd
  exact VRel.move (Fz.le_refl F) (intoEv hk) (VRel.down (b := b0) (f := l) (x := .vp (d + 1) j' i g) (by simp [PV.down]) h)
 | .vp 0 j' i g, y, v, hd, h => by simp [PV.into] at hd
 | .ptr (d + 1) j' o, y, v, hd, h => by
  simp only [PV.into, Option.some.injEq] at hd
  subst hd
  exact VRel.move (Fz.le_refl F) (intoEv hk) (VRel.down (b := b0) (f := l) (x := .ptr (d + 1) j' o) (by simp [PV.down]) h)
 | .rptr (d + 1) j' n i o, y, v, hd, h => by
  simp only [PV.into, Option.some.injEq] at hd
  subst hd
  exact VRel.move (Fz.le_refl F) (intoEv hk) (VRel.down (b := b0) (f := l) (x := .rptr (d + 1) j' n i o) (by simp [PV.down]) h)
 | .map (d + 1) j', y, v, hd, h => by
  simp only [PV.into, Option.some.injEq] at hd
  subst hd
  exact VRel.move (Fz.le_refl F) (intoEv hk) (VRel.down (b := b0) (f := l) (x := .map (d + 1) j') (by simp [PV.down]) h)
 | .ptr 0 j' o, y, v, hd, h => by simp [PV.into] at hd
 | .rptr 0 j' n i o, y, v, hd, h => by simp [PV.into] at hd
 | .map 0 j', y, v, hd, h => by simp [PV.into] at hd
theorem VRels.into (hj : l[j]? = some (.row t sz rows fz)) (ha : b0[j]? = some a) (hk : f[k]? = some .dead) (hl : b1.length = f.length) : ∀ {xs ys : List PV} {vs : List Value}, intos j k xs = some ys → VRels F (b0 :: b1 :: bs) (l :: f :: rest) xs vs →
  VRels F (b1.set k a :: bs) (f.set k (.row t sz rows fz) :: rest) ys vs
 | [], ys, vs, hd, h => by simp only [intos, Option.some.injEq] at hd; subst hd; simpa only [VRels] using h
 | x :: xs, ys, vs, hd, h => by
  simp only [intos] at hd
  split at hd
  ·rename_i y ys' hy hys
   simp only [Option.some.injEq] at hd
   subst hd
   simp only [VRels] at h ⊢
   obtain ⟨v, vs', h1, h2, h3⟩ := h
   exact ⟨v, vs', h1, VRel.into hj ha hk hl hy h2, VRels.into hj ha hk hl hys h3⟩
  ·simp at hd
end
theorem own_into (hj : l[j]? = some (.row t sz rows fz)) (ha : b0[j]? = some a) (hk : f[k]? = some .dead) {d q b : Nat} (h : Own (b1.set k a :: bs) (f.set k (.row t sz rows fz) :: rest) d q b) :
  (d = 0 ∧ q = k ∧ Own (b0 :: b1 :: bs) (l :: f :: rest) 0 j b) ∨ (¬ (d = 0 ∧ q = k) ∧ Own (b0 :: b1 :: bs) (l :: f :: rest) (d + 1) q b) := by
 obtain ⟨o, kk, h1, h2, h3⟩ := h
 by_cases e : d = 0 ∧ q = k
 ·obtain ⟨rfl, rfl⟩ := e
  left
  have hf := (List.getElem?_eq_some_iff.1 hk).1
  simp only [look_zero] at h1 h3
  rw [List.getElem?_set_self hf] at h1
  have hb := (List.getElem?_eq_some_iff.1 h3).1
  rw [List.getElem?_set_self (by simpa using hb)] at h3
  simp only [Option.some.injEq] at h1 h3
  subst h1
  exact ⟨rfl, rfl, .row t sz rows fz, kk, by simpa using hj, trivial, by simp [bnd, fget, ha, h3]⟩
 ·right
  refine ⟨e, o, kk, ?_, h2, ?_⟩
  ·cases d with
   | zero =>
    have : ¬ k = q := fun e' => e ⟨rfl, e'.symm⟩
    simp only [look_zero, look_succ] at h1 ⊢
    rwa [List.getElem?_set_ne this] at h1
   | succ d => simpa using h1
  ·cases d with
   | zero =>
    have : ¬ k = q := fun e' => e ⟨rfl, e'.symm⟩
    simp only [look_zero, look_succ] at h3 ⊢
    rwa [List.getElem?_set_ne this] at h3
   | succ d => simpa using h3
theorem MRel.into {w : World} (hm : MRel F (b0 :: b1 :: bs) (l :: f :: rest) w) (hj : l[j]? = some (.row t sz rows fz)) (ha : b0[j]? = some a) (hk : f[k]? = some .dead) : MRel F (b1.set k a :: bs) (f.set k (.row t sz rows fz) :: rest) w := by
 have hsh := hm.shape
 simp only [List.map_cons, List.cons.injEq] at hsh
 refine ⟨by simp [hsh.2.1, hsh.2.2], fun d q o a' h1 h2 => ?_, fun d q d' q' b h1 h2 => ?_, hm.fz⟩
 ·cases d with
  | succ d =>
   have := hm.obj (d + 2) q o a' (by simpa using h1) (by simpa using h2)
   simpa using this
  | zero =>
   simp only [look_zero] at h1 h2
   by_cases e : k = q
   ·subst e
    have hf := (List.getElem?_eq_some_iff.1 hk).1
    rw [List.getElem?_set_self hf] at h1
    rw [List.getElem?_set_self (by omega)] at h2
    simp only [Option.some.injEq] at h1 h2
    subst h1 h2
    exact hm.obj 0 j _ _ (by simpa using hj) (by simpa using ha)
   ·rw [List.getElem?_set_ne e] at h1 h2
    have := hm.obj 1 q o a' (by simpa using h1) (by simpa using h2)
    simp only [List.drop_succ_cons, List.drop_zero] at this ⊢
    exact this.move (Fz.le_refl F) (intoEv hk) (fun b _ _ => ⟨rfl, fun _ => rfl⟩)
 ·rcases own_into hj ha hk h1 with ⟨rfl, rfl, g1⟩ | ⟨e1, g1⟩ <;> rcases own_into hj ha hk h2 with ⟨rfl, rfl, g2⟩ | ⟨e2, g2⟩
  ·exact ⟨rfl, rfl⟩
  ·have := (hm.inj _ _ _ _ b g1 g2).1
   omega
  ·have := (hm.inj _ _ _ _ b g1 g2).1
   omega
  ·have := hm.inj _ _ _ _ b g1 g2
   exact ⟨by omega, this.2⟩
end
def RetI (P : Program) (n : Nat) (rs : List ResultVar) (k : Nat) (R : PV → Frs → Prop) (e : Exit) (st : ASt) : Prop :=
 (e = .normal ∨ e = .ret) ∧ ∃ xs, ressPV P st rs = some xs ∧ ∃ j t sz rows fz y, st.loc[j]? = some (.row t sz rows fz) ∧ fget st.up 0 k = some .dead ∧ (oneOrTup xs).into j k = some y ∧ R y (fset st.up 0 k (.row t sz rows fz))
theorem ACalls.bodyI {g : FuncId} {fn : Func} {c : Code} {args : List PV} {up : Frs} {R : PV → Frs → Prop} (hf : P.funcs[g]? = some fn) (hb : fn.body = some c) (hn : args.length ≤ fn.ntmps) (k : Nat)
  (h : AWp P fn.ntmps c (RetI P fn.ntmps fn.results.toList k R) ⟨argEnv 0 (ups args), [], up⟩) : ACalls P g args up R := fun F bs w vs hm hv => by
 refine calls_of_wp hf hb ?_
 have hvl := hv.length
 simp only [Array.length_toList] at hvl
 have hups : ∀ (l : List PV), (ups l).length = l.length := by intro l; induction l with | nil => rfl | cons x l ih => simp [ups, ih]
 have hm0 : MRel F ([] :: bs) ([] :: up) w := by
  refine ⟨by simp [hm.shape], fun d j o a h1 h2 => ?_, fun d j d' j' b h1 h2 => ?_, hm.fz⟩
  ·cases d with
   | zero => simp at h1
   | succ d => simpa using hm.obj d j o a (by simpa using h1) (by simpa using h2)
  ·cases d with
   | zero => obtain ⟨o, k, h3, _⟩ := h1; simp at h3
   | succ d =>
    cases d' with
    | zero => obtain ⟨o, k, h3, _⟩ := h2; simp at h3
    | succ d' =>
     have := hm.inj d j d' j' b h1.pred h2.pred
     exact ⟨by omega, this.2⟩
 have hr : ARel fn.ntmps F ([] :: bs) ⟨argEnv 0 (ups args), [], up⟩ { tmps := vs ++ Array.replicate (fn.ntmps - vs.size) undef, defers := [] } w := by
  refine ⟨hm0, by simp; omega, fun t x hx => ?_, rfl⟩
  obtain ⟨_, h2⟩ := eget_argEnv _ _ _ _ hx
  simp only [Nat.sub_zero] at h2
  have hlt := (List.getElem?_eq_some_iff.1 h2).1
  rw [hups] at hlt
  refine ⟨by omega, ?_⟩
  have hu := VRels.up (b := []) (f := []) hv
  obtain ⟨v, h3, h4⟩ := hu.get t x h2
  have hg : (vs ++ Array.replicate (fn.ntmps - vs.size) undef).getD t undef = v := by
   rw [Array.getD_eq_getD_getElem?, Array.getElem?_append_left (by omega)]
   have : vs[t]? = some v := by simpa using h3
   simp [this]
  rw [hg]
  exact h4
 refine wp_mono (h F _ _ w hr) ?_
 rintro e a' w' ⟨st', F', bs', ⟨he, xs, hxs, j, t, sz, rows, fz, y, hj, hk0, hy, hR⟩, hr', hs⟩
 obtain ⟨f, rest, hup⟩ : ∃ f rest, st'.up = f :: rest := by
  cases hu : st'.up with
  | nil => rw [hu] at hk0; simp [fget] at hk0
  | cons f rest => exact ⟨f, rest, rfl⟩
 rw [hup] at hk0 hR
 have hk : f[k]? = some .dead := by simpa using hk0
 simp only [fset] at hR
 obtain ⟨v, hv1, hv2⟩ := results_ok hr' hxs
 have hmm := hr'.mem
 have hdef : a'.defers = [] := hr'.defers
 have hfr : st'.fr = st'.loc :: f :: rest := by rw [ASt.fr, hup]
 rw [hfr] at hmm hv2
 have hsh := hmm.shape
 cases bs' with
 | nil => simp at hsh
 | cons b0 bs' =>
  cases bs' with
  | nil => simp at hsh
  | cons b1 bs' =>
   simp only [List.map_cons, List.cons.injEq] at hsh
   have hjl := (List.getElem?_eq_some_iff.1 hj).1
   have ha : b0[j]? = some b0[j] := List.getElem?_eq_getElem (by omega)
   have hfin : (fun e w' => ∃ v pv F' bs' up', e = Ending.returned v ∧ R pv up' ∧ MRel F' bs' up' w' ∧ VRel F' bs' up' pv v ∧ CStep F bs up w F' bs' up' w') (.returned v) w' := by
    refine ⟨v, _, F', _, _, rfl, hR, MRel.into hmm hj ha hk, VRel.into hj ha hk hsh.2.1 hy hv2, ?_⟩
    have hkp : Keeps bs up w w' := ⟨hs.keeps.os, hs.keeps.tape, hs.keeps.output, hs.keeps.size, fun b hb hno => hs.keeps.block b hb fun d j ho => by
     cases d with
     | zero => obtain ⟨o, k, h3, _⟩ := ho; simp [ASt.fr] at h3
     | succ d => exact hno d j ho.pred⟩
    have hev := hs.ev
    simp only [List.tail_cons, hup] at hev
    refine ⟨hs.le, hev.trans (intoEv hk), hkp, fun d j' b ho => ?_⟩
    have old : ∀ d0 j0, Own (b0 :: b1 :: bs') (st'.loc :: f :: rest) d0 j0 b → (∃ d0 j0, Own bs up d0 j0 b) ∨ w.heap.size ≤ b := fun d0 j0 h1 => by
     rw [← hfr] at h1
     rcases hs.owns d0 j0 b h1 with ⟨d1, j1, h2⟩ | h2
     ·cases d1 with
      | zero => obtain ⟨o, k, h3, _⟩ := h2; simp [ASt.fr] at h3
      | succ d1 => exact .inl ⟨d1, j1, h2.pred⟩
     ·exact .inr h2
    rcases own_into hj ha hk ho with ⟨_, _, g⟩ | ⟨_, g⟩
    ·exact old _ _ g
    ·exact old _ _ g
   rcases he with rfl | rfl
   ·exact ⟨hdef, v, hv1, hfin⟩
   ·exact ⟨hdef, v, hv1, hfin⟩
theorem ACalls.codeI {f : FuncId} {fn : Func} {c : Code} {args : List PV} {up : Frs} {R : PV → Frs → Prop} (hf : P.funcs[f]? = some fn) (hb : fn.body = some c) (m : Nat) (hm : fn.ntmps = m) (hn : args.length ≤ m) (rs : List ResultVar) (hrs : fn.results.toList = rs) (k : Nat)
  (h : ∀ Q : Exit → ASt → Prop, (∀ e s, RetI P m rs k R e s → Q e s) → Run P m Q [] c ⟨argEnv 0 (ups args), [], up⟩) : ACalls P f args up R := by
 subst hm hrs
 exact ACalls.bodyI hf hb hn k (h _ fun _ _ h => h)
theorem fget_fset_ne {α : Type} {fr : List (List α)} {d j d' j' : Nat} {x : α} (h : ¬ (d' = d ∧ j' = j)) : fget (fset fr d j x) d' j' = fget fr d' j' := by rw [fget_fset, if_neg h]
theorem ref_ne {α : Type} {fr : List (List α)} {d j d' j' : Nat} {x y : α} (h : fget fr d j = some x) (h' : fget fr d' j' = some y) (hne : x ≠ y) : ¬ (d' = d ∧ j' = j) := fun ⟨e1, e2⟩ => by
 subst e1 e2
 rw [h] at h'
 exact hne (Option.some.inj h')
theorem Run.retI {n : Nat} {Q : Exit → ASt → Prop} {kk : List KF} {st : ASt} {m k : Nat} {rs : List ResultVar} {R : PV → Frs → Prop} {xs : List PV} {y : PV} {t sz fz : Nat} {rows : List (List Im)} (j : Nat) (hQ : ∀ e s, RetI P m rs k R e s → Q e s) (h1 : ressPV P st rs = some xs)
  (hj : st.loc[j]? = some (.row t sz rows fz)) (hk : fget st.up 0 k = some .dead) (h2 : (oneOrTup xs).into j k = some y) (h3 : R y (fset st.up 0 k (.row t sz rows fz))) : Run P n Q kk .ret st :=
 Run.ret (hQ _ _ ⟨.inr rfl, xs, h1, j, t, sz, rows, fz, y, hj, hk, h2, h3⟩)
theorem Ghost.boxAt {n : Nat} {st : ASt} {j i : Nat} {cs : List PV} {x : PV} (hl : st.loc[j]? = some (.box cs)) (hx : cs[i]? = some x) : Ghost n st (st.at j (.box (cs.set i (x.solid st.fr)))) := fun F bs a w h => by
 have hl' : look st.fr 0 j = some (.box cs) := by simpa [ASt.fr] using hl
 obtain ⟨ab, hab⟩ := look_bnd h.mem.shape hl'
 obtain ⟨q, arr, tt, k1, k2, k3, k4⟩ := h.mem.obj 0 j _ _ hl' hab
 have hb : fset bs 0 j ab = bs := fset_self bs 0 j ab hab
 have hput := h.mem.put (F' := F) (w' := w) (o' := .box (cs.set i (x.solid st.fr))) (a' := ab) hl' hab (fun _ _ _ => rfl) (Fz.le_refl F) (fun _ _ _ _ => rfl) (fun b q v _ hq => h.mem.fz b q v hq)
  (fun b hb' => .inr ⟨hb', trivial⟩) (by simp [AObj.becomes]) (by
   have hev : Evolve bs st.fr (fset bs 0 j ab) (fset st.fr 0 j (.box (cs.set i (x.solid st.fr)))) := fun d' j' o1 a1 g1 g2 => by
    simp only [look, bnd, fget_fset]
    by_cases e : d' = 0 ∧ j' = j
    ·obtain ⟨rfl, rfl⟩ := e
     have e1 := hl'.symm.trans g1
     have e2 := hab.symm.trans g2
     cases e1; cases e2
     refine ⟨.box (cs.set i (x.solid st.fr)), ab, ?_, ?_, by simp [AObj.becomes]⟩
     ·rw [if_pos ⟨rfl, rfl⟩, show fget st.fr 0 j' = _ from hl']; rfl
     ·rw [if_pos ⟨rfl, rfl⟩, show fget bs 0 j' = _ from hab]; rfl
    ·exact ⟨o1, a1, by rw [if_neg e]; exact g1, by rw [if_neg e]; exact g2, o1.becomes_refl a1⟩
   refine ⟨q, arr, tt, k1, k2, ?_, k4⟩
   simp only [List.drop_zero] at k3 ⊢
   refine VRels.move (Fz.le_refl F) hev (VRels.mk (by simpa using k3.length) fun p y v hy hv => ?_)
   rw [List.getElem?_set] at hy
   split at hy
   ·rename_i e
    subst e
    split at hy
    ·simp only [Option.some.injEq] at hy
     subst hy
     exact VRel.solid h.mem (k3.get' hx hv)
    ·simp at hy
   ·exact k3.get' hy hv)
 rw [hb] at hput
 obtain ⟨h6, h7⟩ := h.moved hput.1 ⟨Fz.le_refl F, hput.2.1, .refl _ _ _, hput.2.2⟩ (ASt.setFr_fset _ _ _ _)
 exact ⟨F, bs, h6, h7⟩
theorem Ghost.boxShut {n : Nat} {st : ASt} {j i r m tt sz fz : Nat} {cs : List PV} {rows : List (List Im)} (hl : st.loc[j]? = some (.box cs)) (hx : cs[i]? = some (.ms 0 r m)) (hr : st.loc[r]? = some (.row tt sz rows fz)) (hm : rows.length = m) :
  Ghost n st { env := st.env, loc := (st.loc.set r (.row tt sz rows rows.length)).set j (.box (cs.set i (.im (.sl rows)))), up := st.up } := by
 have g1 : Ghost n st (st.setFr (fset st.fr 0 r (.row tt sz rows rows.length))) := Ghost.freeze (by simpa [ASt.fr] using hr)
 refine g1.trans ?_
 have hlt := (List.getElem?_eq_some_iff.1 hr).1
 have hne : r ≠ j := fun e => by subst e; rw [hr] at hl; simp at hl
 have e : st.setFr (fset st.fr 0 r (.row tt sz rows rows.length)) = { env := st.env, loc := st.loc.set r (.row tt sz rows rows.length), up := st.up } := rfl
 rw [e]
 have g2 := Ghost.boxAt (n := n) (st := { env := st.env, loc := st.loc.set r (.row tt sz rows rows.length), up := st.up }) (j := j) (i := i) (cs := cs) (x := .ms 0 r m) (by simpa [hne] using hl) hx
 have e2 : (PV.ms 0 r m).solid (ASt.fr { env := st.env, loc := st.loc.set r (.row tt sz rows rows.length), up := st.up }) = .im (.sl rows) := by
  simp [PV.solid, imPV, ASt.fr, hlt, hm]
 rw [e2] at g2
 exact g2
theorem bft : (false == true) = false := rfl
theorem btf : (true == false) = false := rfl
theorem bin_agg_eql (t : TypeId) (xs ys : List PV) : binPV P .eql t (.agg xs) (.agg ys) = match eqsT P t with
  | some ts => (eqIms P ts xs ys).map fun b => .im (.bool b)
  | none => none := by
 simp only [binPV]
 cases eqsT P t <;> rfl
theorem bin_agg_neq (t : TypeId) (xs ys : List PV) : binPV P .neq t (.agg xs) (.agg ys) = match eqsT P t with
  | some ts => (eqIms P ts xs ys).map fun b => .im (.bool !b)
  | none => none := by
 simp only [binPV]
 cases eqsT P t <;> rfl
theorem upN_ms : ∀ (d e r n : Nat), PV.upN d (.ms e r n) = .ms (e + d) r n
 | 0, e, r, n => rfl
 | d + 1, e, r, n => by rw [PV.upN, upN_ms d, PV.up]; congr 1
theorem upN_vs : ∀ (d e r o n g : Nat), PV.upN d (.vs e r o n g) = .vs (e + d) r o n g
 | 0, e, r, o, n, g => rfl
 | d + 1, e, r, o, n, g => by rw [PV.upN, upN_vs d, PV.up]; congr 1
theorem downN_vs : ∀ (d r o n g : Nat), PV.downN d (.vs d r o n g) = some (.vs 0 r o n g)
 | 0, r, o, n, g => rfl
 | d + 1, r, o, n, g => by rw [PV.downN, PV.down]; exact downN_vs d r o n g
theorem upN_map : ∀ (d e r : Nat), PV.upN d (.map e r) = .map (e + d) r
 | 0, e, r => rfl
 | d + 1, e, r => by rw [PV.upN, upN_map d, PV.up]; congr 1
theorem upN_ptr : ∀ (d e r o : Nat), PV.upN d (.ptr e r o) = .ptr (e + d) r o
 | 0, e, r, o => rfl
 | d + 1, e, r, o => by rw [PV.upN, upN_ptr d, PV.up]; congr 1
theorem downN_ms : ∀ (d r n : Nat), PV.downN d (.ms d r n) = some (.ms 0 r n)
 | 0, r, n => rfl
 | d + 1, r, n => by rw [PV.downN, PV.down, Option.bind_some, downN_ms d]
end Go.Proofs.YtkjfdacjjogpcaaPi

