/- Results that are several new rows, laid into spare places of the caller's frame. No Go text in it. -/
import Derived.Test.YtdgpmopcmacicaaDoorPiInto
set_option linter.unusedVariables false
set_option linter.unusedSimpArgs false
namespace Go.Proofs.YtdgpmopcmacicaaDoorPi
variable {P : Program}

/-- The caller's place for the callee's row. -/
def layAt : List (Nat × Nat) → Nat → Option Nat
  | [], _ => none
  | (j, k) :: s, i => if j = i then some k else layAt s i
theorem layAt_mem : ∀ {s : List (Nat × Nat)} {i k : Nat}, layAt s i = some k → (i, k) ∈ s
  | [], i, k, h => by simp [layAt] at h
  | (j, q) :: s, i, k, h => by
    simp only [layAt] at h
    split at h
    · rename_i e
      subst e
      simp only [Option.some.injEq] at h
      subst h
      exact List.mem_cons_self
    · exact List.mem_cons_of_mem _ (layAt_mem h)
/-- The callee's place that is laid into a place of the caller's. -/
def layOf : List (Nat × Nat) → Nat → Option Nat
  | [], _ => none
  | (j, k) :: s, q => if k = q then some j else layOf s q
theorem layOf_mem : ∀ {s : List (Nat × Nat)} {j q : Nat}, layOf s q = some j → (j, q) ∈ s
  | [], j, q, h => by simp [layOf] at h
  | (i, k) :: s, j, q, h => by
    simp only [layOf] at h
    split at h
    · rename_i e
      subst e
      simp only [Option.some.injEq] at h
      subst h
      exact List.mem_cons_self
    · exact List.mem_cons_of_mem _ (layOf_mem h)
theorem layOf_none : ∀ {s : List (Nat × Nat)} {j q : Nat}, layOf s q = none → (j, q) ∉ s
  | [], j, q, _ => by simp
  | (i, k) :: s, j, q, h => by
    simp only [layOf] at h
    split at h
    · simp at h
    · rename_i e
      intro hm
      rcases List.mem_cons.1 hm with h1 | h1
      · cases h1
        exact e rfl
      · exact layOf_none h h1
mutual
def PV.lay (s : List (Nat × Nat)) : PV → Option PV
  | .agg cs => (lays s cs).map .agg
  | .tup cs => (lays s cs).map .tup
  | .ms 0 j' n => (layAt s j').map fun k => .ms 0 k n
  | .ms (d + 1) j' n => some (.ms d j' n)
  | .ptr (d + 1) j' off => some (.ptr d j' off)
  | .bs (d + 1) j' n => some (.bs d j' n)
  | .rptr (d + 1) j' n i off => some (.rptr d j' n i off)
  | .map (d + 1) j' => some (.map d j')
  | .fn f cap => (lays s cap).map (.fn f)
  | .ptr 0 _ _ => none
  | .bs 0 _ _ => none
  | .rptr 0 _ _ _ _ => none
  | .map 0 _ => none
  | .im x => some (.im x)
  | .full x => some (.full x)
  | .iptr x => some (.iptr x)
  | .nilp => some .nilp
  | .nils => some .nils
  | .abool => some .abool
  | .any => some .any
def lays (s : List (Nat × Nat)) : List PV → Option (List PV)
  | [] => some []
  | x :: xs => match x.lay s, lays s xs with
    | some y, some ys => some (y :: ys)
    | _, _ => none
end
/-- The rows of l that s names lie in f', in places that were spare in f. -/
structure LaidF (l f f' : List AObj) (s : List (Nat × Nat)) : Prop where
  len : f'.length = f.length
  put : ∀ j k, (j, k) ∈ s → ∃ t sz rows fz, l[j]? = some (.row t sz rows fz) ∧ f[k]? = some .dead ∧ f'[k]? = some (.row t sz rows fz)
  rest : ∀ k, (∀ j, (j, k) ∉ s) → f'[k]? = f[k]?
  fst : ∀ j k k', (j, k) ∈ s → (j, k') ∈ s → k = k'
  snd : ∀ j j' k, (j, k) ∈ s → (j', k) ∈ s → j = j'
structure Laid (l f f' : List AObj) (b0 b1 b1' : List Bnd) (s : List (Nat × Nat)) : Prop where
  len : f'.length = f.length
  blen : b1'.length = b1.length
  put : ∀ j k, (j, k) ∈ s → ∃ t sz rows fz a, l[j]? = some (.row t sz rows fz) ∧ b0[j]? = some a ∧ f[k]? = some .dead ∧ f'[k]? = some (.row t sz rows fz) ∧ b1'[k]? = some a
  rest : ∀ k, (∀ j, (j, k) ∉ s) → f'[k]? = f[k]? ∧ b1'[k]? = b1[k]?
  fst : ∀ j k k', (j, k) ∈ s → (j, k') ∈ s → k = k'
  snd : ∀ j j' k, (j, k) ∈ s → (j', k) ∈ s → j = j'
def layB (b0 b1 : List Bnd) (s : List (Nat × Nat)) : List Bnd := b1.mapIdx fun q a => match layOf s q with
  | some j => (b0[j]?).getD a
  | none => a
theorem LaidF.laid {l f f' : List AObj} {s : List (Nat × Nat)} (h : LaidF l f f' s) {b0 b1 : List Bnd} (h0 : b0.length = l.length) (h1 : b1.length = f.length) : Laid l f f' b0 b1 (layB b0 b1 s) s := by
  refine ⟨h.len, by simp [layB], fun j k hm => ?_, fun k hk => ⟨h.rest k hk, ?_⟩, h.fst, h.snd⟩
  · obtain ⟨t, sz, rows, fz, g1, g2, g3⟩ := h.put j k hm
    have hj := (List.getElem?_eq_some_iff.1 g1).1
    have hk := (List.getElem?_eq_some_iff.1 g2).1
    refine ⟨t, sz, rows, fz, b0[j], g1, List.getElem?_eq_getElem (by omega), g2, g3, ?_⟩
    have hb : b1[k]? = some b1[k] := List.getElem?_eq_getElem (by omega)
    simp only [layB, List.getElem?_mapIdx, hb, Option.map_some, Option.some.injEq]
    cases e : layOf s k with
    | none => exact absurd hm (layOf_none e)
    | some i =>
      have := h.snd i j k (layOf_mem e) hm
      subst this
      simp only
      rw [List.getElem?_eq_getElem (by omega)]
      rfl
  · simp only [layB, List.getElem?_mapIdx]
    cases e : layOf s k with
    | none => simp
    | some i => exact absurd (layOf_mem e) (hk i)
section
variable {F : Fz} {b0 b1 b1' : List Bnd} {bs : Bns} {l f f' : List AObj} {rest : Frs} {σ : List (Nat × Nat)}
theorem layEv (H : Laid l f f' b0 b1 b1' σ) : Evolve (b1 :: bs) (f :: rest) (b1' :: bs) (f' :: rest) := fun d q o a' h1 h2 => by
  cases d with
  | succ d => exact ⟨o, a', by simpa using h1, by simpa using h2, o.becomes_refl a'⟩
  | zero =>
    simp only [look_zero] at h1 h2
    by_cases e : ∃ j, (j, q) ∈ σ
    · obtain ⟨j, hj⟩ := e
      obtain ⟨t, sz, rows, fz, a, g1, g2, g3, g4, g5⟩ := H.put j q hj
      rw [g3] at h1
      cases h1
      exact ⟨.row t sz rows fz, a, by simpa using g4, by simpa using g5, trivial⟩
    · obtain ⟨g1, g2⟩ := H.rest q (fun j hj => e ⟨j, hj⟩)
      exact ⟨o, a', by simp only [look_zero]; rw [g1]; exact h1, by simp only [look_zero]; rw [g2]; exact h2, o.becomes_refl a'⟩
mutual
theorem VRel.lay (H : Laid l f f' b0 b1 b1' σ) : ∀ {x y : PV} {v : Value}, x.lay σ = some y → VRel F (b0 :: b1 :: bs) (l :: f :: rest) x v →
    VRel F (b1' :: bs) (f' :: rest) y v
  | .im x, y, v, hd, h => by simp only [PV.lay, Option.some.injEq] at hd; subst hd; simpa only [VRel] using h
  | .full x, y, v, hd, h => by simp only [PV.lay, Option.some.injEq] at hd; subst hd; simpa only [VRel] using h
  | .iptr x, y, v, hd, h => by simp only [PV.lay, Option.some.injEq] at hd; subst hd; simpa only [VRel] using h
  | .nilp, y, v, hd, h => by simp only [PV.lay, Option.some.injEq] at hd; subst hd; simpa only [VRel] using h
  | .nils, y, v, hd, h => by simp only [PV.lay, Option.some.injEq] at hd; subst hd; simpa only [VRel] using h
  | .abool, y, v, hd, h => by simp only [PV.lay, Option.some.injEq] at hd; subst hd; simpa only [VRel] using h
  | .any, y, v, hd, h => by simp only [PV.lay, Option.some.injEq] at hd; subst hd; simp only [VRel]
  | .agg cs, y, v, hd, h => by
    simp only [PV.lay, Option.map_eq_some_iff] at hd
    obtain ⟨ys, hy, rfl⟩ := hd
    simp only [VRel] at h ⊢
    obtain ⟨vs, h1, h2⟩ := h
    exact ⟨vs, h1, VRels.lay H hy h2⟩
  | .tup cs, y, v, hd, h => by
    simp only [PV.lay, Option.map_eq_some_iff] at hd
    obtain ⟨ys, hy, rfl⟩ := hd
    simp only [VRel] at h ⊢
    obtain ⟨vs, h1, h2⟩ := h
    exact ⟨vs, h1, VRels.lay H hy h2⟩
  | .fn g cap, y, v, hd, h => by
    simp only [PV.lay, Option.map_eq_some_iff] at hd
    obtain ⟨ys, hy, rfl⟩ := hd
    simp only [VRel] at h ⊢
    obtain ⟨vs, h1, h2⟩ := h
    exact ⟨vs, h1, VRels.lay H hy h2⟩
  | .ms 0 j' n, y, v, hd, h => by
    simp only [PV.lay, Option.map_eq_some_iff] at hd
    obtain ⟨k, hk, rfl⟩ := hd
    have hm := layAt_mem hk
    obtain ⟨t, sz, rows, fz, a, g1, g2, g3, g4, g5⟩ := H.put j' k hm
    simp only [VRel] at h ⊢
    obtain ⟨A, c, h1, h2, t', sz', rows', fz', a', h3, h4, h5, h6⟩ := h
    have e1 : (AObj.row t sz rows fz) = .row t' sz' rows' fz' := Option.some.inj (g1.symm.trans h3)
    have e2 : a = a' := Option.some.inj (g2.symm.trans h4)
    subst e2
    cases e1
    exact ⟨A, c, h1, h2, t, sz, rows, fz, a, by simpa using g4, by simpa using g5, h5, h6⟩
  | .ms (d + 1) j' n, y, v, hd, h => by
    simp only [PV.lay, Option.some.injEq] at hd
    subst hd
    exact VRel.move (Fz.le_refl F) (layEv H) (VRel.down (b := b0) (f := l) (x := .ms (d + 1) j' n) (by simp [PV.down]) h)
  | .bs (d + 1) j' o, y, v, hd, h => by
    simp only [PV.lay, Option.some.injEq] at hd
    subst hd
    exact VRel.move (Fz.le_refl F) (layEv H) (VRel.down (b := b0) (f := l) (x := .bs (d + 1) j' o) (by simp [PV.down]) h)
  | .bs 0 j' o, y, v, hd, h => by simp [PV.lay] at hd
  | .ptr (d + 1) j' o, y, v, hd, h => by
    simp only [PV.lay, Option.some.injEq] at hd
    subst hd
    exact VRel.move (Fz.le_refl F) (layEv H) (VRel.down (b := b0) (f := l) (x := .ptr (d + 1) j' o) (by simp [PV.down]) h)
  | .rptr (d + 1) j' n i o, y, v, hd, h => by
    simp only [PV.lay, Option.some.injEq] at hd
    subst hd
    exact VRel.move (Fz.le_refl F) (layEv H) (VRel.down (b := b0) (f := l) (x := .rptr (d + 1) j' n i o) (by simp [PV.down]) h)
  | .map (d + 1) j', y, v, hd, h => by
    simp only [PV.lay, Option.some.injEq] at hd
    subst hd
    exact VRel.move (Fz.le_refl F) (layEv H) (VRel.down (b := b0) (f := l) (x := .map (d + 1) j') (by simp [PV.down]) h)
  | .ptr 0 j' o, y, v, hd, h => by simp [PV.lay] at hd
  | .rptr 0 j' n i o, y, v, hd, h => by simp [PV.lay] at hd
  | .map 0 j', y, v, hd, h => by simp [PV.lay] at hd
theorem VRels.lay (H : Laid l f f' b0 b1 b1' σ) : ∀ {xs ys : List PV} {vs : List Value}, lays σ xs = some ys → VRels F (b0 :: b1 :: bs) (l :: f :: rest) xs vs →
    VRels F (b1' :: bs) (f' :: rest) ys vs
  | [], ys, vs, hd, h => by simp only [lays, Option.some.injEq] at hd; subst hd; simpa only [VRels] using h
  | x :: xs, ys, vs, hd, h => by
    simp only [lays] at hd
    split at hd
    · rename_i y ys' hy hys
      simp only [Option.some.injEq] at hd
      subst hd
      simp only [VRels] at h ⊢
      obtain ⟨v, vs', h1, h2, h3⟩ := h
      exact ⟨v, vs', h1, VRel.lay H hy h2, VRels.lay H hys h3⟩
    · simp at hd
end
/-- Where an owned block of the new frames lay before. -/
theorem own_lay (H : Laid l f f' b0 b1 b1' σ) {d q b : Nat} (h : Own (b1' :: bs) (f' :: rest) d q b) :
    (d = 0 ∧ ∃ j, (j, q) ∈ σ ∧ Own (b0 :: b1 :: bs) (l :: f :: rest) 0 j b) ∨ (¬ (d = 0 ∧ ∃ j, (j, q) ∈ σ) ∧ Own (b0 :: b1 :: bs) (l :: f :: rest) (d + 1) q b) := by
  obtain ⟨o, kk, h1, h2, h3⟩ := h
  by_cases e : d = 0 ∧ ∃ j, (j, q) ∈ σ
  · obtain ⟨rfl, j, hj⟩ := e
    left
    obtain ⟨t, sz, rows, fz, a, g1, g2, g3, g4, g5⟩ := H.put j q hj
    simp only [look_zero] at h1 h3
    rw [g4] at h1
    rw [g5] at h3
    simp only [Option.some.injEq] at h1 h3
    subst h1
    exact ⟨rfl, j, hj, .row t sz rows fz, kk, by simpa using g1, trivial, by simp [bnd, fget, g2, h3]⟩
  · right
    refine ⟨e, o, kk, ?_, h2, ?_⟩
    · cases d with
      | zero =>
        obtain ⟨g1, g2⟩ := H.rest q (fun j hj => e ⟨rfl, j, hj⟩)
        simp only [look_zero, look_succ] at h1 ⊢
        rwa [g1] at h1
      | succ d => simpa using h1
    · cases d with
      | zero =>
        obtain ⟨g1, g2⟩ := H.rest q (fun j hj => e ⟨rfl, j, hj⟩)
        simp only [look_zero, look_succ] at h3 ⊢
        rwa [g2] at h3
      | succ d => simpa using h3
theorem MRel.lay {w : World} (hm : MRel F (b0 :: b1 :: bs) (l :: f :: rest) w) (H : Laid l f f' b0 b1 b1' σ) : MRel F (b1' :: bs) (f' :: rest) w := by
  have hsh := hm.shape
  simp only [List.map_cons, List.cons.injEq] at hsh
  refine ⟨by simp [hsh.2.1, hsh.2.2, H.len, H.blen], fun d q o a' h1 h2 => ?_, fun d q d' q' b h1 h2 => ?_, hm.fz⟩
  · cases d with
    | succ d =>
      have := hm.obj (d + 2) q o a' (by simpa using h1) (by simpa using h2)
      simpa using this
    | zero =>
      simp only [look_zero] at h1 h2
      by_cases e : ∃ j, (j, q) ∈ σ
      · obtain ⟨j, hj⟩ := e
        obtain ⟨t, sz, rows, fz, a, g1, g2, g3, g4, g5⟩ := H.put j q hj
        rw [g4] at h1
        rw [g5] at h2
        simp only [Option.some.injEq] at h1 h2
        subst h1 h2
        exact hm.obj 0 j _ _ (by simpa using g1) (by simpa using g2)
      · obtain ⟨g1, g2⟩ := H.rest q (fun j hj => e ⟨j, hj⟩)
        rw [g1] at h1
        rw [g2] at h2
        have := hm.obj 1 q o a' (by simpa using h1) (by simpa using h2)
        simp only [List.drop_succ_cons, List.drop_zero] at this ⊢
        exact this.move (Fz.le_refl F) (layEv H) (fun b _ _ => ⟨rfl, fun _ => rfl⟩)
  · rcases own_lay H h1 with ⟨rfl, j, m1, g1⟩ | ⟨e1, g1⟩ <;> rcases own_lay H h2 with ⟨rfl, j', m2, g2⟩ | ⟨e2, g2⟩
    · have := (hm.inj _ _ _ _ b g1 g2).2
      subst this
      exact ⟨rfl, H.fst _ _ _ m1 m2⟩
    · have := (hm.inj _ _ _ _ b g1 g2).1
      omega
    · have := (hm.inj _ _ _ _ b g1 g2).1
      omega
    · have := hm.inj _ _ _ _ b g1 g2
      exact ⟨by omega, this.2⟩
end
/-- What is handed back, with the call's own rows laid into spare places of the caller's. -/
def RetL (P : Program) (n : Nat) (rs : List ResultVar) (s : List (Nat × Nat)) (R : PV → Frs → Prop) (e : Exit) (st : ASt) : Prop :=
  (e = .normal ∨ e = .ret) ∧ ∃ xs, ressPV P st rs = some xs ∧ ∃ f f' rest y, st.up = f :: rest ∧ LaidF st.loc f f' s ∧ (oneOrTup xs).lay s = some y ∧ R y (f' :: rest)
theorem ACalls.bodyL {g : FuncId} {fn : Func} {c : Code} {args : List PV} {up : Frs} {R : PV → Frs → Prop} (hf : P.funcs[g]? = some fn) (hb : fn.body = some c) (hn : args.length ≤ fn.ntmps) (s : List (Nat × Nat))
    (h : AWp P fn.ntmps c (RetL P fn.ntmps fn.results.toList s R) ⟨argEnv 0 (ups args), [], up⟩) : ACalls P g args up R := fun F bs w vs hm hv => by
  refine calls_of_wp hf hb ?_
  have hvl := hv.length
  simp only [Array.length_toList] at hvl
  have hups : ∀ (l : List PV), (ups l).length = l.length := by intro l; induction l with | nil => rfl | cons x l ih => simp [ups, ih]
  have hm0 : MRel F ([] :: bs) ([] :: up) w := by
    refine ⟨by simp [hm.shape], fun d j o a h1 h2 => ?_, fun d j d' j' b h1 h2 => ?_, hm.fz⟩
    · cases d with
      | zero => simp at h1
      | succ d => simpa using hm.obj d j o a (by simpa using h1) (by simpa using h2)
    · cases d with
      | zero => obtain ⟨o, k, h3, _⟩ := h1; simp at h3
      | succ d =>
        cases d' with
        | zero => obtain ⟨o, k, h3, _⟩ := h2; simp at h3
        | succ d' =>
          have := hm.inj d j d' j' b h1.pred h2.pred
          exact ⟨by omega, this.2⟩
  have hr : ARel fn.ntmps F ([] :: bs) ⟨argEnv 0 (ups args), [], up⟩ { tmps := vs ++ Array.replicate (fn.ntmps - vs.size) undef, defers := [] } w := by
    refine ⟨hm0, by simp; omega, fun t x hx => ?_, rfl⟩
    obtain ⟨_, h2⟩ := eget_argEnv _ _ _ _ hx
    simp only [Nat.sub_zero] at h2
    have hlt := (List.getElem?_eq_some_iff.1 h2).1
    rw [hups] at hlt
    refine ⟨by omega, ?_⟩
    have hu := VRels.up (b := []) (f := []) hv
    obtain ⟨v, h3, h4⟩ := hu.get t x h2
    have hg : (vs ++ Array.replicate (fn.ntmps - vs.size) undef).getD t undef = v := by
      rw [Array.getD_eq_getD_getElem?, Array.getElem?_append_left (by omega)]
      have : vs[t]? = some v := by simpa using h3
      simp [this]
    rw [hg]
    exact h4
  refine wp_mono (h F _ _ w hr) ?_
  rintro e a' w' ⟨st', F', bs', ⟨he, xs, hxs, f, f', rest, y, hup, hlf, hy, hR⟩, hr', hs⟩
  obtain ⟨v, hv1, hv2⟩ := results_ok hr' hxs
  have hmm := hr'.mem
  have hdef : a'.defers = [] := hr'.defers
  have hfr : st'.fr = st'.loc :: f :: rest := by rw [ASt.fr, hup]
  rw [hfr] at hmm hv2
  have hsh := hmm.shape
  cases bs' with
  | nil => simp at hsh
  | cons b0 bs' =>
    cases bs' with
    | nil => simp at hsh
    | cons b1 bs' =>
      simp only [List.map_cons, List.cons.injEq] at hsh
      have H := hlf.laid (b0 := b0) (b1 := b1) hsh.1 hsh.2.1
      have hfin : (fun e w' => ∃ v pv F' bs' up', e = Ending.returned v ∧ R pv up' ∧ MRel F' bs' up' w' ∧ VRel F' bs' up' pv v ∧ CStep F bs up w F' bs' up' w') (.returned v) w' := by
        refine ⟨v, _, F', _, _, rfl, hR, MRel.lay hmm H, VRel.lay H hy hv2, ?_⟩
        have hkp : Keeps bs up w w' := ⟨hs.keeps.os, hs.keeps.tape, hs.keeps.output, hs.keeps.size, fun b hb hno => hs.keeps.block b hb fun d j ho => by
          cases d with
          | zero => obtain ⟨o, k, h3, _⟩ := ho; simp [ASt.fr] at h3
          | succ d => exact hno d j ho.pred⟩
        have hev := hs.ev
        simp only [List.tail_cons, hup] at hev
        refine ⟨hs.le, hev.trans (layEv H), hkp, fun d j' b ho => ?_⟩
        have old : ∀ d0 j0, Own (b0 :: b1 :: bs') (st'.loc :: f :: rest) d0 j0 b → (∃ d0 j0, Own bs up d0 j0 b) ∨ w.heap.size ≤ b := fun d0 j0 h1 => by
          rw [← hfr] at h1
          rcases hs.owns d0 j0 b h1 with ⟨d1, j1, h2⟩ | h2
          · cases d1 with
            | zero => obtain ⟨o, k, h3, _⟩ := h2; simp [ASt.fr] at h3
            | succ d1 => exact .inl ⟨d1, j1, h2.pred⟩
          · exact .inr h2
        rcases own_lay H ho with ⟨_, _, _, g⟩ | ⟨_, g⟩
        · exact old _ _ g
        · exact old _ _ g
      rcases he with rfl | rfl
      · exact ⟨hdef, v, hv1, hfin⟩
      · exact ⟨hdef, v, hv1, hfin⟩
theorem ACalls.codeL {f : FuncId} {fn : Func} {c : Code} {args : List PV} {up : Frs} {R : PV → Frs → Prop} (hf : P.funcs[f]? = some fn) (hb : fn.body = some c) (m : Nat) (hm : fn.ntmps = m) (hn : args.length ≤ m) (rs : List ResultVar) (hrs : fn.results.toList = rs) (s : List (Nat × Nat))
    (h : ∀ Q : Exit → ASt → Prop, (∀ e st, RetL P m rs s R e st → Q e st) → Run P m Q [] c ⟨argEnv 0 (ups args), [], up⟩) : ACalls P f args up R := by
  subst hm hrs
  exact ACalls.bodyL hf hb hn s (h _ fun _ _ h => h)
/-- Three rows laid into three spare places. -/
theorem LaidF.three {l f : List AObj} {j0 j1 j2 k0 k1 k2 : Nat} {t0 s0 z0 t1 s1 z1 t2 s2 z2 : Nat} {r0 r1 r2 : List (List Im)} (hj0 : l[j0]? = some (.row t0 s0 r0 z0)) (hj1 : l[j1]? = some (.row t1 s1 r1 z1)) (hj2 : l[j2]? = some (.row t2 s2 r2 z2))
    (hk0 : f[k0]? = some .dead) (hk1 : f[k1]? = some .dead) (hk2 : f[k2]? = some .dead) (n01 : j0 ≠ j1) (n02 : j0 ≠ j2) (n12 : j1 ≠ j2) (m01 : k0 ≠ k1) (m02 : k0 ≠ k2) (m12 : k1 ≠ k2) :
    LaidF l f (((f.set k0 (.row t0 s0 r0 z0)).set k1 (.row t1 s1 r1 z1)).set k2 (.row t2 s2 r2 z2)) [(j0, k0), (j1, k1), (j2, k2)] := by
  have g0 := (List.getElem?_eq_some_iff.1 hk0).1
  have g1 := (List.getElem?_eq_some_iff.1 hk1).1
  have g2 := (List.getElem?_eq_some_iff.1 hk2).1
  refine ⟨by simp, fun j k hm => ?_, fun k hk => ?_, fun j k k' h1 h2 => ?_, fun j j' k h1 h2 => ?_⟩
  · simp only [List.mem_cons, Prod.mk.injEq, List.not_mem_nil, or_false] at hm
    rcases hm with ⟨rfl, rfl⟩ | ⟨rfl, rfl⟩ | ⟨rfl, rfl⟩
    · exact ⟨t0, s0, r0, z0, hj0, hk0, by rw [List.getElem?_set_ne (by omega), List.getElem?_set_ne (by omega)]; simp [g0]⟩
    · exact ⟨t1, s1, r1, z1, hj1, hk1, by rw [List.getElem?_set_ne (by omega)]; simp [g1]⟩
    · exact ⟨t2, s2, r2, z2, hj2, hk2, by simp [g2]⟩
  · have e0 : k0 ≠ k := fun e => hk j0 (by simp [e])
    have e1 : k1 ≠ k := fun e => hk j1 (by simp [e])
    have e2 : k2 ≠ k := fun e => hk j2 (by simp [e])
    rw [List.getElem?_set_ne e2, List.getElem?_set_ne e1, List.getElem?_set_ne e0]
  · simp only [List.mem_cons, Prod.mk.injEq, List.not_mem_nil, or_false] at h1 h2
    omega
  · simp only [List.mem_cons, Prod.mk.injEq, List.not_mem_nil, or_false] at h1 h2
    omega
end Go.Proofs.YtdgpmopcmacicaaDoorPi
