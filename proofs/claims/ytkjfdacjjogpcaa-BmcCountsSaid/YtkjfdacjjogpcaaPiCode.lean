/- Regions, calls, results, functions in the abstract program logic. No Go text in it. -/
import Derived.Test.YtkjfdacjjogpcaaPiGhost
set_option linter.unusedVariables false
set_option linter.unusedSimpArgs false
namespace Go.Proofs.YtkjfdacjjogpcaaPi
variable {P : Program}

/-! ### solid values: frozen rows are data -/
mutual
def PV.solid (fr : Frs) : PV → PV
 | .agg cs => .agg (solids fr cs)
 | .tup cs => .tup (solids fr cs)
 | .full r => .im (.sl r)
 | .nils => .im (.sl [])
 | .ms d j n => match imPV fr (.ms d j n) with
  | some y => .im y
  | none => .ms d j n
 | x => x
def solids (fr : Frs) : List PV → List PV
 | [] => []
 | x :: xs => x.solid fr :: solids fr xs
end
mutual
theorem VRel.solid {F : Fz} {bs : Bns} {fr : Frs} {w : World} (hm : MRel F bs fr w) : ∀ {x : PV} {v : Value}, VRel F bs fr x v → VRel F bs fr (x.solid fr) v
 | .im x, v, h => by simpa only [PV.solid] using h
 | .full r, v, h => by simp only [PV.solid]; simp only [VRel]; exact imPV_rel hm (x := .full r) rfl h
 | .nils, v, h => by simp only [PV.solid]; simp only [VRel]; exact imPV_rel hm (x := .nils) rfl h
 | .agg cs, v, h => by
  simp only [PV.solid, VRel] at h ⊢
  obtain ⟨vs, h1, h2⟩ := h
  exact ⟨vs, h1, VRels.solid hm h2⟩
 | .tup cs, v, h => by
  simp only [PV.solid, VRel] at h ⊢
  obtain ⟨vs, h1, h2⟩ := h
  exact ⟨vs, h1, VRels.solid hm h2⟩
 | .ms d j n, v, h => by
  simp only [PV.solid]
  split
  ·rename_i y hy
   simp only [VRel]
   exact imPV_rel hm hy h
  ·exact h
 | .ptr d j o, v, h => by simpa only [PV.solid] using h
 | .bs d j m, v, h => by simpa only [PV.solid] using h
 | .vs d j o n g, v, h => by simpa only [PV.solid] using h
 | .vp d j i g, v, h => by simpa only [PV.solid] using h
 | .rptr d j n i o, v, h => by simpa only [PV.solid] using h
 | .iptr cs, v, h => by simpa only [PV.solid] using h
 | .map d j, v, h => by simpa only [PV.solid] using h
 | .fn f cap, v, h => by simpa only [PV.solid] using h
 | .nilp, v, h => by simpa only [PV.solid] using h
 | .abool, v, h => by simpa only [PV.solid] using h
 | .any, v, h => by simpa only [PV.solid] using h
theorem VRels.solid {F : Fz} {bs : Bns} {fr : Frs} {w : World} (hm : MRel F bs fr w) : ∀ {xs : List PV} {vs : List Value}, VRels F bs fr xs vs → VRels F bs fr (solids fr xs) vs
 | [], vs, h => by simpa only [solids] using h
 | x :: xs, vs, h => by
  simp only [solids, VRels] at h ⊢
  obtain ⟨v, vs', h1, h2, h3⟩ := h
  exact ⟨v, vs', h1, VRel.solid hm h2, VRels.solid hm h3⟩
end
def frzRow (j : Nat) (loc : List AObj) : List AObj := match loc[j]? with
 | some (.row t sz rows _) => loc.set j (.row t sz rows rows.length)
 | _ => loc
mutual
def PV.frz (loc : List AObj) : PV → List AObj
 | .agg cs => frzs loc cs
 | .tup cs => frzs loc cs
 | .ms 0 j _ => frzRow j loc
 | _ => loc
def frzs (loc : List AObj) : List PV → List AObj
 | [] => loc
 | x :: xs => frzs (x.frz loc) xs
end
def FrzTo (F : Fz) (bs : Bns) (l : List AObj) (u : Frs) (w : World) (l' : List AObj) : Prop := ∃ F', MRel F' bs (l' :: u) w ∧ CStep F bs (l :: u) w F' bs (l' :: u) w
theorem frzRow_ok {F : Fz} {bs : Bns} {l : List AObj} {u : Frs} {w : World} (hm : MRel F bs (l :: u) w) (j : Nat) : FrzTo F bs l u w (frzRow j l) := by
 have same : FrzTo F bs l u w l := ⟨F, hm, .refl _ _ _ _⟩
 cases h : l[j]? with
 | none => simpa only [frzRow, h] using same
 | some o =>
  cases o with
  | row t sz rows fz =>
   obtain ⟨F', h1, h2⟩ := freeze_ok hm (d := 0) (j := j) (by simpa using h)
   simp only [frzRow, h]
   exact ⟨F', h1, h2⟩
  | box cs => simpa only [frzRow, h] using same
  | map es => simpa only [frzRow, h] using same
  | dead => simpa only [frzRow, h] using same
  | vec t g cs => simpa only [frzRow, h] using same
mutual
theorem frz_ok {u : Frs} {w : World} : ∀ (x : PV) {F : Fz} {bs : Bns} {l : List AObj}, MRel F bs (l :: u) w → FrzTo F bs l u w (x.frz l)
 | .agg cs, F, bs, l, h => by simp only [PV.frz]; exact frzs_ok cs h
 | .tup cs, F, bs, l, h => by simp only [PV.frz]; exact frzs_ok cs h
 | .ms 0 j m, F, bs, l, h => by simp only [PV.frz]; exact frzRow_ok h j
 | .ms (d + 1) j m, F, bs, l, h => by simp only [PV.frz]; exact ⟨F, h, .refl _ _ _ _⟩
 | .im x, F, bs, l, h => by simp only [PV.frz]; exact ⟨F, h, .refl _ _ _ _⟩
 | .full x, F, bs, l, h => by simp only [PV.frz]; exact ⟨F, h, .refl _ _ _ _⟩
 | .nils, F, bs, l, h => by simp only [PV.frz]; exact ⟨F, h, .refl _ _ _ _⟩
 | .ptr d j o, F, bs, l, h => by simp only [PV.frz]; exact ⟨F, h, .refl _ _ _ _⟩
 | .bs d j o, F, bs, l, h => by simp only [PV.frz]; exact ⟨F, h, .refl _ _ _ _⟩
 | .vs d j o n g, F, bs, l, h => by simp only [PV.frz]; exact ⟨F, h, .refl _ _ _ _⟩
 | .vp d j i g, F, bs, l, h => by simp only [PV.frz]; exact ⟨F, h, .refl _ _ _ _⟩
 | .rptr d j m i o, F, bs, l, h => by simp only [PV.frz]; exact ⟨F, h, .refl _ _ _ _⟩
 | .iptr cs, F, bs, l, h => by simp only [PV.frz]; exact ⟨F, h, .refl _ _ _ _⟩
 | .map d j, F, bs, l, h => by simp only [PV.frz]; exact ⟨F, h, .refl _ _ _ _⟩
 | .fn f cap, F, bs, l, h => by simp only [PV.frz]; exact ⟨F, h, .refl _ _ _ _⟩
 | .nilp, F, bs, l, h => by simp only [PV.frz]; exact ⟨F, h, .refl _ _ _ _⟩
 | .abool, F, bs, l, h => by simp only [PV.frz]; exact ⟨F, h, .refl _ _ _ _⟩
 | .any, F, bs, l, h => by simp only [PV.frz]; exact ⟨F, h, .refl _ _ _ _⟩
theorem frzs_ok {u : Frs} {w : World} : ∀ (xs : List PV) {F : Fz} {bs : Bns} {l : List AObj}, MRel F bs (l :: u) w → FrzTo F bs l u w (frzs l xs)
 | [], F, bs, l, h => by simp only [frzs]; exact ⟨F, h, .refl _ _ _ _⟩
 | x :: xs, F, bs, l, h => by
  simp only [frzs]
  obtain ⟨F1, h1, h2⟩ := frz_ok x h
  obtain ⟨F2, h3, h4⟩ := frzs_ok xs h1
  exact ⟨F2, h3, h2.trans h4⟩
end
theorem Ghost.frozen {n : Nat} (xs : List PV) {st : ASt} : Ghost n st { st with loc := frzs st.loc xs } := fun F bs a w h => by
 obtain ⟨F', h1, h2⟩ := frzs_ok (u := st.up) (w := w) xs (l := st.loc) h.mem
 obtain ⟨h3, h4⟩ := h.moved (fr' := frzs st.loc xs :: st.up) h1 h2 rfl
 exact ⟨F', bs, h3, h4⟩

/-! ### regions -/
def ASt.put (st : ASt) (dst : Option Nat) (v : PV) : ASt := match dst with
 | some t => { st with env := eput st.env t v }
 | none => st
def okDst (n : Nat) : Option Nat → Bool
 | some t => decide (t < n)
 | none => true
theorem ARel.put {n : Nat} {F : Fz} {bs : Bns} {st : ASt} {a : Act} {w : World} (h : ARel n F bs st a w) {dst : Option Nat} {x : PV} {v : Value} (hd : okDst n dst = true) (hv : VRel F bs st.fr x v) : ARel n F bs (st.put dst x) (a.put dst v) w := by
 cases dst with
 | none => exact h
 | some t =>
  simp only [okDst, decide_eq_true_eq] at hd
  have hs := h.size
  refine ⟨h.mem, by simpa [Act.put] using hs, fun u y hy => ?_, h.defers⟩
  simp only [ASt.put, eget_eput] at hy
  split at hy
  ·rename_i e
   subst e
   simp only [Option.some.injEq] at hy
   subst hy
   refine ⟨hd, ?_⟩
   have hlt : u < a.tmps.size := Nat.lt_of_lt_of_le hd hs
   have : (a.put (some u) v).tmps.getD u undef = v := by simp [Act.put, Array.getElem?_setIfInBounds, hlt]
   rw [this]
   exact hv
  ·rename_i e
   have : (a.put (some t) v).tmps.getD u undef = a.tmps.getD u undef := by simp [Act.put, Array.getElem?_setIfInBounds, show ¬ t = u from fun k => e k.symm]
   rw [this]
   exact h.env u y hy
def OpOk (P : Program) (n : Nat) (st : ASt) (op : Op) (x : PV) (st1 : ASt) : Prop :=
 ∀ F bs a w, ARel n F bs st a w → ∀ o : Oper, o.op = op → ∃ r v w' F' bs', (execOp a.eval o).run P w = .ok r w' ∧ (r = .value v ∨ r = .skip ∧ v = undef) ∧
  MRel F' bs' st1.fr w' ∧ CStep F bs st.fr w F' bs' st1.fr w' ∧ VRel F' bs' st1.fr x v ∧ st1.env = st.env
theorem ARel.step {n : Nat} {F F' : Fz} {bs bs' : Bns} {st st1 : ASt} {a : Act} {w w' : World} (h : ARel n F bs st a w) (hm : MRel F' bs' st1.fr w') (hc : CStep F bs st.fr w F' bs' st1.fr w') (he : st1.env = st.env) : ARel n F' bs' st1 a w' ∧ AStep F bs st w F' bs' st1 w' := by
 have hs : st.setFr st1.fr = st1 := by
  cases st1
  simp only at he
  subst he
  rfl
 have := h.moved hm hc (by rw [hs])
 rwa [hs] at this
theorem OpOk.wp {n : Nat} {st st1 : ASt} {o : Oper} {x : PV} (h : OpOk P n st o.op x st1) (hd : okDst n o.dst = true) {F : Fz} {bs : Bns} {a : Act} {w : World} (hr : ARel n F bs st a w) {next : Act → World → Prop} {Q : Exit → Act → World → Prop}
  (hn : ∀ F' bs' a' w', ARel n F' bs' (st1.put o.dst x) a' w' → AStep F bs st w F' bs' (st1.put o.dst x) w' → next a' w') : o.wp P a w next Q := by
 obtain ⟨r, v, w', F', bs', h1, h2, h3, h4, h5, h6⟩ := h F bs a w hr o rfl
 obtain ⟨h7, h8⟩ := hr.step h3 h4 h6
 have hp := h7.put hd h5
 have hs : AStep F bs st w F' bs' (st1.put o.dst x) w' := by
  cases hdst : o.dst with
  | none => exact h8
  | some t => exact ⟨h8.le, h8.ev, h8.keeps, h8.owns⟩
 unfold Oper.wp
 rw [h1]
 rcases h2 with rfl | ⟨rfl, rfl⟩
 ·exact hn F' bs' _ _ hp hs
 ·exact hn F' bs' _ _ hp hs
def AOps (P : Program) (n : Nat) (ops : Array Oper) (l : List Oper) (Q : Exit → ASt → Prop) (st : ASt) : Prop :=
 ∀ F bs a w, ARel n F bs st a w → wpList P ops (APost n F bs st w Q) l a w
def wantedA (ops : Array Oper) (env : List (Nat × PV)) (o : Oper) : Option Bool :=
 match o.guard with
 | none => some true
 | some (j, want) => match (ops[j]?).bind (·.dst) with
  | some t => match eget env t with
   | some (.im (.bool c)) => some (c == want)
   | some (.tup []) => some false
   | _ => none
  | none => none
theorem wantedA_ok {n : Nat} {F : Fz} {bs : Bns} {st : ASt} {a : Act} {w : World} (h : ARel n F bs st a w) {ops : Array Oper} {o : Oper} {b : Bool} (hw : wantedA ops st.env o = some b) : Region.wanted o (yielded ops a.tmps) = b := by
 unfold wantedA at hw
 unfold Region.wanted
 split at hw
 ·rename_i hg; rw [hg]; simpa using hw
 ·rename_i j want hg
  rw [hg]
  split at hw
  ·rename_i t ht
   split at hw
   ·rename_i c hc
    simp only [Option.some.injEq] at hw
    obtain ⟨h1, h2⟩ := h.env t _ hc
    simp only [VRel, IRel] at h2
    have hlt : t < a.tmps.size := Nat.lt_of_lt_of_le h1 h.size
    simp only [yielded, ht, Option.bind_some]
    rw [Array.getElem?_eq_getElem hlt]
    rw [Array.getD_eq_getD_getElem?, Array.getElem?_eq_getElem hlt] at h2
    simp only [Option.getD_some] at h2
    rw [h2]
    subst hw
    cases c <;> cases want <;> rfl
   ·rename_i hc
    simp only [Option.some.injEq] at hw
    obtain ⟨h1, h2⟩ := h.env t _ hc
    simp only [VRel] at h2
    obtain ⟨vs, h2, -⟩ := h2
    have hlt : t < a.tmps.size := Nat.lt_of_lt_of_le h1 h.size
    simp only [yielded, ht, Option.bind_some]
    rw [Array.getElem?_eq_getElem hlt]
    rw [Array.getD_eq_getD_getElem?, Array.getElem?_eq_getElem hlt] at h2
    simp only [Option.getD_some] at h2
    rw [h2]
    subst hw
    cases want <;> rfl
   ·simp at hw
  ·simp at hw
section
variable {n : Nat} {ops : Array Oper} {rest : List Oper} {o : Oper} {Q : Exit → ASt → Prop} {st st1 : ASt} {x : PV}
theorem AOps.nil (h : Q .normal st) : AOps P n ops [] Q st := fun F bs a w hr => ⟨st, F, bs, h, hr, .refl _ _ _ _⟩
theorem wpList_mono {Q Q' : Exit → Act → World → Prop} (hq : ∀ e a w, Q e a w → Q' e a w) : ∀ {l : List Oper} {a : Act} {w : World}, wpList P ops Q l a w → wpList P ops Q' l a w
 | [], a, w, h => hq _ _ _ h
 | o :: l, a, w, h => by
  have lets : LetsOut Q → LetsOut Q' := fun ⟨a, w, h⟩ => ⟨a, w, hq _ _ _ h⟩
  unfold wpList at h ⊢
  split
  ·rename_i hw
   rw [if_pos hw] at h
   rcases h with h | ⟨h1, h2⟩
   ·refine .inl ?_
    unfold Oper.wp at h ⊢
    generalize (execOp a.eval o).run P w = r at h ⊢
    cases r with
    | ok nx w' =>
     cases nx <;> simp only [Oper.upon] at h ⊢ <;> first
      | exact wpList_mono hq h
      | exact h.mono (fun e w'' he => by cases e <;> first | exact wpList_mono hq he | exact hq _ _ _ he | exact lets he)
      | exact Rows.mono h (fun _ _ he => wpList_mono hq he)
    | halt y w' => cases y <;> simp only [Oper.upon] at h ⊢ <;> exact hq _ _ _ h
   ·exact .inr ⟨h1, lets h2⟩
  ·rename_i hw
   rw [if_neg hw] at h
   exact wpList_mono hq h
theorem AOps.step (hg : wantedA ops st.env o = some true) (hop : OpOk P n st o.op x st1) (hd : okDst n o.dst = true) (h : AOps P n ops rest Q (st1.put o.dst x)) : AOps P n ops (o :: rest) Q st := fun F bs a w hr => by
 unfold wpList
 rw [if_pos (wantedA_ok hr hg)]
 refine .inl (hop.wp hd hr fun F' bs' a' w' h1 h2 => ?_)
 refine wpList_mono ?_ (h F' bs' a' w' h1)
 rintro e a2 w2 ⟨st2, F2, bs2, h3, h4, h5⟩
 exact ⟨st2, F2, bs2, h3, h4, h2.trans h5⟩
theorem AOps.skip (hg : wantedA ops st.env o = some false) (hd : okDst n o.dst = true) (h : AOps P n ops rest Q (st.put o.dst (.tup []))) : AOps P n ops (o :: rest) Q st := fun F bs a w hr => by
 unfold wpList
 rw [if_neg (by rw [wantedA_ok hr hg]; simp)]
 have h1 := hr.put (x := .tup []) (v := undef) hd (by simp only [VRel, VRels]; exact ⟨#[], rfl, rfl⟩)
 refine wpList_mono ?_ (h F bs _ w h1)
 rintro e a2 w2 ⟨st2, F2, bs2, h3, h4, h5⟩
 refine ⟨st2, F2, bs2, h3, h4, ?_⟩
 cases hdst : o.dst with
 | none => rw [hdst] at h5; exact h5
 | some t => rw [hdst] at h5; exact ⟨h5.le, h5.ev, h5.keeps, h5.owns⟩
theorem AOps.ghost (g : Ghost n st st1) (h : AOps P n ops rest Q st1) : AOps P n ops rest Q st := fun F bs a w hr => by
 obtain ⟨F', bs', h1, h2⟩ := g F bs a w hr
 refine wpList_mono ?_ (h F' bs' a w h1)
 rintro e a' w' ⟨st', F2, bs2, h3, h4, h5⟩
 exact ⟨st', F2, bs2, h3, h4, h2.trans h5⟩
theorem AWp.region {id : Nat} (h : AOps P n ops ops.toList Q st) : AWp P n (.region id ops false) Q st := fun F bs a w hr => wp_region_list (h F bs a w hr)
theorem AWp.cond {c : Operand} {y z : Code} {b : Bool} (hc : evalPV st c = some (.im (.bool b))) (h : AWp P n (if b then y else z) Q st) : AWp P n (.cond c y z) Q st := fun F bs a w hr => by
 have := evalPV_rel hr hc
 simp only [VRel, IRel] at this
 exact wp_cond this (h F bs a w hr)
theorem AWp.cond_any {c : Operand} {y z : Code} (hc : evalPV st c = some .abool) (h : AWp P n y Q st) (k : AWp P n z Q st) : AWp P n (.cond c y z) Q st := fun F bs a w hr => by
 have := evalPV_rel hr hc
 simp only [VRel] at this
 obtain ⟨b, hb⟩ := this
 refine wp_cond hb ?_
 cases b
 ·exact k F bs a w hr
 ·exact h F bs a w hr
end

/-! ### calls -/
def evalsPV (st : ASt) : List Operand → Option (List PV)
 | [] => some []
 | x :: xs => match evalPV st x, evalsPV st xs with
  | some y, some ys => some (y :: ys)
  | _, _ => none
theorem evalsPV_rel {n : Nat} {F : Fz} {bs : Bns} {st : ASt} {a : Act} {w : World} (h : ARel n F bs st a w) : ∀ {xs : List Operand} {ys : List PV}, evalsPV st xs = some ys → VRels F bs st.fr ys (xs.map a.eval)
 | [], ys, hy => by simp only [evalsPV, Option.some.injEq] at hy; subst hy; simp [VRels]
 | x :: xs, ys, hy => by
  simp only [evalsPV] at hy
  split at hy
  ·rename_i y ys' h1 h2
   simp only [Option.some.injEq] at hy
   subst hy
   simp only [VRels, List.map_cons]
   exact ⟨_, _, rfl, evalPV_rel h h1, evalsPV_rel h h2⟩
  ·simp at hy
def bodyB (P : Program) (g : FuncId) : Bool := match P.funcs[g]? with
 | some fn => !(fn.name == "runtime.NumGoroutine") && !fn.body.isNone
 | none => false
theorem run_callFunc_body {g : FuncId} (h : bodyB P g = true) (args : Array Value) (w : World) : (callFunc g args).run P w = .ok (.enter g args) w := by
 unfold bodyB at h
 split at h
 ·rename_i fn hf
  simp only [Bool.and_eq_true, Bool.not_eq_true'] at h
  simp only [callFunc, program, Sem.run_bind, Sem.run, Result.andThen_ok, hf, h.1, h.2, if_false, Bool.false_eq_true]
  rfl
 ·simp at h
theorem AOps.call {n : Nat} {ops : Array Oper} {rest : List Oper} {o : Oper} {Q : Exit → ASt → Prop} {st : ASt} {f : Operand} {args : Array Operand} {ts : Array TypeId} {g : FuncId} {cap xs : List PV}
  (hg : wantedA ops st.env o = some true) (hop : o.op = .call { callee := .value f, args, argTypes := ts }) (hf : evalPV st f = some (.fn g cap)) (hx : evalsPV st args.toList = some xs) (hd : okDst n o.dst = true) (hb : bodyB P g = true)
  {st1 : ASt} (hst : st1 = { st with loc := frzs st.loc (xs ++ cap) }) {ys : List PV} (hy : ys = solids st1.fr (xs ++ cap))
  (h : ACalls P g ys st1.fr fun pv fr' => ∃ l u, fr' = l :: u ∧ AOps P n ops rest Q ((({ st1 with loc := l, up := u } : ASt)).put o.dst pv)) : AOps P n ops (o :: rest) Q st := fun F bs a w hr => by
 unfold wpList
 rw [if_pos (wantedA_ok hr hg)]
 refine .inl ?_
 obtain ⟨F1, bs1, hr1, hs1⟩ := (Ghost.frozen (n := n) (xs ++ cap) (st := st)) F bs a w hr
 rw [← hst] at hr1 hs1
 have e1 : evalPV st1 f = some (.fn g cap) := by rw [hst]; cases f <;> exact hf
 have e2 : evalsPV st1 args.toList = some xs := by
  have : ∀ (l : List Operand) (e : List (Nat × PV)) (l1 l2 : List AObj) (u : Frs), evalsPV ⟨e, l1, u⟩ l = evalsPV ⟨e, l2, u⟩ l := by
   intro l e l1 l2 u
   induction l with
   | nil => rfl
   | cons x l ih =>
    have hx : evalPV ⟨e, l1, u⟩ x = evalPV ⟨e, l2, u⟩ x := by cases x <;> rfl
    simp only [evalsPV, ih, hx]
  rw [hst, ← hx]
  exact this _ _ _ _ _
 have hfv := evalPV_rel hr1 e1
 simp only [VRel] at hfv
 obtain ⟨cv, hfv, hcap⟩ := hfv
 have hargs := evalsPV_rel hr1 e2
 have hall : VRels F1 bs1 st1.fr ys ((args.map a.eval) ++ cv).toList := by
  rw [hy]
  refine VRels.solid hr1.mem ?_
  simp only [Array.toList_append, Array.toList_map]
  exact hargs.append hcap
 have hcalls := h F1 bs1 w _ hr1.mem hall
 have hrun : (execOp a.eval o).run P w = .ok (.enter g ((args.map a.eval) ++ cv)) w := by
  simp only [execOp, hop, resolve, hfv, Deferred.ofValue, Sem.run_bind, Sem.run_pure, Result.andThen_ok, invoke, Array.empty_append]
  exact run_callFunc_body hb _ w
 unfold Oper.wp
 rw [hrun]
 refine hcalls.mono ?_
 rintro e w' ⟨v, pv, F', bs', up', rfl, ⟨l, u, rfl, h2⟩, h3, h4, h5⟩
 obtain ⟨h6, h7⟩ := hr1.step (st1 := { st1 with loc := l, up := u }) h3 h5 rfl
 have hp := h6.put (x := pv) (v := v) hd h4
 refine wpList_mono ?_ (h2 F' bs' _ w' hp)
 rintro e a2 w2 ⟨st2, F2, bs2, h8, h9, h10⟩
 refine ⟨st2, F2, bs2, h8, h9, ?_⟩
 refine (hs1.trans h7).trans ?_
 cases hdst : o.dst with
 | none => rw [hdst] at h10; exact h10
 | some t => rw [hdst] at h10; exact ⟨h10.le, h10.ev, h10.keeps, h10.owns⟩

/-! ### functions -/
def resPV (P : Program) (st : ASt) : ResultVar → Option PV
 | .tmp t => eget st.env t
 | .cell a t => match eget st.env a with
  | some p => loadPV P st.fr t p
  | none => none
def ressPV (P : Program) (st : ASt) : List ResultVar → Option (List PV)
 | [] => some []
 | x :: xs => match resPV P st x, ressPV P st xs with
  | some y, some ys => some (y :: ys)
  | _, _ => none
def oneOrTup : List PV → PV
 | [x] => x
 | xs => .tup xs
def resRun (tmps : Array Value) : ResultVar → Sem Value
 | .tmp t => pure (tmps.getD t undef)
 | .cell q t => do loadVar t (← asAddr (tmps.getD q undef))
theorem res_ok {n : Nat} {F : Fz} {bs : Bns} {st : ASt} {a : Act} {w : World} (h : ARel n F bs st a w) {r : ResultVar} {x : PV} (hx : resPV P st r = some x) :
  ∃ v, (resRun a.tmps r).run P w = .ok v w ∧ VRel F bs st.fr x v := by
 cases r with
 | tmp t => exact ⟨_, rfl, (h.env t x hx).2⟩
 | cell q t =>
  simp only [resPV] at hx
  split at hx
  ·rename_i p hp
   have hv := (h.env q p hp).2
   obtain ⟨u, h1, h2⟩ := load_ok h.mem hv hx
   refine ⟨u, ?_, h2⟩
   have hptr : ∃ ad, a.tmps.getD q undef = .pointer (some ad) := by
    cases p <;> simp only [loadPV, reduceCtorEq] at hx <;> simp only [VRel] at hv
    ·obtain ⟨b, k, cs, _, _, e⟩ := hv; exact ⟨_, e⟩
    ·obtain ⟨p, t, sz, rows, fz, a, e, _⟩ := hv; exact ⟨_, e⟩
    ·obtain ⟨b, o, e, _⟩ := hv; exact ⟨_, e⟩
    ·obtain ⟨p, t, g', cs, a, e, _⟩ := hv; exact ⟨_, e⟩
   obtain ⟨ad, had⟩ := hptr
   rw [had] at h1
   simp only [resRun, had]
   simpa [Instr.loadAt, Instr.sureAddr, asAddr] using h1
  ·simp at hx
theorem run_mapM_list {α : Type} (f : α → Sem Value) (w : World) : ∀ (xs : List α) (vs : List Value), vs.length = xs.length → (∀ (i : Nat) (x : α) (v : Value), xs[i]? = some x → vs[i]? = some v → (f x).run P w = .ok v w) → (xs.mapM f).run P w = .ok vs w
 | [], vs, hl, h => by
  have : vs = [] := List.eq_nil_of_length_eq_zero (by simpa using hl)
  subst this
  simp
 | x :: xs, vs, hl, h => by
  cases vs with
  | nil => simp at hl
  | cons v vs =>
   have h0 := h 0 x v rfl rfl
   have ih := run_mapM_list f w xs vs (by simpa using hl) (fun i y u hy hu => h (i + 1) y u (by simpa using hy) (by simpa using hu))
   simp [List.mapM_cons, h0, ih]
theorem results_ok {n : Nat} {F : Fz} {bs : Bns} {st : ASt} {a : Act} {w : World} (h : ARel n F bs st a w) {fn : Func} {xs : List PV} (hx : ressPV P st fn.results.toList = some xs) :
  ∃ v, (results fn a.tmps).run P w = .ok v w ∧ VRel F bs st.fr (oneOrTup xs) v := by
 have key : ∀ (rs : List ResultVar) (xs : List PV), ressPV P st rs = some xs → ∃ vs : List Value, vs.length = rs.length ∧ VRels F bs st.fr xs vs ∧ ∀ (i : Nat) (r : ResultVar) (v : Value), rs[i]? = some r → vs[i]? = some v →
   (resRun a.tmps r).run P w = .ok v w := by
  intro rs
  induction rs with
  | nil => intro xs hx; simp only [ressPV, Option.some.injEq] at hx; subst hx; exact ⟨[], rfl, by simp [VRels], fun i r v h1 _ => by simp at h1⟩
  | cons r rs ih =>
   intro xs hx
   simp only [ressPV] at hx
   split at hx
   ·rename_i y ys h1 h2
    simp only [Option.some.injEq] at hx
    subst hx
    obtain ⟨v, h3, h4⟩ := res_ok h h1
    obtain ⟨vs, h5, h6, h7⟩ := ih ys h2
    refine ⟨v :: vs, by simp [h5], by simp only [VRels]; exact ⟨v, vs, rfl, h4, h6⟩, fun i r' v' hr hv => ?_⟩
    cases i with
    | zero => simp at hr hv; subst hr hv; exact h3
    | succ i => exact h7 i r' v' (by simpa using hr) (by simpa using hv)
   ·simp at hx
 obtain ⟨vs, h1, h2, h3⟩ := key _ _ hx
 have hmap := run_mapM_list (P := P) (resRun a.tmps) w fn.results.toList vs h1 h3
 have hl := h2.length
 have hrun : (results fn a.tmps).run P w = .ok (if h : vs.toArray.size = 1 then vs.toArray[0] else .tuple vs.toArray) w := by
  have e : results fn a.tmps = ((fn.results.mapM (resRun a.tmps)) >>= fun vs => pure (if h : vs.size = 1 then vs[0] else .tuple vs)) := by
   unfold results
   congr 2
  rw [e, Array.mapM_eq_mapM_toList]
  simp only [Sem.run_bind, map_eq_pure_bind, hmap, Result.andThen_ok, Sem.run_pure]
 refine ⟨_, hrun, ?_⟩
 match xs, vs, h2, hl with
 | [], vs, h2, hl =>
  have : vs = [] := List.eq_nil_of_length_eq_zero (by simpa using hl)
  subst this
  simp [oneOrTup, VRel, VRels]
 | [x], vs, h2, hl =>
  simp only [VRels] at h2
  obtain ⟨v, vs', rfl, h4, rfl⟩ := h2
  simpa [oneOrTup] using h4
 | x :: y :: zs, vs, h2, hl =>
  have : ¬ vs.toArray.size = 1 := by simp at hl ⊢; omega
  rw [dif_neg this]
  simp only [oneOrTup, VRel]
  exact ⟨_, rfl, by simpa using h2⟩
def argEnv : Nat → List PV → List (Nat × PV)
 | _, [] => []
 | k, x :: xs => (k, x) :: argEnv (k + 1) xs
theorem eget_argEnv : ∀ (xs : List PV) (k t : Nat) (v : PV), eget (argEnv k xs) t = some v → k ≤ t ∧ xs[t - k]? = some v
 | [], k, t, v, h => by simp [argEnv, eget] at h
 | x :: xs, k, t, v, h => by
  simp only [argEnv, eget] at h
  split at h
  ·rename_i e; subst e; simp at h; subst h; simp
  ·rename_i e
   obtain ⟨h1, h2⟩ := eget_argEnv xs (k + 1) t v h
   refine ⟨by omega, ?_⟩
   rw [show t - k = (t - (k + 1)) + 1 by omega, List.getElem?_cons_succ]
   exact h2
def RetQ (P : Program) (n : Nat) (rs : List ResultVar) (R : PV → Frs → Prop) (e : Exit) (st : ASt) : Prop :=
 (e = .normal ∨ e = .ret) ∧ ∃ xs, ressPV P st rs = some xs ∧ ∃ y, ((oneOrTup xs).solid (frzs st.loc [oneOrTup xs] :: st.up)).down = some y ∧ R y st.up
theorem ACalls.body {f : FuncId} {fn : Func} {c : Code} {args : List PV} {up : Frs} {R : PV → Frs → Prop} (hf : P.funcs[f]? = some fn) (hb : fn.body = some c) (hn : args.length ≤ fn.ntmps)
  (h : AWp P fn.ntmps c (RetQ P fn.ntmps fn.results.toList R) ⟨argEnv 0 (ups args), [], up⟩) : ACalls P f args up R := fun F bs w vs hm hv => by
 refine calls_of_wp hf hb ?_
 have hvl := hv.length
 simp only [Array.length_toList] at hvl
 have hups : ∀ (l : List PV), (ups l).length = l.length := by intro l; induction l with | nil => rfl | cons x l ih => simp [ups, ih]
 have hm0 : MRel F ([] :: bs) ([] :: up) w := by
  refine ⟨by simp [hm.shape], fun d j o a h1 h2 => ?_, fun d j d' j' b h1 h2 => ?_, hm.fz⟩
  ·cases d with
   | zero => simp at h1
   | succ d => simpa using hm.obj d j o a (by simpa using h1) (by simpa using h2)
  ·cases d with
   | zero => obtain ⟨o, k, h3, _⟩ := h1; simp at h3
   | succ d =>
    cases d' with
    | zero => obtain ⟨o, k, h3, _⟩ := h2; simp at h3
    | succ d' =>
     have := hm.inj d j d' j' b h1.pred h2.pred
     exact ⟨by omega, this.2⟩
 have hr : ARel fn.ntmps F ([] :: bs) ⟨argEnv 0 (ups args), [], up⟩ { tmps := vs ++ Array.replicate (fn.ntmps - vs.size) undef, defers := [] } w := by
  refine ⟨hm0, by simp; omega, fun t x hx => ?_, rfl⟩
  obtain ⟨_, h2⟩ := eget_argEnv _ _ _ _ hx
  simp only [Nat.sub_zero] at h2
  have hlt := (List.getElem?_eq_some_iff.1 h2).1
  rw [hups] at hlt
  refine ⟨by omega, ?_⟩
  have hu := VRels.up (b := []) (f := []) hv
  obtain ⟨v, h3, h4⟩ := hu.get t x h2
  have hg : (vs ++ Array.replicate (fn.ntmps - vs.size) undef).getD t undef = v := by
   rw [Array.getD_eq_getD_getElem?, Array.getElem?_append_left (by omega)]
   have : vs[t]? = some v := by simpa using h3
   simp [this]
  rw [hg]
  exact h4
 refine wp_mono (h F _ _ w hr) ?_
 rintro e a' w' ⟨st', F', bs', ⟨he, xs, hxs, y, hy, hR⟩, hr', hs⟩
 obtain ⟨F2, hm2, hc2⟩ := frzs_ok (u := st'.up) (w := w') [oneOrTup xs] (l := st'.loc) hr'.mem
 obtain ⟨v, hv1, hv2⟩ := results_ok hr' hxs
 have hv3 := VRel.move hc2.le hc2.ev hv2
 have hsol := VRel.solid hm2 hv3
 have hsh := hm2.shape
 have hdef : a'.defers = [] := hr'.defers
 cases bs' with
 | nil => simp at hsh
 | cons b0 bs' =>
  have hfin : (fun e w' => ∃ v pv F' bs' up', e = Ending.returned v ∧ R pv up' ∧ MRel F' bs' up' w' ∧ VRel F' bs' up' pv v ∧ CStep F bs up w F' bs' up' w') (.returned v) w' := by
   refine ⟨v, y, F2, bs', st'.up, rfl, hR, ?_, VRel.down hy hsol, ?_⟩
   ·simp only [List.map_cons, List.cons.injEq] at hsh
    refine ⟨hsh.2, fun d j o a h1 h2 => by simpa using hm2.obj (d + 1) j o a (by simpa using h1) (by simpa using h2), fun d j d' j' b h1 h2 => ?_, hm2.fz⟩
    have := hm2.inj (d + 1) j (d' + 1) j' b h1.succ h2.succ
    exact ⟨by omega, this.2⟩
   ·have hk : Keeps bs up w w' := ⟨hs.keeps.os, hs.keeps.tape, hs.keeps.output, hs.keeps.size, fun b hb hno => hs.keeps.block b hb fun d j ho => by
     cases d with
     | zero => obtain ⟨o, k, h3, _⟩ := ho; simp [ASt.fr] at h3
     | succ d => exact hno d j ho.pred⟩
    refine ⟨Fz.le_trans hs.le hc2.le, (Evolve.trans hs.ev (Evolve.tail hc2.ev)), hk, fun d j b ho => ?_⟩
    rcases hc2.owns (d + 1) j b ho.succ with ⟨d1, j1, h1⟩ | h1
    ·rcases hs.owns d1 j1 b h1 with ⟨d0, j0, h0⟩ | h0
     ·cases d0 with
      | zero => obtain ⟨o, k, h3, _⟩ := h0; simp [ASt.fr] at h3
      | succ d0 => exact .inl ⟨d0, j0, h0.pred⟩
     ·exact .inr h0
    ·have := hs.keeps.size
     exact .inr (by omega)
  rcases he with rfl | rfl
  ·exact ⟨hdef, v, hv1, hfin⟩
  ·exact ⟨hdef, v, hv1, hfin⟩
end Go.Proofs.YtkjfdacjjogpcaaPi

