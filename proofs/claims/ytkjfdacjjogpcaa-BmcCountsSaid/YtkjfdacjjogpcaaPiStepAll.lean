/- The list of all plain operations of the abstract program logic. No Go text in it. -/
import Derived.Test.YtkjfdacjjogpcaaPiAll
set_option linter.unusedVariables false
set_option linter.unusedSimpArgs false
namespace Go.Proofs.YtkjfdacjjogpcaaPi
variable {P : Program}

def placesT (P : Program) (t : TypeId) : Option (List (Nat × Nat)) := match P.underlying t with
 | some (.struct fs) => fs.toList.mapM fun f => (sizeT P f.type).map fun n => (f.offset, n)
 | _ => none
theorem run_mapM_of {α β : Type} (f : α → Sem β) (g : α → Option β) (w : World) (h : ∀ x y, g x = some y → (f x).run P w = .ok y w) : ∀ (xs : List α) (ys : List β), xs.mapM g = some ys → (xs.mapM f).run P w = .ok ys w
 | [], ys, hy => by
  simp only [List.mapM_nil] at hy
  cases hy
  simp
 | x :: xs, ys, hy => by
  simp only [List.mapM_cons, Option.bind_eq_bind, Option.bind_eq_some_iff] at hy
  obtain ⟨y, h1, zs, h2, h3⟩ := hy
  cases h3
  simp [List.mapM_cons, h x y h1, run_mapM_of f g w h xs zs h2]
def buildPV (P : Program) (t : TypeId) (ps : List (Nat × PV)) : Option PV :=
 match zeroT P t with
 | some z => match placesT P t with
  | some pl => (fillPV (pl[·]?) z ps).map .agg
  | none => match arrT P t with
   | some (_, e) => match sizeT P e with
    | some sz => (fillPV (fun i => some (i * sz, sz)) z ps).map .agg
    | none => none
   | none => none
 | none => none
theorem build_ok {n : Nat} {F : Fz} {bs : Bns} {st : ASt} {a : Act} {w : World} {t : TypeId} {ps : List (Nat × Operand)} {ys : List (Nat × PV)} {z : PV} (h : ARel n F bs st a w) (he : evalParts st ps = some ys) (hk : buildPV P t ys = some z) :
  ∃ v, (Instr.build t (ps.map fun (i, x) => (i, a.eval x)).toArray).run P w = .ok v w ∧ VRel F bs st.fr z v := by
 unfold buildPV at hk
 split at hk
 ·rename_i zs hz
  obtain ⟨zv, hzr, hzv, i, hi, hiz⟩ := zeroT_run hz w
  obtain ⟨p1, p2⟩ := evalParts_ok h he
  split at hk
  ·rename_i pl hpl
   simp only [Option.map_eq_some_iff] at hk
   obtain ⟨out, hfill, rfl⟩ := hk
   unfold placesT at hpl
   split at hpl
   ·rename_i fs hu
    obtain ⟨arr', h1, h2⟩ := fill_ok hfill p1 p2 (hzv F bs st.fr)
    have hrun := run_mapM_of (P := P) (fun f : Field => (do pure (f.offset, ← sizeOf f.type) : Sem (Nat × Nat))) _ w (fun x y hxy => by
     simp only [Option.map_eq_some_iff] at hxy
     obtain ⟨m, hm, rfl⟩ := hxy
     simp [run_sizeT hm]) _ _ hpl
    have hpl2 : (fun i : Nat => pl.toArray[i]?) = (fun i : Nat => pl[i]?) := by funext i; simp
    refine ⟨_, ?_, by simp only [VRel]; exact ⟨arr', rfl, h2⟩⟩
    simp only [Instr.build, Sem.run_bind, hzr, Result.andThen_ok, run_underlying hu, Array.mapM_eq_mapM_toList, map_eq_pure_bind, hrun, Sem.run_pure, hpl2, List.toList_toArray, h1]
   ·simp at hpl
  ·split at hk
   ·rename_i len e har
    split at hk
    ·rename_i sz hs
     simp only [Option.map_eq_some_iff] at hk
     obtain ⟨out, hfill, rfl⟩ := hk
     obtain ⟨arr', h1, h2⟩ := fill_ok hfill p1 p2 (hzv F bs st.fr)
     refine ⟨_, ?_, by simp only [VRel]; exact ⟨arr', rfl, h2⟩⟩
     simp only [Instr.build, Sem.run_bind, hzr, Result.andThen_ok, run_underlying (arrT_some har), run_sizeT hs, List.toList_toArray, h1, Sem.run_pure]
    ·simp at hk
   ·simp at hk
 ·simp at hk
def extractPV (x : PV) (i : Nat) : Option PV := match x with
 | .tup xs => xs[i]?
 | _ => none
theorem extract_ok {x z : PV} {i : Nat} {F : Fz} {bs : Bns} {fr : Frs} {vx : Value} (h : extractPV x i = some z) (hx : VRel F bs fr x vx) (w : World) : ∃ v, (Instr.extract vx i).run P w = .ok v w ∧ VRel F bs fr z v := by
 unfold extractPV at h
 split at h
 ·simp only [VRel] at hx
  obtain ⟨vs, rfl, h2⟩ := hx
  obtain ⟨v, h3, h4⟩ := h2.get i z h
  have h5 : vs[i]? = some v := by simpa using h3
  exact ⟨v, by simp [Instr.extract, h5], h4⟩
 ·simp at h
def indexPV (P : Program) (T : TypeId) (x i : PV) : Option PV := match x, i with
 | .im (.str s), .im (.int _ k) => if stringT P T then (if 0 ≤ k then (match s[k.toNat]? with
   | some b => some (.im (.int .u8 b.toNat))
   | none => none) else none) else none
 | .agg cs, .im (.int _ k) => match arrT P T with
  | some (len, e) => match sizeT P e, aggT P e with
   | some 1, some false => if 0 ≤ k ∧ k < (len : Int) then cs[k.toNat]? else none
   | _, _ => none
  | none => none
 | _, _ => none
theorem index_ok {T : TypeId} {x i z : PV} {F : Fz} {bs : Bns} {fr : Frs} {vx vi : Value} (h : indexPV P T x i = some z) (hx : VRel F bs fr x vx) (hi : VRel F bs fr i vi) (w : World) : ∃ v, (Instr.index T vx vi).run P w = .ok v w ∧ VRel F bs fr z v := by
 unfold indexPV at h
 split at h
 ·rename_i s k kk
  simp only [VRel, IRel] at hx hi
  subst hx hi
  split at h
  ·rename_i ht
   split at h
   ·rename_i h0
    split at h
    ·rename_i b hb
     simp only [Option.some.injEq] at h
     subst h
     exact ⟨_, by simp only [Instr.index, asIntOf, Sem.run_bind, Sem.run_pure, Result.andThen_ok, run_underlying (stringT_some ht), h0, if_true, hb]; rfl, by simp [VRel, IRel]⟩
    ·simp at h
   ·simp at h
  ·simp at h
 ·rename_i cs k kk
  simp only [VRel, IRel] at hx hi
  obtain ⟨vs, rfl, h2⟩ := hx
  subst hi
  split at h
  ·rename_i len e har
   split at h
   ·rename_i hs hg
    split at h
    ·rename_i hc
     obtain ⟨v, h3, h4⟩ := h2.get _ z h
     have h5 : vs[kk.toNat]? = some v := by simpa using h3
     exact ⟨v, by simp [Instr.index, asIntOf, run_underlying (arrT_some har), hc.1, hc.2, run_sizeT hs, part, run_aggT hg, h5], h4⟩
    ·simp at h
   ·simp at h
  ·simp at h
 ·simp at h

def stepV (P : Program) (st : ASt) : Op → Option (PV × ASt)
 | .move x | .assign x => (evalPV st x).map fun v => (v, st)
 | .pick c a b => match evalPV st c with
  | some (.im (.bool true)) => (evalPV st a).map fun v => (v, st)
  | some (.im (.bool false)) => (evalPV st b).map fun v => (v, st)
  | _ => none
 | .alloc t => allocV P st t
 | .box _ x => (evalPV st x).bind (boxV st)
 | .build t ps => (evalParts st ps.toList).bind fun ys => (buildPV P t ys).map fun v => (v, st)
 | .buildSlice t n ps => (evalParts st ps.toList).bind fun ys => litV P st t n ys
 | .load t x => (evalPV st x).bind fun v => (loadPV P st.fr t v).map fun u => (u, st)
 | .store t x y => match evalPV st x, evalPV st y with
  | some u, some v => (storePV P st.fr t u v).bind fun fr => match fr with
   | [] => none
   | l :: up => some (.any, { st with loc := l, up := up })
  | _, _ => none
 | .nilCheck x => match evalPV st x with
  | some (.ptr d j o) => some (.ptr d j o, st)
  | some (.rptr d j n i o) => some (.rptr d j n i o, st)
  | some (.iptr cs) => some (.iptr cs, st)
  | _ => none
 | .binOp op t x y _ => match evalPV st x, evalPV st y with
  | some u, some v => (binPV P op t u v).map fun z => (z, st)
  | _, _ => none
 | .unOp op _ x => (evalPV st x).bind fun u => (unPV op u).map fun z => (z, st)
 | .convert s t x => (evalPV st x).bind fun u => (convPV P s t u).map fun z => (z, st)
 | .makeFunc (.func f) first cap => if first.size = 0 then (evalsPV st cap.toList).map fun cs => (.fn f cs, st) else none
 | .makeSlice t l c => match evalPV st l, evalPV st c with
  | some u, some v => makeV P st t u v
  | _, _ => none
 | .slice t x lo hi mx => match evalPV st x with
  | some u => match evalsPV st lo.toList, evalsPV st hi.toList, evalsPV st mx.toList with
   | some a, some b, some c => (slicePV P t (u.solid st.fr) a.head? b.head? c.head?).map fun z => (z, st)
   | _, _, _ => none
  | none => none
 | .fieldAddr s x f => (evalPV st x).bind fun u => (fieldAddrPV P s f u).map fun z => (z, st)
 | .indexAddr t x i => match evalPV st x, evalPV st i with
  | some u, some v => (indexAddrPV P st.fr t u v).map fun z => (z, st)
  | _, _ => none
 | .index t x i => match evalPV st x, evalPV st i with
  | some u, some v => (indexPV P t u v).map fun z => (z, st)
  | _, _ => none
 | .extract x i => (evalPV st x).bind fun u => (extractPV u i).map fun z => (z, st)
 | .call { callee := .builtin .len, args, argTypes } => match args.toList, argTypes.toList with
  | [x], [t] => (evalPV st x).bind fun u => (lenPV P t u).map fun z => (z, st)
  | _, _ => none
 | .call { callee := .builtin .min, args, .. } => match evalsPV st args.toList with
  | some (x :: ys) => (foldPV min2PV x ys).map fun z => (z, st)
  | _ => none
 | .call { callee := .builtin .max, args, .. } => match evalsPV st args.toList with
  | some (x :: ys) => (foldPV max2PV x ys).map fun z => (z, st)
  | _ => none
 | .call { callee := .builtin .append, args, argTypes } => match args.toList, argTypes.toList with
  | [s, x], [t, t'] => if t = t' then (match evalPV st s, evalPV st x with
   | some u, some v => appendV P st t u v
   | _, _ => none) else none
  | _, _ => none
 | _ => none

theorem keep_ok {n : Nat} {F : Fz} {bs : Bns} {st : ASt} {a : Act} {w : World} {o : Oper} {z : PV} {op : Op} (h : ARel n F bs st a w) (ho : o.op = op) (v : Value) (hr : (execOp a.eval { o with op := op }).run P w = .ok (.value v) w) (hv : VRel F bs st.fr z v) :
  ∃ r v w' F' bs', (execOp a.eval o).run P w = .ok r w' ∧ (r = .value v ∨ r = .skip ∧ v = undef) ∧ MRel F' bs' st.fr w' ∧ CStep F bs st.fr w F' bs' st.fr w' ∧ VRel F' bs' st.fr z v ∧ st.env = st.env := by
 subst ho
 exact ⟨_, v, w, F, bs, hr, .inl rfl, h.mem, .refl _ _ _ _, hv, rfl⟩
theorem stepV_ok {n : Nat} {st st1 : ASt} {op : Op} {z : PV} (hk : stepV P st op = some (z, st1)) : OpOk P n st op z st1 := fun F bs a w hr o ho => by
 unfold stepV at hk
 split at hk
 ·-- move
  simp only [Option.map_eq_some_iff, Prod.mk.injEq] at hk
  obtain ⟨v, h1, rfl, rfl⟩ := hk
  exact keep_ok hr ho _ rfl (evalPV_rel hr h1)
 ·simp only [Option.map_eq_some_iff, Prod.mk.injEq] at hk
  obtain ⟨v, h1, rfl, rfl⟩ := hk
  exact keep_ok hr ho _ rfl (evalPV_rel hr h1)
 ·-- pick
  rename_i c x y
  split at hk
  ·rename_i hc
   simp only [Option.map_eq_some_iff, Prod.mk.injEq] at hk
   obtain ⟨v, h1, rfl, rfl⟩ := hk
   have := evalPV_rel hr hc
   simp only [VRel, IRel] at this
   exact keep_ok hr ho _ (by simp [execOp, this, asBool]) (evalPV_rel hr h1)
  ·rename_i hc
   simp only [Option.map_eq_some_iff, Prod.mk.injEq] at hk
   obtain ⟨v, h1, rfl, rfl⟩ := hk
   have := evalPV_rel hr hc
   simp only [VRel, IRel] at this
   exact keep_ok hr ho _ (by simp [execOp, this, asBool]) (evalPV_rel hr h1)
  ·simp at hk
 ·-- alloc
  obtain ⟨v, w', bs', h1, h2, h3, h4⟩ := alloc_ok hr hk (.tuple #[])
  refine ⟨_, v, w', F, bs', by simp [execOp, ho, h1], .inl rfl, h2, h3, h4, ?_⟩
  simp only [allocV, Option.map_eq_some_iff, Prod.mk.injEq] at hk
  obtain ⟨_, _, _, rfl⟩ := hk
  rfl
 ·-- box
  rename_i t x
  simp only [Option.bind_eq_some_iff] at hk
  obtain ⟨v, hv, hk⟩ := hk
  obtain ⟨v, w', bs', h1, h2, h3, h4⟩ := boxV_ok (P := P) (t := t) hr (evalPV_rel hr hv) hk
  refine ⟨_, v, w', F, bs', by simp [execOp, ho, h1], .inl rfl, h2, h3, h4, ?_⟩
  simp only [boxV, Option.map_eq_some_iff, Prod.mk.injEq] at hk
  obtain ⟨_, _, _, rfl⟩ := hk
  rfl
 ·-- build
  simp only [Option.bind_eq_some_iff, Option.map_eq_some_iff, Prod.mk.injEq] at hk
  obtain ⟨ys, h1, v, h2, rfl, rfl⟩ := hk
  obtain ⟨u, h3, h4⟩ := build_ok hr h1 h2
  refine keep_ok hr ho u ?_ h4
  rename_i t ps
  have e : ps.map (fun (i, x) => (i, a.eval x)) = (ps.toList.map fun (i, x) => (i, a.eval x)).toArray := by apply Array.ext'; simp
  simp only [execOp, e, Sem.run_bind, h3, Result.andThen_ok, Sem.run_pure]
 ·-- buildSlice
  simp only [Option.bind_eq_some_iff] at hk
  obtain ⟨ys, h1, hk⟩ := hk
  obtain ⟨v, w', bs', h2, h3, h4, h5⟩ := litV_ok hr h1 hk
  rename_i t m ps
  have e : ps.map (fun (i, x) => (i, a.eval x)) = (ps.toList.map fun (i, x) => (i, a.eval x)).toArray := by apply Array.ext'; simp
  refine ⟨_, v, w', F, bs', by simp only [execOp, ho, e, Sem.run_bind, h2, Result.andThen_ok, Sem.run_pure], .inl rfl, h3, h4, h5, ?_⟩
  unfold litV at hk
  split at hk
  ·split at hk
   ·split at hk
    ·split at hk
     ·split at hk
      ·simp only [Option.some.injEq, Prod.mk.injEq] at hk
       obtain ⟨_, rfl⟩ := hk
       rfl
      ·simp at hk
     ·simp at hk
    ·simp at hk
   ·simp at hk
  ·simp at hk
 ·-- load
  simp only [Option.bind_eq_some_iff, Option.map_eq_some_iff, Prod.mk.injEq] at hk
  obtain ⟨v, h1, u, h2, rfl, rfl⟩ := hk
  obtain ⟨x, h3, h4⟩ := load_ok hr.mem (evalPV_rel hr h1) h2
  exact keep_ok hr ho x (by simp [execOp, h3]) h4
 ·-- store
  split at hk
  ·rename_i u v hu hv
   simp only [Option.bind_eq_some_iff] at hk
   obtain ⟨fr, h1, hk⟩ := hk
   split at hk
   ·simp at hk
   ·rename_i l up
    simp only [Option.some.injEq, Prod.mk.injEq] at hk
    obtain ⟨rfl, rfl⟩ := hk
    obtain ⟨w', bs', h2, h3, h4⟩ := store_ok hr.mem (evalPV_rel hr hu) (evalPV_rel hr hv) h1
    exact ⟨_, undef, w', F, bs', by simp [execOp, ho, h2], .inr ⟨rfl, rfl⟩, h3, h4, by simp only [VRel], rfl⟩
  ·simp at hk
 ·-- nilCheck
  rename_i x
  split at hk
  ·rename_i d j q hx
   simp only [Option.some.injEq, Prod.mk.injEq] at hk
   obtain ⟨rfl, rfl⟩ := hk
   have hv := evalPV_rel hr hx
   have hv2 := hv
   simp only [VRel] at hv2
   obtain ⟨b, k, cs, _, _, e⟩ := hv2
   exact keep_ok hr ho (a.eval x) (by simp [execOp, e]) hv
  ·rename_i d j m i q hx
   simp only [Option.some.injEq, Prod.mk.injEq] at hk
   obtain ⟨rfl, rfl⟩ := hk
   have hv := evalPV_rel hr hx
   have hv2 := hv
   simp only [VRel] at hv2
   obtain ⟨p, t, sz, rows, fz, b, e, _⟩ := hv2
   exact keep_ok hr ho (a.eval x) (by simp [execOp, e]) hv
  ·rename_i cs hx
   simp only [Option.some.injEq, Prod.mk.injEq] at hk
   obtain ⟨rfl, rfl⟩ := hk
   have hv := evalPV_rel hr hx
   have hv2 := hv
   simp only [VRel] at hv2
   obtain ⟨b, q, e, _⟩ := hv2
   exact keep_ok hr ho (a.eval x) (by simp [execOp, e]) hv
  ·simp at hk
 ·-- binOp
  rename_i op t x y ty
  split at hk
  ·rename_i u v hu hv
   simp only [Option.map_eq_some_iff, Prod.mk.injEq] at hk
   obtain ⟨z', h1, rfl, rfl⟩ := hk
   obtain ⟨r, h2, h3⟩ := bin_ok (P := P) x y h1 (evalPV_rel hr hu) (evalPV_rel hr hv) w
   refine keep_ok hr ho r ?_ h3
   simp only [execOp]
   rw [Sem.run_bind, h2]
   rfl
  ·simp at hk
 ·-- unOp
  simp only [Option.bind_eq_some_iff, Option.map_eq_some_iff, Prod.mk.injEq] at hk
  obtain ⟨v, h1, u, h2, rfl, rfl⟩ := hk
  obtain ⟨x, h3, h4⟩ := un_ok (P := P) h2 (evalPV_rel hr h1) w
  exact keep_ok hr ho x (by simp [execOp, h3]) h4
 ·-- convert
  simp only [Option.bind_eq_some_iff, Option.map_eq_some_iff, Prod.mk.injEq] at hk
  obtain ⟨v, h1, u, h2, rfl, rfl⟩ := hk
  obtain ⟨x, h3, h4⟩ := conv_ok (P := P) h2 (evalPV_rel hr h1) w
  exact keep_ok hr ho x (by simp [execOp, h3]) h4
 ·-- makeFunc
  rename_i f first cap
  split at hk
  ·rename_i h0
   simp only [Option.map_eq_some_iff, Prod.mk.injEq] at hk
   obtain ⟨cs, h1, rfl, rfl⟩ := hk
   have hf : first = #[] := Array.eq_empty_of_size_eq_zero h0
   subst hf
   refine keep_ok hr ho (.func (.func f) #[] (cap.map a.eval)) (by simp [execOp, Instr.makeFunc]) ?_
   simp only [VRel]
   exact ⟨_, rfl, by simpa using evalsPV_rel hr h1⟩
  ·simp at hk
 ·-- makeSlice
  split at hk
  ·rename_i u v hu hv
   obtain ⟨x, w', bs', h1, h2, h3, h4⟩ := makeV_ok hr (evalPV_rel hr hu) (evalPV_rel hr hv) hk
   refine ⟨_, x, w', F, bs', by simp [execOp, ho, h1], .inl rfl, h2, h3, h4, ?_⟩
   unfold makeV at hk
   split at hk
   ·split at hk
    ·split at hk
     ·split at hk
      ·simp only [Option.some.injEq, Prod.mk.injEq] at hk
       obtain ⟨_, rfl⟩ := hk
       rfl
      ·simp at hk
     ·simp at hk
    ·simp at hk
   ·simp at hk
  ·simp at hk
 ·-- slice
  rename_i t x lo hi mx
  split at hk
  ·rename_i u hu
   split at hk
   ·rename_i xa xb xc ha hb hc
    simp only [Option.map_eq_some_iff, Prod.mk.injEq] at hk
    obtain ⟨z', h1, rfl, rfl⟩ := hk
    have opt : ∀ (p : Option Operand) (xs : List PV), evalsPV st p.toList = some xs → optRel F bs st.fr xs.head? (p.map a.eval) := by
     intro p xs hp
     cases p with
     | none => simp only [Option.toList_none, evalsPV, Option.some.injEq] at hp; subst hp; trivial
     | some q =>
      have hq := evalsPV_rel hr hp
      simp only [Option.toList_some, List.map_cons, List.map_nil] at hq
      cases xs with
      | nil => simp [VRels] at hq
      | cons y ys =>
       simp only [VRels, List.cons.injEq] at hq
       obtain ⟨v, vs, ⟨rfl, rfl⟩, h2, _⟩ := hq
       exact h2
    obtain ⟨v, h2, h3⟩ := slice_ok (w := w) h1 (VRel.solid hr.mem (evalPV_rel hr hu)) (opt lo xa ha) (opt hi xb hb) (opt mx xc hc)
    exact keep_ok hr ho v (by simp [execOp, h2]) h3
   ·simp at hk
  ·simp at hk
 ·-- fieldAddr
  simp only [Option.bind_eq_some_iff, Option.map_eq_some_iff, Prod.mk.injEq] at hk
  obtain ⟨v, h1, u, h2, rfl, rfl⟩ := hk
  obtain ⟨x, h3, h4⟩ := fieldAddr_ok (P := P) h2 (evalPV_rel hr h1) w
  exact keep_ok hr ho x (by simp [execOp, h3]) h4
 ·-- indexAddr
  split at hk
  ·rename_i u v hu hv
   simp only [Option.map_eq_some_iff, Prod.mk.injEq] at hk
   obtain ⟨z', h1, rfl, rfl⟩ := hk
   obtain ⟨x, h3, h4⟩ := indexAddr_ok (P := P) hr.mem h1 (evalPV_rel hr hu) (evalPV_rel hr hv)
   exact keep_ok hr ho x (by simp [execOp, h3]) h4
  ·simp at hk
 ·-- index
  split at hk
  ·rename_i u v hu hv
   simp only [Option.map_eq_some_iff, Prod.mk.injEq] at hk
   obtain ⟨z', h1, rfl, rfl⟩ := hk
   obtain ⟨x, h3, h4⟩ := index_ok (P := P) h1 (evalPV_rel hr hu) (evalPV_rel hr hv) w
   exact keep_ok hr ho x (by simp [execOp, h3]) h4
  ·simp at hk
 ·-- extract
  simp only [Option.bind_eq_some_iff, Option.map_eq_some_iff, Prod.mk.injEq] at hk
  obtain ⟨v, h1, u, h2, rfl, rfl⟩ := hk
  obtain ⟨x, h3, h4⟩ := extract_ok (P := P) h2 (evalPV_rel hr h1) w
  exact keep_ok hr ho x (by simp [execOp, h3]) h4
 ·-- len
  rename_i args ts
  split at hk
  ·rename_i x t hx ht
   simp only [Option.bind_eq_some_iff, Option.map_eq_some_iff, Prod.mk.injEq] at hk
   obtain ⟨v, h1, u, h2, rfl, rfl⟩ := hk
   obtain ⟨y, h3, h4⟩ := len_ok (P := P) o.type h2 (evalPV_rel hr h1) w
   have e1 : args = #[x] := by apply Array.ext'; simpa using hx
   have e2 : ts = #[t] := by apply Array.ext'; simpa using ht
   subst e1 e2
   exact keep_ok hr ho y (by simp [execOp, resolve, invoke, builtin, h3]) h4
  ·simp at hk
 ·-- min
  rename_i args ts
  split at hk
  ·rename_i x ys hxs
   simp only [Option.map_eq_some_iff, Prod.mk.injEq] at hk
   obtain ⟨u, h2, rfl, rfl⟩ := hk
   have hv := evalsPV_rel hr hxs
   simp only [VRels] at hv
   obtain ⟨v, vs, he, h3, h4⟩ := hv
   obtain ⟨y, h5, h6⟩ := fold_ok (P := P) (g := Builtin.min2) (w := w) (fun x y z vx vy => min2_ok x y z vx vy) h2 h3 h4
   refine keep_ok hr ho y ?_ h6
   simp [execOp, resolve, invoke, builtin, Builtin.min_, he, h5]
  ·simp at hk
 ·-- max
  rename_i args ts
  split at hk
  ·rename_i x ys hxs
   simp only [Option.map_eq_some_iff, Prod.mk.injEq] at hk
   obtain ⟨u, h2, rfl, rfl⟩ := hk
   have hv := evalsPV_rel hr hxs
   simp only [VRels] at hv
   obtain ⟨v, vs, he, h3, h4⟩ := hv
   obtain ⟨y, h5, h6⟩ := fold_ok (P := P) (g := Builtin.max2) (w := w) (fun x y z vx vy => max2_ok x y z vx vy) h2 h3 h4
   refine keep_ok hr ho y ?_ h6
   simp [execOp, resolve, invoke, builtin, Builtin.max_, he, h5]
  ·simp at hk
 ·-- append
  rename_i args ts
  split at hk
  ·rename_i s x t t' hx ht
   split at hk
   ·rename_i hte
    subst hte
    split at hk
    ·rename_i u v hu hv
     obtain ⟨y, w', F', bs', h1, h2, h3, h4, h5⟩ := appendV_ok o.type hr (evalPV_rel hr hu) (evalPV_rel hr hv) hk
     have e1 : args = #[s, x] := by apply Array.ext'; simpa using hx
     have e2 : ts = #[t, t] := by apply Array.ext'; simpa using ht
     subst e1 e2
     exact ⟨_, y, w', F', bs', by simp [execOp, ho, resolve, invoke, builtin, h1], .inl rfl, h2, h3, h4, h5⟩
    ·simp at hk
   ·simp at hk
  ·simp at hk
 ·simp at hk
end Go.Proofs.YtkjfdacjjogpcaaPi

