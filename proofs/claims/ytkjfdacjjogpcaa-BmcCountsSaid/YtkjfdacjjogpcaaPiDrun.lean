/- Regions that draw their order, run in the order of the text: what each operation met and turned is noted, and at the end no two that the edges leave open may meet. No Go text in it. -/
import Derived.Test.YtkjfdacjjogpcaaPiDraw
set_option linter.unusedVariables false
set_option linter.unusedSimpArgs false
namespace Go.Proofs.YtkjfdacjjogpcaaPi
variable {P : Program}

def opndTmp : Operand → Option Nat
 | .tmp t => some t
 | _ => none
def needsOf (env : List (Nat × PV)) : List Operand → List (Nat × PV)
 | [] => []
 | x :: xs => match opndTmp x with
  | some t => match eget env t with
   | some v => (t, v) :: needsOf env xs
   | none => needsOf env xs
  | none => needsOf env xs
def guardNeed (env : List (Nat × PV)) : Option (Nat × Bool) → List (Nat × PV)
 | some (t, _) => match eget env t with
  | some v => [(t, v)]
  | none => []
 | none => []
theorem needsOf_eval {st s : ASt} : ∀ {xs : List Operand}, (∀ p ∈ needsOf st.env xs, eget s.env p.1 = some p.2) → ∀ x ∈ xs, ∀ v, evalPV st x = some v → evalPV s x = some v
 | [], _, x, hx, v, hv => by simp at hx
 | y :: ys, h, x, hx, v, hv => by
  have rest : (∀ p ∈ needsOf st.env ys, eget s.env p.1 = some p.2) := fun p hp => h p (by
   simp only [needsOf]
   split
   ·split
    ·exact List.mem_cons_of_mem _ hp
    ·exact hp
   ·exact hp)
  rcases List.mem_cons.1 hx with rfl | hx
  ·cases x with
   | tmp t => exact h (t, v) (by simp only [needsOf, opndTmp]; simp only [evalPV] at hv; rw [hv]; exact List.mem_cons_self)
   | const c => exact hv
   | global g => simp [evalPV] at hv
   | func f => exact hv
  ·exact needsOf_eval rest x hx v hv
theorem needsOf_evals {st s : ASt} {xs : List Operand} (h : ∀ p ∈ needsOf st.env xs, eget s.env p.1 = some p.2) : ∀ {ys : List Operand} {vs : List PV}, (∀ y ∈ ys, y ∈ xs) → evalsPV st ys = some vs → evalsPV s ys = some vs
 | [], vs, _, hv => by simpa only [evalsPV] using hv
 | y :: ys, vs, hy, hv => by
  simp only [evalsPV] at hv ⊢
  split at hv
  ·rename_i v vs' h1 h2
   simp only [Option.some.injEq] at hv
   subst hv
   rw [needsOf_eval h y (hy y List.mem_cons_self) v h1, needsOf_evals h (fun z hz => hy z (List.mem_cons_of_mem _ hz)) h2]
  ·simp at hv
theorem needsOf_parts {st s : ASt} {xs : List Operand} (h : ∀ p ∈ needsOf st.env xs, eget s.env p.1 = some p.2) : ∀ {ps : List (Nat × Operand)} {vs : List (Nat × PV)}, (∀ p ∈ ps, p.2 ∈ xs) → evalParts st ps = some vs → evalParts s ps = some vs
 | [], vs, _, hv => by simpa only [evalParts] using hv
 | (i, y) :: ps, vs, hy, hv => by
  simp only [evalParts] at hv ⊢
  split at hv
  ·rename_i v vs' h1 h2
   simp only [Option.some.injEq] at hv
   subst hv
   rw [needsOf_eval h y (hy _ List.mem_cons_self) v h1, needsOf_parts h (fun z hz => hy z (List.mem_cons_of_mem _ hz)) h2]
  ·simp at hv

mutual
def refOf (fr : Frs) : PV → List ((Nat × Nat) × AObj)
 | .ptr d j _ => match look fr d j with
  | some o => [((d, j), o)]
  | none => []
 | .rptr d j _ _ _ => match look fr d j with
  | some o => [((d, j), o)]
  | none => []
 | .ms d j _ => match look fr d j with
  | some o => [((d, j), o)]
  | none => []
 | .vs d j _ _ _ => match look fr d j with
  | some o => [((d, j), o)]
  | none => []
 | .vp d j _ _ => match look fr d j with
  | some o => [((d, j), o)]
  | none => []
 | .agg cs => refsOf fr cs
 | _ => []
def refsOf (fr : Frs) : List PV → List ((Nat × Nat) × AObj)
 | [] => []
 | x :: xs => refOf fr x ++ refsOf fr xs
end
def Agree (l : List ((Nat × Nat) × AObj)) (fr : Frs) : Prop := ∀ p ∈ l, look fr p.1.1 p.1.2 = some p.2
theorem Agree.left {l m : List ((Nat × Nat) × AObj)} {fr : Frs} (h : Agree (l ++ m) fr) : Agree l fr := fun p hp => h p (List.mem_append_left _ hp)
theorem Agree.right {l m : List ((Nat × Nat) × AObj)} {fr : Frs} (h : Agree (l ++ m) fr) : Agree m fr := fun p hp => h p (List.mem_append_right _ hp)
theorem Agree.of {fr fr' : Frs} : ∀ {xs : List PV} {x : PV}, Agree (refsOf fr xs) fr' → x ∈ xs → Agree (refOf fr x) fr'
 | [], x, _, hx => by simp at hx
 | y :: ys, x, h, hx => by
  simp only [refsOf] at h
  rcases List.mem_cons.1 hx with rfl | hx
  ·exact h.left
  ·exact Agree.of h.right hx
theorem agree_ms {fr fr' : Frs} {d j n : Nat} {o : AObj} (h : Agree (refOf fr (.ms d j n)) fr') (ho : look fr d j = some o) : look fr' d j = some o := h ((d, j), o) (by simp [refOf, ho])
theorem agree_ptr {fr fr' : Frs} {d j n : Nat} {o : AObj} (h : Agree (refOf fr (.ptr d j n)) fr') (ho : look fr d j = some o) : look fr' d j = some o := h ((d, j), o) (by simp [refOf, ho])
theorem agree_rptr {fr fr' : Frs} {d j n i q : Nat} {o : AObj} (h : Agree (refOf fr (.rptr d j n i q)) fr') (ho : look fr d j = some o) : look fr' d j = some o := h ((d, j), o) (by simp [refOf, ho])
theorem agree_vs {fr fr' : Frs} {d j o' n g : Nat} {o : AObj} (h : Agree (refOf fr (.vs d j o' n g)) fr') (ho : look fr d j = some o) : look fr' d j = some o := h ((d, j), o) (by simp [refOf, ho])
theorem agree_vp {fr fr' : Frs} {d j i g : Nat} {o : AObj} (h : Agree (refOf fr (.vp d j i g)) fr') (ho : look fr d j = some o) : look fr' d j = some o := h ((d, j), o) (by simp [refOf, ho])
theorem loadPV_local {fr fr' : Frs} {t : TypeId} {x y : PV} (h : Agree (refOf fr x) fr') (hl : loadPV P fr t x = some y) : loadPV P fr' t x = some y := by
 cases x <;> simp only [loadPV, reduceCtorEq] at hl ⊢
 case ptr d j off =>
  cases ho : look fr d j with
  | none => rw [ho] at hl; simp at hl
  | some o => rw [ho] at hl; rw [agree_ptr h ho]; exact hl
 case rptr d j n i off =>
  cases ho : look fr d j with
  | none => rw [ho] at hl; simp at hl
  | some o => rw [ho] at hl; rw [agree_rptr h ho]; exact hl
 case iptr cs => exact hl
 case vp d j i g =>
  cases ho : look fr d j with
  | none => rw [ho] at hl; simp at hl
  | some o => rw [ho] at hl; rw [agree_vp h ho]; exact hl
theorem indexAddrPV_local {fr fr' : Frs} {t : TypeId} {x i y : PV} (h : Agree (refOf fr x) fr') (hl : indexAddrPV P fr t x i = some y) : indexAddrPV P fr' t x i = some y := by
 have other : (∀ d j n, x ≠ .ms d j n) → (∀ d j o n g, x ≠ .vs d j o n g) → indexAddrPV P fr' t x i = indexAddrPV P fr t x i := fun hx hx2 => by
  cases x with
  | ms d j n => exact absurd rfl (hx d j n)
  | vs d j o n g => exact absurd rfl (hx2 d j o n g)
  | im z => cases z <;> rfl
  | _ => rfl
 cases x with
 | ms d j n =>
  unfold indexAddrPV at hl ⊢
  cases ho : look fr d j with
  | some o => simp only [ho] at hl; simp only [agree_ms h ho]; exact hl
  | none =>
   exfalso
   simp only [ho] at hl
   split at hl
   ·split at hl
    ·split at hl
     ·split at hl <;> simp at hl
     ·split at hl
      ·split at hl
       ·split at hl <;> simp at hl
       ·simp at hl
      ·simp at hl
    ·simp at hl
   ·simp at hl
 | vs d j o' n g =>
  unfold indexAddrPV at hl ⊢
  cases ho : look fr d j with
  | some o => simp only [ho] at hl; simp only [agree_vs h ho]; exact hl
  | none =>
   exfalso
   simp only [ho] at hl
   split at hl
   ·split at hl
    ·split at hl
     ·split at hl <;> simp at hl
     ·split at hl
      ·split at hl
       ·split at hl <;> simp at hl
       ·simp at hl
      ·simp at hl
    ·simp at hl
   ·simp at hl
 | _ => rw [other (fun _ _ _ => by simp) (fun _ _ _ _ _ => by simp)]; exact hl
theorem imPV_local {fr fr' : Frs} {x : PV} {y : Im} (h : Agree (refOf fr x) fr') (hl : imPV fr x = some y) : imPV fr' x = some y := by
 cases x <;> simp only [imPV, reduceCtorEq] at hl ⊢
 case im z => exact hl
 case full z => exact hl
 case nils => exact hl
 case ms d j n =>
  cases ho : look fr d j with
  | none => rw [ho] at hl; simp at hl
  | some o => rw [ho] at hl; rw [agree_ms h ho]; exact hl
theorem imsPV_local {fr fr' : Frs} : ∀ {xs : List PV} {ys : List Im}, Agree (refsOf fr xs) fr' → imsPV fr xs = some ys → imsPV fr' xs = some ys
 | [], ys, _, hy => by simpa only [imsPV] using hy
 | x :: xs, ys, h, hy => by
  simp only [refsOf] at h
  simp only [imsPV] at hy ⊢
  split at hy
  ·rename_i y ys' h1 h2
   rw [imPV_local h.left h1, imsPV_local h.right h2]
   exact hy
  ·simp at hy
theorem rowsPV_local {fr fr' : Frs} {x : PV} {y : List (List Im)} (h : Agree (refOf fr x) fr') (hl : rowsPV fr x = some y) : rowsPV fr' x = some y := by
 cases x <;> try (simp only [rowsPV, reduceCtorEq] at hl ⊢; done)
 case im z => cases z <;> simp only [rowsPV, reduceCtorEq] at hl ⊢; exact hl
 case full z => exact hl
 case nils => exact hl
 case ms d j n =>
  simp only [rowsPV] at hl ⊢
  cases ho : look fr d j with
  | none => rw [ho] at hl; simp at hl
  | some o => rw [ho] at hl; rw [agree_ms h ho]; exact hl
theorem cellsOfV_local {fr fr' : Frs} {x : PV} {y : List PV} (h : Agree (refOf fr x) fr') (hl : cellsOfV fr x = some y) : cellsOfV fr' x = some y := by
 cases x
 case vs d j o n g =>
  simp only [cellsOfV] at hl ⊢
  cases ho : look fr d j with
  | none => rw [ho] at hl; simp at hl
  | some o => rw [ho] at hl; rw [agree_vs h ho]; exact hl
 all_goals
  simp only [cellsOfV, Option.bind_eq_some_iff] at hl ⊢
  obtain ⟨rows, h1, h2⟩ := hl
  exact ⟨rows, rowsPV_local h h1, h2⟩
theorem slice_solid_local {fr fr' : Frs} {t : TypeId} {x z : PV} {a b c : Option PV} (h : Agree (refOf fr x) fr') (hl : slicePV P t (x.solid fr) a b c = some z) : slicePV P t (x.solid fr') a b c = some z := by
 cases x <;> simp only [PV.solid] at hl ⊢ <;> try exact hl
 case ms d j n =>
  cases hi : imPV fr (.ms d j n) with
  | none => rw [hi] at hl; simp [slicePV] at hl
  | some y => rw [hi] at hl; rw [imPV_local h hi]; exact hl
 all_goals simp [slicePV] at hl

def opndsO : Op → List Operand
 | .move x | .assign x | .box _ x | .load _ x | .nilCheck x | .unOp _ _ x | .convert _ _ x | .fieldAddr _ x _ | .extract x _ => [x]
 | .pick c a b => [c, a, b]
 | .build _ ps => ps.toList.map (·.2)
 | .buildSlice _ _ ps => ps.toList.map (·.2)
 | .store _ x y => [x, y]
 | .binOp _ _ x y _ => [x, y]
 | .makeFunc _ _ cap => cap.toList
 | .makeSlice _ a b => [a, b]
 | .slice _ x lo hi mx => x :: (lo.toList ++ hi.toList ++ mx.toList)
 | .sliceToArrayPointer _ x => [x]
 | .indexAddr _ x i => [x, i]
 | .index _ x i => [x, i]
 | .lookup _ m k _ => [m, k]
 | .mapUpdate _ m k v => [m, k, v]
 | .call { callee := .builtin _, args, .. } => args.toList
 | .call { callee := .value f, args, .. } => f :: args.toList
 | _ => []
def opndsM : Op → List Operand
 | .load _ x => [x]
 | .store _ x y => [x, y]
 | .slice _ x _ _ _ => [x]
 | .indexAddr _ x _ => [x]
 | .call { callee := .builtin .append, args, .. } => args.toList
 | _ => []
def valsO (st : ASt) : List Operand → List PV
 | [] => []
 | x :: xs => match evalPV st x with
  | some v => v :: valsO st xs
  | none => valsO st xs
theorem valsO_mem {st : ASt} : ∀ {xs : List Operand} {x : Operand} {v : PV}, x ∈ xs → evalPV st x = some v → v ∈ valsO st xs
 | [], x, v, hx, _ => by simp at hx
 | y :: ys, x, v, hx, hv => by
  simp only [valsO]
  rcases List.mem_cons.1 hx with rfl | hx
  ·rw [hv]; exact List.mem_cons_self
  ·split
   ·exact List.mem_cons_of_mem _ (valsO_mem hx hv)
   ·exact valsO_mem hx hv
structure Sees (st s : ASt) (op : Op) : Prop where
 env : ∀ p ∈ needsOf st.env (opndsO op), eget s.env p.1 = some p.2
 mem : Agree (refsOf st.fr (valsO st (opndsM op))) s.fr
theorem Sees.ev {st s : ASt} {op : Op} (h : Sees st s op) {x : Operand} {v : PV} (hx : x ∈ opndsO op) (hv : evalPV st x = some v) : evalPV s x = some v := needsOf_eval h.env x hx v hv
theorem Sees.evs {st s : ASt} {op : Op} (h : Sees st s op) {xs : List Operand} {vs : List PV} (hx : ∀ x ∈ xs, x ∈ opndsO op) (hv : evalsPV st xs = some vs) : evalsPV s xs = some vs := needsOf_evals h.env hx hv
theorem Sees.evp {st s : ASt} {op : Op} (h : Sees st s op) {ps : List (Nat × Operand)} {vs : List (Nat × PV)} (hx : ∀ p ∈ ps, p.2 ∈ opndsO op) (hv : evalParts st ps = some vs) : evalParts s ps = some vs := needsOf_parts h.env hx hv
theorem Sees.at {st s : ASt} {op : Op} (h : Sees st s op) {x : Operand} {v : PV} (hx : x ∈ opndsM op) (hv : evalPV st x = some v) : Agree (refOf st.fr v) s.fr := h.mem.of (valsO_mem hx hv)
def pureO : Op → Bool
 | .move _ | .assign _ | .load _ _ | .nilCheck _ | .unOp _ _ _ | .convert _ _ _ | .fieldAddr _ _ _ | .extract _ _ | .pick _ _ _ | .build _ _ | .binOp _ _ _ _ _ | .slice _ _ _ _ _ | .indexAddr _ _ _ | .index _ _ _ => true
 | .makeFunc (.func _) _ _ => true
 | .call { callee := .builtin .len, .. } => true
 | .call { callee := .builtin .min, .. } => true
 | .call { callee := .builtin .max, .. } => true
 | _ => false
theorem stepV_local {st s st1 : ASt} {op : Op} {v : PV} (hp : pureO op = true) (hs : Sees st s op) (h : stepV P st op = some (v, st1)) : st1 = st ∧ stepV P s op = some (v, s) := by
 unfold stepV at h
 split at h
 all_goals first
  | (simp [pureO] at hp; done)
  | skip
 ·simp only [Option.map_eq_some_iff, Prod.mk.injEq] at h
  obtain ⟨u, h1, rfl, rfl⟩ := h
  exact ⟨rfl, by simp [stepV, hs.ev (by simp [opndsO]) h1]⟩
 ·simp only [Option.map_eq_some_iff, Prod.mk.injEq] at h
  obtain ⟨u, h1, rfl, rfl⟩ := h
  exact ⟨rfl, by simp [stepV, hs.ev (by simp [opndsO]) h1]⟩
 ·split at h
  ·rename_i hc
   simp only [Option.map_eq_some_iff, Prod.mk.injEq] at h
   obtain ⟨u, h1, rfl, rfl⟩ := h
   exact ⟨rfl, by simp [stepV, hs.ev (by simp [opndsO]) hc, hs.ev (by simp [opndsO]) h1]⟩
  ·rename_i hc
   simp only [Option.map_eq_some_iff, Prod.mk.injEq] at h
   obtain ⟨u, h1, rfl, rfl⟩ := h
   exact ⟨rfl, by simp [stepV, hs.ev (by simp [opndsO]) hc, hs.ev (by simp [opndsO]) h1]⟩
  ·simp at h
 ·simp only [Option.bind_eq_some_iff, Option.map_eq_some_iff, Prod.mk.injEq] at h
  obtain ⟨ys, h1, u, h2, rfl, rfl⟩ := h
  refine ⟨rfl, ?_⟩
  rw [stepV, hs.evp (fun p hp => by simp only [opndsO]; exact List.mem_map_of_mem hp) h1]
  simp [h2]
 ·simp only [Option.bind_eq_some_iff, Option.map_eq_some_iff, Prod.mk.injEq] at h
  obtain ⟨y, h1, u, h2, rfl, rfl⟩ := h
  exact ⟨rfl, by simp [stepV, hs.ev (by simp [opndsO]) h1, loadPV_local (hs.at (by simp [opndsM]) h1) h2]⟩
 ·split at h
  ·rename_i d j o hc
   simp only [Option.some.injEq, Prod.mk.injEq] at h
   obtain ⟨rfl, rfl⟩ := h
   exact ⟨rfl, by simp [stepV, hs.ev (by simp [opndsO]) hc]⟩
  ·rename_i d j n i o hc
   simp only [Option.some.injEq, Prod.mk.injEq] at h
   obtain ⟨rfl, rfl⟩ := h
   exact ⟨rfl, by simp [stepV, hs.ev (by simp [opndsO]) hc]⟩
  ·rename_i cs hc
   simp only [Option.some.injEq, Prod.mk.injEq] at h
   obtain ⟨rfl, rfl⟩ := h
   exact ⟨rfl, by simp [stepV, hs.ev (by simp [opndsO]) hc]⟩
  ·simp at h
 ·split at h
  ·rename_i h1 h2
   simp only [Option.map_eq_some_iff, Prod.mk.injEq] at h
   obtain ⟨z, h3, rfl, rfl⟩ := h
   exact ⟨rfl, by simp [stepV, hs.ev (by simp [opndsO]) h1, hs.ev (by simp [opndsO]) h2, h3]⟩
  ·simp at h
 ·simp only [Option.bind_eq_some_iff, Option.map_eq_some_iff, Prod.mk.injEq] at h
  obtain ⟨y, h1, u, h2, rfl, rfl⟩ := h
  exact ⟨rfl, by simp [stepV, hs.ev (by simp [opndsO]) h1, h2]⟩
 ·simp only [Option.bind_eq_some_iff, Option.map_eq_some_iff, Prod.mk.injEq] at h
  obtain ⟨y, h1, u, h2, rfl, rfl⟩ := h
  exact ⟨rfl, by simp [stepV, hs.ev (by simp [opndsO]) h1, h2]⟩
 ·split at h
  ·rename_i h0
   simp only [Option.map_eq_some_iff, Prod.mk.injEq] at h
   obtain ⟨z, h3, rfl, rfl⟩ := h
   exact ⟨rfl, by simp [stepV, h0, hs.evs (fun x hx => by simpa [opndsO] using hx) h3]⟩
  ·simp at h
 ·split at h
  ·rename_i u h1
   split at h
   ·rename_i a b c h2 h3 h4
    simp only [Option.map_eq_some_iff, Prod.mk.injEq] at h
    obtain ⟨z, h5, rfl, rfl⟩ := h
    refine ⟨rfl, ?_⟩
    simp only [stepV, hs.ev (by simp [opndsO]) h1, hs.evs (fun x hx => by simp only [opndsO]; simp only [List.mem_cons, List.mem_append]; exact .inr (.inl (.inl hx))) h2, hs.evs (fun x hx => by simp only [opndsO]; simp only [List.mem_cons, List.mem_append]; exact .inr (.inl (.inr hx))) h3, hs.evs (fun x hx => by simp only [opndsO]; simp only [List.mem_cons, List.mem_append]; exact .inr (.inr hx)) h4]
    rw [slice_solid_local (hs.at (by simp [opndsM]) h1) h5]
    rfl
   ·simp at h
  ·simp at h
 ·simp only [Option.bind_eq_some_iff, Option.map_eq_some_iff, Prod.mk.injEq] at h
  obtain ⟨y, h1, u, h2, rfl, rfl⟩ := h
  exact ⟨rfl, by simp [stepV, hs.ev (by simp [opndsO]) h1, h2]⟩
 ·split at h
  ·rename_i h1 h2
   simp only [Option.map_eq_some_iff, Prod.mk.injEq] at h
   obtain ⟨z, h3, rfl, rfl⟩ := h
   exact ⟨rfl, by simp [stepV, hs.ev (by simp [opndsO]) h1, hs.ev (by simp [opndsO]) h2, indexAddrPV_local (hs.at (by simp [opndsM]) h1) h3]⟩
  ·simp at h
 ·split at h
  ·rename_i h1 h2
   simp only [Option.map_eq_some_iff, Prod.mk.injEq] at h
   obtain ⟨z, h3, rfl, rfl⟩ := h
   exact ⟨rfl, by simp [stepV, hs.ev (by simp [opndsO]) h1, hs.ev (by simp [opndsO]) h2, h3]⟩
  ·simp at h
 ·simp only [Option.bind_eq_some_iff, Option.map_eq_some_iff, Prod.mk.injEq] at h
  obtain ⟨y, h1, u, h2, rfl, rfl⟩ := h
  exact ⟨rfl, by simp [stepV, hs.ev (by simp [opndsO]) h1, h2]⟩
 ·split at h
  ·rename_i h1 h2
   simp only [Option.bind_eq_some_iff, Option.map_eq_some_iff, Prod.mk.injEq] at h
   obtain ⟨y, h3, u, h4, rfl, rfl⟩ := h
   exact ⟨rfl, by simp [stepV, h1, h2, hs.ev (by simp [opndsO, h1]) h3, h4]⟩
  ·simp at h
 ·split at h
  ·rename_i h1
   simp only [Option.map_eq_some_iff, Prod.mk.injEq] at h
   obtain ⟨z, h3, rfl, rfl⟩ := h
   exact ⟨rfl, by simp [stepV, hs.evs (fun x hx => by simpa [opndsO] using hx) h1, h3]⟩
  ·simp at h
 ·split at h
  ·rename_i h1
   simp only [Option.map_eq_some_iff, Prod.mk.injEq] at h
   obtain ⟨z, h3, rfl, rfl⟩ := h
   exact ⟨rfl, by simp [stepV, hs.evs (fun x hx => by simpa [opndsO] using hx) h1, h3]⟩
  ·simp at h
end Go.Proofs.YtkjfdacjjogpcaaPi

