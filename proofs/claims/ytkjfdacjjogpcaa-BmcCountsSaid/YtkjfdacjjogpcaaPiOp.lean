/- All plain operations of the abstract program logic as one function, and that the model does the same. No Go text in it. -/
import Derived.Test.YtkjfdacjjogpcaaPiCode
set_option linter.unusedVariables false
set_option linter.unusedSimpArgs false
namespace Go.Proofs.YtkjfdacjjogpcaaPi
variable {P : Program}

/-! ### make and literals -/
def zeroImT (P : Program) (t : TypeId) : Option (List Im) := (zeroT P t).bind (imsPV [])
def makeV (P : Program) (st : ASt) (T : TypeId) (l c : PV) : Option (PV × ASt) :=
 match l, c with
 | .im (.int _ a), .im (.int _ b) => match elemT P T with
  | some e => match sizeT P e, bytesT P e, zeroImT P e with
   | some sz, some by_, some z => if a = b ∧ 0 ≤ a ∧ (by_ : Int) * a ≤ 281474976710656 ∧ a ≤ 9223372036854775807 ∧ z.length = sz ∧ 0 < sz then
     some (.ms 0 st.loc.length a.toNat, st.push (.row e sz (List.replicate a.toNat z) 0)) else none
   | _, _, _ => none
  | none => none
 | _, _ => none
theorem imsPV_nil_rel {F : Fz} : ∀ {xs : List PV} {ys : List Im} {vs : List Value}, imsPV [] xs = some ys → (∀ bs fr, VRels F bs fr xs vs) → ys.length = vs.length ∧ ∀ (j : Nat) (y : Im) (v : Value), ys[j]? = some y → vs[j]? = some v → IRel F y v := fun {xs ys vs} h hv => by
 have hm : MRel (fun _ _ => none) [] [] (default : World) := ⟨rfl, fun d j o a h => by simp [fget] at h, fun d j d' j' b h => by obtain ⟨o, k, h, _⟩ := h; simp [fget] at h, fun b o v h => by simp at h⟩
 have key : ∀ (xs : List PV) (ys : List Im) (vs : List Value), imsPV [] xs = some ys → VRels F [] [] xs vs → ys.length = vs.length ∧ ∀ (j : Nat) (y : Im) (v : Value), ys[j]? = some y → vs[j]? = some v → IRel F y v := by
  intro xs
  induction xs with
  | nil => intro ys vs h hv; simp only [imsPV, Option.some.injEq] at h; subst h; simp only [VRels] at hv; subst hv; exact ⟨rfl, fun j y v h => by simp at h⟩
  | cons x xs ih =>
   intro ys vs h hv
   simp only [imsPV] at h
   split at h
   ·rename_i y ys' h1 h2
    simp only [Option.some.injEq] at h
    subst h
    simp only [VRels] at hv
    obtain ⟨v, vs', rfl, h3, h4⟩ := hv
    obtain ⟨h5, h6⟩ := ih ys' vs' h2 h4
    refine ⟨by simp [h5], fun j y' v' hy hv' => ?_⟩
    cases j with
    | zero =>
     simp at hy hv'
     subst hy hv'
     cases x <;> simp only [imPV, reduceCtorEq, Option.some.injEq] at h1
     ·subst h1; simpa only [VRel] using h3
     ·subst h1
      simp only [VRel] at h3
      obtain ⟨A, h7, h8⟩ := h3
      simp only [IRel]
      exact ⟨A, _, h7, Nat.le_refl _, h8⟩
     ·simp [fget] at h1
     ·subst h1
      simp only [VRel] at h3
      subst h3
      simp only [IRel]
      exact ⟨none, 0, rfl, Nat.le_refl _, fun h => absurd rfl h⟩
    | succ j => exact h6 j y' v' (by simpa using hy) (by simpa using hv')
   ·simp at h
 exact key xs ys vs h (hv [] [])
theorem madeCells_get (z : Array Value) (n k : Nat) (h : k < n) : (madeCells z n)[k]? = some (z[k % z.size]!) := by
 simp [madeCells, h]
theorem row_new_ok {n : Nat} {F : Fz} {bs : Bns} {st : ASt} {a : Act} {w : World} (h : ARel n F bs st a w) (t sz : Nat) (rows : List (List Im)) (arr : Array Value) (hsz : 0 < sz) (hl : rows.length ≤ maxLen) (har : arr.size = rows.length * sz) (hrow : RowAt F arr sz rows) :
  ∃ bs', MRel F bs' (st.push (.row t sz rows 0)).fr (w.alloc (.cells arr t)) ∧ CStep F bs st.fr w F bs' (st.push (.row t sz rows 0)).fr (w.alloc (.cells arr t)) ∧ VRel F bs' (st.push (.row t sz rows 0)).fr (.ms 0 st.loc.length rows.length) (.slice (some ⟨w.heap.size, 0, none⟩) rows.length rows.length) := by
 obtain ⟨bs', h1, h2, h3, h4⟩ := push_ok h (.row t sz rows 0) arr t rows.length (fun b0 bs' e => by
  refine ⟨hsz, Nat.le_refl _, hl, Nat.zero_le _, fun e => by simp at e, fun b hb => ?_⟩
  simp at hb
  subst hb
  exact ⟨arr, heap_alloc_new w _, har, hrow, fun q v hq => by rw [unfrozen_new h] at hq; simp at hq, fun q hq => by simp at hq⟩)
 exact ⟨bs', h1, h2, by simp only [VRel]; exact ⟨_, _, rfl, Nat.le_refl _, t, sz, rows, 0, _, h4, h3, Nat.le_refl _, fun _ => ⟨rfl, rfl⟩⟩⟩
theorem makeV_ok {n : Nat} {F : Fz} {bs : Bns} {st st' : ASt} {a : Act} {w : World} {T : TypeId} {l c z : PV} {vl vc : Value} (h : ARel n F bs st a w) (hl : VRel F bs st.fr l vl) (hc : VRel F bs st.fr c vc) (hk : makeV P st T l c = some (z, st')) :
  ∃ v w' bs', (Instr.makeSlice T vl vc).run P w = .ok v w' ∧ MRel F bs' st'.fr w' ∧ CStep F bs st.fr w F bs' st'.fr w' ∧ VRel F bs' st'.fr z v := by
 unfold makeV at hk
 split at hk
 ·rename_i k1 x k2 y
  simp only [VRel, IRel] at hl hc
  subst hl hc
  split at hk
  ·rename_i e he
   split at hk
   ·rename_i sz by_ zi hs hb hz
    split at hk
    ·rename_i hcond
     obtain ⟨rfl, h0, hbnd, hmx, hzl, hsz⟩ := hcond
     simp only [Option.some.injEq, Prod.mk.injEq] at hk
     obtain ⟨rfl, rfl⟩ := hk
     simp only [zeroImT, Option.bind_eq_some_iff] at hz
     obtain ⟨zs, hz1, hz2⟩ := hz
     obtain ⟨zv, hzr, hzv, i, hi, hiz⟩ := zeroT_run hz1 w
     have hisz : i.size = sz := by simp [sizeT, hi] at hs; exact hs
     have hiby : i.bytes = by_ := by simp [bytesT, hi] at hb; exact hb
     obtain ⟨hzlen, hzrel⟩ := imsPV_nil_rel (F := F) hz2 (fun bs fr => hzv F bs fr)
     have hzc : zv.cells.size = sz := by simp at hzlen; omega
     have hrun := run_make (P := P) w T e i zv (elemT_some he) hi hiz k1 k2 x x h0 (Int.le_refl _) (by rw [hiby]; exact hbnd) hmx
     rw [hisz] at hrun
     obtain ⟨bs', q1, q2, q3⟩ := row_new_ok h e sz (List.replicate x.toNat zi) (madeCells zv.cells (x.toNat * sz)) hsz (by simp only [List.length_replicate, maxLen]; omega) (by simp [size_madeCells]) (fun i r hr => by
      rw [List.getElem?_replicate] at hr
      split at hr
      ·rename_i hi2
       simp only [Option.some.injEq] at hr
       subst hr
       refine ⟨hzl, fun q y hy => ?_⟩
       have hq := (List.getElem?_eq_some_iff.1 hy).1
       have hlt := idx_lt (sz := sz) hi2 (by omega : q < sz)
       refine ⟨_, madeCells_get _ _ _ hlt, ?_⟩
       rw [hzc, Nat.mul_comm, Nat.mul_add_mod, Nat.mod_eq_of_lt (by omega)]
       have hqs : q < zv.cells.size := by omega
       exact hzrel q y _ hy (by simp [hqs])
      ·simp at hr)
     simp only [List.length_replicate] at q3
     exact ⟨_, _, bs', hrun, q1, q2, q3⟩
    ·simp at hk
   ·simp at hk
  ·simp at hk
 ·simp at hk

def rowsOf (fr : Frs) (sz : Nat) : Nat → List PV → Option (List (List Im))
 | 0, _ => some []
 | n + 1, cs => match imsPV fr (cs.take sz), rowsOf fr sz n (cs.drop sz) with
  | some r, some rs => if r.length = sz then some (r :: rs) else none
  | _, _ => none
theorem rowsOf_ok {F : Fz} {bs : Bns} {fr : Frs} {w : World} (hm : MRel F bs fr w) {sz : Nat} : ∀ {n : Nat} {cs : List PV} {rows : List (List Im)} {vs : List Value}, rowsOf fr sz n cs = some rows → VRels F bs fr cs vs → rows.length = n ∧ RowAt F vs.toArray sz rows
 | 0, cs, rows, vs, h, hv => by simp only [rowsOf, Option.some.injEq] at h; subst h; exact ⟨rfl, fun i r hr => by simp at hr⟩
 | n + 1, cs, rows, vs, h, hv => by
  simp only [rowsOf] at h
  split at h
  ·rename_i r rs h1 h2
   split at h
   ·rename_i hl
    simp only [Option.some.injEq] at h
    subst h
    obtain ⟨h3, h4⟩ := imsPV_rel hm h1 (hv.take sz)
    obtain ⟨h5, h6⟩ := rowsOf_ok hm h2 (hv.drop sz)
    refine ⟨by simp [h5], fun i r' hr => ?_⟩
    cases i with
    | zero =>
     simp at hr
     subst hr
     refine ⟨hl, fun q y hy => ?_⟩
     have hq := (List.getElem?_eq_some_iff.1 hy).1
     have hvl := hv.length
     simp only [List.length_take] at h3
     have hlt : q < vs.length := by omega
     refine ⟨vs[q], by simp [hlt], h4 q y _ hy ?_⟩
     rw [List.getElem?_take, if_pos (by omega)]
     simp [hlt]
    | succ i =>
     obtain ⟨h7, h8⟩ := h6 i r' (by simpa using hr)
     refine ⟨h7, fun q y hy => ?_⟩
     obtain ⟨u, h9, h10⟩ := h8 q y hy
     refine ⟨u, ?_, h10⟩
     simp only [List.getElem?_toArray, List.getElem?_drop] at h9 ⊢
     rw [show (i + 1) * sz + q = sz + (i * sz + q) by rw [Nat.add_mul]; omega]
     exact h9
   ·simp at h
  ·simp at h
def litV (P : Program) (st : ASt) (T : TypeId) (len : Nat) (ps : List (Nat × PV)) : Option (PV × ASt) :=
 match elemT P T with
 | some e => match sizeT P e, zeroT P e with
  | some sz, some z => if 0 < sz ∧ z.length = sz ∧ len * sz ≤ 16777216 then (match fillPV (fun i => some (i * sz, sz)) (List.replicate len z).flatten ps with
    | some cs => match rowsOf st.fr sz len cs with
     | some rows => some (.ms 0 st.loc.length len, st.push (.row e sz rows 0))
     | none => none
    | none => none) else none
  | _, _ => none
 | none => none
theorem flatten_replicate_get {α : Type} (z : List α) : ∀ (n k : Nat), k < n * z.length → (List.replicate n z).flatten[k]? = z[k % z.length]?
 | 0, k, h => by simp at h
 | n + 1, k, h => by
  simp only [List.replicate_succ, List.flatten_cons, List.getElem?_append]
  by_cases hk : k < z.length
  ·rw [if_pos hk, Nat.mod_eq_of_lt hk]
  ·rw [if_neg hk, flatten_replicate_get z n (k - z.length) (by rw [Nat.add_mul] at h; omega)]
   congr 1
   exact (Nat.mod_eq_sub_mod (by omega)).symm
theorem fillPV_length {place : Nat → Option (Nat × Nat)} : ∀ {ps : List (Nat × PV)} {cells out : List PV}, fillPV place cells ps = some out → out.length = cells.length
 | [], cells, out, h => by simp only [fillPV, Option.some.injEq] at h; subst h; rfl
 | (i, x) :: ps, cells, out, h => by
  simp only [fillPV] at h
  split at h
  ·split at h
   ·rename_i hc
    rw [fillPV_length h, splice_length _ _ _ (by omega)]
   ·simp at h
  ·simp at h
def evalParts (st : ASt) : List (Nat × Operand) → Option (List (Nat × PV))
 | [] => some []
 | (i, x) :: ps => match evalPV st x, evalParts st ps with
  | some y, some ys => some ((i, y) :: ys)
  | _, _ => none
theorem evalParts_ok {n : Nat} {F : Fz} {bs : Bns} {st : ASt} {a : Act} {w : World} (h : ARel n F bs st a w) : ∀ {ps : List (Nat × Operand)} {ys : List (Nat × PV)}, evalParts st ps = some ys →
  ys.length = (ps.map fun (i, x) => (i, a.eval x)).length ∧ ∀ (i : Nat) (p : Nat × PV) (v : Nat × Value), ys[i]? = some p → (ps.map fun (i, x) => (i, a.eval x))[i]? = some v → v.1 = p.1 ∧ VRel F bs st.fr p.2 v.2
 | [], ys, he => by simp only [evalParts, Option.some.injEq] at he; subst he; exact ⟨rfl, fun i p v h => by simp at h⟩
 | (i, x) :: ps, ys, he => by
  simp only [evalParts] at he
  split at he
  ·rename_i y ys' h1 h2
   simp only [Option.some.injEq] at he
   subst he
   obtain ⟨h3, h4⟩ := evalParts_ok h h2
   refine ⟨by simpa using h3, fun j p v hp hv => ?_⟩
   cases j with
   | zero => simp at hp hv; subst hp hv; exact ⟨rfl, evalPV_rel h h1⟩
   | succ j => exact h4 j p v (by simpa using hp) (by simpa using hv)
  ·simp at he
theorem litV_ok {n : Nat} {F : Fz} {bs : Bns} {st st' : ASt} {a : Act} {w : World} {T : TypeId} {len : Nat} {ps : List (Nat × Operand)} {ys : List (Nat × PV)} {z : PV} (h : ARel n F bs st a w) (he : evalParts st ps = some ys) (hk : litV P st T len ys = some (z, st')) :
  ∃ v w' bs', (Instr.buildSlice T len (ps.map fun (i, x) => (i, a.eval x)).toArray).run P w = .ok v w' ∧ MRel F bs' st'.fr w' ∧ CStep F bs st.fr w F bs' st'.fr w' ∧ VRel F bs' st'.fr z v := by
 unfold litV at hk
 split at hk
 ·rename_i e hel
  split at hk
  ·rename_i sz zs hs hz
   split at hk
   ·rename_i hcond
    obtain ⟨hsz, hzl, hlim⟩ := hcond
    split at hk
    ·rename_i cs hfill
     split at hk
     ·rename_i rows hrows
      simp only [Option.some.injEq, Prod.mk.injEq] at hk
      obtain ⟨rfl, rfl⟩ := hk
      obtain ⟨zv, hzr, hzv, i, hi, hiz⟩ := zeroT_run hz w
      have hzc : zv.cells.size = sz := by have := (hzv F bs st.fr).length; simp at this; omega
      have h0 : VRels F bs st.fr (List.replicate len zs).flatten ((Array.range (len * sz)).map (zv.cells[· % zv.cells.size]!)).toList := by
       refine VRels.mk ?_ (fun q x v hx hv => ?_)
       ·simp [hzl]
       ·have hq : q < len * sz := by
         have := (List.getElem?_eq_some_iff.1 hv).1
         simpa using this
        rw [flatten_replicate_get zs len q (by rw [hzl]; exact hq), hzl] at hx
        have hqs : q % sz < zv.cells.size := by rw [hzc]; exact Nat.mod_lt _ hsz
        have hv2 : v = zv.cells[q % sz] := by
         have h1 : ((Array.range (len * sz)).map (zv.cells[· % zv.cells.size]!)).toList[q]? = some (zv.cells[q % zv.cells.size]!) := by simp [hq]
         rw [h1] at hv
         simp only [Option.some.injEq, hzc] at hv
         rw [← hv]
         simp [hqs]
        exact (hzv F bs st.fr).get' hx (by rw [hv2]; simp [hqs])
      obtain ⟨p1, p2⟩ := evalParts_ok h he
      obtain ⟨arr', h1, h2⟩ := fill_ok hfill p1 p2 h0
      obtain ⟨h3, h4⟩ := rowsOf_ok h.mem hrows h2
      have hal : arr'.size = len * sz := by
       have := h2.length
       rw [fillPV_length hfill] at this
       simpa [hzl] using this
      obtain ⟨bs', q1, q2, q3⟩ := row_new_ok h e sz rows arr' hsz (by rw [h3]; simp only [maxLen]; have := Nat.le_mul_of_pos_right len hsz; omega) (by rw [h3]; exact hal) (by simpa using h4)
      rw [h3] at q3
      refine ⟨_, _, bs', ?_, q1, q2, q3⟩
      have hlim2 : ¬ (len * sz > 2 ^ 24) := by omega
      by_cases hls : len * sz = 0
      ·have e1 : ∀ f : Nat → Value, (Array.range (len * sz)).map f = #[] := fun f => by rw [hls]; simp
       rw [e1] at h1
       simp only [Instr.buildSlice, Sem.run_bind, run_underlying (elemT_some hel), Result.andThen_ok, run_sizeT hs, hlim2, if_false, if_pos hls, Sem.run_pure, List.toList_toArray, e1]
       rw [h1]
       simp [newRow]
      ·simp only [Instr.buildSlice, Sem.run_bind, run_underlying (elemT_some hel), Result.andThen_ok, run_sizeT hs, hlim2, if_false, hls, hzr, Sem.run_pure, List.toList_toArray]
       rw [h1]
       simp [newRow]
     ·simp at hk
    ·simp at hk
   ·simp at hk
  ·simp at hk
 ·simp at hk
end Go.Proofs.YtkjfdacjjogpcaaPi

