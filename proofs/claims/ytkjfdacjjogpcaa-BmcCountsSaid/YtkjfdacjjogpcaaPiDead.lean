/- New objects at places that were kept free for them (dead objects), in the abstract program logic. No Go text in it. -/
import Derived.Test.YtkjfdacjjogpcaaPiDrun
set_option linter.unusedVariables false
set_option linter.unusedSimpArgs false
namespace Go.Proofs.YtkjfdacjjogpcaaPi
variable {P : Program}

def ASt.at (st : ASt) (k : Nat) (o : AObj) : ASt := st.setFr (fset st.fr 0 k o)
theorem ASt.at_fr (st : ASt) (k : Nat) (o : AObj) : (st.at k o).fr = fset st.fr 0 k o := ASt.setFr_fset _ _ _ _
theorem ASt.at_env (st : ASt) (k : Nat) (o : AObj) : (st.at k o).env = st.env := ASt.setFr_env _ _
theorem fget_fset_same {α : Type} (fr : List (List α)) (d j : Nat) (x y : α) (h : fget fr d j = some y) : fget (fset fr d j x) d j = some x := by rw [fget_fset, if_pos ⟨rfl, rfl⟩, h]; rfl
theorem dead_ok {n : Nat} {F : Fz} {bs : Bns} {st : ASt} {a : Act} {w : World} (h : ARel n F bs st a w) {k : Nat} (hk : look st.fr 0 k = some .dead) (o : AObj) (arr : Array Value) (t : TypeId) (c : Nat)
  (ho : ∀ bs', Evolve bs st.fr bs' (st.at k o).fr → MObj F bs' (st.at k o).fr (w.alloc (.cells arr t)) o (some w.heap.size, c)) :
  ∃ bs', MRel F bs' (st.at k o).fr (w.alloc (.cells arr t)) ∧ CStep F bs st.fr w F bs' (st.at k o).fr (w.alloc (.cells arr t)) ∧ bnd bs' 0 k = some (some w.heap.size, c) ∧ look (st.at k o).fr 0 k = some o := by
 obtain ⟨a0, ha⟩ := look_bnd h.mem.shape hk
 have hbc : AObj.becomes .dead o a0 (some w.heap.size, c) := by simp [AObj.becomes]
 have hev : Evolve bs st.fr (fset bs 0 k (some w.heap.size, c)) (fset st.fr 0 k o) := fun d' j' o1 a1 h1 h2 => by
  simp only [look, bnd, fget_fset]
  by_cases e : d' = 0 ∧ j' = k
  ·obtain ⟨rfl, rfl⟩ := e
   have e1 := hk.symm.trans h1
   have e2 := ha.symm.trans h2
   cases e1; cases e2
   refine ⟨o, (some w.heap.size, c), ?_, ?_, hbc⟩
   ·rw [if_pos ⟨rfl, rfl⟩, show fget st.fr 0 j' = _ from hk]; rfl
   ·rw [if_pos ⟨rfl, rfl⟩, show fget bs 0 j' = _ from ha]; rfl
  ·exact ⟨o1, a1, by rw [if_neg e]; exact h1, by rw [if_neg e]; exact h2, o1.becomes_refl a1⟩
 have hput := h.mem.put (F' := F) (w' := w.alloc (.cells arr t)) (o' := o) (a' := (some w.heap.size, c)) hk ha (fun b hb _ => heap_alloc_old w _ hb) (Fz.le_refl F) (fun _ _ _ _ => rfl)
  (fun b q v hb hq => by
   have := World.block_lt_of_cell? w _ (h.mem.fz b q v hq)
   simp only at this
   rcases hb with hb | hb
   ·omega
   ·exact absurd hb.2 (by simp [AObj.live]))
  (fun b hb => by simp at hb; exact .inl (by omega)) hbc (by
   have := ho (fset bs 0 k (some w.heap.size, c)) (by rw [ASt.at_fr]; exact hev)
   rw [ASt.at_fr] at this
   simpa using this)
 rw [ASt.at_fr]
 exact ⟨_, hput.1, ⟨Fz.le_refl F, hput.2.1, ⟨rfl, rfl, rfl, by simp, fun b hb _ => heap_alloc_old w _ hb⟩, hput.2.2⟩, fget_fset_same _ _ _ _ _ ha, fget_fset_same _ _ _ _ _ hk⟩
theorem box_dead {n : Nat} {F : Fz} {bs : Bns} {st : ASt} {a : Act} {w : World} (h : ARel n F bs st a w) {k : Nat} (hk : look st.fr 0 k = some .dead) (cs : List PV) (arr : Array Value) (t : TypeId) (hv : VRels F bs st.fr cs arr.toList) :
  ∃ bs', MRel F bs' (st.at k (.box cs)).fr (w.alloc (.cells arr t)) ∧ CStep F bs st.fr w F bs' (st.at k (.box cs)).fr (w.alloc (.cells arr t)) ∧ VRel F bs' (st.at k (.box cs)).fr (.ptr 0 k 0) (.pointer (some ⟨w.heap.size, 0, none⟩)) := by
 obtain ⟨bs', h1, h2, h3, h4⟩ := dead_ok h hk (.box cs) arr t 0 (fun bs' hev => ⟨_, arr, t, rfl, heap_alloc_new w _, VRels.move (Fz.le_refl F) hev hv, unfrozen_new h⟩)
 exact ⟨bs', h1, h2, by simp only [VRel]; exact ⟨_, 0, cs, h4, h3, rfl⟩⟩
def allocD (P : Program) (st : ASt) (k : Nat) (t : TypeId) : Option (PV × ASt) := (zeroT P t).map fun z => (.ptr 0 k 0, st.at k (.box z))
theorem allocD_ok {n : Nat} {F : Fz} {bs : Bns} {st st' : ASt} {a : Act} {w : World} {t : TypeId} {z : PV} (h : ARel n F bs st a w) {k : Nat} (hkd : look st.fr 0 k = some .dead) (ha : allocD P st k t = some (z, st')) (old : Value) :
  ∃ v w' bs', (Instr.alloc t true old).run P w = .ok v w' ∧ MRel F bs' st'.fr w' ∧ CStep F bs st.fr w F bs' st'.fr w' ∧ VRel F bs' st'.fr z v := by
 simp only [allocD, Option.map_eq_some_iff, Prod.mk.injEq] at ha
 obtain ⟨zs, hz, rfl, rfl⟩ := ha
 obtain ⟨zv, h1, h2, _⟩ := zeroT_run hz w
 obtain ⟨bs', h3, h4, h5⟩ := box_dead h hkd zs zv.cells t (h2 _ _ _)
 exact ⟨_, _, bs', by simp [Instr.alloc, h1, newVar, newRow], h3, h4, h5⟩
def boxD (st : ASt) (k : Nat) (x : PV) : Option (PV × ASt) := (cellsPV x).map fun cs => (.ptr 0 k 0, st.at k (.box cs))
theorem boxD_ok {n : Nat} {F : Fz} {bs : Bns} {st st' : ASt} {a : Act} {w : World} {t : TypeId} {x z : PV} {vx : Value} (h : ARel n F bs st a w) {k : Nat} (hkd : look st.fr 0 k = some .dead) (hx : VRel F bs st.fr x vx) (ha : boxD st k x = some (z, st')) :
  ∃ v w' bs', (Instr.box t vx).run P w = .ok v w' ∧ MRel F bs' st'.fr w' ∧ CStep F bs st.fr w F bs' st'.fr w' ∧ VRel F bs' st'.fr z v := by
 simp only [boxD, Option.map_eq_some_iff, Prod.mk.injEq] at ha
 obtain ⟨cs, hc, rfl, rfl⟩ := ha
 obtain ⟨bs', h3, h4, h5⟩ := box_dead h hkd cs vx.cells t (VRel.cells hc hx)
 exact ⟨_, _, bs', by simp [Instr.box, newVar, newRow], h3, h4, h5⟩

theorem row_dead {n : Nat} {F : Fz} {bs : Bns} {st : ASt} {a : Act} {w : World} (h : ARel n F bs st a w) {k : Nat} (hk : look st.fr 0 k = some .dead) (t sz : Nat) (rows : List (List Im)) (arr : Array Value) (hsz : 0 < sz) (hl : rows.length ≤ maxLen) (har : arr.size = rows.length * sz) (hrow : RowAt F arr sz rows) :
  ∃ bs', MRel F bs' (st.at k (.row t sz rows 0)).fr (w.alloc (.cells arr t)) ∧ CStep F bs st.fr w F bs' (st.at k (.row t sz rows 0)).fr (w.alloc (.cells arr t)) ∧ VRel F bs' (st.at k (.row t sz rows 0)).fr (.ms 0 k rows.length) (.slice (some ⟨w.heap.size, 0, none⟩) rows.length rows.length) := by
 obtain ⟨bs', h1, h2, h3, h4⟩ := dead_ok h hk (.row t sz rows 0) arr t rows.length (fun bs' hev => by
  refine ⟨hsz, Nat.le_refl _, hl, Nat.zero_le _, fun e => by simp at e, fun b hb => ?_⟩
  simp at hb
  subst hb
  exact ⟨arr, heap_alloc_new w _, har, hrow, fun q v hq => by rw [unfrozen_new h] at hq; simp at hq, fun q hq => by simp at hq⟩)
 exact ⟨bs', h1, h2, by simp only [VRel]; exact ⟨_, _, rfl, Nat.le_refl _, t, sz, rows, 0, _, h4, h3, Nat.le_refl _, fun _ => ⟨rfl, rfl⟩⟩⟩
def makeD (P : Program) (st : ASt) (k : Nat) (T : TypeId) (l c : PV) : Option (PV × ASt) :=
 match l, c with
 | .im (.int _ a), .im (.int _ b) => match elemT P T with
  | some e => match sizeT P e, bytesT P e, zeroImT P e with
   | some sz, some by_, some z => if a = b ∧ 0 ≤ a ∧ (by_ : Int) * a ≤ 281474976710656 ∧ a ≤ 9223372036854775807 ∧ z.length = sz ∧ 0 < sz then
     some (.ms 0 k a.toNat, st.at k (.row e sz (List.replicate a.toNat z) 0)) else none
   | _, _, _ => none
  | none => none
 | _, _ => none
theorem makeD_ok {n : Nat} {F : Fz} {bs : Bns} {st st' : ASt} {a : Act} {w : World} {T : TypeId} {l c z : PV} {vl vc : Value} (h : ARel n F bs st a w) {k : Nat} (hkd : look st.fr 0 k = some .dead) (hl : VRel F bs st.fr l vl) (hc : VRel F bs st.fr c vc) (hk : makeD P st k T l c = some (z, st')) :
  ∃ v w' bs', (Instr.makeSlice T vl vc).run P w = .ok v w' ∧ MRel F bs' st'.fr w' ∧ CStep F bs st.fr w F bs' st'.fr w' ∧ VRel F bs' st'.fr z v := by
 unfold makeD at hk
 split at hk
 ·rename_i k1 x k2 y
  simp only [VRel, IRel] at hl hc
  subst hl hc
  split at hk
  ·rename_i e he
   split at hk
   ·rename_i sz by_ zi hs hb hz
    split at hk
    ·rename_i hcond
     obtain ⟨rfl, h0, hbnd, hmx, hzl, hsz⟩ := hcond
     simp only [Option.some.injEq, Prod.mk.injEq] at hk
     obtain ⟨rfl, rfl⟩ := hk
     simp only [zeroImT, Option.bind_eq_some_iff] at hz
     obtain ⟨zs, hz1, hz2⟩ := hz
     obtain ⟨zv, hzr, hzv, i, hi, hiz⟩ := zeroT_run hz1 w
     have hisz : i.size = sz := by simp [sizeT, hi] at hs; exact hs
     have hiby : i.bytes = by_ := by simp [bytesT, hi] at hb; exact hb
     obtain ⟨hzlen, hzrel⟩ := imsPV_nil_rel (F := F) hz2 (fun bs fr => hzv F bs fr)
     have hzc : zv.cells.size = sz := by simp at hzlen; omega
     have hrun := run_make (P := P) w T e i zv (elemT_some he) hi hiz k1 k2 x x h0 (Int.le_refl _) (by rw [hiby]; exact hbnd) hmx
     rw [hisz] at hrun
     obtain ⟨bs', q1, q2, q3⟩ := row_dead h hkd e sz (List.replicate x.toNat zi) (madeCells zv.cells (x.toNat * sz)) hsz (by simp only [List.length_replicate, maxLen]; omega) (by simp [size_madeCells]) (fun i r hr => by
      rw [List.getElem?_replicate] at hr
      split at hr
      ·rename_i hi2
       simp only [Option.some.injEq] at hr
       subst hr
       refine ⟨hzl, fun q y hy => ?_⟩
       have hq := (List.getElem?_eq_some_iff.1 hy).1
       have hlt := idx_lt (sz := sz) hi2 (by omega : q < sz)
       refine ⟨_, madeCells_get _ _ _ hlt, ?_⟩
       rw [hzc, Nat.mul_comm, Nat.mul_add_mod, Nat.mod_eq_of_lt (by omega)]
       have hqs : q < zv.cells.size := by omega
       exact hzrel q y _ hy (by simp [hqs])
      ·simp at hr)
     simp only [List.length_replicate] at q3
     exact ⟨_, _, bs', hrun, q1, q2, q3⟩
    ·simp at hk
   ·simp at hk
  ·simp at hk
 ·simp at hk

theorem imPV_nil {fr : Frs} {x : PV} {y : Im} (h : imPV [] x = some y) : imPV fr x = some y := by
 cases x <;> simp only [imPV, reduceCtorEq] at h ⊢ <;> first
  | exact h
  | simp [fget] at h
theorem imsPV_nil {fr : Frs} : ∀ {xs : List PV} {ys : List Im}, imsPV [] xs = some ys → imsPV fr xs = some ys
 | [], ys, h => by simpa only [imsPV] using h
 | x :: xs, ys, h => by
  simp only [imsPV] at h ⊢
  split at h
  ·rename_i y ys' h1 h2
   rw [imPV_nil h1, imsPV_nil h2]
   exact h
  ·simp at h
theorem rowsOf_nil {fr : Frs} {sz : Nat} : ∀ {n : Nat} {cs : List PV} {rows : List (List Im)}, rowsOf [] sz n cs = some rows → rowsOf fr sz n cs = some rows
 | 0, cs, rows, h => by simpa only [rowsOf] using h
 | n + 1, cs, rows, h => by
  simp only [rowsOf] at h ⊢
  split at h
  ·rename_i r rs h1 h2
   rw [imsPV_nil h1, rowsOf_nil h2]
   exact h
  ·simp at h
def litD (P : Program) (st : ASt) (k : Nat) (T : TypeId) (len : Nat) (ps : List (Nat × PV)) : Option (PV × ASt) :=
 match elemT P T with
 | some e => match sizeT P e, zeroT P e with
  | some sz, some z => if 0 < sz ∧ z.length = sz ∧ len * sz ≤ 16777216 then (match fillPV (fun i => some (i * sz, sz)) (List.replicate len z).flatten ps with
    | some cs => match rowsOf [] sz len cs with
     | some rows => some (.ms 0 k len, st.at k (.row e sz rows 0))
     | none => none
    | none => none) else none
  | _, _ => none
 | none => none
theorem litD_ok {n : Nat} {F : Fz} {bs : Bns} {st st' : ASt} {a : Act} {w : World} {T : TypeId} {len : Nat} {ps : List (Nat × Operand)} {ys : List (Nat × PV)} {z : PV} (h : ARel n F bs st a w) {k : Nat} (hkd : look st.fr 0 k = some .dead) (he : evalParts st ps = some ys) (hk : litD P st k T len ys = some (z, st')) :
  ∃ v w' bs', (Instr.buildSlice T len (ps.map fun (i, x) => (i, a.eval x)).toArray).run P w = .ok v w' ∧ MRel F bs' st'.fr w' ∧ CStep F bs st.fr w F bs' st'.fr w' ∧ VRel F bs' st'.fr z v := by
 unfold litD at hk
 split at hk
 ·rename_i e hel
  split at hk
  ·rename_i sz zs hs hz
   split at hk
   ·rename_i hcond
    obtain ⟨hsz, hzl, hlim⟩ := hcond
    split at hk
    ·rename_i cs hfill
     split at hk
     ·rename_i rows hrows
      simp only [Option.some.injEq, Prod.mk.injEq] at hk
      obtain ⟨rfl, rfl⟩ := hk
      obtain ⟨zv, hzr, hzv, i, hi, hiz⟩ := zeroT_run hz w
      have hzc : zv.cells.size = sz := by have := (hzv F bs st.fr).length; simp at this; omega
      have h0 : VRels F bs st.fr (List.replicate len zs).flatten ((Array.range (len * sz)).map (zv.cells[· % zv.cells.size]!)).toList := by
       refine VRels.mk ?_ (fun q x v hx hv => ?_)
       ·simp [hzl]
       ·have hq : q < len * sz := by
         have := (List.getElem?_eq_some_iff.1 hv).1
         simpa using this
        rw [flatten_replicate_get zs len q (by rw [hzl]; exact hq), hzl] at hx
        have hqs : q % sz < zv.cells.size := by rw [hzc]; exact Nat.mod_lt _ hsz
        have hv2 : v = zv.cells[q % sz] := by
         have h1 : ((Array.range (len * sz)).map (zv.cells[· % zv.cells.size]!)).toList[q]? = some (zv.cells[q % zv.cells.size]!) := by simp [hq]
         rw [h1] at hv
         simp only [Option.some.injEq, hzc] at hv
         rw [← hv]
         simp [hqs]
        exact (hzv F bs st.fr).get' hx (by rw [hv2]; simp [hqs])
      obtain ⟨p1, p2⟩ := evalParts_ok h he
      obtain ⟨arr', h1, h2⟩ := fill_ok hfill p1 p2 h0
      obtain ⟨h3, h4⟩ := rowsOf_ok h.mem (rowsOf_nil hrows) h2
      have hal : arr'.size = len * sz := by
       have := h2.length
       rw [fillPV_length hfill] at this
       simpa [hzl] using this
      obtain ⟨bs', q1, q2, q3⟩ := row_dead h hkd e sz rows arr' hsz (by rw [h3]; simp only [maxLen]; have := Nat.le_mul_of_pos_right len hsz; omega) (by rw [h3]; exact hal) (by simpa using h4)
      rw [h3] at q3
      refine ⟨_, _, bs', ?_, q1, q2, q3⟩
      have hlim2 : ¬ (len * sz > 2 ^ 24) := by omega
      by_cases hls : len * sz = 0
      ·have e1 : ∀ f : Nat → Value, (Array.range (len * sz)).map f = #[] := fun f => by rw [hls]; simp
       rw [e1] at h1
       simp only [Instr.buildSlice, Sem.run_bind, run_underlying (elemT_some hel), Result.andThen_ok, run_sizeT hs, hlim2, if_false, if_pos hls, Sem.run_pure, List.toList_toArray, e1]
       rw [h1]
       simp [newRow]
      ·simp only [Instr.buildSlice, Sem.run_bind, run_underlying (elemT_some hel), Result.andThen_ok, run_sizeT hs, hlim2, if_false, hls, hzr, Sem.run_pure, List.toList_toArray]
       rw [h1]
       simp [newRow]
     ·simp at hk
    ·simp at hk
   ·simp at hk
  ·simp at hk
 ·simp at hk
end Go.Proofs.YtkjfdacjjogpcaaPi

