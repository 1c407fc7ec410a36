/- Arrays as data: a struct laid into new memory that is never written, slices of arrays that are data, arrays of slices. No Go text in it. -/
import Derived.Test.YtdgpmopcmacicaaPiGo
set_option linter.unusedVariables false
set_option linter.unusedSimpArgs false
namespace Go.Proofs.YtdgpmopcmacicaaPi
variable {P : Program} {n : Nat} {Q : Exit → ASt → Prop} {st : ASt}

/-- A new block that is data from its first moment on. -/
theorem new_data {F : Fz} {bs : Bns} {fr : Frs} {w : World} (hm : MRel F bs fr w) (arr : Array Value) (t : TypeId) {ims : List Im} (hl : ims.length = arr.size) (h : ∀ (j : Nat) (y : Im) (v : Value), ims[j]? = some y → arr[j]? = some v → IRel F y v) :
    ∃ F', MRel F' bs fr (w.alloc (.cells arr t)) ∧ CStep F bs fr w F' bs fr (w.alloc (.cells arr t)) ∧ ICells F' w.heap.size 0 ims := by
  have hnone : ∀ q, F w.heap.size q = none := fun q => by
    cases hq : F w.heap.size q with
    | none => rfl
    | some u =>
      have := World.block_lt_of_cell? w _ (hm.fz _ _ _ hq)
      simp at this
  let F' : Fz := fun b q => if b = w.heap.size then arr[q]? else F b q
  have hle : Fz.le F F' := fun b q u hq => by
    show (if b = w.heap.size then _ else F b q) = some u
    rw [if_neg (fun e => by rw [e, hnone] at hq; simp at hq)]
    exact hq
  have hmm := hm.change (F' := F') (w' := w.alloc (.cells arr t)) hm.shape hle (.refl _ _) (fun d j o a h1 h2 => .inl ⟨h1, h2, fun b hb hlv => by
      have hlt := hm.own_lt (d := d) (j := j) (b := b) ⟨o, a.2, h1, hlv, by rw [h2, ← hb]⟩
      exact ⟨heap_alloc_old w _ hlt, fun q => if_neg (by omega)⟩⟩) hm.inj (fun b q v hv => by
      by_cases hb : b = w.heap.size
      · subst hb
        refine (cell_of_row (w.alloc (.cells arr t)) w.heap.size q arr t (0, 0) (heap_alloc_new w _)).trans ?_
        simpa only [F', if_true] using hv
      · have hv' : F b q = some v := by simpa only [F', hb, if_false] using hv
        have hcell := hm.fz b q v hv'
        have hlt := World.block_lt_of_cell? w _ hcell
        rw [← hcell]
        exact World.cell?_of_block (heap_alloc_old w _ hlt))
  refine ⟨F', hmm, ⟨hle, .refl _ _, ⟨rfl, rfl, rfl, by simp, fun b hb _ => heap_alloc_old w _ hb⟩, .refl _ _ _⟩, ICells.mk fun j x hx => ?_⟩
  have hj := (List.getElem?_eq_some_iff.1 hx).1
  have ha : arr[j]? = some arr[j] := Array.getElem?_eq_getElem (by omega)
  refine ⟨arr[j], ?_, (h j x _ hx ha).mono hle⟩
  show (if w.heap.size = w.heap.size then arr[0 + j]? else _) = _
  rw [if_pos rfl, Nat.zero_add, ha]
/-- 'box' of data: a pointer to data. -/
theorem boxF_ok {t : TypeId} {x : Operand} {u : PV} {cs : List PV} {ims : List Im} (hx : evalPV st x = some u) (hc : cellsPV u = some cs) (hi : imsPV st.fr cs = some ims) : OpOk P n st (.box t x) (.iptr ims) st := fun F bs a w hr o ho => by
  have hv := VRel.cells hc (evalPV_rel hr hx)
  obtain ⟨h1, h2⟩ := imsPV_rel hr.mem hi hv
  have hl := hv.length
  obtain ⟨F', h3, h4, h5⟩ := new_data hr.mem (a.eval x).cells t (ims := ims) (by rw [h1, ← hl]; simp) (fun j y v hy hv => h2 j y v hy (by simpa using hv))
  refine ⟨.value (.pointer (some ⟨w.heap.size, 0, none⟩)), .pointer (some ⟨w.heap.size, 0, none⟩), w.alloc (.cells (a.eval x).cells t), F', bs, by simp [execOp, ho, Instr.box, newVar, newRow], .inl rfl, h3, h4, ?_, rfl⟩
  simp only [VRel]
  exact ⟨_, _, rfl, h5⟩
theorem GOps.boxF {dst : Option Nat} {gd : Option (Nat × Bool)} {gs : List GO} {t : TypeId} {x : Operand} {u : PV} {cs : List PV} (ims : List Im) (h : GOps P n gs Q (st.put dst (.iptr ims)))
    (hg : guardA st.env gd = some true := by rfl) (hx : evalPV st x = some u := by rfl) (hc : cellsPV u = some cs := by rfl) (hi : imsPV st.fr cs = some ims := by rfl) (hd : okDst n dst = true := by rfl) : GOps P n (⟨dst, .box t x, gd⟩ :: gs) Q st :=
  GOps.step hg (boxF_ok hx hc hi) hd h
theorem rows_of_cells {F : Fz} {b : Nat} : ∀ {cs : List Im} {o : Nat}, ICells F b o cs → IRows F b 1 o (cs.map fun c => [c]) := fun {cs o} h => IRows.mk fun i r hr => by
  rw [List.getElem?_map, Option.map_eq_some_iff] at hr
  obtain ⟨c, hc, rfl⟩ := hr
  obtain ⟨v, h1, h2⟩ := h.get i c hc
  refine ⟨rfl, ICells.mk fun q x hx => ?_⟩
  cases q with
  | succ q => simp at hx
  | zero => simp at hx; subst hx; exact ⟨v, by simpa using h1, h2⟩
theorem ICells.take {F : Fz} {b : Nat} {cs : List Im} {o : Nat} (h : ICells F b o cs) (m : Nat) : ICells F b o (cs.take m) := ICells.mk fun j x hx => by
  rw [List.getElem?_take] at hx
  split at hx
  · exact h.get j x hx
  · simp at hx
/-- A whole array, as a slice. -/
theorem sliceArr_ok {t e : TypeId} {x : Operand} {cs : List Im} {N : Nat} (hx : evalPV st x = some (.iptr cs)) (ht : arrT P t = some (N, e)) (hs : sizeT P e = some 1) (hn : N ≤ cs.length) : OpOk P n st (.slice t x none none none) (.im (.sl ((cs.take N).map fun c => [c]))) st := fun F bs a w hr o ho => by
  have hv := evalPV_rel hr hx
  simp only [VRel] at hv
  obtain ⟨b, o', hv, hc⟩ := hv
  have hu := arrT_some ht
  have hsz := run_sizeT hs
  refine ⟨.value (.slice (some ⟨b, o', none⟩) N N), .slice (some ⟨b, o', none⟩) N N, w, F, bs, by simp [execOp, ho, hv, Instr.sliceAt, run_underlying hu, Instr.sureAddr, Instr.sliceBounds, hsz, add_none], .inl rfl, hr.mem, .refl _ _ _ _, ?_, rfl⟩
  simp only [VRel, IRel]
  have hl : ((cs.take N).map fun c => [c]).length = N := by simp [Nat.min_eq_left hn]
  exact ⟨_, N, by rw [hl], by omega, fun hne => ⟨b, o', rfl, 1, rows_of_cells (hc.take N)⟩⟩
theorem DOps.sliceArr {deps : List (List Nat)} {K : ASt → Prop} {gs : List GO} {acc : List Met} {dst : Option Nat} {gd : Option (Nat × Bool)} {t e : TypeId} {x : Operand} {cs : List Im} (N : Nat) (hk : DOps P n deps gs (acc ++ [⟨[], [], [], []⟩]) (st.put dst (.im (.sl ((cs.take N).map fun c => [c])))) K) 
    (hg : guardA st.env gd = some true := by rfl) (hd : okDst n dst = true := by rfl) (hx : evalPV st x = some (.iptr cs) := by rfl) (ht : arrT P t = some (N, e) := by (simp only [fx] <;> with_reducible rfl)) (hs : sizeT P e = some 1 := by (simp only [fx] <;> with_reducible rfl)) (hn : N ≤ cs.length := by simp) :
    DOps P n deps (⟨dst, .slice t x none none none, gd⟩ :: gs) acc st K := by
  refine DOps.opX (.im (.sl ((cs.take N).map fun c => [c]))) [] [] hg hd (fun p hp => by simp at hp) (fun s hs' ha => sliceArr_ok (hs'.ev (x := x) (by simp [opndsO]) hx) ht hs hn) ?_
  have e : (refsOf st.fr (valsO st (opndsM (.slice t x none none none))) ++ ([] : List (Ref × AObj))).map (·.1) = [] := by simp [opndsM, valsO, hx, refsOf, refOf]
  rw [e]
  exact hk
/-- The array behind a slice that is data. -/
theorem arrAt_ok {t e : TypeId} {x : Operand} {rows : List (List Im)} {N : Nat} (hx : evalPV st x = some (.im (.sl rows))) (ht : arrT P t = some (N, e)) (hn : N ≤ rows.length) (h0 : 0 < N) : OpOk P n st (.sliceToArrayPointer t x) (.iptr rows.flatten) st := fun F bs a w hr o ho => by
  have hv := evalPV_rel hr hx
  simp only [VRel, IRel] at hv
  obtain ⟨A, c, hv, hc, hrow⟩ := hv
  obtain ⟨b, o', rfl, sz, hrs⟩ := hrow (by intro e; rw [e] at hn; simp at hn; omega)
  have hu := arrT_some ht
  refine ⟨.value (.pointer (some ⟨b, o', none⟩)), .pointer (some ⟨b, o', none⟩), w, F, bs, by simp [execOp, ho, hv, Instr.arrayAt, run_underlying hu, Nat.not_lt.2 hn], .inl rfl, hr.mem, .refl _ _ _ _, ?_, rfl⟩
  simp only [VRel]
  refine ⟨b, o', rfl, ?_⟩
  have main : ∀ (rows : List (List Im)) (o : Nat), IRows F b sz o rows → ICells F b o rows.flatten := by
    intro rows
    induction rows with
    | nil => intro o _; simp [ICells]
    | cons r rs ih =>
      intro o h
      simp only [IRows] at h
      obtain ⟨h1, h2, h3⟩ := h
      rw [List.flatten_cons]
      refine ICells.mk fun q x hx => ?_
      by_cases hq : q < r.length
      · rw [List.getElem?_append_left hq] at hx
        exact h2.get q x hx
      · rw [List.getElem?_append_right (by omega)] at hx
        obtain ⟨v, h4, h5⟩ := (ih _ h3).get _ x hx
        exact ⟨v, by rw [← h4]; congr 1; omega, h5⟩
  exact main rows o' hrs
theorem DOps.arrAt {deps : List (List Nat)} {K : ASt → Prop} {gs : List GO} {acc : List Met} {dst : Option Nat} {gd : Option (Nat × Bool)} {t e : TypeId} {x : Operand} {rows : List (List Im)} (N : Nat) (hk : DOps P n deps gs (acc ++ [⟨[], [], [], []⟩]) (st.put dst (.iptr rows.flatten)) K) (h0 : 0 < N)
    (hg : guardA st.env gd = some true := by rfl) (hd : okDst n dst = true := by rfl) (hx : evalPV st x = some (.im (.sl rows)) := by rfl) (ht : arrT P t = some (N, e) := by (simp only [fx] <;> with_reducible rfl)) (hn : N ≤ rows.length := by simp) :
    DOps P n deps (⟨dst, .sliceToArrayPointer t x, gd⟩ :: gs) acc st K := by
  refine DOps.opX (.iptr rows.flatten) [] [] hg hd (fun p hp => by simp at hp) (fun s hs' ha => arrAt_ok (hs'.ev (x := x) (by simp [opndsO]) hx) ht hn h0) ?_
  have e : (refsOf st.fr (valsO st (opndsM (.sliceToArrayPointer t x))) ++ ([] : List (Ref × AObj))).map (·.1) = [] := by simp [opndsM, valsO, refsOf]
  rw [e]
  exact hk
/-- A plain field of a struct value. -/
def fieldS (P : Program) (t : TypeId) (f : Nat) : Option Nat := match P.underlying t with
  | some (.struct fs) => match fs[f]? with
    | some x => if scalT P x.type then some x.offset else none
    | none => none
  | _ => none
theorem field_ok {t : TypeId} {f off : Nat} {x : Operand} {cs : List PV} {v : PV} (hx : evalPV st x = some (.agg cs)) (hf : fieldS P t f = some off) (hc : cs[off]? = some v) : OpOk P n st (.field t x f) v st := fun F bs a w hr o ho => by
  have hv := evalPV_rel hr hx
  simp only [VRel] at hv
  obtain ⟨vs, hv, hcs⟩ := hv
  unfold fieldS at hf
  split at hf
  · rename_i fs hu
    split at hf
    · rename_i y hy
      split at hf
      · rename_i hsc
        simp only [Option.some.injEq] at hf
        subst hf
        obtain ⟨u, hu1, hu2⟩ := hcs.get _ _ hc
        have hp := run_part_scal (P := P) hsc vs y.offset u (by simpa using hu1) w
        exact ⟨.value u, u, w, F, bs, by simp [execOp, ho, hv, Instr.field, run_underlying hu, hy, asAgg, hp], .inl rfl, hr.mem, .refl _ _ _ _, hu2, rfl⟩
      · simp at hf
    · simp at hf
  · simp at hf
theorem GOps.field {dst : Option Nat} {gd : Option (Nat × Bool)} {gs : List GO} {t : TypeId} {x : Operand} {f off : Nat} {cs : List PV} (v : PV) (hf : fieldS P t f = some off) (h : GOps P n gs Q (st.put dst v))
    (hg : guardA st.env gd = some true := by rfl) (hx : evalPV st x = some (.agg cs) := by rfl) (hc : cs[off]? = some v := by rfl) (hd : okDst n dst = true := by rfl) : GOps P n (⟨dst, .field t x f, gd⟩ :: gs) Q st :=
  GOps.step hg (field_ok hx hf hc) hd h
end Go.Proofs.YtdgpmopcmacicaaPi
