/- Slice literals that are data from their first moment on, and stopping ahead of an operation. No Go text in it. -/
import Derived.Test.YtkjfdacjjogpcaaPiArr
set_option linter.unusedVariables false
set_option linter.unusedSimpArgs false
namespace Go.Proofs.YtkjfdacjjogpcaaPi
variable {P : Program} {n : Nat} {Q : Exit → ASt → Prop} {st : ASt}
theorem flatR_get {α : Type} {sz : Nat} : ∀ {rows : List (List α)} (_ : ∀ r ∈ rows, r.length = sz) {j : Nat} {y : α}, rows.flatten[j]? = some y → ∃ i q r, j = i * sz + q ∧ rows[i]? = some r ∧ r[q]? = some y
 | [], _, j, y, h => by simp at h
 | r :: rs, hl, j, y, h => by
  rw [List.flatten_cons] at h
  have h0 := hl r (by simp)
  by_cases hj : j < r.length
  ·rw [List.getElem?_append_left hj] at h
   exact ⟨0, j, r, by simp, rfl, h⟩
  ·rw [List.getElem?_append_right (by omega)] at h
   obtain ⟨i, q, r', e, h1, h2⟩ := flatR_get (fun r hr => hl r (by simp [hr])) h
   exact ⟨i + 1, q, r', by rw [Nat.add_mul]; omega, by simpa using h1, h2⟩
theorem flatR_len {α : Type} {sz : Nat} : ∀ {rows : List (List α)} (_ : ∀ r ∈ rows, r.length = sz), rows.flatten.length = rows.length * sz
 | [], _ => by simp
 | r :: rs, hl => by rw [List.flatten_cons, List.length_append, hl r (by simp), flatR_len (fun r hr => hl r (by simp [hr])), List.length_cons, Nat.add_mul]; omega
theorem rows_of_flat {F : Fz} {b sz : Nat} : ∀ {rows : List (List Im)} {o : Nat} (_ : ∀ r ∈ rows, r.length = sz), ICells F b o rows.flatten → IRows F b sz o rows
 | [], o, _, _ => by simp [IRows]
 | r :: rs, o, hl, h => by
  have h0 := hl r (by simp)
  simp only [IRows]
  rw [List.flatten_cons] at h
  refine ⟨h0, ICells.mk fun q x hx => ?_, rows_of_flat (fun r hr => hl r (by simp [hr])) (ICells.mk fun q x hx => ?_)⟩
  ·have hq := (List.getElem?_eq_some_iff.1 hx).1
   exact h.get q x (by rw [List.getElem?_append_left hq]; exact hx)
  ·obtain ⟨v, h1, h2⟩ := h.get (sz + q) x (by rw [List.getElem?_append_right (by omega)]; rw [h0, Nat.add_sub_cancel_left]; exact hx)
   exact ⟨v, by rw [← h1]; congr 1; omega, h2⟩
def litF (P : Program) (st : ASt) (T : TypeId) (len : Nat) (ps : List (Nat × PV)) : Option (List (List Im)) :=
 match elemT P T with
 | some e => match sizeT P e, zeroT P e with
  | some sz, some z => if 0 < sz ∧ z.length = sz ∧ len * sz ≤ 16777216 then (match fillPV (fun i => some (i * sz, sz)) (List.replicate len z).flatten ps with
    | some cs => rowsOf st.fr sz len cs
    | none => none) else none
  | _, _ => none
 | none => none
theorem litF_ok {T : TypeId} {len : Nat} {ps : Array (Nat × Operand)} {ys : List (Nat × PV)} {rows : List (List Im)} (he : evalParts st ps.toList = some ys) (hk : litF P st T len ys = some rows) : OpOk P n st (.buildSlice T len ps) (.im (.sl rows)) st := fun F bs a w h o ho => by
 have epa : ps.map (fun (i, x) => (i, a.eval x)) = (ps.toList.map fun (i, x) => (i, a.eval x)).toArray := by apply Array.ext'; simp
 unfold litF at hk
 split at hk
 ·rename_i e hel
  split at hk
  ·rename_i sz zs hs hz
   split at hk
   ·rename_i hcond
    obtain ⟨hsz, hzl, hlim⟩ := hcond
    split at hk
    ·rename_i cs hfill
     have hrows := hk
     obtain ⟨zv, hzr, hzv, i, hi, hiz⟩ := zeroT_run hz w
     have hzc : zv.cells.size = sz := by have := (hzv F bs st.fr).length; simp at this; omega
     have h0 : VRels F bs st.fr (List.replicate len zs).flatten ((Array.range (len * sz)).map (zv.cells[· % zv.cells.size]!)).toList := by
      refine VRels.mk ?_ (fun q x v hx hv => ?_)
      ·simp [hzl]
      ·have hq : q < len * sz := by
        have := (List.getElem?_eq_some_iff.1 hv).1
        simpa using this
       rw [flatten_replicate_get zs len q (by rw [hzl]; exact hq), hzl] at hx
       have hqs : q % sz < zv.cells.size := by rw [hzc]; exact Nat.mod_lt _ hsz
       have hv2 : v = zv.cells[q % sz] := by
        have h1 : ((Array.range (len * sz)).map (zv.cells[· % zv.cells.size]!)).toList[q]? = some (zv.cells[q % zv.cells.size]!) := by simp [hq]
        rw [h1] at hv
        simp only [Option.some.injEq, hzc] at hv
        rw [← hv]
        simp [hqs]
       exact (hzv F bs st.fr).get' hx (by rw [hv2]; simp [hqs])
     obtain ⟨p1, p2⟩ := evalParts_ok h he
     obtain ⟨arr', h1, h2⟩ := fill_ok hfill p1 p2 h0
     obtain ⟨h3, h4⟩ := rowsOf_ok h.mem hrows h2
     have hal : arr'.size = len * sz := by
      have := h2.length
      rw [fillPV_length hfill] at this
      simpa [hzl] using this
     have hrl : ∀ r ∈ rows, r.length = sz := fun r hr => by
      obtain ⟨i, hi2⟩ := List.getElem?_of_mem hr
      exact (h4 i r hi2).1
     have hfl := flatR_len hrl
     obtain ⟨F', m1, m2, m3⟩ := new_data h.mem arr' e (ims := rows.flatten) (by rw [hfl, h3, hal]) (fun j y v hy hv => by
      obtain ⟨i, q, r, ej, g1, g2⟩ := flatR_get hrl hy
      obtain ⟨u, g3, g4⟩ := (h4 i r g1).2 q y g2
      have : u = v := by
       have e1 : arr'[i * sz + q]? = some u := by simpa using g3
       rw [ej, e1] at hv
       exact Option.some.inj hv
      exact this ▸ g4)
     have hlim2 : ¬ (len * sz > 2 ^ 24) := by omega
     have hrun : (Instr.buildSlice T len (ps.map fun (i, x) => (i, a.eval x))).run P w = .ok (.slice (some ⟨w.heap.size, 0, none⟩) len len) (w.alloc (.cells arr' e)) := by
      rw [epa]
      by_cases hls : len * sz = 0
      ·have e1 : ∀ f : Nat → Value, (Array.range (len * sz)).map f = #[] := fun f => by rw [hls]; simp
       rw [e1] at h1
       simp only [Instr.buildSlice, Sem.run_bind, run_underlying (elemT_some hel), Result.andThen_ok, run_sizeT hs, hlim2, if_false, if_pos hls, Sem.run_pure, List.toList_toArray, e1]
       rw [h1]
       simp [newRow]
      ·simp only [Instr.buildSlice, Sem.run_bind, run_underlying (elemT_some hel), Result.andThen_ok, run_sizeT hs, hlim2, if_false, hls, hzr, Sem.run_pure, List.toList_toArray]
       rw [h1]
       simp [newRow]
     refine ⟨_, _, _, F', bs, by simp only [execOp, ho, Sem.run_bind, hrun, Result.andThen_ok, Sem.run_pure]; rfl, .inl rfl, m1, m2, ?_, rfl⟩
     simp only [VRel, IRel]
     exact ⟨_, len, by rw [h3], by omega, fun hne => ⟨_, _, rfl, sz, rows_of_flat hrl m3⟩⟩
    ·simp at hk
   ·simp at hk
  ·simp at hk
 ·simp at hk
theorem GOps.litF {dst : Option Nat} {gd : Option (Nat × Bool)} {gs : List GO} {T : TypeId} {len : Nat} {ps : Array (Nat × Operand)} {ys : List (Nat × PV)} {rows : List (List Im)} (h : GOps P n gs Q (st.put dst (.im (.sl rows))))
  (hg : guardA st.env gd = some true := by rfl) (he : evalParts st ps.toList = some ys := by rfl) (hk : Go.Proofs.YtkjfdacjjogpcaaPi.litF P st T len ys = some rows := by (simp only [Go.Proofs.YtkjfdacjjogpcaaPi.litF, fx] <;> with_reducible rfl)) (hd : okDst n dst = true := by rfl) : GOps P n (⟨dst, .buildSlice T len ps, gd⟩ :: gs) Q st :=
 GOps.step hg (litF_ok he hk) hd h
/-! ### drawn statements -/
theorem imPV_any {x : PV} {y : Im} (fr : Frs) (h : imPV [[]] x = some y) : imPV fr x = some y := by
 cases x <;> simp only [imPV, look, fget, reduceCtorEq] at h ⊢
 ·exact h
 ·exact h
 ·rename_i d j n
  cases d <;> simp [fget] at h
 ·exact h
theorem imsPV_any (fr : Frs) : ∀ {xs : List PV} {ys : List Im}, imsPV [[]] xs = some ys → imsPV fr xs = some ys
 | [], ys, h => by simpa only [imsPV] using h
 | x :: xs, ys, h => by
  simp only [imsPV] at h ⊢
  split at h
  ·rename_i y ys' h1 h2
   rw [imPV_any fr h1, imsPV_any fr h2]
   exact h
  ·simp at h
theorem rowsOf_any (fr : Frs) (sz : Nat) : ∀ {n : Nat} {cs : List PV} {rows : List (List Im)}, rowsOf [[]] sz n cs = some rows → rowsOf fr sz n cs = some rows
 | 0, cs, rows, h => by simpa only [rowsOf] using h
 | n + 1, cs, rows, h => by
  simp only [rowsOf] at h ⊢
  split at h
  ·rename_i r rs h1 h2
   rw [imsPV_any fr h1, rowsOf_any fr sz h2]
   exact h
  ·simp at h
theorem litF_any {s : ASt} {T : TypeId} {len : Nat} {ps : List (Nat × PV)} {rows : List (List Im)} (h : litF P ⟨[], [], []⟩ T len ps = some rows) : litF P s T len ps = some rows := by
 unfold litF at h ⊢
 split at h
 ·rename_i e he
  split at h
  ·rename_i sz z hs hz
   split at h
   ·rename_i hc
    split at h
    ·rename_i cs hf
     simp only [hc, hs, hz, hf, and_self, if_true]
     exact rowsOf_any _ _ h
    ·simp at h
   ·simp at h
  ·simp at h
 ·simp at h
theorem DOps.litF {deps : List (List Nat)} {K : ASt → Prop} {gs : List GO} {acc : List Met} {dst : Option Nat} {gd : Option (Nat × Bool)} {T : TypeId} {len : Nat} {ps : Array (Nat × Operand)} {ys : List (Nat × PV)} {rows : List (List Im)} (hk : DOps P n deps gs (acc ++ [⟨[], [], [], []⟩]) (st.put dst (.im (.sl rows))) K)
  (hg : guardA st.env gd = some true := by rfl) (he : evalParts st ps.toList = some ys := by rfl) (hl : Go.Proofs.YtkjfdacjjogpcaaPi.litF P ⟨[], [], []⟩ T len ys = some rows := by (simp only [Go.Proofs.YtkjfdacjjogpcaaPi.litF, fx] <;> rfl)) (hd : okDst n dst = true := by rfl) (hq : refsOf st.fr (valsO st (opndsM (.buildSlice T len ps))) = [] := by rfl) : DOps P n deps (⟨dst, .buildSlice T len ps, gd⟩ :: gs) acc st K := by
 refine DOps.opX (.im (.sl rows)) [] [] hg hd (fun p hp => by simp at hp) (fun s hs ha => litF_ok (hs.evp (fun p hp => by simp only [opndsO, List.mem_map]; exact ⟨p, hp, rfl⟩) he) (litF_any hl)) ?_
 rw [hq]
 exact hk
theorem DOps.runA {deps : List (List Nat)} {K : ASt → Prop} (l2 : List GO) : ∀ {l : List GO} {acc : List Met} {st : ASt}, (runD P n l acc st).2.2 = [] → DOps P n deps l2 (runD P n l acc st).1 (runD P n l acc st).2.1 K → DOps P n deps (l ++ l2) acc st K
 | [], acc, st, _, h => h
 | g :: gs, acc, st, h0, h => by
  simp only [runD] at h h0
  split at h
  ·rename_i hd
   rw [if_pos hd] at h0
   split at h
   ·rename_i hg
    rw [hg] at h0
    simp only at h0
    split at h
    ·rename_i hp
     rw [if_pos hp] at h0
     split at h
     ·rename_i v st1 hs
      rw [hs] at h0
      simp only at h0
      obtain ⟨h1, h2⟩ := exe_pure hg hp hs hd
      refine DOps.cons h1 (actOf_self fun p hp => by simp at hp) actOf_fits h2 (DOps.runA l2 ?_ ?_)
      ·simpa [Actn.met, actOf] using h0
      ·simpa [Actn.met, actOf] using h
     ·rename_i hs
      rw [hs] at h0
      simp at h0
    ·rename_i hp
     rw [if_neg hp] at h0
     split at h
     ·rename_i r ht
      rw [ht] at h0
      simp only at h0
      split at h
      ·rename_i v st1 hs
       rw [hs] at h0
       simp only at h0
       obtain ⟨h1, h2⟩ := exe_write hg ht hs hd
       have hw : (turnedO st1 r).map (·.1) = [r] := by
        obtain ⟨o, h3, _, h4⟩ := stepW_local ht (actOf_sees (actOf_self (g := g) (v := v) (rd := []) (ws := []) (fun p hp => by simp at hp))).1 hs
        obtain ⟨o0, h5⟩ := Option.isSome_iff_exists.1 h4
        rw [turnedO, h3, ASt.setFr_fset, look, fget_fset_same _ _ _ _ _ h5]
        rfl
       refine DOps.cons h1 (actOf_self fun p hp => by simp at hp) actOf_fits h2 (DOps.runA l2 ?_ ?_)
       ·simpa [Actn.met, actOf, hw] using h0
       ·simpa [Actn.met, actOf, hw] using h
      ·rename_i hs
       rw [hs] at h0
       simp at h0
     ·rename_i ht
      rw [ht] at h0
      simp only at h0
      split at h
      ·rename_i k hk
       rw [hk] at h0
       simp only at h0
       split at h
       ·rename_i v st1 hs
        rw [hs] at h0
        simp only at h0
        have hkd : look st.fr 0 k = some .dead := by have := (spareAt_ok hk).2; simpa [ASt.fr] using this
        obtain ⟨h1, h2, h3⟩ := exe_fresh hkd hg hs hd
        have hw : (turnedO st1 (0, k)).map (·.1) = [(0, k)] := by
         obtain ⟨o, h4, _⟩ := stepD_local (actOf_sees (actOf_self (g := g) (v := v) (rd := []) (ws := []) (fun p hp => by simp at hp))).1 hs
         rw [turnedO, h4, ASt.at_fr, look, fget_fset_same _ _ _ _ _ hkd]
         rfl
        refine DOps.cons h1 h3 actOf_fits h2 (DOps.runA l2 ?_ ?_)
        ·simpa [Actn.met, actOf, hw] using h0
        ·simpa [Actn.met, actOf, hw] using h
       ·rename_i hs
        rw [hs] at h0
        simp at h0
      ·rename_i hk
       rw [hk] at h0
       simp at h0
   ·rename_i hg
    rw [hg] at h0
    simp only at h0
    refine DOps.cons (α := ⟨g.dst, .tup [], guardNeed st.env g.guard, [], [], [], []⟩) (st1 := st.put g.dst (.tup [])) (exe_skip hd rfl rfl rfl (fun s hs => guard_local hs.1 hg)) ⟨fun p hp => (needsA_in (st := st) (g := g) (List.mem_append_left _ hp)).2, fun p hp => by simp at hp, fun p hp => by simp at hp⟩ ⟨rfl, fun p hp => (needsA_in (st := st) (g := g) (List.mem_append_left _ hp)).1, fun p hp => by simp at hp⟩ rfl (DOps.runA l2 ?_ ?_)
    ·simpa [Actn.met] using h0
    ·simpa [Actn.met] using h
   ·rename_i hg
    rw [hg] at h0
    simp at h0
  ·rename_i hd
   rw [if_neg hd] at h0
   simp at h0
theorem DOps.sim1 {deps : List (List Nat)} {K : ASt → Prop} {g : GO} {gs : List GO} {acc acc' : List Met} {st' : ASt} (h : DOps P n deps gs acc' st' K) (hr : runD P n [g] acc st = (acc', st', []) := by (try simp only [fx, lookupV, updateV, lookupK, updateK, slicePV, pe0, pe1, pe2, pe3, pe4, pe5, pe6, pe7, pr0, pr1, Nat.reduceAdd, Nat.reduceMul, Nat.reduceLeDiff, Nat.reduceLT, Nat.reduceEqDiff, Nat.reduceBEq, Nat.reduceSub, reduceCtorEq, reduceIte, Int.reduceToNat, Int.reduceLE, Int.reduceEq, Int.reduceNe, Int.reduceBEq, Int.reduceBNe, Int.reduceLT, Int.reduceGT, Int.reduceGE, Int.reduceNeg]); with_reducible rfl) : DOps P n deps (g :: gs) acc st K := by
 have := DOps.runA (P := P) (n := n) (deps := deps) (K := K) gs (l := [g]) (acc := acc) (st := st) (by rw [hr]) (by rw [hr]; exact h)
 exact this
end Go.Proofs.YtkjfdacjjogpcaaPi

