/- Slice literals that are data from their first moment on, and stopping ahead of an operation. No Go text in it. -/
import Derived.Test.YtdgpmopcmacicaaPiArr
set_option linter.unusedVariables false
set_option linter.unusedSimpArgs false
namespace Go.Proofs.YtdgpmopcmacicaaPi
variable {P : Program} {n : Nat} {Q : Exit → ASt → Prop} {st : ASt}
theorem flatR_get {α : Type} {sz : Nat} : ∀ {rows : List (List α)} (_ : ∀ r ∈ rows, r.length = sz) {j : Nat} {y : α}, rows.flatten[j]? = some y → ∃ i q r, j = i * sz + q ∧ rows[i]? = some r ∧ r[q]? = some y
  | [], _, j, y, h => by simp at h
  | r :: rs, hl, j, y, h => by
    rw [List.flatten_cons] at h
    have h0 := hl r (by simp)
    by_cases hj : j < r.length
    · rw [List.getElem?_append_left hj] at h
      exact ⟨0, j, r, by simp, rfl, h⟩
    · rw [List.getElem?_append_right (by omega)] at h
      obtain ⟨i, q, r', e, h1, h2⟩ := flatR_get (fun r hr => hl r (by simp [hr])) h
      exact ⟨i + 1, q, r', by rw [Nat.add_mul]; omega, by simpa using h1, h2⟩
theorem flatR_len {α : Type} {sz : Nat} : ∀ {rows : List (List α)} (_ : ∀ r ∈ rows, r.length = sz), rows.flatten.length = rows.length * sz
  | [], _ => by simp
  | r :: rs, hl => by rw [List.flatten_cons, List.length_append, hl r (by simp), flatR_len (fun r hr => hl r (by simp [hr])), List.length_cons, Nat.add_mul]; omega
theorem rows_of_flat {F : Fz} {b sz : Nat} : ∀ {rows : List (List Im)} {o : Nat} (_ : ∀ r ∈ rows, r.length = sz), ICells F b o rows.flatten → IRows F b sz o rows
  | [], o, _, _ => by simp [IRows]
  | r :: rs, o, hl, h => by
    have h0 := hl r (by simp)
    simp only [IRows]
    rw [List.flatten_cons] at h
    refine ⟨h0, ICells.mk fun q x hx => ?_, rows_of_flat (fun r hr => hl r (by simp [hr])) (ICells.mk fun q x hx => ?_)⟩
    · have hq := (List.getElem?_eq_some_iff.1 hx).1
      exact h.get q x (by rw [List.getElem?_append_left hq]; exact hx)
    · obtain ⟨v, h1, h2⟩ := h.get (sz + q) x (by rw [List.getElem?_append_right (by omega)]; rw [h0, Nat.add_sub_cancel_left]; exact hx)
      exact ⟨v, by rw [← h1]; congr 1; omega, h2⟩
/-- The rows of a slice literal. -/
def litF (P : Program) (st : ASt) (T : TypeId) (len : Nat) (ps : List (Nat × PV)) : Option (List (List Im)) :=
  match elemT P T with
  | some e => match sizeT P e, zeroT P e with
    | some sz, some z => if 0 < sz ∧ z.length = sz ∧ len * sz ≤ 16777216 then (match fillPV (fun i => some (i * sz, sz)) (List.replicate len z).flatten ps with
        | some cs => rowsOf st.fr sz len cs
        | none => none) else none
    | _, _ => none
  | none => none
theorem litF_ok {T : TypeId} {len : Nat} {ps : Array (Nat × Operand)} {ys : List (Nat × PV)} {rows : List (List Im)} (he : evalParts st ps.toList = some ys) (hk : litF P st T len ys = some rows) : OpOk P n st (.buildSlice T len ps) (.im (.sl rows)) st := fun F bs a w h o ho => by
  have epa : ps.map (fun (i, x) => (i, a.eval x)) = (ps.toList.map fun (i, x) => (i, a.eval x)).toArray := by apply Array.ext'; simp
  unfold litF at hk
  split at hk
  · rename_i e hel
    split at hk
    · rename_i sz zs hs hz
      split at hk
      · rename_i hcond
        obtain ⟨hsz, hzl, hlim⟩ := hcond
        split at hk
        · rename_i cs hfill
          have hrows := hk
          obtain ⟨zv, hzr, hzv, i, hi, hiz⟩ := zeroT_run hz w
          have hzc : zv.cells.size = sz := by have := (hzv F bs st.fr).length; simp at this; omega
          have h0 : VRels F bs st.fr (List.replicate len zs).flatten ((Array.range (len * sz)).map (zv.cells[· % zv.cells.size]!)).toList := by
            refine VRels.mk ?_ (fun q x v hx hv => ?_)
            · simp [hzl]
            · have hq : q < len * sz := by
                have := (List.getElem?_eq_some_iff.1 hv).1
                simpa using this
              rw [flatten_replicate_get zs len q (by rw [hzl]; exact hq), hzl] at hx
              have hqs : q % sz < zv.cells.size := by rw [hzc]; exact Nat.mod_lt _ hsz
              have hv2 : v = zv.cells[q % sz] := by
                have h1 : ((Array.range (len * sz)).map (zv.cells[· % zv.cells.size]!)).toList[q]? = some (zv.cells[q % zv.cells.size]!) := by simp [hq]
                rw [h1] at hv
                simp only [Option.some.injEq, hzc] at hv
                rw [← hv]
                simp [hqs]
              exact (hzv F bs st.fr).get' hx (by rw [hv2]; simp [hqs])
          obtain ⟨p1, p2⟩ := evalParts_ok h he
          obtain ⟨arr', h1, h2⟩ := fill_ok hfill p1 p2 h0
          obtain ⟨h3, h4⟩ := rowsOf_ok h.mem hrows h2
          have hal : arr'.size = len * sz := by
            have := h2.length
            rw [fillPV_length hfill] at this
            simpa [hzl] using this
          have hrl : ∀ r ∈ rows, r.length = sz := fun r hr => by
            obtain ⟨i, hi2⟩ := List.getElem?_of_mem hr
            exact (h4 i r hi2).1
          have hfl := flatR_len hrl
          obtain ⟨F', m1, m2, m3⟩ := new_data h.mem arr' e (ims := rows.flatten) (by rw [hfl, h3, hal]) (fun j y v hy hv => by
            obtain ⟨i, q, r, ej, g1, g2⟩ := flatR_get hrl hy
            obtain ⟨u, g3, g4⟩ := (h4 i r g1).2 q y g2
            have : u = v := by
              have e1 : arr'[i * sz + q]? = some u := by simpa using g3
              rw [ej, e1] at hv
              exact Option.some.inj hv
            exact this ▸ g4)
          have hlim2 : ¬ (len * sz > 2 ^ 24) := by omega
          have hrun : (Instr.buildSlice T len (ps.map fun (i, x) => (i, a.eval x))).run P w = .ok (.slice (some ⟨w.heap.size, 0, none⟩) len len) (w.alloc (.cells arr' e)) := by
            rw [epa]
            by_cases hls : len * sz = 0
            · have e1 : ∀ f : Nat → Value, (Array.range (len * sz)).map f = #[] := fun f => by rw [hls]; simp
              rw [e1] at h1
              simp only [Instr.buildSlice, Sem.run_bind, run_underlying (elemT_some hel), Result.andThen_ok, run_sizeT hs, hlim2, if_false, if_pos hls, Sem.run_pure, List.toList_toArray, e1]
              rw [h1]
              simp [newRow]
            · simp only [Instr.buildSlice, Sem.run_bind, run_underlying (elemT_some hel), Result.andThen_ok, run_sizeT hs, hlim2, if_false, hls, hzr, Sem.run_pure, List.toList_toArray]
              rw [h1]
              simp [newRow]
          refine ⟨_, _, _, F', bs, by simp only [execOp, ho, Sem.run_bind, hrun, Result.andThen_ok, Sem.run_pure]; rfl, .inl rfl, m1, m2, ?_, rfl⟩
          simp only [VRel, IRel]
          exact ⟨_, len, by rw [h3], by omega, fun hne => ⟨_, _, rfl, sz, rows_of_flat hrl m3⟩⟩
        · simp at hk
      · simp at hk
    · simp at hk
  · simp at hk
theorem GOps.litF {dst : Option Nat} {gd : Option (Nat × Bool)} {gs : List GO} {T : TypeId} {len : Nat} {ps : Array (Nat × Operand)} {ys : List (Nat × PV)} {rows : List (List Im)} (h : GOps P n gs Q (st.put dst (.im (.sl rows))))
    (hg : guardA st.env gd = some true := by rfl) (he : evalParts st ps.toList = some ys := by rfl) (hk : Go.Proofs.YtdgpmopcmacicaaPi.litF P st T len ys = some rows := by (simp only [Go.Proofs.YtdgpmopcmacicaaPi.litF, fx] <;> with_reducible rfl)) (hd : okDst n dst = true := by rfl) : GOps P n (⟨dst, .buildSlice T len ps, gd⟩ :: gs) Q st :=
  GOps.step hg (litF_ok he hk) hd h
/-! ### drawn statements -/
theorem imPV_any {x : PV} {y : Im} (fr : Frs) (h : imPV [[]] x = some y) : imPV fr x = some y := by
  cases x <;> simp only [imPV, look, fget, reduceCtorEq] at h ⊢
  · exact h
  · exact h
  · rename_i d j n
    cases d <;> simp [fget] at h
  · exact h
theorem imsPV_any (fr : Frs) : ∀ {xs : List PV} {ys : List Im}, imsPV [[]] xs = some ys → imsPV fr xs = some ys
  | [], ys, h => by simpa only [imsPV] using h
  | x :: xs, ys, h => by
    simp only [imsPV] at h ⊢
    split at h
    · rename_i y ys' h1 h2
      rw [imPV_any fr h1, imsPV_any fr h2]
      exact h
    · simp at h
theorem rowsOf_any (fr : Frs) (sz : Nat) : ∀ {n : Nat} {cs : List PV} {rows : List (List Im)}, rowsOf [[]] sz n cs = some rows → rowsOf fr sz n cs = some rows
  | 0, cs, rows, h => by simpa only [rowsOf] using h
  | n + 1, cs, rows, h => by
    simp only [rowsOf] at h ⊢
    split at h
    · rename_i r rs h1 h2
      rw [imsPV_any fr h1, rowsOf_any fr sz h2]
      exact h
    · simp at h
theorem litF_any {s : ASt} {T : TypeId} {len : Nat} {ps : List (Nat × PV)} {rows : List (List Im)} (h : litF P ⟨[], [], []⟩ T len ps = some rows) : litF P s T len ps = some rows := by
  unfold litF at h ⊢
  split at h
  · rename_i e he
    split at h
    · rename_i sz z hs hz
      split at h
      · rename_i hc
        split at h
        · rename_i cs hf
          simp only [hc, hs, hz, hf, and_self, if_true]
          exact rowsOf_any _ _ h
        · simp at h
      · simp at h
    · simp at h
  · simp at h
theorem DOps.litF {deps : List (List Nat)} {K : ASt → Prop} {gs : List GO} {acc : List Met} {dst : Option Nat} {gd : Option (Nat × Bool)} {T : TypeId} {len : Nat} {ps : Array (Nat × Operand)} {ys : List (Nat × PV)} {rows : List (List Im)} (hk : DOps P n deps gs (acc ++ [⟨[], [], [], []⟩]) (st.put dst (.im (.sl rows))) K)
    (hg : guardA st.env gd = some true := by rfl) (he : evalParts st ps.toList = some ys := by rfl) (hl : Go.Proofs.YtdgpmopcmacicaaPi.litF P ⟨[], [], []⟩ T len ys = some rows := by (simp only [Go.Proofs.YtdgpmopcmacicaaPi.litF, fx] <;> rfl)) (hd : okDst n dst = true := by rfl) (hq : refsOf st.fr (valsO st (opndsM (.buildSlice T len ps))) = [] := by rfl) : DOps P n deps (⟨dst, .buildSlice T len ps, gd⟩ :: gs) acc st K := by
  refine DOps.opX (.im (.sl rows)) [] [] hg hd (fun p hp => by simp at hp) (fun s hs ha => litF_ok (hs.evp (fun p hp => by simp only [opndsO, List.mem_map]; exact ⟨p, hp, rfl⟩) he) (litF_any hl)) ?_
  rw [hq]
  exact hk
/-- The first operations, as many as are named. -/
theorem DOps.runA {deps : List (List Nat)} {K : ASt → Prop} (l2 : List GO) : ∀ {l : List GO} {acc : List Met} {st : ASt}, (runD P n l acc st).2.2 = [] → DOps P n deps l2 (runD P n l acc st).1 (runD P n l acc st).2.1 K → DOps P n deps (l ++ l2) acc st K
  | [], acc, st, _, h => h
  | g :: gs, acc, st, h0, h => by
    simp only [runD] at h h0
    split at h
    · rename_i hd
      rw [if_pos hd] at h0
      split at h
      · rename_i hg
        rw [hg] at h0
        simp only at h0
        split at h
        · rename_i hp
          rw [if_pos hp] at h0
          split at h
          · rename_i v st1 hs
            rw [hs] at h0
            simp only at h0
            obtain ⟨h1, h2⟩ := exe_pure hg hp hs hd
            refine DOps.cons h1 (actOf_self fun p hp => by simp at hp) actOf_fits h2 (DOps.runA l2 ?_ ?_)
            · simpa [Actn.met, actOf] using h0
            · simpa [Actn.met, actOf] using h
          · rename_i hs
            rw [hs] at h0
            simp at h0
        · rename_i hp
          rw [if_neg hp] at h0
          split at h
          · rename_i r ht
            rw [ht] at h0
            simp only at h0
            split at h
            · rename_i v st1 hs
              rw [hs] at h0
              simp only at h0
              obtain ⟨h1, h2⟩ := exe_write hg ht hs hd
              have hw : (turnedO st1 r).map (·.1) = [r] := by
                obtain ⟨o, h3, _, h4⟩ := stepW_local ht (actOf_sees (actOf_self (g := g) (v := v) (rd := []) (ws := []) (fun p hp => by simp at hp))).1 hs
                obtain ⟨o0, h5⟩ := Option.isSome_iff_exists.1 h4
                rw [turnedO, h3, ASt.setFr_fset, look, fget_fset_same _ _ _ _ _ h5]
                rfl
              refine DOps.cons h1 (actOf_self fun p hp => by simp at hp) actOf_fits h2 (DOps.runA l2 ?_ ?_)
              · simpa [Actn.met, actOf, hw] using h0
              · simpa [Actn.met, actOf, hw] using h
            · rename_i hs
              rw [hs] at h0
              simp at h0
          · rename_i ht
            rw [ht] at h0
            simp only at h0
            split at h
            · rename_i k hk
              rw [hk] at h0
              simp only at h0
              split at h
              · rename_i v st1 hs
                rw [hs] at h0
                simp only at h0
                have hkd : look st.fr 0 k = some .dead := by have := (spareAt_ok hk).2; simpa [ASt.fr] using this
                obtain ⟨h1, h2, h3⟩ := exe_fresh hkd hg hs hd
                have hw : (turnedO st1 (0, k)).map (·.1) = [(0, k)] := by
                  obtain ⟨o, h4, _⟩ := stepD_local (actOf_sees (actOf_self (g := g) (v := v) (rd := []) (ws := []) (fun p hp => by simp at hp))).1 hs
                  rw [turnedO, h4, ASt.at_fr, look, fget_fset_same _ _ _ _ _ hkd]
                  rfl
                refine DOps.cons h1 h3 actOf_fits h2 (DOps.runA l2 ?_ ?_)
                · simpa [Actn.met, actOf, hw] using h0
                · simpa [Actn.met, actOf, hw] using h
              · rename_i hs
                rw [hs] at h0
                simp at h0
            · rename_i hk
              rw [hk] at h0
              simp at h0
      · rename_i hg
        rw [hg] at h0
        simp only at h0
        refine DOps.cons (α := ⟨g.dst, .tup [], guardNeed st.env g.guard, [], [], [], []⟩) (st1 := st.put g.dst (.tup [])) (exe_skip hd rfl rfl rfl (fun s hs => guard_local hs.1 hg)) ⟨fun p hp => (needsA_in (st := st) (g := g) (List.mem_append_left _ hp)).2, fun p hp => by simp at hp, fun p hp => by simp at hp⟩ ⟨rfl, fun p hp => (needsA_in (st := st) (g := g) (List.mem_append_left _ hp)).1, fun p hp => by simp at hp⟩ rfl (DOps.runA l2 ?_ ?_)
        · simpa [Actn.met] using h0
        · simpa [Actn.met] using h
      · rename_i hg
        rw [hg] at h0
        simp at h0
    · rename_i hd
      rw [if_neg hd] at h0
      simp at h0
/-- A cell of a box is met: the rest of the box may turn meanwhile. -/
theorem DOps.loadS {deps : List (List Nat)} {K : ASt → Prop} {gs : List GO} {acc : List Met} {dst : Option Nat} {gd : Option (Nat × Bool)} {t : TypeId} {x : Operand} {d j c m : Nat} {cs : List PV} {v0 : PV} (hk : DOps P n deps gs (acc ++ [⟨[], [], [((d, j), c)], []⟩]) (st.put dst (v0.upN d)) K)
    (hx : evalPV st x = some (.ptr d j c) := by rfl) (hl : fget st.fr d j = some (.box cs) := by rfl) (hc : cs[c]? = some v0 := by rfl) (hs : sizeT P t = some m := by (simp only [fx] <;> with_reducible rfl)) (ha : aggT P t = some false := by (simp only [fx] <;> with_reducible rfl))
    (hg : guardA st.env gd = some true := by rfl) (hd : okDst n dst = true := by rfl) : DOps P n deps (⟨dst, .load t x, gd⟩ :: gs) acc st K := by
  refine DOps.cons (g := ⟨dst, .load t x, gd⟩) (α := ⟨dst, v0.upN d, needsA st ⟨dst, .load t x, gd⟩, [], [], [((d, j), c, v0)], []⟩) (st1 := st.put dst (v0.upN d)) (exe_op hd rfl (fun s hs' => guard_local (fun p hp => hs'.1 p (by simp only [needsA, List.mem_append]; exact .inl hp)) hg) (fun s hs' => ?_)) ⟨fun p hp => (needsA_in hp).2, fun p hp => by simp at hp, fun p hp => ?_⟩ ⟨rfl, fun p hp => (needsA_in hp).1, fun p hp => by simp at hp⟩ rfl hk
  · have h1 : evalPV s x = some (.ptr d j c) := needsOf_eval (st := st) (xs := opndsO (.load t x)) (fun p hp => hs'.1 p (by simp only [needsA, List.mem_append]; exact .inr hp)) x (by simp [opndsO]) _ hx
    have h2 := hs'.2.2 ((d, j), c, v0) (by simp)
    simp only [cellAt, Option.bind_eq_some_iff] at h2
    obtain ⟨o, h3, h4⟩ := h2
    cases o with
    | box cs' =>
      simp only [cellOf] at h4
      have h5 : loadPV P s.fr t (.ptr d j c) = some (v0.upN d) := by simp only [loadPV, h3, hs, ha, h4, Option.map_some]
      exact stepV_ok (by simp only [stepV, h1, Option.bind_some, h5, Option.map_some]; rfl)
    | _ => simp [cellOf] at h4
  · simp only [List.mem_singleton] at hp
    subst hp
    simp only [cellAt, look, hl, Option.bind_some, cellOf, hc]
/-- A call that leaves some cells of a box as they were. -/
theorem DOps.callK {deps : List (List Nat)} {K : ASt → Prop} {gs : List GO} {acc : List Met} {f : Operand} {args : Array Operand} {ts : Array TypeId} {dst : Option Nat} {gd : Option (Nat × Bool)} {fid : FuncId} {cap xs : List PV} (v : PV) (rd ws : List (Ref × AObj)) (ks : List (Ref × Nat))
    (hg : guardA st.env gd = some true) (hf : evalPV st f = some (.fn fid cap)) (hx : evalsPV st args.toList = some xs) (hd : okDst n dst = true) (hb : bodyB P fid = true)
    (hrd : Agree rd st.fr) (h : ∀ u, Agree rd u → ACalls P fid (xs ++ cap) u fun pv fr' => pv = v ∧ fr' = wr u ws) (hks : ∀ p ∈ ks, ∀ q ∈ ws, q.1 = p.1 → ∃ r ∈ rd, r.1 = p.1 ∧ cellOf p.2 r.2 = cellOf p.2 q.2)
    (hk : DOps P n deps gs (acc ++ [⟨rd.map (·.1), ws.map (·.1), [], ks⟩]) ((st.setFr (wr st.fr ws)).put dst v) K) :
    DOps P n deps (⟨dst, .call { callee := .value f, args, argTypes := ts }, gd⟩ :: gs) acc st K := by
  refine DOps.cons (g := ⟨dst, .call { callee := .value f, args, argTypes := ts }, gd⟩) (α := { actOf st ⟨dst, .call { callee := .value f, args, argTypes := ts }, gd⟩ v rd ws with keeps := ks }) (fun ops o ho s hs => exe_call (n := n) (st := st) (g := ⟨dst, .call { callee := .value f, args, argTypes := ts }, gd⟩) rfl hg hf hx hd hb h ops o ho s hs) (actOf_self (v := v) (ws := ws) hrd) ⟨rfl, fun p hp => (needsA_in hp).1, fun p hp q hq e => ?_⟩ rfl hk
  obtain ⟨r, h1, h2, h3⟩ := hks p hp q hq e
  exact ⟨r, List.mem_append_right _ h1, h2, h3⟩
/-- A key of a map, within a drawn statement. -/
theorem DOps.updV {deps : List (List Nat)} {K : ASt → Prop} {gs : List GO} {acc : List Met} {dst : Option Nat} {gd : Option (Nat × Bool)} {t kt e : TypeId} {m k x : Operand} {d j : Nat} {kk v : Im} {r : Option (Nat × Im)} (es : List (List Im × Im))
    (hf : findIm P kt kk es 0 = some r) (hrd : fget st.fr d j = some (.map es)) (hk : DOps P n deps gs (acc ++ [⟨[(d, j)], [(d, j)], [], []⟩]) ((st.setFr (fset st.fr d j (.map (putIm kk v es r)))).put dst .any) K)
    (hg : guardA st.env gd = some true := by rfl) (hd : okDst n dst = true := by rfl) (hm : evalPV st m = some (.map d j) := by rfl) (hkk : evalPV st k = some (.im kk) := by rfl) (hv : evalPV st x = some (.im v) := by rfl) (hmt : mapT P t = some (kt, e) := by (simp only [fx] <;> with_reducible rfl)) (hko : keyOk P kt kk = true := by (simp only [keyOk, fx] <;> rfl)) :
    DOps P n deps (⟨dst, .mapUpdate t m k x, gd⟩ :: gs) acc st K := by
  refine DOps.opX .any [((d, j), .map es)] [((d, j), .map (putIm kk v es r))] hg hd (fun p hp => by simp at hp; subst hp; exact hrd) (fun s hs ha => ?_) hk
  have h1 := hs.ev (x := m) (by simp [opndsO]) hm
  have h2 := hs.ev (x := k) (by simp [opndsO]) hkk
  have h5 := hs.ev (x := x) (by simp [opndsO]) hv
  have h3 : look s.fr d j = some (.map es) := ha ((d, j), .map es) (by simp)
  refine update_ok h1 h2 h5 ?_
  simp only [updateV, imPV, hmt, h3, hko, hf, if_true, Option.map_some]
  rfl
/-- The first entries of a map. -/
theorem GOps.insert {dst : Option Nat} {gd : Option (Nat × Bool)} {gs : List GO} {t kt e : TypeId} {m k x : Operand} {d j : Nat} {kk v : Im} {r : Option (Nat × Im)} (es : List (List Im × Im))
    (hf : findIm P kt kk es 0 = some r) (h : GOps P n gs Q ((st.setFr (fset st.fr d j (.map (putIm kk v es r)))).put dst .any))
    (hrd : fget st.fr d j = some (.map es) := by rfl) (hg : guardA st.env gd = some true := by rfl) (hd : okDst n dst = true := by rfl) (hm : evalPV st m = some (.map d j) := by rfl) (hkk : evalPV st k = some (.im kk) := by rfl) (hv : evalPV st x = some (.im v) := by rfl) (hmt : mapT P t = some (kt, e) := by (simp only [fx] <;> with_reducible rfl)) (hko : keyOk P kt kk = true := by (simp only [keyOk, fx] <;> rfl)) :
    GOps P n (⟨dst, .insert t m k x, gd⟩ :: gs) Q st := by
  have h1 : OpOk P n st (.mapUpdate t m k x) .any (st.setFr (fset st.fr d j (.map (putIm kk v es r)))) := update_ok hm hkk hv (by
    have h3 : look st.fr d j = some (.map es) := hrd
    simp only [updateV, imPV, hmt, h3, hko, hf, if_true, Option.map_some])
  refine GOps.step hg (fun F bs a w hr o ho => ?_) hd h
  have := h1 F bs a w hr { o with op := .mapUpdate t m k x } rfl
  simpa only [execOp, ho] using this
/-- The room of a nil slice. -/
theorem capNil_ok {args : Array Operand} {ts : Array TypeId} {x : Operand} {t : TypeId} (ha : args.toList = [x]) (ht : ts.toList = [t]) {e : TypeId} (he : elemT P t = some e) (hx : evalPV st x = some .nils) : OpOk P n st (.call { callee := .builtin .cap, args, argTypes := ts }) (.im (.int .i64 0)) st := fun F bs a w hr o ho => by
  have h1 := evalPV_rel hr hx
  simp only [VRel] at h1
  obtain ⟨l⟩ := args
  simp only at ha
  subst ha
  obtain ⟨l⟩ := ts
  simp only at ht
  subst ht
  refine ⟨.value (.int .i64 0), .int .i64 0, w, F, bs, by simp [execOp, ho, resolve, invoke, builtin, Builtin.cap_, h1, run_underlying (elemT_some he), goInt], .inl rfl, hr.mem, .refl _ _ _ _, by simp only [VRel, IRel], rfl⟩
theorem GOps.capNil {dst : Option Nat} {gd : Option (Nat × Bool)} {gs : List GO} {args : Array Operand} {ts : Array TypeId} {x : Operand} {t e : TypeId} (h : GOps P n gs Q (st.put dst (.im (.int .i64 0))))
    (hg : guardA st.env gd = some true := by rfl) (ha : args.toList = [x] := by rfl) (ht : ts.toList = [t] := by rfl) (hx : evalPV st x = some .nils := by rfl) (hd : okDst n dst = true := by rfl) (he : elemT P t = some e := by (simp only [fx] <;> with_reducible rfl)) : GOps P n (⟨dst, .call { callee := .builtin .cap, args, argTypes := ts }, gd⟩ :: gs) Q st :=
  GOps.step hg (capNil_ok ha ht he hx) hd h
/-- Nothing put behind nothing. -/
theorem appendE_ok {args : Array Operand} {ts : Array TypeId} {x y : Operand} {t e : TypeId} {sz : Nat} (ha : args.toList = [x, y]) (ht : ts.toList = [t, t]) (he : elemT P t = some e) (hs : sizeT P e = some sz) (hx : evalPV st x = some (.im (.sl []))) (hy : evalPV st y = some (.im (.sl []))) : OpOk P n st (.call { callee := .builtin .append, args, argTypes := ts }) (.im (.sl [])) st := fun F bs a w hr o ho => by
  have h1 := evalPV_rel hr hx
  have h2 := evalPV_rel hr hy
  simp only [VRel, IRel] at h1 h2
  obtain ⟨A, c, h1, _, _⟩ := h1
  obtain ⟨B, c2, h2, _, _⟩ := h2
  obtain ⟨l⟩ := args
  simp only at ha
  subst ha
  obtain ⟨l⟩ := ts
  simp only at ht
  subst ht
  have hf : ∀ (B : Option Addr), (Builtin.firstCells sz 0 (.slice B 0 c2)).run P w = .ok #[] w := fun B => by
    cases B with
    | none => rfl
    | some b => simp [Builtin.firstCells, loadCells, loadCellsFrom]
  have hrun : (Builtin.append_ #[t, t] o.type #[.slice A 0 c, .slice B 0 c2]).run P w = .ok (.slice A 0 c) w := by
    have hu := run_underlying (P := P) (elemT_some he)
    have h3 := run_sizeT (P := P) hs
    cases A with
    | none => simp [Builtin.append_, hu, h3, Builtin.lenOf, hf]
    | some q => simp [Builtin.append_, hu, h3, Builtin.lenOf, hf, storeCells]
  refine ⟨.value (.slice A 0 c), .slice A 0 c, w, F, bs, by simp [execOp, ho, resolve, invoke, builtin, h1, h2, hrun], .inl rfl, hr.mem, .refl _ _ _ _, ?_, rfl⟩
  simp only [VRel, IRel]
  exact ⟨A, c, rfl, Nat.zero_le _, fun h => absurd rfl h⟩
theorem GOps.appendE {dst : Option Nat} {gd : Option (Nat × Bool)} {gs : List GO} {args : Array Operand} {ts : Array TypeId} {x y : Operand} {t e : TypeId} {sz : Nat} (h : GOps P n gs Q (st.put dst (.im (.sl []))))
    (hg : guardA st.env gd = some true := by rfl) (ha : args.toList = [x, y] := by rfl) (ht : ts.toList = [t, t] := by rfl) (hx : evalPV st x = some (.im (.sl [])) := by rfl) (hy : evalPV st y = some (.im (.sl [])) := by rfl) (hd : okDst n dst = true := by rfl) (he : elemT P t = some e := by (simp only [fx] <;> with_reducible rfl)) (hs : sizeT P e = some sz := by (simp only [fx] <;> with_reducible rfl)) : GOps P n (⟨dst, .call { callee := .builtin .append, args, argTypes := ts }, gd⟩ :: gs) Q st :=
  GOps.step hg (appendE_ok ha ht he hs hx hy) hd h
/-- One operation of a drawn statement alone. -/
theorem DOps.sim1 {deps : List (List Nat)} {K : ASt → Prop} {g : GO} {gs : List GO} {acc acc' : List Met} {st' : ASt} (h : DOps P n deps gs acc' st' K) (hr : runD P n [g] acc st = (acc', st', []) := by (try simp only [fx, lookupV, updateV, lookupK, updateK, slicePV, pe0, pe1, pe2, pe3, pe4, pe5, pe6, pe7, pr0, pr1, Nat.reduceAdd, Nat.reduceMul, Nat.reduceLeDiff, Nat.reduceLT, Nat.reduceEqDiff, Nat.reduceBEq, Nat.reduceSub, reduceCtorEq, reduceIte, Int.reduceToNat, Int.reduceLE, Int.reduceEq, Int.reduceNe, Int.reduceBEq, Int.reduceBNe, Int.reduceLT, Int.reduceGT, Int.reduceGE, Int.reduceNeg]); with_reducible rfl) : DOps P n deps (g :: gs) acc st K := by
  have := DOps.runA (P := P) (n := n) (deps := deps) (K := K) gs (l := [g]) (acc := acc) (st := st) (by rw [hr]) (by rw [hr]; exact h)
  exact this
end Go.Proofs.YtdgpmopcmacicaaPi
