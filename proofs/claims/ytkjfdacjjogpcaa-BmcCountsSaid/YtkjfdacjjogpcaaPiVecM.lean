/- Slices that may grow and be handed on: make, literals, allocation at a place kept free, nil slices of slices. No Go text in it. -/
import Derived.Test.YtkjfdacjjogpcaaPiVecG
set_option linter.unusedVariables false
set_option linter.unusedSimpArgs false
set_option maxRecDepth 4000
namespace Go.Proofs.YtkjfdacjjogpcaaPi
variable {P : Program}

theorem vec_obj {F : Fz} {bs : Bns} {fr : Frs} {w : World} {b t c g : Nat} {cs : List PV} {arr : Array Value} (hb : w.heap[b]? = some (.cells arr t (0, 0))) (har : arr.size = c) (hl : cs.length ≤ c) (hmax : c ≤ maxLen) (hv : VRels F bs fr cs (arr.toList.take cs.length)) (hF : ∀ o, F b o = none) :
  MObj F bs fr w (.vec t g cs) (some b, c) := ⟨hl, hmax, fun e => by simp at e, fun q hq => by
  simp at hq
  subst hq
  exact ⟨arr, hb, har, hv, hF⟩⟩
theorem vec_dead {n : Nat} {F : Fz} {bs : Bns} {st : ASt} {a : Act} {w : World} (h : ARel n F bs st a w) {k : Nat} (hk : look st.fr 0 k = some .dead) (t : Nat) (cs : List PV) (arr : Array Value) (hl : cs.length ≤ maxLen) (hv : VRels F bs st.fr cs arr.toList) :
  ∃ bs', MRel F bs' (st.at k (.vec t 0 cs)).fr (w.alloc (.cells arr t)) ∧ CStep F bs st.fr w F bs' (st.at k (.vec t 0 cs)).fr (w.alloc (.cells arr t)) ∧ VRel F bs' (st.at k (.vec t 0 cs)).fr (.vs 0 k 0 cs.length 0) (.slice (some ⟨w.heap.size, 0, none⟩) cs.length cs.length) := by
 have hal : arr.size = cs.length := by simpa using hv.length
 obtain ⟨bs', h1, h2, h3, h4⟩ := dead_ok h hk (.vec t 0 cs) arr t cs.length (fun bs' hev => vec_obj (heap_alloc_new w _) hal (Nat.le_refl _) hl (by rw [List.take_of_length_le (by simp [hal])]; exact VRels.move (Fz.le_refl F) hev hv) (unfrozen_new h))
 exact ⟨bs', h1, h2, by simp only [VRel]; exact ⟨_, _, rfl, Nat.le_refl _, t, 0, cs, _, h4, h3, Nat.le_refl _, fun _ => ⟨by simp, by simp, fun _ => rfl⟩⟩⟩
theorem vec_new {n : Nat} {F : Fz} {bs : Bns} {st : ASt} {a : Act} {w : World} (h : ARel n F bs st a w) (t : Nat) (cs : List PV) (arr : Array Value) (hl : cs.length ≤ maxLen) (hv : VRels F bs st.fr cs arr.toList) :
  ∃ bs', MRel F bs' (st.push (.vec t 0 cs)).fr (w.alloc (.cells arr t)) ∧ CStep F bs st.fr w F bs' (st.push (.vec t 0 cs)).fr (w.alloc (.cells arr t)) ∧ VRel F bs' (st.push (.vec t 0 cs)).fr (.vs 0 st.loc.length 0 cs.length 0) (.slice (some ⟨w.heap.size, 0, none⟩) cs.length cs.length) := by
 have hal : arr.size = cs.length := by simpa using hv.length
 have hev : ∀ b0 bs', bs = b0 :: bs' → Evolve bs st.fr ((b0 ++ [(some w.heap.size, cs.length)]) :: bs') (st.push (.vec t 0 cs)).fr := fun b0 bs' e d j o' a' h1 h2 => by
  subst e
  refine ⟨o', a', ?_, ?_, o'.becomes_refl a'⟩
  ·cases d with
   | zero => simp only [ASt.fr, ASt.push, look_zero] at h1 ⊢; rw [List.getElem?_append_left (List.getElem?_eq_some_iff.1 h1).1]; exact h1
   | succ d => simpa only [ASt.fr, ASt.push, look_succ] using h1
  ·cases d with
   | zero => simp only [look_zero] at h2 ⊢; rw [List.getElem?_append_left (List.getElem?_eq_some_iff.1 h2).1]; exact h2
   | succ d => simpa only [look_succ] using h2
 obtain ⟨bs', h1, h2, h3, h4⟩ := push_ok h (.vec t 0 cs) arr t cs.length (fun b0 bs' e => vec_obj (heap_alloc_new w _) hal (Nat.le_refl _) hl (by rw [List.take_of_length_le (by simp [hal])]; exact VRels.move (Fz.le_refl F) (hev b0 bs' e) hv) (unfrozen_new h))
 exact ⟨bs', h1, h2, by simp only [VRel]; exact ⟨_, _, rfl, Nat.le_refl _, t, 0, cs, _, h4, h3, Nat.le_refl _, fun _ => ⟨by simp, by simp, fun _ => rfl⟩⟩⟩
theorem made_rel {F : Fz} {bs : Bns} {fr : Frs} {zv : Value} {z : PV} {N : Nat} (hzv : VRels F bs fr [z] zv.cells.toList) : VRels F bs fr (List.replicate N z) (madeCells zv.cells N).toList := by
 have hzc : zv.cells.size = 1 := by have := hzv.length; simp only [Array.length_toList, List.length_cons, List.length_nil] at this; omega
 refine VRels.mk (by simp [size_madeCells]) fun j x v hx hv => ?_
 rw [List.getElem?_replicate] at hx
 split at hx
 ·rename_i hj
  simp only [Option.some.injEq] at hx
  subst hx
  have := madeCells_get zv.cells N j hj
  rw [hzc, Nat.mod_one] at this
  rw [Array.getElem?_toList, this] at hv
  simp only [Option.some.injEq] at hv
  subst hv
  exact hzv.get' (j := 0) rfl (by simp [hzc])
 ·simp at hx
theorem run_makeN {T e by_ : TypeId} {k1 k2 : IntKind} {N : Nat} {z : PV} (he : elemT P T = some e) (hs : sizeT P e = some 1) (hb : bytesT P e = some by_) (hz : zeroT P e = some [z]) (hbd : by_ * N ≤ 281474976710656) (hN : N ≤ 1000000) (w : World) :
  ∃ zv : Value, (∀ F bs fr, VRels F bs fr [z] zv.cells.toList) ∧ (Instr.makeSlice T (.int k1 N) (.int k2 N)).run P w = .ok (.slice (some ⟨w.heap.size, 0, none⟩) N N) (w.alloc (.cells (madeCells zv.cells N) e)) := by
 obtain ⟨zv, hzr, hzv, i, hi, hiz⟩ := zeroT_run hz w
 have hisz : i.size = 1 := by simp [sizeT, hi] at hs; exact hs
 have hiby : i.bytes = by_ := by simp [bytesT, hi] at hb; exact hb
 have hrun := run_make (P := P) w T e i zv (elemT_some he) hi hiz k1 k2 N N (by omega) (Int.le_refl _) (by rw [hiby]; exact Int.le_trans (Int.le_of_eq (Int.natCast_mul by_ N).symm) (by exact Int.ofNat_le.2 hbd)) (Int.le_trans (Int.ofNat_le.2 hN) (by decide))
 rw [hisz] at hrun
 simp only [Int.toNat_natCast, Nat.mul_one] at hrun
 exact ⟨zv, hzv, hrun⟩
theorem makeVec_ok {n : Nat} {st : ASt} {T e by_ : TypeId} {l c : Operand} {k1 k2 : IntKind} {N k : Nat} {z : PV} (hk : look st.fr 0 k = some .dead) (hl : evalPV st l = some (.im (.int k1 N))) (hc : evalPV st c = some (.im (.int k2 N))) (he : elemT P T = some e) (hs : sizeT P e = some 1) (hb : bytesT P e = some by_) (hz : zeroT P e = some [z]) (hbd : by_ * N ≤ 281474976710656) (hN : N ≤ 1000000) :
  OpOk P n st (.makeSlice T l c) (.vs 0 k 0 N 0) (st.at k (.vec e 0 (List.replicate N z))) := fun F bs a w hr o ho => by
 have h1 := evalPV_rel hr hl
 have h2 := evalPV_rel hr hc
 simp only [VRel, IRel] at h1 h2
 obtain ⟨zv, hzv, hrun⟩ := run_makeN (P := P) (k1 := k1) (k2 := k2) he hs hb hz hbd hN w
 obtain ⟨bs', q1, q2, q3⟩ := vec_dead hr hk e (List.replicate N z) (madeCells zv.cells N) (by rw [List.length_replicate]; unfold maxLen; omega) (made_rel (hzv F bs st.fr))
 rw [List.length_replicate] at q3
 exact ⟨_, _, _, F, bs', by simp only [execOp, ho, h1, h2, Sem.run_bind, hrun, Result.andThen_ok, Sem.run_pure], .inl rfl, q1, q2, q3, ASt.at_env _ _ _⟩
theorem makeVecN_ok {n : Nat} {st : ASt} {T e by_ : TypeId} {l c : Operand} {k1 k2 : IntKind} {N : Nat} {z : PV} (hl : evalPV st l = some (.im (.int k1 N))) (hc : evalPV st c = some (.im (.int k2 N))) (he : elemT P T = some e) (hs : sizeT P e = some 1) (hb : bytesT P e = some by_) (hz : zeroT P e = some [z]) (hbd : by_ * N ≤ 281474976710656) (hN : N ≤ 1000000) :
  OpOk P n st (.makeSlice T l c) (.vs 0 st.loc.length 0 N 0) (st.push (.vec e 0 (List.replicate N z))) := fun F bs a w hr o ho => by
 have h1 := evalPV_rel hr hl
 have h2 := evalPV_rel hr hc
 simp only [VRel, IRel] at h1 h2
 obtain ⟨zv, hzv, hrun⟩ := run_makeN (P := P) (k1 := k1) (k2 := k2) he hs hb hz hbd hN w
 obtain ⟨bs', q1, q2, q3⟩ := vec_new hr e (List.replicate N z) (madeCells zv.cells N) (by rw [List.length_replicate]; unfold maxLen; omega) (made_rel (hzv F bs st.fr))
 rw [List.length_replicate] at q3
 exact ⟨_, _, _, F, bs', by simp only [execOp, ho, h1, h2, Sem.run_bind, hrun, Result.andThen_ok, Sem.run_pure], .inl rfl, q1, q2, q3, rfl⟩
section
variable {n : Nat} {Q : Exit → ASt → Prop} {st : ASt}
theorem DOps.makeVec {deps : List (List Nat)} {K : ASt → Prop} {gs : List GO} {acc : List Met} {dst : Option Nat} {gd : Option (Nat × Bool)} {T e by_ : TypeId} {l c : Operand} {k1 k2 : IntKind} {z : PV} (N k : Nat) (hN : N ≤ 1000000) (hbd : by_ * N ≤ 281474976710656)
  (hk : DOps P n deps gs (acc ++ [⟨[(0, k)], [(0, k)], [], []⟩]) ((st.setFr (fset st.fr 0 k (.vec e 0 (List.replicate N z)))).put dst (.vs 0 k 0 N 0)) K)
  (hkd : look st.fr 0 k = some .dead := by rfl) (hg : guardA st.env gd = some true := by rfl) (hl : evalPV st l = some (.im (.int k1 N)) := by rfl) (hc : evalPV st c = some (.im (.int k2 N)) := by rfl) (hd : okDst n dst = true := by rfl)
  (he : elemT P T = some e := by (simp only [fx] <;> with_reducible rfl)) (hs : sizeT P e = some 1 := by (simp only [fx] <;> with_reducible rfl)) (hb : bytesT P e = some by_ := by (simp only [fx] <;> with_reducible rfl)) (hz : zeroT P e = some [z] := by (simp only [fx] <;> with_reducible rfl)) :
  DOps P n deps (⟨dst, .makeSlice T l c, gd⟩ :: gs) acc st K := by
 refine DOps.opX (.vs 0 k 0 N 0) [((0, k), .dead)] [((0, k), .vec e 0 (List.replicate N z))] hg hd (fun p hp => by simp at hp; subst hp; exact hkd) (fun s hs' ha => ?_) ?_
 ·have h1 := hs'.ev (x := l) (by simp [opndsO]) hl
  have h2 := hs'.ev (x := c) (by simp [opndsO]) hc
  exact makeVec_ok (ha ((0, k), .dead) (by simp)) h1 h2 he hs hb hz hbd hN
 ·simpa [opndsM, valsO, refsOf, wr] using hk
theorem GOps.makeVec {dst : Option Nat} {gd : Option (Nat × Bool)} {gs : List GO} {T e by_ : TypeId} {l c : Operand} {k1 k2 : IntKind} {z : PV} (N : Nat) (hN : N ≤ 1000000) (hbd : by_ * N ≤ 281474976710656) (h : GOps P n gs Q ((st.push (.vec e 0 (List.replicate N z))).put dst (.vs 0 st.loc.length 0 N 0)))
  (hg : guardA st.env gd = some true := by rfl) (hl : evalPV st l = some (.im (.int k1 N)) := by rfl) (hc : evalPV st c = some (.im (.int k2 N)) := by rfl) (hd : okDst n dst = true := by rfl)
  (he : elemT P T = some e := by (simp only [fx] <;> with_reducible rfl)) (hs : sizeT P e = some 1 := by (simp only [fx] <;> with_reducible rfl)) (hb : bytesT P e = some by_ := by (simp only [fx] <;> with_reducible rfl)) (hz : zeroT P e = some [z] := by (simp only [fx] <;> with_reducible rfl)) : GOps P n (⟨dst, .makeSlice T l c, gd⟩ :: gs) Q st :=
 GOps.step hg (makeVecN_ok hl hc he hs hb hz hbd hN) hd h
theorem GOps.atDead {g : GO} {gs : List GO} (k : Nat) {v : PV} {st1 : ASt} (hkd : look st.fr 0 k = some .dead) (hs : stepD P st k g.op = some (v, st1)) (hg : guardA st.env g.guard = some true) (hd : okDst n g.dst = true) (h : GOps P n gs Q (st1.put g.dst v)) : GOps P n (g :: gs) Q st :=
 GOps.step hg (stepD_ok hkd hs) hd h
end
/-! ### a literal of handles -/
def litW (P : Program) (st : ASt) (T : TypeId) (len : Nat) (ps : List (Nat × PV)) : Option (PV × ASt) :=
 match elemT P T with
 | some e => match sizeT P e, zeroT P e with
  | some 1, some [z] => if len ≤ 16777216 then (match fillPV (fun i => some (i * 1, 1)) (List.replicate len [z]).flatten ps with
    | some cs => if cs.length = len then some (.vs 0 st.loc.length 0 len 0, st.push (.vec e 0 cs)) else none
    | none => none) else none
  | _, _ => none
 | none => none
theorem litW_ok {n : Nat} {F : Fz} {bs : Bns} {st st' : ASt} {a : Act} {w : World} {T : TypeId} {len : Nat} {ps : List (Nat × Operand)} {ys : List (Nat × PV)} {z : PV} (h : ARel n F bs st a w) (he : evalParts st ps = some ys) (hk : litW P st T len ys = some (z, st')) :
  ∃ v w' bs', (Instr.buildSlice T len (ps.map fun (i, x) => (i, a.eval x)).toArray).run P w = .ok v w' ∧ MRel F bs' st'.fr w' ∧ CStep F bs st.fr w F bs' st'.fr w' ∧ VRel F bs' st'.fr z v ∧ st'.env = st.env := by
 unfold litW at hk
 split at hk
 ·rename_i e hel
  split at hk
  ·rename_i z1 hs hz
   split at hk
   ·rename_i hlim
    split at hk
    ·rename_i cs hfill
     split at hk
     ·rename_i hcl
      simp only [Option.some.injEq, Prod.mk.injEq] at hk
      obtain ⟨rfl, rfl⟩ := hk
      obtain ⟨zv, hzr, hzv, i, hi, hiz⟩ := zeroT_run hz w
      have hzc : zv.cells.size = 1 := by have := (hzv F bs st.fr).length; simp at this; omega
      have h0 : VRels F bs st.fr (List.replicate len [z1]).flatten ((Array.range (len * 1)).map (zv.cells[· % zv.cells.size]!)).toList := by
       refine VRels.mk ?_ (fun q x v hx hv => ?_)
       ·simp
       ·have hq : q < len := by
         have := (List.getElem?_eq_some_iff.1 hv).1
         simpa using this
        rw [flatten_replicate_get [z1] len q (by simpa using hq)] at hx
        have hv2 : v = zv.cells[0] := by
         have h1 : ((Array.range (len * 1)).map (zv.cells[· % zv.cells.size]!)).toList[q]? = some (zv.cells[q % zv.cells.size]!) := by simp [hq]
         rw [h1] at hv
         simp only [Option.some.injEq, hzc, Nat.mod_one] at hv
         rw [← hv]
         simp [hzc]
        simp only [List.length_cons, List.length_nil, Nat.zero_add, Nat.mod_one] at hx
        exact (hzv F bs st.fr).get' hx (by rw [hv2]; simp [hzc])
      obtain ⟨p1, p2⟩ := evalParts_ok h he
      obtain ⟨arr', h1, h2⟩ := fill_ok hfill p1 p2 h0
      obtain ⟨bs', q1, q2, q3⟩ := vec_new h e cs arr' (by rw [hcl]; simp only [maxLen]; omega) h2
      rw [hcl] at q3
      refine ⟨_, _, bs', ?_, q1, q2, q3, rfl⟩
      have hlim2 : ¬ (len * 1 > 2 ^ 24) := by omega
      by_cases hls : len * 1 = 0
      ·have e1 : ∀ f : Nat → Value, (Array.range (len * 1)).map f = #[] := fun f => by rw [hls]; simp
       rw [e1] at h1
       simp only [Instr.buildSlice, Sem.run_bind, run_underlying (elemT_some hel), Result.andThen_ok, run_sizeT hs, hlim2, if_false, if_pos hls, Sem.run_pure, List.toList_toArray, e1]
       rw [h1]
       simp [newRow]
      ·simp only [Instr.buildSlice, Sem.run_bind, run_underlying (elemT_some hel), Result.andThen_ok, run_sizeT hs, hlim2, if_false, hls, hzr, Sem.run_pure, List.toList_toArray]
       rw [h1]
       simp [newRow]
     ·simp at hk
    ·simp at hk
   ·simp at hk
  ·simp at hk
 ·simp at hk
theorem litW_op {n : Nat} {st st1 : ASt} {T : TypeId} {len : Nat} {ps : Array (Nat × Operand)} {ys : List (Nat × PV)} {z : PV} (he : evalParts st ps.toList = some ys) (hk : litW P st T len ys = some (z, st1)) : OpOk P n st (.buildSlice T len ps) z st1 := fun F bs a w hr o ho => by
 obtain ⟨v, w', bs', h1, h2, h3, h4, h5⟩ := litW_ok hr he hk
 refine ⟨.value v, v, w', F, bs', ?_, .inl rfl, h2, h3, h4, h5⟩
 have e : (ps.map fun (i, x) => (i, a.eval x)) = (ps.toList.map fun (i, x) => (i, a.eval x)).toArray := by rw [← Array.toList_map]
 simp only [execOp, ho, e, Sem.run_bind, h1, Result.andThen_ok, Sem.run_pure]
theorem GOps.litVec {n : Nat} {Q : Exit → ASt → Prop} {st st1 : ASt} {dst : Option Nat} {gd : Option (Nat × Bool)} {gs : List GO} {T : TypeId} {len : Nat} {ps : Array (Nat × Operand)} {ys : List (Nat × PV)} {z : PV} (he : evalParts st ps.toList = some ys) (hk : litW P st T len ys = some (z, st1)) (h : GOps P n gs Q (st1.put dst z))
  (hg : guardA st.env gd = some true := by rfl) (hd : okDst n dst = true := by rfl) : GOps P n (⟨dst, .buildSlice T len ps, gd⟩ :: gs) Q st := GOps.step hg (litW_op he hk) hd h
/-! ### nil slices in a slice -/
theorem vecCell_ok {F : Fz} {bs : Bns} {fr : Frs} {w : World} (hm : MRel F bs fr w) {j i t g : Nat} {cs : List PV} {ab : Bnd} (hl : look fr 0 j = some (.vec t g cs)) (hab : bnd bs 0 j = some ab) (y : PV)
  (hy : ∀ v, VRel F bs fr (cs.getD i .any) v → VRel F bs fr y v) :
  MRel F bs (fset fr 0 j (.vec t g (cs.set i y))) w ∧ Evolve bs fr bs (fset fr 0 j (.vec t g (cs.set i y))) ∧ Owns bs fr w bs (fset fr 0 j (.vec t g (cs.set i y))) := by
 obtain ⟨k1, k2, k3, k4⟩ := hm.obj 0 j _ _ hl hab
 have hb : fset bs 0 j ab = bs := fset_self bs 0 j ab hab
 have hput := hm.put (F' := F) (w' := w) (o' := .vec t g (cs.set i y)) (a' := ab) hl hab (fun _ _ _ => rfl) (Fz.le_refl F) (fun _ _ _ _ => rfl) (fun b q v _ hq => hm.fz b q v hq)
  (fun b hb' => .inr ⟨hb', trivial⟩) (by simp [AObj.becomes]) (by
   have hev : Evolve bs fr (fset bs 0 j ab) (fset fr 0 j (.vec t g (cs.set i y))) := fun d' j' o1 a1 g1 g2 => by
    simp only [look, bnd, fget_fset]
    by_cases e : d' = 0 ∧ j' = j
    ·obtain ⟨rfl, rfl⟩ := e
     have e1 := hl.symm.trans g1
     have e2 := hab.symm.trans g2
     cases e1; cases e2
     refine ⟨.vec t g (cs.set i y), ab, ?_, ?_, by simp [AObj.becomes]⟩
     ·rw [if_pos ⟨rfl, rfl⟩, show fget fr 0 j' = _ from hl]; rfl
     ·rw [if_pos ⟨rfl, rfl⟩, show fget bs 0 j' = _ from hab]; rfl
    ·exact ⟨o1, a1, by rw [if_neg e]; exact g1, by rw [if_neg e]; exact g2, o1.becomes_refl a1⟩
   refine ⟨by simpa using k1, k2, k3, fun q hq => ?_⟩
   obtain ⟨arr, q1, q2, q3, q4⟩ := k4 q hq
   refine ⟨arr, q1, q2, ?_, q4⟩
   simp only [List.drop_zero] at q3 ⊢
   refine VRels.move (Fz.le_refl F) hev (VRels.mk (by simp; omega) fun p z v hz hv => ?_)
   rw [List.length_set] at hv
   rw [List.getElem?_set] at hz
   split at hz
   ·rename_i e
    subst e
    split at hz
    ·rename_i hlt
     simp only [Option.some.injEq] at hz
     subst hz
     refine hy v ?_
     rw [List.getD_eq_getElem?_getD, List.getElem?_eq_getElem hlt]
     exact q3.get' (List.getElem?_eq_getElem hlt) hv
    ·simp at hz
   ·exact q3.get' hz hv)
 rw [hb] at hput
 exact hput
theorem Ghost.vecNil {n : Nat} {st : ASt} {j i t0 g0 : Nat} {cs : List PV} (t g : Nat) (hl : st.loc[j]? = some (.vec t0 g0 cs)) (hc : cs[i]? = some .nils) :
  Ghost n st { st with loc := st.loc.set j (.vec t0 g0 (cs.set i (.vs 0 st.loc.length 0 0 g))) ++ [.vec t g []] } := fun F bs a w h => by
 obtain ⟨bs', h1, h2, h3⟩ := pushVec_ok h t g
 obtain ⟨h4, h5⟩ := h.moved h1 h2 (by rw [setFr_push])
 rw [setFr_push] at h4 h5
 have hlt := (List.getElem?_eq_some_iff.1 hl).1
 have hl' : look (st.push (.vec t g [])).fr 0 j = some (.vec t0 g0 cs) := by
  simp only [ASt.push, ASt.fr, look_zero]
  rw [List.getElem?_append_left hlt]
  exact hl
 obtain ⟨ab, hab⟩ := look_bnd h1.shape hl'
 obtain ⟨m1, m2, m3⟩ := vecCell_ok h4.mem hl' hab (i := i) (.vs 0 st.loc.length 0 0 g) (fun v hv => by
  rw [List.getD_eq_getElem?_getD, hc] at hv
  simp only [Option.getD_some, VRel] at hv
  subst hv
  exact h3)
 obtain ⟨h6, h7⟩ := h4.moved m1 ⟨Fz.le_refl F, m2, .refl _ _ _, m3⟩ (ASt.setFr_fset _ _ _ _)
 refine ⟨F, bs', ?_, ?_⟩
 ·have e : (st.push (.vec t g [])).setFr (fset (st.push (.vec t g [])).fr 0 j (.vec t0 g0 (cs.set i (.vs 0 st.loc.length 0 0 g)))) = { st with loc := st.loc.set j (.vec t0 g0 (cs.set i (.vs 0 st.loc.length 0 0 g))) ++ [.vec t g []] } := by
   simp only [ASt.push, ASt.fr, fset, ASt.setFr]
   rw [List.set_append_left _ _ hlt]
  rw [e] at h6
  exact h6
 ·have e : (st.push (.vec t g [])).setFr (fset (st.push (.vec t g [])).fr 0 j (.vec t0 g0 (cs.set i (.vs 0 st.loc.length 0 0 g)))) = { st with loc := st.loc.set j (.vec t0 g0 (cs.set i (.vs 0 st.loc.length 0 0 g))) ++ [.vec t g []] } := by
   simp only [ASt.push, ASt.fr, fset, ASt.setFr]
   rw [List.set_append_left _ _ hlt]
  rw [e] at h7
  exact h5.trans h7
theorem Ghost.vecNils {n : Nat} {e : List (Nat × PV)} {b : List AObj} {up : Frs} {j t0 g0 N : Nat} (t g : Nat) (hl : b[j]? = some (.vec t0 g0 (List.replicate N .nils))) :
  Ghost n ⟨e, b, up⟩ ⟨e, b.set j (.vec t0 g0 ((List.range N).map fun k => .vs 0 (b.length + k) 0 0 g)) ++ List.replicate N (.vec t g []), up⟩ := by
 have hj := (List.getElem?_eq_some_iff.1 hl).1
 have main : ∀ i, i ≤ N → Ghost n ⟨e, b, up⟩ ⟨e, b.set j (.vec t0 g0 ((List.range i).map (fun k => PV.vs 0 (b.length + k) 0 0 g) ++ List.replicate (N - i) PV.nils)) ++ List.replicate i (.vec t g []), up⟩ := by
  intro i
  induction i with
  | zero =>
   intro _
   have e0 : b.set j (.vec t0 g0 ((List.range 0).map (fun k => PV.vs 0 (b.length + k) 0 0 g) ++ List.replicate (N - 0) PV.nils)) ++ List.replicate 0 (AObj.vec t g []) = b := by
    simp only [List.range_zero, List.map_nil, List.nil_append, Nat.sub_zero, List.replicate_zero, List.append_nil]
    obtain ⟨h1, h2⟩ := List.getElem?_eq_some_iff.1 hl
    rw [← h2, List.set_getElem_self]
   rw [e0]
   exact .refl _ _
  | succ i ih =>
   intro hi
   refine (ih (by omega)).trans ?_
   have hcl : ((List.range i).map (fun k => PV.vs 0 (b.length + k) 0 0 g)).length = i := by simp
   have h1 := Ghost.vecNil (n := n) (st := ⟨e, b.set j (.vec t0 g0 ((List.range i).map (fun k => PV.vs 0 (b.length + k) 0 0 g) ++ List.replicate (N - i) PV.nils)) ++ List.replicate i (.vec t g []), up⟩) (j := j) (i := i) (cs := (List.range i).map (fun k => PV.vs 0 (b.length + k) 0 0 g) ++ List.replicate (N - i) PV.nils) t g
    (by simp only; rw [List.getElem?_append_left (by simp [hj]), List.getElem?_set_self (by simpa using hj)]) (by rw [List.getElem?_append_right (by omega), hcl, Nat.sub_self, List.getElem?_replicate, if_pos (by omega)])
   have e2 : ((List.range i).map (fun k => PV.vs 0 (b.length + k) 0 0 g) ++ List.replicate (N - i) PV.nils).set i (.vs 0 (b.set j (.vec t0 g0 ((List.range i).map (fun k => PV.vs 0 (b.length + k) 0 0 g) ++ List.replicate (N - i) PV.nils)) ++ List.replicate i (AObj.vec t g [])).length 0 0 g) = (List.range (i + 1)).map (fun k => PV.vs 0 (b.length + k) 0 0 g) ++ List.replicate (N - (i + 1)) PV.nils := by
    rw [List.set_append_right _ _ (by omega), hcl, Nat.sub_self, show N - i = (N - (i + 1)) + 1 by omega, List.replicate_succ, List.set_cons_zero, List.range_succ]
    simp
   simp only [e2] at h1
   have e3 : (b.set j (.vec t0 g0 ((List.range i).map (fun k => PV.vs 0 (b.length + k) 0 0 g) ++ List.replicate (N - i) PV.nils)) ++ List.replicate i (AObj.vec t g [])).set j (.vec t0 g0 ((List.range (i + 1)).map (fun k => PV.vs 0 (b.length + k) 0 0 g) ++ List.replicate (N - (i + 1)) PV.nils)) ++ [AObj.vec t g []] =
     b.set j (.vec t0 g0 ((List.range (i + 1)).map (fun k => PV.vs 0 (b.length + k) 0 0 g) ++ List.replicate (N - (i + 1)) PV.nils)) ++ List.replicate (i + 1) (AObj.vec t g []) := by
    rw [List.set_append_left _ _ (by simp [hj]), List.set_set, List.append_assoc, List.replicate_succ']
   rw [e3] at h1
   exact h1
 have := main N (Nat.le_refl _)
 simpa using this
end Go.Proofs.YtkjfdacjjogpcaaPi

