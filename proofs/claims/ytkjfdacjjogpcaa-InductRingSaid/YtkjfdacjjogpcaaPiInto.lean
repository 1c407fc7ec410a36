/- Results that are new rows laid into a spare place of the caller's frame; and what may be said of data. No Go text in it. -/
import Derived.Test.YtkjfdacjjogpcaaPiMerge
set_option linter.unusedVariables false
set_option linter.unusedSimpArgs false
namespace Go.Proofs.YtkjfdacjjogpcaaPi
variable {P : Program}

section
variable {F : Fz} {b0 b1 : List Bnd} {bs : Bns} {l f : List AObj} {rest : Frs} {j k : Nat} {t sz fz : Nat} {rows : List (List Im)} {a : Bnd}
end
theorem Ghost.boxAt {n : Nat} {st : ASt} {j i : Nat} {cs : List PV} {x : PV} (hl : st.loc[j]? = some (.box cs)) (hx : cs[i]? = some x) : Ghost n st (st.at j (.box (cs.set i (x.solid st.fr)))) := fun F bs a w h => by
 have hl' : look st.fr 0 j = some (.box cs) := by simpa [ASt.fr] using hl
 obtain ⟨ab, hab⟩ := look_bnd h.mem.shape hl'
 obtain ⟨q, arr, tt, k1, k2, k3, k4⟩ := h.mem.obj 0 j _ _ hl' hab
 have hb : fset bs 0 j ab = bs := fset_self bs 0 j ab hab
 have hput := h.mem.put (F' := F) (w' := w) (o' := .box (cs.set i (x.solid st.fr))) (a' := ab) hl' hab (fun _ _ _ => rfl) (Fz.le_refl F) (fun _ _ _ _ => rfl) (fun b q v _ hq => h.mem.fz b q v hq)
  (fun b hb' => .inr ⟨hb', trivial⟩) (by simp [AObj.becomes]) (by
   have hev : Evolve bs st.fr (fset bs 0 j ab) (fset st.fr 0 j (.box (cs.set i (x.solid st.fr)))) := fun d' j' o1 a1 g1 g2 => by
    simp only [look, bnd, fget_fset]
    by_cases e : d' = 0 ∧ j' = j
    ·obtain ⟨rfl, rfl⟩ := e
     have e1 := hl'.symm.trans g1
     have e2 := hab.symm.trans g2
     cases e1; cases e2
     refine ⟨.box (cs.set i (x.solid st.fr)), ab, ?_, ?_, by simp [AObj.becomes]⟩
     ·rw [if_pos ⟨rfl, rfl⟩, show fget st.fr 0 j' = _ from hl']; rfl
     ·rw [if_pos ⟨rfl, rfl⟩, show fget bs 0 j' = _ from hab]; rfl
    ·exact ⟨o1, a1, by rw [if_neg e]; exact g1, by rw [if_neg e]; exact g2, o1.becomes_refl a1⟩
   refine ⟨q, arr, tt, k1, k2, ?_, k4⟩
   simp only [List.drop_zero] at k3 ⊢
   refine VRels.move (Fz.le_refl F) hev (VRels.mk (by simpa using k3.length) fun p y v hy hv => ?_)
   rw [List.getElem?_set] at hy
   split at hy
   ·rename_i e
    subst e
    split at hy
    ·simp only [Option.some.injEq] at hy
     subst hy
     exact VRel.solid h.mem (k3.get' hx hv)
    ·simp at hy
   ·exact k3.get' hy hv)
 rw [hb] at hput
 obtain ⟨h6, h7⟩ := h.moved hput.1 ⟨Fz.le_refl F, hput.2.1, .refl _ _ _, hput.2.2⟩ (ASt.setFr_fset _ _ _ _)
 exact ⟨F, bs, h6, h7⟩
theorem Ghost.boxShut {n : Nat} {st : ASt} {j i r m tt sz fz : Nat} {cs : List PV} {rows : List (List Im)} (hl : st.loc[j]? = some (.box cs)) (hx : cs[i]? = some (.ms 0 r m)) (hr : st.loc[r]? = some (.row tt sz rows fz)) (hm : rows.length = m) :
  Ghost n st { env := st.env, loc := (st.loc.set r (.row tt sz rows rows.length)).set j (.box (cs.set i (.im (.sl rows)))), up := st.up } := by
 have g1 : Ghost n st (st.setFr (fset st.fr 0 r (.row tt sz rows rows.length))) := Ghost.freeze (by simpa [ASt.fr] using hr)
 refine g1.trans ?_
 have hlt := (List.getElem?_eq_some_iff.1 hr).1
 have hne : r ≠ j := fun e => by subst e; rw [hr] at hl; simp at hl
 have e : st.setFr (fset st.fr 0 r (.row tt sz rows rows.length)) = { env := st.env, loc := st.loc.set r (.row tt sz rows rows.length), up := st.up } := rfl
 rw [e]
 have g2 := Ghost.boxAt (n := n) (st := { env := st.env, loc := st.loc.set r (.row tt sz rows rows.length), up := st.up }) (j := j) (i := i) (cs := cs) (x := .ms 0 r m) (by simpa [hne] using hl) hx
 have e2 : (PV.ms 0 r m).solid (ASt.fr { env := st.env, loc := st.loc.set r (.row tt sz rows rows.length), up := st.up }) = .im (.sl rows) := by
  simp [PV.solid, imPV, ASt.fr, hlt, hm]
 rw [e2] at g2
 exact g2
theorem bft : (false == true) = false := rfl
theorem btf : (true == false) = false := rfl
theorem bin_agg_eql (t : TypeId) (xs ys : List PV) : binPV P .eql t (.agg xs) (.agg ys) = match eqsT P t with
  | some ts => (eqIms P ts xs ys).map fun b => .im (.bool b)
  | none => none := by
 simp only [binPV]
 cases eqsT P t <;> rfl
theorem bin_agg_neq (t : TypeId) (xs ys : List PV) : binPV P .neq t (.agg xs) (.agg ys) = match eqsT P t with
  | some ts => (eqIms P ts xs ys).map fun b => .im (.bool !b)
  | none => none := by
 simp only [binPV]
 cases eqsT P t <;> rfl
theorem upN_ms : ∀ (d e r n : Nat), PV.upN d (.ms e r n) = .ms (e + d) r n
 | 0, e, r, n => rfl
 | d + 1, e, r, n => by rw [PV.upN, upN_ms d, PV.up]; congr 1
theorem upN_vs : ∀ (d e r o n g : Nat), PV.upN d (.vs e r o n g) = .vs (e + d) r o n g
 | 0, e, r, o, n, g => rfl
 | d + 1, e, r, o, n, g => by rw [PV.upN, upN_vs d, PV.up]; congr 1
theorem downN_vs : ∀ (d r o n g : Nat), PV.downN d (.vs d r o n g) = some (.vs 0 r o n g)
 | 0, r, o, n, g => rfl
 | d + 1, r, o, n, g => by rw [PV.downN, PV.down]; exact downN_vs d r o n g
theorem upN_map : ∀ (d e r : Nat), PV.upN d (.map e r) = .map (e + d) r
 | 0, e, r => rfl
 | d + 1, e, r => by rw [PV.upN, upN_map d, PV.up]; congr 1
theorem upN_ptr : ∀ (d e r o : Nat), PV.upN d (.ptr e r o) = .ptr (e + d) r o
 | 0, e, r, o => rfl
 | d + 1, e, r, o => by rw [PV.upN, upN_ptr d, PV.up]; congr 1
theorem downN_ms : ∀ (d r n : Nat), PV.downN d (.ms d r n) = some (.ms 0 r n)
 | 0, r, n => rfl
 | d + 1, r, n => by rw [PV.downN, PV.down, Option.bind_some, downN_ms d]
end Go.Proofs.YtkjfdacjjogpcaaPi

