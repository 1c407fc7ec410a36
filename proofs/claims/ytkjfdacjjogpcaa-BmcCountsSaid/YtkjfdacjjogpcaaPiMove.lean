/- More ghost moves: nil slices in a box as empty rows, slots that hold frozen rows as data. No Go text in it. -/
import Derived.Test.YtkjfdacjjogpcaaPiText
set_option linter.unusedVariables false
set_option linter.unusedSimpArgs false
namespace Go.Proofs.YtkjfdacjjogpcaaPi
variable {P : Program}

theorem End.move {n : Nat} {Q : Exit → ASt → Prop} {k : List KF} {c : Code} {st s' : ASt} (g : Ghost n st s') (h : End P n Q (.rest c :: k) s') : End P n Q (.rest c :: k) st := AWp.ghost g h
theorem fset_fset {α : Type} : ∀ (fr : List (List α)) (d j : Nat) (x y : α), fset (fset fr d j x) d j y = fset fr d j y
 | [], d, j, x, y => rfl
 | f :: fr, 0, j, x, y => by simp [fset]
 | f :: fr, d + 1, j, x, y => by simp [fset, fset_fset fr d j x y]
theorem downN_im : ∀ (d : Nat) (x : Im), PV.downN d (.im x) = some (.im x)
 | 0, x => rfl
 | d + 1, x => by simp [PV.downN, PV.down, downN_im d x]
theorem upN_im : ∀ (d : Nat) (x : Im), PV.upN d (.im x) = .im x
 | 0, x => rfl
 | d + 1, x => by simp [PV.upN, PV.up, upN_im d x]
theorem downN_nils : ∀ (d : Nat), PV.downN d .nils = some .nils
 | 0 => rfl
 | d + 1 => by simp [PV.downN, PV.down, downN_nils d]
theorem upN_nils : ∀ (d : Nat), PV.upN d .nils = .nils
 | 0 => rfl
 | d + 1 => by simp [PV.upN, PV.up, upN_nils d]
theorem eget_mem : ∀ {e : List (Nat × PV)} {t : Nat} {v : PV}, eget e t = some v → (t, v) ∈ e
 | [], t, v, h => by simp [eget] at h
 | (k, u) :: e, t, v, h => by
  simp only [eget] at h
  split at h
  ·rename_i e1
   simp only [Option.some.injEq] at h
   subst e1 h
   exact List.mem_cons_self
  ·exact List.mem_cons_of_mem _ (eget_mem h)
theorem Ghost.shape {n : Nat} {st : ASt} (e : List (Nat × PV)) (L : Nat) (h1 : ∀ p ∈ e, eget st.env p.1 = some p.2) (h2 : unders L (e.map (·.2)) = true) (h3 : (st.loc.take L).all (AObj.under L) = true) : Ghost n st ⟨e, st.loc.take L, st.up⟩ := by
 have g1 : Ghost n st ⟨e, st.loc, st.up⟩ := Ghost.env fun t v h => h1 (t, v) (eget_mem h)
 exact g1.trans (Ghost.trunc L h2 h3)
def ehas (env : List (Nat × PV)) : List (Nat × PV) → Prop
 | [] => True
 | (t, v) :: e => eget env t = some v ∧ ehas env e
theorem ehas_mem {env : List (Nat × PV)} : ∀ {e : List (Nat × PV)}, ehas env e → ∀ p ∈ e, eget env p.1 = some p.2
 | [], _, p, hp => by simp at hp
 | (t, v) :: e, h, p, hp => by
  rcases List.mem_cons.1 hp with rfl | hp
  ·exact h.1
  ·exact ehas_mem h.2 p hp
theorem Ghost.form {n : Nat} {st : ASt} (e : List (Nat × PV)) (L : Nat) (h1 : ehas st.env e) (h2 : unders L (e.map (·.2)) = true) (h3 : (st.loc.take L).all (AObj.under L) = true) : Ghost n st ⟨e, st.loc.take L, st.up⟩ := Ghost.shape e L (ehas_mem h1) h2 h3
theorem metAll_quiet {deps : List (List Nat)} {l : List Met} (h : l.all (fun m => m.wr.isEmpty) = true) : metAll deps l = true := by
 simp only [List.all_eq_true] at h
 simp only [metAll, List.all_eq_true, List.mem_range]
 intro j hj
 split
 ·rename_i b hb
  simp only [List.all_eq_true, List.mem_range]
  intro i hi
  have hb2 := List.isEmpty_iff.1 (h b (List.mem_of_getElem? hb))
  split
  ·rename_i a ha
   have ha2 := List.isEmpty_iff.1 (h a (List.mem_of_getElem? ha))
   simp [meetB, softB, ha2, hb2]
  ·simp
 ·rfl
theorem Ghost.thawBox {n : Nat} {st : ASt} {j i : Nat} {cs : List PV} (t sz : Nat) (hsz : 0 < sz) (hl : st.loc[j]? = some (.box cs)) (hc : cs[i]? = some .nils) :
  Ghost n st ((st.push (.row t sz [] 0)).setFr (fset (st.push (.row t sz [] 0)).fr 0 j (.box (cs.set i (.ms 0 st.loc.length 0))))) := fun F bs a w h => by
 obtain ⟨bs', h1, h2, h3⟩ := pushNil_ok h t sz hsz
 obtain ⟨h4, h5⟩ := h.moved h1 h2 (by rw [setFr_push])
 rw [setFr_push] at h4 h5
 have hlt := (List.getElem?_eq_some_iff.1 hl).1
 have hl' : look (st.push (.row t sz [] 0)).fr 0 j = some (.box cs) := by
  simp only [ASt.push, ASt.fr, look_zero]
  rw [List.getElem?_append_left hlt]
  exact hl
 obtain ⟨ab, hab⟩ := look_bnd h1.shape hl'
 obtain ⟨q, arr, tt, k1, k2, k3, k4⟩ := h1.obj 0 j _ _ hl' hab
 have hb : fset bs' 0 j ab = bs' := fset_self bs' 0 j ab hab
 have hput := h1.put (F' := F) (w' := w) (o' := .box (cs.set i (.ms 0 st.loc.length 0))) (a' := ab) hl' hab (fun _ _ _ => rfl) (Fz.le_refl F) (fun _ _ _ _ => rfl) (fun b q v _ hq => h1.fz b q v hq)
  (fun b hb' => .inr ⟨hb', trivial⟩) (by simp [AObj.becomes]) (by
   have hev : Evolve bs' (st.push (.row t sz [] 0)).fr (fset bs' 0 j ab) (fset (st.push (.row t sz [] 0)).fr 0 j (.box (cs.set i (.ms 0 st.loc.length 0)))) := fun d' j' o1 a1 g1 g2 => by
    simp only [look, bnd, fget_fset]
    by_cases e : d' = 0 ∧ j' = j
    ·obtain ⟨rfl, rfl⟩ := e
     have e1 := hl'.symm.trans g1
     have e2 := hab.symm.trans g2
     cases e1; cases e2
     refine ⟨.box (cs.set i (.ms 0 st.loc.length 0)), ab, ?_, ?_, by simp [AObj.becomes]⟩
     ·rw [if_pos ⟨rfl, rfl⟩, show fget (st.push (.row t sz [] 0)).fr 0 j' = _ from hl']; rfl
     ·rw [if_pos ⟨rfl, rfl⟩, show fget bs' 0 j' = _ from hab]; rfl
    ·exact ⟨o1, a1, by rw [if_neg e]; exact g1, by rw [if_neg e]; exact g2, o1.becomes_refl a1⟩
   refine ⟨q, arr, tt, k1, k2, ?_, k4⟩
   simp only [List.drop_zero] at k3 ⊢
   have k5 := VRels.move (Fz.le_refl F) hev k3
   refine VRels.mk (by simpa using k5.length) (fun j2 x v hx hv => ?_)
   rw [List.getElem?_set] at hx
   split at hx
   ·rename_i e
    subst e
    split at hx
    ·simp only [Option.some.injEq] at hx
     subst hx
     have := k5.get' hc hv
     simp only [VRel] at this
     subst this
     exact VRel.move (Fz.le_refl F) hev h3
    ·simp at hx
   ·exact k5.get' hx hv)
 rw [hb] at hput
 obtain ⟨h6, h7⟩ := h4.moved hput.1 ⟨Fz.le_refl F, hput.2.1, .refl _ _ _, hput.2.2⟩ (ASt.setFr_fset _ _ _ _)
 exact ⟨F, bs', h6, h5.trans h7⟩
theorem Ghost.slot {n : Nat} {st : ASt} {t : Nat} {x y : PV} (hx : eget st.env t = some x) (h : ∀ F bs w v, MRel F bs st.fr w → VRel F bs st.fr x v → VRel F bs st.fr y v) : Ghost n st { st with env := eput st.env t y } := fun F bs a w hr =>
 ⟨F, bs, ⟨hr.mem, hr.size, fun u v hv => by
  rw [eget_eput] at hv
  split at hv
  ·rename_i e
   subst e
   simp only [Option.some.injEq] at hv
   subst hv
   obtain ⟨h1, h2⟩ := hr.env _ _ hx
   exact ⟨h1, h F bs w _ hr.mem h2⟩
  ·exact hr.env u v hv, hr.defers⟩, ⟨Fz.le_refl F, .refl _ _, .refl _ _ _, .refl _ _ _⟩⟩
theorem Ghost.data {n : Nat} {st : ASt} {t : Nat} {x : PV} (hx : eget st.env t = some x) : Ghost n st { st with env := eput st.env t (x.solid st.fr) } := Ghost.slot hx fun F bs w v hm h => VRel.solid hm h
theorem Ghost.shut {n : Nat} {st : ASt} {t j m tt sz fz : Nat} {rows : List (List Im)} (hx : eget st.env t = some (.ms 0 j m)) (hl : st.loc[j]? = some (.row tt sz rows fz)) (hm : rows.length = m) :
  Ghost n st { env := eput st.env t (.im (.sl rows)), loc := st.loc.set j (.row tt sz rows rows.length), up := st.up } := by
 have g1 : Ghost n st (st.setFr (fset st.fr 0 j (.row tt sz rows rows.length))) := Ghost.freeze (by simpa [ASt.fr] using hl)
 refine g1.trans ?_
 have hlt := (List.getElem?_eq_some_iff.1 hl).1
 have e : st.setFr (fset st.fr 0 j (.row tt sz rows rows.length)) = { env := st.env, loc := st.loc.set j (.row tt sz rows rows.length), up := st.up } := rfl
 rw [e]
 have g2 := Ghost.data (n := n) (st := { env := st.env, loc := st.loc.set j (.row tt sz rows rows.length), up := st.up }) (t := t) (x := .ms 0 j m) hx
 have e2 : (PV.ms 0 j m).solid (ASt.fr { env := st.env, loc := st.loc.set j (.row tt sz rows rows.length), up := st.up }) = .im (.sl rows) := by
  simp [PV.solid, imPV, ASt.fr, hlt, hm]
 rw [e2] at g2
 exact g2
end Go.Proofs.YtkjfdacjjogpcaaPi

