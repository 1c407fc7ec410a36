/- Ghost moves for slices of handles or numbers: nil slices as empty ones, own rows as such, own ones handed to a place that was kept free for them. No Go text in it. -/
import Derived.Test.YtkjfdacjjogpcaaPiPop
set_option linter.unusedVariables false
set_option linter.unusedSimpArgs false
namespace Go.Proofs.YtkjfdacjjogpcaaPi
variable {P : Program}

/-! ### new empty ones -/
theorem pushVec_ok {n : Nat} {F : Fz} {bs : Bns} {st : ASt} {a : Act} {w : World} (h : ARel n F bs st a w) (t g : Nat) :
  ∃ bs', MRel F bs' (st.push (.vec t g [])).fr w ∧ CStep F bs st.fr w F bs' (st.push (.vec t g [])).fr w ∧ VRel F bs' (st.push (.vec t g [])).fr (.vs 0 st.loc.length 0 0 g) (.slice none 0 0) := by
 have hm := h.mem
 have hsh := hm.shape
 cases bs with
 | nil => simp [ASt.fr] at hsh
 | cons b0 bs =>
  simp only [ASt.fr, List.map_cons, List.cons.injEq] at hsh
  obtain ⟨h1, h2, h3⟩ := hm.push (F' := F) (w' := w) (.vec t g []) (none, 0) (fun b hb => rfl) (Fz.le_refl F) (fun _ _ _ => rfl)
   (fun b q v hb hq => hm.fz b q v hq) (fun b hb => by simp at hb) ⟨Nat.zero_le _, Nat.zero_le _, fun _ => rfl, fun b hb => by simp at hb⟩
  refine ⟨_, h1, ⟨Fz.le_refl F, h2, .refl _ _ _, h3⟩, ?_⟩
  simp only [VRel]
  exact ⟨none, 0, rfl, Nat.le_refl _, t, g, [], (none, 0), by simp [ASt.push, ASt.fr], by simp [hsh.1], Nat.le_refl _, fun _ => ⟨by simp, rfl, fun h => by omega⟩⟩
theorem Ghost.vthaw {n : Nat} {st : ASt} {u : Nat} (t g : Nat) (hu : eget st.env u = some .nils) :
  Ghost n st { (st.push (.vec t g [])) with env := eput st.env u (.vs 0 st.loc.length 0 0 g) } := fun F bs a w h => by
 obtain ⟨bs', h1, h2, h3⟩ := pushVec_ok h t g
 obtain ⟨h4, h5⟩ := h.moved h1 h2 (by rw [setFr_push])
 rw [setFr_push] at h4 h5
 refine ⟨F, bs', ⟨h4.mem, h4.size, fun q v hv => ?_, h4.defers⟩, ⟨h5.le, h5.ev, h5.keeps, h5.owns⟩⟩
 rw [eget_eput] at hv
 split at hv
 ·rename_i e
  subst e
  simp only [Option.some.injEq] at hv
  subst hv
  obtain ⟨h6, h7⟩ := h.env _ _ hu
  simp only [VRel] at h7
  refine ⟨h6, ?_⟩
  rw [h7]
  exact h3
 ·exact h4.env q v hv
theorem deadVec_ok {n : Nat} {F : Fz} {bs : Bns} {st : ASt} {a : Act} {w : World} (h : ARel n F bs st a w) {k : Nat} (hk : look st.fr 0 k = some .dead) (t g : Nat) :
  ∃ bs', MRel F bs' (st.at k (.vec t g [])).fr w ∧ CStep F bs st.fr w F bs' (st.at k (.vec t g [])).fr w ∧ VRel F bs' (st.at k (.vec t g [])).fr (.vs 0 k 0 0 g) (.slice none 0 0) := by
 have hm := h.mem
 obtain ⟨a0, ha⟩ := look_bnd hm.shape hk
 have hput := hm.put (F' := F) (w' := w) (o' := .vec t g []) (a' := (none, 0)) hk ha (fun _ _ _ => rfl) (Fz.le_refl F) (fun _ _ _ _ => rfl) (fun b q v _ hq => hm.fz b q v hq)
  (fun b hb => by simp at hb) (by simp [AObj.becomes]) ⟨Nat.zero_le _, Nat.zero_le _, fun _ => rfl, fun b hb => by simp at hb⟩
 rw [ASt.at_fr]
 refine ⟨_, hput.1, ⟨Fz.le_refl F, hput.2.1, .refl _ _ _, hput.2.2⟩, ?_⟩
 simp only [VRel]
 exact ⟨none, 0, rfl, Nat.le_refl _, t, g, [], (none, 0), by simp [look, fget_fset, show fget st.fr 0 k = some _ from hk], by simp [bnd, fget_fset, show fget bs 0 k = some _ from ha], Nat.le_refl _, fun _ => ⟨by simp, rfl, fun h => by omega⟩⟩
theorem dead_pushD {n : Nat} {F : Fz} {bs : Bns} {st : ASt} {a : Act} {w : World} (h : ARel n F bs st a w) {k : Nat} (t g : Nat) (hk : look st.fr 0 k = some .dead) :
  ∃ bs', ARel n F bs' (st.at k (.vec t g [])) a w ∧ AStep F bs st w F bs' (st.at k (.vec t g [])) w ∧ VRel F bs' (st.at k (.vec t g [])).fr (.vs 0 k 0 0 g) (.slice none 0 0) := by
 obtain ⟨bs', h1, h2, h3⟩ := deadVec_ok h hk t g
 have e : st.setFr (st.at k (.vec t g [])).fr = st.at k (.vec t g []) := by
  rw [ASt.at_fr]; rfl
 obtain ⟨h4, h5⟩ := h.moved h1 h2 (by rw [e])
 rw [e] at h4 h5
 exact ⟨bs', h4, h5, h3⟩
theorem Ghost.boxNil {n : Nat} {st : ASt} {j i k : Nat} {cs : List PV} (t g : Nat) (hl : st.loc[j]? = some (.box cs)) (hc : cs[i]? = some .nils) (hk : st.loc[k]? = some .dead) :
  Ghost n st { st with loc := (st.loc.set k (.vec t g [])).set j (.box (cs.set i (.vs 0 k 0 0 g))) } := fun F bs a w h => by
 have hk' : look st.fr 0 k = some .dead := by simpa [ASt.fr] using hk
 have hne : k ≠ j := fun e => by subst e; rw [hk] at hl; simp at hl
 obtain ⟨bs', h4, h5, h3⟩ := dead_pushD h t g hk'
 have e1 : st.at k (.vec t g []) = { st with loc := st.loc.set k (.vec t g []) } := rfl
 rw [e1] at h3 h4 h5
 have hl' : look ({ st with loc := st.loc.set k (.vec t g []) } : ASt).fr 0 j = some (.box cs) := by
  simp only [ASt.fr, look_zero]
  rw [List.getElem?_set_ne hne]
  exact hl
 obtain ⟨ab, hab⟩ := look_bnd h4.mem.shape hl'
 obtain ⟨m1, m2, m3⟩ := boxCell_ok h4.mem hl' hab (i := i) (.vs 0 k 0 0 g) (fun q arr tt v q1 q2 q3 => by
  obtain ⟨q', arr', tt', k1, k2, k3, k4⟩ := h4.mem.obj 0 j _ _ hl' hab
  rw [q1] at k1
  cases k1
  rw [q2] at k2
  cases k2
  have := k3.get' hc q3
  simp only [VRel] at this
  subst this
  exact h3)
 obtain ⟨h6, h7⟩ := h4.moved m1 ⟨Fz.le_refl F, m2, .refl _ _ _, m3⟩ (ASt.setFr_fset _ _ _ _)
 exact ⟨F, bs', h6, h5.trans h7⟩
def ehasT (c : PV → PV → Prop) (env : List (Nat × PV)) : List (Nat × PV) → Prop
 | [] => True
 | (t, v) :: e => (∃ u, eget env t = some u ∧ c u v) ∧ ehasT c env e
theorem ehasT_mem {c : PV → PV → Prop} {env : List (Nat × PV)} : ∀ {e : List (Nat × PV)} {t : Nat} {v : PV}, ehasT c env e → eget e t = some v → ∃ u, eget env t = some u ∧ c u v
 | [], t, v, _, h => by simp [eget] at h
 | (k, u) :: e, t, v, h, hv => by
  simp only [eget] at hv
  split at hv
  ·rename_i e1
   subst e1
   simp only [Option.some.injEq] at hv
   subst hv
   exact h.1
  ·exact ehasT_mem h.2 hv
def cRow (L m : Nat) (u v : PV) : Prop := (u = v ∧ u.under L = true) ∨ (u = .ms 0 L m ∧ v = .vs 0 L 0 m 0)
def cMove (L d k g g' : Nat) (u v : PV) : Prop := (u = v ∧ u.under L = true) ∨ ∃ o n, u = .vs 0 L o n g ∧ v = .vs d k o n g'
theorem cRow.nil {L m : Nat} {env : List (Nat × PV)} : ehasT (cRow L m) env [] := trivial
theorem cRow.keep {L m : Nat} {env e : List (Nat × PV)} {t : Nat} {v : PV} (h1 : eget env t = some v) (h2 : v.under L = true) (h : ehasT (cRow L m) env e) : ehasT (cRow L m) env ((t, v) :: e) := ⟨⟨v, h1, .inl ⟨rfl, h2⟩⟩, h⟩
theorem cRow.conv {L m : Nat} {env e : List (Nat × PV)} {t : Nat} (h1 : eget env t = some (.ms 0 L m)) (h : ehasT (cRow L m) env e) : ehasT (cRow L m) env ((t, .vs 0 L 0 m 0) :: e) := ⟨⟨_, h1, .inr ⟨rfl, rfl⟩⟩, h⟩
theorem cMove.nil {L d k g g' : Nat} {env : List (Nat × PV)} : ehasT (cMove L d k g g') env [] := trivial
theorem cMove.keep {L d k g g' : Nat} {env e : List (Nat × PV)} {t : Nat} {v : PV} (h1 : eget env t = some v) (h2 : v.under L = true) (h : ehasT (cMove L d k g g') env e) : ehasT (cMove L d k g g') env ((t, v) :: e) := ⟨⟨v, h1, .inl ⟨rfl, h2⟩⟩, h⟩
theorem cMove.conv {L d k g g' o n : Nat} {env e : List (Nat × PV)} {t : Nat} (h1 : eget env t = some (.vs 0 L o n g)) (h : ehasT (cMove L d k g g') env e) : ehasT (cMove L d k g g') env ((t, .vs d k o n g') :: e) := ⟨⟨_, h1, .inr ⟨o, n, rfl, rfl⟩⟩, h⟩
mutual
def PV.free (j : Nat) : PV → Bool
 | .agg cs => frees j cs
 | .tup cs => frees j cs
 | .fn _ cap => frees j cap
 | .ms 0 k _ => decide (k ≠ j)
 | .ptr 0 k _ => decide (k ≠ j)
 | .bs 0 k _ => decide (k ≠ j)
 | .vs 0 k _ _ _ => decide (k ≠ j)
 | .vp 0 k _ _ => decide (k ≠ j)
 | .rptr 0 k _ _ _ => decide (k ≠ j)
 | .map 0 k => decide (k ≠ j)
 | _ => true
def frees (j : Nat) : List PV → Bool
 | [] => true
 | x :: xs => x.free j && frees j xs
end
def AObj.free (j : Nat) : AObj → Bool
 | .box cs => frees j cs
 | .vec _ _ cs => frees j cs
 | _ => true
theorem fget_setNe {α : Type} {f : List α} {fr : List (List α)} {j d k : Nat} {o : α} (h : d = 0 → k ≠ j) : fget (f.set j o :: fr) d k = fget (f :: fr) d k := by
 cases d with
 | zero => simp only [look_zero]; rw [List.getElem?_set_ne (fun e => h rfl e.symm)]
 | succ d => rfl
mutual
theorem VRel.freed {F : Fz} {b : List Bnd} {f : List AObj} {bs : Bns} {fr : Frs} {j : Nat} {o : AObj} {a : Bnd} : ∀ {x : PV} {v : Value}, x.free j = true → VRel F (b :: bs) (f :: fr) x v → VRel F (b.set j a :: bs) (f.set j o :: fr) x v
 | .im x, v, _, h => by simpa only [VRel] using h
 | .full x, v, _, h => by simpa only [VRel] using h
 | .agg cs, v, hu, h => by
  simp only [VRel] at h ⊢
  obtain ⟨vs, h1, h2⟩ := h
  exact ⟨vs, h1, VRels.freed (by simpa only [PV.free] using hu) h2⟩
 | .tup cs, v, hu, h => by
  simp only [VRel] at h ⊢
  obtain ⟨vs, h1, h2⟩ := h
  exact ⟨vs, h1, VRels.freed (by simpa only [PV.free] using hu) h2⟩
 | .fn g cap, v, hu, h => by
  simp only [VRel] at h ⊢
  obtain ⟨vs, h1, h2⟩ := h
  exact ⟨vs, h1, VRels.freed (by simpa only [PV.free] using hu) h2⟩
 | .ms d k n, v, hu, h => by
  have hd : d = 0 → k ≠ j := fun e => by subst e; simpa [PV.free] using hu
  simpa only [VRel, look, bnd, fget_setNe hd] using h
 | .ptr d k n, v, hu, h => by
  have hd : d = 0 → k ≠ j := fun e => by subst e; simpa [PV.free] using hu
  simpa only [VRel, look, bnd, fget_setNe hd] using h
 | .bs d k n, v, hu, h => by
  have hd : d = 0 → k ≠ j := fun e => by subst e; simpa [PV.free] using hu
  simpa only [VRel, look, bnd, fget_setNe hd] using h
 | .vs d k o' n g, v, hu, h => by
  have hd : d = 0 → k ≠ j := fun e => by subst e; simpa [PV.free] using hu
  simpa only [VRel, look, bnd, fget_setNe hd] using h
 | .vp d k i g, v, hu, h => by
  have hd : d = 0 → k ≠ j := fun e => by subst e; simpa [PV.free] using hu
  simpa only [VRel, look, bnd, fget_setNe hd] using h
 | .rptr d k n i o', v, hu, h => by
  have hd : d = 0 → k ≠ j := fun e => by subst e; simpa [PV.free] using hu
  simpa only [VRel, look, bnd, fget_setNe hd] using h
 | .map d k, v, hu, h => by
  have hd : d = 0 → k ≠ j := fun e => by subst e; simpa [PV.free] using hu
  simpa only [VRel, look, bnd, fget_setNe hd] using h
 | .iptr cs, v, _, h => by simpa only [VRel] using h
 | .nilp, v, _, h => by simpa only [VRel] using h
 | .nils, v, _, h => by simpa only [VRel] using h
 | .abool, v, _, h => by simpa only [VRel] using h
 | .any, v, _, h => by simp only [VRel]
theorem VRels.freed {F : Fz} {b : List Bnd} {f : List AObj} {bs : Bns} {fr : Frs} {j : Nat} {o : AObj} {a : Bnd} : ∀ {xs : List PV} {vs : List Value}, frees j xs = true → VRels F (b :: bs) (f :: fr) xs vs → VRels F (b.set j a :: bs) (f.set j o :: fr) xs vs
 | [], vs, _, h => by simpa only [VRels] using h
 | x :: xs, vs, hu, h => by
  simp only [frees, Bool.and_eq_true] at hu
  simp only [VRels] at h ⊢
  obtain ⟨v, vs', h1, h2, h3⟩ := h
  exact ⟨v, vs', h1, VRel.freed hu.1 h2, VRels.freed hu.2 h3⟩
end
mutual
theorem PV.free_of_under {L : Nat} : ∀ {x : PV}, x.under L = true → x.free L = true
 | .agg cs, h => by simp only [PV.under] at h; simp only [PV.free]; exact frees_of_unders h
 | .tup cs, h => by simp only [PV.under] at h; simp only [PV.free]; exact frees_of_unders h
 | .fn g cap, h => by simp only [PV.under] at h; simp only [PV.free]; exact frees_of_unders h
 | .ms 0 k n, h => by simp [PV.under] at h; simp [PV.free]; omega
 | .ptr 0 k n, h => by simp [PV.under] at h; simp [PV.free]; omega
 | .bs 0 k n, h => by simp [PV.under] at h; simp [PV.free]; omega
 | .vs 0 k o n g, h => by simp [PV.under] at h; simp [PV.free]; omega
 | .vp 0 k i g, h => by simp [PV.under] at h; simp [PV.free]; omega
 | .rptr 0 k n i o, h => by simp [PV.under] at h; simp [PV.free]; omega
 | .map 0 k, h => by simp [PV.under] at h; simp [PV.free]; omega
 | .ms (d + 1) k n, h => rfl
 | .ptr (d + 1) k n, h => rfl
 | .bs (d + 1) k n, h => rfl
 | .vs (d + 1) k o n g, h => rfl
 | .vp (d + 1) k i g, h => rfl
 | .rptr (d + 1) k n i o, h => rfl
 | .map (d + 1) k, h => rfl
 | .im x, h => rfl
 | .full x, h => rfl
 | .iptr x, h => rfl
 | .nilp, h => rfl
 | .nils, h => rfl
 | .abool, h => rfl
 | .any, h => rfl
theorem frees_of_unders {L : Nat} : ∀ {xs : List PV}, unders L xs = true → frees L xs = true
 | [], h => rfl
 | x :: xs, h => by
  simp only [unders, Bool.and_eq_true] at h
  simp only [frees, PV.free_of_under h.1, frees_of_unders h.2, Bool.and_self]
end
theorem MRel.retag {F : Fz} {b0 : List Bnd} {bs : Bns} {f0 : List AObj} {fr : Frs} {w : World} (h : MRel F (b0 :: bs) (f0 :: fr) w) {j : Nat} {o o' : AObj} {a : Bnd} (ho : f0[j]? = some o) (ha : b0[j]? = some a) (hlv : o'.live → o.live)
  (hfree : ∀ k x, k ≠ j → f0[k]? = some x → x.free j = true) (hm : MObj F (b0 :: bs) (f0.set j o' :: fr) w o' a) : MRel F (b0 :: bs) (f0.set j o' :: fr) w := by
 have hsh := h.shape
 simp only [List.map_cons, List.cons.injEq] at hsh
 have hb : b0.set j a = b0 := by
  obtain ⟨h1, h2⟩ := List.getElem?_eq_some_iff.1 ha
  rw [← h2, List.set_getElem_self]
 have hlk : ∀ d k x, look (f0.set j o' :: fr) d k = some x → (d = 0 ∧ k = j ∧ x = o') ∨ ((d = 0 → k ≠ j) ∧ look (f0 :: fr) d k = some x) := fun d k x hx => by
  cases d with
  | succ d => exact .inr ⟨fun e => by simp at e, hx⟩
  | zero =>
   simp only [look_zero] at hx
   by_cases e : k = j
   ·subst e
    rw [List.getElem?_set_self (List.getElem?_eq_some_iff.1 ho).1] at hx
    exact .inl ⟨rfl, rfl, by simpa using hx.symm⟩
   ·rw [List.getElem?_set_ne (fun h => e h.symm)] at hx
    exact .inr ⟨fun _ => e, hx⟩
 have hown : ∀ d k q, Own (b0 :: bs) (f0.set j o' :: fr) d k q → Own (b0 :: bs) (f0 :: fr) d k q := fun d k q ⟨x, c, h1, h2, h3⟩ => by
  rcases hlk d k x h1 with ⟨rfl, rfl, rfl⟩ | ⟨_, h4⟩
  ·exact ⟨o, c, ho, hlv h2, h3⟩
  ·exact ⟨x, c, h4, h2, h3⟩
 refine ⟨by simp [hsh.1, hsh.2], fun d k x c h1 h2 => ?_, fun d k d' k' q h1 h2 => h.inj d k d' k' q (hown _ _ _ h1) (hown _ _ _ h2), h.fz⟩
 rcases hlk d k x h1 with ⟨rfl, rfl, rfl⟩ | ⟨hne, h4⟩
 ·have hc : c = a := by
   have h2' : b0[k]? = some c := h2
   rw [ha] at h2'
   simpa using h2'.symm
  subst hc
  simpa using hm
 ·have hmo := h.obj d k x c h4 h2
  cases d with
  | succ d => simpa using hmo
  | zero =>
   have hf := hfree k x (hne rfl) h4
   simp only [List.drop_zero] at hmo ⊢
   cases x with
   | box cs =>
    obtain ⟨q, arr, t, k1, k2, k3, k4⟩ := hmo
    have := VRels.freed (a := a) (o := o') (show frees j cs = true from hf) k3
    rw [hb] at this
    exact ⟨q, arr, t, k1, k2, this, k4⟩
   | row t sz rows fz => exact hmo
   | map es => exact hmo
   | dead => trivial
   | vec t g cs =>
    obtain ⟨k1, k2, k3, k4⟩ := hmo
    refine ⟨k1, k2, k3, fun q hq => ?_⟩
    obtain ⟨arr, k5, k6, k7, k8⟩ := k4 q hq
    have := VRels.freed (a := a) (o := o') (show frees j cs = true from hf) k7
    rw [hb] at this
    exact ⟨arr, k5, k6, this, k8⟩
theorem flat_rel {F : Fz} {bs bs' : Bns} {fr fr' : Frs} {cs : List Im} {vs : List Value} (h : VRels F bs fr (cs.map .im) vs) : VRels F bs' fr' (cs.map .im) vs :=
 VRels.mk h.length fun j x v hx hv => by
  have := h.get' hx hv
  rw [List.getElem?_map, Option.map_eq_some_iff] at hx
  obtain ⟨y, hy, rfl⟩ := hx
  simpa only [VRel] using this
theorem Ghost.rowVec {n : Nat} {env e : List (Nat × PV)} {L : List AObj} {up : Frs} {t : Nat} {rows : List (List Im)} (ims : List Im) (hr : rows = ims.map fun x => [x]) (he : ehasT (cRow L.length rows.length) env e) (h2 : L.all (AObj.under L.length) = true) :
  Ghost n ⟨env, L ++ [.row t 1 rows 0], up⟩ ⟨e, L ++ [.vec t 0 (ims.map .im)], up⟩ := fun F bs a w h => by
 have hm := h.mem
 have hsh := hm.shape
 cases bs with
 | nil => simp [ASt.fr] at hsh
 | cons b0 bs =>
  simp only [ASt.fr, List.map_cons, List.cons.injEq, List.length_append, List.length_cons, List.length_nil] at hsh
  have hlast : (L ++ [AObj.row t 1 rows 0])[L.length]? = some (.row t 1 rows 0) := by simp
  obtain ⟨A, hA⟩ := look_bnd (d := 0) (j := L.length) hm.shape hlast
  have hA' : b0[L.length]? = some A := hA
  obtain ⟨k1, k2, k3, k4, k5, k6⟩ := hm.obj 0 L.length _ _ hlast hA
  have hset : (L ++ [AObj.row t 1 rows 0]).set L.length (.vec t 0 (ims.map .im)) = L ++ [.vec t 0 (ims.map .im)] := by simp
  have hrl : rows.length = ims.length := by rw [hr]; simp
  have hb : b0.set L.length A = b0 := by
   obtain ⟨h1, h2⟩ := List.getElem?_eq_some_iff.1 hA'
   rw [← h2, List.set_getElem_self]
  have m1 := MRel.retag hm (o' := .vec t 0 (ims.map .im)) hlast hA' (fun _ => trivial) (fun k x hk hx => by
    have hlt : k < L.length := by
     have := (List.getElem?_eq_some_iff.1 hx).1
     simp at this
     omega
    rw [List.getElem?_append_left hlt] at hx
    have := List.all_eq_true.1 h2 x (List.mem_of_getElem? hx)
    cases x <;> simp only [AObj.under, AObj.free] at this ⊢ <;> exact frees_of_unders this) (by
    refine ⟨by rw [List.length_map, ← hrl]; exact k2, k3, k5, fun q hq => ?_⟩
    obtain ⟨arr, g1, g2, g3, g4, g5⟩ := k6 q hq
    refine ⟨arr, g1, by simpa using g2, ?_, fun o => ?_⟩
    ·refine VRels.mk (by simp; omega) fun i x v hx hv => ?_
     rw [List.getElem?_map, Option.map_eq_some_iff] at hx
     obtain ⟨y, hy, rfl⟩ := hx
     obtain ⟨_, g6⟩ := g3 i [y] (by rw [hr, List.getElem?_map, hy]; rfl)
     obtain ⟨v', g7, g8⟩ := g6 0 y rfl
     simp only [Nat.mul_one, Nat.add_zero] at g7
     rw [List.getElem?_take] at hv
     split at hv
     ·have hv2 : arr[i]? = some v := by simpa using hv
      rw [g7] at hv2
      cases hv2
      simpa only [VRel] using g8
     ·simp at hv
    ·cases hq2 : F q o with
     | none => rfl
     | some u => have := g4 o u hq2; omega)
  rw [hset] at m1
  refine ⟨F, b0 :: bs, ⟨m1, h.size, fun u v hv => ?_, h.defers⟩, ⟨Fz.le_refl F, .refl _ _, .refl _ _ _, ?_⟩⟩
  ·obtain ⟨x, hx1, ⟨rfl, hx3⟩ | ⟨rfl, rfl⟩⟩ := ehasT_mem he hv
   ·obtain ⟨w1, w2⟩ := h.env u x hx1
    refine ⟨w1, ?_⟩
    have := VRel.freed (a := A) (o := .vec t 0 (ims.map .im)) (PV.free_of_under hx3) w2
    rw [hb, hset] at this
    exact this
   ·obtain ⟨w1, w2⟩ := h.env u _ hx1
    refine ⟨w1, ?_⟩
    simp only [VRel] at w2 ⊢
    obtain ⟨A2, c2, r1, r2, t2, sz2, rows2, fz2, a2, r3, r4, r5, r6⟩ := w2
    have r3' : (L ++ [AObj.row t 1 rows 0])[L.length]? = some (.row t2 sz2 rows2 fz2) := r3
    rw [hlast] at r3'
    cases r3'
    have r4' : b0[L.length]? = some a2 := r4
    rw [hA'] at r4'
    cases r4'
    obtain ⟨r7, r8⟩ := r6 rfl
    exact ⟨A2, c2, r1, r2, t, 0, ims.map .im, A, by simp [ASt.fr], hA, Nat.le_refl _, fun _ => ⟨by simp; omega, by omega, fun _ => r7⟩⟩
  ·intro d k q ⟨x, c, p1, p2, p3⟩
   refine .inl ⟨d, k, ?_⟩
   cases d with
   | succ d => exact ⟨x, c, p1, p2, p3⟩
   | zero =>
    simp only [ASt.fr, look_zero] at p1
    by_cases hj : k < L.length
    ·rw [List.getElem?_append_left hj] at p1
     exact ⟨x, c, by simp only [ASt.fr, look_zero]; rw [List.getElem?_append_left hj]; exact p1, p2, p3⟩
    ·have hj2 := (List.getElem?_eq_some_iff.1 p1).1
     simp at hj2
     have hj3 : k = L.length := by omega
     subst hj3
     exact ⟨.row t 1 rows 0, c, hlast, trivial, p3⟩

/-! ### handing on -/
theorem MRel.regain {F : Fz} {bs : Bns} {fr : Frs} {w : World} (h : MRel F bs fr w) {d k : Nat} {o o' : AObj} {a a' : Bnd} (ho : look fr d k = some o) (ha : bnd bs d k = some a) (hn : ∀ b, a'.1 = some b → ∀ d j, ¬ Own bs fr d j b) (hbc : o.becomes o' a a')
  (hm : MObj F ((fset bs d k a').drop d) ((fset fr d k o').drop d) w o' a') : MRel F (fset bs d k a') (fset fr d k o') w ∧ Evolve bs fr (fset bs d k a') (fset fr d k o') ∧
   ∀ d' j' b, Own (fset bs d k a') (fset fr d k o') d' j' b → Own bs fr d' j' b ∨ (d' = d ∧ j' = k ∧ a'.1 = some b) := by
 have hlk : ∀ d' j', look (fset fr d k o') d' j' = if d' = d ∧ j' = k then some o' else look fr d' j' := fun d' j' => by rw [look, fget_fset]; split <;> simp_all
 have hbk : ∀ d' j', bnd (fset bs d k a') d' j' = if d' = d ∧ j' = k then some a' else bnd bs d' j' := fun d' j' => by rw [bnd, fget_fset]; split <;> simp_all
 have hev : Evolve bs fr (fset bs d k a') (fset fr d k o') := fun d' j' o1 a1 h1 h2 => by
  rw [hlk, hbk]
  split
  ·rename_i he
   obtain ⟨rfl, rfl⟩ := he
   rw [h1] at ho
   rw [h2] at ha
   cases ho; cases ha
   exact ⟨o', a', rfl, rfl, hbc⟩
  ·exact ⟨o1, a1, h1, h2, o1.becomes_refl a1⟩
 have hown : ∀ d' j' b, Own (fset bs d k a') (fset fr d k o') d' j' b → (¬ (d' = d ∧ j' = k) ∧ Own bs fr d' j' b) ∨ (d' = d ∧ j' = k ∧ a'.1 = some b) := fun d' j' b hd => by
  obtain ⟨o1, c, h1, h2, h3⟩ := hd
  rw [hlk] at h1
  rw [hbk] at h3
  by_cases he : d' = d ∧ j' = k
  ·rw [if_pos he] at h1 h3
   simp at h1 h3
   exact .inr ⟨he.1, he.2, by rw [h3]⟩
  ·rw [if_neg he] at h1 h3
   exact .inl ⟨he, o1, c, h1, h2, h3⟩
 refine ⟨h.change (by rw [fset_shape, fset_shape, h.shape]) (Fz.le_refl F) hev ?_ ?_ h.fz, hev, fun d' j' b hd => ?_⟩
 ·intro d' j' o1 a1 h1 h2
  rw [hlk] at h1
  rw [hbk] at h2
  by_cases he : d' = d ∧ j' = k
  ·rw [if_pos he] at h1 h2
   simp at h1 h2
   obtain ⟨rfl, rfl⟩ := he
   subst h1 h2
   exact .inr hm
  ·rw [if_neg he] at h1 h2
   exact .inl ⟨h1, h2, fun b _ _ => ⟨rfl, fun _ => rfl⟩⟩
 ·intro d1 j1 d2 j2 b h1 h2
  rcases hown d1 j1 b h1 with ⟨h3, h4⟩ | ⟨h3, h4, h5⟩ <;> rcases hown d2 j2 b h2 with ⟨k3, k4⟩ | ⟨k3, k4, k5⟩
  ·exact h.inj d1 j1 d2 j2 b h4 k4
  ·exact absurd h4 (hn b k5 d1 j1)
  ·exact absurd k4 (hn b h5 d2 j2)
  ·exact ⟨by omega, by omega⟩
 ·rcases hown d' j' b hd with h3 | h3
  ·exact .inl h3.2
  ·exact .inr h3
def Takes (t g' : Nat) : AObj → Prop
 | .dead => True
 | .vec t0 g0 _ => t0 = t ∧ g0 < g'
 | _ => False
theorem Ghost.moveLast {n : Nat} {env e : List (Nat × PV)} {L L' : List AObj} {up up' : Frs} {t g : Nat} {ims : List Im} (d k g' : Nat) {o : AObj} (hk : look (L :: up) d k = some o) (htk : Takes t g' o) (hfr : fset (L :: up) d k (.vec t g' (ims.map .im)) = L' :: up')
  (he : ehasT (cMove L.length d k g g') env e) (h2 : L.all (AObj.under L.length) = true) :
  Ghost n ⟨env, L ++ [.vec t g (ims.map .im)], up⟩ ⟨e, L', up'⟩ := fun F bs a w h => by
 have hm := h.mem
 have hsh := hm.shape
 cases bs with
 | nil => simp [ASt.fr] at hsh
 | cons b0 bs =>
  simp only [ASt.fr, List.map_cons, List.cons.injEq, List.length_append, List.length_cons, List.length_nil] at hsh
  have hfr0 : (⟨env, L ++ [.vec t g (ims.map .im)], up⟩ : ASt).fr = (L ++ [.vec t g (ims.map .im)]) :: up := rfl
  rw [hfr0] at hm
  have hlast : look ((L ++ [AObj.vec t g (ims.map .im)]) :: up) 0 L.length = some (.vec t g (ims.map .im)) := by simp
  obtain ⟨A, hA⟩ := look_bnd hm.shape hlast
  obtain ⟨k1, k2, k3, k4⟩ := hm.obj 0 L.length _ _ hlast hA
  have m4 := hm.trunc L.length (by rw [List.take_left' rfl]; exact h2)
  rw [List.take_left' rfl] at m4
  obtain ⟨a0, ha0⟩ := look_bnd m4.shape hk
  have hbc : o.becomes (.vec t g' (ims.map .im)) a0 A := by
   cases o <;> simp only [Takes] at htk <;> simp only [AObj.becomes]
   exact ⟨htk.1.symm, by omega, fun e => by omega⟩
  have hlv : A.1 = some (A.1.getD 0) ∨ A.1 = none := by cases A.1 <;> simp
  have hno : ∀ b, A.1 = some b → ∀ d j, ¬ Own (b0.take L.length :: bs) (L :: up) d j b := fun b hb d j ho => by
   have ho2 : Own (b0 :: bs) ((L ++ [AObj.vec t g (ims.map .im)]) :: up) d j b ∧ (d = 0 → j < L.length) := by
    obtain ⟨x, c, p1, p2, p3⟩ := ho
    cases d with
    | succ d => exact ⟨⟨x, c, by simpa only [look_succ] using p1, p2, by simpa only [bnd, look_succ] using p3⟩, fun e => by omega⟩
    | zero =>
     have hj : j < L.length := by simp only [look_zero] at p1; exact (List.getElem?_eq_some_iff.1 p1).1
     refine ⟨⟨x, c, ?_, p2, ?_⟩, fun _ => hj⟩
     ·simp only [look_zero] at p1 ⊢; rw [List.getElem?_append_left hj]; exact p1
     ·simp only [bnd, look_zero, List.getElem?_take, hj, if_true] at p3 ⊢; exact p3
   have hown : Own (b0 :: bs) ((L ++ [AObj.vec t g (ims.map .im)]) :: up) 0 L.length b := ⟨_, A.2, hlast, trivial, by rw [hA, ← hb]⟩
   obtain ⟨e2, e3⟩ := hm.inj _ _ _ _ _ ho2.1 hown
   have := ho2.2 e2
   omega
  obtain ⟨m5, m6, m7⟩ := m4.regain (o' := .vec t g' (ims.map .im)) (a' := A) hk ha0 hno hbc (by
   refine ⟨k1, k2, k3, fun q hq => ?_⟩
   obtain ⟨arr, g1, g2, g3, g4⟩ := k4 q hq
   exact ⟨arr, g1, g2, flat_rel g3, g4⟩)
  have hlk : look (fset (L :: up) d k (.vec t g' (ims.map .im))) d k = some (.vec t g' (ims.map .im)) := by simp [look, fget_fset, show fget (L :: up) d k = some _ from hk]
  have hbk : bnd (fset (b0.take L.length :: bs) d k A) d k = some A := by simp [bnd, fget_fset, show fget (b0.take L.length :: bs) d k = some _ from ha0]
  refine ⟨F, _, ⟨by simpa only [ASt.fr, ← hfr] using m5, h.size, fun u v hv => ?_, h.defers⟩, ⟨Fz.le_refl F, ?_, .refl _ _ _, ?_⟩⟩
  ·have hin := ehasT_mem he hv
   obtain ⟨x, hx1, hx2⟩ := hin
   obtain ⟨w1, w2⟩ := h.env u x hx1
   refine ⟨w1, ?_⟩
   rw [hfr0] at w2
   show VRel F _ (L' :: up') v _
   rw [← hfr]
   rcases hx2 with ⟨rfl, hx3⟩ | ⟨o', n', rfl, rfl⟩
   ·have w3 := VRel.trunc hx3 w2
    rw [List.take_left' rfl] at w3
    exact VRel.move (Fz.le_refl F) m6 w3
   ·simp only [VRel] at w2 ⊢
    obtain ⟨A2, c2, r1, r2, t2, g2, cs2, a2, r3, r4, r5, r6⟩ := w2
    rw [hlast] at r3
    cases r3
    rw [hA] at r4
    cases r4
    exact ⟨A2, c2, r1, r2, t, g', ims.map .im, A, hlk, hbk, Nat.le_refl _, fun _ => r6 rfl⟩
  ·have hl : L' :: up' = fset (L :: up) d k (.vec t g' (ims.map .im)) := hfr.symm
   have ev2 : Evolve (b0.take L.length :: bs) (L :: up) (fset (b0.take L.length :: bs) d k A) (L' :: up') := by rw [hl]; exact m6
   obtain ⟨b1, bs1, hbs⟩ : ∃ b1 bs1, fset (b0.take L.length :: bs) d k A = b1 :: bs1 := by cases d <;> exact ⟨_, _, rfl⟩
   rw [hbs] at ev2 ⊢
   exact Evolve.tail ev2
  ·intro d' j' b hb
   have hb' : Own (fset (b0.take L.length :: bs) d k A) (fset (L :: up) d k (.vec t g' (ims.map .im))) d' j' b := by rw [hfr]; exact hb
   rcases m7 d' j' b hb' with h8 | ⟨rfl, rfl, h8⟩
   ·refine .inl ⟨d', j', ?_⟩
    obtain ⟨x, c, p1, p2, p3⟩ := h8
    cases d' with
    | succ d' => exact ⟨x, c, p1, p2, p3⟩
    | zero =>
     simp only [look_zero] at p1
     have hj : j' < L.length := (List.getElem?_eq_some_iff.1 p1).1
     refine ⟨x, c, ?_, p2, ?_⟩
     ·simp only [ASt.fr, look_zero]; rw [List.getElem?_append_left hj]; exact p1
     ·simp only [bnd, look_zero, List.getElem?_take, hj, if_true] at p3 ⊢; exact p3
   ·exact .inl ⟨0, L.length, .vec t g (ims.map .im), A.2, hlast, trivial, by rw [hA, ← h8]⟩
end Go.Proofs.YtkjfdacjjogpcaaPi

