/- New rows (make, literals, nil slices), and what may be said of the same state besides: freezing a row, forgetting slots and objects. No Go text in it. -/
import Derived.Test.YtkjfdacjjogpcaaPiRow
set_option linter.unusedVariables false
set_option linter.unusedSimpArgs false
namespace Go.Proofs.YtkjfdacjjogpcaaPi
variable {P : Program}

/-! ### freezing -/
theorem freeze_ok {F : Fz} {bs : Bns} {fr : Frs} {w : World} (hm : MRel F bs fr w) {d j t sz fz : Nat} {rows : List (List Im)} (hl : look fr d j = some (.row t sz rows fz)) :
  ∃ F', MRel F' bs (fset fr d j (.row t sz rows rows.length)) w ∧ CStep F bs fr w F' bs (fset fr d j (.row t sz rows rows.length)) w := by
 obtain ⟨a, ha⟩ := look_bnd hm.shape hl
 have hb : fset bs d j a = bs := fset_self bs d j a ha
 obtain ⟨k1, k2, k3, k4, k5, k6⟩ := hm.obj d j _ _ hl ha
 cases hA : a.1 with
 | none =>
  have hput := hm.put (F' := F) (w' := w) (o' := .row t sz rows rows.length) (a' := a) hl ha (fun _ _ _ => rfl) (Fz.le_refl F) (fun _ _ _ _ => rfl) (fun b q v _ hq => hm.fz b q v hq)
   (fun b hb' => .inr ⟨hb', trivial⟩) (by simp only [AObj.becomes]; exact ⟨trivial, trivial, Nat.le_refl _, fun _ => trivial⟩)
   (by exact ⟨k1, k2, k3, Nat.le_refl _, k5, fun b hb' => by rw [hA] at hb'; simp at hb'⟩)
  rw [hb] at hput
  exact ⟨F, hput.1, Fz.le_refl F, hput.2.1, .refl _ _ _, hput.2.2⟩
 | some g =>
  obtain ⟨arr, g1, g2, g3, g4, g5⟩ := k6 g hA
  have hsub : fz * sz ≤ rows.length * sz := Nat.mul_le_mul_right _ k4
  have hcap : rows.length * sz ≤ arr.size := by rw [g2]; exact Nat.mul_le_mul_right _ k2
  let F' : Fz := fun b q => if b = g then (if q < rows.length * sz then arr[q]? else none) else F b q
  have hle : Fz.le F F' := fun b q v hq => by
   show (if b = g then _ else F b q) = some v
   split
   ·rename_i e
    subst e
    have h1 := g4 q v hq
    rw [if_pos (by omega), ← g5 q h1]
    exact hq
   ·exact hq
  have hput := hm.put (F' := F') (w' := w) (o' := .row t sz rows rows.length) (a' := a) hl ha (fun _ _ _ => rfl) hle
   (fun b q hb' hne => by
    show (if b = g then _ else F b q) = _
    rw [if_neg (fun e => by rcases hne with h | h; exact h (by rw [e]; exact hA); exact h trivial)])
   (fun b q v _ hq => by
    by_cases e : b = g
    ·subst e
     simp only [F', if_true] at hq
     split at hq
     ·rw [cell_of_row w b q arr t (0, 0) g1]; exact hq
     ·simp at hq
    ·exact hm.fz b q v (by simpa only [F', e, if_false] using hq))
   (fun b hb' => .inr ⟨hb', trivial⟩) (by simp only [AObj.becomes]; exact ⟨trivial, trivial, Nat.le_refl _, fun _ => trivial⟩)
   (by
    refine ⟨k1, k2, k3, Nat.le_refl _, k5, fun b hb' => ?_⟩
    rw [hA] at hb'
    simp at hb'
    subst hb'
    refine ⟨arr, g1, g2, g3.mono hle, fun q v hq => ?_, fun q hq => by simp [F', hq]⟩
    simp only [F', if_true] at hq
    split at hq
    ·assumption
    ·simp at hq)
  rw [hb] at hput
  exact ⟨F', hput.1, hle, hput.2.1, .refl _ _ _, hput.2.2⟩

def ASt.setFr (st : ASt) (fr : Frs) : ASt := match fr with
 | l :: u => { st with loc := l, up := u }
 | [] => st
theorem fset_cons {fr : Frs} {f : List AObj} {d j : Nat} {o : AObj} : ∃ l u, fset (f :: fr) d j o = l :: u := by cases d <;> exact ⟨_, _, rfl⟩
theorem ASt.setFr_fset (st : ASt) (d j : Nat) (o : AObj) : (st.setFr (fset st.fr d j o)).fr = fset st.fr d j o := by
 obtain ⟨l, u, h⟩ := fset_cons (fr := st.up) (f := st.loc) (d := d) (j := j) (o := o)
 show (st.setFr (fset (st.loc :: st.up) d j o)).fr = fset (st.loc :: st.up) d j o
 rw [h]
 rfl
theorem ASt.setFr_env (st : ASt) (fr : Frs) : (st.setFr fr).env = st.env := by cases fr <;> rfl
theorem ARel.moved {n : Nat} {F F' : Fz} {bs bs' : Bns} {st : ASt} {fr' : Frs} {a : Act} {w w' : World} (h : ARel n F bs st a w) (hm : MRel F' bs' fr' w') (hc : CStep F bs st.fr w F' bs' fr' w') (hne : (st.setFr fr').fr = fr') : ARel n F' bs' (st.setFr fr') a w' ∧ AStep F bs st w F' bs' (st.setFr fr') w' := by
 refine ⟨⟨by rw [hne]; exact hm, h.size, fun t v hv => ?_, h.defers⟩, ⟨hc.le, ?_, hc.keeps, by rw [hne]; exact hc.owns⟩⟩
 ·rw [ASt.setFr_env] at hv
  exact ⟨(h.env t v hv).1, by rw [hne]; exact VRel.move hc.le hc.ev (h.env t v hv).2⟩
 ·have hsh := hm.shape
  have hsh0 := h.mem.shape
  cases fr' with
  | nil => simp [ASt.setFr, ASt.fr] at hne
  | cons l u =>
   cases bs' with
   | nil => simp at hsh
   | cons b' bs' =>
    cases bs with
    | nil => simp [ASt.fr] at hsh0
    | cons b bs => exact Evolve.tail hc.ev
theorem Ghost.freeze {n : Nat} {st : ASt} {d j t sz fz : Nat} {rows : List (List Im)} (hl : look st.fr d j = some (.row t sz rows fz)) : Ghost n st (st.setFr (fset st.fr d j (.row t sz rows rows.length))) := fun F bs a w h => by
 obtain ⟨F', h1, h2⟩ := freeze_ok h.mem hl
 obtain ⟨h3, h4⟩ := h.moved h1 h2 (ASt.setFr_fset _ _ _ _)
 exact ⟨F', bs, h3, h4⟩

/-! ### a nil slice as an empty row -/
theorem pushNil_ok {n : Nat} {F : Fz} {bs : Bns} {st : ASt} {a : Act} {w : World} (h : ARel n F bs st a w) (t sz : Nat) (hsz : 0 < sz) :
  ∃ bs', MRel F bs' (st.push (.row t sz [] 0)).fr w ∧ CStep F bs st.fr w F bs' (st.push (.row t sz [] 0)).fr w ∧ VRel F bs' (st.push (.row t sz [] 0)).fr (.ms 0 st.loc.length 0) (.slice none 0 0) := by
 have hm := h.mem
 have hsh := hm.shape
 cases bs with
 | nil => simp [ASt.fr] at hsh
 | cons b0 bs =>
  simp only [ASt.fr, List.map_cons, List.cons.injEq] at hsh
  obtain ⟨h1, h2, h3⟩ := hm.push (F' := F) (w' := w) (.row t sz [] 0) (none, 0) (fun b hb => rfl) (Fz.le_refl F) (fun _ _ _ => rfl)
   (fun b q v hb hq => hm.fz b q v hq) (fun b hb => by simp at hb) ⟨hsz, Nat.zero_le _, Nat.zero_le _, Nat.zero_le _, fun _ => rfl, fun b hb => by simp at hb⟩
  refine ⟨_, h1, ⟨Fz.le_refl F, h2, .refl _ _ _, h3⟩, ?_⟩
  simp only [VRel]
  exact ⟨none, 0, rfl, Nat.le_refl _, t, sz, [], 0, (none, 0), by simp [ASt.push, ASt.fr], by simp [hsh.1], Nat.le_refl _, fun _ => ⟨rfl, rfl⟩⟩
theorem setFr_push (st : ASt) (o : AObj) : st.setFr (st.push o).fr = st.push o := rfl
theorem Ghost.thaw {n : Nat} {st : ASt} {u : Nat} (t sz : Nat) (hsz : 0 < sz) (hu : eget st.env u = some .nils) :
  Ghost n st { (st.push (.row t sz [] 0)) with env := eput st.env u (.ms 0 st.loc.length 0) } := fun F bs a w h => by
 obtain ⟨bs', h1, h2, h3⟩ := pushNil_ok h t sz hsz
 obtain ⟨h4, h5⟩ := h.moved h1 h2 (by rw [setFr_push])
 rw [setFr_push] at h4 h5
 refine ⟨F, bs', ⟨h4.mem, h4.size, fun q v hv => ?_, h4.defers⟩, ⟨h5.le, h5.ev, h5.keeps, h5.owns⟩⟩
 rw [eget_eput] at hv
 split at hv
 ·rename_i e
  subst e
  simp only [Option.some.injEq] at hv
  subst hv
  obtain ⟨h6, h7⟩ := h.env _ _ hu
  simp only [VRel] at h7
  refine ⟨h6, ?_⟩
  rw [h7]
  exact h3
 ·exact h4.env q v hv

/-! ### forgetting -/
theorem Ghost.env {n : Nat} {st : ASt} {e : List (Nat × PV)} (h : ∀ t v, eget e t = some v → eget st.env t = some v) : Ghost n st { st with env := e } := fun F bs a w hr =>
 ⟨F, bs, ⟨hr.mem, hr.size, fun t v hv => hr.env t v (h t v hv), hr.defers⟩, ⟨Fz.le_refl F, .refl _ _, .refl _ _ _, .refl _ _ _⟩⟩
def ekeep (ks : List Nat) : List (Nat × PV) → List (Nat × PV)
 | [] => []
 | (k, v) :: e => if ks.contains k then (k, v) :: ekeep ks e else ekeep ks e
theorem eget_ekeep {ks : List Nat} : ∀ {e : List (Nat × PV)} {t : Nat} {v : PV}, eget (ekeep ks e) t = some v → eget e t = some v
 | [], t, v, h => by simp [ekeep, eget] at h
 | (k, u) :: e, t, v, h => by
  have aux : ∀ {e : List (Nat × PV)} {t : Nat} {v : PV}, eget (ekeep ks e) t = some v → ks.contains t = true := by
   intro e
   induction e with
   | nil => intro t v h; simp [ekeep, eget] at h
   | cons p e ih =>
    intro t v h
    obtain ⟨k, u⟩ := p
    simp only [ekeep] at h
    split at h
    ·rename_i hk
     simp only [eget] at h
     split at h
     ·rename_i e2; subst e2; exact hk
     ·exact ih h
    ·exact ih h
  simp only [ekeep] at h
  simp only [eget]
  split at h
  ·simp only [eget] at h
   split at h
   ·rename_i e2; rw [if_pos e2]; exact h
   ·rename_i e2; rw [if_neg e2]; exact eget_ekeep h
  ·rename_i hk
   rw [if_neg (fun e2 => hk (by rw [e2]; exact aux h))]
   exact eget_ekeep h
theorem Ghost.keep {n : Nat} {st : ASt} (ks : List Nat) : Ghost n st { st with env := ekeep ks st.env } := Ghost.env fun t v h => eget_ekeep h

mutual
def PV.under (L : Nat) : PV → Bool
 | .agg cs => unders L cs
 | .tup cs => unders L cs
 | .fn _ cap => unders L cap
 | .ms 0 j _ => decide (j < L)
 | .ptr 0 j _ => decide (j < L)
 | .bs 0 j _ => decide (j < L)
 | .vs 0 j _ _ _ => decide (j < L)
 | .vp 0 j _ _ => decide (j < L)
 | .rptr 0 j _ _ _ => decide (j < L)
 | .map 0 j => decide (j < L)
 | _ => true
def unders (L : Nat) : List PV → Bool
 | [] => true
 | x :: xs => x.under L && unders L xs
end
theorem fget_take {α : Type} {f : List α} {fr : List (List α)} {L d j : Nat} (h : d = 0 → j < L) : fget (f.take L :: fr) d j = fget (f :: fr) d j := by
 cases d with
 | zero => simp only [look_zero, List.getElem?_take, h rfl, if_true]
 | succ d => rfl
mutual
theorem VRel.trunc {F : Fz} {b : List Bnd} {f : List AObj} {bs : Bns} {fr : Frs} {L : Nat} : ∀ {x : PV} {v : Value}, x.under L = true → VRel F (b :: bs) (f :: fr) x v → VRel F (b.take L :: bs) (f.take L :: fr) x v
 | .im x, v, _, h => by simpa only [VRel] using h
 | .full x, v, _, h => by simpa only [VRel] using h
 | .agg cs, v, hu, h => by
  simp only [VRel] at h ⊢
  obtain ⟨vs, h1, h2⟩ := h
  exact ⟨vs, h1, VRels.trunc (by simpa only [PV.under] using hu) h2⟩
 | .tup cs, v, hu, h => by
  simp only [VRel] at h ⊢
  obtain ⟨vs, h1, h2⟩ := h
  exact ⟨vs, h1, VRels.trunc (by simpa only [PV.under] using hu) h2⟩
 | .fn g cap, v, hu, h => by
  simp only [VRel] at h ⊢
  obtain ⟨vs, h1, h2⟩ := h
  exact ⟨vs, h1, VRels.trunc (by simpa only [PV.under] using hu) h2⟩
 | .ms d j n, v, hu, h => by
  have hd : d = 0 → j < L := fun e => by subst e; simpa [PV.under] using hu
  simpa only [VRel, look, bnd, fget_take hd] using h
 | .ptr d j n, v, hu, h => by
  have hd : d = 0 → j < L := fun e => by subst e; simpa [PV.under] using hu
  simpa only [VRel, look, bnd, fget_take hd] using h
 | .bs d j n, v, hu, h => by
  have hd : d = 0 → j < L := fun e => by subst e; simpa [PV.under] using hu
  simpa only [VRel, look, bnd, fget_take hd] using h
 | .vs d j o n g, v, hu, h => by
  have hd : d = 0 → j < L := fun e => by subst e; simpa [PV.under] using hu
  simpa only [VRel, look, bnd, fget_take hd] using h
 | .vp d j i g, v, hu, h => by
  have hd : d = 0 → j < L := fun e => by subst e; simpa [PV.under] using hu
  simpa only [VRel, look, bnd, fget_take hd] using h
 | .rptr d j n i o, v, hu, h => by
  have hd : d = 0 → j < L := fun e => by subst e; simpa [PV.under] using hu
  simpa only [VRel, look, bnd, fget_take hd] using h
 | .map d j, v, hu, h => by
  have hd : d = 0 → j < L := fun e => by subst e; simpa [PV.under] using hu
  simpa only [VRel, look, bnd, fget_take hd] using h
 | .iptr cs, v, _, h => by simpa only [VRel] using h
 | .nilp, v, _, h => by simpa only [VRel] using h
 | .nils, v, _, h => by simpa only [VRel] using h
 | .abool, v, _, h => by simpa only [VRel] using h
 | .any, v, _, h => by simp only [VRel]
theorem VRels.trunc {F : Fz} {b : List Bnd} {f : List AObj} {bs : Bns} {fr : Frs} {L : Nat} : ∀ {xs : List PV} {vs : List Value}, unders L xs = true → VRels F (b :: bs) (f :: fr) xs vs → VRels F (b.take L :: bs) (f.take L :: fr) xs vs
 | [], vs, _, h => by simpa only [VRels] using h
 | x :: xs, vs, hu, h => by
  simp only [unders, Bool.and_eq_true] at hu
  simp only [VRels] at h ⊢
  obtain ⟨v, vs', h1, h2, h3⟩ := h
  exact ⟨v, vs', h1, VRel.trunc hu.1 h2, VRels.trunc hu.2 h3⟩
end
def AObj.under (L : Nat) : AObj → Bool
 | .box cs => unders L cs
 | .vec _ _ cs => unders L cs
 | _ => true
theorem MRel.trunc {F : Fz} {b : List Bnd} {f : List AObj} {bs : Bns} {fr : Frs} {w : World} (h : MRel F (b :: bs) (f :: fr) w) (L : Nat) (hu : (f.take L).all (AObj.under L) = true) : MRel F (b.take L :: bs) (f.take L :: fr) w := by
 have hsh := h.shape
 simp only [List.map_cons, List.cons.injEq] at hsh
 have hlk : ∀ d j o, look (f.take L :: fr) d j = some o → look (f :: fr) d j = some o ∧ (d = 0 → j < L ∧ o ∈ f.take L) := fun d j o ho => by
  cases d with
  | succ d => exact ⟨ho, fun e => by simp at e⟩
  | zero =>
   simp only [look_zero] at ho
   have hm := List.mem_of_getElem? ho
   rw [List.getElem?_take] at ho
   split at ho
   ·rename_i hj; exact ⟨ho, fun _ => ⟨hj, hm⟩⟩
   ·simp at ho
 have hbk : ∀ d j a, bnd (b.take L :: bs) d j = some a → bnd (b :: bs) d j = some a := fun d j a ha => by
  cases d with
  | succ d => exact ha
  | zero =>
   simp only [look_zero, List.getElem?_take] at ha
   split at ha
   ·exact ha
   ·simp at ha
 have hown : ∀ d j q, Own (b.take L :: bs) (f.take L :: fr) d j q → Own (b :: bs) (f :: fr) d j q := fun d j q ⟨o, k, h1, h2, h3⟩ => ⟨o, k, (hlk d j o h1).1, h2, hbk d j _ h3⟩
 refine ⟨by simp [hsh.1, hsh.2], fun d j o a h1 h2 => ?_, fun d j d' j' q h1 h2 => h.inj d j d' j' q (hown _ _ _ h1) (hown _ _ _ h2), h.fz⟩
 obtain ⟨h3, h4⟩ := hlk d j o h1
 have hmo := h.obj d j o a h3 (hbk d j a h2)
 cases d with
 | succ d => simpa using hmo
 | zero =>
  obtain ⟨h5, h6⟩ := h4 rfl
  have hub := List.all_eq_true.1 hu o h6
  cases o with
  | box cs =>
   obtain ⟨q, arr, t, k1, k2, k3, k4⟩ := hmo
   exact ⟨q, arr, t, k1, k2, VRels.trunc (by simpa [AObj.under] using hub) k3, k4⟩
  | row t sz rows fz => exact hmo
  | map es => exact hmo
  | dead => trivial
  | vec t g cs =>
   obtain ⟨k1, k2, k3, k4⟩ := hmo
   refine ⟨k1, k2, k3, fun q hq => ?_⟩
   obtain ⟨arr, k5, k6, k7, k8⟩ := k4 q hq
   exact ⟨arr, k5, k6, VRels.trunc (by simpa [AObj.under] using hub) k7, k8⟩
theorem Owns.trunc {b : List Bnd} {f : List AObj} {bs : Bns} {fr : Frs} (w : World) (L : Nat) : Owns (b :: bs) (f :: fr) w (b.take L :: bs) (f.take L :: fr) := fun d j q ⟨o, k, h1, h2, h3⟩ => by
 refine .inl ⟨d, j, o, k, ?_, h2, ?_⟩
 ·cases d with
  | succ d => exact h1
  | zero =>
   simp only [look_zero, List.getElem?_take] at h1 ⊢
   split at h1
   ·exact h1
   ·simp at h1
 ·cases d with
  | succ d => exact h3
  | zero =>
   simp only [look_zero, List.getElem?_take] at h3 ⊢
   split at h3
   ·exact h3
   ·simp at h3
theorem Ghost.trunc {n : Nat} {st : ASt} (L : Nat) (he : unders L (st.env.map (·.2)) = true) (hu : (st.loc.take L).all (AObj.under L) = true) : Ghost n st { st with loc := st.loc.take L } := fun F bs a w h => by
 have hsh := h.mem.shape
 cases bs with
 | nil => simp [ASt.fr] at hsh
 | cons b bs =>
  have hin : ∀ {e : List (Nat × PV)} {t : Nat} {v : PV}, unders L (e.map (·.2)) = true → eget e t = some v → v.under L = true := by
   intro e
   induction e with
   | nil => intro t v _ h; simp [eget] at h
   | cons p e ih =>
    intro t v h1 h2
    simp only [List.map_cons, unders, Bool.and_eq_true] at h1
    simp only [eget] at h2
    split at h2
    ·simp only [Option.some.injEq] at h2; subst h2; exact h1.1
    ·exact ih h1.2 h2
  exact ⟨F, b.take L :: bs, ⟨h.mem.trunc L hu, h.size, fun t v hv => ⟨(h.env t v hv).1, VRel.trunc (hin he hv) (h.env t v hv).2⟩, h.defers⟩, ⟨Fz.le_refl F, .refl _ _, .refl _ _ _, Owns.trunc w L⟩⟩
end Go.Proofs.YtkjfdacjjogpcaaPi

