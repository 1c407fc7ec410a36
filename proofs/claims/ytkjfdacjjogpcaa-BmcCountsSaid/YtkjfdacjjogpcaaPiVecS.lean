/- Two slices that may grow change places: a ghost move. No Go text in it. -/
import Derived.Test.YtkjfdacjjogpcaaPiVecM
set_option linter.unusedVariables false
set_option linter.unusedSimpArgs false
namespace Go.Proofs.YtkjfdacjjogpcaaPi
variable {P : Program}
theorem swapVec_ok {F : Fz} {bs : Bns} {fr : Frs} {w : World} (hm : MRel F bs fr w) {d1 j1 d2 j2 t g1 g2 : Nat} {m1 m2 : List Im} {a1 a2 : Bnd} (h1 : look fr d1 j1 = some (.vec t g1 (m1.map .im))) (h2 : look fr d2 j2 = some (.vec t g2 (m2.map .im))) (b1 : bnd bs d1 j1 = some a1) (b2 : bnd bs d2 j2 = some a2) (hne : ¬ (d1 = d2 ∧ j1 = j2)) :
  MRel F (fset (fset bs d1 j1 a2) d2 j2 a1) (fset (fset fr d1 j1 (.vec t (g1 + 1) (m2.map .im))) d2 j2 (.vec t (g2 + 1) (m1.map .im))) w ∧
  Evolve bs fr (fset (fset bs d1 j1 a2) d2 j2 a1) (fset (fset fr d1 j1 (.vec t (g1 + 1) (m2.map .im))) d2 j2 (.vec t (g2 + 1) (m1.map .im))) ∧
  Owns bs fr w (fset (fset bs d1 j1 a2) d2 j2 a1) (fset (fset fr d1 j1 (.vec t (g1 + 1) (m2.map .im))) d2 j2 (.vec t (g2 + 1) (m1.map .im))) := by
 have hlk : ∀ d j, look (fset (fset fr d1 j1 (.vec t (g1 + 1) (m2.map .im))) d2 j2 (.vec t (g2 + 1) (m1.map .im))) d j = if d = d2 ∧ j = j2 then some (.vec t (g2 + 1) (m1.map .im)) else if d = d1 ∧ j = j1 then some (.vec t (g1 + 1) (m2.map .im)) else look fr d j := fun d j => by
  have hn2 : ¬ (d2 = d1 ∧ j2 = j1) := fun e => hne ⟨e.1.symm, e.2.symm⟩
  simp only [look, fget_fset, if_neg hn2, show fget fr d1 j1 = some _ from h1, show fget fr d2 j2 = some _ from h2, Option.map_some]
 have hbk : ∀ d j, bnd (fset (fset bs d1 j1 a2) d2 j2 a1) d j = if d = d2 ∧ j = j2 then some a1 else if d = d1 ∧ j = j1 then some a2 else bnd bs d j := fun d j => by
  have hn2 : ¬ (d2 = d1 ∧ j2 = j1) := fun e => hne ⟨e.1.symm, e.2.symm⟩
  simp only [bnd, fget_fset, if_neg hn2, show fget bs d1 j1 = some _ from b1, show fget bs d2 j2 = some _ from b2, Option.map_some]
 have hev : Evolve bs fr (fset (fset bs d1 j1 a2) d2 j2 a1) (fset (fset fr d1 j1 (.vec t (g1 + 1) (m2.map .im))) d2 j2 (.vec t (g2 + 1) (m1.map .im))) := fun d j o a q1 q2 => by
  rw [hlk, hbk]
  by_cases e2 : d = d2 ∧ j = j2
  ·obtain ⟨rfl, rfl⟩ := e2
   rw [h2] at q1
   rw [b2] at q2
   cases q1; cases q2
   rw [if_pos ⟨rfl, rfl⟩, if_pos ⟨rfl, rfl⟩]
   exact ⟨_, _, rfl, rfl, by simp only [AObj.becomes]; exact ⟨trivial, by omega, fun e => by omega⟩⟩
  ·rw [if_neg e2, if_neg e2]
   by_cases e1 : d = d1 ∧ j = j1
   ·obtain ⟨rfl, rfl⟩ := e1
    rw [h1] at q1
    rw [b1] at q2
    cases q1; cases q2
    rw [if_pos ⟨rfl, rfl⟩, if_pos ⟨rfl, rfl⟩]
    exact ⟨_, _, rfl, rfl, by simp only [AObj.becomes]; exact ⟨trivial, by omega, fun e => by omega⟩⟩
   ·rw [if_neg e1, if_neg e1]
    exact ⟨o, a, q1, q2, o.becomes_refl a⟩
 have o1 := hm.obj d1 j1 _ _ h1 b1
 have o2 := hm.obj d2 j2 _ _ h2 b2
 have flat : ∀ {bs1 fr1 g g' bs2 fr2} {m : List Im} {a : Bnd}, MObj F bs1 fr1 w (.vec t g (m.map .im)) a → MObj F bs2 fr2 w (.vec t g' (m.map .im)) a := fun {bs1 fr1 g g' bs2 fr2 m a} h => by
  obtain ⟨k1, k2, k3, k4⟩ := h
  refine ⟨k1, k2, k3, fun q hq => ?_⟩
  obtain ⟨arr, q1, q2, q3, q4⟩ := k4 q hq
  exact ⟨arr, q1, q2, flat_rel q3, q4⟩
 have hown : ∀ d j b, Own (fset (fset bs d1 j1 a2) d2 j2 a1) (fset (fset fr d1 j1 (.vec t (g1 + 1) (m2.map .im))) d2 j2 (.vec t (g2 + 1) (m1.map .im))) d j b → (d = d2 ∧ j = j2 ∧ Own bs fr d1 j1 b) ∨ (d = d1 ∧ j = j1 ∧ Own bs fr d2 j2 b) ∨ (¬ (d = d2 ∧ j = j2) ∧ ¬ (d = d1 ∧ j = j1) ∧ Own bs fr d j b) := fun d j b ⟨o, k, p1, p2, p3⟩ => by
  rw [hlk] at p1
  rw [hbk] at p3
  by_cases e2 : d = d2 ∧ j = j2
  ·rw [if_pos e2] at p3
   simp only [Option.some.injEq] at p3
   exact .inl ⟨e2.1, e2.2, _, k, h1, trivial, by rw [b1, p3]⟩
  ·rw [if_neg e2] at p1 p3
   by_cases e1 : d = d1 ∧ j = j1
   ·rw [if_pos e1] at p3
    simp only [Option.some.injEq] at p3
    exact .inr (.inl ⟨e1.1, e1.2, _, k, h2, trivial, by rw [b2, p3]⟩)
   ·rw [if_neg e1] at p1 p3
    exact .inr (.inr ⟨e2, e1, o, k, p1, p2, p3⟩)
 refine ⟨hm.change (by rw [fset_shape, fset_shape, fset_shape, fset_shape, hm.shape]) (Fz.le_refl F) hev ?_ ?_ hm.fz, hev, fun d j b hb => ?_⟩
 ·intro d j o a q1 q2
  rw [hlk] at q1
  rw [hbk] at q2
  by_cases e2 : d = d2 ∧ j = j2
  ·rw [if_pos e2] at q1 q2
   simp only [Option.some.injEq] at q1 q2
   subst q1 q2
   exact .inr (flat o1)
  ·rw [if_neg e2] at q1 q2
   by_cases e1 : d = d1 ∧ j = j1
   ·rw [if_pos e1] at q1 q2
    simp only [Option.some.injEq] at q1 q2
    subst q1 q2
    exact .inr (flat o2)
   ·rw [if_neg e1] at q1 q2
    exact .inl ⟨q1, q2, fun b _ _ => ⟨rfl, fun _ => rfl⟩⟩
 ·intro d j d' j' b p1 p2
  have inj := hm.inj
  rcases hown d j b p1 with ⟨x1, x2, x3⟩ | ⟨x1, x2, x3⟩ | ⟨x1, x2, x3⟩ <;> rcases hown d' j' b p2 with ⟨y1, y2, y3⟩ | ⟨y1, y2, y3⟩ | ⟨y1, y2, y3⟩
  ·exact ⟨by omega, by omega⟩
  ·exact absurd (inj _ _ _ _ _ x3 y3) hne
  ·exact absurd (inj _ _ _ _ _ y3 x3) y2
  ·exact absurd (inj _ _ _ _ _ y3 x3) hne
  ·exact ⟨by omega, by omega⟩
  ·exact absurd (inj _ _ _ _ _ y3 x3) y1
  ·exact absurd (inj _ _ _ _ _ x3 y3) x2
  ·exact absurd (inj _ _ _ _ _ x3 y3) x1
  ·exact inj _ _ _ _ _ x3 y3
 ·rcases hown d j b hb with ⟨x1, x2, x3⟩ | ⟨x1, x2, x3⟩ | ⟨x1, x2, x3⟩
  ·exact .inl ⟨_, _, x3⟩
  ·exact .inl ⟨_, _, x3⟩
  ·exact .inl ⟨_, _, x3⟩
def cSwap (d1 j1 g1 d2 j2 g2 : Nat) (u v : PV) : Prop := u = v ∨ (∃ o n, u = .vs d1 j1 o n g1 ∧ v = .vs d2 j2 o n (g2 + 1)) ∨ ∃ o n, u = .vs d2 j2 o n g2 ∧ v = .vs d1 j1 o n (g1 + 1)
section
variable {d1 j1 g1 d2 j2 g2 : Nat} {env e : List (Nat × PV)} {t : Nat}
theorem cSwap.nil : ehasT (cSwap d1 j1 g1 d2 j2 g2) env [] := trivial
theorem cSwap.keep {v : PV} (h1 : eget env t = some v) (h : ehasT (cSwap d1 j1 g1 d2 j2 g2) env e) : ehasT (cSwap d1 j1 g1 d2 j2 g2) env ((t, v) :: e) := ⟨⟨v, h1, .inl rfl⟩, h⟩
theorem cSwap.one {o n : Nat} (h1 : eget env t = some (.vs d1 j1 o n g1)) (h : ehasT (cSwap d1 j1 g1 d2 j2 g2) env e) : ehasT (cSwap d1 j1 g1 d2 j2 g2) env ((t, .vs d2 j2 o n (g2 + 1)) :: e) := ⟨⟨_, h1, .inr (.inl ⟨o, n, rfl, rfl⟩)⟩, h⟩
theorem cSwap.two {o n : Nat} (h1 : eget env t = some (.vs d2 j2 o n g2)) (h : ehasT (cSwap d1 j1 g1 d2 j2 g2) env e) : ehasT (cSwap d1 j1 g1 d2 j2 g2) env ((t, .vs d1 j1 o n (g1 + 1)) :: e) := ⟨⟨_, h1, .inr (.inr ⟨o, n, rfl, rfl⟩)⟩, h⟩
end
theorem Ghost.swapVec {n : Nat} {env e : List (Nat × PV)} {L L' : List AObj} {up up' : Frs} (d1 j1 d2 j2 : Nat) {t g1 g2 : Nat} {m1 m2 : List Im} (h1 : look (L :: up) d1 j1 = some (.vec t g1 (m1.map .im))) (h2 : look (L :: up) d2 j2 = some (.vec t g2 (m2.map .im))) (hne : ¬ (d1 = d2 ∧ j1 = j2))
  (hfr : fset (fset (L :: up) d1 j1 (.vec t (g1 + 1) (m2.map .im))) d2 j2 (.vec t (g2 + 1) (m1.map .im)) = L' :: up') (he : ehasT (cSwap d1 j1 g1 d2 j2 g2) env e) : Ghost n ⟨env, L, up⟩ ⟨e, L', up'⟩ := fun F bs a w h => by
 have hm : MRel F bs (L :: up) w := h.mem
 obtain ⟨a1, b1⟩ := look_bnd hm.shape h1
 obtain ⟨a2, b2⟩ := look_bnd hm.shape h2
 obtain ⟨m3, m4, m5⟩ := swapVec_ok hm h1 h2 b1 b2 hne
 have n2 : ¬ (d2 = d1 ∧ j2 = j1) := fun e => hne ⟨e.1.symm, e.2.symm⟩
 have l2 : look (fset (fset (L :: up) d1 j1 (.vec t (g1 + 1) (m2.map .im))) d2 j2 (.vec t (g2 + 1) (m1.map .im))) d2 j2 = some (.vec t (g2 + 1) (m1.map .im)) := by
  simp only [look, fget_fset, if_neg n2, show fget (L :: up) d2 j2 = some _ from h2, Option.map_some, and_self, if_true]
 have l1 : look (fset (fset (L :: up) d1 j1 (.vec t (g1 + 1) (m2.map .im))) d2 j2 (.vec t (g2 + 1) (m1.map .im))) d1 j1 = some (.vec t (g1 + 1) (m2.map .im)) := by
  simp only [look, fget_fset, if_neg hne, show fget (L :: up) d1 j1 = some _ from h1, Option.map_some, and_self, if_true]
 have k2 : bnd (fset (fset bs d1 j1 a2) d2 j2 a1) d2 j2 = some a1 := by
  simp only [bnd, fget_fset, if_neg n2, show fget bs d2 j2 = some _ from b2, Option.map_some, and_self, if_true]
 have k1 : bnd (fset (fset bs d1 j1 a2) d2 j2 a1) d1 j1 = some a2 := by
  simp only [bnd, fget_fset, if_neg hne, show fget bs d1 j1 = some _ from b1, Option.map_some, and_self, if_true]
 refine ⟨F, _, ⟨by simpa only [ASt.fr, ← hfr] using m3, h.size, fun u v hv => ?_, h.defers⟩, ⟨Fz.le_refl F, ?_, .refl _ _ _, by simpa only [ASt.fr, ← hfr] using m5⟩⟩
 ·obtain ⟨x, hx1, hx2⟩ := ehasT_mem he hv
  obtain ⟨w1, w2⟩ := h.env u x hx1
  refine ⟨w1, ?_⟩
  show VRel F _ (L' :: up') v _
  rw [← hfr]
  rcases hx2 with rfl | ⟨o, m, rfl, rfl⟩ | ⟨o, m, rfl, rfl⟩
  ·exact VRel.move (Fz.le_refl F) m4 w2
  ·simp only [VRel] at w2 ⊢
   obtain ⟨A2, c2, r1, r2, t2, g3, cs2, a3, r3, r4, r5, r6⟩ := w2
   rw [show look (⟨env, L, up⟩ : ASt).fr d1 j1 = some _ from h1] at r3
   cases r3
   rw [b1] at r4
   cases r4
   exact ⟨A2, c2, r1, r2, t, g2 + 1, _, a1, l2, k2, Nat.le_refl _, fun _ => r6 rfl⟩
  ·simp only [VRel] at w2 ⊢
   obtain ⟨A2, c2, r1, r2, t2, g3, cs2, a3, r3, r4, r5, r6⟩ := w2
   rw [show look (⟨env, L, up⟩ : ASt).fr d2 j2 = some _ from h2] at r3
   cases r3
   rw [b2] at r4
   cases r4
   exact ⟨A2, c2, r1, r2, t, g1 + 1, _, a2, l1, k1, Nat.le_refl _, fun _ => r6 rfl⟩
 ·have ev2 : Evolve bs (L :: up) (fset (fset bs d1 j1 a2) d2 j2 a1) (L' :: up') := by rw [← hfr]; exact m4
  cases bs with
  | nil => have := hm.shape; simp at this
  | cons b0 bs =>
   obtain ⟨b3, bs3, hbs⟩ : ∃ b3 bs3, fset (fset (b0 :: bs) d1 j1 a2) d2 j2 a1 = b3 :: bs3 := by cases d1 <;> cases d2 <;> exact ⟨_, _, rfl⟩
   rw [hbs] at ev2 ⊢
   exact Evolve.tail ev2
end Go.Proofs.YtkjfdacjjogpcaaPi

