/- Rows that become boxes: a row of the call's own whose cells are to hold handles, too. No Go text in it. -/
import Derived.Test.YtdgpmopcmacicaaPiLit
import Derived.Test.YtdgpmopcmacicaaPiGrid
set_option linter.unusedVariables false
set_option linter.unusedSimpArgs false
namespace Go.Proofs.YtdgpmopcmacicaaPi
variable {P : Program}

/-- One cell of an own box is said otherwise. -/
theorem boxCell_ok {F : Fz} {bs : Bns} {fr : Frs} {w : World} (hm : MRel F bs fr w) {j i : Nat} {cs : List PV} {ab : Bnd} (hl : look fr 0 j = some (.box cs)) (hab : bnd bs 0 j = some ab) (y : PV)
    (hy : ∀ q arr t v, ab.1 = some q → w.heap[q]? = some (.cells arr t (0, 0)) → arr.toList[i]? = some v → VRel F bs fr y v) :
    MRel F bs (fset fr 0 j (.box (cs.set i y))) w ∧ Evolve bs fr bs (fset fr 0 j (.box (cs.set i y))) ∧ Owns bs fr w bs (fset fr 0 j (.box (cs.set i y))) := by
  obtain ⟨q, arr, tt, k1, k2, k3, k4⟩ := hm.obj 0 j _ _ hl hab
  have hb : fset bs 0 j ab = bs := fset_self bs 0 j ab hab
  have hput := hm.put (F' := F) (w' := w) (o' := .box (cs.set i y)) (a' := ab) hl hab (fun _ _ _ => rfl) (Fz.le_refl F) (fun _ _ _ _ => rfl) (fun b q v _ hq => hm.fz b q v hq)
    (fun b hb' => .inr ⟨hb', trivial⟩) (by simp [AObj.becomes]) (by
      have hev : Evolve bs fr (fset bs 0 j ab) (fset fr 0 j (.box (cs.set i y))) := fun d' j' o1 a1 g1 g2 => by
        simp only [look, bnd, fget_fset]
        by_cases e : d' = 0 ∧ j' = j
        · obtain ⟨rfl, rfl⟩ := e
          have e1 := hl.symm.trans g1
          have e2 := hab.symm.trans g2
          cases e1; cases e2
          refine ⟨.box (cs.set i y), ab, ?_, ?_, by simp [AObj.becomes]⟩
          · rw [if_pos ⟨rfl, rfl⟩, show fget fr 0 j' = _ from hl]; rfl
          · rw [if_pos ⟨rfl, rfl⟩, show fget bs 0 j' = _ from hab]; rfl
        · exact ⟨o1, a1, by rw [if_neg e]; exact g1, by rw [if_neg e]; exact g2, o1.becomes_refl a1⟩
      refine ⟨q, arr, tt, k1, k2, ?_, k4⟩
      simp only [List.drop_zero] at k3 ⊢
      refine VRels.move (Fz.le_refl F) hev (VRels.mk (by simpa using k3.length) fun p z v hz hv => ?_)
      rw [List.getElem?_set] at hz
      split at hz
      · rename_i e
        subst e
        split at hz
        · simp only [Option.some.injEq] at hz
          subst hz
          exact hy q arr tt v k1 k2 hv
        · simp at hz
      · exact k3.get' hz hv)
  rw [hb] at hput
  exact hput
/-- An object more, in a block that no other one owns. -/
theorem MRel.gain {F : Fz} {b0 : List Bnd} {bs : Bns} {f0 : List AObj} {fr : Frs} {w : World} (h : MRel F (b0 :: bs) (f0 :: fr) w) (o : AObj) (a : Bnd) (hn : ∀ b, a.1 = some b → ∀ d j, ¬ Own (b0 :: bs) (f0 :: fr) d j b)
    (ho : MObj F ((b0 ++ [a]) :: bs) ((f0 ++ [o]) :: fr) w o a) : MRel F ((b0 ++ [a]) :: bs) ((f0 ++ [o]) :: fr) w ∧ Evolve (b0 :: bs) (f0 :: fr) ((b0 ++ [a]) :: bs) ((f0 ++ [o]) :: fr) := by
  have hsh := h.shape
  simp only [List.map_cons, List.cons.injEq] at hsh
  have hev : Evolve (b0 :: bs) (f0 :: fr) ((b0 ++ [a]) :: bs) ((f0 ++ [o]) :: fr) := fun d j o' a' h1 h2 => by
    refine ⟨o', a', ?_, ?_, o'.becomes_refl a'⟩
    · cases d with
      | zero => simp only [look_zero] at h1 ⊢; rw [List.getElem?_append_left (List.getElem?_eq_some_iff.1 h1).1]; exact h1
      | succ d => simpa only [look_succ] using h1
    · cases d with
      | zero => simp only [look_zero] at h2 ⊢; rw [List.getElem?_append_left (List.getElem?_eq_some_iff.1 h2).1]; exact h2
      | succ d => simpa only [look_succ] using h2
  have hold : ∀ d j o' a', look ((f0 ++ [o]) :: fr) d j = some o' → bnd ((b0 ++ [a]) :: bs) d j = some a' → (look (f0 :: fr) d j = some o' ∧ bnd (b0 :: bs) d j = some a') ∨ (d = 0 ∧ j = f0.length ∧ o' = o ∧ a' = a) := fun d j o' a' h1 h2 => by
    cases d with
    | succ d => exact .inl ⟨by simpa only [look_succ] using h1, by simpa only [look_succ] using h2⟩
    | zero =>
      simp only [look_zero] at h1 h2
      by_cases hj : j < f0.length
      · rw [List.getElem?_append_left hj] at h1
        rw [List.getElem?_append_left (by omega)] at h2
        exact .inl ⟨h1, h2⟩
      · have hl := (List.getElem?_eq_some_iff.1 h1).1
        simp at hl
        have hj2 : j = f0.length := by omega
        subst hj2
        rw [List.getElem?_append_right (Nat.le_refl _)] at h1
        rw [List.getElem?_append_right (by omega)] at h2
        simp at h1
        simp [hsh.1] at h2
        exact .inr ⟨rfl, rfl, h1.symm, h2.symm⟩
  have hown : ∀ d j b, Own ((b0 ++ [a]) :: bs) ((f0 ++ [o]) :: fr) d j b → (Own (b0 :: bs) (f0 :: fr) d j b) ∨ (d = 0 ∧ j = f0.length ∧ a.1 = some b) := fun d j b hd => by
    obtain ⟨o', k, h1, h2, h3⟩ := hd
    rcases hold d j o' _ h1 h3 with ⟨h4, h5⟩ | ⟨h4, h5, h6, h7⟩
    · exact .inl ⟨o', k, h4, h2, h5⟩
    · exact .inr ⟨h4, h5, by rw [← h7]⟩
  refine ⟨h.change (by simp [hsh.1, hsh.2]) (Fz.le_refl F) hev ?_ ?_ h.fz, hev⟩
  · intro d j o' a' h1 h2
    rcases hold d j o' a' h1 h2 with ⟨h3, h4⟩ | ⟨rfl, rfl, rfl, rfl⟩
    · exact .inl ⟨h3, h4, fun b hb' hl => ⟨rfl, fun q => rfl⟩⟩
    · exact .inr ho
  · intro d j d' j' b h1 h2
    rcases hown d j b h1 with h3 | ⟨h3, h4, h5⟩ <;> rcases hown d' j' b h2 with k3 | ⟨k3, k4, k5⟩
    · exact h.inj d j d' j' b h3 k3
    · exact absurd h3 (hn b k5 _ _)
    · exact absurd k3 (hn b h5 _ _)
    · exact ⟨by omega, by omega⟩
/-- The last object, a row, becomes a box; one cell of a box names it. -/
theorem rowBox_ok {n : Nat} {e : List (Nat × PV)} {L : List AObj} {up : Frs} {t sz q i : Nat} {rows : List (List Im)} {cs : List PV} (hq : L[q]? = some (.box cs)) (hi : cs[i]? = some (.ms 0 L.length rows.length)) (hne : rows ≠ [])
    (h1 : unders L.length (e.map (·.2)) = true) (h2 : (L.set q (.box (cs.set i .any))).all (AObj.under L.length) = true) {F : Fz} {bs : Bns} {a : Act} {w : World} (h : ARel n F bs ⟨e, L ++ [.row t sz rows 0], up⟩ a w) :
    ∃ (r : Nat) (bs' : Bns), ARel n F bs' ⟨e, L.set q (.box (cs.set i (.bs 0 L.length rows.length))) ++ [.box (rows.flatten.map .im ++ List.replicate r .any)], up⟩ a w ∧ AStep F bs ⟨e, L ++ [.row t sz rows 0], up⟩ w F bs' ⟨e, L.set q (.box (cs.set i (.bs 0 L.length rows.length))) ++ [.box (rows.flatten.map .im ++ List.replicate r .any)], up⟩ w := by
  have hm := h.mem
  have hsh := hm.shape
  have hqL := (List.getElem?_eq_some_iff.1 hq).1
  have hil := (List.getElem?_eq_some_iff.1 hi).1
  cases bs with
  | nil => simp [ASt.fr] at hsh
  | cons b0 bs =>
    simp only [ASt.fr, List.map_cons, List.cons.injEq, List.length_append, List.length_cons, List.length_nil] at hsh
    have hfr : (⟨e, L ++ [.row t sz rows 0], up⟩ : ASt).fr = (L ++ [.row t sz rows 0]) :: up := rfl
    rw [hfr] at hm
    have hlast : look ((L ++ [AObj.row t sz rows 0]) :: up) 0 L.length = some (.row t sz rows 0) := by simp
    obtain ⟨A, hA⟩ := look_bnd hm.shape hlast
    obtain ⟨k1, k2, k3, k4, k5, k6⟩ := hm.obj 0 L.length _ _ hlast hA
    have hrl : 0 < rows.length := List.length_pos_iff.2 hne
    cases hA1 : A.1 with
    | none => have := k5 hA1; omega
    | some blk =>
      obtain ⟨arr, g1, g2, g3, g4, g5⟩ := k6 blk hA1
      have hF : ∀ o, F blk o = none := fun o => by
        cases hx : F blk o with
        | none => rfl
        | some v => have := g4 o v hx; omega
      have hql : look ((L ++ [AObj.row t sz rows 0]) :: up) 0 q = some (.box cs) := by simp only [look_zero]; rw [List.getElem?_append_left hqL]; exact hq
      obtain ⟨ab, hab⟩ := look_bnd hm.shape hql
      obtain ⟨bq, arq, tq, l1, l2, l3, l4⟩ := hm.obj 0 q _ _ hql hab
      simp only [List.drop_zero] at l3
      obtain ⟨v0, hv0, hv0r⟩ := l3.get i _ hi
      -- the cell is forgotten, then the row
      obtain ⟨m1, m2, m3⟩ := boxCell_ok hm hql hab (i := i) .any (fun _ _ _ _ _ _ _ => by simp only [VRel])
      have e1 : fset ((L ++ [AObj.row t sz rows 0]) :: up) 0 q (.box (cs.set i .any)) = (L.set q (.box (cs.set i .any)) ++ [.row t sz rows 0]) :: up := by simp only [fset]; rw [List.set_append_left _ _ hqL]
      rw [e1] at m1
      have hLl : (L.set q (.box (cs.set i .any))).length = L.length := by simp
      have m4 := m1.trunc L.length (by rw [← hLl, List.take_left' rfl, hLl]; exact h2)
      rw [← hLl, List.take_left' rfl] at m4
      rw [hLl] at m4
      have hb0 : b0 = b0.take L.length ++ [A] := by
        have h3 : b0.take (L.length + 1) = b0 := List.take_of_length_le (by omega)
        have h4 : b0[L.length]? = some A := by simpa [bnd] using hA
        refine h3.symm.trans ?_
        rw [List.take_add_one, h4]
        rfl
      have hbl : (b0.take L.length).length = L.length := by rw [List.length_take]; omega
      have hflat : rows.flatten.length = rows.length * sz := flatR_len fun r hr => by
        obtain ⟨p, hp⟩ := List.mem_iff_getElem?.1 hr
        exact (g3 p r hp).1
      have hcap : rows.length * sz ≤ arr.size := by rw [g2]; exact Nat.mul_le_mul_right _ k2
      have m5 := m4.gain (.box (rows.flatten.map .im ++ List.replicate (arr.size - rows.length * sz) .any)) A (fun b hb d j ho => by
          rw [hA1] at hb
          simp only [Option.some.injEq] at hb
          subst hb
          have ho2 : Own (b0 :: bs) ((L.set q (.box (cs.set i .any)) ++ [.row t sz rows 0]) :: up) d j blk ∧ (d = 0 → j < L.length) := by
            obtain ⟨o, k, p1, p2, p3⟩ := ho
            cases d with
            | succ d => exact ⟨⟨o, k, p1, p2, p3⟩, fun hd => by omega⟩
            | zero =>
              have hj := (List.getElem?_eq_some_iff.1 p1).1
              rw [hLl] at hj
              refine ⟨⟨o, k, ?_, p2, ?_⟩, fun _ => hj⟩
              · simp only [look_zero] at p1 ⊢; rw [List.getElem?_append_left (by rw [hLl]; exact hj)]; exact p1
              · simp only [bnd, look_zero, List.getElem?_take, hj, if_true] at p3 ⊢; exact p3
          have hown : Own (b0 :: bs) ((L.set q (.box (cs.set i .any)) ++ [.row t sz rows 0]) :: up) 0 L.length blk := ⟨.row t sz rows 0, A.2, by simp [List.getElem?_append_right], trivial, by rw [hA, ← hA1]⟩
          obtain ⟨e2, e3⟩ := m1.inj _ _ _ _ _ ho2.1 hown
          have := ho2.2 e2
          omega) (by
          refine ⟨blk, arr, t, hA1, g1, VRels.mk (by rw [List.length_append, List.length_map, hflat, List.length_replicate, Array.length_toList]; omega) fun j x v hx hv => ?_, hF⟩
          rw [List.getElem?_append] at hx
          split at hx
          · rename_i hj
            rw [List.getElem?_map, Option.map_eq_some_iff] at hx
            obtain ⟨y, hy, rfl⟩ := hx
            obtain ⟨i', q', r', rfl, r1, r2⟩ := flatR_get (fun r hr => by
              obtain ⟨p, hp⟩ := List.mem_iff_getElem?.1 hr
              exact (g3 p r hp).1) hy
            obtain ⟨_, hr3⟩ := g3 i' r' r1
            obtain ⟨v', s1, s2⟩ := hr3 q' y r2
            have : arr[i' * sz + q']? = some v := by simpa using hv
            rw [this] at s1
            cases s1
            simpa only [VRel] using s2
          · rw [List.getElem?_replicate] at hx
            split at hx
            · simp only [Option.some.injEq] at hx
              subst hx
              simp only [VRel]
            · simp at hx)
      rw [← hb0] at m5
      obtain ⟨m5, m6⟩ := m5
      -- the cell names the box
      have hql2 : look ((L.set q (.box (cs.set i .any)) ++ [AObj.box (rows.flatten.map .im ++ List.replicate (arr.size - rows.length * sz) .any)]) :: up) 0 q = some (.box (cs.set i .any)) := by
        simp only [look_zero]; rw [List.getElem?_append_left (by rw [hLl]; exact hqL), List.getElem?_set_self hqL]
      obtain ⟨m7, m8, m9⟩ := boxCell_ok m5 hql2 hab (i := i) (.bs 0 L.length rows.length) (fun q' arr' t' v h3 h4 h5 => by
        rw [l1] at h3
        cases h3
        rw [l2] at h4
        cases h4
        rw [hv0] at h5
        cases h5
        simp only [VRel] at hv0r ⊢
        obtain ⟨A', c, r1, r2, t2, sz2, rows2, fz2, a2, r3, r4, r5, r6⟩ := hv0r
        have hl3 : look ((L ++ [AObj.row t sz rows 0]) :: up) 0 L.length = some (.row t2 sz2 rows2 fz2) := r3
        rw [hlast] at hl3
        cases hl3
        have hA3 : bnd (b0 :: bs) 0 L.length = some a2 := r4
        rw [hA] at hA3
        cases hA3
        obtain ⟨r7, r8⟩ := r6 rfl
        refine ⟨blk, A.2, rows.flatten.map .im ++ List.replicate (arr.size - rows.length * sz) .any, c, ?_, ?_, ?_, r2⟩
        · simp only [look_zero]; rw [List.getElem?_append_right (by rw [hLl]; exact Nat.le_refl _), hLl, Nat.sub_self]; rfl
        · rw [hA, ← hA1]
        · rw [r1, r7, hA1]; rfl)
      have e4 : fset ((L.set q (.box (cs.set i .any)) ++ [AObj.box (rows.flatten.map .im ++ List.replicate (arr.size - rows.length * sz) .any)]) :: up) 0 q (.box ((cs.set i .any).set i (.bs 0 L.length rows.length))) = (L.set q (.box (cs.set i (.bs 0 L.length rows.length))) ++ [.box (rows.flatten.map .im ++ List.replicate (arr.size - rows.length * sz) .any)]) :: up := by
        simp only [fset]
        rw [List.set_append_left _ _ (by rw [hLl]; exact hqL), List.set_set, List.set_set]
      rw [e4] at m7 m8
      refine ⟨arr.size - rows.length * sz, b0 :: bs, ⟨m7, h.size, fun u v hv => ⟨(h.env u v hv).1, ?_⟩, h.defers⟩, ⟨Fz.le_refl F, .refl _ _, .refl _ _ _, ?_⟩⟩
      · have hin : ∀ {e : List (Nat × PV)} {t : Nat} {v : PV}, unders L.length (e.map (·.2)) = true → eget e t = some v → v.under L.length = true := by
          intro e
          induction e with
          | nil => intro t v _ h; simp [eget] at h
          | cons p e ih =>
            intro t v h1 h2
            simp only [List.map_cons, unders, Bool.and_eq_true] at h1
            simp only [eget] at h2
            split at h2
            · simp only [Option.some.injEq] at h2; subst h2; exact h1.1
            · exact ih h1.2 h2
        have w1 := VRel.move (Fz.le_refl F) m2 (h.env u v hv).2
        rw [e1] at w1
        have w2 := VRel.trunc (hin h1 hv) w1
        rw [← hLl, List.take_left' rfl, hLl] at w2
        have w3 := VRel.move (Fz.le_refl F) m6 w2
        exact VRel.move (Fz.le_refl F) m8 w3
      · intro d j b ⟨o, k, p1, p2, p3⟩
        refine .inl ⟨d, j, ?_⟩
        cases d with
        | succ d => exact ⟨o, k, p1, p2, p3⟩
        | zero =>
          simp only [ASt.fr, look_zero] at p1
          by_cases hj : j < L.length
          · rw [List.getElem?_append_left (by rw [List.length_set]; exact hj), List.getElem?_set] at p1
            by_cases hqj : q = j
            · subst hqj
              exact ⟨.box cs, k, hql, trivial, p3⟩
            · rw [if_neg hqj] at p1
              exact ⟨o, k, by simp only [ASt.fr, look_zero]; rw [List.getElem?_append_left hj]; exact p1, p2, p3⟩
          · have hj2 := (List.getElem?_eq_some_iff.1 p1).1
            simp at hj2
            have hj3 : j = L.length := by omega
            subst hj3
            exact ⟨.row t sz rows 0, k, hlast, trivial, p3⟩
/-- The same, of a piece of code: the room behind the row's elements is unknown. -/
theorem Run.rowBox {n : Nat} {Q : Exit → ASt → Prop} {kk : List KF} {c : Code} {e : List (Nat × PV)} {L : List AObj} {up : Frs} {t sz q i : Nat} {rows : List (List Im)} {cs : List PV} (hq : L[q]? = some (.box cs)) (hi : cs[i]? = some (.ms 0 L.length rows.length)) (hne : rows ≠ [])
    (h1 : unders L.length (e.map (·.2)) = true) (h2 : (L.set q (.box (cs.set i .any))).all (AObj.under L.length) = true)
    (h : ∀ r : Nat, Run P n Q kk c ⟨e, L.set q (.box (cs.set i (.bs 0 L.length rows.length))) ++ [.box (rows.flatten.map .im ++ List.replicate r .any)], up⟩) : Run P n Q kk c ⟨e, L ++ [.row t sz rows 0], up⟩ := fun F bs a w hr => by
  obtain ⟨r, bs', k1, k2⟩ := rowBox_ok hq hi hne h1 h2 hr
  exact wp_mono ((h r) F bs' a w k1) fun e' a' w' ⟨st', F2, bs2, g1, g2, g3⟩ => ⟨st', F2, bs2, g1, g2, k2.trans g3⟩
end Go.Proofs.YtdgpmopcmacicaaPi
