/- Regions that draw their order, run in the order of the text: what each operation met and turned is noted, and at the end no two that the edges leave open may meet. No Go text in it. -/
import Derived.Test.YtkjfdacjjogpcaaPiDead
set_option linter.unusedVariables false
set_option linter.unusedSimpArgs false
namespace Go.Proofs.YtkjfdacjjogpcaaPi
variable {P : Program}

abbrev Ref := Nat × Nat
def GExe (P : Program) (n : Nat) (g : GO) (α : Actn) : Prop := ∀ ops o, goOf ops o = some g → Exe P n ops o α
theorem exe_op {n : Nat} {g : GO} {α : Actn} (hd : okDst n g.dst = true) (hdst : α.dst = g.dst) (hg : ∀ s, α.ok s → guardA s.env g.guard = some true)
  (hop : ∀ s, α.ok s → OpOk P n s g.op α.v (s.setFr (wr s.fr α.writes))) : GExe P n g α := fun ops o ho s hs F bs a w hr next Q hn => by
 obtain ⟨h3, h4, h5⟩ := goOf_guard ho s.env
 rw [if_pos (wantedA_ok hr (h3.trans (hg s hs)))]
 have hop' := hop s hs
 rw [h5] at hop'
 have e : (s.setFr (wr s.fr α.writes)).put o.dst α.v = α.app s := by rw [Actn.app, hdst, h4]
 exact .inl (hop'.wp (by rw [← h4]; exact hd) hr fun F' bs' a' w' h1 h2 => hn F' bs' a' w' (by rw [← e]; exact h1) (by rw [← e]; exact h2))
theorem exe_skip {n : Nat} {g : GO} {α : Actn} (hd : okDst n g.dst = true) (hdst : α.dst = g.dst) (hv : α.v = .tup []) (hw : α.writes = []) (hg : ∀ s, α.ok s → guardA s.env g.guard = some false) : GExe P n g α := fun ops o ho s hs F bs a w hr next Q hn => by
 obtain ⟨h3, h4, h5⟩ := goOf_guard ho s.env
 rw [if_neg (by rw [wantedA_ok hr (h3.trans (hg s hs))]; simp)]
 have e : s.put o.dst (.tup []) = α.app s := by rw [Actn.app, hdst, h4, hw, hv]; rfl
 have h1 := hr.put (x := .tup []) (v := undef) (dst := o.dst) (by rw [← h4]; exact hd) (by simp only [VRel, VRels]; exact ⟨#[], rfl, rfl⟩)
 refine hn F bs _ _ (by rw [← e]; exact h1) ?_
 rw [← e]
 cases o.dst with
 | none => exact .refl _ _ _ _
 | some t => exact ⟨Fz.le_refl F, .refl _ _, .refl _ _ _, .refl _ _ _⟩

def slotsO (g : GO) : List Nat := (match g.guard with | some (t, _) => [t] | none => []) ++ (opndsO g.op).filterMap opndTmp
def Actn.fits (α : Actn) (g : GO) : Prop := α.dst = g.dst ∧ (∀ p ∈ α.need, p.1 ∈ slotsO g) ∧ α.fair
def needsA (st : ASt) (g : GO) : List (Nat × PV) := guardNeed st.env g.guard ++ needsOf st.env (opndsO g.op)
theorem needsOf_in {env : List (Nat × PV)} : ∀ {xs : List Operand} {p : Nat × PV}, p ∈ needsOf env xs → p.1 ∈ xs.filterMap opndTmp ∧ eget env p.1 = some p.2
 | [], p, h => by simp [needsOf] at h
 | x :: xs, p, h => by
  simp only [needsOf] at h
  split at h
  ·rename_i t ht
   split at h
   ·rename_i v hv
    rcases List.mem_cons.1 h with rfl | h
    ·exact ⟨by simp [List.filterMap_cons, ht], hv⟩
    ·have := needsOf_in h
     exact ⟨by simp only [List.filterMap_cons, ht]; exact List.mem_cons_of_mem _ this.1, this.2⟩
   ·have := needsOf_in h
    exact ⟨by simp only [List.filterMap_cons, ht]; exact List.mem_cons_of_mem _ this.1, this.2⟩
  ·rename_i ht
   have := needsOf_in h
   exact ⟨by simp only [List.filterMap_cons, ht]; exact this.1, this.2⟩
theorem needsA_in {st : ASt} {g : GO} {p : Nat × PV} (h : p ∈ needsA st g) : p.1 ∈ slotsO g ∧ eget st.env p.1 = some p.2 := by
 simp only [needsA, List.mem_append] at h
 rcases h with h | h
 ·unfold guardNeed at h
  split at h
  ·rename_i t b hg
   split at h
   ·rename_i v hv
    simp at h
    subst h
    exact ⟨by simp [slotsO, hg], hv⟩
   ·simp at h
  ·simp at h
 ·have := needsOf_in h
  exact ⟨by simp only [slotsO, List.mem_append]; exact .inr this.1, this.2⟩
theorem guard_local {st s : ASt} {g : GO} {b : Bool} (h : ∀ p ∈ guardNeed st.env g.guard, eget s.env p.1 = some p.2) (hg : guardA st.env g.guard = some b) : guardA s.env g.guard = some b := by
 unfold guardA at hg ⊢
 split at hg
 ·exact hg
 ·rename_i t want hgd
  split at hg
  ·rename_i c hc
   have := h (t, .im (.bool c)) (by simp [guardNeed, hgd, hc])
   simp only at this
   rw [this]
   exact hg
  ·rename_i hc
   have := h (t, .tup []) (by simp [guardNeed, hgd, hc])
   simp only at this
   rw [this]
   exact hg
  ·simp at hg
theorem agree_self {fr : Frs} : ∀ (x : PV), Agree (refOf fr x) fr := by
 have main : ∀ x : PV, Agree (refOf fr x) fr := fun x => by
  refine PV.rec (motive_1 := fun x => Agree (refOf fr x) fr) (motive_2 := fun xs => Agree (refsOf fr xs) fr) ?_ ?_ ?_ ?_ ?_ ?_ ?_ ?_ ?_ ?_ ?_ ?_ ?_ ?_ ?_ ?_ ?_ ?_ ?_ x
  ·intro x p hp; simp [refOf] at hp
  ·intro x p hp; simp [refOf] at hp
  ·intro cs ih; simpa only [refOf] using ih
  ·intro cs ih p hp; simp [refOf] at hp
  ·intro d j n p hp
   simp only [refOf] at hp
   split at hp
   ·rename_i o ho; simp at hp; subst hp; exact ho
   ·simp at hp
  ·intro d j n p hp
   simp only [refOf] at hp
   split at hp
   ·rename_i o ho; simp at hp; subst hp; exact ho
   ·simp at hp
  ·intro d j n i off p hp
   simp only [refOf] at hp
   split at hp
   ·rename_i o ho; simp at hp; subst hp; exact ho
   ·simp at hp
  ·intro cs p hp; simp [refOf] at hp
  ·intro d j p hp; simp [refOf] at hp
  ·intro f cap ih p hp; simp [refOf] at hp
  ·intro p hp; simp [refOf] at hp
  ·intro p hp; simp [refOf] at hp
  ·intro p hp; simp [refOf] at hp
  ·intro p hp; simp [refOf] at hp
  ·intro d j n p hp; simp [refOf] at hp
  ·intro d j o n g p hp
   simp only [refOf] at hp
   split at hp
   ·rename_i o ho; simp at hp; subst hp; exact ho
   ·simp at hp
  ·intro d j i g p hp
   simp only [refOf] at hp
   split at hp
   ·rename_i o ho; simp at hp; subst hp; exact ho
   ·simp at hp
  ·intro p hp; simp [refsOf] at hp
  ·intro x xs h1 h2 p hp
   simp only [refsOf, List.mem_append] at hp
   exact hp.elim (h1 p) (h2 p)
 exact main
theorem agrees_self {fr : Frs} : ∀ (xs : List PV), Agree (refsOf fr xs) fr
 | [] => fun p hp => by simp [refsOf] at hp
 | x :: xs => fun p hp => by
  simp only [refsOf, List.mem_append] at hp
  exact hp.elim (agree_self x p) (agrees_self xs p)

/-! ### plain operations -/
def actOf (st : ASt) (g : GO) (v : PV) (rd : List (Ref × AObj)) (ws : List (Ref × AObj)) : Actn := ⟨g.dst, v, needsA st g, refsOf st.fr (valsO st (opndsM g.op)) ++ rd, ws, [], []⟩
theorem actOf_sees {st s : ASt} {g : GO} {v : PV} {rd ws : List (Ref × AObj)} (h : (actOf st g v rd ws).ok s) : Sees st s g.op ∧ (∀ p ∈ guardNeed st.env g.guard, eget s.env p.1 = some p.2) ∧ Agree rd s.fr :=
 ⟨⟨fun p hp => h.1 p (by simp only [actOf, needsA, List.mem_append]; exact .inr hp), fun p hp => h.2.1 p (by simp only [actOf, List.mem_append]; exact .inl hp)⟩, fun p hp => h.1 p (by simp only [actOf, needsA, List.mem_append]; exact .inl hp), fun p hp => h.2.1 p (by simp only [actOf, List.mem_append]; exact .inr hp)⟩
theorem actOf_self {st : ASt} {g : GO} {v : PV} {rd ws : List (Ref × AObj)} (h : Agree rd st.fr) : (actOf st g v rd ws).ok st :=
 ⟨fun p hp => (needsA_in hp).2, fun p hp => by
  simp only [actOf, List.mem_append] at hp
  exact hp.elim (agrees_self _ p) (h p), fun p hp => by simp [actOf] at hp⟩
theorem actOf_fits {st : ASt} {g : GO} {v : PV} {rd ws : List (Ref × AObj)} : (actOf st g v rd ws).fits g := ⟨rfl, fun p hp => (needsA_in hp).1, fun p hp => by simp [actOf] at hp⟩
theorem exe_pure {n : Nat} {st st1 : ASt} {g : GO} {v : PV} (hg : guardA st.env g.guard = some true) (hp : pureO g.op = true) (h : stepV P st g.op = some (v, st1)) (hd : okDst n g.dst = true) : GExe P n g (actOf st g v [] []) ∧ (actOf st g v [] []).app st = st1.put g.dst v := by
 have h0 := (stepV_local hp (actOf_sees (actOf_self (g := g) (v := v) (rd := []) (ws := []) (fun p hp => by simp at hp))).1 h).1
 refine ⟨exe_op hd rfl (fun s hs => guard_local (actOf_sees hs).2.1 hg) (fun s hs => ?_), by rw [h0]; rfl⟩
 exact stepV_ok (stepV_local hp (actOf_sees hs).1 h).2

/-! ### operations that turn an object -/
def tgtPV : PV → Option Ref
 | .ptr d j _ => some (d, j)
 | .rptr d j _ _ _ => some (d, j)
 | .ms d j _ => some (d, j)
 | .vs d j _ _ _ => some (d, j)
 | .vp d j _ _ => some (d, j)
 | _ => none
def tgtO (st : ASt) : Op → Option Ref
 | .store _ x _ => (evalPV st x).bind tgtPV
 | .call { callee := .builtin .append, args, .. } => match args.toList with
  | [s, _] => (evalPV st s).bind tgtPV
  | _ => none
 | _ => none
theorem storePV_local {fr fr' fr1 : Frs} {t : TypeId} {x y : PV} {r : Ref} (hr : tgtPV x = some r) (hx : Agree (refOf fr x) fr') (hy : Agree (refOf fr y) fr') (h : storePV P fr t x y = some fr1) : ∃ o, fr1 = fset fr r.1 r.2 o ∧ storePV P fr' t x y = some (fset fr' r.1 r.2 o) ∧ (look fr r.1 r.2).isSome := by
 unfold storePV at h
 split at h
 ·rename_i d j off
  simp only [tgtPV, Option.some.injEq] at hr
  subst hr
  split at h
  ·rename_i cs n vs h1 h2 h3
   split at h
   ·rename_i hc
    simp only [Option.map_eq_some_iff] at h
    obtain ⟨ys, h4, rfl⟩ := h
    exact ⟨_, rfl, by simp only [storePV, agree_ptr hx h1, h2, h3, if_pos hc, h4, Option.map_some], by simp [h1]⟩
   ·simp at h
  ·simp at h
 ·rename_i d j n i off
  simp only [tgtPV, Option.some.injEq] at hr
  subst hr
  split at h
  ·rename_i t0 sz rows fz m vs h1 h2 h3
   split at h
   ·rename_i xs r h4 h5
    split at h
    ·rename_i hc
     simp only [Option.some.injEq] at h
     subst h
     have hvs : Agree (refsOf fr vs) fr' := by
      cases y <;> simp only [cellsPV, reduceCtorEq, Option.some.injEq] at h3
      case agg cs => subst h3; simpa only [refOf] using hy
      all_goals (subst h3; simp only [refsOf, List.append_nil]; exact hy)
     exact ⟨_, rfl, by simp only [storePV, agree_rptr hx h1, h2, h3, imsPV_local hvs h4, h5, if_pos hc], by simp [h1]⟩
    ·simp at h
   ·simp at h
  ·simp at h
 ·rename_i d j i g
  simp only [tgtPV, Option.some.injEq] at hr
  subst hr
  split at h
  ·rename_i t0 g' cs u h1 h2 h3
   split at h
   ·rename_i hc
    simp only [Option.map_eq_some_iff] at h
    obtain ⟨z, h4, rfl⟩ := h
    exact ⟨_, rfl, by simp only [storePV, agree_vp hx h1, h2, h3, if_pos hc, h4, Option.map_some], by simp [h1]⟩
   ·simp at h
  ·simp at h
 ·simp at h
theorem appendVs_local {st s st1 : ASt} {T : TypeId} {d j o n g : Nat} {ys : List PV} {z : PV} (hx : Agree (refOf st.fr (.vs d j o n g)) s.fr) (h : appendVs P st T d j o n g ys = some (z, st1)) :
  ∃ o', st1 = st.setFr (fset st.fr d j o') ∧ appendVs P s T d j o n g ys = some (z, s.setFr (fset s.fr d j o')) ∧ (look st.fr d j).isSome := by
 unfold appendVs at h
 split at h
 ·rename_i t g' cs e h1 h2
  split at h
  ·rename_i by_ zz h3 h4 h5
   split at h
   ·rename_i hc
    simp only [Option.map_eq_some_iff, Prod.mk.injEq] at h
    obtain ⟨zs, h6, rfl, rfl⟩ := h
    exact ⟨_, rfl, by simp only [appendVs, agree_vs hx h1, h2, h3, h4, h5, if_pos hc, h6, Option.map_some], by simp [h1]⟩
   ·simp at h
  ·simp at h
 ·simp at h
theorem appendMs_local {st s st1 : ASt} {T : TypeId} {d j n : Nat} {xs : List (List Im)} {z : PV} (hx : Agree (refOf st.fr (.ms d j n)) s.fr) (h : appendMs P st T d j n xs = some (z, st1)) :
  ∃ o, st1 = st.setFr (fset st.fr d j o) ∧ appendMs P s T d j n xs = some (z, s.setFr (fset s.fr d j o)) ∧ (look st.fr d j).isSome := by
 unfold appendMs at h
 split at h
 ·rename_i t sz rows fz e h1 h2
  split at h
  ·rename_i sz' by_ zz h3 h4 h5
   split at h
   ·rename_i hc
    simp only [Option.some.injEq, Prod.mk.injEq] at h
    obtain ⟨rfl, rfl⟩ := h
    exact ⟨_, rfl, by simp only [appendMs, agree_ms hx h1, h2, h3, h4, h5, if_pos hc], by simp [h1]⟩
   ·simp at h
  ·simp at h
 ·simp at h
theorem stepW_local {st s st1 : ASt} {op : Op} {v : PV} {r : Ref} (ht : tgtO st op = some r) (hs : Sees st s op) (h : stepV P st op = some (v, st1)) :
  ∃ o, st1 = st.setFr (fset st.fr r.1 r.2 o) ∧ stepV P s op = some (v, s.setFr (fset s.fr r.1 r.2 o)) ∧ (look st.fr r.1 r.2).isSome := by
 unfold tgtO at ht
 split at ht
 ·rename_i t x y
  simp only [Option.bind_eq_some_iff] at ht
  obtain ⟨u, h1, h2⟩ := ht
  simp only [stepV, h1] at h
  split at h
  ·rename_i u' w h3 h4
   simp only [Option.some.injEq] at h3
   subst h3
   simp only [Option.bind_eq_some_iff] at h
   obtain ⟨fr1, h5, h6⟩ := h
   obtain ⟨o, h7, h8, h9⟩ := storePV_local h2 (hs.at (by simp [opndsM]) h1) (hs.at (by simp [opndsM]) h4) h5
   subst h7
   refine ⟨o, ?_, ?_, h9⟩
   ·obtain ⟨l, up, e⟩ := fset_cons (fr := st.up) (f := st.loc) (d := r.1) (j := r.2) (o := o)
    have e' : fset st.fr r.1 r.2 o = l :: up := e
    rw [e'] at h6 ⊢
    simp only [Option.some.injEq, Prod.mk.injEq] at h6
    rw [← h6.2]
    rfl
   ·simp only [stepV, hs.ev (show x ∈ opndsO (.store t x y) by simp [opndsO]) h1, hs.ev (show y ∈ opndsO (.store t x y) by simp [opndsO]) h4, h8, Option.bind_some]
    obtain ⟨l, up, e⟩ := fset_cons (fr := s.up) (f := s.loc) (d := r.1) (j := r.2) (o := o)
    have e' : fset s.fr r.1 r.2 o = l :: up := e
    obtain ⟨l2, up2, e2⟩ := fset_cons (fr := st.up) (f := st.loc) (d := r.1) (j := r.2) (o := o)
    have e2' : fset st.fr r.1 r.2 o = l2 :: up2 := e2
    rw [e2'] at h6
    simp only [Option.some.injEq, Prod.mk.injEq] at h6
    rw [e', ← h6.1]
    rfl
  ·simp at h
 ·rename_i args ts
  split at ht
  ·rename_i a b hl
   simp only [Option.bind_eq_some_iff] at ht
   obtain ⟨u, h1, h2⟩ := ht
   simp only [stepV, hl] at h
   split at h
   ·rename_i x1 x2 t1 t2 e1 e2
    simp only [List.cons.injEq, and_true] at e1
    obtain ⟨rfl, rfl⟩ := e1
    split at h
    ·rename_i htt
     split at h
     ·rename_i u' w h3 h4
      rw [h1] at h3
      simp only [Option.some.injEq] at h3
      subst h3
      have ha : a ∈ opndsO (.call { callee := .builtin .append, args, argTypes := ts }) := by simp [opndsO, hl]
      have hb : b ∈ opndsO (.call { callee := .builtin .append, args, argTypes := ts }) := by simp [opndsO, hl]
      have ha2 : a ∈ opndsM (.call { callee := .builtin .append, args, argTypes := ts }) := by simp [opndsM, hl]
      have hb2 : b ∈ opndsM (.call { callee := .builtin .append, args, argTypes := ts }) := by simp [opndsM, hl]
      unfold appendV at h
      split at h
      ·rename_i d j o n g
       simp only [Option.bind_eq_some_iff] at h
       obtain ⟨ys, h5, h5'⟩ := h
       simp only [tgtPV, Option.some.injEq] at h2
       subst h2
       obtain ⟨o', h6, h7, h8⟩ := appendVs_local (s := s) (hs.at ha2 h1) h5'
       refine ⟨o', h6, ?_, h8⟩
       simp only [stepV, hl, e2, if_pos htt, hs.ev ha h1, hs.ev hb h4, appendV, cellsOfV_local (hs.at hb2 h4) h5, h7, Option.bind_some]
      unfold appendO at h
      split at h
      ·rename_i xs h5
       split at h
       ·rename_i d j n
        simp only [tgtPV, Option.some.injEq] at h2
        subst h2
        obtain ⟨o, h6, h7, h8⟩ := appendMs_local (s := s) (hs.at ha2 h1) h
        refine ⟨o, h6, ?_, h8⟩
        simp only [stepV, hl, e2, if_pos htt, hs.ev ha h1, hs.ev hb h4, appendV, appendO, rowsPV_local (hs.at hb2 h4) h5, h7]
       ·simp [tgtPV] at h2
       ·simp at h
      ·simp at h
     ·simp at h
    ·simp at h
   ·simp at h
  ·simp at ht
 ·simp at ht
def turnedO (st1 : ASt) (r : Ref) : List (Ref × AObj) := match look st1.fr r.1 r.2 with
 | some o => [(r, o)]
 | none => []
theorem exe_write {n : Nat} {st st1 : ASt} {g : GO} {v : PV} {r : Ref} (hg : guardA st.env g.guard = some true) (ht : tgtO st g.op = some r) (h : stepV P st g.op = some (v, st1)) (hd : okDst n g.dst = true) :
  GExe P n g (actOf st g v [] (turnedO st1 r)) ∧ (actOf st g v [] (turnedO st1 r)).app st = st1.put g.dst v := by
 obtain ⟨o, h1, _, h2⟩ := stepW_local ht (actOf_sees (actOf_self (g := g) (v := v) (rd := []) (ws := []) (fun p hp => by simp at hp))).1 h
 have hw : turnedO st1 r = [(r, o)] := by
  obtain ⟨o0, h3⟩ := Option.isSome_iff_exists.1 h2
  rw [turnedO, h1, ASt.setFr_fset, look, fget_fset_same _ _ _ _ _ h3]
 rw [hw]
 refine ⟨exe_op hd rfl (fun s hs => guard_local (actOf_sees hs).2.1 hg) (fun s hs => ?_), by rw [h1]; rfl⟩
 obtain ⟨o', h3, h4, _⟩ := stepW_local ht (actOf_sees hs).1 h
 have : o' = o := by
  obtain ⟨o0, h5⟩ := Option.isSome_iff_exists.1 h2
  have := congrArg ASt.fr (h1.symm.trans h3)
  rw [ASt.setFr_fset, ASt.setFr_fset] at this
  have := congrArg (fun f => fget f r.1 r.2) this
  simp only [fget_fset_same _ _ _ _ _ h5, Option.some.injEq] at this
  exact this.symm
 subst this
 exact stepV_ok h4
end Go.Proofs.YtkjfdacjjogpcaaPi

