/- The memory of the abstract program logic: what a call's own objects say of the world, and the steps that keep all else as it was. No Go text in it. -/
import Derived.Test.YtkjfdacjjogpcaaPiBase
import Derived.Deep.LoopGhost
set_option linter.unusedVariables false
set_option linter.unusedSimpArgs false
namespace Go.Proofs.YtkjfdacjjogpcaaPi

def KRel (F : Fz) : List Im → Value → Prop
 | [x], v => IRel F x v
 | ks, v => ∃ vs : Array Value, v = .agg vs ∧ vs.size = ks.length ∧ ∀ (j : Nat) (x : Im), ks[j]? = some x → ∃ u : Value, vs[j]? = some u ∧ IRel F x u
theorem KRel.mono {F G : Fz} (h : F.le G) {ks : List Im} {v : Value} (k : KRel F ks v) : KRel G ks v := by
 have go : (∃ vs : Array Value, v = .agg vs ∧ vs.size = ks.length ∧ ∀ (j : Nat) (x : Im), ks[j]? = some x → ∃ u : Value, vs[j]? = some u ∧ IRel F x u) → (∃ vs : Array Value, v = .agg vs ∧ vs.size = ks.length ∧ ∀ (j : Nat) (x : Im), ks[j]? = some x → ∃ u : Value, vs[j]? = some u ∧ IRel G x u) := by
  rintro ⟨vs, h1, h2, h3⟩
  exact ⟨vs, h1, h2, fun j x hx => let ⟨u, h4, h5⟩ := h3 j x hx; ⟨u, h4, h5.mono h⟩⟩
 match ks, k with
 | [], k => exact go k
 | [x], k => exact IRel.mono h k
 | x :: y :: zs, k => exact go k
def EntRel (F : Fz) (e : List Im × Im) (m : MapEntry) : Prop := KRel F e.1 m.key ∧ IRel F e.2 m.val
def RowAt (F : Fz) (arr : Array Value) (sz : Nat) (rows : List (List Im)) : Prop :=
 ∀ (i : Nat) (r : List Im), rows[i]? = some r → r.length = sz ∧ ∀ (j : Nat) (x : Im), r[j]? = some x → ∃ v : Value, arr[i * sz + j]? = some v ∧ IRel F x v
theorem RowAt.mono {F G : Fz} (h : F.le G) {arr : Array Value} {sz : Nat} {rows : List (List Im)} (k : RowAt F arr sz rows) : RowAt G arr sz rows :=
 fun i r hr => ⟨(k i r hr).1, fun j x hx => let ⟨v, h1, h2⟩ := (k i r hr).2 j x hx; ⟨v, h1, h2.mono h⟩⟩

def MObj (F : Fz) (bs : Bns) (fr : Frs) (w : World) : AObj → Bnd → Prop
 | .box cs, a => ∃ b arr t, a.1 = some b ∧ w.heap[b]? = some (.cells arr t (0, 0)) ∧ VRels F bs fr cs arr.toList ∧ (∀ o, F b o = none)
 | .row t sz rows fz, a => 0 < sz ∧ rows.length ≤ a.2 ∧ a.2 ≤ maxLen ∧ fz ≤ rows.length ∧ (a.1 = none → a.2 = 0) ∧
   ∀ b, a.1 = some b → ∃ arr, w.heap[b]? = some (.cells arr t (0, 0)) ∧ arr.size = a.2 * sz ∧ RowAt F arr sz rows ∧ (∀ o v, F b o = some v → o < fz * sz) ∧ (∀ o, o < fz * sz → F b o = arr[o]?)
 | .map es, a => ∃ b arr clock, a.1 = some b ∧ w.heap[b]? = some (.map arr clock) ∧ arr.size = es.length ∧ (∀ (i : Nat) (e : List Im × Im), es[i]? = some e → ∃ m : MapEntry, arr[i]? = some m ∧ EntRel F e m) ∧ (∀ o, F b o = none)
 | .dead, _ => True
 | .vec t _ cs, a => cs.length ≤ a.2 ∧ a.2 ≤ maxLen ∧ (a.1 = none → a.2 = 0) ∧
   ∀ b, a.1 = some b → ∃ arr, w.heap[b]? = some (.cells arr t (0, 0)) ∧ arr.size = a.2 ∧ VRels F bs fr cs (arr.toList.take cs.length) ∧ (∀ o, F b o = none)

def AObj.live : AObj → Prop
 | .dead => False
 | _ => True
def Own (bs : Bns) (fr : Frs) (d j b : Nat) : Prop := ∃ o k, look fr d j = some o ∧ o.live ∧ bnd bs d j = some (some b, k)

structure MRel (F : Fz) (bs : Bns) (fr : Frs) (w : World) : Prop where
 shape : bs.map List.length = fr.map List.length
 obj : ∀ d j o a, look fr d j = some o → bnd bs d j = some a → MObj F (bs.drop d) (fr.drop d) w o a
 inj : ∀ d j d' j' b, Own bs fr d j b → Own bs fr d' j' b → d = d' ∧ j = j'
 fz : ∀ b o v, F b o = some v → w.cell? ⟨b, o, none⟩ = some v

theorem look_bnd {bs : Bns} {fr : Frs} (h : bs.map List.length = fr.map List.length) {d j : Nat} {o : AObj} (ho : look fr d j = some o) : ∃ a, bnd bs d j = some a := by
 induction fr generalizing bs d with
 | nil => simp [fget] at ho
 | cons f fr ih =>
  cases bs with
  | nil => simp at h
  | cons b bs =>
   simp only [List.map_cons, List.cons.injEq] at h
   cases d with
   | zero =>
    simp only [look_zero, bnd_zero] at ho ⊢
    have : j < f.length := (List.getElem?_eq_some_iff.1 ho).1
    exact ⟨b[j]'(by omega), by rw [List.getElem?_eq_getElem]⟩
   | succ d =>
    simp only [look_succ, bnd_succ] at ho ⊢
    exact ih h.2 ho

theorem MRel.own_lt {F : Fz} {bs : Bns} {fr : Frs} {w : World} (h : MRel F bs fr w) {d j b : Nat} (ho : Own bs fr d j b) : b < w.heap.size := by
 obtain ⟨o, k, h1, h2, h3⟩ := ho
 have hm := h.obj d j o _ h1 h3
 cases o with
 | box cs =>
  obtain ⟨b', arr, t, h4, h5, _⟩ := hm
  simp at h4; subst h4
  exact (Array.getElem?_eq_some_iff.1 h5).1
 | row t sz rows fz =>
  obtain ⟨_, _, _, _, _, h4⟩ := hm
  obtain ⟨arr, h5, _⟩ := h4 b rfl
  exact (Array.getElem?_eq_some_iff.1 h5).1
 | map es =>
  obtain ⟨b', arr, t, h4, h5, _⟩ := hm
  simp at h4; subst h4
  exact (Array.getElem?_eq_some_iff.1 h5).1
 | dead => exact h2.elim
 | vec t g cs =>
  obtain ⟨_, _, _, h4⟩ := hm
  obtain ⟨arr, h5, _⟩ := h4 b rfl
  exact (Array.getElem?_eq_some_iff.1 h5).1

structure Keeps (bs : Bns) (fr : Frs) (w w' : World) : Prop where
 os : w'.os = w.os
 tape : w'.tape = w.tape
 output : w'.output = w.output
 size : w.heap.size ≤ w'.heap.size
 block : ∀ b, b < w.heap.size → (∀ d j, ¬ Own bs fr d j b) → w'.heap[b]? = w.heap[b]?
def Owns (bs : Bns) (fr : Frs) (w : World) (bs' : Bns) (fr' : Frs) : Prop :=
 ∀ d j b, Own bs' fr' d j b → (∃ d0 j0, Own bs fr d0 j0 b) ∨ w.heap.size ≤ b
theorem Keeps.refl (bs : Bns) (fr : Frs) (w : World) : Keeps bs fr w w := ⟨rfl, rfl, rfl, Nat.le_refl _, fun _ _ _ => rfl⟩
theorem Owns.refl (bs : Bns) (fr : Frs) (w : World) : Owns bs fr w bs fr := fun d j b h => .inl ⟨d, j, h⟩
theorem Keeps.trans {bs bs1 : Bns} {fr fr1 : Frs} {w w1 w2 : World} (h : Keeps bs fr w w1) (ho : Owns bs fr w bs1 fr1) (k : Keeps bs1 fr1 w1 w2) : Keeps bs fr w w2 :=
 ⟨k.os.trans h.os, k.tape.trans h.tape, k.output.trans h.output, Nat.le_trans h.size k.size, fun b hb hn => (k.block b (Nat.lt_of_lt_of_le hb h.size) (fun d j hd => by
  rcases ho d j b hd with ⟨d0, j0, h0⟩ | h0
  ·exact hn d0 j0 h0
  ·omega)).trans (h.block b hb hn)⟩
theorem Owns.trans {bs bs1 bs2 : Bns} {fr fr1 fr2 : Frs} {w w1 : World} (h : Owns bs fr w bs1 fr1) (hs : w.heap.size ≤ w1.heap.size) (k : Owns bs1 fr1 w1 bs2 fr2) : Owns bs fr w bs2 fr2 := fun d j b hb => by
 rcases k d j b hb with ⟨d0, j0, h0⟩ | h0
 ·exact h d0 j0 b h0
 ·exact .inr (by omega)
theorem Own.succ {b0 : List Bnd} {f0 : List AObj} {bs : Bns} {fr : Frs} {d j b : Nat} (h : Own bs fr d j b) : Own (b0 :: bs) (f0 :: fr) (d + 1) j b := by
 obtain ⟨o, k, h1, h2, h3⟩ := h
 exact ⟨o, k, by simpa using h1, h2, by simpa using h3⟩
theorem Own.pred {b0 : List Bnd} {f0 : List AObj} {bs : Bns} {fr : Frs} {d j b : Nat} (h : Own (b0 :: bs) (f0 :: fr) (d + 1) j b) : Own bs fr d j b := by
 obtain ⟨o, k, h1, h2, h3⟩ := h
 exact ⟨o, k, by simpa using h1, h2, by simpa using h3⟩

structure CStep (F : Fz) (bs : Bns) (fr : Frs) (w : World) (F' : Fz) (bs' : Bns) (fr' : Frs) (w' : World) : Prop where
 le : F.le F'
 ev : Evolve bs fr bs' fr'
 keeps : Keeps bs fr w w'
 owns : Owns bs fr w bs' fr'
theorem CStep.refl (F : Fz) (bs : Bns) (fr : Frs) (w : World) : CStep F bs fr w F bs fr w := ⟨Fz.le_refl F, .refl _ _, .refl _ _ _, .refl _ _ _⟩
theorem CStep.trans {F F1 F2 : Fz} {bs bs1 bs2 : Bns} {fr fr1 fr2 : Frs} {w w1 w2 : World} (h : CStep F bs fr w F1 bs1 fr1 w1) (k : CStep F1 bs1 fr1 w1 F2 bs2 fr2 w2) : CStep F bs fr w F2 bs2 fr2 w2 :=
 ⟨Fz.le_trans h.le k.le, h.ev.trans k.ev, h.keeps.trans h.owns k.keeps, h.owns.trans h.keeps.size k.owns⟩

structure ASt where
 env : List (Nat × PV)
 loc : List AObj
 up : Frs
def ASt.fr (s : ASt) : Frs := s.loc :: s.up
def eget : List (Nat × PV) → Nat → Option PV
 | [], _ => none
 | (k, v) :: e, t => if k = t then some v else eget e t
def edel : List (Nat × PV) → Nat → List (Nat × PV)
 | [], _ => []
 | (k, v) :: e, t => if k = t then edel e t else (k, v) :: edel e t
def eput (e : List (Nat × PV)) (t : Nat) (v : PV) : List (Nat × PV) := (t, v) :: edel e t
theorem eget_edel (e : List (Nat × PV)) (t u : Nat) : eget (edel e t) u = if u = t then none else eget e u := by
 induction e with
 | nil => simp [edel, eget]
 | cons p e ih =>
  obtain ⟨k, v⟩ := p
  simp only [edel]
  split
  ·rename_i h; subst h
   rw [ih]
   simp only [eget]
   split
   ·rfl
   ·rename_i h2; rw [if_neg (fun h3 => h2 h3.symm)]
  ·rename_i h
   simp only [eget, ih]
   split
   ·rename_i h2; subst h2; rw [if_neg h]
   ·rfl
theorem eget_eput (e : List (Nat × PV)) (t u : Nat) (v : PV) : eget (eput e t v) u = if u = t then some v else eget e u := by
 simp only [eput, eget, eget_edel]
 by_cases h : u = t
 ·subst h; simp
 ·rw [if_neg (fun k => h k.symm), if_neg h, if_neg h]

structure ARel (n : Nat) (F : Fz) (bs : Bns) (st : ASt) (a : Act) (w : World) : Prop where
 mem : MRel F bs st.fr w
 size : n ≤ a.tmps.size
 env : ∀ t v, eget st.env t = some v → t < n ∧ VRel F bs st.fr v (a.tmps.getD t undef)
 defers : a.defers = []
structure AStep (F : Fz) (bs : Bns) (st : ASt) (w : World) (F' : Fz) (bs' : Bns) (st' : ASt) (w' : World) : Prop where
 le : F.le F'
 ev : Evolve bs.tail st.up bs'.tail st'.up
 keeps : Keeps bs st.fr w w'
 owns : Owns bs st.fr w bs' st'.fr
theorem AStep.refl (F : Fz) (bs : Bns) (st : ASt) (w : World) : AStep F bs st w F bs st w := ⟨Fz.le_refl F, .refl _ _, .refl _ _ _, .refl _ _ _⟩
theorem AStep.trans {F F1 F2 : Fz} {bs bs1 bs2 : Bns} {s s1 s2 : ASt} {w w1 w2 : World} (h : AStep F bs s w F1 bs1 s1 w1) (k : AStep F1 bs1 s1 w1 F2 bs2 s2 w2) : AStep F bs s w F2 bs2 s2 w2 :=
 ⟨Fz.le_trans h.le k.le, h.ev.trans k.ev, h.keeps.trans h.owns k.keeps, h.owns.trans h.keeps.size k.owns⟩

def APost (n : Nat) (F : Fz) (bs : Bns) (st : ASt) (w : World) (Q : Exit → ASt → Prop) : Exit → Act → World → Prop :=
 fun e a' w' => ∃ st' F' bs', Q e st' ∧ ARel n F' bs' st' a' w' ∧ AStep F bs st w F' bs' st' w'
def AWp (P : Program) (n : Nat) (c : Code) (Q : Exit → ASt → Prop) (st : ASt) : Prop :=
 ∀ F bs a w, ARel n F bs st a w → c.wp P (APost n F bs st w Q) a w
def ACalls (P : Program) (f : FuncId) (args : List PV) (up : Frs) (R : PV → Frs → Prop) : Prop :=
 ∀ F bs w vs, MRel F bs up w → VRels F bs up args vs.toList → Calls P f vs w fun e w' =>
  ∃ v pv F' bs' up', e = .returned v ∧ R pv up' ∧ MRel F' bs' up' w' ∧ VRel F' bs' up' pv v ∧ CStep F bs up w F' bs' up' w'
theorem ACalls.mono {P : Program} {f : FuncId} {args : List PV} {up : Frs} {R R' : PV → Frs → Prop} (h : ACalls P f args up R) (k : ∀ v u, R v u → R' v u) : ACalls P f args up R' :=
 fun F bs w vs hm hv => (h F bs w vs hm hv).mono fun e w' ⟨v, pv, F', bs', up', h1, h2, h3⟩ => ⟨v, pv, F', bs', up', h1, k _ _ h2, h3⟩

def Ghost (n : Nat) (s s' : ASt) : Prop := ∀ F bs a w, ARel n F bs s a w → ∃ F' bs', ARel n F' bs' s' a w ∧ AStep F bs s w F' bs' s' w
theorem Ghost.refl (n : Nat) (s : ASt) : Ghost n s s := fun F bs a w h => ⟨F, bs, h, .refl _ _ _ _⟩
theorem Ghost.trans {n : Nat} {s s1 s2 : ASt} (h : Ghost n s s1) (k : Ghost n s1 s2) : Ghost n s s2 := fun F bs a w hr => by
 obtain ⟨F1, bs1, h1, h2⟩ := h F bs a w hr
 obtain ⟨F2, bs2, h3, h4⟩ := k F1 bs1 a w h1
 exact ⟨F2, bs2, h3, h2.trans h4⟩
theorem AWp.ghost {P : Program} {n : Nat} {c : Code} {Q : Exit → ASt → Prop} {s s' : ASt} (g : Ghost n s s') (h : AWp P n c Q s') : AWp P n c Q s := fun F bs a w hr => by
 obtain ⟨F', bs', h1, h2⟩ := g F bs a w hr
 refine wp_mono (h F' bs' a w h1) ?_
 rintro e a' w' ⟨st', F2, bs2, h3, h4, h5⟩
 exact ⟨st', F2, bs2, h3, h4, h2.trans h5⟩
theorem AWp.mono {P : Program} {n : Nat} {c : Code} {Q Q' : Exit → ASt → Prop} {s : ASt} (h : AWp P n c Q s) (k : ∀ e s, Q e s → Q' e s) : AWp P n c Q' s := fun F bs a w hr =>
 wp_mono (h F bs a w hr) fun e a' w' ⟨st', F2, bs2, h3, h4, h5⟩ => ⟨st', F2, bs2, k _ _ h3, h4, h5⟩

/-! ### changes of the memory -/
theorem MObj.move {F F' : Fz} {bs bs' : Bns} {fr fr' : Frs} {w w' : World} {o : AObj} {a : Bnd} (h : MObj F bs fr w o a) (hF : Fz.le F F') (hE : Evolve bs fr bs' fr')
  (hb : ∀ b, a.1 = some b → o.live → w'.heap[b]? = w.heap[b]? ∧ ∀ q, F' b q = F b q) : MObj F' bs' fr' w' o a := by
 cases o with
 | box cs =>
  obtain ⟨b, arr, t, h1, h2, h3, h4⟩ := h
  obtain ⟨k1, k2⟩ := hb b h1 trivial
  exact ⟨b, arr, t, h1, k1.trans h2, h3.move hF hE, fun q => (k2 q).trans (h4 q)⟩
 | row t sz rows fz =>
  obtain ⟨h0, h1, h1', h2, h3, h4⟩ := h
  refine ⟨h0, h1, h1', h2, h3, fun b hb' => ?_⟩
  obtain ⟨arr, h5, h6, h7, h8, h9⟩ := h4 b hb'
  obtain ⟨k1, k2⟩ := hb b hb' trivial
  exact ⟨arr, k1.trans h5, h6, h7.mono hF, fun q v hq => h8 q v ((k2 q).symm.trans hq), fun q hq => (k2 q).trans (h9 q hq)⟩
 | map es =>
  obtain ⟨b, arr, clock, h1, h2, h3, h4, h5⟩ := h
  obtain ⟨k1, k2⟩ := hb b h1 trivial
  exact ⟨b, arr, clock, h1, k1.trans h2, h3, fun i e he => let ⟨m, h6, h7⟩ := h4 i e he; ⟨m, h6, h7.1.mono hF, h7.2.mono hF⟩, fun q => (k2 q).trans (h5 q)⟩
 | dead => trivial
 | vec t g cs =>
  obtain ⟨h0, h1, h2, h3⟩ := h
  refine ⟨h0, h1, h2, fun b hb' => ?_⟩
  obtain ⟨arr, h5, h6, h7, h8⟩ := h3 b hb'
  obtain ⟨k1, k2⟩ := hb b hb' trivial
  exact ⟨arr, k1.trans h5, h6, h7.move hF hE, fun q => (k2 q).trans (h8 q)⟩
theorem Evolve.drop {bs bs' : Bns} {fr fr' : Frs} (h : Evolve bs fr bs' fr') (d : Nat) : Evolve (bs.drop d) (fr.drop d) (bs'.drop d) (fr'.drop d) := fun e j o a h1 h2 => by
 obtain ⟨o', a', h3, h4, h5⟩ := h (d + e) j o a ((fget_drop ..).symm.trans h1) ((fget_drop ..).symm.trans h2)
 exact ⟨o', a', (fget_drop ..).trans h3, (fget_drop ..).trans h4, h5⟩
theorem MRel.change {F F' : Fz} {bs bs' : Bns} {fr fr' : Frs} {w w' : World} (h : MRel F bs fr w) (hsh : bs'.map List.length = fr'.map List.length) (hle : Fz.le F F') (hev : Evolve bs fr bs' fr')
  (hobj : ∀ d j o a, look fr' d j = some o → bnd bs' d j = some a → (look fr d j = some o ∧ bnd bs d j = some a ∧ ∀ b, a.1 = some b → o.live → w'.heap[b]? = w.heap[b]? ∧ ∀ q, F' b q = F b q) ∨ MObj F' (bs'.drop d) (fr'.drop d) w' o a)
  (hinj : ∀ d j d' j' b, Own bs' fr' d j b → Own bs' fr' d' j' b → d = d' ∧ j = j') (hfz : ∀ b o v, F' b o = some v → w'.cell? ⟨b, o, none⟩ = some v) : MRel F' bs' fr' w' :=
 ⟨hsh, fun d j o a h1 h2 => by
  rcases hobj d j o a h1 h2 with ⟨h3, h4, h5⟩ | h3
  ·exact (h.obj d j o a h3 h4).move hle (hev.drop d) h5
  ·exact h3, hinj, hfz⟩

theorem MRel.heap {F : Fz} {bs : Bns} {fr : Frs} {w w' : World} (h : MRel F bs fr w) (e : w'.heap = w.heap) : MRel F bs fr w' :=
 h.change h.shape (Fz.le_refl F) (.refl _ _) (fun d j o a h1 h2 => .inl ⟨h1, h2, fun b _ _ => ⟨by rw [e], fun _ => rfl⟩⟩) h.inj (fun b o v hv => by
  rw [← h.fz b o v hv]; exact World.cell?_of_block (by rw [e]))

theorem MRel.push {F F' : Fz} {b0 : List Bnd} {bs : Bns} {f0 : List AObj} {fr : Frs} {w w' : World} (h : MRel F (b0 :: bs) (f0 :: fr) w) (o : AObj) (a : Bnd)
  (hw : ∀ b, b < w.heap.size → w'.heap[b]? = w.heap[b]?) (hle : Fz.le F F') (hF : ∀ b q, b < w.heap.size → F' b q = F b q) (hfz : ∀ b q v, w.heap.size ≤ b → F' b q = some v → w'.cell? ⟨b, q, none⟩ = some v)
  (hb : ∀ b, a.1 = some b → w.heap.size ≤ b) (ho : MObj F' ((b0 ++ [a]) :: bs) ((f0 ++ [o]) :: fr) w' o a) :
  MRel F' ((b0 ++ [a]) :: bs) ((f0 ++ [o]) :: fr) w' ∧ Evolve (b0 :: bs) (f0 :: fr) ((b0 ++ [a]) :: bs) ((f0 ++ [o]) :: fr) ∧ Owns (b0 :: bs) (f0 :: fr) w ((b0 ++ [a]) :: bs) ((f0 ++ [o]) :: fr) := by
 have hsh := h.shape
 simp only [List.map_cons, List.cons.injEq] at hsh
 have hev : Evolve (b0 :: bs) (f0 :: fr) ((b0 ++ [a]) :: bs) ((f0 ++ [o]) :: fr) := fun d j o' a' h1 h2 => by
  refine ⟨o', a', ?_, ?_, o'.becomes_refl a'⟩
  ·cases d with
   | zero => simp only [look_zero] at h1 ⊢; rw [List.getElem?_append_left (List.getElem?_eq_some_iff.1 h1).1]; exact h1
   | succ d => simpa only [look_succ] using h1
  ·cases d with
   | zero => simp only [look_zero] at h2 ⊢; rw [List.getElem?_append_left (List.getElem?_eq_some_iff.1 h2).1]; exact h2
   | succ d => simpa only [look_succ] using h2
 have hold : ∀ d j o' a', look ((f0 ++ [o]) :: fr) d j = some o' → bnd ((b0 ++ [a]) :: bs) d j = some a' → (look (f0 :: fr) d j = some o' ∧ bnd (b0 :: bs) d j = some a') ∨ (d = 0 ∧ j = f0.length ∧ o' = o ∧ a' = a) := fun d j o' a' h1 h2 => by
  cases d with
  | succ d => exact .inl ⟨by simpa only [look_succ] using h1, by simpa only [look_succ] using h2⟩
  | zero =>
   simp only [look_zero] at h1 h2
   by_cases hj : j < f0.length
   ·rw [List.getElem?_append_left hj] at h1
    rw [List.getElem?_append_left (by omega)] at h2
    exact .inl ⟨h1, h2⟩
   ·have hl := (List.getElem?_eq_some_iff.1 h1).1
    simp at hl
    have hj2 : j = f0.length := by omega
    subst hj2
    rw [List.getElem?_append_right (Nat.le_refl _)] at h1
    rw [List.getElem?_append_right (by omega)] at h2
    simp at h1
    simp [hsh.1] at h2
    exact .inr ⟨rfl, rfl, h1.symm, h2.symm⟩
 have hown : ∀ d j b, Own ((b0 ++ [a]) :: bs) ((f0 ++ [o]) :: fr) d j b → (Own (b0 :: bs) (f0 :: fr) d j b) ∨ (d = 0 ∧ j = f0.length ∧ w.heap.size ≤ b) := fun d j b hd => by
  obtain ⟨o', k, h1, h2, h3⟩ := hd
  rcases hold d j o' _ h1 h3 with ⟨h4, h5⟩ | ⟨h4, h5, h6, h7⟩
  ·exact .inl ⟨o', k, h4, h2, h5⟩
  ·exact .inr ⟨h4, h5, hb b (by rw [← h7])⟩
 refine ⟨h.change (by simp [hsh.1, hsh.2]) hle hev ?_ ?_ ?_, hev, fun d j b hd => ?_⟩
 ·intro d j o' a' h1 h2
  rcases hold d j o' a' h1 h2 with ⟨h3, h4⟩ | ⟨rfl, rfl, rfl, rfl⟩
  ·refine .inl ⟨h3, h4, fun b hb' hl => ?_⟩
   have hlt : b < w.heap.size := h.own_lt (d := d) (j := j) ⟨o', a'.2, h3, hl, by rw [h4, ← hb']⟩
   exact ⟨hw b hlt, fun q => hF b q hlt⟩
  ·exact .inr ho
 ·intro d j d' j' b h1 h2
  rcases hown d j b h1 with h3 | ⟨h3, h4, h5⟩ <;> rcases hown d' j' b h2 with k3 | ⟨k3, k4, k5⟩
  ·exact h.inj d j d' j' b h3 k3
  ·have := h.own_lt h3; omega
  ·have := h.own_lt k3; omega
  ·exact ⟨by omega, by omega⟩
 ·intro b q v hv
  by_cases hlt : b < w.heap.size
  ·rw [hF b q hlt] at hv
   rw [← h.fz b q v hv]
   exact World.cell?_of_block (hw b hlt)
  ·exact hfz b q v (by omega) hv
 ·rcases hown d j b hd with h3 | h3
  ·exact .inl ⟨d, j, h3⟩
  ·exact .inr h3.2.2

theorem MRel.put {F F' : Fz} {bs : Bns} {fr : Frs} {w w' : World} (h : MRel F bs fr w) {d j : Nat} {o o' : AObj} {a a' : Bnd} (ho : look fr d j = some o) (ha : bnd bs d j = some a)
  (hw : ∀ b, b < w.heap.size → a.1 ≠ some b ∨ ¬ o.live → w'.heap[b]? = w.heap[b]?) (hle : Fz.le F F') (hF : ∀ b q, b < w.heap.size → a.1 ≠ some b ∨ ¬ o.live → F' b q = F b q)
  (hfz : ∀ b q v, w.heap.size ≤ b ∨ a.1 = some b ∧ o.live → F' b q = some v → w'.cell? ⟨b, q, none⟩ = some v) (hb : ∀ b, a'.1 = some b → w.heap.size ≤ b ∨ a.1 = some b ∧ o.live) (hbc : o.becomes o' a a')
  (hm : MObj F' ((fset bs d j a').drop d) ((fset fr d j o').drop d) w' o' a') :
  MRel F' (fset bs d j a') (fset fr d j o') w' ∧ Evolve bs fr (fset bs d j a') (fset fr d j o') ∧ Owns bs fr w (fset bs d j a') (fset fr d j o') := by
 have hlk : ∀ d' j', look (fset fr d j o') d' j' = if d' = d ∧ j' = j then some o' else look fr d' j' := fun d' j' => by rw [look, fget_fset]; split <;> simp_all
 have hbk : ∀ d' j', bnd (fset bs d j a') d' j' = if d' = d ∧ j' = j then some a' else bnd bs d' j' := fun d' j' => by rw [bnd, fget_fset]; split <;> simp_all
 have hev : Evolve bs fr (fset bs d j a') (fset fr d j o') := fun d' j' o1 a1 h1 h2 => by
  rw [hlk, hbk]
  split
  ·rename_i he
   obtain ⟨rfl, rfl⟩ := he
   rw [h1] at ho
   rw [h2] at ha
   cases ho; cases ha
   exact ⟨o', a', rfl, rfl, hbc⟩
  ·exact ⟨o1, a1, h1, h2, o1.becomes_refl a1⟩
 have hown : ∀ d' j' b, Own (fset bs d j a') (fset fr d j o') d' j' b → (¬ (d' = d ∧ j' = j) ∧ Own bs fr d' j' b) ∨ (d' = d ∧ j' = j ∧ (w.heap.size ≤ b ∨ a.1 = some b ∧ o.live)) := fun d' j' b hd => by
  obtain ⟨o1, k, h1, h2, h3⟩ := hd
  rw [hlk] at h1
  rw [hbk] at h3
  by_cases he : d' = d ∧ j' = j
  ·rw [if_pos he] at h1 h3
   simp at h1 h3
   exact .inr ⟨he.1, he.2, hb b (by rw [h3])⟩
  ·rw [if_neg he] at h1 h3
   exact .inl ⟨he, o1, k, h1, h2, h3⟩
 have hownS : ∀ b, a.1 = some b ∧ o.live → Own bs fr d j b := fun b hb' => ⟨o, a.2, ho, hb'.2, by rw [ha, ← hb'.1]⟩
 refine ⟨h.change (by rw [fset_shape, fset_shape, h.shape]) hle hev ?_ ?_ ?_, hev, ?_⟩
 ·intro d' j' o1 a1 h1 h2
  rw [hlk] at h1
  rw [hbk] at h2
  by_cases he : d' = d ∧ j' = j
  ·rw [if_pos he] at h1 h2
   simp at h1 h2
   obtain ⟨rfl, rfl⟩ := he
   subst h1 h2
   exact .inr hm
  ·rw [if_neg he] at h1 h2
   refine .inl ⟨h1, h2, fun b hb' hl => ?_⟩
   have ho1 : Own bs fr d' j' b := ⟨o1, a1.2, h1, hl, by rw [h2, ← hb']⟩
   have hlt := h.own_lt ho1
   have hne : a.1 ≠ some b ∨ ¬ o.live := by
    by_cases hl2 : o.live
    ·exact .inl fun hab => he (h.inj d' j' d j b ho1 (hownS b ⟨hab, hl2⟩))
    ·exact .inr hl2
   exact ⟨hw b hlt hne, fun q => hF b q hlt hne⟩
 ·intro d1 j1 d2 j2 b h1 h2
  rcases hown d1 j1 b h1 with ⟨h3, h4⟩ | ⟨h3, h4, h5⟩ <;> rcases hown d2 j2 b h2 with ⟨k3, k4⟩ | ⟨k3, k4, k5⟩
  ·exact h.inj d1 j1 d2 j2 b h4 k4
  ·rcases k5 with k5 | k5
   ·have := h.own_lt h4; omega
   ·exact absurd (h.inj d1 j1 d j b h4 (hownS b k5)) h3
  ·rcases h5 with h5 | h5
   ·have := h.own_lt k4; omega
   ·exact absurd (h.inj d2 j2 d j b k4 (hownS b h5)) k3
  ·exact ⟨by omega, by omega⟩
 ·intro b q v hv
  by_cases hc : w.heap.size ≤ b ∨ a.1 = some b ∧ o.live
  ·exact hfz b q v hc hv
  ·have hlt : b < w.heap.size := by omega
   have hne : a.1 ≠ some b ∨ ¬ o.live := by
    by_cases hl2 : o.live
    ·exact .inl fun hab => hc (.inr ⟨hab, hl2⟩)
    ·exact .inr hl2
   rw [hF b q hlt hne] at hv
   rw [← h.fz b q v hv]
   exact World.cell?_of_block (hw b hlt hne)
 ·intro d' j' b hd
  rcases hown d' j' b hd with ⟨_, h4⟩ | ⟨_, _, h5⟩
  ·exact .inl ⟨d', j', h4⟩
  ·rcases h5 with h5 | h5
   ·exact .inr h5
   ·exact .inl ⟨d, j, hownS b h5⟩

/-! ### the forms of code -/
section
variable {P : Program} {n : Nat} {Q : Exit → ASt → Prop} {s : ASt}
theorem AWp.skip (h : Q .normal s) : AWp P n .skip Q s := fun F bs a w hr => wp_skip ⟨s, F, bs, h, hr, .refl _ _ _ _⟩
theorem AWp.exit {id : Nat} (h : Q (.exit id) s) : AWp P n (.exit id) Q s := fun F bs a w hr => wp_exit ⟨s, F, bs, h, hr, .refl _ _ _ _⟩
theorem AWp.ret (h : Q .ret s) : AWp P n .ret Q s := fun F bs a w hr => wp_ret ⟨s, F, bs, h, hr, .refl _ _ _ _⟩
def thenQ (K : ASt → Prop) (Q : Exit → ASt → Prop) : Exit → ASt → Prop
 | .normal, s => K s
 | e, s => Q e s
def inBlockQ (id : Nat) (Q : Exit → ASt → Prop) : Exit → ASt → Prop
 | .exit id', s => if id' = id then Q .normal s else Q (.exit id') s
 | e, s => Q e s
theorem AWp.seq {x y : Code} (h : AWp P n x (thenQ (AWp P n y Q) Q) s) : AWp P n (.seq x y) Q s := fun F bs a w hr => by
 refine wp_seq (wp_mono (h F bs a w hr) ?_)
 rintro e a' w' ⟨st', F', bs', h1, h2, h3⟩
 cases e with
 | normal =>
  refine wp_mono (h1 F' bs' a' w' h2) ?_
  rintro e a' w' ⟨st2, F2, bs2, h4, h5, h6⟩
  exact ⟨st2, F2, bs2, h4, h5, h3.trans h6⟩
 | exit id => exact ⟨st', F', bs', h1, h2, h3⟩
 | goto l => exact ⟨st', F', bs', h1, h2, h3⟩
 | ret => exact ⟨st', F', bs', h1, h2, h3⟩
 | panic ch => exact ⟨st', F', bs', h1, h2, h3⟩
 | outgrown => exact ⟨st', F', bs', h1, h2, h3⟩
theorem AWp.block {id : Nat} {c : Code} (h : AWp P n c (inBlockQ id Q) s) : AWp P n (.block id c) Q s := fun F bs a w hr => by
 refine wp_block (wp_mono (h F bs a w hr) ?_)
 rintro e a' w' ⟨st', F', bs', h1, h2, h3⟩
 cases e with
 | exit id' =>
  simp only [inBlockQ] at h1
  simp only [Exit.inBlock]
  split
  ·rename_i he; rw [if_pos he] at h1; exact ⟨st', F', bs', h1, h2, h3⟩
  ·rename_i he; rw [if_neg he] at h1; exact ⟨st', F', bs', h1, h2, h3⟩
 | normal => exact ⟨st', F', bs', h1, h2, h3⟩
 | goto l => exact ⟨st', F', bs', h1, h2, h3⟩
 | ret => exact ⟨st', F', bs', h1, h2, h3⟩
 | panic ch => exact ⟨st', F', bs', h1, h2, h3⟩
 | outgrown => exact ⟨st', F', bs', h1, h2, h3⟩
theorem AWp.loop {c : Code} (I : Nat → ASt → Prop) (k : Nat) (h0 : I k s)
  (round : ∀ m s', I m s' → AWp P n c (thenQ (fun s1 => ∃ m' s2, m' < m ∧ Ghost n s1 s2 ∧ I m' s2) Q) s') : AWp P n (.loop c) Q s := fun F bs a w hr => by
 refine wp_loop_ghost (fun m a' w' => ∃ s' F' bs', I m s' ∧ ARel n F' bs' s' a' w' ∧ AStep F bs s w F' bs' s' w') k ⟨s, F, bs, h0, hr, .refl _ _ _ _⟩ ?_
 rintro m a1 w1 ⟨s1, F1, bs1, hI, hr1, hs1⟩
 refine wp_mono (round m s1 hI F1 bs1 a1 w1 hr1) ?_
 rintro e a' w' ⟨st', F', bs', h1, h2, h3⟩
 cases e with
 | normal =>
  obtain ⟨m', s2, hlt, hg, hI2⟩ := h1
  obtain ⟨F2, bs2, h4, h5⟩ := hg F' bs' a' w' h2
  exact ⟨m', hlt, s2, F2, bs2, hI2, h4, (hs1.trans h3).trans h5⟩
 | exit id => exact ⟨st', F', bs', h1, h2, hs1.trans h3⟩
 | goto l => exact ⟨st', F', bs', h1, h2, hs1.trans h3⟩
 | ret => exact ⟨st', F', bs', h1, h2, hs1.trans h3⟩
 | panic ch => exact ⟨st', F', bs', h1, h2, hs1.trans h3⟩
 | outgrown => exact ⟨st', F', bs', h1, h2, hs1.trans h3⟩
end
end Go.Proofs.YtkjfdacjjogpcaaPi

