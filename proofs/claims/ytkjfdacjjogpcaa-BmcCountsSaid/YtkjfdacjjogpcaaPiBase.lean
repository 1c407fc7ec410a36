/- The values of the abstract program logic: immutable trees (Im), values with handles (PV), and what they say of the model's own values. No Go text in it. -/
import Derived.WalkKit
set_option linter.unusedVariables false
set_option linter.unusedSimpArgs false
namespace Go.Proofs.YtkjfdacjjogpcaaPi

inductive Im where
 | int (k : IntKind) (n : Int)
 | bool (b : Bool)
 | str (s : ByteArray)
 | sl (rows : List (List Im))
 deriving Inhabited

abbrev Fz := Nat → Nat → Option Value
def Fz.le (F G : Fz) : Prop := ∀ b o v, F b o = some v → G b o = some v
theorem Fz.le_refl (F : Fz) : F.le F := fun _ _ _ h => h
theorem Fz.le_trans {F G H : Fz} (h : F.le G) (k : G.le H) : F.le H := fun b o v e => k b o v (h b o v e)

mutual
def IRel (F : Fz) : Im → Value → Prop
 | .int k n, v => v = .int k n
 | .bool b, v => v = .bool b
 | .str s, v => v = .string s
 | .sl rows, v => ∃ A c, v = .slice A rows.length c ∧ rows.length ≤ c ∧ (rows ≠ [] → ∃ b o, A = some ⟨b, o, none⟩ ∧ ∃ sz, IRows F b sz o rows)
def ICells (F : Fz) (b : Nat) : Nat → List Im → Prop
 | _, [] => True
 | o, c :: cs => (∃ v, F b o = some v ∧ IRel F c v) ∧ ICells F b (o + 1) cs
def IRows (F : Fz) (b : Nat) (sz : Nat) : Nat → List (List Im) → Prop
 | _, [] => True
 | o, r :: rs => r.length = sz ∧ ICells F b o r ∧ IRows F b sz (o + sz) rs
end

mutual
theorem IRel.mono {F G : Fz} (h : F.le G) : ∀ {x : Im} {v : Value}, IRel F x v → IRel G x v
 | .int k n, v, e => by simpa [IRel] using e
 | .bool b, v, e => by simpa [IRel] using e
 | .str s, v, e => by simpa [IRel] using e
 | .sl rows, v, e => by
  simp only [IRel] at e ⊢
  obtain ⟨A, c, h1, h2, h3⟩ := e
  refine ⟨A, c, h1, h2, fun hn => ?_⟩
  obtain ⟨b, o, h4, sz, h5⟩ := h3 hn
  exact ⟨b, o, h4, sz, IRows.mono h h5⟩
theorem ICells.mono {F G : Fz} (h : F.le G) {b : Nat} : ∀ {cs : List Im} {o : Nat}, ICells F b o cs → ICells G b o cs
 | [], o, _ => by simp [ICells]
 | c :: cs, o, e => by
  simp only [ICells] at e ⊢
  obtain ⟨⟨v, h1, h2⟩, h3⟩ := e
  exact ⟨⟨v, h _ _ _ h1, IRel.mono h h2⟩, ICells.mono h h3⟩
theorem IRows.mono {F G : Fz} (h : F.le G) {b sz : Nat} : ∀ {rs : List (List Im)} {o : Nat}, IRows F b sz o rs → IRows G b sz o rs
 | [], o, _ => by simp [IRows]
 | r :: rs, o, e => by
  simp only [IRows] at e ⊢
  obtain ⟨h1, h2, h3⟩ := e
  exact ⟨h1, ICells.mono h h2, IRows.mono h h3⟩
end

theorem ICells.get {F : Fz} {b : Nat} : ∀ {cs : List Im} {o : Nat}, ICells F b o cs → ∀ j x, cs[j]? = some x → ∃ v, F b (o + j) = some v ∧ IRel F x v
 | [], _, _, j, x, hx => by simp at hx
 | c :: cs, o, e, 0, x, hx => by
  simp only [ICells] at e
  simp at hx
  subst hx
  exact e.1
 | c :: cs, o, e, j + 1, x, hx => by
  simp only [ICells] at e
  obtain ⟨v, h1, h2⟩ := ICells.get e.2 j x (by simpa using hx)
  exact ⟨v, by rw [show o + (j + 1) = o + 1 + j by omega]; exact h1, h2⟩
theorem ICells.mk {F : Fz} {b : Nat} : ∀ {cs : List Im} {o : Nat}, (∀ j x, cs[j]? = some x → ∃ v, F b (o + j) = some v ∧ IRel F x v) → ICells F b o cs
 | [], _, _ => by simp [ICells]
 | c :: cs, o, h => by
  simp only [ICells]
  exact ⟨by simpa using h 0 c (by simp), ICells.mk (fun j x hx => by
   obtain ⟨v, h1, h2⟩ := h (j + 1) x (by simpa using hx)
   exact ⟨v, by rw [show o + 1 + j = o + (j + 1) by omega]; exact h1, h2⟩)⟩
theorem IRows.get {F : Fz} {b sz : Nat} : ∀ {rs : List (List Im)} {o : Nat}, IRows F b sz o rs → ∀ i r, rs[i]? = some r → r.length = sz ∧ ICells F b (o + i * sz) r
 | [], _, _, i, r, hr => by simp at hr
 | c :: cs, o, e, 0, r, hr => by
  simp only [IRows] at e
  simp at hr
  subst hr
  exact ⟨e.1, by simpa using e.2.1⟩
 | c :: cs, o, e, i + 1, r, hr => by
  simp only [IRows] at e
  obtain ⟨h1, h2⟩ := IRows.get e.2.2 i r (by simpa using hr)
  exact ⟨h1, by rw [show o + (i + 1) * sz = o + sz + i * sz by rw [Nat.add_mul]; omega]; exact h2⟩
theorem IRows.mk {F : Fz} {b sz : Nat} : ∀ {rs : List (List Im)} {o : Nat}, (∀ i r, rs[i]? = some r → r.length = sz ∧ ICells F b (o + i * sz) r) → IRows F b sz o rs
 | [], _, _ => by simp [IRows]
 | c :: cs, o, h => by
  simp only [IRows]
  have h0 := h 0 c (by simp)
  exact ⟨h0.1, by simpa using h0.2, IRows.mk (fun i r hr => by
   obtain ⟨h1, h2⟩ := h (i + 1) r (by simpa using hr)
   exact ⟨h1, by rw [show o + sz + i * sz = o + (i + 1) * sz by rw [Nat.add_mul]; omega]; exact h2⟩)⟩

inductive PV where
 | im (x : Im)
 | full (rows : List (List Im))
 | agg (cs : List PV)
 | tup (vs : List PV)
 | ms (d j n : Nat)
 | ptr (d j off : Nat)
 | rptr (d j n i off : Nat)
 | iptr (cs : List Im)
 | map (d j : Nat)
 | fn (f : FuncId) (cap : List PV)
 | nilp
 | nils
 | abool
 | any
 | bs (d j n : Nat)
 | vs (d j o n g : Nat)
 | vp (d j i g : Nat)
 deriving Inhabited

inductive AObj where
 | box (cs : List PV)
 | row (t sz : Nat) (rows : List (List Im)) (fz : Nat)
 | map (es : List (List Im × Im))
 | dead
 | vec (t g : Nat) (cs : List PV)
 deriving Inhabited

abbrev Frs := List (List AObj)
abbrev Bnd := Option Nat × Nat
abbrev Bns := List (List Bnd)
def fget {α : Type} : List (List α) → Nat → Nat → Option α
 | [], _, _ => none
 | f :: _, 0, j => f[j]?
 | _ :: fr, d + 1, j => fget fr d j
def fset {α : Type} : List (List α) → Nat → Nat → α → List (List α)
 | [], _, _, _ => []
 | f :: fr, 0, j, x => f.set j x :: fr
 | f :: fr, d + 1, j, x => f :: fset fr d j x
abbrev look (fr : Frs) (d j : Nat) : Option AObj := fget fr d j
abbrev bnd (bs : Bns) (d j : Nat) : Option Bnd := fget bs d j
@[simp] theorem look_succ {α : Type} (f : List α) (fr : List (List α)) (d j : Nat) : fget (f :: fr) (d + 1) j = fget fr d j := rfl
@[simp] theorem look_zero {α : Type} (f : List α) (fr : List (List α)) (j : Nat) : fget (f :: fr) 0 j = f[j]? := rfl
theorem bnd_succ (f : List Bnd) (fr : Bns) (d j : Nat) : bnd (f :: fr) (d + 1) j = bnd fr d j := rfl
theorem bnd_zero (f : List Bnd) (fr : Bns) (j : Nat) : bnd (f :: fr) 0 j = f[j]? := rfl
theorem fget_fset {α : Type} : ∀ (fr : List (List α)) (d j d' j' : Nat) (x : α), fget (fset fr d j x) d' j' = if d' = d ∧ j' = j then (fget fr d j).map (fun _ => x) else fget fr d' j'
 | [], d, j, d', j', x => by simp [fset, fget]
 | f :: fr, 0, j, 0, j', x => by
  simp only [fset, fget, List.getElem?_set]
  by_cases h : j = j'
  ·subst h
   by_cases h2 : j < f.length
   ·simp [h2]
   ·simp [h2, List.getElem?_eq_none (Nat.le_of_not_lt h2)]
  ·rw [if_neg h, if_neg (fun k => h k.2.symm)]
 | f :: fr, 0, j, d' + 1, j', x => by simp [fset, fget]
 | f :: fr, d + 1, j, 0, j', x => by simp [fset, fget]
 | f :: fr, d + 1, j, d' + 1, j', x => by simp [fset, fget, fget_fset fr d j d' j' x]
theorem fset_shape {α : Type} : ∀ (fr : List (List α)) (d j : Nat) (x : α), (fset fr d j x).map List.length = fr.map List.length
 | [], d, j, x => rfl
 | f :: fr, 0, j, x => by simp [fset]
 | f :: fr, d + 1, j, x => by simp [fset, fset_shape fr d j x]
theorem fget_drop {α : Type} : ∀ (fr : List (List α)) (d e j : Nat), fget (fr.drop d) e j = fget fr (d + e) j
 | [], d, e, j => by simp [fget]
 | f :: fr, 0, e, j => by simp
 | f :: fr, d + 1, e, j => by rw [List.drop_succ_cons, fget_drop fr d e j, show d + 1 + e = (d + e) + 1 by omega, look_succ]

mutual
def VRel (F : Fz) (bs : Bns) (fr : Frs) : PV → Value → Prop
 | .im x, v => IRel F x v
 | .full rows, v => ∃ A, v = .slice A rows.length rows.length ∧ (rows ≠ [] → ∃ b o, A = some ⟨b, o, none⟩ ∧ ∃ sz, IRows F b sz o rows)
 | .agg cs, v => ∃ vs, v = .agg vs ∧ VRels F bs fr cs vs.toList
 | .tup cs, v => ∃ vs, v = .tuple vs ∧ VRels F bs fr cs vs.toList
 | .ms d j n, v => ∃ A c, v = .slice A n c ∧ n ≤ c ∧ ∃ t sz rows fz a, look fr d j = some (.row t sz rows fz) ∧ bnd bs d j = some a ∧ n ≤ rows.length ∧ (rows.length = n → A = a.1.map (fun b => ⟨b, 0, none⟩) ∧ c = a.2)
 | .ptr d j off, v => ∃ b k cs, look fr d j = some (.box cs) ∧ bnd bs d j = some (some b, k) ∧ v = .pointer (some ⟨b, off, none⟩)
 | .rptr d j n i off, v => ∃ p t sz rows fz a, v = .pointer (some p) ∧ p.spot = none ∧ look fr d j = some (.row t sz rows fz) ∧ bnd bs d j = some a ∧ n ≤ rows.length ∧ (rows.length = n → ∃ b, a.1 = some b ∧ p = ⟨b, i * sz + off, none⟩)
 | .iptr cs, v => ∃ b o, v = .pointer (some ⟨b, o, none⟩) ∧ ICells F b o cs
 | .map d j, v => ∃ b k es, look fr d j = some (.map es) ∧ bnd bs d j = some (some b, k) ∧ v = .map (some b)
 | .fn f cap, v => ∃ vs, v = .func (.func f) #[] vs ∧ VRels F bs fr cap vs.toList
 | .nilp, v => v = .pointer none
 | .nils, v => v = .slice none 0 0
 | .abool, v => ∃ b, v = .bool b
 | .any, _ => True
 | .bs d j n, v => ∃ b k cs c, look fr d j = some (.box cs) ∧ bnd bs d j = some (some b, k) ∧ v = .slice (some ⟨b, 0, none⟩) n c ∧ n ≤ c
 | .vs d j o n g, v => ∃ A c, v = .slice A n c ∧ n ≤ c ∧ ∃ t g' cs a, look fr d j = some (.vec t g' cs) ∧ bnd bs d j = some a ∧ g ≤ g' ∧ (g = g' → o + n ≤ cs.length ∧ c + o = a.2 ∧ (0 < c → A = a.1.map (fun b => ⟨b, o, none⟩)))
 | .vp d j i g, v => ∃ p t g' cs a, v = .pointer (some p) ∧ p.spot = none ∧ look fr d j = some (.vec t g' cs) ∧ bnd bs d j = some a ∧ g ≤ g' ∧ (g = g' → i < cs.length ∧ ∃ b, a.1 = some b ∧ p = ⟨b, i, none⟩)
def VRels (F : Fz) (bs : Bns) (fr : Frs) : List PV → List Value → Prop
 | [], vs => vs = []
 | c :: cs, vs => ∃ v vs', vs = v :: vs' ∧ VRel F bs fr c v ∧ VRels F bs fr cs vs'
end

def AObj.becomes (o o' : AObj) (a a' : Bnd) : Prop :=
 match o, o' with
 | .box cs, .box cs' => cs'.length = cs.length ∧ a' = a
 | .row t sz rows _, .row t' sz' rows' _ => t' = t ∧ sz' = sz ∧ rows.length ≤ rows'.length ∧ (rows'.length = rows.length → a' = a)
 | .map _, .map _ => a' = a
 | .dead, _ => True
 | .vec t g cs, .vec t' g' cs' => t' = t ∧ g ≤ g' ∧ (g = g' → cs.length ≤ cs'.length ∧ a' = a)
 | _, _ => False
def Evolve (bs : Bns) (fr : Frs) (bs' : Bns) (fr' : Frs) : Prop :=
 ∀ d j o a, look fr d j = some o → bnd bs d j = some a → ∃ o' a', look fr' d j = some o' ∧ bnd bs' d j = some a' ∧ o.becomes o' a a'
theorem AObj.becomes_refl (o : AObj) (a : Bnd) : o.becomes o a a := by cases o <;> simp [AObj.becomes]
theorem AObj.becomes_trans {o o' o'' : AObj} {a a' a'' : Bnd} (h : o.becomes o' a a') (k : o'.becomes o'' a' a'') : o.becomes o'' a a'' := by
 cases o <;> cases o' <;> cases o'' <;> simp only [AObj.becomes] at h k ⊢
 ·exact ⟨by omega, k.2.trans h.2⟩
 ·obtain ⟨h0, h1, h2, h3⟩ := h
  obtain ⟨k0, k1, k2, k3⟩ := k
  exact ⟨k0.trans h0, k1.trans h1, by omega, fun e => by rw [k3 (by omega), h3 (by omega)]⟩
 ·exact k.trans h
 ·obtain ⟨h0, h1, h2⟩ := h
  obtain ⟨k0, k1, k2⟩ := k
  refine ⟨k0.trans h0, by omega, fun e => ?_⟩
  obtain ⟨h3, h4⟩ := h2 (by omega)
  obtain ⟨k3, k4⟩ := k2 (by omega)
  exact ⟨by omega, k4.trans h4⟩
theorem Evolve.refl (bs : Bns) (fr : Frs) : Evolve bs fr bs fr := fun _ _ o a h k => ⟨o, a, h, k, o.becomes_refl a⟩
theorem Evolve.trans {bs bs' bs'' : Bns} {fr fr' fr'' : Frs} (h : Evolve bs fr bs' fr') (k : Evolve bs' fr' bs'' fr'') : Evolve bs fr bs'' fr'' := fun d j o a h1 h2 => by
 obtain ⟨o', a', h3, h4, h5⟩ := h d j o a h1 h2
 obtain ⟨o'', a'', h6, h7, h8⟩ := k d j o' a' h3 h4
 exact ⟨o'', a'', h6, h7, AObj.becomes_trans h5 h8⟩
theorem Evolve.tail {b b' : List Bnd} {f f' : List AObj} {bs bs' : Bns} {fr fr' : Frs} (h : Evolve (b :: bs) (f :: fr) (b' :: bs') (f' :: fr')) : Evolve bs fr bs' fr' := fun d j o a h1 h2 => by
 obtain ⟨o', a', h3, h4, h5⟩ := h (d + 1) j o a (by simpa using h1) (by simpa using h2)
 exact ⟨o', a', by simpa using h3, by simpa using h4, h5⟩

mutual
theorem VRel.move {F F' : Fz} {bs bs' : Bns} {fr fr' : Frs} (hF : F.le F') (hE : Evolve bs fr bs' fr') : ∀ {x : PV} {v : Value}, VRel F bs fr x v → VRel F' bs' fr' x v
 | .im x, v, h => by simp only [VRel] at h ⊢; exact h.mono hF
 | .full rows, v, h => by
  simp only [VRel] at h ⊢
  obtain ⟨A, h1, h2⟩ := h
  exact ⟨A, h1, fun hn => let ⟨b, o, h3, sz, h4⟩ := h2 hn; ⟨b, o, h3, sz, h4.mono hF⟩⟩
 | .agg cs, v, h => by
  simp only [VRel] at h ⊢
  obtain ⟨vs, h1, h2⟩ := h
  exact ⟨vs, h1, VRels.move hF hE h2⟩
 | .tup cs, v, h => by
  simp only [VRel] at h ⊢
  obtain ⟨vs, h1, h2⟩ := h
  exact ⟨vs, h1, VRels.move hF hE h2⟩
 | .ms d j n, v, h => by
  simp only [VRel] at h ⊢
  obtain ⟨A, c, h1, h2, t, sz, rows, fz, a, h3, h4, h5, h6⟩ := h
  obtain ⟨o', a', k1, k2, k3⟩ := hE d j _ _ h3 h4
  cases o' with
  | row t' sz' rows' fz' =>
   simp only [AObj.becomes] at k3
   obtain ⟨rfl, rfl, k4, k5⟩ := k3
   exact ⟨A, c, h1, h2, t', sz', rows', fz', a', k1, k2, by omega, fun e => by rw [k5 (by omega)]; exact h6 (by omega)⟩
  | _ => simp [AObj.becomes] at k3
 | .ptr d j off, v, h => by
  simp only [VRel] at h ⊢
  obtain ⟨b, k, cs, h1, h2, h3⟩ := h
  obtain ⟨o', a', k1, k2, k3⟩ := hE d j _ _ h1 h2
  cases o' with
  | box cs' =>
   simp only [AObj.becomes] at k3
   obtain ⟨_, rfl⟩ := k3
   exact ⟨b, k, cs', k1, k2, h3⟩
  | _ => simp [AObj.becomes] at k3
 | .rptr d j n i off, v, h => by
  simp only [VRel] at h ⊢
  obtain ⟨p, t, sz, rows, fz, a, h0, h1, h3, h4, h5, h6⟩ := h
  obtain ⟨o', a', k1, k2, k3⟩ := hE d j _ _ h3 h4
  cases o' with
  | row t' sz' rows' fz' =>
   simp only [AObj.becomes] at k3
   obtain ⟨rfl, rfl, k4, k5⟩ := k3
   exact ⟨p, t', sz', rows', fz', a', h0, h1, k1, k2, by omega, fun e => by rw [k5 (by omega)]; exact h6 (by omega)⟩
  | _ => simp [AObj.becomes] at k3
 | .iptr cs, v, h => by
  simp only [VRel] at h ⊢
  obtain ⟨b, o, h1, h2⟩ := h
  exact ⟨b, o, h1, h2.mono hF⟩
 | .map d j, v, h => by
  simp only [VRel] at h ⊢
  obtain ⟨b, k, es, h1, h2, h3⟩ := h
  obtain ⟨o', a', k1, k2, k3⟩ := hE d j _ _ h1 h2
  cases o' with
  | map es' =>
   simp only [AObj.becomes] at k3
   subst k3
   exact ⟨b, k, es', k1, k2, h3⟩
  | _ => simp [AObj.becomes] at k3
 | .fn f cap, v, h => by
  simp only [VRel] at h ⊢
  obtain ⟨vs, h1, h2⟩ := h
  exact ⟨vs, h1, VRels.move hF hE h2⟩
 | .nilp, v, h => by simpa only [VRel] using h
 | .nils, v, h => by simpa only [VRel] using h
 | .abool, v, h => by simpa only [VRel] using h
 | .any, v, h => by simp only [VRel]
 | .bs d j n, v, h => by
  simp only [VRel] at h ⊢
  obtain ⟨b, k, cs, c, h1, h2, h3⟩ := h
  obtain ⟨o', a', k1, k2, k3⟩ := hE d j _ _ h1 h2
  cases o' with
  | box cs' =>
   simp only [AObj.becomes] at k3
   obtain ⟨_, rfl⟩ := k3
   exact ⟨b, k, cs', c, k1, k2, h3⟩
  | _ => simp [AObj.becomes] at k3
 | .vs d j o n g, v, h => by
  simp only [VRel] at h ⊢
  obtain ⟨A, c, h1, h2, t, g1, cs, a, h3, h4, h5, h6⟩ := h
  obtain ⟨o', a', k1, k2, k3⟩ := hE d j _ _ h3 h4
  cases o' with
  | vec t' g' cs' =>
   simp only [AObj.becomes] at k3
   obtain ⟨rfl, k4, k5⟩ := k3
   refine ⟨A, c, h1, h2, t', g', cs', a', k1, k2, by omega, fun e => ?_⟩
   obtain ⟨k6, rfl⟩ := k5 (by omega)
   obtain ⟨h7, h8⟩ := h6 (by omega)
   exact ⟨by omega, h8⟩
  | _ => simp [AObj.becomes] at k3
 | .vp d j i g, v, h => by
  simp only [VRel] at h ⊢
  obtain ⟨p, t, g1, cs, a, h1, h2, h3, h4, h5, h6⟩ := h
  obtain ⟨o', a', k1, k2, k3⟩ := hE d j _ _ h3 h4
  cases o' with
  | vec t' g' cs' =>
   simp only [AObj.becomes] at k3
   obtain ⟨rfl, k4, k5⟩ := k3
   refine ⟨p, t', g', cs', a', h1, h2, k1, k2, by omega, fun e => ?_⟩
   obtain ⟨k6, rfl⟩ := k5 (by omega)
   obtain ⟨h7, h8⟩ := h6 (by omega)
   exact ⟨by omega, h8⟩
  | _ => simp [AObj.becomes] at k3
theorem VRels.move {F F' : Fz} {bs bs' : Bns} {fr fr' : Frs} (hF : F.le F') (hE : Evolve bs fr bs' fr') : ∀ {xs : List PV} {vs : List Value}, VRels F bs fr xs vs → VRels F' bs' fr' xs vs
 | [], vs, h => by simpa only [VRels] using h
 | x :: xs, vs, h => by
  simp only [VRels] at h ⊢
  obtain ⟨v, vs', h1, h2, h3⟩ := h
  exact ⟨v, vs', h1, VRel.move hF hE h2, VRels.move hF hE h3⟩
end

mutual
def PV.up : PV → PV
 | .agg cs => .agg (ups cs)
 | .tup cs => .tup (ups cs)
 | .ms d j n => .ms (d + 1) j n
 | .ptr d j off => .ptr (d + 1) j off
 | .bs d j n => .bs (d + 1) j n
 | .vs d j o n g => .vs (d + 1) j o n g
 | .vp d j i g => .vp (d + 1) j i g
 | .rptr d j n i off => .rptr (d + 1) j n i off
 | .map d j => .map (d + 1) j
 | .fn f cap => .fn f (ups cap)
 | x => x
def ups : List PV → List PV
 | [] => []
 | x :: xs => x.up :: ups xs
end
mutual
def PV.down : PV → Option PV
 | .agg cs => (downs cs).map .agg
 | .tup cs => (downs cs).map .tup
 | .ms (d + 1) j n => some (.ms d j n)
 | .ptr (d + 1) j off => some (.ptr d j off)
 | .bs (d + 1) j n => some (.bs d j n)
 | .vs (d + 1) j o n g => some (.vs d j o n g)
 | .vp (d + 1) j i g => some (.vp d j i g)
 | .rptr (d + 1) j n i off => some (.rptr d j n i off)
 | .map (d + 1) j => some (.map d j)
 | .fn f cap => (downs cap).map (.fn f)
 | .ms 0 _ _ => none
 | .ptr 0 _ _ => none
 | .bs 0 _ _ => none
 | .vs 0 _ _ _ _ => none
 | .vp 0 _ _ _ => none
 | .rptr 0 _ _ _ _ => none
 | .map 0 _ => none
 | .im x => some (.im x)
 | .full x => some (.full x)
 | .iptr x => some (.iptr x)
 | .nilp => some .nilp
 | .nils => some .nils
 | .abool => some .abool
 | .any => some .any
def downs : List PV → Option (List PV)
 | [] => some []
 | x :: xs => match x.down, downs xs with
  | some y, some ys => some (y :: ys)
  | _, _ => none
end

mutual
theorem VRel.up {F : Fz} {b : List Bnd} {f : List AObj} {bs : Bns} {fr : Frs} : ∀ {x : PV} {v : Value}, VRel F bs fr x v → VRel F (b :: bs) (f :: fr) x.up v
 | .im x, v, h => by simpa only [VRel, PV.up] using h
 | .full rows, v, h => by simpa only [VRel, PV.up] using h
 | .agg cs, v, h => by
  simp only [VRel, PV.up] at h ⊢
  obtain ⟨vs, h1, h2⟩ := h
  exact ⟨vs, h1, VRels.up h2⟩
 | .tup cs, v, h => by
  simp only [VRel, PV.up] at h ⊢
  obtain ⟨vs, h1, h2⟩ := h
  exact ⟨vs, h1, VRels.up h2⟩
 | .ms d j n, v, h => by simpa only [VRel, PV.up, look_succ, bnd_succ] using h
 | .ptr d j off, v, h => by simpa only [VRel, PV.up, look_succ, bnd_succ] using h
 | .bs d j n, v, h => by simpa only [VRel, PV.up, look_succ, bnd_succ] using h
 | .vs d j o n g, v, h => by simpa only [VRel, PV.up, look_succ, bnd_succ] using h
 | .vp d j i g, v, h => by simpa only [VRel, PV.up, look_succ, bnd_succ] using h
 | .rptr d j n i off, v, h => by simpa only [VRel, PV.up, look_succ, bnd_succ] using h
 | .iptr cs, v, h => by simpa only [VRel, PV.up] using h
 | .map d j, v, h => by simpa only [VRel, PV.up, look_succ, bnd_succ] using h
 | .fn f cap, v, h => by
  simp only [VRel, PV.up] at h ⊢
  obtain ⟨vs, h1, h2⟩ := h
  exact ⟨vs, h1, VRels.up h2⟩
 | .nilp, v, h => by simpa only [VRel, PV.up] using h
 | .nils, v, h => by simpa only [VRel, PV.up] using h
 | .abool, v, h => by simpa only [VRel, PV.up] using h
 | .any, v, h => by simp only [VRel, PV.up]
theorem VRels.up {F : Fz} {b : List Bnd} {f : List AObj} {bs : Bns} {fr : Frs} : ∀ {xs : List PV} {vs : List Value}, VRels F bs fr xs vs → VRels F (b :: bs) (f :: fr) (ups xs) vs
 | [], vs, h => by simpa only [VRels, ups] using h
 | x :: xs, vs, h => by
  simp only [VRels, ups] at h ⊢
  obtain ⟨v, vs', h1, h2, h3⟩ := h
  exact ⟨v, vs', h1, VRel.up h2, VRels.up h3⟩
end
mutual
theorem VRel.down {F : Fz} {b : List Bnd} {f : List AObj} {bs : Bns} {fr : Frs} : ∀ {x y : PV} {v : Value}, x.down = some y → VRel F (b :: bs) (f :: fr) x v → VRel F bs fr y v
 | .im x, y, v, hd, h => by simp only [PV.down, Option.some.injEq] at hd; subst hd; simpa only [VRel] using h
 | .full rows, y, v, hd, h => by simp only [PV.down, Option.some.injEq] at hd; subst hd; simpa only [VRel] using h
 | .agg cs, y, v, hd, h => by
  simp only [PV.down, Option.map_eq_some_iff] at hd
  obtain ⟨ys, hy, rfl⟩ := hd
  simp only [VRel] at h ⊢
  obtain ⟨vs, h1, h2⟩ := h
  exact ⟨vs, h1, VRels.down hy h2⟩
 | .tup cs, y, v, hd, h => by
  simp only [PV.down, Option.map_eq_some_iff] at hd
  obtain ⟨ys, hy, rfl⟩ := hd
  simp only [VRel] at h ⊢
  obtain ⟨vs, h1, h2⟩ := h
  exact ⟨vs, h1, VRels.down hy h2⟩
 | .ms (d + 1) j n, y, v, hd, h => by simp only [PV.down, Option.some.injEq] at hd; subst hd; simpa only [VRel, look_succ, bnd_succ] using h
 | .bs (d + 1) j n, y, v, hd, h => by simp only [PV.down, Option.some.injEq] at hd; subst hd; simpa only [VRel, look_succ, bnd_succ] using h
 | .bs 0 j n, y, v, hd, h => by simp [PV.down] at hd
 | .vs (d + 1) j o n g, y, v, hd, h => by simp only [PV.down, Option.some.injEq] at hd; subst hd; simpa only [VRel, look_succ, bnd_succ] using h
 | .vs 0 j o n g, y, v, hd, h => by simp [PV.down] at hd
 | .vp (d + 1) j i g, y, v, hd, h => by simp only [PV.down, Option.some.injEq] at hd; subst hd; simpa only [VRel, look_succ, bnd_succ] using h
 | .vp 0 j i g, y, v, hd, h => by simp [PV.down] at hd
 | .ptr (d + 1) j off, y, v, hd, h => by simp only [PV.down, Option.some.injEq] at hd; subst hd; simpa only [VRel, look_succ, bnd_succ] using h
 | .rptr (d + 1) j n i off, y, v, hd, h => by simp only [PV.down, Option.some.injEq] at hd; subst hd; simpa only [VRel, look_succ, bnd_succ] using h
 | .map (d + 1) j, y, v, hd, h => by simp only [PV.down, Option.some.injEq] at hd; subst hd; simpa only [VRel, look_succ, bnd_succ] using h
 | .ms 0 j n, y, v, hd, h => by simp [PV.down] at hd
 | .ptr 0 j off, y, v, hd, h => by simp [PV.down] at hd
 | .rptr 0 j n i off, y, v, hd, h => by simp [PV.down] at hd
 | .map 0 j, y, v, hd, h => by simp [PV.down] at hd
 | .iptr cs, y, v, hd, h => by simp only [PV.down, Option.some.injEq] at hd; subst hd; simpa only [VRel] using h
 | .fn g cap, y, v, hd, h => by
  simp only [PV.down, Option.map_eq_some_iff] at hd
  obtain ⟨ys, hy, rfl⟩ := hd
  simp only [VRel] at h ⊢
  obtain ⟨vs, h1, h2⟩ := h
  exact ⟨vs, h1, VRels.down hy h2⟩
 | .nilp, y, v, hd, h => by simp only [PV.down, Option.some.injEq] at hd; subst hd; simpa only [VRel] using h
 | .nils, y, v, hd, h => by simp only [PV.down, Option.some.injEq] at hd; subst hd; simpa only [VRel] using h
 | .abool, y, v, hd, h => by simp only [PV.down, Option.some.injEq] at hd; subst hd; simpa only [VRel] using h
 | .any, y, v, hd, h => by simp only [PV.down, Option.some.injEq] at hd; subst hd; simp only [VRel]
theorem VRels.down {F : Fz} {b : List Bnd} {f : List AObj} {bs : Bns} {fr : Frs} : ∀ {xs ys : List PV} {vs : List Value}, downs xs = some ys → VRels F (b :: bs) (f :: fr) xs vs → VRels F bs fr ys vs
 | [], ys, vs, hd, h => by simp only [downs, Option.some.injEq] at hd; subst hd; simpa only [VRels] using h
 | x :: xs, ys, vs, hd, h => by
  simp only [downs] at hd
  split at hd
  ·rename_i y ys' hy hys
   simp only [Option.some.injEq] at hd
   subst hd
   simp only [VRels] at h ⊢
   obtain ⟨v, vs', h1, h2, h3⟩ := h
   exact ⟨v, vs', h1, VRel.down hy h2, VRels.down hys h3⟩
  ·simp at hd
end
end Go.Proofs.YtkjfdacjjogpcaaPi

