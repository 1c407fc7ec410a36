/- The plain operations of the abstract program logic behind one name: append, len, slices, structs, and the list of them all. No Go text in it. -/
import Derived.Test.YtkjfdacjjogpcaaPiVec
import Derived.Test.YtkjfdacjjogpcaaPiOp
set_option linter.unusedVariables false
set_option linter.unusedSimpArgs false
namespace Go.Proofs.YtkjfdacjjogpcaaPi
variable {P : Program}

/-! ### append -/
def appendMs (P : Program) (st : ASt) (T : TypeId) (d j n : Nat) (xs : List (List Im)) : Option (PV × ASt) :=
 match look st.fr d j, elemT P T with
 | some (.row t sz rows fz), some e => match sizeT P e, bytesT P e, zeroT P e with
  | some sz', some by_, some z => if e = t ∧ sz' = sz ∧ rows.length = n ∧ 0 < by_ ∧ z.length = sz ∧ (n + xs.length) * by_ ≤ 140737488355328 ∧ xs.all (fun r => r.length == sz) = true then
    some (.ms d j (n + xs.length), st.setFr (fset st.fr d j (.row t sz (rows ++ xs) fz))) else none
  | _, _, _ => none
 | _, _ => none
def appendVs (P : Program) (st : ASt) (T : TypeId) (d j o n g : Nat) (ys : List PV) : Option (PV × ASt) :=
 match look st.fr d j, elemT P T with
 | some (.vec t g' cs), some e => match sizeT P e, bytesT P e, zeroT P e with
  | some 1, some by_, some [_] => if o = 0 ∧ e = t ∧ g = g' ∧ 0 < by_ ∧ (n + ys.length) * by_ ≤ 140737488355328 then
    (downsN d ys).map fun zs => (.vs d j 0 (n + ys.length) (g + 1), st.setFr (fset st.fr d j (.vec t (g + 1) (cs.take n ++ zs)))) else none
  | _, _, _ => none
 | _, _ => none
def appendO (P : Program) (st : ASt) (T : TypeId) (s x : PV) : Option (PV × ASt) :=
 match rowsPV st.fr x with
 | some xs => (match s with
  | .ms d j n => appendMs P st T d j n xs
  | .nils => (match elemT P T with
   | some e => (match sizeT P e with
    | some sz => if 0 < sz then appendMs P (st.push (.row e sz [] 0)) T 0 st.loc.length 0 xs else none
    | none => none)
   | none => none)
  | _ => none)
 | none => none
def appendV (P : Program) (st : ASt) (T : TypeId) (s x : PV) : Option (PV × ASt) :=
 match s with
 | .vs d j o n g => (cellsOfV st.fr x).bind (appendVs P st T d j o n g)
 | s => appendO P st T s x
theorem appendVs_ok {F : Fz} {bs : Bns} {st st' : ASt} {w : World} {T : TypeId} {d j o n g : Nat} {ys : List PV} {z : PV} {v x : Value} (ty : TypeId) (hm : MRel F bs st.fr w) (hs : VRel F bs st.fr (.vs d j o n g) v) (hx : VSrc F bs st.fr w x ys) (hk : appendVs P st T d j o n g ys = some (z, st')) :
  ∃ v' w' F' bs', (Builtin.append_ #[T, T] ty #[v, x]).run P w = .ok v' w' ∧ MRel F' bs' st'.fr w' ∧ CStep F bs st.fr w F' bs' st'.fr w' ∧ VRel F' bs' st'.fr z v' ∧ st'.env = st.env := by
 unfold appendVs at hk
 split at hk
 ·rename_i t g' cs e hl he
  split at hk
  ·rename_i by_ zv hsz hby hz
   split at hk
   ·rename_i hc
    obtain ⟨rfl, rfl, rfl, hb, hbound⟩ := hc
    simp only [Option.map_eq_some_iff, Prod.mk.injEq] at hk
    obtain ⟨zs, hzs, rfl, rfl⟩ := hk
    obtain ⟨v', w', F', bs', h1, h2, h3, h4⟩ := append_vs_ok (P := P) hm ty hs hl he hsz hby hz hb hx hzs hbound
    rw [ASt.setFr_fset]
    exact ⟨v', w', F', bs', h1, h2, h3, h4, ASt.setFr_env _ _⟩
   ·simp at hk
  ·simp at hk
 ·simp at hk
theorem appendMs_ok {F : Fz} {bs : Bns} {st st' : ASt} {w : World} {T : TypeId} {d j n : Nat} {xs : List (List Im)} {z : PV} {v x : Value} (ty : TypeId) (hm : MRel F bs st.fr w) (hs : VRel F bs st.fr (.ms d j n) v) (hx : ∀ sz, (∀ r ∈ xs, r.length = sz) → SrcOk F w x sz xs) (hk : appendMs P st T d j n xs = some (z, st')) :
  ∃ v' w' F' bs', (Builtin.append_ #[T, T] ty #[v, x]).run P w = .ok v' w' ∧ MRel F' bs' st'.fr w' ∧ CStep F bs st.fr w F' bs' st'.fr w' ∧ VRel F' bs' st'.fr z v' ∧ st'.env = st.env := by
 unfold appendMs at hk
 split at hk
 ·rename_i t sz rows fz e hl he
  split at hk
  ·rename_i sz' by_ zs hsz hby hz
   split at hk
   ·rename_i hc
    obtain ⟨rfl, rfl, hn, hb, hzl, hbound, hall⟩ := hc
    simp only [Option.some.injEq, Prod.mk.injEq] at hk
    obtain ⟨rfl, rfl⟩ := hk
    have hr : ∀ r ∈ xs, r.length = sz' := fun r hr => by simpa using List.all_eq_true.1 hall r hr
    obtain ⟨v', w', F', bs', h1, h2, h3, h4⟩ := append_ms_ok (P := P) hm ty hs hl hn he hsz hby hz hzl hb (hx sz' hr) hbound
    rw [ASt.setFr_fset]
    exact ⟨v', w', F', bs', h1, h2, h3, h4, ASt.setFr_env _ _⟩
   ·simp at hk
  ·simp at hk
 ·simp at hk
theorem appendO_ok {n : Nat} {F : Fz} {bs : Bns} {st st' : ASt} {a : Act} {w : World} {T : TypeId} {s x z : PV} {vs vx : Value} (ty : TypeId) (h : ARel n F bs st a w) (hs : VRel F bs st.fr s vs) (hx : VRel F bs st.fr x vx) (hk : appendO P st T s x = some (z, st')) :
  ∃ v' w' F' bs', (Builtin.append_ #[T, T] ty #[vs, vx]).run P w = .ok v' w' ∧ MRel F' bs' st'.fr w' ∧ CStep F bs st.fr w F' bs' st'.fr w' ∧ VRel F' bs' st'.fr z v' ∧ st'.env = st.env := by
 unfold appendO at hk
 split at hk
 ·rename_i xs hr
  split at hk
  ·exact appendMs_ok ty h.mem hs (fun sz hsz => src_ok h.mem hr hx hsz) hk
  ·split at hk
   ·rename_i e he
    split at hk
    ·rename_i sz hsz
     split at hk
     ·rename_i hpos
      simp only [VRel] at hs
      subst hs
      obtain ⟨bs', h1, h2, h3⟩ := pushNil_ok h e sz hpos
      obtain ⟨v', w', F', bs2, q1, q2, q3, q4, q5⟩ := appendMs_ok ty h1 h3 (fun sz hsz => src_ok h.mem hr hx hsz) hk
      exact ⟨v', w', F', bs2, q1, q2, h2.trans q3, q4, q5⟩
     ·simp at hk
    ·simp at hk
   ·simp at hk
  ·simp at hk
 ·simp at hk
theorem appendV_ok {n : Nat} {F : Fz} {bs : Bns} {st st' : ASt} {a : Act} {w : World} {T : TypeId} {s x z : PV} {vs vx : Value} (ty : TypeId) (h : ARel n F bs st a w) (hs : VRel F bs st.fr s vs) (hx : VRel F bs st.fr x vx) (hk : appendV P st T s x = some (z, st')) :
  ∃ v' w' F' bs', (Builtin.append_ #[T, T] ty #[vs, vx]).run P w = .ok v' w' ∧ MRel F' bs' st'.fr w' ∧ CStep F bs st.fr w F' bs' st'.fr w' ∧ VRel F' bs' st'.fr z v' ∧ st'.env = st.env := by
 unfold appendV at hk
 split at hk
 ·simp only [Option.bind_eq_some_iff] at hk
  obtain ⟨ys, h1, h2⟩ := hk
  exact appendVs_ok ty h.mem hs (vsrc_ok h.mem h1 hx) h2
 ·exact appendO_ok ty h hs hx hk

/-! ### len, min, max -/
def lenPV (P : Program) (T : TypeId) (x : PV) : Option PV :=
 match x with
 | .im (.str s) => if stringT P T then some (.im (.int .i64 s.size)) else none
 | .im (.sl rows) => if sliceT P T then some (.im (.int .i64 rows.length)) else none
 | .full rows => if sliceT P T then some (.im (.int .i64 rows.length)) else none
 | .nils => if sliceT P T then some (.im (.int .i64 0)) else none
 | .ms _ _ n => if sliceT P T then some (.im (.int .i64 n)) else none
 | .bs _ _ n => if sliceT P T then some (.im (.int .i64 n)) else none
 | .vs _ _ _ n _ => if sliceT P T then some (.im (.int .i64 n)) else none
 | _ => none
theorem sliceT_some {t : TypeId} (h : sliceT P t = true) : ∃ e, P.underlying t = some (.slice e) := by
 unfold sliceT at h
 split at h
 ·rename_i e hh; exact ⟨e, hh⟩
 ·simp at h
theorem stringT_some {t : TypeId} (h : stringT P t = true) : P.underlying t = some .string := by
 unfold stringT at h
 split at h
 ·rename_i hh; exact hh
 ·simp at h
theorem len_ok {T : TypeId} {x z : PV} {F : Fz} {bs : Bns} {fr : Frs} {vx : Value} (ty : TypeId) (h : lenPV P T x = some z) (hx : VRel F bs fr x vx) (w : World) : ∃ v, (Builtin.len_ #[T] ty #[vx]).run P w = .ok v w ∧ VRel F bs fr z v := by
 unfold lenPV at h
 split at h
 ·split at h
  ·rename_i ht
   simp only [Option.some.injEq] at h
   subst h
   simp only [VRel, IRel] at hx
   subst hx
   exact ⟨_, by simp [Builtin.len_, run_underlying (stringT_some ht), goInt]; rfl, by simp [VRel, IRel]⟩
  ·simp at h
 ·split at h
  ·rename_i ht
   obtain ⟨e, hu⟩ := sliceT_some ht
   simp only [Option.some.injEq] at h
   subst h
   simp only [VRel, IRel] at hx
   obtain ⟨A, c, rfl, _⟩ := hx
   exact ⟨_, by simp [Builtin.len_, run_underlying hu, goInt]; rfl, by simp [VRel, IRel]⟩
  ·simp at h
 ·split at h
  ·rename_i ht
   obtain ⟨e, hu⟩ := sliceT_some ht
   simp only [Option.some.injEq] at h
   subst h
   simp only [VRel] at hx
   obtain ⟨A, rfl, _⟩ := hx
   exact ⟨_, by simp [Builtin.len_, run_underlying hu, goInt]; rfl, by simp [VRel, IRel]⟩
  ·simp at h
 ·split at h
  ·rename_i ht
   obtain ⟨e, hu⟩ := sliceT_some ht
   simp only [Option.some.injEq] at h
   subst h
   simp only [VRel] at hx
   subst hx
   exact ⟨_, by simp [Builtin.len_, run_underlying hu, goInt]; rfl, by simp [VRel, IRel]⟩
  ·simp at h
 ·split at h
  ·rename_i ht
   obtain ⟨e, hu⟩ := sliceT_some ht
   simp only [Option.some.injEq] at h
   subst h
   simp only [VRel] at hx
   obtain ⟨A, c, rfl, _⟩ := hx
   exact ⟨_, by simp [Builtin.len_, run_underlying hu, goInt]; rfl, by simp [VRel, IRel]⟩
  ·simp at h
 ·split at h
  ·rename_i ht
   obtain ⟨e, hu⟩ := sliceT_some ht
   simp only [Option.some.injEq] at h
   subst h
   simp only [VRel] at hx
   obtain ⟨b, k, cs, c, _, _, rfl, _⟩ := hx
   exact ⟨_, by simp [Builtin.len_, run_underlying hu, goInt]; rfl, by simp [VRel, IRel]⟩
  ·simp at h
 ·split at h
  ·rename_i ht
   obtain ⟨e, hu⟩ := sliceT_some ht
   simp only [Option.some.injEq] at h
   subst h
   simp only [VRel] at hx
   obtain ⟨A, c, rfl, _⟩ := hx
   exact ⟨_, by simp [Builtin.len_, run_underlying hu, goInt]; rfl, by simp [VRel, IRel]⟩
  ·simp at h
 ·simp at h
def min2PV : PV → PV → Option PV
 | .im (.int k a), .im (.int _ b) => some (.im (.int k (if b < a then b else a)))
 | _, _ => none
def max2PV : PV → PV → Option PV
 | .im (.int k a), .im (.int _ b) => some (.im (.int k (if a < b then b else a)))
 | _, _ => none
def foldPV (f : PV → PV → Option PV) : PV → List PV → Option PV
 | x, [] => some x
 | x, y :: ys => (f x y).bind fun z => foldPV f z ys
theorem fold_ok {f : PV → PV → Option PV} {g : Value → Value → Sem Value} {F : Fz} {bs : Bns} {fr : Frs} {w : World} (hfg : ∀ x y z vx vy, f x y = some z → VRel F bs fr x vx → VRel F bs fr y vy → ∃ v, (g vx vy).run P w = .ok v w ∧ VRel F bs fr z v) :
  ∀ {ys : List PV} {vs : List Value} {x z : PV} {vx : Value}, foldPV f x ys = some z → VRel F bs fr x vx → VRels F bs fr ys vs → ∃ v, (vs.foldlM g vx).run P w = .ok v w ∧ VRel F bs fr z v
 | [], vs, x, z, vx, h, hx, hv => by
  simp only [VRels] at hv
  subst hv
  simp only [foldPV, Option.some.injEq] at h
  subst h
  exact ⟨vx, rfl, hx⟩
 | y :: ys, vs, x, z, vx, h, hx, hv => by
  simp only [VRels] at hv
  obtain ⟨v, vs', rfl, h1, h2⟩ := hv
  simp only [foldPV, Option.bind_eq_some_iff] at h
  obtain ⟨u, h3, h4⟩ := h
  obtain ⟨vu, h5, h6⟩ := hfg x y u vx v h3 hx h1
  obtain ⟨vz, h7, h8⟩ := fold_ok hfg h4 h6 h2
  exact ⟨vz, by simp only [List.foldlM_cons, Sem.run_bind, h5, Result.andThen_ok, h7], h8⟩
theorem min2_ok {F : Fz} {bs : Bns} {fr : Frs} {w : World} (x y z : PV) (vx vy : Value) (h : min2PV x y = some z) (hx : VRel F bs fr x vx) (hy : VRel F bs fr y vy) : ∃ v, (Builtin.min2 vx vy).run P w = .ok v w ∧ VRel F bs fr z v := by
 unfold min2PV at h
 split at h
 ·simp only [Option.some.injEq] at h
  subst h
  simp only [VRel, IRel] at hx hy
  subst hx hy
  exact ⟨_, by simp [Builtin.min2]; rfl, by simp [VRel, IRel]⟩
 ·simp at h
theorem max2_ok {F : Fz} {bs : Bns} {fr : Frs} {w : World} (x y z : PV) (vx vy : Value) (h : max2PV x y = some z) (hx : VRel F bs fr x vx) (hy : VRel F bs fr y vy) : ∃ v, (Builtin.max2 vx vy).run P w = .ok v w ∧ VRel F bs fr z v := by
 unfold max2PV at h
 split at h
 ·simp only [Option.some.injEq] at h
  subst h
  simp only [VRel, IRel] at hx hy
  subst hx hy
  exact ⟨_, by simp [Builtin.max2]; rfl, by simp [VRel, IRel]⟩
 ·simp at h

/-! ### slices of slices and strings -/
def boundPV (d : Nat) : Option PV → Option Nat
 | none => some d
 | some (.im (.int _ i)) => if 0 ≤ i then some i.toNat else none
 | _ => none
def szOk (k l : Nat) (rows : List (List Im)) : Prop := l = 0 ∨ rows.all (fun r => r.length == k) = true
instance (k l : Nat) (rows : List (List Im)) : Decidable (szOk k l rows) := inferInstanceAs (Decidable (_ ∨ _))
def slicePV (P : Program) (T : TypeId) (x : PV) (lo hi mx : Option PV) : Option PV :=
 match x with
 | .im (.sl rows) => match elemT P T with
  | some e => match sizeT P e, boundPV 0 lo, boundPV rows.length hi with
   | some k, some l, some h => (match mx with
    | none => if l ≤ h ∧ h ≤ rows.length ∧ szOk k l rows then some (.im (.sl ((rows.take h).drop l))) else none
    | some p => (match hi, boundPV 0 (some p) with
     | some _, some m => if l ≤ h ∧ h = m ∧ m ≤ rows.length ∧ szOk k l rows then some (.full ((rows.take h).drop l)) else none
     | _, _ => none))
   | _, _, _ => none
  | none => none
 | .im (.str s) => if stringT P T then (match boundPV 0 lo, boundPV s.size hi, mx with
   | some l, some h, none => if l ≤ h ∧ h ≤ s.size then some (.im (.str (s.extract l h))) else none
   | _, _, _ => none) else none
 | .vs d j o n g => match elemT P T with
  | some e => (match sizeT P e, boundPV 0 lo, boundPV n hi, mx with
   | some 1, some l, some h, none => if l ≤ h ∧ h ≤ n then some (.vs d j (o + l) (h - l) g) else none
   | _, _, _, _ => none)
  | none => none
 | _ => none
theorem bound_rel {F : Fz} {bs : Bns} {fr : Frs} {b : Option PV} {vb : Option Value} {d k y : Nat} (h : boundPV d b = some k) (hb : match b, vb with | none, none => True | some p, some v => VRel F bs fr p v | _, _ => False) (w : World) (code : BoundsCode) (hk : k ≤ y) :
  match vb with | none => k = d | some v => (Instr.sliceBound v y code).run P w = .ok k w := by
 cases b with
 | none =>
  cases vb with
  | none => simp only [boundPV, Option.some.injEq] at h; exact h.symm
  | some v => exact hb.elim
 | some p =>
  cases vb with
  | none => exact hb.elim
  | some v =>
   simp only at hb ⊢
   unfold boundPV at h
   split at h
   ·rename_i h0; simp at h0
   ·rename_i kk i hp
    cases hp
    simp only [VRel, IRel] at hb
    subst hb
    split at h
    ·rename_i h0
     simp only [Option.some.injEq] at h
     subst h
     have : i ≤ (y : Int) := by omega
     simp [Instr.sliceBound, asIntOf, h0, this]
    ·simp at h
   ·simp at h
def optRel (F : Fz) (bs : Bns) (fr : Frs) : Option PV → Option Value → Prop
 | none, none => True
 | some p, some v => VRel F bs fr p v
 | _, _ => False
theorem bounds_ok {F : Fz} {bs : Bns} {fr : Frs} {w : World} (sl : Bool) (len cap : Nat) {lo hi mx : Option PV} {vlo vhi vmx : Option Value} {l h m : Nat}
  (hl : boundPV 0 lo = some l) (hh : boundPV len hi = some h) (hm : (match mx with | none => some cap | some p => boundPV 0 (some p)) = some m)
  (rl : optRel F bs fr lo vlo) (rh : optRel F bs fr hi vhi) (rm : optRel F bs fr mx vmx) (hnm : mx ≠ none → hi ≠ none) (h1 : l ≤ h) (h2 : h ≤ m) (h3 : m ≤ cap) (h4 : mx = none → h ≤ cap) :
  (Instr.sliceBounds sl len cap vlo vhi vmx).run P w = .ok (l, h, m) w := by
 have hl' := bound_rel (P := P) (F := F) (bs := bs) (fr := fr) (vb := vlo) (y := h) hl (by cases lo <;> cases vlo <;> simp_all [optRel]) w (if vmx.isSome then .slice3C else .sliceB) h1
 have hh' := fun y code hy => bound_rel (P := P) (F := F) (bs := bs) (fr := fr) (vb := vhi) (y := y) hh (by cases hi <;> cases vhi <;> simp_all [optRel]) w code hy
 have lowrun : (match vlo with | some v => Instr.sliceBound v h (if vmx.isSome then .slice3C else .sliceB) | none => pure 0 : Sem Nat).run P w = .ok l w := by
  cases vlo with
  | none => simp only at hl'; subst hl'; rfl
  | some v => exact hl'
 cases mx with
 | none =>
  cases vmx with
  | some v => exact rm.elim
  | none =>
   simp only [Option.some.injEq] at hm
   subst hm
   cases vhi with
   | none =>
    have := hh' cap .sliceB h2
    simp only at this
    subst this
    cases vlo with
    | none => simp only at hl'; subst hl'; simp [Instr.sliceBounds]
    | some v => simp only [Instr.sliceBounds, Sem.run_bind, Sem.run_pure, Result.andThen_ok]; simp only [Option.isSome_none, Option.isSome_some, Bool.false_eq_true, if_false, if_true] at lowrun; simp [lowrun]
   | some v =>
    have := hh' cap (if sl then .sliceAcap else .sliceAlen) h2
    simp only at this
    cases vlo with
    | none => simp only at hl'; subst hl'; simp [Instr.sliceBounds, this]
    | some v => simp only [Option.isSome_none, Option.isSome_some, Bool.false_eq_true, if_false, if_true] at lowrun; simp [Instr.sliceBounds, this, lowrun]
 | some p =>
  cases vmx with
  | none => exact rm.elim
  | some v =>
   have hm' := bound_rel (P := P) (F := F) (bs := bs) (fr := fr) (b := some p) (vb := some v) (d := 0) (k := m) (y := cap) hm rm w (if sl then .slice3Acap else .slice3Alen) h3
   simp only at hm'
   cases hi with
   | none => exact absurd rfl (hnm (by simp))
   | some q =>
    cases vhi with
    | none => exact rh.elim
    | some u =>
     have := hh' m .slice3B h2
     simp only at this
     cases vlo with
     | none => simp only at hl'; subst hl'; simp [Instr.sliceBounds, hm', this]
     | some v => simp only [Option.isSome_none, Option.isSome_some, Bool.false_eq_true, if_false, if_true] at lowrun; simp [Instr.sliceBounds, hm', this, lowrun]
theorem IRows.take {F : Fz} {b sz o : Nat} {rows : List (List Im)} (h : IRows F b sz o rows) (n : Nat) : IRows F b sz o (rows.take n) := IRows.mk (fun i r hr => by
 rw [List.getElem?_take] at hr
 split at hr
 ·exact h.get i r hr
 ·simp at hr)
theorem IRows.drop {F : Fz} {b sz o : Nat} {rows : List (List Im)} (h : IRows F b sz o rows) (n : Nat) : IRows F b sz (o + n * sz) (rows.drop n) := IRows.mk (fun i r hr => by
 rw [List.getElem?_drop] at hr
 have := h.get (n + i) r hr
 rw [Nat.add_assoc, ← Nat.add_mul]
 exact this)
theorem slice_ok {T : TypeId} {x z : PV} {lo hi mx : Option PV} {F : Fz} {bs : Bns} {fr : Frs} {w : World} {vx : Value} {vlo vhi vmx : Option Value} (h : slicePV P T x lo hi mx = some z)
  (hx : VRel F bs fr x vx) (rl : optRel F bs fr lo vlo) (rh : optRel F bs fr hi vhi) (rm : optRel F bs fr mx vmx) : ∃ v, (Instr.sliceAt T vx vlo vhi vmx).run P w = .ok v w ∧ VRel F bs fr z v := by
 unfold slicePV at h
 split at h
 ·rename_i rows
  split at h
  ·rename_i e he
   have hu := elemT_some he
   split at h
   ·rename_i k l hh hk hl hhb
    simp only [VRel, IRel] at hx
    obtain ⟨A, c, rfl, hc, hA⟩ := hx
    have part : ∀ m, l ≤ hh → hh ≤ rows.length → hh ≤ m → szOk k l rows → ((rows.take hh).drop l) ≠ [] → ∃ b o, (if m = l then A else A.map (·.add (l * k))) = some ⟨b, o, none⟩ ∧ ∃ sz, IRows F b sz o ((rows.take hh).drop l) := by
     intro m h1 h2 h4 hs hne
     have hlt : l < hh := by
      rcases Nat.lt_or_ge l hh with h | h
      ·exact h
      ·exact absurd (List.drop_eq_nil_of_le (by simp; omega)) hne
     have hrne : rows ≠ [] := fun e => by subst e; simp at hne
     obtain ⟨b, o, rfl, sz, hr⟩ := hA hrne
     rw [if_neg (by omega)]
     refine ⟨b, o + l * k, by simp [add_none], sz, ?_⟩
     have hlk : l * k = l * sz := by
      rcases hs with h0 | h0
      ·subst h0; simp
      ·obtain ⟨r, rs, rfl⟩ := List.exists_cons_of_ne_nil hrne
       have e1 := hr.len r (by simp)
       have e2 := List.all_eq_true.1 h0 r (by simp)
       simp only [beq_iff_eq] at e2
       rw [← e1, ← e2]
     rw [hlk]
     exact (hr.take hh).drop l
    split at h
    ·have hvm : vmx = none := by cases vmx with | none => rfl | some v => exact rm.elim
     subst hvm
     split at h
     ·rename_i hcond
      simp only [Option.some.injEq] at h
      subst h
      have hb := bounds_ok (P := P) (F := F) (bs := bs) (fr := fr) (w := w) true rows.length c (mx := none) (m := c) hl hhb rfl rl rh rm (fun e => absurd rfl e) hcond.1 (by omega) (Nat.le_refl _) (fun _ => by omega)
      refine ⟨_, by simp [Instr.sliceAt, Instr.slice, run_underlying hu, hb, run_sizeT hk]; rfl, ?_⟩
      simp only [VRel, IRel]
      refine ⟨_, c - l, by simp only [List.length_drop, List.length_take, Nat.min_eq_left hcond.2.1], by simp only [List.length_drop, List.length_take]; omega, fun hne => part c hcond.1 hcond.2.1 (by omega) hcond.2.2 hne⟩
     ·simp at h
    ·rename_i p
     split at h
     ·rename_i q m hm
      split at h
      ·rename_i hcond
       obtain ⟨h1, rfl, h3, h4⟩ := hcond
       simp only [Option.some.injEq] at h
       subst h
       have hb := bounds_ok (P := P) (F := F) (bs := bs) (fr := fr) (w := w) true rows.length c (mx := some p) (m := hh) hl hhb hm rl rh rm (fun _ => by simp) h1 (Nat.le_refl _) (by omega) (fun e => by simp at e)
       refine ⟨_, by simp [Instr.sliceAt, Instr.slice, run_underlying hu, hb, run_sizeT hk]; rfl, ?_⟩
       simp only [VRel]
       refine ⟨_, by simp only [List.length_drop, List.length_take, Nat.min_eq_left h3], fun hne => part hh h1 h3 (Nat.le_refl _) h4 hne⟩
      ·simp at h
     ·simp at h
   ·simp at h
  ·simp at h
 ·split at h
  ·rename_i s ht
   have hu := stringT_some ht
   split at h
   ·rename_i l hh hl hhb
    split at h
    ·rename_i hcond
     simp only [Option.some.injEq] at h
     subst h
     simp only [VRel, IRel] at hx
     subst hx
     have hvm : vmx = none := by cases vmx with | none => rfl | some v => exact rm.elim
     subst hvm
     have hb := bounds_ok (P := P) (F := F) (bs := bs) (fr := fr) (w := w) false s.size s.size (mx := none) (m := s.size) hl hhb rfl rl rh (vmx := none) trivial (fun e => absurd rfl e) hcond.1 hcond.2 (Nat.le_refl _) (fun _ => hcond.2)
     exact ⟨_, by simp [Instr.sliceAt, Instr.slice, run_underlying hu, hb]; rfl, by simp [VRel, IRel]⟩
    ·simp at h
   ·simp at h
  ·simp at h
 ·rename_i d j o n g
  split at h
  ·rename_i e he
   have hu := elemT_some he
   split at h
   ·rename_i l hh hk hl hhb
    split at h
    ·rename_i hcond
     simp only [Option.some.injEq] at h
     subst h
     have hvm : vmx = none := by cases vmx with | none => rfl | some v => exact rm.elim
     subst hvm
     simp only [VRel] at hx
     obtain ⟨A, c, rfl, hc, t, g', cs, a, h3, h4, h5, h6⟩ := hx
     have hb := bounds_ok (P := P) (F := F) (bs := bs) (fr := fr) (w := w) true n c (mx := none) (m := c) hl hhb rfl rl rh (vmx := none) trivial (fun e => absurd rfl e) hcond.1 (by omega) (Nat.le_refl _) (fun _ => by omega)
     refine ⟨_, by simp [Instr.sliceAt, Instr.slice, run_underlying hu, hb, run_sizeT hk]; rfl, ?_⟩
     simp only [VRel]
     refine ⟨_, c - l, rfl, by omega, t, g', cs, a, h3, h4, h5, fun e => ?_⟩
     obtain ⟨h7, h8, h9⟩ := h6 e
     refine ⟨by omega, by omega, fun hpos => ?_⟩
     rw [if_neg (by omega), h9 (by omega)]
     cases a.1 with
     | none => rfl
     | some b => simp [add_none]
    ·simp at h
   ·simp at h
  ·simp at h
 ·simp at h
end Go.Proofs.YtkjfdacjjogpcaaPi

