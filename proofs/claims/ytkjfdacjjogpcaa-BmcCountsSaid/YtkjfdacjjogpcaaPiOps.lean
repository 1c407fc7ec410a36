/- The operations of the abstract program logic, one by one: what each does to values and to a call's own memory, and that the model does the same. No Go text in it. -/
import Derived.Test.YtkjfdacjjogpcaaPiMem
set_option linter.unusedVariables false
set_option linter.unusedSimpArgs false
namespace Go.Proofs.YtkjfdacjjogpcaaPi

/-! ### types -/
def sizeT (P : Program) (t : TypeId) : Option Nat := (P.info? t).map (·.size)
def bytesT (P : Program) (t : TypeId) : Option Nat := (P.info? t).map (·.bytes)
def aggD : TypeDesc → Bool
 | .struct _ | .array _ _ => true
 | _ => false
def aggT (P : Program) (t : TypeId) : Option Bool := (P.underlying t).map aggD
def fieldT (P : Program) (t : TypeId) (f : Nat) : Option (Nat × Nat) :=
 match P.underlying t with
 | some (.struct fs) => match fs[f]? with
  | some x => (sizeT P x.type).map (fun n => (x.offset, n))
  | none => none
 | _ => none
def elemT (P : Program) (t : TypeId) : Option TypeId :=
 match P.underlying t with
 | some (.slice e) => some e
 | _ => none
def arrT (P : Program) (t : TypeId) : Option (Nat × TypeId) :=
 match P.underlying t with
 | some (.array n e) => some (n, e)
 | _ => none
def zeroPV : Value → PV
 | .int k n => .im (.int k n)
 | .bool b => .im (.bool b)
 | .string s => .im (.str s)
 | .slice none 0 0 => .nils
 | .pointer none => .nilp
 | _ => .any
def zeroT (P : Program) (t : TypeId) : Option (List PV) :=
 (P.info? t).bind fun i => i.zero.map fun z => z.cells.toList.map zeroPV

section
variable {P : Program}
theorem run_sizeT {t n : Nat} (h : sizeT P t = some n) (w : World) : (sizeOf t).run P w = .ok n w := by
 simp only [sizeT, Option.map_eq_some_iff] at h
 obtain ⟨i, hi, rfl⟩ := h
 simp [sizeOf, typeInfo, hi]
theorem run_aggT {t : Nat} {b : Bool} (h : aggT P t = some b) (w : World) : (isAgg t).run P w = .ok b w := by
 simp only [aggT, Option.map_eq_some_iff] at h
 obtain ⟨d, hd, rfl⟩ := h
 simp only [isAgg, Sem.run_bind, run_underlying hd, Result.andThen_ok]
 cases d <;> rfl
theorem elemT_some {t e : Nat} (h : elemT P t = some e) : P.underlying t = some (.slice e) := by
 unfold elemT at h
 split at h
 ·rename_i hd; simp at h; subst h; exact hd
 ·simp at h
theorem arrT_some {t n e : Nat} (h : arrT P t = some (n, e)) : P.underlying t = some (.array n e) := by
 unfold arrT at h
 split at h
 ·rename_i hd; simp at h; obtain ⟨rfl, rfl⟩ := h; exact hd
 ·simp at h
theorem add_none (b o j : Nat) : (⟨b, o, none⟩ : Addr).add j = ⟨b, o + j, none⟩ := by unfold Addr.add; split <;> simp_all

/-! ### lists of values -/
theorem VRels.length {F : Fz} {bs : Bns} {fr : Frs} : ∀ {xs : List PV} {vs : List Value}, VRels F bs fr xs vs → vs.length = xs.length
 | [], vs, h => by simp only [VRels] at h; subst h; rfl
 | x :: xs, vs, h => by
  simp only [VRels] at h
  obtain ⟨v, vs', rfl, _, h3⟩ := h
  simp [VRels.length h3]
theorem VRels.get {F : Fz} {bs : Bns} {fr : Frs} : ∀ {xs : List PV} {vs : List Value}, VRels F bs fr xs vs → ∀ (j : Nat) (x : PV), xs[j]? = some x → ∃ v : Value, vs[j]? = some v ∧ VRel F bs fr x v
 | [], vs, h, j, x, hx => by simp at hx
 | y :: ys, vs, h, 0, x, hx => by
  simp only [VRels] at h
  obtain ⟨v, vs', rfl, h2, h3⟩ := h
  simp at hx; subst hx
  exact ⟨v, rfl, h2⟩
 | y :: ys, vs, h, j + 1, x, hx => by
  simp only [VRels] at h
  obtain ⟨v, vs', rfl, h2, h3⟩ := h
  simpa using VRels.get h3 j x (by simpa using hx)
theorem VRels.mk {F : Fz} {bs : Bns} {fr : Frs} : ∀ {xs : List PV} {vs : List Value}, vs.length = xs.length → (∀ (j : Nat) (x : PV) (v : Value), xs[j]? = some x → vs[j]? = some v → VRel F bs fr x v) → VRels F bs fr xs vs
 | [], vs, hl, h => by simp only [VRels]; exact List.eq_nil_of_length_eq_zero (by simpa using hl)
 | x :: xs, vs, hl, h => by
  cases vs with
  | nil => simp at hl
  | cons v vs =>
   simp only [VRels]
   exact ⟨v, vs, rfl, h 0 x v rfl rfl, VRels.mk (by simpa using hl) (fun j y u hy hu => h (j + 1) y u (by simpa using hy) (by simpa using hu))⟩
theorem VRels.get' {F : Fz} {bs : Bns} {fr : Frs} {xs : List PV} {vs : List Value} (h : VRels F bs fr xs vs) {j : Nat} {x : PV} {v : Value} (hx : xs[j]? = some x) (hv : vs[j]? = some v) : VRel F bs fr x v := by
 obtain ⟨u, h1, h2⟩ := h.get j x hx
 rw [hv] at h1; cases h1; exact h2
theorem VRels.take {F : Fz} {bs : Bns} {fr : Frs} {xs : List PV} {vs : List Value} (h : VRels F bs fr xs vs) (n : Nat) : VRels F bs fr (xs.take n) (vs.take n) :=
 VRels.mk (by simp [h.length]) (fun j x v hx hv => by
  rw [List.getElem?_take] at hx hv
  split at hx
  ·rename_i hj; rw [if_pos hj] at hv; exact h.get' hx hv
  ·simp at hx)
theorem VRels.drop {F : Fz} {bs : Bns} {fr : Frs} {xs : List PV} {vs : List Value} (h : VRels F bs fr xs vs) (n : Nat) : VRels F bs fr (xs.drop n) (vs.drop n) :=
 VRels.mk (by simp [h.length]) (fun j x v hx hv => by
  rw [List.getElem?_drop] at hx hv
  exact h.get' hx hv)
theorem VRels.append {F : Fz} {bs : Bns} {fr : Frs} {xs ys : List PV} {vs us : List Value} (h : VRels F bs fr xs vs) (k : VRels F bs fr ys us) : VRels F bs fr (xs ++ ys) (vs ++ us) :=
 VRels.mk (by simp [h.length, k.length]) (fun j x v hx hv => by
  have hl := h.length
  rw [List.getElem?_append] at hx hv
  by_cases hj : j < xs.length
  ·rw [if_pos hj] at hx; rw [if_pos (by omega)] at hv; exact h.get' hx hv
  ·rw [if_neg hj] at hx; rw [if_neg (by omega)] at hv; rw [hl] at hv; exact k.get' hx hv)

def PV.upN : Nat → PV → PV
 | 0, x => x
 | d + 1, x => (x.upN d).up
def PV.downN : Nat → PV → Option PV
 | 0, x => some x
 | d + 1, x => x.down.bind (PV.downN d)
def downsN (d : Nat) : List PV → Option (List PV)
 | [] => some []
 | x :: xs => match x.downN d, downsN d xs with
  | some y, some ys => some (y :: ys)
  | _, _ => none
theorem VRel.upN {F : Fz} : ∀ (d : Nat) {bs : Bns} {fr : Frs} {x : PV} {v : Value}, bs.length = fr.length → d ≤ fr.length → VRel F (bs.drop d) (fr.drop d) x v → VRel F bs fr (x.upN d) v
 | 0, bs, fr, x, v, _, _, h => by simpa [PV.upN] using h
 | d + 1, [], [], x, v, hl, hd, h => by simp at hd
 | d + 1, b :: bs, f :: fr, x, v, hl, hd, h => by
  simp only [PV.upN]
  exact VRel.up (VRel.upN d (by simpa using hl) (by simpa using hd) (by simpa using h))
 | d + 1, [], f :: fr, x, v, hl, hd, h => by simp at hl
 | d + 1, b :: bs, [], x, v, hl, hd, h => by simp at hl
theorem VRel.downN {F : Fz} : ∀ (d : Nat) {bs : Bns} {fr : Frs} {x y : PV} {v : Value}, bs.length = fr.length → d ≤ fr.length → x.downN d = some y → VRel F bs fr x v → VRel F (bs.drop d) (fr.drop d) y v
 | 0, bs, fr, x, y, v, _, _, hy, h => by simp [PV.downN] at hy; subst hy; simpa using h
 | d + 1, [], [], x, y, v, hl, hd, hy, h => by simp at hd
 | d + 1, b :: bs, f :: fr, x, y, v, hl, hd, hy, h => by
  simp only [PV.downN, Option.bind_eq_some_iff] at hy
  obtain ⟨z, hz, hy⟩ := hy
  exact VRel.downN d (by simpa using hl) (by simpa using hd) hy (VRel.down hz h)
 | d + 1, [], f :: fr, x, y, v, hl, hd, hy, h => by simp at hl
 | d + 1, b :: bs, [], x, y, v, hl, hd, hy, h => by simp at hl
theorem VRels.upN {F : Fz} {d : Nat} {bs : Bns} {fr : Frs} {xs : List PV} {vs : List Value} (hl : bs.length = fr.length) (hd : d ≤ fr.length) (h : VRels F (bs.drop d) (fr.drop d) xs vs) : VRels F bs fr (xs.map (PV.upN d)) vs :=
 VRels.mk (by simpa using h.length) (fun j x v hx hv => by
  rw [List.getElem?_map, Option.map_eq_some_iff] at hx
  obtain ⟨y, hy, rfl⟩ := hx
  exact VRel.upN d hl hd (h.get' hy hv))
theorem VRels.downN {F : Fz} {d : Nat} {bs : Bns} {fr : Frs} (hl : bs.length = fr.length) (hd : d ≤ fr.length) : ∀ {xs ys : List PV} {vs : List Value}, downsN d xs = some ys → VRels F bs fr xs vs → VRels F (bs.drop d) (fr.drop d) ys vs
 | [], ys, vs, hy, h => by simp only [downsN, Option.some.injEq] at hy; subst hy; simpa only [VRels] using h
 | x :: xs, ys, vs, hy, h => by
  simp only [downsN] at hy
  split at hy
  ·rename_i y ys' h1 h2
   simp only [Option.some.injEq] at hy
   subst hy
   simp only [VRels] at h ⊢
   obtain ⟨v, vs', h3, h4, h5⟩ := h
   exact ⟨v, vs', h3, VRel.downN d hl hd h1 h4, VRels.downN hl hd h2 h5⟩
  ·simp at hy
theorem fget_lt {α : Type} : ∀ {fr : List (List α)} {d j : Nat} {o : α}, fget fr d j = some o → d < fr.length
 | [], d, j, o, h => by simp [fget] at h
 | f :: fr, 0, j, o, h => by simp
 | f :: fr, d + 1, j, o, h => by simpa using fget_lt (fr := fr) (by simpa using h)
theorem MRel.len {F : Fz} {bs : Bns} {fr : Frs} {w : World} (h : MRel F bs fr w) : bs.length = fr.length := by
 have := congrArg List.length h.shape
 simpa using this

/-! ### cells of a value -/
def cellsPV : PV → Option (List PV)
 | .agg cs => some cs
 | .tup _ => none
 | .any => none
 | v => some [v]
def onePV : PV → Bool
 | .agg _ | .tup _ | .any => false
 | _ => true
theorem IRel.one {F : Fz} {x : Im} {v : Value} (h : IRel F x v) : v.oneCell' = true ∧ v.cells = #[v] := by
 cases x <;> simp only [IRel] at h
 ·subst h; exact ⟨rfl, rfl⟩
 ·subst h; exact ⟨rfl, rfl⟩
 ·subst h; exact ⟨rfl, rfl⟩
 ·obtain ⟨A, c, rfl, _⟩ := h; exact ⟨rfl, rfl⟩
theorem VRel.one {F : Fz} {bs : Bns} {fr : Frs} {x : PV} {v : Value} (hx : onePV x = true) (h : VRel F bs fr x v) : v.oneCell' = true ∧ v.cells = #[v] := by
 cases x <;> simp only [VRel, onePV, Bool.false_eq_true] at h hx
 ·exact h.one
 ·obtain ⟨A, rfl, _⟩ := h; exact ⟨rfl, rfl⟩
 ·obtain ⟨A, c, rfl, _⟩ := h; exact ⟨rfl, rfl⟩
 ·obtain ⟨b, k, cs, _, _, rfl⟩ := h; exact ⟨rfl, rfl⟩
 ·obtain ⟨p, t, sz, rows, fz, a, rfl, _⟩ := h; exact ⟨rfl, rfl⟩
 ·obtain ⟨b, o, rfl, _⟩ := h; exact ⟨rfl, rfl⟩
 ·obtain ⟨b, k, es, _, _, rfl⟩ := h; exact ⟨rfl, rfl⟩
 ·obtain ⟨vs, rfl, _⟩ := h; exact ⟨rfl, rfl⟩
 ·subst h; exact ⟨rfl, rfl⟩
 ·subst h; exact ⟨rfl, rfl⟩
 ·obtain ⟨b, rfl⟩ := h; exact ⟨rfl, rfl⟩
 ·obtain ⟨b, k, cs, c, _, _, rfl, _⟩ := h; exact ⟨rfl, rfl⟩
 ·obtain ⟨A, c, rfl, _⟩ := h; exact ⟨rfl, rfl⟩
 ·obtain ⟨p, t, g', cs, a, rfl, _⟩ := h; exact ⟨rfl, rfl⟩
theorem VRel.cells {F : Fz} {bs : Bns} {fr : Frs} {x : PV} {v : Value} {cs : List PV} (hc : cellsPV x = some cs) (h : VRel F bs fr x v) : VRels F bs fr cs v.cells.toList := by
 by_cases hx : onePV x = true
 ·have he : cs = [x] := by cases x <;> simp_all [cellsPV, onePV]
  rw [(h.one hx).2, he]
  simp only [VRels, List.cons.injEq]
  exact ⟨v, [], by simp, h, rfl⟩
 ·cases x <;> simp [onePV, cellsPV] at hx hc
  subst hc
  simp only [VRel] at h
  obtain ⟨vs, rfl, h2⟩ := h
  exact h2
theorem VRels.ones {F : Fz} {bs : Bns} {fr : Frs} {xs : List PV} {vs : List Value} (hx : xs.all onePV = true) (h : VRels F bs fr xs vs) : ∀ v ∈ vs, v.oneCell' = true := fun v hv => by
 obtain ⟨j, hj⟩ := List.getElem?_of_mem hv
 have hl := h.length
 have hlt := (List.getElem?_eq_some_iff.1 hj).1
 have hx2 : xs[j]? = some xs[j] := List.getElem?_eq_getElem (by omega)
 exact ((h.get' hx2 hj).one (List.all_eq_true.1 hx _ (List.getElem_mem _))).1
theorem ms_frozen {F : Fz} {bs : Bns} {fr : Frs} {w : World} (hm : MRel F bs fr w) {d j n : Nat} {v : Value} {t sz fz : Nat} {rows : List (List Im)} (h : VRel F bs fr (.ms d j n) v) (hl : look fr d j = some (.row t sz rows fz)) (hn : rows.length = n) (hf : fz = n) : IRel F (.sl rows) v := by
 simp only [VRel] at h
 obtain ⟨A, c, rfl, h2, t', sz', rows', fz', a, h3, h4, h5, h6⟩ := h
 rw [hl] at h3
 cases h3
 obtain ⟨rfl, rfl⟩ := h6 hn
 obtain ⟨k1, k2, k3, k4, k5, k6⟩ := hm.obj d j _ _ hl h4
 simp only [IRel]
 refine ⟨_, _, by rw [hn], by omega, fun hne => ?_⟩
 cases ha : a.1 with
 | none =>
  have := k5 ha
  have : rows.length = 0 := by omega
  exact absurd (List.eq_nil_of_length_eq_zero this) hne
 | some b =>
  obtain ⟨arr, k7, k8, k9, k10, k11⟩ := k6 b ha
  refine ⟨b, 0, rfl, sz, IRows.mk (fun i r hr => ⟨(k9 i r hr).1, ICells.mk (fun q x hx => ?_)⟩)⟩
  obtain ⟨k12, k13⟩ := k9 i r hr
  obtain ⟨u, k14, k15⟩ := k13 q x hx
  refine ⟨u, ?_, k15⟩
  have hi := (List.getElem?_eq_some_iff.1 hr).1
  have hq := (List.getElem?_eq_some_iff.1 hx).1
  have hlt : i * sz + q < fz * sz := by
   have h1 : (i + 1) * sz ≤ fz * sz := Nat.mul_le_mul_right _ (by omega)
   rw [Nat.add_mul] at h1
   omega
  rw [show 0 + i * sz + q = i * sz + q by omega, k11 _ hlt]
  exact k14
def imPV (fr : Frs) : PV → Option Im
 | .im x => some x
 | .full r => some (.sl r)
 | .nils => some (.sl [])
 | .ms d j n => match look fr d j with
  | some (.row _ _ rows fz) => if rows.length = n ∧ fz = n then some (.sl rows) else none
  | _ => none
 | _ => none
theorem imPV_rel {F : Fz} {bs : Bns} {fr : Frs} {w : World} (hm : MRel F bs fr w) {x : PV} {y : Im} {v : Value} (hy : imPV fr x = some y) (h : VRel F bs fr x v) : IRel F y v := by
 cases x <;> simp only [imPV, reduceCtorEq, Option.some.injEq] at hy
 ·subst hy; simpa only [VRel] using h
 ·subst hy
  simp only [VRel] at h
  obtain ⟨A, h4, h5⟩ := h
  simp only [IRel]
  exact ⟨A, _, h4, Nat.le_refl _, h5⟩
 ·rename_i d j n
  split at hy
  ·rename_i t sz rows fz hlk
   split at hy
   ·rename_i hc
    simp only [Option.some.injEq] at hy
    subst hy
    exact ms_frozen hm h hlk hc.1 hc.2
   ·simp at hy
  ·simp at hy
 ·subst hy
  simp only [VRel] at h
  subst h
  simp only [IRel]
  exact ⟨none, 0, rfl, Nat.le_refl _, fun h => absurd rfl h⟩
def imsPV (fr : Frs) : List PV → Option (List Im)
 | [] => some []
 | x :: xs => match imPV fr x, imsPV fr xs with
  | some y, some ys => some (y :: ys)
  | _, _ => none
theorem imsPV_rel {F : Fz} {bs : Bns} {fr : Frs} {w : World} (hm : MRel F bs fr w) : ∀ {xs : List PV} {ys : List Im} {vs : List Value}, imsPV fr xs = some ys → VRels F bs fr xs vs → ys.length = xs.length ∧ ∀ (j : Nat) (y : Im) (v : Value), ys[j]? = some y → vs[j]? = some v → IRel F y v
 | [], ys, vs, hy, h => by simp [imsPV] at hy; subst hy; exact ⟨rfl, fun j y v h1 _ => by simp at h1⟩
 | x :: xs, ys, vs, hy, h => by
  simp only [imsPV] at hy
  split at hy
  ·rename_i y ys' h1 h2
   simp only [Option.some.injEq] at hy
   subst hy
   simp only [VRels] at h
   obtain ⟨v, vs, rfl, h3, h4⟩ := h
   obtain ⟨k1, k2⟩ := imsPV_rel hm h2 h4
   refine ⟨by simp [k1], fun j y u hj hu => ?_⟩
   cases j with
   | zero => simp at hj hu; subst hj hu; exact imPV_rel hm h1 h3
   | succ j => exact k2 j y u (by simpa using hj) (by simpa using hu)
  ·simp at hy

/-! ### loads -/
def loadPV (P : Program) (fr : Frs) (t : TypeId) : PV → Option PV
 | .ptr d j off => match look fr d j, sizeT P t, aggT P t with
  | some (.box cs), some n, some true => if off + n ≤ cs.length then some (.agg (((cs.drop off).take n).map (PV.upN d))) else none
  | some (.box cs), some _, some false => (cs[off]?).map (PV.upN d)
  | _, _, _ => none
 | .rptr d j n i off => match look fr d j, sizeT P t, aggT P t with
  | some (.row _ sz rows _), some m, some g => if rows.length = n then (match rows[i]? with
    | some r => if g then (if off + m ≤ r.length then some (.agg (((r.drop off).take m).map .im)) else none) else (r[off]?).map .im
    | none => none) else none
  | _, _, _ => none
 | .iptr cs => match sizeT P t, aggT P t with
  | some m, some true => if m ≤ cs.length then some (.agg ((cs.take m).map .im)) else none
  | some _, some false => (cs[0]?).map .im
  | _, _ => none
 | .vp d j i g => match look fr d j, sizeT P t, aggT P t with
  | some (.vec _ g' cs), some _, some false => if g = g' then (cs[i]?).map (PV.upN d) else none
  | _, _, _ => none
 | _ => none

theorem run_load_agg {t n : Nat} (hs : sizeT P t = some n) (hg : aggT P t = some true) (w : World) (b o : Nat) (vs : List Value) (hl : vs.length = n) (h : ∀ (j : Nat) (v : Value), vs[j]? = some v → w.cell? ⟨b, o + j, none⟩ = some v) :
  (Instr.loadAt t (.pointer (some ⟨b, o, none⟩))).run P w = .ok (.agg vs.toArray) w := by
 have hc := run_loadCells_list (P := P) w ⟨b, o, none⟩ vs (fun j v hv => by rw [add_none]; exact h j v hv)
 subst hl
 simp [Instr.loadAt, Instr.sureAddr, loadVar, run_aggT hg, run_sizeT hs, hc]
theorem run_load_one {t : Nat} (hg : aggT P t = some false) (w : World) (b o : Nat) (v : Value) (h : w.cell? ⟨b, o, none⟩ = some v) :
  (Instr.loadAt t (.pointer (some ⟨b, o, none⟩))).run P w = .ok v w := by
 simp [Instr.loadAt, Instr.sureAddr, loadVar, run_aggT hg, h]
theorem cells_of_ims {F : Fz} {bs : Bns} {fr : Frs} {xs : List Im} {vs : List Value} (hl : vs.length = xs.length) (h : ∀ (j : Nat) (x : Im) (v : Value), xs[j]? = some x → vs[j]? = some v → IRel F x v) : VRels F bs fr (xs.map .im) vs :=
 VRels.mk (by simpa using hl) (fun j x v hx hv => by
  rw [List.getElem?_map, Option.map_eq_some_iff] at hx
  obtain ⟨y, hy, rfl⟩ := hx
  simp only [VRel]
  exact h j y v hy hv)
theorem list_of_cells (f : Nat → Option Value) (R : Nat → Value → Prop) : ∀ n, (∀ j, j < n → ∃ v, f j = some v ∧ R j v) → ∃ vs : List Value, vs.length = n ∧ ∀ (j : Nat) (v : Value), vs[j]? = some v → f j = some v ∧ R j v
 | 0, _ => ⟨[], rfl, fun j v h => by simp at h⟩
 | n + 1, h => by
  obtain ⟨vs, h1, h2⟩ := list_of_cells f R n (fun j hj => h j (by omega))
  obtain ⟨v, h3, h4⟩ := h n (by omega)
  refine ⟨vs ++ [v], by simp [h1], fun j u hu => ?_⟩
  rw [List.getElem?_append] at hu
  split at hu
  ·exact h2 j u hu
  ·rename_i hj
   have hz : j - vs.length = 0 := by
    rcases Nat.eq_zero_or_pos (j - vs.length) with h0 | h0
    ·exact h0
    ·rw [List.getElem?_eq_none (by simp; omega)] at hu; simp at hu
   rw [hz] at hu
   simp at hu
   subst hu
   have : j = n := by omega
   subst this
   exact ⟨h3, h4⟩

theorem load_ok {F : Fz} {bs : Bns} {fr : Frs} {w : World} {t : TypeId} {x y : PV} {v : Value} (hm : MRel F bs fr w) (hx : VRel F bs fr x v) (hl : loadPV P fr t x = some y) :
  ∃ u, (Instr.loadAt t v).run P w = .ok u w ∧ VRel F bs fr y u := by
 cases x <;> simp only [loadPV, reduceCtorEq] at hl
 case ptr d j off =>
  simp only [VRel] at hx
  obtain ⟨b, k, cs, h1, h2, rfl⟩ := hx
  obtain ⟨b', arr, t', h3, h4, h5, h6⟩ := hm.obj d j _ _ h1 h2
  simp at h3; subst h3
  have hlen := hm.len
  have hd : d ≤ fr.length := Nat.le_of_lt (fget_lt h1)
  rw [h1] at hl
  split at hl
  ·rename_i cs0 nn hlk hs hg
   cases hlk
   split at hl
   ·rename_i hle
    simp only [Option.some.injEq] at hl; subst hl
    have hr := (h5.drop off).take nn
    have hl2 := hr.length
    simp only [List.length_take, List.length_drop] at hl2
    refine ⟨_, run_load_agg hs hg w b off ((arr.toList.drop off).take nn) (by have := h5.length; simp only [List.length_take, List.length_drop]; omega) (fun j v hv => ?_), ?_⟩
    ·rw [cell_of_row w b _ arr t' (0, 0) h4]
     rw [List.getElem?_take] at hv
     split at hv
     ·rw [List.getElem?_drop] at hv; simpa using hv
     ·simp at hv
    ·simp only [VRel]
     exact ⟨_, rfl, by simpa using VRels.upN hlen hd hr⟩
   ·simp at hl
  ·rename_i hlk hs hg
   cases hlk
   simp only [Option.map_eq_some_iff] at hl
   obtain ⟨c, hc, rfl⟩ := hl
   obtain ⟨u, hu, hr⟩ := h5.get off c hc
   exact ⟨u, run_load_one hg w b off u (by rw [cell_of_row w b off arr t' (0, 0) h4]; simpa using hu), VRel.upN d hlen hd hr⟩
  ·simp at hl
 case rptr d j n i off =>
  simp only [VRel] at hx
  obtain ⟨p, t1, sz, rows, fz, a, rfl, hsp, h1, h2, h3, h4⟩ := hx
  rw [h1] at hl
  split at hl
  ·rename_i t0 sz0 rows0 fz0 m g hlk hs hg
   cases hlk
   split at hl
   ·rename_i hn
    obtain ⟨b, hb, rfl⟩ := h4 hn
    obtain ⟨_, _, _, _, _, h5⟩ := hm.obj d j _ _ h1 h2
    obtain ⟨arr, h6, h7, h8, _⟩ := h5 b hb
    split at hl
    ·rename_i r hr
     obtain ⟨h9, h10⟩ := h8 i r hr
     have hcell : ∀ q, w.cell? ⟨b, q, none⟩ = arr[q]? := fun q => cell_of_row w b q arr t1 (0, 0) h6
     cases g with
     | true =>
      simp only [if_true] at hl
      split at hl
      ·rename_i hle
       simp only [Option.some.injEq] at hl; subst hl
       obtain ⟨vs, hvl, hvs⟩ := list_of_cells (fun q => arr[i * sz + (off + q)]?) (fun q v => ∀ x, r[off + q]? = some x → IRel F x v) m (fun q hq => by
        obtain ⟨v, hv1, hv2⟩ := h10 (off + q) r[off + q] (List.getElem?_eq_getElem (by omega))
        exact ⟨v, hv1, fun x hx => by rw [List.getElem?_eq_getElem (by omega)] at hx; cases hx; exact hv2⟩)
       refine ⟨_, run_load_agg hs hg w b (i * sz + off) vs hvl (fun q v hv => by rw [hcell, Nat.add_assoc]; exact (hvs q v hv).1), ?_⟩
       simp only [VRel]
       refine ⟨_, rfl, cells_of_ims (xs := (r.drop off).take m) (vs := vs) (by simp only [List.length_take, List.length_drop]; omega) (fun q x v hx hv => ?_)⟩
       rw [List.getElem?_take] at hx
       split at hx
       ·rw [List.getElem?_drop] at hx; exact (hvs q v hv).2 x hx
       ·simp at hx
      ·simp at hl
     | false =>
      simp only [Bool.false_eq_true, if_false, Option.map_eq_some_iff] at hl
      obtain ⟨x, hx, rfl⟩ := hl
      obtain ⟨v, hv1, hv2⟩ := h10 off x hx
      exact ⟨v, run_load_one hg w b (i * sz + off) v (by rw [hcell]; exact hv1), by simpa only [VRel] using hv2⟩
    ·simp at hl
   ·simp at hl
  ·simp at hl
 case iptr cs =>
  simp only [VRel] at hx
  obtain ⟨b, o, rfl, h1⟩ := hx
  split at hl
  ·rename_i m hs hg
   split at hl
   ·rename_i hle
    simp only [Option.some.injEq] at hl; subst hl
    obtain ⟨vs, hvl, hvs⟩ := list_of_cells (fun q => w.cell? ⟨b, o + q, none⟩) (fun q v => ∀ x, cs[q]? = some x → IRel F x v) m (fun q hq => by
     obtain ⟨v, hv1, hv2⟩ := h1.get q cs[q] (List.getElem?_eq_getElem (by omega))
     exact ⟨v, hm.fz _ _ _ hv1, fun x hx => by rw [List.getElem?_eq_getElem (by omega)] at hx; cases hx; exact hv2⟩)
    refine ⟨_, run_load_agg hs hg w b o vs hvl (fun q v hv => (hvs q v hv).1), ?_⟩
    simp only [VRel]
    refine ⟨_, rfl, cells_of_ims (xs := cs.take m) (vs := vs) (by simp only [List.length_take]; omega) (fun q x v hx hv => ?_)⟩
    rw [List.getElem?_take] at hx
    split at hx
    ·exact (hvs q v hv).2 x hx
    ·simp at hx
   ·simp at hl
  ·rename_i hs hg
   simp only [Option.map_eq_some_iff] at hl
   obtain ⟨x, hx, rfl⟩ := hl
   obtain ⟨v, hv1, hv2⟩ := h1.get 0 x hx
   exact ⟨v, run_load_one hg w b o v (by simpa using hm.fz _ _ _ hv1), by simpa only [VRel] using hv2⟩
  ·simp at hl
 case vp d j i g =>
  simp only [VRel] at hx
  obtain ⟨p, t', g', cs, a, rfl, hsp, h1, h2, h3, h4⟩ := hx
  have hlen := hm.len
  have hd : d ≤ fr.length := Nat.le_of_lt (fget_lt h1)
  rw [h1] at hl
  split at hl
  ·rename_i cs0 nn hlk hs hg
   cases hlk
   split at hl
   ·rename_i hgg
    obtain ⟨hi, b, hb, rfl⟩ := h4 hgg
    obtain ⟨k1, k2, k3, k4⟩ := hm.obj d j _ _ h1 h2
    obtain ⟨arr, k5, k6, k7, k8⟩ := k4 b hb
    simp only [Option.map_eq_some_iff] at hl
    obtain ⟨x, hx, rfl⟩ := hl
    obtain ⟨v, hv1, hv2⟩ := k7.get i x hx
    rw [List.getElem?_take, if_pos hi] at hv1
    refine ⟨v, run_load_one hg w b i v ?_, VRel.upN d hlen hd hv2⟩
    rw [cell_of_row w b _ arr t' (0, 0) k5]
    simpa using hv1
   ·simp at hl
  ·simp at hl

/-! ### stores -/
def splice {α : Type} (l : List α) (p : Nat) (vs : List α) : List α := l.take p ++ vs ++ l.drop (p + vs.length)
theorem splice_length {α : Type} (l : List α) (p : Nat) (vs : List α) (h : p + vs.length ≤ l.length) : (splice l p vs).length = l.length := by
 simp only [splice, List.length_append, List.length_take, List.length_drop]
 omega
theorem splice_get {α : Type} (l : List α) (p : Nat) (vs : List α) (h : p + vs.length ≤ l.length) (q : Nat) : (splice l p vs)[q]? = if q < p then l[q]? else if q < p + vs.length then vs[q - p]? else l[q]? := by
 have hp : min p l.length = p := by omega
 simp only [splice, List.getElem?_append, List.length_append, List.length_take, hp, List.getElem?_take, List.getElem?_drop]
 by_cases h1 : q < p
 ·have h2 : q < p + vs.length := by omega
  simp [h1, h2]
 ·by_cases h2 : q < p + vs.length
  ·simp [h1, h2]
  ·simp only [h1, h2, if_false]
   congr 1
   omega
def storePV (P : Program) (fr : Frs) (t : TypeId) (x y : PV) : Option Frs :=
 match x with
 | .ptr d j off => match look fr d j, sizeT P t, cellsPV y with
  | some (.box cs), some n, some vs => if vs.length = n ∧ off + n ≤ cs.length ∧ vs.all onePV = true then (downsN d vs).map (fun ys => fset fr d j (.box (splice cs off ys))) else none
  | _, _, _ => none
 | .rptr d j n i off => match look fr d j, sizeT P t, cellsPV y with
  | some (.row t0 sz rows fz), some m, some vs => match imsPV fr vs, rows[i]? with
   | some xs, some r => if rows.length = n ∧ fz ≤ i ∧ vs.length = m ∧ off + m ≤ r.length then some (fset fr d j (.row t0 sz (rows.set i (splice r off xs)) fz)) else none
   | _, _ => none
  | _, _, _ => none
 | .vp d j i g => match look fr d j, sizeT P t, cellsPV y with
  | some (.vec t0 g' cs), some 1, some [u] => if g = g' ∧ i < cs.length ∧ onePV u = true then (u.downN d).map (fun z => fset fr d j (.vec t0 g' (cs.set i z))) else none
  | _, _, _ => none
 | _ => none
theorem downsN_length {d : Nat} : ∀ {xs ys : List PV}, downsN d xs = some ys → ys.length = xs.length
 | [], ys, h => by simp [downsN] at h; subst h; rfl
 | x :: xs, ys, h => by
  simp only [downsN] at h
  split at h
  ·rename_i h1 h2
   simp only [Option.some.injEq] at h
   subst h
   simp [downsN_length h2]
  ·simp at h
theorem run_store {t n : Nat} (hs : sizeT P t = some n) (w : World) (b o : Nat) (arr : Array Value) (t' : TypeId) (x : Value) (hb : w.heap[b]? = some (.cells arr t' (0, 0))) (hl : x.cells.size = n) (hfit : o + n ≤ arr.size) (h1 : ∀ v ∈ x.cells.toList, v.oneCell' = true) :
  (Instr.storeAt t (.pointer (some ⟨b, o, none⟩)) x).run P w = .ok () (w.setRow b (splice arr.toList o x.cells.toList).toArray) := by
 have hst := run_storeCells_at P b o t' x.cells.toList 0 arr w hb (by simp only [Array.length_toList]; omega) h1
 simp only [Nat.add_zero] at hst
 simp [Instr.storeAt, Instr.sureAddr, storeVar, run_sizeT hs, hl, hst, splice]
theorem all_ims {fr : Frs} : ∀ {vs : List PV} {xs : List Im}, imsPV fr vs = some xs → vs.all onePV = true
 | [], xs, h => rfl
 | v :: vs, xs, h => by
  simp only [imsPV] at h
  split at h
  ·rename_i h1 h2
   simp only [List.all_cons, all_ims h2, Bool.and_true]
   cases v <;> simp [imPV] at h1 <;> rfl
  ·simp at h

theorem store_ok {F : Fz} {bs : Bns} {fr fr' : Frs} {w : World} {t : TypeId} {x y : PV} {vx vy : Value} (hm : MRel F bs fr w) (hx : VRel F bs fr x vx) (hy : VRel F bs fr y vy) (hl : storePV P fr t x y = some fr') :
  ∃ w' bs', (Instr.storeAt t vx vy).run P w = .ok () w' ∧ MRel F bs' fr' w' ∧ CStep F bs fr w F bs' fr' w' := by
 have keeps : ∀ (d j b : Nat) (a : Bnd) (o : AObj) (arr : Array Value), look fr d j = some o → o.live → bnd bs d j = some a → a.1 = some b → Keeps bs fr w (w.setRow b arr) := fun d j b a o arr h1 hlv h2 h3 =>
  ⟨rfl, rfl, rfl, by simp [World.setRow], fun b' hb' hno => setRow_other w b b' arr (fun e => hno d j ⟨o, a.2, h1, hlv, by rw [h2, e, ← h3]⟩)⟩
 cases x <;> simp only [storePV, reduceCtorEq] at hl
 case ptr d j off =>
  simp only [VRel] at hx
  obtain ⟨b, k, cs, h1, h2, rfl⟩ := hx
  obtain ⟨b', arr, t', h3, h4, h5, h6⟩ := hm.obj d j _ _ h1 h2
  simp at h3; subst h3
  have hlen := hm.len
  have hd : d ≤ fr.length := Nat.le_of_lt (fget_lt h1)
  rw [h1] at hl
  split at hl
  ·rename_i cs0 n vs hlk hs hc
   cases hlk
   split at hl
   ·rename_i hcond
    obtain ⟨hc1, hc2, hc3⟩ := hcond
    simp only [Option.map_eq_some_iff] at hl
    obtain ⟨ys, hys, rfl⟩ := hl
    have hvr := VRel.cells hc hy
    have hvl := hvr.length
    simp only [Array.length_toList] at hvl
    have hal : arr.size = cs.length := by simpa using h5.length
    have hdn := VRels.downN hlen hd hys hvr
    have hyl := downsN_length hys
    have hr := run_store hs w b off arr t' vy h4 (by omega) (by omega) (hvr.ones hc3)
    have hput := hm.put (F' := F) (w' := w.setRow b (splice arr.toList off vy.cells.toList).toArray) (o' := .box (splice cs off ys)) (a' := (some b, k)) h1 h2
     (fun b' _ hb' => setRow_other w b b' _ (fun e => by rcases hb' with hb' | hb'; exact hb' (by rw [e]); exact hb' trivial)) (Fz.le_refl F) (fun _ _ _ _ => rfl)
     (fun b' q v hb' hq => by
      rcases hb' with hb' | hb'
      ·have := World.block_lt_of_cell? w _ (hm.fz b' q v hq); simp at this; omega
      ·simp at hb'
       rw [hb'.1] at h6
       rw [h6] at hq
       simp at hq)
     (fun b' hb' => .inr ⟨hb', trivial⟩)
     (by simp only [AObj.becomes]; exact ⟨splice_length _ _ _ (by omega), trivial⟩)
     (by
      refine ⟨b, _, t', rfl, setRow_heap w b arr _ t' (0, 0) h4, ?_, h6⟩
      have hev : Evolve (bs.drop d) (fr.drop d) ((fset bs d j (some b, k)).drop d) ((fset fr d j (.box (splice cs off ys))).drop d) := by
       refine Evolve.drop (fun d' j' o1 a1 k1 k2 => ?_) d
       simp only [look, bnd, fget_fset]
       by_cases he : d' = d ∧ j' = j
       ·obtain ⟨rfl, rfl⟩ := he
        rw [h1] at k1; rw [h2] at k2
        cases k1; cases k2
        exact ⟨.box (splice cs off ys), (some b, k), by simp [show fget fr d' j' = some _ from h1], by simp [show fget bs d' j' = some _ from h2], by simp only [AObj.becomes]; exact ⟨splice_length _ _ _ (by omega), trivial⟩⟩
       ·exact ⟨o1, a1, by rw [if_neg he]; exact k1, by rw [if_neg he]; exact k2, o1.becomes_refl a1⟩
      refine VRels.move (Fz.le_refl F) hev ?_
      refine VRels.mk ?_ (fun q x v hxq hvq => ?_)
      ·simp only [splice_length _ _ _ (show off + vy.cells.toList.length ≤ arr.toList.length by simp; omega), splice_length cs off ys (by omega)]
       simpa using hal
      ·simp only [splice_get _ _ _ (show off + vy.cells.toList.length ≤ arr.toList.length by simp; omega)] at hvq
       rw [splice_get cs off ys (by omega)] at hxq
       simp only [Array.length_toList] at hvq
       have he : vy.cells.size = ys.length := by omega
       simp only [he] at hvq
       by_cases hq1 : q < off
       ·simp only [hq1, if_true] at hxq hvq
        exact h5.get' hxq hvq
       ·by_cases hq2 : q < off + ys.length
        ·simp only [hq1, hq2, if_true, if_false] at hxq hvq
         exact hdn.get' hxq hvq
        ·simp only [hq1, hq2, if_false] at hxq hvq
         exact h5.get' hxq hvq)
    exact ⟨_, _, hr, hput.1, Fz.le_refl F, hput.2.1, keeps d j b _ _ _ h1 trivial h2 rfl, hput.2.2⟩
   ·simp at hl
  ·simp at hl
 case rptr d j n i off =>
  simp only [VRel] at hx
  obtain ⟨p, t1, sz, rows, fz, a, rfl, hsp, h1, h2, h3, h4⟩ := hx
  rw [h1] at hl
  split at hl
  ·rename_i t0 sz0 rows0 fz0 m vs hlk hs hc
   cases hlk
   split at hl
   ·rename_i xs r hxs hri
    split at hl
    ·rename_i hcond
     obtain ⟨hn, hfi, hvm, hfit⟩ := hcond
     simp only [Option.some.injEq] at hl
     subst hl
     obtain ⟨b, hb, rfl⟩ := h4 hn
     obtain ⟨g1, g2, g3, g4, g5, g6⟩ := hm.obj d j _ _ h1 h2
     obtain ⟨arr, k1, k2, k3, k4, k5⟩ := g6 b hb
     have hvr := VRel.cells hc hy
     have hvl := hvr.length
     simp only [Array.length_toList] at hvl
     obtain ⟨hxl, hxr⟩ := imsPV_rel hm hxs hvr
     obtain ⟨hrl, hrc⟩ := k3 i r hri
     have hilt := (List.getElem?_eq_some_iff.1 hri).1
     have hbound : i * sz + off + m ≤ arr.size := by
      have e1 : (i + 1) * sz ≤ a.2 * sz := Nat.mul_le_mul_right _ (by omega)
      rw [Nat.add_mul] at e1
      omega
     have hr := run_store hs w b (i * sz + off) arr t1 vy k1 (by omega) (by omega) (hvr.ones (all_ims hxs))
     have hfzi : fz * sz ≤ i * sz := Nat.mul_le_mul_right _ hfi
     have harr : ∀ q, ((splice arr.toList (i * sz + off) vy.cells.toList).toArray)[q]? = if q < i * sz + off then arr[q]? else if q < i * sz + off + m then vy.cells[q - (i * sz + off)]? else arr[q]? := fun q => by
      have := splice_get arr.toList (i * sz + off) vy.cells.toList (by simp; omega) q
      simpa [show vy.cells.size = m by omega] using this
     have hput := hm.put (F' := F) (w' := w.setRow b (splice arr.toList (i * sz + off) vy.cells.toList).toArray) (o' := .row t1 sz (rows.set i (splice r off xs)) fz) (a' := a) h1 h2
      (fun b' _ hb' => setRow_other w b b' _ (fun e => by rcases hb' with hb' | hb'; exact hb' (by rw [e]; exact hb); exact hb' trivial)) (Fz.le_refl F) (fun _ _ _ _ => rfl)
      (fun b' q v hb' hq => by
       rcases hb' with hb' | hb'
       ·have := World.block_lt_of_cell? w _ (hm.fz b' q v hq); simp at this; omega
       ·rw [hb] at hb'
        simp at hb'
        obtain ⟨rfl, _⟩ := hb'
        have hql := k4 q v hq
        have hc1 := hm.fz b q v hq
        rw [cell_of_row w b q arr t1 (0, 0) k1] at hc1
        rw [cell_of_row _ b q _ t1 (0, 0) (setRow_heap w b arr _ t1 (0, 0) k1), harr, if_pos (by omega)]
        exact hc1)
      (fun b' hb' => .inr ⟨hb', trivial⟩)
      (by simp only [AObj.becomes]; exact ⟨trivial, trivial, by simp, fun _ => trivial⟩)
      (by
       refine ⟨g1, by simpa using g2, g3, by simpa using g4, g5, fun b' hb' => ?_⟩
       rw [hb] at hb'
       simp at hb'
       subst hb'
       refine ⟨_, setRow_heap w b arr _ t1 (0, 0) k1, ?_, ?_, k4, fun q hq => ?_⟩
       ·simp only [List.size_toArray]
        rw [splice_length _ _ _ (by simp; omega)]
        simpa using k2
       ·intro i' r' hr'
        rw [List.getElem?_set] at hr'
        by_cases hii : i = i'
        ·subst hii
         simp only [if_true, hilt] at hr'
         ·simp only [Option.some.injEq] at hr'
          subst hr'
          refine ⟨by rw [splice_length _ _ _ (by omega)]; exact hrl, fun q x hx => ?_⟩
          rw [splice_get _ _ _ (by omega)] at hx
          rw [harr]
          by_cases hq1 : q < off
          ·simp only [hq1, if_true] at hx
           rw [if_pos (by omega)]
           exact hrc q x hx
          ·by_cases hq2 : q < off + xs.length
           ·simp only [hq1, hq2, if_true, if_false] at hx
            rw [if_neg (by omega), if_pos (by omega), show i * sz + q - (i * sz + off) = q - off by omega]
            have hq3 : q - off < vy.cells.size := by omega
            refine ⟨vy.cells[q - off], by rw [Array.getElem?_eq_getElem hq3], hxr (q - off) x _ hx (by simp [hq3])⟩
           ·simp only [hq1, hq2, if_false] at hx
            rw [if_neg (by omega), if_neg (by omega)]
            exact hrc q x hx
        ·rw [if_neg hii] at hr'
         obtain ⟨hl', hc'⟩ := k3 i' r' hr'
         refine ⟨hl', fun q x hx => ?_⟩
         have hq := (List.getElem?_eq_some_iff.1 hx).1
         rw [harr]
         have hdis : i' * sz + q < i * sz + off ∨ i * sz + off + m ≤ i' * sz + q := by
          rcases Nat.lt_or_gt_of_ne hii with h | h
          ·right
           have e1 : (i + 1) * sz ≤ i' * sz := Nat.mul_le_mul_right _ (by omega)
           rw [Nat.add_mul] at e1
           omega
          ·left
           have e1 : (i' + 1) * sz ≤ i * sz := Nat.mul_le_mul_right _ (by omega)
           rw [Nat.add_mul] at e1
           omega
         rcases hdis with h | h
         ·rw [if_pos h]; exact hc' q x hx
         ·rw [if_neg (by omega), if_neg (by omega)]; exact hc' q x hx
       ·rw [harr, if_pos (by omega)]
        exact k5 q hq)
     exact ⟨_, _, hr, hput.1, Fz.le_refl F, hput.2.1, keeps d j b _ _ _ h1 trivial h2 hb, hput.2.2⟩
    ·simp at hl
   ·simp at hl
  ·simp at hl
 case vp d j i g =>
  simp only [VRel] at hx
  obtain ⟨p, t', g', cs, a, rfl, hsp, h1, h2, h3, h4⟩ := hx
  have hlen := hm.len
  have hd : d ≤ fr.length := Nat.le_of_lt (fget_lt h1)
  rw [h1] at hl
  split at hl
  ·rename_i t0 g0 cs0 u hlk hs hc
   cases hlk
   split at hl
   ·rename_i hcond
    obtain ⟨hgg, hi, hone⟩ := hcond
    obtain ⟨_, b, hb, rfl⟩ := h4 hgg
    simp only [Option.map_eq_some_iff] at hl
    obtain ⟨z, hz, rfl⟩ := hl
    obtain ⟨k1, k2, k3, k4⟩ := hm.obj d j _ _ h1 h2
    obtain ⟨arr, k5, k6, k7, k8⟩ := k4 b hb
    have hvr := VRel.cells hc hy
    have hvl := hvr.length
    simp only [Array.length_toList, List.length_cons, List.length_nil] at hvl
    have hys : downsN d [u] = some [z] := by simp [downsN, hz]
    have hdn := VRels.downN hlen hd hys hvr
    have hr := run_store hs w b i arr t' vy k5 (by omega) (by omega) (hvr.ones (by simp [hone]))
    have hput := hm.put (F' := F) (w' := w.setRow b (splice arr.toList i vy.cells.toList).toArray) (o' := .vec t' g' (cs.set i z)) (a' := a) h1 h2
     (fun b' _ hb' => setRow_other w b b' _ (fun e => by rcases hb' with hb' | hb'; exact hb' (by rw [e]; exact hb); exact hb' trivial)) (Fz.le_refl F) (fun _ _ _ _ => rfl)
     (fun b' q v hb' hq => by
      rcases hb' with hb' | hb'
      ·have := World.block_lt_of_cell? w _ (hm.fz b' q v hq); simp at this; omega
      ·rw [hb] at hb'
       simp only [Option.some.injEq] at hb'
       rw [← hb'.1, k8] at hq
       simp at hq)
     (fun b' hb' => .inr ⟨hb', trivial⟩)
     (by simp [AObj.becomes])
     (by
      refine ⟨by simpa using k1, k2, k3, fun b' hb' => ?_⟩
      rw [hb] at hb'
      simp only [Option.some.injEq] at hb'
      subst hb'
      have hev : Evolve (bs.drop d) (fr.drop d) ((fset bs d j a).drop d) ((fset fr d j (.vec t' g' (cs.set i z))).drop d) := by
       refine Evolve.drop (fun d' j' o1 a1 q1 q2 => ?_) d
       simp only [look, bnd, fget_fset]
       by_cases he : d' = d ∧ j' = j
       ·obtain ⟨rfl, rfl⟩ := he
        rw [h1] at q1; rw [h2] at q2
        cases q1; cases q2
        exact ⟨.vec t' g' (cs.set i z), a, by simp [show fget fr d' j' = some _ from h1], by simp [show fget bs d' j' = some _ from h2], by simp [AObj.becomes]⟩
       ·exact ⟨o1, a1, by rw [if_neg he]; exact q1, by rw [if_neg he]; exact q2, o1.becomes_refl a1⟩
      refine ⟨_, setRow_heap w b arr _ t' (0, 0) k5, ?_, VRels.move (Fz.le_refl F) hev ?_, k8⟩
      ·simp only [List.size_toArray]
       rw [splice_length _ _ _ (by simp; omega)]
       simpa using k6
      ·refine VRels.mk ?_ (fun q x v hxq hvq => ?_)
       ·simp only [List.length_take, List.length_set]
        rw [splice_length _ _ _ (by simp; omega)]
        simp; omega
       ·simp only [List.length_set, List.getElem?_take] at hvq
        split at hvq
        ·rename_i hq
         rw [splice_get _ _ _ (by simp; omega)] at hvq
         rw [List.getElem?_set] at hxq
         simp only [Array.length_toList, hvl] at hvq
         by_cases hqi : i = q
         ·subst hqi
          simp only [if_true, hi, Option.some.injEq] at hxq
          subst hxq
          rw [if_neg (by omega), if_pos (by omega), Nat.sub_self] at hvq
          exact hdn.get' (j := 0) rfl hvq
         ·rw [if_neg hqi] at hxq
          have hvq2 : arr.toList[q]? = some v := by
           by_cases h7 : q < i
           ·rw [if_pos h7] at hvq; exact hvq
           ·rw [if_neg h7, if_neg (by omega)] at hvq; exact hvq
          exact k7.get' hxq (by rw [List.getElem?_take, if_pos hq]; exact hvq2)
        ·simp at hvq)
    exact ⟨_, _, hr, hput.1, Fz.le_refl F, hput.2.1, keeps d j b _ _ _ h1 trivial h2 hb, hput.2.2⟩
   ·simp at hl
  ·simp at hl
end
end Go.Proofs.YtkjfdacjjogpcaaPi

