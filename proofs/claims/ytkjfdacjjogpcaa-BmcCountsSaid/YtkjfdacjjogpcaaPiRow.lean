/- Slices that a call makes and lets grow, in the abstract program logic: make, literals, append; freezing them. No Go text in it. -/
import Derived.Test.YtkjfdacjjogpcaaPiStep
set_option linter.unusedVariables false
set_option linter.unusedSimpArgs false
namespace Go.Proofs.YtkjfdacjjogpcaaPi
variable {P : Program}

def SrcOk (F : Fz) (w : World) (x : Value) (sz : Nat) (xs : List (List Im)) : Prop :=
 ∃ A c, ∃ news : List Value, x = .slice A xs.length c ∧ news.length = xs.length * sz ∧ (∀ a, A = some a → ∀ (j : Nat) (u : Value), news[j]? = some u → w.cell? (a.add j) = some u) ∧ (A = none → xs = []) ∧
  (∀ u ∈ news, u.oneCell' = true) ∧ ∀ (i : Nat) (r : List Im), xs[i]? = some r → r.length = sz ∧ ∀ (q : Nat) (y : Im), r[q]? = some y → ∃ u : Value, news[i * sz + q]? = some u ∧ IRel F y u

theorem idx_lt {i q n sz : Nat} (hi : i < n) (hq : q < sz) : i * sz + q < n * sz := by
 have h1 : (i + 1) * sz ≤ n * sz := Nat.mul_le_mul_right _ (by omega)
 rw [Nat.add_mul] at h1
 omega
theorem idx_split {k n sz : Nat} (h : k < n * sz) : k / sz < n ∧ k % sz < sz ∧ k / sz * sz + k % sz = k := by
 have hs : 0 < sz := by
  rcases Nat.eq_zero_or_pos sz with h0 | h0
  ·subst h0; simp at h
  ·exact h0
 exact ⟨Nat.div_lt_of_lt_mul (by rw [Nat.mul_comm]; exact h), Nat.mod_lt _ hs, by rw [Nat.mul_comm]; exact Nat.div_add_mod k sz⟩

theorem src_of_rows {F : Fz} {w : World} {sz : Nat} {xs : List (List Im)} (A : Option Addr) (c : Nat) (hA : A = none → xs = []) (hsz : ∀ r ∈ xs, r.length = sz)
  (h : ∀ a, A = some a → ∀ (i : Nat) (r : List Im), xs[i]? = some r → ∀ (q : Nat) (y : Im), r[q]? = some y → ∃ u, w.cell? (a.add (i * sz + q)) = some u ∧ IRel F y u) : SrcOk F w (.slice A xs.length c) sz xs := by
 cases A with
 | none =>
  have := hA rfl
  subst this
  exact ⟨none, c, [], rfl, by simp, fun a h => by simp at h, fun _ => rfl, fun u h => by simp at h, fun i r h => by simp at h⟩
 | some a =>
  have hcell : ∀ k, k < xs.length * sz → ∃ u, w.cell? (a.add k) = some u ∧ ∀ r y, xs[k / sz]? = some r → r[k % sz]? = some y → IRel F y u := fun k hk => by
   obtain ⟨h1, h2, h3⟩ := idx_split hk
   have hr : xs[k / sz]? = some xs[k / sz] := List.getElem?_eq_getElem h1
   have hl := hsz _ (List.getElem_mem h1)
   have hy : xs[k / sz][k % sz]? = some (xs[k / sz][k % sz]'(by omega)) := List.getElem?_eq_getElem (by omega)
   obtain ⟨u, h4, h5⟩ := h a rfl _ _ hr _ _ hy
   rw [h3] at h4
   refine ⟨u, h4, fun r y h6 h7 => ?_⟩
   rw [hr] at h6
   cases h6
   rw [hy] at h7
   cases h7
   exact h5
  obtain ⟨news, hl, hn⟩ := list_of_cells (fun k => w.cell? (a.add k)) (fun k u => ∀ r y, xs[k / sz]? = some r → r[k % sz]? = some y → IRel F y u) _ hcell
  refine ⟨some a, c, news, rfl, hl, fun a' ha j u hu => by cases ha; exact (hn j u hu).1, fun h => by simp at h, fun u hu => ?_, fun i r hr => ⟨hsz r (List.mem_of_getElem? hr), fun q y hy => ?_⟩⟩
  ·obtain ⟨k, hk⟩ := List.getElem?_of_mem hu
   have hklt := (List.getElem?_eq_some_iff.1 hk).1
   rw [hl] at hklt
   obtain ⟨h1, h2, h3⟩ := idx_split hklt
   have hr : xs[k / sz]? = some xs[k / sz] := List.getElem?_eq_getElem h1
   have hl2 := hsz _ (List.getElem_mem h1)
   exact ((hn k u hk).2 _ _ hr (List.getElem?_eq_getElem (by omega))).one.1
  ·have hi := (List.getElem?_eq_some_iff.1 hr).1
   have hq := (List.getElem?_eq_some_iff.1 hy).1
   have hlr := hsz r (List.mem_of_getElem? hr)
   have hlt := idx_lt (n := xs.length) (sz := sz) hi (by omega : q < sz)
   have hk : news[i * sz + q]? = some (news[i * sz + q]'(by omega)) := List.getElem?_eq_getElem (by omega)
   obtain ⟨h1, h2⟩ := hn _ _ hk
   refine ⟨_, hk, h2 r y ?_ ?_⟩
   ·have hd : (i * sz + q) / sz = i := by
     rw [Nat.mul_comm, Nat.mul_add_div (by omega), Nat.div_eq_of_lt (by omega)]
     rfl
    rw [hd]
    exact hr
   ·have hd : (i * sz + q) % sz = q := by rw [Nat.mul_comm, Nat.mul_add_mod, Nat.mod_eq_of_lt (by omega)]
    rw [hd]
    exact hy

def rowsPV (fr : Frs) : PV → Option (List (List Im))
 | .im (.sl rows) => some rows
 | .full rows => some rows
 | .nils => some []
 | .ms d j n => match look fr d j with
  | some (.row _ _ rows _) => if rows.length = n then some rows else none
  | _ => none
 | _ => none
theorem IRows.len {F : Fz} {b sz o : Nat} {rows : List (List Im)} (h : IRows F b sz o rows) (r : List Im) (hr : r ∈ rows) : r.length = sz := by
 obtain ⟨i, hi⟩ := List.getElem?_of_mem hr
 exact (h.get i r hi).1
theorem src_ok {F : Fz} {bs : Bns} {fr : Frs} {w : World} (hm : MRel F bs fr w) {x : PV} {v : Value} {rows : List (List Im)} {sz : Nat} (hr : rowsPV fr x = some rows) (hx : VRel F bs fr x v) (hsz : ∀ r ∈ rows, r.length = sz) : SrcOk F w v sz rows := by
 have rd : ∀ (b o : Nat) sz', IRows F b sz' o rows → ∀ (i : Nat) (r : List Im), rows[i]? = some r → ∀ (q : Nat) (y : Im), r[q]? = some y → ∃ u, w.cell? ((⟨b, o, none⟩ : Addr).add (i * sz + q)) = some u ∧ IRel F y u := fun b o sz' h i r hi q y hy => by
  obtain ⟨h1, h2⟩ := h.get i r hi
  have := hsz r (List.mem_of_getElem? hi)
  have e : sz' = sz := by omega
  subst e
  obtain ⟨u, h3, h4⟩ := h2.get q y hy
  exact ⟨u, by rw [add_none, ← Nat.add_assoc]; exact hm.fz _ _ _ h3, h4⟩
 cases x <;> simp only [rowsPV, reduceCtorEq, Option.some.injEq] at hr
 case im x =>
  cases x <;> simp only [rowsPV, reduceCtorEq, Option.some.injEq] at hr
  subst hr
  simp only [VRel, IRel] at hx
  obtain ⟨A, c, rfl, h1, h2⟩ := hx
  refine src_of_rows A c (fun e => ?_) hsz (fun a ha => ?_)
  ·subst e
   rename_i rows
   cases rows with
   | nil => rfl
   | cons r rs => obtain ⟨b, o, h3, _⟩ := h2 (by simp); simp at h3
  ·rename_i rows
   cases rows with
   | nil => intro i r hi; simp at hi
   | cons r rs =>
    obtain ⟨b, o, h3, sz', h4⟩ := h2 (by simp)
    rw [ha] at h3
    cases h3
    exact rd b o sz' h4
 case full rows' =>
  subst hr
  simp only [VRel] at hx
  obtain ⟨A, rfl, h2⟩ := hx
  refine src_of_rows A _ (fun e => ?_) hsz (fun a ha => ?_)
  ·subst e
   cases rows' with
   | nil => rfl
   | cons r rs => obtain ⟨b, o, h3, _⟩ := h2 (by simp); simp at h3
  ·cases rows' with
   | nil => intro i r hi; simp at hi
   | cons r rs =>
    obtain ⟨b, o, h3, sz', h4⟩ := h2 (by simp)
    rw [ha] at h3
    cases h3
    exact rd b o sz' h4
 case ms d j n =>
  split at hr
  ·rename_i t0 sz0 rows0 fz0 hlk
   split at hr
   ·rename_i hn
    simp only [Option.some.injEq] at hr
    subst hr
    simp only [VRel] at hx
    obtain ⟨A, c, rfl, h1, t', sz', rows', fz', a, h3, h4, h5, h6⟩ := hx
    rw [hlk] at h3
    cases h3
    obtain ⟨rfl, rfl⟩ := h6 hn
    obtain ⟨k1, k2, k3, k4, k5, k6⟩ := hm.obj d j _ _ hlk h4
    rw [← hn]
    refine src_of_rows _ _ (fun e => ?_) hsz (fun p hp => ?_)
    ·cases ha : a.1 with
     | none =>
      have := k5 ha
      exact List.eq_nil_of_length_eq_zero (by omega)
     | some b => rw [ha] at e; simp at e
    ·cases ha : a.1 with
     | none => rw [ha] at hp; simp at hp
     | some b =>
      rw [ha] at hp
      simp at hp
      subst hp
      obtain ⟨arr, k7, k8, k9, _⟩ := k6 b ha
      intro i r hi q y hy
      obtain ⟨k10, k11⟩ := k9 i r hi
      have := hsz r (List.mem_of_getElem? hi)
      have e : sz0 = sz := by omega
      subst e
      obtain ⟨u, h7, h8⟩ := k11 q y hy
      exact ⟨u, by rw [add_none, cell_of_row w b _ arr t0 (0, 0) k7]; simpa using h7, h8⟩
   ·simp at hr
  ·simp at hr
 case nils =>
  subst hr
  simp only [VRel] at hx
  subst hx
  exact src_of_rows none 0 (fun _ => rfl) (fun r h => by simp at h) (fun a h => by simp at h)

theorem rowAt_of_parts {F : Fz} {arr : Array Value} {sz : Nat} {rows xs : List (List Im)} {old news : List Value} (h1 : RowAt F old.toArray sz rows) (hol : old.length = rows.length * sz)
  (h2 : ∀ (i : Nat) (r : List Im), xs[i]? = some r → r.length = sz ∧ ∀ (q : Nat) (y : Im), r[q]? = some y → ∃ u : Value, news[i * sz + q]? = some u ∧ IRel F y u)
  (ha : ∀ k, k < (old ++ news).length → arr[k]? = (old ++ news)[k]?) : RowAt F arr sz (rows ++ xs) := by
 intro i r hr
 rw [List.getElem?_append] at hr
 split at hr
 ·rename_i hi
  obtain ⟨h3, h4⟩ := h1 i r hr
  refine ⟨h3, fun q y hy => ?_⟩
  obtain ⟨u, h5, h6⟩ := h4 q y hy
  have hq := (List.getElem?_eq_some_iff.1 hy).1
  have hlt := idx_lt (sz := sz) hi (by omega : q < sz)
  refine ⟨u, ?_, h6⟩
  rw [ha _ (by simp; omega), List.getElem?_append_left (by omega)]
  simpa using h5
 ·rename_i hi
  obtain ⟨h3, h4⟩ := h2 (i - rows.length) r hr
  refine ⟨h3, fun q y hy => ?_⟩
  obtain ⟨u, h5, h6⟩ := h4 q y hy
  have hk := (List.getElem?_eq_some_iff.1 h5).1
  have he : i * sz + q = old.length + ((i - rows.length) * sz + q) := by
   rw [hol, ← Nat.add_assoc, ← Nat.add_mul]
   congr 2
   omega
  refine ⟨u, ?_, h6⟩
  rw [he, ha _ (by simp; omega), List.getElem?_append_right (by omega)]
  simpa using h5
theorem rowAt_take {F : Fz} {arr : Array Value} {sz : Nat} {rows : List (List Im)} (h : RowAt F arr sz rows) : RowAt F (arr.toList.take (rows.length * sz)).toArray sz rows := fun i r hr => by
 obtain ⟨h1, h2⟩ := h i r hr
 refine ⟨h1, fun q y hy => ?_⟩
 obtain ⟨u, h3, h4⟩ := h2 q y hy
 have hi := (List.getElem?_eq_some_iff.1 hr).1
 have hq := (List.getElem?_eq_some_iff.1 hy).1
 have hlt := idx_lt (sz := sz) hi (by omega : q < sz)
 refine ⟨u, ?_, h4⟩
 simp only [List.getElem?_toArray, List.getElem?_take, hlt, if_true]
 simpa using h3

theorem fset_self {α : Type} : ∀ (fr : List (List α)) (d j : Nat) (x : α), fget fr d j = some x → fset fr d j x = fr
 | [], d, j, x, h => rfl
 | f :: fr, 0, j, x, h => by
  simp only [look_zero] at h
  obtain ⟨hj, rfl⟩ := List.getElem?_eq_some_iff.1 h
  simp [fset]
 | f :: fr, d + 1, j, x, h => by
  simp only [look_succ] at h
  simp only [fset, fset_self fr d j x h]
theorem append_ms_ok {F : Fz} {bs : Bns} {fr : Frs} {w : World} (hm : MRel F bs fr w) {d j n : Nat} {v x : Value} {T t sz fz bytes : Nat} {rows xs : List (List Im)} {z : List PV} (ty : TypeId)
  (hs : VRel F bs fr (.ms d j n) v) (hl : look fr d j = some (.row t sz rows fz)) (hn : rows.length = n) (ht : elemT P T = some t) (hsz : sizeT P t = some sz) (hby : bytesT P t = some bytes) (hz : zeroT P t = some z) (hzl : z.length = sz)
  (hb1 : 0 < bytes) (hx : SrcOk F w x sz xs) (hbound : (n + xs.length) * bytes ≤ 140737488355328) :
  ∃ v' w' F' bs', (Builtin.append_ #[T, T] ty #[v, x]).run P w = .ok v' w' ∧ MRel F' bs' (fset fr d j (.row t sz (rows ++ xs) fz)) w' ∧ CStep F bs fr w F' bs' (fset fr d j (.row t sz (rows ++ xs) fz)) w' ∧ VRel F' bs' (fset fr d j (.row t sz (rows ++ xs) fz)) (.ms d j (n + xs.length)) v' := by
 subst hn
 obtain ⟨zv, hz1, hz2, i, hi, hiz⟩ := zeroT_run hz w
 have hzc : zv.cells.size = sz := by have := (hz2 F bs fr).length; simp at this; omega
 have hisz : i.size = sz := by simp [sizeT, hi] at hsz; exact hsz
 have hiby : i.bytes = bytes := by simp [bytesT, hi] at hby; exact hby
 have hu := elemT_some ht
 simp only [VRel] at hs
 obtain ⟨A, c, rfl, h2, t', sz', rows', fz', a, h3, h4, h5, h6⟩ := hs
 rw [hl] at h3
 cases h3
 obtain ⟨rfl, rfl⟩ := h6 rfl
 obtain ⟨k1, k2, k3, k4, k5, k6⟩ := hm.obj d j _ _ hl h4
 obtain ⟨B, cx, news, rfl, n1, n2, n3, n4, n5⟩ := hx
 have hsmall : rows.length + xs.length ≤ 140737488355328 := by
  have := Nat.le_mul_of_pos_right (rows.length + xs.length) hb1
  omega
 have hmax : rows.length + xs.length ≤ maxLen := by simp only [maxLen]; omega
 by_cases hm0 : xs = []
 ·-- nothing is appended
  subst hm0
  have hnews : news = [] := List.eq_nil_of_length_eq_zero (by simpa using n1)
  subst hnews
  have hfr : fset fr d j (.row t sz (rows ++ []) fz) = fr := by
   rw [List.append_nil]
   exact fset_self fr d j _ hl
  rw [hfr]
  refine ⟨_, w, F, bs, ?_, hm, .refl _ _ _ _, by simp only [VRel]; exact ⟨_, _, rfl, h2, t, sz, rows, fz, a, hl, h4, by simp, fun _ => ⟨rfl, rfl⟩⟩⟩
  cases B with
  | none => cases ha : a.1 <;> simp [Builtin.append_, run_underlying hu, sizeOf, typeInfo, hi, Builtin.lenOf, h2, Builtin.firstCells, storeCells]
  | some B => cases ha : a.1 <;> simp [Builtin.append_, run_underlying hu, sizeOf, typeInfo, hi, Builtin.lenOf, h2, Builtin.firstCells, storeCells, loadCells, loadCellsFrom]
 ·have hpos : 0 < xs.length := List.length_pos_iff.2 hm0
  obtain ⟨B, rfl⟩ : ∃ b, B = some b := by
   cases B with
   | none => exact absurd (n3 rfl) hm0
   | some b => exact ⟨b, rfl⟩
  have n2' := n2 B rfl
  have moved : ∀ (old : List Value) (cap : Nat), RowAt F old.toArray sz rows → old.length = rows.length * sz → rows.length + xs.length ≤ cap → cap ≤ maxLen → ∀ (arr : Array Value), (∀ k, k < (old ++ news).length → arr[k]? = (old ++ news)[k]?) → arr.size = cap * sz →
    ∃ F' bs', MRel F' bs' (fset fr d j (.row t sz (rows ++ xs) fz)) (w.drew.alloc (.cells arr t)) ∧ CStep F bs fr w F' bs' (fset fr d j (.row t sz (rows ++ xs) fz)) (w.drew.alloc (.cells arr t)) ∧
     VRel F' bs' (fset fr d j (.row t sz (rows ++ xs) fz)) (.ms d j (rows.length + xs.length)) (.slice (some ⟨w.heap.size, 0, none⟩) (rows.length + xs.length) cap) := by
   intro old cap ho hol hc1 hc2 arr harr hars
   have hnone : ∀ q, F w.heap.size q = none := fun q => by
    cases hq : F w.heap.size q with
    | none => rfl
    | some u =>
     have := World.block_lt_of_cell? w _ (hm.fz _ _ _ hq)
     simp at this
   let F' : Fz := fun b q => if b = w.heap.size then (if q < fz * sz then arr[q]? else none) else F b q
   have hle : Fz.le F F' := fun b q u hq => by
    show (if b = w.heap.size then _ else F b q) = some u
    rw [if_neg (fun e => by rw [e, hnone] at hq; simp at hq)]
    exact hq
   have hput := hm.put (F' := F') (w' := w.drew.alloc (.cells arr t)) (o' := .row t sz (rows ++ xs) fz) (a' := (some w.heap.size, cap)) hl h4
    (fun b hb _ => heap_alloc_old w.drew _ hb) hle (fun b q hb _ => if_neg (by omega))
    (fun b q u hb hq => by
     by_cases hbs : b = w.heap.size
     ·subst hbs
      refine (cell_of_row (w.drew.alloc (.cells arr t)) w.heap.size q arr t (0, 0) (heap_alloc_new w.drew _)).trans ?_
      simp only [F', if_true] at hq
      split at hq
      ·exact hq
      ·simp at hq
     ·have hq' : F b q = some u := by simpa only [F', hbs, if_false] using hq
      have hcell := hm.fz b q u hq'
      have hlt := World.block_lt_of_cell? w _ hcell
      rw [← hcell]
      exact World.cell?_of_block (heap_alloc_old w.drew _ hlt))
    (fun b hb => by simp at hb; exact .inl (by omega))
    (by simp only [AObj.becomes]; exact ⟨trivial, trivial, by simp, fun e => by simp at e; exact absurd e hm0⟩)
    (by
     refine ⟨k1, by simp; omega, hc2, by simp; omega, fun e => by simp at e, fun b hb => ?_⟩
     simp at hb
     subst hb
     refine ⟨arr, heap_alloc_new w.drew _, hars, (rowAt_of_parts ho hol n5 harr).mono hle, fun q u hq => ?_, fun q hq => by simp [F', hq]⟩
     simp only [F', if_true] at hq
     split at hq
     ·assumption
     ·simp at hq)
   refine ⟨F', _, hput.1, ⟨hle, hput.2.1, ⟨rfl, rfl, rfl, by simp, fun b hb _ => heap_alloc_old w.drew _ hb⟩, hput.2.2⟩, ?_⟩
   simp only [VRel]
   exact ⟨_, _, rfl, hc1, t, sz, rows ++ xs, fz, (some w.heap.size, cap), by simp [look, fget_fset, show fget fr d j = some _ from hl], by simp [bnd, fget_fset, show fget bs d j = some _ from h4], by simp, fun _ => ⟨rfl, rfl⟩⟩
  have hzs : ∀ k, (Builtin.zeroCells zv.cells k).size = k * sz := fun k => by rw [size_zeroCells, hzc]
  have pref : ∀ (old : List Value) (rest : Array Value) (k : Nat), k < (old ++ news).length → (old.toArray ++ news.toArray ++ rest)[k]? = (old ++ news)[k]? := fun old rest k hk => by
   rw [Array.getElem?_append_left (by simpa using hk)]
   simp
  cases ha : a.1 with
  | none =>
   have hc0 := k5 ha
   have hr0 : rows = [] := List.eq_nil_of_length_eq_zero (by omega)
   subst hr0
   have hrun := run_append_nil (P := P) w T ty t i zv hu hi hiz B xs.length cx news (by rw [hisz]; exact n1) n2' hpos (by omega) (by rw [hiby]; have := hbound; simp at this; omega)
   obtain ⟨F', bs', q1, q2, q3⟩ := moved [] (grownCap w xs.length 0 t) (fun i r h => by simp at h) (by simp) (by simpa using grownCap_ge w xs.length 0 t) (grownCap_le_maxLen w _ _ _ (by omega)) (news.toArray ++ Builtin.zeroCells zv.cells (grownCap w xs.length 0 t - xs.length)) (fun k hk => by simpa using pref [] _ k hk) (by
    have := grownCap_ge w xs.length 0 t
    rw [Array.size_append, hzs, List.size_toArray, n1, ← Nat.add_mul]
    congr 1
    omega)
   refine ⟨_, _, F', bs', ?_, q1, q2, q3⟩
   simpa [hc0] using hrun
  | some g =>
   obtain ⟨arr, g1, g2, g3, g4, g5⟩ := k6 g ha
   have hol : (arr.toList.take (rows.length * sz)).length = rows.length * sz := by
    simp only [List.length_take, Array.length_toList, g2]
    exact Nat.min_eq_left (Nat.mul_le_mul_right _ k2)
   have hread : ∀ (j : Nat) (u : Value), (arr.toList.take (rows.length * sz))[j]? = some u → w.cell? ((⟨g, 0, none⟩ : Addr).add j) = some u := fun j u hu => by
    rw [List.getElem?_take] at hu
    split at hu
    ·rw [add_none, cell_of_row w g _ arr t (0, 0) g1]
     simpa using hu
    ·simp at hu
   by_cases hroom : rows.length + xs.length ≤ a.2
   ·-- in place
    have hfit : rows.length * sz + news.length ≤ arr.size := by rw [n1, g2, ← Nat.add_mul]; exact Nat.mul_le_mul_right _ hroom
    have hrun := run_append_room (P := P) w T ty t i hu hi g rows.length a.2 arr g1 B xs.length cx news (by rw [hisz]; exact n1) n2' n4 hroom (by rw [hisz]; exact hfit)
    rw [hisz] at hrun
    have harr : ∀ q, ((splice arr.toList (rows.length * sz) news).toArray)[q]? = if q < rows.length * sz then arr[q]? else if q < rows.length * sz + news.length then news[q - rows.length * sz]? else arr[q]? := fun q => by
     have := splice_get arr.toList (rows.length * sz) news (by simpa using hfit) q
     simpa using this
    have hput := hm.put (F' := F) (w' := w.setRow g (splice arr.toList (rows.length * sz) news).toArray) (o' := .row t sz (rows ++ xs) fz) (a' := a) hl h4
     (fun b' _ hb' => setRow_other w g b' _ (fun e => by rcases hb' with hb' | hb'; exact hb' (by rw [e]; exact ha); exact hb' trivial)) (Fz.le_refl F) (fun _ _ _ _ => rfl)
     (fun b' q u hb' hq => by
      rcases hb' with hb' | hb'
      ·have := World.block_lt_of_cell? w _ (hm.fz b' q u hq); simp at this; omega
      ·rw [ha] at hb'
       simp at hb'
       obtain ⟨rfl, _⟩ := hb'
       have hql := g4 q u hq
       have hfz : fz * sz ≤ rows.length * sz := Nat.mul_le_mul_right _ (by omega)
       have hc1 := hm.fz g q u hq
       rw [cell_of_row w g q arr t (0, 0) g1] at hc1
       rw [cell_of_row _ g q _ t (0, 0) (setRow_heap w g arr _ t (0, 0) g1), harr, if_pos (by omega)]
       exact hc1)
     (fun b' hb' => .inr ⟨hb', trivial⟩)
     (by simp only [AObj.becomes]; exact ⟨trivial, trivial, by simp, fun _ => trivial⟩)
     (by
      refine ⟨k1, by simp; omega, k3, by simp; omega, k5, fun b' hb' => ?_⟩
      rw [ha] at hb'
      simp at hb'
      subst hb'
      refine ⟨_, setRow_heap w g arr _ t (0, 0) g1, ?_, rowAt_of_parts (rowAt_take g3) hol n5 (fun k hk => ?_), g4, fun q hq => ?_⟩
      ·simp only [List.size_toArray]
       rw [splice_length _ _ _ (by simpa using hfit)]
       simpa using g2
      ·rw [harr]
       simp only [List.length_append, hol] at hk
       rw [List.getElem?_append, hol]
       by_cases hk1 : k < rows.length * sz
       ·rw [if_pos hk1, if_pos hk1, List.getElem?_take, if_pos hk1]
        simp
       ·rw [if_neg hk1, if_pos hk, if_neg hk1]
      ·have hfz : fz * sz ≤ rows.length * sz := Nat.mul_le_mul_right _ (by omega)
       rw [harr, if_pos (by omega)]
       exact g5 q hq)
    refine ⟨_, _, F, _, hrun, hput.1, ⟨Fz.le_refl F, hput.2.1, ⟨rfl, rfl, rfl, by simp [World.setRow], fun b' _ hno => setRow_other w g b' _ (fun e => hno d j ⟨_, a.2, hl, trivial, by rw [h4, e, ← ha]⟩)⟩, hput.2.2⟩, ?_⟩
    simp only [VRel]
    exact ⟨_, _, rfl, hroom, t, sz, rows ++ xs, fz, a, by simp [look, fget_fset, show fget fr d j = some _ from hl], by simp [bnd, fget_fset, show fget bs d j = some _ from h4], by simp, fun _ => by rw [ha]; exact ⟨rfl, rfl⟩⟩
   ·have hrun := run_append_grow (P := P) w T ty t i zv hu hi hiz ⟨g, 0, none⟩ rows.length a.2 (arr.toList.take (rows.length * sz)) (by rw [hisz, hol]) hread B xs.length cx news (by rw [hisz]; exact n1) n2' (by omega) (by omega) (growslice_fits (by omega) (by rw [hiby]; exact hbound))
    obtain ⟨F', bs', q1, q2, q3⟩ := moved _ (grownCap w (rows.length + xs.length) a.2 t) (rowAt_take g3) hol (grownCap_ge ..) (grownCap_le_maxLen w _ _ _ hmax) _ (fun k hk => pref _ (Builtin.zeroCells zv.cells (grownCap w (rows.length + xs.length) a.2 t - (rows.length + xs.length))) k hk) (by
     have := grownCap_ge w (rows.length + xs.length) a.2 t
     simp only [Array.size_append, hzs, List.size_toArray, n1, hol, ← Nat.add_mul]
     congr 1
     omega)
    exact ⟨_, _, F', bs', hrun, q1, q2, q3⟩
end Go.Proofs.YtkjfdacjjogpcaaPi

