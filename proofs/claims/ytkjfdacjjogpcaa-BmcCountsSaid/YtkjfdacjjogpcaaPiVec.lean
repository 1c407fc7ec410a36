/- Slices of handles or numbers that grow, shrink and are handed on (vec): what is appended, and that the model does it. No Go text in it. -/
import Derived.Test.YtkjfdacjjogpcaaPiRow
set_option linter.unusedVariables false
set_option linter.unusedSimpArgs false
namespace Go.Proofs.YtkjfdacjjogpcaaPi
variable {P : Program}

def VSrc (F : Fz) (bs : Bns) (fr : Frs) (w : World) (x : Value) (ys : List PV) : Prop :=
 ∃ A c, ∃ news : List Value, x = .slice A ys.length c ∧ (∀ a, A = some a → ∀ (j : Nat) (u : Value), news[j]? = some u → w.cell? (a.add j) = some u) ∧ (A = none → ys = []) ∧ (∀ u ∈ news, u.oneCell' = true) ∧ VRels F bs fr ys news
def rowCell (r : List Im) : PV := .im (r.headD (.bool false))
def cellsOfV (fr : Frs) : PV → Option (List PV)
 | .vs d j o n g => match look fr d j with
  | some (.vec _ g' cs) => if g = g' ∧ cs.all onePV = true then some (((cs.drop o).take n).map (PV.upN d)) else none
  | _ => none
 | x => (rowsPV fr x).bind fun rows => if rows.all (fun r => r.length == 1) = true then some (rows.map rowCell) else none
theorem rowCell_rel {F : Fz} {bs : Bns} {fr : Frs} {rows : List (List Im)} {news : List Value} (hl : news.length = rows.length * 1) (h : ∀ (i : Nat) (r : List Im), rows[i]? = some r → r.length = 1 ∧ ∀ (q : Nat) (y : Im), r[q]? = some y → ∃ u : Value, news[i * 1 + q]? = some u ∧ IRel F y u) : VRels F bs fr (rows.map rowCell) news :=
 VRels.mk (by simp; omega) fun j x v hx hv => by
  rw [List.getElem?_map, Option.map_eq_some_iff] at hx
  obtain ⟨r, hr, rfl⟩ := hx
  obtain ⟨h1, h2⟩ := h j r hr
  match r, h1 with
  | [y], _ =>
   obtain ⟨u, h3, h4⟩ := h2 0 y rfl
   simp only [Nat.mul_one, Nat.add_zero] at h3
   rw [hv] at h3
   cases h3
   simpa only [rowCell, List.headD_cons, VRel] using h4
theorem vsrc_ok {F : Fz} {bs : Bns} {fr : Frs} {w : World} (hm : MRel F bs fr w) {x : PV} {v : Value} {ys : List PV} (hy : cellsOfV fr x = some ys) (hx : VRel F bs fr x v) : VSrc F bs fr w v ys := by
 have old : ∀ {rows : List (List Im)}, rowsPV fr x = some rows → rows.all (fun r => r.length == 1) = true → VSrc F bs fr w v (rows.map rowCell) := fun {rows} h1 h2 => by
  have h3 := src_ok (sz := 1) hm h1 hx (fun r hr => by simpa using List.all_eq_true.1 h2 r hr)
  obtain ⟨A, c, news, rfl, n1, n2, n3, n4, n5⟩ := h3
  exact ⟨A, c, news, by simp, n2, fun e => by rw [n3 e]; rfl, n4, rowCell_rel n1 n5⟩
 cases x
 case vs d j o n g =>
  simp only [cellsOfV] at hy
  split at hy
  ·rename_i t g' cs hlk
   split at hy
   ·rename_i hc
    obtain ⟨hg, hone⟩ := hc
    simp only [Option.some.injEq] at hy
    subst hy
    simp only [VRel] at hx
    obtain ⟨A, c, rfl, h2, t2, g2, cs2, a, h3, h4, h5, h6⟩ := hx
    rw [hlk] at h3
    cases h3
    obtain ⟨h7, h8, h9⟩ := h6 hg
    obtain ⟨k1, k2, k3, k4⟩ := hm.obj d j _ _ hlk h4
    have hlen := hm.len
    have hd : d ≤ fr.length := Nat.le_of_lt (fget_lt hlk)
    have hln : (((cs.drop o).take n).map (PV.upN d)).length = n := by simp only [List.length_map, List.length_take, List.length_drop]; omega
    cases ha : a.1 with
    | none =>
     have hc0 := k3 ha
     have hn0 : n = 0 := by omega
     subst hn0
     exact ⟨A, c, [], by simp, fun a' _ j' u h => by simp at h, fun _ => by simp, fun u h => by simp at h, by simp [VRels]⟩
    | some b =>
     obtain ⟨arr, k5, k6, k7, k8⟩ := k4 b ha
     refine ⟨A, c, ((arr.toList.take cs.length).drop o).take n, by rw [hln], fun p hp j' u hu => ?_, fun e => ?_, fun u hu => ?_, VRels.upN hlen hd ((k7.drop o).take n)⟩
     ·rw [List.getElem?_take] at hu
      split at hu
      ·rename_i hj
       rw [h9 (by omega), ha] at hp
       simp only [Option.map_some, Option.some.injEq] at hp
       subst hp
       rw [add_none, cell_of_row w b _ arr t (0, 0) k5]
       rw [List.getElem?_drop, List.getElem?_take] at hu
       split at hu
       ·simpa using hu
       ·simp at hu
      ·simp at hu
     ·by_cases hc : 0 < c
      ·rw [h9 hc, ha] at e
       simp at e
      ·exact List.eq_nil_of_length_eq_zero (by rw [hln]; omega)
     ·exact k7.ones hone u (List.mem_of_mem_drop (List.mem_of_mem_take hu))
   ·simp at hy
  ·simp at hy
 all_goals
  simp only [cellsOfV, Option.bind_eq_some_iff] at hy
  obtain ⟨rows, h1, h2⟩ := hy
  split at h2
  ·rename_i hall
   simp only [Option.some.injEq] at h2
   subst h2
   exact old h1 hall
  ·simp at h2
theorem VSrc.len {F : Fz} {bs : Bns} {fr : Frs} {w : World} {x : Value} {ys : List PV} (h : VSrc F bs fr w x ys) : ∃ A c news, x = .slice A ys.length c ∧ news.length = ys.length ∧ VRels F bs fr ys news := by
 obtain ⟨A, c, news, h1, _, _, _, h5⟩ := h
 exact ⟨A, c, news, h1, h5.length, h5⟩

theorem append_vs_ok {F : Fz} {bs : Bns} {fr : Frs} {w : World} (hm : MRel F bs fr w) {d j n g : Nat} {v x : Value} {T t bytes : Nat} {cs ys zs : List PV} {z : PV} (ty : TypeId)
  (hs : VRel F bs fr (.vs d j 0 n g) v) (hl : look fr d j = some (.vec t g cs)) (ht : elemT P T = some t) (hsz : sizeT P t = some 1) (hby : bytesT P t = some bytes) (hz : zeroT P t = some [z])
  (hb1 : 0 < bytes) (hx : VSrc F bs fr w x ys) (hdn : downsN d ys = some zs) (hbound : (n + ys.length) * bytes ≤ 140737488355328) :
  ∃ v' w' F' bs', (Builtin.append_ #[T, T] ty #[v, x]).run P w = .ok v' w' ∧ MRel F' bs' (fset fr d j (.vec t (g + 1) (cs.take n ++ zs))) w' ∧ CStep F bs fr w F' bs' (fset fr d j (.vec t (g + 1) (cs.take n ++ zs))) w' ∧ VRel F' bs' (fset fr d j (.vec t (g + 1) (cs.take n ++ zs))) (.vs d j 0 (n + ys.length) (g + 1)) v' := by
 obtain ⟨zv, hz1, hz2, i, hi, hiz⟩ := zeroT_run hz w
 have hzc : zv.cells.size = 1 := by have := (hz2 F bs fr).length; simp at this; omega
 have hisz : i.size = 1 := by simp [sizeT, hi] at hsz; exact hsz
 have hiby : i.bytes = bytes := by simp [bytesT, hi] at hby; exact hby
 have hu := elemT_some ht
 have hlen := hm.len
 have hd : d ≤ fr.length := Nat.le_of_lt (fget_lt hl)
 simp only [VRel] at hs
 obtain ⟨A, c, rfl, h2, t', g', cs', a, h3, h4, h5, h6⟩ := hs
 rw [hl] at h3
 cases h3
 obtain ⟨h7, h8, h9⟩ := h6 rfl
 obtain ⟨k1, k2, k3, k4⟩ := hm.obj d j _ _ hl h4
 obtain ⟨B, cx, news, rfl, n2, n3, n4, n5⟩ := hx
 have n1 := n5.length
 have hzn := VRels.downN hlen hd hdn n5
 have hzl := hzn.length
 simp only [Nat.zero_add] at h7
 have hca : c = a.2 := by omega
 subst hca
 have hsmall : n + ys.length ≤ 140737488355328 := by
  have := Nat.le_mul_of_pos_right (n + ys.length) hb1
  omega
 have hmax : n + ys.length ≤ maxLen := by simp only [maxLen]; omega
 have hctl : (cs.take n).length = n := by simp; omega
 have hnl : (cs.take n ++ zs).length = n + ys.length := by rw [List.length_append, hctl]; omega
 have hlk2 : look (fset fr d j (.vec t (g + 1) (cs.take n ++ zs))) d j = some (.vec t (g + 1) (cs.take n ++ zs)) := by simp [look, fget_fset, show fget fr d j = some _ from hl]
 have hevg : ∀ a' : Bnd, Evolve (bs.drop d) (fr.drop d) ((fset bs d j a').drop d) ((fset fr d j (.vec t (g + 1) (cs.take n ++ zs))).drop d) := fun a' => by
  refine Evolve.drop (fun d' j' o1 a1 q1 q2 => ?_) d
  simp only [look, bnd, fget_fset]
  by_cases he : d' = d ∧ j' = j
  ·obtain ⟨rfl, rfl⟩ := he
   rw [hl] at q1; rw [h4] at q2
   cases q1; cases q2
   exact ⟨.vec t (g + 1) (cs.take n ++ zs), a', by simp [show fget fr d' j' = some _ from hl], by simp [show fget bs d' j' = some _ from h4], by simp only [AObj.becomes]; exact ⟨trivial, by omega, fun e => by omega⟩⟩
  ·exact ⟨o1, a1, by rw [if_neg he]; exact q1, by rw [if_neg he]; exact q2, o1.becomes_refl a1⟩
 have moved : ∀ (old : List Value) (cap : Nat), VRels F (bs.drop d) (fr.drop d) (cs.take n) old → n + ys.length ≤ cap → cap ≤ maxLen → ∀ (arr : Array Value), (∀ k, k < (old ++ news).length → arr[k]? = (old ++ news)[k]?) → arr.size = cap →
   ∃ F' bs', MRel F' bs' (fset fr d j (.vec t (g + 1) (cs.take n ++ zs))) (w.drew.alloc (.cells arr t)) ∧ CStep F bs fr w F' bs' (fset fr d j (.vec t (g + 1) (cs.take n ++ zs))) (w.drew.alloc (.cells arr t)) ∧
    VRel F' bs' (fset fr d j (.vec t (g + 1) (cs.take n ++ zs))) (.vs d j 0 (n + ys.length) (g + 1)) (.slice (some ⟨w.heap.size, 0, none⟩) (n + ys.length) cap) := by
  intro old cap ho hc1 hc2 arr harr hars
  have hol : old.length = n := by rw [ho.length, hctl]
  have hnone : ∀ q, F w.heap.size q = none := fun q => by
   cases hq : F w.heap.size q with
   | none => rfl
   | some u =>
    have := World.block_lt_of_cell? w _ (hm.fz _ _ _ hq)
    simp at this
  have hput := hm.put (F' := F) (w' := w.drew.alloc (.cells arr t)) (o' := .vec t (g + 1) (cs.take n ++ zs)) (a' := (some w.heap.size, cap)) hl h4
   (fun b hb _ => heap_alloc_old w.drew _ hb) (Fz.le_refl F) (fun b q hb _ => rfl)
   (fun b q u hb hq => by
    have hcell := hm.fz b q u hq
    have hlt := World.block_lt_of_cell? w _ hcell
    rw [← hcell]
    exact World.cell?_of_block (heap_alloc_old w.drew _ hlt))
   (fun b hb => by simp at hb; exact .inl (by omega))
   (by simp only [AObj.becomes]; exact ⟨trivial, by omega, fun e => by omega⟩)
   (by
    refine ⟨by rw [hnl]; exact hc1, hc2, fun e => by simp at e, fun b hb => ?_⟩
    simp at hb
    subst hb
    refine ⟨arr, heap_alloc_new w.drew _, hars, VRels.move (Fz.le_refl F) (hevg _) ?_, hnone⟩
    have he : arr.toList.take (cs.take n ++ zs).length = old ++ news := by
     apply List.ext_getElem?
     intro k
     rw [List.getElem?_take]
     have hlo : (old ++ news).length = n + ys.length := by simp; omega
     rw [hnl]
     by_cases hk : k < n + ys.length
     ·rw [if_pos hk, ← harr k (by omega)]
      simp
     ·rw [if_neg hk, List.getElem?_eq_none (by omega)]
    rw [he]
    exact ho.append hzn)
  refine ⟨F, _, hput.1, ⟨Fz.le_refl F, hput.2.1, ⟨rfl, rfl, rfl, by simp, fun b hb _ => heap_alloc_old w.drew _ hb⟩, hput.2.2⟩, ?_⟩
  simp only [VRel]
  exact ⟨_, _, rfl, hc1, t, g + 1, cs.take n ++ zs, (some w.heap.size, cap), hlk2, by simp [bnd, fget_fset, show fget bs d j = some _ from h4], Nat.le_refl _, fun _ => ⟨by omega, by simp, fun _ => rfl⟩⟩
 by_cases hm0 : ys = []
 ·-- nothing is appended
  subst hm0
  have hnews : news = [] := List.eq_nil_of_length_eq_zero (by simpa using n1)
  subst hnews
  have hzs : zs = [] := List.eq_nil_of_length_eq_zero (by simpa using hzl.symm)
  subst hzs
  have hput := hm.put (F' := F) (w' := w) (o' := .vec t (g + 1) (cs.take n ++ [])) (a' := a) hl h4 (fun _ _ _ => rfl) (Fz.le_refl F) (fun _ _ _ _ => rfl) (fun b q u _ hq => hm.fz b q u hq)
   (fun b hb => .inr ⟨hb, trivial⟩) (by simp only [AObj.becomes]; exact ⟨trivial, by omega, fun e => by omega⟩)
   (by
    refine ⟨by rw [hnl]; simp; omega, k2, k3, fun b hb => ?_⟩
    obtain ⟨arr, k5, k6, k7, k8⟩ := k4 b hb
    refine ⟨arr, k5, k6, VRels.move (Fz.le_refl F) (hevg _) ?_, k8⟩
    have := k7.take n
    rw [List.take_take] at this
    simpa [hctl, Nat.min_eq_left h7] using this)
  refine ⟨_, w, F, _, ?_, hput.1, ⟨Fz.le_refl F, hput.2.1, .refl _ _ _, hput.2.2⟩, by
   simp only [VRel]
   exact ⟨A, _, rfl, by simpa using h2, t, g + 1, cs.take n ++ [], a, hlk2, by simp [bnd, fget_fset, show fget bs d j = some _ from h4], Nat.le_refl _, fun _ => ⟨by simp; omega, by simp, h9⟩⟩⟩
  cases B with
  | none => cases A <;> simp [Builtin.append_, run_underlying hu, sizeOf, typeInfo, hi, Builtin.lenOf, h2, Builtin.firstCells, storeCells]
  | some B => cases A <;> simp [Builtin.append_, run_underlying hu, sizeOf, typeInfo, hi, Builtin.lenOf, h2, Builtin.firstCells, storeCells, loadCells, loadCellsFrom]
 ·have hpos : 0 < ys.length := List.length_pos_iff.2 hm0
  obtain ⟨B, rfl⟩ : ∃ b, B = some b := by
   cases B with
   | none => exact absurd (n3 rfl) hm0
   | some b => exact ⟨b, rfl⟩
  have n2' := n2 B rfl
  have hzs : ∀ k, (Builtin.zeroCells zv.cells k).size = k := fun k => by rw [size_zeroCells, hzc, Nat.mul_one]
  have pref : ∀ (old : List Value) (rest : Array Value) (k : Nat), k < (old ++ news).length → (old.toArray ++ news.toArray ++ rest)[k]? = (old ++ news)[k]? := fun old rest k hk => by
   rw [Array.getElem?_append_left (by simpa using hk)]
   simp
  by_cases hc0 : a.2 = 0
  ·-- nothing was there
   have hn0 : n = 0 := by omega
   subst hn0
   have key : ∃ v', (Builtin.append_ #[T, T] ty #[.slice A 0 a.2, .slice (some B) ys.length cx]).run P w = .ok v' (w.drew.alloc (.cells (news.toArray ++ Builtin.zeroCells zv.cells (grownCap w ys.length 0 t - ys.length)) t)) ∧ v' = .slice (some ⟨w.heap.size, 0, none⟩) ys.length (grownCap w ys.length 0 t) := by
    refine ⟨_, ?_, rfl⟩
    rw [hc0]
    cases hA : A with
    | none => exact run_append_nil (P := P) w T ty t i zv hu hi hiz B ys.length cx news (by rw [hisz]; omega) n2' hpos (by omega) (by rw [hiby]; have := hbound; simp at this; omega)
    | some g0 =>
     have := run_append_grow (P := P) w T ty t i zv hu hi hiz g0 0 0 [] (by simp) (fun j u h => by simp at h) B ys.length cx news (by rw [hisz]; omega) n2' (by omega) (by omega) (growslice_fits (by omega) (by rw [hiby]; simpa using hbound))
     simpa using this
   obtain ⟨v', hrun, rfl⟩ := key
   obtain ⟨F', bs', q1, q2, q3⟩ := moved [] (grownCap w ys.length 0 t) (by simp [VRels]) (by simpa using grownCap_ge w ys.length 0 t) (grownCap_le_maxLen w _ _ _ (by omega)) (news.toArray ++ Builtin.zeroCells zv.cells (grownCap w ys.length 0 t - ys.length)) (fun k hk => by simpa using pref [] _ k hk) (by
    have := grownCap_ge w ys.length 0 t
    rw [Array.size_append, hzs, List.size_toArray]
    omega)
   exact ⟨_, _, F', bs', hrun, q1, q2, by simpa using q3⟩
  ·obtain ⟨b, ha⟩ : ∃ b, a.1 = some b := by
    cases h : a.1 with
    | none => exact absurd (k3 h) hc0
    | some b => exact ⟨b, rfl⟩
   have hA := h9 (by omega)
   rw [ha] at hA
   simp only [Option.map_some] at hA
   subst hA
   obtain ⟨arr, g1, g2, g3, g4⟩ := k4 b ha
   have hold : VRels F (bs.drop d) (fr.drop d) (cs.take n) (arr.toList.take n) := by
    have := g3.take n
    rwa [List.take_take, Nat.min_eq_left h7] at this
   have hol : (arr.toList.take n).length = n := by simp; omega
   have hread : ∀ (j : Nat) (u : Value), (arr.toList.take n)[j]? = some u → w.cell? ((⟨b, 0, none⟩ : Addr).add j) = some u := fun j u hu => by
    rw [List.getElem?_take] at hu
    split at hu
    ·rw [add_none, cell_of_row w b _ arr t (0, 0) g1]
     simpa using hu
    ·simp at hu
   by_cases hroom : n + ys.length ≤ a.2
   ·-- in place
    have hfit : n * 1 + news.length ≤ arr.size := by omega
    have hrun := run_append_room (P := P) w T ty t i hu hi b n a.2 arr g1 B ys.length cx news (by rw [hisz]; omega) n2' n4 hroom (by rw [hisz]; exact hfit)
    rw [hisz, Nat.mul_one] at hrun
    rw [Nat.mul_one] at hfit
    have hsp : (splice arr.toList n news).take (n + ys.length) = arr.toList.take n ++ news := by
     unfold splice
     rw [List.take_left' (by simp; omega)]
    have hput := hm.put (F' := F) (w' := w.setRow b (splice arr.toList n news).toArray) (o' := .vec t (g + 1) (cs.take n ++ zs)) (a' := a) hl h4
     (fun b' _ hb' => setRow_other w b b' _ (fun e => by rcases hb' with hb' | hb'; exact hb' (by rw [e]; exact ha); exact hb' trivial)) (Fz.le_refl F) (fun _ _ _ _ => rfl)
     (fun b' q u hb' hq => by
      rcases hb' with hb' | hb'
      ·have := World.block_lt_of_cell? w _ (hm.fz b' q u hq); simp at this; omega
      ·rw [ha] at hb'
       simp only [Option.some.injEq] at hb'
       rw [← hb'.1, g4] at hq
       simp at hq)
     (fun b' hb' => .inr ⟨hb', trivial⟩)
     (by simp only [AObj.becomes]; exact ⟨trivial, by omega, fun e => by omega⟩)
     (by
      refine ⟨by rw [hnl]; exact hroom, k2, k3, fun b' hb' => ?_⟩
      rw [ha] at hb'
      simp only [Option.some.injEq] at hb'
      subst hb'
      refine ⟨_, setRow_heap w b arr _ t (0, 0) g1, ?_, VRels.move (Fz.le_refl F) (hevg _) ?_, g4⟩
      ·simp only [List.size_toArray]
       rw [splice_length _ _ _ (by simpa using hfit)]
       simpa using g2
      ·rw [hnl, hsp]
       exact hold.append hzn)
    refine ⟨_, _, F, _, hrun, hput.1, ⟨Fz.le_refl F, hput.2.1, ⟨rfl, rfl, rfl, by simp [World.setRow], fun b' _ hno => setRow_other w b b' _ (fun e => hno d j ⟨_, a.2, hl, trivial, by rw [h4, e, ← ha]⟩)⟩, hput.2.2⟩, ?_⟩
    simp only [VRel]
    exact ⟨_, _, rfl, hroom, t, g + 1, cs.take n ++ zs, a, hlk2, by simp [bnd, fget_fset, show fget bs d j = some _ from h4], Nat.le_refl _, fun _ => ⟨by omega, by simp, fun _ => by rw [ha]; rfl⟩⟩
   ·have hrun := run_append_grow (P := P) w T ty t i zv hu hi hiz ⟨b, 0, none⟩ n a.2 (arr.toList.take n) (by rw [hisz, hol]; omega) hread B ys.length cx news (by rw [hisz]; omega) n2' (by omega) (by omega) (growslice_fits (by omega) (by rw [hiby]; exact hbound))
    obtain ⟨F', bs', q1, q2, q3⟩ := moved _ (grownCap w (n + ys.length) a.2 t) hold (grownCap_ge ..) (grownCap_le_maxLen w _ _ _ hmax) _ (fun k hk => pref _ (Builtin.zeroCells zv.cells (grownCap w (n + ys.length) a.2 t - (n + ys.length))) k hk) (by
     have := grownCap_ge w (n + ys.length) a.2 t
     simp only [Array.size_append, hzs, List.size_toArray, n1, hol]
     omega)
    exact ⟨_, _, F', bs', hrun, q1, q2, q3⟩
end Go.Proofs.YtkjfdacjjogpcaaPi

