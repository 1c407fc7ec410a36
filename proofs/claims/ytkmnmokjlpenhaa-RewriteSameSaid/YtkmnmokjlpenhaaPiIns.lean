/- slices.Insert of one number into a row of numbers of the caller's: the kit's contracts laid at it, as a contract of our logic. -/
import Derived.Shelf.Spec.SlicesInsert
import Derived.Shelf.Spec.SlicesInsertGrow
import Derived.Test.YtkmnmokjlpenhaaWA
import Derived.Test.YtkmnmokjlpenhaaProg
set_option linter.unusedVariables false
set_option linter.unusedSimpArgs false
namespace Go.Proofs.YtkmnmokjlpenhaaPi
open Go Go.Shelf

def insI_ren : Go.Shelf.Ren := ⟨fun | 21 => 37 | 27 => 93 | 28 => 94 | 35 => 141 | 39 => 157 | n => n, fun | 0 => 0 | 3 => 3 | 4 => 4 | 22 => 22 | n => n, fun | n => n⟩
theorem insI_lay : Lays2.n21 Try.prog insI_ren := {
  mixed := by kernel_rfl,
  f21 := Try.func37.trans (congrArg some (by kernel_rfl)),
  f27 := Try.func93.trans (congrArg some (by kernel_rfl)),
  f28 := Try.func94.trans (congrArg some (by kernel_rfl)),
  f35 := Try.func141.trans (congrArg some (by kernel_rfl)),
  f39 := Try.func157.trans (congrArg some (by kernel_rfl)),
  t0 := Try.underlying0, a0 := Try.isAgg0, z0 := Try.sizeOf0, v0 := Try.zeroValue0,
  t3 := Try.underlying3, a3 := Try.isAgg3, z3 := Try.sizeOf3, v3 := Try.zeroValue3,
  t4 := Try.underlying4, a4 := Try.isAgg4, z4 := Try.sizeOf4, v4 := Try.zeroValue4,
  t22 := Try.underlying22, a22 := Try.isAgg22, z22 := Try.sizeOf22, v22 := Try.zeroValue22,
  i3 := by kernel_rfl }

theorem setCell_at {w : World} {b o : Nat} {v : Value} {arr : Array Value} {t : TypeId} {fr : Nat × Nat} (h : w.heap[b]? = some (.cells arr t fr)) : (w.setCell ⟨b, o, none⟩ v).heap[b]? = some (.cells (arr.setIfInBounds o v) t fr) := by
  simp [World.setCell, Array.getElem?_modify, h]
theorem setCell_ne {w : World} {b b' o : Nat} {v : Value} (h : b' ≠ b) : (w.setCell ⟨b, o, none⟩ v).heap[b']? = w.heap[b']? := by
  simp only [World.setCell, Array.getElem?_modify]
  rw [if_neg (fun e => h e.symm)]
theorem setCells_ne {b b' : Nat} (h : b' ≠ b) : ∀ (vs : List Value) (o : Nat) (w : World), (w.setCells b o vs).heap[b']? = w.heap[b']?
  | [], _, _ => rfl
  | v :: r, o, w => by rw [World.setCells, setCells_ne h r, setCell_ne h]
theorem setCells_at {b : Nat} {t : TypeId} {fr : Nat × Nat} : ∀ (vs : List Value) (o : Nat) (w : World) (arr : Array Value), w.heap[b]? = some (.cells arr t fr) →
    ∃ arr', (w.setCells b o vs).heap[b]? = some (.cells arr' t fr) ∧ arr'.size = arr.size ∧ ∀ q, arr'[q]? = if o ≤ q ∧ q < o + vs.length ∧ q < arr.size then vs[q - o]? else arr[q]?
  | [], o, w, arr, h => ⟨arr, h, rfl, fun q => by rw [if_neg (by simp; omega)]⟩
  | v :: r, o, w, arr, h => by
    obtain ⟨arr', h1, h2, h3⟩ := setCells_at r (o + 1) (w.setCell ⟨b, o, none⟩ v) _ (setCell_at (o := o) (v := v) h)
    refine ⟨arr', h1, by simpa using h2, fun q => ?_⟩
    rw [h3, Array.getElem?_setIfInBounds]
    simp only [Array.size_setIfInBounds, List.length_cons]
    by_cases hq : o = q
    · subst hq
      rw [if_neg (by omega), if_pos rfl]
      by_cases hs : o < arr.size
      · rw [if_pos hs, if_pos (by omega)]; simp
      · rw [if_neg hs, if_neg (by omega), Array.getElem?_eq_none (by omega)]
    · rw [if_neg hq]
      by_cases hc : o + 1 ≤ q ∧ q < o + 1 + r.length ∧ q < arr.size
      · rw [if_pos hc, if_pos (by omega), show q - o = (q - (o + 1)) + 1 by omega, List.getElem?_cons_succ]
      · rw [if_neg hc, if_neg (by omega)]
theorem setCells_rest (b : Nat) : ∀ (vs : List Value) (o : Nat) (w : World), (w.setCells b o vs).os = w.os ∧ (w.setCells b o vs).tape = w.tape ∧ (w.setCells b o vs).output = w.output ∧ (w.setCells b o vs).heap.size = w.heap.size
  | [], _, _ => ⟨rfl, rfl, rfl, rfl⟩
  | v :: r, o, w => by
    obtain ⟨h1, h2, h3, h4⟩ := setCells_rest b r (o + 1) (w.setCell ⟨b, o, none⟩ v)
    exact ⟨h1, h2, h3, by rw [World.setCells, h4]; simp [World.setCell]⟩

/-- A row's rows change, in a new block. -/
theorem row_new {F : Fz} {bs : Bns} {fr : Frs} {w w' : World} (hm : MRel F bs fr w) {d j t sz cap : Nat} {rows rows' : List (List Im)} {a : Bnd} {arr : Array Value} (hl : look fr d j = some (.row t sz rows 0)) (h4 : bnd bs d j = some a) (hsz : 0 < sz)
    (hlen : rows.length < rows'.length) (hcap : rows'.length ≤ cap) (hmax : cap ≤ maxLen) (hold : ∀ b, b < w.heap.size → w'.heap[b]? = w.heap[b]?) (hnew : w'.heap[w.heap.size]? = some (.cells arr t (0, 0))) (hs : arr.size = cap * sz) (hr : RowAt F arr sz rows')
    (e1 : w'.os = w.os) (e2 : w'.tape = w.tape) (e3 : w'.output = w.output) (e4 : w.heap.size ≤ w'.heap.size) :
    ∃ bs', MRel F bs' (fset fr d j (.row t sz rows' 0)) w' ∧ CStep F bs fr w F bs' (fset fr d j (.row t sz rows' 0)) w' ∧ VRel F bs' (fset fr d j (.row t sz rows' 0)) (.ms d j rows'.length) (.slice (some ⟨w.heap.size, 0, none⟩) rows'.length cap) := by
  have hnone : ∀ q, F w.heap.size q = none := fun q => by
    cases hq : F w.heap.size q with
    | none => rfl
    | some u =>
      have := World.block_lt_of_cell? w _ (hm.fz _ _ _ hq)
      simp at this
  have hput := hm.put (F' := F) (w' := w') (o' := .row t sz rows' 0) (a' := (some w.heap.size, cap)) hl h4
    (fun b hb _ => hold b hb) (Fz.le_refl F) (fun b q hb _ => rfl)
    (fun b q u hb hq => by
      have hcell := hm.fz b q u hq
      have hlt := World.block_lt_of_cell? w _ hcell
      rw [← hcell]
      exact World.cell?_of_block (hold b hlt))
    (fun b hb => by simp at hb; exact .inl (by omega))
    (by simp only [AObj.becomes]; exact ⟨trivial, trivial, by omega, fun e => by omega⟩)
    ⟨hsz, hcap, hmax, Nat.zero_le _, fun e => by simp at e, fun b hb => by
      simp at hb
      subst hb
      exact ⟨arr, hnew, hs, hr, fun q u hq => by rw [hnone] at hq; simp at hq, fun q hq => by simp at hq⟩⟩
  refine ⟨_, hput.1, ⟨Fz.le_refl F, hput.2.1, ⟨e1, e2, e3, e4, fun b hb _ => hold b hb⟩, hput.2.2⟩, ?_⟩
  simp only [VRel]
  exact ⟨_, _, rfl, hcap, t, sz, rows', 0, (some w.heap.size, cap), by simp [look, fget_fset, show fget fr d j = some _ from hl], by simp [bnd, fget_fset, show fget bs d j = some _ from h4], by simp, fun _ => ⟨rfl, rfl⟩⟩
/-- A row's rows change, in place. -/
theorem row_same {F : Fz} {bs : Bns} {fr : Frs} {w w' : World} (hm : MRel F bs fr w) {d j t sz g : Nat} {rows rows' : List (List Im)} {a : Bnd} {arr : Array Value} (hl : look fr d j = some (.row t sz rows 0)) (h4 : bnd bs d j = some a) (ha : a.1 = some g)
    (hlen : rows.length ≤ rows'.length) (hcap : rows'.length ≤ a.2) (hold : ∀ b, b ≠ g → w'.heap[b]? = w.heap[b]?) (hnew : w'.heap[g]? = some (.cells arr t (0, 0))) (hs : arr.size = a.2 * sz) (hr : RowAt F arr sz rows')
    (e1 : w'.os = w.os) (e2 : w'.tape = w.tape) (e3 : w'.output = w.output) (e4 : w'.heap.size = w.heap.size) :
    ∃ bs', MRel F bs' (fset fr d j (.row t sz rows' 0)) w' ∧ CStep F bs fr w F bs' (fset fr d j (.row t sz rows' 0)) w' ∧ VRel F bs' (fset fr d j (.row t sz rows' 0)) (.ms d j rows'.length) (.slice (some ⟨g, 0, none⟩) rows'.length a.2) := by
  obtain ⟨k1, k2, k3, k4, k5, k6⟩ := hm.obj d j _ _ hl h4
  obtain ⟨arr0, g1, g2, g3, g4, g5⟩ := k6 g ha
  have hnone : ∀ q, F g q = none := fun q => by
    cases hq : F g q with
    | none => rfl
    | some u => have := g4 q u hq; omega
  have hput := hm.put (F' := F) (w' := w') (o' := .row t sz rows' 0) (a' := a) hl h4
    (fun b _ hb => hold b (fun e => by rcases hb with hb | hb; exact hb (by rw [e]; exact ha); exact hb trivial)) (Fz.le_refl F) (fun b q hb _ => rfl)
    (fun b q u hb hq => by
      have hcell := hm.fz b q u hq
      rw [← hcell]
      refine World.cell?_of_block (hold b (fun e => ?_))
      subst e
      rw [hnone] at hq
      simp at hq)
    (fun b hb => .inr ⟨hb, trivial⟩)
    (by simp only [AObj.becomes]; exact ⟨trivial, trivial, hlen, fun e => trivial⟩)
    ⟨k1, hcap, k3, Nat.zero_le _, k5, fun b hb => by
      rw [ha] at hb
      simp at hb
      subst hb
      exact ⟨arr, hnew, hs, hr, fun q u hq => by rw [hnone] at hq; simp at hq, fun q hq => by simp at hq⟩⟩
  refine ⟨_, hput.1, ⟨Fz.le_refl F, hput.2.1, ⟨e1, e2, e3, by omega, fun b hb hno => hold b (fun e => hno d j ⟨_, a.2, hl, trivial, by rw [h4, e, ← ha]⟩)⟩, hput.2.2⟩, ?_⟩
  simp only [VRel]
  exact ⟨_, _, rfl, hcap, t, sz, rows', 0, a, by simp [look, fget_fset, show fget fr d j = some _ from hl], by simp [bnd, fget_fset, show fget bs d j = some _ from h4], by simp, fun _ => by rw [ha]; exact ⟨rfl, rfl⟩⟩

theorem rowInts {F : Fz} {arr : Array Value} {l : List Int} : RowAt F arr 1 (ints l) ↔ ∀ (q : Nat) (y : Int), l[q]? = some y → arr[q]? = some (.int .i64 y) := by
  constructor
  · intro h q y hy
    obtain ⟨_, h2⟩ := h q [.int .i64 y] (by simp [hy])
    obtain ⟨v, h3, h4⟩ := h2 0 (.int .i64 y) rfl
    simp only [IRel] at h4
    subst h4
    simpa using h3
  · intro h q r hr
    simp only [List.getElem?_map, Option.map_eq_some_iff] at hr
    obtain ⟨y, hy, rfl⟩ := hr
    refine ⟨rfl, fun p x hx => ?_⟩
    cases p with
    | succ p => simp at hx
    | zero =>
      simp at hx
      subst hx
      exact ⟨.int .i64 y, by simpa using h q y hy, by simp [IRel]⟩
theorem ins_get (l : List Int) (i : Nat) (x : Int) (hi : i ≤ l.length) (q : Nat) : (l.take i ++ [x] ++ l.drop i)[q]? = if q < i then l[q]? else if q = i then some x else l[q - 1]? := by
  have hlt : (l.take i).length = i := by rw [List.length_take]; omega
  by_cases h1 : q < i
  · rw [if_pos h1, List.append_assoc, List.getElem?_append_left (by omega), List.getElem?_take, if_pos h1]
  · rw [if_neg h1, List.append_assoc, List.getElem?_append_right (by omega), hlt]
    by_cases h2 : q = i
    · subst h2; simp
    · rw [if_neg h2, show q - i = (q - i - 1) + 1 by omega]
      simp only [List.singleton_append, List.getElem?_cons_succ, List.getElem?_drop]
      congr 1
      omega
def insL (l : List Int) (i : Nat) (x : Int) : List Int := l.take i ++ [x] ++ l.drop i
theorem insL_len (l : List Int) (i : Nat) (x : Int) (hi : i ≤ l.length) : (insL l i x).length = l.length + 1 := by
  simp only [insL, List.length_append, List.length_take, List.length_drop, List.length_cons, List.length_nil]
  omega
theorem insI_ok (j j2 n i : Nat) (x : Int) (l : List Int) (fz2 : Nat) (f0 : List AObj) (rest : Frs) (hl : f0[j]? = some (.row 3 1 (ints l) 0)) (hl2 : f0[j2]? = some (.row 3 1 (ints [x]) fz2)) (hj : j ≠ j2) (hn : l.length = n) (hi : i ≤ n) (hb : n ≤ 1000) :
    ACalls Try.prog 37 [.ms 0 j n, .im (.int .i64 i), .ms 0 j2 1] (f0 :: rest) fun v u => v = .ms 0 j (n + 1) ∧ u = f0.set j (.row 3 1 (ints (insL l i x)) 0) :: rest := by
  intro F bs w vs hm hv
  subst hn
  have hil : (ints l).length = l.length := by simp
  have hlook : look (f0 :: rest) 0 j = some (.row 3 1 (ints l) 0) := hl
  have hlook2 : look (f0 :: rest) 0 j2 = some (.row 3 1 (ints [x]) fz2) := hl2
  obtain ⟨vl⟩ := vs
  simp only [VRels] at hv
  obtain ⟨v1, r1, rfl, h1, v2, r2, rfl, h2, v3, r3, rfl, h3, rfl⟩ := hv
  simp only [VRel, IRel] at h1 h2 h3
  subst h2
  obtain ⟨A, c, rfl, hc, t', sz', rows', fz', a, g1, g2, g3, g4⟩ := h1
  rw [hlook] at g1
  cases g1
  obtain ⟨rfl, rfl⟩ := g4 hil
  obtain ⟨A3, c3, rfl, hc3, t3, sz3, rows3, fz3, a3, p1, p2, p3, p4⟩ := h3
  rw [hlook2] at p1
  cases p1
  obtain ⟨rfl, rfl⟩ := p4 rfl
  obtain ⟨k1, k2, k3, k4, k5, k6⟩ := hm.obj 0 j _ _ hlook g2
  obtain ⟨q1, q2, q3, q4, q5, q6⟩ := hm.obj 0 j2 _ _ hlook2 p2
  obtain ⟨vb, hvb⟩ : ∃ vb, a3.1 = some vb := by
    cases h : a3.1 with
    | none => have := q5 h; simp at q2; omega
    | some b => exact ⟨b, rfl⟩
  obtain ⟨arr3, m1, m2, m3, m4, m5⟩ := q6 vb hvb
  have hx := rowInts.1 m3 0 x rfl
  have hvlt : vb < w.heap.size := (Array.getElem?_eq_some_iff.1 m1).1
  have hvs : ∀ (q : Nat) (v : Value), ([Value.int .i64 x] : List Value)[q]? = some v → w.cell? ⟨vb, 0 + q, none⟩ = some v := fun q v hq => by
    cases q with
    | succ q => simp at hq
    | zero => simp at hq; subst hq; rw [cell_of_row w vb _ arr3 _ (0, 0) m1]; exact hx
  have hone : ∀ v ∈ ([Value.int .i64 x] : List Value), v.oneCell' = true := fun v hv => by simp at hv; subst hv; rfl
  have hlenI := insL_len l i x hi
  have hil2 : (ints (insL l i x)).length = l.length + 1 := by simp [hlenI]
  have hfs : ∀ o, f0.set j o :: rest = fset (f0 :: rest) 0 j o := fun o => rfl
  have hmx : l.length + 1 ≤ maxLen := Nat.le_trans (show l.length + 1 ≤ 1001 by omega) (by simp [maxLen])
  rw [hvb]
  simp only [Option.map_some]
  have hzs : ∀ k, (Builtin.zeroCells (Value.int IntKind.i64 0).cells k).size = k := fun k => by rw [size_zeroCells]; simp [Value.cells]
  cases ha : a.1 with
  | none =>
    have h0 := k5 ha
    have hl0 : l = [] := List.eq_nil_of_length_eq_zero (by omega)
    subst hl0
    have hi0 : i = 0 := by simpa using hi
    subst hi0
    have hge := grownCap_ge w (0 + 1) 0 (insI_ren.t 3)
    have hle := grownCap_le_maxLen w (0 + 1) 0 (insI_ren.t 3) (by simp [maxLen])
    rw [h0]
    refine (Any2.slices_Insert_int_end_grow insI_lay none 0 0 vb 0 1 a3.2 [] [.int .i64 x] w (by omega) (by omega) (by omega) (by omega) rfl rfl (fun _ => rfl) (fun a h => by simp at h) hvs hone).mono ?_
    rintro e w' ⟨rfl, hw⟩
    have hnew : w'.heap[w.heap.size]? = some (.cells (([] ++ [Value.int .i64 x]).toArray ++ Builtin.zeroCells (Value.int .i64 0).cells (grownCap w (0 + 1) 0 (insI_ren.t 3) - (0 + 1))) 3 (0, 0)) := by rw [hw]; exact heap_alloc_new w.drew _
    obtain ⟨bs', r1, r2, r3⟩ := row_new (rows' := ints (insL [] 0 x)) (cap := grownCap w (0 + 1) 0 (insI_ren.t 3)) (w' := w') hm hlook g2 (by omega) (by simp [insL]) (by simpa [insL] using hge) hle (fun b hb => by rw [hw]; exact heap_alloc_old w.drew _ hb) hnew (by
      simp only [List.nil_append, Array.size_append, List.size_toArray, List.length_cons, List.length_nil, hzs, Nat.mul_one]
      omega) (rowInts.2 fun q y hy => by
        cases q with
        | succ q => simp [insL] at hy
        | zero => simp [insL] at hy; subst hy; rw [Array.getElem?_append_left (by simp)]; simp) (by rw [hw]; rfl) (by rw [hw]; rfl) (by rw [hw]; rfl) (by rw [hw]; simp)
    exact ⟨_, _, F, bs', _, rfl, ⟨rfl, by rw [hfs]⟩, r1, r3, r2⟩
  | some g =>
    obtain ⟨arr, b1, b2, b3, b4, b5⟩ := k6 g ha
    rw [Nat.mul_one] at b2
    have hglt : g < w.heap.size := (Array.getElem?_eq_some_iff.1 b1).1
    have hne : vb ≠ g := fun e => hj (hm.inj 0 j 0 j2 g ⟨_, a.2, hlook, trivial, by rw [g2, ← ha]⟩ ⟨_, a3.2, hlook2, trivial, by rw [p2, ← e, ← hvb]⟩).2
    have hcells := rowInts.1 b3
    have hcs : ∀ (q : Nat) (v : Value), (l.map (Value.int .i64))[q]? = some v → w.cell? ⟨g, 0 + q, none⟩ = some v := fun q v hq => by
      rw [List.getElem?_map, Option.map_eq_some_iff] at hq
      obtain ⟨y, hy, rfl⟩ := hq
      rw [cell_of_row w g _ arr _ (0, 0) b1, Nat.zero_add]
      exact hcells q y hy
    have hcone : ∀ v ∈ l.map (Value.int .i64), v.oneCell' = true := fun v hv => by
      obtain ⟨y, _, rfl⟩ := List.mem_map.1 hv
      rfl
    have hcl : (l.map (Value.int .i64)).length = l.length := by simp
    have hfz : ∀ q, w.frozen? ⟨g, q, none⟩ = false := fun q => by simp [World.frozen?, b1]
    have hsome : ∀ q, q < a.2 → (w.cell? ⟨g, q, none⟩).isSome = true := fun q hq => by
      rw [cell_of_row w g _ arr _ (0, 0) b1, Array.getElem?_eq_getElem (by omega)]
      rfl
    have hc63 : a.2 ≤ 9223372036854775807 := by have : maxLen ≤ 9223372036854775807 := by simp [maxLen]
                                                omega
    have hge := grownCap_ge w (l.length + 1) a.2 (insI_ren.t 3)
    have hle := grownCap_le_maxLen w (l.length + 1) a.2 (insI_ren.t 3) hmx
    rw [hil] at k2
    by_cases hroom : l.length + 1 ≤ a.2
    · by_cases hin : i = l.length
      · subst hin
        refine (Any2.slices_Insert_int_end_room insI_lay g 0 l.length a.2 vb 0 1 a3.2 [.int .i64 x] w (by omega) hroom hc63 rfl (fun q hq => hsome _ (by omega)) (fun q _ => hfz _) hvs hone).mono ?_
        rintro e w' ⟨rfl, rfl⟩
        obtain ⟨arr', e1, e2, e3⟩ := setCells_at [.int .i64 x] (0 + l.length) w arr b1
        obtain ⟨z1, z2, z3, z4⟩ := setCells_rest g [.int .i64 x] (0 + l.length) w
        obtain ⟨bs', r1, r2, r3⟩ := row_same (rows' := ints (insL l l.length x)) hm hlook g2 ha (by omega) (by omega) (fun b hb => setCells_ne hb _ _ _) e1 (by omega) (rowInts.2 fun q y hy => by
          rw [insL, ins_get l l.length x (by omega)] at hy
          rw [e3]
          by_cases h1 : q < l.length
          · rw [if_pos h1] at hy
            rw [if_neg (by omega)]
            exact hcells q y hy
          · rw [if_neg h1] at hy
            by_cases h2 : q = l.length
            · subst h2
              simp at hy
              subst hy
              rw [if_pos (by simp; omega)]
              simp
            · rw [if_neg h2, List.getElem?_eq_none (by omega)] at hy
              simp at hy) z1 z2 z3 z4
        rw [hil2] at r3
        exact ⟨_, _, F, bs', _, rfl, ⟨rfl, by rw [hfs]⟩, r1, r3, r2⟩
      · refine (Any2.slices_Insert_int_shift insI_lay g 0 l.length a.2 i vb 0 1 a3.2 (l.map (Value.int .i64)) [.int .i64 x] w (by omega) (by omega) hroom hc63 hne hcl rfl hcs (fun q hq => by rw [Nat.zero_add]; exact hsome _ (by omega)) (fun q _ => hfz _) hvs hcone hone 3 3 arr3.size arr.size (by simp [World.shape?, m1]) (by simp [World.shape?, b1]) (by omega) (by simp [World.frozen?, m1]) (by simp [World.frozen?, m1])).mono ?_
        rintro e w' ⟨rfl, hw⟩
        obtain ⟨arr', e1, e2, e3⟩ := setCells_at ((l.map (Value.int .i64)).drop i) (0 + (i + 1)) w.drew arr b1
        obtain ⟨arr'', e4, e5, e6⟩ := setCells_at [.int .i64 x] (0 + i) (w.drew.setCells g (0 + (i + 1)) ((l.map (Value.int .i64)).drop i)) arr' e1
        obtain ⟨z1, z2, z3, z4⟩ := setCells_rest g ((l.map (Value.int .i64)).drop i) (0 + (i + 1)) w.drew
        obtain ⟨y1, y2, y3, y4⟩ := setCells_rest g [.int .i64 x] (0 + i) (w.drew.setCells g (0 + (i + 1)) ((l.map (Value.int .i64)).drop i))
        rw [← hw] at e4
        obtain ⟨bs', r1, r2, r3⟩ := row_same (w' := w') (rows' := ints (insL l i x)) hm hlook g2 ha (by omega) (by omega) (fun b hb => by rw [hw, setCells_ne hb, setCells_ne hb]; rfl) e4 (by omega) (rowInts.2 fun q y hy => by
          rw [insL, ins_get l i x (by omega)] at hy
          rw [e6, e3]
          simp only [List.length_drop, List.length_map, List.length_cons, List.length_nil]
          by_cases h1 : q < i
          · rw [if_pos h1] at hy
            rw [if_neg (by omega), if_neg (by omega)]
            exact hcells q y hy
          · rw [if_neg h1] at hy
            by_cases h2 : q = i
            · subst h2
              simp at hy
              subst hy
              rw [if_pos (by omega)]
              simp
            · rw [if_neg h2] at hy
              have hq1 := (List.getElem?_eq_some_iff.1 hy).1
              rw [if_neg (by omega), if_pos (by omega), List.getElem?_drop, List.getElem?_map, show i + (q - (0 + (i + 1))) = q - 1 by omega, hy]
              rfl) (by rw [hw]; exact y1.trans z1) (by rw [hw]; exact y2.trans z2) (by rw [hw]; exact y3.trans z3) (by rw [hw]; exact y4.trans z4)
        rw [hil2] at r3
        exact ⟨_, _, F, bs', _, rfl, ⟨rfl, by rw [hfs]⟩, r1, r3, r2⟩
    · by_cases hin : i = l.length
      · subst hin
        refine (Any2.slices_Insert_int_end_grow insI_lay (some ⟨g, 0, none⟩) l.length a.2 vb 0 1 a3.2 (l.map (Value.int .i64)) [.int .i64 x] w (by omega) k2 (by omega) (by omega) hcl rfl (fun h => by simp at h) (fun b hb q v hq => by
          simp at hb
          subst hb
          rw [add_none]
          exact hcs q v hq) hvs hone).mono ?_
        rintro e w' ⟨rfl, hw⟩
        have hnew : w'.heap[w.heap.size]? = some (.cells ((l.map (Value.int .i64) ++ [Value.int .i64 x]).toArray ++ Builtin.zeroCells (Value.int .i64 0).cells (grownCap w (l.length + 1) a.2 (insI_ren.t 3) - (l.length + 1))) 3 (0, 0)) := by rw [hw]; exact heap_alloc_new w.drew _
        obtain ⟨bs', r1, r2, r3⟩ := row_new (rows' := ints (insL l l.length x)) (cap := grownCap w (l.length + 1) a.2 (insI_ren.t 3)) (w' := w') hm hlook g2 (by omega) (by omega) (by omega) hle (fun b hb => by rw [hw]; exact heap_alloc_old w.drew _ hb) hnew (by
          simp only [Array.size_append, List.size_toArray, List.length_append, List.length_map, List.length_cons, List.length_nil, hzs, Nat.mul_one]
          omega) (rowInts.2 fun q y hy => by
            rw [insL, ins_get l l.length x (by omega)] at hy
            by_cases h1 : q < l.length
            · rw [if_pos h1] at hy
              rw [Array.getElem?_append_left (by simp; omega)]
              rw [List.getElem?_toArray, List.getElem?_append_left (by simpa using h1), List.getElem?_map, hy]
              rfl
            · rw [if_neg h1] at hy
              by_cases h2 : q = l.length
              · subst h2
                simp at hy
                subst hy
                rw [Array.getElem?_append_left (by simp)]
                simp
              · rw [if_neg h2, List.getElem?_eq_none (by omega)] at hy
                simp at hy) (by rw [hw]; rfl) (by rw [hw]; rfl) (by rw [hw]; rfl) (by rw [hw]; simp)
        rw [hil2] at r3
        exact ⟨_, _, F, bs', _, rfl, ⟨rfl, by rw [hfs]⟩, r1, r3, r2⟩
      · refine (Any2.slices_Insert_int_grow insI_lay g 0 l.length a.2 i vb 0 1 a3.2 (l.map (Value.int .i64)) [.int .i64 x] w (by omega) (by omega) k2 (by omega) (by omega) hcl rfl hcs hvs hcone hone).mono ?_
        rintro e w' ⟨rfl, hw⟩
        generalize hA0 : (((l.map (Value.int .i64)).take i).toArray ++ Builtin.zeroCells (Value.int .i64 0).cells (l.length + 1 - i) ++ Builtin.zeroCells (Value.int .i64 0).cells (grownCap w (l.length + 1) a.2 (insI_ren.t 3) - (l.length + 1))) = A0 at hw
        have hA1 : A0.size = grownCap w (l.length + 1) a.2 (insI_ren.t 3) := by
          rw [← hA0]
          simp only [Array.size_append, List.size_toArray, List.length_take, List.length_map, hzs]
          omega
        have hA2 : ∀ (q : Nat) (y : Int), q < i → l[q]? = some y → A0[q]? = some (.int .i64 y) := fun q y hq hy => by
          rw [← hA0, Array.append_assoc, Array.getElem?_append_left (by simp; omega)]
          simp [List.getElem?_take, hq, hy]
        obtain ⟨arr', e1, e2, e3⟩ := setCells_at (b := w.heap.size) [.int .i64 x] i (w.alloc (.cells A0 (insI_ren.t 3))).drew A0 (heap_alloc_new w _)
        obtain ⟨arr'', e4, e5, e6⟩ := setCells_at (b := w.heap.size) ((l.map (Value.int .i64)).drop i) (i + 1) (((w.alloc (.cells A0 (insI_ren.t 3))).drew.setCells w.heap.size i [.int .i64 x]).drew) arr' e1
        obtain ⟨z1, z2, z3, z4⟩ := setCells_rest w.heap.size [.int .i64 x] i (w.alloc (.cells A0 (insI_ren.t 3))).drew
        obtain ⟨y1, y2, y3, y4⟩ := setCells_rest w.heap.size ((l.map (Value.int .i64)).drop i) (i + 1) (((w.alloc (.cells A0 (insI_ren.t 3))).drew.setCells w.heap.size i [.int .i64 x]).drew)
        rw [← hw] at e4
        obtain ⟨bs', r1, r2, r3⟩ := row_new (w' := w') (rows' := ints (insL l i x)) (cap := grownCap w (l.length + 1) a.2 (insI_ren.t 3)) hm hlook g2 (by omega) (by omega) (by omega) hle (fun b hb => by rw [hw, setCells_ne (show b ≠ w.heap.size by omega)]; exact (setCells_ne (show b ≠ w.heap.size by omega) _ _ _).trans (heap_alloc_old w _ hb)) e4 (by omega) (rowInts.2 fun q y hy => by
          rw [insL, ins_get l i x (by omega)] at hy
          rw [e6, e3]
          simp only [List.length_drop, List.length_map, List.length_cons, List.length_nil]
          by_cases h1 : q < i
          · rw [if_pos h1] at hy
            rw [if_neg (by omega), if_neg (by omega)]
            exact hA2 q y h1 hy
          · rw [if_neg h1] at hy
            by_cases h2 : q = i
            · subst h2
              simp at hy
              subst hy
              rw [if_neg (by omega), if_pos (by omega)]
              simp
            · rw [if_neg h2] at hy
              have hq1 := (List.getElem?_eq_some_iff.1 hy).1
              rw [if_pos (by omega), List.getElem?_drop, List.getElem?_map, show i + (q - (i + 1)) = q - 1 by omega, hy]
              rfl) (by rw [hw]; exact y1.trans z1) (by rw [hw]; exact y2.trans z2) (by rw [hw]; exact y3.trans z3) (by rw [hw, y4]; show _ ≤ ((w.alloc (.cells A0 (insI_ren.t 3))).drew.setCells w.heap.size i [.int .i64 x]).heap.size; rw [z4]; exact Nat.le_trans (Nat.le_succ _) (Nat.le_of_eq (by simp)))
        rw [hil2] at r3
        exact ⟨_, _, F, bs', _, rfl, ⟨rfl, by rw [hfs]⟩, r1, r3, r2⟩
end Go.Proofs.YtkmnmokjlpenhaaPi
