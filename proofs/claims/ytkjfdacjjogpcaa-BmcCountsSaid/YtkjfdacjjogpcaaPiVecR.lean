/- Slices that may grow, said as rows again; slices compared with nil. No Go text in it. -/
import Derived.Test.YtkjfdacjjogpcaaPiVecM
set_option linter.unusedVariables false
set_option linter.unusedSimpArgs false
set_option maxRecDepth 100000
namespace Go.Proofs.YtkjfdacjjogpcaaPi
variable {P : Program}
def cVec (L m g : Nat) (u v : PV) : Prop := (u = v ∧ u.under L = true) ∨ (u = .vs 0 L 0 m g ∧ v = .ms 0 L m)
theorem cVec.nil {L m g : Nat} {env : List (Nat × PV)} : ehasT (cVec L m g) env [] := trivial
theorem cVec.keep {L m g : Nat} {env e : List (Nat × PV)} {t : Nat} {v : PV} (h1 : eget env t = some v) (h2 : v.under L = true) (h : ehasT (cVec L m g) env e) : ehasT (cVec L m g) env ((t, v) :: e) := ⟨⟨v, h1, .inl ⟨rfl, h2⟩⟩, h⟩
theorem cVec.conv {L m g : Nat} {env e : List (Nat × PV)} {t : Nat} (h1 : eget env t = some (.vs 0 L 0 m g)) (h : ehasT (cVec L m g) env e) : ehasT (cVec L m g) env ((t, .ms 0 L m) :: e) := ⟨⟨_, h1, .inr ⟨rfl, rfl⟩⟩, h⟩
theorem Ghost.vecRow {n : Nat} {env e : List (Nat × PV)} {L : List AObj} {up : Frs} {t g m : Nat} (ims : List Im) (hne : ims ≠ []) (hm0 : m = ims.length) (he : ehasT (cVec L.length m g) env e) (h2 : L.all (AObj.under L.length) = true) :
  Ghost n ⟨env, L ++ [.vec t g (ims.map .im)], up⟩ ⟨e, L ++ [.row t 1 (ims.map fun x => [x]) 0], up⟩ := fun F bs a w h => by
 subst hm0
 have hm := h.mem
 have hsh := hm.shape
 have hpos : 0 < ims.length := List.length_pos_iff.2 hne
 cases bs with
 | nil => simp [ASt.fr] at hsh
 | cons b0 bs =>
  simp only [ASt.fr, List.map_cons, List.cons.injEq, List.length_append, List.length_cons, List.length_nil] at hsh
  have hlast : (L ++ [AObj.vec t g (ims.map .im)])[L.length]? = some (.vec t g (ims.map .im)) := by simp
  obtain ⟨A, hA⟩ := look_bnd (d := 0) (j := L.length) hm.shape hlast
  have hA' : b0[L.length]? = some A := hA
  obtain ⟨k2, k3, k5, k6⟩ := hm.obj 0 L.length _ _ hlast hA
  have hset : (L ++ [AObj.vec t g (ims.map .im)]).set L.length (.row t 1 (ims.map fun x => [x]) 0) = L ++ [.row t 1 (ims.map fun x => [x]) 0] := by simp
  have hb : b0.set L.length A = b0 := by
   obtain ⟨h1, h2⟩ := List.getElem?_eq_some_iff.1 hA'
   rw [← h2, List.set_getElem_self]
  rw [List.length_map] at k2
  have m1 := MRel.retag hm (o' := .row t 1 (ims.map fun x => [x]) 0) hlast hA' (fun _ => trivial) (fun k x hk hx => by
    have hlt : k < L.length := by
     have := (List.getElem?_eq_some_iff.1 hx).1
     simp at this
     omega
    rw [List.getElem?_append_left hlt] at hx
    have := List.all_eq_true.1 h2 x (List.mem_of_getElem? hx)
    cases x <;> simp only [AObj.under, AObj.free] at this ⊢ <;> exact frees_of_unders this) (by
    refine ⟨by decide, by rw [List.length_map]; exact k2, k3, Nat.zero_le _, k5, fun q hq => ?_⟩
    obtain ⟨arr, g1, g2, g3, g4⟩ := k6 q hq
    refine ⟨arr, g1, by rw [g2, Nat.mul_one], fun i r hr => ?_, fun o v hv => ?_, fun o ho => by omega⟩
    ·rw [List.getElem?_map, Option.map_eq_some_iff] at hr
     obtain ⟨y, hy, rfl⟩ := hr
     refine ⟨rfl, fun j x hx => ?_⟩
     cases j with
     | succ j => simp at hx
     | zero =>
      simp only [List.getElem?_cons_zero, Option.some.injEq] at hx
      subst hx
      have hi := (List.getElem?_eq_some_iff.1 hy).1
      have hlen := g3.length
      simp only [List.length_map] at hlen
      have hi2 : i < (arr.toList.take ims.length).length := by rw [List.length_map] at g3; omega
      obtain ⟨v, hv⟩ : ∃ v, (arr.toList.take ims.length)[i]? = some v := ⟨_, List.getElem?_eq_getElem hi2⟩
      rw [List.length_map] at g3
      have hg := g3.get' (by rw [List.getElem?_map, hy]; rfl) hv
      simp only [VRel] at hg
      rw [List.getElem?_take_of_lt hi] at hv
      exact ⟨v, by simpa using hv, hg⟩
    ·rw [g4 o] at hv
     simp at hv)
  rw [hset] at m1
  refine ⟨F, b0 :: bs, ⟨m1, h.size, fun u v hv => ?_, h.defers⟩, ⟨Fz.le_refl F, .refl _ _, .refl _ _ _, ?_⟩⟩
  ·obtain ⟨x, hx1, ⟨rfl, hx3⟩ | ⟨rfl, rfl⟩⟩ := ehasT_mem he hv
   ·obtain ⟨w1, w2⟩ := h.env u x hx1
    refine ⟨w1, ?_⟩
    have := VRel.freed (a := A) (o := .row t 1 (ims.map fun x => [x]) 0) (PV.free_of_under hx3) w2
    rw [hb, hset] at this
    exact this
   ·obtain ⟨w1, w2⟩ := h.env u _ hx1
    refine ⟨w1, ?_⟩
    simp only [VRel] at w2 ⊢
    obtain ⟨A2, c2, r1, r2, t2, g2, cs2, a2, r3, r4, r5, r6⟩ := w2
    have r3' : (L ++ [AObj.vec t g (ims.map .im)])[L.length]? = some (.vec t2 g2 cs2) := r3
    rw [hlast] at r3'
    cases r3'
    have r4' : b0[L.length]? = some a2 := r4
    rw [hA'] at r4'
    cases r4'
    obtain ⟨r7, r8, r9⟩ := r6 rfl
    exact ⟨A2, c2, r1, r2, t, 1, ims.map fun x => [x], 0, A, by simp [ASt.fr], hA, by simp, fun _ => ⟨r9 (by omega), by omega⟩⟩
  ·intro d k q ⟨x, c, p1, p2, p3⟩
   refine .inl ⟨d, k, ?_⟩
   cases d with
   | succ d => exact ⟨x, c, p1, p2, p3⟩
   | zero =>
    simp only [ASt.fr, look_zero] at p1
    by_cases hj : k < L.length
    ·rw [List.getElem?_append_left hj] at p1
     exact ⟨x, c, by simp only [ASt.fr, look_zero]; rw [List.getElem?_append_left hj]; exact p1, p2, p3⟩
    ·have hj2 := (List.getElem?_eq_some_iff.1 p1).1
     simp at hj2
     have hj3 : k = L.length := by omega
     subst hj3
     exact ⟨.vec t g (ims.map .im), c, hlast, trivial, p3⟩
def cTrim (L m g : Nat) (u v : PV) : Prop := (u = v ∧ u.under L = true) ∨ ∃ o n, u = .vs 0 L o n g ∧ v = .vs 0 L o n g ∧ o + n ≤ m
theorem cTrim.nil {L m g : Nat} {env : List (Nat × PV)} : ehasT (cTrim L m g) env [] := trivial
theorem cTrim.keep {L m g : Nat} {env e : List (Nat × PV)} {t : Nat} {v : PV} (h1 : eget env t = some v) (h2 : v.under L = true) (h : ehasT (cTrim L m g) env e) : ehasT (cTrim L m g) env ((t, v) :: e) := ⟨⟨v, h1, .inl ⟨rfl, h2⟩⟩, h⟩
theorem cTrim.at {L m g o n : Nat} {env e : List (Nat × PV)} {t : Nat} (h1 : eget env t = some (.vs 0 L o n g)) (h2 : o + n ≤ m) (h : ehasT (cTrim L m g) env e) : ehasT (cTrim L m g) env ((t, .vs 0 L o n g) :: e) := ⟨⟨_, h1, .inr ⟨o, n, rfl, rfl, h2⟩⟩, h⟩
theorem Ghost.vecTrim {n : Nat} {env e : List (Nat × PV)} {L : List AObj} {up : Frs} {t g : Nat} {rs : List PV} (ims : List Im) (he : ehasT (cTrim L.length ims.length g) env e) (h2 : L.all (AObj.under L.length) = true) :
  Ghost n ⟨env, L ++ [.vec t g (ims.map .im ++ rs)], up⟩ ⟨e, L ++ [.vec t g (ims.map .im)], up⟩ := fun F bs a w h => by
 obtain ⟨cs, hcs⟩ : ∃ cs, cs = ims.map PV.im := ⟨_, rfl⟩
 have hcl : cs.length = ims.length := by rw [hcs, List.length_map]
 rw [← hcl] at he
 rw [← hcs] at h ⊢
 have hm := h.mem
 have hsh := hm.shape
 cases bs with
 | nil => simp [ASt.fr] at hsh
 | cons b0 bs =>
  simp only [ASt.fr, List.map_cons, List.cons.injEq, List.length_append, List.length_cons, List.length_nil] at hsh
  have hlast : (L ++ [AObj.vec t g (cs ++ rs)])[L.length]? = some (.vec t g (cs ++ rs)) := by simp
  obtain ⟨A, hA⟩ := look_bnd (d := 0) (j := L.length) hm.shape hlast
  have hA' : b0[L.length]? = some A := hA
  obtain ⟨k2, k3, k5, k6⟩ := hm.obj 0 L.length _ _ hlast hA
  have hset : (L ++ [AObj.vec t g (cs ++ rs)]).set L.length (.vec t g cs) = L ++ [.vec t g cs] := by simp
  have hb : b0.set L.length A = b0 := by
   obtain ⟨h1, h2⟩ := List.getElem?_eq_some_iff.1 hA'
   rw [← h2, List.set_getElem_self]
  rw [List.length_append] at k2
  have hmo : MObj F (b0 :: bs) ((L ++ [AObj.vec t g (cs ++ rs)]).set L.length (.vec t g cs) :: up) w (.vec t g cs) A := by
   refine ⟨by omega, k3, k5, fun q hq => ?_⟩
   obtain ⟨arr, g1, g2, g3, g4⟩ := k6 q hq
   refine ⟨arr, g1, g2, ?_, g4⟩
   have := g3.take cs.length
   rw [List.take_left' rfl, List.take_take, List.length_append, Nat.min_eq_left (by omega)] at this
   rw [hcs] at this ⊢
   exact flat_rel this
  have m1 := MRel.retag hm hlast hA' (fun _ => trivial) (by
    intro k x hk hx
    have hlt : k < L.length := by
     have := (List.getElem?_eq_some_iff.1 hx).1
     simp at this
     omega
    rw [List.getElem?_append_left hlt] at hx
    have := List.all_eq_true.1 h2 x (List.mem_of_getElem? hx)
    cases x <;> simp only [AObj.under, AObj.free] at this ⊢ <;> exact frees_of_unders this) hmo
  rw [hset] at m1
  refine ⟨F, b0 :: bs, ⟨m1, h.size, fun u v hv => ?_, h.defers⟩, ⟨Fz.le_refl F, .refl _ _, .refl _ _ _, ?_⟩⟩
  ·obtain ⟨x, hx1, ⟨rfl, hx3⟩ | ⟨o, n', rfl, rfl, hon⟩⟩ := ehasT_mem he hv
   ·obtain ⟨w1, w2⟩ := h.env u x hx1
    refine ⟨w1, ?_⟩
    have := VRel.freed (a := A) (o := .vec t g cs) (PV.free_of_under hx3) w2
    rw [hb, hset] at this
    exact this
   ·obtain ⟨w1, w2⟩ := h.env u _ hx1
    refine ⟨w1, ?_⟩
    simp only [VRel] at w2 ⊢
    obtain ⟨A2, c2, r1, r2, t2, g2, cs2, a2, r3, r4, r5, r6⟩ := w2
    have r3' : (L ++ [AObj.vec t g (cs ++ rs)])[L.length]? = some (.vec t2 g2 cs2) := r3
    rw [hlast] at r3'
    cases r3'
    have r4' : b0[L.length]? = some a2 := r4
    rw [hA'] at r4'
    cases r4'
    obtain ⟨r7, r8, r9⟩ := r6 rfl
    exact ⟨A2, c2, r1, r2, t, g, cs, A, by simp [ASt.fr], hA, Nat.le_refl _, fun _ => ⟨hon, r8, r9⟩⟩
  ·intro d k q ⟨x, c, p1, p2, p3⟩
   refine .inl ⟨d, k, ?_⟩
   cases d with
   | succ d => exact ⟨x, c, p1, p2, p3⟩
   | zero =>
    simp only [ASt.fr, look_zero] at p1
    by_cases hj : k < L.length
    ·rw [List.getElem?_append_left hj] at p1
     exact ⟨x, c, by simp only [ASt.fr, look_zero]; rw [List.getElem?_append_left hj]; exact p1, p2, p3⟩
    ·have hj2 := (List.getElem?_eq_some_iff.1 p1).1
     simp at hj2
     have hj3 : k = L.length := by omega
     subst hj3
     exact ⟨.vec t g (cs ++ rs), c, hlast, trivial, p3⟩
theorem GOps.nilVs {n : Nat} {Q : Exit → ASt → Prop} {st : ASt} {dst : Option Nat} {gd : Option (Nat × Bool)} {gs : List GO} {T ty d j o m g : Nat} {x y : Operand} {cs : List PV} (hl : look st.fr d j = some (.vec ty g cs)) (hm : 0 < m) (h : GOps P n gs Q (st.put dst (.im (.bool false))))
  (hx : evalPV st x = some (.vs d j o m g) := by rfl) (hy : evalPV st y = some .nils := by rfl) (ht : sliceT P T = true := by (simp only [sliceT, fx] <;> rfl)) (hg : guardA st.env gd = some true := by rfl) (hd : okDst n dst = true := by rfl) {tr : TypeId} : GOps P n (⟨dst, .binOp .eql T x y tr, gd⟩ :: gs) Q st := by
 refine GOps.step hg (fun F bs a w hr q ho => ?_) hd h
 have h1 := evalPV_rel hr hx
 have h2 := evalPV_rel hr hy
 simp only [VRel] at h1 h2
 obtain ⟨A, c, e1, e2, t2, g2, cs2, a2, r3, r4, r5, r6⟩ := h1
 rw [hl] at r3
 cases r3
 obtain ⟨r7, r8, r9⟩ := r6 rfl
 have hmo := hr.mem.obj d j _ _ hl r4
 obtain ⟨k2, k3, k5, k6⟩ := hmo
 have ha : ∃ b, a2.1 = some b := by
  cases e : a2.1 with
  | some b => exact ⟨b, rfl⟩
  | none => have := k5 e; omega
 obtain ⟨b, hb⟩ := ha
 have hA := r9 (by omega)
 rw [hb, Option.map_some] at hA
 have hu : ∃ e, P.underlying T = some (.slice e) := by
  unfold sliceT at ht
  split at ht
  ·rename_i e hh; exact ⟨e, hh⟩
  ·simp at ht
 obtain ⟨e, hu⟩ := hu
 refine keep_ok hr ho (.bool false) ?_ (by simp [VRel, IRel])
 simp only [execOp]
 rw [e1, h2, hA]
 have k1 := run_equal_slice_nil (P := P) w T e (some ⟨b, o, none⟩) m c hu
 simp only [Sem.run_bind, run_eqGuard _ _ _ _ _ _ _ (show Value.slice (some ⟨b, o, none⟩) m c ≠ .nilIface by simp) (by simp), Result.andThen_ok, binOp, k1, Sem.run_pure]
 rfl
theorem zeroCells_one {zc : Array Value} (h : zc.size = 1) (m i : Nat) (hi : i < m) : (Builtin.zeroCells zc m).toList[i]? = zc.toList[0]? := by
 have h0 : zc[0]? = some (zc[0]'(by omega)) := by simp [h]
 simp only [Builtin.zeroCells, Array.getElem?_toList, Array.getElem?_map, h, Nat.mul_one, Nat.mod_one]
 rw [h0]
 simp [hi, h]
theorem clearVs_ok {n : Nat} {st : ASt} {args : Array Operand} {ts : Array TypeId} {x : Operand} {T e d j o m g : Nat} {cs : List PV} {z : PV} (hl : look st.fr d j = some (.vec e g cs)) (hm0 : 0 < m) (ha : args.toList = [x]) (ht : ts.toList = [T]) (he : elemT P T = some e) (hz : zeroT P e = some [z]) (hone : onePV z = true) (hzd : z.downN d = some z) (hx : evalPV st x = some (.vs d j o m g)) :
  OpOk P n st (.call { callee := .builtin .clear, args, argTypes := ts }) (.tup []) (st.setFr (fset st.fr d j (.vec e g (splice cs o (List.replicate m z))))) := fun F bs a w hr q ho => by
 have hm := hr.mem
 have h1 := evalPV_rel hr hx
 simp only [VRel] at h1
 obtain ⟨A, c, e1, e2, t2, g2, cs2, a2, r3, r4, r5, r6⟩ := h1
 rw [hl] at r3
 cases r3
 obtain ⟨r7, r8, r9⟩ := r6 rfl
 obtain ⟨k1, k2, k3, k4⟩ := hm.obj d j _ _ hl r4
 have hab : ∃ b, a2.1 = some b := by
  cases e : a2.1 with
  | some b => exact ⟨b, rfl⟩
  | none => have := k3 e; omega
 obtain ⟨b, hb⟩ := hab
 obtain ⟨arr, k5, k6, k7, k8⟩ := k4 b hb
 have hA := r9 (by omega)
 rw [hb, Option.map_some] at hA
 obtain ⟨zv, hz1, hz2, i, hi, hiz⟩ := zeroT_run hz w
 have hz0 := hz2 F bs st.fr
 have hzc : zv.cells.size = 1 := by have := hz0.length; simp only [Array.length_toList, List.length_cons, List.length_nil] at this; omega
 have hzs : (Builtin.zeroCells zv.cells m).size = m := by rw [size_zeroCells, hzc, Nat.mul_one]
 have hzl : (Builtin.zeroCells zv.cells m).toList.length = m := by rw [Array.length_toList]; exact hzs
 obtain ⟨z0, hz0v⟩ : ∃ z0, zv.cells.toList[0]? = some z0 := ⟨_, List.getElem?_eq_getElem (by rw [Array.length_toList]; omega)⟩
 have hzg : ∀ k, k < m → (Builtin.zeroCells zv.cells m).toList[k]? = some z0 := fun k hk => by rw [zeroCells_one hzc m k hk]; exact hz0v
 have hone0 : ∀ v ∈ (Builtin.zeroCells zv.cells m).toList, v.oneCell' = true := fun v hv => by
  obtain ⟨k, hk⟩ := List.getElem?_of_mem hv
  have hkm : k < m := by rw [← hzl]; exact (List.getElem?_eq_some_iff.1 hk).1
  rw [hzg k hkm] at hk
  cases hk
  exact hz0.ones (by simp [hone]) z0 (List.mem_of_getElem? hz0v)
 have hst := run_storeCells_at P b o e (Builtin.zeroCells zv.cells m).toList 0 arr w k5 (by rw [hzl]; omega) hone0
 simp only [Nat.add_zero] at hst
 have hrun : (Builtin.clear_ #[T] q.type #[.slice (some ⟨b, o, none⟩) m c]).run P w = .ok (.tuple #[]) (w.setRow b (splice arr.toList o (Builtin.zeroCells zv.cells m).toList).toArray) := by
  obtain ⟨m', rfl⟩ : ∃ m', m = m' + 1 := ⟨m - 1, by omega⟩
  simp [Builtin.clear_, run_underlying (elemT_some he), hz1, hst, splice]
 have hlen := hm.len
 have hd : d ≤ st.fr.length := Nat.le_of_lt (fget_lt hl)
 have hdn := VRels.downN hlen hd (show downsN d [z] = some [z] by simp [downsN, hzd]) hz0
 have hsl : (splice cs o (List.replicate m z)).length = cs.length := splice_length _ _ _ (by simp; exact r7)
 have hput := hm.put (F' := F) (w' := w.setRow b (splice arr.toList o (Builtin.zeroCells zv.cells m).toList).toArray) (o' := .vec e g (splice cs o (List.replicate m z))) (a' := a2) hl r4
  (fun b' _ hb' => setRow_other w b b' _ (fun e => by rcases hb' with hb' | hb'; exact hb' (by rw [e]; exact hb); exact hb' trivial)) (Fz.le_refl F) (fun _ _ _ _ => rfl)
  (fun b' q v hb' hq => by
   rcases hb' with hb' | hb'
   ·have := World.block_lt_of_cell? w _ (hm.fz b' q v hq); simp at this; omega
   ·rw [hb] at hb'
    simp only [Option.some.injEq] at hb'
    rw [← hb'.1, k8] at hq
    simp at hq)
  (fun b' hb' => .inr ⟨hb', trivial⟩)
  (by simp only [AObj.becomes]; exact ⟨trivial, Nat.le_refl _, fun _ => ⟨by omega, trivial⟩⟩)
  (by
   refine ⟨by omega, k2, k3, fun b' hb' => ?_⟩
   rw [hb] at hb'
   simp only [Option.some.injEq] at hb'
   subst hb'
   have hev : Evolve (bs.drop d) (st.fr.drop d) ((fset bs d j a2).drop d) ((fset st.fr d j (.vec e g (splice cs o (List.replicate m z)))).drop d) := by
    refine Evolve.drop (fun d' j' o1 a1 q1 q2 => ?_) d
    simp only [look, bnd, fget_fset]
    by_cases he : d' = d ∧ j' = j
    ·obtain ⟨rfl, rfl⟩ := he
     rw [hl] at q1; rw [r4] at q2
     cases q1; cases q2
     exact ⟨.vec e g (splice cs o (List.replicate m z)), a2, by simp [show fget st.fr d' j' = some _ from hl], by simp [show fget bs d' j' = some _ from r4], by simp only [AObj.becomes]; exact ⟨trivial, Nat.le_refl _, fun _ => ⟨by omega, trivial⟩⟩⟩
    ·exact ⟨o1, a1, by rw [if_neg he]; exact q1, by rw [if_neg he]; exact q2, o1.becomes_refl a1⟩
   refine ⟨_, setRow_heap w b arr _ e (0, 0) k5, ?_, VRels.move (Fz.le_refl F) hev ?_, k8⟩
   ·simp only [List.size_toArray]
    rw [splice_length _ _ _ (by simp; omega)]
    simpa using k6
   ·refine VRels.mk ?_ (fun q x v hxq hvq => ?_)
    ·simp only [List.length_take, hsl]
     rw [splice_length _ _ _ (by simp; omega)]
     simp; omega
    ·rw [hsl, List.getElem?_take] at hvq
     split at hvq
     ·rename_i hq
      rw [splice_get _ _ _ (by simp; omega)] at hvq
      rw [splice_get _ _ _ (by simp; omega)] at hxq
      simp only [hzl] at hvq
      simp only [List.length_replicate] at hxq
      by_cases h7 : q < o
      ·rw [if_pos h7] at hvq hxq
       exact k7.get' hxq (by rw [List.getElem?_take, if_pos hq]; exact hvq)
      ·rw [if_neg h7] at hvq hxq
       by_cases h8 : q < o + m
       ·rw [if_pos h8] at hvq hxq
        rw [hzg _ (by omega)] at hvq
        rw [List.getElem?_replicate, if_pos (by omega)] at hxq
        cases hvq
        cases hxq
        exact hdn.get' (j := 0) rfl hz0v
       ·rw [if_neg h8] at hvq hxq
        exact k7.get' hxq (by rw [List.getElem?_take, if_pos hq]; exact hvq)
     ·simp at hvq)
 obtain ⟨l⟩ := args
 simp only at ha
 subst ha
 obtain ⟨l⟩ := ts
 simp only at ht
 subst ht
 refine ⟨.value (.tuple #[]), .tuple #[], w.setRow b (splice arr.toList o (Builtin.zeroCells zv.cells m).toList).toArray, F, fset bs d j a2, by simp [execOp, ho, resolve, invoke, builtin, e1, hA, hrun], .inl rfl, ?_, ⟨Fz.le_refl F, ?_, ⟨rfl, rfl, rfl, by simp [World.setRow], fun b' _ hno => setRow_other w b b' _ (fun e => hno d j ⟨_, a2.2, hl, trivial, by rw [r4, e, ← hb]⟩)⟩, ?_⟩, ?_, ASt.setFr_env _ _⟩
 ·rw [ASt.setFr_fset]; exact hput.1
 ·rw [ASt.setFr_fset]; exact hput.2.1
 ·rw [ASt.setFr_fset]; exact hput.2.2
 ·simp only [VRel]
  exact ⟨#[], rfl, rfl⟩
theorem GOps.clearVs {n : Nat} {Q : Exit → ASt → Prop} {st : ASt} {dst : Option Nat} {gd : Option (Nat × Bool)} {gs : List GO} {args : Array Operand} {ts : Array TypeId} {x : Operand} {T e d j o m g : Nat} {cs : List PV} {z : PV} (hl : look st.fr d j = some (.vec e g cs)) (hm0 : 0 < m)
  (h : GOps P n gs Q ((st.setFr (fset st.fr d j (.vec e g (splice cs o (List.replicate m z))))).put dst (.tup []))) (hg : guardA st.env gd = some true := by rfl) (ha : args.toList = [x] := by rfl) (ht : ts.toList = [T] := by rfl) (hx : evalPV st x = some (.vs d j o m g) := by rfl) (hd : okDst n dst = true := by rfl)
  (he : elemT P T = some e := by (simp only [fx] <;> with_reducible rfl)) (hz : zeroT P e = some [z] := by (simp only [fx] <;> with_reducible rfl)) (hone : onePV z = true := by rfl) (hzd : z.downN d = some z := by rfl) : GOps P n (⟨dst, .call { callee := .builtin .clear, args, argTypes := ts }, gd⟩ :: gs) Q st :=
 GOps.step hg (clearVs_ok hl hm0 ha ht he hz hone hzd hx) hd h
end Go.Proofs.YtkjfdacjjogpcaaPi

