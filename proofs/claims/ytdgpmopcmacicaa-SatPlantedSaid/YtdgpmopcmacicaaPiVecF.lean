/- A slice of rows of one's own becomes data. No Go text in it. -/
import Derived.Test.YtdgpmopcmacicaaPiVecR
set_option linter.unusedVariables false
set_option linter.unusedSimpArgs false
set_option maxRecDepth 100000
namespace Go.Proofs.YtdgpmopcmacicaaPi
/-- One cell of an own slice that names a frozen row holds data. -/
theorem Ghost.vecAt {n : Nat} {st : ASt} {j i t g : Nat} {cs : List PV} {x : PV} (hl : st.loc[j]? = some (.vec t g cs)) (hx : cs[i]? = some x) : Ghost n st (st.at j (.vec t g (cs.set i (x.solid st.fr)))) := fun F bs a w h => by
  have hl' : look st.fr 0 j = some (.vec t g cs) := by simpa [ASt.fr] using hl
  obtain ⟨ab, hab⟩ := look_bnd h.mem.shape hl'
  obtain ⟨m1, m2, m3⟩ := vecCell_ok h.mem hl' hab (i := i) (x.solid st.fr) (fun v hv => by
    rw [List.getD_eq_getElem?_getD, hx] at hv
    exact VRel.solid h.mem hv)
  obtain ⟨h6, h7⟩ := h.moved m1 ⟨Fz.le_refl F, m2, .refl _ _ _, m3⟩ (ASt.setFr_fset _ _ _ _)
  exact ⟨F, bs, h6, h7⟩
/-- A row of the call's own, named by a cell of an own slice, is frozen, and the cell holds data from then on. -/
theorem Ghost.vecShut {n : Nat} {st : ASt} {j i r m t g tt sz fz : Nat} {cs : List PV} {rows : List (List Im)} (hl : st.loc[j]? = some (.vec t g cs)) (hx : cs[i]? = some (.ms 0 r m)) (hr : st.loc[r]? = some (.row tt sz rows fz)) (hm : rows.length = m) :
    Ghost n st { env := st.env, loc := (st.loc.set r (.row tt sz rows rows.length)).set j (.vec t g (cs.set i (.im (.sl rows)))), up := st.up } := by
  have g1 : Ghost n st (st.setFr (fset st.fr 0 r (.row tt sz rows rows.length))) := Ghost.freeze (by simpa [ASt.fr] using hr)
  refine g1.trans ?_
  have hlt := (List.getElem?_eq_some_iff.1 hr).1
  have hne : r ≠ j := fun e => by subst e; rw [hr] at hl; simp at hl
  have e : st.setFr (fset st.fr 0 r (.row tt sz rows rows.length)) = { env := st.env, loc := st.loc.set r (.row tt sz rows rows.length), up := st.up } := rfl
  rw [e]
  have g2 := Ghost.vecAt (n := n) (st := { env := st.env, loc := st.loc.set r (.row tt sz rows rows.length), up := st.up }) (j := j) (i := i) (cs := cs) (x := .ms 0 r m) (by simpa [hne] using hl) hx
  have e2 : (PV.ms 0 r m).solid (ASt.fr { env := st.env, loc := st.loc.set r (.row tt sz rows rows.length), up := st.up }) = .im (.sl rows) := by
    simp [PV.solid, imPV, ASt.fr, hlt, hm]
  rw [e2] at g2
  exact g2
/-- The cells of a slice of rows, and the rows. -/
def cellsM (rs : List (List (List Im))) : List PV := (List.range rs.length).map fun k => .ms 0 (1 + k) (rs.getD k []).length
def rowsM (t : Nat) (rs : List (List (List Im))) : List AObj := rs.map fun r => .row t 1 r 0
theorem cellsM_len (rs : List (List (List Im))) : (cellsM rs).length = rs.length := by simp [cellsM]
theorem cellsM_get (rs : List (List (List Im))) (k : Nat) (h : k < rs.length) : (cellsM rs)[k]? = some (.ms 0 (1 + k) (rs.getD k []).length) := by
  simp only [cellsM, List.getElem?_map]
  rw [List.getElem?_range h]
  rfl
theorem cellsM_snoc (rs : List (List (List Im))) (r : List (List Im)) : cellsM (rs ++ [r]) = cellsM rs ++ [.ms 0 (1 + rs.length) r.length] := by
  simp only [cellsM, List.length_append, List.length_cons, List.length_nil, Nat.zero_add, List.range_succ, List.map_append, List.map_cons, List.map_nil]
  congr 1
  · refine List.map_congr_left fun k hk => ?_
    have hk := List.mem_range.1 hk
    simp only [List.getD_eq_getElem?_getD, List.getElem?_append_left hk]
  · simp
theorem rowsM_snoc (t : Nat) (rs : List (List (List Im))) (r : List (List Im)) : rowsM t (rs ++ [r]) = rowsM t rs ++ [.row t 1 r 0] := by simp [rowsM]
theorem rowsM_len (t : Nat) (rs : List (List (List Im))) : (rowsM t rs).length = rs.length := by simp [rowsM]
theorem gridShut {n : Nat} {e : List (Nat × PV)} {up : Frs} {T t g : Nat} (rs : List (List (List Im))) : ∀ i, i ≤ rs.length →
    Ghost n ⟨e, .vec T g (cellsM rs) :: rowsM t rs, up⟩ ⟨e, .vec T g (((rs.take i).map fun r => PV.im (.sl r)) ++ (cellsM rs).drop i) :: (((rs.take i).map fun r => AObj.row t 1 r r.length) ++ rowsM t (rs.drop i)), up⟩
  | 0, _ => by simpa using Ghost.refl n _
  | i + 1, hi => by
    refine (gridShut rs i (by omega)).trans ?_
    obtain ⟨r, hr⟩ : ∃ r, rs[i]? = some r := ⟨_, List.getElem?_eq_getElem (by omega)⟩
    have hrd : rs.getD i [] = r := by rw [List.getD_eq_getElem?_getD, hr]; rfl
    have hdr : rs.drop i = r :: rs.drop (i + 1) := by
      rw [List.drop_eq_getElem_cons (by omega)]
      congr 1
      rw [List.getElem?_eq_getElem (by omega)] at hr
      simpa using hr
    have hcd : (cellsM rs).drop i = .ms 0 (1 + i) r.length :: (cellsM rs).drop (i + 1) := by
      rw [List.drop_eq_getElem_cons (by rw [cellsM_len]; omega)]
      congr 1
      have := cellsM_get rs i (by omega)
      rw [List.getElem?_eq_getElem (by rw [cellsM_len]; omega), hrd] at this
      simpa using this
    have htk : rs.take (i + 1) = rs.take i ++ [r] := by rw [List.take_add_one, hr]; rfl
    have hl1 : ((rs.take i).map fun r => PV.im (.sl r)).length = i := by simp; omega
    have hl2 : ((rs.take i).map fun r => AObj.row t 1 r r.length).length = i := by simp; omega
    have h := Ghost.vecShut (n := n) (st := ⟨e, .vec T g (((rs.take i).map fun r => PV.im (.sl r)) ++ (cellsM rs).drop i) :: (((rs.take i).map fun r => AObj.row t 1 r r.length) ++ rowsM t (rs.drop i)), up⟩) (j := 0) (i := i) (r := i + 1) (m := r.length) (tt := t) (sz := 1) (fz := 0) (rows := r) rfl
      (by rw [List.getElem?_append_right (by omega), hl1, Nat.sub_self, hcd, Nat.add_comm 1 i]; rfl)
      (by rw [List.getElem?_cons_succ, List.getElem?_append_right (by omega), hl2, Nat.sub_self, hdr]; rfl) rfl
    have e1 : ((rs.take i).map fun r => PV.im (.sl r)) ++ (cellsM rs).drop i = ((rs.take i).map fun r => PV.im (.sl r)) ++ (.ms 0 (1 + i) r.length :: (cellsM rs).drop (i + 1)) := by rw [hcd]
    have e2 : ((((rs.take i).map fun r => PV.im (.sl r)) ++ (cellsM rs).drop i).set i (.im (.sl r))) = ((rs.take (i + 1)).map fun r => PV.im (.sl r)) ++ (cellsM rs).drop (i + 1) := by
      rw [e1, List.set_append_right _ _ (by omega), hl1, Nat.sub_self, List.set_cons_zero, htk]
      simp
    have e3 : (((rs.take i).map fun r => AObj.row t 1 r r.length) ++ rowsM t (rs.drop i)).set i (.row t 1 r r.length) = ((rs.take (i + 1)).map fun r => AObj.row t 1 r r.length) ++ rowsM t (rs.drop (i + 1)) := by
      rw [List.set_append_right _ _ (by omega), hl2, Nat.sub_self, hdr, htk]
      simp [rowsM]
    simp only [List.set_cons_succ, List.set_cons_zero] at h
    rw [e2, e3] at h
    exact h
end Go.Proofs.YtdgpmopcmacicaaPi
