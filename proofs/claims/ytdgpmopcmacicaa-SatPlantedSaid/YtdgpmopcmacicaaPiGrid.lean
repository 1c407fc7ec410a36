/- A slice whose elements are rows that grow: it is made as a box of empty handles, which then are given rows. No Go text in it. -/
import Derived.Test.YtdgpmopcmacicaaPiGo
set_option linter.unusedVariables false
set_option linter.unusedSimpArgs false
set_option maxRecDepth 4000
namespace Go.Proofs.YtdgpmopcmacicaaPi
variable {P : Program} {n : Nat} {Q : Exit → ASt → Prop} {st : ASt}
theorem upN_bs : ∀ (d e r n : Nat), PV.upN d (.bs e r n) = .bs (e + d) r n
  | 0, e, r, n => rfl
  | d + 1, e, r, n => by rw [PV.upN, upN_bs d]; rfl
theorem downN_bs : ∀ (d r n : Nat), PV.downN d (.bs d r n) = some (.bs 0 r n)
  | 0, r, n => rfl
  | d + 1, r, n => by rw [PV.downN]; exact downN_bs d r n
/-- 'make' of nil slices, as a box of handles. -/
theorem makeBox_ok {T e by_ : TypeId} {l c : Operand} {k1 k2 : IntKind} {N : Nat} (hl : evalPV st l = some (.im (.int k1 N))) (hc : evalPV st c = some (.im (.int k2 N))) (he : elemT P T = some e) (hs : sizeT P e = some 1) (hb : bytesT P e = some by_) (hz : zeroT P e = some [.nils]) (hbd : by_ * N ≤ 281474976710656) (hN : N ≤ 1000000) :
    OpOk P n st (.makeSlice T l c) (.bs 0 st.loc.length N) (st.push (.box (List.replicate N .nils))) := fun F bs a w hr o ho => by
  have h1 := evalPV_rel hr hl
  have h2 := evalPV_rel hr hc
  simp only [VRel, IRel] at h1 h2
  obtain ⟨zv, hzr, hzv, i, hi, hiz⟩ := zeroT_run hz w
  have hisz : i.size = 1 := by simp [sizeT, hi] at hs; exact hs
  have hiby : i.bytes = by_ := by simp [bytesT, hi] at hb; exact hb
  have hzc : zv.cells.size = 1 := by have := (hzv F bs st.fr).length; simp only [Array.length_toList, List.length_cons, List.length_nil] at this; omega
  have hrun := run_make (P := P) w T e i zv (elemT_some he) hi hiz k1 k2 N N (by omega) (Int.le_refl _) (by rw [hiby]; exact Int.le_trans (Int.le_of_eq (Int.natCast_mul by_ N).symm) (by exact Int.ofNat_le.2 hbd)) (Int.le_trans (Int.ofNat_le.2 hN) (by decide))
  rw [hisz] at hrun
  simp only [Int.toNat_natCast, Nat.mul_one] at hrun
  have hv : VRels F bs st.fr (List.replicate N .nils) (madeCells zv.cells N).toList := by
    refine VRels.mk (by simp [size_madeCells]) fun j x v hx hv => ?_
    rw [List.getElem?_replicate] at hx
    split at hx
    · rename_i hj
      simp only [Option.some.injEq] at hx
      subst hx
      have := madeCells_get zv.cells N j hj
      rw [hzc, Nat.mod_one] at this
      rw [Array.getElem?_toList, this] at hv
      simp only [Option.some.injEq] at hv
      subst hv
      exact (hzv F bs st.fr).get' (j := 0) rfl (by simp [hzc])
    · simp at hx
  have hev : ∀ b0 bs', bs = b0 :: bs' → Evolve bs st.fr ((b0 ++ [(some w.heap.size, 0)]) :: bs') (st.push (.box (List.replicate N .nils))).fr := fun b0 bs' e d j o' a' h1 h2 => by
    subst e
    refine ⟨o', a', ?_, ?_, o'.becomes_refl a'⟩
    · cases d with
      | zero => simp only [ASt.fr, ASt.push, look_zero] at h1 ⊢; rw [List.getElem?_append_left (List.getElem?_eq_some_iff.1 h1).1]; exact h1
      | succ d => simpa only [ASt.fr, ASt.push, look_succ] using h1
    · cases d with
      | zero => simp only [look_zero] at h2 ⊢; rw [List.getElem?_append_left (List.getElem?_eq_some_iff.1 h2).1]; exact h2
      | succ d => simpa only [look_succ] using h2
  obtain ⟨bs', q1, q2, q3, q4⟩ := push_ok hr (.box (List.replicate N .nils)) (madeCells zv.cells N) e 0 (fun b0 bs' e' => ⟨_, _, e, rfl, heap_alloc_new w _, VRels.move (Fz.le_refl F) (hev b0 bs' e') hv, unfrozen_new hr⟩)
  refine ⟨_, _, _, F, bs', by simp only [execOp, ho, h1, h2, Sem.run_bind, hrun, Result.andThen_ok, Sem.run_pure]; rfl, .inl rfl, q1, q2, ?_, rfl⟩
  simp only [VRel]
  exact ⟨_, 0, _, _, q4, q3, rfl, Nat.le_refl _⟩
theorem GOps.makeBox {dst : Option Nat} {gd : Option (Nat × Bool)} {gs : List GO} {T e by_ : TypeId} {l c : Operand} {k1 k2 : IntKind} (N : Nat) (hN : N ≤ 1000000) (hbd : by_ * N ≤ 281474976710656) (h : GOps P n gs Q ((st.push (.box (List.replicate N .nils))).put dst (.bs 0 st.loc.length N)))
    (hg : guardA st.env gd = some true := by rfl) (hl : evalPV st l = some (.im (.int k1 N)) := by rfl) (hc : evalPV st c = some (.im (.int k2 N)) := by rfl) (hd : okDst n dst = true := by rfl)
    (he : elemT P T = some e := by (simp only [fx] <;> with_reducible rfl)) (hs : sizeT P e = some 1 := by (simp only [fx] <;> with_reducible rfl)) (hb : bytesT P e = some by_ := by (simp only [fx] <;> with_reducible rfl)) (hz : zeroT P e = some [.nils] := by (simp only [fx] <;> with_reducible rfl)) : GOps P n (⟨dst, .makeSlice T l c, gd⟩ :: gs) Q st :=
  GOps.step hg (makeBox_ok hl hc he hs hb hz hbd hN) hd h
/-- All cells of a box of nil slices are given rows. -/
theorem Ghost.thawAll {e : List (Nat × PV)} {b : List AObj} {up : Frs} {j N : Nat} (t sz : Nat) (hsz : 0 < sz) (hl : b[j]? = some (.box (List.replicate N .nils))) :
    Ghost n ⟨e, b, up⟩ ⟨e, b.set j (.box ((List.range N).map fun k => .ms 0 (b.length + k) 0)) ++ List.replicate N (.row t sz [] 0), up⟩ := by
  have hj := (List.getElem?_eq_some_iff.1 hl).1
  have main : ∀ i, i ≤ N → Ghost n ⟨e, b, up⟩ ⟨e, b.set j (.box ((List.range i).map (fun k => PV.ms 0 (b.length + k) 0) ++ List.replicate (N - i) PV.nils)) ++ List.replicate i (.row t sz [] 0), up⟩ := by
    intro i
    induction i with
    | zero =>
      intro _
      have e0 : b.set j (.box ((List.range 0).map (fun k => PV.ms 0 (b.length + k) 0) ++ List.replicate (N - 0) PV.nils)) ++ List.replicate 0 (AObj.row t sz [] 0) = b := by
        simp only [List.range_zero, List.map_nil, List.nil_append, Nat.sub_zero, List.replicate_zero, List.append_nil]
        obtain ⟨h1, h2⟩ := List.getElem?_eq_some_iff.1 hl
        rw [← h2, List.set_getElem_self]
      rw [e0]
      exact .refl _ _
    | succ i ih =>
      intro hi
      refine (ih (by omega)).trans ?_
      have hcl : ((List.range i).map (fun k => PV.ms 0 (b.length + k) 0)).length = i := by simp
      have h1 := Ghost.thawBox (n := n) (st := ⟨e, b.set j (.box ((List.range i).map (fun k => PV.ms 0 (b.length + k) 0) ++ List.replicate (N - i) PV.nils)) ++ List.replicate i (.row t sz [] 0), up⟩) (j := j) (i := i) (cs := (List.range i).map (fun k => PV.ms 0 (b.length + k) 0) ++ List.replicate (N - i) PV.nils) t sz hsz
        (by simp only; rw [List.getElem?_append_left (by simp [hj]), List.getElem?_set_self (by simpa using hj)]) (by rw [List.getElem?_append_right (by omega), hcl, Nat.sub_self, List.getElem?_replicate, if_pos (by omega)])
      refine h1.trans ?_
      have e1 : (((⟨e, b.set j (.box ((List.range i).map (fun k => PV.ms 0 (b.length + k) 0) ++ List.replicate (N - i) PV.nils)) ++ List.replicate i (.row t sz [] 0), up⟩ : ASt).push (.row t sz [] 0)).setFr (fset ((⟨e, b.set j (.box ((List.range i).map (fun k => PV.ms 0 (b.length + k) 0) ++ List.replicate (N - i) PV.nils)) ++ List.replicate i (.row t sz [] 0), up⟩ : ASt).push (.row t sz [] 0)).fr 0 j (.box (((List.range i).map (fun k => PV.ms 0 (b.length + k) 0) ++ List.replicate (N - i) PV.nils).set i (.ms 0 (b.set j (.box ((List.range i).map (fun k => PV.ms 0 (b.length + k) 0) ++ List.replicate (N - i) PV.nils)) ++ List.replicate i (AObj.row t sz [] 0)).length 0))))) =
          ⟨e, b.set j (.box ((List.range (i + 1)).map (fun k => PV.ms 0 (b.length + k) 0) ++ List.replicate (N - (i + 1)) PV.nils)) ++ List.replicate (i + 1) (.row t sz [] 0), up⟩ := by
        have e2 : ((List.range i).map (fun k => PV.ms 0 (b.length + k) 0) ++ List.replicate (N - i) PV.nils).set i (.ms 0 (b.set j (.box ((List.range i).map (fun k => PV.ms 0 (b.length + k) 0) ++ List.replicate (N - i) PV.nils)) ++ List.replicate i (AObj.row t sz [] 0)).length 0) = (List.range (i + 1)).map (fun k => PV.ms 0 (b.length + k) 0) ++ List.replicate (N - (i + 1)) PV.nils := by
          rw [List.set_append_right _ _ (by omega), hcl, Nat.sub_self, show N - i = (N - (i + 1)) + 1 by omega, List.replicate_succ, List.set_cons_zero, List.range_succ]
          simp
        rw [e2]
        simp only [ASt.push, ASt.fr, fset, ASt.setFr]
        rw [List.set_append_left _ _ (by simp; omega), List.set_append_left _ _ (by simp [hj]), List.set_set, List.append_assoc]
        congr 2
        rw [List.replicate_succ']
      rw [e1]
      exact .refl _ _
  have := main N (Nat.le_refl _)
  simpa using this
theorem app_last {α : Type} (L : List α) (o : α) : (L ++ [o])[L.length]? = some o := by simp
theorem app_set {α : Type} (L : List α) (o o' : α) : (L ++ [o]).set L.length o' = L ++ [o'] := by simp
theorem Ghost.keepE {e : List (Nat × PV)} (h : ehas st.env e) : Ghost n st { st with env := e } := Ghost.env fun t v hv => ehas_mem h _ (eget_mem hv)
/-- Slots are kept, and the first L objects. -/
theorem Ghost.cut {e : List (Nat × PV)} {L : List AObj} {o : List AObj} {up : Frs} {env : List (Nat × PV)} (h : ehas env e) (h2 : unders L.length (e.map (·.2)) = true) (h3 : L.all (AObj.under L.length) = true) : Ghost n ⟨env, L ++ o, up⟩ ⟨e, L, up⟩ := by
  have := Ghost.shape (n := n) (st := ⟨env, L ++ o, up⟩) e L.length (ehas_mem h) h2 (by simpa using h3)
  simpa using this
end Go.Proofs.YtdgpmopcmacicaaPi
