/- Part 5 of the proof: the texts WNB, PNTidy, PFinds, WGL, WKE, WKF, one behind the other. Each holds for every input that it names; no condition is hidden. -/
import Derived.Test.YtdgpmopcmacicaaM4
import Derived.Test.YtdgpmopcmacicaaM3
/- The walk of netlist.Clean. -/
set_option linter.unusedVariables false
set_option linter.unusedSimpArgs false
set_option maxRecDepth 100000
namespace Go.Proofs.YtdgpmopcmacicaaPi
set_option maxHeartbeats 4000000
/-- What is needed: the nets of outputs and flip-flops, and down from these. -/
def setAll (ks : List Int) (v : List Bool) : List Bool := ks.foldl (fun v k => v.set k.toNat true) v
theorem setAll_len (ks : List Int) : ∀ v : List Bool, (setAll ks v).length = v.length := by
  induction ks with
  | nil => intro v; rfl
  | cons k ks ih => intro v; rw [setAll, List.foldl_cons, ← setAll, ih]; simp
theorem setAll_snoc (ks : List Int) (k : Int) (v : List Bool) : setAll (ks ++ [k]) v = (setAll ks v).set k.toNat true := by simp [setAll]
abbrev fstN (n : LNet) : Nat := 2 + n.inn.length + n.flops.length
abbrev netsN (n : LNet) : Nat := 2 + n.inn.length + n.flops.length + n.gates.length
def gateD (n : LNet) (i : Nat) : LGate := n.gates.getD i ⟨0, []⟩
def needStep (n : LNet) (v : List Bool) (i : Nat) : List Bool := if v.getD (fstN n + i) false = true then setAll (gateD n i).ins v else v
def needDown (n : LNet) : Nat → List Bool → List Bool
  | 0, v => v
  | i + 1, v => needDown n i (needStep n v i)
def needN (n : LNet) : List Bool := needDown n n.gates.length (setAll (waysN n) (List.replicate (netsN n) false))
theorem needDown_len (n : LNet) : ∀ (i : Nat) (v : List Bool), (needDown n i v).length = v.length
  | 0, v => rfl
  | i + 1, v => by
    rw [needDown, needDown_len n i, needStep]
    split
    · exact setAll_len _ _
    · rfl
theorem needN_len (n : LNet) : (needN n).length = netsN n := by rw [needN, needDown_len, setAll_len]; simp
/-- The new numbers of nets, and the gates that are left. -/
def cnStep (n : LNet) (need : List Bool) (i : Nat) (S : List Int × List LGate) : List Int × List LGate :=
  if i < fstN n then (S.1 ++ [(i : Int)], S.2)
  else if need.getD i false = true then (S.1 ++ [((fstN n + S.2.length : Nat) : Int)], S.2 ++ [⟨(gateD n (i - fstN n)).table, (gateD n (i - fstN n)).ins.map fun k => S.1.getD k.toNat 0⟩])
  else (S.1 ++ [-1], S.2)
def cnS (n : LNet) (need : List Bool) : Nat → List Int × List LGate
  | 0 => ([], [])
  | i + 1 => cnStep n need i (cnS n need i)
theorem cnS_len (n : LNet) (need : List Bool) : ∀ i : Nat, (cnS n need i).1.length = i ∧ (cnS n need i).2.length ≤ i
  | 0 => ⟨rfl, Nat.le_refl _⟩
  | i + 1 => by
    obtain ⟨h1, h2⟩ := cnS_len n need i
    rw [cnS, cnStep]
    split
    · simp only [List.length_append, List.length_cons, List.length_nil]; omega
    · split
      · simp only [List.length_append, List.length_cons, List.length_nil]; omega
      · simp only [List.length_append, List.length_cons, List.length_nil]; omega
theorem ints_app1 (a : List Int) (x : Int) : ints (a ++ [x]) = ints a ++ [[.int .i64 x]] := by simp
def flopTo (to : List Int) (f : LFlop) : LFlop := ⟨f.name, to.getD f.d.toNat 0, to.getD f.en.toNat 0, f.init⟩
/-- The netlist that is left. -/
def cleanNV (n : LNet) : LNet := ⟨n.inn, n.out, n.flops.map (flopTo (cnS n (needN n) (netsN n)).1), (cnS n (needN n) (netsN n)).2, n.outs.map fun k => (cnS n (needN n) (netsN n)).1.getD k.toNat 0⟩
def midF (to : List Int) (fs : List LFlop) (i : Nat) : List LFlop := (fs.take i).map (flopTo to) ++ fs.drop i
def midO (to : List Int) (l : List Int) (i : Nat) : List Int := ((l.take i).map fun k => to.getD k.toNat 0) ++ l.drop i
theorem midO_len (to : List Int) (l : List Int) (i : Nat) (h : i ≤ l.length) : (midO to l i).length = l.length := by simp [midO]; omega
theorem midO_get (to : List Int) (l : List Int) (i : Nat) (x : Int) (h : l[i]? = some x) : (midO to l i)[i]? = some x := by
  have hi := (List.getElem?_eq_some_iff.1 h).1
  have hl : ((l.take i).map fun k => to.getD k.toNat 0).length = i := by simp; omega
  rw [midO, List.getElem?_append_right (by omega), hl, Nat.sub_self, List.getElem?_drop, Nat.add_zero, h]
theorem midO_set (to : List Int) (l : List Int) (i : Nat) (x : Int) (h : l[i]? = some x) : (midO to l i).set i (to.getD x.toNat 0) = midO to l (i + 1) := by
  obtain ⟨hi, hr⟩ := List.getElem?_eq_some_iff.1 h
  have hl : ((l.take i).map fun k => to.getD k.toNat 0).length = i := by simp; omega
  have e : l.take (i + 1) = l.take i ++ [x] := by simp [List.take_add_one, h]
  rw [midO, List.set_append_right _ _ (by omega), hl, Nat.sub_self, List.drop_eq_getElem_cons hi, List.set_cons_zero, midO, e]
  simp
theorem midO_zero (to : List Int) (l : List Int) : midO to l 0 = l := by simp [midO]
theorem midO_all (to : List Int) (l : List Int) : midO to l l.length = l.map fun k => to.getD k.toNat 0 := by simp [midO]
theorem midF_len (to : List Int) (l : List LFlop) (i : Nat) (h : i ≤ l.length) : (midF to l i).length = l.length := by simp [midF]; omega
theorem midF_get (to : List Int) (l : List LFlop) (i : Nat) (x : LFlop) (h : l[i]? = some x) : (midF to l i)[i]? = some x := by
  have hi := (List.getElem?_eq_some_iff.1 h).1
  have hl : ((l.take i).map (flopTo to)).length = i := by simp; omega
  rw [midF, List.getElem?_append_right (by omega), hl, Nat.sub_self, List.getElem?_drop, Nat.add_zero, h]
theorem midF_set (to : List Int) (l : List LFlop) (i : Nat) (x : LFlop) (h : l[i]? = some x) : (midF to l i).set i (flopTo to x) = midF to l (i + 1) := by
  obtain ⟨hi, hr⟩ := List.getElem?_eq_some_iff.1 h
  have hl : ((l.take i).map (flopTo to)).length = i := by simp; omega
  have e : l.take (i + 1) = l.take i ++ [x] := by simp [List.take_add_one, h]
  rw [midF, List.set_append_right _ _ (by omega), hl, Nat.sub_self, List.drop_eq_getElem_cons hi, List.set_cons_zero, midF, e]
  simp
theorem midF_zero (to : List Int) (l : List LFlop) : midF to l 0 = l := by simp [midF]
theorem midF_all (to : List Int) (l : List LFlop) : midF to l l.length = l.map (flopTo to) := by simp [midF]
/-- The objects behind Copy. -/
def DF (n : LNet) (need : List Bool) (R : List AObj) (FR : List LFlop) (OR : List Int) (gc : PV) (o5 : AObj) : List AObj := .box [.im (.sl (strs n.inn)), .im (.sl (strs n.out)), .im (.sl (n.flops.map LFlop.im)), .im (.sl (n.gates.map LGate.im)), .im (.sl (ints n.outs))] :: .box [.nils, .nils, .nils, .nils, .nils] :: .row 4 1 (bools need) 0 :: .box [.im (.sl (strs n.inn)), .im (.sl (strs n.out)), .im (.sl (n.flops.map LFlop.im)), .im (.sl (n.gates.map LGate.im)), .im (.sl (ints n.outs))] :: .box (agN n 3 gc) :: .row 197 5 (FR.map LFlop.im) 0 :: .row 3 1 (ints OR) 0 :: .box (agN n 3 gc) :: o5 :: R
theorem DF_len (n : LNet) (need : List Bool) (R : List AObj) (FR : List LFlop) (OR : List Int) (gc : PV) (o5 : AObj) : (DF n need R FR OR gc o5).length = R.length + 9 := rfl
section
variable (n : LNet) (need : List Bool) (R : List AObj) (FR : List LFlop) (OR : List Int) (gc : PV) (o5 : AObj) (S : List AObj)
theorem DF_1 : (DF n need R FR OR gc o5 ++ S)[1]? = some (.box [.nils, .nils, .nils, .nils, .nils]) := rfl
theorem DF_2 : (DF n need R FR OR gc o5 ++ S)[2]? = some (.row 4 1 (bools need) 0) := rfl
theorem DF_5 : (DF n need R FR OR gc o5 ++ S)[5]? = some (.row 197 5 (FR.map LFlop.im) 0) := rfl
theorem DF_6 : (DF n need R FR OR gc o5 ++ S)[6]? = some (.row 3 1 (ints OR) 0) := rfl
theorem DF_8 : (DF n need R FR OR gc o5 ++ S)[8]? = some o5 := rfl
theorem DF_55 (o : AObj) : ((DF n need R FR OR gc o5 ++ S).set 5 o)[5]? = some o := rfl
theorem DF_5s (o o' : AObj) : ((DF n need R FR OR gc o5 ++ S).set 5 o).set 5 o' = (DF n need R FR OR gc o5 ++ S).set 5 o' := rfl
theorem DF_row (q : Nat) (h : q < R.length) : (DF n need R FR OR gc o5 ++ S)[q + 9]? = R[q]? := by rw [List.getElem?_append_left (by rw [DF_len]; omega)]; rfl
theorem DF_srow (q : Nat) (h : q < R.length) (o : AObj) : (DF n need R FR OR gc o5 ++ S).set (q + 9) o = DF n need (R.set q o) FR OR gc o5 ++ S := by rw [List.set_append_left _ _ (by rw [DF_len]; omega)]; rfl
theorem DF_suf (M k : Nat) (h : R.length + 9 = M) : (DF n need R FR OR gc o5 ++ S)[M + k]? = S[k]? := by
  rw [List.getElem?_append_right (by rw [DF_len]; omega), DF_len, show M + k - (R.length + 9) = k by omega]
theorem DF_suf0 (M : Nat) (h : R.length + 9 = M) : (DF n need R FR OR gc o5 ++ S)[M]? = S[0]? := DF_suf n need R FR OR gc o5 S M 0 h
theorem DF_set (M k : Nat) (h : R.length + 9 = M) (o : AObj) : (DF n need R FR OR gc o5 ++ S).set (M + k) o = DF n need R FR OR gc o5 ++ S.set k o := by
  rw [List.set_append_right _ _ (by rw [DF_len]; omega), DF_len, show M + k - (R.length + 9) = k by omega]
theorem DF_set0 (M : Nat) (h : R.length + 9 = M) (o : AObj) : (DF n need R FR OR gc o5 ++ S).set M o = DF n need R FR OR gc o5 ++ S.set 0 o := DF_set n need R FR OR gc o5 S M 0 h o
end
theorem under_app (L : Nat) : ∀ xs ys : List PV, unders L (xs ++ ys) = (unders L xs && unders L ys)
  | [], ys => rfl
  | x :: xs, ys => by simp only [List.cons_append, unders, under_app L xs ys, Bool.and_assoc]
theorem under_any (L : Nat) : ∀ r : Nat, unders L (List.replicate r .any) = true
  | 0 => rfl
  | r + 1 => by simp only [List.replicate_succ, unders, under_any L r, PV.under, Bool.and_self]
theorem under_cellsG (L : Nat) : ∀ (gs : List LGate) (b : Nat), b + gs.length ≤ L → unders L (cellsG b gs) = true
  | [], b, _ => rfl
  | g :: gs, b, h => by
    simp only [List.length_cons] at h
    simp only [cellsG, cellM, List.cons_append, List.nil_append, unders, PV.under, under_cellsG L gs (b + 1) (by omega), Bool.and_true, Bool.true_and]
    exact decide_eq_true (by omega)
theorem cellsG_take : ∀ (gs : List LGate) (b q : Nat) (g : LGate) (o : List PV), gs[q]? = some g → ((cellsG b gs ++ o).drop (q * 3)).take 3 = cellM (q + b) g
  | [], b, q, g, o, h => by simp at h
  | x :: gs, b, 0, g, o, h => by
    simp at h
    subst h
    simp [cellsG, cellM]
  | x :: gs, b, q + 1, g, o, h => by
    have ih := cellsG_take gs (b + 1) q g o (by simpa using h)
    rw [show (q + 1) * 3 = 3 + q * 3 by omega, cellsG, List.append_assoc, ← List.drop_drop]
    have : (cellM b x ++ (cellsG (b + 1) gs ++ o)).drop 3 = cellsG (b + 1) gs ++ o := rfl
    rw [this, ih, show q + (b + 1) = q + 1 + b by omega]
theorem list_set_self {α : Type} {l : List α} {i : Nat} {x : α} (h : l[i]? = some x) : l.set i x = l := by
  obtain ⟨h1, h2⟩ := List.getElem?_eq_some_iff.1 h
  rw [← h2, List.set_getElem_self]
def AObj.isRow : AObj → Bool
  | .row _ _ _ _ => true
  | _ => false
theorem DF_und {n : LNet} {need : List Bool} {R : List AObj} {FR : List LFlop} {OR : List Int} {gc : PV} {o5 : AObj} (hc : CopyF n 3 gc o5) (hR : R.length = n.gates.length) (hRr : ∀ o ∈ R, o.isRow = true) {L : Nat} (hL : n.gates.length + 9 ≤ L) : (DF n need R FR OR gc o5).all (AObj.under L) = true := by
  have g1 : gc.under L = true := by
    rcases hc.it with ⟨_, rfl, _⟩ | ⟨_, rfl, _⟩
    · rfl
    · exact decide_eq_true (by omega)
  have g2 : o5.under L = true := by
    rcases hc.it with ⟨_, _, rfl⟩ | ⟨_, _, r, rfl⟩
    · rfl
    · simp only [AObj.under, under_app, under_any, under_cellsG L n.gates (3 + 6) (by omega), Bool.and_self]
  have g3 : unders L (agN n 3 gc) = true := by
    simp only [agN, unders, g1, PV.under, Bool.and_true, Bool.true_and]
    simp; omega
  rw [List.all_eq_true]
  intro o ho
  simp only [DF, List.mem_cons] at ho
  rcases ho with rfl | rfl | rfl | rfl | rfl | rfl | rfl | rfl | rfl | ho
  · rfl
  · rfl
  · rfl
  · rfl
  · exact g3
  · rfl
  · rfl
  · exact g3
  · exact g2
  · have := hRr o ho
    cases o <;> simp_all [AObj.isRow, AObj.under]
/-- Slots are kept, and the first k of the last objects. -/
theorem Ghost.cutK {m : Nat} {e env : List (Nat × PV)} {A S : List AObj} {up : Frs} {M : Nat} (k : Nat) (hA : A.length = M) (hk : k ≤ S.length) (h : ehas env e) (h2 : unders (M + k) (e.map (·.2)) = true) (h3 : A.all (AObj.under (M + k)) = true) (h4 : (S.take k).all (AObj.under (M + k)) = true) : Ghost m ⟨env, A ++ S, up⟩ ⟨e, A ++ S.take k, up⟩ := by
  have e1 : A ++ S = (A ++ S.take k) ++ S.drop k := by rw [List.append_assoc, List.take_append_drop]
  have e2 : (A ++ S.take k).length = M + k := by rw [List.length_append, List.length_take]; omega
  rw [e1]
  exact Ghost.cut h (by rw [e2]; exact h2) (by rw [e2, List.all_append, h3, h4]; rfl)
theorem shutS {m : Nat} {A : List AObj} {up : Frs} {M nf ng no i t5 t6 t1 t2 : Nat} {a b : PV} {x0 : AObj} {FR OR TR GR : List (List Im)} (hA : A.length = M) (hM : 6 < M) (h5 : A[5]? = some (.row t5 5 FR 0)) (h6 : A[6]? = some (.row t6 1 OR 0)) (l5 : FR.length = nf) (l6 : OR.length = no) (lg : GR.length = ng) (lt : TR.length = i) :
    Ghost m ⟨[(2, .ptr 0 1 0), (14, .ptr 0 (M + 1) 0), (15, .ms 0 (M + 2) i)], A ++ [x0, .box [a, b, .ms 0 5 nf, .ms 0 (M + 3) ng, .ms 0 6 no], .row t1 1 TR 0, .row t2 3 GR 0], up⟩
      ⟨[(15, .im (.sl TR)), (2, .ptr 0 1 0), (14, .ptr 0 (M + 1) 0)], (A.set 5 (.row t5 5 FR FR.length)).set 6 (.row t6 1 OR OR.length) ++ [x0, .box [a, b, .im (.sl FR), .im (.sl GR), .im (.sl OR)], .row t1 1 TR TR.length, .row t2 3 GR GR.length], up⟩ := by
  have suf : ∀ (B S : List AObj) (k : Nat), B.length = M → (B ++ S)[M + k]? = S[k]? := fun B S k h => by rw [List.getElem?_append_right (by omega), show M + k - B.length = k by omega]
  have sst : ∀ (B S : List AObj) (k : Nat) (o : AObj), B.length = M → (B ++ S).set (M + k) o = B ++ S.set k o := fun B S k o h => by rw [List.set_append_right _ _ (by omega), show M + k - B.length = k by omega]
  have lft : ∀ (B S : List AObj) (k : Nat), B.length = M → k < M → (B ++ S)[k]? = B[k]? := fun B S k h hk => List.getElem?_append_left (by omega)
  have lst : ∀ (B S : List AObj) (k : Nat) (o : AObj), B.length = M → k < M → (B ++ S).set k o = B.set k o ++ S := fun B S k o h hk => List.set_append_left _ _ (by omega)
  have g1 := Ghost.boxShut (n := m) (st := ⟨[(2, .ptr 0 1 0), (14, .ptr 0 (M + 1) 0), (15, .ms 0 (M + 2) i)], A ++ [x0, .box [a, b, .ms 0 5 nf, .ms 0 (M + 3) ng, .ms 0 6 no], .row t1 1 TR 0, .row t2 3 GR 0], up⟩) (j := M + 1) (i := 2) (r := 5) (by simp only; rw [suf _ _ _ hA]; rfl) rfl (by simp only; rw [lft _ _ _ hA (by omega)]; exact h5) l5
  simp only at g1
  rw [lst _ _ _ _ hA (by omega), sst _ _ _ _ (by rw [List.length_set]; exact hA)] at g1
  simp only [List.set_cons_succ, List.set_cons_zero] at g1
  refine g1.trans ?_
  have hA1 : (A.set 5 (.row t5 5 FR FR.length)).length = M := by rw [List.length_set]; exact hA
  have h61 : (A.set 5 (.row t5 5 FR FR.length))[6]? = some (.row t6 1 OR 0) := by rw [List.getElem?_set_ne (by omega)]; exact h6
  generalize A.set 5 (.row t5 5 FR FR.length) = A1 at hA1 h61
  have g2 := Ghost.boxShut (n := m) (st := ⟨[(2, .ptr 0 1 0), (14, .ptr 0 (M + 1) 0), (15, .ms 0 (M + 2) i)], A1 ++ [x0, .box [a, b, .im (.sl FR), .ms 0 (M + 3) ng, .ms 0 6 no], .row t1 1 TR 0, .row t2 3 GR 0], up⟩) (j := M + 1) (i := 4) (r := 6) (by simp only; rw [suf _ _ _ hA1]; rfl) rfl (by simp only; rw [lft _ _ _ hA1 (by omega)]; exact h61) l6
  simp only at g2
  rw [lst _ _ _ _ hA1 (by omega), sst _ _ _ _ (by rw [List.length_set]; exact hA1)] at g2
  simp only [List.set_cons_succ, List.set_cons_zero] at g2
  refine g2.trans ?_
  have hA2 : (A1.set 6 (.row t6 1 OR OR.length)).length = M := by rw [List.length_set]; exact hA1
  generalize A1.set 6 (.row t6 1 OR OR.length) = A2 at hA2
  have g3 := Ghost.boxShut (n := m) (st := ⟨[(2, .ptr 0 1 0), (14, .ptr 0 (M + 1) 0), (15, .ms 0 (M + 2) i)], A2 ++ [x0, .box [a, b, .im (.sl FR), .ms 0 (M + 3) ng, .im (.sl OR)], .row t1 1 TR 0, .row t2 3 GR 0], up⟩) (j := M + 1) (i := 3) (r := M + 3) (by simp only; rw [suf _ _ _ hA2]; rfl) rfl (by simp only; rw [suf _ _ _ hA2]; rfl) lg
  simp only at g3
  rw [sst _ _ _ _ hA2, sst _ _ _ _ hA2] at g3
  simp only [List.set_cons_succ, List.set_cons_zero] at g3
  refine g3.trans ?_
  have g4 := Ghost.shut (n := m) (st := ⟨[(2, .ptr 0 1 0), (14, .ptr 0 (M + 1) 0), (15, .ms 0 (M + 2) i)], A2 ++ [x0, .box [a, b, .im (.sl FR), .im (.sl GR), .im (.sl OR)], .row t1 1 TR 0, .row t2 3 GR GR.length], up⟩) (t := 15) (j := M + 2) (m := i) rfl (by simp only; rw [suf _ _ _ hA2]; rfl) lt
  refine g4.trans ?_
  simp only [eput, edel]
  rw [sst _ _ _ _ hA2]
  exact .refl _ _
theorem NCopy_D (n : LNet) (hn : NetSmall n) (h6 : ∀ g ∈ n.gates, g.ins.length ≤ 6) (need : List Bool) (up : Frs) : ACalls Try.prog 125 [n.pv] ([.box [.im (.sl (strs n.inn)), .im (.sl (strs n.out)), .im (.sl (n.flops.map LFlop.im)), .im (.sl (n.gates.map LGate.im)), .im (.sl (ints n.outs))], .box [.nils, .nils, .nils, .nils, .nils], .row 4 1 (bools need) 0] :: up) fun v u => ∃ gc o5, CopyF n 3 gc o5 ∧ v = .agg (agN n 3 gc) ∧ u = DF n need (rowsG n.gates) n.flops n.outs gc o5 :: up := by
  refine (NCopy_ok n hn h6 _ up).mono fun v u ⟨gc, o5, h1, h2, h3⟩ => ⟨gc, o5, h1, h2, ?_⟩
  rw [h3]
  rfl
theorem NClean_ok (n : LNet) (hn : NetOk n) (up : Frs) : ACalls Try.prog 79 [n.pv] up fun v u => v = .tup [(cleanNV n).pv, .im (.sl (ints (cnS n (needN n) (netsN n)).1)), .i 0] ∧ u = up := by
  obtain ⟨z1, z2, z3, z4, z5⟩ := hn.small
  obtain ⟨N, hN⟩ : ∃ N : Nat, N = netsN n := ⟨_, rfl⟩
  obtain ⟨F, hF⟩ : ∃ F : Nat, F = fstN n := ⟨_, rfl⟩
  have hN' : N = 2 + n.inn.length + n.flops.length + n.gates.length := hN
  have hF' : F = 2 + n.inn.length + n.flops.length := hF
  have hNi : 2 + (n.inn.length : Int) + n.flops.length + n.gates.length = (N : Int) := by omega
  have hFi : 2 + (n.inn.length : Int) + n.flops.length = (F : Int) := by omega
  have hc : (0 : Int) ≤ (N : Int) := by omega
  have hm1 : ((1 : Nat) : Int) * (N : Int) ≤ 281474976710656 := by omega
  have hm2 : (N : Int) ≤ 9223372036854775807 := by omega
  have wa : IntKind.i64.wrap ((n.gates.length : Int) - 1) = (n.gates.length : Int) - 1 := wrap64 (by omega)
  have h6 : ∀ g ∈ n.gates, g.ins.length ≤ 6 := fun g hg => by
    obtain ⟨i, hi⟩ := List.mem_iff_getElem?.1 hg
    exact (hn.gates i g hi).1
  have hwl : (waysN n).length ≤ 1000 := by rw [waysN, List.length_append, flopW_len]; omega
  have hwr : ∀ x ∈ waysN n, 0 ≤ x ∧ x < (N : Int) := fun x hx => by
    rcases List.mem_append.1 hx with hx | hx
    · have := hn.ends.outs x hx; omega
    · simp only [flopW, List.mem_flatten, List.mem_map] at hx
      obtain ⟨l, ⟨f, hf, rfl⟩, hx⟩ := hx
      have := hn.ends.flops f hf
      simp only [List.mem_cons, List.not_mem_nil, or_false] at hx
      rcases hx with rfl | rfl <;> omega
  refine ACalls.code Try.func79 rfl 192 rfl (by simp) [.cell 2 60, .tmp 3, .tmp 4] rfl fun Q hQ => ?_
  simp only [ups, PV.up, argEnv]
  have ft := And.intro ty_2 (And.intro ty_3 (And.intro ty_4 (And.intro ty_22 (And.intro ty_39 (And.intro ty_57 (And.intro ty_58 (And.intro ty_60 (And.intro ty_71 (And.intro ty_197 (And.intro ty_200 trivial))))))))))
  refine Run.seq ?_
  have fx := And.intro wa (And.intro hm2 (And.intro hm1 (And.intro hc (And.intro strs_len (And.intro gim_len (And.intro fim_len (And.intro ints_len ft)))))))
  refine Run.go ?_
  refine End.kp [1, 2] ?_
  refine Run.seq ?_
  refine Run.seq ?_
  refine Run.region rfl fun K hK => GOps.sim ?_
  refine GOps.call rfl rfl rfl rfl (by kernel_rfl) (ACalls.sim ?_)
  refine (Form_ok n hn _).mono fun v u hv => ?_
  obtain ⟨rfl, rfl⟩ := hv
  refine ⟨_, _, rfl, GOps.sim ?_⟩
  refine GOps.done (hK _ ?_); clear hK K
  refine End.kp [1, 2, 5] ?_
  refine Run.seq ?_
  refine Run.go ?_
  refine End.kp [1, 2, 5, 26] ?_
  refine Run.cond _ rfl (fun hb => ?_) (fun hb => ?_)
  · have hb2 := hb
    simp at hb
  · have hb2 := hb
    refine Run.skip ?_
    refine End.kp [1, 2] ?_
    refine Run.seq ?_
    have fx := And.intro wa (And.intro hm2 (And.intro hm1 (And.intro hc (And.intro strs_len (And.intro gim_len (And.intro fim_len (And.intro ints_len ft)))))))
    refine Run.region rfl fun K hK => GOps.sim ?_
    refine GOps.call rfl rfl rfl rfl (by kernel_rfl) (ACalls.sim ?_)
    refine (Nets_ok n hn.small _).mono fun v u hv => ?_
    obtain ⟨rfl, rfl⟩ := hv
    rw [hNi]
    have fx := And.intro wa (And.intro hm2 (And.intro hm1 (And.intro hc (And.intro strs_len (And.intro gim_len (And.intro fim_len (And.intro ints_len ft)))))))
    refine ⟨_, _, rfl, GOps.sim ?_⟩
    refine GOps.done (hK _ ?_); clear hK K
    refine End.kp [1, 2, 6] ?_
    refine Run.seq ?_
    refine Run.seq ?_
    refine Run.region rfl fun K hK => GOps.sim ?_
    refine GOps.call rfl rfl rfl rfl (by kernel_rfl) (ACalls.sim ?_)
    refine (ways_ok n hn.small _).mono fun v u hv => ?_
    obtain ⟨rfl, rfl⟩ := hv
    refine ⟨_, _, rfl, GOps.sim ?_⟩
    refine GOps.done (hK _ ?_); clear hK K
    refine End.kp [1, 2, 6, 33, 34, 35] ?_
    refine Run.block ?_
    refine Run.ghost (Ghost.form [(1, .ptr 0 0 0), (2, .ptr 0 1 0), (6, .ms 0 2 N), (33, .im (.sl (ints (waysN n)))), (34, .i (waysN n).length), (35, .i (0 : Nat))] 3 ⟨rfl, rfl, rfl, rfl, rfl, rfl, trivial⟩ rfl rfl) ?_
    refine Run.loop (fun m st => ∃ (i : Nat), m = (waysN n).length - i ∧ i ≤ (waysN n).length ∧ st = ⟨[(1, .ptr 0 0 0), (2, .ptr 0 1 0), (6, .ms 0 2 N), (33, .im (.sl (ints (waysN n)))), (34, .i (waysN n).length), (35, .i (i : Nat))], [.box [.im (.sl (strs n.inn)), .im (.sl (strs n.out)), .im (.sl (n.flops.map LFlop.im)), .im (.sl (n.gates.map LGate.im)), .im (.sl (ints n.outs))], .box [.nils, .nils, .nils, .nils, .nils], .row 4 1 (bools (setAll ((waysN n).take i) (List.replicate N false))) 0], up⟩) (waysN n).length ⟨0, rfl, by omega, by simp [setAll]⟩ fun m st hI => ?_
    obtain ⟨i, rfl, hi, rfl⟩ := hI
    have hvl : (setAll ((waysN n).take i) (List.replicate N false)).length = N := by rw [setAll_len]; simp
    refine Run.seq ?_
    have fx := And.intro wa (And.intro hm2 (And.intro hm1 (And.intro hc (And.intro strs_len (And.intro gim_len (And.intro fim_len (And.intro ints_len ft)))))))
    refine Run.go ?_
    refine End.kp [1, 2, 6, 33, 34, 35, 36] ?_
    refine Run.seq ?_
    refine Run.cond _ rfl (fun hb => ?_) (fun hb => ?_)
    · have hb2 := of_decide_eq_true hb
      have hin : i < (waysN n).length := by omega
      have wi := wsucc hin (by omega)
      obtain ⟨x, hxi, hxm, hx⟩ := int_at (waysN n) i hin
      obtain ⟨x1, x2⟩ := hwr x hxm
      have hstep : setAll ((waysN n).take (i + 1)) (List.replicate N false) = (setAll ((waysN n).take i) (List.replicate N false)).set x.toNat true := by rw [int_snoc (waysN n) i x hxi, setAll_snoc]
      generalize setAll ((waysN n).take i) (List.replicate N false) = v at hvl hstep
      have hvb : (bools v).length = N := by rw [bools_len, hvl]
      have hvx := bools_get v x.toNat (by omega)
      have hst := bools_set v
      refine Run.skip ?_
      refine End.kp [1, 2, 6, 33, 34, 35] ?_
      refine Run.seq ?_
      refine Run.block ?_
      refine Run.seq ?_
      have fx := And.intro (@Int.toNat_natCast) (And.intro (@Int.natCast_nonneg) (And.intro hst (And.intro hvx (And.intro hvb (And.intro x2 (And.intro x1 (And.intro hx (And.intro wi (And.intro wa (And.intro hm2 (And.intro hm1 (And.intro hc (And.intro strs_len (And.intro gim_len (And.intro fim_len (And.intro ints_len ft))))))))))))))))
      refine Run.go ?_
      refine End.kp [1, 2, 6, 8, 33, 34, 35] ?_
      refine Run.go ?_
      refine End.blk ?_
      refine End.kp [1, 2, 6, 33, 34, 35] ?_
      refine Run.go ?_
      refine End.lp ?_
      refine ⟨(waysN n).length - (i + 1), _, by omega, Ghost.form [(1, .ptr 0 0 0), (2, .ptr 0 1 0), (6, .ms 0 2 N), (33, .im (.sl (ints (waysN n)))), (34, .i (waysN n).length), (35, .i (i + 1 : Nat))] 3 ⟨rfl, rfl, rfl, rfl, rfl, rfl, trivial⟩ rfl rfl, i + 1, rfl, by omega, ?_⟩
      rw [hstep]
      rfl
    · have hb2 := of_decide_eq_false hb
      have hiN : i = (waysN n).length := by omega
      subst hiN
      rw [List.take_length] at hvl ⊢
      have hV : needDown n n.gates.length (setAll (waysN n) (List.replicate N false)) = needN n := by rw [needN, hN]
      generalize setAll (waysN n) (List.replicate N false) = v0 at hvl hV
      refine Run.exit rfl ?_
      refine End.kp [1, 2, 6] ?_
      refine Run.seq ?_
      have fx := And.intro wa (And.intro hm2 (And.intro hm1 (And.intro hc (And.intro strs_len (And.intro gim_len (And.intro fim_len (And.intro ints_len ft)))))))
      refine Run.region rfl fun K hK => GOps.sim ?_
      refine GOps.call rfl rfl rfl rfl (by kernel_rfl) (ACalls.sim ?_)
      refine (First_ok n hn.small _).mono fun v u hv => ?_
      obtain ⟨rfl, rfl⟩ := hv
      rw [hFi]
      have fx := And.intro wa (And.intro hm2 (And.intro hm1 (And.intro hc (And.intro strs_len (And.intro gim_len (And.intro fim_len (And.intro ints_len ft)))))))
      refine ⟨_, _, rfl, GOps.sim ?_⟩
      refine GOps.done (hK _ ?_); clear hK K
      refine End.kp [1, 2, 6, 9] ?_
      refine Run.seq ?_
      refine Run.seq ?_
      refine Run.go ?_
      refine End.kp [1, 2, 6, 9, 10] ?_
      refine Run.block ?_
      refine Run.ghost (Ghost.form [(1, .ptr 0 0 0), (2, .ptr 0 1 0), (6, .ms 0 2 N), (9, .i F), (10, .i ((n.gates.length : Int) - 1))] 3 ⟨rfl, rfl, rfl, rfl, rfl, trivial⟩ rfl rfl) ?_
      refine Run.loop (fun m st => ∃ (k : Nat) (v : List Bool), k = m ∧ k ≤ n.gates.length ∧ v.length = N ∧ needDown n k v = needN n ∧ st = ⟨[(1, .ptr 0 0 0), (2, .ptr 0 1 0), (6, .ms 0 2 N), (9, .i F), (10, .i ((k : Int) - 1))], [.box [.im (.sl (strs n.inn)), .im (.sl (strs n.out)), .im (.sl (n.flops.map LFlop.im)), .im (.sl (n.gates.map LGate.im)), .im (.sl (ints n.outs))], .box [.nils, .nils, .nils, .nils, .nils], .row 4 1 (bools (v)) 0], up⟩) n.gates.length ⟨_, _, rfl, Nat.le_refl _, hvl, hV, rfl⟩ fun m st hI => ?_
      obtain ⟨k, v, rfl, hk, hvl2, hV2, rfl⟩ := hI
      have hvb : (bools v).length = N := by rw [bools_len, hvl2]
      refine Run.seq ?_
      refine Run.seq ?_
      have fx := And.intro hvb (And.intro wa (And.intro hm2 (And.intro hm1 (And.intro hc (And.intro strs_len (And.intro gim_len (And.intro fim_len (And.intro ints_len ft))))))))
      refine Run.go ?_
      refine End.kp [1, 2, 6, 9, 10, 50] ?_
      refine Run.cond _ rfl (fun hb => ?_) (fun hb => ?_)
      · have hb2 := of_decide_eq_true hb
        obtain ⟨i, rfl⟩ : ∃ i, k = i + 1 := ⟨k - 1, by omega⟩
        have ei : ((i + 1 : Nat) : Int) - 1 = (i : Int) := by omega
        have wf : IntKind.i64.wrap ((F : Int) + i) = ((F + i : Nat) : Int) := by rw [wrap64 (by omega)]; omega
        have wd : IntKind.i64.wrap ((i : Int) - 1) = (i : Int) - 1 := wrap64 (by omega)
        have hfl : ((F + i : Nat) : Int) < (N : Int) := by omega
        have hvf := bools_get v (F + i) (by omega)
        obtain ⟨g, hgi, hgm, hg⟩ := gate_at n.gates i (by omega)
        obtain ⟨v1, v2, v3⟩ := hn.gates i g hgi
        have hgd : gateD n i = g := by simp [gateD, hgi]
        have hil : (i : Int) < (n.gates.length : Int) := by omega
        rw [needDown, needStep, hgd, ← hF] at hV2
        refine Run.skip ?_
        refine End.kp [1, 2, 6, 9, 10] ?_
        refine Run.seq ?_
        refine Run.block ?_
        refine Run.seq ?_
        have fx := And.intro (@Int.toNat_natCast) (And.intro (@Int.natCast_nonneg) (And.intro hil (And.intro hg (And.intro hvf (And.intro hfl (And.intro wd (And.intro wf (And.intro ei (And.intro hvb (And.intro wa (And.intro hm2 (And.intro hm1 (And.intro hc (And.intro strs_len (And.intro gim_len (And.intro fim_len (And.intro ints_len ft)))))))))))))))))
        refine Run.go ?_
        refine End.kp [1, 2, 6, 9, 10, 58] ?_
        refine Run.cond _ rfl (fun hb => ?_) (fun hb => ?_)
        · have hb3 := hb
          rw [if_pos hb3] at hV2
          refine Run.seq ?_
          have fx := And.intro (@Int.toNat_natCast) (And.intro (@Int.natCast_nonneg) (And.intro hil (And.intro hg (And.intro hvf (And.intro hfl (And.intro wd (And.intro wf (And.intro ei (And.intro hvb (And.intro wa (And.intro hm2 (And.intro hm1 (And.intro hc (And.intro strs_len (And.intro gim_len (And.intro fim_len (And.intro ints_len ft)))))))))))))))))
          refine Run.go ?_
          refine End.kp [1, 2, 6, 9, 10, 64, 65, 66] ?_
          refine Run.block ?_
          refine Run.ghost (Ghost.form [(1, .ptr 0 0 0), (2, .ptr 0 1 0), (6, .ms 0 2 N), (9, .i F), (10, .i (i : Nat)), (64, .im (.sl (ints g.ins))), (65, .i g.ins.length), (66, .i (0 : Nat))] 3 ⟨rfl, rfl, rfl, rfl, rfl, rfl, rfl, rfl, trivial⟩ rfl rfl) ?_
          refine Run.loop (fun m st => ∃ (p : Nat), m = g.ins.length - p ∧ p ≤ g.ins.length ∧ st = ⟨[(1, .ptr 0 0 0), (2, .ptr 0 1 0), (6, .ms 0 2 N), (9, .i F), (10, .i (i : Nat)), (64, .im (.sl (ints g.ins))), (65, .i g.ins.length), (66, .i (p : Nat))], [.box [.im (.sl (strs n.inn)), .im (.sl (strs n.out)), .im (.sl (n.flops.map LFlop.im)), .im (.sl (n.gates.map LGate.im)), .im (.sl (ints n.outs))], .box [.nils, .nils, .nils, .nils, .nils], .row 4 1 (bools (setAll (g.ins.take p) v)) 0], up⟩) g.ins.length ⟨0, rfl, by omega, by simp [setAll]⟩ fun m st hI => ?_
          obtain ⟨p, rfl, hp, rfl⟩ := hI
          have hvl3 : (setAll (g.ins.take p) v).length = N := by rw [setAll_len]; exact hvl2
          refine Run.seq ?_
          have fx := And.intro (@Int.toNat_natCast) (And.intro (@Int.natCast_nonneg) (And.intro hil (And.intro hg (And.intro hvf (And.intro hfl (And.intro wd (And.intro wf (And.intro ei (And.intro hvb (And.intro wa (And.intro hm2 (And.intro hm1 (And.intro hc (And.intro strs_len (And.intro gim_len (And.intro fim_len (And.intro ints_len ft)))))))))))))))))
          refine Run.go ?_
          refine End.kp [1, 2, 6, 9, 10, 64, 65, 66, 67] ?_
          refine Run.seq ?_
          refine Run.cond _ rfl (fun hb => ?_) (fun hb => ?_)
          · have hb4 := of_decide_eq_true hb
            have hpn : p < g.ins.length := by omega
            have wp := wsucc hpn (by omega)
            obtain ⟨x, hxi, hxm, hx⟩ := int_at g.ins p hpn
            obtain ⟨x1, x2⟩ := v3 x hxm
            have hxN : x < (N : Int) := by omega
            have hstep : setAll (g.ins.take (p + 1)) v = (setAll (g.ins.take p) v).set x.toNat true := by rw [int_snoc g.ins p x hxi, setAll_snoc]
            generalize setAll (g.ins.take p) v = v' at hvl3 hstep
            have hvb2 : (bools v').length = N := by rw [bools_len, hvl3]
            have hvx := bools_get v' x.toNat (by omega)
            have hst := bools_set v'
            refine Run.skip ?_
            refine End.kp [1, 2, 6, 9, 10, 64, 65, 66] ?_
            refine Run.seq ?_
            refine Run.block ?_
            refine Run.seq ?_
            have fx := And.intro hst (And.intro hvx (And.intro hvb2 (And.intro hxN (And.intro x1 (And.intro hx (And.intro wp (And.intro (@Int.toNat_natCast) (And.intro (@Int.natCast_nonneg) (And.intro hil (And.intro hg (And.intro hvf (And.intro hfl (And.intro wd (And.intro wf (And.intro ei (And.intro hvb (And.intro wa (And.intro hm2 (And.intro hm1 (And.intro hc (And.intro strs_len (And.intro gim_len (And.intro fim_len (And.intro ints_len ft))))))))))))))))))))))))
            refine Run.go ?_
            refine End.kp [1, 2, 6, 9, 10, 12, 64, 65, 66] ?_
            refine Run.go ?_
            refine End.blk ?_
            refine End.kp [1, 2, 6, 9, 10, 64, 65, 66] ?_
            refine Run.go ?_
            refine End.lp ?_
            refine ⟨g.ins.length - (p + 1), _, by omega, Ghost.form [(1, .ptr 0 0 0), (2, .ptr 0 1 0), (6, .ms 0 2 N), (9, .i F), (10, .i (i : Nat)), (64, .im (.sl (ints g.ins))), (65, .i g.ins.length), (66, .i (p + 1 : Nat))] 3 ⟨rfl, rfl, rfl, rfl, rfl, rfl, rfl, rfl, trivial⟩ rfl rfl, p + 1, rfl, by omega, ?_⟩
            rw [hstep]
            rfl
          · have hb4 := of_decide_eq_false hb
            have hpe : p = g.ins.length := by omega
            subst hpe
            rw [List.take_length] at hvl3 ⊢
            refine Run.exit rfl ?_
            refine End.blk ?_
            refine End.kp [1, 2, 6, 9, 10] ?_
            have fx := And.intro (@Int.toNat_natCast) (And.intro (@Int.natCast_nonneg) (And.intro hil (And.intro hg (And.intro hvf (And.intro hfl (And.intro wd (And.intro wf (And.intro ei (And.intro hvb (And.intro wa (And.intro hm2 (And.intro hm1 (And.intro hc (And.intro strs_len (And.intro gim_len (And.intro fim_len (And.intro ints_len ft)))))))))))))))))
            refine Run.go ?_
            refine End.lp ?_
            refine ⟨i, _, by omega, Ghost.form [(1, .ptr 0 0 0), (2, .ptr 0 1 0), (6, .ms 0 2 N), (9, .i F), (10, .i ((i : Int) - 1))] 3 ⟨rfl, rfl, rfl, rfl, rfl, trivial⟩ rfl rfl, i, _, rfl, by omega, hvl3, hV2, rfl⟩
        · have hb3 := hb
          rw [if_neg (by rw [hb3]; simp)] at hV2
          refine Run.skip ?_
          refine End.blk ?_
          refine End.kp [1, 2, 6, 9, 10] ?_
          have fx := And.intro (@Int.toNat_natCast) (And.intro (@Int.natCast_nonneg) (And.intro hil (And.intro hg (And.intro hvf (And.intro hfl (And.intro wd (And.intro wf (And.intro ei (And.intro hvb (And.intro wa (And.intro hm2 (And.intro hm1 (And.intro hc (And.intro strs_len (And.intro gim_len (And.intro fim_len (And.intro ints_len ft)))))))))))))))))
          refine Run.go ?_
          refine End.lp ?_
          refine ⟨i, _, by omega, Ghost.form [(1, .ptr 0 0 0), (2, .ptr 0 1 0), (6, .ms 0 2 N), (9, .i F), (10, .i ((i : Int) - 1))] 3 ⟨rfl, rfl, rfl, rfl, rfl, trivial⟩ rfl rfl, i, _, rfl, by omega, hvl2, hV2, rfl⟩
      · have hb2 := of_decide_eq_false hb
        have hk0 : k = 0 := by omega
        subst hk0
        rw [needDown] at hV2
        subst hV2
        refine Run.exit rfl ?_
        refine End.kp [1, 2, 6, 9] ?_
        refine Run.seq ?_
        have fx := And.intro hvb (And.intro wa (And.intro hm2 (And.intro hm1 (And.intro hc (And.intro strs_len (And.intro gim_len (And.intro fim_len (And.intro ints_len ft))))))))
        refine Run.region rfl fun K hK => GOps.sim ?_
        refine GOps.call rfl rfl rfl rfl (by kernel_rfl) (ACalls.sim ?_)
        refine (NCopy_D n hn.small h6 (needN n) _).mono fun v u hv => ?_
        obtain ⟨gc, o5, hcf, rfl, rfl⟩ := hv
        have hRl : (rowsG n.gates).length = n.gates.length := by simp [rowsG]
        have hRr : ∀ o ∈ rowsG n.gates, o.isRow = true := fun o ho => by
          simp only [rowsG, List.mem_map] at ho
          obtain ⟨g, _, rfl⟩ := ho
          rfl
        have hRg : ∀ (q : Nat) (g : LGate), n.gates[q]? = some g → (rowsG n.gates)[q]? = some (AObj.row 3 1 (ints g.ins) 0) := fun q g h => by simp [rowsG, h]
        generalize rowsG n.gates = R at hRl hRr hRg ⊢
        obtain ⟨M, hM⟩ : ∃ M, M = n.gates.length + 9 := ⟨_, rfl⟩
        have hMR : R.length + 9 = M := by omega
        have dl : (DF n (needN n) R n.flops n.outs gc o5).length = M := by rw [DF_len, hMR]
        have d1 := fun S => DF_1 n (needN n) R n.flops n.outs gc o5 S
        have d2 := fun S => DF_2 n (needN n) R n.flops n.outs gc o5 S
        have d5 := fun S => DF_5 n (needN n) R n.flops n.outs gc o5 S
        have d6 := fun S => DF_6 n (needN n) R n.flops n.outs gc o5 S
        have s0 := fun S => DF_suf0 n (needN n) R n.flops n.outs gc o5 S M hMR
        have s1 := fun S => DF_suf n (needN n) R n.flops n.outs gc o5 S M 1 hMR
        have s2 := fun S => DF_suf n (needN n) R n.flops n.outs gc o5 S M 2 hMR
        have s3 := fun S => DF_suf n (needN n) R n.flops n.outs gc o5 S M 3 hMR
        have s4 := fun S => DF_suf n (needN n) R n.flops n.outs gc o5 S M 4 hMR
        have s5 := fun S => DF_suf n (needN n) R n.flops n.outs gc o5 S M 5 hMR
        have s6 := fun S => DF_suf n (needN n) R n.flops n.outs gc o5 S M 6 hMR
        have t0 := fun S => DF_set0 n (needN n) R n.flops n.outs gc o5 S M hMR
        have t1 := fun S => DF_set n (needN n) R n.flops n.outs gc o5 S M 1 hMR
        have t2 := fun S => DF_set n (needN n) R n.flops n.outs gc o5 S M 2 hMR
        have t3 := fun S => DF_set n (needN n) R n.flops n.outs gc o5 S M 3 hMR
        have t4 := fun S => DF_set n (needN n) R n.flops n.outs gc o5 S M 4 hMR
        have t5 := fun S => DF_set n (needN n) R n.flops n.outs gc o5 S M 5 hMR
        have t6 := fun S => DF_set n (needN n) R n.flops n.outs gc o5 S M 6 hMR
        have hag : agN n 3 gc = [.im (.sl (strs n.inn)), .im (.sl (strs n.out)), .ms 0 5 n.flops.length, gc, .ms 0 6 n.outs.length] := rfl
        have hgu : gc.under (M + 4) = true := by
          rcases hcf.it with ⟨_, rfl, _⟩ | ⟨_, rfl, _⟩
          · rfl
          · exact decide_eq_true (by omega)
        have hgo : onePV gc = true := by rcases hcf.it with ⟨_, rfl, _⟩ | ⟨_, rfl, _⟩ <;> rfl
        have fx := And.intro (@List.append_assoc.{0}) (And.intro (@List.length_append.{0}) (And.intro hgo (And.intro hag (And.intro t6 (And.intro t5 (And.intro t4 (And.intro t3 (And.intro t2 (And.intro t1 (And.intro t0 (And.intro s6 (And.intro s5 (And.intro s4 (And.intro s3 (And.intro s2 (And.intro s1 (And.intro s0 (And.intro d6 (And.intro d5 (And.intro d2 (And.intro d1 (And.intro dl (And.intro hvb (And.intro wa (And.intro hm2 (And.intro hm1 (And.intro hc (And.intro strs_len (And.intro gim_len (And.intro fim_len (And.intro ints_len ft)))))))))))))))))))))))))))))))
        refine ⟨_, _, rfl, GOps.sim ?_⟩
        refine GOps.done (hK _ ?_); clear hK K
        refine End.kp [2, 6, 9, 13] ?_
        refine Run.seq ?_
        refine Run.go ?_
        refine End.kp [2, 6, 9, 13, 14] ?_
        refine Run.seq ?_
        refine Run.go ?_
        refine End.kp [2, 6, 9, 13, 14] ?_
        refine Run.seq ?_
        refine Run.go ?_
        refine End.kp [2, 6, 9, 13, 14, 15] ?_
        refine Run.seq ?_
        refine Run.seq ?_
        refine Run.go ?_
        refine End.kp [2, 6, 9, 13, 14, 15, 79, 80] ?_
        refine Run.block ?_
        refine Run.ghost (Ghost.thaw (u := 15) 3 1 (by decide) rfl) ?_
        simp only [ASt.push, eput, edel, List.length_append, dl, List.append_assoc, List.cons_append, List.nil_append, List.length_cons, List.length_nil, Nat.zero_add, Nat.reduceAdd, Nat.reduceBEq, reduceIte]
        refine Run.ghost (Ghost.thawBox (j := M + 1) (i := 3) (cs := [.im (.sl (strs n.inn)), .im (.sl (strs n.out)), .ms 0 5 n.flops.length, .nils, .ms 0 6 n.outs.length]) 200 3 (by decide) (by rw [s1]; rfl) rfl) ?_
        simp only [ASt.push, ASt.fr, fset, ASt.setFr, List.length_append, dl, List.append_assoc, List.cons_append, List.nil_append, List.length_cons, List.length_nil, Nat.zero_add, Nat.reduceAdd, t1, List.set_cons_succ, List.set_cons_zero]
        refine Run.ghost (.keepE (e := [(2, .ptr 0 1 0), (6, .ms 0 2 N), (9, .i F), (13, .ptr 0 M 0), (14, .ptr 0 (M + 1) 0), (15, .ms 0 (M + 2) (0)), (79, .i N), (80, .i (0 : Nat))]) ⟨rfl, rfl, rfl, rfl, rfl, rfl, rfl, rfl, trivial⟩) ?_
        refine Run.loop (fun m st => ∃ (i : Nat) (R : List AObj), m = N - i ∧ i ≤ N ∧ R.length = n.gates.length ∧ (∀ o ∈ R, o.isRow = true) ∧ (∀ (q : Nat) (g : LGate), i ≤ F + q → n.gates[q]? = some g → R[q]? = some (AObj.row 3 1 (ints g.ins) 0)) ∧ st = ⟨[(2, .ptr 0 1 0), (6, .ms 0 2 N), (9, .i F), (13, .ptr 0 M 0), (14, .ptr 0 (M + 1) 0), (15, .ms 0 (M + 2) (i)), (79, .i N), (80, .i (i : Nat))], DF n (needN n) (R) n.flops n.outs gc o5 ++ [.box (agN n 3 gc), .box [.im (.sl (strs n.inn)), .im (.sl (strs n.out)), .ms 0 5 n.flops.length, .ms 0 (M + 3) ((cnS n (needN n) i).2).length, .ms 0 6 n.outs.length], .row 3 1 (ints ((cnS n (needN n) i).1)) 0, .row 200 3 (((cnS n (needN n) i).2).map LGate.im) 0], up⟩) N ⟨0, R, rfl, by omega, hRl, hRr, fun q g _ h => hRg q g h, rfl⟩ fun m st hI => ?_
        clear s0 s1 s2 s3 s4 s5 s6 t0 t1 t2 t3 t4 t5 t6 dl d1 d2 d5 d6 hMR hRg hRr hRl
        obtain ⟨i, R, rfl, hi, hRl, hRr, hRg, rfl⟩ := hI
        obtain ⟨hto, hgs⟩ := cnS_len n (needN n) i
        have hnx : cnS n (needN n) (i + 1) = cnStep n (needN n) i (cnS n (needN n) i) := rfl
        generalize hSS : cnS n (needN n) i = SS at hto hgs hnx ⊢
        obtain ⟨TO, GS⟩ := SS
        simp only at hto hgs ⊢
        have hMR : R.length + 9 = M := by omega
        have dl : (DF n (needN n) R n.flops n.outs gc o5).length = M := by rw [DF_len, hMR]
        have d1 := fun S => DF_1 n (needN n) R n.flops n.outs gc o5 S
        have d2 := fun S => DF_2 n (needN n) R n.flops n.outs gc o5 S
        have d5 := fun S => DF_5 n (needN n) R n.flops n.outs gc o5 S
        have d6 := fun S => DF_6 n (needN n) R n.flops n.outs gc o5 S
        have s0 := fun S => DF_suf0 n (needN n) R n.flops n.outs gc o5 S M hMR
        have s1 := fun S => DF_suf n (needN n) R n.flops n.outs gc o5 S M 1 hMR
        have s2 := fun S => DF_suf n (needN n) R n.flops n.outs gc o5 S M 2 hMR
        have s3 := fun S => DF_suf n (needN n) R n.flops n.outs gc o5 S M 3 hMR
        have s4 := fun S => DF_suf n (needN n) R n.flops n.outs gc o5 S M 4 hMR
        have s5 := fun S => DF_suf n (needN n) R n.flops n.outs gc o5 S M 5 hMR
        have s6 := fun S => DF_suf n (needN n) R n.flops n.outs gc o5 S M 6 hMR
        have t0 := fun S => DF_set0 n (needN n) R n.flops n.outs gc o5 S M hMR
        have t1 := fun S => DF_set n (needN n) R n.flops n.outs gc o5 S M 1 hMR
        have t2 := fun S => DF_set n (needN n) R n.flops n.outs gc o5 S M 2 hMR
        have t3 := fun S => DF_set n (needN n) R n.flops n.outs gc o5 S M 3 hMR
        have t4 := fun S => DF_set n (needN n) R n.flops n.outs gc o5 S M 4 hMR
        have t5 := fun S => DF_set n (needN n) R n.flops n.outs gc o5 S M 5 hMR
        have t6 := fun S => DF_set n (needN n) R n.flops n.outs gc o5 S M 6 hMR
        have htl : (ints TO).length = i := by rw [ints_len, hto]
        have hap : (i + 1) * 8 ≤ 140737488355328 := by omega
        refine Run.seq ?_
        have fx := And.intro hap (And.intro htl (And.intro (@List.append_assoc.{0}) (And.intro (@List.length_append.{0}) (And.intro hgo (And.intro hag (And.intro t6 (And.intro t5 (And.intro t4 (And.intro t3 (And.intro t2 (And.intro t1 (And.intro t0 (And.intro s6 (And.intro s5 (And.intro s4 (And.intro s3 (And.intro s2 (And.intro s1 (And.intro s0 (And.intro d6 (And.intro d5 (And.intro d2 (And.intro d1 (And.intro dl (And.intro hvb (And.intro wa (And.intro hm2 (And.intro hm1 (And.intro hc (And.intro strs_len (And.intro gim_len (And.intro fim_len (And.intro ints_len ft)))))))))))))))))))))))))))))))))
        refine Run.go ?_
        refine End.kp [2, 6, 9, 13, 14, 15, 79, 80, 81] ?_
        refine Run.seq ?_
        refine Run.cond _ rfl (fun hb => ?_) (fun hb => ?_)
        · have hb2 := of_decide_eq_true hb
          have hin : i < N := by omega
          have wi := wsucc hin (by omega)
          refine Run.skip ?_
          refine End.kp [2, 6, 9, 13, 14, 15, 79, 80] ?_
          refine Run.seq ?_
          refine Run.block ?_
          refine Run.seq ?_
          have fx := And.intro (@Int.toNat_natCast) (And.intro (@Int.natCast_nonneg) (And.intro wi (And.intro hap (And.intro htl (And.intro (@List.append_assoc.{0}) (And.intro (@List.length_append.{0}) (And.intro hgo (And.intro hag (And.intro t6 (And.intro t5 (And.intro t4 (And.intro t3 (And.intro t2 (And.intro t1 (And.intro t0 (And.intro s6 (And.intro s5 (And.intro s4 (And.intro s3 (And.intro s2 (And.intro s1 (And.intro s0 (And.intro d6 (And.intro d5 (And.intro d2 (And.intro d1 (And.intro dl (And.intro hvb (And.intro wa (And.intro hm2 (And.intro hm1 (And.intro hc (And.intro strs_len (And.intro gim_len (And.intro fim_len (And.intro ints_len ft))))))))))))))))))))))))))))))))))))
          refine Run.go ?_
          refine End.kp [2, 6, 9, 13, 14, 15, 16, 79, 80] ?_
          refine Run.block ?_
          refine Run.seq ?_
          refine Run.go ?_
          refine End.kp [2, 6, 9, 13, 14, 15, 16, 79, 80, 86] ?_
          refine Run.cond _ rfl (fun hb => ?_) (fun hb => ?_)
          · have hb3 := of_decide_eq_true hb
            have hiF : i < fstN n := by omega
            have fx := And.intro (@Int.toNat_natCast) (And.intro (@Int.natCast_nonneg) (And.intro wi (And.intro hap (And.intro htl (And.intro (@List.append_assoc.{0}) (And.intro (@List.length_append.{0}) (And.intro hgo (And.intro hag (And.intro t6 (And.intro t5 (And.intro t4 (And.intro t3 (And.intro t2 (And.intro t1 (And.intro t0 (And.intro s6 (And.intro s5 (And.intro s4 (And.intro s3 (And.intro s2 (And.intro s1 (And.intro s0 (And.intro d6 (And.intro d5 (And.intro d2 (And.intro d1 (And.intro dl (And.intro hvb (And.intro wa (And.intro hm2 (And.intro hm1 (And.intro hc (And.intro strs_len (And.intro gim_len (And.intro fim_len (And.intro ints_len ft))))))))))))))))))))))))))))))))))))
            refine Run.go ?_
            refine End.blk ?_
            refine End.blk ?_
            refine End.kp [2, 6, 9, 13, 14, 15, 79, 80] ?_
            refine Run.go ?_
            refine End.lp ?_
            refine ⟨N - (i + 1), _, by omega, .cutK (e := [(2, .ptr 0 1 0), (6, .ms 0 2 N), (9, .i F), (13, .ptr 0 M 0), (14, .ptr 0 (M + 1) 0), (15, .ms 0 (M + 2) (i + 1)), (79, .i N), (80, .i (i + 1 : Nat))]) 4 dl (by simp) ⟨rfl, rfl, rfl, rfl, rfl, rfl, rfl, rfl, trivial⟩ (by simp [unders, PV.under] <;> omega) (DF_und hcf hRl hRr (by omega)) (by simp [AObj.under, unders, PV.under, hag, hgu] <;> omega), i + 1, R, rfl, by omega, hRl, hRr, fun q g h => hRg q g (by omega), ?_⟩
            rw [hnx, cnStep, if_pos hiF, ints_app1]
            rfl
          · have hb3 := of_decide_eq_false hb
            have hiF : ¬ i < fstN n := by omega
            have hvl : (needN n).length = N := by rw [needN_len, hN]
            have hvb : (bools (needN n)).length = N := by rw [bools_len, hvl]
            have hvx := bools_get (needN n) i (by omega)
            have hiN : (i : Int) < (N : Int) := by omega
            refine Run.seq ?_
            have fx := And.intro hiN (And.intro hvx (And.intro (@Int.toNat_natCast) (And.intro (@Int.natCast_nonneg) (And.intro wi (And.intro hap (And.intro htl (And.intro (@List.append_assoc.{0}) (And.intro (@List.length_append.{0}) (And.intro hgo (And.intro hag (And.intro t6 (And.intro t5 (And.intro t4 (And.intro t3 (And.intro t2 (And.intro t1 (And.intro t0 (And.intro s6 (And.intro s5 (And.intro s4 (And.intro s3 (And.intro s2 (And.intro s1 (And.intro s0 (And.intro d6 (And.intro d5 (And.intro d2 (And.intro d1 (And.intro dl (And.intro hvb (And.intro wa (And.intro hm2 (And.intro hm1 (And.intro hc (And.intro strs_len (And.intro gim_len (And.intro fim_len (And.intro ints_len ft))))))))))))))))))))))))))))))))))))))
            refine Run.go ?_
            refine End.kp [2, 6, 9, 13, 14, 15, 16, 79, 80, 94] ?_
            refine Run.cond _ rfl (fun hb => ?_) (fun hb => ?_)
            · have hb4 := hb
              obtain ⟨q, rfl⟩ : ∃ q, i = F + q := ⟨i - F, by omega⟩
              have hqn : q < n.gates.length := by omega
              obtain ⟨g, hgi, hgm, hg⟩ := gate_at n.gates q hqn
              obtain ⟨v1, v2, v3⟩ := hn.gates q g hgi
              have hgd : gateD n (F + q - fstN n) = g := by rw [← hF, Nat.add_sub_cancel_left]; simp [gateD, hgi]
              have ws : IntKind.i64.wrap (((F + q : Nat) : Int) - F) = (q : Int) := by rw [wrap64 (by omega)]; omega
              have hql : (q : Int) < (n.gates.length : Int) := by omega
              obtain ⟨rfl, rr, rfl⟩ : gc = .bs 0 8 n.gates.length ∧ ∃ r : Nat, o5 = .box (cellsG 9 n.gates ++ List.replicate r .any) := by
                rcases hcf.it with ⟨h0, _, _⟩ | ⟨_, h1, r, h2⟩
                · rw [h0] at hqn; simp at hqn
                · exact ⟨h1, r, h2⟩
              have hr0 := hRg q g (by omega) hgi
              have d8 := fun S => DF_8 n (needN n) R n.flops n.outs (.bs 0 8 n.gates.length) (.box (cellsG 9 n.gates ++ List.replicate rr .any)) S
              have ct : ((cellsG 9 n.gates ++ List.replicate rr PV.any).drop (q * 3)).take 3 = [.i (-1), .im (.int .u64 g.table), .ms 0 (q + 9) g.ins.length] := cellsG_take n.gates 9 q g (List.replicate rr .any) hgi
              have cl : q * 3 + 3 ≤ (cellsG 9 n.gates).length + (List.replicate rr PV.any).length := by rw [cellsG_len]; omega
              refine Run.seq ?_
              have fx := And.intro cl (And.intro ct (And.intro d8 (And.intro hql (And.intro ws (And.intro hiN (And.intro hvx (And.intro (@Int.toNat_natCast) (And.intro (@Int.natCast_nonneg) (And.intro wi (And.intro hap (And.intro htl (And.intro (@List.append_assoc.{0}) (And.intro (@List.length_append.{0}) (And.intro hgo (And.intro hag (And.intro t6 (And.intro t5 (And.intro t4 (And.intro t3 (And.intro t2 (And.intro t1 (And.intro t0 (And.intro s6 (And.intro s5 (And.intro s4 (And.intro s3 (And.intro s2 (And.intro s1 (And.intro s0 (And.intro d6 (And.intro d5 (And.intro d2 (And.intro d1 (And.intro dl (And.intro hvb (And.intro wa (And.intro hm2 (And.intro hm1 (And.intro hc (And.intro strs_len (And.intro gim_len (And.intro fim_len (And.intro ints_len ft)))))))))))))))))))))))))))))))))))))))))))
              refine Run.go ?_
              refine End.kp [2, 6, 9, 13, 14, 15, 17, 79, 80] ?_
              refine Run.seq ?_
              refine Run.seq ?_
              refine Run.go ?_
              refine End.kp [2, 6, 9, 13, 14, 15, 17, 79, 80, 107, 108, 109] ?_
              refine Run.block ?_
              refine Run.ghost (.keepE (e := [(2, .ptr 0 1 0), (6, .ms 0 2 N), (9, .i F), (13, .ptr 0 M 0), (14, .ptr 0 (M + 1) 0), (15, .ms 0 (M + 2) (F + q)), (17, .ptr 0 (M + 4) 0), (79, .i N), (80, .i (F + q : Nat)), (107, .ms 0 (q + 9) g.ins.length), (108, .i g.ins.length), (109, .i (0 : Nat))]) ⟨rfl, rfl, rfl, rfl, rfl, rfl, rfl, rfl, rfl, rfl, rfl, rfl, trivial⟩) ?_
              refine Run.loop (fun m st => ∃ (p : Nat), m = g.ins.length - p ∧ p ≤ g.ins.length ∧ st = ⟨[(2, .ptr 0 1 0), (6, .ms 0 2 N), (9, .i F), (13, .ptr 0 M 0), (14, .ptr 0 (M + 1) 0), (15, .ms 0 (M + 2) (F + q)), (17, .ptr 0 (M + 4) 0), (79, .i N), (80, .i (F + q : Nat)), (107, .ms 0 (q + 9) g.ins.length), (108, .i g.ins.length), (109, .i (p : Nat))], DF n (needN n) (R.set q (AObj.row 3 1 (ints (midO TO g.ins p)) 0)) n.flops n.outs (.bs 0 8 n.gates.length) (.box (cellsG 9 n.gates ++ List.replicate rr .any)) ++ [.box (agN n 3 (.bs 0 8 n.gates.length)), .box [.im (.sl (strs n.inn)), .im (.sl (strs n.out)), .ms 0 5 n.flops.length, .ms 0 (M + 3) (GS).length, .ms 0 6 n.outs.length], .row 3 1 (ints TO) 0, .row 200 3 (GS.map LGate.im) 0, .box [.i (-1), .im (.int .u64 g.table), .ms 0 (q + 9) g.ins.length]], up⟩) g.ins.length ⟨0, rfl, by omega, by rw [midO_zero, list_set_self hr0]; rfl⟩ fun m st hI => ?_
              clear s0 s1 s2 s3 s4 s5 s6 t0 t1 t2 t3 t4 t5 t6 dl d1 d2 d5 d6 hMR
              obtain ⟨p, rfl, hp, rfl⟩ := hI
              obtain ⟨R1, hR1⟩ : ∃ R1, R1 = R.set q (AObj.row 3 1 (ints (midO TO g.ins p)) 0) := ⟨_, rfl⟩
              have hR1l : R1.length = n.gates.length := by rw [hR1, List.length_set, hRl]
              have hR1q : R1[q]? = some (AObj.row 3 1 (ints (midO TO g.ins p)) 0) := by rw [hR1, List.getElem?_set_self (by omega)]
              rw [← hR1]
              have hMR : R1.length + 9 = M := by omega
              have dq := fun S => DF_row n (needN n) R1 n.flops n.outs (.bs 0 8 n.gates.length) (.box (cellsG 9 n.gates ++ List.replicate rr .any)) S q (by omega)
              have dsq := fun S => DF_srow n (needN n) R1 n.flops n.outs (.bs 0 8 n.gates.length) (.box (cellsG 9 n.gates ++ List.replicate rr .any)) S q (by omega)
              have hml : (ints (midO TO g.ins p)).length = g.ins.length := by rw [ints_len, midO_len _ _ _ hp]
              have dl : (DF n (needN n) R1 n.flops n.outs (.bs 0 8 n.gates.length) (.box (cellsG 9 n.gates ++ List.replicate rr .any))).length = M := by rw [DF_len, hMR]
              have d1 := fun S => DF_1 n (needN n) R1 n.flops n.outs (.bs 0 8 n.gates.length) (.box (cellsG 9 n.gates ++ List.replicate rr .any)) S
              have d2 := fun S => DF_2 n (needN n) R1 n.flops n.outs (.bs 0 8 n.gates.length) (.box (cellsG 9 n.gates ++ List.replicate rr .any)) S
              have d5 := fun S => DF_5 n (needN n) R1 n.flops n.outs (.bs 0 8 n.gates.length) (.box (cellsG 9 n.gates ++ List.replicate rr .any)) S
              have d6 := fun S => DF_6 n (needN n) R1 n.flops n.outs (.bs 0 8 n.gates.length) (.box (cellsG 9 n.gates ++ List.replicate rr .any)) S
              have s0 := fun S => DF_suf0 n (needN n) R1 n.flops n.outs (.bs 0 8 n.gates.length) (.box (cellsG 9 n.gates ++ List.replicate rr .any)) S M hMR
              have s1 := fun S => DF_suf n (needN n) R1 n.flops n.outs (.bs 0 8 n.gates.length) (.box (cellsG 9 n.gates ++ List.replicate rr .any)) S M 1 hMR
              have s2 := fun S => DF_suf n (needN n) R1 n.flops n.outs (.bs 0 8 n.gates.length) (.box (cellsG 9 n.gates ++ List.replicate rr .any)) S M 2 hMR
              have s3 := fun S => DF_suf n (needN n) R1 n.flops n.outs (.bs 0 8 n.gates.length) (.box (cellsG 9 n.gates ++ List.replicate rr .any)) S M 3 hMR
              have s4 := fun S => DF_suf n (needN n) R1 n.flops n.outs (.bs 0 8 n.gates.length) (.box (cellsG 9 n.gates ++ List.replicate rr .any)) S M 4 hMR
              have s5 := fun S => DF_suf n (needN n) R1 n.flops n.outs (.bs 0 8 n.gates.length) (.box (cellsG 9 n.gates ++ List.replicate rr .any)) S M 5 hMR
              have s6 := fun S => DF_suf n (needN n) R1 n.flops n.outs (.bs 0 8 n.gates.length) (.box (cellsG 9 n.gates ++ List.replicate rr .any)) S M 6 hMR
              have t0 := fun S => DF_set0 n (needN n) R1 n.flops n.outs (.bs 0 8 n.gates.length) (.box (cellsG 9 n.gates ++ List.replicate rr .any)) S M hMR
              have t1 := fun S => DF_set n (needN n) R1 n.flops n.outs (.bs 0 8 n.gates.length) (.box (cellsG 9 n.gates ++ List.replicate rr .any)) S M 1 hMR
              have t2 := fun S => DF_set n (needN n) R1 n.flops n.outs (.bs 0 8 n.gates.length) (.box (cellsG 9 n.gates ++ List.replicate rr .any)) S M 2 hMR
              have t3 := fun S => DF_set n (needN n) R1 n.flops n.outs (.bs 0 8 n.gates.length) (.box (cellsG 9 n.gates ++ List.replicate rr .any)) S M 3 hMR
              have t4 := fun S => DF_set n (needN n) R1 n.flops n.outs (.bs 0 8 n.gates.length) (.box (cellsG 9 n.gates ++ List.replicate rr .any)) S M 4 hMR
              have t5 := fun S => DF_set n (needN n) R1 n.flops n.outs (.bs 0 8 n.gates.length) (.box (cellsG 9 n.gates ++ List.replicate rr .any)) S M 5 hMR
              have t6 := fun S => DF_set n (needN n) R1 n.flops n.outs (.bs 0 8 n.gates.length) (.box (cellsG 9 n.gates ++ List.replicate rr .any)) S M 6 hMR
              refine Run.seq ?_
              have fx := And.intro hml (And.intro hR1q (And.intro dsq (And.intro dq (And.intro cl (And.intro ct (And.intro d8 (And.intro hql (And.intro ws (And.intro hiN (And.intro hvx (And.intro (@Int.toNat_natCast) (And.intro (@Int.natCast_nonneg) (And.intro wi (And.intro hap (And.intro htl (And.intro (@List.append_assoc.{0}) (And.intro (@List.length_append.{0}) (And.intro hgo (And.intro hag (And.intro t6 (And.intro t5 (And.intro t4 (And.intro t3 (And.intro t2 (And.intro t1 (And.intro t0 (And.intro s6 (And.intro s5 (And.intro s4 (And.intro s3 (And.intro s2 (And.intro s1 (And.intro s0 (And.intro d6 (And.intro d5 (And.intro d2 (And.intro d1 (And.intro dl (And.intro hvb (And.intro wa (And.intro hm2 (And.intro hm1 (And.intro hc (And.intro strs_len (And.intro gim_len (And.intro fim_len (And.intro ints_len ft)))))))))))))))))))))))))))))))))))))))))))))))
              refine Run.go ?_
              refine End.kp [2, 6, 9, 13, 14, 15, 17, 79, 80, 107, 108, 109, 110] ?_
              refine Run.seq ?_
              refine Run.cond _ rfl (fun hb => ?_) (fun hb => ?_)
              · have hb5 := of_decide_eq_true hb
                have hpn : p < g.ins.length := by omega
                have wp := wsucc hpn (by omega)
                obtain ⟨x, hxi, hxm, hx⟩ := int_at g.ins p hpn
                obtain ⟨x1, x2⟩ := v3 x hxm
                have hxl : x < ((F + q : Nat) : Int) := by omega
                have hpl : (p : Int) < (g.ins.length : Int) := by omega
                have hmx : (ints (midO TO g.ins p))[p]? = some [.int .i64 x] := by rw [List.getElem?_map, midO_get _ _ _ x hxi]; rfl
                have hlx : (ints TO)[x.toNat]? = some [.int .i64 (TO.getD x.toNat 0)] := by
                  have hl : x.toNat < TO.length := by rw [hto]; omega
                  simp [List.getD_eq_getElem?_getD, hl]
                have hms : (ints (midO TO g.ins p)).set p [.int .i64 (TO.getD x.toNat 0)] = ints (midO TO g.ins (p + 1)) := by rw [← midO_set _ _ _ x hxi]; exact (List.map_set ..).symm
                refine Run.skip ?_
                refine End.kp [2, 6, 9, 13, 14, 15, 17, 79, 80, 107, 108, 109] ?_
                refine Run.seq ?_
                refine Run.block ?_
                refine Run.seq ?_
                have fx := And.intro hms (And.intro hlx (And.intro hmx (And.intro hpl (And.intro hxl (And.intro x1 (And.intro wp (And.intro hml (And.intro hR1q (And.intro dsq (And.intro dq (And.intro cl (And.intro ct (And.intro d8 (And.intro hql (And.intro ws (And.intro hiN (And.intro hvx (And.intro (@Int.toNat_natCast) (And.intro (@Int.natCast_nonneg) (And.intro wi (And.intro hap (And.intro htl (And.intro (@List.append_assoc.{0}) (And.intro (@List.length_append.{0}) (And.intro hgo (And.intro hag (And.intro t6 (And.intro t5 (And.intro t4 (And.intro t3 (And.intro t2 (And.intro t1 (And.intro t0 (And.intro s6 (And.intro s5 (And.intro s4 (And.intro s3 (And.intro s2 (And.intro s1 (And.intro s0 (And.intro d6 (And.intro d5 (And.intro d2 (And.intro d1 (And.intro dl (And.intro hvb (And.intro wa (And.intro hm2 (And.intro hm1 (And.intro hc (And.intro strs_len (And.intro gim_len (And.intro fim_len (And.intro ints_len ft))))))))))))))))))))))))))))))))))))))))))))))))))))))
                refine Run.go ?_
                refine End.kp [2, 6, 9, 13, 14, 15, 17, 18, 19, 79, 80, 107, 108, 109] ?_
                refine Run.drawA fun K hK => ?_
                refine DOps.sim ?_
                refine DOps.nil (by rfl) (hK _ ?_); clear hK K
                refine End.blk ?_
                refine End.kp [2, 6, 9, 13, 14, 15, 17, 79, 80, 107, 108, 109] ?_
                refine Run.go ?_
                refine End.lp ?_
                refine ⟨g.ins.length - (p + 1), _, by omega, .keepE (e := [(2, .ptr 0 1 0), (6, .ms 0 2 N), (9, .i F), (13, .ptr 0 M 0), (14, .ptr 0 (M + 1) 0), (15, .ms 0 (M + 2) (F + q)), (17, .ptr 0 (M + 4) 0), (79, .i N), (80, .i (F + q : Nat)), (107, .ms 0 (q + 9) g.ins.length), (108, .i g.ins.length), (109, .i (p + 1 : Nat))]) ⟨rfl, rfl, rfl, rfl, rfl, rfl, rfl, rfl, rfl, rfl, rfl, rfl, trivial⟩, p + 1, rfl, by omega, by rw [hR1, List.set_set]; rfl⟩
              · have hb5 := of_decide_eq_false hb
                have hpe : p = g.ins.length := by omega
                subst hpe
                rw [midO_all] at hR1 hR1q hml
                generalize hGI : (g.ins.map fun k => TO.getD k.toNat 0) = GI at hR1 hR1q hml
                have wG : IntKind.i64.wrap ((F : Int) + GS.length) = ((F + GS.length : Nat) : Int) := by rw [wrap64 (by omega)]; omega
                have hap2 : (GS.length + 1) * 40 ≤ 140737488355328 := by omega
                refine Run.exit rfl ?_
                refine End.kp [2, 6, 9, 13, 14, 15, 17, 79, 80] ?_
                refine Run.seq ?_
                have fx := And.intro hap2 (And.intro wG (And.intro hml (And.intro hR1q (And.intro dsq (And.intro dq (And.intro cl (And.intro ct (And.intro d8 (And.intro hql (And.intro ws (And.intro hiN (And.intro hvx (And.intro (@Int.toNat_natCast) (And.intro (@Int.natCast_nonneg) (And.intro wi (And.intro hap (And.intro htl (And.intro (@List.append_assoc.{0}) (And.intro (@List.length_append.{0}) (And.intro hgo (And.intro hag (And.intro t6 (And.intro t5 (And.intro t4 (And.intro t3 (And.intro t2 (And.intro t1 (And.intro t0 (And.intro s6 (And.intro s5 (And.intro s4 (And.intro s3 (And.intro s2 (And.intro s1 (And.intro s0 (And.intro d6 (And.intro d5 (And.intro d2 (And.intro d1 (And.intro dl (And.intro hvb (And.intro wa (And.intro hm2 (And.intro hm1 (And.intro hc (And.intro strs_len (And.intro gim_len (And.intro fim_len (And.intro ints_len ft)))))))))))))))))))))))))))))))))))))))))))))))))
                refine Run.go ?_
                refine End.kp [2, 6, 9, 13, 14, 15, 17, 79, 80] ?_
                refine Run.ghost (Ghost.boxShut (j := M + 4) (i := 2) (r := q + 9) (by rw [s4]; rfl) rfl (by rw [dq, hR1q]) hml) ?_
                simp only [dsq]
                have hR2l : (R1.set q (AObj.row 3 1 (ints GI) (ints GI).length)).length = n.gates.length := by rw [List.length_set, hR1l]
                have hR2r : ∀ o ∈ R1.set q (AObj.row 3 1 (ints GI) (ints GI).length), o.isRow = true := fun o ho => by
                  rw [hR1, List.set_set] at ho
                  rcases List.mem_or_eq_of_mem_set ho with h | rfl
                  · exact hRr o h
                  · rfl
                have hR2g : ∀ (q' : Nat) (g : LGate), F + q + 1 ≤ F + q' → n.gates[q']? = some g → (R1.set q (AObj.row 3 1 (ints GI) (ints GI).length))[q']? = some (AObj.row 3 1 (ints g.ins) 0) := fun q' g h hg' => by
                  rw [hR1, List.set_set, List.getElem?_set_ne (by omega)]
                  exact hRg q' g (by omega) hg'
                generalize R1.set q (AObj.row 3 1 (ints GI) (ints GI).length) = R2 at hR2l hR2r hR2g ⊢
                clear s0 s1 s2 s3 s4 s5 s6 t0 t1 t2 t3 t4 t5 t6 dl d1 d2 d5 d6 hMR
                have hMR : R2.length + 9 = M := by omega
                have dl : (DF n (needN n) R2 n.flops n.outs (.bs 0 8 n.gates.length) (.box (cellsG 9 n.gates ++ List.replicate rr .any))).length = M := by rw [DF_len, hMR]
                have d1 := fun S => DF_1 n (needN n) R2 n.flops n.outs (.bs 0 8 n.gates.length) (.box (cellsG 9 n.gates ++ List.replicate rr .any)) S
                have d2 := fun S => DF_2 n (needN n) R2 n.flops n.outs (.bs 0 8 n.gates.length) (.box (cellsG 9 n.gates ++ List.replicate rr .any)) S
                have d5 := fun S => DF_5 n (needN n) R2 n.flops n.outs (.bs 0 8 n.gates.length) (.box (cellsG 9 n.gates ++ List.replicate rr .any)) S
                have d6 := fun S => DF_6 n (needN n) R2 n.flops n.outs (.bs 0 8 n.gates.length) (.box (cellsG 9 n.gates ++ List.replicate rr .any)) S
                have s0 := fun S => DF_suf0 n (needN n) R2 n.flops n.outs (.bs 0 8 n.gates.length) (.box (cellsG 9 n.gates ++ List.replicate rr .any)) S M hMR
                have s1 := fun S => DF_suf n (needN n) R2 n.flops n.outs (.bs 0 8 n.gates.length) (.box (cellsG 9 n.gates ++ List.replicate rr .any)) S M 1 hMR
                have s2 := fun S => DF_suf n (needN n) R2 n.flops n.outs (.bs 0 8 n.gates.length) (.box (cellsG 9 n.gates ++ List.replicate rr .any)) S M 2 hMR
                have s3 := fun S => DF_suf n (needN n) R2 n.flops n.outs (.bs 0 8 n.gates.length) (.box (cellsG 9 n.gates ++ List.replicate rr .any)) S M 3 hMR
                have s4 := fun S => DF_suf n (needN n) R2 n.flops n.outs (.bs 0 8 n.gates.length) (.box (cellsG 9 n.gates ++ List.replicate rr .any)) S M 4 hMR
                have s5 := fun S => DF_suf n (needN n) R2 n.flops n.outs (.bs 0 8 n.gates.length) (.box (cellsG 9 n.gates ++ List.replicate rr .any)) S M 5 hMR
                have s6 := fun S => DF_suf n (needN n) R2 n.flops n.outs (.bs 0 8 n.gates.length) (.box (cellsG 9 n.gates ++ List.replicate rr .any)) S M 6 hMR
                have t0 := fun S => DF_set0 n (needN n) R2 n.flops n.outs (.bs 0 8 n.gates.length) (.box (cellsG 9 n.gates ++ List.replicate rr .any)) S M hMR
                have t1 := fun S => DF_set n (needN n) R2 n.flops n.outs (.bs 0 8 n.gates.length) (.box (cellsG 9 n.gates ++ List.replicate rr .any)) S M 1 hMR
                have t2 := fun S => DF_set n (needN n) R2 n.flops n.outs (.bs 0 8 n.gates.length) (.box (cellsG 9 n.gates ++ List.replicate rr .any)) S M 2 hMR
                have t3 := fun S => DF_set n (needN n) R2 n.flops n.outs (.bs 0 8 n.gates.length) (.box (cellsG 9 n.gates ++ List.replicate rr .any)) S M 3 hMR
                have t4 := fun S => DF_set n (needN n) R2 n.flops n.outs (.bs 0 8 n.gates.length) (.box (cellsG 9 n.gates ++ List.replicate rr .any)) S M 4 hMR
                have t5 := fun S => DF_set n (needN n) R2 n.flops n.outs (.bs 0 8 n.gates.length) (.box (cellsG 9 n.gates ++ List.replicate rr .any)) S M 5 hMR
                have t6 := fun S => DF_set n (needN n) R2 n.flops n.outs (.bs 0 8 n.gates.length) (.box (cellsG 9 n.gates ++ List.replicate rr .any)) S M 6 hMR
                simp only [t4, List.set_cons_succ, List.set_cons_zero]
                have fx := And.intro hap2 (And.intro wG (And.intro hml (And.intro hR1q (And.intro dsq (And.intro dq (And.intro cl (And.intro ct (And.intro d8 (And.intro hql (And.intro ws (And.intro hiN (And.intro hvx (And.intro (@Int.toNat_natCast) (And.intro (@Int.natCast_nonneg) (And.intro wi (And.intro hap (And.intro htl (And.intro (@List.append_assoc.{0}) (And.intro (@List.length_append.{0}) (And.intro hgo (And.intro hag (And.intro t6 (And.intro t5 (And.intro t4 (And.intro t3 (And.intro t2 (And.intro t1 (And.intro t0 (And.intro s6 (And.intro s5 (And.intro s4 (And.intro s3 (And.intro s2 (And.intro s1 (And.intro s0 (And.intro d6 (And.intro d5 (And.intro d2 (And.intro d1 (And.intro dl (And.intro hvb (And.intro wa (And.intro hm2 (And.intro hm1 (And.intro hc (And.intro strs_len (And.intro gim_len (And.intro fim_len (And.intro ints_len ft)))))))))))))))))))))))))))))))))))))))))))))))))
                refine Run.go ?_
                refine End.blk ?_
                refine End.blk ?_
                refine End.kp [2, 6, 9, 13, 14, 15, 79, 80] ?_
                refine Run.go ?_
                refine End.lp ?_
                refine ⟨N - (F + q + 1), _, by omega, .cutK (e := [(2, .ptr 0 1 0), (6, .ms 0 2 N), (9, .i F), (13, .ptr 0 M 0), (14, .ptr 0 (M + 1) 0), (15, .ms 0 (M + 2) (F + q + 1)), (79, .i N), (80, .i (F + q + 1 : Nat))]) 4 dl (by simp) ⟨rfl, rfl, rfl, rfl, rfl, rfl, rfl, rfl, trivial⟩ (by simp [unders, PV.under] <;> omega) (DF_und hcf hR2l hR2r (by omega)) (by simp [AObj.under, unders, PV.under, hag, hgu] <;> omega), F + q + 1, R2, rfl, by omega, hR2l, hR2r, hR2g, ?_⟩
                rw [hnx, cnStep, if_neg hiF, if_pos hb4, ints_app1]
                simp only [List.map_append, List.map_cons, List.map_nil, List.length_append, List.length_cons, List.length_nil, hgd, hGI]
                rw [← hF]
                rfl
            · have hb4 := hb
              have fx := And.intro hiN (And.intro hvx (And.intro (@Int.toNat_natCast) (And.intro (@Int.natCast_nonneg) (And.intro wi (And.intro hap (And.intro htl (And.intro (@List.append_assoc.{0}) (And.intro (@List.length_append.{0}) (And.intro hgo (And.intro hag (And.intro t6 (And.intro t5 (And.intro t4 (And.intro t3 (And.intro t2 (And.intro t1 (And.intro t0 (And.intro s6 (And.intro s5 (And.intro s4 (And.intro s3 (And.intro s2 (And.intro s1 (And.intro s0 (And.intro d6 (And.intro d5 (And.intro d2 (And.intro d1 (And.intro dl (And.intro hvb (And.intro wa (And.intro hm2 (And.intro hm1 (And.intro hc (And.intro strs_len (And.intro gim_len (And.intro fim_len (And.intro ints_len ft))))))))))))))))))))))))))))))))))))))
              refine Run.go ?_
              refine End.blk ?_
              refine End.blk ?_
              refine End.kp [2, 6, 9, 13, 14, 15, 79, 80] ?_
              refine Run.go ?_
              refine End.lp ?_
              refine ⟨N - (i + 1), _, by omega, .cutK (e := [(2, .ptr 0 1 0), (6, .ms 0 2 N), (9, .i F), (13, .ptr 0 M 0), (14, .ptr 0 (M + 1) 0), (15, .ms 0 (M + 2) (i + 1)), (79, .i N), (80, .i (i + 1 : Nat))]) 4 dl (by simp) ⟨rfl, rfl, rfl, rfl, rfl, rfl, rfl, rfl, trivial⟩ (by simp [unders, PV.under] <;> omega) (DF_und hcf hRl hRr (by omega)) (by simp [AObj.under, unders, PV.under, hag, hgu] <;> omega), i + 1, R, rfl, by omega, hRl, hRr, fun q g h => hRg q g (by omega), ?_⟩
              rw [hnx, cnStep, if_neg hiF, if_neg (by rw [hb4]; simp), ints_app1]
              rfl
        · have hb2 := of_decide_eq_false hb
          have hiN : i = N := by omega
          subst hiN
          have hfr : ∀ f ∈ n.flops, (0 ≤ f.d ∧ f.d < (i : Int)) ∧ 0 ≤ f.en ∧ f.en < (i : Int) := fun f hf => by have := hn.ends.flops f hf; omega
          have hlx : ∀ x : Int, 0 ≤ x → x < (i : Int) → (ints TO)[x.toNat]? = some [.int .i64 (TO.getD x.toNat 0)] := fun x x0 x1 => by
            have hl : x.toNat < TO.length := by rw [hto]; omega
            simp [List.getD_eq_getElem?_getD, hl]
          refine Run.exit rfl ?_
          refine End.kp [2, 14, 15] ?_
          refine Run.seq ?_
          refine Run.seq ?_
          have fx := And.intro hap (And.intro htl (And.intro (@List.append_assoc.{0}) (And.intro (@List.length_append.{0}) (And.intro hgo (And.intro hag (And.intro t6 (And.intro t5 (And.intro t4 (And.intro t3 (And.intro t2 (And.intro t1 (And.intro t0 (And.intro s6 (And.intro s5 (And.intro s4 (And.intro s3 (And.intro s2 (And.intro s1 (And.intro s0 (And.intro d6 (And.intro d5 (And.intro d2 (And.intro d1 (And.intro dl (And.intro hvb (And.intro wa (And.intro hm2 (And.intro hm1 (And.intro hc (And.intro strs_len (And.intro gim_len (And.intro fim_len (And.intro ints_len ft)))))))))))))))))))))))))))))))))
          refine Run.go ?_
          refine End.kp [2, 14, 15, 140, 141] ?_
          refine Run.block ?_
          refine Run.ghost (.keepE (e := [(2, .ptr 0 1 0), (14, .ptr 0 (M + 1) 0), (15, .ms 0 (M + 2) i), (140, .i n.flops.length), (141, .i (0 : Nat))]) ⟨rfl, rfl, rfl, rfl, rfl, trivial⟩) ?_
          refine Run.loop (fun m st => ∃ (j : Nat), m = n.flops.length - j ∧ j ≤ n.flops.length ∧ st = ⟨[(2, .ptr 0 1 0), (14, .ptr 0 (M + 1) 0), (15, .ms 0 (M + 2) i), (140, .i n.flops.length), (141, .i (j : Nat))], DF n (needN n) R (midF TO n.flops j) n.outs gc o5 ++ [.box (agN n 3 gc), .box [.im (.sl (strs n.inn)), .im (.sl (strs n.out)), .ms 0 5 n.flops.length, .ms 0 (M + 3) (GS).length, .ms 0 6 n.outs.length], .row 3 1 (ints (TO)) 0, .row 200 3 ((GS).map LGate.im) 0], up⟩) n.flops.length ⟨0, rfl, by omega, by rw [midF_zero]; rfl⟩ fun m st hI => ?_
          clear s0 s1 s2 s3 s4 s5 s6 t0 t1 t2 t3 t4 t5 t6 dl d1 d2 d5 d6
          obtain ⟨j, rfl, hj, rfl⟩ := hI
          have hfl : ((midF TO n.flops j).map LFlop.im).length = n.flops.length := by rw [List.length_map, midF_len _ _ _ hj]
          have dl : (DF n (needN n) R (midF TO n.flops j) n.outs gc o5).length = M := by rw [DF_len, hMR]
          have d1 := fun S => DF_1 n (needN n) R (midF TO n.flops j) n.outs gc o5 S
          have d2 := fun S => DF_2 n (needN n) R (midF TO n.flops j) n.outs gc o5 S
          have d5 := fun S => DF_5 n (needN n) R (midF TO n.flops j) n.outs gc o5 S
          have d6 := fun S => DF_6 n (needN n) R (midF TO n.flops j) n.outs gc o5 S
          have s0 := fun S => DF_suf0 n (needN n) R (midF TO n.flops j) n.outs gc o5 S M hMR
          have s1 := fun S => DF_suf n (needN n) R (midF TO n.flops j) n.outs gc o5 S M 1 hMR
          have s2 := fun S => DF_suf n (needN n) R (midF TO n.flops j) n.outs gc o5 S M 2 hMR
          have s3 := fun S => DF_suf n (needN n) R (midF TO n.flops j) n.outs gc o5 S M 3 hMR
          have s4 := fun S => DF_suf n (needN n) R (midF TO n.flops j) n.outs gc o5 S M 4 hMR
          have s5 := fun S => DF_suf n (needN n) R (midF TO n.flops j) n.outs gc o5 S M 5 hMR
          have s6 := fun S => DF_suf n (needN n) R (midF TO n.flops j) n.outs gc o5 S M 6 hMR
          have t0 := fun S => DF_set0 n (needN n) R (midF TO n.flops j) n.outs gc o5 S M hMR
          have t1 := fun S => DF_set n (needN n) R (midF TO n.flops j) n.outs gc o5 S M 1 hMR
          have t2 := fun S => DF_set n (needN n) R (midF TO n.flops j) n.outs gc o5 S M 2 hMR
          have t3 := fun S => DF_set n (needN n) R (midF TO n.flops j) n.outs gc o5 S M 3 hMR
          have t4 := fun S => DF_set n (needN n) R (midF TO n.flops j) n.outs gc o5 S M 4 hMR
          have t5 := fun S => DF_set n (needN n) R (midF TO n.flops j) n.outs gc o5 S M 5 hMR
          have t6 := fun S => DF_set n (needN n) R (midF TO n.flops j) n.outs gc o5 S M 6 hMR
          refine Run.seq ?_
          have fx := And.intro hfl (And.intro hap (And.intro htl (And.intro (@List.append_assoc.{0}) (And.intro (@List.length_append.{0}) (And.intro hgo (And.intro hag (And.intro t6 (And.intro t5 (And.intro t4 (And.intro t3 (And.intro t2 (And.intro t1 (And.intro t0 (And.intro s6 (And.intro s5 (And.intro s4 (And.intro s3 (And.intro s2 (And.intro s1 (And.intro s0 (And.intro d6 (And.intro d5 (And.intro d2 (And.intro d1 (And.intro dl (And.intro hvb (And.intro wa (And.intro hm2 (And.intro hm1 (And.intro hc (And.intro strs_len (And.intro gim_len (And.intro fim_len (And.intro ints_len ft))))))))))))))))))))))))))))))))))
          refine Run.go ?_
          refine End.kp [2, 14, 15, 140, 141, 142] ?_
          refine Run.seq ?_
          refine Run.cond _ rfl (fun hb => ?_) (fun hb => ?_)
          · have hb3 := of_decide_eq_true hb
            have hjn : j < n.flops.length := by omega
            have wj := wsucc hjn (by omega)
            obtain ⟨f, hfi, hfm, hf⟩ := flop_at n.flops j hjn
            obtain ⟨⟨q0, q1⟩, q2, q3⟩ := hfr f hfm
            have hl1 := hlx f.d q0 q1
            have hl2 := hlx f.en q2 q3
            have hjl : (j : Int) < (n.flops.length : Int) := by omega
            have hfj : ((midF TO n.flops j).map LFlop.im)[j]? = some [.str f.name, .int .i64 (-1), .int .i64 f.d, .int .i64 f.en, .bool f.init] := by rw [List.getElem?_map, midF_get _ _ _ f hfi]; rfl
            have hsj : ∀ x : List Im, (((midF TO n.flops j).map LFlop.im).set j x)[j]? = some x := fun x => List.getElem?_set_self (by rw [hfl]; exact hjn)
            have hss : ((midF TO n.flops j).map LFlop.im).set j [.str f.name, .int .i64 (-1), .int .i64 (TO.getD f.d.toNat 0), .int .i64 (TO.getD f.en.toNat 0), .bool f.init] = (midF TO n.flops (j + 1)).map LFlop.im := by rw [← midF_set TO n.flops j f hfi, List.map_set]; rfl
            have d55 := fun S o => DF_55 n (needN n) R (midF TO n.flops j) n.outs gc o5 S o
            have d5s := fun S o o' => DF_5s n (needN n) R (midF TO n.flops j) n.outs gc o5 S o o'
            refine Run.skip ?_
            refine End.kp [2, 14, 15, 140, 141] ?_
            refine Run.seq ?_
            refine Run.block ?_
            refine Run.seq ?_
            have fx := And.intro (@List.set_set.{0}) (And.intro (@List.length_set.{0}) (And.intro d5s (And.intro d55 (And.intro hss (And.intro hsj (And.intro hfj (And.intro hjl (And.intro hl2 (And.intro hl1 (And.intro q3 (And.intro q2 (And.intro q1 (And.intro q0 (And.intro wj (And.intro (@Int.toNat_natCast) (And.intro (@Int.natCast_nonneg) (And.intro hfl (And.intro hap (And.intro htl (And.intro (@List.append_assoc.{0}) (And.intro (@List.length_append.{0}) (And.intro hgo (And.intro hag (And.intro t6 (And.intro t5 (And.intro t4 (And.intro t3 (And.intro t2 (And.intro t1 (And.intro t0 (And.intro s6 (And.intro s5 (And.intro s4 (And.intro s3 (And.intro s2 (And.intro s1 (And.intro s0 (And.intro d6 (And.intro d5 (And.intro d2 (And.intro d1 (And.intro dl (And.intro hvb (And.intro wa (And.intro hm2 (And.intro hm1 (And.intro hc (And.intro strs_len (And.intro gim_len (And.intro fim_len (And.intro ints_len ft)))))))))))))))))))))))))))))))))))))))))))))))))))
            refine Run.go ?_
            refine End.kp [2, 14, 15, 20, 140, 141] ?_
            refine Run.drawA fun K hK => ?_
            refine DOps.sim ?_
            refine DOps.nil ((by subst hM; rfl)) (hK _ ?_); clear hK K
            refine End.blk ?_
            refine End.kp [2, 14, 15, 140, 141] ?_
            refine Run.go ?_
            refine End.lp ?_
            refine ⟨n.flops.length - (j + 1), _, by omega, .keepE (e := [(2, .ptr 0 1 0), (14, .ptr 0 (M + 1) 0), (15, .ms 0 (M + 2) i), (140, .i n.flops.length), (141, .i (j + 1 : Nat))]) ⟨rfl, rfl, rfl, rfl, rfl, trivial⟩, j + 1, rfl, by omega, rfl⟩
          · have hb3 := of_decide_eq_false hb
            have hje : j = n.flops.length := by omega
            subst hje
            rw [midF_all] at hfl
            clear s0 s1 s2 s3 s4 s5 s6 t0 t1 t2 t3 t4 t5 t6 dl d1 d2 d5 d6
            rw [midF_all]
            have dl : (DF n (needN n) R (n.flops.map (flopTo TO)) n.outs gc o5).length = M := by rw [DF_len, hMR]
            have d1 := fun S => DF_1 n (needN n) R (n.flops.map (flopTo TO)) n.outs gc o5 S
            have d2 := fun S => DF_2 n (needN n) R (n.flops.map (flopTo TO)) n.outs gc o5 S
            have d5 := fun S => DF_5 n (needN n) R (n.flops.map (flopTo TO)) n.outs gc o5 S
            have d6 := fun S => DF_6 n (needN n) R (n.flops.map (flopTo TO)) n.outs gc o5 S
            have s0 := fun S => DF_suf0 n (needN n) R (n.flops.map (flopTo TO)) n.outs gc o5 S M hMR
            have s1 := fun S => DF_suf n (needN n) R (n.flops.map (flopTo TO)) n.outs gc o5 S M 1 hMR
            have s2 := fun S => DF_suf n (needN n) R (n.flops.map (flopTo TO)) n.outs gc o5 S M 2 hMR
            have s3 := fun S => DF_suf n (needN n) R (n.flops.map (flopTo TO)) n.outs gc o5 S M 3 hMR
            have s4 := fun S => DF_suf n (needN n) R (n.flops.map (flopTo TO)) n.outs gc o5 S M 4 hMR
            have s5 := fun S => DF_suf n (needN n) R (n.flops.map (flopTo TO)) n.outs gc o5 S M 5 hMR
            have s6 := fun S => DF_suf n (needN n) R (n.flops.map (flopTo TO)) n.outs gc o5 S M 6 hMR
            have t0 := fun S => DF_set0 n (needN n) R (n.flops.map (flopTo TO)) n.outs gc o5 S M hMR
            have t1 := fun S => DF_set n (needN n) R (n.flops.map (flopTo TO)) n.outs gc o5 S M 1 hMR
            have t2 := fun S => DF_set n (needN n) R (n.flops.map (flopTo TO)) n.outs gc o5 S M 2 hMR
            have t3 := fun S => DF_set n (needN n) R (n.flops.map (flopTo TO)) n.outs gc o5 S M 3 hMR
            have t4 := fun S => DF_set n (needN n) R (n.flops.map (flopTo TO)) n.outs gc o5 S M 4 hMR
            have t5 := fun S => DF_set n (needN n) R (n.flops.map (flopTo TO)) n.outs gc o5 S M 5 hMR
            have t6 := fun S => DF_set n (needN n) R (n.flops.map (flopTo TO)) n.outs gc o5 S M 6 hMR
            refine Run.exit rfl ?_
            refine End.kp [2, 14, 15] ?_
            refine Run.seq ?_
            refine Run.seq ?_
            have fx := And.intro hfl (And.intro hap (And.intro htl (And.intro (@List.append_assoc.{0}) (And.intro (@List.length_append.{0}) (And.intro hgo (And.intro hag (And.intro t6 (And.intro t5 (And.intro t4 (And.intro t3 (And.intro t2 (And.intro t1 (And.intro t0 (And.intro s6 (And.intro s5 (And.intro s4 (And.intro s3 (And.intro s2 (And.intro s1 (And.intro s0 (And.intro d6 (And.intro d5 (And.intro d2 (And.intro d1 (And.intro dl (And.intro hvb (And.intro wa (And.intro hm2 (And.intro hm1 (And.intro hc (And.intro strs_len (And.intro gim_len (And.intro fim_len (And.intro ints_len ft))))))))))))))))))))))))))))))))))
            refine Run.go ?_
            refine End.kp [2, 14, 15, 174, 175, 176] ?_
            refine Run.block ?_
            refine Run.ghost (.keepE (e := [(2, .ptr 0 1 0), (14, .ptr 0 (M + 1) 0), (15, .ms 0 (M + 2) i), (174, .ms 0 6 n.outs.length), (175, .i n.outs.length), (176, .i (0 : Nat))]) ⟨rfl, rfl, rfl, rfl, rfl, rfl, trivial⟩) ?_
            refine Run.loop (fun m st => ∃ (j : Nat), m = n.outs.length - j ∧ j ≤ n.outs.length ∧ st = ⟨[(2, .ptr 0 1 0), (14, .ptr 0 (M + 1) 0), (15, .ms 0 (M + 2) i), (174, .ms 0 6 n.outs.length), (175, .i n.outs.length), (176, .i (j : Nat))], DF n (needN n) R (n.flops.map (flopTo TO)) (midO TO n.outs j) gc o5 ++ [.box (agN n 3 gc), .box [.im (.sl (strs n.inn)), .im (.sl (strs n.out)), .ms 0 5 n.flops.length, .ms 0 (M + 3) (GS).length, .ms 0 6 n.outs.length], .row 3 1 (ints (TO)) 0, .row 200 3 ((GS).map LGate.im) 0], up⟩) n.outs.length ⟨0, rfl, by omega, by rw [midO_zero]; rfl⟩ fun m st hI => ?_
            clear s0 s1 s2 s3 s4 s5 s6 t0 t1 t2 t3 t4 t5 t6 dl d1 d2 d5 d6
            obtain ⟨j, rfl, hj, rfl⟩ := hI
            have hol : (ints (midO TO n.outs j)).length = n.outs.length := by rw [List.length_map, midO_len _ _ _ hj]
            have dl : (DF n (needN n) R (n.flops.map (flopTo TO)) (midO TO n.outs j) gc o5).length = M := by rw [DF_len, hMR]
            have d1 := fun S => DF_1 n (needN n) R (n.flops.map (flopTo TO)) (midO TO n.outs j) gc o5 S
            have d2 := fun S => DF_2 n (needN n) R (n.flops.map (flopTo TO)) (midO TO n.outs j) gc o5 S
            have d5 := fun S => DF_5 n (needN n) R (n.flops.map (flopTo TO)) (midO TO n.outs j) gc o5 S
            have d6 := fun S => DF_6 n (needN n) R (n.flops.map (flopTo TO)) (midO TO n.outs j) gc o5 S
            have s0 := fun S => DF_suf0 n (needN n) R (n.flops.map (flopTo TO)) (midO TO n.outs j) gc o5 S M hMR
            have s1 := fun S => DF_suf n (needN n) R (n.flops.map (flopTo TO)) (midO TO n.outs j) gc o5 S M 1 hMR
            have s2 := fun S => DF_suf n (needN n) R (n.flops.map (flopTo TO)) (midO TO n.outs j) gc o5 S M 2 hMR
            have s3 := fun S => DF_suf n (needN n) R (n.flops.map (flopTo TO)) (midO TO n.outs j) gc o5 S M 3 hMR
            have s4 := fun S => DF_suf n (needN n) R (n.flops.map (flopTo TO)) (midO TO n.outs j) gc o5 S M 4 hMR
            have s5 := fun S => DF_suf n (needN n) R (n.flops.map (flopTo TO)) (midO TO n.outs j) gc o5 S M 5 hMR
            have s6 := fun S => DF_suf n (needN n) R (n.flops.map (flopTo TO)) (midO TO n.outs j) gc o5 S M 6 hMR
            have t0 := fun S => DF_set0 n (needN n) R (n.flops.map (flopTo TO)) (midO TO n.outs j) gc o5 S M hMR
            have t1 := fun S => DF_set n (needN n) R (n.flops.map (flopTo TO)) (midO TO n.outs j) gc o5 S M 1 hMR
            have t2 := fun S => DF_set n (needN n) R (n.flops.map (flopTo TO)) (midO TO n.outs j) gc o5 S M 2 hMR
            have t3 := fun S => DF_set n (needN n) R (n.flops.map (flopTo TO)) (midO TO n.outs j) gc o5 S M 3 hMR
            have t4 := fun S => DF_set n (needN n) R (n.flops.map (flopTo TO)) (midO TO n.outs j) gc o5 S M 4 hMR
            have t5 := fun S => DF_set n (needN n) R (n.flops.map (flopTo TO)) (midO TO n.outs j) gc o5 S M 5 hMR
            have t6 := fun S => DF_set n (needN n) R (n.flops.map (flopTo TO)) (midO TO n.outs j) gc o5 S M 6 hMR
            refine Run.seq ?_
            have fx := And.intro hol (And.intro hfl (And.intro hap (And.intro htl (And.intro (@List.append_assoc.{0}) (And.intro (@List.length_append.{0}) (And.intro hgo (And.intro hag (And.intro t6 (And.intro t5 (And.intro t4 (And.intro t3 (And.intro t2 (And.intro t1 (And.intro t0 (And.intro s6 (And.intro s5 (And.intro s4 (And.intro s3 (And.intro s2 (And.intro s1 (And.intro s0 (And.intro d6 (And.intro d5 (And.intro d2 (And.intro d1 (And.intro dl (And.intro hvb (And.intro wa (And.intro hm2 (And.intro hm1 (And.intro hc (And.intro strs_len (And.intro gim_len (And.intro fim_len (And.intro ints_len ft)))))))))))))))))))))))))))))))))))
            refine Run.go ?_
            refine End.kp [2, 14, 15, 174, 175, 176, 177] ?_
            refine Run.seq ?_
            refine Run.cond _ rfl (fun hb => ?_) (fun hb => ?_)
            · have hb4 := of_decide_eq_true hb
              have hjn : j < n.outs.length := by omega
              have wj := wsucc hjn (by omega)
              obtain ⟨x, hxi, hxm, hx⟩ := int_at n.outs j hjn
              obtain ⟨x0, x1⟩ := hn.ends.outs x hxm
              have x2 : x < (i : Int) := by omega
              have hl1 := hlx x x0 x2
              have hjl : (j : Int) < (n.outs.length : Int) := by omega
              have hfj : (ints (midO TO n.outs j))[j]? = some [.int .i64 x] := by rw [List.getElem?_map, midO_get _ _ _ x hxi]; rfl
              have hss : (ints (midO TO n.outs j)).set j [.int .i64 (TO.getD x.toNat 0)] = ints (midO TO n.outs (j + 1)) := by rw [← midO_set TO n.outs j x hxi]; exact (List.map_set ..).symm
              refine Run.skip ?_
              refine End.kp [2, 14, 15, 174, 175, 176] ?_
              refine Run.seq ?_
              refine Run.block ?_
              refine Run.seq ?_
              have fx := And.intro hss (And.intro hfj (And.intro hjl (And.intro hl1 (And.intro x2 (And.intro x0 (And.intro wj (And.intro (@Int.toNat_natCast) (And.intro (@Int.natCast_nonneg) (And.intro hol (And.intro hfl (And.intro hap (And.intro htl (And.intro (@List.append_assoc.{0}) (And.intro (@List.length_append.{0}) (And.intro hgo (And.intro hag (And.intro t6 (And.intro t5 (And.intro t4 (And.intro t3 (And.intro t2 (And.intro t1 (And.intro t0 (And.intro s6 (And.intro s5 (And.intro s4 (And.intro s3 (And.intro s2 (And.intro s1 (And.intro s0 (And.intro d6 (And.intro d5 (And.intro d2 (And.intro d1 (And.intro dl (And.intro hvb (And.intro wa (And.intro hm2 (And.intro hm1 (And.intro hc (And.intro strs_len (And.intro gim_len (And.intro fim_len (And.intro ints_len ft))))))))))))))))))))))))))))))))))))))))))))
              refine Run.go ?_
              refine End.kp [2, 14, 15, 21, 22, 174, 175, 176] ?_
              refine Run.drawA fun K hK => ?_
              refine DOps.sim ?_
              refine DOps.nil (by rfl) (hK _ ?_); clear hK K
              refine End.blk ?_
              refine End.kp [2, 14, 15, 174, 175, 176] ?_
              refine Run.go ?_
              refine End.lp ?_
              refine ⟨n.outs.length - (j + 1), _, by omega, .keepE (e := [(2, .ptr 0 1 0), (14, .ptr 0 (M + 1) 0), (15, .ms 0 (M + 2) i), (174, .ms 0 6 n.outs.length), (175, .i n.outs.length), (176, .i (j + 1 : Nat))]) ⟨rfl, rfl, rfl, rfl, rfl, rfl, trivial⟩, j + 1, rfl, by omega, rfl⟩
            · have hb4 := of_decide_eq_false hb
              have hje : j = n.outs.length := by omega
              subst hje
              rw [midO_all] at hol
              clear s0 s1 s2 s3 s4 s5 s6 t0 t1 t2 t3 t4 t5 t6 dl d1 d2 d5 d6
              rw [midO_all]
              have dl : (DF n (needN n) R (n.flops.map (flopTo TO)) (n.outs.map fun k : Int => TO.getD k.toNat 0) gc o5).length = M := by rw [DF_len, hMR]
              have d1 := fun S => DF_1 n (needN n) R (n.flops.map (flopTo TO)) (n.outs.map fun k : Int => TO.getD k.toNat 0) gc o5 S
              have d2 := fun S => DF_2 n (needN n) R (n.flops.map (flopTo TO)) (n.outs.map fun k : Int => TO.getD k.toNat 0) gc o5 S
              have d5 := fun S => DF_5 n (needN n) R (n.flops.map (flopTo TO)) (n.outs.map fun k : Int => TO.getD k.toNat 0) gc o5 S
              have d6 := fun S => DF_6 n (needN n) R (n.flops.map (flopTo TO)) (n.outs.map fun k : Int => TO.getD k.toNat 0) gc o5 S
              have s0 := fun S => DF_suf0 n (needN n) R (n.flops.map (flopTo TO)) (n.outs.map fun k : Int => TO.getD k.toNat 0) gc o5 S M hMR
              have s1 := fun S => DF_suf n (needN n) R (n.flops.map (flopTo TO)) (n.outs.map fun k : Int => TO.getD k.toNat 0) gc o5 S M 1 hMR
              have s2 := fun S => DF_suf n (needN n) R (n.flops.map (flopTo TO)) (n.outs.map fun k : Int => TO.getD k.toNat 0) gc o5 S M 2 hMR
              have s3 := fun S => DF_suf n (needN n) R (n.flops.map (flopTo TO)) (n.outs.map fun k : Int => TO.getD k.toNat 0) gc o5 S M 3 hMR
              have s4 := fun S => DF_suf n (needN n) R (n.flops.map (flopTo TO)) (n.outs.map fun k : Int => TO.getD k.toNat 0) gc o5 S M 4 hMR
              have s5 := fun S => DF_suf n (needN n) R (n.flops.map (flopTo TO)) (n.outs.map fun k : Int => TO.getD k.toNat 0) gc o5 S M 5 hMR
              have s6 := fun S => DF_suf n (needN n) R (n.flops.map (flopTo TO)) (n.outs.map fun k : Int => TO.getD k.toNat 0) gc o5 S M 6 hMR
              have t0 := fun S => DF_set0 n (needN n) R (n.flops.map (flopTo TO)) (n.outs.map fun k : Int => TO.getD k.toNat 0) gc o5 S M hMR
              have t1 := fun S => DF_set n (needN n) R (n.flops.map (flopTo TO)) (n.outs.map fun k : Int => TO.getD k.toNat 0) gc o5 S M 1 hMR
              have t2 := fun S => DF_set n (needN n) R (n.flops.map (flopTo TO)) (n.outs.map fun k : Int => TO.getD k.toNat 0) gc o5 S M 2 hMR
              have t3 := fun S => DF_set n (needN n) R (n.flops.map (flopTo TO)) (n.outs.map fun k : Int => TO.getD k.toNat 0) gc o5 S M 3 hMR
              have t4 := fun S => DF_set n (needN n) R (n.flops.map (flopTo TO)) (n.outs.map fun k : Int => TO.getD k.toNat 0) gc o5 S M 4 hMR
              have t5 := fun S => DF_set n (needN n) R (n.flops.map (flopTo TO)) (n.outs.map fun k : Int => TO.getD k.toNat 0) gc o5 S M 5 hMR
              have t6 := fun S => DF_set n (needN n) R (n.flops.map (flopTo TO)) (n.outs.map fun k : Int => TO.getD k.toNat 0) gc o5 S M 6 hMR
              refine Run.exit rfl ?_
              refine End.kp [2, 14, 15] ?_
              refine Run.seq ?_
              refine Run.ghost (shutS (A := DF n (needN n) R (n.flops.map (flopTo TO)) (n.outs.map fun k : Int => TO.getD k.toNat 0) gc o5) dl (by omega) rfl rfl hfl hol (gim_len _) htl) ?_
              have dl2 : (((DF n (needN n) R (n.flops.map (flopTo TO)) (n.outs.map fun k : Int => TO.getD k.toNat 0) gc o5).set 5 (.row 197 5 ((n.flops.map (flopTo TO)).map LFlop.im) ((n.flops.map (flopTo TO)).map LFlop.im).length)).set 6 (.row 3 1 (ints (n.outs.map fun k : Int => TO.getD k.toNat 0)) (ints (n.outs.map fun k : Int => TO.getD k.toNat 0)).length)).length = M := by rw [List.length_set, List.length_set]; exact dl
              have b1 : ∀ S : List AObj, (((DF n (needN n) R (n.flops.map (flopTo TO)) (n.outs.map fun k : Int => TO.getD k.toNat 0) gc o5).set 5 (.row 197 5 ((n.flops.map (flopTo TO)).map LFlop.im) ((n.flops.map (flopTo TO)).map LFlop.im).length)).set 6 (.row 3 1 (ints (n.outs.map fun k : Int => TO.getD k.toNat 0)) (ints (n.outs.map fun k : Int => TO.getD k.toNat 0)).length) ++ S)[1]? = some (.box [.nils, .nils, .nils, .nils, .nils]) := fun S => rfl
              generalize ((DF n (needN n) R (n.flops.map (flopTo TO)) (n.outs.map fun k : Int => TO.getD k.toNat 0) gc o5).set 5 (.row 197 5 ((n.flops.map (flopTo TO)).map LFlop.im) ((n.flops.map (flopTo TO)).map LFlop.im).length)).set 6 (.row 3 1 (ints (n.outs.map fun k : Int => TO.getD k.toNat 0)) (ints (n.outs.map fun k : Int => TO.getD k.toNat 0)).length) = B at dl2 b1
              have b2 : ∀ S : List AObj, (B ++ S)[M + 1]? = S[1]? := fun S => by rw [List.getElem?_append_right (by omega), show M + 1 - B.length = 1 by omega]
              have b3 : ∀ (S : List AObj) (o : AObj), ((B ++ S).set 1 o)[1]? = some o := fun S o => List.getElem?_set_self (by rw [List.length_append]; omega)
              have fx := And.intro b3 (And.intro b2 (And.intro b1 (And.intro hol (And.intro hfl (And.intro hap (And.intro htl (And.intro (@List.append_assoc.{0}) (And.intro (@List.length_append.{0}) (And.intro hgo (And.intro hag (And.intro t6 (And.intro t5 (And.intro t4 (And.intro t3 (And.intro t2 (And.intro t1 (And.intro t0 (And.intro s6 (And.intro s5 (And.intro s4 (And.intro s3 (And.intro s2 (And.intro s1 (And.intro s0 (And.intro d6 (And.intro d5 (And.intro d2 (And.intro d1 (And.intro dl (And.intro hvb (And.intro wa (And.intro hm2 (And.intro hm1 (And.intro hc (And.intro strs_len (And.intro gim_len (And.intro fim_len (And.intro ints_len ft))))))))))))))))))))))))))))))))))))))
              refine Run.go ?_
              refine End.kp [2, 3, 4] ?_
              refine Run.resC hQ ?_
              exact ⟨by simp only [cleanNV, ← hN, hSS], rfl⟩
end Go.Proofs.YtdgpmopcmacicaaPi

/- Plain law: Clean of netlists keeps what a netlist shows, and done again changes nothing. -/
set_option linter.unusedVariables false
set_option linter.unusedSimpArgs false
namespace Go.Proofs.YtdgpmopcmacicaaPi
set_option maxHeartbeats 1000000

/- What is needed. -/
theorem setAll_mono (ks : List Int) : ∀ {v : List Bool} {k : Nat}, v.getD k false = true → (setAll ks v).getD k false = true := by
  induction ks with
  | nil => intro v k h; exact h
  | cons x ks ih => intro v k h; rw [setAll, List.foldl_cons, ← setAll]; exact ih (set_mono h)
theorem setAll_in (ks : List Int) : ∀ {v : List Bool} (x : Int), x ∈ ks → x.toNat < v.length → (setAll ks v).getD x.toNat false = true := by
  induction ks with
  | nil => intro v x hx; simp at hx
  | cons y ks ih =>
    intro v x hx hl
    rw [setAll, List.foldl_cons, ← setAll]
    rcases List.mem_cons.1 hx with rfl | hx
    · exact setAll_mono ks (by rw [set_getD, if_pos ⟨rfl, hl⟩])
    · exact ih x hx (by simpa using hl)
theorem setAll_out (ks : List Int) : ∀ {v : List Bool} {k : Nat}, (setAll ks v).getD k false = true → v.getD k false = true ∨ ∃ x ∈ ks, x.toNat = k := by
  induction ks with
  | nil => intro v k h; exact .inl h
  | cons y ks ih =>
    intro v k h
    rw [setAll, List.foldl_cons, ← setAll] at h
    rcases ih h with h | ⟨x, hx, e⟩
    · rw [set_getD] at h
      split at h
      · rename_i e; exact .inr ⟨y, by simp, e.1⟩
      · exact .inl h
    · exact .inr ⟨x, by simp [hx], e⟩
theorem needStep_mono (n : LNet) {v : List Bool} (i : Nat) {k : Nat} (h : v.getD k false = true) : (needStep n v i).getD k false = true := by
  unfold needStep; split
  · exact setAll_mono _ h
  · exact h
theorem needDown_mono (n : LNet) : ∀ (i : Nat) {v : List Bool} {k : Nat}, v.getD k false = true → (needDown n i v).getD k false = true
  | 0, v, k, h => h
  | i + 1, v, k, h => needDown_mono n i (needStep_mono n i h)
theorem needStep_len (n : LNet) (v : List Bool) (i : Nat) : (needStep n v i).length = v.length := by
  unfold needStep; split
  · exact setAll_len _ _
  · rfl
section
variable {n : LNet} (hn : NetOk n)
include hn
theorem gate_in (i : Nat) (x : Int) (h : x ∈ (gateD n i).ins) : i < n.gates.length ∧ 0 ≤ x ∧ x < 2 + n.inn.length + n.flops.length + i := by
  by_cases hi : i < n.gates.length
  · have hg : n.gates[i]? = some n.gates[i] := List.getElem?_eq_getElem hi
    have e : gateD n i = n.gates[i] := by simp [gateD, hi]
    rw [e] at h
    exact ⟨hi, (hn.gates i _ hg).2.2 x h⟩
  · exfalso
    have e : gateD n i = ⟨0, []⟩ := by rw [gateD, List.getD_eq_getElem?_getD, List.getElem?_eq_none (by omega)]; rfl
    rw [e] at h
    simp at h
theorem needStep_high (v : List Bool) (i k : Nat) (hk : fstN n + i ≤ k) : (needStep n v i).getD k false = v.getD k false := by
  cases h : v.getD k false with
  | true => exact needStep_mono n i h
  | false =>
    cases h2 : (needStep n v i).getD k false with
    | false => rfl
    | true =>
      unfold needStep at h2
      split at h2
      · rcases setAll_out _ h2 with h3 | ⟨x, hx, e⟩
        · rw [h] at h3; simp at h3
        · have := gate_in hn i x hx; simp only [fstN] at hk; omega
      · rw [h] at h2; simp at h2
theorem needDown_high : ∀ (i : Nat) (v : List Bool) (k : Nat), fstN n + i ≤ k + 1 → (needDown n i v).getD k false = v.getD k false
  | 0, v, k, _ => rfl
  | i + 1, v, k, h => by rw [needDown, needDown_high i _ k (by omega), needStep_high hn v i k (by omega)]
theorem needDown_closed : ∀ (i : Nat) (v : List Bool), v.length = netsN n → i ≤ n.gates.length → ∀ (j : Nat) (x : Int), j < i → (needDown n i v).getD (fstN n + j) false = true → x ∈ (gateD n j).ins → (needDown n i v).getD x.toNat false = true
  | 0, v, _, _, j, x, hj, _, _ => by omega
  | i + 1, v, hv, hi, j, x, hj, h, hx => by
    rw [needDown] at h ⊢
    by_cases e : j = i
    · subst e
      rw [needDown_high hn j _ _ (by omega), needStep_high hn v j _ (Nat.le_refl _)] at h
      refine needDown_mono n j ?_
      have := gate_in hn j x hx
      rw [needStep, if_pos h]
      exact setAll_in _ x hx (by rw [hv]; simp only [netsN]; omega)
    · exact needDown_closed i _ (by rw [needStep_len]; exact hv) (by omega) j x (by omega) h hx
theorem ways_range (x : Int) (h : x ∈ waysN n) : 0 ≤ x ∧ x < 2 + n.inn.length + n.flops.length + n.gates.length := by
  rcases List.mem_append.1 h with h | h
  · exact hn.ends.outs x h
  · simp only [flopW, List.mem_flatten, List.mem_map] at h
    obtain ⟨l, ⟨f, hf, rfl⟩, hx⟩ := h
    have := hn.ends.flops f hf
    simp only [List.mem_cons, List.not_mem_nil, or_false] at hx
    rcases hx with rfl | rfl
    · exact this.1
    · exact this.2
theorem need_ways (x : Int) (h : x ∈ waysN n) : (needN n).getD x.toNat false = true := by
  have := ways_range hn x h
  refine needDown_mono n _ (setAll_in _ x h ?_)
  simp only [List.length_replicate, netsN]; omega
theorem need_closed (j : Nat) (x : Int) (h : (needN n).getD (fstN n + j) false = true) (hx : x ∈ (gateD n j).ins) : (needN n).getD x.toNat false = true :=
  needDown_closed hn n.gates.length _ (by rw [setAll_len]; simp) (Nat.le_refl _) j x (gate_in hn j x hx).1 h hx
end
theorem valsN_at (gs : List LGate) (v : List Int) (j : Nat) (g : LGate) (h : gs[j]? = some g) (hr : ∀ k ∈ g.ins, k.toNat < v.length + j) : (valsN gs v).getD (v.length + j) 0 = lookV g.table (g.ins.map fun k => (valsN gs v).getD k.toNat 0) := by
  obtain ⟨hj, he⟩ := List.getElem?_eq_some_iff.1 h
  have e : gs = gs.take j ++ (g :: gs.drop (j + 1)) := by rw [← he, ← List.drop_eq_getElem_cons hj, List.take_append_drop]
  have hl : (valsN (gs.take j) v).length = v.length + j := by rw [valsN_len, List.length_take]; omega
  have key : ∀ k, k < v.length + j → (valsN gs v).getD k 0 = (valsN (gs.take j) v).getD k 0 := fun k hk => by
    conv => lhs; rw [e]
    exact valsN_keep _ _ _ _ (by rw [List.length_take]; omega)
  have e2 : (valsN gs v).getD (v.length + j) 0 = gateVal g (valsN (gs.take j) v) := by
    conv => lhs; rw [e]
    rw [valsN_app, valsN, valsN_pre _ _ _ (by rw [List.length_append, hl]; simp), ← hl]
    exact getD_app_end _ _
  rw [e2, gateVal]
  congr 1
  exact List.map_congr_left fun k hk => (key _ (hr k hk)).symm
/- The numbers that nets get. -/
structure CI (n : LNet) (i : Nat) (S : List Int × List LGate) : Prop where
  low : ∀ k : Nat, k < i → k < fstN n → S.1.getD k 0 = (k : Int)
  rng : ∀ k : Nat, k < i → fstN n ≤ k → (needN n).getD k false = true → ∃ q : Nat, q < S.2.length ∧ S.1.getD k 0 = ((fstN n + q : Nat) : Int) ∧ S.2[q]? = some ⟨(gateD n (k - fstN n)).table, (gateD n (k - fstN n)).ins.map fun x => S.1.getD x.toNat 0⟩
  sur : ∀ q : Nat, q < S.2.length → ∃ k : Nat, k < i ∧ fstN n ≤ k ∧ (needN n).getD k false = true ∧ S.1.getD k 0 = ((fstN n + q : Nat) : Int)
  ins : ∀ (q : Nat) (g : LGate), S.2[q]? = some g → ∀ x ∈ g.ins, 0 ≤ x ∧ x < 2 + n.inn.length + n.flops.length + q
  few : S.2.length ≤ i - fstN n
  val : ∀ inn st : List Int, inn.length = n.inn.length → st.length = n.flops.length → ∀ k : Nat, k < i → (k < fstN n ∨ (needN n).getD k false = true) → (valsN S.2 (nb0 inn st)).getD (S.1.getD k 0).toNat 0 = (valuesV n inn st).getD k 0
section
variable {n : LNet} (hn : NetOk n)
include hn
theorem cn_ok : ∀ i, i ≤ netsN n → CI n i (cnS n (needN n) i)
  | 0, _ => ⟨fun k h => by omega, fun k h => by omega, fun q h => by simp [cnS] at h, fun q g h => by simp [cnS] at h, by simp [cnS], fun _ _ _ _ k h => by omega⟩
  | i + 1, hi => by
    have ih := cn_ok i (by omega)
    obtain ⟨hl1, hl2⟩ := cnS_len n (needN n) i
    have hN : netsN n = fstN n + n.gates.length := rfl
    rw [cnS]
    generalize cnS n (needN n) i = S at ih hl1 hl2
    obtain ⟨TO, GS⟩ := S
    obtain ⟨i1, i2, i3, i4, i5, i6⟩ := ih
    simp only at i1 i2 i3 i4 i5 i6 hl1 hl2
    have left : ∀ (y : Int) (k : Nat), k < i → (TO ++ [y]).getD k 0 = TO.getD k 0 := fun y k hk => getD_app_left (by omega)
    have last : ∀ y : Int, (TO ++ [y]).getD i 0 = y := fun y => by rw [← hl1]; exact getD_app_end _ _
    have mapc : ∀ (y : Int) (k : Nat), k < i → fstN n ≤ k → ((gateD n (k - fstN n)).ins.map fun x => (TO ++ [y]).getD x.toNat 0) = (gateD n (k - fstN n)).ins.map fun x => TO.getD x.toNat 0 := fun y k hk hF => List.map_congr_left fun x hx => by
      have := gate_in hn _ x hx
      exact left y _ (by simp only [fstN] at hF this; omega)
    rw [cnStep]
    split
    · rename_i hF
      refine ⟨fun k hk hkF => ?_, fun k hk hkF => by omega, fun q hq => ?_, i4, by simp only; omega, fun inn st e1 e2 k hk hkk => ?_⟩
      · simp only
        by_cases e : k = i
        · subst e; exact last _
        · rw [left _ k (by omega)]; exact i1 k (by omega) hkF
      · obtain ⟨k, k1, k2, k3, k4⟩ := i3 q hq
        omega
      · simp only
        have hb : (nb0 inn st).length = fstN n := by rw [nb0_len, e1, e2]
        by_cases e : k = i
        · subst e
          rw [last, Int.toNat_natCast, valsN_pre _ _ _ (by omega), valuesV, valsN_pre _ _ _ (by show k < (nb0 inn st).length; omega)]
        · rw [left _ k (by omega)]; exact i6 inn st e1 e2 k (by omega) hkk
    · rename_i hF
      have hj : i - fstN n < n.gates.length := by omega
      have hgj : n.gates[i - fstN n]? = some (gateD n (i - fstN n)) := by simp [gateD, hj]
      split
      · rename_i hneed
        have hx : ∀ x ∈ (gateD n (i - fstN n)).ins, (0 ≤ TO.getD x.toNat 0 ∧ TO.getD x.toNat 0 < 2 + n.inn.length + n.flops.length + GS.length) ∧ x.toNat < i ∧ (x.toNat < fstN n ∨ (needN n).getD x.toNat false = true) := fun x hx => by
          have hin := gate_in hn _ x hx
          have hxi : x.toNat < i := by simp only [fstN] at hin hF ⊢; omega
          have hne := need_closed hn (i - fstN n) x (by rw [show fstN n + (i - fstN n) = i by omega]; exact hneed) hx
          refine ⟨?_, hxi, .inr hne⟩
          by_cases hxF : x.toNat < fstN n
          · rw [i1 _ hxi hxF]; simp only [fstN] at hxF; omega
          · obtain ⟨q, q1, q2, _⟩ := i2 _ hxi (by omega) hne
            rw [q2]; simp only [fstN]; omega
        refine ⟨fun k hk hkF => ?_, fun k hk hkF hkn => ?_, fun q hq => ?_, fun q g hg x hxg => ?_, by simp only [List.length_append, List.length_cons, List.length_nil]; omega, fun inn st e1 e2 k hk hkk => ?_⟩
        · simp only
          rw [left _ k (by omega)]; exact i1 k (by omega) hkF
        · simp only
          by_cases e : k = i
          · subst e
            refine ⟨GS.length, by simp, last _, ?_⟩
            rw [app_get_end rfl]
            congr 2
            exact (List.map_congr_left fun x hx' => left _ _ (hx x hx').2.1).symm
          · obtain ⟨q, q1, q2, q3⟩ := i2 k (by omega) hkF hkn
            exact ⟨q, by simp; omega, by rw [left _ k (by omega)]; exact q2, by rw [List.getElem?_append_left q1, q3, mapc _ k (by omega) hkF]⟩
        · simp only [List.length_append, List.length_cons, List.length_nil] at hq
          by_cases e : q = GS.length
          · subst e
            exact ⟨i, by omega, by omega, hneed, last _⟩
          · obtain ⟨k, k1, k2, k3, k4⟩ := i3 q (by omega)
            exact ⟨k, by omega, k2, k3, by simp only; rw [left _ k k1]; exact k4⟩
        · simp only at hg
          by_cases e : q < GS.length
          · rw [List.getElem?_append_left e] at hg
            exact i4 q g hg x hxg
          · have hq := (List.getElem?_eq_some_iff.1 hg).1
            simp only [List.length_append, List.length_cons, List.length_nil] at hq
            have : q = GS.length := by omega
            subst this
            rw [app_get_end rfl] at hg
            cases hg
            obtain ⟨y, hy, rfl⟩ := List.mem_map.1 hxg
            exact (hx y hy).1
        · simp only
          have hb : (nb0 inn st).length = fstN n := by rw [nb0_len, e1, e2]
          rw [valsN_snoc]
          have hwl : (valsN GS (nb0 inn st)).length = fstN n + GS.length := by rw [valsN_len, hb]
          by_cases e : k = i
          · subst e
            rw [last, Int.toNat_natCast, ← hwl, getD_app_end, gateVal, List.map_map]
            have hv := valsN_at n.gates (nb0 inn st) (k - fstN n) _ hgj (fun x hx' => by rw [hb]; have := (hx x hx').2.1; omega)
            rw [hb, show fstN n + (k - fstN n) = k by omega] at hv
            rw [valuesV, hv]
            congr 1
            refine List.map_congr_left fun x hx' => ?_
            obtain ⟨_, x2, x3⟩ := hx x hx'
            exact i6 inn st e1 e2 _ x2 x3
          · have ho := i6 inn st e1 e2 k (by omega) hkk
            rw [left _ k (by omega), ← ho]
            refine getD_app_left ?_
            rw [hwl]
            by_cases hkF : k < fstN n
            · rw [i1 k (by omega) hkF]; omega
            · obtain ⟨q, q1, q2, _⟩ := i2 k (by omega) (by omega) (by rcases hkk with h | h; omega; exact h)
              rw [q2]; omega
      · rename_i hneed
        refine ⟨fun k hk hkF => ?_, fun k hk hkF hkn => ?_, fun q hq => ?_, i4, by simp only; omega, fun inn st e1 e2 k hk hkk => ?_⟩
        · simp only
          rw [left _ k (by omega)]; exact i1 k (by omega) hkF
        · simp only
          have hki : k ≠ i := fun e => hneed (by rw [← e]; exact hkn)
          obtain ⟨q, q1, q2, q3⟩ := i2 k (by omega) hkF hkn
          exact ⟨q, q1, by rw [left _ k (by omega)]; exact q2, by rw [q3, mapc _ k (by omega) hkF]⟩
        · obtain ⟨k, k1, k2, k3, k4⟩ := i3 q hq
          exact ⟨k, by omega, k2, k3, by simp only; rw [left _ k k1]; exact k4⟩
        · simp only
          have hki : k ≠ i := fun e => by rcases hkk with h | h; omega; exact hneed (by rw [← e]; exact h)
          rw [left _ k (by omega)]
          exact i6 inn st e1 e2 k (by omega) hkk
theorem cleanN_all : CI n (netsN n) (cnS n (needN n) (netsN n)) := cn_ok hn _ (Nat.le_refl _)
theorem cn_range (x : Int) (x0 : 0 ≤ x) (x1 : x < 2 + n.inn.length + n.flops.length + n.gates.length) (hx : (needN n).getD x.toNat false = true) :
    0 ≤ (cnS n (needN n) (netsN n)).1.getD x.toNat 0 ∧ (cnS n (needN n) (netsN n)).1.getD x.toNat 0 < 2 + n.inn.length + n.flops.length + (cnS n (needN n) (netsN n)).2.length := by
  have hc := cleanN_all hn
  by_cases hF : x.toNat < fstN n
  · rw [hc.low _ (by simp only [netsN]; omega) hF]; simp only [fstN] at hF; omega
  · obtain ⟨q, q1, q2, _⟩ := hc.rng _ (by simp only [netsN]; omega) (by omega) hx
    rw [q2]; simp only [fstN]; omega
theorem cleanNV_ok : NetOk (cleanNV n) := by
  have hc := cleanN_all hn
  obtain ⟨z1, z2, z3, z4, z5⟩ := hn.small
  have hfl : (cleanNV n).flops.length = n.flops.length := by simp [cleanNV]
  have hnm : (cleanNV n).flops.map LFlop.name = n.flops.map LFlop.name := by simp only [cleanNV, List.map_map]; rfl
  have hgl : (cleanNV n).gates.length ≤ n.gates.length := by have := hc.few; simp only [cleanNV, netsN, fstN] at *; omega
  have hol : (cleanNV n).outs.length = n.outs.length := by simp [cleanNV]
  refine ⟨⟨z1, z2, by rw [hfl]; exact z3, by omega, by rw [hol]; exact z5⟩, by rw [hnm]; exact hn.names, by rw [hnm]; exact hn.nodup, hn.onames, hn.onodup, by rw [hol]; exact hn.olen, fun q g hg => ?_, ⟨fun f hf => ?_, fun k hk => ?_⟩⟩
  · have hq : q < (cleanNV n).gates.length := (List.getElem?_eq_some_iff.1 hg).1
    obtain ⟨k, k1, k2, k3, k4⟩ := hc.sur q hq
    obtain ⟨q', q1, q2, q3⟩ := hc.rng k k1 k2 k3
    have : q' = q := by rw [k4] at q2; omega
    subst this
    have hg' : (cnS n (needN n) (netsN n)).2[q']? = some g := hg
    rw [q3] at hg'
    have hgk : n.gates[k - fstN n]? = some (gateD n (k - fstN n)) := by
      have hlt : k - fstN n < n.gates.length := by simp only [netsN, fstN] at *; omega
      simp [gateD, hlt]
    obtain ⟨v1, v2, _⟩ := hn.gates _ _ hgk
    refine ⟨?_, ?_, fun x hx => ?_⟩
    · rw [← Option.some.inj hg']; simpa using v1
    · rw [← Option.some.inj hg']; simpa using v2
    · rw [hfl]; exact hc.ins q' g hg x hx
  · simp only [cleanNV, List.mem_map] at hf
    obtain ⟨f0, hf0, rfl⟩ := hf
    have hd : f0.d ∈ waysN n := List.mem_append_right _ (by simp only [flopW, List.mem_flatten, List.mem_map]; exact ⟨_, ⟨f0, hf0, rfl⟩, by simp⟩)
    have he : f0.en ∈ waysN n := List.mem_append_right _ (by simp only [flopW, List.mem_flatten, List.mem_map]; exact ⟨_, ⟨f0, hf0, rfl⟩, by simp⟩)
    have r1 := cn_range hn _ (ways_range hn _ hd).1 (ways_range hn _ hd).2 (need_ways hn _ hd)
    have r2 := cn_range hn _ (ways_range hn _ he).1 (ways_range hn _ he).2 (need_ways hn _ he)
    rw [hfl]
    exact ⟨r1, r2⟩
  · simp only [cleanNV, List.mem_map] at hk
    obtain ⟨x, hx, rfl⟩ := hk
    have hw : x ∈ waysN n := List.mem_append_left _ hx
    rw [hfl]
    exact cn_range hn _ (ways_range hn _ hw).1 (ways_range hn _ hw).2 (need_ways hn _ hw)
theorem cleanNV_vals (inn st : List Int) (e1 : inn.length = n.inn.length) (e2 : st.length = n.flops.length) (x : Int) (h : x ∈ waysN n) : (valuesV (cleanNV n) inn st).getD ((cnS n (needN n) (netsN n)).1.getD x.toNat 0).toNat 0 = (valuesV n inn st).getD x.toNat 0 := by
  have hr := ways_range hn x h
  exact (cleanN_all hn).val inn st e1 e2 x.toNat (by simp only [netsN]; omega) (.inr (need_ways hn x h))
theorem cleanNV_next (inn st : List Int) (e1 : inn.length = n.inn.length) (e2 : st.length = n.flops.length) : ∀ (fs : List LFlop) (j : Nat), (∀ f ∈ fs, f ∈ n.flops) → j + fs.length ≤ n.flops.length → nextsF (cleanNV n) (valuesV (cleanNV n) inn st) j (fs.map (flopTo (cnS n (needN n) (netsN n)).1)) = nextsF n (valuesV n inn st) j fs
  | [], j, _, _ => rfl
  | f :: fs, j, h, hj => by
    have hf := h f (by simp)
    simp only [List.length_cons] at hj
    have hd : f.d ∈ waysN n := List.mem_append_right _ (by simp only [flopW, List.mem_flatten, List.mem_map]; exact ⟨_, ⟨f, hf, rfl⟩, by simp⟩)
    have he : f.en ∈ waysN n := List.mem_append_right _ (by simp only [flopW, List.mem_flatten, List.mem_map]; exact ⟨_, ⟨f, hf, rfl⟩, by simp⟩)
    rw [List.map_cons, nextsF, nextsF, cleanNV_next inn st e1 e2 fs (j + 1) (fun f hf => h f (by simp [hf])) (by omega)]
    congr 1
    have v1 := cleanNV_vals hn inn st e1 e2 _ hd
    have v2 := cleanNV_vals hn inn st e1 e2 _ he
    have v3 : (valuesV (cleanNV n) inn st).getD (2 + ((cleanNV n).inn.length : Int) + j).toNat 0 = (valuesV n inn st).getD (2 + (n.inn.length : Int) + j).toNat 0 := by
      have e : (cleanNV n).inn = n.inn := rfl
      rw [e, valuesV, valuesV, valsN_pre _ _ _ (by rw [nb0_len]; omega), valsN_pre _ _ _ (by rw [nb0_len]; omega)]
    simp only [nextF, flopTo]
    rw [v1, v2, v3]
theorem cleanNV_run : ∀ (t : List (List Bool)) (st : List Int), (∀ r ∈ t, r.length = n.inn.length) → st.length = n.flops.length → runN (cleanNV n) st t = runN n st t
  | [], st, _, _ => rfl
  | r :: t, st, hr, hst => by
    have hin : (lanes0 r).length = n.inn.length := by simpa using hr r (by simp)
    have e1 : outV (cleanNV n) (valuesV (cleanNV n) (lanes0 r) st) = outV n (valuesV n (lanes0 r) st) := by
      simp only [outV]
      show ((n.outs.map fun k => (cnS n (needN n) (netsN n)).1.getD k.toNat 0).map fun k => (valuesV (cleanNV n) (lanes0 r) st).getD k.toNat 0) = _
      rw [List.map_map]
      exact List.map_congr_left fun k hk => cleanNV_vals hn (lanes0 r) st hin hst k (List.mem_append_left _ hk)
    have e2 : nextsM (cleanNV n) (valuesV (cleanNV n) (lanes0 r) st) = nextsM n (valuesV n (lanes0 r) st) := cleanNV_next hn (lanes0 r) st hin hst n.flops 0 (fun f hf => hf) (by omega)
    rw [runN, runN, e1, e2, cleanNV_run t _ (fun x hx => hr x (by simp [hx])) (by rw [nextsM, nextsF_len])]
theorem cleanNV_runI (t : List (List Bool)) (hr : ∀ r ∈ t, r.length = n.inn.length) : runN (cleanNV n) (lanes0 (initN (cleanNV n))) t = runN n (lanes0 (initN n)) t := by
  have e : initN (cleanNV n) = initN n := by simp only [initN, cleanNV, List.map_map]; rfl
  rw [e]
  exact cleanNV_run hn t _ hr (by simp [initN])
end
end Go.Proofs.YtdgpmopcmacicaaPi

/- Plain law: the netlist of a graph whose flip-flops have the enables that were found shows what the graph shows. -/
set_option linter.unusedVariables false
set_option linter.unusedSimpArgs false
namespace Go.Proofs.YtdgpmopcmacicaaPi
def enD (g : LGraph) : List Int := (enablesV g).map Prod.snd
def enE (g : LGraph) : List Int := (enablesV g).map Prod.fst
theorem enD_len (g : LGraph) : (enD g).length = g.regs.length := by simp [enD, enablesV]
theorem enE_len (g : LGraph) : (enE g).length = g.regs.length := by simp [enE, enablesV]
theorem en_get {g : LGraph} {j : Nat} {r : LReg} (h : g.regs[j]? = some r) : (enablesV g)[j]? = some (findV g r.next (2 * (1 + (g.inn.length : Int) + j))) := by
  obtain ⟨hj, he⟩ := List.getElem?_eq_some_iff.1 h
  simp [enablesV, enV, hj, he]
theorem en_range {g : LGraph} (hg : GraphOk g) : ∀ x ∈ enD g ++ enE g, 0 ≤ x ∧ x < 2 * (1 + (g.inn.length : Int) + g.regs.length + g.ands.length) := fun x hx => by
  have key : ∀ p ∈ enablesV g, (0 ≤ p.1 ∧ p.1 < 2 * (1 + (g.inn.length : Int) + g.regs.length + g.ands.length)) ∧ 0 ≤ p.2 ∧ p.2 < 2 * (1 + (g.inn.length : Int) + g.regs.length + g.ands.length) := fun p hp => by
    obtain ⟨j, hj⟩ := List.mem_iff_getElem?.1 hp
    have hjl := (List.getElem?_eq_some_iff.1 hj).1
    have hjr : j < g.regs.length := by simpa [enablesV] using hjl
    have hr : g.regs[j]? = some g.regs[j] := List.getElem?_eq_getElem hjr
    rw [en_get hr] at hj
    cases hj
    obtain ⟨y1, y2⟩ := hg.regs _ (List.getElem_mem hjr)
    exact (find_law hg (inn := List.replicate g.inn.length 0) (st := List.replicate g.regs.length 0) (by simp) (by simp) _ (2 * (1 + (g.inn.length : Int) + j)) y1 y2 (by omega) (by omega)).1
  rcases List.mem_append.1 hx with hx | hx
  · obtain ⟨p, hp, rfl⟩ := List.mem_map.1 hx; exact (key p hp).2
  · obtain ⟨p, hp, rfl⟩ := List.mem_map.1 hx; exact (key p hp).1
theorem gate_law {g : LGraph} (hg : GraphOk g) (b1 : g.inn.length ≤ 100) (b2 : g.out.length ≤ 100) (b3 : g.regs.length ≤ 20) (b4 : g.ands.length + g.outs.length + 2 * g.regs.length ≤ 100) : WithLaw g (enD g) (enE g) :=
  withLaw hg b1 b2 b3 b4 _ _ (enD_len g) (enE_len g) (en_range hg)
theorem gate_run {g : LGraph} (hg : GraphOk g) (b1 : g.inn.length ≤ 100) (b2 : g.out.length ≤ 100) (b3 : g.regs.length ≤ 20) (b4 : g.ands.length + g.outs.length + 2 * g.regs.length ≤ 100) (t : List (List Bool)) (hr : ∀ r ∈ t, r.length = g.inn.length) : runN (cleanNV (withV g (enD g) (enE g))) (lanes0 (initN (cleanNV (withV g (enD g) (enE g))))) t = runI g t := by
  have hw := gate_law hg b1 b2 b3 b4
  rw [cleanNV_runI hw.ok t hr]
  refine with_run hg (enD_len g) (enE_len g) hw (fun inn st h1 h2 j r x y hj hx hy => ?_) t hr
  have hjl := (List.getElem?_eq_some_iff.1 hj).1
  rw [enD, List.getElem?_map, en_get hj] at hx
  rw [enE, List.getElem?_map, en_get hj] at hy
  simp only [Option.map_some, Option.some.injEq] at hx hy
  obtain ⟨y1, y2⟩ := hg.regs r (List.mem_of_getElem? hj)
  have hl := (find_law hg h1 h2 r.next (2 * (1 + (g.inn.length : Int) + j)) y1 y2 (by omega) (by omega)).2
  rw [hx, hy] at hl
  have hq := g_reg hg h1 h2 j hjl
  simp only [gb] at hl
  rw [hq] at hl
  have h0 := congrArg (fun b : BitVec 64 => b.getLsbD 0) hl
  simp only [keepsB, BitVec.getLsbD_or, BitVec.getLsbD_and, BitVec.getLsbD_not] at h0
  rw [lb_litB _ y, lb_litB _ x, lb_litB _ r.next, h0]
  show _ = ((litB (graphVals g inn st) y).getLsbD 0 && (litB (graphVals g inn st) x).getLsbD 0 || (decide (0 < 64) && !(litB (graphVals g inn st) y).getLsbD 0) && bit0 (st.getD j 0))
  cases (litB (graphVals g inn st) y).getLsbD 0 <;> simp
end Go.Proofs.YtdgpmopcmacicaaPi

/- The walk of Mux of makers. -/
set_option linter.unusedVariables false
set_option linter.unusedSimpArgs false
namespace Go.Proofs.YtdgpmopcmacicaaPi
set_option maxHeartbeats 4000000
-- GONE mMux_ok
end Go.Proofs.YtdgpmopcmacicaaPi

/- The walks of Maker.Reg, and of Maker.Graph with registers. -/
set_option linter.unusedVariables false
set_option linter.unusedSimpArgs false
set_option maxRecDepth 100000
namespace Go.Proofs.YtdgpmopcmacicaaPi
set_option maxHeartbeats 4000000
theorem mReg_ok (i : Nat) (m : LMk) (hm : MkSmall m) (up : Frs) (d j r q : Nat) (hk : MkAt up d j r q m) (hi : i < m.regs.length) : ACalls Try.prog 23 [.ptr d j 0, .i i] up fun v u => v = .i (2 * (1 + m.inn.length + i)) ∧ u = up := by
  obtain ⟨z1, z2, z3⟩ := hm
  have kb := hk.box
  have kr := hk.row
  have kq := hk.map
  have w1 : IntKind.i64.wrap (1 + (m.inn.length : Int)) = 1 + (m.inn.length : Int) := wrap64 (by omega)
  have d1 : decide ((i : Int) < 0) = false := decide_eq_false (by omega)
  have d2 : decide ((m.regs.length : Int) ≤ i) = false := decide_eq_false (by omega)
  have w4 : IntKind.i64.wrap (1 + (m.inn.length : Int) + i) = 1 + (m.inn.length : Int) + i := wrap64 (by omega)
  have w5 : IntKind.i64.wrap (2 * (1 + (m.inn.length : Int) + i)) = 2 * (1 + (m.inn.length : Int) + i) := wrap64 (by omega)
  refine ACalls.code Try.func23 rfl 27 rfl (by simp) [.tmp 4] rfl fun Q hQ => ?_
  simp only [ups, PV.up, argEnv]
  have ft := And.intro ty_3 (And.intro ty_4 (And.intro ty_9 (And.intro ty_27 (And.intro ty_29 (And.intro ty_34 (And.intro ty_39 (And.intro ty_47 (And.intro ty_48 (And.intro ty_140 trivial)))))))))
  refine Run.seq ?_
  have fx := And.intro (@ge_iff_le Int _) (And.intro w5 (And.intro w4 (And.intro w1 (And.intro d2 (And.intro d1 (And.intro rim_len (And.intro strs_len (And.intro kb ft))))))))
  refine Run.go ?_
  refine End.kp [0, 1] ?_
  refine Run.seq ?_
  refine Run.seq ?_
  refine Run.go ?_
  refine End.kp [0, 1, 15] ?_
  refine Run.cond _ rfl (fun hb => ?_) (fun hb => ?_)
  · have hb2 := hb
    simp at hb
  · have hb2 := hb
    refine Run.skip ?_
    refine End.kp [0, 1] ?_
    refine Run.seq ?_
    have fx := And.intro (@ge_iff_le Int _) (And.intro w5 (And.intro w4 (And.intro w1 (And.intro d2 (And.intro d1 (And.intro rim_len (And.intro strs_len (And.intro kb ft))))))))
    refine Run.go ?_
    refine End.kp [4] ?_
    refine Run.ret (hQ _ _ ⟨.inr rfl, _, rfl, _, rfl, ?_⟩)
    exact ⟨rfl, rfl⟩
theorem CopyRI_ok (g : LGraph) (hg : GSmall g) (k : Nat) (up : Frs) (hk : fget up 0 k = some .dead) : ACalls Try.prog 75 [g.pv] up fun v u => v = .agg [.im (.sl (strs g.inn)), .im (.sl (strs g.out)), .ms 0 k g.regs.length, .im (.sl (g.ands.map nd)), .im (.sl (ints g.outs))] ∧ u = fset up 0 k (.row 47 3 (g.regs.map LReg.im) 0) := by
  obtain ⟨z1, z2, z3, z4, z5⟩ := hg
  have hset : ∀ (u : Frs) (d j : Nat) (o x : AObj), fget u d j = some o → fget (fset u d j x) d j = some x := fun u d j o x h => fget_fset_same _ _ _ _ _ h
  refine ACalls.codeI Try.func75 rfl 19 rfl (by simp) [.cell 2 33] rfl k fun Q hQ => ?_
  simp only [ups, PV.up, argEnv]
  have ft := And.intro ty_2 (And.intro ty_3 (And.intro ty_4 (And.intro ty_9 (And.intro ty_27 (And.intro ty_29 (And.intro ty_30 (And.intro ty_31 (And.intro ty_33 (And.intro ty_34 (And.intro ty_37 (And.intro ty_47 trivial)))))))))))
  refine Run.ghost (.spares 1) ?_
  simp only [ASt.pushN, ASt.push, List.append_assoc, List.cons_append, List.nil_append]
  refine Run.seq ?_
  have fx := ft
  refine Run.go ?_
  refine End.kp [1, 2] ?_
  refine Run.seq ?_
  refine Run.drawA fun K hK => ?_
  refine DOps.sim ?_
  refine DOps.call (.im (.sl (strs g.inn))) [] [] rfl rfl rfl rfl (by kernel_rfl) (by simp [Agree]) (fun u hu => CloneS_ok g.inn (by omega) u) ?_
  refine DOps.sim ?_
  refine DOps.call (.im (.sl (strs g.out))) [] [] rfl rfl rfl rfl (by kernel_rfl) (by simp [Agree]) (fun u hu => CloneS_ok g.out (by omega) u) ?_
  refine DOps.sim ?_
  refine DOps.call (.ms 0 0 g.regs.length) [((0, 0), .dead)] [((0, 0), .row 47 3 (g.regs.map LReg.im) 0)] rfl rfl rfl rfl (by kernel_rfl) (by simp [Agree, ASt.fr]) (fun u hu => CloneRI_ok g.regs (by omega) 0 u (hu ((0, 0), .dead) (by simp))) ?_
  refine DOps.sim ?_
  refine DOps.call (.im (.sl (g.ands.map nd))) [] [] rfl rfl rfl rfl (by kernel_rfl) (by simp [Agree]) (fun u hu => CloneN_ok g.ands (by omega) u) ?_
  refine DOps.sim ?_
  refine DOps.call (.im (.sl (ints g.outs))) [] [] rfl rfl rfl rfl (by kernel_rfl) (by simp [Agree]) (fun u hu => CloneL_ok g.outs (by omega) u) ?_
  refine DOps.sim ?_
  refine DOps.nil (by rfl) (hK _ ?_); clear hK K
  refine End.kp [2] ?_
  refine Run.resI 0 hQ hk ?_
  exact ⟨rfl, rfl⟩
end Go.Proofs.YtdgpmopcmacicaaPi

/- The walk of Maker.Graph with registers. -/
set_option linter.unusedVariables false
set_option linter.unusedSimpArgs false
set_option maxRecDepth 100000
namespace Go.Proofs.YtdgpmopcmacicaaPi
set_option maxHeartbeats 4000000
/-- The registers, the first i of which take their next literals. -/
def regsN (R0 : List LReg) (next : List Int) (i : Nat) : List LReg := (List.range R0.length).map fun k => ⟨(R0.map LReg.name).getD k ByteArray.empty, if k < i then next.getD k 0 else (R0.map LReg.next).getD k 0, (R0.map LReg.init).getD k false⟩
theorem regsN_len (R0 : List LReg) (next : List Int) (i : Nat) : (regsN R0 next i).length = R0.length := by simp [regsN]
theorem regsN_get (R0 : List LReg) (next : List Int) (i k : Nat) (r : LReg) (h : R0[k]? = some r) : (regsN R0 next i)[k]? = some ⟨r.name, if k < i then next.getD k 0 else r.next, r.init⟩ := by
  obtain ⟨hk, he⟩ := List.getElem?_eq_some_iff.1 h
  subst he
  simp [regsN, hk, List.getD_eq_getElem?_getD]
theorem regsN_zero (R0 : List LReg) (next : List Int) : regsN R0 next 0 = R0 := by
  refine List.ext_getElem? fun k => ?_
  by_cases h : k < R0.length
  · rw [regsN_get R0 next 0 k R0[k] (List.getElem?_eq_getElem h), List.getElem?_eq_getElem h]
    simp
  · rw [List.getElem?_eq_none (by rw [regsN_len]; omega), List.getElem?_eq_none (by omega)]
theorem regsN_set (R0 : List LReg) (next : List Int) (i : Nat) (r : LReg) (x : Int) (h : R0[i]? = some r) (hx : next[i]? = some x) : (regsN R0 next i).set i ⟨r.name, x, r.init⟩ = regsN R0 next (i + 1) := by
  refine List.ext_getElem? fun k => ?_
  have hi := (List.getElem?_eq_some_iff.1 h).1
  rw [List.getElem?_set, regsN_len]
  by_cases e : i = k
  · subst e
    rw [if_pos rfl, if_pos hi, regsN_get R0 next (i + 1) i r h]
    simp [List.getD_eq_getElem?_getD, hx]
  · rw [if_neg e]
    by_cases hk : k < R0.length
    · rw [regsN_get R0 next i k R0[k] (List.getElem?_eq_getElem hk), regsN_get R0 next (i + 1) k R0[k] (List.getElem?_eq_getElem hk)]
      by_cases h2 : k < i
      · rw [if_pos h2, if_pos (by omega)]
      · rw [if_neg h2, if_neg (by omega)]
    · rw [List.getElem?_eq_none (by rw [regsN_len]; omega), List.getElem?_eq_none (by rw [regsN_len]; omega)]
theorem mGraphR_ok (g : LGraph) (hs : GSmall g) (next : List Int) (hn : next.length = g.regs.length) (hg : GraphOk (⟨g.inn, g.out, regsN g.regs next g.regs.length, g.ands, g.outs⟩ : LGraph)) (up : Frs) (d j q : Nat) (hk : fget up d j = some (.box [.im (.sl (strs g.inn)), .im (.sl (g.regs.map LReg.im)), .im (.sl (g.ands.map nd)), .map 0 q, .i 0])) : ACalls Try.prog 24 [.ptr d j 0, .im (.sl (strs g.out)), .im (.sl (ints g.outs)), .im (.sl (ints next))] up fun v u => v = .tup [(⟨g.inn, g.out, regsN g.regs next g.regs.length, g.ands, g.outs⟩ : LGraph).pv, .i 0] ∧ u = up := by
  obtain ⟨z1, z2, z3, z4, z5⟩ := hs
  have dR : ((next.length : Int) != g.regs.length) = false := by rw [hn]; simp
  refine ACalls.code Try.func24 rfl 70 rfl (by simp) [.cell 8 33, .tmp 9] rfl fun Q hQ => ?_
  simp only [ups, PV.up, argEnv]
  have ft := And.intro ty_2 (And.intro ty_3 (And.intro ty_4 (And.intro ty_9 (And.intro ty_27 (And.intro ty_29 (And.intro ty_30 (And.intro ty_31 (And.intro ty_33 (And.intro ty_34 (And.intro ty_37 (And.intro ty_39 (And.intro ty_47 (And.intro ty_48 (And.intro ty_140 trivial))))))))))))))
  refine Run.seq ?_
  have fx := And.intro dR (And.intro ints_len (And.intro rim_len (And.intro hk ft)))
  refine Run.go ?_
  refine End.kp [0, 1, 2, 3, 8] ?_
  refine Run.seq ?_
  refine Run.seq ?_
  refine Run.go ?_
  refine End.kp [0, 1, 2, 3, 8, 18] ?_
  refine Run.cond _ rfl (fun hb => ?_) (fun hb => ?_)
  · have hb0 := hb
    simp at hb
  · have hb0 := hb
    refine Run.skip ?_
    refine End.kp [0, 1, 2, 3, 8] ?_
    refine Run.seq ?_
    refine Run.seq ?_
    have fx := And.intro dR (And.intro ints_len (And.intro rim_len (And.intro hk ft)))
    refine Run.go ?_
    refine End.kp [0, 1, 2, 3, 8, 31] ?_
    refine Run.cond _ rfl (fun hb => ?_) (fun hb => ?_)
    · have hb0 := hb
      simp at hb
    · have hb0 := hb
      refine Run.skip ?_
      refine End.kp [0, 1, 2, 3, 8] ?_
      refine Run.seq ?_
      have fx := And.intro dR (And.intro ints_len (And.intro rim_len (And.intro hk ft)))
      refine Run.ghost (.spares 2) ?_
      simp only [ASt.pushN, ASt.push, List.append_assoc, List.cons_append, List.nil_append]
      refine Run.drawA fun K hK => ?_
      refine DOps.sim ?_
      refine DOps.call (.agg [.im (.sl (strs g.inn)), .im (.sl (strs g.out)), .ms 0 1 g.regs.length, .im (.sl (g.ands.map nd)), .im (.sl (ints g.outs))]) [((0, 1), .dead)] [((0, 1), .row 47 3 (g.regs.map LReg.im) 0)] rfl rfl rfl rfl (by kernel_rfl) (by simp [Agree, ASt.fr]) (fun u hu => CopyRI_ok g ⟨z1, z2, z3, z4, z5⟩ 1 u (hu ((0, 1), .dead) (by simp))) ?_
      refine DOps.sim ?_
      refine DOps.nil (by rfl) (hK _ ?_); clear hK K
      refine End.kp [3, 8, 10] ?_
      refine Run.seq ?_
      refine Run.seq ?_
      have fx := And.intro dR (And.intro ints_len (And.intro rim_len (And.intro hk ft)))
      refine Run.go ?_
      refine End.kp [8, 10, 49, 50, 51] ?_
      refine Run.block ?_
      refine Run.ghost (Ghost.form [(8, .ptr 0 0 0), (10, .ptr 0 2 0), (49, .im (.sl (ints next))), (50, .i next.length), (51, .i (0 : Nat))] 3 ⟨rfl, rfl, rfl, rfl, rfl, trivial⟩ rfl rfl) ?_
      refine Run.loop (fun m s => ∃ i : Nat, m = next.length - i ∧ i ≤ next.length ∧ s = ⟨[(8, .ptr 0 0 0), (10, .ptr 0 2 0), (49, .im (.sl (ints next))), (50, .i next.length), (51, .i (i : Nat))], [.box [.nils, .nils, .nils, .nils, .nils], .row 47 3 ((regsN g.regs next (i)).map LReg.im) 0, .box [.im (.sl (strs g.inn)), .im (.sl (strs g.out)), .ms 0 1 g.regs.length, .im (.sl (g.ands.map nd)), .im (.sl (ints g.outs))]], up⟩) next.length ⟨0, rfl, by omega, by rw [regsN_zero]; rfl⟩ fun m s hI => ?_
      obtain ⟨i, rfl, hi, rfl⟩ := hI
      refine Run.seq ?_
      have fx := And.intro dR (And.intro ints_len (And.intro rim_len (And.intro hk ft)))
      refine Run.go ?_
      refine End.kp [8, 10, 49, 50, 51, 52] ?_
      refine Run.seq ?_
      refine Run.cond _ rfl (fun hb => ?_) (fun hb => ?_)
      · have hb3 := of_decide_eq_true hb
        have hin : i < next.length := by omega
        have wi := wsucc hin (by omega)
        obtain ⟨x, hxi, hxm, hx⟩ := int_at next i hin
        obtain ⟨r, hri, hrm, hrr⟩ := reg_at g.regs i (by omega)
        have hil : (i : Int) < (g.regs.length : Int) := by omega
        have hfr : ((regsN g.regs next i).map LReg.im)[i]? = some [.str r.name, .int .i64 r.next, .bool r.init] := by
          rw [List.getElem?_map, regsN_get _ _ _ i r hri, if_neg (by omega)]
          rfl
        have hl0 : ((regsN g.regs next i).map LReg.im).length = g.regs.length := by rw [List.length_map, regsN_len]
        have hset : ((regsN g.regs next i).map LReg.im).set i [.str r.name, .int .i64 x, .bool r.init] = (regsN g.regs next (i + 1)).map LReg.im := by
          rw [← regsN_set g.regs next i r x hri hxi, List.map_set]
        refine Run.skip ?_
        refine End.kp [8, 10, 49, 50, 51] ?_
        refine Run.seq ?_
        refine Run.block ?_
        refine Run.seq ?_
        have fx := And.intro (@Int.toNat_natCast) (And.intro (@Int.natCast_nonneg) (And.intro hl0 (And.intro hfr (And.intro hil (And.intro hx (And.intro wi (And.intro dR (And.intro ints_len (And.intro rim_len (And.intro hk ft))))))))))
        refine Run.go ?_
        refine End.kp [8, 10, 11, 12, 49, 50, 51] ?_
        refine Run.go ?_
        refine End.blk ?_
        refine End.kp [8, 10, 49, 50, 51] ?_
        refine Run.go ?_
        refine End.lp ?_
        refine ⟨next.length - (i + 1), _, by omega, Ghost.form [(8, .ptr 0 0 0), (10, .ptr 0 2 0), (49, .im (.sl (ints next))), (50, .i next.length), (51, .i (i + 1 : Nat))] 3 ⟨rfl, rfl, rfl, rfl, rfl, trivial⟩ rfl rfl, i + 1, rfl, by omega, by rw [← hset]; rfl⟩
      · have hb3 := of_decide_eq_false hb
        have hie : i = g.regs.length := by omega
        subst hie
        refine Run.exit rfl ?_
        refine End.kp [8, 10] ?_
        refine Run.seq ?_
        refine Run.seq ?_
        refine Run.ghost (Ghost.boxShut (j := 2) (i := 2) (r := 1) rfl rfl rfl (by rw [List.length_map, regsN_len])) ?_
        simp only [List.set_cons_succ, List.set_cons_zero]
        have fx := And.intro dR (And.intro ints_len (And.intro rim_len (And.intro hk ft)))
        refine Run.region rfl fun K hK => GOps.sim ?_
        refine GOps.call rfl rfl rfl rfl (by kernel_rfl) (ACalls.sim ?_)
        refine (Check_ok (⟨g.inn, g.out, regsN g.regs next g.regs.length, g.ands, g.outs⟩ : LGraph) hg _).mono fun v u hv => ?_
        obtain ⟨rfl, rfl⟩ := hv
        refine ⟨_, _, rfl, GOps.sim ?_⟩
        refine GOps.done (hK _ ?_); clear hK K
        refine End.kp [8, 10, 13] ?_
        refine Run.seq ?_
        refine Run.go ?_
        refine End.kp [8, 10, 13, 66] ?_
        refine Run.cond _ rfl (fun hb => ?_) (fun hb => ?_)
        · have hb3 := hb
          simp at hb
        · have hb3 := hb
          refine Run.skip ?_
          refine End.kp [8, 10] ?_
          refine Run.seq ?_
          have fx := And.intro dR (And.intro ints_len (And.intro rim_len (And.intro hk ft)))
          refine Run.go ?_
          refine End.kp [8, 9] ?_
          refine Run.resC hQ ?_
          exact ⟨rfl, rfl⟩
end Go.Proofs.YtdgpmopcmacicaaPi

