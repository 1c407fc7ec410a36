/- Part 4 of the proof: the texts WOE, WOF, WOH, PFwd, WOG, PSwp, PSwpB, one behind the other. Each holds for every input that it names; no condition is hidden. -/
import Derived.Test.YtdgpmopcmacicaaDoorM3
import Derived.Test.YtdgpmopcmacicaaDoorM2
import Derived.Test.YtdgpmopcmacicaaDoorPiPop
/- The walk of swap. -/
set_option linter.unusedVariables false
set_option linter.unusedSimpArgs false
set_option maxRecDepth 100000
namespace Go.Proofs.YtdgpmopcmacicaaDoorPi
set_option maxHeartbeats 4000000
abbrev rowR (R : List LReg) : AObj := .row 56 3 (R.map LReg.im) 0
abbrev rowA (A : List (Int × Int)) : AObj := .row 54 2 (A.map nd) 0
abbrev rowO (O : List Int) : AObj := .row 51 1 (ints O) 0
/-- The rows of a graph in a caller's frame. -/
def setG (up : Frs) (k0 k1 k2 : Nat) (R : List LReg) (A : List (Int × Int)) (O : List Int) : Frs := fset (fset (fset up 0 k0 (rowR R)) 0 k1 (rowA A)) 0 k2 (rowO O)
structure GPl (up : Frs) (k0 k1 k2 : Nat) : Prop where
  p0 : ∃ o, fget up 0 k0 = some o
  p1 : ∃ o, fget up 0 k1 = some o
  p2 : ∃ o, fget up 0 k2 = some o
  m01 : k0 ≠ k1
  m02 : k0 ≠ k2
  m12 : k1 ≠ k2
section
variable {up : Frs} {k0 k1 k2 : Nat} {R R' : List LReg} {A A' : List (Int × Int)} {O O' : List Int}
theorem setG_other (j : Nat) (h0 : j ≠ k0) (h1 : j ≠ k1) (h2 : j ≠ k2) : fget (setG up k0 k1 k2 R A O) 0 j = fget up 0 j := by
  rw [setG, fget_fset_ne (by omega), fget_fset_ne (by omega), fget_fset_ne (by omega)]
theorem GPl.get0 (h : GPl up k0 k1 k2) : fget (setG up k0 k1 k2 R A O) 0 k0 = some (rowR R) := by
  obtain ⟨o, ho⟩ := h.p0
  rw [setG, fget_fset_ne (by have := h.m02; omega), fget_fset_ne (by have := h.m01; omega), fget_fset_same _ _ _ _ _ ho]
theorem GPl.get1 (h : GPl up k0 k1 k2) : fget (setG up k0 k1 k2 R A O) 0 k1 = some (rowA A) := by
  obtain ⟨o, ho⟩ := h.p1
  rw [setG, fget_fset_ne (by have := h.m12; omega), fget_fset_same _ _ _ _ o (by rw [fget_fset_ne (by have := h.m01; omega)]; exact ho)]
theorem GPl.get2 (h : GPl up k0 k1 k2) : fget (setG up k0 k1 k2 R A O) 0 k2 = some (rowO O) := by
  obtain ⟨o, ho⟩ := h.p2
  rw [setG, fget_fset_same _ _ _ _ o (by rw [fget_fset_ne (by have := h.m12; omega), fget_fset_ne (by have := h.m02; omega)]; exact ho)]
theorem GPl.set0 (h : GPl up k0 k1 k2) : fset (setG up k0 k1 k2 R A O) 0 k0 (rowR R') = setG up k0 k1 k2 R' A O := by
  have := h.m01
  have := h.m02
  rw [setG, fset_comm _ 0 k2 0 k0 _ _ (by omega), fset_comm _ 0 k1 0 k0 _ _ (by omega), fset_fset]
  rfl
theorem GPl.set1 (h : GPl up k0 k1 k2) : fset (setG up k0 k1 k2 R A O) 0 k1 (rowA A') = setG up k0 k1 k2 R A' O := by
  have := h.m12
  rw [setG, fset_comm _ 0 k2 0 k1 _ _ (by omega), fset_fset]
  rfl
theorem GPl.set2 (h : GPl up k0 k1 k2) : fset (setG up k0 k1 k2 R A O) 0 k2 (rowO O') = setG up k0 k1 k2 R A O' := by
  rw [setG, fset_fset]
  rfl
theorem setG_self (h0 : fget up 0 k0 = some (rowR R)) (h1 : fget up 0 k1 = some (rowA A)) (h2 : fget up 0 k2 = some (rowO O)) : setG up k0 k1 k2 R A O = up := by
  rw [setG, fset_self _ _ _ _ h0, fset_self _ _ _ _ h1, fset_self _ _ _ _ h2]
end
section
variable {α : Type} (f : Nat → α → α) (l : List α)
/-- The first i elements are changed, each by its place. -/
def stpI (i : Nat) : List α := (l.take i).mapIdx f ++ l.drop i
theorem stpI_zero : stpI f l 0 = l := by simp [stpI]
theorem stpI_all : stpI f l l.length = l.mapIdx f := by simp [stpI]
theorem stpI_len (i : Nat) : (stpI f l i).length = l.length := by simp [stpI]; omega
theorem stpI_get (i : Nat) (x : α) (h : l[i]? = some x) : (stpI f l i)[i]? = some x := by
  have hi := (List.getElem?_eq_some_iff.1 h).1
  unfold stpI
  rw [List.getElem?_append_right (by simp; omega)]
  simp only [List.length_mapIdx, List.length_take, List.getElem?_drop]
  rw [show i + (i - min i l.length) = i by omega]
  exact h
theorem stpI_set (i : Nat) (x : α) (h : l[i]? = some x) : (stpI f l i).set i (f i x) = stpI f l (i + 1) := by
  obtain ⟨hi, e⟩ := List.getElem?_eq_some_iff.1 h
  unfold stpI
  have hl : ((l.take i).mapIdx f).length = i := by simp; omega
  rw [List.set_append_right _ _ (by omega), hl, Nat.sub_self, List.drop_eq_getElem_cons hi, List.set_cons_zero, List.take_add_one, h]
  simp [List.mapIdx_append, Nat.min_eq_left (Nat.le_of_lt hi)]
theorem stpI_keep (i : Nat) (x : α) (h : l[i]? = some x) (hf : f i x = x) : stpI f l (i + 1) = stpI f l i := by
  rw [← stpI_set f l i x h, hf]
  have h2 := stpI_get f l i x h
  obtain ⟨hi, e⟩ := List.getElem?_eq_some_iff.1 h2
  have h3 := List.set_getElem_self hi
  rw [e] at h3
  exact h3
end
abbrev swR (node l : Int) (r : LReg) : LReg := { r with next := toS node l r.next }
abbrev swA (node l : Int) (p : Int × Int) : Int × Int := (toS node l p.1, toS node l p.2)
/-- The ands with a literal in the place of a node, but for those that keep it. -/
def swK (keep : Nat → Bool) (node l : Int) (i : Nat) (p : Int × Int) : Int × Int := if keep i then p else swA node l p
theorem isF_ok (i : Nat) (up : Frs) : ACalls Tryd.prog 26 [.i i] up fun v u => v = .im (.bool ((i : Int) == 0)) ∧ u = up := by
  refine ACalls.code Tryd.func26 rfl 5 rfl (by simp) [.tmp 2] rfl fun Q hQ => ?_
  simp only [ups, PV.up, argEnv]
  have ft := And.intro ty_3 (And.intro ty_4 trivial)
  refine Run.seq ?_
  have fx := ft
  refine Run.go ?_
  refine End.kp [0] ?_
  refine Run.seq ?_
  refine Run.go ?_
  refine End.kp [2] ?_
  refine Run.ret (hQ _ _ ⟨.inr rfl, _, rfl, _, rfl, ?_⟩)
  exact ⟨rfl, rfl⟩
theorem swapF_ok (inn out : List ByteArray) (R0 : List LReg) (A0 : List (Int × Int)) (O0 : List Int) (hr : R0.length ≤ 100000) (ha : A0.length ≤ 100000) (ho : O0.length ≤ 100000) (hR : ∀ r ∈ R0, 0 ≤ r.next ∧ r.next ≤ 1000000) (hA : ∀ p ∈ A0, (0 ≤ p.1 ∧ p.1 ≤ 1000000) ∧ 0 ≤ p.2 ∧ p.2 ≤ 1000000) (hO : ∀ x ∈ O0, 0 ≤ x ∧ x ≤ 1000000) (node l : Int) (l0 : 0 ≤ l) (l1 : l ≤ 1000000)
    (up : Frs) (j k0 k1 k2 : Nat) (hj : fget up 0 j = some (.box [.im (.sl (strs inn)), .im (.sl (strs out)), .ms 0 k0 R0.length, .ms 0 k1 A0.length, .ms 0 k2 O0.length])) (h0 : fget up 0 k0 = some (rowR R0)) (h1 : fget up 0 k1 = some (rowA A0)) (h2 : fget up 0 k2 = some (rowO O0)) (n0 : j ≠ k0) (n1 : j ≠ k1) (n2 : j ≠ k2) (m01 : k0 ≠ k1) (m02 : k0 ≠ k2) (m12 : k1 ≠ k2) :
    ACalls Tryd.prog 25 [.ptr 0 j 0, .i node, .i l, .fn 52 []] up fun v u => v = .tup [] ∧ u = setG up k0 k1 k2 (R0.mapIdx fun _ => swR node l) (A0.mapIdx (swK (fun _ => false) node l)) (O0.mapIdx fun _ => toS node l) := by
  have hG : GPl up k0 k1 k2 := ⟨⟨_, h0⟩, ⟨_, h1⟩, ⟨_, h2⟩, m01, m02, m12⟩
  have hself := setG_self h0 h1 h2
  have hjx : ∀ R A O, fget (setG up k0 k1 k2 R A O) 0 j = some (.box [.im (.sl (strs inn)), .im (.sl (strs out)), .ms 0 k0 R0.length, .ms 0 k1 A0.length, .ms 0 k2 O0.length]) := fun R A O => (setG_other j n0 n1 n2).trans hj
  have q0 : ∀ R A O, fget (setG up k0 k1 k2 R A O) 0 k0 = some (.row 56 3 (R.map LReg.im) 0) := fun R A O => hG.get0
  have q1 : ∀ R A O, fget (setG up k0 k1 k2 R A O) 0 k1 = some (.row 54 2 (A.map nd) 0) := fun R A O => hG.get1
  have q2 : ∀ R A O, fget (setG up k0 k1 k2 R A O) 0 k2 = some (.row 51 1 (ints O) 0) := fun R A O => hG.get2
  refine ACalls.code Tryd.func25 rfl 88 rfl (by simp) [] rfl fun Q hQ => ?_
  simp only [ups, PV.up, argEnv]
  have ft := And.intro ty_2 (And.intro ty_3 (And.intro ty_4 (And.intro ty_27 (And.intro ty_28 (And.intro ty_29 (And.intro ty_31 (And.intro ty_51 (And.intro ty_54 (And.intro ty_56 (And.intro ty_65 trivial))))))))))
  refine Run.seq ?_
  have fx := And.intro upN_ms (And.intro q2 (And.intro q1 (And.intro q0 (And.intro hjx (And.intro hj ft)))))
  refine Run.go ?_
  refine End.kp [0, 3, 5, 6] ?_
  refine Run.seq ?_
  refine Run.go ?_
  refine End.kp [0, 3, 8] ?_
  refine Run.seq ?_
  refine Run.seq ?_
  refine Run.go ?_
  refine End.kp [0, 3, 8, 19, 20, 21] ?_
  refine Run.block ?_
  refine Run.ghost (Ghost.form [(0, .ptr 1 j 0), (3, .fn 52 []), (8, .fn 51 [.ptr 0 0 0, .ptr 0 1 0]), (19, .ms 1 k1 A0.length), (20, .i A0.length), (21, .i (0 : Nat))] 2 ⟨rfl, rfl, rfl, rfl, rfl, rfl, trivial⟩ rfl rfl) ?_
  refine Run.loop (fun m st => ∃ (i : Nat), m = A0.length - i ∧ i ≤ A0.length ∧ st = ⟨[(0, .ptr 1 j 0), (3, .fn 52 []), (8, .fn 51 [.ptr 0 0 0, .ptr 0 1 0]), (19, .ms 1 k1 A0.length), (20, .i A0.length), (21, .i (i : Nat))], [.box [.i node], .box [.i l]], setG up k0 k1 k2 (stpI (fun _ => swR node l) R0 0) (stpI (swK (fun _ => false) node l) A0 i) (stpI (fun _ => toS node l) O0 0)⟩) A0.length ⟨0, rfl, by omega, by rw [stpI_zero, stpI_zero, stpI_zero, hself]; rfl⟩ fun m st hI => ?_
  obtain ⟨i, rfl, hi, rfl⟩ := hI
  have hal : ((stpI (swK (fun _ => false) node l) A0 i).map nd).length = A0.length := by rw [nd_len, stpI_len]
  refine Run.seq ?_
  have fx := And.intro hal (And.intro upN_ms (And.intro q2 (And.intro q1 (And.intro q0 (And.intro hjx (And.intro hj ft))))))
  refine Run.go ?_
  refine End.kp [0, 3, 8, 19, 20, 21, 22] ?_
  refine Run.seq ?_
  refine Run.cond _ rfl (fun hb => ?_) (fun hb => ?_)
  · have hb2 := of_decide_eq_true hb
    have hin : i < A0.length := by omega
    have hil : (i : Int) < (A0.length : Int) := by omega
    have wi := wsucc hin (by omega)
    obtain ⟨p, hp, hpm, hgt⟩ := node_at A0 i hin
    obtain ⟨⟨x1, x2⟩, x3, x4⟩ := hA p hpm
    have hpi := stpI_get (swK (fun _ => false) node l) A0 i p hp
    have hps := stpI_set (swK (fun _ => false) node l) A0 i p hp
    have hgi : ((stpI (swK (fun _ => false) node l) A0 i).map nd)[i]? = some [.int .i64 p.1, .int .i64 p.2] := by rw [List.getElem?_map, hpi]; rfl
    refine Run.skip ?_
    refine End.kp [0, 3, 8, 19, 20, 21] ?_
    refine Run.seq ?_
    refine Run.block ?_
    refine Run.seq ?_
    have fx := And.intro (@Int.toNat_natCast) (And.intro (@Int.natCast_nonneg) (And.intro hil (And.intro hgi (And.intro wi (And.intro hal (And.intro upN_ms (And.intro q2 (And.intro q1 (And.intro q0 (And.intro hjx (And.intro hj ft)))))))))))
    refine Run.go ?_
    refine End.kp [0, 3, 8, 9, 10, 19, 20, 21] ?_
    refine Run.seq ?_
    refine Run.region rfl fun K hK => GOps.sim ?_
    refine GOps.call rfl rfl rfl rfl (by kernel_rfl) (ACalls.sim ?_)
    refine (noF_ok i _).mono fun v u hv => ?_
    obtain ⟨rfl, rfl⟩ := hv
    refine ⟨_, _, rfl, GOps.sim ?_⟩
    refine GOps.done (hK _ ?_); clear hK K
    refine End.kp [0, 3, 8, 9, 10, 19, 20, 21, 29] ?_
    refine Run.cond _ rfl (fun hb => ?_) (fun hb => ?_)
    · have hb3 := hb
      have fx := And.intro (@Int.toNat_natCast) (And.intro (@Int.natCast_nonneg) (And.intro hil (And.intro hgi (And.intro wi (And.intro hal (And.intro upN_ms (And.intro q2 (And.intro q1 (And.intro q0 (And.intro hjx (And.intro hj ft)))))))))))
      refine Run.drawA fun K hK => ?_
      refine DOps.sim ?_
      refine DOps.call (.i (toS node l p.1)) [((0, 0), .box [.i node]), ((0, 1), .box [.i l])] [] rfl rfl rfl rfl (by kernel_rfl) (by simp [Agree, ASt.fr]) (fun u hu => swT_ok node l p.1 x1 x2 l0 l1 u 0 1 (hu (((0, 0), .box [.i node])) (by simp)) (hu (((0, 1), .box [.i l])) (by simp))) ?_
      refine DOps.sim ?_
      refine DOps.call (.i (toS node l p.2)) [((0, 0), .box [.i node]), ((0, 1), .box [.i l])] [] rfl rfl rfl rfl (by kernel_rfl) (by simp [Agree, ASt.fr]) (fun u hu => swT_ok node l p.2 x3 x4 l0 l1 u 0 1 (hu (((0, 0), .box [.i node])) (by simp)) (hu (((0, 1), .box [.i l])) (by simp))) ?_
      refine DOps.sim ?_
      refine DOps.nil (by rfl) (hK _ ?_); clear hK K
      refine End.blk ?_
      refine End.kp [0, 3, 8, 19, 20, 21] ?_
      refine Run.go ?_
      refine End.lp ?_
      refine ⟨A0.length - (i + 1), _, by omega, Ghost.form [(0, .ptr 1 j 0), (3, .fn 52 []), (8, .fn 51 [.ptr 0 0 0, .ptr 0 1 0]), (19, .ms 1 k1 A0.length), (20, .i A0.length), (21, .i (i + 1 : Nat))] 2 ⟨rfl, rfl, rfl, rfl, rfl, rfl, trivial⟩ rfl rfl, i + 1, rfl, by omega, ?_⟩
      have hfp : swK (fun _ => false) node l i p = swA node l p := rfl
      have e9 : rowA ((stpI (swK (fun _ => false) node l) A0 i).set i (swA node l p)) = .row 54 2 (((stpI (swK (fun _ => false) node l) A0 i).map nd).set i [.int .i64 (toS node l p.1), .int .i64 (toS node l p.2)]) 0 := by rw [rowA, List.map_set]
      rw [← hps, hfp, ← hG.set1 (A := stpI (swK (fun _ => false) node l) A0 i) (A' := (stpI (swK (fun _ => false) node l) A0 i).set i (swA node l p)), e9]
      rfl
    · have hb3 := hb
      simp at hb
  · have hb2 := of_decide_eq_false hb
    have hiN : i = A0.length := by omega
    subst hiN
    refine Run.exit rfl ?_
    refine End.kp [0, 8] ?_
    refine Run.seq ?_
    refine Run.seq ?_
    have fx := And.intro hal (And.intro upN_ms (And.intro q2 (And.intro q1 (And.intro q0 (And.intro hjx (And.intro hj ft))))))
    refine Run.go ?_
    refine End.kp [0, 8, 49, 50, 51] ?_
    refine Run.block ?_
    refine Run.ghost (Ghost.form [(0, .ptr 1 j 0), (8, .fn 51 [.ptr 0 0 0, .ptr 0 1 0]), (49, .ms 1 k0 R0.length), (50, .i R0.length), (51, .i (0 : Nat))] 2 ⟨rfl, rfl, rfl, rfl, rfl, trivial⟩ rfl rfl) ?_
    refine Run.loop (fun m st => ∃ (i : Nat), m = R0.length - i ∧ i ≤ R0.length ∧ st = ⟨[(0, .ptr 1 j 0), (8, .fn 51 [.ptr 0 0 0, .ptr 0 1 0]), (49, .ms 1 k0 R0.length), (50, .i R0.length), (51, .i (i : Nat))], [.box [.i node], .box [.i l]], setG up k0 k1 k2 (stpI (fun _ => swR node l) R0 i) (stpI (swK (fun _ => false) node l) A0 A0.length) (stpI (fun _ => toS node l) O0 0)⟩) R0.length ⟨0, rfl, by omega, rfl⟩ fun m st hI => ?_
    obtain ⟨i, rfl, hi, rfl⟩ := hI
    have hrl : ((stpI (fun _ => swR node l) R0 i).map LReg.im).length = R0.length := by rw [rim_len, stpI_len]
    refine Run.seq ?_
    have fx := And.intro hrl (And.intro hal (And.intro upN_ms (And.intro q2 (And.intro q1 (And.intro q0 (And.intro hjx (And.intro hj ft)))))))
    refine Run.go ?_
    refine End.kp [0, 8, 49, 50, 51, 52] ?_
    refine Run.seq ?_
    refine Run.cond _ rfl (fun hb => ?_) (fun hb => ?_)
    · have hb2 := of_decide_eq_true hb
      have hin : i < R0.length := by omega
      have hil : (i : Int) < (R0.length : Int) := by omega
      have wi := wsucc hin (by omega)
      obtain ⟨s, hs, hsm2, hgt⟩ := reg_at R0 i hin
      obtain ⟨x1, x2⟩ := hR s hsm2
      have hsi := stpI_get (fun _ => swR node l) R0 i s hs
      have hss := stpI_set (fun _ => swR node l) R0 i s hs
      have hgi : ((stpI (fun _ => swR node l) R0 i).map LReg.im)[i]? = some [.str s.name, .int .i64 s.next, .bool s.init] := by rw [List.getElem?_map, hsi]; rfl
      refine Run.skip ?_
      refine End.kp [0, 8, 49, 50, 51] ?_
      refine Run.seq ?_
      refine Run.block ?_
      refine Run.seq ?_
      have fx := And.intro (@Int.toNat_natCast) (And.intro (@Int.natCast_nonneg) (And.intro hil (And.intro hgi (And.intro wi (And.intro hrl (And.intro hal (And.intro upN_ms (And.intro q2 (And.intro q1 (And.intro q0 (And.intro hjx (And.intro hj ft))))))))))))
      refine Run.go ?_
      refine End.kp [0, 8, 11, 12, 49, 50, 51] ?_
      refine Run.drawA fun K hK => ?_
      refine DOps.sim ?_
      refine DOps.call (.i (toS node l s.next)) [((0, 0), .box [.i node]), ((0, 1), .box [.i l])] [] rfl rfl rfl rfl (by kernel_rfl) (by simp [Agree, ASt.fr]) (fun u hu => swT_ok node l s.next x1 x2 l0 l1 u 0 1 (hu (((0, 0), .box [.i node])) (by simp)) (hu (((0, 1), .box [.i l])) (by simp))) ?_
      refine DOps.sim ?_
      refine DOps.nil (by rfl) (hK _ ?_); clear hK K
      refine End.blk ?_
      refine End.kp [0, 8, 49, 50, 51] ?_
      refine Run.go ?_
      refine End.lp ?_
      refine ⟨R0.length - (i + 1), _, by omega, Ghost.form [(0, .ptr 1 j 0), (8, .fn 51 [.ptr 0 0 0, .ptr 0 1 0]), (49, .ms 1 k0 R0.length), (50, .i R0.length), (51, .i (i + 1 : Nat))] 2 ⟨rfl, rfl, rfl, rfl, rfl, trivial⟩ rfl rfl, i + 1, rfl, by omega, ?_⟩
      have e9 : rowR ((stpI (fun _ => swR node l) R0 i).set i (swR node l s)) = .row 56 3 (((stpI (fun _ => swR node l) R0 i).map LReg.im).set i [.str s.name, .int .i64 (toS node l s.next), .bool s.init]) 0 := by rw [rowR, List.map_set]
      rw [← hss, ← hG.set0 (R := stpI (fun _ => swR node l) R0 i) (R' := (stpI (fun _ => swR node l) R0 i).set i (swR node l s)), e9]
      rfl
    · have hb2 := of_decide_eq_false hb
      have hiN : i = R0.length := by omega
      subst hiN
      refine Run.exit rfl ?_
      refine End.kp [0, 8] ?_
      refine Run.seq ?_
      have fx := And.intro hrl (And.intro hal (And.intro upN_ms (And.intro q2 (And.intro q1 (And.intro q0 (And.intro hjx (And.intro hj ft)))))))
      refine Run.go ?_
      refine End.kp [0, 8, 71, 72, 73] ?_
      refine Run.block ?_
      refine Run.ghost (Ghost.form [(0, .ptr 1 j 0), (8, .fn 51 [.ptr 0 0 0, .ptr 0 1 0]), (71, .ms 1 k2 O0.length), (72, .i O0.length), (73, .i (0 : Nat))] 2 ⟨rfl, rfl, rfl, rfl, rfl, trivial⟩ rfl rfl) ?_
      refine Run.loop (fun m st => ∃ (i : Nat), m = O0.length - i ∧ i ≤ O0.length ∧ st = ⟨[(0, .ptr 1 j 0), (8, .fn 51 [.ptr 0 0 0, .ptr 0 1 0]), (71, .ms 1 k2 O0.length), (72, .i O0.length), (73, .i (i : Nat))], [.box [.i node], .box [.i l]], setG up k0 k1 k2 (stpI (fun _ => swR node l) R0 R0.length) (stpI (swK (fun _ => false) node l) A0 A0.length) (stpI (fun _ => toS node l) O0 i)⟩) O0.length ⟨0, rfl, by omega, rfl⟩ fun m st hI => ?_
      obtain ⟨i, rfl, hi, rfl⟩ := hI
      have hol : (ints (stpI (fun _ => toS node l) O0 i)).length = O0.length := by rw [ints_len, stpI_len]
      refine Run.seq ?_
      have fx := And.intro hol (And.intro hrl (And.intro hal (And.intro upN_ms (And.intro q2 (And.intro q1 (And.intro q0 (And.intro hjx (And.intro hj ft))))))))
      refine Run.go ?_
      refine End.kp [0, 8, 71, 72, 73, 74] ?_
      refine Run.seq ?_
      refine Run.cond _ rfl (fun hb => ?_) (fun hb => ?_)
      · have hb2 := of_decide_eq_true hb
        have hin : i < O0.length := by omega
        have hil : (i : Int) < (O0.length : Int) := by omega
        have wi := wsucc hin (by omega)
        obtain ⟨x, hxi, hxm, hx⟩ := int_at O0 i hin
        obtain ⟨x1, x2⟩ := hO x hxm
        have hxi2 := stpI_get (fun _ => toS node l) O0 i x hxi
        have hxs := stpI_set (fun _ => toS node l) O0 i x hxi
        have hsx : ints ((stpI (fun _ => toS node l) O0 i).set i (toS node l x)) = (ints (stpI (fun _ => toS node l) O0 i)).set i [.int .i64 (toS node l x)] := by simp [ints, List.map_set]
        have hgi : (ints (stpI (fun _ => toS node l) O0 i))[i]? = some [.int .i64 x] := by rw [List.getElem?_map, hxi2]; rfl
        refine Run.skip ?_
        refine End.kp [0, 8, 71, 72, 73] ?_
        refine Run.seq ?_
        refine Run.block ?_
        refine Run.seq ?_
        have fx := And.intro (@Int.toNat_natCast) (And.intro (@Int.natCast_nonneg) (And.intro hil (And.intro hgi (And.intro wi (And.intro hol (And.intro hrl (And.intro hal (And.intro upN_ms (And.intro q2 (And.intro q1 (And.intro q0 (And.intro hjx (And.intro hj ft)))))))))))))
        refine Run.go ?_
        refine End.kp [0, 8, 13, 14, 71, 72, 73] ?_
        refine Run.drawA fun K hK => ?_
        refine DOps.sim ?_
        refine DOps.call (.i (toS node l x)) [((0, 0), .box [.i node]), ((0, 1), .box [.i l])] [] rfl rfl rfl rfl (by kernel_rfl) (by simp [Agree, ASt.fr]) (fun u hu => swT_ok node l x x1 x2 l0 l1 u 0 1 (hu (((0, 0), .box [.i node])) (by simp)) (hu (((0, 1), .box [.i l])) (by simp))) ?_
        refine DOps.sim ?_
        refine DOps.nil (by rfl) (hK _ ?_); clear hK K
        refine End.blk ?_
        refine End.kp [0, 8, 71, 72, 73] ?_
        refine Run.go ?_
        refine End.lp ?_
        refine ⟨O0.length - (i + 1), _, by omega, Ghost.form [(0, .ptr 1 j 0), (8, .fn 51 [.ptr 0 0 0, .ptr 0 1 0]), (71, .ms 1 k2 O0.length), (72, .i O0.length), (73, .i (i + 1 : Nat))] 2 ⟨rfl, rfl, rfl, rfl, rfl, trivial⟩ rfl rfl, i + 1, rfl, by omega, ?_⟩
        rw [← hxs, ← hG.set2 (O := stpI (fun _ => toS node l) O0 i) (O' := (stpI (fun _ => toS node l) O0 i).set i (toS node l x)), rowO, hsx]
        rfl
      · have hb2 := of_decide_eq_false hb
        have hiN : i = O0.length := by omega
        subst hiN
        refine Run.exit rfl ?_
        refine End.all (hQ _ _ ⟨.inl rfl, _, rfl, _, rfl, ?_⟩)
        exact ⟨rfl, by rw [stpI_all, stpI_all, stpI_all]⟩
theorem swapB_ok (inn out : List ByteArray) (R0 : List LReg) (A0 : List (Int × Int)) (O0 : List Int) (hr : R0.length ≤ 100000) (ha : A0.length ≤ 100000) (ho : O0.length ≤ 100000) (hR : ∀ r ∈ R0, 0 ≤ r.next ∧ r.next ≤ 1000000) (hA : ∀ p ∈ A0, (0 ≤ p.1 ∧ p.1 ≤ 1000000) ∧ 0 ≤ p.2 ∧ p.2 ≤ 1000000) (hO : ∀ x ∈ O0, 0 ≤ x ∧ x ≤ 1000000) (node l : Int) (l0 : 0 ≤ l) (l1 : l ≤ 1000000)
    (up : Frs) (j k0 k1 k2 : Nat) (hj : fget up 0 j = some (.box [.im (.sl (strs inn)), .im (.sl (strs out)), .ms 0 k0 R0.length, .ms 0 k1 A0.length, .ms 0 k2 O0.length])) (h0 : fget up 0 k0 = some (rowR R0)) (h1 : fget up 0 k1 = some (rowA A0)) (h2 : fget up 0 k2 = some (rowO O0)) (n0 : j ≠ k0) (n1 : j ≠ k1) (n2 : j ≠ k2) (m01 : k0 ≠ k1) (m02 : k0 ≠ k2) (m12 : k1 ≠ k2) :
    ACalls Tryd.prog 25 [.ptr 0 j 0, .i node, .i l, .fn 26 []] up fun v u => v = .tup [] ∧ u = setG up k0 k1 k2 (R0.mapIdx fun _ => swR node l) (A0.mapIdx (swK (fun i => (i : Int) == 0) node l)) (O0.mapIdx fun _ => toS node l) := by
  have hG : GPl up k0 k1 k2 := ⟨⟨_, h0⟩, ⟨_, h1⟩, ⟨_, h2⟩, m01, m02, m12⟩
  have hself := setG_self h0 h1 h2
  have hjx : ∀ R A O, fget (setG up k0 k1 k2 R A O) 0 j = some (.box [.im (.sl (strs inn)), .im (.sl (strs out)), .ms 0 k0 R0.length, .ms 0 k1 A0.length, .ms 0 k2 O0.length]) := fun R A O => (setG_other j n0 n1 n2).trans hj
  have q0 : ∀ R A O, fget (setG up k0 k1 k2 R A O) 0 k0 = some (.row 56 3 (R.map LReg.im) 0) := fun R A O => hG.get0
  have q1 : ∀ R A O, fget (setG up k0 k1 k2 R A O) 0 k1 = some (.row 54 2 (A.map nd) 0) := fun R A O => hG.get1
  have q2 : ∀ R A O, fget (setG up k0 k1 k2 R A O) 0 k2 = some (.row 51 1 (ints O) 0) := fun R A O => hG.get2
  refine ACalls.code Tryd.func25 rfl 88 rfl (by simp) [] rfl fun Q hQ => ?_
  simp only [ups, PV.up, argEnv]
  have ft := And.intro ty_2 (And.intro ty_3 (And.intro ty_4 (And.intro ty_27 (And.intro ty_28 (And.intro ty_29 (And.intro ty_31 (And.intro ty_51 (And.intro ty_54 (And.intro ty_56 (And.intro ty_65 trivial))))))))))
  refine Run.seq ?_
  have fx := And.intro upN_ms (And.intro q2 (And.intro q1 (And.intro q0 (And.intro hjx (And.intro hj ft)))))
  refine Run.go ?_
  refine End.kp [0, 3, 5, 6] ?_
  refine Run.seq ?_
  refine Run.go ?_
  refine End.kp [0, 3, 8] ?_
  refine Run.seq ?_
  refine Run.seq ?_
  refine Run.go ?_
  refine End.kp [0, 3, 8, 19, 20, 21] ?_
  refine Run.block ?_
  refine Run.ghost (Ghost.form [(0, .ptr 1 j 0), (3, .fn 26 []), (8, .fn 51 [.ptr 0 0 0, .ptr 0 1 0]), (19, .ms 1 k1 A0.length), (20, .i A0.length), (21, .i (0 : Nat))] 2 ⟨rfl, rfl, rfl, rfl, rfl, rfl, trivial⟩ rfl rfl) ?_
  refine Run.loop (fun m st => ∃ (i : Nat), m = A0.length - i ∧ i ≤ A0.length ∧ st = ⟨[(0, .ptr 1 j 0), (3, .fn 26 []), (8, .fn 51 [.ptr 0 0 0, .ptr 0 1 0]), (19, .ms 1 k1 A0.length), (20, .i A0.length), (21, .i (i : Nat))], [.box [.i node], .box [.i l]], setG up k0 k1 k2 (stpI (fun _ => swR node l) R0 0) (stpI (swK (fun i => (i : Int) == 0) node l) A0 i) (stpI (fun _ => toS node l) O0 0)⟩) A0.length ⟨0, rfl, by omega, by rw [stpI_zero, stpI_zero, stpI_zero, hself]; rfl⟩ fun m st hI => ?_
  obtain ⟨i, rfl, hi, rfl⟩ := hI
  have hal : ((stpI (swK (fun i => (i : Int) == 0) node l) A0 i).map nd).length = A0.length := by rw [nd_len, stpI_len]
  refine Run.seq ?_
  have fx := And.intro hal (And.intro upN_ms (And.intro q2 (And.intro q1 (And.intro q0 (And.intro hjx (And.intro hj ft))))))
  refine Run.go ?_
  refine End.kp [0, 3, 8, 19, 20, 21, 22] ?_
  refine Run.seq ?_
  refine Run.cond _ rfl (fun hb => ?_) (fun hb => ?_)
  · have hb2 := of_decide_eq_true hb
    have hin : i < A0.length := by omega
    have hil : (i : Int) < (A0.length : Int) := by omega
    have wi := wsucc hin (by omega)
    obtain ⟨p, hp, hpm, hgt⟩ := node_at A0 i hin
    obtain ⟨⟨x1, x2⟩, x3, x4⟩ := hA p hpm
    have hpi := stpI_get (swK (fun i => (i : Int) == 0) node l) A0 i p hp
    have hps := stpI_set (swK (fun i => (i : Int) == 0) node l) A0 i p hp
    have hgi : ((stpI (swK (fun i => (i : Int) == 0) node l) A0 i).map nd)[i]? = some [.int .i64 p.1, .int .i64 p.2] := by rw [List.getElem?_map, hpi]; rfl
    refine Run.skip ?_
    refine End.kp [0, 3, 8, 19, 20, 21] ?_
    refine Run.seq ?_
    refine Run.block ?_
    refine Run.seq ?_
    have fx := And.intro (@Int.toNat_natCast) (And.intro (@Int.natCast_nonneg) (And.intro hil (And.intro hgi (And.intro wi (And.intro hal (And.intro upN_ms (And.intro q2 (And.intro q1 (And.intro q0 (And.intro hjx (And.intro hj ft)))))))))))
    refine Run.go ?_
    refine End.kp [0, 3, 8, 9, 10, 19, 20, 21] ?_
    refine Run.seq ?_
    refine Run.region rfl fun K hK => GOps.sim ?_
    refine GOps.call rfl rfl rfl rfl (by kernel_rfl) (ACalls.sim ?_)
    refine (isF_ok i _).mono fun v u hv => ?_
    obtain ⟨rfl, rfl⟩ := hv
    refine ⟨_, _, rfl, GOps.sim ?_⟩
    refine GOps.done (hK _ ?_); clear hK K
    refine End.kp [0, 3, 8, 9, 10, 19, 20, 21, 29] ?_
    refine Run.cond _ rfl (fun hb => ?_) (fun hb => ?_)
    · have hb3 : ((i : Int) == 0) = false := by simpa using hb
      have fx := And.intro (@Int.toNat_natCast) (And.intro (@Int.natCast_nonneg) (And.intro hil (And.intro hgi (And.intro wi (And.intro hal (And.intro upN_ms (And.intro q2 (And.intro q1 (And.intro q0 (And.intro hjx (And.intro hj ft)))))))))))
      refine Run.drawA fun K hK => ?_
      refine DOps.sim ?_
      refine DOps.call (.i (toS node l p.1)) [((0, 0), .box [.i node]), ((0, 1), .box [.i l])] [] rfl rfl rfl rfl (by kernel_rfl) (by simp [Agree, ASt.fr]) (fun u hu => swT_ok node l p.1 x1 x2 l0 l1 u 0 1 (hu (((0, 0), .box [.i node])) (by simp)) (hu (((0, 1), .box [.i l])) (by simp))) ?_
      refine DOps.sim ?_
      refine DOps.call (.i (toS node l p.2)) [((0, 0), .box [.i node]), ((0, 1), .box [.i l])] [] rfl rfl rfl rfl (by kernel_rfl) (by simp [Agree, ASt.fr]) (fun u hu => swT_ok node l p.2 x3 x4 l0 l1 u 0 1 (hu (((0, 0), .box [.i node])) (by simp)) (hu (((0, 1), .box [.i l])) (by simp))) ?_
      refine DOps.sim ?_
      refine DOps.nil (by rfl) (hK _ ?_); clear hK K
      refine End.blk ?_
      refine End.kp [0, 3, 8, 19, 20, 21] ?_
      refine Run.go ?_
      refine End.lp ?_
      refine ⟨A0.length - (i + 1), _, by omega, Ghost.form [(0, .ptr 1 j 0), (3, .fn 26 []), (8, .fn 51 [.ptr 0 0 0, .ptr 0 1 0]), (19, .ms 1 k1 A0.length), (20, .i A0.length), (21, .i (i + 1 : Nat))] 2 ⟨rfl, rfl, rfl, rfl, rfl, rfl, trivial⟩ rfl rfl, i + 1, rfl, by omega, ?_⟩
      have hfp : swK (fun i => (i : Int) == 0) node l i p = swA node l p := by simp only [swK, hb3]; rfl
      have e9 : rowA ((stpI (swK (fun i => (i : Int) == 0) node l) A0 i).set i (swA node l p)) = .row 54 2 (((stpI (swK (fun i => (i : Int) == 0) node l) A0 i).map nd).set i [.int .i64 (toS node l p.1), .int .i64 (toS node l p.2)]) 0 := by rw [rowA, List.map_set]
      rw [← hps, hfp, ← hG.set1 (A := stpI (swK (fun i => (i : Int) == 0) node l) A0 i) (A' := (stpI (swK (fun i => (i : Int) == 0) node l) A0 i).set i (swA node l p)), e9]
      rfl
    · have hb3 : ((i : Int) == 0) = true := by simpa using hb
      refine Run.skip ?_
      refine End.blk ?_
      refine End.kp [0, 3, 8, 19, 20, 21] ?_
      have fx := And.intro (@Int.toNat_natCast) (And.intro (@Int.natCast_nonneg) (And.intro hil (And.intro hgi (And.intro wi (And.intro hal (And.intro upN_ms (And.intro q2 (And.intro q1 (And.intro q0 (And.intro hjx (And.intro hj ft)))))))))))
      refine Run.go ?_
      refine End.lp ?_
      refine ⟨A0.length - (i + 1), _, by omega, Ghost.form [(0, .ptr 1 j 0), (3, .fn 26 []), (8, .fn 51 [.ptr 0 0 0, .ptr 0 1 0]), (19, .ms 1 k1 A0.length), (20, .i A0.length), (21, .i (i + 1 : Nat))] 2 ⟨rfl, rfl, rfl, rfl, rfl, rfl, trivial⟩ rfl rfl, i + 1, rfl, by omega, ?_⟩
      have hfp : swK (fun i => (i : Int) == 0) node l i p = p := by simp only [swK, hb3, if_true]
      rw [stpI_keep _ A0 i p hp hfp]
      rfl
  · have hb2 := of_decide_eq_false hb
    have hiN : i = A0.length := by omega
    subst hiN
    refine Run.exit rfl ?_
    refine End.kp [0, 8] ?_
    refine Run.seq ?_
    refine Run.seq ?_
    have fx := And.intro hal (And.intro upN_ms (And.intro q2 (And.intro q1 (And.intro q0 (And.intro hjx (And.intro hj ft))))))
    refine Run.go ?_
    refine End.kp [0, 8, 49, 50, 51] ?_
    refine Run.block ?_
    refine Run.ghost (Ghost.form [(0, .ptr 1 j 0), (8, .fn 51 [.ptr 0 0 0, .ptr 0 1 0]), (49, .ms 1 k0 R0.length), (50, .i R0.length), (51, .i (0 : Nat))] 2 ⟨rfl, rfl, rfl, rfl, rfl, trivial⟩ rfl rfl) ?_
    refine Run.loop (fun m st => ∃ (i : Nat), m = R0.length - i ∧ i ≤ R0.length ∧ st = ⟨[(0, .ptr 1 j 0), (8, .fn 51 [.ptr 0 0 0, .ptr 0 1 0]), (49, .ms 1 k0 R0.length), (50, .i R0.length), (51, .i (i : Nat))], [.box [.i node], .box [.i l]], setG up k0 k1 k2 (stpI (fun _ => swR node l) R0 i) (stpI (swK (fun i => (i : Int) == 0) node l) A0 A0.length) (stpI (fun _ => toS node l) O0 0)⟩) R0.length ⟨0, rfl, by omega, rfl⟩ fun m st hI => ?_
    obtain ⟨i, rfl, hi, rfl⟩ := hI
    have hrl : ((stpI (fun _ => swR node l) R0 i).map LReg.im).length = R0.length := by rw [rim_len, stpI_len]
    refine Run.seq ?_
    have fx := And.intro hrl (And.intro hal (And.intro upN_ms (And.intro q2 (And.intro q1 (And.intro q0 (And.intro hjx (And.intro hj ft)))))))
    refine Run.go ?_
    refine End.kp [0, 8, 49, 50, 51, 52] ?_
    refine Run.seq ?_
    refine Run.cond _ rfl (fun hb => ?_) (fun hb => ?_)
    · have hb2 := of_decide_eq_true hb
      have hin : i < R0.length := by omega
      have hil : (i : Int) < (R0.length : Int) := by omega
      have wi := wsucc hin (by omega)
      obtain ⟨s, hs, hsm2, hgt⟩ := reg_at R0 i hin
      obtain ⟨x1, x2⟩ := hR s hsm2
      have hsi := stpI_get (fun _ => swR node l) R0 i s hs
      have hss := stpI_set (fun _ => swR node l) R0 i s hs
      have hgi : ((stpI (fun _ => swR node l) R0 i).map LReg.im)[i]? = some [.str s.name, .int .i64 s.next, .bool s.init] := by rw [List.getElem?_map, hsi]; rfl
      refine Run.skip ?_
      refine End.kp [0, 8, 49, 50, 51] ?_
      refine Run.seq ?_
      refine Run.block ?_
      refine Run.seq ?_
      have fx := And.intro (@Int.toNat_natCast) (And.intro (@Int.natCast_nonneg) (And.intro hil (And.intro hgi (And.intro wi (And.intro hrl (And.intro hal (And.intro upN_ms (And.intro q2 (And.intro q1 (And.intro q0 (And.intro hjx (And.intro hj ft))))))))))))
      refine Run.go ?_
      refine End.kp [0, 8, 11, 12, 49, 50, 51] ?_
      refine Run.drawA fun K hK => ?_
      refine DOps.sim ?_
      refine DOps.call (.i (toS node l s.next)) [((0, 0), .box [.i node]), ((0, 1), .box [.i l])] [] rfl rfl rfl rfl (by kernel_rfl) (by simp [Agree, ASt.fr]) (fun u hu => swT_ok node l s.next x1 x2 l0 l1 u 0 1 (hu (((0, 0), .box [.i node])) (by simp)) (hu (((0, 1), .box [.i l])) (by simp))) ?_
      refine DOps.sim ?_
      refine DOps.nil (by rfl) (hK _ ?_); clear hK K
      refine End.blk ?_
      refine End.kp [0, 8, 49, 50, 51] ?_
      refine Run.go ?_
      refine End.lp ?_
      refine ⟨R0.length - (i + 1), _, by omega, Ghost.form [(0, .ptr 1 j 0), (8, .fn 51 [.ptr 0 0 0, .ptr 0 1 0]), (49, .ms 1 k0 R0.length), (50, .i R0.length), (51, .i (i + 1 : Nat))] 2 ⟨rfl, rfl, rfl, rfl, rfl, trivial⟩ rfl rfl, i + 1, rfl, by omega, ?_⟩
      have e9 : rowR ((stpI (fun _ => swR node l) R0 i).set i (swR node l s)) = .row 56 3 (((stpI (fun _ => swR node l) R0 i).map LReg.im).set i [.str s.name, .int .i64 (toS node l s.next), .bool s.init]) 0 := by rw [rowR, List.map_set]
      rw [← hss, ← hG.set0 (R := stpI (fun _ => swR node l) R0 i) (R' := (stpI (fun _ => swR node l) R0 i).set i (swR node l s)), e9]
      rfl
    · have hb2 := of_decide_eq_false hb
      have hiN : i = R0.length := by omega
      subst hiN
      refine Run.exit rfl ?_
      refine End.kp [0, 8] ?_
      refine Run.seq ?_
      have fx := And.intro hrl (And.intro hal (And.intro upN_ms (And.intro q2 (And.intro q1 (And.intro q0 (And.intro hjx (And.intro hj ft)))))))
      refine Run.go ?_
      refine End.kp [0, 8, 71, 72, 73] ?_
      refine Run.block ?_
      refine Run.ghost (Ghost.form [(0, .ptr 1 j 0), (8, .fn 51 [.ptr 0 0 0, .ptr 0 1 0]), (71, .ms 1 k2 O0.length), (72, .i O0.length), (73, .i (0 : Nat))] 2 ⟨rfl, rfl, rfl, rfl, rfl, trivial⟩ rfl rfl) ?_
      refine Run.loop (fun m st => ∃ (i : Nat), m = O0.length - i ∧ i ≤ O0.length ∧ st = ⟨[(0, .ptr 1 j 0), (8, .fn 51 [.ptr 0 0 0, .ptr 0 1 0]), (71, .ms 1 k2 O0.length), (72, .i O0.length), (73, .i (i : Nat))], [.box [.i node], .box [.i l]], setG up k0 k1 k2 (stpI (fun _ => swR node l) R0 R0.length) (stpI (swK (fun i => (i : Int) == 0) node l) A0 A0.length) (stpI (fun _ => toS node l) O0 i)⟩) O0.length ⟨0, rfl, by omega, rfl⟩ fun m st hI => ?_
      obtain ⟨i, rfl, hi, rfl⟩ := hI
      have hol : (ints (stpI (fun _ => toS node l) O0 i)).length = O0.length := by rw [ints_len, stpI_len]
      refine Run.seq ?_
      have fx := And.intro hol (And.intro hrl (And.intro hal (And.intro upN_ms (And.intro q2 (And.intro q1 (And.intro q0 (And.intro hjx (And.intro hj ft))))))))
      refine Run.go ?_
      refine End.kp [0, 8, 71, 72, 73, 74] ?_
      refine Run.seq ?_
      refine Run.cond _ rfl (fun hb => ?_) (fun hb => ?_)
      · have hb2 := of_decide_eq_true hb
        have hin : i < O0.length := by omega
        have hil : (i : Int) < (O0.length : Int) := by omega
        have wi := wsucc hin (by omega)
        obtain ⟨x, hxi, hxm, hx⟩ := int_at O0 i hin
        obtain ⟨x1, x2⟩ := hO x hxm
        have hxi2 := stpI_get (fun _ => toS node l) O0 i x hxi
        have hxs := stpI_set (fun _ => toS node l) O0 i x hxi
        have hsx : ints ((stpI (fun _ => toS node l) O0 i).set i (toS node l x)) = (ints (stpI (fun _ => toS node l) O0 i)).set i [.int .i64 (toS node l x)] := by simp [ints, List.map_set]
        have hgi : (ints (stpI (fun _ => toS node l) O0 i))[i]? = some [.int .i64 x] := by rw [List.getElem?_map, hxi2]; rfl
        refine Run.skip ?_
        refine End.kp [0, 8, 71, 72, 73] ?_
        refine Run.seq ?_
        refine Run.block ?_
        refine Run.seq ?_
        have fx := And.intro (@Int.toNat_natCast) (And.intro (@Int.natCast_nonneg) (And.intro hil (And.intro hgi (And.intro wi (And.intro hol (And.intro hrl (And.intro hal (And.intro upN_ms (And.intro q2 (And.intro q1 (And.intro q0 (And.intro hjx (And.intro hj ft)))))))))))))
        refine Run.go ?_
        refine End.kp [0, 8, 13, 14, 71, 72, 73] ?_
        refine Run.drawA fun K hK => ?_
        refine DOps.sim ?_
        refine DOps.call (.i (toS node l x)) [((0, 0), .box [.i node]), ((0, 1), .box [.i l])] [] rfl rfl rfl rfl (by kernel_rfl) (by simp [Agree, ASt.fr]) (fun u hu => swT_ok node l x x1 x2 l0 l1 u 0 1 (hu (((0, 0), .box [.i node])) (by simp)) (hu (((0, 1), .box [.i l])) (by simp))) ?_
        refine DOps.sim ?_
        refine DOps.nil (by rfl) (hK _ ?_); clear hK K
        refine End.blk ?_
        refine End.kp [0, 8, 71, 72, 73] ?_
        refine Run.go ?_
        refine End.lp ?_
        refine ⟨O0.length - (i + 1), _, by omega, Ghost.form [(0, .ptr 1 j 0), (8, .fn 51 [.ptr 0 0 0, .ptr 0 1 0]), (71, .ms 1 k2 O0.length), (72, .i O0.length), (73, .i (i + 1 : Nat))] 2 ⟨rfl, rfl, rfl, rfl, rfl, trivial⟩ rfl rfl, i + 1, rfl, by omega, ?_⟩
        rw [← hxs, ← hG.set2 (O := stpI (fun _ => toS node l) O0 i) (O' := (stpI (fun _ => toS node l) O0 i).set i (toS node l x)), rowO, hsx]
        rfl
      · have hb2 := of_decide_eq_false hb
        have hiN : i = O0.length := by omega
        subst hiN
        refine Run.exit rfl ?_
        refine End.all (hQ _ _ ⟨.inl rfl, _, rfl, _, rfl, ?_⟩)
        exact ⟨rfl, by rw [stpI_all, stpI_all, stpI_all]⟩
end Go.Proofs.YtdgpmopcmacicaaDoorPi

/- The walk of forward. -/
set_option linter.unusedVariables false
set_option linter.unusedSimpArgs false
set_option maxRecDepth 100000
namespace Go.Proofs.YtdgpmopcmacicaaDoorPi
set_option maxHeartbeats 4000000
theorem mapIdx_const {α β : Type} (f : α → β) (l : List α) : (l.mapIdx fun _ => f) = l.map f := by
  refine List.ext_getElem? fun i => ?_
  simp
theorem insG_regs (g : LGraph) (r : LReg) : (insG g r).regs.length = g.regs.length + 1 := by simp [insG]
theorem insG_ands (g : LGraph) (r : LReg) : (insG g r).ands.length = g.ands.length := by simp [insG]
theorem insG_outs (g : LGraph) (r : LReg) : (insG g r).outs.length = g.outs.length := by simp [insG]
/-- A graph with an and more, whose literals are those of one cycle before. -/
def fwd1 (g : LGraph) (k : Nat) : LGraph := ⟨g.inn, g.out, g.regs, g.ands ++ [((delayG g (g.ands.getD k (0, 0)).1).1, (delayG g (g.ands.getD k (0, 0)).2).1)], g.outs⟩
def fwdR (g : LGraph) (k : Nat) (init : Bool) : LReg := ⟨freshG g, 2 * (nodesG (fwd1 g k) - 1), init⟩
def fwd2 (g : LGraph) (k : Nat) (init : Bool) : LGraph := insG (fwd1 g k) (fwdR g k init)
def swG (g : LGraph) (node l : Int) : LGraph := ⟨g.inn, g.out, g.regs.map (swR node l), g.ands.map (swA node l), g.outs.map (toS node l)⟩
def fwd3 (g : LGraph) (k : Nat) (init : Bool) : LGraph := swG (fwd2 g k init) (1 + (g.inn.length : Int) + g.regs.length + k + 1) (2 * firstG g)
theorem fwd3_pv (g : LGraph) (k : Nat) (init : Bool) : (fwd3 g k init).pv = .agg [.im (.sl (strs g.inn)), .im (.sl (strs g.out)),
    .im (.sl (((fwd2 g k init).regs.mapIdx fun _ => swR (1 + (g.inn.length : Int) + g.regs.length + k + 1) (2 * firstG g)).map LReg.im)),
    .im (.sl (((fwd2 g k init).ands.mapIdx (swK (fun _ => false) (1 + (g.inn.length : Int) + g.regs.length + k + 1) (2 * firstG g))).map nd)),
    .im (.sl (ints ((fwd2 g k init).outs.mapIdx fun _ => toS (1 + (g.inn.length : Int) + g.regs.length + k + 1) (2 * firstG g))))] := by
  have e : (swK (fun _ => false) (1 + (g.inn.length : Int) + g.regs.length + k + 1) (2 * firstG g)) = fun _ => swA (1 + (g.inn.length : Int) + g.regs.length + k + 1) (2 * firstG g) := by
    funext i p
    rfl
  rw [e, mapIdx_const, mapIdx_const, mapIdx_const]
  rfl
theorem forward_ok (g : LGraph) (hg : GraphOk g) (hl : (namesG g).length < 99) (k : Nat) (hk : k < g.ands.length) (init : Bool) (h1 : GraphOk (fwd1 g k)) (h3 : GraphOk (fwd3 g k init)) (hs : GSmall (fwd2 g k init)) (b2 : (∀ r ∈ (fwd2 g k init).regs, 0 ≤ r.next ∧ r.next ≤ 1000000) ∧ (∀ p ∈ (fwd2 g k init).ands, (0 ≤ p.1 ∧ p.1 ≤ 1000000) ∧ 0 ≤ p.2 ∧ p.2 ≤ 1000000) ∧ ∀ x ∈ (fwd2 g k init).outs, 0 ≤ x ∧ x ≤ 1000000) (up : Frs) :
    ACalls Tryd.prog 31 [g.pv, .i (1 + (g.inn.length : Int) + g.regs.length + k), .im (.bool init)] up fun v u => v = .tup [(movedG (fwd3 g k init) (cleanG (fwd3 g k init)).1 (cleanG (fwd3 g k init)).2.1).pv, .im (.sl (ints (cleanG (fwd3 g k init)).2.2))] ∧ u = up := by
  have hsm := hg.small
  obtain ⟨z1, z2, z3, z4, z5⟩ := hg.small
  obtain ⟨y1, y2, y3, y4, y5⟩ := hs
  obtain ⟨b20, b21, b22⟩ := b2
  obtain ⟨p, hp, hpm, hgt⟩ := node_at g.ands k hk
  have hpd : g.ands.getD k (0, 0) = p := by rw [List.getD_eq_getElem?_getD, hp]; rfl
  obtain ⟨⟨x1, x2⟩, x3, x4⟩ := hg.ands k p hp
  have wk : IntKind.i64.wrap (1 + (g.inn.length : Int) + g.regs.length + k - (1 + (g.inn.length : Int) + g.regs.length)) = (k : Int) := by rw [wrap64 (by omega)]; omega
  have wk1 : IntKind.i64.wrap (1 + (g.inn.length : Int) + g.regs.length + k + 1) = 1 + (g.inn.length : Int) + g.regs.length + k + 1 := wrap64 (by omega)
  have hkl : (k : Int) < (g.ands.length : Int) := by omega
  have hap : (g.ands.length + 1) * 16 ≤ 140737488355328 := by omega
  have hmapa : g.ands.map nd ++ [[.int .i64 (delayG g p.1).1, .int .i64 (delayG g p.2).1]] = (fwd1 g k).ands.map nd := by simp [fwd1, hp]
  have hn1 : (fwd1 g k).ands.length = g.ands.length + 1 := by simp [fwd1]
  have nn : nodesG (fwd1 g k) = 1 + (g.inn.length : Int) + g.regs.length + (g.ands.length + 1) := by unfold nodesG; rw [hn1]; rfl
  have wn : IntKind.i64.wrap (1 + ((fwd1 g k).inn.length : Int) + (fwd1 g k).regs.length + (fwd1 g k).ands.length - 1) = nodesG (fwd1 g k) - 1 := by
    have e : (1 + ((fwd1 g k).inn.length : Int) + (fwd1 g k).regs.length + (fwd1 g k).ands.length - 1) = nodesG (fwd1 g k) - 1 := rfl
    rw [e]
    exact wrap64 (by omega)
  have wn2 : IntKind.i64.wrap (2 * (nodesG (fwd1 g k) - 1)) = 2 * (nodesG (fwd1 g k) - 1) := wrap64 (by omega)
  have hI := fun (u : Frs) a b c => insert_ok (fwd1 g k) h1 (fwdR g k init) (by simp only [fwdR]; omega) (by simp only [fwdR]; omega) 7 8 9 u a b c (by decide) (by decide) (by decide)
  rw [← insG_regs (fwd1 g k) (fwdR g k init), ← insG_ands (fwd1 g k) (fwdR g k init), ← insG_outs (fwd1 g k) (fwdR g k init)] at hI
  have hf2 : insG (fwd1 g k) (fwdR g k init) = fwd2 g k init := rfl
  rw [hf2] at hI
  have hff : firstG (fwd1 g k) = firstG g := rfl
  rw [hff] at hI
  have hfd : firstG g = 1 + (g.inn.length : Int) + g.regs.length := rfl
  have hsw := swapF_ok g.inn g.out (fwd2 g k init).regs (fwd2 g k init).ands (fwd2 g k init).outs (by omega) (by omega) (by omega) b20 b21 b22 (1 + (g.inn.length : Int) + g.regs.length + k + 1) (2 * firstG g) (by omega) (by omega)
  have hpv := fwd3_pv g k init
  refine ACalls.code Tryd.func31 rfl 80 rfl (by simp) [.cell 6 31, .tmp 7] rfl fun Q hQ => ?_
  simp only [ups, PV.up, argEnv]
  have ft := And.intro ty_2 (And.intro ty_3 (And.intro ty_4 (And.intro ty_9 (And.intro ty_22 (And.intro ty_28 (And.intro ty_31 (And.intro ty_35 (And.intro ty_51 (And.intro ty_54 (And.intro ty_56 (And.intro ty_65 trivial)))))))))))
  refine Run.seq ?_
  have fx := And.intro (@Int.toNat_natCast) (And.intro (@Int.natCast_nonneg) (And.intro hgt (And.intro hkl (And.intro wk1 (And.intro wk (And.intro hap (And.intro ints_len (And.intro nd_len (And.intro rim_len ft)))))))))
  refine Run.go ?_
  refine End.kp [1, 2, 3, 6] ?_
  refine Run.seq ?_
  refine Run.ghost (.spares 1) ?_
  simp only [ASt.pushN, ASt.push, List.append_assoc, List.cons_append, List.nil_append]
  refine Run.drawA fun K hK => ?_
  refine DOps.sim ?_
  refine DOps.call (.i (1 + (g.inn.length : Int) + g.regs.length)) [] [] rfl rfl rfl rfl (by kernel_rfl) (by simp [Agree]) (fun u hu => GFirst_ok g hsm u) ?_
  refine DOps.sim ?_
  refine DOps.nil (by rfl) (hK _ ?_); clear hK K
  refine End.kp [1, 2, 3, 6, 8] ?_
  refine Run.seq ?_
  refine Run.region rfl fun K hK => GOps.sim ?_
  refine GOps.call rfl rfl rfl rfl (by kernel_rfl) (ACalls.sim ?_)
  refine (delay_ok g hg p.1 x1 (by omega) _).mono fun v u hv => ?_
  obtain ⟨rfl, rfl⟩ := hv
  refine ⟨_, _, rfl, GOps.sim ?_⟩
  refine GOps.done (hK _ ?_); clear hK K
  refine End.kp [1, 2, 3, 6, 8, 9] ?_
  refine Run.seq ?_
  refine Run.region rfl fun K hK => GOps.sim ?_
  refine GOps.call rfl rfl rfl rfl (by kernel_rfl) (ACalls.sim ?_)
  refine (delay_ok g hg p.2 x3 (by omega) _).mono fun v u hv => ?_
  obtain ⟨rfl, rfl⟩ := hv
  refine ⟨_, _, rfl, GOps.sim ?_⟩
  refine GOps.done (hK _ ?_); clear hK K
  refine End.kp [1, 2, 3, 6, 9, 12] ?_
  refine Run.seq ?_
  refine Run.ghost (.spares 3) ?_
  simp only [ASt.pushN, ASt.push, List.append_assoc, List.cons_append, List.nil_append]
  have fx := And.intro (@Int.toNat_natCast) (And.intro (@Int.natCast_nonneg) (And.intro hgt (And.intro hkl (And.intro wk1 (And.intro wk (And.intro hap (And.intro ints_len (And.intro nd_len (And.intro rim_len ft)))))))))
  refine Run.region rfl fun K hK => GOps.sim ?_
  refine GOps.call rfl rfl rfl rfl (by kernel_rfl) (ACalls.sim ?_)
  refine (CopyL_ok g hsm 3 4 5 _ rfl rfl rfl (by decide) (by decide) (by decide)).mono fun v u hv => ?_
  obtain ⟨rfl, rfl⟩ := hv
  refine ⟨_, _, rfl, GOps.sim ?_⟩
  refine GOps.done (hK _ ?_); clear hK K
  refine End.kp [1, 2, 3, 6, 9, 12, 15] ?_
  refine Run.seq ?_
  refine Run.go ?_
  refine End.kp [1, 2, 3, 6, 15] ?_
  refine Run.seq ?_
  rw [hmapa]
  refine Run.ghost (Ghost.form [(1, .i (1 + (g.inn.length : Int) + g.regs.length + k)), (2, .im (.bool init)), (3, .ptr 0 0 0), (6, .ptr 0 1 0), (15, .ptr 0 6 0)] 7 ⟨rfl, rfl, rfl, rfl, rfl, trivial⟩ rfl rfl) ?_
  refine Run.ghost (Ghost.boxShut (j := 6) (i := 2) (r := 3) rfl rfl rfl (by rw [rim_len])) ?_
  refine Run.ghost (Ghost.boxShut (j := 6) (i := 3) (r := 4) rfl rfl rfl (by rw [nd_len, hn1])) ?_
  refine Run.ghost (Ghost.boxShut (j := 6) (i := 4) (r := 5) rfl rfl rfl (by rw [ints_len])) ?_
  simp only [List.set_cons_succ, List.set_cons_zero]
  have fx := And.intro (@Int.toNat_natCast) (And.intro (@Int.natCast_nonneg) (And.intro hgt (And.intro hkl (And.intro wk1 (And.intro wk (And.intro hap (And.intro ints_len (And.intro nd_len (And.intro rim_len ft)))))))))
  refine Run.region rfl fun K hK => GOps.sim ?_
  refine GOps.call rfl rfl rfl rfl (by kernel_rfl) (ACalls.sim ?_)
  refine (GNodes_ok (fwd1 g k) h1.small _).mono fun v u hv => ?_
  obtain ⟨rfl, rfl⟩ := hv
  have fx := And.intro wn2 (And.intro wn (And.intro (@Int.toNat_natCast) (And.intro (@Int.natCast_nonneg) (And.intro hgt (And.intro hkl (And.intro wk1 (And.intro wk (And.intro hap (And.intro ints_len (And.intro nd_len (And.intro rim_len ft)))))))))))
  refine ⟨_, _, rfl, GOps.sim ?_⟩
  refine GOps.done (hK _ ?_); clear hK K
  refine End.kp [1, 2, 3, 6, 15, 16] ?_
  refine Run.seq ?_
  refine Run.ghost (.spares 3) ?_
  simp only [ASt.pushN, ASt.push, List.append_assoc, List.cons_append, List.nil_append]
  have fx := And.intro wn2 (And.intro wn (And.intro (@Int.toNat_natCast) (And.intro (@Int.natCast_nonneg) (And.intro hgt (And.intro hkl (And.intro wk1 (And.intro wk (And.intro hap (And.intro ints_len (And.intro nd_len (And.intro rim_len ft)))))))))))
  refine Run.drawA fun K hK => ?_
  refine DOps.sim ?_
  refine DOps.call (.im (.str (freshG g))) [] [] rfl rfl rfl rfl (by kernel_rfl) (by simp [Agree]) (fun u hu => fresh_ok g hg hl u) ?_
  refine DOps.sim ?_
  refine DOps.call (.tup [.agg [.im (.sl (strs g.inn)), .im (.sl (strs g.out)), .ms 0 7 (fwd2 g k init).regs.length, .ms 0 8 (fwd2 g k init).ands.length, .ms 0 9 (fwd2 g k init).outs.length], .i (2 * firstG g)]) [((0, 7), .dead), ((0, 8), .dead), ((0, 9), .dead)] [((0, 7), rowR (fwd2 g k init).regs), ((0, 8), rowA (fwd2 g k init).ands), ((0, 9), rowO (fwd2 g k init).outs)] rfl rfl rfl rfl (by kernel_rfl) (by simp [Agree, ASt.fr]) (fun u hu => hI u (hu ((0, 7), .dead) (by simp)) (hu ((0, 8), .dead) (by simp)) (hu ((0, 9), .dead) (by simp))) ?_
  refine DOps.sim ?_
  refine DOps.nil (by rfl) (hK _ ?_); clear hK K
  refine End.kp [1, 6, 15, 17] ?_
  refine Run.seq ?_
  refine Run.region rfl fun K hK => GOps.sim ?_
  refine GOps.call rfl rfl rfl rfl (by kernel_rfl) (ACalls.sim ?_)
  refine (hsw _ 6 7 8 9 rfl rfl rfl rfl (by decide) (by decide) (by decide) (by decide) (by decide) (by decide)).mono fun v u hv => ?_
  obtain ⟨rfl, rfl⟩ := hv
  refine ⟨_, _, rfl, GOps.sim ?_⟩
  refine GOps.done (hK _ ?_); clear hK K
  refine End.kp [6, 15] ?_
  refine Run.seq ?_
  refine Run.ghost (Ghost.form [(6, .ptr 0 1 0), (15, .ptr 0 6 0)] 10 ⟨rfl, rfl, trivial⟩ rfl rfl) ?_
  simp only [setG, fset, List.set_cons_succ, List.set_cons_zero, List.take_succ_cons, List.take_zero]
  refine Run.ghost (Ghost.boxShut (j := 6) (i := 2) (r := 7) rfl rfl rfl (by simp)) ?_
  refine Run.ghost (Ghost.boxShut (j := 6) (i := 3) (r := 8) rfl rfl rfl (by simp)) ?_
  refine Run.ghost (Ghost.boxShut (j := 6) (i := 4) (r := 9) rfl rfl rfl (by simp)) ?_
  simp only [List.set_cons_succ, List.set_cons_zero]
  have hcl : ∀ u, ACalls Tryd.prog 53 [.agg [.im (.sl (strs g.inn)), .im (.sl (strs g.out)),
      .im (.sl (((fwd2 g k init).regs.mapIdx fun _ => swR (1 + (g.inn.length : Int) + g.regs.length + k + 1) (2 * firstG g)).map LReg.im)),
      .im (.sl (((fwd2 g k init).ands.mapIdx (swK (fun _ => false) (1 + (g.inn.length : Int) + g.regs.length + k + 1) (2 * firstG g))).map nd)),
      .im (.sl (ints ((fwd2 g k init).outs.mapIdx fun _ => toS (1 + (g.inn.length : Int) + g.regs.length + k + 1) (2 * firstG g))))]] u _ := fun u => hpv ▸ Clean_ok (fwd3 g k init) h3 u
  have fx := And.intro wn2 (And.intro wn (And.intro (@Int.toNat_natCast) (And.intro (@Int.natCast_nonneg) (And.intro hgt (And.intro hkl (And.intro wk1 (And.intro wk (And.intro hap (And.intro ints_len (And.intro nd_len (And.intro rim_len ft)))))))))))
  refine Run.region rfl fun K hK => GOps.sim ?_
  refine GOps.call rfl rfl rfl rfl (by kernel_rfl) (ACalls.sim ?_)
  refine (hcl _).mono fun v u hv => ?_
  obtain ⟨rfl, rfl⟩ := hv
  refine ⟨_, _, rfl, GOps.sim ?_⟩
  refine GOps.done (hK _ ?_); clear hK K
  refine End.kp [6, 15, 18] ?_
  refine Run.seq ?_
  refine Run.go ?_
  refine End.kp [6, 7] ?_
  refine Run.resC hQ ?_
  exact ⟨rfl, rfl⟩
end Go.Proofs.YtdgpmopcmacicaaDoorPi

/- The walk of Forward. -/
set_option linter.unusedVariables false
set_option linter.unusedSimpArgs false
set_option maxRecDepth 100000
namespace Go.Proofs.YtdgpmopcmacicaaDoorPi
set_option maxHeartbeats 4000000
abbrev nilG : PV := .agg [.im (.sl []), .im (.sl []), .im (.sl []), .im (.sl []), .im (.sl [])]
/-- What forward leans on. -/
structure FwdOk (g : LGraph) (k : Nat) (init : Bool) : Prop where
  names : (namesG g).length < 99
  one : GraphOk (fwd1 g k)
  three : GraphOk (fwd3 g k init)
  small : GSmall (fwd2 g k init)
  bnd : (∀ r ∈ (fwd2 g k init).regs, 0 ≤ r.next ∧ r.next ≤ 1000000) ∧ (∀ p ∈ (fwd2 g k init).ands, (0 ≤ p.1 ∧ p.1 ≤ 1000000) ∧ 0 ≤ p.2 ∧ p.2 ≤ 1000000) ∧ ∀ x ∈ (fwd2 g k init).outs, 0 ≤ x ∧ x ≤ 1000000
/-- The initial value of an and that is moved. -/
def fwdI (g : LGraph) (k : Nat) : Bool := (delayG g (g.ands.getD k (0, 0)).1).2.1 && (delayG g (g.ands.getD k (0, 0)).2).2.1
def fwdG (g : LGraph) (k : Nat) : LGraph := movedG (fwd3 g k (fwdI g k)) (cleanG (fwd3 g k (fwdI g k))).1 (cleanG (fwd3 g k (fwdI g k))).2.1
theorem Forward_none (g : LGraph) (hg : GraphOk g) (k : Nat) (hk : k = g.ands.length) (up : Frs) : ACalls Tryd.prog 11 [g.pv, .i (1 + (g.inn.length : Int) + g.regs.length + k)] up fun v u => v = .tup [nilG, .i 7] ∧ u = up := by
  have hsm := hg.small
  obtain ⟨z1, z2, z3, z4, z5⟩ := hg.small
  have wk : IntKind.i64.wrap (1 + (g.inn.length : Int) + g.regs.length + k - (1 + (g.inn.length : Int) + g.regs.length)) = (k : Int) := by rw [wrap64 (by omega)]; omega
  have dl : decide (1 + (g.inn.length : Int) + g.regs.length + k < 1 + (g.inn.length : Int) + g.regs.length) = false := decide_eq_false (by omega)
  
  have dn : decide (1 + (g.inn.length : Int) + g.regs.length + g.ands.length ≤ 1 + (g.inn.length : Int) + g.regs.length + k) = true := decide_eq_true (by omega)
  refine ACalls.code Tryd.func11 rfl 87 rfl (by simp) [.cell 4 31, .tmp 5] rfl fun Q hQ => ?_
  simp only [ups, PV.up, argEnv]
  have ft := And.intro ty_2 (And.intro ty_3 (And.intro ty_4 (And.intro ty_22 (And.intro ty_27 (And.intro ty_28 (And.intro ty_31 (And.intro ty_35 (And.intro ty_51 (And.intro ty_54 (And.intro ty_56 trivial))))))))))
  refine Run.seq ?_
  have fx := And.intro (@ge_iff_le Int _) (And.intro dn (And.intro dl ft))
  refine Run.go ?_
  refine End.kp [1, 2, 4] ?_
  refine Run.seq ?_
  refine Run.seq ?_
  refine Run.region rfl fun K hK => GOps.sim ?_
  refine GOps.call rfl rfl rfl rfl (by kernel_rfl) (ACalls.sim ?_)
  refine (Check_ok g hg _).mono fun v u hv => ?_
  obtain ⟨rfl, rfl⟩ := hv
  refine ⟨_, _, rfl, GOps.sim ?_⟩
  refine GOps.done (hK _ ?_); clear hK K
  refine End.kp [1, 2, 4, 6] ?_
  refine Run.seq ?_
  refine Run.go ?_
  refine End.kp [1, 2, 4, 6, 20] ?_
  refine Run.cond _ rfl (fun hb => ?_) (fun hb => ?_)
  · have hb2 := hb
    simp at hb
  · have hb2 := hb
    refine Run.skip ?_
    refine End.kp [1, 2, 4] ?_
    refine Run.seq ?_
    have fx := And.intro (@ge_iff_le Int _) (And.intro dn (And.intro dl ft))
    refine Run.region rfl fun K hK => GOps.sim ?_
    refine GOps.call rfl rfl rfl rfl (by kernel_rfl) (ACalls.sim ?_)
    refine (GFirst_ok g hsm _).mono fun v u hv => ?_
    obtain ⟨rfl, rfl⟩ := hv
    refine ⟨_, _, rfl, GOps.sim ?_⟩
    refine GOps.done (hK _ ?_); clear hK K
    refine End.kp [1, 2, 4, 7] ?_
    refine Run.seq ?_
    refine Run.seq ?_
    refine Run.region rfl fun K hK => GOps.sim ?_
    refine GOps.call rfl rfl rfl rfl (by kernel_rfl) (ACalls.sim ?_)
    refine (GNodes_ok g hsm _).mono fun v u hv => ?_
    obtain ⟨rfl, rfl⟩ := hv
    refine ⟨_, _, rfl, GOps.sim ?_⟩
    refine GOps.done (hK _ ?_); clear hK K
    refine End.kp [1, 2, 4, 7, 33] ?_
    refine Run.cond _ rfl (fun hb => ?_) (fun hb => ?_)
    · have hb3 := hb
      refine Run.seq ?_
      have fx := And.intro (@ge_iff_le Int _) (And.intro dn (And.intro dl ft))
      refine Run.go ?_
      refine End.kp [4, 5] ?_
      refine Run.resC hQ ?_
      exact ⟨rfl, rfl⟩
    · have hb3 := hb
      simp at hb
theorem Forward_type (g : LGraph) (hg : GraphOk g) (k : Nat) (hk : k < g.ands.length) (HOK : ((delayG g (g.ands.getD k (0, 0)).1).2.2 && (delayG g (g.ands.getD k (0, 0)).2).2.2) = false) (up : Frs) : ACalls Tryd.prog 11 [g.pv, .i (1 + (g.inn.length : Int) + g.regs.length + k)] up fun v u => v = .tup [nilG, .i 8] ∧ u = up := by
  have hsm := hg.small
  obtain ⟨z1, z2, z3, z4, z5⟩ := hg.small
  have wk : IntKind.i64.wrap (1 + (g.inn.length : Int) + g.regs.length + k - (1 + (g.inn.length : Int) + g.regs.length)) = (k : Int) := by rw [wrap64 (by omega)]; omega
  have dl : decide (1 + (g.inn.length : Int) + g.regs.length + k < 1 + (g.inn.length : Int) + g.regs.length) = false := decide_eq_false (by omega)
  
  have dn : decide (1 + (g.inn.length : Int) + g.regs.length + g.ands.length ≤ 1 + (g.inn.length : Int) + g.regs.length + k) = false := decide_eq_false (by omega)
  obtain ⟨p, hp, hpm, hgt⟩ := node_at g.ands k hk
  have hpd : g.ands.getD k (0, 0) = p := by rw [List.getD_eq_getElem?_getD, hp]; rfl
  obtain ⟨⟨x1, x2⟩, x3, x4⟩ := hg.ands k p hp
  have hkl : (k : Int) < (g.ands.length : Int) := by omega
  rw [hpd] at HOK
  refine ACalls.code Tryd.func11 rfl 87 rfl (by simp) [.cell 4 31, .tmp 5] rfl fun Q hQ => ?_
  simp only [ups, PV.up, argEnv]
  have ft := And.intro ty_2 (And.intro ty_3 (And.intro ty_4 (And.intro ty_22 (And.intro ty_27 (And.intro ty_28 (And.intro ty_31 (And.intro ty_35 (And.intro ty_51 (And.intro ty_54 (And.intro ty_56 trivial))))))))))
  refine Run.seq ?_
  have fx := And.intro (@Int.toNat_natCast) (And.intro (@Int.natCast_nonneg) (And.intro hkl (And.intro hgt (And.intro wk (And.intro (@ge_iff_le Int _) (And.intro dn (And.intro dl ft)))))))
  refine Run.go ?_
  refine End.kp [1, 2, 4] ?_
  refine Run.seq ?_
  refine Run.seq ?_
  refine Run.region rfl fun K hK => GOps.sim ?_
  refine GOps.call rfl rfl rfl rfl (by kernel_rfl) (ACalls.sim ?_)
  refine (Check_ok g hg _).mono fun v u hv => ?_
  obtain ⟨rfl, rfl⟩ := hv
  refine ⟨_, _, rfl, GOps.sim ?_⟩
  refine GOps.done (hK _ ?_); clear hK K
  refine End.kp [1, 2, 4, 6] ?_
  refine Run.seq ?_
  refine Run.go ?_
  refine End.kp [1, 2, 4, 6, 20] ?_
  refine Run.cond _ rfl (fun hb => ?_) (fun hb => ?_)
  · have hb2 := hb
    simp at hb
  · have hb2 := hb
    refine Run.skip ?_
    refine End.kp [1, 2, 4] ?_
    refine Run.seq ?_
    have fx := And.intro (@Int.toNat_natCast) (And.intro (@Int.natCast_nonneg) (And.intro hkl (And.intro hgt (And.intro wk (And.intro (@ge_iff_le Int _) (And.intro dn (And.intro dl ft)))))))
    refine Run.region rfl fun K hK => GOps.sim ?_
    refine GOps.call rfl rfl rfl rfl (by kernel_rfl) (ACalls.sim ?_)
    refine (GFirst_ok g hsm _).mono fun v u hv => ?_
    obtain ⟨rfl, rfl⟩ := hv
    refine ⟨_, _, rfl, GOps.sim ?_⟩
    refine GOps.done (hK _ ?_); clear hK K
    refine End.kp [1, 2, 4, 7] ?_
    refine Run.seq ?_
    refine Run.seq ?_
    refine Run.region rfl fun K hK => GOps.sim ?_
    refine GOps.call rfl rfl rfl rfl (by kernel_rfl) (ACalls.sim ?_)
    refine (GNodes_ok g hsm _).mono fun v u hv => ?_
    obtain ⟨rfl, rfl⟩ := hv
    refine ⟨_, _, rfl, GOps.sim ?_⟩
    refine GOps.done (hK _ ?_); clear hK K
    refine End.kp [1, 2, 4, 7, 33] ?_
    refine Run.cond _ rfl (fun hb => ?_) (fun hb => ?_)
    · have hb3 := hb
      simp at hb
    · have hb3 := hb
      refine Run.skip ?_
      refine End.kp [1, 2, 4, 7] ?_
      refine Run.seq ?_
      have fx := And.intro (@Int.toNat_natCast) (And.intro (@Int.natCast_nonneg) (And.intro hkl (And.intro hgt (And.intro wk (And.intro (@ge_iff_le Int _) (And.intro dn (And.intro dl ft)))))))
      refine Run.go ?_
      refine End.kp [1, 2, 4, 8] ?_
      refine Run.seq ?_
      refine Run.region rfl fun K hK => GOps.sim ?_
      refine GOps.call rfl rfl rfl rfl (by kernel_rfl) (ACalls.sim ?_)
      refine (delay_ok g hg p.1 x1 (by omega) _).mono fun v u hv => ?_
      obtain ⟨rfl, rfl⟩ := hv
      refine ⟨_, _, rfl, GOps.sim ?_⟩
      refine GOps.done (hK _ ?_); clear hK K
      refine End.kp [1, 2, 4, 8, 10, 11] ?_
      refine Run.seq ?_
      refine Run.region rfl fun K hK => GOps.sim ?_
      refine GOps.call rfl rfl rfl rfl (by kernel_rfl) (ACalls.sim ?_)
      refine (delay_ok g hg p.2 x3 (by omega) _).mono fun v u hv => ?_
      obtain ⟨rfl, rfl⟩ := hv
      refine ⟨_, _, rfl, GOps.sim ?_⟩
      refine GOps.done (hK _ ?_); clear hK K
      refine End.kp [1, 2, 4, 10, 11, 13, 14] ?_
      refine Run.seq ?_
      refine Run.seq ?_
      rcases Bool.eq_false_or_eq_true ((delayG g p.1).2.2) with hs10 | hs10
      · skip
        rw [hs10, Bool.true_and] at HOK
        have fx := And.intro hs10 (And.intro (@Int.toNat_natCast) (And.intro (@Int.natCast_nonneg) (And.intro hkl (And.intro hgt (And.intro wk (And.intro (@ge_iff_le Int _) (And.intro dn (And.intro dl ft))))))))
        refine Run.go ?_
        refine End.kp [1, 2, 4, 10, 13, 63] ?_
        refine Run.cond _ rfl (fun hb => ?_) (fun hb => ?_)
        · have hb4 := hb
          refine Run.seq ?_
          have fx := And.intro hs10 (And.intro (@Int.toNat_natCast) (And.intro (@Int.natCast_nonneg) (And.intro hkl (And.intro hgt (And.intro wk (And.intro (@ge_iff_le Int _) (And.intro dn (And.intro dl ft))))))))
          refine Run.go ?_
          refine End.kp [4, 5] ?_
          refine Run.resC hQ ?_
          exact ⟨rfl, rfl⟩
        · have hb4 := hb
          simp [HOK] at hb
      · skip
        have fx := And.intro hs10 (And.intro (@Int.toNat_natCast) (And.intro (@Int.natCast_nonneg) (And.intro hkl (And.intro hgt (And.intro wk (And.intro (@ge_iff_le Int _) (And.intro dn (And.intro dl ft))))))))
        refine Run.go ?_
        refine End.kp [1, 2, 4, 10, 13, 63] ?_
        refine Run.cond _ rfl (fun hb => ?_) (fun hb => ?_)
        · have hb4 := hb
          refine Run.seq ?_
          have fx := And.intro hs10 (And.intro (@Int.toNat_natCast) (And.intro (@Int.natCast_nonneg) (And.intro hkl (And.intro hgt (And.intro wk (And.intro (@ge_iff_le Int _) (And.intro dn (And.intro dl ft))))))))
          refine Run.go ?_
          refine End.kp [4, 5] ?_
          refine Run.resC hQ ?_
          exact ⟨rfl, rfl⟩
        · have hb4 := hb
          simp at hb
theorem Forward_go (g : LGraph) (hg : GraphOk g) (hr : g.regs.length < 288) (ha : g.ands.length < 4000) (k : Nat) (hk : k < g.ands.length) (HOK : ((delayG g (g.ands.getD k (0, 0)).1).2.2 && (delayG g (g.ands.getD k (0, 0)).2).2.2) = true) (hF : FwdOk g k (fwdI g k)) (up : Frs) : ACalls Tryd.prog 11 [g.pv, .i (1 + (g.inn.length : Int) + g.regs.length + k)] up fun v u => v = .tup [(fwdG g k).pv, .i 0] ∧ u = up := by
  have hsm := hg.small
  obtain ⟨z1, z2, z3, z4, z5⟩ := hg.small
  have wk : IntKind.i64.wrap (1 + (g.inn.length : Int) + g.regs.length + k - (1 + (g.inn.length : Int) + g.regs.length)) = (k : Int) := by rw [wrap64 (by omega)]; omega
  have dl : decide (1 + (g.inn.length : Int) + g.regs.length + k < 1 + (g.inn.length : Int) + g.regs.length) = false := decide_eq_false (by omega)
  
  have dn : decide (1 + (g.inn.length : Int) + g.regs.length + g.ands.length ≤ 1 + (g.inn.length : Int) + g.regs.length + k) = false := decide_eq_false (by omega)
  obtain ⟨p, hp, hpm, hgt⟩ := node_at g.ands k hk
  have hpd : g.ands.getD k (0, 0) = p := by rw [List.getD_eq_getElem?_getD, hp]; rfl
  obtain ⟨⟨x1, x2⟩, x3, x4⟩ := hg.ands k p hp
  have hkl : (k : Int) < (g.ands.length : Int) := by omega
  rw [hpd] at HOK
  
  have hI : fwdI g k = ((delayG g p.1).2.1 && (delayG g p.2).2.1) := by rw [fwdI, hpd]
  obtain ⟨o1, o2⟩ := Bool.and_eq_true_iff.1 HOK
  have d1 : ((g.regs.length : Int) == 288) = false := by simp; omega
  have d2 : ((g.ands.length : Int) == 4000) = false := by simp; omega
  have hfw := forward_ok g hg hF.names k hk (fwdI g k) hF.one hF.three hF.small hF.bnd
  refine ACalls.code Tryd.func11 rfl 87 rfl (by simp) [.cell 4 31, .tmp 5] rfl fun Q hQ => ?_
  simp only [ups, PV.up, argEnv]
  have ft := And.intro ty_2 (And.intro ty_3 (And.intro ty_4 (And.intro ty_22 (And.intro ty_27 (And.intro ty_28 (And.intro ty_31 (And.intro ty_35 (And.intro ty_51 (And.intro ty_54 (And.intro ty_56 trivial))))))))))
  refine Run.seq ?_
  have fx := And.intro (@Int.toNat_natCast) (And.intro (@Int.natCast_nonneg) (And.intro nd_len (And.intro rim_len (And.intro d2 (And.intro d1 (And.intro o2 (And.intro o1 (And.intro hkl (And.intro hgt (And.intro wk (And.intro (@ge_iff_le Int _) (And.intro dn (And.intro dl ft)))))))))))))
  refine Run.go ?_
  refine End.kp [1, 2, 4] ?_
  refine Run.seq ?_
  refine Run.seq ?_
  refine Run.region rfl fun K hK => GOps.sim ?_
  refine GOps.call rfl rfl rfl rfl (by kernel_rfl) (ACalls.sim ?_)
  refine (Check_ok g hg _).mono fun v u hv => ?_
  obtain ⟨rfl, rfl⟩ := hv
  refine ⟨_, _, rfl, GOps.sim ?_⟩
  refine GOps.done (hK _ ?_); clear hK K
  refine End.kp [1, 2, 4, 6] ?_
  refine Run.seq ?_
  refine Run.go ?_
  refine End.kp [1, 2, 4, 6, 20] ?_
  refine Run.cond _ rfl (fun hb => ?_) (fun hb => ?_)
  · have hb2 := hb
    simp at hb
  · have hb2 := hb
    refine Run.skip ?_
    refine End.kp [1, 2, 4] ?_
    refine Run.seq ?_
    have fx := And.intro (@Int.toNat_natCast) (And.intro (@Int.natCast_nonneg) (And.intro nd_len (And.intro rim_len (And.intro d2 (And.intro d1 (And.intro o2 (And.intro o1 (And.intro hkl (And.intro hgt (And.intro wk (And.intro (@ge_iff_le Int _) (And.intro dn (And.intro dl ft)))))))))))))
    refine Run.region rfl fun K hK => GOps.sim ?_
    refine GOps.call rfl rfl rfl rfl (by kernel_rfl) (ACalls.sim ?_)
    refine (GFirst_ok g hsm _).mono fun v u hv => ?_
    obtain ⟨rfl, rfl⟩ := hv
    refine ⟨_, _, rfl, GOps.sim ?_⟩
    refine GOps.done (hK _ ?_); clear hK K
    refine End.kp [1, 2, 4, 7] ?_
    refine Run.seq ?_
    refine Run.seq ?_
    refine Run.region rfl fun K hK => GOps.sim ?_
    refine GOps.call rfl rfl rfl rfl (by kernel_rfl) (ACalls.sim ?_)
    refine (GNodes_ok g hsm _).mono fun v u hv => ?_
    obtain ⟨rfl, rfl⟩ := hv
    refine ⟨_, _, rfl, GOps.sim ?_⟩
    refine GOps.done (hK _ ?_); clear hK K
    refine End.kp [1, 2, 4, 7, 33] ?_
    refine Run.cond _ rfl (fun hb => ?_) (fun hb => ?_)
    · have hb3 := hb
      simp at hb
    · have hb3 := hb
      refine Run.skip ?_
      refine End.kp [1, 2, 4, 7] ?_
      refine Run.seq ?_
      have fx := And.intro (@Int.toNat_natCast) (And.intro (@Int.natCast_nonneg) (And.intro nd_len (And.intro rim_len (And.intro d2 (And.intro d1 (And.intro o2 (And.intro o1 (And.intro hkl (And.intro hgt (And.intro wk (And.intro (@ge_iff_le Int _) (And.intro dn (And.intro dl ft)))))))))))))
      refine Run.go ?_
      refine End.kp [1, 2, 4, 8] ?_
      refine Run.seq ?_
      refine Run.region rfl fun K hK => GOps.sim ?_
      refine GOps.call rfl rfl rfl rfl (by kernel_rfl) (ACalls.sim ?_)
      refine (delay_ok g hg p.1 x1 (by omega) _).mono fun v u hv => ?_
      obtain ⟨rfl, rfl⟩ := hv
      refine ⟨_, _, rfl, GOps.sim ?_⟩
      refine GOps.done (hK _ ?_); clear hK K
      refine End.kp [1, 2, 4, 8, 10, 11] ?_
      refine Run.seq ?_
      refine Run.region rfl fun K hK => GOps.sim ?_
      refine GOps.call rfl rfl rfl rfl (by kernel_rfl) (ACalls.sim ?_)
      refine (delay_ok g hg p.2 x3 (by omega) _).mono fun v u hv => ?_
      obtain ⟨rfl, rfl⟩ := hv
      refine ⟨_, _, rfl, GOps.sim ?_⟩
      refine GOps.done (hK _ ?_); clear hK K
      refine End.kp [1, 2, 4, 10, 11, 13, 14] ?_
      refine Run.seq ?_
      refine Run.seq ?_
      refine Run.go ?_
      refine End.kp [1, 2, 4, 10, 13, 63] ?_
      refine Run.cond _ rfl (fun hb => ?_) (fun hb => ?_)
      · have hb4 := hb
        simp at hb
      · have hb4 := hb
        refine Run.skip ?_
        refine End.kp [1, 2, 4, 10, 13] ?_
        refine Run.seq ?_
        refine Run.seq ?_
        have fx := And.intro (@Int.toNat_natCast) (And.intro (@Int.natCast_nonneg) (And.intro nd_len (And.intro rim_len (And.intro d2 (And.intro d1 (And.intro o2 (And.intro o1 (And.intro hkl (And.intro hgt (And.intro wk (And.intro (@ge_iff_le Int _) (And.intro dn (And.intro dl ft)))))))))))))
        refine Run.go ?_
        refine End.kp [1, 2, 4, 10, 13, 74] ?_
        refine Run.cond _ rfl (fun hb => ?_) (fun hb => ?_)
        · have hb4 := hb
          simp at hb
        · have hb4 := hb
          refine Run.skip ?_
          refine End.kp [1, 2, 4, 10, 13] ?_
          refine Run.seq ?_
          rcases Bool.eq_false_or_eq_true ((delayG g p.1).2.1) with hs14 | hs14
          · skip
            rw [hs14, Bool.true_and] at hI
            have fx := And.intro hs14 (And.intro (@Int.toNat_natCast) (And.intro (@Int.natCast_nonneg) (And.intro nd_len (And.intro rim_len (And.intro d2 (And.intro d1 (And.intro o2 (And.intro o1 (And.intro hkl (And.intro hgt (And.intro wk (And.intro (@ge_iff_le Int _) (And.intro dn (And.intro dl ft))))))))))))))
            refine Run.region rfl fun K hK => GOps.sim ?_
            try rw [← hI]
            have fx := And.intro hs14 (And.intro (@Int.toNat_natCast) (And.intro (@Int.natCast_nonneg) (And.intro nd_len (And.intro rim_len (And.intro d2 (And.intro d1 (And.intro o2 (And.intro o1 (And.intro hkl (And.intro hgt (And.intro wk (And.intro (@ge_iff_le Int _) (And.intro dn (And.intro dl ft))))))))))))))
            refine GOps.call rfl rfl rfl rfl (by kernel_rfl) (ACalls.sim ?_)
            refine (hfw _).mono fun v u hv => ?_
            obtain ⟨rfl, rfl⟩ := hv
            refine ⟨_, _, rfl, GOps.sim ?_⟩
            refine GOps.done (hK _ ?_); clear hK K
            refine End.kp [4, 15] ?_
            refine Run.seq ?_
            refine Run.go ?_
            refine End.kp [4, 5] ?_
            refine Run.resC hQ ?_
            exact ⟨rfl, rfl⟩
          · skip
            rw [hs14, Bool.false_and] at hI
            have fx := And.intro hs14 (And.intro (@Int.toNat_natCast) (And.intro (@Int.natCast_nonneg) (And.intro nd_len (And.intro rim_len (And.intro d2 (And.intro d1 (And.intro o2 (And.intro o1 (And.intro hkl (And.intro hgt (And.intro wk (And.intro (@ge_iff_le Int _) (And.intro dn (And.intro dl ft))))))))))))))
            refine Run.region rfl fun K hK => GOps.sim ?_
            try rw [← hI]
            have fx := And.intro hs14 (And.intro (@Int.toNat_natCast) (And.intro (@Int.natCast_nonneg) (And.intro nd_len (And.intro rim_len (And.intro d2 (And.intro d1 (And.intro o2 (And.intro o1 (And.intro hkl (And.intro hgt (And.intro wk (And.intro (@ge_iff_le Int _) (And.intro dn (And.intro dl ft))))))))))))))
            refine GOps.call rfl rfl rfl rfl (by kernel_rfl) (ACalls.sim ?_)
            refine (hfw _).mono fun v u hv => ?_
            obtain ⟨rfl, rfl⟩ := hv
            refine ⟨_, _, rfl, GOps.sim ?_⟩
            refine GOps.done (hK _ ?_); clear hK K
            refine End.kp [4, 15] ?_
            refine Run.seq ?_
            refine Run.go ?_
            refine End.kp [4, 5] ?_
            refine Run.resC hQ ?_
            exact ⟨rfl, rfl⟩
end Go.Proofs.YtdgpmopcmacicaaDoorPi

/- Plain law: an and moved forward keeps what a graph shows. -/
set_option linter.unusedVariables false
set_option linter.unusedSectionVars false
set_option linter.unusedSimpArgs false
namespace Go.Proofs.YtdgpmopcmacicaaDoorPi
theorem lbit_flip (b : Nat → Bool) (l : Int) (h : 0 ≤ l) : lbit b (flipL l) = !lbit b l := by
  unfold lbit flipL
  by_cases h2 : l % 2 = 0
  · rw [if_pos h2, if_pos (by omega), if_neg (by omega), show ((l + 1) / 2).toNat = (l / 2).toNat by omega]
  · rw [if_neg h2, if_neg (by omega), if_pos (by omega), show ((l - 1) / 2).toNat = (l / 2).toNat by omega, Bool.not_not]
theorem lbit_xl (b : Nat → Bool) (a p : Int) (h : 0 ≤ a) : lbit b (xl a p) = (lbit b a != (p % 2 == 1)) := by
  unfold xl
  by_cases h2 : p % 2 = 1
  · rw [if_pos h2, lbit_flip b a h, h2]
    cases lbit b a <;> rfl
  · rw [if_neg h2]
    have : (p % 2 == 1) = false := by simpa using h2
    rw [this]
    cases lbit b a <;> rfl
theorem xl_range (a p : Int) (N : Int) (h0 : 0 ≤ a) (h1 : a < 2 * N) : 0 ≤ xl a p ∧ xl a p < 2 * N := by
  unfold xl flipL
  split
  · split <;> omega
  · exact ⟨h0, h1⟩
theorem delay_cases (g : LGraph) (l : Int) (h0 : 0 ≤ l) (hd : (delayG g l).2.2 = true) : (l < 2 ∧ delayG g l = (l, l == 1, true)) ∨ ∃ (q : Nat) (r : LReg), g.regs[q]? = some r ∧ l / 2 = 1 + (g.inn.length : Int) + q ∧ delayG g l = (xl r.next l, r.init != (l % 2 == 1), true) := by
  unfold delayG at hd ⊢
  by_cases h1 : l < 2
  · exact .inl ⟨h1, by rw [if_pos h1]⟩
  · rw [if_neg h1] at hd ⊢
    by_cases h2 : l / 2 - 1 - (g.inn.length : Int) < 0
    · rw [if_pos h2] at hd; simp at hd
    · rw [if_neg h2] at hd ⊢
      right
      cases hr : g.regs[(l / 2 - 1 - (g.inn.length : Int)).toNat]? with
      | none => rw [hr] at hd; simp at hd
      | some r => exact ⟨_, r, hr, by omega, rfl⟩
/-- The bit of a literal of a register or constant in a state. -/
def sBit (g : LGraph) (s : List Bool) (l : Int) : Bool := if l < 2 then l == 1 else (s.getD (l / 2 - 1 - (g.inn.length : Int)).toNat false) != (l % 2 == 1)
section
variable {g : LGraph} (hg : GraphOk g)
include hg
theorem delay_range (l : Int) (h0 : 0 ≤ l) (hd : (delayG g l).2.2 = true) : 0 ≤ (delayG g l).1 ∧ (delayG g l).1 < 2 * (1 + (g.inn.length : Int) + g.regs.length + g.ands.length) := by
  rcases delay_cases g l h0 hd with ⟨h1, e⟩ | ⟨q, r, hr, hq, e⟩
  · rw [e]
    simp only
    omega
  · rw [e]
    have := hg.regs r (List.mem_of_getElem? hr)
    exact xl_range _ _ _ this.1 this.2
theorem sBit_now {r s : List Bool} {b : Nat → Bool} (hb : Sat g r s b) (l : Int) (h0 : 0 ≤ l) (hd : (delayG g l).2.2 = true) : lbit b l = sBit g s l := by
  rcases delay_cases g l h0 hd with ⟨h1, e⟩ | ⟨q, r, hr, hq, e⟩
  · rw [sBit, if_pos h1, lbit, show (l / 2).toNat = 0 by omega, hb.zero]
    by_cases h2 : l = 1
    · subst h2; rfl
    · have : l = 0 := by omega
      subst this; rfl
  · have hql := (List.getElem?_eq_some_iff.1 hr).1
    rw [sBit, if_neg (by omega), lbit, show (l / 2).toNat = 1 + g.inn.length + q by omega, hb.regs q hql, show (l / 2 - 1 - (g.inn.length : Int)).toNat = q by omega]
    by_cases h2 : l % 2 = 1
    · rw [if_pos h2, h2]
      cases s.getD q false <;> rfl
    · have : (l % 2 == 1) = false := by simpa using h2
      rw [if_neg h2, this]
      cases s.getD q false <;> rfl
theorem sBit_next {r s : List Bool} {b : Nat → Bool} (hb : Sat g r s b) (l : Int) (h0 : 0 ≤ l) (hd : (delayG g l).2.2 = true) : sBit g (g.regs.map fun x => lbit b x.next) l = lbit b (delayG g l).1 := by
  rcases delay_cases g l h0 hd with ⟨h1, e⟩ | ⟨q, r, hr, hq, e⟩
  · rw [e, sBit_now hg hb l h0 hd, sBit, sBit, if_pos h1, if_pos h1]
  · have hx := hg.regs r (List.mem_of_getElem? hr)
    rw [e, sBit, if_neg (by omega), show (l / 2 - 1 - (g.inn.length : Int)).toNat = q by omega, List.getD_eq_getElem?_getD, List.getElem?_map, hr, lbit_xl _ _ _ hx.1]
    rfl
theorem sBit_init (l : Int) (h0 : 0 ≤ l) (hd : (delayG g l).2.2 = true) : sBit g (initG g) l = (delayG g l).2.1 := by
  rcases delay_cases g l h0 hd with ⟨h1, e⟩ | ⟨q, r, hr, hq, e⟩
  · rw [e, sBit, if_pos h1]
  · rw [e, sBit, if_neg (by omega), show (l / 2 - 1 - (g.inn.length : Int)).toNat = q by omega, List.getD_eq_getElem?_getD, List.getElem?_map, hr]
    rfl
end
/-- What becomes of a literal when the and k of a graph with F nodes ahead of the ands becomes a register. -/
def toT (F k l : Int) : Int := toS (F + k + 1) (2 * F) (toI F l)
theorem toT_range (F k l m : Int) (hF : 0 ≤ F) (hm : 0 ≤ m) (hk : 0 ≤ k) (h0 : 0 ≤ l) (h1 : l < 2 * (F + m)) : 0 ≤ toT F k l ∧ toT F k l < 2 * (F + 1 + m) := by
  unfold toT toS toI
  split
  · split
    · have := xl_range (2 * F) (l + 2) (F + 1) (by omega) (by omega)
      omega
    · omega
  · split
    · have := xl_range (2 * F) l (F + 1) (by omega) (by omega)
      omega
    · omega
theorem toT_bit {b b' : Nat → Bool} (F k n : Nat) (hk : k < n) (h0 : ∀ j, j < F → b' j = b j) (h1 : b' F = b (F + k)) (h2 : ∀ j, j < n → b' (F + 1 + j) = b (F + j)) (l : Int) (l0 : 0 ≤ l) (l1 : l < 2 * ((F : Int) + n)) : lbit b' (toT F k l) = lbit b l := by
  unfold toT toS toI
  by_cases c : (F : Int) ≤ l / 2
  · rw [if_pos c]
    by_cases c2 : (l + 2) / 2 = (F : Int) + k + 1
    · rw [if_pos c2, lbit_xl _ _ _ (by omega), lbit, if_neg (by omega), show (2 * (F : Int) / 2).toNat = F by omega, h1, lbit, show (l / 2).toNat = F + k by omega]
      by_cases c3 : l % 2 = 1
      · rw [if_pos c3, show (l + 2) % 2 = 1 by omega]
        cases b (F + k) <;> rfl
      · rw [if_neg c3, show (l + 2) % 2 = 0 by omega]
        cases b (F + k) <;> rfl
    · obtain ⟨j, hj⟩ : ∃ j : Nat, l / 2 = (F : Int) + j := ⟨(l / 2 - F).toNat, by omega⟩
      rw [if_neg c2, lbit, lbit, show ((l + 2) / 2).toNat = F + 1 + j by omega, show (l / 2).toNat = F + j by omega, h2 j (by omega), show (l + 2) % 2 = l % 2 by omega]
  · rw [if_neg c, if_neg (by omega), lbit, lbit, h0 _ (by omega)]
end Go.Proofs.YtdgpmopcmacicaaDoorPi

/- The walk of Sweep: the nodes on which an output depends. -/
set_option linter.unusedVariables false
set_option linter.unusedSimpArgs false
set_option maxRecDepth 100000
namespace Go.Proofs.YtdgpmopcmacicaaDoorPi
set_option maxHeartbeats 4000000
/-- A literal's node is seen, or waits. -/
def Cov (S todo : List Int) (l : Int) : Prop := l / 2 ∈ S ∨ ∃ y ∈ todo, y / 2 = l / 2
structure Clo (g : LGraph) (S todo : List Int) : Prop where
  nd : S.Nodup
  rng : ∀ i ∈ S, 0 ≤ i ∧ i < nodesG g
  wait : ∀ x ∈ todo, 0 ≤ x ∧ x < 2 * nodesG g
  outs : ∀ x ∈ g.outs, Cov S todo x
  regs : ∀ (k : Nat) (r : LReg), g.regs[k]? = some r → (1 + (g.inn.length : Int) + k) ∈ S → Cov S todo r.next
  ands : ∀ (k : Nat) (p : Int × Int), g.ands[k]? = some p → (firstG g + k) ∈ S → Cov S todo p.1 ∧ Cov S todo p.2
theorem Cov.pop {S S' ts todo' : List Int} {x l : Int} (h : Cov S (ts ++ [x]) l) (hx : x / 2 ∈ S') (hS : ∀ i ∈ S, i ∈ S') (ht : ∀ y ∈ ts, y ∈ todo') : Cov S' todo' l := by
  rcases h with h | ⟨y, hy, e⟩
  · exact .inl (hS _ h)
  · rcases List.mem_append.1 hy with hy | hy
    · exact .inr ⟨y, ht y hy, e⟩
    · rw [List.mem_singleton.1 hy] at e
      exact .inl (e ▸ hx)
theorem Clo.skip {g : LGraph} {S ts : List Int} {x : Int} (h : Clo g S (ts ++ [x])) (hx : x / 2 ∈ S) : Clo g S ts :=
  ⟨h.nd, h.rng, fun y hy => h.wait y (List.mem_append_left _ hy), fun y hy => (h.outs y hy).pop hx (fun _ h => h) (fun _ h => h), fun k r h1 h2 => (h.regs k r h1 h2).pop hx (fun _ h => h) (fun _ h => h), fun k p h1 h2 => ⟨(h.ands k p h1 h2).1.pop hx (fun _ h => h) (fun _ h => h), (h.ands k p h1 h2).2.pop hx (fun _ h => h) (fun _ h => h)⟩⟩
theorem Clo.step {g : LGraph} {S ts : List Int} {x : Int} (h : Clo g S (ts ++ [x])) (hx : x / 2 ∉ S) (new : List Int) (hnew : ∀ y ∈ new, 0 ≤ y ∧ y < 2 * nodesG g)
    (hreg : ∀ (k : Nat) (r : LReg), g.regs[k]? = some r → 1 + (g.inn.length : Int) + k = x / 2 → r.next ∈ new) (hand : ∀ (k : Nat) (p : Int × Int), g.ands[k]? = some p → firstG g + k = x / 2 → p.1 ∈ new ∧ p.2 ∈ new) : Clo g (S ++ [x / 2]) (ts ++ new) := by
  have hin : x / 2 ∈ S ++ [x / 2] := by simp
  have hsub : ∀ i ∈ S, i ∈ S ++ [x / 2] := fun i hi => List.mem_append_left _ hi
  have hts : ∀ y ∈ ts, y ∈ ts ++ new := fun y hy => List.mem_append_left _ hy
  have hnw : ∀ l, l ∈ new → Cov (S ++ [x / 2]) (ts ++ new) l := fun l hl => .inr ⟨l, List.mem_append_right _ hl, rfl⟩
  refine ⟨?_, fun i hi => ?_, fun y hy => ?_, fun y hy => (h.outs y hy).pop hin hsub hts, fun k r h1 h2 => ?_, fun k p h1 h2 => ?_⟩
  · rw [List.nodup_append]
    exact ⟨h.nd, by simp, fun a ha b hb e => hx (by rw [List.mem_singleton] at hb; rw [← hb, ← e]; exact ha)⟩
  · rcases List.mem_append.1 hi with hi | hi
    · exact h.rng i hi
    · rw [List.mem_singleton.1 hi]
      have := h.wait x (by simp)
      omega
  · rcases List.mem_append.1 hy with hy | hy
    · exact h.wait y (List.mem_append_left _ hy)
    · exact hnew y hy
  · rcases List.mem_append.1 h2 with h2 | h2
    · exact (h.regs k r h1 h2).pop hin hsub hts
    · exact hnw _ (hreg k r h1 (List.mem_singleton.1 h2))
  · rcases List.mem_append.1 h2 with h2 | h2
    · exact ⟨(h.ands k p h1 h2).1.pop hin hsub hts, (h.ands k p h1 h2).2.pop hin hsub hts⟩
    · obtain ⟨q1, q2⟩ := hand k p h1 (List.mem_singleton.1 h2)
      exact ⟨hnw _ q1, hnw _ q2⟩
theorem Clo.start (g : LGraph) (hg : GraphOk g) : Clo g [] g.outs :=
  ⟨by simp, by simp, fun x hx => hg.outs x hx, fun x hx => .inr ⟨x, hx, rfl⟩, fun k r _ h => by simp at h, fun k p _ h => by simp at h⟩
theorem Clo.len {g : LGraph} {S todo : List Int} (h : Clo g S todo) : S.length ≤ 1 + g.inn.length + g.regs.length + g.ands.length := by
  have := pigeon S ((List.range (1 + g.inn.length + g.regs.length + g.ands.length)).map fun k : Nat => (k : Int)) h.nd fun x hx => by
    have h1 := h.rng x hx
    rw [List.mem_map]
    refine ⟨x.toNat, List.mem_range.2 ?_, by omega⟩
    unfold nodesG at h1
    omega
  simpa using this
/-- The map of the nodes that were seen. -/
def entS (l : List Int) : List (List Im × Im) := l.map fun i => ([.int .i64 i], .bool true)
theorem sameI_ne (s x : Int) (h : x ≠ s) : sameIm Tryd.prog 3 (.int .i64 s) (.int .i64 x) = some false := by
  simp only [sameIm, ty_3, Option.isSome_some, if_true]
  simpa using fun e : s = x => h e.symm
theorem sameI_eq (s : Int) : sameIm Tryd.prog 3 (.int .i64 s) (.int .i64 s) = some true := by
  simp only [sameIm, ty_3, Option.isSome_some, if_true]
  simp
theorem findS_none (s : Int) : ∀ (l : List Int) (i : Nat), s ∉ l → findIm Tryd.prog 3 (.int .i64 s) (entS l) i = some none
  | [], i, _ => rfl
  | x :: xs, i, h => by
    simp only [List.mem_cons, not_or] at h
    simp only [entS, List.map_cons, findIm, sameI_ne s x (fun e => h.1 e.symm)]
    exact findS_none s xs (i + 1) h.2
theorem findS_some (s : Int) : ∀ (l : List Int) (i : Nat), s ∈ l → ∃ k, findIm Tryd.prog 3 (.int .i64 s) (entS l) i = some (some (k, .bool true))
  | [], i, h => by simp at h
  | x :: xs, i, h => by
    by_cases e : x = s
    · subst e
      exact ⟨i, by simp only [entS, List.map_cons, findIm, sameI_eq]⟩
    · rcases List.mem_cons.1 h with h | h
      · exact absurd h.symm e
      · obtain ⟨k, h1⟩ := findS_some s xs (i + 1) h
        refine ⟨k, ?_⟩
        simp only [entS, List.map_cons, findIm, sameI_ne s x e]
        simpa only [entS] using h1
/-- The tables and the registers and ands that stay, behind the first i nodes. -/
def swpN (g : LGraph) (S : List Int) : Nat → List Int × List LReg × List (Int × Int)
  | 0 => ([], [], [])
  | i + 1 => if (i : Int) - (1 + (g.inn.length : Int)) < 0 then ((swpN g S i).1 ++ [2 * (i : Int)], (swpN g S i).2)
    else if (i : Int) ∈ S then
      (if (i : Int) - (1 + (g.inn.length : Int)) < (g.regs.length : Int) then
        ((swpN g S i).1 ++ [2 * (1 + (g.inn.length : Int) + (swpN g S i).2.1.length + (swpN g S i).2.2.length)], (swpN g S i).2.1 ++ [g.regs.getD ((i : Int) - (1 + (g.inn.length : Int))).toNat ⟨ByteArray.empty, 0, false⟩], (swpN g S i).2.2)
      else
        ((swpN g S i).1 ++ [2 * (1 + (g.inn.length : Int) + (swpN g S i).2.1.length + (swpN g S i).2.2.length)], (swpN g S i).2.1, (swpN g S i).2.2 ++ [(atV (swpN g S i).1 (g.ands.getD ((i : Int) - (1 + (g.inn.length : Int)) - (g.regs.length : Int)).toNat (0, 0)).1, atV (swpN g S i).1 (g.ands.getD ((i : Int) - (1 + (g.inn.length : Int)) - (g.regs.length : Int)).toNat (0, 0)).2)]))
    else ((swpN g S i).1 ++ [2 * (1 + (g.inn.length : Int) + (swpN g S i).2.1.length + (swpN g S i).2.2.length)], (swpN g S i).2)
abbrev nodN (g : LGraph) : Nat := 1 + g.inn.length + g.regs.length + g.ands.length
def swpG (g : LGraph) (S : List Int) : LGraph := ⟨g.inn, g.out, (swpN g S (nodN g)).2.1.map (mvR (swpN g S (nodN g)).1), (swpN g S (nodN g)).2.2, g.outs.map (atV (swpN g S (nodN g)).1)⟩
theorem swpN_regs (g : LGraph) (S : List Int) : ∀ i : Nat, i ≤ nodN g → ∀ r ∈ (swpN g S i).2.1, r ∈ g.regs
  | 0, _, r, h => by simp [swpN] at h
  | i + 1, hi, r, h => by
    have ih := swpN_regs g S i (by omega)
    rw [swpN] at h
    split at h
    · exact ih r h
    · split at h
      · split at h
        · rename_i h1 _ h2
          rcases List.mem_append.1 h with h | h
          · exact ih r h
          · rw [List.mem_singleton.1 h, List.getD_eq_getElem?_getD, List.getElem?_eq_getElem (by omega)]
            exact List.getElem_mem _
        · exact ih r h
      · exact ih r h
theorem swpN_len (g : LGraph) (S : List Int) : ∀ i : Nat, (swpN g S i).1.length = i ∧ (swpN g S i).2.1.length + (swpN g S i).2.2.length ≤ i ∧ ∀ x ∈ (swpN g S i).1, 0 ≤ x ∧ x ≤ 2 * (1 + (g.inn.length : Int) + i)
  | 0 => ⟨rfl, Nat.le_refl _, fun x h => by simp [swpN] at h⟩
  | i + 1 => by
    obtain ⟨h1, h2, h3⟩ := swpN_len g S i
    have h4 : ∀ y : Int, 0 ≤ y → y ≤ 2 * (1 + (g.inn.length : Int) + i) → ∀ x ∈ (swpN g S i).1 ++ [y], 0 ≤ x ∧ x ≤ 2 * (1 + (g.inn.length : Int) + (i + 1 : Nat)) := fun y y1 y2 x hx => by
      rcases List.mem_append.1 hx with h | h
      · have := h3 x h
        omega
      · rw [List.mem_singleton.1 h]
        omega
    rw [swpN]
    split
    · exact ⟨by simp [h1], by simp only; omega, h4 _ (by omega) (by omega)⟩
    · split
      · split
        · exact ⟨by simp [h1], by simp only [List.length_append, List.length_cons, List.length_nil]; omega, h4 _ (by omega) (by omega)⟩
        · exact ⟨by simp [h1], by simp only [List.length_append, List.length_cons, List.length_nil]; omega, h4 _ (by omega) (by omega)⟩
      · exact ⟨by simp [h1], by simp only; omega, h4 _ (by omega) (by omega)⟩
theorem Sweep_ok (g : LGraph) (hg : GraphOk g) (up : Frs) : ACalls Tryd.prog 10 [g.pv] up fun v u => ∃ S, Clo g S [] ∧ v = .tup [(swpG g S).pv, .i 0] ∧ u = up := by
  obtain ⟨z1, z2, z3, z4, z5⟩ := hg.small
  have hsm := hg.small
  obtain ⟨NN, hNN⟩ : ∃ NN, NN = 1 + g.inn.length + g.regs.length + g.ands.length := ⟨_, rfl⟩
  have w1 : IntKind.i64.wrap (1 + (g.inn.length : Int)) = 1 + (g.inn.length : Int) := wrap64 (by omega)
  refine ACalls.code Tryd.func10 rfl 232 rfl (by simp) [.cell 2 31, .tmp 3] rfl fun Q hQ => ?_
  simp only [ups, PV.up, argEnv]
  have ft := And.intro ty_2 (And.intro ty_3 (And.intro ty_4 (And.intro ty_9 (And.intro ty_26 (And.intro ty_27 (And.intro ty_28 (And.intro ty_29 (And.intro ty_31 (And.intro ty_35 (And.intro ty_51 (And.intro ty_54 (And.intro ty_56 (And.intro ty_67 trivial)))))))))))))
  refine Run.seq ?_
  have fx := And.intro nd_len (And.intro rim_len (And.intro strs_len (And.intro w1 ft)))
  refine Run.go ?_
  refine End.kp [1, 2] ?_
  refine Run.seq ?_
  refine Run.seq ?_
  refine Run.region rfl fun K hK => GOps.sim ?_
  refine GOps.call rfl rfl rfl rfl (by kernel_rfl) (ACalls.sim ?_)
  refine (Check_ok g hg _).mono fun v u hv => ?_
  obtain ⟨rfl, rfl⟩ := hv
  refine ⟨_, _, rfl, GOps.sim ?_⟩
  refine GOps.done (hK _ ?_); clear hK K
  refine End.kp [1, 2, 4] ?_
  refine Run.seq ?_
  refine Run.go ?_
  refine End.kp [1, 2, 4, 24] ?_
  refine Run.cond _ rfl (fun hb => ?_) (fun hb => ?_)
  · have hb2 := hb
    simp at hb
  · have hb2 := hb
    refine Run.skip ?_
    refine End.kp [1, 2] ?_
    refine Run.seq ?_
    have fx := And.intro nd_len (And.intro rim_len (And.intro strs_len (And.intro w1 ft)))
    refine Run.go ?_
    refine End.kp [1, 2, 5] ?_
    refine Run.seq ?_
    refine Run.go ?_
    refine End.kp [1, 2, 5, 6] ?_
    refine Run.seq ?_
    refine Run.region rfl fun K hK => GOps.sim ?_
    refine GOps.call rfl rfl rfl rfl (by kernel_rfl) (ACalls.sim ?_)
    refine (CloneLX_ok g.outs (by omega) _ _).mono fun v u hv => ?_
    obtain ⟨rfl, rfl⟩ := hv
    refine ⟨_, _, rfl, GOps.sim ?_⟩
    refine GOps.done (hK _ ?_); clear hK K
    refine End.kp [1, 2, 5, 6, 7] ?_
    refine Run.seq ?_
    refine Run.block ?_
    refine Run.ghost (Ghost.form [(1, .ptr 0 0 0), (2, .ptr 0 1 0), (5, .i (1 + (g.inn.length : Int))), (6, .map 0 2), (7, .ms 0 3 g.outs.length)] 4 ⟨rfl, rfl, rfl, rfl, rfl, trivial⟩ rfl rfl) ?_
    refine Run.loop (fun m st => ∃ S todo : List Int, m = todo.length + 3 * (NN - S.length) ∧ todo.length + 3 * (NN - S.length) ≤ g.outs.length + 3 * NN ∧ Clo g S todo ∧ st = ⟨[(1, .ptr 0 0 0), (2, .ptr 0 1 0), (5, .i (1 + (g.inn.length : Int))), (6, .map 0 2), (7, .ms 0 3 todo.length)], [.box [.im (.sl (strs g.inn)), .im (.sl (strs g.out)), .im (.sl (g.regs.map LReg.im)), .im (.sl (g.ands.map nd)), .im (.sl (ints g.outs))], .box [.nils, .nils, .nils, .nils, .nils], .map (entS S), .row 51 1 (ints todo) 0], up⟩) _ ⟨[], g.outs, rfl, by simp, Clo.start g hg, rfl⟩ fun m st hI => ?_
    obtain ⟨S, todo, rfl, hm, hC, rfl⟩ := hI
    have hSl := hC.len
    refine Run.seq ?_
    refine Run.seq ?_
    have fx := And.intro nd_len (And.intro rim_len (And.intro strs_len (And.intro w1 ft)))
    refine Run.go ?_
    refine End.kp [1, 2, 5, 6, 7, 37] ?_
    refine Run.cond _ rfl (fun hb => ?_) (fun hb => ?_)
    · have hb2 := of_decide_eq_true hb
      obtain ⟨ts, x, rfl⟩ : ∃ ts x, todo = ts ++ [x] := ⟨todo.dropLast, todo.getLast (by rintro rfl; simp at hb2), (List.dropLast_concat_getLast _).symm⟩
      obtain ⟨x0, x1⟩ := hC.wait x (by simp)
      unfold nodesG at x1
      have hd := tdiv2 x x0 (by omega)
      have hln : (((ts ++ [x]).length : Nat) : Int) - 1 = (ts.length : Int) := by simp
      have wln : IntKind.i64.wrap (ts.length : Int) = (ts.length : Int) := wrap64 (by simp only [List.length_append, List.length_cons, List.length_nil] at hm; omega)
      have hgt : (ints (ts ++ [x]))[ts.length]? = some [.int .i64 x] := by simp
      have htl : (ts.length : Int) < ((ts ++ [x]).length : Nat) := by simp; omega
      have hll : (ints (ts ++ [x])).length = (ts ++ [x]).length := ints_len _
      have htk : (ints (ts ++ [x])).take ts.length = ints ts := by simp
      refine Run.skip ?_
      refine End.kp [1, 2, 5, 6, 7] ?_
      refine Run.block ?_
      refine Run.seq ?_
      have fx := And.intro (@Int.toNat_natCast) (And.intro (@Int.natCast_nonneg) (And.intro hll (And.intro htl (And.intro hgt (And.intro wln (And.intro hln (And.intro hd (And.intro nd_len (And.intro rim_len (And.intro strs_len (And.intro w1 ft)))))))))))
      refine Run.go ?_
      refine End.kp [1, 2, 5, 6, 7, 8] ?_
      refine Run.seq ?_
      refine Run.region rfl fun K hK => GOps.simK 4 ?_
      refine GOps.pop [(1, .ptr 0 0 0), (2, .ptr 0 1 0), (5, .i (1 + (g.inn.length : Int))), (6, .map 0 2), (8, .i (x / 2))] [.box [.im (.sl (strs g.inn)), .im (.sl (strs g.out)), .im (.sl (g.regs.map LReg.im)), .im (.sl (g.ands.map nd)), .im (.sl (ints g.outs))], .box [.nils, .nils, .nils, .nils, .nils], .map (entS S)] ts.length ?_ ⟨rfl, rfl, rfl, rfl, rfl, trivial⟩ (by rw [hll]; simp) (by simp) (by rw [hll]; rfl) rfl
      rw [htk]
      refine GOps.sim ?_
      refine GOps.done (hK _ ?_); clear hK K
      refine End.kp [1, 2, 5, 6, 7, 8] ?_
      refine Run.seq ?_
      refine Run.seq ?_
      rcases Bool.eq_false_or_eq_true (decide (x / 2 ∈ S)) with hs10 | hs10
      · skip
        have hxS := of_decide_eq_true hs10
        obtain ⟨q, hf1⟩ := findS_some (x / 2) S 0 hxS
        have fx := And.intro hf1 (And.intro hs10 (And.intro (@Int.toNat_natCast) (And.intro (@Int.natCast_nonneg) (And.intro hll (And.intro htl (And.intro hgt (And.intro wln (And.intro hln (And.intro hd (And.intro nd_len (And.intro rim_len (And.intro strs_len (And.intro w1 ft)))))))))))))
        refine Run.go ?_
        refine End.kp [1, 2, 5, 6, 7, 8, 52] ?_
        refine Run.cond _ rfl (fun hb => ?_) (fun hb => ?_)
        · have hb3 := hb
          refine Run.exit rfl ?_
          refine End.lp ?_
          refine ⟨ts.length + 3 * (NN - S.length), _, by simp, Ghost.form [(1, .ptr 0 0 0), (2, .ptr 0 1 0), (5, .i (1 + (g.inn.length : Int))), (6, .map 0 2), (7, .ms 0 3 ts.length)] 4 ⟨rfl, rfl, rfl, rfl, rfl, trivial⟩ rfl rfl, S, ts, rfl, by simp only [List.length_append, List.length_cons, List.length_nil] at hm; omega, hC.skip hxS, rfl⟩
        · have hb3 := hb
          simp at hb
      · skip
        have hxS := of_decide_eq_false hs10
        have hf1 := findS_none (x / 2) S 0 hxS
        have w3 : IntKind.i64.wrap (x / 2 - (1 + (g.inn.length : Int))) = x / 2 - (1 + (g.inn.length : Int)) := wrap64 (by omega)
        have w4 : IntKind.i64.wrap (x / 2 - (1 + (g.inn.length : Int)) - (g.regs.length : Int)) = x / 2 - (1 + (g.inn.length : Int)) - g.regs.length := wrap64 (by omega)
        simp only [List.length_append, List.length_cons, List.length_nil] at hm
        have hol : (ints ts).length = ts.length := ints_len _
        have hap1 : (ts.length + 1) * 8 ≤ 140737488355328 := by omega
        have hap2 : (ts.length + 2) * 8 ≤ 140737488355328 := by omega
        have fx := And.intro hf1 (And.intro hs10 (And.intro (@Int.toNat_natCast) (And.intro (@Int.natCast_nonneg) (And.intro hll (And.intro htl (And.intro hgt (And.intro wln (And.intro hln (And.intro hd (And.intro nd_len (And.intro rim_len (And.intro strs_len (And.intro w1 ft)))))))))))))
        refine Run.go ?_
        refine End.kp [1, 2, 5, 6, 7, 8, 52] ?_
        refine Run.cond _ rfl (fun hb => ?_) (fun hb => ?_)
        · have hb3 := hb
          simp at hb
        · have hb3 := hb
          refine Run.skip ?_
          refine End.kp [1, 2, 5, 6, 7, 8] ?_
          refine Run.seq ?_
          have fx := And.intro (@ge_iff_le Int _) (And.intro hap2 (And.intro hap1 (And.intro hol (And.intro w4 (And.intro w3 (And.intro hf1 (And.intro hs10 (And.intro (@Int.toNat_natCast) (And.intro (@Int.natCast_nonneg) (And.intro hll (And.intro htl (And.intro hgt (And.intro wln (And.intro hln (And.intro hd (And.intro nd_len (And.intro rim_len (And.intro strs_len (And.intro w1 ft)))))))))))))))))))
          refine Run.go ?_
          refine End.kp [1, 2, 5, 6, 7, 8] ?_
          refine Run.seq ?_
          refine Run.go ?_
          refine End.kp [1, 2, 5, 6, 7, 9] ?_
          refine Run.block ?_
          refine Run.seq ?_
          refine Run.go ?_
          refine End.kp [1, 2, 5, 6, 7, 9, 58] ?_
          refine Run.cond _ rfl (fun hb => ?_) (fun hb => ?_)
          · have hb4 := of_decide_eq_true hb
            obtain ⟨p, hp, hpm, hgt2⟩ := node_at g.ands (x / 2 - (1 + (g.inn.length : Int)) - (g.regs.length : Int)).toNat (by omega)
            have j0 : 0 ≤ x / 2 - (1 + (g.inn.length : Int)) - (g.regs.length : Int) := by omega
            have j1 : x / 2 - (1 + (g.inn.length : Int)) - (g.regs.length : Int) < (g.ands.length : Int) := by omega
            obtain ⟨⟨p0, p1⟩, p2, p3⟩ := hg.ands _ p hp
            have hC2 : Clo g (S ++ [x / 2]) (ts ++ [p.1, p.2]) := by
              refine hC.step hxS [p.1, p.2] (fun y hy => ?_) (fun k r h1 h2 => ?_) (fun k p' h1 h2 => ?_)
              · unfold nodesG
                simp only [List.mem_cons, List.not_mem_nil, or_false] at hy
                rcases hy with rfl | rfl <;> omega
              · have := (List.getElem?_eq_some_iff.1 h1).1
                omega
              · unfold firstG at h2
                rw [show (x / 2 - (1 + (g.inn.length : Int)) - (g.regs.length : Int)).toNat = k by omega, h1] at hp
                cases hp
                simp
            have hl2 := hC2.len
            simp only [List.length_append, List.length_cons, List.length_nil] at hl2
            refine Run.seq ?_
            have fx := And.intro j1 (And.intro j0 (And.intro hgt2 (And.intro (@ge_iff_le Int _) (And.intro hap2 (And.intro hap1 (And.intro hol (And.intro w4 (And.intro w3 (And.intro hf1 (And.intro hs10 (And.intro (@Int.toNat_natCast) (And.intro (@Int.natCast_nonneg) (And.intro hll (And.intro htl (And.intro hgt (And.intro wln (And.intro hln (And.intro hd (And.intro nd_len (And.intro rim_len (And.intro strs_len (And.intro w1 ft))))))))))))))))))))))
            refine Run.go ?_
            refine End.kp [1, 2, 5, 6, 7, 10] ?_
            refine Run.go ?_
            refine End.blk ?_
            refine End.blk ?_
            refine End.lp ?_
            refine ⟨ts.length + 2 + 3 * (NN - (S.length + 1)), _, by simp only [List.length_append, List.length_cons, List.length_nil]; omega, Ghost.form [(1, .ptr 0 0 0), (2, .ptr 0 1 0), (5, .i (1 + (g.inn.length : Int))), (6, .map 0 2), (7, .ms 0 3 (ts.length + 2))] 4 ⟨rfl, rfl, rfl, rfl, rfl, trivial⟩ rfl rfl, S ++ [x / 2], ts ++ [p.1, p.2], by simp, by simp only [List.length_append, List.length_cons, List.length_nil]; omega, hC2, ?_⟩
            simp [entS, putIm]
          · have hb4 := of_decide_eq_false hb
            refine Run.seq ?_
            have fx := And.intro (@ge_iff_le Int _) (And.intro hap2 (And.intro hap1 (And.intro hol (And.intro w4 (And.intro w3 (And.intro hf1 (And.intro hs10 (And.intro (@Int.toNat_natCast) (And.intro (@Int.natCast_nonneg) (And.intro hll (And.intro htl (And.intro hgt (And.intro wln (And.intro hln (And.intro hd (And.intro nd_len (And.intro rim_len (And.intro strs_len (And.intro w1 ft)))))))))))))))))))
            refine Run.go ?_
            refine End.kp [1, 2, 5, 6, 7, 9, 80] ?_
            refine Run.cond _ rfl (fun hb => ?_) (fun hb => ?_)
            · have hb5 := of_decide_eq_true hb
              obtain ⟨r, hr, hrm, hgt2⟩ := reg_at g.regs (x / 2 - (1 + (g.inn.length : Int))).toNat (by omega)
              have j1 : x / 2 - (1 + (g.inn.length : Int)) < (g.regs.length : Int) := by omega
              have hrr := hg.regs r hrm
              have hC2 : Clo g (S ++ [x / 2]) (ts ++ [r.next]) := by
                refine hC.step hxS [r.next] (fun y hy => ?_) (fun k r' h1 h2 => ?_) (fun k p' h1 h2 => ?_)
                · unfold nodesG
                  simp only [List.mem_cons, List.not_mem_nil, or_false] at hy
                  rw [hy]
                  omega
                · rw [show (x / 2 - (1 + (g.inn.length : Int))).toNat = k by omega, h1] at hr
                  cases hr
                  simp
                · unfold firstG at h2
                  omega
              have hl2 := hC2.len
              simp only [List.length_append, List.length_cons, List.length_nil] at hl2
              have fx := And.intro hb5 (And.intro j1 (And.intro hgt2 (And.intro (@ge_iff_le Int _) (And.intro hap2 (And.intro hap1 (And.intro hol (And.intro w4 (And.intro w3 (And.intro hf1 (And.intro hs10 (And.intro (@Int.toNat_natCast) (And.intro (@Int.natCast_nonneg) (And.intro hll (And.intro htl (And.intro hgt (And.intro wln (And.intro hln (And.intro hd (And.intro nd_len (And.intro rim_len (And.intro strs_len (And.intro w1 ft))))))))))))))))))))))
              refine Run.go ?_
              refine End.blk ?_
              refine End.blk ?_
              refine End.lp ?_
              refine ⟨ts.length + 1 + 3 * (NN - (S.length + 1)), _, by simp only [List.length_append, List.length_cons, List.length_nil]; omega, Ghost.form [(1, .ptr 0 0 0), (2, .ptr 0 1 0), (5, .i (1 + (g.inn.length : Int))), (6, .map 0 2), (7, .ms 0 3 (ts.length + 1))] 4 ⟨rfl, rfl, rfl, rfl, rfl, trivial⟩ rfl rfl, S ++ [x / 2], ts ++ [r.next], by simp, by simp only [List.length_append, List.length_cons, List.length_nil]; omega, hC2, ?_⟩
              simp [entS, putIm]
            · have hb5 := of_decide_eq_false hb
              have hC2 : Clo g (S ++ [x / 2]) (ts ++ []) := by
                refine hC.step hxS [] (fun y hy => by simp at hy) (fun k r' h1 h2 => ?_) (fun k p' h1 h2 => ?_)
                · omega
                · unfold firstG at h2
                  omega
              rw [List.append_nil] at hC2
              have hl2 := hC2.len
              simp only [List.length_append, List.length_cons, List.length_nil] at hl2
              refine Run.skip ?_
              refine End.blk ?_
              refine End.blk ?_
              refine End.lp ?_
              refine ⟨ts.length + 3 * (NN - (S.length + 1)), _, by simp only [List.length_append, List.length_cons, List.length_nil]; omega, Ghost.form [(1, .ptr 0 0 0), (2, .ptr 0 1 0), (5, .i (1 + (g.inn.length : Int))), (6, .map 0 2), (7, .ms 0 3 ts.length)] 4 ⟨rfl, rfl, rfl, rfl, rfl, trivial⟩ rfl rfl, S ++ [x / 2], ts, by simp, by simp only [List.length_append, List.length_cons, List.length_nil]; omega, hC2, ?_⟩
              simp [entS, putIm]
    · have hb2 := of_decide_eq_false hb
      have htd : todo = [] := by
        cases todo with
        | nil => rfl
        | cons x l => simp at hb2
      subst htd
      refine Run.exit rfl ?_
      refine End.kp [1, 2, 5, 6] ?_
      refine Run.seq ?_
      have fx := And.intro nd_len (And.intro rim_len (And.intro strs_len (And.intro w1 ft)))
      refine Run.go ?_
      refine End.kp [1, 2, 5, 6, 11] ?_
      refine Run.seq ?_
      refine Run.ghost (Ghost.form [(1, .ptr 0 0 0), (2, .ptr 0 1 0), (5, .i (1 + (g.inn.length : Int))), (6, .map 0 2), (11, .nils)] 3 ⟨rfl, rfl, rfl, rfl, rfl, trivial⟩ rfl rfl) ?_
      refine Run.ghost (.spares 1) ?_
      simp only [ASt.pushN, ASt.push, List.append_assoc, List.cons_append, List.nil_append]
      have fx := And.intro nd_len (And.intro rim_len (And.intro strs_len (And.intro w1 ft)))
      refine Run.drawA fun K hK => ?_
      refine DOps.sim ?_
      refine DOps.call (.im (.sl (strs g.inn))) [] [] rfl rfl rfl rfl (by kernel_rfl) (by simp [Agree]) (fun u hu => CloneS_ok g.inn (by omega) u) ?_
      refine DOps.sim ?_
      refine DOps.call (.im (.sl (strs g.out))) [] [] rfl rfl rfl rfl (by kernel_rfl) (by simp [Agree]) (fun u hu => CloneS_ok g.out (by omega) u) ?_
      refine DOps.sim ?_
      refine DOps.nil (by rfl) (hK _ ?_); clear hK K
      refine End.kp [1, 2, 5, 6, 11, 12] ?_
      refine Run.seq ?_
      refine Run.seq ?_
      refine Run.region rfl fun K hK => GOps.sim ?_
      refine GOps.call rfl rfl rfl rfl (by kernel_rfl) (ACalls.sim ?_)
      refine (GNodes_ok g hsm _).mono fun v u hv => ?_
      obtain ⟨rfl, rfl⟩ := hv
      refine ⟨_, _, rfl, GOps.sim ?_⟩
      refine GOps.done (hK _ ?_); clear hK K
      refine End.kp [1, 2, 5, 6, 11, 12, 100, 101] ?_
      refine Run.block ?_
      refine Run.ghost (Ghost.form [(1, .ptr 0 0 0), (2, .ptr 0 1 0), (5, .i (1 + (g.inn.length : Int))), (6, .map 0 2), (11, .nils), (12, .ptr 0 3 0), (100, .i (1 + (g.inn.length : Int) + g.regs.length + g.ands.length)), (101, .i (0 : Nat))] 4 ⟨rfl, rfl, rfl, rfl, rfl, rfl, rfl, rfl, trivial⟩ rfl rfl) ?_
      refine Run.ghost (Ghost.thaw (u := 11) 51 1 (by decide) rfl) ?_
      refine Run.ghost (.thawBox (j := 3) (i := 2) 56 3 (by decide) rfl rfl) ?_
      refine Run.ghost (.thawBox (j := 3) (i := 3) 54 2 (by decide) rfl rfl) ?_
      refine Run.ghost (.thawBox (j := 3) (i := 4) 51 1 (by decide) rfl rfl) ?_
      refine Run.ghost (Ghost.form [(1, .ptr 0 0 0), (2, .ptr 0 1 0), (5, .i (1 + (g.inn.length : Int))), (6, .map 0 2), (11, .ms 0 4 0), (12, .ptr 0 3 0), (100, .i (1 + (g.inn.length : Int) + g.regs.length + g.ands.length)), (101, .i (0 : Nat))] 8 ⟨rfl, rfl, rfl, rfl, rfl, rfl, rfl, rfl, trivial⟩ rfl rfl) ?_
      refine Run.loop (fun m st => ∃ (i : Nat) (to : List Int) (R : List LReg) (A : List (Int × Int)), m = NN - i ∧ i ≤ NN ∧ swpN g S i = (to, R, A) ∧ st = ⟨[(1, .ptr 0 0 0), (2, .ptr 0 1 0), (5, .i (1 + (g.inn.length : Int))), (6, .map 0 2), (11, .ms 0 4 to.length), (12, .ptr 0 3 0), (100, .i (1 + (g.inn.length : Int) + g.regs.length + g.ands.length)), (101, .i (i : Nat))], [.box [.im (.sl (strs g.inn)), .im (.sl (strs g.out)), .im (.sl (g.regs.map LReg.im)), .im (.sl (g.ands.map nd)), .im (.sl (ints g.outs))], .box [.nils, .nils, .nils, .nils, .nils], .map (entS S), .box [.im (.sl (strs g.inn)), .im (.sl (strs g.out)), .ms 0 5 (R).length, .ms 0 6 (A).length, .ms 0 7 0], rowO (to), rowR (R), rowA (A), .row 51 1 [] 0], up⟩) NN ⟨0, [], [], [], rfl, by omega, rfl, rfl⟩ fun m st hI => ?_
      obtain ⟨i, to, R, A, rfl, hi, hsw, rfl⟩ := hI
      obtain ⟨l1, l2, l3⟩ := swpN_len g S i
      rw [hsw] at l1 l2 l3
      simp only at l1 l2 l3
      have htL : (ints to).length = to.length := ints_len _
      have hap1 : (to.length + 1) * 8 ≤ 140737488355328 := by omega
      have hap2 : (R.length + 1) * 32 ≤ 140737488355328 := by omega
      have hap3 : (A.length + 1) * 16 ≤ 140737488355328 := by omega
      have wa : IntKind.i64.wrap (1 + (g.inn.length : Int) + R.length) = 1 + (g.inn.length : Int) + R.length := wrap64 (by omega)
      have wb : IntKind.i64.wrap (1 + (g.inn.length : Int) + R.length + A.length) = 1 + (g.inn.length : Int) + R.length + A.length := wrap64 (by omega)
      have wc : IntKind.i64.wrap (2 * (1 + (g.inn.length : Int) + R.length + A.length)) = 2 * (1 + (g.inn.length : Int) + R.length + A.length) := wrap64 (by omega)
      have we : IntKind.i64.wrap ((i : Int) - (1 + (g.inn.length : Int))) = (i : Int) - (1 + (g.inn.length : Int)) := wrap64 (by omega)
      have wf : IntKind.i64.wrap (2 * (i : Int)) = 2 * (i : Int) := wrap64 (by omega)
      have wg : IntKind.i64.wrap ((i : Int) - (1 + (g.inn.length : Int)) - (g.regs.length : Int)) = (i : Int) - (1 + (g.inn.length : Int)) - g.regs.length := wrap64 (by omega)
      refine Run.seq ?_
      have fx := And.intro (@Int.toNat_natCast) (And.intro (@Int.natCast_nonneg) (And.intro wg (And.intro wf (And.intro we (And.intro wc (And.intro wb (And.intro wa (And.intro hap3 (And.intro hap2 (And.intro hap1 (And.intro htL (And.intro nd_len (And.intro rim_len (And.intro strs_len (And.intro w1 ft)))))))))))))))
      refine Run.go ?_
      refine End.kp [1, 2, 5, 6, 11, 12, 100, 101, 102] ?_
      refine Run.seq ?_
      refine Run.cond _ rfl (fun hb => ?_) (fun hb => ?_)
      · have hb3 := of_decide_eq_true hb
        have hin : i < NN := by omega
        have wi := wsucc hin (by omega)
        refine Run.skip ?_
        refine End.kp [1, 2, 5, 6, 11, 12, 100, 101] ?_
        refine Run.seq ?_
        refine Run.block ?_
        refine Run.seq ?_
        have fx := And.intro wi (And.intro (@Int.toNat_natCast) (And.intro (@Int.natCast_nonneg) (And.intro wg (And.intro wf (And.intro we (And.intro wc (And.intro wb (And.intro wa (And.intro hap3 (And.intro hap2 (And.intro hap1 (And.intro htL (And.intro nd_len (And.intro rim_len (And.intro strs_len (And.intro w1 ft))))))))))))))))
        refine Run.go ?_
        refine End.kp [1, 2, 5, 6, 11, 12, 13, 100, 101] ?_
        refine Run.seq ?_
        refine Run.go ?_
        refine End.kp [1, 2, 5, 6, 11, 12, 13, 14, 100, 101] ?_
        refine Run.seq ?_
        refine Run.seq ?_
        refine Run.go ?_
        refine End.kp [1, 2, 5, 6, 11, 12, 13, 14, 15, 100, 101] ?_
        refine Run.block ?_
        refine Run.seq ?_
        refine Run.go ?_
        refine End.kp [1, 2, 5, 6, 11, 12, 13, 14, 15, 100, 101, 152] ?_
        refine Run.cond _ rfl (fun hb => ?_) (fun hb => ?_)
        · have hb4 := of_decide_eq_true hb
          have hnx : swpN g S (i + 1) = (to ++ [2 * (i : Int)], R, A) := by rw [swpN, if_pos hb4, hsw]
          refine Run.seq ?_
          have fx := And.intro wi (And.intro (@Int.toNat_natCast) (And.intro (@Int.natCast_nonneg) (And.intro wg (And.intro wf (And.intro we (And.intro wc (And.intro wb (And.intro wa (And.intro hap3 (And.intro hap2 (And.intro hap1 (And.intro htL (And.intro nd_len (And.intro rim_len (And.intro strs_len (And.intro w1 ft))))))))))))))))
          refine Run.go ?_
          refine End.kp [1, 2, 5, 6, 11, 12, 100, 101] ?_
          refine Run.exit rfl ?_
          refine End.kp [1, 2, 5, 6, 11, 12, 100, 101] ?_
          refine Run.go ?_
          refine End.lp ?_
          refine ⟨NN - (i + 1), _, by omega, Ghost.form [(1, .ptr 0 0 0), (2, .ptr 0 1 0), (5, .i (1 + (g.inn.length : Int))), (6, .map 0 2), (11, .ms 0 4 (to.length + 1)), (12, .ptr 0 3 0), (100, .i (1 + (g.inn.length : Int) + g.regs.length + g.ands.length)), (101, .i (i + 1 : Nat))] 8 ⟨rfl, rfl, rfl, rfl, rfl, rfl, rfl, rfl, trivial⟩ rfl rfl, i + 1, to ++ [2 * (i : Int)], R, A, rfl, by omega, hnx, ?_⟩
          simp
        · have hb4 := of_decide_eq_false hb
          refine Run.seq ?_
          rcases Bool.eq_false_or_eq_true (decide ((i : Int) ∈ S)) with hs29 | hs29
          · skip
            have hxS := of_decide_eq_true hs29
            obtain ⟨q, hf1⟩ := findS_some (i : Int) S 0 hxS
            have fx := And.intro hf1 (And.intro hs29 (And.intro wi (And.intro (@Int.toNat_natCast) (And.intro (@Int.natCast_nonneg) (And.intro wg (And.intro wf (And.intro we (And.intro wc (And.intro wb (And.intro wa (And.intro hap3 (And.intro hap2 (And.intro hap1 (And.intro htL (And.intro nd_len (And.intro rim_len (And.intro strs_len (And.intro w1 ft))))))))))))))))))
            refine Run.go ?_
            refine End.kp [1, 2, 5, 6, 11, 12, 14, 15, 100, 101, 160] ?_
            refine Run.cond _ rfl (fun hb => ?_) (fun hb => ?_)
            · have hb5 := hb
              simp at hb
            · have hb5 := hb
              refine Run.seq ?_
              have fx := And.intro hf1 (And.intro hs29 (And.intro wi (And.intro (@Int.toNat_natCast) (And.intro (@Int.natCast_nonneg) (And.intro wg (And.intro wf (And.intro we (And.intro wc (And.intro wb (And.intro wa (And.intro hap3 (And.intro hap2 (And.intro hap1 (And.intro htL (And.intro nd_len (And.intro rim_len (And.intro strs_len (And.intro w1 ft))))))))))))))))))
              refine Run.go ?_
              refine End.kp [1, 2, 5, 6, 11, 12, 14, 15, 100, 101, 165] ?_
              refine Run.cond _ rfl (fun hb => ?_) (fun hb => ?_)
              · have hb6 := of_decide_eq_true hb
                obtain ⟨r, hr, hrm, hgt⟩ := reg_at g.regs ((i : Int) - (1 + (g.inn.length : Int))).toNat (by omega)
                have j0 : 0 ≤ (i : Int) - (1 + (g.inn.length : Int)) := by omega
                have hrd : g.regs.getD ((i : Int) - (1 + (g.inn.length : Int))).toNat ⟨ByteArray.empty, 0, false⟩ = r := by rw [List.getD_eq_getElem?_getD, hr]; rfl
                have hnx : swpN g S (i + 1) = (to ++ [2 * (1 + (g.inn.length : Int) + R.length + A.length)], R ++ [r], A) := by rw [swpN, if_neg hb4, if_pos hxS, if_pos hb6, hsw, hrd]
                refine Run.ghost (.spares 1) ?_
                simp only [ASt.pushN, ASt.push, List.append_assoc, List.cons_append, List.nil_append]
                have fx := And.intro hb6 (And.intro j0 (And.intro hgt (And.intro hf1 (And.intro hs29 (And.intro wi (And.intro (@Int.toNat_natCast) (And.intro (@Int.natCast_nonneg) (And.intro wg (And.intro wf (And.intro we (And.intro wc (And.intro wb (And.intro wa (And.intro hap3 (And.intro hap2 (And.intro hap1 (And.intro htL (And.intro nd_len (And.intro rim_len (And.intro strs_len (And.intro w1 ft)))))))))))))))))))))
                refine Run.drawA fun K hK => ?_
                refine DOps.sim ?_
                refine DOps.nil (by rfl) (hK _ ?_); clear hK K
                refine End.blk ?_
                refine End.kp [1, 2, 5, 6, 11, 12, 14, 100, 101] ?_
                refine Run.go ?_
                refine End.blk ?_
                refine End.kp [1, 2, 5, 6, 11, 12, 100, 101] ?_
                refine Run.go ?_
                refine End.lp ?_
                refine ⟨NN - (i + 1), _, by omega, Ghost.form [(1, .ptr 0 0 0), (2, .ptr 0 1 0), (5, .i (1 + (g.inn.length : Int))), (6, .map 0 2), (11, .ms 0 4 (to.length + 1)), (12, .ptr 0 3 0), (100, .i (1 + (g.inn.length : Int) + g.regs.length + g.ands.length)), (101, .i (i + 1 : Nat))] 8 ⟨rfl, rfl, rfl, rfl, rfl, rfl, rfl, rfl, trivial⟩ rfl rfl, i + 1, to ++ [2 * (1 + (g.inn.length : Int) + R.length + A.length)], R ++ [r], A, rfl, by omega, hnx, ?_⟩
                simp
              · have hb6 := of_decide_eq_false hb
                obtain ⟨p, hp, hpm, hgt⟩ := node_at g.ands ((i : Int) - (1 + (g.inn.length : Int)) - (g.regs.length : Int)).toNat (by omega)
                have j0 : 0 ≤ (i : Int) - (1 + (g.inn.length : Int)) - (g.regs.length : Int) := by omega
                have j1 : (i : Int) - (1 + (g.inn.length : Int)) - (g.regs.length : Int) < (g.ands.length : Int) := by omega
                have hpd : g.ands.getD ((i : Int) - (1 + (g.inn.length : Int)) - (g.regs.length : Int)).toNat (0, 0) = p := by rw [List.getD_eq_getElem?_getD, hp]; rfl
                obtain ⟨⟨p0, p1⟩, p2, p3⟩ := hg.ands _ p hp
                have hto : ToOk to := fun x hx => by have := l3 x hx; omega
                have hda := tdiv2 p.1 p0 (by omega)
                have hdb := tdiv2 p.2 p2 (by omega)
                have hma : p.1.tmod 2 = p.1 % 2 := tmod2 p.1 p0
                have hmb : p.2.tmod 2 = p.2 % 2 := tmod2 p.2 p2
                have wma : IntKind.i64.wrap (p.1 % 2) = p.1 % 2 := wrap64 (by omega)
                have wmb : IntKind.i64.wrap (p.2 % 2) = p.2 % 2 := wrap64 (by omega)
                have ha0 : 0 ≤ p.1 / 2 := by omega
                have hb0 : 0 ≤ p.2 / 2 := by omega
                have hal : p.1 / 2 < (to.length : Int) := by omega
                have hbl : p.2 / 2 < (to.length : Int) := by omega
                have hva := ints_get to (p.1 / 2).toNat (by omega)
                have hvb := ints_get to (p.2 / 2).toNat (by omega)
                have hga := hto.get (p.1 / 2).toNat
                have hgb := hto.get (p.2 / 2).toNat
                have hxa := xor_at to p.1 (by omega)
                have hxb := xor_at to p.2 (by omega)
                have hnx : swpN g S (i + 1) = (to ++ [2 * (1 + (g.inn.length : Int) + R.length + A.length)], R, A ++ [(atV to p.1, atV to p.2)]) := by rw [swpN, if_neg hb4, if_pos hxS, if_neg hb6, hsw, hpd]
                refine Run.seq ?_
                have fx := And.intro hxb (And.intro hxa (And.intro hvb (And.intro hva (And.intro hbl (And.intro hal (And.intro hb0 (And.intro ha0 (And.intro wmb (And.intro wma (And.intro hmb (And.intro hma (And.intro hdb (And.intro hda (And.intro j1 (And.intro j0 (And.intro hgt (And.intro hf1 (And.intro hs29 (And.intro wi (And.intro (@Int.toNat_natCast) (And.intro (@Int.natCast_nonneg) (And.intro wg (And.intro wf (And.intro we (And.intro wc (And.intro wb (And.intro wa (And.intro hap3 (And.intro hap2 (And.intro hap1 (And.intro htL (And.intro nd_len (And.intro rim_len (And.intro strs_len (And.intro w1 ft)))))))))))))))))))))))))))))))))))
                refine Run.go ?_
                refine End.kp [1, 2, 5, 6, 11, 12, 14, 16, 100, 101] ?_
                refine Run.ghost (.spares 1) ?_
                simp only [ASt.pushN, ASt.push, List.append_assoc, List.cons_append, List.nil_append]
                refine Run.drawA fun K hK => ?_
                refine DOps.sim ?_
                refine DOps.nil (by rfl) (hK _ ?_); clear hK K
                refine End.blk ?_
                refine End.kp [1, 2, 5, 6, 11, 12, 14, 100, 101] ?_
                refine Run.go ?_
                refine End.blk ?_
                refine End.kp [1, 2, 5, 6, 11, 12, 100, 101] ?_
                refine Run.go ?_
                refine End.lp ?_
                refine ⟨NN - (i + 1), _, by omega, Ghost.form [(1, .ptr 0 0 0), (2, .ptr 0 1 0), (5, .i (1 + (g.inn.length : Int))), (6, .map 0 2), (11, .ms 0 4 (to.length + 1)), (12, .ptr 0 3 0), (100, .i (1 + (g.inn.length : Int) + g.regs.length + g.ands.length)), (101, .i (i + 1 : Nat))] 8 ⟨rfl, rfl, rfl, rfl, rfl, rfl, rfl, rfl, trivial⟩ rfl rfl, i + 1, to ++ [2 * (1 + (g.inn.length : Int) + R.length + A.length)], R, A ++ [(atV to p.1, atV to p.2)], rfl, by omega, hnx, ?_⟩
                simp
          · skip
            have hxS := of_decide_eq_false hs29
            have hf1 := findS_none (i : Int) S 0 hxS
            have fx := And.intro hf1 (And.intro hs29 (And.intro wi (And.intro (@Int.toNat_natCast) (And.intro (@Int.natCast_nonneg) (And.intro wg (And.intro wf (And.intro we (And.intro wc (And.intro wb (And.intro wa (And.intro hap3 (And.intro hap2 (And.intro hap1 (And.intro htL (And.intro nd_len (And.intro rim_len (And.intro strs_len (And.intro w1 ft))))))))))))))))))
            refine Run.go ?_
            refine End.kp [1, 2, 5, 6, 11, 12, 14, 15, 100, 101, 160] ?_
            refine Run.cond _ rfl (fun hb => ?_) (fun hb => ?_)
            · have hb5 := hb
              have hnx : swpN g S (i + 1) = (to ++ [2 * (1 + (g.inn.length : Int) + R.length + A.length)], R, A) := by rw [swpN, if_neg hb4, if_neg hxS, hsw]
              refine Run.skip ?_
              refine End.blk ?_
              refine End.kp [1, 2, 5, 6, 11, 12, 14, 100, 101] ?_
              have fx := And.intro hf1 (And.intro hs29 (And.intro wi (And.intro (@Int.toNat_natCast) (And.intro (@Int.natCast_nonneg) (And.intro wg (And.intro wf (And.intro we (And.intro wc (And.intro wb (And.intro wa (And.intro hap3 (And.intro hap2 (And.intro hap1 (And.intro htL (And.intro nd_len (And.intro rim_len (And.intro strs_len (And.intro w1 ft))))))))))))))))))
              refine Run.go ?_
              refine End.blk ?_
              refine End.kp [1, 2, 5, 6, 11, 12, 100, 101] ?_
              refine Run.go ?_
              refine End.lp ?_
              refine ⟨NN - (i + 1), _, by omega, Ghost.form [(1, .ptr 0 0 0), (2, .ptr 0 1 0), (5, .i (1 + (g.inn.length : Int))), (6, .map 0 2), (11, .ms 0 4 (to.length + 1)), (12, .ptr 0 3 0), (100, .i (1 + (g.inn.length : Int) + g.regs.length + g.ands.length)), (101, .i (i + 1 : Nat))] 8 ⟨rfl, rfl, rfl, rfl, rfl, rfl, rfl, rfl, trivial⟩ rfl rfl, i + 1, to ++ [2 * (1 + (g.inn.length : Int) + R.length + A.length)], R, A, rfl, by omega, hnx, ?_⟩
              simp
            · have hb5 := hb
              simp at hb
      · have hb3 := of_decide_eq_false hb
        have hnN : nodN g = 1 + g.inn.length + g.regs.length + g.ands.length := rfl
        have hiN : i = nodN g := by omega
        subst hiN
        have hgo : (ints g.outs).length = g.outs.length := ints_len _
        have hto : ToOk to := fun x hx => by have := l3 x hx; omega
        have hRr : ∀ r ∈ R, r ∈ g.regs := by
          have := swpN_regs g S (nodN g) (Nat.le_refl _)
          rw [hsw] at this
          exact this
        have hsg : swpG g S = ⟨g.inn, g.out, R.map (mvR to), A, g.outs.map (atV to)⟩ := by rw [swpG, hsw]
        have hR0 : R.length = (stpL (mvR to) R 0).length := by rw [stpL_len]
        refine Run.exit rfl ?_
        refine End.kp [1, 2, 11, 12] ?_
        refine Run.seq ?_
        refine Run.seq ?_
        have fx := And.intro (@Int.toNat_natCast) (And.intro (@Int.natCast_nonneg) (And.intro wg (And.intro wf (And.intro we (And.intro wc (And.intro wb (And.intro wa (And.intro hap3 (And.intro hap2 (And.intro hap1 (And.intro htL (And.intro nd_len (And.intro rim_len (And.intro strs_len (And.intro w1 ft)))))))))))))))
        refine Run.go ?_
        refine End.kp [1, 2, 11, 12, 187, 188, 189] ?_
        refine Run.block ?_
        refine Run.ghost (Ghost.form [(1, .ptr 0 0 0), (2, .ptr 0 1 0), (11, .ms 0 4 to.length), (12, .ptr 0 3 0), (187, .ms 0 5 R.length), (188, .i R.length), (189, .i (0 : Nat))] 8 ⟨rfl, rfl, rfl, rfl, rfl, rfl, rfl, trivial⟩ rfl rfl) ?_
        refine Run.loop (fun m st => ∃ i : Nat, m = R.length - i ∧ i ≤ R.length ∧ st = ⟨[(1, .ptr 0 0 0), (2, .ptr 0 1 0), (11, .ms 0 4 to.length), (12, .ptr 0 3 0), (187, .ms 0 5 R.length), (188, .i R.length), (189, .i (i : Nat))], [.box [.im (.sl (strs g.inn)), .im (.sl (strs g.out)), .im (.sl (g.regs.map LReg.im)), .im (.sl (g.ands.map nd)), .im (.sl (ints g.outs))], .box [.nils, .nils, .nils, .nils, .nils], .map (entS S), .box [.im (.sl (strs g.inn)), .im (.sl (strs g.out)), .ms 0 5 R.length, .ms 0 6 A.length, .ms 0 7 0], rowO to, rowR (stpL (mvR to) R i), rowA A, .row 51 1 ([]) 0], up⟩) R.length ⟨0, rfl, by omega, by rw [stpL_zero]; rfl⟩ fun m st hI => ?_
        obtain ⟨i, rfl, hi, rfl⟩ := hI
        have hrl : ((stpL (mvR to) R i).map LReg.im).length = R.length := by rw [rim_len, stpL_len]
        refine Run.seq ?_
        have fx := And.intro hrl (And.intro (@Int.toNat_natCast) (And.intro (@Int.natCast_nonneg) (And.intro wg (And.intro wf (And.intro we (And.intro wc (And.intro wb (And.intro wa (And.intro hap3 (And.intro hap2 (And.intro hap1 (And.intro htL (And.intro nd_len (And.intro rim_len (And.intro strs_len (And.intro w1 ft))))))))))))))))
        refine Run.go ?_
        refine End.kp [1, 2, 11, 12, 187, 188, 189, 190] ?_
        refine Run.seq ?_
        refine Run.cond _ rfl (fun hb => ?_) (fun hb => ?_)
        · have hb4 := of_decide_eq_true hb
          have hin : i < R.length := by omega
          have hil : (i : Int) < (R.length : Int) := by omega
          have wi := wsucc hin (by omega)
          obtain ⟨r, hr, hrm, hgt⟩ := reg_at R i hin
          obtain ⟨p0, p1⟩ := hg.regs r (hRr r hrm)
          have hri := stpL_get (mvR to) R i r hr
          have hrs := stpL_set (mvR to) R i r hr
          have hgi : ((stpL (mvR to) R i).map LReg.im)[i]? = some [.str r.name, .int .i64 r.next, .bool r.init] := by rw [List.getElem?_map, hri]; rfl
          have hda := tdiv2 r.next p0 (by omega)
          have hma : r.next.tmod 2 = r.next % 2 := tmod2 r.next p0
          have wma : IntKind.i64.wrap (r.next % 2) = r.next % 2 := wrap64 (by omega)
          have ha0 : 0 ≤ r.next / 2 := by omega
          have hal : r.next / 2 < (to.length : Int) := by omega
          have hva := ints_get to (r.next / 2).toNat (by omega)
          have hga := hto.get (r.next / 2).toNat
          have hxa := xor_at to r.next (by omega)
          refine Run.skip ?_
          refine End.kp [1, 2, 11, 12, 187, 188, 189] ?_
          refine Run.seq ?_
          refine Run.block ?_
          refine Run.seq ?_
          have fx := And.intro hxa (And.intro hva (And.intro hal (And.intro ha0 (And.intro wma (And.intro hma (And.intro hda (And.intro hgi (And.intro hil (And.intro wi (And.intro hrl (And.intro (@Int.toNat_natCast) (And.intro (@Int.natCast_nonneg) (And.intro wg (And.intro wf (And.intro we (And.intro wc (And.intro wb (And.intro wa (And.intro hap3 (And.intro hap2 (And.intro hap1 (And.intro htL (And.intro nd_len (And.intro rim_len (And.intro strs_len (And.intro w1 ft))))))))))))))))))))))))))
          refine Run.go ?_
          refine End.kp [1, 2, 11, 12, 17, 18, 187, 188, 189] ?_
          refine Run.drawA fun K hK => ?_
          refine DOps.sim ?_
          refine DOps.nil (by rfl) (hK _ ?_); clear hK K
          refine End.blk ?_
          refine End.kp [1, 2, 11, 12, 187, 188, 189] ?_
          refine Run.go ?_
          refine End.lp ?_
          refine ⟨R.length - (i + 1), _, by omega, Ghost.form [(1, .ptr 0 0 0), (2, .ptr 0 1 0), (11, .ms 0 4 to.length), (12, .ptr 0 3 0), (187, .ms 0 5 R.length), (188, .i R.length), (189, .i (i + 1 : Nat))] 8 ⟨rfl, rfl, rfl, rfl, rfl, rfl, rfl, trivial⟩ rfl rfl, i + 1, rfl, by omega, ?_⟩
          rw [← hrs, rowR, List.map_set]
          rfl
        · have hb4 := of_decide_eq_false hb
          have hiN : i = R.length := by omega
          subst hiN
          rw [stpL_all]
          refine Run.exit rfl ?_
          refine End.kp [1, 2, 11, 12] ?_
          refine Run.seq ?_
          refine Run.seq ?_
          have fx := And.intro hgo (And.intro hrl (And.intro (@Int.toNat_natCast) (And.intro (@Int.natCast_nonneg) (And.intro wg (And.intro wf (And.intro we (And.intro wc (And.intro wb (And.intro wa (And.intro hap3 (And.intro hap2 (And.intro hap1 (And.intro htL (And.intro nd_len (And.intro rim_len (And.intro strs_len (And.intro w1 ft)))))))))))))))))
          refine Run.go ?_
          refine End.kp [2, 11, 12, 211, 212, 213] ?_
          refine Run.block ?_
          refine Run.ghost (Ghost.form [(2, .ptr 0 1 0), (11, .ms 0 4 to.length), (12, .ptr 0 3 0), (211, .im (.sl (ints g.outs))), (212, .i g.outs.length), (213, .i (0 : Nat))] 8 ⟨rfl, rfl, rfl, rfl, rfl, rfl, trivial⟩ rfl rfl) ?_
          refine Run.loop (fun m st => ∃ i : Nat, m = g.outs.length - i ∧ i ≤ g.outs.length ∧ st = ⟨[(2, .ptr 0 1 0), (11, .ms 0 4 to.length), (12, .ptr 0 3 0), (211, .im (.sl (ints g.outs))), (212, .i g.outs.length), (213, .i (i : Nat))], [.box [.im (.sl (strs g.inn)), .im (.sl (strs g.out)), .im (.sl (g.regs.map LReg.im)), .im (.sl (g.ands.map nd)), .im (.sl (ints g.outs))], .box [.nils, .nils, .nils, .nils, .nils], .map (entS S), .box [.im (.sl (strs g.inn)), .im (.sl (strs g.out)), .ms 0 5 R.length, .ms 0 6 A.length, .ms 0 7 i], rowO to, rowR (R.map (mvR to)), rowA A, .row 51 1 (ints ((g.outs.take i).map (atV to))) 0], up⟩) g.outs.length ⟨0, rfl, by omega, rfl⟩ fun m st hI => ?_
          obtain ⟨i, rfl, hi, rfl⟩ := hI
          have hol : (ints ((g.outs.take i).map (atV to))).length = i := by simp; omega
          have hap : (i + 1) * 8 ≤ 140737488355328 := by omega
          refine Run.seq ?_
          have fx := And.intro hap (And.intro hol (And.intro hgo (And.intro hrl (And.intro (@Int.toNat_natCast) (And.intro (@Int.natCast_nonneg) (And.intro wg (And.intro wf (And.intro we (And.intro wc (And.intro wb (And.intro wa (And.intro hap3 (And.intro hap2 (And.intro hap1 (And.intro htL (And.intro nd_len (And.intro rim_len (And.intro strs_len (And.intro w1 ft)))))))))))))))))))
          refine Run.go ?_
          refine End.kp [2, 11, 12, 211, 212, 213, 214] ?_
          refine Run.seq ?_
          refine Run.cond _ rfl (fun hb => ?_) (fun hb => ?_)
          · have hb5 := of_decide_eq_true hb
            have hin : i < g.outs.length := by omega
            have hil : (i : Int) < (g.outs.length : Int) := by omega
            have wi := wsucc hin (by omega)
            obtain ⟨x, hxi, hxm, hx⟩ := int_at g.outs i hin
            obtain ⟨p0, p1⟩ := hg.outs x hxm
            have htk := int_snoc g.outs i x hxi
            have hda := tdiv2 x p0 (by omega)
            have hma : x.tmod 2 = x % 2 := tmod2 x p0
            have wma : IntKind.i64.wrap (x % 2) = x % 2 := wrap64 (by omega)
            have ha0 : 0 ≤ x / 2 := by omega
            have hal : x / 2 < (to.length : Int) := by omega
            have hva := ints_get to (x / 2).toNat (by omega)
            have hga := hto.get (x / 2).toNat
            have hxa := xor_at to x (by omega)
            refine Run.skip ?_
            refine End.kp [2, 11, 12, 211, 212, 213] ?_
            refine Run.seq ?_
            refine Run.block ?_
            refine Run.seq ?_
            have fx := And.intro hxa (And.intro hva (And.intro hal (And.intro ha0 (And.intro wma (And.intro hma (And.intro hda (And.intro hil (And.intro hx (And.intro wi (And.intro hap (And.intro hol (And.intro hgo (And.intro hrl (And.intro (@Int.toNat_natCast) (And.intro (@Int.natCast_nonneg) (And.intro wg (And.intro wf (And.intro we (And.intro wc (And.intro wb (And.intro wa (And.intro hap3 (And.intro hap2 (And.intro hap1 (And.intro htL (And.intro nd_len (And.intro rim_len (And.intro strs_len (And.intro w1 ft)))))))))))))))))))))))))))))
            refine Run.go ?_
            refine End.kp [2, 11, 12, 20, 211, 212, 213] ?_
            refine Run.ghost (.spares 1) ?_
            simp only [ASt.pushN, ASt.push, List.append_assoc, List.cons_append, List.nil_append]
            refine Run.drawA fun K hK => ?_
            refine DOps.sim ?_
            refine DOps.nil (by rfl) (hK _ ?_); clear hK K
            refine End.blk ?_
            refine End.kp [2, 11, 12, 211, 212, 213] ?_
            refine Run.go ?_
            refine End.lp ?_
            refine ⟨g.outs.length - (i + 1), _, by omega, Ghost.form [(2, .ptr 0 1 0), (11, .ms 0 4 to.length), (12, .ptr 0 3 0), (211, .im (.sl (ints g.outs))), (212, .i g.outs.length), (213, .i (i + 1 : Nat))] 8 ⟨rfl, rfl, rfl, rfl, rfl, rfl, trivial⟩ rfl rfl, i + 1, rfl, by omega, ?_⟩
            rw [htk]
            simp
          · have hb5 := of_decide_eq_false hb
            have hiN : i = g.outs.length := by omega
            subst hiN
            rw [List.take_length] at hol ⊢
            refine Run.exit rfl ?_
            refine End.kp [2, 12] ?_
            refine Run.seq ?_
            refine Run.ghost (Ghost.boxShut (j := 3) (i := 2) (r := 5) rfl rfl rfl (by simp)) ?_
            refine Run.ghost (Ghost.boxShut (j := 3) (i := 3) (r := 6) rfl rfl rfl (by simp)) ?_
            refine Run.ghost (Ghost.boxShut (j := 3) (i := 4) (r := 7) rfl rfl rfl hol) ?_
            simp only [List.set_cons_zero, List.set_cons_succ]
            have fx := And.intro hap (And.intro hol (And.intro hgo (And.intro hrl (And.intro (@Int.toNat_natCast) (And.intro (@Int.natCast_nonneg) (And.intro wg (And.intro wf (And.intro we (And.intro wc (And.intro wb (And.intro wa (And.intro hap3 (And.intro hap2 (And.intro hap1 (And.intro htL (And.intro nd_len (And.intro rim_len (And.intro strs_len (And.intro w1 ft)))))))))))))))))))
            refine Run.go ?_
            refine End.kp [2, 3] ?_
            refine Run.resC hQ ?_
            exact ⟨S, hC, by rw [hsg], rfl⟩
end Go.Proofs.YtdgpmopcmacicaaDoorPi

/- Plain law: Sweep keeps what a graph shows. -/
set_option linter.unusedVariables false
set_option linter.unusedSimpArgs false
set_option linter.unusedSectionVars false
namespace Go.Proofs.YtdgpmopcmacicaaDoorPi
abbrev nxtN (g : LGraph) (S : List Int) (i : Nat) : Int := 2 * (1 + (g.inn.length : Int) + (swpN g S i).2.1.length + (swpN g S i).2.2.length)
/-- One node more. -/
theorem swp_step (g : LGraph) (S : List Int) (i : Nat) (hi : i < nodN g) :
    (i < 1 + g.inn.length ∧ swpN g S (i + 1) = ((swpN g S i).1 ++ [2 * (i : Int)], (swpN g S i).2)) ∨
    (1 + g.inn.length ≤ i ∧ (i : Int) ∉ S ∧ swpN g S (i + 1) = ((swpN g S i).1 ++ [nxtN g S i], (swpN g S i).2)) ∨
    (∃ (k : Nat) (r : LReg), i = 1 + g.inn.length + k ∧ (i : Int) ∈ S ∧ g.regs[k]? = some r ∧ swpN g S (i + 1) = ((swpN g S i).1 ++ [nxtN g S i], (swpN g S i).2.1 ++ [r], (swpN g S i).2.2)) ∨
    (∃ (j : Nat) (p : Int × Int), i = 1 + g.inn.length + g.regs.length + j ∧ (i : Int) ∈ S ∧ g.ands[j]? = some p ∧ swpN g S (i + 1) = ((swpN g S i).1 ++ [nxtN g S i], (swpN g S i).2.1, (swpN g S i).2.2 ++ [(atV (swpN g S i).1 p.1, atV (swpN g S i).1 p.2)])) := by
  rw [swpN]
  by_cases c1 : (i : Int) - (1 + (g.inn.length : Int)) < 0
  · exact .inl ⟨by omega, by rw [if_pos c1]⟩
  · rw [if_neg c1]
    right
    by_cases c2 : (i : Int) ∈ S
    · rw [if_pos c2]
      right
      by_cases c3 : (i : Int) - (1 + (g.inn.length : Int)) < (g.regs.length : Int)
      · left
        rw [if_pos c3]
        have e : ((i : Int) - (1 + (g.inn.length : Int))).toNat = i - (1 + g.inn.length) := by omega
        have hl : i - (1 + g.inn.length) < g.regs.length := by omega
        refine ⟨i - (1 + g.inn.length), g.regs[i - (1 + g.inn.length)], by omega, c2, List.getElem?_eq_getElem hl, ?_⟩
        rw [e, List.getD_eq_getElem?_getD, List.getElem?_eq_getElem hl]
        rfl
      · right
        rw [if_neg c3]
        have e : ((i : Int) - (1 + (g.inn.length : Int)) - (g.regs.length : Int)).toNat = i - (1 + g.inn.length + g.regs.length) := by omega
        have hl : i - (1 + g.inn.length + g.regs.length) < g.ands.length := by unfold nodN at hi; omega
        refine ⟨i - (1 + g.inn.length + g.regs.length), g.ands[i - (1 + g.inn.length + g.regs.length)], by omega, c2, List.getElem?_eq_getElem hl, ?_⟩
        rw [e, List.getD_eq_getElem?_getD, List.getElem?_eq_getElem hl]
        rfl
    · rw [if_neg c2]
      exact .inl ⟨by omega, c2, rfl⟩
/-- What stays. -/
def Kept (g : LGraph) (S : List Int) (q : Nat) : Prop := q < 1 + g.inn.length ∨ (q : Int) ∈ S
theorem atV_even {to : List Int} {l N : Int} (h : 0 ≤ to.getD (l / 2).toNat 0 ∧ to.getD (l / 2).toNat 0 < 2 * N) : 0 ≤ atV to l ∧ atV to l < 2 * N := by
  unfold atV flipL
  split
  · split <;> omega
  · exact h
section
variable {g : LGraph} (hg : GraphOk g) {S : List Int} (hC : Clo g S [])
include hg hC
theorem cov_kept (l : Int) (l0 : 0 ≤ l) (h : Cov S [] l) : Kept g S (l / 2).toNat := by
  rcases h with h | ⟨y, hy, _⟩
  · right
    rw [show (((l / 2).toNat : Nat) : Int) = l / 2 by omega]
    exact h
  · simp at hy
structure SwpAt (g : LGraph) (S : List Int) (i : Nat) : Prop where
  to : ∀ q, q < i → Kept g S q → 0 ≤ (swpN g S i).1.getD q 0 ∧ (swpN g S i).1.getD q 0 < nxtN g S i
  ands : ∀ (j : Nat) (p : Int × Int), (swpN g S i).2.2[j]? = some p → (0 ≤ p.1 ∧ p.1 < 2 * (1 + (g.inn.length : Int) + (swpN g S i).2.1.length + j)) ∧ 0 ≤ p.2 ∧ p.2 < 2 * (1 + (g.inn.length : Int) + (swpN g S i).2.1.length + j)
  early : i ≤ 1 + g.inn.length + g.regs.length → (swpN g S i).2.2 = []
  sub : (swpN g S i).2.1.Sublist (g.regs.take (i - (1 + g.inn.length)))
  few : (swpN g S i).2.2.length ≤ i - (1 + g.inn.length + g.regs.length)
theorem swp_at : ∀ i, i ≤ nodN g → SwpAt g S i
  | 0, _ => ⟨fun q h => absurd h (by omega), fun j p h => by simp [swpN] at h, fun _ => rfl, by simp [swpN], by simp [swpN]⟩
  | i + 1, hi => by
    have ih := swp_at i (by omega)
    obtain ⟨l1, l2, _⟩ := swpN_len g S i
    have old : ∀ (x : Int) (q : Nat), q < i → ((swpN g S i).1 ++ [x]).getD q 0 = (swpN g S i).1.getD q 0 := fun x q hq => getD_left (by omega)
    have new : ∀ (x : Int), ((swpN g S i).1 ++ [x]).getD i 0 = x := fun x => by
      have := getD_end (swpN g S i).1 x
      rwa [l1] at this
    rcases swp_step g S i (by omega) with ⟨c, e⟩ | ⟨c, cS, e⟩ | ⟨k, r, c, cS, hr, e⟩ | ⟨j, p, c, cS, hp, e⟩
    · refine ⟨fun q hq hk => ?_, fun j p hp => ?_, fun h => ?_, ?_, ?_⟩ <;> simp only [nxtN, e] at *
      · by_cases hqi : q < i
        · rw [old _ q hqi]
          exact ih.to q hqi hk
        · have : q = i := by omega
          subst this
          rw [new]
          omega
      · exact ih.ands j p hp
      · exact ih.early (by omega)
      · have := ih.sub
        rw [show i - (1 + g.inn.length) = 0 by omega] at this
        rw [show i + 1 - (1 + g.inn.length) = 0 by omega]
        exact this
      · have := ih.few
        omega
    · refine ⟨fun q hq hk => ?_, fun j p hp => ?_, fun h => ?_, ?_, ?_⟩ <;> simp only [nxtN, e] at *
      · by_cases hqi : q < i
        · rw [old _ q hqi]
          exact ih.to q hqi hk
        · have : q = i := by omega
          subst this
          rcases hk with hk | hk
          · omega
          · exact absurd hk cS
      · exact ih.ands j p hp
      · exact ih.early (by omega)
      · exact ih.sub.trans (List.take_sublist_take_left (by omega))
      · have := ih.few
        omega
    · have hkl := (List.getElem?_eq_some_iff.1 hr).1
      have hA := ih.early (by omega)
      refine ⟨fun q hq hk => ?_, fun j p hp => ?_, fun h => ?_, ?_, ?_⟩ <;> simp only [nxtN, e, List.length_append, List.length_cons, List.length_nil] at *
      · by_cases hqi : q < i
        · rw [old _ q hqi]
          have := ih.to q hqi hk
          simp only [nxtN] at this
          omega
        · have : q = i := by omega
          subst this
          rw [new]
          omega
      · rw [hA] at hp
        simp at hp
      · exact hA
      · have h2 := ih.sub
        rw [show i - (1 + g.inn.length) = k by omega] at h2
        rw [show i + 1 - (1 + g.inn.length) = k + 1 by omega, List.take_add_one, hr]
        exact h2.append (List.Sublist.refl _)
      · rw [hA]
        simp
    · have hjl := (List.getElem?_eq_some_iff.1 hp).1
      obtain ⟨⟨p0, p1⟩, p2, p3⟩ := hg.ands j p hp
      obtain ⟨c1, c2⟩ := hC.ands j p hp (by unfold firstG; rw [show 1 + (g.inn.length : Int) + g.regs.length + j = (i : Int) by omega]; exact cS)
      have k1 := ih.to _ (by omega) (cov_kept hg hC p.1 p0 c1)
      have k2 := ih.to _ (by omega) (cov_kept hg hC p.2 p2 c2)
      have v1 := atV_even (l := p.1) k1
      have v2 := atV_even (l := p.2) k2
      refine ⟨fun q hq hk => ?_, fun j' p' hp' => ?_, fun h => ?_, ?_, ?_⟩ <;> simp only [nxtN, e, List.length_append, List.length_cons, List.length_nil] at *
      · by_cases hqi : q < i
        · rw [old _ q hqi]
          have := ih.to q hqi hk
          simp only [nxtN] at this
          omega
        · have : q = i := by omega
          subst this
          rw [new]
          omega
      · rw [List.getElem?_append] at hp'
        split at hp'
        · exact ih.ands j' p' hp'
        · have hi2 := (List.getElem?_eq_some_iff.1 hp').1
          simp at hi2
          have : j' = (swpN g S i).2.2.length := by omega
          subst this
          simp only [Nat.sub_self, List.getElem?_cons_zero, Option.some.injEq] at hp'
          subst hp'
          exact ⟨v1, v2⟩
      · omega
      · exact ih.sub.trans (List.take_sublist_take_left (by omega))
      · have := ih.few
        omega
end
end Go.Proofs.YtdgpmopcmacicaaDoorPi

/- Plain law: Sweep keeps what a graph shows, continued. -/
set_option linter.unusedVariables false
set_option linter.unusedSimpArgs false
set_option linter.unusedSectionVars false
namespace Go.Proofs.YtdgpmopcmacicaaDoorPi
theorem lbit_at {b b' : Nat → Bool} {to : List Int} (l : Int) (h0 : 0 ≤ to.getD (l / 2).toNat 0) (h : lbit b' (to.getD (l / 2).toNat 0) = b (l / 2).toNat) : lbit b' (atV to l) = lbit b l := by
  unfold atV
  rw [lbit.eq_def b l]
  split
  · rw [lbit_flip _ _ h0, h]
  · exact h
/-- The registers that stay, by their places. -/
def kidx (g : LGraph) (S : List Int) : Nat → List Nat
  | 0 => []
  | i + 1 => if 1 + g.inn.length ≤ i ∧ (i : Int) ∈ S ∧ i < 1 + g.inn.length + g.regs.length then kidx g S i ++ [i - (1 + g.inn.length)] else kidx g S i
theorem kidx_pre (g : LGraph) (S : List Int) (i : Nat) : ∀ m, i ≤ m → ∃ a, kidx g S m = kidx g S i ++ a
  | 0, h => ⟨[], by rw [show i = 0 by omega]; simp⟩
  | m + 1, h => by
    by_cases e : i = m + 1
    · exact ⟨[], by rw [e]; simp⟩
    · obtain ⟨a, ha⟩ := kidx_pre g S i m (by omega)
      rw [kidx]
      split
      · exact ⟨a ++ [m - (1 + g.inn.length)], by rw [ha, List.append_assoc]⟩
      · exact ⟨a, ha⟩
theorem kidx_in (g : LGraph) (S : List Int) : ∀ m, ∀ k ∈ kidx g S m, k < g.regs.length ∧ (1 + (g.inn.length : Int) + k) ∈ S
  | 0, k, h => by simp [kidx] at h
  | m + 1, k, h => by
    rw [kidx] at h
    split at h
    · rename_i c
      rcases List.mem_append.1 h with h | h
      · exact kidx_in g S m k h
      · rw [List.mem_singleton.1 h]
        exact ⟨by omega, by rw [show 1 + (g.inn.length : Int) + (m - (1 + g.inn.length) : Nat) = (m : Int) by omega]; exact c.2.1⟩
    · exact kidx_in g S m k h
abbrev regD (g : LGraph) (k : Nat) : LReg := g.regs.getD k ⟨ByteArray.empty, 0, false⟩
theorem kidx_regs (g : LGraph) (S : List Int) : ∀ m, m ≤ nodN g → (swpN g S m).2.1 = (kidx g S m).map (regD g)
  | 0, _ => rfl
  | m + 1, hm => by
    have ih := kidx_regs g S m (by omega)
    rcases swp_step g S m (by omega) with ⟨c, e⟩ | ⟨c, cS, e⟩ | ⟨k, r, c, cS, hr, e⟩ | ⟨j, p, c, cS, hp, e⟩
    · rw [e, kidx, if_neg (by omega)]
      exact ih
    · rw [e, kidx, if_neg (fun h => cS h.2.1)]
      exact ih
    · have hk := (List.getElem?_eq_some_iff.1 hr).1
      rw [e, kidx, if_pos ⟨by omega, cS, by omega⟩, List.map_append, ← ih, show m - (1 + g.inn.length) = k by omega]
      simp [regD, hr]
    · rw [e, kidx, if_neg (by omega)]
      exact ih
theorem swp_pre (g : LGraph) (S : List Int) (i : Nat) : ∀ m, i ≤ m → m ≤ nodN g → ∃ a c, (swpN g S m).1 = (swpN g S i).1 ++ a ∧ (swpN g S m).2.2 = (swpN g S i).2.2 ++ c ∧ (1 + g.inn.length + g.regs.length ≤ i → (swpN g S m).2.1 = (swpN g S i).2.1)
  | 0, h, _ => ⟨[], [], by rw [show i = 0 by omega]; simp⟩
  | m + 1, h, hm => by
    by_cases ei : i = m + 1
    · exact ⟨[], [], by rw [ei]; simp⟩
    · obtain ⟨a, c, h1, h2, h3⟩ := swp_pre g S i m (by omega) (by omega)
      rcases swp_step g S m (by omega) with ⟨q, e⟩ | ⟨q, cS, e⟩ | ⟨k, r, q, cS, hr, e⟩ | ⟨j, p, q, cS, hp, e⟩
      · exact ⟨a ++ [2 * (m : Int)], c, by rw [e, h1, List.append_assoc], by rw [e]; exact h2, fun hi => by rw [e]; exact h3 hi⟩
      · exact ⟨a ++ [nxtN g S m], c, by rw [e, h1, List.append_assoc], by rw [e]; exact h2, fun hi => by rw [e]; exact h3 hi⟩
      · have hk := (List.getElem?_eq_some_iff.1 hr).1
        exact ⟨a ++ [nxtN g S m], c, by rw [e, h1, List.append_assoc], by rw [e]; exact h2, fun hi => by omega⟩
      · exact ⟨a ++ [nxtN g S m], c ++ [(atV (swpN g S m).1 p.1, atV (swpN g S m).1 p.2)], by rw [e, h1, List.append_assoc], by rw [e, h2, List.append_assoc], fun hi => by rw [e]; exact h3 hi⟩
section
variable {g : LGraph} (hg : GraphOk g) {S : List Int} (hC : Clo g S [])
include hg hC
theorem swp_ok : GraphOk (swpG g S) := by
  obtain ⟨h1, h2, h3, h4, h5⟩ := swp_at hg hC (nodN g) (Nat.le_refl _)
  have hsm := hg.small
  have hsub : (swpN g S (nodN g)).2.1.Sublist g.regs := h4.trans (List.take_sublist _ _)
  have hlen := hsub.length_le
  have hnm : ((swpN g S (nodN g)).2.1.map (mvR (swpN g S (nodN g)).1)).map LReg.name = (swpN g S (nodN g)).2.1.map LReg.name := by simp
  have hns : (g.inn ++ (swpN g S (nodN g)).2.1.map LReg.name).Sublist (g.inn ++ g.regs.map LReg.name) := (List.Sublist.refl _).append (hsub.map _)
  have hN : nodN g = 1 + g.inn.length + g.regs.length + g.ands.length := rfl
  have hat : ∀ l : Int, 0 ≤ l → l < 2 * (1 + (g.inn.length : Int) + g.regs.length + g.ands.length) → Cov S [] l → 0 ≤ atV (swpN g S (nodN g)).1 l ∧ atV (swpN g S (nodN g)).1 l < nxtN g S (nodN g) := fun l l0 l1 hc => by
    have := h1 (l / 2).toNat (by omega) (cov_kept hg hC l l0 hc)
    have := atV_even (l := l) this
    exact this
  refine ⟨⟨hsm.inn, hsm.out, ?_, ?_, ?_⟩, ?_, ?_, hg.onames, hg.onodup, ?_, ?_, ?_, ?_⟩
  · simp only [swpG, List.length_map]
    exact Nat.le_trans hlen hsm.regs
  · simp only [swpG]
    have := hsm.ands
    omega
  · simp only [swpG, List.length_map]
    exact hsm.outs
  · simp only [swpG, hnm]
    exact fun s hs => hg.names s (hns.subset hs)
  · simp only [swpG, hnm]
    exact hns.nodup hg.nodup
  · simp only [swpG, List.length_map]
    exact hg.olen
  · simp only [swpG, List.length_map]
    exact h2
  · simp only [swpG, List.length_map]
    intro r hr
    obtain ⟨q, hq, rfl⟩ := List.mem_map.1 hr
    have hqr := hg.regs q (hsub.subset hq)
    rw [kidx_regs g S _ (Nat.le_refl _)] at hq
    obtain ⟨k, hk, rfl⟩ := List.mem_map.1 hq
    obtain ⟨k1, k2⟩ := kidx_in g S _ k hk
    have hrk : g.regs[k]? = some (regD g k) := by simp [regD, k1]
    exact hat _ hqr.1 hqr.2 (hC.regs k _ hrk k2)
  · simp only [swpG, List.length_map]
    intro x hx
    obtain ⟨l, hl, rfl⟩ := List.mem_map.1 hx
    have hlr := hg.outs l hl
    exact hat _ hlr.1 hlr.2 (hC.outs l hl)
theorem swp_sim {r s : List Bool} {b b' : Nat → Bool} (hb : Sat g r s b) (hb' : Sat (swpG g S) r ((kidx g S (nodN g)).map fun k => s.getD k false) b') :
    ∀ q, q < nodN g → Kept g S q → lbit b' ((swpN g S (nodN g)).1.getD q 0) = b q := by
  intro q
  induction q using Nat.strongRecOn with
  | _ q ih =>
    intro hq hkq
    have hat := swp_at hg hC q (by omega)
    obtain ⟨l1, l2, _⟩ := swpN_len g S q
    obtain ⟨a, c, e1, e2, e3⟩ := swp_pre g S (q + 1) (nodN g) (by omega) (Nat.le_refl _)
    obtain ⟨a0, c0, e10, e20, e30⟩ := swp_pre g S q (nodN g) (by omega) (Nat.le_refl _)
    have hnew : ∀ x, (swpN g S (q + 1)).1 = (swpN g S q).1 ++ [x] → (swpN g S (nodN g)).1.getD q 0 = x := fun x hx => by
      rw [e1, hx, getD_left (by simp; omega)]
      have := getD_end (swpN g S q).1 x
      rwa [l1] at this
    have hold : ∀ j, j < q → (swpN g S (nodN g)).1.getD j 0 = (swpN g S q).1.getD j 0 := fun j hj => by rw [e10, getD_left (by omega)]
    rcases swp_step g S q hq with ⟨cc, e⟩ | ⟨cc, cS, e⟩ | ⟨k, rr, cc, cS, hr, e⟩ | ⟨j, p, cc, cS, hp, e⟩
    · rw [hnew _ (by rw [e]), lbit, if_neg (by omega), show (2 * (q : Int) / 2).toNat = q by omega]
      by_cases c0 : q = 0
      · subst c0
        rw [hb.zero, hb'.zero]
      · obtain ⟨i, rfl⟩ : ∃ i, q = 1 + i := ⟨q - 1, by omega⟩
        rw [hb.inn i (by omega), hb'.inn i (by show i < g.inn.length; omega)]
    · rcases hkq with h | h
      · omega
      · exact absurd h cS
    · have hkl := (List.getElem?_eq_some_iff.1 hr).1
      have hA := hat.early (by omega)
      obtain ⟨ka, hka⟩ := kidx_pre g S (q + 1) (nodN g) (by omega)
      have hks : kidx g S (q + 1) = kidx g S q ++ [k] := by rw [kidx, if_pos ⟨by omega, cS, by omega⟩, show q - (1 + g.inn.length) = k by omega]
      have hkR : (swpN g S q).2.1.length = (kidx g S q).length := by rw [kidx_regs g S q (by omega), List.length_map]
      have hRN : (swpN g S (nodN g)).2.1.length = (kidx g S (nodN g)).length := by rw [kidx_regs g S _ (Nat.le_refl _), List.length_map]
      rw [hnew _ (by rw [e]), nxtN, hA, lbit, if_neg (by simp only [List.length_nil]; omega), show (2 * (1 + (g.inn.length : Int) + (swpN g S q).2.1.length + ([] : List (Int × Int)).length) / 2).toNat = 1 + g.inn.length + (swpN g S q).2.1.length by simp only [List.length_nil]; omega]
      have hlt : (swpN g S q).2.1.length < (swpG g S).regs.length := by
        simp only [swpG, List.length_map]
        rw [hRN, hka, hks, hkR]
        simp only [List.length_append, List.length_cons, List.length_nil]
        omega
      have := hb'.regs _ hlt
      rw [show (swpG g S).inn.length = g.inn.length from rfl] at this
      have hbq : b q = s.getD k false := by rw [cc]; exact hb.regs k hkl
      rw [this, hbq, hkR, hka, hks]
      simp [List.getD_eq_getElem?_getD, List.append_assoc]
    · have hjl := (List.getElem?_eq_some_iff.1 hp).1
      obtain ⟨⟨p0, p1⟩, p2, p3⟩ := hg.ands j p hp
      obtain ⟨c1, c2⟩ := hC.ands j p hp (by unfold firstG; rw [show 1 + (g.inn.length : Int) + g.regs.length + j = (q : Int) by omega]; exact cS)
      have k1 := cov_kept hg hC p.1 p0 c1
      have k2 := cov_kept hg hC p.2 p2 c2
      have t1 := hat.to _ (by omega) k1
      have t2 := hat.to _ (by omega) k2
      have hR := e30 (by omega)
      have hbq : b q = (lbit b p.1 && lbit b p.2) := by rw [cc]; exact hb.ands j p hp
      have hAq : (swpG g S).ands[(swpN g S q).2.2.length]? = some (atV (swpN g S q).1 p.1, atV (swpN g S q).1 p.2) := by
        show (swpN g S (nodN g)).2.2[_]? = _
        rw [e2, e, List.append_assoc, List.getElem?_append_right (Nat.le_refl _), Nat.sub_self]
        rfl
      have h3 := hb'.ands _ _ hAq
      rw [show (swpG g S).inn.length = g.inn.length from rfl, show (swpG g S).regs.length = (swpN g S q).2.1.length by simp only [swpG, List.length_map]; rw [hR]] at h3
      rw [hnew _ (by rw [e]), nxtN, lbit, if_neg (by omega), show (2 * (1 + (g.inn.length : Int) + (swpN g S q).2.1.length + (swpN g S q).2.2.length) / 2).toNat = 1 + g.inn.length + (swpN g S q).2.1.length + (swpN g S q).2.2.length by omega, h3, hbq]
      simp only
      rw [lbit_at p.1 t1.1 (by rw [← hold _ (by omega)]; exact ih _ (by omega) (by unfold nodN; omega) k1), lbit_at p.2 t2.1 (by rw [← hold _ (by omega)]; exact ih _ (by omega) (by unfold nodN; omega) k2)]
theorem swp_run (tr : List (List Bool)) (hr : ∀ r ∈ tr, r.length = g.inn.length) : runI (swpG g S) tr = runI g tr := by
  have hh := swp_ok hg hC
  have hat := swp_at hg hC (nodN g) (Nat.le_refl _)
  have hN : nodN g = 1 + g.inn.length + g.regs.length + g.ands.length := rfl
  have hlen : (swpG g S).regs.length = (kidx g S (nodN g)).length := by simp only [swpG, List.length_map]; rw [kidx_regs g S _ (Nat.le_refl _), List.length_map]
  refine runI_sim hg hh rfl (fun s s' => s' = (kidx g S (nodN g)).map fun k => s.getD k false) ?_ (fun r s s' hr0 hs hs' hR b hb => ?_) tr hr
  · simp only [initG, swpG, List.map_map]
    rw [kidx_regs g S _ (Nat.le_refl _), List.map_map]
    refine List.map_congr_left fun k hk => ?_
    obtain ⟨k1, k2⟩ := kidx_in g S _ k hk
    simp [regD, k1]
  · subst hR
    have hb' := sat_bits hh (r := r) (s := (kidx g S (nodN g)).map fun k => s.getD k false) hr0 (by rw [hlen, List.length_map])
    have hsim := swp_sim hg hC hb hb'
    have hl : ∀ l : Int, 0 ≤ l → l < 2 * (1 + (g.inn.length : Int) + g.regs.length + g.ands.length) → Cov S [] l → lbit (bitsG (swpG g S) r ((kidx g S (nodN g)).map fun k => s.getD k false)) (atV (swpN g S (nodN g)).1 l) = lbit b l := fun l l0 l1 hc => by
      have hk := cov_kept hg hC l l0 hc
      exact lbit_at l (hat.to _ (by omega) hk).1 (hsim _ (by omega) hk)
    refine ⟨_, hb', ?_, ?_⟩
    · simp only [swpG, List.map_map]
      refine List.map_congr_left fun x hx => ?_
      have := hg.outs x hx
      exact hl x this.1 this.2 (hC.outs x hx)
    · show ((swpN g S (nodN g)).2.1.map (mvR (swpN g S (nodN g)).1)).map _ = _
      rw [kidx_regs g S _ (Nat.le_refl _), List.map_map, List.map_map]
      refine List.map_congr_left fun k hk => ?_
      obtain ⟨k1, k2⟩ := kidx_in g S _ k hk
      have hrk : g.regs[k]? = some (regD g k) := by simp [regD, k1]
      have := hg.regs _ (List.mem_of_getElem? hrk)
      rw [List.getD_eq_getElem?_getD, List.getElem?_map, hrk]
      exact hl _ this.1 this.2 (hC.regs k _ hrk k2)
theorem swp_size : (swpG g S).inn = g.inn ∧ (swpG g S).outs.length = g.outs.length ∧ (swpG g S).regs.length ≤ g.regs.length ∧ (swpG g S).ands.length ≤ g.ands.length := by
  obtain ⟨h1, h2, h3, h4, h5⟩ := swp_at hg hC (nodN g) (Nat.le_refl _)
  refine ⟨rfl, by simp [swpG], ?_, ?_⟩
  · simp only [swpG, List.length_map]
    exact Nat.le_trans h4.length_le (by rw [List.length_take]; exact Nat.min_le_right _ _)
  · show (swpN g S (nodN g)).2.2.length ≤ _
    unfold nodN at h5 ⊢
    omega
end
end Go.Proofs.YtdgpmopcmacicaaDoorPi

