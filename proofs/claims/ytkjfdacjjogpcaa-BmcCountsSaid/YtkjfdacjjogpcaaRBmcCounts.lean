/- BmcCounts: for every input the law returns true and its arguments read afterwards as they did. No conditions. The frame was written by the kit's proof-skeleton; the walk is ours. -/
import Derived.Test.YtkjfdacjjogpcaaRows
import Derived.WalkKit
import Derived.ProofKit
import Derived.OpenShut
import Derived.Below
import Derived.ShutString
import Derived.Test.YtkjfdacjjogpcaaM7
namespace Go.Proofs.Ytkjfdacjjogpcaa.bmcCounts
open Go.ChangeShapes Go.WideShapes Go.ChangeAt Go.RowKit
open Go.ChangeMaps (open_string shut_string)
set_option linter.unusedVariables false      -- a walk need not use every 'w<i>' (that an integer argument fits its kind)

theorem own : ownKnob Try.prog.godebug = none := by kernel_rfl

/-! ### STEP 1: THE WALK: the Go text returns true. 'Below w.heap.size w w'': the world has at most new blocks (Derived/RowKit3.lean). Part the cases AHEAD of 'go_enter' where a test parts the walk; take each callee by a contract of your own. -/
open Go.Proofs.YtkjfdacjjogpcaaPi in
theorem startG {k : FuncId} {w : World} {vs : Array Value} {pvs : List PV} (hv : VRels (fun b o => w.cell? ⟨b, o, none⟩) [] [] pvs vs.toList) (h : ACalls Try.prog k pvs [] fun v u => v = .im (.bool true) ∧ u = []) : Calls Try.prog k vs w fun e w' => e = .returned (.bool true) ∧ Below w.heap.size w w' := by
 have hm : MRel (fun b o => w.cell? ⟨b, o, none⟩) [] [] w := ⟨rfl, fun d j o a h => by simp [fget] at h, fun d j d' j' b h => by obtain ⟨o, k, h, _⟩ := h; simp [fget] at h, fun b o v h => h⟩
 refine (h _ [] w _ hm hv).mono ?_
 rintro e w' ⟨v, pv, F', bs', up', rfl, ⟨rfl, rfl⟩, h3, h4, h5⟩
 simp only [VRel, IRel] at h4
 subst h4
 exact ⟨rfl, h5.keeps.os, h5.keeps.tape, h5.keeps.output, h5.keeps.size, fun b hb => h5.keeps.block b hb fun d j ho => by obtain ⟨o, k, h, _⟩ := ho; simp [fget] at h⟩
open Go.Proofs.YtkjfdacjjogpcaaPi in
theorem walk (a0 : Int) (a1 : Int) (a2 : Bool) (w0 : (Lit.int .i64 a0).wf = true) (w1 : (Lit.int .i64 a1).wf = true) (w : World) :
  Calls Try.prog 9 #[.int .i64 a0, .int .i64 a1, .bool a2] w fun e w' => e = .returned (.bool true) ∧ Below w.heap.size w w' := by
 refine startG (pvs := [.im (.int .i64 a0), .im (.int .i64 a1), .im (.bool a2)]) (by simp only [VRels]; exact ⟨_, _, rfl, (by simp only [VRel, IRel]), ⟨_, _, rfl, (by simp only [VRel, IRel]), ⟨_, _, rfl, (by simp only [VRel, IRel]), rfl⟩⟩⟩) ?_
 exact Go.Proofs.YtkjfdacjjogpcaaPi.BmcCounts_walk a0 a1 (by simpa [Lit.wf, IntKind.min, IntKind.max, IntKind.signed, IntKind.bits, Go.Proofs.YtkjfdacjjogpcaaPi.I64] using w0) (by simpa [Lit.wf, IntKind.min, IntKind.max, IntKind.signed, IntKind.bits, Go.Proofs.YtkjfdacjjogpcaaPi.I64] using w1) a2 []

/-! ### THE ROW's STEP: WRITTEN OUT: LEAVE IT -/
set_option maxRecDepth 100000 in
theorem lifted (os : Os) (started : os.Started) (H : Type) (enc : TypeId × Value → H) :
  ReturnsInHanded {} Try.checked os 9 .any (Rows.bmcCountsSpec.pre6 enc Try.prog Try.f9 Rows.bmcCountsRow.domain false) (Rows.bmcCountsSpec.post enc Try.prog Try.f9 false true false false) := by
 refine returnsInHanded_of_change (C := Try.checked) own started (by kernel_rfl) Try.func9
  (ChangeSpec.witness6 (enc := enc) (C := Try.checked) false ⟨#[], #[.int .i64 0, .int .i64 0, .bool false], []⟩ 8 (by kernel_rfl) (by kernel_rfl) (by kernel_rfl) (by kernel_rfl)) ?_
 intro W base args ds gs before hval0 hW hcnd _
 have hval : ∀ (j : Nat) t v, Try.f9.params[j]? = some t → args[j]? = some v → Value.okWide Try.prog W .any base t v := hval0
 have hW' := hW
 obtain ⟨p, q, hA0, hV, rfl, hfz, hnd⟩ := hW
 have hA : DataW.TrodAll enc Try.prog W 0 (fun _ => true) true Try.f9.params.toList args.toList ds p := hA0
 rw [Try.params9] at hA hval
 obtain ⟨v0, vs0, d0, ds0, p0, q0, hargs, rfl, rfl, h0, r0⟩ := trodAll_cons hA
 obtain ⟨v1, vs1, d1, ds1, p1, q1, rfl, rfl, rfl, h1, r1⟩ := trodAll_cons r0
 obtain ⟨v2, vs2, d2, ds2, p2, q2, rfl, rfl, rfl, h2, r2⟩ := trodAll_cons r1
 obtain ⟨rfl, rfl, rfl⟩ := trodAll_nil r2
 obtain rfl : args = #[v0, v1, v2] := by cases args; simp_all
 obtain ⟨rfl, rfl⟩ := trodVars_none hV
 obtain ⟨a0, rfl, rfl, rfl, w0⟩ := open_int Try.underlying3 (hval 0 3 v0 rfl rfl) h0
 obtain ⟨a1, rfl, rfl, rfl, w1⟩ := open_int Try.underlying3 (hval 1 3 v1 rfl rfl) h1
 obtain ⟨a2, rfl, rfl, rfl⟩ := open_bool Try.underlying4 (hval 2 4 v2 rfl rfl) h2
 clear hA0 hval0
 simp only [List.append_nil] at hW'
 refine (walk a0 a1 a2 w0 w1 W).mono fun e W' ⟨he, hg⟩ => ?_
 subst he
 exact ⟨_, rfl, _, _, _, [], _, [], hW', trodAll_mk1 (shut_bool Try.underlying4 _), (trodAll_cons_mk (shut_int Try.underlying3 w0) (trodAll_cons_mk (shut_int Try.underlying3 w1) (trodAll_cons_mk (shut_bool Try.underlying4 _) trodAll_mk0))), rfl, hg.frame _, fun h => by cases h⟩

theorem over : Rows.bmcCountsRow.holds Try.pinned (OpenSpec.ofChange Rows.bmcCountsSpec) :=
 OpenClaim.holds_of_wide 9 Try.f9 rfl rfl rfl rfl rfl rfl rfl ⟨rfl, rfl, rfl, rfl, rfl⟩ rfl rfl rfl rfl rfl (by kernel_rfl) Try.func9 (by kernel_rfl)
  (of_decide_eq_true (by kernel_rfl)) (by unfold Func.isWrapper; first | (rw [if_pos (by decide +kernel)]; kernel_rfl) | (rw [if_neg (by decide +kernel)]; exact ⟨rfl, rfl⟩))
  (fun os started H enc _ => lifted os started H enc)

theorem proved : Rows.BmcCountsSaid :=
 over
#print axioms proved
end Go.Proofs.Ytkjfdacjjogpcaa.bmcCounts
