/- RetimeSteps: for every input the law returns true and its arguments read afterwards as they did. No conditions. The frame was written by the kit's proof-skeleton; the walk is ours. -/
import Derived.Test.YtdgpmopcmacicaaDoorRows
import Derived.WalkKit
import Derived.LaidMore
import Derived.Stop.Joined
import Derived.ProofKit
import Derived.OpenShut
import Derived.ShutString
import Derived.ChangeOld
import Derived.Below
import Derived.Test.YtdgpmopcmacicaaDoorM6
import Derived.Test.YtdgpmopcmacicaaDoorTie
import Derived.Test.YtdgpmopcmacicaaDoorCards
import Derived.SevenTiedAt
namespace Go.Proofs.YtdgpmopcmacicaaDoor.retimeSteps
open Go.ChangeShapes Go.WideShapes Go.ChangeAt Go.RowKit
open Go.ChangeMaps (open_string shut_string)
set_option linter.unusedVariables false

theorem own : ownKnob Tryd.prog.godebug = none := by kernel_rfl
theorem laidOut : laidOutB Tryd.prog = true := by kernel_rfl

/-- WHAT THE WALK IS TOLD OF A SLICE OF INTEGERS THAT CAME IN: it is nil; or it leads to a row of 'cap' cells, the numbers 'zs' (the first 'len' are its elements, the rest its spare room), each fitting its kind. -/
def IsRow (k : IntKind) (w : World) (a : Option Addr) (len cap : Nat) (zs : List Int) : Prop :=
  (a = none ∧ len = 0 ∧ cap = 0 ∧ zs = []) ∨
  ∃ x, a = some x ∧ len ≤ cap ∧ cap ≤ maxLen ∧ zs.length = cap ∧ (∀ i, i < zs.length → w.cell? (x.add i) = some (.int k (zs.getD i 0))) ∧ ∀ n ∈ zs, (Lit.int k n).wf = true

/-! ### STEP 1: THE WALK: the Go text returns true, AND WRITES NOTHING THAT WAS THERE: 'Below w.heap.size w w'' (Derived/Below.lean: '.refl', '.alloc', '.drew', '.setCell' at a new block, '.trans'). Open each 'IsRow' by 'rcases' AHEAD of 'go_enter'; part every test ahead of the walk. -/
open Go.Proofs.YtdgpmopcmacicaaDoorPi in
/-- From the abstract logic to the model: the call starts with a world all of whose cells are frozen. -/
theorem startG {k : FuncId} {w : World} {vs : Array Value} {pvs : List PV} (hv : VRels (fun b o => w.cell? ⟨b, o, none⟩) [] [] pvs vs.toList) (h : ACalls Tryd.prog k pvs [] fun v u => v = .im (.bool true) ∧ u = []) : Calls Tryd.prog k vs w fun e w' => e = .returned (.bool true) ∧ Below w.heap.size w w' := by
  have hm : MRel (fun b o => w.cell? ⟨b, o, none⟩) [] [] w := ⟨rfl, fun d j o a h => by simp [fget] at h, fun d j d' j' b h => by obtain ⟨o, k, h, _⟩ := h; simp [fget] at h, fun b o v h => h⟩
  refine (h _ [] w _ hm hv).mono ?_
  rintro e w' ⟨v, pv, F', bs', up', rfl, ⟨rfl, rfl⟩, h3, h4, h5⟩
  simp only [VRel, IRel] at h4
  subst h4
  exact ⟨rfl, h5.keeps.os, h5.keeps.tape, h5.keeps.output, h5.keeps.size, fun b hb => h5.keeps.block b hb fun d j ho => by obtain ⟨o, k, h, _⟩ := ho; simp [fget] at h⟩
open Go.Proofs.YtdgpmopcmacicaaDoorPi in
theorem rowRel {w : World} {a : Option Addr} {len cap : Nat} {zs : List Int} (h : IsRow .i64 w a len cap zs) : VRel (fun b o => w.cell? ⟨b, o, none⟩) [] [] (.im (.sl (ints (zs.take len)))) (.slice a len cap) := by
  rcases h with ⟨rfl, rfl, rfl, rfl⟩ | ⟨x, rfl, h1, h2, h3, h4, h5⟩
  · simp only [VRel, IRel]
    exact ⟨none, 0, by simp, by simp, fun h => absurd rfl h⟩
  · have hlen : (zs.take len).length = len := by rw [List.length_take]; omega
    simp only [VRel, IRel]
    refine ⟨some x, cap, by rw [ints_len, hlen], by rw [ints_len, hlen]; exact h1, fun hne => ?_⟩
    have hpos : 0 < len := by
      rcases Nat.eq_zero_or_pos len with h | h
      · subst h; simp at hne
      · exact h
    have hsp : x.spot = none := by
      have := h4 0 (by omega)
      simp only [Addr.add, if_true, World.cell?] at this
      cases hx : x.spot with
      | none => rfl
      | some s =>
        rw [hx] at this
        split at this <;> simp at this
    obtain ⟨xb, xo, xs⟩ := x
    simp only at hsp
    subst hsp
    refine ⟨xb, xo, rfl, 1, IRows.mk fun i r hr => ?_⟩
    simp only [List.getElem?_map, Option.map_eq_some_iff] at hr
    obtain ⟨y, hy, rfl⟩ := hr
    refine ⟨rfl, ICells.mk fun q z hz => ?_⟩
    cases q with
    | succ q => simp at hz
    | zero =>
      simp at hz
      subst hz
      refine ⟨.int .i64 y, ?_, by simp [IRel]⟩
      rw [List.getElem?_take] at hy
      split at hy
      · have hi := (List.getElem?_eq_some_iff.1 hy).1
        have := h4 i hi
        rw [add_none] at this
        simpa [hy] using this
      · simp at hy
theorem rowWf {w : World} {a : Option Addr} {len cap : Nat} {zs : List Int} (h : IsRow .i64 w a len cap zs) : (∀ x ∈ zs.take len, (Lit.int .i64 x).wf = true) ∧ (zs.take len).length ≤ maxLen := by
  rcases h with ⟨rfl, rfl, rfl, rfl⟩ | ⟨x, rfl, h1, h2, h3, h4, h5⟩
  · exact ⟨by simp, by simp⟩
  · exact ⟨fun y hy => h5 y (List.mem_of_mem_take hy), by rw [List.length_take]; omega⟩
open Go.Proofs.YtdgpmopcmacicaaDoorPi in
theorem rowStm {w : World} {a : Option Addr} {len cap : Nat} {zs : List Int} (h : IsRow .i64 w a len cap zs) : StmOk (zs.take len) 0 := by
  obtain ⟨hl, hn⟩ := rowWf h
  exact ⟨fun x hx => by have := hl x hx; simpa [Lit.wf, IntKind.min, IntKind.max, IntKind.signed, IntKind.bits] using this, by simpa [maxLen] using hn, by omega, by omega⟩
open Go.Proofs.YtdgpmopcmacicaaDoorPi in
theorem walk (a0 : Option Addr) (len0 cap0 : Nat) (z0 : List Int) (a1 : Int) (w : World) (w0 : IsRow .i64 w a0 len0 cap0 z0) (w1 : (Lit.int .i64 a1).wf = true) :
    Calls Tryd.prog 3 #[.slice a0 len0 cap0, .int .i64 a1] w fun e w' => e = .returned (.bool true) ∧ Below w.heap.size w w' := by
  refine startG (pvs := [.im (.sl (ints (z0.take len0))), .im (.int .i64 a1)]) (by simp only [VRels]; exact ⟨_, _, rfl, rowRel w0, ⟨_, _, rfl, (by simp only [VRel, IRel]), rfl⟩⟩) ?_
  exact Go.Proofs.YtdgpmopcmacicaaDoorPi.Steps_walk _ a1 (by simpa [Lit.wf, IntKind.min, IntKind.max, IntKind.signed, IntKind.bits, Go.Proofs.YtdgpmopcmacicaaDoorPi.I64] using w1) (rowStm w0) []

abbrev laidL {H : Type} : List (String × DataW H) := [("math/bits.deBruijn32tab", Rows.laid_math_bits_deBruijn32tab), ("math/bits.deBruijn64tab", Rows.laid_math_bits_deBruijn64tab), ("internal/strconv.uint64pow10", Rows.laid_internal_strconv_uint64pow10)]
/-- The door's own heap meets the condition. -/
theorem door_met (os : Os) (args : Array Value) : laidMetH Tryd.prog laidL ((World.doorLaid Tryd.prog 400 os).forCall (fun _ _ => 0) ⟨#[], args, []⟩).memory :=
  laidMetH_of_parts3 (fuel := 8) (laidMet_of_run' 8 (by kernel_rfl) (by kernel_rfl)) (by kernel_rfl) (by kernel_rfl)

/-! ### THE ROW's STEP: WRITTEN OUT: LEAVE IT -/
set_option maxRecDepth 100000 in
theorem lifted (os : Os) (started : os.Started) (H : Type) (enc : TypeId × Value → H) :
    ReturnsInHanded {} Tryd.checked os 3 .any (fun w args => (Rows.retimeStepsSpec.pre enc Tryd.prog Tryd.f3 [] false w args ∧ laidMetH Tryd.prog laidL w) ∧ sizedMet enc Tryd.prog Tryd.f3 (OpenSpec.ofChange Rows.retimeStepsSpec) false w args) (Rows.retimeStepsSpec.post enc Tryd.prog Tryd.f3 false true false false) := by
  refine returnsInHanded_of_change_and (C := Tryd.checked) (X := fun w _ => laidMetH Tryd.prog laidL w) (fun _ _ _ hh h => h.of_heap hh) own started (by kernel_rfl) Tryd.func3
    (ChangeSpec.witness_shaped (enc := enc) (C := Tryd.checked) (os := os) (X := fun w _ => laidMetH Tryd.prog laidL w) false (World.doorLaid Tryd.prog 400 os) #[.slice none 0 0, .int .i64 0] 8 rfl (World.shaped_of_RefB (by kernel_rfl) (by kernel_rfl)) (by kernel_rfl) (by kernel_rfl) (by kernel_rfl) (door_met os _)) ?_
  intro W base args ds gs before hval0 hW _ _ hL _
  have hval : ∀ (j : Nat) t v, Tryd.f3.params[j]? = some t → args[j]? = some v → Value.okWide Tryd.prog W .any base t v := hval0
  have hW' := hW
  obtain ⟨p, q, hA0, hV, rfl, hfz, hnd⟩ := hW
  have hA : DataW.TrodAll enc Tryd.prog W 0 (fun _ => true) true Tryd.f3.params.toList args.toList ds p := hA0
  rw [Tryd.params3] at hA hval
  obtain ⟨v0, vs0, d0, ds0, p0, q0, hargs, rfl, rfl, h0, r0⟩ := trodAll_cons hA
  obtain ⟨v1, vs1, d1, ds1, p1, q1, rfl, rfl, rfl, h1, r1⟩ := trodAll_cons r0
  obtain ⟨rfl, rfl, rfl⟩ := trodAll_nil r1
  obtain rfl : args = #[v0, v1] := by cases args; simp_all
  obtain ⟨rfl, rfl⟩ := trodVars_none hV
  obtain ⟨a0, len0, cap0, rfl⟩ := okWide_slice Tryd.underlying22 (hval 0 22 v0 rfl rfl)
  have k0 := h0
  have lt0 : ∀ x ∈ p0, x.block < W.heap.size := by obtain ⟨m, hm⟩ := k0; exact DataW.trod_lt m _ _ _ hm
  obtain ⟨z0, w0⟩ : ∃ zs, IsRow .i64 W a0 len0 cap0 zs := by
    obtain ⟨fuel, hf⟩ := h0
    rcases open_ints Tryd.underlying22 Tryd.underlying3 (by kernel_rfl) hf with ⟨hcs, _⟩ | ⟨x, l, c, zs, hcs, _, hl, hm, hz, _, hcell, hwz⟩
    · simp [Value.cells] at hcs
      obtain ⟨rfl, rfl, rfl⟩ := hcs
      exact ⟨[], .inl ⟨rfl, rfl, rfl, rfl⟩⟩
    · simp [Value.cells] at hcs
      obtain ⟨rfl, rfl, rfl⟩ := hcs
      exact ⟨zs, .inr ⟨_, rfl, hl, hm, by simpa using hz, hcell, hwz⟩⟩
  obtain ⟨a1, rfl, rfl, rfl, w1⟩ := open_int Tryd.underlying3 (hval 1 3 v1 rfl rfl) h1
  clear hA0 hval0
  refine (walk a0 len0 cap0 z0 a1 W w0 w1).mono fun e W' ⟨he, bel⟩ => ?_
  subst he
  exact ⟨_, rfl, _, _, _, [], _, [], hW', trodAll_mk1 (shut_bool Tryd.underlying4 _), (trodAll_cons_mk (Below.trod laidOut (by kernel_rfl) (of_decide_eq_true (by kernel_rfl)) k0 bel lt0) (trodAll_cons_mk (shut_int Tryd.underlying3 w1) trodAll_mk0)), rfl, bel.frame _, fun h => by cases h⟩

theorem over : Rows.retimeStepsRow.holds Tryd.pinned (OpenSpec.ofChange Rows.retimeStepsSpec) :=
  OpenClaim.holds_of_wide 3 Tryd.f3 rfl rfl rfl rfl rfl rfl rfl ⟨rfl, rfl, rfl, rfl, rfl⟩ rfl rfl rfl rfl rfl (by kernel_rfl) Tryd.func3 (by kernel_rfl)
    (of_decide_eq_true (by kernel_rfl)) (by unfold Func.isWrapper; first | (rw [if_pos (by decide +kernel)]; kernel_rfl) | (rw [if_neg (by decide +kernel)]; exact ⟨rfl, rfl⟩))
    (fun os started H enc _ => lifted os started H enc)

/-- ████ THE STATEMENT ████ -/
theorem proved : Rows.RetimeStepsSaid := over
#print axioms proved
end Go.Proofs.YtdgpmopcmacicaaDoor.retimeSteps

namespace Go.Proofs.YtdgpmopcmacicaaDoor.retimeSteps
open Go
theorem card : Rows.RetimeStepsCardSaid :=
  Claim7.holds_tied_plain_at .later [] [.data, .data, .data] true (true, "8a0b6099de580ae1f497c3b1ee2f4bdb2f2a26093e16c46cd04ba577c7560385") false
    proved (fun _ h => by cases h) (by kernel_rfl) (fun _ h => by cases h) retimeSteps_row_tie rfl ⟨rfl, rfl⟩ (by kernel_rfl) rfl
    (fun f fn hf hfn => by
      obtain rfl : f = 3 := Option.some.inj ((show Tryd.prog.funcNamed "maskwright/maskkeep3.RetimeSteps" = some 3 by kernel_rfl).symm.trans hf) |>.symm
      obtain rfl : fn = Tryd.f3 := (Option.some.inj (Tryd.func3.symm.trans hfn)).symm
      exact ⟨by kernel_rfl, fun j t ht => by
        rw [Tryd.params3] at ht
        have hm : t ∈ [22, 3] := by simpa using Array.mem_of_getElem? ht
        have hall : ([22, 3].all fun u => !Tryd.prog.wantsStandIn u) = true := by kernel_rfl
        exact (show Tryd.prog.wantsStandIn t = false by simpa using List.all_eq_true.1 hall t hm)⟩)
    (by kernel_rfl)
#print axioms card
end Go.Proofs.YtdgpmopcmacicaaDoor.retimeSteps
