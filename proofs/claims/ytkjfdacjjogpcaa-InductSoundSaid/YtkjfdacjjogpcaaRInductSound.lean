/- InductSound: for every input the law returns true and its arguments read afterwards as they did. No conditions. The frame was written by the kit's proof-skeleton; the walk is ours. -/
import Derived.Test.YtkjfdacjjogpcaaRows
import Derived.WalkKit
import Derived.ProofKit
import Derived.OpenShut
import Derived.ShutString
import Derived.ChangeOld
import Derived.Below
import Derived.Test.YtkjfdacjjogpcaaM7
namespace Go.Proofs.Ytkjfdacjjogpcaa.inductSound
open Go.ChangeShapes Go.WideShapes Go.ChangeAt Go.RowKit
open Go.ChangeMaps (open_string shut_string)
set_option linter.unusedVariables false

theorem own : ownKnob Try.prog.godebug = none := by kernel_rfl
theorem laidOut : laidOutB Try.prog = true := by kernel_rfl

def IsRow (k : IntKind) (w : World) (a : Option Addr) (len cap : Nat) (zs : List Int) : Prop :=
 (a = none ∧ len = 0 ∧ cap = 0 ∧ zs = []) ∨
 ∃ x, a = some x ∧ len ≤ cap ∧ cap ≤ maxLen ∧ zs.length = cap ∧ (∀ i, i < zs.length → w.cell? (x.add i) = some (.int k (zs.getD i 0))) ∧ ∀ n ∈ zs, (Lit.int k n).wf = true

/-! ### STEP 1: THE WALK: the Go text returns true, AND WRITES NOTHING THAT WAS THERE: 'Below w.heap.size w w'' (Derived/Below.lean: '.refl', '.alloc', '.drew', '.setCell' at a new block, '.trans'). Open each 'IsRow' by 'rcases' AHEAD of 'go_enter'; part every test ahead of the walk. -/
open Go.Proofs.YtkjfdacjjogpcaaPi in
theorem startG {k : FuncId} {w : World} {vs : Array Value} {pvs : List PV} (hv : VRels (fun b o => w.cell? ⟨b, o, none⟩) [] [] pvs vs.toList) (h : ACalls Try.prog k pvs [] fun v u => v = .im (.bool true) ∧ u = []) : Calls Try.prog k vs w fun e w' => e = .returned (.bool true) ∧ Below w.heap.size w w' := by
 have hm : MRel (fun b o => w.cell? ⟨b, o, none⟩) [] [] w := ⟨rfl, fun d j o a h => by simp [fget] at h, fun d j d' j' b h => by obtain ⟨o, k, h, _⟩ := h; simp [fget] at h, fun b o v h => h⟩
 refine (h _ [] w _ hm hv).mono ?_
 rintro e w' ⟨v, pv, F', bs', up', rfl, ⟨rfl, rfl⟩, h3, h4, h5⟩
 simp only [VRel, IRel] at h4
 subst h4
 exact ⟨rfl, h5.keeps.os, h5.keeps.tape, h5.keeps.output, h5.keeps.size, fun b hb => h5.keeps.block b hb fun d j ho => by obtain ⟨o, k, h, _⟩ := ho; simp [fget] at h⟩
open Go.Proofs.YtkjfdacjjogpcaaPi in
theorem rowRel {w : World} {a : Option Addr} {len cap : Nat} {zs : List Int} (h : IsRow .i64 w a len cap zs) : VRel (fun b o => w.cell? ⟨b, o, none⟩) [] [] (.im (.sl (ints (zs.take len)))) (.slice a len cap) := by
 rcases h with ⟨rfl, rfl, rfl, rfl⟩ | ⟨x, rfl, h1, h2, h3, h4, h5⟩
 ·simp only [VRel, IRel]
  exact ⟨none, 0, by simp, by simp, fun h => absurd rfl h⟩
 ·have hlen : (zs.take len).length = len := by rw [List.length_take]; omega
  simp only [VRel, IRel]
  refine ⟨some x, cap, by rw [ints_len, hlen], by rw [ints_len, hlen]; exact h1, fun hne => ?_⟩
  have hpos : 0 < len := by
   rcases Nat.eq_zero_or_pos len with h | h
   ·subst h; simp at hne
   ·exact h
  have hsp : x.spot = none := by
   have := h4 0 (by omega)
   simp only [Addr.add, if_true, World.cell?] at this
   cases hx : x.spot with
   | none => rfl
   | some s =>
    rw [hx] at this
    split at this <;> simp at this
  obtain ⟨xb, xo, xs⟩ := x
  simp only at hsp
  subst hsp
  refine ⟨xb, xo, rfl, 1, IRows.mk fun i r hr => ?_⟩
  simp only [List.getElem?_map, Option.map_eq_some_iff] at hr
  obtain ⟨y, hy, rfl⟩ := hr
  refine ⟨rfl, ICells.mk fun q z hz => ?_⟩
  cases q with
  | succ q => simp at hz
  | zero =>
   simp at hz
   subst hz
   refine ⟨.int .i64 y, ?_, by simp [IRel]⟩
   rw [List.getElem?_take] at hy
   split at hy
   ·have hi := (List.getElem?_eq_some_iff.1 hy).1
    have := h4 i hi
    rw [add_none] at this
    simpa [hy] using this
   ·simp at hy
theorem rowWf {w : World} {a : Option Addr} {len cap : Nat} {zs : List Int} (h : IsRow .i64 w a len cap zs) : (∀ x ∈ zs.take len, (Lit.int .i64 x).wf = true) ∧ (zs.take len).length ≤ maxLen := by
 rcases h with ⟨rfl, rfl, rfl, rfl⟩ | ⟨x, rfl, h1, h2, h3, h4, h5⟩
 ·exact ⟨by simp, by simp⟩
 ·exact ⟨fun y hy => h5 y (List.mem_of_mem_take hy), by rw [List.length_take]; omega⟩
open Go.Proofs.YtkjfdacjjogpcaaPi in
theorem rowStm {w : World} {a : Option Addr} {len cap : Nat} {zs : List Int} (h : IsRow .i64 w a len cap zs) : StmOk (zs.take len) 0 := by
 obtain ⟨hl, hn⟩ := rowWf h
 exact ⟨fun x hx => by have := hl x hx; simpa [Lit.wf, IntKind.min, IntKind.max, IntKind.signed, IntKind.bits] using this, by simpa [maxLen] using hn, by omega, by omega⟩
open Go.Proofs.YtkjfdacjjogpcaaPi in
theorem walk (a0 : Option Addr) (len0 cap0 : Nat) (z0 : List Int) (a1 : Int) (w : World) (w0 : IsRow .i64 w a0 len0 cap0 z0) (w1 : (Lit.int .i64 a1).wf = true) :
  Calls Try.prog 8 #[.slice a0 len0 cap0, .int .i64 a1] w fun e w' => e = .returned (.bool true) ∧ Below w.heap.size w w' := by
 refine startG (pvs := [.im (.sl (ints (z0.take len0))), .im (.int .i64 a1)]) (by simp only [VRels]; exact ⟨_, _, rfl, rowRel w0, ⟨_, _, rfl, (by simp only [VRel, IRel]), rfl⟩⟩) ?_
 exact Go.Proofs.YtkjfdacjjogpcaaPi.InductSound_walk _ a1 (by simpa [Lit.wf, IntKind.min, IntKind.max, IntKind.signed, IntKind.bits, Go.Proofs.YtkjfdacjjogpcaaPi.I64] using w1) (rowStm w0) []

/-! ### THE ROW's STEP: WRITTEN OUT: LEAVE IT -/
set_option maxRecDepth 100000 in
theorem lifted (os : Os) (started : os.Started) (H : Type) (enc : TypeId × Value → H) :
  ReturnsInHanded {} Try.checked os 8 .any (Rows.inductSoundSpec.pre6 enc Try.prog Try.f8 Rows.inductSoundRow.domain false) (Rows.inductSoundSpec.post enc Try.prog Try.f8 false true false false) := by
 refine returnsInHanded_of_change (C := Try.checked) own started (by kernel_rfl) Try.func8
  (ChangeSpec.witness6 (enc := enc) (C := Try.checked) false ⟨#[], #[.slice none 0 0, .int .i64 0], []⟩ 8 (by kernel_rfl) (by kernel_rfl) (by kernel_rfl) (by kernel_rfl)) ?_
 intro W base args ds gs before hval0 hW hcnd _
 have hval : ∀ (j : Nat) t v, Try.f8.params[j]? = some t → args[j]? = some v → Value.okWide Try.prog W .any base t v := hval0
 have hW' := hW
 obtain ⟨p, q, hA0, hV, rfl, hfz, hnd⟩ := hW
 have hA : DataW.TrodAll enc Try.prog W 0 (fun _ => true) true Try.f8.params.toList args.toList ds p := hA0
 rw [Try.params8] at hA hval
 obtain ⟨v0, vs0, d0, ds0, p0, q0, hargs, rfl, rfl, h0, r0⟩ := trodAll_cons hA
 obtain ⟨v1, vs1, d1, ds1, p1, q1, rfl, rfl, rfl, h1, r1⟩ := trodAll_cons r0
 obtain ⟨rfl, rfl, rfl⟩ := trodAll_nil r1
 obtain rfl : args = #[v0, v1] := by cases args; simp_all
 obtain ⟨rfl, rfl⟩ := trodVars_none hV
 obtain ⟨a0, len0, cap0, rfl⟩ := okWide_slice Try.underlying22 (hval 0 22 v0 rfl rfl)
 have k0 := h0
 have lt0 : ∀ x ∈ p0, x.block < W.heap.size := by obtain ⟨m, hm⟩ := k0; exact DataW.trod_lt m _ _ _ hm
 obtain ⟨z0, w0⟩ : ∃ zs, IsRow .i64 W a0 len0 cap0 zs := by
  obtain ⟨fuel, hf⟩ := h0
  rcases open_ints Try.underlying22 Try.underlying3 (by kernel_rfl) hf with ⟨hcs, _⟩ | ⟨x, l, c, zs, hcs, _, hl, hm, hz, _, hcell, hwz⟩
  ·simp [Value.cells] at hcs
   obtain ⟨rfl, rfl, rfl⟩ := hcs
   exact ⟨[], .inl ⟨rfl, rfl, rfl, rfl⟩⟩
  ·simp [Value.cells] at hcs
   obtain ⟨rfl, rfl, rfl⟩ := hcs
   exact ⟨zs, .inr ⟨_, rfl, hl, hm, by simpa using hz, hcell, hwz⟩⟩
 obtain ⟨a1, rfl, rfl, rfl, w1⟩ := open_int Try.underlying3 (hval 1 3 v1 rfl rfl) h1
 clear hA0 hval0
 refine (walk a0 len0 cap0 z0 a1 W w0 w1).mono fun e W' ⟨he, bel⟩ => ?_
 subst he
 exact ⟨_, rfl, _, _, _, [], _, [], hW', trodAll_mk1 (shut_bool Try.underlying4 _), (trodAll_cons_mk (Below.trod laidOut (by kernel_rfl) (of_decide_eq_true (by kernel_rfl)) k0 bel lt0) (trodAll_cons_mk (shut_int Try.underlying3 w1) trodAll_mk0)), rfl, bel.frame _, fun h => by cases h⟩

theorem over : Rows.inductSoundRow.holds Try.pinned (OpenSpec.ofChange Rows.inductSoundSpec) :=
 OpenClaim.holds_of_wide 8 Try.f8 rfl rfl rfl rfl rfl rfl rfl ⟨rfl, rfl, rfl, rfl, rfl⟩ rfl rfl rfl rfl rfl (by kernel_rfl) Try.func8 (by kernel_rfl)
  (of_decide_eq_true (by kernel_rfl)) (by unfold Func.isWrapper; first | (rw [if_pos (by decide +kernel)]; kernel_rfl) | (rw [if_neg (by decide +kernel)]; exact ⟨rfl, rfl⟩))
  (fun os started H enc _ => lifted os started H enc)

theorem proved : Rows.InductSoundSaid := over
#print axioms proved
end Go.Proofs.Ytkjfdacjjogpcaa.inductSound
