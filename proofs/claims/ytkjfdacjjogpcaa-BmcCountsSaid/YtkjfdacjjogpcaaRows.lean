/-
  No cell of these rows narrows 'for every input' (looked for: loops, veiled, ifaces, maps, wideKeys, modest, calm, conditions, laid).
  DERIVED. THE GIVEN ROWS OF THIS SEAT. 7 by the template 'for every input the law returns true; each argument reads behind the call as it read before'; 0 by the template 'total and deterministic' (their statements: YtkjfdacjjogpcaaTotals.lean).
  GIVEN WITH THE SEED: the statements are not yours to turn. If you find one false, say at which input.
  Laid BY PROGRAM, IN A SANDBOX (cutbox-rows.mjs): the forced cells as the released guide's own fill.sh prints them over the translation 06ad7b48965ebd32… (all of the seat's roots in one cut). By AI agents, Wed Nov 11 2026. No macro, syntax, notation, axiom, sorry.
-/
import Derived.Test.YtkjfdacjjogpcaaChecked
import GoSem.Claim
import GoSem.ClaimJoined
import GoSem.ClaimMapViews
import Derived.JoinedTies
import Derived.KernelRfl
namespace Go.Proofs.Ytkjfdacjjogpcaa
/- THE CELL 'sum', in the pinned program and in every row, IS THE sha256 OF THE DUMP (.gsa) THAT YtkjfdacjjogpcaaProg.lean LOADS. Nothing in Lean hashes anything: it is a label: what it is worth is what the hold of that sum in a sandbox is worth. -/
noncomputable def Try.pinned : Pinned := { name := "ytkjfdacjjogpcaa", sum := "06ad7b48965ebd32b3175816812fb1512e48abe7a1ef70592688007a1d1c5c4d", checked := Try.checked }
namespace Rows
def none {H : Type} : Left H := { results := [], args := [] }

/-- 'maskkeep3.SatGraphs': WHATEVER THE INPUT: true; the input reads as it did. -/
def satGraphsSpec : ChangeSpec := { name := "satGraphs", fn := fun _ => fun
  | [d] => { results := [.lit (.bool true)], args := [d] }
  | _ => none }
def satGraphsRow : OpenClaim := { program := "ytkjfdacjjogpcaa", sum := "06ad7b48965ebd32b3175816812fb1512e48abe7a1ef70592688007a1d1c5c4d", func := "maskwright/maskkeep3.SatGraphs", spec := "satGraphs", unfollowed := true, recurses := true, plainKeys := false, apart := false }
def SatGraphsSaid : Prop := satGraphsRow.holds Try.pinned (OpenSpec.ofChange satGraphsSpec)

/-- ITS FALSE NEIGHBOUR: 'it returns false'. Refute it at one input. -/
def satGraphsWrong : ChangeSpec := { name := "satGraphs", fn := fun _ => fun
  | [d] => { results := [.lit (.bool false)], args := [d] }
  | _ => none }
def SatGraphsWrongFalsely : Prop := satGraphsRow.holds Try.pinned (OpenSpec.ofChange satGraphsWrong)

/-- 'maskkeep3.InductRing': WHATEVER THE INPUT: true; the input reads as it did. -/
def inductRingSpec : ChangeSpec := { name := "inductRing", fn := fun _ => fun
  | [d1, d2] => { results := [.lit (.bool true)], args := [d1, d2] }
  | _ => none }
def inductRingRow : OpenClaim := { program := "ytkjfdacjjogpcaa", sum := "06ad7b48965ebd32b3175816812fb1512e48abe7a1ef70592688007a1d1c5c4d", func := "maskwright/maskkeep3.InductRing", spec := "inductRing", recurses := true, plainKeys := false, apart := false }
def InductRingSaid : Prop := inductRingRow.holds Try.pinned (OpenSpec.ofChange inductRingSpec)

/-- ITS FALSE NEIGHBOUR: 'it returns false'. Refute it at one input. -/
def inductRingWrong : ChangeSpec := { name := "inductRing", fn := fun _ => fun
  | [d1, d2] => { results := [.lit (.bool false)], args := [d1, d2] }
  | _ => none }
def InductRingWrongFalsely : Prop := inductRingRow.holds Try.pinned (OpenSpec.ofChange inductRingWrong)

/-- 'maskkeep3.SatRuns': WHATEVER THE INPUT: true; the input reads as it did. -/
def satRunsSpec : ChangeSpec := { name := "satRuns", fn := fun _ => fun
  | [d1, d2] => { results := [.lit (.bool true)], args := [d1, d2] }
  | _ => none }
def satRunsRow : OpenClaim := { program := "ytkjfdacjjogpcaa", sum := "06ad7b48965ebd32b3175816812fb1512e48abe7a1ef70592688007a1d1c5c4d", func := "maskwright/maskkeep3.SatRuns", spec := "satRuns", unfollowed := true, recurses := true, plainKeys := false, apart := false }
def SatRunsSaid : Prop := satRunsRow.holds Try.pinned (OpenSpec.ofChange satRunsSpec)

/-- ITS FALSE NEIGHBOUR: 'it returns false'. Refute it at one input. -/
def satRunsWrong : ChangeSpec := { name := "satRuns", fn := fun _ => fun
  | [d1, d2] => { results := [.lit (.bool false)], args := [d1, d2] }
  | _ => none }
def SatRunsWrongFalsely : Prop := satRunsRow.holds Try.pinned (OpenSpec.ofChange satRunsWrong)

/-- 'maskkeep3.BmcLonger': WHATEVER THE INPUT: true; the input reads as it did. -/
def bmcLongerSpec : ChangeSpec := { name := "bmcLonger", fn := fun _ => fun
  | [d1, d2, d3] => { results := [.lit (.bool true)], args := [d1, d2, d3] }
  | _ => none }
def bmcLongerRow : OpenClaim := { program := "ytkjfdacjjogpcaa", sum := "06ad7b48965ebd32b3175816812fb1512e48abe7a1ef70592688007a1d1c5c4d", func := "maskwright/maskkeep3.BmcLonger", spec := "bmcLonger", recurses := true, plainKeys := false, apart := false }
def BmcLongerSaid : Prop := bmcLongerRow.holds Try.pinned (OpenSpec.ofChange bmcLongerSpec)

/-- ITS FALSE NEIGHBOUR: 'it returns false'. Refute it at one input. -/
def bmcLongerWrong : ChangeSpec := { name := "bmcLonger", fn := fun _ => fun
  | [d1, d2, d3] => { results := [.lit (.bool false)], args := [d1, d2, d3] }
  | _ => none }
def BmcLongerWrongFalsely : Prop := bmcLongerRow.holds Try.pinned (OpenSpec.ofChange bmcLongerWrong)

/-- 'maskkeep3.EqualSpoiled': WHATEVER THE INPUT: true; the input reads as it did. -/
def equalSpoiledSpec : ChangeSpec := { name := "equalSpoiled", fn := fun _ => fun
  | [d1, d2] => { results := [.lit (.bool true)], args := [d1, d2] }
  | _ => none }
def equalSpoiledRow : OpenClaim := { program := "ytkjfdacjjogpcaa", sum := "06ad7b48965ebd32b3175816812fb1512e48abe7a1ef70592688007a1d1c5c4d", func := "maskwright/maskkeep3.EqualSpoiled", spec := "equalSpoiled", unfollowed := true, recurses := true, plainKeys := false, apart := false }
def EqualSpoiledSaid : Prop := equalSpoiledRow.holds Try.pinned (OpenSpec.ofChange equalSpoiledSpec)

/-- ITS FALSE NEIGHBOUR: 'it returns false'. Refute it at one input. -/
def equalSpoiledWrong : ChangeSpec := { name := "equalSpoiled", fn := fun _ => fun
  | [d1, d2] => { results := [.lit (.bool false)], args := [d1, d2] }
  | _ => none }
def EqualSpoiledWrongFalsely : Prop := equalSpoiledRow.holds Try.pinned (OpenSpec.ofChange equalSpoiledWrong)

/-- 'maskkeep3.InductSound': WHATEVER THE INPUT: true; the input reads as it did. -/
def inductSoundSpec : ChangeSpec := { name := "inductSound", fn := fun _ => fun
  | [d1, d2] => { results := [.lit (.bool true)], args := [d1, d2] }
  | _ => none }
def inductSoundRow : OpenClaim := { program := "ytkjfdacjjogpcaa", sum := "06ad7b48965ebd32b3175816812fb1512e48abe7a1ef70592688007a1d1c5c4d", func := "maskwright/maskkeep3.InductSound", spec := "inductSound", recurses := true, plainKeys := false, apart := false }
def InductSoundSaid : Prop := inductSoundRow.holds Try.pinned (OpenSpec.ofChange inductSoundSpec)

/-- ITS FALSE NEIGHBOUR: 'it returns false'. Refute it at one input. -/
def inductSoundWrong : ChangeSpec := { name := "inductSound", fn := fun _ => fun
  | [d1, d2] => { results := [.lit (.bool false)], args := [d1, d2] }
  | _ => none }
def InductSoundWrongFalsely : Prop := inductSoundRow.holds Try.pinned (OpenSpec.ofChange inductSoundWrong)

/-- 'maskkeep3.BmcCounts': WHATEVER THE INPUT: true; the input reads as it did. -/
def bmcCountsSpec : ChangeSpec := { name := "bmcCounts", fn := fun _ => fun
  | [d1, d2, d3] => { results := [.lit (.bool true)], args := [d1, d2, d3] }
  | _ => none }
def bmcCountsRow : OpenClaim := { program := "ytkjfdacjjogpcaa", sum := "06ad7b48965ebd32b3175816812fb1512e48abe7a1ef70592688007a1d1c5c4d", func := "maskwright/maskkeep3.BmcCounts", spec := "bmcCounts", recurses := true, plainKeys := false, apart := false }
def BmcCountsSaid : Prop := bmcCountsRow.holds Try.pinned (OpenSpec.ofChange bmcCountsSpec)

/-- ITS FALSE NEIGHBOUR: 'it returns false'. Refute it at one input. -/
def bmcCountsWrong : ChangeSpec := { name := "bmcCounts", fn := fun _ => fun
  | [d1, d2, d3] => { results := [.lit (.bool false)], args := [d1, d2, d3] }
  | _ => none }
def BmcCountsWrongFalsely : Prop := bmcCountsRow.holds Try.pinned (OpenSpec.ofChange bmcCountsWrong)

/- THE SECOND FORM. 'bulk': how many values and letters a reading holds, each counted each time it is reached (what is shared counts as often as it is met; a slice's spare places count too). A statement '..UptoSaid' is the law's where the arguments, and the package variables that the reading takes, are together of bulk at most 1048576: NARROWER than '..Said'. Prove '..Said' where nothing that the law and all that it calls make is longer than what came in: it says more and counts as full. Else prove '..UptoSaid'. A law counts once. -/
mutual
def uptoBulk {H : Type} : DataW H → Nat
  | .lit (.string bytes) => bytes.length + 1
  | .lit _ => 1
  | .nil => 1
  | .ptr d => uptoBulk d + 1
  | .slice elems spare => uptoBulkAll elems + uptoBulkAll spare + 1
  | .agg parts => uptoBulkAll parts + 1
  | .iface _ d => uptoBulk d + 1
  | .map entries => uptoBulkEntries entries + 1
  | .held _ => 1
def uptoBulkAll {H : Type} : List (DataW H) → Nat
  | [] => 0
  | d :: r => uptoBulk d + uptoBulkAll r
def uptoBulkEntries {H : Type} : List (Lit × DataW H) → Nat
  | [] => 0
  | x :: r => uptoBulkEntry x + uptoBulkEntries r
def uptoBulkEntry {H : Type} : Lit × DataW H → Nat
  | (.string bytes, d) => bytes.length + uptoBulk d + 1
  | (_, d) => uptoBulk d + 1
 end
def uptoSmall : (H : Type) → List (DataW H) → Bool := fun _ ds => decide (uptoBulkAll ds ≤ 1048576)
def OpenSpec.upto (s : _root_.Go.ChangeSpec) : _root_.Go.OpenSpec := { _root_.Go.OpenSpec.ofChange s with cond := some uptoSmall }

/-- 'maskkeep3.SatGraphs', WHERE WHAT IT READS IS OF BULK AT MOST 1048576: true; the input reads as it did. -/
def satGraphsUptoRow : OpenClaim := { program := "ytkjfdacjjogpcaa", sum := "06ad7b48965ebd32b3175816812fb1512e48abe7a1ef70592688007a1d1c5c4d", func := "maskwright/maskkeep3.SatGraphs", spec := "satGraphs", unfollowed := true, recurses := true, plainKeys := false, apart := false, narrowed := true }
def SatGraphsUptoSaid : Prop := satGraphsUptoRow.holds Try.pinned (OpenSpec.upto satGraphsSpec)

/-- 'maskkeep3.InductRing', WHERE WHAT IT READS IS OF BULK AT MOST 1048576: true; the input reads as it did. -/
def inductRingUptoRow : OpenClaim := { program := "ytkjfdacjjogpcaa", sum := "06ad7b48965ebd32b3175816812fb1512e48abe7a1ef70592688007a1d1c5c4d", func := "maskwright/maskkeep3.InductRing", spec := "inductRing", recurses := true, plainKeys := false, apart := false, narrowed := true }
def InductRingUptoSaid : Prop := inductRingUptoRow.holds Try.pinned (OpenSpec.upto inductRingSpec)

/-- 'maskkeep3.SatRuns', WHERE WHAT IT READS IS OF BULK AT MOST 1048576: true; the input reads as it did. -/
def satRunsUptoRow : OpenClaim := { program := "ytkjfdacjjogpcaa", sum := "06ad7b48965ebd32b3175816812fb1512e48abe7a1ef70592688007a1d1c5c4d", func := "maskwright/maskkeep3.SatRuns", spec := "satRuns", unfollowed := true, recurses := true, plainKeys := false, apart := false, narrowed := true }
def SatRunsUptoSaid : Prop := satRunsUptoRow.holds Try.pinned (OpenSpec.upto satRunsSpec)

/-- 'maskkeep3.BmcLonger', WHERE WHAT IT READS IS OF BULK AT MOST 1048576: true; the input reads as it did. -/
def bmcLongerUptoRow : OpenClaim := { program := "ytkjfdacjjogpcaa", sum := "06ad7b48965ebd32b3175816812fb1512e48abe7a1ef70592688007a1d1c5c4d", func := "maskwright/maskkeep3.BmcLonger", spec := "bmcLonger", recurses := true, plainKeys := false, apart := false, narrowed := true }
def BmcLongerUptoSaid : Prop := bmcLongerUptoRow.holds Try.pinned (OpenSpec.upto bmcLongerSpec)

/-- 'maskkeep3.EqualSpoiled', WHERE WHAT IT READS IS OF BULK AT MOST 1048576: true; the input reads as it did. -/
def equalSpoiledUptoRow : OpenClaim := { program := "ytkjfdacjjogpcaa", sum := "06ad7b48965ebd32b3175816812fb1512e48abe7a1ef70592688007a1d1c5c4d", func := "maskwright/maskkeep3.EqualSpoiled", spec := "equalSpoiled", unfollowed := true, recurses := true, plainKeys := false, apart := false, narrowed := true }
def EqualSpoiledUptoSaid : Prop := equalSpoiledUptoRow.holds Try.pinned (OpenSpec.upto equalSpoiledSpec)

/-- 'maskkeep3.InductSound', WHERE WHAT IT READS IS OF BULK AT MOST 1048576: true; the input reads as it did. -/
def inductSoundUptoRow : OpenClaim := { program := "ytkjfdacjjogpcaa", sum := "06ad7b48965ebd32b3175816812fb1512e48abe7a1ef70592688007a1d1c5c4d", func := "maskwright/maskkeep3.InductSound", spec := "inductSound", recurses := true, plainKeys := false, apart := false, narrowed := true }
def InductSoundUptoSaid : Prop := inductSoundUptoRow.holds Try.pinned (OpenSpec.upto inductSoundSpec)

/-- 'maskkeep3.BmcCounts', WHERE WHAT IT READS IS OF BULK AT MOST 1048576: true; the input reads as it did. -/
def bmcCountsUptoRow : OpenClaim := { program := "ytkjfdacjjogpcaa", sum := "06ad7b48965ebd32b3175816812fb1512e48abe7a1ef70592688007a1d1c5c4d", func := "maskwright/maskkeep3.BmcCounts", spec := "bmcCounts", recurses := true, plainKeys := false, apart := false, narrowed := true }
def BmcCountsUptoSaid : Prop := bmcCountsUptoRow.holds Try.pinned (OpenSpec.upto bmcCountsSpec)

end Rows
end Go.Proofs.Ytkjfdacjjogpcaa
