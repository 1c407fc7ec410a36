/-
  No cell of these rows narrows 'for every input' (looked for: loops, veiled, ifaces, maps, wideKeys, modest, calm, conditions, laid).
  DERIVED. THE GIVEN ROWS OF THIS SEAT. 12 by the template 'for every input the law returns true; each argument reads behind the call as it read before'; 0 by the template 'total and deterministic' (their statements: YtkmnmokjlpenhaaTotals.lean).
  GIVEN WITH THE SEED: the statements are not yours to turn. If you find one false, say at which input.
  Laid BY PROGRAM, IN A SANDBOX (cutbox-rows.mjs): the forced cells as the released guide's own fill.sh prints them over the translation b7a270a7924bbc2c… (all of the seat's roots in one cut). By AI agents, Wed Nov 11 2026. No macro, syntax, notation, axiom, sorry.
-/
import Derived.Test.YtkmnmokjlpenhaaChecked
import GoSem.Claim
import GoSem.ClaimJoined
import GoSem.ClaimMapViews
import Derived.JoinedTies
import Derived.KernelRfl
namespace Go.Proofs.Ytkmnmokjlpenhaa
/- THE CELL 'sum', in the pinned program and in every row, IS THE sha256 OF THE DUMP (.gsa) THAT YtkmnmokjlpenhaaProg.lean LOADS. Nothing in Lean hashes anything: it is a label: what it is worth is what the hold of that sum in a sandbox is worth. -/
noncomputable def Try.pinned : Pinned := { name := "ytkmnmokjlpenhaa", sum := "b7a270a7924bbc2c2e7e02c1caf18965362cf25a0244e6ccebe395601527a871", checked := Try.checked }
namespace Rows
def none {H : Type} : Left H := { results := [], args := [] }

/-- 'maskkeep3.NetlistUses': WHATEVER THE INPUT: true; the input reads as it did. -/
def netlistUsesSpec : ChangeSpec := { name := "netlistUses", fn := fun _ => fun
  | [d] => { results := [.lit (.bool true)], args := [d] }
  | _ => none }
def netlistUsesRow : OpenClaim := { program := "ytkmnmokjlpenhaa", sum := "b7a270a7924bbc2c2e7e02c1caf18965362cf25a0244e6ccebe395601527a871", func := "maskwright/maskkeep3.NetlistUses", spec := "netlistUses", unfollowed := true, recurses := true, plainKeys := false, apart := false }
def NetlistUsesSaid : Prop := netlistUsesRow.holds Try.pinned (OpenSpec.ofChange netlistUsesSpec)

/-- ITS FALSE NEIGHBOUR: 'it returns false'. Refute it at one input. -/
def netlistUsesWrong : ChangeSpec := { name := "netlistUses", fn := fun _ => fun
  | [d] => { results := [.lit (.bool false)], args := [d] }
  | _ => none }
def NetlistUsesWrongFalsely : Prop := netlistUsesRow.holds Try.pinned (OpenSpec.ofChange netlistUsesWrong)

/-- 'maskkeep3.GatingHolds': WHATEVER THE INPUT: true; the input reads as it did. -/
def gatingHoldsSpec : ChangeSpec := { name := "gatingHolds", fn := fun _ => fun
  | [d] => { results := [.lit (.bool true)], args := [d] }
  | _ => none }
def gatingHoldsRow : OpenClaim := { program := "ytkmnmokjlpenhaa", sum := "b7a270a7924bbc2c2e7e02c1caf18965362cf25a0244e6ccebe395601527a871", func := "maskwright/maskkeep3.GatingHolds", spec := "gatingHolds", unfollowed := true, recurses := true, plainKeys := false, apart := false }
def GatingHoldsSaid : Prop := gatingHoldsRow.holds Try.pinned (OpenSpec.ofChange gatingHoldsSpec)

/-- ITS FALSE NEIGHBOUR: 'it returns false'. Refute it at one input. -/
def gatingHoldsWrong : ChangeSpec := { name := "gatingHolds", fn := fun _ => fun
  | [d] => { results := [.lit (.bool false)], args := [d] }
  | _ => none }
def GatingHoldsWrongFalsely : Prop := gatingHoldsRow.holds Try.pinned (OpenSpec.ofChange gatingHoldsWrong)

/-- 'maskkeep3.NetlistHolds': WHATEVER THE INPUT: true; the input reads as it did. -/
def netlistHoldsSpec : ChangeSpec := { name := "netlistHolds", fn := fun _ => fun
  | [d] => { results := [.lit (.bool true)], args := [d] }
  | _ => none }
def netlistHoldsRow : OpenClaim := { program := "ytkmnmokjlpenhaa", sum := "b7a270a7924bbc2c2e7e02c1caf18965362cf25a0244e6ccebe395601527a871", func := "maskwright/maskkeep3.NetlistHolds", spec := "netlistHolds", unfollowed := true, recurses := true, plainKeys := false, apart := false }
def NetlistHoldsSaid : Prop := netlistHoldsRow.holds Try.pinned (OpenSpec.ofChange netlistHoldsSpec)

/-- ITS FALSE NEIGHBOUR: 'it returns false'. Refute it at one input. -/
def netlistHoldsWrong : ChangeSpec := { name := "netlistHolds", fn := fun _ => fun
  | [d] => { results := [.lit (.bool false)], args := [d] }
  | _ => none }
def NetlistHoldsWrongFalsely : Prop := netlistHoldsRow.holds Try.pinned (OpenSpec.ofChange netlistHoldsWrong)

/-- 'maskkeep3.CutParts': WHATEVER THE INPUT: true; the input reads as it did. -/
def cutPartsSpec : ChangeSpec := { name := "cutParts", fn := fun _ => fun
  | [d1, d2, d3, d4] => { results := [.lit (.bool true)], args := [d1, d2, d3, d4] }
  | _ => none }
def cutPartsRow : OpenClaim := { program := "ytkmnmokjlpenhaa", sum := "b7a270a7924bbc2c2e7e02c1caf18965362cf25a0244e6ccebe395601527a871", func := "maskwright/maskkeep3.CutParts", spec := "cutParts", inPlace := ["slices.overlaps[int]"], plainKeys := false, apart := false }
def CutPartsSaid : Prop := cutPartsRow.holds Try.pinned (OpenSpec.ofChange cutPartsSpec)

/-- ITS FALSE NEIGHBOUR: 'it returns false'. Refute it at one input. -/
def cutPartsWrong : ChangeSpec := { name := "cutParts", fn := fun _ => fun
  | [d1, d2, d3, d4] => { results := [.lit (.bool false)], args := [d1, d2, d3, d4] }
  | _ => none }
def CutPartsWrongFalsely : Prop := cutPartsRow.holds Try.pinned (OpenSpec.ofChange cutPartsWrong)

/-- 'maskkeep3.RewriteSame': WHATEVER THE INPUT: true; the input reads as it did. -/
def rewriteSameSpec : ChangeSpec := { name := "rewriteSame", fn := fun _ => fun
  | [d1, d2] => { results := [.lit (.bool true)], args := [d1, d2] }
  | _ => none }
def rewriteSameRow : OpenClaim := { program := "ytkmnmokjlpenhaa", sum := "b7a270a7924bbc2c2e7e02c1caf18965362cf25a0244e6ccebe395601527a871", func := "maskwright/maskkeep3.RewriteSame", spec := "rewriteSame", inPlace := ["slices.overlaps[int]"], plainKeys := false, apart := false }
def RewriteSameSaid : Prop := rewriteSameRow.holds Try.pinned (OpenSpec.ofChange rewriteSameSpec)

/-- ITS FALSE NEIGHBOUR: 'it returns false'. Refute it at one input. -/
def rewriteSameWrong : ChangeSpec := { name := "rewriteSame", fn := fun _ => fun
  | [d1, d2] => { results := [.lit (.bool false)], args := [d1, d2] }
  | _ => none }
def RewriteSameWrongFalsely : Prop := rewriteSameRow.holds Try.pinned (OpenSpec.ofChange rewriteSameWrong)

/-- 'maskkeep3.GraphLanes': WHATEVER THE INPUT: true; the input reads as it did. -/
def graphLanesSpec : ChangeSpec := { name := "graphLanes", fn := fun _ => fun
  | [d] => { results := [.lit (.bool true)], args := [d] }
  | _ => none }
def graphLanesRow : OpenClaim := { program := "ytkmnmokjlpenhaa", sum := "b7a270a7924bbc2c2e7e02c1caf18965362cf25a0244e6ccebe395601527a871", func := "maskwright/maskkeep3.GraphLanes", spec := "graphLanes", plainKeys := false, apart := false }
def GraphLanesSaid : Prop := graphLanesRow.holds Try.pinned (OpenSpec.ofChange graphLanesSpec)

/-- ITS FALSE NEIGHBOUR: 'it returns false'. Refute it at one input. -/
def graphLanesWrong : ChangeSpec := { name := "graphLanes", fn := fun _ => fun
  | [d] => { results := [.lit (.bool false)], args := [d] }
  | _ => none }
def GraphLanesWrongFalsely : Prop := graphLanesRow.holds Try.pinned (OpenSpec.ofChange graphLanesWrong)

/-- 'maskkeep3.GraphSteps': WHATEVER THE INPUT: true; the input reads as it did. -/
def graphStepsSpec : ChangeSpec := { name := "graphSteps", fn := fun _ => fun
  | [d1, d2] => { results := [.lit (.bool true)], args := [d1, d2] }
  | _ => none }
def graphStepsRow : OpenClaim := { program := "ytkmnmokjlpenhaa", sum := "b7a270a7924bbc2c2e7e02c1caf18965362cf25a0244e6ccebe395601527a871", func := "maskwright/maskkeep3.GraphSteps", spec := "graphSteps", plainKeys := false, apart := false }
def GraphStepsSaid : Prop := graphStepsRow.holds Try.pinned (OpenSpec.ofChange graphStepsSpec)

/-- ITS FALSE NEIGHBOUR: 'it returns false'. Refute it at one input. -/
def graphStepsWrong : ChangeSpec := { name := "graphSteps", fn := fun _ => fun
  | [d1, d2] => { results := [.lit (.bool false)], args := [d1, d2] }
  | _ => none }
def GraphStepsWrongFalsely : Prop := graphStepsRow.holds Try.pinned (OpenSpec.ofChange graphStepsWrong)

/-- 'maskkeep3.NetlistTidy': WHATEVER THE INPUT: true; the input reads as it did. -/
def netlistTidySpec : ChangeSpec := { name := "netlistTidy", fn := fun _ => fun
  | [d] => { results := [.lit (.bool true)], args := [d] }
  | _ => none }
def netlistTidyRow : OpenClaim := { program := "ytkmnmokjlpenhaa", sum := "b7a270a7924bbc2c2e7e02c1caf18965362cf25a0244e6ccebe395601527a871", func := "maskwright/maskkeep3.NetlistTidy", spec := "netlistTidy", unfollowed := true, recurses := true, plainKeys := false, apart := false }
def NetlistTidySaid : Prop := netlistTidyRow.holds Try.pinned (OpenSpec.ofChange netlistTidySpec)

/-- ITS FALSE NEIGHBOUR: 'it returns false'. Refute it at one input. -/
def netlistTidyWrong : ChangeSpec := { name := "netlistTidy", fn := fun _ => fun
  | [d] => { results := [.lit (.bool false)], args := [d] }
  | _ => none }
def NetlistTidyWrongFalsely : Prop := netlistTidyRow.holds Try.pinned (OpenSpec.ofChange netlistTidyWrong)

/-- 'maskkeep3.GraphTables': WHATEVER THE INPUT: true; the input reads as it did. -/
def graphTablesSpec : ChangeSpec := { name := "graphTables", fn := fun _ => fun
  | [d1, d2, d3] => { results := [.lit (.bool true)], args := [d1, d2, d3] }
  | _ => none }
def graphTablesRow : OpenClaim := { program := "ytkmnmokjlpenhaa", sum := "b7a270a7924bbc2c2e7e02c1caf18965362cf25a0244e6ccebe395601527a871", func := "maskwright/maskkeep3.GraphTables", spec := "graphTables", recurses := true, plainKeys := false, apart := false }
def GraphTablesSaid : Prop := graphTablesRow.holds Try.pinned (OpenSpec.ofChange graphTablesSpec)

/-- ITS FALSE NEIGHBOUR: 'it returns false'. Refute it at one input. -/
def graphTablesWrong : ChangeSpec := { name := "graphTables", fn := fun _ => fun
  | [d1, d2, d3] => { results := [.lit (.bool false)], args := [d1, d2, d3] }
  | _ => none }
def GraphTablesWrongFalsely : Prop := graphTablesRow.holds Try.pinned (OpenSpec.ofChange graphTablesWrong)

/-- 'maskkeep3.GraphTidies': WHATEVER THE INPUT: true; the input reads as it did. -/
def graphTidiesSpec : ChangeSpec := { name := "graphTidies", fn := fun _ => fun
  | [d] => { results := [.lit (.bool true)], args := [d] }
  | _ => none }
def graphTidiesRow : OpenClaim := { program := "ytkmnmokjlpenhaa", sum := "b7a270a7924bbc2c2e7e02c1caf18965362cf25a0244e6ccebe395601527a871", func := "maskwright/maskkeep3.GraphTidies", spec := "graphTidies", unfollowed := true, recurses := true, plainKeys := false, apart := false }
def GraphTidiesSaid : Prop := graphTidiesRow.holds Try.pinned (OpenSpec.ofChange graphTidiesSpec)

/-- ITS FALSE NEIGHBOUR: 'it returns false'. Refute it at one input. -/
def graphTidiesWrong : ChangeSpec := { name := "graphTidies", fn := fun _ => fun
  | [d] => { results := [.lit (.bool false)], args := [d] }
  | _ => none }
def GraphTidiesWrongFalsely : Prop := graphTidiesRow.holds Try.pinned (OpenSpec.ofChange graphTidiesWrong)

/-- 'maskkeep3.GraphBeside': WHATEVER THE INPUT: true; the input reads as it did. -/
def graphBesideSpec : ChangeSpec := { name := "graphBeside", fn := fun _ => fun
  | [d] => { results := [.lit (.bool true)], args := [d] }
  | _ => none }
def graphBesideRow : OpenClaim := { program := "ytkmnmokjlpenhaa", sum := "b7a270a7924bbc2c2e7e02c1caf18965362cf25a0244e6ccebe395601527a871", func := "maskwright/maskkeep3.GraphBeside", spec := "graphBeside", unfollowed := true, recurses := true, plainKeys := false, apart := false }
def GraphBesideSaid : Prop := graphBesideRow.holds Try.pinned (OpenSpec.ofChange graphBesideSpec)

/-- ITS FALSE NEIGHBOUR: 'it returns false'. Refute it at one input. -/
def graphBesideWrong : ChangeSpec := { name := "graphBeside", fn := fun _ => fun
  | [d] => { results := [.lit (.bool false)], args := [d] }
  | _ => none }
def GraphBesideWrongFalsely : Prop := graphBesideRow.holds Try.pinned (OpenSpec.ofChange graphBesideWrong)

/-- 'maskkeep3.NetlistBack': WHATEVER THE INPUT: true; the input reads as it did. -/
def netlistBackSpec : ChangeSpec := { name := "netlistBack", fn := fun _ => fun
  | [d] => { results := [.lit (.bool true)], args := [d] }
  | _ => none }
def netlistBackRow : OpenClaim := { program := "ytkmnmokjlpenhaa", sum := "b7a270a7924bbc2c2e7e02c1caf18965362cf25a0244e6ccebe395601527a871", func := "maskwright/maskkeep3.NetlistBack", spec := "netlistBack", unfollowed := true, recurses := true, plainKeys := false, apart := false }
def NetlistBackSaid : Prop := netlistBackRow.holds Try.pinned (OpenSpec.ofChange netlistBackSpec)

/-- ITS FALSE NEIGHBOUR: 'it returns false'. Refute it at one input. -/
def netlistBackWrong : ChangeSpec := { name := "netlistBack", fn := fun _ => fun
  | [d] => { results := [.lit (.bool false)], args := [d] }
  | _ => none }
def NetlistBackWrongFalsely : Prop := netlistBackRow.holds Try.pinned (OpenSpec.ofChange netlistBackWrong)

/- THE SECOND FORM. 'bulk': how many values and letters a reading holds, each counted each time it is reached (what is shared counts as often as it is met; a slice's spare places count too). A statement '..UptoSaid' is the law's where the arguments, and the package variables that the reading takes, are together of bulk at most 1048576: NARROWER than '..Said'. Prove '..Said' where nothing that the law and all that it calls make is longer than what came in: it says more and counts as full. Else prove '..UptoSaid'. A law counts once. -/
mutual
def uptoBulk {H : Type} : DataW H → Nat
  | .lit (.string bytes) => bytes.length + 1
  | .lit _ => 1
  | .nil => 1
  | .ptr d => uptoBulk d + 1
  | .slice elems spare => uptoBulkAll elems + uptoBulkAll spare + 1
  | .agg parts => uptoBulkAll parts + 1
  | .iface _ d => uptoBulk d + 1
  | .map entries => uptoBulkEntries entries + 1
  | .held _ => 1
def uptoBulkAll {H : Type} : List (DataW H) → Nat
  | [] => 0
  | d :: r => uptoBulk d + uptoBulkAll r
def uptoBulkEntries {H : Type} : List (Lit × DataW H) → Nat
  | [] => 0
  | x :: r => uptoBulkEntry x + uptoBulkEntries r
def uptoBulkEntry {H : Type} : Lit × DataW H → Nat
  | (.string bytes, d) => bytes.length + uptoBulk d + 1
  | (_, d) => uptoBulk d + 1
 end
def uptoSmall : (H : Type) → List (DataW H) → Bool := fun _ ds => decide (uptoBulkAll ds ≤ 1048576)
def OpenSpec.upto (s : _root_.Go.ChangeSpec) : _root_.Go.OpenSpec := { _root_.Go.OpenSpec.ofChange s with cond := some uptoSmall }

/-- 'maskkeep3.NetlistUses', WHERE WHAT IT READS IS OF BULK AT MOST 1048576: true; the input reads as it did. -/
def netlistUsesUptoRow : OpenClaim := { program := "ytkmnmokjlpenhaa", sum := "b7a270a7924bbc2c2e7e02c1caf18965362cf25a0244e6ccebe395601527a871", func := "maskwright/maskkeep3.NetlistUses", spec := "netlistUses", unfollowed := true, recurses := true, plainKeys := false, apart := false, narrowed := true }
def NetlistUsesUptoSaid : Prop := netlistUsesUptoRow.holds Try.pinned (OpenSpec.upto netlistUsesSpec)

/-- 'maskkeep3.GatingHolds', WHERE WHAT IT READS IS OF BULK AT MOST 1048576: true; the input reads as it did. -/
def gatingHoldsUptoRow : OpenClaim := { program := "ytkmnmokjlpenhaa", sum := "b7a270a7924bbc2c2e7e02c1caf18965362cf25a0244e6ccebe395601527a871", func := "maskwright/maskkeep3.GatingHolds", spec := "gatingHolds", unfollowed := true, recurses := true, plainKeys := false, apart := false, narrowed := true }
def GatingHoldsUptoSaid : Prop := gatingHoldsUptoRow.holds Try.pinned (OpenSpec.upto gatingHoldsSpec)

/-- 'maskkeep3.NetlistHolds', WHERE WHAT IT READS IS OF BULK AT MOST 1048576: true; the input reads as it did. -/
def netlistHoldsUptoRow : OpenClaim := { program := "ytkmnmokjlpenhaa", sum := "b7a270a7924bbc2c2e7e02c1caf18965362cf25a0244e6ccebe395601527a871", func := "maskwright/maskkeep3.NetlistHolds", spec := "netlistHolds", unfollowed := true, recurses := true, plainKeys := false, apart := false, narrowed := true }
def NetlistHoldsUptoSaid : Prop := netlistHoldsUptoRow.holds Try.pinned (OpenSpec.upto netlistHoldsSpec)

/-- 'maskkeep3.CutParts', WHERE WHAT IT READS IS OF BULK AT MOST 1048576: true; the input reads as it did. -/
def cutPartsUptoRow : OpenClaim := { program := "ytkmnmokjlpenhaa", sum := "b7a270a7924bbc2c2e7e02c1caf18965362cf25a0244e6ccebe395601527a871", func := "maskwright/maskkeep3.CutParts", spec := "cutParts", inPlace := ["slices.overlaps[int]"], plainKeys := false, apart := false, narrowed := true }
def CutPartsUptoSaid : Prop := cutPartsUptoRow.holds Try.pinned (OpenSpec.upto cutPartsSpec)

/-- 'maskkeep3.RewriteSame', WHERE WHAT IT READS IS OF BULK AT MOST 1048576: true; the input reads as it did. -/
def rewriteSameUptoRow : OpenClaim := { program := "ytkmnmokjlpenhaa", sum := "b7a270a7924bbc2c2e7e02c1caf18965362cf25a0244e6ccebe395601527a871", func := "maskwright/maskkeep3.RewriteSame", spec := "rewriteSame", inPlace := ["slices.overlaps[int]"], plainKeys := false, apart := false, narrowed := true }
def RewriteSameUptoSaid : Prop := rewriteSameUptoRow.holds Try.pinned (OpenSpec.upto rewriteSameSpec)

/-- 'maskkeep3.GraphLanes', WHERE WHAT IT READS IS OF BULK AT MOST 1048576: true; the input reads as it did. -/
def graphLanesUptoRow : OpenClaim := { program := "ytkmnmokjlpenhaa", sum := "b7a270a7924bbc2c2e7e02c1caf18965362cf25a0244e6ccebe395601527a871", func := "maskwright/maskkeep3.GraphLanes", spec := "graphLanes", plainKeys := false, apart := false, narrowed := true }
def GraphLanesUptoSaid : Prop := graphLanesUptoRow.holds Try.pinned (OpenSpec.upto graphLanesSpec)

/-- 'maskkeep3.GraphSteps', WHERE WHAT IT READS IS OF BULK AT MOST 1048576: true; the input reads as it did. -/
def graphStepsUptoRow : OpenClaim := { program := "ytkmnmokjlpenhaa", sum := "b7a270a7924bbc2c2e7e02c1caf18965362cf25a0244e6ccebe395601527a871", func := "maskwright/maskkeep3.GraphSteps", spec := "graphSteps", plainKeys := false, apart := false, narrowed := true }
def GraphStepsUptoSaid : Prop := graphStepsUptoRow.holds Try.pinned (OpenSpec.upto graphStepsSpec)

/-- 'maskkeep3.NetlistTidy', WHERE WHAT IT READS IS OF BULK AT MOST 1048576: true; the input reads as it did. -/
def netlistTidyUptoRow : OpenClaim := { program := "ytkmnmokjlpenhaa", sum := "b7a270a7924bbc2c2e7e02c1caf18965362cf25a0244e6ccebe395601527a871", func := "maskwright/maskkeep3.NetlistTidy", spec := "netlistTidy", unfollowed := true, recurses := true, plainKeys := false, apart := false, narrowed := true }
def NetlistTidyUptoSaid : Prop := netlistTidyUptoRow.holds Try.pinned (OpenSpec.upto netlistTidySpec)

/-- 'maskkeep3.GraphTables', WHERE WHAT IT READS IS OF BULK AT MOST 1048576: true; the input reads as it did. -/
def graphTablesUptoRow : OpenClaim := { program := "ytkmnmokjlpenhaa", sum := "b7a270a7924bbc2c2e7e02c1caf18965362cf25a0244e6ccebe395601527a871", func := "maskwright/maskkeep3.GraphTables", spec := "graphTables", recurses := true, plainKeys := false, apart := false, narrowed := true }
def GraphTablesUptoSaid : Prop := graphTablesUptoRow.holds Try.pinned (OpenSpec.upto graphTablesSpec)

/-- 'maskkeep3.GraphTidies', WHERE WHAT IT READS IS OF BULK AT MOST 1048576: true; the input reads as it did. -/
def graphTidiesUptoRow : OpenClaim := { program := "ytkmnmokjlpenhaa", sum := "b7a270a7924bbc2c2e7e02c1caf18965362cf25a0244e6ccebe395601527a871", func := "maskwright/maskkeep3.GraphTidies", spec := "graphTidies", unfollowed := true, recurses := true, plainKeys := false, apart := false, narrowed := true }
def GraphTidiesUptoSaid : Prop := graphTidiesUptoRow.holds Try.pinned (OpenSpec.upto graphTidiesSpec)

/-- 'maskkeep3.GraphBeside', WHERE WHAT IT READS IS OF BULK AT MOST 1048576: true; the input reads as it did. -/
def graphBesideUptoRow : OpenClaim := { program := "ytkmnmokjlpenhaa", sum := "b7a270a7924bbc2c2e7e02c1caf18965362cf25a0244e6ccebe395601527a871", func := "maskwright/maskkeep3.GraphBeside", spec := "graphBeside", unfollowed := true, recurses := true, plainKeys := false, apart := false, narrowed := true }
def GraphBesideUptoSaid : Prop := graphBesideUptoRow.holds Try.pinned (OpenSpec.upto graphBesideSpec)

/-- 'maskkeep3.NetlistBack', WHERE WHAT IT READS IS OF BULK AT MOST 1048576: true; the input reads as it did. -/
def netlistBackUptoRow : OpenClaim := { program := "ytkmnmokjlpenhaa", sum := "b7a270a7924bbc2c2e7e02c1caf18965362cf25a0244e6ccebe395601527a871", func := "maskwright/maskkeep3.NetlistBack", spec := "netlistBack", unfollowed := true, recurses := true, plainKeys := false, apart := false, narrowed := true }
def NetlistBackUptoSaid : Prop := netlistBackUptoRow.holds Try.pinned (OpenSpec.upto netlistBackSpec)

end Rows
end Go.Proofs.Ytkmnmokjlpenhaa
