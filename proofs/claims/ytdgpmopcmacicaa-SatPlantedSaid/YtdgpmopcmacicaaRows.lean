/-
  No cell of these rows narrows 'for every input' (looked for: loops, veiled, ifaces, maps, wideKeys, modest, calm, conditions, laid).
  DERIVED. THE GIVEN ROWS OF THIS SEAT. 8 by the template 'for every input the law returns true; each argument reads behind the call as it read before'; 0 by the template 'total and deterministic' (their statements: YtdgpmopcmacicaaTotals.lean).
  GIVEN WITH THE SEED: the statements are not yours to turn. If you find one false, say at which input.
  Laid BY PROGRAM, IN A SANDBOX (cutbox-rows.mjs): the forced cells as the released guide's own fill.sh prints them over the translation 71f62f770f01c7c0… (all of the seat's roots in one cut). By AI agents, Wed Nov 11 2026. No macro, syntax, notation, axiom, sorry.
-/
import Derived.Test.YtdgpmopcmacicaaChecked
import GoSem.Claim
import GoSem.ClaimJoined
import GoSem.ClaimMapViews
import Derived.JoinedTies
import Derived.KernelRfl
namespace Go.Proofs.Ytdgpmopcmacicaa
/- THE CELL 'sum', in the pinned program and in every row, IS THE sha256 OF THE DUMP (.gsa) THAT YtdgpmopcmacicaaProg.lean LOADS. Nothing in Lean hashes anything: it is a label: what it is worth is what the hold of that sum in a sandbox is worth. -/
noncomputable def Try.pinned : Pinned := { name := "ytdgpmopcmacicaa", sum := "71f62f770f01c7c0911fdfae9851e999e1ee67e44479cc065aad8279d390b488", checked := Try.checked }
namespace Rows
def none {H : Type} : Left H := { results := [], args := [] }

/-- 'maskkeep3.RewriteTall': WHATEVER THE INPUT: true; the input reads as it did. -/
def rewriteTallSpec : ChangeSpec := { name := "rewriteTall", fn := fun _ => fun
  | [d1, d2] => { results := [.lit (.bool true)], args := [d1, d2] }
  | _ => none }
def rewriteTallRow : OpenClaim := { program := "ytdgpmopcmacicaa", sum := "71f62f770f01c7c0911fdfae9851e999e1ee67e44479cc065aad8279d390b488", func := "maskwright/maskkeep3.RewriteTall", spec := "rewriteTall", unfollowed := true, recurses := true, plainKeys := false, apart := false }
def RewriteTallSaid : Prop := rewriteTallRow.holds Try.pinned (OpenSpec.ofChange rewriteTallSpec)

/-- ITS FALSE NEIGHBOUR: 'it returns false'. Refute it at one input. -/
def rewriteTallWrong : ChangeSpec := { name := "rewriteTall", fn := fun _ => fun
  | [d1, d2] => { results := [.lit (.bool false)], args := [d1, d2] }
  | _ => none }
def RewriteTallWrongFalsely : Prop := rewriteTallRow.holds Try.pinned (OpenSpec.ofChange rewriteTallWrong)

/-- 'maskkeep3.GatingFinds': WHATEVER THE INPUT: true; the input reads as it did. -/
def gatingFindsSpec : ChangeSpec := { name := "gatingFinds", fn := fun _ => fun
  | [d] => { results := [.lit (.bool true)], args := [d] }
  | _ => none }
def gatingFindsRow : OpenClaim := { program := "ytdgpmopcmacicaa", sum := "71f62f770f01c7c0911fdfae9851e999e1ee67e44479cc065aad8279d390b488", func := "maskwright/maskkeep3.GatingFinds", spec := "gatingFinds", unfollowed := true, recurses := true, plainKeys := false, apart := false }
def GatingFindsSaid : Prop := gatingFindsRow.holds Try.pinned (OpenSpec.ofChange gatingFindsSpec)

/-- ITS FALSE NEIGHBOUR: 'it returns false'. Refute it at one input. -/
def gatingFindsWrong : ChangeSpec := { name := "gatingFinds", fn := fun _ => fun
  | [d] => { results := [.lit (.bool false)], args := [d] }
  | _ => none }
def GatingFindsWrongFalsely : Prop := gatingFindsRow.holds Try.pinned (OpenSpec.ofChange gatingFindsWrong)

/-- 'maskkeep3.CareWider': WHATEVER THE INPUT: true; the input reads as it did. -/
def careWiderSpec : ChangeSpec := { name := "careWider", fn := fun _ => fun
  | [d1, d2] => { results := [.lit (.bool true)], args := [d1, d2] }
  | _ => none }
def careWiderRow : OpenClaim := { program := "ytdgpmopcmacicaa", sum := "71f62f770f01c7c0911fdfae9851e999e1ee67e44479cc065aad8279d390b488", func := "maskwright/maskkeep3.CareWider", spec := "careWider", unfollowed := true, recurses := true, plainKeys := false, apart := false }
def CareWiderSaid : Prop := careWiderRow.holds Try.pinned (OpenSpec.ofChange careWiderSpec)

/-- ITS FALSE NEIGHBOUR: 'it returns false'. Refute it at one input. -/
def careWiderWrong : ChangeSpec := { name := "careWider", fn := fun _ => fun
  | [d1, d2] => { results := [.lit (.bool false)], args := [d1, d2] }
  | _ => none }
def CareWiderWrongFalsely : Prop := careWiderRow.holds Try.pinned (OpenSpec.ofChange careWiderWrong)

/-- 'maskkeep3.SatPlanted': WHATEVER THE INPUT: true; the input reads as it did. -/
def satPlantedSpec : ChangeSpec := { name := "satPlanted", fn := fun _ => fun
  | [d1, d2] => { results := [.lit (.bool true)], args := [d1, d2] }
  | _ => none }
def satPlantedRow : OpenClaim := { program := "ytdgpmopcmacicaa", sum := "71f62f770f01c7c0911fdfae9851e999e1ee67e44479cc065aad8279d390b488", func := "maskwright/maskkeep3.SatPlanted", spec := "satPlanted", unfollowed := true, recurses := true, plainKeys := false, apart := false }
def SatPlantedSaid : Prop := satPlantedRow.holds Try.pinned (OpenSpec.ofChange satPlantedSpec)

/-- ITS FALSE NEIGHBOUR: 'it returns false'. Refute it at one input. -/
def satPlantedWrong : ChangeSpec := { name := "satPlanted", fn := fun _ => fun
  | [d1, d2] => { results := [.lit (.bool false)], args := [d1, d2] }
  | _ => none }
def SatPlantedWrongFalsely : Prop := satPlantedRow.holds Try.pinned (OpenSpec.ofChange satPlantedWrong)

/-- 'maskkeep3.ProofSound': WHATEVER THE INPUT: true; the input reads as it did. -/
def proofSoundSpec : ChangeSpec := { name := "proofSound", fn := fun _ => fun
  | [d1, d2] => { results := [.lit (.bool true)], args := [d1, d2] }
  | _ => none }
def proofSoundRow : OpenClaim := { program := "ytdgpmopcmacicaa", sum := "71f62f770f01c7c0911fdfae9851e999e1ee67e44479cc065aad8279d390b488", func := "maskwright/maskkeep3.ProofSound", spec := "proofSound", unfollowed := true, recurses := true, plainKeys := false, apart := false }
def ProofSoundSaid : Prop := proofSoundRow.holds Try.pinned (OpenSpec.ofChange proofSoundSpec)

/-- ITS FALSE NEIGHBOUR: 'it returns false'. Refute it at one input. -/
def proofSoundWrong : ChangeSpec := { name := "proofSound", fn := fun _ => fun
  | [d1, d2] => { results := [.lit (.bool false)], args := [d1, d2] }
  | _ => none }
def ProofSoundWrongFalsely : Prop := proofSoundRow.holds Try.pinned (OpenSpec.ofChange proofSoundWrong)

/-- 'maskkeep3.SatGraphs': WHATEVER THE INPUT: true; the input reads as it did. -/
def satGraphsSpec : ChangeSpec := { name := "satGraphs", fn := fun _ => fun
  | [d] => { results := [.lit (.bool true)], args := [d] }
  | _ => none }
def satGraphsRow : OpenClaim := { program := "ytdgpmopcmacicaa", sum := "71f62f770f01c7c0911fdfae9851e999e1ee67e44479cc065aad8279d390b488", func := "maskwright/maskkeep3.SatGraphs", spec := "satGraphs", unfollowed := true, recurses := true, plainKeys := false, apart := false }
def SatGraphsSaid : Prop := satGraphsRow.holds Try.pinned (OpenSpec.ofChange satGraphsSpec)

/-- ITS FALSE NEIGHBOUR: 'it returns false'. Refute it at one input. -/
def satGraphsWrong : ChangeSpec := { name := "satGraphs", fn := fun _ => fun
  | [d] => { results := [.lit (.bool false)], args := [d] }
  | _ => none }
def SatGraphsWrongFalsely : Prop := satGraphsRow.holds Try.pinned (OpenSpec.ofChange satGraphsWrong)

/-- 'maskkeep3.InductRing': WHATEVER THE INPUT: true; the input reads as it did. -/
def inductRingSpec : ChangeSpec := { name := "inductRing", fn := fun _ => fun
  | [d1, d2] => { results := [.lit (.bool true)], args := [d1, d2] }
  | _ => none }
def inductRingRow : OpenClaim := { program := "ytdgpmopcmacicaa", sum := "71f62f770f01c7c0911fdfae9851e999e1ee67e44479cc065aad8279d390b488", func := "maskwright/maskkeep3.InductRing", spec := "inductRing", recurses := true, plainKeys := false, apart := false }
def InductRingSaid : Prop := inductRingRow.holds Try.pinned (OpenSpec.ofChange inductRingSpec)

/-- ITS FALSE NEIGHBOUR: 'it returns false'. Refute it at one input. -/
def inductRingWrong : ChangeSpec := { name := "inductRing", fn := fun _ => fun
  | [d1, d2] => { results := [.lit (.bool false)], args := [d1, d2] }
  | _ => none }
def InductRingWrongFalsely : Prop := inductRingRow.holds Try.pinned (OpenSpec.ofChange inductRingWrong)

/-- 'maskkeep3.SatRuns': WHATEVER THE INPUT: true; the input reads as it did. -/
def satRunsSpec : ChangeSpec := { name := "satRuns", fn := fun _ => fun
  | [d1, d2] => { results := [.lit (.bool true)], args := [d1, d2] }
  | _ => none }
def satRunsRow : OpenClaim := { program := "ytdgpmopcmacicaa", sum := "71f62f770f01c7c0911fdfae9851e999e1ee67e44479cc065aad8279d390b488", func := "maskwright/maskkeep3.SatRuns", spec := "satRuns", unfollowed := true, recurses := true, plainKeys := false, apart := false }
def SatRunsSaid : Prop := satRunsRow.holds Try.pinned (OpenSpec.ofChange satRunsSpec)

/-- ITS FALSE NEIGHBOUR: 'it returns false'. Refute it at one input. -/
def satRunsWrong : ChangeSpec := { name := "satRuns", fn := fun _ => fun
  | [d1, d2] => { results := [.lit (.bool false)], args := [d1, d2] }
  | _ => none }
def SatRunsWrongFalsely : Prop := satRunsRow.holds Try.pinned (OpenSpec.ofChange satRunsWrong)

/- THE SECOND FORM. 'bulk': how many values and letters a reading holds, each counted each time it is reached (what is shared counts as often as it is met; a slice's spare places count too). A statement '..UptoSaid' is the law's where the arguments, and the package variables that the reading takes, are together of bulk at most 1048576: NARROWER than '..Said'. Prove '..Said' where nothing that the law and all that it calls make is longer than what came in: it says more and counts as full. Else prove '..UptoSaid'. A law counts once. -/
mutual
def uptoBulk {H : Type} : DataW H → Nat
  | .lit (.string bytes) => bytes.length + 1
  | .lit _ => 1
  | .nil => 1
  | .ptr d => uptoBulk d + 1
  | .slice elems spare => uptoBulkAll elems + uptoBulkAll spare + 1
  | .agg parts => uptoBulkAll parts + 1
  | .iface _ d => uptoBulk d + 1
  | .map entries => uptoBulkEntries entries + 1
  | .held _ => 1
def uptoBulkAll {H : Type} : List (DataW H) → Nat
  | [] => 0
  | d :: r => uptoBulk d + uptoBulkAll r
def uptoBulkEntries {H : Type} : List (Lit × DataW H) → Nat
  | [] => 0
  | x :: r => uptoBulkEntry x + uptoBulkEntries r
def uptoBulkEntry {H : Type} : Lit × DataW H → Nat
  | (.string bytes, d) => bytes.length + uptoBulk d + 1
  | (_, d) => uptoBulk d + 1
 end
def uptoSmall : (H : Type) → List (DataW H) → Bool := fun _ ds => decide (uptoBulkAll ds ≤ 1048576)
def OpenSpec.upto (s : _root_.Go.ChangeSpec) : _root_.Go.OpenSpec := { _root_.Go.OpenSpec.ofChange s with cond := some uptoSmall }

/-- 'maskkeep3.RewriteTall', WHERE WHAT IT READS IS OF BULK AT MOST 1048576: true; the input reads as it did. -/
def rewriteTallUptoRow : OpenClaim := { program := "ytdgpmopcmacicaa", sum := "71f62f770f01c7c0911fdfae9851e999e1ee67e44479cc065aad8279d390b488", func := "maskwright/maskkeep3.RewriteTall", spec := "rewriteTall", unfollowed := true, recurses := true, plainKeys := false, apart := false, narrowed := true }
def RewriteTallUptoSaid : Prop := rewriteTallUptoRow.holds Try.pinned (OpenSpec.upto rewriteTallSpec)

/-- 'maskkeep3.GatingFinds', WHERE WHAT IT READS IS OF BULK AT MOST 1048576: true; the input reads as it did. -/
def gatingFindsUptoRow : OpenClaim := { program := "ytdgpmopcmacicaa", sum := "71f62f770f01c7c0911fdfae9851e999e1ee67e44479cc065aad8279d390b488", func := "maskwright/maskkeep3.GatingFinds", spec := "gatingFinds", unfollowed := true, recurses := true, plainKeys := false, apart := false, narrowed := true }
def GatingFindsUptoSaid : Prop := gatingFindsUptoRow.holds Try.pinned (OpenSpec.upto gatingFindsSpec)

/-- 'maskkeep3.CareWider', WHERE WHAT IT READS IS OF BULK AT MOST 1048576: true; the input reads as it did. -/
def careWiderUptoRow : OpenClaim := { program := "ytdgpmopcmacicaa", sum := "71f62f770f01c7c0911fdfae9851e999e1ee67e44479cc065aad8279d390b488", func := "maskwright/maskkeep3.CareWider", spec := "careWider", unfollowed := true, recurses := true, plainKeys := false, apart := false, narrowed := true }
def CareWiderUptoSaid : Prop := careWiderUptoRow.holds Try.pinned (OpenSpec.upto careWiderSpec)

/-- 'maskkeep3.SatPlanted', WHERE WHAT IT READS IS OF BULK AT MOST 1048576: true; the input reads as it did. -/
def satPlantedUptoRow : OpenClaim := { program := "ytdgpmopcmacicaa", sum := "71f62f770f01c7c0911fdfae9851e999e1ee67e44479cc065aad8279d390b488", func := "maskwright/maskkeep3.SatPlanted", spec := "satPlanted", unfollowed := true, recurses := true, plainKeys := false, apart := false, narrowed := true }
def SatPlantedUptoSaid : Prop := satPlantedUptoRow.holds Try.pinned (OpenSpec.upto satPlantedSpec)

/-- 'maskkeep3.ProofSound', WHERE WHAT IT READS IS OF BULK AT MOST 1048576: true; the input reads as it did. -/
def proofSoundUptoRow : OpenClaim := { program := "ytdgpmopcmacicaa", sum := "71f62f770f01c7c0911fdfae9851e999e1ee67e44479cc065aad8279d390b488", func := "maskwright/maskkeep3.ProofSound", spec := "proofSound", unfollowed := true, recurses := true, plainKeys := false, apart := false, narrowed := true }
def ProofSoundUptoSaid : Prop := proofSoundUptoRow.holds Try.pinned (OpenSpec.upto proofSoundSpec)

/-- 'maskkeep3.SatGraphs', WHERE WHAT IT READS IS OF BULK AT MOST 1048576: true; the input reads as it did. -/
def satGraphsUptoRow : OpenClaim := { program := "ytdgpmopcmacicaa", sum := "71f62f770f01c7c0911fdfae9851e999e1ee67e44479cc065aad8279d390b488", func := "maskwright/maskkeep3.SatGraphs", spec := "satGraphs", unfollowed := true, recurses := true, plainKeys := false, apart := false, narrowed := true }
def SatGraphsUptoSaid : Prop := satGraphsUptoRow.holds Try.pinned (OpenSpec.upto satGraphsSpec)

/-- 'maskkeep3.InductRing', WHERE WHAT IT READS IS OF BULK AT MOST 1048576: true; the input reads as it did. -/
def inductRingUptoRow : OpenClaim := { program := "ytdgpmopcmacicaa", sum := "71f62f770f01c7c0911fdfae9851e999e1ee67e44479cc065aad8279d390b488", func := "maskwright/maskkeep3.InductRing", spec := "inductRing", recurses := true, plainKeys := false, apart := false, narrowed := true }
def InductRingUptoSaid : Prop := inductRingUptoRow.holds Try.pinned (OpenSpec.upto inductRingSpec)

/-- 'maskkeep3.SatRuns', WHERE WHAT IT READS IS OF BULK AT MOST 1048576: true; the input reads as it did. -/
def satRunsUptoRow : OpenClaim := { program := "ytdgpmopcmacicaa", sum := "71f62f770f01c7c0911fdfae9851e999e1ee67e44479cc065aad8279d390b488", func := "maskwright/maskkeep3.SatRuns", spec := "satRuns", unfollowed := true, recurses := true, plainKeys := false, apart := false, narrowed := true }
def SatRunsUptoSaid : Prop := satRunsUptoRow.holds Try.pinned (OpenSpec.upto satRunsSpec)

end Rows
end Go.Proofs.Ytdgpmopcmacicaa
