/-
  DERIVED. GIVEN WITH THE SEED: THE CARDS: each row of YtdgpmopcmacicaaDoorRows.lean that lists a variable, with what it lists TIED to the program's text (the seventh form; the later family's looks); each row that meets fmt, with fmt's text TOLD by the authors' own Lean function (tested against real Go, not proved from fmt's source: count such statements apart). THE CARD IS WHAT COUNTS. Prove the row's statement (the work); the ties are given (YtdgpmopcmacicaaDoorTie.lean); close each card by the builder's one call (the guide's Derived/Test/ToyasCard.lean, 'card_holds'). Laid BY PROGRAM, IN A SANDBOX (cutbox-door.mjs). By AI agents, Wed Nov 11 2026. No macro, syntax, notation, axiom, sorry.
-/
import Derived.Test.YtdgpmopcmacicaaDoorRows
import GoSem.ClaimSeven
namespace Go.Proofs.YtdgpmopcmacicaaDoor
namespace Rows

/-- THE TIED CARD OF 'maskkeep3.RetimeSteps'. -/
def retimeStepsCard : Claim7 := { stood := { row := retimeStepsRow, standIns := [], harness := (true, "8a0b6099de580ae1f497c3b1ee2f4bdb2f2a26093e16c46cd04ba577c7560385"), looks := false }, kinds := [], alts := [], laidByText := true, laidKinds := [.data, .data, .data], laidTests := true, laidLooks := .later }
def RetimeStepsCardSaid : Prop := Claim7.holds Tryd.pinned (.plain (OpenSpec.ofChange retimeStepsSpec)) retimeStepsCard

/-- THE TIED CARD OF 'maskkeep3.RetimeLow'. -/
def retimeLowCard : Claim7 := { stood := { row := retimeLowRow, standIns := [], harness := (true, "8a0b6099de580ae1f497c3b1ee2f4bdb2f2a26093e16c46cd04ba577c7560385"), looks := false }, kinds := [], alts := [], laidByText := true, laidKinds := [.data, .data, .data], laidTests := true, laidLooks := .later }
def RetimeLowCardSaid : Prop := Claim7.holds Tryd.pinned (.plain (OpenSpec.ofChange retimeLowSpec)) retimeLowCard

/-- THE SECOND FORM's CARD OF 'maskkeep3.RetimeSteps'. -/
def retimeStepsUptoCard : Claim7 := { stood := { row := retimeStepsUptoRow, standIns := [], harness := (true, "8a0b6099de580ae1f497c3b1ee2f4bdb2f2a26093e16c46cd04ba577c7560385"), looks := false }, kinds := [], alts := [], laidByText := true, laidKinds := [.data, .data, .data], laidTests := true, laidLooks := .later }
def RetimeStepsUptoCardSaid : Prop := Claim7.holds Tryd.pinned (.plain (OpenSpec.upto retimeStepsSpec)) retimeStepsUptoCard

/-- THE SECOND FORM's CARD OF 'maskkeep3.RetimeLow'. -/
def retimeLowUptoCard : Claim7 := { stood := { row := retimeLowUptoRow, standIns := [], harness := (true, "8a0b6099de580ae1f497c3b1ee2f4bdb2f2a26093e16c46cd04ba577c7560385"), looks := false }, kinds := [], alts := [], laidByText := true, laidKinds := [.data, .data, .data], laidTests := true, laidLooks := .later }
def RetimeLowUptoCardSaid : Prop := Claim7.holds Tryd.pinned (.plain (OpenSpec.upto retimeLowSpec)) retimeLowUptoCard
end Rows
end Go.Proofs.YtdgpmopcmacicaaDoor
