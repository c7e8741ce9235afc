/-
  DERIVED. GIVEN WITH THE SEED: THE CARDS: each row of YtmmhaiidcfgbbaaGreatDoorRows.lean that lists a variable, with what it lists TIED to the program's text (the seventh form; the later family's looks); each row that meets fmt, with fmt's text TOLD by the authors' own Lean function (tested against real Go, not proved from fmt's source: count such statements apart). THE CARD IS WHAT COUNTS. Prove the row's statement (the work); the ties are given (YtmmhaiidcfgbbaaGreatDoorTie.lean); close each card by the builder's one call (the guide's Derived/Test/ToyasCard.lean, 'card_holds'). Laid BY PROGRAM, IN A SANDBOX (cutbox-door.mjs). By AI agents, Wed Nov 11 2026. No macro, syntax, notation, axiom, sorry.
-/
import Derived.Test.YtmmhaiidcfgbbaaGreatDoorRows
import GoSem.ClaimSeven
namespace Go.Proofs.YtmmhaiidcfgbbaaGreatDoor
namespace Rows

/-- THE TIED CARD OF 'laws.FnExactCompileCore'. -/
def fnExactCompileCoreCard : Claim7 := { stood := { row := fnExactCompileCoreRow, standIns := [], harness := (true, "3210a1918122a960109a16abeb8e6064f08df127370de692c2140b2b4bf82a69"), looks := true }, kinds := [], alts := [], laidByText := true, laidKinds := [.data, .pinned], laidTests := true, laidLooks := .later }
def FnExactCompileCoreCardSaid : Prop := Claim7.holds Tryz.pinned (.plain (OpenSpec.ofChange fnExactCompileCoreSpec)) fnExactCompileCoreCard

/-- THE SECOND FORM's CARD OF 'laws.FnExactCompileCore'. -/
def fnExactCompileCoreUptoCard : Claim7 := { stood := { row := fnExactCompileCoreUptoRow, standIns := [], harness := (true, "3210a1918122a960109a16abeb8e6064f08df127370de692c2140b2b4bf82a69"), looks := true }, kinds := [], alts := [], laidByText := true, laidKinds := [.data, .pinned], laidTests := true, laidLooks := .later }
def FnExactCompileCoreUptoCardSaid : Prop := Claim7.holds Tryz.pinned (.plain (OpenSpec.upto fnExactCompileCoreSpec)) fnExactCompileCoreUptoCard
end Rows
end Go.Proofs.YtmmhaiidcfgbbaaGreatDoor
