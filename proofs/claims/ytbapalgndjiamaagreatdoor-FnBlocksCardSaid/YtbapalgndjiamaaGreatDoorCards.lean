/-
  DERIVED. GIVEN WITH THE SEED: THE CARDS: each row of YtbapalgndjiamaaGreatDoorRows.lean that lists a variable, with what it lists TIED to the program's text (the seventh form; the later family's looks); each row that meets fmt, with fmt's text TOLD by the authors' own Lean function (tested against real Go, not proved from fmt's source: count such statements apart). THE CARD IS WHAT COUNTS. Prove the row's statement (the work); the ties are given (YtbapalgndjiamaaGreatDoorTie.lean); close each card by the builder's one call (the guide's Derived/Test/ToyasCard.lean, 'card_holds'). Laid BY PROGRAM, IN A SANDBOX (cutbox-door.mjs). By AI agents, Wed Nov 11 2026. No macro, syntax, notation, axiom, sorry.
-/
import Derived.Test.YtbapalgndjiamaaGreatDoorRows
import GoSem.ClaimSeven
namespace Go.Proofs.YtbapalgndjiamaaGreatDoor
namespace Rows

/-- THE TIED CARD OF 'laws.FnHeights'. -/
def fnHeightsCard : Claim7 := { stood := { row := fnHeightsRow, standIns := [], harness := (true, "1aa472378e035233fa9f4b95143e03d8220551646b4ad6cfcdee84f94daa2ccf"), looks := false }, kinds := [], alts := [], laidByText := true, laidKinds := [.data, .pinned], laidTests := true, laidLooks := .later }
def FnHeightsCardSaid : Prop := Claim7.holds Tryz.pinned (.plain (OpenSpec.ofChange fnHeightsSpec)) fnHeightsCard

/-- THE TIED CARD OF 'laws.FnBlocks'. -/
def fnBlocksCard : Claim7 := { stood := { row := fnBlocksRow, standIns := [], harness := (true, "1aa472378e035233fa9f4b95143e03d8220551646b4ad6cfcdee84f94daa2ccf"), looks := false }, kinds := [], alts := [], laidByText := true, laidKinds := [.data, .pinned], laidTests := true, laidLooks := .later }
def FnBlocksCardSaid : Prop := Claim7.holds Tryz.pinned (.plain (OpenSpec.ofChange fnBlocksSpec)) fnBlocksCard

/-- THE SECOND FORM's CARD OF 'laws.FnHeights'. -/
def fnHeightsUptoCard : Claim7 := { stood := { row := fnHeightsUptoRow, standIns := [], harness := (true, "1aa472378e035233fa9f4b95143e03d8220551646b4ad6cfcdee84f94daa2ccf"), looks := false }, kinds := [], alts := [], laidByText := true, laidKinds := [.data, .pinned], laidTests := true, laidLooks := .later }
def FnHeightsUptoCardSaid : Prop := Claim7.holds Tryz.pinned (.plain (OpenSpec.upto fnHeightsSpec)) fnHeightsUptoCard

/-- THE SECOND FORM's CARD OF 'laws.FnBlocks'. -/
def fnBlocksUptoCard : Claim7 := { stood := { row := fnBlocksUptoRow, standIns := [], harness := (true, "1aa472378e035233fa9f4b95143e03d8220551646b4ad6cfcdee84f94daa2ccf"), looks := false }, kinds := [], alts := [], laidByText := true, laidKinds := [.data, .pinned], laidTests := true, laidLooks := .later }
def FnBlocksUptoCardSaid : Prop := Claim7.holds Tryz.pinned (.plain (OpenSpec.upto fnBlocksSpec)) fnBlocksUptoCard
end Rows
end Go.Proofs.YtbapalgndjiamaaGreatDoor
