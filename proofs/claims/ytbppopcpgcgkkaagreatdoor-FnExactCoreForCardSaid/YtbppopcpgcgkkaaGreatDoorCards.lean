/-
  DERIVED. GIVEN WITH THE SEED: THE CARDS: each row of YtbppopcpgcgkkaaGreatDoorRows.lean that lists a variable, with what it lists TIED to the program's text (the seventh form; the later family's looks); each row that meets fmt, with fmt's text TOLD by the authors' own Lean function (tested against real Go, not proved from fmt's source: count such statements apart). THE CARD IS WHAT COUNTS. Prove the row's statement (the work); the ties are given (YtbppopcpgcgkkaaGreatDoorTie.lean); close each card by the builder's one call (the guide's Derived/Test/ToyasCard.lean, 'card_holds'). Laid BY PROGRAM, IN A SANDBOX (cutbox-door.mjs). By AI agents, Wed Nov 11 2026. No macro, syntax, notation, axiom, sorry.
-/
import Derived.Test.YtbppopcpgcgkkaaGreatDoorRows
import GoSem.ClaimSeven
namespace Go.Proofs.YtbppopcpgcgkkaaGreatDoor
namespace Rows

/-- THE TIED CARD OF 'laws.FnExactCoreFor'. -/
def fnExactCoreForCard : Claim7 := { stood := { row := fnExactCoreForRow, standIns := [], harness := (true, "2b633740329818fc9140a0e1ff4341f4791e3b68fe696965faa22792e02f97b3"), looks := true }, kinds := [], alts := [], laidByText := true, laidKinds := [.data, .data, .data, .data, .sentinel, .sentinel, .pinned], laidTests := true, laidLooks := .later }
def FnExactCoreForCardSaid : Prop := Claim7.holds Tryz.pinned (.plain (OpenSpec.ofChange fnExactCoreForSpec)) fnExactCoreForCard

/-- THE TIED CARD OF 'laws.FnExactPlainCode'. -/
def fnExactPlainCodeCard : Claim7 := { stood := { row := fnExactPlainCodeRow, standIns := [], harness := (true, "2b633740329818fc9140a0e1ff4341f4791e3b68fe696965faa22792e02f97b3"), looks := true }, kinds := [], alts := [], laidByText := true, laidKinds := [.data, .data, .data, .data, .sentinel, .sentinel, .pinned], laidTests := true, laidLooks := .later }
def FnExactPlainCodeCardSaid : Prop := Claim7.holds Tryz.pinned (.plain (OpenSpec.ofChange fnExactPlainCodeSpec)) fnExactPlainCodeCard

/-- THE SECOND FORM's CARD OF 'laws.FnExactCoreFor'. -/
def fnExactCoreForUptoCard : Claim7 := { stood := { row := fnExactCoreForUptoRow, standIns := [], harness := (true, "2b633740329818fc9140a0e1ff4341f4791e3b68fe696965faa22792e02f97b3"), looks := true }, kinds := [], alts := [], laidByText := true, laidKinds := [.data, .data, .data, .data, .sentinel, .sentinel, .pinned], laidTests := true, laidLooks := .later }
def FnExactCoreForUptoCardSaid : Prop := Claim7.holds Tryz.pinned (.plain (OpenSpec.upto fnExactCoreForSpec)) fnExactCoreForUptoCard

/-- THE SECOND FORM's CARD OF 'laws.FnExactPlainCode'. -/
def fnExactPlainCodeUptoCard : Claim7 := { stood := { row := fnExactPlainCodeUptoRow, standIns := [], harness := (true, "2b633740329818fc9140a0e1ff4341f4791e3b68fe696965faa22792e02f97b3"), looks := true }, kinds := [], alts := [], laidByText := true, laidKinds := [.data, .data, .data, .data, .sentinel, .sentinel, .pinned], laidTests := true, laidLooks := .later }
def FnExactPlainCodeUptoCardSaid : Prop := Claim7.holds Tryz.pinned (.plain (OpenSpec.upto fnExactPlainCodeSpec)) fnExactPlainCodeUptoCard
end Rows
end Go.Proofs.YtbppopcpgcgkkaaGreatDoor
