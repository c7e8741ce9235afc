/-
  DERIVED. GIVEN WITH THE SEED: THE CARDS: each row of YtggnjjalfnhiiaaGreatDoorRows.lean that lists a variable, with what it lists TIED to the program's text (the seventh form; the later family's looks); each row that meets fmt, with fmt's text TOLD by the authors' own Lean function (tested against real Go, not proved from fmt's source: count such statements apart). THE CARD IS WHAT COUNTS. Prove the row's statement (the work); the ties are given (YtggnjjalfnhiiaaGreatDoorTie.lean); close each card by the builder's one call (the guide's Derived/Test/ToyasCard.lean, 'card_holds'). Laid BY PROGRAM, IN A SANDBOX (cutbox-door.mjs). By AI agents, Wed Nov 11 2026. No macro, syntax, notation, axiom, sorry.
-/
import Derived.Test.YtggnjjalfnhiiaaGreatDoorRows
import GoSem.ClaimSeven
namespace Go.Proofs.YtggnjjalfnhiiaaGreatDoor
namespace Rows

/-- THE TIED CARD OF 'laws.FnExactCodeText'. -/
def fnExactCodeTextCard : Claim7 := { stood := { row := fnExactCodeTextRow, standIns := [], harness := (true, "effbb775964c6bf323c6d74345627405754492cfbbb4f38cff71fa05ec2cd067"), looks := true }, kinds := [], alts := [], laidByText := true, laidKinds := [.data, .data, .data, .data, .pinned], laidTests := true, laidLooks := .later }
def FnExactCodeTextCardSaid : Prop := Claim7.holds Tryz.pinned (.plain (OpenSpec.ofChange fnExactCodeTextSpec)) fnExactCodeTextCard

/-- THE TIED CARD OF 'laws.FnExactMakeCode'. -/
def fnExactMakeCodeCard : Claim7 := { stood := { row := fnExactMakeCodeRow, standIns := [], harness := (true, "effbb775964c6bf323c6d74345627405754492cfbbb4f38cff71fa05ec2cd067"), looks := true }, kinds := [], alts := [], laidByText := true, laidKinds := [.data, .data, .data, .data, .sentinel, .sentinel, .pinned], laidTests := true, laidLooks := .later }
def FnExactMakeCodeCardSaid : Prop := Claim7.holds Tryz.pinned (.plain (OpenSpec.ofChange fnExactMakeCodeSpec)) fnExactMakeCodeCard

/-- THE TIED CARD OF 'laws.FnExactCodeFor'. -/
def fnExactCodeForCard : Claim7 := { stood := { row := fnExactCodeForRow, standIns := [], harness := (true, "effbb775964c6bf323c6d74345627405754492cfbbb4f38cff71fa05ec2cd067"), looks := true }, kinds := [], alts := [], laidByText := true, laidKinds := [.data, .data, .data, .data, .sentinel, .sentinel, .pinned], laidTests := true, laidLooks := .later }
def FnExactCodeForCardSaid : Prop := Claim7.holds Tryz.pinned (.plain (OpenSpec.ofChange fnExactCodeForSpec)) fnExactCodeForCard

/-- THE SECOND FORM's CARD OF 'laws.FnExactCodeText'. -/
def fnExactCodeTextUptoCard : Claim7 := { stood := { row := fnExactCodeTextUptoRow, standIns := [], harness := (true, "effbb775964c6bf323c6d74345627405754492cfbbb4f38cff71fa05ec2cd067"), looks := true }, kinds := [], alts := [], laidByText := true, laidKinds := [.data, .data, .data, .data, .pinned], laidTests := true, laidLooks := .later }
def FnExactCodeTextUptoCardSaid : Prop := Claim7.holds Tryz.pinned (.plain (OpenSpec.upto fnExactCodeTextSpec)) fnExactCodeTextUptoCard

/-- THE SECOND FORM's CARD OF 'laws.FnExactMakeCode'. -/
def fnExactMakeCodeUptoCard : Claim7 := { stood := { row := fnExactMakeCodeUptoRow, standIns := [], harness := (true, "effbb775964c6bf323c6d74345627405754492cfbbb4f38cff71fa05ec2cd067"), looks := true }, kinds := [], alts := [], laidByText := true, laidKinds := [.data, .data, .data, .data, .sentinel, .sentinel, .pinned], laidTests := true, laidLooks := .later }
def FnExactMakeCodeUptoCardSaid : Prop := Claim7.holds Tryz.pinned (.plain (OpenSpec.upto fnExactMakeCodeSpec)) fnExactMakeCodeUptoCard

/-- THE SECOND FORM's CARD OF 'laws.FnExactCodeFor'. -/
def fnExactCodeForUptoCard : Claim7 := { stood := { row := fnExactCodeForUptoRow, standIns := [], harness := (true, "effbb775964c6bf323c6d74345627405754492cfbbb4f38cff71fa05ec2cd067"), looks := true }, kinds := [], alts := [], laidByText := true, laidKinds := [.data, .data, .data, .data, .sentinel, .sentinel, .pinned], laidTests := true, laidLooks := .later }
def FnExactCodeForUptoCardSaid : Prop := Claim7.holds Tryz.pinned (.plain (OpenSpec.upto fnExactCodeForSpec)) fnExactCodeForUptoCard
end Rows
end Go.Proofs.YtggnjjalfnhiiaaGreatDoor
