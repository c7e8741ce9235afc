/-
  DERIVED. GIVEN WITH THE SEED: THE CARDS: each row of YtohmmedckdialaaDoorRows.lean that lists a variable, with what it lists TIED to the program's text (the seventh form; the later family's looks); each row that meets fmt, with fmt's text TOLD by the authors' own Lean function (tested against real Go, not proved from fmt's source: count such statements apart). THE CARD IS WHAT COUNTS. Prove the row's statement (the work); the ties are given (YtohmmedckdialaaDoorTie.lean); close each card by the builder's one call (the guide's Derived/Test/ToyasCard.lean, 'card_holds'). Laid BY PROGRAM, IN A SANDBOX (cutbox-door.mjs). By AI agents, Wed Nov 11 2026. No macro, syntax, notation, axiom, sorry.
-/
import Derived.Test.YtohmmedckdialaaDoorRows
import GoSem.ClaimSeven
namespace Go.Proofs.YtohmmedckdialaaDoor
namespace Rows

/-- THE TIED CARD OF 'laws.FnExactLoopLines'. -/
def fnExactLoopLinesCard : Claim7 := { stood := { row := fnExactLoopLinesRow, standIns := [], harness := (true, "ef50ffe38e4e391e01cda6a1c035e5661079c06901ef1e5304cc0af312b6130f"), looks := true }, kinds := [], alts := [], laidByText := true, laidKinds := [.data, .pinned], laidTests := true, laidLooks := .later }
def FnExactLoopLinesCardSaid : Prop := Claim7.holds Tryd.pinned (.plain (OpenSpec.ofChange fnExactLoopLinesSpec)) fnExactLoopLinesCard

/-- THE TIED CARD OF 'laws.FnExactParseConfig'. -/
def fnExactParseConfigCard : Claim7 := { stood := { row := fnExactParseConfigRow, standIns := [], harness := (true, "ef50ffe38e4e391e01cda6a1c035e5661079c06901ef1e5304cc0af312b6130f"), looks := true }, kinds := [], alts := [], laidByText := true, laidKinds := [.data, .data, .data, .data, .sentinel, .sentinel, .pinned], laidTests := true, laidLooks := .later }
def FnExactParseConfigCardSaid : Prop := Claim7.holds Tryd.pinned (.plain (OpenSpec.ofChange fnExactParseConfigSpec)) fnExactParseConfigCard

/-- THE TIED CARD OF 'laws.FnConfigs'. -/
def fnConfigsCard : Claim7 := { stood := { row := fnConfigsRow, standIns := [], harness := (true, "ef50ffe38e4e391e01cda6a1c035e5661079c06901ef1e5304cc0af312b6130f"), looks := true }, kinds := [], alts := [], laidByText := true, laidKinds := [.data, .data, .data, .data, .sentinel, .sentinel, .pinned], laidTests := true, laidLooks := .later }
def FnConfigsCardSaid : Prop := Claim7.holds Tryd.pinned (.plain (OpenSpec.ofChange fnConfigsSpec)) fnConfigsCard

/-- THE TIED CARD OF 'laws.FnExactCommandOf'. -/
def fnExactCommandOfCard : Claim7 := { stood := { row := fnExactCommandOfRow, standIns := [], harness := (true, "ef50ffe38e4e391e01cda6a1c035e5661079c06901ef1e5304cc0af312b6130f"), looks := true }, kinds := [], alts := [], laidByText := true, laidKinds := [.data, .data, .data, .data, .sentinel, .sentinel, .pinned], laidTests := true, laidLooks := .later }
def FnExactCommandOfCardSaid : Prop := Claim7.holds Tryd.pinned (.plain (OpenSpec.ofChange fnExactCommandOfSpec)) fnExactCommandOfCard

/-- THE SECOND FORM's CARD OF 'laws.FnExactLoopLines'. -/
def fnExactLoopLinesUptoCard : Claim7 := { stood := { row := fnExactLoopLinesUptoRow, standIns := [], harness := (true, "ef50ffe38e4e391e01cda6a1c035e5661079c06901ef1e5304cc0af312b6130f"), looks := true }, kinds := [], alts := [], laidByText := true, laidKinds := [.data, .pinned], laidTests := true, laidLooks := .later }
def FnExactLoopLinesUptoCardSaid : Prop := Claim7.holds Tryd.pinned (.plain (OpenSpec.upto fnExactLoopLinesSpec)) fnExactLoopLinesUptoCard

/-- THE SECOND FORM's CARD OF 'laws.FnExactParseConfig'. -/
def fnExactParseConfigUptoCard : Claim7 := { stood := { row := fnExactParseConfigUptoRow, standIns := [], harness := (true, "ef50ffe38e4e391e01cda6a1c035e5661079c06901ef1e5304cc0af312b6130f"), looks := true }, kinds := [], alts := [], laidByText := true, laidKinds := [.data, .data, .data, .data, .sentinel, .sentinel, .pinned], laidTests := true, laidLooks := .later }
def FnExactParseConfigUptoCardSaid : Prop := Claim7.holds Tryd.pinned (.plain (OpenSpec.upto fnExactParseConfigSpec)) fnExactParseConfigUptoCard

/-- THE SECOND FORM's CARD OF 'laws.FnConfigs'. -/
def fnConfigsUptoCard : Claim7 := { stood := { row := fnConfigsUptoRow, standIns := [], harness := (true, "ef50ffe38e4e391e01cda6a1c035e5661079c06901ef1e5304cc0af312b6130f"), looks := true }, kinds := [], alts := [], laidByText := true, laidKinds := [.data, .data, .data, .data, .sentinel, .sentinel, .pinned], laidTests := true, laidLooks := .later }
def FnConfigsUptoCardSaid : Prop := Claim7.holds Tryd.pinned (.plain (OpenSpec.upto fnConfigsSpec)) fnConfigsUptoCard

/-- THE SECOND FORM's CARD OF 'laws.FnExactCommandOf'. -/
def fnExactCommandOfUptoCard : Claim7 := { stood := { row := fnExactCommandOfUptoRow, standIns := [], harness := (true, "ef50ffe38e4e391e01cda6a1c035e5661079c06901ef1e5304cc0af312b6130f"), looks := true }, kinds := [], alts := [], laidByText := true, laidKinds := [.data, .data, .data, .data, .sentinel, .sentinel, .pinned], laidTests := true, laidLooks := .later }
def FnExactCommandOfUptoCardSaid : Prop := Claim7.holds Tryd.pinned (.plain (OpenSpec.upto fnExactCommandOfSpec)) fnExactCommandOfUptoCard
end Rows
end Go.Proofs.YtohmmedckdialaaDoor
