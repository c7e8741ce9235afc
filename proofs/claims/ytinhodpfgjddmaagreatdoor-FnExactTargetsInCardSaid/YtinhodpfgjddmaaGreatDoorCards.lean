/-
  DERIVED. GIVEN WITH THE SEED: THE CARDS: each row of YtinhodpfgjddmaaGreatDoorRows.lean that lists a variable, with what it lists TIED to the program's text (the seventh form; the later family's looks); each row that meets fmt, with fmt's text TOLD by the authors' own Lean function (tested against real Go, not proved from fmt's source: count such statements apart). THE CARD IS WHAT COUNTS. Prove the row's statement (the work); the ties are given (YtinhodpfgjddmaaGreatDoorTie.lean); close each card by the builder's one call (the guide's Derived/Test/ToyasCard.lean, 'card_holds'). Laid BY PROGRAM, IN A SANDBOX (cutbox-door.mjs). By AI agents, Wed Nov 11 2026. No macro, syntax, notation, axiom, sorry.
-/
import Derived.Test.YtinhodpfgjddmaaGreatDoorRows
import GoSem.ClaimSeven
namespace Go.Proofs.YtinhodpfgjddmaaGreatDoor
namespace Rows

/-- THE TIED CARD OF 'laws.FnExactTargetsIn'. -/
def fnExactTargetsInCard : Claim7 := { stood := { row := fnExactTargetsInRow, standIns := [], harness := (true, "cdba461f7f32508f923401df03af458d77f488380f71d99df2889a7e8debe833"), looks := true }, kinds := [], alts := [], laidByText := true, laidKinds := [.data, .pinned], laidTests := true, laidLooks := .later }
def FnExactTargetsInCardSaid : Prop := Claim7.holds Tryz.pinned (.plain (OpenSpec.ofChange fnExactTargetsInSpec)) fnExactTargetsInCard

/-- THE TIED CARD OF 'laws.FnExactHeightsOf'. -/
def fnExactHeightsOfCard : Claim7 := { stood := { row := fnExactHeightsOfRow, standIns := [], harness := (true, "cdba461f7f32508f923401df03af458d77f488380f71d99df2889a7e8debe833"), looks := true }, kinds := [], alts := [], laidByText := true, laidKinds := [.data, .pinned], laidTests := true, laidLooks := .later }
def FnExactHeightsOfCardSaid : Prop := Claim7.holds Tryz.pinned (.plain (OpenSpec.ofChange fnExactHeightsOfSpec)) fnExactHeightsOfCard

/-- THE TIED CARD OF 'laws.FnExactBlockAround'. -/
def fnExactBlockAroundCard : Claim7 := { stood := { row := fnExactBlockAroundRow, standIns := [], harness := (true, "cdba461f7f32508f923401df03af458d77f488380f71d99df2889a7e8debe833"), looks := true }, kinds := [], alts := [], laidByText := true, laidKinds := [.data, .pinned], laidTests := true, laidLooks := .later }
def FnExactBlockAroundCardSaid : Prop := Claim7.holds Tryz.pinned (.plain (OpenSpec.ofChange fnExactBlockAroundSpec)) fnExactBlockAroundCard

/-- THE TIED CARD OF 'laws.FnExactFusedIn'. -/
def fnExactFusedInCard : Claim7 := { stood := { row := fnExactFusedInRow, standIns := [], harness := (true, "cdba461f7f32508f923401df03af458d77f488380f71d99df2889a7e8debe833"), looks := true }, kinds := [], alts := [], laidByText := true, laidKinds := [.data, .pinned], laidTests := true, laidLooks := .later }
def FnExactFusedInCardSaid : Prop := Claim7.holds Tryz.pinned (.plain (OpenSpec.ofChange fnExactFusedInSpec)) fnExactFusedInCard

/-- THE TIED CARD OF 'laws.FnExactDeepestOf'. -/
def fnExactDeepestOfCard : Claim7 := { stood := { row := fnExactDeepestOfRow, standIns := [], harness := (true, "cdba461f7f32508f923401df03af458d77f488380f71d99df2889a7e8debe833"), looks := true }, kinds := [], alts := [], laidByText := true, laidKinds := [.data, .pinned], laidTests := true, laidLooks := .later }
def FnExactDeepestOfCardSaid : Prop := Claim7.holds Tryz.pinned (.plain (OpenSpec.ofChange fnExactDeepestOfSpec)) fnExactDeepestOfCard

/-- THE TIED CARD OF 'laws.FnExactUnfuseCode'. -/
def fnExactUnfuseCodeCard : Claim7 := { stood := { row := fnExactUnfuseCodeRow, standIns := [], harness := (true, "cdba461f7f32508f923401df03af458d77f488380f71d99df2889a7e8debe833"), looks := true }, kinds := [], alts := [], laidByText := true, laidKinds := [.data, .pinned], laidTests := true, laidLooks := .later }
def FnExactUnfuseCodeCardSaid : Prop := Claim7.holds Tryz.pinned (.plain (OpenSpec.ofChange fnExactUnfuseCodeSpec)) fnExactUnfuseCodeCard

/-- THE TIED CARD OF 'laws.FnExactFuseCode'. -/
def fnExactFuseCodeCard : Claim7 := { stood := { row := fnExactFuseCodeRow, standIns := [], harness := (true, "cdba461f7f32508f923401df03af458d77f488380f71d99df2889a7e8debe833"), looks := true }, kinds := [], alts := [], laidByText := true, laidKinds := [.data, .pinned], laidTests := true, laidLooks := .later }
def FnExactFuseCodeCardSaid : Prop := Claim7.holds Tryz.pinned (.plain (OpenSpec.ofChange fnExactFuseCodeSpec)) fnExactFuseCodeCard

/-- THE TIED CARD OF 'laws.FnExactCompileCore'. -/
def fnExactCompileCoreCard : Claim7 := { stood := { row := fnExactCompileCoreRow, standIns := [], harness := (true, "cdba461f7f32508f923401df03af458d77f488380f71d99df2889a7e8debe833"), looks := true }, kinds := [], alts := [], laidByText := true, laidKinds := [.data, .pinned], laidTests := true, laidLooks := .later }
def FnExactCompileCoreCardSaid : Prop := Claim7.holds Tryz.pinned (.plain (OpenSpec.ofChange fnExactCompileCoreSpec)) fnExactCompileCoreCard

/-- THE SECOND FORM's CARD OF 'laws.FnExactTargetsIn'. -/
def fnExactTargetsInUptoCard : Claim7 := { stood := { row := fnExactTargetsInUptoRow, standIns := [], harness := (true, "cdba461f7f32508f923401df03af458d77f488380f71d99df2889a7e8debe833"), looks := true }, kinds := [], alts := [], laidByText := true, laidKinds := [.data, .pinned], laidTests := true, laidLooks := .later }
def FnExactTargetsInUptoCardSaid : Prop := Claim7.holds Tryz.pinned (.plain (OpenSpec.upto fnExactTargetsInSpec)) fnExactTargetsInUptoCard

/-- THE SECOND FORM's CARD OF 'laws.FnExactHeightsOf'. -/
def fnExactHeightsOfUptoCard : Claim7 := { stood := { row := fnExactHeightsOfUptoRow, standIns := [], harness := (true, "cdba461f7f32508f923401df03af458d77f488380f71d99df2889a7e8debe833"), looks := true }, kinds := [], alts := [], laidByText := true, laidKinds := [.data, .pinned], laidTests := true, laidLooks := .later }
def FnExactHeightsOfUptoCardSaid : Prop := Claim7.holds Tryz.pinned (.plain (OpenSpec.upto fnExactHeightsOfSpec)) fnExactHeightsOfUptoCard

/-- THE SECOND FORM's CARD OF 'laws.FnExactBlockAround'. -/
def fnExactBlockAroundUptoCard : Claim7 := { stood := { row := fnExactBlockAroundUptoRow, standIns := [], harness := (true, "cdba461f7f32508f923401df03af458d77f488380f71d99df2889a7e8debe833"), looks := true }, kinds := [], alts := [], laidByText := true, laidKinds := [.data, .pinned], laidTests := true, laidLooks := .later }
def FnExactBlockAroundUptoCardSaid : Prop := Claim7.holds Tryz.pinned (.plain (OpenSpec.upto fnExactBlockAroundSpec)) fnExactBlockAroundUptoCard

/-- THE SECOND FORM's CARD OF 'laws.FnExactFusedIn'. -/
def fnExactFusedInUptoCard : Claim7 := { stood := { row := fnExactFusedInUptoRow, standIns := [], harness := (true, "cdba461f7f32508f923401df03af458d77f488380f71d99df2889a7e8debe833"), looks := true }, kinds := [], alts := [], laidByText := true, laidKinds := [.data, .pinned], laidTests := true, laidLooks := .later }
def FnExactFusedInUptoCardSaid : Prop := Claim7.holds Tryz.pinned (.plain (OpenSpec.upto fnExactFusedInSpec)) fnExactFusedInUptoCard

/-- THE SECOND FORM's CARD OF 'laws.FnExactDeepestOf'. -/
def fnExactDeepestOfUptoCard : Claim7 := { stood := { row := fnExactDeepestOfUptoRow, standIns := [], harness := (true, "cdba461f7f32508f923401df03af458d77f488380f71d99df2889a7e8debe833"), looks := true }, kinds := [], alts := [], laidByText := true, laidKinds := [.data, .pinned], laidTests := true, laidLooks := .later }
def FnExactDeepestOfUptoCardSaid : Prop := Claim7.holds Tryz.pinned (.plain (OpenSpec.upto fnExactDeepestOfSpec)) fnExactDeepestOfUptoCard

/-- THE SECOND FORM's CARD OF 'laws.FnExactUnfuseCode'. -/
def fnExactUnfuseCodeUptoCard : Claim7 := { stood := { row := fnExactUnfuseCodeUptoRow, standIns := [], harness := (true, "cdba461f7f32508f923401df03af458d77f488380f71d99df2889a7e8debe833"), looks := true }, kinds := [], alts := [], laidByText := true, laidKinds := [.data, .pinned], laidTests := true, laidLooks := .later }
def FnExactUnfuseCodeUptoCardSaid : Prop := Claim7.holds Tryz.pinned (.plain (OpenSpec.upto fnExactUnfuseCodeSpec)) fnExactUnfuseCodeUptoCard

/-- THE SECOND FORM's CARD OF 'laws.FnExactFuseCode'. -/
def fnExactFuseCodeUptoCard : Claim7 := { stood := { row := fnExactFuseCodeUptoRow, standIns := [], harness := (true, "cdba461f7f32508f923401df03af458d77f488380f71d99df2889a7e8debe833"), looks := true }, kinds := [], alts := [], laidByText := true, laidKinds := [.data, .pinned], laidTests := true, laidLooks := .later }
def FnExactFuseCodeUptoCardSaid : Prop := Claim7.holds Tryz.pinned (.plain (OpenSpec.upto fnExactFuseCodeSpec)) fnExactFuseCodeUptoCard

/-- THE SECOND FORM's CARD OF 'laws.FnExactCompileCore'. -/
def fnExactCompileCoreUptoCard : Claim7 := { stood := { row := fnExactCompileCoreUptoRow, standIns := [], harness := (true, "cdba461f7f32508f923401df03af458d77f488380f71d99df2889a7e8debe833"), looks := true }, kinds := [], alts := [], laidByText := true, laidKinds := [.data, .pinned], laidTests := true, laidLooks := .later }
def FnExactCompileCoreUptoCardSaid : Prop := Claim7.holds Tryz.pinned (.plain (OpenSpec.upto fnExactCompileCoreSpec)) fnExactCompileCoreUptoCard
end Rows
end Go.Proofs.YtinhodpfgjddmaaGreatDoor
