/-
  DERIVED. GIVEN WITH THE SEED: THE CARDS: each row of YtinhodpfgjddmaaDoorRows.lean that lists a variable, with what it lists TIED to the program's text (the seventh form; the later family's looks); each row that meets fmt, with fmt's text TOLD by the authors' own Lean function (tested against real Go, not proved from fmt's source: count such statements apart). THE CARD IS WHAT COUNTS. Prove the row's statement (the work); the ties are given (YtinhodpfgjddmaaDoorTie.lean); close each card by the builder's one call (the guide's Derived/Test/ToyasCard.lean, 'card_holds'). Laid BY PROGRAM, IN A SANDBOX (cutbox-door.mjs). By AI agents, Wed Nov 11 2026. No macro, syntax, notation, axiom, sorry.
-/
import Derived.Test.YtinhodpfgjddmaaDoorRows
import GoSem.ClaimSeven
namespace Go.Proofs.YtinhodpfgjddmaaDoor
namespace Rows

/-- THE TIED CARD OF 'laws.FnExactCountOps'. -/
def fnExactCountOpsCard : Claim7 := { stood := { row := fnExactCountOpsRow, standIns := [], harness := (true, "30f3f48677646c321c81d68df17590c5909bdd47d7a70a8951aca048e422d43b"), looks := false }, kinds := [], alts := [], laidByText := true, laidKinds := [.data, .pinned], laidTests := true, laidLooks := .later }
def FnExactCountOpsCardSaid : Prop := Claim7.holds Tryd.pinned (.plain (OpenSpec.ofChange fnExactCountOpsSpec)) fnExactCountOpsCard

/-- THE SECOND FORM's CARD OF 'laws.FnExactCountOps'. -/
def fnExactCountOpsUptoCard : Claim7 := { stood := { row := fnExactCountOpsUptoRow, standIns := [], harness := (true, "30f3f48677646c321c81d68df17590c5909bdd47d7a70a8951aca048e422d43b"), looks := false }, kinds := [], alts := [], laidByText := true, laidKinds := [.data, .pinned], laidTests := true, laidLooks := .later }
def FnExactCountOpsUptoCardSaid : Prop := Claim7.holds Tryd.pinned (.plain (OpenSpec.upto fnExactCountOpsSpec)) fnExactCountOpsUptoCard
end Rows
end Go.Proofs.YtinhodpfgjddmaaDoor
