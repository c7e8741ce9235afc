/-
  DERIVED. GIVEN WITH THE SEED: THE CARDS: each row of YtlggnigbemghgaaGreatDoorRows.lean that lists a variable, with what it lists TIED to the program's text (the seventh form; the later family's looks); each row that meets fmt, with fmt's text TOLD by the authors' own Lean function (tested against real Go, not proved from fmt's source: count such statements apart). THE CARD IS WHAT COUNTS. Prove the row's statement (the work); the ties are given (YtlggnigbemghgaaGreatDoorTie.lean); close each card by the builder's one call (the guide's Derived/Test/ToyasCard.lean, 'card_holds'). Laid BY PROGRAM, IN A SANDBOX (cutbox-door.mjs). By AI agents, Wed Nov 11 2026. No macro, syntax, notation, axiom, sorry.
-/
import Derived.Test.YtlggnigbemghgaaGreatDoorRows
import GoSem.ClaimSeven
namespace Go.Proofs.YtlggnigbemghgaaGreatDoor
namespace Rows

/-- THE TIED CARD OF 'laws.FnExactUnfuseCode'. -/
def fnExactUnfuseCodeCard : Claim7 := { stood := { row := fnExactUnfuseCodeRow, standIns := [], harness := (true, "ade98eeb30b4d4d900e8f9cf5a61d7d5715d889e6f0521638ce7cfc17aa17880"), looks := false }, kinds := [], alts := [], laidByText := true, laidKinds := [.data, .pinned], laidTests := true, laidLooks := .later }
def FnExactUnfuseCodeCardSaid : Prop := Claim7.holds Tryz.pinned (.plain (OpenSpec.ofChange fnExactUnfuseCodeSpec)) fnExactUnfuseCodeCard

/-- THE TIED CARD OF 'laws.FnExactFuseCode'. -/
def fnExactFuseCodeCard : Claim7 := { stood := { row := fnExactFuseCodeRow, standIns := [], harness := (true, "ade98eeb30b4d4d900e8f9cf5a61d7d5715d889e6f0521638ce7cfc17aa17880"), looks := false }, kinds := [], alts := [], laidByText := true, laidKinds := [.data, .pinned], laidTests := true, laidLooks := .later }
def FnExactFuseCodeCardSaid : Prop := Claim7.holds Tryz.pinned (.plain (OpenSpec.ofChange fnExactFuseCodeSpec)) fnExactFuseCodeCard

/-- THE SECOND FORM's CARD OF 'laws.FnExactUnfuseCode'. -/
def fnExactUnfuseCodeUptoCard : Claim7 := { stood := { row := fnExactUnfuseCodeUptoRow, standIns := [], harness := (true, "ade98eeb30b4d4d900e8f9cf5a61d7d5715d889e6f0521638ce7cfc17aa17880"), looks := false }, kinds := [], alts := [], laidByText := true, laidKinds := [.data, .pinned], laidTests := true, laidLooks := .later }
def FnExactUnfuseCodeUptoCardSaid : Prop := Claim7.holds Tryz.pinned (.plain (OpenSpec.upto fnExactUnfuseCodeSpec)) fnExactUnfuseCodeUptoCard

/-- THE SECOND FORM's CARD OF 'laws.FnExactFuseCode'. -/
def fnExactFuseCodeUptoCard : Claim7 := { stood := { row := fnExactFuseCodeUptoRow, standIns := [], harness := (true, "ade98eeb30b4d4d900e8f9cf5a61d7d5715d889e6f0521638ce7cfc17aa17880"), looks := false }, kinds := [], alts := [], laidByText := true, laidKinds := [.data, .pinned], laidTests := true, laidLooks := .later }
def FnExactFuseCodeUptoCardSaid : Prop := Claim7.holds Tryz.pinned (.plain (OpenSpec.upto fnExactFuseCodeSpec)) fnExactFuseCodeUptoCard
end Rows
end Go.Proofs.YtlggnigbemghgaaGreatDoor
