/-
  No cell of these rows narrows 'for every input' (looked for: loops, veiled, ifaces, maps, wideKeys, modest, calm, conditions, laid).
  DERIVED. THE GIVEN ROWS OF THIS SEAT. 11 by the template 'for every input the law returns true; each argument reads behind the call as it read before'; 0 by the template 'total and deterministic' (their statements: YtjfdgijgkbojnaaTotals.lean).
  GIVEN WITH THE SEED: the statements are not yours to turn. If you find one false, say at which input.
  Laid BY PROGRAM, IN A SANDBOX (cutbox-rows.mjs): the forced cells as the released guide's own fill.sh prints them over the translation cf31520fcb952d21… (all of the seat's roots in one cut). By AI agents, Wed Nov 11 2026. No macro, syntax, notation, axiom, sorry.
-/
import Derived.Test.YtjfdgijgkbojnaaChecked
import GoSem.Claim
import GoSem.ClaimJoined
import GoSem.ClaimMapViews
import Derived.JoinedTies
import Derived.KernelRfl
namespace Go.Proofs.Ytjfdgijgkbojnaa
/- THE CELL 'sum', in the pinned program and in every row, IS THE sha256 OF THE DUMP (.gsa) THAT YtjfdgijgkbojnaaProg.lean LOADS. Nothing in Lean hashes anything: it is a label: what it is worth is what the hold of that sum in a sandbox is worth. -/
noncomputable def Try.pinned : Pinned := { name := "ytjfdgijgkbojnaa", sum := "cf31520fcb952d21d0c004097342c047c83046b20a377eab476c1cadb4de9670", checked := Try.checked }
namespace Rows
def none {H : Type} : Left H := { results := [], args := [] }

/-- 'laws.FnExactTableFault': WHATEVER THE INPUT: true; the input reads as it did. -/
def fnExactTableFaultSpec : ChangeSpec := { name := "fnExactTableFault", fn := fun _ => fun
  | [d] => { results := [.lit (.bool true)], args := [d] }
  | _ => none }
def fnExactTableFaultRow : OpenClaim := { program := "ytjfdgijgkbojnaa", sum := "cf31520fcb952d21d0c004097342c047c83046b20a377eab476c1cadb4de9670", func := "loop.example/g00349/laws.FnExactTableFault", spec := "fnExactTableFault", apart := false }
def FnExactTableFaultSaid : Prop := fnExactTableFaultRow.holds Try.pinned (OpenSpec.ofChange fnExactTableFaultSpec)

/-- ITS FALSE NEIGHBOUR: 'it returns false'. Refute it at one input. -/
def fnExactTableFaultWrong : ChangeSpec := { name := "fnExactTableFault", fn := fun _ => fun
  | [d] => { results := [.lit (.bool false)], args := [d] }
  | _ => none }
def FnExactTableFaultWrongFalsely : Prop := fnExactTableFaultRow.holds Try.pinned (OpenSpec.ofChange fnExactTableFaultWrong)

/-- 'laws.FnExactConfigFault': WHATEVER THE INPUT: true; the input reads as it did. -/
def fnExactConfigFaultSpec : ChangeSpec := { name := "fnExactConfigFault", fn := fun _ => fun
  | [d] => { results := [.lit (.bool true)], args := [d] }
  | _ => none }
def fnExactConfigFaultRow : OpenClaim := { program := "ytjfdgijgkbojnaa", sum := "cf31520fcb952d21d0c004097342c047c83046b20a377eab476c1cadb4de9670", func := "loop.example/g00349/laws.FnExactConfigFault", spec := "fnExactConfigFault", apart := false }
def FnExactConfigFaultSaid : Prop := fnExactConfigFaultRow.holds Try.pinned (OpenSpec.ofChange fnExactConfigFaultSpec)

/-- ITS FALSE NEIGHBOUR: 'it returns false'. Refute it at one input. -/
def fnExactConfigFaultWrong : ChangeSpec := { name := "fnExactConfigFault", fn := fun _ => fun
  | [d] => { results := [.lit (.bool false)], args := [d] }
  | _ => none }
def FnExactConfigFaultWrongFalsely : Prop := fnExactConfigFaultRow.holds Try.pinned (OpenSpec.ofChange fnExactConfigFaultWrong)

/-- 'laws.FnExactFirstApart': WHATEVER THE INPUT: true; the input reads as it did. -/
def fnExactFirstApartSpec : ChangeSpec := { name := "fnExactFirstApart", fn := fun _ => fun
  | [d1, d2] => { results := [.lit (.bool true)], args := [d1, d2] }
  | _ => none }
def fnExactFirstApartRow : OpenClaim := { program := "ytjfdgijgkbojnaa", sum := "cf31520fcb952d21d0c004097342c047c83046b20a377eab476c1cadb4de9670", func := "loop.example/g00349/laws.FnExactFirstApart", spec := "fnExactFirstApart", apart := false }
def FnExactFirstApartSaid : Prop := fnExactFirstApartRow.holds Try.pinned (OpenSpec.ofChange fnExactFirstApartSpec)

/-- ITS FALSE NEIGHBOUR: 'it returns false'. Refute it at one input. -/
def fnExactFirstApartWrong : ChangeSpec := { name := "fnExactFirstApart", fn := fun _ => fun
  | [d1, d2] => { results := [.lit (.bool false)], args := [d1, d2] }
  | _ => none }
def FnExactFirstApartWrongFalsely : Prop := fnExactFirstApartRow.holds Try.pinned (OpenSpec.ofChange fnExactFirstApartWrong)

/-- 'laws.FnExactErrorsIn': WHATEVER THE INPUT: true; the input reads as it did. -/
def fnExactErrorsInSpec : ChangeSpec := { name := "fnExactErrorsIn", fn := fun _ => fun
  | [d] => { results := [.lit (.bool true)], args := [d] }
  | _ => none }
def fnExactErrorsInRow : OpenClaim := { program := "ytjfdgijgkbojnaa", sum := "cf31520fcb952d21d0c004097342c047c83046b20a377eab476c1cadb4de9670", func := "loop.example/g00349/laws.FnExactErrorsIn", spec := "fnExactErrorsIn", apart := false }
def FnExactErrorsInSaid : Prop := fnExactErrorsInRow.holds Try.pinned (OpenSpec.ofChange fnExactErrorsInSpec)

/-- ITS FALSE NEIGHBOUR: 'it returns false'. Refute it at one input. -/
def fnExactErrorsInWrong : ChangeSpec := { name := "fnExactErrorsIn", fn := fun _ => fun
  | [d] => { results := [.lit (.bool false)], args := [d] }
  | _ => none }
def FnExactErrorsInWrongFalsely : Prop := fnExactErrorsInRow.holds Try.pinned (OpenSpec.ofChange fnExactErrorsInWrong)

/-- 'laws.FnExactSegsFault': WHATEVER THE INPUT: true; the input reads as it did. -/
def fnExactSegsFaultSpec : ChangeSpec := { name := "fnExactSegsFault", fn := fun _ => fun
  | [d] => { results := [.lit (.bool true)], args := [d] }
  | _ => none }
def fnExactSegsFaultRow : OpenClaim := { program := "ytjfdgijgkbojnaa", sum := "cf31520fcb952d21d0c004097342c047c83046b20a377eab476c1cadb4de9670", func := "loop.example/g00349/laws.FnExactSegsFault", spec := "fnExactSegsFault", apart := false }
def FnExactSegsFaultSaid : Prop := fnExactSegsFaultRow.holds Try.pinned (OpenSpec.ofChange fnExactSegsFaultSpec)

/-- ITS FALSE NEIGHBOUR: 'it returns false'. Refute it at one input. -/
def fnExactSegsFaultWrong : ChangeSpec := { name := "fnExactSegsFault", fn := fun _ => fun
  | [d] => { results := [.lit (.bool false)], args := [d] }
  | _ => none }
def FnExactSegsFaultWrongFalsely : Prop := fnExactSegsFaultRow.holds Try.pinned (OpenSpec.ofChange fnExactSegsFaultWrong)

/-- 'laws.FnAparts': WHATEVER THE INPUT: true; the input reads as it did. -/
def fnApartsSpec : ChangeSpec := { name := "fnAparts", fn := fun _ => fun
  | [d] => { results := [.lit (.bool true)], args := [d] }
  | _ => none }
def fnApartsRow : OpenClaim := { program := "ytjfdgijgkbojnaa", sum := "cf31520fcb952d21d0c004097342c047c83046b20a377eab476c1cadb4de9670", func := "loop.example/g00349/laws.FnAparts", spec := "fnAparts", recurses := true, apart := false }
def FnApartsSaid : Prop := fnApartsRow.holds Try.pinned (OpenSpec.ofChange fnApartsSpec)

/-- ITS FALSE NEIGHBOUR: 'it returns false'. Refute it at one input. -/
def fnApartsWrong : ChangeSpec := { name := "fnAparts", fn := fun _ => fun
  | [d] => { results := [.lit (.bool false)], args := [d] }
  | _ => none }
def FnApartsWrongFalsely : Prop := fnApartsRow.holds Try.pinned (OpenSpec.ofChange fnApartsWrong)

/-- 'laws.FnExactDepthSegs': WHATEVER THE INPUT: true; the input reads as it did. -/
def fnExactDepthSegsSpec : ChangeSpec := { name := "fnExactDepthSegs", fn := fun _ => fun
  | [d] => { results := [.lit (.bool true)], args := [d] }
  | _ => none }
def fnExactDepthSegsRow : OpenClaim := { program := "ytjfdgijgkbojnaa", sum := "cf31520fcb952d21d0c004097342c047c83046b20a377eab476c1cadb4de9670", func := "loop.example/g00349/laws.FnExactDepthSegs", spec := "fnExactDepthSegs", apart := false }
def FnExactDepthSegsSaid : Prop := fnExactDepthSegsRow.holds Try.pinned (OpenSpec.ofChange fnExactDepthSegsSpec)

/-- ITS FALSE NEIGHBOUR: 'it returns false'. Refute it at one input. -/
def fnExactDepthSegsWrong : ChangeSpec := { name := "fnExactDepthSegs", fn := fun _ => fun
  | [d] => { results := [.lit (.bool false)], args := [d] }
  | _ => none }
def FnExactDepthSegsWrongFalsely : Prop := fnExactDepthSegsRow.holds Try.pinned (OpenSpec.ofChange fnExactDepthSegsWrong)

/-- 'laws.FnExactOpenSegs': WHATEVER THE INPUT: true; the input reads as it did. -/
def fnExactOpenSegsSpec : ChangeSpec := { name := "fnExactOpenSegs", fn := fun _ => fun
  | [d1, d2] => { results := [.lit (.bool true)], args := [d1, d2] }
  | _ => none }
def fnExactOpenSegsRow : OpenClaim := { program := "ytjfdgijgkbojnaa", sum := "cf31520fcb952d21d0c004097342c047c83046b20a377eab476c1cadb4de9670", func := "loop.example/g00349/laws.FnExactOpenSegs", spec := "fnExactOpenSegs", unfollowed := true, recurses := true, apart := false }
def FnExactOpenSegsSaid : Prop := fnExactOpenSegsRow.holds Try.pinned (OpenSpec.ofChange fnExactOpenSegsSpec)

/-- ITS FALSE NEIGHBOUR: 'it returns false'. Refute it at one input. -/
def fnExactOpenSegsWrong : ChangeSpec := { name := "fnExactOpenSegs", fn := fun _ => fun
  | [d1, d2] => { results := [.lit (.bool false)], args := [d1, d2] }
  | _ => none }
def FnExactOpenSegsWrongFalsely : Prop := fnExactOpenSegsRow.holds Try.pinned (OpenSpec.ofChange fnExactOpenSegsWrong)

/-- 'laws.FnExactListSegs': WHATEVER THE INPUT: true; the input reads as it did. -/
def fnExactListSegsSpec : ChangeSpec := { name := "fnExactListSegs", fn := fun _ => fun
  | [d] => { results := [.lit (.bool true)], args := [d] }
  | _ => none }
def fnExactListSegsRow : OpenClaim := { program := "ytjfdgijgkbojnaa", sum := "cf31520fcb952d21d0c004097342c047c83046b20a377eab476c1cadb4de9670", func := "loop.example/g00349/laws.FnExactListSegs", spec := "fnExactListSegs", apart := false }
def FnExactListSegsSaid : Prop := fnExactListSegsRow.holds Try.pinned (OpenSpec.ofChange fnExactListSegsSpec)

/-- ITS FALSE NEIGHBOUR: 'it returns false'. Refute it at one input. -/
def fnExactListSegsWrong : ChangeSpec := { name := "fnExactListSegs", fn := fun _ => fun
  | [d] => { results := [.lit (.bool false)], args := [d] }
  | _ => none }
def FnExactListSegsWrongFalsely : Prop := fnExactListSegsRow.holds Try.pinned (OpenSpec.ofChange fnExactListSegsWrong)

/-- 'laws.FnResizes': WHATEVER THE INPUT: true; the input reads as it did. -/
def fnResizesSpec : ChangeSpec := { name := "fnResizes", fn := fun _ => fun
  | [d] => { results := [.lit (.bool true)], args := [d] }
  | _ => none }
def fnResizesRow : OpenClaim := { program := "ytjfdgijgkbojnaa", sum := "cf31520fcb952d21d0c004097342c047c83046b20a377eab476c1cadb4de9670", func := "loop.example/g00349/laws.FnResizes", spec := "fnResizes", unfollowed := true, recurses := true, apart := false }
def FnResizesSaid : Prop := fnResizesRow.holds Try.pinned (OpenSpec.ofChange fnResizesSpec)

/-- ITS FALSE NEIGHBOUR: 'it returns false'. Refute it at one input. -/
def fnResizesWrong : ChangeSpec := { name := "fnResizes", fn := fun _ => fun
  | [d] => { results := [.lit (.bool false)], args := [d] }
  | _ => none }
def FnResizesWrongFalsely : Prop := fnResizesRow.holds Try.pinned (OpenSpec.ofChange fnResizesWrong)

/-- 'laws.FnStacks': WHATEVER THE INPUT: true; the input reads as it did. -/
def fnStacksSpec : ChangeSpec := { name := "fnStacks", fn := fun _ => fun
  | [d] => { results := [.lit (.bool true)], args := [d] }
  | _ => none }
def fnStacksRow : OpenClaim := { program := "ytjfdgijgkbojnaa", sum := "cf31520fcb952d21d0c004097342c047c83046b20a377eab476c1cadb4de9670", func := "loop.example/g00349/laws.FnStacks", spec := "fnStacks", unfollowed := true, recurses := true, apart := false }
def FnStacksSaid : Prop := fnStacksRow.holds Try.pinned (OpenSpec.ofChange fnStacksSpec)

/-- ITS FALSE NEIGHBOUR: 'it returns false'. Refute it at one input. -/
def fnStacksWrong : ChangeSpec := { name := "fnStacks", fn := fun _ => fun
  | [d] => { results := [.lit (.bool false)], args := [d] }
  | _ => none }
def FnStacksWrongFalsely : Prop := fnStacksRow.holds Try.pinned (OpenSpec.ofChange fnStacksWrong)

/- THE SECOND FORM. 'bulk': how many values and letters a reading holds, each counted each time it is reached (what is shared counts as often as it is met; a slice's spare places count too). A statement '..UptoSaid' is the law's where the arguments, and the package variables that the reading takes, are together of bulk at most 1048576: NARROWER than '..Said'. Prove '..Said' where nothing that the law and all that it calls make is longer than what came in: it says more and counts as full. Else prove '..UptoSaid'. A law counts once. -/
mutual
def uptoBulk {H : Type} : DataW H → Nat
  | .lit (.string bytes) => bytes.length + 1
  | .lit _ => 1
  | .nil => 1
  | .ptr d => uptoBulk d + 1
  | .slice elems spare => uptoBulkAll elems + uptoBulkAll spare + 1
  | .agg parts => uptoBulkAll parts + 1
  | .iface _ d => uptoBulk d + 1
  | .map entries => uptoBulkEntries entries + 1
  | .held _ => 1
def uptoBulkAll {H : Type} : List (DataW H) → Nat
  | [] => 0
  | d :: r => uptoBulk d + uptoBulkAll r
def uptoBulkEntries {H : Type} : List (Lit × DataW H) → Nat
  | [] => 0
  | x :: r => uptoBulkEntry x + uptoBulkEntries r
def uptoBulkEntry {H : Type} : Lit × DataW H → Nat
  | (.string bytes, d) => bytes.length + uptoBulk d + 1
  | (_, d) => uptoBulk d + 1
 end
def uptoSmall : (H : Type) → List (DataW H) → Bool := fun _ ds => decide (uptoBulkAll ds ≤ 1048576)
def OpenSpec.upto (s : _root_.Go.ChangeSpec) : _root_.Go.OpenSpec := { _root_.Go.OpenSpec.ofChange s with cond := some uptoSmall }

/-- 'laws.FnExactTableFault', WHERE WHAT IT READS IS OF BULK AT MOST 1048576: true; the input reads as it did. -/
def fnExactTableFaultUptoRow : OpenClaim := { program := "ytjfdgijgkbojnaa", sum := "cf31520fcb952d21d0c004097342c047c83046b20a377eab476c1cadb4de9670", func := "loop.example/g00349/laws.FnExactTableFault", spec := "fnExactTableFault", apart := false, narrowed := true }
def FnExactTableFaultUptoSaid : Prop := fnExactTableFaultUptoRow.holds Try.pinned (OpenSpec.upto fnExactTableFaultSpec)

/-- 'laws.FnExactConfigFault', WHERE WHAT IT READS IS OF BULK AT MOST 1048576: true; the input reads as it did. -/
def fnExactConfigFaultUptoRow : OpenClaim := { program := "ytjfdgijgkbojnaa", sum := "cf31520fcb952d21d0c004097342c047c83046b20a377eab476c1cadb4de9670", func := "loop.example/g00349/laws.FnExactConfigFault", spec := "fnExactConfigFault", apart := false, narrowed := true }
def FnExactConfigFaultUptoSaid : Prop := fnExactConfigFaultUptoRow.holds Try.pinned (OpenSpec.upto fnExactConfigFaultSpec)

/-- 'laws.FnExactFirstApart', WHERE WHAT IT READS IS OF BULK AT MOST 1048576: true; the input reads as it did. -/
def fnExactFirstApartUptoRow : OpenClaim := { program := "ytjfdgijgkbojnaa", sum := "cf31520fcb952d21d0c004097342c047c83046b20a377eab476c1cadb4de9670", func := "loop.example/g00349/laws.FnExactFirstApart", spec := "fnExactFirstApart", apart := false, narrowed := true }
def FnExactFirstApartUptoSaid : Prop := fnExactFirstApartUptoRow.holds Try.pinned (OpenSpec.upto fnExactFirstApartSpec)

/-- 'laws.FnExactErrorsIn', WHERE WHAT IT READS IS OF BULK AT MOST 1048576: true; the input reads as it did. -/
def fnExactErrorsInUptoRow : OpenClaim := { program := "ytjfdgijgkbojnaa", sum := "cf31520fcb952d21d0c004097342c047c83046b20a377eab476c1cadb4de9670", func := "loop.example/g00349/laws.FnExactErrorsIn", spec := "fnExactErrorsIn", apart := false, narrowed := true }
def FnExactErrorsInUptoSaid : Prop := fnExactErrorsInUptoRow.holds Try.pinned (OpenSpec.upto fnExactErrorsInSpec)

/-- 'laws.FnExactSegsFault', WHERE WHAT IT READS IS OF BULK AT MOST 1048576: true; the input reads as it did. -/
def fnExactSegsFaultUptoRow : OpenClaim := { program := "ytjfdgijgkbojnaa", sum := "cf31520fcb952d21d0c004097342c047c83046b20a377eab476c1cadb4de9670", func := "loop.example/g00349/laws.FnExactSegsFault", spec := "fnExactSegsFault", apart := false, narrowed := true }
def FnExactSegsFaultUptoSaid : Prop := fnExactSegsFaultUptoRow.holds Try.pinned (OpenSpec.upto fnExactSegsFaultSpec)

/-- 'laws.FnAparts', WHERE WHAT IT READS IS OF BULK AT MOST 1048576: true; the input reads as it did. -/
def fnApartsUptoRow : OpenClaim := { program := "ytjfdgijgkbojnaa", sum := "cf31520fcb952d21d0c004097342c047c83046b20a377eab476c1cadb4de9670", func := "loop.example/g00349/laws.FnAparts", spec := "fnAparts", recurses := true, apart := false, narrowed := true }
def FnApartsUptoSaid : Prop := fnApartsUptoRow.holds Try.pinned (OpenSpec.upto fnApartsSpec)

/-- 'laws.FnExactDepthSegs', WHERE WHAT IT READS IS OF BULK AT MOST 1048576: true; the input reads as it did. -/
def fnExactDepthSegsUptoRow : OpenClaim := { program := "ytjfdgijgkbojnaa", sum := "cf31520fcb952d21d0c004097342c047c83046b20a377eab476c1cadb4de9670", func := "loop.example/g00349/laws.FnExactDepthSegs", spec := "fnExactDepthSegs", apart := false, narrowed := true }
def FnExactDepthSegsUptoSaid : Prop := fnExactDepthSegsUptoRow.holds Try.pinned (OpenSpec.upto fnExactDepthSegsSpec)

/-- 'laws.FnExactOpenSegs', WHERE WHAT IT READS IS OF BULK AT MOST 1048576: true; the input reads as it did. -/
def fnExactOpenSegsUptoRow : OpenClaim := { program := "ytjfdgijgkbojnaa", sum := "cf31520fcb952d21d0c004097342c047c83046b20a377eab476c1cadb4de9670", func := "loop.example/g00349/laws.FnExactOpenSegs", spec := "fnExactOpenSegs", unfollowed := true, recurses := true, apart := false, narrowed := true }
def FnExactOpenSegsUptoSaid : Prop := fnExactOpenSegsUptoRow.holds Try.pinned (OpenSpec.upto fnExactOpenSegsSpec)

/-- 'laws.FnExactListSegs', WHERE WHAT IT READS IS OF BULK AT MOST 1048576: true; the input reads as it did. -/
def fnExactListSegsUptoRow : OpenClaim := { program := "ytjfdgijgkbojnaa", sum := "cf31520fcb952d21d0c004097342c047c83046b20a377eab476c1cadb4de9670", func := "loop.example/g00349/laws.FnExactListSegs", spec := "fnExactListSegs", apart := false, narrowed := true }
def FnExactListSegsUptoSaid : Prop := fnExactListSegsUptoRow.holds Try.pinned (OpenSpec.upto fnExactListSegsSpec)

/-- 'laws.FnResizes', WHERE WHAT IT READS IS OF BULK AT MOST 1048576: true; the input reads as it did. -/
def fnResizesUptoRow : OpenClaim := { program := "ytjfdgijgkbojnaa", sum := "cf31520fcb952d21d0c004097342c047c83046b20a377eab476c1cadb4de9670", func := "loop.example/g00349/laws.FnResizes", spec := "fnResizes", unfollowed := true, recurses := true, apart := false, narrowed := true }
def FnResizesUptoSaid : Prop := fnResizesUptoRow.holds Try.pinned (OpenSpec.upto fnResizesSpec)

/-- 'laws.FnStacks', WHERE WHAT IT READS IS OF BULK AT MOST 1048576: true; the input reads as it did. -/
def fnStacksUptoRow : OpenClaim := { program := "ytjfdgijgkbojnaa", sum := "cf31520fcb952d21d0c004097342c047c83046b20a377eab476c1cadb4de9670", func := "loop.example/g00349/laws.FnStacks", spec := "fnStacks", unfollowed := true, recurses := true, apart := false, narrowed := true }
def FnStacksUptoSaid : Prop := fnStacksUptoRow.holds Try.pinned (OpenSpec.upto fnStacksSpec)

end Rows
end Go.Proofs.Ytjfdgijgkbojnaa
