/- The program and its types, by name. Printed by mkg.py. -/
import Derived.Test.YtnmggfcjbpnekaaMF
import Derived.WalkKit
import Derived.Test.YtnmggfcjbpnekaaProg
namespace Go.Proofs.Ytnmggfcjbpnekaa.E
open Go Go.RowKit
set_option linter.unusedVariables false
set_option linter.unusedSectionVars false
variable [Lam]
noncomputable abbrev TP : Program := Try.prog
noncomputable abbrev TT : Tab := tab TP
theorem TT_ok : TabOk TP TT := tab_ok TP (by decide +kernel)
abbrev fn_laws_FnAparts : FuncId := 3
abbrev fn_laws_lwBig : FuncId := 4
abbrev fn_spec_DrawFirstApart : FuncId := 5
abbrev fn_impl_FirstApart : FuncId := 6
abbrev fn_spec_FirstApart : FuncId := 7
abbrev fn_laws_lwTexts : FuncId := 8
abbrev fn_spec_l1Source : FuncId := 9
abbrev fn_spec_l8DrawLines : FuncId := 10
abbrev fn_spec_l1Next : FuncId := 11
abbrev fn_spec_l16Apart : FuncId := 12
abbrev fn_spec_l8Line : FuncId := 13
abbrev fn_spec_l4Source : FuncId := 14
abbrev fn_spec_l1Digits : FuncId := 15
abbrev fn_spec_l1Chance : FuncId := 16
abbrev ty_Lb : TypeId := 22
abbrev ty_Ls : TypeId := 24
abbrev ty_s : TypeId := 9
set_option maxRecDepth 1000000 in
theorem mk_Lb {n m : Int} {σ : AH} {k : AV → AH → Prop} (h0 : 0 ≤ n) (h1 : n ≤ m) (h2 : m ≤ 1099511627776) (h : ∀ φ, σ φ = none → k (.own φ 0 0 n.toNat) (σ.set φ ⟨0, 1, List.replicate m.toNat [(.val (.int .u8 0))]⟩)) : amake TT ty_Lb (.val (.int .i64 n)) (.val (.int .i64 m)) σ k := amake_info (by kernel_rfl) h0 h1 h2 h
set_option maxRecDepth 1000000 in
theorem mk_Ls {n m : Int} {σ : AH} {k : AV → AH → Prop} (h0 : 0 ≤ n) (h1 : n ≤ m) (h2 : m ≤ 1099511627776) (h : ∀ φ, σ φ = none → k (.own φ 0 0 n.toNat) (σ.set φ ⟨0, 1, List.replicate m.toNat [(.val (.string ⟨#[]⟩))]⟩)) : amake TT ty_Ls (.val (.int .i64 n)) (.val (.int .i64 m)) σ k := amake_info (by kernel_rfl) h0 h1 h2 h
end Go.Proofs.Ytnmggfcjbpnekaa.E
