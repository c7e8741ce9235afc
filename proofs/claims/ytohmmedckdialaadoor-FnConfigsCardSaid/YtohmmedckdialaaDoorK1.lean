/- What a row's condition tells of the first world. -/
import Derived.Test.YtohmmedckdialaaDoorN3
import Derived.Test.YtohmmedckdialaaDoorRows
import Derived.LaidLaws
import Derived.Lib.LaidU8
import Derived.Shelf.Vars
set_option linter.unusedSectionVars false
set_option linter.unusedSimpArgs false
set_option linter.unusedVariables false
namespace Go.Proofs.YtohmmedckdialaaDoor.E
open Go Go.RowKit
set_option maxRecDepth 100000
theorem tab_of {P : Program} {W : World} {name : String} {k : IntKind} {zs : List Int} {g : Nat} {t e : TypeId} {n : Nat}
    (hg : P.globalNamed name = some g) (hty : (P.globals[g]?).map (·.type) = some t) (ht : P.underlying t = some (.array n e)) (he : P.underlying e = some (.int k)) (hce : P.cellsOf e = 1) (hct : P.cellsOf t = n)
    (h : Lib.VarReads P W name (Lib.tabData k zs)) : Lib.TabIs P W name k zs := by
  obtain ⟨g', t', cs, fuel, p, hg', ht', hvar, hd⟩ := h
  obtain rfl := Option.some.inj (hg.symm.trans hg')
  obtain rfl := Option.some.inj (hty.symm.trans ht')
  unfold Lib.TabIs
  rw [hvar, ← Lib.cells_of_tab ht he hce hct hd]
theorem err_of {P : Program} {W : World} {name nm : String} {d : DataW Unit} {g : Nat} {t : TypeId} {ms : Array (String × TypeId)}
    (hg : P.globalNamed name = some g) (hty : (P.globals[g]?).map (·.type) = some t) (ht : P.underlying t = some (.interface ms))
    (h : Lib.VarReads P W name (.iface nm d)) : ∃ ev, W.cell? ⟨g, 0, none⟩ = some ev ∧ (ev = .nilIface ∨ ∃ te pe, ev = .iface te pe) := by
  obtain ⟨g', t', cs, fuel, p, hg', ht', hvar, hd⟩ := h
  obtain rfl := Option.some.inj (hg.symm.trans hg')
  obtain rfl := Option.some.inj (hty.symm.trans ht')
  obtain ⟨_, u, v, e, _, _⟩ := iface_of_trod ht hd
  refine ⟨.iface u v, ?_, .inr ⟨u, v, rfl⟩⟩
  have := World.var?_cell hg hvar 0
  rw [this]
  have e2 : cs = #[.iface u v] := by rw [← e]
  rw [e2]
  rfl
theorem QS_of {W : World} {l : List (String × DataW Unit)} (hl : laidMet Tryd.prog l W) (h1 : ("internal/strconv.uint64pow10", Rows.laid_internal_strconv_uint64pow10) ∈ l)
    (h2 : ("strconv.ErrSyntax", Rows.laid_strconv_ErrSyntax) ∈ l) (h3 : ("strconv.ErrRange", Rows.laid_strconv_ErrRange) ∈ l) (hs : W.ShapedOpen Tryd.prog) : QS W := by
  refine ⟨⟨?_, ?_, ?_⟩, ?_⟩
  · exact tab_of (g := 5) (t := 140) (e := 109) (n := 20) (by kernel_rfl) (by kernel_rfl) Tryd.underlying140 Tryd.underlying109 (by kernel_rfl) (by kernel_rfl) (Lib.laidMet.reads hl h1)
  · exact err_of (g := 3) (t := 90) (by kernel_rfl) (by kernel_rfl) Tryd.underlying90 (Lib.laidMet.reads hl h2)
  · exact err_of (g := 4) (t := 90) (by kernel_rfl) (by kernel_rfl) Tryd.underlying90 (Lib.laidMet.reads hl h3)
  · exact cell_of_shapedOpen_int (P := Tryd.prog) (g := 0) (t := 3) (zero := #[.int .i64 0]) hs (of_decide_eq_true (by kernel_rfl)) (by kernel_rfl) rfl (by kernel_rfl) (by kernel_rfl) Tryd.underlying3
end Go.Proofs.YtohmmedckdialaaDoor.E
