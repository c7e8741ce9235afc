/- The law FnExactTableFault holds: for every number the program's TableFault answers as the reference's; no condition. -/
import Derived.Test.YtjfdgijgkbojnaaPFnExactTableFaultx1
namespace Go.Proofs.Ytjfdgijgkbojnaa.Pure
open Go.RowKit Go.Proofs.Ytjfdgijgkbojnaa.PFnExactTableFault Go.Proofs.YtjfdgijgkbojnaaW.PrintWords Go.Proofs.YtjfdgijgkbojnaaW.PrintLast

/-- YOURS: ∀ (a0 : Int), (Lit.int .i64 a0).wf = true → laws_FnExactTableFault.f a0 = some true
What it reaches (each with k first where it has rounds; `.mono`: more rounds tell the same; `.l0`, ..: its loops, with `.mono_l`): spec_l1In.f, spec_l11Table.f, spec_TableFault.f, impl_in.f, impl_TableFault.f, laws_FnExactTableFault.f -/
theorem FnExactTableFault : laws_FnExactTableFault.Pure := by
  intro a0 _
  unfold laws_FnExactTableFault.f spec_TableFault.f spec_l11Table.f spec_l1In.f impl_TableFault.f impl_in.f
  by_cases h : a0 ≥ 0
  · have h' : (0 : Int) ≤ a0 := h
    by_cases h2 : a0 ≤ 15 <;> simp [h', h2]
  · have h' : ¬ (0 : Int) ≤ a0 := h
    simp [h']

end Go.Proofs.Ytjfdgijgkbojnaa.Pure
