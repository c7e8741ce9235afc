/- The law FnResizes returns true for every input, and leaves it as it was. -/
import Derived.Test.YtjfdgijgkbojnaaRows
import Derived.Test.YtjfdgijgkbojnaaHMb
import Derived.WalkKit
import Derived.ProofKit
import Derived.OpenShut
import Derived.ShutString
import Derived.ChangeOld
import Derived.Below
import Derived.SizedLaws
set_option linter.unusedSectionVars false
set_option linter.unusedSimpArgs false
set_option linter.unusedVariables false
namespace Go.Proofs.Ytjfdgijgkbojnaa.fnResizes
open Go.ChangeShapes Go.WideShapes Go.ChangeAt Go.RowKit E
attribute [local instance] lam0
theorem own : ownKnob Try.prog.godebug = none := by kernel_rfl
set_option maxRecDepth 100000 in
theorem kids : Kids Try.prog (· < Try.prog.types.size) := kids_rows (by decide +kernel) (by decide +kernel)
set_option maxRecDepth 100000 in
theorem full : ∀ t e, t < Try.prog.types.size → Try.prog.underlying t = some (.slice e) → 0 < Try.prog.cellsOf e := slices_full_of Try.prog (by kernel_rfl)
set_option maxRecDepth 100000 in
theorem flat51 : flatT Try.prog 9 51 = true := by decide +kernel
set_option maxRecDepth 100000 in
theorem types : ∀ t, t ∈ [51] → t < Try.prog.types.size := by decide +kernel
set_option maxRecDepth 100000 in
theorem lifted (os : Os) (started : os.Started) (H : Type) (enc : TypeId × Value → H) :
    ReturnsInHanded {} Try.checked os 12 .any (Rows.fnResizesSpec.pre6 enc Try.prog Try.f12 Rows.fnResizesRow.domain false) (Rows.fnResizesSpec.post enc Try.prog Try.f12 false true false false) := by
  refine returnsInHanded_of_change_sized (C := Try.checked) own started (by kernel_rfl) Try.func12
    (ChangeSpec.witness6 (enc := enc) (C := Try.checked) false ⟨#[], #[.slice none 0 0], []⟩ 8 (by kernel_rfl) (by kernel_rfl) (by kernel_rfl) (by kernel_rfl)) ?_
  intro W base args ds gs before hval0 hW hcnd hsz0 _
  have hval : ∀ (j : Nat) t v, Try.f12.params[j]? = some t → args[j]? = some v → Value.okWide Try.prog W .any base t v := hval0
  have hW' := hW
  obtain ⟨p, q, hA0, hV, rfl, hfz, hnd⟩ := hW
  have hA : DataW.TrodAll enc Try.prog W 0 (fun _ => true) true Try.f12.params.toList args.toList ds p := hA0
  rw [Try.params12] at hA hval
  have hB := fun W' bel => again_ok (W' := W') kids full types hA bel
  obtain ⟨v0, vs0, d0, ds0, p0, q0, hargs0, rfl, rfl, h0, r0⟩ := trodAll_cons hA
  obtain ⟨rfl, rfl, rfl⟩ := trodAll_nil r0
  obtain rfl : args = #[v0] := by cases args; simp_all
  obtain ⟨rfl, rfl⟩ := trodVars_none hV
  obtain ⟨as0, sh0, vr0⟩ := arg_ok 9 flat51 (hval 0 51 v0 rfl rfl) h0
  obtain ⟨ns0, rfl, hl0, hm0⟩ := dec_ints Try.underlying51 Try.underlying5 sh0
  rw [wrapA_slice Try.underlying51] at vr0
  have hargs := VRs.cons vr0 (VRs.nil _)
  refine (calls_row (c_laws_FnResizes (fun x hx => u8_wf (hm0 x hx)) rfl) hargs).mono fun e W' ⟨he, bel⟩ => ?_
  subst he
  exact ⟨_, rfl, _, _, _, [], _, [], hW', trodAll_mk1 (shut_bool Try.underlying4 _), hB W' bel, rfl, bel.frame _, fun h => by cases h⟩
theorem over : Rows.fnResizesRow.holds Try.pinned (OpenSpec.ofChange Rows.fnResizesSpec) :=
  OpenClaim.holds_of_wide 12 Try.f12 rfl rfl rfl rfl rfl rfl rfl ⟨rfl, rfl, rfl, rfl, rfl⟩ rfl rfl rfl rfl rfl (by kernel_rfl) Try.func12 (by kernel_rfl)
    (of_decide_eq_true (by kernel_rfl)) (by unfold Func.isWrapper; first | (rw [if_pos (by decide +kernel)]; kernel_rfl) | (rw [if_neg (by decide +kernel)]; exact ⟨rfl, rfl⟩))
    (fun os started H enc _ => lifted os started H enc)
theorem proved : Rows.FnResizesSaid := over
#print axioms proved
end Go.Proofs.Ytjfdgijgkbojnaa.fnResizes
namespace Go.Proofs.Ytjfdgijgkbojnaa
/-- The row, under a short name, for the claim. -/
theorem fnResizes_holds : Rows.FnResizesSaid := fnResizes.proved
end Go.Proofs.Ytjfdgijgkbojnaa
