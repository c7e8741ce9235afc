/- The law FnAparts returns true for every input, and leaves it as it was. -/
import Derived.Test.YtnmggfcjbpnekaaRows
import Derived.Test.YtnmggfcjbpnekaaA4
import Derived.WalkKit
import Derived.ProofKit
import Derived.OpenShut
import Derived.ShutString
import Derived.ChangeOld
import Derived.Below
import Derived.SizedLaws
set_option linter.unusedSectionVars false
set_option linter.unusedSimpArgs false
set_option linter.unusedVariables false
namespace Go.Proofs.Ytnmggfcjbpnekaa.fnAparts
open Go.ChangeShapes Go.WideShapes Go.ChangeAt Go.RowKit E
attribute [local instance] lam0
theorem own : ownKnob Try.prog.godebug = none := by kernel_rfl
set_option maxRecDepth 100000 in
theorem kids : Kids Try.prog (· < Try.prog.types.size) := kids_rows (by decide +kernel) (by decide +kernel)
set_option maxRecDepth 100000 in
theorem full : ∀ t e, t < Try.prog.types.size → Try.prog.underlying t = some (.slice e) → 0 < Try.prog.cellsOf e := slices_full_of Try.prog (by kernel_rfl)
set_option maxRecDepth 100000 in
theorem flat22 : flatT Try.prog 9 22 = true := by decide +kernel
set_option maxRecDepth 100000 in
theorem types : ∀ t, t ∈ [22] → t < Try.prog.types.size := by decide +kernel
set_option maxRecDepth 100000 in
theorem lifted (os : Os) (started : os.Started) (H : Type) (enc : TypeId × Value → H) :
    ReturnsInHanded {} Try.checked os 3 .any (Rows.fnApartsSpec.pre6 enc Try.prog Try.f3 Rows.fnApartsRow.domain false) (Rows.fnApartsSpec.post enc Try.prog Try.f3 false true false false) := by
  refine returnsInHanded_of_change_sized (C := Try.checked) own started (by kernel_rfl) Try.func3
    (ChangeSpec.witness6 (enc := enc) (C := Try.checked) false ⟨#[], #[.slice none 0 0], []⟩ 8 (by kernel_rfl) (by kernel_rfl) (by kernel_rfl) (by kernel_rfl)) ?_
  intro W base args ds gs before hval0 hW hcnd hsz0 _
  have hval : ∀ (j : Nat) t v, Try.f3.params[j]? = some t → args[j]? = some v → Value.okWide Try.prog W .any base t v := hval0
  have hW' := hW
  obtain ⟨p, q, hA0, hV, rfl, hfz, hnd⟩ := hW
  have hA : DataW.TrodAll enc Try.prog W 0 (fun _ => true) true Try.f3.params.toList args.toList ds p := hA0
  rw [Try.params3] at hA hval
  have hB := fun W' bel => again_ok (W' := W') kids full types hA bel
  obtain ⟨v0, vs0, d0, ds0, p0, q0, hargs0, rfl, rfl, h0, r0⟩ := trodAll_cons hA
  obtain ⟨rfl, rfl, rfl⟩ := trodAll_nil r0
  obtain rfl : args = #[v0] := by cases args; simp_all
  obtain ⟨rfl, rfl⟩ := trodVars_none hV
  obtain ⟨as0, sh0, vr0⟩ := arg_ok 9 flat22 (hval 0 22 v0 rfl rfl) h0
  obtain ⟨x0, rfl, -, hx0⟩ := dec_ints Try.underlying22 Try.underlying5 sh0
  rw [wrapA_slice Try.underlying22] at vr0
  have hargs := VRs.cons vr0 (VRs.nil _)
  refine (calls_row (c_laws_FnAparts (fun x hx => by have := hx0 x hx; simpa [Lit.wf, IntKind.min, IntKind.max, IntKind.signed, IntKind.bits] using this) rfl) hargs).mono fun e W' ⟨he, bel⟩ => ?_
  subst he
  exact ⟨_, rfl, _, _, _, [], _, [], hW', trodAll_mk1 (shut_bool Try.underlying4 _), hB W' bel, rfl, bel.frame _, fun h => by cases h⟩
theorem over : Rows.fnApartsRow.holds Try.pinned (OpenSpec.ofChange Rows.fnApartsSpec) :=
  OpenClaim.holds_of_wide 3 Try.f3 rfl rfl rfl rfl rfl rfl rfl ⟨rfl, rfl, rfl, rfl, rfl⟩ rfl rfl rfl rfl rfl (by kernel_rfl) Try.func3 (by kernel_rfl)
    (of_decide_eq_true (by kernel_rfl)) (by unfold Func.isWrapper; first | (rw [if_pos (by decide +kernel)]; kernel_rfl) | (rw [if_neg (by decide +kernel)]; exact ⟨rfl, rfl⟩))
    (fun os started H enc _ => lifted os started H enc)
theorem proved : Rows.FnApartsSaid := over
#print axioms proved
end Go.Proofs.Ytnmggfcjbpnekaa.fnAparts
namespace Go.Proofs.Ytnmggfcjbpnekaa
/-- The row, under a short name, for the claim. -/
theorem fnAparts_holds : Rows.FnApartsSaid := fnAparts.proved
end Go.Proofs.Ytnmggfcjbpnekaa
