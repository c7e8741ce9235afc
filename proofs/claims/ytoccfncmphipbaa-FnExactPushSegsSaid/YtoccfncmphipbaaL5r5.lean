/- The law FnExactPushSegs returns true for every input, and leaves it as it was. -/
import Derived.Test.YtoccfncmphipbaaRows
import Derived.Test.YtoccfncmphipbaaHC5
import Derived.WalkKit
import Derived.ProofKit
import Derived.OpenShut
import Derived.ShutString
import Derived.ChangeOld
import Derived.Below
import Derived.SizedLaws
set_option linter.unusedSectionVars false
set_option linter.unusedSimpArgs false
set_option linter.unusedVariables false
namespace Go.Proofs.Ytoccfncmphipbaa.fnExactPushSegs
open Go.ChangeShapes Go.WideShapes Go.ChangeAt Go.RowKit E
attribute [local instance] lam0
theorem own : ownKnob Try.prog.godebug = none := by kernel_rfl
set_option maxRecDepth 100000 in
theorem kids : Kids Try.prog (· < Try.prog.types.size) := kids_rows (by decide +kernel) (by decide +kernel)
set_option maxRecDepth 100000 in
theorem full : ∀ t e, t < Try.prog.types.size → Try.prog.underlying t = some (.slice e) → 0 < Try.prog.cellsOf e := slices_full_of Try.prog (by kernel_rfl)
set_option maxRecDepth 100000 in
theorem flat2 : flatT Try.prog 9 2 = true := by decide +kernel
set_option maxRecDepth 100000 in
theorem flat24 : flatT Try.prog 9 24 = true := by decide +kernel
set_option maxRecDepth 100000 in
theorem types : ∀ t, t ∈ [24, 2] → t < Try.prog.types.size := by decide +kernel
set_option maxRecDepth 100000 in
theorem lifted (os : Os) (started : os.Started) (H : Type) (enc : TypeId × Value → H) :
    ReturnsInHanded {} Try.checked os 5 .any (Rows.fnExactPushSegsSpec.pre6 enc Try.prog Try.f5 Rows.fnExactPushSegsRow.domain false) (Rows.fnExactPushSegsSpec.post enc Try.prog Try.f5 false true false false) := by
  refine returnsInHanded_of_change_sized (C := Try.checked) own started (by kernel_rfl) Try.func5
    (ChangeSpec.witness6 (enc := enc) (C := Try.checked) false ⟨#[], #[.agg #[.int .i64 0, .slice none 0 0], .int .i64 0], []⟩ 8 (by kernel_rfl) (by kernel_rfl) (by kernel_rfl) (by kernel_rfl)) ?_
  intro W base args ds gs before hval0 hW hcnd hsz0 _
  have hval : ∀ (j : Nat) t v, Try.f5.params[j]? = some t → args[j]? = some v → Value.okWide Try.prog W .any base t v := hval0
  have hW' := hW
  obtain ⟨p, q, hA0, hV, rfl, hfz, hnd⟩ := hW
  have hA : DataW.TrodAll enc Try.prog W 0 (fun _ => true) true Try.f5.params.toList args.toList ds p := hA0
  rw [Try.params5] at hA hval
  have hB := fun W' bel => again_ok (W' := W') kids full types hA bel
  obtain ⟨v0, vs0, d0, ds0, p0, q0, hargs0, rfl, rfl, h0, r0⟩ := trodAll_cons hA
  obtain ⟨v1, vs1, d1, ds1, p1, q1, hargs1, rfl, rfl, h1, r1⟩ := trodAll_cons r0
  obtain ⟨rfl, rfl, rfl⟩ := trodAll_nil r1
  obtain rfl : args = #[v0, v1] := by cases args; simp_all
  obtain ⟨rfl, rfl⟩ := trodVars_none hV
  obtain ⟨as0, sh0, vr0⟩ := arg_ok 9 flat24 (hval 0 24 v0 rfl rfl) h0
  obtain ⟨n0, ps0, rfl, w0, hl0, hm0⟩ := dec_segs Try.underlying24 (by decide +kernel) rfl rfl (by decide +kernel) (by decide +kernel) Try.underlying2 Try.underlying22 Try.underlying55 (by decide +kernel) rfl (by decide +kernel) Try.underlying44 Try.underlying2 sh0
  rw [wrapA_struct Try.underlying24] at vr0
  obtain ⟨as1, sh1, vr1⟩ := arg_ok 9 flat2 (hval 1 2 v1 rfl rfl) h1
  obtain ⟨n1, rfl, w1⟩ := dec_int Try.underlying2 sh1
  rw [wrapA_int Try.underlying2] at vr1
  have hargs := VRs.cons vr0 (VRs.cons vr1 (VRs.nil _))
  refine (calls_row (c_laws_FnExactPushSegs hl0 hm0 rfl) hargs).mono fun e W' ⟨he, bel⟩ => ?_
  subst he
  exact ⟨_, rfl, _, _, _, [], _, [], hW', trodAll_mk1 (shut_bool Try.underlying4 _), hB W' bel, rfl, bel.frame _, fun h => by cases h⟩
theorem over : Rows.fnExactPushSegsRow.holds Try.pinned (OpenSpec.ofChange Rows.fnExactPushSegsSpec) :=
  OpenClaim.holds_of_wide 5 Try.f5 rfl rfl rfl rfl rfl rfl rfl ⟨rfl, rfl, rfl, rfl, rfl⟩ rfl rfl rfl rfl rfl (by kernel_rfl) Try.func5 (by kernel_rfl)
    (of_decide_eq_true (by kernel_rfl)) (by unfold Func.isWrapper; first | (rw [if_pos (by decide +kernel)]; kernel_rfl) | (rw [if_neg (by decide +kernel)]; exact ⟨rfl, rfl⟩))
    (fun os started H enc _ => lifted os started H enc)
theorem proved : Rows.FnExactPushSegsSaid := over
#print axioms proved
end Go.Proofs.Ytoccfncmphipbaa.fnExactPushSegs
namespace Go.Proofs.Ytoccfncmphipbaa
/-- The row, under a short name, for the claim. -/
theorem fnExactPushSegs_holds : Rows.FnExactPushSegsSaid := fnExactPushSegs.proved
end Go.Proofs.Ytoccfncmphipbaa
