import Derived.Test.YtggnjjalfnhiiaaGreatDoorPC13
import Derived.Test.YtggnjjalfnhiiaaGreatDoorTie
import Derived.Test.YtggnjjalfnhiiaaGreatDoorCards
import Derived.Deep.DeepHandedRow
import Derived.LaidMore
import Derived.WalkKit
import Derived.ProofKit
import Derived.OpenShut
import Derived.ShutString
import Derived.ChangeOld
import Derived.Below
import Derived.SizedLaws
import Derived.Lay
import Derived.LaidOnce
import Derived.SevenTiedAt
/- The law FnExactCodeText returns true for every input, and leaves it as it was; its card. -/
set_option linter.unusedSectionVars false
set_option linter.unusedSimpArgs false
set_option linter.unusedVariables false
namespace Go.Proofs.YtggnjjalfnhiiaaGreatDoor.fnExactCodeText
open Go Go.ChangeShapes Go.WideShapes Go.ChangeAt Go.RowKit E
attribute [local instance] lam0
theorem own : ownKnob Tryz.prog.godebug = none := by kernel_rfl
set_option maxRecDepth 100000 in
theorem kids : Kids Tryz.prog (· < Tryz.prog.types.size) := kids_rows (by decide +kernel) (by decide +kernel)
set_option maxRecDepth 100000 in
theorem full : ∀ t e, t < Tryz.prog.types.size → Tryz.prog.underlying t = some (.slice e) → 0 < Tryz.prog.cellsOf e := slices_full_of Tryz.prog (by kernel_rfl)
set_option maxRecDepth 100000 in
theorem flat22 : flatT Tryz.prog 9 22 = true := by decide +kernel
set_option maxRecDepth 100000 in
theorem types : ∀ t, t ∈ [22] → t < Tryz.prog.types.size := by decide +kernel
set_option maxRecDepth 100000 in
theorem lifted (os : Os) (started : os.Started) (H : Type) (enc : TypeId × Value → H) :
    ReturnsInHanded {} Tryz.checked os 3 .any (fun w args => (Rows.fnExactCodeTextSpec.pre enc Tryz.prog Tryz.f3 [] false w args ∧ laidMetH Tryz.prog Rows.fnExactCodeTextRow.laid w) ∧ sizedMet enc Tryz.prog Tryz.f3 (OpenSpec.ofChange Rows.fnExactCodeTextSpec) false w args) (Rows.fnExactCodeTextSpec.post enc Tryz.prog Tryz.f3 false true false false) := by
  have key := returnsInHanded_of_row (a := {}) (enc := enc) (C := Tryz.checked) (os := os) (f := 3) (fn := Tryz.f3) (s := OpenSpec.ofChange Rows.fnExactCodeTextSpec) (F := fun _ _ _ => 0) (conds := []) (apart := false) (fresh := true) (handsOn := false) (again := false) (laid := Rows.fnExactCodeTextRow.laid) own started (by kernel_rfl) Tryz.func3
    (ChangeSpec.witness_shaped (enc := enc) (C := Tryz.checked) (os := os) (X := fun w _ => laidMetH Tryz.prog Rows.fnExactCodeTextRow.laid w) false (World.laidAll Tryz.prog os Rows.fnExactCodeTextRow.laid) #[.slice none 0 0] 8 (World.laidAll_os _ _ _)
      (World.shaped_of_ZipB (by kernel_rfl) (by kernel_rfl)) (by kernel_rfl) (by kernel_rfl) (by kernel_rfl)
      (by rw [MakeChecks.laidMetH_plain _ _ _ (by kernel_rfl)]; exact laidMet_laidAll _ (by kernel_rfl) (by kernel_rfl))) ?_
  · exact key
  intro W base args ds gs before hval0 hW _ _ _ hL hsh _
  have hQ : QP W := QP_of (by rw [MakeChecks.laidMetH_plain _ _ _ (by kernel_rfl)] at hL; exact hL) (.tail _ (.tail _ (.head _)))
  have hval : ∀ (j : Nat) t v, Tryz.f3.params[j]? = some t → args[j]? = some v → Value.okWide Tryz.prog W .any base t v := hval0
  have hW' := hW
  obtain ⟨p, q, hA0, hV, rfl, hfz, hnd⟩ := hW
  have hA : DataW.TrodAll enc Tryz.prog W 0 (fun _ => true) true Tryz.f3.params.toList args.toList ds p := hA0
  rw [Tryz.params3] at hA hval
  have hB := fun W' bel => again_ok (W' := W') kids full types hA bel
  obtain ⟨v0, vs0, d0, ds0, p0, q0, hargs0, rfl, rfl, h0, r0⟩ := trodAll_cons hA
  obtain ⟨rfl, rfl, rfl⟩ := trodAll_nil r0
  obtain rfl : args = #[v0] := by cases args; simp_all
  obtain ⟨rfl, rfl⟩ := trodVars_none hV
  obtain ⟨as0, sh0, vr0⟩ := arg_ok 9 flat22 (hval 0 22 v0 rfl rfl) h0
  obtain ⟨bs0, rfl, hb0⟩ := dec_blks sh0
  rw [wrapA_slice Tryz.underlying22] at vr0
  have hargs := VRs.cons vr0 (VRs.nil _)
  refine (calls_rowQ hQ (c_laws_FnExactCodeText (L := lamQ QP) (K := knowsQ QP) hb0 fun _ => rfl) hargs).mono fun e W' ⟨he, bel⟩ => ?_
  subst he
  exact ⟨_, rfl, _, _, _, [], _, [], hW', trodAll_mk1 (shut_bool Tryz.underlying4 _), hB W' bel, rfl, bel.frame _, fun h => by cases h⟩
theorem over : Rows.fnExactCodeTextRow.holds Tryz.pinned (OpenSpec.ofChange Rows.fnExactCodeTextSpec) :=
  OpenClaim.holds_of_wide 3 Tryz.f3 rfl rfl rfl rfl rfl rfl rfl ⟨rfl, rfl, rfl, rfl, rfl⟩ rfl rfl rfl rfl rfl (by kernel_rfl) Tryz.func3 (by kernel_rfl)
    (of_decide_eq_true (by kernel_rfl)) (by unfold Func.isWrapper; first | (rw [if_pos (by decide +kernel)]; kernel_rfl) | (rw [if_neg (by decide +kernel)]; exact ⟨rfl, rfl⟩))
    (fun os started H enc _ => lifted os started H enc)
set_option maxRecDepth 100000 in
theorem proved : Rows.FnExactCodeTextCardSaid :=
  Claim7.holds_tied_plain_at .later [] [.data, .data, .data, .data, .pinned] true (true, "effbb775964c6bf323c6d74345627405754492cfbbb4f38cff71fa05ec2cd067") true over (fun _ h => by cases h) (by kernel_rfl) (fun _ h => by cases h) fnExactCodeText_row_tie rfl ⟨rfl, rfl⟩ (by kernel_rfl) rfl
    (fun f fn hf hfn => by
      obtain rfl : f = 3 := Option.some.inj ((show Tryz.prog.funcNamed "loop.example/g00349/laws.FnExactCodeText" = some 3 by kernel_rfl).symm.trans hf) |>.symm
      obtain rfl : fn = Tryz.f3 := (Option.some.inj (Tryz.func3.symm.trans hfn)).symm
      exact ⟨by kernel_rfl, fun j t ht => by
        rw [Tryz.params3] at ht
        have hm : t ∈ [22] := by simpa using Array.mem_of_getElem? ht
        have hall : ([22].all fun u => !Tryz.prog.wantsStandIn u) = true := by kernel_rfl
        exact (show Tryz.prog.wantsStandIn t = false by simpa using List.all_eq_true.1 hall t hm)⟩)
    (by kernel_rfl)
#print axioms proved
end Go.Proofs.YtggnjjalfnhiiaaGreatDoor.fnExactCodeText
namespace Go.Proofs.YtggnjjalfnhiiaaGreatDoor
/-- The card, under a short name, for the claim. -/
theorem fnExactCodeTextCard_holds : Rows.FnExactCodeTextCardSaid := fnExactCodeText.proved
end Go.Proofs.YtggnjjalfnhiiaaGreatDoor
