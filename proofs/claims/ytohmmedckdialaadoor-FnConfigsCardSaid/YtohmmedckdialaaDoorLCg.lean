/- The law FnConfigs returns true for every input, and leaves it as it was; its card. -/
import Derived.Test.YtohmmedckdialaaDoorTie
import Derived.Test.YtohmmedckdialaaDoorCards
import Derived.Test.YtohmmedckdialaaDoorK1
import Derived.Test.YtohmmedckdialaaDoorF3
import Derived.Deep.DeepHandedRow
import Derived.LaidMore
import Derived.WalkKit
import Derived.ProofKit
import Derived.OpenShut
import Derived.ShutString
import Derived.ChangeOld
import Derived.Below
import Derived.SizedLaws
import Derived.Lay
import Derived.LaidOnce
import Derived.SevenTiedAt
set_option linter.unusedSectionVars false
set_option linter.unusedSimpArgs false
set_option linter.unusedVariables false
namespace Go.Proofs.YtohmmedckdialaaDoor.fnConfigs
open Go Go.ChangeShapes Go.WideShapes Go.ChangeAt Go.RowKit E
attribute [local instance] lam0
theorem own : ownKnob Tryd.prog.godebug = none := by kernel_rfl
set_option maxRecDepth 100000 in
theorem kids : Kids Tryd.prog (· < Tryd.prog.types.size) := kids_rows (by decide +kernel) (by decide +kernel)
set_option maxRecDepth 100000 in
theorem full : ∀ t e, t < Tryd.prog.types.size → Tryd.prog.underlying t = some (.slice e) → 0 < Tryd.prog.cellsOf e := slices_full_of Tryd.prog (by kernel_rfl)
set_option maxRecDepth 100000 in
theorem flat35 : flatT Tryd.prog 9 35 = true := by decide +kernel
set_option maxRecDepth 100000 in
theorem types : ∀ t, t ∈ [35] → t < Tryd.prog.types.size := by decide +kernel
set_option maxRecDepth 100000 in
theorem lifted (os : Os) (started : os.Started) (H : Type) (enc : TypeId × Value → H) :
    ReturnsInHanded {} Tryd.checked os 5 .any (fun w args => (Rows.fnConfigsSpec.pre enc Tryd.prog Tryd.f5 [] false w args ∧ laidMetH Tryd.prog Rows.fnConfigsRow.laid w) ∧ sizedMet enc Tryd.prog Tryd.f5 (OpenSpec.ofChange Rows.fnConfigsSpec) false w args) (Rows.fnConfigsSpec.post enc Tryd.prog Tryd.f5 false true false false) := by
  have key := returnsInHanded_of_row (a := {}) (enc := enc) (C := Tryd.checked) (os := os) (f := 5) (fn := Tryd.f5) (s := OpenSpec.ofChange Rows.fnConfigsSpec) (F := fun _ _ _ => 0) (conds := []) (apart := false) (fresh := true) (handsOn := false) (again := false) (laid := Rows.fnConfigsRow.laid) own started (by kernel_rfl) Tryd.func5
    (ChangeSpec.witness_shaped (enc := enc) (C := Tryd.checked) (os := os) (X := fun w _ => laidMetH Tryd.prog Rows.fnConfigsRow.laid w) false (World.laidAll Tryd.prog os Rows.fnConfigsRow.laid) #[.slice none 0 0] 8 (World.laidAll_os _ _ _)
      (World.shaped_of_ZipB (by kernel_rfl) (by kernel_rfl)) (by kernel_rfl) (by kernel_rfl) (by kernel_rfl)
      (by rw [MakeChecks.laidMetH_plain _ _ _ (by kernel_rfl)]; exact laidMet_laidAll _ (by kernel_rfl) (by kernel_rfl))) ?_
  · exact key
  intro W base args ds gs before hval0 hW _ _ _ hL hsh _
  have hQ : QS W := QS_of (by rw [MakeChecks.laidMetH_plain _ _ _ (by kernel_rfl)] at hL; exact hL) (.tail _ (.tail _ (.head _))) (.tail _ (.tail _ (.tail _ (.tail _ (.tail _ (.head _)))))) (.tail _ (.tail _ (.tail _ (.tail _ (.head _))))) hsh
  have hval : ∀ (j : Nat) t v, Tryd.f5.params[j]? = some t → args[j]? = some v → Value.okWide Tryd.prog W .any base t v := hval0
  have hW' := hW
  obtain ⟨p, q, hA0, hV, rfl, hfz, hnd⟩ := hW
  have hA : DataW.TrodAll enc Tryd.prog W 0 (fun _ => true) true Tryd.f5.params.toList args.toList ds p := hA0
  rw [Tryd.params5] at hA hval
  have hB := fun W' bel => again_ok (W' := W') kids full types hA bel
  obtain ⟨v0, vs0, d0, ds0, p0, q0, hargs0, rfl, rfl, h0, r0⟩ := trodAll_cons hA
  obtain ⟨rfl, rfl, rfl⟩ := trodAll_nil r0
  obtain rfl : args = #[v0] := by cases args; simp_all
  obtain ⟨rfl, rfl⟩ := trodVars_none hV
  obtain ⟨as0, sh0, vr0⟩ := arg_ok 9 flat35 (hval 0 35 v0 rfl rfl) h0
  obtain ⟨x0, rfl, -, hx0⟩ := dec_ints Tryd.underlying35 Tryd.underlying5 sh0
  rw [wrapA_slice Tryd.underlying35] at vr0
  have hargs := VRs.cons vr0 (VRs.nil _)
  refine (calls_rowQ hQ (c_laws_FnConfigs (L := lamQ QS) (K := knowsQ QS) (fun x hx => by have := hx0 x hx; simpa [Lit.wf, IntKind.min, IntKind.max, IntKind.signed, IntKind.bits] using this) rfl) hargs).mono fun e W' ⟨he, bel⟩ => ?_
  subst he
  exact ⟨_, rfl, _, _, _, [], _, [], hW', trodAll_mk1 (shut_bool Tryd.underlying4 _), hB W' bel, rfl, bel.frame _, fun h => by cases h⟩
theorem over : Rows.fnConfigsRow.holds Tryd.pinned (OpenSpec.ofChange Rows.fnConfigsSpec) :=
  OpenClaim.holds_of_wide 5 Tryd.f5 rfl rfl rfl rfl rfl rfl rfl ⟨rfl, rfl, rfl, rfl, rfl⟩ rfl rfl rfl rfl rfl (by kernel_rfl) Tryd.func5 (by kernel_rfl)
    (of_decide_eq_true (by kernel_rfl)) (by unfold Func.isWrapper; first | (rw [if_pos (by decide +kernel)]; kernel_rfl) | (rw [if_neg (by decide +kernel)]; exact ⟨rfl, rfl⟩))
    (fun os started H enc _ => lifted os started H enc)
set_option maxRecDepth 100000 in
theorem proved : Rows.FnConfigsCardSaid :=
  Claim7.holds_tied_plain_at .later [] [.data, .data, .data, .data, .sentinel, .sentinel, .pinned] true (true, "ef50ffe38e4e391e01cda6a1c035e5661079c06901ef1e5304cc0af312b6130f") true over (fun _ h => by cases h) (by kernel_rfl) (fun _ h => by cases h) fnConfigs_row_tie rfl ⟨rfl, rfl⟩ (by kernel_rfl) rfl
    (fun f fn hf hfn => by
      obtain rfl : f = 5 := Option.some.inj ((show Tryd.prog.funcNamed "loop.example/g00349/laws.FnConfigs" = some 5 by kernel_rfl).symm.trans hf) |>.symm
      obtain rfl : fn = Tryd.f5 := (Option.some.inj (Tryd.func5.symm.trans hfn)).symm
      exact ⟨by kernel_rfl, fun j t ht => by
        rw [Tryd.params5] at ht
        have hm : t ∈ [35] := by simpa using Array.mem_of_getElem? ht
        have hall : ([35].all fun u => !Tryd.prog.wantsStandIn u) = true := by kernel_rfl
        exact (show Tryd.prog.wantsStandIn t = false by simpa using List.all_eq_true.1 hall t hm)⟩)
    (by kernel_rfl)
#print axioms proved
end Go.Proofs.YtohmmedckdialaaDoor.fnConfigs
namespace Go.Proofs.YtohmmedckdialaaDoor
/-- The card, under a short name, for the claim. -/
theorem fnConfigsCard_holds : Rows.FnConfigsCardSaid := fnConfigs.proved
end Go.Proofs.YtohmmedckdialaaDoor
