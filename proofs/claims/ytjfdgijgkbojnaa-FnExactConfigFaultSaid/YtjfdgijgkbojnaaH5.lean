/- The law FnExactConfigFault returns true for every input, and leaves it as it was. -/
import Derived.Test.YtjfdgijgkbojnaaRows
import Derived.Test.YtjfdgijgkbojnaaH1
import Derived.WalkKit
import Derived.ProofKit
import Derived.OpenShut
import Derived.ShutString
import Derived.ChangeOld
import Derived.Below
import Derived.SizedLaws
namespace Go.Proofs.Ytjfdgijgkbojnaa.fnExactConfigFault
open Go.ChangeShapes Go.WideShapes Go.ChangeAt Go.RowKit E
set_option linter.unusedVariables false
theorem own : ownKnob Try.prog.godebug = none := by kernel_rfl
theorem cells4 : Try.prog.cellsOf 25 = 4 ∧ Try.prog.cellsOf 2 = 1 ∧ Try.prog.cellsOf 4 = 1 := by decide +kernel
set_option maxRecDepth 100000 in
theorem shape {H : Type} {enc : TypeId × Value → H} {W : World} {v : Value} {d : DataW H} {p : List MemPlace} {base : Nat} {sp : Nat → Bool} {hd : Bool} (h : DataW.Trod enc Try.prog W base sp hd 25 v d p) :
    ∃ a b c e, v = .agg #[.int .i64 a, .int .i64 b, .bool c, .bool e] ∧ ∀ (W' : World) (base' : Nat) (sp' : Nat → Bool) (hd' : Bool), DataW.Trod enc Try.prog W' base' sp' hd' 25 v d p := by
  obtain ⟨fuel, hf⟩ := h
  obtain ⟨xs, n, _, hdp, hl, hlen, hg⟩ := DataW.trod_struct Try.underlying25 hf
  rw [cells4.1] at hl
  match xs, hlen with
  | [x0, x1, x2, x3], _ =>
  have g0 : DataW.trod enc Try.prog W base sp hd n 2 ((v.cells.toList.drop 0).take (Try.prog.cellsOf 2)) = some x0 := hg 0 _ rfl
  have g1 : DataW.trod enc Try.prog W base sp hd n 2 ((v.cells.toList.drop 1).take (Try.prog.cellsOf 2)) = some x1 := hg 1 _ rfl
  have g2 : DataW.trod enc Try.prog W base sp hd n 4 ((v.cells.toList.drop 2).take (Try.prog.cellsOf 4)) = some x2 := hg 2 _ rfl
  have g3 : DataW.trod enc Try.prog W base sp hd n 4 ((v.cells.toList.drop 3).take (Try.prog.cellsOf 4)) = some x3 := hg 3 _ rfl
  rw [cells4.2.1] at g0 g1
  rw [cells4.2.2] at g2 g3
  obtain ⟨a, q0, rfl, w0⟩ := DataW.trod_int Try.underlying2 g0
  obtain ⟨b, q1, rfl, w1⟩ := DataW.trod_int Try.underlying2 g1
  obtain ⟨c, q2, rfl⟩ := DataW.trod_bool Try.underlying4 g2
  obtain ⟨e, q3, rfl⟩ := DataW.trod_bool Try.underlying4 g3
  have hv : v = .agg #[.int .i64 a, .int .i64 b, .bool c, .bool e] := by
    cases v with
    | agg cs =>
      obtain ⟨l⟩ := cs
      simp [Value.cells] at hl q0 q1 q2 q3
      match l, hl with
      | [y0, y1, y2, y3], _ => simp at q0 q1 q2 q3; simp [q0, q1, q2, q3]
    | _ => simp [Value.cells] at hl
  refine ⟨a, b, c, e, hv, fun W' base' sp' hd' => ⟨2, ?_⟩⟩
  rw [hdp, hv]
  refine trod_struct_mk Try.underlying25 (by rw [cells4.1]; rfl) ?_
  have i : ∀ n : Int, (Lit.int .i64 n).wf = true → DataW.trod enc Try.prog W' base' sp' hd' 1 2 [.int .i64 n] = some (.lit (.int .i64 n), []) := fun n hw => trod_int_mk 0 Try.underlying2 hw
  have j : ∀ b : Bool, DataW.trod enc Try.prog W' base' sp' hd' 1 4 [.bool b] = some (.lit (.bool b), []) := fun b => by simp [DataW.trod, Try.underlying4]
  simp [Value.cells, cells4.2.1, cells4.2.2, i a w0, i b w1, j]
set_option maxRecDepth 100000 in
theorem lifted (os : Os) (started : os.Started) (H : Type) (enc : TypeId × Value → H) :
    ReturnsInHanded {} Try.checked os 4 .any (Rows.fnExactConfigFaultSpec.pre6 enc Try.prog Try.f4 Rows.fnExactConfigFaultRow.domain false) (Rows.fnExactConfigFaultSpec.post enc Try.prog Try.f4 false true false false) := by
  refine returnsInHanded_of_change_sized (C := Try.checked) own started (by kernel_rfl) Try.func4
    (ChangeSpec.witness6 (enc := enc) (C := Try.checked) false ⟨#[], #[.agg #[.int .i64 0, .int .i64 0, .bool false, .bool false]], []⟩ 8 (by kernel_rfl) (by kernel_rfl) (by kernel_rfl) (by kernel_rfl)) ?_
  intro W base args ds gs before hval0 hW hcnd hsz0 _
  have hW' := hW
  obtain ⟨p, q, hA0, hV, rfl, hfz, hnd⟩ := hW
  have hA : DataW.TrodAll enc Try.prog W 0 (fun _ => true) true Try.f4.params.toList args.toList ds p := hA0
  rw [Try.params4] at hA
  obtain ⟨v0, vs0, d0, ds0, p0, q0, hargs, rfl, rfl, h0, r0⟩ := trodAll_cons hA
  obtain ⟨rfl, rfl, rfl⟩ := trodAll_nil r0
  obtain rfl : args = #[v0] := by cases args; simp_all
  obtain ⟨rfl, rfl⟩ := trodVars_none hV
  obtain ⟨a, b, c, e, rfl, hagain⟩ := shape h0
  have hargs : VRs (kap0 W) [.agg [iv a, iv b, bv c, bv e]] [.agg #[.int .i64 a, .int .i64 b, .bool c, .bool e]] := by
    have h4 : VRs (kap0 W) [iv a, iv b, bv c, bv e] [.int .i64 a, .int .i64 b, .bool c, .bool e] := .cons (.val _) (.cons (.val _) (.cons (.val _) (.cons (.val _) (.nil _))))
    exact .cons (.agg h4.1 h4.2) (.nil _)
  refine (calls_row (c_laws_FnExactConfigFault rfl) hargs).mono fun e W' ⟨he, bel⟩ => ?_
  subst he
  exact ⟨_, rfl, _, _, _, [], _, [], hW', trodAll_mk1 (shut_bool Try.underlying4 _), (trodAll_cons_mk (hagain ..) trodAll_mk0), rfl, bel.frame _, fun h => by cases h⟩
theorem over : Rows.fnExactConfigFaultRow.holds Try.pinned (OpenSpec.ofChange Rows.fnExactConfigFaultSpec) :=
  OpenClaim.holds_of_wide 4 Try.f4 rfl rfl rfl rfl rfl rfl rfl ⟨rfl, rfl, rfl, rfl, rfl⟩ rfl rfl rfl rfl rfl (by kernel_rfl) Try.func4 (by kernel_rfl)
    (of_decide_eq_true (by kernel_rfl)) (by unfold Func.isWrapper; first | (rw [if_pos (by decide +kernel)]; kernel_rfl) | (rw [if_neg (by decide +kernel)]; exact ⟨rfl, rfl⟩))
    (fun os started H enc _ => lifted os started H enc)
theorem proved : Rows.FnExactConfigFaultSaid := over
#print axioms proved
end Go.Proofs.Ytjfdgijgkbojnaa.fnExactConfigFault
namespace Go.Proofs.Ytjfdgijgkbojnaa
/-- The row, under a short name, for the claim. -/
theorem fnExactConfigFault_holds : Rows.FnExactConfigFaultSaid := fnExactConfigFault.proved
end Go.Proofs.Ytjfdgijgkbojnaa
