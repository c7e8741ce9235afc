/- strings.HasPrefix, Cut and TrimLeft as calls in abstract values. -/
import Derived.Test.YtohmmedckdialaaDoorN3
import Derived.Test.YtohmmedckdialaaDoorSC
import Derived.Test.YtohmmedckdialaaDoorC6
set_option linter.unusedSectionVars false
set_option linter.unusedSimpArgs false
set_option linter.unusedVariables false
namespace Go.Proofs.YtohmmedckdialaaDoor.E
open Go Go.RowKit
set_option maxRecDepth 100000
variable [L : Lam] [K : Knows QS]
variable {σ : AH} {R : AEnd → AH → Prop}
theorem c_strings_HasPrefix {l p : List UInt8} (h : R (.ret (bv (Lib.hasPrefix l p))) σ) : acall TP fn_strings_HasPrefix [str (bs l), str (bs p)] σ R := by
  refine acall_val (fn := _) Tryd.func51 rfl (by decide) vals_two h fun κ w hr => (sh_strings_HasPrefix (bs l) (bs p) w).mono ?_
  rintro e w' ⟨rfl, rfl⟩
  exact ⟨by simp, .refl _ _⟩
theorem c_strings_TrimLeft {l : List UInt8} {c : UInt8} (hc : c.toNat < 128) (h : R (.ret (str (bs (Lib.trimLeftB l c)))) σ) : acall TP fn_strings_TrimLeft [str (bs l), str ⟨#[c]⟩] σ R := by
  refine acall_val (fn := _) Tryd.func53 rfl (by decide) vals_two h fun κ w hr => (sh_strings_TrimLeft_one (bs l) c hc w).mono ?_
  rintro e w' ⟨rfl, rfl⟩
  exact ⟨by simp, .refl _ _⟩
theorem below_drewN (w : World) (n : Nat) : Below w.heap.size w (w.drewN n) := ⟨rfl, rfl, rfl, Nat.le_refl _, fun _ _ => rfl⟩
theorem c_strings_Cut {l p : List UInt8} (hl : l.length ≤ 1048576) (h : R (.ret (.tup [str (bs (Lib.cut l p).1), str (bs (Lib.cut l p).2.1), bv (Lib.cut l p).2.2])) σ) : acall TP fn_strings_Cut [str (bs l), str (bs p)] σ R := by
  refine acall_valA (fn := _) (v := .tuple #[.string (bs (Lib.cut l p).1), .string (bs (Lib.cut l p).2.1), .bool (Lib.cut l p).2.2]) Tryd.func52 rfl (by decide) vals_two (fun κ => ?_) h fun κ w hr => ?_
  · show VR κ (.tup _) (.tuple [Value.string (bs (Lib.cut l p).1), .string (bs (Lib.cut l p).2.1), .bool (Lib.cut l p).2.2].toArray)
    refine .tup rfl fun i hi => ?_
    match i, hi with
    | 0, _ => exact .val _
    | 1, _ => exact .val _
    | 2, _ => exact .val _
  · obtain ⟨m, hm⟩ := (QS_at hr).2
    refine (sh_strings_Cut (bs l) (bs p) m w (by rw [size_bs]; omega) hm).mono ?_
    rintro e w' ⟨rfl, n, rfl⟩
    exact ⟨by simp, below_drewN w n⟩
end Go.Proofs.YtohmmedckdialaaDoor.E
