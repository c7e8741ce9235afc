/- The library's slices.Sort and slices.Compact at this program: their own texts are the library's; their contracts in abstract values. -/
import Derived.Test.YtinhodpfgjddmaaGreatDoorPT
import Derived.Test.YtinhodpfgjddmaaGreatDoorGZ0
set_option linter.unusedSectionVars false
set_option linter.unusedSimpArgs false
set_option linter.unusedVariables false
namespace Go.Proofs.YtinhodpfgjddmaaGreatDoor.E
open Go Go.RowKit Go.Proofs.Tryz
set_option maxRecDepth 100000
def laysSort_ren : Go.Shelf.Ren := ⟨fun | 5 => 94 | 8 => 141 | 7 => 140 | 19 => 186 | 20 => 187 | 10 => 177 | 11 => 178 | 12 => 179 | 13 => 180 | 14 => 181 | 15 => 182 | 16 => 183 | 17 => 184 | 18 => 185 | 30 => 203 | 31 => 204 | 32 => 205 | 33 => 206 | 34 => 207 | 35 => 208 | 40 => 215 | n => n, fun | 23 => 26 | 25 => 2 | 3 => 3 | 32 => 171 | 22 => 26 | 0 => 0 | 44 => 213 | 46 => 215 | 4 => 4 | 36 => 205 | 35 => 204 | 41 => 210 | 5 => 5 | 9 => 9 | 53 => 228 | 57 => 232 | 63 => 239 | 64 => 240 | n => n, fun | n => n⟩
theorem laysSort : Go.Proofs.SlLaysM.n5 Tryz.prog laysSort_ren where
  mixed := by kernel_rfl
  f5 := ⟨"slices.Sort[[]int64,int64]", by decide, Tryz.func94.trans (congrArg some (by kernel_rfl))⟩
  f7 := ⟨"slices.pdqsortOrdered[int64]", by decide, Tryz.func140.trans (congrArg some (by kernel_rfl))⟩
  f8 := Tryz.func141.trans (congrArg some (by kernel_rfl))
  f10 := ⟨"slices.insertionSortOrdered[int64]", by decide, Tryz.func177.trans (congrArg some (by kernel_rfl))⟩
  f11 := ⟨"slices.heapSortOrdered[int64]", by decide, Tryz.func178.trans (congrArg some (by kernel_rfl))⟩
  f12 := ⟨"slices.breakPatternsOrdered[int64]", by decide, Tryz.func179.trans (congrArg some (by kernel_rfl))⟩
  f13 := ⟨"slices.choosePivotOrdered[int64]", by decide, Tryz.func180.trans (congrArg some (by kernel_rfl))⟩
  f14 := ⟨"slices.reverseRangeOrdered[int64]", by decide, Tryz.func181.trans (congrArg some (by kernel_rfl))⟩
  f15 := ⟨"slices.partialInsertionSortOrdered[int64]", by decide, Tryz.func182.trans (congrArg some (by kernel_rfl))⟩
  f16 := ⟨"cmp.Less[int64]", by decide, Tryz.func183.trans (congrArg some (by kernel_rfl))⟩
  f17 := ⟨"slices.partitionEqualOrdered[int64]", by decide, Tryz.func184.trans (congrArg some (by kernel_rfl))⟩
  f18 := ⟨"slices.partitionOrdered[int64]", by decide, Tryz.func185.trans (congrArg some (by kernel_rfl))⟩
  f19 := Tryz.func186.trans (congrArg some (by kernel_rfl))
  f20 := Tryz.func187.trans (congrArg some (by kernel_rfl))
  f30 := ⟨"slices.siftDownOrdered[int64]", by decide, Tryz.func203.trans (congrArg some (by kernel_rfl))⟩
  f31 := Tryz.func204.trans (congrArg some (by kernel_rfl))
  f32 := Tryz.func205.trans (congrArg some (by kernel_rfl))
  f33 := ⟨"slices.medianAdjacentOrdered[int64]", by decide, Tryz.func206.trans (congrArg some (by kernel_rfl))⟩
  f34 := ⟨"slices.medianOrdered[int64]", by decide, Tryz.func207.trans (congrArg some (by kernel_rfl))⟩
  f35 := ⟨"cmp.isNaN[int64]", by decide, Tryz.func208.trans (congrArg some (by kernel_rfl))⟩
  f40 := ⟨"slices.order2Ordered[int64]", by decide, Tryz.func215.trans (congrArg some (by kernel_rfl))⟩
  t0 := Tryz.underlying0
  a0 := Tryz.isAgg0
  z0 := Tryz.sizeOf0
  v0 := Tryz.zeroValue0
  t3 := Tryz.underlying3
  a3 := Tryz.isAgg3
  z3 := Tryz.sizeOf3
  v3 := Tryz.zeroValue3
  t4 := Tryz.underlying4
  a4 := Tryz.isAgg4
  z4 := Tryz.sizeOf4
  v4 := Tryz.zeroValue4
  t5 := Tryz.underlying5
  a5 := Tryz.isAgg5
  z5 := Tryz.sizeOf5
  v5 := Tryz.zeroValue5
  t9 := Tryz.underlying9
  a9 := Tryz.isAgg9
  z9 := Tryz.sizeOf9
  v9 := Tryz.zeroValue9
  t22 := Tryz.underlying26
  a22 := Tryz.isAgg26
  z22 := Tryz.sizeOf26
  v22 := Tryz.zeroValue26
  t23 := Tryz.underlying26
  a23 := Tryz.isAgg26
  z23 := Tryz.sizeOf26
  v23 := Tryz.zeroValue26
  t25 := Tryz.underlying2
  a25 := Tryz.isAgg2
  z25 := Tryz.sizeOf2
  v25 := Tryz.zeroValue2
  t32 := Tryz.underlying171
  a32 := Tryz.isAgg171
  z32 := Tryz.sizeOf171
  v32 := Tryz.zeroValue171
  t35 := Tryz.underlying204
  a35 := Tryz.isAgg204
  z35 := Tryz.sizeOf204
  v35 := Tryz.zeroValue204
  t36 := Tryz.underlying205
  a36 := Tryz.isAgg205
  z36 := Tryz.sizeOf205
  v36 := Tryz.zeroValue205
  t41 := Tryz.underlying210
  a41 := Tryz.isAgg210
  z41 := Tryz.sizeOf210
  v41 := Tryz.zeroValue210
  t44 := Tryz.underlying213
  a44 := Tryz.isAgg213
  z44 := Tryz.sizeOf213
  v44 := Tryz.zeroValue213
  t46 := Tryz.underlying215
  a46 := Tryz.isAgg215
  z46 := Tryz.sizeOf215
  v46 := Tryz.zeroValue215
  t53 := Tryz.underlying228
  a53 := Tryz.isAgg228
  z53 := Tryz.sizeOf228
  v53 := Tryz.zeroValue228
  t57 := Tryz.underlying232
  a57 := Tryz.isAgg232
  z57 := Tryz.sizeOf232
  v57 := Tryz.zeroValue232
  t63 := Tryz.underlying239
  a63 := Tryz.isAgg239
  z63 := Tryz.sizeOf239
  v63 := Tryz.zeroValue239
  t64 := Tryz.underlying240
  a64 := Tryz.isAgg240
  z64 := Tryz.sizeOf240
  v64 := Tryz.zeroValue240
def laysCompact_ren : Go.Shelf.Ren := ⟨fun | 43 => 95 | n => n, fun | 22 => 26 | 23 => 2 | 3 => 3 | 4 => 4 | 0 => 0 | n => n, fun | n => n⟩
theorem laysCompact : Go.Proofs.SlLaysN.n43 Tryz.prog laysCompact_ren where
  mixed := by kernel_rfl
  f43 := ⟨"slices.Compact[[]int64,int64]", by decide, Tryz.func95.trans (congrArg some (by kernel_rfl))⟩
  t0 := Tryz.underlying0
  a0 := Tryz.isAgg0
  z0 := Tryz.sizeOf0
  v0 := Tryz.zeroValue0
  t3 := Tryz.underlying3
  a3 := Tryz.isAgg3
  z3 := Tryz.sizeOf3
  v3 := Tryz.zeroValue3
  t4 := Tryz.underlying4
  a4 := Tryz.isAgg4
  z4 := Tryz.sizeOf4
  v4 := Tryz.zeroValue4
  t22 := Tryz.underlying26
  a22 := Tryz.isAgg26
  z22 := Tryz.sizeOf26
  v22 := Tryz.zeroValue26
  t23 := Tryz.underlying2
  a23 := Tryz.isAgg2
  z23 := Tryz.sizeOf2
  v23 := Tryz.zeroValue2
  i23 := by kernel_rfl
variable [L : Lam]
variable {σ : AH} {R : AEnd → AH → Prop}
theorem c_slices_Sort {φ st : Nat} {xs : List Int} (hF : σ φ = some ⟨st, 1, xs.map fun x => [iv x]⟩) (hl : xs.length < 4611686018427387904) (h : R (.ret (.tup [])) (σ.set φ ⟨st, 1, (xs.mergeSort fun x y => decide (x ≤ y)).map fun x => [iv x]⟩)) :
    acall TP fn_slices_Sort [.own φ st 0 xs.length] σ R :=
  acall_sort Tryz.func94 rfl (by decide) (fun p cap w => AnyM.slices_Sort_int_none laysSort p cap w) (fun blk off cap zs w h1 h2 h3 => AnyM.slices_Sort_int laysSort blk off cap zs w h1 h2 h3) hF hl h
theorem c_slices_Compact {φ st : Nat} {xs : List Int} (hF : σ φ = some ⟨st, 1, xs.map fun x => [iv x]⟩) (hl : xs.length < 4611686018427387904)
    (h : R (.ret (.own φ st 0 (Lib.compact xs).length)) (σ.set φ ⟨st, 1, (Lib.compact xs ++ List.replicate (xs.length - (Lib.compact xs).length) 0).map fun x => [iv x]⟩)) : acall TP fn_slices_Compact [.own φ st 0 xs.length] σ R :=
  acall_compact Tryz.func95 rfl (by decide) (fun p cap w => AnyG.slices_Compact_int_empty laysCompact p cap w) (fun blk off cap zs w h1 h2 h3 => AnyG.slices_Compact_int laysCompact blk off cap zs w h1 h2 h3) compact_len hF hl h
theorem c_slices_Sort_emp (h : R (.ret (.tup [])) σ) : acall TP fn_slices_Sort [.emp] σ R :=
  acall_sort_emp Tryz.func94 rfl (by decide) (fun p cap w => AnyM.slices_Sort_int_none laysSort p cap w) h
theorem c_slices_Compact_emp (h : R (.ret .emp) σ) : acall TP fn_slices_Compact [.emp] σ R :=
  acall_compact_emp Tryz.func95 rfl (by decide) (fun p cap w => AnyG.slices_Compact_int_empty laysCompact p cap w) h
end Go.Proofs.YtinhodpfgjddmaaGreatDoor.E
