/-
  Closed facts on the program.
-/
import Derived.Test.YtakkmmhjohadaaaRows
import Derived.Test.YtakkmmhjohadaaaTreLi1
set_option maxRecDepth 100000
set_option linter.unusedSimpArgs false
set_option linter.unusedVariables false
namespace Go.Proofs.Ytakkmmhjohadaaa
open Go Go.DB Go.RowKit

theorem mixed : Try.prog.follows .mixedOrders = true := by kernel_rfl
def sortI_ren : Shelf.Ren where
  f := fun x => match x with | 5 => 77 | 8 => 85 | 7 => 84 | 19 => 95 | 20 => 96 | 10 => 86 | 11 => 87 | 12 => 88 | 13 => 89 | 14 => 90 | 15 => 91 | 16 => 92 | 17 => 93 | 18 => 94 | 30 => 97 | 31 => 98 | 32 => 99 | 33 => 100 | 34 => 101 | 35 => 102 | 40 => 103 | n => n
  t := fun x => match x with | 23 => 23 | 25 => 3 | 3 => 3 | 32 => 118 | 22 => 23 | 0 => 0 | 44 => 127 | 46 => 129 | 4 => 4 | 36 => 121 | 35 => 120 | 41 => 124 | 5 => 5 | 9 => 9 | 53 => 130 | 57 => 134 | 63 => 136 | 64 => 137 | n => n
  g := fun n => n
theorem sortI_lay : SlLaysM.n5 Try.prog sortI_ren where
  mixed := by kernel_rfl
  f5 := ⟨ "slices.Sort[[]int,int]", of_decide_eq_true (by kernel_rfl), Try.func77.trans (by kernel_rfl)⟩
  f7 := ⟨ "slices.pdqsortOrdered[int]", of_decide_eq_true (by kernel_rfl), Try.func84.trans (by kernel_rfl)⟩
  f8 := Try.func85.trans (by kernel_rfl)
  f10 := ⟨ "slices.insertionSortOrdered[int]", of_decide_eq_true (by kernel_rfl), Try.func86.trans (by kernel_rfl)⟩
  f11 := ⟨ "slices.heapSortOrdered[int]", of_decide_eq_true (by kernel_rfl), Try.func87.trans (by kernel_rfl)⟩
  f12 := ⟨ "slices.breakPatternsOrdered[int]", of_decide_eq_true (by kernel_rfl), Try.func88.trans (by kernel_rfl)⟩
  f13 := ⟨ "slices.choosePivotOrdered[int]", of_decide_eq_true (by kernel_rfl), Try.func89.trans (by kernel_rfl)⟩
  f14 := ⟨ "slices.reverseRangeOrdered[int]", of_decide_eq_true (by kernel_rfl), Try.func90.trans (by kernel_rfl)⟩
  f15 := ⟨ "slices.partialInsertionSortOrdered[int]", of_decide_eq_true (by kernel_rfl), Try.func91.trans (by kernel_rfl)⟩
  f16 := ⟨ "cmp.Less[int]", of_decide_eq_true (by kernel_rfl), Try.func92.trans (by kernel_rfl)⟩
  f17 := ⟨ "slices.partitionEqualOrdered[int]", of_decide_eq_true (by kernel_rfl), Try.func93.trans (by kernel_rfl)⟩
  f18 := ⟨ "slices.partitionOrdered[int]", of_decide_eq_true (by kernel_rfl), Try.func94.trans (by kernel_rfl)⟩
  f19 := Try.func95.trans (by kernel_rfl)
  f20 := Try.func96.trans (by kernel_rfl)
  f30 := ⟨ "slices.siftDownOrdered[int]", of_decide_eq_true (by kernel_rfl), Try.func97.trans (by kernel_rfl)⟩
  f31 := Try.func98.trans (by kernel_rfl)
  f32 := Try.func99.trans (by kernel_rfl)
  f33 := ⟨ "slices.medianAdjacentOrdered[int]", of_decide_eq_true (by kernel_rfl), Try.func100.trans (by kernel_rfl)⟩
  f34 := ⟨ "slices.medianOrdered[int]", of_decide_eq_true (by kernel_rfl), Try.func101.trans (by kernel_rfl)⟩
  f35 := ⟨ "cmp.isNaN[int]", of_decide_eq_true (by kernel_rfl), Try.func102.trans (by kernel_rfl)⟩
  f40 := ⟨ "slices.order2Ordered[int]", of_decide_eq_true (by kernel_rfl), Try.func103.trans (by kernel_rfl)⟩
  t0 := Try.underlying0
  a0 := Try.isAgg0
  z0 := Try.sizeOf0
  v0 := Try.zeroValue0
  t3 := Try.underlying3
  a3 := Try.isAgg3
  z3 := Try.sizeOf3
  v3 := Try.zeroValue3
  t4 := Try.underlying4
  a4 := Try.isAgg4
  z4 := Try.sizeOf4
  v4 := Try.zeroValue4
  t5 := Try.underlying5
  a5 := Try.isAgg5
  z5 := Try.sizeOf5
  v5 := Try.zeroValue5
  t9 := Try.underlying9
  a9 := Try.isAgg9
  z9 := Try.sizeOf9
  v9 := Try.zeroValue9
  t22 := Try.underlying23
  a22 := Try.isAgg23
  z22 := Try.sizeOf23
  v22 := Try.zeroValue23
  t23 := Try.underlying23
  a23 := Try.isAgg23
  z23 := Try.sizeOf23
  v23 := Try.zeroValue23
  t25 := Try.underlying3
  a25 := Try.isAgg3
  z25 := Try.sizeOf3
  v25 := Try.zeroValue3
  t32 := Try.underlying118
  a32 := Try.isAgg118
  z32 := Try.sizeOf118
  v32 := Try.zeroValue118
  t35 := Try.underlying120
  a35 := Try.isAgg120
  z35 := Try.sizeOf120
  v35 := Try.zeroValue120
  t36 := Try.underlying121
  a36 := Try.isAgg121
  z36 := Try.sizeOf121
  v36 := Try.zeroValue121
  t41 := Try.underlying124
  a41 := Try.isAgg124
  z41 := Try.sizeOf124
  v41 := Try.zeroValue124
  t44 := Try.underlying127
  a44 := Try.isAgg127
  z44 := Try.sizeOf127
  v44 := Try.zeroValue127
  t46 := Try.underlying129
  a46 := Try.isAgg129
  z46 := Try.sizeOf129
  v46 := Try.zeroValue129
  t53 := Try.underlying130
  a53 := Try.isAgg130
  z53 := Try.sizeOf130
  v53 := Try.zeroValue130
  t57 := Try.underlying134
  a57 := Try.isAgg134
  z57 := Try.sizeOf134
  v57 := Try.zeroValue134
  t63 := Try.underlying136
  a63 := Try.isAgg136
  z63 := Try.sizeOf136
  v63 := Try.zeroValue136
  t64 := Try.underlying137
  a64 := Try.isAgg137
  z64 := Try.sizeOf137
  v64 := Try.zeroValue137

theorem fnok28 : FnOK Try.prog 28 := ⟨_, Try.func28, by kernel_rfl, by kernel_rfl⟩
theorem sl23 : SliceOf Try.prog 23 3 := Try.underlying23
theorem ty3 : Ty Try.prog 3 Int := ⟨⟨_, Try.underlying3, rfl⟩, by kernel_rfl⟩
theorem fnok40 : FnOK Try.prog 40 := ⟨_, Try.func40, by kernel_rfl, by kernel_rfl⟩
theorem fnok11 : FnOK Try.prog 11 := ⟨_, Try.func11, by kernel_rfl, by kernel_rfl⟩
theorem sl87 : SliceOf Try.prog 87 24 := Try.underlying87
theorem ty24 : Ty Try.prog 24 Int := ⟨⟨_, Try.underlying24, rfl⟩, by kernel_rfl⟩
theorem fnok13 : FnOK Try.prog 13 := ⟨_, Try.func13, by kernel_rfl, by kernel_rfl⟩
theorem fnok78 : FnOK Try.prog 78 := ⟨_, Try.func78, by kernel_rfl, by kernel_rfl⟩
theorem fnok52 : FnOK Try.prog 52 := ⟨_, Try.func52, by kernel_rfl, by kernel_rfl⟩
theorem fnok16 : FnOK Try.prog 16 := ⟨_, Try.func16, by kernel_rfl, by kernel_rfl⟩
theorem fnok77 : FnOK Try.prog 77 := ⟨_, Try.func77, by kernel_rfl, by kernel_rfl⟩
theorem fnok74 : FnOK Try.prog 74 := ⟨_, Try.func74, by kernel_rfl, by kernel_rfl⟩
theorem sl56 : SliceOf Try.prog 56 67 := Try.underlying56
theorem fnok67 : FnOK Try.prog 67 := ⟨_, Try.func67, by kernel_rfl, by kernel_rfl⟩
theorem hz3 : HasZero Try.prog 3 := by unfold HasZero; kernel_rfl
theorem sl64 : SliceOf Try.prog 64 23 := Try.underlying64
theorem ty23 : Ty Try.prog 23 (List Int) := ⟨⟨_, Try.underlying23, rfl⟩, by kernel_rfl⟩
theorem hz23 : HasZero Try.prog 23 := by unfold HasZero; kernel_rfl
theorem rk64 : RowOK Try.prog 64 23 (List Int) := ⟨sl64, ty23, by kernel_rfl⟩
theorem ty67 : Ty Try.prog 67 Branch := ⟨⟨_, Try.underlying67, rfl⟩, by kernel_rfl⟩
theorem fd67_2 : FieldAt Try.prog 67 2 2 := ⟨_, _, Try.underlying67, rfl, rfl, by kernel_rfl⟩
theorem hfd67_2 : HasField Branch (List Int) 2 Branch.Kids := ⟨by decide, fun M x cs w h => (HasField.snd (HasField.snd HasField.self)).2 M _ cs w h⟩
theorem rk23 : RowOK Try.prog 23 3 Int := ⟨sl23, ty3, by kernel_rfl⟩
theorem fnok82 : FnOK Try.prog 82 := ⟨_, Try.func82, by kernel_rfl, by kernel_rfl⟩
theorem sl100 : SliceOf Try.prog 100 4 := Try.underlying100
theorem ty4 : Ty Try.prog 4 Bool := ⟨⟨_, Try.underlying4, rfl⟩, by kernel_rfl⟩
theorem fnok68 : FnOK Try.prog 68 := ⟨_, Try.func68, by kernel_rfl, by kernel_rfl⟩
theorem fnok39 : FnOK Try.prog 39 := ⟨_, Try.func39, by kernel_rfl, by kernel_rfl⟩
theorem fnok73 : FnOK Try.prog 73 := ⟨_, Try.func73, by kernel_rfl, by kernel_rfl⟩
theorem rk100 : RowOK Try.prog 100 4 Bool := ⟨sl100, ty4, by kernel_rfl⟩
theorem zo4 : ZeroOf Try.prog 4 false := ⟨[.bool false], by kernel_rfl, fun _ _ => rfl⟩
theorem zo67 : ZeroOf Try.prog 67 (⟨(0 : Int), (0 : Int), ([] : (List Int))⟩ : Branch) := ⟨[.int .i64 0, .int .i64 0, .slice none 0 0], by kernel_rfl, fun _ _ => ⟨[_], _, rfl, ⟨rfl, by decide⟩, ⟨[_], _, rfl, ⟨rfl, by decide⟩, ⟨none, 0, rfl, Nat.le_refl _, by decide, rfl⟩⟩⟩⟩
theorem fd67_0 : FieldAt Try.prog 67 0 0 := ⟨_, _, Try.underlying67, rfl, rfl, by kernel_rfl⟩
theorem hfd67_0 : HasField Branch Int 0 Branch.W_ := ⟨by decide, fun M x cs w h => (HasField.fst HasField.self).2 M _ cs w h⟩
theorem fd67_1 : FieldAt Try.prog 67 1 1 := ⟨_, _, Try.underlying67, rfl, rfl, by kernel_rfl⟩
theorem hfd67_1 : HasField Branch Int 1 Branch.H := ⟨by decide, fun M x cs w h => (HasField.snd (HasField.fst HasField.self)).2 M _ cs w h⟩
theorem fnok51 : FnOK Try.prog 51 := ⟨_, Try.func51, by kernel_rfl, by kernel_rfl⟩
theorem fnok18 : FnOK Try.prog 18 := ⟨_, Try.func18, by kernel_rfl, by kernel_rfl⟩
theorem fnok47 : FnOK Try.prog 47 := ⟨_, Try.func47, by kernel_rfl, by kernel_rfl⟩
theorem fnok72 : FnOK Try.prog 72 := ⟨_, Try.func72, by kernel_rfl, by kernel_rfl⟩
theorem zo3 : ZeroOf Try.prog 3 (0 : Int) := ⟨[.int .i64 0], by kernel_rfl, fun _ _ => ⟨rfl, by decide⟩⟩
theorem fnok46 : FnOK Try.prog 46 := ⟨_, Try.func46, by kernel_rfl, by kernel_rfl⟩
theorem fnok75 : FnOK Try.prog 75 := ⟨_, Try.func75, by kernel_rfl, by kernel_rfl⟩
theorem fnok45 : FnOK Try.prog 45 := ⟨_, Try.func45, by kernel_rfl, by kernel_rfl⟩
theorem fnok43 : FnOK Try.prog 43 := ⟨_, Try.func43, by kernel_rfl, by kernel_rfl⟩
theorem fnok34 : FnOK Try.prog 34 := ⟨_, Try.func34, by kernel_rfl, by kernel_rfl⟩
theorem fnok37 : FnOK Try.prog 37 := ⟨_, Try.func37, by kernel_rfl, by kernel_rfl⟩
theorem fnok22 : FnOK Try.prog 22 := ⟨_, Try.func22, by kernel_rfl, by kernel_rfl⟩
theorem sf67_1 : SetField Branch Int 1 (fun x z => { x with H := z }) := ⟨by decide, fun M x z cs zs w h hz => (SetField.snd (SetField.fst SetField.self)).2 M _ z cs zs w h hz⟩
theorem sf67_0 : SetField Branch Int 0 (fun x z => { x with W_ := z }) := ⟨by decide, fun M x z cs zs w h hz => (SetField.fst SetField.self).2 M _ z cs zs w h hz⟩
theorem bu67 : BuildAt Try.prog 67 [.int .i64 0, .int .i64 0, .slice none 0 0] [(0, 1), (1, 1), (2, 1)] := ⟨by kernel_rfl, _, Try.underlying67, by kernel_rfl⟩
theorem zc67 : ∀ (M : MSet) (w : World), Rep.cells M (⟨(0 : Int), (0 : Int), ([] : (List Int))⟩ : Branch) [.int .i64 0, .int .i64 0, .slice none 0 0] w := fun _ _ => ⟨[_], _, rfl, ⟨rfl, by decide⟩, ⟨[_], _, rfl, ⟨rfl, by decide⟩, ⟨none, 0, rfl, Nat.le_refl _, by decide, rfl⟩⟩⟩
theorem hz67 : HasZero Try.prog 67 := by unfold HasZero; kernel_rfl
theorem fnok38 : FnOK Try.prog 38 := ⟨_, Try.func38, by kernel_rfl, by kernel_rfl⟩
theorem fnok30 : FnOK Try.prog 30 := ⟨_, Try.func30, by kernel_rfl, by kernel_rfl⟩
theorem hz24 : HasZero Try.prog 24 := by unfold HasZero; kernel_rfl
theorem fnok9 : FnOK Try.prog 9 := ⟨_, Try.func9, by kernel_rfl, by kernel_rfl⟩
theorem ty56 : Ty Try.prog 56 (List Branch) := ⟨⟨_, Try.underlying56, rfl⟩, by kernel_rfl⟩
theorem fnok42 : FnOK Try.prog 42 := ⟨_, Try.func42, by kernel_rfl, by kernel_rfl⟩
theorem fnok41 : FnOK Try.prog 41 := ⟨_, Try.func41, by kernel_rfl, by kernel_rfl⟩
theorem fnok44 : FnOK Try.prog 44 := ⟨_, Try.func44, by kernel_rfl, by kernel_rfl⟩
theorem fnok70 : FnOK Try.prog 70 := ⟨_, Try.func70, by kernel_rfl, by kernel_rfl⟩
theorem fnok35 : FnOK Try.prog 35 := ⟨_, Try.func35, by kernel_rfl, by kernel_rfl⟩
theorem fnok71 : FnOK Try.prog 71 := ⟨_, Try.func71, by kernel_rfl, by kernel_rfl⟩
theorem fnok48 : FnOK Try.prog 48 := ⟨_, Try.func48, by kernel_rfl, by kernel_rfl⟩
theorem fnok76 : FnOK Try.prog 76 := ⟨_, Try.func76, by kernel_rfl, by kernel_rfl⟩
theorem fnok50 : FnOK Try.prog 50 := ⟨_, Try.func50, by kernel_rfl, by kernel_rfl⟩
theorem fnok49 : FnOK Try.prog 49 := ⟨_, Try.func49, by kernel_rfl, by kernel_rfl⟩
theorem fnok54 : FnOK Try.prog 54 := ⟨_, Try.func54, by kernel_rfl, by kernel_rfl⟩
theorem fnok53 : FnOK Try.prog 53 := ⟨_, Try.func53, by kernel_rfl, by kernel_rfl⟩

end Go.Proofs.Ytakkmmhjohadaaa
