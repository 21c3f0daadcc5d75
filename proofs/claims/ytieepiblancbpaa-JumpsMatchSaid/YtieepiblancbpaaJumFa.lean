/-
  Closed facts on the program.
-/
import Derived.Test.YtieepiblancbpaaRows
import Derived.Test.YtieepiblancbpaaJumLi1
set_option maxRecDepth 100000
set_option linter.unusedSimpArgs false
set_option linter.unusedVariables false
namespace Go.Proofs.Ytieepiblancbpaa
open Go Go.DB Go.RowKit

theorem mixed : Try.prog.follows .mixedOrders = true := by kernel_rfl
def compactI_ren : Shelf.Ren where
  f := fun x => match x with | 43 => 110 | n => n
  t := fun x => match x with | 22 => 90 | 23 => 3 | 3 => 3 | 4 => 4 | 0 => 0 | n => n
  g := fun n => n
theorem compactI_lay : SlLaysN.n43 Try.prog compactI_ren where
  mixed := by kernel_rfl
  f43 := ⟨ "slices.Compact[[]int,int]", of_decide_eq_true (by kernel_rfl), Try.func110.trans (by kernel_rfl)⟩
  t0 := Try.underlying0
  a0 := Try.isAgg0
  z0 := Try.sizeOf0
  v0 := Try.zeroValue0
  t3 := Try.underlying3
  a3 := Try.isAgg3
  z3 := Try.sizeOf3
  v3 := Try.zeroValue3
  t4 := Try.underlying4
  a4 := Try.isAgg4
  z4 := Try.sizeOf4
  v4 := Try.zeroValue4
  t22 := Try.underlying90
  a22 := Try.isAgg90
  z22 := Try.sizeOf90
  v22 := Try.zeroValue90
  t23 := Try.underlying3
  a23 := Try.isAgg3
  z23 := Try.sizeOf3
  v23 := Try.zeroValue3
  i23 := by kernel_rfl

def sortI_ren : Shelf.Ren where
  f := fun x => match x with | 5 => 109 | 8 => 114 | 7 => 119 | 19 => 128 | 20 => 129 | 10 => 131 | 11 => 132 | 12 => 133 | 13 => 134 | 14 => 135 | 15 => 136 | 16 => 137 | 17 => 138 | 18 => 139 | 30 => 153 | 31 => 141 | 32 => 142 | 33 => 154 | 34 => 155 | 35 => 156 | 40 => 161 | n => n
  t := fun x => match x with | 23 => 90 | 25 => 3 | 3 => 3 | 32 => 119 | 22 => 90 | 0 => 0 | 44 => 136 | 46 => 138 | 4 => 4 | 36 => 130 | 35 => 129 | 41 => 124 | 5 => 5 | 9 => 9 | 53 => 146 | 57 => 150 | 63 => 159 | 64 => 62 | n => n
  g := fun n => n
theorem sortI_lay : SlLaysM.n5 Try.prog sortI_ren where
  mixed := by kernel_rfl
  f5 := ⟨ "slices.Sort[[]int,int]", of_decide_eq_true (by kernel_rfl), Try.func109.trans (by kernel_rfl)⟩
  f7 := ⟨ "slices.pdqsortOrdered[int]", of_decide_eq_true (by kernel_rfl), Try.func119.trans (by kernel_rfl)⟩
  f8 := Try.func114.trans (by kernel_rfl)
  f10 := ⟨ "slices.insertionSortOrdered[int]", of_decide_eq_true (by kernel_rfl), Try.func131.trans (by kernel_rfl)⟩
  f11 := ⟨ "slices.heapSortOrdered[int]", of_decide_eq_true (by kernel_rfl), Try.func132.trans (by kernel_rfl)⟩
  f12 := ⟨ "slices.breakPatternsOrdered[int]", of_decide_eq_true (by kernel_rfl), Try.func133.trans (by kernel_rfl)⟩
  f13 := ⟨ "slices.choosePivotOrdered[int]", of_decide_eq_true (by kernel_rfl), Try.func134.trans (by kernel_rfl)⟩
  f14 := ⟨ "slices.reverseRangeOrdered[int]", of_decide_eq_true (by kernel_rfl), Try.func135.trans (by kernel_rfl)⟩
  f15 := ⟨ "slices.partialInsertionSortOrdered[int]", of_decide_eq_true (by kernel_rfl), Try.func136.trans (by kernel_rfl)⟩
  f16 := ⟨ "cmp.Less[int]", of_decide_eq_true (by kernel_rfl), Try.func137.trans (by kernel_rfl)⟩
  f17 := ⟨ "slices.partitionEqualOrdered[int]", of_decide_eq_true (by kernel_rfl), Try.func138.trans (by kernel_rfl)⟩
  f18 := ⟨ "slices.partitionOrdered[int]", of_decide_eq_true (by kernel_rfl), Try.func139.trans (by kernel_rfl)⟩
  f19 := Try.func128.trans (by kernel_rfl)
  f20 := Try.func129.trans (by kernel_rfl)
  f30 := ⟨ "slices.siftDownOrdered[int]", of_decide_eq_true (by kernel_rfl), Try.func153.trans (by kernel_rfl)⟩
  f31 := Try.func141.trans (by kernel_rfl)
  f32 := Try.func142.trans (by kernel_rfl)
  f33 := ⟨ "slices.medianAdjacentOrdered[int]", of_decide_eq_true (by kernel_rfl), Try.func154.trans (by kernel_rfl)⟩
  f34 := ⟨ "slices.medianOrdered[int]", of_decide_eq_true (by kernel_rfl), Try.func155.trans (by kernel_rfl)⟩
  f35 := ⟨ "cmp.isNaN[int]", of_decide_eq_true (by kernel_rfl), Try.func156.trans (by kernel_rfl)⟩
  f40 := ⟨ "slices.order2Ordered[int]", of_decide_eq_true (by kernel_rfl), Try.func161.trans (by kernel_rfl)⟩
  t0 := Try.underlying0
  a0 := Try.isAgg0
  z0 := Try.sizeOf0
  v0 := Try.zeroValue0
  t3 := Try.underlying3
  a3 := Try.isAgg3
  z3 := Try.sizeOf3
  v3 := Try.zeroValue3
  t4 := Try.underlying4
  a4 := Try.isAgg4
  z4 := Try.sizeOf4
  v4 := Try.zeroValue4
  t5 := Try.underlying5
  a5 := Try.isAgg5
  z5 := Try.sizeOf5
  v5 := Try.zeroValue5
  t9 := Try.underlying9
  a9 := Try.isAgg9
  z9 := Try.sizeOf9
  v9 := Try.zeroValue9
  t22 := Try.underlying90
  a22 := Try.isAgg90
  z22 := Try.sizeOf90
  v22 := Try.zeroValue90
  t23 := Try.underlying90
  a23 := Try.isAgg90
  z23 := Try.sizeOf90
  v23 := Try.zeroValue90
  t25 := Try.underlying3
  a25 := Try.isAgg3
  z25 := Try.sizeOf3
  v25 := Try.zeroValue3
  t32 := Try.underlying119
  a32 := Try.isAgg119
  z32 := Try.sizeOf119
  v32 := Try.zeroValue119
  t35 := Try.underlying129
  a35 := Try.isAgg129
  z35 := Try.sizeOf129
  v35 := Try.zeroValue129
  t36 := Try.underlying130
  a36 := Try.isAgg130
  z36 := Try.sizeOf130
  v36 := Try.zeroValue130
  t41 := Try.underlying124
  a41 := Try.isAgg124
  z41 := Try.sizeOf124
  v41 := Try.zeroValue124
  t44 := Try.underlying136
  a44 := Try.isAgg136
  z44 := Try.sizeOf136
  v44 := Try.zeroValue136
  t46 := Try.underlying138
  a46 := Try.isAgg138
  z46 := Try.sizeOf138
  v46 := Try.zeroValue138
  t53 := Try.underlying146
  a53 := Try.isAgg146
  z53 := Try.sizeOf146
  v53 := Try.zeroValue146
  t57 := Try.underlying150
  a57 := Try.isAgg150
  z57 := Try.sizeOf150
  v57 := Try.zeroValue150
  t63 := Try.underlying159
  a63 := Try.isAgg159
  z63 := Try.sizeOf159
  v63 := Try.zeroValue159
  t64 := Try.underlying62
  a64 := Try.isAgg62
  z64 := Try.sizeOf62
  v64 := Try.zeroValue62

def sortF121_ren : Shelf.Ren where
  f := fun x => match x with | 6 => 115 | 15 => 114 | 14 => 130 | 28 => 128 | 29 => 129 | 20 => 145 | 21 => 146 | 22 => 147 | 23 => 148 | 24 => 149 | 25 => 150 | 26 => 151 | 27 => 152 | 46 => 158 | 47 => 141 | 48 => 142 | 49 => 159 | 50 => 160 | 57 => 162 | n => n
  t := fun x => match x with | 22 => 109 | 24 => 121 | 25 => 123 | 3 => 3 | 39 => 119 | 0 => 0 | 53 => 136 | 55 => 138 | 4 => 4 | 46 => 130 | 45 => 129 | 50 => 124 | 5 => 5 | 9 => 9 | 66 => 146 | 70 => 150 | 76 => 159 | 77 => 62 | n => n
  g := fun n => n
theorem sortF121_lay : SlLaysF0.n6 Try.prog sortF121_ren where
  mixed := by kernel_rfl
  f6 := ⟨ "slices.SortFunc[[]drawboard/geom.rail,drawboard/geom.rail]", of_decide_eq_true (by kernel_rfl), Try.func115.trans (by kernel_rfl)⟩
  f14 := ⟨ "slices.pdqsortCmpFunc[drawboard/geom.rail]", of_decide_eq_true (by kernel_rfl), Try.func130.trans (by kernel_rfl)⟩
  f15 := Try.func114.trans (by kernel_rfl)
  f20 := ⟨ "slices.insertionSortCmpFunc[drawboard/geom.rail]", of_decide_eq_true (by kernel_rfl), Try.func145.trans (by kernel_rfl)⟩
  f21 := ⟨ "slices.heapSortCmpFunc[drawboard/geom.rail]", of_decide_eq_true (by kernel_rfl), Try.func146.trans (by kernel_rfl)⟩
  f22 := ⟨ "slices.breakPatternsCmpFunc[drawboard/geom.rail]", of_decide_eq_true (by kernel_rfl), Try.func147.trans (by kernel_rfl)⟩
  f23 := ⟨ "slices.choosePivotCmpFunc[drawboard/geom.rail]", of_decide_eq_true (by kernel_rfl), Try.func148.trans (by kernel_rfl)⟩
  f24 := ⟨ "slices.reverseRangeCmpFunc[drawboard/geom.rail]", of_decide_eq_true (by kernel_rfl), Try.func149.trans (by kernel_rfl)⟩
  f25 := ⟨ "slices.partialInsertionSortCmpFunc[drawboard/geom.rail]", of_decide_eq_true (by kernel_rfl), Try.func150.trans (by kernel_rfl)⟩
  f26 := ⟨ "slices.partitionEqualCmpFunc[drawboard/geom.rail]", of_decide_eq_true (by kernel_rfl), Try.func151.trans (by kernel_rfl)⟩
  f27 := ⟨ "slices.partitionCmpFunc[drawboard/geom.rail]", of_decide_eq_true (by kernel_rfl), Try.func152.trans (by kernel_rfl)⟩
  f28 := Try.func128.trans (by kernel_rfl)
  f29 := Try.func129.trans (by kernel_rfl)
  f46 := ⟨ "slices.siftDownCmpFunc[drawboard/geom.rail]", of_decide_eq_true (by kernel_rfl), Try.func158.trans (by kernel_rfl)⟩
  f47 := Try.func141.trans (by kernel_rfl)
  f48 := Try.func142.trans (by kernel_rfl)
  f49 := ⟨ "slices.medianAdjacentCmpFunc[drawboard/geom.rail]", of_decide_eq_true (by kernel_rfl), Try.func159.trans (by kernel_rfl)⟩
  f50 := ⟨ "slices.medianCmpFunc[drawboard/geom.rail]", of_decide_eq_true (by kernel_rfl), Try.func160.trans (by kernel_rfl)⟩
  f57 := ⟨ "slices.order2CmpFunc[drawboard/geom.rail]", of_decide_eq_true (by kernel_rfl), Try.func162.trans (by kernel_rfl)⟩
  t0 := Try.underlying0
  a0 := Try.isAgg0
  z0 := Try.sizeOf0
  v0 := Try.zeroValue0
  t3 := Try.underlying3
  a3 := Try.isAgg3
  z3 := Try.sizeOf3
  v3 := Try.zeroValue3
  t4 := Try.underlying4
  a4 := Try.isAgg4
  z4 := Try.sizeOf4
  v4 := Try.zeroValue4
  t5 := Try.underlying5
  a5 := Try.isAgg5
  z5 := Try.sizeOf5
  v5 := Try.zeroValue5
  t9 := Try.underlying9
  a9 := Try.isAgg9
  z9 := Try.sizeOf9
  v9 := Try.zeroValue9
  t22 := Try.underlying109
  a22 := Try.isAgg109
  z22 := Try.sizeOf109
  v22 := Try.zeroValue109
  t25 := Try.underlying123
  a25 := Try.isAgg123
  z25 := Try.sizeOf123
  v25 := Try.zeroValue123
  t39 := Try.underlying119
  a39 := Try.isAgg119
  z39 := Try.sizeOf119
  v39 := Try.zeroValue119
  t45 := Try.underlying129
  a45 := Try.isAgg129
  z45 := Try.sizeOf129
  v45 := Try.zeroValue129
  t46 := Try.underlying130
  a46 := Try.isAgg130
  z46 := Try.sizeOf130
  v46 := Try.zeroValue130
  t50 := Try.underlying124
  a50 := Try.isAgg124
  z50 := Try.sizeOf124
  v50 := Try.zeroValue124
  t53 := Try.underlying136
  a53 := Try.isAgg136
  z53 := Try.sizeOf136
  v53 := Try.zeroValue136
  t55 := Try.underlying138
  a55 := Try.isAgg138
  z55 := Try.sizeOf138
  v55 := Try.zeroValue138
  t66 := Try.underlying146
  a66 := Try.isAgg146
  z66 := Try.sizeOf146
  v66 := Try.zeroValue146
  t70 := Try.underlying150
  a70 := Try.isAgg150
  z70 := Try.sizeOf150
  v70 := Try.zeroValue150
  t76 := Try.underlying159
  a76 := Try.isAgg159
  z76 := Try.sizeOf159
  v76 := Try.zeroValue159
  t77 := Try.underlying62
  a77 := Try.isAgg62
  z77 := Try.sizeOf62
  v77 := Try.zeroValue62

theorem fnok110 : FnOK Try.prog 110 := ⟨_, Try.func110, by kernel_rfl, by kernel_rfl⟩
theorem fnok109 : FnOK Try.prog 109 := ⟨_, Try.func109, by kernel_rfl, by kernel_rfl⟩
theorem fnok115 : FnOK Try.prog 115 := ⟨_, Try.func115, by kernel_rfl, by kernel_rfl⟩
theorem fnok116 : FnOK Try.prog 116 := ⟨_, Try.func116, by kernel_rfl, by kernel_rfl⟩
theorem ty121 : Ty Try.prog 121 Geom_rail := ⟨⟨_, Try.underlying121, rfl⟩, by kernel_rfl⟩
theorem fnok8 : FnOK Try.prog 8 := ⟨_, Try.func8, by kernel_rfl, by kernel_rfl⟩
theorem fnok74 : FnOK Try.prog 74 := ⟨_, Try.func74, by kernel_rfl, by kernel_rfl⟩
theorem sl85 : SliceOf Try.prog 85 66 := Try.underlying85
theorem ty66 : Ty Try.prog 66 (List Point) := ⟨⟨_, Try.underlying66, rfl⟩, by kernel_rfl⟩
theorem fnok49 : FnOK Try.prog 49 := ⟨_, Try.func49, by kernel_rfl, by kernel_rfl⟩
theorem fnok47 : FnOK Try.prog 47 := ⟨_, Try.func47, by kernel_rfl, by kernel_rfl⟩
theorem sl66 : SliceOf Try.prog 66 23 := Try.underlying66
theorem fnok79 : FnOK Try.prog 79 := ⟨_, Try.func79, by kernel_rfl, by kernel_rfl⟩
theorem ty23 : Ty Try.prog 23 Point := ⟨⟨_, Try.underlying23, rfl⟩, by kernel_rfl⟩
theorem zo23 : ZeroOf Try.prog 23 (⟨(0 : Int), (0 : Int)⟩ : Point) := ⟨[.int .i64 0, .int .i64 0], by kernel_rfl, fun _ _ => ⟨[_], _, rfl, ⟨rfl, by decide⟩, ⟨rfl, by decide⟩⟩⟩
theorem fnok34 : FnOK Try.prog 34 := ⟨_, Try.func34, by kernel_rfl, by kernel_rfl⟩
theorem fd23_0 : FieldAt Try.prog 23 0 0 := ⟨_, _, Try.underlying23, rfl, rfl, by kernel_rfl⟩
theorem hfd23_0 : HasField Point Int 0 Point.X := ⟨by decide, fun M x cs w h => (HasField.fst HasField.self).2 M _ cs w h⟩
theorem ty3 : Ty Try.prog 3 Int := ⟨⟨_, Try.underlying3, rfl⟩, by kernel_rfl⟩
theorem fnok89 : FnOK Try.prog 89 := ⟨_, Try.func89, by kernel_rfl, by kernel_rfl⟩
theorem fd23_1 : FieldAt Try.prog 23 1 1 := ⟨_, _, Try.underlying23, rfl, rfl, by kernel_rfl⟩
theorem hfd23_1 : HasField Point Int 1 Point.Y := ⟨by decide, fun M x cs w h => (HasField.snd HasField.self).2 M _ cs w h⟩
theorem fnok107 : FnOK Try.prog 107 := ⟨_, Try.func107, by kernel_rfl, by kernel_rfl⟩
theorem sf121_4 : SetField Geom_rail Bool 4 (fun x z => { x with back := z }) := ⟨by decide, fun M x z cs zs w h hz => (SetField.snd (SetField.snd (SetField.snd (SetField.snd SetField.self)))).2 M _ z cs zs w h hz⟩
theorem sf121_3 : SetField Geom_rail Int 3 (fun x z => { x with along := z }) := ⟨by decide, fun M x z cs zs w h hz => (SetField.snd (SetField.snd (SetField.snd (SetField.fst SetField.self)))).2 M _ z cs zs w h hz⟩
theorem sf121_2 : SetField Geom_rail Int 2 (fun x z => { x with to_ := z }) := ⟨by decide, fun M x z cs zs w h hz => (SetField.snd (SetField.snd (SetField.fst SetField.self))).2 M _ z cs zs w h hz⟩
theorem sf121_1 : SetField Geom_rail Int 1 (fun x z => { x with from_ := z }) := ⟨by decide, fun M x z cs zs w h hz => (SetField.snd (SetField.fst SetField.self)).2 M _ z cs zs w h hz⟩
theorem sf121_0 : SetField Geom_rail Int 0 (fun x z => { x with at_ := z }) := ⟨by decide, fun M x z cs zs w h hz => (SetField.fst SetField.self).2 M _ z cs zs w h hz⟩
theorem bu121 : BuildAt Try.prog 121 [.int .i64 0, .int .i64 0, .int .i64 0, .int .i64 0, .bool false] [(0, 1), (1, 1), (2, 1), (3, 1), (4, 1)] := ⟨by kernel_rfl, _, Try.underlying121, by kernel_rfl⟩
theorem zc121 : ∀ (M : MSet) (w : World), Rep.cells M (⟨(0 : Int), (0 : Int), (0 : Int), (0 : Int), false⟩ : Geom_rail) [.int .i64 0, .int .i64 0, .int .i64 0, .int .i64 0, .bool false] w := fun _ _ => ⟨[_], _, rfl, ⟨rfl, by decide⟩, ⟨[_], _, rfl, ⟨rfl, by decide⟩, ⟨[_], _, rfl, ⟨rfl, by decide⟩, ⟨[_], _, rfl, ⟨rfl, by decide⟩, rfl⟩⟩⟩⟩
theorem sl109 : SliceOf Try.prog 109 121 := Try.underlying109
theorem hz121 : HasZero Try.prog 121 := by unfold HasZero; kernel_rfl
theorem rk109 : RowOK Try.prog 109 121 Geom_rail := ⟨sl109, ty121, by kernel_rfl⟩
theorem fnok95 : FnOK Try.prog 95 := ⟨_, Try.func95, by kernel_rfl, by kernel_rfl⟩
theorem sl108 : SliceOf Try.prog 108 109 := Try.underlying108
theorem tr109 : Ty Try.prog 109 Raw := ⟨⟨_, Try.underlying109, rfl⟩, by kernel_rfl⟩
theorem hz109 : HasZero Try.prog 109 := by unfold HasZero; kernel_rfl
theorem ty109 : Ty Try.prog 109 (List Geom_rail) := ⟨⟨_, Try.underlying109, rfl⟩, by kernel_rfl⟩
theorem fnok108 : FnOK Try.prog 108 := ⟨_, Try.func108, by kernel_rfl, by kernel_rfl⟩
theorem zo121 : ZeroOf Try.prog 121 (⟨(0 : Int), (0 : Int), (0 : Int), (0 : Int), false⟩ : Geom_rail) := ⟨[.int .i64 0, .int .i64 0, .int .i64 0, .int .i64 0, .bool false], by kernel_rfl, fun _ _ => ⟨[_], _, rfl, ⟨rfl, by decide⟩, ⟨[_], _, rfl, ⟨rfl, by decide⟩, ⟨[_], _, rfl, ⟨rfl, by decide⟩, ⟨[_], _, rfl, ⟨rfl, by decide⟩, rfl⟩⟩⟩⟩⟩
theorem fd121_1 : FieldAt Try.prog 121 1 1 := ⟨_, _, Try.underlying121, rfl, rfl, by kernel_rfl⟩
theorem hfd121_1 : HasField Geom_rail Int 1 Geom_rail.from_ := ⟨by decide, fun M x cs w h => (HasField.snd (HasField.fst HasField.self)).2 M _ cs w h⟩
theorem fnok117 : FnOK Try.prog 117 := ⟨_, Try.func117, by kernel_rfl, by kernel_rfl⟩
theorem fnok118 : FnOK Try.prog 118 := ⟨_, Try.func118, by kernel_rfl, by kernel_rfl⟩
theorem fd121_0 : FieldAt Try.prog 121 0 0 := ⟨_, _, Try.underlying121, rfl, rfl, by kernel_rfl⟩
theorem hfd121_0 : HasField Geom_rail Int 0 Geom_rail.at_ := ⟨by decide, fun M x cs w h => (HasField.fst HasField.self).2 M _ cs w h⟩
theorem fd121_2 : FieldAt Try.prog 121 2 2 := ⟨_, _, Try.underlying121, rfl, rfl, by kernel_rfl⟩
theorem hfd121_2 : HasField Geom_rail Int 2 Geom_rail.to_ := ⟨by decide, fun M x cs w h => (HasField.snd (HasField.snd (HasField.fst HasField.self))).2 M _ cs w h⟩
theorem fd121_4 : FieldAt Try.prog 121 4 4 := ⟨_, _, Try.underlying121, rfl, rfl, by kernel_rfl⟩
theorem hfd121_4 : HasField Geom_rail Bool 4 Geom_rail.back := ⟨by decide, fun M x cs w h => (HasField.snd (HasField.snd (HasField.snd (HasField.snd HasField.self)))).2 M _ cs w h⟩
theorem ty4 : Ty Try.prog 4 Bool := ⟨⟨_, Try.underlying4, rfl⟩, by kernel_rfl⟩
theorem fd121_3 : FieldAt Try.prog 121 3 3 := ⟨_, _, Try.underlying121, rfl, rfl, by kernel_rfl⟩
theorem hfd121_3 : HasField Geom_rail Int 3 Geom_rail.along := ⟨by decide, fun M x cs w h => (HasField.snd (HasField.snd (HasField.snd (HasField.fst HasField.self)))).2 M _ cs w h⟩
theorem sl90 : SliceOf Try.prog 90 3 := Try.underlying90
theorem hz3 : HasZero Try.prog 3 := by unfold HasZero; kernel_rfl
theorem rk90 : RowOK Try.prog 90 3 Int := ⟨sl90, ty3, by kernel_rfl⟩
theorem rk108 : RowOK Try.prog 108 109 (List Geom_rail) := ⟨sl108, ty109, by kernel_rfl⟩
theorem sl86 : SliceOf Try.prog 86 90 := Try.underlying86
theorem ty90 : Ty Try.prog 90 (List Int) := ⟨⟨_, Try.underlying90, rfl⟩, by kernel_rfl⟩
theorem hz90 : HasZero Try.prog 90 := by unfold HasZero; kernel_rfl
theorem rk86 : RowOK Try.prog 86 90 (List Int) := ⟨sl86, ty90, by kernel_rfl⟩
theorem fnok25 : FnOK Try.prog 25 := ⟨_, Try.func25, by kernel_rfl, by kernel_rfl⟩
theorem fnok43 : FnOK Try.prog 43 := ⟨_, Try.func43, by kernel_rfl, by kernel_rfl⟩
theorem fnok48 : FnOK Try.prog 48 := ⟨_, Try.func48, by kernel_rfl, by kernel_rfl⟩
theorem fnok10 : FnOK Try.prog 10 := ⟨_, Try.func10, by kernel_rfl, by kernel_rfl⟩
theorem fnok26 : FnOK Try.prog 26 := ⟨_, Try.func26, by kernel_rfl, by kernel_rfl⟩
theorem fnok90 : FnOK Try.prog 90 := ⟨_, Try.func90, by kernel_rfl, by kernel_rfl⟩
theorem sl94 : SliceOf Try.prog 94 24 := Try.underlying94
theorem ty24 : Ty Try.prog 24 Int := ⟨⟨_, Try.underlying24, rfl⟩, by kernel_rfl⟩
theorem hz24 : HasZero Try.prog 24 := by unfold HasZero; kernel_rfl
theorem fnok9 : FnOK Try.prog 9 := ⟨_, Try.func9, by kernel_rfl, by kernel_rfl⟩
theorem fnok13 : FnOK Try.prog 13 := ⟨_, Try.func13, by kernel_rfl, by kernel_rfl⟩
theorem bu23 : BuildAt Try.prog 23 [.int .i64 0, .int .i64 0] [(0, 1), (1, 1)] := ⟨by kernel_rfl, _, Try.underlying23, by kernel_rfl⟩
theorem zc23 : ∀ (M : MSet) (w : World), Rep.cells M (⟨(0 : Int), (0 : Int)⟩ : Point) [.int .i64 0, .int .i64 0] w := fun _ _ => ⟨[_], _, rfl, ⟨rfl, by decide⟩, ⟨rfl, by decide⟩⟩
theorem sf23_0 : SetField Point Int 0 (fun x z => { x with X := z }) := ⟨by decide, fun M x z cs zs w h hz => (SetField.fst SetField.self).2 M _ z cs zs w h hz⟩
theorem sf23_1 : SetField Point Int 1 (fun x z => { x with Y := z }) := ⟨by decide, fun M x z cs zs w h hz => (SetField.snd SetField.self).2 M _ z cs zs w h hz⟩
theorem fnok11 : FnOK Try.prog 11 := ⟨_, Try.func11, by kernel_rfl, by kernel_rfl⟩
theorem hz23 : HasZero Try.prog 23 := by unfold HasZero; kernel_rfl
theorem fnok80 : FnOK Try.prog 80 := ⟨_, Try.func80, by kernel_rfl, by kernel_rfl⟩
theorem fnok83 : FnOK Try.prog 83 := ⟨_, Try.func83, by kernel_rfl, by kernel_rfl⟩
theorem fnok76 : FnOK Try.prog 76 := ⟨_, Try.func76, by kernel_rfl, by kernel_rfl⟩
theorem tr90 : Ty Try.prog 90 Raw := ⟨⟨_, Try.underlying90, rfl⟩, by kernel_rfl⟩
theorem rkraw86 : RowOK Try.prog 86 90 Raw := ⟨sl86, tr90, by kernel_rfl⟩
theorem zraw90 : ZeroOf Try.prog 90 (⟨.slice none 0 0⟩ : Raw) := ⟨[.slice none 0 0], by kernel_rfl, fun _ _ => ⟨rfl, rfl, rfl⟩⟩
theorem fnok111 : FnOK Try.prog 111 := ⟨_, Try.func111, by kernel_rfl, by kernel_rfl⟩
theorem fnok92 : FnOK Try.prog 92 := ⟨_, Try.func92, by kernel_rfl, by kernel_rfl⟩
theorem fnok97 : FnOK Try.prog 97 := ⟨_, Try.func97, by kernel_rfl, by kernel_rfl⟩
theorem fnok75 : FnOK Try.prog 75 := ⟨_, Try.func75, by kernel_rfl, by kernel_rfl⟩
theorem fnok77 : FnOK Try.prog 77 := ⟨_, Try.func77, by kernel_rfl, by kernel_rfl⟩
theorem fnok78 : FnOK Try.prog 78 := ⟨_, Try.func78, by kernel_rfl, by kernel_rfl⟩

end Go.Proofs.Ytieepiblancbpaa
