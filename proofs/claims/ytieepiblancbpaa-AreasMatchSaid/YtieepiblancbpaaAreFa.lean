/-
  Closed facts on the program.
-/
import Derived.Test.YtieepiblancbpaaRows
import Derived.Test.YtieepiblancbpaaAreLi1
set_option maxRecDepth 100000
set_option linter.unusedSimpArgs false
set_option linter.unusedVariables false
namespace Go.Proofs.Ytieepiblancbpaa
open Go Go.DB Go.RowKit

theorem mixed : Try.prog.follows .mixedOrders = true := by kernel_rfl
def sortF23_ren : Shelf.Ren where
  f := fun x => match x with | 6 => 99 | 15 => 114 | 14 => 113 | 28 => 128 | 29 => 129 | 20 => 120 | 21 => 121 | 22 => 122 | 23 => 123 | 24 => 124 | 25 => 125 | 26 => 126 | 27 => 127 | 46 => 140 | 47 => 141 | 48 => 142 | 49 => 143 | 50 => 144 | 57 => 157 | n => n
  t := fun x => match x with | 22 => 66 | 24 => 23 | 25 => 101 | 3 => 3 | 39 => 119 | 0 => 0 | 53 => 136 | 55 => 138 | 4 => 4 | 46 => 130 | 45 => 129 | 50 => 124 | 5 => 5 | 9 => 9 | 66 => 146 | 70 => 150 | 76 => 159 | 77 => 62 | n => n
  g := fun n => n
theorem sortF23_lay : SlLaysF0.n6 Try.prog sortF23_ren where
  mixed := by kernel_rfl
  f6 := ⟨ "slices.SortFunc[[]drawboard/api.Point,drawboard/api.Point]", of_decide_eq_true (by kernel_rfl), Try.func99.trans (by kernel_rfl)⟩
  f14 := ⟨ "slices.pdqsortCmpFunc[drawboard/api.Point]", of_decide_eq_true (by kernel_rfl), Try.func113.trans (by kernel_rfl)⟩
  f15 := Try.func114.trans (by kernel_rfl)
  f20 := ⟨ "slices.insertionSortCmpFunc[drawboard/api.Point]", of_decide_eq_true (by kernel_rfl), Try.func120.trans (by kernel_rfl)⟩
  f21 := ⟨ "slices.heapSortCmpFunc[drawboard/api.Point]", of_decide_eq_true (by kernel_rfl), Try.func121.trans (by kernel_rfl)⟩
  f22 := ⟨ "slices.breakPatternsCmpFunc[drawboard/api.Point]", of_decide_eq_true (by kernel_rfl), Try.func122.trans (by kernel_rfl)⟩
  f23 := ⟨ "slices.choosePivotCmpFunc[drawboard/api.Point]", of_decide_eq_true (by kernel_rfl), Try.func123.trans (by kernel_rfl)⟩
  f24 := ⟨ "slices.reverseRangeCmpFunc[drawboard/api.Point]", of_decide_eq_true (by kernel_rfl), Try.func124.trans (by kernel_rfl)⟩
  f25 := ⟨ "slices.partialInsertionSortCmpFunc[drawboard/api.Point]", of_decide_eq_true (by kernel_rfl), Try.func125.trans (by kernel_rfl)⟩
  f26 := ⟨ "slices.partitionEqualCmpFunc[drawboard/api.Point]", of_decide_eq_true (by kernel_rfl), Try.func126.trans (by kernel_rfl)⟩
  f27 := ⟨ "slices.partitionCmpFunc[drawboard/api.Point]", of_decide_eq_true (by kernel_rfl), Try.func127.trans (by kernel_rfl)⟩
  f28 := Try.func128.trans (by kernel_rfl)
  f29 := Try.func129.trans (by kernel_rfl)
  f46 := ⟨ "slices.siftDownCmpFunc[drawboard/api.Point]", of_decide_eq_true (by kernel_rfl), Try.func140.trans (by kernel_rfl)⟩
  f47 := Try.func141.trans (by kernel_rfl)
  f48 := Try.func142.trans (by kernel_rfl)
  f49 := ⟨ "slices.medianAdjacentCmpFunc[drawboard/api.Point]", of_decide_eq_true (by kernel_rfl), Try.func143.trans (by kernel_rfl)⟩
  f50 := ⟨ "slices.medianCmpFunc[drawboard/api.Point]", of_decide_eq_true (by kernel_rfl), Try.func144.trans (by kernel_rfl)⟩
  f57 := ⟨ "slices.order2CmpFunc[drawboard/api.Point]", of_decide_eq_true (by kernel_rfl), Try.func157.trans (by kernel_rfl)⟩
  t0 := Try.underlying0
  a0 := Try.isAgg0
  z0 := Try.sizeOf0
  v0 := Try.zeroValue0
  t3 := Try.underlying3
  a3 := Try.isAgg3
  z3 := Try.sizeOf3
  v3 := Try.zeroValue3
  t4 := Try.underlying4
  a4 := Try.isAgg4
  z4 := Try.sizeOf4
  v4 := Try.zeroValue4
  t5 := Try.underlying5
  a5 := Try.isAgg5
  z5 := Try.sizeOf5
  v5 := Try.zeroValue5
  t9 := Try.underlying9
  a9 := Try.isAgg9
  z9 := Try.sizeOf9
  v9 := Try.zeroValue9
  t22 := Try.underlying66
  a22 := Try.isAgg66
  z22 := Try.sizeOf66
  v22 := Try.zeroValue66
  t25 := Try.underlying101
  a25 := Try.isAgg101
  z25 := Try.sizeOf101
  v25 := Try.zeroValue101
  t39 := Try.underlying119
  a39 := Try.isAgg119
  z39 := Try.sizeOf119
  v39 := Try.zeroValue119
  t45 := Try.underlying129
  a45 := Try.isAgg129
  z45 := Try.sizeOf129
  v45 := Try.zeroValue129
  t46 := Try.underlying130
  a46 := Try.isAgg130
  z46 := Try.sizeOf130
  v46 := Try.zeroValue130
  t50 := Try.underlying124
  a50 := Try.isAgg124
  z50 := Try.sizeOf124
  v50 := Try.zeroValue124
  t53 := Try.underlying136
  a53 := Try.isAgg136
  z53 := Try.sizeOf136
  v53 := Try.zeroValue136
  t55 := Try.underlying138
  a55 := Try.isAgg138
  z55 := Try.sizeOf138
  v55 := Try.zeroValue138
  t66 := Try.underlying146
  a66 := Try.isAgg146
  z66 := Try.sizeOf146
  v66 := Try.zeroValue146
  t70 := Try.underlying150
  a70 := Try.isAgg150
  z70 := Try.sizeOf150
  v70 := Try.zeroValue150
  t76 := Try.underlying159
  a76 := Try.isAgg159
  z76 := Try.sizeOf159
  v76 := Try.zeroValue159
  t77 := Try.underlying62
  a77 := Try.isAgg62
  z77 := Try.sizeOf62
  v77 := Try.zeroValue62

theorem fnok7 : FnOK Try.prog 7 := ⟨_, Try.func7, by kernel_rfl, by kernel_rfl⟩
theorem ty66 : Ty Try.prog 66 (List Point) := ⟨⟨_, Try.underlying66, rfl⟩, by kernel_rfl⟩
theorem fnok48 : FnOK Try.prog 48 := ⟨_, Try.func48, by kernel_rfl, by kernel_rfl⟩
theorem sl66 : SliceOf Try.prog 66 23 := Try.underlying66
theorem ty23 : Ty Try.prog 23 Point := ⟨⟨_, Try.underlying23, rfl⟩, by kernel_rfl⟩
theorem zo23 : ZeroOf Try.prog 23 (⟨(0 : Int), (0 : Int)⟩ : Point) := ⟨[.int .i64 0, .int .i64 0], by kernel_rfl, fun _ _ => ⟨[_], _, rfl, ⟨rfl, by decide⟩, ⟨rfl, by decide⟩⟩⟩
theorem fnok10 : FnOK Try.prog 10 := ⟨_, Try.func10, by kernel_rfl, by kernel_rfl⟩
theorem fd23_0 : FieldAt Try.prog 23 0 0 := ⟨_, _, Try.underlying23, rfl, rfl, by kernel_rfl⟩
theorem hfd23_0 : HasField Point Int 0 Point.X := ⟨by decide, fun M x cs w h => (HasField.fst HasField.self).2 M _ cs w h⟩
theorem ty3 : Ty Try.prog 3 Int := ⟨⟨_, Try.underlying3, rfl⟩, by kernel_rfl⟩
theorem fnok26 : FnOK Try.prog 26 := ⟨_, Try.func26, by kernel_rfl, by kernel_rfl⟩
theorem fd23_1 : FieldAt Try.prog 23 1 1 := ⟨_, _, Try.underlying23, rfl, rfl, by kernel_rfl⟩
theorem hfd23_1 : HasField Point Int 1 Point.Y := ⟨by decide, fun M x cs w h => (HasField.snd HasField.self).2 M _ cs w h⟩
theorem fnok25 : FnOK Try.prog 25 := ⟨_, Try.func25, by kernel_rfl, by kernel_rfl⟩
theorem fnok62 : FnOK Try.prog 62 := ⟨_, Try.func62, by kernel_rfl, by kernel_rfl⟩
theorem fnok96 : FnOK Try.prog 96 := ⟨_, Try.func96, by kernel_rfl, by kernel_rfl⟩
theorem fnok47 : FnOK Try.prog 47 := ⟨_, Try.func47, by kernel_rfl, by kernel_rfl⟩
theorem fnok79 : FnOK Try.prog 79 := ⟨_, Try.func79, by kernel_rfl, by kernel_rfl⟩
theorem fnok34 : FnOK Try.prog 34 := ⟨_, Try.func34, by kernel_rfl, by kernel_rfl⟩
theorem fnok89 : FnOK Try.prog 89 := ⟨_, Try.func89, by kernel_rfl, by kernel_rfl⟩
theorem fnok63 : FnOK Try.prog 63 := ⟨_, Try.func63, by kernel_rfl, by kernel_rfl⟩
theorem fnok81 : FnOK Try.prog 81 := ⟨_, Try.func81, by kernel_rfl, by kernel_rfl⟩
theorem fnok112 : FnOK Try.prog 112 := ⟨_, Try.func112, by kernel_rfl, by kernel_rfl⟩
theorem fnok13 : FnOK Try.prog 13 := ⟨_, Try.func13, by kernel_rfl, by kernel_rfl⟩
theorem bu23 : BuildAt Try.prog 23 [.int .i64 0, .int .i64 0] [(0, 1), (1, 1)] := ⟨by kernel_rfl, _, Try.underlying23, by kernel_rfl⟩
theorem zc23 : ∀ (M : MSet) (w : World), Rep.cells M (⟨(0 : Int), (0 : Int)⟩ : Point) [.int .i64 0, .int .i64 0] w := fun _ _ => ⟨[_], _, rfl, ⟨rfl, by decide⟩, ⟨rfl, by decide⟩⟩
theorem sf23_0 : SetField Point Int 0 (fun x z => { x with X := z }) := ⟨by decide, fun M x z cs zs w h hz => (SetField.fst SetField.self).2 M _ z cs zs w h hz⟩
theorem sf23_1 : SetField Point Int 1 (fun x z => { x with Y := z }) := ⟨by decide, fun M x z cs zs w h hz => (SetField.snd SetField.self).2 M _ z cs zs w h hz⟩
theorem fnok11 : FnOK Try.prog 11 := ⟨_, Try.func11, by kernel_rfl, by kernel_rfl⟩
theorem hz23 : HasZero Try.prog 23 := by unfold HasZero; kernel_rfl
theorem fnok80 : FnOK Try.prog 80 := ⟨_, Try.func80, by kernel_rfl, by kernel_rfl⟩
theorem fnok83 : FnOK Try.prog 83 := ⟨_, Try.func83, by kernel_rfl, by kernel_rfl⟩
theorem sl94 : SliceOf Try.prog 94 24 := Try.underlying94
theorem ty24 : Ty Try.prog 24 Int := ⟨⟨_, Try.underlying24, rfl⟩, by kernel_rfl⟩
theorem hz24 : HasZero Try.prog 24 := by unfold HasZero; kernel_rfl
theorem fnok9 : FnOK Try.prog 9 := ⟨_, Try.func9, by kernel_rfl, by kernel_rfl⟩
theorem fnok64 : FnOK Try.prog 64 := ⟨_, Try.func64, by kernel_rfl, by kernel_rfl⟩
theorem fnok65 : FnOK Try.prog 65 := ⟨_, Try.func65, by kernel_rfl, by kernel_rfl⟩
theorem fnok97 : FnOK Try.prog 97 := ⟨_, Try.func97, by kernel_rfl, by kernel_rfl⟩
theorem fnok14 : FnOK Try.prog 14 := ⟨_, Try.func14, by kernel_rfl, by kernel_rfl⟩
theorem fnok66 : FnOK Try.prog 66 := ⟨_, Try.func66, by kernel_rfl, by kernel_rfl⟩
theorem fnok67 : FnOK Try.prog 67 := ⟨_, Try.func67, by kernel_rfl, by kernel_rfl⟩
theorem fnok85 : FnOK Try.prog 85 := ⟨_, Try.func85, by kernel_rfl, by kernel_rfl⟩
theorem fnok68 : FnOK Try.prog 68 := ⟨_, Try.func68, by kernel_rfl, by kernel_rfl⟩
theorem fnok98 : FnOK Try.prog 98 := ⟨_, Try.func98, by kernel_rfl, by kernel_rfl⟩
theorem rk66 : RowOK Try.prog 66 23 Point := ⟨sl66, ty23, by kernel_rfl⟩
theorem fnok99 : FnOK Try.prog 99 := ⟨_, Try.func99, by kernel_rfl, by kernel_rfl⟩
theorem fnok100 : FnOK Try.prog 100 := ⟨_, Try.func100, by kernel_rfl, by kernel_rfl⟩
theorem fnok101 : FnOK Try.prog 101 := ⟨_, Try.func101, by kernel_rfl, by kernel_rfl⟩
theorem eq23 : DB.EqAt Try.prog 23 Point := eqAt_ints (n := 2) (fun p => [p.X, p.Y]) (fun a b => by cases a; cases b; simp) (fun _ => rfl) (fun M v w a h => by obtain ⟨cs, h, rfl⟩ := h; obtain ⟨_, _, rfl, ⟨rfl, _⟩, ⟨rfl, _⟩⟩ := h; rfl) ⟨by kernel_rfl, by kernel_rfl, by kernel_rfl, by kernel_rfl⟩
theorem fnok102 : FnOK Try.prog 102 := ⟨_, Try.func102, by kernel_rfl, by kernel_rfl⟩
theorem fnok103 : FnOK Try.prog 103 := ⟨_, Try.func103, by kernel_rfl, by kernel_rfl⟩
theorem zo66 : ZeroOf Try.prog 66 ([] : (List Point)) := ⟨[.slice none 0 0], by kernel_rfl, fun _ _ => ⟨none, 0, rfl, Nat.le_refl _, by decide, rfl⟩⟩
theorem fnok69 : FnOK Try.prog 69 := ⟨_, Try.func69, by kernel_rfl, by kernel_rfl⟩
theorem fnok70 : FnOK Try.prog 70 := ⟨_, Try.func70, by kernel_rfl, by kernel_rfl⟩
theorem fnok104 : FnOK Try.prog 104 := ⟨_, Try.func104, by kernel_rfl, by kernel_rfl⟩
theorem fnok105 : FnOK Try.prog 105 := ⟨_, Try.func105, by kernel_rfl, by kernel_rfl⟩
theorem fnok86 : FnOK Try.prog 86 := ⟨_, Try.func86, by kernel_rfl, by kernel_rfl⟩
theorem fnok84 : FnOK Try.prog 84 := ⟨_, Try.func84, by kernel_rfl, by kernel_rfl⟩
theorem fnok92 : FnOK Try.prog 92 := ⟨_, Try.func92, by kernel_rfl, by kernel_rfl⟩
theorem fnok54 : FnOK Try.prog 54 := ⟨_, Try.func54, by kernel_rfl, by kernel_rfl⟩
theorem fnok93 : FnOK Try.prog 93 := ⟨_, Try.func93, by kernel_rfl, by kernel_rfl⟩
theorem fnok71 : FnOK Try.prog 71 := ⟨_, Try.func71, by kernel_rfl, by kernel_rfl⟩
theorem fnok73 : FnOK Try.prog 73 := ⟨_, Try.func73, by kernel_rfl, by kernel_rfl⟩
theorem fnok72 : FnOK Try.prog 72 := ⟨_, Try.func72, by kernel_rfl, by kernel_rfl⟩
theorem fnok106 : FnOK Try.prog 106 := ⟨_, Try.func106, by kernel_rfl, by kernel_rfl⟩

end Go.Proofs.Ytieepiblancbpaa
