/-
  Closed facts on the program.
-/
import Derived.Test.YtjkfpjpepjjhlaaRows
import Derived.Test.YtjkfpjpepjjhlaaTnbLi1
set_option maxRecDepth 100000
set_option linter.unusedSimpArgs false
set_option linter.unusedVariables false
namespace Go.Proofs.Ytjkfpjpepjjhlaa
open Go Go.DB Go.RowKit

theorem mixed : Try.prog.follows .mixedOrders = true := by kernel_rfl
theorem mx : Try.prog.follows .mixedOrders = true := mixed
def compactI_ren : Shelf.Ren where
  f := fun x => match x with | 43 => 79 | n => n
  t := fun x => match x with | 22 => 61 | 23 => 3 | 3 => 3 | 4 => 4 | 0 => 0 | n => n
  g := fun n => n
theorem compactI_lay : SlLaysN.n43 Try.prog compactI_ren where
  mixed := by kernel_rfl
  f43 := ⟨ "slices.Compact[[]int,int]", of_decide_eq_true (by kernel_rfl), Try.func79.trans (by kernel_rfl)⟩
  t0 := Try.underlying0
  a0 := Try.isAgg0
  z0 := Try.sizeOf0
  v0 := Try.zeroValue0
  t3 := Try.underlying3
  a3 := Try.isAgg3
  z3 := Try.sizeOf3
  v3 := Try.zeroValue3
  t4 := Try.underlying4
  a4 := Try.isAgg4
  z4 := Try.sizeOf4
  v4 := Try.zeroValue4
  t22 := Try.underlying61
  a22 := Try.isAgg61
  z22 := Try.sizeOf61
  v22 := Try.zeroValue61
  t23 := Try.underlying3
  a23 := Try.isAgg3
  z23 := Try.sizeOf3
  v23 := Try.zeroValue3
  i23 := by kernel_rfl

def sortI_ren : Shelf.Ren where
  f := fun x => match x with | 5 => 78 | 8 => 90 | 7 => 89 | 19 => 101 | 20 => 102 | 10 => 93 | 11 => 94 | 12 => 95 | 13 => 96 | 14 => 97 | 15 => 98 | 16 => 80 | 17 => 99 | 18 => 100 | 30 => 103 | 31 => 104 | 32 => 105 | 33 => 106 | 34 => 107 | 35 => 91 | 40 => 108 | n => n
  t := fun x => match x with | 23 => 61 | 25 => 3 | 3 => 3 | 32 => 119 | 22 => 61 | 0 => 0 | 44 => 144 | 46 => 146 | 4 => 4 | 36 => 138 | 35 => 137 | 41 => 84 | 5 => 5 | 9 => 9 | 53 => 147 | 57 => 151 | 63 => 153 | 64 => 154 | n => n
  g := fun n => n
theorem sortI_lay : SlLaysM.n5 Try.prog sortI_ren where
  mixed := by kernel_rfl
  f5 := ⟨ "slices.Sort[[]int,int]", of_decide_eq_true (by kernel_rfl), Try.func78.trans (by kernel_rfl)⟩
  f7 := ⟨ "slices.pdqsortOrdered[int]", of_decide_eq_true (by kernel_rfl), Try.func89.trans (by kernel_rfl)⟩
  f8 := Try.func90.trans (by kernel_rfl)
  f10 := ⟨ "slices.insertionSortOrdered[int]", of_decide_eq_true (by kernel_rfl), Try.func93.trans (by kernel_rfl)⟩
  f11 := ⟨ "slices.heapSortOrdered[int]", of_decide_eq_true (by kernel_rfl), Try.func94.trans (by kernel_rfl)⟩
  f12 := ⟨ "slices.breakPatternsOrdered[int]", of_decide_eq_true (by kernel_rfl), Try.func95.trans (by kernel_rfl)⟩
  f13 := ⟨ "slices.choosePivotOrdered[int]", of_decide_eq_true (by kernel_rfl), Try.func96.trans (by kernel_rfl)⟩
  f14 := ⟨ "slices.reverseRangeOrdered[int]", of_decide_eq_true (by kernel_rfl), Try.func97.trans (by kernel_rfl)⟩
  f15 := ⟨ "slices.partialInsertionSortOrdered[int]", of_decide_eq_true (by kernel_rfl), Try.func98.trans (by kernel_rfl)⟩
  f16 := ⟨ "cmp.Less[int]", of_decide_eq_true (by kernel_rfl), Try.func80.trans (by kernel_rfl)⟩
  f17 := ⟨ "slices.partitionEqualOrdered[int]", of_decide_eq_true (by kernel_rfl), Try.func99.trans (by kernel_rfl)⟩
  f18 := ⟨ "slices.partitionOrdered[int]", of_decide_eq_true (by kernel_rfl), Try.func100.trans (by kernel_rfl)⟩
  f19 := Try.func101.trans (by kernel_rfl)
  f20 := Try.func102.trans (by kernel_rfl)
  f30 := ⟨ "slices.siftDownOrdered[int]", of_decide_eq_true (by kernel_rfl), Try.func103.trans (by kernel_rfl)⟩
  f31 := Try.func104.trans (by kernel_rfl)
  f32 := Try.func105.trans (by kernel_rfl)
  f33 := ⟨ "slices.medianAdjacentOrdered[int]", of_decide_eq_true (by kernel_rfl), Try.func106.trans (by kernel_rfl)⟩
  f34 := ⟨ "slices.medianOrdered[int]", of_decide_eq_true (by kernel_rfl), Try.func107.trans (by kernel_rfl)⟩
  f35 := ⟨ "cmp.isNaN[int]", of_decide_eq_true (by kernel_rfl), Try.func91.trans (by kernel_rfl)⟩
  f40 := ⟨ "slices.order2Ordered[int]", of_decide_eq_true (by kernel_rfl), Try.func108.trans (by kernel_rfl)⟩
  t0 := Try.underlying0
  a0 := Try.isAgg0
  z0 := Try.sizeOf0
  v0 := Try.zeroValue0
  t3 := Try.underlying3
  a3 := Try.isAgg3
  z3 := Try.sizeOf3
  v3 := Try.zeroValue3
  t4 := Try.underlying4
  a4 := Try.isAgg4
  z4 := Try.sizeOf4
  v4 := Try.zeroValue4
  t5 := Try.underlying5
  a5 := Try.isAgg5
  z5 := Try.sizeOf5
  v5 := Try.zeroValue5
  t9 := Try.underlying9
  a9 := Try.isAgg9
  z9 := Try.sizeOf9
  v9 := Try.zeroValue9
  t22 := Try.underlying61
  a22 := Try.isAgg61
  z22 := Try.sizeOf61
  v22 := Try.zeroValue61
  t23 := Try.underlying61
  a23 := Try.isAgg61
  z23 := Try.sizeOf61
  v23 := Try.zeroValue61
  t25 := Try.underlying3
  a25 := Try.isAgg3
  z25 := Try.sizeOf3
  v25 := Try.zeroValue3
  t32 := Try.underlying119
  a32 := Try.isAgg119
  z32 := Try.sizeOf119
  v32 := Try.zeroValue119
  t35 := Try.underlying137
  a35 := Try.isAgg137
  z35 := Try.sizeOf137
  v35 := Try.zeroValue137
  t36 := Try.underlying138
  a36 := Try.isAgg138
  z36 := Try.sizeOf138
  v36 := Try.zeroValue138
  t41 := Try.underlying84
  a41 := Try.isAgg84
  z41 := Try.sizeOf84
  v41 := Try.zeroValue84
  t44 := Try.underlying144
  a44 := Try.isAgg144
  z44 := Try.sizeOf144
  v44 := Try.zeroValue144
  t46 := Try.underlying146
  a46 := Try.isAgg146
  z46 := Try.sizeOf146
  v46 := Try.zeroValue146
  t53 := Try.underlying147
  a53 := Try.isAgg147
  z53 := Try.sizeOf147
  v53 := Try.zeroValue147
  t57 := Try.underlying151
  a57 := Try.isAgg151
  z57 := Try.sizeOf151
  v57 := Try.zeroValue151
  t63 := Try.underlying153
  a63 := Try.isAgg153
  z63 := Try.sizeOf153
  v63 := Try.zeroValue153
  t64 := Try.underlying154
  a64 := Try.isAgg154
  z64 := Try.sizeOf154
  v64 := Try.zeroValue154

theorem fnok79 : FnOK Try.prog 79 := ⟨_, Try.func79, by kernel_rfl, by kernel_rfl⟩
theorem fnok78 : FnOK Try.prog 78 := ⟨_, Try.func78, by kernel_rfl, by kernel_rfl⟩
theorem fnok3 : FnOK Try.prog 3 := ⟨_, Try.func3, by kernel_rfl, by kernel_rfl⟩
theorem ty26 : Ty Try.prog 26 Task := ⟨⟨_, Try.underlying26, rfl⟩, by kernel_rfl⟩
theorem fnok6 : FnOK Try.prog 6 := ⟨_, Try.func6, by kernel_rfl, by kernel_rfl⟩
theorem fnok8 : FnOK Try.prog 8 := ⟨_, Try.func8, by kernel_rfl, by kernel_rfl⟩
theorem fd26_0 : FieldAt Try.prog 26 0 0 := ⟨_, _, Try.underlying26, rfl, rfl, by kernel_rfl⟩
theorem hfd26_0 : HasField Task Point 0 Task.From := ⟨by decide, fun M x cs w h => (HasField.fst HasField.self).2 M _ cs w h⟩
theorem ty23 : Ty Try.prog 23 Point := ⟨⟨_, Try.underlying23, rfl⟩, by kernel_rfl⟩
theorem fd26_1 : FieldAt Try.prog 26 1 2 := ⟨_, _, Try.underlying26, rfl, rfl, by kernel_rfl⟩
theorem hfd26_1 : HasField Task Int 2 Task.FromSide := ⟨by decide, fun M x cs w h => (HasField.snd (HasField.fst HasField.self)).2 M _ cs w h⟩
theorem ty3 : Ty Try.prog 3 Int := ⟨⟨_, Try.underlying3, rfl⟩, by kernel_rfl⟩
theorem sf65_1 : SetField Anon_p_side Int 2 (fun x z => { x with side := z }) := ⟨by decide, fun M x z cs zs w h hz => (SetField.snd SetField.self).2 M _ z cs zs w h hz⟩
theorem sf65_0 : SetField Anon_p_side Point 0 (fun x z => { x with p := z }) := ⟨by decide, fun M x z cs zs w h hz => (SetField.fst SetField.self).2 M _ z cs zs w h hz⟩
theorem bu65 : BuildAt Try.prog 65 [.int .i64 0, .int .i64 0, .int .i64 0] [(0, 2), (2, 1)] := ⟨by kernel_rfl, _, Try.underlying65, by kernel_rfl⟩
theorem zc65 : ∀ (M : MSet) (w : World), Rep.cells M (⟨(⟨(0 : Int), (0 : Int)⟩ : Point), (0 : Int)⟩ : Anon_p_side) [.int .i64 0, .int .i64 0, .int .i64 0] w := fun _ _ => ⟨[_, _], _, rfl, ⟨[_], _, rfl, ⟨rfl, by decide⟩, ⟨rfl, by decide⟩⟩, ⟨rfl, by decide⟩⟩
theorem fd26_2 : FieldAt Try.prog 26 2 3 := ⟨_, _, Try.underlying26, rfl, rfl, by kernel_rfl⟩
theorem hfd26_2 : HasField Task Point 3 Task.To := ⟨by decide, fun M x cs w h => (HasField.snd (HasField.snd (HasField.fst HasField.self))).2 M _ cs w h⟩
theorem fd26_3 : FieldAt Try.prog 26 3 5 := ⟨_, _, Try.underlying26, rfl, rfl, by kernel_rfl⟩
theorem hfd26_3 : HasField Task Int 5 Task.ToSide := ⟨by decide, fun M x cs w h => (HasField.snd (HasField.snd (HasField.snd (HasField.fst HasField.self)))).2 M _ cs w h⟩
theorem sl66 : SliceOf Try.prog 66 65 := Try.underlying66
theorem ty65 : Ty Try.prog 65 Anon_p_side := ⟨⟨_, Try.underlying65, rfl⟩, by kernel_rfl⟩
theorem hz65 : HasZero Try.prog 65 := by unfold HasZero; kernel_rfl
theorem zo65 : ZeroOf Try.prog 65 (⟨(⟨(0 : Int), (0 : Int)⟩ : Point), (0 : Int)⟩ : Anon_p_side) := ⟨[.int .i64 0, .int .i64 0, .int .i64 0], by kernel_rfl, fun _ _ => ⟨[_, _], _, rfl, ⟨[_], _, rfl, ⟨rfl, by decide⟩, ⟨rfl, by decide⟩⟩, ⟨rfl, by decide⟩⟩⟩
theorem fd65_0 : FieldAt Try.prog 65 0 0 := ⟨_, _, Try.underlying65, rfl, rfl, by kernel_rfl⟩
theorem hfd65_0 : HasField Anon_p_side Point 0 Anon_p_side.p := ⟨by decide, fun M x cs w h => (HasField.fst HasField.self).2 M _ cs w h⟩
theorem fnok31 : FnOK Try.prog 31 := ⟨_, Try.func31, by kernel_rfl, by kernel_rfl⟩
theorem fd23_0 : FieldAt Try.prog 23 0 0 := ⟨_, _, Try.underlying23, rfl, rfl, by kernel_rfl⟩
theorem hfd23_0 : HasField Point Int 0 Point.X := ⟨by decide, fun M x cs w h => (HasField.fst HasField.self).2 M _ cs w h⟩
theorem fnok73 : FnOK Try.prog 73 := ⟨_, Try.func73, by kernel_rfl, by kernel_rfl⟩
theorem fd23_1 : FieldAt Try.prog 23 1 1 := ⟨_, _, Try.underlying23, rfl, rfl, by kernel_rfl⟩
theorem hfd23_1 : HasField Point Int 1 Point.Y := ⟨by decide, fun M x cs w h => (HasField.snd HasField.self).2 M _ cs w h⟩
theorem fd65_1 : FieldAt Try.prog 65 1 2 := ⟨_, _, Try.underlying65, rfl, rfl, by kernel_rfl⟩
theorem hfd65_1 : HasField Anon_p_side Int 2 Anon_p_side.side := ⟨by decide, fun M x cs w h => (HasField.snd HasField.self).2 M _ cs w h⟩
theorem fnok32 : FnOK Try.prog 32 := ⟨_, Try.func32, by kernel_rfl, by kernel_rfl⟩
theorem fd26_4 : FieldAt Try.prog 26 4 6 := ⟨_, _, Try.underlying26, rfl, rfl, by kernel_rfl⟩
theorem hfd26_4 : HasField Task (List Box) 6 Task.Walls := ⟨by decide, fun M x cs w h => (HasField.snd (HasField.snd (HasField.snd (HasField.snd (HasField.fst HasField.self))))).2 M _ cs w h⟩
theorem ty24 : Ty Try.prog 24 (List Box) := ⟨⟨_, Try.underlying24, rfl⟩, by kernel_rfl⟩
theorem sl24 : SliceOf Try.prog 24 70 := Try.underlying24
theorem ty70 : Ty Try.prog 70 Box := ⟨⟨_, Try.underlying70, rfl⟩, by kernel_rfl⟩
theorem zo70 : ZeroOf Try.prog 70 (⟨(0 : Int), (0 : Int), (0 : Int), (0 : Int)⟩ : Box) := ⟨[.int .i64 0, .int .i64 0, .int .i64 0, .int .i64 0], by kernel_rfl, fun _ _ => ⟨[_], _, rfl, ⟨rfl, by decide⟩, ⟨[_], _, rfl, ⟨rfl, by decide⟩, ⟨[_], _, rfl, ⟨rfl, by decide⟩, ⟨rfl, by decide⟩⟩⟩⟩⟩
theorem fnok33 : FnOK Try.prog 33 := ⟨_, Try.func33, by kernel_rfl, by kernel_rfl⟩
theorem fd70_0 : FieldAt Try.prog 70 0 0 := ⟨_, _, Try.underlying70, rfl, rfl, by kernel_rfl⟩
theorem hfd70_0 : HasField Box Int 0 Box.X := ⟨by decide, fun M x cs w h => (HasField.fst HasField.self).2 M _ cs w h⟩
theorem fd70_1 : FieldAt Try.prog 70 1 1 := ⟨_, _, Try.underlying70, rfl, rfl, by kernel_rfl⟩
theorem hfd70_1 : HasField Box Int 1 Box.Y := ⟨by decide, fun M x cs w h => (HasField.snd (HasField.fst HasField.self)).2 M _ cs w h⟩
theorem fd70_2 : FieldAt Try.prog 70 2 2 := ⟨_, _, Try.underlying70, rfl, rfl, by kernel_rfl⟩
theorem hfd70_2 : HasField Box Int 2 Box.W_ := ⟨by decide, fun M x cs w h => (HasField.snd (HasField.snd (HasField.fst HasField.self))).2 M _ cs w h⟩
theorem fd70_3 : FieldAt Try.prog 70 3 3 := ⟨_, _, Try.underlying70, rfl, rfl, by kernel_rfl⟩
theorem hfd70_3 : HasField Box Int 3 Box.H := ⟨by decide, fun M x cs w h => (HasField.snd (HasField.snd (HasField.snd HasField.self))).2 M _ cs w h⟩
theorem fd26_5 : FieldAt Try.prog 26 5 7 := ⟨_, _, Try.underlying26, rfl, rfl, by kernel_rfl⟩
theorem hfd26_5 : HasField Task Int 7 Task.Clear := ⟨by decide, fun M x cs w h => (HasField.snd (HasField.snd (HasField.snd (HasField.snd (HasField.snd HasField.self))))).2 M _ cs w h⟩
theorem fnok22 : FnOK Try.prog 22 := ⟨_, Try.func22, by kernel_rfl, by kernel_rfl⟩
theorem zo23 : ZeroOf Try.prog 23 (⟨(0 : Int), (0 : Int)⟩ : Point) := ⟨[.int .i64 0, .int .i64 0], by kernel_rfl, fun _ _ => ⟨[_], _, rfl, ⟨rfl, by decide⟩, ⟨rfl, by decide⟩⟩⟩
theorem fnok58 : FnOK Try.prog 58 := ⟨_, Try.func58, by kernel_rfl, by kernel_rfl⟩
theorem bu23 : BuildAt Try.prog 23 [.int .i64 0, .int .i64 0] [(0, 1), (1, 1)] := ⟨by kernel_rfl, _, Try.underlying23, by kernel_rfl⟩
theorem zc23 : ∀ (M : MSet) (w : World), Rep.cells M (⟨(0 : Int), (0 : Int)⟩ : Point) [.int .i64 0, .int .i64 0] w := fun _ _ => ⟨[_], _, rfl, ⟨rfl, by decide⟩, ⟨rfl, by decide⟩⟩
theorem sf23_1 : SetField Point Int 1 (fun x z => { x with Y := z }) := ⟨by decide, fun M x z cs zs w h hz => (SetField.snd SetField.self).2 M _ z cs zs w h hz⟩
theorem sf23_0 : SetField Point Int 0 (fun x z => { x with X := z }) := ⟨by decide, fun M x z cs zs w h hz => (SetField.fst SetField.self).2 M _ z cs zs w h hz⟩
theorem ao123 : ArrOf Try.prog 123 4 23 := Try.underlying123
theorem az123 : ArrZero Try.prog 123 ((4 + 1) * Rep.sz Point) := by unfold ArrZero; kernel_rfl
theorem fnok57 : FnOK Try.prog 57 := ⟨_, Try.func57, by kernel_rfl, by kernel_rfl⟩
theorem fnok23 : FnOK Try.prog 23 := ⟨_, Try.func23, by kernel_rfl, by kernel_rfl⟩
theorem sf95_3 : SetField Route_zone Int 3 (fun x z => { x with bottom := z }) := ⟨by decide, fun M x z cs zs w h hz => (SetField.snd (SetField.snd (SetField.snd SetField.self))).2 M _ z cs zs w h hz⟩
theorem sf95_2 : SetField Route_zone Int 2 (fun x z => { x with right := z }) := ⟨by decide, fun M x z cs zs w h hz => (SetField.snd (SetField.snd (SetField.fst SetField.self))).2 M _ z cs zs w h hz⟩
theorem sf95_1 : SetField Route_zone Int 1 (fun x z => { x with top := z }) := ⟨by decide, fun M x z cs zs w h hz => (SetField.snd (SetField.fst SetField.self)).2 M _ z cs zs w h hz⟩
theorem sf95_0 : SetField Route_zone Int 0 (fun x z => { x with left := z }) := ⟨by decide, fun M x z cs zs w h hz => (SetField.fst SetField.self).2 M _ z cs zs w h hz⟩
theorem bu95 : BuildAt Try.prog 95 [.int .i64 0, .int .i64 0, .int .i64 0, .int .i64 0] [(0, 1), (1, 1), (2, 1), (3, 1)] := ⟨by kernel_rfl, _, Try.underlying95, by kernel_rfl⟩
theorem zc95 : ∀ (M : MSet) (w : World), Rep.cells M (⟨(0 : Int), (0 : Int), (0 : Int), (0 : Int)⟩ : Route_zone) [.int .i64 0, .int .i64 0, .int .i64 0, .int .i64 0] w := fun _ _ => ⟨[_], _, rfl, ⟨rfl, by decide⟩, ⟨[_], _, rfl, ⟨rfl, by decide⟩, ⟨[_], _, rfl, ⟨rfl, by decide⟩, ⟨rfl, by decide⟩⟩⟩⟩
theorem sl49 : SliceOf Try.prog 49 95 := Try.underlying49
theorem ty95 : Ty Try.prog 95 Route_zone := ⟨⟨_, Try.underlying95, rfl⟩, by kernel_rfl⟩
theorem hz95 : HasZero Try.prog 95 := by unfold HasZero; kernel_rfl
theorem rk49 : RowOK Try.prog 49 95 Route_zone := ⟨sl49, ty95, by kernel_rfl⟩
theorem fnok24 : FnOK Try.prog 24 := ⟨_, Try.func24, by kernel_rfl, by kernel_rfl⟩
theorem fnok60 : FnOK Try.prog 60 := ⟨_, Try.func60, by kernel_rfl, by kernel_rfl⟩
theorem fd95_0 : FieldAt Try.prog 95 0 0 := ⟨_, _, Try.underlying95, rfl, rfl, by kernel_rfl⟩
theorem hfd95_0 : HasField Route_zone Int 0 Route_zone.left := ⟨by decide, fun M x cs w h => (HasField.fst HasField.self).2 M _ cs w h⟩
theorem fd95_2 : FieldAt Try.prog 95 2 2 := ⟨_, _, Try.underlying95, rfl, rfl, by kernel_rfl⟩
theorem hfd95_2 : HasField Route_zone Int 2 Route_zone.right := ⟨by decide, fun M x cs w h => (HasField.snd (HasField.snd (HasField.fst HasField.self))).2 M _ cs w h⟩
theorem fd95_1 : FieldAt Try.prog 95 1 1 := ⟨_, _, Try.underlying95, rfl, rfl, by kernel_rfl⟩
theorem hfd95_1 : HasField Route_zone Int 1 Route_zone.top := ⟨by decide, fun M x cs w h => (HasField.snd (HasField.fst HasField.self)).2 M _ cs w h⟩
theorem fd95_3 : FieldAt Try.prog 95 3 3 := ⟨_, _, Try.underlying95, rfl, rfl, by kernel_rfl⟩
theorem hfd95_3 : HasField Route_zone Int 3 Route_zone.bottom := ⟨by decide, fun M x cs w h => (HasField.snd (HasField.snd (HasField.snd HasField.self))).2 M _ cs w h⟩
theorem fnok59 : FnOK Try.prog 59 := ⟨_, Try.func59, by kernel_rfl, by kernel_rfl⟩
theorem fnok84 : FnOK Try.prog 84 := ⟨_, Try.func84, by kernel_rfl, by kernel_rfl⟩
theorem fnok25 : FnOK Try.prog 25 := ⟨_, Try.func25, by kernel_rfl, by kernel_rfl⟩
theorem bu64 : BuildAt Try.prog 64 [.slice none 0 0, .slice none 0 0, .slice none 0 0, .slice none 0 0] [(0, 1), (1, 1), (2, 1), (3, 1)] := ⟨by kernel_rfl, _, Try.underlying64, by kernel_rfl⟩
theorem zc64 : ∀ (M : MSet) (w : World), Rep.cells M (⟨([] : (List Int)), ([] : (List Int)), ([] : (List Bool)), ([] : (List Bool))⟩ : Route_search) [.slice none 0 0, .slice none 0 0, .slice none 0 0, .slice none 0 0] w := fun _ _ => ⟨[_], _, rfl, ⟨none, 0, rfl, Nat.le_refl _, by decide, rfl⟩, ⟨[_], _, rfl, ⟨none, 0, rfl, Nat.le_refl _, by decide, rfl⟩, ⟨[_], _, rfl, ⟨none, 0, rfl, Nat.le_refl _, by decide, rfl⟩, ⟨none, 0, rfl, Nat.le_refl _, by decide, rfl⟩⟩⟩⟩
theorem fnok61 : FnOK Try.prog 61 := ⟨_, Try.func61, by kernel_rfl, by kernel_rfl⟩
theorem fnok85 : FnOK Try.prog 85 := ⟨_, Try.func85, by kernel_rfl, by kernel_rfl⟩
theorem sl61 : SliceOf Try.prog 61 3 := Try.underlying61
theorem hz3 : HasZero Try.prog 3 := by unfold HasZero; kernel_rfl
theorem rk61 : RowOK Try.prog 61 3 Int := ⟨sl61, ty3, by kernel_rfl⟩
theorem zo95 : ZeroOf Try.prog 95 (⟨(0 : Int), (0 : Int), (0 : Int), (0 : Int)⟩ : Route_zone) := ⟨[.int .i64 0, .int .i64 0, .int .i64 0, .int .i64 0], by kernel_rfl, fun _ _ => ⟨[_], _, rfl, ⟨rfl, by decide⟩, ⟨[_], _, rfl, ⟨rfl, by decide⟩, ⟨[_], _, rfl, ⟨rfl, by decide⟩, ⟨rfl, by decide⟩⟩⟩⟩⟩
theorem fd64_0 : FieldAt Try.prog 64 0 0 := ⟨_, _, Try.underlying64, rfl, rfl, by kernel_rfl⟩
theorem hfd64_0 : HasField Route_search (List Int) 0 Route_search.xs := ⟨by decide, fun M x cs w h => (HasField.fst HasField.self).2 M _ cs w h⟩
theorem ty61 : Ty Try.prog 61 (List Int) := ⟨⟨_, Try.underlying61, rfl⟩, by kernel_rfl⟩
theorem sf64_0 : SetField Route_search (List Int) 0 (fun x z => { x with xs := z }) := ⟨by decide, fun M x z cs zs w h hz => (SetField.fst SetField.self).2 M _ z cs zs w h hz⟩
theorem fd64_1 : FieldAt Try.prog 64 1 1 := ⟨_, _, Try.underlying64, rfl, rfl, by kernel_rfl⟩
theorem hfd64_1 : HasField Route_search (List Int) 1 Route_search.ys := ⟨by decide, fun M x cs w h => (HasField.snd (HasField.fst HasField.self)).2 M _ cs w h⟩
theorem sf64_1 : SetField Route_search (List Int) 1 (fun x z => { x with ys := z }) := ⟨by decide, fun M x z cs zs w h hz => (SetField.snd (SetField.fst SetField.self)).2 M _ z cs zs w h hz⟩
theorem sl62 : SliceOf Try.prog 62 4 := Try.underlying62
theorem ty4 : Ty Try.prog 4 Bool := ⟨⟨_, Try.underlying4, rfl⟩, by kernel_rfl⟩
theorem rk62 : RowOK Try.prog 62 4 Bool := ⟨sl62, ty4, by kernel_rfl⟩
theorem zo4 : ZeroOf Try.prog 4 false := ⟨[.bool false], by kernel_rfl, fun _ _ => rfl⟩
theorem fd64_2 : FieldAt Try.prog 64 2 2 := ⟨_, _, Try.underlying64, rfl, rfl, by kernel_rfl⟩
theorem hfd64_2 : HasField Route_search (List Bool) 2 Route_search.across := ⟨by decide, fun M x cs w h => (HasField.snd (HasField.snd (HasField.fst HasField.self))).2 M _ cs w h⟩
theorem sv_Route_search_o2_2 : SetField Route_search_o2 Raw 2 (fun x z => { x with across := z }) := ⟨by decide, fun M x z cs zs w h hz => (SetField.snd (SetField.snd (SetField.fst SetField.self))).2 M _ z cs zs w h hz⟩
theorem ty62 : Ty Try.prog 62 (List Bool) := ⟨⟨_, Try.underlying62, rfl⟩, by kernel_rfl⟩
theorem fd64_3 : FieldAt Try.prog 64 3 3 := ⟨_, _, Try.underlying64, rfl, rfl, by kernel_rfl⟩
theorem hfd64_3 : HasField Route_search (List Bool) 3 Route_search.down := ⟨by decide, fun M x cs w h => (HasField.snd (HasField.snd (HasField.snd HasField.self))).2 M _ cs w h⟩
theorem hv_Route_search_o23_3 : HasField Route_search_o23 Raw 3 Route_search_o23.down := ⟨by decide, fun M x cs w h => (HasField.snd (HasField.snd (HasField.snd HasField.self))).2 M _ cs w h⟩
theorem sv_Route_search_o23_3 : SetField Route_search_o23 Raw 3 (fun x z => { x with down := z }) := ⟨by decide, fun M x z cs zs w h hz => (SetField.snd (SetField.snd (SetField.snd SetField.self))).2 M _ z cs zs w h hz⟩
theorem tr62 : Ty Try.prog 62 Raw := ⟨⟨_, Try.underlying62, rfl⟩, by kernel_rfl⟩
theorem hv_Route_search_o23_2 : HasField Route_search_o23 Raw 2 Route_search_o23.across := ⟨by decide, fun M x cs w h => (HasField.snd (HasField.snd (HasField.fst HasField.self))).2 M _ cs w h⟩
theorem fnok62 : FnOK Try.prog 62 := ⟨_, Try.func62, by kernel_rfl, by kernel_rfl⟩
theorem zo98 : ZeroOf Try.prog 98 (⟨List.replicate 2 (0 : Int)⟩ : (Arr 1 Int)) := ⟨[.int .i64 0, .int .i64 0], by kernel_rfl, fun _ _ => ⟨rfl, ⟨[_], _, rfl, ⟨rfl, by decide⟩, ⟨[_], _, rfl, ⟨rfl, by decide⟩, rfl⟩⟩⟩⟩
theorem fnok49 : FnOK Try.prog 49 := ⟨_, Try.func49, by kernel_rfl, by kernel_rfl⟩
theorem fnok80 : FnOK Try.prog 80 := ⟨_, Try.func80, by kernel_rfl, by kernel_rfl⟩
theorem fnok91 : FnOK Try.prog 91 := ⟨_, Try.func91, by kernel_rfl, by kernel_rfl⟩
theorem fnok81 : FnOK Try.prog 81 := ⟨_, Try.func81, by kernel_rfl, by kernel_rfl⟩
theorem ao98 : ArrOf Try.prog 98 1 3 := Try.underlying98
theorem az98 : ArrZero Try.prog 98 ((1 + 1) * Rep.sz Int) := by unfold ArrZero; kernel_rfl
theorem ty98 : Ty Try.prog 98 (Arr 1 Int) := ⟨⟨_, Try.underlying98, rfl⟩, by kernel_rfl⟩
theorem hv_Route_search_o23_1 : HasField Route_search_o23 (List Int) 1 Route_search_o23.ys := ⟨by decide, fun M x cs w h => (HasField.snd (HasField.fst HasField.self)).2 M _ cs w h⟩
theorem hv_Route_search_o23_0 : HasField Route_search_o23 (List Int) 0 Route_search_o23.xs := ⟨by decide, fun M x cs w h => (HasField.fst HasField.self).2 M _ cs w h⟩
theorem fnok27 : FnOK Try.prog 27 := ⟨_, Try.func27, by kernel_rfl, by kernel_rfl⟩
theorem zo58 : ZeroOf Try.prog 58 (⟨(0 : Int), (0 : Int), (0 : Int)⟩ : Route_spot) := ⟨[.int .i64 0, .int .i64 0, .int .i64 0], by kernel_rfl, fun _ _ => ⟨[_], _, rfl, ⟨rfl, by decide⟩, ⟨[_], _, rfl, ⟨rfl, by decide⟩, ⟨rfl, by decide⟩⟩⟩⟩
theorem sf58_2 : SetField Route_spot Int 2 (fun x z => { x with side := z }) := ⟨by decide, fun M x z cs zs w h hz => (SetField.snd (SetField.snd SetField.self)).2 M _ z cs zs w h hz⟩
theorem sf58_1 : SetField Route_spot Int 1 (fun x z => { x with y := z }) := ⟨by decide, fun M x z cs zs w h hz => (SetField.snd (SetField.fst SetField.self)).2 M _ z cs zs w h hz⟩
theorem sf58_0 : SetField Route_spot Int 0 (fun x z => { x with x := z }) := ⟨by decide, fun M x z cs zs w h hz => (SetField.fst SetField.self).2 M _ z cs zs w h hz⟩
theorem bu58 : BuildAt Try.prog 58 [.int .i64 0, .int .i64 0, .int .i64 0] [(0, 1), (1, 1), (2, 1)] := ⟨by kernel_rfl, _, Try.underlying58, by kernel_rfl⟩
theorem zc58 : ∀ (M : MSet) (w : World), Rep.cells M (⟨(0 : Int), (0 : Int), (0 : Int)⟩ : Route_spot) [.int .i64 0, .int .i64 0, .int .i64 0] w := fun _ _ => ⟨[_], _, rfl, ⟨rfl, by decide⟩, ⟨[_], _, rfl, ⟨rfl, by decide⟩, ⟨rfl, by decide⟩⟩⟩
theorem ty58 : Ty Try.prog 58 Route_spot := ⟨⟨_, Try.underlying58, rfl⟩, by kernel_rfl⟩
theorem fnok28 : FnOK Try.prog 28 := ⟨_, Try.func28, by kernel_rfl, by kernel_rfl⟩
theorem fnok26 : FnOK Try.prog 26 := ⟨_, Try.func26, by kernel_rfl, by kernel_rfl⟩
theorem ty52 : Ty Try.prog 52 (Option Route_search) := ⟨⟨_, Try.underlying52, rfl⟩, by kernel_rfl⟩
theorem sl101 : SliceOf Try.prog 101 105 := Try.underlying101
theorem ty105 : Ty Try.prog 105 Route_reached := ⟨⟨_, Try.underlying105, rfl⟩, by kernel_rfl⟩
theorem rk101 : RowOK Try.prog 101 105 Route_reached := ⟨sl101, ty105, by kernel_rfl⟩
theorem zo105 : ZeroOf Try.prog 105 (⟨(⟨(0 : Int), (0 : Int), (0 : Int)⟩ : Route_spot), (0 : Int), (0 : Int)⟩ : Route_reached) := ⟨[.int .i64 0, .int .i64 0, .int .i64 0, .int .i64 0, .int .i64 0], by kernel_rfl, fun _ _ => ⟨[_, _, _], _, rfl, ⟨[_], _, rfl, ⟨rfl, by decide⟩, ⟨[_], _, rfl, ⟨rfl, by decide⟩, ⟨rfl, by decide⟩⟩⟩, ⟨[_], _, rfl, ⟨rfl, by decide⟩, ⟨rfl, by decide⟩⟩⟩⟩
theorem zr101 : ZeroOf Try.prog 101 (⟨.slice none 0 0⟩ : Raw) := ⟨[.slice none 0 0], by kernel_rfl, fun _ _ => ⟨rfl, rfl, rfl⟩⟩
theorem ty101 : Ty Try.prog 101 (List Route_reached) := ⟨⟨_, Try.underlying101, rfl⟩, by kernel_rfl⟩
theorem tr101 : Ty Try.prog 101 Raw := ⟨⟨_, Try.underlying101, rfl⟩, by kernel_rfl⟩
theorem zo3 : ZeroOf Try.prog 3 (0 : Int) := ⟨[.int .i64 0], by kernel_rfl, fun _ _ => ⟨rfl, by decide⟩⟩
theorem zr61 : ZeroOf Try.prog 61 (⟨.slice none 0 0⟩ : Raw) := ⟨[.slice none 0 0], by kernel_rfl, fun _ _ => ⟨rfl, rfl, rfl⟩⟩
theorem zr62 : ZeroOf Try.prog 62 (⟨.slice none 0 0⟩ : Raw) := ⟨[.slice none 0 0], by kernel_rfl, fun _ _ => ⟨rfl, rfl, rfl⟩⟩
theorem sl103 : SliceOf Try.prog 103 105 := Try.underlying103
theorem hz105 : HasZero Try.prog 105 := by unfold HasZero; kernel_rfl
theorem zr102 : ZeroOf Try.prog 102 (⟨.pointer none⟩ : Raw) := ⟨[.pointer none], by kernel_rfl, fun _ _ => ⟨rfl, rfl, rfl⟩⟩
theorem tr102 : Ty Try.prog 102 Raw := ⟨⟨_, Try.underlying102, rfl⟩, by kernel_rfl⟩
theorem sf105_0 : SetField Route_reached Route_spot 0 (fun x z => { x with spot := z }) := ⟨by decide, fun M x z cs zs w h hz => (SetField.fst SetField.self).2 M _ z cs zs w h hz⟩
theorem bu105 : BuildAt Try.prog 105 [.int .i64 0, .int .i64 0, .int .i64 0, .int .i64 0, .int .i64 0] [(0, 3), (3, 1), (4, 1)] := ⟨by kernel_rfl, _, Try.underlying105, by kernel_rfl⟩
theorem zc105 : ∀ (M : MSet) (w : World), Rep.cells M (⟨(⟨(0 : Int), (0 : Int), (0 : Int)⟩ : Route_spot), (0 : Int), (0 : Int)⟩ : Route_reached) [.int .i64 0, .int .i64 0, .int .i64 0, .int .i64 0, .int .i64 0] w := fun _ _ => ⟨[_, _, _], _, rfl, ⟨[_], _, rfl, ⟨rfl, by decide⟩, ⟨[_], _, rfl, ⟨rfl, by decide⟩, ⟨rfl, by decide⟩⟩⟩, ⟨[_], _, rfl, ⟨rfl, by decide⟩, ⟨rfl, by decide⟩⟩⟩
theorem fnok63 : FnOK Try.prog 63 := ⟨_, Try.func63, by kernel_rfl, by kernel_rfl⟩
theorem fd105_0 : FieldAt Try.prog 105 0 0 := ⟨_, _, Try.underlying105, rfl, rfl, by kernel_rfl⟩
theorem hfd105_0 : HasField Route_reached Route_spot 0 Route_reached.spot := ⟨by decide, fun M x cs w h => (HasField.fst HasField.self).2 M _ cs w h⟩
theorem fnok64 : FnOK Try.prog 64 := ⟨_, Try.func64, by kernel_rfl, by kernel_rfl⟩
theorem fd58_1 : FieldAt Try.prog 58 1 1 := ⟨_, _, Try.underlying58, rfl, rfl, by kernel_rfl⟩
theorem hfd58_1 : HasField Route_spot Int 1 Route_spot.y := ⟨by decide, fun M x cs w h => (HasField.snd (HasField.fst HasField.self)).2 M _ cs w h⟩
theorem fd58_0 : FieldAt Try.prog 58 0 0 := ⟨_, _, Try.underlying58, rfl, rfl, by kernel_rfl⟩
theorem hfd58_0 : HasField Route_spot Int 0 Route_spot.x := ⟨by decide, fun M x cs w h => (HasField.fst HasField.self).2 M _ cs w h⟩
theorem fd58_2 : FieldAt Try.prog 58 2 2 := ⟨_, _, Try.underlying58, rfl, rfl, by kernel_rfl⟩
theorem hfd58_2 : HasField Route_spot Int 2 Route_spot.side := ⟨by decide, fun M x cs w h => (HasField.snd (HasField.snd HasField.self)).2 M _ cs w h⟩
theorem fd105_1 : FieldAt Try.prog 105 1 3 := ⟨_, _, Try.underlying105, rfl, rfl, by kernel_rfl⟩
theorem hfd105_1 : HasField Route_reached Int 3 Route_reached.bends := ⟨by decide, fun M x cs w h => (HasField.snd (HasField.fst HasField.self)).2 M _ cs w h⟩
theorem fd105_2 : FieldAt Try.prog 105 2 4 := ⟨_, _, Try.underlying105, rfl, rfl, by kernel_rfl⟩
theorem hfd105_2 : HasField Route_reached Int 4 Route_reached.long := ⟨by decide, fun M x cs w h => (HasField.snd (HasField.snd HasField.self)).2 M _ cs w h⟩
theorem tr61 : Ty Try.prog 61 Raw := ⟨⟨_, Try.underlying61, rfl⟩, by kernel_rfl⟩
theorem ni102 : NotIfc Try.prog 102 := by unfold NotIfc; kernel_rfl
theorem ni105 : NotIfc Try.prog 105 := by unfold NotIfc; kernel_rfl
theorem fnok65 : FnOK Try.prog 65 := ⟨_, Try.func65, by kernel_rfl, by kernel_rfl⟩
theorem me102_Push : MethAt Try.prog 102 "Push" 127 true := by unfold MethAt; kernel_rfl
theorem fnok127 : FnOK Try.prog 127 := ⟨_, Try.func127, by kernel_rfl, by kernel_rfl⟩
theorem tr103 : Ty Try.prog 103 Raw := ⟨⟨_, Try.underlying103, rfl⟩, by kernel_rfl⟩
theorem rk103 : RowOK Try.prog 103 105 Route_reached := ⟨sl103, ty105, by kernel_rfl⟩
theorem ty103 : Ty Try.prog 103 (List Route_reached) := ⟨⟨_, Try.underlying103, rfl⟩, by kernel_rfl⟩
theorem me102_Len : MethAt Try.prog 102 "Len" 66 false := by unfold MethAt; kernel_rfl
theorem fnok66 : FnOK Try.prog 66 := ⟨_, Try.func66, by kernel_rfl, by kernel_rfl⟩
theorem fnok86 : FnOK Try.prog 86 := ⟨_, Try.func86, by kernel_rfl, by kernel_rfl⟩
theorem me102_Less : MethAt Try.prog 102 "Less" 125 false := by unfold MethAt; kernel_rfl
theorem fnok125 : FnOK Try.prog 125 := ⟨_, Try.func125, by kernel_rfl, by kernel_rfl⟩
theorem me102_Swap : MethAt Try.prog 102 "Swap" 128 false := by unfold MethAt; kernel_rfl
theorem fnok128 : FnOK Try.prog 128 := ⟨_, Try.func128, by kernel_rfl, by kernel_rfl⟩
theorem fnok67 : FnOK Try.prog 67 := ⟨_, Try.func67, by kernel_rfl, by kernel_rfl⟩
theorem fnok87 : FnOK Try.prog 87 := ⟨_, Try.func87, by kernel_rfl, by kernel_rfl⟩
theorem me102_Pop : MethAt Try.prog 102 "Pop" 126 true := by unfold MethAt; kernel_rfl
theorem fnok126 : FnOK Try.prog 126 := ⟨_, Try.func126, by kernel_rfl, by kernel_rfl⟩
theorem eq58 : DB.EqAt Try.prog 58 Route_spot := eqAt_ints (n := 3) (fun p => [p.x, p.y, p.side]) (fun a b => by cases a; cases b; simp) (fun _ => rfl) (fun M v w a h => by obtain ⟨cs, h, rfl⟩ := h; obtain ⟨_, _, rfl, ⟨rfl, _⟩, ⟨_, _, rfl, ⟨rfl, _⟩, ⟨rfl, _⟩⟩⟩ := h; rfl) ⟨by kernel_rfl, by kernel_rfl, by kernel_rfl, by kernel_rfl⟩
theorem sl54 : SliceOf Try.prog 54 58 := Try.underlying54
theorem hz58 : HasZero Try.prog 58 := by unfold HasZero; kernel_rfl
theorem rk54 : RowOK Try.prog 54 58 Route_spot := ⟨sl54, ty58, by kernel_rfl⟩
theorem fnok68 : FnOK Try.prog 68 := ⟨_, Try.func68, by kernel_rfl, by kernel_rfl⟩
theorem sf105_2 : SetField Route_reached Int 4 (fun x z => { x with long := z }) := ⟨by decide, fun M x z cs zs w h hz => (SetField.snd (SetField.snd SetField.self)).2 M _ z cs zs w h hz⟩
theorem sf105_1 : SetField Route_reached Int 3 (fun x z => { x with bends := z }) := ⟨by decide, fun M x z cs zs w h hz => (SetField.snd (SetField.fst SetField.self)).2 M _ z cs zs w h hz⟩
theorem fnok69 : FnOK Try.prog 69 := ⟨_, Try.func69, by kernel_rfl, by kernel_rfl⟩
theorem sl27 : SliceOf Try.prog 27 23 := Try.underlying27
theorem hz23 : HasZero Try.prog 23 := by unfold HasZero; kernel_rfl
theorem rk27 : RowOK Try.prog 27 23 Point := ⟨sl27, ty23, by kernel_rfl⟩
theorem fnok7 : FnOK Try.prog 7 := ⟨_, Try.func7, by kernel_rfl, by kernel_rfl⟩
theorem fnok29 : FnOK Try.prog 29 := ⟨_, Try.func29, by kernel_rfl, by kernel_rfl⟩
theorem fnok70 : FnOK Try.prog 70 := ⟨_, Try.func70, by kernel_rfl, by kernel_rfl⟩
theorem fnok30 : FnOK Try.prog 30 := ⟨_, Try.func30, by kernel_rfl, by kernel_rfl⟩
theorem fnok34 : FnOK Try.prog 34 := ⟨_, Try.func34, by kernel_rfl, by kernel_rfl⟩
theorem eq23 : DB.EqAt Try.prog 23 Point := eqAt_ints (n := 2) (fun p => [p.X, p.Y]) (fun a b => by cases a; cases b; simp) (fun _ => rfl) (fun M v w a h => by obtain ⟨cs, h, rfl⟩ := h; obtain ⟨_, _, rfl, ⟨rfl, _⟩, ⟨rfl, _⟩⟩ := h; rfl) ⟨by kernel_rfl, by kernel_rfl, by kernel_rfl, by kernel_rfl⟩
theorem fnok71 : FnOK Try.prog 71 := ⟨_, Try.func71, by kernel_rfl, by kernel_rfl⟩
theorem fnok88 : FnOK Try.prog 88 := ⟨_, Try.func88, by kernel_rfl, by kernel_rfl⟩
theorem fnok72 : FnOK Try.prog 72 := ⟨_, Try.func72, by kernel_rfl, by kernel_rfl⟩
theorem fnok9 : FnOK Try.prog 9 := ⟨_, Try.func9, by kernel_rfl, by kernel_rfl⟩
theorem fnok35 : FnOK Try.prog 35 := ⟨_, Try.func35, by kernel_rfl, by kernel_rfl⟩
theorem fnok56 : FnOK Try.prog 56 := ⟨_, Try.func56, by kernel_rfl, by kernel_rfl⟩
theorem fnok50 : FnOK Try.prog 50 := ⟨_, Try.func50, by kernel_rfl, by kernel_rfl⟩
theorem fnok10 : FnOK Try.prog 10 := ⟨_, Try.func10, by kernel_rfl, by kernel_rfl⟩
theorem zo26 : ZeroOf Try.prog 26 (⟨(⟨(0 : Int), (0 : Int)⟩ : Point), (0 : Int), (⟨(0 : Int), (0 : Int)⟩ : Point), (0 : Int), ([] : (List Box)), (0 : Int)⟩ : Task) := ⟨[.int .i64 0, .int .i64 0, .int .i64 0, .int .i64 0, .int .i64 0, .int .i64 0, .slice none 0 0, .int .i64 0], by kernel_rfl, fun _ _ => ⟨[_, _], _, rfl, ⟨[_], _, rfl, ⟨rfl, by decide⟩, ⟨rfl, by decide⟩⟩, ⟨[_], _, rfl, ⟨rfl, by decide⟩, ⟨[_, _], _, rfl, ⟨[_], _, rfl, ⟨rfl, by decide⟩, ⟨rfl, by decide⟩⟩, ⟨[_], _, rfl, ⟨rfl, by decide⟩, ⟨[_], _, rfl, ⟨none, 0, rfl, Nat.le_refl _, by decide, rfl⟩, ⟨rfl, by decide⟩⟩⟩⟩⟩⟩⟩
theorem sf26_0 : SetField Task Point 0 (fun x z => { x with From := z }) := ⟨by decide, fun M x z cs zs w h hz => (SetField.fst SetField.self).2 M _ z cs zs w h hz⟩
theorem sf26_1 : SetField Task Int 2 (fun x z => { x with FromSide := z }) := ⟨by decide, fun M x z cs zs w h hz => (SetField.snd (SetField.fst SetField.self)).2 M _ z cs zs w h hz⟩
theorem sf26_2 : SetField Task Point 3 (fun x z => { x with To := z }) := ⟨by decide, fun M x z cs zs w h hz => (SetField.snd (SetField.snd (SetField.fst SetField.self))).2 M _ z cs zs w h hz⟩
theorem sf26_3 : SetField Task Int 5 (fun x z => { x with ToSide := z }) := ⟨by decide, fun M x z cs zs w h hz => (SetField.snd (SetField.snd (SetField.snd (SetField.fst SetField.self)))).2 M _ z cs zs w h hz⟩

end Go.Proofs.Ytjkfpjpepjjhlaa
