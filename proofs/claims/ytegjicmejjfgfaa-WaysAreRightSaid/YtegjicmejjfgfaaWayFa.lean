/-
  Closed facts on the program.
-/
import Derived.Test.YtegjicmejjfgfaaRows
import Derived.Test.YtegjicmejjfgfaaWayLi1
set_option maxRecDepth 100000
set_option linter.unusedSimpArgs false
set_option linter.unusedVariables false
namespace Go.Proofs.Ytegjicmejjfgfaa
open Go Go.DB Go.RowKit

theorem mixed : Try.prog.follows .mixedOrders = true := by kernel_rfl
def compactI_ren : Shelf.Ren where
  f := fun x => match x with | 43 => 107 | n => n
  t := fun x => match x with | 22 => 42 | 23 => 3 | 3 => 3 | 4 => 4 | 0 => 0 | n => n
  g := fun n => n
theorem compactI_lay : SlLaysN.n43 Try.prog compactI_ren where
  mixed := by kernel_rfl
  f43 := ⟨ "slices.Compact[[]int,int]", of_decide_eq_true (by kernel_rfl), Try.func107.trans (by kernel_rfl)⟩
  t0 := Try.underlying0
  a0 := Try.isAgg0
  z0 := Try.sizeOf0
  v0 := Try.zeroValue0
  t3 := Try.underlying3
  a3 := Try.isAgg3
  z3 := Try.sizeOf3
  v3 := Try.zeroValue3
  t4 := Try.underlying4
  a4 := Try.isAgg4
  z4 := Try.sizeOf4
  v4 := Try.zeroValue4
  t22 := Try.underlying42
  a22 := Try.isAgg42
  z22 := Try.sizeOf42
  v22 := Try.zeroValue42
  t23 := Try.underlying3
  a23 := Try.isAgg3
  z23 := Try.sizeOf3
  v23 := Try.zeroValue3
  i23 := by kernel_rfl

def sortI_ren : Shelf.Ren where
  f := fun x => match x with | 5 => 106 | 8 => 125 | 7 => 124 | 19 => 138 | 20 => 139 | 10 => 130 | 11 => 131 | 12 => 132 | 13 => 133 | 14 => 134 | 15 => 135 | 16 => 108 | 17 => 136 | 18 => 137 | 30 => 141 | 31 => 142 | 32 => 143 | 33 => 144 | 34 => 145 | 35 => 99 | 40 => 146 | n => n
  t := fun x => match x with | 23 => 42 | 25 => 3 | 3 => 3 | 32 => 132 | 22 => 42 | 0 => 0 | 44 => 176 | 46 => 178 | 4 => 4 | 36 => 170 | 35 => 169 | 41 => 103 | 5 => 5 | 9 => 9 | 53 => 179 | 57 => 183 | 63 => 185 | 64 => 186 | n => n
  g := fun n => n
theorem sortI_lay : SlLaysM.n5 Try.prog sortI_ren where
  mixed := by kernel_rfl
  f5 := ⟨ "slices.Sort[[]int,int]", of_decide_eq_true (by kernel_rfl), Try.func106.trans (by kernel_rfl)⟩
  f7 := ⟨ "slices.pdqsortOrdered[int]", of_decide_eq_true (by kernel_rfl), Try.func124.trans (by kernel_rfl)⟩
  f8 := Try.func125.trans (by kernel_rfl)
  f10 := ⟨ "slices.insertionSortOrdered[int]", of_decide_eq_true (by kernel_rfl), Try.func130.trans (by kernel_rfl)⟩
  f11 := ⟨ "slices.heapSortOrdered[int]", of_decide_eq_true (by kernel_rfl), Try.func131.trans (by kernel_rfl)⟩
  f12 := ⟨ "slices.breakPatternsOrdered[int]", of_decide_eq_true (by kernel_rfl), Try.func132.trans (by kernel_rfl)⟩
  f13 := ⟨ "slices.choosePivotOrdered[int]", of_decide_eq_true (by kernel_rfl), Try.func133.trans (by kernel_rfl)⟩
  f14 := ⟨ "slices.reverseRangeOrdered[int]", of_decide_eq_true (by kernel_rfl), Try.func134.trans (by kernel_rfl)⟩
  f15 := ⟨ "slices.partialInsertionSortOrdered[int]", of_decide_eq_true (by kernel_rfl), Try.func135.trans (by kernel_rfl)⟩
  f16 := ⟨ "cmp.Less[int]", of_decide_eq_true (by kernel_rfl), Try.func108.trans (by kernel_rfl)⟩
  f17 := ⟨ "slices.partitionEqualOrdered[int]", of_decide_eq_true (by kernel_rfl), Try.func136.trans (by kernel_rfl)⟩
  f18 := ⟨ "slices.partitionOrdered[int]", of_decide_eq_true (by kernel_rfl), Try.func137.trans (by kernel_rfl)⟩
  f19 := Try.func138.trans (by kernel_rfl)
  f20 := Try.func139.trans (by kernel_rfl)
  f30 := ⟨ "slices.siftDownOrdered[int]", of_decide_eq_true (by kernel_rfl), Try.func141.trans (by kernel_rfl)⟩
  f31 := Try.func142.trans (by kernel_rfl)
  f32 := Try.func143.trans (by kernel_rfl)
  f33 := ⟨ "slices.medianAdjacentOrdered[int]", of_decide_eq_true (by kernel_rfl), Try.func144.trans (by kernel_rfl)⟩
  f34 := ⟨ "slices.medianOrdered[int]", of_decide_eq_true (by kernel_rfl), Try.func145.trans (by kernel_rfl)⟩
  f35 := ⟨ "cmp.isNaN[int]", of_decide_eq_true (by kernel_rfl), Try.func99.trans (by kernel_rfl)⟩
  f40 := ⟨ "slices.order2Ordered[int]", of_decide_eq_true (by kernel_rfl), Try.func146.trans (by kernel_rfl)⟩
  t0 := Try.underlying0
  a0 := Try.isAgg0
  z0 := Try.sizeOf0
  v0 := Try.zeroValue0
  t3 := Try.underlying3
  a3 := Try.isAgg3
  z3 := Try.sizeOf3
  v3 := Try.zeroValue3
  t4 := Try.underlying4
  a4 := Try.isAgg4
  z4 := Try.sizeOf4
  v4 := Try.zeroValue4
  t5 := Try.underlying5
  a5 := Try.isAgg5
  z5 := Try.sizeOf5
  v5 := Try.zeroValue5
  t9 := Try.underlying9
  a9 := Try.isAgg9
  z9 := Try.sizeOf9
  v9 := Try.zeroValue9
  t22 := Try.underlying42
  a22 := Try.isAgg42
  z22 := Try.sizeOf42
  v22 := Try.zeroValue42
  t23 := Try.underlying42
  a23 := Try.isAgg42
  z23 := Try.sizeOf42
  v23 := Try.zeroValue42
  t25 := Try.underlying3
  a25 := Try.isAgg3
  z25 := Try.sizeOf3
  v25 := Try.zeroValue3
  t32 := Try.underlying132
  a32 := Try.isAgg132
  z32 := Try.sizeOf132
  v32 := Try.zeroValue132
  t35 := Try.underlying169
  a35 := Try.isAgg169
  z35 := Try.sizeOf169
  v35 := Try.zeroValue169
  t36 := Try.underlying170
  a36 := Try.isAgg170
  z36 := Try.sizeOf170
  v36 := Try.zeroValue170
  t41 := Try.underlying103
  a41 := Try.isAgg103
  z41 := Try.sizeOf103
  v41 := Try.zeroValue103
  t44 := Try.underlying176
  a44 := Try.isAgg176
  z44 := Try.sizeOf176
  v44 := Try.zeroValue176
  t46 := Try.underlying178
  a46 := Try.isAgg178
  z46 := Try.sizeOf178
  v46 := Try.zeroValue178
  t53 := Try.underlying179
  a53 := Try.isAgg179
  z53 := Try.sizeOf179
  v53 := Try.zeroValue179
  t57 := Try.underlying183
  a57 := Try.isAgg183
  z57 := Try.sizeOf183
  v57 := Try.zeroValue183
  t63 := Try.underlying185
  a63 := Try.isAgg185
  z63 := Try.sizeOf185
  v63 := Try.zeroValue185
  t64 := Try.underlying186
  a64 := Try.isAgg186
  z64 := Try.sizeOf186
  v64 := Try.zeroValue186

theorem fnok107 : FnOK Try.prog 107 := ⟨_, Try.func107, by kernel_rfl, by kernel_rfl⟩
theorem fnok106 : FnOK Try.prog 106 := ⟨_, Try.func106, by kernel_rfl, by kernel_rfl⟩
theorem fnok5 : FnOK Try.prog 5 := ⟨_, Try.func5, by kernel_rfl, by kernel_rfl⟩
theorem ty55 : Ty Try.prog 55 Task := ⟨⟨_, Try.underlying55, rfl⟩, by kernel_rfl⟩
theorem fnok25 : FnOK Try.prog 25 := ⟨_, Try.func25, by kernel_rfl, by kernel_rfl⟩
theorem fd55_0 : FieldAt Try.prog 55 0 0 := ⟨_, _, Try.underlying55, rfl, rfl, by kernel_rfl⟩
theorem hfd55_0 : HasField Task Point 0 Task.From := ⟨by decide, fun M x cs w h => (HasField.fst HasField.self).2 M _ cs w h⟩
theorem ty53 : Ty Try.prog 53 Point := ⟨⟨_, Try.underlying53, rfl⟩, by kernel_rfl⟩
theorem fnok66 : FnOK Try.prog 66 := ⟨_, Try.func66, by kernel_rfl, by kernel_rfl⟩
theorem fd53_0 : FieldAt Try.prog 53 0 0 := ⟨_, _, Try.underlying53, rfl, rfl, by kernel_rfl⟩
theorem hfd53_0 : HasField Point Int 0 Point.X := ⟨by decide, fun M x cs w h => (HasField.fst HasField.self).2 M _ cs w h⟩
theorem ty3 : Ty Try.prog 3 Int := ⟨⟨_, Try.underlying3, rfl⟩, by kernel_rfl⟩
theorem fnok13 : FnOK Try.prog 13 := ⟨_, Try.func13, by kernel_rfl, by kernel_rfl⟩
theorem fd53_1 : FieldAt Try.prog 53 1 1 := ⟨_, _, Try.underlying53, rfl, rfl, by kernel_rfl⟩
theorem hfd53_1 : HasField Point Int 1 Point.Y := ⟨by decide, fun M x cs w h => (HasField.snd HasField.self).2 M _ cs w h⟩
theorem fnok12 : FnOK Try.prog 12 := ⟨_, Try.func12, by kernel_rfl, by kernel_rfl⟩
theorem fd55_1 : FieldAt Try.prog 55 1 2 := ⟨_, _, Try.underlying55, rfl, rfl, by kernel_rfl⟩
theorem hfd55_1 : HasField Task Int 2 Task.FromSide := ⟨by decide, fun M x cs w h => (HasField.snd (HasField.fst HasField.self)).2 M _ cs w h⟩
theorem fnok67 : FnOK Try.prog 67 := ⟨_, Try.func67, by kernel_rfl, by kernel_rfl⟩
theorem fd55_2 : FieldAt Try.prog 55 2 3 := ⟨_, _, Try.underlying55, rfl, rfl, by kernel_rfl⟩
theorem hfd55_2 : HasField Task Point 3 Task.To := ⟨by decide, fun M x cs w h => (HasField.snd (HasField.snd (HasField.fst HasField.self))).2 M _ cs w h⟩
theorem fd55_3 : FieldAt Try.prog 55 3 5 := ⟨_, _, Try.underlying55, rfl, rfl, by kernel_rfl⟩
theorem hfd55_3 : HasField Task Int 5 Task.ToSide := ⟨by decide, fun M x cs w h => (HasField.snd (HasField.snd (HasField.snd (HasField.fst HasField.self)))).2 M _ cs w h⟩
theorem fd55_4 : FieldAt Try.prog 55 4 6 := ⟨_, _, Try.underlying55, rfl, rfl, by kernel_rfl⟩
theorem hfd55_4 : HasField Task (List Box) 6 Task.Walls := ⟨by decide, fun M x cs w h => (HasField.snd (HasField.snd (HasField.snd (HasField.snd (HasField.fst HasField.self))))).2 M _ cs w h⟩
theorem ty23 : Ty Try.prog 23 (List Box) := ⟨⟨_, Try.underlying23, rfl⟩, by kernel_rfl⟩
theorem sl23 : SliceOf Try.prog 23 25 := Try.underlying23
theorem sl81 : SliceOf Try.prog 81 26 := Try.underlying81
theorem ty26 : Ty Try.prog 26 Int := ⟨⟨_, Try.underlying26, rfl⟩, by kernel_rfl⟩
theorem hz26 : HasZero Try.prog 26 := by unfold HasZero; kernel_rfl
theorem fnok10 : FnOK Try.prog 10 := ⟨_, Try.func10, by kernel_rfl, by kernel_rfl⟩
theorem fnok14 : FnOK Try.prog 14 := ⟨_, Try.func14, by kernel_rfl, by kernel_rfl⟩
theorem ty25 : Ty Try.prog 25 Box := ⟨⟨_, Try.underlying25, rfl⟩, by kernel_rfl⟩
theorem zo25 : ZeroOf Try.prog 25 (⟨(0 : Int), (0 : Int), (0 : Int), (0 : Int)⟩ : Box) := ⟨[.int .i64 0, .int .i64 0, .int .i64 0, .int .i64 0], by kernel_rfl, fun _ _ => ⟨[_], _, rfl, ⟨rfl, by decide⟩, ⟨[_], _, rfl, ⟨rfl, by decide⟩, ⟨[_], _, rfl, ⟨rfl, by decide⟩, ⟨rfl, by decide⟩⟩⟩⟩⟩
theorem fnok49 : FnOK Try.prog 49 := ⟨_, Try.func49, by kernel_rfl, by kernel_rfl⟩
theorem fd25_0 : FieldAt Try.prog 25 0 0 := ⟨_, _, Try.underlying25, rfl, rfl, by kernel_rfl⟩
theorem hfd25_0 : HasField Box Int 0 Box.X := ⟨by decide, fun M x cs w h => (HasField.fst HasField.self).2 M _ cs w h⟩
theorem fd25_1 : FieldAt Try.prog 25 1 1 := ⟨_, _, Try.underlying25, rfl, rfl, by kernel_rfl⟩
theorem hfd25_1 : HasField Box Int 1 Box.Y := ⟨by decide, fun M x cs w h => (HasField.snd (HasField.fst HasField.self)).2 M _ cs w h⟩
theorem sf53_1 : SetField Point Int 1 (fun x z => { x with Y := z }) := ⟨by decide, fun M x z cs zs w h hz => (SetField.snd SetField.self).2 M _ z cs zs w h hz⟩
theorem sf53_0 : SetField Point Int 0 (fun x z => { x with X := z }) := ⟨by decide, fun M x z cs zs w h hz => (SetField.fst SetField.self).2 M _ z cs zs w h hz⟩
theorem bu53 : BuildAt Try.prog 53 [.int .i64 0, .int .i64 0] [(0, 1), (1, 1)] := ⟨by kernel_rfl, _, Try.underlying53, by kernel_rfl⟩
theorem zc53 : ∀ (M : MSet) (w : World), Rep.cells M (⟨(0 : Int), (0 : Int)⟩ : Point) [.int .i64 0, .int .i64 0] w := fun _ _ => ⟨[_], _, rfl, ⟨rfl, by decide⟩, ⟨rfl, by decide⟩⟩
theorem fd25_2 : FieldAt Try.prog 25 2 2 := ⟨_, _, Try.underlying25, rfl, rfl, by kernel_rfl⟩
theorem hfd25_2 : HasField Box Int 2 Box.W_ := ⟨by decide, fun M x cs w h => (HasField.snd (HasField.snd (HasField.fst HasField.self))).2 M _ cs w h⟩
theorem fd25_3 : FieldAt Try.prog 25 3 3 := ⟨_, _, Try.underlying25, rfl, rfl, by kernel_rfl⟩
theorem hfd25_3 : HasField Box Int 3 Box.H := ⟨by decide, fun M x cs w h => (HasField.snd (HasField.snd (HasField.snd HasField.self))).2 M _ cs w h⟩
theorem fd55_5 : FieldAt Try.prog 55 5 7 := ⟨_, _, Try.underlying55, rfl, rfl, by kernel_rfl⟩
theorem hfd55_5 : HasField Task Int 7 Task.Clear := ⟨by decide, fun M x cs w h => (HasField.snd (HasField.snd (HasField.snd (HasField.snd (HasField.snd HasField.self))))).2 M _ cs w h⟩
theorem fnok68 : FnOK Try.prog 68 := ⟨_, Try.func68, by kernel_rfl, by kernel_rfl⟩
theorem zo53 : ZeroOf Try.prog 53 (⟨(0 : Int), (0 : Int)⟩ : Point) := ⟨[.int .i64 0, .int .i64 0], by kernel_rfl, fun _ _ => ⟨[_], _, rfl, ⟨rfl, by decide⟩, ⟨rfl, by decide⟩⟩⟩
theorem fnok75 : FnOK Try.prog 75 := ⟨_, Try.func75, by kernel_rfl, by kernel_rfl⟩
theorem fnok91 : FnOK Try.prog 91 := ⟨_, Try.func91, by kernel_rfl, by kernel_rfl⟩
theorem ty22 : Ty Try.prog 22 (List Point) := ⟨⟨_, Try.underlying22, rfl⟩, by kernel_rfl⟩
theorem fnok26 : FnOK Try.prog 26 := ⟨_, Try.func26, by kernel_rfl, by kernel_rfl⟩
theorem fnok27 : FnOK Try.prog 27 := ⟨_, Try.func27, by kernel_rfl, by kernel_rfl⟩
theorem sf97_1 : SetField Anon_p_side Int 2 (fun x z => { x with side := z }) := ⟨by decide, fun M x z cs zs w h hz => (SetField.snd SetField.self).2 M _ z cs zs w h hz⟩
theorem sf97_0 : SetField Anon_p_side Point 0 (fun x z => { x with p := z }) := ⟨by decide, fun M x z cs zs w h hz => (SetField.fst SetField.self).2 M _ z cs zs w h hz⟩
theorem bu97 : BuildAt Try.prog 97 [.int .i64 0, .int .i64 0, .int .i64 0] [(0, 2), (2, 1)] := ⟨by kernel_rfl, _, Try.underlying97, by kernel_rfl⟩
theorem zc97 : ∀ (M : MSet) (w : World), Rep.cells M (⟨(⟨(0 : Int), (0 : Int)⟩ : Point), (0 : Int)⟩ : Anon_p_side) [.int .i64 0, .int .i64 0, .int .i64 0] w := fun _ _ => ⟨[_, _], _, rfl, ⟨[_], _, rfl, ⟨rfl, by decide⟩, ⟨rfl, by decide⟩⟩, ⟨rfl, by decide⟩⟩
theorem sl98 : SliceOf Try.prog 98 97 := Try.underlying98
theorem ty97 : Ty Try.prog 97 Anon_p_side := ⟨⟨_, Try.underlying97, rfl⟩, by kernel_rfl⟩
theorem hz97 : HasZero Try.prog 97 := by unfold HasZero; kernel_rfl
theorem zo97 : ZeroOf Try.prog 97 (⟨(⟨(0 : Int), (0 : Int)⟩ : Point), (0 : Int)⟩ : Anon_p_side) := ⟨[.int .i64 0, .int .i64 0, .int .i64 0], by kernel_rfl, fun _ _ => ⟨[_, _], _, rfl, ⟨[_], _, rfl, ⟨rfl, by decide⟩, ⟨rfl, by decide⟩⟩, ⟨rfl, by decide⟩⟩⟩
theorem fd97_0 : FieldAt Try.prog 97 0 0 := ⟨_, _, Try.underlying97, rfl, rfl, by kernel_rfl⟩
theorem hfd97_0 : HasField Anon_p_side Point 0 Anon_p_side.p := ⟨by decide, fun M x cs w h => (HasField.fst HasField.self).2 M _ cs w h⟩
theorem fnok71 : FnOK Try.prog 71 := ⟨_, Try.func71, by kernel_rfl, by kernel_rfl⟩
theorem fnok94 : FnOK Try.prog 94 := ⟨_, Try.func94, by kernel_rfl, by kernel_rfl⟩
theorem fd97_1 : FieldAt Try.prog 97 1 2 := ⟨_, _, Try.underlying97, rfl, rfl, by kernel_rfl⟩
theorem hfd97_1 : HasField Anon_p_side Int 2 Anon_p_side.side := ⟨by decide, fun M x cs w h => (HasField.snd HasField.self).2 M _ cs w h⟩
theorem fnok72 : FnOK Try.prog 72 := ⟨_, Try.func72, by kernel_rfl, by kernel_rfl⟩
theorem fnok41 : FnOK Try.prog 41 := ⟨_, Try.func41, by kernel_rfl, by kernel_rfl⟩
theorem fnok73 : FnOK Try.prog 73 := ⟨_, Try.func73, by kernel_rfl, by kernel_rfl⟩
theorem fnok102 : FnOK Try.prog 102 := ⟨_, Try.func102, by kernel_rfl, by kernel_rfl⟩
theorem ao156 : ArrOf Try.prog 156 4 53 := Try.underlying156
theorem az156 : ArrZero Try.prog 156 ((4 + 1) * Rep.sz Point) := by unfold ArrZero; kernel_rfl
theorem fnok45 : FnOK Try.prog 45 := ⟨_, Try.func45, by kernel_rfl, by kernel_rfl⟩
theorem fnok69 : FnOK Try.prog 69 := ⟨_, Try.func69, by kernel_rfl, by kernel_rfl⟩
theorem sl22 : SliceOf Try.prog 22 53 := Try.underlying22
theorem fnok100 : FnOK Try.prog 100 := ⟨_, Try.func100, by kernel_rfl, by kernel_rfl⟩
theorem fnok70 : FnOK Try.prog 70 := ⟨_, Try.func70, by kernel_rfl, by kernel_rfl⟩
theorem fnok87 : FnOK Try.prog 87 := ⟨_, Try.func87, by kernel_rfl, by kernel_rfl⟩
theorem eq53 : DB.EqAt Try.prog 53 Point := eqAt_ints (n := 2) (fun p => [p.X, p.Y]) (fun a b => by cases a; cases b; simp) (fun _ => rfl) (fun M v w a h => by obtain ⟨cs, h, rfl⟩ := h; obtain ⟨_, _, rfl, ⟨rfl, _⟩, ⟨rfl, _⟩⟩ := h; rfl) ⟨by kernel_rfl, by kernel_rfl, by kernel_rfl, by kernel_rfl⟩
theorem fnok43 : FnOK Try.prog 43 := ⟨_, Try.func43, by kernel_rfl, by kernel_rfl⟩
theorem fnok95 : FnOK Try.prog 95 := ⟨_, Try.func95, by kernel_rfl, by kernel_rfl⟩
theorem fnok101 : FnOK Try.prog 101 := ⟨_, Try.func101, by kernel_rfl, by kernel_rfl⟩
theorem fnok33 : FnOK Try.prog 33 := ⟨_, Try.func33, by kernel_rfl, by kernel_rfl⟩
theorem fnok88 : FnOK Try.prog 88 := ⟨_, Try.func88, by kernel_rfl, by kernel_rfl⟩
theorem fnok93 : FnOK Try.prog 93 := ⟨_, Try.func93, by kernel_rfl, by kernel_rfl⟩
theorem fnok81 : FnOK Try.prog 81 := ⟨_, Try.func81, by kernel_rfl, by kernel_rfl⟩
theorem sf135_3 : SetField Route_zone Int 3 (fun x z => { x with bottom := z }) := ⟨by decide, fun M x z cs zs w h hz => (SetField.snd (SetField.snd (SetField.snd SetField.self))).2 M _ z cs zs w h hz⟩
theorem sf135_2 : SetField Route_zone Int 2 (fun x z => { x with right := z }) := ⟨by decide, fun M x z cs zs w h hz => (SetField.snd (SetField.snd (SetField.fst SetField.self))).2 M _ z cs zs w h hz⟩
theorem sf135_1 : SetField Route_zone Int 1 (fun x z => { x with top := z }) := ⟨by decide, fun M x z cs zs w h hz => (SetField.snd (SetField.fst SetField.self)).2 M _ z cs zs w h hz⟩
theorem sf135_0 : SetField Route_zone Int 0 (fun x z => { x with left := z }) := ⟨by decide, fun M x z cs zs w h hz => (SetField.fst SetField.self).2 M _ z cs zs w h hz⟩
theorem bu135 : BuildAt Try.prog 135 [.int .i64 0, .int .i64 0, .int .i64 0, .int .i64 0] [(0, 1), (1, 1), (2, 1), (3, 1)] := ⟨by kernel_rfl, _, Try.underlying135, by kernel_rfl⟩
theorem zc135 : ∀ (M : MSet) (w : World), Rep.cells M (⟨(0 : Int), (0 : Int), (0 : Int), (0 : Int)⟩ : Route_zone) [.int .i64 0, .int .i64 0, .int .i64 0, .int .i64 0] w := fun _ _ => ⟨[_], _, rfl, ⟨rfl, by decide⟩, ⟨[_], _, rfl, ⟨rfl, by decide⟩, ⟨[_], _, rfl, ⟨rfl, by decide⟩, ⟨rfl, by decide⟩⟩⟩⟩
theorem sl106 : SliceOf Try.prog 106 135 := Try.underlying106
theorem ty135 : Ty Try.prog 135 Route_zone := ⟨⟨_, Try.underlying135, rfl⟩, by kernel_rfl⟩
theorem hz135 : HasZero Try.prog 135 := by unfold HasZero; kernel_rfl
theorem rk106 : RowOK Try.prog 106 135 Route_zone := ⟨sl106, ty135, by kernel_rfl⟩
theorem fnok79 : FnOK Try.prog 79 := ⟨_, Try.func79, by kernel_rfl, by kernel_rfl⟩
theorem hz53 : HasZero Try.prog 53 := by unfold HasZero; kernel_rfl
theorem rk22 : RowOK Try.prog 22 53 Point := ⟨sl22, ty53, by kernel_rfl⟩
theorem fnok82 : FnOK Try.prog 82 := ⟨_, Try.func82, by kernel_rfl, by kernel_rfl⟩
theorem fnok112 : FnOK Try.prog 112 := ⟨_, Try.func112, by kernel_rfl, by kernel_rfl⟩
theorem fd135_0 : FieldAt Try.prog 135 0 0 := ⟨_, _, Try.underlying135, rfl, rfl, by kernel_rfl⟩
theorem hfd135_0 : HasField Route_zone Int 0 Route_zone.left := ⟨by decide, fun M x cs w h => (HasField.fst HasField.self).2 M _ cs w h⟩
theorem fd135_2 : FieldAt Try.prog 135 2 2 := ⟨_, _, Try.underlying135, rfl, rfl, by kernel_rfl⟩
theorem hfd135_2 : HasField Route_zone Int 2 Route_zone.right := ⟨by decide, fun M x cs w h => (HasField.snd (HasField.snd (HasField.fst HasField.self))).2 M _ cs w h⟩
theorem fd135_1 : FieldAt Try.prog 135 1 1 := ⟨_, _, Try.underlying135, rfl, rfl, by kernel_rfl⟩
theorem hfd135_1 : HasField Route_zone Int 1 Route_zone.top := ⟨by decide, fun M x cs w h => (HasField.snd (HasField.fst HasField.self)).2 M _ cs w h⟩
theorem fd135_3 : FieldAt Try.prog 135 3 3 := ⟨_, _, Try.underlying135, rfl, rfl, by kernel_rfl⟩
theorem hfd135_3 : HasField Route_zone Int 3 Route_zone.bottom := ⟨by decide, fun M x cs w h => (HasField.snd (HasField.snd (HasField.snd HasField.self))).2 M _ cs w h⟩
theorem fnok111 : FnOK Try.prog 111 := ⟨_, Try.func111, by kernel_rfl, by kernel_rfl⟩
theorem fnok126 : FnOK Try.prog 126 := ⟨_, Try.func126, by kernel_rfl, by kernel_rfl⟩
theorem fnok103 : FnOK Try.prog 103 := ⟨_, Try.func103, by kernel_rfl, by kernel_rfl⟩
theorem fnok123 : FnOK Try.prog 123 := ⟨_, Try.func123, by kernel_rfl, by kernel_rfl⟩
theorem sl42 : SliceOf Try.prog 42 3 := Try.underlying42
theorem hz3 : HasZero Try.prog 3 := by unfold HasZero; kernel_rfl
theorem rk42 : RowOK Try.prog 42 3 Int := ⟨sl42, ty3, by kernel_rfl⟩
theorem zo135 : ZeroOf Try.prog 135 (⟨(0 : Int), (0 : Int), (0 : Int), (0 : Int)⟩ : Route_zone) := ⟨[.int .i64 0, .int .i64 0, .int .i64 0, .int .i64 0], by kernel_rfl, fun _ _ => ⟨[_], _, rfl, ⟨rfl, by decide⟩, ⟨[_], _, rfl, ⟨rfl, by decide⟩, ⟨[_], _, rfl, ⟨rfl, by decide⟩, ⟨rfl, by decide⟩⟩⟩⟩⟩
theorem fnok78 : FnOK Try.prog 78 := ⟨_, Try.func78, by kernel_rfl, by kernel_rfl⟩
theorem fnok108 : FnOK Try.prog 108 := ⟨_, Try.func108, by kernel_rfl, by kernel_rfl⟩
theorem fnok99 : FnOK Try.prog 99 := ⟨_, Try.func99, by kernel_rfl, by kernel_rfl⟩
theorem fnok109 : FnOK Try.prog 109 := ⟨_, Try.func109, by kernel_rfl, by kernel_rfl⟩
theorem fnok17 : FnOK Try.prog 17 := ⟨_, Try.func17, by kernel_rfl, by kernel_rfl⟩
theorem sf55_5 : SetField Task Int 7 (fun x z => { x with Clear := z }) := ⟨by decide, fun M x z cs zs w h hz => (SetField.snd (SetField.snd (SetField.snd (SetField.snd (SetField.snd SetField.self))))).2 M _ z cs zs w h hz⟩
theorem sf55_3 : SetField Task Int 5 (fun x z => { x with ToSide := z }) := ⟨by decide, fun M x z cs zs w h hz => (SetField.snd (SetField.snd (SetField.snd (SetField.fst SetField.self)))).2 M _ z cs zs w h hz⟩
theorem sf55_2 : SetField Task Point 3 (fun x z => { x with To := z }) := ⟨by decide, fun M x z cs zs w h hz => (SetField.snd (SetField.snd (SetField.fst SetField.self))).2 M _ z cs zs w h hz⟩
theorem sf55_1 : SetField Task Int 2 (fun x z => { x with FromSide := z }) := ⟨by decide, fun M x z cs zs w h hz => (SetField.snd (SetField.fst SetField.self)).2 M _ z cs zs w h hz⟩
theorem bu55 : BuildAt Try.prog 55 [.int .i64 0, .int .i64 0, .int .i64 0, .int .i64 0, .int .i64 0, .int .i64 0, .slice none 0 0, .int .i64 0] [(0, 2), (2, 1), (3, 2), (5, 1), (6, 1), (7, 1)] := ⟨by kernel_rfl, _, Try.underlying55, by kernel_rfl⟩
theorem zc55 : ∀ (M : MSet) (w : World), Rep.cells M (⟨(⟨(0 : Int), (0 : Int)⟩ : Point), (0 : Int), (⟨(0 : Int), (0 : Int)⟩ : Point), (0 : Int), ([] : (List Box)), (0 : Int)⟩ : Task) [.int .i64 0, .int .i64 0, .int .i64 0, .int .i64 0, .int .i64 0, .int .i64 0, .slice none 0 0, .int .i64 0] w := fun _ _ => ⟨[_, _], _, rfl, ⟨[_], _, rfl, ⟨rfl, by decide⟩, ⟨rfl, by decide⟩⟩, ⟨[_], _, rfl, ⟨rfl, by decide⟩, ⟨[_, _], _, rfl, ⟨[_], _, rfl, ⟨rfl, by decide⟩, ⟨rfl, by decide⟩⟩, ⟨[_], _, rfl, ⟨rfl, by decide⟩, ⟨[_], _, rfl, ⟨none, 0, rfl, Nat.le_refl _, by decide, rfl⟩, ⟨rfl, by decide⟩⟩⟩⟩⟩⟩
theorem zo55 : ZeroOf Try.prog 55 (⟨(⟨(0 : Int), (0 : Int)⟩ : Point), (0 : Int), (⟨(0 : Int), (0 : Int)⟩ : Point), (0 : Int), ([] : (List Box)), (0 : Int)⟩ : Task) := ⟨[.int .i64 0, .int .i64 0, .int .i64 0, .int .i64 0, .int .i64 0, .int .i64 0, .slice none 0 0, .int .i64 0], by kernel_rfl, fun _ _ => ⟨[_, _], _, rfl, ⟨[_], _, rfl, ⟨rfl, by decide⟩, ⟨rfl, by decide⟩⟩, ⟨[_], _, rfl, ⟨rfl, by decide⟩, ⟨[_, _], _, rfl, ⟨[_], _, rfl, ⟨rfl, by decide⟩, ⟨rfl, by decide⟩⟩, ⟨[_], _, rfl, ⟨rfl, by decide⟩, ⟨[_], _, rfl, ⟨none, 0, rfl, Nat.le_refl _, by decide, rfl⟩, ⟨rfl, by decide⟩⟩⟩⟩⟩⟩⟩
theorem fnok29 : FnOK Try.prog 29 := ⟨_, Try.func29, by kernel_rfl, by kernel_rfl⟩
theorem fnok30 : FnOK Try.prog 30 := ⟨_, Try.func30, by kernel_rfl, by kernel_rfl⟩
theorem fnok31 : FnOK Try.prog 31 := ⟨_, Try.func31, by kernel_rfl, by kernel_rfl⟩
theorem fnok48 : FnOK Try.prog 48 := ⟨_, Try.func48, by kernel_rfl, by kernel_rfl⟩
theorem fnok74 : FnOK Try.prog 74 := ⟨_, Try.func74, by kernel_rfl, by kernel_rfl⟩
theorem fnok76 : FnOK Try.prog 76 := ⟨_, Try.func76, by kernel_rfl, by kernel_rfl⟩
theorem fnok104 : FnOK Try.prog 104 := ⟨_, Try.func104, by kernel_rfl, by kernel_rfl⟩
theorem fnok40 : FnOK Try.prog 40 := ⟨_, Try.func40, by kernel_rfl, by kernel_rfl⟩
theorem fnok50 : FnOK Try.prog 50 := ⟨_, Try.func50, by kernel_rfl, by kernel_rfl⟩
theorem fnok56 : FnOK Try.prog 56 := ⟨_, Try.func56, by kernel_rfl, by kernel_rfl⟩
theorem fnok77 : FnOK Try.prog 77 := ⟨_, Try.func77, by kernel_rfl, by kernel_rfl⟩
theorem fnok105 : FnOK Try.prog 105 := ⟨_, Try.func105, by kernel_rfl, by kernel_rfl⟩
theorem fnok80 : FnOK Try.prog 80 := ⟨_, Try.func80, by kernel_rfl, by kernel_rfl⟩
theorem fnok110 : FnOK Try.prog 110 := ⟨_, Try.func110, by kernel_rfl, by kernel_rfl⟩
theorem fnok53 : FnOK Try.prog 53 := ⟨_, Try.func53, by kernel_rfl, by kernel_rfl⟩
theorem fnok97 : FnOK Try.prog 97 := ⟨_, Try.func97, by kernel_rfl, by kernel_rfl⟩
theorem fnok28 : FnOK Try.prog 28 := ⟨_, Try.func28, by kernel_rfl, by kernel_rfl⟩

end Go.Proofs.Ytegjicmejjfgfaa
