/-
  Closed facts on the program.
-/
import Derived.Test.YtbahnfkccdlpnaaRows
import Derived.Test.YtbahnfkccdlpnaaTLaLi1
set_option maxRecDepth 100000
set_option linter.unusedSimpArgs false
set_option linter.unusedVariables false
namespace Go.Proofs.Ytbahnfkccdlpnaa
open Go Go.DB Go.RowKit

theorem mixed : Try.prog.follows .mixedOrders = true := by kernel_rfl
def sortI_ren : Shelf.Ren where
  f := fun x => match x with | 5 => 67 | 8 => 108 | 7 => 107 | 19 => 130 | 20 => 131 | 10 => 121 | 11 => 122 | 12 => 123 | 13 => 124 | 14 => 125 | 15 => 126 | 16 => 127 | 17 => 128 | 18 => 129 | 30 => 135 | 31 => 136 | 32 => 137 | 33 => 138 | 34 => 139 | 35 => 105 | 40 => 143 | n => n
  t := fun x => match x with | 23 => 32 | 25 => 3 | 3 => 3 | 32 => 69 | 22 => 32 | 0 => 0 | 44 => 57 | 46 => 151 | 4 => 4 | 36 => 143 | 35 => 142 | 41 => 90 | 5 => 5 | 9 => 9 | 53 => 153 | 57 => 157 | 63 => 161 | 64 => 135 | n => n
  g := fun n => n
theorem sortI_lay : SlLaysM.n5 Try.prog sortI_ren where
  mixed := by kernel_rfl
  f5 := ⟨ "slices.Sort[[]int,int]", of_decide_eq_true (by kernel_rfl), Try.func67.trans (by kernel_rfl)⟩
  f7 := ⟨ "slices.pdqsortOrdered[int]", of_decide_eq_true (by kernel_rfl), Try.func107.trans (by kernel_rfl)⟩
  f8 := Try.func108.trans (by kernel_rfl)
  f10 := ⟨ "slices.insertionSortOrdered[int]", of_decide_eq_true (by kernel_rfl), Try.func121.trans (by kernel_rfl)⟩
  f11 := ⟨ "slices.heapSortOrdered[int]", of_decide_eq_true (by kernel_rfl), Try.func122.trans (by kernel_rfl)⟩
  f12 := ⟨ "slices.breakPatternsOrdered[int]", of_decide_eq_true (by kernel_rfl), Try.func123.trans (by kernel_rfl)⟩
  f13 := ⟨ "slices.choosePivotOrdered[int]", of_decide_eq_true (by kernel_rfl), Try.func124.trans (by kernel_rfl)⟩
  f14 := ⟨ "slices.reverseRangeOrdered[int]", of_decide_eq_true (by kernel_rfl), Try.func125.trans (by kernel_rfl)⟩
  f15 := ⟨ "slices.partialInsertionSortOrdered[int]", of_decide_eq_true (by kernel_rfl), Try.func126.trans (by kernel_rfl)⟩
  f16 := ⟨ "cmp.Less[int]", of_decide_eq_true (by kernel_rfl), Try.func127.trans (by kernel_rfl)⟩
  f17 := ⟨ "slices.partitionEqualOrdered[int]", of_decide_eq_true (by kernel_rfl), Try.func128.trans (by kernel_rfl)⟩
  f18 := ⟨ "slices.partitionOrdered[int]", of_decide_eq_true (by kernel_rfl), Try.func129.trans (by kernel_rfl)⟩
  f19 := Try.func130.trans (by kernel_rfl)
  f20 := Try.func131.trans (by kernel_rfl)
  f30 := ⟨ "slices.siftDownOrdered[int]", of_decide_eq_true (by kernel_rfl), Try.func135.trans (by kernel_rfl)⟩
  f31 := Try.func136.trans (by kernel_rfl)
  f32 := Try.func137.trans (by kernel_rfl)
  f33 := ⟨ "slices.medianAdjacentOrdered[int]", of_decide_eq_true (by kernel_rfl), Try.func138.trans (by kernel_rfl)⟩
  f34 := ⟨ "slices.medianOrdered[int]", of_decide_eq_true (by kernel_rfl), Try.func139.trans (by kernel_rfl)⟩
  f35 := ⟨ "cmp.isNaN[int]", of_decide_eq_true (by kernel_rfl), Try.func105.trans (by kernel_rfl)⟩
  f40 := ⟨ "slices.order2Ordered[int]", of_decide_eq_true (by kernel_rfl), Try.func143.trans (by kernel_rfl)⟩
  t0 := Try.underlying0
  a0 := Try.isAgg0
  z0 := Try.sizeOf0
  v0 := Try.zeroValue0
  t3 := Try.underlying3
  a3 := Try.isAgg3
  z3 := Try.sizeOf3
  v3 := Try.zeroValue3
  t4 := Try.underlying4
  a4 := Try.isAgg4
  z4 := Try.sizeOf4
  v4 := Try.zeroValue4
  t5 := Try.underlying5
  a5 := Try.isAgg5
  z5 := Try.sizeOf5
  v5 := Try.zeroValue5
  t9 := Try.underlying9
  a9 := Try.isAgg9
  z9 := Try.sizeOf9
  v9 := Try.zeroValue9
  t22 := Try.underlying32
  a22 := Try.isAgg32
  z22 := Try.sizeOf32
  v22 := Try.zeroValue32
  t23 := Try.underlying32
  a23 := Try.isAgg32
  z23 := Try.sizeOf32
  v23 := Try.zeroValue32
  t25 := Try.underlying3
  a25 := Try.isAgg3
  z25 := Try.sizeOf3
  v25 := Try.zeroValue3
  t32 := Try.underlying69
  a32 := Try.isAgg69
  z32 := Try.sizeOf69
  v32 := Try.zeroValue69
  t35 := Try.underlying142
  a35 := Try.isAgg142
  z35 := Try.sizeOf142
  v35 := Try.zeroValue142
  t36 := Try.underlying143
  a36 := Try.isAgg143
  z36 := Try.sizeOf143
  v36 := Try.zeroValue143
  t41 := Try.underlying90
  a41 := Try.isAgg90
  z41 := Try.sizeOf90
  v41 := Try.zeroValue90
  t44 := Try.underlying57
  a44 := Try.isAgg57
  z44 := Try.sizeOf57
  v44 := Try.zeroValue57
  t46 := Try.underlying151
  a46 := Try.isAgg151
  z46 := Try.sizeOf151
  v46 := Try.zeroValue151
  t53 := Try.underlying153
  a53 := Try.isAgg153
  z53 := Try.sizeOf153
  v53 := Try.zeroValue153
  t57 := Try.underlying157
  a57 := Try.isAgg157
  z57 := Try.sizeOf157
  v57 := Try.zeroValue157
  t63 := Try.underlying161
  a63 := Try.isAgg161
  z63 := Try.sizeOf161
  v63 := Try.zeroValue161
  t64 := Try.underlying135
  a64 := Try.isAgg135
  z64 := Try.sizeOf135
  v64 := Try.zeroValue135

def compactI_ren : Shelf.Ren where
  f := fun x => match x with | 43 => 51 | n => n
  t := fun x => match x with | 22 => 32 | 23 => 3 | 3 => 3 | 4 => 4 | 0 => 0 | n => n
  g := fun n => n
theorem compactI_lay : SlLaysN.n43 Try.prog compactI_ren where
  mixed := by kernel_rfl
  f43 := ⟨ "slices.Compact[[]int,int]", of_decide_eq_true (by kernel_rfl), Try.func51.trans (by kernel_rfl)⟩
  t0 := Try.underlying0
  a0 := Try.isAgg0
  z0 := Try.sizeOf0
  v0 := Try.zeroValue0
  t3 := Try.underlying3
  a3 := Try.isAgg3
  z3 := Try.sizeOf3
  v3 := Try.zeroValue3
  t4 := Try.underlying4
  a4 := Try.isAgg4
  z4 := Try.sizeOf4
  v4 := Try.zeroValue4
  t22 := Try.underlying32
  a22 := Try.isAgg32
  z22 := Try.sizeOf32
  v22 := Try.zeroValue32
  t23 := Try.underlying3
  a23 := Try.isAgg3
  z23 := Try.sizeOf3
  v23 := Try.zeroValue3
  i23 := by kernel_rfl

def cloneO97_ren : Shelf.Ren where
  f := fun x => match x with | 41 => 97 | n => n
  t := fun x => match x with | 22 => 22 | 23 => 32 | 4 => 4 | n => n
  g := fun n => n
theorem cloneO97_lay : SlLaysE0.n41 Try.prog cloneO97_ren where
  mixed := by kernel_rfl
  f41 := ⟨ "slices.Clone[[][]int,[]int]", of_decide_eq_true (by kernel_rfl), Try.func97.trans (by kernel_rfl)⟩
  t4 := Try.underlying4
  a4 := Try.isAgg4
  z4 := Try.sizeOf4
  v4 := Try.zeroValue4
  t22 := Try.underlying22
  a22 := Try.isAgg22
  z22 := Try.sizeOf22
  v22 := Try.zeroValue22

theorem fnok67 : FnOK Try.prog 67 := ⟨_, Try.func67, by kernel_rfl, by kernel_rfl⟩
theorem fnok51 : FnOK Try.prog 51 := ⟨_, Try.func51, by kernel_rfl, by kernel_rfl⟩
theorem fnok53 : FnOK Try.prog 53 := ⟨_, Try.func53, by kernel_rfl, by kernel_rfl⟩
theorem fnok52 : FnOK Try.prog 52 := ⟨_, Try.func52, by kernel_rfl, by kernel_rfl⟩
theorem fnok9 : FnOK Try.prog 9 := ⟨_, Try.func9, by kernel_rfl, by kernel_rfl⟩
theorem sl71 : SliceOf Try.prog 71 81 := Try.underlying71
theorem fnok47 : FnOK Try.prog 47 := ⟨_, Try.func47, by kernel_rfl, by kernel_rfl⟩
theorem fnok19 : FnOK Try.prog 19 := ⟨_, Try.func19, by kernel_rfl, by kernel_rfl⟩
theorem ty3 : Ty Try.prog 3 Int := ⟨⟨_, Try.underlying3, rfl⟩, by kernel_rfl⟩
theorem sl23 : SliceOf Try.prog 23 79 := Try.underlying23
theorem fnok65 : FnOK Try.prog 65 := ⟨_, Try.func65, by kernel_rfl, by kernel_rfl⟩
theorem ty79 : Ty Try.prog 79 Link := ⟨⟨_, Try.underlying79, rfl⟩, by kernel_rfl⟩
theorem zo79 : ZeroOf Try.prog 79 (⟨(0 : Int), (0 : Int)⟩ : Link) := ⟨[.int .i64 0, .int .i64 0], by kernel_rfl, fun _ _ => ⟨[_], _, rfl, ⟨rfl, by decide⟩, ⟨rfl, by decide⟩⟩⟩
theorem fd79_0 : FieldAt Try.prog 79 0 0 := ⟨_, _, Try.underlying79, rfl, rfl, by kernel_rfl⟩
theorem hfd79_0 : HasField Link Int 0 Link.From := ⟨by decide, fun M x cs w h => (HasField.fst HasField.self).2 M _ cs w h⟩
theorem fd79_1 : FieldAt Try.prog 79 1 1 := ⟨_, _, Try.underlying79, rfl, rfl, by kernel_rfl⟩
theorem hfd79_1 : HasField Link Int 1 Link.To := ⟨by decide, fun M x cs w h => (HasField.snd HasField.self).2 M _ cs w h⟩
theorem ty81 : Ty Try.prog 81 Point := ⟨⟨_, Try.underlying81, rfl⟩, by kernel_rfl⟩
theorem zo81 : ZeroOf Try.prog 81 (⟨(0 : Int), (0 : Int)⟩ : Point) := ⟨[.int .i64 0, .int .i64 0], by kernel_rfl, fun _ _ => ⟨[_], _, rfl, ⟨rfl, by decide⟩, ⟨rfl, by decide⟩⟩⟩
theorem fd81_0 : FieldAt Try.prog 81 0 0 := ⟨_, _, Try.underlying81, rfl, rfl, by kernel_rfl⟩
theorem hfd81_0 : HasField Point Int 0 Point.X := ⟨by decide, fun M x cs w h => (HasField.fst HasField.self).2 M _ cs w h⟩
theorem fd81_1 : FieldAt Try.prog 81 1 1 := ⟨_, _, Try.underlying81, rfl, rfl, by kernel_rfl⟩
theorem hfd81_1 : HasField Point Int 1 Point.Y := ⟨by decide, fun M x cs w h => (HasField.snd HasField.self).2 M _ cs w h⟩
theorem fnok50 : FnOK Try.prog 50 := ⟨_, Try.func50, by kernel_rfl, by kernel_rfl⟩
theorem hz79 : HasZero Try.prog 79 := by unfold HasZero; kernel_rfl
theorem rk23 : RowOK Try.prog 23 79 Link := ⟨sl23, ty79, by kernel_rfl⟩
theorem fnok64 : FnOK Try.prog 64 := ⟨_, Try.func64, by kernel_rfl, by kernel_rfl⟩
theorem sl32 : SliceOf Try.prog 32 3 := Try.underlying32
theorem rk32 : RowOK Try.prog 32 3 Int := ⟨sl32, ty3, by kernel_rfl⟩
theorem zo3 : ZeroOf Try.prog 3 (0 : Int) := ⟨[.int .i64 0], by kernel_rfl, fun _ _ => ⟨rfl, by decide⟩⟩
theorem zr32 : ZeroOf Try.prog 32 (⟨.slice none 0 0⟩ : Raw) := ⟨[.slice none 0 0], by kernel_rfl, fun _ _ => ⟨rfl, rfl, rfl⟩⟩
theorem ty32 : Ty Try.prog 32 (List Int) := ⟨⟨_, Try.underlying32, rfl⟩, by kernel_rfl⟩
theorem zr100 : ZeroOf Try.prog 100 (⟨.nilFunc⟩ : Raw) := ⟨[.nilFunc], by kernel_rfl, fun _ _ => ⟨rfl, rfl, rfl⟩⟩
theorem tr100 : Ty Try.prog 100 Raw := ⟨⟨_, Try.underlying100, rfl⟩, by kernel_rfl⟩
theorem tr32 : Ty Try.prog 32 Raw := ⟨⟨_, Try.underlying32, rfl⟩, by kernel_rfl⟩
theorem fnok106 : FnOK Try.prog 106 := ⟨_, Try.func106, by kernel_rfl, by kernel_rfl⟩
theorem ty23 : Ty Try.prog 23 (List Link) := ⟨⟨_, Try.underlying23, rfl⟩, by kernel_rfl⟩
theorem hz3 : HasZero Try.prog 3 := by unfold HasZero; kernel_rfl
theorem sf79_1 : SetField Link Int 1 (fun x z => { x with To := z }) := ⟨by decide, fun M x z cs zs w h hz => (SetField.snd SetField.self).2 M _ z cs zs w h hz⟩
theorem sf79_0 : SetField Link Int 0 (fun x z => { x with From := z }) := ⟨by decide, fun M x z cs zs w h hz => (SetField.fst SetField.self).2 M _ z cs zs w h hz⟩
theorem bu79 : BuildAt Try.prog 79 [.int .i64 0, .int .i64 0] [(0, 1), (1, 1)] := ⟨by kernel_rfl, _, Try.underlying79, by kernel_rfl⟩
theorem zc79 : ∀ (M : MSet) (w : World), Rep.cells M (⟨(0 : Int), (0 : Int)⟩ : Link) [.int .i64 0, .int .i64 0] w := fun _ _ => ⟨[_], _, rfl, ⟨rfl, by decide⟩, ⟨rfl, by decide⟩⟩
theorem fnok73 : FnOK Try.prog 73 := ⟨_, Try.func73, by kernel_rfl, by kernel_rfl⟩
theorem fnok110 : FnOK Try.prog 110 := ⟨_, Try.func110, by kernel_rfl, by kernel_rfl⟩
theorem sf129_3 : SetField Layer_arc Int 3 (fun x z => { x with gain := z }) := ⟨by decide, fun M x z cs zs w h hz => (SetField.snd (SetField.snd (SetField.snd SetField.self))).2 M _ z cs zs w h hz⟩
theorem sf129_2 : SetField Layer_arc Int 2 (fun x z => { x with link := z }) := ⟨by decide, fun M x z cs zs w h hz => (SetField.snd (SetField.snd (SetField.fst SetField.self))).2 M _ z cs zs w h hz⟩
theorem sf129_1 : SetField Layer_arc Int 1 (fun x z => { x with to_ := z }) := ⟨by decide, fun M x z cs zs w h hz => (SetField.snd (SetField.fst SetField.self)).2 M _ z cs zs w h hz⟩
theorem sf129_0 : SetField Layer_arc Int 0 (fun x z => { x with from_ := z }) := ⟨by decide, fun M x z cs zs w h hz => (SetField.fst SetField.self).2 M _ z cs zs w h hz⟩
theorem bu129 : BuildAt Try.prog 129 [.int .i64 0, .int .i64 0, .int .i64 0, .int .i64 0] [(0, 1), (1, 1), (2, 1), (3, 1)] := ⟨by kernel_rfl, _, Try.underlying129, by kernel_rfl⟩
theorem zc129 : ∀ (M : MSet) (w : World), Rep.cells M (⟨(0 : Int), (0 : Int), (0 : Int), (0 : Int)⟩ : Layer_arc) [.int .i64 0, .int .i64 0, .int .i64 0, .int .i64 0] w := fun _ _ => ⟨[_], _, rfl, ⟨rfl, by decide⟩, ⟨[_], _, rfl, ⟨rfl, by decide⟩, ⟨[_], _, rfl, ⟨rfl, by decide⟩, ⟨rfl, by decide⟩⟩⟩⟩
theorem sl123 : SliceOf Try.prog 123 129 := Try.underlying123
theorem ty129 : Ty Try.prog 129 Layer_arc := ⟨⟨_, Try.underlying129, rfl⟩, by kernel_rfl⟩
theorem hz129 : HasZero Try.prog 129 := by unfold HasZero; kernel_rfl
theorem rk123 : RowOK Try.prog 123 129 Layer_arc := ⟨sl123, ty129, by kernel_rfl⟩
theorem fnok109 : FnOK Try.prog 109 := ⟨_, Try.func109, by kernel_rfl, by kernel_rfl⟩
theorem zo129 : ZeroOf Try.prog 129 (⟨(0 : Int), (0 : Int), (0 : Int), (0 : Int)⟩ : Layer_arc) := ⟨[.int .i64 0, .int .i64 0, .int .i64 0, .int .i64 0], by kernel_rfl, fun _ _ => ⟨[_], _, rfl, ⟨rfl, by decide⟩, ⟨[_], _, rfl, ⟨rfl, by decide⟩, ⟨[_], _, rfl, ⟨rfl, by decide⟩, ⟨rfl, by decide⟩⟩⟩⟩⟩
theorem fd129_0 : FieldAt Try.prog 129 0 0 := ⟨_, _, Try.underlying129, rfl, rfl, by kernel_rfl⟩
theorem hfd129_0 : HasField Layer_arc Int 0 Layer_arc.from_ := ⟨by decide, fun M x cs w h => (HasField.fst HasField.self).2 M _ cs w h⟩
theorem fd129_3 : FieldAt Try.prog 129 3 3 := ⟨_, _, Try.underlying129, rfl, rfl, by kernel_rfl⟩
theorem hfd129_3 : HasField Layer_arc Int 3 Layer_arc.gain := ⟨by decide, fun M x cs w h => (HasField.snd (HasField.snd (HasField.snd HasField.self))).2 M _ cs w h⟩
theorem fd129_1 : FieldAt Try.prog 129 1 1 := ⟨_, _, Try.underlying129, rfl, rfl, by kernel_rfl⟩
theorem hfd129_1 : HasField Layer_arc Int 1 Layer_arc.to_ := ⟨by decide, fun M x cs w h => (HasField.snd (HasField.fst HasField.self)).2 M _ cs w h⟩
theorem fnok111 : FnOK Try.prog 111 := ⟨_, Try.func111, by kernel_rfl, by kernel_rfl⟩
theorem fnok132 : FnOK Try.prog 132 := ⟨_, Try.func132, by kernel_rfl, by kernel_rfl⟩
theorem fnok27 : FnOK Try.prog 27 := ⟨_, Try.func27, by kernel_rfl, by kernel_rfl⟩
theorem fd129_2 : FieldAt Try.prog 129 2 2 := ⟨_, _, Try.underlying129, rfl, rfl, by kernel_rfl⟩
theorem hfd129_2 : HasField Layer_arc Int 2 Layer_arc.link := ⟨by decide, fun M x cs w h => (HasField.snd (HasField.snd (HasField.fst HasField.self))).2 M _ cs w h⟩
theorem zo32 : ZeroOf Try.prog 32 ([] : (List Int)) := ⟨[.slice none 0 0], by kernel_rfl, fun _ _ => ⟨none, 0, rfl, Nat.le_refl _, by decide, rfl⟩⟩
theorem fnok89 : FnOK Try.prog 89 := ⟨_, Try.func89, by kernel_rfl, by kernel_rfl⟩
theorem sl22 : SliceOf Try.prog 22 32 := Try.underlying22
theorem rkraw22 : RowOK Try.prog 22 32 Raw := ⟨sl22, tr32, by kernel_rfl⟩
theorem zraw32 : ZeroOf Try.prog 32 (⟨.slice none 0 0⟩ : Raw) := ⟨[.slice none 0 0], by kernel_rfl, fun _ _ => ⟨rfl, rfl, rfl⟩⟩
theorem fnok90 : FnOK Try.prog 90 := ⟨_, Try.func90, by kernel_rfl, by kernel_rfl⟩
theorem fnok86 : FnOK Try.prog 86 := ⟨_, Try.func86, by kernel_rfl, by kernel_rfl⟩
theorem fnok112 : FnOK Try.prog 112 := ⟨_, Try.func112, by kernel_rfl, by kernel_rfl⟩
theorem fnok55 : FnOK Try.prog 55 := ⟨_, Try.func55, by kernel_rfl, by kernel_rfl⟩
theorem fnok97 : FnOK Try.prog 97 := ⟨_, Try.func97, by kernel_rfl, by kernel_rfl⟩
theorem hz32 : HasZero Try.prog 32 := by unfold HasZero; kernel_rfl
theorem rk22 : RowOK Try.prog 22 32 (List Int) := ⟨sl22, ty32, by kernel_rfl⟩
theorem zr22 : ZeroOf Try.prog 22 (⟨.slice none 0 0⟩ : Raw) := ⟨[.slice none 0 0], by kernel_rfl, fun _ _ => ⟨rfl, rfl, rfl⟩⟩
theorem ty22 : Ty Try.prog 22 (List (List Int)) := ⟨⟨_, Try.underlying22, rfl⟩, by kernel_rfl⟩
theorem tr22 : Ty Try.prog 22 Raw := ⟨⟨_, Try.underlying22, rfl⟩, by kernel_rfl⟩
theorem fnok98 : FnOK Try.prog 98 := ⟨_, Try.func98, by kernel_rfl, by kernel_rfl⟩
theorem fnok83 : FnOK Try.prog 83 := ⟨_, Try.func83, by kernel_rfl, by kernel_rfl⟩
theorem mo88 : MapOf Try.prog 88 3 3 (MKey.desc Int) := ⟨Try.underlying88, Try.underlying3⟩
theorem zo88 : ZeroOf Try.prog 88 (GMap.nil : (GMap Int Int)) := ⟨[.map none], by kernel_rfl, fun _ _ => map_zero⟩
theorem ty88 : Ty Try.prog 88 (GMap Int Int) := ⟨⟨_, Try.underlying88, rfl⟩, by kernel_rfl⟩
theorem fnok115 : FnOK Try.prog 115 := ⟨_, Try.func115, by kernel_rfl, by kernel_rfl⟩
theorem fnok81 : FnOK Try.prog 81 := ⟨_, Try.func81, by kernel_rfl, by kernel_rfl⟩
theorem fnok100 : FnOK Try.prog 100 := ⟨_, Try.func100, by kernel_rfl, by kernel_rfl⟩
theorem zr134 : ZeroOf Try.prog 134 (⟨.map none⟩ : Raw) := ⟨[.map none], by kernel_rfl, fun _ _ => ⟨rfl, rfl, rfl⟩⟩
theorem ty134 : Ty Try.prog 134 (GMap Int Layer_mean) := ⟨⟨_, Try.underlying134, rfl⟩, by kernel_rfl⟩
theorem tr134 : Ty Try.prog 134 Raw := ⟨⟨_, Try.underlying134, rfl⟩, by kernel_rfl⟩
theorem zo137 : ZeroOf Try.prog 137 (⟨(0 : Int), (0 : Int)⟩ : Layer_mean) := ⟨[.int .i64 0, .int .i64 0], by kernel_rfl, fun _ _ => ⟨[_], _, rfl, ⟨rfl, by decide⟩, ⟨rfl, by decide⟩⟩⟩
theorem mo134 : MapOf Try.prog 134 3 137 (MKey.desc Int) := ⟨Try.underlying134, Try.underlying3⟩
theorem ty137 : Ty Try.prog 137 Layer_mean := ⟨⟨_, Try.underlying137, rfl⟩, by kernel_rfl⟩
theorem fd137_0 : FieldAt Try.prog 137 0 0 := ⟨_, _, Try.underlying137, rfl, rfl, by kernel_rfl⟩
theorem hfd137_0 : HasField Layer_mean Int 0 Layer_mean.sum := ⟨by decide, fun M x cs w h => (HasField.fst HasField.self).2 M _ cs w h⟩
theorem fd137_1 : FieldAt Try.prog 137 1 1 := ⟨_, _, Try.underlying137, rfl, rfl, by kernel_rfl⟩
theorem hfd137_1 : HasField Layer_mean Int 1 Layer_mean.many := ⟨by decide, fun M x cs w h => (HasField.snd HasField.self).2 M _ cs w h⟩
theorem sf137_1 : SetField Layer_mean Int 1 (fun x z => { x with many := z }) := ⟨by decide, fun M x z cs zs w h hz => (SetField.snd SetField.self).2 M _ z cs zs w h hz⟩
theorem sf137_0 : SetField Layer_mean Int 0 (fun x z => { x with sum := z }) := ⟨by decide, fun M x z cs zs w h hz => (SetField.fst SetField.self).2 M _ z cs zs w h hz⟩
theorem bu137 : BuildAt Try.prog 137 [.int .i64 0, .int .i64 0] [(0, 1), (1, 1)] := ⟨by kernel_rfl, _, Try.underlying137, by kernel_rfl⟩
theorem zc137 : ∀ (M : MSet) (w : World), Rep.cells M (⟨(0 : Int), (0 : Int)⟩ : Layer_mean) [.int .i64 0, .int .i64 0] w := fun _ _ => ⟨[_], _, rfl, ⟨rfl, by decide⟩, ⟨rfl, by decide⟩⟩
theorem ft137_1 : FieldTy Try.prog 137 1 1 3 := ⟨_, _, Try.underlying137, rfl, rfl, rfl⟩
theorem fnok116 : FnOK Try.prog 116 := ⟨_, Try.func116, by kernel_rfl, by kernel_rfl⟩
theorem fnok133 : FnOK Try.prog 133 := ⟨_, Try.func133, by kernel_rfl, by kernel_rfl⟩
theorem fnok140 : FnOK Try.prog 140 := ⟨_, Try.func140, by kernel_rfl, by kernel_rfl⟩
theorem fnok141 : FnOK Try.prog 141 := ⟨_, Try.func141, by kernel_rfl, by kernel_rfl⟩
theorem fnok144 : FnOK Try.prog 144 := ⟨_, Try.func144, by kernel_rfl, by kernel_rfl⟩
theorem fnok145 : FnOK Try.prog 145 := ⟨_, Try.func145, by kernel_rfl, by kernel_rfl⟩
theorem fnok117 : FnOK Try.prog 117 := ⟨_, Try.func117, by kernel_rfl, by kernel_rfl⟩
theorem fnok63 : FnOK Try.prog 63 := ⟨_, Try.func63, by kernel_rfl, by kernel_rfl⟩
theorem fnok105 : FnOK Try.prog 105 := ⟨_, Try.func105, by kernel_rfl, by kernel_rfl⟩
theorem fnok101 : FnOK Try.prog 101 := ⟨_, Try.func101, by kernel_rfl, by kernel_rfl⟩
theorem fnok99 : FnOK Try.prog 99 := ⟨_, Try.func99, by kernel_rfl, by kernel_rfl⟩
theorem fnok102 : FnOK Try.prog 102 := ⟨_, Try.func102, by kernel_rfl, by kernel_rfl⟩
theorem rk71 : RowOK Try.prog 71 81 Point := ⟨sl71, ty81, by kernel_rfl⟩
theorem fnok91 : FnOK Try.prog 91 := ⟨_, Try.func91, by kernel_rfl, by kernel_rfl⟩
theorem fnok68 : FnOK Try.prog 68 := ⟨_, Try.func68, by kernel_rfl, by kernel_rfl⟩
theorem sf81_1 : SetField Point Int 1 (fun x z => { x with Y := z }) := ⟨by decide, fun M x z cs zs w h hz => (SetField.snd SetField.self).2 M _ z cs zs w h hz⟩
theorem sf81_0 : SetField Point Int 0 (fun x z => { x with X := z }) := ⟨by decide, fun M x z cs zs w h hz => (SetField.fst SetField.self).2 M _ z cs zs w h hz⟩
theorem bu81 : BuildAt Try.prog 81 [.int .i64 0, .int .i64 0] [(0, 1), (1, 1)] := ⟨by kernel_rfl, _, Try.underlying81, by kernel_rfl⟩
theorem zc81 : ∀ (M : MSet) (w : World), Rep.cells M (⟨(0 : Int), (0 : Int)⟩ : Point) [.int .i64 0, .int .i64 0] w := fun _ _ => ⟨[_], _, rfl, ⟨rfl, by decide⟩, ⟨rfl, by decide⟩⟩
theorem fnok18 : FnOK Try.prog 18 := ⟨_, Try.func18, by kernel_rfl, by kernel_rfl⟩
theorem fnok31 : FnOK Try.prog 31 := ⟨_, Try.func31, by kernel_rfl, by kernel_rfl⟩
theorem fnok37 : FnOK Try.prog 37 := ⟨_, Try.func37, by kernel_rfl, by kernel_rfl⟩
theorem fnok33 : FnOK Try.prog 33 := ⟨_, Try.func33, by kernel_rfl, by kernel_rfl⟩

end Go.Proofs.Ytbahnfkccdlpnaa
