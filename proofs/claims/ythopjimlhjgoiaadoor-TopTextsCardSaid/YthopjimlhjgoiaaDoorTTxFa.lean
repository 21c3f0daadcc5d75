/-
  Closed facts on the program.
-/
import Derived.Test.YthopjimlhjgoiaaDoorRows
import Derived.Test.YthopjimlhjgoiaaDoorTTxLi1
set_option maxRecDepth 100000
set_option linter.unusedSimpArgs false
set_option linter.unusedVariables false
namespace Go.Proofs.YthopjimlhjgoiaaDoor
open Go Go.DB Go.RowKit

theorem mixed : Tryd.prog.follows .mixedOrders = true := by kernel_rfl
def indexByteStr_ren : Shelf.Ren where
  f := fun x => match x with | 137 => 93 | 217 => 89 | 266 => 101 | n => n
  t := fun x => match x with | 9 => 9 | 5 => 5 | 3 => 3 | n => n
  g := fun n => n
theorem indexByteStr_lay : Lays.n137 Tryd.prog indexByteStr_ren where
  mixed := by kernel_rfl
  f137 := Tryd.func93.trans (by kernel_rfl)
  f217 := Tryd.func89.trans (by kernel_rfl)
  f266 := Tryd.func101.trans (by kernel_rfl)
  t3 := Tryd.underlying3
  a3 := Tryd.isAgg3
  z3 := Tryd.sizeOf3
  v3 := Tryd.zeroValue3
  t5 := Tryd.underlying5
  a5 := Tryd.isAgg5
  z5 := Tryd.sizeOf5
  v5 := Tryd.zeroValue5
  t9 := Tryd.underlying9
  a9 := Tryd.isAgg9
  z9 := Tryd.sizeOf9
  v9 := Tryd.zeroValue9

def runesStr_ren : Shelf.Ren where
  f := fun x => match x with | 195 => 80 | n => n
  t := fun x => match x with | 9 => 9 | 3 => 3 | 0 => 0 | 4 => 4 | n => n
  g := fun n => n
theorem runesStr_lay : Lays.n195 Tryd.prog runesStr_ren where
  mixed := by kernel_rfl
  f195 := Tryd.func80.trans (by kernel_rfl)
  t0 := Tryd.underlying0
  a0 := Tryd.isAgg0
  z0 := Tryd.sizeOf0
  v0 := Tryd.zeroValue0
  t3 := Tryd.underlying3
  a3 := Tryd.isAgg3
  z3 := Tryd.sizeOf3
  v3 := Tryd.zeroValue3
  t4 := Tryd.underlying4
  a4 := Tryd.isAgg4
  z4 := Tryd.sizeOf4
  v4 := Tryd.zeroValue4
  t9 := Tryd.underlying9
  a9 := Tryd.isAgg9
  z9 := Tryd.sizeOf9
  v9 := Tryd.zeroValue9

def splitStr_ren : Shelf.Ren where
  f := fun x => match x with | 146 => 49 | 221 => 76 | 268 => 95 | 138 => 54 | 143 => 46 | 195 => 80 | 197 => 50 | 218 => 81 | 219 => 74 | 260 => 77 | 217 => 89 | 225 => 90 | 224 => 91 | 267 => 92 | 266 => 101 | 314 => 102 | n => n
  t := fun x => match x with | 9 => 9 | 31 => 30 | 3 => 3 | 4 => 4 | 0 => 0 | 105 => 83 | 21 => 21 | 5 => 5 | 46 => 112 | 119 => 103 | 139 => 111 | 138 => 110 | 146 => 149 | 51 => 126 | n => n
  g := fun x => match x with | 1 => 4 | 3 => 1 | 4 => 2 | n => n
theorem splitStr_lay : Lays.n146 Tryd.prog splitStr_ren where
  mixed := by kernel_rfl
  f138 := Tryd.func54.trans (by kernel_rfl)
  f143 := Tryd.func46.trans (by kernel_rfl)
  f146 := Tryd.func49.trans (by kernel_rfl)
  f195 := Tryd.func80.trans (by kernel_rfl)
  f197 := Tryd.func50.trans (by kernel_rfl)
  f217 := Tryd.func89.trans (by kernel_rfl)
  f218 := Tryd.func81.trans (by kernel_rfl)
  f219 := Tryd.func74.trans (by kernel_rfl)
  f221 := Tryd.func76.trans (by kernel_rfl)
  f224 := Tryd.func91.trans (by kernel_rfl)
  f225 := Tryd.func90.trans (by kernel_rfl)
  f260 := Tryd.func77.trans (by kernel_rfl)
  f266 := Tryd.func101.trans (by kernel_rfl)
  f267 := Tryd.func92.trans (by kernel_rfl)
  f268 := Tryd.func95.trans (by kernel_rfl)
  f314 := Tryd.func102.trans (by kernel_rfl)
  t0 := Tryd.underlying0
  a0 := Tryd.isAgg0
  z0 := Tryd.sizeOf0
  v0 := Tryd.zeroValue0
  t3 := Tryd.underlying3
  a3 := Tryd.isAgg3
  z3 := Tryd.sizeOf3
  v3 := Tryd.zeroValue3
  t4 := Tryd.underlying4
  a4 := Tryd.isAgg4
  z4 := Tryd.sizeOf4
  v4 := Tryd.zeroValue4
  t5 := Tryd.underlying5
  a5 := Tryd.isAgg5
  z5 := Tryd.sizeOf5
  v5 := Tryd.zeroValue5
  t9 := Tryd.underlying9
  a9 := Tryd.isAgg9
  z9 := Tryd.sizeOf9
  v9 := Tryd.zeroValue9
  t21 := Tryd.underlying21
  a21 := Tryd.isAgg21
  z21 := Tryd.sizeOf21
  v21 := Tryd.zeroValue21
  t31 := Tryd.underlying30
  a31 := Tryd.isAgg30
  z31 := Tryd.sizeOf30
  v31 := Tryd.zeroValue30
  t46 := Tryd.underlying112
  a46 := Tryd.isAgg112
  z46 := Tryd.sizeOf112
  v46 := Tryd.zeroValue112
  t51 := Tryd.underlying126
  a51 := Tryd.isAgg126
  z51 := Tryd.sizeOf126
  v51 := Tryd.zeroValue126
  t105 := Tryd.underlying83
  a105 := Tryd.isAgg83
  z105 := Tryd.sizeOf83
  v105 := Tryd.zeroValue83
  t119 := Tryd.underlying103
  a119 := Tryd.isAgg103
  z119 := Tryd.sizeOf103
  t138 := Tryd.underlying110
  a138 := Tryd.isAgg110
  z138 := Tryd.sizeOf110
  v138 := Tryd.zeroValue110
  t139 := Tryd.underlying111
  a139 := Tryd.isAgg111
  z139 := Tryd.sizeOf111
  v139 := Tryd.zeroValue111
  t146 := Tryd.underlying149
  a146 := Tryd.isAgg149
  z146 := Tryd.sizeOf149
  v146 := Tryd.zeroValue149
  g1 := by kernel_rfl
  g3 := by kernel_rfl
  g4 := by kernel_rfl

def validStr_ren : Shelf.Ren where
  f := fun x => match x with | 196 => 42 | 259 => 71 | n => n
  t := fun x => match x with | 9 => 9 | 4 => 4 | 3 => 3 | 5 => 5 | 12 => 12 | 119 => 103 | 0 => 0 | 46 => 112 | 139 => 111 | 138 => 110 | 53 => 129 | n => n
  g := fun x => match x with | 3 => 1 | 4 => 2 | n => n
theorem validStr_lay : Lays.n196 Tryd.prog validStr_ren where
  mixed := by kernel_rfl
  f196 := Tryd.func42.trans (by kernel_rfl)
  f259 := Tryd.func71.trans (by kernel_rfl)
  t0 := Tryd.underlying0
  a0 := Tryd.isAgg0
  z0 := Tryd.sizeOf0
  v0 := Tryd.zeroValue0
  t3 := Tryd.underlying3
  a3 := Tryd.isAgg3
  z3 := Tryd.sizeOf3
  v3 := Tryd.zeroValue3
  t4 := Tryd.underlying4
  a4 := Tryd.isAgg4
  z4 := Tryd.sizeOf4
  v4 := Tryd.zeroValue4
  t5 := Tryd.underlying5
  a5 := Tryd.isAgg5
  z5 := Tryd.sizeOf5
  v5 := Tryd.zeroValue5
  t9 := Tryd.underlying9
  a9 := Tryd.isAgg9
  z9 := Tryd.sizeOf9
  v9 := Tryd.zeroValue9
  t12 := Tryd.underlying12
  a12 := Tryd.isAgg12
  z12 := Tryd.sizeOf12
  v12 := Tryd.zeroValue12
  t46 := Tryd.underlying112
  a46 := Tryd.isAgg112
  z46 := Tryd.sizeOf112
  v46 := Tryd.zeroValue112
  t53 := Tryd.underlying129
  a53 := Tryd.isAgg129
  z53 := Tryd.sizeOf129
  v53 := Tryd.zeroValue129
  t119 := Tryd.underlying103
  a119 := Tryd.isAgg103
  z119 := Tryd.sizeOf103
  t138 := Tryd.underlying110
  a138 := Tryd.isAgg110
  z138 := Tryd.sizeOf110
  v138 := Tryd.zeroValue110
  t139 := Tryd.underlying111
  a139 := Tryd.isAgg111
  z139 := Tryd.sizeOf111
  v139 := Tryd.zeroValue111
  g3 := by kernel_rfl
  g4 := by kernel_rfl

def countStr_ren : Shelf.Ren where
  f := fun x => match x with | 138 => 54 | 195 => 80 | 218 => 81 | 143 => 46 | 219 => 74 | 217 => 89 | 225 => 90 | 224 => 91 | 267 => 92 | 266 => 101 | 314 => 102 | n => n
  t := fun x => match x with | 9 => 9 | 3 => 3 | 4 => 4 | 5 => 5 | 0 => 0 | 46 => 112 | 146 => 149 | 51 => 126 | n => n
  g := fun x => match x with | 1 => 4 | n => n
theorem countStr_lay : Lays.n138 Tryd.prog countStr_ren where
  mixed := by kernel_rfl
  f138 := Tryd.func54.trans (by kernel_rfl)
  f143 := Tryd.func46.trans (by kernel_rfl)
  f195 := Tryd.func80.trans (by kernel_rfl)
  f217 := Tryd.func89.trans (by kernel_rfl)
  f218 := Tryd.func81.trans (by kernel_rfl)
  f219 := Tryd.func74.trans (by kernel_rfl)
  f224 := Tryd.func91.trans (by kernel_rfl)
  f225 := Tryd.func90.trans (by kernel_rfl)
  f266 := Tryd.func101.trans (by kernel_rfl)
  f267 := Tryd.func92.trans (by kernel_rfl)
  f314 := Tryd.func102.trans (by kernel_rfl)
  t0 := Tryd.underlying0
  a0 := Tryd.isAgg0
  z0 := Tryd.sizeOf0
  v0 := Tryd.zeroValue0
  t3 := Tryd.underlying3
  a3 := Tryd.isAgg3
  z3 := Tryd.sizeOf3
  v3 := Tryd.zeroValue3
  t4 := Tryd.underlying4
  a4 := Tryd.isAgg4
  z4 := Tryd.sizeOf4
  v4 := Tryd.zeroValue4
  t5 := Tryd.underlying5
  a5 := Tryd.isAgg5
  z5 := Tryd.sizeOf5
  v5 := Tryd.zeroValue5
  t9 := Tryd.underlying9
  a9 := Tryd.isAgg9
  z9 := Tryd.sizeOf9
  v9 := Tryd.zeroValue9
  t46 := Tryd.underlying112
  a46 := Tryd.isAgg112
  z46 := Tryd.sizeOf112
  v46 := Tryd.zeroValue112
  t51 := Tryd.underlying126
  a51 := Tryd.isAgg126
  z51 := Tryd.sizeOf126
  v51 := Tryd.zeroValue126
  t146 := Tryd.underlying149
  a146 := Tryd.isAgg149
  z146 := Tryd.sizeOf149
  v146 := Tryd.zeroValue149
  g1 := by kernel_rfl

theorem fnok93 : FnOK Tryd.prog 93 := ⟨_, Tryd.func93, by kernel_rfl, by kernel_rfl⟩
theorem fnok80 : FnOK Tryd.prog 80 := ⟨_, Tryd.func80, by kernel_rfl, by kernel_rfl⟩
theorem fnok49 : FnOK Tryd.prog 49 := ⟨_, Tryd.func49, by kernel_rfl, by kernel_rfl⟩
theorem fnok42 : FnOK Tryd.prog 42 := ⟨_, Tryd.func42, by kernel_rfl, by kernel_rfl⟩
theorem fnok54 : FnOK Tryd.prog 54 := ⟨_, Tryd.func54, by kernel_rfl, by kernel_rfl⟩
theorem fnok4 : FnOK Tryd.prog 4 := ⟨_, Tryd.func4, by kernel_rfl, by kernel_rfl⟩
theorem ty23 : Ty Tryd.prog 23 Font := ⟨⟨_, Tryd.underlying23, rfl⟩, by kernel_rfl⟩
theorem fnok25 : FnOK Tryd.prog 25 := ⟨_, Tryd.func25, by kernel_rfl, by kernel_rfl⟩
theorem fnok51 : FnOK Tryd.prog 51 := ⟨_, Tryd.func51, by kernel_rfl, by kernel_rfl⟩
theorem fnok43 : FnOK Tryd.prog 43 := ⟨_, Tryd.func43, by kernel_rfl, by kernel_rfl⟩
theorem fnok14 : FnOK Tryd.prog 14 := ⟨_, Tryd.func14, by kernel_rfl, by kernel_rfl⟩
theorem fd23_0 : FieldAt Tryd.prog 23 0 0 := ⟨_, _, Tryd.underlying23, rfl, rfl, by kernel_rfl⟩
theorem hfd23_0 : HasField Font Int 0 Font.Line := ⟨by decide, fun M x cs w h => (HasField.fst HasField.self).2 M _ cs w h⟩
theorem ty3 : Ty Tryd.prog 3 Int := ⟨⟨_, Tryd.underlying3, rfl⟩, by kernel_rfl⟩
theorem fd23_1 : FieldAt Tryd.prog 23 1 1 := ⟨_, _, Tryd.underlying23, rfl, rfl, by kernel_rfl⟩
theorem hfd23_1 : HasField Font Int 1 Font.Narrow := ⟨by decide, fun M x cs w h => (HasField.snd (HasField.fst HasField.self)).2 M _ cs w h⟩
theorem fd23_2 : FieldAt Tryd.prog 23 2 2 := ⟨_, _, Tryd.underlying23, rfl, rfl, by kernel_rfl⟩
theorem hfd23_2 : HasField Font Int 2 Font.Normal := ⟨by decide, fun M x cs w h => (HasField.snd (HasField.snd (HasField.fst HasField.self))).2 M _ cs w h⟩
theorem fd23_3 : FieldAt Tryd.prog 23 3 3 := ⟨_, _, Tryd.underlying23, rfl, rfl, by kernel_rfl⟩
theorem hfd23_3 : HasField Font Int 3 Font.Wide := ⟨by decide, fun M x cs w h => (HasField.snd (HasField.snd (HasField.snd HasField.self))).2 M _ cs w h⟩
theorem sl75 : SliceOf Tryd.prog 75 3 := Tryd.underlying75
theorem hz3 : HasZero Tryd.prog 3 := by unfold HasZero; kernel_rfl
theorem fnok15 : FnOK Tryd.prog 15 := ⟨_, Tryd.func15, by kernel_rfl, by kernel_rfl⟩
theorem sl30 : SliceOf Tryd.prog 30 9 := Tryd.underlying30
theorem ty9 : Ty Tryd.prog 9 Str := ⟨⟨_, Tryd.underlying9, rfl⟩, by kernel_rfl⟩
theorem fnok53 : FnOK Tryd.prog 53 := ⟨_, Tryd.func53, by kernel_rfl, by kernel_rfl⟩
theorem fnok78 : FnOK Tryd.prog 78 := ⟨_, Tryd.func78, by kernel_rfl, by kernel_rfl⟩
theorem fnok96 : FnOK Tryd.prog 96 := ⟨_, Tryd.func96, by kernel_rfl, by kernel_rfl⟩
theorem zo9 : ZeroOf Tryd.prog 9 Str.nil := ⟨[.string ByteArray.empty], by kernel_rfl, fun _ _ => str_zero⟩
theorem fnok79 : FnOK Tryd.prog 79 := ⟨_, Tryd.func79, by kernel_rfl, by kernel_rfl⟩
theorem fnok52 : FnOK Tryd.prog 52 := ⟨_, Tryd.func52, by kernel_rfl, by kernel_rfl⟩
theorem fnok44 : FnOK Tryd.prog 44 := ⟨_, Tryd.func44, by kernel_rfl, by kernel_rfl⟩
theorem fnok72 : FnOK Tryd.prog 72 := ⟨_, Tryd.func72, by kernel_rfl, by kernel_rfl⟩
theorem fnok47 : FnOK Tryd.prog 47 := ⟨_, Tryd.func47, by kernel_rfl, by kernel_rfl⟩
theorem fnok75 : FnOK Tryd.prog 75 := ⟨_, Tryd.func75, by kernel_rfl, by kernel_rfl⟩
theorem fnok94 : FnOK Tryd.prog 94 := ⟨_, Tryd.func94, by kernel_rfl, by kernel_rfl⟩
theorem fnok45 : FnOK Tryd.prog 45 := ⟨_, Tryd.func45, by kernel_rfl, by kernel_rfl⟩
theorem fnok73 : FnOK Tryd.prog 73 := ⟨_, Tryd.func73, by kernel_rfl, by kernel_rfl⟩
theorem zr30 : ZeroOf Tryd.prog 30 (⟨.slice none 0 0⟩ : Raw) := ⟨[.slice none 0 0], by kernel_rfl, fun _ _ => ⟨rfl, rfl, rfl⟩⟩
theorem zo3 : ZeroOf Tryd.prog 3 (0 : Int) := ⟨[.int .i64 0], by kernel_rfl, fun _ _ => ⟨rfl, by decide⟩⟩
theorem fnok87 : FnOK Tryd.prog 87 := ⟨_, Tryd.func87, by kernel_rfl, by kernel_rfl⟩
theorem tr30 : Ty Tryd.prog 30 Raw := ⟨⟨_, Tryd.underlying30, rfl⟩, by kernel_rfl⟩
theorem hz9 : HasZero Tryd.prog 9 := by unfold HasZero; kernel_rfl
theorem rk30 : RowOK Tryd.prog 30 9 Str := ⟨sl30, ty9, by kernel_rfl⟩
theorem ty30 : Ty Tryd.prog 30 (List Str) := ⟨⟨_, Tryd.underlying30, rfl⟩, by kernel_rfl⟩
theorem fnok88 : FnOK Tryd.prog 88 := ⟨_, Tryd.func88, by kernel_rfl, by kernel_rfl⟩
theorem fnok55 : FnOK Tryd.prog 55 := ⟨_, Tryd.func55, by kernel_rfl, by kernel_rfl⟩
theorem zo48 : ZeroOf Tryd.prog 48 (⟨(0 : Int), (0 : Int), (0 : Int), (0 : Int)⟩ : Box) := ⟨[.int .i64 0, .int .i64 0, .int .i64 0, .int .i64 0], by kernel_rfl, fun _ _ => ⟨[_], _, rfl, ⟨rfl, by decide⟩, ⟨[_], _, rfl, ⟨rfl, by decide⟩, ⟨[_], _, rfl, ⟨rfl, by decide⟩, ⟨rfl, by decide⟩⟩⟩⟩⟩
theorem sf48_3 : SetField Box Int 3 (fun x z => { x with H := z }) := ⟨by decide, fun M x z cs zs w h hz => (SetField.snd (SetField.snd (SetField.snd SetField.self))).2 M _ z cs zs w h hz⟩
theorem sf48_2 : SetField Box Int 2 (fun x z => { x with W_ := z }) := ⟨by decide, fun M x z cs zs w h hz => (SetField.snd (SetField.snd (SetField.fst SetField.self))).2 M _ z cs zs w h hz⟩
theorem bu48 : BuildAt Tryd.prog 48 [.int .i64 0, .int .i64 0, .int .i64 0, .int .i64 0] [(0, 1), (1, 1), (2, 1), (3, 1)] := ⟨by kernel_rfl, _, Tryd.underlying48, by kernel_rfl⟩
theorem zc48 : ∀ (M : MSet) (w : World), Rep.cells M (⟨(0 : Int), (0 : Int), (0 : Int), (0 : Int)⟩ : Box) [.int .i64 0, .int .i64 0, .int .i64 0, .int .i64 0] w := fun _ _ => ⟨[_], _, rfl, ⟨rfl, by decide⟩, ⟨[_], _, rfl, ⟨rfl, by decide⟩, ⟨[_], _, rfl, ⟨rfl, by decide⟩, ⟨rfl, by decide⟩⟩⟩⟩
theorem ty48 : Ty Tryd.prog 48 Box := ⟨⟨_, Tryd.underlying48, rfl⟩, by kernel_rfl⟩
theorem sf48_0 : SetField Box Int 0 (fun x z => { x with X := z }) := ⟨by decide, fun M x z cs zs w h hz => (SetField.fst SetField.self).2 M _ z cs zs w h hz⟩
theorem fd48_2 : FieldAt Tryd.prog 48 2 2 := ⟨_, _, Tryd.underlying48, rfl, rfl, by kernel_rfl⟩
theorem hfd48_2 : HasField Box Int 2 Box.W_ := ⟨by decide, fun M x cs w h => (HasField.snd (HasField.snd (HasField.fst HasField.self))).2 M _ cs w h⟩
theorem fd48_3 : FieldAt Tryd.prog 48 3 3 := ⟨_, _, Tryd.underlying48, rfl, rfl, by kernel_rfl⟩
theorem hfd48_3 : HasField Box Int 3 Box.H := ⟨by decide, fun M x cs w h => (HasField.snd (HasField.snd (HasField.snd HasField.self))).2 M _ cs w h⟩
theorem fd48_0 : FieldAt Tryd.prog 48 0 0 := ⟨_, _, Tryd.underlying48, rfl, rfl, by kernel_rfl⟩
theorem hfd48_0 : HasField Box Int 0 Box.X := ⟨by decide, fun M x cs w h => (HasField.fst HasField.self).2 M _ cs w h⟩
theorem fd48_1 : FieldAt Tryd.prog 48 1 1 := ⟨_, _, Tryd.underlying48, rfl, rfl, by kernel_rfl⟩
theorem hfd48_1 : HasField Box Int 1 Box.Y := ⟨by decide, fun M x cs w h => (HasField.snd (HasField.fst HasField.self)).2 M _ cs w h⟩
theorem sf48_1 : SetField Box Int 1 (fun x z => { x with Y := z }) := ⟨by decide, fun M x z cs zs w h hz => (SetField.snd (SetField.fst SetField.self)).2 M _ z cs zs w h hz⟩
theorem ft48_3 : FieldTy Tryd.prog 48 3 3 3 := ⟨_, _, Tryd.underlying48, rfl, rfl, rfl⟩
theorem ft48_2 : FieldTy Tryd.prog 48 2 2 3 := ⟨_, _, Tryd.underlying48, rfl, rfl, rfl⟩
theorem fnok26 : FnOK Tryd.prog 26 := ⟨_, Tryd.func26, by kernel_rfl, by kernel_rfl⟩
theorem fnok27 : FnOK Tryd.prog 27 := ⟨_, Tryd.func27, by kernel_rfl, by kernel_rfl⟩
theorem fnok57 : FnOK Tryd.prog 57 := ⟨_, Tryd.func57, by kernel_rfl, by kernel_rfl⟩
theorem fnok82 : FnOK Tryd.prog 82 := ⟨_, Tryd.func82, by kernel_rfl, by kernel_rfl⟩
theorem fnok56 : FnOK Tryd.prog 56 := ⟨_, Tryd.func56, by kernel_rfl, by kernel_rfl⟩
theorem sf55_1 : SetField Placed Box 1 (fun x z => { x with Box := z }) := ⟨by decide, fun M x z cs zs w h hz => (SetField.snd SetField.self).2 M _ z cs zs w h hz⟩
theorem sf55_0 : SetField Placed Str 0 (fun x z => { x with Text := z }) := ⟨by decide, fun M x z cs zs w h hz => (SetField.fst SetField.self).2 M _ z cs zs w h hz⟩
theorem bu55 : BuildAt Tryd.prog 55 [.string ByteArray.empty, .int .i64 0, .int .i64 0, .int .i64 0, .int .i64 0] [(0, 1), (1, 4)] := ⟨by kernel_rfl, _, Tryd.underlying55, by kernel_rfl⟩
theorem zc55 : ∀ (M : MSet) (w : World), Rep.cells M (⟨Str.nil, (⟨(0 : Int), (0 : Int), (0 : Int), (0 : Int)⟩ : Box)⟩ : Placed) [.string ByteArray.empty, .int .i64 0, .int .i64 0, .int .i64 0, .int .i64 0] w := fun _ _ => ⟨[_], _, rfl, str_zero, ⟨[_], _, rfl, ⟨rfl, by decide⟩, ⟨[_], _, rfl, ⟨rfl, by decide⟩, ⟨[_], _, rfl, ⟨rfl, by decide⟩, ⟨rfl, by decide⟩⟩⟩⟩⟩
theorem sl49 : SliceOf Tryd.prog 49 55 := Tryd.underlying49
theorem ty55 : Ty Tryd.prog 55 Placed := ⟨⟨_, Tryd.underlying55, rfl⟩, by kernel_rfl⟩
theorem hz55 : HasZero Tryd.prog 55 := by unfold HasZero; kernel_rfl
theorem rk49 : RowOK Tryd.prog 49 55 Placed := ⟨sl49, ty55, by kernel_rfl⟩
theorem zo55 : ZeroOf Tryd.prog 55 (⟨Str.nil, (⟨(0 : Int), (0 : Int), (0 : Int), (0 : Int)⟩ : Box)⟩ : Placed) := ⟨[.string ByteArray.empty, .int .i64 0, .int .i64 0, .int .i64 0, .int .i64 0], by kernel_rfl, fun _ _ => ⟨[_], _, rfl, str_zero, ⟨[_], _, rfl, ⟨rfl, by decide⟩, ⟨[_], _, rfl, ⟨rfl, by decide⟩, ⟨[_], _, rfl, ⟨rfl, by decide⟩, ⟨rfl, by decide⟩⟩⟩⟩⟩⟩
theorem fd55_1 : FieldAt Tryd.prog 55 1 1 := ⟨_, _, Tryd.underlying55, rfl, rfl, by kernel_rfl⟩
theorem hfd55_1 : HasField Placed Box 1 Placed.Box := ⟨by decide, fun M x cs w h => (HasField.snd HasField.self).2 M _ cs w h⟩

end Go.Proofs.YthopjimlhjgoiaaDoor
