/-
  Closed facts on the program.
-/
import Derived.Test.YtclcheggnlhamaaGreatDoorRows
import Derived.Test.YtclcheggnlhamaaGreatDoorMGBLi1
set_option maxRecDepth 100000
set_option linter.unusedSimpArgs false
set_option linter.unusedVariables false
namespace Go.Proofs.YtclcheggnlhamaaGreatDoor
open Go Go.DB Go.RowKit

theorem mixed : Tryz.prog.follows .mixedOrders = true := by kernel_rfl
theorem mx : Tryz.prog.follows .mixedOrders = true := mixed
def trimStr_ren : Shelf.Ren where
  f := fun x => match x with | 160 => 172 | 232 => 192 | 231 => 191 | 227 => 193 | 234 => 195 | 233 => 194 | 236 => 197 | 235 => 196 | 228 => 204 | 271 => 207 | 151 => 206 | 197 => 205 | 120 => 213 | 152 => 212 | 260 => 211 | 137 => 216 | 119 => 217 | 224 => 218 | 225 => 219 | 217 => 220 | 266 => 221 | n => n
  t := fun x => match x with | 9 => 9 | 4 => 4 | 3 => 3 | 5 => 5 | 117 => 219 | 116 => 218 | 0 => 0 | 124 => 222 | 21 => 21 | 105 => 235 | 46 => 233 | 119 => 229 | 139 => 232 | 138 => 231 | n => n
  g := fun x => match x with | 3 => 0 | 4 => 1 | n => n
theorem trimStr_lay : Lays.n160 Tryz.prog trimStr_ren where
  mixed := by kernel_rfl
  f119 := Tryz.func217.trans (by kernel_rfl)
  f120 := Tryz.func213.trans (by kernel_rfl)
  f137 := Tryz.func216.trans (by kernel_rfl)
  f151 := Tryz.func206.trans (by kernel_rfl)
  f152 := Tryz.func212.trans (by kernel_rfl)
  f160 := Tryz.func172.trans (by kernel_rfl)
  f197 := Tryz.func205.trans (by kernel_rfl)
  f217 := Tryz.func220.trans (by kernel_rfl)
  f224 := Tryz.func218.trans (by kernel_rfl)
  f225 := Tryz.func219.trans (by kernel_rfl)
  f227 := Tryz.func193.trans (by kernel_rfl)
  f228 := Tryz.func204.trans (by kernel_rfl)
  f231 := Tryz.func191.trans (by kernel_rfl)
  f232 := Tryz.func192.trans (by kernel_rfl)
  f233 := Tryz.func194.trans (by kernel_rfl)
  f234 := Tryz.func195.trans (by kernel_rfl)
  f235 := Tryz.func196.trans (by kernel_rfl)
  f236 := Tryz.func197.trans (by kernel_rfl)
  f260 := Tryz.func211.trans (by kernel_rfl)
  f266 := Tryz.func221.trans (by kernel_rfl)
  f271 := Tryz.func207.trans (by kernel_rfl)
  t0 := Tryz.underlying0
  a0 := Tryz.isAgg0
  z0 := Tryz.sizeOf0
  v0 := Tryz.zeroValue0
  t3 := Tryz.underlying3
  a3 := Tryz.isAgg3
  z3 := Tryz.sizeOf3
  v3 := Tryz.zeroValue3
  t4 := Tryz.underlying4
  a4 := Tryz.isAgg4
  z4 := Tryz.sizeOf4
  v4 := Tryz.zeroValue4
  t5 := Tryz.underlying5
  a5 := Tryz.isAgg5
  z5 := Tryz.sizeOf5
  v5 := Tryz.zeroValue5
  t9 := Tryz.underlying9
  a9 := Tryz.isAgg9
  z9 := Tryz.sizeOf9
  v9 := Tryz.zeroValue9
  t21 := Tryz.underlying21
  a21 := Tryz.isAgg21
  z21 := Tryz.sizeOf21
  v21 := Tryz.zeroValue21
  t46 := Tryz.underlying233
  a46 := Tryz.isAgg233
  z46 := Tryz.sizeOf233
  v46 := Tryz.zeroValue233
  t105 := Tryz.underlying235
  a105 := Tryz.isAgg235
  z105 := Tryz.sizeOf235
  v105 := Tryz.zeroValue235
  t116 := Tryz.underlying218
  a116 := Tryz.isAgg218
  z116 := Tryz.sizeOf218
  t117 := Tryz.underlying219
  a117 := Tryz.isAgg219
  z117 := Tryz.sizeOf219
  v117 := Tryz.zeroValue219
  t119 := Tryz.underlying229
  a119 := Tryz.isAgg229
  z119 := Tryz.sizeOf229
  t124 := Tryz.underlying222
  a124 := Tryz.isAgg222
  z124 := Tryz.sizeOf222
  v124 := Tryz.zeroValue222
  t138 := Tryz.underlying231
  a138 := Tryz.isAgg231
  z138 := Tryz.sizeOf231
  v138 := Tryz.zeroValue231
  t139 := Tryz.underlying232
  a139 := Tryz.isAgg232
  z139 := Tryz.sizeOf232
  v139 := Tryz.zeroValue232
  g3 := by kernel_rfl
  g4 := by kernel_rfl

def validStr_ren : Shelf.Ren where
  f := fun x => match x with | 196 => 183 | 259 => 203 | n => n
  t := fun x => match x with | 9 => 9 | 4 => 4 | 3 => 3 | 5 => 5 | 12 => 12 | 119 => 229 | 0 => 0 | 46 => 233 | 139 => 232 | 138 => 231 | 53 => 239 | n => n
  g := fun x => match x with | 3 => 0 | 4 => 1 | n => n
theorem validStr_lay : Lays.n196 Tryz.prog validStr_ren where
  mixed := by kernel_rfl
  f196 := Tryz.func183.trans (by kernel_rfl)
  f259 := Tryz.func203.trans (by kernel_rfl)
  t0 := Tryz.underlying0
  a0 := Tryz.isAgg0
  z0 := Tryz.sizeOf0
  v0 := Tryz.zeroValue0
  t3 := Tryz.underlying3
  a3 := Tryz.isAgg3
  z3 := Tryz.sizeOf3
  v3 := Tryz.zeroValue3
  t4 := Tryz.underlying4
  a4 := Tryz.isAgg4
  z4 := Tryz.sizeOf4
  v4 := Tryz.zeroValue4
  t5 := Tryz.underlying5
  a5 := Tryz.isAgg5
  z5 := Tryz.sizeOf5
  v5 := Tryz.zeroValue5
  t9 := Tryz.underlying9
  a9 := Tryz.isAgg9
  z9 := Tryz.sizeOf9
  v9 := Tryz.zeroValue9
  t12 := Tryz.underlying12
  a12 := Tryz.isAgg12
  z12 := Tryz.sizeOf12
  v12 := Tryz.zeroValue12
  t46 := Tryz.underlying233
  a46 := Tryz.isAgg233
  z46 := Tryz.sizeOf233
  v46 := Tryz.zeroValue233
  t53 := Tryz.underlying239
  a53 := Tryz.isAgg239
  z53 := Tryz.sizeOf239
  v53 := Tryz.zeroValue239
  t119 := Tryz.underlying229
  a119 := Tryz.isAgg229
  z119 := Tryz.sizeOf229
  t138 := Tryz.underlying231
  a138 := Tryz.isAgg231
  z138 := Tryz.sizeOf231
  v138 := Tryz.zeroValue231
  t139 := Tryz.underlying232
  a139 := Tryz.isAgg232
  z139 := Tryz.sizeOf232
  v139 := Tryz.zeroValue232
  g3 := by kernel_rfl
  g4 := by kernel_rfl

theorem fnok172 : FnOK Tryz.prog 172 := ⟨_, Tryz.func172, by kernel_rfl, by kernel_rfl⟩
theorem fnok183 : FnOK Tryz.prog 183 := ⟨_, Tryz.func183, by kernel_rfl, by kernel_rfl⟩
theorem sl22 : SliceOf Tryz.prog 22 44 := Tryz.underlying22
theorem ty44 : Ty Tryz.prog 44 DNode := ⟨⟨_, Tryz.underlying44, rfl⟩, by kernel_rfl⟩
theorem zo44 : ZeroOf Tryz.prog 44 (⟨Str.nil, (0 : Int), (⟨(0 : Int), (0 : Int), (0 : Int), (0 : Int)⟩ : Box), Str.nil, Str.nil, Str.nil, false⟩ : DNode) := ⟨[.string ByteArray.empty, .int .i64 0, .int .i64 0, .int .i64 0, .int .i64 0, .int .i64 0, .string ByteArray.empty, .string ByteArray.empty, .string ByteArray.empty, .bool false], by kernel_rfl, fun _ _ => ⟨[_], _, rfl, str_zero, ⟨[_], _, rfl, ⟨rfl, by decide⟩, ⟨[_, _, _, _], _, rfl, ⟨[_], _, rfl, ⟨rfl, by decide⟩, ⟨[_], _, rfl, ⟨rfl, by decide⟩, ⟨[_], _, rfl, ⟨rfl, by decide⟩, ⟨rfl, by decide⟩⟩⟩⟩, ⟨[_], _, rfl, str_zero, ⟨[_], _, rfl, str_zero, ⟨[_], _, rfl, str_zero, rfl⟩⟩⟩⟩⟩⟩⟩
theorem rk22 : RowOK Tryz.prog 22 44 DNode := ⟨sl22, ty44, by kernel_rfl⟩
theorem fnok107 : FnOK Tryz.prog 107 := ⟨_, Tryz.func107, by kernel_rfl, by kernel_rfl⟩
theorem fnok6 : FnOK Tryz.prog 6 := ⟨_, Tryz.func6, by kernel_rfl, by kernel_rfl⟩
theorem ty25 : Ty Tryz.prog 25 Doc := ⟨⟨_, Tryz.underlying25, rfl⟩, by kernel_rfl⟩
theorem fnok38 : FnOK Tryz.prog 38 := ⟨_, Tryz.func38, by kernel_rfl, by kernel_rfl⟩
theorem fnok7 : FnOK Tryz.prog 7 := ⟨_, Tryz.func7, by kernel_rfl, by kernel_rfl⟩
theorem fd25_0 : FieldAt Tryz.prog 25 0 0 := ⟨_, _, Tryz.underlying25, rfl, rfl, by kernel_rfl⟩
theorem hfd25_0 : HasField Doc (List DNode) 0 Doc.Nodes := ⟨by decide, fun M x cs w h => (HasField.fst HasField.self).2 M _ cs w h⟩
theorem ty22 : Ty Tryz.prog 22 (List DNode) := ⟨⟨_, Tryz.underlying22, rfl⟩, by kernel_rfl⟩
theorem fd25_1 : FieldAt Tryz.prog 25 1 1 := ⟨_, _, Tryz.underlying25, rfl, rfl, by kernel_rfl⟩
theorem hfd25_1 : HasField Doc (List DEdge) 1 Doc.Edges := ⟨by decide, fun M x cs w h => (HasField.snd HasField.self).2 M _ cs w h⟩
theorem ty23 : Ty Tryz.prog 23 (List DEdge) := ⟨⟨_, Tryz.underlying23, rfl⟩, by kernel_rfl⟩
theorem sl23 : SliceOf Tryz.prog 23 67 := Tryz.underlying23
theorem fnok64 : FnOK Tryz.prog 64 := ⟨_, Tryz.func64, by kernel_rfl, by kernel_rfl⟩
theorem fnok142 : FnOK Tryz.prog 142 := ⟨_, Tryz.func142, by kernel_rfl, by kernel_rfl⟩
theorem fd44_0 : FieldAt Tryz.prog 44 0 0 := ⟨_, _, Tryz.underlying44, rfl, rfl, by kernel_rfl⟩
theorem hfd44_0 : HasField DNode Str 0 DNode.Id := ⟨by decide, fun M x cs w h => (HasField.fst HasField.self).2 M _ cs w h⟩
theorem ty9 : Ty Tryz.prog 9 Str := ⟨⟨_, Tryz.underlying9, rfl⟩, by kernel_rfl⟩
theorem fnok60 : FnOK Tryz.prog 60 := ⟨_, Tryz.func60, by kernel_rfl, by kernel_rfl⟩
theorem fnok67 : FnOK Tryz.prog 67 := ⟨_, Tryz.func67, by kernel_rfl, by kernel_rfl⟩
theorem fnok113 : FnOK Tryz.prog 113 := ⟨_, Tryz.func113, by kernel_rfl, by kernel_rfl⟩
theorem fnok8 : FnOK Tryz.prog 8 := ⟨_, Tryz.func8, by kernel_rfl, by kernel_rfl⟩
theorem fd44_1 : FieldAt Tryz.prog 44 1 1 := ⟨_, _, Tryz.underlying44, rfl, rfl, by kernel_rfl⟩
theorem hfd44_1 : HasField DNode Int 1 DNode.Kind := ⟨by decide, fun M x cs w h => (HasField.snd (HasField.fst HasField.self)).2 M _ cs w h⟩
theorem ty3 : Ty Tryz.prog 3 Int := ⟨⟨_, Tryz.underlying3, rfl⟩, by kernel_rfl⟩
theorem fnok88 : FnOK Tryz.prog 88 := ⟨_, Tryz.func88, by kernel_rfl, by kernel_rfl⟩
theorem sl125 : SliceOf Tryz.prog 125 30 := Tryz.underlying125
theorem ty30 : Ty Tryz.prog 30 Int := ⟨⟨_, Tryz.underlying30, rfl⟩, by kernel_rfl⟩
theorem hz30 : HasZero Tryz.prog 30 := by unfold HasZero; kernel_rfl
theorem fnok26 : FnOK Tryz.prog 26 := ⟨_, Tryz.func26, by kernel_rfl, by kernel_rfl⟩
theorem fd44_2 : FieldAt Tryz.prog 44 2 2 := ⟨_, _, Tryz.underlying44, rfl, rfl, by kernel_rfl⟩
theorem hfd44_2 : HasField DNode Box 2 DNode.Box := ⟨by decide, fun M x cs w h => (HasField.snd (HasField.snd (HasField.fst HasField.self))).2 M _ cs w h⟩
theorem ty29 : Ty Tryz.prog 29 Box := ⟨⟨_, Tryz.underlying29, rfl⟩, by kernel_rfl⟩
theorem bu29 : BuildAt Tryz.prog 29 [.int .i64 0, .int .i64 0, .int .i64 0, .int .i64 0] [(0, 1), (1, 1), (2, 1), (3, 1)] := ⟨by kernel_rfl, _, Tryz.underlying29, by kernel_rfl⟩
theorem zc29 : ∀ (M : MSet) (w : World), Rep.cells M (⟨(0 : Int), (0 : Int), (0 : Int), (0 : Int)⟩ : Box) [.int .i64 0, .int .i64 0, .int .i64 0, .int .i64 0] w := fun _ _ => ⟨[_], _, rfl, ⟨rfl, by decide⟩, ⟨[_], _, rfl, ⟨rfl, by decide⟩, ⟨[_], _, rfl, ⟨rfl, by decide⟩, ⟨rfl, by decide⟩⟩⟩⟩
theorem eq29 : DB.EqAt Tryz.prog 29 Box := eqAt_ints (n := 4) (fun p => [p.X, p.Y, p.W_, p.H]) (fun a b => by cases a; cases b; simp) (fun _ => rfl) (fun M v w a h => by obtain ⟨cs, h, rfl⟩ := h; obtain ⟨_, _, rfl, ⟨rfl, _⟩, ⟨_, _, rfl, ⟨rfl, _⟩, ⟨_, _, rfl, ⟨rfl, _⟩, ⟨rfl, _⟩⟩⟩⟩ := h; rfl) ⟨by kernel_rfl, by kernel_rfl, by kernel_rfl, by kernel_rfl⟩
theorem fnok30 : FnOK Tryz.prog 30 := ⟨_, Tryz.func30, by kernel_rfl, by kernel_rfl⟩
theorem fd29_0 : FieldAt Tryz.prog 29 0 0 := ⟨_, _, Tryz.underlying29, rfl, rfl, by kernel_rfl⟩
theorem hfd29_0 : HasField Box Int 0 Box.X := ⟨by decide, fun M x cs w h => (HasField.fst HasField.self).2 M _ cs w h⟩
theorem fd29_1 : FieldAt Tryz.prog 29 1 1 := ⟨_, _, Tryz.underlying29, rfl, rfl, by kernel_rfl⟩
theorem hfd29_1 : HasField Box Int 1 Box.Y := ⟨by decide, fun M x cs w h => (HasField.snd (HasField.fst HasField.self)).2 M _ cs w h⟩
theorem sf27_1 : SetField Point Int 1 (fun x z => { x with Y := z }) := ⟨by decide, fun M x z cs zs w h hz => (SetField.snd SetField.self).2 M _ z cs zs w h hz⟩
theorem sf27_0 : SetField Point Int 0 (fun x z => { x with X := z }) := ⟨by decide, fun M x z cs zs w h hz => (SetField.fst SetField.self).2 M _ z cs zs w h hz⟩
theorem bu27 : BuildAt Tryz.prog 27 [.int .i64 0, .int .i64 0] [(0, 1), (1, 1)] := ⟨by kernel_rfl, _, Tryz.underlying27, by kernel_rfl⟩
theorem zc27 : ∀ (M : MSet) (w : World), Rep.cells M (⟨(0 : Int), (0 : Int)⟩ : Point) [.int .i64 0, .int .i64 0] w := fun _ _ => ⟨[_], _, rfl, ⟨rfl, by decide⟩, ⟨rfl, by decide⟩⟩
theorem fnok27 : FnOK Tryz.prog 27 := ⟨_, Tryz.func27, by kernel_rfl, by kernel_rfl⟩
theorem fd27_0 : FieldAt Tryz.prog 27 0 0 := ⟨_, _, Tryz.underlying27, rfl, rfl, by kernel_rfl⟩
theorem hfd27_0 : HasField Point Int 0 Point.X := ⟨by decide, fun M x cs w h => (HasField.fst HasField.self).2 M _ cs w h⟩
theorem fd27_1 : FieldAt Tryz.prog 27 1 1 := ⟨_, _, Tryz.underlying27, rfl, rfl, by kernel_rfl⟩
theorem hfd27_1 : HasField Point Int 1 Point.Y := ⟨by decide, fun M x cs w h => (HasField.snd HasField.self).2 M _ cs w h⟩
theorem fd29_2 : FieldAt Tryz.prog 29 2 2 := ⟨_, _, Tryz.underlying29, rfl, rfl, by kernel_rfl⟩
theorem hfd29_2 : HasField Box Int 2 Box.W_ := ⟨by decide, fun M x cs w h => (HasField.snd (HasField.snd (HasField.fst HasField.self))).2 M _ cs w h⟩
theorem fd29_3 : FieldAt Tryz.prog 29 3 3 := ⟨_, _, Tryz.underlying29, rfl, rfl, by kernel_rfl⟩
theorem hfd29_3 : HasField Box Int 3 Box.H := ⟨by decide, fun M x cs w h => (HasField.snd (HasField.snd (HasField.snd HasField.self))).2 M _ cs w h⟩
theorem fd44_3 : FieldAt Tryz.prog 44 3 6 := ⟨_, _, Tryz.underlying44, rfl, rfl, by kernel_rfl⟩
theorem hfd44_3 : HasField DNode Str 6 DNode.Text := ⟨by decide, fun M x cs w h => (HasField.snd (HasField.snd (HasField.snd (HasField.fst HasField.self)))).2 M _ cs w h⟩
theorem fnok143 : FnOK Tryz.prog 143 := ⟨_, Tryz.func143, by kernel_rfl, by kernel_rfl⟩
theorem fd44_4 : FieldAt Tryz.prog 44 4 7 := ⟨_, _, Tryz.underlying44, rfl, rfl, by kernel_rfl⟩
theorem hfd44_4 : HasField DNode Str 7 DNode.Class := ⟨by decide, fun M x cs w h => (HasField.snd (HasField.snd (HasField.snd (HasField.snd (HasField.fst HasField.self))))).2 M _ cs w h⟩
theorem fnok144 : FnOK Tryz.prog 144 := ⟨_, Tryz.func144, by kernel_rfl, by kernel_rfl⟩
theorem fnok65 : FnOK Tryz.prog 65 := ⟨_, Tryz.func65, by kernel_rfl, by kernel_rfl⟩
theorem fd44_5 : FieldAt Tryz.prog 44 5 8 := ⟨_, _, Tryz.underlying44, rfl, rfl, by kernel_rfl⟩
theorem hfd44_5 : HasField DNode Str 8 DNode.Parent := ⟨by decide, fun M x cs w h => (HasField.snd (HasField.snd (HasField.snd (HasField.snd (HasField.snd (HasField.fst HasField.self)))))).2 M _ cs w h⟩
theorem fnok9 : FnOK Tryz.prog 9 := ⟨_, Tryz.func9, by kernel_rfl, by kernel_rfl⟩
theorem fnok68 : FnOK Tryz.prog 68 := ⟨_, Tryz.func68, by kernel_rfl, by kernel_rfl⟩
theorem fnok145 : FnOK Tryz.prog 145 := ⟨_, Tryz.func145, by kernel_rfl, by kernel_rfl⟩
theorem fnok76 : FnOK Tryz.prog 76 := ⟨_, Tryz.func76, by kernel_rfl, by kernel_rfl⟩
theorem hz44 : HasZero Tryz.prog 44 := by unfold HasZero; kernel_rfl
theorem fnok66 : FnOK Tryz.prog 66 := ⟨_, Tryz.func66, by kernel_rfl, by kernel_rfl⟩
theorem ty67 : Ty Tryz.prog 67 DEdge := ⟨⟨_, Tryz.underlying67, rfl⟩, by kernel_rfl⟩
theorem zo67 : ZeroOf Tryz.prog 67 (⟨Str.nil, (⟨Str.nil, (0 : Int), (0 : Int)⟩ : DEnd), (⟨Str.nil, (0 : Int), (0 : Int)⟩ : DEnd), ([] : (List Point)), Str.nil, Str.nil⟩ : DEdge) := ⟨[.string ByteArray.empty, .string ByteArray.empty, .int .i64 0, .int .i64 0, .string ByteArray.empty, .int .i64 0, .int .i64 0, .slice none 0 0, .string ByteArray.empty, .string ByteArray.empty], by kernel_rfl, fun _ _ => ⟨[_], _, rfl, str_zero, ⟨[_, _, _], _, rfl, ⟨[_], _, rfl, str_zero, ⟨[_], _, rfl, ⟨rfl, by decide⟩, ⟨rfl, by decide⟩⟩⟩, ⟨[_, _, _], _, rfl, ⟨[_], _, rfl, str_zero, ⟨[_], _, rfl, ⟨rfl, by decide⟩, ⟨rfl, by decide⟩⟩⟩, ⟨[_], _, rfl, ⟨none, 0, rfl, Nat.le_refl _, by decide, rfl⟩, ⟨[_], _, rfl, str_zero, str_zero⟩⟩⟩⟩⟩⟩
theorem fd67_0 : FieldAt Tryz.prog 67 0 0 := ⟨_, _, Tryz.underlying67, rfl, rfl, by kernel_rfl⟩
theorem hfd67_0 : HasField DEdge Str 0 DEdge.Id := ⟨by decide, fun M x cs w h => (HasField.fst HasField.self).2 M _ cs w h⟩
theorem fnok146 : FnOK Tryz.prog 146 := ⟨_, Tryz.func146, by kernel_rfl, by kernel_rfl⟩
theorem fnok105 : FnOK Tryz.prog 105 := ⟨_, Tryz.func105, by kernel_rfl, by kernel_rfl⟩
theorem fnok91 : FnOK Tryz.prog 91 := ⟨_, Tryz.func91, by kernel_rfl, by kernel_rfl⟩
theorem fd67_1 : FieldAt Tryz.prog 67 1 1 := ⟨_, _, Tryz.underlying67, rfl, rfl, by kernel_rfl⟩
theorem hfd67_1 : HasField DEdge DEnd 1 DEdge.From := ⟨by decide, fun M x cs w h => (HasField.snd (HasField.fst HasField.self)).2 M _ cs w h⟩
theorem ty65 : Ty Tryz.prog 65 DEnd := ⟨⟨_, Tryz.underlying65, rfl⟩, by kernel_rfl⟩
theorem fd67_2 : FieldAt Tryz.prog 67 2 4 := ⟨_, _, Tryz.underlying67, rfl, rfl, by kernel_rfl⟩
theorem hfd67_2 : HasField DEdge DEnd 4 DEdge.To := ⟨by decide, fun M x cs w h => (HasField.snd (HasField.snd (HasField.fst HasField.self))).2 M _ cs w h⟩
theorem sl184 : SliceOf Tryz.prog 184 65 := Tryz.underlying184
theorem hz65 : HasZero Tryz.prog 65 := by unfold HasZero; kernel_rfl
theorem zo65 : ZeroOf Tryz.prog 65 (⟨Str.nil, (0 : Int), (0 : Int)⟩ : DEnd) := ⟨[.string ByteArray.empty, .int .i64 0, .int .i64 0], by kernel_rfl, fun _ _ => ⟨[_], _, rfl, str_zero, ⟨[_], _, rfl, ⟨rfl, by decide⟩, ⟨rfl, by decide⟩⟩⟩⟩
theorem fd65_0 : FieldAt Tryz.prog 65 0 0 := ⟨_, _, Tryz.underlying65, rfl, rfl, by kernel_rfl⟩
theorem hfd65_0 : HasField DEnd Str 0 DEnd.Node := ⟨by decide, fun M x cs w h => (HasField.fst HasField.self).2 M _ cs w h⟩
theorem fd65_1 : FieldAt Tryz.prog 65 1 1 := ⟨_, _, Tryz.underlying65, rfl, rfl, by kernel_rfl⟩
theorem hfd65_1 : HasField DEnd Int 1 DEnd.Side := ⟨by decide, fun M x cs w h => (HasField.snd (HasField.fst HasField.self)).2 M _ cs w h⟩
theorem fd65_2 : FieldAt Tryz.prog 65 2 2 := ⟨_, _, Tryz.underlying65, rfl, rfl, by kernel_rfl⟩
theorem hfd65_2 : HasField DEnd Int 2 DEnd.At := ⟨by decide, fun M x cs w h => (HasField.snd (HasField.snd HasField.self)).2 M _ cs w h⟩
theorem fnok147 : FnOK Tryz.prog 147 := ⟨_, Tryz.func147, by kernel_rfl, by kernel_rfl⟩
theorem fd67_3 : FieldAt Tryz.prog 67 3 7 := ⟨_, _, Tryz.underlying67, rfl, rfl, by kernel_rfl⟩
theorem hfd67_3 : HasField DEdge (List Point) 7 DEdge.Bends := ⟨by decide, fun M x cs w h => (HasField.snd (HasField.snd (HasField.snd (HasField.fst HasField.self)))).2 M _ cs w h⟩
theorem ty59 : Ty Tryz.prog 59 (List Point) := ⟨⟨_, Tryz.underlying59, rfl⟩, by kernel_rfl⟩
theorem sl59 : SliceOf Tryz.prog 59 27 := Tryz.underlying59
theorem fnok148 : FnOK Tryz.prog 148 := ⟨_, Tryz.func148, by kernel_rfl, by kernel_rfl⟩
theorem ty27 : Ty Tryz.prog 27 Point := ⟨⟨_, Tryz.underlying27, rfl⟩, by kernel_rfl⟩
theorem zo27 : ZeroOf Tryz.prog 27 (⟨(0 : Int), (0 : Int)⟩ : Point) := ⟨[.int .i64 0, .int .i64 0], by kernel_rfl, fun _ _ => ⟨[_], _, rfl, ⟨rfl, by decide⟩, ⟨rfl, by decide⟩⟩⟩
theorem fd67_4 : FieldAt Tryz.prog 67 4 8 := ⟨_, _, Tryz.underlying67, rfl, rfl, by kernel_rfl⟩
theorem hfd67_4 : HasField DEdge Str 8 DEdge.Text := ⟨by decide, fun M x cs w h => (HasField.snd (HasField.snd (HasField.snd (HasField.snd (HasField.fst HasField.self))))).2 M _ cs w h⟩
theorem fd67_5 : FieldAt Tryz.prog 67 5 9 := ⟨_, _, Tryz.underlying67, rfl, rfl, by kernel_rfl⟩
theorem hfd67_5 : HasField DEdge Str 9 DEdge.Class := ⟨by decide, fun M x cs w h => (HasField.snd (HasField.snd (HasField.snd (HasField.snd (HasField.snd HasField.self))))).2 M _ cs w h⟩
theorem fnok15 : FnOK Tryz.prog 15 := ⟨_, Tryz.func15, by kernel_rfl, by kernel_rfl⟩
theorem zo29 : ZeroOf Tryz.prog 29 (⟨(0 : Int), (0 : Int), (0 : Int), (0 : Int)⟩ : Box) := ⟨[.int .i64 0, .int .i64 0, .int .i64 0, .int .i64 0], by kernel_rfl, fun _ _ => ⟨[_], _, rfl, ⟨rfl, by decide⟩, ⟨[_], _, rfl, ⟨rfl, by decide⟩, ⟨[_], _, rfl, ⟨rfl, by decide⟩, ⟨rfl, by decide⟩⟩⟩⟩⟩
theorem sl109 : SliceOf Tryz.prog 109 29 := Tryz.underlying109
theorem hz29 : HasZero Tryz.prog 29 := by unfold HasZero; kernel_rfl
theorem rk109 : RowOK Tryz.prog 109 29 Box := ⟨sl109, ty29, by kernel_rfl⟩
theorem fnok77 : FnOK Tryz.prog 77 := ⟨_, Tryz.func77, by kernel_rfl, by kernel_rfl⟩
theorem sf29_3 : SetField Box Int 3 (fun x z => { x with H := z }) := ⟨by decide, fun M x z cs zs w h hz => (SetField.snd (SetField.snd (SetField.snd SetField.self))).2 M _ z cs zs w h hz⟩
theorem sf29_2 : SetField Box Int 2 (fun x z => { x with W_ := z }) := ⟨by decide, fun M x z cs zs w h hz => (SetField.snd (SetField.snd (SetField.fst SetField.self))).2 M _ z cs zs w h hz⟩
theorem sf29_1 : SetField Box Int 1 (fun x z => { x with Y := z }) := ⟨by decide, fun M x z cs zs w h hz => (SetField.snd (SetField.fst SetField.self)).2 M _ z cs zs w h hz⟩
theorem sf29_0 : SetField Box Int 0 (fun x z => { x with X := z }) := ⟨by decide, fun M x z cs zs w h hz => (SetField.fst SetField.self).2 M _ z cs zs w h hz⟩
theorem fnok98 : FnOK Tryz.prog 98 := ⟨_, Tryz.func98, by kernel_rfl, by kernel_rfl⟩
theorem sl39 : SliceOf Tryz.prog 39 9 := Tryz.underlying39
theorem fnok122 : FnOK Tryz.prog 122 := ⟨_, Tryz.func122, by kernel_rfl, by kernel_rfl⟩
theorem fnok177 : FnOK Tryz.prog 177 := ⟨_, Tryz.func177, by kernel_rfl, by kernel_rfl⟩
theorem fnok11 : FnOK Tryz.prog 11 := ⟨_, Tryz.func11, by kernel_rfl, by kernel_rfl⟩
theorem bu25 : BuildAt Tryz.prog 25 [.slice none 0 0, .slice none 0 0] [(0, 1), (1, 1)] := ⟨by kernel_rfl, _, Tryz.underlying25, by kernel_rfl⟩
theorem zc25 : ∀ (M : MSet) (w : World), Rep.cells M (⟨([] : (List DNode)), ([] : (List DEdge))⟩ : Doc) [.slice none 0 0, .slice none 0 0] w := fun _ _ => ⟨[_], _, rfl, ⟨none, 0, rfl, Nat.le_refl _, by decide, rfl⟩, ⟨none, 0, rfl, Nat.le_refl _, by decide, rfl⟩⟩
theorem fnok12 : FnOK Tryz.prog 12 := ⟨_, Tryz.func12, by kernel_rfl, by kernel_rfl⟩
theorem zo4 : ZeroOf Tryz.prog 4 false := ⟨[.bool false], by kernel_rfl, fun _ _ => rfl⟩
theorem mo90 : MapOf Tryz.prog 90 9 4 (MKey.desc Str) := ⟨Tryz.underlying90, Tryz.underlying9⟩
theorem fnok71 : FnOK Tryz.prog 71 := ⟨_, Tryz.func71, by kernel_rfl, by kernel_rfl⟩
theorem fnok103 : FnOK Tryz.prog 103 := ⟨_, Tryz.func103, by kernel_rfl, by kernel_rfl⟩
theorem fnok85 : FnOK Tryz.prog 85 := ⟨_, Tryz.func85, by kernel_rfl, by kernel_rfl⟩
theorem fnok156 : FnOK Tryz.prog 156 := ⟨_, Tryz.func156, by kernel_rfl, by kernel_rfl⟩
theorem fnok149 : FnOK Tryz.prog 149 := ⟨_, Tryz.func149, by kernel_rfl, by kernel_rfl⟩
theorem fnok72 : FnOK Tryz.prog 72 := ⟨_, Tryz.func72, by kernel_rfl, by kernel_rfl⟩
theorem zvc_Page_view_o12 : ∀ (M : MSet) (w : World), Rep.cells M (⟨(⟨([] : (List DNode)), ([] : (List DEdge))⟩ : Doc), ⟨.map none⟩, ⟨.map none⟩⟩ : Page_view_o12) [.slice none 0 0, .slice none 0 0, .map none, .map none] w := fun _ _ => ⟨[_, _], _, rfl, ⟨[_], _, rfl, ⟨none, 0, rfl, Nat.le_refl _, by decide, rfl⟩, ⟨none, 0, rfl, Nat.le_refl _, by decide, rfl⟩⟩, ⟨[_], _, rfl, ⟨rfl, rfl, rfl⟩, ⟨rfl, rfl, rfl⟩⟩⟩
theorem hv_Page_view_o12_2 : HasField Page_view_o12 Raw 3 Page_view_o12.members := ⟨by decide, fun M x cs w h => (HasField.snd (HasField.snd HasField.self)).2 M _ cs w h⟩
theorem sv_Page_view_o12_2 : SetField Page_view_o12 Raw 3 (fun x z => { x with members := z }) := ⟨by decide, fun M x z cs zs w h hz => (SetField.snd (SetField.snd SetField.self)).2 M _ z cs zs w h hz⟩
theorem hv_Page_view_o12_1 : HasField Page_view_o12 Raw 2 Page_view_o12.number := ⟨by decide, fun M x cs w h => (HasField.snd (HasField.fst HasField.self)).2 M _ cs w h⟩
theorem sv_Page_view_o12_1 : SetField Page_view_o12 Raw 2 (fun x z => { x with number := z }) := ⟨by decide, fun M x z cs zs w h hz => (SetField.snd (SetField.fst SetField.self)).2 M _ z cs zs w h hz⟩
theorem sv_Page_view_o12_0 : SetField Page_view_o12 Doc 0 (fun x z => { x with d := z }) := ⟨by decide, fun M x z cs zs w h hz => (SetField.fst SetField.self).2 M _ z cs zs w h hz⟩
theorem bu148 : BuildAt Tryz.prog 148 [.slice none 0 0, .slice none 0 0, .map none, .map none] [(0, 2), (2, 1), (3, 1)] := ⟨by kernel_rfl, _, Tryz.underlying148, by kernel_rfl⟩
theorem fd148_1 : FieldAt Tryz.prog 148 1 2 := ⟨_, _, Tryz.underlying148, rfl, rfl, by kernel_rfl⟩
theorem hfd148_1 : HasField Page_view (GMap Str Int) 2 Page_view.number := ⟨by decide, fun M x cs w h => (HasField.snd (HasField.fst HasField.self)).2 M _ cs w h⟩
theorem tr145 : Ty Tryz.prog 145 Raw := ⟨⟨_, Tryz.underlying145, rfl⟩, by kernel_rfl⟩
theorem mo145 : MapOf Tryz.prog 145 9 3 (MKey.desc Str) := ⟨Tryz.underlying145, Tryz.underlying9⟩
theorem fd148_2 : FieldAt Tryz.prog 148 2 3 := ⟨_, _, Tryz.underlying148, rfl, rfl, by kernel_rfl⟩
theorem hfd148_2 : HasField Page_view (GMap Str (List Int)) 3 Page_view.members := ⟨by decide, fun M x cs w h => (HasField.snd (HasField.snd HasField.self)).2 M _ cs w h⟩
theorem tr146 : Ty Tryz.prog 146 Raw := ⟨⟨_, Tryz.underlying146, rfl⟩, by kernel_rfl⟩
theorem zo118 : ZeroOf Tryz.prog 118 ([] : (List Int)) := ⟨[.slice none 0 0], by kernel_rfl, fun _ _ => ⟨none, 0, rfl, Nat.le_refl _, by decide, rfl⟩⟩
theorem mo146 : MapOf Tryz.prog 146 9 118 (MKey.desc Str) := ⟨Tryz.underlying146, Tryz.underlying9⟩
theorem zraw118 : ZeroOf Tryz.prog 118 (⟨.slice none 0 0⟩ : Raw) := ⟨[.slice none 0 0], by kernel_rfl, fun _ _ => ⟨rfl, rfl, rfl⟩⟩
theorem sl118 : SliceOf Tryz.prog 118 3 := Tryz.underlying118
theorem hz3 : HasZero Tryz.prog 3 := by unfold HasZero; kernel_rfl
theorem rk118 : RowOK Tryz.prog 118 3 Int := ⟨sl118, ty3, by kernel_rfl⟩
theorem fnok73 : FnOK Tryz.prog 73 := ⟨_, Tryz.func73, by kernel_rfl, by kernel_rfl⟩
theorem fd148_0 : FieldAt Tryz.prog 148 0 0 := ⟨_, _, Tryz.underlying148, rfl, rfl, by kernel_rfl⟩
theorem hfd148_0 : HasField Page_view Doc 0 Page_view.d := ⟨by decide, fun M x cs w h => (HasField.fst HasField.self).2 M _ cs w h⟩
theorem ty145 : Ty Tryz.prog 145 (GMap Str Int) := ⟨⟨_, Tryz.underlying145, rfl⟩, by kernel_rfl⟩
theorem zo3 : ZeroOf Tryz.prog 3 (0 : Int) := ⟨[.int .i64 0], by kernel_rfl, fun _ _ => ⟨rfl, by decide⟩⟩
theorem fnok150 : FnOK Tryz.prog 150 := ⟨_, Tryz.func150, by kernel_rfl, by kernel_rfl⟩
theorem fnok164 : FnOK Tryz.prog 164 := ⟨_, Tryz.func164, by kernel_rfl, by kernel_rfl⟩
theorem ty146 : Ty Tryz.prog 146 (GMap Str (List Int)) := ⟨⟨_, Tryz.underlying146, rfl⟩, by kernel_rfl⟩
theorem fnok74 : FnOK Tryz.prog 74 := ⟨_, Tryz.func74, by kernel_rfl, by kernel_rfl⟩
theorem fnok151 : FnOK Tryz.prog 151 := ⟨_, Tryz.func151, by kernel_rfl, by kernel_rfl⟩
theorem fnok152 : FnOK Tryz.prog 152 := ⟨_, Tryz.func152, by kernel_rfl, by kernel_rfl⟩
theorem fnok184 : FnOK Tryz.prog 184 := ⟨_, Tryz.func184, by kernel_rfl, by kernel_rfl⟩
theorem fnok83 : FnOK Tryz.prog 83 := ⟨_, Tryz.func83, by kernel_rfl, by kernel_rfl⟩
theorem fnok75 : FnOK Tryz.prog 75 := ⟨_, Tryz.func75, by kernel_rfl, by kernel_rfl⟩
theorem fnok153 : FnOK Tryz.prog 153 := ⟨_, Tryz.func153, by kernel_rfl, by kernel_rfl⟩
theorem fnok159 : FnOK Tryz.prog 159 := ⟨_, Tryz.func159, by kernel_rfl, by kernel_rfl⟩
theorem fnok154 : FnOK Tryz.prog 154 := ⟨_, Tryz.func154, by kernel_rfl, by kernel_rfl⟩
theorem bu44 : BuildAt Tryz.prog 44 [.string ByteArray.empty, .int .i64 0, .int .i64 0, .int .i64 0, .int .i64 0, .int .i64 0, .string ByteArray.empty, .string ByteArray.empty, .string ByteArray.empty, .bool false] [(0, 1), (1, 1), (2, 4), (6, 1), (7, 1), (8, 1), (9, 1)] := ⟨by kernel_rfl, _, Tryz.underlying44, by kernel_rfl⟩
theorem zc44 : ∀ (M : MSet) (w : World), Rep.cells M (⟨Str.nil, (0 : Int), (⟨(0 : Int), (0 : Int), (0 : Int), (0 : Int)⟩ : Box), Str.nil, Str.nil, Str.nil, false⟩ : DNode) [.string ByteArray.empty, .int .i64 0, .int .i64 0, .int .i64 0, .int .i64 0, .int .i64 0, .string ByteArray.empty, .string ByteArray.empty, .string ByteArray.empty, .bool false] w := fun _ _ => ⟨[_], _, rfl, str_zero, ⟨[_], _, rfl, ⟨rfl, by decide⟩, ⟨[_, _, _, _], _, rfl, ⟨[_], _, rfl, ⟨rfl, by decide⟩, ⟨[_], _, rfl, ⟨rfl, by decide⟩, ⟨[_], _, rfl, ⟨rfl, by decide⟩, ⟨rfl, by decide⟩⟩⟩⟩, ⟨[_], _, rfl, str_zero, ⟨[_], _, rfl, str_zero, ⟨[_], _, rfl, str_zero, rfl⟩⟩⟩⟩⟩⟩
theorem sf25_0 : SetField Doc (List DNode) 0 (fun x z => { x with Nodes := z }) := ⟨by decide, fun M x z cs zs w h hz => (SetField.fst SetField.self).2 M _ z cs zs w h hz⟩
theorem fnok58 : FnOK Tryz.prog 58 := ⟨_, Tryz.func58, by kernel_rfl, by kernel_rfl⟩
theorem fnok137 : FnOK Tryz.prog 137 := ⟨_, Tryz.func137, by kernel_rfl, by kernel_rfl⟩
theorem fnok19 : FnOK Tryz.prog 19 := ⟨_, Tryz.func19, by kernel_rfl, by kernel_rfl⟩
theorem fnok111 : FnOK Tryz.prog 111 := ⟨_, Tryz.func111, by kernel_rfl, by kernel_rfl⟩
theorem fnok176 : FnOK Tryz.prog 176 := ⟨_, Tryz.func176, by kernel_rfl, by kernel_rfl⟩
theorem zo90 : ZeroOf Tryz.prog 90 (GMap.nil : (GMap Str Bool)) := ⟨[.map none], by kernel_rfl, fun _ _ => map_zero⟩
theorem ty90 : Ty Tryz.prog 90 (GMap Str Bool) := ⟨⟨_, Tryz.underlying90, rfl⟩, by kernel_rfl⟩
theorem fnok59 : FnOK Tryz.prog 59 := ⟨_, Tryz.func59, by kernel_rfl, by kernel_rfl⟩
theorem fnok61 : FnOK Tryz.prog 61 := ⟨_, Tryz.func61, by kernel_rfl, by kernel_rfl⟩
theorem eqi29 : EqIn Tryz.prog 29 Box 2 := eqIn_struct Tryz.underlying29 (by kernel_rfl) (.cons (proj := Box.X) rfl hfd29_0 ty3 (eqIn_int Tryz.underlying3) (.cons (proj := Box.Y) rfl hfd29_1 ty3 (eqIn_int Tryz.underlying3) (.cons (proj := Box.W_) rfl hfd29_2 ty3 (eqIn_int Tryz.underlying3) (.cons (proj := Box.H) rfl hfd29_3 ty3 (eqIn_int Tryz.underlying3) .nil)))) (fun x y => by rw [Bool.eq_iff_iff]; cases x; cases y; simp only [Bool.and_eq_true, decide_eq_true_eq, and_true, Box.mk.injEq]) rfl
theorem fd44_6 : FieldAt Tryz.prog 44 6 9 := ⟨_, _, Tryz.underlying44, rfl, rfl, by kernel_rfl⟩
theorem hfd44_6 : HasField DNode Bool 9 DNode.Locked := ⟨by decide, fun M x cs w h => (HasField.snd (HasField.snd (HasField.snd (HasField.snd (HasField.snd (HasField.snd HasField.self)))))).2 M _ cs w h⟩
theorem ty4 : Ty Tryz.prog 4 Bool := ⟨⟨_, Tryz.underlying4, rfl⟩, by kernel_rfl⟩
theorem eqi44 : EqIn Tryz.prog 44 DNode 3 := eqIn_struct Tryz.underlying44 (by kernel_rfl) (.cons (proj := DNode.Id) rfl hfd44_0 ty9 (eqIn_more (eqIn_str Tryz.underlying9) (by decide)) (.cons (proj := DNode.Kind) rfl hfd44_1 ty3 (eqIn_more (eqIn_int Tryz.underlying3) (by decide)) (.cons (proj := DNode.Box) rfl hfd44_2 ty29 eqi29 (.cons (proj := DNode.Text) rfl hfd44_3 ty9 (eqIn_more (eqIn_str Tryz.underlying9) (by decide)) (.cons (proj := DNode.Class) rfl hfd44_4 ty9 (eqIn_more (eqIn_str Tryz.underlying9) (by decide)) (.cons (proj := DNode.Parent) rfl hfd44_5 ty9 (eqIn_more (eqIn_str Tryz.underlying9) (by decide)) (.cons (proj := DNode.Locked) rfl hfd44_6 ty4 (eqIn_more (eqIn_bool Tryz.underlying4) (by decide)) .nil))))))) (fun x y => by rw [Bool.eq_iff_iff]; cases x; cases y; simp only [Bool.and_eq_true, decide_eq_true_eq, and_true, DNode.mk.injEq]) rfl
theorem eqa44 : DB.EqAt Tryz.prog 44 DNode := eqAt_in eqi44 (by kernel_rfl) (by kernel_rfl) rfl
theorem fnok51 : FnOK Tryz.prog 51 := ⟨_, Tryz.func51, by kernel_rfl, by kernel_rfl⟩
theorem zo25 : ZeroOf Tryz.prog 25 (⟨([] : (List DNode)), ([] : (List DEdge))⟩ : Doc) := ⟨[.slice none 0 0, .slice none 0 0], by kernel_rfl, fun _ _ => ⟨[_], _, rfl, ⟨none, 0, rfl, Nat.le_refl _, by decide, rfl⟩, ⟨none, 0, rfl, Nat.le_refl _, by decide, rfl⟩⟩⟩
theorem fnok99 : FnOK Tryz.prog 99 := ⟨_, Tryz.func99, by kernel_rfl, by kernel_rfl⟩
theorem fnok81 : FnOK Tryz.prog 81 := ⟨_, Tryz.func81, by kernel_rfl, by kernel_rfl⟩
theorem sl112 : SliceOf Tryz.prog 112 4 := Tryz.underlying112
theorem rk112 : RowOK Tryz.prog 112 4 Bool := ⟨sl112, ty4, by kernel_rfl⟩
theorem sf159_2 : SetField Page_step Int 2 (fun x z => { x with dy := z }) := ⟨by decide, fun M x z cs zs w h hz => (SetField.snd (SetField.snd SetField.self)).2 M _ z cs zs w h hz⟩
theorem sf159_1 : SetField Page_step Int 1 (fun x z => { x with dx := z }) := ⟨by decide, fun M x z cs zs w h hz => (SetField.snd (SetField.fst SetField.self)).2 M _ z cs zs w h hz⟩
theorem sf159_0 : SetField Page_step (List Int) 0 (fun x z => { x with roots := z }) := ⟨by decide, fun M x z cs zs w h hz => (SetField.fst SetField.self).2 M _ z cs zs w h hz⟩
theorem bu159 : BuildAt Tryz.prog 159 [.slice none 0 0, .int .i64 0, .int .i64 0] [(0, 1), (1, 1), (2, 1)] := ⟨by kernel_rfl, _, Tryz.underlying159, by kernel_rfl⟩
theorem zc159 : ∀ (M : MSet) (w : World), Rep.cells M (⟨([] : (List Int)), (0 : Int), (0 : Int)⟩ : Page_step) [.slice none 0 0, .int .i64 0, .int .i64 0] w := fun _ _ => ⟨[_], _, rfl, ⟨none, 0, rfl, Nat.le_refl _, by decide, rfl⟩, ⟨[_], _, rfl, ⟨rfl, by decide⟩, ⟨rfl, by decide⟩⟩⟩
theorem sl160 : SliceOf Tryz.prog 160 159 := Tryz.underlying160
theorem ty159 : Ty Tryz.prog 159 Page_step := ⟨⟨_, Tryz.underlying159, rfl⟩, by kernel_rfl⟩
theorem hz159 : HasZero Tryz.prog 159 := by unfold HasZero; kernel_rfl
theorem fnok124 : FnOK Tryz.prog 124 := ⟨_, Tryz.func124, by kernel_rfl, by kernel_rfl⟩
theorem zo159 : ZeroOf Tryz.prog 159 (⟨([] : (List Int)), (0 : Int), (0 : Int)⟩ : Page_step) := ⟨[.slice none 0 0, .int .i64 0, .int .i64 0], by kernel_rfl, fun _ _ => ⟨[_], _, rfl, ⟨none, 0, rfl, Nat.le_refl _, by decide, rfl⟩, ⟨[_], _, rfl, ⟨rfl, by decide⟩, ⟨rfl, by decide⟩⟩⟩⟩
theorem fd159_1 : FieldAt Tryz.prog 159 1 1 := ⟨_, _, Tryz.underlying159, rfl, rfl, by kernel_rfl⟩
theorem hfd159_1 : HasField Page_step Int 1 Page_step.dx := ⟨by decide, fun M x cs w h => (HasField.snd (HasField.fst HasField.self)).2 M _ cs w h⟩
theorem fd159_2 : FieldAt Tryz.prog 159 2 2 := ⟨_, _, Tryz.underlying159, rfl, rfl, by kernel_rfl⟩
theorem hfd159_2 : HasField Page_step Int 2 Page_step.dy := ⟨by decide, fun M x cs w h => (HasField.snd (HasField.snd HasField.self)).2 M _ cs w h⟩
theorem fnok178 : FnOK Tryz.prog 178 := ⟨_, Tryz.func178, by kernel_rfl, by kernel_rfl⟩
theorem fd159_0 : FieldAt Tryz.prog 159 0 0 := ⟨_, _, Tryz.underlying159, rfl, rfl, by kernel_rfl⟩
theorem hfd159_0 : HasField Page_step (List Int) 0 Page_step.roots := ⟨by decide, fun M x cs w h => (HasField.fst HasField.self).2 M _ cs w h⟩
theorem ty118 : Ty Tryz.prog 118 (List Int) := ⟨⟨_, Tryz.underlying118, rfl⟩, by kernel_rfl⟩
theorem fnok78 : FnOK Tryz.prog 78 := ⟨_, Tryz.func78, by kernel_rfl, by kernel_rfl⟩
theorem fnok110 : FnOK Tryz.prog 110 := ⟨_, Tryz.func110, by kernel_rfl, by kernel_rfl⟩
theorem fnok100 : FnOK Tryz.prog 100 := ⟨_, Tryz.func100, by kernel_rfl, by kernel_rfl⟩
theorem fnok167 : FnOK Tryz.prog 167 := ⟨_, Tryz.func167, by kernel_rfl, by kernel_rfl⟩
theorem fnok168 : FnOK Tryz.prog 168 := ⟨_, Tryz.func168, by kernel_rfl, by kernel_rfl⟩
theorem hz67 : HasZero Tryz.prog 67 := by unfold HasZero; kernel_rfl
theorem rk23 : RowOK Tryz.prog 23 67 DEdge := ⟨sl23, ty67, by kernel_rfl⟩
theorem sv_Doc_o0_0 : SetField Doc_o0 Raw 0 (fun x z => { x with Nodes := z }) := ⟨by decide, fun M x z cs zs w h hz => (SetField.fst SetField.self).2 M _ z cs zs w h hz⟩
theorem hv_Doc_o01_1 : HasField Doc_o01 Raw 1 Doc_o01.Edges := ⟨by decide, fun M x cs w h => (HasField.snd HasField.self).2 M _ cs w h⟩
theorem sv_Doc_o01_1 : SetField Doc_o01 Raw 1 (fun x z => { x with Edges := z }) := ⟨by decide, fun M x z cs zs w h hz => (SetField.snd SetField.self).2 M _ z cs zs w h hz⟩
theorem tr23 : Ty Tryz.prog 23 Raw := ⟨⟨_, Tryz.underlying23, rfl⟩, by kernel_rfl⟩
theorem fnok169 : FnOK Tryz.prog 169 := ⟨_, Tryz.func169, by kernel_rfl, by kernel_rfl⟩
theorem hz27 : HasZero Tryz.prog 27 := by unfold HasZero; kernel_rfl
theorem rk59 : RowOK Tryz.prog 59 27 Point := ⟨sl59, ty27, by kernel_rfl⟩
theorem sf67_3 : SetField DEdge (List Point) 7 (fun x z => { x with Bends := z }) := ⟨by decide, fun M x z cs zs w h hz => (SetField.snd (SetField.snd (SetField.snd (SetField.fst SetField.self)))).2 M _ z cs zs w h hz⟩
theorem tyv_Doc_o01 : Ty Tryz.prog 25 Doc_o01 := ⟨⟨_, Tryz.underlying25, rfl⟩, by kernel_rfl⟩
theorem rep_mk_DEdge_o3 {E E2 : Nat} {l : List DEdge} {M D : MSet} {v : Value} {w : World} (h : (rowD E E2 mk_DEdge_o3 DEdge.Bends [] l).p M D v w) (hms : ∀ k, M k → k < w.heap.size) : (rep l).p (fun k => M k ∧ ¬ D k) v w :=
  rowD_rep (α := DEdge) (mk := mk_DEdge_o3) (sub := DEdge.Bends) rfl (fun M a s cs w hc hl => by obtain ⟨c0, q0, e0, h0, c1, q1, e1, h1, c2, q2, e2, h2, c3, q3, e3, h3, c4, q4, e4, h4, h5⟩ := hc; exact ⟨c0, q0, e0, h0, c1, q1, e1, h1, c2, q2, e2, h2, c3, q3, e3, raw_cells rfl rfl h3 hl, c4, q4, e4, h4, h5⟩) h hms
theorem frz_mk_DEdge_o3 {E E2 : Nat} {l : List DEdge} : FrzC (rowD E E2 mk_DEdge_o3 DEdge.Bends [] l) l := fun M D s w h hms => rep_mk_DEdge_o3 h hms
theorem tyv_DEdge_o3 : Ty Tryz.prog 67 DEdge_o3 := ⟨⟨_, Tryz.underlying67, rfl⟩, by kernel_rfl⟩
theorem hv_DEdge_o3_3 : HasField DEdge_o3 Raw 7 DEdge_o3.Bends := ⟨by decide, fun M x cs w h => (HasField.snd (HasField.snd (HasField.snd (HasField.fst HasField.self)))).2 M _ cs w h⟩
theorem sv_DEdge_o3_3 : SetField DEdge_o3 Raw 7 (fun x z => { x with Bends := z }) := ⟨by decide, fun M x z cs zs w h hz => (SetField.snd (SetField.snd (SetField.snd (SetField.fst SetField.self)))).2 M _ z cs zs w h hz⟩
theorem tr59 : Ty Tryz.prog 59 Raw := ⟨⟨_, Tryz.underlying59, rfl⟩, by kernel_rfl⟩
theorem parts_mk_DEdge_o3 : ∀ (M : MSet) (a : DEdge) (cs : List Value) (w : World), Rep.cells M a cs w → ∃ s, Rep.cells M (mk_DEdge_o3 a s) cs w ∧ (rep (DEdge.Bends a)).p M s w := fun M a cs w hc => by
  obtain ⟨c0, q0, e0, h0, c1, q1, e1, h1, c2, q2, e2, h2, c3, q3, e3, h3, c4, q4, e4, h4, h5⟩ := hc
  obtain ⟨v, hcv, hv⟩ := cells_one rfl rfl h3
  refine ⟨v, ⟨c0, q0, e0, h0, c1, q1, e1, h1, c2, q2, e2, h2, c3, q3, e3, hv, c4, q4, e4, h4, h5⟩, _, h3, ?_⟩
  rw [hcv]; rfl
theorem fnok179 : FnOK Tryz.prog 179 := ⟨_, Tryz.func179, by kernel_rfl, by kernel_rfl⟩
theorem tr22 : Ty Tryz.prog 22 Raw := ⟨⟨_, Tryz.underlying22, rfl⟩, by kernel_rfl⟩
theorem hv_Doc_o01_0 : HasField Doc_o01 Raw 0 Doc_o01.Nodes := ⟨by decide, fun M x cs w h => (HasField.fst HasField.self).2 M _ cs w h⟩
theorem sv_Doc_o01_0 : SetField Doc_o01 Raw 0 (fun x z => { x with Nodes := z }) := ⟨by decide, fun M x z cs zs w h hz => (SetField.fst SetField.self).2 M _ z cs zs w h hz⟩
theorem sf44_2 : SetField DNode Box 2 (fun x z => { x with Box := z }) := ⟨by decide, fun M x z cs zs w h hz => (SetField.snd (SetField.snd (SetField.fst SetField.self))).2 M _ z cs zs w h hz⟩
theorem hv_DEdge_o3_1 : HasField DEdge_o3 DEnd 1 DEdge_o3.From := ⟨by decide, fun M x cs w h => (HasField.snd (HasField.fst HasField.self)).2 M _ cs w h⟩
theorem hv_DEdge_o3_2 : HasField DEdge_o3 DEnd 4 DEdge_o3.To := ⟨by decide, fun M x cs w h => (HasField.snd (HasField.snd (HasField.fst HasField.self))).2 M _ cs w h⟩
theorem fnok62 : FnOK Tryz.prog 62 := ⟨_, Tryz.func62, by kernel_rfl, by kernel_rfl⟩
theorem fnok138 : FnOK Tryz.prog 138 := ⟨_, Tryz.func138, by kernel_rfl, by kernel_rfl⟩
theorem fnok139 : FnOK Tryz.prog 139 := ⟨_, Tryz.func139, by kernel_rfl, by kernel_rfl⟩
theorem fnok140 : FnOK Tryz.prog 140 := ⟨_, Tryz.func140, by kernel_rfl, by kernel_rfl⟩
theorem eqi65 : EqIn Tryz.prog 65 DEnd 2 := eqIn_struct Tryz.underlying65 (by kernel_rfl) (.cons (proj := DEnd.Node) rfl hfd65_0 ty9 (eqIn_str Tryz.underlying9) (.cons (proj := DEnd.Side) rfl hfd65_1 ty3 (eqIn_int Tryz.underlying3) (.cons (proj := DEnd.At) rfl hfd65_2 ty3 (eqIn_int Tryz.underlying3) .nil))) (fun x y => by rw [Bool.eq_iff_iff]; cases x; cases y; simp only [Bool.and_eq_true, decide_eq_true_eq, and_true, DEnd.mk.injEq]) rfl
theorem eqa65 : DB.EqAt Tryz.prog 65 DEnd := eqAt_in eqi65 (by kernel_rfl) (by kernel_rfl) rfl
theorem fnok96 : FnOK Tryz.prog 96 := ⟨_, Tryz.func96, by kernel_rfl, by kernel_rfl⟩
theorem eq27 : DB.EqAt Tryz.prog 27 Point := eqAt_ints (n := 2) (fun p => [p.X, p.Y]) (fun a b => by cases a; cases b; simp) (fun _ => rfl) (fun M v w a h => by obtain ⟨cs, h, rfl⟩ := h; obtain ⟨_, _, rfl, ⟨rfl, _⟩, ⟨rfl, _⟩⟩ := h; rfl) ⟨by kernel_rfl, by kernel_rfl, by kernel_rfl, by kernel_rfl⟩
theorem fnok52 : FnOK Tryz.prog 52 := ⟨_, Tryz.func52, by kernel_rfl, by kernel_rfl⟩
theorem fnok125 : FnOK Tryz.prog 125 := ⟨_, Tryz.func125, by kernel_rfl, by kernel_rfl⟩
theorem fnok70 : FnOK Tryz.prog 70 := ⟨_, Tryz.func70, by kernel_rfl, by kernel_rfl⟩
theorem rk160 : RowOK Tryz.prog 160 159 Page_step := ⟨sl160, ty159, by kernel_rfl⟩
theorem fnok53 : FnOK Tryz.prog 53 := ⟨_, Tryz.func53, by kernel_rfl, by kernel_rfl⟩
theorem zo100 : ZeroOf Tryz.prog 100 (none : (Option Page_view)) := ⟨[.pointer none], by kernel_rfl, fun _ _ => ptr_zero⟩
theorem ty100 : Ty Tryz.prog 100 (Option Page_view) := ⟨⟨_, Tryz.underlying100, rfl⟩, by kernel_rfl⟩
theorem fnok126 : FnOK Tryz.prog 126 := ⟨_, Tryz.func126, by kernel_rfl, by kernel_rfl⟩
theorem zr162 : ZeroOf Tryz.prog 162 (⟨.nilFunc⟩ : Raw) := ⟨[.nilFunc], by kernel_rfl, fun _ _ => ⟨rfl, rfl, rfl⟩⟩
theorem tr162 : Ty Tryz.prog 162 Raw := ⟨⟨_, Tryz.underlying162, rfl⟩, by kernel_rfl⟩
theorem fnok127 : FnOK Tryz.prog 127 := ⟨_, Tryz.func127, by kernel_rfl, by kernel_rfl⟩
theorem fnok129 : FnOK Tryz.prog 129 := ⟨_, Tryz.func129, by kernel_rfl, by kernel_rfl⟩
theorem fnok131 : FnOK Tryz.prog 131 := ⟨_, Tryz.func131, by kernel_rfl, by kernel_rfl⟩
theorem fnok181 : FnOK Tryz.prog 181 := ⟨_, Tryz.func181, by kernel_rfl, by kernel_rfl⟩
theorem fnok130 : FnOK Tryz.prog 130 := ⟨_, Tryz.func130, by kernel_rfl, by kernel_rfl⟩
theorem fnok128 : FnOK Tryz.prog 128 := ⟨_, Tryz.func128, by kernel_rfl, by kernel_rfl⟩
theorem fnok180 : FnOK Tryz.prog 180 := ⟨_, Tryz.func180, by kernel_rfl, by kernel_rfl⟩
theorem fnok199 : FnOK Tryz.prog 199 := ⟨_, Tryz.func199, by kernel_rfl, by kernel_rfl⟩
theorem fnok200 : FnOK Tryz.prog 200 := ⟨_, Tryz.func200, by kernel_rfl, by kernel_rfl⟩
theorem fnok209 : FnOK Tryz.prog 209 := ⟨_, Tryz.func209, by kernel_rfl, by kernel_rfl⟩
theorem fnok214 : FnOK Tryz.prog 214 := ⟨_, Tryz.func214, by kernel_rfl, by kernel_rfl⟩
theorem fnok132 : FnOK Tryz.prog 132 := ⟨_, Tryz.func132, by kernel_rfl, by kernel_rfl⟩
theorem mo168 : MapOf Tryz.prog 168 3 3 (MKey.desc Int) := ⟨Tryz.underlying168, Tryz.underlying3⟩
theorem fnok40 : FnOK Tryz.prog 40 := ⟨_, Tryz.func40, by kernel_rfl, by kernel_rfl⟩
theorem fnok104 : FnOK Tryz.prog 104 := ⟨_, Tryz.func104, by kernel_rfl, by kernel_rfl⟩
theorem fnok106 : FnOK Tryz.prog 106 := ⟨_, Tryz.func106, by kernel_rfl, by kernel_rfl⟩
theorem sf44_5 : SetField DNode Str 8 (fun x z => { x with Parent := z }) := ⟨by decide, fun M x z cs zs w h hz => (SetField.snd (SetField.snd (SetField.snd (SetField.snd (SetField.snd (SetField.fst SetField.self)))))).2 M _ z cs zs w h hz⟩
theorem sf44_1 : SetField DNode Int 1 (fun x z => { x with Kind := z }) := ⟨by decide, fun M x z cs zs w h hz => (SetField.snd (SetField.fst SetField.self)).2 M _ z cs zs w h hz⟩
theorem sf44_0 : SetField DNode Str 0 (fun x z => { x with Id := z }) := ⟨by decide, fun M x z cs zs w h hz => (SetField.fst SetField.self).2 M _ z cs zs w h hz⟩
theorem fnok63 : FnOK Tryz.prog 63 := ⟨_, Tryz.func63, by kernel_rfl, by kernel_rfl⟩
theorem fnok69 : FnOK Tryz.prog 69 := ⟨_, Tryz.func69, by kernel_rfl, by kernel_rfl⟩
theorem fnok141 : FnOK Tryz.prog 141 := ⟨_, Tryz.func141, by kernel_rfl, by kernel_rfl⟩

end Go.Proofs.YtclcheggnlhamaaGreatDoor
