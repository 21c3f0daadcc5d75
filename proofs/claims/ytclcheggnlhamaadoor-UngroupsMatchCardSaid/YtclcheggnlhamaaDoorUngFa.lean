/-
  Closed facts on the program.
-/
import Derived.Test.YtclcheggnlhamaaDoorRows
import Derived.Test.YtclcheggnlhamaaDoorUngLi1
set_option maxRecDepth 100000
set_option linter.unusedSimpArgs false
set_option linter.unusedVariables false
namespace Go.Proofs.YtclcheggnlhamaaDoor
open Go Go.DB Go.RowKit

theorem mixed : Tryd.prog.follows .mixedOrders = true := by kernel_rfl
def trimStr_ren : Shelf.Ren where
  f := fun x => match x with | 160 => 112 | 232 => 121 | 231 => 120 | 227 => 122 | 234 => 124 | 233 => 123 | 236 => 126 | 235 => 125 | 228 => 130 | 271 => 133 | 151 => 132 | 197 => 131 | 120 => 137 | 152 => 136 | 260 => 135 | 137 => 138 | 119 => 139 | 224 => 140 | 225 => 141 | 217 => 142 | 266 => 143 | n => n
  t := fun x => match x with | 9 => 9 | 4 => 4 | 3 => 3 | 5 => 5 | 117 => 169 | 116 => 168 | 0 => 0 | 124 => 172 | 21 => 21 | 105 => 175 | 46 => 160 | 119 => 162 | 139 => 165 | 138 => 164 | n => n
  g := fun x => match x with | 3 => 0 | 4 => 1 | n => n
theorem trimStr_lay : Lays.n160 Tryd.prog trimStr_ren where
  mixed := by kernel_rfl
  f119 := Tryd.func139.trans (by kernel_rfl)
  f120 := Tryd.func137.trans (by kernel_rfl)
  f137 := Tryd.func138.trans (by kernel_rfl)
  f151 := Tryd.func132.trans (by kernel_rfl)
  f152 := Tryd.func136.trans (by kernel_rfl)
  f160 := Tryd.func112.trans (by kernel_rfl)
  f197 := Tryd.func131.trans (by kernel_rfl)
  f217 := Tryd.func142.trans (by kernel_rfl)
  f224 := Tryd.func140.trans (by kernel_rfl)
  f225 := Tryd.func141.trans (by kernel_rfl)
  f227 := Tryd.func122.trans (by kernel_rfl)
  f228 := Tryd.func130.trans (by kernel_rfl)
  f231 := Tryd.func120.trans (by kernel_rfl)
  f232 := Tryd.func121.trans (by kernel_rfl)
  f233 := Tryd.func123.trans (by kernel_rfl)
  f234 := Tryd.func124.trans (by kernel_rfl)
  f235 := Tryd.func125.trans (by kernel_rfl)
  f236 := Tryd.func126.trans (by kernel_rfl)
  f260 := Tryd.func135.trans (by kernel_rfl)
  f266 := Tryd.func143.trans (by kernel_rfl)
  f271 := Tryd.func133.trans (by kernel_rfl)
  t0 := Tryd.underlying0
  a0 := Tryd.isAgg0
  z0 := Tryd.sizeOf0
  v0 := Tryd.zeroValue0
  t3 := Tryd.underlying3
  a3 := Tryd.isAgg3
  z3 := Tryd.sizeOf3
  v3 := Tryd.zeroValue3
  t4 := Tryd.underlying4
  a4 := Tryd.isAgg4
  z4 := Tryd.sizeOf4
  v4 := Tryd.zeroValue4
  t5 := Tryd.underlying5
  a5 := Tryd.isAgg5
  z5 := Tryd.sizeOf5
  v5 := Tryd.zeroValue5
  t9 := Tryd.underlying9
  a9 := Tryd.isAgg9
  z9 := Tryd.sizeOf9
  v9 := Tryd.zeroValue9
  t21 := Tryd.underlying21
  a21 := Tryd.isAgg21
  z21 := Tryd.sizeOf21
  v21 := Tryd.zeroValue21
  t46 := Tryd.underlying160
  a46 := Tryd.isAgg160
  z46 := Tryd.sizeOf160
  v46 := Tryd.zeroValue160
  t105 := Tryd.underlying175
  a105 := Tryd.isAgg175
  z105 := Tryd.sizeOf175
  v105 := Tryd.zeroValue175
  t116 := Tryd.underlying168
  a116 := Tryd.isAgg168
  z116 := Tryd.sizeOf168
  t117 := Tryd.underlying169
  a117 := Tryd.isAgg169
  z117 := Tryd.sizeOf169
  v117 := Tryd.zeroValue169
  t119 := Tryd.underlying162
  a119 := Tryd.isAgg162
  z119 := Tryd.sizeOf162
  t124 := Tryd.underlying172
  a124 := Tryd.isAgg172
  z124 := Tryd.sizeOf172
  v124 := Tryd.zeroValue172
  t138 := Tryd.underlying164
  a138 := Tryd.isAgg164
  z138 := Tryd.sizeOf164
  v138 := Tryd.zeroValue164
  t139 := Tryd.underlying165
  a139 := Tryd.isAgg165
  z139 := Tryd.sizeOf165
  v139 := Tryd.zeroValue165
  g3 := by kernel_rfl
  g4 := by kernel_rfl

def validStr_ren : Shelf.Ren where
  f := fun x => match x with | 196 => 106 | 259 => 119 | n => n
  t := fun x => match x with | 9 => 9 | 4 => 4 | 3 => 3 | 5 => 5 | 12 => 12 | 119 => 162 | 0 => 0 | 46 => 160 | 139 => 165 | 138 => 164 | 53 => 173 | n => n
  g := fun x => match x with | 3 => 0 | 4 => 1 | n => n
theorem validStr_lay : Lays.n196 Tryd.prog validStr_ren where
  mixed := by kernel_rfl
  f196 := Tryd.func106.trans (by kernel_rfl)
  f259 := Tryd.func119.trans (by kernel_rfl)
  t0 := Tryd.underlying0
  a0 := Tryd.isAgg0
  z0 := Tryd.sizeOf0
  v0 := Tryd.zeroValue0
  t3 := Tryd.underlying3
  a3 := Tryd.isAgg3
  z3 := Tryd.sizeOf3
  v3 := Tryd.zeroValue3
  t4 := Tryd.underlying4
  a4 := Tryd.isAgg4
  z4 := Tryd.sizeOf4
  v4 := Tryd.zeroValue4
  t5 := Tryd.underlying5
  a5 := Tryd.isAgg5
  z5 := Tryd.sizeOf5
  v5 := Tryd.zeroValue5
  t9 := Tryd.underlying9
  a9 := Tryd.isAgg9
  z9 := Tryd.sizeOf9
  v9 := Tryd.zeroValue9
  t12 := Tryd.underlying12
  a12 := Tryd.isAgg12
  z12 := Tryd.sizeOf12
  v12 := Tryd.zeroValue12
  t46 := Tryd.underlying160
  a46 := Tryd.isAgg160
  z46 := Tryd.sizeOf160
  v46 := Tryd.zeroValue160
  t53 := Tryd.underlying173
  a53 := Tryd.isAgg173
  z53 := Tryd.sizeOf173
  v53 := Tryd.zeroValue173
  t119 := Tryd.underlying162
  a119 := Tryd.isAgg162
  z119 := Tryd.sizeOf162
  t138 := Tryd.underlying164
  a138 := Tryd.isAgg164
  z138 := Tryd.sizeOf164
  v138 := Tryd.zeroValue164
  t139 := Tryd.underlying165
  a139 := Tryd.isAgg165
  z139 := Tryd.sizeOf165
  v139 := Tryd.zeroValue165
  g3 := by kernel_rfl
  g4 := by kernel_rfl

theorem fnok112 : FnOK Tryd.prog 112 := ⟨_, Tryd.func112, by kernel_rfl, by kernel_rfl⟩
theorem fnok106 : FnOK Tryd.prog 106 := ⟨_, Tryd.func106, by kernel_rfl, by kernel_rfl⟩
theorem fnok3 : FnOK Tryd.prog 3 := ⟨_, Tryd.func3, by kernel_rfl, by kernel_rfl⟩
theorem ty25 : Ty Tryd.prog 25 Doc := ⟨⟨_, Tryd.underlying25, rfl⟩, by kernel_rfl⟩
theorem fnok6 : FnOK Tryd.prog 6 := ⟨_, Tryd.func6, by kernel_rfl, by kernel_rfl⟩
theorem zo25 : ZeroOf Tryd.prog 25 (⟨([] : (List DNode)), ([] : (List DEdge))⟩ : Doc) := ⟨[.slice none 0 0, .slice none 0 0], by kernel_rfl, fun _ _ => ⟨[_], _, rfl, ⟨none, 0, rfl, Nat.le_refl _, by decide, rfl⟩, ⟨none, 0, rfl, Nat.le_refl _, by decide, rfl⟩⟩⟩
theorem fnok24 : FnOK Tryd.prog 24 := ⟨_, Tryd.func24, by kernel_rfl, by kernel_rfl⟩
theorem fnok63 : FnOK Tryd.prog 63 := ⟨_, Tryd.func63, by kernel_rfl, by kernel_rfl⟩
theorem fnok16 : FnOK Tryd.prog 16 := ⟨_, Tryd.func16, by kernel_rfl, by kernel_rfl⟩
theorem fd25_0 : FieldAt Tryd.prog 25 0 0 := ⟨_, _, Tryd.underlying25, rfl, rfl, by kernel_rfl⟩
theorem hfd25_0 : HasField Doc (List DNode) 0 Doc.Nodes := ⟨by decide, fun M x cs w h => (HasField.fst HasField.self).2 M _ cs w h⟩
theorem ty22 : Ty Tryd.prog 22 (List DNode) := ⟨⟨_, Tryd.underlying22, rfl⟩, by kernel_rfl⟩
theorem sl22 : SliceOf Tryd.prog 22 43 := Tryd.underlying22
theorem fd25_1 : FieldAt Tryd.prog 25 1 1 := ⟨_, _, Tryd.underlying25, rfl, rfl, by kernel_rfl⟩
theorem hfd25_1 : HasField Doc (List DEdge) 1 Doc.Edges := ⟨by decide, fun M x cs w h => (HasField.snd HasField.self).2 M _ cs w h⟩
theorem ty23 : Ty Tryd.prog 23 (List DEdge) := ⟨⟨_, Tryd.underlying23, rfl⟩, by kernel_rfl⟩
theorem sl23 : SliceOf Tryd.prog 23 96 := Tryd.underlying23
theorem ty43 : Ty Tryd.prog 43 DNode := ⟨⟨_, Tryd.underlying43, rfl⟩, by kernel_rfl⟩
theorem zo43 : ZeroOf Tryd.prog 43 (⟨Str.nil, (0 : Int), (⟨(0 : Int), (0 : Int), (0 : Int), (0 : Int)⟩ : Box), Str.nil, Str.nil, Str.nil, false⟩ : DNode) := ⟨[.string ByteArray.empty, .int .i64 0, .int .i64 0, .int .i64 0, .int .i64 0, .int .i64 0, .string ByteArray.empty, .string ByteArray.empty, .string ByteArray.empty, .bool false], by kernel_rfl, fun _ _ => ⟨[_], _, rfl, str_zero, ⟨[_], _, rfl, ⟨rfl, by decide⟩, ⟨[_, _, _, _], _, rfl, ⟨[_], _, rfl, ⟨rfl, by decide⟩, ⟨[_], _, rfl, ⟨rfl, by decide⟩, ⟨[_], _, rfl, ⟨rfl, by decide⟩, ⟨rfl, by decide⟩⟩⟩⟩, ⟨[_], _, rfl, str_zero, ⟨[_], _, rfl, str_zero, ⟨[_], _, rfl, str_zero, rfl⟩⟩⟩⟩⟩⟩⟩
theorem fd43_0 : FieldAt Tryd.prog 43 0 0 := ⟨_, _, Tryd.underlying43, rfl, rfl, by kernel_rfl⟩
theorem hfd43_0 : HasField DNode Str 0 DNode.Id := ⟨by decide, fun M x cs w h => (HasField.fst HasField.self).2 M _ cs w h⟩
theorem ty9 : Ty Tryd.prog 9 Str := ⟨⟨_, Tryd.underlying9, rfl⟩, by kernel_rfl⟩
theorem zo4 : ZeroOf Tryd.prog 4 false := ⟨[.bool false], by kernel_rfl, fun _ _ => rfl⟩
theorem mo84 : MapOf Tryd.prog 84 9 4 (MKey.desc Str) := ⟨Tryd.underlying84, Tryd.underlying9⟩
theorem fnok48 : FnOK Tryd.prog 48 := ⟨_, Tryd.func48, by kernel_rfl, by kernel_rfl⟩
theorem fnok92 : FnOK Tryd.prog 92 := ⟨_, Tryd.func92, by kernel_rfl, by kernel_rfl⟩
theorem fd43_1 : FieldAt Tryd.prog 43 1 1 := ⟨_, _, Tryd.underlying43, rfl, rfl, by kernel_rfl⟩
theorem hfd43_1 : HasField DNode Int 1 DNode.Kind := ⟨by decide, fun M x cs w h => (HasField.snd (HasField.fst HasField.self)).2 M _ cs w h⟩
theorem ty3 : Ty Tryd.prog 3 Int := ⟨⟨_, Tryd.underlying3, rfl⟩, by kernel_rfl⟩
theorem fd43_2 : FieldAt Tryd.prog 43 2 2 := ⟨_, _, Tryd.underlying43, rfl, rfl, by kernel_rfl⟩
theorem hfd43_2 : HasField DNode Box 2 DNode.Box := ⟨by decide, fun M x cs w h => (HasField.snd (HasField.snd (HasField.fst HasField.self))).2 M _ cs w h⟩
theorem ty41 : Ty Tryd.prog 41 Box := ⟨⟨_, Tryd.underlying41, rfl⟩, by kernel_rfl⟩
theorem bu41 : BuildAt Tryd.prog 41 [.int .i64 0, .int .i64 0, .int .i64 0, .int .i64 0] [(0, 1), (1, 1), (2, 1), (3, 1)] := ⟨by kernel_rfl, _, Tryd.underlying41, by kernel_rfl⟩
theorem zc41 : ∀ (M : MSet) (w : World), Rep.cells M (⟨(0 : Int), (0 : Int), (0 : Int), (0 : Int)⟩ : Box) [.int .i64 0, .int .i64 0, .int .i64 0, .int .i64 0] w := fun _ _ => ⟨[_], _, rfl, ⟨rfl, by decide⟩, ⟨[_], _, rfl, ⟨rfl, by decide⟩, ⟨[_], _, rfl, ⟨rfl, by decide⟩, ⟨rfl, by decide⟩⟩⟩⟩
theorem eq41 : DB.EqAt Tryd.prog 41 Box := eqAt_ints (n := 4) (fun p => [p.X, p.Y, p.W_, p.H]) (fun a b => by cases a; cases b; simp) (fun _ => rfl) (fun M v w a h => by obtain ⟨cs, h, rfl⟩ := h; obtain ⟨_, _, rfl, ⟨rfl, _⟩, ⟨_, _, rfl, ⟨rfl, _⟩, ⟨_, _, rfl, ⟨rfl, _⟩, ⟨rfl, _⟩⟩⟩⟩ := h; rfl) ⟨by kernel_rfl, by kernel_rfl, by kernel_rfl, by kernel_rfl⟩
theorem fnok93 : FnOK Tryd.prog 93 := ⟨_, Tryd.func93, by kernel_rfl, by kernel_rfl⟩
theorem fd41_0 : FieldAt Tryd.prog 41 0 0 := ⟨_, _, Tryd.underlying41, rfl, rfl, by kernel_rfl⟩
theorem hfd41_0 : HasField Box Int 0 Box.X := ⟨by decide, fun M x cs w h => (HasField.fst HasField.self).2 M _ cs w h⟩
theorem fnok113 : FnOK Tryd.prog 113 := ⟨_, Tryd.func113, by kernel_rfl, by kernel_rfl⟩
theorem fd41_1 : FieldAt Tryd.prog 41 1 1 := ⟨_, _, Tryd.underlying41, rfl, rfl, by kernel_rfl⟩
theorem hfd41_1 : HasField Box Int 1 Box.Y := ⟨by decide, fun M x cs w h => (HasField.snd (HasField.fst HasField.self)).2 M _ cs w h⟩
theorem fd41_2 : FieldAt Tryd.prog 41 2 2 := ⟨_, _, Tryd.underlying41, rfl, rfl, by kernel_rfl⟩
theorem hfd41_2 : HasField Box Int 2 Box.W_ := ⟨by decide, fun M x cs w h => (HasField.snd (HasField.snd (HasField.fst HasField.self))).2 M _ cs w h⟩
theorem fd41_3 : FieldAt Tryd.prog 41 3 3 := ⟨_, _, Tryd.underlying41, rfl, rfl, by kernel_rfl⟩
theorem hfd41_3 : HasField Box Int 3 Box.H := ⟨by decide, fun M x cs w h => (HasField.snd (HasField.snd (HasField.snd HasField.self))).2 M _ cs w h⟩
theorem fd43_3 : FieldAt Tryd.prog 43 3 6 := ⟨_, _, Tryd.underlying43, rfl, rfl, by kernel_rfl⟩
theorem hfd43_3 : HasField DNode Str 6 DNode.Text := ⟨by decide, fun M x cs w h => (HasField.snd (HasField.snd (HasField.snd (HasField.fst HasField.self)))).2 M _ cs w h⟩
theorem fnok94 : FnOK Tryd.prog 94 := ⟨_, Tryd.func94, by kernel_rfl, by kernel_rfl⟩
theorem fd43_4 : FieldAt Tryd.prog 43 4 7 := ⟨_, _, Tryd.underlying43, rfl, rfl, by kernel_rfl⟩
theorem hfd43_4 : HasField DNode Str 7 DNode.Class := ⟨by decide, fun M x cs w h => (HasField.snd (HasField.snd (HasField.snd (HasField.snd (HasField.fst HasField.self))))).2 M _ cs w h⟩
theorem fnok49 : FnOK Tryd.prog 49 := ⟨_, Tryd.func49, by kernel_rfl, by kernel_rfl⟩
theorem zvc_Page_view_o12 : ∀ (M : MSet) (w : World), Rep.cells M (⟨(⟨([] : (List DNode)), ([] : (List DEdge))⟩ : Doc), ⟨.map none⟩, ⟨.map none⟩⟩ : Page_view_o12) [.slice none 0 0, .slice none 0 0, .map none, .map none] w := fun _ _ => ⟨[_, _], _, rfl, ⟨[_], _, rfl, ⟨none, 0, rfl, Nat.le_refl _, by decide, rfl⟩, ⟨none, 0, rfl, Nat.le_refl _, by decide, rfl⟩⟩, ⟨[_], _, rfl, ⟨rfl, rfl, rfl⟩, ⟨rfl, rfl, rfl⟩⟩⟩
theorem hv_Page_view_o12_2 : HasField Page_view_o12 Raw 3 Page_view_o12.members := ⟨by decide, fun M x cs w h => (HasField.snd (HasField.snd HasField.self)).2 M _ cs w h⟩
theorem sv_Page_view_o12_2 : SetField Page_view_o12 Raw 3 (fun x z => { x with members := z }) := ⟨by decide, fun M x z cs zs w h hz => (SetField.snd (SetField.snd SetField.self)).2 M _ z cs zs w h hz⟩
theorem hv_Page_view_o12_1 : HasField Page_view_o12 Raw 2 Page_view_o12.number := ⟨by decide, fun M x cs w h => (HasField.snd (HasField.fst HasField.self)).2 M _ cs w h⟩
theorem sv_Page_view_o12_1 : SetField Page_view_o12 Raw 2 (fun x z => { x with number := z }) := ⟨by decide, fun M x z cs zs w h hz => (SetField.snd (SetField.fst SetField.self)).2 M _ z cs zs w h hz⟩
theorem sv_Page_view_o12_0 : SetField Page_view_o12 Doc 0 (fun x z => { x with d := z }) := ⟨by decide, fun M x z cs zs w h hz => (SetField.fst SetField.self).2 M _ z cs zs w h hz⟩
theorem bu63 : BuildAt Tryd.prog 63 [.slice none 0 0, .slice none 0 0, .map none, .map none] [(0, 2), (2, 1), (3, 1)] := ⟨by kernel_rfl, _, Tryd.underlying63, by kernel_rfl⟩
theorem fd63_1 : FieldAt Tryd.prog 63 1 2 := ⟨_, _, Tryd.underlying63, rfl, rfl, by kernel_rfl⟩
theorem hfd63_1 : HasField Page_view (GMap Str Int) 2 Page_view.number := ⟨by decide, fun M x cs w h => (HasField.snd (HasField.fst HasField.self)).2 M _ cs w h⟩
theorem tr60 : Ty Tryd.prog 60 Raw := ⟨⟨_, Tryd.underlying60, rfl⟩, by kernel_rfl⟩
theorem mo60 : MapOf Tryd.prog 60 9 3 (MKey.desc Str) := ⟨Tryd.underlying60, Tryd.underlying9⟩
theorem fd43_5 : FieldAt Tryd.prog 43 5 8 := ⟨_, _, Tryd.underlying43, rfl, rfl, by kernel_rfl⟩
theorem hfd43_5 : HasField DNode Str 8 DNode.Parent := ⟨by decide, fun M x cs w h => (HasField.snd (HasField.snd (HasField.snd (HasField.snd (HasField.snd (HasField.fst HasField.self)))))).2 M _ cs w h⟩
theorem fd63_2 : FieldAt Tryd.prog 63 2 3 := ⟨_, _, Tryd.underlying63, rfl, rfl, by kernel_rfl⟩
theorem hfd63_2 : HasField Page_view (GMap Str (List Int)) 3 Page_view.members := ⟨by decide, fun M x cs w h => (HasField.snd (HasField.snd HasField.self)).2 M _ cs w h⟩
theorem tr61 : Ty Tryd.prog 61 Raw := ⟨⟨_, Tryd.underlying61, rfl⟩, by kernel_rfl⟩
theorem zo59 : ZeroOf Tryd.prog 59 ([] : (List Int)) := ⟨[.slice none 0 0], by kernel_rfl, fun _ _ => ⟨none, 0, rfl, Nat.le_refl _, by decide, rfl⟩⟩
theorem mo61 : MapOf Tryd.prog 61 9 59 (MKey.desc Str) := ⟨Tryd.underlying61, Tryd.underlying9⟩
theorem zraw59 : ZeroOf Tryd.prog 59 (⟨.slice none 0 0⟩ : Raw) := ⟨[.slice none 0 0], by kernel_rfl, fun _ _ => ⟨rfl, rfl, rfl⟩⟩
theorem sl59 : SliceOf Tryd.prog 59 3 := Tryd.underlying59
theorem hz3 : HasZero Tryd.prog 3 := by unfold HasZero; kernel_rfl
theorem rk59 : RowOK Tryd.prog 59 3 Int := ⟨sl59, ty3, by kernel_rfl⟩
theorem fnok50 : FnOK Tryd.prog 50 := ⟨_, Tryd.func50, by kernel_rfl, by kernel_rfl⟩
theorem fd63_0 : FieldAt Tryd.prog 63 0 0 := ⟨_, _, Tryd.underlying63, rfl, rfl, by kernel_rfl⟩
theorem hfd63_0 : HasField Page_view Doc 0 Page_view.d := ⟨by decide, fun M x cs w h => (HasField.fst HasField.self).2 M _ cs w h⟩
theorem ty60 : Ty Tryd.prog 60 (GMap Str Int) := ⟨⟨_, Tryd.underlying60, rfl⟩, by kernel_rfl⟩
theorem zo3 : ZeroOf Tryd.prog 3 (0 : Int) := ⟨[.int .i64 0], by kernel_rfl, fun _ _ => ⟨rfl, by decide⟩⟩
theorem fnok95 : FnOK Tryd.prog 95 := ⟨_, Tryd.func95, by kernel_rfl, by kernel_rfl⟩
theorem fnok114 : FnOK Tryd.prog 114 := ⟨_, Tryd.func114, by kernel_rfl, by kernel_rfl⟩
theorem ty61 : Ty Tryd.prog 61 (GMap Str (List Int)) := ⟨⟨_, Tryd.underlying61, rfl⟩, by kernel_rfl⟩
theorem ty96 : Ty Tryd.prog 96 DEdge := ⟨⟨_, Tryd.underlying96, rfl⟩, by kernel_rfl⟩
theorem zo96 : ZeroOf Tryd.prog 96 (⟨Str.nil, (⟨Str.nil, (0 : Int), (0 : Int)⟩ : DEnd), (⟨Str.nil, (0 : Int), (0 : Int)⟩ : DEnd), ([] : (List Point)), Str.nil, Str.nil⟩ : DEdge) := ⟨[.string ByteArray.empty, .string ByteArray.empty, .int .i64 0, .int .i64 0, .string ByteArray.empty, .int .i64 0, .int .i64 0, .slice none 0 0, .string ByteArray.empty, .string ByteArray.empty], by kernel_rfl, fun _ _ => ⟨[_], _, rfl, str_zero, ⟨[_, _, _], _, rfl, ⟨[_], _, rfl, str_zero, ⟨[_], _, rfl, ⟨rfl, by decide⟩, ⟨rfl, by decide⟩⟩⟩, ⟨[_, _, _], _, rfl, ⟨[_], _, rfl, str_zero, ⟨[_], _, rfl, ⟨rfl, by decide⟩, ⟨rfl, by decide⟩⟩⟩, ⟨[_], _, rfl, ⟨none, 0, rfl, Nat.le_refl _, by decide, rfl⟩, ⟨[_], _, rfl, str_zero, str_zero⟩⟩⟩⟩⟩⟩
theorem fd96_0 : FieldAt Tryd.prog 96 0 0 := ⟨_, _, Tryd.underlying96, rfl, rfl, by kernel_rfl⟩
theorem hfd96_0 : HasField DEdge Str 0 DEdge.Id := ⟨by decide, fun M x cs w h => (HasField.fst HasField.self).2 M _ cs w h⟩
theorem fnok51 : FnOK Tryd.prog 51 := ⟨_, Tryd.func51, by kernel_rfl, by kernel_rfl⟩
theorem fd96_1 : FieldAt Tryd.prog 96 1 1 := ⟨_, _, Tryd.underlying96, rfl, rfl, by kernel_rfl⟩
theorem hfd96_1 : HasField DEdge DEnd 1 DEdge.From := ⟨by decide, fun M x cs w h => (HasField.snd (HasField.fst HasField.self)).2 M _ cs w h⟩
theorem ty93 : Ty Tryd.prog 93 DEnd := ⟨⟨_, Tryd.underlying93, rfl⟩, by kernel_rfl⟩
theorem fd96_2 : FieldAt Tryd.prog 96 2 4 := ⟨_, _, Tryd.underlying96, rfl, rfl, by kernel_rfl⟩
theorem hfd96_2 : HasField DEdge DEnd 4 DEdge.To := ⟨by decide, fun M x cs w h => (HasField.snd (HasField.snd (HasField.fst HasField.self))).2 M _ cs w h⟩
theorem sl127 : SliceOf Tryd.prog 127 93 := Tryd.underlying127
theorem hz93 : HasZero Tryd.prog 93 := by unfold HasZero; kernel_rfl
theorem zo93 : ZeroOf Tryd.prog 93 (⟨Str.nil, (0 : Int), (0 : Int)⟩ : DEnd) := ⟨[.string ByteArray.empty, .int .i64 0, .int .i64 0], by kernel_rfl, fun _ _ => ⟨[_], _, rfl, str_zero, ⟨[_], _, rfl, ⟨rfl, by decide⟩, ⟨rfl, by decide⟩⟩⟩⟩
theorem fnok96 : FnOK Tryd.prog 96 := ⟨_, Tryd.func96, by kernel_rfl, by kernel_rfl⟩
theorem fd93_0 : FieldAt Tryd.prog 93 0 0 := ⟨_, _, Tryd.underlying93, rfl, rfl, by kernel_rfl⟩
theorem hfd93_0 : HasField DEnd Str 0 DEnd.Node := ⟨by decide, fun M x cs w h => (HasField.fst HasField.self).2 M _ cs w h⟩
theorem fd93_1 : FieldAt Tryd.prog 93 1 1 := ⟨_, _, Tryd.underlying93, rfl, rfl, by kernel_rfl⟩
theorem hfd93_1 : HasField DEnd Int 1 DEnd.Side := ⟨by decide, fun M x cs w h => (HasField.snd (HasField.fst HasField.self)).2 M _ cs w h⟩
theorem fd93_2 : FieldAt Tryd.prog 93 2 2 := ⟨_, _, Tryd.underlying93, rfl, rfl, by kernel_rfl⟩
theorem hfd93_2 : HasField DEnd Int 2 DEnd.At := ⟨by decide, fun M x cs w h => (HasField.snd (HasField.snd HasField.self)).2 M _ cs w h⟩
theorem fd96_3 : FieldAt Tryd.prog 96 3 7 := ⟨_, _, Tryd.underlying96, rfl, rfl, by kernel_rfl⟩
theorem hfd96_3 : HasField DEdge (List Point) 7 DEdge.Bends := ⟨by decide, fun M x cs w h => (HasField.snd (HasField.snd (HasField.snd (HasField.fst HasField.self)))).2 M _ cs w h⟩
theorem ty94 : Ty Tryd.prog 94 (List Point) := ⟨⟨_, Tryd.underlying94, rfl⟩, by kernel_rfl⟩
theorem sl94 : SliceOf Tryd.prog 94 118 := Tryd.underlying94
theorem fnok97 : FnOK Tryd.prog 97 := ⟨_, Tryd.func97, by kernel_rfl, by kernel_rfl⟩
theorem fnok115 : FnOK Tryd.prog 115 := ⟨_, Tryd.func115, by kernel_rfl, by kernel_rfl⟩
theorem ty118 : Ty Tryd.prog 118 Point := ⟨⟨_, Tryd.underlying118, rfl⟩, by kernel_rfl⟩
theorem zo118 : ZeroOf Tryd.prog 118 (⟨(0 : Int), (0 : Int)⟩ : Point) := ⟨[.int .i64 0, .int .i64 0], by kernel_rfl, fun _ _ => ⟨[_], _, rfl, ⟨rfl, by decide⟩, ⟨rfl, by decide⟩⟩⟩
theorem fnok127 : FnOK Tryd.prog 127 := ⟨_, Tryd.func127, by kernel_rfl, by kernel_rfl⟩
theorem fd118_0 : FieldAt Tryd.prog 118 0 0 := ⟨_, _, Tryd.underlying118, rfl, rfl, by kernel_rfl⟩
theorem hfd118_0 : HasField Point Int 0 Point.X := ⟨by decide, fun M x cs w h => (HasField.fst HasField.self).2 M _ cs w h⟩
theorem fd118_1 : FieldAt Tryd.prog 118 1 1 := ⟨_, _, Tryd.underlying118, rfl, rfl, by kernel_rfl⟩
theorem hfd118_1 : HasField Point Int 1 Point.Y := ⟨by decide, fun M x cs w h => (HasField.snd HasField.self).2 M _ cs w h⟩
theorem fd96_4 : FieldAt Tryd.prog 96 4 8 := ⟨_, _, Tryd.underlying96, rfl, rfl, by kernel_rfl⟩
theorem hfd96_4 : HasField DEdge Str 8 DEdge.Text := ⟨by decide, fun M x cs w h => (HasField.snd (HasField.snd (HasField.snd (HasField.snd (HasField.fst HasField.self))))).2 M _ cs w h⟩
theorem fd96_5 : FieldAt Tryd.prog 96 5 9 := ⟨_, _, Tryd.underlying96, rfl, rfl, by kernel_rfl⟩
theorem hfd96_5 : HasField DEdge Str 9 DEdge.Class := ⟨by decide, fun M x cs w h => (HasField.snd (HasField.snd (HasField.snd (HasField.snd (HasField.snd HasField.self))))).2 M _ cs w h⟩
theorem fnok52 : FnOK Tryd.prog 52 := ⟨_, Tryd.func52, by kernel_rfl, by kernel_rfl⟩
theorem zo41 : ZeroOf Tryd.prog 41 (⟨(0 : Int), (0 : Int), (0 : Int), (0 : Int)⟩ : Box) := ⟨[.int .i64 0, .int .i64 0, .int .i64 0, .int .i64 0], by kernel_rfl, fun _ _ => ⟨[_], _, rfl, ⟨rfl, by decide⟩, ⟨[_], _, rfl, ⟨rfl, by decide⟩, ⟨[_], _, rfl, ⟨rfl, by decide⟩, ⟨rfl, by decide⟩⟩⟩⟩⟩
theorem sl51 : SliceOf Tryd.prog 51 41 := Tryd.underlying51
theorem hz41 : HasZero Tryd.prog 41 := by unfold HasZero; kernel_rfl
theorem rk51 : RowOK Tryd.prog 51 41 Box := ⟨sl51, ty41, by kernel_rfl⟩
theorem fnok84 : FnOK Tryd.prog 84 := ⟨_, Tryd.func84, by kernel_rfl, by kernel_rfl⟩
theorem fnok108 : FnOK Tryd.prog 108 := ⟨_, Tryd.func108, by kernel_rfl, by kernel_rfl⟩
theorem sf41_3 : SetField Box Int 3 (fun x z => { x with H := z }) := ⟨by decide, fun M x z cs zs w h hz => (SetField.snd (SetField.snd (SetField.snd SetField.self))).2 M _ z cs zs w h hz⟩
theorem sf41_2 : SetField Box Int 2 (fun x z => { x with W_ := z }) := ⟨by decide, fun M x z cs zs w h hz => (SetField.snd (SetField.snd (SetField.fst SetField.self))).2 M _ z cs zs w h hz⟩
theorem sf41_1 : SetField Box Int 1 (fun x z => { x with Y := z }) := ⟨by decide, fun M x z cs zs w h hz => (SetField.snd (SetField.fst SetField.self)).2 M _ z cs zs w h hz⟩
theorem sf41_0 : SetField Box Int 0 (fun x z => { x with X := z }) := ⟨by decide, fun M x z cs zs w h hz => (SetField.fst SetField.self).2 M _ z cs zs w h hz⟩
theorem fnok98 : FnOK Tryd.prog 98 := ⟨_, Tryd.func98, by kernel_rfl, by kernel_rfl⟩
theorem bu25 : BuildAt Tryd.prog 25 [.slice none 0 0, .slice none 0 0] [(0, 1), (1, 1)] := ⟨by kernel_rfl, _, Tryd.underlying25, by kernel_rfl⟩
theorem zc25 : ∀ (M : MSet) (w : World), Rep.cells M (⟨([] : (List DNode)), ([] : (List DEdge))⟩ : Doc) [.slice none 0 0, .slice none 0 0] w := fun _ _ => ⟨[_], _, rfl, ⟨none, 0, rfl, Nat.le_refl _, by decide, rfl⟩, ⟨none, 0, rfl, Nat.le_refl _, by decide, rfl⟩⟩
theorem fnok25 : FnOK Tryd.prog 25 := ⟨_, Tryd.func25, by kernel_rfl, by kernel_rfl⟩
theorem fnok64 : FnOK Tryd.prog 64 := ⟨_, Tryd.func64, by kernel_rfl, by kernel_rfl⟩
theorem hz43 : HasZero Tryd.prog 43 := by unfold HasZero; kernel_rfl
theorem rk22 : RowOK Tryd.prog 22 43 DNode := ⟨sl22, ty43, by kernel_rfl⟩
theorem fnok65 : FnOK Tryd.prog 65 := ⟨_, Tryd.func65, by kernel_rfl, by kernel_rfl⟩
theorem hz96 : HasZero Tryd.prog 96 := by unfold HasZero; kernel_rfl
theorem rk23 : RowOK Tryd.prog 23 96 DEdge := ⟨sl23, ty96, by kernel_rfl⟩
theorem sv_Doc_o0_0 : SetField Doc_o0 Raw 0 (fun x z => { x with Nodes := z }) := ⟨by decide, fun M x z cs zs w h hz => (SetField.fst SetField.self).2 M _ z cs zs w h hz⟩
theorem hv_Doc_o01_1 : HasField Doc_o01 Raw 1 Doc_o01.Edges := ⟨by decide, fun M x cs w h => (HasField.snd HasField.self).2 M _ cs w h⟩
theorem sv_Doc_o01_1 : SetField Doc_o01 Raw 1 (fun x z => { x with Edges := z }) := ⟨by decide, fun M x z cs zs w h hz => (SetField.snd SetField.self).2 M _ z cs zs w h hz⟩
theorem tr23 : Ty Tryd.prog 23 Raw := ⟨⟨_, Tryd.underlying23, rfl⟩, by kernel_rfl⟩
theorem fnok66 : FnOK Tryd.prog 66 := ⟨_, Tryd.func66, by kernel_rfl, by kernel_rfl⟩
theorem hz118 : HasZero Tryd.prog 118 := by unfold HasZero; kernel_rfl
theorem rk94 : RowOK Tryd.prog 94 118 Point := ⟨sl94, ty118, by kernel_rfl⟩
theorem sf96_3 : SetField DEdge (List Point) 7 (fun x z => { x with Bends := z }) := ⟨by decide, fun M x z cs zs w h hz => (SetField.snd (SetField.snd (SetField.snd (SetField.fst SetField.self)))).2 M _ z cs zs w h hz⟩
theorem tyv_Doc_o01 : Ty Tryd.prog 25 Doc_o01 := ⟨⟨_, Tryd.underlying25, rfl⟩, by kernel_rfl⟩
theorem tr22 : Ty Tryd.prog 22 Raw := ⟨⟨_, Tryd.underlying22, rfl⟩, by kernel_rfl⟩
theorem hv_Doc_o01_0 : HasField Doc_o01 Raw 0 Doc_o01.Nodes := ⟨by decide, fun M x cs w h => (HasField.fst HasField.self).2 M _ cs w h⟩
theorem sv_Doc_o01_0 : SetField Doc_o01 Raw 0 (fun x z => { x with Nodes := z }) := ⟨by decide, fun M x z cs zs w h hz => (SetField.fst SetField.self).2 M _ z cs zs w h hz⟩
theorem sf43_5 : SetField DNode Str 8 (fun x z => { x with Parent := z }) := ⟨by decide, fun M x z cs zs w h hz => (SetField.snd (SetField.snd (SetField.snd (SetField.snd (SetField.snd (SetField.fst SetField.self)))))).2 M _ z cs zs w h hz⟩
theorem fnok26 : FnOK Tryd.prog 26 := ⟨_, Tryd.func26, by kernel_rfl, by kernel_rfl⟩
theorem fnok7 : FnOK Tryd.prog 7 := ⟨_, Tryd.func7, by kernel_rfl, by kernel_rfl⟩
theorem fnok27 : FnOK Tryd.prog 27 := ⟨_, Tryd.func27, by kernel_rfl, by kernel_rfl⟩
theorem fnok68 : FnOK Tryd.prog 68 := ⟨_, Tryd.func68, by kernel_rfl, by kernel_rfl⟩
theorem fnok67 : FnOK Tryd.prog 67 := ⟨_, Tryd.func67, by kernel_rfl, by kernel_rfl⟩
theorem fnok31 : FnOK Tryd.prog 31 := ⟨_, Tryd.func31, by kernel_rfl, by kernel_rfl⟩
theorem fnok69 : FnOK Tryd.prog 69 := ⟨_, Tryd.func69, by kernel_rfl, by kernel_rfl⟩
theorem fnok8 : FnOK Tryd.prog 8 := ⟨_, Tryd.func8, by kernel_rfl, by kernel_rfl⟩
theorem fnok45 : FnOK Tryd.prog 45 := ⟨_, Tryd.func45, by kernel_rfl, by kernel_rfl⟩
theorem sl136 : SliceOf Tryd.prog 136 26 := Tryd.underlying136
theorem ty26 : Ty Tryd.prog 26 Int := ⟨⟨_, Tryd.underlying26, rfl⟩, by kernel_rfl⟩
theorem hz26 : HasZero Tryd.prog 26 := by unfold HasZero; kernel_rfl
theorem fnok43 : FnOK Tryd.prog 43 := ⟨_, Tryd.func43, by kernel_rfl, by kernel_rfl⟩
theorem fnok70 : FnOK Tryd.prog 70 := ⟨_, Tryd.func70, by kernel_rfl, by kernel_rfl⟩
theorem sf118_1 : SetField Point Int 1 (fun x z => { x with Y := z }) := ⟨by decide, fun M x z cs zs w h hz => (SetField.snd SetField.self).2 M _ z cs zs w h hz⟩
theorem sf118_0 : SetField Point Int 0 (fun x z => { x with X := z }) := ⟨by decide, fun M x z cs zs w h hz => (SetField.fst SetField.self).2 M _ z cs zs w h hz⟩
theorem bu118 : BuildAt Tryd.prog 118 [.int .i64 0, .int .i64 0] [(0, 1), (1, 1)] := ⟨by kernel_rfl, _, Tryd.underlying118, by kernel_rfl⟩
theorem zc118 : ∀ (M : MSet) (w : World), Rep.cells M (⟨(0 : Int), (0 : Int)⟩ : Point) [.int .i64 0, .int .i64 0] w := fun _ _ => ⟨[_], _, rfl, ⟨rfl, by decide⟩, ⟨rfl, by decide⟩⟩
theorem fnok105 : FnOK Tryd.prog 105 := ⟨_, Tryd.func105, by kernel_rfl, by kernel_rfl⟩
theorem fnok71 : FnOK Tryd.prog 71 := ⟨_, Tryd.func71, by kernel_rfl, by kernel_rfl⟩
theorem fnok72 : FnOK Tryd.prog 72 := ⟨_, Tryd.func72, by kernel_rfl, by kernel_rfl⟩
theorem fnok28 : FnOK Tryd.prog 28 := ⟨_, Tryd.func28, by kernel_rfl, by kernel_rfl⟩
theorem fnok9 : FnOK Tryd.prog 9 := ⟨_, Tryd.func9, by kernel_rfl, by kernel_rfl⟩
theorem fnok32 : FnOK Tryd.prog 32 := ⟨_, Tryd.func32, by kernel_rfl, by kernel_rfl⟩
theorem fnok73 : FnOK Tryd.prog 73 := ⟨_, Tryd.func73, by kernel_rfl, by kernel_rfl⟩
theorem fnok74 : FnOK Tryd.prog 74 := ⟨_, Tryd.func74, by kernel_rfl, by kernel_rfl⟩
theorem fnok29 : FnOK Tryd.prog 29 := ⟨_, Tryd.func29, by kernel_rfl, by kernel_rfl⟩
theorem fnok76 : FnOK Tryd.prog 76 := ⟨_, Tryd.func76, by kernel_rfl, by kernel_rfl⟩
theorem fnok75 : FnOK Tryd.prog 75 := ⟨_, Tryd.func75, by kernel_rfl, by kernel_rfl⟩
theorem fnok107 : FnOK Tryd.prog 107 := ⟨_, Tryd.func107, by kernel_rfl, by kernel_rfl⟩
theorem fnok77 : FnOK Tryd.prog 77 := ⟨_, Tryd.func77, by kernel_rfl, by kernel_rfl⟩
theorem fnok78 : FnOK Tryd.prog 78 := ⟨_, Tryd.func78, by kernel_rfl, by kernel_rfl⟩
theorem fnok30 : FnOK Tryd.prog 30 := ⟨_, Tryd.func30, by kernel_rfl, by kernel_rfl⟩
theorem fnok79 : FnOK Tryd.prog 79 := ⟨_, Tryd.func79, by kernel_rfl, by kernel_rfl⟩
theorem fnok10 : FnOK Tryd.prog 10 := ⟨_, Tryd.func10, by kernel_rfl, by kernel_rfl⟩
theorem fnok33 : FnOK Tryd.prog 33 := ⟨_, Tryd.func33, by kernel_rfl, by kernel_rfl⟩
theorem zvc_Doc_o01 : ∀ (M : MSet) (w : World), Rep.cells M (⟨⟨.slice none 0 0⟩, ⟨.slice none 0 0⟩⟩ : Doc_o01) [.slice none 0 0, .slice none 0 0] w := fun _ _ => ⟨[_], _, rfl, ⟨rfl, rfl, rfl⟩, ⟨rfl, rfl, rfl⟩⟩
theorem fnok11 : FnOK Tryd.prog 11 := ⟨_, Tryd.func11, by kernel_rfl, by kernel_rfl⟩
theorem bu43 : BuildAt Tryd.prog 43 [.string ByteArray.empty, .int .i64 0, .int .i64 0, .int .i64 0, .int .i64 0, .int .i64 0, .string ByteArray.empty, .string ByteArray.empty, .string ByteArray.empty, .bool false] [(0, 1), (1, 1), (2, 4), (6, 1), (7, 1), (8, 1), (9, 1)] := ⟨by kernel_rfl, _, Tryd.underlying43, by kernel_rfl⟩
theorem zc43 : ∀ (M : MSet) (w : World), Rep.cells M (⟨Str.nil, (0 : Int), (⟨(0 : Int), (0 : Int), (0 : Int), (0 : Int)⟩ : Box), Str.nil, Str.nil, Str.nil, false⟩ : DNode) [.string ByteArray.empty, .int .i64 0, .int .i64 0, .int .i64 0, .int .i64 0, .int .i64 0, .string ByteArray.empty, .string ByteArray.empty, .string ByteArray.empty, .bool false] w := fun _ _ => ⟨[_], _, rfl, str_zero, ⟨[_], _, rfl, ⟨rfl, by decide⟩, ⟨[_, _, _, _], _, rfl, ⟨[_], _, rfl, ⟨rfl, by decide⟩, ⟨[_], _, rfl, ⟨rfl, by decide⟩, ⟨[_], _, rfl, ⟨rfl, by decide⟩, ⟨rfl, by decide⟩⟩⟩⟩, ⟨[_], _, rfl, str_zero, ⟨[_], _, rfl, str_zero, ⟨[_], _, rfl, str_zero, rfl⟩⟩⟩⟩⟩⟩
theorem sf25_0 : SetField Doc (List DNode) 0 (fun x z => { x with Nodes := z }) := ⟨by decide, fun M x z cs zs w h hz => (SetField.fst SetField.self).2 M _ z cs zs w h hz⟩
theorem fnok12 : FnOK Tryd.prog 12 := ⟨_, Tryd.func12, by kernel_rfl, by kernel_rfl⟩
theorem fnok34 : FnOK Tryd.prog 34 := ⟨_, Tryd.func34, by kernel_rfl, by kernel_rfl⟩
theorem fnok80 : FnOK Tryd.prog 80 := ⟨_, Tryd.func80, by kernel_rfl, by kernel_rfl⟩
theorem eqi41 : EqIn Tryd.prog 41 Box 2 := eqIn_struct Tryd.underlying41 (by kernel_rfl) (.cons (proj := Box.X) rfl hfd41_0 ty3 (eqIn_int Tryd.underlying3) (.cons (proj := Box.Y) rfl hfd41_1 ty3 (eqIn_int Tryd.underlying3) (.cons (proj := Box.W_) rfl hfd41_2 ty3 (eqIn_int Tryd.underlying3) (.cons (proj := Box.H) rfl hfd41_3 ty3 (eqIn_int Tryd.underlying3) .nil)))) (fun x y => by rw [Bool.eq_iff_iff]; cases x; cases y; simp only [Bool.and_eq_true, decide_eq_true_eq, and_true, Box.mk.injEq]) rfl
theorem hfd43_6 : HasField DNode Bool 9 DNode.Locked := ⟨by decide, fun M x cs w h => (HasField.snd (HasField.snd (HasField.snd (HasField.snd (HasField.snd (HasField.snd HasField.self)))))).2 M _ cs w h⟩
theorem ty4 : Ty Tryd.prog 4 Bool := ⟨⟨_, Tryd.underlying4, rfl⟩, by kernel_rfl⟩
theorem eqi43 : EqIn Tryd.prog 43 DNode 3 := eqIn_struct Tryd.underlying43 (by kernel_rfl) (.cons (proj := DNode.Id) rfl hfd43_0 ty9 (eqIn_more (eqIn_str Tryd.underlying9) (by decide)) (.cons (proj := DNode.Kind) rfl hfd43_1 ty3 (eqIn_more (eqIn_int Tryd.underlying3) (by decide)) (.cons (proj := DNode.Box) rfl hfd43_2 ty41 eqi41 (.cons (proj := DNode.Text) rfl hfd43_3 ty9 (eqIn_more (eqIn_str Tryd.underlying9) (by decide)) (.cons (proj := DNode.Class) rfl hfd43_4 ty9 (eqIn_more (eqIn_str Tryd.underlying9) (by decide)) (.cons (proj := DNode.Parent) rfl hfd43_5 ty9 (eqIn_more (eqIn_str Tryd.underlying9) (by decide)) (.cons (proj := DNode.Locked) rfl hfd43_6 ty4 (eqIn_more (eqIn_bool Tryd.underlying4) (by decide)) .nil))))))) (fun x y => by rw [Bool.eq_iff_iff]; cases x; cases y; simp only [Bool.and_eq_true, decide_eq_true_eq, and_true, DNode.mk.injEq]) rfl
theorem eqa43 : DB.EqAt Tryd.prog 43 DNode := eqAt_in eqi43 (by kernel_rfl) (by kernel_rfl) rfl
theorem fnok81 : FnOK Tryd.prog 81 := ⟨_, Tryd.func81, by kernel_rfl, by kernel_rfl⟩
theorem fnok82 : FnOK Tryd.prog 82 := ⟨_, Tryd.func82, by kernel_rfl, by kernel_rfl⟩
theorem eqi93 : EqIn Tryd.prog 93 DEnd 2 := eqIn_struct Tryd.underlying93 (by kernel_rfl) (.cons (proj := DEnd.Node) rfl hfd93_0 ty9 (eqIn_str Tryd.underlying9) (.cons (proj := DEnd.Side) rfl hfd93_1 ty3 (eqIn_int Tryd.underlying3) (.cons (proj := DEnd.At) rfl hfd93_2 ty3 (eqIn_int Tryd.underlying3) .nil))) (fun x y => by rw [Bool.eq_iff_iff]; cases x; cases y; simp only [Bool.and_eq_true, decide_eq_true_eq, and_true, DEnd.mk.injEq]) rfl
theorem eqa93 : DB.EqAt Tryd.prog 93 DEnd := eqAt_in eqi93 (by kernel_rfl) (by kernel_rfl) rfl
theorem fnok83 : FnOK Tryd.prog 83 := ⟨_, Tryd.func83, by kernel_rfl, by kernel_rfl⟩
theorem eq118 : DB.EqAt Tryd.prog 118 Point := eqAt_ints (n := 2) (fun p => [p.X, p.Y]) (fun a b => by cases a; cases b; simp) (fun _ => rfl) (fun M v w a h => by obtain ⟨cs, h, rfl⟩ := h; obtain ⟨_, _, rfl, ⟨rfl, _⟩, ⟨rfl, _⟩⟩ := h; rfl) ⟨by kernel_rfl, by kernel_rfl, by kernel_rfl, by kernel_rfl⟩

end Go.Proofs.YtclcheggnlhamaaDoor
