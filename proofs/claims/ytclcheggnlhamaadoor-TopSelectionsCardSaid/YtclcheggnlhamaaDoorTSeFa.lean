/-
  Closed facts on the program.
-/
import Derived.Test.YtclcheggnlhamaaDoorRows
import Derived.Test.YtclcheggnlhamaaDoorTSeLi1
set_option maxRecDepth 100000
set_option linter.unusedSimpArgs false
set_option linter.unusedVariables false
namespace Go.Proofs.YtclcheggnlhamaaDoor
open Go Go.DB Go.RowKit
theorem mixed : Tryd.prog.follows .mixedOrders = true := by kernel_rfl
def trimStr_ren : Shelf.Ren where
 f := fun x => match x with | 160 => 112 | 232 => 121 | 231 => 120 | 227 => 122 | 234 => 124 | 233 => 123 | 236 => 126 | 235 => 125 | 228 => 130 | 271 => 133 | 151 => 132 | 197 => 131 | 120 => 137 | 152 => 136 | 260 => 135 | 137 => 138 | 119 => 139 | 224 => 140 | 225 => 141 | 217 => 142 | 266 => 143 | n => n
 t := fun x => match x with | 9 => 9 | 4 => 4 | 3 => 3 | 5 => 5 | 117 => 169 | 116 => 168 | 0 => 0 | 124 => 172 | 21 => 21 | 105 => 175 | 46 => 160 | 119 => 162 | 139 => 165 | 138 => 164 | n => n
 g := fun x => match x with | 3 => 0 | 4 => 1 | n => n
theorem trimStr_lay : Lays.n160 Tryd.prog trimStr_ren where
 mixed := by kernel_rfl
 f119 := Tryd.func139.trans (by kernel_rfl)
 f120 := Tryd.func137.trans (by kernel_rfl)
 f137 := Tryd.func138.trans (by kernel_rfl)
 f151 := Tryd.func132.trans (by kernel_rfl)
 f152 := Tryd.func136.trans (by kernel_rfl)
 f160 := Tryd.func112.trans (by kernel_rfl)
 f197 := Tryd.func131.trans (by kernel_rfl)
 f217 := Tryd.func142.trans (by kernel_rfl)
 f224 := Tryd.func140.trans (by kernel_rfl)
 f225 := Tryd.func141.trans (by kernel_rfl)
 f227 := Tryd.func122.trans (by kernel_rfl)
 f228 := Tryd.func130.trans (by kernel_rfl)
 f231 := Tryd.func120.trans (by kernel_rfl)
 f232 := Tryd.func121.trans (by kernel_rfl)
 f233 := Tryd.func123.trans (by kernel_rfl)
 f234 := Tryd.func124.trans (by kernel_rfl)
 f235 := Tryd.func125.trans (by kernel_rfl)
 f236 := Tryd.func126.trans (by kernel_rfl)
 f260 := Tryd.func135.trans (by kernel_rfl)
 f266 := Tryd.func143.trans (by kernel_rfl)
 f271 := Tryd.func133.trans (by kernel_rfl)
 t0 := Tryd.underlying0
 a0 := Tryd.isAgg0
 z0 := Tryd.sizeOf0
 v0 := Tryd.zeroValue0
 t3 := Tryd.underlying3
 a3 := Tryd.isAgg3
 z3 := Tryd.sizeOf3
 v3 := Tryd.zeroValue3
 t4 := Tryd.underlying4
 a4 := Tryd.isAgg4
 z4 := Tryd.sizeOf4
 v4 := Tryd.zeroValue4
 t5 := Tryd.underlying5
 a5 := Tryd.isAgg5
 z5 := Tryd.sizeOf5
 v5 := Tryd.zeroValue5
 t9 := Tryd.underlying9
 a9 := Tryd.isAgg9
 z9 := Tryd.sizeOf9
 v9 := Tryd.zeroValue9
 t21 := Tryd.underlying21
 a21 := Tryd.isAgg21
 z21 := Tryd.sizeOf21
 v21 := Tryd.zeroValue21
 t46 := Tryd.underlying160
 a46 := Tryd.isAgg160
 z46 := Tryd.sizeOf160
 v46 := Tryd.zeroValue160
 t105 := Tryd.underlying175
 a105 := Tryd.isAgg175
 z105 := Tryd.sizeOf175
 v105 := Tryd.zeroValue175
 t116 := Tryd.underlying168
 a116 := Tryd.isAgg168
 z116 := Tryd.sizeOf168
 t117 := Tryd.underlying169
 a117 := Tryd.isAgg169
 z117 := Tryd.sizeOf169
 v117 := Tryd.zeroValue169
 t119 := Tryd.underlying162
 a119 := Tryd.isAgg162
 z119 := Tryd.sizeOf162
 t124 := Tryd.underlying172
 a124 := Tryd.isAgg172
 z124 := Tryd.sizeOf172
 v124 := Tryd.zeroValue172
 t138 := Tryd.underlying164
 a138 := Tryd.isAgg164
 z138 := Tryd.sizeOf164
 v138 := Tryd.zeroValue164
 t139 := Tryd.underlying165
 a139 := Tryd.isAgg165
 z139 := Tryd.sizeOf165
 v139 := Tryd.zeroValue165
 g3 := by kernel_rfl
 g4 := by kernel_rfl
def validStr_ren : Shelf.Ren where
 f := fun x => match x with | 196 => 106 | 259 => 119 | n => n
 t := fun x => match x with | 9 => 9 | 4 => 4 | 3 => 3 | 5 => 5 | 12 => 12 | 119 => 162 | 0 => 0 | 46 => 160 | 139 => 165 | 138 => 164 | 53 => 173 | n => n
 g := fun x => match x with | 3 => 0 | 4 => 1 | n => n
theorem validStr_lay : Lays.n196 Tryd.prog validStr_ren where
 mixed := by kernel_rfl
 f196 := Tryd.func106.trans (by kernel_rfl)
 f259 := Tryd.func119.trans (by kernel_rfl)
 t0 := Tryd.underlying0
 a0 := Tryd.isAgg0
 z0 := Tryd.sizeOf0
 v0 := Tryd.zeroValue0
 t3 := Tryd.underlying3
 a3 := Tryd.isAgg3
 z3 := Tryd.sizeOf3
 v3 := Tryd.zeroValue3
 t4 := Tryd.underlying4
 a4 := Tryd.isAgg4
 z4 := Tryd.sizeOf4
 v4 := Tryd.zeroValue4
 t5 := Tryd.underlying5
 a5 := Tryd.isAgg5
 z5 := Tryd.sizeOf5
 v5 := Tryd.zeroValue5
 t9 := Tryd.underlying9
 a9 := Tryd.isAgg9
 z9 := Tryd.sizeOf9
 v9 := Tryd.zeroValue9
 t12 := Tryd.underlying12
 a12 := Tryd.isAgg12
 z12 := Tryd.sizeOf12
 v12 := Tryd.zeroValue12
 t46 := Tryd.underlying160
 a46 := Tryd.isAgg160
 z46 := Tryd.sizeOf160
 v46 := Tryd.zeroValue160
 t53 := Tryd.underlying173
 a53 := Tryd.isAgg173
 z53 := Tryd.sizeOf173
 v53 := Tryd.zeroValue173
 t119 := Tryd.underlying162
 a119 := Tryd.isAgg162
 z119 := Tryd.sizeOf162
 t138 := Tryd.underlying164
 a138 := Tryd.isAgg164
 z138 := Tryd.sizeOf164
 v138 := Tryd.zeroValue164
 t139 := Tryd.underlying165
 a139 := Tryd.isAgg165
 z139 := Tryd.sizeOf165
 v139 := Tryd.zeroValue165
 g3 := by kernel_rfl
 g4 := by kernel_rfl
theorem fnok112 : FnOK Tryd.prog 112 := ⟨_, Tryd.func112, by kernel_rfl, by kernel_rfl⟩
theorem fnok106 : FnOK Tryd.prog 106 := ⟨_, Tryd.func106, by kernel_rfl, by kernel_rfl⟩
theorem fnok5 : FnOK Tryd.prog 5 := ⟨_, Tryd.func5, by kernel_rfl, by kernel_rfl⟩
theorem bu43 : BuildAt Tryd.prog 43 [.string ByteArray.empty, .int .i64 0, .int .i64 0, .int .i64 0, .int .i64 0, .int .i64 0, .string ByteArray.empty, .string ByteArray.empty, .string ByteArray.empty, .bool false] [(0, 1), (1, 1), (2, 4), (6, 1), (7, 1), (8, 1), (9, 1)] := ⟨by kernel_rfl, _, Tryd.underlying43, by kernel_rfl⟩
theorem zc43 : ∀ (M : MSet) (w : World), Rep.cells M (⟨Str.nil, (0 : Int), (⟨(0 : Int), (0 : Int), (0 : Int), (0 : Int)⟩ : Box), Str.nil, Str.nil, Str.nil, false⟩ : DNode) [.string ByteArray.empty, .int .i64 0, .int .i64 0, .int .i64 0, .int .i64 0, .int .i64 0, .string ByteArray.empty, .string ByteArray.empty, .string ByteArray.empty, .bool false] w := fun _ _ => ⟨[_], _, rfl, str_zero, ⟨[_], _, rfl, ⟨rfl, by decide⟩, ⟨[_, _, _, _], _, rfl, ⟨[_], _, rfl, ⟨rfl, by decide⟩, ⟨[_], _, rfl, ⟨rfl, by decide⟩, ⟨[_], _, rfl, ⟨rfl, by decide⟩, ⟨rfl, by decide⟩⟩⟩⟩, ⟨[_], _, rfl, str_zero, ⟨[_], _, rfl, str_zero, ⟨[_], _, rfl, str_zero, rfl⟩⟩⟩⟩⟩⟩
theorem sl22 : SliceOf Tryd.prog 22 43 := Tryd.underlying22
theorem ty43 : Ty Tryd.prog 43 DNode := ⟨⟨_, Tryd.underlying43, rfl⟩, by kernel_rfl⟩
theorem hz43 : HasZero Tryd.prog 43 := by unfold HasZero; kernel_rfl
theorem sf25_0 : SetField Doc (List DNode) 0 (fun x z => { x with Nodes := z }) := ⟨by decide, fun M x z cs zs w h hz => (SetField.fst SetField.self).2 M _ z cs zs w h hz⟩
theorem bu25 : BuildAt Tryd.prog 25 [.slice none 0 0, .slice none 0 0] [(0, 1), (1, 1)] := ⟨by kernel_rfl, _, Tryd.underlying25, by kernel_rfl⟩
theorem zc25 : ∀ (M : MSet) (w : World), Rep.cells M (⟨([] : (List DNode)), ([] : (List DEdge))⟩ : Doc) [.slice none 0 0, .slice none 0 0] w := fun _ _ => ⟨[_], _, rfl, ⟨none, 0, rfl, Nat.le_refl _, by decide, rfl⟩, ⟨none, 0, rfl, Nat.le_refl _, by decide, rfl⟩⟩
theorem fnok16 : FnOK Tryd.prog 16 := ⟨_, Tryd.func16, by kernel_rfl, by kernel_rfl⟩
theorem fd25_0 : FieldAt Tryd.prog 25 0 0 := ⟨_, _, Tryd.underlying25, rfl, rfl, by kernel_rfl⟩
theorem hfd25_0 : HasField Doc (List DNode) 0 Doc.Nodes := ⟨by decide, fun M x cs w h => (HasField.fst HasField.self).2 M _ cs w h⟩
theorem ty22 : Ty Tryd.prog 22 (List DNode) := ⟨⟨_, Tryd.underlying22, rfl⟩, by kernel_rfl⟩
theorem fd25_1 : FieldAt Tryd.prog 25 1 1 := ⟨_, _, Tryd.underlying25, rfl, rfl, by kernel_rfl⟩
theorem hfd25_1 : HasField Doc (List DEdge) 1 Doc.Edges := ⟨by decide, fun M x cs w h => (HasField.snd HasField.self).2 M _ cs w h⟩
theorem ty23 : Ty Tryd.prog 23 (List DEdge) := ⟨⟨_, Tryd.underlying23, rfl⟩, by kernel_rfl⟩
theorem sl23 : SliceOf Tryd.prog 23 96 := Tryd.underlying23
theorem zo43 : ZeroOf Tryd.prog 43 (⟨Str.nil, (0 : Int), (⟨(0 : Int), (0 : Int), (0 : Int), (0 : Int)⟩ : Box), Str.nil, Str.nil, Str.nil, false⟩ : DNode) := ⟨[.string ByteArray.empty, .int .i64 0, .int .i64 0, .int .i64 0, .int .i64 0, .int .i64 0, .string ByteArray.empty, .string ByteArray.empty, .string ByteArray.empty, .bool false], by kernel_rfl, fun _ _ => ⟨[_], _, rfl, str_zero, ⟨[_], _, rfl, ⟨rfl, by decide⟩, ⟨[_, _, _, _], _, rfl, ⟨[_], _, rfl, ⟨rfl, by decide⟩, ⟨[_], _, rfl, ⟨rfl, by decide⟩, ⟨[_], _, rfl, ⟨rfl, by decide⟩, ⟨rfl, by decide⟩⟩⟩⟩, ⟨[_], _, rfl, str_zero, ⟨[_], _, rfl, str_zero, ⟨[_], _, rfl, str_zero, rfl⟩⟩⟩⟩⟩⟩⟩
theorem fd43_0 : FieldAt Tryd.prog 43 0 0 := ⟨_, _, Tryd.underlying43, rfl, rfl, by kernel_rfl⟩
theorem hfd43_0 : HasField DNode Str 0 DNode.Id := ⟨by decide, fun M x cs w h => (HasField.fst HasField.self).2 M _ cs w h⟩
theorem ty9 : Ty Tryd.prog 9 Str := ⟨⟨_, Tryd.underlying9, rfl⟩, by kernel_rfl⟩
theorem zo4 : ZeroOf Tryd.prog 4 false := ⟨[.bool false], by kernel_rfl, fun _ _ => rfl⟩
theorem mo84 : MapOf Tryd.prog 84 9 4 (MKey.desc Str) := ⟨Tryd.underlying84, Tryd.underlying9⟩
theorem fnok48 : FnOK Tryd.prog 48 := ⟨_, Tryd.func48, by kernel_rfl, by kernel_rfl⟩
theorem fnok92 : FnOK Tryd.prog 92 := ⟨_, Tryd.func92, by kernel_rfl, by kernel_rfl⟩
theorem fd43_1 : FieldAt Tryd.prog 43 1 1 := ⟨_, _, Tryd.underlying43, rfl, rfl, by kernel_rfl⟩
theorem hfd43_1 : HasField DNode Int 1 DNode.Kind := ⟨by decide, fun M x cs w h => (HasField.snd (HasField.fst HasField.self)).2 M _ cs w h⟩
theorem ty3 : Ty Tryd.prog 3 Int := ⟨⟨_, Tryd.underlying3, rfl⟩, by kernel_rfl⟩
theorem fd43_2 : FieldAt Tryd.prog 43 2 2 := ⟨_, _, Tryd.underlying43, rfl, rfl, by kernel_rfl⟩
theorem hfd43_2 : HasField DNode Box 2 DNode.Box := ⟨by decide, fun M x cs w h => (HasField.snd (HasField.snd (HasField.fst HasField.self))).2 M _ cs w h⟩
theorem ty41 : Ty Tryd.prog 41 Box := ⟨⟨_, Tryd.underlying41, rfl⟩, by kernel_rfl⟩
theorem bu41 : BuildAt Tryd.prog 41 [.int .i64 0, .int .i64 0, .int .i64 0, .int .i64 0] [(0, 1), (1, 1), (2, 1), (3, 1)] := ⟨by kernel_rfl, _, Tryd.underlying41, by kernel_rfl⟩
theorem zc41 : ∀ (M : MSet) (w : World), Rep.cells M (⟨(0 : Int), (0 : Int), (0 : Int), (0 : Int)⟩ : Box) [.int .i64 0, .int .i64 0, .int .i64 0, .int .i64 0] w := fun _ _ => ⟨[_], _, rfl, ⟨rfl, by decide⟩, ⟨[_], _, rfl, ⟨rfl, by decide⟩, ⟨[_], _, rfl, ⟨rfl, by decide⟩, ⟨rfl, by decide⟩⟩⟩⟩
theorem eq41 : DB.EqAt Tryd.prog 41 Box := eqAt_ints (n := 4) (fun p => [p.X, p.Y, p.W_, p.H]) (fun a b => by cases a; cases b; simp) (fun _ => rfl) (fun M v w a h => by obtain ⟨cs, h, rfl⟩ := h; obtain ⟨_, _, rfl, ⟨rfl, _⟩, ⟨_, _, rfl, ⟨rfl, _⟩, ⟨_, _, rfl, ⟨rfl, _⟩, ⟨rfl, _⟩⟩⟩⟩ := h; rfl) ⟨by kernel_rfl, by kernel_rfl, by kernel_rfl, by kernel_rfl⟩
theorem fnok93 : FnOK Tryd.prog 93 := ⟨_, Tryd.func93, by kernel_rfl, by kernel_rfl⟩
theorem fd41_0 : FieldAt Tryd.prog 41 0 0 := ⟨_, _, Tryd.underlying41, rfl, rfl, by kernel_rfl⟩
theorem hfd41_0 : HasField Box Int 0 Box.X := ⟨by decide, fun M x cs w h => (HasField.fst HasField.self).2 M _ cs w h⟩
theorem fnok113 : FnOK Tryd.prog 113 := ⟨_, Tryd.func113, by kernel_rfl, by kernel_rfl⟩
theorem fd41_1 : FieldAt Tryd.prog 41 1 1 := ⟨_, _, Tryd.underlying41, rfl, rfl, by kernel_rfl⟩
theorem hfd41_1 : HasField Box Int 1 Box.Y := ⟨by decide, fun M x cs w h => (HasField.snd (HasField.fst HasField.self)).2 M _ cs w h⟩
theorem fd41_2 : FieldAt Tryd.prog 41 2 2 := ⟨_, _, Tryd.underlying41, rfl, rfl, by kernel_rfl⟩
theorem hfd41_2 : HasField Box Int 2 Box.W_ := ⟨by decide, fun M x cs w h => (HasField.snd (HasField.snd (HasField.fst HasField.self))).2 M _ cs w h⟩
theorem fd41_3 : FieldAt Tryd.prog 41 3 3 := ⟨_, _, Tryd.underlying41, rfl, rfl, by kernel_rfl⟩
theorem hfd41_3 : HasField Box Int 3 Box.H := ⟨by decide, fun M x cs w h => (HasField.snd (HasField.snd (HasField.snd HasField.self))).2 M _ cs w h⟩
theorem fd43_3 : FieldAt Tryd.prog 43 3 6 := ⟨_, _, Tryd.underlying43, rfl, rfl, by kernel_rfl⟩
theorem hfd43_3 : HasField DNode Str 6 DNode.Text := ⟨by decide, fun M x cs w h => (HasField.snd (HasField.snd (HasField.snd (HasField.fst HasField.self)))).2 M _ cs w h⟩
theorem fnok94 : FnOK Tryd.prog 94 := ⟨_, Tryd.func94, by kernel_rfl, by kernel_rfl⟩
theorem fd43_4 : FieldAt Tryd.prog 43 4 7 := ⟨_, _, Tryd.underlying43, rfl, rfl, by kernel_rfl⟩
theorem hfd43_4 : HasField DNode Str 7 DNode.Class := ⟨by decide, fun M x cs w h => (HasField.snd (HasField.snd (HasField.snd (HasField.snd (HasField.fst HasField.self))))).2 M _ cs w h⟩
theorem ty25 : Ty Tryd.prog 25 Doc := ⟨⟨_, Tryd.underlying25, rfl⟩, by kernel_rfl⟩
theorem fnok49 : FnOK Tryd.prog 49 := ⟨_, Tryd.func49, by kernel_rfl, by kernel_rfl⟩
theorem zvc_Page_view_o12 : ∀ (M : MSet) (w : World), Rep.cells M (⟨(⟨([] : (List DNode)), ([] : (List DEdge))⟩ : Doc), ⟨.map none⟩, ⟨.map none⟩⟩ : Page_view_o12) [.slice none 0 0, .slice none 0 0, .map none, .map none] w := fun _ _ => ⟨[_, _], _, rfl, ⟨[_], _, rfl, ⟨none, 0, rfl, Nat.le_refl _, by decide, rfl⟩, ⟨none, 0, rfl, Nat.le_refl _, by decide, rfl⟩⟩, ⟨[_], _, rfl, ⟨rfl, rfl, rfl⟩, ⟨rfl, rfl, rfl⟩⟩⟩
theorem hv_Page_view_o12_2 : HasField Page_view_o12 Raw 3 Page_view_o12.members := ⟨by decide, fun M x cs w h => (HasField.snd (HasField.snd HasField.self)).2 M _ cs w h⟩
theorem sv_Page_view_o12_2 : SetField Page_view_o12 Raw 3 (fun x z => { x with members := z }) := ⟨by decide, fun M x z cs zs w h hz => (SetField.snd (SetField.snd SetField.self)).2 M _ z cs zs w h hz⟩
theorem hv_Page_view_o12_1 : HasField Page_view_o12 Raw 2 Page_view_o12.number := ⟨by decide, fun M x cs w h => (HasField.snd (HasField.fst HasField.self)).2 M _ cs w h⟩
theorem sv_Page_view_o12_1 : SetField Page_view_o12 Raw 2 (fun x z => { x with number := z }) := ⟨by decide, fun M x z cs zs w h hz => (SetField.snd (SetField.fst SetField.self)).2 M _ z cs zs w h hz⟩
theorem sv_Page_view_o12_0 : SetField Page_view_o12 Doc 0 (fun x z => { x with d := z }) := ⟨by decide, fun M x z cs zs w h hz => (SetField.fst SetField.self).2 M _ z cs zs w h hz⟩
theorem bu63 : BuildAt Tryd.prog 63 [.slice none 0 0, .slice none 0 0, .map none, .map none] [(0, 2), (2, 1), (3, 1)] := ⟨by kernel_rfl, _, Tryd.underlying63, by kernel_rfl⟩
theorem fd63_1 : FieldAt Tryd.prog 63 1 2 := ⟨_, _, Tryd.underlying63, rfl, rfl, by kernel_rfl⟩
theorem hfd63_1 : HasField Page_view (GMap Str Int) 2 Page_view.number := ⟨by decide, fun M x cs w h => (HasField.snd (HasField.fst HasField.self)).2 M _ cs w h⟩
theorem tr60 : Ty Tryd.prog 60 Raw := ⟨⟨_, Tryd.underlying60, rfl⟩, by kernel_rfl⟩
theorem mo60 : MapOf Tryd.prog 60 9 3 (MKey.desc Str) := ⟨Tryd.underlying60, Tryd.underlying9⟩
theorem fd43_5 : FieldAt Tryd.prog 43 5 8 := ⟨_, _, Tryd.underlying43, rfl, rfl, by kernel_rfl⟩
theorem hfd43_5 : HasField DNode Str 8 DNode.Parent := ⟨by decide, fun M x cs w h => (HasField.snd (HasField.snd (HasField.snd (HasField.snd (HasField.snd (HasField.fst HasField.self)))))).2 M _ cs w h⟩
theorem fd63_2 : FieldAt Tryd.prog 63 2 3 := ⟨_, _, Tryd.underlying63, rfl, rfl, by kernel_rfl⟩
theorem hfd63_2 : HasField Page_view (GMap Str (List Int)) 3 Page_view.members := ⟨by decide, fun M x cs w h => (HasField.snd (HasField.snd HasField.self)).2 M _ cs w h⟩
theorem tr61 : Ty Tryd.prog 61 Raw := ⟨⟨_, Tryd.underlying61, rfl⟩, by kernel_rfl⟩
theorem zo59 : ZeroOf Tryd.prog 59 ([] : (List Int)) := ⟨[.slice none 0 0], by kernel_rfl, fun _ _ => ⟨none, 0, rfl, Nat.le_refl _, by decide, rfl⟩⟩
theorem mo61 : MapOf Tryd.prog 61 9 59 (MKey.desc Str) := ⟨Tryd.underlying61, Tryd.underlying9⟩
theorem zraw59 : ZeroOf Tryd.prog 59 (⟨.slice none 0 0⟩ : Raw) := ⟨[.slice none 0 0], by kernel_rfl, fun _ _ => ⟨rfl, rfl, rfl⟩⟩
theorem sl59 : SliceOf Tryd.prog 59 3 := Tryd.underlying59
theorem hz3 : HasZero Tryd.prog 3 := by unfold HasZero; kernel_rfl
theorem rk59 : RowOK Tryd.prog 59 3 Int := ⟨sl59, ty3, by kernel_rfl⟩
theorem fnok50 : FnOK Tryd.prog 50 := ⟨_, Tryd.func50, by kernel_rfl, by kernel_rfl⟩
theorem fd63_0 : FieldAt Tryd.prog 63 0 0 := ⟨_, _, Tryd.underlying63, rfl, rfl, by kernel_rfl⟩
theorem hfd63_0 : HasField Page_view Doc 0 Page_view.d := ⟨by decide, fun M x cs w h => (HasField.fst HasField.self).2 M _ cs w h⟩
theorem ty60 : Ty Tryd.prog 60 (GMap Str Int) := ⟨⟨_, Tryd.underlying60, rfl⟩, by kernel_rfl⟩
theorem zo3 : ZeroOf Tryd.prog 3 (0 : Int) := ⟨[.int .i64 0], by kernel_rfl, fun _ _ => ⟨rfl, by decide⟩⟩
theorem fnok95 : FnOK Tryd.prog 95 := ⟨_, Tryd.func95, by kernel_rfl, by kernel_rfl⟩
theorem fnok114 : FnOK Tryd.prog 114 := ⟨_, Tryd.func114, by kernel_rfl, by kernel_rfl⟩
theorem ty61 : Ty Tryd.prog 61 (GMap Str (List Int)) := ⟨⟨_, Tryd.underlying61, rfl⟩, by kernel_rfl⟩
theorem ty96 : Ty Tryd.prog 96 DEdge := ⟨⟨_, Tryd.underlying96, rfl⟩, by kernel_rfl⟩
theorem zo96 : ZeroOf Tryd.prog 96 (⟨Str.nil, (⟨Str.nil, (0 : Int), (0 : Int)⟩ : DEnd), (⟨Str.nil, (0 : Int), (0 : Int)⟩ : DEnd), ([] : (List Point)), Str.nil, Str.nil⟩ : DEdge) := ⟨[.string ByteArray.empty, .string ByteArray.empty, .int .i64 0, .int .i64 0, .string ByteArray.empty, .int .i64 0, .int .i64 0, .slice none 0 0, .string ByteArray.empty, .string ByteArray.empty], by kernel_rfl, fun _ _ => ⟨[_], _, rfl, str_zero, ⟨[_, _, _], _, rfl, ⟨[_], _, rfl, str_zero, ⟨[_], _, rfl, ⟨rfl, by decide⟩, ⟨rfl, by decide⟩⟩⟩, ⟨[_, _, _], _, rfl, ⟨[_], _, rfl, str_zero, ⟨[_], _, rfl, ⟨rfl, by decide⟩, ⟨rfl, by decide⟩⟩⟩, ⟨[_], _, rfl, ⟨none, 0, rfl, Nat.le_refl _, by decide, rfl⟩, ⟨[_], _, rfl, str_zero, str_zero⟩⟩⟩⟩⟩⟩
theorem fd96_0 : FieldAt Tryd.prog 96 0 0 := ⟨_, _, Tryd.underlying96, rfl, rfl, by kernel_rfl⟩
theorem hfd96_0 : HasField DEdge Str 0 DEdge.Id := ⟨by decide, fun M x cs w h => (HasField.fst HasField.self).2 M _ cs w h⟩
theorem fnok51 : FnOK Tryd.prog 51 := ⟨_, Tryd.func51, by kernel_rfl, by kernel_rfl⟩
theorem fd96_1 : FieldAt Tryd.prog 96 1 1 := ⟨_, _, Tryd.underlying96, rfl, rfl, by kernel_rfl⟩
theorem hfd96_1 : HasField DEdge DEnd 1 DEdge.From := ⟨by decide, fun M x cs w h => (HasField.snd (HasField.fst HasField.self)).2 M _ cs w h⟩
theorem ty93 : Ty Tryd.prog 93 DEnd := ⟨⟨_, Tryd.underlying93, rfl⟩, by kernel_rfl⟩
theorem fd96_2 : FieldAt Tryd.prog 96 2 4 := ⟨_, _, Tryd.underlying96, rfl, rfl, by kernel_rfl⟩
theorem hfd96_2 : HasField DEdge DEnd 4 DEdge.To := ⟨by decide, fun M x cs w h => (HasField.snd (HasField.snd (HasField.fst HasField.self))).2 M _ cs w h⟩
theorem sl127 : SliceOf Tryd.prog 127 93 := Tryd.underlying127
theorem hz93 : HasZero Tryd.prog 93 := by unfold HasZero; kernel_rfl
theorem zo93 : ZeroOf Tryd.prog 93 (⟨Str.nil, (0 : Int), (0 : Int)⟩ : DEnd) := ⟨[.string ByteArray.empty, .int .i64 0, .int .i64 0], by kernel_rfl, fun _ _ => ⟨[_], _, rfl, str_zero, ⟨[_], _, rfl, ⟨rfl, by decide⟩, ⟨rfl, by decide⟩⟩⟩⟩
theorem fnok96 : FnOK Tryd.prog 96 := ⟨_, Tryd.func96, by kernel_rfl, by kernel_rfl⟩
theorem fd93_0 : FieldAt Tryd.prog 93 0 0 := ⟨_, _, Tryd.underlying93, rfl, rfl, by kernel_rfl⟩
theorem hfd93_0 : HasField DEnd Str 0 DEnd.Node := ⟨by decide, fun M x cs w h => (HasField.fst HasField.self).2 M _ cs w h⟩
theorem fd93_1 : FieldAt Tryd.prog 93 1 1 := ⟨_, _, Tryd.underlying93, rfl, rfl, by kernel_rfl⟩
theorem hfd93_1 : HasField DEnd Int 1 DEnd.Side := ⟨by decide, fun M x cs w h => (HasField.snd (HasField.fst HasField.self)).2 M _ cs w h⟩
theorem fd93_2 : FieldAt Tryd.prog 93 2 2 := ⟨_, _, Tryd.underlying93, rfl, rfl, by kernel_rfl⟩
theorem hfd93_2 : HasField DEnd Int 2 DEnd.At := ⟨by decide, fun M x cs w h => (HasField.snd (HasField.snd HasField.self)).2 M _ cs w h⟩
theorem fd96_3 : FieldAt Tryd.prog 96 3 7 := ⟨_, _, Tryd.underlying96, rfl, rfl, by kernel_rfl⟩
theorem hfd96_3 : HasField DEdge (List Point) 7 DEdge.Bends := ⟨by decide, fun M x cs w h => (HasField.snd (HasField.snd (HasField.snd (HasField.fst HasField.self)))).2 M _ cs w h⟩
theorem ty94 : Ty Tryd.prog 94 (List Point) := ⟨⟨_, Tryd.underlying94, rfl⟩, by kernel_rfl⟩
theorem sl94 : SliceOf Tryd.prog 94 118 := Tryd.underlying94
theorem fnok97 : FnOK Tryd.prog 97 := ⟨_, Tryd.func97, by kernel_rfl, by kernel_rfl⟩
theorem fnok115 : FnOK Tryd.prog 115 := ⟨_, Tryd.func115, by kernel_rfl, by kernel_rfl⟩
theorem ty118 : Ty Tryd.prog 118 Point := ⟨⟨_, Tryd.underlying118, rfl⟩, by kernel_rfl⟩
theorem zo118 : ZeroOf Tryd.prog 118 (⟨(0 : Int), (0 : Int)⟩ : Point) := ⟨[.int .i64 0, .int .i64 0], by kernel_rfl, fun _ _ => ⟨[_], _, rfl, ⟨rfl, by decide⟩, ⟨rfl, by decide⟩⟩⟩
theorem fnok127 : FnOK Tryd.prog 127 := ⟨_, Tryd.func127, by kernel_rfl, by kernel_rfl⟩
theorem fd118_0 : FieldAt Tryd.prog 118 0 0 := ⟨_, _, Tryd.underlying118, rfl, rfl, by kernel_rfl⟩
theorem hfd118_0 : HasField Point Int 0 Point.X := ⟨by decide, fun M x cs w h => (HasField.fst HasField.self).2 M _ cs w h⟩
theorem fd118_1 : FieldAt Tryd.prog 118 1 1 := ⟨_, _, Tryd.underlying118, rfl, rfl, by kernel_rfl⟩
theorem hfd118_1 : HasField Point Int 1 Point.Y := ⟨by decide, fun M x cs w h => (HasField.snd HasField.self).2 M _ cs w h⟩
theorem fd96_4 : FieldAt Tryd.prog 96 4 8 := ⟨_, _, Tryd.underlying96, rfl, rfl, by kernel_rfl⟩
theorem hfd96_4 : HasField DEdge Str 8 DEdge.Text := ⟨by decide, fun M x cs w h => (HasField.snd (HasField.snd (HasField.snd (HasField.snd (HasField.fst HasField.self))))).2 M _ cs w h⟩
theorem fd96_5 : FieldAt Tryd.prog 96 5 9 := ⟨_, _, Tryd.underlying96, rfl, rfl, by kernel_rfl⟩
theorem hfd96_5 : HasField DEdge Str 9 DEdge.Class := ⟨by decide, fun M x cs w h => (HasField.snd (HasField.snd (HasField.snd (HasField.snd (HasField.snd HasField.self))))).2 M _ cs w h⟩
theorem fnok52 : FnOK Tryd.prog 52 := ⟨_, Tryd.func52, by kernel_rfl, by kernel_rfl⟩
theorem zo41 : ZeroOf Tryd.prog 41 (⟨(0 : Int), (0 : Int), (0 : Int), (0 : Int)⟩ : Box) := ⟨[.int .i64 0, .int .i64 0, .int .i64 0, .int .i64 0], by kernel_rfl, fun _ _ => ⟨[_], _, rfl, ⟨rfl, by decide⟩, ⟨[_], _, rfl, ⟨rfl, by decide⟩, ⟨[_], _, rfl, ⟨rfl, by decide⟩, ⟨rfl, by decide⟩⟩⟩⟩⟩
theorem sl51 : SliceOf Tryd.prog 51 41 := Tryd.underlying51
theorem hz41 : HasZero Tryd.prog 41 := by unfold HasZero; kernel_rfl
theorem rk51 : RowOK Tryd.prog 51 41 Box := ⟨sl51, ty41, by kernel_rfl⟩
theorem fnok84 : FnOK Tryd.prog 84 := ⟨_, Tryd.func84, by kernel_rfl, by kernel_rfl⟩
theorem fnok108 : FnOK Tryd.prog 108 := ⟨_, Tryd.func108, by kernel_rfl, by kernel_rfl⟩
theorem sf41_3 : SetField Box Int 3 (fun x z => { x with H := z }) := ⟨by decide, fun M x z cs zs w h hz => (SetField.snd (SetField.snd (SetField.snd SetField.self))).2 M _ z cs zs w h hz⟩
theorem sf41_2 : SetField Box Int 2 (fun x z => { x with W_ := z }) := ⟨by decide, fun M x z cs zs w h hz => (SetField.snd (SetField.snd (SetField.fst SetField.self))).2 M _ z cs zs w h hz⟩
theorem sf41_1 : SetField Box Int 1 (fun x z => { x with Y := z }) := ⟨by decide, fun M x z cs zs w h hz => (SetField.snd (SetField.fst SetField.self)).2 M _ z cs zs w h hz⟩
theorem sf41_0 : SetField Box Int 0 (fun x z => { x with X := z }) := ⟨by decide, fun M x z cs zs w h hz => (SetField.fst SetField.self).2 M _ z cs zs w h hz⟩
theorem fnok98 : FnOK Tryd.prog 98 := ⟨_, Tryd.func98, by kernel_rfl, by kernel_rfl⟩
theorem fnok17 : FnOK Tryd.prog 17 := ⟨_, Tryd.func17, by kernel_rfl, by kernel_rfl⟩
theorem fnok35 : FnOK Tryd.prog 35 := ⟨_, Tryd.func35, by kernel_rfl, by kernel_rfl⟩
theorem fnok63 : FnOK Tryd.prog 63 := ⟨_, Tryd.func63, by kernel_rfl, by kernel_rfl⟩
theorem sl73 : SliceOf Tryd.prog 73 4 := Tryd.underlying73
theorem ty4 : Ty Tryd.prog 4 Bool := ⟨⟨_, Tryd.underlying4, rfl⟩, by kernel_rfl⟩
theorem rk73 : RowOK Tryd.prog 73 4 Bool := ⟨sl73, ty4, by kernel_rfl⟩
theorem sl35 : SliceOf Tryd.prog 35 9 := Tryd.underlying35
theorem hz9 : HasZero Tryd.prog 9 := by unfold HasZero; kernel_rfl
theorem rk35 : RowOK Tryd.prog 35 9 Str := ⟨sl35, ty9, by kernel_rfl⟩
theorem fnok18 : FnOK Tryd.prog 18 := ⟨_, Tryd.func18, by kernel_rfl, by kernel_rfl⟩
theorem fnok19 : FnOK Tryd.prog 19 := ⟨_, Tryd.func19, by kernel_rfl, by kernel_rfl⟩
theorem zo25 : ZeroOf Tryd.prog 25 (⟨([] : (List DNode)), ([] : (List DEdge))⟩ : Doc) := ⟨[.slice none 0 0, .slice none 0 0], by kernel_rfl, fun _ _ => ⟨[_], _, rfl, ⟨none, 0, rfl, Nat.le_refl _, by decide, rfl⟩, ⟨none, 0, rfl, Nat.le_refl _, by decide, rfl⟩⟩⟩
theorem fnok36 : FnOK Tryd.prog 36 := ⟨_, Tryd.func36, by kernel_rfl, by kernel_rfl⟩
theorem fnok53 : FnOK Tryd.prog 53 := ⟨_, Tryd.func53, by kernel_rfl, by kernel_rfl⟩
theorem sf102_0 : SetField Page_step (List Int) 0 (fun x z => { x with roots := z }) := ⟨by decide, fun M x z cs zs w h hz => (SetField.fst SetField.self).2 M _ z cs zs w h hz⟩
theorem bu102 : BuildAt Tryd.prog 102 [.slice none 0 0, .int .i64 0, .int .i64 0] [(0, 1), (1, 1), (2, 1)] := ⟨by kernel_rfl, _, Tryd.underlying102, by kernel_rfl⟩
theorem zc102 : ∀ (M : MSet) (w : World), Rep.cells M (⟨([] : (List Int)), (0 : Int), (0 : Int)⟩ : Page_step) [.slice none 0 0, .int .i64 0, .int .i64 0] w := fun _ _ => ⟨[_], _, rfl, ⟨none, 0, rfl, Nat.le_refl _, by decide, rfl⟩, ⟨[_], _, rfl, ⟨rfl, by decide⟩, ⟨rfl, by decide⟩⟩⟩
theorem zo102 : ZeroOf Tryd.prog 102 (⟨([] : (List Int)), (0 : Int), (0 : Int)⟩ : Page_step) := ⟨[.slice none 0 0, .int .i64 0, .int .i64 0], by kernel_rfl, fun _ _ => ⟨[_], _, rfl, ⟨none, 0, rfl, Nat.le_refl _, by decide, rfl⟩, ⟨[_], _, rfl, ⟨rfl, by decide⟩, ⟨rfl, by decide⟩⟩⟩⟩
theorem ty102 : Ty Tryd.prog 102 Page_step := ⟨⟨_, Tryd.underlying102, rfl⟩, by kernel_rfl⟩
theorem fd102_1 : FieldAt Tryd.prog 102 1 1 := ⟨_, _, Tryd.underlying102, rfl, rfl, by kernel_rfl⟩
theorem hfd102_1 : HasField Page_step Int 1 Page_step.dx := ⟨by decide, fun M x cs w h => (HasField.snd (HasField.fst HasField.self)).2 M _ cs w h⟩
theorem sf102_1 : SetField Page_step Int 1 (fun x z => { x with dx := z }) := ⟨by decide, fun M x z cs zs w h hz => (SetField.snd (SetField.fst SetField.self)).2 M _ z cs zs w h hz⟩
theorem fd102_2 : FieldAt Tryd.prog 102 2 2 := ⟨_, _, Tryd.underlying102, rfl, rfl, by kernel_rfl⟩
theorem hfd102_2 : HasField Page_step Int 2 Page_step.dy := ⟨by decide, fun M x cs w h => (HasField.snd (HasField.snd HasField.self)).2 M _ cs w h⟩
theorem sf102_2 : SetField Page_step Int 2 (fun x z => { x with dy := z }) := ⟨by decide, fun M x z cs zs w h hz => (SetField.snd (SetField.snd SetField.self)).2 M _ z cs zs w h hz⟩
theorem sl99 : SliceOf Tryd.prog 99 102 := Tryd.underlying99
theorem hz102 : HasZero Tryd.prog 102 := by unfold HasZero; kernel_rfl
theorem rk99 : RowOK Tryd.prog 99 102 Page_step := ⟨sl99, ty102, by kernel_rfl⟩
theorem fnok54 : FnOK Tryd.prog 54 := ⟨_, Tryd.func54, by kernel_rfl, by kernel_rfl⟩
theorem fnok99 : FnOK Tryd.prog 99 := ⟨_, Tryd.func99, by kernel_rfl, by kernel_rfl⟩
theorem fd102_0 : FieldAt Tryd.prog 102 0 0 := ⟨_, _, Tryd.underlying102, rfl, rfl, by kernel_rfl⟩
theorem hfd102_0 : HasField Page_step (List Int) 0 Page_step.roots := ⟨by decide, fun M x cs w h => (HasField.fst HasField.self).2 M _ cs w h⟩
theorem ty59 : Ty Tryd.prog 59 (List Int) := ⟨⟨_, Tryd.underlying59, rfl⟩, by kernel_rfl⟩
theorem fnok38 : FnOK Tryd.prog 38 := ⟨_, Tryd.func38, by kernel_rfl, by kernel_rfl⟩
theorem fd43_6 : FieldAt Tryd.prog 43 6 9 := ⟨_, _, Tryd.underlying43, rfl, rfl, by kernel_rfl⟩
theorem hfd43_6 : HasField DNode Bool 9 DNode.Locked := ⟨by decide, fun M x cs w h => (HasField.snd (HasField.snd (HasField.snd (HasField.snd (HasField.snd (HasField.snd HasField.self)))))).2 M _ cs w h⟩
theorem fnok37 : FnOK Tryd.prog 37 := ⟨_, Tryd.func37, by kernel_rfl, by kernel_rfl⟩
theorem fnok25 : FnOK Tryd.prog 25 := ⟨_, Tryd.func25, by kernel_rfl, by kernel_rfl⟩
theorem fnok64 : FnOK Tryd.prog 64 := ⟨_, Tryd.func64, by kernel_rfl, by kernel_rfl⟩
theorem rk22 : RowOK Tryd.prog 22 43 DNode := ⟨sl22, ty43, by kernel_rfl⟩
theorem fnok65 : FnOK Tryd.prog 65 := ⟨_, Tryd.func65, by kernel_rfl, by kernel_rfl⟩
theorem hz96 : HasZero Tryd.prog 96 := by unfold HasZero; kernel_rfl
theorem rk23 : RowOK Tryd.prog 23 96 DEdge := ⟨sl23, ty96, by kernel_rfl⟩
theorem sv_Doc_o0_0 : SetField Doc_o0 Raw 0 (fun x z => { x with Nodes := z }) := ⟨by decide, fun M x z cs zs w h hz => (SetField.fst SetField.self).2 M _ z cs zs w h hz⟩
theorem hv_Doc_o01_1 : HasField Doc_o01 Raw 1 Doc_o01.Edges := ⟨by decide, fun M x cs w h => (HasField.snd HasField.self).2 M _ cs w h⟩
theorem sv_Doc_o01_1 : SetField Doc_o01 Raw 1 (fun x z => { x with Edges := z }) := ⟨by decide, fun M x z cs zs w h hz => (SetField.snd SetField.self).2 M _ z cs zs w h hz⟩
theorem tr23 : Ty Tryd.prog 23 Raw := ⟨⟨_, Tryd.underlying23, rfl⟩, by kernel_rfl⟩
theorem fnok66 : FnOK Tryd.prog 66 := ⟨_, Tryd.func66, by kernel_rfl, by kernel_rfl⟩
theorem hz118 : HasZero Tryd.prog 118 := by unfold HasZero; kernel_rfl
theorem rk94 : RowOK Tryd.prog 94 118 Point := ⟨sl94, ty118, by kernel_rfl⟩
theorem tyv_Doc_o01 : Ty Tryd.prog 25 Doc_o01 := ⟨⟨_, Tryd.underlying25, rfl⟩, by kernel_rfl⟩
theorem rep_mk_DEdge_o3 {E E2 : Nat} {l : List DEdge} {M D : MSet} {v : Value} {w : World} (h : (rowD E E2 mk_DEdge_o3 DEdge.Bends [] l).p M D v w) (hms : ∀ k, M k → k < w.heap.size) : (rep l).p (fun k => M k ∧ ¬ D k) v w :=
 rowD_rep (α := DEdge) (mk := mk_DEdge_o3) (sub := DEdge.Bends) rfl (fun M a s cs w hc hl => by obtain ⟨c0, q0, e0, h0, c1, q1, e1, h1, c2, q2, e2, h2, c3, q3, e3, h3, c4, q4, e4, h4, h5⟩ := hc; exact ⟨c0, q0, e0, h0, c1, q1, e1, h1, c2, q2, e2, h2, c3, q3, e3, raw_cells rfl rfl h3 hl, c4, q4, e4, h4, h5⟩) h hms
theorem frz_mk_DEdge_o3 {E E2 : Nat} {l : List DEdge} : FrzC (rowD E E2 mk_DEdge_o3 DEdge.Bends [] l) l := fun M D s w h hms => rep_mk_DEdge_o3 h hms
theorem tyv_DEdge_o3 : Ty Tryd.prog 96 DEdge_o3 := ⟨⟨_, Tryd.underlying96, rfl⟩, by kernel_rfl⟩
theorem hv_DEdge_o3_3 : HasField DEdge_o3 Raw 7 DEdge_o3.Bends := ⟨by decide, fun M x cs w h => (HasField.snd (HasField.snd (HasField.snd (HasField.fst HasField.self)))).2 M _ cs w h⟩
theorem sv_DEdge_o3_3 : SetField DEdge_o3 Raw 7 (fun x z => { x with Bends := z }) := ⟨by decide, fun M x z cs zs w h hz => (SetField.snd (SetField.snd (SetField.snd (SetField.fst SetField.self)))).2 M _ z cs zs w h hz⟩
theorem tr94 : Ty Tryd.prog 94 Raw := ⟨⟨_, Tryd.underlying94, rfl⟩, by kernel_rfl⟩
theorem parts_mk_DEdge_o3 : ∀ (M : MSet) (a : DEdge) (cs : List Value) (w : World), Rep.cells M a cs w → ∃ s, Rep.cells M (mk_DEdge_o3 a s) cs w ∧ (rep (DEdge.Bends a)).p M s w := fun M a cs w hc => by
 obtain ⟨c0, q0, e0, h0, c1, q1, e1, h1, c2, q2, e2, h2, c3, q3, e3, h3, c4, q4, e4, h4, h5⟩ := hc
 obtain ⟨v, hcv, hv⟩ := cells_one rfl rfl h3
 refine ⟨v, ⟨c0, q0, e0, h0, c1, q1, e1, h1, c2, q2, e2, h2, c3, q3, e3, hv, c4, q4, e4, h4, h5⟩, _, h3, ?_⟩
 rw [hcv]; rfl
theorem fnok100 : FnOK Tryd.prog 100 := ⟨_, Tryd.func100, by kernel_rfl, by kernel_rfl⟩
theorem tr22 : Ty Tryd.prog 22 Raw := ⟨⟨_, Tryd.underlying22, rfl⟩, by kernel_rfl⟩
theorem hv_Doc_o01_0 : HasField Doc_o01 Raw 0 Doc_o01.Nodes := ⟨by decide, fun M x cs w h => (HasField.fst HasField.self).2 M _ cs w h⟩
theorem sf43_2 : SetField DNode Box 2 (fun x z => { x with Box := z }) := ⟨by decide, fun M x z cs zs w h hz => (SetField.snd (SetField.snd (SetField.fst SetField.self))).2 M _ z cs zs w h hz⟩
theorem hv_DEdge_o3_1 : HasField DEdge_o3 DEnd 1 DEdge_o3.From := ⟨by decide, fun M x cs w h => (HasField.snd (HasField.fst HasField.self)).2 M _ cs w h⟩
theorem hv_DEdge_o3_2 : HasField DEdge_o3 DEnd 4 DEdge_o3.To := ⟨by decide, fun M x cs w h => (HasField.snd (HasField.snd (HasField.fst HasField.self))).2 M _ cs w h⟩
theorem sf118_1 : SetField Point Int 1 (fun x z => { x with Y := z }) := ⟨by decide, fun M x z cs zs w h hz => (SetField.snd SetField.self).2 M _ z cs zs w h hz⟩
theorem sf118_0 : SetField Point Int 0 (fun x z => { x with X := z }) := ⟨by decide, fun M x z cs zs w h hz => (SetField.fst SetField.self).2 M _ z cs zs w h hz⟩
theorem bu118 : BuildAt Tryd.prog 118 [.int .i64 0, .int .i64 0] [(0, 1), (1, 1)] := ⟨by kernel_rfl, _, Tryd.underlying118, by kernel_rfl⟩
theorem zc118 : ∀ (M : MSet) (w : World), Rep.cells M (⟨(0 : Int), (0 : Int)⟩ : Point) [.int .i64 0, .int .i64 0] w := fun _ _ => ⟨[_], _, rfl, ⟨rfl, by decide⟩, ⟨rfl, by decide⟩⟩
theorem fnok20 : FnOK Tryd.prog 20 := ⟨_, Tryd.func20, by kernel_rfl, by kernel_rfl⟩
theorem fnok24 : FnOK Tryd.prog 24 := ⟨_, Tryd.func24, by kernel_rfl, by kernel_rfl⟩
theorem fnok21 : FnOK Tryd.prog 21 := ⟨_, Tryd.func21, by kernel_rfl, by kernel_rfl⟩
theorem zo55 : ZeroOf Tryd.prog 55 (none : (Option Page_view)) := ⟨[.pointer none], by kernel_rfl, fun _ _ => ptr_zero⟩
theorem ty55 : Ty Tryd.prog 55 (Option Page_view) := ⟨⟨_, Tryd.underlying55, rfl⟩, by kernel_rfl⟩
theorem fnok55 : FnOK Tryd.prog 55 := ⟨_, Tryd.func55, by kernel_rfl, by kernel_rfl⟩
theorem zr104 : ZeroOf Tryd.prog 104 (⟨.nilFunc⟩ : Raw) := ⟨[.nilFunc], by kernel_rfl, fun _ _ => ⟨rfl, rfl, rfl⟩⟩
theorem tr104 : Ty Tryd.prog 104 Raw := ⟨⟨_, Tryd.underlying104, rfl⟩, by kernel_rfl⟩
theorem fnok56 : FnOK Tryd.prog 56 := ⟨_, Tryd.func56, by kernel_rfl, by kernel_rfl⟩
theorem fnok58 : FnOK Tryd.prog 58 := ⟨_, Tryd.func58, by kernel_rfl, by kernel_rfl⟩
theorem fnok60 : FnOK Tryd.prog 60 := ⟨_, Tryd.func60, by kernel_rfl, by kernel_rfl⟩
theorem fnok102 : FnOK Tryd.prog 102 := ⟨_, Tryd.func102, by kernel_rfl, by kernel_rfl⟩
theorem fnok59 : FnOK Tryd.prog 59 := ⟨_, Tryd.func59, by kernel_rfl, by kernel_rfl⟩
theorem fnok57 : FnOK Tryd.prog 57 := ⟨_, Tryd.func57, by kernel_rfl, by kernel_rfl⟩
theorem fnok101 : FnOK Tryd.prog 101 := ⟨_, Tryd.func101, by kernel_rfl, by kernel_rfl⟩
theorem fnok116 : FnOK Tryd.prog 116 := ⟨_, Tryd.func116, by kernel_rfl, by kernel_rfl⟩
theorem fnok117 : FnOK Tryd.prog 117 := ⟨_, Tryd.func117, by kernel_rfl, by kernel_rfl⟩
theorem fnok128 : FnOK Tryd.prog 128 := ⟨_, Tryd.func128, by kernel_rfl, by kernel_rfl⟩
theorem fnok134 : FnOK Tryd.prog 134 := ⟨_, Tryd.func134, by kernel_rfl, by kernel_rfl⟩
theorem fnok61 : FnOK Tryd.prog 61 := ⟨_, Tryd.func61, by kernel_rfl, by kernel_rfl⟩
theorem mo110 : MapOf Tryd.prog 110 3 3 (MKey.desc Int) := ⟨Tryd.underlying110, Tryd.underlying3⟩
theorem fnok22 : FnOK Tryd.prog 22 := ⟨_, Tryd.func22, by kernel_rfl, by kernel_rfl⟩
theorem fnok62 : FnOK Tryd.prog 62 := ⟨_, Tryd.func62, by kernel_rfl, by kernel_rfl⟩
theorem fnok103 : FnOK Tryd.prog 103 := ⟨_, Tryd.func103, by kernel_rfl, by kernel_rfl⟩
theorem fnok104 : FnOK Tryd.prog 104 := ⟨_, Tryd.func104, by kernel_rfl, by kernel_rfl⟩
theorem fnok118 : FnOK Tryd.prog 118 := ⟨_, Tryd.func118, by kernel_rfl, by kernel_rfl⟩
theorem fnok129 : FnOK Tryd.prog 129 := ⟨_, Tryd.func129, by kernel_rfl, by kernel_rfl⟩
theorem fnok23 : FnOK Tryd.prog 23 := ⟨_, Tryd.func23, by kernel_rfl, by kernel_rfl⟩
end Go.Proofs.YtclcheggnlhamaaDoor
