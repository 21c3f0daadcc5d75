/-
  Closed facts on the program.
-/
import Derived.Test.YtegjicmejjfgfaaRows
import Derived.Test.YtegjicmejjfgfaaLanLi1
set_option maxRecDepth 100000
set_option linter.unusedSimpArgs false
set_option linter.unusedVariables false
namespace Go.Proofs.Ytegjicmejjfgfaa
open Go Go.DB Go.RowKit

theorem mixed : Try.prog.follows .mixedOrders = true := by kernel_rfl

theorem fnok4 : FnOK Try.prog 4 := ⟨_, Try.func4, by kernel_rfl, by kernel_rfl⟩
theorem fnok20 : FnOK Try.prog 20 := ⟨_, Try.func20, by kernel_rfl, by kernel_rfl⟩
theorem ty41 : Ty Try.prog 41 (List Lane) := ⟨⟨_, Try.underlying41, rfl⟩, by kernel_rfl⟩
theorem sl41 : SliceOf Try.prog 41 46 := Try.underlying41
theorem fnok57 : FnOK Try.prog 57 := ⟨_, Try.func57, by kernel_rfl, by kernel_rfl⟩
theorem sl42 : SliceOf Try.prog 42 3 := Try.underlying42
theorem ty3 : Ty Try.prog 3 Int := ⟨⟨_, Try.underlying3, rfl⟩, by kernel_rfl⟩
theorem rk42 : RowOK Try.prog 42 3 Int := ⟨sl42, ty3, by kernel_rfl⟩
theorem zo3 : ZeroOf Try.prog 3 (0 : Int) := ⟨[.int .i64 0], by kernel_rfl, fun _ _ => ⟨rfl, by decide⟩⟩
theorem ty46 : Ty Try.prog 46 Lane := ⟨⟨_, Try.underlying46, rfl⟩, by kernel_rfl⟩
theorem zo46 : ZeroOf Try.prog 46 (⟨(0 : Int), (0 : Int)⟩ : Lane) := ⟨[.int .i64 0, .int .i64 0], by kernel_rfl, fun _ _ => ⟨[_], _, rfl, ⟨rfl, by decide⟩, ⟨rfl, by decide⟩⟩⟩
theorem fd46_0 : FieldAt Try.prog 46 0 0 := ⟨_, _, Try.underlying46, rfl, rfl, by kernel_rfl⟩
theorem hfd46_0 : HasField Lane Int 0 Lane.From := ⟨by decide, fun M x cs w h => (HasField.fst HasField.self).2 M _ cs w h⟩
theorem fd46_1 : FieldAt Try.prog 46 1 1 := ⟨_, _, Try.underlying46, rfl, rfl, by kernel_rfl⟩
theorem hfd46_1 : HasField Lane Int 1 Lane.To := ⟨by decide, fun M x cs w h => (HasField.snd HasField.self).2 M _ cs w h⟩
theorem fnok59 : FnOK Try.prog 59 := ⟨_, Try.func59, by kernel_rfl, by kernel_rfl⟩
theorem fnok60 : FnOK Try.prog 60 := ⟨_, Try.func60, by kernel_rfl, by kernel_rfl⟩
theorem fnok99 : FnOK Try.prog 99 := ⟨_, Try.func99, by kernel_rfl, by kernel_rfl⟩
theorem fnok58 : FnOK Try.prog 58 := ⟨_, Try.func58, by kernel_rfl, by kernel_rfl⟩
theorem fnok98 : FnOK Try.prog 98 := ⟨_, Try.func98, by kernel_rfl, by kernel_rfl⟩
theorem fnok121 : FnOK Try.prog 121 := ⟨_, Try.func121, by kernel_rfl, by kernel_rfl⟩
theorem fnok122 : FnOK Try.prog 122 := ⟨_, Try.func122, by kernel_rfl, by kernel_rfl⟩
theorem fnok129 : FnOK Try.prog 129 := ⟨_, Try.func129, by kernel_rfl, by kernel_rfl⟩
theorem fnok140 : FnOK Try.prog 140 := ⟨_, Try.func140, by kernel_rfl, by kernel_rfl⟩
theorem fnok62 : FnOK Try.prog 62 := ⟨_, Try.func62, by kernel_rfl, by kernel_rfl⟩
theorem fnok61 : FnOK Try.prog 61 := ⟨_, Try.func61, by kernel_rfl, by kernel_rfl⟩
theorem hz3 : HasZero Try.prog 3 := by unfold HasZero; kernel_rfl
theorem fnok12 : FnOK Try.prog 12 := ⟨_, Try.func12, by kernel_rfl, by kernel_rfl⟩
theorem fnok13 : FnOK Try.prog 13 := ⟨_, Try.func13, by kernel_rfl, by kernel_rfl⟩
theorem sl81 : SliceOf Try.prog 81 26 := Try.underlying81
theorem ty26 : Ty Try.prog 26 Int := ⟨⟨_, Try.underlying26, rfl⟩, by kernel_rfl⟩
theorem hz26 : HasZero Try.prog 26 := by unfold HasZero; kernel_rfl
theorem fnok10 : FnOK Try.prog 10 := ⟨_, Try.func10, by kernel_rfl, by kernel_rfl⟩
theorem fnok17 : FnOK Try.prog 17 := ⟨_, Try.func17, by kernel_rfl, by kernel_rfl⟩
theorem sf53_0 : SetField Point Int 0 (fun x z => { x with X := z }) := ⟨by decide, fun M x z cs zs w h hz => (SetField.fst SetField.self).2 M _ z cs zs w h hz⟩
theorem bu53 : BuildAt Try.prog 53 [.int .i64 0, .int .i64 0] [(0, 1), (1, 1)] := ⟨by kernel_rfl, _, Try.underlying53, by kernel_rfl⟩
theorem zc53 : ∀ (M : MSet) (w : World), Rep.cells M (⟨(0 : Int), (0 : Int)⟩ : Point) [.int .i64 0, .int .i64 0] w := fun _ _ => ⟨[_], _, rfl, ⟨rfl, by decide⟩, ⟨rfl, by decide⟩⟩
theorem sf55_5 : SetField Task Int 7 (fun x z => { x with Clear := z }) := ⟨by decide, fun M x z cs zs w h hz => (SetField.snd (SetField.snd (SetField.snd (SetField.snd (SetField.snd SetField.self))))).2 M _ z cs zs w h hz⟩
theorem sf55_3 : SetField Task Int 5 (fun x z => { x with ToSide := z }) := ⟨by decide, fun M x z cs zs w h hz => (SetField.snd (SetField.snd (SetField.snd (SetField.fst SetField.self)))).2 M _ z cs zs w h hz⟩
theorem sf55_2 : SetField Task Point 3 (fun x z => { x with To := z }) := ⟨by decide, fun M x z cs zs w h hz => (SetField.snd (SetField.snd (SetField.fst SetField.self))).2 M _ z cs zs w h hz⟩
theorem sf55_1 : SetField Task Int 2 (fun x z => { x with FromSide := z }) := ⟨by decide, fun M x z cs zs w h hz => (SetField.snd (SetField.fst SetField.self)).2 M _ z cs zs w h hz⟩
theorem bu55 : BuildAt Try.prog 55 [.int .i64 0, .int .i64 0, .int .i64 0, .int .i64 0, .int .i64 0, .int .i64 0, .slice none 0 0, .int .i64 0] [(0, 2), (2, 1), (3, 2), (5, 1), (6, 1), (7, 1)] := ⟨by kernel_rfl, _, Try.underlying55, by kernel_rfl⟩
theorem zc55 : ∀ (M : MSet) (w : World), Rep.cells M (⟨(⟨(0 : Int), (0 : Int)⟩ : Point), (0 : Int), (⟨(0 : Int), (0 : Int)⟩ : Point), (0 : Int), ([] : (List Box)), (0 : Int)⟩ : Task) [.int .i64 0, .int .i64 0, .int .i64 0, .int .i64 0, .int .i64 0, .int .i64 0, .slice none 0 0, .int .i64 0] w := fun _ _ => ⟨[_, _], _, rfl, ⟨[_], _, rfl, ⟨rfl, by decide⟩, ⟨rfl, by decide⟩⟩, ⟨[_], _, rfl, ⟨rfl, by decide⟩, ⟨[_, _], _, rfl, ⟨[_], _, rfl, ⟨rfl, by decide⟩, ⟨rfl, by decide⟩⟩, ⟨[_], _, rfl, ⟨rfl, by decide⟩, ⟨[_], _, rfl, ⟨none, 0, rfl, Nat.le_refl _, by decide, rfl⟩, ⟨rfl, by decide⟩⟩⟩⟩⟩⟩
theorem zo55 : ZeroOf Try.prog 55 (⟨(⟨(0 : Int), (0 : Int)⟩ : Point), (0 : Int), (⟨(0 : Int), (0 : Int)⟩ : Point), (0 : Int), ([] : (List Box)), (0 : Int)⟩ : Task) := ⟨[.int .i64 0, .int .i64 0, .int .i64 0, .int .i64 0, .int .i64 0, .int .i64 0, .slice none 0 0, .int .i64 0], by kernel_rfl, fun _ _ => ⟨[_, _], _, rfl, ⟨[_], _, rfl, ⟨rfl, by decide⟩, ⟨rfl, by decide⟩⟩, ⟨[_], _, rfl, ⟨rfl, by decide⟩, ⟨[_, _], _, rfl, ⟨[_], _, rfl, ⟨rfl, by decide⟩, ⟨rfl, by decide⟩⟩, ⟨[_], _, rfl, ⟨rfl, by decide⟩, ⟨[_], _, rfl, ⟨none, 0, rfl, Nat.le_refl _, by decide, rfl⟩, ⟨rfl, by decide⟩⟩⟩⟩⟩⟩⟩
theorem ty55 : Ty Try.prog 55 Task := ⟨⟨_, Try.underlying55, rfl⟩, by kernel_rfl⟩
theorem fnok27 : FnOK Try.prog 27 := ⟨_, Try.func27, by kernel_rfl, by kernel_rfl⟩
theorem fd55_0 : FieldAt Try.prog 55 0 0 := ⟨_, _, Try.underlying55, rfl, rfl, by kernel_rfl⟩
theorem hfd55_0 : HasField Task Point 0 Task.From := ⟨by decide, fun M x cs w h => (HasField.fst HasField.self).2 M _ cs w h⟩
theorem ty53 : Ty Try.prog 53 Point := ⟨⟨_, Try.underlying53, rfl⟩, by kernel_rfl⟩
theorem fd55_1 : FieldAt Try.prog 55 1 2 := ⟨_, _, Try.underlying55, rfl, rfl, by kernel_rfl⟩
theorem hfd55_1 : HasField Task Int 2 Task.FromSide := ⟨by decide, fun M x cs w h => (HasField.snd (HasField.fst HasField.self)).2 M _ cs w h⟩
theorem sf97_1 : SetField Anon_p_side Int 2 (fun x z => { x with side := z }) := ⟨by decide, fun M x z cs zs w h hz => (SetField.snd SetField.self).2 M _ z cs zs w h hz⟩
theorem sf97_0 : SetField Anon_p_side Point 0 (fun x z => { x with p := z }) := ⟨by decide, fun M x z cs zs w h hz => (SetField.fst SetField.self).2 M _ z cs zs w h hz⟩
theorem bu97 : BuildAt Try.prog 97 [.int .i64 0, .int .i64 0, .int .i64 0] [(0, 2), (2, 1)] := ⟨by kernel_rfl, _, Try.underlying97, by kernel_rfl⟩
theorem zc97 : ∀ (M : MSet) (w : World), Rep.cells M (⟨(⟨(0 : Int), (0 : Int)⟩ : Point), (0 : Int)⟩ : Anon_p_side) [.int .i64 0, .int .i64 0, .int .i64 0] w := fun _ _ => ⟨[_, _], _, rfl, ⟨[_], _, rfl, ⟨rfl, by decide⟩, ⟨rfl, by decide⟩⟩, ⟨rfl, by decide⟩⟩
theorem fd55_2 : FieldAt Try.prog 55 2 3 := ⟨_, _, Try.underlying55, rfl, rfl, by kernel_rfl⟩
theorem hfd55_2 : HasField Task Point 3 Task.To := ⟨by decide, fun M x cs w h => (HasField.snd (HasField.snd (HasField.fst HasField.self))).2 M _ cs w h⟩
theorem fd55_3 : FieldAt Try.prog 55 3 5 := ⟨_, _, Try.underlying55, rfl, rfl, by kernel_rfl⟩
theorem hfd55_3 : HasField Task Int 5 Task.ToSide := ⟨by decide, fun M x cs w h => (HasField.snd (HasField.snd (HasField.snd (HasField.fst HasField.self)))).2 M _ cs w h⟩
theorem sl98 : SliceOf Try.prog 98 97 := Try.underlying98
theorem ty97 : Ty Try.prog 97 Anon_p_side := ⟨⟨_, Try.underlying97, rfl⟩, by kernel_rfl⟩
theorem hz97 : HasZero Try.prog 97 := by unfold HasZero; kernel_rfl
theorem zo97 : ZeroOf Try.prog 97 (⟨(⟨(0 : Int), (0 : Int)⟩ : Point), (0 : Int)⟩ : Anon_p_side) := ⟨[.int .i64 0, .int .i64 0, .int .i64 0], by kernel_rfl, fun _ _ => ⟨[_, _], _, rfl, ⟨[_], _, rfl, ⟨rfl, by decide⟩, ⟨rfl, by decide⟩⟩, ⟨rfl, by decide⟩⟩⟩
theorem fd97_0 : FieldAt Try.prog 97 0 0 := ⟨_, _, Try.underlying97, rfl, rfl, by kernel_rfl⟩
theorem hfd97_0 : HasField Anon_p_side Point 0 Anon_p_side.p := ⟨by decide, fun M x cs w h => (HasField.fst HasField.self).2 M _ cs w h⟩
theorem fnok71 : FnOK Try.prog 71 := ⟨_, Try.func71, by kernel_rfl, by kernel_rfl⟩
theorem fd53_0 : FieldAt Try.prog 53 0 0 := ⟨_, _, Try.underlying53, rfl, rfl, by kernel_rfl⟩
theorem hfd53_0 : HasField Point Int 0 Point.X := ⟨by decide, fun M x cs w h => (HasField.fst HasField.self).2 M _ cs w h⟩
theorem fnok94 : FnOK Try.prog 94 := ⟨_, Try.func94, by kernel_rfl, by kernel_rfl⟩
theorem fd53_1 : FieldAt Try.prog 53 1 1 := ⟨_, _, Try.underlying53, rfl, rfl, by kernel_rfl⟩
theorem hfd53_1 : HasField Point Int 1 Point.Y := ⟨by decide, fun M x cs w h => (HasField.snd HasField.self).2 M _ cs w h⟩
theorem fd97_1 : FieldAt Try.prog 97 1 2 := ⟨_, _, Try.underlying97, rfl, rfl, by kernel_rfl⟩
theorem hfd97_1 : HasField Anon_p_side Int 2 Anon_p_side.side := ⟨by decide, fun M x cs w h => (HasField.snd HasField.self).2 M _ cs w h⟩
theorem fnok72 : FnOK Try.prog 72 := ⟨_, Try.func72, by kernel_rfl, by kernel_rfl⟩
theorem fd55_4 : FieldAt Try.prog 55 4 6 := ⟨_, _, Try.underlying55, rfl, rfl, by kernel_rfl⟩
theorem hfd55_4 : HasField Task (List Box) 6 Task.Walls := ⟨by decide, fun M x cs w h => (HasField.snd (HasField.snd (HasField.snd (HasField.snd (HasField.fst HasField.self))))).2 M _ cs w h⟩
theorem ty23 : Ty Try.prog 23 (List Box) := ⟨⟨_, Try.underlying23, rfl⟩, by kernel_rfl⟩
theorem sl23 : SliceOf Try.prog 23 25 := Try.underlying23
theorem ty25 : Ty Try.prog 25 Box := ⟨⟨_, Try.underlying25, rfl⟩, by kernel_rfl⟩
theorem zo25 : ZeroOf Try.prog 25 (⟨(0 : Int), (0 : Int), (0 : Int), (0 : Int)⟩ : Box) := ⟨[.int .i64 0, .int .i64 0, .int .i64 0, .int .i64 0], by kernel_rfl, fun _ _ => ⟨[_], _, rfl, ⟨rfl, by decide⟩, ⟨[_], _, rfl, ⟨rfl, by decide⟩, ⟨[_], _, rfl, ⟨rfl, by decide⟩, ⟨rfl, by decide⟩⟩⟩⟩⟩
theorem fnok41 : FnOK Try.prog 41 := ⟨_, Try.func41, by kernel_rfl, by kernel_rfl⟩
theorem fd25_0 : FieldAt Try.prog 25 0 0 := ⟨_, _, Try.underlying25, rfl, rfl, by kernel_rfl⟩
theorem hfd25_0 : HasField Box Int 0 Box.X := ⟨by decide, fun M x cs w h => (HasField.fst HasField.self).2 M _ cs w h⟩
theorem fd25_1 : FieldAt Try.prog 25 1 1 := ⟨_, _, Try.underlying25, rfl, rfl, by kernel_rfl⟩
theorem hfd25_1 : HasField Box Int 1 Box.Y := ⟨by decide, fun M x cs w h => (HasField.snd (HasField.fst HasField.self)).2 M _ cs w h⟩
theorem fd25_2 : FieldAt Try.prog 25 2 2 := ⟨_, _, Try.underlying25, rfl, rfl, by kernel_rfl⟩
theorem hfd25_2 : HasField Box Int 2 Box.W_ := ⟨by decide, fun M x cs w h => (HasField.snd (HasField.snd (HasField.fst HasField.self))).2 M _ cs w h⟩
theorem fd25_3 : FieldAt Try.prog 25 3 3 := ⟨_, _, Try.underlying25, rfl, rfl, by kernel_rfl⟩
theorem hfd25_3 : HasField Box Int 3 Box.H := ⟨by decide, fun M x cs w h => (HasField.snd (HasField.snd (HasField.snd HasField.self))).2 M _ cs w h⟩
theorem fd55_5 : FieldAt Try.prog 55 5 7 := ⟨_, _, Try.underlying55, rfl, rfl, by kernel_rfl⟩
theorem hfd55_5 : HasField Task Int 7 Task.Clear := ⟨by decide, fun M x cs w h => (HasField.snd (HasField.snd (HasField.snd (HasField.snd (HasField.snd HasField.self))))).2 M _ cs w h⟩
theorem fnok73 : FnOK Try.prog 73 := ⟨_, Try.func73, by kernel_rfl, by kernel_rfl⟩
theorem zo53 : ZeroOf Try.prog 53 (⟨(0 : Int), (0 : Int)⟩ : Point) := ⟨[.int .i64 0, .int .i64 0], by kernel_rfl, fun _ _ => ⟨[_], _, rfl, ⟨rfl, by decide⟩, ⟨rfl, by decide⟩⟩⟩
theorem fnok102 : FnOK Try.prog 102 := ⟨_, Try.func102, by kernel_rfl, by kernel_rfl⟩
theorem sf53_1 : SetField Point Int 1 (fun x z => { x with Y := z }) := ⟨by decide, fun M x z cs zs w h hz => (SetField.snd SetField.self).2 M _ z cs zs w h hz⟩
theorem ao156 : ArrOf Try.prog 156 4 53 := Try.underlying156
theorem az156 : ArrZero Try.prog 156 ((4 + 1) * Rep.sz Point) := by unfold ArrZero; kernel_rfl
theorem fnok45 : FnOK Try.prog 45 := ⟨_, Try.func45, by kernel_rfl, by kernel_rfl⟩
theorem fnok22 : FnOK Try.prog 22 := ⟨_, Try.func22, by kernel_rfl, by kernel_rfl⟩
theorem fnok63 : FnOK Try.prog 63 := ⟨_, Try.func63, by kernel_rfl, by kernel_rfl⟩
theorem zr42 : ZeroOf Try.prog 42 (⟨.slice none 0 0⟩ : Raw) := ⟨[.slice none 0 0], by kernel_rfl, fun _ _ => ⟨rfl, rfl, rfl⟩⟩
theorem ty42 : Ty Try.prog 42 (List Int) := ⟨⟨_, Try.underlying42, rfl⟩, by kernel_rfl⟩
theorem fnok64 : FnOK Try.prog 64 := ⟨_, Try.func64, by kernel_rfl, by kernel_rfl⟩
theorem fnok65 : FnOK Try.prog 65 := ⟨_, Try.func65, by kernel_rfl, by kernel_rfl⟩
theorem tr42 : Ty Try.prog 42 Raw := ⟨⟨_, Try.underlying42, rfl⟩, by kernel_rfl⟩
theorem fnok21 : FnOK Try.prog 21 := ⟨_, Try.func21, by kernel_rfl, by kernel_rfl⟩
theorem fnok23 : FnOK Try.prog 23 := ⟨_, Try.func23, by kernel_rfl, by kernel_rfl⟩
theorem fnok24 : FnOK Try.prog 24 := ⟨_, Try.func24, by kernel_rfl, by kernel_rfl⟩

end Go.Proofs.Ytegjicmejjfgfaa
