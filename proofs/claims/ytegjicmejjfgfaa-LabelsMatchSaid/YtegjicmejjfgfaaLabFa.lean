/-
  Closed facts on the program.
-/
import Derived.Test.YtegjicmejjfgfaaRows
import Derived.Test.YtegjicmejjfgfaaLabLi1
set_option maxRecDepth 100000
set_option linter.unusedSimpArgs false
set_option linter.unusedVariables false
namespace Go.Proofs.Ytegjicmejjfgfaa
open Go Go.DB Go.RowKit

theorem mixed : Try.prog.follows .mixedOrders = true := by kernel_rfl

theorem fnok3 : FnOK Try.prog 3 := ⟨_, Try.func3, by kernel_rfl, by kernel_rfl⟩
theorem fnok9 : FnOK Try.prog 9 := ⟨_, Try.func9, by kernel_rfl, by kernel_rfl⟩
theorem zo25 : ZeroOf Try.prog 25 (⟨(0 : Int), (0 : Int), (0 : Int), (0 : Int)⟩ : Box) := ⟨[.int .i64 0, .int .i64 0, .int .i64 0, .int .i64 0], by kernel_rfl, fun _ _ => ⟨[_], _, rfl, ⟨rfl, by decide⟩, ⟨[_], _, rfl, ⟨rfl, by decide⟩, ⟨[_], _, rfl, ⟨rfl, by decide⟩, ⟨rfl, by decide⟩⟩⟩⟩⟩
theorem fnok33 : FnOK Try.prog 33 := ⟨_, Try.func33, by kernel_rfl, by kernel_rfl⟩
theorem fnok87 : FnOK Try.prog 87 := ⟨_, Try.func87, by kernel_rfl, by kernel_rfl⟩
theorem fnok69 : FnOK Try.prog 69 := ⟨_, Try.func69, by kernel_rfl, by kernel_rfl⟩
theorem sl22 : SliceOf Try.prog 22 53 := Try.underlying22
theorem fnok100 : FnOK Try.prog 100 := ⟨_, Try.func100, by kernel_rfl, by kernel_rfl⟩
theorem ty53 : Ty Try.prog 53 Point := ⟨⟨_, Try.underlying53, rfl⟩, by kernel_rfl⟩
theorem zo53 : ZeroOf Try.prog 53 (⟨(0 : Int), (0 : Int)⟩ : Point) := ⟨[.int .i64 0, .int .i64 0], by kernel_rfl, fun _ _ => ⟨[_], _, rfl, ⟨rfl, by decide⟩, ⟨rfl, by decide⟩⟩⟩
theorem fnok71 : FnOK Try.prog 71 := ⟨_, Try.func71, by kernel_rfl, by kernel_rfl⟩
theorem fd53_0 : FieldAt Try.prog 53 0 0 := ⟨_, _, Try.underlying53, rfl, rfl, by kernel_rfl⟩
theorem hfd53_0 : HasField Point Int 0 Point.X := ⟨by decide, fun M x cs w h => (HasField.fst HasField.self).2 M _ cs w h⟩
theorem ty3 : Ty Try.prog 3 Int := ⟨⟨_, Try.underlying3, rfl⟩, by kernel_rfl⟩
theorem fnok94 : FnOK Try.prog 94 := ⟨_, Try.func94, by kernel_rfl, by kernel_rfl⟩
theorem fd53_1 : FieldAt Try.prog 53 1 1 := ⟨_, _, Try.underlying53, rfl, rfl, by kernel_rfl⟩
theorem hfd53_1 : HasField Point Int 1 Point.Y := ⟨by decide, fun M x cs w h => (HasField.snd HasField.self).2 M _ cs w h⟩
theorem fnok88 : FnOK Try.prog 88 := ⟨_, Try.func88, by kernel_rfl, by kernel_rfl⟩
theorem fnok93 : FnOK Try.prog 93 := ⟨_, Try.func93, by kernel_rfl, by kernel_rfl⟩
theorem zo3 : ZeroOf Try.prog 3 (0 : Int) := ⟨[.int .i64 0], by kernel_rfl, fun _ _ => ⟨rfl, by decide⟩⟩
theorem bu25 : BuildAt Try.prog 25 [.int .i64 0, .int .i64 0, .int .i64 0, .int .i64 0] [(0, 1), (1, 1), (2, 1), (3, 1)] := ⟨by kernel_rfl, _, Try.underlying25, by kernel_rfl⟩
theorem zc25 : ∀ (M : MSet) (w : World), Rep.cells M (⟨(0 : Int), (0 : Int), (0 : Int), (0 : Int)⟩ : Box) [.int .i64 0, .int .i64 0, .int .i64 0, .int .i64 0] w := fun _ _ => ⟨[_], _, rfl, ⟨rfl, by decide⟩, ⟨[_], _, rfl, ⟨rfl, by decide⟩, ⟨[_], _, rfl, ⟨rfl, by decide⟩, ⟨rfl, by decide⟩⟩⟩⟩
theorem ty25 : Ty Try.prog 25 Box := ⟨⟨_, Try.underlying25, rfl⟩, by kernel_rfl⟩
theorem sl23 : SliceOf Try.prog 23 25 := Try.underlying23
theorem fnok41 : FnOK Try.prog 41 := ⟨_, Try.func41, by kernel_rfl, by kernel_rfl⟩
theorem fd25_0 : FieldAt Try.prog 25 0 0 := ⟨_, _, Try.underlying25, rfl, rfl, by kernel_rfl⟩
theorem hfd25_0 : HasField Box Int 0 Box.X := ⟨by decide, fun M x cs w h => (HasField.fst HasField.self).2 M _ cs w h⟩
theorem fd25_1 : FieldAt Try.prog 25 1 1 := ⟨_, _, Try.underlying25, rfl, rfl, by kernel_rfl⟩
theorem hfd25_1 : HasField Box Int 1 Box.Y := ⟨by decide, fun M x cs w h => (HasField.snd (HasField.fst HasField.self)).2 M _ cs w h⟩
theorem fd25_2 : FieldAt Try.prog 25 2 2 := ⟨_, _, Try.underlying25, rfl, rfl, by kernel_rfl⟩
theorem hfd25_2 : HasField Box Int 2 Box.W_ := ⟨by decide, fun M x cs w h => (HasField.snd (HasField.snd (HasField.fst HasField.self))).2 M _ cs w h⟩
theorem fd25_3 : FieldAt Try.prog 25 3 3 := ⟨_, _, Try.underlying25, rfl, rfl, by kernel_rfl⟩
theorem hfd25_3 : HasField Box Int 3 Box.H := ⟨by decide, fun M x cs w h => (HasField.snd (HasField.snd (HasField.snd HasField.self))).2 M _ cs w h⟩
theorem sf74_2 : SetField Route_tag (List Box) 2 (fun x z => { x with walls := z }) := ⟨by decide, fun M x z cs zs w h hz => (SetField.snd (SetField.snd SetField.self)).2 M _ z cs zs w h hz⟩
theorem sf74_1 : SetField Route_tag Int 1 (fun x z => { x with h_ := z }) := ⟨by decide, fun M x z cs zs w h hz => (SetField.snd (SetField.fst SetField.self)).2 M _ z cs zs w h hz⟩
theorem sf74_0 : SetField Route_tag Int 0 (fun x z => { x with w_ := z }) := ⟨by decide, fun M x z cs zs w h hz => (SetField.fst SetField.self).2 M _ z cs zs w h hz⟩
theorem bu74 : BuildAt Try.prog 74 [.int .i64 0, .int .i64 0, .slice none 0 0] [(0, 1), (1, 1), (2, 1)] := ⟨by kernel_rfl, _, Try.underlying74, by kernel_rfl⟩
theorem zc74 : ∀ (M : MSet) (w : World), Rep.cells M (⟨(0 : Int), (0 : Int), ([] : (List Box))⟩ : Route_tag) [.int .i64 0, .int .i64 0, .slice none 0 0] w := fun _ _ => ⟨[_], _, rfl, ⟨rfl, by decide⟩, ⟨[_], _, rfl, ⟨rfl, by decide⟩, ⟨none, 0, rfl, Nat.le_refl _, by decide, rfl⟩⟩⟩
theorem zo74 : ZeroOf Try.prog 74 (⟨(0 : Int), (0 : Int), ([] : (List Box))⟩ : Route_tag) := ⟨[.int .i64 0, .int .i64 0, .slice none 0 0], by kernel_rfl, fun _ _ => ⟨[_], _, rfl, ⟨rfl, by decide⟩, ⟨[_], _, rfl, ⟨rfl, by decide⟩, ⟨none, 0, rfl, Nat.le_refl _, by decide, rfl⟩⟩⟩⟩
theorem ty74 : Ty Try.prog 74 Route_tag := ⟨⟨_, Try.underlying74, rfl⟩, by kernel_rfl⟩
theorem fnok42 : FnOK Try.prog 42 := ⟨_, Try.func42, by kernel_rfl, by kernel_rfl⟩
theorem fnok43 : FnOK Try.prog 43 := ⟨_, Try.func43, by kernel_rfl, by kernel_rfl⟩
theorem fnok95 : FnOK Try.prog 95 := ⟨_, Try.func95, by kernel_rfl, by kernel_rfl⟩
theorem sf53_1 : SetField Point Int 1 (fun x z => { x with Y := z }) := ⟨by decide, fun M x z cs zs w h hz => (SetField.snd SetField.self).2 M _ z cs zs w h hz⟩
theorem sf53_0 : SetField Point Int 0 (fun x z => { x with X := z }) := ⟨by decide, fun M x z cs zs w h hz => (SetField.fst SetField.self).2 M _ z cs zs w h hz⟩
theorem bu53 : BuildAt Try.prog 53 [.int .i64 0, .int .i64 0] [(0, 1), (1, 1)] := ⟨by kernel_rfl, _, Try.underlying53, by kernel_rfl⟩
theorem zc53 : ∀ (M : MSet) (w : World), Rep.cells M (⟨(0 : Int), (0 : Int)⟩ : Point) [.int .i64 0, .int .i64 0] w := fun _ _ => ⟨[_], _, rfl, ⟨rfl, by decide⟩, ⟨rfl, by decide⟩⟩
theorem fnok44 : FnOK Try.prog 44 := ⟨_, Try.func44, by kernel_rfl, by kernel_rfl⟩
theorem fd74_0 : FieldAt Try.prog 74 0 0 := ⟨_, _, Try.underlying74, rfl, rfl, by kernel_rfl⟩
theorem hfd74_0 : HasField Route_tag Int 0 Route_tag.w_ := ⟨by decide, fun M x cs w h => (HasField.fst HasField.self).2 M _ cs w h⟩
theorem fd74_1 : FieldAt Try.prog 74 1 1 := ⟨_, _, Try.underlying74, rfl, rfl, by kernel_rfl⟩
theorem hfd74_1 : HasField Route_tag Int 1 Route_tag.h_ := ⟨by decide, fun M x cs w h => (HasField.snd (HasField.fst HasField.self)).2 M _ cs w h⟩
theorem sl42 : SliceOf Try.prog 42 3 := Try.underlying42
theorem hz3 : HasZero Try.prog 3 := by unfold HasZero; kernel_rfl
theorem fd74_2 : FieldAt Try.prog 74 2 2 := ⟨_, _, Try.underlying74, rfl, rfl, by kernel_rfl⟩
theorem hfd74_2 : HasField Route_tag (List Box) 2 Route_tag.walls := ⟨by decide, fun M x cs w h => (HasField.snd (HasField.snd HasField.self)).2 M _ cs w h⟩
theorem ty23 : Ty Try.prog 23 (List Box) := ⟨⟨_, Try.underlying23, rfl⟩, by kernel_rfl⟩
theorem rk42 : RowOK Try.prog 42 3 Int := ⟨sl42, ty3, by kernel_rfl⟩
theorem fnok45 : FnOK Try.prog 45 := ⟨_, Try.func45, by kernel_rfl, by kernel_rfl⟩
theorem fnok46 : FnOK Try.prog 46 := ⟨_, Try.func46, by kernel_rfl, by kernel_rfl⟩
theorem fnok47 : FnOK Try.prog 47 := ⟨_, Try.func47, by kernel_rfl, by kernel_rfl⟩
theorem sf25_3 : SetField Box Int 3 (fun x z => { x with H := z }) := ⟨by decide, fun M x z cs zs w h hz => (SetField.snd (SetField.snd (SetField.snd SetField.self))).2 M _ z cs zs w h hz⟩
theorem sf25_2 : SetField Box Int 2 (fun x z => { x with W_ := z }) := ⟨by decide, fun M x z cs zs w h hz => (SetField.snd (SetField.snd (SetField.fst SetField.self))).2 M _ z cs zs w h hz⟩
theorem sf25_1 : SetField Box Int 1 (fun x z => { x with Y := z }) := ⟨by decide, fun M x z cs zs w h hz => (SetField.snd (SetField.fst SetField.self)).2 M _ z cs zs w h hz⟩
theorem sf25_0 : SetField Box Int 0 (fun x z => { x with X := z }) := ⟨by decide, fun M x z cs zs w h hz => (SetField.fst SetField.self).2 M _ z cs zs w h hz⟩
theorem fnok96 : FnOK Try.prog 96 := ⟨_, Try.func96, by kernel_rfl, by kernel_rfl⟩
theorem fnok53 : FnOK Try.prog 53 := ⟨_, Try.func53, by kernel_rfl, by kernel_rfl⟩
theorem fnok97 : FnOK Try.prog 97 := ⟨_, Try.func97, by kernel_rfl, by kernel_rfl⟩
theorem fnok11 : FnOK Try.prog 11 := ⟨_, Try.func11, by kernel_rfl, by kernel_rfl⟩
theorem fnok29 : FnOK Try.prog 29 := ⟨_, Try.func29, by kernel_rfl, by kernel_rfl⟩
theorem fnok66 : FnOK Try.prog 66 := ⟨_, Try.func66, by kernel_rfl, by kernel_rfl⟩
theorem fnok13 : FnOK Try.prog 13 := ⟨_, Try.func13, by kernel_rfl, by kernel_rfl⟩
theorem fnok12 : FnOK Try.prog 12 := ⟨_, Try.func12, by kernel_rfl, by kernel_rfl⟩
theorem fnok48 : FnOK Try.prog 48 := ⟨_, Try.func48, by kernel_rfl, by kernel_rfl⟩
theorem sl81 : SliceOf Try.prog 81 26 := Try.underlying81
theorem ty26 : Ty Try.prog 26 Int := ⟨⟨_, Try.underlying26, rfl⟩, by kernel_rfl⟩
theorem hz26 : HasZero Try.prog 26 := by unfold HasZero; kernel_rfl
theorem fnok10 : FnOK Try.prog 10 := ⟨_, Try.func10, by kernel_rfl, by kernel_rfl⟩
theorem fnok14 : FnOK Try.prog 14 := ⟨_, Try.func14, by kernel_rfl, by kernel_rfl⟩
theorem fnok49 : FnOK Try.prog 49 := ⟨_, Try.func49, by kernel_rfl, by kernel_rfl⟩
theorem fnok15 : FnOK Try.prog 15 := ⟨_, Try.func15, by kernel_rfl, by kernel_rfl⟩
theorem fnok50 : FnOK Try.prog 50 := ⟨_, Try.func50, by kernel_rfl, by kernel_rfl⟩
theorem fnok56 : FnOK Try.prog 56 := ⟨_, Try.func56, by kernel_rfl, by kernel_rfl⟩
theorem fnok16 : FnOK Try.prog 16 := ⟨_, Try.func16, by kernel_rfl, by kernel_rfl⟩
theorem fnok51 : FnOK Try.prog 51 := ⟨_, Try.func51, by kernel_rfl, by kernel_rfl⟩
theorem fnok76 : FnOK Try.prog 76 := ⟨_, Try.func76, by kernel_rfl, by kernel_rfl⟩
theorem fnok104 : FnOK Try.prog 104 := ⟨_, Try.func104, by kernel_rfl, by kernel_rfl⟩
theorem fnok52 : FnOK Try.prog 52 := ⟨_, Try.func52, by kernel_rfl, by kernel_rfl⟩
theorem fnok54 : FnOK Try.prog 54 := ⟨_, Try.func54, by kernel_rfl, by kernel_rfl⟩
theorem fnok55 : FnOK Try.prog 55 := ⟨_, Try.func55, by kernel_rfl, by kernel_rfl⟩
theorem fnok17 : FnOK Try.prog 17 := ⟨_, Try.func17, by kernel_rfl, by kernel_rfl⟩
theorem sf55_5 : SetField Task Int 7 (fun x z => { x with Clear := z }) := ⟨by decide, fun M x z cs zs w h hz => (SetField.snd (SetField.snd (SetField.snd (SetField.snd (SetField.snd SetField.self))))).2 M _ z cs zs w h hz⟩
theorem sf55_3 : SetField Task Int 5 (fun x z => { x with ToSide := z }) := ⟨by decide, fun M x z cs zs w h hz => (SetField.snd (SetField.snd (SetField.snd (SetField.fst SetField.self)))).2 M _ z cs zs w h hz⟩
theorem sf55_2 : SetField Task Point 3 (fun x z => { x with To := z }) := ⟨by decide, fun M x z cs zs w h hz => (SetField.snd (SetField.snd (SetField.fst SetField.self))).2 M _ z cs zs w h hz⟩
theorem sf55_1 : SetField Task Int 2 (fun x z => { x with FromSide := z }) := ⟨by decide, fun M x z cs zs w h hz => (SetField.snd (SetField.fst SetField.self)).2 M _ z cs zs w h hz⟩
theorem bu55 : BuildAt Try.prog 55 [.int .i64 0, .int .i64 0, .int .i64 0, .int .i64 0, .int .i64 0, .int .i64 0, .slice none 0 0, .int .i64 0] [(0, 2), (2, 1), (3, 2), (5, 1), (6, 1), (7, 1)] := ⟨by kernel_rfl, _, Try.underlying55, by kernel_rfl⟩
theorem zc55 : ∀ (M : MSet) (w : World), Rep.cells M (⟨(⟨(0 : Int), (0 : Int)⟩ : Point), (0 : Int), (⟨(0 : Int), (0 : Int)⟩ : Point), (0 : Int), ([] : (List Box)), (0 : Int)⟩ : Task) [.int .i64 0, .int .i64 0, .int .i64 0, .int .i64 0, .int .i64 0, .int .i64 0, .slice none 0 0, .int .i64 0] w := fun _ _ => ⟨[_, _], _, rfl, ⟨[_], _, rfl, ⟨rfl, by decide⟩, ⟨rfl, by decide⟩⟩, ⟨[_], _, rfl, ⟨rfl, by decide⟩, ⟨[_, _], _, rfl, ⟨[_], _, rfl, ⟨rfl, by decide⟩, ⟨rfl, by decide⟩⟩, ⟨[_], _, rfl, ⟨rfl, by decide⟩, ⟨[_], _, rfl, ⟨none, 0, rfl, Nat.le_refl _, by decide, rfl⟩, ⟨rfl, by decide⟩⟩⟩⟩⟩⟩
theorem zo55 : ZeroOf Try.prog 55 (⟨(⟨(0 : Int), (0 : Int)⟩ : Point), (0 : Int), (⟨(0 : Int), (0 : Int)⟩ : Point), (0 : Int), ([] : (List Box)), (0 : Int)⟩ : Task) := ⟨[.int .i64 0, .int .i64 0, .int .i64 0, .int .i64 0, .int .i64 0, .int .i64 0, .slice none 0 0, .int .i64 0], by kernel_rfl, fun _ _ => ⟨[_, _], _, rfl, ⟨[_], _, rfl, ⟨rfl, by decide⟩, ⟨rfl, by decide⟩⟩, ⟨[_], _, rfl, ⟨rfl, by decide⟩, ⟨[_, _], _, rfl, ⟨[_], _, rfl, ⟨rfl, by decide⟩, ⟨rfl, by decide⟩⟩, ⟨[_], _, rfl, ⟨rfl, by decide⟩, ⟨[_], _, rfl, ⟨none, 0, rfl, Nat.le_refl _, by decide, rfl⟩, ⟨rfl, by decide⟩⟩⟩⟩⟩⟩⟩
theorem ty55 : Ty Try.prog 55 Task := ⟨⟨_, Try.underlying55, rfl⟩, by kernel_rfl⟩
theorem fnok27 : FnOK Try.prog 27 := ⟨_, Try.func27, by kernel_rfl, by kernel_rfl⟩
theorem fd55_0 : FieldAt Try.prog 55 0 0 := ⟨_, _, Try.underlying55, rfl, rfl, by kernel_rfl⟩
theorem hfd55_0 : HasField Task Point 0 Task.From := ⟨by decide, fun M x cs w h => (HasField.fst HasField.self).2 M _ cs w h⟩
theorem fd55_1 : FieldAt Try.prog 55 1 2 := ⟨_, _, Try.underlying55, rfl, rfl, by kernel_rfl⟩
theorem hfd55_1 : HasField Task Int 2 Task.FromSide := ⟨by decide, fun M x cs w h => (HasField.snd (HasField.fst HasField.self)).2 M _ cs w h⟩
theorem sf97_1 : SetField Anon_p_side Int 2 (fun x z => { x with side := z }) := ⟨by decide, fun M x z cs zs w h hz => (SetField.snd SetField.self).2 M _ z cs zs w h hz⟩
theorem sf97_0 : SetField Anon_p_side Point 0 (fun x z => { x with p := z }) := ⟨by decide, fun M x z cs zs w h hz => (SetField.fst SetField.self).2 M _ z cs zs w h hz⟩
theorem bu97 : BuildAt Try.prog 97 [.int .i64 0, .int .i64 0, .int .i64 0] [(0, 2), (2, 1)] := ⟨by kernel_rfl, _, Try.underlying97, by kernel_rfl⟩
theorem zc97 : ∀ (M : MSet) (w : World), Rep.cells M (⟨(⟨(0 : Int), (0 : Int)⟩ : Point), (0 : Int)⟩ : Anon_p_side) [.int .i64 0, .int .i64 0, .int .i64 0] w := fun _ _ => ⟨[_, _], _, rfl, ⟨[_], _, rfl, ⟨rfl, by decide⟩, ⟨rfl, by decide⟩⟩, ⟨rfl, by decide⟩⟩
theorem fd55_2 : FieldAt Try.prog 55 2 3 := ⟨_, _, Try.underlying55, rfl, rfl, by kernel_rfl⟩
theorem hfd55_2 : HasField Task Point 3 Task.To := ⟨by decide, fun M x cs w h => (HasField.snd (HasField.snd (HasField.fst HasField.self))).2 M _ cs w h⟩
theorem fd55_3 : FieldAt Try.prog 55 3 5 := ⟨_, _, Try.underlying55, rfl, rfl, by kernel_rfl⟩
theorem hfd55_3 : HasField Task Int 5 Task.ToSide := ⟨by decide, fun M x cs w h => (HasField.snd (HasField.snd (HasField.snd (HasField.fst HasField.self)))).2 M _ cs w h⟩
theorem sl98 : SliceOf Try.prog 98 97 := Try.underlying98
theorem ty97 : Ty Try.prog 97 Anon_p_side := ⟨⟨_, Try.underlying97, rfl⟩, by kernel_rfl⟩
theorem hz97 : HasZero Try.prog 97 := by unfold HasZero; kernel_rfl
theorem zo97 : ZeroOf Try.prog 97 (⟨(⟨(0 : Int), (0 : Int)⟩ : Point), (0 : Int)⟩ : Anon_p_side) := ⟨[.int .i64 0, .int .i64 0, .int .i64 0], by kernel_rfl, fun _ _ => ⟨[_, _], _, rfl, ⟨[_], _, rfl, ⟨rfl, by decide⟩, ⟨rfl, by decide⟩⟩, ⟨rfl, by decide⟩⟩⟩
theorem fd97_0 : FieldAt Try.prog 97 0 0 := ⟨_, _, Try.underlying97, rfl, rfl, by kernel_rfl⟩
theorem hfd97_0 : HasField Anon_p_side Point 0 Anon_p_side.p := ⟨by decide, fun M x cs w h => (HasField.fst HasField.self).2 M _ cs w h⟩
theorem fd97_1 : FieldAt Try.prog 97 1 2 := ⟨_, _, Try.underlying97, rfl, rfl, by kernel_rfl⟩
theorem hfd97_1 : HasField Anon_p_side Int 2 Anon_p_side.side := ⟨by decide, fun M x cs w h => (HasField.snd HasField.self).2 M _ cs w h⟩
theorem fnok72 : FnOK Try.prog 72 := ⟨_, Try.func72, by kernel_rfl, by kernel_rfl⟩
theorem fd55_4 : FieldAt Try.prog 55 4 6 := ⟨_, _, Try.underlying55, rfl, rfl, by kernel_rfl⟩
theorem hfd55_4 : HasField Task (List Box) 6 Task.Walls := ⟨by decide, fun M x cs w h => (HasField.snd (HasField.snd (HasField.snd (HasField.snd (HasField.fst HasField.self))))).2 M _ cs w h⟩
theorem fd55_5 : FieldAt Try.prog 55 5 7 := ⟨_, _, Try.underlying55, rfl, rfl, by kernel_rfl⟩
theorem hfd55_5 : HasField Task Int 7 Task.Clear := ⟨by decide, fun M x cs w h => (HasField.snd (HasField.snd (HasField.snd (HasField.snd (HasField.snd HasField.self))))).2 M _ cs w h⟩
theorem fnok73 : FnOK Try.prog 73 := ⟨_, Try.func73, by kernel_rfl, by kernel_rfl⟩
theorem fnok102 : FnOK Try.prog 102 := ⟨_, Try.func102, by kernel_rfl, by kernel_rfl⟩
theorem ao156 : ArrOf Try.prog 156 4 53 := Try.underlying156
theorem az156 : ArrZero Try.prog 156 ((4 + 1) * Rep.sz Point) := by unfold ArrZero; kernel_rfl
theorem fnok19 : FnOK Try.prog 19 := ⟨_, Try.func19, by kernel_rfl, by kernel_rfl⟩
theorem fnok18 : FnOK Try.prog 18 := ⟨_, Try.func18, by kernel_rfl, by kernel_rfl⟩
theorem eq25 : EqAt Try.prog 25 Box := eqAt_ints (n := 4) (fun p => [p.X, p.Y, p.W_, p.H]) (fun a b => by cases a; cases b; simp) (fun _ => rfl) (fun M v w a h => by obtain ⟨cs, h, rfl⟩ := h; obtain ⟨_, _, rfl, ⟨rfl, _⟩, ⟨_, _, rfl, ⟨rfl, _⟩, ⟨_, _, rfl, ⟨rfl, _⟩, ⟨rfl, _⟩⟩⟩⟩ := h; rfl) ⟨by kernel_rfl, by kernel_rfl, by kernel_rfl, by kernel_rfl⟩

end Go.Proofs.Ytegjicmejjfgfaa
