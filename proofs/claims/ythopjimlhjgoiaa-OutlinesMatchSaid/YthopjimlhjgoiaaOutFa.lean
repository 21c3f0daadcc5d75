/-
  Closed facts on the program.
-/
import Derived.Test.YthopjimlhjgoiaaRows
import Derived.Test.YthopjimlhjgoiaaOutLi1
set_option maxRecDepth 100000
set_option linter.unusedSimpArgs false
set_option linter.unusedVariables false
namespace Go.Proofs.Ythopjimlhjgoiaa
open Go Go.DB Go.RowKit

theorem mixed : Try.prog.follows .mixedOrders = true := by kernel_rfl

theorem fnok3 : FnOK Try.prog 3 := ⟨_, Try.func3, by kernel_rfl, by kernel_rfl⟩
theorem ty3 : Ty Try.prog 3 Int := ⟨⟨_, Try.underlying3, rfl⟩, by kernel_rfl⟩
theorem fnok5 : FnOK Try.prog 5 := ⟨_, Try.func5, by kernel_rfl, by kernel_rfl⟩
theorem fnok21 : FnOK Try.prog 21 := ⟨_, Try.func21, by kernel_rfl, by kernel_rfl⟩
theorem fnok20 : FnOK Try.prog 20 := ⟨_, Try.func20, by kernel_rfl, by kernel_rfl⟩
theorem ty23 : Ty Try.prog 23 Box := ⟨⟨_, Try.underlying23, rfl⟩, by kernel_rfl⟩
theorem fnok6 : FnOK Try.prog 6 := ⟨_, Try.func6, by kernel_rfl, by kernel_rfl⟩
theorem fd23_0 : FieldAt Try.prog 23 0 0 := ⟨_, _, Try.underlying23, rfl, rfl, by kernel_rfl⟩
theorem hfd23_0 : HasField Box Int 0 Box.X := ⟨by decide, fun M x cs w h => (HasField.fst HasField.self).2 M _ cs w h⟩
theorem fd23_1 : FieldAt Try.prog 23 1 1 := ⟨_, _, Try.underlying23, rfl, rfl, by kernel_rfl⟩
theorem hfd23_1 : HasField Box Int 1 Box.Y := ⟨by decide, fun M x cs w h => (HasField.snd (HasField.fst HasField.self)).2 M _ cs w h⟩
theorem sf25_1 : SetField Point Int 1 (fun x z => { x with Y := z }) := ⟨by decide, fun M x z cs zs w h hz => (SetField.snd SetField.self).2 M _ z cs zs w h hz⟩
theorem sf25_0 : SetField Point Int 0 (fun x z => { x with X := z }) := ⟨by decide, fun M x z cs zs w h hz => (SetField.fst SetField.self).2 M _ z cs zs w h hz⟩
theorem bu25 : BuildAt Try.prog 25 [.int .i64 0, .int .i64 0] [(0, 1), (1, 1)] := ⟨by kernel_rfl, _, Try.underlying25, by kernel_rfl⟩
theorem zc25 : ∀ (M : MSet) (w : World), Rep.cells M (⟨(0 : Int), (0 : Int)⟩ : Point) [.int .i64 0, .int .i64 0] w := fun _ _ => ⟨[_], _, rfl, ⟨rfl, by decide⟩, ⟨rfl, by decide⟩⟩
theorem fnok10 : FnOK Try.prog 10 := ⟨_, Try.func10, by kernel_rfl, by kernel_rfl⟩
theorem fd25_0 : FieldAt Try.prog 25 0 0 := ⟨_, _, Try.underlying25, rfl, rfl, by kernel_rfl⟩
theorem hfd25_0 : HasField Point Int 0 Point.X := ⟨by decide, fun M x cs w h => (HasField.fst HasField.self).2 M _ cs w h⟩
theorem fd25_1 : FieldAt Try.prog 25 1 1 := ⟨_, _, Try.underlying25, rfl, rfl, by kernel_rfl⟩
theorem hfd25_1 : HasField Point Int 1 Point.Y := ⟨by decide, fun M x cs w h => (HasField.snd HasField.self).2 M _ cs w h⟩
theorem fd23_2 : FieldAt Try.prog 23 2 2 := ⟨_, _, Try.underlying23, rfl, rfl, by kernel_rfl⟩
theorem hfd23_2 : HasField Box Int 2 Box.W_ := ⟨by decide, fun M x cs w h => (HasField.snd (HasField.snd (HasField.fst HasField.self))).2 M _ cs w h⟩
theorem fd23_3 : FieldAt Try.prog 23 3 3 := ⟨_, _, Try.underlying23, rfl, rfl, by kernel_rfl⟩
theorem hfd23_3 : HasField Box Int 3 Box.H := ⟨by decide, fun M x cs w h => (HasField.snd (HasField.snd (HasField.snd HasField.self))).2 M _ cs w h⟩
theorem sl48 : SliceOf Try.prog 48 26 := Try.underlying48
theorem ty26 : Ty Try.prog 26 Int := ⟨⟨_, Try.underlying26, rfl⟩, by kernel_rfl⟩
theorem hz26 : HasZero Try.prog 26 := by unfold HasZero; kernel_rfl
theorem fnok4 : FnOK Try.prog 4 := ⟨_, Try.func4, by kernel_rfl, by kernel_rfl⟩
theorem ty25 : Ty Try.prog 25 Point := ⟨⟨_, Try.underlying25, rfl⟩, by kernel_rfl⟩
theorem fnok7 : FnOK Try.prog 7 := ⟨_, Try.func7, by kernel_rfl, by kernel_rfl⟩
theorem fnok22 : FnOK Try.prog 22 := ⟨_, Try.func22, by kernel_rfl, by kernel_rfl⟩
theorem fnok23 : FnOK Try.prog 23 := ⟨_, Try.func23, by kernel_rfl, by kernel_rfl⟩
theorem fnok37 : FnOK Try.prog 37 := ⟨_, Try.func37, by kernel_rfl, by kernel_rfl⟩
theorem fnok24 : FnOK Try.prog 24 := ⟨_, Try.func24, by kernel_rfl, by kernel_rfl⟩
theorem fnok25 : FnOK Try.prog 25 := ⟨_, Try.func25, by kernel_rfl, by kernel_rfl⟩
theorem fnok38 : FnOK Try.prog 38 := ⟨_, Try.func38, by kernel_rfl, by kernel_rfl⟩
theorem fnok39 : FnOK Try.prog 39 := ⟨_, Try.func39, by kernel_rfl, by kernel_rfl⟩
theorem fnok8 : FnOK Try.prog 8 := ⟨_, Try.func8, by kernel_rfl, by kernel_rfl⟩
theorem sf54_3 : SetField Font Int 3 (fun x z => { x with Wide := z }) := ⟨by decide, fun M x z cs zs w h hz => (SetField.snd (SetField.snd (SetField.snd SetField.self))).2 M _ z cs zs w h hz⟩
theorem sf54_2 : SetField Font Int 2 (fun x z => { x with Normal := z }) := ⟨by decide, fun M x z cs zs w h hz => (SetField.snd (SetField.snd (SetField.fst SetField.self))).2 M _ z cs zs w h hz⟩
theorem sf54_1 : SetField Font Int 1 (fun x z => { x with Narrow := z }) := ⟨by decide, fun M x z cs zs w h hz => (SetField.snd (SetField.fst SetField.self)).2 M _ z cs zs w h hz⟩
theorem sf54_0 : SetField Font Int 0 (fun x z => { x with Line := z }) := ⟨by decide, fun M x z cs zs w h hz => (SetField.fst SetField.self).2 M _ z cs zs w h hz⟩
theorem bu54 : BuildAt Try.prog 54 [.int .i64 0, .int .i64 0, .int .i64 0, .int .i64 0] [(0, 1), (1, 1), (2, 1), (3, 1)] := ⟨by kernel_rfl, _, Try.underlying54, by kernel_rfl⟩
theorem zc54 : ∀ (M : MSet) (w : World), Rep.cells M (⟨(0 : Int), (0 : Int), (0 : Int), (0 : Int)⟩ : Font) [.int .i64 0, .int .i64 0, .int .i64 0, .int .i64 0] w := fun _ _ => ⟨[_], _, rfl, ⟨rfl, by decide⟩, ⟨[_], _, rfl, ⟨rfl, by decide⟩, ⟨[_], _, rfl, ⟨rfl, by decide⟩, ⟨rfl, by decide⟩⟩⟩⟩
theorem fnok26 : FnOK Try.prog 26 := ⟨_, Try.func26, by kernel_rfl, by kernel_rfl⟩
theorem fd54_0 : FieldAt Try.prog 54 0 0 := ⟨_, _, Try.underlying54, rfl, rfl, by kernel_rfl⟩
theorem hfd54_0 : HasField Font Int 0 Font.Line := ⟨by decide, fun M x cs w h => (HasField.fst HasField.self).2 M _ cs w h⟩
theorem fd54_1 : FieldAt Try.prog 54 1 1 := ⟨_, _, Try.underlying54, rfl, rfl, by kernel_rfl⟩
theorem hfd54_1 : HasField Font Int 1 Font.Narrow := ⟨by decide, fun M x cs w h => (HasField.snd (HasField.fst HasField.self)).2 M _ cs w h⟩
theorem fd54_2 : FieldAt Try.prog 54 2 2 := ⟨_, _, Try.underlying54, rfl, rfl, by kernel_rfl⟩
theorem hfd54_2 : HasField Font Int 2 Font.Normal := ⟨by decide, fun M x cs w h => (HasField.snd (HasField.snd (HasField.fst HasField.self))).2 M _ cs w h⟩
theorem fd54_3 : FieldAt Try.prog 54 3 3 := ⟨_, _, Try.underlying54, rfl, rfl, by kernel_rfl⟩
theorem hfd54_3 : HasField Font Int 3 Font.Wide := ⟨by decide, fun M x cs w h => (HasField.snd (HasField.snd (HasField.snd HasField.self))).2 M _ cs w h⟩
theorem sl60 : SliceOf Try.prog 60 3 := Try.underlying60
theorem hz3 : HasZero Try.prog 3 := by unfold HasZero; kernel_rfl
theorem fnok11 : FnOK Try.prog 11 := ⟨_, Try.func11, by kernel_rfl, by kernel_rfl⟩
theorem fnok12 : FnOK Try.prog 12 := ⟨_, Try.func12, by kernel_rfl, by kernel_rfl⟩
theorem fnok27 : FnOK Try.prog 27 := ⟨_, Try.func27, by kernel_rfl, by kernel_rfl⟩
theorem fnok28 : FnOK Try.prog 28 := ⟨_, Try.func28, by kernel_rfl, by kernel_rfl⟩
theorem fnok29 : FnOK Try.prog 29 := ⟨_, Try.func29, by kernel_rfl, by kernel_rfl⟩
theorem fnok9 : FnOK Try.prog 9 := ⟨_, Try.func9, by kernel_rfl, by kernel_rfl⟩
theorem fnok13 : FnOK Try.prog 13 := ⟨_, Try.func13, by kernel_rfl, by kernel_rfl⟩
theorem zo25 : ZeroOf Try.prog 25 (⟨(0 : Int), (0 : Int)⟩ : Point) := ⟨[.int .i64 0, .int .i64 0], by kernel_rfl, fun _ _ => ⟨[_], _, rfl, ⟨rfl, by decide⟩, ⟨rfl, by decide⟩⟩⟩
theorem fnok30 : FnOK Try.prog 30 := ⟨_, Try.func30, by kernel_rfl, by kernel_rfl⟩
theorem zr57 : ZeroOf Try.prog 57 (⟨.nilFunc⟩ : Raw) := ⟨[.nilFunc], by kernel_rfl, fun _ _ => ⟨rfl, rfl, rfl⟩⟩
theorem tr57 : Ty Try.prog 57 Raw := ⟨⟨_, Try.underlying57, rfl⟩, by kernel_rfl⟩
theorem fnok32 : FnOK Try.prog 32 := ⟨_, Try.func32, by kernel_rfl, by kernel_rfl⟩
theorem fnok31 : FnOK Try.prog 31 := ⟨_, Try.func31, by kernel_rfl, by kernel_rfl⟩
theorem fnok33 : FnOK Try.prog 33 := ⟨_, Try.func33, by kernel_rfl, by kernel_rfl⟩
theorem fnok15 : FnOK Try.prog 15 := ⟨_, Try.func15, by kernel_rfl, by kernel_rfl⟩
theorem fnok16 : FnOK Try.prog 16 := ⟨_, Try.func16, by kernel_rfl, by kernel_rfl⟩
theorem fnok17 : FnOK Try.prog 17 := ⟨_, Try.func17, by kernel_rfl, by kernel_rfl⟩
theorem fnok34 : FnOK Try.prog 34 := ⟨_, Try.func34, by kernel_rfl, by kernel_rfl⟩
theorem fnok14 : FnOK Try.prog 14 := ⟨_, Try.func14, by kernel_rfl, by kernel_rfl⟩
theorem eq25 : EqAt Try.prog 25 Point := eqAt_ints (n := 2) (fun p => [p.X, p.Y]) (fun a b => by cases a; cases b; simp) (fun _ => rfl) (fun M v w a h => by obtain ⟨cs, h, rfl⟩ := h; obtain ⟨_, _, rfl, ⟨rfl, _⟩, ⟨rfl, _⟩⟩ := h; rfl) ⟨by kernel_rfl, by kernel_rfl, by kernel_rfl, by kernel_rfl⟩
theorem fnok18 : FnOK Try.prog 18 := ⟨_, Try.func18, by kernel_rfl, by kernel_rfl⟩
theorem fnok35 : FnOK Try.prog 35 := ⟨_, Try.func35, by kernel_rfl, by kernel_rfl⟩
theorem sl62 : SliceOf Try.prog 62 23 := Try.underlying62
theorem hz23 : HasZero Try.prog 23 := by unfold HasZero; kernel_rfl
theorem fnok40 : FnOK Try.prog 40 := ⟨_, Try.func40, by kernel_rfl, by kernel_rfl⟩
theorem zo23 : ZeroOf Try.prog 23 (⟨(0 : Int), (0 : Int), (0 : Int), (0 : Int)⟩ : Box) := ⟨[.int .i64 0, .int .i64 0, .int .i64 0, .int .i64 0], by kernel_rfl, fun _ _ => ⟨[_], _, rfl, ⟨rfl, by decide⟩, ⟨[_], _, rfl, ⟨rfl, by decide⟩, ⟨[_], _, rfl, ⟨rfl, by decide⟩, ⟨rfl, by decide⟩⟩⟩⟩⟩
theorem fnok19 : FnOK Try.prog 19 := ⟨_, Try.func19, by kernel_rfl, by kernel_rfl⟩
theorem fnok36 : FnOK Try.prog 36 := ⟨_, Try.func36, by kernel_rfl, by kernel_rfl⟩

end Go.Proofs.Ythopjimlhjgoiaa
