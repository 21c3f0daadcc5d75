/-
  Closed facts on the program.
-/
import Derived.Test.YtakkmmhjohadaaaRows
import Derived.Test.YtakkmmhjohadaaaRowLi1
set_option maxRecDepth 100000
set_option linter.unusedSimpArgs false
set_option linter.unusedVariables false
namespace Go.Proofs.Ytakkmmhjohadaaa
open Go Go.DB Go.RowKit

theorem mixed : Try.prog.follows .mixedOrders = true := by kernel_rfl
theorem fnok24 : FnOK Try.prog 24 := ⟨_, Try.func24, by kernel_rfl, by kernel_rfl⟩
theorem sl39 : SliceOf Try.prog 39 47 := Try.underlying39
theorem ty47 : Ty Try.prog 47 Point := ⟨⟨_, Try.underlying47, rfl⟩, by kernel_rfl⟩
theorem eq47 : EqAt Try.prog 47 Point := eqAt_ints (n := 2) (fun p => [p.X, p.Y]) (fun a b => by cases a; cases b; simp) (fun _ => rfl) (fun M v w a h => by obtain ⟨cs, h, rfl⟩ := h; obtain ⟨_, _, rfl, ⟨rfl, _⟩, ⟨rfl, _⟩⟩ := h; rfl) ⟨by kernel_rfl, by kernel_rfl, by kernel_rfl, by kernel_rfl⟩
theorem fnok23 : FnOK Try.prog 23 := ⟨_, Try.func23, by kernel_rfl, by kernel_rfl⟩
theorem zo47 : ZeroOf Try.prog 47 (⟨(0 : Int), (0 : Int)⟩ : Point) := ⟨[.int .i64 0, .int .i64 0], by kernel_rfl, fun _ _ => ⟨[_], _, rfl, ⟨rfl, by decide⟩, ⟨rfl, by decide⟩⟩⟩
theorem fd47_0 : FieldAt Try.prog 47 0 0 := ⟨_, _, Try.underlying47, rfl, rfl, by kernel_rfl⟩
theorem hfd47_0 : HasField Point Int 0 Point.X := ⟨by decide, fun M x cs w h => (HasField.fst HasField.self).2 M _ cs w h⟩
theorem ty3 : Ty Try.prog 3 Int := ⟨⟨_, Try.underlying3, rfl⟩, by kernel_rfl⟩
theorem sf47_1 : SetField Point Int 1 (fun x z => { x with Y := z }) := ⟨by decide, fun M x z cs zs w h hz => (SetField.snd SetField.self).2 M _ z cs zs w h hz⟩
theorem sf47_0 : SetField Point Int 0 (fun x z => { x with X := z }) := ⟨by decide, fun M x z cs zs w h hz => (SetField.fst SetField.self).2 M _ z cs zs w h hz⟩
theorem bu47 : BuildAt Try.prog 47 [.int .i64 0, .int .i64 0] [(0, 1), (1, 1)] := ⟨by kernel_rfl, _, Try.underlying47, by kernel_rfl⟩
theorem zc47 : ∀ (M : MSet) (w : World), Rep.cells M (⟨(0 : Int), (0 : Int)⟩ : Point) [.int .i64 0, .int .i64 0] w := fun _ _ => ⟨[_], _, rfl, ⟨rfl, by decide⟩, ⟨rfl, by decide⟩⟩
theorem hz47 : HasZero Try.prog 47 := by unfold HasZero; kernel_rfl
theorem rk39 : RowOK Try.prog 39 47 Point := ⟨sl39, ty47, by kernel_rfl⟩
theorem fd47_1 : FieldAt Try.prog 47 1 1 := ⟨_, _, Try.underlying47, rfl, rfl, by kernel_rfl⟩
theorem hfd47_1 : HasField Point Int 1 Point.Y := ⟨by decide, fun M x cs w h => (HasField.snd HasField.self).2 M _ cs w h⟩
theorem fnok67 : FnOK Try.prog 67 := ⟨_, Try.func67, by kernel_rfl, by kernel_rfl⟩
theorem sl23 : SliceOf Try.prog 23 3 := Try.underlying23
theorem hz3 : HasZero Try.prog 3 := by unfold HasZero; kernel_rfl
theorem sl64 : SliceOf Try.prog 64 23 := Try.underlying64
theorem ty23 : Ty Try.prog 23 (List Int) := ⟨⟨_, Try.underlying23, rfl⟩, by kernel_rfl⟩
theorem hz23 : HasZero Try.prog 23 := by unfold HasZero; kernel_rfl
theorem rk64 : RowOK Try.prog 64 23 (List Int) := ⟨sl64, ty23, by kernel_rfl⟩
theorem sl56 : SliceOf Try.prog 56 67 := Try.underlying56
theorem ty67 : Ty Try.prog 67 Branch := ⟨⟨_, Try.underlying67, rfl⟩, by kernel_rfl⟩
theorem fd67_2 : FieldAt Try.prog 67 2 2 := ⟨_, _, Try.underlying67, rfl, rfl, by kernel_rfl⟩
theorem hfd67_2 : HasField Branch (List Int) 2 Branch.Kids := ⟨by decide, fun M x cs w h => (HasField.snd (HasField.snd HasField.self)).2 M _ cs w h⟩
theorem rk23 : RowOK Try.prog 23 3 Int := ⟨sl23, ty3, by kernel_rfl⟩
theorem fnok82 : FnOK Try.prog 82 := ⟨_, Try.func82, by kernel_rfl, by kernel_rfl⟩
theorem sl100 : SliceOf Try.prog 100 4 := Try.underlying100
theorem ty4 : Ty Try.prog 4 Bool := ⟨⟨_, Try.underlying4, rfl⟩, by kernel_rfl⟩
theorem fnok68 : FnOK Try.prog 68 := ⟨_, Try.func68, by kernel_rfl, by kernel_rfl⟩
theorem fnok39 : FnOK Try.prog 39 := ⟨_, Try.func39, by kernel_rfl, by kernel_rfl⟩
theorem fnok73 : FnOK Try.prog 73 := ⟨_, Try.func73, by kernel_rfl, by kernel_rfl⟩
theorem rk100 : RowOK Try.prog 100 4 Bool := ⟨sl100, ty4, by kernel_rfl⟩
theorem zo4 : ZeroOf Try.prog 4 false := ⟨[.bool false], by kernel_rfl, fun _ _ => rfl⟩
theorem zo67 : ZeroOf Try.prog 67 (⟨(0 : Int), (0 : Int), ([] : (List Int))⟩ : Branch) := ⟨[.int .i64 0, .int .i64 0, .slice none 0 0], by kernel_rfl, fun _ _ => ⟨[_], _, rfl, ⟨rfl, by decide⟩, ⟨[_], _, rfl, ⟨rfl, by decide⟩, ⟨none, 0, rfl, Nat.le_refl _, by decide, rfl⟩⟩⟩⟩
theorem fd67_0 : FieldAt Try.prog 67 0 0 := ⟨_, _, Try.underlying67, rfl, rfl, by kernel_rfl⟩
theorem hfd67_0 : HasField Branch Int 0 Branch.W_ := ⟨by decide, fun M x cs w h => (HasField.fst HasField.self).2 M _ cs w h⟩
theorem fd67_1 : FieldAt Try.prog 67 1 1 := ⟨_, _, Try.underlying67, rfl, rfl, by kernel_rfl⟩
theorem hfd67_1 : HasField Branch Int 1 Branch.H := ⟨by decide, fun M x cs w h => (HasField.snd (HasField.fst HasField.self)).2 M _ cs w h⟩
theorem fnok22 : FnOK Try.prog 22 := ⟨_, Try.func22, by kernel_rfl, by kernel_rfl⟩
theorem sf67_1 : SetField Branch Int 1 (fun x z => { x with H := z }) := ⟨by decide, fun M x z cs zs w h hz => (SetField.snd (SetField.fst SetField.self)).2 M _ z cs zs w h hz⟩
theorem sf67_0 : SetField Branch Int 0 (fun x z => { x with W_ := z }) := ⟨by decide, fun M x z cs zs w h hz => (SetField.fst SetField.self).2 M _ z cs zs w h hz⟩
theorem bu67 : BuildAt Try.prog 67 [.int .i64 0, .int .i64 0, .slice none 0 0] [(0, 1), (1, 1), (2, 1)] := ⟨by kernel_rfl, _, Try.underlying67, by kernel_rfl⟩
theorem zc67 : ∀ (M : MSet) (w : World), Rep.cells M (⟨(0 : Int), (0 : Int), ([] : (List Int))⟩ : Branch) [.int .i64 0, .int .i64 0, .slice none 0 0] w := fun _ _ => ⟨[_], _, rfl, ⟨rfl, by decide⟩, ⟨[_], _, rfl, ⟨rfl, by decide⟩, ⟨none, 0, rfl, Nat.le_refl _, by decide, rfl⟩⟩⟩
theorem hz67 : HasZero Try.prog 67 := by unfold HasZero; kernel_rfl
theorem fnok13 : FnOK Try.prog 13 := ⟨_, Try.func13, by kernel_rfl, by kernel_rfl⟩
theorem fnok80 : FnOK Try.prog 80 := ⟨_, Try.func80, by kernel_rfl, by kernel_rfl⟩
theorem fnok58 : FnOK Try.prog 58 := ⟨_, Try.func58, by kernel_rfl, by kernel_rfl⟩
theorem fnok16 : FnOK Try.prog 16 := ⟨_, Try.func16, by kernel_rfl, by kernel_rfl⟩
theorem fnok21 : FnOK Try.prog 21 := ⟨_, Try.func21, by kernel_rfl, by kernel_rfl⟩
theorem fnok60 : FnOK Try.prog 60 := ⟨_, Try.func60, by kernel_rfl, by kernel_rfl⟩
theorem fnok61 : FnOK Try.prog 61 := ⟨_, Try.func61, by kernel_rfl, by kernel_rfl⟩
theorem fnok20 : FnOK Try.prog 20 := ⟨_, Try.func20, by kernel_rfl, by kernel_rfl⟩
theorem fnok57 : FnOK Try.prog 57 := ⟨_, Try.func57, by kernel_rfl, by kernel_rfl⟩
theorem fnok59 : FnOK Try.prog 59 := ⟨_, Try.func59, by kernel_rfl, by kernel_rfl⟩
theorem fnok4 : FnOK Try.prog 4 := ⟨_, Try.func4, by kernel_rfl, by kernel_rfl⟩

end Go.Proofs.Ytakkmmhjohadaaa
