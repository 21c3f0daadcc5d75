/-
  Closed facts on the program.
-/
import Derived.Test.YtakkmmhjohadaaaRows
import Derived.Test.YtakkmmhjohadaaaEveLi1
set_option maxRecDepth 100000
set_option linter.unusedSimpArgs false
set_option linter.unusedVariables false
namespace Go.Proofs.Ytakkmmhjohadaaa
open Go Go.DB Go.RowKit

theorem mixed : Try.prog.follows .mixedOrders = true := by kernel_rfl
theorem fnok28 : FnOK Try.prog 28 := ⟨_, Try.func28, by kernel_rfl, by kernel_rfl⟩
theorem sl23 : SliceOf Try.prog 23 3 := Try.underlying23
theorem ty3 : Ty Try.prog 3 Int := ⟨⟨_, Try.underlying3, rfl⟩, by kernel_rfl⟩
theorem fnok65 : FnOK Try.prog 65 := ⟨_, Try.func65, by kernel_rfl, by kernel_rfl⟩
theorem fnok64 : FnOK Try.prog 64 := ⟨_, Try.func64, by kernel_rfl, by kernel_rfl⟩
theorem fnok27 : FnOK Try.prog 27 := ⟨_, Try.func27, by kernel_rfl, by kernel_rfl⟩
theorem hz3 : HasZero Try.prog 3 := by unfold HasZero; kernel_rfl
theorem rk23 : RowOK Try.prog 23 3 Int := ⟨sl23, ty3, by kernel_rfl⟩
theorem fnok67 : FnOK Try.prog 67 := ⟨_, Try.func67, by kernel_rfl, by kernel_rfl⟩
theorem sl64 : SliceOf Try.prog 64 23 := Try.underlying64
theorem ty23 : Ty Try.prog 23 (List Int) := ⟨⟨_, Try.underlying23, rfl⟩, by kernel_rfl⟩
theorem hz23 : HasZero Try.prog 23 := by unfold HasZero; kernel_rfl
theorem rk64 : RowOK Try.prog 64 23 (List Int) := ⟨sl64, ty23, by kernel_rfl⟩
theorem sl56 : SliceOf Try.prog 56 67 := Try.underlying56
theorem ty67 : Ty Try.prog 67 Branch := ⟨⟨_, Try.underlying67, rfl⟩, by kernel_rfl⟩
theorem fd67_2 : FieldAt Try.prog 67 2 2 := ⟨_, _, Try.underlying67, rfl, rfl, by kernel_rfl⟩
theorem hfd67_2 : HasField Branch (List Int) 2 Branch.Kids := ⟨by decide, fun M x cs w h => (HasField.snd (HasField.snd HasField.self)).2 M _ cs w h⟩
theorem fnok82 : FnOK Try.prog 82 := ⟨_, Try.func82, by kernel_rfl, by kernel_rfl⟩
theorem sl100 : SliceOf Try.prog 100 4 := Try.underlying100
theorem ty4 : Ty Try.prog 4 Bool := ⟨⟨_, Try.underlying4, rfl⟩, by kernel_rfl⟩
theorem fnok68 : FnOK Try.prog 68 := ⟨_, Try.func68, by kernel_rfl, by kernel_rfl⟩
theorem fnok39 : FnOK Try.prog 39 := ⟨_, Try.func39, by kernel_rfl, by kernel_rfl⟩
theorem fnok73 : FnOK Try.prog 73 := ⟨_, Try.func73, by kernel_rfl, by kernel_rfl⟩
theorem rk100 : RowOK Try.prog 100 4 Bool := ⟨sl100, ty4, by kernel_rfl⟩
theorem zo4 : ZeroOf Try.prog 4 false := ⟨[.bool false], by kernel_rfl, fun _ _ => rfl⟩
theorem zo67 : ZeroOf Try.prog 67 (⟨(0 : Int), (0 : Int), ([] : (List Int))⟩ : Branch) := ⟨[.int .i64 0, .int .i64 0, .slice none 0 0], by kernel_rfl, fun _ _ => ⟨[_], _, rfl, ⟨rfl, by decide⟩, ⟨[_], _, rfl, ⟨rfl, by decide⟩, ⟨none, 0, rfl, Nat.le_refl _, by decide, rfl⟩⟩⟩⟩
theorem fd67_0 : FieldAt Try.prog 67 0 0 := ⟨_, _, Try.underlying67, rfl, rfl, by kernel_rfl⟩
theorem hfd67_0 : HasField Branch Int 0 Branch.W_ := ⟨by decide, fun M x cs w h => (HasField.fst HasField.self).2 M _ cs w h⟩
theorem fd67_1 : FieldAt Try.prog 67 1 1 := ⟨_, _, Try.underlying67, rfl, rfl, by kernel_rfl⟩
theorem hfd67_1 : HasField Branch Int 1 Branch.H := ⟨by decide, fun M x cs w h => (HasField.snd (HasField.fst HasField.self)).2 M _ cs w h⟩
theorem fnok22 : FnOK Try.prog 22 := ⟨_, Try.func22, by kernel_rfl, by kernel_rfl⟩
theorem sf67_1 : SetField Branch Int 1 (fun x z => { x with H := z }) := ⟨by decide, fun M x z cs zs w h hz => (SetField.snd (SetField.fst SetField.self)).2 M _ z cs zs w h hz⟩
theorem sf67_0 : SetField Branch Int 0 (fun x z => { x with W_ := z }) := ⟨by decide, fun M x z cs zs w h hz => (SetField.fst SetField.self).2 M _ z cs zs w h hz⟩
theorem bu67 : BuildAt Try.prog 67 [.int .i64 0, .int .i64 0, .slice none 0 0] [(0, 1), (1, 1), (2, 1)] := ⟨by kernel_rfl, _, Try.underlying67, by kernel_rfl⟩
theorem zc67 : ∀ (M : MSet) (w : World), Rep.cells M (⟨(0 : Int), (0 : Int), ([] : (List Int))⟩ : Branch) [.int .i64 0, .int .i64 0, .slice none 0 0] w := fun _ _ => ⟨[_], _, rfl, ⟨rfl, by decide⟩, ⟨[_], _, rfl, ⟨rfl, by decide⟩, ⟨none, 0, rfl, Nat.le_refl _, by decide, rfl⟩⟩⟩
theorem hz67 : HasZero Try.prog 67 := by unfold HasZero; kernel_rfl
theorem fnok13 : FnOK Try.prog 13 := ⟨_, Try.func13, by kernel_rfl, by kernel_rfl⟩
theorem fnok16 : FnOK Try.prog 16 := ⟨_, Try.func16, by kernel_rfl, by kernel_rfl⟩
theorem fnok56 : FnOK Try.prog 56 := ⟨_, Try.func56, by kernel_rfl, by kernel_rfl⟩
theorem fnok14 : FnOK Try.prog 14 := ⟨_, Try.func14, by kernel_rfl, by kernel_rfl⟩
theorem fnok26 : FnOK Try.prog 26 := ⟨_, Try.func26, by kernel_rfl, by kernel_rfl⟩
theorem fnok63 : FnOK Try.prog 63 := ⟨_, Try.func63, by kernel_rfl, by kernel_rfl⟩
theorem fnok62 : FnOK Try.prog 62 := ⟨_, Try.func62, by kernel_rfl, by kernel_rfl⟩
theorem zo3 : ZeroOf Try.prog 3 (0 : Int) := ⟨[.int .i64 0], by kernel_rfl, fun _ _ => ⟨rfl, by decide⟩⟩
theorem fnok25 : FnOK Try.prog 25 := ⟨_, Try.func25, by kernel_rfl, by kernel_rfl⟩
theorem fnok5 : FnOK Try.prog 5 := ⟨_, Try.func5, by kernel_rfl, by kernel_rfl⟩

end Go.Proofs.Ytakkmmhjohadaaa
