/-
  Closed facts on the program.
-/
import Derived.Test.YtakkmmhjohadaaaRows
import Derived.Test.YtakkmmhjohadaaaTotLi1
set_option maxRecDepth 100000
set_option linter.unusedSimpArgs false
set_option linter.unusedVariables false
namespace Go.Proofs.Ytakkmmhjohadaaa
open Go Go.DB Go.RowKit

theorem mixed : Try.prog.follows .mixedOrders = true := by kernel_rfl
theorem fnok18 : FnOK Try.prog 18 := ⟨_, Try.func18, by kernel_rfl, by kernel_rfl⟩
theorem fnok55 : FnOK Try.prog 55 := ⟨_, Try.func55, by kernel_rfl, by kernel_rfl⟩
theorem ty3 : Ty Try.prog 3 Int := ⟨⟨_, Try.underlying3, rfl⟩, by kernel_rfl⟩
theorem sl22 : SliceOf Try.prog 22 34 := Try.underlying22
theorem fnok79 : FnOK Try.prog 79 := ⟨_, Try.func79, by kernel_rfl, by kernel_rfl⟩
theorem ty34 : Ty Try.prog 34 Link := ⟨⟨_, Try.underlying34, rfl⟩, by kernel_rfl⟩
theorem zo34 : ZeroOf Try.prog 34 (⟨(0 : Int), (0 : Int)⟩ : Link) := ⟨[.int .i64 0, .int .i64 0], by kernel_rfl, fun _ _ => ⟨[_], _, rfl, ⟨rfl, by decide⟩, ⟨rfl, by decide⟩⟩⟩
theorem fd34_0 : FieldAt Try.prog 34 0 0 := ⟨_, _, Try.underlying34, rfl, rfl, by kernel_rfl⟩
theorem hfd34_0 : HasField Link Int 0 Link.From := ⟨by decide, fun M x cs w h => (HasField.fst HasField.self).2 M _ cs w h⟩
theorem fd34_1 : FieldAt Try.prog 34 1 1 := ⟨_, _, Try.underlying34, rfl, rfl, by kernel_rfl⟩
theorem hfd34_1 : HasField Link Int 1 Link.To := ⟨by decide, fun M x cs w h => (HasField.snd HasField.self).2 M _ cs w h⟩
theorem fnok17 : FnOK Try.prog 17 := ⟨_, Try.func17, by kernel_rfl, by kernel_rfl⟩
theorem fnok11 : FnOK Try.prog 11 := ⟨_, Try.func11, by kernel_rfl, by kernel_rfl⟩
theorem sl87 : SliceOf Try.prog 87 24 := Try.underlying87
theorem ty24 : Ty Try.prog 24 Int := ⟨⟨_, Try.underlying24, rfl⟩, by kernel_rfl⟩
theorem fnok13 : FnOK Try.prog 13 := ⟨_, Try.func13, by kernel_rfl, by kernel_rfl⟩
theorem fnok56 : FnOK Try.prog 56 := ⟨_, Try.func56, by kernel_rfl, by kernel_rfl⟩
theorem sl23 : SliceOf Try.prog 23 3 := Try.underlying23
theorem fnok14 : FnOK Try.prog 14 := ⟨_, Try.func14, by kernel_rfl, by kernel_rfl⟩
theorem fnok16 : FnOK Try.prog 16 := ⟨_, Try.func16, by kernel_rfl, by kernel_rfl⟩
theorem fnok12 : FnOK Try.prog 12 := ⟨_, Try.func12, by kernel_rfl, by kernel_rfl⟩
theorem hz24 : HasZero Try.prog 24 := by unfold HasZero; kernel_rfl
theorem fnok10 : FnOK Try.prog 10 := ⟨_, Try.func10, by kernel_rfl, by kernel_rfl⟩
theorem fnok3 : FnOK Try.prog 3 := ⟨_, Try.func3, by kernel_rfl, by kernel_rfl⟩
theorem fnok15 : FnOK Try.prog 15 := ⟨_, Try.func15, by kernel_rfl, by kernel_rfl⟩
theorem zo3 : ZeroOf Try.prog 3 (0 : Int) := ⟨[.int .i64 0], by kernel_rfl, fun _ _ => ⟨rfl, by decide⟩⟩
theorem fnok19 : FnOK Try.prog 19 := ⟨_, Try.func19, by kernel_rfl, by kernel_rfl⟩

end Go.Proofs.Ytakkmmhjohadaaa
