/-
  Closed facts on the program.
-/
import Derived.Test.YtbahnfkccdlpnaaRows
import Derived.Test.YtbahnfkccdlpnaaSweLi1
set_option maxRecDepth 100000
set_option linter.unusedSimpArgs false
set_option linter.unusedVariables false
namespace Go.Proofs.Ytbahnfkccdlpnaa
open Go Go.DB Go.RowKit

theorem mixed : Try.prog.follows .mixedOrders = true := by kernel_rfl
def cloneO97_ren : Shelf.Ren where
  f := fun x => match x with | 41 => 97 | n => n
  t := fun x => match x with | 22 => 22 | 23 => 32 | 4 => 4 | n => n
  g := fun n => n
theorem cloneO97_lay : SlLaysE0.n41 Try.prog cloneO97_ren where
  mixed := by kernel_rfl
  f41 := ⟨ "slices.Clone[[][]int,[]int]", of_decide_eq_true (by kernel_rfl), Try.func97.trans (by kernel_rfl)⟩
  t4 := Try.underlying4
  a4 := Try.isAgg4
  z4 := Try.sizeOf4
  v4 := Try.zeroValue4
  t22 := Try.underlying22
  a22 := Try.isAgg22
  z22 := Try.sizeOf22
  v22 := Try.zeroValue22

theorem fnok3 : FnOK Try.prog 3 := ⟨_, Try.func3, by kernel_rfl, by kernel_rfl⟩
theorem fnok10 : FnOK Try.prog 10 := ⟨_, Try.func10, by kernel_rfl, by kernel_rfl⟩
theorem fnok54 : FnOK Try.prog 54 := ⟨_, Try.func54, by kernel_rfl, by kernel_rfl⟩
theorem sl22 : SliceOf Try.prog 22 32 := Try.underlying22
theorem ty32 : Ty Try.prog 32 (List Int) := ⟨⟨_, Try.underlying32, rfl⟩, by kernel_rfl⟩
theorem fnok96 : FnOK Try.prog 96 := ⟨_, Try.func96, by kernel_rfl, by kernel_rfl⟩
theorem sl32 : SliceOf Try.prog 32 3 := Try.underlying32
theorem ty3 : Ty Try.prog 3 Int := ⟨⟨_, Try.underlying3, rfl⟩, by kernel_rfl⟩
theorem zo4 : ZeroOf Try.prog 4 false := ⟨[.bool false], by kernel_rfl, fun _ _ => rfl⟩
theorem mo133 : MapOf Try.prog 133 3 4 (MKey.desc Int) := ⟨Try.underlying133, Try.underlying3⟩
theorem zo3 : ZeroOf Try.prog 3 (0 : Int) := ⟨[.int .i64 0], by kernel_rfl, fun _ _ => ⟨rfl, by decide⟩⟩
theorem mo88 : MapOf Try.prog 88 3 3 (MKey.desc Int) := ⟨Try.underlying88, Try.underlying3⟩
theorem sl23 : SliceOf Try.prog 23 79 := Try.underlying23
theorem ty79 : Ty Try.prog 79 Link := ⟨⟨_, Try.underlying79, rfl⟩, by kernel_rfl⟩
theorem zo79 : ZeroOf Try.prog 79 (⟨(0 : Int), (0 : Int)⟩ : Link) := ⟨[.int .i64 0, .int .i64 0], by kernel_rfl, fun _ _ => ⟨[_], _, rfl, ⟨rfl, by decide⟩, ⟨rfl, by decide⟩⟩⟩
theorem fd79_0 : FieldAt Try.prog 79 0 0 := ⟨_, _, Try.underlying79, rfl, rfl, by kernel_rfl⟩
theorem hfd79_0 : HasField Link Int 0 Link.From := ⟨by decide, fun M x cs w h => (HasField.fst HasField.self).2 M _ cs w h⟩
theorem fd79_1 : FieldAt Try.prog 79 1 1 := ⟨_, _, Try.underlying79, rfl, rfl, by kernel_rfl⟩
theorem hfd79_1 : HasField Link Int 1 Link.To := ⟨by decide, fun M x cs w h => (HasField.snd HasField.self).2 M _ cs w h⟩
theorem fnok55 : FnOK Try.prog 55 := ⟨_, Try.func55, by kernel_rfl, by kernel_rfl⟩
theorem fnok97 : FnOK Try.prog 97 := ⟨_, Try.func97, by kernel_rfl, by kernel_rfl⟩
theorem hz32 : HasZero Try.prog 32 := by unfold HasZero; kernel_rfl
theorem rk22 : RowOK Try.prog 22 32 (List Int) := ⟨sl22, ty32, by kernel_rfl⟩
theorem zr22 : ZeroOf Try.prog 22 (⟨.slice none 0 0⟩ : Raw) := ⟨[.slice none 0 0], by kernel_rfl, fun _ _ => ⟨rfl, rfl, rfl⟩⟩
theorem ty22 : Ty Try.prog 22 (List (List Int)) := ⟨⟨_, Try.underlying22, rfl⟩, by kernel_rfl⟩
theorem tr22 : Ty Try.prog 22 Raw := ⟨⟨_, Try.underlying22, rfl⟩, by kernel_rfl⟩
theorem ty23 : Ty Try.prog 23 (List Link) := ⟨⟨_, Try.underlying23, rfl⟩, by kernel_rfl⟩
theorem fnok98 : FnOK Try.prog 98 := ⟨_, Try.func98, by kernel_rfl, by kernel_rfl⟩
theorem fnok83 : FnOK Try.prog 83 := ⟨_, Try.func83, by kernel_rfl, by kernel_rfl⟩
theorem zo88 : ZeroOf Try.prog 88 (GMap.nil : (GMap Int Int)) := ⟨[.map none], by kernel_rfl, fun _ _ => map_zero⟩
theorem ty88 : Ty Try.prog 88 (GMap Int Int) := ⟨⟨_, Try.underlying88, rfl⟩, by kernel_rfl⟩
theorem fnok50 : FnOK Try.prog 50 := ⟨_, Try.func50, by kernel_rfl, by kernel_rfl⟩
theorem hz79 : HasZero Try.prog 79 := by unfold HasZero; kernel_rfl
theorem rk23 : RowOK Try.prog 23 79 Link := ⟨sl23, ty79, by kernel_rfl⟩
theorem fnok115 : FnOK Try.prog 115 := ⟨_, Try.func115, by kernel_rfl, by kernel_rfl⟩
theorem fnok86 : FnOK Try.prog 86 := ⟨_, Try.func86, by kernel_rfl, by kernel_rfl⟩
theorem fnok112 : FnOK Try.prog 112 := ⟨_, Try.func112, by kernel_rfl, by kernel_rfl⟩
theorem fnok81 : FnOK Try.prog 81 := ⟨_, Try.func81, by kernel_rfl, by kernel_rfl⟩
theorem fnok100 : FnOK Try.prog 100 := ⟨_, Try.func100, by kernel_rfl, by kernel_rfl⟩
theorem zr134 : ZeroOf Try.prog 134 (⟨.map none⟩ : Raw) := ⟨[.map none], by kernel_rfl, fun _ _ => ⟨rfl, rfl, rfl⟩⟩
theorem ty134 : Ty Try.prog 134 (GMap Int Layer_mean) := ⟨⟨_, Try.underlying134, rfl⟩, by kernel_rfl⟩
theorem tr134 : Ty Try.prog 134 Raw := ⟨⟨_, Try.underlying134, rfl⟩, by kernel_rfl⟩
theorem zo137 : ZeroOf Try.prog 137 (⟨(0 : Int), (0 : Int)⟩ : Layer_mean) := ⟨[.int .i64 0, .int .i64 0], by kernel_rfl, fun _ _ => ⟨[_], _, rfl, ⟨rfl, by decide⟩, ⟨rfl, by decide⟩⟩⟩
theorem mo134 : MapOf Try.prog 134 3 137 (MKey.desc Int) := ⟨Try.underlying134, Try.underlying3⟩
theorem ty137 : Ty Try.prog 137 Layer_mean := ⟨⟨_, Try.underlying137, rfl⟩, by kernel_rfl⟩
theorem fd137_0 : FieldAt Try.prog 137 0 0 := ⟨_, _, Try.underlying137, rfl, rfl, by kernel_rfl⟩
theorem hfd137_0 : HasField Layer_mean Int 0 Layer_mean.sum := ⟨by decide, fun M x cs w h => (HasField.fst HasField.self).2 M _ cs w h⟩
theorem fd137_1 : FieldAt Try.prog 137 1 1 := ⟨_, _, Try.underlying137, rfl, rfl, by kernel_rfl⟩
theorem hfd137_1 : HasField Layer_mean Int 1 Layer_mean.many := ⟨by decide, fun M x cs w h => (HasField.snd HasField.self).2 M _ cs w h⟩
theorem sf137_1 : SetField Layer_mean Int 1 (fun x z => { x with many := z }) := ⟨by decide, fun M x z cs zs w h hz => (SetField.snd SetField.self).2 M _ z cs zs w h hz⟩
theorem sf137_0 : SetField Layer_mean Int 0 (fun x z => { x with sum := z }) := ⟨by decide, fun M x z cs zs w h hz => (SetField.fst SetField.self).2 M _ z cs zs w h hz⟩
theorem bu137 : BuildAt Try.prog 137 [.int .i64 0, .int .i64 0] [(0, 1), (1, 1)] := ⟨by kernel_rfl, _, Try.underlying137, by kernel_rfl⟩
theorem zc137 : ∀ (M : MSet) (w : World), Rep.cells M (⟨(0 : Int), (0 : Int)⟩ : Layer_mean) [.int .i64 0, .int .i64 0] w := fun _ _ => ⟨[_], _, rfl, ⟨rfl, by decide⟩, ⟨rfl, by decide⟩⟩
theorem ft137_1 : FieldTy Try.prog 137 1 1 3 := ⟨_, _, Try.underlying137, rfl, rfl, rfl⟩
theorem fnok27 : FnOK Try.prog 27 := ⟨_, Try.func27, by kernel_rfl, by kernel_rfl⟩
theorem hz3 : HasZero Try.prog 3 := by unfold HasZero; kernel_rfl
theorem rk32 : RowOK Try.prog 32 3 Int := ⟨sl32, ty3, by kernel_rfl⟩
theorem fnok116 : FnOK Try.prog 116 := ⟨_, Try.func116, by kernel_rfl, by kernel_rfl⟩
theorem fnok133 : FnOK Try.prog 133 := ⟨_, Try.func133, by kernel_rfl, by kernel_rfl⟩
theorem fnok140 : FnOK Try.prog 140 := ⟨_, Try.func140, by kernel_rfl, by kernel_rfl⟩
theorem fnok141 : FnOK Try.prog 141 := ⟨_, Try.func141, by kernel_rfl, by kernel_rfl⟩
theorem fnok144 : FnOK Try.prog 144 := ⟨_, Try.func144, by kernel_rfl, by kernel_rfl⟩
theorem fnok145 : FnOK Try.prog 145 := ⟨_, Try.func145, by kernel_rfl, by kernel_rfl⟩
theorem fnok117 : FnOK Try.prog 117 := ⟨_, Try.func117, by kernel_rfl, by kernel_rfl⟩
theorem fnok63 : FnOK Try.prog 63 := ⟨_, Try.func63, by kernel_rfl, by kernel_rfl⟩
theorem fnok105 : FnOK Try.prog 105 := ⟨_, Try.func105, by kernel_rfl, by kernel_rfl⟩
theorem fnok101 : FnOK Try.prog 101 := ⟨_, Try.func101, by kernel_rfl, by kernel_rfl⟩
theorem fnok99 : FnOK Try.prog 99 := ⟨_, Try.func99, by kernel_rfl, by kernel_rfl⟩
theorem fnok102 : FnOK Try.prog 102 := ⟨_, Try.func102, by kernel_rfl, by kernel_rfl⟩
theorem fnok11 : FnOK Try.prog 11 := ⟨_, Try.func11, by kernel_rfl, by kernel_rfl⟩
theorem fnok56 : FnOK Try.prog 56 := ⟨_, Try.func56, by kernel_rfl, by kernel_rfl⟩
theorem fnok28 : FnOK Try.prog 28 := ⟨_, Try.func28, by kernel_rfl, by kernel_rfl⟩
theorem fnok45 : FnOK Try.prog 45 := ⟨_, Try.func45, by kernel_rfl, by kernel_rfl⟩
theorem fnok79 : FnOK Try.prog 79 := ⟨_, Try.func79, by kernel_rfl, by kernel_rfl⟩
theorem fnok31 : FnOK Try.prog 31 := ⟨_, Try.func31, by kernel_rfl, by kernel_rfl⟩
theorem sl109 : SliceOf Try.prog 109 24 := Try.underlying109
theorem ty24 : Ty Try.prog 24 Int := ⟨⟨_, Try.underlying24, rfl⟩, by kernel_rfl⟩
theorem hz24 : HasZero Try.prog 24 := by unfold HasZero; kernel_rfl
theorem fnok44 : FnOK Try.prog 44 := ⟨_, Try.func44, by kernel_rfl, by kernel_rfl⟩
theorem fnok12 : FnOK Try.prog 12 := ⟨_, Try.func12, by kernel_rfl, by kernel_rfl⟩
theorem fnok19 : FnOK Try.prog 19 := ⟨_, Try.func19, by kernel_rfl, by kernel_rfl⟩
theorem fnok65 : FnOK Try.prog 65 := ⟨_, Try.func65, by kernel_rfl, by kernel_rfl⟩
theorem fnok13 : FnOK Try.prog 13 := ⟨_, Try.func13, by kernel_rfl, by kernel_rfl⟩
theorem zr91 : ZeroOf Try.prog 91 (⟨.nilFunc⟩ : Raw) := ⟨[.nilFunc], by kernel_rfl, fun _ _ => ⟨rfl, rfl, rfl⟩⟩
theorem tr91 : Ty Try.prog 91 Raw := ⟨⟨_, Try.underlying91, rfl⟩, by kernel_rfl⟩
theorem fnok57 : FnOK Try.prog 57 := ⟨_, Try.func57, by kernel_rfl, by kernel_rfl⟩
theorem tr32 : Ty Try.prog 32 Raw := ⟨⟨_, Try.underlying32, rfl⟩, by kernel_rfl⟩
theorem rkraw22 : RowOK Try.prog 22 32 Raw := ⟨sl22, tr32, by kernel_rfl⟩
theorem fnok58 : FnOK Try.prog 58 := ⟨_, Try.func58, by kernel_rfl, by kernel_rfl⟩
theorem fnok103 : FnOK Try.prog 103 := ⟨_, Try.func103, by kernel_rfl, by kernel_rfl⟩
theorem fnok118 : FnOK Try.prog 118 := ⟨_, Try.func118, by kernel_rfl, by kernel_rfl⟩
theorem fnok42 : FnOK Try.prog 42 := ⟨_, Try.func42, by kernel_rfl, by kernel_rfl⟩
theorem fnok82 : FnOK Try.prog 82 := ⟨_, Try.func82, by kernel_rfl, by kernel_rfl⟩
theorem zo22 : ZeroOf Try.prog 22 ([] : (List (List Int))) := ⟨[.slice none 0 0], by kernel_rfl, fun _ _ => ⟨none, 0, rfl, Nat.le_refl _, by decide, rfl⟩⟩
theorem fnok60 : FnOK Try.prog 60 := ⟨_, Try.func60, by kernel_rfl, by kernel_rfl⟩
theorem sf95_2 : SetField Ref_mean Int 2 (fun x z => { x with den := z }) := ⟨by decide, fun M x z cs zs w h hz => (SetField.snd (SetField.snd SetField.self)).2 M _ z cs zs w h hz⟩
theorem sf95_1 : SetField Ref_mean Int 1 (fun x z => { x with num := z }) := ⟨by decide, fun M x z cs zs w h hz => (SetField.snd (SetField.fst SetField.self)).2 M _ z cs zs w h hz⟩
theorem sf95_0 : SetField Ref_mean Int 0 (fun x z => { x with node := z }) := ⟨by decide, fun M x z cs zs w h hz => (SetField.fst SetField.self).2 M _ z cs zs w h hz⟩
theorem bu95 : BuildAt Try.prog 95 [.int .i64 0, .int .i64 0, .int .i64 0] [(0, 1), (1, 1), (2, 1)] := ⟨by kernel_rfl, _, Try.underlying95, by kernel_rfl⟩
theorem zc95 : ∀ (M : MSet) (w : World), Rep.cells M (⟨(0 : Int), (0 : Int), (0 : Int)⟩ : Ref_mean) [.int .i64 0, .int .i64 0, .int .i64 0] w := fun _ _ => ⟨[_], _, rfl, ⟨rfl, by decide⟩, ⟨[_], _, rfl, ⟨rfl, by decide⟩, ⟨rfl, by decide⟩⟩⟩
theorem zo95 : ZeroOf Try.prog 95 (⟨(0 : Int), (0 : Int), (0 : Int)⟩ : Ref_mean) := ⟨[.int .i64 0, .int .i64 0, .int .i64 0], by kernel_rfl, fun _ _ => ⟨[_], _, rfl, ⟨rfl, by decide⟩, ⟨[_], _, rfl, ⟨rfl, by decide⟩, ⟨rfl, by decide⟩⟩⟩⟩
theorem ty95 : Ty Try.prog 95 Ref_mean := ⟨⟨_, Try.underlying95, rfl⟩, by kernel_rfl⟩
theorem fd95_1 : FieldAt Try.prog 95 1 1 := ⟨_, _, Try.underlying95, rfl, rfl, by kernel_rfl⟩
theorem hfd95_1 : HasField Ref_mean Int 1 Ref_mean.num := ⟨by decide, fun M x cs w h => (HasField.snd (HasField.fst HasField.self)).2 M _ cs w h⟩
theorem fd95_2 : FieldAt Try.prog 95 2 2 := ⟨_, _, Try.underlying95, rfl, rfl, by kernel_rfl⟩
theorem hfd95_2 : HasField Ref_mean Int 2 Ref_mean.den := ⟨by decide, fun M x cs w h => (HasField.snd (HasField.snd HasField.self)).2 M _ cs w h⟩
theorem sl93 : SliceOf Try.prog 93 95 := Try.underlying93
theorem hz95 : HasZero Try.prog 95 := by unfold HasZero; kernel_rfl
theorem rk93 : RowOK Try.prog 93 95 Ref_mean := ⟨sl93, ty95, by kernel_rfl⟩
theorem fnok61 : FnOK Try.prog 61 := ⟨_, Try.func61, by kernel_rfl, by kernel_rfl⟩
theorem fnok104 : FnOK Try.prog 104 := ⟨_, Try.func104, by kernel_rfl, by kernel_rfl⟩
theorem fnok119 : FnOK Try.prog 119 := ⟨_, Try.func119, by kernel_rfl, by kernel_rfl⟩
theorem fnok120 : FnOK Try.prog 120 := ⟨_, Try.func120, by kernel_rfl, by kernel_rfl⟩
theorem fnok134 : FnOK Try.prog 134 := ⟨_, Try.func134, by kernel_rfl, by kernel_rfl⟩
theorem fnok142 : FnOK Try.prog 142 := ⟨_, Try.func142, by kernel_rfl, by kernel_rfl⟩
theorem fnok62 : FnOK Try.prog 62 := ⟨_, Try.func62, by kernel_rfl, by kernel_rfl⟩
theorem fd95_0 : FieldAt Try.prog 95 0 0 := ⟨_, _, Try.underlying95, rfl, rfl, by kernel_rfl⟩
theorem hfd95_0 : HasField Ref_mean Int 0 Ref_mean.node := ⟨by decide, fun M x cs w h => (HasField.fst HasField.self).2 M _ cs w h⟩
theorem fnok59 : FnOK Try.prog 59 := ⟨_, Try.func59, by kernel_rfl, by kernel_rfl⟩
theorem fnok14 : FnOK Try.prog 14 := ⟨_, Try.func14, by kernel_rfl, by kernel_rfl⟩
theorem fnok15 : FnOK Try.prog 15 := ⟨_, Try.func15, by kernel_rfl, by kernel_rfl⟩
theorem fnok16 : FnOK Try.prog 16 := ⟨_, Try.func16, by kernel_rfl, by kernel_rfl⟩

end Go.Proofs.Ytbahnfkccdlpnaa
