/-
  Closed facts on the program.
-/
import Derived.Test.YtakkmmhjohadaaaRows
import Derived.Test.YtakkmmhjohadaaaTdmLi1
set_option maxRecDepth 100000
set_option linter.unusedSimpArgs false
set_option linter.unusedVariables false
namespace Go.Proofs.Ytakkmmhjohadaaa
open Go Go.DB Go.RowKit

theorem mixed : Try.prog.follows .mixedOrders = true := by kernel_rfl

theorem fnok6 : FnOK Try.prog 6 := ⟨_, Try.func6, by kernel_rfl, by kernel_rfl⟩
theorem ty56 : Ty Try.prog 56 (List Branch) := ⟨⟨_, Try.underlying56, rfl⟩, by kernel_rfl⟩
theorem ty3 : Ty Try.prog 3 Int := ⟨⟨_, Try.underlying3, rfl⟩, by kernel_rfl⟩
theorem fnok29 : FnOK Try.prog 29 := ⟨_, Try.func29, by kernel_rfl, by kernel_rfl⟩
theorem fnok39 : FnOK Try.prog 39 := ⟨_, Try.func39, by kernel_rfl, by kernel_rfl⟩
theorem sl56 : SliceOf Try.prog 56 67 := Try.underlying56
theorem fnok73 : FnOK Try.prog 73 := ⟨_, Try.func73, by kernel_rfl, by kernel_rfl⟩
theorem sl100 : SliceOf Try.prog 100 4 := Try.underlying100
theorem ty4 : Ty Try.prog 4 Bool := ⟨⟨_, Try.underlying4, rfl⟩, by kernel_rfl⟩
theorem rk100 : RowOK Try.prog 100 4 Bool := ⟨sl100, ty4, by kernel_rfl⟩
theorem zo4 : ZeroOf Try.prog 4 false := ⟨[.bool false], by kernel_rfl, fun _ _ => rfl⟩
theorem ty67 : Ty Try.prog 67 Branch := ⟨⟨_, Try.underlying67, rfl⟩, by kernel_rfl⟩
theorem zo67 : ZeroOf Try.prog 67 (⟨(0 : Int), (0 : Int), ([] : (List Int))⟩ : Branch) := ⟨[.int .i64 0, .int .i64 0, .slice none 0 0], by kernel_rfl, fun _ _ => ⟨[_], _, rfl, ⟨rfl, by decide⟩, ⟨[_], _, rfl, ⟨rfl, by decide⟩, ⟨none, 0, rfl, Nat.le_refl _, by decide, rfl⟩⟩⟩⟩
theorem fd67_0 : FieldAt Try.prog 67 0 0 := ⟨_, _, Try.underlying67, rfl, rfl, by kernel_rfl⟩
theorem hfd67_0 : HasField Branch Int 0 Branch.W_ := ⟨by decide, fun M x cs w h => (HasField.fst HasField.self).2 M _ cs w h⟩
theorem fd67_1 : FieldAt Try.prog 67 1 1 := ⟨_, _, Try.underlying67, rfl, rfl, by kernel_rfl⟩
theorem hfd67_1 : HasField Branch Int 1 Branch.H := ⟨by decide, fun M x cs w h => (HasField.snd (HasField.fst HasField.self)).2 M _ cs w h⟩
theorem fd67_2 : FieldAt Try.prog 67 2 2 := ⟨_, _, Try.underlying67, rfl, rfl, by kernel_rfl⟩
theorem hfd67_2 : HasField Branch (List Int) 2 Branch.Kids := ⟨by decide, fun M x cs w h => (HasField.snd (HasField.snd HasField.self)).2 M _ cs w h⟩
theorem ty23 : Ty Try.prog 23 (List Int) := ⟨⟨_, Try.underlying23, rfl⟩, by kernel_rfl⟩
theorem sl23 : SliceOf Try.prog 23 3 := Try.underlying23
theorem fnok68 : FnOK Try.prog 68 := ⟨_, Try.func68, by kernel_rfl, by kernel_rfl⟩
theorem fnok82 : FnOK Try.prog 82 := ⟨_, Try.func82, by kernel_rfl, by kernel_rfl⟩
theorem fnok67 : FnOK Try.prog 67 := ⟨_, Try.func67, by kernel_rfl, by kernel_rfl⟩
theorem hz3 : HasZero Try.prog 3 := by unfold HasZero; kernel_rfl
theorem sl64 : SliceOf Try.prog 64 23 := Try.underlying64
theorem hz23 : HasZero Try.prog 23 := by unfold HasZero; kernel_rfl
theorem rk64 : RowOK Try.prog 64 23 (List Int) := ⟨sl64, ty23, by kernel_rfl⟩
theorem rk23 : RowOK Try.prog 23 3 Int := ⟨sl23, ty3, by kernel_rfl⟩
theorem zo3 : ZeroOf Try.prog 3 (0 : Int) := ⟨[.int .i64 0], by kernel_rfl, fun _ _ => ⟨rfl, by decide⟩⟩
theorem zvc_Tree_drawer_o23 : ∀ (M : MSet) (w : World), Rep.cells M (⟨([] : (List Branch)), (0 : Int), ⟨.slice none 0 0⟩, ⟨.slice none 0 0⟩⟩ : Tree_drawer_o23) [.slice none 0 0, .int .i64 0, .slice none 0 0, .slice none 0 0] w := fun _ _ => ⟨[_], _, rfl, ⟨none, 0, rfl, Nat.le_refl _, by decide, rfl⟩, ⟨[_], _, rfl, ⟨rfl, by decide⟩, ⟨[_], _, rfl, ⟨rfl, rfl, rfl⟩, ⟨rfl, rfl, rfl⟩⟩⟩⟩
theorem hv_Tree_drawer_o23_3 : HasField Tree_drawer_o23 Raw 3 Tree_drawer_o23.moved := ⟨by decide, fun M x cs w h => (HasField.snd (HasField.snd (HasField.snd HasField.self))).2 M _ cs w h⟩
theorem sv_Tree_drawer_o23_3 : SetField Tree_drawer_o23 Raw 3 (fun x z => { x with moved := z }) := ⟨by decide, fun M x z cs zs w h hz => (SetField.snd (SetField.snd (SetField.snd SetField.self))).2 M _ z cs zs w h hz⟩
theorem hv_Tree_drawer_o23_2 : HasField Tree_drawer_o23 Raw 2 Tree_drawer_o23.x := ⟨by decide, fun M x cs w h => (HasField.snd (HasField.snd (HasField.fst HasField.self))).2 M _ cs w h⟩
theorem sv_Tree_drawer_o23_2 : SetField Tree_drawer_o23 Raw 2 (fun x z => { x with x := z }) := ⟨by decide, fun M x z cs zs w h hz => (SetField.snd (SetField.snd (SetField.fst SetField.self))).2 M _ z cs zs w h hz⟩
theorem hv_Tree_drawer_o23_1 : HasField Tree_drawer_o23 Int 1 Tree_drawer_o23.gap := ⟨by decide, fun M x cs w h => (HasField.snd (HasField.fst HasField.self)).2 M _ cs w h⟩
theorem sv_Tree_drawer_o23_1 : SetField Tree_drawer_o23 Int 1 (fun x z => { x with gap := z }) := ⟨by decide, fun M x z cs zs w h hz => (SetField.snd (SetField.fst SetField.self)).2 M _ z cs zs w h hz⟩
theorem hv_Tree_drawer_o23_0 : HasField Tree_drawer_o23 (List Branch) 0 Tree_drawer_o23.t := ⟨by decide, fun M x cs w h => (HasField.fst HasField.self).2 M _ cs w h⟩
theorem sv_Tree_drawer_o23_0 : SetField Tree_drawer_o23 (List Branch) 0 (fun x z => { x with t := z }) := ⟨by decide, fun M x z cs zs w h hz => (SetField.fst SetField.self).2 M _ z cs zs w h hz⟩
theorem bu97 : BuildAt Try.prog 97 [.slice none 0 0, .int .i64 0, .slice none 0 0, .slice none 0 0] [(0, 1), (1, 1), (2, 1), (3, 1)] := ⟨by kernel_rfl, _, Try.underlying97, by kernel_rfl⟩
theorem fnok66 : FnOK Try.prog 66 := ⟨_, Try.func66, by kernel_rfl, by kernel_rfl⟩
theorem fd97_0 : FieldAt Try.prog 97 0 0 := ⟨_, _, Try.underlying97, rfl, rfl, by kernel_rfl⟩
theorem sl98 : SliceOf Try.prog 98 113 := Try.underlying98
theorem ty113 : Ty Try.prog 113 Tree_stretch := ⟨⟨_, Try.underlying113, rfl⟩, by kernel_rfl⟩
theorem fd113_1 : FieldAt Try.prog 113 1 1 := ⟨_, _, Try.underlying113, rfl, rfl, by kernel_rfl⟩
theorem hfd113_1 : HasField Tree_stretch Int 1 Tree_stretch.to_ := ⟨by decide, fun M x cs w h => (HasField.snd HasField.self).2 M _ cs w h⟩
theorem fd97_1 : FieldAt Try.prog 97 1 1 := ⟨_, _, Try.underlying97, rfl, rfl, by kernel_rfl⟩
theorem fd113_0 : FieldAt Try.prog 113 0 0 := ⟨_, _, Try.underlying113, rfl, rfl, by kernel_rfl⟩
theorem hfd113_0 : HasField Tree_stretch Int 0 Tree_stretch.from_ := ⟨by decide, fun M x cs w h => (HasField.fst HasField.self).2 M _ cs w h⟩
theorem fd97_3 : FieldAt Try.prog 97 3 3 := ⟨_, _, Try.underlying97, rfl, rfl, by kernel_rfl⟩
theorem hfd97_3 : HasField Tree_drawer (List Int) 3 Tree_drawer.moved := ⟨by decide, fun M x cs w h => (HasField.snd (HasField.snd (HasField.snd HasField.self))).2 M _ cs w h⟩
theorem tr23 : Ty Try.prog 23 Raw := ⟨⟨_, Try.underlying23, rfl⟩, by kernel_rfl⟩
theorem zo113 : ZeroOf Try.prog 113 (⟨(0 : Int), (0 : Int)⟩ : Tree_stretch) := ⟨[.int .i64 0, .int .i64 0], by kernel_rfl, fun _ _ => ⟨[_], _, rfl, ⟨rfl, by decide⟩, ⟨rfl, by decide⟩⟩⟩
theorem sf113_1 : SetField Tree_stretch Int 1 (fun x z => { x with to_ := z }) := ⟨by decide, fun M x z cs zs w h hz => (SetField.snd SetField.self).2 M _ z cs zs w h hz⟩
theorem sf113_0 : SetField Tree_stretch Int 0 (fun x z => { x with from_ := z }) := ⟨by decide, fun M x z cs zs w h hz => (SetField.fst SetField.self).2 M _ z cs zs w h hz⟩
theorem bu113 : BuildAt Try.prog 113 [.int .i64 0, .int .i64 0] [(0, 1), (1, 1)] := ⟨by kernel_rfl, _, Try.underlying113, by kernel_rfl⟩
theorem zc113 : ∀ (M : MSet) (w : World), Rep.cells M (⟨(0 : Int), (0 : Int)⟩ : Tree_stretch) [.int .i64 0, .int .i64 0] w := fun _ _ => ⟨[_], _, rfl, ⟨rfl, by decide⟩, ⟨rfl, by decide⟩⟩
theorem hz113 : HasZero Try.prog 113 := by unfold HasZero; kernel_rfl
theorem rk98 : RowOK Try.prog 98 113 Tree_stretch := ⟨sl98, ty113, by kernel_rfl⟩
theorem fd97_2 : FieldAt Try.prog 97 2 2 := ⟨_, _, Try.underlying97, rfl, rfl, by kernel_rfl⟩
theorem hfd97_2 : HasField Tree_drawer (List Int) 2 Tree_drawer.x := ⟨by decide, fun M x cs w h => (HasField.snd (HasField.snd (HasField.fst HasField.self))).2 M _ cs w h⟩
theorem fnok81 : FnOK Try.prog 81 := ⟨_, Try.func81, by kernel_rfl, by kernel_rfl⟩
theorem sl39 : SliceOf Try.prog 39 47 := Try.underlying39
theorem ty47 : Ty Try.prog 47 Point := ⟨⟨_, Try.underlying47, rfl⟩, by kernel_rfl⟩
theorem rk39 : RowOK Try.prog 39 47 Point := ⟨sl39, ty47, by kernel_rfl⟩
theorem zo47 : ZeroOf Try.prog 47 (⟨(0 : Int), (0 : Int)⟩ : Point) := ⟨[.int .i64 0, .int .i64 0], by kernel_rfl, fun _ _ => ⟨[_], _, rfl, ⟨rfl, by decide⟩, ⟨rfl, by decide⟩⟩⟩
theorem sf47_1 : SetField Point Int 1 (fun x z => { x with Y := z }) := ⟨by decide, fun M x z cs zs w h hz => (SetField.snd SetField.self).2 M _ z cs zs w h hz⟩
theorem sf47_0 : SetField Point Int 0 (fun x z => { x with X := z }) := ⟨by decide, fun M x z cs zs w h hz => (SetField.fst SetField.self).2 M _ z cs zs w h hz⟩
theorem bu47 : BuildAt Try.prog 47 [.int .i64 0, .int .i64 0] [(0, 1), (1, 1)] := ⟨by kernel_rfl, _, Try.underlying47, by kernel_rfl⟩
theorem zc47 : ∀ (M : MSet) (w : World), Rep.cells M (⟨(0 : Int), (0 : Int)⟩ : Point) [.int .i64 0, .int .i64 0] w := fun _ _ => ⟨[_], _, rfl, ⟨rfl, by decide⟩, ⟨rfl, by decide⟩⟩
theorem fd47_0 : FieldAt Try.prog 47 0 0 := ⟨_, _, Try.underlying47, rfl, rfl, by kernel_rfl⟩
theorem hfd47_0 : HasField Point Int 0 Point.X := ⟨by decide, fun M x cs w h => (HasField.fst HasField.self).2 M _ cs w h⟩
theorem fnok30 : FnOK Try.prog 30 := ⟨_, Try.func30, by kernel_rfl, by kernel_rfl⟩
theorem fnok13 : FnOK Try.prog 13 := ⟨_, Try.func13, by kernel_rfl, by kernel_rfl⟩
theorem sl87 : SliceOf Try.prog 87 24 := Try.underlying87
theorem ty24 : Ty Try.prog 24 Int := ⟨⟨_, Try.underlying24, rfl⟩, by kernel_rfl⟩
theorem hz24 : HasZero Try.prog 24 := by unfold HasZero; kernel_rfl
theorem fnok11 : FnOK Try.prog 11 := ⟨_, Try.func11, by kernel_rfl, by kernel_rfl⟩
theorem fnok16 : FnOK Try.prog 16 := ⟨_, Try.func16, by kernel_rfl, by kernel_rfl⟩
theorem fnok34 : FnOK Try.prog 34 := ⟨_, Try.func34, by kernel_rfl, by kernel_rfl⟩
theorem fnok22 : FnOK Try.prog 22 := ⟨_, Try.func22, by kernel_rfl, by kernel_rfl⟩
theorem sf67_1 : SetField Branch Int 1 (fun x z => { x with H := z }) := ⟨by decide, fun M x z cs zs w h hz => (SetField.snd (SetField.fst SetField.self)).2 M _ z cs zs w h hz⟩
theorem sf67_0 : SetField Branch Int 0 (fun x z => { x with W_ := z }) := ⟨by decide, fun M x z cs zs w h hz => (SetField.fst SetField.self).2 M _ z cs zs w h hz⟩
theorem bu67 : BuildAt Try.prog 67 [.int .i64 0, .int .i64 0, .slice none 0 0] [(0, 1), (1, 1), (2, 1)] := ⟨by kernel_rfl, _, Try.underlying67, by kernel_rfl⟩
theorem zc67 : ∀ (M : MSet) (w : World), Rep.cells M (⟨(0 : Int), (0 : Int), ([] : (List Int))⟩ : Branch) [.int .i64 0, .int .i64 0, .slice none 0 0] w := fun _ _ => ⟨[_], _, rfl, ⟨rfl, by decide⟩, ⟨[_], _, rfl, ⟨rfl, by decide⟩, ⟨none, 0, rfl, Nat.le_refl _, by decide, rfl⟩⟩⟩
theorem hz67 : HasZero Try.prog 67 := by unfold HasZero; kernel_rfl
theorem fnok32 : FnOK Try.prog 32 := ⟨_, Try.func32, by kernel_rfl, by kernel_rfl⟩
theorem fnok33 : FnOK Try.prog 33 := ⟨_, Try.func33, by kernel_rfl, by kernel_rfl⟩
theorem fnok69 : FnOK Try.prog 69 := ⟨_, Try.func69, by kernel_rfl, by kernel_rfl⟩
theorem zo104 : ZeroOf Try.prog 104 (⟨(GMap.nil : (GMap Int Int)), (GMap.nil : (GMap Int Int))⟩ : Ref_drawn) := ⟨[.map none, .map none], by kernel_rfl, fun _ _ => ⟨[_], _, rfl, map_zero, map_zero⟩⟩
theorem mo102 : MapOf Try.prog 102 3 3 (MKey.desc Int) := ⟨Try.underlying102, Try.underlying3⟩
theorem zvc_Ref_drawn_o01 : ∀ (M : MSet) (w : World), Rep.cells M (⟨⟨.map none⟩, ⟨.map none⟩⟩ : Ref_drawn_o01) [.map none, .map none] w := fun _ _ => ⟨[_], _, rfl, ⟨rfl, rfl, rfl⟩, ⟨rfl, rfl, rfl⟩⟩
theorem zv_Ref_drawn_o01 : ZeroOf Try.prog 104 (⟨⟨.map none⟩, ⟨.map none⟩⟩ : Ref_drawn_o01) := ⟨[.map none, .map none], by kernel_rfl, zvc_Ref_drawn_o01⟩
theorem hv_Ref_drawn_o01_1 : HasField Ref_drawn_o01 Raw 1 Ref_drawn_o01.level := ⟨by decide, fun M x cs w h => (HasField.snd HasField.self).2 M _ cs w h⟩
theorem sv_Ref_drawn_o01_1 : SetField Ref_drawn_o01 Raw 1 (fun x z => { x with level := z }) := ⟨by decide, fun M x z cs zs w h hz => (SetField.snd SetField.self).2 M _ z cs zs w h hz⟩
theorem hv_Ref_drawn_o01_0 : HasField Ref_drawn_o01 Raw 0 Ref_drawn_o01.x := ⟨by decide, fun M x cs w h => (HasField.fst HasField.self).2 M _ cs w h⟩
theorem sv_Ref_drawn_o01_0 : SetField Ref_drawn_o01 Raw 0 (fun x z => { x with x := z }) := ⟨by decide, fun M x z cs zs w h hz => (SetField.fst SetField.self).2 M _ z cs zs w h hz⟩
theorem bu104 : BuildAt Try.prog 104 [.map none, .map none] [(0, 1), (1, 1)] := ⟨by kernel_rfl, _, Try.underlying104, by kernel_rfl⟩
theorem ty104 : Ty Try.prog 104 Ref_drawn := ⟨⟨_, Try.underlying104, rfl⟩, by kernel_rfl⟩
theorem fd104_0 : FieldAt Try.prog 104 0 0 := ⟨_, _, Try.underlying104, rfl, rfl, by kernel_rfl⟩
theorem hfd104_0 : HasField Ref_drawn (GMap Int Int) 0 Ref_drawn.x := ⟨by decide, fun M x cs w h => (HasField.fst HasField.self).2 M _ cs w h⟩
theorem tr102 : Ty Try.prog 102 Raw := ⟨⟨_, Try.underlying102, rfl⟩, by kernel_rfl⟩
theorem ty102 : Ty Try.prog 102 (GMap Int Int) := ⟨⟨_, Try.underlying102, rfl⟩, by kernel_rfl⟩
theorem fd104_1 : FieldAt Try.prog 104 1 1 := ⟨_, _, Try.underlying104, rfl, rfl, by kernel_rfl⟩
theorem hfd104_1 : HasField Ref_drawn (GMap Int Int) 1 Ref_drawn.level := ⟨by decide, fun M x cs w h => (HasField.snd HasField.self).2 M _ cs w h⟩
theorem fnok83 : FnOK Try.prog 83 := ⟨_, Try.func83, by kernel_rfl, by kernel_rfl⟩
theorem fnok31 : FnOK Try.prog 31 := ⟨_, Try.func31, by kernel_rfl, by kernel_rfl⟩
theorem fnok24 : FnOK Try.prog 24 := ⟨_, Try.func24, by kernel_rfl, by kernel_rfl⟩
theorem eq47 : DB.EqAt Try.prog 47 Point := eqAt_ints (n := 2) (fun p => [p.X, p.Y]) (fun a b => by cases a; cases b; simp) (fun _ => rfl) (fun M v w a h => by obtain ⟨cs, h, rfl⟩ := h; obtain ⟨_, _, rfl, ⟨rfl, _⟩, ⟨rfl, _⟩⟩ := h; rfl) ⟨by kernel_rfl, by kernel_rfl, by kernel_rfl, by kernel_rfl⟩

end Go.Proofs.Ytakkmmhjohadaaa
