/-
  Closed facts on the program.
-/
import Derived.Test.YtgphjfcibeijiaaDoorRows
import Derived.Test.YtgphjfcibeijiaaDoorStyLi1
set_option maxRecDepth 100000
set_option linter.unusedSimpArgs false
set_option linter.unusedVariables false
namespace Go.Proofs.YtgphjfcibeijiaaDoor
open Go Go.DB Go.RowKit

theorem mixed : Tryd.prog.follows .mixedOrders = true := by kernel_rfl
def trimStr_ren : Shelf.Ren where
  f := fun x => match x with | 160 => 25 | 232 => 32 | 231 => 31 | 227 => 33 | 234 => 35 | 233 => 34 | 236 => 37 | 235 => 36 | 228 => 49 | 271 => 52 | 151 => 51 | 197 => 50 | 120 => 60 | 152 => 59 | 260 => 58 | 137 => 62 | 119 => 63 | 224 => 64 | 225 => 65 | 217 => 66 | 266 => 67 | n => n
  t := fun x => match x with | 9 => 9 | 4 => 4 | 3 => 3 | 5 => 5 | 117 => 59 | 116 => 58 | 0 => 0 | 124 => 62 | 21 => 21 | 105 => 76 | 46 => 54 | 119 => 89 | 139 => 92 | 138 => 91 | n => n
  g := fun x => match x with | 3 => 1 | 4 => 2 | n => n
theorem trimStr_lay : Lays.n160 Tryd.prog trimStr_ren where
  mixed := by kernel_rfl
  f119 := Tryd.func63.trans (by kernel_rfl)
  f120 := Tryd.func60.trans (by kernel_rfl)
  f137 := Tryd.func62.trans (by kernel_rfl)
  f151 := Tryd.func51.trans (by kernel_rfl)
  f152 := Tryd.func59.trans (by kernel_rfl)
  f160 := Tryd.func25.trans (by kernel_rfl)
  f197 := Tryd.func50.trans (by kernel_rfl)
  f217 := Tryd.func66.trans (by kernel_rfl)
  f224 := Tryd.func64.trans (by kernel_rfl)
  f225 := Tryd.func65.trans (by kernel_rfl)
  f227 := Tryd.func33.trans (by kernel_rfl)
  f228 := Tryd.func49.trans (by kernel_rfl)
  f231 := Tryd.func31.trans (by kernel_rfl)
  f232 := Tryd.func32.trans (by kernel_rfl)
  f233 := Tryd.func34.trans (by kernel_rfl)
  f234 := Tryd.func35.trans (by kernel_rfl)
  f235 := Tryd.func36.trans (by kernel_rfl)
  f236 := Tryd.func37.trans (by kernel_rfl)
  f260 := Tryd.func58.trans (by kernel_rfl)
  f266 := Tryd.func67.trans (by kernel_rfl)
  f271 := Tryd.func52.trans (by kernel_rfl)
  t0 := Tryd.underlying0
  a0 := Tryd.isAgg0
  z0 := Tryd.sizeOf0
  v0 := Tryd.zeroValue0
  t3 := Tryd.underlying3
  a3 := Tryd.isAgg3
  z3 := Tryd.sizeOf3
  v3 := Tryd.zeroValue3
  t4 := Tryd.underlying4
  a4 := Tryd.isAgg4
  z4 := Tryd.sizeOf4
  v4 := Tryd.zeroValue4
  t5 := Tryd.underlying5
  a5 := Tryd.isAgg5
  z5 := Tryd.sizeOf5
  v5 := Tryd.zeroValue5
  t9 := Tryd.underlying9
  a9 := Tryd.isAgg9
  z9 := Tryd.sizeOf9
  v9 := Tryd.zeroValue9
  t21 := Tryd.underlying21
  a21 := Tryd.isAgg21
  z21 := Tryd.sizeOf21
  v21 := Tryd.zeroValue21
  t46 := Tryd.underlying54
  a46 := Tryd.isAgg54
  z46 := Tryd.sizeOf54
  v46 := Tryd.zeroValue54
  t105 := Tryd.underlying76
  a105 := Tryd.isAgg76
  z105 := Tryd.sizeOf76
  v105 := Tryd.zeroValue76
  t116 := Tryd.underlying58
  a116 := Tryd.isAgg58
  z116 := Tryd.sizeOf58
  t117 := Tryd.underlying59
  a117 := Tryd.isAgg59
  z117 := Tryd.sizeOf59
  v117 := Tryd.zeroValue59
  t119 := Tryd.underlying89
  a119 := Tryd.isAgg89
  z119 := Tryd.sizeOf89
  t124 := Tryd.underlying62
  a124 := Tryd.isAgg62
  z124 := Tryd.sizeOf62
  v124 := Tryd.zeroValue62
  t138 := Tryd.underlying91
  a138 := Tryd.isAgg91
  z138 := Tryd.sizeOf91
  v138 := Tryd.zeroValue91
  t139 := Tryd.underlying92
  a139 := Tryd.isAgg92
  z139 := Tryd.sizeOf92
  v139 := Tryd.zeroValue92
  g3 := by kernel_rfl
  g4 := by kernel_rfl

def compareStr_ren : Shelf.Ren where
  f := fun x => match x with | 106 => 18 | 213 => 28 | 265 => 48 | n => n
  t := fun x => match x with | 9 => 9 | 3 => 3 | n => n
  g := fun n => n
theorem compareStr_lay : Lays.n106 Tryd.prog compareStr_ren where
  mixed := by kernel_rfl
  f106 := Tryd.func18.trans (by kernel_rfl)
  f213 := Tryd.func28.trans (by kernel_rfl)
  f265 := Tryd.func48.trans (by kernel_rfl)
  t3 := Tryd.underlying3
  a3 := Tryd.isAgg3
  z3 := Tryd.sizeOf3
  v3 := Tryd.zeroValue3
  t9 := Tryd.underlying9
  a9 := Tryd.isAgg9
  z9 := Tryd.sizeOf9
  v9 := Tryd.zeroValue9

def sortF31_ren : Shelf.Ren where
  f := fun x => match x with | 6 => 16 | 15 => 27 | 14 => 26 | 28 => 46 | 29 => 47 | 20 => 38 | 21 => 39 | 22 => 40 | 23 => 41 | 24 => 42 | 25 => 43 | 26 => 44 | 27 => 45 | 46 => 53 | 47 => 54 | 48 => 55 | 49 => 56 | 50 => 57 | 57 => 61 | n => n
  t := fun x => match x with | 22 => 25 | 24 => 31 | 25 => 45 | 3 => 3 | 39 => 54 | 0 => 0 | 53 => 72 | 55 => 74 | 4 => 4 | 46 => 65 | 45 => 64 | 50 => 69 | 5 => 5 | 9 => 9 | 66 => 79 | 70 => 83 | 76 => 86 | 77 => 87 | n => n
  g := fun n => n
theorem sortF31_lay : SlLaysF0.n6 Tryd.prog sortF31_ren where
  mixed := by kernel_rfl
  f6 := ⟨ "slices.SortFunc[[]drawboard/api.Attr,drawboard/api.Attr]", of_decide_eq_true (by kernel_rfl), Tryd.func16.trans (by kernel_rfl)⟩
  f14 := ⟨ "slices.pdqsortCmpFunc[drawboard/api.Attr]", of_decide_eq_true (by kernel_rfl), Tryd.func26.trans (by kernel_rfl)⟩
  f15 := Tryd.func27.trans (by kernel_rfl)
  f20 := ⟨ "slices.insertionSortCmpFunc[drawboard/api.Attr]", of_decide_eq_true (by kernel_rfl), Tryd.func38.trans (by kernel_rfl)⟩
  f21 := ⟨ "slices.heapSortCmpFunc[drawboard/api.Attr]", of_decide_eq_true (by kernel_rfl), Tryd.func39.trans (by kernel_rfl)⟩
  f22 := ⟨ "slices.breakPatternsCmpFunc[drawboard/api.Attr]", of_decide_eq_true (by kernel_rfl), Tryd.func40.trans (by kernel_rfl)⟩
  f23 := ⟨ "slices.choosePivotCmpFunc[drawboard/api.Attr]", of_decide_eq_true (by kernel_rfl), Tryd.func41.trans (by kernel_rfl)⟩
  f24 := ⟨ "slices.reverseRangeCmpFunc[drawboard/api.Attr]", of_decide_eq_true (by kernel_rfl), Tryd.func42.trans (by kernel_rfl)⟩
  f25 := ⟨ "slices.partialInsertionSortCmpFunc[drawboard/api.Attr]", of_decide_eq_true (by kernel_rfl), Tryd.func43.trans (by kernel_rfl)⟩
  f26 := ⟨ "slices.partitionEqualCmpFunc[drawboard/api.Attr]", of_decide_eq_true (by kernel_rfl), Tryd.func44.trans (by kernel_rfl)⟩
  f27 := ⟨ "slices.partitionCmpFunc[drawboard/api.Attr]", of_decide_eq_true (by kernel_rfl), Tryd.func45.trans (by kernel_rfl)⟩
  f28 := Tryd.func46.trans (by kernel_rfl)
  f29 := Tryd.func47.trans (by kernel_rfl)
  f46 := ⟨ "slices.siftDownCmpFunc[drawboard/api.Attr]", of_decide_eq_true (by kernel_rfl), Tryd.func53.trans (by kernel_rfl)⟩
  f47 := Tryd.func54.trans (by kernel_rfl)
  f48 := Tryd.func55.trans (by kernel_rfl)
  f49 := ⟨ "slices.medianAdjacentCmpFunc[drawboard/api.Attr]", of_decide_eq_true (by kernel_rfl), Tryd.func56.trans (by kernel_rfl)⟩
  f50 := ⟨ "slices.medianCmpFunc[drawboard/api.Attr]", of_decide_eq_true (by kernel_rfl), Tryd.func57.trans (by kernel_rfl)⟩
  f57 := ⟨ "slices.order2CmpFunc[drawboard/api.Attr]", of_decide_eq_true (by kernel_rfl), Tryd.func61.trans (by kernel_rfl)⟩
  t0 := Tryd.underlying0
  a0 := Tryd.isAgg0
  z0 := Tryd.sizeOf0
  v0 := Tryd.zeroValue0
  t3 := Tryd.underlying3
  a3 := Tryd.isAgg3
  z3 := Tryd.sizeOf3
  v3 := Tryd.zeroValue3
  t4 := Tryd.underlying4
  a4 := Tryd.isAgg4
  z4 := Tryd.sizeOf4
  v4 := Tryd.zeroValue4
  t5 := Tryd.underlying5
  a5 := Tryd.isAgg5
  z5 := Tryd.sizeOf5
  v5 := Tryd.zeroValue5
  t9 := Tryd.underlying9
  a9 := Tryd.isAgg9
  z9 := Tryd.sizeOf9
  v9 := Tryd.zeroValue9
  t22 := Tryd.underlying25
  a22 := Tryd.isAgg25
  z22 := Tryd.sizeOf25
  v22 := Tryd.zeroValue25
  t25 := Tryd.underlying45
  a25 := Tryd.isAgg45
  z25 := Tryd.sizeOf45
  v25 := Tryd.zeroValue45
  t39 := Tryd.underlying54
  a39 := Tryd.isAgg54
  z39 := Tryd.sizeOf54
  v39 := Tryd.zeroValue54
  t45 := Tryd.underlying64
  a45 := Tryd.isAgg64
  z45 := Tryd.sizeOf64
  v45 := Tryd.zeroValue64
  t46 := Tryd.underlying65
  a46 := Tryd.isAgg65
  z46 := Tryd.sizeOf65
  v46 := Tryd.zeroValue65
  t50 := Tryd.underlying69
  a50 := Tryd.isAgg69
  z50 := Tryd.sizeOf69
  v50 := Tryd.zeroValue69
  t53 := Tryd.underlying72
  a53 := Tryd.isAgg72
  z53 := Tryd.sizeOf72
  v53 := Tryd.zeroValue72
  t55 := Tryd.underlying74
  a55 := Tryd.isAgg74
  z55 := Tryd.sizeOf74
  v55 := Tryd.zeroValue74
  t66 := Tryd.underlying79
  a66 := Tryd.isAgg79
  z66 := Tryd.sizeOf79
  v66 := Tryd.zeroValue79
  t70 := Tryd.underlying83
  a70 := Tryd.isAgg83
  z70 := Tryd.sizeOf83
  v70 := Tryd.zeroValue83
  t76 := Tryd.underlying86
  a76 := Tryd.isAgg86
  z76 := Tryd.sizeOf86
  v76 := Tryd.zeroValue86
  t77 := Tryd.underlying87
  a77 := Tryd.isAgg87
  z77 := Tryd.sizeOf87
  v77 := Tryd.zeroValue87

theorem nanS_ok (a : ByteArray) (w : World) : Calls Tryd.prog 30 #[.string a] w fun e w' => e = .returned (.bool false) ∧ w' = w := by
  go_enter Tryd.func30, Tryd.ntmps30
  go_wp2
  go_ret
  exact ⟨rfl, rfl⟩
theorem cmpS_if (a b : ByteArray) (w : World) : Calls Tryd.prog 24 #[.string a, .string b] w fun e w' => e = .returned (.int .i64 (if Op.bytesLess a.toList b.toList = true then (-1 : Int) else if (!(Op.bytesLess a.toList b.toList || a.toList == b.toList)) = true then 1 else 0)) ∧ w' = w := by
  go_enter Tryd.func24, Tryd.ntmps24
  go_wp2_with (go_at_call 30; refine (nanS_ok _ _).mono ?_; rintro e w' ⟨rfl, rfl⟩)
  all_goals go_ret
  all_goals exact ⟨by simp_all, rfl⟩
theorem cmpS_ok (a b : ByteArray) (w : World) : Calls Tryd.prog 24 #[.string a, .string b] w fun e w' => e = .returned (.int .i64 (cmpB a.toList b.toList)) ∧ w' = w := by
  rw [← cmpIf]; exact cmpS_if a b w


theorem fnok25 : FnOK Tryd.prog 25 := ⟨_, Tryd.func25, by kernel_rfl, by kernel_rfl⟩
theorem fnok3 : FnOK Tryd.prog 3 := ⟨_, Tryd.func3, by kernel_rfl, by kernel_rfl⟩
theorem ty22 : Ty Tryd.prog 22 (List Rule) := ⟨⟨_, Tryd.underlying22, rfl⟩, by kernel_rfl⟩
theorem fnok4 : FnOK Tryd.prog 4 := ⟨_, Tryd.func4, by kernel_rfl, by kernel_rfl⟩
theorem sl22 : SliceOf Tryd.prog 22 39 := Tryd.underlying22
theorem ty39 : Ty Tryd.prog 39 Rule := ⟨⟨_, Tryd.underlying39, rfl⟩, by kernel_rfl⟩
theorem zo39 : ZeroOf Tryd.prog 39 (⟨Str.nil, Str.nil, Str.nil⟩ : Rule) := ⟨[.string ByteArray.empty, .string ByteArray.empty, .string ByteArray.empty], by kernel_rfl, fun _ _ => ⟨[_], _, rfl, str_zero, ⟨[_], _, rfl, str_zero, str_zero⟩⟩⟩
theorem fd39_2 : FieldAt Tryd.prog 39 2 2 := ⟨_, _, Tryd.underlying39, rfl, rfl, by kernel_rfl⟩
theorem hfd39_2 : HasField Rule Str 2 Rule.Value := ⟨by decide, fun M x cs w h => (HasField.snd (HasField.snd HasField.self)).2 M _ cs w h⟩
theorem ty9 : Ty Tryd.prog 9 Str := ⟨⟨_, Tryd.underlying9, rfl⟩, by kernel_rfl⟩
theorem fnok14 : FnOK Tryd.prog 14 := ⟨_, Tryd.func14, by kernel_rfl, by kernel_rfl⟩
theorem fd39_0 : FieldAt Tryd.prog 39 0 0 := ⟨_, _, Tryd.underlying39, rfl, rfl, by kernel_rfl⟩
theorem hfd39_0 : HasField Rule Str 0 Rule.Class := ⟨by decide, fun M x cs w h => (HasField.fst HasField.self).2 M _ cs w h⟩
theorem fnok11 : FnOK Tryd.prog 11 := ⟨_, Tryd.func11, by kernel_rfl, by kernel_rfl⟩
theorem fd39_1 : FieldAt Tryd.prog 39 1 1 := ⟨_, _, Tryd.underlying39, rfl, rfl, by kernel_rfl⟩
theorem hfd39_1 : HasField Rule Str 1 Rule.Prop_ := ⟨by decide, fun M x cs w h => (HasField.snd (HasField.fst HasField.self)).2 M _ cs w h⟩
theorem fnok10 : FnOK Tryd.prog 10 := ⟨_, Tryd.func10, by kernel_rfl, by kernel_rfl⟩
theorem sl47 : SliceOf Tryd.prog 47 23 := Tryd.underlying47
theorem ty23 : Ty Tryd.prog 23 Int := ⟨⟨_, Tryd.underlying23, rfl⟩, by kernel_rfl⟩
theorem hz23 : HasZero Tryd.prog 23 := by unfold HasZero; kernel_rfl
theorem fnok9 : FnOK Tryd.prog 9 := ⟨_, Tryd.func9, by kernel_rfl, by kernel_rfl⟩
theorem fnok5 : FnOK Tryd.prog 5 := ⟨_, Tryd.func5, by kernel_rfl, by kernel_rfl⟩
theorem fnok7 : FnOK Tryd.prog 7 := ⟨_, Tryd.func7, by kernel_rfl, by kernel_rfl⟩
theorem fnok15 : FnOK Tryd.prog 15 := ⟨_, Tryd.func15, by kernel_rfl, by kernel_rfl⟩
theorem fnok19 : FnOK Tryd.prog 19 := ⟨_, Tryd.func19, by kernel_rfl, by kernel_rfl⟩
theorem sl42 : SliceOf Tryd.prog 42 9 := Tryd.underlying42
theorem hz9 : HasZero Tryd.prog 9 := by unfold HasZero; kernel_rfl
theorem mo41 : MapOf Tryd.prog 41 9 9 (MKey.desc Str) := ⟨Tryd.underlying41, Tryd.underlying9⟩
theorem sf31_1 : SetField Attr Str 1 (fun x z => { x with Value := z }) := ⟨by decide, fun M x z cs zs w h hz => (SetField.snd SetField.self).2 M _ z cs zs w h hz⟩
theorem sf31_0 : SetField Attr Str 0 (fun x z => { x with Field := z }) := ⟨by decide, fun M x z cs zs w h hz => (SetField.fst SetField.self).2 M _ z cs zs w h hz⟩
theorem bu31 : BuildAt Tryd.prog 31 [.string ByteArray.empty, .string ByteArray.empty] [(0, 1), (1, 1)] := ⟨by kernel_rfl, _, Tryd.underlying31, by kernel_rfl⟩
theorem zc31 : ∀ (M : MSet) (w : World), Rep.cells M (⟨Str.nil, Str.nil⟩ : Attr) [.string ByteArray.empty, .string ByteArray.empty] w := fun _ _ => ⟨[_], _, rfl, str_zero, str_zero⟩
theorem sl25 : SliceOf Tryd.prog 25 31 := Tryd.underlying25
theorem ty31 : Ty Tryd.prog 31 Attr := ⟨⟨_, Tryd.underlying31, rfl⟩, by kernel_rfl⟩
theorem hz31 : HasZero Tryd.prog 31 := by unfold HasZero; kernel_rfl
theorem rk25 : RowOK Tryd.prog 25 31 Attr := ⟨sl25, ty31, by kernel_rfl⟩
theorem fnok16 : FnOK Tryd.prog 16 := ⟨_, Tryd.func16, by kernel_rfl, by kernel_rfl⟩
theorem fnok17 : FnOK Tryd.prog 17 := ⟨_, Tryd.func17, by kernel_rfl, by kernel_rfl⟩
theorem fnok6 : FnOK Tryd.prog 6 := ⟨_, Tryd.func6, by kernel_rfl, by kernel_rfl⟩
theorem bu39 : BuildAt Tryd.prog 39 [.string ByteArray.empty, .string ByteArray.empty, .string ByteArray.empty] [(0, 1), (1, 1), (2, 1)] := ⟨by kernel_rfl, _, Tryd.underlying39, by kernel_rfl⟩
theorem zc39 : ∀ (M : MSet) (w : World), Rep.cells M (⟨Str.nil, Str.nil, Str.nil⟩ : Rule) [.string ByteArray.empty, .string ByteArray.empty, .string ByteArray.empty] w := fun _ _ => ⟨[_], _, rfl, str_zero, ⟨[_], _, rfl, str_zero, str_zero⟩⟩
theorem hz39 : HasZero Tryd.prog 39 := by unfold HasZero; kernel_rfl
theorem fnok12 : FnOK Tryd.prog 12 := ⟨_, Tryd.func12, by kernel_rfl, by kernel_rfl⟩
theorem fnok13 : FnOK Tryd.prog 13 := ⟨_, Tryd.func13, by kernel_rfl, by kernel_rfl⟩
theorem fnok22 : FnOK Tryd.prog 22 := ⟨_, Tryd.func22, by kernel_rfl, by kernel_rfl⟩
theorem fd31_0 : FieldAt Tryd.prog 31 0 0 := ⟨_, _, Tryd.underlying31, rfl, rfl, by kernel_rfl⟩
theorem hfd31_0 : HasField Attr Str 0 Attr.Field := ⟨by decide, fun M x cs w h => (HasField.fst HasField.self).2 M _ cs w h⟩
theorem fnok21 : FnOK Tryd.prog 21 := ⟨_, Tryd.func21, by kernel_rfl, by kernel_rfl⟩
theorem fnok29 : FnOK Tryd.prog 29 := ⟨_, Tryd.func29, by kernel_rfl, by kernel_rfl⟩
theorem zo31 : ZeroOf Tryd.prog 31 (⟨Str.nil, Str.nil⟩ : Attr) := ⟨[.string ByteArray.empty, .string ByteArray.empty], by kernel_rfl, fun _ _ => ⟨[_], _, rfl, str_zero, str_zero⟩⟩
theorem sl50 : SliceOf Tryd.prog 50 4 := Tryd.underlying50
theorem ty4 : Ty Tryd.prog 4 Bool := ⟨⟨_, Tryd.underlying4, rfl⟩, by kernel_rfl⟩
theorem hz4 : HasZero Tryd.prog 4 := by unfold HasZero; kernel_rfl
theorem fd31_1 : FieldAt Tryd.prog 31 1 1 := ⟨_, _, Tryd.underlying31, rfl, rfl, by kernel_rfl⟩
theorem hfd31_1 : HasField Attr Str 1 Attr.Value := ⟨by decide, fun M x cs w h => (HasField.snd HasField.self).2 M _ cs w h⟩
theorem fnok23 : FnOK Tryd.prog 23 := ⟨_, Tryd.func23, by kernel_rfl, by kernel_rfl⟩
theorem fnok8 : FnOK Tryd.prog 8 := ⟨_, Tryd.func8, by kernel_rfl, by kernel_rfl⟩
theorem fnok20 : FnOK Tryd.prog 20 := ⟨_, Tryd.func20, by kernel_rfl, by kernel_rfl⟩
theorem eqi31 : EqIn Tryd.prog 31 Attr 2 := eqIn_struct Tryd.underlying31 (by kernel_rfl) (.cons (proj := Attr.Field) rfl hfd31_0 ty9 (eqIn_str Tryd.underlying9) (.cons (proj := Attr.Value) rfl hfd31_1 ty9 (eqIn_str Tryd.underlying9) .nil)) (fun x y => by rw [Bool.eq_iff_iff]; cases x; cases y; simp only [Bool.and_eq_true, decide_eq_true_eq, and_true, Attr.mk.injEq]) rfl
theorem eqa31 : DB.EqAt Tryd.prog 31 Attr := eqAt_in eqi31 (by kernel_rfl) (by kernel_rfl) rfl

end Go.Proofs.YtgphjfcibeijiaaDoor
