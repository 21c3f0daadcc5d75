/-
  Closed facts on the program.
-/
import Derived.Test.YtfpmjncooelplaaDoorRows
import Derived.Test.YtfpmjncooelplaaDoorAddLi1
set_option maxRecDepth 100000
set_option linter.unusedSimpArgs false
set_option linter.unusedVariables false
namespace Go.Proofs.YtfpmjncooelplaaDoor
open Go Go.DB Go.RowKit

theorem mixed : Tryd.prog.follows .mixedOrders = true := by kernel_rfl
theorem mx : Tryd.prog.follows .mixedOrders = true := mixed
def validStr_ren : Shelf.Ren where
  f := fun x => match x with | 196 => 71 | 259 => 94 | n => n
  t := fun x => match x with | 9 => 9 | 4 => 4 | 3 => 3 | 5 => 5 | 12 => 12 | 119 => 112 | 0 => 0 | 46 => 88 | 139 => 115 | 138 => 114 | 53 => 110 | n => n
  g := fun x => match x with | 3 => 1 | 4 => 2 | n => n
theorem validStr_lay : Lays.n196 Tryd.prog validStr_ren where
  mixed := by kernel_rfl
  f196 := Tryd.func71.trans (by kernel_rfl)
  f259 := Tryd.func94.trans (by kernel_rfl)
  t0 := Tryd.underlying0
  a0 := Tryd.isAgg0
  z0 := Tryd.sizeOf0
  v0 := Tryd.zeroValue0
  t3 := Tryd.underlying3
  a3 := Tryd.isAgg3
  z3 := Tryd.sizeOf3
  v3 := Tryd.zeroValue3
  t4 := Tryd.underlying4
  a4 := Tryd.isAgg4
  z4 := Tryd.sizeOf4
  v4 := Tryd.zeroValue4
  t5 := Tryd.underlying5
  a5 := Tryd.isAgg5
  z5 := Tryd.sizeOf5
  v5 := Tryd.zeroValue5
  t9 := Tryd.underlying9
  a9 := Tryd.isAgg9
  z9 := Tryd.sizeOf9
  v9 := Tryd.zeroValue9
  t12 := Tryd.underlying12
  a12 := Tryd.isAgg12
  z12 := Tryd.sizeOf12
  v12 := Tryd.zeroValue12
  t46 := Tryd.underlying88
  a46 := Tryd.isAgg88
  z46 := Tryd.sizeOf88
  v46 := Tryd.zeroValue88
  t53 := Tryd.underlying110
  a53 := Tryd.isAgg110
  z53 := Tryd.sizeOf110
  v53 := Tryd.zeroValue110
  t119 := Tryd.underlying112
  a119 := Tryd.isAgg112
  z119 := Tryd.sizeOf112
  t138 := Tryd.underlying114
  a138 := Tryd.isAgg114
  z138 := Tryd.sizeOf114
  v138 := Tryd.zeroValue114
  t139 := Tryd.underlying115
  a139 := Tryd.isAgg115
  z139 := Tryd.sizeOf115
  v139 := Tryd.zeroValue115
  g3 := by kernel_rfl
  g4 := by kernel_rfl

def trimStr_ren : Shelf.Ren where
  f := fun x => match x with | 160 => 59 | 232 => 74 | 231 => 73 | 227 => 75 | 234 => 77 | 233 => 76 | 236 => 79 | 235 => 78 | 228 => 95 | 271 => 98 | 151 => 97 | 197 => 96 | 120 => 108 | 152 => 107 | 260 => 106 | 137 => 112 | 119 => 113 | 224 => 114 | 225 => 115 | 217 => 116 | 266 => 117 | n => n
  t := fun x => match x with | 9 => 9 | 4 => 4 | 3 => 3 | 5 => 5 | 117 => 95 | 116 => 94 | 0 => 0 | 124 => 98 | 21 => 21 | 105 => 117 | 46 => 88 | 119 => 112 | 139 => 115 | 138 => 114 | n => n
  g := fun x => match x with | 3 => 1 | 4 => 2 | n => n
theorem trimStr_lay : Lays.n160 Tryd.prog trimStr_ren where
  mixed := by kernel_rfl
  f119 := Tryd.func113.trans (by kernel_rfl)
  f120 := Tryd.func108.trans (by kernel_rfl)
  f137 := Tryd.func112.trans (by kernel_rfl)
  f151 := Tryd.func97.trans (by kernel_rfl)
  f152 := Tryd.func107.trans (by kernel_rfl)
  f160 := Tryd.func59.trans (by kernel_rfl)
  f197 := Tryd.func96.trans (by kernel_rfl)
  f217 := Tryd.func116.trans (by kernel_rfl)
  f224 := Tryd.func114.trans (by kernel_rfl)
  f225 := Tryd.func115.trans (by kernel_rfl)
  f227 := Tryd.func75.trans (by kernel_rfl)
  f228 := Tryd.func95.trans (by kernel_rfl)
  f231 := Tryd.func73.trans (by kernel_rfl)
  f232 := Tryd.func74.trans (by kernel_rfl)
  f233 := Tryd.func76.trans (by kernel_rfl)
  f234 := Tryd.func77.trans (by kernel_rfl)
  f235 := Tryd.func78.trans (by kernel_rfl)
  f236 := Tryd.func79.trans (by kernel_rfl)
  f260 := Tryd.func106.trans (by kernel_rfl)
  f266 := Tryd.func117.trans (by kernel_rfl)
  f271 := Tryd.func98.trans (by kernel_rfl)
  t0 := Tryd.underlying0
  a0 := Tryd.isAgg0
  z0 := Tryd.sizeOf0
  v0 := Tryd.zeroValue0
  t3 := Tryd.underlying3
  a3 := Tryd.isAgg3
  z3 := Tryd.sizeOf3
  v3 := Tryd.zeroValue3
  t4 := Tryd.underlying4
  a4 := Tryd.isAgg4
  z4 := Tryd.sizeOf4
  v4 := Tryd.zeroValue4
  t5 := Tryd.underlying5
  a5 := Tryd.isAgg5
  z5 := Tryd.sizeOf5
  v5 := Tryd.zeroValue5
  t9 := Tryd.underlying9
  a9 := Tryd.isAgg9
  z9 := Tryd.sizeOf9
  v9 := Tryd.zeroValue9
  t21 := Tryd.underlying21
  a21 := Tryd.isAgg21
  z21 := Tryd.sizeOf21
  v21 := Tryd.zeroValue21
  t46 := Tryd.underlying88
  a46 := Tryd.isAgg88
  z46 := Tryd.sizeOf88
  v46 := Tryd.zeroValue88
  t105 := Tryd.underlying117
  a105 := Tryd.isAgg117
  z105 := Tryd.sizeOf117
  v105 := Tryd.zeroValue117
  t116 := Tryd.underlying94
  a116 := Tryd.isAgg94
  z116 := Tryd.sizeOf94
  t117 := Tryd.underlying95
  a117 := Tryd.isAgg95
  z117 := Tryd.sizeOf95
  v117 := Tryd.zeroValue95
  t119 := Tryd.underlying112
  a119 := Tryd.isAgg112
  z119 := Tryd.sizeOf112
  t124 := Tryd.underlying98
  a124 := Tryd.isAgg98
  z124 := Tryd.sizeOf98
  v124 := Tryd.zeroValue98
  t138 := Tryd.underlying114
  a138 := Tryd.isAgg114
  z138 := Tryd.sizeOf114
  v138 := Tryd.zeroValue114
  t139 := Tryd.underlying115
  a139 := Tryd.isAgg115
  z139 := Tryd.sizeOf115
  v139 := Tryd.zeroValue115
  g3 := by kernel_rfl
  g4 := by kernel_rfl

def compareStr_ren : Shelf.Ren where
  f := fun x => match x with | 106 => 55 | 213 => 69 | 265 => 93 | n => n
  t := fun x => match x with | 9 => 9 | 3 => 3 | n => n
  g := fun n => n
theorem compareStr_lay : Lays.n106 Tryd.prog compareStr_ren where
  mixed := by kernel_rfl
  f106 := Tryd.func55.trans (by kernel_rfl)
  f213 := Tryd.func69.trans (by kernel_rfl)
  f265 := Tryd.func93.trans (by kernel_rfl)
  t3 := Tryd.underlying3
  a3 := Tryd.isAgg3
  z3 := Tryd.sizeOf3
  v3 := Tryd.zeroValue3
  t9 := Tryd.underlying9
  a9 := Tryd.isAgg9
  z9 := Tryd.sizeOf9
  v9 := Tryd.zeroValue9

theorem nanI_ok (a : Int) (w : World) : Calls Tryd.prog 70 #[.int .i64 a] w fun e w' => e = .returned (.bool false) ∧ w' = w := by
  go_enter Tryd.func70, Tryd.ntmps70
  go_wp2
  go_ret
  exact ⟨rfl, rfl⟩
theorem cmpI_ok (a b : Int) (w : World) : Calls Tryd.prog 56 #[.int .i64 a, .int .i64 b] w fun e w' => e = .returned (.int .i64 (if a < b then -1 else if b < a then 1 else 0)) ∧ w' = w := by
  go_enter Tryd.func56, Tryd.ntmps56
  go_wp2_with (go_at_call 70; refine (nanI_ok _ _).mono ?_; rintro e w' ⟨rfl, rfl⟩)
  all_goals go_ret
  all_goals exact ⟨by simp_all, rfl⟩

theorem orJ_at (b c : Nat) (x y r : Int) (w : World) (hr1 : x ≠ 0 → r = x) (hr2 : x = 0 → r = y) (hx : w.cell? ⟨b, 0, none⟩ = some (.int .i64 x)) (hy : w.cell? ⟨b, 1, none⟩ = some (.int .i64 y)) :
    Calls Tryd.prog 54 #[.slice (some ⟨b, 0, none⟩) 2 c] w fun e w' => e = .returned (.int .i64 r) ∧ w' = w := by
  go_enter Tryd.func54, Tryd.ntmps54
  go_wp2
  go_loop [5, 8] (fun _ i => ∃ k : Nat, k ≤ 2 ∧ i = .int .i64 k ∧ (0 < k → x = 0) ∧ (1 < k → y = 0)) (fun _ i => match i with | .int _ m => 2 - m.toNat | _ => 0)
  case atStart => exact ⟨0, by omega, rfl, fun h => absurd h (by omega), fun h => absurd h (by omega)⟩
  case round =>
    obtain ⟨k, hk, rfl, h0, h1⟩ := hrel
    have hcell : ∃ z, ((k : Int) < 2 → w.cell? ⟨b, k, none⟩ = some (.int .i64 z)) ∧ (k = 0 → z = x) ∧ (k = 1 → z = y) := by
      refine ⟨if k = 0 then x else y, fun h => ?_, fun h => if_pos h, fun h => if_neg (by omega)⟩
      by_cases e : k = 0
      · rw [e, hx, if_pos rfl]
      · obtain rfl : k = 1 := by omega
        rw [hy, if_neg e]
    obtain ⟨z, hz, hz0, hz1⟩ := hcell
    go_wp2
    · have hlt : (k : Int) < 2 := by assumption
      have hne : (z != 0) = true := by assumption
      have hne' : z ≠ 0 := by simpa using hne
      go_ret
      refine ⟨?_, rfl⟩
      show Ending.returned (.int .i64 z) = .returned (.int .i64 r)
      congr 2
      by_cases e : k = 0
      · rw [hz0 e] at hne' ⊢; exact (hr1 hne').symm
      · rw [hz1 (by omega)]; exact (hr2 (h0 (by omega))).symm
    · have hlt : (k : Int) < 2 := by assumption
      have hne : (z != 0) = false := by assumption
      have hne' : z = 0 := by simpa using hne
      refine ⟨⟨k + 1, by omega, by push_cast; rfl, fun _ => ?_, fun h => ?_⟩, by show 2 - ((k : Int) + 1).toNat < 2 - (k : Int).toNat; omega⟩
      · by_cases e : k = 0
        · rw [← hz0 e]; exact hne'
        · exact h0 (by omega)
      · rw [← hz1 (by omega)]; exact hne'
    · have hge : 2 ≤ (k : Int) := by assumption
      go_ret
      refine ⟨?_, rfl⟩
      show Ending.returned (.int .i64 0) = .returned (.int .i64 r)
      rw [hr2 (h0 (by omega)), h1 (by omega)]
theorem pair_cells (w : World) (x y : Value) (t : TypeId) : (w.alloc (.cells #[x, y] t)).cell? ⟨w.heap.size, 0, none⟩ = some x ∧ (w.alloc (.cells #[x, y] t)).cell? ⟨w.heap.size, 1, none⟩ = some y := by constructor <;> go_simp

def sortF34_ren : Shelf.Ren where
  f := fun x => match x with | 6 => 48 | 15 => 67 | 14 => 66 | 28 => 91 | 29 => 92 | 20 => 82 | 21 => 84 | 22 => 85 | 23 => 86 | 24 => 87 | 25 => 88 | 26 => 89 | 27 => 90 | 46 => 101 | 47 => 102 | 48 => 103 | 49 => 104 | 50 => 105 | 57 => 111 | n => n
  t := fun x => match x with | 22 => 22 | 24 => 34 | 25 => 50 | 3 => 3 | 39 => 88 | 0 => 0 | 53 => 108 | 55 => 110 | 4 => 4 | 46 => 102 | 45 => 101 | 50 => 80 | 5 => 5 | 9 => 9 | 66 => 120 | 70 => 124 | 76 => 128 | 77 => 129 | n => n
  g := fun n => n
theorem sortF34_lay : SlLaysF0.n6 Tryd.prog sortF34_ren where
  mixed := by kernel_rfl
  f6 := ⟨ "slices.SortFunc[[]drawboard/api.Op,drawboard/api.Op]", of_decide_eq_true (by kernel_rfl), Tryd.func48.trans (by kernel_rfl)⟩
  f14 := ⟨ "slices.pdqsortCmpFunc[drawboard/api.Op]", of_decide_eq_true (by kernel_rfl), Tryd.func66.trans (by kernel_rfl)⟩
  f15 := Tryd.func67.trans (by kernel_rfl)
  f20 := ⟨ "slices.insertionSortCmpFunc[drawboard/api.Op]", of_decide_eq_true (by kernel_rfl), Tryd.func82.trans (by kernel_rfl)⟩
  f21 := ⟨ "slices.heapSortCmpFunc[drawboard/api.Op]", of_decide_eq_true (by kernel_rfl), Tryd.func84.trans (by kernel_rfl)⟩
  f22 := ⟨ "slices.breakPatternsCmpFunc[drawboard/api.Op]", of_decide_eq_true (by kernel_rfl), Tryd.func85.trans (by kernel_rfl)⟩
  f23 := ⟨ "slices.choosePivotCmpFunc[drawboard/api.Op]", of_decide_eq_true (by kernel_rfl), Tryd.func86.trans (by kernel_rfl)⟩
  f24 := ⟨ "slices.reverseRangeCmpFunc[drawboard/api.Op]", of_decide_eq_true (by kernel_rfl), Tryd.func87.trans (by kernel_rfl)⟩
  f25 := ⟨ "slices.partialInsertionSortCmpFunc[drawboard/api.Op]", of_decide_eq_true (by kernel_rfl), Tryd.func88.trans (by kernel_rfl)⟩
  f26 := ⟨ "slices.partitionEqualCmpFunc[drawboard/api.Op]", of_decide_eq_true (by kernel_rfl), Tryd.func89.trans (by kernel_rfl)⟩
  f27 := ⟨ "slices.partitionCmpFunc[drawboard/api.Op]", of_decide_eq_true (by kernel_rfl), Tryd.func90.trans (by kernel_rfl)⟩
  f28 := Tryd.func91.trans (by kernel_rfl)
  f29 := Tryd.func92.trans (by kernel_rfl)
  f46 := ⟨ "slices.siftDownCmpFunc[drawboard/api.Op]", of_decide_eq_true (by kernel_rfl), Tryd.func101.trans (by kernel_rfl)⟩
  f47 := Tryd.func102.trans (by kernel_rfl)
  f48 := Tryd.func103.trans (by kernel_rfl)
  f49 := ⟨ "slices.medianAdjacentCmpFunc[drawboard/api.Op]", of_decide_eq_true (by kernel_rfl), Tryd.func104.trans (by kernel_rfl)⟩
  f50 := ⟨ "slices.medianCmpFunc[drawboard/api.Op]", of_decide_eq_true (by kernel_rfl), Tryd.func105.trans (by kernel_rfl)⟩
  f57 := ⟨ "slices.order2CmpFunc[drawboard/api.Op]", of_decide_eq_true (by kernel_rfl), Tryd.func111.trans (by kernel_rfl)⟩
  t0 := Tryd.underlying0
  a0 := Tryd.isAgg0
  z0 := Tryd.sizeOf0
  v0 := Tryd.zeroValue0
  t3 := Tryd.underlying3
  a3 := Tryd.isAgg3
  z3 := Tryd.sizeOf3
  v3 := Tryd.zeroValue3
  t4 := Tryd.underlying4
  a4 := Tryd.isAgg4
  z4 := Tryd.sizeOf4
  v4 := Tryd.zeroValue4
  t5 := Tryd.underlying5
  a5 := Tryd.isAgg5
  z5 := Tryd.sizeOf5
  v5 := Tryd.zeroValue5
  t9 := Tryd.underlying9
  a9 := Tryd.isAgg9
  z9 := Tryd.sizeOf9
  v9 := Tryd.zeroValue9
  t22 := Tryd.underlying22
  a22 := Tryd.isAgg22
  z22 := Tryd.sizeOf22
  v22 := Tryd.zeroValue22
  t25 := Tryd.underlying50
  a25 := Tryd.isAgg50
  z25 := Tryd.sizeOf50
  v25 := Tryd.zeroValue50
  t39 := Tryd.underlying88
  a39 := Tryd.isAgg88
  z39 := Tryd.sizeOf88
  v39 := Tryd.zeroValue88
  t45 := Tryd.underlying101
  a45 := Tryd.isAgg101
  z45 := Tryd.sizeOf101
  v45 := Tryd.zeroValue101
  t46 := Tryd.underlying102
  a46 := Tryd.isAgg102
  z46 := Tryd.sizeOf102
  v46 := Tryd.zeroValue102
  t50 := Tryd.underlying80
  a50 := Tryd.isAgg80
  z50 := Tryd.sizeOf80
  v50 := Tryd.zeroValue80
  t53 := Tryd.underlying108
  a53 := Tryd.isAgg108
  z53 := Tryd.sizeOf108
  v53 := Tryd.zeroValue108
  t55 := Tryd.underlying110
  a55 := Tryd.isAgg110
  z55 := Tryd.sizeOf110
  v55 := Tryd.zeroValue110
  t66 := Tryd.underlying120
  a66 := Tryd.isAgg120
  z66 := Tryd.sizeOf120
  v66 := Tryd.zeroValue120
  t70 := Tryd.underlying124
  a70 := Tryd.isAgg124
  z70 := Tryd.sizeOf124
  v70 := Tryd.zeroValue124
  t76 := Tryd.underlying128
  a76 := Tryd.isAgg128
  z76 := Tryd.sizeOf128
  v76 := Tryd.zeroValue128
  t77 := Tryd.underlying129
  a77 := Tryd.isAgg129
  z77 := Tryd.sizeOf129
  v77 := Tryd.zeroValue129

theorem fnok71 : FnOK Tryd.prog 71 := ⟨_, Tryd.func71, by kernel_rfl, by kernel_rfl⟩
theorem fnok59 : FnOK Tryd.prog 59 := ⟨_, Tryd.func59, by kernel_rfl, by kernel_rfl⟩
theorem fnok55 : FnOK Tryd.prog 55 := ⟨_, Tryd.func55, by kernel_rfl, by kernel_rfl⟩
theorem sl22 : SliceOf Tryd.prog 22 34 := Tryd.underlying22
theorem ty34 : Ty Tryd.prog 34 DOp := ⟨⟨_, Tryd.underlying34, rfl⟩, by kernel_rfl⟩
theorem zo34 : ZeroOf Tryd.prog 34 (⟨(⟨(0 : Int), Str.nil, (0 : Int)⟩ : Stamp), (0 : Int), Str.nil, Str.nil, Str.nil, (0 : Int)⟩ : DOp) := ⟨[.int .i64 0, .string ByteArray.empty, .int .i64 0, .int .i64 0, .string ByteArray.empty, .string ByteArray.empty, .string ByteArray.empty, .int .i64 0], by kernel_rfl, fun _ _ => ⟨[_, _, _], _, rfl, ⟨[_], _, rfl, ⟨rfl, by decide⟩, ⟨[_], _, rfl, str_zero, ⟨rfl, by decide⟩⟩⟩, ⟨[_], _, rfl, ⟨rfl, by decide⟩, ⟨[_], _, rfl, str_zero, ⟨[_], _, rfl, str_zero, ⟨[_], _, rfl, str_zero, ⟨rfl, by decide⟩⟩⟩⟩⟩⟩⟩
theorem rk22 : RowOK Tryd.prog 22 34 DOp := ⟨sl22, ty34, by kernel_rfl⟩
theorem fnok61 : FnOK Tryd.prog 61 := ⟨_, Tryd.func61, by kernel_rfl, by kernel_rfl⟩
theorem fnok3 : FnOK Tryd.prog 3 := ⟨_, Tryd.func3, by kernel_rfl, by kernel_rfl⟩
theorem fnok5 : FnOK Tryd.prog 5 := ⟨_, Tryd.func5, by kernel_rfl, by kernel_rfl⟩
theorem bu34 : BuildAt Tryd.prog 34 [.int .i64 0, .string ByteArray.empty, .int .i64 0, .int .i64 0, .string ByteArray.empty, .string ByteArray.empty, .string ByteArray.empty, .int .i64 0] [(0, 3), (3, 1), (4, 1), (5, 1), (6, 1), (7, 1)] := ⟨by kernel_rfl, _, Tryd.underlying34, by kernel_rfl⟩
theorem zc34 : ∀ (M : MSet) (w : World), Rep.cells M (⟨(⟨(0 : Int), Str.nil, (0 : Int)⟩ : Stamp), (0 : Int), Str.nil, Str.nil, Str.nil, (0 : Int)⟩ : DOp) [.int .i64 0, .string ByteArray.empty, .int .i64 0, .int .i64 0, .string ByteArray.empty, .string ByteArray.empty, .string ByteArray.empty, .int .i64 0] w := fun _ _ => ⟨[_, _, _], _, rfl, ⟨[_], _, rfl, ⟨rfl, by decide⟩, ⟨[_], _, rfl, str_zero, ⟨rfl, by decide⟩⟩⟩, ⟨[_], _, rfl, ⟨rfl, by decide⟩, ⟨[_], _, rfl, str_zero, ⟨[_], _, rfl, str_zero, ⟨[_], _, rfl, str_zero, ⟨rfl, by decide⟩⟩⟩⟩⟩⟩
theorem fd34_0 : FieldAt Tryd.prog 34 0 0 := ⟨_, _, Tryd.underlying34, rfl, rfl, by kernel_rfl⟩
theorem hfd34_0 : HasField DOp Stamp 0 DOp.Stamp := ⟨by decide, fun M x cs w h => (HasField.fst HasField.self).2 M _ cs w h⟩
theorem fd32_1 : FieldAt Tryd.prog 32 1 1 := ⟨_, _, Tryd.underlying32, rfl, rfl, by kernel_rfl⟩
theorem hfd32_1 : HasField Stamp Str 1 Stamp.Site := ⟨by decide, fun M x cs w h => (HasField.snd (HasField.fst HasField.self)).2 M _ cs w h⟩
theorem ty9 : Ty Tryd.prog 9 Str := ⟨⟨_, Tryd.underlying9, rfl⟩, by kernel_rfl⟩
theorem fd32_2 : FieldAt Tryd.prog 32 2 2 := ⟨_, _, Tryd.underlying32, rfl, rfl, by kernel_rfl⟩
theorem hfd32_2 : HasField Stamp Int 2 Stamp.No := ⟨by decide, fun M x cs w h => (HasField.snd (HasField.snd HasField.self)).2 M _ cs w h⟩
theorem ty3 : Ty Tryd.prog 3 Int := ⟨⟨_, Tryd.underlying3, rfl⟩, by kernel_rfl⟩
theorem sf34_0 : SetField DOp Stamp 0 (fun x z => { x with Stamp := z }) := ⟨by decide, fun M x z cs zs w h hz => (SetField.fst SetField.self).2 M _ z cs zs w h hz⟩
theorem sf32_2 : SetField Stamp Int 2 (fun x z => { x with No := z }) := ⟨by decide, fun M x z cs zs w h hz => (SetField.snd (SetField.snd SetField.self)).2 M _ z cs zs w h hz⟩
theorem fd32_0 : FieldAt Tryd.prog 32 0 0 := ⟨_, _, Tryd.underlying32, rfl, rfl, by kernel_rfl⟩
theorem hfd32_0 : HasField Stamp Int 0 Stamp.Time := ⟨by decide, fun M x cs w h => (HasField.fst HasField.self).2 M _ cs w h⟩
theorem sf32_0 : SetField Stamp Int 0 (fun x z => { x with Time := z }) := ⟨by decide, fun M x z cs zs w h hz => (SetField.fst SetField.self).2 M _ z cs zs w h hz⟩
theorem fnok26 : FnOK Tryd.prog 26 := ⟨_, Tryd.func26, by kernel_rfl, by kernel_rfl⟩
theorem fnok56 : FnOK Tryd.prog 56 := ⟨_, Tryd.func56, by kernel_rfl, by kernel_rfl⟩
theorem fnok70 : FnOK Tryd.prog 70 := ⟨_, Tryd.func70, by kernel_rfl, by kernel_rfl⟩
theorem sl90 : SliceOf Tryd.prog 90 3 := Tryd.underlying90
theorem hz3 : HasZero Tryd.prog 3 := by unfold HasZero; kernel_rfl
theorem fnok54 : FnOK Tryd.prog 54 := ⟨_, Tryd.func54, by kernel_rfl, by kernel_rfl⟩
theorem fnok28 : FnOK Tryd.prog 28 := ⟨_, Tryd.func28, by kernel_rfl, by kernel_rfl⟩
theorem fnok27 : FnOK Tryd.prog 27 := ⟨_, Tryd.func27, by kernel_rfl, by kernel_rfl⟩
theorem fnok29 : FnOK Tryd.prog 29 := ⟨_, Tryd.func29, by kernel_rfl, by kernel_rfl⟩
theorem fnok30 : FnOK Tryd.prog 30 := ⟨_, Tryd.func30, by kernel_rfl, by kernel_rfl⟩
theorem fd34_1 : FieldAt Tryd.prog 34 1 3 := ⟨_, _, Tryd.underlying34, rfl, rfl, by kernel_rfl⟩
theorem hfd34_1 : HasField DOp Int 3 DOp.Kind := ⟨by decide, fun M x cs w h => (HasField.snd (HasField.fst HasField.self)).2 M _ cs w h⟩
theorem fd34_3 : FieldAt Tryd.prog 34 3 5 := ⟨_, _, Tryd.underlying34, rfl, rfl, by kernel_rfl⟩
theorem hfd34_3 : HasField DOp Str 5 DOp.Field := ⟨by decide, fun M x cs w h => (HasField.snd (HasField.snd (HasField.snd (HasField.fst HasField.self)))).2 M _ cs w h⟩
theorem fd34_4 : FieldAt Tryd.prog 34 4 6 := ⟨_, _, Tryd.underlying34, rfl, rfl, by kernel_rfl⟩
theorem hfd34_4 : HasField DOp Str 6 DOp.Value := ⟨by decide, fun M x cs w h => (HasField.snd (HasField.snd (HasField.snd (HasField.snd (HasField.fst HasField.self))))).2 M _ cs w h⟩
theorem fd34_2 : FieldAt Tryd.prog 34 2 4 := ⟨_, _, Tryd.underlying34, rfl, rfl, by kernel_rfl⟩
theorem hfd34_2 : HasField DOp Str 4 DOp.Id := ⟨by decide, fun M x cs w h => (HasField.snd (HasField.snd (HasField.fst HasField.self))).2 M _ cs w h⟩
theorem fd34_5 : FieldAt Tryd.prog 34 5 7 := ⟨_, _, Tryd.underlying34, rfl, rfl, by kernel_rfl⟩
theorem hfd34_5 : HasField DOp Int 7 DOp.Of := ⟨by decide, fun M x cs w h => (HasField.snd (HasField.snd (HasField.snd (HasField.snd (HasField.snd HasField.self))))).2 M _ cs w h⟩
theorem fnok57 : FnOK Tryd.prog 57 := ⟨_, Tryd.func57, by kernel_rfl, by kernel_rfl⟩
theorem sl71 : SliceOf Tryd.prog 71 23 := Tryd.underlying71
theorem ty23 : Ty Tryd.prog 23 Int := ⟨⟨_, Tryd.underlying23, rfl⟩, by kernel_rfl⟩
theorem hz23 : HasZero Tryd.prog 23 := by unfold HasZero; kernel_rfl
theorem fnok22 : FnOK Tryd.prog 22 := ⟨_, Tryd.func22, by kernel_rfl, by kernel_rfl⟩
theorem fnok6 : FnOK Tryd.prog 6 := ⟨_, Tryd.func6, by kernel_rfl, by kernel_rfl⟩
theorem fnok31 : FnOK Tryd.prog 31 := ⟨_, Tryd.func31, by kernel_rfl, by kernel_rfl⟩
theorem fnok32 : FnOK Tryd.prog 32 := ⟨_, Tryd.func32, by kernel_rfl, by kernel_rfl⟩
theorem fnok43 : FnOK Tryd.prog 43 := ⟨_, Tryd.func43, by kernel_rfl, by kernel_rfl⟩
theorem fnok58 : FnOK Tryd.prog 58 := ⟨_, Tryd.func58, by kernel_rfl, by kernel_rfl⟩
theorem fnok72 : FnOK Tryd.prog 72 := ⟨_, Tryd.func72, by kernel_rfl, by kernel_rfl⟩
theorem hz34 : HasZero Tryd.prog 34 := by unfold HasZero; kernel_rfl
theorem fnok7 : FnOK Tryd.prog 7 := ⟨_, Tryd.func7, by kernel_rfl, by kernel_rfl⟩
theorem sf32_1 : SetField Stamp Str 1 (fun x z => { x with Site := z }) := ⟨by decide, fun M x z cs zs w h hz => (SetField.snd (SetField.fst SetField.self)).2 M _ z cs zs w h hz⟩
theorem bu32 : BuildAt Tryd.prog 32 [.int .i64 0, .string ByteArray.empty, .int .i64 0] [(0, 1), (1, 1), (2, 1)] := ⟨by kernel_rfl, _, Tryd.underlying32, by kernel_rfl⟩
theorem zc32 : ∀ (M : MSet) (w : World), Rep.cells M (⟨(0 : Int), Str.nil, (0 : Int)⟩ : Stamp) [.int .i64 0, .string ByteArray.empty, .int .i64 0] w := fun _ _ => ⟨[_], _, rfl, ⟨rfl, by decide⟩, ⟨[_], _, rfl, str_zero, ⟨rfl, by decide⟩⟩⟩
theorem sf34_4 : SetField DOp Str 6 (fun x z => { x with Value := z }) := ⟨by decide, fun M x z cs zs w h hz => (SetField.snd (SetField.snd (SetField.snd (SetField.snd (SetField.fst SetField.self))))).2 M _ z cs zs w h hz⟩
theorem sf34_3 : SetField DOp Str 5 (fun x z => { x with Field := z }) := ⟨by decide, fun M x z cs zs w h hz => (SetField.snd (SetField.snd (SetField.snd (SetField.fst SetField.self)))).2 M _ z cs zs w h hz⟩
theorem sf34_2 : SetField DOp Str 4 (fun x z => { x with Id := z }) := ⟨by decide, fun M x z cs zs w h hz => (SetField.snd (SetField.snd (SetField.fst SetField.self))).2 M _ z cs zs w h hz⟩
theorem sf34_1 : SetField DOp Int 3 (fun x z => { x with Kind := z }) := ⟨by decide, fun M x z cs zs w h hz => (SetField.snd (SetField.fst SetField.self)).2 M _ z cs zs w h hz⟩
theorem fnok33 : FnOK Tryd.prog 33 := ⟨_, Tryd.func33, by kernel_rfl, by kernel_rfl⟩
theorem fnok60 : FnOK Tryd.prog 60 := ⟨_, Tryd.func60, by kernel_rfl, by kernel_rfl⟩
theorem fnok45 : FnOK Tryd.prog 45 := ⟨_, Tryd.func45, by kernel_rfl, by kernel_rfl⟩
theorem fnok8 : FnOK Tryd.prog 8 := ⟨_, Tryd.func8, by kernel_rfl, by kernel_rfl⟩
theorem fnok35 : FnOK Tryd.prog 35 := ⟨_, Tryd.func35, by kernel_rfl, by kernel_rfl⟩
theorem sl57 : SliceOf Tryd.prog 57 4 := Tryd.underlying57
theorem ty4 : Ty Tryd.prog 4 Bool := ⟨⟨_, Tryd.underlying4, rfl⟩, by kernel_rfl⟩
theorem fnok34 : FnOK Tryd.prog 34 := ⟨_, Tryd.func34, by kernel_rfl, by kernel_rfl⟩
theorem fnok62 : FnOK Tryd.prog 62 := ⟨_, Tryd.func62, by kernel_rfl, by kernel_rfl⟩
theorem rk57 : RowOK Tryd.prog 57 4 Bool := ⟨sl57, ty4, by kernel_rfl⟩
theorem zo4 : ZeroOf Tryd.prog 4 false := ⟨[.bool false], by kernel_rfl, fun _ _ => rfl⟩
theorem fnok63 : FnOK Tryd.prog 63 := ⟨_, Tryd.func63, by kernel_rfl, by kernel_rfl⟩
theorem fnok46 : FnOK Tryd.prog 46 := ⟨_, Tryd.func46, by kernel_rfl, by kernel_rfl⟩
theorem sf34_5 : SetField DOp Int 7 (fun x z => { x with Of := z }) := ⟨by decide, fun M x z cs zs w h hz => (SetField.snd (SetField.snd (SetField.snd (SetField.snd (SetField.snd SetField.self))))).2 M _ z cs zs w h hz⟩
theorem fnok9 : FnOK Tryd.prog 9 := ⟨_, Tryd.func9, by kernel_rfl, by kernel_rfl⟩
theorem fnok36 : FnOK Tryd.prog 36 := ⟨_, Tryd.func36, by kernel_rfl, by kernel_rfl⟩
theorem fnok10 : FnOK Tryd.prog 10 := ⟨_, Tryd.func10, by kernel_rfl, by kernel_rfl⟩
theorem fnok37 : FnOK Tryd.prog 37 := ⟨_, Tryd.func37, by kernel_rfl, by kernel_rfl⟩
theorem zo32 : ZeroOf Tryd.prog 32 (⟨(0 : Int), Str.nil, (0 : Int)⟩ : Stamp) := ⟨[.int .i64 0, .string ByteArray.empty, .int .i64 0], by kernel_rfl, fun _ _ => ⟨[_], _, rfl, ⟨rfl, by decide⟩, ⟨[_], _, rfl, str_zero, ⟨rfl, by decide⟩⟩⟩⟩
theorem ty32 : Ty Tryd.prog 32 Stamp := ⟨⟨_, Tryd.underlying32, rfl⟩, by kernel_rfl⟩
theorem fnok38 : FnOK Tryd.prog 38 := ⟨_, Tryd.func38, by kernel_rfl, by kernel_rfl⟩
theorem ft32_0 : FieldTy Tryd.prog 32 0 0 3 := ⟨_, _, Tryd.underlying32, rfl, rfl, rfl⟩
theorem fnok39 : FnOK Tryd.prog 39 := ⟨_, Tryd.func39, by kernel_rfl, by kernel_rfl⟩
theorem fnok48 : FnOK Tryd.prog 48 := ⟨_, Tryd.func48, by kernel_rfl, by kernel_rfl⟩
theorem fnok11 : FnOK Tryd.prog 11 := ⟨_, Tryd.func11, by kernel_rfl, by kernel_rfl⟩
theorem fnok40 : FnOK Tryd.prog 40 := ⟨_, Tryd.func40, by kernel_rfl, by kernel_rfl⟩
theorem mo63 : MapOf Tryd.prog 63 3 3 (MKey.desc Int) := ⟨Tryd.underlying63, Tryd.underlying3⟩
theorem zo3 : ZeroOf Tryd.prog 3 (0 : Int) := ⟨[.int .i64 0], by kernel_rfl, fun _ _ => ⟨rfl, by decide⟩⟩
theorem fnok12 : FnOK Tryd.prog 12 := ⟨_, Tryd.func12, by kernel_rfl, by kernel_rfl⟩
theorem eqi32 : EqIn Tryd.prog 32 Stamp 2 := eqIn_struct Tryd.underlying32 (by kernel_rfl) (.cons (proj := Stamp.Time) rfl hfd32_0 ty3 (eqIn_int Tryd.underlying3) (.cons (proj := Stamp.Site) rfl hfd32_1 ty9 (eqIn_str Tryd.underlying9) (.cons (proj := Stamp.No) rfl hfd32_2 ty3 (eqIn_int Tryd.underlying3) .nil))) (fun x y => by rw [Bool.eq_iff_iff]; cases x; cases y; simp only [Bool.and_eq_true, decide_eq_true_eq, and_true, Stamp.mk.injEq]) rfl
theorem eqi34 : EqIn Tryd.prog 34 DOp 3 := eqIn_struct Tryd.underlying34 (by kernel_rfl) (.cons (proj := DOp.Stamp) rfl hfd34_0 ty32 eqi32 (.cons (proj := DOp.Kind) rfl hfd34_1 ty3 (eqIn_more (eqIn_int Tryd.underlying3) (by decide)) (.cons (proj := DOp.Id) rfl hfd34_2 ty9 (eqIn_more (eqIn_str Tryd.underlying9) (by decide)) (.cons (proj := DOp.Field) rfl hfd34_3 ty9 (eqIn_more (eqIn_str Tryd.underlying9) (by decide)) (.cons (proj := DOp.Value) rfl hfd34_4 ty9 (eqIn_more (eqIn_str Tryd.underlying9) (by decide)) (.cons (proj := DOp.Of) rfl hfd34_5 ty3 (eqIn_more (eqIn_int Tryd.underlying3) (by decide)) .nil)))))) (fun x y => by rw [Bool.eq_iff_iff]; cases x; cases y; simp only [Bool.and_eq_true, decide_eq_true_eq, and_true, DOp.mk.injEq]) rfl
theorem eqa34 : DB.EqAt Tryd.prog 34 DOp := eqAt_in eqi34 (by kernel_rfl) (by kernel_rfl) rfl

end Go.Proofs.YtfpmjncooelplaaDoor
