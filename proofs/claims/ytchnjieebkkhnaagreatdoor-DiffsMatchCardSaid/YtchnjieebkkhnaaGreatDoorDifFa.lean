/-
  Closed facts on the program.
-/
import Derived.Test.YtchnjieebkkhnaaGreatDoorRows
import Derived.Test.YtchnjieebkkhnaaGreatDoorDifLi1
set_option maxRecDepth 100000
set_option linter.unusedSimpArgs false
set_option linter.unusedVariables false
namespace Go.Proofs.YtchnjieebkkhnaaGreatDoor
open Go Go.DB Go.RowKit

theorem mixed : Tryz.prog.follows .mixedOrders = true := by kernel_rfl
theorem mx : Tryz.prog.follows .mixedOrders = true := mixed
def validStr_ren : Shelf.Ren where
  f := fun x => match x with | 196 => 41 | 259 => 57 | n => n
  t := fun x => match x with | 9 => 9 | 4 => 4 | 3 => 3 | 5 => 5 | 12 => 12 | 119 => 94 | 0 => 0 | 46 => 84 | 139 => 97 | 138 => 96 | 53 => 109 | n => n
  g := fun x => match x with | 3 => 0 | 4 => 1 | n => n
theorem validStr_lay : Lays.n196 Tryz.prog validStr_ren where
  mixed := by kernel_rfl
  f196 := Tryz.func41.trans (by kernel_rfl)
  f259 := Tryz.func57.trans (by kernel_rfl)
  t0 := Tryz.underlying0
  a0 := Tryz.isAgg0
  z0 := Tryz.sizeOf0
  v0 := Tryz.zeroValue0
  t3 := Tryz.underlying3
  a3 := Tryz.isAgg3
  z3 := Tryz.sizeOf3
  v3 := Tryz.zeroValue3
  t4 := Tryz.underlying4
  a4 := Tryz.isAgg4
  z4 := Tryz.sizeOf4
  v4 := Tryz.zeroValue4
  t5 := Tryz.underlying5
  a5 := Tryz.isAgg5
  z5 := Tryz.sizeOf5
  v5 := Tryz.zeroValue5
  t9 := Tryz.underlying9
  a9 := Tryz.isAgg9
  z9 := Tryz.sizeOf9
  v9 := Tryz.zeroValue9
  t12 := Tryz.underlying12
  a12 := Tryz.isAgg12
  z12 := Tryz.sizeOf12
  v12 := Tryz.zeroValue12
  t46 := Tryz.underlying84
  a46 := Tryz.isAgg84
  z46 := Tryz.sizeOf84
  v46 := Tryz.zeroValue84
  t53 := Tryz.underlying109
  a53 := Tryz.isAgg109
  z53 := Tryz.sizeOf109
  v53 := Tryz.zeroValue109
  t119 := Tryz.underlying94
  a119 := Tryz.isAgg94
  z119 := Tryz.sizeOf94
  t138 := Tryz.underlying96
  a138 := Tryz.isAgg96
  z138 := Tryz.sizeOf96
  v138 := Tryz.zeroValue96
  t139 := Tryz.underlying97
  a139 := Tryz.isAgg97
  z139 := Tryz.sizeOf97
  v139 := Tryz.zeroValue97
  g3 := by kernel_rfl
  g4 := by kernel_rfl

def trimStr_ren : Shelf.Ren where
  f := fun x => match x with | 160 => 48 | 232 => 73 | 231 => 72 | 227 => 74 | 234 => 76 | 233 => 75 | 236 => 78 | 235 => 77 | 228 => 90 | 271 => 93 | 151 => 92 | 197 => 91 | 120 => 113 | 152 => 112 | 260 => 111 | 137 => 120 | 119 => 121 | 224 => 122 | 225 => 123 | 217 => 126 | 266 => 127 | n => n
  t := fun x => match x with | 9 => 9 | 4 => 4 | 3 => 3 | 5 => 5 | 117 => 115 | 116 => 114 | 0 => 0 | 124 => 118 | 21 => 21 | 105 => 131 | 46 => 84 | 119 => 94 | 139 => 97 | 138 => 96 | n => n
  g := fun x => match x with | 3 => 0 | 4 => 1 | n => n
theorem trimStr_lay : Lays.n160 Tryz.prog trimStr_ren where
  mixed := by kernel_rfl
  f119 := Tryz.func121.trans (by kernel_rfl)
  f120 := Tryz.func113.trans (by kernel_rfl)
  f137 := Tryz.func120.trans (by kernel_rfl)
  f151 := Tryz.func92.trans (by kernel_rfl)
  f152 := Tryz.func112.trans (by kernel_rfl)
  f160 := Tryz.func48.trans (by kernel_rfl)
  f197 := Tryz.func91.trans (by kernel_rfl)
  f217 := Tryz.func126.trans (by kernel_rfl)
  f224 := Tryz.func122.trans (by kernel_rfl)
  f225 := Tryz.func123.trans (by kernel_rfl)
  f227 := Tryz.func74.trans (by kernel_rfl)
  f228 := Tryz.func90.trans (by kernel_rfl)
  f231 := Tryz.func72.trans (by kernel_rfl)
  f232 := Tryz.func73.trans (by kernel_rfl)
  f233 := Tryz.func75.trans (by kernel_rfl)
  f234 := Tryz.func76.trans (by kernel_rfl)
  f235 := Tryz.func77.trans (by kernel_rfl)
  f236 := Tryz.func78.trans (by kernel_rfl)
  f260 := Tryz.func111.trans (by kernel_rfl)
  f266 := Tryz.func127.trans (by kernel_rfl)
  f271 := Tryz.func93.trans (by kernel_rfl)
  t0 := Tryz.underlying0
  a0 := Tryz.isAgg0
  z0 := Tryz.sizeOf0
  v0 := Tryz.zeroValue0
  t3 := Tryz.underlying3
  a3 := Tryz.isAgg3
  z3 := Tryz.sizeOf3
  v3 := Tryz.zeroValue3
  t4 := Tryz.underlying4
  a4 := Tryz.isAgg4
  z4 := Tryz.sizeOf4
  v4 := Tryz.zeroValue4
  t5 := Tryz.underlying5
  a5 := Tryz.isAgg5
  z5 := Tryz.sizeOf5
  v5 := Tryz.zeroValue5
  t9 := Tryz.underlying9
  a9 := Tryz.isAgg9
  z9 := Tryz.sizeOf9
  v9 := Tryz.zeroValue9
  t21 := Tryz.underlying21
  a21 := Tryz.isAgg21
  z21 := Tryz.sizeOf21
  v21 := Tryz.zeroValue21
  t46 := Tryz.underlying84
  a46 := Tryz.isAgg84
  z46 := Tryz.sizeOf84
  v46 := Tryz.zeroValue84
  t105 := Tryz.underlying131
  a105 := Tryz.isAgg131
  z105 := Tryz.sizeOf131
  v105 := Tryz.zeroValue131
  t116 := Tryz.underlying114
  a116 := Tryz.isAgg114
  z116 := Tryz.sizeOf114
  t117 := Tryz.underlying115
  a117 := Tryz.isAgg115
  z117 := Tryz.sizeOf115
  v117 := Tryz.zeroValue115
  t119 := Tryz.underlying94
  a119 := Tryz.isAgg94
  z119 := Tryz.sizeOf94
  t124 := Tryz.underlying118
  a124 := Tryz.isAgg118
  z124 := Tryz.sizeOf118
  v124 := Tryz.zeroValue118
  t138 := Tryz.underlying96
  a138 := Tryz.isAgg96
  z138 := Tryz.sizeOf96
  v138 := Tryz.zeroValue96
  t139 := Tryz.underlying97
  a139 := Tryz.isAgg97
  z139 := Tryz.sizeOf97
  v139 := Tryz.zeroValue97
  g3 := by kernel_rfl
  g4 := by kernel_rfl

def compareStr_ren : Shelf.Ren where
  f := fun x => match x with | 106 => 26 | 213 => 45 | 265 => 69 | n => n
  t := fun x => match x with | 9 => 9 | 3 => 3 | n => n
  g := fun n => n
theorem compareStr_lay : Lays.n106 Tryz.prog compareStr_ren where
  mixed := by kernel_rfl
  f106 := Tryz.func26.trans (by kernel_rfl)
  f213 := Tryz.func45.trans (by kernel_rfl)
  f265 := Tryz.func69.trans (by kernel_rfl)
  t3 := Tryz.underlying3
  a3 := Tryz.isAgg3
  z3 := Tryz.sizeOf3
  v3 := Tryz.zeroValue3
  t9 := Tryz.underlying9
  a9 := Tryz.isAgg9
  z9 := Tryz.sizeOf9
  v9 := Tryz.zeroValue9

def sortSM_ren : Shelf.Ren where
  f := fun x => match x with | 6 => 22 | 8 => 44 | 9 => 43 | 19 => 67 | 20 => 68 | 21 => 58 | 22 => 59 | 23 => 60 | 24 => 61 | 25 => 62 | 26 => 63 | 27 => 64 | 28 => 65 | 29 => 66 | 36 => 83 | 31 => 84 | 32 => 85 | 37 => 86 | 38 => 87 | 39 => 88 | 41 => 110 | n => n
  t := fun x => match x with | 27 => 56 | 29 => 9 | 3 => 3 | 32 => 84 | 26 => 56 | 0 => 0 | 44 => 107 | 46 => 109 | 4 => 4 | 36 => 100 | 35 => 99 | 41 => 62 | 5 => 5 | 9 => 9 | 53 => 122 | 57 => 126 | 63 => 144 | 64 => 145 | n => n
  g := fun n => n
theorem sortSM_lay : SlLaysM.n6 Tryz.prog sortSM_ren where
  mixed := by kernel_rfl
  f6 := ⟨ "slices.Sort[[]string,string]", of_decide_eq_true (by kernel_rfl), Tryz.func22.trans (by kernel_rfl)⟩
  f8 := Tryz.func44.trans (by kernel_rfl)
  f9 := ⟨ "slices.pdqsortOrdered[string]", of_decide_eq_true (by kernel_rfl), Tryz.func43.trans (by kernel_rfl)⟩
  f19 := Tryz.func67.trans (by kernel_rfl)
  f20 := Tryz.func68.trans (by kernel_rfl)
  f21 := ⟨ "slices.insertionSortOrdered[string]", of_decide_eq_true (by kernel_rfl), Tryz.func58.trans (by kernel_rfl)⟩
  f22 := ⟨ "slices.heapSortOrdered[string]", of_decide_eq_true (by kernel_rfl), Tryz.func59.trans (by kernel_rfl)⟩
  f23 := ⟨ "slices.breakPatternsOrdered[string]", of_decide_eq_true (by kernel_rfl), Tryz.func60.trans (by kernel_rfl)⟩
  f24 := ⟨ "slices.choosePivotOrdered[string]", of_decide_eq_true (by kernel_rfl), Tryz.func61.trans (by kernel_rfl)⟩
  f25 := ⟨ "slices.reverseRangeOrdered[string]", of_decide_eq_true (by kernel_rfl), Tryz.func62.trans (by kernel_rfl)⟩
  f26 := ⟨ "slices.partialInsertionSortOrdered[string]", of_decide_eq_true (by kernel_rfl), Tryz.func63.trans (by kernel_rfl)⟩
  f27 := ⟨ "cmp.Less[string]", of_decide_eq_true (by kernel_rfl), Tryz.func64.trans (by kernel_rfl)⟩
  f28 := ⟨ "slices.partitionEqualOrdered[string]", of_decide_eq_true (by kernel_rfl), Tryz.func65.trans (by kernel_rfl)⟩
  f29 := ⟨ "slices.partitionOrdered[string]", of_decide_eq_true (by kernel_rfl), Tryz.func66.trans (by kernel_rfl)⟩
  f31 := Tryz.func84.trans (by kernel_rfl)
  f32 := Tryz.func85.trans (by kernel_rfl)
  f36 := ⟨ "slices.siftDownOrdered[string]", of_decide_eq_true (by kernel_rfl), Tryz.func83.trans (by kernel_rfl)⟩
  f37 := ⟨ "slices.medianAdjacentOrdered[string]", of_decide_eq_true (by kernel_rfl), Tryz.func86.trans (by kernel_rfl)⟩
  f38 := ⟨ "slices.medianOrdered[string]", of_decide_eq_true (by kernel_rfl), Tryz.func87.trans (by kernel_rfl)⟩
  f39 := ⟨ "cmp.isNaN[string]", of_decide_eq_true (by kernel_rfl), Tryz.func88.trans (by kernel_rfl)⟩
  f41 := ⟨ "slices.order2Ordered[string]", of_decide_eq_true (by kernel_rfl), Tryz.func110.trans (by kernel_rfl)⟩
  t0 := Tryz.underlying0
  a0 := Tryz.isAgg0
  z0 := Tryz.sizeOf0
  v0 := Tryz.zeroValue0
  t3 := Tryz.underlying3
  a3 := Tryz.isAgg3
  z3 := Tryz.sizeOf3
  v3 := Tryz.zeroValue3
  t4 := Tryz.underlying4
  a4 := Tryz.isAgg4
  z4 := Tryz.sizeOf4
  v4 := Tryz.zeroValue4
  t5 := Tryz.underlying5
  a5 := Tryz.isAgg5
  z5 := Tryz.sizeOf5
  v5 := Tryz.zeroValue5
  t9 := Tryz.underlying9
  a9 := Tryz.isAgg9
  z9 := Tryz.sizeOf9
  v9 := Tryz.zeroValue9
  t26 := Tryz.underlying56
  a26 := Tryz.isAgg56
  z26 := Tryz.sizeOf56
  v26 := Tryz.zeroValue56
  t27 := Tryz.underlying56
  a27 := Tryz.isAgg56
  z27 := Tryz.sizeOf56
  v27 := Tryz.zeroValue56
  t29 := Tryz.underlying9
  a29 := Tryz.isAgg9
  z29 := Tryz.sizeOf9
  v29 := Tryz.zeroValue9
  t32 := Tryz.underlying84
  a32 := Tryz.isAgg84
  z32 := Tryz.sizeOf84
  v32 := Tryz.zeroValue84
  t35 := Tryz.underlying99
  a35 := Tryz.isAgg99
  z35 := Tryz.sizeOf99
  v35 := Tryz.zeroValue99
  t36 := Tryz.underlying100
  a36 := Tryz.isAgg100
  z36 := Tryz.sizeOf100
  v36 := Tryz.zeroValue100
  t41 := Tryz.underlying62
  a41 := Tryz.isAgg62
  z41 := Tryz.sizeOf62
  v41 := Tryz.zeroValue62
  t44 := Tryz.underlying107
  a44 := Tryz.isAgg107
  z44 := Tryz.sizeOf107
  v44 := Tryz.zeroValue107
  t46 := Tryz.underlying109
  a46 := Tryz.isAgg109
  z46 := Tryz.sizeOf109
  v46 := Tryz.zeroValue109
  t53 := Tryz.underlying122
  a53 := Tryz.isAgg122
  z53 := Tryz.sizeOf122
  v53 := Tryz.zeroValue122
  t57 := Tryz.underlying126
  a57 := Tryz.isAgg126
  z57 := Tryz.sizeOf126
  v57 := Tryz.zeroValue126
  t63 := Tryz.underlying144
  a63 := Tryz.isAgg144
  z63 := Tryz.sizeOf144
  v63 := Tryz.zeroValue144
  t64 := Tryz.underlying145
  a64 := Tryz.isAgg145
  z64 := Tryz.sizeOf145
  v64 := Tryz.zeroValue145

def growNil45_ren : Shelf.Ren where
  f := fun x => match x with | 4 => 42 | n => n
  t := fun x => match x with | 22 => 22 | 25 => 45 | 3 => 3 | 4 => 4 | 9 => 9 | 20 => 20 | 0 => 0 | n => n
  g := fun n => n
theorem growNil45_lay : Lays8.n4 Tryz.prog growNil45_ren where
  mixed := by kernel_rfl
  f4 := ⟨ "slices.Grow[[]drawboard/api.Thing,drawboard/api.Thing]", of_decide_eq_true (by kernel_rfl), Tryz.func42.trans (by kernel_rfl)⟩
  t0 := Tryz.underlying0
  a0 := Tryz.isAgg0
  z0 := Tryz.sizeOf0
  v0 := Tryz.zeroValue0
  t3 := Tryz.underlying3
  a3 := Tryz.isAgg3
  z3 := Tryz.sizeOf3
  v3 := Tryz.zeroValue3
  t4 := Tryz.underlying4
  a4 := Tryz.isAgg4
  z4 := Tryz.sizeOf4
  v4 := Tryz.zeroValue4
  t9 := Tryz.underlying9
  a9 := Tryz.isAgg9
  z9 := Tryz.sizeOf9
  v9 := Tryz.zeroValue9
  t20 := Tryz.underlying20
  a20 := Tryz.isAgg20
  z20 := Tryz.sizeOf20
  v20 := Tryz.zeroValue20
  t22 := Tryz.underlying22
  a22 := Tryz.isAgg22
  z22 := Tryz.sizeOf22
  v22 := Tryz.zeroValue22

def keysZ33_ren : Shelf.Ren where
  f := fun x => match x with | 7 => 33 | 10 => 50 | n => n
  t := fun x => match x with | 23 => 69 | 26 => 9 | 3 => 4 | 28 => 72 | 0 => 0 | 27 => 71 | 33 => 47 | 4 => 4 | n => n
  g := fun n => n
theorem keysZ33_lay : SlLaysZ.n7 Tryz.prog keysZ33_ren where
  mixed := by kernel_rfl
  f7 := ⟨ "maps.Keys[map[string]bool,string,bool]", of_decide_eq_true (by kernel_rfl), Tryz.func33.trans (by kernel_rfl)⟩
  f10 := ⟨ "maps.Keys[map[string]bool,string,bool]$1", of_decide_eq_true (by kernel_rfl), Tryz.func50.trans (by kernel_rfl)⟩
  t0 := Tryz.underlying0
  a0 := Tryz.isAgg0
  z0 := Tryz.sizeOf0
  v0 := Tryz.zeroValue0
  t4 := Tryz.underlying4
  a4 := Tryz.isAgg4
  z4 := Tryz.sizeOf4
  v4 := Tryz.zeroValue4
  t23 := Tryz.underlying69
  a23 := Tryz.isAgg69
  z23 := Tryz.sizeOf69
  v23 := Tryz.zeroValue69
  t26 := Tryz.underlying9
  a26 := Tryz.isAgg9
  z26 := Tryz.sizeOf9
  v26 := Tryz.zeroValue9
  t27 := Tryz.underlying71
  a27 := Tryz.isAgg71
  z27 := Tryz.sizeOf71
  v27 := Tryz.zeroValue71
  t28 := Tryz.underlying72
  a28 := Tryz.isAgg72
  z28 := Tryz.sizeOf72
  v28 := Tryz.zeroValue72
  t33 := Tryz.underlying47
  a33 := Tryz.isAgg47
  z33 := Tryz.sizeOf47
  v33 := Tryz.zeroValue47

def sortedZ_ren : Shelf.Ren where
  f := fun x => match x with | 6 => 32 | 8 => 49 | 9 => 22 | 11 => 79 | 13 => 44 | 12 => 43 | 23 => 67 | 24 => 68 | 14 => 58 | 15 => 59 | 16 => 60 | 17 => 61 | 18 => 62 | 19 => 63 | 20 => 64 | 21 => 65 | 22 => 66 | 25 => 83 | 26 => 84 | 27 => 85 | 28 => 86 | 29 => 87 | 30 => 88 | 31 => 110 | n => n
  t := fun x => match x with | 26 => 9 | 28 => 72 | 24 => 56 | 0 => 0 | 3 => 3 | 37 => 84 | 48 => 107 | 50 => 109 | 4 => 4 | 40 => 100 | 39 => 99 | 45 => 62 | 5 => 5 | 9 => 9 | 51 => 122 | 55 => 126 | 57 => 144 | 58 => 145 | 33 => 47 | n => n
  g := fun n => n
theorem sortedZ_lay : SlLaysZ.n6 Tryz.prog sortedZ_ren where
  mixed := by kernel_rfl
  f6 := ⟨ "slices.Sorted[string]", of_decide_eq_true (by kernel_rfl), Tryz.func32.trans (by kernel_rfl)⟩
  f8 := ⟨ "slices.Collect[string]", of_decide_eq_true (by kernel_rfl), Tryz.func49.trans (by kernel_rfl)⟩
  f11 := ⟨ "slices.AppendSeq[[]string,string]", of_decide_eq_true (by kernel_rfl), Tryz.func79.trans (by kernel_rfl)⟩
  t0 := Tryz.underlying0
  a0 := Tryz.isAgg0
  z0 := Tryz.sizeOf0
  v0 := Tryz.zeroValue0
  t24 := Tryz.underlying56
  a24 := Tryz.isAgg56
  z24 := Tryz.sizeOf56
  v24 := Tryz.zeroValue56
  t26 := Tryz.underlying9
  a26 := Tryz.isAgg9
  z26 := Tryz.sizeOf9
  v26 := Tryz.zeroValue9
  t28 := Tryz.underlying72
  a28 := Tryz.isAgg72
  z28 := Tryz.sizeOf72
  v28 := Tryz.zeroValue72
  i26 := by kernel_rfl

def keysZ34_ren : Shelf.Ren where
  f := fun x => match x with | 7 => 34 | 10 => 51 | n => n
  t := fun x => match x with | 23 => 60 | 26 => 9 | 3 => 9 | 28 => 72 | 0 => 0 | 27 => 71 | 33 => 47 | 4 => 4 | n => n
  g := fun n => n
theorem keysZ34_lay : SlLaysZ.n7 Tryz.prog keysZ34_ren where
  mixed := by kernel_rfl
  f7 := ⟨ "maps.Keys[map[string]string,string,string]", of_decide_eq_true (by kernel_rfl), Tryz.func34.trans (by kernel_rfl)⟩
  f10 := ⟨ "maps.Keys[map[string]string,string,string]$1", of_decide_eq_true (by kernel_rfl), Tryz.func51.trans (by kernel_rfl)⟩
  t0 := Tryz.underlying0
  a0 := Tryz.isAgg0
  z0 := Tryz.sizeOf0
  v0 := Tryz.zeroValue0
  t4 := Tryz.underlying4
  a4 := Tryz.isAgg4
  z4 := Tryz.sizeOf4
  v4 := Tryz.zeroValue4
  t23 := Tryz.underlying60
  a23 := Tryz.isAgg60
  z23 := Tryz.sizeOf60
  v23 := Tryz.zeroValue60
  t26 := Tryz.underlying9
  a26 := Tryz.isAgg9
  z26 := Tryz.sizeOf9
  v26 := Tryz.zeroValue9
  t27 := Tryz.underlying71
  a27 := Tryz.isAgg71
  z27 := Tryz.sizeOf71
  v27 := Tryz.zeroValue71
  t28 := Tryz.underlying72
  a28 := Tryz.isAgg72
  z28 := Tryz.sizeOf72
  v28 := Tryz.zeroValue72
  t33 := Tryz.underlying47
  a33 := Tryz.isAgg47
  z33 := Tryz.sizeOf47
  v33 := Tryz.zeroValue47

def sortF49_ren : Shelf.Ren where
  f := fun x => match x with | 6 => 52 | 15 => 44 | 14 => 80 | 28 => 67 | 29 => 68 | 20 => 94 | 21 => 95 | 22 => 96 | 23 => 97 | 24 => 98 | 25 => 99 | 26 => 100 | 27 => 101 | 46 => 114 | 47 => 84 | 48 => 85 | 49 => 115 | 50 => 116 | 57 => 124 | n => n
  t := fun x => match x with | 22 => 43 | 24 => 49 | 25 => 89 | 3 => 3 | 39 => 84 | 0 => 0 | 53 => 107 | 55 => 109 | 4 => 4 | 46 => 100 | 45 => 99 | 50 => 62 | 5 => 5 | 9 => 9 | 66 => 122 | 70 => 126 | 76 => 144 | 77 => 145 | n => n
  g := fun n => n
theorem sortF49_lay : SlLaysF0.n6 Tryz.prog sortF49_ren where
  mixed := by kernel_rfl
  f6 := ⟨ "slices.SortFunc[[]drawboard/api.Attr,drawboard/api.Attr]", of_decide_eq_true (by kernel_rfl), Tryz.func52.trans (by kernel_rfl)⟩
  f14 := ⟨ "slices.pdqsortCmpFunc[drawboard/api.Attr]", of_decide_eq_true (by kernel_rfl), Tryz.func80.trans (by kernel_rfl)⟩
  f15 := Tryz.func44.trans (by kernel_rfl)
  f20 := ⟨ "slices.insertionSortCmpFunc[drawboard/api.Attr]", of_decide_eq_true (by kernel_rfl), Tryz.func94.trans (by kernel_rfl)⟩
  f21 := ⟨ "slices.heapSortCmpFunc[drawboard/api.Attr]", of_decide_eq_true (by kernel_rfl), Tryz.func95.trans (by kernel_rfl)⟩
  f22 := ⟨ "slices.breakPatternsCmpFunc[drawboard/api.Attr]", of_decide_eq_true (by kernel_rfl), Tryz.func96.trans (by kernel_rfl)⟩
  f23 := ⟨ "slices.choosePivotCmpFunc[drawboard/api.Attr]", of_decide_eq_true (by kernel_rfl), Tryz.func97.trans (by kernel_rfl)⟩
  f24 := ⟨ "slices.reverseRangeCmpFunc[drawboard/api.Attr]", of_decide_eq_true (by kernel_rfl), Tryz.func98.trans (by kernel_rfl)⟩
  f25 := ⟨ "slices.partialInsertionSortCmpFunc[drawboard/api.Attr]", of_decide_eq_true (by kernel_rfl), Tryz.func99.trans (by kernel_rfl)⟩
  f26 := ⟨ "slices.partitionEqualCmpFunc[drawboard/api.Attr]", of_decide_eq_true (by kernel_rfl), Tryz.func100.trans (by kernel_rfl)⟩
  f27 := ⟨ "slices.partitionCmpFunc[drawboard/api.Attr]", of_decide_eq_true (by kernel_rfl), Tryz.func101.trans (by kernel_rfl)⟩
  f28 := Tryz.func67.trans (by kernel_rfl)
  f29 := Tryz.func68.trans (by kernel_rfl)
  f46 := ⟨ "slices.siftDownCmpFunc[drawboard/api.Attr]", of_decide_eq_true (by kernel_rfl), Tryz.func114.trans (by kernel_rfl)⟩
  f47 := Tryz.func84.trans (by kernel_rfl)
  f48 := Tryz.func85.trans (by kernel_rfl)
  f49 := ⟨ "slices.medianAdjacentCmpFunc[drawboard/api.Attr]", of_decide_eq_true (by kernel_rfl), Tryz.func115.trans (by kernel_rfl)⟩
  f50 := ⟨ "slices.medianCmpFunc[drawboard/api.Attr]", of_decide_eq_true (by kernel_rfl), Tryz.func116.trans (by kernel_rfl)⟩
  f57 := ⟨ "slices.order2CmpFunc[drawboard/api.Attr]", of_decide_eq_true (by kernel_rfl), Tryz.func124.trans (by kernel_rfl)⟩
  t0 := Tryz.underlying0
  a0 := Tryz.isAgg0
  z0 := Tryz.sizeOf0
  v0 := Tryz.zeroValue0
  t3 := Tryz.underlying3
  a3 := Tryz.isAgg3
  z3 := Tryz.sizeOf3
  v3 := Tryz.zeroValue3
  t4 := Tryz.underlying4
  a4 := Tryz.isAgg4
  z4 := Tryz.sizeOf4
  v4 := Tryz.zeroValue4
  t5 := Tryz.underlying5
  a5 := Tryz.isAgg5
  z5 := Tryz.sizeOf5
  v5 := Tryz.zeroValue5
  t9 := Tryz.underlying9
  a9 := Tryz.isAgg9
  z9 := Tryz.sizeOf9
  v9 := Tryz.zeroValue9
  t22 := Tryz.underlying43
  a22 := Tryz.isAgg43
  z22 := Tryz.sizeOf43
  v22 := Tryz.zeroValue43
  t25 := Tryz.underlying89
  a25 := Tryz.isAgg89
  z25 := Tryz.sizeOf89
  v25 := Tryz.zeroValue89
  t39 := Tryz.underlying84
  a39 := Tryz.isAgg84
  z39 := Tryz.sizeOf84
  v39 := Tryz.zeroValue84
  t45 := Tryz.underlying99
  a45 := Tryz.isAgg99
  z45 := Tryz.sizeOf99
  v45 := Tryz.zeroValue99
  t46 := Tryz.underlying100
  a46 := Tryz.isAgg100
  z46 := Tryz.sizeOf100
  v46 := Tryz.zeroValue100
  t50 := Tryz.underlying62
  a50 := Tryz.isAgg62
  z50 := Tryz.sizeOf62
  v50 := Tryz.zeroValue62
  t53 := Tryz.underlying107
  a53 := Tryz.isAgg107
  z53 := Tryz.sizeOf107
  v53 := Tryz.zeroValue107
  t55 := Tryz.underlying109
  a55 := Tryz.isAgg109
  z55 := Tryz.sizeOf109
  v55 := Tryz.zeroValue109
  t66 := Tryz.underlying122
  a66 := Tryz.isAgg122
  z66 := Tryz.sizeOf122
  v66 := Tryz.zeroValue122
  t70 := Tryz.underlying126
  a70 := Tryz.isAgg126
  z70 := Tryz.sizeOf126
  v70 := Tryz.zeroValue126
  t76 := Tryz.underlying144
  a76 := Tryz.isAgg144
  z76 := Tryz.sizeOf144
  v76 := Tryz.zeroValue144
  t77 := Tryz.underlying145
  a77 := Tryz.isAgg145
  z77 := Tryz.sizeOf145
  v77 := Tryz.zeroValue145

def sortF45_ren : Shelf.Ren where
  f := fun x => match x with | 6 => 54 | 15 => 44 | 14 => 81 | 28 => 67 | 29 => 68 | 20 => 102 | 21 => 103 | 22 => 104 | 23 => 105 | 24 => 106 | 25 => 107 | 26 => 108 | 27 => 109 | 46 => 117 | 47 => 84 | 48 => 85 | 49 => 118 | 50 => 119 | 57 => 125 | n => n
  t := fun x => match x with | 22 => 22 | 24 => 45 | 25 => 91 | 3 => 3 | 39 => 84 | 0 => 0 | 53 => 107 | 55 => 109 | 4 => 4 | 46 => 100 | 45 => 99 | 50 => 62 | 5 => 5 | 9 => 9 | 66 => 122 | 70 => 126 | 76 => 144 | 77 => 145 | n => n
  g := fun n => n
theorem sortF45_lay : SlLaysF0.n6 Tryz.prog sortF45_ren where
  mixed := by kernel_rfl
  f6 := ⟨ "slices.SortFunc[[]drawboard/api.Thing,drawboard/api.Thing]", of_decide_eq_true (by kernel_rfl), Tryz.func54.trans (by kernel_rfl)⟩
  f14 := ⟨ "slices.pdqsortCmpFunc[drawboard/api.Thing]", of_decide_eq_true (by kernel_rfl), Tryz.func81.trans (by kernel_rfl)⟩
  f15 := Tryz.func44.trans (by kernel_rfl)
  f20 := ⟨ "slices.insertionSortCmpFunc[drawboard/api.Thing]", of_decide_eq_true (by kernel_rfl), Tryz.func102.trans (by kernel_rfl)⟩
  f21 := ⟨ "slices.heapSortCmpFunc[drawboard/api.Thing]", of_decide_eq_true (by kernel_rfl), Tryz.func103.trans (by kernel_rfl)⟩
  f22 := ⟨ "slices.breakPatternsCmpFunc[drawboard/api.Thing]", of_decide_eq_true (by kernel_rfl), Tryz.func104.trans (by kernel_rfl)⟩
  f23 := ⟨ "slices.choosePivotCmpFunc[drawboard/api.Thing]", of_decide_eq_true (by kernel_rfl), Tryz.func105.trans (by kernel_rfl)⟩
  f24 := ⟨ "slices.reverseRangeCmpFunc[drawboard/api.Thing]", of_decide_eq_true (by kernel_rfl), Tryz.func106.trans (by kernel_rfl)⟩
  f25 := ⟨ "slices.partialInsertionSortCmpFunc[drawboard/api.Thing]", of_decide_eq_true (by kernel_rfl), Tryz.func107.trans (by kernel_rfl)⟩
  f26 := ⟨ "slices.partitionEqualCmpFunc[drawboard/api.Thing]", of_decide_eq_true (by kernel_rfl), Tryz.func108.trans (by kernel_rfl)⟩
  f27 := ⟨ "slices.partitionCmpFunc[drawboard/api.Thing]", of_decide_eq_true (by kernel_rfl), Tryz.func109.trans (by kernel_rfl)⟩
  f28 := Tryz.func67.trans (by kernel_rfl)
  f29 := Tryz.func68.trans (by kernel_rfl)
  f46 := ⟨ "slices.siftDownCmpFunc[drawboard/api.Thing]", of_decide_eq_true (by kernel_rfl), Tryz.func117.trans (by kernel_rfl)⟩
  f47 := Tryz.func84.trans (by kernel_rfl)
  f48 := Tryz.func85.trans (by kernel_rfl)
  f49 := ⟨ "slices.medianAdjacentCmpFunc[drawboard/api.Thing]", of_decide_eq_true (by kernel_rfl), Tryz.func118.trans (by kernel_rfl)⟩
  f50 := ⟨ "slices.medianCmpFunc[drawboard/api.Thing]", of_decide_eq_true (by kernel_rfl), Tryz.func119.trans (by kernel_rfl)⟩
  f57 := ⟨ "slices.order2CmpFunc[drawboard/api.Thing]", of_decide_eq_true (by kernel_rfl), Tryz.func125.trans (by kernel_rfl)⟩
  t0 := Tryz.underlying0
  a0 := Tryz.isAgg0
  z0 := Tryz.sizeOf0
  v0 := Tryz.zeroValue0
  t3 := Tryz.underlying3
  a3 := Tryz.isAgg3
  z3 := Tryz.sizeOf3
  v3 := Tryz.zeroValue3
  t4 := Tryz.underlying4
  a4 := Tryz.isAgg4
  z4 := Tryz.sizeOf4
  v4 := Tryz.zeroValue4
  t5 := Tryz.underlying5
  a5 := Tryz.isAgg5
  z5 := Tryz.sizeOf5
  v5 := Tryz.zeroValue5
  t9 := Tryz.underlying9
  a9 := Tryz.isAgg9
  z9 := Tryz.sizeOf9
  v9 := Tryz.zeroValue9
  t22 := Tryz.underlying22
  a22 := Tryz.isAgg22
  z22 := Tryz.sizeOf22
  v22 := Tryz.zeroValue22
  t25 := Tryz.underlying91
  a25 := Tryz.isAgg91
  z25 := Tryz.sizeOf91
  v25 := Tryz.zeroValue91
  t39 := Tryz.underlying84
  a39 := Tryz.isAgg84
  z39 := Tryz.sizeOf84
  v39 := Tryz.zeroValue84
  t45 := Tryz.underlying99
  a45 := Tryz.isAgg99
  z45 := Tryz.sizeOf99
  v45 := Tryz.zeroValue99
  t46 := Tryz.underlying100
  a46 := Tryz.isAgg100
  z46 := Tryz.sizeOf100
  v46 := Tryz.zeroValue100
  t50 := Tryz.underlying62
  a50 := Tryz.isAgg62
  z50 := Tryz.sizeOf62
  v50 := Tryz.zeroValue62
  t53 := Tryz.underlying107
  a53 := Tryz.isAgg107
  z53 := Tryz.sizeOf107
  v53 := Tryz.zeroValue107
  t55 := Tryz.underlying109
  a55 := Tryz.isAgg109
  z55 := Tryz.sizeOf109
  v55 := Tryz.zeroValue109
  t66 := Tryz.underlying122
  a66 := Tryz.isAgg122
  z66 := Tryz.sizeOf122
  v66 := Tryz.zeroValue122
  t70 := Tryz.underlying126
  a70 := Tryz.isAgg126
  z70 := Tryz.sizeOf126
  v70 := Tryz.zeroValue126
  t76 := Tryz.underlying144
  a76 := Tryz.isAgg144
  z76 := Tryz.sizeOf144
  v76 := Tryz.zeroValue144
  t77 := Tryz.underlying145
  a77 := Tryz.isAgg145
  z77 := Tryz.sizeOf145
  v77 := Tryz.zeroValue145

def keysZ56_ren : Shelf.Ren where
  f := fun x => match x with | 7 => 56 | 10 => 82 | n => n
  t := fun x => match x with | 23 => 53 | 26 => 9 | 3 => 60 | 28 => 72 | 0 => 0 | 27 => 71 | 33 => 47 | 4 => 4 | n => n
  g := fun n => n
theorem keysZ56_lay : SlLaysZ.n7 Tryz.prog keysZ56_ren where
  mixed := by kernel_rfl
  f7 := ⟨ "maps.Keys[map[string]map[string]string,string,map[string]string]", of_decide_eq_true (by kernel_rfl), Tryz.func56.trans (by kernel_rfl)⟩
  f10 := ⟨ "maps.Keys[map[string]map[string]string,string,map[string]string]$1", of_decide_eq_true (by kernel_rfl), Tryz.func82.trans (by kernel_rfl)⟩
  t0 := Tryz.underlying0
  a0 := Tryz.isAgg0
  z0 := Tryz.sizeOf0
  v0 := Tryz.zeroValue0
  t4 := Tryz.underlying4
  a4 := Tryz.isAgg4
  z4 := Tryz.sizeOf4
  v4 := Tryz.zeroValue4
  t23 := Tryz.underlying53
  a23 := Tryz.isAgg53
  z23 := Tryz.sizeOf53
  v23 := Tryz.zeroValue53
  t26 := Tryz.underlying9
  a26 := Tryz.isAgg9
  z26 := Tryz.sizeOf9
  v26 := Tryz.zeroValue9
  t27 := Tryz.underlying71
  a27 := Tryz.isAgg71
  z27 := Tryz.sizeOf71
  v27 := Tryz.zeroValue71
  t28 := Tryz.underlying72
  a28 := Tryz.isAgg72
  z28 := Tryz.sizeOf72
  v28 := Tryz.zeroValue72
  t33 := Tryz.underlying47
  a33 := Tryz.isAgg47
  z33 := Tryz.sizeOf47
  v33 := Tryz.zeroValue47

theorem fnok41 : FnOK Tryz.prog 41 := ⟨_, Tryz.func41, by kernel_rfl, by kernel_rfl⟩
theorem fnok48 : FnOK Tryz.prog 48 := ⟨_, Tryz.func48, by kernel_rfl, by kernel_rfl⟩
theorem fnok26 : FnOK Tryz.prog 26 := ⟨_, Tryz.func26, by kernel_rfl, by kernel_rfl⟩
theorem fnok22 : FnOK Tryz.prog 22 := ⟨_, Tryz.func22, by kernel_rfl, by kernel_rfl⟩
theorem sl22 : SliceOf Tryz.prog 22 45 := Tryz.underlying22
theorem ty45 : Ty Tryz.prog 45 Thing := ⟨⟨_, Tryz.underlying45, rfl⟩, by kernel_rfl⟩
theorem rk22 : RowOK Tryz.prog 22 45 Thing := ⟨sl22, ty45, by kernel_rfl⟩
theorem fnok42 : FnOK Tryz.prog 42 := ⟨_, Tryz.func42, by kernel_rfl, by kernel_rfl⟩
theorem fnok3 : FnOK Tryz.prog 3 := ⟨_, Tryz.func3, by kernel_rfl, by kernel_rfl⟩
theorem ty22 : Ty Tryz.prog 22 (List Thing) := ⟨⟨_, Tryz.underlying22, rfl⟩, by kernel_rfl⟩
theorem fnok4 : FnOK Tryz.prog 4 := ⟨_, Tryz.func4, by kernel_rfl, by kernel_rfl⟩
theorem zo45 : ZeroOf Tryz.prog 45 (⟨Str.nil, ([] : (List Attr))⟩ : Thing) := ⟨[.string ByteArray.empty, .slice none 0 0], by kernel_rfl, fun _ _ => ⟨[_], _, rfl, str_zero, ⟨none, 0, rfl, Nat.le_refl _, by decide, rfl⟩⟩⟩
theorem fd45_0 : FieldAt Tryz.prog 45 0 0 := ⟨_, _, Tryz.underlying45, rfl, rfl, by kernel_rfl⟩
theorem hfd45_0 : HasField Thing Str 0 Thing.Id := ⟨by decide, fun M x cs w h => (HasField.fst HasField.self).2 M _ cs w h⟩
theorem ty9 : Ty Tryz.prog 9 Str := ⟨⟨_, Tryz.underlying9, rfl⟩, by kernel_rfl⟩
theorem fnok18 : FnOK Tryz.prog 18 := ⟨_, Tryz.func18, by kernel_rfl, by kernel_rfl⟩
theorem fnok17 : FnOK Tryz.prog 17 := ⟨_, Tryz.func17, by kernel_rfl, by kernel_rfl⟩
theorem fd45_1 : FieldAt Tryz.prog 45 1 1 := ⟨_, _, Tryz.underlying45, rfl, rfl, by kernel_rfl⟩
theorem hfd45_1 : HasField Thing (List Attr) 1 Thing.Attrs := ⟨by decide, fun M x cs w h => (HasField.snd HasField.self).2 M _ cs w h⟩
theorem ty43 : Ty Tryz.prog 43 (List Attr) := ⟨⟨_, Tryz.underlying43, rfl⟩, by kernel_rfl⟩
theorem sl43 : SliceOf Tryz.prog 43 49 := Tryz.underlying43
theorem sl51 : SliceOf Tryz.prog 51 24 := Tryz.underlying51
theorem ty24 : Ty Tryz.prog 24 Int := ⟨⟨_, Tryz.underlying24, rfl⟩, by kernel_rfl⟩
theorem hz24 : HasZero Tryz.prog 24 := by unfold HasZero; kernel_rfl
theorem fnok5 : FnOK Tryz.prog 5 := ⟨_, Tryz.func5, by kernel_rfl, by kernel_rfl⟩
theorem ty49 : Ty Tryz.prog 49 Attr := ⟨⟨_, Tryz.underlying49, rfl⟩, by kernel_rfl⟩
theorem zo49 : ZeroOf Tryz.prog 49 (⟨Str.nil, Str.nil⟩ : Attr) := ⟨[.string ByteArray.empty, .string ByteArray.empty], by kernel_rfl, fun _ _ => ⟨[_], _, rfl, str_zero, str_zero⟩⟩
theorem fd49_0 : FieldAt Tryz.prog 49 0 0 := ⟨_, _, Tryz.underlying49, rfl, rfl, by kernel_rfl⟩
theorem hfd49_0 : HasField Attr Str 0 Attr.Field := ⟨by decide, fun M x cs w h => (HasField.fst HasField.self).2 M _ cs w h⟩
theorem fd49_1 : FieldAt Tryz.prog 49 1 1 := ⟨_, _, Tryz.underlying49, rfl, rfl, by kernel_rfl⟩
theorem hfd49_1 : HasField Attr Str 1 Attr.Value := ⟨by decide, fun M x cs w h => (HasField.snd HasField.self).2 M _ cs w h⟩
theorem fnok19 : FnOK Tryz.prog 19 := ⟨_, Tryz.func19, by kernel_rfl, by kernel_rfl⟩
theorem fnok6 : FnOK Tryz.prog 6 := ⟨_, Tryz.func6, by kernel_rfl, by kernel_rfl⟩
theorem sl52 : SliceOf Tryz.prog 52 22 := Tryz.underlying52
theorem hz22 : HasZero Tryz.prog 22 := by unfold HasZero; kernel_rfl
theorem fnok8 : FnOK Tryz.prog 8 := ⟨_, Tryz.func8, by kernel_rfl, by kernel_rfl⟩
theorem fnok28 : FnOK Tryz.prog 28 := ⟨_, Tryz.func28, by kernel_rfl, by kernel_rfl⟩
theorem fnok29 : FnOK Tryz.prog 29 := ⟨_, Tryz.func29, by kernel_rfl, by kernel_rfl⟩
theorem fnok20 : FnOK Tryz.prog 20 := ⟨_, Tryz.func20, by kernel_rfl, by kernel_rfl⟩
theorem mo54 : MapOf Tryz.prog 54 9 60 (MKey.desc Str) := ⟨Tryz.underlying54, Tryz.underlying9⟩
theorem zo60 : ZeroOf Tryz.prog 60 (GMap.nil : (GMap Str Str)) := ⟨[.map none], by kernel_rfl, fun _ _ => map_zero⟩
theorem zrawm60 : ZeroOf Tryz.prog 60 (⟨.map none⟩ : Raw) := ⟨[.map none], by kernel_rfl, fun _ _ => ⟨rfl, rfl, rfl⟩⟩
theorem mo60 : MapOf Tryz.prog 60 9 9 (MKey.desc Str) := ⟨Tryz.underlying60, Tryz.underlying9⟩
theorem fnok21 : FnOK Tryz.prog 21 := ⟨_, Tryz.func21, by kernel_rfl, by kernel_rfl⟩
theorem sl56 : SliceOf Tryz.prog 56 9 := Tryz.underlying56
theorem hz9 : HasZero Tryz.prog 9 := by unfold HasZero; kernel_rfl
theorem rk56 : RowOK Tryz.prog 56 9 Str := ⟨sl56, ty9, by kernel_rfl⟩
theorem fnok23 : FnOK Tryz.prog 23 := ⟨_, Tryz.func23, by kernel_rfl, by kernel_rfl⟩
theorem zo9 : ZeroOf Tryz.prog 9 Str.nil := ⟨[.string ByteArray.empty], by kernel_rfl, fun _ _ => str_zero⟩
theorem sf34_2 : SetField DOp Str 4 (fun x z => { x with Id := z }) := ⟨by decide, fun M x z cs zs w h hz => (SetField.snd (SetField.snd (SetField.fst SetField.self))).2 M _ z cs zs w h hz⟩
theorem sf34_1 : SetField DOp Int 3 (fun x z => { x with Kind := z }) := ⟨by decide, fun M x z cs zs w h hz => (SetField.snd (SetField.fst SetField.self)).2 M _ z cs zs w h hz⟩
theorem bu34 : BuildAt Tryz.prog 34 [.int .i64 0, .string ByteArray.empty, .int .i64 0, .int .i64 0, .string ByteArray.empty, .string ByteArray.empty, .string ByteArray.empty, .int .i64 0] [(0, 3), (3, 1), (4, 1), (5, 1), (6, 1), (7, 1)] := ⟨by kernel_rfl, _, Tryz.underlying34, by kernel_rfl⟩
theorem zc34 : ∀ (M : MSet) (w : World), Rep.cells M (⟨(⟨(0 : Int), Str.nil, (0 : Int)⟩ : Stamp), (0 : Int), Str.nil, Str.nil, Str.nil, (0 : Int)⟩ : DOp) [.int .i64 0, .string ByteArray.empty, .int .i64 0, .int .i64 0, .string ByteArray.empty, .string ByteArray.empty, .string ByteArray.empty, .int .i64 0] w := fun _ _ => ⟨[_, _, _], _, rfl, ⟨[_], _, rfl, ⟨rfl, by decide⟩, ⟨[_], _, rfl, str_zero, ⟨rfl, by decide⟩⟩⟩, ⟨[_], _, rfl, ⟨rfl, by decide⟩, ⟨[_], _, rfl, str_zero, ⟨[_], _, rfl, str_zero, ⟨[_], _, rfl, str_zero, ⟨rfl, by decide⟩⟩⟩⟩⟩⟩
theorem sl23 : SliceOf Tryz.prog 23 34 := Tryz.underlying23
theorem ty34 : Ty Tryz.prog 34 DOp := ⟨⟨_, Tryz.underlying34, rfl⟩, by kernel_rfl⟩
theorem hz34 : HasZero Tryz.prog 34 := by unfold HasZero; kernel_rfl
theorem rk23 : RowOK Tryz.prog 23 34 DOp := ⟨sl23, ty34, by kernel_rfl⟩
theorem fnok24 : FnOK Tryz.prog 24 := ⟨_, Tryz.func24, by kernel_rfl, by kernel_rfl⟩
theorem fnok25 : FnOK Tryz.prog 25 := ⟨_, Tryz.func25, by kernel_rfl, by kernel_rfl⟩
theorem sf34_4 : SetField DOp Str 6 (fun x z => { x with Value := z }) := ⟨by decide, fun M x z cs zs w h hz => (SetField.snd (SetField.snd (SetField.snd (SetField.snd (SetField.fst SetField.self))))).2 M _ z cs zs w h hz⟩
theorem sf34_3 : SetField DOp Str 5 (fun x z => { x with Field := z }) := ⟨by decide, fun M x z cs zs w h hz => (SetField.snd (SetField.snd (SetField.snd (SetField.fst SetField.self)))).2 M _ z cs zs w h hz⟩
theorem fnok7 : FnOK Tryz.prog 7 := ⟨_, Tryz.func7, by kernel_rfl, by kernel_rfl⟩
theorem fnok27 : FnOK Tryz.prog 27 := ⟨_, Tryz.func27, by kernel_rfl, by kernel_rfl⟩
theorem zo34 : ZeroOf Tryz.prog 34 (⟨(⟨(0 : Int), Str.nil, (0 : Int)⟩ : Stamp), (0 : Int), Str.nil, Str.nil, Str.nil, (0 : Int)⟩ : DOp) := ⟨[.int .i64 0, .string ByteArray.empty, .int .i64 0, .int .i64 0, .string ByteArray.empty, .string ByteArray.empty, .string ByteArray.empty, .int .i64 0], by kernel_rfl, fun _ _ => ⟨[_, _, _], _, rfl, ⟨[_], _, rfl, ⟨rfl, by decide⟩, ⟨[_], _, rfl, str_zero, ⟨rfl, by decide⟩⟩⟩, ⟨[_], _, rfl, ⟨rfl, by decide⟩, ⟨[_], _, rfl, str_zero, ⟨[_], _, rfl, str_zero, ⟨[_], _, rfl, str_zero, ⟨rfl, by decide⟩⟩⟩⟩⟩⟩⟩
theorem fd34_0 : FieldAt Tryz.prog 34 0 0 := ⟨_, _, Tryz.underlying34, rfl, rfl, by kernel_rfl⟩
theorem hfd34_0 : HasField DOp Stamp 0 DOp.Stamp := ⟨by decide, fun M x cs w h => (HasField.fst HasField.self).2 M _ cs w h⟩
theorem fd32_1 : FieldAt Tryz.prog 32 1 1 := ⟨_, _, Tryz.underlying32, rfl, rfl, by kernel_rfl⟩
theorem hfd32_1 : HasField Stamp Str 1 Stamp.Site := ⟨by decide, fun M x cs w h => (HasField.snd (HasField.fst HasField.self)).2 M _ cs w h⟩
theorem fnok46 : FnOK Tryz.prog 46 := ⟨_, Tryz.func46, by kernel_rfl, by kernel_rfl⟩
theorem fd32_2 : FieldAt Tryz.prog 32 2 2 := ⟨_, _, Tryz.underlying32, rfl, rfl, by kernel_rfl⟩
theorem hfd32_2 : HasField Stamp Int 2 Stamp.No := ⟨by decide, fun M x cs w h => (HasField.snd (HasField.snd HasField.self)).2 M _ cs w h⟩
theorem ty3 : Ty Tryz.prog 3 Int := ⟨⟨_, Tryz.underlying3, rfl⟩, by kernel_rfl⟩
theorem fnok71 : FnOK Tryz.prog 71 := ⟨_, Tryz.func71, by kernel_rfl, by kernel_rfl⟩
theorem fnok89 : FnOK Tryz.prog 89 := ⟨_, Tryz.func89, by kernel_rfl, by kernel_rfl⟩
theorem sl128 : SliceOf Tryz.prog 128 3 := Tryz.underlying128
theorem hz3 : HasZero Tryz.prog 3 := by unfold HasZero; kernel_rfl
theorem fnok70 : FnOK Tryz.prog 70 := ⟨_, Tryz.func70, by kernel_rfl, by kernel_rfl⟩
theorem fd32_0 : FieldAt Tryz.prog 32 0 0 := ⟨_, _, Tryz.underlying32, rfl, rfl, by kernel_rfl⟩
theorem hfd32_0 : HasField Stamp Int 0 Stamp.Time := ⟨by decide, fun M x cs w h => (HasField.fst HasField.self).2 M _ cs w h⟩
theorem fnok47 : FnOK Tryz.prog 47 := ⟨_, Tryz.func47, by kernel_rfl, by kernel_rfl⟩
theorem fd34_1 : FieldAt Tryz.prog 34 1 3 := ⟨_, _, Tryz.underlying34, rfl, rfl, by kernel_rfl⟩
theorem hfd34_1 : HasField DOp Int 3 DOp.Kind := ⟨by decide, fun M x cs w h => (HasField.snd (HasField.fst HasField.self)).2 M _ cs w h⟩
theorem fd34_5 : FieldAt Tryz.prog 34 5 7 := ⟨_, _, Tryz.underlying34, rfl, rfl, by kernel_rfl⟩
theorem hfd34_5 : HasField DOp Int 7 DOp.Of := ⟨by decide, fun M x cs w h => (HasField.snd (HasField.snd (HasField.snd (HasField.snd (HasField.snd HasField.self))))).2 M _ cs w h⟩
theorem fd34_2 : FieldAt Tryz.prog 34 2 4 := ⟨_, _, Tryz.underlying34, rfl, rfl, by kernel_rfl⟩
theorem hfd34_2 : HasField DOp Str 4 DOp.Id := ⟨by decide, fun M x cs w h => (HasField.snd (HasField.snd (HasField.fst HasField.self))).2 M _ cs w h⟩
theorem fd34_3 : FieldAt Tryz.prog 34 3 5 := ⟨_, _, Tryz.underlying34, rfl, rfl, by kernel_rfl⟩
theorem hfd34_3 : HasField DOp Str 5 DOp.Field := ⟨by decide, fun M x cs w h => (HasField.snd (HasField.snd (HasField.snd (HasField.fst HasField.self)))).2 M _ cs w h⟩
theorem fd34_4 : FieldAt Tryz.prog 34 4 6 := ⟨_, _, Tryz.underlying34, rfl, rfl, by kernel_rfl⟩
theorem hfd34_4 : HasField DOp Str 6 DOp.Value := ⟨by decide, fun M x cs w h => (HasField.snd (HasField.snd (HasField.snd (HasField.snd (HasField.fst HasField.self))))).2 M _ cs w h⟩
theorem fnok10 : FnOK Tryz.prog 10 := ⟨_, Tryz.func10, by kernel_rfl, by kernel_rfl⟩
theorem fnok11 : FnOK Tryz.prog 11 := ⟨_, Tryz.func11, by kernel_rfl, by kernel_rfl⟩
theorem fnok31 : FnOK Tryz.prog 31 := ⟨_, Tryz.func31, by kernel_rfl, by kernel_rfl⟩
theorem mo53 : MapOf Tryz.prog 53 9 60 (MKey.desc Str) := ⟨Tryz.underlying53, Tryz.underlying9⟩
theorem mo69 : MapOf Tryz.prog 69 9 4 (MKey.desc Str) := ⟨Tryz.underlying69, Tryz.underlying9⟩
theorem fnok33 : FnOK Tryz.prog 33 := ⟨_, Tryz.func33, by kernel_rfl, by kernel_rfl⟩
theorem fnok32 : FnOK Tryz.prog 32 := ⟨_, Tryz.func32, by kernel_rfl, by kernel_rfl⟩
theorem fnok50 : FnOK Tryz.prog 50 := ⟨_, Tryz.func50, by kernel_rfl, by kernel_rfl⟩
theorem fnok34 : FnOK Tryz.prog 34 := ⟨_, Tryz.func34, by kernel_rfl, by kernel_rfl⟩
theorem fnok51 : FnOK Tryz.prog 51 := ⟨_, Tryz.func51, by kernel_rfl, by kernel_rfl⟩
theorem fnok9 : FnOK Tryz.prog 9 := ⟨_, Tryz.func9, by kernel_rfl, by kernel_rfl⟩
theorem fnok30 : FnOK Tryz.prog 30 := ⟨_, Tryz.func30, by kernel_rfl, by kernel_rfl⟩
theorem eqi32 : EqIn Tryz.prog 32 Stamp 2 := eqIn_struct Tryz.underlying32 (by kernel_rfl) (.cons (proj := Stamp.Time) rfl hfd32_0 ty3 (eqIn_int Tryz.underlying3) (.cons (proj := Stamp.Site) rfl hfd32_1 ty9 (eqIn_str Tryz.underlying9) (.cons (proj := Stamp.No) rfl hfd32_2 ty3 (eqIn_int Tryz.underlying3) .nil))) (fun x y => by rw [Bool.eq_iff_iff]; cases x; cases y; simp only [Bool.and_eq_true, decide_eq_true_eq, and_true, Stamp.mk.injEq]) rfl
theorem ty32 : Ty Tryz.prog 32 Stamp := ⟨⟨_, Tryz.underlying32, rfl⟩, by kernel_rfl⟩
theorem eqi34 : EqIn Tryz.prog 34 DOp 3 := eqIn_struct Tryz.underlying34 (by kernel_rfl) (.cons (proj := DOp.Stamp) rfl hfd34_0 ty32 eqi32 (.cons (proj := DOp.Kind) rfl hfd34_1 ty3 (eqIn_more (eqIn_int Tryz.underlying3) (by decide)) (.cons (proj := DOp.Id) rfl hfd34_2 ty9 (eqIn_more (eqIn_str Tryz.underlying9) (by decide)) (.cons (proj := DOp.Field) rfl hfd34_3 ty9 (eqIn_more (eqIn_str Tryz.underlying9) (by decide)) (.cons (proj := DOp.Value) rfl hfd34_4 ty9 (eqIn_more (eqIn_str Tryz.underlying9) (by decide)) (.cons (proj := DOp.Of) rfl hfd34_5 ty3 (eqIn_more (eqIn_int Tryz.underlying3) (by decide)) .nil)))))) (fun x y => by rw [Bool.eq_iff_iff]; cases x; cases y; simp only [Bool.and_eq_true, decide_eq_true_eq, and_true, DOp.mk.injEq]) rfl
theorem eqa34 : DB.EqAt Tryz.prog 34 DOp := eqAt_in eqi34 (by kernel_rfl) (by kernel_rfl) rfl
theorem fnok12 : FnOK Tryz.prog 12 := ⟨_, Tryz.func12, by kernel_rfl, by kernel_rfl⟩
theorem fnok35 : FnOK Tryz.prog 35 := ⟨_, Tryz.func35, by kernel_rfl, by kernel_rfl⟩
theorem fnok36 : FnOK Tryz.prog 36 := ⟨_, Tryz.func36, by kernel_rfl, by kernel_rfl⟩
theorem zvc_Thing_o1 : ∀ (M : MSet) (w : World), Rep.cells M (⟨Str.nil, ⟨.slice none 0 0⟩⟩ : Thing_o1) [.string ByteArray.empty, .slice none 0 0] w := fun _ _ => ⟨[_], _, rfl, str_zero, ⟨rfl, rfl, rfl⟩⟩
theorem sv_Thing_o1_0 : SetField Thing_o1 Str 0 (fun x z => { x with Id := z }) := ⟨by decide, fun M x z cs zs w h hz => (SetField.fst SetField.self).2 M _ z cs zs w h hz⟩
theorem bu45 : BuildAt Tryz.prog 45 [.string ByteArray.empty, .slice none 0 0] [(0, 1), (1, 1)] := ⟨by kernel_rfl, _, Tryz.underlying45, by kernel_rfl⟩
theorem tyv_Thing_o1 : Ty Tryz.prog 45 Thing_o1 := ⟨⟨_, Tryz.underlying45, rfl⟩, by kernel_rfl⟩
theorem tr43 : Ty Tryz.prog 43 Raw := ⟨⟨_, Tryz.underlying43, rfl⟩, by kernel_rfl⟩
theorem hv_Thing_o1_1 : HasField Thing_o1 Raw 1 Thing_o1.Attrs := ⟨by decide, fun M x cs w h => (HasField.snd HasField.self).2 M _ cs w h⟩
theorem sv_Thing_o1_1 : SetField Thing_o1 Raw 1 (fun x z => { x with Attrs := z }) := ⟨by decide, fun M x z cs zs w h hz => (SetField.snd SetField.self).2 M _ z cs zs w h hz⟩
theorem sf49_1 : SetField Attr Str 1 (fun x z => { x with Value := z }) := ⟨by decide, fun M x z cs zs w h hz => (SetField.snd SetField.self).2 M _ z cs zs w h hz⟩
theorem sf49_0 : SetField Attr Str 0 (fun x z => { x with Field := z }) := ⟨by decide, fun M x z cs zs w h hz => (SetField.fst SetField.self).2 M _ z cs zs w h hz⟩
theorem bu49 : BuildAt Tryz.prog 49 [.string ByteArray.empty, .string ByteArray.empty] [(0, 1), (1, 1)] := ⟨by kernel_rfl, _, Tryz.underlying49, by kernel_rfl⟩
theorem zc49 : ∀ (M : MSet) (w : World), Rep.cells M (⟨Str.nil, Str.nil⟩ : Attr) [.string ByteArray.empty, .string ByteArray.empty] w := fun _ _ => ⟨[_], _, rfl, str_zero, str_zero⟩
theorem hz49 : HasZero Tryz.prog 49 := by unfold HasZero; kernel_rfl
theorem rk43 : RowOK Tryz.prog 43 49 Attr := ⟨sl43, ty49, by kernel_rfl⟩
theorem rkw43 : RowOKW Tryz.prog 43 49 Attr := ⟨rk43, by kernel_rfl⟩
theorem fnok52 : FnOK Tryz.prog 52 := ⟨_, Tryz.func52, by kernel_rfl, by kernel_rfl⟩
theorem fnok53 : FnOK Tryz.prog 53 := ⟨_, Tryz.func53, by kernel_rfl, by kernel_rfl⟩
theorem hz45 : HasZero Tryz.prog 45 := by unfold HasZero; kernel_rfl
theorem rkw22 : RowOKW Tryz.prog 22 45 Thing := ⟨rk22, by kernel_rfl⟩
theorem tyU45 : Ty Tryz.prog 45 (Str × SlV) := ⟨⟨_, Tryz.underlying45, rfl⟩, by kernel_rfl⟩
theorem fnok54 : FnOK Tryz.prog 54 := ⟨_, Tryz.func54, by kernel_rfl, by kernel_rfl⟩
theorem fnok55 : FnOK Tryz.prog 55 := ⟨_, Tryz.func55, by kernel_rfl, by kernel_rfl⟩
theorem fnok13 : FnOK Tryz.prog 13 := ⟨_, Tryz.func13, by kernel_rfl, by kernel_rfl⟩
theorem fnok37 : FnOK Tryz.prog 37 := ⟨_, Tryz.func37, by kernel_rfl, by kernel_rfl⟩
theorem fnok38 : FnOK Tryz.prog 38 := ⟨_, Tryz.func38, by kernel_rfl, by kernel_rfl⟩
theorem fnok39 : FnOK Tryz.prog 39 := ⟨_, Tryz.func39, by kernel_rfl, by kernel_rfl⟩
theorem eqi49 : EqIn Tryz.prog 49 Attr 2 := eqIn_struct Tryz.underlying49 (by kernel_rfl) (.cons (proj := Attr.Field) rfl hfd49_0 ty9 (eqIn_str Tryz.underlying9) (.cons (proj := Attr.Value) rfl hfd49_1 ty9 (eqIn_str Tryz.underlying9) .nil)) (fun x y => by rw [Bool.eq_iff_iff]; cases x; cases y; simp only [Bool.and_eq_true, decide_eq_true_eq, and_true, Attr.mk.injEq]) rfl
theorem eqa49 : DB.EqAt Tryz.prog 49 Attr := eqAt_in eqi49 (by kernel_rfl) (by kernel_rfl) rfl
theorem zo22 : ZeroOf Tryz.prog 22 ([] : (List Thing)) := ⟨[.slice none 0 0], by kernel_rfl, fun _ _ => ⟨none, 0, rfl, Nat.le_refl _, by decide, rfl⟩⟩
theorem fnok14 : FnOK Tryz.prog 14 := ⟨_, Tryz.func14, by kernel_rfl, by kernel_rfl⟩
theorem fnok40 : FnOK Tryz.prog 40 := ⟨_, Tryz.func40, by kernel_rfl, by kernel_rfl⟩
theorem fnok56 : FnOK Tryz.prog 56 := ⟨_, Tryz.func56, by kernel_rfl, by kernel_rfl⟩
theorem fnok82 : FnOK Tryz.prog 82 := ⟨_, Tryz.func82, by kernel_rfl, by kernel_rfl⟩
theorem fnok16 : FnOK Tryz.prog 16 := ⟨_, Tryz.func16, by kernel_rfl, by kernel_rfl⟩
theorem fnok15 : FnOK Tryz.prog 15 := ⟨_, Tryz.func15, by kernel_rfl, by kernel_rfl⟩

end Go.Proofs.YtchnjieebkkhnaaGreatDoor
