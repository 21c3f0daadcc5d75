/-
  Closed facts on the program.
-/
import Derived.Test.YthopjimlhjgoiaaDoorRows
import Derived.Test.YthopjimlhjgoiaaDoorWkwLi1
set_option maxRecDepth 100000
set_option linter.unusedSimpArgs false
set_option linter.unusedVariables false
namespace Go.Proofs.YthopjimlhjgoiaaDoor
open Go Go.DB Go.RowKit

theorem mixed : Tryd.prog.follows .mixedOrders = true := by kernel_rfl
theorem mx : Tryd.prog.follows .mixedOrders = true := mixed
def replStr_ren : Shelf.Ren where
  f := fun x => match x with | 155 => 40 | 154 => 69 | 138 => 54 | 165 => 64 | 143 => 46 | 166 => 65 | 197 => 50 | 169 => 66 | 195 => 80 | 218 => 81 | 240 => 84 | 241 => 85 | 219 => 74 | 260 => 77 | 276 => 97 | 277 => 98 | 217 => 89 | 225 => 90 | 224 => 91 | 267 => 92 | 266 => 101 | 314 => 102 | n => n
  t := fun x => match x with | 9 => 9 | 3 => 3 | 4 => 4 | 72 => 96 | 0 => 0 | 76 => 100 | 105 => 83 | 21 => 21 | 5 => 5 | 70 => 93 | 20 => 20 | 37 => 94 | 75 => 99 | 127 => 122 | 164 => 135 | 46 => 112 | 119 => 103 | 139 => 111 | 138 => 110 | 146 => 149 | 51 => 126 | 80 => 102 | n => n
  g := fun x => match x with | 1 => 4 | 3 => 1 | 4 => 2 | n => n
theorem replStr_lay : Lays.n155 Tryd.prog replStr_ren where
  mixed := by kernel_rfl
  f138 := Tryd.func54.trans (by kernel_rfl)
  f143 := Tryd.func46.trans (by kernel_rfl)
  f154 := Tryd.func69.trans (by kernel_rfl)
  f155 := Tryd.func40.trans (by kernel_rfl)
  f165 := Tryd.func64.trans (by kernel_rfl)
  f166 := Tryd.func65.trans (by kernel_rfl)
  f169 := Tryd.func66.trans (by kernel_rfl)
  f195 := Tryd.func80.trans (by kernel_rfl)
  f197 := Tryd.func50.trans (by kernel_rfl)
  f217 := Tryd.func89.trans (by kernel_rfl)
  f218 := Tryd.func81.trans (by kernel_rfl)
  f219 := Tryd.func74.trans (by kernel_rfl)
  f224 := Tryd.func91.trans (by kernel_rfl)
  f225 := Tryd.func90.trans (by kernel_rfl)
  f240 := Tryd.func84.trans (by kernel_rfl)
  f241 := Tryd.func85.trans (by kernel_rfl)
  f260 := Tryd.func77.trans (by kernel_rfl)
  f266 := Tryd.func101.trans (by kernel_rfl)
  f267 := Tryd.func92.trans (by kernel_rfl)
  f276 := Tryd.func97.trans (by kernel_rfl)
  f277 := Tryd.func98.trans (by kernel_rfl)
  f314 := Tryd.func102.trans (by kernel_rfl)
  t0 := Tryd.underlying0
  a0 := Tryd.isAgg0
  z0 := Tryd.sizeOf0
  v0 := Tryd.zeroValue0
  t3 := Tryd.underlying3
  a3 := Tryd.isAgg3
  z3 := Tryd.sizeOf3
  v3 := Tryd.zeroValue3
  t4 := Tryd.underlying4
  a4 := Tryd.isAgg4
  z4 := Tryd.sizeOf4
  v4 := Tryd.zeroValue4
  t5 := Tryd.underlying5
  a5 := Tryd.isAgg5
  z5 := Tryd.sizeOf5
  v5 := Tryd.zeroValue5
  t9 := Tryd.underlying9
  a9 := Tryd.isAgg9
  z9 := Tryd.sizeOf9
  v9 := Tryd.zeroValue9
  t20 := Tryd.underlying20
  a20 := Tryd.isAgg20
  z20 := Tryd.sizeOf20
  v20 := Tryd.zeroValue20
  t21 := Tryd.underlying21
  a21 := Tryd.isAgg21
  z21 := Tryd.sizeOf21
  v21 := Tryd.zeroValue21
  t37 := Tryd.underlying94
  a37 := Tryd.isAgg94
  z37 := Tryd.sizeOf94
  v37 := Tryd.zeroValue94
  t46 := Tryd.underlying112
  a46 := Tryd.isAgg112
  z46 := Tryd.sizeOf112
  v46 := Tryd.zeroValue112
  t51 := Tryd.underlying126
  a51 := Tryd.isAgg126
  z51 := Tryd.sizeOf126
  v51 := Tryd.zeroValue126
  t70 := Tryd.underlying93
  a70 := Tryd.isAgg93
  z70 := Tryd.sizeOf93
  v70 := Tryd.zeroValue93
  t72 := Tryd.underlying96
  a72 := Tryd.isAgg96
  z72 := Tryd.sizeOf96
  v72 := Tryd.zeroValue96
  t75 := Tryd.underlying99
  a75 := Tryd.isAgg99
  z75 := Tryd.sizeOf99
  v75 := Tryd.zeroValue99
  t76 := Tryd.underlying100
  a76 := Tryd.isAgg100
  z76 := Tryd.sizeOf100
  v76 := Tryd.zeroValue100
  t105 := Tryd.underlying83
  a105 := Tryd.isAgg83
  z105 := Tryd.sizeOf83
  v105 := Tryd.zeroValue83
  t119 := Tryd.underlying103
  a119 := Tryd.isAgg103
  z119 := Tryd.sizeOf103
  t127 := Tryd.underlying122
  a127 := Tryd.isAgg122
  z127 := Tryd.sizeOf122
  v127 := Tryd.zeroValue122
  t138 := Tryd.underlying110
  a138 := Tryd.isAgg110
  z138 := Tryd.sizeOf110
  v138 := Tryd.zeroValue110
  t139 := Tryd.underlying111
  a139 := Tryd.isAgg111
  z139 := Tryd.sizeOf111
  v139 := Tryd.zeroValue111
  t146 := Tryd.underlying149
  a146 := Tryd.isAgg149
  z146 := Tryd.sizeOf149
  v146 := Tryd.zeroValue149
  t164 := Tryd.underlying135
  a164 := Tryd.isAgg135
  z164 := Tryd.sizeOf135
  v164 := Tryd.zeroValue135
  g1 := by kernel_rfl
  g3 := by kernel_rfl
  g4 := by kernel_rfl
theorem replStr_extra : Proofs.Builder.Extra Tryd.prog replStr_ren where
  sizeBuilder := by kernel_rfl
  liesBuilder := by kernel_rfl
  t5 := replStr_lay.t5
  a5 := replStr_lay.a5
  z5 := replStr_lay.z5
  v5 := replStr_lay.v5
  infoByte := by kernel_rfl
  cellsByte := by kernel_rfl
  sizeByte := by kernel_rfl
  neB5 := by decide

def joinStr_ren : Shelf.Ren where
  f := fun x => match x with | 156 => 38 | 165 => 64 | 166 => 65 | 169 => 66 | 240 => 84 | 241 => 85 | 276 => 97 | 277 => 98 | n => n
  t := fun x => match x with | 31 => 30 | 9 => 9 | 3 => 3 | 4 => 4 | 0 => 0 | 20 => 20 | 72 => 96 | 76 => 100 | 70 => 93 | 37 => 94 | 75 => 99 | 127 => 122 | 164 => 135 | 5 => 5 | 80 => 102 | n => n
  g := fun n => n
theorem joinStr_lay : Lays.n156 Tryd.prog joinStr_ren where
  mixed := by kernel_rfl
  f156 := Tryd.func38.trans (by kernel_rfl)
  f165 := Tryd.func64.trans (by kernel_rfl)
  f166 := Tryd.func65.trans (by kernel_rfl)
  f169 := Tryd.func66.trans (by kernel_rfl)
  f240 := Tryd.func84.trans (by kernel_rfl)
  f241 := Tryd.func85.trans (by kernel_rfl)
  f276 := Tryd.func97.trans (by kernel_rfl)
  f277 := Tryd.func98.trans (by kernel_rfl)
  t0 := Tryd.underlying0
  a0 := Tryd.isAgg0
  z0 := Tryd.sizeOf0
  v0 := Tryd.zeroValue0
  t3 := Tryd.underlying3
  a3 := Tryd.isAgg3
  z3 := Tryd.sizeOf3
  v3 := Tryd.zeroValue3
  t4 := Tryd.underlying4
  a4 := Tryd.isAgg4
  z4 := Tryd.sizeOf4
  v4 := Tryd.zeroValue4
  t9 := Tryd.underlying9
  a9 := Tryd.isAgg9
  z9 := Tryd.sizeOf9
  v9 := Tryd.zeroValue9
  t20 := Tryd.underlying20
  a20 := Tryd.isAgg20
  z20 := Tryd.sizeOf20
  v20 := Tryd.zeroValue20
  t31 := Tryd.underlying30
  a31 := Tryd.isAgg30
  z31 := Tryd.sizeOf30
  v31 := Tryd.zeroValue30
  t37 := Tryd.underlying94
  a37 := Tryd.isAgg94
  z37 := Tryd.sizeOf94
  v37 := Tryd.zeroValue94
  t70 := Tryd.underlying93
  a70 := Tryd.isAgg93
  z70 := Tryd.sizeOf93
  v70 := Tryd.zeroValue93
  t72 := Tryd.underlying96
  a72 := Tryd.isAgg96
  z72 := Tryd.sizeOf96
  v72 := Tryd.zeroValue96
  t75 := Tryd.underlying99
  a75 := Tryd.isAgg99
  z75 := Tryd.sizeOf99
  v75 := Tryd.zeroValue99
  t76 := Tryd.underlying100
  a76 := Tryd.isAgg100
  z76 := Tryd.sizeOf100
  v76 := Tryd.zeroValue100
  t127 := Tryd.underlying122
  a127 := Tryd.isAgg122
  z127 := Tryd.sizeOf122
  v127 := Tryd.zeroValue122
  t164 := Tryd.underlying135
  a164 := Tryd.isAgg135
  z164 := Tryd.sizeOf135
  v164 := Tryd.zeroValue135
theorem joinStr_extra : Proofs.Builder.Extra Tryd.prog joinStr_ren where
  sizeBuilder := by kernel_rfl
  liesBuilder := by kernel_rfl
  t5 := replStr_lay.t5
  a5 := replStr_lay.a5
  z5 := replStr_lay.z5
  v5 := replStr_lay.v5
  infoByte := by kernel_rfl
  cellsByte := by kernel_rfl
  sizeByte := by kernel_rfl
  neB5 := by decide

def fieldsStr_ren : Shelf.Ren where
  f := fun x => match x with | 157 => 39 | 229 => 67 | 199 => 68 | 261 => 86 | 311 => 99 | 312 => 100 | n => n
  t := fun x => match x with | 9 => 9 | 31 => 30 | 3 => 3 | 5 => 5 | 4 => 4 | 119 => 103 | 0 => 0 | 40 => 105 | 152 => 123 | 21 => 21 | 154 => 125 | 51 => 126 | 141 => 128 | 196 => 141 | 193 => 138 | 198 => 144 | 49 => 142 | 194 => 139 | 201 => 147 | 226 => 151 | 46 => 112 | 227 => 152 | n => n
  g := fun x => match x with | 0 => 0 | 6 => 3 | n => n
theorem fieldsStr_lay : Lays.n157 Tryd.prog fieldsStr_ren where
  mixed := by kernel_rfl
  f157 := Tryd.func39.trans (by kernel_rfl)
  f199 := Tryd.func68.trans (by kernel_rfl)
  f229 := Tryd.func67.trans (by kernel_rfl)
  f261 := Tryd.func86.trans (by kernel_rfl)
  f311 := Tryd.func99.trans (by kernel_rfl)
  f312 := Tryd.func100.trans (by kernel_rfl)
  t0 := Tryd.underlying0
  a0 := Tryd.isAgg0
  z0 := Tryd.sizeOf0
  v0 := Tryd.zeroValue0
  t3 := Tryd.underlying3
  a3 := Tryd.isAgg3
  z3 := Tryd.sizeOf3
  v3 := Tryd.zeroValue3
  t4 := Tryd.underlying4
  a4 := Tryd.isAgg4
  z4 := Tryd.sizeOf4
  v4 := Tryd.zeroValue4
  t5 := Tryd.underlying5
  a5 := Tryd.isAgg5
  z5 := Tryd.sizeOf5
  v5 := Tryd.zeroValue5
  t9 := Tryd.underlying9
  a9 := Tryd.isAgg9
  z9 := Tryd.sizeOf9
  v9 := Tryd.zeroValue9
  t21 := Tryd.underlying21
  a21 := Tryd.isAgg21
  z21 := Tryd.sizeOf21
  v21 := Tryd.zeroValue21
  t31 := Tryd.underlying30
  a31 := Tryd.isAgg30
  z31 := Tryd.sizeOf30
  v31 := Tryd.zeroValue30
  t40 := Tryd.underlying105
  a40 := Tryd.isAgg105
  z40 := Tryd.sizeOf105
  v40 := Tryd.zeroValue105
  t46 := Tryd.underlying112
  a46 := Tryd.isAgg112
  z46 := Tryd.sizeOf112
  v46 := Tryd.zeroValue112
  t49 := Tryd.underlying142
  a49 := Tryd.isAgg142
  z49 := Tryd.sizeOf142
  v49 := Tryd.zeroValue142
  t51 := Tryd.underlying126
  a51 := Tryd.isAgg126
  z51 := Tryd.sizeOf126
  v51 := Tryd.zeroValue126
  t119 := Tryd.underlying103
  a119 := Tryd.isAgg103
  z119 := Tryd.sizeOf103
  t141 := Tryd.underlying128
  a141 := Tryd.isAgg128
  z141 := Tryd.sizeOf128
  v141 := Tryd.zeroValue128
  t152 := Tryd.underlying123
  a152 := Tryd.isAgg123
  z152 := Tryd.sizeOf123
  v152 := Tryd.zeroValue123
  t154 := Tryd.underlying125
  a154 := Tryd.isAgg125
  z154 := Tryd.sizeOf125
  v154 := Tryd.zeroValue125
  t193 := Tryd.underlying138
  a193 := Tryd.isAgg138
  z193 := Tryd.sizeOf138
  v193 := Tryd.zeroValue138
  t194 := Tryd.underlying139
  a194 := Tryd.isAgg139
  z194 := Tryd.sizeOf139
  v194 := Tryd.zeroValue139
  t196 := Tryd.underlying141
  a196 := Tryd.isAgg141
  z196 := Tryd.sizeOf141
  v196 := Tryd.zeroValue141
  t198 := Tryd.underlying144
  a198 := Tryd.isAgg144
  z198 := Tryd.sizeOf144
  v198 := Tryd.zeroValue144
  t201 := Tryd.underlying147
  a201 := Tryd.isAgg147
  z201 := Tryd.sizeOf147
  v201 := Tryd.zeroValue147
  t226 := Tryd.underlying151
  a226 := Tryd.isAgg151
  z226 := Tryd.sizeOf151
  v226 := Tryd.zeroValue151
  t227 := Tryd.underlying152
  a227 := Tryd.isAgg152
  z227 := Tryd.sizeOf152
  v227 := Tryd.zeroValue152
  g0 := by kernel_rfl
  g6 := by kernel_rfl

def indexByteStr_ren : Shelf.Ren where
  f := fun x => match x with | 137 => 93 | 217 => 89 | 266 => 101 | n => n
  t := fun x => match x with | 9 => 9 | 5 => 5 | 3 => 3 | n => n
  g := fun n => n
theorem indexByteStr_lay : Lays.n137 Tryd.prog indexByteStr_ren where
  mixed := by kernel_rfl
  f137 := Tryd.func93.trans (by kernel_rfl)
  f217 := Tryd.func89.trans (by kernel_rfl)
  f266 := Tryd.func101.trans (by kernel_rfl)
  t3 := Tryd.underlying3
  a3 := Tryd.isAgg3
  z3 := Tryd.sizeOf3
  v3 := Tryd.zeroValue3
  t5 := Tryd.underlying5
  a5 := Tryd.isAgg5
  z5 := Tryd.sizeOf5
  v5 := Tryd.zeroValue5
  t9 := Tryd.underlying9
  a9 := Tryd.isAgg9
  z9 := Tryd.sizeOf9
  v9 := Tryd.zeroValue9

def containsStr_ren : Shelf.Ren where
  f := fun x => match x with | 144 => 18 | 143 => 46 | 219 => 74 | 217 => 89 | 225 => 90 | 224 => 91 | 267 => 92 | 266 => 101 | 314 => 102 | n => n
  t := fun x => match x with | 9 => 9 | 4 => 4 | 3 => 3 | 5 => 5 | 46 => 112 | 146 => 149 | 51 => 126 | n => n
  g := fun x => match x with | 1 => 4 | n => n
theorem containsStr_lay : Lays.n144 Tryd.prog containsStr_ren where
  mixed := by kernel_rfl
  f143 := Tryd.func46.trans (by kernel_rfl)
  f144 := Tryd.func18.trans (by kernel_rfl)
  f217 := Tryd.func89.trans (by kernel_rfl)
  f219 := Tryd.func74.trans (by kernel_rfl)
  f224 := Tryd.func91.trans (by kernel_rfl)
  f225 := Tryd.func90.trans (by kernel_rfl)
  f266 := Tryd.func101.trans (by kernel_rfl)
  f267 := Tryd.func92.trans (by kernel_rfl)
  f314 := Tryd.func102.trans (by kernel_rfl)
  t3 := Tryd.underlying3
  a3 := Tryd.isAgg3
  z3 := Tryd.sizeOf3
  v3 := Tryd.zeroValue3
  t4 := Tryd.underlying4
  a4 := Tryd.isAgg4
  z4 := Tryd.sizeOf4
  v4 := Tryd.zeroValue4
  t5 := Tryd.underlying5
  a5 := Tryd.isAgg5
  z5 := Tryd.sizeOf5
  v5 := Tryd.zeroValue5
  t9 := Tryd.underlying9
  a9 := Tryd.isAgg9
  z9 := Tryd.sizeOf9
  v9 := Tryd.zeroValue9
  t46 := Tryd.underlying112
  a46 := Tryd.isAgg112
  z46 := Tryd.sizeOf112
  v46 := Tryd.zeroValue112
  t51 := Tryd.underlying126
  a51 := Tryd.isAgg126
  z51 := Tryd.sizeOf126
  v51 := Tryd.zeroValue126
  t146 := Tryd.underlying149
  a146 := Tryd.isAgg149
  z146 := Tryd.sizeOf149
  v146 := Tryd.zeroValue149
  g1 := by kernel_rfl

def validStr_ren : Shelf.Ren where
  f := fun x => match x with | 196 => 42 | 259 => 71 | n => n
  t := fun x => match x with | 9 => 9 | 4 => 4 | 3 => 3 | 5 => 5 | 12 => 12 | 119 => 103 | 0 => 0 | 46 => 112 | 139 => 111 | 138 => 110 | 53 => 129 | n => n
  g := fun x => match x with | 3 => 1 | 4 => 2 | n => n
theorem validStr_lay : Lays.n196 Tryd.prog validStr_ren where
  mixed := by kernel_rfl
  f196 := Tryd.func42.trans (by kernel_rfl)
  f259 := Tryd.func71.trans (by kernel_rfl)
  t0 := Tryd.underlying0
  a0 := Tryd.isAgg0
  z0 := Tryd.sizeOf0
  v0 := Tryd.zeroValue0
  t3 := Tryd.underlying3
  a3 := Tryd.isAgg3
  z3 := Tryd.sizeOf3
  v3 := Tryd.zeroValue3
  t4 := Tryd.underlying4
  a4 := Tryd.isAgg4
  z4 := Tryd.sizeOf4
  v4 := Tryd.zeroValue4
  t5 := Tryd.underlying5
  a5 := Tryd.isAgg5
  z5 := Tryd.sizeOf5
  v5 := Tryd.zeroValue5
  t9 := Tryd.underlying9
  a9 := Tryd.isAgg9
  z9 := Tryd.sizeOf9
  v9 := Tryd.zeroValue9
  t12 := Tryd.underlying12
  a12 := Tryd.isAgg12
  z12 := Tryd.sizeOf12
  v12 := Tryd.zeroValue12
  t46 := Tryd.underlying112
  a46 := Tryd.isAgg112
  z46 := Tryd.sizeOf112
  v46 := Tryd.zeroValue112
  t53 := Tryd.underlying129
  a53 := Tryd.isAgg129
  z53 := Tryd.sizeOf129
  v53 := Tryd.zeroValue129
  t119 := Tryd.underlying103
  a119 := Tryd.isAgg103
  z119 := Tryd.sizeOf103
  t138 := Tryd.underlying110
  a138 := Tryd.isAgg110
  z138 := Tryd.sizeOf110
  v138 := Tryd.zeroValue110
  t139 := Tryd.underlying111
  a139 := Tryd.isAgg111
  z139 := Tryd.sizeOf111
  v139 := Tryd.zeroValue111
  g3 := by kernel_rfl
  g4 := by kernel_rfl

def runesStr_ren : Shelf.Ren where
  f := fun x => match x with | 195 => 80 | n => n
  t := fun x => match x with | 9 => 9 | 3 => 3 | 0 => 0 | 4 => 4 | n => n
  g := fun n => n
theorem runesStr_lay : Lays.n195 Tryd.prog runesStr_ren where
  mixed := by kernel_rfl
  f195 := Tryd.func80.trans (by kernel_rfl)
  t0 := Tryd.underlying0
  a0 := Tryd.isAgg0
  z0 := Tryd.sizeOf0
  v0 := Tryd.zeroValue0
  t3 := Tryd.underlying3
  a3 := Tryd.isAgg3
  z3 := Tryd.sizeOf3
  v3 := Tryd.zeroValue3
  t4 := Tryd.underlying4
  a4 := Tryd.isAgg4
  z4 := Tryd.sizeOf4
  v4 := Tryd.zeroValue4
  t9 := Tryd.underlying9
  a9 := Tryd.isAgg9
  z9 := Tryd.sizeOf9
  v9 := Tryd.zeroValue9

def splitStr_ren : Shelf.Ren where
  f := fun x => match x with | 146 => 49 | 221 => 76 | 268 => 95 | 138 => 54 | 143 => 46 | 195 => 80 | 197 => 50 | 218 => 81 | 219 => 74 | 260 => 77 | 217 => 89 | 225 => 90 | 224 => 91 | 267 => 92 | 266 => 101 | 314 => 102 | n => n
  t := fun x => match x with | 9 => 9 | 31 => 30 | 3 => 3 | 4 => 4 | 0 => 0 | 105 => 83 | 21 => 21 | 5 => 5 | 46 => 112 | 119 => 103 | 139 => 111 | 138 => 110 | 146 => 149 | 51 => 126 | n => n
  g := fun x => match x with | 1 => 4 | 3 => 1 | 4 => 2 | n => n
theorem splitStr_lay : Lays.n146 Tryd.prog splitStr_ren where
  mixed := by kernel_rfl
  f138 := Tryd.func54.trans (by kernel_rfl)
  f143 := Tryd.func46.trans (by kernel_rfl)
  f146 := Tryd.func49.trans (by kernel_rfl)
  f195 := Tryd.func80.trans (by kernel_rfl)
  f197 := Tryd.func50.trans (by kernel_rfl)
  f217 := Tryd.func89.trans (by kernel_rfl)
  f218 := Tryd.func81.trans (by kernel_rfl)
  f219 := Tryd.func74.trans (by kernel_rfl)
  f221 := Tryd.func76.trans (by kernel_rfl)
  f224 := Tryd.func91.trans (by kernel_rfl)
  f225 := Tryd.func90.trans (by kernel_rfl)
  f260 := Tryd.func77.trans (by kernel_rfl)
  f266 := Tryd.func101.trans (by kernel_rfl)
  f267 := Tryd.func92.trans (by kernel_rfl)
  f268 := Tryd.func95.trans (by kernel_rfl)
  f314 := Tryd.func102.trans (by kernel_rfl)
  t0 := Tryd.underlying0
  a0 := Tryd.isAgg0
  z0 := Tryd.sizeOf0
  v0 := Tryd.zeroValue0
  t3 := Tryd.underlying3
  a3 := Tryd.isAgg3
  z3 := Tryd.sizeOf3
  v3 := Tryd.zeroValue3
  t4 := Tryd.underlying4
  a4 := Tryd.isAgg4
  z4 := Tryd.sizeOf4
  v4 := Tryd.zeroValue4
  t5 := Tryd.underlying5
  a5 := Tryd.isAgg5
  z5 := Tryd.sizeOf5
  v5 := Tryd.zeroValue5
  t9 := Tryd.underlying9
  a9 := Tryd.isAgg9
  z9 := Tryd.sizeOf9
  v9 := Tryd.zeroValue9
  t21 := Tryd.underlying21
  a21 := Tryd.isAgg21
  z21 := Tryd.sizeOf21
  v21 := Tryd.zeroValue21
  t31 := Tryd.underlying30
  a31 := Tryd.isAgg30
  z31 := Tryd.sizeOf30
  v31 := Tryd.zeroValue30
  t46 := Tryd.underlying112
  a46 := Tryd.isAgg112
  z46 := Tryd.sizeOf112
  v46 := Tryd.zeroValue112
  t51 := Tryd.underlying126
  a51 := Tryd.isAgg126
  z51 := Tryd.sizeOf126
  v51 := Tryd.zeroValue126
  t105 := Tryd.underlying83
  a105 := Tryd.isAgg83
  z105 := Tryd.sizeOf83
  v105 := Tryd.zeroValue83
  t119 := Tryd.underlying103
  a119 := Tryd.isAgg103
  z119 := Tryd.sizeOf103
  t138 := Tryd.underlying110
  a138 := Tryd.isAgg110
  z138 := Tryd.sizeOf110
  v138 := Tryd.zeroValue110
  t139 := Tryd.underlying111
  a139 := Tryd.isAgg111
  z139 := Tryd.sizeOf111
  v139 := Tryd.zeroValue111
  t146 := Tryd.underlying149
  a146 := Tryd.isAgg149
  z146 := Tryd.sizeOf149
  v146 := Tryd.zeroValue149
  g1 := by kernel_rfl
  g3 := by kernel_rfl
  g4 := by kernel_rfl

theorem fnok40 : FnOK Tryd.prog 40 := ⟨_, Tryd.func40, by kernel_rfl, by kernel_rfl⟩
theorem fnok38 : FnOK Tryd.prog 38 := ⟨_, Tryd.func38, by kernel_rfl, by kernel_rfl⟩
theorem fnok39 : FnOK Tryd.prog 39 := ⟨_, Tryd.func39, by kernel_rfl, by kernel_rfl⟩
theorem fnok93 : FnOK Tryd.prog 93 := ⟨_, Tryd.func93, by kernel_rfl, by kernel_rfl⟩
theorem fnok18 : FnOK Tryd.prog 18 := ⟨_, Tryd.func18, by kernel_rfl, by kernel_rfl⟩
theorem fnok42 : FnOK Tryd.prog 42 := ⟨_, Tryd.func42, by kernel_rfl, by kernel_rfl⟩
theorem fnok80 : FnOK Tryd.prog 80 := ⟨_, Tryd.func80, by kernel_rfl, by kernel_rfl⟩
theorem fnok49 : FnOK Tryd.prog 49 := ⟨_, Tryd.func49, by kernel_rfl, by kernel_rfl⟩
theorem fnok7 : FnOK Tryd.prog 7 := ⟨_, Tryd.func7, by kernel_rfl, by kernel_rfl⟩
theorem ty23 : Ty Tryd.prog 23 Font := ⟨⟨_, Tryd.underlying23, rfl⟩, by kernel_rfl⟩
theorem fnok12 : FnOK Tryd.prog 12 := ⟨_, Tryd.func12, by kernel_rfl, by kernel_rfl⟩
theorem fnok43 : FnOK Tryd.prog 43 := ⟨_, Tryd.func43, by kernel_rfl, by kernel_rfl⟩
theorem fnok14 : FnOK Tryd.prog 14 := ⟨_, Tryd.func14, by kernel_rfl, by kernel_rfl⟩
theorem fd23_0 : FieldAt Tryd.prog 23 0 0 := ⟨_, _, Tryd.underlying23, rfl, rfl, by kernel_rfl⟩
theorem hfd23_0 : HasField Font Int 0 Font.Line := ⟨by decide, fun M x cs w h => (HasField.fst HasField.self).2 M _ cs w h⟩
theorem ty3 : Ty Tryd.prog 3 Int := ⟨⟨_, Tryd.underlying3, rfl⟩, by kernel_rfl⟩
theorem fd23_1 : FieldAt Tryd.prog 23 1 1 := ⟨_, _, Tryd.underlying23, rfl, rfl, by kernel_rfl⟩
theorem hfd23_1 : HasField Font Int 1 Font.Narrow := ⟨by decide, fun M x cs w h => (HasField.snd (HasField.fst HasField.self)).2 M _ cs w h⟩
theorem fd23_2 : FieldAt Tryd.prog 23 2 2 := ⟨_, _, Tryd.underlying23, rfl, rfl, by kernel_rfl⟩
theorem hfd23_2 : HasField Font Int 2 Font.Normal := ⟨by decide, fun M x cs w h => (HasField.snd (HasField.snd (HasField.fst HasField.self))).2 M _ cs w h⟩
theorem fd23_3 : FieldAt Tryd.prog 23 3 3 := ⟨_, _, Tryd.underlying23, rfl, rfl, by kernel_rfl⟩
theorem hfd23_3 : HasField Font Int 3 Font.Wide := ⟨by decide, fun M x cs w h => (HasField.snd (HasField.snd (HasField.snd HasField.self))).2 M _ cs w h⟩
theorem sl75 : SliceOf Tryd.prog 75 3 := Tryd.underlying75
theorem hz3 : HasZero Tryd.prog 3 := by unfold HasZero; kernel_rfl
theorem fnok15 : FnOK Tryd.prog 15 := ⟨_, Tryd.func15, by kernel_rfl, by kernel_rfl⟩
theorem fnok45 : FnOK Tryd.prog 45 := ⟨_, Tryd.func45, by kernel_rfl, by kernel_rfl⟩
theorem sl30 : SliceOf Tryd.prog 30 9 := Tryd.underlying30
theorem ty9 : Ty Tryd.prog 9 Str := ⟨⟨_, Tryd.underlying9, rfl⟩, by kernel_rfl⟩
theorem fnok73 : FnOK Tryd.prog 73 := ⟨_, Tryd.func73, by kernel_rfl, by kernel_rfl⟩
theorem zr30 : ZeroOf Tryd.prog 30 (⟨.slice none 0 0⟩ : Raw) := ⟨[.slice none 0 0], by kernel_rfl, fun _ _ => ⟨rfl, rfl, rfl⟩⟩
theorem zo9 : ZeroOf Tryd.prog 9 Str.nil := ⟨[.string ByteArray.empty], by kernel_rfl, fun _ _ => str_zero⟩
theorem zo3 : ZeroOf Tryd.prog 3 (0 : Int) := ⟨[.int .i64 0], by kernel_rfl, fun _ _ => ⟨rfl, by decide⟩⟩
theorem fnok53 : FnOK Tryd.prog 53 := ⟨_, Tryd.func53, by kernel_rfl, by kernel_rfl⟩
theorem fnok78 : FnOK Tryd.prog 78 := ⟨_, Tryd.func78, by kernel_rfl, by kernel_rfl⟩
theorem fnok96 : FnOK Tryd.prog 96 := ⟨_, Tryd.func96, by kernel_rfl, by kernel_rfl⟩
theorem fnok79 : FnOK Tryd.prog 79 := ⟨_, Tryd.func79, by kernel_rfl, by kernel_rfl⟩
theorem fnok44 : FnOK Tryd.prog 44 := ⟨_, Tryd.func44, by kernel_rfl, by kernel_rfl⟩
theorem fnok72 : FnOK Tryd.prog 72 := ⟨_, Tryd.func72, by kernel_rfl, by kernel_rfl⟩
theorem fnok47 : FnOK Tryd.prog 47 := ⟨_, Tryd.func47, by kernel_rfl, by kernel_rfl⟩
theorem fnok75 : FnOK Tryd.prog 75 := ⟨_, Tryd.func75, by kernel_rfl, by kernel_rfl⟩
theorem fnok94 : FnOK Tryd.prog 94 := ⟨_, Tryd.func94, by kernel_rfl, by kernel_rfl⟩
theorem fnok87 : FnOK Tryd.prog 87 := ⟨_, Tryd.func87, by kernel_rfl, by kernel_rfl⟩
theorem tr30 : Ty Tryd.prog 30 Raw := ⟨⟨_, Tryd.underlying30, rfl⟩, by kernel_rfl⟩
theorem hz9 : HasZero Tryd.prog 9 := by unfold HasZero; kernel_rfl
theorem rk30 : RowOK Tryd.prog 30 9 Str := ⟨sl30, ty9, by kernel_rfl⟩
theorem ty30 : Ty Tryd.prog 30 (List Str) := ⟨⟨_, Tryd.underlying30, rfl⟩, by kernel_rfl⟩
theorem fnok88 : FnOK Tryd.prog 88 := ⟨_, Tryd.func88, by kernel_rfl, by kernel_rfl⟩
theorem fnok13 : FnOK Tryd.prog 13 := ⟨_, Tryd.func13, by kernel_rfl, by kernel_rfl⟩
theorem sf23_3 : SetField Font Int 3 (fun x z => { x with Wide := z }) := ⟨by decide, fun M x z cs zs w h hz => (SetField.snd (SetField.snd (SetField.snd SetField.self))).2 M _ z cs zs w h hz⟩
theorem sf23_2 : SetField Font Int 2 (fun x z => { x with Normal := z }) := ⟨by decide, fun M x z cs zs w h hz => (SetField.snd (SetField.snd (SetField.fst SetField.self))).2 M _ z cs zs w h hz⟩
theorem sf23_1 : SetField Font Int 1 (fun x z => { x with Narrow := z }) := ⟨by decide, fun M x z cs zs w h hz => (SetField.snd (SetField.fst SetField.self)).2 M _ z cs zs w h hz⟩
theorem sf23_0 : SetField Font Int 0 (fun x z => { x with Line := z }) := ⟨by decide, fun M x z cs zs w h hz => (SetField.fst SetField.self).2 M _ z cs zs w h hz⟩
theorem bu23 : BuildAt Tryd.prog 23 [.int .i64 0, .int .i64 0, .int .i64 0, .int .i64 0] [(0, 1), (1, 1), (2, 1), (3, 1)] := ⟨by kernel_rfl, _, Tryd.underlying23, by kernel_rfl⟩
theorem zc23 : ∀ (M : MSet) (w : World), Rep.cells M (⟨(0 : Int), (0 : Int), (0 : Int), (0 : Int)⟩ : Font) [.int .i64 0, .int .i64 0, .int .i64 0, .int .i64 0] w := fun _ _ => ⟨[_], _, rfl, ⟨rfl, by decide⟩, ⟨[_], _, rfl, ⟨rfl, by decide⟩, ⟨[_], _, rfl, ⟨rfl, by decide⟩, ⟨rfl, by decide⟩⟩⟩⟩
theorem fnok11 : FnOK Tryd.prog 11 := ⟨_, Tryd.func11, by kernel_rfl, by kernel_rfl⟩
theorem sl68 : SliceOf Tryd.prog 68 21 := Tryd.underlying68
theorem fnok37 : FnOK Tryd.prog 37 := ⟨_, Tryd.func37, by kernel_rfl, by kernel_rfl⟩
theorem fnok41 : FnOK Tryd.prog 41 := ⟨_, Tryd.func41, by kernel_rfl, by kernel_rfl⟩
theorem fnok70 : FnOK Tryd.prog 70 := ⟨_, Tryd.func70, by kernel_rfl, by kernel_rfl⟩

end Go.Proofs.YthopjimlhjgoiaaDoor
