/- A part of the proof. -/
import Derived.Test.YtenpeohfmbilaaaGreatDoorRows
import Derived.Test.YtenpeohfmbilaaaGreatDoorDatLi1
set_option maxRecDepth 100000
set_option linter.unusedSimpArgs false
set_option linter.unusedVariables false
namespace Go.Proofs.YtenpeohfmbilaaaGreatDoor
open Go Go.DB Go.RowKit
theorem mixed:Tryz.prog.follows .mixedOrders=true:=by kernel_rfl
theorem mx:Tryz.prog.follows .mixedOrders=true:=mixed
def zuI:Shelf.Ren where
 f:=fun x=>match x with | 196=>98 | 259=>141 | n=>n
 t:=fun x=>match x with | 9=>9 | 4=>4 | 3=>3 | 5=>5 | 12=>12 | 119=>196 | 0=>0 | 46=>194 | 139=>210 | 138=>209 | 53=>219 | n=>n
 g:=fun x=>match x with | 3=>1 | 4=>2 | n=>n
theorem znl:Lays.n196 Tryz.prog zuI where
 mixed:=by kernel_rfl
 f196:=Tryz.func98.trans (by kernel_rfl)
 f259:=Tryz.func141.trans (by kernel_rfl)
 t0:=Tryz.underlying0
 a0:=Tryz.isAgg0
 z0:=Tryz.sizeOf0
 v0:=Tryz.zeroValue0
 t3:=Tryz.underlying3
 a3:=Tryz.isAgg3
 z3:=Tryz.sizeOf3
 v3:=Tryz.zeroValue3
 t4:=Tryz.underlying4
 a4:=Tryz.isAgg4
 z4:=Tryz.sizeOf4
 v4:=Tryz.zeroValue4
 t5:=Tryz.underlying5
 a5:=Tryz.isAgg5
 z5:=Tryz.sizeOf5
 v5:=Tryz.zeroValue5
 t9:=Tryz.underlying9
 a9:=Tryz.isAgg9
 z9:=Tryz.sizeOf9
 v9:=Tryz.zeroValue9
 t12:=Tryz.underlying12
 a12:=Tryz.isAgg12
 z12:=Tryz.sizeOf12
 v12:=Tryz.zeroValue12
 t46:=Tryz.underlying194
 a46:=Tryz.isAgg194
 z46:=Tryz.sizeOf194
 v46:=Tryz.zeroValue194
 t53:=Tryz.underlying219
 a53:=Tryz.isAgg219
 z53:=Tryz.sizeOf219
 v53:=Tryz.zeroValue219
 t119:=Tryz.underlying196
 a119:=Tryz.isAgg196
 z119:=Tryz.sizeOf196
 t138:=Tryz.underlying209
 a138:=Tryz.isAgg209
 z138:=Tryz.sizeOf209
 v138:=Tryz.zeroValue209
 t139:=Tryz.underlying210
 a139:=Tryz.isAgg210
 z139:=Tryz.sizeOf210
 v139:=Tryz.zeroValue210
 g3:=by kernel_rfl
 g4:=by kernel_rfl
def zqJ:Shelf.Ren where
 f:=fun x=>match x with | 171=>21 | 243=>72 | 246=>120 | 283=>152 | 284=>153 | 285=>154 | 286=>155 | 129=>167 | 317=>215 | 318=>216 | 319=>217 | 320=>218 | 337=>257 | 338=>258 | n=>n
 t:=fun x=>match x with | 3=>3 | 9=>9 | 2=>2 | 4=>4 | 171=>218 | 0=>0 | 53=>219 | 37=>187 | 5=>5 | 173=>222 | 212=>274 | 51=>233 | 20=>20 | 213=>275 | 46=>194 | 232=>334 | 233=>335 | n=>n
 g:=fun x=>match x with | 17=>5 | 18=>8 | 19=>9 | n=>n
theorem zqI:LaysM.n171 Tryz.prog zqJ where
 mixed:=by kernel_rfl
 f129:=Tryz.func167.trans (by kernel_rfl)
 f171:=Tryz.func21.trans (by kernel_rfl)
 f243:=Tryz.func72.trans (by kernel_rfl)
 f246:=Tryz.func120.trans (by kernel_rfl)
 f283:=Tryz.func152.trans (by kernel_rfl)
 f284:=Tryz.func153.trans (by kernel_rfl)
 f285:=Tryz.func154.trans (by kernel_rfl)
 f286:=Tryz.func155.trans (by kernel_rfl)
 f317:=Tryz.func215.trans (by kernel_rfl)
 f318:=Tryz.func216.trans (by kernel_rfl)
 f319:=Tryz.func217.trans (by kernel_rfl)
 f320:=Tryz.func218.trans (by kernel_rfl)
 f337:=Tryz.func257.trans (by kernel_rfl)
 f338:=Tryz.func258.trans (by kernel_rfl)
 t0:=Tryz.underlying0
 a0:=Tryz.isAgg0
 z0:=Tryz.sizeOf0
 v0:=Tryz.zeroValue0
 t2:=Tryz.underlying2
 a2:=Tryz.isAgg2
 z2:=Tryz.sizeOf2
 v2:=Tryz.zeroValue2
 t3:=Tryz.underlying3
 a3:=Tryz.isAgg3
 z3:=Tryz.sizeOf3
 v3:=Tryz.zeroValue3
 t4:=Tryz.underlying4
 a4:=Tryz.isAgg4
 z4:=Tryz.sizeOf4
 v4:=Tryz.zeroValue4
 t5:=Tryz.underlying5
 a5:=Tryz.isAgg5
 z5:=Tryz.sizeOf5
 v5:=Tryz.zeroValue5
 t9:=Tryz.underlying9
 a9:=Tryz.isAgg9
 z9:=Tryz.sizeOf9
 v9:=Tryz.zeroValue9
 t20:=Tryz.underlying20
 a20:=Tryz.isAgg20
 z20:=Tryz.sizeOf20
 v20:=Tryz.zeroValue20
 t37:=Tryz.underlying187
 a37:=Tryz.isAgg187
 z37:=Tryz.sizeOf187
 v37:=Tryz.zeroValue187
 t46:=Tryz.underlying194
 a46:=Tryz.isAgg194
 z46:=Tryz.sizeOf194
 v46:=Tryz.zeroValue194
 t51:=Tryz.underlying233
 a51:=Tryz.isAgg233
 z51:=Tryz.sizeOf233
 v51:=Tryz.zeroValue233
 t53:=Tryz.underlying219
 a53:=Tryz.isAgg219
 z53:=Tryz.sizeOf219
 v53:=Tryz.zeroValue219
 t171:=Tryz.underlying218
 a171:=Tryz.isAgg218
 z171:=Tryz.sizeOf218
 v171:=Tryz.zeroValue218
 t173:=Tryz.underlying222
 a173:=Tryz.isAgg222
 z173:=Tryz.sizeOf222
 v173:=Tryz.zeroValue222
 t212:=Tryz.underlying274
 a212:=Tryz.isAgg274
 z212:=Tryz.sizeOf274
 v212:=Tryz.zeroValue274
 t213:=Tryz.underlying275
 a213:=Tryz.isAgg275
 z213:=Tryz.sizeOf275
 t232:=Tryz.underlying334
 a232:=Tryz.isAgg334
 z232:=Tryz.sizeOf334
 v232:=Tryz.zeroValue334
 t233:=Tryz.underlying335
 a233:=Tryz.isAgg335
 z233:=Tryz.sizeOf335
 v233:=Tryz.zeroValue335
 g17:=by kernel_rfl
 g18:=by kernel_rfl
 g19:=by kernel_rfl
 i0:=by kernel_rfl
 i2:=by kernel_rfl
 i3:=by kernel_rfl
 i4:=by kernel_rfl
 i5:=by kernel_rfl
 i9:=by kernel_rfl
 i20:=by kernel_rfl
 i37:=by kernel_rfl
 i46:=by kernel_rfl
 i51:=by kernel_rfl
 i53:=by kernel_rfl
 i171:=by kernel_rfl
 i173:=by kernel_rfl
 i212:=by kernel_rfl
 i232:=by kernel_rfl
 i233:=by kernel_rfl
 m17:=by kernel_rfl
 m18:=by kernel_rfl
 m19:=by kernel_rfl
def zom:Shelf.Ren where
 f:=fun x=>match x with | 172=>100 | 244=>143 | 245=>144 | 247=>192 | 279=>193 | 280=>194 | 281=>195 | 282=>196 | 287=>248 | 316=>249 | 171=>21 | 205=>250 | 321=>272 | 322=>273 | 243=>72 | 246=>120 | 283=>152 | 284=>153 | 285=>154 | 286=>155 | 129=>167 | 317=>215 | 318=>216 | 319=>217 | 320=>218 | 337=>257 | 338=>258 | n=>n
 t:=fun x=>match x with | 9=>9 | 3=>3 | 75=>163 | 76=>164 | 4=>4 | 5=>5 | 167=>255 | 37=>187 | 0=>0 | 85=>256 | 2=>2 | 168=>258 | 53=>219 | 175=>309 | 46=>194 | 210=>313 | 127=>224 | 145=>331 | 143=>329 | 21=>21 | 171=>218 | 173=>222 | 212=>274 | 51=>233 | 20=>20 | 213=>275 | 232=>334 | 233=>335 | 80=>191 | n=>n
 g:=fun x=>match x with | 15=>6 | 16=>7 | 17=>5 | 18=>8 | 19=>9 | n=>n
theorem zol:LaysC.n172 Tryz.prog zom where
 mixed:=by kernel_rfl
 f129:=Tryz.func167.trans (by kernel_rfl)
 f171:=Tryz.func21.trans (by kernel_rfl)
 f172:=Tryz.func100.trans (by kernel_rfl)
 f205:=Tryz.func250.trans (by kernel_rfl)
 f243:=Tryz.func72.trans (by kernel_rfl)
 f244:=Tryz.func143.trans (by kernel_rfl)
 f245:=Tryz.func144.trans (by kernel_rfl)
 f246:=Tryz.func120.trans (by kernel_rfl)
 f247:=Tryz.func192.trans (by kernel_rfl)
 f279:=Tryz.func193.trans (by kernel_rfl)
 f280:=Tryz.func194.trans (by kernel_rfl)
 f281:=Tryz.func195.trans (by kernel_rfl)
 f282:=Tryz.func196.trans (by kernel_rfl)
 f283:=Tryz.func152.trans (by kernel_rfl)
 f284:=Tryz.func153.trans (by kernel_rfl)
 f285:=Tryz.func154.trans (by kernel_rfl)
 f286:=Tryz.func155.trans (by kernel_rfl)
 f287:=Tryz.func248.trans (by kernel_rfl)
 f316:=Tryz.func249.trans (by kernel_rfl)
 f317:=Tryz.func215.trans (by kernel_rfl)
 f318:=Tryz.func216.trans (by kernel_rfl)
 f319:=Tryz.func217.trans (by kernel_rfl)
 f320:=Tryz.func218.trans (by kernel_rfl)
 f321:=Tryz.func272.trans (by kernel_rfl)
 f322:=Tryz.func273.trans (by kernel_rfl)
 f337:=Tryz.func257.trans (by kernel_rfl)
 f338:=Tryz.func258.trans (by kernel_rfl)
 t0:=Tryz.underlying0
 a0:=Tryz.isAgg0
 z0:=Tryz.sizeOf0
 v0:=Tryz.zeroValue0
 t2:=Tryz.underlying2
 a2:=Tryz.isAgg2
 z2:=Tryz.sizeOf2
 v2:=Tryz.zeroValue2
 t3:=Tryz.underlying3
 a3:=Tryz.isAgg3
 z3:=Tryz.sizeOf3
 v3:=Tryz.zeroValue3
 t4:=Tryz.underlying4
 a4:=Tryz.isAgg4
 z4:=Tryz.sizeOf4
 v4:=Tryz.zeroValue4
 t5:=Tryz.underlying5
 a5:=Tryz.isAgg5
 z5:=Tryz.sizeOf5
 v5:=Tryz.zeroValue5
 t9:=Tryz.underlying9
 a9:=Tryz.isAgg9
 z9:=Tryz.sizeOf9
 v9:=Tryz.zeroValue9
 t20:=Tryz.underlying20
 a20:=Tryz.isAgg20
 z20:=Tryz.sizeOf20
 v20:=Tryz.zeroValue20
 t21:=Tryz.underlying21
 a21:=Tryz.isAgg21
 z21:=Tryz.sizeOf21
 v21:=Tryz.zeroValue21
 t37:=Tryz.underlying187
 a37:=Tryz.isAgg187
 z37:=Tryz.sizeOf187
 v37:=Tryz.zeroValue187
 t46:=Tryz.underlying194
 a46:=Tryz.isAgg194
 z46:=Tryz.sizeOf194
 v46:=Tryz.zeroValue194
 t51:=Tryz.underlying233
 a51:=Tryz.isAgg233
 z51:=Tryz.sizeOf233
 v51:=Tryz.zeroValue233
 t53:=Tryz.underlying219
 a53:=Tryz.isAgg219
 z53:=Tryz.sizeOf219
 v53:=Tryz.zeroValue219
 t75:=Tryz.underlying163
 a75:=Tryz.isAgg163
 z75:=Tryz.sizeOf163
 v75:=Tryz.zeroValue163
 t76:=Tryz.underlying164
 a76:=Tryz.isAgg164
 z76:=Tryz.sizeOf164
 v76:=Tryz.zeroValue164
 t85:=Tryz.underlying256
 a85:=Tryz.isAgg256
 z85:=Tryz.sizeOf256
 v85:=Tryz.zeroValue256
 t127:=Tryz.underlying224
 a127:=Tryz.isAgg224
 z127:=Tryz.sizeOf224
 v127:=Tryz.zeroValue224
 t143:=Tryz.underlying329
 a143:=Tryz.isAgg329
 z143:=Tryz.sizeOf329
 v143:=Tryz.zeroValue329
 t145:=Tryz.underlying331
 a145:=Tryz.isAgg331
 z145:=Tryz.sizeOf331
 v145:=Tryz.zeroValue331
 t167:=Tryz.underlying255
 a167:=Tryz.isAgg255
 z167:=Tryz.sizeOf255
 v167:=Tryz.zeroValue255
 t168:=Tryz.underlying258
 a168:=Tryz.isAgg258
 z168:=Tryz.sizeOf258
 v168:=Tryz.zeroValue258
 t171:=Tryz.underlying218
 a171:=Tryz.isAgg218
 z171:=Tryz.sizeOf218
 v171:=Tryz.zeroValue218
 t173:=Tryz.underlying222
 a173:=Tryz.isAgg222
 z173:=Tryz.sizeOf222
 v173:=Tryz.zeroValue222
 t175:=Tryz.underlying309
 a175:=Tryz.isAgg309
 z175:=Tryz.sizeOf309
 v175:=Tryz.zeroValue309
 t210:=Tryz.underlying313
 a210:=Tryz.isAgg313
 z210:=Tryz.sizeOf313
 v210:=Tryz.zeroValue313
 t212:=Tryz.underlying274
 a212:=Tryz.isAgg274
 z212:=Tryz.sizeOf274
 v212:=Tryz.zeroValue274
 t213:=Tryz.underlying275
 a213:=Tryz.isAgg275
 z213:=Tryz.sizeOf275
 t232:=Tryz.underlying334
 a232:=Tryz.isAgg334
 z232:=Tryz.sizeOf334
 v232:=Tryz.zeroValue334
 t233:=Tryz.underlying335
 a233:=Tryz.isAgg335
 z233:=Tryz.sizeOf335
 v233:=Tryz.zeroValue335
 g15:=by kernel_rfl
 g16:=by kernel_rfl
 g17:=by kernel_rfl
 g18:=by kernel_rfl
 g19:=by kernel_rfl
 t80:=Tryz.underlying191
 a80:=Tryz.isAgg191
 z80:=Tryz.sizeOf191
 v80:=Tryz.zeroValue191
 i0:=by kernel_rfl
 i2:=by kernel_rfl
 i3:=by kernel_rfl
 i4:=by kernel_rfl
 i5:=by kernel_rfl
 i9:=by kernel_rfl
 i20:=by kernel_rfl
 i21:=by kernel_rfl
 i37:=by kernel_rfl
 i46:=by kernel_rfl
 i51:=by kernel_rfl
 i53:=by kernel_rfl
 i75:=by kernel_rfl
 i76:=by kernel_rfl
 i80:=by kernel_rfl
 i85:=by kernel_rfl
 i127:=by kernel_rfl
 i143:=by kernel_rfl
 i145:=by kernel_rfl
 i167:=by kernel_rfl
 i168:=by kernel_rfl
 i171:=by kernel_rfl
 i173:=by kernel_rfl
 i175:=by kernel_rfl
 i210:=by kernel_rfl
 i212:=by kernel_rfl
 i232:=by kernel_rfl
 i233:=by kernel_rfl
 m15:=by kernel_rfl
 m16:=by kernel_rfl
 m17:=by kernel_rfl
 m18:=by kernel_rfl
 m19:=by kernel_rfl
 c0:=by kernel_rfl
 c2:=by kernel_rfl
 c3:=by kernel_rfl
 c4:=by kernel_rfl
 c5:=by kernel_rfl
 c9:=by kernel_rfl
 c20:=by kernel_rfl
 c21:=by kernel_rfl
 c37:=by kernel_rfl
 c46:=by kernel_rfl
 c51:=by kernel_rfl
 c53:=by kernel_rfl
 c75:=by kernel_rfl
 c76:=by kernel_rfl
 c80:=by kernel_rfl
 c85:=by kernel_rfl
 c127:=by kernel_rfl
 c143:=by kernel_rfl
 c145:=by kernel_rfl
 c167:=by kernel_rfl
 c168:=by kernel_rfl
 c171:=by kernel_rfl
 c173:=by kernel_rfl
 c175:=by kernel_rfl
 c210:=by kernel_rfl
 c212:=by kernel_rfl
 c213:=by kernel_rfl
 c232:=by kernel_rfl
 c233:=by kernel_rfl
def zt5:Shelf.Ren where
 f:=fun x=>match x with | 146=>99 | 221=>142 | 268=>189 | 138=>190 | 143=>191 | 195=>245 | 197=>230 | 218=>246 | 219=>247 | 260=>261 | 217=>268 | 225=>269 | 224=>270 | 267=>271 | 266=>279 | 314=>280 | n=>n
 t:=fun x=>match x with | 9=>9 | 31=>50 | 3=>3 | 4=>4 | 0=>0 | 105=>288 | 21=>21 | 5=>5 | 46=>194 | 119=>196 | 139=>210 | 138=>209 | 146=>337 | 51=>233 | n=>n
 g:=fun x=>match x with | 1=>3 | 3=>1 | 4=>2 | n=>n
theorem zt4:Lays.n146 Tryz.prog zt5 where
 mixed:=by kernel_rfl
 f138:=Tryz.func190.trans (by kernel_rfl)
 f143:=Tryz.func191.trans (by kernel_rfl)
 f146:=Tryz.func99.trans (by kernel_rfl)
 f195:=Tryz.func245.trans (by kernel_rfl)
 f197:=Tryz.func230.trans (by kernel_rfl)
 f217:=Tryz.func268.trans (by kernel_rfl)
 f218:=Tryz.func246.trans (by kernel_rfl)
 f219:=Tryz.func247.trans (by kernel_rfl)
 f221:=Tryz.func142.trans (by kernel_rfl)
 f224:=Tryz.func270.trans (by kernel_rfl)
 f225:=Tryz.func269.trans (by kernel_rfl)
 f260:=Tryz.func261.trans (by kernel_rfl)
 f266:=Tryz.func279.trans (by kernel_rfl)
 f267:=Tryz.func271.trans (by kernel_rfl)
 f268:=Tryz.func189.trans (by kernel_rfl)
 f314:=Tryz.func280.trans (by kernel_rfl)
 t0:=Tryz.underlying0
 a0:=Tryz.isAgg0
 z0:=Tryz.sizeOf0
 v0:=Tryz.zeroValue0
 t3:=Tryz.underlying3
 a3:=Tryz.isAgg3
 z3:=Tryz.sizeOf3
 v3:=Tryz.zeroValue3
 t4:=Tryz.underlying4
 a4:=Tryz.isAgg4
 z4:=Tryz.sizeOf4
 v4:=Tryz.zeroValue4
 t5:=Tryz.underlying5
 a5:=Tryz.isAgg5
 z5:=Tryz.sizeOf5
 v5:=Tryz.zeroValue5
 t9:=Tryz.underlying9
 a9:=Tryz.isAgg9
 z9:=Tryz.sizeOf9
 v9:=Tryz.zeroValue9
 t21:=Tryz.underlying21
 a21:=Tryz.isAgg21
 z21:=Tryz.sizeOf21
 v21:=Tryz.zeroValue21
 t31:=Tryz.underlying50
 a31:=Tryz.isAgg50
 z31:=Tryz.sizeOf50
 v31:=Tryz.zeroValue50
 t46:=Tryz.underlying194
 a46:=Tryz.isAgg194
 z46:=Tryz.sizeOf194
 v46:=Tryz.zeroValue194
 t51:=Tryz.underlying233
 a51:=Tryz.isAgg233
 z51:=Tryz.sizeOf233
 v51:=Tryz.zeroValue233
 t105:=Tryz.underlying288
 a105:=Tryz.isAgg288
 z105:=Tryz.sizeOf288
 v105:=Tryz.zeroValue288
 t119:=Tryz.underlying196
 a119:=Tryz.isAgg196
 z119:=Tryz.sizeOf196
 t138:=Tryz.underlying209
 a138:=Tryz.isAgg209
 z138:=Tryz.sizeOf209
 v138:=Tryz.zeroValue209
 t139:=Tryz.underlying210
 a139:=Tryz.isAgg210
 z139:=Tryz.sizeOf210
 v139:=Tryz.zeroValue210
 t146:=Tryz.underlying337
 a146:=Tryz.isAgg337
 z146:=Tryz.sizeOf337
 v146:=Tryz.zeroValue337
 g1:=by kernel_rfl
 g3:=by kernel_rfl
 g4:=by kernel_rfl
def zjI:Shelf.Ren where
 f:=fun x=>match x with | 157=>86 | 229=>129 | 199=>130 | 261=>184 | 311=>233 | 312=>234 | n=>n
 t:=fun x=>match x with | 9=>9 | 31=>50 | 3=>3 | 5=>5 | 4=>4 | 119=>196 | 0=>0 | 40=>198 | 152=>246 | 21=>21 | 154=>248 | 51=>233 | 141=>250 | 196=>294 | 193=>291 | 198=>297 | 49=>295 | 194=>292 | 201=>300 | 226=>324 | 46=>194 | 227=>325 | n=>n
 g:=fun x=>match x with | 0=>0 | 6=>4 | n=>n
theorem zjH:Lays.n157 Tryz.prog zjI where
 mixed:=by kernel_rfl
 f157:=Tryz.func86.trans (by kernel_rfl)
 f199:=Tryz.func130.trans (by kernel_rfl)
 f229:=Tryz.func129.trans (by kernel_rfl)
 f261:=Tryz.func184.trans (by kernel_rfl)
 f311:=Tryz.func233.trans (by kernel_rfl)
 f312:=Tryz.func234.trans (by kernel_rfl)
 t0:=Tryz.underlying0
 a0:=Tryz.isAgg0
 z0:=Tryz.sizeOf0
 v0:=Tryz.zeroValue0
 t3:=Tryz.underlying3
 a3:=Tryz.isAgg3
 z3:=Tryz.sizeOf3
 v3:=Tryz.zeroValue3
 t4:=Tryz.underlying4
 a4:=Tryz.isAgg4
 z4:=Tryz.sizeOf4
 v4:=Tryz.zeroValue4
 t5:=Tryz.underlying5
 a5:=Tryz.isAgg5
 z5:=Tryz.sizeOf5
 v5:=Tryz.zeroValue5
 t9:=Tryz.underlying9
 a9:=Tryz.isAgg9
 z9:=Tryz.sizeOf9
 v9:=Tryz.zeroValue9
 t21:=Tryz.underlying21
 a21:=Tryz.isAgg21
 z21:=Tryz.sizeOf21
 v21:=Tryz.zeroValue21
 t31:=Tryz.underlying50
 a31:=Tryz.isAgg50
 z31:=Tryz.sizeOf50
 v31:=Tryz.zeroValue50
 t40:=Tryz.underlying198
 a40:=Tryz.isAgg198
 z40:=Tryz.sizeOf198
 v40:=Tryz.zeroValue198
 t46:=Tryz.underlying194
 a46:=Tryz.isAgg194
 z46:=Tryz.sizeOf194
 v46:=Tryz.zeroValue194
 t49:=Tryz.underlying295
 a49:=Tryz.isAgg295
 z49:=Tryz.sizeOf295
 v49:=Tryz.zeroValue295
 t51:=Tryz.underlying233
 a51:=Tryz.isAgg233
 z51:=Tryz.sizeOf233
 v51:=Tryz.zeroValue233
 t119:=Tryz.underlying196
 a119:=Tryz.isAgg196
 z119:=Tryz.sizeOf196
 t141:=Tryz.underlying250
 a141:=Tryz.isAgg250
 z141:=Tryz.sizeOf250
 v141:=Tryz.zeroValue250
 t152:=Tryz.underlying246
 a152:=Tryz.isAgg246
 z152:=Tryz.sizeOf246
 v152:=Tryz.zeroValue246
 t154:=Tryz.underlying248
 a154:=Tryz.isAgg248
 z154:=Tryz.sizeOf248
 v154:=Tryz.zeroValue248
 t193:=Tryz.underlying291
 a193:=Tryz.isAgg291
 z193:=Tryz.sizeOf291
 v193:=Tryz.zeroValue291
 t194:=Tryz.underlying292
 a194:=Tryz.isAgg292
 z194:=Tryz.sizeOf292
 v194:=Tryz.zeroValue292
 t196:=Tryz.underlying294
 a196:=Tryz.isAgg294
 z196:=Tryz.sizeOf294
 v196:=Tryz.zeroValue294
 t198:=Tryz.underlying297
 a198:=Tryz.isAgg297
 z198:=Tryz.sizeOf297
 v198:=Tryz.zeroValue297
 t201:=Tryz.underlying300
 a201:=Tryz.isAgg300
 z201:=Tryz.sizeOf300
 v201:=Tryz.zeroValue300
 t226:=Tryz.underlying324
 a226:=Tryz.isAgg324
 z226:=Tryz.sizeOf324
 v226:=Tryz.zeroValue324
 t227:=Tryz.underlying325
 a227:=Tryz.isAgg325
 z227:=Tryz.sizeOf325
 v227:=Tryz.zeroValue325
 g0:=by kernel_rfl
 g6:=by kernel_rfl
def zuC:Shelf.Ren where
 f:=fun x=>match x with | 160=>128 | 232=>178 | 231=>177 | 227=>179 | 234=>181 | 233=>180 | 236=>183 | 235=>182 | 228=>229 | 271=>232 | 151=>231 | 197=>230 | 120=>263 | 152=>262 | 260=>261 | 137=>276 | 119=>277 | 224=>270 | 225=>269 | 217=>268 | 266=>279 | n=>n
 t:=fun x=>match x with | 9=>9 | 4=>4 | 3=>3 | 5=>5 | 117=>242 | 116=>241 | 0=>0 | 124=>245 | 21=>21 | 105=>288 | 46=>194 | 119=>196 | 139=>210 | 138=>209 | n=>n
 g:=fun x=>match x with | 3=>1 | 4=>2 | n=>n
theorem zuB:Lays.n160 Tryz.prog zuC where
 mixed:=by kernel_rfl
 f119:=Tryz.func277.trans (by kernel_rfl)
 f120:=Tryz.func263.trans (by kernel_rfl)
 f137:=Tryz.func276.trans (by kernel_rfl)
 f151:=Tryz.func231.trans (by kernel_rfl)
 f152:=Tryz.func262.trans (by kernel_rfl)
 f160:=Tryz.func128.trans (by kernel_rfl)
 f197:=Tryz.func230.trans (by kernel_rfl)
 f217:=Tryz.func268.trans (by kernel_rfl)
 f224:=Tryz.func270.trans (by kernel_rfl)
 f225:=Tryz.func269.trans (by kernel_rfl)
 f227:=Tryz.func179.trans (by kernel_rfl)
 f228:=Tryz.func229.trans (by kernel_rfl)
 f231:=Tryz.func177.trans (by kernel_rfl)
 f232:=Tryz.func178.trans (by kernel_rfl)
 f233:=Tryz.func180.trans (by kernel_rfl)
 f234:=Tryz.func181.trans (by kernel_rfl)
 f235:=Tryz.func182.trans (by kernel_rfl)
 f236:=Tryz.func183.trans (by kernel_rfl)
 f260:=Tryz.func261.trans (by kernel_rfl)
 f266:=Tryz.func279.trans (by kernel_rfl)
 f271:=Tryz.func232.trans (by kernel_rfl)
 t0:=Tryz.underlying0
 a0:=Tryz.isAgg0
 z0:=Tryz.sizeOf0
 v0:=Tryz.zeroValue0
 t3:=Tryz.underlying3
 a3:=Tryz.isAgg3
 z3:=Tryz.sizeOf3
 v3:=Tryz.zeroValue3
 t4:=Tryz.underlying4
 a4:=Tryz.isAgg4
 z4:=Tryz.sizeOf4
 v4:=Tryz.zeroValue4
 t5:=Tryz.underlying5
 a5:=Tryz.isAgg5
 z5:=Tryz.sizeOf5
 v5:=Tryz.zeroValue5
 t9:=Tryz.underlying9
 a9:=Tryz.isAgg9
 z9:=Tryz.sizeOf9
 v9:=Tryz.zeroValue9
 t21:=Tryz.underlying21
 a21:=Tryz.isAgg21
 z21:=Tryz.sizeOf21
 v21:=Tryz.zeroValue21
 t46:=Tryz.underlying194
 a46:=Tryz.isAgg194
 z46:=Tryz.sizeOf194
 v46:=Tryz.zeroValue194
 t105:=Tryz.underlying288
 a105:=Tryz.isAgg288
 z105:=Tryz.sizeOf288
 v105:=Tryz.zeroValue288
 t116:=Tryz.underlying241
 a116:=Tryz.isAgg241
 z116:=Tryz.sizeOf241
 t117:=Tryz.underlying242
 a117:=Tryz.isAgg242
 z117:=Tryz.sizeOf242
 v117:=Tryz.zeroValue242
 t119:=Tryz.underlying196
 a119:=Tryz.isAgg196
 z119:=Tryz.sizeOf196
 t124:=Tryz.underlying245
 a124:=Tryz.isAgg245
 z124:=Tryz.sizeOf245
 v124:=Tryz.zeroValue245
 t138:=Tryz.underlying209
 a138:=Tryz.isAgg209
 z138:=Tryz.sizeOf209
 v138:=Tryz.zeroValue209
 t139:=Tryz.underlying210
 a139:=Tryz.isAgg210
 z139:=Tryz.sizeOf210
 v139:=Tryz.zeroValue210
 g3:=by kernel_rfl
 g4:=by kernel_rfl
def zoH:Shelf.Ren where
 f:=fun x=>match x with | 106=>77 | 213=>126 | 265=>168 | n=>n
 t:=fun x=>match x with | 9=>9 | 3=>3 | n=>n
 g:=fun n=>n
theorem zbM:Lays.n106 Tryz.prog zoH where
 mixed:=by kernel_rfl
 f106:=Tryz.func77.trans (by kernel_rfl)
 f213:=Tryz.func126.trans (by kernel_rfl)
 f265:=Tryz.func168.trans (by kernel_rfl)
 t3:=Tryz.underlying3
 a3:=Tryz.isAgg3
 z3:=Tryz.sizeOf3
 v3:=Tryz.zeroValue3
 t9:=Tryz.underlying9
 a9:=Tryz.isAgg9
 z9:=Tryz.sizeOf9
 v9:=Tryz.zeroValue9
def zku:Shelf.Ren where
 f:=fun x=>match x with | 156=>73 | 165=>121 | 166=>122 | 169=>123 | 240=>156 | 241=>157 | 276=>219 | 277=>220 | n=>n
 t:=fun x=>match x with | 31=>50 | 9=>9 | 3=>3 | 4=>4 | 0=>0 | 20=>20 | 72=>189 | 76=>164 | 70=>186 | 37=>187 | 75=>163 | 127=>224 | 164=>276 | 5=>5 | 80=>191 | n=>n
 g:=fun n=>n
theorem zqS:Lays.n156 Tryz.prog zku where
 mixed:=by kernel_rfl
 f156:=Tryz.func73.trans (by kernel_rfl)
 f165:=Tryz.func121.trans (by kernel_rfl)
 f166:=Tryz.func122.trans (by kernel_rfl)
 f169:=Tryz.func123.trans (by kernel_rfl)
 f240:=Tryz.func156.trans (by kernel_rfl)
 f241:=Tryz.func157.trans (by kernel_rfl)
 f276:=Tryz.func219.trans (by kernel_rfl)
 f277:=Tryz.func220.trans (by kernel_rfl)
 t0:=Tryz.underlying0
 a0:=Tryz.isAgg0
 z0:=Tryz.sizeOf0
 v0:=Tryz.zeroValue0
 t3:=Tryz.underlying3
 a3:=Tryz.isAgg3
 z3:=Tryz.sizeOf3
 v3:=Tryz.zeroValue3
 t4:=Tryz.underlying4
 a4:=Tryz.isAgg4
 z4:=Tryz.sizeOf4
 v4:=Tryz.zeroValue4
 t9:=Tryz.underlying9
 a9:=Tryz.isAgg9
 z9:=Tryz.sizeOf9
 v9:=Tryz.zeroValue9
 t20:=Tryz.underlying20
 a20:=Tryz.isAgg20
 z20:=Tryz.sizeOf20
 v20:=Tryz.zeroValue20
 t31:=Tryz.underlying50
 a31:=Tryz.isAgg50
 z31:=Tryz.sizeOf50
 v31:=Tryz.zeroValue50
 t37:=Tryz.underlying187
 a37:=Tryz.isAgg187
 z37:=Tryz.sizeOf187
 v37:=Tryz.zeroValue187
 t70:=Tryz.underlying186
 a70:=Tryz.isAgg186
 z70:=Tryz.sizeOf186
 v70:=Tryz.zeroValue186
 t72:=Tryz.underlying189
 a72:=Tryz.isAgg189
 z72:=Tryz.sizeOf189
 v72:=Tryz.zeroValue189
 t75:=Tryz.underlying163
 a75:=Tryz.isAgg163
 z75:=Tryz.sizeOf163
 v75:=Tryz.zeroValue163
 t76:=Tryz.underlying164
 a76:=Tryz.isAgg164
 z76:=Tryz.sizeOf164
 v76:=Tryz.zeroValue164
 t127:=Tryz.underlying224
 a127:=Tryz.isAgg224
 z127:=Tryz.sizeOf224
 v127:=Tryz.zeroValue224
 t164:=Tryz.underlying276
 a164:=Tryz.isAgg276
 z164:=Tryz.sizeOf276
 v164:=Tryz.zeroValue276
theorem zqR:Proofs.Builder.Extra Tryz.prog zku where
 sizeBuilder:=by kernel_rfl
 liesBuilder:=by kernel_rfl
 t5:=Tryz.underlying5
 a5:=Tryz.isAgg5
 z5:=Tryz.sizeOf5
 v5:=Tryz.zeroValue5
 infoByte:=by kernel_rfl
 cellsByte:=by kernel_rfl
 sizeByte:=by kernel_rfl
 neB5:=by decide
def ztT:Shelf.Ren where
 f:=fun x=>match x with | 6=>75 | 15=>125 | 14=>124 | 28=>166 | 29=>167 | 20=>158 | 21=>159 | 22=>160 | 23=>161 | 24=>162 | 25=>163 | 26=>164 | 27=>165 | 46=>221 | 47=>222 | 48=>223 | 49=>224 | 50=>225 | 57=>259 | n=>n
 t:=fun x=>match x with | 22=>76 | 24=>96 | 25=>140 | 3=>3 | 39=>194 | 0=>0 | 53=>233 | 55=>219 | 4=>4 | 46=>227 | 45=>226 | 50=>120 | 5=>5 | 9=>9 | 66=>279 | 70=>283 | 76=>319 | 77=>320 | n=>n
 g:=fun n=>n
theorem ztS:SlLaysF0.n6 Tryz.prog ztT where
 mixed:=by kernel_rfl
 f6:=⟨"slices.SortFunc[[]drawboard/api.Attr,drawboard/api.Attr]",of_decide_eq_true (by kernel_rfl),Tryz.func75.trans (by kernel_rfl)⟩
 f14:=⟨"slices.pdqsortCmpFunc[drawboard/api.Attr]",of_decide_eq_true (by kernel_rfl),Tryz.func124.trans (by kernel_rfl)⟩
 f15:=Tryz.func125.trans (by kernel_rfl)
 f20:=⟨"slices.insertionSortCmpFunc[drawboard/api.Attr]",of_decide_eq_true (by kernel_rfl),Tryz.func158.trans (by kernel_rfl)⟩
 f21:=⟨"slices.heapSortCmpFunc[drawboard/api.Attr]",of_decide_eq_true (by kernel_rfl),Tryz.func159.trans (by kernel_rfl)⟩
 f22:=⟨"slices.breakPatternsCmpFunc[drawboard/api.Attr]",of_decide_eq_true (by kernel_rfl),Tryz.func160.trans (by kernel_rfl)⟩
 f23:=⟨"slices.choosePivotCmpFunc[drawboard/api.Attr]",of_decide_eq_true (by kernel_rfl),Tryz.func161.trans (by kernel_rfl)⟩
 f24:=⟨"slices.reverseRangeCmpFunc[drawboard/api.Attr]",of_decide_eq_true (by kernel_rfl),Tryz.func162.trans (by kernel_rfl)⟩
 f25:=⟨"slices.partialInsertionSortCmpFunc[drawboard/api.Attr]",of_decide_eq_true (by kernel_rfl),Tryz.func163.trans (by kernel_rfl)⟩
 f26:=⟨"slices.partitionEqualCmpFunc[drawboard/api.Attr]",of_decide_eq_true (by kernel_rfl),Tryz.func164.trans (by kernel_rfl)⟩
 f27:=⟨"slices.partitionCmpFunc[drawboard/api.Attr]",of_decide_eq_true (by kernel_rfl),Tryz.func165.trans (by kernel_rfl)⟩
 f28:=Tryz.func166.trans (by kernel_rfl)
 f29:=Tryz.func167.trans (by kernel_rfl)
 f46:=⟨"slices.siftDownCmpFunc[drawboard/api.Attr]",of_decide_eq_true (by kernel_rfl),Tryz.func221.trans (by kernel_rfl)⟩
 f47:=Tryz.func222.trans (by kernel_rfl)
 f48:=Tryz.func223.trans (by kernel_rfl)
 f49:=⟨"slices.medianAdjacentCmpFunc[drawboard/api.Attr]",of_decide_eq_true (by kernel_rfl),Tryz.func224.trans (by kernel_rfl)⟩
 f50:=⟨"slices.medianCmpFunc[drawboard/api.Attr]",of_decide_eq_true (by kernel_rfl),Tryz.func225.trans (by kernel_rfl)⟩
 f57:=⟨"slices.order2CmpFunc[drawboard/api.Attr]",of_decide_eq_true (by kernel_rfl),Tryz.func259.trans (by kernel_rfl)⟩
 t0:=Tryz.underlying0
 a0:=Tryz.isAgg0
 z0:=Tryz.sizeOf0
 v0:=Tryz.zeroValue0
 t3:=Tryz.underlying3
 a3:=Tryz.isAgg3
 z3:=Tryz.sizeOf3
 v3:=Tryz.zeroValue3
 t4:=Tryz.underlying4
 a4:=Tryz.isAgg4
 z4:=Tryz.sizeOf4
 v4:=Tryz.zeroValue4
 t5:=Tryz.underlying5
 a5:=Tryz.isAgg5
 z5:=Tryz.sizeOf5
 v5:=Tryz.zeroValue5
 t9:=Tryz.underlying9
 a9:=Tryz.isAgg9
 z9:=Tryz.sizeOf9
 v9:=Tryz.zeroValue9
 t22:=Tryz.underlying76
 a22:=Tryz.isAgg76
 z22:=Tryz.sizeOf76
 v22:=Tryz.zeroValue76
 t25:=Tryz.underlying140
 a25:=Tryz.isAgg140
 z25:=Tryz.sizeOf140
 v25:=Tryz.zeroValue140
 t39:=Tryz.underlying194
 a39:=Tryz.isAgg194
 z39:=Tryz.sizeOf194
 v39:=Tryz.zeroValue194
 t45:=Tryz.underlying226
 a45:=Tryz.isAgg226
 z45:=Tryz.sizeOf226
 v45:=Tryz.zeroValue226
 t46:=Tryz.underlying227
 a46:=Tryz.isAgg227
 z46:=Tryz.sizeOf227
 v46:=Tryz.zeroValue227
 t50:=Tryz.underlying120
 a50:=Tryz.isAgg120
 z50:=Tryz.sizeOf120
 v50:=Tryz.zeroValue120
 t53:=Tryz.underlying233
 a53:=Tryz.isAgg233
 z53:=Tryz.sizeOf233
 v53:=Tryz.zeroValue233
 t55:=Tryz.underlying219
 a55:=Tryz.isAgg219
 z55:=Tryz.sizeOf219
 v55:=Tryz.zeroValue219
 t66:=Tryz.underlying279
 a66:=Tryz.isAgg279
 z66:=Tryz.sizeOf279
 v66:=Tryz.zeroValue279
 t70:=Tryz.underlying283
 a70:=Tryz.isAgg283
 z70:=Tryz.sizeOf283
 v70:=Tryz.zeroValue283
 t76:=Tryz.underlying319
 a76:=Tryz.isAgg319
 z76:=Tryz.sizeOf319
 v76:=Tryz.zeroValue319
 t77:=Tryz.underlying320
 a77:=Tryz.isAgg320
 z77:=Tryz.sizeOf320
 v77:=Tryz.zeroValue320
def ztR:Shelf.Ren where
 f:=fun x=>match x with | 6=>78 | 15=>125 | 14=>127 | 28=>166 | 29=>167 | 20=>169 | 21=>170 | 22=>171 | 23=>172 | 24=>173 | 25=>174 | 26=>175 | 27=>176 | 46=>226 | 47=>222 | 48=>223 | 49=>227 | 50=>228 | 57=>260 | n=>n
 t:=fun x=>match x with | 22=>26 | 24=>78 | 25=>142 | 3=>3 | 39=>194 | 0=>0 | 53=>233 | 55=>219 | 4=>4 | 46=>227 | 45=>226 | 50=>120 | 5=>5 | 9=>9 | 66=>279 | 70=>283 | 76=>319 | 77=>320 | n=>n
 g:=fun n=>n
theorem ztQ:SlLaysF0.n6 Tryz.prog ztR where
 mixed:=by kernel_rfl
 f6:=⟨"slices.SortFunc[[]drawboard/api.Thing,drawboard/api.Thing]",of_decide_eq_true (by kernel_rfl),Tryz.func78.trans (by kernel_rfl)⟩
 f14:=⟨"slices.pdqsortCmpFunc[drawboard/api.Thing]",of_decide_eq_true (by kernel_rfl),Tryz.func127.trans (by kernel_rfl)⟩
 f15:=Tryz.func125.trans (by kernel_rfl)
 f20:=⟨"slices.insertionSortCmpFunc[drawboard/api.Thing]",of_decide_eq_true (by kernel_rfl),Tryz.func169.trans (by kernel_rfl)⟩
 f21:=⟨"slices.heapSortCmpFunc[drawboard/api.Thing]",of_decide_eq_true (by kernel_rfl),Tryz.func170.trans (by kernel_rfl)⟩
 f22:=⟨"slices.breakPatternsCmpFunc[drawboard/api.Thing]",of_decide_eq_true (by kernel_rfl),Tryz.func171.trans (by kernel_rfl)⟩
 f23:=⟨"slices.choosePivotCmpFunc[drawboard/api.Thing]",of_decide_eq_true (by kernel_rfl),Tryz.func172.trans (by kernel_rfl)⟩
 f24:=⟨"slices.reverseRangeCmpFunc[drawboard/api.Thing]",of_decide_eq_true (by kernel_rfl),Tryz.func173.trans (by kernel_rfl)⟩
 f25:=⟨"slices.partialInsertionSortCmpFunc[drawboard/api.Thing]",of_decide_eq_true (by kernel_rfl),Tryz.func174.trans (by kernel_rfl)⟩
 f26:=⟨"slices.partitionEqualCmpFunc[drawboard/api.Thing]",of_decide_eq_true (by kernel_rfl),Tryz.func175.trans (by kernel_rfl)⟩
 f27:=⟨"slices.partitionCmpFunc[drawboard/api.Thing]",of_decide_eq_true (by kernel_rfl),Tryz.func176.trans (by kernel_rfl)⟩
 f28:=Tryz.func166.trans (by kernel_rfl)
 f29:=Tryz.func167.trans (by kernel_rfl)
 f46:=⟨"slices.siftDownCmpFunc[drawboard/api.Thing]",of_decide_eq_true (by kernel_rfl),Tryz.func226.trans (by kernel_rfl)⟩
 f47:=Tryz.func222.trans (by kernel_rfl)
 f48:=Tryz.func223.trans (by kernel_rfl)
 f49:=⟨"slices.medianAdjacentCmpFunc[drawboard/api.Thing]",of_decide_eq_true (by kernel_rfl),Tryz.func227.trans (by kernel_rfl)⟩
 f50:=⟨"slices.medianCmpFunc[drawboard/api.Thing]",of_decide_eq_true (by kernel_rfl),Tryz.func228.trans (by kernel_rfl)⟩
 f57:=⟨"slices.order2CmpFunc[drawboard/api.Thing]",of_decide_eq_true (by kernel_rfl),Tryz.func260.trans (by kernel_rfl)⟩
 t0:=Tryz.underlying0
 a0:=Tryz.isAgg0
 z0:=Tryz.sizeOf0
 v0:=Tryz.zeroValue0
 t3:=Tryz.underlying3
 a3:=Tryz.isAgg3
 z3:=Tryz.sizeOf3
 v3:=Tryz.zeroValue3
 t4:=Tryz.underlying4
 a4:=Tryz.isAgg4
 z4:=Tryz.sizeOf4
 v4:=Tryz.zeroValue4
 t5:=Tryz.underlying5
 a5:=Tryz.isAgg5
 z5:=Tryz.sizeOf5
 v5:=Tryz.zeroValue5
 t9:=Tryz.underlying9
 a9:=Tryz.isAgg9
 z9:=Tryz.sizeOf9
 v9:=Tryz.zeroValue9
 t22:=Tryz.underlying26
 a22:=Tryz.isAgg26
 z22:=Tryz.sizeOf26
 v22:=Tryz.zeroValue26
 t25:=Tryz.underlying142
 a25:=Tryz.isAgg142
 z25:=Tryz.sizeOf142
 v25:=Tryz.zeroValue142
 t39:=Tryz.underlying194
 a39:=Tryz.isAgg194
 z39:=Tryz.sizeOf194
 v39:=Tryz.zeroValue194
 t45:=Tryz.underlying226
 a45:=Tryz.isAgg226
 z45:=Tryz.sizeOf226
 v45:=Tryz.zeroValue226
 t46:=Tryz.underlying227
 a46:=Tryz.isAgg227
 z46:=Tryz.sizeOf227
 v46:=Tryz.zeroValue227
 t50:=Tryz.underlying120
 a50:=Tryz.isAgg120
 z50:=Tryz.sizeOf120
 v50:=Tryz.zeroValue120
 t53:=Tryz.underlying233
 a53:=Tryz.isAgg233
 z53:=Tryz.sizeOf233
 v53:=Tryz.zeroValue233
 t55:=Tryz.underlying219
 a55:=Tryz.isAgg219
 z55:=Tryz.sizeOf219
 v55:=Tryz.zeroValue219
 t66:=Tryz.underlying279
 a66:=Tryz.isAgg279
 z66:=Tryz.sizeOf279
 v66:=Tryz.zeroValue279
 t70:=Tryz.underlying283
 a70:=Tryz.isAgg283
 z70:=Tryz.sizeOf283
 v70:=Tryz.zeroValue283
 t76:=Tryz.underlying319
 a76:=Tryz.isAgg319
 z76:=Tryz.sizeOf319
 v76:=Tryz.zeroValue319
 t77:=Tryz.underlying320
 a77:=Tryz.isAgg320
 z77:=Tryz.sizeOf320
 v77:=Tryz.zeroValue320
def zqW:Shelf.Ren where
 f:=fun x=>match x with | 7=>89 | 10=>133 | n=>n
 t:=fun x=>match x with | 23=>48 | 26=>9 | 3=>53 | 28=>151 | 0=>0 | 27=>150 | 33=>94 | 4=>4 | n=>n
 g:=fun n=>n
theorem zkB:SlLaysZ.n7 Tryz.prog zqW where
 mixed:=by kernel_rfl
 f7:=⟨"maps.Keys[map[string]map[string]string,string,map[string]string]",of_decide_eq_true (by kernel_rfl),Tryz.func89.trans (by kernel_rfl)⟩
 f10:=⟨"maps.Keys[map[string]map[string]string,string,map[string]string]$1",of_decide_eq_true (by kernel_rfl),Tryz.func133.trans (by kernel_rfl)⟩
 t0:=Tryz.underlying0
 a0:=Tryz.isAgg0
 z0:=Tryz.sizeOf0
 v0:=Tryz.zeroValue0
 t4:=Tryz.underlying4
 a4:=Tryz.isAgg4
 z4:=Tryz.sizeOf4
 v4:=Tryz.zeroValue4
 t23:=Tryz.underlying48
 a23:=Tryz.isAgg48
 z23:=Tryz.sizeOf48
 v23:=Tryz.zeroValue48
 t26:=Tryz.underlying9
 a26:=Tryz.isAgg9
 z26:=Tryz.sizeOf9
 v26:=Tryz.zeroValue9
 t27:=Tryz.underlying150
 a27:=Tryz.isAgg150
 z27:=Tryz.sizeOf150
 v27:=Tryz.zeroValue150
 t28:=Tryz.underlying151
 a28:=Tryz.isAgg151
 z28:=Tryz.sizeOf151
 v28:=Tryz.zeroValue151
 t33:=Tryz.underlying94
 a33:=Tryz.isAgg94
 z33:=Tryz.sizeOf94
 v33:=Tryz.zeroValue94
def zt1:Shelf.Ren where
 f:=fun x=>match x with | 6=>88 | 8=>131 | 9=>132 | 11=>185 | 13=>125 | 12=>186 | 23=>166 | 24=>167 | 14=>235 | 15=>236 | 16=>237 | 17=>238 | 18=>239 | 19=>240 | 20=>241 | 21=>242 | 22=>243 | 25=>264 | 26=>222 | 27=>223 | 28=>265 | 29=>266 | 30=>267 | 31=>278 | n=>n
 t:=fun x=>match x with | 26=>9 | 28=>151 | 24=>50 | 0=>0 | 3=>3 | 37=>194 | 48=>233 | 50=>219 | 4=>4 | 40=>227 | 39=>226 | 45=>120 | 5=>5 | 9=>9 | 51=>279 | 55=>283 | 57=>319 | 58=>320 | 33=>94 | n=>n
 g:=fun n=>n
theorem zmR:SlLaysZ.n6 Tryz.prog zt1 where
 mixed:=by kernel_rfl
 f6:=⟨"slices.Sorted[string]",of_decide_eq_true (by kernel_rfl),Tryz.func88.trans (by kernel_rfl)⟩
 f8:=⟨"slices.Collect[string]",of_decide_eq_true (by kernel_rfl),Tryz.func131.trans (by kernel_rfl)⟩
 f11:=⟨"slices.AppendSeq[[]string,string]",of_decide_eq_true (by kernel_rfl),Tryz.func185.trans (by kernel_rfl)⟩
 t0:=Tryz.underlying0
 a0:=Tryz.isAgg0
 z0:=Tryz.sizeOf0
 v0:=Tryz.zeroValue0
 t24:=Tryz.underlying50
 a24:=Tryz.isAgg50
 z24:=Tryz.sizeOf50
 v24:=Tryz.zeroValue50
 t26:=Tryz.underlying9
 a26:=Tryz.isAgg9
 z26:=Tryz.sizeOf9
 v26:=Tryz.zeroValue9
 t28:=Tryz.underlying151
 a28:=Tryz.isAgg151
 z28:=Tryz.sizeOf151
 v28:=Tryz.zeroValue151
 i26:=by kernel_rfl
def ztV:Shelf.Ren where
 f:=fun x=>match x with | 6=>132 | 8=>125 | 9=>186 | 19=>166 | 20=>167 | 21=>235 | 22=>236 | 23=>237 | 24=>238 | 25=>239 | 26=>240 | 27=>241 | 28=>242 | 29=>243 | 36=>264 | 31=>222 | 32=>223 | 37=>265 | 38=>266 | 39=>267 | 41=>278 | n=>n
 t:=fun x=>match x with | 27=>50 | 29=>9 | 3=>3 | 32=>194 | 26=>50 | 0=>0 | 44=>233 | 46=>219 | 4=>4 | 36=>227 | 35=>226 | 41=>120 | 5=>5 | 9=>9 | 53=>279 | 57=>283 | 63=>319 | 64=>320 | n=>n
 g:=fun n=>n
theorem zmP:SlLaysM.n6 Tryz.prog ztV where
 mixed:=by kernel_rfl
 f6:=⟨"slices.Sort[[]string,string]",of_decide_eq_true (by kernel_rfl),Tryz.func132.trans (by kernel_rfl)⟩
 f8:=Tryz.func125.trans (by kernel_rfl)
 f9:=⟨"slices.pdqsortOrdered[string]",of_decide_eq_true (by kernel_rfl),Tryz.func186.trans (by kernel_rfl)⟩
 f19:=Tryz.func166.trans (by kernel_rfl)
 f20:=Tryz.func167.trans (by kernel_rfl)
 f21:=⟨"slices.insertionSortOrdered[string]",of_decide_eq_true (by kernel_rfl),Tryz.func235.trans (by kernel_rfl)⟩
 f22:=⟨"slices.heapSortOrdered[string]",of_decide_eq_true (by kernel_rfl),Tryz.func236.trans (by kernel_rfl)⟩
 f23:=⟨"slices.breakPatternsOrdered[string]",of_decide_eq_true (by kernel_rfl),Tryz.func237.trans (by kernel_rfl)⟩
 f24:=⟨"slices.choosePivotOrdered[string]",of_decide_eq_true (by kernel_rfl),Tryz.func238.trans (by kernel_rfl)⟩
 f25:=⟨"slices.reverseRangeOrdered[string]",of_decide_eq_true (by kernel_rfl),Tryz.func239.trans (by kernel_rfl)⟩
 f26:=⟨"slices.partialInsertionSortOrdered[string]",of_decide_eq_true (by kernel_rfl),Tryz.func240.trans (by kernel_rfl)⟩
 f27:=⟨"cmp.Less[string]",of_decide_eq_true (by kernel_rfl),Tryz.func241.trans (by kernel_rfl)⟩
 f28:=⟨"slices.partitionEqualOrdered[string]",of_decide_eq_true (by kernel_rfl),Tryz.func242.trans (by kernel_rfl)⟩
 f29:=⟨"slices.partitionOrdered[string]",of_decide_eq_true (by kernel_rfl),Tryz.func243.trans (by kernel_rfl)⟩
 f31:=Tryz.func222.trans (by kernel_rfl)
 f32:=Tryz.func223.trans (by kernel_rfl)
 f36:=⟨"slices.siftDownOrdered[string]",of_decide_eq_true (by kernel_rfl),Tryz.func264.trans (by kernel_rfl)⟩
 f37:=⟨"slices.medianAdjacentOrdered[string]",of_decide_eq_true (by kernel_rfl),Tryz.func265.trans (by kernel_rfl)⟩
 f38:=⟨"slices.medianOrdered[string]",of_decide_eq_true (by kernel_rfl),Tryz.func266.trans (by kernel_rfl)⟩
 f39:=⟨"cmp.isNaN[string]",of_decide_eq_true (by kernel_rfl),Tryz.func267.trans (by kernel_rfl)⟩
 f41:=⟨"slices.order2Ordered[string]",of_decide_eq_true (by kernel_rfl),Tryz.func278.trans (by kernel_rfl)⟩
 t0:=Tryz.underlying0
 a0:=Tryz.isAgg0
 z0:=Tryz.sizeOf0
 v0:=Tryz.zeroValue0
 t3:=Tryz.underlying3
 a3:=Tryz.isAgg3
 z3:=Tryz.sizeOf3
 v3:=Tryz.zeroValue3
 t4:=Tryz.underlying4
 a4:=Tryz.isAgg4
 z4:=Tryz.sizeOf4
 v4:=Tryz.zeroValue4
 t5:=Tryz.underlying5
 a5:=Tryz.isAgg5
 z5:=Tryz.sizeOf5
 v5:=Tryz.zeroValue5
 t9:=Tryz.underlying9
 a9:=Tryz.isAgg9
 z9:=Tryz.sizeOf9
 v9:=Tryz.zeroValue9
 t26:=Tryz.underlying50
 a26:=Tryz.isAgg50
 z26:=Tryz.sizeOf50
 v26:=Tryz.zeroValue50
 t27:=Tryz.underlying50
 a27:=Tryz.isAgg50
 z27:=Tryz.sizeOf50
 v27:=Tryz.zeroValue50
 t29:=Tryz.underlying9
 a29:=Tryz.isAgg9
 z29:=Tryz.sizeOf9
 v29:=Tryz.zeroValue9
 t32:=Tryz.underlying194
 a32:=Tryz.isAgg194
 z32:=Tryz.sizeOf194
 v32:=Tryz.zeroValue194
 t35:=Tryz.underlying226
 a35:=Tryz.isAgg226
 z35:=Tryz.sizeOf226
 v35:=Tryz.zeroValue226
 t36:=Tryz.underlying227
 a36:=Tryz.isAgg227
 z36:=Tryz.sizeOf227
 v36:=Tryz.zeroValue227
 t41:=Tryz.underlying120
 a41:=Tryz.isAgg120
 z41:=Tryz.sizeOf120
 v41:=Tryz.zeroValue120
 t44:=Tryz.underlying233
 a44:=Tryz.isAgg233
 z44:=Tryz.sizeOf233
 v44:=Tryz.zeroValue233
 t46:=Tryz.underlying219
 a46:=Tryz.isAgg219
 z46:=Tryz.sizeOf219
 v46:=Tryz.zeroValue219
 t53:=Tryz.underlying279
 a53:=Tryz.isAgg279
 z53:=Tryz.sizeOf279
 v53:=Tryz.zeroValue279
 t57:=Tryz.underlying283
 a57:=Tryz.isAgg283
 z57:=Tryz.sizeOf283
 v57:=Tryz.zeroValue283
 t63:=Tryz.underlying319
 a63:=Tryz.isAgg319
 z63:=Tryz.sizeOf319
 v63:=Tryz.zeroValue319
 t64:=Tryz.underlying320
 a64:=Tryz.isAgg320
 z64:=Tryz.sizeOf320
 v64:=Tryz.zeroValue320
def zqX:Shelf.Ren where
 f:=fun x=>match x with | 7=>90 | 10=>134 | n=>n
 t:=fun x=>match x with | 23=>53 | 26=>9 | 3=>9 | 28=>151 | 0=>0 | 27=>150 | 33=>94 | 4=>4 | n=>n
 g:=fun n=>n
theorem zkC:SlLaysZ.n7 Tryz.prog zqX where
 mixed:=by kernel_rfl
 f7:=⟨"maps.Keys[map[string]string,string,string]",of_decide_eq_true (by kernel_rfl),Tryz.func90.trans (by kernel_rfl)⟩
 f10:=⟨"maps.Keys[map[string]string,string,string]$1",of_decide_eq_true (by kernel_rfl),Tryz.func134.trans (by kernel_rfl)⟩
 t0:=Tryz.underlying0
 a0:=Tryz.isAgg0
 z0:=Tryz.sizeOf0
 v0:=Tryz.zeroValue0
 t4:=Tryz.underlying4
 a4:=Tryz.isAgg4
 z4:=Tryz.sizeOf4
 v4:=Tryz.zeroValue4
 t23:=Tryz.underlying53
 a23:=Tryz.isAgg53
 z23:=Tryz.sizeOf53
 v23:=Tryz.zeroValue53
 t26:=Tryz.underlying9
 a26:=Tryz.isAgg9
 z26:=Tryz.sizeOf9
 v26:=Tryz.zeroValue9
 t27:=Tryz.underlying150
 a27:=Tryz.isAgg150
 z27:=Tryz.sizeOf150
 v27:=Tryz.zeroValue150
 t28:=Tryz.underlying151
 a28:=Tryz.isAgg151
 z28:=Tryz.sizeOf151
 v28:=Tryz.zeroValue151
 t33:=Tryz.underlying94
 a33:=Tryz.isAgg94
 z33:=Tryz.sizeOf94
 v33:=Tryz.zeroValue94
theorem zlo (b c:Nat)(x y r:Int)(w:World)(hr1:x≠0→r=x)(hr2:x=0→r=y)(hx:w.cell? ⟨b,0,none⟩=some (.int .i64 x))(hy:w.cell? ⟨b,1,none⟩=some (.int .i64 y)):
  Calls Tryz.prog 106 #[.slice (some ⟨b,0,none⟩) 2 c] w fun e w'=>e = .returned (.int .i64 r)∧w'=w:=by
 go_enter Tryz.func106,Tryz.ntmps106
 go_wp2
 go_loop [5,8] (fun _ i=>∃k:Nat,k≤2∧i = .int .i64 k∧(0<k→x=0)∧(1<k→y=0)) (fun _ i=>match i with | .int _ m=>2 - m.toNat | _=>0)
 case atStart=>exact⟨0,by omega,rfl,fun h=>absurd h (by omega),fun h=>absurd h (by omega)⟩
 case round=>
  obtain⟨k,hk,rfl,h0,h1⟩:=hrel
  have hcell:∃z,((k:Int)<2→w.cell? ⟨b,k,none⟩=some (.int .i64 z))∧(k=0→z=x)∧(k=1→z=y):=by
   refine⟨if k=0 then x else y,fun h=>?_,fun h=>if_pos h,fun h=>if_neg (by omega)⟩
   by_cases e:k=0
   ·
    rw[e,hx,if_pos rfl]
   ·
    obtain rfl:k=1:=by omega
    rw[hy,if_neg e]
  obtain⟨z,hz,hz0,hz1⟩:=hcell
  go_wp2
  ·
   have hlt:(k:Int)<2:=by assumption
   have hne:(z != 0)=true:=by assumption
   have hne':z≠0:=by simpa using hne
   go_ret
   refine⟨?_,rfl⟩
   show Ending.returned (.int .i64 z) = .returned (.int .i64 r)
   congr 2
   by_cases e:k=0
   ·
    rw[hz0 e]at hne'⊢;exact(hr1 hne').symm
   ·
    rw[hz1 (by omega)];exact(hr2 (h0 (by omega))).symm
  ·
   have hlt:(k:Int)<2:=by assumption
   have hne:(z != 0)=false:=by assumption
   have hne':z=0:=by simpa using hne
   refine⟨⟨k+1,by omega,by push_cast;rfl,fun _=>?_,fun h=>?_⟩,by show 2 - ((k:Int)+1).toNat<2 - (k:Int).toNat;omega⟩
   ·
    by_cases e:k=0
    ·
     rw[←hz0 e];exact hne'
    ·
     exact h0 (by omega)
   ·
    rw[←hz1 (by omega)];exact hne'
  ·
   have hge:2≤(k:Int):=by assumption
   go_ret
   refine⟨?_,rfl⟩
   show Ending.returned (.int .i64 0) = .returned (.int .i64 r)
   rw[hr2 (h0 (by omega)),h1 (by omega)]
theorem ze3 (w:World)(x y:Value)(t:TypeId):(w.alloc (.cells #[x,y] t)).cell? ⟨w.heap.size,0,none⟩=some x∧(w.alloc (.cells #[x,y] t)).cell? ⟨w.heap.size,1,none⟩=some y:=by constructor<;>go_simp
def ztP:Shelf.Ren where
 f:=fun x=>match x with | 6=>104 | 15=>125 | 14=>146 | 28=>166 | 29=>167 | 20=>198 | 21=>199 | 22=>200 | 23=>201 | 24=>202 | 25=>203 | 26=>204 | 27=>205 | 46=>251 | 47=>222 | 48=>223 | 49=>252 | 50=>253 | 57=>274 | n=>n
 t:=fun x=>match x with | 22=>98 | 24=>113 | 25=>172 | 3=>3 | 39=>194 | 0=>0 | 53=>233 | 55=>219 | 4=>4 | 46=>227 | 45=>226 | 50=>120 | 5=>5 | 9=>9 | 66=>279 | 70=>283 | 76=>319 | 77=>320 | n=>n
 g:=fun n=>n
theorem ztO:SlLaysF0.n6 Tryz.prog ztP where
 mixed:=by kernel_rfl
 f6:=⟨"slices.SortFunc[[]drawboard/drawref1.ranked[drawboard/api.Node],drawboard/drawref1.ranked[drawboard/api.Node]]",of_decide_eq_true (by kernel_rfl),Tryz.func104.trans (by kernel_rfl)⟩
 f14:=⟨"slices.pdqsortCmpFunc[drawboard/drawref1.ranked[drawboard/api.Node]]",of_decide_eq_true (by kernel_rfl),Tryz.func146.trans (by kernel_rfl)⟩
 f15:=Tryz.func125.trans (by kernel_rfl)
 f20:=⟨"slices.insertionSortCmpFunc[drawboard/drawref1.ranked[drawboard/api.Node]]",of_decide_eq_true (by kernel_rfl),Tryz.func198.trans (by kernel_rfl)⟩
 f21:=⟨"slices.heapSortCmpFunc[drawboard/drawref1.ranked[drawboard/api.Node]]",of_decide_eq_true (by kernel_rfl),Tryz.func199.trans (by kernel_rfl)⟩
 f22:=⟨"slices.breakPatternsCmpFunc[drawboard/drawref1.ranked[drawboard/api.Node]]",of_decide_eq_true (by kernel_rfl),Tryz.func200.trans (by kernel_rfl)⟩
 f23:=⟨"slices.choosePivotCmpFunc[drawboard/drawref1.ranked[drawboard/api.Node]]",of_decide_eq_true (by kernel_rfl),Tryz.func201.trans (by kernel_rfl)⟩
 f24:=⟨"slices.reverseRangeCmpFunc[drawboard/drawref1.ranked[drawboard/api.Node]]",of_decide_eq_true (by kernel_rfl),Tryz.func202.trans (by kernel_rfl)⟩
 f25:=⟨"slices.partialInsertionSortCmpFunc[drawboard/drawref1.ranked[drawboard/api.Node]]",of_decide_eq_true (by kernel_rfl),Tryz.func203.trans (by kernel_rfl)⟩
 f26:=⟨"slices.partitionEqualCmpFunc[drawboard/drawref1.ranked[drawboard/api.Node]]",of_decide_eq_true (by kernel_rfl),Tryz.func204.trans (by kernel_rfl)⟩
 f27:=⟨"slices.partitionCmpFunc[drawboard/drawref1.ranked[drawboard/api.Node]]",of_decide_eq_true (by kernel_rfl),Tryz.func205.trans (by kernel_rfl)⟩
 f28:=Tryz.func166.trans (by kernel_rfl)
 f29:=Tryz.func167.trans (by kernel_rfl)
 f46:=⟨"slices.siftDownCmpFunc[drawboard/drawref1.ranked[drawboard/api.Node]]",of_decide_eq_true (by kernel_rfl),Tryz.func251.trans (by kernel_rfl)⟩
 f47:=Tryz.func222.trans (by kernel_rfl)
 f48:=Tryz.func223.trans (by kernel_rfl)
 f49:=⟨"slices.medianAdjacentCmpFunc[drawboard/drawref1.ranked[drawboard/api.Node]]",of_decide_eq_true (by kernel_rfl),Tryz.func252.trans (by kernel_rfl)⟩
 f50:=⟨"slices.medianCmpFunc[drawboard/drawref1.ranked[drawboard/api.Node]]",of_decide_eq_true (by kernel_rfl),Tryz.func253.trans (by kernel_rfl)⟩
 f57:=⟨"slices.order2CmpFunc[drawboard/drawref1.ranked[drawboard/api.Node]]",of_decide_eq_true (by kernel_rfl),Tryz.func274.trans (by kernel_rfl)⟩
 t0:=Tryz.underlying0
 a0:=Tryz.isAgg0
 z0:=Tryz.sizeOf0
 v0:=Tryz.zeroValue0
 t3:=Tryz.underlying3
 a3:=Tryz.isAgg3
 z3:=Tryz.sizeOf3
 v3:=Tryz.zeroValue3
 t4:=Tryz.underlying4
 a4:=Tryz.isAgg4
 z4:=Tryz.sizeOf4
 v4:=Tryz.zeroValue4
 t5:=Tryz.underlying5
 a5:=Tryz.isAgg5
 z5:=Tryz.sizeOf5
 v5:=Tryz.zeroValue5
 t9:=Tryz.underlying9
 a9:=Tryz.isAgg9
 z9:=Tryz.sizeOf9
 v9:=Tryz.zeroValue9
 t22:=Tryz.underlying98
 a22:=Tryz.isAgg98
 z22:=Tryz.sizeOf98
 v22:=Tryz.zeroValue98
 t25:=Tryz.underlying172
 a25:=Tryz.isAgg172
 z25:=Tryz.sizeOf172
 v25:=Tryz.zeroValue172
 t39:=Tryz.underlying194
 a39:=Tryz.isAgg194
 z39:=Tryz.sizeOf194
 v39:=Tryz.zeroValue194
 t45:=Tryz.underlying226
 a45:=Tryz.isAgg226
 z45:=Tryz.sizeOf226
 v45:=Tryz.zeroValue226
 t46:=Tryz.underlying227
 a46:=Tryz.isAgg227
 z46:=Tryz.sizeOf227
 v46:=Tryz.zeroValue227
 t50:=Tryz.underlying120
 a50:=Tryz.isAgg120
 z50:=Tryz.sizeOf120
 v50:=Tryz.zeroValue120
 t53:=Tryz.underlying233
 a53:=Tryz.isAgg233
 z53:=Tryz.sizeOf233
 v53:=Tryz.zeroValue233
 t55:=Tryz.underlying219
 a55:=Tryz.isAgg219
 z55:=Tryz.sizeOf219
 v55:=Tryz.zeroValue219
 t66:=Tryz.underlying279
 a66:=Tryz.isAgg279
 z66:=Tryz.sizeOf279
 v66:=Tryz.zeroValue279
 t70:=Tryz.underlying283
 a70:=Tryz.isAgg283
 z70:=Tryz.sizeOf283
 v70:=Tryz.zeroValue283
 t76:=Tryz.underlying319
 a76:=Tryz.isAgg319
 z76:=Tryz.sizeOf319
 v76:=Tryz.zeroValue319
 t77:=Tryz.underlying320
 a77:=Tryz.isAgg320
 z77:=Tryz.sizeOf320
 v77:=Tryz.zeroValue320
def ztN:Shelf.Ren where
 f:=fun x=>match x with | 6=>107 | 15=>125 | 14=>147 | 28=>166 | 29=>167 | 20=>206 | 21=>207 | 22=>208 | 23=>209 | 24=>210 | 25=>211 | 26=>212 | 27=>213 | 46=>254 | 47=>222 | 48=>223 | 49=>255 | 50=>256 | 57=>275 | n=>n
 t:=fun x=>match x with | 22=>99 | 24=>109 | 25=>174 | 3=>3 | 39=>194 | 0=>0 | 53=>233 | 55=>219 | 4=>4 | 46=>227 | 45=>226 | 50=>120 | 5=>5 | 9=>9 | 66=>279 | 70=>283 | 76=>319 | 77=>320 | n=>n
 g:=fun n=>n
theorem ztM:SlLaysF0.n6 Tryz.prog ztN where
 mixed:=by kernel_rfl
 f6:=⟨"slices.SortFunc[[]drawboard/drawref1.ranked[drawboard/api.Edge],drawboard/drawref1.ranked[drawboard/api.Edge]]",of_decide_eq_true (by kernel_rfl),Tryz.func107.trans (by kernel_rfl)⟩
 f14:=⟨"slices.pdqsortCmpFunc[drawboard/drawref1.ranked[drawboard/api.Edge]]",of_decide_eq_true (by kernel_rfl),Tryz.func147.trans (by kernel_rfl)⟩
 f15:=Tryz.func125.trans (by kernel_rfl)
 f20:=⟨"slices.insertionSortCmpFunc[drawboard/drawref1.ranked[drawboard/api.Edge]]",of_decide_eq_true (by kernel_rfl),Tryz.func206.trans (by kernel_rfl)⟩
 f21:=⟨"slices.heapSortCmpFunc[drawboard/drawref1.ranked[drawboard/api.Edge]]",of_decide_eq_true (by kernel_rfl),Tryz.func207.trans (by kernel_rfl)⟩
 f22:=⟨"slices.breakPatternsCmpFunc[drawboard/drawref1.ranked[drawboard/api.Edge]]",of_decide_eq_true (by kernel_rfl),Tryz.func208.trans (by kernel_rfl)⟩
 f23:=⟨"slices.choosePivotCmpFunc[drawboard/drawref1.ranked[drawboard/api.Edge]]",of_decide_eq_true (by kernel_rfl),Tryz.func209.trans (by kernel_rfl)⟩
 f24:=⟨"slices.reverseRangeCmpFunc[drawboard/drawref1.ranked[drawboard/api.Edge]]",of_decide_eq_true (by kernel_rfl),Tryz.func210.trans (by kernel_rfl)⟩
 f25:=⟨"slices.partialInsertionSortCmpFunc[drawboard/drawref1.ranked[drawboard/api.Edge]]",of_decide_eq_true (by kernel_rfl),Tryz.func211.trans (by kernel_rfl)⟩
 f26:=⟨"slices.partitionEqualCmpFunc[drawboard/drawref1.ranked[drawboard/api.Edge]]",of_decide_eq_true (by kernel_rfl),Tryz.func212.trans (by kernel_rfl)⟩
 f27:=⟨"slices.partitionCmpFunc[drawboard/drawref1.ranked[drawboard/api.Edge]]",of_decide_eq_true (by kernel_rfl),Tryz.func213.trans (by kernel_rfl)⟩
 f28:=Tryz.func166.trans (by kernel_rfl)
 f29:=Tryz.func167.trans (by kernel_rfl)
 f46:=⟨"slices.siftDownCmpFunc[drawboard/drawref1.ranked[drawboard/api.Edge]]",of_decide_eq_true (by kernel_rfl),Tryz.func254.trans (by kernel_rfl)⟩
 f47:=Tryz.func222.trans (by kernel_rfl)
 f48:=Tryz.func223.trans (by kernel_rfl)
 f49:=⟨"slices.medianAdjacentCmpFunc[drawboard/drawref1.ranked[drawboard/api.Edge]]",of_decide_eq_true (by kernel_rfl),Tryz.func255.trans (by kernel_rfl)⟩
 f50:=⟨"slices.medianCmpFunc[drawboard/drawref1.ranked[drawboard/api.Edge]]",of_decide_eq_true (by kernel_rfl),Tryz.func256.trans (by kernel_rfl)⟩
 f57:=⟨"slices.order2CmpFunc[drawboard/drawref1.ranked[drawboard/api.Edge]]",of_decide_eq_true (by kernel_rfl),Tryz.func275.trans (by kernel_rfl)⟩
 t0:=Tryz.underlying0
 a0:=Tryz.isAgg0
 z0:=Tryz.sizeOf0
 v0:=Tryz.zeroValue0
 t3:=Tryz.underlying3
 a3:=Tryz.isAgg3
 z3:=Tryz.sizeOf3
 v3:=Tryz.zeroValue3
 t4:=Tryz.underlying4
 a4:=Tryz.isAgg4
 z4:=Tryz.sizeOf4
 v4:=Tryz.zeroValue4
 t5:=Tryz.underlying5
 a5:=Tryz.isAgg5
 z5:=Tryz.sizeOf5
 v5:=Tryz.zeroValue5
 t9:=Tryz.underlying9
 a9:=Tryz.isAgg9
 z9:=Tryz.sizeOf9
 v9:=Tryz.zeroValue9
 t22:=Tryz.underlying99
 a22:=Tryz.isAgg99
 z22:=Tryz.sizeOf99
 v22:=Tryz.zeroValue99
 t25:=Tryz.underlying174
 a25:=Tryz.isAgg174
 z25:=Tryz.sizeOf174
 v25:=Tryz.zeroValue174
 t39:=Tryz.underlying194
 a39:=Tryz.isAgg194
 z39:=Tryz.sizeOf194
 v39:=Tryz.zeroValue194
 t45:=Tryz.underlying226
 a45:=Tryz.isAgg226
 z45:=Tryz.sizeOf226
 v45:=Tryz.zeroValue226
 t46:=Tryz.underlying227
 a46:=Tryz.isAgg227
 z46:=Tryz.sizeOf227
 v46:=Tryz.zeroValue227
 t50:=Tryz.underlying120
 a50:=Tryz.isAgg120
 z50:=Tryz.sizeOf120
 v50:=Tryz.zeroValue120
 t53:=Tryz.underlying233
 a53:=Tryz.isAgg233
 z53:=Tryz.sizeOf233
 v53:=Tryz.zeroValue233
 t55:=Tryz.underlying219
 a55:=Tryz.isAgg219
 z55:=Tryz.sizeOf219
 v55:=Tryz.zeroValue219
 t66:=Tryz.underlying279
 a66:=Tryz.isAgg279
 z66:=Tryz.sizeOf279
 v66:=Tryz.zeroValue279
 t70:=Tryz.underlying283
 a70:=Tryz.isAgg283
 z70:=Tryz.sizeOf283
 v70:=Tryz.zeroValue283
 t76:=Tryz.underlying319
 a76:=Tryz.isAgg319
 z76:=Tryz.sizeOf319
 v76:=Tryz.zeroValue319
 t77:=Tryz.underlying320
 a77:=Tryz.isAgg320
 z77:=Tryz.sizeOf320
 v77:=Tryz.zeroValue320
theorem zp9:zV Tryz.prog 98:=⟨_,Tryz.func98,by kernel_rfl,by kernel_rfl⟩
theorem zgT:zV Tryz.prog 21:=⟨_,Tryz.func21,by kernel_rfl,by kernel_rfl⟩
theorem zpA:zV Tryz.prog 100:=⟨_,Tryz.func100,by kernel_rfl,by kernel_rfl⟩
theorem zqa:zV Tryz.prog 99:=⟨_,Tryz.func99,by kernel_rfl,by kernel_rfl⟩
theorem zp6:zV Tryz.prog 86:=⟨_,Tryz.func86,by kernel_rfl,by kernel_rfl⟩
theorem zgS:zV Tryz.prog 128:=⟨_,Tryz.func128,by kernel_rfl,by kernel_rfl⟩
theorem zpZ:zV Tryz.prog 77:=⟨_,Tryz.func77,by kernel_rfl,by kernel_rfl⟩
theorem zpW:zV Tryz.prog 73:=⟨_,Tryz.func73,by kernel_rfl,by kernel_rfl⟩
theorem yq:Ty Tryz.prog 25 Doc:=⟨⟨_,Tryz.underlying25,rfl⟩,by kernel_rfl⟩
theorem yX:yr Tryz.prog 25 0 0:=⟨_,_,Tryz.underlying25,rfl,rfl,by kernel_rfl⟩
theorem qc:zi Doc (List zh) 0 Doc.Nodes:=⟨by decide,fun M x cs w h=>(zi.fst zi.self).2 M _ cs w h⟩
theorem y8:Ty Tryz.prog 22 (List zh):=⟨⟨_,Tryz.underlying22,rfl⟩,by kernel_rfl⟩
theorem yh:qv Tryz.prog 22 45:=Tryz.underlying22
theorem vM:yr Tryz.prog 25 1 1:=⟨_,_,Tryz.underlying25,rfl,rfl,by kernel_rfl⟩
theorem Qv:zi Doc (List zu) 1 Doc.Edges:=⟨by decide,fun M x cs w h=>(zi.snd zi.self).2 M _ cs w h⟩
theorem Qr:Ty Tryz.prog 23 (List zu):=⟨⟨_,Tryz.underlying23,rfl⟩,by kernel_rfl⟩
theorem qY:qv Tryz.prog 23 59:=Tryz.underlying23
theorem zJ:Ty Tryz.prog 45 zh:=⟨⟨_,Tryz.underlying45,rfl⟩,by kernel_rfl⟩
theorem ja:qa Tryz.prog 45 (⟨Str.nil,(0:Int),(⟨(0:Int),(0:Int),(0:Int),(0:Int)⟩:Box),Str.nil,Str.nil,Str.nil,false⟩:zh):=⟨[.string ByteArray.empty,.int .i64 0,.int .i64 0,.int .i64 0,.int .i64 0,.int .i64 0,.string ByteArray.empty,.string ByteArray.empty,.string ByteArray.empty,.bool false],by kernel_rfl,fun _ _=>⟨[_],_,rfl,yj,⟨[_],_,rfl,⟨rfl,by decide⟩,⟨[_,_,_,_],_,rfl,⟨[_],_,rfl,⟨rfl,by decide⟩,⟨[_],_,rfl,⟨rfl,by decide⟩,⟨[_],_,rfl,⟨rfl,by decide⟩,⟨rfl,by decide⟩⟩⟩⟩,⟨[_],_,rfl,yj,⟨[_],_,rfl,yj,⟨[_],_,rfl,yj,rfl⟩⟩⟩⟩⟩⟩⟩
theorem zpR:zV Tryz.prog 56:=⟨_,Tryz.func56,by kernel_rfl,by kernel_rfl⟩
theorem qI:yr Tryz.prog 45 0 0:=⟨_,_,Tryz.underlying45,rfl,rfl,by kernel_rfl⟩
theorem qJ:zi zh Str 0 zh.Id:=⟨by decide,fun M x cs w h=>(zi.fst zi.self).2 M _ cs w h⟩
theorem ty9:Ty Tryz.prog 9 Str:=⟨⟨_,Tryz.underlying9,rfl⟩,by kernel_rfl⟩
theorem zpQ:zV Tryz.prog 45:=⟨_,Tryz.func45,by kernel_rfl,by kernel_rfl⟩
theorem qV:yr Tryz.prog 45 1 1:=⟨_,_,Tryz.underlying45,rfl,rfl,by kernel_rfl⟩
theorem qO:zi zh Int 1 zh.Kind:=⟨by decide,fun M x cs w h=>(zi.snd (zi.fst zi.self)).2 M _ cs w h⟩
theorem ty3:Ty Tryz.prog 3 Int:=⟨⟨_,Tryz.underlying3,rfl⟩,by kernel_rfl⟩
theorem zec:zV Tryz.prog 50:=⟨_,Tryz.func50,by kernel_rfl,by kernel_rfl⟩
theorem QB:qv Tryz.prog 160 27:=Tryz.underlying160
theorem QD:Ty Tryz.prog 27 Int:=⟨⟨_,Tryz.underlying27,rfl⟩,by kernel_rfl⟩
theorem Ym:qi Tryz.prog 27:=by unfold qi;kernel_rfl
theorem jQ:yr Tryz.prog 45 2 2:=⟨_,_,Tryz.underlying45,rfl,rfl,by kernel_rfl⟩
theorem vc:zi zh Box 2 zh.Box:=⟨by decide,fun M x cs w h=>(zi.snd (zi.snd (zi.fst zi.self))).2 M _ cs w h⟩
theorem zN:Ty Tryz.prog 43 Box:=⟨⟨_,Tryz.underlying43,rfl⟩,by kernel_rfl⟩
theorem qR:jC Tryz.prog 43 [.int .i64 0,.int .i64 0,.int .i64 0,.int .i64 0] [(0,1),(1,1),(2,1),(3,1)]:=⟨by kernel_rfl,_,Tryz.underlying43,by kernel_rfl⟩
theorem q9:∀(M:zj) (w:World),Rep.cells M (⟨(0:Int),(0:Int),(0:Int),(0:Int)⟩:Box) [.int .i64 0,.int .i64 0,.int .i64 0,.int .i64 0] w:=fun _ _=>⟨[_],_,rfl,⟨rfl,by decide⟩,⟨[_],_,rfl,⟨rfl,by decide⟩,⟨[_],_,rfl,⟨rfl,by decide⟩,⟨rfl,by decide⟩⟩⟩⟩
theorem zjp:DB.EqAt Tryz.prog 43 Box:=zjq (n:=4) (fun p=>[p.X,p.Y,p.W_,p.H]) (fun a b=>by cases a;cases b;simp) (fun _=>rfl) (fun M v w a h=>by obtain⟨cs,h,rfl⟩:=h;obtain⟨_,_,rfl,⟨rfl,_⟩,⟨_,_,rfl,⟨rfl,_⟩,⟨_,_,rfl,⟨rfl,_⟩,⟨rfl,_⟩⟩⟩⟩:=h;rfl) ⟨by kernel_rfl,by kernel_rfl,by kernel_rfl,by kernel_rfl⟩
theorem vn:yr Tryz.prog 43 0 0:=⟨_,_,Tryz.underlying43,rfl,rfl,by kernel_rfl⟩
theorem va:zi Box Int 0 Box.X:=⟨by decide,fun M x cs w h=>(zi.fst zi.self).2 M _ cs w h⟩
theorem vo:yr Tryz.prog 43 1 1:=⟨_,_,Tryz.underlying43,rfl,rfl,by kernel_rfl⟩
theorem vb:zi Box Int 1 Box.Y:=⟨by decide,fun M x cs w h=>(zi.snd (zi.fst zi.self)).2 M _ cs w h⟩
theorem zhK:zt zz Int 1 (fun x z=>{ x with Y:=z }):=⟨by decide,fun M x z cs zs w h hz=>(zt.snd zt.self).2 M _ z cs zs w h hz⟩
theorem zhJ:zt zz Int 0 (fun x z=>{ x with X:=z }):=⟨by decide,fun M x z cs zs w h hz=>(zt.fst zt.self).2 M _ z cs zs w h hz⟩
theorem zgi:jC Tryz.prog 72 [.int .i64 0,.int .i64 0] [(0,1),(1,1)]:=⟨by kernel_rfl,_,Tryz.underlying72,by kernel_rfl⟩
theorem zh6:∀(M:zj) (w:World),Rep.cells M (⟨(0:Int),(0:Int)⟩:zz) [.int .i64 0,.int .i64 0] w:=fun _ _=>⟨[_],_,rfl,⟨rfl,by decide⟩,⟨rfl,by decide⟩⟩
theorem zd5:yr Tryz.prog 72 0 0:=⟨_,_,Tryz.underlying72,rfl,rfl,by kernel_rfl⟩
theorem zeo:zi zz Int 0 zz.X:=⟨by decide,fun M x cs w h=>(zi.fst zi.self).2 M _ cs w h⟩
theorem zd6:yr Tryz.prog 72 1 1:=⟨_,_,Tryz.underlying72,rfl,rfl,by kernel_rfl⟩
theorem zep:zi zz Int 1 zz.Y:=⟨by decide,fun M x cs w h=>(zi.snd zi.self).2 M _ cs w h⟩
theorem Qe:yr Tryz.prog 43 2 2:=⟨_,_,Tryz.underlying43,rfl,rfl,by kernel_rfl⟩
theorem vO:zi Box Int 2 Box.W_:=⟨by decide,fun M x cs w h=>(zi.snd (zi.snd (zi.fst zi.self))).2 M _ cs w h⟩
theorem Qf:yr Tryz.prog 43 3 3:=⟨_,_,Tryz.underlying43,rfl,rfl,by kernel_rfl⟩
theorem vP:zi Box Int 3 Box.H:=⟨by decide,fun M x cs w h=>(zi.snd (zi.snd (zi.snd zi.self))).2 M _ cs w h⟩
theorem zb7:yr Tryz.prog 45 3 6:=⟨_,_,Tryz.underlying45,rfl,rfl,by kernel_rfl⟩
theorem zcj:zi zh Str 6 zh.Text:=⟨by decide,fun M x cs w h=>(zi.snd (zi.snd (zi.snd (zi.fst zi.self)))).2 M _ cs w h⟩
theorem zaF:yr Tryz.prog 45 4 7:=⟨_,_,Tryz.underlying45,rfl,rfl,by kernel_rfl⟩
theorem zaP:zi zh Str 7 zh.Class:=⟨by decide,fun M x cs w h=>(zi.snd (zi.snd (zi.snd (zi.snd (zi.fst zi.self))))).2 M _ cs w h⟩
theorem jJ:yr Tryz.prog 45 5 8:=⟨_,_,Tryz.underlying45,rfl,rfl,by kernel_rfl⟩
theorem jL:zi zh Str 8 zh.Parent:=⟨by decide,fun M x cs w h=>(zi.snd (zi.snd (zi.snd (zi.snd (zi.snd (zi.fst zi.self)))))).2 M _ cs w h⟩
theorem zpG:zV Tryz.prog 111:=⟨_,Tryz.func111,by kernel_rfl,by kernel_rfl⟩
theorem zpS:zV Tryz.prog 61:=⟨_,Tryz.func61,by kernel_rfl,by kernel_rfl⟩
theorem zg0:qi Tryz.prog 45:=by unfold qi;kernel_rfl
theorem zhF:jF Tryz.prog 22 45 zh:=⟨yh,zJ,by kernel_rfl⟩
theorem yW:Ty Tryz.prog 59 zu:=⟨⟨_,Tryz.underlying59,rfl⟩,by kernel_rfl⟩
theorem YC:qa Tryz.prog 59 (⟨Str.nil,(⟨Str.nil,(0:Int),(0:Int)⟩:zO),(⟨Str.nil,(0:Int),(0:Int)⟩:zO),([]:(List zz)),Str.nil,Str.nil⟩:zu):=⟨[.string ByteArray.empty,.string ByteArray.empty,.int .i64 0,.int .i64 0,.string ByteArray.empty,.int .i64 0,.int .i64 0,.slice none 0 0,.string ByteArray.empty,.string ByteArray.empty],by kernel_rfl,fun _ _=>⟨[_],_,rfl,yj,⟨[_,_,_],_,rfl,⟨[_],_,rfl,yj,⟨[_],_,rfl,⟨rfl,by decide⟩,⟨rfl,by decide⟩⟩⟩,⟨[_,_,_],_,rfl,⟨[_],_,rfl,yj,⟨[_],_,rfl,⟨rfl,by decide⟩,⟨rfl,by decide⟩⟩⟩,⟨[_],_,rfl,⟨none,0,rfl,Nat.le_refl _,by decide,rfl⟩,⟨[_],_,rfl,yj,yj⟩⟩⟩⟩⟩⟩
theorem j8:yr Tryz.prog 59 0 0:=⟨_,_,Tryz.underlying59,rfl,rfl,by kernel_rfl⟩
theorem vt:zi zu Str 0 zu.Id:=⟨by decide,fun M x cs w h=>(zi.fst zi.self).2 M _ cs w h⟩
theorem zpU:zV Tryz.prog 63:=⟨_,Tryz.func63,by kernel_rfl,by kernel_rfl⟩
theorem zpT:zV Tryz.prog 62:=⟨_,Tryz.func62,by kernel_rfl,by kernel_rfl⟩
theorem YN:yr Tryz.prog 59 1 1:=⟨_,_,Tryz.underlying59,rfl,rfl,by kernel_rfl⟩
theorem zaR:zi zu zO 1 zu.From:=⟨by decide,fun M x cs w h=>(zi.snd (zi.fst zi.self)).2 M _ cs w h⟩
theorem yV:Ty Tryz.prog 56 zO:=⟨⟨_,Tryz.underlying56,rfl⟩,by kernel_rfl⟩
theorem YO:yr Tryz.prog 59 2 4:=⟨_,_,Tryz.underlying59,rfl,rfl,by kernel_rfl⟩
theorem zaS:zi zu zO 4 zu.To:=⟨by decide,fun M x cs w h=>(zi.snd (zi.snd (zi.fst zi.self))).2 M _ cs w h⟩
theorem zbu:qv Tryz.prog 125 56:=Tryz.underlying125
theorem zkf:qi Tryz.prog 56:=by unfold qi;kernel_rfl
theorem zf0:qa Tryz.prog 56 (⟨Str.nil,(0:Int),(0:Int)⟩:zO):=⟨[.string ByteArray.empty,.int .i64 0,.int .i64 0],by kernel_rfl,fun _ _=>⟨[_],_,rfl,yj,⟨[_],_,rfl,⟨rfl,by decide⟩,⟨rfl,by decide⟩⟩⟩⟩
theorem zb8:yr Tryz.prog 56 0 0:=⟨_,_,Tryz.underlying56,rfl,rfl,by kernel_rfl⟩
theorem zck:zi zO Str 0 zO.Node:=⟨by decide,fun M x cs w h=>(zi.fst zi.self).2 M _ cs w h⟩
theorem JF:yr Tryz.prog 56 1 1:=⟨_,_,Tryz.underlying56,rfl,rfl,by kernel_rfl⟩
theorem JM:zi zO Int 1 zO.Side:=⟨by decide,fun M x cs w h=>(zi.snd (zi.fst zi.self)).2 M _ cs w h⟩
theorem zaG:yr Tryz.prog 56 2 2:=⟨_,_,Tryz.underlying56,rfl,rfl,by kernel_rfl⟩
theorem zaQ:zi zO Int 2 zO.At:=⟨by decide,fun M x cs w h=>(zi.snd (zi.snd zi.self)).2 M _ cs w h⟩
theorem Qu:yr Tryz.prog 59 3 7:=⟨_,_,Tryz.underlying59,rfl,rfl,by kernel_rfl⟩
theorem Yk:zi zu (List zz) 7 zu.Bends:=⟨by decide,fun M x cs w h=>(zi.snd (zi.snd (zi.snd (zi.fst zi.self)))).2 M _ cs w h⟩
theorem QE:Ty Tryz.prog 57 (List zz):=⟨⟨_,Tryz.underlying57,rfl⟩,by kernel_rfl⟩
theorem ji:qv Tryz.prog 57 72:=Tryz.underlying57
theorem jk:Ty Tryz.prog 72 zz:=⟨⟨_,Tryz.underlying72,rfl⟩,by kernel_rfl⟩
theorem zf1:qa Tryz.prog 72 (⟨(0:Int),(0:Int)⟩:zz):=⟨[.int .i64 0,.int .i64 0],by kernel_rfl,fun _ _=>⟨[_],_,rfl,⟨rfl,by decide⟩,⟨rfl,by decide⟩⟩⟩
theorem JG:yr Tryz.prog 59 4 8:=⟨_,_,Tryz.underlying59,rfl,rfl,by kernel_rfl⟩
theorem zaT:zi zu Str 8 zu.Text:=⟨by decide,fun M x cs w h=>(zi.snd (zi.snd (zi.snd (zi.snd (zi.fst zi.self))))).2 M _ cs w h⟩
theorem YP:yr Tryz.prog 59 5 9:=⟨_,_,Tryz.underlying59,rfl,rfl,by kernel_rfl⟩
theorem JN:zi zu Str 9 zu.Class:=⟨by decide,fun M x cs w h=>(zi.snd (zi.snd (zi.snd (zi.snd (zi.snd zi.self))))).2 M _ cs w h⟩
theorem jY:qa Tryz.prog 43 (⟨(0:Int),(0:Int),(0:Int),(0:Int)⟩:Box):=⟨[.int .i64 0,.int .i64 0,.int .i64 0,.int .i64 0],by kernel_rfl,fun _ _=>⟨[_],_,rfl,⟨rfl,by decide⟩,⟨[_],_,rfl,⟨rfl,by decide⟩,⟨[_],_,rfl,⟨rfl,by decide⟩,⟨rfl,by decide⟩⟩⟩⟩⟩
theorem jN:qv Tryz.prog 128 43:=Tryz.underlying128
theorem zke:qi Tryz.prog 43:=by unfold qi;kernel_rfl
theorem zl6:jF Tryz.prog 128 43 Box:=⟨jN,zN,by kernel_rfl⟩
theorem zbt:zt Box Int 3 (fun x z=>{ x with H:=z }):=⟨by decide,fun M x z cs zs w h hz=>(zt.snd (zt.snd (zt.snd zt.self))).2 M _ z cs zs w h hz⟩
theorem zbs:zt Box Int 2 (fun x z=>{ x with W_:=z }):=⟨by decide,fun M x z cs zs w h hz=>(zt.snd (zt.snd (zt.fst zt.self))).2 M _ z cs zs w h hz⟩
theorem zbr:zt Box Int 1 (fun x z=>{ x with Y:=z }):=⟨by decide,fun M x z cs zs w h hz=>(zt.snd (zt.fst zt.self)).2 M _ z cs zs w h hz⟩
theorem zbq:zt Box Int 0 (fun x z=>{ x with X:=z }):=⟨by decide,fun M x z cs zs w h hz=>(zt.fst zt.self).2 M _ z cs zs w h hz⟩
theorem zo4:qa Tryz.prog 4 false:=⟨[.bool false],by kernel_rfl,fun _ _=>rfl⟩
theorem zeD:qM Tryz.prog 130 9 4 (MKey.desc Str):=⟨Tryz.underlying130,Tryz.underlying9⟩
theorem zjR:zV Tryz.prog 113:=⟨_,Tryz.func113,by kernel_rfl,by kernel_rfl⟩
theorem zjU:zV Tryz.prog 148:=⟨_,Tryz.func148,by kernel_rfl,by kernel_rfl⟩
theorem zuZ:∀(M:zj) (w:World),Rep.cells M (⟨(⟨([]:(List zh)),([]:(List zu))⟩:Doc),⟨.map none⟩,⟨.map none⟩⟩:vD) [.slice none 0 0,.slice none 0 0,.map none,.map none] w:=fun _ _=>⟨[_,_],_,rfl,⟨[_],_,rfl,⟨none,0,rfl,Nat.le_refl _,by decide,rfl⟩,⟨none,0,rfl,Nat.le_refl _,by decide,rfl⟩⟩,⟨[_],_,rfl,⟨rfl,rfl,rfl⟩,⟨rfl,rfl,rfl⟩⟩⟩
theorem zkd:zi vD Raw 3 vD.members:=⟨by decide,fun M x cs w h=>(zi.snd (zi.snd zi.self)).2 M _ cs w h⟩
theorem zui:zt vD Raw 3 (fun x z=>{ x with members:=z }):=⟨by decide,fun M x z cs zs w h hz=>(zt.snd (zt.snd zt.self)).2 M _ z cs zs w h hz⟩
theorem zqy:zi vD Raw 2 vD.number:=⟨by decide,fun M x cs w h=>(zi.snd (zi.fst zi.self)).2 M _ cs w h⟩
theorem zuh:zt vD Raw 2 (fun x z=>{ x with number:=z }):=⟨by decide,fun M x z cs zs w h hz=>(zt.snd (zt.fst zt.self)).2 M _ z cs zs w h hz⟩
theorem zug:zt vD Doc 0 (fun x z=>{ x with d:=z }):=⟨by decide,fun M x z cs zs w h hz=>(zt.fst zt.self).2 M _ z cs zs w h hz⟩
theorem zow:jC Tryz.prog 181 [.slice none 0 0,.slice none 0 0,.map none,.map none] [(0,2),(2,1),(3,1)]:=⟨by kernel_rfl,_,Tryz.underlying181,by kernel_rfl⟩
theorem zd0:yr Tryz.prog 181 1 2:=⟨_,_,Tryz.underlying181,rfl,rfl,by kernel_rfl⟩
theorem zgW:zi yw (GMap Str Int) 2 yw.number:=⟨by decide,fun M x cs w h=>(zi.snd (zi.fst zi.self)).2 M _ cs w h⟩
theorem zuw:Ty Tryz.prog 178 Raw:=⟨⟨_,Tryz.underlying178,rfl⟩,by kernel_rfl⟩
theorem zeE:qM Tryz.prog 178 9 3 (MKey.desc Str):=⟨Tryz.underlying178,Tryz.underlying9⟩
theorem zd1:yr Tryz.prog 181 2 3:=⟨_,_,Tryz.underlying181,rfl,rfl,by kernel_rfl⟩
theorem zj6:zi yw (GMap Str (List Int)) 3 yw.members:=⟨by decide,fun M x cs w h=>(zi.snd (zi.snd zi.self)).2 M _ cs w h⟩
theorem zna:Ty Tryz.prog 179 Raw:=⟨⟨_,Tryz.underlying179,rfl⟩,by kernel_rfl⟩
theorem znx:qa Tryz.prog 61 ([]:(List Int)):=⟨[.slice none 0 0],by kernel_rfl,fun _ _=>⟨none,0,rfl,Nat.le_refl _,by decide,rfl⟩⟩
theorem zeF:qM Tryz.prog 179 9 61 (MKey.desc Str):=⟨Tryz.underlying179,Tryz.underlying9⟩
theorem zuU:qa Tryz.prog 61 (⟨.slice none 0 0⟩:Raw):=⟨[.slice none 0 0],by kernel_rfl,fun _ _=>⟨rfl,rfl,rfl⟩⟩
theorem yI:qv Tryz.prog 61 3:=Tryz.underlying61
theorem hz3:qi Tryz.prog 3:=by unfold qi;kernel_rfl
theorem zc9:jF Tryz.prog 61 3 Int:=⟨yI,ty3,by kernel_rfl⟩
theorem Yh:yr Tryz.prog 181 0 0:=⟨_,_,Tryz.underlying181,rfl,rfl,by kernel_rfl⟩
theorem Yj:zi yw Doc 0 yw.d:=⟨by decide,fun M x cs w h=>(zi.fst zi.self).2 M _ cs w h⟩
theorem zh3:Ty Tryz.prog 178 (GMap Str Int):=⟨⟨_,Tryz.underlying178,rfl⟩,by kernel_rfl⟩
theorem zo3:qa Tryz.prog 3 (0:Int):=⟨[.int .i64 0],by kernel_rfl,fun _ _=>⟨rfl,by decide⟩⟩
theorem zne:Ty Tryz.prog 179 (GMap Str (List Int)):=⟨⟨_,Tryz.underlying179,rfl⟩,by kernel_rfl⟩
theorem yO:qv Tryz.prog 50 9:=Tryz.underlying50
theorem hz9:qi Tryz.prog 9:=by unfold qi;kernel_rfl
theorem yF:qM Tryz.prog 53 9 9 (MKey.desc Str):=⟨Tryz.underlying53,Tryz.underlying9⟩
theorem zhG:jF Tryz.prog 50 9 Str:=⟨yO,ty9,by kernel_rfl⟩
theorem zd2:yr Tryz.prog 45 6 9:=⟨_,_,Tryz.underlying45,rfl,rfl,by kernel_rfl⟩
theorem zgX:zi zh Bool 9 zh.Locked:=⟨by decide,fun M x cs w h=>(zi.snd (zi.snd (zi.snd (zi.snd (zi.snd (zi.snd zi.self)))))).2 M _ cs w h⟩
theorem ty4:Ty Tryz.prog 4 Bool:=⟨⟨_,Tryz.underlying4,rfl⟩,by kernel_rfl⟩
theorem zcv:qM Tryz.prog 49 9 53 (MKey.desc Str):=⟨Tryz.underlying49,Tryz.underlying9⟩
theorem znA:∀(M:zj) (w:World),Rep.cells M (⟨Str.nil,⟨.slice none 0 0⟩⟩:qN) [.string ByteArray.empty,.slice none 0 0] w:=fun _ _=>⟨[_],_,rfl,yj,⟨rfl,rfl,rfl⟩⟩
theorem zm0:zt qN Str 0 (fun x z=>{ x with Id:=z }):=⟨by decide,fun M x z cs zs w h hz=>(zt.fst zt.self).2 M _ z cs zs w h hz⟩
theorem ziD:jC Tryz.prog 78 [.string ByteArray.empty,.slice none 0 0] [(0,1),(1,1)]:=⟨by kernel_rfl,_,Tryz.underlying78,by kernel_rfl⟩
theorem QY:qa Tryz.prog 78 (⟨Str.nil,([]:(List zU))⟩:zv):=⟨[.string ByteArray.empty,.slice none 0 0],by kernel_rfl,fun _ _=>⟨[_],_,rfl,yj,⟨none,0,rfl,Nat.le_refl _,by decide,rfl⟩⟩⟩
theorem znh:Ty Tryz.prog 78 qN:=⟨⟨_,Tryz.underlying78,rfl⟩,by kernel_rfl⟩
theorem jK:yr Tryz.prog 78 1 1:=⟨_,_,Tryz.underlying78,rfl,rfl,by kernel_rfl⟩
theorem Qg:zi zv (List zU) 1 zv.Attrs:=⟨by decide,fun M x cs w h=>(zi.snd zi.self).2 M _ cs w h⟩
theorem zh2:Ty Tryz.prog 76 Raw:=⟨⟨_,Tryz.underlying76,rfl⟩,by kernel_rfl⟩
theorem zgZ:zi qN Raw 1 qN.Attrs:=⟨by decide,fun M x cs w h=>(zi.snd zi.self).2 M _ cs w h⟩
theorem zm1:zt qN Raw 1 (fun x z=>{ x with Attrs:=z }):=⟨by decide,fun M x z cs zs w h hz=>(zt.snd zt.self).2 M _ z cs zs w h hz⟩
theorem zmF:zt zU Str 1 (fun x z=>{ x with Value:=z }):=⟨by decide,fun M x z cs zs w h hz=>(zt.snd zt.self).2 M _ z cs zs w h hz⟩
theorem zmE:zt zU Str 0 (fun x z=>{ x with Field:=z }):=⟨by decide,fun M x z cs zs w h hz=>(zt.fst zt.self).2 M _ z cs zs w h hz⟩
theorem ziE:jC Tryz.prog 96 [.string ByteArray.empty,.string ByteArray.empty] [(0,1),(1,1)]:=⟨by kernel_rfl,_,Tryz.underlying96,by kernel_rfl⟩
theorem znw:∀(M:zj) (w:World),Rep.cells M (⟨Str.nil,Str.nil⟩:zU) [.string ByteArray.empty,.string ByteArray.empty] w:=fun _ _=>⟨[_],_,rfl,yj,yj⟩
theorem qZ:qv Tryz.prog 76 96:=Tryz.underlying76
theorem q7:Ty Tryz.prog 96 zU:=⟨⟨_,Tryz.underlying96,rfl⟩,by kernel_rfl⟩
theorem zki:qi Tryz.prog 96:=by unfold qi;kernel_rfl
theorem zs2:jF Tryz.prog 76 96 zU:=⟨qZ,q7,by kernel_rfl⟩
theorem zma:zf8 Tryz.prog 76 96 zU:=⟨zs2,by kernel_rfl⟩
theorem vC:Ty Tryz.prog 76 (List zU):=⟨⟨_,Tryz.underlying76,rfl⟩,by kernel_rfl⟩
theorem zpX:zV Tryz.prog 75:=⟨_,Tryz.func75,by kernel_rfl,by kernel_rfl⟩
theorem zpY:zV Tryz.prog 76:=⟨_,Tryz.func76,by kernel_rfl,by kernel_rfl⟩
theorem y9:Ty Tryz.prog 78 zv:=⟨⟨_,Tryz.underlying78,rfl⟩,by kernel_rfl⟩
theorem qD:qv Tryz.prog 26 78:=Tryz.underlying26
theorem zg1:qi Tryz.prog 78:=by unfold qi;kernel_rfl
theorem zs0:jF Tryz.prog 26 78 zv:=⟨qD,y9,by kernel_rfl⟩
theorem zl9:zf8 Tryz.prog 26 78 zv:=⟨zs0,by kernel_rfl⟩
theorem zuG:Ty Tryz.prog 78 (Str×SlV):=⟨⟨_,Tryz.underlying78,rfl⟩,by kernel_rfl⟩
theorem zp0:zV Tryz.prog 78:=⟨_,Tryz.func78,by kernel_rfl,by kernel_rfl⟩
theorem zp1:zV Tryz.prog 79:=⟨_,Tryz.func79,by kernel_rfl,by kernel_rfl⟩
theorem zpK:zV Tryz.prog 26:=⟨_,Tryz.func26,by kernel_rfl,by kernel_rfl⟩
theorem zab:qv Tryz.prog 68 67:=Tryz.underlying68
theorem vV:Ty Tryz.prog 67 DOp:=⟨⟨_,Tryz.underlying67,rfl⟩,by kernel_rfl⟩
theorem zny:qa Tryz.prog 67 (⟨(⟨(0:Int),Str.nil,(0:Int)⟩:Stamp),(0:Int),Str.nil,Str.nil,Str.nil,(0:Int)⟩:DOp):=⟨[.int .i64 0,.string ByteArray.empty,.int .i64 0,.int .i64 0,.string ByteArray.empty,.string ByteArray.empty,.string ByteArray.empty,.int .i64 0],by kernel_rfl,fun _ _=>⟨[_,_,_],_,rfl,⟨[_],_,rfl,⟨rfl,by decide⟩,⟨[_],_,rfl,yj,⟨rfl,by decide⟩⟩⟩,⟨[_],_,rfl,⟨rfl,by decide⟩,⟨[_],_,rfl,yj,⟨[_],_,rfl,yj,⟨[_],_,rfl,yj,⟨rfl,by decide⟩⟩⟩⟩⟩⟩⟩
theorem ziC:jC Tryz.prog 67 [.int .i64 0,.string ByteArray.empty,.int .i64 0,.int .i64 0,.string ByteArray.empty,.string ByteArray.empty,.string ByteArray.empty,.int .i64 0] [(0,3),(3,1),(4,1),(5,1),(6,1),(7,1)]:=⟨by kernel_rfl,_,Tryz.underlying67,by kernel_rfl⟩
theorem znv:∀(M:zj) (w:World),Rep.cells M (⟨(⟨(0:Int),Str.nil,(0:Int)⟩:Stamp),(0:Int),Str.nil,Str.nil,Str.nil,(0:Int)⟩:DOp) [.int .i64 0,.string ByteArray.empty,.int .i64 0,.int .i64 0,.string ByteArray.empty,.string ByteArray.empty,.string ByteArray.empty,.int .i64 0] w:=fun _ _=>⟨[_,_,_],_,rfl,⟨[_],_,rfl,⟨rfl,by decide⟩,⟨[_],_,rfl,yj,⟨rfl,by decide⟩⟩⟩,⟨[_],_,rfl,⟨rfl,by decide⟩,⟨[_],_,rfl,yj,⟨[_],_,rfl,yj,⟨[_],_,rfl,yj,⟨rfl,by decide⟩⟩⟩⟩⟩⟩
theorem vp:yr Tryz.prog 67 0 0:=⟨_,_,Tryz.underlying67,rfl,rfl,by kernel_rfl⟩
theorem vu:zi DOp Stamp 0 DOp.Stamp:=⟨by decide,fun M x cs w h=>(zi.fst zi.self).2 M _ cs w h⟩
theorem zb9:yr Tryz.prog 65 1 1:=⟨_,_,Tryz.underlying65,rfl,rfl,by kernel_rfl⟩
theorem zcl:zi Stamp Str 1 Stamp.Site:=⟨by decide,fun M x cs w h=>(zi.snd (zi.fst zi.self)).2 M _ cs w h⟩
theorem zjV:zV Tryz.prog 80:=⟨_,Tryz.func80,by kernel_rfl,by kernel_rfl⟩
theorem zp3:zV Tryz.prog 81:=⟨_,Tryz.func81,by kernel_rfl,by kernel_rfl⟩
theorem zca:yr Tryz.prog 65 2 2:=⟨_,_,Tryz.underlying65,rfl,rfl,by kernel_rfl⟩
theorem zcm:zi Stamp Int 2 Stamp.No:=⟨by decide,fun M x cs w h=>(zi.snd (zi.snd zi.self)).2 M _ cs w h⟩
theorem zd3:yr Tryz.prog 65 0 0:=⟨_,_,Tryz.underlying65,rfl,rfl,by kernel_rfl⟩
theorem zem:zi Stamp Int 0 Stamp.Time:=⟨by decide,fun M x cs w h=>(zi.fst zi.self).2 M _ cs w h⟩
theorem zd4:yr Tryz.prog 67 1 3:=⟨_,_,Tryz.underlying67,rfl,rfl,by kernel_rfl⟩
theorem zen:zi DOp Int 3 DOp.Kind:=⟨by decide,fun M x cs w h=>(zi.snd (zi.fst zi.self)).2 M _ cs w h⟩
theorem zgK:yr Tryz.prog 67 5 7:=⟨_,_,Tryz.underlying67,rfl,rfl,by kernel_rfl⟩
theorem zgY:zi DOp Int 7 DOp.Of:=⟨by decide,fun M x cs w h=>(zi.snd (zi.snd (zi.snd (zi.snd (zi.snd zi.self))))).2 M _ cs w h⟩
theorem zjE:yr Tryz.prog 67 2 4:=⟨_,_,Tryz.underlying67,rfl,rfl,by kernel_rfl⟩
theorem zj7:zi DOp Str 4 DOp.Id:=⟨by decide,fun M x cs w h=>(zi.snd (zi.snd (zi.fst zi.self))).2 M _ cs w h⟩
theorem zjF:yr Tryz.prog 67 3 5:=⟨_,_,Tryz.underlying67,rfl,rfl,by kernel_rfl⟩
theorem zj8:zi DOp Str 5 DOp.Field:=⟨by decide,fun M x cs w h=>(zi.snd (zi.snd (zi.snd (zi.fst zi.self)))).2 M _ cs w h⟩
theorem zjG:yr Tryz.prog 67 4 6:=⟨_,_,Tryz.underlying67,rfl,rfl,by kernel_rfl⟩
theorem zj9:zi DOp Str 6 DOp.Value:=⟨by decide,fun M x cs w h=>(zi.snd (zi.snd (zi.snd (zi.snd (zi.fst zi.self))))).2 M _ cs w h⟩
theorem zqB:qi Tryz.prog 67:=by unfold qi;kernel_rfl
theorem zp2:zV Tryz.prog 8:=⟨_,Tryz.func8,by kernel_rfl,by kernel_rfl⟩
theorem zuT:qa Tryz.prog 48 (⟨.map none⟩:Raw):=⟨[.map none],by kernel_rfl,fun _ _=>⟨rfl,rfl,rfl⟩⟩
theorem znf:Ty Tryz.prog 48 (GMap Str (GMap Str Str)):=⟨⟨_,Tryz.underlying48,rfl⟩,by kernel_rfl⟩
theorem zh1:Ty Tryz.prog 48 Raw:=⟨⟨_,Tryz.underlying48,rfl⟩,by kernel_rfl⟩
theorem YW:qM Tryz.prog 48 9 53 (MKey.desc Str):=⟨Tryz.underlying48,Tryz.underlying9⟩
theorem zh7:qa Tryz.prog 53 (GMap.nil:(GMap Str Str)):=⟨[.map none],by kernel_rfl,fun _ _=>zhf⟩
theorem zf3:qa Tryz.prog 53 (⟨.map none⟩:Raw):=⟨[.map none],by kernel_rfl,fun _ _=>⟨rfl,rfl,rfl⟩⟩
theorem zp7:zV Tryz.prog 89:=⟨_,Tryz.func89,by kernel_rfl,by kernel_rfl⟩
theorem zjW:zV Tryz.prog 88:=⟨_,Tryz.func88,by kernel_rfl,by kernel_rfl⟩
theorem zpH:zV Tryz.prog 133:=⟨_,Tryz.func133,by kernel_rfl,by kernel_rfl⟩
theorem zjS:zV Tryz.prog 132:=⟨_,Tryz.func132,by kernel_rfl,by kernel_rfl⟩
theorem zp8:zV Tryz.prog 90:=⟨_,Tryz.func90,by kernel_rfl,by kernel_rfl⟩
theorem zpI:zV Tryz.prog 134:=⟨_,Tryz.func134,by kernel_rfl,by kernel_rfl⟩
theorem zo9:qa Tryz.prog 9 Str.nil:=⟨[.string ByteArray.empty],by kernel_rfl,fun _ _=>yj⟩
theorem zpV:zV Tryz.prog 7:=⟨_,Tryz.func7,by kernel_rfl,by kernel_rfl⟩
theorem zpL:zV Tryz.prog 27:=⟨_,Tryz.func27,by kernel_rfl,by kernel_rfl⟩
theorem zp4:zV Tryz.prog 84:=⟨_,Tryz.func84,by kernel_rfl,by kernel_rfl⟩
theorem jq:yr Tryz.prog 78 0 0:=⟨_,_,Tryz.underlying78,rfl,rfl,by kernel_rfl⟩
theorem jr:zi zv Str 0 zv.Id:=⟨by decide,fun M x cs w h=>(zi.fst zi.self).2 M _ cs w h⟩
theorem zp5:zV Tryz.prog 85:=⟨_,Tryz.func85,by kernel_rfl,by kernel_rfl⟩
theorem zd8:yr Tryz.prog 96 1 1:=⟨_,_,Tryz.underlying96,rfl,rfl,by kernel_rfl⟩
theorem zcn:zi zU Str 1 zU.Value:=⟨by decide,fun M x cs w h=>(zi.snd zi.self).2 M _ cs w h⟩
theorem YQ:yr Tryz.prog 96 0 0:=⟨_,_,Tryz.underlying96,rfl,rfl,by kernel_rfl⟩
theorem Yl:zi zU Str 0 zU.Field:=⟨by decide,fun M x cs w h=>(zi.fst zi.self).2 M _ cs w h⟩
theorem zpm:vW Tryz.prog 96 zU 2:=zdZ Tryz.underlying96 (by kernel_rfl) (.cons (proj:=zU.Field) rfl Yl ty9 (JE Tryz.underlying9) (.cons (proj:=zU.Value) rfl zcn ty9 (JE Tryz.underlying9) .nil)) (fun x y=>by rw[Bool.eq_iff_iff];cases x;cases y;simp only[Bool.and_eq_true,decide_eq_true_eq,and_true,zU.mk.injEq]) rfl
theorem zpi:DB.EqAt Tryz.prog 96 zU:=zgI zpm (by kernel_rfl) (by kernel_rfl) rfl
theorem zbE:qa Tryz.prog 25 (⟨([]:(List zh)),([]:(List zu))⟩:Doc):=⟨[.slice none 0 0,.slice none 0 0],by kernel_rfl,fun _ _=>⟨[_],_,rfl,⟨none,0,rfl,Nat.le_refl _,by decide,rfl⟩,⟨none,0,rfl,Nat.le_refl _,by decide,rfl⟩⟩⟩
theorem zf2:qa Tryz.prog 96 (⟨Str.nil,Str.nil⟩:zU):=⟨[.string ByteArray.empty,.string ByteArray.empty],by kernel_rfl,fun _ _=>⟨[_],_,rfl,yj,yj⟩⟩
theorem YI:jC Tryz.prog 25 [.slice none 0 0,.slice none 0 0] [(0,1),(1,1)]:=⟨by kernel_rfl,_,Tryz.underlying25,by kernel_rfl⟩
theorem Jn:∀(M:zj) (w:World),Rep.cells M (⟨([]:(List zh)),([]:(List zu))⟩:Doc) [.slice none 0 0,.slice none 0 0] w:=fun _ _=>⟨[_],_,rfl,⟨none,0,rfl,Nat.le_refl _,by decide,rfl⟩,⟨none,0,rfl,Nat.le_refl _,by decide,rfl⟩⟩
theorem zuY:∀(M:zj) (w:World),Rep.cells M (⟨(0:Int),⟨.pointer none⟩,⟨.pointer none⟩⟩:jv) [.int .i64 0,.pointer none,.pointer none] w:=fun _ _=>⟨[_],_,rfl,⟨rfl,by decide⟩,⟨[_],_,rfl,⟨rfl,rfl,rfl⟩,⟨rfl,rfl,rfl⟩⟩⟩
theorem zuW:qa Tryz.prog 82 (⟨(0:Int),⟨.pointer none⟩,⟨.pointer none⟩⟩:jv):=⟨[.int .i64 0,.pointer none,.pointer none],by kernel_rfl,zuY⟩
theorem zpB:zV Tryz.prog 101:=⟨_,Tryz.func101,by kernel_rfl,by kernel_rfl⟩
theorem zcb:yr Tryz.prog 82 0 0:=⟨_,_,Tryz.underlying82,rfl,rfl,by kernel_rfl⟩
theorem zka:zi zf Int 0 zf.z:=⟨by decide,fun M x cs w h=>(zi.fst zi.self).2 M _ cs w h⟩
theorem zkc:zi jv Int 0 jv.z:=⟨by decide,fun M x cs w h=>(zi.fst zi.self).2 M _ cs w h⟩
theorem zud:zt jv Int 0 (fun x z=>{ x with z:=z }):=⟨by decide,fun M x z cs zs w h hz=>(zt.fst zt.self).2 M _ z cs zs w h hz⟩
theorem zbD:Ty Tryz.prog 82 jv:=⟨⟨_,Tryz.underlying82,rfl⟩,by kernel_rfl⟩
theorem yi:Ty Tryz.prog 82 zf:=⟨⟨_,Tryz.underlying82,rfl⟩,by kernel_rfl⟩
theorem zmD:zt zu Str 9 (fun x z=>{ x with Class:=z }):=⟨by decide,fun M x z cs zs w h hz=>(zt.snd (zt.snd (zt.snd (zt.snd (zt.snd zt.self))))).2 M _ z cs zs w h hz⟩
theorem zmC:zt zu Str 8 (fun x z=>{ x with Text:=z }):=⟨by decide,fun M x z cs zs w h hz=>(zt.snd (zt.snd (zt.snd (zt.snd (zt.fst zt.self))))).2 M _ z cs zs w h hz⟩
theorem zmy:zt zu Str 0 (fun x z=>{ x with Id:=z }):=⟨by decide,fun M x z cs zs w h hz=>(zt.fst zt.self).2 M _ z cs zs w h hz⟩
theorem zox:jC Tryz.prog 59 [.string ByteArray.empty,.string ByteArray.empty,.int .i64 0,.int .i64 0,.string ByteArray.empty,.int .i64 0,.int .i64 0,.slice none 0 0,.string ByteArray.empty,.string ByteArray.empty] [(0,1),(1,3),(4,3),(7,1),(8,1),(9,1)]:=⟨by kernel_rfl,_,Tryz.underlying59,by kernel_rfl⟩
theorem zuQ:∀(M:zj) (w:World),Rep.cells M (⟨Str.nil,(⟨Str.nil,(0:Int),(0:Int)⟩:zO),(⟨Str.nil,(0:Int),(0:Int)⟩:zO),([]:(List zz)),Str.nil,Str.nil⟩:zu) [.string ByteArray.empty,.string ByteArray.empty,.int .i64 0,.int .i64 0,.string ByteArray.empty,.int .i64 0,.int .i64 0,.slice none 0 0,.string ByteArray.empty,.string ByteArray.empty] w:=fun _ _=>⟨[_],_,rfl,yj,⟨[_,_,_],_,rfl,⟨[_],_,rfl,yj,⟨[_],_,rfl,⟨rfl,by decide⟩,⟨rfl,by decide⟩⟩⟩,⟨[_,_,_],_,rfl,⟨[_],_,rfl,yj,⟨[_],_,rfl,⟨rfl,by decide⟩,⟨rfl,by decide⟩⟩⟩,⟨[_],_,rfl,⟨none,0,rfl,Nat.le_refl _,by decide,rfl⟩,⟨[_],_,rfl,yj,yj⟩⟩⟩⟩⟩
theorem zgL:yr Tryz.prog 82 2 2:=⟨_,_,Tryz.underlying82,rfl,rfl,by kernel_rfl⟩
theorem zqs:zi zf (Option zu) 2 zf.edge:=⟨by decide,fun M x cs w h=>(zi.snd (zi.snd zi.self)).2 M _ cs w h⟩
theorem znc:Ty Tryz.prog 80 Raw:=⟨⟨_,Tryz.underlying80,rfl⟩,by kernel_rfl⟩
theorem zqx:zi jv Raw 2 jv.edge:=⟨by decide,fun M x cs w h=>(zi.snd (zi.snd zi.self)).2 M _ cs w h⟩
theorem zuf:zt jv Raw 2 (fun x z=>{ x with edge:=z }):=⟨by decide,fun M x z cs zs w h hz=>(zt.snd (zt.snd zt.self)).2 M _ z cs zs w h hz⟩
theorem zmv:zt zO Str 0 (fun x z=>{ x with Node:=z }):=⟨by decide,fun M x z cs zs w h hz=>(zt.fst zt.self).2 M _ z cs zs w h hz⟩
theorem zmw:zt zO Int 1 (fun x z=>{ x with Side:=z }):=⟨by decide,fun M x z cs zs w h hz=>(zt.snd (zt.fst zt.self)).2 M _ z cs zs w h hz⟩
theorem zmx:zt zO Int 2 (fun x z=>{ x with At:=z }):=⟨by decide,fun M x z cs zs w h hz=>(zt.snd (zt.snd zt.self)).2 M _ z cs zs w h hz⟩
theorem zmz:zt zu zO 1 (fun x z=>{ x with From:=z }):=⟨by decide,fun M x z cs zs w h hz=>(zt.snd (zt.fst zt.self)).2 M _ z cs zs w h hz⟩
theorem zmA:zt zu zO 4 (fun x z=>{ x with To:=z }):=⟨by decide,fun M x z cs zs w h hz=>(zt.snd (zt.snd (zt.fst zt.self))).2 M _ z cs zs w h hz⟩
theorem zkh:qi Tryz.prog 72:=by unfold qi;kernel_rfl
theorem zl8:jF Tryz.prog 57 72 zz:=⟨ji,jk,by kernel_rfl⟩
theorem zmB:zt zu (List zz) 7 (fun x z=>{ x with Bends:=z }):=⟨by decide,fun M x z cs zs w h hz=>(zt.snd (zt.snd (zt.snd (zt.fst zt.self)))).2 M _ z cs zs w h hz⟩
theorem zjT:zV Tryz.prog 138:=⟨_,Tryz.func138,by kernel_rfl,by kernel_rfl⟩
theorem zpJ:zV Tryz.prog 187:=⟨_,Tryz.func187,by kernel_rfl,by kernel_rfl⟩
theorem zmt:zt zh Str 8 (fun x z=>{ x with Parent:=z }):=⟨by decide,fun M x z cs zs w h hz=>(zt.snd (zt.snd (zt.snd (zt.snd (zt.snd (zt.fst zt.self)))))).2 M _ z cs zs w h hz⟩
theorem zms:zt zh Str 7 (fun x z=>{ x with Class:=z }):=⟨by decide,fun M x z cs zs w h hz=>(zt.snd (zt.snd (zt.snd (zt.snd (zt.fst zt.self))))).2 M _ z cs zs w h hz⟩
theorem zmr:zt zh Str 6 (fun x z=>{ x with Text:=z }):=⟨by decide,fun M x z cs zs w h hz=>(zt.snd (zt.snd (zt.snd (zt.fst zt.self)))).2 M _ z cs zs w h hz⟩
theorem zmp:zt zh Int 1 (fun x z=>{ x with Kind:=z }):=⟨by decide,fun M x z cs zs w h hz=>(zt.snd (zt.fst zt.self)).2 M _ z cs zs w h hz⟩
theorem zmo:zt zh Str 0 (fun x z=>{ x with Id:=z }):=⟨by decide,fun M x z cs zs w h hz=>(zt.fst zt.self).2 M _ z cs zs w h hz⟩
theorem ziB:jC Tryz.prog 45 [.string ByteArray.empty,.int .i64 0,.int .i64 0,.int .i64 0,.int .i64 0,.int .i64 0,.string ByteArray.empty,.string ByteArray.empty,.string ByteArray.empty,.bool false] [(0,1),(1,1),(2,4),(6,1),(7,1),(8,1),(9,1)]:=⟨by kernel_rfl,_,Tryz.underlying45,by kernel_rfl⟩
theorem znu:∀(M:zj) (w:World),Rep.cells M (⟨Str.nil,(0:Int),(⟨(0:Int),(0:Int),(0:Int),(0:Int)⟩:Box),Str.nil,Str.nil,Str.nil,false⟩:zh) [.string ByteArray.empty,.int .i64 0,.int .i64 0,.int .i64 0,.int .i64 0,.int .i64 0,.string ByteArray.empty,.string ByteArray.empty,.string ByteArray.empty,.bool false] w:=fun _ _=>⟨[_],_,rfl,yj,⟨[_],_,rfl,⟨rfl,by decide⟩,⟨[_,_,_,_],_,rfl,⟨[_],_,rfl,⟨rfl,by decide⟩,⟨[_],_,rfl,⟨rfl,by decide⟩,⟨[_],_,rfl,⟨rfl,by decide⟩,⟨rfl,by decide⟩⟩⟩⟩,⟨[_],_,rfl,yj,⟨[_],_,rfl,yj,⟨[_],_,rfl,yj,rfl⟩⟩⟩⟩⟩⟩
theorem zd7:yr Tryz.prog 82 1 1:=⟨_,_,Tryz.underlying82,rfl,rfl,by kernel_rfl⟩
theorem zkb:zi zf (Option zh) 1 zf.node:=⟨by decide,fun M x cs w h=>(zi.snd (zi.fst zi.self)).2 M _ cs w h⟩
theorem znb:Ty Tryz.prog 79 Raw:=⟨⟨_,Tryz.underlying79,rfl⟩,by kernel_rfl⟩
theorem zqw:zi jv Raw 1 jv.node:=⟨by decide,fun M x cs w h=>(zi.snd (zi.fst zi.self)).2 M _ cs w h⟩
theorem zue:zt jv Raw 1 (fun x z=>{ x with node:=z }):=⟨by decide,fun M x z cs zs w h hz=>(zt.snd (zt.fst zt.self)).2 M _ z cs zs w h hz⟩
theorem zmq:zt zh Box 2 (fun x z=>{ x with Box:=z }):=⟨by decide,fun M x z cs zs w h hz=>(zt.snd (zt.snd (zt.fst zt.self))).2 M _ z cs zs w h hz⟩
theorem zmu:zt zh Bool 9 (fun x z=>{ x with Locked:=z }):=⟨by decide,fun M x z cs zs w h hz=>(zt.snd (zt.snd (zt.snd (zt.snd (zt.snd (zt.snd zt.self)))))).2 M _ z cs zs w h hz⟩
theorem znz:qa Tryz.prog 82 (⟨(0:Int),(none:(Option zh)),(none:(Option zu))⟩:zf):=⟨[.int .i64 0,.pointer none,.pointer none],by kernel_rfl,fun _ _=>⟨[_],_,rfl,⟨rfl,by decide⟩,⟨[_],_,rfl,zhs,zhs⟩⟩⟩
theorem qt:qv Tryz.prog 75 82:=Tryz.underlying75
theorem zqC:qi Tryz.prog 82:=by unfold qi;kernel_rfl
theorem zs1:jF Tryz.prog 75 82 zf:=⟨qt,yi,by kernel_rfl⟩
theorem zpM:zV Tryz.prog 37:=⟨_,Tryz.func37,by kernel_rfl,by kernel_rfl⟩
theorem zuX:∀(M:zj) (w:World),Rep.cells M (⟨⟨.slice none 0 0⟩,⟨.slice none 0 0⟩⟩:qL) [.slice none 0 0,.slice none 0 0] w:=fun _ _=>⟨[_],_,rfl,⟨rfl,rfl,rfl⟩,⟨rfl,rfl,rfl⟩⟩
theorem zuV:qa Tryz.prog 25 (⟨⟨.slice none 0 0⟩,⟨.slice none 0 0⟩⟩:qL):=⟨[.slice none 0 0,.slice none 0 0],by kernel_rfl,zuX⟩
theorem zng:Ty Tryz.prog 79 (Option zh):=⟨⟨_,Tryz.underlying79,rfl⟩,by kernel_rfl⟩
theorem zux:Ty Tryz.prog 22 Raw:=⟨⟨_,Tryz.underlying22,rfl⟩,by kernel_rfl⟩
theorem zqu:zi qL Raw 0 qL.Nodes:=⟨by decide,fun M x cs w h=>(zi.fst zi.self).2 M _ cs w h⟩
theorem zub:zt qL Raw 0 (fun x z=>{ x with Nodes:=z }):=⟨by decide,fun M x z cs zs w h hz=>(zt.fst zt.self).2 M _ z cs zs w h hz⟩
theorem zuy:Ty Tryz.prog 23 Raw:=⟨⟨_,Tryz.underlying23,rfl⟩,by kernel_rfl⟩
theorem zqv:zi qL Raw 1 qL.Edges:=⟨by decide,fun M x cs w h=>(zi.snd zi.self).2 M _ cs w h⟩
theorem zuc:zt qL Raw 1 (fun x z=>{ x with Edges:=z }):=⟨by decide,fun M x z cs zs w h hz=>(zt.snd zt.self).2 M _ z cs zs w h hz⟩
theorem zuD:Ty Tryz.prog 80 (Option zu):=⟨⟨_,Tryz.underlying80,rfl⟩,by kernel_rfl⟩
theorem zkg:qi Tryz.prog 59:=by unfold qi;kernel_rfl
theorem zl7:jF Tryz.prog 23 59 zu:=⟨qY,yW,by kernel_rfl⟩
theorem zjQ:zV Tryz.prog 11:=⟨_,Tryz.func11,by kernel_rfl,by kernel_rfl⟩
theorem zpj:vW Tryz.prog 43 Box 2:=zdZ Tryz.underlying43 (by kernel_rfl) (.cons (proj:=Box.X) rfl va ty3 (JD Tryz.underlying3) (.cons (proj:=Box.Y) rfl vb ty3 (JD Tryz.underlying3) (.cons (proj:=Box.W_) rfl vO ty3 (JD Tryz.underlying3) (.cons (proj:=Box.H) rfl vP ty3 (JD Tryz.underlying3) .nil)))) (fun x y=>by rw[Bool.eq_iff_iff];cases x;cases y;simp only[Bool.and_eq_true,decide_eq_true_eq,and_true,Box.mk.injEq]) rfl
theorem zpk:vW Tryz.prog 45 zh 3:=zdZ Tryz.underlying45 (by kernel_rfl) (.cons (proj:=zh.Id) rfl qJ ty9 (zaE (JE Tryz.underlying9) (by decide)) (.cons (proj:=zh.Kind) rfl qO ty3 (zaE (JD Tryz.underlying3) (by decide)) (.cons (proj:=zh.Box) rfl vc zN zpj (.cons (proj:=zh.Text) rfl zcj ty9 (zaE (JE Tryz.underlying9) (by decide)) (.cons (proj:=zh.Class) rfl zaP ty9 (zaE (JE Tryz.underlying9) (by decide)) (.cons (proj:=zh.Parent) rfl jL ty9 (zaE (JE Tryz.underlying9) (by decide)) (.cons (proj:=zh.Locked) rfl zgX ty4 (zaE (zpg Tryz.underlying4) (by decide)) .nil))))))) (fun x y=>by rw[Bool.eq_iff_iff];cases x;cases y;simp only[Bool.and_eq_true,decide_eq_true_eq,and_true,zh.mk.injEq]) rfl
theorem zph:DB.EqAt Tryz.prog 45 zh:=zgI zpk (by kernel_rfl) (by kernel_rfl) rfl
theorem zpN:zV Tryz.prog 40:=⟨_,Tryz.func40,by kernel_rfl,by kernel_rfl⟩
theorem zpO:zV Tryz.prog 41:=⟨_,Tryz.func41,by kernel_rfl,by kernel_rfl⟩
theorem zpl:vW Tryz.prog 56 zO 2:=zdZ Tryz.underlying56 (by kernel_rfl) (.cons (proj:=zO.Node) rfl zck ty9 (JE Tryz.underlying9) (.cons (proj:=zO.Side) rfl JM ty3 (JD Tryz.underlying3) (.cons (proj:=zO.At) rfl zaQ ty3 (JD Tryz.underlying3) .nil))) (fun x y=>by rw[Bool.eq_iff_iff];cases x;cases y;simp only[Bool.and_eq_true,decide_eq_true_eq,and_true,zO.mk.injEq]) rfl
theorem zjr:DB.EqAt Tryz.prog 56 zO:=zgI zpl (by kernel_rfl) (by kernel_rfl) rfl
theorem zpP:zV Tryz.prog 42:=⟨_,Tryz.func42,by kernel_rfl,by kernel_rfl⟩
theorem zpe:DB.EqAt Tryz.prog 72 zz:=zjq (n:=2) (fun p=>[p.X,p.Y]) (fun a b=>by cases a;cases b;simp) (fun _=>rfl) (fun M v w a h=>by obtain⟨cs,h,rfl⟩:=h;obtain⟨_,_,rfl,⟨rfl,_⟩,⟨rfl,_⟩⟩:=h;rfl) ⟨by kernel_rfl,by kernel_rfl,by kernel_rfl,by kernel_rfl⟩
theorem zgh:jC Tryz.prog 56 [.string ByteArray.empty,.int .i64 0,.int .i64 0] [(0,1),(1,1),(2,1)]:=⟨by kernel_rfl,_,Tryz.underlying56,by kernel_rfl⟩
theorem zh5:∀(M:zj) (w:World),Rep.cells M (⟨Str.nil,(0:Int),(0:Int)⟩:zO) [.string ByteArray.empty,.int .i64 0,.int .i64 0] w:=fun _ _=>⟨[_],_,rfl,yj,⟨[_],_,rfl,⟨rfl,by decide⟩,⟨rfl,by decide⟩⟩⟩
theorem ztn:zt yu zu 2 (fun x z=>{ x with x:=z }):=⟨by decide,fun M x z cs zs w h hz=>(zt.snd (zt.snd zt.self)).2 M _ z cs zs w h hz⟩
theorem ztm:zt yu Str 1 (fun x z=>{ x with id:=z }):=⟨by decide,fun M x z cs zs w h hz=>(zt.snd (zt.fst zt.self)).2 M _ z cs zs w h hz⟩
theorem ztl:zt yu Int 0 (fun x z=>{ x with z:=z }):=⟨by decide,fun M x z cs zs w h hz=>(zt.fst zt.self).2 M _ z cs zs w h hz⟩
theorem zou:jC Tryz.prog 109 [.int .i64 0,.string ByteArray.empty,.string ByteArray.empty,.string ByteArray.empty,.int .i64 0,.int .i64 0,.string ByteArray.empty,.int .i64 0,.int .i64 0,.slice none 0 0,.string ByteArray.empty,.string ByteArray.empty] [(0,1),(1,1),(2,10)]:=⟨by kernel_rfl,_,Tryz.underlying109,by kernel_rfl⟩
theorem zuO:∀(M:zj) (w:World),Rep.cells M (⟨(0:Int),Str.nil,(⟨Str.nil,(⟨Str.nil,(0:Int),(0:Int)⟩:zO),(⟨Str.nil,(0:Int),(0:Int)⟩:zO),([]:(List zz)),Str.nil,Str.nil⟩:zu)⟩:yu) [.int .i64 0,.string ByteArray.empty,.string ByteArray.empty,.string ByteArray.empty,.int .i64 0,.int .i64 0,.string ByteArray.empty,.int .i64 0,.int .i64 0,.slice none 0 0,.string ByteArray.empty,.string ByteArray.empty] w:=fun _ _=>⟨[_],_,rfl,⟨rfl,by decide⟩,⟨[_],_,rfl,yj,⟨[_],_,rfl,yj,⟨[_,_,_],_,rfl,⟨[_],_,rfl,yj,⟨[_],_,rfl,⟨rfl,by decide⟩,⟨rfl,by decide⟩⟩⟩,⟨[_,_,_],_,rfl,⟨[_],_,rfl,yj,⟨[_],_,rfl,⟨rfl,by decide⟩,⟨rfl,by decide⟩⟩⟩,⟨[_],_,rfl,⟨none,0,rfl,Nat.le_refl _,by decide,rfl⟩,⟨[_],_,rfl,yj,yj⟩⟩⟩⟩⟩⟩⟩
theorem zfJ:qv Tryz.prog 99 109:=Tryz.underlying99
theorem zdw:Ty Tryz.prog 109 yu:=⟨⟨_,Tryz.underlying109,rfl⟩,by kernel_rfl⟩
theorem zqz:qi Tryz.prog 109:=by unfold qi;kernel_rfl
theorem zs4:jF Tryz.prog 99 109 yu:=⟨zfJ,zdw,by kernel_rfl⟩
theorem ztq:zt yt zh 2 (fun x z=>{ x with x:=z }):=⟨by decide,fun M x z cs zs w h hz=>(zt.snd (zt.snd zt.self)).2 M _ z cs zs w h hz⟩
theorem ztp:zt yt Str 1 (fun x z=>{ x with id:=z }):=⟨by decide,fun M x z cs zs w h hz=>(zt.snd (zt.fst zt.self)).2 M _ z cs zs w h hz⟩
theorem zto:zt yt Int 0 (fun x z=>{ x with z:=z }):=⟨by decide,fun M x z cs zs w h hz=>(zt.fst zt.self).2 M _ z cs zs w h hz⟩
theorem zov:jC Tryz.prog 113 [.int .i64 0,.string ByteArray.empty,.string ByteArray.empty,.int .i64 0,.int .i64 0,.int .i64 0,.int .i64 0,.int .i64 0,.string ByteArray.empty,.string ByteArray.empty,.string ByteArray.empty,.bool false] [(0,1),(1,1),(2,10)]:=⟨by kernel_rfl,_,Tryz.underlying113,by kernel_rfl⟩
theorem zuP:∀(M:zj) (w:World),Rep.cells M (⟨(0:Int),Str.nil,(⟨Str.nil,(0:Int),(⟨(0:Int),(0:Int),(0:Int),(0:Int)⟩:Box),Str.nil,Str.nil,Str.nil,false⟩:zh)⟩:yt) [.int .i64 0,.string ByteArray.empty,.string ByteArray.empty,.int .i64 0,.int .i64 0,.int .i64 0,.int .i64 0,.int .i64 0,.string ByteArray.empty,.string ByteArray.empty,.string ByteArray.empty,.bool false] w:=fun _ _=>⟨[_],_,rfl,⟨rfl,by decide⟩,⟨[_],_,rfl,yj,⟨[_],_,rfl,yj,⟨[_],_,rfl,⟨rfl,by decide⟩,⟨[_,_,_,_],_,rfl,⟨[_],_,rfl,⟨rfl,by decide⟩,⟨[_],_,rfl,⟨rfl,by decide⟩,⟨[_],_,rfl,⟨rfl,by decide⟩,⟨rfl,by decide⟩⟩⟩⟩,⟨[_],_,rfl,yj,⟨[_],_,rfl,yj,⟨[_],_,rfl,yj,rfl⟩⟩⟩⟩⟩⟩⟩⟩
theorem zfI:qv Tryz.prog 98 113:=Tryz.underlying98
theorem zdx:Ty Tryz.prog 113 yt:=⟨⟨_,Tryz.underlying113,rfl⟩,by kernel_rfl⟩
theorem zqA:qi Tryz.prog 113:=by unfold qi;kernel_rfl
theorem zs3:jF Tryz.prog 98 113 yt:=⟨zfI,zdx,by kernel_rfl⟩
theorem zuF:Ty Tryz.prog 113 (Int×Str×(Str×Int×(Int×Int×Int×Int)×Str×Str×Str×Bool)):=⟨⟨_,Tryz.underlying113,rfl⟩,by kernel_rfl⟩
theorem zpC:zV Tryz.prog 104:=⟨_,Tryz.func104,by kernel_rfl,by kernel_rfl⟩
theorem zpD:zV Tryz.prog 105:=⟨_,Tryz.func105,by kernel_rfl,by kernel_rfl⟩
theorem zuS:qa Tryz.prog 113 (⟨(0:Int),Str.nil,(⟨Str.nil,(0:Int),(⟨(0:Int),(0:Int),(0:Int),(0:Int)⟩:Box),Str.nil,Str.nil,Str.nil,false⟩:zh)⟩:yt):=⟨[.int .i64 0,.string ByteArray.empty,.string ByteArray.empty,.int .i64 0,.int .i64 0,.int .i64 0,.int .i64 0,.int .i64 0,.string ByteArray.empty,.string ByteArray.empty,.string ByteArray.empty,.bool false],by kernel_rfl,fun _ _=>⟨[_],_,rfl,⟨rfl,by decide⟩,⟨[_],_,rfl,yj,⟨[_],_,rfl,yj,⟨[_],_,rfl,⟨rfl,by decide⟩,⟨[_,_,_,_],_,rfl,⟨[_],_,rfl,⟨rfl,by decide⟩,⟨[_],_,rfl,⟨rfl,by decide⟩,⟨[_],_,rfl,⟨rfl,by decide⟩,⟨rfl,by decide⟩⟩⟩⟩,⟨[_],_,rfl,yj,⟨[_],_,rfl,yj,⟨[_],_,rfl,yj,rfl⟩⟩⟩⟩⟩⟩⟩⟩⟩
theorem zpx:yr Tryz.prog 113 2 2:=⟨_,_,Tryz.underlying113,rfl,rfl,by kernel_rfl⟩
theorem zqr:zi yt zh 2 yt.x:=⟨by decide,fun M x cs w h=>(zi.snd (zi.snd zi.self)).2 M _ cs w h⟩
theorem zuE:Ty Tryz.prog 109 (Int×Str×(Str×(Str×Int×Int)×(Str×Int×Int)×SlV×Str×Str)):=⟨⟨_,Tryz.underlying109,rfl⟩,by kernel_rfl⟩
theorem zpE:zV Tryz.prog 107:=⟨_,Tryz.func107,by kernel_rfl,by kernel_rfl⟩
theorem zpF:zV Tryz.prog 108:=⟨_,Tryz.func108,by kernel_rfl,by kernel_rfl⟩
theorem zuR:qa Tryz.prog 109 (⟨(0:Int),Str.nil,(⟨Str.nil,(⟨Str.nil,(0:Int),(0:Int)⟩:zO),(⟨Str.nil,(0:Int),(0:Int)⟩:zO),([]:(List zz)),Str.nil,Str.nil⟩:zu)⟩:yu):=⟨[.int .i64 0,.string ByteArray.empty,.string ByteArray.empty,.string ByteArray.empty,.int .i64 0,.int .i64 0,.string ByteArray.empty,.int .i64 0,.int .i64 0,.slice none 0 0,.string ByteArray.empty,.string ByteArray.empty],by kernel_rfl,fun _ _=>⟨[_],_,rfl,⟨rfl,by decide⟩,⟨[_],_,rfl,yj,⟨[_],_,rfl,yj,⟨[_,_,_],_,rfl,⟨[_],_,rfl,yj,⟨[_],_,rfl,⟨rfl,by decide⟩,⟨rfl,by decide⟩⟩⟩,⟨[_,_,_],_,rfl,⟨[_],_,rfl,yj,⟨[_],_,rfl,⟨rfl,by decide⟩,⟨rfl,by decide⟩⟩⟩,⟨[_],_,rfl,⟨none,0,rfl,Nat.le_refl _,by decide,rfl⟩,⟨[_],_,rfl,yj,yj⟩⟩⟩⟩⟩⟩⟩⟩
theorem zpw:yr Tryz.prog 109 2 2:=⟨_,_,Tryz.underlying109,rfl,rfl,by kernel_rfl⟩
theorem zqq:zi yu zu 2 yu.x:=⟨by decide,fun M x cs w h=>(zi.snd (zi.snd zi.self)).2 M _ cs w h⟩
theorem zts:zt Doc (List zu) 1 (fun x z=>{ x with Edges:=z }):=⟨by decide,fun M x z cs zs w h hz=>(zt.snd zt.self).2 M _ z cs zs w h hz⟩
theorem ztr:zt Doc (List zh) 0 (fun x z=>{ x with Nodes:=z }):=⟨by decide,fun M x z cs zs w h hz=>(zt.fst zt.self).2 M _ z cs zs w h hz⟩
end Go.Proofs.YtenpeohfmbilaaaGreatDoor
