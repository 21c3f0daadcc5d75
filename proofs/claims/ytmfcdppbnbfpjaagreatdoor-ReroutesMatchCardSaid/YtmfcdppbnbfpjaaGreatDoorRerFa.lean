/- A part of the proof. -/
import Derived.Test.YtmfcdppbnbfpjaaGreatDoorRows
import Derived.Test.YtmfcdppbnbfpjaaGreatDoorRerLi1
set_option maxRecDepth 100000
set_option linter.unusedSimpArgs false
set_option linter.unusedVariables false
namespace Go.Proofs.YtmfcdppbnbfpjaaGreatDoor
open Go Go.DB Go.RowKit
theorem mixed:Tryz.prog.follows .mixedOrders=true:=by kernel_rfl
theorem mx:Tryz.prog.follows .mixedOrders=true:=mixed
def zrK:Shelf.Ren where
 f:=fun x=>match x with | 160=>129 | 232=>150 | 231=>149 | 227=>151 | 234=>153 | 233=>152 | 236=>155 | 235=>154 | 228=>161 | 271=>164 | 151=>163 | 197=>162 | 120=>168 | 152=>167 | 260=>166 | 137=>169 | 119=>170 | 224=>171 | 225=>172 | 217=>173 | 266=>174 | n=>n
 t:=fun x=>match x with | 9=>9 | 4=>4 | 3=>3 | 5=>5 | 117=>213 | 116=>212 | 0=>0 | 124=>216 | 21=>21 | 105=>224 | 46=>143 | 119=>195 | 139=>198 | 138=>197 | n=>n
 g:=fun x=>match x with | 3=>0 | 4=>1 | n=>n
theorem zrJ:Lays.n160 Tryz.prog zrK where
 mixed:=by kernel_rfl
 f119:=Tryz.func170.trans (by kernel_rfl)
 f120:=Tryz.func168.trans (by kernel_rfl)
 f137:=Tryz.func169.trans (by kernel_rfl)
 f151:=Tryz.func163.trans (by kernel_rfl)
 f152:=Tryz.func167.trans (by kernel_rfl)
 f160:=Tryz.func129.trans (by kernel_rfl)
 f197:=Tryz.func162.trans (by kernel_rfl)
 f217:=Tryz.func173.trans (by kernel_rfl)
 f224:=Tryz.func171.trans (by kernel_rfl)
 f225:=Tryz.func172.trans (by kernel_rfl)
 f227:=Tryz.func151.trans (by kernel_rfl)
 f228:=Tryz.func161.trans (by kernel_rfl)
 f231:=Tryz.func149.trans (by kernel_rfl)
 f232:=Tryz.func150.trans (by kernel_rfl)
 f233:=Tryz.func152.trans (by kernel_rfl)
 f234:=Tryz.func153.trans (by kernel_rfl)
 f235:=Tryz.func154.trans (by kernel_rfl)
 f236:=Tryz.func155.trans (by kernel_rfl)
 f260:=Tryz.func166.trans (by kernel_rfl)
 f266:=Tryz.func174.trans (by kernel_rfl)
 f271:=Tryz.func164.trans (by kernel_rfl)
 t0:=Tryz.underlying0
 a0:=Tryz.isAgg0
 z0:=Tryz.sizeOf0
 v0:=Tryz.zeroValue0
 t3:=Tryz.underlying3
 a3:=Tryz.isAgg3
 z3:=Tryz.sizeOf3
 v3:=Tryz.zeroValue3
 t4:=Tryz.underlying4
 a4:=Tryz.isAgg4
 z4:=Tryz.sizeOf4
 v4:=Tryz.zeroValue4
 t5:=Tryz.underlying5
 a5:=Tryz.isAgg5
 z5:=Tryz.sizeOf5
 v5:=Tryz.zeroValue5
 t9:=Tryz.underlying9
 a9:=Tryz.isAgg9
 z9:=Tryz.sizeOf9
 v9:=Tryz.zeroValue9
 t21:=Tryz.underlying21
 a21:=Tryz.isAgg21
 z21:=Tryz.sizeOf21
 v21:=Tryz.zeroValue21
 t46:=Tryz.underlying143
 a46:=Tryz.isAgg143
 z46:=Tryz.sizeOf143
 v46:=Tryz.zeroValue143
 t105:=Tryz.underlying224
 a105:=Tryz.isAgg224
 z105:=Tryz.sizeOf224
 v105:=Tryz.zeroValue224
 t116:=Tryz.underlying212
 a116:=Tryz.isAgg212
 z116:=Tryz.sizeOf212
 t117:=Tryz.underlying213
 a117:=Tryz.isAgg213
 z117:=Tryz.sizeOf213
 v117:=Tryz.zeroValue213
 t119:=Tryz.underlying195
 a119:=Tryz.isAgg195
 z119:=Tryz.sizeOf195
 t124:=Tryz.underlying216
 a124:=Tryz.isAgg216
 z124:=Tryz.sizeOf216
 v124:=Tryz.zeroValue216
 t138:=Tryz.underlying197
 a138:=Tryz.isAgg197
 z138:=Tryz.sizeOf197
 v138:=Tryz.zeroValue197
 t139:=Tryz.underlying198
 a139:=Tryz.isAgg198
 z139:=Tryz.sizeOf198
 v139:=Tryz.zeroValue198
 g3:=by kernel_rfl
 g4:=by kernel_rfl
def zrQ:Shelf.Ren where
 f:=fun x=>match x with | 196=>120 | 259=>137 | n=>n
 t:=fun x=>match x with | 9=>9 | 4=>4 | 3=>3 | 5=>5 | 12=>12 | 119=>195 | 0=>0 | 46=>143 | 139=>198 | 138=>197 | 53=>209 | n=>n
 g:=fun x=>match x with | 3=>0 | 4=>1 | n=>n
theorem zlh:Lays.n196 Tryz.prog zrQ where
 mixed:=by kernel_rfl
 f196:=Tryz.func120.trans (by kernel_rfl)
 f259:=Tryz.func137.trans (by kernel_rfl)
 t0:=Tryz.underlying0
 a0:=Tryz.isAgg0
 z0:=Tryz.sizeOf0
 v0:=Tryz.zeroValue0
 t3:=Tryz.underlying3
 a3:=Tryz.isAgg3
 z3:=Tryz.sizeOf3
 v3:=Tryz.zeroValue3
 t4:=Tryz.underlying4
 a4:=Tryz.isAgg4
 z4:=Tryz.sizeOf4
 v4:=Tryz.zeroValue4
 t5:=Tryz.underlying5
 a5:=Tryz.isAgg5
 z5:=Tryz.sizeOf5
 v5:=Tryz.zeroValue5
 t9:=Tryz.underlying9
 a9:=Tryz.isAgg9
 z9:=Tryz.sizeOf9
 v9:=Tryz.zeroValue9
 t12:=Tryz.underlying12
 a12:=Tryz.isAgg12
 z12:=Tryz.sizeOf12
 v12:=Tryz.zeroValue12
 t46:=Tryz.underlying143
 a46:=Tryz.isAgg143
 z46:=Tryz.sizeOf143
 v46:=Tryz.zeroValue143
 t53:=Tryz.underlying209
 a53:=Tryz.isAgg209
 z53:=Tryz.sizeOf209
 v53:=Tryz.zeroValue209
 t119:=Tryz.underlying195
 a119:=Tryz.isAgg195
 z119:=Tryz.sizeOf195
 t138:=Tryz.underlying197
 a138:=Tryz.isAgg197
 z138:=Tryz.sizeOf197
 v138:=Tryz.zeroValue197
 t139:=Tryz.underlying198
 a139:=Tryz.isAgg198
 z139:=Tryz.sizeOf198
 v139:=Tryz.zeroValue198
 g3:=by kernel_rfl
 g4:=by kernel_rfl
def zmG:Shelf.Ren where
 f:=fun x=>match x with | 43=>89 | n=>n
 t:=fun x=>match x with | 22=>79 | 23=>3 | 3=>3 | 4=>4 | 0=>0 | n=>n
 g:=fun n=>n
theorem zmF:SlLaysN.n43 Tryz.prog zmG where
 mixed:=by kernel_rfl
 f43:=⟨"slices.Compact[[]int,int]",of_decide_eq_true (by kernel_rfl),Tryz.func89.trans (by kernel_rfl)⟩
 t0:=Tryz.underlying0
 a0:=Tryz.isAgg0
 z0:=Tryz.sizeOf0
 v0:=Tryz.zeroValue0
 t3:=Tryz.underlying3
 a3:=Tryz.isAgg3
 z3:=Tryz.sizeOf3
 v3:=Tryz.zeroValue3
 t4:=Tryz.underlying4
 a4:=Tryz.isAgg4
 z4:=Tryz.sizeOf4
 v4:=Tryz.zeroValue4
 t22:=Tryz.underlying79
 a22:=Tryz.isAgg79
 z22:=Tryz.sizeOf79
 v22:=Tryz.zeroValue79
 t23:=Tryz.underlying3
 a23:=Tryz.isAgg3
 z23:=Tryz.sizeOf3
 v23:=Tryz.zeroValue3
 i23:=by kernel_rfl
def zrk:Shelf.Ren where
 f:=fun x=>match x with | 5=>88 | 8=>126 | 7=>125 | 19=>147 | 20=>148 | 10=>139 | 11=>140 | 12=>141 | 13=>142 | 14=>143 | 15=>144 | 16=>90 | 17=>145 | 18=>146 | 30=>156 | 31=>157 | 32=>158 | 33=>159 | 34=>160 | 35=>127 | 40=>165 | n=>n
 t:=fun x=>match x with | 23=>79 | 25=>3 | 3=>3 | 32=>143 | 22=>79 | 0=>0 | 44=>207 | 46=>209 | 4=>4 | 36=>201 | 35=>200 | 41=>85 | 5=>5 | 9=>9 | 53=>217 | 57=>221 | 63=>227 | 64=>228 | n=>n
 g:=fun n=>n
theorem zri:SlLaysM.n5 Tryz.prog zrk where
 mixed:=by kernel_rfl
 f5:=⟨"slices.Sort[[]int,int]",of_decide_eq_true (by kernel_rfl),Tryz.func88.trans (by kernel_rfl)⟩
 f7:=⟨"slices.pdqsortOrdered[int]",of_decide_eq_true (by kernel_rfl),Tryz.func125.trans (by kernel_rfl)⟩
 f8:=Tryz.func126.trans (by kernel_rfl)
 f10:=⟨"slices.insertionSortOrdered[int]",of_decide_eq_true (by kernel_rfl),Tryz.func139.trans (by kernel_rfl)⟩
 f11:=⟨"slices.heapSortOrdered[int]",of_decide_eq_true (by kernel_rfl),Tryz.func140.trans (by kernel_rfl)⟩
 f12:=⟨"slices.breakPatternsOrdered[int]",of_decide_eq_true (by kernel_rfl),Tryz.func141.trans (by kernel_rfl)⟩
 f13:=⟨"slices.choosePivotOrdered[int]",of_decide_eq_true (by kernel_rfl),Tryz.func142.trans (by kernel_rfl)⟩
 f14:=⟨"slices.reverseRangeOrdered[int]",of_decide_eq_true (by kernel_rfl),Tryz.func143.trans (by kernel_rfl)⟩
 f15:=⟨"slices.partialInsertionSortOrdered[int]",of_decide_eq_true (by kernel_rfl),Tryz.func144.trans (by kernel_rfl)⟩
 f16:=⟨"cmp.Less[int]",of_decide_eq_true (by kernel_rfl),Tryz.func90.trans (by kernel_rfl)⟩
 f17:=⟨"slices.partitionEqualOrdered[int]",of_decide_eq_true (by kernel_rfl),Tryz.func145.trans (by kernel_rfl)⟩
 f18:=⟨"slices.partitionOrdered[int]",of_decide_eq_true (by kernel_rfl),Tryz.func146.trans (by kernel_rfl)⟩
 f19:=Tryz.func147.trans (by kernel_rfl)
 f20:=Tryz.func148.trans (by kernel_rfl)
 f30:=⟨"slices.siftDownOrdered[int]",of_decide_eq_true (by kernel_rfl),Tryz.func156.trans (by kernel_rfl)⟩
 f31:=Tryz.func157.trans (by kernel_rfl)
 f32:=Tryz.func158.trans (by kernel_rfl)
 f33:=⟨"slices.medianAdjacentOrdered[int]",of_decide_eq_true (by kernel_rfl),Tryz.func159.trans (by kernel_rfl)⟩
 f34:=⟨"slices.medianOrdered[int]",of_decide_eq_true (by kernel_rfl),Tryz.func160.trans (by kernel_rfl)⟩
 f35:=⟨"cmp.isNaN[int]",of_decide_eq_true (by kernel_rfl),Tryz.func127.trans (by kernel_rfl)⟩
 f40:=⟨"slices.order2Ordered[int]",of_decide_eq_true (by kernel_rfl),Tryz.func165.trans (by kernel_rfl)⟩
 t0:=Tryz.underlying0
 a0:=Tryz.isAgg0
 z0:=Tryz.sizeOf0
 v0:=Tryz.zeroValue0
 t3:=Tryz.underlying3
 a3:=Tryz.isAgg3
 z3:=Tryz.sizeOf3
 v3:=Tryz.zeroValue3
 t4:=Tryz.underlying4
 a4:=Tryz.isAgg4
 z4:=Tryz.sizeOf4
 v4:=Tryz.zeroValue4
 t5:=Tryz.underlying5
 a5:=Tryz.isAgg5
 z5:=Tryz.sizeOf5
 v5:=Tryz.zeroValue5
 t9:=Tryz.underlying9
 a9:=Tryz.isAgg9
 z9:=Tryz.sizeOf9
 v9:=Tryz.zeroValue9
 t22:=Tryz.underlying79
 a22:=Tryz.isAgg79
 z22:=Tryz.sizeOf79
 v22:=Tryz.zeroValue79
 t23:=Tryz.underlying79
 a23:=Tryz.isAgg79
 z23:=Tryz.sizeOf79
 v23:=Tryz.zeroValue79
 t25:=Tryz.underlying3
 a25:=Tryz.isAgg3
 z25:=Tryz.sizeOf3
 v25:=Tryz.zeroValue3
 t32:=Tryz.underlying143
 a32:=Tryz.isAgg143
 z32:=Tryz.sizeOf143
 v32:=Tryz.zeroValue143
 t35:=Tryz.underlying200
 a35:=Tryz.isAgg200
 z35:=Tryz.sizeOf200
 v35:=Tryz.zeroValue200
 t36:=Tryz.underlying201
 a36:=Tryz.isAgg201
 z36:=Tryz.sizeOf201
 v36:=Tryz.zeroValue201
 t41:=Tryz.underlying85
 a41:=Tryz.isAgg85
 z41:=Tryz.sizeOf85
 v41:=Tryz.zeroValue85
 t44:=Tryz.underlying207
 a44:=Tryz.isAgg207
 z44:=Tryz.sizeOf207
 v44:=Tryz.zeroValue207
 t46:=Tryz.underlying209
 a46:=Tryz.isAgg209
 z46:=Tryz.sizeOf209
 v46:=Tryz.zeroValue209
 t53:=Tryz.underlying217
 a53:=Tryz.isAgg217
 z53:=Tryz.sizeOf217
 v53:=Tryz.zeroValue217
 t57:=Tryz.underlying221
 a57:=Tryz.isAgg221
 z57:=Tryz.sizeOf221
 v57:=Tryz.zeroValue221
 t63:=Tryz.underlying227
 a63:=Tryz.isAgg227
 z63:=Tryz.sizeOf227
 v63:=Tryz.zeroValue227
 t64:=Tryz.underlying228
 a64:=Tryz.isAgg228
 z64:=Tryz.sizeOf228
 v64:=Tryz.zeroValue228
theorem ziI:yb Tryz.prog 129:=⟨_,Tryz.func129,by kernel_rfl,by kernel_rfl⟩
theorem znm:yb Tryz.prog 120:=⟨_,Tryz.func120,by kernel_rfl,by kernel_rfl⟩
theorem znM:yb Tryz.prog 89:=⟨_,Tryz.func89,by kernel_rfl,by kernel_rfl⟩
theorem znL:yb Tryz.prog 88:=⟨_,Tryz.func88,by kernel_rfl,by kernel_rfl⟩
theorem yz:Ty Tryz.prog 25 Doc:=⟨⟨_,Tryz.underlying25,rfl⟩,by kernel_rfl⟩
theorem zlq:yT Tryz.prog 25 (⟨([]:(List zm)),([]:(List zJ))⟩:Doc):=⟨[.slice none 0 0,.slice none 0 0],by kernel_rfl,fun _ _=>⟨[_],_,rfl,⟨none,0,rfl,Nat.le_refl _,by decide,rfl⟩,⟨none,0,rfl,Nat.le_refl _,by decide,rfl⟩⟩⟩
theorem yB:yc Tryz.prog 25 0 0:=⟨_,_,Tryz.underlying25,rfl,rfl,by kernel_rfl⟩
theorem yF:zg Doc (List zm) 0 Doc.Nodes:=⟨by decide,fun M x cs w h=>(zg.fst zg.self).2 M _ cs w h⟩
theorem yE:Ty Tryz.prog 22 (List zm):=⟨⟨_,Tryz.underlying22,rfl⟩,by kernel_rfl⟩
theorem z7:yY Tryz.prog 22 32:=Tryz.underlying22
theorem ji:yc Tryz.prog 25 1 1:=⟨_,_,Tryz.underlying25,rfl,rfl,by kernel_rfl⟩
theorem jT:zg Doc (List zJ) 1 Doc.Edges:=⟨by decide,fun M x cs w h=>(zg.snd zg.self).2 M _ cs w h⟩
theorem jJ:Ty Tryz.prog 23 (List zJ):=⟨⟨_,Tryz.underlying23,rfl⟩,by kernel_rfl⟩
theorem qk:yY Tryz.prog 23 44:=Tryz.underlying23
theorem zR:Ty Tryz.prog 32 zm:=⟨⟨_,Tryz.underlying32,rfl⟩,by kernel_rfl⟩
theorem qL:yT Tryz.prog 32 (⟨Str.nil,(0:Int),(⟨(0:Int),(0:Int),(0:Int),(0:Int)⟩:Box),Str.nil,Str.nil,Str.nil,false⟩:zm):=⟨[.string ByteArray.empty,.int .i64 0,.int .i64 0,.int .i64 0,.int .i64 0,.int .i64 0,.string ByteArray.empty,.string ByteArray.empty,.string ByteArray.empty,.bool false],by kernel_rfl,fun _ _=>⟨[_],_,rfl,QY,⟨[_],_,rfl,⟨rfl,by decide⟩,⟨[_,_,_,_],_,rfl,⟨[_],_,rfl,⟨rfl,by decide⟩,⟨[_],_,rfl,⟨rfl,by decide⟩,⟨[_],_,rfl,⟨rfl,by decide⟩,⟨rfl,by decide⟩⟩⟩⟩,⟨[_],_,rfl,QY,⟨[_],_,rfl,QY,⟨[_],_,rfl,QY,rfl⟩⟩⟩⟩⟩⟩⟩
theorem jt:yc Tryz.prog 32 0 0:=⟨_,_,Tryz.underlying32,rfl,rfl,by kernel_rfl⟩
theorem jk:zg zm Str 0 zm.Id:=⟨by decide,fun M x cs w h=>(zg.fst zg.self).2 M _ cs w h⟩
theorem ty9:Ty Tryz.prog 9 Str:=⟨⟨_,Tryz.underlying9,rfl⟩,by kernel_rfl⟩
theorem zo4:yT Tryz.prog 4 false:=⟨[.bool false],by kernel_rfl,fun _ _=>rfl⟩
theorem zdT:jB Tryz.prog 98 9 4 (MKey.desc Str):=⟨Tryz.underlying98,Tryz.underlying9⟩
theorem ziN:yb Tryz.prog 96:=⟨_,Tryz.func96,by kernel_rfl,by kernel_rfl⟩
theorem jc:yc Tryz.prog 32 1 1:=⟨_,_,Tryz.underlying32,rfl,rfl,by kernel_rfl⟩
theorem qZ:zg zm Int 1 zm.Kind:=⟨by decide,fun M x cs w h=>(zg.snd (zg.fst zg.self)).2 M _ cs w h⟩
theorem ty3:Ty Tryz.prog 3 Int:=⟨⟨_,Tryz.underlying3,rfl⟩,by kernel_rfl⟩
theorem QD:yc Tryz.prog 32 2 2:=⟨_,_,Tryz.underlying32,rfl,rfl,by kernel_rfl⟩
theorem Qj:zg zm Box 2 zm.Box:=⟨by decide,fun M x cs w h=>(zg.snd (zg.snd (zg.fst zg.self))).2 M _ cs w h⟩
theorem zK:Ty Tryz.prog 30 Box:=⟨⟨_,Tryz.underlying30,rfl⟩,by kernel_rfl⟩
theorem qY:jy Tryz.prog 30 [.int .i64 0,.int .i64 0,.int .i64 0,.int .i64 0] [(0,1),(1,1),(2,1),(3,1)]:=⟨by kernel_rfl,_,Tryz.underlying30,by kernel_rfl⟩
theorem q7:∀(M:zp) (w:World),Rep.cells M (⟨(0:Int),(0:Int),(0:Int),(0:Int)⟩:Box) [.int .i64 0,.int .i64 0,.int .i64 0,.int .i64 0] w:=fun _ _=>⟨[_],_,rfl,⟨rfl,by decide⟩,⟨[_],_,rfl,⟨rfl,by decide⟩,⟨[_],_,rfl,⟨rfl,by decide⟩,⟨rfl,by decide⟩⟩⟩⟩
theorem zio:DB.EqAt Tryz.prog 30 Box:=zfI (n:=4) (fun p=>[p.X,p.Y,p.W_,p.H]) (fun a b=>by cases a;cases b;simp) (fun _=>rfl) (fun M v w a h=>by obtain⟨cs,h,rfl⟩:=h;obtain⟨_,_,rfl,⟨rfl,_⟩,⟨_,_,rfl,⟨rfl,_⟩,⟨_,_,rfl,⟨rfl,_⟩,⟨rfl,_⟩⟩⟩⟩:=h;rfl) ⟨by kernel_rfl,by kernel_rfl,by kernel_rfl,by kernel_rfl⟩
theorem qf:yc Tryz.prog 30 0 0:=⟨_,_,Tryz.underlying30,rfl,rfl,by kernel_rfl⟩
theorem y7:zg Box Int 0 Box.X:=⟨by decide,fun M x cs w h=>(zg.fst zg.self).2 M _ cs w h⟩
theorem ziH:yb Tryz.prog 103:=⟨_,Tryz.func103,by kernel_rfl,by kernel_rfl⟩
theorem qg:yc Tryz.prog 30 1 1:=⟨_,_,Tryz.underlying30,rfl,rfl,by kernel_rfl⟩
theorem y8:zg Box Int 1 Box.Y:=⟨by decide,fun M x cs w h=>(zg.snd (zg.fst zg.self)).2 M _ cs w h⟩
theorem yQ:yc Tryz.prog 30 2 2:=⟨_,_,Tryz.underlying30,rfl,rfl,by kernel_rfl⟩
theorem yL:zg Box Int 2 Box.W_:=⟨by decide,fun M x cs w h=>(zg.snd (zg.snd (zg.fst zg.self))).2 M _ cs w h⟩
theorem yU:yc Tryz.prog 30 3 3:=⟨_,_,Tryz.underlying30,rfl,rfl,by kernel_rfl⟩
theorem yR:zg Box Int 3 Box.H:=⟨by decide,fun M x cs w h=>(zg.snd (zg.snd (zg.snd zg.self))).2 M _ cs w h⟩
theorem ziB:yc Tryz.prog 32 3 6:=⟨_,_,Tryz.underlying32,rfl,rfl,by kernel_rfl⟩
theorem zf7:zg zm Str 6 zm.Text:=⟨by decide,fun M x cs w h=>(zg.snd (zg.snd (zg.snd (zg.fst zg.self)))).2 M _ cs w h⟩
theorem zfQ:yc Tryz.prog 32 4 7:=⟨_,_,Tryz.underlying32,rfl,rfl,by kernel_rfl⟩
theorem zdC:zg zm Str 7 zm.Class:=⟨by decide,fun M x cs w h=>(zg.snd (zg.snd (zg.snd (zg.snd (zg.fst zg.self))))).2 M _ cs w h⟩
theorem zr9:∀(M:zp) (w:World),Rep.cells M (⟨(⟨([]:(List zm)),([]:(List zJ))⟩:Doc),⟨.map none⟩,⟨.map none⟩⟩:vk) [.slice none 0 0,.slice none 0 0,.map none,.map none] w:=fun _ _=>⟨[_,_],_,rfl,⟨[_],_,rfl,⟨none,0,rfl,Nat.le_refl _,by decide,rfl⟩,⟨none,0,rfl,Nat.le_refl _,by decide,rfl⟩⟩,⟨[_],_,rfl,⟨rfl,rfl,rfl⟩,⟨rfl,rfl,rfl⟩⟩⟩
theorem zi5:zg vk Raw 3 vk.members:=⟨by decide,fun M x cs w h=>(zg.snd (zg.snd zg.self)).2 M _ cs w h⟩
theorem zrq:zu vk Raw 3 (fun x z=>{ x with members:=z }):=⟨by decide,fun M x z cs zs w h hz=>(zu.snd (zu.snd zu.self)).2 M _ z cs zs w h hz⟩
theorem zod:zg vk Raw 2 vk.number:=⟨by decide,fun M x cs w h=>(zg.snd (zg.fst zg.self)).2 M _ cs w h⟩
theorem zrp:zu vk Raw 2 (fun x z=>{ x with number:=z }):=⟨by decide,fun M x z cs zs w h hz=>(zu.snd (zu.fst zu.self)).2 M _ z cs zs w h hz⟩
theorem zro:zu vk Doc 0 (fun x z=>{ x with d:=z }):=⟨by decide,fun M x z cs zs w h hz=>(zu.fst zu.self).2 M _ z cs zs w h hz⟩
theorem zmw:jy Tryz.prog 150 [.slice none 0 0,.slice none 0 0,.map none,.map none] [(0,2),(2,1),(3,1)]:=⟨by kernel_rfl,_,Tryz.underlying150,by kernel_rfl⟩
theorem zdi:yc Tryz.prog 150 1 2:=⟨_,_,Tryz.underlying150,rfl,rfl,by kernel_rfl⟩
theorem zf2:zg yk (GMap Str Int) 2 yk.number:=⟨by decide,fun M x cs w h=>(zg.snd (zg.fst zg.self)).2 M _ cs w h⟩
theorem zrC:Ty Tryz.prog 147 Raw:=⟨⟨_,Tryz.underlying147,rfl⟩,by kernel_rfl⟩
theorem zdR:jB Tryz.prog 147 9 3 (MKey.desc Str):=⟨Tryz.underlying147,Tryz.underlying9⟩
theorem va:yc Tryz.prog 32 5 8:=⟨_,_,Tryz.underlying32,rfl,rfl,by kernel_rfl⟩
theorem jU:zg zm Str 8 zm.Parent:=⟨by decide,fun M x cs w h=>(zg.snd (zg.snd (zg.snd (zg.snd (zg.snd (zg.fst zg.self)))))).2 M _ cs w h⟩
theorem zdj:yc Tryz.prog 150 2 3:=⟨_,_,Tryz.underlying150,rfl,rfl,by kernel_rfl⟩
theorem zi3:zg yk (GMap Str (List Int)) 3 yk.members:=⟨by decide,fun M x cs w h=>(zg.snd (zg.snd zg.self)).2 M _ cs w h⟩
theorem zk8:Ty Tryz.prog 148 Raw:=⟨⟨_,Tryz.underlying148,rfl⟩,by kernel_rfl⟩
theorem ze6:yT Tryz.prog 79 ([]:(List Int)):=⟨[.slice none 0 0],by kernel_rfl,fun _ _=>⟨none,0,rfl,Nat.le_refl _,by decide,rfl⟩⟩
theorem zdS:jB Tryz.prog 148 9 79 (MKey.desc Str):=⟨Tryz.underlying148,Tryz.underlying9⟩
theorem zr8:yT Tryz.prog 79 (⟨.slice none 0 0⟩:Raw):=⟨[.slice none 0 0],by kernel_rfl,fun _ _=>⟨rfl,rfl,rfl⟩⟩
theorem yl:yY Tryz.prog 79 3:=Tryz.underlying79
theorem hz3:qp Tryz.prog 3:=by unfold qp;kernel_rfl
theorem za7:js Tryz.prog 79 3 Int:=⟨yl,ty3,by kernel_rfl⟩
theorem Ya:yc Tryz.prog 150 0 0:=⟨_,_,Tryz.underlying150,rfl,rfl,by kernel_rfl⟩
theorem Yi:zg yk Doc 0 yk.d:=⟨by decide,fun M x cs w h=>(zg.fst zg.self).2 M _ cs w h⟩
theorem zhB:Ty Tryz.prog 147 (GMap Str Int):=⟨⟨_,Tryz.underlying147,rfl⟩,by kernel_rfl⟩
theorem zo3:yT Tryz.prog 3 (0:Int):=⟨[.int .i64 0],by kernel_rfl,fun _ _=>⟨rfl,by decide⟩⟩
theorem zld:Ty Tryz.prog 148 (GMap Str (List Int)):=⟨⟨_,Tryz.underlying148,rfl⟩,by kernel_rfl⟩
theorem yP:Ty Tryz.prog 44 zJ:=⟨⟨_,Tryz.underlying44,rfl⟩,by kernel_rfl⟩
theorem zae:yT Tryz.prog 44 (⟨Str.nil,(⟨Str.nil,(0:Int),(0:Int)⟩:yx),(⟨Str.nil,(0:Int),(0:Int)⟩:yx),([]:(List zd)),Str.nil,Str.nil⟩:zJ):=⟨[.string ByteArray.empty,.string ByteArray.empty,.int .i64 0,.int .i64 0,.string ByteArray.empty,.int .i64 0,.int .i64 0,.slice none 0 0,.string ByteArray.empty,.string ByteArray.empty],by kernel_rfl,fun _ _=>⟨[_],_,rfl,QY,⟨[_,_,_],_,rfl,⟨[_],_,rfl,QY,⟨[_],_,rfl,⟨rfl,by decide⟩,⟨rfl,by decide⟩⟩⟩,⟨[_,_,_],_,rfl,⟨[_],_,rfl,QY,⟨[_],_,rfl,⟨rfl,by decide⟩,⟨rfl,by decide⟩⟩⟩,⟨[_],_,rfl,⟨none,0,rfl,Nat.le_refl _,by decide,rfl⟩,⟨[_],_,rfl,QY,QY⟩⟩⟩⟩⟩⟩
theorem Yc:yc Tryz.prog 44 0 0:=⟨_,_,Tryz.underlying44,rfl,rfl,by kernel_rfl⟩
theorem Yj:zg zJ Str 0 zJ.Id:=⟨by decide,fun M x cs w h=>(zg.fst zg.self).2 M _ cs w h⟩
theorem Yd:yc Tryz.prog 44 1 1:=⟨_,_,Tryz.underlying44,rfl,rfl,by kernel_rfl⟩
theorem Yk:zg zJ yx 1 zJ.From:=⟨by decide,fun M x cs w h=>(zg.snd (zg.fst zg.self)).2 M _ cs w h⟩
theorem qJ:Ty Tryz.prog 41 yx:=⟨⟨_,Tryz.underlying41,rfl⟩,by kernel_rfl⟩
theorem Ye:yc Tryz.prog 44 2 4:=⟨_,_,Tryz.underlying44,rfl,rfl,by kernel_rfl⟩
theorem Yl:zg zJ yx 4 zJ.To:=⟨by decide,fun M x cs w h=>(zg.snd (zg.snd (zg.fst zg.self))).2 M _ cs w h⟩
theorem zbi:yY Tryz.prog 134 41:=Tryz.underlying134
theorem zi9:qp Tryz.prog 41:=by unfold qp;kernel_rfl
theorem zlr:yT Tryz.prog 41 (⟨Str.nil,(0:Int),(0:Int)⟩:yx):=⟨[.string ByteArray.empty,.int .i64 0,.int .i64 0],by kernel_rfl,fun _ _=>⟨[_],_,rfl,QY,⟨[_],_,rfl,⟨rfl,by decide⟩,⟨rfl,by decide⟩⟩⟩⟩
theorem zdk:yc Tryz.prog 41 0 0:=⟨_,_,Tryz.underlying41,rfl,rfl,by kernel_rfl⟩
theorem zbW:zg yx Str 0 yx.Node:=⟨by decide,fun M x cs w h=>(zg.fst zg.self).2 M _ cs w h⟩
theorem Yb:yc Tryz.prog 41 1 1:=⟨_,_,Tryz.underlying41,rfl,rfl,by kernel_rfl⟩
theorem QI:zg yx Int 1 yx.Side:=⟨by decide,fun M x cs w h=>(zg.snd (zg.fst zg.self)).2 M _ cs w h⟩
theorem zbM:yc Tryz.prog 41 2 2:=⟨_,_,Tryz.underlying41,rfl,rfl,by kernel_rfl⟩
theorem zaA:zg yx Int 2 yx.At:=⟨by decide,fun M x cs w h=>(zg.snd (zg.snd zg.self)).2 M _ cs w h⟩
theorem vp:yc Tryz.prog 44 3 7:=⟨_,_,Tryz.underlying44,rfl,rfl,by kernel_rfl⟩
theorem Qk:zg zJ (List zd) 7 zJ.Bends:=⟨by decide,fun M x cs w h=>(zg.snd (zg.snd (zg.snd (zg.fst zg.self)))).2 M _ cs w h⟩
theorem vA:Ty Tryz.prog 42 (List zd):=⟨⟨_,Tryz.underlying42,rfl⟩,by kernel_rfl⟩
theorem zY:yY Tryz.prog 42 46:=Tryz.underlying42
theorem zw:Ty Tryz.prog 46 zd:=⟨⟨_,Tryz.underlying46,rfl⟩,by kernel_rfl⟩
theorem yG:yT Tryz.prog 46 (⟨(0:Int),(0:Int)⟩:zd):=⟨[.int .i64 0,.int .i64 0],by kernel_rfl,fun _ _=>⟨[_],_,rfl,⟨rfl,by decide⟩,⟨rfl,by decide⟩⟩⟩
theorem yt:yc Tryz.prog 46 0 0:=⟨_,_,Tryz.underlying46,rfl,rfl,by kernel_rfl⟩
theorem yu:zg zd Int 0 zd.X:=⟨by decide,fun M x cs w h=>(zg.fst zg.self).2 M _ cs w h⟩
theorem yV:yc Tryz.prog 46 1 1:=⟨_,_,Tryz.underlying46,rfl,rfl,by kernel_rfl⟩
theorem yW:zg zd Int 1 zd.Y:=⟨by decide,fun M x cs w h=>(zg.snd zg.self).2 M _ cs w h⟩
theorem zdl:yc Tryz.prog 44 4 8:=⟨_,_,Tryz.underlying44,rfl,rfl,by kernel_rfl⟩
theorem zdD:zg zJ Str 8 zJ.Text:=⟨by decide,fun M x cs w h=>(zg.snd (zg.snd (zg.snd (zg.snd (zg.fst zg.self))))).2 M _ cs w h⟩
theorem zbN:yc Tryz.prog 44 5 9:=⟨_,_,Tryz.underlying44,rfl,rfl,by kernel_rfl⟩
theorem zbX:zg zJ Str 9 zJ.Class:=⟨by decide,fun M x cs w h=>(zg.snd (zg.snd (zg.snd (zg.snd (zg.snd zg.self))))).2 M _ cs w h⟩
theorem q8:yT Tryz.prog 30 (⟨(0:Int),(0:Int),(0:Int),(0:Int)⟩:Box):=⟨[.int .i64 0,.int .i64 0,.int .i64 0,.int .i64 0],by kernel_rfl,fun _ _=>⟨[_],_,rfl,⟨rfl,by decide⟩,⟨[_],_,rfl,⟨rfl,by decide⟩,⟨[_],_,rfl,⟨rfl,by decide⟩,⟨rfl,by decide⟩⟩⟩⟩⟩
theorem y5:yY Tryz.prog 47 30:=Tryz.underlying47
theorem zdF:qp Tryz.prog 30:=by unfold qp;kernel_rfl
theorem zeE:js Tryz.prog 47 30 Box:=⟨y5,zK,by kernel_rfl⟩
theorem zeP:zu Box Int 3 (fun x z=>{ x with H:=z }):=⟨by decide,fun M x z cs zs w h hz=>(zu.snd (zu.snd (zu.snd zu.self))).2 M _ z cs zs w h hz⟩
theorem zeO:zu Box Int 2 (fun x z=>{ x with W_:=z }):=⟨by decide,fun M x z cs zs w h hz=>(zu.snd (zu.snd (zu.fst zu.self))).2 M _ z cs zs w h hz⟩
theorem zeN:zu Box Int 1 (fun x z=>{ x with Y:=z }):=⟨by decide,fun M x z cs zs w h hz=>(zu.snd (zu.fst zu.self)).2 M _ z cs zs w h hz⟩
theorem zeM:zu Box Int 0 (fun x z=>{ x with X:=z }):=⟨by decide,fun M x z cs zs w h hz=>(zu.fst zu.self).2 M _ z cs zs w h hz⟩
theorem zbF:jy Tryz.prog 25 [.slice none 0 0,.slice none 0 0] [(0,1),(1,1)]:=⟨by kernel_rfl,_,Tryz.underlying25,by kernel_rfl⟩
theorem zcX:∀(M:zp) (w:World),Rep.cells M (⟨([]:(List zm)),([]:(List zJ))⟩:Doc) [.slice none 0 0,.slice none 0 0] w:=fun _ _=>⟨[_],_,rfl,⟨none,0,rfl,Nat.le_refl _,by decide,rfl⟩,⟨none,0,rfl,Nat.le_refl _,by decide,rfl⟩⟩
theorem zr6:yT Tryz.prog 60 (⟨.map none⟩:Raw):=⟨[.map none],by kernel_rfl,fun _ _=>⟨rfl,rfl,rfl⟩⟩
theorem zlf:Ty Tryz.prog 60 (GMap Str zm):=⟨⟨_,Tryz.underlying60,rfl⟩,by kernel_rfl⟩
theorem zrE:Ty Tryz.prog 60 Raw:=⟨⟨_,Tryz.underlying60,rfl⟩,by kernel_rfl⟩
theorem zjy:jB Tryz.prog 60 9 32 (MKey.desc Str):=⟨Tryz.underlying60,Tryz.underlying9⟩
theorem znt:yb Tryz.prog 22:=⟨_,Tryz.func22,by kernel_rfl,by kernel_rfl⟩
theorem qe:jy Tryz.prog 46 [.int .i64 0,.int .i64 0] [(0,1),(1,1)]:=⟨by kernel_rfl,_,Tryz.underlying46,by kernel_rfl⟩
theorem qh:∀(M:zp) (w:World),Rep.cells M (⟨(0:Int),(0:Int)⟩:zd) [.int .i64 0,.int .i64 0] w:=fun _ _=>⟨[_],_,rfl,⟨rfl,by decide⟩,⟨rfl,by decide⟩⟩
theorem qV:zu zd Int 1 (fun x z=>{ x with Y:=z }):=⟨by decide,fun M x z cs zs w h hz=>(zu.snd zu.self).2 M _ z cs zs w h hz⟩
theorem qS:zu zd Int 0 (fun x z=>{ x with X:=z }):=⟨by decide,fun M x z cs zs w h hz=>(zu.fst zu.self).2 M _ z cs zs w h hz⟩
theorem znA:yb Tryz.prog 58:=⟨_,Tryz.func58,by kernel_rfl,by kernel_rfl⟩
theorem zr2:yT Tryz.prog 108 (⟨.nilFunc⟩:Raw):=⟨[.nilFunc],by kernel_rfl,fun _ _=>⟨rfl,rfl,rfl⟩⟩
theorem zhy:Ty Tryz.prog 108 Raw:=⟨⟨_,Tryz.underlying108,rfl⟩,by kernel_rfl⟩
theorem znB:yb Tryz.prog 61:=⟨_,Tryz.func61,by kernel_rfl,by kernel_rfl⟩
theorem znC:yb Tryz.prog 62:=⟨_,Tryz.func62,by kernel_rfl,by kernel_rfl⟩
theorem zi8:qp Tryz.prog 32:=by unfold qp;kernel_rfl
theorem zkk:js Tryz.prog 22 32 zm:=⟨z7,zR,by kernel_rfl⟩
theorem zgb:qp Tryz.prog 44:=by unfold qp;kernel_rfl
theorem zqh:js Tryz.prog 23 44 zJ:=⟨qk,yP,by kernel_rfl⟩
theorem zqU:zu Doc (List zm) 0 (fun x z=>{ x with Nodes:=z }):=⟨by decide,fun M x z cs zs w h hz=>(zu.fst zu.self).2 M _ z cs zs w h hz⟩
theorem zi4:zg YE Raw 1 YE.Edges:=⟨by decide,fun M x cs w h=>(zg.snd zg.self).2 M _ cs w h⟩
theorem zrn:zu YE Raw 1 (fun x z=>{ x with Edges:=z }):=⟨by decide,fun M x z cs zs w h hz=>(zu.snd zu.self).2 M _ z cs zs w h hz⟩
theorem zk9:Ty Tryz.prog 23 Raw:=⟨⟨_,Tryz.underlying23,rfl⟩,by kernel_rfl⟩
theorem zkO:zu zA Int 7 (fun x z=>{ x with Clear:=z }):=⟨by decide,fun M x z cs zs w h hz=>(zu.snd (zu.snd (zu.snd (zu.snd (zu.snd zu.self))))).2 M _ z cs zs w h hz⟩
theorem zqW:zu zA (List Box) 6 (fun x z=>{ x with Walls:=z }):=⟨by decide,fun M x z cs zs w h hz=>(zu.snd (zu.snd (zu.snd (zu.snd (zu.fst zu.self))))).2 M _ z cs zs w h hz⟩
theorem zkN:zu zA Int 5 (fun x z=>{ x with ToSide:=z }):=⟨by decide,fun M x z cs zs w h hz=>(zu.snd (zu.snd (zu.snd (zu.fst zu.self)))).2 M _ z cs zs w h hz⟩
theorem zkM:zu zA zd 3 (fun x z=>{ x with To:=z }):=⟨by decide,fun M x z cs zs w h hz=>(zu.snd (zu.snd (zu.fst zu.self))).2 M _ z cs zs w h hz⟩
theorem zkL:zu zA Int 2 (fun x z=>{ x with FromSide:=z }):=⟨by decide,fun M x z cs zs w h hz=>(zu.snd (zu.fst zu.self)).2 M _ z cs zs w h hz⟩
theorem zqV:zu zA zd 0 (fun x z=>{ x with From:=z }):=⟨by decide,fun M x z cs zs w h hz=>(zu.fst zu.self).2 M _ z cs zs w h hz⟩
theorem zdd:jy Tryz.prog 49 [.int .i64 0,.int .i64 0,.int .i64 0,.int .i64 0,.int .i64 0,.int .i64 0,.slice none 0 0,.int .i64 0] [(0,2),(2,1),(3,2),(5,1),(6,1),(7,1)]:=⟨by kernel_rfl,_,Tryz.underlying49,by kernel_rfl⟩
theorem zhG:∀(M:zp) (w:World),Rep.cells M (⟨(⟨(0:Int),(0:Int)⟩:zd),(0:Int),(⟨(0:Int),(0:Int)⟩:zd),(0:Int),([]:(List Box)),(0:Int)⟩:zA) [.int .i64 0,.int .i64 0,.int .i64 0,.int .i64 0,.int .i64 0,.int .i64 0,.slice none 0 0,.int .i64 0] w:=fun _ _=>⟨[_,_],_,rfl,⟨[_],_,rfl,⟨rfl,by decide⟩,⟨rfl,by decide⟩⟩,⟨[_],_,rfl,⟨rfl,by decide⟩,⟨[_,_],_,rfl,⟨[_],_,rfl,⟨rfl,by decide⟩,⟨rfl,by decide⟩⟩,⟨[_],_,rfl,⟨rfl,by decide⟩,⟨[_],_,rfl,⟨none,0,rfl,Nat.le_refl _,by decide,rfl⟩,⟨rfl,by decide⟩⟩⟩⟩⟩⟩
theorem qn:Ty Tryz.prog 49 zA:=⟨⟨_,Tryz.underlying49,rfl⟩,by kernel_rfl⟩
theorem znu:yb Tryz.prog 32:=⟨_,Tryz.func32,by kernel_rfl,by kernel_rfl⟩
theorem zat:yc Tryz.prog 49 0 0:=⟨_,_,Tryz.underlying49,rfl,rfl,by kernel_rfl⟩
theorem zaB:zg zA zd 0 zA.From:=⟨by decide,fun M x cs w h=>(zg.fst zg.self).2 M _ cs w h⟩
theorem Jw:yc Tryz.prog 49 1 2:=⟨_,_,Tryz.underlying49,rfl,rfl,by kernel_rfl⟩
theorem JB:zg zA Int 2 zA.FromSide:=⟨by decide,fun M x cs w h=>(zg.snd (zg.fst zg.self)).2 M _ cs w h⟩
theorem zkG:zu qT Int 2 (fun x z=>{ x with side:=z }):=⟨by decide,fun M x z cs zs w h hz=>(zu.snd zu.self).2 M _ z cs zs w h hz⟩
theorem zkF:zu qT zd 0 (fun x z=>{ x with p:=z }):=⟨by decide,fun M x z cs zs w h hz=>(zu.fst zu.self).2 M _ z cs zs w h hz⟩
theorem zh5:jy Tryz.prog 138 [.int .i64 0,.int .i64 0,.int .i64 0] [(0,2),(2,1)]:=⟨by kernel_rfl,_,Tryz.underlying138,by kernel_rfl⟩
theorem zll:∀(M:zp) (w:World),Rep.cells M (⟨(⟨(0:Int),(0:Int)⟩:zd),(0:Int)⟩:qT) [.int .i64 0,.int .i64 0,.int .i64 0] w:=fun _ _=>⟨[_,_],_,rfl,⟨[_],_,rfl,⟨rfl,by decide⟩,⟨rfl,by decide⟩⟩,⟨rfl,by decide⟩⟩
theorem zau:yc Tryz.prog 49 2 3:=⟨_,_,Tryz.underlying49,rfl,rfl,by kernel_rfl⟩
theorem zaC:zg zA zd 3 zA.To:=⟨by decide,fun M x cs w h=>(zg.snd (zg.snd (zg.fst zg.self))).2 M _ cs w h⟩
theorem YM:yc Tryz.prog 49 3 5:=⟨_,_,Tryz.underlying49,rfl,rfl,by kernel_rfl⟩
theorem YP:zg zA Int 5 zA.ToSide:=⟨by decide,fun M x cs w h=>(zg.snd (zg.snd (zg.snd (zg.fst zg.self)))).2 M _ cs w h⟩
theorem zhi:yY Tryz.prog 139 138:=Tryz.underlying139
theorem ze0:Ty Tryz.prog 138 qT:=⟨⟨_,Tryz.underlying138,rfl⟩,by kernel_rfl⟩
theorem zoi:qp Tryz.prog 138:=by unfold qp;kernel_rfl
theorem zr0:yT Tryz.prog 138 (⟨(⟨(0:Int),(0:Int)⟩:zd),(0:Int)⟩:qT):=⟨[.int .i64 0,.int .i64 0,.int .i64 0],by kernel_rfl,fun _ _=>⟨[_,_],_,rfl,⟨[_],_,rfl,⟨rfl,by decide⟩,⟨rfl,by decide⟩⟩,⟨rfl,by decide⟩⟩⟩
theorem znb:yc Tryz.prog 138 0 0:=⟨_,_,Tryz.underlying138,rfl,rfl,by kernel_rfl⟩
theorem zn9:zg qT zd 0 qT.p:=⟨by decide,fun M x cs w h=>(zg.fst zg.self).2 M _ cs w h⟩
theorem znc:yc Tryz.prog 138 1 2:=⟨_,_,Tryz.underlying138,rfl,rfl,by kernel_rfl⟩
theorem zoa:zg qT Int 2 qT.side:=⟨by decide,fun M x cs w h=>(zg.snd zg.self).2 M _ cs w h⟩
theorem Yf:yc Tryz.prog 49 4 6:=⟨_,_,Tryz.underlying49,rfl,rfl,by kernel_rfl⟩
theorem JC:zg zA (List Box) 6 zA.Walls:=⟨by decide,fun M x cs w h=>(zg.snd (zg.snd (zg.snd (zg.snd (zg.fst zg.self))))).2 M _ cs w h⟩
theorem Jj:Ty Tryz.prog 47 (List Box):=⟨⟨_,Tryz.underlying47,rfl⟩,by kernel_rfl⟩
theorem qF:yc Tryz.prog 49 5 7:=⟨_,_,Tryz.underlying49,rfl,rfl,by kernel_rfl⟩
theorem qG:zg zA Int 7 zA.Clear:=⟨by decide,fun M x cs w h=>(zg.snd (zg.snd (zg.snd (zg.snd (zg.snd zg.self))))).2 M _ cs w h⟩
theorem zhX:zbu Tryz.prog 184 4 46:=Tryz.underlying184
theorem zmj:zbv Tryz.prog 184 ((4+1)*Rep.sz zd):=by unfold zbv;kernel_rfl
theorem zqT:zu zV Int 3 (fun x z=>{ x with bottom:=z }):=⟨by decide,fun M x z cs zs w h hz=>(zu.snd (zu.snd (zu.snd zu.self))).2 M _ z cs zs w h hz⟩
theorem zqS:zu zV Int 2 (fun x z=>{ x with right:=z }):=⟨by decide,fun M x z cs zs w h hz=>(zu.snd (zu.snd (zu.fst zu.self))).2 M _ z cs zs w h hz⟩
theorem zqR:zu zV Int 1 (fun x z=>{ x with top:=z }):=⟨by decide,fun M x z cs zs w h hz=>(zu.snd (zu.fst zu.self)).2 M _ z cs zs w h hz⟩
theorem zqQ:zu zV Int 0 (fun x z=>{ x with left:=z }):=⟨by decide,fun M x z cs zs w h hz=>(zu.fst zu.self).2 M _ z cs zs w h hz⟩
theorem zmx:jy Tryz.prog 156 [.int .i64 0,.int .i64 0,.int .i64 0,.int .i64 0] [(0,1),(1,1),(2,1),(3,1)]:=⟨by kernel_rfl,_,Tryz.underlying156,by kernel_rfl⟩
theorem zrZ:∀(M:zp) (w:World),Rep.cells M (⟨(0:Int),(0:Int),(0:Int),(0:Int)⟩:zV) [.int .i64 0,.int .i64 0,.int .i64 0,.int .i64 0] w:=fun _ _=>⟨[_],_,rfl,⟨rfl,by decide⟩,⟨[_],_,rfl,⟨rfl,by decide⟩,⟨[_],_,rfl,⟨rfl,by decide⟩,⟨rfl,by decide⟩⟩⟩⟩
theorem Je:yY Tryz.prog 110 156:=Tryz.underlying110
theorem Q0:Ty Tryz.prog 156 zV:=⟨⟨_,Tryz.underlying156,rfl⟩,by kernel_rfl⟩
theorem zoj:qp Tryz.prog 156:=by unfold qp;kernel_rfl
theorem zqd:js Tryz.prog 110 156 zV:=⟨Je,Q0,by kernel_rfl⟩
theorem znD:yb Tryz.prog 65:=⟨_,Tryz.func65,by kernel_rfl,by kernel_rfl⟩
theorem znk:yb Tryz.prog 109:=⟨_,Tryz.func109,by kernel_rfl,by kernel_rfl⟩
theorem zfM:yc Tryz.prog 156 0 0:=⟨_,_,Tryz.underlying156,rfl,rfl,by kernel_rfl⟩
theorem zf3:zg zV Int 0 zV.left:=⟨by decide,fun M x cs w h=>(zg.fst zg.self).2 M _ cs w h⟩
theorem zfO:yc Tryz.prog 156 2 2:=⟨_,_,Tryz.underlying156,rfl,rfl,by kernel_rfl⟩
theorem zf5:zg zV Int 2 zV.right:=⟨by decide,fun M x cs w h=>(zg.snd (zg.snd (zg.fst zg.self))).2 M _ cs w h⟩
theorem zfN:yc Tryz.prog 156 1 1:=⟨_,_,Tryz.underlying156,rfl,rfl,by kernel_rfl⟩
theorem zf4:zg zV Int 1 zV.top:=⟨by decide,fun M x cs w h=>(zg.snd (zg.fst zg.self)).2 M _ cs w h⟩
theorem zfP:yc Tryz.prog 156 3 3:=⟨_,_,Tryz.underlying156,rfl,rfl,by kernel_rfl⟩
theorem zf6:zg zV Int 3 zV.bottom:=⟨by decide,fun M x cs w h=>(zg.snd (zg.snd (zg.snd zg.self))).2 M _ cs w h⟩
theorem zmv:jy Tryz.prog 124 [.slice none 0 0,.slice none 0 0,.slice none 0 0,.slice none 0 0] [(0,1),(1,1),(2,1),(3,1)]:=⟨by kernel_rfl,_,Tryz.underlying124,by kernel_rfl⟩
theorem zrY:∀(M:zp) (w:World),Rep.cells M (⟨([]:(List Int)),([]:(List Int)),([]:(List Bool)),([]:(List Bool))⟩:yd) [.slice none 0 0,.slice none 0 0,.slice none 0 0,.slice none 0 0] w:=fun _ _=>⟨[_],_,rfl,⟨none,0,rfl,Nat.le_refl _,by decide,rfl⟩,⟨[_],_,rfl,⟨none,0,rfl,Nat.le_refl _,by decide,rfl⟩,⟨[_],_,rfl,⟨none,0,rfl,Nat.le_refl _,by decide,rfl⟩,⟨none,0,rfl,Nat.le_refl _,by decide,rfl⟩⟩⟩⟩
theorem zlp:yT Tryz.prog 156 (⟨(0:Int),(0:Int),(0:Int),(0:Int)⟩:zV):=⟨[.int .i64 0,.int .i64 0,.int .i64 0,.int .i64 0],by kernel_rfl,fun _ _=>⟨[_],_,rfl,⟨rfl,by decide⟩,⟨[_],_,rfl,⟨rfl,by decide⟩,⟨[_],_,rfl,⟨rfl,by decide⟩,⟨rfl,by decide⟩⟩⟩⟩⟩
theorem vo:yc Tryz.prog 124 0 0:=⟨_,_,Tryz.underlying124,rfl,rfl,by kernel_rfl⟩
theorem Qi:zg yd (List Int) 0 yd.xs:=⟨by decide,fun M x cs w h=>(zg.fst zg.self).2 M _ cs w h⟩
theorem y6:Ty Tryz.prog 79 (List Int):=⟨⟨_,Tryz.underlying79,rfl⟩,by kernel_rfl⟩
theorem zqO:zu yd (List Int) 0 (fun x z=>{ x with xs:=z }):=⟨by decide,fun M x z cs zs w h hz=>(zu.fst zu.self).2 M _ z cs zs w h hz⟩
theorem Qf:yc Tryz.prog 124 1 1:=⟨_,_,Tryz.underlying124,rfl,rfl,by kernel_rfl⟩
theorem Yh:zg yd (List Int) 1 yd.ys:=⟨by decide,fun M x cs w h=>(zg.snd (zg.fst zg.self)).2 M _ cs w h⟩
theorem zqP:zu yd (List Int) 1 (fun x z=>{ x with ys:=z }):=⟨by decide,fun M x z cs zs w h hz=>(zu.snd (zu.fst zu.self)).2 M _ z cs zs w h hz⟩
theorem vU:yY Tryz.prog 122 4:=Tryz.underlying122
theorem ty4:Ty Tryz.prog 4 Bool:=⟨⟨_,Tryz.underlying4,rfl⟩,by kernel_rfl⟩
theorem zeD:js Tryz.prog 122 4 Bool:=⟨vU,ty4,by kernel_rfl⟩
theorem zbL:yc Tryz.prog 124 2 2:=⟨_,_,Tryz.underlying124,rfl,rfl,by kernel_rfl⟩
theorem zn7:zg yd (List Bool) 2 yd.across:=⟨by decide,fun M x cs w h=>(zg.snd (zg.snd (zg.fst zg.self))).2 M _ cs w h⟩
theorem zrs:zu zbA Raw 2 (fun x z=>{ x with across:=z }):=⟨by decide,fun M x z cs zs w h hz=>(zu.snd (zu.snd (zu.fst zu.self))).2 M _ z cs zs w h hz⟩
theorem zcW:Ty Tryz.prog 122 (List Bool):=⟨⟨_,Tryz.underlying122,rfl⟩,by kernel_rfl⟩
theorem zdh:yc Tryz.prog 124 3 3:=⟨_,_,Tryz.underlying124,rfl,rfl,by kernel_rfl⟩
theorem zn8:zg yd (List Bool) 3 yd.down:=⟨by decide,fun M x cs w h=>(zg.snd (zg.snd (zg.snd zg.self))).2 M _ cs w h⟩
theorem zi6:zg jO Raw 3 jO.down:=⟨by decide,fun M x cs w h=>(zg.snd (zg.snd (zg.snd zg.self))).2 M _ cs w h⟩
theorem zrr:zu jO Raw 3 (fun x z=>{ x with down:=z }):=⟨by decide,fun M x z cs zs w h hz=>(zu.snd (zu.snd (zu.snd zu.self))).2 M _ z cs zs w h hz⟩
theorem zac:Ty Tryz.prog 122 Raw:=⟨⟨_,Tryz.underlying122,rfl⟩,by kernel_rfl⟩
theorem zga:zg jO Raw 2 jO.across:=⟨by decide,fun M x cs w h=>(zg.snd (zg.snd (zg.fst zg.self))).2 M _ cs w h⟩
theorem znl:yb Tryz.prog 111:=⟨_,Tryz.func111,by kernel_rfl,by kernel_rfl⟩
theorem zbs:yT Tryz.prog 159 (⟨List.replicate 2 (0:Int)⟩:(Arr 1 Int)):=⟨[.int .i64 0,.int .i64 0],by kernel_rfl,fun _ _=>⟨rfl,⟨[_],_,rfl,⟨rfl,by decide⟩,⟨[_],_,rfl,⟨rfl,by decide⟩,rfl⟩⟩⟩⟩
theorem zno:yb Tryz.prog 127:=⟨_,Tryz.func127,by kernel_rfl,by kernel_rfl⟩
theorem ziL:yb Tryz.prog 91:=⟨_,Tryz.func91,by kernel_rfl,by kernel_rfl⟩
theorem QA:zbu Tryz.prog 159 1 3:=Tryz.underlying159
theorem zhZ:zbv Tryz.prog 159 ((1+1)*Rep.sz Int):=by unfold zbv;kernel_rfl
theorem Ji:Ty Tryz.prog 159 (Arr 1 Int):=⟨⟨_,Tryz.underlying159,rfl⟩,by kernel_rfl⟩
theorem zof:zg jO (List Int) 1 jO.ys:=⟨by decide,fun M x cs w h=>(zg.snd (zg.fst zg.self)).2 M _ cs w h⟩
theorem zoe:zg jO (List Int) 0 jO.xs:=⟨by decide,fun M x cs w h=>(zg.fst zg.self).2 M _ cs w h⟩
theorem zhH:yT Tryz.prog 119 (⟨(0:Int),(0:Int),(0:Int)⟩:zt):=⟨[.int .i64 0,.int .i64 0,.int .i64 0],by kernel_rfl,fun _ _=>⟨[_],_,rfl,⟨rfl,by decide⟩,⟨[_],_,rfl,⟨rfl,by decide⟩,⟨rfl,by decide⟩⟩⟩⟩
theorem zkE:zu zt Int 2 (fun x z=>{ x with side:=z }):=⟨by decide,fun M x z cs zs w h hz=>(zu.snd (zu.snd zu.self)).2 M _ z cs zs w h hz⟩
theorem zkD:zu zt Int 1 (fun x z=>{ x with y:=z }):=⟨by decide,fun M x z cs zs w h hz=>(zu.snd (zu.fst zu.self)).2 M _ z cs zs w h hz⟩
theorem zkC:zu zt Int 0 (fun x z=>{ x with x:=z }):=⟨by decide,fun M x z cs zs w h hz=>(zu.fst zu.self).2 M _ z cs zs w h hz⟩
theorem zh4:jy Tryz.prog 119 [.int .i64 0,.int .i64 0,.int .i64 0] [(0,1),(1,1),(2,1)]:=⟨by kernel_rfl,_,Tryz.underlying119,by kernel_rfl⟩
theorem zlk:∀(M:zp) (w:World),Rep.cells M (⟨(0:Int),(0:Int),(0:Int)⟩:zt) [.int .i64 0,.int .i64 0,.int .i64 0] w:=fun _ _=>⟨[_],_,rfl,⟨rfl,by decide⟩,⟨[_],_,rfl,⟨rfl,by decide⟩,⟨rfl,by decide⟩⟩⟩
theorem yO:Ty Tryz.prog 119 zt:=⟨⟨_,Tryz.underlying119,rfl⟩,by kernel_rfl⟩
theorem znE:yb Tryz.prog 69:=⟨_,Tryz.func69,by kernel_rfl,by kernel_rfl⟩
theorem zcV:Ty Tryz.prog 113 (Option yd):=⟨⟨_,Tryz.underlying113,rfl⟩,by kernel_rfl⟩
theorem YC:yY Tryz.prog 162 166:=Tryz.underlying162
theorem qa:Ty Tryz.prog 166 zF:=⟨⟨_,Tryz.underlying166,rfl⟩,by kernel_rfl⟩
theorem zqf:js Tryz.prog 162 166 zF:=⟨YC,qa,by kernel_rfl⟩
theorem zhI:yT Tryz.prog 166 (⟨(⟨(0:Int),(0:Int),(0:Int)⟩:zt),(0:Int),(0:Int)⟩:zF):=⟨[.int .i64 0,.int .i64 0,.int .i64 0,.int .i64 0,.int .i64 0],by kernel_rfl,fun _ _=>⟨[_,_,_],_,rfl,⟨[_],_,rfl,⟨rfl,by decide⟩,⟨[_],_,rfl,⟨rfl,by decide⟩,⟨rfl,by decide⟩⟩⟩,⟨[_],_,rfl,⟨rfl,by decide⟩,⟨rfl,by decide⟩⟩⟩⟩
theorem zr4:yT Tryz.prog 162 (⟨.slice none 0 0⟩:Raw):=⟨[.slice none 0 0],by kernel_rfl,fun _ _=>⟨rfl,rfl,rfl⟩⟩
theorem zrM:Ty Tryz.prog 162 (List zF):=⟨⟨_,Tryz.underlying162,rfl⟩,by kernel_rfl⟩
theorem Jh:Ty Tryz.prog 162 Raw:=⟨⟨_,Tryz.underlying162,rfl⟩,by kernel_rfl⟩
theorem zr7:yT Tryz.prog 79 (⟨.slice none 0 0⟩:Raw):=⟨[.slice none 0 0],by kernel_rfl,fun _ _=>⟨rfl,rfl,rfl⟩⟩
theorem zr3:yT Tryz.prog 122 (⟨.slice none 0 0⟩:Raw):=⟨[.slice none 0 0],by kernel_rfl,fun _ _=>⟨rfl,rfl,rfl⟩⟩
theorem jq:yY Tryz.prog 164 166:=Tryz.underlying164
theorem zi7:qp Tryz.prog 166:=by unfold qp;kernel_rfl
theorem zr5:yT Tryz.prog 163 (⟨.pointer none⟩:Raw):=⟨[.pointer none],by kernel_rfl,fun _ _=>⟨rfl,rfl,rfl⟩⟩
theorem zeY:Ty Tryz.prog 163 Raw:=⟨⟨_,Tryz.underlying163,rfl⟩,by kernel_rfl⟩
theorem zhd:zu zF zt 0 (fun x z=>{ x with spot:=z }):=⟨by decide,fun M x z cs zs w h hz=>(zu.fst zu.self).2 M _ z cs zs w h hz⟩
theorem zfq:jy Tryz.prog 166 [.int .i64 0,.int .i64 0,.int .i64 0,.int .i64 0,.int .i64 0] [(0,3),(3,1),(4,1)]:=⟨by kernel_rfl,_,Tryz.underlying166,by kernel_rfl⟩
theorem zhF:∀(M:zp) (w:World),Rep.cells M (⟨(⟨(0:Int),(0:Int),(0:Int)⟩:zt),(0:Int),(0:Int)⟩:zF) [.int .i64 0,.int .i64 0,.int .i64 0,.int .i64 0,.int .i64 0] w:=fun _ _=>⟨[_,_,_],_,rfl,⟨[_],_,rfl,⟨rfl,by decide⟩,⟨[_],_,rfl,⟨rfl,by decide⟩,⟨rfl,by decide⟩⟩⟩,⟨[_],_,rfl,⟨rfl,by decide⟩,⟨rfl,by decide⟩⟩⟩
theorem QB:yc Tryz.prog 166 0 0:=⟨_,_,Tryz.underlying166,rfl,rfl,by kernel_rfl⟩
theorem QG:zg zF zt 0 zF.spot:=⟨by decide,fun M x cs w h=>(zg.fst zg.self).2 M _ cs w h⟩
theorem vn:yc Tryz.prog 119 1 1:=⟨_,_,Tryz.underlying119,rfl,rfl,by kernel_rfl⟩
theorem vt:zg zt Int 1 zt.y:=⟨by decide,fun M x cs w h=>(zg.snd (zg.fst zg.self)).2 M _ cs w h⟩
theorem vm:yc Tryz.prog 119 0 0:=⟨_,_,Tryz.underlying119,rfl,rfl,by kernel_rfl⟩
theorem vr:zg zt Int 0 zt.x:=⟨by decide,fun M x cs w h=>(zg.fst zg.self).2 M _ cs w h⟩
theorem Jv:yc Tryz.prog 119 2 2:=⟨_,_,Tryz.underlying119,rfl,rfl,by kernel_rfl⟩
theorem JA:zg zt Int 2 zt.side:=⟨by decide,fun M x cs w h=>(zg.snd (zg.snd zg.self)).2 M _ cs w h⟩
theorem QC:yc Tryz.prog 166 1 3:=⟨_,_,Tryz.underlying166,rfl,rfl,by kernel_rfl⟩
theorem QH:zg zF Int 3 zF.bends:=⟨by decide,fun M x cs w h=>(zg.snd (zg.fst zg.self)).2 M _ cs w h⟩
theorem zas:yc Tryz.prog 166 2 4:=⟨_,_,Tryz.underlying166,rfl,rfl,by kernel_rfl⟩
theorem zaz:zg zF Int 4 zF.long:=⟨by decide,fun M x cs w h=>(zg.snd (zg.snd zg.self)).2 M _ cs w h⟩
theorem zla:Ty Tryz.prog 79 Raw:=⟨⟨_,Tryz.underlying79,rfl⟩,by kernel_rfl⟩
theorem zjE:YG Tryz.prog 163:=by unfold YG;kernel_rfl
theorem zdV:YG Tryz.prog 166:=by unfold YG;kernel_rfl
theorem zoP:jg Tryz.prog 163 "Push" 193 true:=by unfold jg;kernel_rfl
theorem Qw:Ty Tryz.prog 164 Raw:=⟨⟨_,Tryz.underlying164,rfl⟩,by kernel_rfl⟩
theorem zqg:js Tryz.prog 164 166 zF:=⟨jq,qa,by kernel_rfl⟩
theorem zle:Ty Tryz.prog 164 (List zF):=⟨⟨_,Tryz.underlying164,rfl⟩,by kernel_rfl⟩
theorem zjs:jg Tryz.prog 163 "Len" 115 false:=by unfold jg;kernel_rfl
theorem zfV:yb Tryz.prog 115:=⟨_,Tryz.func115,by kernel_rfl,by kernel_rfl⟩
theorem zgr:jg Tryz.prog 163 "Less" 191 false:=by unfold jg;kernel_rfl
theorem zfW:yb Tryz.prog 191:=⟨_,Tryz.func191,by kernel_rfl,by kernel_rfl⟩
theorem zgs:jg Tryz.prog 163 "Swap" 194 false:=by unfold jg;kernel_rfl
theorem zoO:jg Tryz.prog 163 "Pop" 192 true:=by unfold jg;kernel_rfl
theorem zmU:DB.EqAt Tryz.prog 119 zt:=zfI (n:=3) (fun p=>[p.x,p.y,p.side]) (fun a b=>by cases a;cases b;simp) (fun _=>rfl) (fun M v w a h=>by obtain⟨cs,h,rfl⟩:=h;obtain⟨_,_,rfl,⟨rfl,_⟩,⟨_,_,rfl,⟨rfl,_⟩,⟨rfl,_⟩⟩⟩:=h;rfl) ⟨by kernel_rfl,by kernel_rfl,by kernel_rfl,by kernel_rfl⟩
theorem vT:yY Tryz.prog 115 119:=Tryz.underlying115
theorem zoh:qp Tryz.prog 119:=by unfold qp;kernel_rfl
theorem zqe:js Tryz.prog 115 119 zt:=⟨vT,yO,by kernel_rfl⟩
theorem zkI:zu zF Int 4 (fun x z=>{ x with long:=z }):=⟨by decide,fun M x z cs zs w h hz=>(zu.snd (zu.snd zu.self)).2 M _ z cs zs w h hz⟩
theorem zkH:zu zF Int 3 (fun x z=>{ x with bends:=z }):=⟨by decide,fun M x z cs zs w h hz=>(zu.snd (zu.fst zu.self)).2 M _ z cs zs w h hz⟩
theorem JD:qp Tryz.prog 46:=by unfold qp;kernel_rfl
theorem za6:js Tryz.prog 42 46 zd:=⟨zY,zw,by kernel_rfl⟩
theorem zkK:zu zJ (List zd) 7 (fun x z=>{ x with Bends:=z }):=⟨by decide,fun M x z cs zs w h hz=>(zu.snd (zu.snd (zu.snd (zu.fst zu.self)))).2 M _ z cs zs w h hz⟩
theorem znF:yb Tryz.prog 71:=⟨_,Tryz.func71,by kernel_rfl,by kernel_rfl⟩
theorem znG:yb Tryz.prog 72:=⟨_,Tryz.func72,by kernel_rfl,by kernel_rfl⟩
theorem zdq:yb Tryz.prog 8:=⟨_,Tryz.func8,by kernel_rfl,by kernel_rfl⟩
theorem vV:yY Tryz.prog 69 26:=Tryz.underlying69
theorem vY:Ty Tryz.prog 26 Int:=⟨⟨_,Tryz.underlying26,rfl⟩,by kernel_rfl⟩
theorem QJ:qp Tryz.prog 26:=by unfold qp;kernel_rfl
theorem znn:yb Tryz.prog 121:=⟨_,Tryz.func121,by kernel_rfl,by kernel_rfl⟩
theorem znH:yb Tryz.prog 78:=⟨_,Tryz.func78,by kernel_rfl,by kernel_rfl⟩
theorem znJ:yb Tryz.prog 80:=⟨_,Tryz.func80,by kernel_rfl,by kernel_rfl⟩
theorem znI:yb Tryz.prog 79:=⟨_,Tryz.func79,by kernel_rfl,by kernel_rfl⟩
theorem ze5:yT Tryz.prog 49 (⟨(⟨(0:Int),(0:Int)⟩:zd),(0:Int),(⟨(0:Int),(0:Int)⟩:zd),(0:Int),([]:(List Box)),(0:Int)⟩:zA):=⟨[.int .i64 0,.int .i64 0,.int .i64 0,.int .i64 0,.int .i64 0,.int .i64 0,.slice none 0 0,.int .i64 0],by kernel_rfl,fun _ _=>⟨[_,_],_,rfl,⟨[_],_,rfl,⟨rfl,by decide⟩,⟨rfl,by decide⟩⟩,⟨[_],_,rfl,⟨rfl,by decide⟩,⟨[_,_],_,rfl,⟨[_],_,rfl,⟨rfl,by decide⟩,⟨rfl,by decide⟩⟩,⟨[_],_,rfl,⟨rfl,by decide⟩,⟨[_],_,rfl,⟨none,0,rfl,Nat.le_refl _,by decide,rfl⟩,⟨rfl,by decide⟩⟩⟩⟩⟩⟩⟩
theorem znj:yb Tryz.prog 10:=⟨_,Tryz.func10,by kernel_rfl,by kernel_rfl⟩
theorem zns:yb Tryz.prog 20:=⟨_,Tryz.func20,by kernel_rfl,by kernel_rfl⟩
theorem zmX:vZ Tryz.prog 30 Box 2:=zfJ Tryz.underlying30 (by kernel_rfl) (.cons (proj:=Box.X) rfl y7 ty3 (Jt Tryz.underlying3) (.cons (proj:=Box.Y) rfl y8 ty3 (Jt Tryz.underlying3) (.cons (proj:=Box.W_) rfl yL ty3 (Jt Tryz.underlying3) (.cons (proj:=Box.H) rfl yR ty3 (Jt Tryz.underlying3) .nil)))) (fun x y=>by rw[Bool.eq_iff_iff];cases x;cases y;simp only[Bool.and_eq_true,decide_eq_true_eq,and_true,Box.mk.injEq]) rfl
theorem zob:zg zm Bool 9 zm.Locked:=⟨by decide,fun M x cs w h=>(zg.snd (zg.snd (zg.snd (zg.snd (zg.snd (zg.snd zg.self)))))).2 M _ cs w h⟩
theorem zmY:vZ Tryz.prog 32 zm 3:=zfJ Tryz.underlying32 (by kernel_rfl) (.cons (proj:=zm.Id) rfl jk ty9 (zaq (zbJ Tryz.underlying9) (by decide)) (.cons (proj:=zm.Kind) rfl qZ ty3 (zaq (Jt Tryz.underlying3) (by decide)) (.cons (proj:=zm.Box) rfl Qj zK zmX (.cons (proj:=zm.Text) rfl zf7 ty9 (zaq (zbJ Tryz.underlying9) (by decide)) (.cons (proj:=zm.Class) rfl zdC ty9 (zaq (zbJ Tryz.underlying9) (by decide)) (.cons (proj:=zm.Parent) rfl jU ty9 (zaq (zbJ Tryz.underlying9) (by decide)) (.cons (proj:=zm.Locked) rfl zob ty4 (zaq (zmV Tryz.underlying4) (by decide)) .nil))))))) (fun x y=>by rw[Bool.eq_iff_iff];cases x;cases y;simp only[Bool.and_eq_true,decide_eq_true_eq,and_true,zm.mk.injEq]) rfl
theorem zmW:DB.EqAt Tryz.prog 32 zm:=ziq zmY (by kernel_rfl) (by kernel_rfl) rfl
theorem zny:yb Tryz.prog 49:=⟨_,Tryz.func49,by kernel_rfl,by kernel_rfl⟩
theorem znz:yb Tryz.prog 50:=⟨_,Tryz.func50,by kernel_rfl,by kernel_rfl⟩
theorem zmZ:vZ Tryz.prog 41 yx 2:=zfJ Tryz.underlying41 (by kernel_rfl) (.cons (proj:=yx.Node) rfl zbW ty9 (zbJ Tryz.underlying9) (.cons (proj:=yx.Side) rfl QI ty3 (Jt Tryz.underlying3) (.cons (proj:=yx.At) rfl zaA ty3 (Jt Tryz.underlying3) .nil))) (fun x y=>by rw[Bool.eq_iff_iff];cases x;cases y;simp only[Bool.and_eq_true,decide_eq_true_eq,and_true,yx.mk.injEq]) rfl
theorem zir:DB.EqAt Tryz.prog 41 yx:=ziq zmZ (by kernel_rfl) (by kernel_rfl) rfl
theorem ziJ:yb Tryz.prog 16:=⟨_,Tryz.func16,by kernel_rfl,by kernel_rfl⟩
theorem Js:DB.EqAt Tryz.prog 46 zd:=zfI (n:=2) (fun p=>[p.X,p.Y]) (fun a b=>by cases a;cases b;simp) (fun _=>rfl) (fun M v w a h=>by obtain⟨cs,h,rfl⟩:=h;obtain⟨_,_,rfl,⟨rfl,_⟩,⟨rfl,_⟩⟩:=h;rfl) ⟨by kernel_rfl,by kernel_rfl,by kernel_rfl,by kernel_rfl⟩
theorem znp:yb Tryz.prog 138:=⟨_,Tryz.func138,by kernel_rfl,by kernel_rfl⟩
theorem ziM:yb Tryz.prog 94:=⟨_,Tryz.func94,by kernel_rfl,by kernel_rfl⟩
theorem zsa:∀(M:zp) (w:World),Rep.cells M (⟨(⟨(0:Int),(0:Int)⟩:zd),(0:Int),(⟨(0:Int),(0:Int)⟩:zd),(0:Int),⟨.slice none 0 0⟩,(0:Int)⟩:qX) [.int .i64 0,.int .i64 0,.int .i64 0,.int .i64 0,.int .i64 0,.int .i64 0,.slice none 0 0,.int .i64 0] w:=fun _ _=>⟨[_,_],_,rfl,⟨[_],_,rfl,⟨rfl,by decide⟩,⟨rfl,by decide⟩⟩,⟨[_],_,rfl,⟨rfl,by decide⟩,⟨[_,_],_,rfl,⟨[_],_,rfl,⟨rfl,by decide⟩,⟨rfl,by decide⟩⟩,⟨[_],_,rfl,⟨rfl,by decide⟩,⟨[_],_,rfl,⟨rfl,rfl,rfl⟩,⟨rfl,by decide⟩⟩⟩⟩⟩⟩
theorem zry:zu qX Int 7 (fun x z=>{ x with Clear:=z }):=⟨by decide,fun M x z cs zs w h hz=>(zu.snd (zu.snd (zu.snd (zu.snd (zu.snd zu.self))))).2 M _ z cs zs w h hz⟩
theorem zrw:zu qX Int 5 (fun x z=>{ x with ToSide:=z }):=⟨by decide,fun M x z cs zs w h hz=>(zu.snd (zu.snd (zu.snd (zu.fst zu.self)))).2 M _ z cs zs w h hz⟩
theorem zrv:zu qX zd 3 (fun x z=>{ x with To:=z }):=⟨by decide,fun M x z cs zs w h hz=>(zu.snd (zu.snd (zu.fst zu.self))).2 M _ z cs zs w h hz⟩
theorem zru:zu qX Int 2 (fun x z=>{ x with FromSide:=z }):=⟨by decide,fun M x z cs zs w h hz=>(zu.snd (zu.fst zu.self)).2 M _ z cs zs w h hz⟩
theorem zrt:zu qX zd 0 (fun x z=>{ x with From:=z }):=⟨by decide,fun M x z cs zs w h hz=>(zu.fst zu.self).2 M _ z cs zs w h hz⟩
theorem zrN:Ty Tryz.prog 49 qX:=⟨⟨_,Tryz.underlying49,rfl⟩,by kernel_rfl⟩
theorem zrD:Ty Tryz.prog 47 Raw:=⟨⟨_,Tryz.underlying47,rfl⟩,by kernel_rfl⟩
theorem zog:zg qX Raw 6 qX.Walls:=⟨by decide,fun M x cs w h=>(zg.snd (zg.snd (zg.snd (zg.snd (zg.fst zg.self))))).2 M _ cs w h⟩
theorem zrx:zu qX Raw 6 (fun x z=>{ x with Walls:=z }):=⟨by decide,fun M x z cs zs w h hz=>(zu.snd (zu.snd (zu.snd (zu.snd (zu.fst zu.self))))).2 M _ z cs zs w h hz⟩
theorem znK:yb Tryz.prog 87:=⟨_,Tryz.func87,by kernel_rfl,by kernel_rfl⟩
theorem znv:yb Tryz.prog 39:=⟨_,Tryz.func39,by kernel_rfl,by kernel_rfl⟩
theorem zfR:yc Tryz.prog 83 0 0:=⟨_,_,Tryz.underlying83,rfl,rfl,by kernel_rfl⟩
theorem zf8:zg zQ Int 0 zQ.x:=⟨by decide,fun M x cs w h=>(zg.fst zg.self).2 M _ cs w h⟩
theorem zfS:yc Tryz.prog 83 1 1:=⟨_,_,Tryz.underlying83,rfl,rfl,by kernel_rfl⟩
theorem zf9:zg zQ Int 1 zQ.y:=⟨by decide,fun M x cs w h=>(zg.snd (zg.fst zg.self)).2 M _ cs w h⟩
theorem znw:yb Tryz.prog 40:=⟨_,Tryz.func40,by kernel_rfl,by kernel_rfl⟩
theorem ze7:yT Tryz.prog 83 (⟨(0:Int),(0:Int),(0:Int)⟩:zQ):=⟨[.int .i64 0,.int .i64 0,.int .i64 0],by kernel_rfl,fun _ _=>⟨[_],_,rfl,⟨rfl,by decide⟩,⟨[_],_,rfl,⟨rfl,by decide⟩,⟨rfl,by decide⟩⟩⟩⟩
theorem zkR:zu zQ Int 2 (fun x z=>{ x with way:=z }):=⟨by decide,fun M x z cs zs w h hz=>(zu.snd (zu.snd zu.self)).2 M _ z cs zs w h hz⟩
theorem zkQ:zu zQ Int 1 (fun x z=>{ x with y:=z }):=⟨by decide,fun M x z cs zs w h hz=>(zu.snd (zu.fst zu.self)).2 M _ z cs zs w h hz⟩
theorem zkP:zu zQ Int 0 (fun x z=>{ x with x:=z }):=⟨by decide,fun M x z cs zs w h hz=>(zu.fst zu.self).2 M _ z cs zs w h hz⟩
theorem zh6:jy Tryz.prog 83 [.int .i64 0,.int .i64 0,.int .i64 0] [(0,1),(1,1),(2,1)]:=⟨by kernel_rfl,_,Tryz.underlying83,by kernel_rfl⟩
theorem zlm:∀(M:zp) (w:World),Rep.cells M (⟨(0:Int),(0:Int),(0:Int)⟩:zQ) [.int .i64 0,.int .i64 0,.int .i64 0] w:=fun _ _=>⟨[_],_,rfl,⟨rfl,by decide⟩,⟨[_],_,rfl,⟨rfl,by decide⟩,⟨rfl,by decide⟩⟩⟩
theorem qW:Ty Tryz.prog 83 zQ:=⟨⟨_,Tryz.underlying83,rfl⟩,by kernel_rfl⟩
theorem ziK:yb Tryz.prog 42:=⟨_,Tryz.func42,by kernel_rfl,by kernel_rfl⟩
theorem znN:yb Tryz.prog 93:=⟨_,Tryz.func93,by kernel_rfl,by kernel_rfl⟩
noncomputable instance mk_Ref_state:MKey zQ:=MKey.ints 3 (fun p=>[p.x,p.y,p.way]) (fun a b=>by cases a;cases b;simp) (fun _=>rfl) (fun M v w a h=>by obtain⟨cs,h,rfl⟩:=h;obtain⟨_,_,rfl,⟨rfl,_⟩,⟨_,_,rfl,⟨rfl,_⟩,⟨rfl,_⟩⟩⟩:=h;rfl)
theorem zb7:jB Tryz.prog 89 83 3 (@MKey.desc zQ _ _ mk_Ref_state):=⟨Tryz.underlying89,show zbx Tryz.prog 83 3 from⟨by kernel_rfl,by kernel_rfl,by kernel_rfl,by kernel_rfl⟩⟩
theorem zbj:yY Tryz.prog 90 83:=Tryz.underlying90
theorem zja:qp Tryz.prog 83:=by unfold qp;kernel_rfl
theorem zdm:yc Tryz.prog 83 2 2:=⟨_,_,Tryz.underlying83,rfl,rfl,by kernel_rfl⟩
theorem zdE:zg zQ Int 2 zQ.way:=⟨by decide,fun M x cs w h=>(zg.snd (zg.snd zg.self)).2 M _ cs w h⟩
theorem zfX:yb Tryz.prog 44:=⟨_,Tryz.func44,by kernel_rfl,by kernel_rfl⟩
theorem zqi:js Tryz.prog 90 83 zQ:=⟨zbj,qW,by kernel_rfl⟩
theorem znx:yb Tryz.prog 47:=⟨_,Tryz.func47,by kernel_rfl,by kernel_rfl⟩
theorem zfY:yb Tryz.prog 48:=⟨_,Tryz.func48,by kernel_rfl,by kernel_rfl⟩
theorem znq:yb Tryz.prog 18:=⟨_,Tryz.func18,by kernel_rfl,by kernel_rfl⟩
theorem znr:yb Tryz.prog 19:=⟨_,Tryz.func19,by kernel_rfl,by kernel_rfl⟩
theorem zkJ:zu Doc (List zJ) 1 (fun x z=>{ x with Edges:=z }):=⟨by decide,fun M x z cs zs w h hz=>(zu.snd zu.self).2 M _ z cs zs w h hz⟩
end Go.Proofs.YtmfcdppbnbfpjaaGreatDoor
