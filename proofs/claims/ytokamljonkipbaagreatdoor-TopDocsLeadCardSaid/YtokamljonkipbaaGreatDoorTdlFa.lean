/- A part of the proof. -/
import Derived.Test.YtokamljonkipbaaGreatDoorRows
import Derived.Test.YtokamljonkipbaaGreatDoorTdlLi1
set_option maxRecDepth 100000
set_option linter.unusedSimpArgs false
set_option linter.unusedVariables false
namespace Go.Proofs.YtokamljonkipbaaGreatDoor
open Go Go.DB Go.RowKit
theorem mixed:Tryz.prog.follows .mixedOrders=true:=by kernel_rfl
theorem mx:Tryz.prog.follows .mixedOrders=true:=mixed
def ziI:Shelf.Ren where
 f:=fun x=>match x with | 169=>25 | n=>n
 t:=fun x=>match x with | 70=>59 | 9=>9 | 0=>0 | 72=>62 | 37=>60 | 127=>151 | 3=>3 | 5=>5 | n=>n
 g:=fun n=>n
theorem zoX:Lays.n169 Tryz.prog ziI where
 mixed:=by kernel_rfl
 f169:=Tryz.func25.trans (by kernel_rfl)
 t0:=Tryz.underlying0
 a0:=Tryz.isAgg0
 z0:=Tryz.sizeOf0
 v0:=Tryz.zeroValue0
 t3:=Tryz.underlying3
 a3:=Tryz.isAgg3
 z3:=Tryz.sizeOf3
 v3:=Tryz.zeroValue3
 t9:=Tryz.underlying9
 a9:=Tryz.isAgg9
 z9:=Tryz.sizeOf9
 v9:=Tryz.zeroValue9
 t37:=Tryz.underlying60
 a37:=Tryz.isAgg60
 z37:=Tryz.sizeOf60
 v37:=Tryz.zeroValue60
 t70:=Tryz.underlying59
 a70:=Tryz.isAgg59
 z70:=Tryz.sizeOf59
 v70:=Tryz.zeroValue59
 t72:=Tryz.underlying62
 a72:=Tryz.isAgg62
 z72:=Tryz.sizeOf62
 v72:=Tryz.zeroValue62
 t127:=Tryz.underlying151
 a127:=Tryz.isAgg151
 z127:=Tryz.sizeOf151
 v127:=Tryz.zeroValue151
theorem zoW:Proofs.Builder.Extra Tryz.prog ziI where
 sizeBuilder:=by kernel_rfl
 liesBuilder:=by kernel_rfl
 t5:=Tryz.underlying5
 a5:=Tryz.isAgg5
 z5:=Tryz.sizeOf5
 v5:=Tryz.zeroValue5
 infoByte:=by kernel_rfl
 cellsByte:=by kernel_rfl
 sizeByte:=by kernel_rfl
 neB5:=by decide
def zoU:Shelf.Ren where
 f:=fun x=>match x with | 170=>24 | n=>n
 t:=fun x=>match x with | 70=>59 | 3=>3 | 0=>0 | 72=>62 | 37=>60 | 5=>5 | n=>n
 g:=fun n=>n
theorem zoT:Lays.n170 Tryz.prog zoU where
 mixed:=by kernel_rfl
 f170:=Tryz.func24.trans (by kernel_rfl)
 t0:=Tryz.underlying0
 a0:=Tryz.isAgg0
 z0:=Tryz.sizeOf0
 v0:=Tryz.zeroValue0
 t3:=Tryz.underlying3
 a3:=Tryz.isAgg3
 z3:=Tryz.sizeOf3
 v3:=Tryz.zeroValue3
 t37:=Tryz.underlying60
 a37:=Tryz.isAgg60
 z37:=Tryz.sizeOf60
 v37:=Tryz.zeroValue60
 t70:=Tryz.underlying59
 a70:=Tryz.isAgg59
 z70:=Tryz.sizeOf59
 v70:=Tryz.zeroValue59
 t72:=Tryz.underlying62
 a72:=Tryz.isAgg62
 z72:=Tryz.sizeOf62
 v72:=Tryz.zeroValue62
set_option maxHeartbeats 1000000 in
theorem zpg (m:Nat)(w:World)(h0:w.cell? ⟨m,0,none⟩=some (.pointer none))(hsh:w.shape? m=some (62,2))(hfz:w.frozen? ⟨m,0,none⟩=false):
  Calls Tryz.prog 70 #[.pointer (some ⟨m,0,none⟩)] w fun e w'=>e = .returned (.tuple #[])∧w'=w.setCell ⟨m,0,none⟩ (.pointer (some ⟨m,0,none⟩)):=by
 obtain⟨j,hj,hjs⟩:=Option.map_eq_some_iff.1 (show(Tryz.prog.info? 62).map (·.size)=some 2 from by kernel_rfl)
 go_enter Tryz.func70,Tryz.ntmps70
 go_wp2
 rw[Lib.run_to_unsafe w ⟨m,0,none⟩ Tryz.underlying59 Tryz.underlying216 hj (by rw[hjs];decide) hsh (Nat.zero_lt_succ 1)]
 simp only[Result.andThen]
 rw[Oper.upon_value]
 go_wp2
 rw[run_callFunc_extern Tryz.func133 (by kernel_rfl) (by kernel_rfl) (by kernel_rfl) (e:=Extern.AbiNoEscape.same) (by kernel_rfl)]
 rw[Lib.run_noEscape]
 simp only[Result.andThen]
 rw[Oper.upon_value]
 go_wp2
 rw[Lib.run_from_unsafe w ⟨m,0,none⟩ Tryz.underlying216 Tryz.underlying59 hj hsh (by kernel_rfl)]
 simp only[Result.andThen]
 rw[Oper.upon_value]
 go_wp2
 go_end0
 exact⟨rfl,rfl⟩
set_option maxHeartbeats 1000000 in
theorem zph (m:Nat)(w:World)(h0:w.cell? ⟨m,0,none⟩=some (.pointer (some ⟨m,0,none⟩))):
  Calls Tryz.prog 70 #[.pointer (some ⟨m,0,none⟩)] w fun e w'=>e = .returned (.tuple #[])∧w'=w:=by
 obtain⟨j,hj,_⟩:=Option.map_eq_some_iff.1 (show(Tryz.prog.info? 62).map (·.size)=some 2 from by kernel_rfl)
 go_enter Tryz.func70,Tryz.ntmps70
 go_wp2
 rw[Lib.run_neq_ptr_same w _ Tryz.underlying59 hj]
 go_wp2
 go_end0
 exact⟨rfl,rfl⟩
theorem zpf:znT Tryz.prog 70 62:=by
 intro m p u w hp h3
 rcases hp with rfl | rfl
 ·
  refine Calls.mono (zpg m w (by rw[Go.DB.cell_of_heap h3];rfl) (by simp[World.shape?,h3]) (by simp[World.frozen?,h3])) ?_
  rintro e w' ⟨rfl,rfl⟩
  refine⟨rfl,by simp[World.setCell,Array.getElem?_modify,h3],rfl,rfl,rfl,by simp[World.setCell],fun k hk=>?_⟩
  simp only[World.setCell,Array.getElem?_modify]
  rw[if_neg (Ne.symm hk)]
 ·
  refine Calls.mono (zph m w (by rw[Go.DB.cell_of_heap h3];rfl)) ?_
  rintro e w' ⟨rfl,rfl⟩
  exact⟨rfl,h3,rfl,rfl,rfl,rfl,fun _ _=>rfl⟩
set_option maxHeartbeats 1000000 in
theorem zwa:ziz Tryz.prog 20 62 5:=by
 intro m p u c s w hp h3 h4 h5 hl
 obtain⟨i0,hi,hz0,hz1,hz2⟩:=info_parts (show(Tryz.prog.info? 5).map (fun i=>(i.zero,i.size,i.bytes))=some (some (.int .u8 0),1,1)from by kernel_rfl)
 have hm:=(Array.getElem?_eq_some_iff.1 h3).1
 have hss:(ByteArray.mk s.toArray).size=s.length:=rfl
 go_enter Tryz.func20,Tryz.ntmps20
 go_wp2_with (go_at_call 70;refine Calls.mono (zpf m p u _ hp h3) ?_)
 rintro e w1 ⟨rfl,g1,g2,g3,g4,g5,g6⟩
 have c0:w1.cell? ⟨m,0,none⟩=some (.pointer (some ⟨m,0,none⟩)):=by rw[Go.DB.cell_of_heap g1];rfl
 have c1:w1.cell? ⟨m,1,none⟩=some u:=by rw[Go.DB.cell_of_heap g1];rfl
 have hown1:=zsY (T:=62) h4 h5 g6
 go_wp2_with (at_builtin;refine zv9 rfl _ _ 60 9 rfl 5 i0 Tryz.underlying60 Tryz.underlying9 hi hz0 hz1 hz2 _ _ _ rfl hown1 ⟨s.toArray⟩ rfl ?c3 ?_)
 case c3=>rw[hss];exact hl
 intro v' w2 hown2 hgrow hwhere
 have hm2:w2.heap[m]?=some (.cells #[.pointer (some ⟨m,0,none⟩),u] 62 (0,0)):=by
  rw[hgrow.block m (by omega) (fun e=>h5 e.symm)];exact g1
 have d0:w2.cell? ⟨m,0,none⟩=some (.pointer (some ⟨m,0,none⟩)):=by rw[Go.DB.cell_of_heap hm2];rfl
 have d1:w2.cell? ⟨m,1,none⟩=some u:=by rw[Go.DB.cell_of_heap hm2];rfl
 have f1:w2.frozen? ⟨m,1,none⟩=false:=by simp[World.frozen?,hm2]
 obtain⟨ao,n',cap,rfl⟩:=zsX hown2
 go_wp2
 go_ret2
 exact zwb (by decide) h3 h5 g2 g3 g4 g5 g6 hm2 hown2 hgrow (fun k hk=>(hwhere k hk).imp id (fun h=>by omega))
def zpA:Shelf.Ren where
 f:=fun x=>match x with | 138=>94 | 195=>162 | 218=>164 | 143=>95 | 219=>135 | 217=>205 | 225=>206 | 224=>207 | 267=>208 | 266=>259 | 314=>260 | n=>n
 t:=fun x=>match x with | 9=>9 | 3=>3 | 4=>4 | 5=>5 | 0=>0 | 46=>174 | 146=>352 | 51=>232 | n=>n
 g:=fun x=>match x with | 1=>0 | n=>n
theorem zpz:Lays.n138 Tryz.prog zpA where
 mixed:=by kernel_rfl
 f138:=Tryz.func94.trans (by kernel_rfl)
 f143:=Tryz.func95.trans (by kernel_rfl)
 f195:=Tryz.func162.trans (by kernel_rfl)
 f217:=Tryz.func205.trans (by kernel_rfl)
 f218:=Tryz.func164.trans (by kernel_rfl)
 f219:=Tryz.func135.trans (by kernel_rfl)
 f224:=Tryz.func207.trans (by kernel_rfl)
 f225:=Tryz.func206.trans (by kernel_rfl)
 f266:=Tryz.func259.trans (by kernel_rfl)
 f267:=Tryz.func208.trans (by kernel_rfl)
 f314:=Tryz.func260.trans (by kernel_rfl)
 t0:=Tryz.underlying0
 a0:=Tryz.isAgg0
 z0:=Tryz.sizeOf0
 v0:=Tryz.zeroValue0
 t3:=Tryz.underlying3
 a3:=Tryz.isAgg3
 z3:=Tryz.sizeOf3
 v3:=Tryz.zeroValue3
 t4:=Tryz.underlying4
 a4:=Tryz.isAgg4
 z4:=Tryz.sizeOf4
 v4:=Tryz.zeroValue4
 t5:=Tryz.underlying5
 a5:=Tryz.isAgg5
 z5:=Tryz.sizeOf5
 v5:=Tryz.zeroValue5
 t9:=Tryz.underlying9
 a9:=Tryz.isAgg9
 z9:=Tryz.sizeOf9
 v9:=Tryz.zeroValue9
 t46:=Tryz.underlying174
 a46:=Tryz.isAgg174
 z46:=Tryz.sizeOf174
 v46:=Tryz.zeroValue174
 t51:=Tryz.underlying232
 a51:=Tryz.isAgg232
 z51:=Tryz.sizeOf232
 v51:=Tryz.zeroValue232
 t146:=Tryz.underlying352
 a146:=Tryz.isAgg352
 z146:=Tryz.sizeOf352
 v146:=Tryz.zeroValue352
 g1:=by kernel_rfl
theorem znj (w:World):(callFunc 353 #[]).run Tryz.prog w = .ok (.value (.tuple #[])) w:=run_call_mark0 Tryz.func353 (by kernel_rfl) (by kernel_rfl) (by kernel_rfl) .disable (by kernel_rfl) w
theorem znk (w:World):(callFunc 355 #[]).run Tryz.prog w = .ok (.value (.tuple #[])) w:=run_call_mark0 Tryz.func355 (by kernel_rfl) (by kernel_rfl) (by kernel_rfl) .enable (by kernel_rfl) w
theorem zvA (a:Addr)(w:World):(callFunc 356 #[.pointer (some a)]).run Tryz.prog w = .ok (.value (.tuple #[])) w:=run_call_marked Tryz.func356 (by kernel_rfl) (by kernel_rfl) (by kernel_rfl) .acquire (by kernel_rfl) a w
theorem zvD (a:Addr)(w:World):(callFunc 358 #[.pointer (some a)]).run Tryz.prog w = .ok (.value (.tuple #[])) w:=run_call_marked Tryz.func358 (by kernel_rfl) (by kernel_rfl) (by kernel_rfl) .releaseMerge (by kernel_rfl) a w
theorem zvF (a:Addr)(x:Value)(u:FrameMode)(w:World)(hc:w.cell? a=some x)(hz:w.frozen? a=false):
  CallsD Tryz.prog 329 #[.pointer (some a),.bool true] u w fun e u' w'=>u'=u∧(e = .returned (.tuple #[])∧w'=w.drew.setCell a (.int .u32 1)):=by
 have hc':w.drew.cell? a=some x:=by go_simp
 have hz':w.drew.frozen? a=false:=by go_simp
 have hst:=run_call_store (P:=Tryz.prog) Tryz.func346 (by kernel_rfl) (by kernel_rfl) (by kernel_rfl) (by kernel_rfl) (k:=.u32) (y:=1) hc' hz'
 go_enter_d Tryz.func329,Tryz.ntmps329
 go_wp2
 go_region_calls
 all_goals (go_end0;exact⟨rfl,rfl⟩)
theorem zvG (a:Addr)(u:FrameMode)(w:World)(hc:w.cell? a=some (.int .i32 1))(hz:w.frozen? a=false):
  CallsD Tryz.prog 328 #[.pointer (some a)] u w fun e u' w'=>u'=u∧(e = .returned (.tuple #[])∧w'=w.setCell a (.int .i32 0)):=by
 have hd:=znj
 have he:=znk
 have hr:=zvD
 have hadd:=run_call_add (P:=Tryz.prog) Tryz.func359 (by kernel_rfl) (by kernel_rfl) (by kernel_rfl) .i32 (by kernel_rfl) (y:= -1) (s:=0) hc hz (by simp[go_sem];rfl)
 have hcv:=run_convert_to_unsafe (P:=Tryz.prog) (src:=478) (dst:=216) Tryz.underlying478 Tryz.underlying216 (by kernel_rfl) hc
 go_enter_d Tryz.func328,Tryz.ntmps328
 go_wp2
 go_end0
 go_wp2
 all_goals (go_end0;exact⟨rfl,rfl⟩)
theorem zvC (a:Addr)(w:World)(hc:w.cell? a=some (.int .i32 0))(hz:w.frozen? a=false):
  Calls Tryz.prog 327 #[.pointer (some a)] w fun e w'=>e = .returned (.tuple #[])∧w'=w.setCell a (.int .i32 1):=by
 have hd:=znj
 have he:=znk
 have ha:=zvA
 have hcas:=run_call_cas_hit (P:=Tryz.prog) Tryz.func354 (by kernel_rfl) (by kernel_rfl) (by kernel_rfl) .i32 (by kernel_rfl) (y:=1) hc hz
 have hc':(w.setCell a (.int .i32 1)).cell? a=some (.int .i32 1):=World.cell?_setCell_same w a _ hc
 have hcv:=run_convert_to_unsafe (P:=Tryz.prog) (src:=478) (dst:=216) Tryz.underlying478 Tryz.underlying216 (by kernel_rfl) hc'
 go_enter Tryz.func327,Tryz.ntmps327
 go_wp2
 first | go_end0 | (simp only[Exit.inBlock,Exit.then];refine bodyPost_ret (results_none rfl _ _ _) rfl ?_) | refine bodyPost_ret (results_none rfl _ _ _) rfl ?_
 go_wp2
 all_goals (go_end0;exact⟨rfl,rfl⟩)
set_option maxHeartbeats 1600000 in
theorem zvE (b:Nat)(w:World)(Q:World→Prop)(h0:w.cell? ⟨b,0,none⟩=some (.int .u32 0))(h1:w.cell? ⟨b,1,none⟩=some (.int .i32 0))(f0:w.frozen? ⟨b,0,none⟩=false)(f1:w.frozen? ⟨b,1,none⟩=false)
  (hbo:Calls Tryz.prog 258 #[.pointer (some ⟨b,0,none⟩)] (w.setCell ⟨b,1,none⟩ (.int .i32 1)) fun e w'=>e = .returned (.tuple #[])∧w'.cell? ⟨b,0,none⟩=some (.int .u32 0)∧w'.frozen? ⟨b,0,none⟩=false∧w'.cell? ⟨b,1,none⟩=some (.int .i32 1)∧w'.frozen? ⟨b,1,none⟩=false∧Q w'):
  Calls Tryz.prog 296 #[.pointer (some ⟨b,0,none⟩),.func (.func 258) #[.pointer (some ⟨b,0,none⟩)] #[]] w fun e w'=>e = .returned (.tuple #[])∧∃w1,Q w1∧w'=(w1.drew.setCell ⟨b,0,none⟩ (.int .u32 1)).setCell ⟨b,1,none⟩ (.int .i32 0):=by
 have hl:=run_call_load (P:=Tryz.prog) Tryz.func326 (by kernel_rfl) (by kernel_rfl) (by kernel_rfl) .u32 (by kernel_rfl) (w:=w.setCell ⟨b,1,none⟩ (.int .i32 1)) (a:=⟨b,0,none⟩) (x:=0) ((World.cell?_setCell_other _ ⟨b,1,none⟩ ⟨b,0,none⟩ _ (by simp)).trans h0)
 have hnot:∀(x:Bool) (w:World),(Op.unary .not (.bool x)).run Tryz.prog w = .ok (.bool (!x)) w:=fun _ _=>rfl
 go_enter_defers Tryz.func296,Tryz.ntmps296
 go_wp2_with (first | (go_at_call 327;refine(zvC ⟨b,1,none⟩ _ (by go_simp) (by go_simp)).mono ?_;rintro e w' ⟨rfl,rfl⟩) | (go_at_call 258;refine hbo.mono ?_;rintro e w1 ⟨rfl,k0,z0,k1,z1,hQ⟩) | (go_at_call 295;go_in))
 refine leaves_cons (f:=329) (args:=#[.pointer (some ⟨b,0,none⟩),.bool true]) (by simp) (by simp[go_sem]) ?_
 refine(zvF ⟨b,0,none⟩ (.int .u32 0) .returning _ k0 z0).mono ?_
 rintro e u' w'' ⟨rfl,rfl,rfl⟩
 refine leaves_cons (f:=328) (args:=#[.pointer (some ⟨b,1,none⟩)]) (by simp[settle]) (by simp[go_sem]) ?_
 refine(zvG ⟨b,1,none⟩ _ _ ?_ (by simp[z1])).mono ?_
 ·
  refine(World.cell?_setCell_other _ ⟨b,0,none⟩ ⟨b,1,none⟩ _ (by simp)).trans ?_
  rw[World.cell?_drew];exact k1
 rintro e u' w'' ⟨rfl,rfl,rfl⟩
 simp[Leaves,settle,results,Tryz.results296]
 exact⟨_,hQ,rfl⟩
set_option maxHeartbeats 1600000 in
theorem zvB (b:Nat)(w:World)(Q:World→Prop)(h0:w.cell? ⟨b,0,none⟩=some (.int .u32 0))(h1:w.cell? ⟨b,1,none⟩=some (.int .i32 0))(f0:w.frozen? ⟨b,0,none⟩=false)(f1:w.frozen? ⟨b,1,none⟩=false)
  (hbo:Calls Tryz.prog 258 #[.pointer (some ⟨b,0,none⟩)] (w.setCell ⟨b,1,none⟩ (.int .i32 1)) fun e w'=>e = .returned (.tuple #[])∧w'.cell? ⟨b,0,none⟩=some (.int .u32 0)∧w'.frozen? ⟨b,0,none⟩=false∧w'.cell? ⟨b,1,none⟩=some (.int .i32 1)∧w'.frozen? ⟨b,1,none⟩=false∧Q w'):
  Calls Tryz.prog 257 #[.pointer (some ⟨b,0,none⟩),.func (.func 258) #[.pointer (some ⟨b,0,none⟩)] #[]] w fun e w'=>e = .returned (.tuple #[])∧∃w1,Q w1∧w'=(w1.drew.setCell ⟨b,0,none⟩ (.int .u32 1)).setCell ⟨b,1,none⟩ (.int .i32 0):=by
 have hl:=run_call_load (P:=Tryz.prog) Tryz.func326 (by kernel_rfl) (by kernel_rfl) (by kernel_rfl) .u32 (by kernel_rfl) h0
 have hnot:∀(x:Bool) (w:World),(Op.unary .not (.bool x)).run Tryz.prog w = .ok (.bool (!x)) w:=fun _ _=>rfl
 go_enter Tryz.func257,Tryz.ntmps257
 go_wp2_with (first | (go_at_call 296;refine(zvE b _ Q h0 h1 f0 f1 hbo).mono ?_;rintro e w' ⟨rfl,w1,hQ,rfl⟩) | (go_at_call 295;go_in))
 go_end0
 exact⟨rfl,_,hQ,rfl⟩
set_option maxHeartbeats 1600000 in
theorem zsQ (a:Nat)(w:World)(s0 s1 s2 s3 s4 s5:ByteArray)(ha:w.heap[a]?=some (.cells #[.string s0,.string s1,.string s2,.string s3,.string s4,.string s5] 9 (0,0))):
  Calls Tryz.prog 203 #[.slice (some ⟨a,0,none⟩) 6 6] w fun e w'=>e = .returned (.pointer (some ⟨w.heap.size+1,0,none⟩))∧∃C,w'=((w.alloc (.cells (#[.string s0,.string s1,.string s2,.string s3,.string s4,.string s5]++Builtin.zeroCells #[.string ⟨#[]⟩] (C - 6)) 9)).alloc
   (.cells #[.int .u32 0,.int .i32 0,.int .u32 0,.nilIface,.slice (some ⟨w.heap.size,0,none⟩) 6 C] 350)).drew:=by
 have hrem:(Op.intDiv .rem .i64 6 2:Sem Value).run Tryz.prog w = .ok (.int .i64 0) w:=rfl
 have c0:w.cell? ⟨a,0,none⟩=some (.string s0):=by simp[World.cell?,ha]
 have c1:w.cell? ⟨a,1,none⟩=some (.string s1):=by simp[World.cell?,ha]
 have c2:w.cell? ⟨a,2,none⟩=some (.string s2):=by simp[World.cell?,ha]
 have c3:w.cell? ⟨a,3,none⟩=some (.string s3):=by simp[World.cell?,ha]
 have c4:w.cell? ⟨a,4,none⟩=some (.string s4):=by simp[World.cell?,ha]
 have c5:w.cell? ⟨a,5,none⟩=some (.string s5):=by simp[World.cell?,ha]
 go_enter Tryz.func203,Tryz.ntmps203
 go_wp2
 go_ret
 exact⟨rfl,_,rfl⟩
structure jj (g t:Nat) (w:World):Prop where
 hit:∀b:UInt8,jX b=true→∃m cap y,w.cell? ⟨g,b.toNat,none⟩=some (.slice (some ⟨m,0,none⟩) 2 cap)∧m<w.heap.size∧w.cell? ⟨m,0,none⟩=some (.int .u8 92)∧w.cell? ⟨m,1,none⟩=some (.int .u8 (UInt8.toNat y:Nat))∧jU b=[92,y]
 miss:∀b:UInt8,jX b=false→w.cell? ⟨g,b.toNat,none⟩=some (.slice none 0 0)
 tr:w.cell? ⟨g,256,none⟩=some (.slice (some ⟨t,0,none⟩) 3 3)
 t0:w.cell? ⟨t,0,none⟩=some (.string ⟨#[10]⟩)
 t1:w.cell? ⟨t,1,none⟩=some (.string ⟨#[34]⟩)
 t2:w.cell? ⟨t,2,none⟩=some (.string ⟨#[92]⟩)
 g_lt:g<w.heap.size
 t_lt:t<w.heap.size
theorem jj.below {g t:Nat}{w w':World}(h:jj g t w)(hb:Below w.heap.size w w'):jj g t w':=by
 refine⟨fun b hb'=>?_,fun b hb'=>?_,?_,?_,?_,?_,Nat.lt_of_lt_of_le h.g_lt hb.size,Nat.lt_of_lt_of_le h.t_lt hb.size⟩
 ·
  obtain⟨m,cap,y,h1,h2,h3,h4,h5⟩:=h.hit b hb'
  exact⟨m,cap,y,(hb.cell (p:=⟨g,b.toNat,none⟩) h.g_lt).trans h1,Nat.lt_of_lt_of_le h2 hb.size,(hb.cell (p:=⟨m,0,none⟩) h2).trans h3,(hb.cell (p:=⟨m,1,none⟩) h2).trans h4,h5⟩
 ·
  exact(hb.cell (p:=⟨g,b.toNat,none⟩) h.g_lt).trans (h.miss b hb')
 ·
  exact(hb.cell (p:=⟨g,256,none⟩) h.g_lt).trans h.tr
 ·
  exact(hb.cell (p:=⟨t,0,none⟩) h.t_lt).trans h.t0
 ·
  exact(hb.cell (p:=⟨t,1,none⟩) h.t_lt).trans h.t1
 ·
  exact(hb.cell (p:=⟨t,2,none⟩) h.t_lt).trans h.t2
theorem ziQ (c:UInt8)(h:0<(ByteArray.mk #[c]).size):(ByteArray.mk #[c])[0]=c:=rfl
theorem zfI:(10:UInt8).toNat=10:=rfl
theorem zfJ:(34:UInt8).toNat=34:=rfl
theorem zfK:(92:UInt8).toNat=92:=rfl
attribute [local go_sem] ziQ zfI zfJ zfK
theorem zfF (w:World):Below w.heap.size w w.drew:=⟨rfl,rfl,rfl,Nat.le_refl _,fun _ _=>rfl⟩
theorem YE (B:Nat)(w:World):Below B w w.drew:=⟨rfl,rfl,rfl,Nat.le_refl _,fun _ _=>rfl⟩
def u8v (b:UInt8):Value:=.int .u8 (UInt8.toNat b:Nat)
def jS (out:List UInt8)(n:Nat):List Value:=out.map u8v++List.replicate (n - out.length) (.int .u8 0)
theorem zfG {out:List UInt8}{n:Nat}(h:out.length≤n):(jS out n).length=n:=by simp[jS];omega
theorem zfH (out xs:List UInt8)(n:Nat)(h:out.length+xs.length≤n):splice (jS out n) out.length (xs.map u8v)=jS (out++xs) n:=by
 unfold splice jS
 rw[List.length_map,List.take_left' (by simp),List.map_append,List.append_assoc]
 congr 2
 rw[show out.length+xs.length=(out.map u8v).length+xs.length by simp,←List.drop_drop,List.drop_left,List.drop_replicate,List.length_append]
 congr 1;omega
theorem ziO (out:List UInt8)(x:UInt8)(n:Nat)(h:out.length+1≤n):(jS out n).set out.length (u8v x)=jS (out++[x]) n:=by
 have h1:=zfH out [x] n h
 rw[←h1]
 unfold splice
 rw[List.set_eq_take_append_cons_drop,if_pos (by rw[zfG (by omega)];omega)]
 rfl
theorem ziP (n:Nat):madeCells #[.int .u8 0] n=(jS [] n).toArray:=by
 have:(jS [] n)=List.replicate n (.int .u8 0):=by simp[jS]
 rw[this]
 apply Array.ext
 ·
  simp[madeCells]
 ·
  intro i h1 h2
  simp[madeCells,Nat.mod_one]
def Qp (l:List UInt8)(k:Nat):List UInt8:=yw (l.take k)
def yt (l:List UInt8)(k:Nat):Nat:=(Qp l k).length
def qo (l:List UInt8)(n k:Nat):List Value:=jS (Qp l k) n
theorem zlI {l:List UInt8}{k:Nat}(hk:k<l.length):Qp l (k+1)=Qp l k++jU l[k]:=by
 unfold Qp
 rw[List.take_add_one,List.getElem?_eq_getElem hk,zgb]
 simp[yw]
theorem zqq {l:List UInt8}{k:Nat}(hk:k<l.length):qx (l.take (k+1))=qx (l.take k)+if jX l[k]then 1 else 0:=by
 unfold qx
 rw[List.take_add_one,List.getElem?_eq_getElem hk,List.countP_append]
 simp[List.countP_cons]
theorem zjG (l:List UInt8)(k:Nat):(yw (l.take k)).length≤(yw l).length:=by
 conv=>rhs;rw[←List.take_append_drop k l,zgb,List.length_append]
 omega
theorem YU {w:World}{m i:Nat}{c:List Value}{T:TypeId}{fr:Nat×Nat}(h:w.heap[m]?=some (.cells c.toArray T fr))(v:Value):(w.setCell ⟨m,i,none⟩ v).heap[m]?=some (.cells (c.set i v).toArray T fr):=by
 simp[World.setCell,Array.getElem?_modify,h]
def cn (x y z:Nat):Nat→Nat
 | 0=>0
 | 1=>x
 | 2=>x+y
 | _=>x+y+z
def gt0 (n:Nat):Bool:=decide (0<n)
set_option maxHeartbeats 3200000 in
theorem ztN (g t:Nat)(l:List UInt8)(w:World)(hl:l.length≤4294967296)(h:jj g t w)
  (hcnt:∀(c:UInt8) (w:World),Calls Tryz.prog 94 #[.string ⟨l.toArray⟩,.string ⟨#[c]⟩] w fun e w'=>e = .returned (.int .i64 (l.count c))∧w'=w):
  Calls Tryz.prog 416 #[.pointer (some ⟨g,0,none⟩),.string ⟨l.toArray⟩] w fun e w'=>e = .returned (.string ⟨(yw l).toArray⟩)∧Below w.heap.size w w':=by
 have htr:=h.tr
 have hsz:(ByteArray.mk l.toArray).size=l.length:=rfl
 have q10:=hcnt 10
 have q34:=hcnt 34
 have q92:=hcnt 92
 have hN:=zjH l
 have hNl:qx l≤l.length:=List.countP_le_length
 have hc10:=List.count_le_length (a:=(10:UInt8)) (l:=l)
 have hc34:=List.count_le_length (a:=(34:UInt8)) (l:=l)
 have hc92:=List.count_le_length (a:=(92:UInt8)) (l:=l)
 clear hcnt
 generalize l.count 10=x10 at *
 generalize l.count 34=x34 at *
 generalize l.count 92=x92 at *
 have hmk:∀(n:Nat) (w:World),n≤281474976710656→(Instr.makeSlice 60 (.int .i64 (n:Int)) (.int .i64 (n:Int))).run Tryz.prog w = .ok (.slice (some ⟨w.heap.size,0,none⟩) n n) (w.alloc (.cells (madeCells #[.int .u8 0] n) 5)):=fun n w hn=>
  run_make_row' (P:=Tryz.prog) 60 5 (.int .u8 0) 1 Tryz.underlying60 (by kernel_rfl) rfl .i64 .i64 n (by omega) (by omega) w
 go_enter Tryz.func416,Tryz.ntmps416
 go_wp2
 ·
  rename_i hbig;clear hbig
  go_loopw [5,6,32] (fun ns an i wr=>∃k:Nat,k≤3∧i = .int .i64 k∧ns = .int .i64 ((l.length+cn x10 x34 x92 k:Nat):Int)∧an = .bool (gt0 (cn x10 x34 x92 k))∧Hid (jj g t wr)∧Hid (Below w.heap.size w wr)) (fun _ _ i _=>3 - (RowKit.intOf i).toNat)
  case atStart=>exact⟨0,by omega,rfl,rfl,rfl,h,Below.refl _ _⟩
  case round=>
   obtain⟨k,hk,rfl,rfl,rfl,hR,hB⟩:=hrel
   have hR':=hR.out
   have k0:=hR'.t0
   have k1:=hR'.t1
   have k2:=hR'.t2
   obtain⟨m10,e10,y10,g10,_,_,_,_⟩:=hR'.hit 10 rfl
   obtain⟨m34,e34,y34,g34,_,_,_,_⟩:=hR'.hit 34 rfl
   obtain⟨m92,e92,y92,g92,_,_,_,_⟩:=hR'.hit 92 rfl
   simp only[show(10:UInt8).toNat=10 from rfl,show(34:UInt8).toNat=34 from rfl,show(92:UInt8).toNat=92 from rfl]at g10 g34 g92
   clear hR'
   rcases(show k=0∨k=1∨k=2∨k=3 by omega)with rfl | rfl | rfl | rfl
   ·
    simp only[cn]
    go_wp2_with (go_at_call 94;refine(q10 _).mono ?_;rintro e w' ⟨rfl,rfl⟩)
    ·
     have hne:((x10:Int) != 0)=true:=by assumption
     have hne':¬x10=0:=by simpa using hne
     go_region
     go_wp2
     go_roundw
     case rel=>exact⟨1,by omega,rfl,rfl,by simp only[gt0,cn];rw[decide_eq_true (by omega)],hR.out.below (zfF _),hB.out.trans (YE _ _)⟩
     case measure=>simp[RowKit.intOf]
    ·
     have hne:((x10:Int) != 0)=false:=by assumption
     have hne':x10=0:=by simpa using hne
     go_roundw
     case rel=>exact⟨1,by omega,rfl,by simp only[cn];congr 1;omega,by simp only[cn,hne',Nat.add_zero],hR,hB⟩
     case measure=>simp[RowKit.intOf]
   ·
    simp only[cn]
    go_wp2_with (go_at_call 94;refine(q34 _).mono ?_;rintro e w' ⟨rfl,rfl⟩)
    ·
     have hne:((x34:Int) != 0)=true:=by assumption
     have hne':¬x34=0:=by simpa using hne
     go_region
     go_wp2
     go_roundw
     case rel=>exact⟨2,by omega,rfl,by simp only[cn];congr 1;omega,by simp only[gt0,cn];rw[decide_eq_true (by omega)],hR.out.below (zfF _),hB.out.trans (YE _ _)⟩
     case measure=>simp[RowKit.intOf]
    ·
     have hne:((x34:Int) != 0)=false:=by assumption
     have hne':x34=0:=by simpa using hne
     go_roundw
     case rel=>exact⟨2,by omega,rfl,by simp only[cn];congr 1;omega,by simp only[cn,hne',Nat.add_zero],hR,hB⟩
     case measure=>simp[RowKit.intOf]
   ·
    simp only[cn]
    go_wp2_with (go_at_call 94;refine(q92 _).mono ?_;rintro e w' ⟨rfl,rfl⟩)
    ·
     have hne:((x92:Int) != 0)=true:=by assumption
     have hne':¬x92=0:=by simpa using hne
     go_region
     go_wp2
     go_roundw
     case rel=>exact⟨3,by omega,rfl,by simp only[cn];congr 1;omega,by simp only[gt0,cn];rw[decide_eq_true (by omega)],hR.out.below (zfF _),hB.out.trans (YE _ _)⟩
     case measure=>simp[RowKit.intOf]
    ·
     have hne:((x92:Int) != 0)=false:=by assumption
     have hne':x92=0:=by simpa using hne
     go_roundw
     case rel=>exact⟨3,by omega,rfl,by simp only[cn];congr 1;omega,by simp only[cn,hne',Nat.add_zero],hR,hB⟩
     case measure=>simp[RowKit.intOf]
   ·
    simp only[cn,←hN]
    generalize hNN:qx l=N at *
    generalize hnn:l.length+N=n at *
    clear hN q10 q34 q92 g10 g34 g92 k0 k1 k2
    have hmk':=fun w=>hmk n w (by omega)
    clear hmk
    rename World=>w1
    go_wp2
    ·
     have hg0:(!gt0 N)=true:=by assumption
     have:N=0:=by unfold gt0 at hg0;simpa using hg0
     refine bodyPost_ret (results_tmp rfl _ _ _) rfl ?_
     refine⟨?_,hB.out⟩
     rw[zgc (hNN.trans this)];rfl
    ·
     clear hmk'
     generalize ((3:Nat):Int)=z3
     have hgz:(!gt0 N)=false:=by assumption
     simp only[hgz]
     obtain⟨m,hm0⟩:∃m,m=w1.heap.size:=⟨_,rfl⟩
     rw[←hm0]
     have hm:Hid (m=w1.heap.size):=hm0
     clear hm0
     have hlen:(yw l).length=n:=by rw[zbZ,hNN,hnn]
     go_loopw [13,14] (fun j i w2=>∃k:Nat,k≤l.length∧i = .int .i64 k∧j = .int .i64 (yt l k)∧Hid (w2.heap[m]?=some (.cells (qo l n k).toArray 5 (0,0)))∧Hid (Below m w1 w2)) (fun _ i _=>l.length - (RowKit.intOf i).toNat)
     case atStart=>exact⟨0,by omega,rfl,rfl,by show(w1.heap.push _)[m]?=_;rw[hm.out,Array.getElem?_push_size,ziP];rfl,(Below.refl _ _).alloc (by rw[hm.out];exact Nat.le_refl _) _⟩
     case round=>
      obtain⟨k,hk,rfl,rfl,hbuf,hB2⟩:=hrel
      have hR2:jj g t wr:=(hR.out).below (by rw[←hm.out];exact hB2.out)
      have hmlt:m<wr.heap.size:=(Array.getElem?_eq_some_iff.1 hbuf.out).1
      by_cases hlt:k<l.length
      ·
       obtain⟨x,hx⟩:∃x,x=l[k]:=⟨_,rfl⟩
       have hget:∀h,(ByteArray.mk l.toArray)[k]'h=x:=fun h=>hx.symm
       have hx256:x.toNat<256:=x.toNat_lt
       have hx256i:(x.toNat:Int)<256:=by omega
       have hlti:(k:Int)<l.length:=by omega
       have hmono:=zjG l (k+1)
       have hsucc:=zlI hlt
       rw[←hx]at hsucc
       clear hx
       rw[hlen,show yw (l.take (k+1))=Qp l (k+1)from rfl,hsucc,List.length_append]at hmono
       cases hb:jX x with
       | true=>
        obtain⟨a,cap,y,r1,ra,r2,r3,he⟩:=hR2.hit x hb
        rw[he]at hmono hsucc
        have hroom:yt l k+2≤n:=hmono
        have n1:∀w:World,(binOp .neq 60 (.slice (some ⟨a,0,none⟩) 2 cap) (.slice none 0 0)).run Tryz.prog w = .ok (.bool true) w:=fun w=>run_neq_slice_nil (P:=Tryz.prog) (w:=w) 60 5 (some ⟨a,0,none⟩) 2 cap Tryz.underlying60
        clear hmono hR2
        have hsl:(yt l k:Int)≤n:=by omega
        have hne:¬n=yt l k:=by omega
        have hbl:(qo l n k).length=n:=zfG (by unfold yt at hroom;omega)
        have hsrc:∀(j:Nat) (v:Value),([92,y].map u8v)[j]?=some v→wr.cell? ((⟨a,0,none⟩:Addr).add j)=some v:=by
         intro j v hj
         match j,hj with
         | 0,hj=>rw[←hj];exact r2
         | 1,hj=>rw[←hj];exact r3
        have hfit:yt l k+([92,y].map u8v).length≤(qo l n k).length:=by rw[hbl];exact hroom
        have hone:∀v∈[92,y].map u8v,v.oneCell'=true:=by simp[u8v,Value.oneCell']
        have hmin:([92,y].map u8v).length=Nat.min 2 (n - yt l k):=(Nat.min_eq_left (by omega)).symm
        have Hs:Hid (qo l n (k+1)=splice (qo l n k) (yt l k) ([92,y].map u8v)):=by
         have:=zfH (Qp l k) [92,y] n hroom
         show _=_
         unfold qo yt
         rw[this,hsucc]
        have Ho:Hid (yt l (k+1)=yt l k+2):=by show _=_;unfold yt;rw[hsucc,List.length_append];rfl
        clear hsucc
        go_wp2
        go_region_law (refine step_copy_splice rfl (.tmp 105) (.tmp 111) 60 60 rfl 5 Tryz.underlying60 (by kernel_rfl) (some ⟨m,yt l k,none⟩) (some ⟨a,0,none⟩) (n - yt l k) (n - yt l k) 2 cap (by simp[Act.eval,Act.put]) (by simp[Act.eval,Act.put]) m (yt l k) (qo l n k) 5 hbuf.out ([92,y].map u8v) hmin (fun _=>⟨rfl,_,rfl,hsrc⟩) hfit hone m w1 (hB2.out.trans (YE _ _)) (Nat.le_refl m) ?_;intro w4 hg4 hb4)
        go_wp2
        go_roundw
        case rel=>
         refine⟨k+1,by omega,by go_num,?_,?_,hb4⟩
         ·
          rw[Ho.out];simp
         ·
          show _=_
          rw[hg4.out,Hs.out]
        case measure=>simp[RowKit.intOf];omega
       | false=>
        have r1:=hR2.miss x hb
        rw[zga hb]at hmono hsucc
        have hroom:yt l k+1≤n:=hmono
        have hrooi:(yt l k:Int)<n:=by omega
        have c1:wr.cell? ⟨m,yt l k,none⟩=some (.int .u8 0):=by
         have:(qo l n k)[yt l k]?=some (.int .u8 0):=by
          unfold qo jS yt
          rw[List.getElem?_append_right (by simp),List.length_map,Nat.sub_self,List.getElem?_replicate,if_pos (by unfold yt at hroom;omega)]
         simp[World.cell?,hbuf.out,this]
        have f1:wr.frozen? ⟨m,yt l k,none⟩=false:=by simp[World.frozen?,hbuf.out]
        have n1:∀w:World,(binOp .neq 60 (.slice none 0 0) (.slice none 0 0)).run Tryz.prog w = .ok (.bool false) w:=fun w=>run_neq_slice_nil (P:=Tryz.prog) (w:=w) 60 5 none 0 0 Tryz.underlying60
        clear hmono hR2
        go_wp2
        go_roundw
        case rel=>
         refine⟨k+1,by omega,by go_num,?_,?_,?_⟩
         ·
          unfold yt;rw[hsucc,List.length_append];rfl
         ·
          show _=_
          rw[YU hbuf.out]
          unfold qo
          rw[hsucc]
          exact congrArg (fun c:List Value=>some (Obj.cells c.toArray 5 (0,0))) (ziO _ _ _ hroom)
         ·
          exact hB2.out.setCell (show m≤_ from Nat.le_refl m) _
        case measure=>simp[RowKit.intOf];omega
      ·
       have:k=l.length:=by omega
       subst this
       have hcv:(convert 60 9 (.slice (some ⟨m,0,none⟩) n n)).run Tryz.prog wr = .ok (.string ⟨(yw l).toArray⟩) wr:=by
        have hb:qo l n l.length=(yw l).map u8v:=by
         unfold qo jS Qp
         rw[List.take_length,hlen,Nat.sub_self];simp
        have hbu:=hbuf.out
        rw[hb]at hbu
        have:=run_convert_bytes_arg (P:=Tryz.prog) wr 60 5 Tryz.underlying60 Tryz.underlying5 m 0 n n ((yw l).map fun b=>(UInt8.toNat b:Int)) (by rw[List.length_map,hlen]) (fun i hi=>by
         rw[Nat.zero_add]
         simp[World.cell?,hbu,u8v,List.getElem?_eq_getElem (show i<(yw l).length by omega)]) 9 Tryz.underlying9
        rw[this]
        simp[strOfNums,List.map_map,Function.comp_def]
       clear hR2
       go_wp2
       refine bodyPost_ret (results_tmp rfl _ _ _) rfl ?_
       exact⟨rfl,hB.out.trans (hB2.out.mono (by rw[hm.out];exact hB.out.size))⟩
 ·
  rename_i hbig;clear hbig
  go_loopw [5,6,10] (fun ns an i wr=>∃k:Nat,k≤l.length∧i = .int .i64 k∧ns = .int .i64 ((l.length+qx (l.take k):Nat):Int)∧an = .bool (gt0 (qx (l.take k)))∧Hid (jj g t wr)∧Hid (Below w.heap.size w wr)) (fun _ _ i _=>l.length - (RowKit.intOf i).toNat)
  case atStart=>exact⟨0,by omega,rfl,by simp[qx],rfl,h,Below.refl _ _⟩
  case round=>
   obtain⟨k,hk,rfl,rfl,rfl,hR,hB⟩:=hrel
   by_cases hlt:k<l.length
   ·
    obtain⟨x,hx⟩:∃x,x=l[k]:=⟨_,rfl⟩
    have hget:∀h,(ByteArray.mk l.toArray)[k]'h=x:=fun h=>hx.symm
    have hx256:x.toNat<256:=x.toNat_lt
    have hx256i:(x.toNat:Int)<256:=by omega
    have hlti:(k:Int)<l.length:=by omega
    have hsucc:=zqq hlt
    rw[←hx]at hsucc
    clear hx hN
    have hcl:qx (l.take k)≤l.length:=Nat.le_trans List.countP_le_length (by rw[List.length_take];omega)
    generalize qx (l.take k)=c at *
    have hR2:=hR.out
    cases hb:jX x with
    | true=>
     obtain⟨a,cap,y,r1,ra,r2,r3,he⟩:=hR2.hit x hb
     rw[hb,if_pos rfl]at hsucc
     have hs:Hid (qx (l.take (k+1))=c+1):=hsucc
     have n1:∀w:World,(binOp .neq 60 (.slice (some ⟨a,0,none⟩) 2 cap) (.slice none 0 0)).run Tryz.prog w = .ok (.bool true) w:=fun w=>run_neq_slice_nil (P:=Tryz.prog) (w:=w) 60 5 (some ⟨a,0,none⟩) 2 cap Tryz.underlying60
     clear hsucc hR2
     go_wp2
     go_roundw
     case rel=>exact⟨k+1,by omega,by go_num,by rw[hs.out];go_num,by rw[hs.out];rfl,hR,hB⟩
     case measure=>simp[RowKit.intOf];omega
    | false=>
     have r1:=hR2.miss x hb
     rw[hb,if_neg (by decide)]at hsucc
     have hs:Hid (qx (l.take (k+1))=c):=hsucc
     have n1:∀w:World,(binOp .neq 60 (.slice none 0 0) (.slice none 0 0)).run Tryz.prog w = .ok (.bool false) w:=fun w=>run_neq_slice_nil (P:=Tryz.prog) (w:=w) 60 5 none 0 0 Tryz.underlying60
     clear hsucc hR2
     go_wp2
     go_roundw
     case rel=>exact⟨k+1,by omega,by go_num,by rw[hs.out],by rw[hs.out],hR,hB⟩
     case measure=>simp[RowKit.intOf];omega
   ·
    have:k=l.length:=by omega
    subst this
    simp only[List.take_length]
    clear hN
    generalize hNN:qx l=N at *
    generalize hnn:l.length+N=n at *
    have hmk':=fun w=>hmk n w (by omega)
    clear hmk
    rename World=>w1
    go_wp2
    ·
     have hg0:(!gt0 N)=true:=by assumption
     have:N=0:=by unfold gt0 at hg0;simpa using hg0
     refine bodyPost_ret (results_tmp rfl _ _ _) rfl ?_
     refine⟨?_,hB.out⟩
     rw[zgc (hNN.trans this)];rfl
    ·
     clear hmk'
     generalize ((3:Nat):Int)=z3
     have hgz:(!gt0 N)=false:=by assumption
     simp only[hgz]
     obtain⟨m,hm0⟩:∃m,m=w1.heap.size:=⟨_,rfl⟩
     rw[←hm0]
     have hm:Hid (m=w1.heap.size):=hm0
     clear hm0
     have hlen:(yw l).length=n:=by rw[zbZ,hNN,hnn]
     go_loopw [13,14] (fun j i w2=>∃k:Nat,k≤l.length∧i = .int .i64 k∧j = .int .i64 (yt l k)∧Hid (w2.heap[m]?=some (.cells (qo l n k).toArray 5 (0,0)))∧Hid (Below m w1 w2)) (fun _ i _=>l.length - (RowKit.intOf i).toNat)
     case atStart=>exact⟨0,by omega,rfl,rfl,by show(w1.heap.push _)[m]?=_;rw[hm.out,Array.getElem?_push_size,ziP];rfl,(Below.refl _ _).alloc (by rw[hm.out];exact Nat.le_refl _) _⟩
     case round=>
      obtain⟨k,hk,rfl,rfl,hbuf,hB2⟩:=hrel
      have hR2:jj g t wr:=(hR.out).below (by rw[←hm.out];exact hB2.out)
      have hmlt:m<wr.heap.size:=(Array.getElem?_eq_some_iff.1 hbuf.out).1
      by_cases hlt:k<l.length
      ·
       obtain⟨x,hx⟩:∃x,x=l[k]:=⟨_,rfl⟩
       have hget:∀h,(ByteArray.mk l.toArray)[k]'h=x:=fun h=>hx.symm
       have hx256:x.toNat<256:=x.toNat_lt
       have hx256i:(x.toNat:Int)<256:=by omega
       have hlti:(k:Int)<l.length:=by omega
       have hmono:=zjG l (k+1)
       have hsucc:=zlI hlt
       rw[←hx]at hsucc
       clear hx
       rw[hlen,show yw (l.take (k+1))=Qp l (k+1)from rfl,hsucc,List.length_append]at hmono
       cases hb:jX x with
       | true=>
        obtain⟨a,cap,y,r1,ra,r2,r3,he⟩:=hR2.hit x hb
        rw[he]at hmono hsucc
        have hroom:yt l k+2≤n:=hmono
        have n1:∀w:World,(binOp .neq 60 (.slice (some ⟨a,0,none⟩) 2 cap) (.slice none 0 0)).run Tryz.prog w = .ok (.bool true) w:=fun w=>run_neq_slice_nil (P:=Tryz.prog) (w:=w) 60 5 (some ⟨a,0,none⟩) 2 cap Tryz.underlying60
        clear hmono hR2
        have hsl:(yt l k:Int)≤n:=by omega
        have hne:¬n=yt l k:=by omega
        have hbl:(qo l n k).length=n:=zfG (by unfold yt at hroom;omega)
        have hsrc:∀(j:Nat) (v:Value),([92,y].map u8v)[j]?=some v→wr.cell? ((⟨a,0,none⟩:Addr).add j)=some v:=by
         intro j v hj
         match j,hj with
         | 0,hj=>rw[←hj];exact r2
         | 1,hj=>rw[←hj];exact r3
        have hfit:yt l k+([92,y].map u8v).length≤(qo l n k).length:=by rw[hbl];exact hroom
        have hone:∀v∈[92,y].map u8v,v.oneCell'=true:=by simp[u8v,Value.oneCell']
        have hmin:([92,y].map u8v).length=Nat.min 2 (n - yt l k):=(Nat.min_eq_left (by omega)).symm
        have Hs:Hid (qo l n (k+1)=splice (qo l n k) (yt l k) ([92,y].map u8v)):=by
         have:=zfH (Qp l k) [92,y] n hroom
         show _=_
         unfold qo yt
         rw[this,hsucc]
        have Ho:Hid (yt l (k+1)=yt l k+2):=by show _=_;unfold yt;rw[hsucc,List.length_append];rfl
        clear hsucc
        go_wp2
        go_region_law (refine step_copy_splice rfl (.tmp 105) (.tmp 111) 60 60 rfl 5 Tryz.underlying60 (by kernel_rfl) (some ⟨m,yt l k,none⟩) (some ⟨a,0,none⟩) (n - yt l k) (n - yt l k) 2 cap (by simp[Act.eval,Act.put]) (by simp[Act.eval,Act.put]) m (yt l k) (qo l n k) 5 hbuf.out ([92,y].map u8v) hmin (fun _=>⟨rfl,_,rfl,hsrc⟩) hfit hone m w1 (hB2.out.trans (YE _ _)) (Nat.le_refl m) ?_;intro w4 hg4 hb4)
        go_wp2
        go_roundw
        case rel=>
         refine⟨k+1,by omega,by go_num,?_,?_,hb4⟩
         ·
          rw[Ho.out];simp
         ·
          show _=_
          rw[hg4.out,Hs.out]
        case measure=>simp[RowKit.intOf];omega
       | false=>
        have r1:=hR2.miss x hb
        rw[zga hb]at hmono hsucc
        have hroom:yt l k+1≤n:=hmono
        have hrooi:(yt l k:Int)<n:=by omega
        have c1:wr.cell? ⟨m,yt l k,none⟩=some (.int .u8 0):=by
         have:(qo l n k)[yt l k]?=some (.int .u8 0):=by
          unfold qo jS yt
          rw[List.getElem?_append_right (by simp),List.length_map,Nat.sub_self,List.getElem?_replicate,if_pos (by unfold yt at hroom;omega)]
         simp[World.cell?,hbuf.out,this]
        have f1:wr.frozen? ⟨m,yt l k,none⟩=false:=by simp[World.frozen?,hbuf.out]
        have n1:∀w:World,(binOp .neq 60 (.slice none 0 0) (.slice none 0 0)).run Tryz.prog w = .ok (.bool false) w:=fun w=>run_neq_slice_nil (P:=Tryz.prog) (w:=w) 60 5 none 0 0 Tryz.underlying60
        clear hmono hR2
        go_wp2
        go_roundw
        case rel=>
         refine⟨k+1,by omega,by go_num,?_,?_,?_⟩
         ·
          unfold yt;rw[hsucc,List.length_append];rfl
         ·
          show _=_
          rw[YU hbuf.out]
          unfold qo
          rw[hsucc]
          exact congrArg (fun c:List Value=>some (Obj.cells c.toArray 5 (0,0))) (ziO _ _ _ hroom)
         ·
          exact hB2.out.setCell (show m≤_ from Nat.le_refl m) _
        case measure=>simp[RowKit.intOf];omega
      ·
       have:k=l.length:=by omega
       subst this
       have hcv:(convert 60 9 (.slice (some ⟨m,0,none⟩) n n)).run Tryz.prog wr = .ok (.string ⟨(yw l).toArray⟩) wr:=by
        have hb:qo l n l.length=(yw l).map u8v:=by
         unfold qo jS Qp
         rw[List.take_length,hlen,Nat.sub_self];simp
        have hbu:=hbuf.out
        rw[hb]at hbu
        have:=run_convert_bytes_arg (P:=Tryz.prog) wr 60 5 Tryz.underlying60 Tryz.underlying5 m 0 n n ((yw l).map fun b=>(UInt8.toNat b:Int)) (by rw[List.length_map,hlen]) (fun i hi=>by
         rw[Nat.zero_add]
         simp[World.cell?,hbu,u8v,List.getElem?_eq_getElem (show i<(yw l).length by omega)]) 9 Tryz.underlying9
        rw[this]
        simp[strOfNums,List.map_map,Function.comp_def]
       clear hR2
       go_wp2
       refine bodyPost_ret (results_tmp rfl _ _ _) rfl ?_
       exact⟨rfl,hB.out.trans (hB2.out.mono (by rw[hm.out];exact hB.out.size))⟩
attribute [local go_sem] ziQ zfI zfJ zfK
theorem zhv {P:Program}{w:World}(t e:TypeId)(a:Option Addr)(l c:Nat)(h:P.underlying t=some (.slice e)):(binOp .eql t (.slice a l c) (.slice none 0 0)).run P w = .ok (.bool a.isNone) w:=by
 simp only[binOp]
 simp[run_equal_slice_nil w t e a l c h]
def stp:Nat→UInt8
 | 0=>10
 | 1=>34
 | _=>92
def iv:Nat→Int
 | 0=>4
 | 1=>2
 | 2=>0
 | _=> -2
def ord (b:UInt8):Nat:=if b=10 then 0 else if b=34 then 1 else if b=92 then 2 else 3
def tsV:Nat→List Value
 | 0=>[.string ByteArray.empty,.string ByteArray.empty,.string ByteArray.empty]
 | 1=>[.string ⟨#[10]⟩,.string ByteArray.empty,.string ByteArray.empty]
 | 2=>[.string ⟨#[10]⟩,.string ⟨#[34]⟩,.string ByteArray.empty]
 | _=>[.string ⟨#[10]⟩,.string ⟨#[34]⟩,.string ⟨#[92]⟩]
theorem zfP (w:World)(x:UInt8):(convert 60 9 (.slice (some ⟨w.heap.size,0,none⟩) 1 1)).run Tryz.prog (w.alloc (.cells #[.int .u8 (UInt8.toNat x:Nat)] 5)) = .ok (.string ⟨#[x]⟩) (w.alloc (.cells #[.int .u8 (UInt8.toNat x:Nat)] 5)):=by
 have:=run_convert_bytes_arg (P:=Tryz.prog) (w.alloc (.cells #[.int .u8 (UInt8.toNat x:Nat)] 5)) 60 5 Tryz.underlying60 Tryz.underlying5 w.heap.size 0 1 1 [(UInt8.toNat x:Int)] rfl (fun i hi=>by
  obtain rfl:i=0:=by omega
  go_simp) 9 Tryz.underlying9
 rw[this]
 simp[strOfNums]
def cpB (W:World):Nat:=grownCap W 2 0 5
def boB (W:World)(s:ByteArray):Obj:=.cells (bytesRow s (cpB W)) 5 ((bytesRow s (cpB W)).size,(bytesRow s (cpB W)).size+1)
theorem zpw (W:World)(x y:UInt8):(convert 9 60 (.string ⟨#[x,y]⟩)).run Tryz.prog W = .ok (.slice (some ⟨W.heap.size,0,none⟩) 2 (cpB W)) (W.drew.alloc (boB W ⟨#[x,y]⟩)):=by
 have:=run_bytes_of_string (P:=Tryz.prog) W 9 60 5 ⟨#[x,y]⟩ Tryz.underlying9 Tryz.underlying60 Tryz.underlying5
 exact this
structure QW (g t:Nat) (k:Nat) (w0 w:World):Prop where
 row:∃f,w.rowIs g 438 257 f∧f 256 = .slice (some ⟨t,0,none⟩) k 3∧
  (∀b:UInt8,ord b<k→∃m cap y,f b.toNat = .slice (some ⟨m,0,none⟩) 2 cap∧m<w.heap.size∧w.cell? ⟨m,0,none⟩=some (.int .u8 92)∧w.cell? ⟨m,1,none⟩=some (.int .u8 (UInt8.toNat y:Nat))∧jU b=[92,y])∧
  (∀b:UInt8,k≤ord b→f b.toNat = .slice none 0 0)
 ts:w.heap[t]?=some (.cells (tsV k).toArray 9 (0,0))
 bel:Below w0.heap.size w0 w
def sty:Nat→UInt8
 | 0=>110
 | 1=>34
 | _=>92
theorem zlH {k:Nat}(hk:k<3):ord (stp k)=k:=by
 match k,hk with
 | 0,_=>rfl
 | 1,_=>rfl
 | 2,_=>rfl
theorem zsV {k:Nat}(hk:k<3){b:UInt8}(h:ord b=k):b=stp k:=by
 unfold ord at h
 by_cases h1:b=10
 ·
  rw[if_pos h1]at h;subst h;exact h1
 ·
  rw[if_neg h1]at h
  by_cases h2:b=34
  ·
   rw[if_pos h2]at h;subst h;exact h2
  ·
   rw[if_neg h2]at h
   by_cases h3:b=92
   ·
    rw[if_pos h3]at h;subst h;exact h3
   ·
    rw[if_neg h3]at h;omega
theorem zqr {k:Nat}(hk:k<3):jU (stp k)=[92,sty k]:=by
 match k,hk with
 | 0,_=>rfl
 | 1,_=>rfl
 | 2,_=>rfl
theorem zvZ {k:Nat}(hk:k<3):(tsV k).set k (.string ⟨#[stp k]⟩)=tsV (k+1):=by
 match k,hk with
 | 0,_=>rfl
 | 1,_=>rfl
 | 2,_=>rfl
theorem vN {w:World}{m i:Nat}{a:Addr}(v:Value)(ha:m≠a.block):(w.setCell a v).heap[m]?=w.heap[m]?:=by
 simp[World.setCell,Array.getElem?_modify,Ne.symm ha]
theorem zcb {w:World}{m:Nat}(o:Obj)(h:m<w.heap.size):(w.alloc o).heap[m]?=w.heap[m]?:=by
 show(w.heap.push o)[m]?=_
 rw[Array.getElem?_push,if_neg (by omega)]
theorem zfE {g t k:Nat}{w0 wr:World}(hk:k<3)(h:QW g t k w0 wr)(hgt:g≠t)(hg0:w0.heap.size≤g)(ht0:w0.heap.size≤t):
  ∃W3 W4 m cap,W3=(((wr.setCell ⟨t,k,none⟩ (.string ⟨#[stp k]⟩)).setCell ⟨g,256,none⟩ (.slice (some ⟨t,0,none⟩) (k+1) 3)).alloc (.cells #[.int .u8 (UInt8.toNat (stp k):Nat)] 5)).alloc (.cells #[.string ⟨#[stp k]⟩] 9)∧
   (convert 9 60 (.string ⟨#[92,sty k]⟩)).run Tryz.prog W3 = .ok (.slice (some ⟨m,0,none⟩) 2 cap) W4∧W4.cell? ⟨g,(stp k).toNat,none⟩=some (.slice none 0 0)∧W4.frozen? ⟨g,(stp k).toNat,none⟩=false∧
   QW g t (k+1) w0 (W4.setCell ⟨g,(stp k).toNat,none⟩ (.slice (some ⟨m,0,none⟩) 2 cap)):=by
 obtain⟨⟨f,hrow,h256,hdone,htodo⟩,hts,hbel⟩:=h
 have hglt:=hrow.lt
 have htlt:t<wr.heap.size:=(Array.getElem?_eq_some_iff.1 hts).1
 have hb256:(stp k).toNat<256:=(stp k).toNat_lt
 obtain⟨W1,hW1⟩:∃W1,W1=(wr.setCell ⟨t,k,none⟩ (.string ⟨#[stp k]⟩)).setCell ⟨g,256,none⟩ (.slice (some ⟨t,0,none⟩) (k+1) 3):=⟨_,rfl⟩
 have hs1:W1.heap.size=wr.heap.size:=by rw[hW1];simp
 have r1:W1.rowIs g 438 257 (fun j=>if j=256 then .slice (some ⟨t,0,none⟩) (k+1) 3 else f j):=by rw[hW1];exact(hrow.setOther (a:=⟨t,k,none⟩) hgt _).set 256 _
 have t1:W1.heap[t]?=some (.cells (tsV (k+1)).toArray 9 (0,0)):=by
  rw[hW1,vN (i:=0) _ (Ne.symm hgt),YU hts,zvZ hk]
 have b1:Below w0.heap.size w0 W1:=by rw[hW1];exact(hbel.setCell ht0 _).setCell hg0 _
 have old1:∀m j,m<wr.heap.size→m≠g→m≠t→W1.cell? ⟨m,j,none⟩=wr.cell? ⟨m,j,none⟩:=by
  intro m j hm h1 h2
  rw[hW1]
  refine World.cell?_of_block ?_
  rw[vN (i:=0) _ h1,vN (i:=0) _ h2]
 obtain⟨W2,hW2⟩:∃W2,W2=W1.alloc (.cells #[.int .u8 (UInt8.toNat (stp k):Nat)] 5):=⟨_,rfl⟩
 obtain⟨W3,hW3⟩:∃W3,W3=W2.alloc (.cells #[.string ⟨#[stp k]⟩] 9):=⟨_,rfl⟩
 obtain⟨W4,hW4⟩:∃W4,W4=W3.drew.alloc (boB W3 ⟨#[92,sty k]⟩):=⟨_,rfl⟩
 have hs2:W2.heap.size=wr.heap.size+1:=by rw[hW2];show(W1.heap.push _).size=_;rw[Array.size_push,hs1]
 have hs3:W3.heap.size=wr.heap.size+2:=by rw[hW3];show(W2.heap.push _).size=_;rw[Array.size_push,hs2]
 have hs4:W4.heap.size=wr.heap.size+3:=by rw[hW4];show(W3.heap.push _).size=_;rw[Array.size_push,hs3]
 have e4:∀m,m<wr.heap.size→W4.heap[m]?=W1.heap[m]?:=by
  intro m hm
  rw[hW4,zcb _ (by show m<W3.heap.size;omega)]
  show W3.heap[m]?=_
  rw[hW3,zcb _ (by omega),hW2,zcb _ (by omega)]
 have r4:W4.rowIs g 438 257 (fun j=>if j=256 then .slice (some ⟨t,0,none⟩) (k+1) 3 else f j):=r1.of_block (e4 g hglt)
 have b4:Below w0.heap.size w0 W4:=by
  have hsz:w0.heap.size≤wr.heap.size:=hbel.size
  refine b1.trans ?_
  rw[hW4]
  have a1:Below w0.heap.size W1 W2:=by rw[hW2];exact(Below.refl _ _).alloc (by omega) _
  have a2:Below w0.heap.size W1 W3:=by rw[hW3];exact a1.alloc (by omega) _
  exact(a2.trans (YE _ _)).alloc (by show _≤W3.heap.size;omega) _
 have c4:W4.cell? ⟨g,(stp k).toNat,none⟩=some (.slice none 0 0):=by
  rw[r4.cell (by omega),if_neg (by omega),htodo _ (Nat.le_of_eq (zlH hk).symm)]
 have m4:W4.heap[W3.heap.size]?=some (boB W3 ⟨#[92,sty k]⟩):=by
  rw[hW4];show(W3.heap.push _)[W3.heap.size]?=_
  rw[Array.getElem?_push_size]
 refine⟨W3,W4,W3.heap.size,cpB W3,by rw[hW3,hW2,hW1],by rw[hW4];exact zpw W3 92 (sty k),c4,r4.frozen _,⟨_,r4.set (stp k).toNat _,?_,?_,?_⟩,?_,?_⟩
 ·
  rw[if_neg (by omega),if_pos rfl]
 ·
  intro b hb
  have hbk:b.toNat<256:=b.toNat_lt
  have hsz5:∀(a:Addr) (v:Value),(W4.setCell a v).heap.size=wr.heap.size+3:=fun a v=>by rw[←hs4];simp
  by_cases hbs:b=stp k
  ·
   subst hbs
   refine⟨W3.heap.size,cpB W3,sty k,if_pos rfl,by rw[hsz5];omega,?_,?_,zqr hk⟩
   ·
    rw[World.cell?_of_block (vN (i:=0) _ (by show W3.heap.size≠g;omega))]
    simp[World.cell?,m4,boB,bytesRow]
    rw[Array.getElem?_append_left (by simp)];rfl
   ·
    rw[World.cell?_of_block (vN (i:=0) _ (by show W3.heap.size≠g;omega))]
    simp[World.cell?,m4,boB,bytesRow]
    rw[Array.getElem?_append_left (by simp)];rfl
  ·
   have hlt:ord b<k:=by
    have:ord b≠k:=fun e=>hbs (zsV hk e)
    omega
   obtain⟨m,cap,y,q1,q2,q3,q4,q5⟩:=hdone b hlt
   have hne:¬b.toNat=(stp k).toNat:=fun e=>hbs (UInt8.toNat_inj.1 e)
   have hmg:m≠g:=by
    rintro rfl
    have:=hrow.cell (i:=0) (by decide)
    rw[q3]at this
    have hz:=htodo 0 (by have:ord 0=3:=rfl;omega)
    rw[show(0:UInt8).toNat=0 from rfl]at hz
    rw[hz]at this;cases this
   have hmt:m≠t:=by
    rintro rfl
    simp[World.cell?,hts]at q3
    match k,hk,q3 with
    | 0,_,q3=>simp[tsV]at q3
    | 1,_,q3=>simp[tsV]at q3
    | 2,_,q3=>simp[tsV]at q3
   have hold:∀j,(W4.setCell ⟨g,(stp k).toNat,none⟩ (.slice (some ⟨W3.heap.size,0,none⟩) 2 (cpB W3))).cell? ⟨m,j,none⟩=wr.cell? ⟨m,j,none⟩:=fun j=>by
    rw[World.cell?_of_block (vN (i:=0) _ (by exact hmg)),World.cell?_of_block (e4 m q2),old1 m j q2 hmg hmt]
   exact⟨m,cap,y,by rw[if_neg hne,if_neg (by omega)];exact q1,by rw[hsz5];omega,(hold 0).trans q3,(hold 1).trans q4,q5⟩
 ·
  intro b hb
  have hbk:b.toNat<256:=b.toNat_lt
  have hne:¬b.toNat=(stp k).toNat:=fun e=>by
   have:=UInt8.toNat_inj.1 e
   rw[this,zlH hk]at hb;omega
  rw[if_neg hne,if_neg (by omega)]
  exact htodo b (by omega)
 ·
  rw[vN (i:=0) _ (by exact Ne.symm hgt),e4 t htlt,t1]
 ·
  exact b4.setCell hg0 _
theorem zty {g t:Nat}{w0 w:World}(h:QW g t 3 w0 w):jj g t w:=by
 obtain⟨⟨f,hrow,h256,hdone,htodo⟩,hts,hbel⟩:=h
 refine⟨fun b hb=>?_,fun b hb=>?_,?_,?_,?_,?_,hrow.lt,(Array.getElem?_eq_some_iff.1 hts).1⟩
 ·
  have:ord b<3:=by
   unfold jX at hb
   unfold ord
   simp only[Bool.or_eq_true,beq_iff_eq]at hb
   rcases hb with(h | h) | h<;>subst h<;>decide
  obtain⟨m,cap,y,q1,q2⟩:=hdone b this
  exact⟨m,cap,y,by rw[hrow.cell (by have:=b.toNat_lt;omega),q1],q2⟩
 ·
  have:ord b=3:=by
   unfold jX at hb
   simp only[Bool.or_eq_false_iff,beq_eq_false_iff_ne]at hb
   unfold ord
   rw[if_neg hb.1.1,if_neg hb.1.2,if_neg hb.2]
  rw[hrow.cell (by have:=b.toNat_lt;omega),htodo b (by omega)]
 ·
  rw[hrow.cell (by decide),h256]
 ·
  simp[World.cell?,hts,tsV]
 ·
  simp[World.cell?,hts,tsV]
 ·
  simp[World.cell?,hts,tsV]
theorem znK:Tryz.zeroCells438=Array.replicate 257 (.slice none 0 0):=by kernel_rfl
theorem zoP (w:World):QW (w.heap.size+1) w.heap.size 0 w ((w.alloc (.cells #[.string ByteArray.empty,.string ByteArray.empty,.string ByteArray.empty] 9)).alloc (.cells (Tryz.zeroCells438.setIfInBounds 256 (.slice (some ⟨w.heap.size,0,none⟩) 0 3)) 438)):=by
 have hs:(w.alloc (.cells #[.string ByteArray.empty,.string ByteArray.empty,.string ByteArray.empty] 9)).heap.size=w.heap.size+1:=by show(w.heap.push _).size=_;rw[Array.size_push]
 refine⟨⟨fun j=>if j=256 then .slice (some ⟨w.heap.size,0,none⟩) 0 3 else .slice none 0 0,⟨Tryz.zeroCells438.setIfInBounds 256 (.slice (some ⟨w.heap.size,0,none⟩) 0 3),?_,?_,fun i hi=>?_⟩,if_pos rfl,fun b hb=>by omega,fun b _=>if_neg (by have:=b.toNat_lt;omega)⟩,?_,?_⟩
 ·
  show((w.alloc _).heap.push _)[w.heap.size+1]?=_
  rw[←hs,Array.getElem?_push_size]
 ·
  rw[Array.size_setIfInBounds,znK];simp
 ·
  rw[Array.getElem?_setIfInBounds,znK]
  by_cases e:i=256
  ·
   subst e;simp
  ·
   rw[if_neg (fun h=>e h.symm)]
   simp[hi,e]
 ·
  rw[zcb _ (by rw[hs];omega)]
  show(w.heap.push _)[w.heap.size]?=_
  rw[Array.getElem?_push_size];rfl
 ·
  exact((Below.refl _ w).alloc (Nat.le_refl _) _).alloc (by rw[hs];omega) _
set_option maxHeartbeats 3200000 in
theorem zoO (b o C:Nat)(w:World)(ho:o<w.heap.size)(hbl:b<w.heap.size)(hb:w.cell? ⟨b,4,none⟩=some (.slice (some ⟨o,0,none⟩) 6 C))
  (c0:w.cell? ⟨o,0,none⟩=some (.string ⟨#[92]⟩)) (c1:w.cell? ⟨o,1,none⟩=some (.string ⟨#[92,92]⟩)) (c2:w.cell? ⟨o,2,none⟩=some (.string ⟨#[34]⟩)) (c3:w.cell? ⟨o,3,none⟩=some (.string ⟨#[92,34]⟩)) (c4:w.cell? ⟨o,4,none⟩=some (.string ⟨#[10]⟩)) (c5:w.cell? ⟨o,5,none⟩=some (.string ⟨#[92,110]⟩)):
  Calls Tryz.prog 297 #[.pointer (some ⟨b,0,none⟩)] w fun e w'=>∃g t,e = .returned (.iface 439 (.pointer (some ⟨g,0,none⟩)))∧jj g t w'∧Below w.heap.size w w':=by
 have hmk:(Instr.makeSlice 51 (.int .i64 0) (.int .i64 3)).run Tryz.prog w = .ok (.slice (some ⟨w.heap.size,0,none⟩) 0 3) (w.alloc (.cells #[.string ByteArray.empty,.string ByteArray.empty,.string ByteArray.empty] 9)):=by
  obtain⟨i,hi,hz,hs,hb⟩:=info_parts (show(Tryz.prog.info? 9).map (fun i=>(i.zero,i.size,i.bytes))=some (some (.string ByteArray.empty),1,16)from by kernel_rfl)
  have:=run_make (P:=Tryz.prog) w 51 9 i _ Tryz.underlying51 hi hz .i64 .i64 0 3 (by decide) (by decide) (by rw[hb];decide) (by decide)
  rw[hs]at this
  have hm:madeCells (Value.string ByteArray.empty).cells (Int.toNat 3*1)=#[.string ByteArray.empty,.string ByteArray.empty,.string ByteArray.empty]:=by kernel_rfl
  rw[hm]at this
  exact this
 have hst:(storeCells ⟨w.heap.size+1,0,none⟩ (Tryz.zeroCells438.toList.set 256 (.slice (some ⟨w.heap.size,0,none⟩) 0 3))).run Tryz.prog ((w.alloc (.cells #[.string ByteArray.empty,.string ByteArray.empty,.string ByteArray.empty] 9)).alloc (.cells Tryz.zeroCells438 438))
   = .ok () ((w.alloc (.cells #[.string ByteArray.empty,.string ByteArray.empty,.string ByteArray.empty] 9)).alloc (.cells (Tryz.zeroCells438.setIfInBounds 256 (.slice (some ⟨w.heap.size,0,none⟩) 0 3)) 438)):=by
  have h:=run_storeCells_new (P:=Tryz.prog) (w.alloc (.cells #[.string ByteArray.empty,.string ByteArray.empty,.string ByteArray.empty] 9)) 438 Tryz.zeroCells438 (Tryz.zeroCells438.setIfInBounds 256 (.slice (some ⟨w.heap.size,0,none⟩) 0 3)) (by rw[Array.size_setIfInBounds];kernel_rfl) (by rw[Array.size_setIfInBounds]) (by kernel_rfl)
  have hsz:(w.alloc (.cells #[.string ByteArray.empty,.string ByteArray.empty,.string ByteArray.empty] 9)).heap.size=w.heap.size+1:=by show(w.heap.push _).size=_;rw[Array.size_push]
  rw[hsz,Array.toList_setIfInBounds]at h
  exact h
 go_enter Tryz.func297,Tryz.ntmps297
 go_wp2
 go_rounds 4
 clear hmk hst
 generalize hW:((w.alloc (.cells #[.string ByteArray.empty,.string ByteArray.empty,.string ByteArray.empty] 9)).alloc (.cells (Tryz.zeroCells438.setIfInBounds 256 (.slice (some ⟨w.heap.size,0,none⟩) 0 3)) 438))=W
 obtain⟨t,ht⟩:∃t,t=w.heap.size:=⟨_,rfl⟩
 obtain⟨g,hg⟩:∃g,g=w.heap.size+1:=⟨_,rfl⟩
 rw[←hg]
 have Hg:Hid (g=w.heap.size+1):=hg
 have Ht:Hid (t=w.heap.size):=ht
 have hgt:¬g=t:=by omega
 clear hg ht
 go_loopw [12] (fun i wr=>∃k:Nat,k≤3∧i = .int .i64 (iv k)∧QW g t k w wr) (fun i _=>(6+RowKit.intOf i).toNat)
 case atStart=>exact⟨0,by omega,rfl,by rw[←hW,Hg.out,Ht.out];exact zoP w⟩
 case round=>
  obtain⟨k,hk,rfl,hI⟩:=hrel
  rcases(show k=0∨k=1∨k=2∨k=3 by omega)with rfl | rfl | rfl | rfl
  ·
   obtain⟨W3,W4,m,cap,hW3,hcv,hc4,hf4,hI2⟩:=zfE (k:=0) (by decide) hI hgt (by rw[Hg.out];omega) (by rw[Ht.out];exact Nat.le_refl _)
   obtain⟨⟨f,hrow,h256,hdone,htodo⟩,hts,hbel⟩:=hI
   have hglt:=hrow.lt
   have htlt:t<wr.heap.size:=(Array.getElem?_eq_some_iff.1 hts).1
   have holt:o<wr.heap.size:=Nat.lt_of_lt_of_le ho hbel.size
   have g256:=hrow.cell (i:=256) (by decide)
   rw[h256]at g256
   have gf256:=hrow.frozen 256
   have HI2:Hid (QW g t 1 w (W4.setCell ⟨g,(stp 0).toNat,none⟩ (.slice (some ⟨m,0,none⟩) 2 cap))):=hI2
   have Hcv:Hid ((convert 9 60 (.string ⟨#[92,110]⟩)).run Tryz.prog W3 = .ok (.slice (some ⟨m,0,none⟩) 2 cap) W4):=hcv
   have HW3:Hid (W3=(((wr.setCell ⟨t,0,none⟩ (.string ⟨#[10]⟩)).setCell ⟨g,256,none⟩ (.slice (some ⟨t,0,none⟩) 1 3)).alloc (.cells #[.int .u8 10] 5)).alloc (.cells #[.string ⟨#[10]⟩] 9)):=hW3
   have Hc4:Hid (W4.cell? ⟨g,10,none⟩=some (.slice none 0 0)):=hc4
   have Hf4:Hid (W4.frozen? ⟨g,10,none⟩=false):=hf4
   clear hI2 hcv hW3 hc4 hf4
   simp only[iv]
   have e4:=(hbel.cell (p:=⟨o,4,none⟩) ho).trans c4
   have e5:=(hbel.cell (p:=⟨o,5,none⟩) ho).trans c5
   have g10:=hrow.cell (i:=10) (by decide)
   rw[show(10:Nat)=(10:UInt8).toNat from rfl,htodo 10 (by decide)]at g10
   rw[zfI]at g10
   have gf10:=hrow.frozen 10
   have t0:wr.cell? ⟨t,0,none⟩=some (.string ByteArray.empty):=by simp[World.cell?,hts,tsV]
   have tf0:wr.frozen? ⟨t,0,none⟩=false:=by simp[World.frozen?,hts]
   have q1:∀w:World,(binOp .eql 60 (.slice none 0 0) (.slice none 0 0)).run Tryz.prog w = .ok (.bool true) w:=fun w=>zhv (P:=Tryz.prog) (w:=w) 60 5 none 0 0 Tryz.underlying60
   have cv:(convert 60 9 (.slice (some ⟨wr.heap.size,0,none⟩) 1 1)).run Tryz.prog (wr.alloc (.cells #[.int .u8 10] 5)) = .ok (.string ⟨#[10]⟩) (wr.alloc (.cells #[.int .u8 10] 5)):=zfP wr 10
   clear hdone htodo hrow hts h256 hbel
   go_wp2
   rw[←HW3.out]
   rw[Hcv.out]
   simp only[Result.andThen]
   rw[Oper.upon_value]
   have c10:=Hc4.out
   have f10:=Hf4.out
   go_wp2
   go_roundw
   case rel=>exact⟨1,by omega,rfl,HI2.out⟩
   case measure=>decide
  ·
   obtain⟨W3,W4,m,cap,hW3,hcv,hc4,hf4,hI2⟩:=zfE (k:=1) (by decide) hI hgt (by rw[Hg.out];omega) (by rw[Ht.out];exact Nat.le_refl _)
   obtain⟨⟨f,hrow,h256,hdone,htodo⟩,hts,hbel⟩:=hI
   have hglt:=hrow.lt
   have htlt:t<wr.heap.size:=(Array.getElem?_eq_some_iff.1 hts).1
   have holt:o<wr.heap.size:=Nat.lt_of_lt_of_le ho hbel.size
   have g256:=hrow.cell (i:=256) (by decide)
   rw[h256]at g256
   have gf256:=hrow.frozen 256
   have HI2:Hid (QW g t 2 w (W4.setCell ⟨g,(stp 1).toNat,none⟩ (.slice (some ⟨m,0,none⟩) 2 cap))):=hI2
   have Hcv:Hid ((convert 9 60 (.string ⟨#[92,34]⟩)).run Tryz.prog W3 = .ok (.slice (some ⟨m,0,none⟩) 2 cap) W4):=hcv
   have HW3:Hid (W3=(((wr.setCell ⟨t,1,none⟩ (.string ⟨#[34]⟩)).setCell ⟨g,256,none⟩ (.slice (some ⟨t,0,none⟩) 2 3)).alloc (.cells #[.int .u8 34] 5)).alloc (.cells #[.string ⟨#[34]⟩] 9)):=hW3
   have Hc4:Hid (W4.cell? ⟨g,34,none⟩=some (.slice none 0 0)):=hc4
   have Hf4:Hid (W4.frozen? ⟨g,34,none⟩=false):=hf4
   clear hI2 hcv hW3 hc4 hf4
   simp only[iv]
   have e4:=(hbel.cell (p:=⟨o,2,none⟩) ho).trans c2
   have e5:=(hbel.cell (p:=⟨o,3,none⟩) ho).trans c3
   have g10:=hrow.cell (i:=34) (by decide)
   rw[show(34:Nat)=(34:UInt8).toNat from rfl,htodo 34 (by decide)]at g10
   rw[zfJ]at g10
   have gf10:=hrow.frozen 34
   have t0:wr.cell? ⟨t,1,none⟩=some (.string ByteArray.empty):=by simp[World.cell?,hts,tsV]
   have tf0:wr.frozen? ⟨t,1,none⟩=false:=by simp[World.frozen?,hts]
   have q1:∀w:World,(binOp .eql 60 (.slice none 0 0) (.slice none 0 0)).run Tryz.prog w = .ok (.bool true) w:=fun w=>zhv (P:=Tryz.prog) (w:=w) 60 5 none 0 0 Tryz.underlying60
   have cv:(convert 60 9 (.slice (some ⟨wr.heap.size,0,none⟩) 1 1)).run Tryz.prog (wr.alloc (.cells #[.int .u8 34] 5)) = .ok (.string ⟨#[34]⟩) (wr.alloc (.cells #[.int .u8 34] 5)):=zfP wr 34
   clear hdone htodo hrow hts h256 hbel
   go_wp2
   rw[←HW3.out]
   rw[Hcv.out]
   simp only[Result.andThen]
   rw[Oper.upon_value]
   have c10:=Hc4.out
   have f10:=Hf4.out
   go_wp2
   go_roundw
   case rel=>exact⟨2,by omega,rfl,HI2.out⟩
   case measure=>decide
  ·
   obtain⟨W3,W4,m,cap,hW3,hcv,hc4,hf4,hI2⟩:=zfE (k:=2) (by decide) hI hgt (by rw[Hg.out];omega) (by rw[Ht.out];exact Nat.le_refl _)
   obtain⟨⟨f,hrow,h256,hdone,htodo⟩,hts,hbel⟩:=hI
   have hglt:=hrow.lt
   have htlt:t<wr.heap.size:=(Array.getElem?_eq_some_iff.1 hts).1
   have holt:o<wr.heap.size:=Nat.lt_of_lt_of_le ho hbel.size
   have g256:=hrow.cell (i:=256) (by decide)
   rw[h256]at g256
   have gf256:=hrow.frozen 256
   have HI2:Hid (QW g t 3 w (W4.setCell ⟨g,(stp 2).toNat,none⟩ (.slice (some ⟨m,0,none⟩) 2 cap))):=hI2
   have Hcv:Hid ((convert 9 60 (.string ⟨#[92,92]⟩)).run Tryz.prog W3 = .ok (.slice (some ⟨m,0,none⟩) 2 cap) W4):=hcv
   have HW3:Hid (W3=(((wr.setCell ⟨t,2,none⟩ (.string ⟨#[92]⟩)).setCell ⟨g,256,none⟩ (.slice (some ⟨t,0,none⟩) 3 3)).alloc (.cells #[.int .u8 92] 5)).alloc (.cells #[.string ⟨#[92]⟩] 9)):=hW3
   have Hc4:Hid (W4.cell? ⟨g,92,none⟩=some (.slice none 0 0)):=hc4
   have Hf4:Hid (W4.frozen? ⟨g,92,none⟩=false):=hf4
   clear hI2 hcv hW3 hc4 hf4
   simp only[iv]
   have e4:=(hbel.cell (p:=⟨o,0,none⟩) ho).trans c0
   have e5:=(hbel.cell (p:=⟨o,1,none⟩) ho).trans c1
   have g10:=hrow.cell (i:=92) (by decide)
   rw[show(92:Nat)=(92:UInt8).toNat from rfl,htodo 92 (by decide)]at g10
   rw[zfK]at g10
   have gf10:=hrow.frozen 92
   have t0:wr.cell? ⟨t,2,none⟩=some (.string ByteArray.empty):=by simp[World.cell?,hts,tsV]
   have tf0:wr.frozen? ⟨t,2,none⟩=false:=by simp[World.frozen?,hts]
   have q1:∀w:World,(binOp .eql 60 (.slice none 0 0) (.slice none 0 0)).run Tryz.prog w = .ok (.bool true) w:=fun w=>zhv (P:=Tryz.prog) (w:=w) 60 5 none 0 0 Tryz.underlying60
   have cv:(convert 60 9 (.slice (some ⟨wr.heap.size,0,none⟩) 1 1)).run Tryz.prog (wr.alloc (.cells #[.int .u8 92] 5)) = .ok (.string ⟨#[92]⟩) (wr.alloc (.cells #[.int .u8 92] 5)):=zfP wr 92
   clear hdone htodo hrow hts h256 hbel
   go_wp2
   rw[←HW3.out]
   rw[Hcv.out]
   simp only[Result.andThen]
   rw[Oper.upon_value]
   have c10:=Hc4.out
   have f10:=Hf4.out
   go_wp2
   go_roundw
   case rel=>exact⟨3,by omega,rfl,HI2.out⟩
   case measure=>decide
  ·
   simp only[iv]
   have HI:Hid (QW g t 3 w wr):=hI
   clear hI
   go_wp2
   refine bodyPost_ret (results_tmp rfl _ _ _) rfl ?_
   exact⟨g,t,rfl,zty HI.out,HI.out.bel⟩
theorem jj.other {g t b:Nat}{w w':World}(h:jj g t w){x:Int}(h0:w.cell? ⟨b,0,none⟩=some (.int .u32 x))(h5:w.cell? ⟨b,256,none⟩=none)(hsz:w'.heap.size=w.heap.size)(hk:∀m,m≠b→w'.heap[m]?=w.heap[m]?):jj g t w':=by
 have hgb:g≠b:=by rintro rfl;rw[h.tr]at h5;cases h5
 have htb:t≠b:=by rintro rfl;rw[h.t0]at h0;cases h0
 have e:∀m j,m≠b→w'.cell? ⟨m,j,none⟩=w.cell? ⟨m,j,none⟩:=fun m j hm=>World.cell?_of_block (hk m hm)
 refine⟨fun c hc=>?_,fun c hc=>(e g _ hgb).trans (h.miss c hc),(e g _ hgb).trans h.tr,(e t _ htb).trans h.t0,(e t _ htb).trans h.t1,(e t _ htb).trans h.t2,by rw[hsz];exact h.g_lt,by rw[hsz];exact h.t_lt⟩
 obtain⟨m,cap,y,q1,q2,q3,q4,q5⟩:=h.hit c hc
 have hmb:m≠b:=by rintro rfl;rw[q3]at h0;cases h0
 exact⟨m,cap,y,(e g _ hgb).trans q1,by rw[hsz];exact q2,(e m _ hmb).trans q3,(e m _ hmb).trans q4,q5⟩
set_option maxHeartbeats 1600000 in
theorem zo1 (b o C:Nat)(w:World)(x:Int)(ho:o<w.heap.size)(hob:o≠b)(hb:w.heap[b]?=some (.cells #[.int .u32 0,.int .i32 x,.int .u32 0,.nilIface,.slice (some ⟨o,0,none⟩) 6 C] 350 (0,0)))
  (c0:w.cell? ⟨o,0,none⟩=some (.string ⟨#[92]⟩)) (c1:w.cell? ⟨o,1,none⟩=some (.string ⟨#[92,92]⟩)) (c2:w.cell? ⟨o,2,none⟩=some (.string ⟨#[34]⟩)) (c3:w.cell? ⟨o,3,none⟩=some (.string ⟨#[92,34]⟩)) (c4:w.cell? ⟨o,4,none⟩=some (.string ⟨#[10]⟩)) (c5:w.cell? ⟨o,5,none⟩=some (.string ⟨#[92,110]⟩)):
  Calls Tryz.prog 258 #[.pointer (some ⟨b,0,none⟩)] w fun e w'=>e = .returned (.tuple #[])∧∃g t,w'.heap[b]?=some (.cells #[.int .u32 0,.int .i32 x,.int .u32 0,.iface 439 (.pointer (some ⟨g,0,none⟩)),.slice none 0 0] 350 (0,0))∧jj g t w'∧Below b w w':=by
 have hbl:b<w.heap.size:=(Array.getElem?_eq_some_iff.1 hb).1
 have hb4:w.cell? ⟨b,4,none⟩=some (.slice (some ⟨o,0,none⟩) 6 C):=by simp[World.cell?,hb]
 have hbd:=zoO b o C w ho hbl hb4 c0 c1 c2 c3 c4 c5
 go_enter Tryz.func258,Tryz.ntmps258
 go_wp2_with (go_at_call 297;refine hbd.mono ?_)
 rintro e w1 ⟨g,t,rfl,hR,hB⟩
 have hbw:w1.heap[b]?=some (.cells #[.int .u32 0,.int .i32 x,.int .u32 0,.nilIface,.slice (some ⟨o,0,none⟩) 6 C] 350 (0,0)):=(hB.block b hbl).trans hb
 have k3:w1.cell? ⟨b,3,none⟩=some .nilIface:=by simp[World.cell?,hbw]
 have k4:w1.cell? ⟨b,4,none⟩=some (.slice (some ⟨o,0,none⟩) 6 C):=by simp[World.cell?,hbw]
 have f3:w1.frozen? ⟨b,3,none⟩=false:=by simp[World.frozen?,hbw]
 have f4:w1.frozen? ⟨b,4,none⟩=false:=by simp[World.frozen?,hbw]
 have hR2:Hid (jj g t w1):=hR
 have hB2:Hid (Below w.heap.size w w1):=hB
 have hbw2:Hid (w1.heap[b]?=some (.cells #[.int .u32 0,.int .i32 x,.int .u32 0,.nilIface,.slice (some ⟨o,0,none⟩) 6 C] 350 (0,0))):=hbw
 clear hR hB hbw hbd
 go_wp2
 go_end0
 refine⟨rfl,g,t,?_,?_,?_⟩
 ·
  have h1:(w1.setCell ⟨b,3,none⟩ (.iface 439 (.pointer (some ⟨g,0,none⟩)))).heap[b]?=some (.cells ([.int .u32 0,.int .i32 x,.int .u32 0,.iface 439 (.pointer (some ⟨g,0,none⟩)),.slice (some ⟨o,0,none⟩) 6 C]:List Value).toArray 350 (0,0)):=YU (c:=[.int .u32 0,.int .i32 x,.int .u32 0,.nilIface,.slice (some ⟨o,0,none⟩) 6 C]) hbw2.out _
  exact YU h1 _
 ·
  refine hR2.out.other (b:=b) (x:=0) (by simp[World.cell?,hbw2.out]) (by simp[World.cell?,hbw2.out]) (by simp) (fun m hm=>?_)
  rw[vN (i:=0) _ hm,vN (i:=0) _ hm]
 ·
  exact((hB2.out.mono (Nat.le_of_lt hbl)).setCell (Nat.le_refl b) _).setCell (Nat.le_refl b) _
set_option maxHeartbeats 1600000 in
theorem ztL (b o C:Nat)(l:List UInt8)(w:World)(hl:l.length≤4294967296)(ho:o<w.heap.size)(hob:o≠b)(hb:w.heap[b]?=some (.cells #[.int .u32 0,.int .i32 0,.int .u32 0,.nilIface,.slice (some ⟨o,0,none⟩) 6 C] 350 (0,0)))
  (c0:w.cell? ⟨o,0,none⟩=some (.string ⟨#[92]⟩)) (c1:w.cell? ⟨o,1,none⟩=some (.string ⟨#[92,92]⟩)) (c2:w.cell? ⟨o,2,none⟩=some (.string ⟨#[34]⟩)) (c3:w.cell? ⟨o,3,none⟩=some (.string ⟨#[92,34]⟩)) (c4:w.cell? ⟨o,4,none⟩=some (.string ⟨#[10]⟩)) (c5:w.cell? ⟨o,5,none⟩=some (.string ⟨#[92,110]⟩))
  (hcnt:∀(c:UInt8) (w:World),Calls Tryz.prog 94 #[.string ⟨l.toArray⟩,.string ⟨#[c]⟩] w fun e w'=>e = .returned (.int .i64 (l.count c))∧w'=w):
  Calls Tryz.prog 204 #[.pointer (some ⟨b,0,none⟩),.string ⟨l.toArray⟩] w fun e w'=>e = .returned (.string ⟨(yw l).toArray⟩)∧Below b w w':=by
 have hbl:b<w.heap.size:=(Array.getElem?_eq_some_iff.1 hb).1
 have h0:w.cell? ⟨b,0,none⟩=some (.int .u32 0):=by simp[World.cell?,hb]
 have h1:w.cell? ⟨b,1,none⟩=some (.int .i32 0):=by simp[World.cell?,hb]
 have f0:w.frozen? ⟨b,0,none⟩=false:=by simp[World.frozen?,hb]
 have f1:w.frozen? ⟨b,1,none⟩=false:=by simp[World.frozen?,hb]
 have hb1:(w.setCell ⟨b,1,none⟩ (.int .i32 1)).heap[b]?=some (.cells #[.int .u32 0,.int .i32 1,.int .u32 0,.nilIface,.slice (some ⟨o,0,none⟩) 6 C] 350 (0,0)):=YU (c:=[.int .u32 0,.int .i32 0,.int .u32 0,.nilIface,.slice (some ⟨o,0,none⟩) 6 C]) hb _
 have hoc:∀j,(w.setCell ⟨b,1,none⟩ (.int .i32 1)).cell? ⟨o,j,none⟩=w.cell? ⟨o,j,none⟩:=fun j=>World.cell?_of_block (vN (i:=0) _ hob)
 have hdo:=zvB b w (fun w'=>∃g t,w'.heap[b]?=some (.cells #[.int .u32 0,.int .i32 1,.int .u32 0,.iface 439 (.pointer (some ⟨g,0,none⟩)),.slice none 0 0] 350 (0,0))∧jj g t w'∧Below b w w') h0 h1 f0 f1
  ((zo1 b o C (w.setCell ⟨b,1,none⟩ (.int .i32 1)) 1 (by simp;exact ho) hob hb1 ((hoc 0).trans c0) ((hoc 1).trans c1) ((hoc 2).trans c2) ((hoc 3).trans c3) ((hoc 4).trans c4) ((hoc 5).trans c5)).mono (by
   rintro e w' ⟨rfl,g,t,q1,q2,q3⟩
   exact⟨rfl,by simp[World.cell?,q1],by simp[World.frozen?,q1],by simp[World.cell?,q1],by simp[World.frozen?,q1],g,t,q1,q2,((Below.refl b w).setCell (Nat.le_refl b) _).trans q3⟩))
 go_enter Tryz.func204,Tryz.ntmps204
 go_wp2_with (go_at_call 257;refine hdo.mono ?_)
 rintro e w2 ⟨rfl,w1,⟨g,t,q1,q2,q3⟩,rfl⟩
 have hR:jj g t ((w1.drew.setCell ⟨b,0,none⟩ (.int .u32 1)).setCell ⟨b,1,none⟩ (.int .i32 0)):=by
  refine q2.other (b:=b) (x:=0) (by simp[World.cell?,q1]) (by simp[World.cell?,q1]) (by simp) (fun m hm=>?_)
  rw[vN (i:=0) _ hm,vN (i:=0) _ hm]
  rfl
 have hB:Below b w ((w1.drew.setCell ⟨b,0,none⟩ (.int .u32 1)).setCell ⟨b,1,none⟩ (.int .i32 0)):=((q3.trans (YE _ _)).setCell (Nat.le_refl b) _).setCell (Nat.le_refl b) _
 have k3:((w1.drew.setCell ⟨b,0,none⟩ (.int .u32 1)).setCell ⟨b,1,none⟩ (.int .i32 0)).cell? ⟨b,3,none⟩=some (.iface 439 (.pointer (some ⟨g,0,none⟩))):=by
  have a1:(w1.drew.setCell ⟨b,0,none⟩ (.int .u32 1)).heap[b]?=some (.cells ([.int .u32 1,.int .i32 1,.int .u32 0,.iface 439 (.pointer (some ⟨g,0,none⟩)),.slice none 0 0]:List Value).toArray 350 (0,0)):=YU (w:=w1.drew) (c:=[.int .u32 0,.int .i32 1,.int .u32 0,.iface 439 (.pointer (some ⟨g,0,none⟩)),.slice none 0 0]) q1 _
  have a2:=YU (i:=1) a1 (.int .i32 0)
  simp[World.cell?,a2]
 have hlt:b≤((w1.drew.setCell ⟨b,0,none⟩ (.int .u32 1)).setCell ⟨b,1,none⟩ (.int .i32 0)).heap.size:=by
  have:=hB.size;omega
 generalize ((w1.drew.setCell ⟨b,0,none⟩ (.int .u32 1)).setCell ⟨b,1,none⟩ (.int .i32 0))=w2 at *
 have hrp:=ztN g t l w2 hl hR hcnt
 have HB:Hid (Below b w w2):=hB
 clear q1 q2 q3 hR hB hdo hb1 hoc hb h0 h1 f0 f1 c0 c1 c2 c3 c4 c5 hcnt
 go_wp2_with (go_at_call 416;refine hrp.mono ?_)
 rintro e w3 ⟨rfl,hB3⟩
 have HB3:Hid (Below w2.heap.size w2 w3):=hB3
 clear hB3
 go_wp2
 refine bodyPost_ret (results_tmp rfl _ _ _) rfl ?_
 exact⟨rfl,HB.out.trans (HB3.out.mono hlt)⟩
set_option maxHeartbeats 1600000 in
theorem ztl (l:List UInt8)(w:World)(hl:l.length≤4294967296)
  (hcnt:∀(c:UInt8) (w:World),Calls Tryz.prog 94 #[.string ⟨l.toArray⟩,.string ⟨#[c]⟩] w fun e w'=>e = .returned (.int .i64 (l.count c))∧w'=w):
  Calls Tryz.prog 134 #[.string ⟨l.toArray⟩] w fun e w'=>e = .returned (.string ⟨(34::(yw l++[34])).toArray⟩)∧Below w.heap.size w w':=by
 have hnr:=zsQ w.heap.size (w.alloc (.cells #[.string ⟨#[92]⟩,.string ⟨#[92,92]⟩,.string ⟨#[34]⟩,.string ⟨#[92,34]⟩,.string ⟨#[10]⟩,.string ⟨#[92,110]⟩] 9)) ⟨#[92]⟩ ⟨#[92,92]⟩ ⟨#[34]⟩ ⟨#[92,34]⟩ ⟨#[10]⟩ ⟨#[92,110]⟩ (by show(w.heap.push _)[w.heap.size]?=_;rw[Array.getElem?_push_size])
 have hsz:(w.alloc (.cells #[.string ⟨#[92]⟩,.string ⟨#[92,92]⟩,.string ⟨#[34]⟩,.string ⟨#[92,34]⟩,.string ⟨#[10]⟩,.string ⟨#[92,110]⟩] 9)).heap.size=w.heap.size+1:=by show(w.heap.push _).size=_;rw[Array.size_push]
 go_enter Tryz.func134,Tryz.ntmps134
 go_wp2_with (go_at_call 203;refine hnr.mono ?_)
 rintro e w1 ⟨rfl,C,hw1⟩
 obtain⟨wa,hwa⟩:∃x,x=w.alloc (.cells #[.string ⟨#[92]⟩,.string ⟨#[92,92]⟩,.string ⟨#[34]⟩,.string ⟨#[92,34]⟩,.string ⟨#[10]⟩,.string ⟨#[92,110]⟩] 9):=⟨_,rfl⟩
 rw[←hwa]at hw1 hsz⊢
 obtain⟨wb,hwb⟩:∃x,x=wa.alloc (.cells (#[.string ⟨#[92]⟩,.string ⟨#[92,92]⟩,.string ⟨#[34]⟩,.string ⟨#[92,34]⟩,.string ⟨#[10]⟩,.string ⟨#[92,110]⟩]++Builtin.zeroCells #[.string ⟨#[]⟩] (C - 6)) 9):=⟨_,rfl⟩
 rw[←hwb]at hw1
 have hsb:wb.heap.size=wa.heap.size+1:=by rw[hwb];show(wa.heap.push _).size=_;rw[Array.size_push]
 have hb:w1.heap[wa.heap.size+1]?=some (.cells #[.int .u32 0,.int .i32 0,.int .u32 0,.nilIface,.slice (some ⟨wa.heap.size,0,none⟩) 6 C] 350 (0,0)):=by
  rw[hw1];show(wb.heap.push _)[wa.heap.size+1]?=_
  rw[←hsb,Array.getElem?_push_size]
 have ho:w1.heap[wa.heap.size]?=some (.cells (#[.string ⟨#[92]⟩,.string ⟨#[92,92]⟩,.string ⟨#[34]⟩,.string ⟨#[92,34]⟩,.string ⟨#[10]⟩,.string ⟨#[92,110]⟩]++Builtin.zeroCells #[.string ⟨#[]⟩] (C - 6)) 9 (0,0)):=by
  rw[hw1]
  show(wb.alloc _).heap[wa.heap.size]?=_
  rw[zcb _ (by omega),hwb]
  show(wa.heap.push _)[wa.heap.size]?=_
  rw[Array.getElem?_push_size]
 have hs1:w1.heap.size=wa.heap.size+2:=by rw[hw1];show(wb.heap.push _).size=_;rw[Array.size_push,hsb]
 have hB:Below w.heap.size w w1:=by
  have a1:Below w.heap.size w wa:=by rw[hwa];exact(Below.refl _ w).alloc (Nat.le_refl _) _
  have a2:Below w.heap.size w wb:=by rw[hwb];exact a1.alloc (by omega) _
  rw[hw1];exact(a2.alloc (by omega) _).trans (YE _ _)
 have cell:∀j v,(#[Value.string ⟨#[92]⟩,.string ⟨#[92,92]⟩,.string ⟨#[34]⟩,.string ⟨#[92,34]⟩,.string ⟨#[10]⟩,.string ⟨#[92,110]⟩]:Array Value)[j]?=some v→w1.cell? ⟨wa.heap.size,j,none⟩=some v:=by
  intro j v hj
  simp only[World.cell?,ho]
  rw[Array.getElem?_append_left (Array.getElem?_eq_some_iff.1 hj).1]
  simpa using hj
 have hrl:=ztL (wa.heap.size+1) wa.heap.size C l w1 hl (by omega) (by omega) hb (cell 0 _ rfl) (cell 1 _ rfl) (cell 2 _ rfl) (cell 3 _ rfl) (cell 4 _ rfl) (cell 5 _ rfl) hcnt
 have HB:Hid (Below w.heap.size w w1):=hB
 have hle:w.heap.size≤wa.heap.size+1:=by omega
 clear cell ho hb hs1 hsb hw1 hwb hwa hB hsz hnr hcnt
 go_wp2_with (go_at_call 204;refine hrl.mono ?_)
 rintro e w3 ⟨rfl,hB3⟩
 have HB3:Hid (Below (wa.heap.size+1) w1 w3):=hB3
 clear hB3
 have hlen:(yw l).length≤8589934592:=by
  rw[zbZ]
  have:qx l≤l.length:=List.countP_le_length
  omega
 have n1:¬9223372036854775807<1+(yw l).length:=by omega
 have n2:¬9223372036854775807<1+(yw l).length+1:=by omega
 go_wp2
 refine bodyPost_ret (results_tmp rfl _ _ _) rfl ?_
 refine⟨?_,HB.out.trans (HB3.out.mono hle)⟩
 show Ending.returned (.string (ByteArray.mk #[34]++ByteArray.mk (yw l).toArray++ByteArray.mk #[34]))=_
 congr 2
def zkH:Shelf.Ren where
 f:=fun x=>match x with | 156=>81 | 165=>139 | 166=>20 | 169=>25 | 240=>70 | 241=>215 | 276=>133 | 277=>268 | n=>n
 t:=fun x=>match x with | 31=>51 | 9=>9 | 3=>3 | 4=>4 | 0=>0 | 20=>20 | 72=>62 | 76=>65 | 70=>59 | 37=>60 | 75=>64 | 127=>151 | 164=>216 | 5=>5 | 80=>76 | n=>n
 g:=fun n=>n
theorem zr1:Lays.n156 Tryz.prog zkH where
 mixed:=by kernel_rfl
 f156:=Tryz.func81.trans (by kernel_rfl)
 f165:=Tryz.func139.trans (by kernel_rfl)
 f166:=Tryz.func20.trans (by kernel_rfl)
 f169:=Tryz.func25.trans (by kernel_rfl)
 f240:=Tryz.func70.trans (by kernel_rfl)
 f241:=Tryz.func215.trans (by kernel_rfl)
 f276:=Tryz.func133.trans (by kernel_rfl)
 f277:=Tryz.func268.trans (by kernel_rfl)
 t0:=Tryz.underlying0
 a0:=Tryz.isAgg0
 z0:=Tryz.sizeOf0
 v0:=Tryz.zeroValue0
 t3:=Tryz.underlying3
 a3:=Tryz.isAgg3
 z3:=Tryz.sizeOf3
 v3:=Tryz.zeroValue3
 t4:=Tryz.underlying4
 a4:=Tryz.isAgg4
 z4:=Tryz.sizeOf4
 v4:=Tryz.zeroValue4
 t9:=Tryz.underlying9
 a9:=Tryz.isAgg9
 z9:=Tryz.sizeOf9
 v9:=Tryz.zeroValue9
 t20:=Tryz.underlying20
 a20:=Tryz.isAgg20
 z20:=Tryz.sizeOf20
 v20:=Tryz.zeroValue20
 t31:=Tryz.underlying51
 a31:=Tryz.isAgg51
 z31:=Tryz.sizeOf51
 v31:=Tryz.zeroValue51
 t37:=Tryz.underlying60
 a37:=Tryz.isAgg60
 z37:=Tryz.sizeOf60
 v37:=Tryz.zeroValue60
 t70:=Tryz.underlying59
 a70:=Tryz.isAgg59
 z70:=Tryz.sizeOf59
 v70:=Tryz.zeroValue59
 t72:=Tryz.underlying62
 a72:=Tryz.isAgg62
 z72:=Tryz.sizeOf62
 v72:=Tryz.zeroValue62
 t75:=Tryz.underlying64
 a75:=Tryz.isAgg64
 z75:=Tryz.sizeOf64
 v75:=Tryz.zeroValue64
 t76:=Tryz.underlying65
 a76:=Tryz.isAgg65
 z76:=Tryz.sizeOf65
 v76:=Tryz.zeroValue65
 t127:=Tryz.underlying151
 a127:=Tryz.isAgg151
 z127:=Tryz.sizeOf151
 v127:=Tryz.zeroValue151
 t164:=Tryz.underlying216
 a164:=Tryz.isAgg216
 z164:=Tryz.sizeOf216
 v164:=Tryz.zeroValue216
theorem zr0:Proofs.Builder.Extra Tryz.prog zkH where
 sizeBuilder:=by kernel_rfl
 liesBuilder:=by kernel_rfl
 t5:=Tryz.underlying5
 a5:=Tryz.isAgg5
 z5:=Tryz.sizeOf5
 v5:=Tryz.zeroValue5
 infoByte:=by kernel_rfl
 cellsByte:=by kernel_rfl
 sizeByte:=by kernel_rfl
 neB5:=by decide
def zrR:Shelf.Ren where
 f:=fun x=>match x with | 171=>32 | 243=>80 | 246=>138 | 283=>211 | 284=>212 | 285=>213 | 286=>214 | 129=>152 | 317=>264 | 318=>265 | 319=>266 | 320=>267 | 337=>304 | 338=>305 | n=>n
 t:=fun x=>match x with | 3=>3 | 9=>9 | 2=>2 | 4=>4 | 171=>296 | 0=>0 | 53=>234 | 37=>60 | 5=>5 | 173=>298 | 212=>356 | 51=>232 | 20=>20 | 213=>357 | 46=>174 | 232=>445 | 233=>446 | n=>n
 g:=fun x=>match x with | 17=>3 | 18=>6 | 19=>7 | n=>n
theorem zrQ:LaysM.n171 Tryz.prog zrR where
 mixed:=by kernel_rfl
 f129:=Tryz.func152.trans (by kernel_rfl)
 f171:=Tryz.func32.trans (by kernel_rfl)
 f243:=Tryz.func80.trans (by kernel_rfl)
 f246:=Tryz.func138.trans (by kernel_rfl)
 f283:=Tryz.func211.trans (by kernel_rfl)
 f284:=Tryz.func212.trans (by kernel_rfl)
 f285:=Tryz.func213.trans (by kernel_rfl)
 f286:=Tryz.func214.trans (by kernel_rfl)
 f317:=Tryz.func264.trans (by kernel_rfl)
 f318:=Tryz.func265.trans (by kernel_rfl)
 f319:=Tryz.func266.trans (by kernel_rfl)
 f320:=Tryz.func267.trans (by kernel_rfl)
 f337:=Tryz.func304.trans (by kernel_rfl)
 f338:=Tryz.func305.trans (by kernel_rfl)
 t0:=Tryz.underlying0
 a0:=Tryz.isAgg0
 z0:=Tryz.sizeOf0
 v0:=Tryz.zeroValue0
 t2:=Tryz.underlying2
 a2:=Tryz.isAgg2
 z2:=Tryz.sizeOf2
 v2:=Tryz.zeroValue2
 t3:=Tryz.underlying3
 a3:=Tryz.isAgg3
 z3:=Tryz.sizeOf3
 v3:=Tryz.zeroValue3
 t4:=Tryz.underlying4
 a4:=Tryz.isAgg4
 z4:=Tryz.sizeOf4
 v4:=Tryz.zeroValue4
 t5:=Tryz.underlying5
 a5:=Tryz.isAgg5
 z5:=Tryz.sizeOf5
 v5:=Tryz.zeroValue5
 t9:=Tryz.underlying9
 a9:=Tryz.isAgg9
 z9:=Tryz.sizeOf9
 v9:=Tryz.zeroValue9
 t20:=Tryz.underlying20
 a20:=Tryz.isAgg20
 z20:=Tryz.sizeOf20
 v20:=Tryz.zeroValue20
 t37:=Tryz.underlying60
 a37:=Tryz.isAgg60
 z37:=Tryz.sizeOf60
 v37:=Tryz.zeroValue60
 t46:=Tryz.underlying174
 a46:=Tryz.isAgg174
 z46:=Tryz.sizeOf174
 v46:=Tryz.zeroValue174
 t51:=Tryz.underlying232
 a51:=Tryz.isAgg232
 z51:=Tryz.sizeOf232
 v51:=Tryz.zeroValue232
 t53:=Tryz.underlying234
 a53:=Tryz.isAgg234
 z53:=Tryz.sizeOf234
 v53:=Tryz.zeroValue234
 t171:=Tryz.underlying296
 a171:=Tryz.isAgg296
 z171:=Tryz.sizeOf296
 v171:=Tryz.zeroValue296
 t173:=Tryz.underlying298
 a173:=Tryz.isAgg298
 z173:=Tryz.sizeOf298
 v173:=Tryz.zeroValue298
 t212:=Tryz.underlying356
 a212:=Tryz.isAgg356
 z212:=Tryz.sizeOf356
 v212:=Tryz.zeroValue356
 t213:=Tryz.underlying357
 a213:=Tryz.isAgg357
 z213:=Tryz.sizeOf357
 t232:=Tryz.underlying445
 a232:=Tryz.isAgg445
 z232:=Tryz.sizeOf445
 v232:=Tryz.zeroValue445
 t233:=Tryz.underlying446
 a233:=Tryz.isAgg446
 z233:=Tryz.sizeOf446
 v233:=Tryz.zeroValue446
 g17:=by kernel_rfl
 g18:=by kernel_rfl
 g19:=by kernel_rfl
 i0:=by kernel_rfl
 i2:=by kernel_rfl
 i3:=by kernel_rfl
 i4:=by kernel_rfl
 i5:=by kernel_rfl
 i9:=by kernel_rfl
 i20:=by kernel_rfl
 i37:=by kernel_rfl
 i46:=by kernel_rfl
 i51:=by kernel_rfl
 i53:=by kernel_rfl
 i171:=by kernel_rfl
 i173:=by kernel_rfl
 i212:=by kernel_rfl
 i232:=by kernel_rfl
 i233:=by kernel_rfl
 m17:=by kernel_rfl
 m18:=by kernel_rfl
 m19:=by kernel_rfl
def zvY:Shelf.Ren where
 f:=fun x=>match x with | 160=>91 | 232=>155 | 231=>154 | 227=>156 | 234=>158 | 233=>157 | 236=>160 | 235=>159 | 228=>238 | 271=>240 | 151=>239 | 197=>163 | 120=>277 | 152=>276 | 260=>241 | 137=>136 | 119=>308 | 224=>207 | 225=>206 | 217=>205 | 266=>259 | n=>n
 t:=fun x=>match x with | 9=>9 | 4=>4 | 3=>3 | 5=>5 | 117=>238 | 116=>237 | 0=>0 | 124=>241 | 21=>21 | 105=>248 | 46=>174 | 119=>243 | 139=>246 | 138=>245 | n=>n
 g:=fun x=>match x with | 3=>1 | 4=>2 | n=>n
theorem zvX:Lays.n160 Tryz.prog zvY where
 mixed:=by kernel_rfl
 f119:=Tryz.func308.trans (by kernel_rfl)
 f120:=Tryz.func277.trans (by kernel_rfl)
 f137:=Tryz.func136.trans (by kernel_rfl)
 f151:=Tryz.func239.trans (by kernel_rfl)
 f152:=Tryz.func276.trans (by kernel_rfl)
 f160:=Tryz.func91.trans (by kernel_rfl)
 f197:=Tryz.func163.trans (by kernel_rfl)
 f217:=Tryz.func205.trans (by kernel_rfl)
 f224:=Tryz.func207.trans (by kernel_rfl)
 f225:=Tryz.func206.trans (by kernel_rfl)
 f227:=Tryz.func156.trans (by kernel_rfl)
 f228:=Tryz.func238.trans (by kernel_rfl)
 f231:=Tryz.func154.trans (by kernel_rfl)
 f232:=Tryz.func155.trans (by kernel_rfl)
 f233:=Tryz.func157.trans (by kernel_rfl)
 f234:=Tryz.func158.trans (by kernel_rfl)
 f235:=Tryz.func159.trans (by kernel_rfl)
 f236:=Tryz.func160.trans (by kernel_rfl)
 f260:=Tryz.func241.trans (by kernel_rfl)
 f266:=Tryz.func259.trans (by kernel_rfl)
 f271:=Tryz.func240.trans (by kernel_rfl)
 t0:=Tryz.underlying0
 a0:=Tryz.isAgg0
 z0:=Tryz.sizeOf0
 v0:=Tryz.zeroValue0
 t3:=Tryz.underlying3
 a3:=Tryz.isAgg3
 z3:=Tryz.sizeOf3
 v3:=Tryz.zeroValue3
 t4:=Tryz.underlying4
 a4:=Tryz.isAgg4
 z4:=Tryz.sizeOf4
 v4:=Tryz.zeroValue4
 t5:=Tryz.underlying5
 a5:=Tryz.isAgg5
 z5:=Tryz.sizeOf5
 v5:=Tryz.zeroValue5
 t9:=Tryz.underlying9
 a9:=Tryz.isAgg9
 z9:=Tryz.sizeOf9
 v9:=Tryz.zeroValue9
 t21:=Tryz.underlying21
 a21:=Tryz.isAgg21
 z21:=Tryz.sizeOf21
 v21:=Tryz.zeroValue21
 t46:=Tryz.underlying174
 a46:=Tryz.isAgg174
 z46:=Tryz.sizeOf174
 v46:=Tryz.zeroValue174
 t105:=Tryz.underlying248
 a105:=Tryz.isAgg248
 z105:=Tryz.sizeOf248
 v105:=Tryz.zeroValue248
 t116:=Tryz.underlying237
 a116:=Tryz.isAgg237
 z116:=Tryz.sizeOf237
 t117:=Tryz.underlying238
 a117:=Tryz.isAgg238
 z117:=Tryz.sizeOf238
 v117:=Tryz.zeroValue238
 t119:=Tryz.underlying243
 a119:=Tryz.isAgg243
 z119:=Tryz.sizeOf243
 t124:=Tryz.underlying241
 a124:=Tryz.isAgg241
 z124:=Tryz.sizeOf241
 v124:=Tryz.zeroValue241
 t138:=Tryz.underlying245
 a138:=Tryz.isAgg245
 z138:=Tryz.sizeOf245
 v138:=Tryz.zeroValue245
 t139:=Tryz.underlying246
 a139:=Tryz.isAgg246
 z139:=Tryz.sizeOf246
 v139:=Tryz.zeroValue246
 g3:=by kernel_rfl
 g4:=by kernel_rfl
def zv7:Shelf.Ren where
 f:=fun x=>match x with | 196=>92 | 259=>161 | n=>n
 t:=fun x=>match x with | 9=>9 | 4=>4 | 3=>3 | 5=>5 | 12=>12 | 119=>243 | 0=>0 | 46=>174 | 139=>246 | 138=>245 | 53=>234 | n=>n
 g:=fun x=>match x with | 3=>1 | 4=>2 | n=>n
theorem znB:Lays.n196 Tryz.prog zv7 where
 mixed:=by kernel_rfl
 f196:=Tryz.func92.trans (by kernel_rfl)
 f259:=Tryz.func161.trans (by kernel_rfl)
 t0:=Tryz.underlying0
 a0:=Tryz.isAgg0
 z0:=Tryz.sizeOf0
 v0:=Tryz.zeroValue0
 t3:=Tryz.underlying3
 a3:=Tryz.isAgg3
 z3:=Tryz.sizeOf3
 v3:=Tryz.zeroValue3
 t4:=Tryz.underlying4
 a4:=Tryz.isAgg4
 z4:=Tryz.sizeOf4
 v4:=Tryz.zeroValue4
 t5:=Tryz.underlying5
 a5:=Tryz.isAgg5
 z5:=Tryz.sizeOf5
 v5:=Tryz.zeroValue5
 t9:=Tryz.underlying9
 a9:=Tryz.isAgg9
 z9:=Tryz.sizeOf9
 v9:=Tryz.zeroValue9
 t12:=Tryz.underlying12
 a12:=Tryz.isAgg12
 z12:=Tryz.sizeOf12
 v12:=Tryz.zeroValue12
 t46:=Tryz.underlying174
 a46:=Tryz.isAgg174
 z46:=Tryz.sizeOf174
 v46:=Tryz.zeroValue174
 t53:=Tryz.underlying234
 a53:=Tryz.isAgg234
 z53:=Tryz.sizeOf234
 v53:=Tryz.zeroValue234
 t119:=Tryz.underlying243
 a119:=Tryz.isAgg243
 z119:=Tryz.sizeOf243
 t138:=Tryz.underlying245
 a138:=Tryz.isAgg245
 z138:=Tryz.sizeOf245
 v138:=Tryz.zeroValue245
 t139:=Tryz.underlying246
 a139:=Tryz.isAgg246
 z139:=Tryz.sizeOf246
 v139:=Tryz.zeroValue246
 g3:=by kernel_rfl
 g4:=by kernel_rfl
def zoK:Shelf.Ren where
 f:=fun x=>match x with | 172=>210 | 244=>262 | 245=>263 | 247=>299 | 279=>300 | 280=>301 | 281=>302 | 282=>303 | 287=>332 | 316=>333 | 171=>32 | 205=>334 | 321=>350 | 322=>351 | 243=>80 | 246=>138 | 283=>211 | 284=>212 | 285=>213 | 286=>214 | 129=>152 | 317=>264 | 318=>265 | 319=>266 | 320=>267 | 337=>304 | 338=>305 | n=>n
 t:=fun x=>match x with | 9=>9 | 3=>3 | 75=>64 | 76=>65 | 4=>4 | 5=>5 | 167=>390 | 37=>60 | 0=>0 | 85=>391 | 2=>2 | 168=>393 | 53=>234 | 175=>440 | 46=>174 | 210=>443 | 127=>151 | 145=>476 | 143=>474 | 21=>21 | 171=>296 | 173=>298 | 212=>356 | 51=>232 | 20=>20 | 213=>357 | 232=>445 | 233=>446 | 80=>76 | n=>n
 g:=fun x=>match x with | 15=>4 | 16=>5 | 17=>3 | 18=>6 | 19=>7 | n=>n
theorem zoJ:LaysC.n172 Tryz.prog zoK where
 mixed:=by kernel_rfl
 f129:=Tryz.func152.trans (by kernel_rfl)
 f171:=Tryz.func32.trans (by kernel_rfl)
 f172:=Tryz.func210.trans (by kernel_rfl)
 f205:=Tryz.func334.trans (by kernel_rfl)
 f243:=Tryz.func80.trans (by kernel_rfl)
 f244:=Tryz.func262.trans (by kernel_rfl)
 f245:=Tryz.func263.trans (by kernel_rfl)
 f246:=Tryz.func138.trans (by kernel_rfl)
 f247:=Tryz.func299.trans (by kernel_rfl)
 f279:=Tryz.func300.trans (by kernel_rfl)
 f280:=Tryz.func301.trans (by kernel_rfl)
 f281:=Tryz.func302.trans (by kernel_rfl)
 f282:=Tryz.func303.trans (by kernel_rfl)
 f283:=Tryz.func211.trans (by kernel_rfl)
 f284:=Tryz.func212.trans (by kernel_rfl)
 f285:=Tryz.func213.trans (by kernel_rfl)
 f286:=Tryz.func214.trans (by kernel_rfl)
 f287:=Tryz.func332.trans (by kernel_rfl)
 f316:=Tryz.func333.trans (by kernel_rfl)
 f317:=Tryz.func264.trans (by kernel_rfl)
 f318:=Tryz.func265.trans (by kernel_rfl)
 f319:=Tryz.func266.trans (by kernel_rfl)
 f320:=Tryz.func267.trans (by kernel_rfl)
 f321:=Tryz.func350.trans (by kernel_rfl)
 f322:=Tryz.func351.trans (by kernel_rfl)
 f337:=Tryz.func304.trans (by kernel_rfl)
 f338:=Tryz.func305.trans (by kernel_rfl)
 t0:=Tryz.underlying0
 a0:=Tryz.isAgg0
 z0:=Tryz.sizeOf0
 v0:=Tryz.zeroValue0
 t2:=Tryz.underlying2
 a2:=Tryz.isAgg2
 z2:=Tryz.sizeOf2
 v2:=Tryz.zeroValue2
 t3:=Tryz.underlying3
 a3:=Tryz.isAgg3
 z3:=Tryz.sizeOf3
 v3:=Tryz.zeroValue3
 t4:=Tryz.underlying4
 a4:=Tryz.isAgg4
 z4:=Tryz.sizeOf4
 v4:=Tryz.zeroValue4
 t5:=Tryz.underlying5
 a5:=Tryz.isAgg5
 z5:=Tryz.sizeOf5
 v5:=Tryz.zeroValue5
 t9:=Tryz.underlying9
 a9:=Tryz.isAgg9
 z9:=Tryz.sizeOf9
 v9:=Tryz.zeroValue9
 t20:=Tryz.underlying20
 a20:=Tryz.isAgg20
 z20:=Tryz.sizeOf20
 v20:=Tryz.zeroValue20
 t21:=Tryz.underlying21
 a21:=Tryz.isAgg21
 z21:=Tryz.sizeOf21
 v21:=Tryz.zeroValue21
 t37:=Tryz.underlying60
 a37:=Tryz.isAgg60
 z37:=Tryz.sizeOf60
 v37:=Tryz.zeroValue60
 t46:=Tryz.underlying174
 a46:=Tryz.isAgg174
 z46:=Tryz.sizeOf174
 v46:=Tryz.zeroValue174
 t51:=Tryz.underlying232
 a51:=Tryz.isAgg232
 z51:=Tryz.sizeOf232
 v51:=Tryz.zeroValue232
 t53:=Tryz.underlying234
 a53:=Tryz.isAgg234
 z53:=Tryz.sizeOf234
 v53:=Tryz.zeroValue234
 t75:=Tryz.underlying64
 a75:=Tryz.isAgg64
 z75:=Tryz.sizeOf64
 v75:=Tryz.zeroValue64
 t76:=Tryz.underlying65
 a76:=Tryz.isAgg65
 z76:=Tryz.sizeOf65
 v76:=Tryz.zeroValue65
 t85:=Tryz.underlying391
 a85:=Tryz.isAgg391
 z85:=Tryz.sizeOf391
 v85:=Tryz.zeroValue391
 t127:=Tryz.underlying151
 a127:=Tryz.isAgg151
 z127:=Tryz.sizeOf151
 v127:=Tryz.zeroValue151
 t143:=Tryz.underlying474
 a143:=Tryz.isAgg474
 z143:=Tryz.sizeOf474
 v143:=Tryz.zeroValue474
 t145:=Tryz.underlying476
 a145:=Tryz.isAgg476
 z145:=Tryz.sizeOf476
 v145:=Tryz.zeroValue476
 t167:=Tryz.underlying390
 a167:=Tryz.isAgg390
 z167:=Tryz.sizeOf390
 v167:=Tryz.zeroValue390
 t168:=Tryz.underlying393
 a168:=Tryz.isAgg393
 z168:=Tryz.sizeOf393
 v168:=Tryz.zeroValue393
 t171:=Tryz.underlying296
 a171:=Tryz.isAgg296
 z171:=Tryz.sizeOf296
 v171:=Tryz.zeroValue296
 t173:=Tryz.underlying298
 a173:=Tryz.isAgg298
 z173:=Tryz.sizeOf298
 v173:=Tryz.zeroValue298
 t175:=Tryz.underlying440
 a175:=Tryz.isAgg440
 z175:=Tryz.sizeOf440
 v175:=Tryz.zeroValue440
 t210:=Tryz.underlying443
 a210:=Tryz.isAgg443
 z210:=Tryz.sizeOf443
 v210:=Tryz.zeroValue443
 t212:=Tryz.underlying356
 a212:=Tryz.isAgg356
 z212:=Tryz.sizeOf356
 v212:=Tryz.zeroValue356
 t213:=Tryz.underlying357
 a213:=Tryz.isAgg357
 z213:=Tryz.sizeOf357
 t232:=Tryz.underlying445
 a232:=Tryz.isAgg445
 z232:=Tryz.sizeOf445
 v232:=Tryz.zeroValue445
 t233:=Tryz.underlying446
 a233:=Tryz.isAgg446
 z233:=Tryz.sizeOf446
 v233:=Tryz.zeroValue446
 g15:=by kernel_rfl
 g16:=by kernel_rfl
 g17:=by kernel_rfl
 g18:=by kernel_rfl
 g19:=by kernel_rfl
 t80:=Tryz.underlying76
 a80:=Tryz.isAgg76
 z80:=Tryz.sizeOf76
 v80:=Tryz.zeroValue76
 i0:=by kernel_rfl
 i2:=by kernel_rfl
 i3:=by kernel_rfl
 i4:=by kernel_rfl
 i5:=by kernel_rfl
 i9:=by kernel_rfl
 i20:=by kernel_rfl
 i21:=by kernel_rfl
 i37:=by kernel_rfl
 i46:=by kernel_rfl
 i51:=by kernel_rfl
 i53:=by kernel_rfl
 i75:=by kernel_rfl
 i76:=by kernel_rfl
 i80:=by kernel_rfl
 i85:=by kernel_rfl
 i127:=by kernel_rfl
 i143:=by kernel_rfl
 i145:=by kernel_rfl
 i167:=by kernel_rfl
 i168:=by kernel_rfl
 i171:=by kernel_rfl
 i173:=by kernel_rfl
 i175:=by kernel_rfl
 i210:=by kernel_rfl
 i212:=by kernel_rfl
 i232:=by kernel_rfl
 i233:=by kernel_rfl
 m15:=by kernel_rfl
 m16:=by kernel_rfl
 m17:=by kernel_rfl
 m18:=by kernel_rfl
 m19:=by kernel_rfl
 c0:=by kernel_rfl
 c2:=by kernel_rfl
 c3:=by kernel_rfl
 c4:=by kernel_rfl
 c5:=by kernel_rfl
 c9:=by kernel_rfl
 c20:=by kernel_rfl
 c21:=by kernel_rfl
 c37:=by kernel_rfl
 c46:=by kernel_rfl
 c51:=by kernel_rfl
 c53:=by kernel_rfl
 c75:=by kernel_rfl
 c76:=by kernel_rfl
 c80:=by kernel_rfl
 c85:=by kernel_rfl
 c127:=by kernel_rfl
 c143:=by kernel_rfl
 c145:=by kernel_rfl
 c167:=by kernel_rfl
 c168:=by kernel_rfl
 c171:=by kernel_rfl
 c173:=by kernel_rfl
 c175:=by kernel_rfl
 c210:=by kernel_rfl
 c212:=by kernel_rfl
 c213:=by kernel_rfl
 c232:=by kernel_rfl
 c233:=by kernel_rfl
def zva:Shelf.Ren where
 f:=fun x=>match x with | 146=>14 | 221=>52 | 268=>93 | 138=>94 | 143=>95 | 195=>162 | 197=>163 | 218=>164 | 219=>135 | 260=>241 | 217=>205 | 225=>206 | 224=>207 | 267=>208 | 266=>259 | 314=>260 | n=>n
 t:=fun x=>match x with | 9=>9 | 31=>51 | 3=>3 | 4=>4 | 0=>0 | 105=>248 | 21=>21 | 5=>5 | 46=>174 | 119=>243 | 139=>246 | 138=>245 | 146=>352 | 51=>232 | n=>n
 g:=fun x=>match x with | 1=>0 | 3=>1 | 4=>2 | n=>n
theorem zu9:Lays.n146 Tryz.prog zva where
 mixed:=by kernel_rfl
 f138:=Tryz.func94.trans (by kernel_rfl)
 f143:=Tryz.func95.trans (by kernel_rfl)
 f146:=Tryz.func14.trans (by kernel_rfl)
 f195:=Tryz.func162.trans (by kernel_rfl)
 f197:=Tryz.func163.trans (by kernel_rfl)
 f217:=Tryz.func205.trans (by kernel_rfl)
 f218:=Tryz.func164.trans (by kernel_rfl)
 f219:=Tryz.func135.trans (by kernel_rfl)
 f221:=Tryz.func52.trans (by kernel_rfl)
 f224:=Tryz.func207.trans (by kernel_rfl)
 f225:=Tryz.func206.trans (by kernel_rfl)
 f260:=Tryz.func241.trans (by kernel_rfl)
 f266:=Tryz.func259.trans (by kernel_rfl)
 f267:=Tryz.func208.trans (by kernel_rfl)
 f268:=Tryz.func93.trans (by kernel_rfl)
 f314:=Tryz.func260.trans (by kernel_rfl)
 t0:=Tryz.underlying0
 a0:=Tryz.isAgg0
 z0:=Tryz.sizeOf0
 v0:=Tryz.zeroValue0
 t3:=Tryz.underlying3
 a3:=Tryz.isAgg3
 z3:=Tryz.sizeOf3
 v3:=Tryz.zeroValue3
 t4:=Tryz.underlying4
 a4:=Tryz.isAgg4
 z4:=Tryz.sizeOf4
 v4:=Tryz.zeroValue4
 t5:=Tryz.underlying5
 a5:=Tryz.isAgg5
 z5:=Tryz.sizeOf5
 v5:=Tryz.zeroValue5
 t9:=Tryz.underlying9
 a9:=Tryz.isAgg9
 z9:=Tryz.sizeOf9
 v9:=Tryz.zeroValue9
 t21:=Tryz.underlying21
 a21:=Tryz.isAgg21
 z21:=Tryz.sizeOf21
 v21:=Tryz.zeroValue21
 t31:=Tryz.underlying51
 a31:=Tryz.isAgg51
 z31:=Tryz.sizeOf51
 v31:=Tryz.zeroValue51
 t46:=Tryz.underlying174
 a46:=Tryz.isAgg174
 z46:=Tryz.sizeOf174
 v46:=Tryz.zeroValue174
 t51:=Tryz.underlying232
 a51:=Tryz.isAgg232
 z51:=Tryz.sizeOf232
 v51:=Tryz.zeroValue232
 t105:=Tryz.underlying248
 a105:=Tryz.isAgg248
 z105:=Tryz.sizeOf248
 v105:=Tryz.zeroValue248
 t119:=Tryz.underlying243
 a119:=Tryz.isAgg243
 z119:=Tryz.sizeOf243
 t138:=Tryz.underlying245
 a138:=Tryz.isAgg245
 z138:=Tryz.sizeOf245
 v138:=Tryz.zeroValue245
 t139:=Tryz.underlying246
 a139:=Tryz.isAgg246
 z139:=Tryz.sizeOf246
 v139:=Tryz.zeroValue246
 t146:=Tryz.underlying352
 a146:=Tryz.isAgg352
 z146:=Tryz.sizeOf352
 v146:=Tryz.zeroValue352
 g1:=by kernel_rfl
 g3:=by kernel_rfl
 g4:=by kernel_rfl
def zrJ:Shelf.Ren where
 f:=fun x=>match x with | 137=>136 | 217=>205 | 266=>259 | n=>n
 t:=fun x=>match x with | 9=>9 | 5=>5 | 3=>3 | n=>n
 g:=fun n=>n
theorem zrI:Lays.n137 Tryz.prog zrJ where
 mixed:=by kernel_rfl
 f137:=Tryz.func136.trans (by kernel_rfl)
 f217:=Tryz.func205.trans (by kernel_rfl)
 f266:=Tryz.func259.trans (by kernel_rfl)
 t3:=Tryz.underlying3
 a3:=Tryz.isAgg3
 z3:=Tryz.sizeOf3
 v3:=Tryz.zeroValue3
 t5:=Tryz.underlying5
 a5:=Tryz.isAgg5
 z5:=Tryz.sizeOf5
 v5:=Tryz.zeroValue5
 t9:=Tryz.underlying9
 a9:=Tryz.isAgg9
 z9:=Tryz.sizeOf9
 v9:=Tryz.zeroValue9
def zpG:Shelf.Ren where
 f:=fun x=>match x with | 145=>26 | 220=>72 | 219=>135 | 217=>205 | 225=>206 | 224=>207 | 267=>208 | 266=>259 | 314=>260 | n=>n
 t:=fun x=>match x with | 9=>9 | 4=>4 | 59=>77 | 3=>3 | 5=>5 | 46=>174 | 146=>352 | 51=>232 | n=>n
 g:=fun x=>match x with | 1=>0 | n=>n
theorem zpF:Lays.n145 Tryz.prog zpG where
 mixed:=by kernel_rfl
 f145:=Tryz.func26.trans (by kernel_rfl)
 f217:=Tryz.func205.trans (by kernel_rfl)
 f219:=Tryz.func135.trans (by kernel_rfl)
 f220:=Tryz.func72.trans (by kernel_rfl)
 f224:=Tryz.func207.trans (by kernel_rfl)
 f225:=Tryz.func206.trans (by kernel_rfl)
 f266:=Tryz.func259.trans (by kernel_rfl)
 f267:=Tryz.func208.trans (by kernel_rfl)
 f314:=Tryz.func260.trans (by kernel_rfl)
 t3:=Tryz.underlying3
 a3:=Tryz.isAgg3
 z3:=Tryz.sizeOf3
 v3:=Tryz.zeroValue3
 t4:=Tryz.underlying4
 a4:=Tryz.isAgg4
 z4:=Tryz.sizeOf4
 v4:=Tryz.zeroValue4
 t5:=Tryz.underlying5
 a5:=Tryz.isAgg5
 z5:=Tryz.sizeOf5
 v5:=Tryz.zeroValue5
 t9:=Tryz.underlying9
 a9:=Tryz.isAgg9
 z9:=Tryz.sizeOf9
 v9:=Tryz.zeroValue9
 t46:=Tryz.underlying174
 a46:=Tryz.isAgg174
 z46:=Tryz.sizeOf174
 v46:=Tryz.zeroValue174
 t51:=Tryz.underlying232
 a51:=Tryz.isAgg232
 z51:=Tryz.sizeOf232
 v51:=Tryz.zeroValue232
 t59:=Tryz.underlying77
 a59:=Tryz.isAgg77
 z59:=Tryz.sizeOf77
 v59:=Tryz.zeroValue77
 t146:=Tryz.underlying352
 a146:=Tryz.isAgg352
 z146:=Tryz.sizeOf352
 v146:=Tryz.zeroValue352
 g1:=by kernel_rfl
def zu0:Shelf.Ren where
 f:=fun x=>match x with | 6=>40 | 8=>89 | 9=>88 | 19=>151 | 20=>152 | 21=>142 | 22=>143 | 23=>144 | 24=>145 | 25=>146 | 26=>147 | 27=>148 | 28=>149 | 29=>150 | 36=>232 | 31=>233 | 32=>234 | 37=>235 | 38=>236 | 39=>237 | 41=>275 | n=>n
 t:=fun x=>match x with | 27=>51 | 29=>9 | 3=>3 | 32=>174 | 26=>51 | 0=>0 | 44=>232 | 46=>234 | 4=>4 | 36=>226 | 35=>225 | 41=>111 | 5=>5 | 9=>9 | 53=>310 | 57=>314 | 63=>363 | 64=>364 | n=>n
 g:=fun n=>n
theorem zuZ:SlLaysM.n6 Tryz.prog zu0 where
 mixed:=by kernel_rfl
 f6:=⟨"slices.Sort[[]string,string]",of_decide_eq_true (by kernel_rfl),Tryz.func40.trans (by kernel_rfl)⟩
 f8:=Tryz.func89.trans (by kernel_rfl)
 f9:=⟨"slices.pdqsortOrdered[string]",of_decide_eq_true (by kernel_rfl),Tryz.func88.trans (by kernel_rfl)⟩
 f19:=Tryz.func151.trans (by kernel_rfl)
 f20:=Tryz.func152.trans (by kernel_rfl)
 f21:=⟨"slices.insertionSortOrdered[string]",of_decide_eq_true (by kernel_rfl),Tryz.func142.trans (by kernel_rfl)⟩
 f22:=⟨"slices.heapSortOrdered[string]",of_decide_eq_true (by kernel_rfl),Tryz.func143.trans (by kernel_rfl)⟩
 f23:=⟨"slices.breakPatternsOrdered[string]",of_decide_eq_true (by kernel_rfl),Tryz.func144.trans (by kernel_rfl)⟩
 f24:=⟨"slices.choosePivotOrdered[string]",of_decide_eq_true (by kernel_rfl),Tryz.func145.trans (by kernel_rfl)⟩
 f25:=⟨"slices.reverseRangeOrdered[string]",of_decide_eq_true (by kernel_rfl),Tryz.func146.trans (by kernel_rfl)⟩
 f26:=⟨"slices.partialInsertionSortOrdered[string]",of_decide_eq_true (by kernel_rfl),Tryz.func147.trans (by kernel_rfl)⟩
 f27:=⟨"cmp.Less[string]",of_decide_eq_true (by kernel_rfl),Tryz.func148.trans (by kernel_rfl)⟩
 f28:=⟨"slices.partitionEqualOrdered[string]",of_decide_eq_true (by kernel_rfl),Tryz.func149.trans (by kernel_rfl)⟩
 f29:=⟨"slices.partitionOrdered[string]",of_decide_eq_true (by kernel_rfl),Tryz.func150.trans (by kernel_rfl)⟩
 f31:=Tryz.func233.trans (by kernel_rfl)
 f32:=Tryz.func234.trans (by kernel_rfl)
 f36:=⟨"slices.siftDownOrdered[string]",of_decide_eq_true (by kernel_rfl),Tryz.func232.trans (by kernel_rfl)⟩
 f37:=⟨"slices.medianAdjacentOrdered[string]",of_decide_eq_true (by kernel_rfl),Tryz.func235.trans (by kernel_rfl)⟩
 f38:=⟨"slices.medianOrdered[string]",of_decide_eq_true (by kernel_rfl),Tryz.func236.trans (by kernel_rfl)⟩
 f39:=⟨"cmp.isNaN[string]",of_decide_eq_true (by kernel_rfl),Tryz.func237.trans (by kernel_rfl)⟩
 f41:=⟨"slices.order2Ordered[string]",of_decide_eq_true (by kernel_rfl),Tryz.func275.trans (by kernel_rfl)⟩
 t0:=Tryz.underlying0
 a0:=Tryz.isAgg0
 z0:=Tryz.sizeOf0
 v0:=Tryz.zeroValue0
 t3:=Tryz.underlying3
 a3:=Tryz.isAgg3
 z3:=Tryz.sizeOf3
 v3:=Tryz.zeroValue3
 t4:=Tryz.underlying4
 a4:=Tryz.isAgg4
 z4:=Tryz.sizeOf4
 v4:=Tryz.zeroValue4
 t5:=Tryz.underlying5
 a5:=Tryz.isAgg5
 z5:=Tryz.sizeOf5
 v5:=Tryz.zeroValue5
 t9:=Tryz.underlying9
 a9:=Tryz.isAgg9
 z9:=Tryz.sizeOf9
 v9:=Tryz.zeroValue9
 t26:=Tryz.underlying51
 a26:=Tryz.isAgg51
 z26:=Tryz.sizeOf51
 v26:=Tryz.zeroValue51
 t27:=Tryz.underlying51
 a27:=Tryz.isAgg51
 z27:=Tryz.sizeOf51
 v27:=Tryz.zeroValue51
 t29:=Tryz.underlying9
 a29:=Tryz.isAgg9
 z29:=Tryz.sizeOf9
 v29:=Tryz.zeroValue9
 t32:=Tryz.underlying174
 a32:=Tryz.isAgg174
 z32:=Tryz.sizeOf174
 v32:=Tryz.zeroValue174
 t35:=Tryz.underlying225
 a35:=Tryz.isAgg225
 z35:=Tryz.sizeOf225
 v35:=Tryz.zeroValue225
 t36:=Tryz.underlying226
 a36:=Tryz.isAgg226
 z36:=Tryz.sizeOf226
 v36:=Tryz.zeroValue226
 t41:=Tryz.underlying111
 a41:=Tryz.isAgg111
 z41:=Tryz.sizeOf111
 v41:=Tryz.zeroValue111
 t44:=Tryz.underlying232
 a44:=Tryz.isAgg232
 z44:=Tryz.sizeOf232
 v44:=Tryz.zeroValue232
 t46:=Tryz.underlying234
 a46:=Tryz.isAgg234
 z46:=Tryz.sizeOf234
 v46:=Tryz.zeroValue234
 t53:=Tryz.underlying310
 a53:=Tryz.isAgg310
 z53:=Tryz.sizeOf310
 v53:=Tryz.zeroValue310
 t57:=Tryz.underlying314
 a57:=Tryz.isAgg314
 z57:=Tryz.sizeOf314
 v57:=Tryz.zeroValue314
 t63:=Tryz.underlying363
 a63:=Tryz.isAgg363
 z63:=Tryz.sizeOf363
 v63:=Tryz.zeroValue363
 t64:=Tryz.underlying364
 a64:=Tryz.isAgg364
 z64:=Tryz.sizeOf364
 v64:=Tryz.zeroValue364
def zro:Shelf.Ren where
 f:=fun x=>match x with | 4=>87 | n=>n
 t:=fun x=>match x with | 22=>32 | 25=>103 | 3=>3 | 4=>4 | 9=>9 | 20=>20 | 0=>0 | n=>n
 g:=fun n=>n
theorem zrn:Lays8.n4 Tryz.prog zro where
 mixed:=by kernel_rfl
 f4:=⟨"slices.Grow[[]drawboard/api.Thing,drawboard/api.Thing]",of_decide_eq_true (by kernel_rfl),Tryz.func87.trans (by kernel_rfl)⟩
 t0:=Tryz.underlying0
 a0:=Tryz.isAgg0
 z0:=Tryz.sizeOf0
 v0:=Tryz.zeroValue0
 t3:=Tryz.underlying3
 a3:=Tryz.isAgg3
 z3:=Tryz.sizeOf3
 v3:=Tryz.zeroValue3
 t4:=Tryz.underlying4
 a4:=Tryz.isAgg4
 z4:=Tryz.sizeOf4
 v4:=Tryz.zeroValue4
 t9:=Tryz.underlying9
 a9:=Tryz.isAgg9
 z9:=Tryz.sizeOf9
 v9:=Tryz.zeroValue9
 t20:=Tryz.underlying20
 a20:=Tryz.isAgg20
 z20:=Tryz.sizeOf20
 v20:=Tryz.zeroValue20
 t22:=Tryz.underlying32
 a22:=Tryz.isAgg32
 z22:=Tryz.sizeOf32
 v22:=Tryz.zeroValue32
def zpv:Shelf.Ren where
 f:=fun x=>match x with | 106=>44 | 213=>90 | 265=>153 | n=>n
 t:=fun x=>match x with | 9=>9 | 3=>3 | n=>n
 g:=fun n=>n
theorem zfO:Lays.n106 Tryz.prog zpv where
 mixed:=by kernel_rfl
 f106:=Tryz.func44.trans (by kernel_rfl)
 f213:=Tryz.func90.trans (by kernel_rfl)
 f265:=Tryz.func153.trans (by kernel_rfl)
 t3:=Tryz.underlying3
 a3:=Tryz.isAgg3
 z3:=Tryz.sizeOf3
 v3:=Tryz.zeroValue3
 t9:=Tryz.underlying9
 a9:=Tryz.isAgg9
 z9:=Tryz.sizeOf9
 v9:=Tryz.zeroValue9
def zuX:Shelf.Ren where
 f:=fun x=>match x with | 6=>83 | 15=>89 | 14=>140 | 28=>151 | 29=>152 | 20=>216 | 21=>217 | 22=>218 | 23=>219 | 24=>220 | 25=>221 | 26=>222 | 27=>223 | 46=>269 | 47=>233 | 48=>234 | 49=>270 | 50=>271 | 57=>306 | n=>n
 t:=fun x=>match x with | 22=>101 | 24=>116 | 25=>168 | 3=>3 | 39=>174 | 0=>0 | 53=>232 | 55=>234 | 4=>4 | 46=>226 | 45=>225 | 50=>111 | 5=>5 | 9=>9 | 66=>310 | 70=>314 | 76=>363 | 77=>364 | n=>n
 g:=fun n=>n
theorem zuW:SlLaysF0.n6 Tryz.prog zuX where
 mixed:=by kernel_rfl
 f6:=⟨"slices.SortFunc[[]drawboard/api.Attr,drawboard/api.Attr]",of_decide_eq_true (by kernel_rfl),Tryz.func83.trans (by kernel_rfl)⟩
 f14:=⟨"slices.pdqsortCmpFunc[drawboard/api.Attr]",of_decide_eq_true (by kernel_rfl),Tryz.func140.trans (by kernel_rfl)⟩
 f15:=Tryz.func89.trans (by kernel_rfl)
 f20:=⟨"slices.insertionSortCmpFunc[drawboard/api.Attr]",of_decide_eq_true (by kernel_rfl),Tryz.func216.trans (by kernel_rfl)⟩
 f21:=⟨"slices.heapSortCmpFunc[drawboard/api.Attr]",of_decide_eq_true (by kernel_rfl),Tryz.func217.trans (by kernel_rfl)⟩
 f22:=⟨"slices.breakPatternsCmpFunc[drawboard/api.Attr]",of_decide_eq_true (by kernel_rfl),Tryz.func218.trans (by kernel_rfl)⟩
 f23:=⟨"slices.choosePivotCmpFunc[drawboard/api.Attr]",of_decide_eq_true (by kernel_rfl),Tryz.func219.trans (by kernel_rfl)⟩
 f24:=⟨"slices.reverseRangeCmpFunc[drawboard/api.Attr]",of_decide_eq_true (by kernel_rfl),Tryz.func220.trans (by kernel_rfl)⟩
 f25:=⟨"slices.partialInsertionSortCmpFunc[drawboard/api.Attr]",of_decide_eq_true (by kernel_rfl),Tryz.func221.trans (by kernel_rfl)⟩
 f26:=⟨"slices.partitionEqualCmpFunc[drawboard/api.Attr]",of_decide_eq_true (by kernel_rfl),Tryz.func222.trans (by kernel_rfl)⟩
 f27:=⟨"slices.partitionCmpFunc[drawboard/api.Attr]",of_decide_eq_true (by kernel_rfl),Tryz.func223.trans (by kernel_rfl)⟩
 f28:=Tryz.func151.trans (by kernel_rfl)
 f29:=Tryz.func152.trans (by kernel_rfl)
 f46:=⟨"slices.siftDownCmpFunc[drawboard/api.Attr]",of_decide_eq_true (by kernel_rfl),Tryz.func269.trans (by kernel_rfl)⟩
 f47:=Tryz.func233.trans (by kernel_rfl)
 f48:=Tryz.func234.trans (by kernel_rfl)
 f49:=⟨"slices.medianAdjacentCmpFunc[drawboard/api.Attr]",of_decide_eq_true (by kernel_rfl),Tryz.func270.trans (by kernel_rfl)⟩
 f50:=⟨"slices.medianCmpFunc[drawboard/api.Attr]",of_decide_eq_true (by kernel_rfl),Tryz.func271.trans (by kernel_rfl)⟩
 f57:=⟨"slices.order2CmpFunc[drawboard/api.Attr]",of_decide_eq_true (by kernel_rfl),Tryz.func306.trans (by kernel_rfl)⟩
 t0:=Tryz.underlying0
 a0:=Tryz.isAgg0
 z0:=Tryz.sizeOf0
 v0:=Tryz.zeroValue0
 t3:=Tryz.underlying3
 a3:=Tryz.isAgg3
 z3:=Tryz.sizeOf3
 v3:=Tryz.zeroValue3
 t4:=Tryz.underlying4
 a4:=Tryz.isAgg4
 z4:=Tryz.sizeOf4
 v4:=Tryz.zeroValue4
 t5:=Tryz.underlying5
 a5:=Tryz.isAgg5
 z5:=Tryz.sizeOf5
 v5:=Tryz.zeroValue5
 t9:=Tryz.underlying9
 a9:=Tryz.isAgg9
 z9:=Tryz.sizeOf9
 v9:=Tryz.zeroValue9
 t22:=Tryz.underlying101
 a22:=Tryz.isAgg101
 z22:=Tryz.sizeOf101
 v22:=Tryz.zeroValue101
 t25:=Tryz.underlying168
 a25:=Tryz.isAgg168
 z25:=Tryz.sizeOf168
 v25:=Tryz.zeroValue168
 t39:=Tryz.underlying174
 a39:=Tryz.isAgg174
 z39:=Tryz.sizeOf174
 v39:=Tryz.zeroValue174
 t45:=Tryz.underlying225
 a45:=Tryz.isAgg225
 z45:=Tryz.sizeOf225
 v45:=Tryz.zeroValue225
 t46:=Tryz.underlying226
 a46:=Tryz.isAgg226
 z46:=Tryz.sizeOf226
 v46:=Tryz.zeroValue226
 t50:=Tryz.underlying111
 a50:=Tryz.isAgg111
 z50:=Tryz.sizeOf111
 v50:=Tryz.zeroValue111
 t53:=Tryz.underlying232
 a53:=Tryz.isAgg232
 z53:=Tryz.sizeOf232
 v53:=Tryz.zeroValue232
 t55:=Tryz.underlying234
 a55:=Tryz.isAgg234
 z55:=Tryz.sizeOf234
 v55:=Tryz.zeroValue234
 t66:=Tryz.underlying310
 a66:=Tryz.isAgg310
 z66:=Tryz.sizeOf310
 v66:=Tryz.zeroValue310
 t70:=Tryz.underlying314
 a70:=Tryz.isAgg314
 z70:=Tryz.sizeOf314
 v70:=Tryz.zeroValue314
 t76:=Tryz.underlying363
 a76:=Tryz.isAgg363
 z76:=Tryz.sizeOf363
 v76:=Tryz.zeroValue363
 t77:=Tryz.underlying364
 a77:=Tryz.isAgg364
 z77:=Tryz.sizeOf364
 v77:=Tryz.zeroValue364
def zuV:Shelf.Ren where
 f:=fun x=>match x with | 6=>85 | 15=>89 | 14=>141 | 28=>151 | 29=>152 | 20=>224 | 21=>225 | 22=>226 | 23=>227 | 24=>228 | 25=>229 | 26=>230 | 27=>231 | 46=>272 | 47=>233 | 48=>234 | 49=>273 | 50=>274 | 57=>307 | n=>n
 t:=fun x=>match x with | 22=>32 | 24=>103 | 25=>170 | 3=>3 | 39=>174 | 0=>0 | 53=>232 | 55=>234 | 4=>4 | 46=>226 | 45=>225 | 50=>111 | 5=>5 | 9=>9 | 66=>310 | 70=>314 | 76=>363 | 77=>364 | n=>n
 g:=fun n=>n
theorem zuU:SlLaysF0.n6 Tryz.prog zuV where
 mixed:=by kernel_rfl
 f6:=⟨"slices.SortFunc[[]drawboard/api.Thing,drawboard/api.Thing]",of_decide_eq_true (by kernel_rfl),Tryz.func85.trans (by kernel_rfl)⟩
 f14:=⟨"slices.pdqsortCmpFunc[drawboard/api.Thing]",of_decide_eq_true (by kernel_rfl),Tryz.func141.trans (by kernel_rfl)⟩
 f15:=Tryz.func89.trans (by kernel_rfl)
 f20:=⟨"slices.insertionSortCmpFunc[drawboard/api.Thing]",of_decide_eq_true (by kernel_rfl),Tryz.func224.trans (by kernel_rfl)⟩
 f21:=⟨"slices.heapSortCmpFunc[drawboard/api.Thing]",of_decide_eq_true (by kernel_rfl),Tryz.func225.trans (by kernel_rfl)⟩
 f22:=⟨"slices.breakPatternsCmpFunc[drawboard/api.Thing]",of_decide_eq_true (by kernel_rfl),Tryz.func226.trans (by kernel_rfl)⟩
 f23:=⟨"slices.choosePivotCmpFunc[drawboard/api.Thing]",of_decide_eq_true (by kernel_rfl),Tryz.func227.trans (by kernel_rfl)⟩
 f24:=⟨"slices.reverseRangeCmpFunc[drawboard/api.Thing]",of_decide_eq_true (by kernel_rfl),Tryz.func228.trans (by kernel_rfl)⟩
 f25:=⟨"slices.partialInsertionSortCmpFunc[drawboard/api.Thing]",of_decide_eq_true (by kernel_rfl),Tryz.func229.trans (by kernel_rfl)⟩
 f26:=⟨"slices.partitionEqualCmpFunc[drawboard/api.Thing]",of_decide_eq_true (by kernel_rfl),Tryz.func230.trans (by kernel_rfl)⟩
 f27:=⟨"slices.partitionCmpFunc[drawboard/api.Thing]",of_decide_eq_true (by kernel_rfl),Tryz.func231.trans (by kernel_rfl)⟩
 f28:=Tryz.func151.trans (by kernel_rfl)
 f29:=Tryz.func152.trans (by kernel_rfl)
 f46:=⟨"slices.siftDownCmpFunc[drawboard/api.Thing]",of_decide_eq_true (by kernel_rfl),Tryz.func272.trans (by kernel_rfl)⟩
 f47:=Tryz.func233.trans (by kernel_rfl)
 f48:=Tryz.func234.trans (by kernel_rfl)
 f49:=⟨"slices.medianAdjacentCmpFunc[drawboard/api.Thing]",of_decide_eq_true (by kernel_rfl),Tryz.func273.trans (by kernel_rfl)⟩
 f50:=⟨"slices.medianCmpFunc[drawboard/api.Thing]",of_decide_eq_true (by kernel_rfl),Tryz.func274.trans (by kernel_rfl)⟩
 f57:=⟨"slices.order2CmpFunc[drawboard/api.Thing]",of_decide_eq_true (by kernel_rfl),Tryz.func307.trans (by kernel_rfl)⟩
 t0:=Tryz.underlying0
 a0:=Tryz.isAgg0
 z0:=Tryz.sizeOf0
 v0:=Tryz.zeroValue0
 t3:=Tryz.underlying3
 a3:=Tryz.isAgg3
 z3:=Tryz.sizeOf3
 v3:=Tryz.zeroValue3
 t4:=Tryz.underlying4
 a4:=Tryz.isAgg4
 z4:=Tryz.sizeOf4
 v4:=Tryz.zeroValue4
 t5:=Tryz.underlying5
 a5:=Tryz.isAgg5
 z5:=Tryz.sizeOf5
 v5:=Tryz.zeroValue5
 t9:=Tryz.underlying9
 a9:=Tryz.isAgg9
 z9:=Tryz.sizeOf9
 v9:=Tryz.zeroValue9
 t22:=Tryz.underlying32
 a22:=Tryz.isAgg32
 z22:=Tryz.sizeOf32
 v22:=Tryz.zeroValue32
 t25:=Tryz.underlying170
 a25:=Tryz.isAgg170
 z25:=Tryz.sizeOf170
 v25:=Tryz.zeroValue170
 t39:=Tryz.underlying174
 a39:=Tryz.isAgg174
 z39:=Tryz.sizeOf174
 v39:=Tryz.zeroValue174
 t45:=Tryz.underlying225
 a45:=Tryz.isAgg225
 z45:=Tryz.sizeOf225
 v45:=Tryz.zeroValue225
 t46:=Tryz.underlying226
 a46:=Tryz.isAgg226
 z46:=Tryz.sizeOf226
 v46:=Tryz.zeroValue226
 t50:=Tryz.underlying111
 a50:=Tryz.isAgg111
 z50:=Tryz.sizeOf111
 v50:=Tryz.zeroValue111
 t53:=Tryz.underlying232
 a53:=Tryz.isAgg232
 z53:=Tryz.sizeOf232
 v53:=Tryz.zeroValue232
 t55:=Tryz.underlying234
 a55:=Tryz.isAgg234
 z55:=Tryz.sizeOf234
 v55:=Tryz.zeroValue234
 t66:=Tryz.underlying310
 a66:=Tryz.isAgg310
 z66:=Tryz.sizeOf310
 v66:=Tryz.zeroValue310
 t70:=Tryz.underlying314
 a70:=Tryz.isAgg314
 z70:=Tryz.sizeOf314
 v70:=Tryz.zeroValue314
 t76:=Tryz.underlying363
 a76:=Tryz.isAgg363
 z76:=Tryz.sizeOf363
 v76:=Tryz.zeroValue363
 t77:=Tryz.underlying364
 a77:=Tryz.isAgg364
 z77:=Tryz.sizeOf364
 v77:=Tryz.zeroValue364
theorem zsJ (w:World):Calls Tryz.prog 13 #[] w fun e w'=>e = .returned (.pointer (some ⟨w.heap.size,0,none⟩))∧w'=w.alloc (.cells #[.slice none 0 0,.slice none 0 0,.slice none 0 0,.slice none 0 0,.slice none 0 0] 128):=by
 go_enter Tryz.func13,Tryz.ntmps13
 go_wp2
 go_ret
 exact⟨rfl,rfl⟩
def zpq:Shelf.Ren where
 f:=fun x=>match x with | 41=>191 | n=>n
 t:=fun x=>match x with | 22=>126 | 23=>125 | 4=>4 | n=>n
 g:=fun n=>n
theorem zpp:SlLaysE0.n41 Tryz.prog zpq where
 mixed:=by kernel_rfl
 f41:=⟨"slices.Clone[[]drawboard/desk.state,drawboard/desk.state]",of_decide_eq_true (by kernel_rfl),Tryz.func191.trans (by kernel_rfl)⟩
 t4:=Tryz.underlying4
 a4:=Tryz.isAgg4
 z4:=Tryz.sizeOf4
 v4:=Tryz.zeroValue4
 t22:=Tryz.underlying126
 a22:=Tryz.isAgg126
 z22:=Tryz.sizeOf126
 v22:=Tryz.zeroValue126
theorem zqR:z8 Tryz.prog 25:=⟨_,Tryz.func25,by kernel_rfl,by kernel_rfl⟩
theorem zqQ:z8 Tryz.prog 24:=⟨_,Tryz.func24,by kernel_rfl,by kernel_rfl⟩
theorem zqO:z8 Tryz.prog 20:=⟨_,Tryz.func20,by kernel_rfl,by kernel_rfl⟩
theorem zqK:z8 Tryz.prog 134:=⟨_,Tryz.func134,by kernel_rfl,by kernel_rfl⟩
theorem zq1:z8 Tryz.prog 81:=⟨_,Tryz.func81,by kernel_rfl,by kernel_rfl⟩
theorem zj9:z8 Tryz.prog 32:=⟨_,Tryz.func32,by kernel_rfl,by kernel_rfl⟩
theorem zdY:z8 Tryz.prog 91:=⟨_,Tryz.func91,by kernel_rfl,by kernel_rfl⟩
theorem zq7:z8 Tryz.prog 92:=⟨_,Tryz.func92,by kernel_rfl,by kernel_rfl⟩
theorem zqP:z8 Tryz.prog 210:=⟨_,Tryz.func210,by kernel_rfl,by kernel_rfl⟩
theorem zqM:z8 Tryz.prog 14:=⟨_,Tryz.func14,by kernel_rfl,by kernel_rfl⟩
theorem zqL:z8 Tryz.prog 136:=⟨_,Tryz.func136,by kernel_rfl,by kernel_rfl⟩
theorem zqS:z8 Tryz.prog 26:=⟨_,Tryz.func26,by kernel_rfl,by kernel_rfl⟩
theorem zqT:z8 Tryz.prog 40:=⟨_,Tryz.func40,by kernel_rfl,by kernel_rfl⟩
theorem qR:yK Tryz.prog 32 103:=Tryz.underlying32
theorem qe:Ty Tryz.prog 103 zu:=⟨⟨_,Tryz.underlying103,rfl⟩,by kernel_rfl⟩
theorem zhq:qL Tryz.prog 32 103 zu:=⟨qR,qe,by kernel_rfl⟩
theorem zq6:z8 Tryz.prog 87:=⟨_,Tryz.func87,by kernel_rfl,by kernel_rfl⟩
theorem yX:Ty Tryz.prog 25 Doc:=⟨⟨_,Tryz.underlying25,rfl⟩,by kernel_rfl⟩
theorem qt:yn Tryz.prog 25 0 0:=⟨_,_,Tryz.underlying25,rfl,rfl,by kernel_rfl⟩
theorem jp:zj Doc (List zl) 0 Doc.Nodes:=⟨by decide,fun M x cs w h=>(zj.fst zj.self).2 M _ cs w h⟩
theorem qU:Ty Tryz.prog 22 (List zl):=⟨⟨_,Tryz.underlying22,rfl⟩,by kernel_rfl⟩
theorem y4:yK Tryz.prog 22 47:=Tryz.underlying22
theorem jV:yn Tryz.prog 25 1 1:=⟨_,_,Tryz.underlying25,rfl,rfl,by kernel_rfl⟩
theorem zcd:zj Doc (List zA) 1 Doc.Edges:=⟨by decide,fun M x cs w h=>(zj.snd zj.self).2 M _ cs w h⟩
theorem Ji:Ty Tryz.prog 23 (List zA):=⟨⟨_,Tryz.underlying23,rfl⟩,by kernel_rfl⟩
theorem jx:yK Tryz.prog 23 73:=Tryz.underlying23
theorem yd:Ty Tryz.prog 47 zl:=⟨⟨_,Tryz.underlying47,rfl⟩,by kernel_rfl⟩
theorem vC:yZ Tryz.prog 47 (⟨Str.nil,(0:Int),(⟨(0:Int),(0:Int),(0:Int),(0:Int)⟩:Box),Str.nil,Str.nil,Str.nil,false⟩:zl):=⟨[.string ByteArray.empty,.int .i64 0,.int .i64 0,.int .i64 0,.int .i64 0,.int .i64 0,.string ByteArray.empty,.string ByteArray.empty,.string ByteArray.empty,.bool false],by kernel_rfl,fun _ _=>⟨[_],_,rfl,y5,⟨[_],_,rfl,⟨rfl,by decide⟩,⟨[_,_,_,_],_,rfl,⟨[_],_,rfl,⟨rfl,by decide⟩,⟨[_],_,rfl,⟨rfl,by decide⟩,⟨[_],_,rfl,⟨rfl,by decide⟩,⟨rfl,by decide⟩⟩⟩⟩,⟨[_],_,rfl,y5,⟨[_],_,rfl,y5,⟨[_],_,rfl,y5,rfl⟩⟩⟩⟩⟩⟩⟩
theorem Qh:yn Tryz.prog 47 0 0:=⟨_,_,Tryz.underlying47,rfl,rfl,by kernel_rfl⟩
theorem QF:zj zl Str 0 zl.Id:=⟨by decide,fun M x cs w h=>(zj.fst zj.self).2 M _ cs w h⟩
theorem ty9:Ty Tryz.prog 9 Str:=⟨⟨_,Tryz.underlying9,rfl⟩,by kernel_rfl⟩
theorem zo4:yZ Tryz.prog 4 false:=⟨[.bool false],by kernel_rfl,fun _ _=>rfl⟩
theorem zeq:qD Tryz.prog 142 9 4 (MKey.desc Str):=⟨Tryz.underlying142,Tryz.underlying9⟩
theorem zj7:z8 Tryz.prog 126:=⟨_,Tryz.func126,by kernel_rfl,by kernel_rfl⟩
theorem jo:yn Tryz.prog 47 1 1:=⟨_,_,Tryz.underlying47,rfl,rfl,by kernel_rfl⟩
theorem jC:zj zl Int 1 zl.Kind:=⟨by decide,fun M x cs w h=>(zj.snd (zj.fst zj.self)).2 M _ cs w h⟩
theorem ty3:Ty Tryz.prog 3 Int:=⟨⟨_,Tryz.underlying3,rfl⟩,by kernel_rfl⟩
theorem vK:yn Tryz.prog 47 2 2:=⟨_,_,Tryz.underlying47,rfl,rfl,by kernel_rfl⟩
theorem Qi:zj zl Box 2 zl.Box:=⟨by decide,fun M x cs w h=>(zj.snd (zj.snd (zj.fst zj.self))).2 M _ cs w h⟩
theorem yi:Ty Tryz.prog 45 Box:=⟨⟨_,Tryz.underlying45,rfl⟩,by kernel_rfl⟩
theorem vd:jI Tryz.prog 45 [.int .i64 0,.int .i64 0,.int .i64 0,.int .i64 0] [(0,1),(1,1),(2,1),(3,1)]:=⟨by kernel_rfl,_,Tryz.underlying45,by kernel_rfl⟩
theorem vu:∀(M:zh) (w:World),Rep.cells M (⟨(0:Int),(0:Int),(0:Int),(0:Int)⟩:Box) [.int .i64 0,.int .i64 0,.int .i64 0,.int .i64 0] w:=fun _ _=>⟨[_],_,rfl,⟨rfl,by decide⟩,⟨[_],_,rfl,⟨rfl,by decide⟩,⟨[_],_,rfl,⟨rfl,by decide⟩,⟨rfl,by decide⟩⟩⟩⟩
theorem zqj:DB.EqAt Tryz.prog 45 Box:=zqk (n:=4) (fun p=>[p.X,p.Y,p.W_,p.H]) (fun a b=>by cases a;cases b;simp) (fun _=>rfl) (fun M v w a h=>by obtain⟨cs,h,rfl⟩:=h;obtain⟨_,_,rfl,⟨rfl,_⟩,⟨_,_,rfl,⟨rfl,_⟩,⟨_,_,rfl,⟨rfl,_⟩,⟨rfl,_⟩⟩⟩⟩:=h;rfl) ⟨by kernel_rfl,by kernel_rfl,by kernel_rfl,by kernel_rfl⟩
theorem YP:yn Tryz.prog 45 0 0:=⟨_,_,Tryz.underlying45,rfl,rfl,by kernel_rfl⟩
theorem YW:zj Box Int 0 Box.X:=⟨by decide,fun M x cs w h=>(zj.fst zj.self).2 M _ cs w h⟩
theorem zj8:z8 Tryz.prog 199:=⟨_,Tryz.func199,by kernel_rfl,by kernel_rfl⟩
theorem YQ:yn Tryz.prog 45 1 1:=⟨_,_,Tryz.underlying45,rfl,rfl,by kernel_rfl⟩
theorem YX:zj Box Int 1 Box.Y:=⟨by decide,fun M x cs w h=>(zj.snd (zj.fst zj.self)).2 M _ cs w h⟩
theorem Ya:yn Tryz.prog 45 2 2:=⟨_,_,Tryz.underlying45,rfl,rfl,by kernel_rfl⟩
theorem Yf:zj Box Int 2 Box.W_:=⟨by decide,fun M x cs w h=>(zj.snd (zj.snd (zj.fst zj.self))).2 M _ cs w h⟩
theorem Yb:yn Tryz.prog 45 3 3:=⟨_,_,Tryz.underlying45,rfl,rfl,by kernel_rfl⟩
theorem Yg:zj Box Int 3 Box.H:=⟨by decide,fun M x cs w h=>(zj.snd (zj.snd (zj.snd zj.self))).2 M _ cs w h⟩
theorem zdR:yn Tryz.prog 47 3 6:=⟨_,_,Tryz.underlying47,rfl,rfl,by kernel_rfl⟩
theorem zgs:zj zl Str 6 zl.Text:=⟨by decide,fun M x cs w h=>(zj.snd (zj.snd (zj.snd (zj.fst zj.self)))).2 M _ cs w h⟩
theorem zb2:yn Tryz.prog 47 4 7:=⟨_,_,Tryz.underlying47,rfl,rfl,by kernel_rfl⟩
theorem zd3:zj zl Str 7 zl.Class:=⟨by decide,fun M x cs w h=>(zj.snd (zj.snd (zj.snd (zj.snd (zj.fst zj.self))))).2 M _ cs w h⟩
theorem zwl:∀(M:zh) (w:World),Rep.cells M (⟨(⟨([]:(List zl)),([]:(List zA))⟩:Doc),⟨.map none⟩,⟨.map none⟩⟩:vv) [.slice none 0 0,.slice none 0 0,.map none,.map none] w:=fun _ _=>⟨[_,_],_,rfl,⟨[_],_,rfl,⟨none,0,rfl,Nat.le_refl _,by decide,rfl⟩,⟨none,0,rfl,Nat.le_refl _,by decide,rfl⟩⟩,⟨[_],_,rfl,⟨rfl,rfl,rfl⟩,⟨rfl,rfl,rfl⟩⟩⟩
theorem zkr:zj vv Raw 3 vv.members:=⟨by decide,fun M x cs w h=>(zj.snd (zj.snd zj.self)).2 M _ cs w h⟩
theorem zvx:zm vv Raw 3 (fun x z=>{ x with members:=z }):=⟨by decide,fun M x z cs zs w h hz=>(zm.snd (zm.snd zm.self)).2 M _ z cs zs w h hz⟩
theorem zrx:zj vv Raw 2 vv.number:=⟨by decide,fun M x cs w h=>(zj.snd (zj.fst zj.self)).2 M _ cs w h⟩
theorem zvw:zm vv Raw 2 (fun x z=>{ x with number:=z }):=⟨by decide,fun M x z cs zs w h hz=>(zm.snd (zm.fst zm.self)).2 M _ z cs zs w h hz⟩
theorem zvv:zm vv Doc 0 (fun x z=>{ x with d:=z }):=⟨by decide,fun M x z cs zs w h hz=>(zm.fst zm.self).2 M _ z cs zs w h hz⟩
theorem zpc:jI Tryz.prog 208 [.slice none 0 0,.slice none 0 0,.map none,.map none] [(0,2),(2,1),(3,1)]:=⟨by kernel_rfl,_,Tryz.underlying208,by kernel_rfl⟩
theorem zdP:yn Tryz.prog 208 1 2:=⟨_,_,Tryz.underlying208,rfl,rfl,by kernel_rfl⟩
theorem zgp:zj yr (GMap Str Int) 2 yr.number:=⟨by decide,fun M x cs w h=>(zj.snd (zj.fst zj.self)).2 M _ cs w h⟩
theorem zvU:Ty Tryz.prog 205 Raw:=⟨⟨_,Tryz.underlying205,rfl⟩,by kernel_rfl⟩
theorem zer:qD Tryz.prog 205 9 3 (MKey.desc Str):=⟨Tryz.underlying205,Tryz.underlying9⟩
theorem vL:yn Tryz.prog 47 5 8:=⟨_,_,Tryz.underlying47,rfl,rfl,by kernel_rfl⟩
theorem Qj:zj zl Str 8 zl.Parent:=⟨by decide,fun M x cs w h=>(zj.snd (zj.snd (zj.snd (zj.snd (zj.snd (zj.fst zj.self)))))).2 M _ cs w h⟩
theorem zdQ:yn Tryz.prog 208 2 3:=⟨_,_,Tryz.underlying208,rfl,rfl,by kernel_rfl⟩
theorem zko:zj yr (GMap Str (List Int)) 3 yr.members:=⟨by decide,fun M x cs w h=>(zj.snd (zj.snd zj.self)).2 M _ cs w h⟩
theorem znu:Ty Tryz.prog 206 Raw:=⟨⟨_,Tryz.underlying206,rfl⟩,by kernel_rfl⟩
theorem znO:yZ Tryz.prog 94 ([]:(List Int)):=⟨[.slice none 0 0],by kernel_rfl,fun _ _=>⟨none,0,rfl,Nat.le_refl _,by decide,rfl⟩⟩
theorem zes:qD Tryz.prog 206 9 94 (MKey.desc Str):=⟨Tryz.underlying206,Tryz.underlying9⟩
theorem zwh:yZ Tryz.prog 94 (⟨.slice none 0 0⟩:Raw):=⟨[.slice none 0 0],by kernel_rfl,fun _ _=>⟨rfl,rfl,rfl⟩⟩
theorem qS:yK Tryz.prog 94 3:=Tryz.underlying94
theorem hz3:yY Tryz.prog 3:=by unfold yY;kernel_rfl
theorem zhr:qL Tryz.prog 94 3 Int:=⟨qS,ty3,by kernel_rfl⟩
theorem Q9:yn Tryz.prog 208 0 0:=⟨_,_,Tryz.underlying208,rfl,rfl,by kernel_rfl⟩
theorem Ye:zj yr Doc 0 yr.d:=⟨by decide,fun M x cs w h=>(zj.fst zj.self).2 M _ cs w h⟩
theorem zh7:Ty Tryz.prog 205 (GMap Str Int):=⟨⟨_,Tryz.underlying205,rfl⟩,by kernel_rfl⟩
theorem zo3:yZ Tryz.prog 3 (0:Int):=⟨[.int .i64 0],by kernel_rfl,fun _ _=>⟨rfl,by decide⟩⟩
theorem znv:Ty Tryz.prog 206 (GMap Str (List Int)):=⟨⟨_,Tryz.underlying206,rfl⟩,by kernel_rfl⟩
theorem yP:Ty Tryz.prog 73 zA:=⟨⟨_,Tryz.underlying73,rfl⟩,by kernel_rfl⟩
theorem zbB:yZ Tryz.prog 73 (⟨Str.nil,(⟨Str.nil,(0:Int),(0:Int)⟩:yg),(⟨Str.nil,(0:Int),(0:Int)⟩:yg),([]:(List zJ)),Str.nil,Str.nil⟩:zA):=⟨[.string ByteArray.empty,.string ByteArray.empty,.int .i64 0,.int .i64 0,.string ByteArray.empty,.int .i64 0,.int .i64 0,.slice none 0 0,.string ByteArray.empty,.string ByteArray.empty],by kernel_rfl,fun _ _=>⟨[_],_,rfl,y5,⟨[_,_,_],_,rfl,⟨[_],_,rfl,y5,⟨[_],_,rfl,⟨rfl,by decide⟩,⟨rfl,by decide⟩⟩⟩,⟨[_,_,_],_,rfl,⟨[_],_,rfl,y5,⟨[_],_,rfl,⟨rfl,by decide⟩,⟨rfl,by decide⟩⟩⟩,⟨[_],_,rfl,⟨none,0,rfl,Nat.le_refl _,by decide,rfl⟩,⟨[_],_,rfl,y5,y5⟩⟩⟩⟩⟩⟩
theorem JF:yn Tryz.prog 73 0 0:=⟨_,_,Tryz.underlying73,rfl,rfl,by kernel_rfl⟩
theorem zaN:zj zA Str 0 zA.Id:=⟨by decide,fun M x cs w h=>(zj.fst zj.self).2 M _ cs w h⟩
theorem zdT:yn Tryz.prog 73 1 1:=⟨_,_,Tryz.underlying73,rfl,rfl,by kernel_rfl⟩
theorem zgu:zj zA yg 1 zA.From:=⟨by decide,fun M x cs w h=>(zj.snd (zj.fst zj.self)).2 M _ cs w h⟩
theorem qu:Ty Tryz.prog 70 yg:=⟨⟨_,Tryz.underlying70,rfl⟩,by kernel_rfl⟩
theorem zdU:yn Tryz.prog 73 2 4:=⟨_,_,Tryz.underlying73,rfl,rfl,by kernel_rfl⟩
theorem zgv:zj zA yg 4 zA.To:=⟨by decide,fun M x cs w h=>(zj.snd (zj.snd (zj.fst zj.self))).2 M _ cs w h⟩
theorem zhJ:yK Tryz.prog 210 70:=Tryz.underlying210
theorem zrC:yY Tryz.prog 70:=by unfold yY;kernel_rfl
theorem zfp:yZ Tryz.prog 70 (⟨Str.nil,(0:Int),(0:Int)⟩:yg):=⟨[.string ByteArray.empty,.int .i64 0,.int .i64 0],by kernel_rfl,fun _ _=>⟨[_],_,rfl,y5,⟨[_],_,rfl,⟨rfl,by decide⟩,⟨rfl,by decide⟩⟩⟩⟩
theorem zgh:yn Tryz.prog 70 0 0:=⟨_,_,Tryz.underlying70,rfl,rfl,by kernel_rfl⟩
theorem zkq:zj yg Str 0 yg.Node:=⟨by decide,fun M x cs w h=>(zj.fst zj.self).2 M _ cs w h⟩
theorem zb3:yn Tryz.prog 70 1 1:=⟨_,_,Tryz.underlying70,rfl,rfl,by kernel_rfl⟩
theorem zd4:zj yg Int 1 yg.Side:=⟨by decide,fun M x cs w h=>(zj.snd (zj.fst zj.self)).2 M _ cs w h⟩
theorem zdS:yn Tryz.prog 70 2 2:=⟨_,_,Tryz.underlying70,rfl,rfl,by kernel_rfl⟩
theorem zgt:zj yg Int 2 yg.At:=⟨by decide,fun M x cs w h=>(zj.snd (zj.snd zj.self)).2 M _ cs w h⟩
theorem Yc:yn Tryz.prog 73 3 7:=⟨_,_,Tryz.underlying73,rfl,rfl,by kernel_rfl⟩
theorem JL:zj zA (List zJ) 7 zA.Bends:=⟨by decide,fun M x cs w h=>(zj.snd (zj.snd (zj.snd (zj.fst zj.self)))).2 M _ cs w h⟩
theorem Yw:Ty Tryz.prog 71 (List zJ):=⟨⟨_,Tryz.underlying71,rfl⟩,by kernel_rfl⟩
theorem vW:yK Tryz.prog 71 166:=Tryz.underlying71
theorem QS:Ty Tryz.prog 166 zJ:=⟨⟨_,Tryz.underlying166,rfl⟩,by kernel_rfl⟩
theorem znM:yZ Tryz.prog 166 (⟨(0:Int),(0:Int)⟩:zJ):=⟨[.int .i64 0,.int .i64 0],by kernel_rfl,fun _ _=>⟨[_],_,rfl,⟨rfl,by decide⟩,⟨rfl,by decide⟩⟩⟩
theorem zjU:yn Tryz.prog 166 0 0:=⟨_,_,Tryz.underlying166,rfl,rfl,by kernel_rfl⟩
theorem zkm:zj zJ Int 0 zJ.X:=⟨by decide,fun M x cs w h=>(zj.fst zj.self).2 M _ cs w h⟩
theorem zjV:yn Tryz.prog 166 1 1:=⟨_,_,Tryz.underlying166,rfl,rfl,by kernel_rfl⟩
theorem zkn:zj zJ Int 1 zJ.Y:=⟨by decide,fun M x cs w h=>(zj.snd zj.self).2 M _ cs w h⟩
theorem zdV:yn Tryz.prog 73 4 8:=⟨_,_,Tryz.underlying73,rfl,rfl,by kernel_rfl⟩
theorem zgw:zj zA Str 8 zA.Text:=⟨by decide,fun M x cs w h=>(zj.snd (zj.snd (zj.snd (zj.snd (zj.fst zj.self))))).2 M _ cs w h⟩
theorem zb4:yn Tryz.prog 73 5 9:=⟨_,_,Tryz.underlying73,rfl,rfl,by kernel_rfl⟩
theorem zd5:zj zA Str 9 zA.Class:=⟨by decide,fun M x cs w h=>(zj.snd (zj.snd (zj.snd (zj.snd (zj.snd zj.self))))).2 M _ cs w h⟩
theorem QU:yZ Tryz.prog 45 (⟨(0:Int),(0:Int),(0:Int),(0:Int)⟩:Box):=⟨[.int .i64 0,.int .i64 0,.int .i64 0,.int .i64 0],by kernel_rfl,fun _ _=>⟨[_],_,rfl,⟨rfl,by decide⟩,⟨[_],_,rfl,⟨rfl,by decide⟩,⟨[_],_,rfl,⟨rfl,by decide⟩,⟨rfl,by decide⟩⟩⟩⟩⟩
theorem Yt:yK Tryz.prog 213 45:=Tryz.underlying213
theorem zrB:yY Tryz.prog 45:=by unfold yY;kernel_rfl
theorem ztH:qL Tryz.prog 213 45 Box:=⟨Yt,yi,by kernel_rfl⟩
theorem zhF:zm Box Int 3 (fun x z=>{ x with H:=z }):=⟨by decide,fun M x z cs zs w h hz=>(zm.snd (zm.snd (zm.snd zm.self))).2 M _ z cs zs w h hz⟩
theorem zhE:zm Box Int 2 (fun x z=>{ x with W_:=z }):=⟨by decide,fun M x z cs zs w h hz=>(zm.snd (zm.snd (zm.fst zm.self))).2 M _ z cs zs w h hz⟩
theorem zhD:zm Box Int 1 (fun x z=>{ x with Y:=z }):=⟨by decide,fun M x z cs zs w h hz=>(zm.snd (zm.fst zm.self)).2 M _ z cs zs w h hz⟩
theorem zhC:zm Box Int 0 (fun x z=>{ x with X:=z }):=⟨by decide,fun M x z cs zs w h hz=>(zm.fst zm.self).2 M _ z cs zs w h hz⟩
theorem j8:yK Tryz.prog 26 37:=Tryz.underlying26
theorem qf:Ty Tryz.prog 37 zz:=⟨⟨_,Tryz.underlying37,rfl⟩,by kernel_rfl⟩
theorem zc4:yZ Tryz.prog 37 (⟨Str.nil,Str.nil,Str.nil⟩:zz):=⟨[.string ByteArray.empty,.string ByteArray.empty,.string ByteArray.empty],by kernel_rfl,fun _ _=>⟨[_],_,rfl,y5,⟨[_],_,rfl,y5,y5⟩⟩⟩
theorem zb1:yn Tryz.prog 37 0 0:=⟨_,_,Tryz.underlying37,rfl,rfl,by kernel_rfl⟩
theorem zce:zj zz Str 0 zz.Class:=⟨by decide,fun M x cs w h=>(zj.fst zj.self).2 M _ cs w h⟩
theorem zqZ:z8 Tryz.prog 68:=⟨_,Tryz.func68,by kernel_rfl,by kernel_rfl⟩
theorem zjW:yn Tryz.prog 37 1 1:=⟨_,_,Tryz.underlying37,rfl,rfl,by kernel_rfl⟩
theorem zgq:zj zz Str 1 zz.Prop_:=⟨by decide,fun M x cs w h=>(zj.snd (zj.fst zj.self)).2 M _ cs w h⟩
theorem zjX:yn Tryz.prog 37 2 2:=⟨_,_,Tryz.underlying37,rfl,rfl,by kernel_rfl⟩
theorem zgr:zj zz Str 2 zz.Value:=⟨by decide,fun M x cs w h=>(zj.snd (zj.snd zj.self)).2 M _ cs w h⟩
theorem zwc:yZ Tryz.prog 62 ((⟨.pointer none⟩,⟨.slice none 0 0⟩):Raw×Raw):=⟨_,by kernel_rfl,fun _ _=>⟨[.pointer none],[.slice none 0 0],rfl,⟨rfl,rfl,rfl⟩,⟨rfl,rfl,rfl⟩⟩⟩
theorem zX:yK Tryz.prog 51 9:=Tryz.underlying51
theorem hz9:yY Tryz.prog 9:=by unfold yY;kernel_rfl
theorem zmu:qL Tryz.prog 51 9 Str:=⟨zX,ty9,by kernel_rfl⟩
theorem zgg:yn Tryz.prog 47 6 9:=⟨_,_,Tryz.underlying47,rfl,rfl,by kernel_rfl⟩
theorem zkp:zj zl Bool 9 zl.Locked:=⟨by decide,fun M x cs w h=>(zj.snd (zj.snd (zj.snd (zj.snd (zj.snd (zj.snd zj.self)))))).2 M _ cs w h⟩
theorem ty4:Ty Tryz.prog 4 Bool:=⟨⟨_,Tryz.underlying4,rfl⟩,by kernel_rfl⟩
theorem zc3:yZ Tryz.prog 25 (⟨([]:(List zl)),([]:(List zA))⟩:Doc):=⟨[.slice none 0 0,.slice none 0 0],by kernel_rfl,fun _ _=>⟨[_],_,rfl,⟨none,0,rfl,Nat.le_refl _,by decide,rfl⟩,⟨none,0,rfl,Nat.le_refl _,by decide,rfl⟩⟩⟩
theorem zdi:jI Tryz.prog 25 [.slice none 0 0,.slice none 0 0] [(0,1),(1,1)]:=⟨by kernel_rfl,_,Tryz.underlying25,by kernel_rfl⟩
theorem zfo:∀(M:zh) (w:World),Rep.cells M (⟨([]:(List zl)),([]:(List zA))⟩:Doc) [.slice none 0 0,.slice none 0 0] w:=fun _ _=>⟨[_],_,rfl,⟨none,0,rfl,Nat.le_refl _,by decide,rfl⟩,⟨none,0,rfl,Nat.le_refl _,by decide,rfl⟩⟩
theorem zwk:∀(M:zh) (w:World),Rep.cells M (⟨⟨.slice none 0 0⟩,⟨.slice none 0 0⟩⟩:yF) [.slice none 0 0,.slice none 0 0] w:=fun _ _=>⟨[_],_,rfl,⟨rfl,rfl,rfl⟩,⟨rfl,rfl,rfl⟩⟩
theorem zwi:yZ Tryz.prog 25 (⟨⟨.slice none 0 0⟩,⟨.slice none 0 0⟩⟩:yF):=⟨[.slice none 0 0,.slice none 0 0],by kernel_rfl,zwk⟩
theorem zmX:yK Tryz.prog 60 5:=Tryz.underlying60
theorem ty5:Ty Tryz.prog 5 (KI .u8):=⟨⟨_,Tryz.underlying5,rfl⟩,by kernel_rfl⟩
theorem hz5:yY Tryz.prog 5:=by unfold yY;kernel_rfl
theorem ztI:qL Tryz.prog 60 5 (KI .u8):=⟨zmX,ty5,by kernel_rfl⟩
theorem zul:zm zz Str 2 (fun x z=>{ x with Value:=z }):=⟨by decide,fun M x z cs zs w h hz=>(zm.snd (zm.snd zm.self)).2 M _ z cs zs w h hz⟩
theorem zuk:zm zz Str 1 (fun x z=>{ x with Prop_:=z }):=⟨by decide,fun M x z cs zs w h hz=>(zm.snd (zm.fst zm.self)).2 M _ z cs zs w h hz⟩
theorem zmU:zm zz Str 0 (fun x z=>{ x with Class:=z }):=⟨by decide,fun M x z cs zs w h hz=>(zm.fst zm.self).2 M _ z cs zs w h hz⟩
theorem zpd:jI Tryz.prog 37 [.string ByteArray.empty,.string ByteArray.empty,.string ByteArray.empty] [(0,1),(1,1),(2,1)]:=⟨by kernel_rfl,_,Tryz.underlying37,by kernel_rfl⟩
theorem zwf:∀(M:zh) (w:World),Rep.cells M (⟨Str.nil,Str.nil,Str.nil⟩:zz) [.string ByteArray.empty,.string ByteArray.empty,.string ByteArray.empty] w:=fun _ _=>⟨[_],_,rfl,y5,⟨[_],_,rfl,y5,y5⟩⟩
theorem zh4:Ty Tryz.prog 22 Raw:=⟨⟨_,Tryz.underlying22,rfl⟩,by kernel_rfl⟩
theorem zgy:zj yF Raw 0 yF.Nodes:=⟨by decide,fun M x cs w h=>(zj.fst zj.self).2 M _ cs w h⟩
theorem zni:zm yF Raw 0 (fun x z=>{ x with Nodes:=z }):=⟨by decide,fun M x z cs zs w h hz=>(zm.fst zm.self).2 M _ z cs zs w h hz⟩
theorem zac:Ty Tryz.prog 23 Raw:=⟨⟨_,Tryz.underlying23,rfl⟩,by kernel_rfl⟩
theorem JM:zj yF Raw 1 yF.Edges:=⟨by decide,fun M x cs w h=>(zj.snd zj.self).2 M _ cs w h⟩
theorem zh0:zm yF Raw 1 (fun x z=>{ x with Edges:=z }):=⟨by decide,fun M x z cs zs w h hz=>(zm.snd zm.self).2 M _ z cs zs w h hz⟩
theorem zgz:yY Tryz.prog 37:=by unfold yY;kernel_rfl
theorem zhp:qL Tryz.prog 26 37 zz:=⟨j8,qf,by kernel_rfl⟩
theorem zcO:zm yQ (List Str) 0 (fun x z=>{ x with l:=z }):=⟨by decide,fun M x z cs zs w h hz=>zm.self.2 M _ z cs zs w h hz⟩
theorem ziN:jI Tryz.prog 155 [.slice none 0 0] [(0,1)]:=⟨by kernel_rfl,_,Tryz.underlying155,by kernel_rfl⟩
theorem znJ:∀(M:zh) (w:World),Rep.cells M (⟨([]:(List Str))⟩:yQ) [.slice none 0 0] w:=fun _ _=>⟨none,0,rfl,Nat.le_refl _,by decide,rfl⟩
theorem qs:yn Tryz.prog 155 0 0:=⟨_,_,Tryz.underlying155,rfl,rfl,by kernel_rfl⟩
theorem qN:zj yQ (List Str) 0 yQ.l:=⟨by decide,fun M x cs w h=>zj.self.2 M _ cs w h⟩
theorem qj:Ty Tryz.prog 51 (List Str):=⟨⟨_,Tryz.underlying51,rfl⟩,by kernel_rfl⟩
theorem zuw:zm zA Str 0 (fun x z=>{ x with Id:=z }):=⟨by decide,fun M x z cs zs w h hz=>(zm.fst zm.self).2 M _ z cs zs w h hz⟩
theorem zuz:zm zA Str 8 (fun x z=>{ x with Text:=z }):=⟨by decide,fun M x z cs zs w h hz=>(zm.snd (zm.snd (zm.snd (zm.snd (zm.fst zm.self))))).2 M _ z cs zs w h hz⟩
theorem zut:zm yg Str 0 (fun x z=>{ x with Node:=z }):=⟨by decide,fun M x z cs zs w h hz=>(zm.fst zm.self).2 M _ z cs zs w h hz⟩
theorem zuu:zm yg Int 1 (fun x z=>{ x with Side:=z }):=⟨by decide,fun M x z cs zs w h hz=>(zm.snd (zm.fst zm.self)).2 M _ z cs zs w h hz⟩
theorem zuv:zm yg Int 2 (fun x z=>{ x with At:=z }):=⟨by decide,fun M x z cs zs w h hz=>(zm.snd (zm.snd zm.self)).2 M _ z cs zs w h hz⟩
theorem zux:zm zA yg 1 (fun x z=>{ x with From:=z }):=⟨by decide,fun M x z cs zs w h hz=>(zm.snd (zm.fst zm.self)).2 M _ z cs zs w h hz⟩
theorem zuy:zm zA yg 4 (fun x z=>{ x with To:=z }):=⟨by decide,fun M x z cs zs w h hz=>(zm.snd (zm.snd (zm.fst zm.self))).2 M _ z cs zs w h hz⟩
theorem zuj:zm zJ Int 1 (fun x z=>{ x with Y:=z }):=⟨by decide,fun M x z cs zs w h hz=>(zm.snd zm.self).2 M _ z cs zs w h hz⟩
theorem zui:zm zJ Int 0 (fun x z=>{ x with X:=z }):=⟨by decide,fun M x z cs zs w h hz=>(zm.fst zm.self).2 M _ z cs zs w h hz⟩
theorem zpb:jI Tryz.prog 166 [.int .i64 0,.int .i64 0] [(0,1),(1,1)]:=⟨by kernel_rfl,_,Tryz.underlying166,by kernel_rfl⟩
theorem zwe:∀(M:zh) (w:World),Rep.cells M (⟨(0:Int),(0:Int)⟩:zJ) [.int .i64 0,.int .i64 0] w:=fun _ _=>⟨[_],_,rfl,⟨rfl,by decide⟩,⟨rfl,by decide⟩⟩
theorem zku:yY Tryz.prog 166:=by unfold yY;kernel_rfl
theorem zmv:qL Tryz.prog 71 166 zJ:=⟨vW,QS,by kernel_rfl⟩
theorem zmV:zm zA (List zJ) 7 (fun x z=>{ x with Bends:=z }):=⟨by decide,fun M x z cs zs w h hz=>(zm.snd (zm.snd (zm.snd (zm.fst zm.self)))).2 M _ z cs zs w h hz⟩
theorem zuA:zm zA Str 9 (fun x z=>{ x with Class:=z }):=⟨by decide,fun M x z cs zs w h hz=>(zm.snd (zm.snd (zm.snd (zm.snd (zm.snd zm.self))))).2 M _ z cs zs w h hz⟩
theorem zgB:yY Tryz.prog 73:=by unfold yY;kernel_rfl
theorem zho:qL Tryz.prog 23 73 zA:=⟨jx,yP,by kernel_rfl⟩
theorem zun:zm zl Int 1 (fun x z=>{ x with Kind:=z }):=⟨by decide,fun M x z cs zs w h hz=>(zm.snd (zm.fst zm.self)).2 M _ z cs zs w h hz⟩
theorem zum:zm zl Str 0 (fun x z=>{ x with Id:=z }):=⟨by decide,fun M x z cs zs w h hz=>(zm.fst zm.self).2 M _ z cs zs w h hz⟩
theorem zup:zm zl Str 6 (fun x z=>{ x with Text:=z }):=⟨by decide,fun M x z cs zs w h hz=>(zm.snd (zm.snd (zm.snd (zm.fst zm.self)))).2 M _ z cs zs w h hz⟩
theorem zuo:zm zl Box 2 (fun x z=>{ x with Box:=z }):=⟨by decide,fun M x z cs zs w h hz=>(zm.snd (zm.snd (zm.fst zm.self))).2 M _ z cs zs w h hz⟩
theorem zuq:zm zl Str 7 (fun x z=>{ x with Class:=z }):=⟨by decide,fun M x z cs zs w h hz=>(zm.snd (zm.snd (zm.snd (zm.snd (zm.fst zm.self))))).2 M _ z cs zs w h hz⟩
theorem zur:zm zl Str 8 (fun x z=>{ x with Parent:=z }):=⟨by decide,fun M x z cs zs w h hz=>(zm.snd (zm.snd (zm.snd (zm.snd (zm.snd (zm.fst zm.self)))))).2 M _ z cs zs w h hz⟩
theorem zus:zm zl Bool 9 (fun x z=>{ x with Locked:=z }):=⟨by decide,fun M x z cs zs w h hz=>(zm.snd (zm.snd (zm.snd (zm.snd (zm.snd (zm.snd zm.self)))))).2 M _ z cs zs w h hz⟩
theorem zgA:yY Tryz.prog 47:=by unfold yY;kernel_rfl
theorem zhn:qL Tryz.prog 22 47 zl:=⟨y4,yd,by kernel_rfl⟩
theorem qO:qD Tryz.prog 91 9 9 (MKey.desc Str):=⟨Tryz.underlying91,Tryz.underlying9⟩
theorem Qn:qD Tryz.prog 88 9 91 (MKey.desc Str):=⟨Tryz.underlying88,Tryz.underlying9⟩
theorem zwm:∀(M:zh) (w:World),Rep.cells M (⟨Str.nil,⟨.slice none 0 0⟩⟩:jO) [.string ByteArray.empty,.slice none 0 0] w:=fun _ _=>⟨[_],_,rfl,y5,⟨rfl,rfl,rfl⟩⟩
theorem zvy:zm jO Str 0 (fun x z=>{ x with Id:=z }):=⟨by decide,fun M x z cs zs w h hz=>(zm.fst zm.self).2 M _ z cs zs w h hz⟩
theorem zo8:jI Tryz.prog 103 [.string ByteArray.empty,.slice none 0 0] [(0,1),(1,1)]:=⟨by kernel_rfl,_,Tryz.underlying103,by kernel_rfl⟩
theorem zbA:yZ Tryz.prog 103 (⟨Str.nil,([]:(List zR))⟩:zu):=⟨[.string ByteArray.empty,.slice none 0 0],by kernel_rfl,fun _ _=>⟨[_],_,rfl,y5,⟨none,0,rfl,Nat.le_refl _,by decide,rfl⟩⟩⟩
theorem zv2:Ty Tryz.prog 103 jO:=⟨⟨_,Tryz.underlying103,rfl⟩,by kernel_rfl⟩
theorem Qg:yn Tryz.prog 103 1 1:=⟨_,_,Tryz.underlying103,rfl,rfl,by kernel_rfl⟩
theorem YV:zj zu (List zR) 1 zu.Attrs:=⟨by decide,fun M x cs w h=>(zj.snd zj.self).2 M _ cs w h⟩
theorem znt:Ty Tryz.prog 101 Raw:=⟨⟨_,Tryz.underlying101,rfl⟩,by kernel_rfl⟩
theorem zks:zj jO Raw 1 jO.Attrs:=⟨by decide,fun M x cs w h=>(zj.snd zj.self).2 M _ cs w h⟩
theorem zvz:zm jO Raw 1 (fun x z=>{ x with Attrs:=z }):=⟨by decide,fun M x z cs zs w h hz=>(zm.snd zm.self).2 M _ z cs zs w h hz⟩
theorem zuh:zm zR Str 1 (fun x z=>{ x with Value:=z }):=⟨by decide,fun M x z cs zs w h hz=>(zm.snd zm.self).2 M _ z cs zs w h hz⟩
theorem zug:zm zR Str 0 (fun x z=>{ x with Field:=z }):=⟨by decide,fun M x z cs zs w h hz=>(zm.fst zm.self).2 M _ z cs zs w h hz⟩
theorem zpa:jI Tryz.prog 116 [.string ByteArray.empty,.string ByteArray.empty] [(0,1),(1,1)]:=⟨by kernel_rfl,_,Tryz.underlying116,by kernel_rfl⟩
theorem zwd:∀(M:zh) (w:World),Rep.cells M (⟨Str.nil,Str.nil⟩:zR) [.string ByteArray.empty,.string ByteArray.empty] w:=fun _ _=>⟨[_],_,rfl,y5,y5⟩
theorem jH:yK Tryz.prog 101 116:=Tryz.underlying101
theorem jz:Ty Tryz.prog 116 zR:=⟨⟨_,Tryz.underlying116,rfl⟩,by kernel_rfl⟩
theorem zrz:yY Tryz.prog 116:=by unfold yY;kernel_rfl
theorem ztG:qL Tryz.prog 101 116 zR:=⟨jH,jz,by kernel_rfl⟩
theorem ztJ:zfv Tryz.prog 101 116 zR:=⟨ztG,by kernel_rfl⟩
theorem Yv:Ty Tryz.prog 101 (List zR):=⟨⟨_,Tryz.underlying101,rfl⟩,by kernel_rfl⟩
theorem zq2:z8 Tryz.prog 83:=⟨_,Tryz.func83,by kernel_rfl,by kernel_rfl⟩
theorem zq3:z8 Tryz.prog 84:=⟨_,Tryz.func84,by kernel_rfl,by kernel_rfl⟩
theorem zry:yY Tryz.prog 103:=by unfold yY;kernel_rfl
theorem ztK:zfv Tryz.prog 32 103 zu:=⟨zhq,by kernel_rfl⟩
theorem zv1:Ty Tryz.prog 103 (Str×SlV):=⟨⟨_,Tryz.underlying103,rfl⟩,by kernel_rfl⟩
theorem zq4:z8 Tryz.prog 85:=⟨_,Tryz.func85,by kernel_rfl,by kernel_rfl⟩
theorem zq5:z8 Tryz.prog 86:=⟨_,Tryz.func86,by kernel_rfl,by kernel_rfl⟩
theorem zq0:z8 Tryz.prog 7:=⟨_,Tryz.func7,by kernel_rfl,by kernel_rfl⟩
theorem zqo:zah Tryz.prog 37 zz 2:=zjF Tryz.underlying37 (by kernel_rfl) (.cons (proj:=zz.Class) rfl zce ty9 (zbY Tryz.underlying9) (.cons (proj:=zz.Prop_) rfl zgq ty9 (zbY Tryz.underlying9) (.cons (proj:=zz.Value) rfl zgr ty9 (zbY Tryz.underlying9) .nil))) (fun x y=>by rw[Bool.eq_iff_iff];cases x;cases y;simp only[Bool.and_eq_true,decide_eq_true_eq,and_true,zz.mk.injEq]) rfl
theorem zqm:DB.EqAt Tryz.prog 37 zz:=zjE zqo (by kernel_rfl) (by kernel_rfl) rfl
theorem Jc:yK Tryz.prog 97 32:=Tryz.underlying97
theorem Jj:Ty Tryz.prog 32 (List zu):=⟨⟨_,Tryz.underlying32,rfl⟩,by kernel_rfl⟩
theorem zkv:yY Tryz.prog 32:=by unfold yY;kernel_rfl
theorem Q8:yn Tryz.prog 103 0 0:=⟨_,_,Tryz.underlying103,rfl,rfl,by kernel_rfl⟩
theorem Yd:zj zu Str 0 zu.Id:=⟨by decide,fun M x cs w h=>(zj.fst zj.self).2 M _ cs w h⟩
theorem zqW:z8 Tryz.prog 45:=⟨_,Tryz.func45,by kernel_rfl,by kernel_rfl⟩
theorem zid:yZ Tryz.prog 116 (⟨Str.nil,Str.nil⟩:zR):=⟨[.string ByteArray.empty,.string ByteArray.empty],by kernel_rfl,fun _ _=>⟨[_],_,rfl,y5,y5⟩⟩
theorem zaE:yn Tryz.prog 116 0 0:=⟨_,_,Tryz.underlying116,rfl,rfl,by kernel_rfl⟩
theorem JK:zj zR Str 0 zR.Field:=⟨by decide,fun M x cs w h=>(zj.fst zj.self).2 M _ cs w h⟩
theorem zdO:yn Tryz.prog 116 1 1:=⟨_,_,Tryz.underlying116,rfl,rfl,by kernel_rfl⟩
theorem zcc:zj zR Str 1 zR.Value:=⟨by decide,fun M x cs w h=>(zj.snd zj.self).2 M _ cs w h⟩
theorem znN:yZ Tryz.prog 91 (GMap.nil:(GMap Str Str)):=⟨[.map none],by kernel_rfl,fun _ _=>zgR⟩
theorem zfq:yZ Tryz.prog 91 (⟨.map none⟩:Raw):=⟨[.map none],by kernel_rfl,fun _ _=>⟨rfl,rfl,rfl⟩⟩
theorem zo9:yZ Tryz.prog 9 Str.nil:=⟨[.string ByteArray.empty],by kernel_rfl,fun _ _=>y5⟩
theorem zmR:zm DOp Str 4 (fun x z=>{ x with Id:=z }):=⟨by decide,fun M x z cs zs w h hz=>(zm.snd (zm.snd (zm.fst zm.self))).2 M _ z cs zs w h hz⟩
theorem zmQ:zm DOp Int 3 (fun x z=>{ x with Kind:=z }):=⟨by decide,fun M x z cs zs w h hz=>(zm.snd (zm.fst zm.self)).2 M _ z cs zs w h hz⟩
theorem ziL:jI Tryz.prog 110 [.int .i64 0,.string ByteArray.empty,.int .i64 0,.int .i64 0,.string ByteArray.empty,.string ByteArray.empty,.string ByteArray.empty,.int .i64 0] [(0,3),(3,1),(4,1),(5,1),(6,1),(7,1)]:=⟨by kernel_rfl,_,Tryz.underlying110,by kernel_rfl⟩
theorem znH:∀(M:zh) (w:World),Rep.cells M (⟨(⟨(0:Int),Str.nil,(0:Int)⟩:Stamp),(0:Int),Str.nil,Str.nil,Str.nil,(0:Int)⟩:DOp) [.int .i64 0,.string ByteArray.empty,.int .i64 0,.int .i64 0,.string ByteArray.empty,.string ByteArray.empty,.string ByteArray.empty,.int .i64 0] w:=fun _ _=>⟨[_,_,_],_,rfl,⟨[_],_,rfl,⟨rfl,by decide⟩,⟨[_],_,rfl,y5,⟨rfl,by decide⟩⟩⟩,⟨[_],_,rfl,⟨rfl,by decide⟩,⟨[_],_,rfl,y5,⟨[_],_,rfl,y5,⟨[_],_,rfl,y5,⟨rfl,by decide⟩⟩⟩⟩⟩⟩
theorem zcP:yK Tryz.prog 38 110:=Tryz.underlying38
theorem zad:Ty Tryz.prog 110 DOp:=⟨⟨_,Tryz.underlying110,rfl⟩,by kernel_rfl⟩
theorem zkt:yY Tryz.prog 110:=by unfold yY;kernel_rfl
theorem zmt:qL Tryz.prog 38 110 DOp:=⟨zcP,zad,by kernel_rfl⟩
theorem zqV:z8 Tryz.prog 44:=⟨_,Tryz.func44,by kernel_rfl,by kernel_rfl⟩
theorem zqU:z8 Tryz.prog 43:=⟨_,Tryz.func43,by kernel_rfl,by kernel_rfl⟩
theorem zuf:zm DOp Str 6 (fun x z=>{ x with Value:=z }):=⟨by decide,fun M x z cs zs w h hz=>(zm.snd (zm.snd (zm.snd (zm.snd (zm.fst zm.self))))).2 M _ z cs zs w h hz⟩
theorem zue:zm DOp Str 5 (fun x z=>{ x with Field:=z }):=⟨by decide,fun M x z cs zs w h hz=>(zm.snd (zm.snd (zm.snd (zm.fst zm.self)))).2 M _ z cs zs w h hz⟩
theorem zwg:yZ Tryz.prog 110 (⟨(⟨(0:Int),Str.nil,(0:Int)⟩:Stamp),(0:Int),Str.nil,Str.nil,Str.nil,(0:Int)⟩:DOp):=⟨[.int .i64 0,.string ByteArray.empty,.int .i64 0,.int .i64 0,.string ByteArray.empty,.string ByteArray.empty,.string ByteArray.empty,.int .i64 0],by kernel_rfl,fun _ _=>⟨[_,_,_],_,rfl,⟨[_],_,rfl,⟨rfl,by decide⟩,⟨[_],_,rfl,y5,⟨rfl,by decide⟩⟩⟩,⟨[_],_,rfl,⟨rfl,by decide⟩,⟨[_],_,rfl,y5,⟨[_],_,rfl,y5,⟨[_],_,rfl,y5,⟨rfl,by decide⟩⟩⟩⟩⟩⟩⟩
theorem zge:yn Tryz.prog 110 1 3:=⟨_,_,Tryz.underlying110,rfl,rfl,by kernel_rfl⟩
theorem zgn:zj DOp Int 3 DOp.Kind:=⟨by decide,fun M x cs w h=>(zj.snd (zj.fst zj.self)).2 M _ cs w h⟩
theorem zaD:yn Tryz.prog 110 2 4:=⟨_,_,Tryz.underlying110,rfl,rfl,by kernel_rfl⟩
theorem zaM:zj DOp Str 4 DOp.Id:=⟨by decide,fun M x cs w h=>(zj.snd (zj.snd (zj.fst zj.self))).2 M _ cs w h⟩
theorem zjR:yn Tryz.prog 110 3 5:=⟨_,_,Tryz.underlying110,rfl,rfl,by kernel_rfl⟩
theorem zkj:zj DOp Str 5 DOp.Field:=⟨by decide,fun M x cs w h=>(zj.snd (zj.snd (zj.snd (zj.fst zj.self)))).2 M _ cs w h⟩
theorem zjS:yn Tryz.prog 110 4 6:=⟨_,_,Tryz.underlying110,rfl,rfl,by kernel_rfl⟩
theorem zkk:zj DOp Str 6 DOp.Value:=⟨by decide,fun M x cs w h=>(zj.snd (zj.snd (zj.snd (zj.snd (zj.fst zj.self))))).2 M _ cs w h⟩
theorem zqH:z8 Tryz.prog 10:=⟨_,Tryz.func10,by kernel_rfl,by kernel_rfl⟩
theorem zqX:z8 Tryz.prog 49:=⟨_,Tryz.func49,by kernel_rfl,by kernel_rfl⟩
theorem zqY:z8 Tryz.prog 50:=⟨_,Tryz.func50,by kernel_rfl,by kernel_rfl⟩
theorem zqn:zah Tryz.prog 116 zR 2:=zjF Tryz.underlying116 (by kernel_rfl) (.cons (proj:=zR.Field) rfl JK ty9 (zbY Tryz.underlying9) (.cons (proj:=zR.Value) rfl zcc ty9 (zbY Tryz.underlying9) .nil)) (fun x y=>by rw[Bool.eq_iff_iff];cases x;cases y;simp only[Bool.and_eq_true,decide_eq_true_eq,and_true,zR.mk.injEq]) rfl
theorem zql:DB.EqAt Tryz.prog 116 zR:=zjE zqn (by kernel_rfl) (by kernel_rfl) rfl
theorem zqI:z8 Tryz.prog 12:=⟨_,Tryz.func12,by kernel_rfl,by kernel_rfl⟩
theorem zwj:∀(M:zh) (w:World),Rep.cells M (⟨(⟨(⟨([]:(List zl)),([]:(List zA))⟩:Doc),([]:(List zz))⟩:yh),⟨.slice none 0 0⟩,([]:(List yh))⟩:yl) [.slice none 0 0,.slice none 0 0,.slice none 0 0,.slice none 0 0,.slice none 0 0] w:=fun _ _=>⟨[_,_,_],_,rfl,⟨[_,_],_,rfl,⟨[_],_,rfl,⟨none,0,rfl,Nat.le_refl _,by decide,rfl⟩,⟨none,0,rfl,Nat.le_refl _,by decide,rfl⟩⟩,⟨none,0,rfl,Nat.le_refl _,by decide,rfl⟩⟩,⟨[_],_,rfl,⟨rfl,rfl,rfl⟩,⟨none,0,rfl,Nat.le_refl _,by decide,rfl⟩⟩⟩
theorem zqJ:z8 Tryz.prog 13:=⟨_,Tryz.func13,by kernel_rfl,by kernel_rfl⟩
theorem zsI:zS Tryz.prog 13 [] [] zV [some (zC 128 (⟨(⟨(⟨([]:(List zl)),([]:(List zA))⟩:Doc),([]:(List zz))⟩:yh),⟨.slice none 0 0⟩,([]:(List yh))⟩:yl))]:=zsH zqJ zwj zsJ
theorem JE:yn Tryz.prog 128 0 0:=⟨_,_,Tryz.underlying128,rfl,rfl,by kernel_rfl⟩
theorem zrv:zj zY yh 0 zY.now:=⟨by decide,fun M x cs w h=>(zj.fst zj.self).2 M _ cs w h⟩
theorem zgf:yn Tryz.prog 125 0 0:=⟨_,_,Tryz.underlying125,rfl,rfl,by kernel_rfl⟩
theorem zgo:zj yh Doc 0 yh.doc:=⟨by decide,fun M x cs w h=>(zj.fst zj.self).2 M _ cs w h⟩
theorem zcf:zj yl yh 0 yl.now:=⟨by decide,fun M x cs w h=>(zj.fst zj.self).2 M _ cs w h⟩
theorem zvs:zm yl yh 0 (fun x z=>{ x with now:=z }):=⟨by decide,fun M x z cs zs w h hz=>(zm.fst zm.self).2 M _ z cs zs w h hz⟩
theorem zvu:zm zbD Raw 0 (fun x z=>{ x with Nodes:=z }):=⟨by decide,fun M x z cs zs w h hz=>(zm.fst zm.self).2 M _ z cs zs w h hz⟩
theorem zh8:Ty Tryz.prog 25 yF:=⟨⟨_,Tryz.underlying25,rfl⟩,by kernel_rfl⟩
theorem zjT:yn Tryz.prog 125 1 2:=⟨_,_,Tryz.underlying125,rfl,rfl,by kernel_rfl⟩
theorem zkl:zj yh (List zz) 2 yh.rules:=⟨by decide,fun M x cs w h=>(zj.snd zj.self).2 M _ cs w h⟩
theorem znw:Ty Tryz.prog 26 (List zz):=⟨⟨_,Tryz.underlying26,rfl⟩,by kernel_rfl⟩
theorem zmT:zm yh (List zz) 2 (fun x z=>{ x with rules:=z }):=⟨by decide,fun M x z cs zs w h hz=>(zm.snd zm.self).2 M _ z cs zs w h hz⟩
theorem zmS:zm yh Doc 0 (fun x z=>{ x with doc:=z }):=⟨by decide,fun M x z cs zs w h hz=>(zm.fst zm.self).2 M _ z cs zs w h hz⟩
theorem ziM:jI Tryz.prog 125 [.slice none 0 0,.slice none 0 0,.slice none 0 0] [(0,2),(2,1)]:=⟨by kernel_rfl,_,Tryz.underlying125,by kernel_rfl⟩
theorem znI:∀(M:zh) (w:World),Rep.cells M (⟨(⟨([]:(List zl)),([]:(List zA))⟩:Doc),([]:(List zz))⟩:yh) [.slice none 0 0,.slice none 0 0,.slice none 0 0] w:=fun _ _=>⟨[_,_],_,rfl,⟨[_],_,rfl,⟨none,0,rfl,Nat.le_refl _,by decide,rfl⟩,⟨none,0,rfl,Nat.le_refl _,by decide,rfl⟩⟩,⟨none,0,rfl,Nat.le_refl _,by decide,rfl⟩⟩
theorem zb0:yn Tryz.prog 128 1 3:=⟨_,_,Tryz.underlying128,rfl,rfl,by kernel_rfl⟩
theorem zh3:Ty Tryz.prog 126 Raw:=⟨⟨_,Tryz.underlying126,rfl⟩,by kernel_rfl⟩
theorem zgx:zj yl Raw 3 yl.past:=⟨by decide,fun M x cs w h=>(zj.snd (zj.fst zj.self)).2 M _ cs w h⟩
theorem znh:zm yl Raw 3 (fun x z=>{ x with past:=z }):=⟨by decide,fun M x z cs zs w h hz=>(zm.snd (zm.fst zm.self)).2 M _ z cs zs w h hz⟩
theorem zbw:Ty Tryz.prog 125 yh:=⟨⟨_,Tryz.underlying125,rfl⟩,by kernel_rfl⟩
theorem ze6:yK Tryz.prog 126 125:=Tryz.underlying126
theorem zrA:yY Tryz.prog 125:=by unfold yY;kernel_rfl
theorem zms:qL Tryz.prog 126 125 yh:=⟨ze6,zbw,by kernel_rfl⟩
theorem zh6:Ty Tryz.prog 126 (List yh):=⟨⟨_,Tryz.underlying126,rfl⟩,by kernel_rfl⟩
theorem zqN:z8 Tryz.prog 191:=⟨_,Tryz.func191,by kernel_rfl,by kernel_rfl⟩
theorem zqE:yn Tryz.prog 128 2 4:=⟨_,_,Tryz.underlying128,rfl,rfl,by kernel_rfl⟩
theorem zvt:zm yl (List yh) 4 (fun x z=>{ x with next:=z }):=⟨by decide,fun M x z cs zs w h hz=>(zm.snd (zm.snd zm.self)).2 M _ z cs zs w h hz⟩
end Go.Proofs.YtokamljonkipbaaGreatDoor
