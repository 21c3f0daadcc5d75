/- A part of the proof. -/
import Derived.Test.YtmfcdppbnbfpjaaGreatDoorRerWa1
set_option maxRecDepth 100000
set_option linter.unusedSimpArgs false
set_option linter.unusedVariables false
namespace Go.Proofs.YtmfcdppbnbfpjaaGreatDoor
open Go Go.DB Go.RowKit
theorem zqr {q1:(List zF)}{r:(zF×(List zF))}{m23:Nat}{s24:Value}(h:zeJ q1=some r):yh Tryz.prog 192 [isV (ptr m23 0)] [(ptr m23 0,zE 164 (⟨s24⟩:Raw)),(s24,zk 166 q1)] (vb 166 (rep r.1)) [some (zZ (fun z0=>zE 164 (⟨z0⟩:Raw)) (zk 166 r.2)),none]:=by
 unfold zeJ at h
 obtain⟨hn1,h⟩:=zr h
 obtain⟨v1,hv2,h⟩:=zh h
 obtain⟨hn3,h⟩:=zr h
 obtain⟨c1,hv4,h⟩:=zh h
 refine yh.i Tryz.func192 e Tryz.ntmps192 e (fun F=>(.sn mx (.c (.assign .none Opd.nilI) (.nil (.sr [oo,oo,([23],[]),oo] mx (.mvA e (.cA (.nilCheckP .none (.s e)) (.cA (.loadAt0 (k:=23) .none Qw e (.s e)) (.asnA e (.nil (.sr [oo,oo,([24],[]),oo,([24],[]),([24],[]),([],[4]),([4],[4])] mx (.mvA e (.mvA e (.cA (.lenO (k:=24) jq (.told (.s e) e)) (.cA (.subW .none (.s e) .i) (.ixO 24 jq qa e e e hn1 (.cA (.re hv2 (.loadElem0 (k:=24) .none qa (.s e) e (fun _=>hn1))) (.al zhI e (.st qa e e e (.nil (.freeze (t:=4) e e (.k2 23 24 e e .nil) e (.sr [oo,oo,oo,([24],[]),oo,([24],[19,24]),oo,([23,19],[23,19])] mx (.mvA e (.mvA e (.mvA e (.cA (.lenO (k:=24) jq (.told (.s e) e)) (.cA (.subW .none (.s e) .i) (.cW (.sliceRow (k:=24) jq qa e (.s e) e e (.s e) hn3) (.cA (.nilCheckP .none (.s e)) (.cN (.storeRow (k:=23) (t:=19) (set:=fun _ z=>z) zle e (.s e) .self e e) (.nil (.open (k:=23) (g:=5001) e e (fun s5001=>(.sn mx (.ld qa e (.c (.mkIface .none zdV (.s e)) (.asn e (.nil (.reB (t:=5001) e (congrArg (fun y=>zf.at s5001 (zk 166 y)) hv4) (.ret (.close (k:=23) (g:=5001) (fun z=>zE 164 (⟨z⟩:Raw)) e e e ?_)))))))))))))))))))))))))))))))))))))))))
 obtain rfl:=za h
 exact zb.ret1O (.inl e) [23,24] Tryz.results192 (by decide) (.held e (.skip .nil)) (zO.tmp e trivial Imp.refl)
theorem zn3 {h1:(List zF)}{r:(zF×(List zF))}{m15:Nat}{s16:Value}(h:zbS h1=some r):yh Tryz.prog 116 [vb 163 (isV (ptr m15 0))] [(ptr m15 0,zE 164 (⟨s16⟩:Raw)),(s16,zk 166 h1)] (vb 166 (rep r.1)) [some (zZ (fun z0=>zE 164 (⟨z0⟩:Raw)) (zk 166 r.2)),none]:=by
 unfold zbS at h
 obtain⟨r1,hv1,h⟩:=bind_some h
 obtain⟨n1,hv2,h⟩:=zh h
 obtain⟨r2,hv3,h⟩:=bind_some h
 refine yh.i Tryz.func116 e Tryz.ntmps116 e (fun F=>(.sn mx (.c (.assign .none Opd.nilI) (.nil (.sr [oo,([15,16],[]),oo,oo] mx (.mvA e (.cA (.invokeC (k:=15) (q:=16) .none zjs Tryz.underlying163 Qw (.s e) e e zfV (fun hg=>zg0  hv1) .rep .nil) (.cA (.subW .none (.s e) .i) (.cA (.re hv2 (.assign .none (.s e))) (.nil (.sr [oo,oo,([15,16],[16])] mx (.mvA e (.mvA e (.cW (.invokeOV (k:=15) [16] zgs Tryz.underlying163 Qw (.s e) e (zg2 hv3) (.cons .i (.cons (.s e) .nil)) (.cons (k:=16) e .nil) e (by decide) (by decide) (by intro d h;cases h;decide)) ?_))))))))))))))
 obtain⟨r3,hv4,h⟩:=bind_some h
 obtain⟨r4,hv5,h⟩:=bind_some h
 refine .nil (.sr [oo,oo,([15,16],[15,16])] mx (.mvA e (.mvA e (.cW (.cO [15,16] (zn5 hv4) (.cons (.s e) (.cons .i (.cons (.s e) .nil))) (.cons (k:=15) e (.cons (k:=16) e .nil)) e) (.nil (.open (k:=15) (g:=5001) e e (fun s5001=>(.sr [oo,([15,5001],[15,5001]),oo] mx (.mvA e (.cW (.invokeO [15,5001] zoO Tryz.underlying163 (.s e) (zqr hv5) .nil (.cons (k:=15) e (.cons (k:=5001) e .nil)) e (by decide) (by decide) (by intro d h;cases h;decide)) (.asnA e (.nil (.open (k:=15) (g:=5002) e e (fun s5002=>(.ret (.close (k:=15) (g:=5002) (fun z=>zE 164 (⟨z⟩:Raw)) e e e ?_))))))))))))))))
 obtain rfl:=za h
 exact zb.ret1O (.inl e) [15,16] Tryz.results116 (by decide) (.held e (.skip .nil)) (zO.tmp e trivial Imp.refl)
theorem zrh {s1:(List zt)}{r:(List zt)}{s28:Value}(h:zcU s1=some r):yh Tryz.prog 117 [isV s28] [(s28,zk 119 s1)] (yj) [some (zk 119 r)]:=by
 unfold zcU at h
 obtain⟨j1,hv1,h⟩:=zh h
 refine yh.i Tryz.func117 e Tryz.ntmps117 e (fun F=>(.sr [oo,([28],[]),oo,oo,oo] mx (.mvA e (.cA (.lenO (k:=28) vT (.told (.s e) e)) (.cA (.subW .none (.s e) .i) (.cA (.assign .none .i) (.cA (.re hv1 (.assign .none (.s e))) (.nil (.block (.loopL h (fun s2_=>[(2,⟨True,rep s2_.1⟩),(3,⟨True,rep s2_.2.1⟩)]) (fun s2_=>[(28,some (zf.at s28 (zk 119 s2_.2.2)))]) (.k2 2 3 e e .nil) (.k 28 e .nil) (.k 0 e .nil) ze.nil (fun s2_ o_2 h hD2=>?_)))))))))))
 unfold zeU at h
 refine .seq (.sn mx (.mv e (.mv e (.lt e e (.nil (.cb e h (fun _ h=>?_) fun _ h=>?_))))))
 ·
  obtain⟨hn4,h⟩:=zr h
  obtain⟨v1,hv5,h⟩:=zh h
  obtain⟨hn6,h⟩:=zr h
  obtain⟨v2,hv7,h⟩:=zh h
  obtain⟨hn8,h⟩:=zr h
  obtain⟨hn9,h⟩:=zr h
  obtain⟨s2,hv10,h⟩:=zh h
  obtain⟨i1,hv11,h⟩:=zh h
  obtain⟨j2,hv12,h⟩:=zh h
  exact .skip (.then (.seq (.block (.rg [oo,oo,oo,oo,oo,oo,([28],[]),([28],[]),oo,oo,([28],[]),([28],[]),([28],[]),([28],[28]),([28],[]),([28],[28])] mx (.mvA e (.mvA e (.mvA e (.mvA e (.mvA e (.mvA e (.ixO 28 vT yO e e e hn4 (.cA (.re hv5 (.loadElem0 (k:=28) .none yO (.s e) e (fun _=>hn4))) (.mvA e (.mvA e (.ixO 28 vT yO e e e hn6 (.cA (.re hv7 (.loadElem0 (k:=28) .none yO (.s e) e (fun _=>hn6))) (.ixO 28 vT yO e e e hn8 (.cN (.storeElem0 (k:=28) yO (.s e) e (.s e) hn8) (.ixO 28 vT yO e e e hn9 (.cN (.storeElem0 (k:=28) yO (.s e) e (.s e) hn9) (.nil (.blkNormal (.then (.reB (t:=28) e (congrArg (fun y=>zf.at s28 (zk 119 y)) hv10) (.rn mx (.mv e (.adi e (.mv e (.c (.subW .none (.s e) .i) (.ra hv11 e (.ra hv12 e (.nil (zb.ag (za h))))))))))))))))))))))))))))))))))
 ·
  refine .exit (.thenExit (.thenExit (.blkExit ?_)))
  replace h:=hD2 _ (za h)
  obtain rfl:=za h
  exact zb.ret0O (.inr e) [28] Tryz.results117 (by decide) (.held e .nil)
theorem zqu {s1:yd}{p1:zt}{side1:Int}{r:(zt×Int×Bool)}  (h:zba s1 p1 side1=some r):zi Tryz.prog 118 [ref s1,rep p1,rep side1] (tup [rep r.1,rep r.2.1,rep r.2.2]):=by
 unfold zba at h
 obtain⟨q1,hv1,h⟩:=zh h
 obtain⟨r1,hv2,h⟩:=bind_some h
 obtain⟨v1,hv3,h⟩:=zh h
 refine zi.i Tryz.func118 e Tryz.ntmps118 e (fun F=>(.sr [oo,([],[6]),oo,oo] mx (.cA (.box .none (.s e)) (.al zhH e (.cA (.assign .none .i) (.cA (.assign .none .bool) (.nil (.reB (t:=6) e (congrArg (zE 119) hv1) (.nameBox (t:=6) (g:=5001) e e (fun m5001=>(.sr [oo,oo,([],[9]),([9],[9])] mx (.mvA e (.cA (.call .none (zg4 hv2) (.cons (.s e) .nil)) (.al yG e (.st zw e e e (.nil (.freeze (t:=9) e e (.k 5001 e .nil) e (.sr [oo,oo,oo,oo,oo,oo,oo,oo,oo,oo,oo,oo,([5001],[5001])] mx (.faA vm vr e (.ldA ty3 e (.faA yt yu e (.ldA ty3 e (.addA e e (.faA vn vt e (.ldA ty3 e (.faA yV yW e (.ldA ty3 e (.addA e e (.mvA e (.cA (.re hv3 (.buildF (y:=(⟨W (p1.x+r1.X),W (p1.y+r1.Y),side1⟩:zt)) .none zh4 zlk e (.cons (.s e) (.cons (.s e) (.cons (.s e) .nil))) (.cons e zkC (.cons e zkD (.cons e zkE .nil))))) (.s0 5001 yO e e e (.nil (.seq (.sr [oo,([5001],[]),oo,oo,oo,([5001],[]),oo,oo,oo,oo,oo,oo,oo,oo,oo,([5001],[]),oo,oo,oo,oo,([5001],[]),oo,oo,oo,oo,oo,oo,oo] mx (.cA (.fieldPtr .none vm (.s e)) (.cA (.loadAt (k:=5001) .none ty3 e (.s e) vr) (.cA (.lt .none (.s e) .i) (.mvA e (.cA (.fieldPtr (.at e e) vm (.s e)) (.cA (.loadAt (k:=5001) (.at e e) ty3 e (.tmp e id) vr) (.cA (.move (.at e e) (.s e)) (.cA (.nilCheckR (.at e e) (.tmp e id)) (.cA (.fieldAddr (.at e e) vo Qi (.tmp e id)) (.cA (.load (.at e e) y6 (.tmp e id)) (.cA (.len (.at e e) yl (.tmp e id)) (.cA (.ge (.at e e) (.tmp e id) (.tmp e id)) (.cA (.pickOr .none (.s e) (.tmp e id)) ?_)))))))))))))))))))))))))))))))))))))))))))))))
 refine .mvA e (.cA (.fieldPtr (.at e e) vn (.s e)) (.cA (.loadAt (k:=5001) (.at e e) ty3 e (.tmp e id) vt) (.cA (.lt (.at e e) (.tmp e id) .i) (.cA (.pickOr .none (.s e) (.tmp e id)) (.mvA e (.cA (.fieldPtr (.at e e) vn (.s e)) (.cA (.loadAt (k:=5001) (.at e e) ty3 e (.tmp e id) vt) (.cA (.move (.at e e) (.s e)) (.cA (.nilCheckR (.at e e) (.tmp e id)) (.cA (.fieldAddr (.at e e) Qf Yh (.tmp e id)) (.cA (.load (.at e e) y6 (.tmp e id)) (.cA (.len (.at e e) yl (.tmp e id)) (.cA (.ge (.at e e) (.tmp e id) (.tmp e id)) (.cA (.pickOr .none (.s e) (.tmp e id)) (.nil (.cb e h (fun _ h=>?_) fun _ h=>?_))))))))))))))))
 ·
  refine .sr [([5001],[]),([5001],[5001]),oo,oo] mx (.cA (.loadAt0 (k:=5001) .none yO e (.s e)) (.s0 5001 yO e e e (.cA (.assign .none .i) (.cA (.assign .none .bool) (.nil (.fb 5001 [6] e (.cons (t:=6) e trivial .nil) (.ret (.thenRet ?_))))))))
  obtain rfl:=za h
  exact zb.ret3 (.inl e) Tryz.results118 (zO.cellR yO e trivial Imp.refl) (zO.tmp e trivial Imp.refl) (zO.tmp e trivial Imp.refl)
 ·
  obtain⟨at1,hv5,h⟩:=zh h
  refine .skip (.then (.sr [oo,oo,oo,([5001],[]),oo,oo,oo,oo,oo,oo,oo,oo,oo,oo,([5001],[]),oo,oo,oo] mx (.faA vn vt e (.ldA ty3 e (.cA (.fieldPtr .none vn (.s e)) (.cA (.loadAt (k:=5001) .none ty3 e (.s e) vt) (.cA (.min2 .none (.s e) (.s e)) (.mvA e (.cA (.nilCheckR .none (.s e)) (.faA vo Qi e (.ldA y6 e (.cA (.len .none yl (.s e)) (.cA (.mulW .none (.s e) (.s e)) (.faA vm vr e (.ldA ty3 e (.cA (.fieldPtr .none vm (.s e)) (.cA (.loadAt (k:=5001) .none ty3 e (.s e) vr) (.cA (.min2 .none (.s e) (.s e)) (.addA e e (.cA (.re hv5 (.assign .none (.s e))) (.nil (.seq (.sn mx (.fa yt yu e (.ld ty3 e (.nei e (.nil (.cb e h (fun _ h=>?_) fun _ h=>?_))))))))))))))))))))))))))))
  ·
   obtain⟨hn7,h⟩:=zr h
   obtain⟨hn8,h⟩:=zr h
   obtain⟨hn9,h⟩:=zr h
   obtain⟨hn10,h⟩:=zr h
   obtain⟨hn11,h⟩:=zr h
   refine .sr [([5001],[]),oo,oo,oo,oo,oo,([5001],[]),oo,oo,oo,oo,oo,oo,oo,oo,oo,oo,oo,oo,oo,oo,oo,oo,oo,oo,oo,oo,oo,oo,oo,oo,([5001],[]),oo,oo,oo,oo,oo,oo,oo,oo,oo,oo,oo,([5001],[5001]),oo,oo] mx (.cA (.loadAt0 (k:=5001) .none yO e (.s e)) (.mvA e (.cA (.nilCheckR .none (.s e)) (.faA vo Qi e (.ldA y6 e (.cA (.fieldPtr .none vm (.s e)) (.cA (.loadAt (k:=5001) .none ty3 e (.s e) vr) (.ixA yl ty3 e e hn7 (.ldA ty3 e (.mvA e (.cA (.nilCheckR .none (.s e)) (.faA vo Qi e (.ldA y6 e (.faA vm vr e (.ldA ty3 e (.ixA yl ty3 e e hn8 (.ldA ty3 e (.subA e e (.mvA e (.cA (.nilCheckR .none (.s e)) (.faA vo Qi e (.ldA y6 e (.faA vm vr e (.ldA ty3 e (.ixA yl ty3 e e hn9 (.ldA ty3 e (.mvA e (.cA (.nilCheckR .none (.s e)) (.faA vo Qi e (.ldA y6 e (.cA (.fieldPtr .none vm (.s e)) (.cA (.loadAt (k:=5001) .none ty3 e (.s e) vr) (.ixA yl ty3 e e hn10 (.ldA ty3 e (.subA e e (.cA (.max2 .none (.s e) (.s e)) (.mvA e (.cA (.nilCheckR .none (.s e)) (.faA zbL zn7 e (.ldA zcW e (.mvA e (.ixA vU ty4 e e hn11 (.ldA ty4 e (.s0 5001 yO e e e (.asnA e (.asnA e (.nil (.fb 5001 [6] e (.cons (t:=6) e trivial .nil) (.ret (.thenRet ?_))))))))))))))))))))))))))))))))))))))))))))))))))
   obtain rfl:=za h
   exact zb.ret3 (.inl e) Tryz.results118 (zO.cellR yO e trivial Imp.refl) (zO.tmp e trivial Imp.refl) (zO.tmp e trivial Imp.refl)
  ·
   obtain⟨hn12,h⟩:=zr h
   obtain⟨hn13,h⟩:=zr h
   obtain⟨hn14,h⟩:=zr h
   obtain⟨hn15,h⟩:=zr h
   obtain⟨hn16,h⟩:=zr h
   refine .skip (.then (.sr [([5001],[]),oo,oo,oo,oo,oo,([5001],[]),oo,oo,oo,oo,oo,oo,oo,oo,oo,oo,oo,oo,oo,oo,oo,oo,oo,oo,oo,oo,oo,oo,oo,oo,([5001],[]),oo,oo,oo,oo,oo,oo,oo,oo,oo,oo,oo,([5001],[5001]),oo,oo] mx (.cA (.loadAt0 (k:=5001) .none yO e (.s e)) (.mvA e (.cA (.nilCheckR .none (.s e)) (.faA Qf Yh e (.ldA y6 e (.cA (.fieldPtr .none vn (.s e)) (.cA (.loadAt (k:=5001) .none ty3 e (.s e) vt) (.ixA yl ty3 e e hn12 (.ldA ty3 e (.mvA e (.cA (.nilCheckR .none (.s e)) (.faA Qf Yh e (.ldA y6 e (.faA vn vt e (.ldA ty3 e (.ixA yl ty3 e e hn13 (.ldA ty3 e (.subA e e (.mvA e (.cA (.nilCheckR .none (.s e)) (.faA Qf Yh e (.ldA y6 e (.faA vn vt e (.ldA ty3 e (.ixA yl ty3 e e hn14 (.ldA ty3 e (.mvA e (.cA (.nilCheckR .none (.s e)) (.faA Qf Yh e (.ldA y6 e (.cA (.fieldPtr .none vn (.s e)) (.cA (.loadAt (k:=5001) .none ty3 e (.s e) vt) (.ixA yl ty3 e e hn15 (.ldA ty3 e (.subA e e (.cA (.max2 .none (.s e) (.s e)) (.mvA e (.cA (.nilCheckR .none (.s e)) (.faA zdh zn8 e (.ldA zcW e (.mvA e (.ixA vU ty4 e e hn16 (.ldA ty4 e (.s0 5001 yO e e e (.asnA e (.asnA e (.nil (.fb 5001 [6] e (.cons (t:=6) e trivial .nil) (.ret ?_)))))))))))))))))))))))))))))))))))))))))))))))))))
   obtain rfl:=za h
   exact zb.ret3 (.inl e) Tryz.results118 (zO.cellR yO e trivial Imp.refl) (zO.tmp e trivial Imp.refl) (zO.tmp e trivial Imp.refl)
set_option maxHeartbeats 4000000 in
theorem zqt {s1:yd}{from1:zt}{to1:zt}{r:((List zt)×Bool)}  (h:zcF s1 from1 to1=some r):zi Tryz.prog 67 [ref s1,rep from1,rep to1] (tup [rep r.1,rep r.2]):=by
 unfold zcF at h
 obtain⟨v1,hv1,h⟩:=zh h
 obtain⟨hn2,h⟩:=zr h
 obtain⟨v2,hv3,h⟩:=zh h
 obtain⟨hn4,h⟩:=zr h
 obtain⟨c1,hv5,h⟩:=zh h
 obtain⟨v3,hv6,h⟩:=zh h
 obtain⟨hn7,h⟩:=zr h
 obtain⟨c2,hv8,h⟩:=zh h
 obtain⟨v4,hv9,h⟩:=zh h
 obtain⟨hn10,h⟩:=zr h
 obtain⟨done1,hv11,h⟩:=zh h
 obtain⟨c3,hv12,h⟩:=zh h
 refine zi.i Tryz.func67 e Tryz.ntmps67 e (fun F=>(.sn mx (.c (.boxRef .none (.s e)) (.c (.box .none (.s e)) (.c (.box .none (.s e)) (.c (.assign .none (.const (x:=([]:(List zt))) (fun M w=>⟨_,⟨none,0,rfl,Nat.le_refl _,by decide,rfl⟩,rfl⟩))) (.asb (.nil (.sr [oo,oo,oo,oo,oo,oo,oo,oo,oo,oo,oo,oo,([],[34]),([],[8]),([8,34],[8,34])] mx (.cA (.isRef e (.load .none zcV (.s e))) (.cA (.nilCheckR .none (.s e)) (.faA vo Qi e (.ldA y6 e (.cA (.len .none yl (.s e)) (.cA (.isRef e (.load .none zcV (.s e))) (.cA (.nilCheckR .none (.s e)) (.faA Qf Yh e (.ldA y6 e (.cA (.len .none yl (.s e)) (.cA (.mulW .none (.s e) (.s e)) (.cA (.re hv1 (.mulW .none (.s e) .i)) (.cW (.makeSlice zqf zhI e (.s e) (.s e) hn2) (.al zr4 e (.cN (.storeRow0 (k:=8) (t:=34) zrM e e e e) (.nil (.nameAt (t:=8) (g:=5001) e e (Yn fun _=>Ym) e (fun m5001=>(.open (k:=5001) (g:=5002) e e (fun s5002=>(.sr [([5001],[]),([5002],[]),([],[37]),([],[9]),([9,37],[9,37])] mx (.cA (.loadAt0 (k:=5001) .none Jh e (.s e)) (.cA (.re hv3 (.lenO (k:=5002) YC (.told (.s e) e))) (.cW (.makeSlice za7 zo3 e (.s e) (.s e) hn4) (.al zr7 e (.cN (.storeRow0 (k:=9) (t:=37) y6 e e e e) (.nil (.reB (t:=5002) e (congrArg (fun y=>zf.at s5002 (zk 166 y)) hv5) (.nameAt (t:=9) (g:=5003) e e (Yn fun _=>Ym) e (fun m5003=>(.open (k:=5003) (g:=5004) e e (fun s5004=>(.sr [([5001],[]),([5002],[]),([],[40]),([],[10]),([10,40],[10,40])] mx (.cA (.loadAt0 (k:=5001) .none Jh e (.s e)) (.cA (.re hv6 (.lenO (k:=5002) YC (.told (.s e) e))) ?_))))))))))))))))))))))))))))))))))))))))))))
 refine .cW (.makeSlice zeD zo4 e (.s e) (.s e) hn7) (.al zr3 e (.cN (.storeRow0 (k:=10) (t:=40) zcW e e e e) (.nil (.reB (t:=5004) e (congrArg (fun y=>zf.at s5004 (zk 3 y)) hv8) (.nameAt (t:=10) (g:=5005) e e (Yn fun _=>Ym) e (fun m5005=>(.open (k:=5005) (g:=5006) e e (fun s5006=>(.sr [([5001],[]),([5002],[]),([],[43]),([43],[11,43])] mx (.cA (.loadAt0 (k:=5001) .none Jh e (.s e)) (.cA (.re hv9 (.lenO (k:=5002) YC (.told (.s e) e))) (.cW (.makeSlice zeD zo4 e (.s e) (.s e) hn10) (.cW (.passRow e (.tmp e)) (.nil (.reB (t:=11) e (congrArg (zk 4) hv11) (.reB (t:=5006) e (congrArg (fun y=>zf.at s5006 (zk 4 y)) hv12) (.nameRow (t:=11) (g:=5007) e e e (fun s5007=>(.sr [([],[44]),([44],[45,44]),([],[12]),([12,45],[12,45])] mx (.cW (.buildSliceO (xs:=[]) e jq qa zi7 .nil e (by decide)) (.cW (.boxRow (t:=44) e e) (.al zr5 e (.cN (.storeRow0P (k:=12) (t:=45) zeY e e e (zo6 (Yn fun _=>Ym)) e) (.nil (.nameAt (t:=12) (g:=5008) e e (Yn fun _=>Ym) e (fun m5008=>(.open (k:=5008) (g:=5009) e e (fun s5009=>(.boxTold (g:=5009) e (Yn fun _=>Ym) (fun m5009 hm13=>?_))))))))))))))))))))))))))))))
 subst hm13
 obtain⟨r1,hv14,h⟩:=bind_some h
 refine .freezeBox (g:=5008) (ts:=[12]) e (.cons (t:=12) e trivial .nil) (.k2 5001 5002 e e (.k2 5003 5004 e e (.k2 5005 5006 e e (.k2 5007 5009 e e .nil)))) e (.open (k:=5009) (g:=5010) e e (fun s5010=>(.sn mx (.c (.makeFuncC (Cs:=[ref (some s1),isV (ptr m5005 0),isV (ptr m5001 0),isV (ptr m5003 0),ref (⟨ptr m5009 0⟩:Raw)]) .none (.cons (.s e) (.cons (.s e) (.cons (.s e) (.cons (.s e) (.cons (.s e) .nil)))))) (.asn e (.nil (.sr [oo,oo,oo,([5005,5006,5001,5002,5003,5004,5009,5010],[5005,5006,5001,5002,5003,5004,5009,5010])] mx (.mvA e (.ldA yO e (.cA (.buildF (y:=(⟨from1,(0:Int),(0:Int)⟩:zF)) .none zfq zhF e (.cons (.s e) .nil) (.cons e zhd .nil)) (.cW (.callClo [5005,5006,5001,5002,5003,5004,5009,5010] (Ss:=[rep (⟨from1,(0:Int),(0:Int)⟩:zF),rep (-1)]) (Cs:=[ref (some s1),isV (ptr m5005 0),isV (ptr m5001 0),isV (ptr m5003 0),ref (⟨ptr m5009 0⟩:Raw)]) (.s e) (zg3 hv14) (.cons (.s e) (.cons .i .nil)) (.cons (k:=5005) e (.cons (k:=5006) e (.cons (k:=5001) e (.cons (k:=5002) e (.cons (k:=5003) e (.cons (k:=5004) e (.cons (k:=5009) e (.cons (k:=5010) e .nil)))))))) e (by decide) (by decide) (by intro d h;cases h;decide)) (.nil (.open (k:=5001) (g:=5011) e e (fun s5011=>(.open (k:=5003) (g:=5012) e e (fun s5012=>(.open (k:=5005) (g:=5013) e e (fun s5013=>(.open (k:=5009) (g:=5014) e e (fun s5014=>(.seq ?_)))))))))))))))))))))
 obtain⟨o_15,h,hK15⟩:=ym h
 refine .tJ (fun s=>o_15=Res.nx s) Sub.nil ze.nil ?_ (fun j_15 hj15=>?_)
 ·
  refine .block (.close (k:=5001) (g:=5011) (fun z=>zE 162 (⟨z⟩:Raw)) e e e (.close (k:=5003) (g:=5012) (fun z=>zE 79 (⟨z⟩:Raw)) e e e (.close (k:=5005) (g:=5013) (fun z=>zE 122 (⟨z⟩:Raw)) e e e (.close (k:=5009) (g:=5014) (fun z=>zE 164 (⟨z⟩:Raw)) e e e (.loopL h (fun s16_=>[]) (fun s16_=>[(5001,some (zf.at (ptr m5001 0) (zZ (fun z0=>zE 162 (⟨z0⟩:Raw)) (zk 166 s16_.1)))),(5003,some (zf.at (ptr m5003 0) (zZ (fun z0=>zE 79 (⟨z0⟩:Raw)) (zk 3 s16_.2.1)))),(5005,some (zf.at (ptr m5005 0) (zZ (fun z0=>zE 122 (⟨z0⟩:Raw)) (zk 4 s16_.2.2.1)))),(5009,some (zf.at (ptr m5009 0) (zZ (fun z0=>zE 164 (⟨z0⟩:Raw)) (zk 166 s16_.2.2.2.1)))),(5007,some (zf.at s5007 (zk 4 s16_.2.2.2.2)))]) Sub.nil (.k2 5001 5003 e e (.k2 5005 5009 e e (.k 5007 e .nil))) (.k4 3 5 8 9 e e e e (.k4 10 11 12 13 e e e e .nil)) ze.nil (fun s16_ o_16 h hD16=>?_))))))
  unfold zcG at h
  obtain⟨r2,hv17,h⟩:=bind_some h
  refine .open (k:=5001) (g:=5015) e e (fun s5015=>(.open (k:=5003) (g:=5016) e e (fun s5016=>(.open (k:=5005) (g:=5017) e e (fun s5017=>(.open (k:=5009) (g:=5018) e e (fun s5018=>(.seq (.sr [oo,oo,([5009],[]),([5018],[]),oo] mx (.ldA zeY e (.cA (.nilCheckP .none (.s e)) (.cA (.loadAt0 (k:=5009) .none Qw e (.s e)) (.cA (.callC .none zfV (fun hg=>zg0  hv17) .rep (.lend (k:=5018) (.told (.s e) e) .nil)) (.cA (.gt .none (.s e) .i) (.nil (.cb e h (fun _ h=>?_) fun _ h=>?_))))))))))))))))
  ·
   obtain⟨r3,hv19,h⟩:=bind_some h
   obtain⟨k1,hv20,h⟩:=bind_some h
   obtain⟨hn21,h⟩:=zr h
   refine .skip (.then (.block (.sr [oo,oo,([5009,5018],[5009,5018]),oo,([],[14]),([14],[14])] mx (.ldA zeY e (.cA (.mkIface .none zjE (.s e)) (.cW (.cO [5009,5018] (zn3 hv19) (.cons (.s e) .nil) (.cons (k:=5009) e (.cons (k:=5018) e .nil)) e) (.cA (.assertV .none zdV (.s e)) (.al zhI e (.st qa e e e (.nil (.freeze (t:=14) e e (.k2 5001 5003 e e (.k2 5005 5007 e e (.k2 5009 5015 e e (.k2 5016 5017 e e .nil)))) e (.open (k:=5009) (g:=5019) e e (fun s5019=>(.sn mx (.c (.isRef e (.load .none zcV (.s e))) (.fa QB QG e (.ld yO e (.c (.call .none (zkn hv20) (.cons (.s e) (.cons (.s e) .nil))) (.asn e (.nil (.seq (.sr [oo,oo,([5007],[]),([5007],[])] mx (.mvA e (.mvA e (.ixO 5007 vU ty4 e e e hn21 (.cA (.loadElem0 (k:=5007) .none ty4 (.s e) e (fun _=>hn21)) (.nil (.cb e h (fun _ h=>?_) fun _ h=>?_))))))))))))))))))))))))))))
   ·
    exact .exit (.thenExit (.blkExit (.close (k:=5001) (g:=5015) (fun z=>zE 162 (⟨z⟩:Raw)) e e e (.close (k:=5003) (g:=5016) (fun z=>zE 79 (⟨z⟩:Raw)) e e e (.close (k:=5005) (g:=5017) (fun z=>zE 122 (⟨z⟩:Raw)) e e e (.close (k:=5009) (g:=5019) (fun z=>zE 164 (⟨z⟩:Raw)) e e e (zb.ag (za h))))))))
   ·
    obtain⟨hn23,h⟩:=zr h
    obtain⟨done2,hv24,h⟩:=zh h
    refine .skip (.then (.sr [oo,oo,([5007],[]),([5007],[5007])] mx (.mvA e (.mvA e (.ixO 5007 vU ty4 e e e hn23 (.cN (.storeElem0 (k:=5007) ty4 (.s e) e .bool hn23) (.nil (.reB (t:=5007) e (congrArg (fun y=>zf.at s5007 (zk 4 y)) hv24) (.seq (.sn mx (.fa QB QG e (.ld yO e (.ld yO e (.c (.eqS .none zmU (.s e) (.s e)) (.nil ?_)))))))))))))))
    obtain⟨o_25,h,hK25⟩:=ym h
    refine .tJ (fun s=>o_25=Res.nx s) (.k4 3 5 8 9 e e e e (.k4 10 11 12 13 e e e e (.k2 14 15 e e .nil))) (.k2 5001 5003 e e (.k2 5005 5007 e e (.k2 5009 5015 e e (.k2 5016 5017 e e (.k 5019 e .nil))))) ?_ (fun j_25 hj25=>?_)
    ·
     refine .cb e h (fun _ h=>?_) fun _ h=>?_
     ·
      refine .sr [([],[16])] mx (.cW (.nilRow (T:=119) (α:=zt) e) (.nil (.nameRow (t:=16) (g:=5020) e e e (fun s5020=>(.seq ?_)))))
      obtain⟨j_27,h,hK27⟩:=bind_some h
      refine .thenJ (ι:=(List zt)) (fun j_27=>[]) (fun j_27=>[(16,some (zk 119 j_27))]) (fun s=>j_27=s) Sub.nil ze.nil ?_ (fun j_27' hj27=>?_)
      ·
       refine .block (.anon (t:=16) (g:=5020) e e trivial e (.loopL h (fun s28_=>[(15,⟨True,rep s28_.1⟩)]) (fun s28_=>[(16,some (zk 119 s28_.2))]) (.k 15 e .nil) (.k 16 e .nil) (.k2 8 9 e e .nil) (.k2 5001 5003 e e (.k2 5015 5016 e e .nil)) (fun s28_ o_28 h hD28=>?_)))
       unfold QV at h
       refine .nameRow (t:=16) (g:=5021) e e e (fun s5021=>(.seq (.sn mx (.mv e (.c (.ge .none (.s e) .i) (.nil (.cb e h (fun _ h=>?_) fun _ h=>?_)))))))
       ·
        obtain⟨hn30,h⟩:=zr h
        obtain⟨hn31,h⟩:=zr h
        obtain⟨way1,hv32,h⟩:=zh h
        obtain⟨hn33,h⟩:=zr h
        obtain⟨k2,hv34,h⟩:=zh h
        exact .skip (.then (.seq (.block (.rg [oo,([5001],[]),oo,([5015],[]),([5015],[]),([5015],[]),oo,([5021],[88,5021]),([88],[16,88])] mx (.mvA e (.cA (.loadAt0 (k:=5001) .none Jh e (.s e)) (.mvA e (.ixO 5015 YC qa e e e hn30 (.fe 5015 QB e e hn30 (.cA (.loadElem (k:=5015) .none yO (.s e) e QG (fun _=>hn30)) (.cA (.buildSlice (xs:=[_]) .none vT yO zoh (.cons (.s e) .nil) e (by decide)) (.cW (.append (k:=5021) zqe e (.told (.s e) e) (.s e) hn31) (.consWD (.passRow e (.tmp e)) e e (.nil (.blkNormal (.then (.reB (t:=16) e (congrArg (zk 119) hv32) (.nameRow (t:=16) (g:=5022) e e e (fun s5022=>(.rg [([5003],[]),oo,([5016],[]),([5016],[]),oo] mx (.cA (.loadAt0 (k:=5003) .none zla e (.s e)) (.mvA e (.ixO 5016 yl ty3 e e e hn33 (.cA (.loadElem0 (k:=5016) .none ty3 (.s e) e (fun _=>hn33)) (.cA (.re hv34 (.assign .none (.s e))) (.nil (.anon (t:=16) (g:=5022) e e trivial e (zb.ag (za h)))))))))))))))))))))))))))))
       ·
        refine .exit (.thenExit (.thenExit (.blkExit (.anon (t:=16) (g:=5021) e e trivial e ?_))))
        replace h:=hD28 _ (za h)
        exact zb.j _ (za h)
      ·
       subst hj27;have h:=hK27;clear hK27
       obtain⟨r4,hv35,h⟩:=bind_some h
       refine .nameRow (t:=16) (g:=5023) e e e (fun s5023=>(.sr [oo,([5023],[5023])] mx (.mvA e (.cW (.cO [5023] (zrh hv35) (.cons (.s e) .nil) (.cons (k:=5023) e .nil) e) (.nil (.freezeRow (g:=5023) (ts:=[16]) e (.cons (t:=16) e trivial .nil) ze.nil e (.sn mx (.mv e (.asn e (.asb (.nil (.ret (.thenRet (.blkRet (.thenRet (.blkRet (.thenRet ?_)))))))))))))))))
       replace h:=z6 hK25 (za h)
       replace h:=hD16 _ (za h)
       replace h:=z6 hK15 (za h)
       obtain rfl:=za h
       exact zb.ret2 (.inl e) Tryz.results67 (zO.tmp e trivial Imp.refl) (zO.tmp e trivial Imp.refl)
     ·
      exact .skip (zb.j _ (za h))
    ·
     have h:=yo hK25 hj25
     obtain⟨r5,hv36,h⟩:=bind_some h
     refine .seq (.sn mx (.fa QB QG e (.fa vm vr e (.ld ty3 e (.fa vm vr e (.ld ty3 e (.c (.eqI .none (.s e) (.s e)) (.mv e (.fg QB QG e e e (.c (.fieldAddr (.at e e) vn vt (.tmp e id)) (.lg ty3 e e e (.fg vn vt e e e (.lg ty3 e e e (.c (.eqI (.at e e) (.tmp e id) (.tmp e id)) (.pa e e (.mv e (.fg QB QG e e e (.c (.fieldAddr (.at e e) Jv JA (.tmp e id)) (.lg ty3 e e e (.fg Jv JA e e e (.lg ty3 e e e (.c (.callIf (.at e e) znE (fun hg=>zgV ((fun hg=>yC hv36 (hg.2)) hg)) (.cons (.tmp e id) .nil) (fun h=>h)) (.c (.neI (.at e e) (.tmp e id) (.tmp e id)) (.pa e e (.nil ?_)))))))))))))))))))))))))
     obtain⟨j_37,h,hK37⟩:=bind_some h
     refine .thenJ (ι:=((List zF)×(List Int)×(List Bool)×(List zF))) (fun j_37=>[]) (fun j_37=>[(5001,some (zf.at (ptr m5001 0) (zZ (fun z0=>zE 162 (⟨z0⟩:Raw)) (zk 166 j_37.1)))),(5003,some (zf.at (ptr m5003 0) (zZ (fun z0=>zE 79 (⟨z0⟩:Raw)) (zk 3 j_37.2.1)))),(5005,some (zf.at (ptr m5005 0) (zZ (fun z0=>zE 122 (⟨z0⟩:Raw)) (zk 4 j_37.2.2.1)))),(5009,some (zf.at (ptr m5009 0) (zZ (fun z0=>zE 164 (⟨z0⟩:Raw)) (zk 166 j_37.2.2.2))))]) (fun s=>j_37=s) (.k4 3 5 8 9 e e e e (.k4 10 11 12 13 e e e e (.k2 14 15 e e .nil))) (.k 5007 e .nil) ?_ (fun j_37' hj37=>?_)
     ·
      refine .cb e h (fun _ h=>?_) fun _ h=>?_
      ·
       obtain⟨r6,hv39,h⟩:=bind_some h
       exact .rg [oo,oo,oo,oo,oo,oo,oo,oo,oo,([5005,5017,5001,5015,5003,5016,5009,5019],[5005,5017,5001,5015,5003,5016,5009,5019])] mx (.mvA e (.ldA yO e (.faA QC QH e (.ldA ty3 e (.cA (.addW .none (.s e) .i) (.faA zas zaz e (.ldA ty3 e (.cA (.buildF (y:=(⟨to1,W (r3.1.bends+1),r3.1.long⟩:zF)) .none zfq zhF e (.cons (.s e) (.cons (.s e) (.cons (.s e) .nil))) (.cons e zhd (.cons e zkH (.cons e zkI .nil)))) (.mvA e (.cW (.callClo [5005,5017,5001,5015,5003,5016,5009,5019] (Ss:=[rep (⟨to1,W (r3.1.bends+1),r3.1.long⟩:zF),rep k1]) (Cs:=[ref (some s1),isV (ptr m5005 0),isV (ptr m5001 0),isV (ptr m5003 0),ref (⟨ptr m5009 0⟩:Raw)]) (.s e) (zg3 hv39) (.cons (.s e) (.cons (.s e) .nil)) (.cons (k:=5005) e (.cons (k:=5017) e (.cons (k:=5001) e (.cons (k:=5015) e (.cons (k:=5003) e (.cons (k:=5016) e (.cons (k:=5009) e (.cons (k:=5019) e .nil)))))))) e (by decide) (by decide) (by intro d h;cases h;decide)) (.nil (zb.j _ (za h)))))))))))))
      ·
       exact .skip (.close (k:=5001) (g:=5015) (fun z=>zE 162 (⟨z⟩:Raw)) e e e (.close (k:=5003) (g:=5016) (fun z=>zE 79 (⟨z⟩:Raw)) e e e (.close (k:=5005) (g:=5017) (fun z=>zE 122 (⟨z⟩:Raw)) e e e (.close (k:=5009) (g:=5019) (fun z=>zE 164 (⟨z⟩:Raw)) e e e (zb.j _ (za h))))))
     ·
      subst hj37;have h:=hK37;clear hK37
      refine .open (k:=5001) (g:=5024) e e (fun s5024=>(.open (k:=5003) (g:=5025) e e (fun s5025=>(.open (k:=5005) (g:=5026) e e (fun s5026=>(.open (k:=5009) (g:=5027) e e (fun s5027=>(.sn mx (.asi (.nil (.block (.close (k:=5001) (g:=5024) (fun z=>zE 162 (⟨z⟩:Raw)) e e e (.close (k:=5003) (g:=5025) (fun z=>zE 79 (⟨z⟩:Raw)) e e e (.close (k:=5005) (g:=5026) (fun z=>zE 122 (⟨z⟩:Raw)) e e e (.close (k:=5009) (g:=5027) (fun z=>zE 164 (⟨z⟩:Raw)) e e e (.loopL h (fun s40_=>[(17,⟨True,rep s40_.1⟩)]) (fun s40_=>[(5001,some (zf.at (ptr m5001 0) (zZ (fun z0=>zE 162 (⟨z0⟩:Raw)) (zk 166 s40_.2.1)))),(5003,some (zf.at (ptr m5003 0) (zZ (fun z0=>zE 79 (⟨z0⟩:Raw)) (zk 3 s40_.2.2.1)))),(5005,some (zf.at (ptr m5005 0) (zZ (fun z0=>zE 122 (⟨z0⟩:Raw)) (zk 4 s40_.2.2.2.1)))),(5009,some (zf.at (ptr m5009 0) (zZ (fun z0=>zE 164 (⟨z0⟩:Raw)) (zk 166 s40_.2.2.2.2))))]) (.k 17 e .nil) (.k2 5001 5003 e e (.k2 5005 5009 e e .nil)) (.k4 3 5 8 9 e e e e (.k4 10 11 12 13 e e e e (.k2 14 15 e e .nil))) (.k 5007 e .nil) (fun s40_ o_40 h hD40=>?_)))))))))))))))))
      unfold zcH at h
      refine .open (k:=5001) (g:=5028) e e (fun s5028=>(.open (k:=5003) (g:=5029) e e (fun s5029=>(.open (k:=5005) (g:=5030) e e (fun s5030=>(.open (k:=5009) (g:=5031) e e (fun s5031=>(.seq (.sn mx (.mv e (.c (.le .none (.s e) .i) (.nil (.cb e h (fun _ h=>?_) fun _ h=>?_)))))))))))))
      ·
       refine .skip (.then (.seq ?_))
       obtain⟨j_42,h,hK42⟩:=bind_some h
       refine .thenJ (ι:=((List zF)×(List Int)×(List Bool)×(List zF))) (fun j_42=>[]) (fun j_42=>[(5001,some (zf.at (ptr m5001 0) (zZ (fun z0=>zE 162 (⟨z0⟩:Raw)) (zk 166 j_42.1)))),(5003,some (zf.at (ptr m5003 0) (zZ (fun z0=>zE 79 (⟨z0⟩:Raw)) (zk 3 j_42.2.1)))),(5005,some (zf.at (ptr m5005 0) (zZ (fun z0=>zE 122 (⟨z0⟩:Raw)) (zk 4 j_42.2.2.1)))),(5009,some (zf.at (ptr m5009 0) (zZ (fun z0=>zE 164 (⟨z0⟩:Raw)) (zk 166 j_42.2.2.2))))]) (fun s=>j_42=s) (.k4 3 5 8 9 e e e e (.k4 10 11 12 13 e e e e (.k2 14 15 e e (.k 17 e .nil)))) (.k 5007 e .nil) ?_ (fun j_42' hj42=>?_)
       ·
        obtain⟨r7,hv43,h⟩:=bind_some h
        refine .block (.seq (.sn mx (.mv e (.fa QB QG e (.fa Jv JA e (.ld ty3 e (.c (.call .none (zgV hv43) (.cons (.s e) .nil)) (.c (.eqI .none (.s e) (.s e)) (.nil (.cb e h (fun _ h=>?_) fun _ h=>?_))))))))))
        ·
         exact .exit (.thenExit (.blkExit (.close (k:=5001) (g:=5028) (fun z=>zE 162 (⟨z⟩:Raw)) e e e (.close (k:=5003) (g:=5029) (fun z=>zE 79 (⟨z⟩:Raw)) e e e (.close (k:=5005) (g:=5030) (fun z=>zE 122 (⟨z⟩:Raw)) e e e (.close (k:=5009) (g:=5031) (fun z=>zE 164 (⟨z⟩:Raw)) e e e (zb.j _ (za h))))))))
        ·
         obtain⟨r8,hv45,h⟩:=bind_some h
         refine .skip (.then (.sr [oo,oo,oo,oo,oo,oo,oo,oo,oo,([],[18]),([18],[18]),oo,oo] mx (.cA (.isRef e (.load .none zcV (.s e))) (.faA QB QG e (.ldA yO e (.mvA e (.cA (.call .none (zqu hv45) (.cons (.s e) (.cons (.s e) (.cons (.s e) .nil)))) (.mvA e (.exA e e (.exA e e (.exA e e (.al zhH e (.st yO e e e (.asnA e (.asnA e (.nil (.freeze (t:=18) e e (.k2 5001 5003 e e (.k2 5005 5007 e e (.k2 5009 5028 e e (.k2 5029 5030 e e (.k 5031 e .nil))))) e (.seq (.sn mx (.mv e (.c (.not .none (.s e)) (.nil (.cb e h (fun _ h=>?_) fun _ h=>?_)))))))))))))))))))))))
         ·
          exact .exit (.thenExit (.blkExit (.close (k:=5001) (g:=5028) (fun z=>zE 162 (⟨z⟩:Raw)) e e e (.close (k:=5003) (g:=5029) (fun z=>zE 79 (⟨z⟩:Raw)) e e e (.close (k:=5005) (g:=5030) (fun z=>zE 122 (⟨z⟩:Raw)) e e e (.close (k:=5009) (g:=5031) (fun z=>zE 164 (⟨z⟩:Raw)) e e e (zb.j _ (za h))))))))
         ·
          refine .skip (.then (.sn mx (.fa QC QH e (.ld ty3 e (.asn e (.nil (.seq (.sn mx (.mv e (.fa QB QG e (.fa Jv JA e (.ld ty3 e (.c (.neI .none (.s e) (.s e)) (.nil ?_))))))))))))))
          obtain⟨j_47,h,hK47⟩:=bind_some h
          refine .thenJ (ι:=Int) (fun j_47=>[(21,⟨True,rep j_47⟩)]) (fun j_47=>[]) (fun s=>j_47=s) (.k4 3 5 8 9 e e e e (.k4 10 11 12 13 e e e e (.k4 14 15 17 18 e e e e (.k 19 e .nil)))) (.k2 5001 5003 e e (.k2 5005 5007 e e (.k2 5009 5028 e e (.k2 5029 5030 e e (.k 5031 e .nil))))) ?_ (fun j_47' hj47=>?_)
          ·
           refine .cb e h (fun _ h=>?_) fun _ h=>?_
           ·
            obtain⟨bends1,hv49,h⟩:=zh h
            exact .rn mx (.mv e (.adi e (.ra hv49 e (.nil (zb.j _ (za h))))))
           ·
            exact .skip (zb.j _ (za h))
          ·
           subst hj47;have h:=hK47;clear hK47
           obtain⟨r9,hv50,h⟩:=bind_some h
           exact .rg [oo,oo,oo,oo,oo,oo,oo,oo,oo,([5005,5030,5001,5028,5003,5029,5009,5031],[5005,5030,5001,5028,5003,5029,5009,5031])] mx (.mvA e (.ldA yO e (.mvA e (.faA zas zaz e (.ldA ty3 e (.mvA e (.addA e e (.cA (.buildF (y:=(⟨r8.1,j_47,W (r3.1.long+r8.2.1)⟩:zF)) .none zfq zhF e (.cons (.s e) (.cons (.s e) (.cons (.s e) .nil))) (.cons e zhd (.cons e zkH (.cons e zkI .nil)))) (.mvA e (.cW (.callClo [5005,5030,5001,5028,5003,5029,5009,5031] (Ss:=[rep (⟨r8.1,j_47,W (r3.1.long+r8.2.1)⟩:zF),rep k1]) (Cs:=[ref (some s1),isV (ptr m5005 0),isV (ptr m5001 0),isV (ptr m5003 0),ref (⟨ptr m5009 0⟩:Raw)]) (.s e) (zg3 hv50) (.cons (.s e) (.cons (.s e) .nil)) (.cons (k:=5005) e (.cons (k:=5030) e (.cons (k:=5001) e (.cons (k:=5028) e (.cons (k:=5003) e (.cons (k:=5029) e (.cons (k:=5009) e (.cons (k:=5031) e .nil)))))))) e (by decide) (by decide) (by intro d h;cases h;decide)) (.nil (.blkNormal (zb.j _ (za h))))))))))))))
       ·
        subst hj42;have h:=hK42;clear hK42
        obtain⟨side1,hv51,h⟩:=zh h
        exact .open (k:=5001) (g:=5032) e e (fun s5032=>(.open (k:=5003) (g:=5033) e e (fun s5033=>(.open (k:=5005) (g:=5034) e e (fun s5034=>(.open (k:=5009) (g:=5035) e e (fun s5035=>(.rn mx (.mv e (.adi e (.ra hv51 e (.nil (.close (k:=5001) (g:=5032) (fun z=>zE 162 (⟨z⟩:Raw)) e e e (.close (k:=5003) (g:=5033) (fun z=>zE 79 (⟨z⟩:Raw)) e e e (.close (k:=5005) (g:=5034) (fun z=>zE 122 (⟨z⟩:Raw)) e e e (.close (k:=5009) (g:=5035) (fun z=>zE 164 (⟨z⟩:Raw)) e e e (zb.ag (za h))))))))))))))))))
      ·
       refine .exit (.thenExit (.thenExit (.blkExit (.blkNormal (.close (k:=5001) (g:=5028) (fun z=>zE 162 (⟨z⟩:Raw)) e e e (.close (k:=5003) (g:=5029) (fun z=>zE 79 (⟨z⟩:Raw)) e e e (.close (k:=5005) (g:=5030) (fun z=>zE 122 (⟨z⟩:Raw)) e e e (.close (k:=5009) (g:=5031) (fun z=>zE 164 (⟨z⟩:Raw)) e e e ?_))))))))
       replace h:=hD40 _ (za h)
       exact zb.ag (za h)
  ·
   refine .exit (.thenExit (.thenExit (.blkExit ?_)))
   replace h:=hD16 _ (za h)
   exact zb.j _ (za h)
 ·
  have h:=yo hK15 hj15
  refine .sn mx (.c (.assign .none (.const (x:=([]:(List zt))) (fun M w=>⟨_,⟨none,0,rfl,Nat.le_refl _,by decide,rfl⟩,rfl⟩))) (.asb (.nil (.ret ?_))))
  obtain rfl:=za h
  exact zb.ret2 (.inl e) Tryz.results67 (zO.tmp e trivial Imp.refl) (zO.tmp e trivial Imp.refl)
theorem zql {t1:zA}{r:((List zd)×Int)}  (h:Y9 t1=some r):zi Tryz.prog 26 [rep t1] (tup [rep r.1,rep r.2]):=by
 unfold Y9 at h
 obtain⟨e1,hv1,h⟩:=bind_some h
 refine zi.i Tryz.func26 e Tryz.ntmps26 e (fun F=>(.sn mx (.c (.box .none (.s e)) (.c (.assign .none (.const (x:=([]:(List zd))) (fun M w=>⟨_,⟨none,0,rfl,Nat.le_refl _,by decide,rfl⟩,rfl⟩))) (.asi (.nil (.seq (.sn mx (.ld qn e (.c (.call .none (zgU hv1) (.cons (.s e) .nil)) (.asn e (.nil (.sn mx (.mv e (.nei e (.nil (.cb e h (fun _ h=>?_) fun _ h=>?_)))))))))))))))))
 ·
  refine .sn mx (.mv e (.c (.assign .none (.const (x:=([]:(List zd))) (fun M w=>⟨_,⟨none,0,rfl,Nat.le_refl _,by decide,rfl⟩,rfl⟩))) (.asn e (.nil (.ret (.thenRet ?_))))))
  obtain rfl:=za h
  exact zb.ret2 (.inl e) Tryz.results26 (zO.tmp e trivial Imp.refl) (zO.tmp e trivial Imp.refl)
 ·
  obtain⟨r1,hv3,h⟩:=bind_some h
  obtain⟨walls1,hv4,h⟩:=bind_some h
  obtain⟨r2,hv5,h⟩:=bind_some h
  obtain⟨r3,hv6,h⟩:=bind_some h
  refine .skip (.then (.sr [oo,oo,oo,oo,oo,([],[5]),([],[6]),([5],[5]),([6],[6])] mx (.ldA qn e (.cA (.call .none (zgW hv3) (.cons (.s e) .nil)) (.mvA e (.exA e e (.exA e e (.al yG e (.al yG e (.st zw e e e (.st zw e e e (.nil (.freeze (t:=5) e e (.k 6 e .nil) e (.freeze (t:=6) e e ze.nil e (.sn mx (.ld qn e (.c (.call .none (zg6 hv4) (.cons (.s e) .nil)) (.asn e (.nil (.seq (.sn mx (.mv e (.ld zw e (.ld zw e (.c (.call .none (zkm hv5) (.cons (.s e) (.cons (.s e) (.cons (.s e) .nil)))) (.c (.not .none (.s e)) (.mv e (.mg e e e (.c (.load (.at e e) zw (.s e)) (.c (.load (.at e e) zw (.s e)) (.c (.callIf (.at e e) znD (fun hg=>zkm ((fun hg=>yC hv6 ((qD hg.2))) hg)) (.cons (.tmp e id) (.cons (.tmp e id) (.cons (.tmp e id) .nil))) (fun h=>h)) (.c (.not (.at e e) (.tmp e id)) (.po e e (.nil (.cb e h (fun _ h=>?_) fun _ h=>?_)))))))))))))))))))))))))))))))))))
  ·
   refine .sn mx (.c (.assign .none (.const (x:=([]:(List zd))) (fun M w=>⟨_,⟨none,0,rfl,Nat.le_refl _,by decide,rfl⟩,rfl⟩))) (.asi (.nil (.ret (.thenRet ?_)))))
   obtain rfl:=za h
   exact zb.ret2 (.inl e) Tryz.results26 (zO.tmp e trivial Imp.refl) (zO.tmp e trivial Imp.refl)
  ·
   obtain⟨s1,hv8,h⟩:=bind_some h
   obtain⟨p1,hv9,h⟩:=bind_some h
   obtain⟨r4,hv10,h⟩:=bind_some h
   obtain⟨r5,hv11,h⟩:=bind_some h
   obtain⟨r6,hv12,h⟩:=bind_some h
   obtain⟨r7,hv13,h⟩:=bind_some h
   refine .skip (.then (.sn mx (.ld qn e (.c (.isRef hv9 (.call .none (zqq hv8) (.cons (.s e) .nil))) (.asn e (.nil (.sn mx (.mv e (.mv e (.ld zw e (.fa Jw JB e (.ld ty3 e (.c (.call .none (zko hv10) (.cons (.s e) (.cons (.s e) (.cons (.s e) .nil)))) (.mv e (.ld zw e (.fa YM YP e (.ld ty3 e (.c (.call .none (zgV hv11) (.cons (.s e) .nil)) (.c (.call .none (zko hv12) (.cons (.s e) (.cons (.s e) (.cons (.s e) .nil)))) (.c (.call .none (zqt hv13) (.cons (.s e) (.cons (.s e) (.cons (.s e) .nil)))) (.mv e (.ex e e (.ex e e (.asn e (.asn e (.nil (.seq (.sn mx (.mv e (.c (.not .none (.s e)) (.nil (.cb e h (fun _ h=>?_) fun _ h=>?_))))))))))))))))))))))))))))))))
   ·
    refine .sn mx (.c (.assign .none (.const (x:=([]:(List zd))) (fun M w=>⟨_,⟨none,0,rfl,Nat.le_refl _,by decide,rfl⟩,rfl⟩))) (.asi (.nil (.ret (.thenRet ?_)))))
    obtain rfl:=za h
    exact zb.ret2 (.inl e) Tryz.results26 (zO.tmp e trivial Imp.refl) (zO.tmp e trivial Imp.refl)
   ·
    obtain⟨l1,hv15,h⟩:=zh h
    refine .skip (.then (.sr [oo,oo,([],[59]),([59],[11,59])] mx (.faA zat zaB e (.ldA zw e (.cW (.buildSliceO (xs:=[_]) e zY zw JD (.cons (.s e) .nil) e (by decide)) (.cW (.passRow e (.tmp e)) (.nil (.reB (t:=11) e (congrArg (zk 46) hv15) (.nameRow (t:=11) (g:=5001) e e e (fun s5001=>(.seq (.sn mx (.asi (.nil ?_))))))))))))))
    obtain⟨j_16,h,hK16⟩:=bind_some h
    refine .thenJ (ι:=(List zd)) (fun j_16=>[]) (fun j_16=>[(11,some (zk 46 j_16))]) (fun s=>j_16=s) (.k 1 e .nil) ze.nil ?_ (fun j_16' hj16=>?_)
    ·
     refine .block (.anon (t:=11) (g:=5001) e e trivial e (.loopL h (fun s17_=>[(12,⟨True,rep s17_.2⟩)]) (fun s17_=>[(11,some (zk 46 s17_.1))]) (.k 12 e .nil) (.k 11 e .nil) (.k2 1 8 e e (.k 9 e .nil)) ze.nil (fun s17_ o_17 h hD17=>?_)))
     unfold zcz at h
     refine .nameRow (t:=11) (g:=5002) e e e (fun s5002=>(.seq (.sn mx (.mv e (.mv e (.ln vT e (.lt e e (.nil (.cb e h (fun _ h=>?_) fun _ h=>?_)))))))))
     ·
      refine .skip (.then (.seq ?_))
      obtain⟨j_19,h,hK19⟩:=bind_some h
      refine .thenJ (ι:=(List zd)) (fun j_19=>[]) (fun j_19=>[(11,some (zk 46 j_19))]) (fun s=>j_19=s) (.k4 1 8 9 12 e e e e .nil) ze.nil ?_ (fun j_19' hj19=>?_)
      ·
       obtain⟨hn20,h⟩:=zr h
       obtain⟨hn21,h⟩:=zr h
       refine .block (.sn mx (.mv e (.mv e (.ix vT yO e e hn20 (.fa Jv JA e (.ld ty3 e (.mv e (.mv e (.c (.subW .none (.s e) .i) (.ix vT yO e e hn21 (.fa Jv JA e (.ld ty3 e (.c (.neI .none (.s e) (.s e)) (.nil (.cb e h (fun _ h=>?_) fun _ h=>?_)))))))))))))))
       ·
        obtain⟨hn23,h⟩:=zr h
        obtain⟨hn24,h⟩:=zr h
        obtain⟨hn25,h⟩:=zr h
        obtain⟨hn26,h⟩:=zr h
        obtain⟨hn27,h⟩:=zr h
        exact .rg [oo,oo,oo,oo,oo,oo,oo,oo,oo,oo,oo,oo,oo,oo,oo,oo,oo,oo,oo,oo,oo,oo,oo,oo,oo,oo,oo,([5002],[105,5002]),([105],[11,105])] mx (.mvA e (.mvA e (.cA (.nilCheckR .none (.s e)) (.faA vo Qi e (.ldA y6 e (.mvA e (.mvA e (.cA (.subW .none (.s e) .i) (.ixA vT yO e e hn23 (.faA vm vr e (.ldA ty3 e (.ixA yl ty3 e e hn24 (.ldA ty3 e (.mvA e (.cA (.nilCheckR .none (.s e)) (.faA Qf Yh e (.ldA y6 e (.mvA e (.mvA e (.cA (.subW .none (.s e) .i) (.ixA vT yO e e hn25 (.faA vn vt e (.ldA ty3 e (.ixA yl ty3 e e hn26 (.ldA ty3 e (.cA (.buildF (y:=(⟨gx p1.xs ((gx r7.1 (W (s17_.2 - 1))).x),gx p1.ys ((gx r7.1 (W (s17_.2 - 1))).y)⟩:zd)) .none qe qh e (.cons (.s e) (.cons (.s e) .nil)) (.cons e qS (.cons e qV .nil))) (.cA (.buildSlice (xs:=[_]) .none zY zw JD (.cons (.s e) .nil) e (by decide)) (.cW (.append (k:=5002) za6 e (.told (.s e) e) (.s e) hn27) (.consWD (.passRow e (.tmp e)) e e (.nil (.blkNormal (zb.j _ (za h)))))))))))))))))))))))))))))))))
       ·
        exact .skip (.blkNormal (.anon (t:=11) (g:=5002) e e trivial e (zb.j _ (za h))))
      ·
       subst hj19;have h:=hK19;clear hK19
       obtain⟨i1,hv28,h⟩:=zh h
       exact .nameRow (t:=11) (g:=5003) e e e (fun s5003=>(.rn mx (.mv e (.adi e (.ra hv28 e (.nil (.anon (t:=11) (g:=5003) e e trivial e (zb.ag (za h)))))))))
     ·
      refine .exit (.thenExit (.thenExit (.blkExit (.anon (t:=11) (g:=5002) e e trivial e ?_))))
      replace h:=hD17 _ (za h)
      exact zb.j _ (za h)
    ·
     subst hj16;have h:=hK16;clear hK16
     obtain⟨hn29,h⟩:=zr h
     refine .nameRow (t:=11) (g:=5004) e e e (fun s5004=>(.sr [oo,oo,oo,oo,([5004],[110,5004]),([110],[2,110]),oo] mx (.mvA e (.faA zau zaC e (.ldA zw e (.cA (.buildSlice (xs:=[_]) .none zY zw JD (.cons (.s e) .nil) e (by decide)) (.cW (.append (k:=5004) za6 e (.told (.s e) e) (.s e) hn29) (.cW (.passRow e (.tmp e)) (.cA (.assign .none .i) (.nil (.freezeRowA (t:=2) e e ze.nil e (.ret ?_))))))))))))
     obtain rfl:=za h
     exact zb.ret2 (.inl e) Tryz.results26 (zO.tmp e trivial Imp.refl) (zO.tmp e trivial Imp.refl)
theorem zkU {s1:(List zd)}{r:(List zd)}  (h:zbk s1=some r):yh Tryz.prog 27 [rep s1] [] (yj) [some (zk 46 r)]:=by
 unfold zbk at h
 refine yh.i Tryz.func27 e Tryz.ntmps27 e (fun F=>(.sn mx (.c (.assign .none (.const (x:=([]:(List zd))) (fun M w=>⟨_,⟨none,0,rfl,Nat.le_refl _,by decide,rfl⟩,rfl⟩))) (.nil (.seq (.sn mx (.mv e (.c (.eqNil .none zY (.s e)) (.nil (.condNil (t:=4) e trivial (fun hb1=>?_) ?_))))))))))
 ·
  replace h:=zgv h hb1
  refine .sr [([],[2])] mx (.cW (.nilRow (T:=46) (α:=zd) e) (.nil (.nameRow (t:=2) (g:=5001) e e e (fun s5001=>(.ret (.thenRet (.anon (t:=2) (g:=5001) e e trivial e ?_)))))))
  obtain rfl:=za h
  exact zb.ret1O (.inl e) [2] Tryz.results27 (by decide) (.res e e) (zO.tmp e trivial (fun _ _ _ _=>trivial))
 ·
  replace h:=zgu h
  obtain⟨hn2,h⟩:=zr h
  obtain⟨v1,hv3,h⟩:=zh h
  refine .skip (.then (.sr [([],[5]),oo,([5],[7,5]),([7],[2,7])] mx (.cW (.buildSliceO (xs:=[]) e zY zw JD .nil e (by decide)) (.mvA e (.cW (.append (k:=5) za6 e (.tmp e) (.s e) hn2) (.cW (.passRow e (.tmp e)) (.nil (.reB (t:=2) e (congrArg (zk 46) hv3) (.nameRow (t:=2) (g:=5002) e e e (fun s5002=>(.ret (.anon (t:=2) (g:=5002) e e trivial e ?_))))))))))))
  obtain rfl:=za h
  exact zb.ret1O (.inl e) [2] Tryz.results27 (by decide) (.res e e) (zO.tmp e trivial (fun _ _ _ _=>trivial))
theorem zqk {d1:Doc}{clear1:Int}{r:(Doc×Int)}  (h:zeG d1 clear1=some r):zi Tryz.prog 4 [rep d1,rep clear1] (tup [rep r.1,rep r.2]):=by
 unfold zeG at h
 obtain⟨v1,hv1,h⟩:=zh h
 obtain⟨e1,hv2,h⟩:=bind_some h
 refine zi.i Tryz.func4 e Tryz.ntmps4 e (fun F=>(.sr [([],[2]),([],[4]),oo] mx (.cW (.boxO e (.s e)) (.al zlq e (.cA (.assign .none .i) (.nil (.reB (t:=4) e (congrArg (zE 25) hv1) (.nameBox (t:=2) (g:=5001) e e (fun m5001=>(.nameBox (t:=4) (g:=5002) e e (fun m5002=>(.seq (.sr [([5001],[]),oo,oo] mx (.cA (.loadAt0 (k:=5001) .none yz e (.s e)) (.cA (.call .none (zjN hv2) (.cons (.s e) .nil)) (.asnA e (.nil (.sn mx (.mv e (.nei e (.nil (.cb e h (fun _ h=>?_) fun _ h=>?_))))))))))))))))))))))
 ·
  obtain⟨v2,hv4,h⟩:=zh h
  refine .sr [oo,oo,([5002],[5002]),oo] mx (.cA (.re hv4 (.buildF (y:=(⟨([]:(List zm)),([]:(List zJ))⟩:Doc)) .none zbF zcX e .nil .nil)) (.mvA e (.s0 5002 yz e e e (.asnA e (.nil (.fb 5002 [4] e (.cons (t:=4) e trivial .nil) (.ret (.thenRet ?_))))))))
  obtain rfl:=za h
  exact zb.r2 Tryz.results4 yz e e
 ·
  refine .skip (.then (.seq (.sn mx (.mv e (.c (.lt .none (.s e) .i) (.mv e (.mg e e e (.c (.gt (.at e e) (.tmp e id) .i) (.po e e (.nil (.cb e h (fun _ h=>?_) fun _ h=>?_)))))))))))
  ·
   obtain⟨v3,hv6,h⟩:=zh h
   refine .sr [oo,([5002],[5002]),oo] mx (.cA (.re hv6 (.buildF (y:=(⟨([]:(List zm)),([]:(List zJ))⟩:Doc)) .none zbF zcX e .nil .nil)) (.s0 5002 yz e e e (.cA (.assign .none .i) (.nil (.fb 5002 [4] e (.cons (t:=4) e trivial .nil) (.ret (.thenRet ?_)))))))
   obtain rfl:=za h
   exact zb.r2 Tryz.results4 yz e e
  ·
   obtain⟨c1,hv7,h⟩:=zh h
   refine .skip (.then (.sr [([],[30]),([],[7]),([7,30],[7,30])] mx (.cW (.makeMap (K:=Str) (V:=zm) e) (.al zr6 e (.cN (.storeRow0M (k:=7) (t:=30) zlf e e e zjL e) (.nil (.nameAt (t:=7) (g:=5003) e e (Yn fun _=>Ym) e (fun m5003=>(.open (k:=5003) (g:=5004) e e (fun s5004=>(.sr [([],[8])] mx (.cW (.nilRow (T:=30) (α:=Box) e) (.nil (.reB (t:=5004) e (congrArg (fun y=>zf.at s5004 (yH y)) hv7) (.nameRow (t:=8) (g:=5005) e e e (fun s5005=>(.seq (.sr [oo,([5001],[]),oo,oo] mx (.cA (.fieldPtr .none yB (.s e)) (.cA (.loadAt (k:=5001) .none yE e (.s e) yF) (.cA (.len .none z7 (.s e)) (.cA (.move .none .i) (.nil ?_)))))))))))))))))))))))
   obtain⟨j_8,h,hK8⟩:=bind_some h
   refine .thenJ (ι:=((List Box)×(GMap Str zm))) (fun j_8=>[]) (fun j_8=>[(8,some (zk 30 j_8.1)),(5004,some (zf.at s5004 (yH j_8.2)))]) (fun s=>j_8=s) (.k4 1 2 4 7 e e e e .nil) (.k2 5001 5002 e e (.k 5003 e .nil)) ?_ (fun j_8' hj8=>?_)
   ·
    refine .block (.anon (t:=8) (g:=5005) e e trivial e (.rforL h (fun p9_=>[(34,⟨True,rep p9_.1⟩)]) (fun p9_=>[(8,some (zk 30 p9_.2.1)),(5004,some (zf.at s5004 (yH p9_.2.2)))]) (.k 34 e .nil) (.k2 8 5004 e e .nil) (.k4 1 2 4 7 e e e e (.k2 32 33 e e .nil)) (.k2 5001 5002 e e (.k 5003 e .nil)) (fun p9_ o_9 h hD9=>(.nameRow (t:=8) (g:=5006) e e e (fun s5006=>(.sn mx (.lt e e (.nil (.seq (.cb e h (fun _ h=>?_) fun _ h=>?_))))))))))
    ·
     refine .skip (.then (.seq ?_))
     obtain⟨j_11,h,hK11⟩:=bind_some h
     unfold zcy at h
     refine .thenJ (ι:=((List Box)×(GMap Str zm))) (fun j_11=>[]) (fun j_11=>[(8,some (zk 30 j_11.1)),(5004,some (zf.at s5004 (yH j_11.2)))]) (fun s=>j_11=s) (.k4 1 2 4 7 e e e e (.k2 32 33 e e (.k 34 e .nil))) (.k2 5001 5002 e e (.k 5003 e .nil)) ?_ (fun j_11' hj11=>?_)
     ·
      obtain⟨hn12,h⟩:=zr h
      obtain⟨v4,hv13,h⟩:=zh h
      obtain⟨c2,hv14,h⟩:=zh h
      refine .block (.sr [oo,oo,([],[10]),([10],[10])] mx (.ixA z7 zR e e hn12 (.rlA hv13 zR e (.al qL e (.st zR e e e (.nil (.freeze (t:=10) e e (.k2 5001 5002 e e (.k2 5003 5004 e e (.k 5006 e .nil))) e (.sr [([5003],[]),oo,oo,oo,([5004],[5004])] mx (.cA (.loadAt0 (k:=5003) .none zrE e (.s e)) (.faA jt jk e (.ldA ty9 e (.ldA zR e (.cN (.mapUpdate (q:=5004) zjy (.s e) e (.s e) (.s e)) (.nil (.reB (t:=5004) e (congrArg (fun y=>zf.at s5004 (yH y)) hv14) (.sn mx (.fa jc qZ e (.ld ty3 e (.nei e (.nil (.cb e h (fun _ h=>?_) fun _ h=>?_)))))))))))))))))))))
      ·
       obtain⟨hn16,h⟩:=zr h
       exact .rg [oo,oo,oo,oo,([5006],[49,5006]),([49],[8,49])] mx (.mvA e (.faA QD Qj e (.ldA zK e (.cA (.buildSlice (xs:=[_]) .none y5 zK zdF (.cons (.s e) .nil) e (by decide)) (.cW (.append (k:=5006) zeE e (.told (.s e) e) (.s e) hn16) (.cW (.passRow e (.tmp e)) (.nil (.blkNormal (zb.j _ (za h))))))))))
      ·
       exact .skip (.blkNormal (.anon (t:=8) (g:=5006) e e trivial e (zb.j _ (za h))))
     ·
      subst hj11;have h:=hK11;clear hK11
      exact .nameRow (t:=8) (g:=5007) e e e (fun s5007=>(.rn mx (.adi e (.mv e (.nil (.anon (t:=8) (g:=5007) e e trivial e (zb.ag (za h))))))))
    ·
     refine .exit (.thenExit (.thenExit (.blkExit (.anon (t:=8) (g:=5006) e e trivial e ?_))))
     replace h:=hD9 _ (za h)
     exact zb.j _ (za h)
   ·
    subst hj8;have h:=hK8;clear hK8
    refine .freezeRowA (t:=8) e e (.k2 5001 5002 e e (.k2 5003 5004 e e .nil)) e (.close (k:=5003) (g:=5004) (fun z=>zE 60 (⟨z⟩:Raw)) e e e (.freezeAt (g:=5003) (S:=ref (j_8.2:(GMap Str zm))) (ts:=[7]) e (.cons (t:=7) e trivial .nil) (.k2 5001 5002 e e .nil) e (fun M D w h hms=>zfA (mk:=(fun s1_=>(⟨s1_⟩:Raw))) (y:=(j_8.2:(GMap Str zm))) ziV e (fun M s1_ cs w hc g1=>zoJ hc g1) M D w h hms) (.seq (.sn mx (.mv e (.ln y5 e (.c (.gt .none (.s e) .i) (.nil (.cb e h (fun _ h=>?_) fun _ h=>?_)))))))))
    ·
     obtain⟨v5,hv18,h⟩:=zh h
     refine .sr [oo,([5002],[5002]),oo] mx (.cA (.re hv18 (.buildF (y:=(⟨([]:(List zm)),([]:(List zJ))⟩:Doc)) .none zbF zcX e .nil .nil)) (.s0 5002 yz e e e (.cA (.assign .none .i) (.nil (.fb 5002 [4] e (.cons (t:=4) e trivial .nil) (.ret (.thenRet ?_)))))))
     obtain rfl:=za h
     exact zb.r2 Tryz.results4 yz e e
    ·
     refine .skip (.then (.sn mx (.c (.makeFunc (ι:=yx×zd) (pre:=fun i=>(fun x0=>JZ x0 j_8.2) i.1=some i.2) (Ss:=fun i=>[rep i.1]) (S:=fun i=>rep i.2) .none znt (fun i h=>zqj h) (.cons (.s e) .nil)) ?_)))
     obtain⟨r1,hv19,h⟩:=bind_some h
     obtain⟨r2,hv20,h⟩:=bind_some h
     refine .asn e (.nil (.sr [oo,([5001],[]),oo,oo,([5001],[]),([],[61]),oo,([5001],[5001]),oo,([5001,61],[5001,61])] mx (.cA (.fieldPtr .none yB (.s e)) (.cA (.loadAt (k:=5001) .none yE e (.s e) yF) (.cA (.call .none (zq8 hv19).frz (.cons (.s e) .nil)) (.cA (.fieldPtr .none ji (.s e)) (.cA (.loadAt (k:=5001) .none jJ e (.s e) jT) (.cW (.cO [] (zq7 hv20) (.cons (.s e) .nil) .nil e) (.cA (.fieldPtr .none yB (.s e)) (.cN (.storeAt (g:=5001) yE e (.s e) zqU (.s e)) (.cA (.fieldPtr .none ji (.s e)) (.cN (.storeRowF (k:=5001) (t:=61) (off:=1) (set:=fun s=>(⟨({ d1 with Nodes:=r1 }).Nodes,⟨s⟩⟩:YE)) jJ e (.s e) (by decide) (fun M s cs w hc hs=>by obtain⟨c0,q0,e0,h0,h1⟩:=hc;obtain⟨v,_,hv⟩:=zft e e h1;exact zrn.2 M (⟨({ d1 with Nodes:=r1 }).Nodes,⟨v⟩⟩:YE) ⟨s⟩ cs [s] w ⟨c0,q0,e0,h0,hv⟩ hs) e e) (.nil (.open (k:=5001) (g:=5008) e e (fun s5008=>(.seq (.sr [oo,([5001],[]),([5008],[]),oo] mx (.cA (.fieldPtr .none ji (.s e)) (.cA (.loadAt (k:=5001) .none zk9 e (.s e) zi4) (.cA (.lenO (k:=5008) qk (.told (.s e) e)) (.cA (.move .none .i) (.nil ?_))))))))))))))))))))))
     obtain⟨j_21,h,hK21⟩:=bind_some h
     refine .thenJ (ι:=(List zJ)) (fun j_21=>[]) (fun j_21=>[(5008,some (zf.at s5008 (zk 44 j_21)))]) (fun s=>j_21=s) (.k2 2 4 e e (.k 65 e .nil)) (.k2 5001 5002 e e .nil) ?_ (fun j_21' hj21=>?_)
     ·
      refine .block (.rforL h (fun p22_=>[(67,⟨True,rep p22_.1⟩)]) (fun p22_=>[(5008,some (zf.at s5008 (zk 44 p22_.2)))]) (.k 67 e .nil) (.k 5008 e .nil) (.k4 1 2 4 7 e e e e (.k4 8 11 65 66 e e e e .nil)) (.k2 5001 5002 e e .nil) (fun p22_ o_22 h hD22=>(.sn mx (.lt e e (.nil (.seq (.cb e h (fun _ h=>?_) fun _ h=>?_)))))))
      ·
       refine .skip (.then (.seq ?_))
       obtain⟨j_24,h,hK24⟩:=bind_some h
       unfold za8 at h
       refine .thenJ (ι:=(List zJ)) (fun j_24=>[]) (fun j_24=>[(5008,some (zf.at s5008 (zk 44 j_24)))]) (fun s=>j_24=s) (.k4 1 2 4 7 e e e e (.k4 8 11 65 66 e e e e (.k 67 e .nil))) (.k2 5001 5002 e e .nil) ?_ (fun j_24' hj24=>?_)
       ·
        obtain⟨hn25,h⟩:=zr h
        obtain⟨v6,hv26,h⟩:=zh h
        obtain⟨r3,hv27,h⟩:=bind_some h
        obtain⟨r4,hv28,h⟩:=bind_some h
        obtain⟨r5,hv29,h⟩:=bind_some h
        refine .block (.sr [oo,([5008],[]),([5008],[]),([],[13]),oo,([13],[13])] mx (.mvA e (.ixO 5008 qk yP e e e hn25 (.cA (.re hv26 (.loadElem0 (k:=5008) .none yP (.s e) e (fun _=>hn25))) (.al zae e (.asnA e (.st yP e e e (.nil (.freeze (t:=13) e e (.k2 5001 5002 e e (.k 5008 e .nil)) e (.sn mx (.mv e (.fa Yd Yk e (.ld qJ e (.c (.callV (v6.From,r3) .none (.s e) (fun _=>hv27) (.cons (.s e) .nil)) (.fa Yd Yk e (.fa Yb QI e (.ld ty3 e (.mv e (.fa Ye Yl e (.ld qJ e (.c (.callV (v6.To,r4) .none (.s e) (fun _=>hv28) (.cons (.s e) .nil)) (.fa Ye Yl e (.fa Yb QI e (.ld ty3 e (.mv e (.mv e (.c (.buildF (y:=(⟨r3,v6.From.Side,r4,v6.To.Side,j_8.1,clear1⟩:zA)) .none zdd zhG e (.cons (.s e) (.cons (.s e) (.cons (.s e) (.cons (.s e) (.cons (.s e) (.cons (.s e) .nil)))))) (.cons e zqV (.cons e zkL (.cons e zkM (.cons e zkN (.cons e zqW (.cons e zkO .nil))))))) (.c (.call .none (zql hv29) (.cons (.s e) .nil)) (.mv e (.ex e e (.ex e e (.asn e (.asn e (.nil (.sn mx (.fa vp Qk e (.ld vA e (.asn e (.nil (.seq (.sn mx (.mv e (.eqi e (.mv e (.mg e e e (.c (.len (.at e e) zY (.tmp e id)) (.c (.subW (.at e e) (.tmp e id) .i) (.c (.le (.at e e) (.tmp e id) .i) (.pa e e (.nil ?_))))))))))))))))))))))))))))))))))))))))))))))))))
        obtain⟨j_30,h,hK30⟩:=bind_some h
        refine .thenJ (ι:=(List zd)) (fun j_30=>[(16,⟨True,rep j_30⟩)]) (fun j_30=>[]) (fun s=>j_30=s) (.k4 1 2 4 7 e e e e (.k4 8 11 12 65 e e e e (.k2 66 67 e e .nil))) (.k2 5001 5002 e e (.k 5008 e .nil)) ?_ (fun j_30' hj30=>?_)
        ·
         refine .cb e h (fun _ h=>?_) fun _ h=>?_
         ·
          obtain⟨hn32,h⟩:=zr h
          exact .rn mx (.mv e (.mv e (.ln zY e (.c (.subW .none (.s e) .i) (.c (.slice .none zY zw (.s e) .i (.s e) (fun _=>hn32)) (.asn e (.nil (zb.j _ (za h)))))))))
         ·
          exact .skip (zb.j _ (za h))
        ·
         subst hj30;have h:=hK30;clear hK30
         obtain⟨r6,hv33,h⟩:=bind_some h
         obtain⟨hn34,h⟩:=zr h
         exact .rg [oo,([5001],[]),oo,oo,oo,([5008],[]),([5008],[]),([5008],[5008])] mx (.cA (.fieldPtr .none ji (.s e)) (.cA (.loadAt (k:=5001) .none zk9 e (.s e) zi4) (.mvA e (.mvA e (.cA (.call .none (zkU hv33).frz (.cons (.s e) .nil)) (.ixO 5008 qk yP e e e hn34 (.fe 5008 vp e e hn34 (.cN (.storeElem (k:=5008) vA (.s e) e zkK (.s e) hn34) (.nil (.blkNormal (zb.j _ (za h))))))))))))
       ·
        subst hj24;have h:=hK24;clear hK24
        exact .rn mx (.adi e (.mv e (.nil (zb.ag (za h)))))
      ·
       refine .exit (.thenExit (.thenExit (.blkExit ?_)))
       replace h:=hD22 _ (za h)
       exact zb.j _ (za h)
     ·
      subst hj21;have h:=hK21;clear hK21
      refine .close (k:=5001) (g:=5008) (fun z=>zE 25 (⟨({ d1 with Nodes:=r1 }).Nodes,⟨z⟩⟩:YE)) e e e (.freezeAt (g:=5001) (S:=ref ({ { d1 with Nodes:=r1 }with Edges:=j_21 }:Doc)) (ts:=[2]) e (.cons (t:=2) e trivial .nil) (.k 5002 e .nil) e (fun M D w h hms=>zfA (mk:=(fun s1_=>(⟨({ d1 with Nodes:=r1 }).Nodes,⟨s1_⟩⟩:YE))) (y:=({ { d1 with Nodes:=r1 }with Edges:=j_21 }:Doc)) zdr e (fun M s1_ cs w hc g1=>by obtain⟨c0,q0,e0,h0,h1⟩:=hc;exact⟨c0,q0,e0,h0,zaN e e h1 g1⟩) M D w h hms) ?_)
      obtain⟨v7,hv35,h⟩:=zh h
      refine .sr [oo,([5002],[5002]),oo] mx (.rlA hv35 yz e (.s0 5002 yz e e e (.cA (.assign .none .i) (.nil (.fb 5002 [4] e (.cons (t:=4) e trivial .nil) (.ret ?_))))))
      obtain rfl:=za h
      exact zb.r2 Tryz.results4 yz e e
theorem zpW {m1:zm}{c0_1:zm}{r:Bool}  (h:zcv m1 c0_1=some r):zi Tryz.prog 71 [rep m1,ref c0_1] (rep r):=by
 unfold zcv at h
 refine zi.i Tryz.func71 e Tryz.ntmps71 e (fun F=>(.sn mx (.c (.box .none (.s e)) (.asb (.nil (.sn mx (.fa jt jk e (.ld ty9 e (.fa jt jk e (.ld ty9 e (.c (.eqS .none (qP Tryz.underlying9) (.s e) (.s e)) (.asn e (.nil (.ret ?_))))))))))))))
 obtain rfl:=za h
 exact zb.rt Tryz.results71 e
theorem zkW {s1:(List zm)}{f1:(zm→Option Bool)}{r:Int}  (h:zbm s1 f1=some r):zi Tryz.prog 119 [rep s1,fn1 Tryz.prog (rep (α:=Bool)) f1] (rep r):=by
 unfold zbm at h
 refine zi.i Tryz.func119 e Tryz.ntmps119 e (fun F=>(.sn mx (.asi (.nil (.seq (.sn mx (.mv e (.ln z7 e (.mvi (.nil ?_))))))))))
 obtain⟨o_1,h,hK1⟩:=ym h
 refine .tJ (fun s=>o_1=Res.nx s) Sub.nil ze.nil ?_ (fun j_1 hj1=>?_)
 ·
  refine .block (.rforEL h (fun p2_=>[(8,⟨True,rep p2_.1⟩)]) (fun p2_=>[]) (.k 8 e .nil) ze.nil (.k2 0 1 e e (.k 7 e .nil)) ze.nil (fun p2_ o_2 h hD2=>(.sn mx (.lt e e (.nil (.seq (.cb e h (fun _ h=>?_) fun _ h=>?_)))))))
  ·
   refine .skip (.then (.seq ?_))
   obtain⟨o_4,h,hK4⟩:=yK h
   unfold zhq at h
   refine .tJ (fun s=>o_4=Res.nx s) (.k4 0 1 7 8 e e e e .nil) ze.nil ?_ (fun j_4 hj4=>?_)
   ·
    obtain⟨hn5,h⟩:=zr h
    obtain⟨r1,hv6,h⟩:=bind_some h
    refine .block (.sn mx (.mv e (.asn e (.nil (.sn mx (.mv e (.mv e (.mv e (.ix z7 zR e e hn5 (.ld zR e (.c (.callV (gx s1 p2_.1,r1) .none (.s e) (fun _=>hv6) (.cons (.s e) .nil)) (.nil (.cb e h (fun _ h=>?_) fun _ h=>?_)))))))))))))
    ·
     refine .sn mx (.mv e (.asn e (.nil (.ret (.blkRet (.thenRet (.thenRet (.blkRet (.thenRet ?_)))))))))
     replace h:=yD hK4 (za h)
     replace h:=hD2 _ (za h)
     replace h:=z6 hK1 (za h)
     obtain rfl:=za h
     exact zb.rt Tryz.results119 e
    ·
     exact .skip (.blkNormal (zb.j _ (za h)))
   ·
    have h:=yN hK4 hj4
    exact .rn mx (.adi e (.mv e (.nil (zb.ag (za h)))))
  ·
   refine .exit (.thenExit (.thenExit (.blkExit ?_)))
   replace h:=hD2 _ (za h)
   exact zb.j _ (za h)
 ·
  have h:=yo hK1 hj1
  refine .sn mx (.asi (.nil (.ret ?_)))
  obtain rfl:=za h
  exact zb.rt Tryz.results119 e
theorem zrb {s1:(List zm)}{f1:(zm→Option Bool)}{r:Bool}  (h:zcP s1 f1=some r):zi Tryz.prog 70 [rep s1,fn1 Tryz.prog (rep (α:=Bool)) f1] (rep r):=by
 unfold zcP at h
 obtain⟨r1,hv1,h⟩:=bind_some h
 refine zi.i Tryz.func70 e Tryz.ntmps70 e (fun F=>(.sn mx (.asb (.nil (.sn mx (.mv e (.mv e (.c (.call .none (zkW hv1) (.cons (.s e) (.cons (.s e) .nil))) (.c (.ge .none (.s e) .i) (.asn e (.nil (.ret ?_))))))))))))
 obtain rfl:=za h
 exact zb.rt Tryz.results70 e
theorem zgH {s1:Str}{r:Bool}  (h:Y2 s1=some r):zi Tryz.prog 72 [rep s1] (rep r):=by
 unfold Y2 at h
 refine zi.i Tryz.func72 e Tryz.ntmps72 e (fun F=>(.sn mx (.asb (.nil (.seq (.sn mx (.mv e (.c (.lenStr .none Tryz.underlying9 (.s e)) (.mvi (.nil ?_))))))))))
 obtain⟨o_1,h,hK1⟩:=ym h
 refine .tJ (fun s=>o_1=Res.nx s) (.k 0 e .nil) ze.nil ?_ (fun j_1 hj1=>?_)
 ·
  refine .block (.rforEL h (fun p2_=>[(7,⟨True,rep p2_.1⟩)]) (fun p2_=>[]) (.k 7 e .nil) ze.nil (.k2 0 6 e e .nil) ze.nil (fun p2_ o_2 h hD2=>(.sn mx (.lt e e (.nil (.seq (.cb e h (fun _ h=>?_) fun _ h=>?_)))))))
  ·
   refine .skip (.then (.seq ?_))
   obtain⟨o_4,h,hK4⟩:=yK h
   unfold zen at h
   refine .tJ (fun s=>o_4=Res.nx s) (.k2 0 6 e e (.k 7 e .nil)) ze.nil ?_ (fun j_4 hj4=>?_)
   ·
    obtain⟨hn5,h⟩:=zr h
    obtain⟨c1,hv6,h⟩:=zh h
    refine .block (.sn mx (.mv e (.asn e (.nil (.sn mx (.mv e (.mv e (.c (.indexStr .none Tryz.underlying9 (.s e) (.s e) (fun _=>hn5)) (.ra hv6 e (.nil (.sn mx (.mv e (.c (.kgeq .none (.s e) .ki) (.mv e (.mg e e e (.c (.kleq (.at e e) (.tmp e id) .ki) (.pa e e (.c (.not .none (.s e)) (.mv e (.mg e e e (.c (.eqI (.at e e) (.tmp e id) .i) (.c (.move (.at e e) (.tmp e id)) (.mg e e e (.c (.kgeq (.at e e) (.tmp e id) .ki) (.c (.move (.at e e) (.tmp e id)) (.mg e e e (.c (.kleq (.at e e) (.tmp e id) .ki) (.c (.pickAnd (.at e e) (.tmp e id) (.tmp e id)) (.c (.not (.at e e) (.tmp e id)) (.c (.move (.at e e) (.tmp e id)) (.mg e e e (.c (.kneq (.at e e) (.tmp e id) .ki) (.c (.pickAnd (.at e e) (.tmp e id) (.tmp e id)) (.c (.pickOr (.at e e) (.tmp e id) (.tmp e id)) (.pa e e (.nil (.cb e h (fun _ h=>?_) fun _ h=>?_)))))))))))))))))))))))))))))))))))))
    ·
     refine .sn mx (.asb (.nil (.ret (.blkRet (.thenRet (.thenRet (.blkRet (.thenRet ?_))))))))
     replace h:=yD hK4 (za h)
     replace h:=hD2 _ (za h)
     replace h:=z6 hK1 (za h)
     obtain rfl:=za h
     exact zb.rt Tryz.results72 e
    ·
     exact .skip (.blkNormal (zb.j _ (za h)))
   ·
    have h:=yN hK4 hj4
    exact .rn mx (.adi e (.mv e (.nil (zb.ag (za h)))))
  ·
   refine .exit (.thenExit (.thenExit (.blkExit ?_)))
   replace h:=hD2 _ (za h)
   exact zb.j _ (za h)
 ·
  have h:=yo hK1 hj1
  refine .sn mx (.mv e (.c (.neS .none (qP Tryz.underlying9) (.s e) (.str (l:=[]) (by decide))) (.mv e (.mg e e e (.c (.lenStr (.at e e) Tryz.underlying9 (.tmp e id)) (.c (.le (.at e e) (.tmp e id) .i) (.pa e e (.asn e (.nil (.ret ?_))))))))))
  obtain rfl:=za h
  exact zb.rt Tryz.results72 e
theorem jw {is1:Bool}{e1:Int}{r:Int}  (h:qH is1 e1=some r):zi Tryz.prog 7 [rep is1,rep e1] (rep r):=by
 unfold qH at h
 refine zi.i Tryz.func7 e Tryz.ntmps7 e (fun F=>(.sn mx (.asi (.nil (.seq (.sn mx (.mv e (.nil (.cb e h (fun _ h=>?_) fun _ h=>?_)))))))))
 ·
  refine .sn mx (.mv e (.asn e (.nil (.ret (.thenRet ?_)))))
  obtain rfl:=za h
  exact zb.rt Tryz.results7 e
 ·
  refine .skip (.then (.sn mx (.asi (.nil (.ret ?_)))))
  obtain rfl:=za h
  exact zb.rt Tryz.results7 e
theorem vw {n1:Int}{low1:Int}{high1:Int}{r:Bool}  (h:q6 n1 low1 high1=some r):zi Tryz.prog 8 [rep n1,rep low1,rep high1] (rep r):=by
 unfold q6 at h
 refine zi.i Tryz.func8 e Tryz.ntmps8 e (fun F=>(.sn mx (.asb (.nil (.sn mx (.mv e (.mv e (.c (.ge .none (.s e) (.s e)) (.mv e (.mg e e e (.mg e e e (.c (.le (.at e e) (.tmp e id) (.tmp e id)) (.pa e e (.asn e (.nil (.ret ?_))))))))))))))))
 obtain rfl:=za h
 exact zb.rt Tryz.results8 e
theorem QP {l1:(List Int)}{r:Int}  (h:q5 l1=some r):zi Tryz.prog 5 [rep l1] (rep r):=by
 unfold q5 at h
 refine zi.i Tryz.func5 e Tryz.ntmps5 e (fun F=>(.sn mx (.asi (.nil (.seq (.sn mx (.mv e (.ln vV e (.mvi (.nil ?_))))))))))
 obtain⟨o_1,h,hK1⟩:=ym h
 refine .tJ (fun s=>o_1=Res.nx s) Sub.nil ze.nil ?_ (fun j_1 hj1=>?_)
 ·
  refine .block (.rforEL h (fun p2_=>[(7,⟨True,rep p2_.1⟩)]) (fun p2_=>[]) (.k 7 e .nil) ze.nil (.k2 5 6 e e .nil) ze.nil (fun p2_ o_2 h hD2=>(.sn mx (.lt e e (.nil (.seq (.cb e h (fun _ h=>?_) fun _ h=>?_)))))))
  ·
   refine .skip (.then (.seq ?_))
   obtain⟨o_4,h,hK4⟩:=yK h
   unfold zgG at h
   refine .tJ (fun s=>o_4=Res.nx s) (.k2 5 6 e e (.k 7 e .nil)) ze.nil ?_ (fun j_4 hj4=>?_)
   ·
    obtain⟨hn5,h⟩:=zr h
    obtain⟨e1,hv6,h⟩:=zh h
    refine .block (.sn mx (.ix vV vY e e hn5 (.ld vY e (.ra hv6 e (.nil (.sn mx (.mv e (.nei e (.nil (.cb e h (fun _ h=>?_) fun _ h=>?_))))))))))
    ·
     refine .sn mx (.mv e (.asn e (.nil (.ret (.blkRet (.thenRet (.thenRet (.blkRet (.thenRet ?_)))))))))
     replace h:=yD hK4 (za h)
     replace h:=hD2 _ (za h)
     replace h:=z6 hK1 (za h)
     obtain rfl:=za h
     exact zb.rt Tryz.results5 e
    ·
     exact .skip (.blkNormal (zb.j _ (za h)))
   ·
    have h:=yN hK4 hj4
    exact .rn mx (.adi e (.mv e (.nil (zb.ag (za h)))))
  ·
   refine .exit (.thenExit (.thenExit (.blkExit ?_)))
   replace h:=hD2 _ (za h)
   exact zb.j _ (za h)
 ·
  have h:=yo hK1 hj1
  refine .sn mx (.asi (.nil (.ret ?_)))
  obtain rfl:=za h
  exact zb.rt Tryz.results5 e
theorem zaV {p1:zd}{r:Int}  (h:QS p1=some r):zi Tryz.prog 34 [rep p1] (rep r):=by
 unfold QS at h
 obtain⟨r1,hv1,h⟩:=bind_some h
 obtain⟨r2,hv2,h⟩:=bind_some h
 refine zi.i Tryz.func34 e Tryz.ntmps34 e (fun F=>(.sn mx (.c (.box .none (.s e)) (.asi (.nil (.sn mx (.fa yt yu e (.ld ty3 e (.c (.call .none (vw hv1) (.cons (.s e) (.cons .i (.cons .i .nil)))) (.c (.not .none (.s e)) (.mv e (.fg yV yW e e e (.lg ty3 e e e (.c (.callIf (.at e e) zdq (fun hg=>vw ((fun hg=>yC hv2 ((qD hg.2))) hg)) (.cons (.tmp e id) (.cons .i (.cons .i .nil))) (fun h=>h)) ?_))))))))))))))
 obtain⟨r3,hv3,h⟩:=bind_some h
 refine .c (.not (.at e e) (.tmp e id)) (.po e e (.c (.call .none (jw hv3) (.cons (.s e) (.cons .i .nil))) (.asn e (.nil (.ret ?_)))))
 obtain rfl:=za h
 exact zb.rt Tryz.results34 e
theorem zgE {b1:Box}{r:Int}  (h:Yu b1=some r):zi Tryz.prog 73 [rep b1] (rep r):=by
 unfold Yu at h
 obtain⟨r1,hv1,h⟩:=bind_some h
 obtain⟨r2,hv2,h⟩:=bind_some h
 obtain⟨r3,hv3,h⟩:=bind_some h
 refine zi.i Tryz.func73 e Tryz.ntmps73 e (fun F=>(.sn mx (.c (.box .none (.s e)) (.asi (.nil (.sn mx (.fa qf y7 e (.ld ty3 e (.fa qg y8 e (.ld ty3 e (.c (.buildF (y:=(⟨b1.X,b1.Y⟩:zd)) .none qe qh e (.cons (.s e) (.cons (.s e) .nil)) (.cons e qS (.cons e qV .nil))) (.c (.call .none (zaV hv1) (.cons (.s e) .nil)) (.fa yQ yL e (.ld ty3 e (.c (.call .none (vw hv2) (.cons (.s e) (.cons .i (.cons .i .nil)))) (.c (.not .none (.s e)) (.mv e (.fg yU yR e e e (.lg ty3 e e e (.c (.callIf (.at e e) zdq (fun hg=>vw ((fun hg=>yC hv3 ((qD hg.2))) hg)) (.cons (.tmp e id) (.cons .i (.cons .i .nil))) (fun h=>h)) ?_))))))))))))))))))))
 obtain⟨r4,hv4,h⟩:=bind_some h
 obtain⟨r5,hv5,h⟩:=bind_some h
 refine .c (.not (.at e e) (.tmp e id)) (.po e e (.c (.call .none (jw hv4) (.cons (.s e) (.cons .i .nil))) (.c (.buildSlice (xs:=[_,_]) .none vV vY QJ (.cons (.s e) (.cons (.s e) .nil)) e (by decide)) (.c (.call .none (QP hv5) (.cons (.s e) .nil)) (.asn e (.nil (.ret ?_)))))))
 obtain rfl:=za h
 exact zb.rt Tryz.results73 e
theorem zka {s1:Str}{r:Int}  (h:JR s1=some r):zi Tryz.prog 74 [rep s1] (rep r):=by
 unfold JR at h
 obtain⟨r1,hv1,h⟩:=bind_some h
 obtain⟨bad1,hv2,h⟩:=zh h
 refine zi.i Tryz.func74 e Tryz.ntmps74 e (fun F=>(.sn mx (.asi (.nil (.sn mx (.mv e (.c (.call .none (zlg hv1) (.cons (.s e) .nil)) (.c (.not .none (.s e)) (.ra hv2 e (.nil (.seq (.sn mx (.mv e (.c (.lenStr .none Tryz.underlying9 (.s e)) (.mvi (.nil ?_))))))))))))))))
 obtain⟨j_3,h,hK3⟩:=bind_some h
 refine .thenJ (ι:=Bool) (fun j_3=>[(3,⟨True,rep j_3⟩)]) (fun j_3=>[]) (fun s=>j_3=s) (.k 0 e .nil) ze.nil ?_ (fun j_3' hj3=>?_)
 ·
  refine .block (.rforL h (fun p4_=>[(10,⟨True,rep p4_.1⟩),(3,⟨True,rep p4_.2⟩)]) (fun p4_=>[]) (.k2 10 3 e e .nil) ze.nil (.k2 0 9 e e .nil) ze.nil (fun p4_ o_4 h hD4=>(.sn mx (.lt e e (.nil (.seq (.cb e h (fun _ h=>?_) fun _ h=>?_)))))))
  ·
   refine .skip (.then (.seq ?_))
   obtain⟨j_6,h,hK6⟩:=bind_some h
   unfold zgK at h
   refine .thenJ (ι:=Bool) (fun j_6=>[(3,⟨True,rep j_6⟩)]) (fun j_6=>[]) (fun s=>j_6=s) (.k2 0 9 e e (.k 10 e .nil)) ze.nil ?_ (fun j_6' hj6=>?_)
   ·
    obtain⟨hn7,h⟩:=zr h
    obtain⟨hn8,h⟩:=zr h
    obtain⟨hn9,h⟩:=zr h
    obtain⟨bad2,hv10,h⟩:=zh h
    exact .block (.sn mx (.mv e (.asn e (.nil (.rn mx (.mv e (.mv e (.mg e e e (.mg e e e (.c (.indexStr (.at e e) Tryz.underlying9 (.tmp e id) (.tmp e id) (fun hg=>hn7 hg.2)) (.c (.klss (.at e e) (.tmp e id) .ki) (.c (.move (.at e e) (.tmp e id)) (.mg e e e (.mg e e e (.c (.indexStr (.at e e) Tryz.underlying9 (.tmp e id) (.tmp e id) (fun hg=>hn8 hg.1.2 hg.2)) (.c (.kneq (.at e e) (.tmp e id) .ki) (.c (.pickAnd (.at e e) (.tmp e id) (.tmp e id)) (.po e e (.mv e (.mg e e e (.mg e e e (.c (.indexStr (.at e e) Tryz.underlying9 (.tmp e id) (.tmp e id) (fun hg=>hn9 hg.2)) (.c (.keql (.at e e) (.tmp e id) .ki) (.po e e (.ra hv10 e (.nil (.blkNormal (zb.j _ (za h)))))))))))))))))))))))))))))
   ·
    subst hj6;have h:=hK6;clear hK6
    exact .rn mx (.adi e (.mv e (.nil (zb.ag (za h)))))
  ·
   refine .exit (.thenExit (.thenExit (.blkExit ?_)))
   replace h:=hD4 _ (za h)
   exact zb.j _ (za h)
 ·
  subst hj3;have h:=hK3;clear hK3
  obtain⟨r2,hv11,h⟩:=bind_some h
  obtain⟨r3,hv12,h⟩:=bind_some h
  obtain⟨r4,hv13,h⟩:=bind_some h
  refine .sn mx (.mv e (.c (.lenStr .none Tryz.underlying9 (.s e)) (.c (.gt .none (.s e) .i) (.c (.call .none (jw hv11) (.cons (.s e) (.cons .i .nil))) (.mv e (.c (.call .none (jw hv12) (.cons (.s e) (.cons .i .nil))) (.c (.buildSlice (xs:=[_,_]) .none vV vY QJ (.cons (.s e) (.cons (.s e) .nil)) e (by decide)) (.c (.call .none (QP hv13) (.cons (.s e) .nil)) (.asn e (.nil (.ret ?_)))))))))))
  obtain rfl:=za h
  exact zb.rt Tryz.results74 e
theorem zkc {s1:Str}{r:Int}  (h:JT s1=some r):zi Tryz.prog 75 [rep s1] (rep r):=by
 unfold JT at h
 obtain⟨r1,hv1,h⟩:=bind_some h
 refine zi.i Tryz.func75 e Tryz.ntmps75 e (fun F=>(.sn mx (.asi (.nil (.sn mx (.mv e (.c (.neS .none (qP Tryz.underlying9) (.s e) (.str (l:=[]) (by decide))) (.mv e (.mg e e e (.c (.callIf (.at e e) znG (fun hg=>zgH ((fun hg=>yC hv1 (hg.2)) hg)) (.cons (.tmp e id) .nil) (fun h=>h)) ?_))))))))))
 obtain⟨r2,hv2,h⟩:=bind_some h
 refine .c (.not (.at e e) (.tmp e id)) (.pa e e (.c (.call .none (jw hv2) (.cons (.s e) (.cons .i .nil))) (.asn e (.nil (.ret ?_)))))
 obtain rfl:=za h
 exact zb.rt Tryz.results75 e
theorem zpX {d1:Doc}{i1:Int}{r:Int}  (h:zcu d1 i1=some r):zi Tryz.prog 28 [rep d1,rep i1] (rep r):=by
 unfold zcu at h
 obtain⟨hn1,h⟩:=zr h
 obtain⟨v1,hv2,h⟩:=zh h
 obtain⟨hn3,h⟩:=zr h
 refine zi.i Tryz.func28 e Tryz.ntmps28 e (fun F=>(.sn mx (.c (.box .none (.s e)) (.asi (.nil (.sr [oo,oo,oo,oo,oo,([],[5]),([5],[5])] mx (.faA yB yF e (.ldA yE e (.mvA e (.ixA z7 zR e e hn1 (.rlA hv2 zR e (.al qL e (.st zR e e e (.nil (.freeze (t:=5) e e ze.nil e (.sn mx (.fa yB yF e (.ld yE e (.mv e (.c (.slice .none z7 zR (.s e) e (.s e) (fun _=>hn3)) (.c (.makeFunc (ι:=zm×Bool) (pre:=fun i=>(fun x0=>zcv x0 v1) i.1=some i.2) (Ss:=fun i=>[rep i.1]) (S:=fun i=>rep i.2) .none znF (fun i h=>zpW h) (.cons (.s e) .nil)) ?_)))))))))))))))))))))
 obtain⟨twice1,hv4,h⟩:=bind_some h
 obtain⟨r1,hv5,h⟩:=bind_some h
 obtain⟨r2,hv6,h⟩:=bind_some h
 obtain⟨r3,hv7,h⟩:=bind_some h
 obtain⟨r4,hv8,h⟩:=bind_some h
 obtain⟨r5,hv9,h⟩:=bind_some h
 obtain⟨e1,hv10,h⟩:=bind_some h
 refine .c (.call .none (zrb hv4) (.cons (.s e) (.cons (.s e) .nil))) (.asn e (.nil (.seq (.sn mx (.fa jt jk e (.ld ty9 e (.c (.call .none (zgH hv5) (.cons (.s e) .nil)) (.c (.not .none (.s e)) (.c (.call .none (jw hv6) (.cons (.s e) (.cons .i .nil))) (.mv e (.c (.call .none (jw hv7) (.cons (.s e) (.cons .i .nil))) (.fa jc qZ e (.ld ty3 e (.c (.call .none (vw hv8) (.cons (.s e) (.cons .i (.cons .i .nil)))) (.c (.not .none (.s e)) (.c (.call .none (jw hv9) (.cons (.s e) (.cons .i .nil))) (.c (.buildSlice (xs:=[_,_,_]) .none vV vY QJ (.cons (.s e) (.cons (.s e) (.cons (.s e) .nil))) e (by decide)) (.c (.call .none (QP hv10) (.cons (.s e) .nil)) (.asn e (.nil (.sn mx (.mv e (.nei e (.nil (.cb e h (fun _ h=>?_) fun _ h=>?_)))))))))))))))))))))))))
 ·
  refine .sn mx (.mv e (.asn e (.nil (.ret (.thenRet ?_)))))
  obtain rfl:=za h
  exact zb.rt Tryz.results28 e
 ·
  obtain⟨box1,hv12,h⟩:=bind_some h
  refine .skip (.then (.sn mx (.fa QD Qj e (.ld zK e (.c (.buildF (y:=(⟨(0:Int),(0:Int),(0:Int),(0:Int)⟩:Box)) .none qY q7 e .nil .nil) (.c (.neS .none zio (.s e) (.s e)) (.c (.call .none (jw hv12) (.cons (.s e) (.cons .i .nil))) (.asn e (.nil (.seq (.sn mx (.fa jc qZ e (.ld ty3 e (.nei e (.nil ?_)))))))))))))))
  obtain⟨j_13,h,hK13⟩:=bind_some h
  refine .thenJ (ι:=Int) (fun j_13=>[(8,⟨True,rep j_13⟩)]) (fun j_13=>[]) (fun s=>j_13=s) (.k 5 e .nil) ze.nil ?_ (fun j_13' hj13=>?_)
  ·
   refine .cb e h (fun _ h=>?_) fun _ h=>?_
   ·
    obtain⟨box2,hv15,h⟩:=bind_some h
    exact .rn mx (.fa QD Qj e (.ld zK e (.c (.call .none (zgE hv15) (.cons (.s e) .nil)) (.asn e (.nil (zb.j _ (za h)))))))
   ·
    exact .skip (zb.j _ (za h))
  ·
   subst hj13;have h:=hK13;clear hK13
   obtain⟨r6,hv16,h⟩:=bind_some h
   obtain⟨r7,hv17,h⟩:=bind_some h
   obtain⟨r8,hv18,h⟩:=bind_some h
   refine .sn mx (.mv e (.fa ziB zf7 e (.ld ty9 e (.c (.call .none (zka hv16) (.cons (.s e) .nil)) (.fa zfQ zdC e (.ld ty9 e (.c (.call .none (zkc hv17) (.cons (.s e) .nil)) (.c (.buildSlice (xs:=[_,_,_]) .none vV vY QJ (.cons (.s e) (.cons (.s e) (.cons (.s e) .nil))) e (by decide)) (.c (.call .none (QP hv18) (.cons (.s e) .nil)) (.asn e (.nil (.ret ?_))))))))))))
   obtain rfl:=za h
   exact zb.rt Tryz.results28 e
theorem zpK {n1:zm}{c0_1:Str}{r:Bool}  (h:zcn n1 c0_1=some r):zi Tryz.prog 121 [rep n1,ref c0_1] (rep r):=by
 unfold zcn at h
 refine zi.i Tryz.func121 e Tryz.ntmps121 e (fun F=>(.sn mx (.c (.box .none (.s e)) (.asb (.nil (.sn mx (.fa jt jk e (.ld ty9 e (.ld ty9 e (.c (.eqS .none (qP Tryz.underlying9) (.s e) (.s e)) (.asn e (.nil (.ret ?_)))))))))))))
 obtain rfl:=za h
 exact zb.rt Tryz.results121 e
theorem zaU {d1:Doc}{id1:Str}{r:Int}  (h:QR d1 id1=some r):zi Tryz.prog 76 [rep d1,rep id1] (rep r):=by
 unfold QR at h
 refine zi.i Tryz.func76 e Tryz.ntmps76 e (fun F=>(.sn mx (.c (.box .none (.s e)) (.c (.box .none (.s e)) (.asi (.nil (.sn mx (.fa yB yF e (.ld yE e (.c (.makeFunc (ι:=zm×Bool) (pre:=fun i=>(fun x0=>zcn x0 id1) i.1=some i.2) (Ss:=fun i=>[rep i.1]) (S:=fun i=>rep i.2) .none znn (fun i h=>zpK h) (.cons (.s e) .nil)) ?_))))))))))
 obtain⟨r1,hv1,h⟩:=bind_some h
 refine .c (.call .none (zkW hv1) (.cons (.s e) (.cons (.s e) .nil))) (.asn e (.nil (.ret ?_)))
 obtain rfl:=za h
 exact zb.rt Tryz.results76 e
theorem zkb {d1:Doc}{n1:zm}{r:(Int×Bool)}  (h:Yy d1 n1=some r):zi Tryz.prog 77 [rep d1,rep n1] (tup [rep r.1,rep r.2]):=by
 unfold Yy at h
 refine zi.i Tryz.func77 e Tryz.ntmps77 e (fun F=>(.sn mx (.c (.box .none (.s e)) (.c (.box .none (.s e)) (.asi (.asb (.nil (.sn mx (.fa va jU e (.ld ty9 e (.asn e (.nil (.seq ?_)))))))))))))
 obtain⟨o_1,h,hK1⟩:=ym h
 refine .thenJ (ι:=Int) (fun j_1=>[(4,⟨True,rep j_1⟩)]) (fun j_1=>[]) (fun s=>o_1=Res.nx s) Sub.nil ze.nil ?_ (fun j_1 hj1=>?_)
 ·
  refine .block (.loopL h (fun s2_=>[(4,⟨True,rep s2_.1⟩),(6,⟨True,rep s2_.2⟩)]) (fun s2_=>[]) (.k2 4 6 e e .nil) ze.nil (.k2 2 3 e e .nil) ze.nil (fun s2_ o_2 h hD2=>?_))
  unfold zer at h
  refine .seq (.sn mx (.mv e (.c (.neS .none (qP Tryz.underlying9) (.s e) (.str (l:=[]) (by decide))) (.nil (.cb e h (fun _ h=>?_) fun _ h=>?_)))))
  ·
   obtain⟨many1,hv4,h⟩:=zh h
   refine .skip (.then (.block (.seq (.sn mx (.mv e (.adi e (.ra hv4 e (.nil (.sn mx (.mv e (.fa jt jk e (.ld ty9 e (.c (.eqS .none (qP Tryz.underlying9) (.s e) (.s e)) (.mv e (.mg e e e (.fg yB yF e e e (.lg yE e e e (.c (.len (.at e e) z7 (.tmp e id)) (.c (.gt (.at e e) (.tmp e id) (.tmp e id)) (.po e e (.nil (.cb e h (fun _ h=>?_) fun _ h=>?_))))))))))))))))))))))
   ·
    refine .sn mx (.mv e (.mv e (.fa jt jk e (.ld ty9 e (.c (.eqS .none (qP Tryz.underlying9) (.s e) (.s e)) (.asn e (.asn e (.nil (.ret (.thenRet (.blkRet (.thenRet (.blkRet (.thenRet ?_))))))))))))))
    replace h:=hD2 _ (za h)
    replace h:=z6 hK1 (za h)
    obtain rfl:=za h
    exact zb.ret2 (.inl e) Tryz.results77 (zO.tmp e trivial Imp.refl) (zO.tmp e trivial Imp.refl)
   ·
    obtain⟨r1,hv6,h⟩:=bind_some h
    obtain⟨hn7,h⟩:=zr h
    obtain⟨id1,hv8,h⟩:=zh h
    exact .skip (.then (.rn mx (.fa yB yF e (.ld yE e (.ld yz e (.mv e (.c (.call .none (zaU hv6) (.cons (.s e) (.cons (.s e) .nil))) (.ix z7 zR e e hn7 (.fa va jU e (.ld ty9 e (.ra hv8 e (.nil (.blkNormal (zb.ag (za h)))))))))))))))
  ·
   refine .exit (.thenExit (.thenExit (.blkExit ?_)))
   replace h:=hD2 _ (za h)
   exact zb.j _ (za h)
 ·
  have h:=yo hK1 hj1
  refine .sn mx (.mv e (.asn e (.asb (.nil (.ret ?_)))))
  obtain rfl:=za h
  exact zb.ret2 (.inl e) Tryz.results77 (zO.tmp e trivial Imp.refl) (zO.tmp e trivial Imp.refl)
theorem zke {d1:Doc}{id1:Str}{r:(List zm)}  (h:za4 d1 id1=some r):yh Tryz.prog 78 [rep d1,rep id1] [] (yj) [some (zk 32 r)]:=by
 unfold za4 at h
 refine yh.i Tryz.func78 e Tryz.ntmps78 e (fun F=>(.sn mx (.c (.box .none (.s e)) (.c (.assign .none (.const (x:=([]:(List zm))) (fun M w=>⟨_,⟨none,0,rfl,Nat.le_refl _,by decide,rfl⟩,rfl⟩))) (.nil (.sr [([],[5])] mx (.cW (.nilRow (T:=32) (α:=zm) e) (.nil (.nameRow (t:=5) (g:=5001) e e e (fun s5001=>(.seq (.sn mx (.fa yB yF e (.ld yE e (.ln z7 e (.mvi (.nil ?_)))))))))))))))))
 obtain⟨j_1,h,hK1⟩:=bind_some h
 refine .thenJ (ι:=(List zm)) (fun j_1=>[]) (fun j_1=>[(5,some (zk 32 j_1))]) (fun s=>j_1=s) Sub.nil ze.nil ?_ (fun j_1' hj1=>?_)
 ·
  refine .block (.anon (t:=5) (g:=5001) e e trivial e (.rforL h (fun p2_=>[(11,⟨True,rep p2_.1⟩)]) (fun p2_=>[(5,some (zk 32 p2_.2))]) (.k 11 e .nil) (.k 5 e .nil) (.k2 1 9 e e (.k 10 e .nil)) ze.nil (fun p2_ o_2 h hD2=>(.nameRow (t:=5) (g:=5002) e e e (fun s5002=>(.sn mx (.lt e e (.nil (.seq (.cb e h (fun _ h=>?_) fun _ h=>?_))))))))))
  ·
   refine .skip (.then (.seq ?_))
   obtain⟨j_4,h,hK4⟩:=bind_some h
   unfold zgN at h
   refine .thenJ (ι:=(List zm)) (fun j_4=>[]) (fun j_4=>[(5,some (zk 32 j_4))]) (fun s=>j_4=s) (.k4 1 9 10 11 e e e e .nil) ze.nil ?_ (fun j_4' hj4=>?_)
   ·
    obtain⟨hn5,h⟩:=zr h
    obtain⟨v1,hv6,h⟩:=zh h
    refine .block (.sr [oo,oo,([],[7]),([7],[7])] mx (.ixA z7 zR e e hn5 (.rlA hv6 zR e (.al qL e (.st zR e e e (.nil (.freeze (t:=7) e e (.k 5002 e .nil) e (.sn mx (.fa va jU e (.ld ty9 e (.mv e (.c (.eqS .none (qP Tryz.underlying9) (.s e) (.s e)) (.nil (.cb e h (fun _ h=>?_) fun _ h=>?_))))))))))))))
    ·
     obtain⟨hn8,h⟩:=zr h
     exact .rg [oo,oo,oo,([5002],[22,5002]),([22],[5,22])] mx (.mvA e (.ldA zR e (.cA (.buildSlice (xs:=[_]) .none z7 zR zi8 (.cons (.s e) .nil) e (by decide)) (.cW (.append (k:=5002) zkk e (.told (.s e) e) (.s e) hn8) (.cW (.passRow e (.tmp e)) (.nil (.blkNormal (zb.j _ (za h)))))))))
    ·
     exact .skip (.blkNormal (.anon (t:=5) (g:=5002) e e trivial e (zb.j _ (za h))))
   ·
    subst hj4;have h:=hK4;clear hK4
    exact .nameRow (t:=5) (g:=5003) e e e (fun s5003=>(.rn mx (.adi e (.mv e (.nil (.anon (t:=5) (g:=5003) e e trivial e (zb.ag (za h))))))))
  ·
   refine .exit (.thenExit (.thenExit (.blkExit (.anon (t:=5) (g:=5002) e e trivial e ?_))))
   replace h:=hD2 _ (za h)
   exact zb.j _ (za h)
 ·
  subst hj1;have h:=hK1;clear hK1
  refine .nameRow (t:=5) (g:=5004) e e e (fun s5004=>(.sn mx (.mv e (.asn e (.nil (.ret (.anon (t:=4) (g:=5004) e e trivial e ?_)))))))
  obtain rfl:=za h
  exact zb.ret1O (.inl e) [4] Tryz.results78 (by decide) (.res e e) (zO.tmp e trivial (fun _ _ _ _=>trivial))
theorem zpZ {d1:Doc}{r:Int}  (h:za5 d1=some r):zi Tryz.prog 29 [rep d1] (rep r):=by
 unfold za5 at h
 refine zi.i Tryz.func29 e Tryz.ntmps29 e (fun F=>(.sn mx (.c (.box .none (.s e)) (.asi (.nil (.seq (.sn mx (.fa yB yF e (.ld yE e (.ln z7 e (.mvi (.nil ?_))))))))))))
 obtain⟨o_1,h,hK1⟩:=ym h
 refine .tJ (fun s=>o_1=Res.nx s) (.k 1 e .nil) ze.nil ?_ (fun j_1 hj1=>?_)
 ·
  refine .block (.rforEL h (fun p2_=>[(19,⟨True,rep p2_.1⟩)]) (fun p2_=>[]) (.k 19 e .nil) ze.nil (.k2 1 17 e e (.k 18 e .nil)) ze.nil (fun p2_ o_2 h hD2=>(.sn mx (.lt e e (.nil (.seq (.cb e h (fun _ h=>?_) fun _ h=>?_)))))))
  ·
   refine .skip (.then (.seq ?_))
   obtain⟨o_4,h,hK4⟩:=yK h
   unfold zeu at h
   refine .tJ (fun s=>o_4=Res.nx s) (.k4 1 17 18 19 e e e e .nil) ze.nil ?_ (fun j_4 hj4=>?_)
   ·
    obtain⟨hn5,h⟩:=zr h
    obtain⟨v1,hv6,h⟩:=zh h
    obtain⟨k1,hv7,h⟩:=bind_some h
    obtain⟨hn8,h⟩:=zr h
    refine .block (.sr [oo,oo,([],[4]),([4],[4])] mx (.ixA z7 zR e e hn5 (.rlA hv6 zR e (.al qL e (.st zR e e e (.nil (.freeze (t:=4) e e ze.nil e (.sn mx (.ld yz e (.fa va jU e (.ld ty9 e (.c (.call .none (zaU hv7) (.cons (.s e) (.cons (.s e) .nil))) (.asn e (.nil (.sn mx (.fa va jU e (.ld ty9 e (.c (.neS .none (qP Tryz.underlying9) (.s e) (.str (l:=[]) (by decide))) (.mv e (.mg e e e (.c (.lt (.at e e) (.tmp e id) .i) (.c (.move (.at e e) (.tmp e id)) (.fg yB yF e e e (.lg yE e e e (.mg e e e (.c (.indexAddr (.at e e) z7 zR (.tmp e id) (.tmp e id) (fun hg=>hn8 hg.1.2 hg.2)) (.c (.fieldAddr (.at e e) jc qZ (.tmp e id)) (.lg ty3 e e e (.c (.neI (.at e e) (.tmp e id) .i) (.c (.pickOr (.at e e) (.tmp e id) (.tmp e id)) (.pa e e (.nil (.cb e h (fun _ h=>?_) fun _ h=>?_)))))))))))))))))))))))))))))))))
    ·
     refine .sn mx (.asi (.nil (.ret (.blkRet (.thenRet (.thenRet (.blkRet (.thenRet ?_))))))))
     replace h:=yD hK4 (za h)
     replace h:=hD2 _ (za h)
     replace h:=z6 hK1 (za h)
     obtain rfl:=za h
     exact zb.rt Tryz.results29 e
    ·
     exact .skip (.blkNormal (zb.j _ (za h)))
   ·
    have h:=yN hK4 hj4
    exact .rn mx (.adi e (.mv e (.nil (zb.ag (za h)))))
  ·
   refine .exit (.thenExit (.thenExit (.blkExit ?_)))
   replace h:=hD2 _ (za h)
   exact zb.j _ (za h)
 ·
  have h:=yo hK1 hj1
  refine .seq (.sn mx (.fa yB yF e (.ld yE e (.ln z7 e (.mvi (.nil ?_))))))
  obtain⟨o_10,h,hK10⟩:=ym h
  refine .tJ (fun s=>o_10=Res.nx s) (.k 1 e .nil) ze.nil ?_ (fun j_10 hj10=>?_)
  ·
   refine .block (.rforEL h (fun p11_=>[(47,⟨True,rep p11_.1⟩)]) (fun p11_=>[]) (.k 47 e .nil) ze.nil (.k2 1 45 e e (.k 46 e .nil)) ze.nil (fun p11_ o_11 h hD11=>(.sn mx (.lt e e (.nil (.seq (.cb e h (fun _ h=>?_) fun _ h=>?_)))))))
   ·
    refine .skip (.then (.seq ?_))
    obtain⟨o_13,h,hK13⟩:=yK h
    unfold zev at h
    refine .tJ (fun s=>o_13=Res.nx s) (.k4 1 45 46 47 e e e e .nil) ze.nil ?_ (fun j_13 hj13=>?_)
    ·
     obtain⟨hn14,h⟩:=zr h
     obtain⟨v2,hv15,h⟩:=zh h
     obtain⟨r1,hv16,h⟩:=bind_some h
     refine .block (.sr [oo,oo,([],[7]),([7],[7])] mx (.ixA z7 zR e e hn14 (.rlA hv15 zR e (.al qL e (.st zR e e e (.nil (.freeze (t:=7) e e ze.nil e (.sn mx (.ld yz e (.ld zR e (.c (.call .none (zkb hv16) (.cons (.s e) (.cons (.s e) .nil))) (.mv e (.ex e e (.ex e e (.asn e (.asn e (.nil (.sn mx (.mv e (.nil (.cb e h (fun _ h=>?_) fun _ h=>?_)))))))))))))))))))))
     ·
      refine .sn mx (.asi (.nil (.ret (.blkRet (.thenRet (.thenRet (.blkRet (.thenRet ?_))))))))
      replace h:=yD hK13 (za h)
      replace h:=hD11 _ (za h)
      replace h:=z6 hK10 (za h)
      obtain rfl:=za h
      exact zb.rt Tryz.results29 e
     ·
      exact .skip (.blkNormal (zb.j _ (za h)))
    ·
     have h:=yN hK13 hj13
     exact .rn mx (.adi e (.mv e (.nil (zb.ag (za h)))))
   ·
    refine .exit (.thenExit (.thenExit (.blkExit ?_)))
    replace h:=hD11 _ (za h)
    exact zb.j _ (za h)
  ·
   have h:=yo hK10 hj10
   refine .seq (.sn mx (.fa yB yF e (.ld yE e (.ln z7 e (.mvi (.nil ?_))))))
   obtain⟨o_18,h,hK18⟩:=ym h
   refine .tJ (fun s=>o_18=Res.nx s) (.k 1 e .nil) ze.nil ?_ (fun j_18 hj18=>?_)
   ·
    refine .block (.rforEL h (fun p19_=>[(62,⟨True,rep p19_.1⟩)]) (fun p19_=>[]) (.k 62 e .nil) ze.nil (.k2 1 60 e e (.k 61 e .nil)) ze.nil (fun p19_ o_19 h hD19=>(.sn mx (.lt e e (.nil (.seq (.cb e h (fun _ h=>?_) fun _ h=>?_)))))))
    ·
     refine .skip (.then (.seq ?_))
     obtain⟨o_21,h,hK21⟩:=yK h
     unfold zew at h
     refine .tJ (fun s=>o_21=Res.nx s) (.k4 1 60 61 62 e e e e .nil) ze.nil ?_ (fun j_21 hj21=>?_)
     ·
      obtain⟨hn22,h⟩:=zr h
      obtain⟨v3,hv23,h⟩:=zh h
      obtain⟨r2,hv24,h⟩:=bind_some h
      refine .block (.sr [oo,oo,([],[11]),([11],[11])] mx (.ixA z7 zR e e hn22 (.rlA hv23 zR e (.al qL e (.st zR e e e (.nil (.freeze (t:=11) e e ze.nil e (.sn mx (.ld yz e (.ld zR e (.c (.call .none (zkb hv24) (.cons (.s e) (.cons (.s e) .nil))) (.mv e (.ex e e (.ex e e (.asn e (.asn e (.nil (.sn mx (.mv e (.c (.gt .none (.s e) .i) (.nil (.cb e h (fun _ h=>?_) fun _ h=>?_))))))))))))))))))))))
      ·
       refine .sn mx (.asi (.nil (.ret (.blkRet (.thenRet (.thenRet (.blkRet (.thenRet ?_))))))))
       replace h:=yD hK21 (za h)
       replace h:=hD19 _ (za h)
       replace h:=z6 hK18 (za h)
       obtain rfl:=za h
       exact zb.rt Tryz.results29 e
      ·
       exact .skip (.blkNormal (zb.j _ (za h)))
     ·
      have h:=yN hK21 hj21
      exact .rn mx (.adi e (.mv e (.nil (zb.ag (za h)))))
    ·
     refine .exit (.thenExit (.thenExit (.blkExit ?_)))
     replace h:=hD19 _ (za h)
     exact zb.j _ (za h)
   ·
    have h:=yo hK18 hj18
    refine .seq (.sn mx (.fa yB yF e (.ld yE e (.ln z7 e (.mvi (.nil ?_))))))
    obtain⟨o_26,h,hK26⟩:=ym h
    refine .tJ (fun s=>o_26=Res.nx s) Sub.nil ze.nil ?_ (fun j_26 hj26=>?_)
    ·
     refine .block (.rforEL h (fun p27_=>[(78,⟨True,rep p27_.1⟩)]) (fun p27_=>[]) (.k 78 e .nil) ze.nil (.k2 1 76 e e (.k 77 e .nil)) ze.nil (fun p27_ o_27 h hD27=>(.sn mx (.lt e e (.nil (.seq (.cb e h (fun _ h=>?_) fun _ h=>?_)))))))
     ·
      refine .skip (.then (.seq ?_))
      obtain⟨o_29,h,hK29⟩:=yK h
      unfold zex at h
      refine .tJ (fun s=>o_29=Res.nx s) (.k4 1 76 77 78 e e e e .nil) ze.nil ?_ (fun j_29 hj29=>?_)
      ·
       obtain⟨hn30,h⟩:=zr h
       obtain⟨v4,hv31,h⟩:=zh h
       obtain⟨r3,hv32,h⟩:=bind_some h
       refine .block (.sr [oo,oo,([],[15]),([15],[15])] mx (.ixA z7 zR e e hn30 (.rlA hv31 zR e (.al qL e (.st zR e e e (.nil (.freeze (t:=15) e e ze.nil e (.sn mx (.fa jc qZ e (.ld ty3 e (.eqi e (.mv e (.c (.load (.at e e) yz (.s e)) (.fg jt jk e e e (.lg ty9 e e e (.c (.callIf (.at e e) znH (fun hg=>(zke ((fun hg=>yC hv32 (hg.2)) hg)).frz) (.cons (.tmp e id) (.cons (.tmp e id) .nil)) (fun h=>h)) (.c (.len (.at e e) z7 (.tmp e id)) (.c (.eqI (.at e e) (.tmp e id) .i) (.pa e e (.nil (.cb e h (fun _ h=>?_) fun _ h=>?_)))))))))))))))))))))
       ·
        refine .sn mx (.asi (.nil (.ret (.blkRet (.thenRet (.thenRet (.blkRet (.thenRet ?_))))))))
        replace h:=yD hK29 (za h)
        replace h:=hD27 _ (za h)
        replace h:=z6 hK26 (za h)
        obtain rfl:=za h
        exact zb.rt Tryz.results29 e
       ·
        exact .skip (.blkNormal (zb.j _ (za h)))
      ·
       have h:=yN hK29 hj29
       exact .rn mx (.adi e (.mv e (.nil (zb.ag (za h)))))
     ·
      refine .exit (.thenExit (.thenExit (.blkExit ?_)))
      replace h:=hD27 _ (za h)
      exact zb.j _ (za h)
    ·
     have h:=yo hK26 hj26
     refine .sn mx (.asi (.nil (.ret ?_)))
     obtain rfl:=za h
     exact zb.rt Tryz.results29 e
theorem zpT {y1:zJ}{c0_1:zJ}{r:Bool}  (h:zct y1 c0_1=some r):zi Tryz.prog 80 [rep y1,ref c0_1] (rep r):=by
 unfold zct at h
 refine zi.i Tryz.func80 e Tryz.ntmps80 e (fun F=>(.sn mx (.c (.box .none (.s e)) (.asb (.nil (.sn mx (.fa Yc Yj e (.ld ty9 e (.fa Yc Yj e (.ld ty9 e (.c (.eqS .none (qP Tryz.underlying9) (.s e) (.s e)) (.asn e (.nil (.ret ?_))))))))))))))
 obtain rfl:=za h
 exact zb.rt Tryz.results80 e
theorem zrf {s1:(List zJ)}{f1:(zJ→Option Bool)}{r:Int}  (h:zcT s1 f1=some r):zi Tryz.prog 122 [rep s1,fn1 Tryz.prog (rep (α:=Bool)) f1] (rep r):=by
 unfold zcT at h
 refine zi.i Tryz.func122 e Tryz.ntmps122 e (fun F=>(.sn mx (.asi (.nil (.seq (.sn mx (.mv e (.ln qk e (.mvi (.nil ?_))))))))))
 obtain⟨o_1,h,hK1⟩:=ym h
 refine .tJ (fun s=>o_1=Res.nx s) Sub.nil ze.nil ?_ (fun j_1 hj1=>?_)
 ·
  refine .block (.rforEL h (fun p2_=>[(8,⟨True,rep p2_.1⟩)]) (fun p2_=>[]) (.k 8 e .nil) ze.nil (.k2 0 1 e e (.k 7 e .nil)) ze.nil (fun p2_ o_2 h hD2=>(.sn mx (.lt e e (.nil (.seq (.cb e h (fun _ h=>?_) fun _ h=>?_)))))))
  ·
   refine .skip (.then (.seq ?_))
   obtain⟨o_4,h,hK4⟩:=yK h
   unfold zhp at h
   refine .tJ (fun s=>o_4=Res.nx s) (.k4 0 1 7 8 e e e e .nil) ze.nil ?_ (fun j_4 hj4=>?_)
   ·
    obtain⟨hn5,h⟩:=zr h
    obtain⟨r1,hv6,h⟩:=bind_some h
    refine .block (.sn mx (.mv e (.asn e (.nil (.sn mx (.mv e (.mv e (.mv e (.ix qk yP e e hn5 (.ld yP e (.c (.callV (gx s1 p2_.1,r1) .none (.s e) (fun _=>hv6) (.cons (.s e) .nil)) (.nil (.cb e h (fun _ h=>?_) fun _ h=>?_)))))))))))))
    ·
     refine .sn mx (.mv e (.asn e (.nil (.ret (.blkRet (.thenRet (.thenRet (.blkRet (.thenRet ?_)))))))))
     replace h:=yD hK4 (za h)
     replace h:=hD2 _ (za h)
     replace h:=z6 hK1 (za h)
     obtain rfl:=za h
     exact zb.rt Tryz.results122 e
    ·
     exact .skip (.blkNormal (zb.j _ (za h)))
   ·
    have h:=yN hK4 hj4
    exact .rn mx (.adi e (.mv e (.nil (zb.ag (za h)))))
  ·
   refine .exit (.thenExit (.thenExit (.blkExit ?_)))
   replace h:=hD2 _ (za h)
   exact zb.j _ (za h)
 ·
  have h:=yo hK1 hj1
  refine .sn mx (.asi (.nil (.ret ?_)))
  obtain rfl:=za h
  exact zb.rt Tryz.results122 e
theorem zra {s1:(List zJ)}{f1:(zJ→Option Bool)}{r:Bool}  (h:zcO s1 f1=some r):zi Tryz.prog 79 [rep s1,fn1 Tryz.prog (rep (α:=Bool)) f1] (rep r):=by
 unfold zcO at h
 obtain⟨r1,hv1,h⟩:=bind_some h
 refine zi.i Tryz.func79 e Tryz.ntmps79 e (fun F=>(.sn mx (.asb (.nil (.sn mx (.mv e (.mv e (.c (.call .none (zrf hv1) (.cons (.s e) (.cons (.s e) .nil))) (.c (.ge .none (.s e) .i) (.asn e (.nil (.ret ?_))))))))))))
 obtain rfl:=za h
 exact zb.rt Tryz.results79 e
theorem zpM {side1:Int}{at1:Int}{r:Int}  (h:zco side1 at1=some r):zi Tryz.prog 81 [rep side1,rep at1] (rep r):=by
 unfold zco at h
 obtain⟨r1,hv1,h⟩:=bind_some h
 obtain⟨r2,hv2,h⟩:=bind_some h
 refine zi.i Tryz.func81 e Tryz.ntmps81 e (fun F=>(.sn mx (.asi (.nil (.sn mx (.mv e (.c (.call .none (vw hv1) (.cons (.s e) (.cons .i (.cons .i .nil)))) (.c (.not .none (.s e)) (.mv e (.mg e e e (.c (.callIf (.at e e) zdq (fun hg=>vw ((fun hg=>yC hv2 ((qD hg.2))) hg)) (.cons (.tmp e id) (.cons .i (.cons .i .nil))) (fun h=>h)) ?_)))))))))))
 obtain⟨r3,hv3,h⟩:=bind_some h
 refine .c (.not (.at e e) (.tmp e id)) (.po e e (.c (.call .none (jw hv3) (.cons (.s e) (.cons .i .nil))) (.asn e (.nil (.ret ?_)))))
 obtain rfl:=za h
 exact zb.rt Tryz.results81 e
theorem zpL {l1:(List zd)}{r:Int}  (h:zaW l1=some r):zi Tryz.prog 82 [rep l1] (rep r):=by
 unfold zaW at h
 refine zi.i Tryz.func82 e Tryz.ntmps82 e (fun F=>(.sn mx (.asi (.nil (.seq (.sn mx (.mv e (.ln zY e (.c (.gt .none (.s e) .i) (.nil (.cb e h (fun _ h=>?_) fun _ h=>?_)))))))))))
 ·
  refine .sn mx (.asi (.nil (.ret (.thenRet ?_))))
  obtain rfl:=za h
  exact zb.rt Tryz.results82 e
 ·
  refine .skip (.then (.seq (.sn mx (.mv e (.ln zY e (.mvi (.nil ?_)))))))
  obtain⟨o_2,h,hK2⟩:=ym h
  refine .tJ (fun s=>o_2=Res.nx s) Sub.nil ze.nil ?_ (fun j_2 hj2=>?_)
  ·
   refine .block (.rforEL h (fun p3_=>[(11,⟨True,rep p3_.1⟩)]) (fun p3_=>[]) (.k 11 e .nil) ze.nil (.k2 9 10 e e .nil) ze.nil (fun p3_ o_3 h hD3=>(.sn mx (.lt e e (.nil (.seq (.cb e h (fun _ h=>?_) fun _ h=>?_)))))))
   ·
    refine .skip (.then (.seq ?_))
    obtain⟨o_5,h,hK5⟩:=yK h
    unfold zgI at h
    refine .tJ (fun s=>o_5=Res.nx s) (.k2 9 10 e e (.k 11 e .nil)) ze.nil ?_ (fun j_5 hj5=>?_)
    ·
     obtain⟨hn6,h⟩:=zr h
     obtain⟨v1,hv7,h⟩:=zh h
     obtain⟨e1,hv8,h⟩:=bind_some h
     refine .block (.sr [oo,oo,([],[4]),([4],[4])] mx (.ixA zY zw e e hn6 (.rlA hv7 zw e (.al yG e (.st zw e e e (.nil (.freeze (t:=4) e e ze.nil e (.sn mx (.ld zw e (.c (.call .none (zaV hv8) (.cons (.s e) .nil)) (.asn e (.nil (.sn mx (.mv e (.nei e (.nil (.cb e h (fun _ h=>?_) fun _ h=>?_)))))))))))))))))
     ·
      refine .sn mx (.mv e (.asn e (.nil (.ret (.blkRet (.thenRet (.thenRet (.blkRet (.thenRet ?_)))))))))
      replace h:=yD hK5 (za h)
      replace h:=hD3 _ (za h)
      replace h:=z6 hK2 (za h)
      obtain rfl:=za h
      exact zb.rt Tryz.results82 e
     ·
      exact .skip (.blkNormal (zb.j _ (za h)))
    ·
     have h:=yN hK5 hj5
     exact .rn mx (.adi e (.mv e (.nil (zb.ag (za h)))))
   ·
    refine .exit (.thenExit (.thenExit (.blkExit ?_)))
    replace h:=hD3 _ (za h)
    exact zb.j _ (za h)
  ·
   have h:=yo hK2 hj2
   refine .sn mx (.asi (.nil (.ret ?_)))
   obtain rfl:=za h
   exact zb.rt Tryz.results82 e
theorem zpU {d1:Doc}{i1:Int}{r:Int}  (h:zcs d1 i1=some r):zi Tryz.prog 30 [rep d1,rep i1] (rep r):=by
 unfold zcs at h
 obtain⟨hn1,h⟩:=zr h
 obtain⟨v1,hv2,h⟩:=zh h
 obtain⟨r1,hv3,h⟩:=bind_some h
 obtain⟨hn4,h⟩:=zr h
 refine zi.i Tryz.func30 e Tryz.ntmps30 e (fun F=>(.sn mx (.c (.box .none (.s e)) (.asi (.nil (.sr [oo,oo,oo,oo,oo,([],[5]),([5],[5])] mx (.faA ji jT e (.ldA jJ e (.mvA e (.ixA qk yP e e hn1 (.rlA hv2 yP e (.al zae e (.st yP e e e (.nil (.freeze (t:=5) e e ze.nil e (.sn mx (.ld yz e (.fa Yc Yj e (.ld ty9 e (.c (.call .none (zaU hv3) (.cons (.s e) (.cons (.s e) .nil))) (.c (.ge .none (.s e) .i) (.mv e (.fg ji jT e e e (.lg jJ e e e (.mg e e e (.c (.slice (.at e e) qk yP (.tmp e id) e (.tmp e id) (fun hg=>hn4 hg.2)) (.c (.makeFunc (ι:=zJ×Bool) (pre:=fun i=>(fun x0=>zct x0 v1) i.1=some i.2) (Ss:=fun i=>[rep i.1]) (S:=fun i=>rep i.2) (.at e e) znJ (fun i h=>zpT h) (.cons (.s e) .nil)) ?_)))))))))))))))))))))))))))
 obtain⟨r2,hv5,h⟩:=bind_some h
 refine .c (.callIf (.at e e) znI (fun hg=>zra ((fun hg=>yC hv5 ((qD hg.2))) hg)) (.cons (.tmp e id) (.cons (.tmp e id) .nil)) (fun h=>h)) ?_
 obtain⟨r3,hv6,h⟩:=bind_some h
 obtain⟨r4,hv7,h⟩:=bind_some h
 obtain⟨r5,hv8,h⟩:=bind_some h
 obtain⟨e1,hv9,h⟩:=bind_some h
 refine .po e e (.asn e (.nil (.seq (.sn mx (.fa Yc Yj e (.ld ty9 e (.c (.call .none (zgH hv6) (.cons (.s e) .nil)) (.c (.not .none (.s e)) (.c (.call .none (jw hv7) (.cons (.s e) (.cons .i .nil))) (.mv e (.c (.call .none (jw hv8) (.cons (.s e) (.cons .i .nil))) (.c (.buildSlice (xs:=[_,_]) .none vV vY QJ (.cons (.s e) (.cons (.s e) .nil)) e (by decide)) (.c (.call .none (QP hv9) (.cons (.s e) .nil)) (.asn e (.nil (.sn mx (.mv e (.nei e (.nil (.cb e h (fun _ h=>?_) fun _ h=>?_))))))))))))))))))))
 ·
  refine .sn mx (.mv e (.asn e (.nil (.ret (.thenRet ?_)))))
  obtain rfl:=za h
  exact zb.rt Tryz.results30 e
 ·
  obtain⟨v2,hv11,h⟩:=zh h
  refine .skip (.then (.seq (.sn mx (.fa Yd Yk e (.ld qJ e (.fa Ye Yl e (.ld qJ e (.c (.re hv11 (.buildSlice (xs:=[_,_]) .none zbi qJ zi9 (.cons (.s e) (.cons (.s e) .nil)) e (by decide))) (.ln zbi e (.mvi (.nil ?_)))))))))))
  obtain⟨o_12,h,hK12⟩:=ym h
  refine .tJ (fun s=>o_12=Res.nx s) (.k 5 e .nil) ze.nil ?_ (fun j_12 hj12=>?_)
  ·
   refine .block (.rforEL h (fun p13_=>[(48,⟨True,rep p13_.1⟩)]) (fun p13_=>[]) (.k 48 e .nil) ze.nil (.k4 2 5 46 47 e e e e .nil) ze.nil (fun p13_ o_13 h hD13=>(.sn mx (.lt e e (.nil (.seq (.cb e h (fun _ h=>?_) fun _ h=>?_)))))))
   ·
    refine .skip (.then (.seq ?_))
    obtain⟨o_15,h,hK15⟩:=yK h
    unfold zet at h
    refine .tJ (fun s=>o_15=Res.nx s) (.k4 2 5 46 47 e e e e (.k 48 e .nil)) ze.nil ?_ (fun j_15 hj15=>?_)
    ·
     obtain⟨hn16,h⟩:=zr h
     obtain⟨v3,hv17,h⟩:=zh h
     obtain⟨k1,hv18,h⟩:=bind_some h
     refine .block (.sr [oo,oo,([],[9]),([9],[9])] mx (.ixA zbi qJ e e hn16 (.rlA hv17 qJ e (.al zlr e (.st qJ e e e (.nil (.freeze (t:=9) e e ze.nil e (.sn mx (.ld yz e (.fa zdk zbW e (.ld ty9 e (.c (.call .none (zaU hv18) (.cons (.s e) (.cons (.s e) .nil))) (.asn e (.nil (.seq (.sn mx (.mv e (.c (.lt .none (.s e) .i) (.nil (.cb e h (fun _ h=>?_) fun _ h=>?_))))))))))))))))))))
     ·
      refine .sn mx (.asi (.nil (.ret (.thenRet (.blkRet (.thenRet (.thenRet (.blkRet (.thenRet ?_)))))))))
      replace h:=yD hK15 (za h)
      replace h:=hD13 _ (za h)
      replace h:=z6 hK12 (za h)
      obtain rfl:=za h
      exact zb.rt Tryz.results30 e
     ·
      obtain⟨hn20,h⟩:=zr h
      obtain⟨r6,hv21,h⟩:=bind_some h
      obtain⟨r7,hv22,h⟩:=bind_some h
      obtain⟨e2,hv23,h⟩:=bind_some h
      refine .skip (.then (.sn mx (.fa yB yF e (.ld yE e (.mv e (.ix z7 zR e e hn20 (.fa jc qZ e (.ld ty3 e (.eqi e (.c (.call .none (jw hv21) (.cons (.s e) (.cons .i .nil))) (.fa Yb QI e (.ld ty3 e (.fa zbM zaA e (.ld ty3 e (.c (.call .none (zpM hv22) (.cons (.s e) (.cons (.s e) .nil))) (.c (.buildSlice (xs:=[_,_]) .none vV vY QJ (.cons (.s e) (.cons (.s e) .nil)) e (by decide)) (.c (.call .none (QP hv23) (.cons (.s e) .nil)) (.asn e (.nil (.sn mx (.mv e (.nei e (.nil (.cb e h (fun _ h=>?_) fun _ h=>?_))))))))))))))))))))))))
      ·
       refine .sn mx (.mv e (.asn e (.nil (.ret (.blkRet (.thenRet (.thenRet (.blkRet (.thenRet ?_)))))))))
       replace h:=yD hK15 (za h)
       replace h:=hD13 _ (za h)
       replace h:=z6 hK12 (za h)
       obtain rfl:=za h
       exact zb.rt Tryz.results30 e
      ·
       exact .skip (.blkNormal (zb.j _ (za h)))
    ·
     have h:=yN hK15 hj15
     exact .rn mx (.adi e (.mv e (.nil (zb.ag (za h)))))
   ·
    refine .exit (.thenExit (.thenExit (.blkExit ?_)))
    replace h:=hD13 _ (za h)
    exact zb.j _ (za h)
  ·
   have h:=yo hK12 hj12
   refine .seq (.sn mx (.fa vp Qk e (.ld vA e (.ln zY e (.c (.gt .none (.s e) .i) (.nil (.cb e h (fun _ h=>?_) fun _ h=>?_)))))))
   ·
    refine .sn mx (.asi (.nil (.ret (.thenRet ?_))))
    obtain rfl:=za h
    exact zb.rt Tryz.results30 e
   ·
    obtain⟨r8,hv26,h⟩:=bind_some h
    obtain⟨r9,hv27,h⟩:=bind_some h
    obtain⟨r10,hv28,h⟩:=bind_some h
    obtain⟨r11,hv29,h⟩:=bind_some h
    refine .skip (.then (.sn mx (.fa vp Qk e (.ld vA e (.c (.call .none (zpL hv26) (.cons (.s e) .nil)) (.fa zdl zdD e (.ld ty9 e (.c (.call .none (zka hv27) (.cons (.s e) .nil)) (.fa zbN zbX e (.ld ty9 e (.c (.call .none (zkc hv28) (.cons (.s e) .nil)) (.c (.buildSlice (xs:=[_,_,_]) .none vV vY QJ (.cons (.s e) (.cons (.s e) (.cons (.s e) .nil))) e (by decide)) (.c (.call .none (QP hv29) (.cons (.s e) .nil)) (.asn e (.nil (.ret ?_))))))))))))))))
    obtain rfl:=za h
    exact zb.rt Tryz.results30 e
theorem zpF {l1:(List Box)}{r:(Box×Int)}  (h:zaT l1=some r):zi Tryz.prog 83 [rep l1] (tup [rep r.1,rep r.2]):=by
 unfold zaT at h
 obtain⟨v1,hv1,h⟩:=zh h
 refine zi.i Tryz.func83 e Tryz.ntmps83 e (fun F=>(.sr [([],[2]),oo] mx (.al q8 e (.cA (.assign .none .i) (.nil (.reB (t:=2) e (congrArg (zE 30) hv1) (.nameBox (t:=2) (g:=5001) e e (fun m5001=>(.seq (.sn mx (.mv e (.ln y5 e (.eqi e (.nil (.cb e h (fun _ h=>?_) fun _ h=>?_)))))))))))))))
 ·
  obtain⟨v2,hv3,h⟩:=zh h
  refine .sr [oo,([5001],[5001]),oo] mx (.cA (.re hv3 (.buildF (y:=(⟨(0:Int),(0:Int),(0:Int),(0:Int)⟩:Box)) .none qY q7 e .nil .nil)) (.s0 5001 zK e e e (.cA (.assign .none .i) (.nil (.fb 5001 [2] e (.cons (t:=2) e trivial .nil) (.ret (.thenRet ?_)))))))
  obtain rfl:=za h
  exact zb.r2 Tryz.results83 zK e e
 ·
  obtain⟨hn4,h⟩:=zr h
  obtain⟨hn5,h⟩:=zr h
  obtain⟨hn6,h⟩:=zr h
  obtain⟨hn7,h⟩:=zr h
  obtain⟨x1,hv8,h⟩:=zh h
  obtain⟨y1,hv9,h⟩:=zh h
  obtain⟨r1,hv10,h⟩:=zh h
  obtain⟨d1,hv11,h⟩:=zh h
  refine .skip (.then (.sn mx (.mv e (.c (.indexAddr .none y5 zK (.s e) .i (fun _=>hn4)) (.fa qf y7 e (.ld ty3 e (.mv e (.c (.indexAddr .none y5 zK (.s e) .i (fun _=>hn5)) (.fa qg y8 e (.ld ty3 e (.mv e (.c (.indexAddr .none y5 zK (.s e) .i (fun _=>hn6)) (.fa qf y7 e (.ld ty3 e (.mv e (.c (.indexAddr .none y5 zK (.s e) .i (fun _=>hn7)) (.fa qg y8 e (.ld ty3 e (.ra hv8 e (.ra hv9 e (.ra hv10 e (.ra hv11 e (.nil (.seq (.sn mx (.mv e (.ln y5 e (.mvi (.nil ?_)))))))))))))))))))))))))))))
  obtain⟨j_12,h,hK12⟩:=bind_some h
  refine .thenJ (ι:=(Int×Int×Int×Int)) (fun j_12=>[(4,⟨True,rep j_12.1⟩),(5,⟨True,rep j_12.2.1⟩),(6,⟨True,rep j_12.2.2.1⟩),(7,⟨True,rep j_12.2.2.2⟩)]) (fun j_12=>[]) (fun s=>j_12=s) (.k 2 e .nil) (.k 5001 e .nil) ?_ (fun j_12' hj12=>?_)
  ·
   refine .block (.rforL h (fun p13_=>[(32,⟨True,rep p13_.1⟩),(4,⟨True,rep p13_.2.1⟩),(5,⟨True,rep p13_.2.2.1⟩),(6,⟨True,rep p13_.2.2.2.1⟩),(7,⟨True,rep p13_.2.2.2.2⟩)]) (fun p13_=>[]) (.k4 32 4 5 6 e e e e (.k 7 e .nil)) ze.nil (.k2 2 30 e e (.k 31 e .nil)) (.k 5001 e .nil) (fun p13_ o_13 h hD13=>(.sn mx (.lt e e (.nil (.seq (.cb e h (fun _ h=>?_) fun _ h=>?_)))))))
   ·
    refine .skip (.then (.seq ?_))
    obtain⟨j_15,h,hK15⟩:=bind_some h
    unfold zel at h
    refine .thenJ (ι:=(Int×Int×Int×Int)) (fun j_15=>[(4,⟨True,rep j_15.1⟩),(5,⟨True,rep j_15.2.1⟩),(6,⟨True,rep j_15.2.2.1⟩),(7,⟨True,rep j_15.2.2.2⟩)]) (fun j_15=>[]) (fun s=>j_15=s) (.k4 2 30 31 32 e e e e .nil) (.k 5001 e .nil) ?_ (fun j_15' hj15=>?_)
    ·
     obtain⟨hn16,h⟩:=zr h
     obtain⟨v3,hv17,h⟩:=zh h
     obtain⟨x2,hv18,h⟩:=zh h
     obtain⟨y2,hv19,h⟩:=zh h
     obtain⟨r2,hv20,h⟩:=zh h
     obtain⟨d2,hv21,h⟩:=zh h
     exact .block (.sr [oo,oo,([],[9]),([9],[9])] mx (.ixA y5 zK e e hn16 (.rlA hv17 zK e (.al q8 e (.st zK e e e (.nil (.freeze (t:=9) e e (.k 5001 e .nil) e (.rn mx (.mv e (.fa qf y7 e (.ld ty3 e (.c (.min2 .none (.s e) (.s e)) (.mv e (.fa qg y8 e (.ld ty3 e (.c (.min2 .none (.s e) (.s e)) (.mv e (.fa qf y7 e (.ld ty3 e (.fa yQ yL e (.ld ty3 e (.add e e (.c (.max2 .none (.s e) (.s e)) (.mv e (.fa qg y8 e (.ld ty3 e (.fa yU yR e (.ld ty3 e (.add e e (.c (.max2 .none (.s e) (.s e)) (.ra hv18 e (.ra hv19 e (.ra hv20 e (.ra hv21 e (.nil (.blkNormal (zb.j _ (za h))))))))))))))))))))))))))))))))))))))
    ·
     subst hj15;have h:=hK15;clear hK15
     exact .rn mx (.adi e (.mv e (.nil (zb.ag (za h)))))
   ·
    refine .exit (.thenExit (.thenExit (.blkExit ?_)))
    replace h:=hD13 _ (za h)
    exact zb.j _ (za h)
  ·
   subst hj12;have h:=hK12;clear hK12
   refine .seq (.sn mx (.mv e (.mv e (.sub e e (.c (.gt .none (.s e) .i) (.mv e (.mg e e e (.mg e e e (.c (.subW (.at e e) (.tmp e id) (.tmp e id)) (.c (.gt (.at e e) (.tmp e id) .i) (.po e e (.nil (.cb e h (fun _ h=>?_) fun _ h=>?_)))))))))))))
   ·
    obtain⟨v4,hv23,h⟩:=zh h
    refine .sr [oo,([5001],[5001]),oo] mx (.cA (.re hv23 (.buildF (y:=(⟨(0:Int),(0:Int),(0:Int),(0:Int)⟩:Box)) .none qY q7 e .nil .nil)) (.s0 5001 zK e e e (.cA (.assign .none .i) (.nil (.fb 5001 [2] e (.cons (t:=2) e trivial .nil) (.ret (.thenRet ?_)))))))
    obtain rfl:=za h
    exact zb.r2 Tryz.results83 zK e e
   ·
    obtain⟨v5,hv24,h⟩:=zh h
    refine .skip (.then (.sr [oo,oo,oo,oo,oo,oo,oo,oo,oo,([5001],[5001]),oo] mx (.mvA e (.mvA e (.mvA e (.mvA e (.subA e e (.mvA e (.mvA e (.subA e e (.cA (.re hv24 (.buildF (y:=(⟨j_12.1,j_12.2.1,W (j_12.2.2.1 - j_12.1),W (j_12.2.2.2 - j_12.2.1)⟩:Box)) .none qY q7 e (.cons (.s e) (.cons (.s e) (.cons (.s e) (.cons (.s e) .nil)))) (.cons e zeM (.cons e zeN (.cons e zeO (.cons e zeP .nil)))))) (.s0 5001 zK e e e (.cA (.assign .none .i) (.nil (.fb 5001 [2] e (.cons (t:=2) e trivial .nil) (.ret ?_))))))))))))))))
    obtain rfl:=za h
    exact zb.r2 Tryz.results83 zK e e
theorem zpy {self:(Doc×Str)→Option (Box×Int)}(hself:∀(x:(Doc×Str)) (r:(Box×Int)),self x=some r→zi Tryz.prog 31 [rep x.1,rep x.2] (tup [rep r.1,rep r.2]))  {x:(Doc×Str)}{r:(Box×Int)}(h:Qo self x=some r):zi Tryz.prog 31 [rep x.1,rep x.2] (tup [rep r.1,rep r.2]):=by
 unfold Qo at h
 obtain⟨v1,hv1,h⟩:=zh h
 obtain⟨r1,hv2,h⟩:=bind_some h
 obtain⟨hn3,h⟩:=zr h
 obtain⟨v2,hv4,h⟩:=zh h
 refine zi.i Tryz.func31 e Tryz.ntmps31 e (fun F=>(.sr [oo,([],[4]),oo] mx (.cA (.box .none (.s e)) (.al q8 e (.cA (.assign .none .i) (.nil (.reB (t:=4) e (congrArg (zE 30) hv1) (.nameBox (t:=4) (g:=5001) e e (fun m5001=>(.sr [oo,oo,oo,oo,oo,oo,oo,([],[6]),([6],[6])] mx (.faA yB yF e (.ldA yE e (.ldA yz e (.mvA e (.cA (.call .none (zaU hv2) (.cons (.s e) (.cons (.s e) .nil))) (.ixA z7 zR e e hn3 (.rlA hv4 zR e (.al qL e (.st zR e e e (.nil (.freeze (t:=6) e e (.k 5001 e .nil) e (.seq (.sn mx (.fa jc qZ e (.ld ty3 e (.nei e (.nil (.cb e h (fun _ h=>?_) fun _ h=>?_))))))))))))))))))))))))))))
 ·
  refine .sr [oo,oo,([5001],[5001]),oo] mx (.faA QD Qj e (.ldA zK e (.s0 5001 zK e e e (.cA (.assign .none .i) (.nil (.fb 5001 [4] e (.cons (t:=4) e trivial .nil) (.ret (.thenRet ?_))))))))
  obtain rfl:=za h
  exact zb.r2 Tryz.results31 zK e e
 ·
  obtain⟨r2,hv6,h⟩:=bind_some h
  refine .skip (.then (.sr [([],[7])] mx (.cW (.nilRow (T:=30) (α:=Box) e) (.nil (.nameRow (t:=7) (g:=5002) e e e (fun s5002=>(.seq (.sn mx (.ld yz e (.mv e (.c (.call .none (zke hv6).frz (.cons (.s e) (.cons (.s e) .nil))) (.ln z7 e (.mvi (.nil ?_))))))))))))))
  obtain⟨o_7,h,hK7⟩:=ym h
  refine .thenJ (ι:=(List Box)) (fun j_7=>[]) (fun j_7=>[(7,some (zk 30 j_7))]) (fun s=>o_7=Res.nx s) (.k 4 e .nil) (.k 5001 e .nil) ?_ (fun j_7 hj7=>?_)
  ·
   refine .block (.anon (t:=7) (g:=5002) e e trivial e (.rforEL h (fun p8_=>[(30,⟨True,rep p8_.1⟩)]) (fun p8_=>[(7,some (zk 30 p8_.2))]) (.k 30 e .nil) (.k 7 e .nil) (.k4 2 4 28 29 e e e e .nil) (.k 5001 e .nil) (fun p8_ o_8 h hD8=>(.nameRow (t:=7) (g:=5003) e e e (fun s5003=>(.sn mx (.lt e e (.nil (.seq (.cb e h (fun _ h=>?_) fun _ h=>?_))))))))))
   ·
    refine .skip (.then (.seq ?_))
    obtain⟨o_10,h,hK10⟩:=yK h
    unfold zaP at h
    refine .thenJ (ι:=(List Box)) (fun j_10=>[]) (fun j_10=>[(7,some (zk 30 j_10))]) (fun s=>o_10=Res.nx s) (.k4 2 4 28 29 e e e e (.k 30 e .nil)) (.k 5001 e .nil) ?_ (fun j_10 hj10=>?_)
    ·
     obtain⟨hn11,h⟩:=zr h
     obtain⟨v3,hv12,h⟩:=zh h
     obtain⟨r3,hv13,h⟩:=bind_some h
     refine .block (.sr [oo,oo,([],[9]),([9],[9])] mx (.ixA z7 zR e e hn11 (.rlA hv12 zR e (.al qL e (.st zR e e e (.nil (.freeze (t:=9) e e (.k2 5001 5003 e e .nil) e (.sr [oo,oo,oo,oo,oo,oo,oo,([],[10]),([10],[10]),oo] mx (.ldA yz e (.faA jt jk e (.ldA ty9 e (.cA (.call .none (hself _ _ hv13) (.cons (.s e) (.cons (.s e) .nil))) (.mvA e (.exA e e (.exA e e (.al q8 e (.st zK e e e (.asnA e (.nil (.freeze (t:=10) e e (.k2 5001 5003 e e .nil) e (.seq (.sn mx (.mv e (.nei e (.nil (.cb e h (fun _ h=>?_) fun _ h=>?_))))))))))))))))))))))))))
     ·
      obtain⟨v4,hv15,h⟩:=zh h
      refine .sr [oo,oo,([5001],[5001]),oo] mx (.cA (.re hv15 (.buildF (y:=(⟨(0:Int),(0:Int),(0:Int),(0:Int)⟩:Box)) .none qY q7 e .nil .nil)) (.mvA e (.s0 5001 zK e e e (.asnA e (.nil (.fb 5001 [4] e (.cons (t:=4) e trivial .nil) (.ret (.thenRet (.blkRet (.thenRet (.thenRet (.blkRet (.thenRet ?_)))))))))))))
      replace h:=yD hK10 (za h)
      replace h:=hD8 _ (za h)
      replace h:=z6 hK7 (za h)
      obtain rfl:=za h
      exact zb.r2 Tryz.results31 zK e e
     ·
      obtain⟨hn16,h⟩:=zr h
      exact .skip (.then (.rg [oo,oo,oo,([5003],[48,5003]),([48],[7,48])] mx (.mvA e (.ldA zK e (.cA (.buildSlice (xs:=[_]) .none y5 zK zdF (.cons (.s e) .nil) e (by decide)) (.cW (.append (k:=5003) zeE e (.told (.s e) e) (.s e) hn16) (.cW (.passRow e (.tmp e)) (.nil (.blkNormal (zb.j _ (za h)))))))))))
    ·
     have h:=yN hK10 hj10
     exact .nameRow (t:=7) (g:=5004) e e e (fun s5004=>(.rn mx (.adi e (.mv e (.nil (.anon (t:=7) (g:=5004) e e trivial e (zb.ag (za h))))))))
   ·
    refine .exit (.thenExit (.thenExit (.blkExit (.anon (t:=7) (g:=5003) e e trivial e ?_))))
    replace h:=hD8 _ (za h)
    exact zb.j _ (za h)
  ·
   have h:=yo hK7 hj7
   obtain⟨r4,hv17,h⟩:=bind_some h
   refine .freezeRowA (t:=7) e e (.k 5001 e .nil) e (.sr [oo,oo,oo,oo,oo,([],[12]),([12],[12]),oo] mx (.mvA e (.cA (.call .none (zpF hv17) (.cons (.s e) .nil)) (.mvA e (.exA e e (.exA e e (.al q8 e (.st zK e e e (.asnA e (.nil (.nameBox (t:=12) (g:=5005) e e (fun m5005=>(.seq (.sn mx (.mv e (.nei e (.nil (.cb e h (fun _ h=>?_) fun _ h=>?_))))))))))))))))))
   ·
    obtain⟨v5,hv19,h⟩:=zh h
    refine .sr [oo,oo,([5001],[5001]),oo] mx (.cA (.re hv19 (.buildF (y:=(⟨(0:Int),(0:Int),(0:Int),(0:Int)⟩:Box)) .none qY q7 e .nil .nil)) (.mvA e (.s0 5001 zK e e e (.asnA e (.nil (.fb 5001 [4] e (.cons (t:=4) e trivial .nil) (.ret (.thenRet ?_))))))))
    obtain rfl:=za h
    exact zb.r2 Tryz.results31 zK e e
   ·
    obtain⟨v6,hv20,h⟩:=zh h
    obtain⟨r5,hv21,h⟩:=bind_some h
    refine .skip (.then (.sr [oo,([5005],[]),oo,oo,([5005],[]),oo,oo,([5005],[]),oo,oo,([5005],[]),oo,oo,([5005],[5005])] mx (.cA (.fieldPtr .none qf (.s e)) (.cA (.loadAt (k:=5005) .none ty3 e (.s e) y7) (.cA (.subW .none (.s e) .i) (.cA (.fieldPtr .none qg (.s e)) (.cA (.loadAt (k:=5005) .none ty3 e (.s e) y8) (.cA (.subW .none (.s e) .i) (.cA (.fieldPtr .none yQ (.s e)) (.cA (.loadAt (k:=5005) .none ty3 e (.s e) yL) (.cA (.addW .none (.s e) .i) (.cA (.fieldPtr .none yU (.s e)) (.cA (.loadAt (k:=5005) .none ty3 e (.s e) yR) (.cA (.addW .none (.s e) .i) (.cA (.re hv20 (.buildF (y:=(⟨W (r4.1.X - 10),W (r4.1.Y - 10),W (r4.1.W_+20),W (r4.1.H+20)⟩:Box)) .none qY q7 e (.cons (.s e) (.cons (.s e) (.cons (.s e) (.cons (.s e) .nil)))) (.cons e zeM (.cons e zeN (.cons e zeO (.cons e zeP .nil)))))) (.s0 5005 zK e e e (.nil (.freezeBox (g:=5005) (ts:=[12]) e (.cons (t:=12) e trivial .nil) (.k 5001 e .nil) e (.sr [oo,oo,oo,([5001],[5001]),oo] mx (.ldA zK e (.ldA zK e (.cA (.call .none (zgE hv21) (.cons (.s e) .nil)) (.s0 5001 zK e e e (.asnA e (.nil (.fb 5001 [4] e (.cons (t:=4) e trivial .nil) (.ret ?_)))))))))))))))))))))))))))
    obtain rfl:=za h
    exact zb.r2 Tryz.results31 zK e e
theorem zj8:∀(k:Nat)  (x:(Doc×Str)) (r:(Box×Int)) (h:qw Qo k x=some r),zi Tryz.prog 31 [rep x.1,rep x.2] (tup [rep r.1,rep r.2])
 | 0,x,r,h=>by simp[qw]at h
 | k+1,x,r,h=>zpy (zj8 k) h
theorem zpx {d1:Doc}{id1:Str}{r:(Box×Int)}  (h:zcf d1 id1=some r):zi Tryz.prog 31 [rep d1,rep id1] (tup [rep r.1,rep r.2]):=
 let ⟨k,hk⟩:=ziG h
 zj8 k (d1,id1) r hk
theorem zpD {d1:Doc}{r:Int}  (h:zch d1=some r):zi Tryz.prog 6 [rep d1] (rep r):=by
 unfold zch at h
 refine zi.i Tryz.func6 e Tryz.ntmps6 e (fun F=>(.sn mx (.c (.box .none (.s e)) (.asi (.nil (.seq (.sn mx (.fa yB yF e (.ld yE e (.ln z7 e (.c (.gt .none (.s e) .i) (.mv e (.fg ji jT e e e (.lg jJ e e e (.c (.len (.at e e) qk (.tmp e id)) (.c (.gt (.at e e) (.tmp e id) .i) (.po e e (.nil (.cb e h (fun _ h=>?_) fun _ h=>?_)))))))))))))))))))
 ·
  refine .sn mx (.asi (.nil (.ret (.thenRet ?_))))
  obtain rfl:=za h
  exact zb.rt Tryz.results6 e
 ·
  refine .skip (.then (.seq (.sn mx (.fa yB yF e (.ld yE e (.ln z7 e (.mvi (.nil ?_))))))))
  obtain⟨o_2,h,hK2⟩:=ym h
  refine .tJ (fun s=>o_2=Res.nx s) (.k 1 e .nil) ze.nil ?_ (fun j_2 hj2=>?_)
  ·
   refine .block (.rforEL h (fun p3_=>[(25,⟨True,rep p3_.1⟩)]) (fun p3_=>[]) (.k 25 e .nil) ze.nil (.k2 1 24 e e .nil) ze.nil (fun p3_ o_3 h hD3=>(.sn mx (.lt e e (.nil (.seq (.cb e h (fun _ h=>?_) fun _ h=>?_)))))))
   ·
    refine .skip (.then (.seq ?_))
    obtain⟨o_5,h,hK5⟩:=yK h
    unfold zef at h
    refine .tJ (fun s=>o_5=Res.nx s) (.k2 1 24 e e (.k 25 e .nil)) ze.nil ?_ (fun j_5 hj5=>?_)
    ·
     obtain⟨e1,hv6,h⟩:=bind_some h
     refine .block (.sn mx (.mv e (.asn e (.nil (.sn mx (.ld yz e (.mv e (.c (.call .none (zpX hv6) (.cons (.s e) (.cons (.s e) .nil))) (.asn e (.nil (.sn mx (.mv e (.nei e (.nil (.cb e h (fun _ h=>?_) fun _ h=>?_)))))))))))))))
     ·
      refine .sn mx (.mv e (.asn e (.nil (.ret (.blkRet (.thenRet (.thenRet (.blkRet (.thenRet ?_)))))))))
      replace h:=yD hK5 (za h)
      replace h:=hD3 _ (za h)
      replace h:=z6 hK2 (za h)
      obtain rfl:=za h
      exact zb.rt Tryz.results6 e
     ·
      exact .skip (.blkNormal (zb.j _ (za h)))
    ·
     have h:=yN hK5 hj5
     exact .rn mx (.adi e (.mv e (.nil (zb.ag (za h)))))
   ·
    refine .exit (.thenExit (.thenExit (.blkExit ?_)))
    replace h:=hD3 _ (za h)
    exact zb.j _ (za h)
  ·
   have h:=yo hK2 hj2
   obtain⟨e2,hv8,h⟩:=bind_some h
   refine .seq (.sn mx (.ld yz e (.c (.call .none (zpZ hv8) (.cons (.s e) .nil)) (.asn e (.nil (.sn mx (.mv e (.nei e (.nil (.cb e h (fun _ h=>?_) fun _ h=>?_))))))))))
   ·
    refine .sn mx (.mv e (.asn e (.nil (.ret (.thenRet ?_)))))
    obtain rfl:=za h
    exact zb.rt Tryz.results6 e
   ·
    refine .skip (.then (.seq (.sn mx (.fa ji jT e (.ld jJ e (.ln qk e (.mvi (.nil ?_))))))))
    obtain⟨o_10,h,hK10⟩:=ym h
    refine .tJ (fun s=>o_10=Res.nx s) (.k 1 e .nil) ze.nil ?_ (fun j_10 hj10=>?_)
    ·
     refine .block (.rforEL h (fun p11_=>[(43,⟨True,rep p11_.1⟩)]) (fun p11_=>[]) (.k 43 e .nil) ze.nil (.k2 1 42 e e .nil) ze.nil (fun p11_ o_11 h hD11=>(.sn mx (.lt e e (.nil (.seq (.cb e h (fun _ h=>?_) fun _ h=>?_)))))))
     ·
      refine .skip (.then (.seq ?_))
      obtain⟨o_13,h,hK13⟩:=yK h
      unfold zeg at h
      refine .tJ (fun s=>o_13=Res.nx s) (.k2 1 42 e e (.k 43 e .nil)) ze.nil ?_ (fun j_13 hj13=>?_)
      ·
       obtain⟨e3,hv14,h⟩:=bind_some h
       refine .block (.sn mx (.mv e (.asn e (.nil (.sn mx (.ld yz e (.mv e (.c (.call .none (zpU hv14) (.cons (.s e) (.cons (.s e) .nil))) (.asn e (.nil (.sn mx (.mv e (.nei e (.nil (.cb e h (fun _ h=>?_) fun _ h=>?_)))))))))))))))
       ·
        refine .sn mx (.mv e (.asn e (.nil (.ret (.blkRet (.thenRet (.thenRet (.blkRet (.thenRet ?_)))))))))
        replace h:=yD hK13 (za h)
        replace h:=hD11 _ (za h)
        replace h:=z6 hK10 (za h)
        obtain rfl:=za h
        exact zb.rt Tryz.results6 e
       ·
        exact .skip (.blkNormal (zb.j _ (za h)))
      ·
       have h:=yN hK13 hj13
       exact .rn mx (.adi e (.mv e (.nil (zb.ag (za h)))))
     ·
      refine .exit (.thenExit (.thenExit (.blkExit ?_)))
      replace h:=hD11 _ (za h)
      exact zb.j _ (za h)
    ·
     have h:=yo hK10 hj10
     refine .seq (.sn mx (.fa yB yF e (.ld yE e (.ln z7 e (.mvi (.nil ?_))))))
     obtain⟨o_16,h,hK16⟩:=ym h
     refine .tJ (fun s=>o_16=Res.nx s) Sub.nil ze.nil ?_ (fun j_16 hj16=>?_)
     ·
      refine .block (.rforEL h (fun p17_=>[(56,⟨True,rep p17_.1⟩)]) (fun p17_=>[]) (.k 56 e .nil) ze.nil (.k2 1 54 e e (.k 55 e .nil)) ze.nil (fun p17_ o_17 h hD17=>(.sn mx (.lt e e (.nil (.seq (.cb e h (fun _ h=>?_) fun _ h=>?_)))))))
      ·
       refine .skip (.then (.seq ?_))
       obtain⟨o_19,h,hK19⟩:=yK h
       unfold zeh at h
       refine .tJ (fun s=>o_19=Res.nx s) (.k4 1 54 55 56 e e e e .nil) ze.nil ?_ (fun j_19 hj19=>?_)
       ·
        obtain⟨hn20,h⟩:=zr h
        obtain⟨v1,hv21,h⟩:=zh h
        obtain⟨r1,hv22,h⟩:=bind_some h
        refine .block (.sr [oo,oo,([],[9]),([9],[9])] mx (.ixA z7 zR e e hn20 (.rlA hv21 zR e (.al qL e (.st zR e e e (.nil (.freeze (t:=9) e e ze.nil e (.sr [oo,oo,oo,oo,oo,oo,oo,([],[10]),([10],[10]),oo] mx (.ldA yz e (.faA jt jk e (.ldA ty9 e (.cA (.call .none (zpx hv22) (.cons (.s e) (.cons (.s e) .nil))) (.mvA e (.exA e e (.exA e e (.al q8 e (.st zK e e e (.asnA e (.nil (.sn mx (.mv e (.nei e (.nil (.cb e h (fun _ h=>?_) fun _ h=>?_))))))))))))))))))))))))
        ·
         refine .sn mx (.mv e (.asn e (.nil (.ret (.blkRet (.thenRet (.thenRet (.blkRet (.thenRet ?_)))))))))
         replace h:=yD hK19 (za h)
         replace h:=hD17 _ (za h)
         replace h:=z6 hK16 (za h)
         obtain rfl:=za h
         exact zb.rt Tryz.results6 e
        ·
         exact .skip (.blkNormal (zb.j _ (za h)))
       ·
        have h:=yN hK19 hj19
        exact .rn mx (.adi e (.mv e (.nil (zb.ag (za h)))))
      ·
       refine .exit (.thenExit (.thenExit (.blkExit ?_)))
       replace h:=hD17 _ (za h)
       exact zb.j _ (za h)
     ·
      have h:=yo hK16 hj16
      refine .sn mx (.asi (.nil (.ret ?_)))
      obtain rfl:=za h
      exact zb.rt Tryz.results6 e
theorem zjd  {r:Bool}  (h:zaF=some r):zi Tryz.prog 9 [] (rep r):=by
 unfold zaF at h
 obtain⟨v1,hv1,h⟩:=zh h
 obtain⟨r1,hv2,h⟩:=bind_some h
 obtain⟨r2,hv3,h⟩:=bind_some h
 refine zi.i Tryz.func9 e Tryz.ntmps9 e (fun F=>(.sn mx (.asb (.nil (.sr [oo,oo,([],[1]),([1],[1])] mx (.cA (.buildF (y:=(⟨9,(0:Int)⟩:zd)) .none qe qh e (.cons .i .nil) (.cons e qS .nil)) (.cA (.re hv1 (.buildF (y:=(⟨(⟨(0:Int),(0:Int)⟩:zd),2,(⟨9,(0:Int)⟩:zd),4,([]:(List Box)),1⟩:zA)) .none zdd zhG e (.cons .i (.cons (.s e) (.cons .i (.cons .i .nil)))) (.cons e zkL (.cons e zkM (.cons e zkN (.cons e zkO .nil)))))) (.al ze5 e (.st qn e e e (.nil (.freeze (t:=1) e e ze.nil e (.sn mx (.ld qn e (.c (.call .none (zgU hv2) (.cons (.s e) .nil)) (.eqi e (.mv e (.c (.buildF (y:=(⟨(⟨(0:Int),(0:Int)⟩:zd),(0:Int),(⟨(0:Int),(0:Int)⟩:zd),(0:Int),([]:(List Box)),(0:Int)⟩:zA)) (.at e e) zdd zhG e .nil .nil) (.c (.callIf (.at e e) znu (fun hg=>zgU ((fun hg=>yC hv3 (hg.2)) hg)) (.cons (.tmp e id) .nil) (fun h=>h)) (.c (.eqI (.at e e) (.tmp e id) .i) (.pa e e (.asn e (.nil (.ret ?_)))))))))))))))))))))))
 obtain rfl:=za h
 exact zb.rt Tryz.results9 e
theorem zkV {s1_1:(List zm)}{s2_1:(List zm)}{r:Bool}  (h:zbl s1_1 s2_1=some r):zi Tryz.prog 11 [rep s1_1,rep s2_1] (rep r):=by
 unfold zbl at h
 refine zi.i Tryz.func11 e Tryz.ntmps11 e (fun F=>(.sn mx (.asb (.nil (.seq (.sn mx (.mv e (.ln z7 e (.mv e (.ln z7 e (.c (.neI .none (.s e) (.s e)) (.nil (.cb e h (fun _ h=>?_) fun _ h=>?_)))))))))))))
 ·
  refine .sn mx (.asb (.nil (.ret (.thenRet ?_))))
  obtain rfl:=za h
  exact zb.rt Tryz.results11 e
 ·
  refine .skip (.then (.seq (.sn mx (.mv e (.ln z7 e (.mvi (.nil ?_)))))))
  obtain⟨o_2,h,hK2⟩:=ym h
  refine .tJ (fun s=>o_2=Res.nx s) Sub.nil ze.nil ?_ (fun j_2 hj2=>?_)
  ·
   refine .block (.rforEL h (fun p3_=>[(13,⟨True,rep p3_.1⟩)]) (fun p3_=>[]) (.k 13 e .nil) ze.nil (.k2 0 1 e e (.k 12 e .nil)) ze.nil (fun p3_ o_3 h hD3=>(.sn mx (.lt e e (.nil (.seq (.cb e h (fun _ h=>?_) fun _ h=>?_)))))))
   ·
    refine .skip (.then (.seq ?_))
    obtain⟨o_5,h,hK5⟩:=yK h
    unfold zhl at h
    refine .tJ (fun s=>o_5=Res.nx s) (.k4 0 1 12 13 e e e e .nil) ze.nil ?_ (fun j_5 hj5=>?_)
    ·
     obtain⟨hn6,h⟩:=zr h
     obtain⟨hn7,h⟩:=zr h
     refine .block (.sn mx (.mv e (.asn e (.nil (.sn mx (.mv e (.mv e (.ix z7 zR e e hn6 (.ld zR e (.mv e (.mv e (.ix z7 zR e e hn7 (.ld zR e (.c (.neS .none zmW (.s e) (.s e)) (.nil (.cb e h (fun _ h=>?_) fun _ h=>?_))))))))))))))))
     ·
      refine .sn mx (.asb (.nil (.ret (.blkRet (.thenRet (.thenRet (.blkRet (.thenRet ?_))))))))
      replace h:=yD hK5 (za h)
      replace h:=hD3 _ (za h)
      replace h:=z6 hK2 (za h)
      obtain rfl:=za h
      exact zb.rt Tryz.results11 e
     ·
      exact .skip (.blkNormal (zb.j _ (za h)))
    ·
     have h:=yN hK5 hj5
     exact .rn mx (.adi e (.mv e (.nil (zb.ag (za h)))))
   ·
    refine .exit (.thenExit (.thenExit (.blkExit ?_)))
    replace h:=hD3 _ (za h)
    exact zb.j _ (za h)
  ·
   have h:=yo hK2 hj2
   refine .sn mx (.asb (.nil (.ret ?_)))
   obtain rfl:=za h
   exact zb.rt Tryz.results11 e
theorem zrd {s1_1:(List zJ)}{s2_1:(List zJ)}{eq1:(zJ→zJ→Option Bool)}{r:Bool}  (h:zcR s1_1 s2_1 eq1=some r):zi Tryz.prog 49 [rep s1_1,rep s2_1,fn2 Tryz.prog (rep (α:=Bool)) eq1] (rep r):=by
 unfold zcR at h
 refine zi.i Tryz.func49 e Tryz.ntmps49 e (fun F=>(.sn mx (.asb (.nil (.seq (.sn mx (.mv e (.ln qk e (.mv e (.ln qk e (.c (.neI .none (.s e) (.s e)) (.nil (.cb e h (fun _ h=>?_) fun _ h=>?_)))))))))))))
 ·
  refine .sn mx (.asb (.nil (.ret (.thenRet ?_))))
  obtain rfl:=za h
  exact zb.rt Tryz.results49 e
 ·
  refine .skip (.then (.seq (.sn mx (.mv e (.ln qk e (.mvi (.nil ?_)))))))
  obtain⟨o_2,h,hK2⟩:=ym h
  refine .tJ (fun s=>o_2=Res.nx s) Sub.nil ze.nil ?_ (fun j_2 hj2=>?_)
  ·
   refine .block (.rforEL h (fun p3_=>[(17,⟨True,rep p3_.1⟩)]) (fun p3_=>[]) (.k 17 e .nil) ze.nil (.k4 1 2 15 16 e e e e .nil) ze.nil (fun p3_ o_3 h hD3=>(.sn mx (.lt e e (.nil (.seq (.cb e h (fun _ h=>?_) fun _ h=>?_)))))))
   ·
    refine .skip (.then (.seq ?_))
    obtain⟨o_5,h,hK5⟩:=yK h
    unfold zhk at h
    refine .tJ (fun s=>o_5=Res.nx s) (.k4 1 2 15 16 e e e e (.k 17 e .nil)) ze.nil ?_ (fun j_5 hj5=>?_)
    ·
     obtain⟨hn6,h⟩:=zr h
     obtain⟨v1,hv7,h⟩:=zh h
     obtain⟨hn8,h⟩:=zr h
     obtain⟨v2,hv9,h⟩:=zh h
     obtain⟨r1,hv10,h⟩:=bind_some h
     refine .block (.sr [oo,oo,oo,([],[8]),oo,([8],[8])] mx (.mvA e (.ixA qk yP e e hn6 (.rlA hv7 yP e (.al zae e (.asnA e (.st yP e e e (.nil (.freeze (t:=8) e e ze.nil e (.sr [oo,oo,oo,oo,([],[9]),([9],[9])] mx (.mvA e (.mvA e (.ixA qk yP e e hn8 (.rlA hv9 yP e (.al zae e (.st yP e e e (.nil (.freeze (t:=9) e e ze.nil e (.sn mx (.mv e (.ld yP e (.ld yP e (.c (.callV (v1,v2,r1) .none (.s e) (fun _=>hv10) (.cons (.s e) (.cons (.s e) .nil))) (.c (.not .none (.s e)) (.nil (.cb e h (fun _ h=>?_) fun _ h=>?_))))))))))))))))))))))))))
     ·
      refine .sn mx (.asb (.nil (.ret (.blkRet (.thenRet (.thenRet (.blkRet (.thenRet ?_))))))))
      replace h:=yD hK5 (za h)
      replace h:=hD3 _ (za h)
      replace h:=z6 hK2 (za h)
      obtain rfl:=za h
      exact zb.rt Tryz.results49 e
     ·
      exact .skip (.blkNormal (zb.j _ (za h)))
    ·
     have h:=yN hK5 hj5
     exact .rn mx (.adi e (.mv e (.nil (zb.ag (za h)))))
   ·
    refine .exit (.thenExit (.thenExit (.blkExit ?_)))
    replace h:=hD3 _ (za h)
    exact zb.j _ (za h)
  ·
   have h:=yo hK2 hj2
   refine .sn mx (.asb (.nil (.ret ?_)))
   obtain rfl:=za h
   exact zb.rt Tryz.results49 e
theorem zhn {s1_1:(List zd)}{s2_1:(List zd)}{r:Bool}  (h:YD s1_1 s2_1=some r):zi Tryz.prog 16 [rep s1_1,rep s2_1] (rep r):=by
 unfold YD at h
 refine zi.i Tryz.func16 e Tryz.ntmps16 e (fun F=>(.sn mx (.asb (.nil (.seq (.sn mx (.mv e (.ln zY e (.mv e (.ln zY e (.c (.neI .none (.s e) (.s e)) (.nil (.cb e h (fun _ h=>?_) fun _ h=>?_)))))))))))))
 ·
  refine .sn mx (.asb (.nil (.ret (.thenRet ?_))))
  obtain rfl:=za h
  exact zb.rt Tryz.results16 e
 ·
  refine .skip (.then (.seq (.sn mx (.mv e (.ln zY e (.mvi (.nil ?_)))))))
  obtain⟨o_2,h,hK2⟩:=ym h
  refine .tJ (fun s=>o_2=Res.nx s) Sub.nil ze.nil ?_ (fun j_2 hj2=>?_)
  ·
   refine .block (.rforEL h (fun p3_=>[(13,⟨True,rep p3_.1⟩)]) (fun p3_=>[]) (.k 13 e .nil) ze.nil (.k2 0 1 e e (.k 12 e .nil)) ze.nil (fun p3_ o_3 h hD3=>(.sn mx (.lt e e (.nil (.seq (.cb e h (fun _ h=>?_) fun _ h=>?_)))))))
   ·
    refine .skip (.then (.seq ?_))
    obtain⟨o_5,h,hK5⟩:=yK h
    unfold zhm at h
    refine .tJ (fun s=>o_5=Res.nx s) (.k4 0 1 12 13 e e e e .nil) ze.nil ?_ (fun j_5 hj5=>?_)
    ·
     obtain⟨hn6,h⟩:=zr h
     obtain⟨hn7,h⟩:=zr h
     refine .block (.sn mx (.mv e (.asn e (.nil (.sn mx (.mv e (.mv e (.ix zY zw e e hn6 (.ld zw e (.mv e (.mv e (.ix zY zw e e hn7 (.ld zw e (.c (.neS .none Js (.s e) (.s e)) (.nil (.cb e h (fun _ h=>?_) fun _ h=>?_))))))))))))))))
     ·
      refine .sn mx (.asb (.nil (.ret (.blkRet (.thenRet (.thenRet (.blkRet (.thenRet ?_))))))))
      replace h:=yD hK5 (za h)
      replace h:=hD3 _ (za h)
      replace h:=z6 hK2 (za h)
      obtain rfl:=za h
      exact zb.rt Tryz.results16 e
     ·
      exact .skip (.blkNormal (zb.j _ (za h)))
    ·
     have h:=yN hK5 hj5
     exact .rn mx (.adi e (.mv e (.nil (zb.ag (za h)))))
   ·
    refine .exit (.thenExit (.thenExit (.blkExit ?_)))
    replace h:=hD3 _ (za h)
    exact zb.j _ (za h)
  ·
   have h:=yo hK2 hj2
   refine .sn mx (.asb (.nil (.ret ?_)))
   obtain rfl:=za h
   exact zb.rt Tryz.results16 e
theorem zpO {x1:zJ}{y1:zJ}{r:Bool}  (h:JQ x1 y1=some r):zi Tryz.prog 50 [rep x1,rep y1] (rep r):=by
 unfold JQ at h
 obtain⟨r1,hv1,h⟩:=bind_some h
 refine zi.i Tryz.func50 e Tryz.ntmps50 e (fun F=>(.sn mx (.c (.box .none (.s e)) (.c (.box .none (.s e)) (.asb (.nil (.sn mx (.fa Yc Yj e (.ld ty9 e (.fa Yc Yj e (.ld ty9 e (.c (.eqS .none (qP Tryz.underlying9) (.s e) (.s e)) (.mv e (.fg Yd Yk e e e (.lg qJ e e e (.fg Yd Yk e e e (.lg qJ e e e (.c (.eqS (.at e e) zir (.tmp e id) (.tmp e id)) (.pa e e (.mv e (.fg Ye Yl e e e (.lg qJ e e e (.fg Ye Yl e e e (.lg qJ e e e (.c (.eqS (.at e e) zir (.tmp e id) (.tmp e id)) (.pa e e (.mv e (.fg vp Qk e e e (.lg vA e e e (.fg vp Qk e e e (.lg vA e e e (.c (.callIf (.at e e) ziJ (fun hg=>zhn ((fun hg=>yC hv1 (hg.2)) hg)) (.cons (.tmp e id) (.cons (.tmp e id) .nil)) (fun h=>h)) (.pa e e (.mv e (.fg zdl zdD e e e (.lg ty9 e e e (.fg zdl zdD e e e (.lg ty9 e e e (.c (.eqS (.at e e) (qP Tryz.underlying9) (.tmp e id) (.tmp e id)) (.pa e e (.mv e (.fg zbN zbX e e e (.lg ty9 e e e (.fg zbN zbX e e e (.lg ty9 e e e (.c (.eqS (.at e e) (qP Tryz.underlying9) (.tmp e id) (.tmp e id)) (.pa e e (.asn e (.nil (.ret ?_))))))))))))))))))))))))))))))))))))))))))))))))))
 obtain rfl:=za h
 exact zb.rt Tryz.results50 e
theorem zj9 {a1:Doc}{b1:Doc}{r:Bool}  (h:JP a1 b1=some r):zi Tryz.prog 20 [rep a1,rep b1] (rep r):=by
 unfold JP at h
 obtain⟨r1,hv1,h⟩:=bind_some h
 obtain⟨r2,hv2,h⟩:=bind_some h
 refine zi.i Tryz.func20 e Tryz.ntmps20 e (fun F=>(.sn mx (.c (.box .none (.s e)) (.c (.box .none (.s e)) (.asb (.nil (.sn mx (.fa yB yF e (.ld yE e (.fa yB yF e (.ld yE e (.c (.call .none (zkV hv1) (.cons (.s e) (.cons (.s e) .nil))) (.mv e (.fg ji jT e e e (.lg jJ e e e (.fg ji jT e e e (.lg jJ e e e (.c (.callIf (.at e e) zny (fun hg=>zrd ((fun hg=>yC hv2 (hg.2)) hg)) (.cons (.tmp e id) (.cons (.tmp e id) (.cons (Opd.func (ι:=zJ×zJ×Bool) (pre:=fun i=>JQ i.1 i.2.1=some i.2.2) (Ss:=fun i=>[rep i.1,rep i.2.1]) (S:=fun i=>rep i.2.2) znz (fun i h=>zpO h)) .nil))) (fun h=>h)) (.pa e e (.asn e (.nil (.ret ?_))))))))))))))))))))))
 obtain rfl:=za h
 exact zb.rt Tryz.results20 e
theorem zop {d1:Doc}{e1:Int}{want1:Int}{right1:Doc}{r:Bool}  (h:zb4 d1 e1 want1 right1=some r):zi Tryz.prog 10 [rep d1,rep e1,rep want1,rep right1] (rep r):=by
 unfold zb4 at h
 refine zi.i Tryz.func10 e Tryz.ntmps10 e (fun F=>(.sn mx (.c (.box .none (.s e)) (.c (.box .none (.s e)) (.asb (.nil (.seq (.sn mx (.mv e (.nei e (.nil (.cb e h (fun _ h=>?_) fun _ h=>?_))))))))))))
 ·
  refine .sn mx (.fa yB yF e (.ld yE e (.ln z7 e (.eqi e (.mv e (.fg ji jT e e e (.lg jJ e e e (.c (.len (.at e e) qk (.tmp e id)) (.c (.eqI (.at e e) (.tmp e id) .i) (.pa e e (.mv e (.mg e e e (.mg e e e (.c (.eqI (.at e e) (.tmp e id) (.tmp e id)) (.pa e e (.asn e (.nil (.ret (.thenRet ?_)))))))))))))))))))
  obtain rfl:=za h
  exact zb.rt Tryz.results10 e
 ·
  obtain⟨r1,hv2,h⟩:=bind_some h
  refine .skip (.then (.sn mx (.mv e (.eqi e (.mv e (.c (.load (.at e e) yz (.s e)) (.c (.load (.at e e) yz (.s e)) (.c (.callIf (.at e e) zns (fun hg=>zj9 ((fun hg=>yC hv2 (hg.2)) hg)) (.cons (.tmp e id) (.cons (.tmp e id) .nil)) (fun h=>h)) (.pa e e (.asn e (.nil (.ret ?_))))))))))))
  obtain rfl:=za h
  exact zb.rt Tryz.results10 e
theorem zei {a1:Int}{b1:Int}{r:Int}  (h:YY a1 b1=some r):zi Tryz.prog 123 [rep a1,rep b1] (rep r):=by
 unfold YY at h
 obtain⟨hn1,h⟩:=zr h
 obtain⟨q1,hv2,h⟩:=zh h
 refine zi.i Tryz.func123 e Tryz.ntmps123 e (fun F=>(.sn mx (.asi (.nil (.sn mx (.mv e (.mv e (.c (.quo .none (.s e) (.s e) (fun _=>hn1)) (.ra hv2 e (.nil (.seq (.sn mx (.mv e (.mv e (.c (.mulW .none (.s e) (.s e)) (.mv e (.c (.gt .none (.s e) (.s e)) (.nil ?_))))))))))))))))))
 obtain⟨j_3,h,hK3⟩:=bind_some h
 refine .thenJ (ι:=Int) (fun j_3=>[(5,⟨True,rep j_3⟩)]) (fun j_3=>[]) (fun s=>j_3=s) Sub.nil ze.nil ?_ (fun j_3' hj3=>?_)
 ·
  refine .cb e h (fun _ h=>?_) fun _ h=>?_
  ·
   obtain⟨q2,hv5,h⟩:=zh h
   exact .rn mx (.mv e (.c (.subW .none (.s e) .i) (.ra hv5 e (.nil (zb.j _ (za h))))))
  ·
   exact .skip (zb.j _ (za h))
 ·
  subst hj3;have h:=hK3;clear hK3
  refine .sn mx (.mv e (.asn e (.nil (.ret ?_))))
  obtain rfl:=za h
  exact zb.rt Tryz.results123 e
theorem zgJ {n1:Int}{r:Int}  (h:za1 n1=some r):zi Tryz.prog 95 [rep n1] (rep r):=by
 unfold za1 at h
 refine zi.i Tryz.func95 e Tryz.ntmps95 e (fun F=>(.sn mx (.asi (.nil (.sn mx (.mv e (.c (.max2 .none (.s e) .i) (.c (.min2 .none (.s e) .i) (.asn e (.nil (.ret ?_)))))))))))
 obtain rfl:=za h
 exact zb.rt Tryz.results95 e
theorem zpE {n1:Int}{most1:Int}{r:Int}  (h:QQ n1 most1=some r):zi Tryz.prog 138 [rep n1,rep most1] (rep r):=by
 unfold QQ at h
 obtain⟨r1,hv1,h⟩:=bind_some h
 refine zi.i Tryz.func138 e Tryz.ntmps138 e (fun F=>(.sn mx (.asi (.nil (.sn mx (.mv e (.mv e (.sub e e (.c (.call .none (zgJ hv1) (.cons (.s e) .nil)) (.asn e (.nil (.ret ?_))))))))))))
 obtain rfl:=za h
 exact zb.rt Tryz.results138 e
theorem Yt {n1:Int}{r:Int}  (h:jX n1=some r):zi Tryz.prog 94 [rep n1] (rep r):=by
 unfold jX at h
 refine zi.i Tryz.func94 e Tryz.ntmps94 e (fun F=>(.sn mx (.asi (.nil (.sn mx (.mv e (.mv e (.c (.negW .none (.s e)) (.c (.max2 .none (.s e) (.s e)) (.asn e (.nil (.ret ?_))))))))))))
 obtain rfl:=za h
 exact zb.rt Tryz.results94 e
theorem zek {kind1:Int}{b1:Box}{p1:zd}{r:Int}  (h:Yx kind1 b1 p1=some r):zi Tryz.prog 124 [rep kind1,rep b1,rep p1] (rep r):=by
 unfold Yx at h
 refine zi.i Tryz.func124 e Tryz.ntmps124 e (fun F=>(.sn mx (.c (.box .none (.s e)) (.c (.box .none (.s e)) (.asi (.nil (.sn mx (.c (.assign .none (Opd.func (ι:=Int×Int×Int) (pre:=fun i=>QQ i.1 i.2.1=some i.2.2) (Ss:=fun i=>[rep i.1,rep i.2.1]) (S:=fun i=>rep i.2.2) znp (fun i h=>zpE h))) ?_))))))))
 obtain⟨u1,hv1,h⟩:=zh h
 obtain⟨v1,hv2,h⟩:=zh h
 obtain⟨r1,hv3,h⟩:=bind_some h
 obtain⟨r2,hv4,h⟩:=bind_some h
 refine .nil (.sn mx (.fa yt yu e (.ld ty3 e (.fa qf y7 e (.ld ty3 e (.sub e e (.c (.mulW .none .i (.s e)) (.fa yQ yL e (.ld ty3 e (.sub e e (.fa yV yW e (.ld ty3 e (.fa qg y8 e (.ld ty3 e (.sub e e (.c (.mulW .none .i (.s e)) (.fa yU yR e (.ld ty3 e (.sub e e (.ra hv1 e (.ra hv2 e (.nil (.seq (.sn mx (.mv e (.c (.call .none (Yt hv3) (.cons (.s e) .nil)) (.fa yQ yL e (.ld ty3 e (.c (.gt .none (.s e) (.s e)) (.mv e (.mg e e e (.c (.callIf (.at e e) ziM (fun hg=>Yt ((fun hg=>yC hv4 ((qD hg.2))) hg)) (.cons (.tmp e id) .nil) (fun h=>h)) (.fg yU yR e e e (.lg ty3 e e e (.c (.gt (.at e e) (.tmp e id) (.tmp e id)) (.po e e (.nil (.cb e h (fun _ h=>?_) fun _ h=>?_))))))))))))))))))))))))))))))))))))))
 ·
  refine .sn mx (.asi (.nil (.ret (.thenRet ?_))))
  obtain rfl:=za h
  exact zb.rt Tryz.results124 e
 ·
  obtain⟨r3,hv6,h⟩:=bind_some h
  obtain⟨r4,hv7,h⟩:=bind_some h
  refine .skip (.then (.sn mx (.asi (.nil (.seq (.sn mx (.mv e (.c (.call .none (Yt hv6) (.cons (.s e) .nil)) (.fa yQ yL e (.ld ty3 e (.c (.eqI .none (.s e) (.s e)) (.mv e (.mg e e e (.c (.callIf (.at e e) ziM (fun hg=>Yt ((fun hg=>yC hv7 ((qD hg.2))) hg)) (.cons (.tmp e id) .nil) (fun h=>h)) (.fg yU yR e e e (.lg ty3 e e e (.c (.eqI (.at e e) (.tmp e id) (.tmp e id)) (.po e e (.nil ?_)))))))))))))))))))
  obtain⟨j_8,h,hK8⟩:=bind_some h
  refine .thenJ (ι:=Int) (fun j_8=>[(10,⟨True,rep j_8⟩)]) (fun j_8=>[]) (fun s=>j_8=s) (.k4 0 4 5 7 e e e e (.k2 8 9 e e .nil)) ze.nil ?_ (fun j_8' hj8=>?_)
  ·
   refine .cb e h (fun _ h=>?_) fun _ h=>?_
   ·
    exact .rn mx (.asi (.nil (zb.j _ (za h))))
   ·
    exact .skip (zb.j _ (za h))
  ·
   subst hj8;have h:=hK8;clear hK8
   refine .seq (.sn mx (.mv e (.nil ?_)))
   obtain⟨o_10,h,hK10⟩:=ym h
   refine .tJ (fun s=>o_10=Res.nx s) (.k 10 e .nil) ze.nil ?_ (fun j_10 hj10=>?_)
   ·
    refine .block (.sn mx (.eqi e (.asn e (.nil (.cb e h (fun _ h=>?_) fun _ h=>?_)))))
    ·
     obtain⟨r5,hv12,h⟩:=bind_some h
     refine .sn mx (.mv e (.mv e (.mv e (.c (.mulW .none (.s e) (.s e)) (.fa yU yR e (.ld ty3 e (.c (.mulW .none (.s e) (.s e)) (.fa yU yR e (.ld ty3 e (.c (.mulW .none (.s e) (.s e)) (.mv e (.mv e (.c (.mulW .none (.s e) (.s e)) (.fa yQ yL e (.ld ty3 e (.c (.mulW .none (.s e) (.s e)) (.fa yQ yL e (.ld ty3 e (.c (.mulW .none (.s e) (.s e)) (.add e e (.fa yQ yL e (.ld ty3 e (.fa yQ yL e (.ld ty3 e (.c (.mulW .none (.s e) (.s e)) (.fa yU yR e (.ld ty3 e (.c (.mulW .none (.s e) (.s e)) (.fa yU yR e (.ld ty3 e (.c (.mulW .none (.s e) (.s e)) (.c (.callV (W ((W ((W ((W (u1*u1))*b1.H))*b1.H))+(W ((W ((W (v1*v1))*b1.W_))*b1.W_))),W ((W ((W (b1.W_*b1.W_))*b1.H))*b1.H),r5) .none (.s e) (fun _=>hv12) (.cons (.s e) (.cons (.s e) .nil))) (.asn e (.nil (.ret (.blkRet (.thenRet ?_)))))))))))))))))))))))))))))))))))))
     replace h:=z6 hK10 (za h)
     obtain rfl:=za h
     exact zb.rt Tryz.results124 e
    ·
     refine .sn mx (.eqi e (.asn e (.nil (.cb e h (fun _ h=>?_) fun _ h=>?_))))
     ·
      obtain⟨r6,hv14,h⟩:=bind_some h
      obtain⟨r7,hv15,h⟩:=bind_some h
      obtain⟨r8,hv16,h⟩:=bind_some h
      refine .sn mx (.mv e (.mv e (.c (.call .none (Yt hv14) (.cons (.s e) .nil)) (.fa yU yR e (.ld ty3 e (.c (.mulW .none (.s e) (.s e)) (.mv e (.c (.call .none (Yt hv15) (.cons (.s e) .nil)) (.fa yQ yL e (.ld ty3 e (.c (.mulW .none (.s e) (.s e)) (.add e e (.fa yQ yL e (.ld ty3 e (.fa yU yR e (.ld ty3 e (.c (.mulW .none (.s e) (.s e)) (.c (.callV (W ((W (r6*b1.H))+(W (r7*b1.W_))),W (b1.W_*b1.H),r8) .none (.s e) (fun _=>hv16) (.cons (.s e) (.cons (.s e) .nil))) (.asn e (.nil (.ret (.blkRet (.thenRet ?_)))))))))))))))))))))))
      replace h:=z6 hK10 (za h)
      obtain rfl:=za h
      exact zb.rt Tryz.results124 e
     ·
      refine .sn mx (.eqi e (.asn e (.nil (.cb e h (fun _ h=>?_) fun _ h=>?_))))
      ·
       refine .sn mx (.fa yQ yL e (.ld ty3 e (.fa yU yR e (.ld ty3 e (.asn e (.asn e (.nil (.seq (.sn mx (.mv e (.mv e (.lt e e (.nil ?_)))))))))))))
       obtain⟨j_18,h,hK18⟩:=bind_some h
       refine .thenJ (ι:=(Int×Int×Int×Int)) (fun j_18=>[(8,⟨True,rep j_18.1⟩),(9,⟨True,rep j_18.2.1⟩),(11,⟨True,rep j_18.2.2.1⟩),(12,⟨True,rep j_18.2.2.2⟩)]) (fun j_18=>[]) (fun s=>j_18=s) (.k 7 e .nil) ze.nil ?_ (fun j_18' hj18=>?_)
       ·
        refine .cb e h (fun _ h=>?_) fun _ h=>?_
        ·
         exact .rn mx (.mv e (.mv e (.mv e (.mv e (.asn e (.asn e (.asn e (.asn e (.nil (zb.j _ (za h)))))))))))
        ·
         exact .skip (zb.j _ (za h))
       ·
        subst hj18;have h:=hK18;clear hK18
        obtain⟨r9,hv20,h⟩:=bind_some h
        obtain⟨s1,hv21,h⟩:=zh h
        obtain⟨r10,hv22,h⟩:=bind_some h
        refine .sn mx (.mv e (.c (.call .none (Yt hv20) (.cons (.s e) .nil)) (.mv e (.mv e (.sub e e (.sub e e (.c (.max2 .none (.s e) .i) (.ra hv21 e (.nil (.sn mx (.mv e (.mv e (.mv e (.c (.mulW .none (.s e) (.s e)) (.mv e (.mv e (.c (.mulW .none (.s e) (.s e)) (.add e e (.mv e (.mv e (.c (.mulW .none (.s e) (.s e)) (.c (.callV (W ((W (s1*s1))+(W (j_18.2.1*j_18.2.1))),W (j_18.2.2.2*j_18.2.2.2),r10) .none (.s e) (fun _=>hv22) (.cons (.s e) (.cons (.s e) .nil))) (.asn e (.nil (.ret (.blkRet (.thenRet ?_)))))))))))))))))))))))))))
        replace h:=z6 hK10 (za h)
        obtain rfl:=za h
        exact zb.rt Tryz.results124 e
      ·
       refine .sn mx (.eqi e (.asn e (.nil (.cb e h (fun _ h=>?_) fun _ h=>?_))))
       ·
        obtain⟨n1,hv24,h⟩:=zh h
        obtain⟨d1,hv25,h⟩:=zh h
        refine .sn mx (.fa yQ yL e (.ld ty3 e (.fa yU yR e (.ld ty3 e (.c (.min2 .none (.s e) (.s e)) (.c (.quo .none (.s e) .i (fun _=>by decide)) (.ra hv24 e (.nil (.sn mx (.fa yt yu e (.ld ty3 e (.fa qf y7 e (.ld ty3 e (.sub e e (.fa yQ yL e (.ld ty3 e (.sub e e (.mv e (.add e e (.fa yV yW e (.ld ty3 e (.fa qg y8 e (.ld ty3 e (.sub e e (.sub e e (.ra hv25 e (.nil (.seq (.sn mx (.mv e (.c (.gt .none (.s e) .i) (.mv e (.mg e e e (.c (.gt (.at e e) (.tmp e id) .i) (.pa e e (.nil (.cb e h (fun _ h=>?_) fun _ h=>?_)))))))))))))))))))))))))))))))))))))
        ·
         refine .sn mx (.asi (.nil (.ret (.thenRet (.blkRet (.thenRet ?_))))))
         replace h:=z6 hK10 (za h)
         obtain rfl:=za h
         exact zb.rt Tryz.results124 e
        ·
         refine .skip (.then (.sn mx (.mv e (.eqi e (.mv e (.mg e e e (.c (.gt (.at e e) (.tmp e id) .i) (.pa e e (.nil (.cb e h (fun _ h=>?_) fun _ h=>?_))))))))))
         ·
          refine .sn mx (.asi (.nil (.ret (.blkRet (.thenRet ?_)))))
          replace h:=z6 hK10 (za h)
          obtain rfl:=za h
          exact zb.rt Tryz.results124 e
         ·
          exact .skip (.blkNormal (zb.j _ (za h)))
       ·
        exact .skip (.blkNormal (zb.j _ (za h)))
   ·
    have h:=yo hK10 hj10
    refine .sn mx (.mv e (.asn e (.nil (.ret ?_))))
    obtain rfl:=za h
    exact zb.rt Tryz.results124 e
theorem zpN {kind1:Int}{b1:Box}{side1:Int}{at1:Int}{r:zd}  (h:zcp kind1 b1 side1 at1=some r):zi Tryz.prog 86 [rep kind1,rep b1,rep side1,rep at1] (rep r):=by
 unfold zcp at h
 obtain⟨v1,hv1,h⟩:=zh h
 obtain⟨r1,hv2,h⟩:=bind_some h
 obtain⟨r2,hv3,h⟩:=bind_some h
 obtain⟨x1,hv4,h⟩:=zh h
 obtain⟨y1,hv5,h⟩:=zh h
 refine zi.i Tryz.func86 e Tryz.ntmps86 e (fun F=>(.sr [oo,([],[8])] mx (.cA (.box .none (.s e)) (.al yG e (.nil (.reB (t:=8) e (congrArg (zE 46) hv1) (.nameBox (t:=8) (g:=5001) e e (fun m5001=>(.sn mx (.fa qf y7 e (.ld ty3 e (.fa yQ yL e (.ld ty3 e (.mv e (.c (.mulW .none (.s e) (.s e)) (.c (.call .none (zei hv2) (.cons (.s e) (.cons .i .nil))) (.add e e (.fa qg y8 e (.ld ty3 e (.fa yU yR e (.ld ty3 e (.mv e (.c (.mulW .none (.s e) (.s e)) (.c (.call .none (zei hv3) (.cons (.s e) (.cons .i .nil))) (.add e e (.ra hv4 e (.ra hv5 e (.nil (.seq (.sn mx (.mv e (.nil ?_))))))))))))))))))))))))))))))))
 obtain⟨o_6,h,hK6⟩:=ym h
 refine .tJ (fun s=>o_6=Res.nx s) (.k4 2 5 8 9 e e e e (.k 10 e .nil)) (.k 5001 e .nil) ?_ (fun j_6 hj6=>?_)
 ·
  refine .block (.sn mx (.eqi e (.asn e (.nil (.cb e h (fun _ h=>?_) fun _ h=>?_)))))
  ·
   refine .sn mx (.fa qg y8 e (.ld ty3 e (.asn e (.nil (.block (.loopL h (fun s8_=>[(11,⟨True,rep s8_⟩)]) (fun s8_=>[]) (.k 11 e .nil) ze.nil (.k4 0 2 5 8 e e e e (.k2 9 10 e e .nil)) (.k 5001 e .nil) (fun s8_ o_8 h hD8=>?_)))))))
   unfold zaX at h
   refine .seq (.sn mx (.mv e (.fa qg y8 e (.ld ty3 e (.fa yU yR e (.ld ty3 e (.add e e (.c (.le .none (.s e) (.s e)) (.nil (.cb e h (fun _ h=>?_) fun _ h=>?_))))))))))
   ·
    obtain⟨v2,hv10,h⟩:=zh h
    obtain⟨r3,hv11,h⟩:=bind_some h
    refine .skip (.then (.seq (.block (.sr [oo,oo,oo,([],[12]),([12],[12])] mx (.mvA e (.mvA e (.cA (.re hv10 (.buildF (y:=(⟨x1,s8_⟩:zd)) .none qe qh e (.cons (.s e) (.cons (.s e) .nil)) (.cons e qS (.cons e qV .nil)))) (.al yG e (.st zw e e e (.nil (.freeze (t:=12) e e (.k 5001 e .nil) e (.sn mx (.mv e (.ld zK e (.ld zw e (.c (.call .none (zek hv11) (.cons (.s e) (.cons (.s e) (.cons (.s e) .nil)))) (.c (.ge .none (.s e) .i) (.nil (.cb e h (fun _ h=>?_) fun _ h=>?_)))))))))))))))))))
    ·
     refine .sr [oo,([5001],[5001])] mx (.ldA zw e (.s0 5001 zw e e e (.nil (.fb 5001 [8] e (.cons (t:=8) e trivial .nil) (.ret (.blkRet (.thenRet (.thenRet (.blkRet (.blkRet (.thenRet ?_)))))))))))
     replace h:=hD8 _ (za h)
     replace h:=z6 hK6 (za h)
     obtain rfl:=za h
     exact zb.ret1 (.inl e) Tryz.results86 (zO.cellR zw e trivial Imp.refl)
    ·
     obtain⟨k1,hv13,h⟩:=zh h
     exact .skip (.blkNormal (.then (.rn mx (.mv e (.adi e (.ra hv13 e (.nil (zb.ag (za h)))))))))
   ·
    refine .exit (.thenExit (.thenExit (.blkExit (.blkNormal ?_))))
    replace h:=hD8 _ (za h)
    exact zb.j _ (za h)
  ·
   refine .sn mx (.eqi e (.asn e (.nil (.cb e h (fun _ h=>?_) fun _ h=>?_))))
   ·
    obtain⟨k2,hv15,h⟩:=zh h
    refine .sn mx (.fa qg y8 e (.ld ty3 e (.fa yU yR e (.ld ty3 e (.add e e (.ra hv15 e (.nil (.block (.loopL h (fun s16_=>[(13,⟨True,rep s16_⟩)]) (fun s16_=>[]) (.k 13 e .nil) ze.nil (.k4 0 2 5 8 e e e e (.k2 9 10 e e .nil)) (.k 5001 e .nil) (fun s16_ o_16 h hD16=>?_))))))))))
    unfold zaY at h
    refine .seq (.sn mx (.mv e (.fa qg y8 e (.ld ty3 e (.c (.ge .none (.s e) (.s e)) (.nil (.cb e h (fun _ h=>?_) fun _ h=>?_)))))))
    ·
     obtain⟨v3,hv18,h⟩:=zh h
     obtain⟨r4,hv19,h⟩:=bind_some h
     refine .skip (.then (.seq (.block (.sr [oo,oo,oo,([],[14]),([14],[14])] mx (.mvA e (.mvA e (.cA (.re hv18 (.buildF (y:=(⟨x1,s16_⟩:zd)) .none qe qh e (.cons (.s e) (.cons (.s e) .nil)) (.cons e qS (.cons e qV .nil)))) (.al yG e (.st zw e e e (.nil (.freeze (t:=14) e e (.k 5001 e .nil) e (.sn mx (.mv e (.ld zK e (.ld zw e (.c (.call .none (zek hv19) (.cons (.s e) (.cons (.s e) (.cons (.s e) .nil)))) (.c (.ge .none (.s e) .i) (.nil (.cb e h (fun _ h=>?_) fun _ h=>?_)))))))))))))))))))
     ·
      refine .sr [oo,([5001],[5001])] mx (.ldA zw e (.s0 5001 zw e e e (.nil (.fb 5001 [8] e (.cons (t:=8) e trivial .nil) (.ret (.blkRet (.thenRet (.thenRet (.blkRet (.blkRet (.thenRet ?_)))))))))))
      replace h:=hD16 _ (za h)
      replace h:=z6 hK6 (za h)
      obtain rfl:=za h
      exact zb.ret1 (.inl e) Tryz.results86 (zO.cellR zw e trivial Imp.refl)
     ·
      obtain⟨k3,hv21,h⟩:=zh h
      exact .skip (.blkNormal (.then (.rn mx (.mv e (.c (.subW .none (.s e) .i) (.ra hv21 e (.nil (zb.ag (za h)))))))))
    ·
     refine .exit (.thenExit (.thenExit (.blkExit (.blkNormal ?_))))
     replace h:=hD16 _ (za h)
     exact zb.j _ (za h)
   ·
    refine .sn mx (.eqi e (.asn e (.nil (.cb e h (fun _ h=>?_) fun _ h=>?_))))
    ·
     refine .sn mx (.fa qf y7 e (.ld ty3 e (.asn e (.nil (.block (.loopL h (fun s23_=>[(15,⟨True,rep s23_⟩)]) (fun s23_=>[]) (.k 15 e .nil) ze.nil (.k4 0 2 5 8 e e e e (.k2 9 10 e e .nil)) (.k 5001 e .nil) (fun s23_ o_23 h hD23=>?_)))))))
     unfold zaZ at h
     refine .seq (.sn mx (.mv e (.fa qf y7 e (.ld ty3 e (.fa yQ yL e (.ld ty3 e (.add e e (.c (.le .none (.s e) (.s e)) (.nil (.cb e h (fun _ h=>?_) fun _ h=>?_))))))))))
     ·
      obtain⟨v4,hv25,h⟩:=zh h
      obtain⟨r5,hv26,h⟩:=bind_some h
      refine .skip (.then (.seq (.block (.sr [oo,oo,oo,([],[16]),([16],[16])] mx (.mvA e (.mvA e (.cA (.re hv25 (.buildF (y:=(⟨s23_,y1⟩:zd)) .none qe qh e (.cons (.s e) (.cons (.s e) .nil)) (.cons e qS (.cons e qV .nil)))) (.al yG e (.st zw e e e (.nil (.freeze (t:=16) e e (.k 5001 e .nil) e (.sn mx (.mv e (.ld zK e (.ld zw e (.c (.call .none (zek hv26) (.cons (.s e) (.cons (.s e) (.cons (.s e) .nil)))) (.c (.ge .none (.s e) .i) (.nil (.cb e h (fun _ h=>?_) fun _ h=>?_)))))))))))))))))))
      ·
       refine .sr [oo,([5001],[5001])] mx (.ldA zw e (.s0 5001 zw e e e (.nil (.fb 5001 [8] e (.cons (t:=8) e trivial .nil) (.ret (.blkRet (.thenRet (.thenRet (.blkRet (.blkRet (.thenRet ?_)))))))))))
       replace h:=hD23 _ (za h)
       replace h:=z6 hK6 (za h)
       obtain rfl:=za h
       exact zb.ret1 (.inl e) Tryz.results86 (zO.cellR zw e trivial Imp.refl)
      ·
       obtain⟨k4,hv28,h⟩:=zh h
       exact .skip (.blkNormal (.then (.rn mx (.mv e (.adi e (.ra hv28 e (.nil (zb.ag (za h)))))))))
     ·
      refine .exit (.thenExit (.thenExit (.blkExit (.blkNormal ?_))))
      replace h:=hD23 _ (za h)
      exact zb.j _ (za h)
    ·
     obtain⟨k5,hv29,h⟩:=zh h
     refine .sn mx (.fa qf y7 e (.ld ty3 e (.fa yQ yL e (.ld ty3 e (.add e e (.ra hv29 e (.nil (.block (.loopL h (fun s30_=>[(17,⟨True,rep s30_⟩)]) (fun s30_=>[]) (.k 17 e .nil) ze.nil (.k4 0 2 5 8 e e e e (.k2 9 10 e e .nil)) (.k 5001 e .nil) (fun s30_ o_30 h hD30=>?_))))))))))
     unfold za0 at h
     refine .seq (.sn mx (.mv e (.fa qf y7 e (.ld ty3 e (.c (.ge .none (.s e) (.s e)) (.nil (.cb e h (fun _ h=>?_) fun _ h=>?_)))))))
     ·
      obtain⟨v5,hv32,h⟩:=zh h
      obtain⟨r6,hv33,h⟩:=bind_some h
      refine .skip (.then (.seq (.block (.sr [oo,oo,oo,([],[18]),([18],[18])] mx (.mvA e (.mvA e (.cA (.re hv32 (.buildF (y:=(⟨s30_,y1⟩:zd)) .none qe qh e (.cons (.s e) (.cons (.s e) .nil)) (.cons e qS (.cons e qV .nil)))) (.al yG e (.st zw e e e (.nil (.freeze (t:=18) e e (.k 5001 e .nil) e (.sn mx (.mv e (.ld zK e (.ld zw e (.c (.call .none (zek hv33) (.cons (.s e) (.cons (.s e) (.cons (.s e) .nil)))) (.c (.ge .none (.s e) .i) (.nil (.cb e h (fun _ h=>?_) fun _ h=>?_)))))))))))))))))))
      ·
       refine .sr [oo,([5001],[5001])] mx (.ldA zw e (.s0 5001 zw e e e (.nil (.fb 5001 [8] e (.cons (t:=8) e trivial .nil) (.ret (.blkRet (.thenRet (.thenRet (.blkRet (.blkRet (.thenRet ?_)))))))))))
       replace h:=hD30 _ (za h)
       replace h:=z6 hK6 (za h)
       obtain rfl:=za h
       exact zb.ret1 (.inl e) Tryz.results86 (zO.cellR zw e trivial Imp.refl)
      ·
       obtain⟨k6,hv35,h⟩:=zh h
       exact .skip (.blkNormal (.then (.rn mx (.mv e (.c (.subW .none (.s e) .i) (.ra hv35 e (.nil (zb.ag (za h)))))))))
     ·
      refine .exit (.thenExit (.thenExit (.blkExit (.blkNormal ?_))))
      replace h:=hD30 _ (za h)
      exact zb.j _ (za h)
 ·
  have h:=yo hK6 hj6
  refine .seq (.sn mx (.mv e (.eqi e (.mv e (.mg e e e (.c (.eqI (.at e e) (.tmp e id) .i) (.po e e (.nil (.cb e h (fun _ h=>?_) fun _ h=>?_)))))))))
  ·
   obtain⟨r7,hv37,h⟩:=bind_some h
   obtain⟨v6,hv38,h⟩:=zh h
   refine .sr [oo,oo,oo,oo,oo,oo,oo,oo,([5001],[5001])] mx (.mvA e (.faA qg y8 e (.ldA ty3 e (.faA yU yR e (.ldA ty3 e (.cA (.call .none (zei hv37) (.cons (.s e) (.cons .i .nil))) (.addA e e (.cA (.re hv38 (.buildF (y:=(⟨x1,W (b1.Y+r7)⟩:zd)) .none qe qh e (.cons (.s e) (.cons (.s e) .nil)) (.cons e qS (.cons e qV .nil)))) (.s0 5001 zw e e e (.nil (.fb 5001 [8] e (.cons (t:=8) e trivial .nil) (.ret (.thenRet ?_)))))))))))))
   obtain rfl:=za h
   exact zb.ret1 (.inl e) Tryz.results86 (zO.cellR zw e trivial Imp.refl)
  ·
   obtain⟨r8,hv39,h⟩:=bind_some h
   obtain⟨v7,hv40,h⟩:=zh h
   refine .skip (.then (.sr [oo,oo,oo,oo,oo,oo,oo,oo,([5001],[5001])] mx (.faA qf y7 e (.ldA ty3 e (.faA yQ yL e (.ldA ty3 e (.cA (.call .none (zei hv39) (.cons (.s e) (.cons .i .nil))) (.addA e e (.mvA e (.cA (.re hv40 (.buildF (y:=(⟨W (b1.X+r8),y1⟩:zd)) .none qe qh e (.cons (.s e) (.cons (.s e) .nil)) (.cons e qS (.cons e qV .nil)))) (.s0 5001 zw e e e (.nil (.fb 5001 [8] e (.cons (t:=8) e trivial .nil) (.ret ?_))))))))))))))
   obtain rfl:=za h
   exact zb.ret1 (.inl e) Tryz.results86 (zO.cellR zw e trivial Imp.refl)
theorem zeo {d1:Doc}{x1:yx}{r:zd}  (h:QT d1 x1=some r):zi Tryz.prog 33 [rep d1,rep x1] (rep r):=by
 unfold QT at h
 obtain⟨v1,hv1,h⟩:=zh h
 obtain⟨r1,hv2,h⟩:=bind_some h
 obtain⟨hn3,h⟩:=zr h
 obtain⟨v2,hv4,h⟩:=zh h
 obtain⟨r2,hv5,h⟩:=bind_some h
 refine zi.i Tryz.func33 e Tryz.ntmps33 e (fun F=>(.sr [oo,oo,([],[4])] mx (.cA (.box .none (.s e)) (.cA (.box .none (.s e)) (.al yG e (.nil (.reB (t:=4) e (congrArg (zE 46) hv1) (.nameBox (t:=4) (g:=5001) e e (fun m5001=>(.sr [oo,oo,oo,oo,oo,oo,oo,oo,([],[5]),([5],[5])] mx (.faA yB yF e (.ldA yE e (.ldA yz e (.faA zdk zbW e (.ldA ty9 e (.cA (.call .none (zaU hv2) (.cons (.s e) (.cons (.s e) .nil))) (.ixA z7 zR e e hn3 (.rlA hv4 zR e (.al qL e (.st zR e e e (.nil (.freeze (t:=5) e e (.k 5001 e .nil) e (.sr [oo,oo,oo,oo,oo,oo,oo,oo,oo,([5001],[5001])] mx (.faA jc qZ e (.ldA ty3 e (.faA QD Qj e (.ldA zK e (.faA Yb QI e (.ldA ty3 e (.faA zbM zaA e (.ldA ty3 e (.cA (.call .none (zpN hv5) (.cons (.s e) (.cons (.s e) (.cons (.s e) (.cons (.s e) .nil))))) (.s0 5001 zw e e e (.nil (.fb 5001 [4] e (.cons (t:=4) e trivial .nil) (.ret ?_))))))))))))))))))))))))))))))))))))
 obtain rfl:=za h
 exact zb.ret1 (.inl e) Tryz.results33 (zO.cellR zw e trivial Imp.refl)
theorem zpQ {d1:Doc}{x1:zJ}{clear1:Int}{r:zA}  (h:zcq d1 x1 clear1=some r):zi Tryz.prog 12 [rep d1,rep x1,rep clear1] (rep r):=by
 unfold zcq at h
 obtain⟨v1,hv1,h⟩:=zh h
 obtain⟨r1,hv2,h⟩:=bind_some h
 obtain⟨r2,hv3,h⟩:=bind_some h
 refine zi.i Tryz.func12 e Tryz.ntmps12 e (fun F=>(.sr [oo,oo,([],[6])] mx (.cA (.box .none (.s e)) (.cA (.box .none (.s e)) (.al ze5 e (.nil (.reB (t:=6) e (congrArg (zE 49) hv1) (.nameBox (t:=6) (g:=5001) e e (fun m5001=>(.sr [oo,oo,oo,oo,oo,oo,oo,oo,oo,oo,oo,oo,oo,oo,oo,oo,([],[7]),([7],[7])] mx (.ldA yz e (.faA Yd Yk e (.ldA qJ e (.cA (.call .none (zeo hv2) (.cons (.s e) (.cons (.s e) .nil))) (.faA Yd Yk e (.faA Yb QI e (.ldA ty3 e (.ldA yz e (.faA Ye Yl e (.ldA qJ e (.cA (.call .none (zeo hv3) (.cons (.s e) (.cons (.s e) .nil))) (.faA Ye Yl e (.faA Yb QI e (.ldA ty3 e (.mvA e (.cA (.buildF (y:=(⟨r1,x1.From.Side,r2,x1.To.Side,⟨.slice none 0 0⟩,clear1⟩:qX)) .none zdd zsa e (.cons (.s e) (.cons (.s e) (.cons (.s e) (.cons (.s e) (.cons (.s e) .nil))))) (.cons e zrt (.cons e zru (.cons e zrv (.cons e zrw (.cons e zry .nil)))))) (.al ze5 e (.cN (.storeH zrN e (by rfl) e (.s e)) (.nil (.nameAt (t:=7) (g:=5002) e e Ym e (fun m5002=>(.nilKey (g:=5003) (T:=30) (α:=Box) e (.seq (.sn mx (.fa yB yF e (.ld yE e (.ln z7 e (.mvi (.nil ?_)))))))))))))))))))))))))))))))))))))))
 obtain⟨j_4,h,hK4⟩:=bind_some h
 refine .thenJ (ι:=zA) (fun j_4=>[]) (fun j_4=>[(5002,some (zf.at (ptr m5002 0) (zZ (fun z0=>zE 49 (⟨j_4.From,j_4.FromSide,j_4.To,j_4.ToSide,⟨z0⟩,j_4.Clear⟩:qX)) (zk 30 j_4.Walls))))]) (fun s=>j_4=s) (.k2 6 7 e e .nil) (.k 5001 e .nil) ?_ (fun j_4' hj4=>?_)
 ·
  refine .block (.close (k:=5002) (g:=5003) (fun z=>zE 49 (⟨r1,x1.From.Side,r2,x1.To.Side,⟨z⟩,clear1⟩:qX)) e e e (.rforL h (fun p5_=>[(29,⟨True,rep p5_.1⟩)]) (fun p5_=>[(5002,some (zf.at (ptr m5002 0) (zZ (fun z0=>zE 49 (⟨p5_.2.From,p5_.2.FromSide,p5_.2.To,p5_.2.ToSide,⟨z0⟩,p5_.2.Clear⟩:qX)) (zk 30 p5_.2.Walls))))]) (.k 29 e .nil) (.k 5002 e .nil) (.k4 6 7 27 28 e e e e .nil) (.k 5001 e .nil) (fun p5_ o_5 h hD5=>(.open (k:=5002) (g:=5004) e e (fun s5004=>(.sn mx (.lt e e (.nil (.seq (.cb e h (fun _ h=>?_) fun _ h=>?_))))))))))
  ·
   refine .skip (.then (.seq ?_))
   obtain⟨j_7,h,hK7⟩:=bind_some h
   unfold zep at h
   refine .thenJ (ι:=zA) (fun j_7=>[]) (fun j_7=>[(5002,some (zf.at (ptr m5002 0) (zZ (fun z0=>zE 49 (⟨j_7.From,j_7.FromSide,j_7.To,j_7.ToSide,⟨z0⟩,j_7.Clear⟩:qX)) (zk 30 j_7.Walls))))]) (fun s=>j_7=s) (.k4 6 7 27 28 e e e e (.k 29 e .nil)) (.k 5001 e .nil) ?_ (fun j_7' hj7=>?_)
   ·
    obtain⟨hn8,h⟩:=zr h
    obtain⟨v2,hv9,h⟩:=zh h
    refine .block (.sr [oo,oo,([],[9]),([9],[9])] mx (.ixA z7 zR e e hn8 (.rlA hv9 zR e (.al qL e (.st zR e e e (.nil (.freeze (t:=9) e e (.k2 5001 5002 e e (.k 5004 e .nil)) e (.sn mx (.fa jc qZ e (.ld ty3 e (.nei e (.nil (.cb e h (fun _ h=>?_) fun _ h=>?_)))))))))))))
    ·
     obtain⟨hn11,h⟩:=zr h
     exact .rg [oo,([5002],[]),oo,oo,oo,([5004],[41,5004]),oo,([5002,41],[5002,41])] mx (.cA (.fieldPtr .none Yf (.s e)) (.cA (.loadAt (k:=5002) .none zrD e (.s e) zog) (.faA QD Qj e (.ldA zK e (.cA (.buildSlice (xs:=[_]) .none y5 zK zdF (.cons (.s e) .nil) e (by decide)) (.cW (.append (k:=5004) zeE e (.told (.s e) e) (.s e) hn11) (.cA (.fieldPtr .none Yf (.s e)) (.cN (.storeRow (k:=5002) (t:=41) Jj e (.s e) zrx e e) (.nil (.blkNormal (zb.j _ (za h))))))))))))
    ·
     exact .skip (.blkNormal (.close (k:=5002) (g:=5004) (fun z=>zE 49 (⟨p5_.2.From,p5_.2.FromSide,p5_.2.To,p5_.2.ToSide,⟨z⟩,p5_.2.Clear⟩:qX)) e e e (zb.j _ (za h))))
   ·
    subst hj7;have h:=hK7;clear hK7
    exact .open (k:=5002) (g:=5005) e e (fun s5005=>(.rn mx (.adi e (.mv e (.nil (.close (k:=5002) (g:=5005) (fun z=>zE 49 (⟨j_7.From,j_7.FromSide,j_7.To,j_7.ToSide,⟨z⟩,j_7.Clear⟩:qX)) e e e (zb.ag (za h))))))))
  ·
   refine .exit (.thenExit (.thenExit (.blkExit (.close (k:=5002) (g:=5004) (fun z=>zE 49 (⟨p5_.2.From,p5_.2.FromSide,p5_.2.To,p5_.2.ToSide,⟨z⟩,p5_.2.Clear⟩:qX)) e e e ?_))))
   replace h:=hD5 _ (za h)
   exact zb.j _ (za h)
 ·
  subst hj4;have h:=hK4;clear hK4
  refine .freezeAt (g:=5002) (S:=ref ({ j_4 with Walls:=j_4.Walls }:zA)) (ts:=[7]) e (.cons (t:=7) e trivial .nil) (.k 5001 e .nil) e (fun M D w h hms=>zfA (mk:=(fun s1_=>(⟨j_4.From,j_4.FromSide,j_4.To,j_4.ToSide,⟨s1_⟩,j_4.Clear⟩:qX))) (y:=({ j_4 with Walls:=j_4.Walls }:zA)) zdr e (fun M s1_ cs w hc g1=>by obtain⟨c0,q0,e0,h0,c1,q1,e1,h1,c2,q2,e2,h2,c3,q3,e3,h3,c4,q4,e4,h4,h5⟩:=hc;exact⟨c0,q0,e0,h0,c1,q1,e1,h1,c2,q2,e2,h2,c3,q3,e3,h3,c4,q4,e4,zaN e e h4 g1,h5⟩) M D w h hms) ?_
  obtain⟨v3,hv12,h⟩:=zh h
  refine .sr [oo,([5001],[5001])] mx (.rlA hv12 qn e (.s0 5001 qn e e e (.nil (.fb 5001 [6] e (.cons (t:=6) e trivial .nil) (.ret ?_)))))
  obtain rfl:=za h
  exact zb.ret1 (.inl e) Tryz.results12 (zO.cellR qn e trivial Imp.refl)
theorem zpJ {d1:Doc}{x1:zJ}{r:(List zd)}  (h:zcm d1 x1=some r):zi Tryz.prog 13 [rep d1,rep x1] (rep r):=by
 unfold zcm at h
 obtain⟨r1,hv1,h⟩:=bind_some h
 obtain⟨hn2,h⟩:=zr h
 obtain⟨l1,hv3,h⟩:=zh h
 obtain⟨r2,hv4,h⟩:=bind_some h
 obtain⟨hn5,h⟩:=zr h
 refine zi.i Tryz.func13 e Tryz.ntmps13 e (fun F=>(.sn mx (.c (.box .none (.s e)) (.c (.box .none (.s e)) (.c (.assign .none (.const (x:=([]:(List zd))) (fun M w=>⟨_,⟨none,0,rfl,Nat.le_refl _,by decide,rfl⟩,rfl⟩))) (.nil (.sr [oo,oo,oo,oo,([],[10]),oo,oo,([10],[13,10]),([13],[5,13])] mx (.ldA yz e (.faA Yd Yk e (.ldA qJ e (.cA (.call .none (zeo hv1) (.cons (.s e) (.cons (.s e) .nil))) (.cW (.buildSliceO (xs:=[_]) e zY zw JD (.cons (.s e) .nil) e (by decide)) (.faA vp Qk e (.ldA vA e (.cW (.append (k:=10) za6 e (.tmp e) (.s e) hn2) (.cW (.passRow e (.tmp e)) (.nil (.reB (t:=5) e (congrArg (zk 46) hv3) (.nameRow (t:=5) (g:=5001) e e e (fun s5001=>(.sr [oo,oo,oo,oo,oo,oo,([5001],[20,5001]),([20],[4,20])] mx (.mvA e (.ldA yz e (.faA Ye Yl e (.ldA qJ e (.cA (.call .none (zeo hv4) (.cons (.s e) (.cons (.s e) .nil))) (.cA (.buildSlice (xs:=[_]) .none zY zw JD (.cons (.s e) .nil) e (by decide)) (.cW (.append (k:=5001) za6 e (.told (.s e) e) (.s e) hn5) (.cW (.passRow e (.tmp e)) (.nil (.freezeRowA (t:=4) e e ze.nil e (.ret ?_))))))))))))))))))))))))))))))))
 obtain rfl:=za h
 exact zb.rt Tryz.results13 e
theorem zkf {side1:Int}{r:Int}  (h:zcw side1=some r):zi Tryz.prog 35 [rep side1] (rep r):=by
 unfold zcw at h
 obtain⟨r1,hv1,h⟩:=bind_some h
 obtain⟨r2,hv2,h⟩:=bind_some h
 refine zi.i Tryz.func35 e Tryz.ntmps35 e (fun F=>(.sn mx (.asi (.nil (.sn mx (.mv e (.c (.call .none (vw hv1) (.cons (.s e) (.cons .i (.cons .i .nil)))) (.c (.not .none (.s e)) (.c (.call .none (jw hv2) (.cons (.s e) (.cons .i .nil))) (.asn e (.nil (.ret ?_))))))))))))
 obtain rfl:=za h
 exact zb.rt Tryz.results35 e
theorem zpz {l1:(List Box)}{r:Int}  (h:zcg l1=some r):zi Tryz.prog 36 [rep l1] (rep r):=by
 unfold zcg at h
 refine zi.i Tryz.func36 e Tryz.ntmps36 e (fun F=>(.sn mx (.asi (.nil (.seq (.sn mx (.mv e (.ln y5 e (.c (.gt .none (.s e) .i) (.nil (.cb e h (fun _ h=>?_) fun _ h=>?_)))))))))))
 ·
  refine .sn mx (.asi (.nil (.ret (.thenRet ?_))))
  obtain rfl:=za h
  exact zb.rt Tryz.results36 e
 ·
  refine .skip (.then (.seq (.sn mx (.mv e (.ln y5 e (.mvi (.nil ?_)))))))
  obtain⟨o_2,h,hK2⟩:=ym h
  refine .tJ (fun s=>o_2=Res.nx s) Sub.nil ze.nil ?_ (fun j_2 hj2=>?_)
  ·
   refine .block (.rforEL h (fun p3_=>[(11,⟨True,rep p3_.1⟩)]) (fun p3_=>[]) (.k 11 e .nil) ze.nil (.k2 9 10 e e .nil) ze.nil (fun p3_ o_3 h hD3=>(.sn mx (.lt e e (.nil (.seq (.cb e h (fun _ h=>?_) fun _ h=>?_)))))))
   ·
    refine .skip (.then (.seq ?_))
    obtain⟨o_5,h,hK5⟩:=yK h
    unfold zgF at h
    refine .tJ (fun s=>o_5=Res.nx s) (.k2 9 10 e e (.k 11 e .nil)) ze.nil ?_ (fun j_5 hj5=>?_)
    ·
     obtain⟨hn6,h⟩:=zr h
     obtain⟨v1,hv7,h⟩:=zh h
     obtain⟨e1,hv8,h⟩:=bind_some h
     refine .block (.sr [oo,oo,([],[4]),([4],[4])] mx (.ixA y5 zK e e hn6 (.rlA hv7 zK e (.al q8 e (.st zK e e e (.nil (.freeze (t:=4) e e ze.nil e (.sn mx (.ld zK e (.c (.call .none (zgE hv8) (.cons (.s e) .nil)) (.asn e (.nil (.sn mx (.mv e (.nei e (.nil (.cb e h (fun _ h=>?_) fun _ h=>?_)))))))))))))))))
     ·
      refine .sn mx (.mv e (.asn e (.nil (.ret (.blkRet (.thenRet (.thenRet (.blkRet (.thenRet ?_)))))))))
      replace h:=yD hK5 (za h)
      replace h:=hD3 _ (za h)
      replace h:=z6 hK2 (za h)
      obtain rfl:=za h
      exact zb.rt Tryz.results36 e
     ·
      exact .skip (.blkNormal (zb.j _ (za h)))
    ·
     have h:=yN hK5 hj5
     exact .rn mx (.adi e (.mv e (.nil (zb.ag (za h)))))
   ·
    refine .exit (.thenExit (.thenExit (.blkExit ?_)))
    replace h:=hD3 _ (za h)
    exact zb.j _ (za h)
  ·
   have h:=yo hK2 hj2
   refine .sn mx (.asi (.nil (.ret ?_)))
   obtain rfl:=za h
   exact zb.rt Tryz.results36 e
end Go.Proofs.YtmfcdppbnbfpjaaGreatDoor
