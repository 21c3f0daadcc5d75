/- A part of the proof. -/
import Derived.Test.YtenpeohfmbilaaaGreatDoorDatWa2
set_option maxRecDepth 100000
set_option linter.unusedSimpArgs false
set_option linter.unusedVariables false
namespace Go.Proofs.YtenpeohfmbilaaaGreatDoor
open Go Go.DB Go.RowKit
theorem zi7 {l1:(List zv)}{r:(Doc×Int)}  (h:QK l1=some r):zk Tryz.prog 10 [rep l1] (tup [rep r.1,rep r.2]):=by
 unfold QK at h
 obtain⟨v1,hv1,h⟩:=zn h
 obtain⟨e1,hv2,h⟩:=bind_some h
 refine zk.i Tryz.func10 o Tryz.ntmps10 o (fun F=>(.sr [([],[2]),oo] mx (.al zbE o (.cA (.assign .none .i) (.nil (.reB (t:=2) o (congrArg (zM 25) hv1) (.nameBox (t:=2) (g:=5001) o o (fun m5001=>(.seq (.sn mx (.mv o (.c (.call .none (zoU hv2) (.cons (.s o) .nil)) (.asn o (.nil (.sn mx (.mv o (.nei o (.nil (.cb o h (fun _ h=>?_) fun _ h=>?_)))))))))))))))))))
 ·
  obtain⟨v2,hv4,h⟩:=zn h
  refine .sr [oo,oo,([5001],[5001]),oo] mx (.cA (.re hv4 (.buildF (y:=(⟨([]:(List zh)),([]:(List zu))⟩:Doc)) .none YI Jn o .nil .nil)) (.mvA o (.s0 5001 yq o o o (.asnA o (.nil (.fb 5001 [2] o (.cons (t:=2) o trivial .nil) (.ret (.thenRet ?_))))))))
  obtain rfl:=za h
  exact zb.r2 Tryz.results10 yq o o
 ·
  obtain⟨t1,hv5,h⟩:=bind_some h
  refine .skip (.then (.sn mx (.mv o (.c (.call .none (zo6 hv5).frzD (.cons (.s o) .nil)) (.asn o (.nil (.sr [([],[6])] mx (.cW (.nilRow (T:=82) (α:=zf) o) (.nil (.nameRow (t:=6) (g:=5002) o o o (fun s5002=>(.seq (.sn mx (.mv o (.ln qD o (.mvi (.nil ?_)))))))))))))))))
  obtain⟨o_6,h,hK6⟩:=ym h
  refine .thenJ (ι:=(List zf)) (fun j_6=>[]) (fun j_6=>[(6,some (zq 82 j_6))]) (fun s=>o_6=Res.nx s) (.k 2 o .nil) (.k 5001 o .nil) ?_ (fun j_6 hj6=>?_)
  ·
   refine .block (.anon (t:=6) (g:=5002) o o trivial o (.rforEL h (fun p7_=>[(25,⟨True,rep p7_.1⟩)]) (fun p7_=>[(6,some (zq 82 p7_.2))]) (.k 25 o .nil) (.k 6 o .nil) (.k4 2 5 23 24 o o o o .nil) (.k 5001 o .nil) (fun p7_ o_7 h hD7=>(.nameRow (t:=6) (g:=5003) o o o (fun s5003=>(.sn mx (.lt o o (.nil (.seq (.cb o h (fun _ h=>?_) fun _ h=>?_))))))))))
   ·
    refine .skip (.then (.seq ?_))
    obtain⟨o_9,h,hK9⟩:=yB h
    unfold zbR at h
    refine .thenJ (ι:=(List zf)) (fun j_9=>[]) (fun j_9=>[(6,some (zq 82 j_9))]) (fun s=>o_9=Res.nx s) (.k4 2 5 23 24 o o o o (.k 25 o .nil)) (.k 5001 o .nil) ?_ (fun j_9 hj9=>?_)
    ·
     obtain⟨hn10,h⟩:=zo h
     obtain⟨v3,hv11,h⟩:=zn h
     obtain⟨r1,hv12,h⟩:=bind_some h
     refine .block (.sr [oo,oo,([],[8]),([8],[8])] mx (.ixA qD y9 o o hn10 (.rlA hv11 y9 o (.al QY o (.st y9 o o o (.nil (.freeze (t:=8) o o (.k2 5001 5003 o o .nil) o (.sr [oo,oo,oo,oo,oo,oo,oo,oo,oo,oo,([],[9]),([9],[9]),oo] mx (.faA jq jr o (.ldA ty9 o (.mvA o (.faA jq jr o (.ldA ty9 o (.cA (.lookup .none zcv zh7 (.s o) (.s o)) (.cA (.call .none (zo5 hv12) (.cons (.s o) (.cons (.s o) .nil))) (.mvA o (.exA o o (.exA o o (.al znz o (.st yi o o o (.asnA o (.nil (.freeze (t:=9) o o (.k2 5001 5003 o o .nil) o (.seq (.sn mx (.mv o (.c (.not .none (.s o)) (.nil (.cb o h (fun _ h=>?_) fun _ h=>?_)))))))))))))))))))))))))))))
     ·
      obtain⟨v4,hv14,h⟩:=zn h
      refine .sr [oo,([5001],[5001]),oo] mx (.cA (.re hv14 (.buildF (y:=(⟨([]:(List zh)),([]:(List zu))⟩:Doc)) .none YI Jn o .nil .nil)) (.s0 5001 yq o o o (.cA (.assign .none .i) (.nil (.fb 5001 [2] o (.cons (t:=2) o trivial .nil) (.ret (.thenRet (.blkRet (.thenRet (.thenRet (.blkRet (.thenRet ?_))))))))))))
      replace h:=yf hK9 (za h)
      replace h:=hD7 _ (za h)
      replace h:=z8 hK6 (za h)
      obtain rfl:=za h
      exact zb.r2 Tryz.results10 yq o o
     ·
      obtain⟨hn15,h⟩:=zo h
      exact .skip (.then (.rg [oo,oo,oo,([5003],[45,5003]),([45],[6,45])] mx (.mvA o (.ldA yi o (.cA (.buildSlice (xs:=[_]) .none qt yi zqC (.cons (.s o) .nil) o (by decide)) (.cW (.append (k:=5003) zs1 o (.told (.s o) o) (.s o) hn15) (.cW (.passRow o (.tmp o)) (.nil (.blkNormal (zb.j _ (za h)))))))))))
    ·
     have h:=yD hK9 hj9
     exact .nameRow (t:=6) (g:=5004) o o o (fun s5004=>(.rn mx (.adi o (.mv o (.nil (.anon (t:=6) (g:=5004) o o trivial o (zb.ag (za h))))))))
   ·
    refine .exit (.thenExit (.thenExit (.blkExit (.anon (t:=6) (g:=5003) o o trivial o ?_))))
    replace h:=hD7 _ (za h)
    exact zb.j _ (za h)
  ·
   have h:=yn hK6 hj6
   obtain⟨r2,hv16,h⟩:=bind_some h
   refine .nameRow (t:=6) (g:=5005) o o o (fun s5005=>(.sr [oo,([5005],[5005])] mx (.mvA o (.cW (.cO [5005] (ztI hv16) (.cons (.s o) (.cons (Opd.func (ι:=zf×zf×Int) (pre:=fun i=>zaz i.1 i.2.1=some i.2.2) (Ss:=fun i=>[rep i.1,rep i.2.1]) (S:=fun i=>rep i.2.2) zpM (fun i h=>zoW h)) .nil)) (.cons (k:=5005) o .nil) o) (.nil (.freezeRow (g:=5005) (ts:=[6]) o (.cons (t:=6) o trivial .nil) (.k 5001 o .nil) o (.sr [([],[11])] mx (.al zuV o (.nil (.nameAt (t:=11) (g:=5006) o o QL o (fun m5006=>(.nilKey (g:=5007) (T:=45) (α:=zh) o (.nilKey (g:=5008) (T:=59) (α:=zu) o (.seq (.sn mx (.mv o (.ln qt o (.mvi (.nil ?_)))))))))))))))))))
   obtain⟨j_17,h,hK17⟩:=bind_some h
   refine .thenJ (ι:=Doc) (fun j_17=>[]) (fun j_17=>[(5006,some (ze.at (ptr m5006 0) (yg (fun z0=>yg (fun z1=>zM 25 (⟨⟨z0⟩,⟨z1⟩⟩:qL)) (zq 59 j_17.Edges)) (zq 45 j_17.Nodes))))]) (fun s=>j_17=s) (.k2 2 11 o o .nil) (.k 5001 o .nil) ?_ (fun j_17' hj17=>?_)
   ·
    refine .block (.close (k:=5006) (g:=5008) (fun z=>zM 25 (⟨⟨(.slice none 0 0)⟩,⟨z⟩⟩:qL)) o o o (.close (k:=5006) (g:=5007) (fun z=>yg (fun z0=>zM 25 (⟨⟨z⟩,⟨z0⟩⟩:qL)) (zq 59 ([]:List zu))) o o o (.rforL h (fun p18_=>[(51,⟨True,rep p18_.1⟩)]) (fun p18_=>[(5006,some (ze.at (ptr m5006 0) (yg (fun z0=>yg (fun z1=>zM 25 (⟨⟨z0⟩,⟨z1⟩⟩:qL)) (zq 59 p18_.2.Edges)) (zq 45 p18_.2.Nodes))))]) (.k 51 o .nil) (.k 5006 o .nil) (.k4 2 11 49 50 o o o o .nil) (.k 5001 o .nil) (fun p18_ o_18 h hD18=>(.open (k:=5006) (g:=5009) o o (fun s5009=>(.open (k:=5006) (g:=5010) o o (fun s5010=>(.sn mx (.lt o o (.nil (.seq (.cb o h (fun _ h=>?_) fun _ h=>?_)))))))))))))
    ·
     refine .skip (.then (.seq ?_))
     obtain⟨j_20,h,hK20⟩:=bind_some h
     unfold zbS at h
     refine .thenJ (ι:=Doc) (fun j_20=>[]) (fun j_20=>[(5006,some (ze.at (ptr m5006 0) (yg (fun z0=>yg (fun z1=>zM 25 (⟨⟨z0⟩,⟨z1⟩⟩:qL)) (zq 59 j_20.Edges)) (zq 45 j_20.Nodes))))]) (fun s=>j_20=s) (.k4 2 11 49 50 o o o o (.k 51 o .nil)) (.k 5001 o .nil) ?_ (fun j_20' hj20=>?_)
     ·
      obtain⟨hn21,h⟩:=zo h
      obtain⟨v5,hv22,h⟩:=zn h
      refine .block (.sr [oo,oo,([],[13]),([13],[13])] mx (.ixA qt yi o o hn21 (.rlA hv22 yi o (.al znz o (.st yi o o o (.nil (.freeze (t:=13) o o (.k2 5001 5006 o o (.k2 5009 5010 o o .nil)) o (.sn mx (.fa zd7 zkb o (.ld zng o (.c (.neNilP .none Tryz.underlying79 (.s o)) (.nil (.cb o h (fun _ h=>?_) fun _ h=>?_)))))))))))))
      ·
       obtain⟨p1,hv24,h⟩:=bind_some h
       obtain⟨hn25,h⟩:=zo h
       exact .rg [oo,([5006],[]),oo,oo,oo,oo,oo,([5009],[65,5009]),oo,([5006,65],[5006,65])] mx (.cA (.fieldPtr .none yX (.s o)) (.cA (.loadAt (k:=5006) .none zux o (.s o) zqu) (.faA zd7 zkb o (.cA (.isRef hv24 (.load .none zng (.s o))) (.cA (.nilCheckR .none (.s o)) (.ldA zJ o (.cA (.buildSlice (xs:=[_]) .none yh zJ zg0 (.cons (.s o) .nil) o (by decide)) (.cW (.append (k:=5009) zhF o (.told (.s o) o) (.s o) hn25) (.cA (.fieldPtr .none yX (.s o)) (.cN (.storeRow (k:=5006) (t:=65) y8 o (.s o) zub o o) (.nil (.blkNormal (.open (k:=5006) (g:=5011) o o (fun s5011=>(.close (k:=5006) (g:=5010) (fun z=>zM 25 (⟨⟨s5011⟩,⟨z⟩⟩:qL)) o o o (.close (k:=5006) (g:=5011) (fun z=>yg (fun z0=>zM 25 (⟨⟨z⟩,⟨z0⟩⟩:qL)) (zq 59 p18_.2.Edges)) o o o (zb.j _ (za h))))))))))))))))))
      ·
       obtain⟨p2,hv26,h⟩:=bind_some h
       obtain⟨hn27,h⟩:=zo h
       exact .rg [oo,([5006],[]),oo,oo,oo,oo,oo,([5010],[74,5010]),oo,([5006,74],[5006,74])] mx (.cA (.fieldPtr .none vM (.s o)) (.cA (.loadAt (k:=5006) .none zuy o (.s o) zqv) (.faA zgL zqs o (.cA (.isRef hv26 (.load .none zuD (.s o))) (.cA (.nilCheckR .none (.s o)) (.ldA yW o (.cA (.buildSlice (xs:=[_]) .none qY yW zkg (.cons (.s o) .nil) o (by decide)) (.cW (.append (k:=5010) zl7 o (.told (.s o) o) (.s o) hn27) (.cA (.fieldPtr .none vM (.s o)) (.cN (.storeRow (k:=5006) (t:=74) Qr o (.s o) zuc o o) (.nil (.blkNormal (.open (k:=5006) (g:=5012) o o (fun s5012=>(.close (k:=5006) (g:=5012) (fun z=>zM 25 (⟨⟨s5009⟩,⟨z⟩⟩:qL)) o o o (.close (k:=5006) (g:=5009) (fun z=>yg (fun z0=>zM 25 (⟨⟨z⟩,⟨z0⟩⟩:qL)) (zq 59 (p18_.2.Edges++[p2]))) o o o (zb.j _ (za h))))))))))))))))))
     ·
      subst hj20;have h:=hK20;clear hK20
      exact .open (k:=5006) (g:=5013) o o (fun s5013=>(.open (k:=5006) (g:=5014) o o (fun s5014=>(.rn mx (.adi o (.mv o (.nil (.close (k:=5006) (g:=5014) (fun z=>zM 25 (⟨⟨s5013⟩,⟨z⟩⟩:qL)) o o o (.close (k:=5006) (g:=5013) (fun z=>yg (fun z0=>zM 25 (⟨⟨z⟩,⟨z0⟩⟩:qL)) (zq 59 j_20.Edges)) o o o (zb.ag (za h)))))))))))
    ·
     refine .exit (.thenExit (.thenExit (.blkExit (.close (k:=5006) (g:=5010) (fun z=>zM 25 (⟨⟨s5009⟩,⟨z⟩⟩:qL)) o o o (.close (k:=5006) (g:=5009) (fun z=>yg (fun z0=>zM 25 (⟨⟨z⟩,⟨z0⟩⟩:qL)) (zq 59 p18_.2.Edges)) o o o ?_)))))
     replace h:=hD18 _ (za h)
     exact zb.j _ (za h)
   ·
    subst hj17;have h:=hK17;clear hK17
    refine .freezeAt (g:=5006) (S:=ref ({ j_17 with Nodes:=j_17.Nodes,Edges:=j_17.Edges }:Doc)) (ts:=[11]) o (.cons (t:=11) o trivial .nil) (.k 5001 o .nil) o (fun M D w h hms=>ziX (mk:=(fun s1_ s2_=>(⟨⟨s1_⟩,⟨s2_⟩⟩:qL))) (y:=({ j_17 with Nodes:=j_17.Nodes,Edges:=j_17.Edges }:Doc)) zef zef o (fun M s1_ s2_ cs w hc g1 g2=>by obtain⟨c0,q0,e0,h0,h1⟩:=hc;exact⟨c0,q0,e0,Y7 o o h0 g1,Y7 o o h1 g2⟩) M D w h hms) ?_
    obtain⟨e2,hv28,h⟩:=bind_some h
    refine .seq (.sn mx (.ld yq o (.c (.call .none (zlr hv28) (.cons (.s o) .nil)) (.asn o (.nil (.sn mx (.mv o (.nei o (.nil (.cb o h (fun _ h=>?_) fun _ h=>?_))))))))))
    ·
     obtain⟨v6,hv30,h⟩:=zn h
     refine .sr [oo,oo,([5001],[5001]),oo] mx (.cA (.re hv30 (.buildF (y:=(⟨([]:(List zh)),([]:(List zu))⟩:Doc)) .none YI Jn o .nil .nil)) (.mvA o (.s0 5001 yq o o o (.asnA o (.nil (.fb 5001 [2] o (.cons (t:=2) o trivial .nil) (.ret (.thenRet ?_))))))))
     obtain rfl:=za h
     exact zb.r2 Tryz.results10 yq o o
    ·
     obtain⟨v7,hv31,h⟩:=zn h
     refine .skip (.then (.sr [oo,([5001],[5001]),oo] mx (.rlA hv31 yq o (.s0 5001 yq o o o (.cA (.assign .none .i) (.nil (.fb 5001 [2] o (.cons (t:=2) o trivial .nil) (.ret ?_))))))))
     obtain rfl:=za h
     exact zb.r2 Tryz.results10 yq o o
theorem ztB {s1_1:(List zh)}{s2_1:(List zh)}{r:Bool}  (h:zdg s1_1 s2_1=some r):zk Tryz.prog 39 [rep s1_1,rep s2_1] (rep r):=by
 unfold zdg at h
 refine zk.i Tryz.func39 o Tryz.ntmps39 o (fun F=>(.sn mx (.asb (.nil (.seq (.sn mx (.mv o (.ln yh o (.mv o (.ln yh o (.c (.neI .none (.s o) (.s o)) (.nil (.cb o h (fun _ h=>?_) fun _ h=>?_)))))))))))))
 ·
  refine .sn mx (.asb (.nil (.ret (.thenRet ?_))))
  obtain rfl:=za h
  exact zb.rt Tryz.results39 o
 ·
  refine .skip (.then (.seq (.sn mx (.mv o (.ln yh o (.mvi (.nil ?_)))))))
  obtain⟨o_2,h,hK2⟩:=ym h
  refine .tJ (fun s=>o_2=Res.nx s) Sub.nil zd.nil ?_ (fun j_2 hj2=>?_)
  ·
   refine .block (.rforEL h (fun p3_=>[(13,⟨True,rep p3_.1⟩)]) (fun p3_=>[]) (.k 13 o .nil) zd.nil (.k2 0 1 o o (.k 12 o .nil)) zd.nil (fun p3_ o_3 h hD3=>(.sn mx (.lt o o (.nil (.seq (.cb o h (fun _ h=>?_) fun _ h=>?_)))))))
   ·
    refine .skip (.then (.seq ?_))
    obtain⟨o_5,h,hK5⟩:=yB h
    unfold zhP at h
    refine .tJ (fun s=>o_5=Res.nx s) (.k4 0 1 12 13 o o o o .nil) zd.nil ?_ (fun j_5 hj5=>?_)
    ·
     obtain⟨hn6,h⟩:=zo h
     obtain⟨hn7,h⟩:=zo h
     refine .block (.sn mx (.mv o (.asn o (.nil (.sn mx (.mv o (.mv o (.ix yh zJ o o hn6 (.ld zJ o (.mv o (.mv o (.ix yh zJ o o hn7 (.ld zJ o (.c (.neS .none zph (.s o) (.s o)) (.nil (.cb o h (fun _ h=>?_) fun _ h=>?_))))))))))))))))
     ·
      refine .sn mx (.asb (.nil (.ret (.blkRet (.thenRet (.thenRet (.blkRet (.thenRet ?_))))))))
      replace h:=yf hK5 (za h)
      replace h:=hD3 _ (za h)
      replace h:=z8 hK2 (za h)
      obtain rfl:=za h
      exact zb.rt Tryz.results39 o
     ·
      exact .skip (.blkNormal (zb.j _ (za h)))
    ·
     have h:=yD hK5 hj5
     exact .rn mx (.adi o (.mv o (.nil (zb.ag (za h)))))
   ·
    refine .exit (.thenExit (.thenExit (.blkExit ?_)))
    replace h:=hD3 _ (za h)
    exact zb.j _ (za h)
  ·
   have h:=yn hK2 hj2
   refine .sn mx (.asb (.nil (.ret ?_)))
   obtain rfl:=za h
   exact zb.rt Tryz.results39 o
theorem zty {s1_1:(List zu)}{s2_1:(List zu)}{eq1:(zu→zu→Option Bool)}{r:Bool}  (h:zde s1_1 s2_1 eq1=some r):zk Tryz.prog 40 [rep s1_1,rep s2_1,fn2 Tryz.prog (rep (α:=Bool)) eq1] (rep r):=by
 unfold zde at h
 refine zk.i Tryz.func40 o Tryz.ntmps40 o (fun F=>(.sn mx (.asb (.nil (.seq (.sn mx (.mv o (.ln qY o (.mv o (.ln qY o (.c (.neI .none (.s o) (.s o)) (.nil (.cb o h (fun _ h=>?_) fun _ h=>?_)))))))))))))
 ·
  refine .sn mx (.asb (.nil (.ret (.thenRet ?_))))
  obtain rfl:=za h
  exact zb.rt Tryz.results40 o
 ·
  refine .skip (.then (.seq (.sn mx (.mv o (.ln qY o (.mvi (.nil ?_)))))))
  obtain⟨o_2,h,hK2⟩:=ym h
  refine .tJ (fun s=>o_2=Res.nx s) Sub.nil zd.nil ?_ (fun j_2 hj2=>?_)
  ·
   refine .block (.rforEL h (fun p3_=>[(17,⟨True,rep p3_.1⟩)]) (fun p3_=>[]) (.k 17 o .nil) zd.nil (.k4 1 2 15 16 o o o o .nil) zd.nil (fun p3_ o_3 h hD3=>(.sn mx (.lt o o (.nil (.seq (.cb o h (fun _ h=>?_) fun _ h=>?_)))))))
   ·
    refine .skip (.then (.seq ?_))
    obtain⟨o_5,h,hK5⟩:=yB h
    unfold zfK at h
    refine .tJ (fun s=>o_5=Res.nx s) (.k4 1 2 15 16 o o o o (.k 17 o .nil)) zd.nil ?_ (fun j_5 hj5=>?_)
    ·
     obtain⟨hn6,h⟩:=zo h
     obtain⟨v1,hv7,h⟩:=zn h
     obtain⟨hn8,h⟩:=zo h
     obtain⟨v2,hv9,h⟩:=zn h
     obtain⟨r1,hv10,h⟩:=bind_some h
     refine .block (.sr [oo,oo,oo,([],[8]),oo,([8],[8])] mx (.mvA o (.ixA qY yW o o hn6 (.rlA hv7 yW o (.al YC o (.asnA o (.st yW o o o (.nil (.freeze (t:=8) o o zd.nil o (.sr [oo,oo,oo,oo,([],[9]),([9],[9])] mx (.mvA o (.mvA o (.ixA qY yW o o hn8 (.rlA hv9 yW o (.al YC o (.st yW o o o (.nil (.freeze (t:=9) o o zd.nil o (.sn mx (.mv o (.ld yW o (.ld yW o (.c (.callV (v1,v2,r1) .none (.s o) (fun _=>hv10) (.cons (.s o) (.cons (.s o) .nil))) (.c (.not .none (.s o)) (.nil (.cb o h (fun _ h=>?_) fun _ h=>?_))))))))))))))))))))))))))
     ·
      refine .sn mx (.asb (.nil (.ret (.blkRet (.thenRet (.thenRet (.blkRet (.thenRet ?_))))))))
      replace h:=yf hK5 (za h)
      replace h:=hD3 _ (za h)
      replace h:=z8 hK2 (za h)
      obtain rfl:=za h
      exact zb.rt Tryz.results40 o
     ·
      exact .skip (.blkNormal (zb.j _ (za h)))
    ·
     have h:=yD hK5 hj5
     exact .rn mx (.adi o (.mv o (.nil (zb.ag (za h)))))
   ·
    refine .exit (.thenExit (.thenExit (.blkExit ?_)))
    replace h:=hD3 _ (za h)
    exact zb.j _ (za h)
  ·
   have h:=yn hK2 hj2
   refine .sn mx (.asb (.nil (.ret ?_)))
   obtain rfl:=za h
   exact zb.rt Tryz.results40 o
theorem ztC {s1_1:(List zz)}{s2_1:(List zz)}{r:Bool}  (h:zdh s1_1 s2_1=some r):zk Tryz.prog 42 [rep s1_1,rep s2_1] (rep r):=by
 unfold zdh at h
 refine zk.i Tryz.func42 o Tryz.ntmps42 o (fun F=>(.sn mx (.asb (.nil (.seq (.sn mx (.mv o (.ln ji o (.mv o (.ln ji o (.c (.neI .none (.s o) (.s o)) (.nil (.cb o h (fun _ h=>?_) fun _ h=>?_)))))))))))))
 ·
  refine .sn mx (.asb (.nil (.ret (.thenRet ?_))))
  obtain rfl:=za h
  exact zb.rt Tryz.results42 o
 ·
  refine .skip (.then (.seq (.sn mx (.mv o (.ln ji o (.mvi (.nil ?_)))))))
  obtain⟨o_2,h,hK2⟩:=ym h
  refine .tJ (fun s=>o_2=Res.nx s) Sub.nil zd.nil ?_ (fun j_2 hj2=>?_)
  ·
   refine .block (.rforEL h (fun p3_=>[(13,⟨True,rep p3_.1⟩)]) (fun p3_=>[]) (.k 13 o .nil) zd.nil (.k2 0 1 o o (.k 12 o .nil)) zd.nil (fun p3_ o_3 h hD3=>(.sn mx (.lt o o (.nil (.seq (.cb o h (fun _ h=>?_) fun _ h=>?_)))))))
   ·
    refine .skip (.then (.seq ?_))
    obtain⟨o_5,h,hK5⟩:=yB h
    unfold zhQ at h
    refine .tJ (fun s=>o_5=Res.nx s) (.k4 0 1 12 13 o o o o .nil) zd.nil ?_ (fun j_5 hj5=>?_)
    ·
     obtain⟨hn6,h⟩:=zo h
     obtain⟨hn7,h⟩:=zo h
     refine .block (.sn mx (.mv o (.asn o (.nil (.sn mx (.mv o (.mv o (.ix ji jk o o hn6 (.ld jk o (.mv o (.mv o (.ix ji jk o o hn7 (.ld jk o (.c (.neS .none zpe (.s o) (.s o)) (.nil (.cb o h (fun _ h=>?_) fun _ h=>?_))))))))))))))))
     ·
      refine .sn mx (.asb (.nil (.ret (.blkRet (.thenRet (.thenRet (.blkRet (.thenRet ?_))))))))
      replace h:=yf hK5 (za h)
      replace h:=hD3 _ (za h)
      replace h:=z8 hK2 (za h)
      obtain rfl:=za h
      exact zb.rt Tryz.results42 o
     ·
      exact .skip (.blkNormal (zb.j _ (za h)))
    ·
     have h:=yD hK5 hj5
     exact .rn mx (.adi o (.mv o (.nil (zb.ag (za h)))))
   ·
    refine .exit (.thenExit (.thenExit (.blkExit ?_)))
    replace h:=hD3 _ (za h)
    exact zb.j _ (za h)
  ·
   have h:=yn hK2 hj2
   refine .sn mx (.asb (.nil (.ret ?_)))
   obtain rfl:=za h
   exact zb.rt Tryz.results42 o
theorem zsB {x1:zu}{y1:zu}{r:Bool}  (h:Je x1 y1=some r):zk Tryz.prog 41 [rep x1,rep y1] (rep r):=by
 unfold Je at h
 obtain⟨r1,hv1,h⟩:=bind_some h
 refine zk.i Tryz.func41 o Tryz.ntmps41 o (fun F=>(.sn mx (.c (.box .none (.s o)) (.c (.box .none (.s o)) (.asb (.nil (.sn mx (.fa j8 vt o (.ld ty9 o (.fa j8 vt o (.ld ty9 o (.c (.eqS .none (yy Tryz.underlying9) (.s o) (.s o)) (.mv o (.fg YN zaR o o o (.lg yV o o o (.fg YN zaR o o o (.lg yV o o o (.c (.eqS (.at o o) zjr (.tmp o id) (.tmp o id)) (.pa o o (.mv o (.fg YO zaS o o o (.lg yV o o o (.fg YO zaS o o o (.lg yV o o o (.c (.eqS (.at o o) zjr (.tmp o id) (.tmp o id)) (.pa o o (.mv o (.fg Qu Yk o o o (.lg QE o o o (.fg Qu Yk o o o (.lg QE o o o (.c (.callIf (.at o o) zpP (fun hg=>ztC ((fun hg=>qf hv1 (hg.2)) hg)) (.cons (.tmp o id) (.cons (.tmp o id) .nil)) (fun h=>h)) (.pa o o (.mv o (.fg JG zaT o o o (.lg ty9 o o o (.fg JG zaT o o o (.lg ty9 o o o (.c (.eqS (.at o o) (yy Tryz.underlying9) (.tmp o id) (.tmp o id)) (.pa o o (.mv o (.fg YP JN o o o (.lg ty9 o o o (.fg YP JN o o o (.lg ty9 o o o (.c (.eqS (.at o o) (yy Tryz.underlying9) (.tmp o id) (.tmp o id)) (.pa o o (.asn o (.nil (.ret ?_))))))))))))))))))))))))))))))))))))))))))))))))))
 obtain rfl:=za h
 exact zb.rt Tryz.results41 o
theorem zlV {a1:Doc}{b1:Doc}{r:Bool}  (h:J2 a1 b1=some r):zk Tryz.prog 11 [rep a1,rep b1] (rep r):=by
 unfold J2 at h
 obtain⟨r1,hv1,h⟩:=bind_some h
 obtain⟨r2,hv2,h⟩:=bind_some h
 refine zk.i Tryz.func11 o Tryz.ntmps11 o (fun F=>(.sn mx (.c (.box .none (.s o)) (.c (.box .none (.s o)) (.asb (.nil (.sn mx (.fa yX qc o (.ld y8 o (.fa yX qc o (.ld y8 o (.c (.call .none (ztB hv1) (.cons (.s o) (.cons (.s o) .nil))) (.mv o (.fg vM Qv o o o (.lg Qr o o o (.fg vM Qv o o o (.lg Qr o o o (.c (.callIf (.at o o) zpN (fun hg=>zty ((fun hg=>qf hv2 (hg.2)) hg)) (.cons (.tmp o id) (.cons (.tmp o id) (.cons (Opd.func (ι:=zu×zu×Bool) (pre:=fun i=>Je i.1 i.2.1=some i.2.2) (Ss:=fun i=>[rep i.1,rep i.2.1]) (S:=fun i=>rep i.2.2) zpO (fun i h=>zsB h)) .nil))) (fun h=>h)) (.pa o o (.asn o (.nil (.ret ?_))))))))))))))))))))))
 obtain rfl:=za h
 exact zb.rt Tryz.results11 o
theorem zsG {l1:(List zv)}{r:Int}  (h:zbk l1=some r):zk Tryz.prog 12 [rep l1] (rep r):=by
 unfold zbk at h
 refine zk.i Tryz.func12 o Tryz.ntmps12 o (fun F=>(.sn mx (.asi (.nil (.seq (.sn mx (.mv o (.ln qD o (.c (.gt .none (.s o) .i) (.nil (.cb o h (fun _ h=>?_) fun _ h=>?_)))))))))))
 ·
  refine .sn mx (.asi (.nil (.ret (.thenRet ?_))))
  obtain rfl:=za h
  exact zb.rt Tryz.results12 o
 ·
  refine .skip (.then (.seq (.sn mx (.mv o (.ln qD o (.mvi (.nil ?_)))))))
  obtain⟨o_2,h,hK2⟩:=ym h
  refine .tJ (fun s=>o_2=Res.nx s) Sub.nil zd.nil ?_ (fun j_2 hj2=>?_)
  ·
   refine .block (.rforEL h (fun p3_=>[(14,⟨True,rep p3_.1⟩)]) (fun p3_=>[]) (.k 14 o .nil) zd.nil (.k2 0 12 o o (.k 13 o .nil)) zd.nil (fun p3_ o_3 h hD3=>(.sn mx (.lt o o (.nil (.seq (.cb o h (fun _ h=>?_) fun _ h=>?_)))))))
   ·
    refine .skip (.then (.seq ?_))
    obtain⟨o_5,h,hK5⟩:=yB h
    unfold zfl at h
    refine .tJ (fun s=>o_5=Res.nx s) (.k4 0 12 13 14 o o o o .nil) zd.nil ?_ (fun j_5 hj5=>?_)
    ·
     obtain⟨hn6,h⟩:=zo h
     obtain⟨v1,hv7,h⟩:=zn h
     obtain⟨r1,hv8,h⟩:=bind_some h
     obtain⟨r2,hv9,h⟩:=bind_some h
     obtain⟨hn10,h⟩:=zo h
     obtain⟨r3,hv11,h⟩:=bind_some h
     obtain⟨r4,hv12,h⟩:=bind_some h
     obtain⟨r5,hv13,h⟩:=bind_some h
     obtain⟨e1,hv14,h⟩:=bind_some h
     refine .block (.sr [oo,oo,oo,([],[4]),oo,([4],[4])] mx (.mvA o (.ixA qD y9 o o hn6 (.rlA hv7 y9 o (.al QY o (.asnA o (.st y9 o o o (.nil (.freeze (t:=4) o o zd.nil o (.seq (.sn mx (.fa jq jr o (.ld ty9 o (.c (.call .none (zcQ hv8) (.cons (.s o) .nil)) (.c (.not .none (.s o)) (.c (.call .none (jt hv9) (.cons (.s o) (.cons .i .nil))) (.mv o (.c (.gt .none (.s o) .i) (.mv o (.fg jq jr o o o (.lg ty9 o o o (.mg o o o (.mg o o o (.c (.max2 (.at o o) (.tmp o id) .i) (.c (.subW (.at o o) (.tmp o id) .i) (.c (.indexAddr (.at o o) qD y9 (.tmp o id) (.tmp o id) (fun hg=>hn10 hg.2)) (.c (.fieldAddr (.at o o) jq jr (.tmp o id)) (.lg ty9 o o o (.c (.leStr (.at o o) (.tmp o id) (.tmp o id)) (.pa o o (.c (.call .none (jt hv11) (.cons (.s o) (.cons .i .nil))) (.fa jK Qg o (.ld vC o (.ln qZ o (.eqi o (.c (.call .none (jt hv12) (.cons (.s o) (.cons .i .nil))) (.fa jK Qg o (.ld vC o (.ln qZ o (.c (.gt .none (.s o) .i) (.c (.call .none (jt hv13) (.cons (.s o) (.cons .i .nil))) (.c (.buildSlice (xs:=[_,_,_,_]) .none QB QD Ym (.cons (.s o) (.cons (.s o) (.cons (.s o) (.cons (.s o) .nil)))) o (by decide)) (.c (.call .none (Yt hv14) (.cons (.s o) .nil)) (.asn o (.nil (.sn mx (.mv o (.nei o (.nil (.cb o h (fun _ h=>?_) fun _ h=>?_))))))))))))))))))))))))))))))))))))))))))))))))))
     ·
      refine .sn mx (.mv o (.asn o (.nil (.ret (.thenRet (.blkRet (.thenRet (.thenRet (.blkRet (.thenRet ?_))))))))))
      replace h:=yf hK5 (za h)
      replace h:=hD3 _ (za h)
      replace h:=z8 hK2 (za h)
      obtain rfl:=za h
      exact zb.rt Tryz.results12 o
     ·
      refine .skip (.then (.sn mx (.fa jK Qg o (.ld vC o (.ln qZ o (.mvi (.nil (.block (.rforEL h (fun p16_=>[(57,⟨True,rep p16_.1⟩)]) (fun p16_=>[]) (.k 57 o .nil) zd.nil (.k4 0 4 12 13 o o o o (.k2 14 55 o o (.k 56 o .nil))) zd.nil (fun p16_ o_16 h hD16=>(.sn mx (.lt o o (.nil (.seq (.cb o h (fun _ h=>?_) fun _ h=>?_)))))))))))))))
      ·
       refine .skip (.then (.seq ?_))
       obtain⟨o_18,h,hK18⟩:=yB h
       unfold zcY at h
       refine .tJ (fun s=>o_18=Res.nx s) (.k4 0 4 12 13 o o o o (.k4 14 55 56 57 o o o o .nil)) zd.nil ?_ (fun j_18 hj18=>?_)
       ·
        obtain⟨hn19,h⟩:=zo h
        obtain⟨v2,hv20,h⟩:=zn h
        obtain⟨r6,hv21,h⟩:=bind_some h
        obtain⟨r7,hv22,h⟩:=bind_some h
        obtain⟨hn23,h⟩:=zo h
        obtain⟨r8,hv24,h⟩:=bind_some h
        obtain⟨r9,hv25,h⟩:=bind_some h
        obtain⟨e2,hv26,h⟩:=bind_some h
        refine .block (.sr [oo,oo,oo,([],[7]),oo,([7],[7])] mx (.mvA o (.ixA qZ q7 o o hn19 (.rlA hv20 q7 o (.al zf2 o (.asnA o (.st q7 o o o (.nil (.freeze (t:=7) o o zd.nil o (.sn mx (.fa YQ Yl o (.ld ty9 o (.c (.call .none (zcQ hv21) (.cons (.s o) .nil)) (.c (.not .none (.s o)) (.c (.call .none (jt hv22) (.cons (.s o) (.cons .i .nil))) (.mv o (.c (.gt .none (.s o) .i) (.mv o (.fg YQ Yl o o o (.lg ty9 o o o (.fg jK Qg o o o (.lg vC o o o (.mg o o o (.c (.max2 (.at o o) (.tmp o id) .i) (.c (.subW (.at o o) (.tmp o id) .i) (.c (.indexAddr (.at o o) qZ q7 (.tmp o id) (.tmp o id) (fun hg=>hn23 hg.2)) (.c (.fieldAddr (.at o o) YQ Yl (.tmp o id)) (.lg ty9 o o o (.c (.leStr (.at o o) (.tmp o id) (.tmp o id)) (.pa o o (.c (.call .none (jt hv24) (.cons (.s o) (.cons .i .nil))) (.fa zd8 zcn o (.ld ty9 o (.c (.call .none (zhy hv25) (.cons (.s o) .nil)) (.c (.buildSlice (xs:=[_,_,_]) .none QB QD Ym (.cons (.s o) (.cons (.s o) (.cons (.s o) .nil))) o (by decide)) (.c (.call .none (Yt hv26) (.cons (.s o) .nil)) (.asn o (.nil (.sn mx (.mv o (.nei o (.nil (.cb o h (fun _ h=>?_) fun _ h=>?_)))))))))))))))))))))))))))))))))))))))))))
        ·
         refine .sn mx (.mv o (.asn o (.nil (.ret (.blkRet (.thenRet (.thenRet (.blkRet (.blkRet (.thenRet (.thenRet (.blkRet (.thenRet ?_)))))))))))))
         replace h:=yf hK18 (za h)
         replace h:=hD16 _ (za h)
         replace h:=yf hK5 (za h)
         replace h:=hD3 _ (za h)
         replace h:=z8 hK2 (za h)
         obtain rfl:=za h
         exact zb.rt Tryz.results12 o
        ·
         exact .skip (.blkNormal (zb.j _ (za h)))
       ·
        have h:=yD hK18 hj18
        exact .rn mx (.adi o (.mv o (.nil (zb.ag (za h)))))
      ·
       refine .exit (.thenExit (.thenExit (.blkExit (.blkNormal ?_))))
       replace h:=hD16 _ (za h)
       exact zb.j _ (za h)
    ·
     have h:=yD hK5 hj5
     exact .rn mx (.adi o (.mv o (.nil (zb.ag (za h)))))
   ·
    refine .exit (.thenExit (.thenExit (.blkExit ?_)))
    replace h:=hD3 _ (za h)
    exact zb.j _ (za h)
  ·
   have h:=yn hK2 hj2
   refine .sn mx (.asi (.nil (.ret ?_)))
   obtain rfl:=za h
   exact zb.rt Tryz.results12 o
theorem zsw {l1:(List zv)}{r:(GMap Str (GMap Str Str))}  (h:zcP l1=some r):ya Tryz.prog 47 [rep l1] [] (z7) [some (yd none r)]:=by
 unfold zcP at h
 obtain⟨m1,hv1,h⟩:=zn h
 refine ya.i Tryz.func47 o Tryz.ntmps47 o (fun F=>(.sn mx (.c (.assign .none (.const (x:=(GMap.nil:(GMap Str (GMap Str Str)))) (fun M w=>⟨_,zhf,rfl⟩))) (.nil (.sr [([],[8]),([8],[3,8])] mx (.cW (.makeMapD (K:=Str) (K2:=Str) (V:=Str) o) (.cW (.passRow o (.tmp o)) (.nil (.reB (t:=3) o (congrArg (yd none) hv1) (.nameC (t:=3) (g:=5001) zeQ o o o (fun s5001=>(.seq (.sn mx (.mv o (.ln qD o (.mvi (.nil ?_)))))))))))))))))
 obtain⟨j_2,h,hK2⟩:=bind_some h
 refine .thenJ (ι:=(GMap Str (GMap Str Str))) (fun j_2=>[]) (fun j_2=>[(5001,some (ze.at s5001 (yd none j_2)))]) (fun s=>j_2=s) (.k 3 o .nil) zd.nil ?_ (fun j_2' hj2=>?_)
 ·
  refine .block (.rforL h (fun p3_=>[(11,⟨True,rep p3_.1⟩)]) (fun p3_=>[(5001,some (ze.at s5001 (yd none p3_.2)))]) (.k 11 o .nil) (.k 5001 o .nil) (.k2 3 9 o o (.k 10 o .nil)) zd.nil (fun p3_ o_3 h hD3=>(.sn mx (.lt o o (.nil (.seq (.cb o h (fun _ h=>?_) fun _ h=>?_)))))))
  ·
   refine .skip (.then (.seq ?_))
   obtain⟨j_5,h,hK5⟩:=bind_some h
   unfold zfh at h
   refine .thenJ (ι:=(GMap Str (GMap Str Str))) (fun j_5=>[]) (fun j_5=>[(5001,some (ze.at s5001 (yd none j_5)))]) (fun s=>j_5=s) (.k4 3 9 10 11 o o o o .nil) zd.nil ?_ (fun j_5' hj5=>?_)
   ·
    obtain⟨hn6,h⟩:=zo h
    obtain⟨v1,hv7,h⟩:=zn h
    obtain⟨m2,hv8,h⟩:=zn h
    refine .block (.sr [oo,oo,([],[5]),([5],[5])] mx (.ixA qD y9 o o hn6 (.rlA hv7 y9 o (.al QY o (.st y9 o o o (.nil (.freeze (t:=5) o o (.k 5001 o .nil) o (.sr [oo,oo,oo,([],[18]),([5001,18],[5001,18])] mx (.mvA o (.faA jq jr o (.ldA ty9 o (.cW (.makeMap (K:=Str) (V:=Str) o) (.cN (.mapPutD (q:=5001) (t:=18) YW o (.s o) o o o (.s o)) (.nil (.reB (t:=5001) o (congrArg (fun y=>ze.at s5001 (yd none y)) hv8) (.sn mx (.fa jK Qg o (.ld vC o (.ln qZ o (.mvi (.nil (.block (.rforL h (fun p9_=>[(22,⟨True,rep p9_.1⟩)]) (fun p9_=>[(5001,some (ze.at s5001 (yd none p9_.2)))]) (.k 22 o .nil) (.k 5001 o .nil) (.k4 3 5 9 10 o o o o (.k2 11 20 o o (.k 21 o .nil))) zd.nil (fun p9_ o_9 h hD9=>(.sn mx (.lt o o (.nil (.seq (.cb o h (fun _ h=>?_) fun _ h=>?_)))))))))))))))))))))))))))))
    ·
     refine .skip (.then (.seq ?_))
     obtain⟨j_11,h,hK11⟩:=bind_some h
     unfold zfi at h
     refine .thenJ (ι:=(GMap Str (GMap Str Str))) (fun j_11=>[]) (fun j_11=>[(5001,some (ze.at s5001 (yd none j_11)))]) (fun s=>j_11=s) (.k4 3 5 9 10 o o o o (.k4 11 20 21 22 o o o o .nil)) zd.nil ?_ (fun j_11' hj11=>?_)
     ·
      obtain⟨hn12,h⟩:=zo h
      obtain⟨v2,hv13,h⟩:=zn h
      obtain⟨hn14,h⟩:=zo h
      exact .block (.sr [oo,oo,([],[7]),([7],[7])] mx (.ixA qZ q7 o o hn12 (.rlA hv13 q7 o (.al zf2 o (.st q7 o o o (.nil (.freeze (t:=7) o o (.k 5001 o .nil) o (.openM (q:=5001) (r:=5002) (k:=v1.Id) o o hn14 (fun s5002=>(.rg [oo,oo,oo,([5001],[]),oo,oo,oo,oo,([5002],[5002])] mx (.mvA o (.faA jq jr o (.ldA ty9 o (.cA (.lookPin (q:=5001) (z:=s5002) .none YW zf3 (.s o) o (.s o)) (.faA YQ Yl o (.ldA ty9 o (.faA zd8 zcn o (.ldA ty9 o (.cN (.mapUpdate (q:=5002) yF (.s o) o (.s o) (.s o)) (.nil (.blkNormal (.closeM (q:=5001) (r:=5002) o o o (zb.j _ (za h))))))))))))))))))))))))
     ·
      subst hj11;have h:=hK11;clear hK11
      exact .rn mx (.adi o (.mv o (.nil (zb.ag (za h)))))
    ·
     refine .exit (.thenExit (.thenExit (.blkExit (.blkNormal ?_))))
     replace h:=hD9 _ (za h)
     exact zb.j _ (za h)
   ·
    subst hj5;have h:=hK5;clear hK5
    exact .rn mx (.adi o (.mv o (.nil (zb.ag (za h)))))
  ·
   refine .exit (.thenExit (.thenExit (.blkExit ?_)))
   replace h:=hD3 _ (za h)
   exact zb.j _ (za h)
 ·
  subst hj2;have h:=hK2;clear hK2
  refine .sn mx (.mv o (.asn o (.nil (.ret (.anon (t:=2) (g:=5001) o o trivial o ?_)))))
  obtain rfl:=za h
  exact zb.ret1O (.inl o) [2] Tryz.results47 (by decide) (.res o o) (yb.tmp o trivial (fun _ _ _ _=>trivial))
theorem QS {m1:(GMap Str Str)}{f1:Str}{r:(Str×Bool×(GMap Str Str))}{s18:Value}(h:vg m1 f1=some r):ya Tryz.prog 48 [isV s18,rep f1] [(s18,zR m1)] (tup [rep r.1,rep r.2.1]) [some (zR r.2.2)]:=by
 unfold vg at h
 obtain⟨c1,hv1,h⟩:=zn h
 refine ya.i Tryz.func48 o Tryz.ntmps48 o (fun F=>(.sn mx (.c (.assign .none (.str (l:=[]) (by decide))) (.asb (.nil (.sr [oo,oo,([18],[]),oo,oo,oo,oo,oo] mx (.mvA o (.mvA o (.cA (.lookupOkO (q:=18) .none yF zo9 zcB (.told (.s o) o) (.s o)) (.mvA o (.exA o o (.exA o o (.asnA o (.asnA o (.nil (.sr [oo,oo,([18],[18])] mx (.mvA o (.mvA o (.cN (.mapDelete (q:=18) yF (.s o) o (.s o)) (.nil (.reB (t:=18) o (congrArg (fun y=>ze.at s18 (zR y)) hv1) (.sn mx (.mv o (.mv o (.asn o (.asn o (.nil (.ret ?_))))))))))))))))))))))))))))
 obtain rfl:=za h
 exact zb.ret2O (.inl o) [18] Tryz.results48 (by decide) (.held o .nil) (yb.tmp o trivial Imp.refl) (yb.tmp o trivial Imp.refl)
theorem zfk {s1:Str}{r:((List Int)×Bool)}  (h:Jd s1=some r):zk Tryz.prog 49 [rep s1] (tup [rep r.1,rep r.2]):=by
 unfold Jd at h
 obtain⟨r1,hv1,h⟩:=bind_some h
 refine zk.i Tryz.func49 o Tryz.ntmps49 o (fun F=>(.sn mx (.c (.assign .none (.const (x:=([]:(List Int))) (fun M w=>⟨_,⟨none,0,rfl,Nat.le_refl _,by decide,rfl⟩,rfl⟩))) (.asb (.nil (.sr [([],[4])] mx (.cW (.nilRow (T:=3) (α:=Int) o) (.nil (.nameRow (t:=4) (g:=5001) o o o (fun s5001=>(.seq (.sn mx (.mv o (.c (.call .none (zbB hv1).frz (.cons (.s o) (.cons (.str (l:=[32]) (by decide)) .nil))) (.ln yO o (.mvi (.nil ?_)))))))))))))))))
 obtain⟨o_2,h,hK2⟩:=ym h
 refine .thenJ (ι:=(List Int)) (fun j_2=>[]) (fun j_2=>[(4,some (zq 3 j_2))]) (fun s=>o_2=Res.nx s) Sub.nil zd.nil ?_ (fun j_2 hj2=>?_)
 ·
  refine .block (.anon (t:=4) (g:=5001) o o trivial o (.rforEL h (fun p3_=>[(12,⟨True,rep p3_.1⟩)]) (fun p3_=>[(4,some (zq 3 p3_.2))]) (.k 12 o .nil) (.k 4 o .nil) (.k2 10 11 o o .nil) zd.nil (fun p3_ o_3 h hD3=>(.nameRow (t:=4) (g:=5002) o o o (fun s5002=>(.sn mx (.lt o o (.nil (.seq (.cb o h (fun _ h=>?_) fun _ h=>?_))))))))))
  ·
   refine .skip (.then (.seq ?_))
   obtain⟨o_5,h,hK5⟩:=yB h
   unfold zcV at h
   refine .thenJ (ι:=(List Int)) (fun j_5=>[]) (fun j_5=>[(4,some (zq 3 j_5))]) (fun s=>o_5=Res.nx s) (.k2 10 11 o o (.k 12 o .nil)) zd.nil ?_ (fun j_5 hj5=>?_)
   ·
    obtain⟨hn6,h⟩:=zo h
    obtain⟨w1,hv7,h⟩:=zn h
    obtain⟨r2,hv8,h⟩:=bind_some h
    obtain⟨r3,hv9,h⟩:=bind_some h
    refine .block (.sn mx (.ix yO ty9 o o hn6 (.ld ty9 o (.ra hv7 o (.nil (.sn mx (.mv o (.c (.call .none (strconv_Atoi_ok hv8) (.cons (.s o) .nil)) (.mv o (.ex o o (.ex o o (.asn o (.asn o (.nil (.seq (.sn mx (.mv o (.c (.neErr .none Tryz.underlying163 (.s o)) (.mv o (.mg o o o (.c (.callIf (.at o o) zgT (fun hg=>QV ((fun hg=>qf hv9 ((Qx hg.2))) hg)) (.cons (.tmp o id) .nil) (fun h=>h)) ?_)))))))))))))))))))))
    obtain⟨r4,hv10,h⟩:=bind_some h
    refine .mg o o o (.c (.neS (.at o o) (yy Tryz.underlying9) (.tmp o id) (.tmp o id)) (.po o o (.mv o (.mg o o o (.c (.callIf (.at o o) zpB (fun hg=>zmY ((fun hg=>qf hv10 ((Qx hg.2))) hg)) (.cons (.tmp o id) (.cons (.str (l:=[45]) (by decide)) .nil)) (fun h=>h)) (.c (.lenStr (.at o o) Tryz.underlying9 (.tmp o id)) (.c (.gt (.at o o) (.tmp o id) .i) (.po o o (.nil (.cb o h (fun _ h=>?_) fun _ h=>?_))))))))))
    ·
     refine .sn mx (.c (.assign .none (.const (x:=([]:(List Int))) (fun M w=>⟨_,⟨none,0,rfl,Nat.le_refl _,by decide,rfl⟩,rfl⟩))) (.asb (.nil (.ret (.thenRet (.blkRet (.thenRet (.thenRet (.blkRet (.thenRet ?_))))))))))
     replace h:=yf hK5 (za h)
     replace h:=hD3 _ (za h)
     replace h:=z8 hK2 (za h)
     obtain rfl:=za h
     exact zb.ret2 (.inl o) Tryz.results49 (yb.tmp o trivial Imp.refl) (yb.tmp o trivial Imp.refl)
    ·
     obtain⟨hn12,h⟩:=zo h
     exact .skip (.then (.rg [oo,oo,oo,([5002],[38,5002]),([38],[4,38])] mx (.mvA o (.mvA o (.cA (.buildSlice (xs:=[_]) .none yI ty3 hz3 (.cons (.s o) .nil) o (by decide)) (.cW (.append (k:=5002) zc9 o (.told (.s o) o) (.s o) hn12) (.consWD (.passRow o (.tmp o)) o o (.nil (.blkNormal (zb.j _ (za h)))))))))))
   ·
    have h:=yD hK5 hj5
    exact .nameRow (t:=4) (g:=5003) o o o (fun s5003=>(.rn mx (.adi o (.mv o (.nil (.anon (t:=4) (g:=5003) o o trivial o (zb.ag (za h))))))))
  ·
   refine .exit (.thenExit (.thenExit (.blkExit (.anon (t:=4) (g:=5002) o o trivial o ?_))))
   replace h:=hD3 _ (za h)
   exact zb.j _ (za h)
 ·
  have h:=yn hK2 hj2
  refine .freezeRowA (t:=4) o o zd.nil o (.sn mx (.mv o (.asn o (.asb (.nil (.ret ?_))))))
  obtain rfl:=za h
  exact zb.ret2 (.inl o) Tryz.results49 (yb.tmp o trivial Imp.refl) (yb.tmp o trivial Imp.refl)
theorem zlU {s1:Str}{r:(zO×Bool)}  (h:zbg s1=some r):zk Tryz.prog 102 [rep s1] (tup [rep r.1,rep r.2]):=by
 unfold zbg at h
 obtain⟨v1,hv1,h⟩:=zn h
 obtain⟨w1,hv2,h⟩:=bind_some h
 refine zk.i Tryz.func102 o Tryz.ntmps102 o (fun F=>(.sr [([],[2]),oo] mx (.al zf0 o (.cA (.assign .none .bool) (.nil (.reB (t:=2) o (congrArg (zM 56) hv1) (.nameBox (t:=2) (g:=5001) o o (fun m5001=>(.sn mx (.mv o (.c (.call .none (zbB hv2).frz (.cons (.s o) (.cons (.str (l:=[32]) (by decide)) .nil))) (.asn o (.nil (.seq (.sn mx (.mv o (.ln yO o (.nei o (.nil (.cb o h (fun _ h=>?_) fun _ h=>?_))))))))))))))))))))
 ·
  obtain⟨v2,hv4,h⟩:=zn h
  refine .sr [oo,([5001],[5001]),oo] mx (.cA (.re hv4 (.buildF (y:=(⟨Str.nil,(0:Int),(0:Int)⟩:zO)) .none zgh zh5 o .nil .nil)) (.s0 5001 yV o o o (.cA (.assign .none .bool) (.nil (.fb 5001 [2] o (.cons (t:=2) o trivial .nil) (.ret (.thenRet ?_)))))))
  obtain rfl:=za h
  exact zb.r2 Tryz.results102 yV o o
 ·
  obtain⟨r1,hv5,h⟩:=bind_some h
  obtain⟨hn6,h⟩:=zo h
  obtain⟨r2,hv7,h⟩:=bind_some h
  obtain⟨k1,hv8,h⟩:=zn h
  obtain⟨hn9,h⟩:=zo h
  obtain⟨r3,hv10,h⟩:=bind_some h
  obtain⟨hn11,h⟩:=zo h
  refine .skip (.then (.sn mx (.c (.call .none (zfV hv5).frz (.cons (.str (l:=[117,112,32,114,105,103,104,116,32,100,111,119,110,32,108,101,102,116]) (by decide)) .nil)) (.mv o (.c (.indexAddr .none yO ty9 (.s o) .i (fun _=>hn6)) (.ld ty9 o (.c (.call .none (zdj hv7) (.cons (.s o) (.cons (.s o) .nil))) (.adi o (.ra hv8 o (.nil (.sn mx (.mv o (.c (.indexAddr .none yO ty9 (.s o) .i (fun _=>hn9)) (.ld ty9 o (.c (.call .none (zfk hv10) (.cons (.s o) .nil)) (.mv o (.ex o o (.ex o o (.asn o (.asn o (.nil (.seq (.sn mx (.mv o (.eqi o (.mv o (.mg o o o (.c (.not (.at o o) (.tmp o id)) (.po o o (.mv o (.mg o o o (.c (.indexAddr (.at o o) yO ty9 (.tmp o id) .i (fun hg=>hn11 hg.2)) (.lg ty9 o o o (.c (.eqS (.at o o) (yy Tryz.underlying9) (.tmp o id) (.str (l:=[]) (by decide))) (.po o o (.nil (.cb o h (fun _ h=>?_) fun _ h=>?_)))))))))))))))))))))))))))))))))))))
  ·
   obtain⟨v3,hv13,h⟩:=zn h
   refine .sr [oo,([5001],[5001]),oo] mx (.cA (.re hv13 (.buildF (y:=(⟨Str.nil,(0:Int),(0:Int)⟩:zO)) .none zgh zh5 o .nil .nil)) (.s0 5001 yV o o o (.cA (.assign .none .bool) (.nil (.fb 5001 [2] o (.cons (t:=2) o trivial .nil) (.ret (.thenRet ?_)))))))
   obtain rfl:=za h
   exact zb.r2 Tryz.results102 yV o o
  ·
   obtain⟨hn14,h⟩:=zo h
   obtain⟨hn15,h⟩:=zo h
   obtain⟨v4,hv16,h⟩:=zn h
   refine .skip (.then (.sr [oo,oo,oo,oo,oo,oo,oo,oo,([5001],[5001]),oo] mx (.mvA o (.cA (.indexAddr .none yO ty9 (.s o) .i (fun _=>hn14)) (.ldA ty9 o (.mvA o (.mvA o (.cA (.indexAddr .none yI ty3 (.s o) .i (fun _=>hn15)) (.ldA ty3 o (.cA (.re hv16 (.buildF (y:=(⟨gx w1 0,k1,gx r3.1 0⟩:zO)) .none zgh zh5 o (.cons (.s o) (.cons (.s o) (.cons (.s o) .nil))) (.cons o zmv (.cons o zmw (.cons o zmx .nil))))) (.s0 5001 yV o o o (.cA (.assign .none .bool) (.nil (.fb 5001 [2] o (.cons (t:=2) o trivial .nil) (.ret ?_)))))))))))))))
   obtain rfl:=za h
   exact zb.r2 Tryz.results102 yV o o
theorem zsy {l1:(List Int)}{r:(List zz)}  (h:zcT l1=some r):zk Tryz.prog 103 [rep l1] (rep r):=by
 unfold zcT at h
 refine zk.i Tryz.func103 o Tryz.ntmps103 o (fun F=>(.sn mx (.c (.assign .none (.const (x:=([]:(List zz))) (fun M w=>⟨_,⟨none,0,rfl,Nat.le_refl _,by decide,rfl⟩,rfl⟩))) (.nil (.sr [([],[3])] mx (.cW (.nilRow (T:=72) (α:=zz) o) (.nil (.nameRow (t:=3) (g:=5001) o o o (fun s5001=>(.seq (.sn mx (.asi (.nil ?_)))))))))))))
 obtain⟨j_1,h,hK1⟩:=bind_some h
 refine .thenJ (ι:=(List zz)) (fun j_1=>[]) (fun j_1=>[(3,some (zq 72 j_1))]) (fun s=>j_1=s) Sub.nil zd.nil ?_ (fun j_1' hj1=>?_)
 ·
  refine .block (.anon (t:=3) (g:=5001) o o trivial o (.loopL h (fun s2_=>[(4,⟨True,rep s2_.2⟩)]) (fun s2_=>[(3,some (zq 72 s2_.1))]) (.k 4 o .nil) (.k 3 o .nil) (.k 0 o .nil) zd.nil (fun s2_ o_2 h hD2=>?_)))
  unfold zbd at h
  refine .nameRow (t:=3) (g:=5002) o o o (fun s5002=>(.seq (.sn mx (.mv o (.mv o (.ln yI o (.lt o o (.nil (.cb o h (fun _ h=>?_) fun _ h=>?_)))))))))
  ·
   obtain⟨hn4,h⟩:=zo h
   obtain⟨hn5,h⟩:=zo h
   obtain⟨hn6,h⟩:=zo h
   obtain⟨out1,hv7,h⟩:=zn h
   obtain⟨i1,hv8,h⟩:=zn h
   exact .skip (.then (.seq (.block (.rg [oo,oo,oo,oo,oo,oo,oo,oo,oo,oo,oo,oo,([5002],[23,5002]),([23],[3,23])] mx (.mvA o (.mvA o (.mvA o (.cA (.subW .none (.s o) .i) (.ixA yI ty3 o o hn4 (.ldA ty3 o (.mvA o (.mvA o (.ixA yI ty3 o o hn5 (.ldA ty3 o (.cA (.buildF (y:=(⟨gx l1 (W (s2_.2 - 1)),gx l1 s2_.2⟩:zz)) .none zgi zh6 o (.cons (.s o) (.cons (.s o) .nil)) (.cons o zhJ (.cons o zhK .nil))) (.cA (.buildSlice (xs:=[_]) .none ji jk zkh (.cons (.s o) .nil) o (by decide)) (.cW (.append (k:=5002) zl8 o (.told (.s o) o) (.s o) hn6) (.consWD (.passRow o (.tmp o)) o o (.nil (.blkNormal (.then (.reB (t:=3) o (congrArg (zq 72) hv7) (.nameRow (t:=3) (g:=5003) o o o (fun s5003=>(.rn mx (.mv o (.adi o (.ra hv8 o (.nil (.anon (t:=3) (g:=5003) o o trivial o (zb.ag (za h))))))))))))))))))))))))))))))))
  ·
   refine .exit (.thenExit (.thenExit (.blkExit (.anon (t:=3) (g:=5002) o o trivial o ?_))))
   replace h:=hD2 _ (za h)
   exact zb.j _ (za h)
 ·
  subst hj1;have h:=hK1;clear hK1
  refine .freezeRowA (t:=3) o o zd.nil o (.sn mx (.mv o (.asn o (.nil (.ret ?_)))))
  obtain rfl:=za h
  exact zb.rt Tryz.results103 o
theorem zsP {m1:(GMap Str Str)}{r:(zu×Bool×(GMap Str Str))}{s70:Value}(h:zc6 m1=some r):ya Tryz.prog 51 [isV s70] [(s70,zR m1)] (tup [rep r.1,rep r.2.1]) [some (zR r.2.2)]:=by
 unfold zc6 at h
 obtain⟨v1,hv1,h⟩:=zn h
 obtain⟨r1,hv2,h⟩:=bind_some h
 obtain⟨r2,hv3,h⟩:=bind_some h
 obtain⟨r3,hv4,h⟩:=bind_some h
 obtain⟨x1,hv5,h⟩:=zn h
 obtain⟨r4,hv6,h⟩:=bind_some h
 obtain⟨x2,hv7,h⟩:=zn h
 obtain⟨r5,hv8,h⟩:=bind_some h
 obtain⟨x3,hv9,h⟩:=zn h
 refine ya.i Tryz.func51 o Tryz.ntmps51 o (fun F=>(.sr [([],[2]),oo] mx (.al YC o (.cA (.assign .none .bool) (.nil (.reB (t:=2) o (congrArg (zM 59) hv1) (.nameBox (t:=2) (g:=5001) o o (fun m5001=>(.sr [oo,([70],[70]),oo,oo,oo,oo,oo] mx (.mvA o (.cW (.cO [70] (QS hv2) (.cons (.s o) (.cons (.str (l:=[102,114,111,109]) (by decide)) .nil)) (.cons (k:=70) o .nil) o) (.mvA o (.exA o o (.exA o o (.asnA o (.asnA o (.nil (.sr [oo,([70],[70]),oo,oo,oo,oo,oo] mx (.mvA o (.cW (.cO [70] (QS hv3) (.cons (.s o) (.cons (.str (l:=[116,111]) (by decide)) .nil)) (.cons (k:=70) o .nil) o) (.mvA o (.exA o o (.exA o o (.asnA o (.asnA o (.nil (.sr [oo,([70],[70]),oo,oo,oo,oo,oo] mx (.mvA o (.cW (.cO [70] (QS hv4) (.cons (.s o) (.cons (.str (l:=[98,101,110,100,115]) (by decide)) .nil)) (.cons (k:=70) o .nil) o) (.mvA o (.exA o o (.exA o o (.asnA o (.asnA o (.nil (.sr [([],[10])] mx (.al YC o (.nil (.reB (t:=10) o (congrArg (zM 59) hv5) (.nameBox (t:=10) (g:=5002) o o (fun m5002=>(.sn mx (.asb (.asb (.nil (.sr [oo,oo,oo,oo,oo,oo,([5002],[5002]),oo] mx (.mvA o (.cA (.call .none (zlU hv6) (.cons (.s o) .nil)) (.mvA o (.exA o o (.exA o o (.cA (.fieldPtr .none YN (.s o)) (.cN (.storeAt (g:=5002) yV o (.s o) zmz (.s o)) (.asnA o (.nil (.reB (t:=5002) o (congrArg (fun y=>qb m5002 59 y) hv7) (.sr [oo,oo,oo,oo,oo,oo,([5002],[5002]),oo] mx (.mvA o (.cA (.call .none (zlU hv8) (.cons (.s o) .nil)) (.mvA o (.exA o o (.exA o o (.cA (.fieldPtr .none YO (.s o)) (.cN (.storeAt (g:=5002) yV o (.s o) zmA (.s o)) ?_))))))))))))))))))))))))))))))))))))))))))))))))))))))))))))))))
 refine .asnA o (.nil (.reB (t:=5002) o (congrArg (fun y=>qb m5002 59 y) hv9) (.seq (.sn mx (.mv o (.nil ?_))))))
 obtain⟨o_10,h,hK10⟩:=ym h
 refine .thenJ (ι:=zu) (fun j_10=>[]) (fun j_10=>[(5002,some (qb m5002 59 j_10))]) (fun s=>o_10=Res.nx s) (.k4 0 2 10 11 o o o o (.k 12 o .nil)) (.k2 70 5001 o o .nil) ?_ (fun j_10 hj10=>?_)
 ·
  refine .cb o h (fun _ h=>?_) fun _ h=>?_
  ·
   obtain⟨r6,hv12,h⟩:=bind_some h
   refine .sn mx (.mv o (.c (.call .none (zfk hv12) (.cons (.s o) .nil)) (.mv o (.ex o o (.ex o o (.asn o (.asn o (.nil (.seq (.sn mx (.mv o (.c (.not .none (.s o)) (.mv o (.mg o o o (.c (.len (.at o o) yI (.tmp o id)) (.c (.rem (.at o o) (.tmp o id) .i (fun _=>by decide)) (.c (.neI (.at o o) (.tmp o id) .i) (.po o o (.nil (.cb o h (fun _ h=>?_) fun _ h=>?_))))))))))))))))))))
   ·
    refine .sr [([5002],[]),([5001],[5001]),oo] mx (.cA (.loadAt0 (k:=5002) .none yW o (.s o)) (.s0 5001 yW o o o (.cA (.assign .none .bool) (.nil (.freezeBox (g:=5001) (ts:=[2]) o (.cons (t:=2) o trivial .nil) (.k 70 o .nil) o (.ret (.thenRet (.thenRet ?_))))))))
    replace h:=z8 hK10 (za h)
    obtain rfl:=za h
    exact zb.ret2O (.inl o) [70] Tryz.results51 (by decide) (.held o .nil) (yb.cellR yW o trivial Imp.refl) (yb.tmp o trivial Imp.refl)
   ·
    obtain⟨r7,hv14,h⟩:=bind_some h
    exact .skip (.then (.rg [oo,oo,oo,([5002],[5002])] mx (.mvA o (.cA (.call .none (zsy hv14) (.cons (.s o) .nil)) (.cA (.fieldPtr .none Qu (.s o)) (.cN (.storeAt (g:=5002) QE o (.s o) zmB (.s o)) (.nil (zb.j _ (za h)))))))))
  ·
   exact .skip (zb.j _ (za h))
 ·
  have h:=yn hK10 hj10
  obtain⟨hn15,h⟩:=zo h
  refine .freezeBox (g:=5002) (ts:=[10]) o (.cons (t:=10) o trivial .nil) (.k2 70 5001 o o .nil) o (.sr [oo,oo,oo,oo,oo,oo,oo,([70],[]),oo,oo,([5001],[5001]),oo] mx (.ldA yW o (.mvA o (.mvA o (.cA (.move (.at o o) (.s o)) (.cA (.pickAnd .none (.s o) (.tmp o id)) (.mvA o (.cA (.move (.at o o) (.s o)) (.cA (.lenMapOG (q:=70) (.at o o) Tryz.underlying53 zcB (.tmp o id) o (fun hg=>hn15 hg.2)) (.cA (.eqI (.at o o) (.tmp o id) .i) (.cA (.pickAnd .none (.s o) (.tmp o id)) (.s0 5001 yW o o o (.asnA o (.nil (.freezeBox (g:=5001) (ts:=[2]) o (.cons (t:=2) o trivial .nil) (.k 70 o .nil) o (.ret ?_))))))))))))))))
  obtain rfl:=za h
  exact zb.ret2O (.inl o) [70] Tryz.results51 (by decide) (.held o .nil) (yb.cellR yW o trivial Imp.refl) (yb.tmp o trivial Imp.refl)
theorem zsQ {kind1:Str}{m1:(GMap Str Str)}{r:(zh×Bool×(GMap Str Str))}{s98:Value}(h:zc7 kind1 m1=some r):ya Tryz.prog 52 [rep kind1,isV s98] [(s98,zR m1)] (tup [rep r.1,rep r.2.1]) [some (zR r.2.2)]:=by
 unfold zc7 at h
 obtain⟨v1,hv1,h⟩:=zn h
 obtain⟨r1,hv2,h⟩:=bind_some h
 obtain⟨r2,hv3,h⟩:=bind_some h
 obtain⟨v2,hv4,h⟩:=zn h
 obtain⟨r3,hv5,h⟩:=bind_some h
 refine ya.i Tryz.func52 o Tryz.ntmps52 o (fun F=>(.sr [([],[4]),oo] mx (.al ja o (.cA (.assign .none .bool) (.nil (.reB (t:=4) o (congrArg (zM 45) hv1) (.nameBox (t:=4) (g:=5001) o o (fun m5001=>(.sr [oo,oo,oo,oo,oo,([],[6]),([6],[6])] mx (.cA (.call .none (zfV hv2).frz (.cons (.str (l:=[98,111,120,32,114,111,117,110,100,32,111,118,97,108,32,100,105,97,109,111,110,100,32,110,111,116,101,32,103,114,111,117,112]) (by decide)) .nil)) (.mvA o (.cA (.call .none (zdj hv3) (.cons (.s o) (.cons (.s o) .nil))) (.cA (.addW .none (.s o) .i) (.cA (.re hv4 (.buildF (y:=(⟨Str.nil,W (r2+1),(⟨(0:Int),(0:Int),(0:Int),(0:Int)⟩:Box),Str.nil,Str.nil,Str.nil,false⟩:zh)) .none ziB znu o (.cons (.s o) .nil) (.cons o zmp .nil))) (.al ja o (.st zJ o o o (.nil (.nameBox (t:=6) (g:=5002) o o (fun m5002=>(.sr [oo,([98],[98]),oo,oo,oo,oo,oo] mx (.mvA o (.cW (.cO [98] (QS hv5) (.cons (.s o) (.cons (.str (l:=[112,108,97,99,101]) (by decide)) .nil)) (.cons (k:=98) o .nil) o) (.mvA o (.exA o o (.exA o o (.asnA o (.asnA o (.nil (.seq (.sr [oo,([5002],[]),oo,oo,oo,oo,([5002],[]),oo,oo,oo] mx (.cA (.fieldPtr .none qV (.s o)) (.cA (.loadAt (k:=5002) .none ty3 o (.s o) qO) (.cA (.eqI .none (.s o) .i) (.mvA o (.cA (.move (.at o o) (.s o)) (.cA (.fieldPtr (.at o o) qV (.s o)) (.cA (.loadAt (k:=5002) (.at o o) ty3 o (.tmp o id) qO) (.cA (.eqI (.at o o) (.tmp o id) .i) (.cA (.eqS (.at o o) (zpf Tryz.underlying4) (.tmp o id) (.tmp o id)) (.cA (.pickOr .none (.s o) (.tmp o id)) ?_))))))))))))))))))))))))))))))))))))))))
 refine .nil (.cb o h (fun _ h=>?_) fun _ h=>?_)
 ·
  refine .sr [([5002],[]),([5001],[5001]),oo] mx (.cA (.loadAt0 (k:=5002) .none zJ o (.s o)) (.s0 5001 zJ o o o (.cA (.assign .none .bool) (.nil (.freezeBox (g:=5001) (ts:=[4]) o (.cons (t:=4) o trivial .nil) (.k 98 o .nil) o (.ret (.thenRet ?_)))))))
  obtain rfl:=za h
  exact zb.ret2O (.inl o) [98] Tryz.results52 (by decide) (.held o .nil) (yb.cellR zJ o trivial Imp.refl) (yb.tmp o trivial Imp.refl)
 ·
  refine .skip (.then (.seq (.sn mx (.mv o (.nil ?_)))))
  obtain⟨o_7,h,hK7⟩:=ym h
  refine .thenJ (ι:=zh) (fun j_7=>[]) (fun j_7=>[(5002,some (qb m5002 45 j_7))]) (fun s=>o_7=Res.nx s) (.k2 1 4 o o (.k 6 o .nil)) (.k2 98 5001 o o .nil) ?_ (fun j_7 hj7=>?_)
  ·
   refine .cb o h (fun _ h=>?_) fun _ h=>?_
   ·
    obtain⟨r4,hv9,h⟩:=bind_some h
    refine .sn mx (.mv o (.c (.call .none (zfk hv9) (.cons (.s o) .nil)) (.mv o (.ex o o (.ex o o (.asn o (.asn o (.nil (.seq (.sn mx (.mv o (.c (.not .none (.s o)) (.mv o (.mg o o o (.c (.len (.at o o) yI (.tmp o id)) (.c (.neI (.at o o) (.tmp o id) .i) (.po o o (.nil (.cb o h (fun _ h=>?_) fun _ h=>?_)))))))))))))))))))
    ·
     refine .sr [([5002],[]),([5001],[5001]),oo] mx (.cA (.loadAt0 (k:=5002) .none zJ o (.s o)) (.s0 5001 zJ o o o (.cA (.assign .none .bool) (.nil (.freezeBox (g:=5001) (ts:=[4]) o (.cons (t:=4) o trivial .nil) (.k 98 o .nil) o (.ret (.thenRet (.thenRet ?_))))))))
     replace h:=z8 hK7 (za h)
     obtain rfl:=za h
     exact zb.ret2O (.inl o) [98] Tryz.results52 (by decide) (.held o .nil) (yb.cellR zJ o trivial Imp.refl) (yb.tmp o trivial Imp.refl)
    ·
     obtain⟨hn11,h⟩:=zo h
     obtain⟨hn12,h⟩:=zo h
     obtain⟨hn13,h⟩:=zo h
     obtain⟨hn14,h⟩:=zo h
     obtain⟨v3,hv15,h⟩:=zn h
     exact .skip (.then (.rg [oo,oo,oo,oo,oo,oo,oo,oo,oo,oo,oo,oo,oo,oo,([5002],[5002])] mx (.mvA o (.cA (.indexAddr .none yI ty3 (.s o) .i (fun _=>hn11)) (.ldA ty3 o (.mvA o (.cA (.indexAddr .none yI ty3 (.s o) .i (fun _=>hn12)) (.ldA ty3 o (.mvA o (.cA (.indexAddr .none yI ty3 (.s o) .i (fun _=>hn13)) (.ldA ty3 o (.mvA o (.cA (.indexAddr .none yI ty3 (.s o) .i (fun _=>hn14)) (.ldA ty3 o (.cA (.re hv15 (.buildF (y:=(⟨gx r4.1 0,gx r4.1 1,gx r4.1 2,gx r4.1 3⟩:Box)) .none qR q9 o (.cons (.s o) (.cons (.s o) (.cons (.s o) (.cons (.s o) .nil)))) (.cons o zbq (.cons o zbr (.cons o zbs (.cons o zbt .nil)))))) (.cA (.fieldPtr .none jQ (.s o)) (.cN (.storeAt (g:=5002) zN o (.s o) zmq (.s o)) (.nil (zb.j _ (za h))))))))))))))))))))
   ·
    exact .skip (zb.j _ (za h))
  ·
   have h:=yn hK7 hj7
   obtain⟨r5,hv16,h⟩:=bind_some h
   obtain⟨r6,hv17,h⟩:=bind_some h
   obtain⟨v4,hv18,h⟩:=zn h
   obtain⟨hn19,h⟩:=zo h
   refine .sr [oo,([98],[98]),oo,oo,oo,oo,oo] mx (.mvA o (.cW (.cO [98] (QS hv16) (.cons (.s o) (.cons (.str (l:=[112,97,114,101,110,116]) (by decide)) .nil)) (.cons (k:=98) o .nil) o) (.mvA o (.exA o o (.exA o o (.asnA o (.asnA o (.nil (.sr [oo,([98],[98]),oo,oo,oo,oo,oo] mx (.mvA o (.cW (.cO [98] (QS hv17) (.cons (.s o) (.cons (.str (l:=[108,111,99,107,101,100]) (by decide)) .nil)) (.cons (k:=98) o .nil) o) (.mvA o (.exA o o (.exA o o (.asnA o (.asnA o (.nil (.sr [oo,oo,oo,([5002],[5002]),oo,([5002],[5002])] mx (.mvA o (.mvA o (.cA (.fieldPtr .none jJ (.s o)) (.cN (.storeAt (g:=5002) ty9 o (.s o) zmt (.s o)) (.cA (.fieldPtr .none zd2 (.s o)) (.cN (.storeAt (g:=5002) ty4 o (.s o) zmu (.s o)) (.nil (.freezeBox (g:=5002) (ts:=[6]) o (.cons (t:=6) o trivial .nil) (.k2 98 5001 o o .nil) o (.sr [oo,oo,oo,oo,oo,oo,oo,oo,oo,oo,oo,oo,oo,oo,oo,oo,oo,([98],[]),oo,oo,([5001],[5001]),oo] mx (.rlA hv18 zJ o (.mvA o (.mvA o (.cA (.move (.at o o) (.s o)) (.cA (.eqS (.at o o) (yy Tryz.underlying9) (.tmp o id) (.str (l:=[]) (by decide))) (.cA (.pickAnd .none (.s o) (.tmp o id)) (.cA (.not .none (.s o)) (.mvA o (.cA (.move (.at o o) (.s o)) (.cA (.move (.at o o) (.tmp o id)) (.cA (.move (.at o o) (.s o)) (.cA (.neS (.at o o) (yy Tryz.underlying9) (.tmp o id) (.str (l:=[121,101,115]) (by decide))) (.cA (.pickAnd (.at o o) (.tmp o id) (.tmp o id)) (.cA (.not (.at o o) (.tmp o id)) (.cA (.pickAnd .none (.s o) (.tmp o id)) (.mvA o (.cA (.move (.at o o) (.s o)) (.cA (.lenMapOG (q:=98) (.at o o) Tryz.underlying53 zcB (.tmp o id) o (fun hg=>hn19 hg.2)) ?_)))))))))))))))))))))))))))))))))))))))))))))
   refine .cA (.eqI (.at o o) (.tmp o id) .i) (.cA (.pickAnd .none (.s o) (.tmp o id)) (.s0 5001 zJ o o o (.asnA o (.nil (.freezeBox (g:=5001) (ts:=[4]) o (.cons (t:=4) o trivial .nil) (.k 98 o .nil) o (.ret ?_))))))
   obtain rfl:=za h
   exact zb.ret2O (.inl o) [98] Tryz.results52 (by decide) (.held o .nil) (yb.cellR zJ o trivial Imp.refl) (yb.tmp o trivial Imp.refl)
theorem zsd (a1:Int)(a2:Str)(a3:Str)(a4:Int)(a5:Int)(a6:Int)(a7:Int)(a8:Int)(a9:Str)(a10:Str)(a11:Str)(a12:Bool)(b1:Int)(b2:Str)(b3:Str)(b4:Int)(b5:Int)(b6:Int)(b7:Int)(b8:Int)(b9:Str)(b10:Str)(b11:Str)(b12:Bool)(w0:World)(ha:0≤a1∧a1≤1000000)(hb:0≤b1∧b1≤1000000):
  Calls Tryz.prog 105 #[.agg #[.int .i64 a1,.string ⟨a2.b.toArray⟩,.string ⟨a3.b.toArray⟩,.int .i64 a4,.int .i64 a5,.int .i64 a6,.int .i64 a7,.int .i64 a8,.string ⟨a9.b.toArray⟩,.string ⟨a10.b.toArray⟩,.string ⟨a11.b.toArray⟩,.bool a12],.agg #[.int .i64 b1,.string ⟨b2.b.toArray⟩,.string ⟨b3.b.toArray⟩,.int .i64 b4,.int .i64 b5,.int .i64 b6,.int .i64 b7,.int .i64 b8,.string ⟨b9.b.toArray⟩,.string ⟨b10.b.toArray⟩,.string ⟨b11.b.toArray⟩,.bool b12]] w0 fun e w'=>e = .returned (.int .i64 (je (a1,a2) (b1,b2)))∧∃q os',w'=Go.Sort.grow (w0.drewN q) os':=by
 obtain⟨r,hr⟩:∃r,r=je (a1,a2) (b1,b2):=⟨_,rfl⟩
 have hr1:a1 - b1≠0→r=a1 - b1:=fun h=>hr.trans (if_pos h)
 have hr2:a1 - b1=0→r=Lib.compareBytes a2.b b2.b:=fun h=>by rw[zau];exact hr.trans (if_neg (fun e=>e h))
 rw[←hr]
 clear hr
 go_enter Tryz.func105,Tryz.ntmps105
 go_wp2
 obtain⟨w1,hw1⟩:∃w1,w1=(w0.alloc (.cells #[.int .i64 a1,.string ⟨a2.b.toArray⟩,.string ⟨a3.b.toArray⟩,.int .i64 a4,.int .i64 a5,.int .i64 a6,.int .i64 a7,.int .i64 a8,.string ⟨a9.b.toArray⟩,.string ⟨a10.b.toArray⟩,.string ⟨a11.b.toArray⟩,.bool a12] 113)).alloc (.cells #[.int .i64 b1,.string ⟨b2.b.toArray⟩,.string ⟨b3.b.toArray⟩,.int .i64 b4,.int .i64 b5,.int .i64 b6,.int .i64 b7,.int .i64 b8,.string ⟨b9.b.toArray⟩,.string ⟨b10.b.toArray⟩,.string ⟨b11.b.toArray⟩,.bool b12] 113):=⟨_,rfl⟩
 rw[←hw1]
 have k0:w1.drew.cell? ⟨w0.heap.size,0,none⟩=some (.int .i64 a1):=by rw[hw1];go_simp
 have k1:w1.drew.cell? ⟨w0.heap.size,1,none⟩=some (.string ⟨a2.b.toArray⟩):=by rw[hw1];go_simp
 have k3:w1.drew.cell? ⟨w0.heap.size+1,0,none⟩=some (.int .i64 b1):=by rw[hw1];go_simp
 have k4:w1.drew.cell? ⟨w0.heap.size+1,1,none⟩=some (.string ⟨b2.b.toArray⟩):=by rw[hw1];go_simp
 refine wp_region_still_tail 10 (by kernel_rfl) (by kernel_rfl) ?_
 change wpStill _ _ w1.drew (fun a'=>wpList _ _ _ _ a' w1.drew) _ _
 generalize hw2:w1.drew=w2 at *
 simp only[List.take_succ_cons,List.take_zero,List.drop_succ_cons,List.drop_zero]
 repeat still_step
 still_call (Proofs.Any.strings_Compare zbM _ _ _)
 refine wpStill_nil ?_
 have hww:IntKind.i64.wrap (a1 - b1)=a1 - b1:=IntWalk.i64_in _ (show InI (a1 - b1)by unfold InI;omega)
 go_wp2_with (go_at_call 106;refine Calls.mono (zlo _ _ _ _ r _ hr1 hr2 (ze3 _ _ _ _).1 (ze3 _ _ _ _).2) ?_;rintro e w' ⟨rfl,rfl⟩)
 go_ret
 exact⟨rfl,1,_,by rw[Go.Sort.alloc_eq_grow,←hw2,hw1,Go.Sort.alloc_eq_grow,Go.Sort.alloc_eq_grow,Go.Sort.grow_grow,Go.Sort.drew_grow,Go.Sort.grow_grow];rfl⟩
theorem zsc (x y:(Int×Str×(Str×Int×(Int×Int×Int×Int)×Str×Str×Str×Bool)))(hx:0≤x.1∧x.1≤1000000)(hy:0≤y.1∧y.1≤1000000)(w0:World):Calls Tryz.prog 105 #[.agg (Enc.enc x).toArray,.agg (Enc.enc y).toArray] w0 fun e w'=>e = .returned (.int .i64 (je (x.1,x.2.1) (y.1,y.2.1)))∧∃q os',w'=Go.Sort.grow (w0.drewN q) os':=by
 obtain⟨a1,a2,⟨a3,a4,⟨a5,a6,a7,a8⟩,a9,a10,a11,a12⟩⟩:=x
 obtain⟨b1,b2,⟨b3,b4,⟨b5,b6,b7,b8⟩,b9,b10,b11,b12⟩⟩:=y
 exact zsd a1 a2 a3 a4 a5 a6 a7 a8 a9 a10 a11 a12 b1 b2 b3 b4 b5 b6 b7 b8 b9 b10 b11 b12 w0 hx hy
theorem ztG {l r:List yt}{s:Value}(h:zhU l=some r):ya Tryz.prog 104 [isV s,QH 105 []] [(s,zq 113 l)] (z7) [some (zq 113 r)]:=by
 obtain⟨hl,h⟩:=zo h
 obtain rfl:=za h
 exact zmO (ρ:=(Int×Str×(Str×Int×(Int×Int×Int×Int)×Str×Str×Str×Bool))) ztO (z6.via (fun x:yt=>(x.z,x.id,x.x)) (z6.pair (z6.same Int) (z6.pair (z6.same Str) (z6.via (fun x:zh=>(x.Id,x.Kind,x.Box,x.Text,x.Class,x.Parent,x.Locked)) (z6.pair (z6.same Str) (z6.pair (z6.same Int) (z6.pair (z6.via (fun x:Box=>(x.X,x.Y,x.W_,x.H)) (z6.pair (z6.same Int) (z6.pair (z6.same Int) (z6.pair (z6.same Int) (z6.same Int))))) (z6.pair (z6.same Str) (z6.pair (z6.same Str) (z6.pair (z6.same Str) (z6.same Bool))))))))))) (fun r=>(r.1,r.2.1)) (fun x:yt=>(x.z,x.id)) (fun h=>Prod.ext h.1 h.2.1) Q9 o o zpC zpD Tryz.underlying113 zuF zsc hl.1 hl.2.1 hl.2.2 (by decide)
theorem zsL {l1:(List yt)}{r:((List zh)×(List yt))}{s21:Value}(h:zc3 l1=some r):ya Tryz.prog 53 [isV s21] [(s21,zq 113 l1)] (rep r.1) [some (zq 113 r.2)]:=by
 unfold zc3 at h
 obtain⟨r1,hv1,h⟩:=bind_some h
 refine ya.i Tryz.func53 o Tryz.ntmps53 o (fun F=>(.sn mx (.c (.assign .none (.const (x:=([]:(List zh))) (fun M w=>⟨_,⟨none,0,rfl,Nat.le_refl _,by decide,rfl⟩,rfl⟩))) (.nil (.sr [oo,([21],[21])] mx (.mvA o (.cW (.cO [21] (ztG hv1) (.cons (.s o) (.cons .funcC .nil)) (.cons (k:=21) o .nil) o) (.nil (.sr [([],[3])] mx (.cW (.nilRow (T:=45) (α:=zh) o) (.nil (.nameRow (t:=3) (g:=5001) o o o (fun s5001=>(.seq (.sr [oo,([21],[]),oo] mx (.mvA o (.cA (.lenO (k:=21) zfI (.told (.s o) o)) (.cA (.move .none .i) (.nil ?_)))))))))))))))))))
 obtain⟨j_2,h,hK2⟩:=bind_some h
 refine .thenJ (ι:=(List zh)) (fun j_2=>[]) (fun j_2=>[(3,some (zq 45 j_2))]) (fun s=>j_2=s) (.k 8 o .nil) (.k 21 o .nil) ?_ (fun j_2' hj2=>?_)
 ·
  refine .block (.anon (t:=3) (g:=5001) o o trivial o (.rforL h (fun p3_=>[(10,⟨True,rep p3_.1⟩)]) (fun p3_=>[(3,some (zq 45 p3_.2))]) (.k 10 o .nil) (.k 3 o .nil) (.k2 8 9 o o .nil) (.k 21 o .nil) (fun p3_ o_3 h hD3=>(.nameRow (t:=3) (g:=5002) o o o (fun s5002=>(.sn mx (.lt o o (.nil (.seq (.cb o h (fun _ h=>?_) fun _ h=>?_))))))))))
  ·
   refine .skip (.then (.seq ?_))
   obtain⟨j_5,h,hK5⟩:=bind_some h
   unfold zfq at h
   refine .thenJ (ι:=(List zh)) (fun j_5=>[]) (fun j_5=>[(3,some (zq 45 j_5))]) (fun s=>j_5=s) (.k2 8 9 o o (.k 10 o .nil)) (.k 21 o .nil) ?_ (fun j_5' hj5=>?_)
   ·
    obtain⟨hn6,h⟩:=zo h
    obtain⟨v1,hv7,h⟩:=zn h
    obtain⟨hn8,h⟩:=zo h
    exact .block (.sr [([21],[]),([21],[]),([],[5]),([5],[5])] mx (.ixO 21 zfI zdx o o o hn6 (.cA (.re hv7 (.loadElem0 (k:=21) .none zdx (.s o) o (fun _=>hn6))) (.al zuS o (.st zdx o o o (.nil (.freeze (t:=5) o o (.k2 21 5002 o o .nil) o (.rg [oo,oo,oo,oo,([5002],[18,5002]),([18],[3,18])] mx (.mvA o (.faA zpx zqr o (.ldA zJ o (.cA (.buildSlice (xs:=[_]) .none yh zJ zg0 (.cons (.s o) .nil) o (by decide)) (.cW (.append (k:=5002) zhF o (.told (.s o) o) (.s o) hn8) (.cW (.passRow o (.tmp o)) (.nil (.blkNormal (zb.j _ (za h))))))))))))))))))
   ·
    subst hj5;have h:=hK5;clear hK5
    exact .nameRow (t:=3) (g:=5003) o o o (fun s5003=>(.rn mx (.adi o (.mv o (.nil (.anon (t:=3) (g:=5003) o o trivial o (zb.ag (za h))))))))
  ·
   refine .exit (.thenExit (.thenExit (.blkExit (.anon (t:=3) (g:=5002) o o trivial o ?_))))
   replace h:=hD3 _ (za h)
   exact zb.j _ (za h)
 ·
  subst hj2;have h:=hK2;clear hK2
  refine .freezeRowA (t:=3) o o (.k 21 o .nil) o (.sn mx (.mv o (.asn o (.nil (.ret ?_)))))
  obtain rfl:=za h
  exact zb.ret1O (.inl o) [21] Tryz.results53 (by decide) (.held o .nil) (yb.tmp o trivial Imp.refl)
theorem zsf (a1:Int)(a2:Str)(a3:Str)(a4:Str)(a5:Int)(a6:Int)(a7:Str)(a8:Int)(a9:Int)(a10:SlV)(a11:Str)(a12:Str)(b1:Int)(b2:Str)(b3:Str)(b4:Str)(b5:Int)(b6:Int)(b7:Str)(b8:Int)(b9:Int)(b10:SlV)(b11:Str)(b12:Str)(w0:World)(ha:0≤a1∧a1≤1000000)(hb:0≤b1∧b1≤1000000):
  Calls Tryz.prog 108 #[.agg #[.int .i64 a1,.string ⟨a2.b.toArray⟩,.string ⟨a3.b.toArray⟩,.string ⟨a4.b.toArray⟩,.int .i64 a5,.int .i64 a6,.string ⟨a7.b.toArray⟩,.int .i64 a8,.int .i64 a9,.slice a10.a a10.n a10.c,.string ⟨a11.b.toArray⟩,.string ⟨a12.b.toArray⟩],.agg #[.int .i64 b1,.string ⟨b2.b.toArray⟩,.string ⟨b3.b.toArray⟩,.string ⟨b4.b.toArray⟩,.int .i64 b5,.int .i64 b6,.string ⟨b7.b.toArray⟩,.int .i64 b8,.int .i64 b9,.slice b10.a b10.n b10.c,.string ⟨b11.b.toArray⟩,.string ⟨b12.b.toArray⟩]] w0 fun e w'=>e = .returned (.int .i64 (je (a1,a2) (b1,b2)))∧∃q os',w'=Go.Sort.grow (w0.drewN q) os':=by
 obtain⟨r,hr⟩:∃r,r=je (a1,a2) (b1,b2):=⟨_,rfl⟩
 have hr1:a1 - b1≠0→r=a1 - b1:=fun h=>hr.trans (if_pos h)
 have hr2:a1 - b1=0→r=Lib.compareBytes a2.b b2.b:=fun h=>by rw[zau];exact hr.trans (if_neg (fun e=>e h))
 rw[←hr]
 clear hr
 go_enter Tryz.func108,Tryz.ntmps108
 go_wp2
 obtain⟨w1,hw1⟩:∃w1,w1=(w0.alloc (.cells #[.int .i64 a1,.string ⟨a2.b.toArray⟩,.string ⟨a3.b.toArray⟩,.string ⟨a4.b.toArray⟩,.int .i64 a5,.int .i64 a6,.string ⟨a7.b.toArray⟩,.int .i64 a8,.int .i64 a9,.slice a10.a a10.n a10.c,.string ⟨a11.b.toArray⟩,.string ⟨a12.b.toArray⟩] 109)).alloc (.cells #[.int .i64 b1,.string ⟨b2.b.toArray⟩,.string ⟨b3.b.toArray⟩,.string ⟨b4.b.toArray⟩,.int .i64 b5,.int .i64 b6,.string ⟨b7.b.toArray⟩,.int .i64 b8,.int .i64 b9,.slice b10.a b10.n b10.c,.string ⟨b11.b.toArray⟩,.string ⟨b12.b.toArray⟩] 109):=⟨_,rfl⟩
 rw[←hw1]
 have k0:w1.drew.cell? ⟨w0.heap.size,0,none⟩=some (.int .i64 a1):=by rw[hw1];go_simp
 have k1:w1.drew.cell? ⟨w0.heap.size,1,none⟩=some (.string ⟨a2.b.toArray⟩):=by rw[hw1];go_simp
 have k3:w1.drew.cell? ⟨w0.heap.size+1,0,none⟩=some (.int .i64 b1):=by rw[hw1];go_simp
 have k4:w1.drew.cell? ⟨w0.heap.size+1,1,none⟩=some (.string ⟨b2.b.toArray⟩):=by rw[hw1];go_simp
 refine wp_region_still_tail 10 (by kernel_rfl) (by kernel_rfl) ?_
 change wpStill _ _ w1.drew (fun a'=>wpList _ _ _ _ a' w1.drew) _ _
 generalize hw2:w1.drew=w2 at *
 simp only[List.take_succ_cons,List.take_zero,List.drop_succ_cons,List.drop_zero]
 repeat still_step
 still_call (Proofs.Any.strings_Compare zbM _ _ _)
 refine wpStill_nil ?_
 have hww:IntKind.i64.wrap (a1 - b1)=a1 - b1:=IntWalk.i64_in _ (show InI (a1 - b1)by unfold InI;omega)
 go_wp2_with (go_at_call 106;refine Calls.mono (zlo _ _ _ _ r _ hr1 hr2 (ze3 _ _ _ _).1 (ze3 _ _ _ _).2) ?_;rintro e w' ⟨rfl,rfl⟩)
 go_ret
 exact⟨rfl,1,_,by rw[Go.Sort.alloc_eq_grow,←hw2,hw1,Go.Sort.alloc_eq_grow,Go.Sort.alloc_eq_grow,Go.Sort.grow_grow,Go.Sort.drew_grow,Go.Sort.grow_grow];rfl⟩
theorem zse (x y:(Int×Str×(Str×(Str×Int×Int)×(Str×Int×Int)×SlV×Str×Str)))(hx:0≤x.1∧x.1≤1000000)(hy:0≤y.1∧y.1≤1000000)(w0:World):Calls Tryz.prog 108 #[.agg (Enc.enc x).toArray,.agg (Enc.enc y).toArray] w0 fun e w'=>e = .returned (.int .i64 (je (x.1,x.2.1) (y.1,y.2.1)))∧∃q os',w'=Go.Sort.grow (w0.drewN q) os':=by
 obtain⟨a1,a2,⟨a3,⟨a4,a5,a6⟩,⟨a7,a8,a9⟩,a10,a11,a12⟩⟩:=x
 obtain⟨b1,b2,⟨b3,⟨b4,b5,b6⟩,⟨b7,b8,b9⟩,b10,b11,b12⟩⟩:=y
 exact zsf a1 a2 a3 a4 a5 a6 a7 a8 a9 a10 a11 a12 b1 b2 b3 b4 b5 b6 b7 b8 b9 b10 b11 b12 w0 hx hy
theorem ztF {l r:List yu}{s:Value}(h:zhT l=some r):ya Tryz.prog 107 [isV s,QH 108 []] [(s,zq 109 l)] (z7) [some (zq 109 r)]:=by
 obtain⟨hl,h⟩:=zo h
 obtain rfl:=za h
 exact zmO (ρ:=(Int×Str×(Str×(Str×Int×Int)×(Str×Int×Int)×SlV×Str×Str))) ztM (z6.via (fun x:yu=>(x.z,x.id,x.x)) (z6.pair (z6.same Int) (z6.pair (z6.same Str) (z6.via (fun x:zu=>(x.Id,x.From,x.To,x.Bends,x.Text,x.Class)) (z6.pair (z6.same Str) (z6.pair (z6.via (fun x:zO=>(x.Node,x.Side,x.At)) (z6.pair (z6.same Str) (z6.pair (z6.same Int) (z6.same Int)))) (z6.pair (z6.via (fun x:zO=>(x.Node,x.Side,x.At)) (z6.pair (z6.same Str) (z6.pair (z6.same Int) (z6.same Int)))) (z6.pair (z6.row zz) (z6.pair (z6.same Str) (z6.same Str)))))))))) (fun r=>(r.1,r.2.1)) (fun x:yu=>(x.z,x.id)) (fun h=>Prod.ext h.1 h.2.1) Q9 o o zpE zpF Tryz.underlying109 zuE zse hl.1 hl.2.1 hl.2.2 (by decide)
theorem zsK {l1:(List yu)}{r:((List zu)×(List yu))}{s21:Value}(h:zc2 l1=some r):ya Tryz.prog 54 [isV s21] [(s21,zq 109 l1)] (rep r.1) [some (zq 109 r.2)]:=by
 unfold zc2 at h
 obtain⟨r1,hv1,h⟩:=bind_some h
 refine ya.i Tryz.func54 o Tryz.ntmps54 o (fun F=>(.sn mx (.c (.assign .none (.const (x:=([]:(List zu))) (fun M w=>⟨_,⟨none,0,rfl,Nat.le_refl _,by decide,rfl⟩,rfl⟩))) (.nil (.sr [oo,([21],[21])] mx (.mvA o (.cW (.cO [21] (ztF hv1) (.cons (.s o) (.cons .funcC .nil)) (.cons (k:=21) o .nil) o) (.nil (.sr [([],[3])] mx (.cW (.nilRow (T:=59) (α:=zu) o) (.nil (.nameRow (t:=3) (g:=5001) o o o (fun s5001=>(.seq (.sr [oo,([21],[]),oo] mx (.mvA o (.cA (.lenO (k:=21) zfJ (.told (.s o) o)) (.cA (.move .none .i) (.nil ?_)))))))))))))))))))
 obtain⟨j_2,h,hK2⟩:=bind_some h
 refine .thenJ (ι:=(List zu)) (fun j_2=>[]) (fun j_2=>[(3,some (zq 59 j_2))]) (fun s=>j_2=s) (.k 8 o .nil) (.k 21 o .nil) ?_ (fun j_2' hj2=>?_)
 ·
  refine .block (.anon (t:=3) (g:=5001) o o trivial o (.rforL h (fun p3_=>[(10,⟨True,rep p3_.1⟩)]) (fun p3_=>[(3,some (zq 59 p3_.2))]) (.k 10 o .nil) (.k 3 o .nil) (.k2 8 9 o o .nil) (.k 21 o .nil) (fun p3_ o_3 h hD3=>(.nameRow (t:=3) (g:=5002) o o o (fun s5002=>(.sn mx (.lt o o (.nil (.seq (.cb o h (fun _ h=>?_) fun _ h=>?_))))))))))
  ·
   refine .skip (.then (.seq ?_))
   obtain⟨j_5,h,hK5⟩:=bind_some h
   unfold zfp at h
   refine .thenJ (ι:=(List zu)) (fun j_5=>[]) (fun j_5=>[(3,some (zq 59 j_5))]) (fun s=>j_5=s) (.k2 8 9 o o (.k 10 o .nil)) (.k 21 o .nil) ?_ (fun j_5' hj5=>?_)
   ·
    obtain⟨hn6,h⟩:=zo h
    obtain⟨v1,hv7,h⟩:=zn h
    obtain⟨hn8,h⟩:=zo h
    exact .block (.sr [([21],[]),([21],[]),([],[5]),([5],[5])] mx (.ixO 21 zfJ zdw o o o hn6 (.cA (.re hv7 (.loadElem0 (k:=21) .none zdw (.s o) o (fun _=>hn6))) (.al zuR o (.st zdw o o o (.nil (.freeze (t:=5) o o (.k2 21 5002 o o .nil) o (.rg [oo,oo,oo,oo,([5002],[18,5002]),([18],[3,18])] mx (.mvA o (.faA zpw zqq o (.ldA yW o (.cA (.buildSlice (xs:=[_]) .none qY yW zkg (.cons (.s o) .nil) o (by decide)) (.cW (.append (k:=5002) zl7 o (.told (.s o) o) (.s o) hn8) (.cW (.passRow o (.tmp o)) (.nil (.blkNormal (zb.j _ (za h))))))))))))))))))
   ·
    subst hj5;have h:=hK5;clear hK5
    exact .nameRow (t:=3) (g:=5003) o o o (fun s5003=>(.rn mx (.adi o (.mv o (.nil (.anon (t:=3) (g:=5003) o o trivial o (zb.ag (za h))))))))
  ·
   refine .exit (.thenExit (.thenExit (.blkExit (.anon (t:=3) (g:=5002) o o trivial o ?_))))
   replace h:=hD3 _ (za h)
   exact zb.j _ (za h)
 ·
  subst hj2;have h:=hK2;clear hK2
  refine .freezeRowA (t:=3) o o (.k 21 o .nil) o (.sn mx (.mv o (.asn o (.nil (.ret ?_)))))
  obtain rfl:=za h
  exact zb.ret1O (.inl o) [21] Tryz.results54 (by decide) (.held o .nil) (yb.tmp o trivial Imp.refl)
theorem zsF {l1:(List zv)}{r:(Doc×Int)}  (h:zbj l1=some r):zk Tryz.prog 13 [rep l1] (tup [rep r.1,rep r.2]):=by
 unfold zbj at h
 obtain⟨v1,hv1,h⟩:=zn h
 refine zk.i Tryz.func13 o Tryz.ntmps13 o (fun F=>(.sr [([],[2]),oo] mx (.al zbE o (.cA (.assign .none .i) (.nil (.reB (t:=2) o (congrArg (zM 25) hv1) (.nameBox (t:=2) (g:=5001) o o (fun m5001=>(.sr [([],[4])] mx (.cW (.nilRow (T:=113) (α:=yt) o) (.nil (.nameRow (t:=4) (g:=5002) o o o (fun s5002=>(.sr [([],[5])] mx (.cW (.nilRow (T:=109) (α:=yu) o) (.nil (.nameRow (t:=5) (g:=5003) o o o (fun s5003=>(.seq (.sn mx (.mv o (.ln qD o (.mvi (.nil ?_))))))))))))))))))))))))
 obtain⟨o_2,h,hK2⟩:=ym h
 refine .thenJ (ι:=((List yt)×(List yu))) (fun j_2=>[]) (fun j_2=>[(4,some (zq 113 j_2.1)),(5,some (zq 109 j_2.2))]) (fun s=>o_2=Res.nx s) (.k 2 o .nil) (.k 5001 o .nil) ?_ (fun j_2 hj2=>?_)
 ·
  refine .block (.anon (t:=4) (g:=5002) o o trivial o (.anon (t:=5) (g:=5003) o o trivial o (.rforEL h (fun p3_=>[(27,⟨True,rep p3_.1⟩)]) (fun p3_=>[(4,some (zq 113 p3_.2.1)),(5,some (zq 109 p3_.2.2))]) (.k 27 o .nil) (.k2 4 5 o o .nil) (.k2 2 25 o o (.k 26 o .nil)) (.k 5001 o .nil) (fun p3_ o_3 h hD3=>(.nameRow (t:=4) (g:=5004) o o o (fun s5004=>(.nameRow (t:=5) (g:=5005) o o o (fun s5005=>(.sn mx (.lt o o (.nil (.seq (.cb o h (fun _ h=>?_) fun _ h=>?_)))))))))))))
  ·
   refine .skip (.then (.seq ?_))
   obtain⟨o_5,h,hK5⟩:=yB h
   unfold zcX at h
   refine .thenJ (ι:=((List yt)×(List yu))) (fun j_5=>[]) (fun j_5=>[(4,some (zq 113 j_5.1)),(5,some (zq 109 j_5.2))]) (fun s=>o_5=Res.nx s) (.k4 2 25 26 27 o o o o .nil) (.k 5001 o .nil) ?_ (fun j_5 hj5=>?_)
   ·
    obtain⟨hn6,h⟩:=zo h
    obtain⟨v2,hv7,h⟩:=zn h
    obtain⟨r1,hv8,h⟩:=bind_some h
    obtain⟨hn9,h⟩:=zo h
    obtain⟨m1,hv10,h⟩:=zn h
    obtain⟨r2,hv11,h⟩:=bind_some h
    obtain⟨r3,hv12,h⟩:=bind_some h
    obtain⟨r4,hv13,h⟩:=bind_some h
    obtain⟨r5,hv14,h⟩:=bind_some h
    obtain⟨r6,hv15,h⟩:=bind_some h
    obtain⟨hn16,h⟩:=zo h
    obtain⟨r7,hv17,h⟩:=bind_some h
    refine .block (.sr [oo,oo,([],[7]),([7],[7])] mx (.ixA qD y9 o o hn6 (.rlA hv7 y9 o (.al QY o (.st y9 o o o (.nil (.freeze (t:=7) o o (.k2 5001 5004 o o (.k 5005 o .nil)) o (.sr [oo,oo,([],[33]),oo,oo,([33],[36,33]),([36],[8,36])] mx (.ldA y9 o (.cA (.buildSlice (xs:=[_]) .none qD y9 zg1 (.cons (.s o) .nil) o (by decide)) (.cW (.cO [] (zsw hv8) (.cons (.s o) .nil) .nil o) (.faA jq jr o (.ldA ty9 o (.cW (.lookupZ o YW zf3 (.tmp o) (.s o) hn9) (.cW (.passRow o (.tmp o)) (.nil (.reB (t:=8) o (congrArg zR hv10) (.nameMap (t:=8) (g:=5006) o o o (fun s5006=>(.sr [oo,([5006],[5006]),oo,oo,oo,oo,oo] mx (.mvA o (.cW (.cO [5006] (QS hv11) (.cons (.s o) (.cons (.str (l:=[107,105,110,100]) (by decide)) .nil)) (.cons (k:=5006) o .nil) o) (.mvA o (.exA o o (.exA o o (.asnA o (.asnA o (.nil (.sr [oo,([5006],[5006]),oo,oo,oo,oo,oo] mx (.mvA o (.cW (.cO [5006] (QS hv12) (.cons (.s o) (.cons (.str (l:=[122]) (by decide)) .nil)) (.cons (k:=5006) o .nil) o) (.mvA o (.exA o o (.exA o o (.asnA o (.asnA o (.nil (.sn mx (.mv o (.c (.call .none (zfk hv13) (.cons (.s o) .nil)) (.mv o (.ex o o (.ex o o (.asn o (.asn o (.nil (.sr [oo,([5006],[5006]),oo,oo,oo,oo,oo] mx (.mvA o (.cW (.cO [5006] (QS hv14) (.cons (.s o) (.cons (.str (l:=[116,101,120,116]) (by decide)) .nil)) (.cons (k:=5006) o .nil) o) (.mvA o (.exA o o (.exA o o (.asnA o (.asnA o (.nil (.sr [oo,([5006],[5006]),oo,oo,oo,oo,oo] mx (.mvA o (.cW (.cO [5006] (QS hv15) (.cons (.s o) (.cons (.str (l:=[99,108,97,115,115]) (by decide)) .nil)) (.cons (k:=5006) o .nil) o) ?_))))))))))))))))))))))))))))))))))))))))))))))))))))))))))
    refine .mvA o (.exA o o (.exA o o (.asnA o (.asnA o (.nil (.seq (.sn mx (.mv o (.c (.not .none (.s o)) (.mv o (.mg o o o (.c (.len (.at o o) yI (.tmp o id)) (.c (.neI (.at o o) (.tmp o id) .i) (.po o o (.mv o (.mg o o o (.c (.indexAddr (.at o o) yI ty3 (.tmp o id) .i (fun hg=>hn16 hg.2)) (.lg ty3 o o o (.c (.callIf (.at o o) zec (fun hg=>Jc ((fun hg=>qf hv17 ((Qx hg.2))) hg)) (.cons (.tmp o id) (.cons .i (.cons .i .nil))) (fun h=>h)) (.c (.not (.at o o) (.tmp o id)) (.po o o (.mv o (.mg o o o (.c (.move (.at o o) (.tmp o id)) (.mg o o o (.c (.eqS (.at o o) (yy Tryz.underlying9) (.tmp o id) (.str (l:=[]) (by decide))) (.c (.pickAnd (.at o o) (.tmp o id) (.tmp o id)) (.po o o (.mv o (.mg o o o (.c (.move (.at o o) (.tmp o id)) (.mg o o o (.c (.eqS (.at o o) (yy Tryz.underlying9) (.tmp o id) (.str (l:=[]) (by decide))) (.c (.pickAnd (.at o o) (.tmp o id) (.tmp o id)) (.po o o (.nil (.cb o h (fun _ h=>?_) fun _ h=>?_)))))))))))))))))))))))))))))))))))))
    ·
     obtain⟨v3,hv19,h⟩:=zn h
     refine .sr [oo,([5001],[5001]),oo] mx (.cA (.re hv19 (.buildF (y:=(⟨([]:(List zh)),([]:(List zu))⟩:Doc)) .none YI Jn o .nil .nil)) (.s0 5001 yq o o o (.cA (.assign .none .i) (.nil (.fb 5001 [2] o (.cons (t:=2) o trivial .nil) (.ret (.thenRet (.blkRet (.thenRet (.thenRet (.blkRet (.thenRet ?_))))))))))))
     replace h:=yf hK5 (za h)
     replace h:=hD3 _ (za h)
     replace h:=z8 hK2 (za h)
     obtain rfl:=za h
     exact zb.r2 Tryz.results13 yq o o
    ·
     refine .skip (.then (.seq (.sn mx (.mv o (.c (.eqS .none (yy Tryz.underlying9) (.s o) (.str (l:=[101,100,103,101]) (by decide))) (.nil (.cb o h (fun _ h=>?_) fun _ h=>?_)))))))
     ·
      obtain⟨r8,hv21,h⟩:=bind_some h
      refine .sr [oo,([5006],[5006]),oo,oo,oo,([],[19]),([19],[19]),oo] mx (.mvA o (.cW (.cO [5006] (zsP hv21) (.cons (.s o) .nil) (.cons (k:=5006) o .nil) o) (.mvA o (.exA o o (.exA o o (.al YC o (.st yW o o o (.asnA o (.nil (.nameBox (t:=19) (g:=5007) o o (fun m5007=>(.seq (.sn mx (.mv o (.c (.not .none (.s o)) (.nil (.cb o h (fun _ h=>?_) fun _ h=>?_)))))))))))))))))
      ·
       obtain⟨v4,hv23,h⟩:=zn h
       refine .sr [oo,([5001],[5001]),oo] mx (.cA (.re hv23 (.buildF (y:=(⟨([]:(List zh)),([]:(List zu))⟩:Doc)) .none YI Jn o .nil .nil)) (.s0 5001 yq o o o (.cA (.assign .none .i) (.nil (.fb 5001 [2] o (.cons (t:=2) o trivial .nil) (.ret (.thenRet (.thenRet (.blkRet (.thenRet (.thenRet (.blkRet (.thenRet ?_)))))))))))))
       replace h:=yf hK5 (za h)
       replace h:=hD3 _ (za h)
       replace h:=z8 hK2 (za h)
       obtain rfl:=za h
       exact zb.r2 Tryz.results13 yq o o
      ·
       obtain⟨hn24,h⟩:=zo h
       obtain⟨hn25,h⟩:=zo h
       obtain⟨edges1,hv26,h⟩:=zn h
       exact .skip (.then (.sr [oo,oo,oo,oo,oo,([5007],[5007]),oo,([5007],[5007]),oo,([5007],[5007])] mx (.faA jq jr o (.ldA ty9 o (.mvA o (.mvA o (.cA (.fieldPtr .none j8 (.s o)) (.cN (.storeAt (g:=5007) ty9 o (.s o) zmy (.s o)) (.cA (.fieldPtr .none JG (.s o)) (.cN (.storeAt (g:=5007) ty9 o (.s o) zmC (.s o)) (.cA (.fieldPtr .none YP (.s o)) (.cN (.storeAt (g:=5007) ty9 o (.s o) zmD (.s o)) (.nil (.freezeBox (g:=5007) (ts:=[19]) o (.cons (t:=19) o trivial .nil) (.k2 5001 5004 o o (.k 5005 o .nil)) o (.sr [oo,oo,oo,oo,oo,oo,oo,oo,oo,([5005],[117,5005]),([117],[5,117])] mx (.mvA o (.mvA o (.cA (.indexAddr .none yI ty3 (.s o) .i (fun _=>hn24)) (.ldA ty3 o (.faA jq jr o (.ldA ty9 o (.ldA yW o (.cA (.buildF (y:=(⟨gx r4.1 0,v2.Id,{ { { r8.1 with Id:=v2.Id }with Text:=r5.1 }with Class:=r6.1 }⟩:yu)) .none zou zuO o (.cons (.s o) (.cons (.s o) (.cons (.s o) .nil))) (.cons o ztl (.cons o ztm (.cons o ztn .nil)))) (.cA (.buildSlice (xs:=[_]) .none zfJ zdw zqz (.cons (.s o) .nil) o (by decide)) (.cW (.append (k:=5005) zs4 o (.told (.s o) o) (.s o) hn25) (.cW (.passRow o (.tmp o)) (.nil (.reB (t:=5) o (congrArg (zq 109) hv26) (.nameRow (t:=5) (g:=5008) o o o (fun s5008=>(.exit (.thenExit (.blkExit (.anon (t:=4) (g:=5004) o o trivial o (.anon (t:=5) (g:=5008) o o trivial o (zb.j _ (za h)))))))))))))))))))))))))))))))))))))
     ·
      obtain⟨r9,hv27,h⟩:=bind_some h
      refine .skip (.then (.sr [oo,oo,([5006],[5006]),oo,oo,oo,([],[21]),([21],[21]),oo] mx (.mvA o (.mvA o (.cW (.cO [5006] (zsQ hv27) (.cons (.s o) (.cons (.s o) .nil)) (.cons (k:=5006) o .nil) o) (.mvA o (.exA o o (.exA o o (.al ja o (.st zJ o o o (.asnA o (.nil (.nameBox (t:=21) (g:=5009) o o (fun m5009=>(.seq (.sn mx (.mv o (.c (.not .none (.s o)) (.nil (.cb o h (fun _ h=>?_) fun _ h=>?_))))))))))))))))))))
      ·
       obtain⟨v5,hv29,h⟩:=zn h
       refine .sr [oo,([5001],[5001]),oo] mx (.cA (.re hv29 (.buildF (y:=(⟨([]:(List zh)),([]:(List zu))⟩:Doc)) .none YI Jn o .nil .nil)) (.s0 5001 yq o o o (.cA (.assign .none .i) (.nil (.fb 5001 [2] o (.cons (t:=2) o trivial .nil) (.ret (.thenRet (.blkRet (.thenRet (.thenRet (.blkRet (.thenRet ?_))))))))))))
       replace h:=yf hK5 (za h)
       replace h:=hD3 _ (za h)
       replace h:=z8 hK2 (za h)
       obtain rfl:=za h
       exact zb.r2 Tryz.results13 yq o o
      ·
       obtain⟨hn30,h⟩:=zo h
       obtain⟨hn31,h⟩:=zo h
       exact .skip (.then (.sr [oo,oo,oo,oo,oo,([5009],[5009]),oo,([5009],[5009]),oo,([5009],[5009])] mx (.faA jq jr o (.ldA ty9 o (.mvA o (.mvA o (.cA (.fieldPtr .none qI (.s o)) (.cN (.storeAt (g:=5009) ty9 o (.s o) zmo (.s o)) (.cA (.fieldPtr .none zb7 (.s o)) (.cN (.storeAt (g:=5009) ty9 o (.s o) zmr (.s o)) (.cA (.fieldPtr .none zaF (.s o)) (.cN (.storeAt (g:=5009) ty9 o (.s o) zms (.s o)) (.nil (.freezeBox (g:=5009) (ts:=[21]) o (.cons (t:=21) o trivial .nil) (.k2 5001 5004 o o (.k 5005 o .nil)) o (.rg [oo,oo,oo,oo,oo,oo,oo,oo,oo,([5004],[143,5004]),([143],[4,143])] mx (.mvA o (.mvA o (.cA (.indexAddr .none yI ty3 (.s o) .i (fun _=>hn30)) (.ldA ty3 o (.faA jq jr o (.ldA ty9 o (.ldA zJ o (.cA (.buildF (y:=(⟨gx r4.1 0,v2.Id,{ { { r9.1 with Id:=v2.Id }with Text:=r5.1 }with Class:=r6.1 }⟩:yt)) .none zov zuP o (.cons (.s o) (.cons (.s o) (.cons (.s o) .nil))) (.cons o zto (.cons o ztp (.cons o ztq .nil)))) (.cA (.buildSlice (xs:=[_]) .none zfI zdx zqA (.cons (.s o) .nil) o (by decide)) (.cW (.append (k:=5004) zs3 o (.told (.s o) o) (.s o) hn31) (.cW (.passRow o (.tmp o)) (.nil (.blkNormal (.anon (t:=5) (g:=5005) o o trivial o (zb.j _ (za h)))))))))))))))))))))))))))))))
   ·
    have h:=yD hK5 hj5
    exact .nameRow (t:=4) (g:=5010) o o o (fun s5010=>(.nameRow (t:=5) (g:=5011) o o o (fun s5011=>(.rn mx (.adi o (.mv o (.nil (.anon (t:=4) (g:=5010) o o trivial o (.anon (t:=5) (g:=5011) o o trivial o (zb.ag (za h)))))))))))
  ·
   refine .exit (.thenExit (.thenExit (.blkExit (.anon (t:=4) (g:=5004) o o trivial o (.anon (t:=5) (g:=5005) o o trivial o ?_)))))
   replace h:=hD3 _ (za h)
   exact zb.j _ (za h)
 ·
  have h:=yn hK2 hj2
  obtain⟨r10,hv32,h⟩:=bind_some h
  obtain⟨r11,hv33,h⟩:=bind_some h
  obtain⟨v6,hv34,h⟩:=zn h
  obtain⟨e1,hv35,h⟩:=bind_some h
  refine .nameRow (t:=4) (g:=5012) o o o (fun s5012=>(.nameRow (t:=5) (g:=5013) o o o (fun s5013=>(.sr [oo,([5012],[5012]),oo,([5013],[5013]),oo,([],[23]),([23],[23])] mx (.mvA o (.cW (.cO [5012] (zsL hv32) (.cons (.s o) .nil) (.cons (k:=5012) o .nil) o) (.mvA o (.cW (.cO [5013] (zsK hv33) (.cons (.s o) .nil) (.cons (k:=5013) o .nil) o) (.cA (.re hv34 (.buildF (y:=(⟨r10.1,r11.1⟩:Doc)) .none YI Jn o (.cons (.s o) (.cons (.s o) .nil)) (.cons o ztr (.cons o zts .nil)))) (.al zbE o (.st yq o o o (.nil (.freeze (t:=23) o o (.k 5001 o .nil) o (.seq (.sn mx (.ld yq o (.c (.call .none (zlR hv35) (.cons (.s o) .nil)) (.asn o (.nil (.sn mx (.mv o (.nei o (.nil (.cb o h (fun _ h=>?_) fun _ h=>?_))))))))))))))))))))))))
  ·
   obtain⟨v7,hv37,h⟩:=zn h
   refine .sr [oo,oo,([5001],[5001]),oo] mx (.cA (.re hv37 (.buildF (y:=(⟨([]:(List zh)),([]:(List zu))⟩:Doc)) .none YI Jn o .nil .nil)) (.mvA o (.s0 5001 yq o o o (.asnA o (.nil (.fb 5001 [2] o (.cons (t:=2) o trivial .nil) (.ret (.thenRet ?_))))))))
   obtain rfl:=za h
   exact zb.r2 Tryz.results13 yq o o
  ·
   refine .skip (.then (.sr [oo,([5001],[5001]),oo] mx (.ldA yq o (.s0 5001 yq o o o (.cA (.assign .none .i) (.nil (.fb 5001 [2] o (.cons (t:=2) o trivial .nil) (.ret ?_))))))))
   obtain rfl:=za h
   exact zb.r2 Tryz.results13 yq o o
theorem zq3 {d1:Doc}{e1:Int}{want1:Int}{right1:Doc}{r:Bool}  (h:JS d1 e1 want1 right1=some r):zk Tryz.prog 14 [rep d1,rep e1,rep want1,rep right1] (rep r):=by
 unfold JS at h
 refine zk.i Tryz.func14 o Tryz.ntmps14 o (fun F=>(.sn mx (.c (.box .none (.s o)) (.c (.box .none (.s o)) (.asb (.nil (.seq (.sn mx (.mv o (.nei o (.nil (.cb o h (fun _ h=>?_) fun _ h=>?_))))))))))))
 ·
  refine .sn mx (.fa yX qc o (.ld y8 o (.ln yh o (.eqi o (.mv o (.fg vM Qv o o o (.lg Qr o o o (.c (.len (.at o o) qY (.tmp o id)) (.c (.eqI (.at o o) (.tmp o id) .i) (.pa o o (.mv o (.mg o o o (.mg o o o (.c (.eqI (.at o o) (.tmp o id) (.tmp o id)) (.pa o o (.asn o (.nil (.ret (.thenRet ?_)))))))))))))))))))
  obtain rfl:=za h
  exact zb.rt Tryz.results14 o
 ·
  obtain⟨r1,hv2,h⟩:=bind_some h
  refine .skip (.then (.sn mx (.mv o (.eqi o (.mv o (.c (.load (.at o o) yq (.s o)) (.c (.load (.at o o) yq (.s o)) (.c (.callIf (.at o o) zjQ (fun hg=>zlV ((fun hg=>qf hv2 (hg.2)) hg)) (.cons (.tmp o id) (.cons (.tmp o id) .nil)) (fun h=>h)) (.pa o o (.asn o (.nil (.ret ?_))))))))))))
  obtain rfl:=za h
  exact zb.rt Tryz.results14 o
theorem zq2 {d1:Doc}{l1:(List zv)}{r:Bool}  (h:zey d1 l1=some r):zk Tryz.prog 3 [rep d1,rep l1] (rep r):=by
 unfold zey at h
 obtain⟨own1,hv1,h⟩:=bind_some h
 obtain⟨r1,hv2,h⟩:=bind_some h
 obtain⟨r2,hv3,h⟩:=bind_some h
 refine zk.i Tryz.func3 o Tryz.ntmps3 o (fun F=>(.sn mx (.c (.box .none (.s o)) (.asb (.nil (.sn mx (.ld yq o (.c (.call .none (zlR hv1) (.cons (.s o) .nil)) (.asn o (.nil (.sn mx (.ld yq o (.c (.call .none (zoY hv2) (.cons (.s o) .nil)) (.mv o (.ex o o (.ex o o (.asn o (.asn o (.nil (.seq (.sn mx (.c (.call .none (zq4 hv3) .nil) (.c (.not .none (.s o)) (.mv o (.mg o o o (.mg o o o (.mg o o o (.c (.makeFunc (ι:=(List zv)) (pre:=fun i=>(zaX d1)=some i) (Ss:=fun i=>[]) (S:=fun i=>rep i) (.at o o) zp2 (fun i h=>zq1 h) (.cons (.s o) .nil)) ?_))))))))))))))))))))))))))))
 obtain⟨r3,hv4,h⟩:=bind_some h
 refine .c (.callIf (.at o o) zpV (fun hg=>zq7 ((fun hg=>qf hv4 ((Qx hg.2))) hg)) (.cons (.tmp o id) (.cons (.tmp o id) (.cons (.tmp o id) (.cons (.tmp o id) .nil)))) (fun h=>h)) (.c (.not (.at o o) (.tmp o id)) (.po o o (.nil (.cb o h (fun _ h=>?_) fun _ h=>?_))))
 ·
  refine .sn mx (.asb (.nil (.ret (.thenRet ?_))))
  obtain rfl:=za h
  exact zb.rt Tryz.results3 o
 ·
  refine .skip (.then (.seq (.sn mx (.mv o (.eqi o (.nil ?_))))))
  obtain⟨o_6,h,hK6⟩:=ym h
  refine .tJ (fun s=>o_6=Res.nx s) (.k 1 o .nil) zd.nil ?_ (fun j_6 hj6=>?_)
  ·
   refine .cb o h (fun _ h=>?_) fun _ h=>?_
   ·
    obtain⟨r4,hv8,h⟩:=bind_some h
    obtain⟨r5,hv9,h⟩:=bind_some h
    refine .sr [oo,oo,oo,oo,oo,([],[8]),([8],[8]),oo] mx (.mvA o (.cA (.call .none (zi7 hv8) (.cons (.s o) .nil)) (.mvA o (.exA o o (.exA o o (.al zbE o (.st yq o o o (.asnA o (.nil (.freeze (t:=8) o o zd.nil o (.sn mx (.mv o (.nei o (.mv o (.c (.load (.at o o) yq (.s o)) (.c (.load (.at o o) yq (.s o)) (.c (.callIf (.at o o) zjQ (fun hg=>zlV ((fun hg=>qf hv9 ((Qx hg.2))) hg)) (.cons (.tmp o id) (.cons (.tmp o id) .nil)) (fun h=>h)) (.c (.not (.at o o) (.tmp o id)) (.po o o (.nil (.cb o h (fun _ h=>?_) fun _ h=>?_)))))))))))))))))))))
    ·
     refine .sn mx (.asb (.nil (.ret (.thenRet ?_))))
     replace h:=z8 hK6 (za h)
     obtain rfl:=za h
     exact zb.rt Tryz.results3 o
    ·
     exact .skip (zb.j _ (za h))
   ·
    exact .skip (zb.j _ (za h))
  ·
   have h:=yn hK6 hj6
   obtain⟨r6,hv11,h⟩:=bind_some h
   obtain⟨want1,hv12,h⟩:=bind_some h
   obtain⟨right1,hv13,h⟩:=zn h
   refine .sr [oo,oo,oo,oo,oo,([],[10]),([10],[10]),oo] mx (.mvA o (.cA (.call .none (zi7 hv11) (.cons (.s o) .nil)) (.mvA o (.exA o o (.exA o o (.al zbE o (.st yq o o o (.asnA o (.nil (.freeze (t:=10) o o zd.nil o (.sn mx (.mv o (.c (.call .none (zsG hv12) (.cons (.s o) .nil)) (.asn o (.nil (.sr [([],[12])] mx (.al zbE o (.nil (.reB (t:=12) o (congrArg (zM 25) hv13) (.nameBox (t:=12) (g:=5001) o o (fun m5001=>(.seq (.sn mx (.mv o (.eqi o (.nil ?_))))))))))))))))))))))))))
   obtain⟨j_14,h,hK14⟩:=bind_some h
   refine .thenJ (ι:=(Int×Doc)) (fun j_14=>[(11,⟨True,rep j_14.1⟩)]) (fun j_14=>[(5001,some (qb m5001 25 j_14.2))]) (fun s=>j_14=s) (.k2 7 10 o o (.k 12 o .nil)) zd.nil ?_ (fun j_14' hj14=>?_)
   ·
    refine .cb o h (fun _ h=>?_) fun _ h=>?_
    ·
     obtain⟨r7,hv16,h⟩:=bind_some h
     exact .rg [oo,oo,oo,oo,oo,([5001],[5001]),oo] mx (.mvA o (.cA (.call .none (zsF hv16) (.cons (.s o) .nil)) (.mvA o (.exA o o (.exA o o (.s0 5001 yq o o o (.asnA o (.nil (zb.j _ (za h))))))))))
    ·
     exact .skip (zb.j _ (za h))
   ·
    subst hj14;have h:=hK14;clear hK14
    obtain⟨r8,hv17,h⟩:=bind_some h
    refine .fb 5001 [12] o (.cons (t:=12) o trivial .nil) (.sn mx (.ld yq o (.mv o (.mv o (.ld yq o (.c (.call .none (zq3 hv17) (.cons (.s o) (.cons (.s o) (.cons (.s o) (.cons (.s o) .nil))))) (.asn o (.nil (.ret ?_)))))))))
    obtain rfl:=za h
    exact zb.rt Tryz.results3 o
end Go.Proofs.YtenpeohfmbilaaaGreatDoor
