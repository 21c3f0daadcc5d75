/- A part of the proof. -/
import Derived.Test.YtenpeohfmbilaaaGreatDoorDatWa1
set_option maxRecDepth 100000
set_option linter.unusedSimpArgs false
set_option linter.unusedVariables false
namespace Go.Proofs.YtenpeohfmbilaaaGreatDoor
open Go Go.DB Go.RowKit
set_option maxHeartbeats 4000000 in
theorem zoY {d1:Doc}{r:((List zv)×Int)}  (h:JB d1=some r):zk Tryz.prog 5 [rep d1] (tup [rep r.1,rep r.2]):=by
 unfold JB at h
 obtain⟨e1,hv1,h⟩:=bind_some h
 refine zk.i Tryz.func5 o Tryz.ntmps5 o (fun F=>(.sn mx (.c (.box .none (.s o)) (.c (.assign .none (.const (x:=([]:(List zv))) (fun M w=>⟨_,⟨none,0,rfl,Nat.le_refl _,by decide,rfl⟩,rfl⟩))) (.asi (.nil (.seq (.sn mx (.ld yq o (.c (.call .none (zlr hv1) (.cons (.s o) .nil)) (.asn o (.nil (.sn mx (.mv o (.nei o (.nil (.cb o h (fun _ h=>?_) fun _ h=>?_)))))))))))))))))
 ·
  refine .sn mx (.mv o (.c (.assign .none (.const (x:=([]:(List zv))) (fun M w=>⟨_,⟨none,0,rfl,Nat.le_refl _,by decide,rfl⟩,rfl⟩))) (.asn o (.nil (.ret (.thenRet ?_))))))
  obtain rfl:=za h
  exact zb.ret2 (.inl o) Tryz.results5 (yb.tmp o trivial Imp.refl) (yb.tmp o trivial Imp.refl)
 ·
  obtain⟨t1,hv3,h⟩:=zn h
  refine .skip (.then (.sr [([],[21]),([21],[5,21])] mx (.cW (.makeMapD (K:=Str) (K2:=Str) (V:=Str) o) (.cW (.passRow o (.tmp o)) (.nil (.reB (t:=5) o (congrArg (yd none) hv3) (.nameC (t:=5) (g:=5001) zeQ o o o (fun s5001=>(.seq (.sn mx (.fa yX qc o (.ld y8 o (.ln yh o (.mvi (.nil ?_)))))))))))))))
  obtain⟨j_4,h,hK4⟩:=bind_some h
  refine .thenJ (ι:=(GMap Str (GMap Str Str))) (fun j_4=>[]) (fun j_4=>[(5001,some (ze.at s5001 (yd none j_4)))]) (fun s=>j_4=s) (.k2 1 5 o o .nil) zd.nil ?_ (fun j_4' hj4=>?_)
  ·
   refine .block (.rforL h (fun p5_=>[(25,⟨True,rep p5_.1⟩)]) (fun p5_=>[(5001,some (ze.at s5001 (yd none p5_.2)))]) (.k 25 o .nil) (.k 5001 o .nil) (.k4 1 5 23 24 o o o o .nil) zd.nil (fun p5_ o_5 h hD5=>(.sn mx (.lt o o (.nil (.seq (.cb o h (fun _ h=>?_) fun _ h=>?_)))))))
   ·
    refine .skip (.then (.seq ?_))
    obtain⟨j_7,h,hK7⟩:=bind_some h
    unfold zbV at h
    refine .thenJ (ι:=(GMap Str (GMap Str Str))) (fun j_7=>[]) (fun j_7=>[(5001,some (ze.at s5001 (yd none j_7)))]) (fun s=>j_7=s) (.k4 1 5 23 24 o o o o (.k 25 o .nil)) zd.nil ?_ (fun j_7' hj7=>?_)
    ·
     obtain⟨hn8,h⟩:=zo h
     obtain⟨v1,hv9,h⟩:=zn h
     obtain⟨r1,hv10,h⟩:=bind_some h
     obtain⟨hn11,h⟩:=zo h
     obtain⟨r2,hv12,h⟩:=bind_some h
     obtain⟨f1,hv13,h⟩:=zn h
     refine .block (.sr [oo,oo,oo,([],[7]),oo,([7],[7])] mx (.mvA o (.ixA yh zJ o o hn8 (.rlA hv9 zJ o (.al ja o (.asnA o (.st zJ o o o (.nil (.freeze (t:=7) o o (.k 5001 o .nil) o (.seq (.regionG 30 (GMap.nil:(GMap Str Str)) ([((⟨[107,105,110,100]⟩:Str),(gx r1 v1.Kind)),((⟨[122]⟩:Str),r2)]:List (Str×Str)) [([],[30]),([],[]),([],[]),([],[]),([],[]),([],[]),([30],[30]),([],[]),([],[]),([30],[30]),([30],[38,30]),([38],[8,38])] mixed (by kernel_rfl) (show([(⟨[107,105,110,100]⟩:Str),(⟨[122]⟩:Str)]:List Str).Nodup from by decide) (zG.one o (.cW (.makeMap (K:=Str) (V:=Str) o) (.nil (zG.one o (.cA (.call .none (zi9 hv10) .nil) (.nil (zG.one o (.faA qV qO o (.nil (zG.one o (.ldA ty3 o (.nil (zG.one o (.ixA yO ty9 o o hn11 (.nil (zG.one o (.ldA ty9 o (.nil (zG.put o o o (fun m' B' hB'=>zg.mapInsert (q:=30) yF hB' (.str (l:=[107,105,110,100]) (by decide)) (.s o)) (zG.one o (.mvA o (.nil (zG.one o (.cA (.call .none (QV hv12) (.cons (.s o) .nil)) (.nil (zG.put o o o (fun m' B' hB'=>zg.mapInsert (q:=30) yF hB' (.str (l:=[122]) (by decide)) (.s o)) (zG.one o (.cW (.passRowM o (.tmp o)) (.nil (zG.one o (.cW (.passRow o (.tmp o)) (.nil (zG.nil (.then (.reB (t:=8) o (congrArg zR hv13) (.nameMap (t:=8) (g:=5002) o o o (fun s5002=>(.seq (.sn mx (.fa qV qO o (.ld ty3 o (.nei o (.nil ?_))))))))))))))))))))))))))))))))))))))))))))))))))))))
     obtain⟨j_14,h,hK14⟩:=bind_some h
     refine .thenJ (ι:=(GMap Str Str)) (fun j_14=>[]) (fun j_14=>[(5002,some (ze.at s5002 (zR j_14)))]) (fun s=>j_14=s) (.k4 1 5 7 8 o o o o (.k2 23 24 o o (.k 25 o .nil))) (.k 5001 o .nil) ?_ (fun j_14' hj14=>?_)
     ·
      refine .cb o h (fun _ h=>?_) fun _ h=>?_
      ·
       obtain⟨r3,hv16,h⟩:=bind_some h
       exact .rg [oo,oo,oo,oo,oo,oo,oo,oo,oo,oo,oo,oo,oo,oo,oo,([5002],[5002])] mx (.mvA o (.faA jQ vc o (.faA vn va o (.ldA ty3 o (.faA jQ vc o (.faA vo vb o (.ldA ty3 o (.faA jQ vc o (.faA Qe vO o (.ldA ty3 o (.faA jQ vc o (.faA Qf vP o (.ldA ty3 o (.cA (.buildSlice (xs:=[_,_,_,_]) .none yI ty3 hz3 (.cons (.s o) (.cons (.s o) (.cons (.s o) (.cons (.s o) .nil)))) o (by decide)) (.cA (.call .none (zja hv16) (.cons (.s o) .nil)) (.cN (.mapUpdate (q:=5002) yF (.s o) o (.str (l:=[112,108,97,99,101]) (by decide)) (.s o)) (.nil (zb.j _ (za h)))))))))))))))))))
      ·
       exact .skip (zb.j _ (za h))
     ·
      subst hj14;have h:=hK14;clear hK14
      refine .seq (.seq (.regionG 57 (GMap.nil:(GMap Str Str)) ([((⟨[116,101,120,116]⟩:Str),v1.Text),((⟨[99,108,97,115,115]⟩:Str),v1.Class),((⟨[112,97,114,101,110,116]⟩:Str),v1.Parent)]:List (Str×Str)) [([],[57]),([],[]),([],[]),([57],[57]),([],[]),([],[]),([57],[57]),([],[]),([],[]),([57],[57]),([57],[64,57]),([64],[65,64])] mixed (by kernel_rfl) (show([(⟨[116,101,120,116]⟩:Str),(⟨[99,108,97,115,115]⟩:Str),(⟨[112,97,114,101,110,116]⟩:Str)]:List Str).Nodup from by decide) (zG.one o (.cW (.makeMap (K:=Str) (V:=Str) o) (.nil (zG.one o (.faA zb7 zcj o (.nil (zG.one o (.ldA ty9 o (.nil (zG.put o o o (fun m' B' hB'=>zg.mapInsert (q:=57) yF hB' (.str (l:=[116,101,120,116]) (by decide)) (.s o)) (zG.one o (.faA zaF zaP o (.nil (zG.one o (.ldA ty9 o (.nil (zG.put o o o (fun m' B' hB'=>zg.mapInsert (q:=57) yF hB' (.str (l:=[99,108,97,115,115]) (by decide)) (.s o)) (zG.one o (.faA jJ jL o (.nil (zG.one o (.ldA ty9 o (.nil (zG.put o o o (fun m' B' hB'=>zg.mapInsert (q:=57) yF hB' (.str (l:=[112,97,114,101,110,116]) (by decide)) (.s o)) (zG.one o (.cW (.passRowM o (.tmp o)) (.nil (zG.one o (.cW (.rangeMapZ Tryz.underlying53 o (.tmp o)) (.nil (zG.nil (.then (.nameAt (t:=65) (g:=5003) o o zcp o (fun m5003=>?_))))))))))))))))))))))))))))))))))))
      obtain⟨j_17,h,hK17⟩:=bind_some h
      refine .thenJ (ι:=(GMap Str Str)) (fun j_17=>[]) (fun j_17=>[(5002,some (ze.at s5002 (zR j_17)))]) (fun s=>j_17=s) (.k4 1 5 7 8 o o o o (.k4 23 24 25 65 o o o o .nil)) (.k 5001 o .nil) ?_ (fun j_17' hj17=>?_)
      ·
       refine .block (.listsF (q:=5003) o (fun hf18=>(.mrangeL h hf18 (fun p18_=>[]) (fun p18_=>[(5003,some (ze.at (ptr m5003 0) (vv ((((GMap.nil:(GMap Str Str)).set (⟨[116,101,120,116]⟩:Str) v1.Text).set (⟨[99,108,97,115,115]⟩:Str) v1.Class).set (⟨[112,97,114,101,110,116]⟩:Str) v1.Parent) p18_.1))),(5002,some (ze.at s5002 (zR p18_.2)))]) Sub.nil (.k2 5003 5002 o o .nil) (.k4 1 5 7 8 o o o o (.k4 23 24 25 65 o o o o .nil)) (.k 5001 o .nil) (fun p18_ H18=>(.sr [([5003],[66,5003]),([66],[67,66])] mx (.cW (.nextF (k:=5003) o o (.s o)) (.cW (.nextedOk (d:=66) o o) (.nil (.openNext (t:=67) (k:=5003) o o o (fun o18_ ho18=>?_))))))))))
       obtain⟨out18_,h,hD18⟩:=H18 o18_ ho18
       refine .againM (fun s' hs'=>⟨o18_,ho18,h.trans (congrArg some hs')⟩) (.seq ?_)
       cases o18_ with
       | some x18_=>
        replace h:=zeH h
        refine .condT (t:=67) o trivial o (.skip (.then ?_))
        obtain⟨j_19,h,hK19⟩:=bind_some h
        unfold zdQ at h
        refine .tailJ (ι:=(GMap Str Str)) (fun j_19=>[]) (fun j_19=>[(5002,some (ze.at s5002 (zR j_19)))]) (fun s=>j_19=s) (.k4 1 5 7 8 o o o o (.k4 23 24 25 65 o o o o .nil)) (.k2 5001 5003 o o .nil) ?_ (fun j_19' hj19=>?_)
        ·
         refine .block (.sr [([5003],[]),oo,oo,oo,oo] mx (.cA (.entryF (k:=5003) (p:=p18_.1) (y:=x18_) o (.s o)) (.exA o o (.exA o o (.asnA o (.asnA o (.nil (.sn mx (.mv o (.c (.neS .none (yy Tryz.underlying9) (.s o) (.str (l:=[]) (by decide))) (.nil (.cb o h (fun _ h=>?_) fun _ h=>?_))))))))))))
         ·
          exact .rg [oo,oo,oo,([5002],[5002])] mx (.mvA o (.mvA o (.mvA o (.cN (.mapUpdate (q:=5002) yF (.s o) o (.s o) (.s o)) (.nil (.blkNormal (zb.j _ (za h))))))))
         ·
          exact .skip (.blkNormal (zb.j _ (za h)))
        ·
         subst hj19;have h:=hK19;clear hK19
         exact zb.ag (za h)
       | none=>
        replace h:=zeG h
        refine .condF (t:=67) o trivial o (.exit (.thenExit (.thenExit (.blkExit ?_))))
        replace h:=hD18 _ (za h)
        exact zb.j _ (za h)
      ·
       subst hj17;have h:=hK17;clear hK17
       refine .seq (.sn mx (.fa zd2 zgX o (.ld ty4 o (.nil ?_))))
       obtain⟨j_21,h,hK21⟩:=bind_some h
       refine .thenJ (ι:=(GMap Str Str)) (fun j_21=>[]) (fun j_21=>[(5002,some (ze.at s5002 (zR j_21)))]) (fun s=>j_21=s) (.k4 1 5 7 8 o o o o (.k2 23 24 o o (.k 25 o .nil))) (.k 5001 o .nil) ?_ (fun j_21' hj21=>?_)
       ·
        refine .cb o h (fun _ h=>?_) fun _ h=>?_
        ·
         exact .rg [oo,([5002],[5002])] mx (.mvA o (.cN (.mapUpdate (q:=5002) yF (.s o) o (.str (l:=[108,111,99,107,101,100]) (by decide)) (.str (l:=[121,101,115]) (by decide))) (.nil (zb.j _ (za h)))))
        ·
         exact .skip (zb.j _ (za h))
       ·
        subst hj21;have h:=hK21;clear hK21
        exact .rg [oo,oo,oo,oo,([5001,5002],[5001,5002])] mx (.mvA o (.faA qI qJ o (.ldA ty9 o (.mvA o (.cN (.mapPutDN (q:=5001) (t:=5002) zcv o (.s o) o (.s o) o (.s o)) (.nil (.blkNormal (zb.j _ (za h)))))))))
    ·
     subst hj7;have h:=hK7;clear hK7
     exact .rn mx (.adi o (.mv o (.nil (zb.ag (za h)))))
   ·
    refine .exit (.thenExit (.thenExit (.blkExit ?_)))
    replace h:=hD5 _ (za h)
    exact zb.j _ (za h)
  ·
   subst hj4;have h:=hK4;clear hK4
   refine .seq (.sn mx (.fa vM Qv o (.ld Qr o (.ln qY o (.mvi (.nil ?_))))))
   obtain⟨j_23,h,hK23⟩:=bind_some h
   refine .thenJ (ι:=(GMap Str (GMap Str Str))) (fun j_23=>[]) (fun j_23=>[(5001,some (ze.at s5001 (yd none j_23)))]) (fun s=>j_23=s) (.k 5 o .nil) zd.nil ?_ (fun j_23' hj23=>?_)
   ·
    refine .block (.rforL h (fun p24_=>[(87,⟨True,rep p24_.1⟩)]) (fun p24_=>[(5001,some (ze.at s5001 (yd none p24_.2)))]) (.k 87 o .nil) (.k 5001 o .nil) (.k2 5 85 o o (.k 86 o .nil)) zd.nil (fun p24_ o_24 h hD24=>(.sn mx (.lt o o (.nil (.seq (.cb o h (fun _ h=>?_) fun _ h=>?_)))))))
    ·
     refine .skip (.then (.seq ?_))
     obtain⟨j_26,h,hK26⟩:=bind_some h
     unfold zbW at h
     refine .thenJ (ι:=(GMap Str (GMap Str Str))) (fun j_26=>[]) (fun j_26=>[(5001,some (ze.at s5001 (yd none j_26)))]) (fun s=>j_26=s) (.k4 5 85 86 87 o o o o .nil) zd.nil ?_ (fun j_26' hj26=>?_)
     ·
      obtain⟨hn27,h⟩:=zo h
      obtain⟨v2,hv28,h⟩:=zn h
      obtain⟨r4,hv29,h⟩:=bind_some h
      obtain⟨r5,hv30,h⟩:=bind_some h
      obtain⟨r6,hv31,h⟩:=bind_some h
      obtain⟨f2,hv32,h⟩:=zn h
      refine .block (.sr [oo,oo,oo,([],[12]),oo,([12],[12])] mx (.mvA o (.ixA qY yW o o hn27 (.rlA hv28 yW o (.al YC o (.asnA o (.st yW o o o (.nil (.freeze (t:=12) o o (.k 5001 o .nil) o (.seq (.regionG 92 (GMap.nil:(GMap Str Str)) ([((⟨[107,105,110,100]⟩:Str),(⟨[101,100,103,101]⟩:Str)),((⟨[102,114,111,109]⟩:Str),r4),((⟨[116,111]⟩:Str),r5),((⟨[122]⟩:Str),r6)]:List (Str×Str)) [([],[92]),([92],[92]),([],[]),([],[]),([],[]),([92],[92]),([],[]),([],[]),([],[]),([92],[92]),([],[]),([],[]),([92],[92]),([92],[101,92]),([101],[13,101])] mixed (by kernel_rfl) (show([(⟨[107,105,110,100]⟩:Str),(⟨[102,114,111,109]⟩:Str),(⟨[116,111]⟩:Str),(⟨[122]⟩:Str)]:List Str).Nodup from by decide) (zG.one o (.cW (.makeMap (K:=Str) (V:=Str) o) (.nil (zG.put o o o (fun m' B' hB'=>zg.mapInsert (q:=92) yF hB' (.str (l:=[107,105,110,100]) (by decide)) (.str (l:=[101,100,103,101]) (by decide))) (zG.one o (.faA YN zaR o (.nil (zG.one o (.ldA yV o (.nil (zG.one o (.cA (.call .none (zi8 hv29) (.cons (.s o) .nil)) (.nil (zG.put o o o (fun m' B' hB'=>zg.mapInsert (q:=92) yF hB' (.str (l:=[102,114,111,109]) (by decide)) (.s o)) (zG.one o (.faA YO zaS o (.nil (zG.one o (.ldA yV o (.nil (zG.one o (.cA (.call .none (zi8 hv30) (.cons (.s o) .nil)) (.nil (zG.put o o o (fun m' B' hB'=>zg.mapInsert (q:=92) yF hB' (.str (l:=[116,111]) (by decide)) (.s o)) (zG.one o (.mvA o (.nil (zG.one o (.cA (.call .none (QV hv31) (.cons (.s o) .nil)) (.nil ?_)))))))))))))))))))))))))))))))))))))))))
      refine zG.put o o o (fun m' B' hB'=>zg.mapInsert (q:=92) yF hB' (.str (l:=[122]) (by decide)) (.s o)) (zG.one o (.cW (.passRowM o (.tmp o)) (.nil (zG.one o (.cW (.passRow o (.tmp o)) (.nil (zG.nil (.then (.reB (t:=13) o (congrArg zR hv32) (.nameMap (t:=13) (g:=5004) o o o (fun s5004=>(.seq (.sn mx (.fa Qu Yk o (.ld QE o (.ln ji o (.c (.gt .none (.s o) .i) (.nil ?_))))))))))))))))))
      obtain⟨j_33,h,hK33⟩:=bind_some h
      refine .thenJ (ι:=(GMap Str Str)) (fun j_33=>[]) (fun j_33=>[(5004,some (ze.at s5004 (zR j_33)))]) (fun s=>j_33=s) (.k4 5 12 13 85 o o o o (.k2 86 87 o o .nil)) (.k 5001 o .nil) ?_ (fun j_33' hj33=>?_)
      ·
       refine .cb o h (fun _ h=>?_) fun _ h=>?_
       ·
        obtain⟨r7,hv35,h⟩:=bind_some h
        obtain⟨r8,hv36,h⟩:=bind_some h
        exact .rg [oo,oo,oo,oo,oo,([5004],[5004])] mx (.mvA o (.faA Qu Yk o (.ldA QE o (.cA (.call .none (zoV hv35) (.cons (.s o) .nil)) (.cA (.call .none (zja hv36) (.cons (.s o) .nil)) (.cN (.mapUpdate (q:=5004) yF (.s o) o (.str (l:=[98,101,110,100,115]) (by decide)) (.s o)) (.nil (zb.j _ (za h)))))))))
       ·
        exact .skip (zb.j _ (za h))
      ·
       subst hj33;have h:=hK33;clear hK33
       refine .seq (.seq (.regionG 111 (GMap.nil:(GMap Str Str)) ([((⟨[116,101,120,116]⟩:Str),v2.Text),((⟨[99,108,97,115,115]⟩:Str),v2.Class)]:List (Str×Str)) [([],[111]),([],[]),([],[]),([111],[111]),([],[]),([],[]),([111],[111]),([111],[116,111]),([116],[117,116])] mixed (by kernel_rfl) (show([(⟨[116,101,120,116]⟩:Str),(⟨[99,108,97,115,115]⟩:Str)]:List Str).Nodup from by decide) (zG.one o (.cW (.makeMap (K:=Str) (V:=Str) o) (.nil (zG.one o (.faA JG zaT o (.nil (zG.one o (.ldA ty9 o (.nil (zG.put o o o (fun m' B' hB'=>zg.mapInsert (q:=111) yF hB' (.str (l:=[116,101,120,116]) (by decide)) (.s o)) (zG.one o (.faA YP JN o (.nil (zG.one o (.ldA ty9 o (.nil (zG.put o o o (fun m' B' hB'=>zg.mapInsert (q:=111) yF hB' (.str (l:=[99,108,97,115,115]) (by decide)) (.s o)) (zG.one o (.cW (.passRowM o (.tmp o)) (.nil (zG.one o (.cW (.rangeMapZ Tryz.underlying53 o (.tmp o)) (.nil (zG.nil (.then (.nameAt (t:=117) (g:=5005) o o zcp o (fun m5005=>?_)))))))))))))))))))))))))))))
       obtain⟨j_37,h,hK37⟩:=bind_some h
       refine .thenJ (ι:=(GMap Str Str)) (fun j_37=>[]) (fun j_37=>[(5004,some (ze.at s5004 (zR j_37)))]) (fun s=>j_37=s) (.k4 5 12 13 85 o o o o (.k2 86 87 o o (.k 117 o .nil))) (.k 5001 o .nil) ?_ (fun j_37' hj37=>?_)
       ·
        refine .block (.listsF (q:=5005) o (fun hf38=>(.mrangeL h hf38 (fun p38_=>[]) (fun p38_=>[(5005,some (ze.at (ptr m5005 0) (vv (((GMap.nil:(GMap Str Str)).set (⟨[116,101,120,116]⟩:Str) v2.Text).set (⟨[99,108,97,115,115]⟩:Str) v2.Class) p38_.1))),(5004,some (ze.at s5004 (zR p38_.2)))]) Sub.nil (.k2 5005 5004 o o .nil) (.k4 5 12 13 85 o o o o (.k2 86 87 o o (.k 117 o .nil))) (.k 5001 o .nil) (fun p38_ H38=>(.sr [([5005],[118,5005]),([118],[119,118])] mx (.cW (.nextF (k:=5005) o o (.s o)) (.cW (.nextedOk (d:=118) o o) (.nil (.openNext (t:=119) (k:=5005) o o o (fun o38_ ho38=>?_))))))))))
        obtain⟨out38_,h,hD38⟩:=H38 o38_ ho38
        refine .againM (fun s' hs'=>⟨o38_,ho38,h.trans (congrArg some hs')⟩) (.seq ?_)
        cases o38_ with
        | some x38_=>
         replace h:=zeH h
         refine .condT (t:=119) o trivial o (.skip (.then ?_))
         obtain⟨j_39,h,hK39⟩:=bind_some h
         unfold zdR at h
         refine .tailJ (ι:=(GMap Str Str)) (fun j_39=>[]) (fun j_39=>[(5004,some (ze.at s5004 (zR j_39)))]) (fun s=>j_39=s) (.k4 5 12 13 85 o o o o (.k2 86 87 o o (.k 117 o .nil))) (.k2 5001 5005 o o .nil) ?_ (fun j_39' hj39=>?_)
         ·
          refine .block (.sr [([5005],[]),oo,oo,oo,oo] mx (.cA (.entryF (k:=5005) (p:=p38_.1) (y:=x38_) o (.s o)) (.exA o o (.exA o o (.asnA o (.asnA o (.nil (.sn mx (.mv o (.c (.neS .none (yy Tryz.underlying9) (.s o) (.str (l:=[]) (by decide))) (.nil (.cb o h (fun _ h=>?_) fun _ h=>?_))))))))))))
          ·
           exact .rg [oo,oo,oo,([5004],[5004])] mx (.mvA o (.mvA o (.mvA o (.cN (.mapUpdate (q:=5004) yF (.s o) o (.s o) (.s o)) (.nil (.blkNormal (zb.j _ (za h))))))))
          ·
           exact .skip (.blkNormal (zb.j _ (za h)))
         ·
          subst hj39;have h:=hK39;clear hK39
          exact zb.ag (za h)
        | none=>
         replace h:=zeG h
         refine .condF (t:=119) o trivial o (.exit (.thenExit (.thenExit (.blkExit ?_))))
         replace h:=hD38 _ (za h)
         exact zb.j _ (za h)
       ·
        subst hj37;have h:=hK37;clear hK37
        exact .rg [oo,oo,oo,oo,([5001,5004],[5001,5004])] mx (.mvA o (.faA j8 vt o (.ldA ty9 o (.mvA o (.cN (.mapPutDN (q:=5001) (t:=5004) zcv o (.s o) o (.s o) o (.s o)) (.nil (.blkNormal (zb.j _ (za h)))))))))
     ·
      subst hj26;have h:=hK26;clear hK26
      exact .rn mx (.adi o (.mv o (.nil (zb.ag (za h)))))
    ·
     refine .exit (.thenExit (.thenExit (.blkExit ?_)))
     replace h:=hD24 _ (za h)
     exact zb.j _ (za h)
   ·
    subst hj23;have h:=hK23;clear hK23
    refine .freezeAt (g:=5001) (S:=rep j_23) (ts:=[5]) o (.cons (t:=5) o trivial .nil) zd.nil o (fun M D w h hms=>zkT h hms) ?_
    obtain⟨r9,hv41,h⟩:=bind_some h
    refine .sn mx (.mv o (.c (.call .none (zo7 hv41) (.cons (.s o) .nil)) (.asn o (.asi (.nil (.ret ?_))))))
    obtain rfl:=za h
    exact zb.ret2 (.inl o) Tryz.results5 (yb.tmp o trivial Imp.refl) (yb.tmp o trivial Imp.refl)
theorem zbY {s1:Str}{r:Bool}  (h:Yf s1=some r):zk Tryz.prog 80 [rep s1] (rep r):=by
 unfold Yf at h
 obtain⟨hn1,h⟩:=zo h
 obtain⟨hn2,h⟩:=zo h
 obtain⟨r1,hv3,h⟩:=bind_some h
 refine zk.i Tryz.func80 o Tryz.ntmps80 o (fun F=>(.sn mx (.asb (.nil (.sn mx (.mv o (.c (.neS .none (yy Tryz.underlying9) (.s o) (.str (l:=[]) (by decide))) (.mv o (.mg o o o (.c (.lenStr (.at o o) Tryz.underlying9 (.tmp o id)) (.c (.le (.at o o) (.tmp o id) .i) (.pa o o (.mv o (.mg o o o (.c (.indexStr (.at o o) Tryz.underlying9 (.tmp o id) .i (fun hg=>hn1 hg.2)) (.c (.kgeq (.at o o) (.tmp o id) .ki) (.pa o o (.mv o (.mg o o o (.c (.indexStr (.at o o) Tryz.underlying9 (.tmp o id) .i (fun hg=>hn2 hg.2)) (.c (.kleq (.at o o) (.tmp o id) .ki) (.pa o o (.mv o (.mg o o o (.c (.callIf (.at o o) zgS (fun hg=>zmZ ((fun hg=>qf hv3 (hg.2)) hg)) (.cons (.tmp o id) (.cons (.str (l:=[97,98,99,100,101,102,103,104,105,106,107,108,109,110,111,112,113,114,115,116,117,118,119,120,121,122,48,49,50,51,52,53,54,55,56,57,45]) (by decide)) .nil)) (fun h=>h)) (.c (.eqS (.at o o) (yy Tryz.underlying9) (.tmp o id) (.str (l:=[]) (by decide))) (.pa o o (.asn o (.nil (.ret ?_))))))))))))))))))))))))))))))
 obtain rfl:=za h
 exact zb.rt Tryz.results80 o
theorem ziL {x1:Int}{r:Bool}  (h:Jx x1=some r):zk Tryz.prog 97 [rep x1] (rep r):=by
 unfold Jx at h
 refine zk.i Tryz.func97 o Tryz.ntmps97 o (fun F=>(.sn mx (.asb (.nil (.sn mx (.mv o (.mv o (.c (.neI .none (.s o) (.s o)) (.asn o (.nil (.ret ?_)))))))))))
 obtain rfl:=za h
 exact zb.rt Tryz.results97 o
theorem ziK {x1:Int}{y1:Int}{r:Int}  (h:Ya x1 y1=some r):zk Tryz.prog 38 [rep x1,rep y1] (rep r):=by
 unfold Ya at h
 obtain⟨xNaN1,hv1,h⟩:=bind_some h
 obtain⟨yNaN1,hv2,h⟩:=bind_some h
 refine zk.i Tryz.func38 o Tryz.ntmps38 o (fun F=>(.sn mx (.asi (.nil (.sn mx (.mv o (.c (.call .none (ziL hv1) (.cons (.s o) .nil)) (.asn o (.nil (.sn mx (.mv o (.c (.call .none (ziL hv2) (.cons (.s o) .nil)) (.asn o (.nil (.seq (.sn mx (.mv o (.nil (.cb o h (fun _ h=>?_) fun _ h=>?_)))))))))))))))))))
 ·
  refine .seq (.sn mx (.mv o (.nil (.cb o h (fun _ h=>?_) fun _ h=>?_))))
  ·
   refine .sn mx (.asi (.nil (.ret (.thenRet (.thenRet ?_)))))
   obtain rfl:=za h
   exact zb.rt Tryz.results38 o
  ·
   refine .skip (.then (.sn mx (.asi (.nil (.ret (.thenRet ?_))))))
   obtain rfl:=za h
   exact zb.rt Tryz.results38 o
 ·
  refine .skip (.then (.seq (.sn mx (.mv o (.nil (.cb o h (fun _ h=>?_) fun _ h=>?_))))))
  ·
   refine .sn mx (.asi (.nil (.ret (.thenRet ?_))))
   obtain rfl:=za h
   exact zb.rt Tryz.results38 o
  ·
   refine .skip (.then (.seq (.sn mx (.mv o (.mv o (.lt o o (.nil (.cb o h (fun _ h=>?_) fun _ h=>?_))))))))
   ·
    refine .sn mx (.asi (.nil (.ret (.thenRet ?_))))
    obtain rfl:=za h
    exact zb.rt Tryz.results38 o
   ·
    refine .skip (.then (.seq (.sn mx (.mv o (.mv o (.c (.gt .none (.s o) (.s o)) (.nil (.cb o h (fun _ h=>?_) fun _ h=>?_))))))))
    ·
     refine .sn mx (.asi (.nil (.ret (.thenRet ?_))))
     obtain rfl:=za h
     exact zb.rt Tryz.results38 o
    ·
     refine .skip (.then (.sn mx (.asi (.nil (.ret ?_)))))
     obtain rfl:=za h
     exact zb.rt Tryz.results38 o
theorem zoF {vals1:(List Int)}{r:Int}  (h:zbL vals1=some r):zk Tryz.prog 106 [rep vals1] (rep r):=by
 unfold zbL at h
 refine zk.i Tryz.func106 o Tryz.ntmps106 o (fun F=>(.sn mx (.asi (.nil (.sn mx (.asi (.nil (.seq (.sn mx (.mv o (.ln yI o (.mvi (.nil ?_)))))))))))))
 obtain⟨o_1,h,hK1⟩:=ym h
 refine .tJ (fun s=>o_1=Res.nx s) (.k 3 o .nil) zd.nil ?_ (fun j_1 hj1=>?_)
 ·
  refine .block (.rforEL h (fun p2_=>[(8,⟨True,rep p2_.1⟩)]) (fun p2_=>[]) (.k 8 o .nil) zd.nil (.k2 3 6 o o (.k 7 o .nil)) zd.nil (fun p2_ o_2 h hD2=>(.sn mx (.lt o o (.nil (.seq (.cb o h (fun _ h=>?_) fun _ h=>?_)))))))
  ·
   refine .skip (.then (.seq ?_))
   obtain⟨o_4,h,hK4⟩:=yB h
   unfold Jw at h
   refine .tJ (fun s=>o_4=Res.nx s) (.k4 3 6 7 8 o o o o .nil) zd.nil ?_ (fun j_4 hj4=>?_)
   ·
    obtain⟨hn5,h⟩:=zo h
    obtain⟨val1,hv6,h⟩:=zn h
    refine .block (.sn mx (.ix yI ty3 o o hn5 (.ld ty3 o (.ra hv6 o (.nil (.sn mx (.mv o (.mv o (.c (.neI .none (.s o) (.s o)) (.nil (.cb o h (fun _ h=>?_) fun _ h=>?_)))))))))))
    ·
     refine .sn mx (.mv o (.asn o (.nil (.ret (.blkRet (.thenRet (.thenRet (.blkRet (.thenRet ?_)))))))))
     replace h:=yf hK4 (za h)
     replace h:=hD2 _ (za h)
     replace h:=z8 hK1 (za h)
     obtain rfl:=za h
     exact zb.rt Tryz.results106 o
    ·
     exact .skip (.blkNormal (zb.j _ (za h)))
   ·
    have h:=yD hK4 hj4
    exact .rn mx (.adi o (.mv o (.nil (zb.ag (za h)))))
  ·
   refine .exit (.thenExit (.thenExit (.blkExit ?_)))
   replace h:=hD2 _ (za h)
   exact zb.j _ (za h)
 ·
  have h:=yn hK1 hj1
  refine .sn mx (.mv o (.asn o (.nil (.ret ?_))))
  obtain rfl:=za h
  exact zb.rt Tryz.results106 o
theorem zo0 {a1:DOp}{b1:DOp}{r:Int}  (h:zbZ a1 b1=some r):zk Tryz.prog 81 [rep a1,rep b1] (rep r):=by
 unfold zbZ at h
 obtain⟨r1,hv1,h⟩:=bind_some h
 obtain⟨r2,hv2,h⟩:=bind_some h
 obtain⟨r3,hv3,h⟩:=bind_some h
 refine zk.i Tryz.func81 o Tryz.ntmps81 o (fun F=>(.sn mx (.c (.box .none (.s o)) (.c (.box .none (.s o)) (.asi (.nil (.sn mx (.fa vp vu o (.fa zb9 zcl o (.ld ty9 o (.fa vp vu o (.fa zb9 zcl o (.ld ty9 o (.c (.call .none (zt8 hv1) (.cons (.s o) (.cons (.s o) .nil))) (.fa vp vu o (.fa zca zcm o (.ld ty3 o (.fa vp vu o (.fa zca zcm o (.ld ty3 o (.c (.call .none (ziK hv2) (.cons (.s o) (.cons (.s o) .nil))) (.c (.buildSlice (xs:=[_,_]) .none yI ty3 hz3 (.cons (.s o) (.cons (.s o) .nil)) o (by decide)) (.c (.call .none (zoF hv3) (.cons (.s o) .nil)) (.asn o (.nil (.ret ?_))))))))))))))))))))))))))
 obtain rfl:=za h
 exact zb.rt Tryz.results81 o
theorem zoZ {x1:DOp}{r:Int}  (h:zbX x1=some r):zk Tryz.prog 82 [rep x1] (rep r):=by
 unfold zbX at h
 refine zk.i Tryz.func82 o Tryz.ntmps82 o (fun F=>(.sn mx (.c (.box .none (.s o)) (.asi (.nil (.seq (.sn mx (.fa zd4 zen o (.ld ty3 o (.c (.lt .none (.s o) .i) (.mv o (.fg zd4 zen o o o (.lg ty3 o o o (.c (.gt (.at o o) (.tmp o id) .i) (.po o o (.nil (.cb o h (fun _ h=>?_) fun _ h=>?_)))))))))))))))))
 ·
  refine .sn mx (.asi (.nil (.ret (.thenRet ?_))))
  obtain rfl:=za h
  exact zb.rt Tryz.results82 o
 ·
  obtain⟨set1,hv2,h⟩:=zn h
  obtain⟨undo1,hv3,h⟩:=zn h
  obtain⟨v1,hv4,h⟩:=zn h
  refine .skip (.then (.sn mx (.fa zd4 zen o (.ld ty3 o (.eqi o (.fa zd4 zen o (.ld ty3 o (.eqi o (.ra hv2 o (.ra hv3 o (.nil (.seq (.block (.seq (.sn mx (.fa zgK zgY o (.ld ty3 o (.nei o (.mv o (.mg o o o (.c (.not (.at o o) (.tmp o id)) (.pa o o (.ra hv4 o (.nil ?_))))))))))))))))))))))))
  obtain⟨j_5,h,hK5⟩:=bind_some h
  refine .thenJ (ι:=Bool) (fun j_5=>[(20,⟨True,rep j_5⟩)]) (fun j_5=>[]) (fun s=>j_5=s) (.k2 1 3 o o (.k 4 o .nil)) zd.nil ?_ (fun j_5' hj5=>?_)
  ·
   refine .cb o h (fun _ h=>?_) fun _ h=>?_
   ·
    exact .skip (zb.j _ (za h))
   ·
    obtain⟨v2,hv7,h⟩:=zn h
    refine .sn mx (.fa zjE zj7 o (.ld ty9 o (.c (.neS .none (yy Tryz.underlying9) (.s o) (.str (l:=[]) (by decide))) (.mv o (.mg o o o (.pa o o (.ra hv7 o (.nil (.cb o h (fun _ h=>?_) fun _ h=>?_)))))))))
    ·
     exact .skip (zb.j _ (za h))
    ·
     obtain⟨v3,hv9,h⟩:=zn h
     exact .rn mx (.fa zjF zj8 o (.ld ty9 o (.c (.neS .none (yy Tryz.underlying9) (.s o) (.str (l:=[]) (by decide))) (.mv o (.fg zjG zj9 o o o (.lg ty9 o o o (.c (.neS (.at o o) (yy Tryz.underlying9) (.tmp o id) (.str (l:=[]) (by decide))) (.po o o (.mv o (.mg o o o (.c (.not (.at o o) (.tmp o id)) (.pa o o (.ra hv9 o (.nil (zb.j _ (za h))))))))))))))))
  ·
   subst hj5;have h:=hK5;clear hK5
   refine .cb o h (fun _ h=>?_) fun _ h=>?_
   ·
    refine .sn mx (.asi (.nil (.ret (.blkRet (.thenRet ?_)))))
    obtain rfl:=za h
    exact zb.rt Tryz.results82 o
   ·
    obtain⟨r1,hv11,h⟩:=bind_some h
    refine .seq (.sn mx (.mv o (.c (.not .none (.s o)) (.mv o (.fg zjE zj7 o o o (.lg ty9 o o o (.c (.callIf (.at o o) zjV (fun hg=>zbY ((fun hg=>qf hv11 (hg.2)) hg)) (.cons (.tmp o id) .nil) (fun h=>h)) ?_)))))))
    obtain⟨v4,hv12,h⟩:=zn h
    refine .c (.not (.at o o) (.tmp o id)) (.pa o o (.ra hv12 o (.nil ?_)))
    obtain⟨j_13,h,hK13⟩:=bind_some h
    refine .thenJ (ι:=Bool) (fun j_13=>[(46,⟨True,rep j_13⟩)]) (fun j_13=>[]) (fun s=>j_13=s) (.k2 1 3 o o (.k 4 o .nil)) zd.nil ?_ (fun j_13' hj13=>?_)
    ·
     refine .cb o h (fun _ h=>?_) fun _ h=>?_
     ·
      exact .skip (zb.j _ (za h))
     ·
      obtain⟨r2,hv15,h⟩:=bind_some h
      refine .rn mx (.mv o (.mv o (.fg zjF zj8 o o o (.lg ty9 o o o (.c (.callIf (.at o o) zjV (fun hg=>zbY ((fun hg=>qf hv15 (hg.2)) hg)) (.cons (.tmp o id) .nil) (fun h=>h)) ?_)))))
      obtain⟨v5,hv16,h⟩:=zn h
      exact .c (.not (.at o o) (.tmp o id)) (.pa o o (.ra hv16 o (.nil (zb.j _ (za h)))))
    ·
     subst hj13;have h:=hK13;clear hK13
     refine .cb o h (fun _ h=>?_) fun _ h=>?_
     ·
      refine .sn mx (.asi (.nil (.ret (.blkRet (.thenRet ?_)))))
      obtain rfl:=za h
      exact zb.rt Tryz.results82 o
     ·
      refine .skip (.blkNormal (.then (.seq (.sn mx (.mv o (.nil ?_))))))
      obtain⟨o_18,h,hK18⟩:=ym h
      refine .tJ (fun s=>o_18=Res.nx s) (.k2 1 4 o o .nil) zd.nil ?_ (fun j_18 hj18=>?_)
      ·
       refine .cb o h (fun _ h=>?_) fun _ h=>?_
       ·
        obtain⟨e1,hv20,h⟩:=bind_some h
        refine .sn mx (.fa zjG zj9 o (.ld ty9 o (.c (.call .none (zfG hv20) (.cons (.s o) .nil)) (.asn o (.nil (.sn mx (.mv o (.nei o (.nil (.cb o h (fun _ h=>?_) fun _ h=>?_))))))))))
        ·
         refine .sn mx (.mv o (.asn o (.nil (.ret (.thenRet ?_)))))
         replace h:=z8 hK18 (za h)
         obtain rfl:=za h
         exact zb.rt Tryz.results82 o
        ·
         exact .skip (zb.j _ (za h))
       ·
        exact .skip (zb.j _ (za h))
      ·
       have h:=yn hK18 hj18
       refine .seq (.sn mx (.mv o (.mv o (.fg zgK zgY o o o (.lg ty3 o o o (.c (.lt (.at o o) (.tmp o id) .i) (.c (.move (.at o o) (.tmp o id)) (.fg zgK zgY o o o (.lg ty3 o o o (.fg vp vu o o o (.c (.fieldAddr (.at o o) zca zcm (.tmp o id)) (.lg ty3 o o o (.c (.subW (.at o o) (.tmp o id) .i) (.c (.gt (.at o o) (.tmp o id) (.tmp o id)) (.c (.pickOr (.at o o) (.tmp o id) (.tmp o id)) (.pa o o (.nil (.cb o h (fun _ h=>?_) fun _ h=>?_))))))))))))))))))
       ·
        refine .sn mx (.asi (.nil (.ret (.thenRet ?_))))
        obtain rfl:=za h
        exact zb.rt Tryz.results82 o
       ·
        refine .skip (.then (.sn mx (.asi (.nil (.ret ?_)))))
        obtain rfl:=za h
        exact zb.rt Tryz.results82 o
theorem zi6 {l1:(List DOp)}{r:Int}  (h:zax l1=some r):zk Tryz.prog 26 [rep l1] (rep r):=by
 unfold zax at h
 refine zk.i Tryz.func26 o Tryz.ntmps26 o (fun F=>(.sn mx (.asi (.nil (.seq (.sn mx (.mv o (.ln zab o (.c (.gt .none (.s o) .i) (.nil (.cb o h (fun _ h=>?_) fun _ h=>?_)))))))))))
 ·
  refine .sn mx (.asi (.nil (.ret (.thenRet ?_))))
  obtain rfl:=za h
  exact zb.rt Tryz.results26 o
 ·
  refine .skip (.then (.seq (.sn mx (.mv o (.ln zab o (.mvi (.nil ?_)))))))
  obtain⟨o_2,h,hK2⟩:=ym h
  refine .tJ (fun s=>o_2=Res.nx s) Sub.nil zd.nil ?_ (fun j_2 hj2=>?_)
  ·
   refine .block (.rforEL h (fun p3_=>[(12,⟨True,rep p3_.1⟩)]) (fun p3_=>[]) (.k 12 o .nil) zd.nil (.k2 0 10 o o (.k 11 o .nil)) zd.nil (fun p3_ o_3 h hD3=>(.sn mx (.lt o o (.nil (.seq (.cb o h (fun _ h=>?_) fun _ h=>?_)))))))
   ·
    refine .skip (.then (.seq ?_))
    obtain⟨o_5,h,hK5⟩:=yB h
    unfold zdM at h
    refine .tJ (fun s=>o_5=Res.nx s) (.k4 0 10 11 12 o o o o .nil) zd.nil ?_ (fun j_5 hj5=>?_)
    ·
     obtain⟨hn6,h⟩:=zo h
     obtain⟨v1,hv7,h⟩:=zn h
     obtain⟨v2,hv8,h⟩:=zn h
     obtain⟨hn9,h⟩:=zo h
     refine .block (.sr [oo,oo,oo,([],[4]),oo,([4],[4])] mx (.mvA o (.ixA zab vV o o hn6 (.rlA hv7 vV o (.al zny o (.asnA o (.st vV o o o (.nil (.freeze (t:=4) o o zd.nil o (.sr [oo,([],[5]),([5],[5])] mx (.cA (.re hv8 (.buildF (y:=(⟨(⟨(0:Int),Str.nil,(0:Int)⟩:Stamp),(0:Int),Str.nil,Str.nil,Str.nil,(0:Int)⟩:DOp)) .none ziC znv o .nil .nil)) (.al zny o (.st vV o o o (.nil (.nameBox (t:=5) (g:=5001) o o (fun m5001=>(.seq (.sn mx (.mv o (.c (.gt .none (.s o) .i) (.mv o (.mg o o o (.mg o o o (.c (.subW (.at o o) (.tmp o id) .i) (.c (.indexAddr (.at o o) zab vV (.tmp o id) (.tmp o id) (fun hg=>hn9 hg.2)) (.c (.fieldAddr (.at o o) vp vu (.tmp o id)) (.c (.fieldAddr (.at o o) zb9 zcl (.tmp o id)) (.lg ty9 o o o (.fg vp vu o o o (.c (.fieldAddr (.at o o) zb9 zcl (.tmp o id)) (.lg ty9 o o o (.c (.eqS (.at o o) (yy Tryz.underlying9) (.tmp o id) (.tmp o id)) (.pa o o (.nil ?_))))))))))))))))))))))))))))))))))
     obtain⟨j_10,h,hK10⟩:=bind_some h
     refine .thenJ (ι:=DOp) (fun j_10=>[]) (fun j_10=>[(5001,some (qb m5001 67 j_10))]) (fun s=>j_10=s) (.k4 0 3 4 5 o o o o (.k2 10 11 o o (.k 12 o .nil))) zd.nil ?_ (fun j_10' hj10=>?_)
     ·
      refine .cb o h (fun _ h=>?_) fun _ h=>?_
      ·
       obtain⟨hn12,h⟩:=zo h
       obtain⟨v3,hv13,h⟩:=zn h
       exact .rg [oo,oo,oo,oo,oo,([5001],[5001])] mx (.mvA o (.mvA o (.cA (.subW .none (.s o) .i) (.ixA zab vV o o hn12 (.rlA hv13 vV o (.s0 5001 vV o o o (.nil (zb.j _ (za h)))))))))
      ·
       exact .skip (zb.j _ (za h))
     ·
      subst hj10;have h:=hK10;clear hK10
      obtain⟨r1,hv14,h⟩:=bind_some h
      refine .fb 5001 [5] o (.cons (t:=5) o trivial .nil) (.seq (.block (.sn mx (.fa vp vu o (.fa zb9 zcl o (.ld ty9 o (.c (.call .none (zbY hv14) (.cons (.s o) .nil)) (.c (.not .none (.s o)) (.asn o (.nil (.cb o h (fun _ h=>?_) fun _ h=>?_)))))))))))
      ·
       refine .sn mx (.asi (.nil (.ret (.blkRet (.thenRet (.blkRet (.thenRet (.thenRet (.blkRet (.thenRet ?_))))))))))
       replace h:=yf hK5 (za h)
       replace h:=hD3 _ (za h)
       replace h:=z8 hK2 (za h)
       obtain rfl:=za h
       exact zb.rt Tryz.results26 o
      ·
       obtain⟨hn16,h⟩:=zo h
       obtain⟨r2,hv17,h⟩:=bind_some h
       refine .sn mx (.mv o (.c (.gt .none (.s o) .i) (.mv o (.mg o o o (.mg o o o (.c (.subW (.at o o) (.tmp o id) .i) (.c (.indexAddr (.at o o) zab vV (.tmp o id) (.tmp o id) (fun hg=>hn16 hg.2)) (.lg vV o o o (.c (.load (.at o o) vV (.s o)) (.c (.callIf (.at o o) zp3 (fun hg=>zo0 ((fun hg=>qf hv17 (hg.2)) hg)) (.cons (.tmp o id) (.cons (.tmp o id) .nil)) (fun h=>h)) (.c (.ge (.at o o) (.tmp o id) .i) (.pa o o (.asn o (.nil (.cb o h (fun _ h=>?_) fun _ h=>?_)))))))))))))))
       ·
        refine .sn mx (.asi (.nil (.ret (.blkRet (.thenRet (.blkRet (.thenRet (.thenRet (.blkRet (.thenRet ?_))))))))))
        replace h:=yf hK5 (za h)
        replace h:=hD3 _ (za h)
        replace h:=z8 hK2 (za h)
        obtain rfl:=za h
        exact zb.rt Tryz.results26 o
       ·
        obtain⟨v4,hv19,h⟩:=zn h
        refine .seq (.sn mx (.fa vp vu o (.fa zca zcm o (.ld ty3 o (.fa vp vu o (.fa zca zcm o (.ld ty3 o (.adi o (.c (.neI .none (.s o) (.s o)) (.ra hv19 o (.nil ?_)))))))))))
        obtain⟨j_20,h,hK20⟩:=bind_some h
        refine .thenJ (ι:=Bool) (fun j_20=>[(57,⟨True,rep j_20⟩)]) (fun j_20=>[]) (fun s=>j_20=s) (.k4 0 4 5 10 o o o o (.k2 11 12 o o .nil)) zd.nil ?_ (fun j_20' hj20=>?_)
        ·
         refine .cb o h (fun _ h=>?_) fun _ h=>?_
         ·
          exact .skip (zb.j _ (za h))
         ·
          obtain⟨v5,hv22,h⟩:=zn h
          exact .rn mx (.fa vp vu o (.fa zd3 zem o (.ld ty3 o (.c (.lt .none (.s o) .i) (.mv o (.fg vp vu o o o (.c (.fieldAddr (.at o o) zd3 zem (.tmp o id)) (.lg ty3 o o o (.c (.gt (.at o o) (.tmp o id) .i) (.po o o (.ra hv22 o (.nil (zb.j _ (za h))))))))))))))
        ·
         subst hj20;have h:=hK20;clear hK20
         refine .cb o h (fun _ h=>?_) fun _ h=>?_
         ·
          refine .sn mx (.asi (.nil (.ret (.blkRet (.thenRet (.blkRet (.thenRet (.thenRet (.blkRet (.thenRet ?_))))))))))
          replace h:=yf hK5 (za h)
          replace h:=hD3 _ (za h)
          replace h:=z8 hK2 (za h)
          obtain rfl:=za h
          exact zb.rt Tryz.results26 o
         ·
          refine .sn mx (.fa vp vu o (.fa zd3 zem o (.ld ty3 o (.fa vp vu o (.fa zd3 zem o (.ld ty3 o (.c (.le .none (.s o) (.s o)) (.asn o (.nil (.cb o h (fun _ h=>?_) fun _ h=>?_))))))))))
          ·
           refine .sn mx (.asi (.nil (.ret (.blkRet (.thenRet (.blkRet (.thenRet (.thenRet (.blkRet (.thenRet ?_))))))))))
           replace h:=yf hK5 (za h)
           replace h:=hD3 _ (za h)
           replace h:=z8 hK2 (za h)
           obtain rfl:=za h
           exact zb.rt Tryz.results26 o
          ·
           obtain⟨e1,hv25,h⟩:=bind_some h
           refine .skip (.blkNormal (.then (.sn mx (.ld vV o (.c (.call .none (zoZ hv25) (.cons (.s o) .nil)) (.asn o (.nil (.sn mx (.mv o (.nei o (.nil (.cb o h (fun _ h=>?_) fun _ h=>?_))))))))))))
           ·
            refine .sn mx (.mv o (.asn o (.nil (.ret (.blkRet (.thenRet (.thenRet (.blkRet (.thenRet ?_)))))))))
            replace h:=yf hK5 (za h)
            replace h:=hD3 _ (za h)
            replace h:=z8 hK2 (za h)
            obtain rfl:=za h
            exact zb.rt Tryz.results26 o
           ·
            exact .skip (.blkNormal (zb.j _ (za h)))
    ·
     have h:=yD hK5 hj5
     exact .rn mx (.adi o (.mv o (.nil (zb.ag (za h)))))
   ·
    refine .exit (.thenExit (.thenExit (.blkExit ?_)))
    replace h:=hD3 _ (za h)
    exact zb.j _ (za h)
  ·
   have h:=yn hK2 hj2
   refine .sn mx (.asi (.nil (.ret ?_)))
   obtain rfl:=za h
   exact zb.rt Tryz.results26 o
theorem zq4  {r:Bool}  (h:zcr=some r):zk Tryz.prog 6 [] (rep r):=by
 unfold zcr at h
 obtain⟨r1,hv1,h⟩:=bind_some h
 obtain⟨r2,hv2,h⟩:=bind_some h
 refine zk.i Tryz.func6 o Tryz.ntmps6 o (fun F=>(.sn mx (.asb (.nil (.sn mx (.c (.call .none (zi6 hv1) (.cons (.const (x:=([]:(List DOp))) (fun M w=>⟨_,⟨none,0,rfl,Nat.le_refl _,by decide,rfl⟩,rfl⟩)) .nil)) (.eqi o (.mv o (.c (.buildF (y:=(⟨(⟨(0:Int),Str.nil,(0:Int)⟩:Stamp),(0:Int),Str.nil,Str.nil,Str.nil,(0:Int)⟩:DOp)) (.at o o) ziC znv o .nil .nil) (.c (.buildSlice (xs:=[_]) (.at o o) zab vV zqB (.cons (.tmp o id) .nil) o (by decide)) (.c (.callIf (.at o o) zpK (fun hg=>zi6 ((fun hg=>qf hv2 (hg.2)) hg)) (.cons (.tmp o id) .nil) (fun h=>h)) (.c (.eqI (.at o o) (.tmp o id) .i) (.pa o o (.asn o (.nil (.ret ?_))))))))))))))))
 obtain rfl:=za h
 exact zb.rt Tryz.results6 o
theorem zsv {kind1:Int}{r:Str}  (h:zcO kind1=some r):zk Tryz.prog 29 [rep kind1] (rep r):=by
 unfold zcO at h
 obtain⟨r1,hv1,h⟩:=bind_some h
 obtain⟨hn2,h⟩:=zo h
 refine zk.i Tryz.func29 o Tryz.ntmps29 o (fun F=>(.sn mx (.c (.assign .none (.str (l:=[]) (by decide))) (.nil (.sn mx (.c (.call .none (zfV hv1).frz (.cons (.str (l:=[98,111,120,32,114,111,117,110,100,32,111,118,97,108,32,100,105,97,109,111,110,100,32,110,111,116,101,32,103,114,111,117,112]) (by decide)) .nil)) (.mv o (.c (.subW .none (.s o) .i) (.ix yO ty9 o o hn2 (.ld ty9 o (.asn o (.nil (.ret ?_)))))))))))))
 obtain rfl:=za h
 exact zb.rt Tryz.results29 o
theorem zlZ {l1:(List Int)}{r:Str}  (h:J4 l1=some r):zk Tryz.prog 30 [rep l1] (rep r):=by
 unfold J4 at h
 refine zk.i Tryz.func30 o Tryz.ntmps30 o (fun F=>(.sn mx (.c (.assign .none (.str (l:=[]) (by decide))) (.nil (.sr [([],[3])] mx (.cW (.nilRow (T:=9) (α:=Str) o) (.nil (.nameRow (t:=3) (g:=5001) o o o (fun s5001=>(.seq (.sn mx (.mv o (.ln yI o (.mvi (.nil ?_)))))))))))))))
 obtain⟨j_1,h,hK1⟩:=bind_some h
 refine .thenJ (ι:=(List Str)) (fun j_1=>[]) (fun j_1=>[(3,some (zq 9 j_1))]) (fun s=>j_1=s) Sub.nil zd.nil ?_ (fun j_1' hj1=>?_)
 ·
  refine .block (.anon (t:=3) (g:=5001) o o trivial o (.rforL h (fun p2_=>[(8,⟨True,rep p2_.1⟩)]) (fun p2_=>[(3,some (zq 9 p2_.2))]) (.k 8 o .nil) (.k 3 o .nil) (.k2 6 7 o o .nil) zd.nil (fun p2_ o_2 h hD2=>(.nameRow (t:=3) (g:=5002) o o o (fun s5002=>(.sn mx (.lt o o (.nil (.seq (.cb o h (fun _ h=>?_) fun _ h=>?_))))))))))
  ·
   refine .skip (.then (.seq ?_))
   obtain⟨j_4,h,hK4⟩:=bind_some h
   unfold zfr at h
   refine .thenJ (ι:=(List Str)) (fun j_4=>[]) (fun j_4=>[(3,some (zq 9 j_4))]) (fun s=>j_4=s) (.k2 6 7 o o (.k 8 o .nil)) zd.nil ?_ (fun j_4' hj4=>?_)
   ·
    obtain⟨hn5,h⟩:=zo h
    obtain⟨r1,hv6,h⟩:=bind_some h
    obtain⟨hn7,h⟩:=zo h
    exact .block (.sn mx (.ix yI ty3 o o hn5 (.ld ty3 o (.asn o (.nil (.rg [oo,oo,oo,oo,([5002],[16,5002]),([16],[3,16])] mx (.mvA o (.mvA o (.cA (.call .none (QV hv6) (.cons (.s o) .nil)) (.cA (.buildSlice (xs:=[_]) .none yO ty9 hz9 (.cons (.s o) .nil) o (by decide)) (.cW (.append (k:=5002) zhG o (.told (.s o) o) (.s o) hn7) (.consWD (.passRow o (.tmp o)) o o (.nil (.blkNormal (zb.j _ (za h))))))))))))))))
   ·
    subst hj4;have h:=hK4;clear hK4
    exact .nameRow (t:=3) (g:=5003) o o o (fun s5003=>(.rn mx (.adi o (.mv o (.nil (.anon (t:=3) (g:=5003) o o trivial o (zb.ag (za h))))))))
  ·
   refine .exit (.thenExit (.thenExit (.blkExit (.anon (t:=3) (g:=5002) o o trivial o ?_))))
   replace h:=hD2 _ (za h)
   exact zb.j _ (za h)
 ·
  subst hj1;have h:=hK1;clear hK1
  obtain⟨r2,hv8,h⟩:=bind_some h
  refine .freezeRowA (t:=3) o o zd.nil o (.sn mx (.mv o (.c (.call .none (zmX hv8) (.cons (.s o) (.cons (.str (l:=[32]) (by decide)) .nil))) (.asn o (.nil (.ret ?_))))))
  obtain rfl:=za h
  exact zb.rt Tryz.results30 o
theorem Jb {id1:Str}{f1:Str}{v1:Str}{c0_1:(GMap Str (GMap Str Str))}{r:(GMap Str (GMap Str Str))}{m14:Nat}{s15:Value}(h:vS id1 f1 v1 c0_1=some r):ya Tryz.prog 28 [rep id1,rep f1,rep v1,isV (ptr m14 0)] [(ptr m14 0,zM 48 (⟨s15⟩:Raw)),(s15,yd none c0_1)] (z7) [some (yg (fun z0=>zM 48 (⟨z0⟩:Raw)) (yd none r)),none]:=by
 unfold vS at h
 refine ya.i Tryz.func28 o Tryz.ntmps28 o (fun F=>(.sn mx (.mv o (.c (.neS .none (yy Tryz.underlying9) (.s o) (.str (l:=[]) (by decide))) (.nil (.cb o h (fun _ h=>?_) fun _ h=>?_))))))
 ·
  obtain⟨hn2,h⟩:=zo h
  refine .openM (q:=15) (r:=5001) (k:=id1) o o hn2 (fun s5001=>(.rg [([14],[]),oo,([15],[]),oo,oo,([5001],[5001])] mx (.cA (.loadAt0 (k:=14) .none zh1 o (.s o)) (.mvA o (.cA (.lookPin (q:=15) (z:=s5001) .none YW zf3 (.s o) o (.s o)) (.mvA o (.mvA o (.cN (.mapUpdate (q:=5001) yF (.s o) o (.s o) (.s o)) (.nil (.closeM (q:=15) (r:=5001) o o o (.close (k:=14) (g:=15) (fun z=>zM 48 (⟨z⟩:Raw)) o o o ?_)))))))))))
  obtain rfl:=za h
  exact zb.ret0O (.inr o) [14,15] Tryz.results28 (by decide) (.held o (.skip .nil))
 ·
  refine .skip (.close (k:=14) (g:=15) (fun z=>zM 48 (⟨z⟩:Raw)) o o o ?_)
  obtain rfl:=za h
  exact zb.ret0O (.inr o) [14,15] Tryz.results28 (by decide) (.held o (.skip .nil))
theorem zsE {side1:Int}{r:Str}  (h:zcW side1=some r):zk Tryz.prog 87 [rep side1] (rep r):=by
 unfold zcW at h
 obtain⟨r1,hv1,h⟩:=bind_some h
 obtain⟨hn2,h⟩:=zo h
 refine zk.i Tryz.func87 o Tryz.ntmps87 o (fun F=>(.sn mx (.c (.assign .none (.str (l:=[]) (by decide))) (.nil (.sn mx (.c (.call .none (zfV hv1).frz (.cons (.str (l:=[117,112,32,114,105,103,104,116,32,100,111,119,110,32,108,101,102,116]) (by decide)) .nil)) (.mv o (.c (.subW .none (.s o) .i) (.ix yO ty9 o o hn2 (.ld ty9 o (.asn o (.nil (.ret ?_)))))))))))))
 obtain rfl:=za h
 exact zb.rt Tryz.results87 o
theorem zlS {x1:zO}{r:Str}  (h:zbb x1=some r):zk Tryz.prog 31 [rep x1] (rep r):=by
 unfold zbb at h
 obtain⟨hn1,h⟩:=zo h
 obtain⟨r1,hv2,h⟩:=bind_some h
 obtain⟨hn3,h⟩:=zo h
 obtain⟨hn4,h⟩:=zo h
 obtain⟨r2,hv5,h⟩:=bind_some h
 obtain⟨hn6,h⟩:=zo h
 refine zk.i Tryz.func31 o Tryz.ntmps31 o (fun F=>(.sn mx (.c (.box .none (.s o)) (.c (.assign .none (.str (l:=[]) (by decide))) (.nil (.sn mx (.fa zb8 zck o (.ld ty9 o (.c (.addStr .none (.s o) (.str (l:=[32]) (by decide)) (fun _=>hn1)) (.fa JF JM o (.ld ty3 o (.c (.call .none (zsE hv2) (.cons (.s o) .nil)) (.c (.addStr .none (.s o) (.s o) (fun _=>hn3)) (.c (.addStr .none (.s o) (.str (l:=[32]) (by decide)) (fun _=>hn4)) (.fa zaG zaQ o (.ld ty3 o (.c (.call .none (QV hv5) (.cons (.s o) .nil)) (.c (.addStr .none (.s o) (.s o) (fun _=>hn6)) (.asn o (.nil (.ret ?_)))))))))))))))))))))
 obtain rfl:=za h
 exact zb.rt Tryz.results31 o
theorem zqU {m:(GMap Str (GMap Str Str))}:zk Tryz.prog 89 [rep m] (zaW 133 m):=zkD zkB rfl rfl zp7
theorem ztZ {m:(GMap Str (GMap Str Str))}(hn:m.size≤8796093022208)(hl:∃l,zD m l):ya Tryz.prog 88 [zaW 133 m] [] z7 [some (zq 9 (ql m))]:=zmQ zkB zmR zmP rfl rfl rfl rfl rfl Tryz.underlying9 zjW zpH zjS hn hl
theorem zqV {m:(GMap Str Str)}:zk Tryz.prog 90 [rep m] (zaW 134 m):=zkD zkC rfl rfl zp8
theorem zt0 {m:(GMap Str Str)}(hn:m.size≤8796093022208)(hl:∃l,zD m l):ya Tryz.prog 88 [zaW 134 m] [] z7 [some (zq 9 (ql m))]:=zmQ zkC zmR zmP rfl rfl rfl rfl rfl Tryz.underlying9 zjW zpI zjS hn hl
theorem zsH {m1:(GMap Str (GMap Str Str))}{r:(List zv)}  (h:zcZ m1=some r):zk Tryz.prog 32 [rep m1] (rep r):=by
 unfold zcZ at h
 obtain⟨hn1,h⟩:=zo h
 obtain⟨v1,hv2,h⟩:=zn h
 refine zk.i Tryz.func32 o Tryz.ntmps32 o (fun F=>(.sn mx (.c (.assign .none (.const (x:=([]:(List zv))) (fun M w=>⟨_,⟨none,0,rfl,Nat.le_refl _,by decide,rfl⟩,rfl⟩))) (.nil (.sr [([],[3])] mx (.cW (.nilRow (T:=78) (α:=zv) o) (.nil (.nameRow (t:=3) (g:=5001) o o o (fun s5001=>(.seq (.sn mx (.mv o (.c (.call .none zqU (.cons (.s o) .nil)) (.c (.re hv2 (.call .none (ztZ hn1.1 hn1.2).frz (.cons (.s o) .nil))) (.ln yO o (.mvi (.nil ?_)))))))))))))))))
 obtain⟨j_3,h,hK3⟩:=bind_some h
 refine .thenJ (ι:=(List zv)) (fun j_3=>[]) (fun j_3=>[(3,some (zq 78 j_3))]) (fun s=>j_3=s) Sub.nil zd.nil ?_ (fun j_3' hj3=>?_)
 ·
  refine .block (.anon (t:=3) (g:=5001) o o trivial o (.rforL h (fun p4_=>[(13,⟨True,rep p4_.1⟩)]) (fun p4_=>[(3,some (zq 78 p4_.2))]) (.k 13 o .nil) (.k 3 o .nil) (.k2 0 11 o o (.k 12 o .nil)) zd.nil (fun p4_ o_4 h hD4=>(.nameRow (t:=3) (g:=5002) o o o (fun s5002=>(.sn mx (.lt o o (.nil (.seq (.cb o h (fun _ h=>?_) fun _ h=>?_))))))))))
  ·
   refine .skip (.then (.seq ?_))
   obtain⟨j_6,h,hK6⟩:=bind_some h
   unfold zhz at h
   refine .thenJ (ι:=(List zv)) (fun j_6=>[]) (fun j_6=>[(3,some (zq 78 j_6))]) (fun s=>j_6=s) (.k4 0 11 12 13 o o o o .nil) zd.nil ?_ (fun j_6' hj6=>?_)
   ·
    obtain⟨hn7,h⟩:=zo h
    obtain⟨id1,hv8,h⟩:=zn h
    obtain⟨hn9,h⟩:=zo h
    obtain⟨v2,hv10,h⟩:=zn h
    refine .block (.sn mx (.ix yO ty9 o o hn7 (.ld ty9 o (.ra hv8 o (.nil (.sr [oo,oo,([],[6]),([6],[6])] mx (.mvA o (.cA (.buildF (y:=(⟨id1,⟨.slice none 0 0⟩⟩:qN)) .none ziD znA o (.cons (.s o) .nil) (.cons o zm0 .nil)) (.al QY o (.cN (.storeH znh o (by rfl) o (.s o)) (.nil (.nameAt (t:=6) (g:=5003) o o QL o (fun m5003=>(.nilKey (g:=5004) (T:=96) (α:=zU) o (.seq (.sn mx (.mv o (.mv o (.c (.lookup .none YW zh7 (.s o) (.s o)) (.c (.call .none zqV (.cons (.s o) .nil)) (.c (.re hv10 (.call .none (zt0 hn9.1 hn9.2).frz (.cons (.s o) .nil))) (.ln yO o (.mvi (.nil ?_))))))))))))))))))))))))
    obtain⟨j_11,h,hK11⟩:=bind_some h
    refine .thenJ (ι:=zv) (fun j_11=>[]) (fun j_11=>[(5003,some (ze.at (ptr m5003 0) (yg (fun z0=>zM 78 (⟨j_11.Id,⟨z0⟩⟩:qN)) (zq 96 j_11.Attrs))))]) (fun s=>j_11=s) (.k4 0 3 6 11 o o o o (.k2 12 13 o o .nil)) (.k 5002 o .nil) ?_ (fun j_11' hj11=>?_)
    ·
     refine .block (.close (k:=5003) (g:=5004) (fun z=>zM 78 (⟨id1,⟨z⟩⟩:qN)) o o o (.rforL h (fun p12_=>[(25,⟨True,rep p12_.1⟩)]) (fun p12_=>[(5003,some (ze.at (ptr m5003 0) (yg (fun z0=>zM 78 (⟨p12_.2.Id,⟨z0⟩⟩:qN)) (zq 96 p12_.2.Attrs))))]) (.k 25 o .nil) (.k 5003 o .nil) (.k4 0 3 5 6 o o o o (.k4 11 12 13 23 o o o o (.k 24 o .nil))) (.k 5002 o .nil) (fun p12_ o_12 h hD12=>(.open (k:=5003) (g:=5005) o o (fun s5005=>(.sn mx (.lt o o (.nil (.seq (.cb o h (fun _ h=>?_) fun _ h=>?_))))))))))
     ·
      refine .skip (.then (.seq ?_))
      obtain⟨j_14,h,hK14⟩:=bind_some h
      unfold zfm at h
      refine .thenJ (ι:=zv) (fun j_14=>[]) (fun j_14=>[(5003,some (ze.at (ptr m5003 0) (yg (fun z0=>zM 78 (⟨j_14.Id,⟨z0⟩⟩:qN)) (zq 96 j_14.Attrs))))]) (fun s=>j_14=s) (.k4 0 3 5 6 o o o o (.k4 11 12 13 23 o o o o (.k2 24 25 o o .nil))) (.k 5002 o .nil) ?_ (fun j_14' hj14=>?_)
      ·
       obtain⟨hn15,h⟩:=zo h
       obtain⟨f1,hv16,h⟩:=zn h
       obtain⟨hn17,h⟩:=zo h
       exact .block (.sn mx (.ix yO ty9 o o hn15 (.ld ty9 o (.ra hv16 o (.nil (.rg [oo,([5003],[]),oo,oo,oo,oo,oo,oo,oo,oo,([5005],[39,5005]),oo,([5003,39],[5003,39])] mx (.cA (.fieldPtr .none jK (.s o)) (.cA (.loadAt (k:=5003) .none zh2 o (.s o) zgZ) (.mvA o (.mvA o (.mvA o (.cA (.lookup .none YW zh7 (.s o) (.s o)) (.mvA o (.cA (.lookup .none yF zo9 (.s o) (.s o)) (.cA (.buildF (y:=(⟨f1,(m1.getD id1 (GMap.nil:(GMap Str Str))).getD f1 Str.nil⟩:zU)) .none ziE znw o (.cons (.s o) (.cons (.s o) .nil)) (.cons o zmE (.cons o zmF .nil))) (.cA (.buildSlice (xs:=[_]) .none qZ q7 zki (.cons (.s o) .nil) o (by decide)) (.cW (.appendW (k:=5005) zma o (.told (.s o) o) (.s o) hn17) (.cA (.fieldPtr .none jK (.s o)) (.cN (.storeRow (k:=5003) (t:=39) vC o (.s o) zm1 o o) (.nil (.blkNormal (zb.j _ (za h)))))))))))))))))))))))
      ·
       subst hj14;have h:=hK14;clear hK14
       exact .open (k:=5003) (g:=5006) o o (fun s5006=>(.rn mx (.adi o (.mv o (.nil (.close (k:=5003) (g:=5006) (fun z=>zM 78 (⟨j_14.Id,⟨z⟩⟩:qN)) o o o (zb.ag (za h))))))))
     ·
      refine .exit (.thenExit (.thenExit (.blkExit (.close (k:=5003) (g:=5005) (fun z=>zM 78 (⟨p12_.2.Id,⟨z⟩⟩:qN)) o o o ?_))))
      replace h:=hD12 _ (za h)
      exact zb.j _ (za h)
    ·
     subst hj11;have h:=hK11;clear hK11
     refine .freezeAt (g:=5003) (S:=ref ({ j_11 with Attrs:=j_11.Attrs }:zv)) (ts:=[6]) o (.cons (t:=6) o trivial .nil) (.k 5002 o .nil) o (fun M D w h hms=>zbN (mk:=(fun s1_=>(⟨j_11.Id,⟨s1_⟩⟩:qN))) (y:=({ j_11 with Attrs:=j_11.Attrs }:zv)) zef o (fun M s1_ cs w hc g1=>by obtain⟨c0,q0,e0,h0,h1⟩:=hc;exact⟨c0,q0,e0,h0,Y7 o o h1 g1⟩) M D w h hms) ?_
     obtain⟨hn18,h⟩:=zo h
     exact .rg [oo,oo,oo,([5002],[45,5002]),([45],[3,45])] mx (.mvA o (.ldA y9 o (.cA (.buildSlice (xs:=[_]) .none qD y9 zg1 (.cons (.s o) .nil) o (by decide)) (.cW (.appendW (k:=5002) zl9 o (.told (.s o) o) (.s o) hn18) (.cW (.passRow o (.tmp o)) (.nil (.blkNormal (zb.j _ (za h)))))))))
   ·
    subst hj6;have h:=hK6;clear hK6
    exact .nameRow (t:=3) (g:=5007) o o o (fun s5007=>(.rn mx (.adi o (.mv o (.nil (.anon (t:=3) (g:=5007) o o trivial o (zb.ag (za h))))))))
  ·
   refine .exit (.thenExit (.thenExit (.blkExit (.anon (t:=3) (g:=5002) o o trivial o ?_))))
   replace h:=hD4 _ (za h)
   exact zb.j _ (za h)
 ·
  subst hj3;have h:=hK3;clear hK3
  refine .freezeRowA (t:=3) o o zd.nil o (.sn mx (.mv o (.asn o (.nil (.ret ?_)))))
  obtain rfl:=za h
  exact zb.rt Tryz.results32 o
set_option maxHeartbeats 4000000 in
theorem zst {d1:Doc}{r:(List zv)}  (h:zcL d1=some r):zk Tryz.prog 9 [rep d1] (rep r):=by
 unfold zcL at h
 obtain⟨c1,hv1,h⟩:=zn h
 refine zk.i Tryz.func9 o Tryz.ntmps9 o (fun F=>(.sn mx (.c (.box .none (.s o)) (.c (.assign .none (.const (x:=([]:(List zv))) (fun M w=>⟨_,⟨none,0,rfl,Nat.le_refl _,by decide,rfl⟩,rfl⟩))) (.nil (.sr [([],[12]),([],[3]),([3,12],[3,12])] mx (.cW (.makeMapD (K:=Str) (K2:=Str) (V:=Str) o) (.al zuT o (.cN (.storeRow0M (k:=3) (t:=12) znf o o o zeQ o) (.nil (.nameAt (t:=3) (g:=5001) o o (zg2 fun _=>QL) o (fun m5001=>(.open (k:=5001) (g:=5002) o o (fun s5002=>(.sn mx (.c (.makeFuncC (Cs:=[isV (ptr m5001 0)]) .none (.cons (.s o) .nil)) (.asn o (.nil (.reB (t:=5002) o (congrArg (fun y=>ze.at s5002 (yd none y)) hv1) (.seq (.sn mx (.fa yX qc o (.ld y8 o (.ln yh o (.mvi (.nil ?_))))))))))))))))))))))))))
 obtain⟨j_2,h,hK2⟩:=bind_some h
 refine .thenJ (ι:=(GMap Str (GMap Str Str))) (fun j_2=>[]) (fun j_2=>[(5001,some (ze.at (ptr m5001 0) (yg (fun z0=>zM 48 (⟨z0⟩:Raw)) (yd none j_2))))]) (fun s=>j_2=s) (.k2 1 3 o o (.k 4 o .nil)) zd.nil ?_ (fun j_2' hj2=>?_)
 ·
  refine .block (.close (k:=5001) (g:=5002) (fun z=>zM 48 (⟨z⟩:Raw)) o o o (.rforL h (fun p3_=>[(17,⟨True,rep p3_.1⟩)]) (fun p3_=>[(5001,some (ze.at (ptr m5001 0) (yg (fun z0=>zM 48 (⟨z0⟩:Raw)) (yd none p3_.2))))]) (.k 17 o .nil) (.k 5001 o .nil) (.k4 1 3 4 15 o o o o (.k 16 o .nil)) zd.nil (fun p3_ o_3 h hD3=>(.open (k:=5001) (g:=5003) o o (fun s5003=>(.sn mx (.lt o o (.nil (.seq (.cb o h (fun _ h=>?_) fun _ h=>?_))))))))))
  ·
   refine .skip (.then (.seq ?_))
   obtain⟨j_5,h,hK5⟩:=bind_some h
   unfold zcM at h
   refine .thenJ (ι:=(GMap Str (GMap Str Str))) (fun j_5=>[]) (fun j_5=>[(5001,some (ze.at (ptr m5001 0) (yg (fun z0=>zM 48 (⟨z0⟩:Raw)) (yd none j_5))))]) (fun s=>j_5=s) (.k4 1 3 4 15 o o o o (.k2 16 17 o o .nil)) zd.nil ?_ (fun j_5' hj5=>?_)
   ·
    obtain⟨hn6,h⟩:=zo h
    obtain⟨v1,hv7,h⟩:=zn h
    obtain⟨r1,hv8,h⟩:=bind_some h
    obtain⟨r2,hv9,h⟩:=bind_some h
    obtain⟨c2,hv10,h⟩:=zn h
    refine .block (.sr [oo,oo,oo,([],[6]),oo,([6],[6])] mx (.mvA o (.ixA yh zJ o o hn6 (.rlA hv7 zJ o (.al ja o (.asnA o (.st zJ o o o (.nil (.freeze (t:=6) o o (.k2 5001 5003 o o .nil) o (.seq (.regionG 25 (GMap.nil:(GMap Str Str)) ([((⟨[107,105,110,100]⟩:Str),r1),((⟨[122]⟩:Str),r2)]:List (Str×Str)) [([5001],[]),([],[]),([],[]),([],[25]),([],[]),([],[]),([],[]),([25],[25]),([],[]),([],[]),([25],[25]),([25],[31,25]),([5003,31],[5003,31])] mixed (by kernel_rfl) (show([(⟨[107,105,110,100]⟩:Str),(⟨[122]⟩:Str)]:List Str).Nodup from by decide) (zG.one o (.cA (.loadAt0 (k:=5001) .none zh1 o (.s o)) (.nil (zG.one o (.faA qI qJ o (.nil (zG.one o (.ldA ty9 o (.nil (zG.one o (.cW (.makeMap (K:=Str) (V:=Str) o) (.nil (zG.one o (.faA qV qO o (.nil (zG.one o (.ldA ty3 o (.nil (zG.one o (.cA (.call .none (zsv hv8) (.cons (.s o) .nil)) (.nil (zG.put o o o (fun m' B' hB'=>zg.mapInsert (q:=25) yF hB' (.str (l:=[107,105,110,100]) (by decide)) (.s o)) (zG.one o (.mvA o (.nil (zG.one o (.cA (.call .none (QV hv9) (.cons (.s o) .nil)) (.nil (zG.put o o o (fun m' B' hB'=>zg.mapInsert (q:=25) yF hB' (.str (l:=[122]) (by decide)) (.s o)) (zG.one o (.cW (.passRowM o (.tmp o)) (.nil (zG.one o (.cN (.mapPutD (q:=5003) (t:=31) YW o (.s o) o o o (.s o)) (.nil (zG.nil (.then (.reB (t:=5003) o (congrArg (fun y=>ze.at s5003 (yd none y)) hv10) (.seq (.sn mx (.fa qV qO o (.ld ty3 o (.nei o (.nil ?_)))))))))))))))))))))))))))))))))))))))))))))))))))))))
    obtain⟨j_11,h,hK11⟩:=bind_some h
    refine .thenJ (ι:=(GMap Str (GMap Str Str))) (fun j_11=>[]) (fun j_11=>[(5001,some (ze.at (ptr m5001 0) (yg (fun z0=>zM 48 (⟨z0⟩:Raw)) (yd none j_11))))]) (fun s=>j_11=s) (.k4 1 3 4 6 o o o o (.k2 15 16 o o (.k 17 o .nil))) zd.nil ?_ (fun j_11' hj11=>?_)
    ·
     refine .cb o h (fun _ h=>?_) fun _ h=>?_
     ·
      obtain⟨r3,hv13,h⟩:=bind_some h
      obtain⟨r4,hv14,h⟩:=bind_some h
      exact .rg [oo,oo,oo,oo,oo,oo,oo,oo,oo,oo,oo,oo,oo,oo,oo,oo,oo,([5001,5003],[5001,5003])] mx (.mvA o (.faA qI qJ o (.ldA ty9 o (.faA jQ vc o (.faA vn va o (.ldA ty3 o (.faA jQ vc o (.faA vo vb o (.ldA ty3 o (.faA jQ vc o (.faA Qe vO o (.ldA ty3 o (.faA jQ vc o (.faA Qf vP o (.ldA ty3 o (.cA (.buildSlice (xs:=[_,_,_,_]) .none yI ty3 hz3 (.cons (.s o) (.cons (.s o) (.cons (.s o) (.cons (.s o) .nil)))) o (by decide)) (.cA (.call .none (zlZ hv13) (.cons (.s o) .nil)) (.cW (.callClo [5001,5003] (Ss:=[rep v1.Id,rep (⟨[112,108,97,99,101]⟩:Str),rep r3]) (Cs:=[isV (ptr m5001 0)]) (.s o) (Jb hv14) (.cons (.s o) (.cons (.str (l:=[112,108,97,99,101]) (by decide)) (.cons (.s o) .nil))) (.cons (k:=5001) o (.cons (k:=5003) o .nil)) o (by decide) (by decide) (by intro d h;cases h;decide)) (.nil (zb.j _ (za h)))))))))))))))))))))
     ·
      exact .skip (.close (k:=5001) (g:=5003) (fun z=>zM 48 (⟨z⟩:Raw)) o o o (zb.j _ (za h)))
    ·
     subst hj11;have h:=hK11;clear hK11
     obtain⟨r5,hv15,h⟩:=bind_some h
     refine .open (k:=5001) (g:=5004) o o (fun s5004=>(.sr [oo,oo,oo,oo,oo,([5001,5004],[5001,5004])] mx (.mvA o (.faA qI qJ o (.ldA ty9 o (.faA zb7 zcj o (.ldA ty9 o (.cW (.callClo [5001,5004] (Ss:=[rep v1.Id,rep (⟨[116,101,120,116]⟩:Str),rep v1.Text]) (Cs:=[isV (ptr m5001 0)]) (.s o) (Jb hv15) (.cons (.s o) (.cons (.str (l:=[116,101,120,116]) (by decide)) (.cons (.s o) .nil))) (.cons (k:=5001) o (.cons (k:=5004) o .nil)) o (by decide) (by decide) (by intro d h;cases h;decide)) ?_))))))))
     obtain⟨r6,hv16,h⟩:=bind_some h
     refine .nil (.open (k:=5001) (g:=5005) o o (fun s5005=>(.sr [oo,oo,oo,oo,oo,([5001,5005],[5001,5005])] mx (.mvA o (.faA qI qJ o (.ldA ty9 o (.faA zaF zaP o (.ldA ty9 o (.cW (.callClo [5001,5005] (Ss:=[rep v1.Id,rep (⟨[99,108,97,115,115]⟩:Str),rep v1.Class]) (Cs:=[isV (ptr m5001 0)]) (.s o) (Jb hv16) (.cons (.s o) (.cons (.str (l:=[99,108,97,115,115]) (by decide)) (.cons (.s o) .nil))) (.cons (k:=5001) o (.cons (k:=5005) o .nil)) o (by decide) (by decide) (by intro d h;cases h;decide)) ?_)))))))))
     obtain⟨r7,hv17,h⟩:=bind_some h
     refine .nil (.open (k:=5001) (g:=5006) o o (fun s5006=>(.sr [oo,oo,oo,oo,oo,([5001,5006],[5001,5006])] mx (.mvA o (.faA qI qJ o (.ldA ty9 o (.faA jJ jL o (.ldA ty9 o (.cW (.callClo [5001,5006] (Ss:=[rep v1.Id,rep (⟨[112,97,114,101,110,116]⟩:Str),rep v1.Parent]) (Cs:=[isV (ptr m5001 0)]) (.s o) (Jb hv17) (.cons (.s o) (.cons (.str (l:=[112,97,114,101,110,116]) (by decide)) (.cons (.s o) .nil))) (.cons (k:=5001) o (.cons (k:=5006) o .nil)) o (by decide) (by decide) (by intro d h;cases h;decide)) (.nil (.open (k:=5001) (g:=5007) o o (fun s5007=>(.sn mx (.fa zd2 zgX o (.ld ty4 o (.nil (.cb o h (fun _ h=>?_) fun _ h=>?_)))))))))))))))))
     ·
      obtain⟨r8,hv19,h⟩:=bind_some h
      exact .rg [oo,oo,oo,([5001,5007],[5001,5007])] mx (.mvA o (.faA qI qJ o (.ldA ty9 o (.cW (.callClo [5001,5007] (Ss:=[rep v1.Id,rep (⟨[108,111,99,107,101,100]⟩:Str),rep (⟨[121,101,115]⟩:Str)]) (Cs:=[isV (ptr m5001 0)]) (.s o) (Jb hv19) (.cons (.s o) (.cons (.str (l:=[108,111,99,107,101,100]) (by decide)) (.cons (.str (l:=[121,101,115]) (by decide)) .nil))) (.cons (k:=5001) o (.cons (k:=5007) o .nil)) o (by decide) (by decide) (by intro d h;cases h;decide)) (.nil (.blkNormal (zb.j _ (za h))))))))
     ·
      exact .skip (.blkNormal (.close (k:=5001) (g:=5007) (fun z=>zM 48 (⟨z⟩:Raw)) o o o (zb.j _ (za h))))
   ·
    subst hj5;have h:=hK5;clear hK5
    exact .open (k:=5001) (g:=5008) o o (fun s5008=>(.rn mx (.adi o (.mv o (.nil (.close (k:=5001) (g:=5008) (fun z=>zM 48 (⟨z⟩:Raw)) o o o (zb.ag (za h))))))))
  ·
   refine .exit (.thenExit (.thenExit (.blkExit (.close (k:=5001) (g:=5003) (fun z=>zM 48 (⟨z⟩:Raw)) o o o ?_))))
   replace h:=hD3 _ (za h)
   exact zb.j _ (za h)
 ·
  subst hj2;have h:=hK2;clear hK2
  refine .open (k:=5001) (g:=5009) o o (fun s5009=>(.seq (.sn mx (.fa vM Qv o (.ld Qr o (.ln qY o (.mvi (.nil ?_))))))))
  obtain⟨j_20,h,hK20⟩:=bind_some h
  refine .thenJ (ι:=(GMap Str (GMap Str Str))) (fun j_20=>[]) (fun j_20=>[(5001,some (ze.at (ptr m5001 0) (yg (fun z0=>zM 48 (⟨z0⟩:Raw)) (yd none j_20))))]) (fun s=>j_20=s) (.k 3 o .nil) zd.nil ?_ (fun j_20' hj20=>?_)
  ·
   refine .block (.close (k:=5001) (g:=5009) (fun z=>zM 48 (⟨z⟩:Raw)) o o o (.rforL h (fun p21_=>[(81,⟨True,rep p21_.1⟩)]) (fun p21_=>[(5001,some (ze.at (ptr m5001 0) (yg (fun z0=>zM 48 (⟨z0⟩:Raw)) (yd none p21_.2))))]) (.k 81 o .nil) (.k 5001 o .nil) (.k4 3 4 79 80 o o o o .nil) zd.nil (fun p21_ o_21 h hD21=>(.open (k:=5001) (g:=5010) o o (fun s5010=>(.sn mx (.lt o o (.nil (.seq (.cb o h (fun _ h=>?_) fun _ h=>?_))))))))))
   ·
    refine .skip (.then (.seq ?_))
    obtain⟨j_23,h,hK23⟩:=bind_some h
    unfold zcN at h
    refine .thenJ (ι:=(GMap Str (GMap Str Str))) (fun j_23=>[]) (fun j_23=>[(5001,some (ze.at (ptr m5001 0) (yg (fun z0=>zM 48 (⟨z0⟩:Raw)) (yd none j_23))))]) (fun s=>j_23=s) (.k4 3 4 79 80 o o o o (.k 81 o .nil)) zd.nil ?_ (fun j_23' hj23=>?_)
    ·
     obtain⟨hn24,h⟩:=zo h
     obtain⟨v2,hv25,h⟩:=zn h
     obtain⟨r9,hv26,h⟩:=bind_some h
     obtain⟨r10,hv27,h⟩:=bind_some h
     obtain⟨r11,hv28,h⟩:=bind_some h
     obtain⟨c3,hv29,h⟩:=zn h
     refine .block (.sr [oo,oo,oo,([],[8]),oo,([8],[8])] mx (.mvA o (.ixA qY yW o o hn24 (.rlA hv25 yW o (.al YC o (.asnA o (.st yW o o o (.nil (.freeze (t:=8) o o (.k2 5001 5010 o o .nil) o (.seq (.regionG 89 (GMap.nil:(GMap Str Str)) ([((⟨[107,105,110,100]⟩:Str),(⟨[101,100,103,101]⟩:Str)),((⟨[122]⟩:Str),r9),((⟨[102,114,111,109]⟩:Str),r10),((⟨[116,111]⟩:Str),r11)]:List (Str×Str)) [([5001],[]),([],[]),([],[]),([],[89]),([89],[89]),([],[]),([],[]),([89],[89]),([],[]),([],[]),([],[]),([89],[89]),([],[]),([],[]),([],[]),([89],[89]),([89],[98,89]),([5010,98],[5010,98])] mixed (by kernel_rfl) (show([(⟨[107,105,110,100]⟩:Str),(⟨[122]⟩:Str),(⟨[102,114,111,109]⟩:Str),(⟨[116,111]⟩:Str)]:List Str).Nodup from by decide) (zG.one o (.cA (.loadAt0 (k:=5001) .none zh1 o (.s o)) (.nil (zG.one o (.faA j8 vt o (.nil (zG.one o (.ldA ty9 o (.nil (zG.one o (.cW (.makeMap (K:=Str) (V:=Str) o) (.nil (zG.put o o o (fun m' B' hB'=>zg.mapInsert (q:=89) yF hB' (.str (l:=[107,105,110,100]) (by decide)) (.str (l:=[101,100,103,101]) (by decide))) (zG.one o (.mvA o (.nil (zG.one o (.cA (.call .none (QV hv26) (.cons (.s o) .nil)) (.nil (zG.put o o o (fun m' B' hB'=>zg.mapInsert (q:=89) yF hB' (.str (l:=[122]) (by decide)) (.s o)) (zG.one o (.faA YN zaR o (.nil (zG.one o (.ldA yV o (.nil (zG.one o (.cA (.call .none (zlS hv27) (.cons (.s o) .nil)) (.nil (zG.put o o o (fun m' B' hB'=>zg.mapInsert (q:=89) yF hB' (.str (l:=[102,114,111,109]) (by decide)) (.s o)) ?_)))))))))))))))))))))))))))))))))))))))))
     refine zG.one o (.faA YO zaS o (.nil (zG.one o (.ldA yV o (.nil (zG.one o (.cA (.call .none (zlS hv28) (.cons (.s o) .nil)) (.nil (zG.put o o o (fun m' B' hB'=>zg.mapInsert (q:=89) yF hB' (.str (l:=[116,111]) (by decide)) (.s o)) (zG.one o (.cW (.passRowM o (.tmp o)) (.nil (zG.one o (.cN (.mapPutD (q:=5010) (t:=98) YW o (.s o) o o o (.s o)) (.nil (zG.nil (.then (.reB (t:=5010) o (congrArg (fun y=>ze.at s5010 (yd none y)) hv29) (.sr [([],[9])] mx (.cW (.nilRow (T:=3) (α:=Int) o) (.nil (.nameRow (t:=9) (g:=5011) o o o (fun s5011=>(.seq (.sn mx (.fa Qu Yk o (.ld QE o (.ln ji o (.mvi (.nil ?_))))))))))))))))))))))))))))))
     obtain⟨j_30,h,hK30⟩:=bind_some h
     refine .thenJ (ι:=(List Int)) (fun j_30=>[]) (fun j_30=>[(9,some (zq 3 j_30))]) (fun s=>j_30=s) (.k4 3 4 8 79 o o o o (.k2 80 81 o o .nil)) (.k2 5001 5010 o o .nil) ?_ (fun j_30' hj30=>?_)
     ·
      refine .block (.anon (t:=9) (g:=5011) o o trivial o (.rforL h (fun p31_=>[(102,⟨True,rep p31_.1⟩)]) (fun p31_=>[(9,some (zq 3 p31_.2))]) (.k 102 o .nil) (.k 9 o .nil) (.k4 3 4 8 79 o o o o (.k4 80 81 100 101 o o o o .nil)) (.k2 5001 5010 o o .nil) (fun p31_ o_31 h hD31=>(.nameRow (t:=9) (g:=5012) o o o (fun s5012=>(.sn mx (.lt o o (.nil (.seq (.cb o h (fun _ h=>?_) fun _ h=>?_))))))))))
      ·
       refine .skip (.then (.seq ?_))
       obtain⟨j_33,h,hK33⟩:=bind_some h
       unfold zff at h
       refine .thenJ (ι:=(List Int)) (fun j_33=>[]) (fun j_33=>[(9,some (zq 3 j_33))]) (fun s=>j_33=s) (.k4 3 4 8 79 o o o o (.k4 80 81 100 101 o o o o (.k 102 o .nil))) (.k2 5001 5010 o o .nil) ?_ (fun j_33' hj33=>?_)
       ·
        obtain⟨hn34,h⟩:=zo h
        obtain⟨v3,hv35,h⟩:=zn h
        obtain⟨hn36,h⟩:=zo h
        exact .block (.sr [oo,oo,([],[11]),([11],[11])] mx (.ixA ji jk o o hn34 (.rlA hv35 jk o (.al zf1 o (.st jk o o o (.nil (.freeze (t:=11) o o (.k2 5001 5010 o o (.k 5012 o .nil)) o (.rg [oo,oo,oo,oo,oo,oo,([5012],[112,5012]),([112],[9,112])] mx (.mvA o (.faA zd5 zeo o (.ldA ty3 o (.faA zd6 zep o (.ldA ty3 o (.cA (.buildSlice (xs:=[_,_]) .none yI ty3 hz3 (.cons (.s o) (.cons (.s o) .nil)) o (by decide)) (.cW (.append (k:=5012) zc9 o (.told (.s o) o) (.s o) hn36) (.cW (.passRow o (.tmp o)) (.nil (.blkNormal (zb.j _ (za h))))))))))))))))))))
       ·
        subst hj33;have h:=hK33;clear hK33
        exact .nameRow (t:=9) (g:=5013) o o o (fun s5013=>(.rn mx (.adi o (.mv o (.nil (.anon (t:=9) (g:=5013) o o trivial o (zb.ag (za h))))))))
      ·
       refine .exit (.thenExit (.thenExit (.blkExit (.anon (t:=9) (g:=5012) o o trivial o ?_))))
       replace h:=hD31 _ (za h)
       exact zb.j _ (za h)
     ·
      subst hj30;have h:=hK30;clear hK30
      obtain⟨r12,hv37,h⟩:=bind_some h
      obtain⟨r13,hv38,h⟩:=bind_some h
      refine .freezeRowA (t:=9) o o (.k2 5001 5010 o o .nil) o (.sr [oo,oo,oo,oo,oo,([5001,5010],[5001,5010])] mx (.mvA o (.faA j8 vt o (.ldA ty9 o (.mvA o (.cA (.call .none (zlZ hv37) (.cons (.s o) .nil)) (.cW (.callClo [5001,5010] (Ss:=[rep v2.Id,rep (⟨[98,101,110,100,115]⟩:Str),rep r12]) (Cs:=[isV (ptr m5001 0)]) (.s o) (Jb hv38) (.cons (.s o) (.cons (.str (l:=[98,101,110,100,115]) (by decide)) (.cons (.s o) .nil))) (.cons (k:=5001) o (.cons (k:=5010) o .nil)) o (by decide) (by decide) (by intro d h;cases h;decide)) ?_)))))))
      obtain⟨r14,hv39,h⟩:=bind_some h
      refine .nil (.open (k:=5001) (g:=5014) o o (fun s5014=>(.sr [oo,oo,oo,oo,oo,([5001,5014],[5001,5014])] mx (.mvA o (.faA j8 vt o (.ldA ty9 o (.faA JG zaT o (.ldA ty9 o (.cW (.callClo [5001,5014] (Ss:=[rep v2.Id,rep (⟨[116,101,120,116]⟩:Str),rep v2.Text]) (Cs:=[isV (ptr m5001 0)]) (.s o) (Jb hv39) (.cons (.s o) (.cons (.str (l:=[116,101,120,116]) (by decide)) (.cons (.s o) .nil))) (.cons (k:=5001) o (.cons (k:=5014) o .nil)) o (by decide) (by decide) (by intro d h;cases h;decide)) ?_)))))))))
      obtain⟨r15,hv40,h⟩:=bind_some h
      exact .nil (.open (k:=5001) (g:=5015) o o (fun s5015=>(.rg [oo,oo,oo,oo,oo,([5001,5015],[5001,5015])] mx (.mvA o (.faA j8 vt o (.ldA ty9 o (.faA YP JN o (.ldA ty9 o (.cW (.callClo [5001,5015] (Ss:=[rep v2.Id,rep (⟨[99,108,97,115,115]⟩:Str),rep v2.Class]) (Cs:=[isV (ptr m5001 0)]) (.s o) (Jb hv40) (.cons (.s o) (.cons (.str (l:=[99,108,97,115,115]) (by decide)) (.cons (.s o) .nil))) (.cons (k:=5001) o (.cons (k:=5015) o .nil)) o (by decide) (by decide) (by intro d h;cases h;decide)) (.nil (.blkNormal (zb.j _ (za h)))))))))))))
    ·
     subst hj23;have h:=hK23;clear hK23
     exact .open (k:=5001) (g:=5016) o o (fun s5016=>(.rn mx (.adi o (.mv o (.nil (.close (k:=5001) (g:=5016) (fun z=>zM 48 (⟨z⟩:Raw)) o o o (zb.ag (za h))))))))
   ·
    refine .exit (.thenExit (.thenExit (.blkExit (.close (k:=5001) (g:=5010) (fun z=>zM 48 (⟨z⟩:Raw)) o o o ?_))))
    replace h:=hD21 _ (za h)
    exact zb.j _ (za h)
  ·
   subst hj20;have h:=hK20;clear hK20
   refine .freezeAt (g:=5001) (S:=ref (j_20:(GMap Str (GMap Str Str)))) (ts:=[3]) o (.cons (t:=3) o trivial .nil) zd.nil o (fun M D w h hms=>zbN (mk:=(fun s1_=>(⟨s1_⟩:Raw))) (y:=(j_20:(GMap Str (GMap Str Str)))) zj1 o (fun M s1_ cs w hc g1=>zrr hc g1) M D w h hms) ?_
   obtain⟨r16,hv41,h⟩:=bind_some h
   refine .sn mx (.ld znf o (.c (.call .none (zsH hv41) (.cons (.s o) .nil)) (.asn o (.nil (.ret ?_)))))
   obtain rfl:=za h
   exact zb.rt Tryz.results9 o
theorem zq1 {c0_1:Doc}{r:(List zv)}  (h:zaX c0_1=some r):zk Tryz.prog 8 [ref c0_1] (rep r):=by
 unfold zaX at h
 obtain⟨r1,hv1,h⟩:=bind_some h
 refine zk.i Tryz.func8 o Tryz.ntmps8 o (fun F=>(.sn mx (.c (.assign .none (.const (x:=([]:(List zv))) (fun M w=>⟨_,⟨none,0,rfl,Nat.le_refl _,by decide,rfl⟩,rfl⟩))) (.nil (.sn mx (.ld yq o (.c (.call .none (zst hv1) (.cons (.s o) .nil)) (.asn o (.nil (.ret ?_))))))))))
 obtain rfl:=za h
 exact zb.rt Tryz.results8 o
theorem ztz {s1_1:(List zv)}{s2_1:(List zv)}{eq1:(zv→zv→Option Bool)}{r:Bool}  (h:zfL s1_1 s2_1 eq1=some r):zk Tryz.prog 83 [rep s1_1,rep s2_1,fn2 Tryz.prog (rep (α:=Bool)) eq1] (rep r):=by
 unfold zfL at h
 refine zk.i Tryz.func83 o Tryz.ntmps83 o (fun F=>(.sn mx (.asb (.nil (.seq (.sn mx (.mv o (.ln qD o (.mv o (.ln qD o (.c (.neI .none (.s o) (.s o)) (.nil (.cb o h (fun _ h=>?_) fun _ h=>?_)))))))))))))
 ·
  refine .sn mx (.asb (.nil (.ret (.thenRet ?_))))
  obtain rfl:=za h
  exact zb.rt Tryz.results83 o
 ·
  refine .skip (.then (.seq (.sn mx (.mv o (.ln qD o (.mvi (.nil ?_)))))))
  obtain⟨o_2,h,hK2⟩:=ym h
  refine .tJ (fun s=>o_2=Res.nx s) Sub.nil zd.nil ?_ (fun j_2 hj2=>?_)
  ·
   refine .block (.rforEL h (fun p3_=>[(17,⟨True,rep p3_.1⟩)]) (fun p3_=>[]) (.k 17 o .nil) zd.nil (.k4 1 2 15 16 o o o o .nil) zd.nil (fun p3_ o_3 h hD3=>(.sn mx (.lt o o (.nil (.seq (.cb o h (fun _ h=>?_) fun _ h=>?_)))))))
   ·
    refine .skip (.then (.seq ?_))
    obtain⟨o_5,h,hK5⟩:=yB h
    unfold zhN at h
    refine .tJ (fun s=>o_5=Res.nx s) (.k4 1 2 15 16 o o o o (.k 17 o .nil)) zd.nil ?_ (fun j_5 hj5=>?_)
    ·
     obtain⟨hn6,h⟩:=zo h
     obtain⟨v1,hv7,h⟩:=zn h
     obtain⟨hn8,h⟩:=zo h
     obtain⟨v2,hv9,h⟩:=zn h
     obtain⟨r1,hv10,h⟩:=bind_some h
     refine .block (.sr [oo,oo,oo,([],[8]),oo,([8],[8])] mx (.mvA o (.ixA qD y9 o o hn6 (.rlA hv7 y9 o (.al QY o (.asnA o (.st y9 o o o (.nil (.freeze (t:=8) o o zd.nil o (.sr [oo,oo,oo,oo,([],[9]),([9],[9])] mx (.mvA o (.mvA o (.ixA qD y9 o o hn8 (.rlA hv9 y9 o (.al QY o (.st y9 o o o (.nil (.freeze (t:=9) o o zd.nil o (.sn mx (.mv o (.ld y9 o (.ld y9 o (.c (.callV (v1,v2,r1) .none (.s o) (fun _=>hv10) (.cons (.s o) (.cons (.s o) .nil))) (.c (.not .none (.s o)) (.nil (.cb o h (fun _ h=>?_) fun _ h=>?_))))))))))))))))))))))))))
     ·
      refine .sn mx (.asb (.nil (.ret (.blkRet (.thenRet (.thenRet (.blkRet (.thenRet ?_))))))))
      replace h:=yf hK5 (za h)
      replace h:=hD3 _ (za h)
      replace h:=z8 hK2 (za h)
      obtain rfl:=za h
      exact zb.rt Tryz.results83 o
     ·
      exact .skip (.blkNormal (zb.j _ (za h)))
    ·
     have h:=yD hK5 hj5
     exact .rn mx (.adi o (.mv o (.nil (zb.ag (za h)))))
   ·
    refine .exit (.thenExit (.thenExit (.blkExit ?_)))
    replace h:=hD3 _ (za h)
    exact zb.j _ (za h)
  ·
   have h:=yn hK2 hj2
   refine .sn mx (.asb (.nil (.ret ?_)))
   obtain rfl:=za h
   exact zb.rt Tryz.results83 o
theorem ztA {s1_1:(List zU)}{s2_1:(List zU)}{r:Bool}  (h:zdf s1_1 s2_1=some r):zk Tryz.prog 85 [rep s1_1,rep s2_1] (rep r):=by
 unfold zdf at h
 refine zk.i Tryz.func85 o Tryz.ntmps85 o (fun F=>(.sn mx (.asb (.nil (.seq (.sn mx (.mv o (.ln qZ o (.mv o (.ln qZ o (.c (.neI .none (.s o) (.s o)) (.nil (.cb o h (fun _ h=>?_) fun _ h=>?_)))))))))))))
 ·
  refine .sn mx (.asb (.nil (.ret (.thenRet ?_))))
  obtain rfl:=za h
  exact zb.rt Tryz.results85 o
 ·
  refine .skip (.then (.seq (.sn mx (.mv o (.ln qZ o (.mvi (.nil ?_)))))))
  obtain⟨o_2,h,hK2⟩:=ym h
  refine .tJ (fun s=>o_2=Res.nx s) Sub.nil zd.nil ?_ (fun j_2 hj2=>?_)
  ·
   refine .block (.rforEL h (fun p3_=>[(13,⟨True,rep p3_.1⟩)]) (fun p3_=>[]) (.k 13 o .nil) zd.nil (.k2 0 1 o o (.k 12 o .nil)) zd.nil (fun p3_ o_3 h hD3=>(.sn mx (.lt o o (.nil (.seq (.cb o h (fun _ h=>?_) fun _ h=>?_)))))))
   ·
    refine .skip (.then (.seq ?_))
    obtain⟨o_5,h,hK5⟩:=yB h
    unfold zhO at h
    refine .tJ (fun s=>o_5=Res.nx s) (.k4 0 1 12 13 o o o o .nil) zd.nil ?_ (fun j_5 hj5=>?_)
    ·
     obtain⟨hn6,h⟩:=zo h
     obtain⟨hn7,h⟩:=zo h
     refine .block (.sn mx (.mv o (.asn o (.nil (.sn mx (.mv o (.mv o (.ix qZ q7 o o hn6 (.ld q7 o (.mv o (.mv o (.ix qZ q7 o o hn7 (.ld q7 o (.c (.neS .none zpi (.s o) (.s o)) (.nil (.cb o h (fun _ h=>?_) fun _ h=>?_))))))))))))))))
     ·
      refine .sn mx (.asb (.nil (.ret (.blkRet (.thenRet (.thenRet (.blkRet (.thenRet ?_))))))))
      replace h:=yf hK5 (za h)
      replace h:=hD3 _ (za h)
      replace h:=z8 hK2 (za h)
      obtain rfl:=za h
      exact zb.rt Tryz.results85 o
     ·
      exact .skip (.blkNormal (zb.j _ (za h)))
    ·
     have h:=yD hK5 hj5
     exact .rn mx (.adi o (.mv o (.nil (zb.ag (za h)))))
   ·
    refine .exit (.thenExit (.thenExit (.blkExit ?_)))
    replace h:=hD3 _ (za h)
    exact zb.j _ (za h)
  ·
   have h:=yn hK2 hj2
   refine .sn mx (.asb (.nil (.ret ?_)))
   obtain rfl:=za h
   exact zb.rt Tryz.results85 o
theorem zsC {x1:zv}{y1:zv}{r:Bool}  (h:zbi x1 y1=some r):zk Tryz.prog 84 [rep x1,rep y1] (rep r):=by
 unfold zbi at h
 obtain⟨r1,hv1,h⟩:=bind_some h
 refine zk.i Tryz.func84 o Tryz.ntmps84 o (fun F=>(.sn mx (.c (.box .none (.s o)) (.c (.box .none (.s o)) (.asb (.nil (.sn mx (.fa jq jr o (.ld ty9 o (.fa jq jr o (.ld ty9 o (.c (.eqS .none (yy Tryz.underlying9) (.s o) (.s o)) (.mv o (.fg jK Qg o o o (.lg vC o o o (.fg jK Qg o o o (.lg vC o o o (.c (.callIf (.at o o) zp5 (fun hg=>ztA ((fun hg=>qf hv1 (hg.2)) hg)) (.cons (.tmp o id) (.cons (.tmp o id) .nil)) (fun h=>h)) (.pa o o (.asn o (.nil (.ret ?_))))))))))))))))))))))
 obtain rfl:=za h
 exact zb.rt Tryz.results84 o
theorem zsD {a1:(List zv)}{b1:(List zv)}{r:Bool}  (h:zbh a1 b1=some r):zk Tryz.prog 27 [rep a1,rep b1] (rep r):=by
 unfold zbh at h
 obtain⟨r1,hv1,h⟩:=bind_some h
 refine zk.i Tryz.func27 o Tryz.ntmps27 o (fun F=>(.sn mx (.asb (.nil (.sn mx (.mv o (.mv o (.c (.call .none (ztz hv1) (.cons (.s o) (.cons (.s o) (.cons (Opd.func (ι:=zv×zv×Bool) (pre:=fun i=>zbi i.1 i.2.1=some i.2.2) (Ss:=fun i=>[rep i.1,rep i.2.1]) (S:=fun i=>rep i.2.2) zp4 (fun i h=>zsC h)) .nil)))) (.asn o (.nil (.ret ?_)))))))))))
 obtain rfl:=za h
 exact zb.rt Tryz.results27 o
theorem zq7 {l1:(List zv)}{e1:Int}{want1:Int}{right1:(Option (List zv))}{r:Bool}  (h:JT l1 e1 want1 right1=some r):zk Tryz.prog 7 [rep l1,rep e1,rep want1,fn0 Tryz.prog (rep (α:=(List zv))) right1] (rep r):=by
 unfold JT at h
 refine zk.i Tryz.func7 o Tryz.ntmps7 o (fun F=>(.sn mx (.asb (.nil (.seq (.sn mx (.mv o (.nei o (.nil (.cb o h (fun _ h=>?_) fun _ h=>?_))))))))))
 ·
  refine .sn mx (.mv o (.ln qD o (.eqi o (.mv o (.mg o o o (.mg o o o (.c (.eqI (.at o o) (.tmp o id) (.tmp o id)) (.pa o o (.asn o (.nil (.ret (.thenRet ?_))))))))))))
  obtain rfl:=za h
  exact zb.rt Tryz.results7 o
 ·
  obtain⟨r1,hv2,h⟩:=bind_some h
  obtain⟨r2,hv3,h⟩:=bind_some h
  refine .skip (.then (.sn mx (.mv o (.eqi o (.mv o (.mg o o o (.mg o o o (.c (.callV _ (.at o o) (.tmp o id) (fun hg=>qf hv2 (hg.2)) .nil) (.c (.callIf (.at o o) zpL (fun hg=>zsD ((fun hg=>qf hv3 (hg.2)) hg)) (.cons (.tmp o id) (.cons (.tmp o id) .nil)) (fun h=>h)) (.pa o o (.asn o (.nil (.ret ?_)))))))))))))
  obtain rfl:=za h
  exact zb.rt Tryz.results7 o
theorem zoU {l1:(List zv)}{r:Int}  (h:zbP l1=some r):zk Tryz.prog 33 [rep l1] (rep r):=by
 unfold zbP at h
 refine zk.i Tryz.func33 o Tryz.ntmps33 o (fun F=>(.sn mx (.asi (.nil (.seq (.sn mx (.mv o (.ln qD o (.c (.gt .none (.s o) .i) (.nil (.cb o h (fun _ h=>?_) fun _ h=>?_)))))))))))
 ·
  refine .sn mx (.asi (.nil (.ret (.thenRet ?_))))
  obtain rfl:=za h
  exact zb.rt Tryz.results33 o
 ·
  refine .skip (.then (.seq (.sn mx (.mv o (.ln qD o (.mvi (.nil ?_)))))))
  obtain⟨o_2,h,hK2⟩:=ym h
  refine .tJ (fun s=>o_2=Res.nx s) Sub.nil zd.nil ?_ (fun j_2 hj2=>?_)
  ·
   refine .block (.rforEL h (fun p3_=>[(13,⟨True,rep p3_.1⟩)]) (fun p3_=>[]) (.k 13 o .nil) zd.nil (.k2 0 11 o o (.k 12 o .nil)) zd.nil (fun p3_ o_3 h hD3=>(.sn mx (.lt o o (.nil (.seq (.cb o h (fun _ h=>?_) fun _ h=>?_)))))))
   ·
    refine .skip (.then (.seq ?_))
    obtain⟨o_5,h,hK5⟩:=yB h
    unfold zdL at h
    refine .tJ (fun s=>o_5=Res.nx s) (.k4 0 11 12 13 o o o o .nil) zd.nil ?_ (fun j_5 hj5=>?_)
    ·
     obtain⟨hn6,h⟩:=zo h
     obtain⟨v1,hv7,h⟩:=zn h
     obtain⟨r1,hv8,h⟩:=bind_some h
     refine .block (.sr [oo,oo,oo,([],[4]),oo,([4],[4])] mx (.mvA o (.ixA qD y9 o o hn6 (.rlA hv7 y9 o (.al QY o (.asnA o (.st y9 o o o (.nil (.freeze (t:=4) o o zd.nil o (.seq (.block (.sn mx (.fa jq jr o (.ld ty9 o (.c (.call .none (zbY hv8) (.cons (.s o) .nil)) (.c (.not .none (.s o)) (.asn o (.nil (.cb o h (fun _ h=>?_) fun _ h=>?_)))))))))))))))))))
     ·
      refine .sn mx (.asi (.nil (.ret (.blkRet (.thenRet (.blkRet (.thenRet (.thenRet (.blkRet (.thenRet ?_))))))))))
      replace h:=yf hK5 (za h)
      replace h:=hD3 _ (za h)
      replace h:=z8 hK2 (za h)
      obtain rfl:=za h
      exact zb.rt Tryz.results33 o
     ·
      obtain⟨hn10,h⟩:=zo h
      refine .sn mx (.mv o (.c (.gt .none (.s o) .i) (.mv o (.fg jq jr o o o (.lg ty9 o o o (.mg o o o (.mg o o o (.c (.subW (.at o o) (.tmp o id) .i) (.c (.indexAddr (.at o o) qD y9 (.tmp o id) (.tmp o id) (fun hg=>hn10 hg.2)) (.c (.fieldAddr (.at o o) jq jr (.tmp o id)) (.lg ty9 o o o (.c (.leStr (.at o o) (.tmp o id) (.tmp o id)) (.pa o o (.asn o (.nil (.cb o h (fun _ h=>?_) fun _ h=>?_))))))))))))))))
      ·
       refine .sn mx (.asi (.nil (.ret (.blkRet (.thenRet (.blkRet (.thenRet (.thenRet (.blkRet (.thenRet ?_))))))))))
       replace h:=yf hK5 (za h)
       replace h:=hD3 _ (za h)
       replace h:=z8 hK2 (za h)
       obtain rfl:=za h
       exact zb.rt Tryz.results33 o
      ·
       refine .sn mx (.fa jK Qg o (.ld vC o (.ln qZ o (.eqi o (.asn o (.nil (.cb o h (fun _ h=>?_) fun _ h=>?_)))))))
       ·
        refine .sn mx (.asi (.nil (.ret (.blkRet (.thenRet (.blkRet (.thenRet (.thenRet (.blkRet (.thenRet ?_))))))))))
        replace h:=yf hK5 (za h)
        replace h:=hD3 _ (za h)
        replace h:=z8 hK2 (za h)
        obtain rfl:=za h
        exact zb.rt Tryz.results33 o
       ·
        refine .sn mx (.fa jK Qg o (.ld vC o (.ln qZ o (.c (.gt .none (.s o) .i) (.asn o (.nil (.cb o h (fun _ h=>?_) fun _ h=>?_)))))))
        ·
         refine .sn mx (.asi (.nil (.ret (.blkRet (.thenRet (.blkRet (.thenRet (.thenRet (.blkRet (.thenRet ?_))))))))))
         replace h:=yf hK5 (za h)
         replace h:=hD3 _ (za h)
         replace h:=z8 hK2 (za h)
         obtain rfl:=za h
         exact zb.rt Tryz.results33 o
        ·
         refine .skip (.blkNormal (.then (.sn mx (.fa jK Qg o (.ld vC o (.ln qZ o (.mvi (.nil (.block (.rforEL h (fun p14_=>[(50,⟨True,rep p14_.1⟩)]) (fun p14_=>[]) (.k 50 o .nil) zd.nil (.k4 0 4 11 12 o o o o (.k2 13 48 o o (.k 49 o .nil))) zd.nil (fun p14_ o_14 h hD14=>(.sn mx (.lt o o (.nil (.seq (.cb o h (fun _ h=>?_) fun _ h=>?_))))))))))))))))
         ·
          refine .skip (.then (.seq ?_))
          obtain⟨o_16,h,hK16⟩:=yB h
          unfold zbQ at h
          refine .tJ (fun s=>o_16=Res.nx s) (.k4 0 4 11 12 o o o o (.k4 13 48 49 50 o o o o .nil)) zd.nil ?_ (fun j_16 hj16=>?_)
          ·
           obtain⟨hn17,h⟩:=zo h
           obtain⟨v2,hv18,h⟩:=zn h
           obtain⟨r2,hv19,h⟩:=bind_some h
           refine .block (.sr [oo,oo,oo,([],[6]),oo,([6],[6])] mx (.mvA o (.ixA qZ q7 o o hn17 (.rlA hv18 q7 o (.al zf2 o (.asnA o (.st q7 o o o (.nil (.freeze (t:=6) o o zd.nil o (.seq (.block (.sn mx (.fa YQ Yl o (.ld ty9 o (.c (.call .none (zbY hv19) (.cons (.s o) .nil)) (.c (.not .none (.s o)) (.asn o (.nil (.cb o h (fun _ h=>?_) fun _ h=>?_)))))))))))))))))))
           ·
            refine .sn mx (.asi (.nil (.ret (.blkRet (.thenRet (.blkRet (.thenRet (.thenRet (.blkRet (.blkRet (.thenRet (.thenRet (.blkRet (.thenRet ?_))))))))))))))
            replace h:=yf hK16 (za h)
            replace h:=hD14 _ (za h)
            replace h:=yf hK5 (za h)
            replace h:=hD3 _ (za h)
            replace h:=z8 hK2 (za h)
            obtain rfl:=za h
            exact zb.rt Tryz.results33 o
           ·
            obtain⟨hn21,h⟩:=zo h
            refine .sn mx (.mv o (.c (.gt .none (.s o) .i) (.mv o (.fg YQ Yl o o o (.lg ty9 o o o (.fg jK Qg o o o (.lg vC o o o (.mg o o o (.c (.subW (.at o o) (.tmp o id) .i) (.c (.indexAddr (.at o o) qZ q7 (.tmp o id) (.tmp o id) (fun hg=>hn21 hg.2)) (.c (.fieldAddr (.at o o) YQ Yl (.tmp o id)) (.lg ty9 o o o (.c (.leStr (.at o o) (.tmp o id) (.tmp o id)) (.pa o o (.asn o (.nil (.cb o h (fun _ h=>?_) fun _ h=>?_)))))))))))))))))
            ·
             refine .sn mx (.asi (.nil (.ret (.blkRet (.thenRet (.blkRet (.thenRet (.thenRet (.blkRet (.blkRet (.thenRet (.thenRet (.blkRet (.thenRet ?_))))))))))))))
             replace h:=yf hK16 (za h)
             replace h:=hD14 _ (za h)
             replace h:=yf hK5 (za h)
             replace h:=hD3 _ (za h)
             replace h:=z8 hK2 (za h)
             obtain rfl:=za h
             exact zb.rt Tryz.results33 o
            ·
             obtain⟨e1,hv23,h⟩:=bind_some h
             refine .skip (.blkNormal (.then (.sn mx (.fa zd8 zcn o (.ld ty9 o (.c (.call .none (zfG hv23) (.cons (.s o) .nil)) (.asn o (.nil (.sn mx (.mv o (.nei o (.nil (.cb o h (fun _ h=>?_) fun _ h=>?_)))))))))))))
             ·
              refine .sn mx (.mv o (.asn o (.nil (.ret (.blkRet (.thenRet (.thenRet (.blkRet (.blkRet (.thenRet (.thenRet (.blkRet (.thenRet ?_)))))))))))))
              replace h:=yf hK16 (za h)
              replace h:=hD14 _ (za h)
              replace h:=yf hK5 (za h)
              replace h:=hD3 _ (za h)
              replace h:=z8 hK2 (za h)
              obtain rfl:=za h
              exact zb.rt Tryz.results33 o
             ·
              exact .skip (.blkNormal (zb.j _ (za h)))
          ·
           have h:=yD hK16 hj16
           exact .rn mx (.adi o (.mv o (.nil (zb.ag (za h)))))
         ·
          refine .exit (.thenExit (.thenExit (.blkExit (.blkNormal ?_))))
          replace h:=hD14 _ (za h)
          exact zb.j _ (za h)
    ·
     have h:=yD hK5 hj5
     exact .rn mx (.adi o (.mv o (.nil (zb.ag (za h)))))
   ·
    refine .exit (.thenExit (.thenExit (.blkExit ?_)))
    replace h:=hD3 _ (za h)
    exact zb.j _ (za h)
  ·
   have h:=yn hK2 hj2
   refine .sn mx (.asi (.nil (.ret ?_)))
   obtain rfl:=za h
   exact zb.rt Tryz.results33 o
theorem zo6 {l1:(List zv)}{r:(GMap Str (GMap Str Str))}  (h:zb3 l1=some r):ya Tryz.prog 34 [rep l1] [] (z7) [some (yd none r)]:=by
 unfold zb3 at h
 obtain⟨t1,hv1,h⟩:=zn h
 refine ya.i Tryz.func34 o Tryz.ntmps34 o (fun F=>(.sn mx (.c (.assign .none (.const (x:=(GMap.nil:(GMap Str (GMap Str Str)))) (fun M w=>⟨_,zhf,rfl⟩))) (.nil (.sr [([],[8]),([8],[3,8])] mx (.cW (.makeMapD (K:=Str) (K2:=Str) (V:=Str) o) (.cW (.passRow o (.tmp o)) (.nil (.reB (t:=3) o (congrArg (yd none) hv1) (.nameC (t:=3) (g:=5001) zeQ o o o (fun s5001=>(.seq (.sn mx (.mv o (.ln qD o (.mvi (.nil ?_)))))))))))))))))
 obtain⟨j_2,h,hK2⟩:=bind_some h
 refine .thenJ (ι:=(GMap Str (GMap Str Str))) (fun j_2=>[]) (fun j_2=>[(5001,some (ze.at s5001 (yd none j_2)))]) (fun s=>j_2=s) (.k 3 o .nil) zd.nil ?_ (fun j_2' hj2=>?_)
 ·
  refine .block (.rforL h (fun p3_=>[(11,⟨True,rep p3_.1⟩)]) (fun p3_=>[(5001,some (ze.at s5001 (yd none p3_.2)))]) (.k 11 o .nil) (.k 5001 o .nil) (.k2 3 9 o o (.k 10 o .nil)) zd.nil (fun p3_ o_3 h hD3=>(.sn mx (.lt o o (.nil (.seq (.cb o h (fun _ h=>?_) fun _ h=>?_)))))))
  ·
   refine .skip (.then (.seq ?_))
   obtain⟨j_5,h,hK5⟩:=bind_some h
   unfold zdS at h
   refine .thenJ (ι:=(GMap Str (GMap Str Str))) (fun j_5=>[]) (fun j_5=>[(5001,some (ze.at s5001 (yd none j_5)))]) (fun s=>j_5=s) (.k4 3 9 10 11 o o o o .nil) zd.nil ?_ (fun j_5' hj5=>?_)
   ·
    obtain⟨hn6,h⟩:=zo h
    obtain⟨v1,hv7,h⟩:=zn h
    obtain⟨t2,hv8,h⟩:=zn h
    refine .block (.sr [oo,oo,([],[5]),([5],[5])] mx (.ixA qD y9 o o hn6 (.rlA hv7 y9 o (.al QY o (.st y9 o o o (.nil (.freeze (t:=5) o o (.k 5001 o .nil) o (.sr [oo,oo,oo,([],[18]),([5001,18],[5001,18])] mx (.mvA o (.faA jq jr o (.ldA ty9 o (.cW (.makeMap (K:=Str) (V:=Str) o) (.cN (.mapPutD (q:=5001) (t:=18) zcv o (.s o) o o o (.s o)) (.nil (.reB (t:=5001) o (congrArg (fun y=>ze.at s5001 (yd none y)) hv8) (.sn mx (.fa jK Qg o (.ld vC o (.ln qZ o (.mvi (.nil (.block (.rforL h (fun p9_=>[(22,⟨True,rep p9_.1⟩)]) (fun p9_=>[(5001,some (ze.at s5001 (yd none p9_.2)))]) (.k 22 o .nil) (.k 5001 o .nil) (.k4 3 5 9 10 o o o o (.k2 11 20 o o (.k 21 o .nil))) zd.nil (fun p9_ o_9 h hD9=>(.sn mx (.lt o o (.nil (.seq (.cb o h (fun _ h=>?_) fun _ h=>?_)))))))))))))))))))))))))))))
    ·
     refine .skip (.then (.seq ?_))
     obtain⟨j_11,h,hK11⟩:=bind_some h
     unfold zdT at h
     refine .thenJ (ι:=(GMap Str (GMap Str Str))) (fun j_11=>[]) (fun j_11=>[(5001,some (ze.at s5001 (yd none j_11)))]) (fun s=>j_11=s) (.k4 3 5 9 10 o o o o (.k4 11 20 21 22 o o o o .nil)) zd.nil ?_ (fun j_11' hj11=>?_)
     ·
      obtain⟨hn12,h⟩:=zo h
      obtain⟨v2,hv13,h⟩:=zn h
      obtain⟨hn14,h⟩:=zo h
      exact .block (.sr [oo,oo,([],[7]),([7],[7])] mx (.ixA qZ q7 o o hn12 (.rlA hv13 q7 o (.al zf2 o (.st q7 o o o (.nil (.freeze (t:=7) o o (.k 5001 o .nil) o (.openM (q:=5001) (r:=5002) (k:=v1.Id) o o hn14 (fun s5002=>(.rg [oo,oo,oo,([5001],[]),oo,oo,oo,oo,([5002],[5002])] mx (.mvA o (.faA jq jr o (.ldA ty9 o (.cA (.lookPin (q:=5001) (z:=s5002) .none zcv zf3 (.s o) o (.s o)) (.faA YQ Yl o (.ldA ty9 o (.faA zd8 zcn o (.ldA ty9 o (.cN (.mapUpdate (q:=5002) yF (.s o) o (.s o) (.s o)) (.nil (.blkNormal (.closeM (q:=5001) (r:=5002) o o o (zb.j _ (za h))))))))))))))))))))))))
     ·
      subst hj11;have h:=hK11;clear hK11
      exact .rn mx (.adi o (.mv o (.nil (zb.ag (za h)))))
    ·
     refine .exit (.thenExit (.thenExit (.blkExit (.blkNormal ?_))))
     replace h:=hD9 _ (za h)
     exact zb.j _ (za h)
   ·
    subst hj5;have h:=hK5;clear hK5
    exact .rn mx (.adi o (.mv o (.nil (zb.ag (za h)))))
  ·
   refine .exit (.thenExit (.thenExit (.blkExit ?_)))
   replace h:=hD3 _ (za h)
   exact zb.j _ (za h)
 ·
  subst hj2;have h:=hK2;clear hK2
  refine .sn mx (.mv o (.asn o (.nil (.ret (.anon (t:=2) (g:=5001) o o trivial o ?_)))))
  obtain rfl:=za h
  exact zb.ret1O (.inl o) [2] Tryz.results34 (by decide) (.res o o) (yb.tmp o trivial (fun _ _ _ _=>trivial))
theorem zt9 {s1:Str}{prefix1:Str}{r:Bool}  (h:zfW s1 prefix1=some r):zk Tryz.prog 197 [rep s1,rep prefix1] (rep r):=by
 unfold zfW at h
 obtain⟨hn1,h⟩:=zo h
 refine zk.i Tryz.func197 o Tryz.ntmps197 o (fun F=>(.sn mx (.asb (.nil (.sn mx (.mv o (.c (.lenStr .none Tryz.underlying9 (.s o)) (.mv o (.c (.lenStr .none Tryz.underlying9 (.s o)) (.c (.ge .none (.s o) (.s o)) (.mv o (.mg o o o (.mg o o o (.c (.lenStr (.at o o) Tryz.underlying9 (.tmp o id)) (.c (.sliceStr (.at o o) Tryz.underlying9 (.tmp o id) o (.tmp o id) (fun hg=>hn1 hg.2)) (.mg o o o (.c (.eqS (.at o o) (yy Tryz.underlying9) (.tmp o id) (.tmp o id)) (.pa o o (.asn o (.nil (.ret ?_)))))))))))))))))))))
 obtain rfl:=za h
 exact zb.rt Tryz.results197 o
theorem zua {s1:Str}{prefix1:Str}{r:Str}  (h:zfX s1 prefix1=some r):zk Tryz.prog 145 [rep s1,rep prefix1] (rep r):=by
 unfold zfX at h
 obtain⟨r1,hv1,h⟩:=bind_some h
 refine zk.i Tryz.func145 o Tryz.ntmps145 o (fun F=>(.sn mx (.c (.assign .none (.str (l:=[]) (by decide))) (.nil (.seq (.sn mx (.mv o (.mv o (.c (.call .none (zt9 hv1) (.cons (.s o) (.cons (.s o) .nil))) (.nil (.cb o h (fun _ h=>?_) fun _ h=>?_)))))))))))
 ·
  obtain⟨hn3,h⟩:=zo h
  refine .sn mx (.mv o (.mv o (.c (.lenStr .none Tryz.underlying9 (.s o)) (.c (.sliceStr .none Tryz.underlying9 (.s o) (.s o) o (fun _=>hn3)) (.asn o (.nil (.ret (.thenRet ?_))))))))
  obtain rfl:=za h
  exact zb.rt Tryz.results145 o
 ·
  refine .skip (.then (.sn mx (.mv o (.asn o (.nil (.ret ?_))))))
  obtain rfl:=za h
  exact zb.rt Tryz.results145 o
theorem zmY {s1:Str}{prefix1:Str}{r:Str}  (h:zbC s1 prefix1=some r):zk Tryz.prog 101 [rep s1,rep prefix1] (rep r):=by
 unfold zbC at h
 obtain⟨r1,hv1,h⟩:=bind_some h
 refine zk.i Tryz.func101 o Tryz.ntmps101 o (fun F=>(.sn mx (.c (.assign .none (.str (l:=[]) (by decide))) (.nil (.sn mx (.mv o (.mv o (.c (.call .none (zua hv1) (.cons (.s o) (.cons (.s o) .nil))) (.asn o (.nil (.ret ?_)))))))))))
 obtain rfl:=za h
 exact zb.rt Tryz.results101 o
theorem zgx {s1:Str}{r:(Int×Bool)}  (h:Qd s1=some r):zk Tryz.prog 92 [rep s1] (tup [rep r.1,rep r.2]):=by
 unfold Qd at h
 obtain⟨digits1,hv1,h⟩:=bind_some h
 obtain⟨r1,hv2,h⟩:=bind_some h
 obtain⟨r2,hv3,h⟩:=bind_some h
 refine zk.i Tryz.func92 o Tryz.ntmps92 o (fun F=>(.sn mx (.asi (.asb (.nil (.sn mx (.mv o (.c (.call .none (zmY hv1) (.cons (.s o) (.cons (.str (l:=[45]) (by decide)) .nil))) (.asn o (.nil (.sn mx (.mv o (.c (.call .none (strconv_Atoi_ok hv2) (.cons (.s o) .nil)) (.mv o (.ex o o (.ex o o (.asn o (.asn o (.nil (.sn mx (.mv o (.mv o (.c (.eqErr .none Tryz.underlying163 (.s o)) (.mv o (.mg o o o (.c (.lenStr (.at o o) Tryz.underlying9 (.tmp o id)) (.c (.le (.at o o) (.tmp o id) .i) (.pa o o (.mv o (.mg o o o (.c (.callIf (.at o o) zgT (fun hg=>QV ((fun hg=>qf hv3 (hg.2)) hg)) (.cons (.tmp o id) .nil) (fun h=>h)) (.mg o o o (.c (.eqS (.at o o) (yy Tryz.underlying9) (.tmp o id) (.tmp o id)) (.pa o o (.asn o (.asn o (.nil (.ret ?_))))))))))))))))))))))))))))))))))))))
 obtain rfl:=za h
 exact zb.ret2 (.inl o) Tryz.results92 (yb.tmp o trivial Imp.refl) (yb.tmp o trivial Imp.refl)
theorem zdj {s1:(List Str)}{v1:Str}{r:Int}  (h:jB s1 v1=some r):zk Tryz.prog 94 [rep s1,rep v1] (rep r):=by
 unfold jB at h
 refine zk.i Tryz.func94 o Tryz.ntmps94 o (fun F=>(.sn mx (.asi (.nil (.seq (.sn mx (.mv o (.ln yO o (.mvi (.nil ?_))))))))))
 obtain⟨o_1,h,hK1⟩:=ym h
 refine .tJ (fun s=>o_1=Res.nx s) Sub.nil zd.nil ?_ (fun j_1 hj1=>?_)
 ·
  refine .block (.rforEL h (fun p2_=>[(8,⟨True,rep p2_.1⟩)]) (fun p2_=>[]) (.k 8 o .nil) zd.nil (.k2 0 1 o o (.k 7 o .nil)) zd.nil (fun p2_ o_2 h hD2=>(.sn mx (.lt o o (.nil (.seq (.cb o h (fun _ h=>?_) fun _ h=>?_)))))))
  ·
   refine .skip (.then (.seq ?_))
   obtain⟨o_4,h,hK4⟩:=yB h
   unfold zbx at h
   refine .tJ (fun s=>o_4=Res.nx s) (.k4 0 1 7 8 o o o o .nil) zd.nil ?_ (fun j_4 hj4=>?_)
   ·
    obtain⟨hn5,h⟩:=zo h
    refine .block (.sn mx (.mv o (.asn o (.nil (.sn mx (.mv o (.mv o (.mv o (.ix yO ty9 o o hn5 (.ld ty9 o (.c (.eqS .none (yy Tryz.underlying9) (.s o) (.s o)) (.nil (.cb o h (fun _ h=>?_) fun _ h=>?_)))))))))))))
    ·
     refine .sn mx (.mv o (.asn o (.nil (.ret (.blkRet (.thenRet (.thenRet (.blkRet (.thenRet ?_)))))))))
     replace h:=yf hK4 (za h)
     replace h:=hD2 _ (za h)
     replace h:=z8 hK1 (za h)
     obtain rfl:=za h
     exact zb.rt Tryz.results94 o
    ·
     exact .skip (.blkNormal (zb.j _ (za h)))
   ·
    have h:=yD hK4 hj4
    exact .rn mx (.adi o (.mv o (.nil (zb.ag (za h)))))
  ·
   refine .exit (.thenExit (.thenExit (.blkExit ?_)))
   replace h:=hD2 _ (za h)
   exact zb.j _ (za h)
 ·
  have h:=yn hK1 hj1
  refine .sn mx (.asi (.nil (.ret ?_)))
  obtain rfl:=za h
  exact zb.rt Tryz.results94 o
theorem zjb {w1:(List Str)}{r:(zO×Bool)}  (h:JA w1=some r):zk Tryz.prog 135 [rep w1] (tup [rep r.1,rep r.2]):=by
 unfold JA at h
 obtain⟨x1,hv1,h⟩:=zn h
 obtain⟨hn2,h⟩:=zo h
 obtain⟨hn3,h⟩:=zo h
 refine zk.i Tryz.func135 o Tryz.ntmps135 o (fun F=>(.sr [([],[2]),oo] mx (.al zf0 o (.cA (.assign .none .bool) (.nil (.reB (t:=2) o (congrArg (zM 56) hv1) (.nameBox (t:=2) (g:=5001) o o (fun m5001=>(.seq (.sn mx (.mv o (.ln yO o (.nei o (.mv o (.mg o o o (.c (.indexAddr (.at o o) yO ty9 (.tmp o id) .i (fun hg=>hn2 hg.2)) (.lg ty9 o o o (.c (.eqS (.at o o) (yy Tryz.underlying9) (.tmp o id) (.str (l:=[]) (by decide))) (.po o o (.mv o (.mg o o o (.c (.indexAddr (.at o o) yO ty9 (.tmp o id) .i (fun hg=>hn3 hg.2)) (.lg ty9 o o o (.c (.eqS (.at o o) (yy Tryz.underlying9) (.tmp o id) (.str (l:=[]) (by decide))) (.po o o (.nil (.cb o h (fun _ h=>?_) fun _ h=>?_)))))))))))))))))))))))))))
 ·
  refine .sr [([5001],[]),([5001],[5001]),oo] mx (.cA (.loadAt0 (k:=5001) .none yV o (.s o)) (.s0 5001 yV o o o (.cA (.assign .none .bool) (.nil (.fb 5001 [2] o (.cons (t:=2) o trivial .nil) (.ret (.thenRet ?_)))))))
  obtain rfl:=za h
  exact zb.r2 Tryz.results135 yV o o
 ·
  obtain⟨hn5,h⟩:=zo h
  obtain⟨v1,hv6,h⟩:=zn h
  obtain⟨r1,hv7,h⟩:=bind_some h
  obtain⟨hn8,h⟩:=zo h
  obtain⟨r2,hv9,h⟩:=bind_some h
  obtain⟨x2,hv10,h⟩:=zn h
  obtain⟨hn11,h⟩:=zo h
  obtain⟨r3,hv12,h⟩:=bind_some h
  obtain⟨x3,hv13,h⟩:=zn h
  refine .skip (.then (.sr [oo,oo,oo,oo,oo,oo,oo,oo,oo,([5001],[5001]),oo,([5001],[5001])] mx (.mvA o (.cA (.indexAddr .none yO ty9 (.s o) .i (fun _=>hn5)) (.rlA hv6 ty9 o (.cA (.call .none (zjd hv7) .nil) (.mvA o (.cA (.indexAddr .none yO ty9 (.s o) .i (fun _=>hn8)) (.ldA ty9 o (.cA (.call .none (zdj hv9) (.cons (.s o) (.cons (.s o) .nil))) (.cA (.fieldPtr .none zb8 (.s o)) (.cN (.storeAt (g:=5001) ty9 o (.s o) zmv (.s o)) (.cA (.fieldPtr .none JF (.s o)) (.cN (.storeAt (g:=5001) ty3 o (.s o) zmw (.s o)) (.nil (.reB (t:=5001) o (congrArg (fun y=>qb m5001 56 y) hv10) (.sr [oo,oo,oo,oo,oo,oo,oo,oo,([5001],[5001]),oo] mx (.mvA o (.cA (.indexAddr .none yO ty9 (.s o) .i (fun _=>hn11)) (.ldA ty9 o (.cA (.call .none (zgx hv12) (.cons (.s o) .nil)) (.mvA o (.exA o o (.exA o o (.cA (.fieldPtr .none zaG (.s o)) (.cN (.storeAt (g:=5001) ty3 o (.s o) zmx (.s o)) (.asnA o (.nil (.reB (t:=5001) o (congrArg (fun y=>qb m5001 56 y) hv13) (.sr [([5001],[]),oo,oo,oo,([5001],[]),oo,oo,([5001],[5001]),oo] mx (.cA (.loadAt0 (k:=5001) .none yV o (.s o)) (.mvA o (.mvA o (.cA (.fieldPtr (.at o o) JF (.s o)) (.cA (.loadAt (k:=5001) (.at o o) ty3 o (.tmp o id) JM) (.cA (.gt (.at o o) (.tmp o id) .i) (.cA (.pickAnd .none (.s o) (.tmp o id)) (.s0 5001 yV o o o (.asnA o (.nil (.fb 5001 [2] o (.cons (t:=2) o trivial .nil) (.ret ?_))))))))))))))))))))))))))))))))))))))))))
  obtain rfl:=za h
  exact zb.r2 Tryz.results135 yV o o
theorem zjc {w1:(List Str)}{r:((List Int)×Bool)}  (h:zaC w1=some r):zk Tryz.prog 136 [rep w1] (tup [rep r.1,rep r.2]):=by
 unfold zaC at h
 refine zk.i Tryz.func136 o Tryz.ntmps136 o (fun F=>(.sn mx (.c (.assign .none (.const (x:=([]:(List Int))) (fun M w=>⟨_,⟨none,0,rfl,Nat.le_refl _,by decide,rfl⟩,rfl⟩))) (.asb (.nil (.sr [([],[4])] mx (.cW (.nilRow (T:=3) (α:=Int) o) (.nil (.nameRow (t:=4) (g:=5001) o o o (fun s5001=>(.seq (.sn mx (.mv o (.ln yO o (.mvi (.nil ?_))))))))))))))))
 obtain⟨o_1,h,hK1⟩:=ym h
 refine .thenJ (ι:=(List Int)) (fun j_1=>[]) (fun j_1=>[(4,some (zq 3 j_1))]) (fun s=>o_1=Res.nx s) Sub.nil zd.nil ?_ (fun j_1 hj1=>?_)
 ·
  refine .block (.anon (t:=4) (g:=5001) o o trivial o (.rforEL h (fun p2_=>[(11,⟨True,rep p2_.1⟩)]) (fun p2_=>[(4,some (zq 3 p2_.2))]) (.k 11 o .nil) (.k 4 o .nil) (.k2 9 10 o o .nil) zd.nil (fun p2_ o_2 h hD2=>(.nameRow (t:=4) (g:=5002) o o o (fun s5002=>(.sn mx (.lt o o (.nil (.seq (.cb o h (fun _ h=>?_) fun _ h=>?_))))))))))
  ·
   refine .skip (.then (.seq ?_))
   obtain⟨o_4,h,hK4⟩:=yB h
   unfold zdP at h
   refine .thenJ (ι:=(List Int)) (fun j_4=>[]) (fun j_4=>[(4,some (zq 3 j_4))]) (fun s=>o_4=Res.nx s) (.k2 9 10 o o (.k 11 o .nil)) zd.nil ?_ (fun j_4 hj4=>?_)
   ·
    obtain⟨hn5,h⟩:=zo h
    obtain⟨r1,hv6,h⟩:=bind_some h
    refine .block (.sn mx (.ix yO ty9 o o hn5 (.ld ty9 o (.asn o (.nil (.sn mx (.mv o (.c (.call .none (zgx hv6) (.cons (.s o) .nil)) (.mv o (.ex o o (.ex o o (.asn o (.asn o (.nil (.seq (.sn mx (.mv o (.c (.not .none (.s o)) (.nil (.cb o h (fun _ h=>?_) fun _ h=>?_))))))))))))))))))))
    ·
     refine .sn mx (.c (.assign .none (.const (x:=([]:(List Int))) (fun M w=>⟨_,⟨none,0,rfl,Nat.le_refl _,by decide,rfl⟩,rfl⟩))) (.asb (.nil (.ret (.thenRet (.blkRet (.thenRet (.thenRet (.blkRet (.thenRet ?_))))))))))
     replace h:=yf hK4 (za h)
     replace h:=hD2 _ (za h)
     replace h:=z8 hK1 (za h)
     obtain rfl:=za h
     exact zb.ret2 (.inl o) Tryz.results136 (yb.tmp o trivial Imp.refl) (yb.tmp o trivial Imp.refl)
    ·
     obtain⟨hn8,h⟩:=zo h
     exact .skip (.then (.rg [oo,oo,oo,([5002],[25,5002]),([25],[4,25])] mx (.mvA o (.mvA o (.cA (.buildSlice (xs:=[_]) .none yI ty3 hz3 (.cons (.s o) .nil) o (by decide)) (.cW (.append (k:=5002) zc9 o (.told (.s o) o) (.s o) hn8) (.consWD (.passRow o (.tmp o)) o o (.nil (.blkNormal (zb.j _ (za h)))))))))))
   ·
    have h:=yD hK4 hj4
    exact .nameRow (t:=4) (g:=5003) o o o (fun s5003=>(.rn mx (.adi o (.mv o (.nil (.anon (t:=4) (g:=5003) o o trivial o (zb.ag (za h))))))))
  ·
   refine .exit (.thenExit (.thenExit (.blkExit (.anon (t:=4) (g:=5002) o o trivial o ?_))))
   replace h:=hD2 _ (za h)
   exact zb.j _ (za h)
 ·
  have h:=yn hK1 hj1
  refine .freezeRowA (t:=4) o o zd.nil o (.sn mx (.mv o (.asn o (.asb (.nil (.ret ?_))))))
  obtain rfl:=za h
  exact zb.ret2 (.inl o) Tryz.results136 (yb.tmp o trivial Imp.refl) (yb.tmp o trivial Imp.refl)
theorem zoX {l1:(List Int)}{r:((List zz)×Bool)}  (h:zbU l1=some r):zk Tryz.prog 137 [rep l1] (tup [rep r.1,rep r.2]):=by
 unfold zbU at h
 refine zk.i Tryz.func137 o Tryz.ntmps137 o (fun F=>(.sn mx (.c (.assign .none (.const (x:=([]:(List zz))) (fun M w=>⟨_,⟨none,0,rfl,Nat.le_refl _,by decide,rfl⟩,rfl⟩))) (.asb (.nil (.seq (.sn mx (.mv o (.ln yI o (.c (.rem .none (.s o) .i (fun _=>by decide)) (.eqi o (.mv o (.mg o o o (.c (.len (.at o o) yI (.tmp o id)) (.c (.eqI (.at o o) (.tmp o id) .i) (.po o o (.nil (.cb o h (fun _ h=>?_) fun _ h=>?_))))))))))))))))))
 ·
  refine .sn mx (.c (.assign .none (.const (x:=([]:(List zz))) (fun M w=>⟨_,⟨none,0,rfl,Nat.le_refl _,by decide,rfl⟩,rfl⟩))) (.asb (.nil (.ret (.thenRet ?_)))))
  obtain rfl:=za h
  exact zb.ret2 (.inl o) Tryz.results137 (yb.tmp o trivial Imp.refl) (yb.tmp o trivial Imp.refl)
 ·
  refine .skip (.then (.sr [([],[4])] mx (.cW (.nilRow (T:=72) (α:=zz) o) (.nil (.nameRow (t:=4) (g:=5001) o o o (fun s5001=>(.seq (.sn mx (.asi (.nil ?_))))))))))
  obtain⟨j_2,h,hK2⟩:=bind_some h
  refine .thenJ (ι:=(List zz)) (fun j_2=>[]) (fun j_2=>[(4,some (zq 72 j_2))]) (fun s=>j_2=s) Sub.nil zd.nil ?_ (fun j_2' hj2=>?_)
  ·
   refine .block (.anon (t:=4) (g:=5001) o o trivial o (.loopL h (fun s3_=>[(5,⟨True,rep s3_.2⟩)]) (fun s3_=>[(4,some (zq 72 s3_.1))]) (.k 5 o .nil) (.k 4 o .nil) (.k 0 o .nil) zd.nil (fun s3_ o_3 h hD3=>?_)))
   unfold zaB at h
   refine .nameRow (t:=4) (g:=5002) o o o (fun s5002=>(.seq (.sn mx (.mv o (.mv o (.ln yI o (.lt o o (.nil (.cb o h (fun _ h=>?_) fun _ h=>?_)))))))))
   ·
    obtain⟨hn5,h⟩:=zo h
    obtain⟨hn6,h⟩:=zo h
    obtain⟨hn7,h⟩:=zo h
    obtain⟨out1,hv8,h⟩:=zn h
    obtain⟨i1,hv9,h⟩:=zn h
    exact .skip (.then (.seq (.block (.rg [oo,oo,oo,oo,oo,oo,oo,oo,oo,oo,oo,oo,([5002],[33,5002]),([33],[4,33])] mx (.mvA o (.mvA o (.mvA o (.ixA yI ty3 o o hn5 (.ldA ty3 o (.mvA o (.mvA o (.cA (.addW .none (.s o) .i) (.ixA yI ty3 o o hn6 (.ldA ty3 o (.cA (.buildF (y:=(⟨gx l1 s3_.2,gx l1 (W (s3_.2+1))⟩:zz)) .none zgi zh6 o (.cons (.s o) (.cons (.s o) .nil)) (.cons o zhJ (.cons o zhK .nil))) (.cA (.buildSlice (xs:=[_]) .none ji jk zkh (.cons (.s o) .nil) o (by decide)) (.cW (.append (k:=5002) zl8 o (.told (.s o) o) (.s o) hn7) (.consWD (.passRow o (.tmp o)) o o (.nil (.blkNormal (.then (.reB (t:=4) o (congrArg (zq 72) hv8) (.nameRow (t:=4) (g:=5003) o o o (fun s5003=>(.rn mx (.mv o (.adi o (.ra hv9 o (.nil (.anon (t:=4) (g:=5003) o o trivial o (zb.ag (za h))))))))))))))))))))))))))))))))
   ·
    refine .exit (.thenExit (.thenExit (.blkExit (.anon (t:=4) (g:=5002) o o trivial o ?_))))
    replace h:=hD3 _ (za h)
    exact zb.j _ (za h)
  ·
   subst hj2;have h:=hK2;clear hK2
   refine .freezeRowA (t:=4) o o zd.nil o (.sn mx (.mv o (.asn o (.asb (.nil (.ret ?_))))))
   obtain rfl:=za h
   exact zb.ret2 (.inl o) Tryz.results137 (yb.tmp o trivial Imp.refl) (yb.tmp o trivial Imp.refl)
theorem zmH {s1:(List Str)}{v1:Str}{r:Bool}  (h:zbv s1 v1=some r):zk Tryz.prog 187 [rep s1,rep v1] (rep r):=by
 unfold zbv at h
 obtain⟨r1,hv1,h⟩:=bind_some h
 refine zk.i Tryz.func187 o Tryz.ntmps187 o (fun F=>(.sn mx (.asb (.nil (.sn mx (.mv o (.mv o (.c (.call .none (zdj hv1) (.cons (.s o) (.cons (.s o) .nil))) (.c (.ge .none (.s o) .i) (.asn o (.nil (.ret ?_))))))))))))
 obtain rfl:=za h
 exact zb.rt Tryz.results187 o
theorem zje {f1:(GMap Str Str)}{needed1:(List Str)}{others1:(List Str)}{r:Bool}  (h:YL f1 needed1 others1=some r):zk Tryz.prog 138 [rep f1,rep needed1,rep others1] (rep r):=by
 unfold YL at h
 refine zk.i Tryz.func138 o Tryz.ntmps138 o (fun F=>(.sn mx (.asb (.nil (.seq (.sn mx (.mv o (.ln yO o (.mvi (.nil ?_))))))))))
 obtain⟨o_1,h,hK1⟩:=ym h
 refine .tJ (fun s=>o_1=Res.nx s) (.k2 0 1 o o (.k 2 o .nil)) zd.nil ?_ (fun j_1 hj1=>?_)
 ·
  refine .block (.rforEL h (fun p2_=>[(18,⟨True,rep p2_.1⟩)]) (fun p2_=>[]) (.k 18 o .nil) zd.nil (.k4 0 1 2 16 o o o o (.k 17 o .nil)) zd.nil (fun p2_ o_2 h hD2=>(.sn mx (.lt o o (.nil (.seq (.cb o h (fun _ h=>?_) fun _ h=>?_)))))))
  ·
   refine .skip (.then (.seq ?_))
   obtain⟨o_4,h,hK4⟩:=yB h
   unfold zgy at h
   refine .tJ (fun s=>o_4=Res.nx s) (.k4 0 1 2 16 o o o o (.k2 17 18 o o .nil)) zd.nil ?_ (fun j_4 hj4=>?_)
   ·
    obtain⟨hn5,h⟩:=zo h
    refine .block (.sn mx (.ix yO ty9 o o hn5 (.ld ty9 o (.asn o (.nil (.sn mx (.mv o (.mv o (.c (.lookupOk .none yF zo9 (.s o) (.s o)) (.mv o (.ex o o (.ex o o (.asn o (.asn o (.nil (.sn mx (.mv o (.c (.not .none (.s o)) (.nil (.cb o h (fun _ h=>?_) fun _ h=>?_))))))))))))))))))))
    ·
     refine .sn mx (.asb (.nil (.ret (.blkRet (.thenRet (.thenRet (.blkRet (.thenRet ?_))))))))
     replace h:=yf hK4 (za h)
     replace h:=hD2 _ (za h)
     replace h:=z8 hK1 (za h)
     obtain rfl:=za h
     exact zb.rt Tryz.results138 o
    ·
     exact .skip (.blkNormal (zb.j _ (za h)))
   ·
    have h:=yD hK4 hj4
    exact .rn mx (.adi o (.mv o (.nil (zb.ag (za h)))))
  ·
   refine .exit (.thenExit (.thenExit (.blkExit ?_)))
   replace h:=hD2 _ (za h)
   exact zb.j _ (za h)
 ·
  have h:=yn hK1 hj1
  refine .seq (.sr [oo,([],[32])] mx (.mvA o (.cW (.rangeMap Tryz.underlying53 o (.s o)) (.nil (.nameAt (t:=32) (g:=5001) o o zcp o (fun m5001=>?_))))))
  obtain⟨o_7,h,hK7⟩:=ym h
  refine .tJ (fun s=>o_7=Res.nx s) (.k2 0 32 o o .nil) zd.nil ?_ (fun j_7 hj7=>?_)
  ·
   refine .block (.listsF (q:=5001) o (fun hf8=>(.mrangeEL h hf8 (fun p8_=>[]) (fun p8_=>[(5001,some (ze.at (ptr m5001 0) (vv f1 p8_.1)))]) Sub.nil (.k 5001 o .nil) (.k4 0 1 2 32 o o o o .nil) zd.nil (fun p8_ H8=>(.sr [([5001],[33,5001]),([33],[34,33])] mx (.cW (.nextF (k:=5001) o o (.s o)) (.cW (.nextedOk (d:=33) o o) (.nil (.openNext (t:=34) (k:=5001) o o o (fun o8_ ho8=>?_))))))))))
   obtain⟨out8_,h,hD8⟩:=H8 o8_ ho8
   refine .againM (fun s' hs'=>⟨o8_,ho8,h.trans (congrArg some hs')⟩) (.seq ?_)
   cases o8_ with
   | some x8_=>
    replace h:=zrE h
    refine .condT (t:=34) o trivial o (.skip (.then ?_))
    obtain⟨o_9,h,hK9⟩:=yB h
    unfold zgz at h
    refine .tailJ (ι:=Unit) (fun j_9=>[]) (fun j_9=>[]) (fun s=>o_9=Res.nx s) (.k4 0 1 2 32 o o o o .nil) (.k 5001 o .nil) ?_ (fun j_9 hj9=>?_)
    ·
     obtain⟨r1,hv10,h⟩:=bind_some h
     obtain⟨r2,hv11,h⟩:=bind_some h
     refine .block (.sr [([5001],[]),oo,oo] mx (.cA (.entryF (k:=5001) (p:=p8_.1) (y:=x8_) o (.s o)) (.exA o o (.asnA o (.nil (.sn mx (.mv o (.mv o (.c (.call .none (zmH hv10) (.cons (.s o) (.cons (.s o) .nil))) (.c (.not .none (.s o)) (.mv o (.mg o o o (.mg o o o (.c (.callIf (.at o o) zpJ (fun hg=>zmH ((fun hg=>qf hv11 (hg.2)) hg)) (.cons (.tmp o id) (.cons (.tmp o id) .nil)) (fun h=>h)) (.c (.not (.at o o) (.tmp o id)) (.pa o o (.nil (.cb o h (fun _ h=>?_) fun _ h=>?_))))))))))))))))))
     ·
      refine .sn mx (.asb (.nil (.ret (.blkRet (.thenRet (.thenRet (.blkRet (.thenRet ?_))))))))
      replace h:=yf hK9 (za h)
      replace h:=hD8 _ (za h)
      replace h:=z8 hK7 (za h)
      obtain rfl:=za h
      exact zb.rt Tryz.results138 o
     ·
      exact .skip (.blkNormal (zb.j _ (za h)))
    ·
     have h:=yD hK9 hj9
     exact zb.ag (za h)
   | none=>
    replace h:=zrD h
    refine .condF (t:=34) o trivial o (.exit (.thenExit (.thenExit (.blkExit ?_))))
    replace h:=hD8 _ (za h)
    exact zb.j _ (za h)
  ·
   have h:=yn hK7 hj7
   obtain⟨v1,hv13,h⟩:=zn h
   refine .seq (.sn mx (.c (.re hv13 (.buildSlice (xs:=[_,_,_]) .none yO ty9 hz9 (.cons (.str (l:=[116,101,120,116]) (by decide)) (.cons (.str (l:=[99,108,97,115,115]) (by decide)) (.cons (.str (l:=[112,97,114,101,110,116]) (by decide)) .nil))) o (by decide))) (.ln yO o (.mvi (.nil ?_)))))
   obtain⟨o_14,h,hK14⟩:=ym h
   refine .tJ (fun s=>o_14=Res.nx s) Sub.nil zd.nil ?_ (fun j_14 hj14=>?_)
   ·
    refine .block (.rforEL h (fun p15_=>[(49,⟨True,rep p15_.1⟩)]) (fun p15_=>[]) (.k 49 o .nil) zd.nil (.k2 0 47 o o (.k 48 o .nil)) zd.nil (fun p15_ o_15 h hD15=>(.sn mx (.lt o o (.nil (.seq (.cb o h (fun _ h=>?_) fun _ h=>?_)))))))
    ·
     refine .skip (.then (.seq ?_))
     obtain⟨o_17,h,hK17⟩:=yB h
     unfold zgA at h
     refine .tJ (fun s=>o_17=Res.nx s) (.k4 0 47 48 49 o o o o .nil) zd.nil ?_ (fun j_17 hj17=>?_)
     ·
      obtain⟨hn18,h⟩:=zo h
      refine .block (.sn mx (.ix yO ty9 o o hn18 (.ld ty9 o (.asn o (.nil (.sn mx (.mv o (.mv o (.c (.lookupOk .none yF zo9 (.s o) (.s o)) (.mv o (.ex o o (.ex o o (.asn o (.asn o (.nil (.sn mx (.mv o (.mv o (.mg o o o (.c (.eqS (.at o o) (yy Tryz.underlying9) (.tmp o id) (.str (l:=[]) (by decide))) (.pa o o (.nil (.cb o h (fun _ h=>?_) fun _ h=>?_)))))))))))))))))))))))
      ·
       refine .sn mx (.asb (.nil (.ret (.blkRet (.thenRet (.thenRet (.blkRet (.thenRet ?_))))))))
       replace h:=yf hK17 (za h)
       replace h:=hD15 _ (za h)
       replace h:=z8 hK14 (za h)
       obtain rfl:=za h
       exact zb.rt Tryz.results138 o
      ·
       exact .skip (.blkNormal (zb.j _ (za h)))
     ·
      have h:=yD hK17 hj17
      exact .rn mx (.adi o (.mv o (.nil (zb.ag (za h)))))
    ·
     refine .exit (.thenExit (.thenExit (.blkExit ?_)))
     replace h:=hD15 _ (za h)
     exact zb.j _ (za h)
   ·
    have h:=yn hK14 hj14
    refine .sn mx (.asb (.nil (.ret ?_)))
    obtain rfl:=za h
    exact zb.rt Tryz.results138 o
theorem zo1 {x1:zu}{f1:(GMap Str Str)}{r:(Bool×zu)}{m65:Nat}(h:zb1 x1 f1=some r):ya Tryz.prog 93 [isV (ptr m65 0),rep f1] [(ptr m65 0,zM 59 x1)] (rep r.1) [some (zM 59 r.2)]:=by
 unfold zb1 at h
 obtain⟨r1,hv1,h⟩:=bind_some h
 obtain⟨r2,hv2,h⟩:=bind_some h
 obtain⟨x2,hv3,h⟩:=zn h
 obtain⟨r3,hv4,h⟩:=bind_some h
 obtain⟨r4,hv5,h⟩:=bind_some h
 obtain⟨x3,hv6,h⟩:=zn h
 refine ya.i Tryz.func93 o Tryz.ntmps93 o (fun F=>(.sn mx (.asb (.nil (.sn mx (.asb (.asb (.nil (.sr [oo,oo,oo,oo,oo,oo,oo,oo,oo,oo,([65],[65]),oo] mx (.mvA o (.mvA o (.cA (.lookup .none yF zo9 (.s o) (.str (l:=[102,114,111,109]) (by decide))) (.cA (.call .none (zbB hv1).frz (.cons (.s o) (.cons (.str (l:=[32]) (by decide)) .nil))) (.cA (.call .none (zjb hv2) (.cons (.s o) .nil)) (.mvA o (.exA o o (.exA o o (.cA (.nilCheckP .none (.s o)) (.cA (.fieldPtr .none YN (.s o)) (.cN (.storeAt (g:=65) yV o (.s o) zmz (.s o)) (.asnA o (.nil (.reB (t:=65) o (congrArg (fun y=>qb m65 59 y) hv3) (.sr [oo,oo,oo,oo,oo,oo,oo,oo,oo,oo,([65],[65]),oo] mx (.mvA o (.mvA o (.cA (.lookup .none yF zo9 (.s o) (.str (l:=[116,111]) (by decide))) (.cA (.call .none (zbB hv4).frz (.cons (.s o) (.cons (.str (l:=[32]) (by decide)) .nil))) (.cA (.call .none (zjb hv5) (.cons (.s o) .nil)) (.mvA o (.exA o o (.exA o o (.cA (.nilCheckP .none (.s o)) (.cA (.fieldPtr .none YO (.s o)) (.cN (.storeAt (g:=65) yV o (.s o) zmA (.s o)) (.asnA o (.nil (.reB (t:=65) o (congrArg (fun y=>qb m65 59 y) hv6) (.seq (.sn mx (.mv o (.c (.lookupOk .none yF zo9 (.s o) (.str (l:=[98,101,110,100,115]) (by decide))) (.mv o (.ex o o (.ex o o (.asn o (.asn o (.nil (.sn mx (.mv o (.nil ?_)))))))))))))))))))))))))))))))))))))))))))))))))))
 obtain⟨o_7,h,hK7⟩:=ym h
 refine .thenJ (ι:=zu) (fun j_7=>[]) (fun j_7=>[(65,some (qb m65 59 j_7))]) (fun s=>o_7=Res.nx s) (.k2 1 5 o o (.k 6 o .nil)) zd.nil ?_ (fun j_7 hj7=>?_)
 ·
  refine .cb o h (fun _ h=>?_) fun _ h=>?_
  ·
   obtain⟨r5,hv9,h⟩:=bind_some h
   obtain⟨r6,hv10,h⟩:=bind_some h
   refine .sn mx (.mv o (.c (.call .none (zbB hv9).frz (.cons (.s o) (.cons (.str (l:=[32]) (by decide)) .nil))) (.c (.call .none (zjc hv10) (.cons (.s o) .nil)) (.mv o (.ex o o (.ex o o (.asn o (.asn o (.nil (.seq (.sn mx (.mv o (.c (.not .none (.s o)) (.nil (.cb o h (fun _ h=>?_) fun _ h=>?_)))))))))))))))
   ·
    refine .sn mx (.asb (.nil (.ret (.thenRet (.thenRet ?_)))))
    replace h:=z8 hK7 (za h)
    obtain rfl:=za h
    exact zb.ret1O (.inl o) [65] Tryz.results93 (by decide) (.held o .nil) (yb.tmp o trivial Imp.refl)
   ·
    obtain⟨r7,hv12,h⟩:=bind_some h
    obtain⟨c1,hv13,h⟩:=zn h
    refine .skip (.then (.sr [oo,oo,oo,oo,oo,oo,oo,oo,([65],[65]),oo] mx (.mvA o (.mvA o (.cA (.call .none (zoX hv12) (.cons (.s o) .nil)) (.mvA o (.exA o o (.exA o o (.cA (.nilCheckP .none (.s o)) (.cA (.fieldPtr .none Qu (.s o)) (.cN (.storeAt (g:=65) QE o (.s o) zmB (.s o)) (.asnA o (.nil (.reB (t:=65) o (congrArg (fun y=>qb m65 59 y) hv13) (.sn mx (.mv o (.c (.not .none (.s o)) (.nil (.cb o h (fun _ h=>?_) fun _ h=>?_)))))))))))))))))))
    ·
     refine .sn mx (.asb (.nil (.ret (.thenRet ?_))))
     replace h:=z8 hK7 (za h)
     obtain rfl:=za h
     exact zb.ret1O (.inl o) [65] Tryz.results93 (by decide) (.held o .nil) (yb.tmp o trivial Imp.refl)
    ·
     exact .skip (zb.j _ (za h))
  ·
   exact .skip (zb.j _ (za h))
 ·
  have h:=yn hK7 hj7
  obtain⟨r8,hv15,h⟩:=bind_some h
  refine .sn mx (.mv o (.mv o (.mg o o o (.pa o o (.mv o (.mg o o o (.c (.buildSlice (xs:=[_,_,_,_]) (.at o o) yO ty9 hz9 (.cons (.str (l:=[107,105,110,100]) (by decide)) (.cons (.str (l:=[102,114,111,109]) (by decide)) (.cons (.str (l:=[116,111]) (by decide)) (.cons (.str (l:=[122]) (by decide)) .nil)))) o (by decide)) (.c (.buildSlice (xs:=[_,_,_]) (.at o o) yO ty9 hz9 (.cons (.str (l:=[98,101,110,100,115]) (by decide)) (.cons (.str (l:=[116,101,120,116]) (by decide)) (.cons (.str (l:=[99,108,97,115,115]) (by decide)) .nil))) o (by decide)) (.c (.callIf (.at o o) zjT (fun hg=>zje ((fun hg=>qf hv15 (hg.2)) hg)) (.cons (.tmp o id) (.cons (.tmp o id) (.cons (.tmp o id) .nil))) (fun h=>h)) (.pa o o (.asn o (.nil (.ret ?_)))))))))))))
  obtain rfl:=za h
  exact zb.ret1O (.inl o) [65] Tryz.results93 (by decide) (.held o .nil) (yb.tmp o trivial Imp.refl)
theorem zo2 {n1:zh}{f1:(GMap Str Str)}{r:(Bool×zh)}{m75:Nat}(h:zb2 n1 f1=some r):ya Tryz.prog 95 [isV (ptr m75 0),rep f1] [(ptr m75 0,zM 45 n1)] (rep r.1) [some (zM 45 r.2)]:=by
 unfold zb2 at h
 refine ya.i Tryz.func95 o Tryz.ntmps95 o (fun F=>(.sn mx (.asb (.nil (.seq (.sr [oo,oo,oo,([75],[]),oo] mx (.mvA o (.cA (.nilCheckP .none (.s o)) (.cA (.fieldPtr .none qV (.s o)) (.cA (.loadAt (k:=75) .none ty3 o (.s o) qO) (.cA (.lt .none (.s o) .i) (.nil (.cb o h (fun _ h=>?_) fun _ h=>?_)))))))))))))
 ·
  refine .sn mx (.asb (.nil (.ret (.thenRet ?_))))
  obtain rfl:=za h
  exact zb.ret1O (.inl o) [75] Tryz.results95 (by decide) (.held o .nil) (yb.tmp o trivial Imp.refl)
 ·
  obtain⟨needed1,hv2,h⟩:=zn h
  refine .skip (.then (.sr [([],[15]),([15],[5,15])] mx (.cW (.buildSliceO (xs:=[_,_]) o yO ty9 hz9 (.cons (.str (l:=[107,105,110,100]) (by decide)) (.cons (.str (l:=[122]) (by decide)) .nil)) o (by decide)) (.cW (.passRow o (.tmp o)) (.nil (.reB (t:=5) o (congrArg (zq 9) hv2) (.nameRow (t:=5) (g:=5001) o o o (fun s5001=>(.seq (.sr [oo,oo,oo,([75],[]),oo] mx (.mvA o (.cA (.nilCheckP .none (.s o)) (.cA (.fieldPtr .none qV (.s o)) (.cA (.loadAt (k:=75) .none ty3 o (.s o) qO) (.cA (.neI .none (.s o) .i) (.nil ?_))))))))))))))))
  obtain⟨o_3,h,hK3⟩:=ym h
  refine .thenJ (ι:=((List Str)×zh)) (fun j_3=>[(5,⟨True,rep j_3.1⟩)]) (fun j_3=>[(75,some (qb m75 45 j_3.2))]) (fun s=>o_3=Res.nx s) (.k2 0 1 o o .nil) zd.nil ?_ (fun j_3 hj3=>?_)
  ·
   refine .cb o h (fun _ h=>?_) fun _ h=>?_
   ·
    obtain⟨hn5,h⟩:=zo h
    obtain⟨r1,hv6,h⟩:=bind_some h
    obtain⟨r2,hv7,h⟩:=bind_some h
    refine .sr [oo,oo,([5001],[23,5001]),([23],[5,23])] mx (.mvA o (.cA (.buildSlice (xs:=[_]) .none yO ty9 hz9 (.cons (.str (l:=[112,108,97,99,101]) (by decide)) .nil) o (by decide)) (.cW (.append (k:=5001) zhG o (.told (.s o) o) (.s o) hn5) (.consWD (.passRow o (.tmp o)) o o (.nil (.freezeRowA (t:=5) o o (.k 75 o .nil) o (.sn mx (.mv o (.c (.lookup .none yF zo9 (.s o) (.str (l:=[112,108,97,99,101]) (by decide))) (.c (.call .none (zbB hv6).frz (.cons (.s o) (.cons (.str (l:=[32]) (by decide)) .nil))) (.c (.call .none (zjc hv7) (.cons (.s o) .nil)) (.mv o (.ex o o (.ex o o (.asn o (.asn o (.nil (.seq (.sn mx (.mv o (.c (.not .none (.s o)) (.mv o (.mg o o o (.c (.len (.at o o) yI (.tmp o id)) (.c (.neI (.at o o) (.tmp o id) .i) (.po o o (.nil (.cb o h (fun _ h=>?_) fun _ h=>?_))))))))))))))))))))))))))))
    ·
     refine .sn mx (.asb (.nil (.ret (.thenRet (.thenRet ?_)))))
     replace h:=z8 hK3 (za h)
     obtain rfl:=za h
     exact zb.ret1O (.inl o) [75] Tryz.results95 (by decide) (.held o .nil) (yb.tmp o trivial Imp.refl)
    ·
     obtain⟨hn9,h⟩:=zo h
     obtain⟨hn10,h⟩:=zo h
     obtain⟨hn11,h⟩:=zo h
     obtain⟨hn12,h⟩:=zo h
     obtain⟨v1,hv13,h⟩:=zn h
     exact .skip (.then (.rg [oo,oo,oo,oo,oo,oo,oo,oo,oo,oo,oo,oo,oo,oo,oo,oo,([75],[75])] mx (.mvA o (.mvA o (.cA (.indexAddr .none yI ty3 (.s o) .i (fun _=>hn9)) (.ldA ty3 o (.mvA o (.cA (.indexAddr .none yI ty3 (.s o) .i (fun _=>hn10)) (.ldA ty3 o (.mvA o (.cA (.indexAddr .none yI ty3 (.s o) .i (fun _=>hn11)) (.ldA ty3 o (.mvA o (.cA (.indexAddr .none yI ty3 (.s o) .i (fun _=>hn12)) (.ldA ty3 o (.cA (.re hv13 (.buildF (y:=(⟨gx r2.1 0,gx r2.1 1,gx r2.1 2,gx r2.1 3⟩:Box)) .none qR q9 o (.cons (.s o) (.cons (.s o) (.cons (.s o) (.cons (.s o) .nil)))) (.cons o zbq (.cons o zbr (.cons o zbs (.cons o zbt .nil)))))) (.cA (.nilCheckP .none (.s o)) (.cA (.fieldPtr .none jQ (.s o)) (.cN (.storeAt (g:=75) zN o (.s o) zmq (.s o)) (.nil (zb.j _ (za h))))))))))))))))))))))
   ·
    exact .skip (.freezeRow (g:=5001) (ts:=[5]) o (.cons (t:=5) o trivial .nil) (.k 75 o .nil) o (zb.j _ (za h)))
  ·
   have h:=yn hK3 hj3
   obtain⟨has1,hv14,h⟩:=zn h
   obtain⟨c1,hv15,h⟩:=zn h
   obtain⟨r3,hv16,h⟩:=bind_some h
   refine .sn mx (.mv o (.c (.lookupOk .none yF zo9 (.s o) (.str (l:=[108,111,99,107,101,100]) (by decide))) (.mv o (.ex o o (.ex o o (.asn o (.ra hv14 o (.nil (.sr [oo,oo,oo,oo,([75],[75])] mx (.mvA o (.mvA o (.cA (.nilCheckP .none (.s o)) (.cA (.fieldPtr .none zd2 (.s o)) (.cN (.storeAt (g:=75) ty4 o (.s o) zmu (.s o)) (.nil (.reB (t:=75) o (congrArg (fun y=>qb m75 45 y) hv15) (.sn mx (.mv o (.c (.not .none (.s o)) (.mv o (.mg o o o (.c (.eqS (.at o o) (yy Tryz.underlying9) (.tmp o id) (.str (l:=[121,101,115]) (by decide))) (.po o o (.mv o (.mg o o o (.mg o o o (.c (.buildSlice (xs:=[_,_,_,_]) (.at o o) yO ty9 hz9 (.cons (.str (l:=[116,101,120,116]) (by decide)) (.cons (.str (l:=[99,108,97,115,115]) (by decide)) (.cons (.str (l:=[112,97,114,101,110,116]) (by decide)) (.cons (.str (l:=[108,111,99,107,101,100]) (by decide)) .nil)))) o (by decide)) (.c (.callIf (.at o o) zjT (fun hg=>zje ((fun hg=>qf hv16 (hg.2)) hg)) (.cons (.tmp o id) (.cons (.tmp o id) (.cons (.tmp o id) .nil))) (fun h=>h)) (.pa o o (.asn o (.nil (.ret ?_))))))))))))))))))))))))))))))))
   obtain rfl:=za h
   exact zb.ret1O (.inl o) [75] Tryz.results95 (by decide) (.held o .nil) (yb.tmp o trivial Imp.refl)
theorem zo5 {id1:Str}{f1:(GMap Str Str)}{r:(zf×Bool)}  (h:zb0 id1 f1=some r):zk Tryz.prog 35 [rep id1,rep f1] (tup [rep r.1,rep r.2]):=by
 unfold zb0 at h
 obtain⟨r1,hv1,h⟩:=bind_some h
 refine zk.i Tryz.func35 o Tryz.ntmps35 o (fun F=>(.sr [([],[4]),oo] mx (.al zuW o (.cA (.assign .none .bool) (.nil (.nameAt (t:=4) (g:=5001) o o QL o (fun m5001=>(.seq (.sr [oo,oo,oo,oo,oo,oo,oo,([5001],[5001]),oo] mx (.mvA o (.cA (.lookup .none yF zo9 (.s o) (.str (l:=[122]) (by decide))) (.cA (.call .none (zgx hv1) (.cons (.s o) .nil)) (.mvA o (.exA o o (.exA o o (.cA (.fieldPtr .none zcb (.s o)) (.cN (.storeAt (g:=5001) ty3 o (.s o) zud (.s o)) (.asnA o (.nil (.sr [oo,oo,oo,oo,([5001],[]),oo,oo,oo,oo,([5001],[]),oo,oo] mx (.mvA o (.cA (.not .none (.s o)) (.mvA o (.cA (.fieldPtr (.at o o) zcb (.s o)) (.cA (.loadAt (k:=5001) (.at o o) ty3 o (.tmp o id) zkc) (.cA (.lt (.at o o) (.tmp o id) .i) (.cA (.pickOr .none (.s o) (.tmp o id)) (.mvA o (.cA (.fieldPtr (.at o o) zcb (.s o)) (.cA (.loadAt (k:=5001) (.at o o) ty3 o (.tmp o id) zkc) (.cA (.gt (.at o o) (.tmp o id) .i) (.cA (.pickOr .none (.s o) (.tmp o id)) (.nil (.cb o h (fun _ h=>?_) fun _ h=>?_))))))))))))))))))))))))))))))))))
 ·
  refine .sr [([5001],[]),([5001],[5001]),oo] mx (.cA (.loadAt0 (k:=5001) .none zbD o (.s o)) (.cN (.storeAtH (g:=5001) zbD (by rfl) o (.s o) (.s o)) (.cA (.assign .none .bool) (.nil (.freezeAt (g:=5001) (S:=ref ({ (⟨(0:Int),(none:(Option zh)),(none:(Option zu))⟩:zf)with z:=r1.1 }:zf)) (ts:=[4]) o (.cons (t:=4) o trivial .nil) zd.nil o (fun M D w h hms=>zoL (mk:=(⟨({ (⟨(0:Int),(none:(Option zh)),(none:(Option zu))⟩:zf)with z:=r1.1 }).z,⟨(.pointer none)⟩,⟨(.pointer none)⟩⟩:jv)) (y:=({ (⟨(0:Int),(none:(Option zh)),(none:(Option zu))⟩:zf)with z:=r1.1 }:zf)) o (fun M cs w hc=>by obtain⟨c0,q0,e0,h0,c1,q1,e1,h1,h2⟩:=hc;exact⟨c0,q0,e0,h0,c1,q1,e1,zeN h1,zeN h2⟩) M D w h hms) (.ret (.thenRet ?_)))))))
  obtain rfl:=za h
  exact zb.r2 Tryz.results35 yi o o
 ·
  refine .skip (.then (.seq (.sn mx (.mv o (.c (.lookup .none yF zo9 (.s o) (.str (l:=[107,105,110,100]) (by decide))) (.c (.eqS .none (yy Tryz.underlying9) (.s o) (.str (l:=[101,100,103,101]) (by decide))) (.nil (.cb o h (fun _ h=>?_) fun _ h=>?_))))))))
  ·
   obtain⟨v1,hv4,h⟩:=zn h
   refine .sr [oo,oo,oo,oo,oo,oo,([],[35]),oo,([5001,35],[5001,35])] mx (.mvA o (.mvA o (.cA (.lookup .none yF zo9 (.s o) (.str (l:=[116,101,120,116]) (by decide))) (.mvA o (.cA (.lookup .none yF zo9 (.s o) (.str (l:=[99,108,97,115,115]) (by decide))) (.cA (.re hv4 (.buildF (y:=(⟨id1,(⟨Str.nil,(0:Int),(0:Int)⟩:zO),(⟨Str.nil,(0:Int),(0:Int)⟩:zO),([]:(List zz)),f1.getD (⟨[116,101,120,116]⟩:Str) Str.nil,f1.getD (⟨[99,108,97,115,115]⟩:Str) Str.nil⟩:zu)) .none zox zuQ o (.cons (.s o) (.cons (.s o) (.cons (.s o) .nil))) (.cons o zmy (.cons o zmC (.cons o zmD .nil))))) (.cW (.boxO o (.s o)) (.cA (.fieldPtr .none zgL (.s o)) (.cN (.storeSub (k:=5001) (t:=35) znc o (.s o) zuf o (zln QL) o) (.nil (.open (k:=5001) (g:=5002) o o (fun s5002=>(.boxTold (g:=5002) o QL (fun m5002 hm5=>?_))))))))))))))
   subst hm5
   obtain⟨ok1,hv6,h⟩:=bind_some h
   refine .sr [([5001],[]),oo,([5001],[]),oo,([5002],[5002]),([5001],[5001]),oo] mx (.cA (.loadAt0 (k:=5001) .none zbD o (.s o)) (.cA (.fieldPtr .none zgL (.s o)) (.cA (.loadAt (k:=5001) .none znc o (.s o) zqx) (.mvA o (.cW (.cO [5002] (zo1 hv6) (.cons (.s o) (.cons (.s o) .nil)) (.cons (k:=5002) o .nil) o) (.cN (.storeAtH (g:=5001) zbD (by rfl) o (.s o) (.s o)) (.asnA o (.nil (.close (k:=5001) (g:=5002) (fun z=>zM 82 (⟨({ (⟨(0:Int),(none:(Option zh)),(none:(Option zu))⟩:zf)with z:=r1.1 }).z,⟨(.pointer none)⟩,⟨z⟩⟩:jv)) o o o (.freezeAt (g:=5001) (S:=ref ({ { (⟨(0:Int),(none:(Option zh)),(none:(Option zu))⟩:zf)with z:=r1.1 }with edge:=(some ok1.2) }:zf)) (ts:=[4]) o (.cons (t:=4) o trivial .nil) zd.nil o (fun M D w h hms=>zbN (mk:=(fun s1_=>(⟨({ (⟨(0:Int),(none:(Option zh)),(none:(Option zu))⟩:zf)with z:=r1.1 }).z,⟨(.pointer none)⟩,⟨s1_⟩⟩:jv))) (y:=({ { (⟨(0:Int),(none:(Option zh)),(none:(Option zu))⟩:zf)with z:=r1.1 }with edge:=(some ok1.2) }:zf)) zj0 o (fun M s1_ cs w hc g1=>by obtain⟨c0,q0,e0,h0,c1,q1,e1,h1,h2⟩:=hc;exact⟨c0,q0,e0,h0,c1,q1,e1,zeN h1,Y7 o o h2 g1⟩) M D w h hms) (.ret (.thenRet ?_))))))))))))
   obtain rfl:=za h
   exact zb.r2 Tryz.results35 yi o o
  ·
   obtain⟨r2,hv7,h⟩:=bind_some h
   obtain⟨r3,hv8,h⟩:=bind_some h
   obtain⟨v2,hv9,h⟩:=zn h
   refine .skip (.then (.sr [oo,oo,oo,oo,oo,oo,oo,oo,oo,oo,oo,oo,([],[54]),oo,([5001,54],[5001,54])] mx (.mvA o (.cA (.call .none (zi9 hv7) .nil) (.mvA o (.cA (.lookup .none yF zo9 (.s o) (.str (l:=[107,105,110,100]) (by decide))) (.cA (.call .none (zdj hv8) (.cons (.s o) (.cons (.s o) .nil))) (.mvA o (.cA (.lookup .none yF zo9 (.s o) (.str (l:=[116,101,120,116]) (by decide))) (.mvA o (.cA (.lookup .none yF zo9 (.s o) (.str (l:=[99,108,97,115,115]) (by decide))) (.mvA o (.cA (.lookup .none yF zo9 (.s o) (.str (l:=[112,97,114,101,110,116]) (by decide))) (.cA (.re hv9 (.buildF (y:=(⟨id1,r3,(⟨(0:Int),(0:Int),(0:Int),(0:Int)⟩:Box),f1.getD (⟨[116,101,120,116]⟩:Str) Str.nil,f1.getD (⟨[99,108,97,115,115]⟩:Str) Str.nil,f1.getD (⟨[112,97,114,101,110,116]⟩:Str) Str.nil,false⟩:zh)) .none ziB znu o (.cons (.s o) (.cons (.s o) (.cons (.s o) (.cons (.s o) (.cons (.s o) .nil))))) (.cons o zmo (.cons o zmp (.cons o zmr (.cons o zms (.cons o zmt .nil))))))) (.cW (.boxO o (.s o)) (.cA (.fieldPtr .none zd7 (.s o)) (.cN (.storeSub (k:=5001) (t:=54) znb o (.s o) zue o (zln QL) o) (.nil (.open (k:=5001) (g:=5003) o o (fun s5003=>(.boxTold (g:=5003) o QL (fun m5003 hm10=>?_))))))))))))))))))))))
   subst hm10
   obtain⟨ok2,hv11,h⟩:=bind_some h
   refine .sr [([5001],[]),oo,([5001],[]),oo,([5003],[5003]),([5001],[5001]),oo] mx (.cA (.loadAt0 (k:=5001) .none zbD o (.s o)) (.cA (.fieldPtr .none zd7 (.s o)) (.cA (.loadAt (k:=5001) .none znb o (.s o) zqw) (.mvA o (.cW (.cO [5003] (zo2 hv11) (.cons (.s o) (.cons (.s o) .nil)) (.cons (k:=5003) o .nil) o) (.cN (.storeAtH (g:=5001) zbD (by rfl) o (.s o) (.s o)) (.asnA o (.nil (.close (k:=5001) (g:=5003) (fun z=>zM 82 (⟨({ (⟨(0:Int),(none:(Option zh)),(none:(Option zu))⟩:zf)with z:=r1.1 }).z,⟨z⟩,⟨(.pointer none)⟩⟩:jv)) o o o (.freezeAt (g:=5001) (S:=ref ({ { (⟨(0:Int),(none:(Option zh)),(none:(Option zu))⟩:zf)with z:=r1.1 }with node:=(some ok2.2) }:zf)) (ts:=[4]) o (.cons (t:=4) o trivial .nil) zd.nil o (fun M D w h hms=>zbN (mk:=(fun s1_=>(⟨({ (⟨(0:Int),(none:(Option zh)),(none:(Option zu))⟩:zf)with z:=r1.1 }).z,⟨s1_⟩,⟨(.pointer none)⟩⟩:jv))) (y:=({ { (⟨(0:Int),(none:(Option zh)),(none:(Option zu))⟩:zf)with z:=r1.1 }with node:=(some ok2.2) }:zf)) zj0 o (fun M s1_ cs w hc g1=>by obtain⟨c0,q0,e0,h0,c1,q1,e1,h1,h2⟩:=hc;exact⟨c0,q0,e0,h0,c1,q1,e1,Y7 o o h1 g1,zeN h2⟩) M D w h hms) (.ret ?_)))))))))))
   obtain rfl:=za h
   exact zb.r2 Tryz.results35 yi o o
theorem zmJ {data1:(List zf)}{a1:Int}{b1:Int}{cmp1:(zf→zf→Option Int)}{r:(List zf)}{s53:Value}(h:zby data1 a1 b1 cmp1=some r):ya Tryz.prog 139 [isV s53,rep a1,rep b1,fn2 Tryz.prog (rep (α:=Int)) cmp1] [(s53,zq 82 data1)] (z7) [some (zq 82 r)]:=by
 unfold zby at h
 obtain⟨i1,hv1,h⟩:=zn h
 refine ya.i Tryz.func139 o Tryz.ntmps139 o (fun F=>(.sn mx (.mv o (.adi o (.ra hv1 o (.nil (.block (.loopL h (fun s2_=>[(8,⟨True,rep s2_.1⟩)]) (fun s2_=>[(53,some (ze.at s53 (zq 82 s2_.2)))]) (.k 8 o .nil) (.k 53 o .nil) (.k4 0 1 2 3 o o o o .nil) zd.nil (fun s2_ o_2 h hD2=>?_)))))))))
 unfold zdl at h
 refine .seq (.sn mx (.mv o (.mv o (.lt o o (.nil (.cb o h (fun _ h=>?_) fun _ h=>?_))))))
 ·
  refine .skip (.then (.seq ?_))
  obtain⟨j_4,h,hK4⟩:=bind_some h
  refine .thenJ (ι:=(List zf)) (fun j_4=>[]) (fun j_4=>[(53,some (ze.at s53 (zq 82 j_4)))]) (fun s=>j_4=s) (.k4 0 1 2 3 o o o o (.k 8 o .nil)) zd.nil ?_ (fun j_4' hj4=>?_)
  ·
   refine .block (.sn mx (.mv o (.asn o (.nil (.block (.loopL h (fun s5_=>[(9,⟨True,rep s5_.1⟩)]) (fun s5_=>[(53,some (ze.at s53 (zq 82 s5_.2)))]) (.k 9 o .nil) (.k 53 o .nil) (.k4 0 1 2 3 o o o o (.k 8 o .nil)) zd.nil (fun s5_ o_5 h hD5=>?_)))))))
   unfold zbz at h
   obtain⟨hn6,h⟩:=zo h
   obtain⟨hn7,h⟩:=zo h
   obtain⟨r1,hv8,h⟩:=bind_some h
   refine .seq (.sr [oo,oo,oo,oo,oo,oo,oo,([53],[]),([53],[]),oo,oo,oo,([53],[]),([53],[]),oo,oo,oo] mx (.mvA o (.mvA o (.cA (.gt .none (.s o) (.s o)) (.mvA o (.cA (.move (.at o o) (.s o)) (.cA (.move (.at o o) (.s o)) (.cA (.move (.at o o) (.s o)) (.cA (.indexAddrO (k:=53) (.at o o) qt yi (.tmp o id) o (.tmp o id) (fun hg=>hn6 hg.2)) (.cA (.loadElem0 (k:=53) (.at o o) yi (.tmp o id) o (fun hg=>hn6 hg.2)) (.cA (.move (.at o o) (.s o)) (.cA (.move (.at o o) (.s o)) (.cA (.subW (.at o o) (.tmp o id) .i) (.cA (.indexAddrO (k:=53) (.at o o) qt yi (.tmp o id) o (.tmp o id) (fun hg=>hn7 hg.2)) (.cA (.loadElem0 (k:=53) (.at o o) yi (.tmp o id) o (fun hg=>hn7 hg.2)) (.cA (.callV (gx s5_.2 s5_.1,gx s5_.2 (W (s5_.1 - 1)),r1) (.at o o) (.tmp o id) (fun hg=>qf hv8 (hg.2)) (.cons (.tmp o id) (.cons (.tmp o id) .nil))) (.cA (.lt (.at o o) (.tmp o id) .i) (.cA (.pickAnd .none (.s o) (.tmp o id)) (.nil (.cb o h (fun _ h=>?_) fun _ h=>?_))))))))))))))))))))
   ·
    obtain⟨hn10,h⟩:=zo h
    obtain⟨v1,hv11,h⟩:=zn h
    obtain⟨hn12,h⟩:=zo h
    obtain⟨v2,hv13,h⟩:=zn h
    obtain⟨hn14,h⟩:=zo h
    obtain⟨hn15,h⟩:=zo h
    obtain⟨data2,hv16,h⟩:=zn h
    obtain⟨j1,hv17,h⟩:=zn h
    exact .skip (.then (.seq (.block (.rg [oo,oo,oo,oo,oo,oo,oo,oo,([53],[]),([53],[]),oo,oo,([53],[]),([53],[]),([53],[]),([53],[53]),([53],[]),([53],[53])] mx (.mvA o (.mvA o (.mvA o (.mvA o (.cA (.subW .none (.s o) .i) (.mvA o (.mvA o (.cA (.subW .none (.s o) .i) (.ixO 53 qt yi o o o hn10 (.cA (.re hv11 (.loadElem0 (k:=53) .none yi (.s o) o (fun _=>hn10))) (.mvA o (.mvA o (.ixO 53 qt yi o o o hn12 (.cA (.re hv13 (.loadElem0 (k:=53) .none yi (.s o) o (fun _=>hn12))) (.ixO 53 qt yi o o o hn14 (.cN (.storeElem0 (k:=53) yi (.s o) o (.s o) hn14) (.ixO 53 qt yi o o o hn15 (.cN (.storeElem0 (k:=53) yi (.s o) o (.s o) hn15) (.nil (.blkNormal (.then (.reB (t:=53) o (congrArg (fun y=>ze.at s53 (zq 82 y)) hv16) (.rn mx (.mv o (.c (.subW .none (.s o) .i) (.ra hv17 o (.nil (zb.ag (za h)))))))))))))))))))))))))))))))))
   ·
    refine .exit (.thenExit (.thenExit (.blkExit (.blkNormal ?_))))
    replace h:=hD5 _ (za h)
    exact zb.j _ (za h)
  ·
   subst hj4;have h:=hK4;clear hK4
   obtain⟨i2,hv18,h⟩:=zn h
   exact .rn mx (.mv o (.adi o (.ra hv18 o (.nil (zb.ag (za h))))))
 ·
  refine .exit (.thenExit (.thenExit (.blkExit ?_)))
  replace h:=hD2 _ (za h)
  obtain rfl:=za h
  exact zb.ret0O (.inr o) [53] Tryz.results139 (by decide) (.held o .nil)
theorem zhW {data1:(List zf)}{a1:Int}{b1:Int}{n1:Int}{cmp1:(zf→zf→Option Int)}{r:(List zf)}{s38:Value}(h:zac data1 a1 b1 n1 cmp1=some r):ya Tryz.prog 244 [isV s38,rep a1,rep b1,rep n1,fn2 Tryz.prog (rep (α:=Int)) cmp1] [(s38,zq 82 data1)] (z7) [some (zq 82 r)]:=by
 unfold zac at h
 refine ya.i Tryz.func244 o Tryz.ntmps244 o (fun F=>(.sn mx (.asi (.nil (.block (.loopL h (fun s1_=>[(10,⟨True,rep s1_.1⟩)]) (fun s1_=>[(38,some (ze.at s38 (zq 82 s1_.2)))]) (.k 10 o .nil) (.k 38 o .nil) (.k4 0 1 2 3 o o o o .nil) zd.nil (fun s1_ o_1 h hD1=>?_)))))))
 unfold zfQ at h
 refine .seq (.sn mx (.mv o (.mv o (.lt o o (.nil (.cb o h (fun _ h=>?_) fun _ h=>?_))))))
 ·
  obtain⟨hn3,h⟩:=zo h
  obtain⟨v1,hv4,h⟩:=zn h
  obtain⟨hn5,h⟩:=zo h
  obtain⟨v2,hv6,h⟩:=zn h
  obtain⟨hn7,h⟩:=zo h
  obtain⟨hn8,h⟩:=zo h
  obtain⟨data2,hv9,h⟩:=zn h
  obtain⟨i1,hv10,h⟩:=zn h
  exact .skip (.then (.seq (.block (.rg [oo,oo,oo,oo,oo,oo,oo,oo,oo,oo,oo,oo,([38],[]),([38],[]),oo,oo,oo,oo,([38],[]),([38],[]),([38],[]),([38],[38]),([38],[]),([38],[38])] mx (.mvA o (.mvA o (.mvA o (.addA o o (.mvA o (.mvA o (.mvA o (.addA o o (.mvA o (.mvA o (.mvA o (.addA o o (.ixO 38 qt yi o o o hn3 (.cA (.re hv4 (.loadElem0 (k:=38) .none yi (.s o) o (fun _=>hn3))) (.mvA o (.mvA o (.mvA o (.addA o o (.ixO 38 qt yi o o o hn5 (.cA (.re hv6 (.loadElem0 (k:=38) .none yi (.s o) o (fun _=>hn5))) (.ixO 38 qt yi o o o hn7 (.cN (.storeElem0 (k:=38) yi (.s o) o (.s o) hn7) (.ixO 38 qt yi o o o hn8 (.cN (.storeElem0 (k:=38) yi (.s o) o (.s o) hn8) (.nil (.blkNormal (.then (.reB (t:=38) o (congrArg (fun y=>ze.at s38 (zq 82 y)) hv9) (.rn mx (.mv o (.adi o (.ra hv10 o (.nil (zb.ag (za h)))))))))))))))))))))))))))))))))))))))
 ·
  refine .exit (.thenExit (.thenExit (.blkExit ?_)))
  replace h:=hD1 _ (za h)
  obtain rfl:=za h
  exact zb.ret0O (.inr o) [38] Tryz.results244 (by decide) (.held o .nil)
theorem ztJ {data1:(List zf)}{a1:Int}{m1:Int}{b1:Int}{cmp1:(zf→zf→Option Int)}{r:(List zf)}{s58:Value}(h:zbA data1 a1 m1 b1 cmp1=some r):ya Tryz.prog 188 [isV s58,rep a1,rep m1,rep b1,fn2 Tryz.prog (rep (α:=Int)) cmp1] [(s58,zq 82 data1)] (z7) [some (zq 82 r)]:=by
 unfold zbA at h
 obtain⟨i1,hv1,h⟩:=zn h
 obtain⟨j1,hv2,h⟩:=zn h
 refine ya.i Tryz.func188 o Tryz.ntmps188 o (fun F=>(.sn mx (.mv o (.mv o (.sub o o (.ra hv1 o (.nil (.sn mx (.mv o (.mv o (.sub o o (.ra hv2 o (.nil (.seq ?_))))))))))))))
 obtain⟨j_3,h,hK3⟩:=bind_some h
 refine .thenJ (ι:=(Int×(List zf))) (fun j_3=>[(10,⟨True,rep j_3.1⟩)]) (fun j_3=>[(58,some (ze.at s58 (zq 82 j_3.2)))]) (fun s=>j_3=s) (.k2 0 2 o o (.k 4 o .nil)) zd.nil ?_ (fun j_3' hj3=>?_)
 ·
  refine .block (.loopL h (fun s4_=>[(10,⟨True,rep s4_.1⟩),(11,⟨True,rep s4_.2.1⟩)]) (fun s4_=>[(58,some (ze.at s58 (zq 82 s4_.2.2)))]) (.k2 10 11 o o .nil) (.k 58 o .nil) (.k2 0 2 o o (.k 4 o .nil)) zd.nil (fun s4_ o_4 h hD4=>?_))
  unfold zfN at h
  refine .seq (.sn mx (.mv o (.mv o (.c (.neI .none (.s o) (.s o)) (.nil (.cb o h (fun _ h=>?_) fun _ h=>?_))))))
  ·
   refine .skip (.then (.block (.sn mx (.mv o (.mv o (.c (.gt .none (.s o) (.s o)) (.nil (.cb o h (fun _ h=>?_) fun _ h=>?_))))))))
   ·
    obtain⟨r1,hv7,h⟩:=bind_some h
    obtain⟨i2,hv8,h⟩:=zn h
    exact .sr [oo,oo,oo,oo,oo,oo,oo,([58],[58])] mx (.mvA o (.mvA o (.mvA o (.subA o o (.mvA o (.mvA o (.mvA o (.cW (.cO [58] (zhW hv7) (.cons (.s o) (.cons (.s o) (.cons (.s o) (.cons (.s o) (.cons (.s o) .nil))))) (.cons (k:=58) o .nil) o) (.nil (.rn mx (.mv o (.mv o (.sub o o (.ra hv8 o (.nil (.blkNormal (zb.ag (za h))))))))))))))))))
   ·
    obtain⟨r2,hv9,h⟩:=bind_some h
    obtain⟨j2,hv10,h⟩:=zn h
    exact .sr [oo,oo,oo,oo,oo,oo,oo,oo,oo,oo,oo,([58],[58])] mx (.mvA o (.mvA o (.mvA o (.subA o o (.mvA o (.mvA o (.addA o o (.mvA o (.subA o o (.mvA o (.mvA o (.cW (.cO [58] (zhW hv9) (.cons (.s o) (.cons (.s o) (.cons (.s o) (.cons (.s o) (.cons (.s o) .nil))))) (.cons (k:=58) o .nil) o) (.nil (.rn mx (.mv o (.mv o (.sub o o (.ra hv10 o (.nil (.blkNormal (zb.ag (za h))))))))))))))))))))))
  ·
   refine .exit (.thenExit (.thenExit (.blkExit ?_)))
   replace h:=hD4 _ (za h)
   exact zb.j _ (za h)
 ·
  subst hj3;have h:=hK3;clear hK3
  obtain⟨r3,hv11,h⟩:=bind_some h
  refine .rg [oo,oo,oo,oo,oo,oo,oo,([58],[58])] mx (.mvA o (.mvA o (.mvA o (.subA o o (.mvA o (.mvA o (.mvA o (.cW (.cO [58] (zhW hv11) (.cons (.s o) (.cons (.s o) (.cons (.s o) (.cons (.s o) (.cons (.s o) .nil))))) (.cons (k:=58) o .nil) o) (.nil ?_)))))))))
  obtain rfl:=za h
  exact zb.ret0O (.inr o) [58] Tryz.results188 (by decide) (.held o .nil)
set_option maxHeartbeats 4000000 in
theorem ztL {self:((List zf)×Int×Int×Int×(zf→zf→Option Int))→Option (List zf)}(hself:∀{s220:Value} (x:((List zf)×Int×Int×Int×(zf→zf→Option Int))) (r:(List zf)),self x=some r→ya Tryz.prog 140 [isV s220,rep x.2.1,rep x.2.2.1,rep x.2.2.2.1,fn2 Tryz.prog (rep (α:=Int)) x.2.2.2.2] [(s220,zq 82 x.1)] (z7) [some (zq 82 r)]){s220:Value}{x:((List zf)×Int×Int×Int×(zf→zf→Option Int))}{r:(List zf)}(h:jj self x=some r):ya Tryz.prog 140 [isV s220,rep x.2.1,rep x.2.2.1,rep x.2.2.2.1,fn2 Tryz.prog (rep (α:=Int)) x.2.2.2.2] [(s220,zq 82 x.1)] (z7) [some (zq 82 r)]:=by
 unfold jj at h
 refine ya.i Tryz.func140 o Tryz.ntmps140 o (fun F=>(.seq (.sn mx (.mv o (.mv o (.sub o o (.eqi o (.nil ?_))))))))
 obtain⟨o_1,h,hK1⟩:=ym h
 refine .tJ (fun s=>o_1=Res.nx s) (.k4 0 1 2 3 o o o o (.k 4 o .nil)) (.k 220 o .nil) ?_ (fun j_1 hj1=>?_)
 ·
  refine .cb o h (fun _ h=>?_) fun _ h=>?_
  ·
   refine .sn mx (.mv o (.asn o (.nil (.sn mx (.mv o (.asn o (.nil (.seq ?_))))))))
   obtain⟨j_3,h,hK3⟩:=bind_some h
   refine .thenJ (ι:=Int) (fun j_3=>[(10,⟨True,rep j_3⟩)]) (fun j_3=>[]) (fun s=>j_3=s) (.k2 0 1 o o .nil) (.k 220 o .nil) ?_ (fun j_3' hj3=>?_)
   ·
    refine .block (.loopL h (fun s4_=>[(10,⟨True,rep s4_.1⟩),(11,⟨True,rep s4_.2⟩)]) (fun s4_=>[]) (.k2 10 11 o o .nil) zd.nil (.k2 0 1 o o (.k 4 o .nil)) (.k 220 o .nil) (fun s4_ o_4 h hD4=>?_))
    unfold zdo at h
    refine .seq (.sn mx (.mv o (.mv o (.lt o o (.nil (.cb o h (fun _ h=>?_) fun _ h=>?_))))))
    ·
     obtain⟨h1,hv6,h⟩:=zn h
     obtain⟨hn7,h⟩:=zo h
     obtain⟨hn8,h⟩:=zo h
     obtain⟨r1,hv9,h⟩:=bind_some h
     refine .skip (.then (.block (.sn mx (.mv o (.mv o (.add o o (.c (.toK .none (by kernel_rfl) Tryz.underlying194 (.s o)) (.c (.kshr .none (.s o) .ki (fun _=>by decide)) (.c (.toInt .none (by kernel_rfl) Tryz.underlying3 (.s o)) (.ra hv6 o (.nil (.sr [oo,oo,oo,([220],[]),([220],[]),oo,oo,([220],[]),([220],[]),oo,oo] mx (.mvA o (.mvA o (.mvA o (.ixO 220 qt yi o o o hn7 (.cA (.loadElem0 (k:=220) .none yi (.s o) o (fun _=>hn7)) (.mvA o (.mvA o (.ixO 220 qt yi o o o hn8 (.cA (.loadElem0 (k:=220) .none yi (.s o) o (fun _=>hn8)) (.cA (.callV (gx x.1 h1,gx x.1 x.2.1,r1) .none (.s o) (fun _=>hv9) (.cons (.s o) (.cons (.s o) .nil))) (.cA (.lt .none (.s o) .i) (.nil (.cb o h (fun _ h=>?_) fun _ h=>?_)))))))))))))))))))))))))
     ·
      obtain⟨i1,hv11,h⟩:=zn h
      exact .rn mx (.mv o (.adi o (.ra hv11 o (.nil (.blkNormal (zb.ag (za h)))))))
     ·
      exact .rn mx (.mv o (.asn o (.nil (.blkNormal (zb.ag (za h))))))
    ·
     refine .exit (.thenExit (.thenExit (.blkExit ?_)))
     replace h:=hD4 _ (za h)
     exact zb.j _ (za h)
   ·
    subst hj3;have h:=hK3;clear hK3
    refine .seq (.sn mx (.mv o (.asn o (.nil ?_))))
    obtain⟨j_12,h,hK12⟩:=bind_some h
    refine .thenJ (ι:=(List zf)) (fun j_12=>[]) (fun j_12=>[(220,some (ze.at s220 (zq 82 j_12)))]) (fun s=>j_12=s) Sub.nil zd.nil ?_ (fun j_12' hj12=>?_)
    ·
     refine .block (.loopL h (fun s13_=>[(13,⟨True,rep s13_.1⟩)]) (fun s13_=>[(220,some (ze.at s220 (zq 82 s13_.2)))]) (.k 13 o .nil) (.k 220 o .nil) (.k2 0 10 o o .nil) zd.nil (fun s13_ o_13 h hD13=>?_))
     unfold zdp at h
     refine .seq (.sn mx (.mv o (.mv o (.c (.subW .none (.s o) .i) (.lt o o (.nil (.cb o h (fun _ h=>?_) fun _ h=>?_)))))))
     ·
      obtain⟨hn15,h⟩:=zo h
      obtain⟨v1,hv16,h⟩:=zn h
      obtain⟨hn17,h⟩:=zo h
      obtain⟨v2,hv18,h⟩:=zn h
      obtain⟨hn19,h⟩:=zo h
      obtain⟨hn20,h⟩:=zo h
      obtain⟨data2,hv21,h⟩:=zn h
      obtain⟨k1,hv22,h⟩:=zn h
      exact .skip (.then (.seq (.block (.rg [oo,oo,oo,oo,oo,oo,oo,oo,([220],[]),([220],[]),oo,oo,([220],[]),([220],[]),([220],[]),([220],[220]),([220],[]),([220],[220])] mx (.mvA o (.mvA o (.mvA o (.mvA o (.cA (.addW .none (.s o) .i) (.mvA o (.mvA o (.cA (.addW .none (.s o) .i) (.ixO 220 qt yi o o o hn15 (.cA (.re hv16 (.loadElem0 (k:=220) .none yi (.s o) o (fun _=>hn15))) (.mvA o (.mvA o (.ixO 220 qt yi o o o hn17 (.cA (.re hv18 (.loadElem0 (k:=220) .none yi (.s o) o (fun _=>hn17))) (.ixO 220 qt yi o o o hn19 (.cN (.storeElem0 (k:=220) yi (.s o) o (.s o) hn19) (.ixO 220 qt yi o o o hn20 (.cN (.storeElem0 (k:=220) yi (.s o) o (.s o) hn20) (.nil (.blkNormal (.then (.reB (t:=220) o (congrArg (fun y=>ze.at s220 (zq 82 y)) hv21) (.rn mx (.mv o (.adi o (.ra hv22 o (.nil (zb.ag (za h)))))))))))))))))))))))))))))))))
     ·
      refine .exit (.thenExit (.thenExit (.blkExit ?_)))
      replace h:=hD13 _ (za h)
      exact zb.j _ (za h)
    ·
     subst hj12;have h:=hK12;clear hK12
     refine .ret (.thenRet ?_)
     replace h:=z8 hK1 (za h)
     obtain rfl:=za h
     exact zb.ret0O (.inl o) [220] Tryz.results140 (by decide) (.held o .nil)
  ·
   exact .skip (zb.j _ (za h))
 ·
  have h:=yn hK1 hj1
  refine .seq (.sn mx (.mv o (.mv o (.sub o o (.eqi o (.nil ?_))))))
  obtain⟨o_23,h,hK23⟩:=ym h
  refine .tJ (fun s=>o_23=Res.nx s) (.k4 0 1 2 3 o o o o (.k 4 o .nil)) (.k 220 o .nil) ?_ (fun j_23 hj23=>?_)
  ·
   refine .cb o h (fun _ h=>?_) fun _ h=>?_
   ·
    refine .sn mx (.mv o (.asn o (.nil (.sn mx (.mv o (.asn o (.nil (.seq ?_))))))))
    obtain⟨j_25,h,hK25⟩:=bind_some h
    refine .thenJ (ι:=Int) (fun j_25=>[(14,⟨True,rep j_25⟩)]) (fun j_25=>[]) (fun s=>j_25=s) (.k2 0 2 o o .nil) (.k 220 o .nil) ?_ (fun j_25' hj25=>?_)
    ·
     refine .block (.loopL h (fun s26_=>[(14,⟨True,rep s26_.1⟩),(15,⟨True,rep s26_.2⟩)]) (fun s26_=>[]) (.k2 14 15 o o .nil) zd.nil (.k2 0 2 o o (.k 4 o .nil)) (.k 220 o .nil) (fun s26_ o_26 h hD26=>?_))
     unfold zdq at h
     refine .seq (.sn mx (.mv o (.mv o (.lt o o (.nil (.cb o h (fun _ h=>?_) fun _ h=>?_))))))
     ·
      obtain⟨h2,hv28,h⟩:=zn h
      obtain⟨hn29,h⟩:=zo h
      obtain⟨hn30,h⟩:=zo h
      obtain⟨r2,hv31,h⟩:=bind_some h
      refine .skip (.then (.block (.sn mx (.mv o (.mv o (.add o o (.c (.toK .none (by kernel_rfl) Tryz.underlying194 (.s o)) (.c (.kshr .none (.s o) .ki (fun _=>by decide)) (.c (.toInt .none (by kernel_rfl) Tryz.underlying3 (.s o)) (.ra hv28 o (.nil (.sr [oo,oo,oo,([220],[]),([220],[]),oo,oo,([220],[]),([220],[]),oo,oo,oo] mx (.mvA o (.mvA o (.mvA o (.ixO 220 qt yi o o o hn29 (.cA (.loadElem0 (k:=220) .none yi (.s o) o (fun _=>hn29)) (.mvA o (.mvA o (.ixO 220 qt yi o o o hn30 (.cA (.loadElem0 (k:=220) .none yi (.s o) o (fun _=>hn30)) (.cA (.callV (gx x.1 x.2.2.1,gx x.1 h2,r2) .none (.s o) (fun _=>hv31) (.cons (.s o) (.cons (.s o) .nil))) (.cA (.lt .none (.s o) .i) (.cA (.not .none (.s o)) (.nil (.cb o h (fun _ h=>?_) fun _ h=>?_))))))))))))))))))))))))))
      ·
       obtain⟨i2,hv33,h⟩:=zn h
       exact .rn mx (.mv o (.adi o (.ra hv33 o (.nil (.blkNormal (zb.ag (za h)))))))
      ·
       exact .rn mx (.mv o (.asn o (.nil (.blkNormal (zb.ag (za h))))))
     ·
      refine .exit (.thenExit (.thenExit (.blkExit ?_)))
      replace h:=hD26 _ (za h)
      exact zb.j _ (za h)
    ·
     subst hj25;have h:=hK25;clear hK25
     refine .seq (.sn mx (.mv o (.asn o (.nil ?_))))
     obtain⟨j_34,h,hK34⟩:=bind_some h
     refine .thenJ (ι:=(List zf)) (fun j_34=>[]) (fun j_34=>[(220,some (ze.at s220 (zq 82 j_34)))]) (fun s=>j_34=s) Sub.nil zd.nil ?_ (fun j_34' hj34=>?_)
     ·
      refine .block (.loopL h (fun s35_=>[(17,⟨True,rep s35_.1⟩)]) (fun s35_=>[(220,some (ze.at s220 (zq 82 s35_.2)))]) (.k 17 o .nil) (.k 220 o .nil) (.k2 0 14 o o .nil) zd.nil (fun s35_ o_35 h hD35=>?_))
      unfold zdr at h
      refine .seq (.sn mx (.mv o (.mv o (.c (.gt .none (.s o) (.s o)) (.nil (.cb o h (fun _ h=>?_) fun _ h=>?_))))))
      ·
       obtain⟨hn37,h⟩:=zo h
       obtain⟨v3,hv38,h⟩:=zn h
       obtain⟨hn39,h⟩:=zo h
       obtain⟨v4,hv40,h⟩:=zn h
       obtain⟨hn41,h⟩:=zo h
       obtain⟨hn42,h⟩:=zo h
       obtain⟨data3,hv43,h⟩:=zn h
       obtain⟨k2,hv44,h⟩:=zn h
       exact .skip (.then (.seq (.block (.rg [oo,oo,oo,oo,oo,oo,oo,oo,([220],[]),([220],[]),oo,oo,([220],[]),([220],[]),([220],[]),([220],[220]),([220],[]),([220],[220])] mx (.mvA o (.mvA o (.mvA o (.mvA o (.cA (.subW .none (.s o) .i) (.mvA o (.mvA o (.cA (.subW .none (.s o) .i) (.ixO 220 qt yi o o o hn37 (.cA (.re hv38 (.loadElem0 (k:=220) .none yi (.s o) o (fun _=>hn37))) (.mvA o (.mvA o (.ixO 220 qt yi o o o hn39 (.cA (.re hv40 (.loadElem0 (k:=220) .none yi (.s o) o (fun _=>hn39))) (.ixO 220 qt yi o o o hn41 (.cN (.storeElem0 (k:=220) yi (.s o) o (.s o) hn41) (.ixO 220 qt yi o o o hn42 (.cN (.storeElem0 (k:=220) yi (.s o) o (.s o) hn42) (.nil (.blkNormal (.then (.reB (t:=220) o (congrArg (fun y=>ze.at s220 (zq 82 y)) hv43) (.rn mx (.mv o (.c (.subW .none (.s o) .i) (.ra hv44 o (.nil (zb.ag (za h)))))))))))))))))))))))))))))))))
      ·
       refine .exit (.thenExit (.thenExit (.blkExit ?_)))
       replace h:=hD35 _ (za h)
       exact zb.j _ (za h)
     ·
      subst hj34;have h:=hK34;clear hK34
      refine .ret (.thenRet ?_)
      replace h:=z8 hK23 (za h)
      obtain rfl:=za h
      exact zb.ret0O (.inl o) [220] Tryz.results140 (by decide) (.held o .nil)
   ·
    exact .skip (zb.j _ (za h))
  ·
   have h:=yn hK23 hj23
   obtain⟨mid1,hv45,h⟩:=zn h
   obtain⟨n1,hv46,h⟩:=zn h
   refine .sn mx (.mv o (.mv o (.add o o (.c (.toK .none (by kernel_rfl) Tryz.underlying194 (.s o)) (.c (.kshr .none (.s o) .ki (fun _=>by decide)) (.c (.toInt .none (by kernel_rfl) Tryz.underlying3 (.s o)) (.ra hv45 o (.nil (.sn mx (.mv o (.mv o (.add o o (.ra hv46 o (.nil (.sn mx (.asi (.asi (.nil (.seq (.sn mx (.mv o (.mv o (.c (.gt .none (.s o) (.s o)) (.nil ?_))))))))))))))))))))))))
   obtain⟨j_47,h,hK47⟩:=bind_some h
   refine .thenJ (ι:=(Int×Int)) (fun j_47=>[(20,⟨True,rep j_47.1⟩),(21,⟨True,rep j_47.2⟩)]) (fun j_47=>[]) (fun s=>j_47=s) (.k4 0 1 2 3 o o o o (.k2 4 18 o o (.k 19 o .nil))) (.k 220 o .nil) ?_ (fun j_47' hj47=>?_)
   ·
    refine .cb o h (fun _ h=>?_) fun _ h=>?_
    ·
     obtain⟨start1,hv49,h⟩:=zn h
     exact .sn mx (.mv o (.mv o (.sub o o (.ra hv49 o (.nil (.rn mx (.mv o (.asn o (.nil (zb.j _ (za h)))))))))))
    ·
     exact .sn mx (.mv o (.asn o (.nil (.rn mx (.mv o (.asn o (.nil (zb.j _ (za h)))))))))
   ·
    subst hj47;have h:=hK47;clear hK47
    refine .sn mx (.mv o (.c (.subW .none (.s o) .i) (.asn o (.nil (.seq ?_)))))
    obtain⟨j_50,h,hK50⟩:=bind_some h
    refine .thenJ (ι:=Int) (fun j_50=>[(20,⟨True,rep j_50⟩)]) (fun j_50=>[]) (fun s=>j_50=s) (.k4 0 1 2 3 o o o o (.k2 4 18 o o (.k 19 o .nil))) (.k 220 o .nil) ?_ (fun j_50' hj50=>?_)
    ·
     refine .block (.loopL h (fun s51_=>[(20,⟨True,rep s51_.1⟩),(21,⟨True,rep s51_.2⟩)]) (fun s51_=>[]) (.k2 20 21 o o .nil) zd.nil (.k4 0 1 2 3 o o o o (.k4 4 18 19 22 o o o o .nil)) (.k 220 o .nil) (fun s51_ o_51 h hD51=>?_))
     unfold zds at h
     refine .seq (.sn mx (.mv o (.mv o (.lt o o (.nil (.cb o h (fun _ h=>?_) fun _ h=>?_))))))
     ·
      obtain⟨c1,hv53,h⟩:=zn h
      obtain⟨hn54,h⟩:=zo h
      obtain⟨hn55,h⟩:=zo h
      obtain⟨r3,hv56,h⟩:=bind_some h
      refine .skip (.then (.block (.sn mx (.mv o (.mv o (.add o o (.c (.toK .none (by kernel_rfl) Tryz.underlying194 (.s o)) (.c (.kshr .none (.s o) .ki (fun _=>by decide)) (.c (.toInt .none (by kernel_rfl) Tryz.underlying3 (.s o)) (.ra hv53 o (.nil (.sr [oo,oo,oo,oo,oo,([220],[]),([220],[]),oo,oo,([220],[]),([220],[]),oo,oo,oo] mx (.mvA o (.mvA o (.mvA o (.mvA o (.subA o o (.ixO 220 qt yi o o o hn54 (.cA (.loadElem0 (k:=220) .none yi (.s o) o (fun _=>hn54)) (.mvA o (.mvA o (.ixO 220 qt yi o o o hn55 (.cA (.loadElem0 (k:=220) .none yi (.s o) o (fun _=>hn55)) (.cA (.callV (gx x.1 (W ((W (n1 - 1)) - c1)),gx x.1 c1,r3) .none (.s o) (fun _=>hv56) (.cons (.s o) (.cons (.s o) .nil))) (.cA (.lt .none (.s o) .i) (.cA (.not .none (.s o)) (.nil (.cb o h (fun _ h=>?_) fun _ h=>?_))))))))))))))))))))))))))))
      ·
       obtain⟨start2,hv58,h⟩:=zn h
       exact .rn mx (.mv o (.adi o (.ra hv58 o (.nil (.blkNormal (zb.ag (za h)))))))
      ·
       exact .rn mx (.mv o (.asn o (.nil (.blkNormal (zb.ag (za h))))))
     ·
      refine .exit (.thenExit (.thenExit (.blkExit ?_)))
      replace h:=hD51 _ (za h)
      exact zb.j _ (za h)
    ·
     subst hj50;have h:=hK50;clear hK50
     obtain⟨end1,hv59,h⟩:=zn h
     refine .sn mx (.mv o (.mv o (.sub o o (.ra hv59 o (.nil (.seq (.sn mx (.mv o (.mv o (.lt o o (.mv o (.mg o o o (.mg o o o (.c (.lt (.at o o) (.tmp o id) (.tmp o id)) (.pa o o (.nil ?_))))))))))))))))
     obtain⟨j_60,h,hK60⟩:=bind_some h
     refine .thenJ (ι:=(List zf)) (fun j_60=>[]) (fun j_60=>[(220,some (ze.at s220 (zq 82 j_60)))]) (fun s=>j_60=s) (.k4 0 1 3 4 o o o o (.k2 18 20 o o (.k 24 o .nil))) zd.nil ?_ (fun j_60' hj60=>?_)
     ·
      refine .cb o h (fun _ h=>?_) fun _ h=>?_
      ·
       obtain⟨r4,hv62,h⟩:=bind_some h
       exact .rg [oo,oo,oo,oo,oo,([220],[220])] mx (.mvA o (.mvA o (.mvA o (.mvA o (.mvA o (.cW (.cO [220] (ztJ hv62) (.cons (.s o) (.cons (.s o) (.cons (.s o) (.cons (.s o) (.cons (.s o) .nil))))) (.cons (k:=220) o .nil) o) (.nil (zb.j _ (za h)))))))))
      ·
       exact .skip (zb.j _ (za h))
     ·
      subst hj60;have h:=hK60;clear hK60
      refine .seq (.sn mx (.mv o (.mv o (.lt o o (.mv o (.mg o o o (.mg o o o (.c (.lt (.at o o) (.tmp o id) (.tmp o id)) (.pa o o (.nil ?_))))))))))
      obtain⟨j_63,h,hK63⟩:=bind_some h
      refine .thenJ (ι:=(List zf)) (fun j_63=>[]) (fun j_63=>[(220,some (ze.at s220 (zq 82 j_63)))]) (fun s=>j_63=s) (.k4 0 3 4 18 o o o o (.k 24 o .nil)) zd.nil ?_ (fun j_63' hj63=>?_)
      ·
       refine .cb o h (fun _ h=>?_) fun _ h=>?_
       ·
        obtain⟨r5,hv65,h⟩:=bind_some h
        exact .rg [oo,oo,oo,oo,oo,([220],[220])] mx (.mvA o (.mvA o (.mvA o (.mvA o (.mvA o (.cW (.cO [220] (hself _ _ hv65) (.cons (.s o) (.cons (.s o) (.cons (.s o) (.cons (.s o) (.cons (.s o) .nil))))) (.cons (k:=220) o .nil) o) (.nil (zb.j _ (za h)))))))))
       ·
        exact .skip (zb.j _ (za h))
      ·
       subst hj63;have h:=hK63;clear hK63
       refine .sn mx (.mv o (.mv o (.lt o o (.mv o (.mg o o o (.mg o o o (.c (.lt (.at o o) (.tmp o id) (.tmp o id)) (.pa o o (.nil (.cb o h (fun _ h=>?_) fun _ h=>?_))))))))))
       ·
        obtain⟨r6,hv67,h⟩:=bind_some h
        refine .rg [oo,oo,oo,oo,oo,([220],[220])] mx (.mvA o (.mvA o (.mvA o (.mvA o (.mvA o (.cW (.cO [220] (hself _ _ hv67) (.cons (.s o) (.cons (.s o) (.cons (.s o) (.cons (.s o) (.cons (.s o) .nil))))) (.cons (k:=220) o .nil) o) (.nil ?_)))))))
        obtain rfl:=za h
        exact zb.ret0O (.inr o) [220] Tryz.results140 (by decide) (.held o .nil)
       ·
        refine .skip ?_
        obtain rfl:=za h
        exact zb.ret0O (.inr o) [220] Tryz.results140 (by decide) (.held o .nil)
theorem zmL:∀(k:Nat) {s220:Value} (x:((List zf)×Int×Int×Int×(zf→zf→Option Int))) (r:(List zf)) (h:qp jj k x=some r),ya Tryz.prog 140 [isV s220,rep x.2.1,rep x.2.2.1,rep x.2.2.2.1,fn2 Tryz.prog (rep (α:=Int)) x.2.2.2.2] [(s220,zq 82 x.1)] (z7) [some (zq 82 r)]
 | 0,_,x,r,h=>by simp[qp]at h
 | k+1,_,x,r,h=>ztL (zmL k) h
theorem zmK {data1:(List zf)}{a1:Int}{m1:Int}{b1:Int}{cmp1:(zf→zf→Option Int)}{r:(List zf)}{s220:Value}(h:zfR data1 a1 m1 b1 cmp1=some r):ya Tryz.prog 140 [isV s220,rep a1,rep m1,rep b1,fn2 Tryz.prog (rep (α:=Int)) cmp1] [(s220,zq 82 data1)] (z7) [some (zq 82 r)]:=
 let ⟨k,hk⟩:=zgQ h
 zmL k (data1,a1,m1,b1,cmp1) r hk
theorem ztK {data1:(List zf)}{n1:Int}{cmp1:(zf→zf→Option Int)}{r:(List zf)}{s63:Value}(h:zfO data1 n1 cmp1=some r):ya Tryz.prog 96 [isV s63,rep n1,fn2 Tryz.prog (rep (α:=Int)) cmp1] [(s63,zq 82 data1)] (z7) [some (zq 82 r)]:=by
 unfold zfO at h
 refine ya.i Tryz.func96 o Tryz.ntmps96 o (fun F=>(.sn mx (.asi (.nil (.sn mx (.mv o (.asi (.asn o (.nil (.seq ?_))))))))))
 obtain⟨j_1,h,hK1⟩:=bind_some h
 refine .thenJ (ι:=(Int×(List zf))) (fun j_1=>[(7,⟨True,rep j_1.1⟩)]) (fun j_1=>[(63,some (ze.at s63 (zq 82 j_1.2)))]) (fun s=>j_1=s) (.k4 0 1 2 6 o o o o .nil) zd.nil ?_ (fun j_1' hj1=>?_)
 ·
  refine .block (.loopL h (fun s2_=>[(7,⟨True,rep s2_.1⟩),(8,⟨True,rep s2_.2.1⟩)]) (fun s2_=>[(63,some (ze.at s63 (zq 82 s2_.2.2)))]) (.k2 7 8 o o .nil) (.k 63 o .nil) (.k4 0 1 2 6 o o o o .nil) zd.nil (fun s2_ o_2 h hD2=>?_))
  unfold zdm at h
  refine .seq (.sn mx (.mv o (.mv o (.c (.le .none (.s o) (.s o)) (.nil (.cb o h (fun _ h=>?_) fun _ h=>?_))))))
  ·
   obtain⟨r1,hv4,h⟩:=bind_some h
   obtain⟨b1,hv5,h⟩:=zn h
   exact .skip (.then (.block (.sr [oo,oo,oo,oo,([63],[63])] mx (.mvA o (.mvA o (.mvA o (.mvA o (.cW (.cO [63] (zmJ hv4) (.cons (.s o) (.cons (.s o) (.cons (.s o) (.cons (.s o) .nil)))) (.cons (k:=63) o .nil) o) (.nil (.sn mx (.mv o (.asn o (.nil (.rn mx (.mv o (.mv o (.add o o (.ra hv5 o (.nil (.blkNormal (zb.ag (za h))))))))))))))))))))))
  ·
   refine .exit (.thenExit (.thenExit (.blkExit ?_)))
   replace h:=hD2 _ (za h)
   exact zb.j _ (za h)
 ·
  subst hj1;have h:=hK1;clear hK1
  obtain⟨r2,hv6,h⟩:=bind_some h
  refine .sr [oo,oo,oo,oo,([63],[63])] mx (.mvA o (.mvA o (.mvA o (.mvA o (.cW (.cO [63] (zmJ hv6) (.cons (.s o) (.cons (.s o) (.cons (.s o) (.cons (.s o) .nil)))) (.cons (k:=63) o .nil) o) (.nil (.block (.loopL h (fun s7_=>[(6,⟨True,rep s7_.1⟩)]) (fun s7_=>[(63,some (ze.at s63 (zq 82 s7_.2)))]) (.k 6 o .nil) (.k 63 o .nil) (.k2 0 1 o o (.k 2 o .nil)) zd.nil (fun s7_ o_7 h hD7=>?_)))))))))
  unfold zfP at h
  refine .seq (.sn mx (.mv o (.mv o (.lt o o (.nil (.cb o h (fun _ h=>?_) fun _ h=>?_))))))
  ·
   obtain⟨b2,hv9,h⟩:=zn h
   refine .skip (.then (.block (.sn mx (.mv o (.c (.mulW .none .i (.s o)) (.asi (.ra hv9 o (.nil (.seq ?_)))))))))
   obtain⟨j_10,h,hK10⟩:=bind_some h
   refine .thenJ (ι:=(Int×(List zf))) (fun j_10=>[(7,⟨True,rep j_10.1⟩)]) (fun j_10=>[(63,some (ze.at s63 (zq 82 j_10.2)))]) (fun s=>j_10=s) (.k4 0 1 2 6 o o o o .nil) zd.nil ?_ (fun j_10' hj10=>?_)
   ·
    refine .block (.loopL h (fun s11_=>[(7,⟨True,rep s11_.1⟩),(8,⟨True,rep s11_.2.1⟩)]) (fun s11_=>[(63,some (ze.at s63 (zq 82 s11_.2.2)))]) (.k2 7 8 o o .nil) (.k 63 o .nil) (.k4 0 1 2 6 o o o o .nil) zd.nil (fun s11_ o_11 h hD11=>?_))
    unfold zdn at h
    refine .seq (.sn mx (.mv o (.mv o (.c (.le .none (.s o) (.s o)) (.nil (.cb o h (fun _ h=>?_) fun _ h=>?_))))))
    ·
     obtain⟨r3,hv13,h⟩:=bind_some h
     obtain⟨b3,hv14,h⟩:=zn h
     exact .skip (.then (.block (.sr [oo,oo,oo,oo,oo,oo,oo,([63],[63])] mx (.mvA o (.mvA o (.mvA o (.mvA o (.addA o o (.mvA o (.mvA o (.cW (.cO [63] (zmK hv13) (.cons (.s o) (.cons (.s o) (.cons (.s o) (.cons (.s o) (.cons (.s o) .nil))))) (.cons (k:=63) o .nil) o) (.nil (.sn mx (.mv o (.asn o (.nil (.rn mx (.mv o (.mv o (.c (.mulW .none .i (.s o)) (.add o o (.ra hv14 o (.nil (.blkNormal (zb.ag (za h))))))))))))))))))))))))))
    ·
     refine .exit (.thenExit (.thenExit (.blkExit ?_)))
     replace h:=hD11 _ (za h)
     exact zb.j _ (za h)
   ·
    subst hj10;have h:=hK10;clear hK10
    obtain⟨m1,hv15,h⟩:=zn h
    refine .seq (.sn mx (.mv o (.mv o (.add o o (.ra hv15 o (.nil (.sn mx (.mv o (.mv o (.lt o o (.nil ?_)))))))))))
    obtain⟨j_16,h,hK16⟩:=bind_some h
    refine .thenJ (ι:=(List zf)) (fun j_16=>[]) (fun j_16=>[(63,some (ze.at s63 (zq 82 j_16)))]) (fun s=>j_16=s) (.k4 0 1 2 6 o o o o .nil) zd.nil ?_ (fun j_16' hj16=>?_)
    ·
     refine .cb o h (fun _ h=>?_) fun _ h=>?_
     ·
      obtain⟨r4,hv18,h⟩:=bind_some h
      exact .rg [oo,oo,oo,oo,oo,([63],[63])] mx (.mvA o (.mvA o (.mvA o (.mvA o (.mvA o (.cW (.cO [63] (zmK hv18) (.cons (.s o) (.cons (.s o) (.cons (.s o) (.cons (.s o) (.cons (.s o) .nil))))) (.cons (k:=63) o .nil) o) (.nil (zb.j _ (za h)))))))))
     ·
      exact .skip (zb.j _ (za h))
    ·
     subst hj16;have h:=hK16;clear hK16
     obtain⟨blockSize1,hv19,h⟩:=zn h
     exact .rn mx (.mv o (.c (.mulW .none (.s o) .i) (.ra hv19 o (.nil (.blkNormal (zb.ag (za h)))))))
  ·
   refine .exit (.thenExit (.thenExit (.blkExit ?_)))
   replace h:=hD7 _ (za h)
   obtain rfl:=za h
   exact zb.ret0O (.inr o) [63] Tryz.results96 (by decide) (.held o .nil)
theorem ztI {x1:(List zf)}{cmp1:(zf→zf→Option Int)}{r:(List zf)}{s9:Value}(h:zdk x1 cmp1=some r):ya Tryz.prog 36 [isV s9,fn2 Tryz.prog (rep (α:=Int)) cmp1] [(s9,zq 82 x1)] (z7) [some (zq 82 r)]:=by
 unfold zdk at h
 obtain⟨r1,hv1,h⟩:=bind_some h
 refine ya.i Tryz.func36 o Tryz.ntmps36 o (fun F=>(.rg [oo,oo,([9],[]),oo,([9],[9])] mx (.mvA o (.mvA o (.cA (.lenO (k:=9) qt (.told (.s o) o)) (.mvA o (.cW (.cO [9] (ztK hv1) (.cons (.s o) (.cons (.s o) (.cons (.s o) .nil))) (.cons (k:=9) o .nil) o) (.nil ?_))))))))
 obtain rfl:=za h
 exact zb.ret0O (.inr o) [9] Tryz.results36 (by decide) (.held o .nil)
theorem zoW {a1:zf}{b1:zf}{r:Int}  (h:zaz a1 b1=some r):zk Tryz.prog 37 [rep a1,rep b1] (rep r):=by
 unfold zaz at h
 obtain⟨r1,hv1,h⟩:=bind_some h
 refine zk.i Tryz.func37 o Tryz.ntmps37 o (fun F=>(.sn mx (.c (.box .none (.s o)) (.c (.box .none (.s o)) (.asi (.nil (.sn mx (.fa zcb zka o (.ld ty3 o (.fa zcb zka o (.ld ty3 o (.c (.call .none (ziK hv1) (.cons (.s o) (.cons (.s o) .nil))) (.asn o (.nil (.ret ?_)))))))))))))))
 obtain rfl:=za h
 exact zb.rt Tryz.results37 o
end Go.Proofs.YtenpeohfmbilaaaGreatDoor
