/- A part of the proof. -/
import Derived.Test.YtmfcdppbnbfpjaaGreatDoorRerWa2
set_option maxRecDepth 100000
set_option linter.unusedVariables false
namespace Go.Proofs.YtmfcdppbnbfpjaaGreatDoor
open Go Go.DB Go.RowKit
theorem JV {side1:Int}{r:zd}  (h:Qq side1=some r):zi Tryz.prog 43 [rep side1] (rep r):=by
 unfold Qq at h
 obtain⟨v1,hv1,h⟩:=zh h
 refine zi.i Tryz.func43 e Tryz.ntmps43 e (fun F=>(.sr [([],[2])] mx (.al yG e (.nil (.reB (t:=2) e (congrArg (zE 46) hv1) (.nameBox (t:=2) (g:=5001) e e (fun m5001=>(.seq (.sn mx (.mv e (.nil (.block (.sn mx (.eqi e (.asn e (.nil (.cb e h (fun _ h=>?_) fun _ h=>?_)))))))))))))))))
 ·
  obtain⟨v2,hv3,h⟩:=zh h
  refine .sr [oo,([5001],[5001])] mx (.cA (.re hv3 (.buildF (y:=(⟨(0:Int),(-1)⟩:zd)) .none qe qh e (.cons .i .nil) (.cons e qV .nil))) (.s0 5001 zw e e e (.nil (.fb 5001 [2] e (.cons (t:=2) e trivial .nil) (.ret (.blkRet (.thenRet ?_)))))))
  obtain rfl:=za h
  exact zb.ret1 (.inl e) Tryz.results43 (zO.cellR zw e trivial Imp.refl)
 ·
  refine .sn mx (.eqi e (.asn e (.nil (.cb e h (fun _ h=>?_) fun _ h=>?_))))
  ·
   obtain⟨v3,hv5,h⟩:=zh h
   refine .sr [oo,([5001],[5001])] mx (.cA (.re hv5 (.buildF (y:=(⟨1,(0:Int)⟩:zd)) .none qe qh e (.cons .i .nil) (.cons e qS .nil))) (.s0 5001 zw e e e (.nil (.fb 5001 [2] e (.cons (t:=2) e trivial .nil) (.ret (.blkRet (.thenRet ?_)))))))
   obtain rfl:=za h
   exact zb.ret1 (.inl e) Tryz.results43 (zO.cellR zw e trivial Imp.refl)
  ·
   refine .sn mx (.eqi e (.asn e (.nil (.cb e h (fun _ h=>?_) fun _ h=>?_))))
   ·
    obtain⟨v4,hv7,h⟩:=zh h
    refine .sr [oo,([5001],[5001])] mx (.cA (.re hv7 (.buildF (y:=(⟨(0:Int),1⟩:zd)) .none qe qh e (.cons .i .nil) (.cons e qV .nil))) (.s0 5001 zw e e e (.nil (.fb 5001 [2] e (.cons (t:=2) e trivial .nil) (.ret (.blkRet (.thenRet ?_)))))))
    obtain rfl:=za h
    exact zb.ret1 (.inl e) Tryz.results43 (zO.cellR zw e trivial Imp.refl)
   ·
    obtain⟨v5,hv8,h⟩:=zh h
    refine .skip (.blkNormal (.then (.sr [oo,([5001],[5001])] mx (.cA (.re hv8 (.buildF (y:=(⟨(-1),(0:Int)⟩:zd)) .none qe qh e (.cons .i .nil) (.cons e qS .nil))) (.s0 5001 zw e e e (.nil (.fb 5001 [2] e (.cons (t:=2) e trivial .nil) (.ret ?_))))))))
    obtain rfl:=za h
    exact zb.ret1 (.inl e) Tryz.results43 (zO.cellR zw e trivial Imp.refl)
theorem zgO {p1:zd}{way1:zd}{n1:Int}{r:zd}  (h:Y4 p1 way1 n1=some r):zi Tryz.prog 45 [rep p1,rep way1,rep n1] (rep r):=by
 unfold Y4 at h
 obtain⟨v1,hv1,h⟩:=zh h
 obtain⟨v2,hv2,h⟩:=zh h
 refine zi.i Tryz.func45 e Tryz.ntmps45 e (fun F=>(.sr [oo,oo,([],[6])] mx (.cA (.box .none (.s e)) (.cA (.box .none (.s e)) (.al yG e (.nil (.reB (t:=6) e (congrArg (zE 46) hv1) (.nameBox (t:=6) (g:=5001) e e (fun m5001=>(.sr [oo,oo,oo,oo,oo,oo,oo,oo,oo,oo,oo,oo,oo,oo,oo,([5001],[5001])] mx (.faA yt yu e (.ldA ty3 e (.mvA e (.faA yt yu e (.ldA ty3 e (.cA (.mulW .none (.s e) (.s e)) (.addA e e (.faA yV yW e (.ldA ty3 e (.mvA e (.faA yV yW e (.ldA ty3 e (.cA (.mulW .none (.s e) (.s e)) (.addA e e (.cA (.re hv2 (.buildF (y:=(⟨W (p1.X+(W (n1*way1.X))),W (p1.Y+(W (n1*way1.Y)))⟩:zd)) .none qe qh e (.cons (.s e) (.cons (.s e) .nil)) (.cons e qS (.cons e qV .nil)))) (.s0 5001 zw e e e (.nil (.fb 5001 [6] e (.cons (t:=6) e trivial .nil) (.ret ?_)))))))))))))))))))))))))))))
 obtain rfl:=za h
 exact zb.ret1 (.inl e) Tryz.results45 (zO.cellR zw e trivial Imp.refl)
theorem zej {t1:zA}{r:(zd×zd)}  (h:YZ t1=some r):zi Tryz.prog 37 [rep t1] (tup [rep r.1,rep r.2]):=by
 unfold YZ at h
 obtain⟨v1,hv1,h⟩:=zh h
 obtain⟨v2,hv2,h⟩:=zh h
 obtain⟨r1,hv3,h⟩:=bind_some h
 obtain⟨r2,hv4,h⟩:=bind_some h
 obtain⟨r3,hv5,h⟩:=bind_some h
 obtain⟨r4,hv6,h⟩:=bind_some h
 refine zi.i Tryz.func37 e Tryz.ntmps37 e (fun F=>(.sr [oo,([],[2]),([],[3])] mx (.cA (.box .none (.s e)) (.al yG e (.al yG e (.nil (.reB (t:=2) e (congrArg (zE 46) hv1) (.reB (t:=3) e (congrArg (zE 46) hv2) (.nameBox (t:=2) (g:=5001) e e (fun m5001=>(.nameBox (t:=3) (g:=5002) e e (fun m5002=>(.sr [oo,oo,oo,oo,oo,oo,oo,oo,oo,oo,oo,oo,oo,oo,oo,oo,([5001],[5001]),([5002],[5002])] mx (.faA zat zaB e (.ldA zw e (.faA Jw JB e (.ldA ty3 e (.cA (.call .none (JV hv3) (.cons (.s e) .nil)) (.faA qF qG e (.ldA ty3 e (.cA (.call .none (zgO hv4) (.cons (.s e) (.cons (.s e) (.cons (.s e) .nil)))) (.faA zau zaC e (.ldA zw e (.faA YM YP e (.ldA ty3 e (.cA (.call .none (JV hv5) (.cons (.s e) .nil)) (.faA qF qG e (.ldA ty3 e (.cA (.call .none (zgO hv6) (.cons (.s e) (.cons (.s e) (.cons (.s e) .nil)))) (.s0 5001 zw e e e (.s0 5002 zw e e e (.nil (.freezeBox (g:=5001) (ts:=[2]) e (.cons (t:=2) e trivial .nil) (.k 5002 e .nil) e (.fb 5002 [3] e (.cons (t:=3) e trivial .nil) (.ret ?_)))))))))))))))))))))))))))))))))))
 obtain rfl:=za h
 exact zb.ret2 (.inl e) Tryz.results37 (zO.cellR zw e trivial Imp.refl) (zO.cellR zw e trivial Imp.refl)
theorem zpP {t1:zA}{r:Int}  (h:Y3 t1=some r):zi Tryz.prog 14 [rep t1] (rep r):=by
 unfold Y3 at h
 obtain⟨r1,hv1,h⟩:=bind_some h
 obtain⟨r2,hv2,h⟩:=bind_some h
 obtain⟨r3,hv3,h⟩:=bind_some h
 obtain⟨r4,hv4,h⟩:=bind_some h
 obtain⟨r5,hv5,h⟩:=bind_some h
 obtain⟨e1,hv6,h⟩:=bind_some h
 refine zi.i Tryz.func14 e Tryz.ntmps14 e (fun F=>(.sn mx (.c (.box .none (.s e)) (.asi (.nil (.seq (.sn mx (.fa zat zaB e (.ld zw e (.c (.call .none (zaV hv1) (.cons (.s e) .nil)) (.fa Jw JB e (.ld ty3 e (.c (.call .none (zkf hv2) (.cons (.s e) .nil)) (.fa zau zaC e (.ld zw e (.c (.call .none (zaV hv3) (.cons (.s e) .nil)) (.fa YM YP e (.ld ty3 e (.c (.call .none (zkf hv4) (.cons (.s e) .nil)) (.fa Yf JC e (.ld Jj e (.ln y5 e (.c (.gt .none (.s e) .i) (.c (.call .none (jw hv5) (.cons (.s e) (.cons .i .nil))) (.c (.buildSlice (xs:=[_,_,_,_,_]) .none vV vY QJ (.cons (.s e) (.cons (.s e) (.cons (.s e) (.cons (.s e) (.cons (.s e) .nil))))) e (by decide)) (.c (.call .none (QP hv6) (.cons (.s e) .nil)) (.asn e (.nil (.sn mx (.mv e (.nei e (.nil (.cb e h (fun _ h=>?_) fun _ h=>?_)))))))))))))))))))))))))))))))))
 ·
  refine .sn mx (.mv e (.asn e (.nil (.ret (.thenRet ?_)))))
  obtain rfl:=za h
  exact zb.rt Tryz.results14 e
 ·
  obtain⟨e2,hv8,h⟩:=bind_some h
  refine .skip (.then (.seq (.sn mx (.fa Yf JC e (.ld Jj e (.c (.call .none (zpz hv8) (.cons (.s e) .nil)) (.asn e (.nil (.sn mx (.mv e (.nei e (.nil (.cb e h (fun _ h=>?_) fun _ h=>?_)))))))))))))
  ·
   refine .sn mx (.mv e (.asn e (.nil (.ret (.thenRet ?_)))))
   obtain rfl:=za h
   exact zb.rt Tryz.results14 e
  ·
   obtain⟨r6,hv10,h⟩:=bind_some h
   refine .skip (.then (.seq (.sn mx (.fa qF qG e (.ld ty3 e (.c (.call .none (vw hv10) (.cons (.s e) (.cons .i (.cons .i .nil)))) (.c (.not .none (.s e)) (.nil (.cb e h (fun _ h=>?_) fun _ h=>?_)))))))))
   ·
    refine .sn mx (.asi (.nil (.ret (.thenRet ?_))))
    obtain rfl:=za h
    exact zb.rt Tryz.results14 e
   ·
    obtain⟨r7,hv12,h⟩:=bind_some h
    obtain⟨r8,hv13,h⟩:=bind_some h
    obtain⟨r9,hv14,h⟩:=bind_some h
    obtain⟨r10,hv15,h⟩:=bind_some h
    refine .skip (.then (.sr [oo,oo,oo,oo,oo,([],[5]),([],[6]),([5],[5]),([6],[6])] mx (.ldA qn e (.cA (.call .none (zej hv12) (.cons (.s e) .nil)) (.mvA e (.exA e e (.exA e e (.al yG e (.al yG e (.st zw e e e (.st zw e e e (.nil (.freeze (t:=5) e e (.k 6 e .nil) e (.freeze (t:=6) e e ze.nil e (.sn mx (.ld zw e (.c (.call .none (zaV hv13) (.cons (.s e) .nil)) (.ld zw e (.c (.call .none (zaV hv14) (.cons (.s e) .nil)) (.c (.buildSlice (xs:=[_,_]) .none vV vY QJ (.cons (.s e) (.cons (.s e) .nil)) e (by decide)) (.c (.call .none (QP hv15) (.cons (.s e) .nil)) (.asn e (.nil (.ret ?_))))))))))))))))))))))))
    obtain rfl:=za h
    exact zb.rt Tryz.results14 e
theorem zpV {l1:(List Int)}{r:(List Int)}  (h:JU l1=some r):zi Tryz.prog 87 [rep l1] (rep r):=by
 unfold JU at h
 refine zi.i Tryz.func87 e Tryz.ntmps87 e (fun F=>(.sn mx (.c (.assign .none (.const (x:=([]:(List Int))) (fun M w=>⟨_,⟨none,0,rfl,Nat.le_refl _,by decide,rfl⟩,rfl⟩))) (.nil (.sr [([],[3])] mx (.cW (.nilRow (T:=3) (α:=Int) e) (.nil (.nameRow (t:=3) (g:=5001) e e e (fun s5001=>(.seq (.sn mx (.mv e (.ln yl e (.mvi (.nil ?_)))))))))))))))
 obtain⟨j_1,h,hK1⟩:=bind_some h
 refine .thenJ (ι:=(List Int)) (fun j_1=>[]) (fun j_1=>[(3,some (zk 3 j_1))]) (fun s=>j_1=s) Sub.nil ze.nil ?_ (fun j_1' hj1=>?_)
 ·
  refine .block (.anon (t:=3) (g:=5001) e e trivial e (.rforL h (fun p2_=>[(10,⟨True,rep p2_.1⟩)]) (fun p2_=>[(3,some (zk 3 p2_.2))]) (.k 10 e .nil) (.k 3 e .nil) (.k2 8 9 e e .nil) ze.nil (fun p2_ o_2 h hD2=>(.nameRow (t:=3) (g:=5002) e e e (fun s5002=>(.sn mx (.lt e e (.nil (.seq (.cb e h (fun _ h=>?_) fun _ h=>?_))))))))))
  ·
   refine .skip (.then (.seq ?_))
   obtain⟨j_4,h,hK4⟩:=bind_some h
   unfold zgL at h
   refine .thenJ (ι:=(List Int)) (fun j_4=>[]) (fun j_4=>[(3,some (zk 3 j_4))]) (fun s=>j_4=s) (.k2 8 9 e e (.k 10 e .nil)) ze.nil ?_ (fun j_4' hj4=>?_)
   ·
    obtain⟨hn5,h⟩:=zr h
    obtain⟨n1,hv6,h⟩:=zh h
    obtain⟨v1,hv7,h⟩:=zh h
    refine .block (.sn mx (.ix yl ty3 e e hn5 (.ld ty3 e (.ra hv6 e (.nil (.sn mx (.mv e (.c (.subW .none (.s e) .i) (.mv e (.mv e (.adi e (.c (.re hv7 (.buildSlice (xs:=[_,_,_]) .none yl ty3 hz3 (.cons (.s e) (.cons (.s e) (.cons (.s e) .nil))) e (by decide))) (.ln yl e (.mvi (.nil (.block (.anon (t:=3) (g:=5002) e e trivial e (.rforL h (fun p8_=>[(21,⟨True,rep p8_.1⟩)]) (fun p8_=>[(3,some (zk 3 p8_.2))]) (.k 21 e .nil) (.k 3 e .nil) (.k4 8 9 10 19 e e e e (.k 20 e .nil)) ze.nil (fun p8_ o_8 h hD8=>(.nameRow (t:=3) (g:=5003) e e e (fun s5003=>(.sn mx (.lt e e (.nil (.seq (.cb e h (fun _ h=>?_) fun _ h=>?_))))))))))))))))))))))))))
    ·
     refine .skip (.then (.seq ?_))
     obtain⟨j_10,h,hK10⟩:=bind_some h
     unfold za3 at h
     refine .thenJ (ι:=(List Int)) (fun j_10=>[]) (fun j_10=>[(3,some (zk 3 j_10))]) (fun s=>j_10=s) (.k4 8 9 10 19 e e e e (.k2 20 21 e e .nil)) ze.nil ?_ (fun j_10' hj10=>?_)
     ·
      obtain⟨hn11,h⟩:=zr h
      obtain⟨k1,hv12,h⟩:=zh h
      obtain⟨r1,hv13,h⟩:=bind_some h
      refine .block (.sn mx (.ix yl ty3 e e hn11 (.ld ty3 e (.ra hv12 e (.nil (.sn mx (.mv e (.c (.call .none (vw hv13) (.cons (.s e) (.cons .i (.cons .i .nil)))) (.nil (.cb e h (fun _ h=>?_) fun _ h=>?_))))))))))
      ·
       obtain⟨hn15,h⟩:=zr h
       exact .rg [oo,oo,oo,([5003],[30,5003]),([30],[3,30])] mx (.mvA e (.mvA e (.cA (.buildSlice (xs:=[_]) .none yl ty3 hz3 (.cons (.s e) .nil) e (by decide)) (.cW (.append (k:=5003) za7 e (.told (.s e) e) (.s e) hn15) (.consWD (.passRow e (.tmp e)) e e (.nil (.blkNormal (zb.j _ (za h)))))))))
      ·
       exact .skip (.blkNormal (.anon (t:=3) (g:=5003) e e trivial e (zb.j _ (za h))))
     ·
      subst hj10;have h:=hK10;clear hK10
      exact .nameRow (t:=3) (g:=5004) e e e (fun s5004=>(.rn mx (.adi e (.mv e (.nil (.anon (t:=3) (g:=5004) e e trivial e (zb.ag (za h))))))))
    ·
     refine .exit (.thenExit (.thenExit (.blkExit (.blkNormal (.anon (t:=3) (g:=5003) e e trivial e ?_)))))
     replace h:=hD8 _ (za h)
     exact zb.j _ (za h)
   ·
    subst hj4;have h:=hK4;clear hK4
    exact .nameRow (t:=3) (g:=5005) e e e (fun s5005=>(.rn mx (.adi e (.mv e (.nil (.anon (t:=3) (g:=5005) e e trivial e (zb.ag (za h))))))))
  ·
   refine .exit (.thenExit (.thenExit (.blkExit (.anon (t:=3) (g:=5002) e e trivial e ?_))))
   replace h:=hD2 _ (za h)
   exact zb.j _ (za h)
 ·
  subst hj1;have h:=hK1;clear hK1
  obtain⟨r2,hv16,h⟩:=bind_some h
  obtain⟨r3,hv17,h⟩:=bind_some h
  refine .nameRow (t:=3) (g:=5006) e e e (fun s5006=>(.sr [oo,([5006],[5006])] mx (.mvA e (.cW (.cO [5006] (zhr hv16) (.cons (.s e) .nil) (.cons (k:=5006) e .nil) e) (.nil (.sr [oo,([5006],[5006]),oo] mx (.mvA e (.cW (.cO [5006] ((zhj hv17).frzO1) (.cons (.s e) .nil) (.cons (k:=5006) e .nil) e) (.asnA e (.nil (.ret ?_)))))))))))
  obtain rfl:=za h
  exact zb.rt Tryz.results87 e
theorem zkd {t1:zA}{r:((List Int)×(List Int))}  (h:za2 t1=some r):zi Tryz.prog 38 [rep t1] (tup [rep r.1,rep r.2]):=by
 unfold za2 at h
 obtain⟨r1,hv1,h⟩:=bind_some h
 obtain⟨xs1,hv2,h⟩:=zh h
 obtain⟨ys1,hv3,h⟩:=zh h
 refine zi.i Tryz.func38 e Tryz.ntmps38 e (fun F=>(.sn mx (.c (.box .none (.s e)) (.c (.assign .none (.const (x:=([]:(List Int))) (fun M w=>⟨_,⟨none,0,rfl,Nat.le_refl _,by decide,rfl⟩,rfl⟩))) (.c (.assign .none (.const (x:=([]:(List Int))) (fun M w=>⟨_,⟨none,0,rfl,Nat.le_refl _,by decide,rfl⟩,rfl⟩))) (.nil (.sr [oo,oo,oo,oo,oo,([],[4]),([],[5]),([4],[4]),([5],[5])] mx (.ldA qn e (.cA (.call .none (zej hv1) (.cons (.s e) .nil)) (.mvA e (.exA e e (.exA e e (.al yG e (.al yG e (.st zw e e e (.st zw e e e (.nil (.freeze (t:=4) e e (.k 5 e .nil) e (.freeze (t:=5) e e ze.nil e (.sr [oo,oo,oo,oo,([],[18]),oo,oo,oo,oo,([],[23]),([18],[2,18]),([23],[3,23])] mx (.faA yt yu e (.ldA ty3 e (.faA yt yu e (.ldA ty3 e (.cW (.buildSliceO (xs:=[_,_]) e yl ty3 hz3 (.cons (.s e) (.cons (.s e) .nil)) e (by decide)) (.faA yV yW e (.ldA ty3 e (.faA yV yW e (.ldA ty3 e (.cW (.buildSliceO (xs:=[_,_]) e yl ty3 hz3 (.cons (.s e) (.cons (.s e) .nil)) e (by decide)) (.cW (.passRow e (.tmp e)) (.cW (.passRow e (.tmp e)) (.nil (.reB (t:=2) e (congrArg (zk 3) hv2) (.reB (t:=3) e (congrArg (zk 3) hv3) (.nameRow (t:=2) (g:=5001) e e e (fun s5001=>(.nameRow (t:=3) (g:=5002) e e e (fun s5002=>(.seq (.sn mx (.fa Yf JC e (.ld Jj e (.ln y5 e (.mvi (.nil ?_))))))))))))))))))))))))))))))))))))))))))))))
 obtain⟨j_4,h,hK4⟩:=bind_some h
 refine .thenJ (ι:=((List Int)×(List Int))) (fun j_4=>[]) (fun j_4=>[(2,some (zk 3 j_4.1)),(3,some (zk 3 j_4.2))]) (fun s=>j_4=s) Sub.nil ze.nil ?_ (fun j_4' hj4=>?_)
 ·
  refine .block (.anon (t:=2) (g:=5001) e e trivial e (.anon (t:=3) (g:=5002) e e trivial e (.rforL h (fun p5_=>[(27,⟨True,rep p5_.1⟩)]) (fun p5_=>[(2,some (zk 3 p5_.2.1)),(3,some (zk 3 p5_.2.2))]) (.k 27 e .nil) (.k2 2 3 e e .nil) (.k2 1 25 e e (.k 26 e .nil)) ze.nil (fun p5_ o_5 h hD5=>(.nameRow (t:=2) (g:=5003) e e e (fun s5003=>(.nameRow (t:=3) (g:=5004) e e e (fun s5004=>(.sn mx (.lt e e (.nil (.seq (.cb e h (fun _ h=>?_) fun _ h=>?_)))))))))))))
  ·
   refine .skip (.then (.seq ?_))
   obtain⟨j_7,h,hK7⟩:=bind_some h
   unfold zgM at h
   refine .thenJ (ι:=((List Int)×(List Int))) (fun j_7=>[]) (fun j_7=>[(2,some (zk 3 j_7.1)),(3,some (zk 3 j_7.2))]) (fun s=>j_7=s) (.k4 1 25 26 27 e e e e .nil) ze.nil ?_ (fun j_7' hj7=>?_)
   ·
    obtain⟨hn8,h⟩:=zr h
    obtain⟨v1,hv9,h⟩:=zh h
    obtain⟨hn10,h⟩:=zr h
    obtain⟨xs2,hv11,h⟩:=zh h
    obtain⟨hn12,h⟩:=zr h
    exact .block (.sr [oo,oo,([],[7]),([7],[7])] mx (.ixA y5 zK e e hn8 (.rlA hv9 zK e (.al q8 e (.st zK e e e (.nil (.freeze (t:=7) e e (.k2 5003 5004 e e .nil) e (.sr [oo,oo,oo,oo,oo,oo,oo,oo,oo,oo,oo,oo,oo,oo,oo,([5003],[46,5003]),([46],[2,46])] mx (.mvA e (.faA qf y7 e (.ldA ty3 e (.faA qF qG e (.ldA ty3 e (.subA e e (.faA qf y7 e (.ldA ty3 e (.faA yQ yL e (.ldA ty3 e (.addA e e (.faA qF qG e (.ldA ty3 e (.addA e e (.cA (.buildSlice (xs:=[_,_]) .none yl ty3 hz3 (.cons (.s e) (.cons (.s e) .nil)) e (by decide)) (.cW (.append (k:=5003) za7 e (.told (.s e) e) (.s e) hn10) (.cW (.passRow e (.tmp e)) (.nil (.reB (t:=2) e (congrArg (zk 3) hv11) (.nameRow (t:=2) (g:=5005) e e e (fun s5005=>(.rg [oo,oo,oo,oo,oo,oo,oo,oo,oo,oo,oo,oo,oo,oo,oo,([5004],[62,5004]),([62],[3,62])] mx (.mvA e (.faA qg y8 e (.ldA ty3 e (.faA qF qG e (.ldA ty3 e (.subA e e (.faA qg y8 e (.ldA ty3 e (.faA yU yR e (.ldA ty3 e (.addA e e (.faA qF qG e (.ldA ty3 e (.addA e e (.cA (.buildSlice (xs:=[_,_]) .none yl ty3 hz3 (.cons (.s e) (.cons (.s e) .nil)) e (by decide)) (.cW (.append (k:=5004) za7 e (.told (.s e) e) (.s e) hn12) (.cW (.passRow e (.tmp e)) (.nil (.blkNormal (.anon (t:=2) (g:=5005) e e trivial e (zb.j _ (za h))))))))))))))))))))))))))))))))))))))))))))))))))))
   ·
    subst hj7;have h:=hK7;clear hK7
    exact .nameRow (t:=2) (g:=5006) e e e (fun s5006=>(.nameRow (t:=3) (g:=5007) e e e (fun s5007=>(.rn mx (.adi e (.mv e (.nil (.anon (t:=2) (g:=5006) e e trivial e (.anon (t:=3) (g:=5007) e e trivial e (zb.ag (za h)))))))))))
  ·
   refine .exit (.thenExit (.thenExit (.blkExit (.anon (t:=2) (g:=5003) e e trivial e (.anon (t:=3) (g:=5004) e e trivial e ?_)))))
   replace h:=hD5 _ (za h)
   exact zb.j _ (za h)
 ·
  subst hj4;have h:=hK4;clear hK4
  refine .freezeRowA (t:=2) e e (.k 3 e .nil) e (.freezeRowA (t:=3) e e ze.nil e (.sn mx (.c (.assign .none (Opd.func (ι:=(List Int)×(List Int)) (pre:=fun i=>JU i.1=some i.2) (Ss:=fun i=>[rep i.1]) (S:=fun i=>rep i.2) znK (fun i h=>zpV h))) ?_)))
  obtain⟨xs3,hv13,h⟩:=bind_some h
  obtain⟨ys2,hv14,h⟩:=bind_some h
  refine .nil (.sn mx (.mv e (.mv e (.c (.callV (j_4.1,xs3) .none (.s e) (fun _=>hv13) (.cons (.s e) .nil)) (.mv e (.mv e (.c (.callV (j_4.2,ys2) .none (.s e) (fun _=>hv14) (.cons (.s e) .nil)) (.asn e (.asn e (.nil (.ret ?_)))))))))))
  obtain rfl:=za h
  exact zb.ret2 (.inl e) Tryz.results38 (zO.tmp e trivial Imp.refl) (zO.tmp e trivial Imp.refl)
theorem zpA {s1:zQ}{c0_1:(List Int)}{c1_1:(List Int)}{r:zd}  (h:Yv s1 c0_1 c1_1=some r):zi Tryz.prog 39 [rep s1,ref c0_1,ref c1_1] (rep r):=by
 unfold Yv at h
 obtain⟨v1,hv1,h⟩:=zh h
 obtain⟨hn2,h⟩:=zr h
 obtain⟨hn3,h⟩:=zr h
 obtain⟨v2,hv4,h⟩:=zh h
 refine zi.i Tryz.func39 e Tryz.ntmps39 e (fun F=>(.sr [oo,([],[4])] mx (.cA (.box .none (.s e)) (.al yG e (.nil (.reB (t:=4) e (congrArg (zE 46) hv1) (.nameBox (t:=4) (g:=5001) e e (fun m5001=>(.sr [oo,oo,oo,oo,oo,oo,oo,oo,oo,oo,oo,([5001],[5001])] mx (.ldA y6 e (.faA zfR zf8 e (.ldA ty3 e (.ixA yl ty3 e e hn2 (.ldA ty3 e (.ldA y6 e (.faA zfS zf9 e (.ldA ty3 e (.ixA yl ty3 e e hn3 (.ldA ty3 e (.cA (.re hv4 (.buildF (y:=(⟨gx c0_1 s1.x,gx c1_1 s1.y⟩:zd)) .none qe qh e (.cons (.s e) (.cons (.s e) .nil)) (.cons e qS (.cons e qV .nil)))) (.s0 5001 zw e e e (.nil (.fb 5001 [4] e (.cons (t:=4) e trivial .nil) (.ret ?_))))))))))))))))))))))))
 obtain rfl:=za h
 exact zb.ret1 (.inl e) Tryz.results39 (zO.cellR zw e trivial Imp.refl)
theorem zpB {p1:zd}{way1:Int}{c0_1:(List Int)}{c1_1:(List Int)}{r:zQ}  (h:YX p1 way1 c0_1 c1_1=some r):zi Tryz.prog 40 [rep p1,rep way1,ref c0_1,ref c1_1] (rep r):=by
 unfold YX at h
 obtain⟨v1,hv1,h⟩:=zh h
 obtain⟨r1,hv2,h⟩:=bind_some h
 obtain⟨r2,hv3,h⟩:=bind_some h
 obtain⟨v2,hv4,h⟩:=zh h
 refine zi.i Tryz.func40 e Tryz.ntmps40 e (fun F=>(.sr [oo,([],[6])] mx (.cA (.box .none (.s e)) (.al ze7 e (.nil (.reB (t:=6) e (congrArg (zE 83) hv1) (.nameBox (t:=6) (g:=5001) e e (fun m5001=>(.sn mx (.ld y6 e (.fa yt yu e (.ld ty3 e (.c (.call .none (Jf hv2) (.cons (.s e) (.cons (.s e) .nil))) (.mv e (.ex e e (.ex e e (.asn e (.asn e (.nil (.sn mx (.ld y6 e (.fa yV yW e (.ld ty3 e (.c (.call .none (Jf hv3) (.cons (.s e) (.cons (.s e) .nil))) (.mv e (.ex e e (.ex e e (.asn e (.asn e (.nil (.sr [oo,oo,oo,oo,([5001],[5001])] mx (.mvA e (.mvA e (.mvA e (.cA (.re hv4 (.buildF (y:=(⟨r1.1,r2.1,way1⟩:zQ)) .none zh6 zlm e (.cons (.s e) (.cons (.s e) (.cons (.s e) .nil))) (.cons e zkP (.cons e zkQ (.cons e zkR .nil))))) (.s0 5001 qW e e e (.nil (.fb 5001 [6] e (.cons (t:=6) e trivial .nil) (.ret ?_)))))))))))))))))))))))))))))))))))))))
 obtain rfl:=za h
 exact zb.ret1 (.inl e) Tryz.results40 (zO.cellR qW e trivial Imp.refl)
theorem zpS {w1:Box}{c0_1:zA}{c1_1:zd}{c2_1:zd}{r:Bool}  (h:JS w1 c0_1 c1_1 c2_1=some r):zi Tryz.prog 93 [rep w1,ref c0_1,ref c1_1,ref c2_1] (rep r):=by
 unfold JS at h
 refine zi.i Tryz.func93 e Tryz.ntmps93 e (fun F=>(.sn mx (.c (.box .none (.s e)) (.asb (.nil (.sn mx (.fa qf y7 e (.ld ty3 e (.fa qF qG e (.ld ty3 e (.sub e e (.fa qg y8 e (.ld ty3 e (.fa qF qG e (.ld ty3 e (.sub e e (.fa qf y7 e (.ld ty3 e (.fa yQ yL e (.ld ty3 e (.add e e (.fa qF qG e (.ld ty3 e (.add e e (.fa qg y8 e (.ld ty3 e (.fa yU yR e (.ld ty3 e (.add e e (.fa qF qG e (.ld ty3 e (.add e e (.asn e (.asn e (.asn e (.asn e (.nil (.sn mx (.fa yt yu e (.ld ty3 e (.fa yt yu e (.ld ty3 e (.c (.max2 .none (.s e) (.s e)) (.mv e (.c (.gt .none (.s e) (.s e)) (.mv e (.fg yt yu e e e (.lg ty3 e e e (.fg yt yu e e e (.lg ty3 e e e (.c (.min2 (.at e e) (.tmp e id) (.tmp e id)) (.mg e e e (.c (.lt (.at e e) (.tmp e id) (.tmp e id)) (.pa e e (.mv e (.fg yV yW e e e (.lg ty3 e e e (.fg yV yW e e e (.lg ty3 e e e (.c (.max2 (.at e e) (.tmp e id) (.tmp e id)) (.mg e e e (.c (.gt (.at e e) (.tmp e id) (.tmp e id)) (.pa e e (.mv e (.fg yV yW e e e (.lg ty3 e e e (.fg yV yW e e e (.lg ty3 e e e (.c (.min2 (.at e e) (.tmp e id) (.tmp e id)) (.mg e e e (.c (.lt (.at e e) (.tmp e id) (.tmp e id)) (.pa e e (.asn e (.nil (.ret ?_)))))))))))))))))))))))))))))))))))))))))))))))))))))))))))))))))))))))))))
 obtain rfl:=za h
 exact zb.rt Tryz.results93 e
theorem zre {s1:(List Box)}{f1:(Box→Option Bool)}{r:Int}  (h:zcS s1 f1=some r):zi Tryz.prog 128 [rep s1,fn1 Tryz.prog (rep (α:=Bool)) f1] (rep r):=by
 unfold zcS at h
 refine zi.i Tryz.func128 e Tryz.ntmps128 e (fun F=>(.sn mx (.asi (.nil (.seq (.sn mx (.mv e (.ln y5 e (.mvi (.nil ?_))))))))))
 obtain⟨o_1,h,hK1⟩:=ym h
 refine .tJ (fun s=>o_1=Res.nx s) Sub.nil ze.nil ?_ (fun j_1 hj1=>?_)
 ·
  refine .block (.rforEL h (fun p2_=>[(8,⟨True,rep p2_.1⟩)]) (fun p2_=>[]) (.k 8 e .nil) ze.nil (.k2 0 1 e e (.k 7 e .nil)) ze.nil (fun p2_ o_2 h hD2=>(.sn mx (.lt e e (.nil (.seq (.cb e h (fun _ h=>?_) fun _ h=>?_)))))))
  ·
   refine .skip (.then (.seq ?_))
   obtain⟨o_4,h,hK4⟩:=yK h
   unfold zho at h
   refine .tJ (fun s=>o_4=Res.nx s) (.k4 0 1 7 8 e e e e .nil) ze.nil ?_ (fun j_4 hj4=>?_)
   ·
    obtain⟨hn5,h⟩:=zr h
    obtain⟨r1,hv6,h⟩:=bind_some h
    refine .block (.sn mx (.mv e (.asn e (.nil (.sn mx (.mv e (.mv e (.mv e (.ix y5 zK e e hn5 (.ld zK e (.c (.callV (gx s1 p2_.1,r1) .none (.s e) (fun _=>hv6) (.cons (.s e) .nil)) (.nil (.cb e h (fun _ h=>?_) fun _ h=>?_)))))))))))))
    ·
     refine .sn mx (.mv e (.asn e (.nil (.ret (.blkRet (.thenRet (.thenRet (.blkRet (.thenRet ?_)))))))))
     replace h:=yD hK4 (za h)
     replace h:=hD2 _ (za h)
     replace h:=z6 hK1 (za h)
     obtain rfl:=za h
     exact zb.rt Tryz.results128 e
    ·
     exact .skip (.blkNormal (zb.j _ (za h)))
   ·
    have h:=yN hK4 hj4
    exact .rn mx (.adi e (.mv e (.nil (zb.ag (za h)))))
  ·
   refine .exit (.thenExit (.thenExit (.blkExit ?_)))
   replace h:=hD2 _ (za h)
   exact zb.j _ (za h)
 ·
  have h:=yo hK1 hj1
  refine .sn mx (.asi (.nil (.ret ?_)))
  obtain rfl:=za h
  exact zb.rt Tryz.results128 e
theorem zq9 {s1:(List Box)}{f1:(Box→Option Bool)}{r:Bool}  (h:zcN s1 f1=some r):zi Tryz.prog 92 [rep s1,fn1 Tryz.prog (rep (α:=Bool)) f1] (rep r):=by
 unfold zcN at h
 obtain⟨r1,hv1,h⟩:=bind_some h
 refine zi.i Tryz.func92 e Tryz.ntmps92 e (fun F=>(.sn mx (.asb (.nil (.sn mx (.mv e (.mv e (.c (.call .none (zre hv1) (.cons (.s e) (.cons (.s e) .nil))) (.c (.ge .none (.s e) .i) (.asn e (.nil (.ret ?_))))))))))))
 obtain rfl:=za h
 exact zb.rt Tryz.results92 e
theorem zes {t1:zA}{a1:zd}{b1:zd}{r:Bool}  (h:Qp t1 a1 b1=some r):zi Tryz.prog 42 [rep t1,rep a1,rep b1] (rep r):=by
 unfold Qp at h
 refine zi.i Tryz.func42 e Tryz.ntmps42 e (fun F=>(.sn mx (.c (.box .none (.s e)) (.c (.box .none (.s e)) (.c (.box .none (.s e)) (.asb (.nil (.sn mx (.fa Yf JC e (.ld Jj e (.c (.makeFunc (ι:=Box×Bool) (pre:=fun i=>(fun x0=>JS x0 t1 a1 b1) i.1=some i.2) (Ss:=fun i=>[rep i.1]) (S:=fun i=>rep i.2) .none znN (fun i h=>zpS h) (.cons (.s e) (.cons (.s e) (.cons (.s e) .nil)))) ?_)))))))))))
 obtain⟨r1,hv1,h⟩:=bind_some h
 refine .c (.call .none (zq9 hv1) (.cons (.s e) (.cons (.s e) .nil))) (.asn e (.nil (.ret ?_)))
 obtain rfl:=za h
 exact zb.rt Tryz.results42 e
theorem zci {a1:zd}{b1:zd}{r:Int}  (h:Yw a1 b1=some r):zi Tryz.prog 44 [rep a1,rep b1] (rep r):=by
 unfold Yw at h
 obtain⟨r1,hv1,h⟩:=bind_some h
 obtain⟨r2,hv2,h⟩:=bind_some h
 refine zi.i Tryz.func44 e Tryz.ntmps44 e (fun F=>(.sn mx (.c (.box .none (.s e)) (.c (.box .none (.s e)) (.asi (.nil (.sn mx (.fa yt yu e (.ld ty3 e (.fa yt yu e (.ld ty3 e (.sub e e (.c (.call .none (Yt hv1) (.cons (.s e) .nil)) (.fa yV yW e (.ld ty3 e (.fa yV yW e (.ld ty3 e (.sub e e (.c (.call .none (Yt hv2) (.cons (.s e) .nil)) (.add e e (.asn e (.nil (.ret ?_)))))))))))))))))))))))
 obtain rfl:=za h
 exact zb.rt Tryz.results44 e
set_option maxHeartbeats 4000000 in
theorem zpC {t1:zA}{r:(Int×Int×Bool)}  (h:JM t1=some r):zi Tryz.prog 15 [rep t1] (tup [rep r.1,rep r.2.1,rep r.2.2]):=by
 unfold JM at h
 obtain⟨r1,hv1,h⟩:=bind_some h
 obtain⟨r2,hv2,h⟩:=bind_some h
 refine zi.i Tryz.func15 e Tryz.ntmps15 e (fun F=>(.sn mx (.c (.box .none (.s e)) (.asi (.asi (.asb (.nil (.sr [oo,oo,oo,oo,oo,([],[5]),([],[6]),([5],[5]),([6],[6])] mx (.ldA qn e (.cA (.call .none (zkd hv1) (.cons (.s e) .nil)) (.mvA e (.exA e e (.exA e e (.al ze6 e (.al ze6 e (.st y6 e e e (.st y6 e e e (.nil (.freeze (t:=5) e e (.k 6 e .nil) e (.freeze (t:=6) e e ze.nil e (.sr [oo,oo,oo,oo,oo,([],[7]),([],[8]),([7],[7]),([8],[8])] mx (.ldA qn e (.cA (.call .none (zej hv2) (.cons (.s e) .nil)) (.mvA e (.exA e e (.exA e e (.al yG e (.al yG e (.st zw e e e (.st zw e e e (.nil (.freeze (t:=7) e e (.k 8 e .nil) e (.freeze (t:=8) e e ze.nil e (.sn mx (.c (.makeFunc (ι:=zQ×zd) (pre:=fun i=>(fun x0=>Yv x0 r1.1 r1.2) i.1=some i.2) (Ss:=fun i=>[rep i.1]) (S:=fun i=>rep i.2) .none znv (fun i h=>zpA h) (.cons (.s e) (.cons (.s e) .nil))) (.asn e (.nil (.sn mx (.c (.makeFunc (ι:=zd×Int×zQ) (pre:=fun i=>(fun x0 x1=>YX x0 x1 r1.1 r1.2) i.1 i.2.1=some i.2.2) (Ss:=fun i=>[rep i.1,rep i.2.1]) (S:=fun i=>rep i.2.2) .none znw (fun i h=>zpB h) (.cons (.s e) (.cons (.s e) .nil))) ?_)))))))))))))))))))))))))))))))))))))))
 obtain⟨r3,hv3,h⟩:=bind_some h
 obtain⟨r4,hv4,h⟩:=bind_some h
 refine .asn e (.nil (.seq (.sn mx (.ld qn e (.ld zw e (.ld zw e (.c (.call .none (zes hv3) (.cons (.s e) (.cons (.s e) (.cons (.s e) .nil)))) (.mv e (.c (.load (.at e e) qn (.s e)) (.c (.load (.at e e) zw (.s e)) (.c (.load (.at e e) zw (.s e)) (.c (.callIf (.at e e) ziK (fun hg=>zes ((fun hg=>yC hv4 ((qD hg.2))) hg)) (.cons (.tmp e id) (.cons (.tmp e id) (.cons (.tmp e id) .nil))) (fun h=>h)) (.po e e (.nil (.cb e h (fun _ h=>?_) fun _ h=>?_)))))))))))))))
 ·
  refine .sn mx (.asi (.asi (.asb (.nil (.ret (.thenRet ?_))))))
  obtain rfl:=za h
  exact zb.ret3 (.inl e) Tryz.results15 (zO.tmp e trivial Imp.refl) (zO.tmp e trivial Imp.refl) (zO.tmp e trivial Imp.refl)
 ·
  obtain⟨r5,hv6,h⟩:=bind_some h
  obtain⟨cost1,hv7,h⟩:=zh h
  obtain⟨queue1,hv8,h⟩:=zh h
  refine .skip (.then (.sr [oo,oo,oo,oo,oo,([],[11]),([11],[11])] mx (.mvA e (.ldA zw e (.faA Jw JB e (.ldA ty3 e (.cA (.callV (r2.1,t1.FromSide,r5) .none (.s e) (fun _=>hv6) (.cons (.s e) (.cons (.s e) .nil))) (.al ze7 e (.st qW e e e (.nil (.freeze (t:=11) e e ze.nil e (.sr [([],[52]),oo,([52],[52]),([52],[54,52]),([54],[12,54])] mx (.cW (.makeMap (K:=zQ) (V:=Int) e) (.ldA qW e (.cN (.mapInsert (q:=52) zb7 e (.s e) .i) (.cW (.passRowM e (.tmp e)) (.cW (.passRow e (.tmp e)) (.nil (.reB (t:=12) e (congrArg yH hv7) (.nameMap (t:=12) (g:=5001) e e e (fun s5001=>(.sr [oo,([],[56]),([56],[13,56])] mx (.ldA qW e (.cW (.buildSliceO (xs:=[_]) e zbj qW zja (.cons (.s e) .nil) e (by decide)) (.cW (.passRow e (.tmp e)) (.nil (.reB (t:=13) e (congrArg (zk 83) hv8) (.nameRow (t:=13) (g:=5002) e e e (fun s5002=>(.seq ?_))))))))))))))))))))))))))))))
  obtain⟨j_9,h,hK9⟩:=bind_some h
  refine .thenJ (ι:=(GMap zQ Int)) (fun j_9=>[]) (fun j_9=>[(5001,some (zf.at s5001 (yH j_9)))]) (fun s=>j_9=s) (.k4 1 5 6 8 e e e e (.k2 10 12 e e .nil)) ze.nil ?_ (fun j_9' hj9=>?_)
  ·
   refine .block (.anon (t:=13) (g:=5002) e e trivial e (.loopL h (fun s10_=>[]) (fun s10_=>[(13,some (zk 83 s10_.1)),(5001,some (zf.at s5001 (yH s10_.2)))]) Sub.nil (.k2 13 5001 e e .nil) (.k4 1 5 6 8 e e e e (.k2 9 10 e e (.k 12 e .nil))) ze.nil (fun s10_ o_10 h hD10=>?_)))
   unfold zaQ at h
   refine .nameRow (t:=13) (g:=5003) e e e (fun s5003=>(.seq (.sr [oo,([5003],[]),oo] mx (.mvA e (.cA (.lenO (k:=5003) zbj (.told (.s e) e)) (.cA (.gt .none (.s e) .i) (.nil (.cb e h (fun _ h=>?_) fun _ h=>?_))))))))
   ·
    obtain⟨hn12,h⟩:=zr h
    obtain⟨v1,hv13,h⟩:=zh h
    obtain⟨hn14,h⟩:=zr h
    obtain⟨queue2,hv15,h⟩:=zh h
    refine .skip (.then (.block (.sr [oo,([5003],[]),([5003],[]),([],[14]),([14],[14])] mx (.mvA e (.cA (.indexAddrO (k:=5003) .none zbj qW (.s e) e .i (fun _=>hn12)) (.cA (.re hv13 (.loadElem0 (k:=5003) .none qW (.s e) e (fun _=>hn12))) (.al ze7 e (.st qW e e e (.nil (.freeze (t:=14) e e (.k2 5001 5003 e e .nil) e (.sr [oo,([5003],[64,5003]),([64],[13,64])] mx (.mvA e (.cW (.sliceRow (k:=5003) zbj qW e (.s e) e .i e hn14) (.cW (.passRow e (.tmp e)) (.nil (.reB (t:=13) e (congrArg (zk 83) hv15) (.nameRow (t:=13) (g:=5004) e e e (fun s5004=>(.sn mx (.asi (.nil (.block (.anon (t:=13) (g:=5004) e e trivial e (.loopL h (fun s16_=>[(15,⟨True,rep s16_.2.1⟩)]) (fun s16_=>[(13,some (zk 83 s16_.1)),(5001,some (zf.at s5001 (yH s16_.2.2)))]) (.k 15 e .nil) (.k2 13 5001 e e .nil) (.k4 1 5 6 8 e e e e (.k4 9 10 12 14 e e e e .nil)) ze.nil (fun s16_ o_16 h hD16=>?_)))))))))))))))))))))))))
    unfold zaR at h
    refine .nameRow (t:=13) (g:=5005) e e e (fun s5005=>(.seq (.sn mx (.mv e (.c (.le .none (.s e) .i) (.nil (.cb e h (fun _ h=>?_) fun _ h=>?_)))))))
    ·
     refine .skip (.then (.seq ?_))
     obtain⟨j_18,h,hK18⟩:=bind_some h
     refine .thenJ (ι:=((List zQ)×(GMap zQ Int))) (fun j_18=>[]) (fun j_18=>[(13,some (zk 83 j_18.1)),(5001,some (zf.at s5001 (yH j_18.2)))]) (fun s=>j_18=s) (.k4 1 5 6 8 e e e e (.k4 9 10 12 14 e e e e (.k 15 e .nil))) ze.nil ?_ (fun j_18' hj18=>?_)
     ·
      obtain⟨r6,hv19,h⟩:=bind_some h
      refine .block (.sr [oo,oo,([],[16]),([16],[16])] mx (.mvA e (.cA (.call .none (JV hv19) (.cons (.s e) .nil)) (.al yG e (.st zw e e e (.nil (.freeze (t:=16) e e (.k2 5001 5005 e e .nil) e (.sn mx (.mv e (.fa zdm zdE e (.ld ty3 e (.c (.rem .none (.s e) .i (fun _=>by decide)) (.adi e (.c (.eqI .none (.s e) (.s e)) (.mv e (.mg e e e (.fg zdm zdE e e e (.lg ty3 e e e (.c (.addW (.at e e) (.tmp e id) .i) (.c (.rem (.at e e) (.tmp e id) .i (fun _=>by decide)) (.c (.addW (.at e e) (.tmp e id) .i) (.c (.eqI (.at e e) (.tmp e id) (.tmp e id)) (.po e e (.mv e (.mg e e e (.fg zdm zdE e e e (.lg ty3 e e e (.c (.eqI (.at e e) (.tmp e id) (.tmp e id)) (.po e e (.nil (.cb e h (fun _ h=>?_) fun _ h=>?_)))))))))))))))))))))))))))))))
      ·
       obtain⟨v2,hv21,h⟩:=zh h
       obtain⟨r7,hv22,h⟩:=bind_some h
       obtain⟨r8,hv23,h⟩:=bind_some h
       refine .sr [oo,oo,oo,oo,oo,oo,oo,oo,oo,oo,oo,oo,([],[17]),([17],[17])] mx (.faA zfR zf8 e (.ldA ty3 e (.faA yt yu e (.ldA ty3 e (.addA e e (.faA zfS zf9 e (.ldA ty3 e (.faA yV yW e (.ldA ty3 e (.addA e e (.mvA e (.cA (.re hv21 (.buildF (y:=(⟨W (v1.x+r6.X),W (v1.y+r6.Y),s16_.2.1⟩:zQ)) .none zh6 zlm e (.cons (.s e) (.cons (.s e) (.cons (.s e) .nil))) (.cons e zkP (.cons e zkQ (.cons e zkR .nil))))) (.al ze7 e (.st qW e e e (.nil (.freeze (t:=17) e e (.k2 5001 5005 e e .nil) e (.seq (.sn mx (.fa zfR zf8 e (.ld ty3 e (.ld y6 e (.ln yl e (.c (.subW .none (.s e) .i) (.c (.call .none (vw hv22) (.cons (.s e) (.cons .i (.cons (.s e) .nil)))) (.c (.not .none (.s e)) (.mv e (.fg zfS zf9 e e e (.lg ty3 e e e (.c (.load (.at e e) y6 (.s e)) (.c (.len (.at e e) yl (.tmp e id)) (.c (.subW (.at e e) (.tmp e id) .i) (.c (.callIf (.at e e) zdq (fun hg=>vw ((fun hg=>yC hv23 ((qD hg.2))) hg)) (.cons (.tmp e id) (.cons .i (.cons (.tmp e id) .nil))) (fun h=>h)) ?_))))))))))))))))))))))))))))))))
       obtain⟨r9,hv24,h⟩:=bind_some h
       obtain⟨r10,hv25,h⟩:=bind_some h
       obtain⟨r11,hv26,h⟩:=bind_some h
       refine .c (.not (.at e e) (.tmp e id)) (.po e e (.mv e (.c (.load (.at e e) qn (.s e)) (.mg e e e (.c (.load (.at e e) qW (.s e)) (.c (.callV (v1,r9) (.at e e) (.tmp e id) (fun hg=>yC hv24 ((qD hg.2))) (.cons (.tmp e id) .nil)) (.mg e e e (.c (.load (.at e e) qW (.s e)) (.c (.callV (v2,r10) (.at e e) (.tmp e id) (fun hg=>yC hv25 ((qD hg.2))) (.cons (.tmp e id) .nil)) (.c (.callIf (.at e e) ziK (fun hg=>zes ((fun hg=>yC hv26 ((qD hg.2))) hg)) (.cons (.tmp e id) (.cons (.tmp e id) (.cons (.tmp e id) .nil))) (fun h=>h)) (.po e e (.nil (.cb e h (fun _ h=>?_) fun _ h=>?_)))))))))))))
       ·
        exact .exit (.thenExit (.blkExit (.anon (t:=13) (g:=5005) e e trivial e (zb.j _ (za h)))))
       ·
        obtain⟨r12,hv28,h⟩:=bind_some h
        obtain⟨r13,hv29,h⟩:=bind_some h
        obtain⟨r14,hv30,h⟩:=bind_some h
        obtain⟨c1,hv31,h⟩:=zh h
        refine .skip (.then (.sr [oo,oo,([5001],[]),oo,oo,oo,oo,oo,oo,oo,oo,oo] mx (.mvA e (.ldA qW e (.cA (.lookupO (q:=5001) .none zb7 zo3 zd3 (.told (.s e) e) (.s e)) (.mvA e (.ldA qW e (.cA (.callV (v1,r12) .none (.s e) (fun _=>hv28) (.cons (.s e) .nil)) (.mvA e (.ldA qW e (.cA (.callV (v2,r13) .none (.s e) (fun _=>hv29) (.cons (.s e) .nil)) (.cA (.call .none (zci hv30) (.cons (.s e) (.cons (.s e) .nil))) (.addA e e (.cA (.re hv31 (.assign .none (.s e))) (.nil (.seq (.sn mx (.mv e (.fa zdm zdE e (.ld ty3 e (.c (.neI .none (.s e) (.s e)) (.nil ?_))))))))))))))))))))))
        obtain⟨j_32,h,hK32⟩:=bind_some h
        refine .thenJ (ι:=Int) (fun j_32=>[(18,⟨True,rep j_32⟩)]) (fun j_32=>[]) (fun s=>j_32=s) (.k4 1 5 6 8 e e e e (.k4 9 10 12 13 e e e e (.k2 14 15 e e (.k 17 e .nil)))) (.k2 5001 5005 e e .nil) ?_ (fun j_32' hj32=>?_)
        ·
         refine .cb e h (fun _ h=>?_) fun _ h=>?_
         ·
          obtain⟨c2,hv34,h⟩:=zh h
          exact .rn mx (.mv e (.adi e (.ra hv34 e (.nil (zb.j _ (za h))))))
         ·
          exact .skip (zb.j _ (za h))
        ·
         subst hj32;have h:=hK32;clear hK32
         refine .sr [oo,oo,([5001],[]),oo,oo,oo,oo,oo] mx (.mvA e (.ldA qW e (.cA (.lookupOkO (q:=5001) .none zb7 zo3 zd3 (.told (.s e) e) (.s e)) (.mvA e (.exA e e (.exA e e (.asnA e (.asnA e (.nil (.sn mx (.mv e (.c (.not .none (.s e)) (.mv e (.mg e e e (.mg e e e (.c (.lt (.at e e) (.tmp e id) (.tmp e id)) (.po e e (.nil (.cb e h (fun _ h=>?_) fun _ h=>?_)))))))))))))))))))
         ·
          obtain⟨cost2,hv36,h⟩:=zh h
          obtain⟨hn37,h⟩:=zr h
          exact .sr [oo,oo,oo,([5001],[5001])] mx (.mvA e (.ldA qW e (.mvA e (.cN (.mapUpdate (q:=5001) zb7 (.s e) e (.s e) (.s e)) (.nil (.reB (t:=5001) e (congrArg (fun y=>zf.at s5001 (yH y)) hv36) (.rg [oo,oo,oo,([5005],[166,5005]),([166],[13,166])] mx (.mvA e (.ldA qW e (.cA (.buildSlice (xs:=[_]) .none zbj qW zja (.cons (.s e) .nil) e (by decide)) (.cW (.append (k:=5005) zqi e (.told (.s e) e) (.s e) hn37) (.cW (.passRow e (.tmp e)) (.nil (.blkNormal (zb.j _ (za h))))))))))))))))
         ·
          exact .skip (.blkNormal (.anon (t:=13) (g:=5005) e e trivial e (zb.j _ (za h))))
      ·
       exact .skip (.blkNormal (.anon (t:=13) (g:=5005) e e trivial e (zb.j _ (za h))))
     ·
      subst hj18;have h:=hK18;clear hK18
      obtain⟨side1,hv38,h⟩:=zh h
      exact .nameRow (t:=13) (g:=5006) e e e (fun s5006=>(.rn mx (.mv e (.adi e (.ra hv38 e (.nil (.anon (t:=13) (g:=5006) e e trivial e (zb.ag (za h)))))))))
    ·
     refine .exit (.thenExit (.thenExit (.blkExit (.blkNormal (.anon (t:=13) (g:=5005) e e trivial e ?_)))))
     replace h:=hD16 _ (za h)
     exact zb.ag (za h)
   ·
    refine .exit (.thenExit (.thenExit (.blkExit ?_)))
    replace h:=hD10 _ (za h)
    exact zb.j _ (za h)
  ·
   subst hj9;have h:=hK9;clear hK9
   refine .freezeAt (g:=5001) (S:=rep j_9) (ts:=[12]) e (.cons (t:=12) e trivial .nil) ze.nil e (fun M D w h hms=>zjo h hms) (.sn mx (.asi (.nil (.seq (.sn mx (.asi (.nil ?_)))))))
   obtain⟨j_39,h,hK39⟩:=bind_some h
   refine .thenJ (ι:=Int) (fun j_39=>[(21,⟨True,rep j_39⟩)]) (fun j_39=>[]) (fun s=>j_39=s) (.k 1 e .nil) ze.nil ?_ (fun j_39' hj39=>?_)
   ·
    refine .block (.loopL h (fun s40_=>[(21,⟨True,rep s40_.1⟩),(22,⟨True,rep s40_.2⟩)]) (fun s40_=>[]) (.k2 21 22 e e .nil) ze.nil (.k4 1 5 6 8 e e e e (.k2 10 12 e e .nil)) ze.nil (fun s40_ o_40 h hD40=>?_))
    unfold zaS at h
    refine .seq (.sn mx (.mv e (.c (.le .none (.s e) .i) (.nil (.cb e h (fun _ h=>?_) fun _ h=>?_)))))
    ·
     refine .skip (.then (.seq ?_))
     obtain⟨j_42,h,hK42⟩:=bind_some h
     refine .thenJ (ι:=Int) (fun j_42=>[(21,⟨True,rep j_42⟩)]) (fun j_42=>[]) (fun s=>j_42=s) (.k4 1 5 6 8 e e e e (.k2 10 12 e e (.k 22 e .nil))) ze.nil ?_ (fun j_42' hj42=>?_)
     ·
      obtain⟨r15,hv43,h⟩:=bind_some h
      obtain⟨c3,hv44,h⟩:=zh h
      refine .block (.sn mx (.mv e (.mv e (.ld zw e (.mv e (.c (.callV (r2.2,s40_.2,r15) .none (.s e) (fun _=>hv43) (.cons (.s e) (.cons (.s e) .nil))) (.c (.lookupOk .none zb7 zo3 (.s e) (.s e)) (.mv e (.ex e e (.ex e e (.ra hv44 e (.asn e (.nil (.seq (.sn mx (.mv e (.c (.not .none (.s e)) (.mv e (.mg e e e (.fg YM YP e e e (.lg ty3 e e e (.c (.eqI (.at e e) (.tmp e id) (.tmp e id)) (.po e e (.nil (.cb e h (fun _ h=>?_) fun _ h=>?_)))))))))))))))))))))))))
      ·
       exact .exit (.thenExit (.blkExit (zb.j _ (za h))))
      ·
       obtain⟨r16,hv46,h⟩:=bind_some h
       obtain⟨r17,hv47,h⟩:=bind_some h
       obtain⟨r18,hv48,h⟩:=bind_some h
       refine .skip (.then (.seq (.sn mx (.mv e (.c (.call .none (JV hv46) (.cons (.s e) .nil)) (.c (.buildF (y:=(⟨(0:Int),(0:Int)⟩:zd)) .none qe qh e .nil .nil) (.fa YM YP e (.ld ty3 e (.c (.call .none (JV hv47) (.cons (.s e) .nil)) (.c (.call .none (zgO hv48) (.cons (.s e) (.cons (.s e) (.cons .i .nil)))) (.c (.neS .none Js (.s e) (.s e)) (.nil ?_))))))))))))
       obtain⟨j_49,h,hK49⟩:=bind_some h
       refine .thenJ (ι:=Int) (fun j_49=>[(23,⟨True,rep j_49⟩)]) (fun j_49=>[]) (fun s=>j_49=s) (.k4 1 5 6 8 e e e e (.k4 10 12 21 22 e e e e .nil)) ze.nil ?_ (fun j_49' hj49=>?_)
       ·
        refine .cb e h (fun _ h=>?_) fun _ h=>?_
        ·
         obtain⟨c4,hv51,h⟩:=zh h
         exact .rn mx (.mv e (.adi e (.ra hv51 e (.nil (zb.j _ (za h))))))
        ·
         exact .skip (zb.j _ (za h))
       ·
        subst hj49;have h:=hK49;clear hK49
        refine .sn mx (.mv e (.c (.lt .none (.s e) .i) (.mv e (.mg e e e (.mg e e e (.c (.lt (.at e e) (.tmp e id) (.tmp e id)) (.po e e (.nil (.cb e h (fun _ h=>?_) fun _ h=>?_)))))))))
        ·
         exact .rn mx (.mv e (.asn e (.nil (.blkNormal (zb.j _ (za h))))))
        ·
         exact .skip (.blkNormal (zb.j _ (za h)))
     ·
      subst hj42;have h:=hK42;clear hK42
      obtain⟨side2,hv53,h⟩:=zh h
      exact .rn mx (.mv e (.adi e (.ra hv53 e (.nil (zb.ag (za h))))))
    ·
     refine .exit (.thenExit (.thenExit (.blkExit ?_)))
     replace h:=hD40 _ (za h)
     exact zb.j _ (za h)
   ·
    subst hj39;have h:=hK39;clear hK39
    refine .seq (.sn mx (.mv e (.c (.lt .none (.s e) .i) (.nil (.cb e h (fun _ h=>?_) fun _ h=>?_)))))
    ·
     refine .sn mx (.asi (.asi (.asb (.nil (.ret (.thenRet ?_))))))
     obtain rfl:=za h
     exact zb.ret3 (.inl e) Tryz.results15 (zO.tmp e trivial Imp.refl) (zO.tmp e trivial Imp.refl) (zO.tmp e trivial Imp.refl)
    ·
     refine .skip (.then (.sn mx (.mv e (.c (.quo .none (.s e) .i (fun _=>by decide)) (.mv e (.c (.rem .none (.s e) .i (fun _=>by decide)) (.fa qF qG e (.ld ty3 e (.c (.mulW .none .i (.s e)) (.add e e (.asn e (.asn e (.asb (.nil (.ret ?_)))))))))))))))
     obtain rfl:=za h
     exact zb.ret3 (.inl e) Tryz.results15 (zO.tmp e trivial Imp.refl) (zO.tmp e trivial Imp.refl) (zO.tmp e trivial Imp.refl)
theorem zpG {l1:(List zd)}{r:Bool}  (h:zcj l1=some r):zi Tryz.prog 46 [rep l1] (rep r):=by
 unfold zcj at h
 refine zi.i Tryz.func46 e Tryz.ntmps46 e (fun F=>(.sn mx (.asb (.nil (.seq (.sn mx (.asi (.nil ?_))))))))
 obtain⟨o_1,h,hK1⟩:=ym h
 refine .tJ (fun s=>o_1=Res.nx s) (.k 0 e .nil) ze.nil ?_ (fun j_1 hj1=>?_)
 ·
  refine .block (.loopL h (fun s2_=>[(3,⟨True,rep s2_⟩)]) (fun s2_=>[]) (.k 3 e .nil) ze.nil (.k 0 e .nil) ze.nil (fun s2_ o_2 h hD2=>?_))
  unfold zem at h
  refine .seq (.sn mx (.mv e (.mv e (.ln zY e (.lt e e (.nil (.cb e h (fun _ h=>?_) fun _ h=>?_)))))))
  ·
   obtain⟨hn4,h⟩:=zr h
   obtain⟨hn5,h⟩:=zr h
   obtain⟨hn6,h⟩:=zr h
   obtain⟨hn7,h⟩:=zr h
   refine .skip (.then (.seq (.block (.sn mx (.mv e (.mv e (.ix zY zw e e hn4 (.fa yt yu e (.ld ty3 e (.mv e (.mv e (.c (.subW .none (.s e) .i) (.ix zY zw e e hn5 (.fa yt yu e (.ld ty3 e (.c (.eqI .none (.s e) (.s e)) (.mv e (.mv e (.ix zY zw e e hn6 (.fa yV yW e (.ld ty3 e (.mv e (.mv e (.c (.subW .none (.s e) .i) (.ix zY zw e e hn7 (.fa yV yW e (.ld ty3 e (.c (.eqI .none (.s e) (.s e)) (.c (.eqS .none (zfH Tryz.underlying4) (.s e) (.s e)) (.nil (.cb e h (fun _ h=>?_) fun _ h=>?_)))))))))))))))))))))))))))))))
   ·
    refine .sn mx (.asb (.nil (.ret (.blkRet (.thenRet (.thenRet (.blkRet (.thenRet ?_))))))))
    replace h:=hD2 _ (za h)
    replace h:=z6 hK1 (za h)
    obtain rfl:=za h
    exact zb.rt Tryz.results46 e
   ·
    obtain⟨i1,hv9,h⟩:=zh h
    exact .skip (.blkNormal (.then (.rn mx (.mv e (.adi e (.ra hv9 e (.nil (zb.ag (za h)))))))))
  ·
   refine .exit (.thenExit (.thenExit (.blkExit ?_)))
   replace h:=hD2 _ (za h)
   exact zb.j _ (za h)
 ·
  have h:=yo hK1 hj1
  refine .sn mx (.mv e (.ln zY e (.c (.gt .none (.s e) .i) (.asn e (.nil (.ret ?_))))))
  obtain rfl:=za h
  exact zb.rt Tryz.results46 e
theorem zey {a1:zd}{b1:zd}{r:zd}  (h:Y5 a1 b1=some r):zi Tryz.prog 48 [rep a1,rep b1] (rep r):=by
 unfold Y5 at h
 obtain⟨v1,hv1,h⟩:=zh h
 obtain⟨r1,hv2,h⟩:=bind_some h
 obtain⟨r2,hv3,h⟩:=bind_some h
 obtain⟨v2,hv4,h⟩:=zh h
 refine zi.i Tryz.func48 e Tryz.ntmps48 e (fun F=>(.sr [oo,oo,([],[4])] mx (.cA (.box .none (.s e)) (.cA (.box .none (.s e)) (.al yG e (.nil (.reB (t:=4) e (congrArg (zE 46) hv1) (.nameBox (t:=4) (g:=5001) e e (fun m5001=>(.sr [oo,oo,oo,oo,oo,oo,oo,oo,oo,oo,oo,oo,oo,([5001],[5001])] mx (.faA yt yu e (.ldA ty3 e (.faA yt yu e (.ldA ty3 e (.subA e e (.cA (.call .none (zgJ hv2) (.cons (.s e) .nil)) (.faA yV yW e (.ldA ty3 e (.faA yV yW e (.ldA ty3 e (.subA e e (.cA (.call .none (zgJ hv3) (.cons (.s e) .nil)) (.cA (.re hv4 (.buildF (y:=(⟨r1,r2⟩:zd)) .none qe qh e (.cons (.s e) (.cons (.s e) .nil)) (.cons e qS (.cons e qV .nil)))) (.s0 5001 zw e e e (.nil (.fb 5001 [4] e (.cons (t:=4) e trivial .nil) (.ret ?_)))))))))))))))))))))))))))
 obtain rfl:=za h
 exact zb.ret1 (.inl e) Tryz.results48 (zO.cellR zw e trivial Imp.refl)
theorem zpR {l1:(List zd)}{r:(List zd)}  (h:zcr l1=some r):zi Tryz.prog 47 [rep l1] (rep r):=by
 unfold zcr at h
 refine zi.i Tryz.func47 e Tryz.ntmps47 e (fun F=>(.sn mx (.c (.assign .none (.const (x:=([]:(List zd))) (fun M w=>⟨_,⟨none,0,rfl,Nat.le_refl _,by decide,rfl⟩,rfl⟩))) (.nil (.sr [([],[3])] mx (.cW (.nilRow (T:=46) (α:=zd) e) (.nil (.nameRow (t:=3) (g:=5001) e e e (fun s5001=>(.seq (.sn mx (.mv e (.ln zY e (.mvi (.nil ?_)))))))))))))))
 obtain⟨j_1,h,hK1⟩:=bind_some h
 refine .thenJ (ι:=(List zd)) (fun j_1=>[]) (fun j_1=>[(3,some (zk 46 j_1))]) (fun s=>j_1=s) Sub.nil ze.nil ?_ (fun j_1' hj1=>?_)
 ·
  refine .block (.anon (t:=3) (g:=5001) e e trivial e (.rforL h (fun p2_=>[(8,⟨True,rep p2_.1⟩)]) (fun p2_=>[(3,some (zk 46 p2_.2))]) (.k 8 e .nil) (.k 3 e .nil) (.k2 0 6 e e (.k 7 e .nil)) ze.nil (fun p2_ o_2 h hD2=>(.nameRow (t:=3) (g:=5002) e e e (fun s5002=>(.sn mx (.lt e e (.nil (.seq (.cb e h (fun _ h=>?_) fun _ h=>?_))))))))))
  ·
   refine .skip (.then (.seq ?_))
   obtain⟨j_4,h,hK4⟩:=bind_some h
   unfold zeq at h
   refine .thenJ (ι:=(List zd)) (fun j_4=>[]) (fun j_4=>[(3,some (zk 46 j_4))]) (fun s=>j_4=s) (.k4 0 6 7 8 e e e e .nil) ze.nil ?_ (fun j_4' hj4=>?_)
   ·
    obtain⟨hn5,h⟩:=zr h
    obtain⟨v1,hv6,h⟩:=zh h
    obtain⟨hn7,h⟩:=zr h
    obtain⟨r1,hv8,h⟩:=bind_some h
    refine .block (.sr [oo,oo,oo,([],[5]),oo,([5],[5])] mx (.mvA e (.ixA zY zw e e hn5 (.rlA hv6 zw e (.al yG e (.asnA e (.st zw e e e (.nil (.freeze (t:=5) e e (.k 5002 e .nil) e (.seq (.sn mx (.mv e (.c (.gt .none (.s e) .i) (.mv e (.mg e e e (.c (.addW (.at e e) (.tmp e id) .i) (.mg e e e (.c (.len (.at e e) zY (.tmp e id)) (.c (.lt (.at e e) (.tmp e id) (.tmp e id)) (.pa e e (.mv e (.mg e e e (.mg e e e (.c (.subW (.at e e) (.tmp e id) .i) (.c (.indexAddr (.at e e) zY zw (.tmp e id) (.tmp e id) (fun hg=>hn7 hg.2)) (.lg zw e e e (.c (.load (.at e e) zw (.s e)) (.c (.callIf (.at e e) zfY (fun hg=>zey ((fun hg=>yC hv8 (hg.2)) hg)) (.cons (.tmp e id) (.cons (.tmp e id) .nil)) (fun h=>h)) ?_))))))))))))))))))))))))))))
    obtain⟨hn9,h⟩:=zr h
    obtain⟨r2,hv10,h⟩:=bind_some h
    refine .c (.load (.at e e) zw (.s e)) (.mg e e e (.mg e e e (.c (.addW (.at e e) (.tmp e id) .i) (.c (.indexAddr (.at e e) zY zw (.tmp e id) (.tmp e id) (fun hg=>hn9 hg.2)) (.lg zw e e e (.c (.callIf (.at e e) zfY (fun hg=>zey ((fun hg=>yC hv10 (hg.2)) hg)) (.cons (.tmp e id) (.cons (.tmp e id) .nil)) (fun h=>h)) (.c (.eqS (.at e e) Js (.tmp e id) (.tmp e id)) (.pa e e (.nil (.cb e h (fun _ h=>?_) fun _ h=>?_))))))))))
    ·
     exact .exit (.thenExit (.blkExit (.anon (t:=3) (g:=5002) e e trivial e (zb.j _ (za h)))))
    ·
     obtain⟨hn12,h⟩:=zr h
     exact .skip (.then (.rg [oo,oo,oo,([5002],[42,5002]),([42],[3,42])] mx (.mvA e (.ldA zw e (.cA (.buildSlice (xs:=[_]) .none zY zw JD (.cons (.s e) .nil) e (by decide)) (.cW (.append (k:=5002) za6 e (.told (.s e) e) (.s e) hn12) (.cW (.passRow e (.tmp e)) (.nil (.blkNormal (zb.j _ (za h)))))))))))
   ·
    subst hj4;have h:=hK4;clear hK4
    exact .nameRow (t:=3) (g:=5003) e e e (fun s5003=>(.rn mx (.adi e (.mv e (.nil (.anon (t:=3) (g:=5003) e e trivial e (zb.ag (za h))))))))
  ·
   refine .exit (.thenExit (.thenExit (.blkExit (.anon (t:=3) (g:=5002) e e trivial e ?_))))
   replace h:=hD2 _ (za h)
   exact zb.j _ (za h)
 ·
  subst hj1;have h:=hK1;clear hK1
  refine .freezeRowA (t:=3) e e ze.nil e (.sn mx (.mv e (.asn e (.nil (.ret ?_)))))
  obtain rfl:=za h
  exact zb.rt Tryz.results47 e
theorem zpH {t1:zA}{l1:(List zd)}{r:Bool}  (h:JN t1 l1=some r):zi Tryz.prog 17 [rep t1,rep l1] (rep r):=by
 unfold JN at h
 obtain⟨n1,hv1,h⟩:=zh h
 obtain⟨r1,hv2,h⟩:=bind_some h
 obtain⟨hn3,h⟩:=zr h
 obtain⟨hn4,h⟩:=zr h
 obtain⟨r2,hv5,h⟩:=bind_some h
 refine zi.i Tryz.func17 e Tryz.ntmps17 e (fun F=>(.sn mx (.c (.box .none (.s e)) (.asb (.nil (.sn mx (.mv e (.ln zY e (.ra hv1 e (.nil (.seq (.sn mx (.mv e (.c (.call .none (zpG hv2) (.cons (.s e) .nil)) (.c (.not .none (.s e)) (.mv e (.mg e e e (.c (.indexAddr (.at e e) zY zw (.tmp e id) .i (fun hg=>hn3 hg.2)) (.lg zw e e e (.fg zat zaB e e e (.lg zw e e e (.c (.neS (.at e e) Js (.tmp e id) (.tmp e id)) (.po e e (.mv e (.mg e e e (.mg e e e (.c (.subW (.at e e) (.tmp e id) .i) (.c (.indexAddr (.at e e) zY zw (.tmp e id) (.tmp e id) (fun hg=>hn4 hg.2)) (.lg zw e e e (.fg zau zaC e e e (.lg zw e e e (.c (.neS (.at e e) Js (.tmp e id) (.tmp e id)) (.po e e (.mv e (.mg e e e (.c (.callIf (.at e e) znx (fun hg=>zpR ((fun hg=>yC hv5 ((qD hg.2))) hg)) (.cons (.tmp e id) .nil) (fun h=>h)) ?_))))))))))))))))))))))))))))))))))))
 obtain⟨r3,hv6,h⟩:=bind_some h
 refine .mg e e e (.c (.callIf (.at e e) ziJ (fun hg=>zhn ((fun hg=>yC hv6 ((qD hg.2))) hg)) (.cons (.tmp e id) (.cons (.tmp e id) .nil)) (fun h=>h)) (.c (.not (.at e e) (.tmp e id)) (.po e e (.nil (.cb e h (fun _ h=>?_) fun _ h=>?_)))))
 ·
  refine .sn mx (.asb (.nil (.ret (.thenRet ?_))))
  obtain rfl:=za h
  exact zb.rt Tryz.results17 e
 ·
  refine .skip (.then (.seq (.sn mx (.asi (.nil ?_)))))
  obtain⟨o_8,h,hK8⟩:=ym h
  refine .tJ (fun s=>o_8=Res.nx s) (.k2 1 2 e e (.k 5 e .nil)) ze.nil ?_ (fun j_8 hj8=>?_)
  ·
   refine .block (.loopL h (fun s9_=>[(6,⟨True,rep s9_⟩)]) (fun s9_=>[]) (.k 6 e .nil) ze.nil (.k2 1 2 e e (.k 5 e .nil)) ze.nil (fun s9_ o_9 h hD9=>?_))
   unfold Y0 at h
   refine .seq (.sn mx (.mv e (.adi e (.mv e (.lt e e (.nil (.cb e h (fun _ h=>?_) fun _ h=>?_)))))))
   ·
    obtain⟨hn11,h⟩:=zr h
    obtain⟨hn12,h⟩:=zr h
    obtain⟨hn13,h⟩:=zr h
    obtain⟨hn14,h⟩:=zr h
    refine .skip (.then (.seq (.block (.sn mx (.mv e (.mv e (.c (.subW .none (.s e) .i) (.ix zY zw e e hn11 (.fa yt yu e (.ld ty3 e (.mv e (.mv e (.ix zY zw e e hn12 (.fa yt yu e (.ld ty3 e (.c (.eqI .none (.s e) (.s e)) (.mv e (.mv e (.ix zY zw e e hn13 (.fa yt yu e (.ld ty3 e (.mv e (.mv e (.adi e (.ix zY zw e e hn14 (.fa yt yu e (.ld ty3 e (.c (.eqI .none (.s e) (.s e)) (.c (.eqS .none (zfH Tryz.underlying4) (.s e) (.s e)) (.nil (.cb e h (fun _ h=>?_) fun _ h=>?_)))))))))))))))))))))))))))))))
    ·
     refine .sn mx (.asb (.nil (.ret (.blkRet (.thenRet (.thenRet (.blkRet (.thenRet ?_))))))))
     replace h:=hD9 _ (za h)
     replace h:=z6 hK8 (za h)
     obtain rfl:=za h
     exact zb.rt Tryz.results17 e
    ·
     obtain⟨i1,hv16,h⟩:=zh h
     exact .skip (.blkNormal (.then (.rn mx (.mv e (.adi e (.ra hv16 e (.nil (zb.ag (za h)))))))))
   ·
    refine .exit (.thenExit (.thenExit (.blkExit ?_)))
    replace h:=hD9 _ (za h)
    exact zb.j _ (za h)
  ·
   have h:=yo hK8 hj8
   obtain⟨r4,hv17,h⟩:=bind_some h
   obtain⟨hn18,h⟩:=zr h
   obtain⟨hn19,h⟩:=zr h
   obtain⟨r5,hv20,h⟩:=bind_some h
   obtain⟨r6,hv21,h⟩:=bind_some h
   obtain⟨hn22,h⟩:=zr h
   obtain⟨hn23,h⟩:=zr h
   obtain⟨r7,hv24,h⟩:=bind_some h
   refine .sr [oo,oo,oo,([],[7]),([7],[7])] mx (.faA YM YP e (.ldA ty3 e (.cA (.call .none (JV hv17) (.cons (.s e) .nil)) (.al yG e (.st zw e e e (.nil (.freeze (t:=7) e e ze.nil e (.seq (.sn mx (.mv e (.c (.indexAddr .none zY zw (.s e) .i (fun _=>hn18)) (.ld zw e (.mv e (.c (.indexAddr .none zY zw (.s e) .i (fun _=>hn19)) (.ld zw e (.c (.call .none (zey hv20) (.cons (.s e) (.cons (.s e) .nil))) (.fa Jw JB e (.ld ty3 e (.c (.call .none (JV hv21) (.cons (.s e) .nil)) (.c (.neS .none Js (.s e) (.s e)) (.mv e (.mg e e e (.mg e e e (.c (.subW (.at e e) (.tmp e id) .i) (.c (.indexAddr (.at e e) zY zw (.tmp e id) (.tmp e id) (fun hg=>hn22 hg.2)) (.lg zw e e e (.mg e e e (.mg e e e (.c (.subW (.at e e) (.tmp e id) .i) (.c (.indexAddr (.at e e) zY zw (.tmp e id) (.tmp e id) (fun hg=>hn23 hg.2)) (.lg zw e e e (.c (.callIf (.at e e) zfY (fun hg=>zey ((fun hg=>yC hv24 ((qD hg.2))) hg)) (.cons (.tmp e id) (.cons (.tmp e id) .nil)) (fun h=>h)) (.c (.load (.at e e) zw (.s e)) (.c (.neS (.at e e) Js (.tmp e id) (.tmp e id)) (.po e e (.nil (.cb e h (fun _ h=>?_) fun _ h=>?_)))))))))))))))))))))))))))))))))))))
   ·
    refine .sn mx (.asb (.nil (.ret (.thenRet ?_))))
    obtain rfl:=za h
    exact zb.rt Tryz.results17 e
   ·
    obtain⟨hn26,h⟩:=zr h
    obtain⟨hn27,h⟩:=zr h
    obtain⟨r8,hv28,h⟩:=bind_some h
    refine .skip (.then (.seq (.sn mx (.mv e (.eqi e (.mv e (.mg e e e (.c (.indexAddr (.at e e) zY zw (.tmp e id) .i (fun hg=>hn26 hg.2)) (.lg zw e e e (.mg e e e (.c (.indexAddr (.at e e) zY zw (.tmp e id) .i (fun hg=>hn27 hg.2)) (.lg zw e e e (.c (.callIf (.at e e) zfX (fun hg=>zci ((fun hg=>yC hv28 (hg.2)) hg)) (.cons (.tmp e id) (.cons (.tmp e id) .nil)) (fun h=>h)) ?_)))))))))))))
    obtain⟨hn29,h⟩:=zr h
    obtain⟨hn30,h⟩:=zr h
    obtain⟨r9,hv31,h⟩:=bind_some h
    refine .fg qF qG e e e (.lg ty3 e e e (.c (.mulW (.at e e) .i (.tmp e id)) (.c (.lt (.at e e) (.tmp e id) (.tmp e id)) (.pa e e (.mv e (.mg e e e (.c (.indexAddr (.at e e) zY zw (.tmp e id) .i (fun hg=>hn29 hg.2)) (.lg zw e e e (.mg e e e (.c (.indexAddr (.at e e) zY zw (.tmp e id) .i (fun hg=>hn30 hg.2)) (.lg zw e e e (.c (.callIf (.at e e) zfX (fun hg=>zci ((fun hg=>yC hv31 ((qD hg.2))) hg)) (.cons (.tmp e id) (.cons (.tmp e id) .nil)) (fun h=>h)) ?_))))))))))))
    obtain⟨hn32,h⟩:=zr h
    obtain⟨hn33,h⟩:=zr h
    obtain⟨r10,hv34,h⟩:=bind_some h
    refine .fg qF qG e e e (.lg ty3 e e e (.c (.lt (.at e e) (.tmp e id) (.tmp e id)) (.po e e (.mv e (.mg e e e (.mg e e e (.c (.subW (.at e e) (.tmp e id) .i) (.c (.indexAddr (.at e e) zY zw (.tmp e id) (.tmp e id) (fun hg=>hn32 hg.2)) (.lg zw e e e (.mg e e e (.mg e e e (.c (.subW (.at e e) (.tmp e id) .i) (.c (.indexAddr (.at e e) zY zw (.tmp e id) (.tmp e id) (fun hg=>hn33 hg.2)) (.lg zw e e e (.c (.callIf (.at e e) zfX (fun hg=>zci ((fun hg=>yC hv34 ((qD hg.2))) hg)) (.cons (.tmp e id) (.cons (.tmp e id) .nil)) (fun h=>h)) (.fg qF qG e e e (.lg ty3 e e e (.c (.lt (.at e e) (.tmp e id) (.tmp e id)) (.po e e (.nil (.cb e h (fun _ h=>?_) fun _ h=>?_)))))))))))))))))))))
    ·
     refine .sn mx (.asb (.nil (.ret (.thenRet ?_))))
     obtain rfl:=za h
     exact zb.rt Tryz.results17 e
    ·
     obtain⟨r11,hv36,h⟩:=bind_some h
     obtain⟨hn37,h⟩:=zr h
     obtain⟨v1,hv38,h⟩:=zh h
     refine .skip (.then (.sn mx (.ld qn e (.c (.call .none (zkd hv36) (.cons (.s e) .nil)) (.mv e (.ex e e (.ex e e (.asn e (.asn e (.nil (.seq (.sn mx (.mv e (.mv e (.c (.subW .none (.s e) .i) (.c (.re hv38 (.slice .none zY zw (.s e) .i (.s e) (fun _=>hn37))) (.ln zY e (.mvi (.nil ?_)))))))))))))))))))
     obtain⟨o_39,h,hK39⟩:=ym h
     refine .tJ (fun s=>o_39=Res.nx s) (.k2 1 2 e e (.k 5 e .nil)) ze.nil ?_ (fun j_39 hj39=>?_)
     ·
      refine .block (.rforEL h (fun p40_=>[(161,⟨True,rep p40_.1⟩)]) (fun p40_=>[]) (.k 161 e .nil) ze.nil (.k4 1 2 5 8 e e e e (.k2 9 159 e e (.k 160 e .nil))) ze.nil (fun p40_ o_40 h hD40=>(.sn mx (.lt e e (.nil (.seq (.cb e h (fun _ h=>?_) fun _ h=>?_)))))))
      ·
       refine .skip (.then (.seq ?_))
       obtain⟨o_42,h,hK42⟩:=yK h
       unfold zck at h
       refine .tJ (fun s=>o_42=Res.nx s) (.k4 1 2 5 8 e e e e (.k4 9 159 160 161 e e e e .nil)) ze.nil ?_ (fun j_42 hj42=>?_)
       ·
        obtain⟨hn43,h⟩:=zr h
        obtain⟨v2,hv44,h⟩:=zh h
        obtain⟨r12,hv45,h⟩:=bind_some h
        obtain⟨r13,hv46,h⟩:=bind_some h
        refine .block (.sr [oo,oo,([],[11]),([11],[11])] mx (.ixA zY zw e e hn43 (.rlA hv44 zw e (.al yG e (.st zw e e e (.nil (.freeze (t:=11) e e ze.nil e (.sn mx (.mv e (.fa yt yu e (.ld ty3 e (.c (.call .none (Jf hv45) (.cons (.s e) (.cons (.s e) .nil))) (.mv e (.ex e e (.ex e e (.asn e (.asn e (.nil (.sn mx (.mv e (.fa yV yW e (.ld ty3 e (.c (.call .none (Jf hv46) (.cons (.s e) (.cons (.s e) .nil))) (.mv e (.ex e e (.ex e e (.asn e (.asn e (.nil (.sn mx (.mv e (.c (.not .none (.s e)) (.mv e (.mg e e e (.c (.not (.at e e) (.tmp e id)) (.po e e (.nil (.cb e h (fun _ h=>?_) fun _ h=>?_))))))))))))))))))))))))))))))))))))))
        ·
         refine .sn mx (.asb (.nil (.ret (.blkRet (.thenRet (.thenRet (.blkRet (.thenRet ?_))))))))
         replace h:=yD hK42 (za h)
         replace h:=hD40 _ (za h)
         replace h:=z6 hK39 (za h)
         obtain rfl:=za h
         exact zb.rt Tryz.results17 e
        ·
         exact .skip (.blkNormal (zb.j _ (za h)))
       ·
        have h:=yN hK42 hj42
        exact .rn mx (.adi e (.mv e (.nil (zb.ag (za h)))))
      ·
       refine .exit (.thenExit (.thenExit (.blkExit ?_)))
       replace h:=hD40 _ (za h)
       exact zb.j _ (za h)
     ·
      have h:=yo hK39 hj39
      obtain⟨m1,hv48,h⟩:=bind_some h
      obtain⟨r14,hv49,h⟩:=bind_some h
      obtain⟨hn50,h⟩:=zr h
      obtain⟨hn51,h⟩:=zr h
      refine .sr [oo,([],[187]),([187],[16,187])] mx (.mvA e (.cW (.cO [] (zkU hv48) (.cons (.s e) .nil) .nil e) (.cW (.passRow e (.tmp e)) (.nil (.nameRow (t:=16) (g:=5001) e e e (fun s5001=>(.sr [oo,oo,oo,oo,oo,oo,oo,oo,oo,([5001],[]),([5001],[5001]),([5001],[]),([5001],[5001])] mx (.mvA e (.mvA e (.mvA e (.cA (.subW .none (.s e) .i) (.ldA qn e (.cA (.call .none (zej hv49) (.cons (.s e) .nil)) (.mvA e (.exA e e (.exA e e (.cA (.indexAddrO (k:=5001) .none zY zw (.s e) e .i (fun _=>hn50)) (.cN (.storeElem0 (k:=5001) zw (.s e) e (.s e) hn50) (.ixO 5001 zY zw e e e hn51 (.cN (.storeElem0 (k:=5001) zw (.s e) e (.s e) hn51) (.nil (.freezeRow (g:=5001) (ts:=[16]) e (.cons (t:=16) e trivial .nil) ze.nil e (.seq (.sn mx (.asi (.nil ?_))))))))))))))))))))))))))
      obtain⟨o_52,h,hK52⟩:=ym h
      refine .tJ (fun s=>o_52=Res.nx s) Sub.nil ze.nil ?_ (fun j_52 hj52=>?_)
      ·
       refine .block (.loopL h (fun s53_=>[(17,⟨True,rep s53_⟩)]) (fun s53_=>[]) (.k 17 e .nil) ze.nil (.k2 2 5 e e (.k 16 e .nil)) ze.nil (fun s53_ o_53 h hD53=>?_))
       unfold Y1 at h
       refine .seq (.sn mx (.mv e (.mv e (.lt e e (.nil (.cb e h (fun _ h=>?_) fun _ h=>?_))))))
       ·
        obtain⟨hn55,h⟩:=zr h
        obtain⟨hn56,h⟩:=zr h
        obtain⟨r15,hv57,h⟩:=bind_some h
        refine .skip (.then (.seq (.block (.sn mx (.ld qn e (.mv e (.mv e (.c (.subW .none (.s e) .i) (.ix zY zw e e hn55 (.ld zw e (.mv e (.mv e (.ix zY zw e e hn56 (.ld zw e (.c (.call .none (zes hv57) (.cons (.s e) (.cons (.s e) (.cons (.s e) .nil)))) (.nil (.cb e h (fun _ h=>?_) fun _ h=>?_)))))))))))))))))
        ·
         refine .sn mx (.asb (.nil (.ret (.blkRet (.thenRet (.thenRet (.blkRet (.thenRet ?_))))))))
         replace h:=hD53 _ (za h)
         replace h:=z6 hK52 (za h)
         obtain rfl:=za h
         exact zb.rt Tryz.results17 e
        ·
         obtain⟨i2,hv59,h⟩:=zh h
         exact .skip (.blkNormal (.then (.rn mx (.mv e (.adi e (.ra hv59 e (.nil (zb.ag (za h)))))))))
       ·
        refine .exit (.thenExit (.thenExit (.blkExit ?_)))
        replace h:=hD53 _ (za h)
        exact zb.j _ (za h)
      ·
       have h:=yo hK52 hj52
       refine .sn mx (.asb (.nil (.ret ?_)))
       obtain rfl:=za h
       exact zb.rt Tryz.results17 e
theorem zpw {l1:(List zd)}{r:Int}  (h:JL l1=some r):zi Tryz.prog 18 [rep l1] (rep r):=by
 unfold JL at h
 refine zi.i Tryz.func18 e Tryz.ntmps18 e (fun F=>(.sn mx (.asi (.nil (.sn mx (.asi (.nil (.seq (.sn mx (.asi (.nil ?_)))))))))))
 obtain⟨j_1,h,hK1⟩:=bind_some h
 refine .thenJ (ι:=Int) (fun j_1=>[(3,⟨True,rep j_1⟩)]) (fun j_1=>[]) (fun s=>j_1=s) Sub.nil ze.nil ?_ (fun j_1' hj1=>?_)
 ·
  refine .block (.loopL h (fun s2_=>[(3,⟨True,rep s2_.1⟩),(4,⟨True,rep s2_.2⟩)]) (fun s2_=>[]) (.k2 3 4 e e .nil) ze.nil (.k 0 e .nil) ze.nil (fun s2_ o_2 h hD2=>?_))
  unfold zce at h
  refine .seq (.sn mx (.mv e (.adi e (.mv e (.ln zY e (.lt e e (.nil (.cb e h (fun _ h=>?_) fun _ h=>?_))))))))
  ·
   refine .skip (.then (.seq ?_))
   obtain⟨j_4,h,hK4⟩:=bind_some h
   refine .thenJ (ι:=Int) (fun j_4=>[(3,⟨True,rep j_4⟩)]) (fun j_4=>[]) (fun s=>j_4=s) (.k2 0 4 e e .nil) ze.nil ?_ (fun j_4' hj4=>?_)
   ·
    obtain⟨hn5,h⟩:=zr h
    obtain⟨hn6,h⟩:=zr h
    obtain⟨hn7,h⟩:=zr h
    obtain⟨hn8,h⟩:=zr h
    refine .block (.sn mx (.mv e (.mv e (.c (.subW .none (.s e) .i) (.ix zY zw e e hn5 (.fa yt yu e (.ld ty3 e (.mv e (.mv e (.ix zY zw e e hn6 (.fa yt yu e (.ld ty3 e (.c (.eqI .none (.s e) (.s e)) (.mv e (.mv e (.ix zY zw e e hn7 (.fa yt yu e (.ld ty3 e (.mv e (.mv e (.adi e (.ix zY zw e e hn8 (.fa yt yu e (.ld ty3 e (.c (.eqI .none (.s e) (.s e)) (.c (.neS .none (zfH Tryz.underlying4) (.s e) (.s e)) (.nil (.cb e h (fun _ h=>?_) fun _ h=>?_))))))))))))))))))))))))))))
    ·
     obtain⟨n1,hv10,h⟩:=zh h
     exact .rn mx (.mv e (.adi e (.ra hv10 e (.nil (.blkNormal (zb.j _ (za h)))))))
    ·
     exact .skip (.blkNormal (zb.j _ (za h)))
   ·
    subst hj4;have h:=hK4;clear hK4
    obtain⟨i1,hv11,h⟩:=zh h
    exact .rn mx (.mv e (.adi e (.ra hv11 e (.nil (zb.ag (za h))))))
  ·
   refine .exit (.thenExit (.thenExit (.blkExit ?_)))
   replace h:=hD2 _ (za h)
   exact zb.j _ (za h)
 ·
  subst hj1;have h:=hK1;clear hK1
  refine .sn mx (.mv e (.asn e (.nil (.ret ?_))))
  obtain rfl:=za h
  exact zb.rt Tryz.results18 e
theorem zpI {l1:(List zd)}{r:Int}  (h:JO l1=some r):zi Tryz.prog 19 [rep l1] (rep r):=by
 unfold JO at h
 refine zi.i Tryz.func19 e Tryz.ntmps19 e (fun F=>(.sn mx (.asi (.nil (.sn mx (.asi (.nil (.seq (.sn mx (.asi (.nil ?_)))))))))))
 obtain⟨j_1,h,hK1⟩:=bind_some h
 refine .thenJ (ι:=Int) (fun j_1=>[(3,⟨True,rep j_1⟩)]) (fun j_1=>[]) (fun s=>j_1=s) Sub.nil ze.nil ?_ (fun j_1' hj1=>?_)
 ·
  refine .block (.loopL h (fun s2_=>[(3,⟨True,rep s2_.1⟩),(4,⟨True,rep s2_.2⟩)]) (fun s2_=>[]) (.k2 3 4 e e .nil) ze.nil (.k 0 e .nil) ze.nil (fun s2_ o_2 h hD2=>?_))
  unfold zcl at h
  refine .seq (.sn mx (.mv e (.mv e (.ln zY e (.lt e e (.nil (.cb e h (fun _ h=>?_) fun _ h=>?_)))))))
  ·
   obtain⟨hn4,h⟩:=zr h
   obtain⟨hn5,h⟩:=zr h
   obtain⟨r1,hv6,h⟩:=bind_some h
   obtain⟨n1,hv7,h⟩:=zh h
   obtain⟨i1,hv8,h⟩:=zh h
   exact .skip (.then (.seq (.block (.rn mx (.mv e (.mv e (.mv e (.c (.subW .none (.s e) .i) (.ix zY zw e e hn4 (.ld zw e (.mv e (.mv e (.ix zY zw e e hn5 (.ld zw e (.c (.call .none (zci hv6) (.cons (.s e) (.cons (.s e) .nil))) (.add e e (.ra hv7 e (.nil (.blkNormal (.then (.rn mx (.mv e (.adi e (.ra hv8 e (.nil (zb.ag (za h)))))))))))))))))))))))))))
  ·
   refine .exit (.thenExit (.thenExit (.blkExit ?_)))
   replace h:=hD2 _ (za h)
   exact zb.j _ (za h)
 ·
  subst hj1;have h:=hK1;clear hK1
  refine .sn mx (.mv e (.asn e (.nil (.ret ?_))))
  obtain rfl:=za h
  exact zb.rt Tryz.results19 e
theorem zoo {d1:Doc}{clear1:Int}{r:Bool}  (h:zdH d1 clear1=some r):zi Tryz.prog 3 [rep d1,rep clear1] (rep r):=by
 unfold zdH at h
 obtain⟨r1,hv1,h⟩:=bind_some h
 refine zi.i Tryz.func3 e Tryz.ntmps3 e (fun F=>(.sn mx (.c (.box .none (.s e)) (.asb (.nil (.sr [oo,oo,oo,oo,oo,oo,([],[5]),([5],[5]),oo] mx (.ldA yz e (.mvA e (.cA (.call .none (zqk hv1) (.cons (.s e) (.cons (.s e) .nil))) (.mvA e (.exA e e (.exA e e (.al zlq e (.st yz e e e (.asnA e (.nil (.freeze (t:=5) e e ze.nil e (.sn mx (.asi (.nil (.seq (.sn mx (.fa yB yF e (.ld yE e (.ln z7 e (.mvi (.nil ?_)))))))))))))))))))))))))))
 obtain⟨j_2,h,hK2⟩:=bind_some h
 refine .thenJ (ι:=Int) (fun j_2=>[(7,⟨True,rep j_2⟩)]) (fun j_2=>[]) (fun s=>j_2=s) (.k4 1 2 5 6 e e e e .nil) ze.nil ?_ (fun j_2' hj2=>?_)
 ·
  refine .block (.rforL h (fun p3_=>[(28,⟨True,rep p3_.1⟩),(7,⟨True,rep p3_.2⟩)]) (fun p3_=>[]) (.k2 28 7 e e .nil) ze.nil (.k4 1 2 5 6 e e e e (.k2 26 27 e e .nil)) ze.nil (fun p3_ o_3 h hD3=>(.sn mx (.lt e e (.nil (.seq (.cb e h (fun _ h=>?_) fun _ h=>?_)))))))
  ·
   refine .skip (.then (.seq ?_))
   obtain⟨j_5,h,hK5⟩:=bind_some h
   unfold zb2 at h
   refine .thenJ (ι:=Int) (fun j_5=>[(7,⟨True,rep j_5⟩)]) (fun j_5=>[]) (fun s=>j_5=s) (.k4 1 2 5 6 e e e e (.k2 26 27 e e (.k 28 e .nil))) ze.nil ?_ (fun j_5' hj5=>?_)
   ·
    obtain⟨hn6,h⟩:=zr h
    obtain⟨v1,hv7,h⟩:=zh h
    refine .block (.sr [oo,oo,([],[9]),([9],[9])] mx (.ixA z7 zR e e hn6 (.rlA hv7 zR e (.al qL e (.st zR e e e (.nil (.freeze (t:=9) e e ze.nil e (.sn mx (.fa jc qZ e (.ld ty3 e (.nei e (.nil (.cb e h (fun _ h=>?_) fun _ h=>?_)))))))))))))
    ·
     obtain⟨many1,hv9,h⟩:=zh h
     exact .rn mx (.mv e (.adi e (.ra hv9 e (.nil (.blkNormal (zb.j _ (za h)))))))
    ·
     exact .skip (.blkNormal (zb.j _ (za h)))
   ·
    subst hj5;have h:=hK5;clear hK5
    exact .rn mx (.adi e (.mv e (.nil (zb.ag (za h)))))
  ·
   refine .exit (.thenExit (.thenExit (.blkExit ?_)))
   replace h:=hD3 _ (za h)
   exact zb.j _ (za h)
 ·
  subst hj2;have h:=hK2;clear hK2
  obtain⟨r2,hv10,h⟩:=bind_some h
  obtain⟨r3,hv11,h⟩:=bind_some h
  obtain⟨r4,hv12,h⟩:=bind_some h
  obtain⟨r5,hv13,h⟩:=bind_some h
  obtain⟨want1,hv14,h⟩:=bind_some h
  obtain⟨r6,hv15,h⟩:=bind_some h
  refine .sn mx (.ld yz e (.c (.call .none (zpD hv10) (.cons (.s e) .nil)) (.mv e (.c (.call .none (vw hv11) (.cons (.s e) (.cons .i (.cons .i .nil)))) (.c (.not .none (.s e)) (.c (.call .none (jw hv12) (.cons (.s e) (.cons .i .nil))) (.mv e (.c (.gt .none (.s e) .i) (.c (.call .none (jw hv13) (.cons (.s e) (.cons .i .nil))) (.c (.buildSlice (xs:=[_,_,_]) .none vV vY QJ (.cons (.s e) (.cons (.s e) (.cons (.s e) .nil))) e (by decide)) (.c (.call .none (QP hv14) (.cons (.s e) .nil)) (.asn e (.nil (.seq (.sn mx (.c (.call .none (zjd hv15) .nil) (.c (.not .none (.s e)) (.mv e (.mg e e e (.c (.neI (.at e e) (.tmp e id) .i) (.po e e (.mv e (.mg e e e (.c (.neI (.at e e) (.tmp e id) .i) (.po e e (.nil (.cb e h (fun _ h=>?_) fun _ h=>?_)))))))))))))))))))))))))))
  ·
   obtain⟨r7,hv17,h⟩:=bind_some h
   obtain⟨r8,hv18,h⟩:=bind_some h
   refine .sn mx (.c (.call .none (zjd hv17) .nil) (.mv e (.c (.load (.at e e) yz (.s e)) (.mg e e e (.mg e e e (.c (.load (.at e e) yz (.s e)) (.c (.callIf (.at e e) znj (fun hg=>zop ((fun hg=>yC hv18 (hg.2)) hg)) (.cons (.tmp e id) (.cons (.tmp e id) (.cons (.tmp e id) (.cons (.tmp e id) .nil)))) (fun h=>h)) (.pa e e (.asn e (.nil (.ret (.thenRet ?_))))))))))))
   obtain rfl:=za h
   exact zb.rt Tryz.results3 e
  ·
   refine .skip (.then (.seq (.sn mx (.mv e (.c (.gt .none (.s e) .i) (.mv e (.fg ji jT e e e (.lg jJ e e e (.c (.len (.at e e) qk (.tmp e id)) (.c (.gt (.at e e) (.tmp e id) .i) (.po e e (.nil (.cb e h (fun _ h=>?_) fun _ h=>?_)))))))))))))
   ·
    refine .sn mx (.asb (.nil (.ret (.thenRet ?_))))
    obtain rfl:=za h
    exact zb.rt Tryz.results3 e
   ·
    obtain⟨r9,hv20,h⟩:=bind_some h
    refine .skip (.then (.seq (.sn mx (.fa yB yF e (.ld yE e (.fa yB yF e (.ld yE e (.c (.call .none (zkV hv20) (.cons (.s e) (.cons (.s e) .nil))) (.c (.not .none (.s e)) (.mv e (.fg ji jT e e e (.lg jJ e e e (.c (.len (.at e e) qk (.tmp e id)) (.fg ji jT e e e (.lg jJ e e e (.c (.len (.at e e) qk (.tmp e id)) (.c (.neI (.at e e) (.tmp e id) (.tmp e id)) (.po e e (.nil (.cb e h (fun _ h=>?_) fun _ h=>?_))))))))))))))))))))
    ·
     refine .sn mx (.asb (.nil (.ret (.thenRet ?_))))
     obtain rfl:=za h
     exact zb.rt Tryz.results3 e
    ·
     refine .skip (.then (.seq (.sn mx (.fa ji jT e (.ld jJ e (.ln qk e (.mvi (.nil ?_))))))))
     obtain⟨o_22,h,hK22⟩:=ym h
     refine .tJ (fun s=>o_22=Res.nx s) (.k 5 e .nil) ze.nil ?_ (fun j_22 hj22=>?_)
     ·
      refine .block (.rforEL h (fun p23_=>[(93,⟨True,rep p23_.1⟩)]) (fun p23_=>[]) (.k 93 e .nil) ze.nil (.k4 1 2 5 91 e e e e (.k 92 e .nil)) ze.nil (fun p23_ o_23 h hD23=>(.sn mx (.lt e e (.nil (.seq (.cb e h (fun _ h=>?_) fun _ h=>?_)))))))
      ·
       refine .skip (.then (.seq ?_))
       obtain⟨o_25,h,hK25⟩:=yK h
       unfold zb3 at h
       refine .tJ (fun s=>o_25=Res.nx s) (.k4 1 2 5 91 e e e e (.k2 92 93 e e .nil)) ze.nil ?_ (fun j_25 hj25=>?_)
       ·
        obtain⟨hn26,h⟩:=zr h
        obtain⟨v2,hv27,h⟩:=zh h
        obtain⟨r10,hv28,h⟩:=bind_some h
        obtain⟨hn29,h⟩:=zr h
        obtain⟨v3,hv30,h⟩:=zh h
        obtain⟨l1,hv31,h⟩:=bind_some h
        obtain⟨r11,hv32,h⟩:=bind_some h
        refine .block (.sr [oo,oo,oo,([],[12]),oo,([12],[12])] mx (.mvA e (.ixA qk yP e e hn26 (.rlA hv27 yP e (.al zae e (.asnA e (.st yP e e e (.nil (.freeze (t:=12) e e ze.nil e (.sr [oo,oo,oo,oo,([],[13]),([13],[13])] mx (.ldA yz e (.ldA yP e (.mvA e (.cA (.call .none (zpQ hv28) (.cons (.s e) (.cons (.s e) (.cons (.s e) .nil)))) (.al ze5 e (.st qn e e e (.nil (.freeze (t:=13) e e ze.nil e (.sr [oo,oo,oo,oo,oo,([],[14]),([14],[14])] mx (.faA ji jT e (.ldA jJ e (.mvA e (.ixA qk yP e e hn29 (.rlA hv30 yP e (.al zae e (.st yP e e e (.nil (.nameBox (t:=14) (g:=5001) e e (fun m5001=>(.sr [oo,([5001],[]),oo,oo] mx (.ldA yz e (.cA (.loadAt0 (k:=5001) .none yP e (.s e)) (.cA (.call .none (zpJ hv31) (.cons (.s e) (.cons (.s e) .nil))) (.asnA e (.nil (.sn mx (.asi (.asi (.asb (.nil (.seq (.sn mx (.ld qn e (.c (.call .none (zpP hv32) (.cons (.s e) .nil)) (.eqi e (.nil ?_))))))))))))))))))))))))))))))))))))))))))))))
        obtain⟨j_33,h,hK33⟩:=bind_some h
        refine .thenJ (ι:=(Int×Int×Bool)) (fun j_33=>[(16,⟨True,rep j_33.1⟩),(17,⟨True,rep j_33.2.1⟩),(18,⟨True,rep j_33.2.2⟩)]) (fun j_33=>[]) (fun s=>j_33=s) (.k4 1 2 5 12 e e e e (.k4 13 14 15 91 e e e e (.k2 92 93 e e .nil))) (.k 5001 e .nil) ?_ (fun j_33' hj33=>?_)
        ·
         refine .cb e h (fun _ h=>?_) fun _ h=>?_
         ·
          obtain⟨r12,hv35,h⟩:=bind_some h
          exact .rn mx (.ld qn e (.c (.call .none (zpC hv35) (.cons (.s e) .nil)) (.mv e (.ex e e (.ex e e (.ex e e (.asn e (.asn e (.asn e (.nil (zb.j _ (za h))))))))))))
         ·
          exact .skip (zb.j _ (za h))
        ·
         subst hj33;have h:=hK33;clear hK33
         refine .seq (.sn mx (.mv e (.c (.not .none (.s e)) (.mv e (.mg e e e (.c (.gt (.at e e) (.tmp e id) .i) (.po e e (.nil ?_))))))))
         obtain⟨o_36,h,hK36⟩:=ym h
         refine .tJ (fun s=>o_36=Res.nx s) (.k4 1 2 5 12 e e e e (.k4 14 91 92 93 e e e e .nil)) (.k 5001 e .nil) ?_ (fun j_36 hj36=>?_)
         ·
          refine .cb e h (fun _ h=>?_) fun _ h=>?_
          ·
           obtain⟨r13,hv38,h⟩:=bind_some h
           refine .sr [oo,([5001],[]),oo,oo,oo,oo] mx (.cA (.fieldPtr .none vp (.s e)) (.cA (.loadAt (k:=5001) .none vA e (.s e) Qk) (.faA vp Qk e (.ldA vA e (.cA (.call .none (zhn hv38) (.cons (.s e) (.cons (.s e) .nil))) (.cA (.not .none (.s e)) (.nil (.cb e h (fun _ h=>?_) fun _ h=>?_))))))))
           ·
            refine .sn mx (.asb (.nil (.ret (.thenRet (.blkRet (.thenRet (.thenRet (.blkRet (.thenRet ?_)))))))))
            replace h:=z6 hK36 (za h)
            replace h:=yD hK25 (za h)
            replace h:=hD23 _ (za h)
            replace h:=z6 hK22 (za h)
            obtain rfl:=za h
            exact zb.rt Tryz.results3 e
           ·
            exact .skip (zb.j _ (za h))
          ·
           obtain⟨r14,hv40,h⟩:=bind_some h
           obtain⟨r15,hv41,h⟩:=bind_some h
           refine .sn mx (.ld qn e (.mv e (.c (.call .none (zpH hv40) (.cons (.s e) (.cons (.s e) .nil))) (.c (.not .none (.s e)) (.mv e (.mg e e e (.c (.callIf (.at e e) znq (fun hg=>zpw ((fun hg=>yC hv41 ((qD hg.2))) hg)) (.cons (.tmp e id) .nil) (fun h=>h)) ?_)))))))
           obtain⟨r16,hv42,h⟩:=bind_some h
           refine .mg e e e (.c (.neI (.at e e) (.tmp e id) (.tmp e id)) (.po e e (.mv e (.mg e e e (.c (.callIf (.at e e) znr (fun hg=>zpI ((fun hg=>yC hv42 ((qD hg.2))) hg)) (.cons (.tmp e id) .nil) (fun h=>h)) (.mg e e e (.c (.neI (.at e e) (.tmp e id) (.tmp e id)) (.po e e (.nil (.cb e h (fun _ h=>?_) fun _ h=>?_))))))))))
           ·
            refine .sn mx (.asb (.nil (.ret (.thenRet (.blkRet (.thenRet (.thenRet (.blkRet (.thenRet ?_)))))))))
            replace h:=z6 hK36 (za h)
            replace h:=yD hK25 (za h)
            replace h:=hD23 _ (za h)
            replace h:=z6 hK22 (za h)
            obtain rfl:=za h
            exact zb.rt Tryz.results3 e
           ·
            exact .skip (zb.j _ (za h))
         ·
          have h:=yo hK36 hj36
          obtain⟨r17,hv44,h⟩:=bind_some h
          refine .sr [oo,oo,oo,([5001],[5001])] mx (.faA vp Qk e (.ldA vA e (.cA (.fieldPtr .none vp (.s e)) (.cN (.storeAt (g:=5001) vA e (.s e) zkK (.s e)) (.nil (.fb 5001 [14] e (.cons (t:=14) e trivial .nil) (.sn mx (.ld yP e (.c (.buildSlice (xs:=[_]) .none qk yP zgb (.cons (.s e) .nil) e (by decide)) (.c (.buildF (y:=(⟨([]:(List zm)),[v2]⟩:Doc)) .none zbF zcX e (.cons (.s e) .nil) (.cons e zkJ .nil)) (.ld yP e (.c (.buildSlice (xs:=[_]) .none qk yP zgb (.cons (.s e) .nil) e (by decide)) (.c (.buildF (y:=(⟨([]:(List zm)),[{ v3 with Bends:=v2.Bends }]⟩:Doc)) .none zbF zcX e (.cons (.s e) .nil) (.cons e zkJ .nil)) (.c (.call .none (zj9 hv44) (.cons (.s e) (.cons (.s e) .nil))) (.c (.not .none (.s e)) (.nil (.cb e h (fun _ h=>?_) fun _ h=>?_)))))))))))))))))
          ·
           refine .sn mx (.asb (.nil (.ret (.blkRet (.thenRet (.thenRet (.blkRet (.thenRet ?_))))))))
           replace h:=yD hK25 (za h)
           replace h:=hD23 _ (za h)
           replace h:=z6 hK22 (za h)
           obtain rfl:=za h
           exact zb.rt Tryz.results3 e
          ·
           exact .skip (.blkNormal (zb.j _ (za h)))
       ·
        have h:=yN hK25 hj25
        exact .rn mx (.adi e (.mv e (.nil (zb.ag (za h)))))
      ·
       refine .exit (.thenExit (.thenExit (.blkExit ?_)))
       replace h:=hD23 _ (za h)
       exact zb.j _ (za h)
     ·
      have h:=yo hK22 hj22
      obtain⟨r18,hv46,h⟩:=bind_some h
      refine .sn mx (.ld yz e (.c (.call .none (zjN hv46) (.cons (.s e) .nil)) (.eqi e (.asn e (.nil (.ret ?_))))))
      obtain rfl:=za h
      exact zb.rt Tryz.results3 e
end Go.Proofs.YtmfcdppbnbfpjaaGreatDoor
