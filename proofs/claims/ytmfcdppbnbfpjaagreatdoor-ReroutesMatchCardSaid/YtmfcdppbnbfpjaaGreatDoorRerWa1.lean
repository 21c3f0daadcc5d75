/- A part of the proof. -/
import Derived.Test.YtmfcdppbnbfpjaaGreatDoorRerFa
set_option maxRecDepth 100000
set_option linter.unusedSimpArgs false
set_option linter.unusedVariables false
namespace Go.Proofs.YtmfcdppbnbfpjaaGreatDoor
open Go Go.DB Go.RowKit
theorem zrm {s cs:Str}{r:Str}(h:zeW s cs=some r):zi Tryz.prog 129 [rep s,rep cs] (rep r):=by
 obtain⟨hn,h⟩:=zr h
 obtain rfl:=za h
 exact zrI zrJ (by kernel_rfl) e ziI hn
theorem zlg {s:Str}{r:Bool}(h:utf8_ValidString s=some r):zi Tryz.prog 120 [rep s] (rep r):=by
 obtain rfl:=za h
 exact zrP zlh e e e znm
theorem zhj {l:List Int}{r:List Int}{s:Value}(h:slices_Compact_int l=some r):yh Tryz.prog 89 [isV s] [(s,zk 3 l)] (yj) [none,some (zk 3 r)]:=by
 obtain⟨hl,h⟩:=zr h
 obtain rfl:=za h
 exact zmH zmF e znM hl
theorem zhr {l:List Int}{r:List Int}{s:Value}(h:slices_Sort_int l=some r):yh Tryz.prog 88 [isV s] [(s,zk 3 l)] (yj) [some (zk 3 r)]:=by
 obtain⟨hl,h⟩:=zr h
 obtain rfl:=za h
 exact zrl zri e znL hl
theorem zd4 {s1:Str}{r:Bool}  (h:QN s1=some r):zi Tryz.prog 96 [rep s1] (rep r):=by
 unfold QN at h
 obtain⟨hn1,h⟩:=zr h
 obtain⟨hn2,h⟩:=zr h
 obtain⟨r1,hv3,h⟩:=bind_some h
 refine zi.i Tryz.func96 e Tryz.ntmps96 e (fun F=>(.sn mx (.asb (.nil (.sn mx (.mv e (.c (.neS .none (qP Tryz.underlying9) (.s e) (.str (l:=[]) (by decide))) (.mv e (.mg e e e (.c (.lenStr (.at e e) Tryz.underlying9 (.tmp e id)) (.c (.le (.at e e) (.tmp e id) .i) (.pa e e (.mv e (.mg e e e (.c (.indexStr (.at e e) Tryz.underlying9 (.tmp e id) .i (fun hg=>hn1 hg.2)) (.c (.kgeq (.at e e) (.tmp e id) .ki) (.c (.move (.at e e) (.tmp e id)) (.mg e e e (.c (.indexStr (.at e e) Tryz.underlying9 (.tmp e id) .i (fun hg=>hn2 hg.1.2 hg.2)) (.c (.kleq (.at e e) (.tmp e id) .ki) (.c (.pickAnd (.at e e) (.tmp e id) (.tmp e id)) (.pa e e (.mv e (.mg e e e (.c (.callIf (.at e e) ziI (fun hg=>zrm ((fun hg=>yC hv3 (hg.2)) hg)) (.cons (.tmp e id) (.cons (.str (l:=[97,98,99,100,101,102,103,104,105,106,107,108,109,110,111,112,113,114,115,116,117,118,119,120,121,122,48,49,50,51,52,53,54,55,56,57,45]) (by decide)) .nil)) (fun h=>h)) (.c (.eqS (.at e e) (qP Tryz.underlying9) (.tmp e id) (.str (l:=[]) (by decide))) (.pa e e (.asn e (.nil (.ret ?_))))))))))))))))))))))))))))))
 obtain rfl:=za h
 exact zb.rt Tryz.results96 e
theorem zdv {n1:Int}{r:Bool}  (h:YO n1=some r):zi Tryz.prog 103 [rep n1] (rep r):=by
 unfold YO at h
 refine zi.i Tryz.func103 e Tryz.ntmps103 e (fun F=>(.sn mx (.asb (.nil (.sn mx (.mv e (.c (.lt .none (.s e) .i) (.mv e (.mg e e e (.c (.gt (.at e e) (.tmp e id) .i) (.po e e (.asn e (.nil (.ret ?_))))))))))))))
 obtain rfl:=za h
 exact zb.rt Tryz.results103 e
theorem zaw {b1:Box}{r:Int}  (h:QE b1=some r):zi Tryz.prog 57 [rep b1] (rep r):=by
 unfold QE at h
 obtain⟨r1,hv1,h⟩:=bind_some h
 obtain⟨r2,hv2,h⟩:=bind_some h
 refine zi.i Tryz.func57 e Tryz.ntmps57 e (fun F=>(.sn mx (.c (.box .none (.s e)) (.asi (.nil (.seq (.sn mx (.fa qf y7 e (.ld ty3 e (.c (.call .none (zdv hv1) (.cons (.s e) .nil)) (.mv e (.fg qg y8 e e e (.lg ty3 e e e (.c (.callIf (.at e e) ziH (fun hg=>zdv ((fun hg=>yC hv2 ((qD hg.2))) hg)) (.cons (.tmp e id) .nil) (fun h=>h)) (.po e e (.mv e (.fg yQ yL e e e (.lg ty3 e e e (.c (.lt (.at e e) (.tmp e id) .i) (.po e e (.mv e (.fg yQ yL e e e (.lg ty3 e e e (.c (.gt (.at e e) (.tmp e id) .i) (.po e e (.mv e (.fg yU yR e e e (.lg ty3 e e e (.c (.lt (.at e e) (.tmp e id) .i) (.po e e (.mv e (.fg yU yR e e e (.lg ty3 e e e (.c (.gt (.at e e) (.tmp e id) .i) (.po e e (.nil (.cb e h (fun _ h=>?_) fun _ h=>?_)))))))))))))))))))))))))))))))))))))
 ·
  refine .sn mx (.asi (.nil (.ret (.thenRet ?_))))
  obtain rfl:=za h
  exact zb.rt Tryz.results57 e
 ·
  refine .skip (.then (.sn mx (.asi (.nil (.ret ?_)))))
  obtain rfl:=za h
  exact zb.rt Tryz.results57 e
theorem zkS {s1:Str}{r:Int}  (h:zaa s1=some r):zi Tryz.prog 97 [rep s1] (rep r):=by
 unfold zaa at h
 refine zi.i Tryz.func97 e Tryz.ntmps97 e (fun F=>(.sn mx (.asi (.nil (.seq (.sn mx (.mv e (.c (.lenStr .none Tryz.underlying9 (.s e)) (.c (.gt .none (.s e) .i) (.nil (.cb e h (fun _ h=>?_) fun _ h=>?_)))))))))))
 ·
  refine .sn mx (.asi (.nil (.ret (.thenRet ?_))))
  obtain rfl:=za h
  exact zb.rt Tryz.results97 e
 ·
  obtain⟨r1,hv2,h⟩:=bind_some h
  refine .skip (.then (.seq (.sn mx (.mv e (.c (.call .none (zlg hv2) (.cons (.s e) .nil)) (.c (.not .none (.s e)) (.nil (.cb e h (fun _ h=>?_) fun _ h=>?_))))))))
  ·
   refine .sn mx (.asi (.nil (.ret (.thenRet ?_))))
   obtain rfl:=za h
   exact zb.rt Tryz.results97 e
  ·
   refine .skip (.then (.seq (.sn mx (.mv e (.c (.lenStr .none Tryz.underlying9 (.s e)) (.mvi (.nil ?_)))))))
   obtain⟨o_4,h,hK4⟩:=ym h
   refine .tJ (fun s=>o_4=Res.nx s) Sub.nil ze.nil ?_ (fun j_4 hj4=>?_)
   ·
    refine .block (.rforEL h (fun p5_=>[(12,⟨True,rep p5_.1⟩)]) (fun p5_=>[]) (.k 12 e .nil) ze.nil (.k2 0 11 e e .nil) ze.nil (fun p5_ o_5 h hD5=>(.sn mx (.lt e e (.nil (.seq (.cb e h (fun _ h=>?_) fun _ h=>?_)))))))
    ·
     refine .skip (.then (.seq ?_))
     obtain⟨o_7,h,hK7⟩:=yK h
     unfold zhe at h
     refine .tJ (fun s=>o_7=Res.nx s) (.k2 0 11 e e (.k 12 e .nil)) ze.nil ?_ (fun j_7 hj7=>?_)
     ·
      obtain⟨hn8,h⟩:=zr h
      obtain⟨hn9,h⟩:=zr h
      obtain⟨hn10,h⟩:=zr h
      refine .block (.sn mx (.mv e (.asn e (.nil (.sn mx (.mv e (.mv e (.c (.indexStr .none Tryz.underlying9 (.s e) (.s e) (fun _=>hn8)) (.c (.klss .none (.s e) .ki) (.mv e (.mg e e e (.mg e e e (.c (.indexStr (.at e e) Tryz.underlying9 (.tmp e id) (.tmp e id) (fun hg=>hn9 hg.2)) (.c (.kneq (.at e e) (.tmp e id) .ki) (.pa e e (.mv e (.mg e e e (.mg e e e (.c (.indexStr (.at e e) Tryz.underlying9 (.tmp e id) (.tmp e id) (fun hg=>hn10 hg.2)) (.c (.keql (.at e e) (.tmp e id) .ki) (.po e e (.nil (.cb e h (fun _ h=>?_) fun _ h=>?_)))))))))))))))))))))))
      ·
       refine .sn mx (.asi (.nil (.ret (.blkRet (.thenRet (.thenRet (.blkRet (.thenRet ?_))))))))
       replace h:=yD hK7 (za h)
       replace h:=hD5 _ (za h)
       replace h:=z6 hK4 (za h)
       obtain rfl:=za h
       exact zb.rt Tryz.results97 e
      ·
       exact .skip (.blkNormal (zb.j _ (za h)))
     ·
      have h:=yN hK7 hj7
      exact .rn mx (.adi e (.mv e (.nil (zb.ag (za h)))))
    ·
     refine .exit (.thenExit (.thenExit (.blkExit ?_)))
     replace h:=hD5 _ (za h)
     exact zb.j _ (za h)
   ·
    have h:=yo hK4 hj4
    refine .sn mx (.asi (.nil (.ret ?_)))
    obtain rfl:=za h
    exact zb.rt Tryz.results97 e
theorem zo8 {n1:zm}{twice1:Bool}{r:Int}  (h:zb8 n1 twice1=some r):zi Tryz.prog 51 [rep n1,rep twice1] (rep r):=by
 unfold zb8 at h
 obtain⟨r1,hv1,h⟩:=bind_some h
 refine zi.i Tryz.func51 e Tryz.ntmps51 e (fun F=>(.sn mx (.c (.box .none (.s e)) (.asi (.nil (.seq (.block (.sn mx (.fa jt jk e (.ld ty9 e (.c (.call .none (zd4 hv1) (.cons (.s e) .nil)) (.c (.not .none (.s e)) (.asn e (.nil (.cb e h (fun _ h=>?_) fun _ h=>?_)))))))))))))))
 ·
  refine .sn mx (.asi (.nil (.ret (.blkRet (.thenRet ?_)))))
  obtain rfl:=za h
  exact zb.rt Tryz.results51 e
 ·
  refine .sn mx (.mv e (.asn e (.nil (.cb e h (fun _ h=>?_) fun _ h=>?_))))
  ·
   refine .sn mx (.asi (.nil (.ret (.blkRet (.thenRet ?_)))))
   obtain rfl:=za h
   exact zb.rt Tryz.results51 e
  ·
   refine .sn mx (.fa jc qZ e (.ld ty3 e (.c (.lt .none (.s e) .i) (.mv e (.fg jc qZ e e e (.lg ty3 e e e (.c (.gt (.at e e) (.tmp e id) .i) (.po e e (.asn e (.nil (.cb e h (fun _ h=>?_) fun _ h=>?_)))))))))))
   ·
    refine .sn mx (.asi (.nil (.ret (.blkRet (.thenRet ?_)))))
    obtain rfl:=za h
    exact zb.rt Tryz.results51 e
   ·
    refine .sn mx (.fa jc qZ e (.ld ty3 e (.eqi e (.mv e (.fg QD Qj e e e (.lg zK e e e (.c (.buildF (y:=(⟨(0:Int),(0:Int),(0:Int),(0:Int)⟩:Box)) (.at e e) qY q7 e .nil .nil) (.c (.neS (.at e e) zio (.tmp e id) (.tmp e id)) (.pa e e (.asn e (.nil (.cb e h (fun _ h=>?_) fun _ h=>?_))))))))))))
    ·
     refine .sn mx (.asi (.nil (.ret (.blkRet (.thenRet ?_)))))
     obtain rfl:=za h
     exact zb.rt Tryz.results51 e
    ·
     refine .skip (.blkNormal (.then (.seq (.sn mx (.fa jc qZ e (.ld ty3 e (.nei e (.nil ?_))))))))
     obtain⟨o_6,h,hK6⟩:=ym h
     refine .tJ (fun s=>o_6=Res.nx s) (.k 2 e .nil) ze.nil ?_ (fun j_6 hj6=>?_)
     ·
      refine .cb e h (fun _ h=>?_) fun _ h=>?_
      ·
       obtain⟨e1,hv8,h⟩:=bind_some h
       refine .sn mx (.fa QD Qj e (.ld zK e (.c (.call .none (zaw hv8) (.cons (.s e) .nil)) (.asn e (.nil (.sn mx (.mv e (.nei e (.nil (.cb e h (fun _ h=>?_) fun _ h=>?_))))))))))
       ·
        refine .sn mx (.mv e (.asn e (.nil (.ret (.thenRet ?_)))))
        replace h:=z6 hK6 (za h)
        obtain rfl:=za h
        exact zb.rt Tryz.results51 e
       ·
        exact .skip (zb.j _ (za h))
      ·
       exact .skip (zb.j _ (za h))
     ·
      have h:=yo hK6 hj6
      obtain⟨e2,hv10,h⟩:=bind_some h
      refine .seq (.sn mx (.fa ziB zf7 e (.ld ty9 e (.c (.call .none (zkS hv10) (.cons (.s e) .nil)) (.asn e (.nil (.sn mx (.mv e (.nei e (.nil (.cb e h (fun _ h=>?_) fun _ h=>?_)))))))))))
      ·
       refine .sn mx (.mv e (.asn e (.nil (.ret (.thenRet ?_)))))
       obtain rfl:=za h
       exact zb.rt Tryz.results51 e
      ·
       obtain⟨r2,hv12,h⟩:=bind_some h
       refine .skip (.then (.seq (.sn mx (.fa zfQ zdC e (.ld ty9 e (.c (.neS .none (qP Tryz.underlying9) (.s e) (.str (l:=[]) (by decide))) (.mv e (.fg zfQ zdC e e e (.lg ty9 e e e (.c (.callIf (.at e e) ziN (fun hg=>zd4 ((fun hg=>yC hv12 (hg.2)) hg)) (.cons (.tmp e id) .nil) (fun h=>h)) (.c (.not (.at e e) (.tmp e id)) (.pa e e (.nil (.cb e h (fun _ h=>?_) fun _ h=>?_))))))))))))))
       ·
        refine .sn mx (.asi (.nil (.ret (.thenRet ?_))))
        obtain rfl:=za h
        exact zb.rt Tryz.results51 e
       ·
        refine .skip (.then (.sn mx (.asi (.nil (.ret ?_)))))
        obtain rfl:=za h
        exact zb.rt Tryz.results51 e
theorem zo9 {d1:Doc}{r:(Option yk)}  (h:zb9 d1=some r):zi Tryz.prog 52 [rep d1] (rep r):=by
 unfold zb9 at h
 obtain⟨c1,hv1,h⟩:=zh h
 obtain⟨c2,hv2,h⟩:=zh h
 refine zi.i Tryz.func52 e Tryz.ntmps52 e (fun F=>(.sn mx (.c (.box .none (.s e)) (.c (.assign .none (.const (x:=(none:(Option yk))) (fun M w=>⟨_,zjT,rfl⟩))) (.nil (.sr [oo,([],[7]),([],[8]),([7,8],[9,7,8]),([9],[10,9]),([10],[3,10])] mx (.ldA yz e (.cW (.makeMap (K:=Str) (V:=Int) e) (.cW (.makeMapW (K:=Str) (α:=Int) (E:=3) e) (.cW (.buildG2 (t1:=7) (t2:=8) zjL zo7 (mk:=(fun z1 z2=>(⟨d1,⟨z1⟩,⟨z2⟩⟩:vk))) zmw zr9 e e e e e e e e e (fun _ _=>(.cons (.s e) (.cons (.s e) (.cons (.s e) .nil)))) (fun _ _=>(.cons e zro (.cons e zrp (.cons e zrq .nil))))) (.cW (.boxG2 (t:=9) e e) (.cW (.passRow e (.tmp e)) (.nil (.nameAt (t:=3) (g:=5001) e e (Yn fun _=>(Yn fun _=>Ym)) e (fun m5001=>(.open (k:=5001) (g:=5002) e e (fun s5002=>(.open (k:=5001) (g:=5003) e e (fun s5003=>(.seq (.sn mx (.fa yB yF e (.ld yE e (.ln z7 e (.mvi (.nil (.reB (t:=5002) e (congrArg (fun y=>zf.at s5002 (yH y)) hv1) (.reB (t:=5003) e (congrArg (fun y=>zf.at s5003 (vK 3 y)) hv2) ?_))))))))))))))))))))))))))))
 obtain⟨j_3,h,hK3⟩:=bind_some h
 refine .thenJ (ι:=((GMap Str Int)×(GMap Str (List Int)))) (fun j_3=>[]) (fun j_3=>[(5002,some (zf.at s5002 (yH j_3.1))),(5003,some (zf.at s5003 (vK 3 j_3.2)))]) (fun s=>j_3=s) (.k 3 e .nil) (.k 5001 e .nil) ?_ (fun j_3' hj3=>?_)
 ·
  refine .block (.rforL h (fun p4_=>[(14,⟨True,rep p4_.1⟩)]) (fun p4_=>[(5002,some (zf.at s5002 (yH p4_.2.1))),(5003,some (zf.at s5003 (vK 3 p4_.2.2)))]) (.k 14 e .nil) (.k2 5002 5003 e e .nil) (.k2 3 12 e e (.k 13 e .nil)) (.k 5001 e .nil) (fun p4_ o_4 h hD4=>(.sn mx (.lt e e (.nil (.seq (.cb e h (fun _ h=>?_) fun _ h=>?_)))))))
  ·
   refine .skip (.then (.seq ?_))
   obtain⟨j_6,h,hK6⟩:=bind_some h
   unfold zd5 at h
   refine .thenJ (ι:=((GMap Str Int)×(GMap Str (List Int)))) (fun j_6=>[]) (fun j_6=>[(5002,some (zf.at s5002 (yH j_6.1))),(5003,some (zf.at s5003 (vK 3 j_6.2)))]) (fun s=>j_6=s) (.k4 3 12 13 14 e e e e .nil) (.k 5001 e .nil) ?_ (fun j_6' hj6=>?_)
   ·
    obtain⟨hn7,h⟩:=zr h
    obtain⟨v1,hv8,h⟩:=zh h
    obtain⟨c3,hv9,h⟩:=zh h
    refine .block (.sr [oo,oo,oo,([],[5]),oo,([5],[5])] mx (.mvA e (.ixA z7 zR e e hn7 (.rlA hv8 zR e (.al qL e (.asnA e (.st zR e e e (.nil (.freeze (t:=5) e e (.k2 5001 5002 e e (.k 5003 e .nil)) e (.sr [oo,oo,oo,([5001],[]),oo,oo,oo,([5002],[5002])] mx (.mvA e (.cA (.nilCheckP .none (.s e)) (.cA (.fieldPtr .none zdi (.s e)) (.cA (.loadAt (k:=5001) .none zrC e (.s e) zod) (.faA jt jk e (.ldA ty9 e (.mvA e (.cN (.mapUpdate (q:=5002) zdR (.s e) e (.s e) (.s e)) (.nil (.reB (t:=5002) e (congrArg (fun y=>zf.at s5002 (yH y)) hv9) (.sn mx (.fa va jU e (.ld ty9 e (.c (.neS .none (qP Tryz.underlying9) (.s e) (.str (l:=[]) (by decide))) (.nil (.cb e h (fun _ h=>?_) fun _ h=>?_))))))))))))))))))))))))))
    ·
     obtain⟨hn11,h⟩:=zr h
     exact .rg [oo,oo,oo,([5001],[]),oo,oo,oo,oo,oo,([5001],[]),oo,oo,([5003],[41,5003]),oo,oo,([41],[44,41]),([5003,44],[5003,44])] mx (.mvA e (.cA (.nilCheckP .none (.s e)) (.cA (.fieldPtr .none zdj (.s e)) (.cA (.loadAt (k:=5001) .none zk8 e (.s e) zi5) (.faA va jU e (.ldA ty9 e (.mvA e (.cA (.nilCheckP .none (.s e)) (.cA (.fieldPtr .none zdj (.s e)) (.cA (.loadAt (k:=5001) .none zk8 e (.s e) zi5) (.faA va jU e (.ldA ty9 e (.cW (.mapTake (q:=5003) zdS zr8 e e (.s e) e (.s e)) (.mvA e (.cA (.buildSlice (xs:=[_]) .none yl ty3 hz3 (.cons (.s e) .nil) e (by decide)) (.cW (.append (k:=41) za7 e (.tmp e) (.s e) hn11) (.cN (.mapPut (q:=5003) (t:=44) zdS e (.s e) e (fun _ h=>h) e e (.s e)) (.nil (.blkNormal (zb.j _ (za h)))))))))))))))))))))
    ·
     exact .skip (.blkNormal (zb.j _ (za h)))
   ·
    subst hj6;have h:=hK6;clear hK6
    exact .rn mx (.adi e (.mv e (.nil (zb.ag (za h)))))
  ·
   refine .exit (.thenExit (.thenExit (.blkExit ?_)))
   replace h:=hD4 _ (za h)
   exact zb.j _ (za h)
 ·
  subst hj3;have h:=hK3;clear hK3
  refine .close (k:=5001) (g:=5003) (fun z=>zE 150 (⟨d1,⟨s5002⟩,⟨z⟩⟩:vk)) e e e (.close (k:=5001) (g:=5002) (fun z=>zZ (fun z0=>zE 150 (⟨d1,⟨z⟩,⟨z0⟩⟩:vk)) (vK 3 j_3.2)) e e e (.freezeAt (g:=5001) (S:=ref ((⟨d1,j_3.1,j_3.2⟩:yk):yk)) (ts:=[3]) e (.cons (t:=3) e trivial .nil) ze.nil e (fun M D w h hms=>zik (mk:=(fun s1_ s2_=>(⟨d1,⟨s1_⟩,⟨s2_⟩⟩:vk))) (y:=((⟨d1,j_3.1,j_3.2⟩:yk):yk)) ziV znP e (fun M s1_ s2_ cs w hc g1 g2=>by obtain⟨c0,q0,e0,h0,c1,q1,e1,h1,h2⟩:=hc;exact⟨c0,q0,e0,h0,c1,q1,e1,zaN e e h1 g1,zaN e e h2 g2⟩) M D w h hms) (.sn mx (.mv e (.asn e (.nil (.ret ?_)))))))
  obtain rfl:=za h
  exact zb.ret1 (.inl e) Tryz.results52 (zO.tmp e trivial Imp.refSome)
theorem zpf {v1:yk}{id1:Str}{r:zm}  (h:zcc v1 id1=some r):zi Tryz.prog 130 [ref v1,rep id1] (rep r):=by
 unfold zcc at h
 obtain⟨v2,hv1,h⟩:=zh h
 obtain⟨hn2,h⟩:=zr h
 obtain⟨v3,hv3,h⟩:=zh h
 refine zi.i Tryz.func130 e Tryz.ntmps130 e (fun F=>(.sr [([],[4])] mx (.al qL e (.nil (.reB (t:=4) e (congrArg (zE 32) hv1) (.nameBox (t:=4) (g:=5001) e e (fun m5001=>(.sr [oo,oo,oo,oo,oo,oo,oo,oo,oo,oo,oo,oo,oo,([5001],[5001])] mx (.mvA e (.cA (.nilCheckR .none (.s e)) (.faA Ya Yi e (.faA yB yF e (.ldA yE e (.mvA e (.cA (.nilCheckR .none (.s e)) (.faA zdi zf2 e (.ldA zhB e (.mvA e (.cA (.lookup .none zdR zo3 (.s e) (.s e)) (.ixA z7 zR e e hn2 (.rlA hv3 zR e (.s0 5001 zR e e e (.nil (.fb 5001 [4] e (.cons (t:=4) e trivial .nil) (.ret ?_)))))))))))))))))))))))))
 obtain rfl:=za h
 exact zb.ret1 (.inl e) Tryz.results130 (zO.cellR zR e trivial Imp.refl)
theorem zjO {v1:yk}{n1:zm}{r:(Int×Bool)}  (h:JJ v1 n1=some r):zi Tryz.prog 98 [ref v1,rep n1] (tup [rep r.1,rep r.2]):=by
 unfold JJ at h
 refine zi.i Tryz.func98 e Tryz.ntmps98 e (fun F=>(.sr [([],[3]),oo,oo] mx (.cW (.boxO e (.s e)) (.cA (.assign .none .i) (.cA (.assign .none .bool) (.nil (.nameBox (t:=3) (g:=5001) e e (fun m5001=>(.sr [oo,([5001],[]),oo,oo] mx (.cA (.fieldPtr .none jt (.s e)) (.cA (.loadAt (k:=5001) .none ty9 e (.s e) jk) (.asnA e (.cA (.assign .none .i) (.nil (.seq ?_)))))))))))))))
 obtain⟨o_1,h,hK1⟩:=ym h
 refine .thenJ (ι:=Int) (fun j_1=>[(7,⟨True,rep j_1⟩)]) (fun j_1=>[]) (fun s=>o_1=Res.nx s) Sub.nil ze.nil ?_ (fun j_1 hj1=>?_)
 ·
  refine .block (.loopL h (fun s2_=>[(7,⟨True,rep s2_.1⟩)]) (fun s2_=>[(5001,some (jb m5001 32 s2_.2))]) (.k 7 e .nil) (.k 5001 e .nil) (.k2 0 3 e e (.k 6 e .nil)) ze.nil (fun s2_ o_2 h hD2=>?_))
  unfold zd6 at h
  refine .seq (.sr [oo,([5001],[]),oo] mx (.cA (.fieldPtr .none va (.s e)) (.cA (.loadAt (k:=5001) .none ty9 e (.s e) jU) (.cA (.neS .none (qP Tryz.underlying9) (.s e) (.str (l:=[]) (by decide))) (.nil (.cb e h (fun _ h=>?_) fun _ h=>?_))))))
  ·
   obtain⟨many1,hv4,h⟩:=zh h
   refine .skip (.then (.block (.seq (.sn mx (.mv e (.adi e (.ra hv4 e (.nil (.sr [oo,([5001],[]),oo,oo,oo,oo,oo,oo,oo,oo,oo,oo,oo,oo] mx (.cA (.fieldPtr .none va (.s e)) (.cA (.loadAt (k:=5001) .none ty9 e (.s e) jU) (.mvA e (.cA (.eqS .none (qP Tryz.underlying9) (.s e) (.s e)) (.mvA e (.cA (.move (.at e e) (.s e)) (.cA (.move (.at e e) (.s e)) (.cA (.nilCheckR (.at e e) (.tmp e id)) (.cA (.fieldAddr (.at e e) Ya Yi (.tmp e id)) (.cA (.fieldAddr (.at e e) yB yF (.tmp e id)) (.cA (.load (.at e e) yE (.tmp e id)) (.cA (.len (.at e e) z7 (.tmp e id)) (.cA (.gt (.at e e) (.tmp e id) (.tmp e id)) (.cA (.pickOr .none (.s e) (.tmp e id)) (.nil (.cb e h (fun _ h=>?_) fun _ h=>?_)))))))))))))))))))))))))
   ·
    refine .sr [oo,oo,([5001],[]),oo,oo,oo,oo] mx (.mvA e (.cA (.fieldPtr .none va (.s e)) (.cA (.loadAt (k:=5001) .none ty9 e (.s e) jU) (.mvA e (.cA (.neS .none (qP Tryz.underlying9) (.s e) (.s e)) (.asnA e (.asnA e (.nil (.ret (.thenRet (.blkRet (.thenRet (.blkRet (.thenRet ?_))))))))))))))
    replace h:=hD2 _ (za h)
    replace h:=z6 hK1 (za h)
    obtain rfl:=za h
    exact zb.ret2 (.inl e) Tryz.results98 (zO.tmp e trivial Imp.refl) (zO.tmp e trivial Imp.refl)
   ·
    obtain⟨r1,hv6,h⟩:=bind_some h
    exact .skip (.then (.rg [oo,oo,([5001],[]),oo,([5001],[5001])] mx (.mvA e (.cA (.fieldPtr .none va (.s e)) (.cA (.loadAt (k:=5001) .none ty9 e (.s e) jU) (.cA (.call .none (zpf hv6) (.cons (.s e) (.cons (.s e) .nil))) (.s0 5001 zR e e e (.nil (.blkNormal (zb.ag (za h)))))))))))
  ·
   refine .exit (.thenExit (.thenExit (.blkExit ?_)))
   replace h:=hD2 _ (za h)
   exact zb.j _ (za h)
 ·
  have h:=yo hK1 hj1
  refine .sn mx (.mv e (.asn e (.asb (.nil (.ret ?_)))))
  obtain rfl:=za h
  exact zb.ret2 (.inl e) Tryz.results98 (zO.tmp e trivial Imp.refl) (zO.tmp e trivial Imp.refl)
theorem zpe {v1:yk}{r:Int}  (h:QO v1=some r):zi Tryz.prog 53 [ref v1] (rep r):=by
 unfold QO at h
 refine zi.i Tryz.func53 e Tryz.ntmps53 e (fun F=>(.sn mx (.asi (.nil (.seq (.sn mx (.mv e (.c (.nilCheckR .none (.s e)) (.fa Ya Yi e (.fa yB yF e (.ld yE e (.ln z7 e (.mvi (.nil ?_))))))))))))))
 obtain⟨o_1,h,hK1⟩:=ym h
 refine .tJ (fun s=>o_1=Res.nx s) (.k 0 e .nil) ze.nil ?_ (fun j_1 hj1=>?_)
 ·
  refine .block (.rforEL h (fun p2_=>[(23,⟨True,rep p2_.1⟩)]) (fun p2_=>[]) (.k 23 e .nil) ze.nil (.k2 0 21 e e (.k 22 e .nil)) ze.nil (fun p2_ o_2 h hD2=>(.sn mx (.lt e e (.nil (.seq (.cb e h (fun _ h=>?_) fun _ h=>?_)))))))
  ·
   refine .skip (.then (.seq ?_))
   obtain⟨o_4,h,hK4⟩:=yK h
   unfold zd7 at h
   refine .tJ (fun s=>o_4=Res.nx s) (.k4 0 21 22 23 e e e e .nil) ze.nil ?_ (fun j_4 hj4=>?_)
   ·
    obtain⟨hn5,h⟩:=zr h
    obtain⟨v2,hv6,h⟩:=zh h
    obtain⟨hn7,h⟩:=zr h
    refine .block (.sr [oo,oo,([],[4]),([4],[4])] mx (.ixA z7 zR e e hn5 (.rlA hv6 zR e (.al qL e (.st zR e e e (.nil (.freeze (t:=4) e e ze.nil e (.sn mx (.mv e (.c (.nilCheckR .none (.s e)) (.fa zdi zf2 e (.ld zhB e (.fa va jU e (.ld ty9 e (.c (.lookupOk .none zdR zo3 (.s e) (.s e)) (.mv e (.ex e e (.ex e e (.asn e (.asn e (.nil (.sn mx (.fa va jU e (.ld ty9 e (.c (.neS .none (qP Tryz.underlying9) (.s e) (.str (l:=[]) (by decide))) (.mv e (.mg e e e (.c (.not (.at e e) (.tmp e id)) (.c (.move (.at e e) (.tmp e id)) (.mg e e e (.c (.nilCheckR (.at e e) (.tmp e id)) (.c (.fieldAddr (.at e e) Ya Yi (.tmp e id)) (.c (.fieldAddr (.at e e) yB yF (.tmp e id)) (.lg yE e e e (.mg e e e (.c (.indexAddr (.at e e) z7 zR (.tmp e id) (.tmp e id) (fun hg=>hn7 hg.1.2 hg.2)) (.c (.fieldAddr (.at e e) jc qZ (.tmp e id)) (.lg ty3 e e e (.c (.neI (.at e e) (.tmp e id) .i) (.c (.pickOr (.at e e) (.tmp e id) (.tmp e id)) (.pa e e (.nil (.cb e h (fun _ h=>?_) fun _ h=>?_)))))))))))))))))))))))))))))))))))))))))))
    ·
     refine .sn mx (.asi (.nil (.ret (.blkRet (.thenRet (.thenRet (.blkRet (.thenRet ?_))))))))
     replace h:=yD hK4 (za h)
     replace h:=hD2 _ (za h)
     replace h:=z6 hK1 (za h)
     obtain rfl:=za h
     exact zb.rt Tryz.results53 e
    ·
     exact .skip (.blkNormal (zb.j _ (za h)))
   ·
    have h:=yN hK4 hj4
    exact .rn mx (.adi e (.mv e (.nil (zb.ag (za h)))))
  ·
   refine .exit (.thenExit (.thenExit (.blkExit ?_)))
   replace h:=hD2 _ (za h)
   exact zb.j _ (za h)
 ·
  have h:=yo hK1 hj1
  refine .seq (.sn mx (.mv e (.c (.nilCheckR .none (.s e)) (.fa Ya Yi e (.fa yB yF e (.ld yE e (.ln z7 e (.mvi (.nil ?_)))))))))
  obtain⟨o_9,h,hK9⟩:=ym h
  refine .tJ (fun s=>o_9=Res.nx s) (.k 0 e .nil) ze.nil ?_ (fun j_9 hj9=>?_)
  ·
   refine .block (.rforEL h (fun p10_=>[(63,⟨True,rep p10_.1⟩)]) (fun p10_=>[]) (.k 63 e .nil) ze.nil (.k2 0 61 e e (.k 62 e .nil)) ze.nil (fun p10_ o_10 h hD10=>(.sn mx (.lt e e (.nil (.seq (.cb e h (fun _ h=>?_) fun _ h=>?_)))))))
   ·
    refine .skip (.then (.seq ?_))
    obtain⟨o_12,h,hK12⟩:=yK h
    unfold zd8 at h
    refine .tJ (fun s=>o_12=Res.nx s) (.k4 0 61 62 63 e e e e .nil) ze.nil ?_ (fun j_12 hj12=>?_)
    ·
     obtain⟨hn13,h⟩:=zr h
     obtain⟨v3,hv14,h⟩:=zh h
     obtain⟨r1,hv15,h⟩:=bind_some h
     refine .block (.sr [oo,oo,([],[8]),([8],[8])] mx (.ixA z7 zR e e hn13 (.rlA hv14 zR e (.al qL e (.st zR e e e (.nil (.freeze (t:=8) e e ze.nil e (.sn mx (.mv e (.ld zR e (.c (.call .none (zjO hv15) (.cons (.s e) (.cons (.s e) .nil))) (.mv e (.ex e e (.ex e e (.asn e (.asn e (.nil (.sn mx (.mv e (.c (.not .none (.s e)) (.nil (.cb e h (fun _ h=>?_) fun _ h=>?_))))))))))))))))))))))
     ·
      refine .sn mx (.asi (.nil (.ret (.blkRet (.thenRet (.thenRet (.blkRet (.thenRet ?_))))))))
      replace h:=yD hK12 (za h)
      replace h:=hD10 _ (za h)
      replace h:=z6 hK9 (za h)
      obtain rfl:=za h
      exact zb.rt Tryz.results53 e
     ·
      exact .skip (.blkNormal (zb.j _ (za h)))
    ·
     have h:=yN hK12 hj12
     exact .rn mx (.adi e (.mv e (.nil (zb.ag (za h)))))
   ·
    refine .exit (.thenExit (.thenExit (.blkExit ?_)))
    replace h:=hD10 _ (za h)
    exact zb.j _ (za h)
  ·
   have h:=yo hK9 hj9
   refine .seq (.sn mx (.mv e (.c (.nilCheckR .none (.s e)) (.fa Ya Yi e (.fa yB yF e (.ld yE e (.ln z7 e (.mvi (.nil ?_)))))))))
   obtain⟨o_17,h,hK17⟩:=ym h
   refine .tJ (fun s=>o_17=Res.nx s) (.k 0 e .nil) ze.nil ?_ (fun j_17 hj17=>?_)
   ·
    refine .block (.rforEL h (fun p18_=>[(82,⟨True,rep p18_.1⟩)]) (fun p18_=>[]) (.k 82 e .nil) ze.nil (.k2 0 80 e e (.k 81 e .nil)) ze.nil (fun p18_ o_18 h hD18=>(.sn mx (.lt e e (.nil (.seq (.cb e h (fun _ h=>?_) fun _ h=>?_)))))))
    ·
     refine .skip (.then (.seq ?_))
     obtain⟨o_20,h,hK20⟩:=yK h
     unfold zd9 at h
     refine .tJ (fun s=>o_20=Res.nx s) (.k4 0 80 81 82 e e e e .nil) ze.nil ?_ (fun j_20 hj20=>?_)
     ·
      obtain⟨hn21,h⟩:=zr h
      obtain⟨v4,hv22,h⟩:=zh h
      obtain⟨r2,hv23,h⟩:=bind_some h
      refine .block (.sr [oo,oo,([],[12]),([12],[12])] mx (.ixA z7 zR e e hn21 (.rlA hv22 zR e (.al qL e (.st zR e e e (.nil (.freeze (t:=12) e e ze.nil e (.sn mx (.mv e (.ld zR e (.c (.call .none (zjO hv23) (.cons (.s e) (.cons (.s e) .nil))) (.mv e (.ex e e (.ex e e (.asn e (.asn e (.nil (.sn mx (.mv e (.c (.gt .none (.s e) .i) (.nil (.cb e h (fun _ h=>?_) fun _ h=>?_))))))))))))))))))))))
      ·
       refine .sn mx (.asi (.nil (.ret (.blkRet (.thenRet (.thenRet (.blkRet (.thenRet ?_))))))))
       replace h:=yD hK20 (za h)
       replace h:=hD18 _ (za h)
       replace h:=z6 hK17 (za h)
       obtain rfl:=za h
       exact zb.rt Tryz.results53 e
      ·
       exact .skip (.blkNormal (zb.j _ (za h)))
     ·
      have h:=yN hK20 hj20
      exact .rn mx (.adi e (.mv e (.nil (zb.ag (za h)))))
    ·
     refine .exit (.thenExit (.thenExit (.blkExit ?_)))
     replace h:=hD18 _ (za h)
     exact zb.j _ (za h)
   ·
    have h:=yo hK17 hj17
    refine .seq (.sn mx (.mv e (.c (.nilCheckR .none (.s e)) (.fa Ya Yi e (.fa yB yF e (.ld yE e (.ln z7 e (.mvi (.nil ?_)))))))))
    obtain⟨o_25,h,hK25⟩:=ym h
    refine .tJ (fun s=>o_25=Res.nx s) Sub.nil ze.nil ?_ (fun j_25 hj25=>?_)
    ·
     refine .block (.rforEL h (fun p26_=>[(101,⟨True,rep p26_.1⟩)]) (fun p26_=>[]) (.k 101 e .nil) ze.nil (.k2 0 99 e e (.k 100 e .nil)) ze.nil (fun p26_ o_26 h hD26=>(.sn mx (.lt e e (.nil (.seq (.cb e h (fun _ h=>?_) fun _ h=>?_)))))))
     ·
      refine .skip (.then (.seq ?_))
      obtain⟨o_28,h,hK28⟩:=yK h
      unfold zea at h
      refine .tJ (fun s=>o_28=Res.nx s) (.k4 0 99 100 101 e e e e .nil) ze.nil ?_ (fun j_28 hj28=>?_)
      ·
       obtain⟨hn29,h⟩:=zr h
       obtain⟨v5,hv30,h⟩:=zh h
       refine .block (.sr [oo,oo,([],[16]),([16],[16])] mx (.ixA z7 zR e e hn29 (.rlA hv30 zR e (.al qL e (.st zR e e e (.nil (.freeze (t:=16) e e ze.nil e (.sn mx (.fa jc qZ e (.ld ty3 e (.eqi e (.mv e (.mg e e e (.c (.nilCheckR (.at e e) (.tmp e id)) (.c (.fieldAddr (.at e e) zdj zi3 (.tmp e id)) (.lg zld e e e (.fg jt jk e e e (.lg ty9 e e e (.c (.lookup (.at e e) zdS ze6 (.tmp e id) (.tmp e id)) (.c (.len (.at e e) yl (.tmp e id)) (.c (.eqI (.at e e) (.tmp e id) .i) (.pa e e (.nil (.cb e h (fun _ h=>?_) fun _ h=>?_))))))))))))))))))))))))
       ·
        refine .sn mx (.asi (.nil (.ret (.blkRet (.thenRet (.thenRet (.blkRet (.thenRet ?_))))))))
        replace h:=yD hK28 (za h)
        replace h:=hD26 _ (za h)
        replace h:=z6 hK25 (za h)
        obtain rfl:=za h
        exact zb.rt Tryz.results53 e
       ·
        exact .skip (.blkNormal (zb.j _ (za h)))
      ·
       have h:=yN hK28 hj28
       exact .rn mx (.adi e (.mv e (.nil (zb.ag (za h)))))
     ·
      refine .exit (.thenExit (.thenExit (.blkExit ?_)))
      replace h:=hD26 _ (za h)
      exact zb.j _ (za h)
    ·
     have h:=yo hK25 hj25
     refine .sn mx (.asi (.nil (.ret ?_)))
     obtain rfl:=za h
     exact zb.rt Tryz.results53 e
theorem zpd {v1:yk}{x1:yx}{r:Int}  (h:zcb v1 x1=some r):zi Tryz.prog 99 [ref v1,rep x1] (rep r):=by
 unfold zcb at h
 refine zi.i Tryz.func99 e Tryz.ntmps99 e (fun F=>(.sn mx (.c (.box .none (.s e)) (.asi (.nil (.sn mx (.mv e (.c (.nilCheckR .none (.s e)) (.fa zdi zf2 e (.ld zhB e (.fa zdk zbW e (.ld ty9 e (.c (.lookupOk .none zdR zo3 (.s e) (.s e)) (.mv e (.ex e e (.ex e e (.asn e (.asn e (.nil (.seq (.block (.sn mx (.mv e (.c (.not .none (.s e)) (.asn e (.nil (.cb e h (fun _ h=>?_) fun _ h=>?_)))))))))))))))))))))))))))
 ·
  refine .sn mx (.asi (.nil (.ret (.blkRet (.thenRet ?_)))))
  obtain rfl:=za h
  exact zb.rt Tryz.results99 e
 ·
  obtain⟨hn2,h⟩:=zr h
  refine .sn mx (.mv e (.c (.nilCheckR .none (.s e)) (.fa Ya Yi e (.fa yB yF e (.ld yE e (.mv e (.ix z7 zR e e hn2 (.fa jc qZ e (.ld ty3 e (.eqi e (.asn e (.nil (.cb e h (fun _ h=>?_) fun _ h=>?_)))))))))))))
  ·
   refine .sn mx (.asi (.nil (.ret (.blkRet (.thenRet ?_)))))
   obtain rfl:=za h
   exact zb.rt Tryz.results99 e
  ·
   refine .sn mx (.fa Yb QI e (.ld ty3 e (.c (.lt .none (.s e) .i) (.mv e (.fg Yb QI e e e (.lg ty3 e e e (.c (.gt (.at e e) (.tmp e id) .i) (.po e e (.mv e (.fg zbM zaA e e e (.lg ty3 e e e (.c (.lt (.at e e) (.tmp e id) .i) (.po e e (.mv e (.fg zbM zaA e e e (.lg ty3 e e e (.c (.gt (.at e e) (.tmp e id) .i) (.po e e (.asn e (.nil (.cb e h (fun _ h=>?_) fun _ h=>?_)))))))))))))))))))))
   ·
    refine .sn mx (.asi (.nil (.ret (.blkRet (.thenRet ?_)))))
    obtain rfl:=za h
    exact zb.rt Tryz.results99 e
   ·
    refine .skip (.blkNormal (.then (.sn mx (.asi (.nil (.ret ?_))))))
    obtain rfl:=za h
    exact zb.rt Tryz.results99 e
theorem zdt {p1:zd}{r:Int}  (h:YN p1=some r):zi Tryz.prog 84 [rep p1] (rep r):=by
 unfold YN at h
 obtain⟨r1,hv1,h⟩:=bind_some h
 obtain⟨r2,hv2,h⟩:=bind_some h
 refine zi.i Tryz.func84 e Tryz.ntmps84 e (fun F=>(.sn mx (.c (.box .none (.s e)) (.asi (.nil (.seq (.sn mx (.fa yt yu e (.ld ty3 e (.c (.call .none (zdv hv1) (.cons (.s e) .nil)) (.mv e (.fg yV yW e e e (.lg ty3 e e e (.c (.callIf (.at e e) ziH (fun hg=>zdv ((fun hg=>yC hv2 ((qD hg.2))) hg)) (.cons (.tmp e id) .nil) (fun h=>h)) (.po e e (.nil (.cb e h (fun _ h=>?_) fun _ h=>?_)))))))))))))))))
 ·
  refine .sn mx (.asi (.nil (.ret (.thenRet ?_))))
  obtain rfl:=za h
  exact zb.rt Tryz.results84 e
 ·
  refine .skip (.then (.sn mx (.asi (.nil (.ret ?_)))))
  obtain rfl:=za h
  exact zb.rt Tryz.results84 e
theorem znV {l1:(List zd)}{r:Int}  (h:zbR l1=some r):zi Tryz.prog 131 [rep l1] (rep r):=by
 unfold zbR at h
 refine zi.i Tryz.func131 e Tryz.ntmps131 e (fun F=>(.sn mx (.asi (.nil (.seq (.sn mx (.mv e (.ln zY e (.mvi (.nil ?_))))))))))
 obtain⟨o_1,h,hK1⟩:=ym h
 refine .tJ (fun s=>o_1=Res.nx s) Sub.nil ze.nil ?_ (fun j_1 hj1=>?_)
 ·
  refine .block (.rforEL h (fun p2_=>[(8,⟨True,rep p2_.1⟩)]) (fun p2_=>[]) (.k 8 e .nil) ze.nil (.k2 6 7 e e .nil) ze.nil (fun p2_ o_2 h hD2=>(.sn mx (.lt e e (.nil (.seq (.cb e h (fun _ h=>?_) fun _ h=>?_)))))))
  ·
   refine .skip (.then (.seq ?_))
   obtain⟨o_4,h,hK4⟩:=yK h
   unfold zf0 at h
   refine .tJ (fun s=>o_4=Res.nx s) (.k2 6 7 e e (.k 8 e .nil)) ze.nil ?_ (fun j_4 hj4=>?_)
   ·
    obtain⟨hn5,h⟩:=zr h
    obtain⟨v1,hv6,h⟩:=zh h
    obtain⟨e1,hv7,h⟩:=bind_some h
    refine .block (.sr [oo,oo,([],[4]),([4],[4])] mx (.ixA zY zw e e hn5 (.rlA hv6 zw e (.al yG e (.st zw e e e (.nil (.freeze (t:=4) e e ze.nil e (.sn mx (.ld zw e (.c (.call .none (zdt hv7) (.cons (.s e) .nil)) (.asn e (.nil (.sn mx (.mv e (.nei e (.nil (.cb e h (fun _ h=>?_) fun _ h=>?_)))))))))))))))))
    ·
     refine .sn mx (.mv e (.asn e (.nil (.ret (.blkRet (.thenRet (.thenRet (.blkRet (.thenRet ?_)))))))))
     replace h:=yD hK4 (za h)
     replace h:=hD2 _ (za h)
     replace h:=z6 hK1 (za h)
     obtain rfl:=za h
     exact zb.rt Tryz.results131 e
    ·
     exact .skip (.blkNormal (zb.j _ (za h)))
   ·
    have h:=yN hK4 hj4
    exact .rn mx (.adi e (.mv e (.nil (zb.ag (za h)))))
  ·
   refine .exit (.thenExit (.thenExit (.blkExit ?_)))
   replace h:=hD2 _ (za h)
   exact zb.j _ (za h)
 ·
  have h:=yo hK1 hj1
  refine .sn mx (.asi (.nil (.ret ?_)))
  obtain rfl:=za h
  exact zb.rt Tryz.results131 e
theorem znR {l1:(List zd)}{r:Int}  (h:zbP l1=some r):zi Tryz.prog 100 [rep l1] (rep r):=by
 unfold zbP at h
 refine zi.i Tryz.func100 e Tryz.ntmps100 e (fun F=>(.sn mx (.asi (.nil (.seq (.sn mx (.mv e (.ln zY e (.c (.gt .none (.s e) .i) (.nil (.cb e h (fun _ h=>?_) fun _ h=>?_)))))))))))
 ·
  refine .sn mx (.asi (.nil (.ret (.thenRet ?_))))
  obtain rfl:=za h
  exact zb.rt Tryz.results100 e
 ·
  obtain⟨r1,hv2,h⟩:=bind_some h
  refine .skip (.then (.sn mx (.mv e (.c (.call .none (znV hv2) (.cons (.s e) .nil)) (.asn e (.nil (.ret ?_)))))))
  obtain rfl:=za h
  exact zb.rt Tryz.results100 e
theorem zpc {v1:yk}{x1:zJ}{twice1:Bool}{r:Int}  (h:zca v1 x1 twice1=some r):zi Tryz.prog 54 [ref v1,rep x1,rep twice1] (rep r):=by
 unfold zca at h
 obtain⟨r1,hv1,h⟩:=bind_some h
 refine zi.i Tryz.func54 e Tryz.ntmps54 e (fun F=>(.sn mx (.c (.box .none (.s e)) (.asi (.nil (.seq (.block (.sn mx (.fa Yc Yj e (.ld ty9 e (.c (.call .none (zd4 hv1) (.cons (.s e) .nil)) (.c (.not .none (.s e)) (.asn e (.nil (.cb e h (fun _ h=>?_) fun _ h=>?_)))))))))))))))
 ·
  refine .sn mx (.asi (.nil (.ret (.blkRet (.thenRet ?_)))))
  obtain rfl:=za h
  exact zb.rt Tryz.results54 e
 ·
  refine .sn mx (.mv e (.asn e (.nil (.cb e h (fun _ h=>?_) fun _ h=>?_))))
  ·
   refine .sn mx (.asi (.nil (.ret (.blkRet (.thenRet ?_)))))
   obtain rfl:=za h
   exact zb.rt Tryz.results54 e
  ·
   obtain⟨v2,hv4,h⟩:=zh h
   refine .skip (.blkNormal (.then (.seq (.sn mx (.fa Yd Yk e (.ld qJ e (.fa Ye Yl e (.ld qJ e (.c (.re hv4 (.buildSlice (xs:=[_,_]) .none zbi qJ zi9 (.cons (.s e) (.cons (.s e) .nil)) e (by decide))) (.ln zbi e (.mvi (.nil ?_))))))))))))
   obtain⟨o_5,h,hK5⟩:=ym h
   refine .tJ (fun s=>o_5=Res.nx s) (.k 4 e .nil) ze.nil ?_ (fun j_5 hj5=>?_)
   ·
    refine .block (.rforEL h (fun p6_=>[(25,⟨True,rep p6_.1⟩)]) (fun p6_=>[]) (.k 25 e .nil) ze.nil (.k4 0 4 23 24 e e e e .nil) ze.nil (fun p6_ o_6 h hD6=>(.sn mx (.lt e e (.nil (.seq (.cb e h (fun _ h=>?_) fun _ h=>?_)))))))
    ·
     refine .skip (.then (.seq ?_))
     obtain⟨o_8,h,hK8⟩:=yK h
     unfold zgz at h
     refine .tJ (fun s=>o_8=Res.nx s) (.k4 0 4 23 24 e e e e (.k 25 e .nil)) ze.nil ?_ (fun j_8 hj8=>?_)
     ·
      obtain⟨hn9,h⟩:=zr h
      obtain⟨v3,hv10,h⟩:=zh h
      obtain⟨e1,hv11,h⟩:=bind_some h
      refine .block (.sr [oo,oo,([],[8]),([8],[8])] mx (.ixA zbi qJ e e hn9 (.rlA hv10 qJ e (.al zlr e (.st qJ e e e (.nil (.freeze (t:=8) e e ze.nil e (.sn mx (.mv e (.ld qJ e (.c (.call .none (zpd hv11) (.cons (.s e) (.cons (.s e) .nil))) (.asn e (.nil (.sn mx (.mv e (.nei e (.nil (.cb e h (fun _ h=>?_) fun _ h=>?_))))))))))))))))))
      ·
       refine .sn mx (.mv e (.asn e (.nil (.ret (.blkRet (.thenRet (.thenRet (.blkRet (.thenRet ?_)))))))))
       replace h:=yD hK8 (za h)
       replace h:=hD6 _ (za h)
       replace h:=z6 hK5 (za h)
       obtain rfl:=za h
       exact zb.rt Tryz.results54 e
      ·
       exact .skip (.blkNormal (zb.j _ (za h)))
     ·
      have h:=yN hK8 hj8
      exact .rn mx (.adi e (.mv e (.nil (zb.ag (za h)))))
    ·
     refine .exit (.thenExit (.thenExit (.blkExit ?_)))
     replace h:=hD6 _ (za h)
     exact zb.j _ (za h)
   ·
    have h:=yo hK5 hj5
    refine .seq (.sn mx (.fa vp Qk e (.ld vA e (.ln zY e (.c (.gt .none (.s e) .i) (.nil (.cb e h (fun _ h=>?_) fun _ h=>?_)))))))
    ·
     refine .sn mx (.asi (.nil (.ret (.thenRet ?_))))
     obtain rfl:=za h
     exact zb.rt Tryz.results54 e
    ·
     obtain⟨e2,hv14,h⟩:=bind_some h
     refine .skip (.then (.seq (.sn mx (.fa vp Qk e (.ld vA e (.c (.call .none (znR hv14) (.cons (.s e) .nil)) (.asn e (.nil (.sn mx (.mv e (.nei e (.nil (.cb e h (fun _ h=>?_) fun _ h=>?_)))))))))))))
     ·
      refine .sn mx (.mv e (.asn e (.nil (.ret (.thenRet ?_)))))
      obtain rfl:=za h
      exact zb.rt Tryz.results54 e
     ·
      obtain⟨e3,hv16,h⟩:=bind_some h
      refine .skip (.then (.seq (.sn mx (.fa zdl zdD e (.ld ty9 e (.c (.call .none (zkS hv16) (.cons (.s e) .nil)) (.asn e (.nil (.sn mx (.mv e (.nei e (.nil (.cb e h (fun _ h=>?_) fun _ h=>?_)))))))))))))
      ·
       refine .sn mx (.mv e (.asn e (.nil (.ret (.thenRet ?_)))))
       obtain rfl:=za h
       exact zb.rt Tryz.results54 e
      ·
       obtain⟨r2,hv18,h⟩:=bind_some h
       refine .skip (.then (.seq (.sn mx (.fa zbN zbX e (.ld ty9 e (.c (.neS .none (qP Tryz.underlying9) (.s e) (.str (l:=[]) (by decide))) (.mv e (.fg zbN zbX e e e (.lg ty9 e e e (.c (.callIf (.at e e) ziN (fun hg=>zd4 ((fun hg=>yC hv18 (hg.2)) hg)) (.cons (.tmp e id) .nil) (fun h=>h)) (.c (.not (.at e e) (.tmp e id)) (.pa e e (.nil (.cb e h (fun _ h=>?_) fun _ h=>?_))))))))))))))
       ·
        refine .sn mx (.asi (.nil (.ret (.thenRet ?_))))
        obtain rfl:=za h
        exact zb.rt Tryz.results54 e
       ·
        refine .skip (.then (.sn mx (.asi (.nil (.ret ?_)))))
        obtain rfl:=za h
        exact zb.rt Tryz.results54 e
theorem znU {l1:(List Box)}{r:Int}  (h:zbQ l1=some r):zi Tryz.prog 132 [rep l1] (rep r):=by
 unfold zbQ at h
 refine zi.i Tryz.func132 e Tryz.ntmps132 e (fun F=>(.sn mx (.asi (.nil (.seq (.sn mx (.mv e (.ln y5 e (.mvi (.nil ?_))))))))))
 obtain⟨o_1,h,hK1⟩:=ym h
 refine .tJ (fun s=>o_1=Res.nx s) Sub.nil ze.nil ?_ (fun j_1 hj1=>?_)
 ·
  refine .block (.rforEL h (fun p2_=>[(8,⟨True,rep p2_.1⟩)]) (fun p2_=>[]) (.k 8 e .nil) ze.nil (.k2 6 7 e e .nil) ze.nil (fun p2_ o_2 h hD2=>(.sn mx (.lt e e (.nil (.seq (.cb e h (fun _ h=>?_) fun _ h=>?_)))))))
  ·
   refine .skip (.then (.seq ?_))
   obtain⟨o_4,h,hK4⟩:=yK h
   unfold zfZ at h
   refine .tJ (fun s=>o_4=Res.nx s) (.k2 6 7 e e (.k 8 e .nil)) ze.nil ?_ (fun j_4 hj4=>?_)
   ·
    obtain⟨hn5,h⟩:=zr h
    obtain⟨v1,hv6,h⟩:=zh h
    obtain⟨e1,hv7,h⟩:=bind_some h
    refine .block (.sr [oo,oo,([],[4]),([4],[4])] mx (.ixA y5 zK e e hn5 (.rlA hv6 zK e (.al q8 e (.st zK e e e (.nil (.freeze (t:=4) e e ze.nil e (.sn mx (.ld zK e (.c (.call .none (zaw hv7) (.cons (.s e) .nil)) (.asn e (.nil (.sn mx (.mv e (.nei e (.nil (.cb e h (fun _ h=>?_) fun _ h=>?_)))))))))))))))))
    ·
     refine .sn mx (.mv e (.asn e (.nil (.ret (.blkRet (.thenRet (.thenRet (.blkRet (.thenRet ?_)))))))))
     replace h:=yD hK4 (za h)
     replace h:=hD2 _ (za h)
     replace h:=z6 hK1 (za h)
     obtain rfl:=za h
     exact zb.rt Tryz.results132 e
    ·
     exact .skip (.blkNormal (zb.j _ (za h)))
   ·
    have h:=yN hK4 hj4
    exact .rn mx (.adi e (.mv e (.nil (zb.ag (za h)))))
  ·
   refine .exit (.thenExit (.thenExit (.blkExit ?_)))
   replace h:=hD2 _ (za h)
   exact zb.j _ (za h)
 ·
  have h:=yo hK1 hj1
  refine .sn mx (.asi (.nil (.ret ?_)))
  obtain rfl:=za h
  exact zb.rt Tryz.results132 e
theorem znT {l1:(List Box)}{r:(Box×Int)}  (h:zay l1=some r):zi Tryz.prog 101 [rep l1] (tup [rep r.1,rep r.2]):=by
 unfold zay at h
 obtain⟨v1,hv1,h⟩:=zh h
 refine zi.i Tryz.func101 e Tryz.ntmps101 e (fun F=>(.sr [([],[2]),oo] mx (.al q8 e (.cA (.assign .none .i) (.nil (.reB (t:=2) e (congrArg (zE 30) hv1) (.nameBox (t:=2) (g:=5001) e e (fun m5001=>(.seq (.sn mx (.mv e (.ln y5 e (.c (.gt .none (.s e) .i) (.nil (.cb e h (fun _ h=>?_) fun _ h=>?_)))))))))))))))
 ·
  obtain⟨v2,hv3,h⟩:=zh h
  refine .sr [oo,([5001],[5001]),oo] mx (.cA (.re hv3 (.buildF (y:=(⟨(0:Int),(0:Int),(0:Int),(0:Int)⟩:Box)) .none qY q7 e .nil .nil)) (.s0 5001 zK e e e (.cA (.assign .none .i) (.nil (.fb 5001 [2] e (.cons (t:=2) e trivial .nil) (.ret (.thenRet ?_)))))))
  obtain rfl:=za h
  exact zb.r2 Tryz.results101 zK e e
 ·
  obtain⟨e1,hv4,h⟩:=bind_some h
  refine .skip (.then (.seq (.sn mx (.mv e (.c (.call .none (znU hv4) (.cons (.s e) .nil)) (.asn e (.nil (.sn mx (.mv e (.nei e (.nil (.cb e h (fun _ h=>?_) fun _ h=>?_))))))))))))
  ·
   obtain⟨v3,hv6,h⟩:=zh h
   refine .sr [oo,oo,([5001],[5001]),oo] mx (.cA (.re hv6 (.buildF (y:=(⟨(0:Int),(0:Int),(0:Int),(0:Int)⟩:Box)) .none qY q7 e .nil .nil)) (.mvA e (.s0 5001 zK e e e (.asnA e (.nil (.fb 5001 [2] e (.cons (t:=2) e trivial .nil) (.ret (.thenRet ?_))))))))
   obtain rfl:=za h
   exact zb.r2 Tryz.results101 zK e e
  ·
   refine .skip (.then (.seq (.sn mx (.mv e (.ln y5 e (.eqi e (.nil (.cb e h (fun _ h=>?_) fun _ h=>?_))))))))
   ·
    obtain⟨v4,hv8,h⟩:=zh h
    refine .sr [oo,([5001],[5001]),oo] mx (.cA (.re hv8 (.buildF (y:=(⟨(0:Int),(0:Int),(0:Int),(0:Int)⟩:Box)) .none qY q7 e .nil .nil)) (.s0 5001 zK e e e (.cA (.assign .none .i) (.nil (.fb 5001 [2] e (.cons (t:=2) e trivial .nil) (.ret (.thenRet ?_)))))))
    obtain rfl:=za h
    exact zb.r2 Tryz.results101 zK e e
   ·
    obtain⟨hn9,h⟩:=zr h
    obtain⟨v5,hv10,h⟩:=zh h
    refine .skip (.then (.sr [oo,oo,oo,([],[5]),([5],[5])] mx (.mvA e (.cA (.indexAddr .none y5 zK (.s e) .i (fun _=>hn9)) (.rlA hv10 zK e (.al q8 e (.st zK e e e (.nil (.nameBox (t:=5) (g:=5002) e e (fun m5002=>(.seq (.sn mx (.mv e (.ln y5 e (.mvi (.nil ?_))))))))))))))))
    obtain⟨j_11,h,hK11⟩:=bind_some h
    refine .thenJ (ι:=Box) (fun j_11=>[]) (fun j_11=>[(5002,some (jb m5002 30 j_11))]) (fun s=>j_11=s) (.k2 2 5 e e .nil) (.k 5001 e .nil) ?_ (fun j_11' hj11=>?_)
    ·
     refine .block (.rforL h (fun p12_=>[(29,⟨True,rep p12_.1⟩)]) (fun p12_=>[(5002,some (jb m5002 30 p12_.2))]) (.k 29 e .nil) (.k 5002 e .nil) (.k4 2 5 27 28 e e e e .nil) (.k 5001 e .nil) (fun p12_ o_12 h hD12=>(.sn mx (.lt e e (.nil (.seq (.cb e h (fun _ h=>?_) fun _ h=>?_)))))))
     ·
      refine .skip (.then (.seq ?_))
      obtain⟨j_14,h,hK14⟩:=bind_some h
      unfold zdu at h
      refine .thenJ (ι:=Box) (fun j_14=>[]) (fun j_14=>[(5002,some (jb m5002 30 j_14))]) (fun s=>j_14=s) (.k4 2 5 27 28 e e e e (.k 29 e .nil)) (.k 5001 e .nil) ?_ (fun j_14' hj14=>?_)
      ·
       obtain⟨hn15,h⟩:=zr h
       obtain⟨v6,hv16,h⟩:=zh h
       obtain⟨x1,hv17,h⟩:=zh h
       obtain⟨y1,hv18,h⟩:=zh h
       obtain⟨v7,hv19,h⟩:=zh h
       refine .block (.sr [oo,oo,([],[7]),([7],[7])] mx (.ixA y5 zK e e hn15 (.rlA hv16 zK e (.al q8 e (.st zK e e e (.nil (.freeze (t:=7) e e (.k2 5001 5002 e e .nil) e (.sr [oo,([5002],[]),oo,oo,oo,oo,([5002],[]),oo,oo,oo,oo,oo] mx (.cA (.fieldPtr .none qf (.s e)) (.cA (.loadAt (k:=5002) .none ty3 e (.s e) y7) (.faA qf y7 e (.ldA ty3 e (.cA (.min2 .none (.s e) (.s e)) (.cA (.fieldPtr .none qg (.s e)) (.cA (.loadAt (k:=5002) .none ty3 e (.s e) y8) (.faA qg y8 e (.ldA ty3 e (.cA (.min2 .none (.s e) (.s e)) (.cA (.re hv17 (.assign .none (.s e))) (.cA (.re hv18 (.assign .none (.s e))) (.nil (.rg [oo,oo,oo,([5002],[]),oo,([5002],[]),oo,oo,oo,oo,oo,oo,oo,oo,oo,oo,([5002],[]),oo,([5002],[]),oo,oo,oo,oo,oo,oo,oo,oo,oo,oo,([5002],[5002])] mx (.mvA e (.mvA e (.cA (.fieldPtr .none qf (.s e)) (.cA (.loadAt (k:=5002) .none ty3 e (.s e) y7) (.cA (.fieldPtr .none yQ (.s e)) (.cA (.loadAt (k:=5002) .none ty3 e (.s e) yL) (.addA e e (.faA qf y7 e (.ldA ty3 e (.faA yQ yL e (.ldA ty3 e (.addA e e (.cA (.max2 .none (.s e) (.s e)) (.mvA e (.subA e e (.cA (.fieldPtr .none qg (.s e)) (.cA (.loadAt (k:=5002) .none ty3 e (.s e) y8) (.cA (.fieldPtr .none yU (.s e)) (.cA (.loadAt (k:=5002) .none ty3 e (.s e) yR) (.addA e e (.faA qg y8 e (.ldA ty3 e (.faA yU yR e (.ldA ty3 e (.addA e e (.cA (.max2 .none (.s e) (.s e)) (.mvA e (.subA e e (.cA (.re hv19 (.buildF (y:=(⟨x1,y1,W ((max (W (p12_.2.X+p12_.2.W_)) (W (v6.X+v6.W_))) - x1),W ((max (W (p12_.2.Y+p12_.2.H)) (W (v6.Y+v6.H))) - y1)⟩:Box)) .none qY q7 e (.cons (.s e) (.cons (.s e) (.cons (.s e) (.cons (.s e) .nil)))) (.cons e zeM (.cons e zeN (.cons e zeO (.cons e zeP .nil)))))) ?_)))))))))))))))))))))))))))))))))))))))))))))))))))
       exact .s0 5002 zK e e e (.nil (.blkNormal (zb.j _ (za h))))
      ·
       subst hj14;have h:=hK14;clear hK14
       exact .rn mx (.adi e (.mv e (.nil (zb.ag (za h)))))
     ·
      refine .exit (.thenExit (.thenExit (.blkExit ?_)))
      replace h:=hD12 _ (za h)
      exact zb.j _ (za h)
    ·
     subst hj11;have h:=hK11;clear hK11
     refine .freezeBox (g:=5002) (ts:=[5]) e (.cons (t:=5) e trivial .nil) (.k 5001 e .nil) e (.seq (.sn mx (.fa yQ yL e (.ld ty3 e (.c (.gt .none (.s e) .i) (.mv e (.fg yU yR e e e (.lg ty3 e e e (.c (.gt (.at e e) (.tmp e id) .i) (.po e e (.nil (.cb e h (fun _ h=>?_) fun _ h=>?_))))))))))))
     ·
      obtain⟨v8,hv21,h⟩:=zh h
      refine .sr [oo,([5001],[5001]),oo] mx (.cA (.re hv21 (.buildF (y:=(⟨(0:Int),(0:Int),(0:Int),(0:Int)⟩:Box)) .none qY q7 e .nil .nil)) (.s0 5001 zK e e e (.cA (.assign .none .i) (.nil (.fb 5001 [2] e (.cons (t:=2) e trivial .nil) (.ret (.thenRet ?_)))))))
      obtain rfl:=za h
      exact zb.r2 Tryz.results101 zK e e
     ·
      refine .skip (.then (.sr [oo,([5001],[5001]),oo] mx (.ldA zK e (.s0 5001 zK e e e (.cA (.assign .none .i) (.nil (.fb 5001 [2] e (.cons (t:=2) e trivial .nil) (.ret ?_))))))))
      obtain rfl:=za h
      exact zb.r2 Tryz.results101 zK e e
theorem znS {b1:Box}{n1:Int}{r:(Box×Int)}  (h:zax b1 n1=some r):zi Tryz.prog 102 [rep b1,rep n1] (tup [rep r.1,rep r.2]):=by
 unfold zax at h
 obtain⟨v1,hv1,h⟩:=zh h
 obtain⟨e1,hv2,h⟩:=bind_some h
 refine zi.i Tryz.func102 e Tryz.ntmps102 e (fun F=>(.sr [oo,([],[4]),oo] mx (.cA (.box .none (.s e)) (.al q8 e (.cA (.assign .none .i) (.nil (.reB (t:=4) e (congrArg (zE 30) hv1) (.nameBox (t:=4) (g:=5001) e e (fun m5001=>(.seq (.sn mx (.ld zK e (.c (.call .none (zaw hv2) (.cons (.s e) .nil)) (.asn e (.nil (.sn mx (.mv e (.nei e (.nil (.cb e h (fun _ h=>?_) fun _ h=>?_))))))))))))))))))))
 ·
  obtain⟨v2,hv4,h⟩:=zh h
  refine .sr [oo,oo,([5001],[5001]),oo] mx (.cA (.re hv4 (.buildF (y:=(⟨(0:Int),(0:Int),(0:Int),(0:Int)⟩:Box)) .none qY q7 e .nil .nil)) (.mvA e (.s0 5001 zK e e e (.asnA e (.nil (.fb 5001 [4] e (.cons (t:=4) e trivial .nil) (.ret (.thenRet ?_))))))))
  obtain rfl:=za h
  exact zb.r2 Tryz.results102 zK e e
 ·
  refine .skip (.then (.seq (.sn mx (.mv e (.c (.lt .none (.s e) .i) (.mv e (.mg e e e (.c (.gt (.at e e) (.tmp e id) .i) (.po e e (.nil (.cb e h (fun _ h=>?_) fun _ h=>?_)))))))))))
  ·
   obtain⟨v3,hv6,h⟩:=zh h
   refine .sr [oo,([5001],[5001]),oo] mx (.cA (.re hv6 (.buildF (y:=(⟨(0:Int),(0:Int),(0:Int),(0:Int)⟩:Box)) .none qY q7 e .nil .nil)) (.s0 5001 zK e e e (.cA (.assign .none .i) (.nil (.fb 5001 [4] e (.cons (t:=4) e trivial .nil) (.ret (.thenRet ?_)))))))
   obtain rfl:=za h
   exact zb.r2 Tryz.results102 zK e e
  ·
   obtain⟨v4,hv7,h⟩:=zh h
   refine .skip (.then (.sr [oo,oo,oo,oo,oo,oo,oo,oo,oo,oo,oo,oo,oo,oo,oo,oo,oo,oo,oo,([],[7]),([7],[7])] mx (.faA qf y7 e (.ldA ty3 e (.mvA e (.subA e e (.faA qg y8 e (.ldA ty3 e (.mvA e (.subA e e (.faA yQ yL e (.ldA ty3 e (.mvA e (.cA (.mulW .none .i (.s e)) (.addA e e (.faA yU yR e (.ldA ty3 e (.mvA e (.cA (.mulW .none .i (.s e)) (.addA e e (.cA (.re hv7 (.buildF (y:=(⟨W (b1.X - n1),W (b1.Y - n1),W (b1.W_+(W (2*n1))),W (b1.H+(W (2*n1)))⟩:Box)) .none qY q7 e (.cons (.s e) (.cons (.s e) (.cons (.s e) (.cons (.s e) .nil)))) (.cons e zeM (.cons e zeN (.cons e zeO (.cons e zeP .nil)))))) (.al q8 e (.st zK e e e (.nil (.freeze (t:=7) e e (.k 5001 e .nil) e (.seq (.sn mx (.fa yQ yL e (.ld ty3 e (.c (.lt .none (.s e) .i) (.mv e (.fg yU yR e e e (.lg ty3 e e e (.c (.lt (.at e e) (.tmp e id) .i) (.po e e (.nil (.cb e h (fun _ h=>?_) fun _ h=>?_)))))))))))))))))))))))))))))))))))))
   ·
    obtain⟨v5,hv9,h⟩:=zh h
    refine .sr [oo,([5001],[5001]),oo] mx (.cA (.re hv9 (.buildF (y:=(⟨(0:Int),(0:Int),(0:Int),(0:Int)⟩:Box)) .none qY q7 e .nil .nil)) (.s0 5001 zK e e e (.cA (.assign .none .i) (.nil (.fb 5001 [4] e (.cons (t:=4) e trivial .nil) (.ret (.thenRet ?_)))))))
    obtain rfl:=za h
    exact zb.r2 Tryz.results102 zK e e
   ·
    obtain⟨e2,hv10,h⟩:=bind_some h
    refine .skip (.then (.seq (.sn mx (.ld zK e (.c (.call .none (zaw hv10) (.cons (.s e) .nil)) (.asn e (.nil (.sn mx (.mv e (.nei e (.nil (.cb e h (fun _ h=>?_) fun _ h=>?_))))))))))))
    ·
     obtain⟨v6,hv12,h⟩:=zh h
     refine .sr [oo,oo,([5001],[5001]),oo] mx (.cA (.re hv12 (.buildF (y:=(⟨(0:Int),(0:Int),(0:Int),(0:Int)⟩:Box)) .none qY q7 e .nil .nil)) (.mvA e (.s0 5001 zK e e e (.asnA e (.nil (.fb 5001 [4] e (.cons (t:=4) e trivial .nil) (.ret (.thenRet ?_))))))))
     obtain rfl:=za h
     exact zb.r2 Tryz.results102 zK e e
    ·
     refine .skip (.then (.sr [oo,([5001],[5001]),oo] mx (.ldA zK e (.s0 5001 zK e e e (.cA (.assign .none .i) (.nil (.fb 5001 [4] e (.cons (t:=4) e trivial .nil) (.ret ?_))))))))
     obtain rfl:=za h
     exact zb.r2 Tryz.results102 zK e e
theorem zpb {self:(yk×Int)→Option (Box×Int)}(hself:∀(x:(yk×Int)) (r:(Box×Int)),self x=some r→zi Tryz.prog 55 [ref x.1,rep x.2] (tup [rep r.1,rep r.2]))  {x:(yk×Int)}{r:(Box×Int)}(h:jo self x=some r):zi Tryz.prog 55 [ref x.1,rep x.2] (tup [rep r.1,rep r.2]):=by
 unfold jo at h
 obtain⟨v2,hv1,h⟩:=zh h
 obtain⟨hn2,h⟩:=zr h
 obtain⟨v3,hv3,h⟩:=zh h
 refine zi.i Tryz.func55 e Tryz.ntmps55 e (fun F=>(.sr [([],[4]),oo] mx (.al q8 e (.cA (.assign .none .i) (.nil (.reB (t:=4) e (congrArg (zE 30) hv1) (.nameBox (t:=4) (g:=5001) e e (fun m5001=>(.sr [oo,oo,oo,oo,oo,oo,oo,oo,([],[6]),([6],[6])] mx (.mvA e (.cA (.nilCheckR .none (.s e)) (.faA Ya Yi e (.faA yB yF e (.ldA yE e (.mvA e (.ixA z7 zR e e hn2 (.rlA hv3 zR e (.al qL e (.st zR e e e (.nil (.freeze (t:=6) e e (.k 5001 e .nil) e (.seq (.sn mx (.fa jc qZ e (.ld ty3 e (.nei e (.nil (.cb e h (fun _ h=>?_) fun _ h=>?_))))))))))))))))))))))))))))
 ·
  refine .sr [oo,oo,([5001],[5001]),oo] mx (.faA QD Qj e (.ldA zK e (.s0 5001 zK e e e (.cA (.assign .none .i) (.nil (.fb 5001 [4] e (.cons (t:=4) e trivial .nil) (.ret (.thenRet ?_))))))))
  obtain rfl:=za h
  exact zb.r2 Tryz.results55 zK e e
 ·
  obtain⟨v4,hv5,h⟩:=zh h
  refine .skip (.then (.sr [([],[7])] mx (.cW (.nilRow (T:=30) (α:=Box) e) (.nil (.nameRow (t:=7) (g:=5002) e e e (fun s5002=>(.seq (.sn mx (.mv e (.c (.nilCheckR .none (.s e)) (.fa zdj zi3 e (.ld zld e (.fa jt jk e (.ld ty9 e (.c (.re hv5 (.lookup .none zdS ze6 (.s e) (.s e))) (.ln yl e (.mvi (.nil ?_))))))))))))))))))
  obtain⟨o_6,h,hK6⟩:=ym h
  refine .thenJ (ι:=(List Box)) (fun j_6=>[]) (fun j_6=>[(7,some (zk 30 j_6))]) (fun s=>o_6=Res.nx s) (.k 4 e .nil) (.k 5001 e .nil) ?_ (fun j_6 hj6=>?_)
  ·
   refine .block (.anon (t:=7) (g:=5002) e e trivial e (.rforEL h (fun p7_=>[(35,⟨True,rep p7_.1⟩)]) (fun p7_=>[(7,some (zk 30 p7_.2))]) (.k 35 e .nil) (.k 7 e .nil) (.k4 0 4 33 34 e e e e .nil) (.k 5001 e .nil) (fun p7_ o_7 h hD7=>(.nameRow (t:=7) (g:=5003) e e e (fun s5003=>(.sn mx (.lt e e (.nil (.seq (.cb e h (fun _ h=>?_) fun _ h=>?_))))))))))
   ·
    refine .skip (.then (.seq ?_))
    obtain⟨o_9,h,hK9⟩:=yK h
    unfold Qm at h
    refine .thenJ (ι:=(List Box)) (fun j_9=>[]) (fun j_9=>[(7,some (zk 30 j_9))]) (fun s=>o_9=Res.nx s) (.k4 0 4 33 34 e e e e (.k 35 e .nil)) (.k 5001 e .nil) ?_ (fun j_9 hj9=>?_)
    ·
     obtain⟨hn10,h⟩:=zr h
     obtain⟨r1,hv11,h⟩:=bind_some h
     refine .block (.sn mx (.ix yl ty3 e e hn10 (.ld ty3 e (.asn e (.nil (.sr [oo,oo,oo,oo,oo,oo,([],[10]),([10],[10]),oo] mx (.mvA e (.mvA e (.cA (.call .none (hself _ _ hv11) (.cons (.s e) (.cons (.s e) .nil))) (.mvA e (.exA e e (.exA e e (.al q8 e (.st zK e e e (.asnA e (.nil (.freeze (t:=10) e e (.k2 5001 5003 e e .nil) e (.seq (.sn mx (.mv e (.nei e (.nil (.cb e h (fun _ h=>?_) fun _ h=>?_)))))))))))))))))))))))
     ·
      obtain⟨v5,hv13,h⟩:=zh h
      refine .sr [oo,oo,([5001],[5001]),oo] mx (.cA (.re hv13 (.buildF (y:=(⟨(0:Int),(0:Int),(0:Int),(0:Int)⟩:Box)) .none qY q7 e .nil .nil)) (.mvA e (.s0 5001 zK e e e (.asnA e (.nil (.fb 5001 [4] e (.cons (t:=4) e trivial .nil) (.ret (.thenRet (.blkRet (.thenRet (.thenRet (.blkRet (.thenRet ?_)))))))))))))
      replace h:=yD hK9 (za h)
      replace h:=hD7 _ (za h)
      replace h:=z6 hK6 (za h)
      obtain rfl:=za h
      exact zb.r2 Tryz.results55 zK e e
     ·
      obtain⟨hn14,h⟩:=zr h
      exact .skip (.then (.rg [oo,oo,oo,([5003],[52,5003]),([52],[7,52])] mx (.mvA e (.ldA zK e (.cA (.buildSlice (xs:=[_]) .none y5 zK zdF (.cons (.s e) .nil) e (by decide)) (.cW (.append (k:=5003) zeE e (.told (.s e) e) (.s e) hn14) (.cW (.passRow e (.tmp e)) (.nil (.blkNormal (zb.j _ (za h)))))))))))
    ·
     have h:=yN hK9 hj9
     exact .nameRow (t:=7) (g:=5004) e e e (fun s5004=>(.rn mx (.adi e (.mv e (.nil (.anon (t:=7) (g:=5004) e e trivial e (zb.ag (za h))))))))
   ·
    refine .exit (.thenExit (.thenExit (.blkExit (.anon (t:=7) (g:=5003) e e trivial e ?_))))
    replace h:=hD7 _ (za h)
    exact zb.j _ (za h)
  ·
   have h:=yo hK6 hj6
   obtain⟨r2,hv15,h⟩:=bind_some h
   refine .freezeRowA (t:=7) e e (.k 5001 e .nil) e (.sr [oo,oo,oo,oo,oo,([],[12]),([12],[12]),oo] mx (.mvA e (.cA (.call .none (znT hv15) (.cons (.s e) .nil)) (.mvA e (.exA e e (.exA e e (.al q8 e (.st zK e e e (.asnA e (.nil (.freeze (t:=12) e e (.k 5001 e .nil) e (.seq (.sn mx (.mv e (.nei e (.nil (.cb e h (fun _ h=>?_) fun _ h=>?_)))))))))))))))))
   ·
    obtain⟨v6,hv17,h⟩:=zh h
    refine .sr [oo,oo,([5001],[5001]),oo] mx (.cA (.re hv17 (.buildF (y:=(⟨(0:Int),(0:Int),(0:Int),(0:Int)⟩:Box)) .none qY q7 e .nil .nil)) (.mvA e (.s0 5001 zK e e e (.asnA e (.nil (.fb 5001 [4] e (.cons (t:=4) e trivial .nil) (.ret (.thenRet ?_))))))))
    obtain rfl:=za h
    exact zb.r2 Tryz.results55 zK e e
   ·
    obtain⟨r3,hv18,h⟩:=bind_some h
    refine .skip (.then (.sr [oo,oo,oo,oo,([5001],[5001]),oo] mx (.ldA zK e (.cA (.call .none (znS hv18) (.cons (.s e) (.cons .i .nil))) (.exA e e (.exA e e (.s0 5001 zK e e e (.asnA e (.nil (.fb 5001 [4] e (.cons (t:=4) e trivial .nil) (.ret ?_)))))))))))
    obtain rfl:=za h
    exact zb.r2 Tryz.results55 zK e e
theorem zjP:∀(k:Nat)  (x:(yk×Int)) (r:(Box×Int)) (h:qw jo k x=some r),zi Tryz.prog 55 [ref x.1,rep x.2] (tup [rep r.1,rep r.2])
 | 0,x,r,h=>by simp[qw]at h
 | k+1,x,r,h=>zpb (zjP k) h
theorem zpa {v1:yk}{i1:Int}{r:(Box×Int)}  (h:YU v1 i1=some r):zi Tryz.prog 55 [ref v1,rep i1] (tup [rep r.1,rep r.2]):=
 let ⟨k,hk⟩:=ziG h
 zjP k (v1,i1) r hk
theorem zjN {d1:Doc}{r:Int}  (h:vO d1=some r):zi Tryz.prog 21 [rep d1] (rep r):=by
 unfold vO at h
 refine zi.i Tryz.func21 e Tryz.ntmps21 e (fun F=>(.sn mx (.c (.box .none (.s e)) (.asi (.nil (.seq (.sn mx (.fa yB yF e (.ld yE e (.ln z7 e (.c (.gt .none (.s e) .i) (.mv e (.fg ji jT e e e (.lg jJ e e e (.c (.len (.at e e) qk (.tmp e id)) (.c (.gt (.at e e) (.tmp e id) .i) (.po e e (.nil (.cb e h (fun _ h=>?_) fun _ h=>?_)))))))))))))))))))
 ·
  refine .sn mx (.asi (.nil (.ret (.thenRet ?_))))
  obtain rfl:=za h
  exact zb.rt Tryz.results21 e
 ·
  obtain⟨known1,hv2,h⟩:=zh h
  refine .skip (.then (.sr [([],[25]),([25],[3,25])] mx (.cW (.makeMap (K:=Str) (V:=Bool) e) (.cW (.passRow e (.tmp e)) (.nil (.reB (t:=3) e (congrArg yH hv2) (.nameMap (t:=3) (g:=5001) e e e (fun s5001=>(.seq (.sn mx (.fa yB yF e (.ld yE e (.ln z7 e (.mvi (.nil ?_)))))))))))))))
  obtain⟨o_3,h,hK3⟩:=ym h
  refine .thenJ (ι:=(GMap Str Bool)) (fun j_3=>[]) (fun j_3=>[(5001,some (zf.at s5001 (yH j_3)))]) (fun s=>o_3=Res.nx s) (.k2 1 3 e e .nil) ze.nil ?_ (fun j_3 hj3=>?_)
  ·
   refine .block (.rforEL h (fun p4_=>[(29,⟨True,rep p4_.1⟩)]) (fun p4_=>[(5001,some (zf.at s5001 (yH p4_.2)))]) (.k 29 e .nil) (.k 5001 e .nil) (.k4 1 3 27 28 e e e e .nil) ze.nil (fun p4_ o_4 h hD4=>(.sn mx (.lt e e (.nil (.seq (.cb e h (fun _ h=>?_) fun _ h=>?_)))))))
   ·
    refine .skip (.then (.seq ?_))
    obtain⟨o_6,h,hK6⟩:=yK h
    unfold YT at h
    refine .thenJ (ι:=(GMap Str Bool)) (fun j_6=>[]) (fun j_6=>[(5001,some (zf.at s5001 (yH j_6)))]) (fun s=>o_6=Res.nx s) (.k4 1 3 27 28 e e e e (.k 29 e .nil)) ze.nil ?_ (fun j_6 hj6=>?_)
    ·
     obtain⟨hn7,h⟩:=zr h
     obtain⟨v1,hv8,h⟩:=zh h
     obtain⟨e1,hv9,h⟩:=bind_some h
     refine .block (.sr [oo,oo,([],[5]),([5],[5])] mx (.ixA z7 zR e e hn7 (.rlA hv8 zR e (.al qL e (.st zR e e e (.nil (.freeze (t:=5) e e (.k 5001 e .nil) e (.seq (.sr [oo,oo,oo,oo,([5001],[]),oo,oo] mx (.ldA zR e (.mvA e (.faA jt jk e (.ldA ty9 e (.cA (.lookupO (q:=5001) .none zdT zo4 zd3 (.told (.s e) e) (.s e)) (.cA (.call .none (zo8 hv9) (.cons (.s e) (.cons (.s e) .nil))) (.asnA e (.nil (.sn mx (.mv e (.nei e (.nil (.cb e h (fun _ h=>?_) fun _ h=>?_))))))))))))))))))))))
     ·
      refine .sn mx (.mv e (.asn e (.nil (.ret (.thenRet (.blkRet (.thenRet (.thenRet (.blkRet (.thenRet ?_))))))))))
      replace h:=yD hK6 (za h)
      replace h:=hD4 _ (za h)
      replace h:=z6 hK3 (za h)
      obtain rfl:=za h
      exact zb.rt Tryz.results21 e
     ·
      exact .skip (.then (.rg [oo,oo,oo,([5001],[5001])] mx (.mvA e (.faA jt jk e (.ldA ty9 e (.cN (.mapUpdate (q:=5001) zdT (.s e) e (.s e) .bool) (.nil (.blkNormal (zb.j _ (za h))))))))))
    ·
     have h:=yN hK6 hj6
     exact .rn mx (.adi e (.mv e (.nil (zb.ag (za h)))))
   ·
    refine .exit (.thenExit (.thenExit (.blkExit ?_)))
    replace h:=hD4 _ (za h)
    exact zb.j _ (za h)
  ·
   have h:=yo hK3 hj3
   obtain⟨v2,hv11,h⟩:=bind_some h
   obtain⟨p1,hv12,h⟩:=bind_some h
   obtain⟨e2,hv13,h⟩:=bind_some h
   refine .sn mx (.ld yz e (.c (.isRef hv12 (.call .none (zo9 hv11) (.cons (.s e) .nil))) (.asn e (.nil (.seq (.sn mx (.mv e (.c (.call .none (zpe hv13) (.cons (.s e) .nil)) (.asn e (.nil (.sn mx (.mv e (.nei e (.nil (.cb e h (fun _ h=>?_) fun _ h=>?_)))))))))))))))
   ·
    refine .sn mx (.mv e (.asn e (.nil (.ret (.thenRet ?_)))))
    obtain rfl:=za h
    exact zb.rt Tryz.results21 e
   ·
    refine .skip (.then (.seq (.sn mx (.fa ji jT e (.ld jJ e (.ln qk e (.mvi (.nil ?_))))))))
    obtain⟨o_15,h,hK15⟩:=ym h
    refine .thenJ (ι:=(GMap Str Bool)) (fun j_15=>[]) (fun j_15=>[(5001,some (zf.at s5001 (yH j_15)))]) (fun s=>o_15=Res.nx s) (.k2 1 3 e e (.k 7 e .nil)) ze.nil ?_ (fun j_15 hj15=>?_)
    ·
     refine .block (.rforEL h (fun p16_=>[(56,⟨True,rep p16_.1⟩)]) (fun p16_=>[(5001,some (zf.at s5001 (yH p16_.2)))]) (.k 56 e .nil) (.k 5001 e .nil) (.k4 1 3 7 54 e e e e (.k 55 e .nil)) ze.nil (fun p16_ o_16 h hD16=>(.sn mx (.lt e e (.nil (.seq (.cb e h (fun _ h=>?_) fun _ h=>?_)))))))
     ·
      refine .skip (.then (.seq ?_))
      obtain⟨o_18,h,hK18⟩:=yK h
      unfold zaL at h
      refine .thenJ (ι:=(GMap Str Bool)) (fun j_18=>[]) (fun j_18=>[(5001,some (zf.at s5001 (yH j_18)))]) (fun s=>o_18=Res.nx s) (.k4 1 3 7 54 e e e e (.k2 55 56 e e .nil)) ze.nil ?_ (fun j_18 hj18=>?_)
      ·
       obtain⟨hn19,h⟩:=zr h
       obtain⟨v3,hv20,h⟩:=zh h
       obtain⟨e3,hv21,h⟩:=bind_some h
       refine .block (.sr [oo,oo,([],[10]),([10],[10])] mx (.ixA qk yP e e hn19 (.rlA hv20 yP e (.al zae e (.st yP e e e (.nil (.freeze (t:=10) e e (.k 5001 e .nil) e (.seq (.sr [oo,oo,oo,oo,oo,([5001],[]),oo,oo] mx (.mvA e (.ldA yP e (.mvA e (.faA Yc Yj e (.ldA ty9 e (.cA (.lookupO (q:=5001) .none zdT zo4 zd3 (.told (.s e) e) (.s e)) (.cA (.call .none (zpc hv21) (.cons (.s e) (.cons (.s e) (.cons (.s e) .nil)))) (.asnA e (.nil (.sn mx (.mv e (.nei e (.nil (.cb e h (fun _ h=>?_) fun _ h=>?_)))))))))))))))))))))))
       ·
        refine .sn mx (.mv e (.asn e (.nil (.ret (.thenRet (.blkRet (.thenRet (.thenRet (.blkRet (.thenRet ?_))))))))))
        replace h:=yD hK18 (za h)
        replace h:=hD16 _ (za h)
        replace h:=z6 hK15 (za h)
        obtain rfl:=za h
        exact zb.rt Tryz.results21 e
       ·
        exact .skip (.then (.rg [oo,oo,oo,([5001],[5001])] mx (.mvA e (.faA Yc Yj e (.ldA ty9 e (.cN (.mapUpdate (q:=5001) zdT (.s e) e (.s e) .bool) (.nil (.blkNormal (zb.j _ (za h))))))))))
      ·
       have h:=yN hK18 hj18
       exact .rn mx (.adi e (.mv e (.nil (zb.ag (za h)))))
     ·
      refine .exit (.thenExit (.thenExit (.blkExit ?_)))
      replace h:=hD16 _ (za h)
      exact zb.j _ (za h)
    ·
     have h:=yo hK15 hj15
     refine .seq (.sn mx (.fa yB yF e (.ld yE e (.ln z7 e (.mvi (.nil ?_))))))
     obtain⟨o_23,h,hK23⟩:=ym h
     refine .tJ (fun s=>o_23=Res.nx s) Sub.nil ze.nil ?_ (fun j_23 hj23=>?_)
     ·
      refine .block (.rforEL h (fun p24_=>[(77,⟨True,rep p24_.1⟩)]) (fun p24_=>[]) (.k 77 e .nil) ze.nil (.k2 7 76 e e .nil) ze.nil (fun p24_ o_24 h hD24=>(.sn mx (.lt e e (.nil (.seq (.cb e h (fun _ h=>?_) fun _ h=>?_)))))))
      ·
       refine .skip (.then (.seq ?_))
       obtain⟨o_26,h,hK26⟩:=yK h
       unfold zaM at h
       refine .tJ (fun s=>o_26=Res.nx s) (.k2 7 76 e e (.k 77 e .nil)) ze.nil ?_ (fun j_26 hj26=>?_)
       ·
        obtain⟨r1,hv27,h⟩:=bind_some h
        refine .block (.sn mx (.mv e (.asn e (.nil (.sr [oo,oo,oo,oo,oo,oo,([],[13]),([13],[13]),oo] mx (.mvA e (.mvA e (.cA (.call .none (zpa hv27) (.cons (.s e) (.cons (.s e) .nil))) (.mvA e (.exA e e (.exA e e (.al q8 e (.st zK e e e (.asnA e (.nil (.sn mx (.mv e (.nei e (.nil (.cb e h (fun _ h=>?_) fun _ h=>?_))))))))))))))))))))
        ·
         refine .sn mx (.mv e (.asn e (.nil (.ret (.blkRet (.thenRet (.thenRet (.blkRet (.thenRet ?_)))))))))
         replace h:=yD hK26 (za h)
         replace h:=hD24 _ (za h)
         replace h:=z6 hK23 (za h)
         obtain rfl:=za h
         exact zb.rt Tryz.results21 e
        ·
         exact .skip (.blkNormal (zb.j _ (za h)))
       ·
        have h:=yN hK26 hj26
        exact .rn mx (.adi e (.mv e (.nil (zb.ag (za h)))))
      ·
       refine .exit (.thenExit (.thenExit (.blkExit ?_)))
       replace h:=hD24 _ (za h)
       exact zb.j _ (za h)
     ·
      have h:=yo hK23 hj23
      refine .sn mx (.asi (.nil (.ret ?_)))
      obtain rfl:=za h
      exact zb.rt Tryz.results21 e
theorem zq2 {kind1:Int}{r:Bool}  (h:zeR kind1=some r):zi Tryz.prog 56 [rep kind1] (rep r):=by
 unfold zeR at h
 refine zi.i Tryz.func56 e Tryz.ntmps56 e (fun F=>(.sn mx (.asb (.nil (.sn mx (.mv e (.c (.ge .none (.s e) .i) (.mv e (.mg e e e (.c (.le (.at e e) (.tmp e id) .i) (.pa e e (.asn e (.nil (.ret ?_))))))))))))))
 obtain rfl:=za h
 exact zb.rt Tryz.results56 e
theorem zhg {n1:Int}{limit1:Int}{r:Int}  (h:Jd n1 limit1=some r):zi Tryz.prog 104 [rep n1,rep limit1] (rep r):=by
 unfold Jd at h
 refine zi.i Tryz.func104 e Tryz.ntmps104 e (fun F=>(.sn mx (.asi (.nil (.seq (.block (.sn mx (.mv e (.mv e (.lt e e (.asn e (.nil (.cb e h (fun _ h=>?_) fun _ h=>?_)))))))))))))
 ·
  refine .sn mx (.asi (.nil (.ret (.blkRet (.thenRet ?_)))))
  obtain rfl:=za h
  exact zb.rt Tryz.results104 e
 ·
  refine .sn mx (.mv e (.mv e (.c (.eqI .none (.s e) (.s e)) (.asn e (.nil (.cb e h (fun _ h=>?_) fun _ h=>?_))))))
  ·
   refine .sn mx (.asi (.nil (.ret (.blkRet (.thenRet ?_)))))
   obtain rfl:=za h
   exact zb.rt Tryz.results104 e
  ·
   refine .skip (.blkNormal (.then (.sn mx (.asi (.nil (.ret ?_))))))
   obtain rfl:=za h
   exact zb.rt Tryz.results104 e
theorem zhf {n1:Int}{r:Int}  (h:zbh n1=some r):zi Tryz.prog 105 [rep n1] (rep r):=by
 unfold zbh at h
 refine zi.i Tryz.func105 e Tryz.ntmps105 e (fun F=>(.sn mx (.asi (.nil (.sn mx (.mv e (.mv e (.c (.negW .none (.s e)) (.c (.max2 .none (.s e) (.s e)) (.asn e (.nil (.ret ?_))))))))))))
 obtain rfl:=za h
 exact zb.rt Tryz.results105 e
theorem zq1 {kind1:Int}{b1:Box}{p1:zd}{r:Int}  (h:zbg kind1 b1 p1=some r):zi Tryz.prog 59 [rep kind1,rep b1,rep p1] (rep r):=by
 unfold zbg at h
 obtain⟨x1,hv1,h⟩:=zh h
 obtain⟨y1,hv2,h⟩:=zh h
 refine zi.i Tryz.func59 e Tryz.ntmps59 e (fun F=>(.sn mx (.c (.box .none (.s e)) (.c (.box .none (.s e)) (.asi (.nil (.sn mx (.fa yt yu e (.ld ty3 e (.fa qf y7 e (.ld ty3 e (.sub e e (.fa yV yW e (.ld ty3 e (.fa qg y8 e (.ld ty3 e (.sub e e (.ra hv1 e (.ra hv2 e (.nil (.seq (.sn mx (.mv e (.c (.lt .none (.s e) .i) (.mv e (.mg e e e (.fg yQ yL e e e (.lg ty3 e e e (.c (.gt (.at e e) (.tmp e id) (.tmp e id)) (.po e e (.mv e (.mg e e e (.c (.lt (.at e e) (.tmp e id) .i) (.po e e (.mv e (.mg e e e (.fg yU yR e e e (.lg ty3 e e e (.c (.gt (.at e e) (.tmp e id) (.tmp e id)) (.po e e (.nil (.cb e h (fun _ h=>?_) fun _ h=>?_))))))))))))))))))))))))))))))))))))))))))
 ·
  refine .sn mx (.asi (.nil (.ret (.thenRet ?_))))
  obtain rfl:=za h
  exact zb.rt Tryz.results59 e
 ·
  obtain⟨u1,hv4,h⟩:=zh h
  obtain⟨v1,hv5,h⟩:=zh h
  refine .skip (.then (.sn mx (.mv e (.c (.mulW .none .i (.s e)) (.fa yQ yL e (.ld ty3 e (.sub e e (.mv e (.c (.mulW .none .i (.s e)) (.fa yU yR e (.ld ty3 e (.sub e e (.fa yQ yL e (.ld ty3 e (.fa yU yR e (.ld ty3 e (.ra hv4 e (.ra hv5 e (.asn e (.asn e (.nil (.sn mx (.asi (.nil (.seq (.sn mx (.mv e (.eqi e (.mv e (.mg e e e (.mg e e e (.c (.eqI (.at e e) (.tmp e id) (.tmp e id)) (.po e e (.mv e (.mg e e e (.c (.eqI (.at e e) (.tmp e id) .i) (.po e e (.mv e (.mg e e e (.mg e e e (.c (.eqI (.at e e) (.tmp e id) (.tmp e id)) (.po e e (.nil ?_)))))))))))))))))))))))))))))))))))))))))))
  obtain⟨j_6,h,hK6⟩:=bind_some h
  refine .thenJ (ι:=Int) (fun j_6=>[(13,⟨True,rep j_6⟩)]) (fun j_6=>[]) (fun s=>j_6=s) (.k4 0 7 8 9 e e e e (.k2 10 11 e e (.k 12 e .nil))) ze.nil ?_ (fun j_6' hj6=>?_)
  ·
   refine .cb e h (fun _ h=>?_) fun _ h=>?_
   ·
    exact .rn mx (.asi (.nil (zb.j _ (za h))))
   ·
    exact .skip (zb.j _ (za h))
  ·
   subst hj6;have h:=hK6;clear hK6
   refine .seq (.sn mx (.mv e (.nil ?_)))
   obtain⟨o_8,h,hK8⟩:=ym h
   refine .tJ (fun s=>o_8=Res.nx s) (.k 13 e .nil) ze.nil ?_ (fun j_8 hj8=>?_)
   ·
    refine .block (.sn mx (.eqi e (.asn e (.nil (.cb e h (fun _ h=>?_) fun _ h=>?_)))))
    ·
     obtain⟨r1,hv10,h⟩:=bind_some h
     refine .sn mx (.mv e (.mv e (.c (.mulW .none (.s e) (.s e)) (.mv e (.c (.mulW .none (.s e) (.s e)) (.mv e (.c (.mulW .none (.s e) (.s e)) (.mv e (.mv e (.c (.mulW .none (.s e) (.s e)) (.mv e (.c (.mulW .none (.s e) (.s e)) (.mv e (.c (.mulW .none (.s e) (.s e)) (.add e e (.mv e (.mv e (.c (.mulW .none (.s e) (.s e)) (.mv e (.c (.mulW .none (.s e) (.s e)) (.mv e (.c (.mulW .none (.s e) (.s e)) (.c (.call .none (zhg hv10) (.cons (.s e) (.cons (.s e) .nil))) (.asn e (.nil (.ret (.blkRet (.thenRet ?_))))))))))))))))))))))))))))
     replace h:=z6 hK8 (za h)
     obtain rfl:=za h
     exact zb.rt Tryz.results59 e
    ·
     refine .sn mx (.eqi e (.asn e (.nil (.cb e h (fun _ h=>?_) fun _ h=>?_))))
     ·
      obtain⟨r2,hv12,h⟩:=bind_some h
      obtain⟨r3,hv13,h⟩:=bind_some h
      obtain⟨r4,hv14,h⟩:=bind_some h
      refine .sn mx (.mv e (.c (.call .none (zhf hv12) (.cons (.s e) .nil)) (.mv e (.c (.mulW .none (.s e) (.s e)) (.mv e (.c (.call .none (zhf hv13) (.cons (.s e) .nil)) (.mv e (.c (.mulW .none (.s e) (.s e)) (.add e e (.mv e (.mv e (.c (.mulW .none (.s e) (.s e)) (.c (.call .none (zhg hv14) (.cons (.s e) (.cons (.s e) .nil))) (.asn e (.nil (.ret (.blkRet (.thenRet ?_))))))))))))))))))
      replace h:=z6 hK8 (za h)
      obtain rfl:=za h
      exact zb.rt Tryz.results59 e
     ·
      refine .sn mx (.eqi e (.asn e (.nil (.cb e h (fun _ h=>?_) fun _ h=>?_))))
      ·
       refine .seq (.sn mx (.mv e (.mv e (.lt e e (.nil ?_)))))
       obtain⟨j_16,h,hK16⟩:=bind_some h
       refine .thenJ (ι:=(Int×Int×Int×Int)) (fun j_16=>[(9,⟨True,rep j_16.1⟩),(10,⟨True,rep j_16.2.1⟩),(11,⟨True,rep j_16.2.2.1⟩),(12,⟨True,rep j_16.2.2.2⟩)]) (fun j_16=>[]) (fun s=>j_16=s) Sub.nil ze.nil ?_ (fun j_16' hj16=>?_)
       ·
        refine .cb e h (fun _ h=>?_) fun _ h=>?_
        ·
         exact .rn mx (.mv e (.mv e (.mv e (.mv e (.asn e (.asn e (.asn e (.asn e (.nil (zb.j _ (za h)))))))))))
        ·
         exact .skip (zb.j _ (za h))
       ·
        subst hj16;have h:=hK16;clear hK16
        obtain⟨r5,hv18,h⟩:=bind_some h
        obtain⟨m1,hv19,h⟩:=zh h
        obtain⟨r6,hv20,h⟩:=bind_some h
        refine .sn mx (.mv e (.c (.call .none (zhf hv18) (.cons (.s e) .nil)) (.mv e (.mv e (.sub e e (.sub e e (.c (.max2 .none (.s e) .i) (.ra hv19 e (.nil (.sn mx (.mv e (.mv e (.c (.mulW .none (.s e) (.s e)) (.mv e (.mv e (.c (.mulW .none (.s e) (.s e)) (.add e e (.mv e (.mv e (.c (.mulW .none (.s e) (.s e)) (.c (.call .none (zhg hv20) (.cons (.s e) (.cons (.s e) .nil))) (.asn e (.nil (.ret (.blkRet (.thenRet ?_))))))))))))))))))))))))))
        replace h:=z6 hK8 (za h)
        obtain rfl:=za h
        exact zb.rt Tryz.results59 e
      ·
       refine .sn mx (.eqi e (.asn e (.nil (.cb e h (fun _ h=>?_) fun _ h=>?_))))
       ·
        obtain⟨n1,hv22,h⟩:=zh h
        refine .sn mx (.mv e (.mv e (.c (.min2 .none (.s e) (.s e)) (.c (.quo .none (.s e) .i (fun _=>by decide)) (.ra hv22 e (.nil (.seq (.sn mx (.mv e (.eqi e (.nil (.cb e h (fun _ h=>?_) fun _ h=>?_))))))))))))
        ·
         refine .sn mx (.mv e (.asn e (.nil (.ret (.thenRet (.blkRet (.thenRet ?_)))))))
         replace h:=z6 hK8 (za h)
         obtain rfl:=za h
         exact zb.rt Tryz.results59 e
        ·
         obtain⟨k1,hv24,h⟩:=zh h
         refine .skip (.then (.sn mx (.mv e (.mv e (.sub e e (.mv e (.add e e (.mv e (.sub e e (.ra hv24 e (.nil (.block (.sn mx (.mv e (.c (.gt .none (.s e) .i) (.asn e (.nil (.cb e h (fun _ h=>?_) fun _ h=>?_))))))))))))))))))
         ·
          refine .sn mx (.asi (.nil (.ret (.blkRet (.blkRet (.thenRet ?_))))))
          replace h:=z6 hK8 (za h)
          obtain rfl:=za h
          exact zb.rt Tryz.results59 e
         ·
          refine .sn mx (.mv e (.eqi e (.asn e (.nil (.cb e h (fun _ h=>?_) fun _ h=>?_)))))
          ·
           refine .sn mx (.asi (.nil (.ret (.blkRet (.blkRet (.thenRet ?_))))))
           replace h:=z6 hK8 (za h)
           obtain rfl:=za h
           exact zb.rt Tryz.results59 e
          ·
           exact .skip (.blkNormal (.blkNormal (zb.j _ (za h))))
       ·
        exact .skip (.blkNormal (zb.j _ (za h)))
   ·
    have h:=yo hK8 hj8
    refine .sn mx (.mv e (.asn e (.nil (.ret ?_))))
    obtain rfl:=za h
    exact zb.rt Tryz.results59 e
theorem zqX {p1:zd}{c0_1:Int}{c1_1:Box}{r:Bool}  (h:vz p1 c0_1 c1_1=some r):zi Tryz.prog 58 [rep p1,ref c0_1,ref c1_1] (rep r):=by
 unfold vz at h
 obtain⟨r1,hv1,h⟩:=bind_some h
 refine zi.i Tryz.func58 e Tryz.ntmps58 e (fun F=>(.sn mx (.c (.box .none (.s e)) (.asb (.nil (.sn mx (.ld ty3 e (.ld zK e (.ld zw e (.c (.call .none (zq1 hv1) (.cons (.s e) (.cons (.s e) (.cons (.s e) .nil)))) (.c (.ge .none (.s e) .i) (.asn e (.nil (.ret ?_))))))))))))))
 obtain rfl:=za h
 exact zb.rt Tryz.results58 e
theorem zqY {n1:Int}{c0_1:(zd→Option Bool)}{c1_1:zd}{r:Bool}  (h:zbd n1 c0_1 c1_1=some r):zi Tryz.prog 61 [rep n1,zcd (fn1 Tryz.prog (rep (α:=Bool)) c0_1),ref c1_1] (rep r):=by
 unfold zbd at h
 obtain⟨r1,hv1,h⟩:=bind_some h
 refine zi.i Tryz.func61 e Tryz.ntmps61 e (fun F=>(.sn mx (.asb (.nil (.sn mx (.c (.loadF .none zhy (.s e)) (.fa yt yu e (.ld ty3 e (.mv e (.c (.buildF (y:=(⟨c1_1.X,n1⟩:zd)) .none qe qh e (.cons (.s e) (.cons (.s e) .nil)) (.cons e qS (.cons e qV .nil))) (.c (.callV ((⟨c1_1.X,n1⟩:zd),r1) .none (.s e) (fun _=>hv1) (.cons (.s e) .nil)) (.asn e (.nil (.ret ?_))))))))))))))
 obtain rfl:=za h
 exact zb.rt Tryz.results61 e
theorem zkT {from1:Int}{to1:Int}{holds1:(Int→Option Bool)}{r:(Int×Bool)}  (h:Jc from1 to1 holds1=some r):zi Tryz.prog 60 [rep from1,rep to1,fn1 Tryz.prog (rep (α:=Bool)) holds1] (tup [rep r.1,rep r.2]):=by
 unfold Jc at h
 refine zi.i Tryz.func60 e Tryz.ntmps60 e (fun F=>(.sn mx (.asi (.asb (.nil (.sn mx (.asi (.nil (.seq (.sn mx (.mv e (.mv e (.lt e e (.nil ?_))))))))))))))
 obtain⟨j_1,h,hK1⟩:=bind_some h
 refine .thenJ (ι:=Int) (fun j_1=>[(8,⟨True,rep j_1⟩)]) (fun j_1=>[]) (fun s=>j_1=s) (.k2 0 1 e e (.k 2 e .nil)) ze.nil ?_ (fun j_1' hj1=>?_)
 ·
  refine .cb e h (fun _ h=>?_) fun _ h=>?_
  ·
   exact .rn mx (.asi (.nil (zb.j _ (za h))))
  ·
   exact .skip (zb.j _ (za h))
 ·
  subst hj1;have h:=hK1;clear hK1
  refine .sn mx (.mv e (.asn e (.nil (.block (.loopL h (fun s3_=>[(9,⟨True,rep s3_⟩)]) (fun s3_=>[]) (.k 9 e .nil) ze.nil (.k2 1 2 e e (.k 8 e .nil)) ze.nil (fun s3_ o_3 h hD3=>?_))))))
  unfold zbf at h
  obtain⟨r1,hv4,h⟩:=bind_some h
  refine .seq (.block (.seq (.sn mx (.mv e (.mv e (.c (.callV (s3_,r1) .none (.s e) (fun _=>hv4) (.cons (.s e) .nil)) (.nil (.cb e h (fun _ h=>?_) fun _ h=>?_))))))))
  ·
   refine .sn mx (.mv e (.asn e (.asb (.nil (.ret (.thenRet (.blkRet (.thenRet (.thenRet (.blkRet ?_))))))))))
   replace h:=hD3 _ (za h)
   obtain rfl:=za h
   exact zb.ret2 (.inl e) Tryz.results60 (zO.tmp e trivial Imp.refl) (zO.tmp e trivial Imp.refl)
  ·
   refine .skip (.then (.sn mx (.mv e (.mv e (.c (.eqI .none (.s e) (.s e)) (.nil (.cb e h (fun _ h=>?_) fun _ h=>?_)))))))
   ·
    refine .sn mx (.asi (.asb (.nil (.ret (.blkRet (.thenRet (.thenRet (.blkRet ?_))))))))
    replace h:=hD3 _ (za h)
    obtain rfl:=za h
    exact zb.ret2 (.inl e) Tryz.results60 (zO.tmp e trivial Imp.refl) (zO.tmp e trivial Imp.refl)
   ·
    obtain⟨n1,hv7,h⟩:=zh h
    exact .skip (.blkNormal (.then (.rn mx (.mv e (.mv e (.add e e (.ra hv7 e (.nil (zb.ag (za h))))))))))
theorem zqZ {n1:Int}{c0_1:(zd→Option Bool)}{c1_1:zd}{r:Bool}  (h:zbe n1 c0_1 c1_1=some r):zi Tryz.prog 62 [rep n1,zcd (fn1 Tryz.prog (rep (α:=Bool)) c0_1),ref c1_1] (rep r):=by
 unfold zbe at h
 obtain⟨r1,hv1,h⟩:=bind_some h
 refine zi.i Tryz.func62 e Tryz.ntmps62 e (fun F=>(.sn mx (.asb (.nil (.sn mx (.c (.loadF .none zhy (.s e)) (.mv e (.fa yV yW e (.ld ty3 e (.c (.buildF (y:=(⟨n1,c1_1.Y⟩:zd)) .none qe qh e (.cons (.s e) (.cons (.s e) .nil)) (.cons e qS (.cons e qV .nil))) (.c (.callV ((⟨n1,c1_1.Y⟩:zd),r1) .none (.s e) (fun _=>hv1) (.cons (.s e) .nil)) (.asn e (.nil (.ret ?_))))))))))))))
 obtain rfl:=za h
 exact zb.rt Tryz.results62 e
theorem zq0 {kind1:Int}{b1:Box}{side1:Int}{at1:Int}{r:(zd×Int)}  (h:zcK kind1 b1 side1 at1=some r):zi Tryz.prog 23 [rep kind1,rep b1,rep side1,rep at1] (tup [rep r.1,rep r.2]):=by
 unfold zcK at h
 obtain⟨v1,hv1,h⟩:=zh h
 obtain⟨r1,hv2,h⟩:=bind_some h
 refine zi.i Tryz.func23 e Tryz.ntmps23 e (fun F=>(.sr [oo,oo,([],[8]),oo] mx (.cA (.box .none (.s e)) (.cA (.box .none (.s e)) (.al yG e (.cA (.assign .none .i) (.nil (.reB (t:=8) e (congrArg (zE 46) hv1) (.nameBox (t:=8) (g:=5001) e e (fun m5001=>(.seq (.sn mx (.ld ty3 e (.c (.call .none (zq2 hv2) (.cons (.s e) .nil)) (.c (.not .none (.s e)) (.nil (.cb e h (fun _ h=>?_) fun _ h=>?_)))))))))))))))))
 ·
  obtain⟨v2,hv4,h⟩:=zh h
  refine .sr [oo,([5001],[5001]),oo] mx (.cA (.re hv4 (.buildF (y:=(⟨(0:Int),(0:Int)⟩:zd)) .none qe qh e .nil .nil)) (.s0 5001 zw e e e (.cA (.assign .none .i) (.nil (.fb 5001 [8] e (.cons (t:=8) e trivial .nil) (.ret (.thenRet ?_)))))))
  obtain rfl:=za h
  exact zb.r2 Tryz.results23 zw e e
 ·
  obtain⟨e1,hv5,h⟩:=bind_some h
  refine .skip (.then (.seq (.sn mx (.ld zK e (.c (.call .none (zaw hv5) (.cons (.s e) .nil)) (.asn e (.nil (.sn mx (.mv e (.nei e (.nil (.cb e h (fun _ h=>?_) fun _ h=>?_))))))))))))
  ·
   obtain⟨v3,hv7,h⟩:=zh h
   refine .sr [oo,oo,([5001],[5001]),oo] mx (.cA (.re hv7 (.buildF (y:=(⟨(0:Int),(0:Int)⟩:zd)) .none qe qh e .nil .nil)) (.mvA e (.s0 5001 zw e e e (.asnA e (.nil (.fb 5001 [8] e (.cons (t:=8) e trivial .nil) (.ret (.thenRet ?_))))))))
   obtain rfl:=za h
   exact zb.r2 Tryz.results23 zw e e
  ·
   refine .skip (.then (.seq (.sn mx (.mv e (.c (.lt .none (.s e) .i) (.mv e (.mg e e e (.c (.gt (.at e e) (.tmp e id) .i) (.po e e (.mv e (.mg e e e (.c (.lt (.at e e) (.tmp e id) .i) (.po e e (.mv e (.mg e e e (.c (.gt (.at e e) (.tmp e id) .i) (.po e e (.nil (.cb e h (fun _ h=>?_) fun _ h=>?_)))))))))))))))))))
   ·
    obtain⟨v4,hv9,h⟩:=zh h
    refine .sr [oo,([5001],[5001]),oo] mx (.cA (.re hv9 (.buildF (y:=(⟨(0:Int),(0:Int)⟩:zd)) .none qe qh e .nil .nil)) (.s0 5001 zw e e e (.cA (.assign .none .i) (.nil (.fb 5001 [8] e (.cons (t:=8) e trivial .nil) (.ret (.thenRet ?_)))))))
    obtain rfl:=za h
    exact zb.r2 Tryz.results23 zw e e
   ·
    obtain⟨v5,hv10,h⟩:=zh h
    refine .skip (.then (.sr [oo,oo,oo,oo,oo,oo,oo,oo,oo,oo,oo,oo,oo,oo,oo,oo,oo,([],[11]),([11],[11])] mx (.faA qf y7 e (.ldA ty3 e (.faA yQ yL e (.ldA ty3 e (.mvA e (.cA (.mulW .none (.s e) (.s e)) (.cA (.quo .none (.s e) .i (fun _=>by decide)) (.addA e e (.faA qg y8 e (.ldA ty3 e (.faA yU yR e (.ldA ty3 e (.mvA e (.cA (.mulW .none (.s e) (.s e)) (.cA (.quo .none (.s e) .i (fun _=>by decide)) (.addA e e (.cA (.re hv10 (.buildF (y:=(⟨W (b1.X+((W (b1.W_*at1)).tdiv 1000)),W (b1.Y+((W (b1.H*at1)).tdiv 1000))⟩:zd)) .none qe qh e (.cons (.s e) (.cons (.s e) .nil)) (.cons e qS (.cons e qV .nil)))) (.al yG e (.st zw e e e (.nil (.freeze (t:=11) e e (.k 5001 e .nil) e (.sr [oo,([],[12]),([12],[12])] mx (.cA (.makeFunc (ι:=zd×Bool) (pre:=fun i=>(fun x0=>vz x0 kind1 b1) i.1=some i.2) (Ss:=fun i=>[rep i.1]) (S:=fun i=>rep i.2) .none znA (fun i h=>zqX h) (.cons (.s e) (.cons (.s e) .nil))) (.al zr2 e (.cN (.storeS0 (S:=fn1 Tryz.prog (rep (α:=Bool)) (fun x0=>vz x0 kind1 b1)) zhy e e (.s e) ziO) (.nil (.freezeKey (t:=12) (S:=zcd (fn1 Tryz.prog (rep (α:=Bool)) (fun x0=>vz x0 kind1 b1))) e e (.k 5001 e .nil) e (fun M D w s h hms=>zmI ziO h hms) (.seq (.sn mx (.mv e (.eqi e (.mv e (.mg e e e (.c (.eqI (.at e e) (.tmp e id) .i) (.po e e (.nil (.cb e h (fun _ h=>?_) fun _ h=>?_)))))))))))))))))))))))))))))))))))))))
    ·
     obtain⟨to1,hv12,h⟩:=zh h
     refine .sn mx (.fa qg y8 e (.ld ty3 e (.fa qg y8 e (.ld ty3 e (.fa yU yR e (.ld ty3 e (.add e e (.asn e (.ra hv12 e (.nil (.seq (.sn mx (.mv e (.eqi e (.nil ?_)))))))))))))))
     obtain⟨j_13,h,hK13⟩:=bind_some h
     refine .thenJ (ι:=(Int×Int)) (fun j_13=>[(13,⟨True,rep j_13.1⟩),(14,⟨True,rep j_13.2⟩)]) (fun j_13=>[]) (fun s=>j_13=s) (.k4 5 8 11 12 e e e e .nil) (.k 5001 e .nil) ?_ (fun j_13' hj13=>?_)
     ·
      refine .cb e h (fun _ h=>?_) fun _ h=>?_
      ·
       exact .rn mx (.mv e (.mv e (.asn e (.asn e (.nil (zb.j _ (za h)))))))
      ·
       exact .skip (zb.j _ (za h))
     ·
      subst hj13;have h:=hK13;clear hK13
      refine .sn mx (.mv e (.mv e (.c (.makeFunc (ι:=Int×Bool) (pre:=fun i=>(fun x0=>zbd x0 (fun x0=>vz x0 kind1 b1) v5) i.1=some i.2) (Ss:=fun i=>[rep i.1]) (S:=fun i=>rep i.2) .none znB (fun i h=>zqY h) (.cons (.s e) (.cons (.s e) .nil))) ?_)))
      obtain⟨r2,hv15,h⟩:=bind_some h
      refine .c (.call .none (zkT hv15) (.cons (.s e) (.cons (.s e) (.cons (.s e) .nil)))) (.mv e (.ex e e (.ex e e (.asn e (.asn e (.nil (.seq (.sn mx (.mv e (.c (.not .none (.s e)) (.nil ?_)))))))))))
      obtain⟨j_16,h,hK16⟩:=bind_some h
      refine .thenJ (ι:=Int) (fun j_16=>[(15,⟨True,rep j_16⟩)]) (fun j_16=>[]) (fun s=>j_16=s) (.k2 8 11 e e .nil) (.k 5001 e .nil) ?_ (fun j_16' hj16=>?_)
      ·
       refine .cb e h (fun _ h=>?_) fun _ h=>?_
       ·
        exact .rn mx (.fa qg y8 e (.ld ty3 e (.fa yU yR e (.ld ty3 e (.c (.quo .none (.s e) .i (fun _=>by decide)) (.add e e (.asn e (.nil (zb.j _ (za h))))))))))
       ·
        exact .skip (zb.j _ (za h))
      ·
       subst hj16;have h:=hK16;clear hK16
       obtain⟨v6,hv18,h⟩:=zh h
       refine .sr [oo,oo,oo,oo,([5001],[5001]),oo] mx (.faA yt yu e (.ldA ty3 e (.mvA e (.cA (.re hv18 (.buildF (y:=(⟨v5.X,j_16⟩:zd)) .none qe qh e (.cons (.s e) (.cons (.s e) .nil)) (.cons e qS (.cons e qV .nil)))) (.s0 5001 zw e e e (.cA (.assign .none .i) (.nil (.fb 5001 [8] e (.cons (t:=8) e trivial .nil) (.ret (.thenRet ?_))))))))))
       obtain rfl:=za h
       exact zb.r2 Tryz.results23 zw e e
    ·
     obtain⟨to2,hv19,h⟩:=zh h
     refine .skip (.then (.sn mx (.fa qf y7 e (.ld ty3 e (.fa qf y7 e (.ld ty3 e (.fa yQ yL e (.ld ty3 e (.add e e (.asn e (.ra hv19 e (.nil (.seq (.sn mx (.mv e (.eqi e (.nil ?_)))))))))))))))))
     obtain⟨j_20,h,hK20⟩:=bind_some h
     refine .thenJ (ι:=(Int×Int)) (fun j_20=>[(17,⟨True,rep j_20.1⟩),(18,⟨True,rep j_20.2⟩)]) (fun j_20=>[]) (fun s=>j_20=s) (.k4 5 8 11 12 e e e e .nil) (.k 5001 e .nil) ?_ (fun j_20' hj20=>?_)
     ·
      refine .cb e h (fun _ h=>?_) fun _ h=>?_
      ·
       exact .rn mx (.mv e (.mv e (.asn e (.asn e (.nil (zb.j _ (za h)))))))
      ·
       exact .skip (zb.j _ (za h))
     ·
      subst hj20;have h:=hK20;clear hK20
      refine .sn mx (.mv e (.mv e (.c (.makeFunc (ι:=Int×Bool) (pre:=fun i=>(fun x0=>zbe x0 (fun x0=>vz x0 kind1 b1) v5) i.1=some i.2) (Ss:=fun i=>[rep i.1]) (S:=fun i=>rep i.2) .none znC (fun i h=>zqZ h) (.cons (.s e) (.cons (.s e) .nil))) ?_)))
      obtain⟨r3,hv22,h⟩:=bind_some h
      refine .c (.call .none (zkT hv22) (.cons (.s e) (.cons (.s e) (.cons (.s e) .nil)))) (.mv e (.ex e e (.ex e e (.asn e (.asn e (.nil (.seq (.sn mx (.mv e (.c (.not .none (.s e)) (.nil ?_)))))))))))
      obtain⟨j_23,h,hK23⟩:=bind_some h
      refine .thenJ (ι:=Int) (fun j_23=>[(19,⟨True,rep j_23⟩)]) (fun j_23=>[]) (fun s=>j_23=s) (.k2 8 11 e e .nil) (.k 5001 e .nil) ?_ (fun j_23' hj23=>?_)
      ·
       refine .cb e h (fun _ h=>?_) fun _ h=>?_
       ·
        exact .rn mx (.fa qf y7 e (.ld ty3 e (.fa yQ yL e (.ld ty3 e (.c (.quo .none (.s e) .i (fun _=>by decide)) (.add e e (.asn e (.nil (zb.j _ (za h))))))))))
       ·
        exact .skip (zb.j _ (za h))
      ·
       subst hj23;have h:=hK23;clear hK23
       obtain⟨v7,hv25,h⟩:=zh h
       refine .sr [oo,oo,oo,oo,([5001],[5001]),oo] mx (.mvA e (.faA yV yW e (.ldA ty3 e (.cA (.re hv25 (.buildF (y:=(⟨j_23,v5.Y⟩:zd)) .none qe qh e (.cons (.s e) (.cons (.s e) .nil)) (.cons e qS (.cons e qV .nil)))) (.s0 5001 zw e e e (.cA (.assign .none .i) (.nil (.fb 5001 [8] e (.cons (t:=8) e trivial .nil) (.ret ?_)))))))))
       obtain rfl:=za h
       exact zb.r2 Tryz.results23 zw e e
theorem zqj {x1:yx}{c0_1:(GMap Str zm)}{r:zd}  (h:JZ x1 c0_1=some r):zi Tryz.prog 22 [rep x1,ref c0_1] (rep r):=by
 unfold JZ at h
 obtain⟨v1,hv1,h⟩:=zh h
 obtain⟨v2,hv2,h⟩:=zh h
 obtain⟨r1,hv3,h⟩:=bind_some h
 refine zi.i Tryz.func22 e Tryz.ntmps22 e (fun F=>(.sr [oo,([],[3])] mx (.cA (.box .none (.s e)) (.al yG e (.nil (.reB (t:=3) e (congrArg (zE 46) hv1) (.nameBox (t:=3) (g:=5001) e e (fun m5001=>(.sr [oo,oo,oo,oo,([],[4]),([4],[4])] mx (.ldA zlf e (.faA zdk zbW e (.ldA ty9 e (.cA (.re hv2 (.lookup .none zjy qL (.s e) (.s e))) (.al qL e (.st zR e e e (.nil (.freeze (t:=4) e e (.k 5001 e .nil) e (.sr [oo,oo,oo,oo,oo,oo,oo,oo,oo,oo,oo,oo,([],[5]),([5],[5]),oo] mx (.faA jc qZ e (.ldA ty3 e (.faA QD Qj e (.ldA zK e (.faA Yb QI e (.ldA ty3 e (.faA zbM zaA e (.ldA ty3 e (.cA (.call .none (zq0 hv3) (.cons (.s e) (.cons (.s e) (.cons (.s e) (.cons (.s e) .nil))))) (.mvA e (.exA e e (.exA e e (.al yG e (.st zw e e e (.asnA e (.nil (.freeze (t:=5) e e (.k 5001 e .nil) e (.sr [oo,([5001],[5001])] mx (.ldA zw e (.s0 5001 zw e e e (.nil (.fb 5001 [3] e (.cons (t:=3) e trivial .nil) (.ret ?_)))))))))))))))))))))))))))))))))))))))))
 obtain rfl:=za h
 exact zb.ret1 (.inl e) Tryz.results22 (zO.cellR zw e trivial Imp.refl)
theorem zq8 {s1:(List zm)}{r:(List zm)}  (h:zcM s1=some r):yh Tryz.prog 24 [rep s1] [] (yj) [some (zk 32 r)]:=by
 unfold zcM at h
 refine yh.i Tryz.func24 e Tryz.ntmps24 e (fun F=>(.sn mx (.c (.assign .none (.const (x:=([]:(List zm))) (fun M w=>⟨_,⟨none,0,rfl,Nat.le_refl _,by decide,rfl⟩,rfl⟩))) (.nil (.seq (.sn mx (.mv e (.c (.eqNil .none z7 (.s e)) (.nil (.condNil (t:=4) e trivial (fun hb1=>?_) ?_))))))))))
 ·
  replace h:=zgv h hb1
  refine .sr [([],[2])] mx (.cW (.nilRow (T:=32) (α:=zm) e) (.nil (.nameRow (t:=2) (g:=5001) e e e (fun s5001=>(.ret (.thenRet (.anon (t:=2) (g:=5001) e e trivial e ?_)))))))
  obtain rfl:=za h
  exact zb.ret1O (.inl e) [2] Tryz.results24 (by decide) (.res e e) (zO.tmp e trivial (fun _ _ _ _=>trivial))
 ·
  replace h:=zgu h
  obtain⟨hn2,h⟩:=zr h
  obtain⟨v1,hv3,h⟩:=zh h
  refine .skip (.then (.sr [([],[5]),oo,([5],[7,5]),([7],[2,7])] mx (.cW (.buildSliceO (xs:=[]) e z7 zR zi8 .nil e (by decide)) (.mvA e (.cW (.append (k:=5) zkk e (.tmp e) (.s e) hn2) (.cW (.passRow e (.tmp e)) (.nil (.reB (t:=2) e (congrArg (zk 32) hv3) (.nameRow (t:=2) (g:=5002) e e e (fun s5002=>(.ret (.anon (t:=2) (g:=5002) e e trivial e ?_))))))))))))
  obtain rfl:=za h
  exact zb.ret1O (.inl e) [2] Tryz.results24 (by decide) (.res e e) (zO.tmp e trivial (fun _ _ _ _=>trivial))
theorem zq7 {s1:(List zJ)}{r:(List zJ)}  (h:zcL s1=some r):yh Tryz.prog 25 [rep s1] [] (yj) [some (zk 44 r)]:=by
 unfold zcL at h
 refine yh.i Tryz.func25 e Tryz.ntmps25 e (fun F=>(.sn mx (.c (.assign .none (.const (x:=([]:(List zJ))) (fun M w=>⟨_,⟨none,0,rfl,Nat.le_refl _,by decide,rfl⟩,rfl⟩))) (.nil (.seq (.sn mx (.mv e (.c (.eqNil .none qk (.s e)) (.nil (.condNil (t:=4) e trivial (fun hb1=>?_) ?_))))))))))
 ·
  replace h:=zgv h hb1
  refine .sr [([],[2])] mx (.cW (.nilRow (T:=44) (α:=zJ) e) (.nil (.nameRow (t:=2) (g:=5001) e e e (fun s5001=>(.ret (.thenRet (.anon (t:=2) (g:=5001) e e trivial e ?_)))))))
  obtain rfl:=za h
  exact zb.ret1O (.inl e) [2] Tryz.results25 (by decide) (.res e e) (zO.tmp e trivial (fun _ _ _ _=>trivial))
 ·
  replace h:=zgu h
  obtain⟨hn2,h⟩:=zr h
  obtain⟨v1,hv3,h⟩:=zh h
  refine .skip (.then (.sr [([],[5]),oo,([5],[7,5]),([7],[2,7])] mx (.cW (.buildSliceO (xs:=[]) e qk yP zgb .nil e (by decide)) (.mvA e (.cW (.append (k:=5) zqh e (.tmp e) (.s e) hn2) (.cW (.passRow e (.tmp e)) (.nil (.reB (t:=2) e (congrArg (zk 44) hv3) (.nameRow (t:=2) (g:=5002) e e e (fun s5002=>(.ret (.anon (t:=2) (g:=5002) e e trivial e ?_))))))))))))
  obtain rfl:=za h
  exact zb.ret1O (.inl e) [2] Tryz.results25 (by decide) (.res e e) (zO.tmp e trivial (fun _ _ _ _=>trivial))
theorem zqn {side1:Int}{r:Bool}  (h:zeH side1=some r):zi Tryz.prog 85 [rep side1] (rep r):=by
 unfold zeH at h
 refine zi.i Tryz.func85 e Tryz.ntmps85 e (fun F=>(.sn mx (.asb (.nil (.sn mx (.mv e (.c (.ge .none (.s e) .i) (.mv e (.mg e e e (.c (.le (.at e e) (.tmp e id) .i) (.pa e e (.asn e (.nil (.ret ?_))))))))))))))
 obtain rfl:=za h
 exact zb.rt Tryz.results85 e
theorem zg4 {side1:Int}{r:zd}  (h:J6 side1=some r):zi Tryz.prog 107 [rep side1] (rep r):=by
 unfold J6 at h
 obtain⟨v1,hv1,h⟩:=zh h
 obtain⟨hn2,h⟩:=zr h
 obtain⟨v2,hv3,h⟩:=zh h
 refine zi.i Tryz.func107 e Tryz.ntmps107 e (fun F=>(.sr [([],[2])] mx (.al yG e (.nil (.reB (t:=2) e (congrArg (zE 46) hv1) (.nameBox (t:=2) (g:=5001) e e (fun m5001=>(.sr [oo,oo,oo,oo,oo,oo,oo,oo,([5001],[5001])] mx (.cA (.buildF (y:=(⟨(0:Int),(0:Int)⟩:zd)) .none qe qh e .nil .nil) (.cA (.buildF (y:=(⟨(0:Int),(-1)⟩:zd)) .none qe qh e (.cons .i .nil) (.cons e qV .nil)) (.cA (.buildF (y:=(⟨1,(0:Int)⟩:zd)) .none qe qh e (.cons .i .nil) (.cons e qS .nil)) (.cA (.buildF (y:=(⟨(0:Int),1⟩:zd)) .none qe qh e (.cons .i .nil) (.cons e qV .nil)) (.cA (.buildF (y:=(⟨(-1),(0:Int)⟩:zd)) .none qe qh e (.cons .i .nil) (.cons e qS .nil)) (.cA (.buildArr (xs:=[_,_,_,_,_]) .none zhX zw zmj (.cons (.s e) (.cons (.s e) (.cons (.s e) (.cons (.s e) (.cons (.s e) .nil))))) e) (.mvA e (.cA (.re hv3 (.indexArr .none zhX zw (.s e) (.s e) (fun _=>hn2))) (.s0 5001 zw e e e (.nil (.fb 5001 [2] e (.cons (t:=2) e trivial .nil) (.ret ?_))))))))))))))))))))
 obtain rfl:=za h
 exact zb.ret1 (.inl e) Tryz.results107 (zO.cellR zw e trivial Imp.refl)
theorem zkl {p1:zd}{d1:zd}{n1:Int}{r:zd}  (h:zcA p1 d1 n1=some r):zi Tryz.prog 106 [rep p1,rep d1,rep n1] (rep r):=by
 unfold zcA at h
 obtain⟨v1,hv1,h⟩:=zh h
 obtain⟨v2,hv2,h⟩:=zh h
 refine zi.i Tryz.func106 e Tryz.ntmps106 e (fun F=>(.sr [oo,oo,([],[6])] mx (.cA (.box .none (.s e)) (.cA (.box .none (.s e)) (.al yG e (.nil (.reB (t:=6) e (congrArg (zE 46) hv1) (.nameBox (t:=6) (g:=5001) e e (fun m5001=>(.sr [oo,oo,oo,oo,oo,oo,oo,oo,oo,oo,oo,oo,oo,oo,oo,([5001],[5001])] mx (.faA yt yu e (.ldA ty3 e (.mvA e (.faA yt yu e (.ldA ty3 e (.cA (.mulW .none (.s e) (.s e)) (.addA e e (.faA yV yW e (.ldA ty3 e (.mvA e (.faA yV yW e (.ldA ty3 e (.cA (.mulW .none (.s e) (.s e)) (.addA e e (.cA (.re hv2 (.buildF (y:=(⟨W (p1.X+(W (n1*d1.X))),W (p1.Y+(W (n1*d1.Y)))⟩:zd)) .none qe qh e (.cons (.s e) (.cons (.s e) .nil)) (.cons e qS (.cons e qV .nil)))) (.s0 5001 zw e e e (.nil (.fb 5001 [6] e (.cons (t:=6) e trivial .nil) (.ret ?_)))))))))))))))))))))))))))))
 obtain rfl:=za h
 exact zb.ret1 (.inl e) Tryz.results106 (zO.cellR zw e trivial Imp.refl)
theorem zgW {t1:zA}{r:(zd×zd)}  (h:J0 t1=some r):zi Tryz.prog 63 [rep t1] (tup [rep r.1,rep r.2]):=by
 unfold J0 at h
 obtain⟨start1,hv1,h⟩:=zh h
 obtain⟨end1,hv2,h⟩:=zh h
 obtain⟨r1,hv3,h⟩:=bind_some h
 obtain⟨r2,hv4,h⟩:=bind_some h
 obtain⟨r3,hv5,h⟩:=bind_some h
 obtain⟨r4,hv6,h⟩:=bind_some h
 refine zi.i Tryz.func63 e Tryz.ntmps63 e (fun F=>(.sr [oo,([],[2]),([],[3])] mx (.cA (.box .none (.s e)) (.al yG e (.al yG e (.nil (.reB (t:=2) e (congrArg (zE 46) hv1) (.reB (t:=3) e (congrArg (zE 46) hv2) (.nameBox (t:=2) (g:=5001) e e (fun m5001=>(.nameBox (t:=3) (g:=5002) e e (fun m5002=>(.sr [oo,oo,oo,oo,oo,oo,oo,oo,oo,oo,oo,oo,oo,oo,oo,oo,([5001],[5001]),([5002],[5002])] mx (.faA zat zaB e (.ldA zw e (.faA Jw JB e (.ldA ty3 e (.cA (.call .none (zg4 hv3) (.cons (.s e) .nil)) (.faA qF qG e (.ldA ty3 e (.cA (.call .none (zkl hv4) (.cons (.s e) (.cons (.s e) (.cons (.s e) .nil)))) (.faA zau zaC e (.ldA zw e (.faA YM YP e (.ldA ty3 e (.cA (.call .none (zg4 hv5) (.cons (.s e) .nil)) (.faA qF qG e (.ldA ty3 e (.cA (.call .none (zkl hv6) (.cons (.s e) (.cons (.s e) (.cons (.s e) .nil)))) (.s0 5001 zw e e e (.s0 5002 zw e e e (.nil (.freezeBox (g:=5001) (ts:=[2]) e (.cons (t:=2) e trivial .nil) (.k 5002 e .nil) e (.fb 5002 [3] e (.cons (t:=3) e trivial .nil) (.ret ?_)))))))))))))))))))))))))))))))))))
 obtain rfl:=za h
 exact zb.ret2 (.inl e) Tryz.results63 (zO.cellR zw e trivial Imp.refl) (zO.cellR zw e trivial Imp.refl)
theorem zgU {t1:zA}{r:Int}  (h:JY t1=some r):zi Tryz.prog 32 [rep t1] (rep r):=by
 unfold JY at h
 obtain⟨v1,hv1,h⟩:=zh h
 refine zi.i Tryz.func32 e Tryz.ntmps32 e (fun F=>(.sn mx (.c (.box .none (.s e)) (.asi (.nil (.seq (.sn mx (.fa zat zaB e (.ld zw e (.fa Jw JB e (.ld ty3 e (.c (.buildF (y:=(⟨t1.From,t1.FromSide⟩:qT)) .none zh5 zll e (.cons (.s e) (.cons (.s e) .nil)) (.cons e zkF (.cons e zkG .nil))) (.fa zau zaC e (.ld zw e (.fa YM YP e (.ld ty3 e (.c (.buildF (y:=(⟨t1.To,t1.ToSide⟩:qT)) .none zh5 zll e (.cons (.s e) (.cons (.s e) .nil)) (.cons e zkF (.cons e zkG .nil))) (.c (.re hv1 (.buildSlice (xs:=[_,_]) .none zhi ze0 zoi (.cons (.s e) (.cons (.s e) .nil)) e (by decide))) (.ln zhi e (.mvi (.nil ?_)))))))))))))))))))))
 obtain⟨o_2,h,hK2⟩:=ym h
 refine .tJ (fun s=>o_2=Res.nx s) (.k 1 e .nil) ze.nil ?_ (fun j_2 hj2=>?_)
 ·
  refine .block (.rforEL h (fun p3_=>[(24,⟨True,rep p3_.1⟩)]) (fun p3_=>[]) (.k 24 e .nil) ze.nil (.k2 1 22 e e (.k 23 e .nil)) ze.nil (fun p3_ o_3 h hD3=>(.sn mx (.lt e e (.nil (.seq (.cb e h (fun _ h=>?_) fun _ h=>?_)))))))
  ·
   refine .skip (.then (.seq ?_))
   obtain⟨o_5,h,hK5⟩:=yK h
   unfold zgS at h
   refine .tJ (fun s=>o_5=Res.nx s) (.k4 1 22 23 24 e e e e .nil) ze.nil ?_ (fun j_5 hj5=>?_)
   ·
    obtain⟨hn6,h⟩:=zr h
    obtain⟨v2,hv7,h⟩:=zh h
    obtain⟨e1,hv8,h⟩:=bind_some h
    refine .block (.sr [oo,oo,([],[4]),([4],[4])] mx (.ixA zhi ze0 e e hn6 (.rlA hv7 ze0 e (.al zr0 e (.st ze0 e e e (.nil (.freeze (t:=4) e e ze.nil e (.seq (.sn mx (.fa znb zn9 e (.ld zw e (.c (.call .none (zdt hv8) (.cons (.s e) .nil)) (.asn e (.nil (.sn mx (.mv e (.nei e (.nil (.cb e h (fun _ h=>?_) fun _ h=>?_)))))))))))))))))))
    ·
     refine .sn mx (.mv e (.asn e (.nil (.ret (.thenRet (.blkRet (.thenRet (.thenRet (.blkRet (.thenRet ?_))))))))))
     replace h:=yD hK5 (za h)
     replace h:=hD3 _ (za h)
     replace h:=z6 hK2 (za h)
     obtain rfl:=za h
     exact zb.rt Tryz.results32 e
    ·
     obtain⟨r1,hv10,h⟩:=bind_some h
     refine .skip (.then (.sn mx (.fa znc zoa e (.ld ty3 e (.c (.call .none (zqn hv10) (.cons (.s e) .nil)) (.c (.not .none (.s e)) (.nil (.cb e h (fun _ h=>?_) fun _ h=>?_))))))))
     ·
      refine .sn mx (.asi (.nil (.ret (.blkRet (.thenRet (.thenRet (.blkRet (.thenRet ?_))))))))
      replace h:=yD hK5 (za h)
      replace h:=hD3 _ (za h)
      replace h:=z6 hK2 (za h)
      obtain rfl:=za h
      exact zb.rt Tryz.results32 e
     ·
      exact .skip (.blkNormal (zb.j _ (za h)))
   ·
    have h:=yN hK5 hj5
    exact .rn mx (.adi e (.mv e (.nil (zb.ag (za h)))))
  ·
   refine .exit (.thenExit (.thenExit (.blkExit ?_)))
   replace h:=hD3 _ (za h)
   exact zb.j _ (za h)
 ·
  have h:=yo hK2 hj2
  refine .seq (.sn mx (.fa Yf JC e (.ld Jj e (.ln y5 e (.c (.gt .none (.s e) .i) (.nil (.cb e h (fun _ h=>?_) fun _ h=>?_)))))))
  ·
   refine .sn mx (.asi (.nil (.ret (.thenRet ?_))))
   obtain rfl:=za h
   exact zb.rt Tryz.results32 e
  ·
   refine .skip (.then (.seq (.sn mx (.fa Yf JC e (.ld Jj e (.ln y5 e (.mvi (.nil ?_))))))))
   obtain⟨o_13,h,hK13⟩:=ym h
   refine .tJ (fun s=>o_13=Res.nx s) (.k 1 e .nil) ze.nil ?_ (fun j_13 hj13=>?_)
   ·
    refine .block (.rforEL h (fun p14_=>[(46,⟨True,rep p14_.1⟩)]) (fun p14_=>[]) (.k 46 e .nil) ze.nil (.k2 1 44 e e (.k 45 e .nil)) ze.nil (fun p14_ o_14 h hD14=>(.sn mx (.lt e e (.nil (.seq (.cb e h (fun _ h=>?_) fun _ h=>?_)))))))
    ·
     refine .skip (.then (.seq ?_))
     obtain⟨o_16,h,hK16⟩:=yK h
     unfold zgT at h
     refine .tJ (fun s=>o_16=Res.nx s) (.k4 1 44 45 46 e e e e .nil) ze.nil ?_ (fun j_16 hj16=>?_)
     ·
      obtain⟨hn17,h⟩:=zr h
      obtain⟨v3,hv18,h⟩:=zh h
      obtain⟨e2,hv19,h⟩:=bind_some h
      refine .block (.sr [oo,oo,([],[7]),([7],[7])] mx (.ixA y5 zK e e hn17 (.rlA hv18 zK e (.al q8 e (.st zK e e e (.nil (.freeze (t:=7) e e ze.nil e (.sn mx (.ld zK e (.c (.call .none (zaw hv19) (.cons (.s e) .nil)) (.asn e (.nil (.sn mx (.mv e (.nei e (.nil (.cb e h (fun _ h=>?_) fun _ h=>?_)))))))))))))))))
      ·
       refine .sn mx (.mv e (.asn e (.nil (.ret (.blkRet (.thenRet (.thenRet (.blkRet (.thenRet ?_)))))))))
       replace h:=yD hK16 (za h)
       replace h:=hD14 _ (za h)
       replace h:=z6 hK13 (za h)
       obtain rfl:=za h
       exact zb.rt Tryz.results32 e
      ·
       exact .skip (.blkNormal (zb.j _ (za h)))
     ·
      have h:=yN hK16 hj16
      exact .rn mx (.adi e (.mv e (.nil (zb.ag (za h)))))
    ·
     refine .exit (.thenExit (.thenExit (.blkExit ?_)))
     replace h:=hD14 _ (za h)
     exact zb.j _ (za h)
   ·
    have h:=yo hK13 hj13
    refine .seq (.sn mx (.fa qF qG e (.ld ty3 e (.c (.lt .none (.s e) .i) (.mv e (.fg qF qG e e e (.lg ty3 e e e (.c (.gt (.at e e) (.tmp e id) .i) (.po e e (.nil (.cb e h (fun _ h=>?_) fun _ h=>?_)))))))))))
    ·
     refine .sn mx (.asi (.nil (.ret (.thenRet ?_))))
     obtain rfl:=za h
     exact zb.rt Tryz.results32 e
    ·
     obtain⟨r2,hv22,h⟩:=bind_some h
     obtain⟨e3,hv23,h⟩:=bind_some h
     refine .skip (.then (.sr [oo,oo,oo,oo,oo,([],[9]),([],[10]),([9],[9]),([10],[10])] mx (.ldA qn e (.cA (.call .none (zgW hv22) (.cons (.s e) .nil)) (.mvA e (.exA e e (.exA e e (.al yG e (.al yG e (.st zw e e e (.st zw e e e (.nil (.freeze (t:=9) e e (.k 10 e .nil) e (.freeze (t:=10) e e ze.nil e (.seq (.sn mx (.ld zw e (.c (.call .none (zdt hv23) (.cons (.s e) .nil)) (.asn e (.nil (.sn mx (.mv e (.nei e (.nil (.cb e h (fun _ h=>?_) fun _ h=>?_)))))))))))))))))))))))))
     ·
      refine .sn mx (.mv e (.asn e (.nil (.ret (.thenRet ?_)))))
      obtain rfl:=za h
      exact zb.rt Tryz.results32 e
     ·
      obtain⟨r3,hv25,h⟩:=bind_some h
      refine .skip (.then (.sn mx (.ld zw e (.c (.call .none (zdt hv25) (.cons (.s e) .nil)) (.asn e (.nil (.ret ?_)))))))
      obtain rfl:=za h
      exact zb.rt Tryz.results32 e
theorem zg6 {t1:zA}{r:(List zV)}  (h:J7 t1=some r):zi Tryz.prog 64 [rep t1] (rep r):=by
 unfold J7 at h
 refine zi.i Tryz.func64 e Tryz.ntmps64 e (fun F=>(.sn mx (.c (.box .none (.s e)) (.c (.assign .none (.const (x:=([]:(List zV))) (fun M w=>⟨_,⟨none,0,rfl,Nat.le_refl _,by decide,rfl⟩,rfl⟩))) (.nil (.sr [([],[3])] mx (.cW (.nilRow (T:=156) (α:=zV) e) (.nil (.nameRow (t:=3) (g:=5001) e e e (fun s5001=>(.seq (.sn mx (.fa Yf JC e (.ld Jj e (.ln y5 e (.mvi (.nil ?_)))))))))))))))))
 obtain⟨j_1,h,hK1⟩:=bind_some h
 refine .thenJ (ι:=(List zV)) (fun j_1=>[]) (fun j_1=>[(3,some (zk 156 j_1))]) (fun s=>j_1=s) Sub.nil ze.nil ?_ (fun j_1' hj1=>?_)
 ·
  refine .block (.anon (t:=3) (g:=5001) e e trivial e (.rforL h (fun p2_=>[(9,⟨True,rep p2_.1⟩)]) (fun p2_=>[(3,some (zk 156 p2_.2))]) (.k 9 e .nil) (.k 3 e .nil) (.k2 1 7 e e (.k 8 e .nil)) ze.nil (fun p2_ o_2 h hD2=>(.nameRow (t:=3) (g:=5002) e e e (fun s5002=>(.sn mx (.lt e e (.nil (.seq (.cb e h (fun _ h=>?_) fun _ h=>?_))))))))))
  ·
   refine .skip (.then (.seq ?_))
   obtain⟨j_4,h,hK4⟩:=bind_some h
   unfold zg5 at h
   refine .thenJ (ι:=(List zV)) (fun j_4=>[]) (fun j_4=>[(3,some (zk 156 j_4))]) (fun s=>j_4=s) (.k4 1 7 8 9 e e e e .nil) ze.nil ?_ (fun j_4' hj4=>?_)
   ·
    obtain⟨hn5,h⟩:=zr h
    obtain⟨v1,hv6,h⟩:=zh h
    obtain⟨hn7,h⟩:=zr h
    exact .block (.sr [oo,oo,([],[5]),([5],[5])] mx (.ixA y5 zK e e hn5 (.rlA hv6 zK e (.al q8 e (.st zK e e e (.nil (.freeze (t:=5) e e (.k 5002 e .nil) e (.rg [oo,oo,oo,oo,oo,oo,oo,oo,oo,oo,oo,oo,oo,oo,oo,oo,oo,oo,oo,oo,oo,oo,oo,oo,oo,oo,oo,oo,oo,([5002],[42,5002]),([42],[3,42])] mx (.mvA e (.faA qf y7 e (.ldA ty3 e (.faA qF qG e (.ldA ty3 e (.subA e e (.faA qg y8 e (.ldA ty3 e (.faA qF qG e (.ldA ty3 e (.subA e e (.faA qf y7 e (.ldA ty3 e (.faA yQ yL e (.ldA ty3 e (.addA e e (.faA qF qG e (.ldA ty3 e (.addA e e (.faA qg y8 e (.ldA ty3 e (.faA yU yR e (.ldA ty3 e (.addA e e (.faA qF qG e (.ldA ty3 e (.addA e e (.cA (.buildF (y:=(⟨W (v1.X - t1.Clear),W (v1.Y - t1.Clear),W ((W (v1.X+v1.W_))+t1.Clear),W ((W (v1.Y+v1.H))+t1.Clear)⟩:zV)) .none zmx zrZ e (.cons (.s e) (.cons (.s e) (.cons (.s e) (.cons (.s e) .nil)))) (.cons e zqQ (.cons e zqR (.cons e zqS (.cons e zqT .nil))))) (.cA (.buildSlice (xs:=[_]) .none Je Q0 zoj (.cons (.s e) .nil) e (by decide)) (.cW (.append (k:=5002) zqd e (.told (.s e) e) (.s e) hn7) (.cW (.passRow e (.tmp e)) (.nil (.blkNormal (zb.j _ (za h)))))))))))))))))))))))))))))))))))))))))))
   ·
    subst hj4;have h:=hK4;clear hK4
    exact .nameRow (t:=3) (g:=5003) e e e (fun s5003=>(.rn mx (.adi e (.mv e (.nil (.anon (t:=3) (g:=5003) e e trivial e (zb.ag (za h))))))))
  ·
   refine .exit (.thenExit (.thenExit (.blkExit (.anon (t:=3) (g:=5002) e e trivial e ?_))))
   replace h:=hD2 _ (za h)
   exact zb.j _ (za h)
 ·
  subst hj1;have h:=hK1;clear hK1
  refine .freezeRowA (t:=3) e e ze.nil e (.sn mx (.mv e (.asn e (.nil (.ret ?_)))))
  obtain rfl:=za h
  exact zb.rt Tryz.results64 e
theorem zqm {z1:zV}{c0_1:zd}{c1_1:zd}{r:Bool}  (h:Qr z1 c0_1 c1_1=some r):zi Tryz.prog 109 [rep z1,ref c0_1,ref c1_1] (rep r):=by
 unfold Qr at h
 refine zi.i Tryz.func109 e Tryz.ntmps109 e (fun F=>(.sn mx (.c (.box .none (.s e)) (.asb (.nil (.sn mx (.fa yt yu e (.ld ty3 e (.fa yt yu e (.ld ty3 e (.c (.max2 .none (.s e) (.s e)) (.fa zfM zf3 e (.ld ty3 e (.c (.gt .none (.s e) (.s e)) (.mv e (.fg yt yu e e e (.lg ty3 e e e (.fg yt yu e e e (.lg ty3 e e e (.c (.min2 (.at e e) (.tmp e id) (.tmp e id)) (.fg zfO zf5 e e e (.lg ty3 e e e (.c (.lt (.at e e) (.tmp e id) (.tmp e id)) (.pa e e (.mv e (.fg yV yW e e e (.lg ty3 e e e (.fg yV yW e e e (.lg ty3 e e e (.c (.max2 (.at e e) (.tmp e id) (.tmp e id)) (.fg zfN zf4 e e e (.lg ty3 e e e (.c (.gt (.at e e) (.tmp e id) (.tmp e id)) (.pa e e (.mv e (.fg yV yW e e e (.lg ty3 e e e (.fg yV yW e e e (.lg ty3 e e e (.c (.min2 (.at e e) (.tmp e id) (.tmp e id)) (.fg zfP zf6 e e e (.lg ty3 e e e (.c (.lt (.at e e) (.tmp e id) (.tmp e id)) (.pa e e (.asn e (.nil (.ret ?_)))))))))))))))))))))))))))))))))))))))))))))))
 obtain rfl:=za h
 exact zb.rt Tryz.results109 e
theorem zrg {s1:(List zV)}{f1:(zV→Option Bool)}{r:Int}  (h:zab s1 f1=some r):zi Tryz.prog 133 [rep s1,fn1 Tryz.prog (rep (α:=Bool)) f1] (rep r):=by
 unfold zab at h
 refine zi.i Tryz.func133 e Tryz.ntmps133 e (fun F=>(.sn mx (.asi (.nil (.seq (.sn mx (.mv e (.ln Je e (.mvi (.nil ?_))))))))))
 obtain⟨o_1,h,hK1⟩:=ym h
 refine .tJ (fun s=>o_1=Res.nx s) Sub.nil ze.nil ?_ (fun j_1 hj1=>?_)
 ·
  refine .block (.rforEL h (fun p2_=>[(8,⟨True,rep p2_.1⟩)]) (fun p2_=>[]) (.k 8 e .nil) ze.nil (.k2 0 1 e e (.k 7 e .nil)) ze.nil (fun p2_ o_2 h hD2=>(.sn mx (.lt e e (.nil (.seq (.cb e h (fun _ h=>?_) fun _ h=>?_)))))))
  ·
   refine .skip (.then (.seq ?_))
   obtain⟨o_4,h,hK4⟩:=yK h
   unfold zeT at h
   refine .tJ (fun s=>o_4=Res.nx s) (.k4 0 1 7 8 e e e e .nil) ze.nil ?_ (fun j_4 hj4=>?_)
   ·
    obtain⟨hn5,h⟩:=zr h
    obtain⟨r1,hv6,h⟩:=bind_some h
    refine .block (.sn mx (.mv e (.asn e (.nil (.sn mx (.mv e (.mv e (.mv e (.ix Je Q0 e e hn5 (.ld Q0 e (.c (.callV (gx s1 p2_.1,r1) .none (.s e) (fun _=>hv6) (.cons (.s e) .nil)) (.nil (.cb e h (fun _ h=>?_) fun _ h=>?_)))))))))))))
    ·
     refine .sn mx (.mv e (.asn e (.nil (.ret (.blkRet (.thenRet (.thenRet (.blkRet (.thenRet ?_)))))))))
     replace h:=yD hK4 (za h)
     replace h:=hD2 _ (za h)
     replace h:=z6 hK1 (za h)
     obtain rfl:=za h
     exact zb.rt Tryz.results133 e
    ·
     exact .skip (.blkNormal (zb.j _ (za h)))
   ·
    have h:=yN hK4 hj4
    exact .rn mx (.adi e (.mv e (.nil (zb.ag (za h)))))
  ·
   refine .exit (.thenExit (.thenExit (.blkExit ?_)))
   replace h:=hD2 _ (za h)
   exact zb.j _ (za h)
 ·
  have h:=yo hK1 hj1
  refine .sn mx (.asi (.nil (.ret ?_)))
  obtain rfl:=za h
  exact zb.rt Tryz.results133 e
theorem zrc {s1:(List zV)}{f1:(zV→Option Bool)}{r:Bool}  (h:zcQ s1 f1=some r):zi Tryz.prog 108 [rep s1,fn1 Tryz.prog (rep (α:=Bool)) f1] (rep r):=by
 unfold zcQ at h
 obtain⟨r1,hv1,h⟩:=bind_some h
 refine zi.i Tryz.func108 e Tryz.ntmps108 e (fun F=>(.sn mx (.asb (.nil (.sn mx (.mv e (.mv e (.c (.call .none (zrg hv1) (.cons (.s e) (.cons (.s e) .nil))) (.c (.ge .none (.s e) .i) (.asn e (.nil (.ret ?_))))))))))))
 obtain rfl:=za h
 exact zb.rt Tryz.results108 e
theorem zkm {l1:(List zV)}{a1:zd}{b1:zd}{r:Bool}  (h:YB l1 a1 b1=some r):zi Tryz.prog 65 [rep l1,rep a1,rep b1] (rep r):=by
 unfold YB at h
 refine zi.i Tryz.func65 e Tryz.ntmps65 e (fun F=>(.sn mx (.c (.box .none (.s e)) (.c (.box .none (.s e)) (.asb (.nil (.sn mx (.mv e (.c (.makeFunc (ι:=zV×Bool) (pre:=fun i=>(fun x0=>Qr x0 a1 b1) i.1=some i.2) (Ss:=fun i=>[rep i.1]) (S:=fun i=>rep i.2) .none znk (fun i h=>zqm h) (.cons (.s e) (.cons (.s e) .nil))) ?_)))))))))
 obtain⟨r1,hv1,h⟩:=bind_some h
 refine .c (.call .none (zrc hv1) (.cons (.s e) (.cons (.s e) .nil))) (.c (.not .none (.s e)) (.asn e (.nil (.ret ?_))))
 obtain rfl:=za h
 exact zb.rt Tryz.results65 e
theorem zeI {l1:(List Int)}{at1:(List Int)}{r:(List Int)}{s34:Value}(h:vR l1 at1=some r):yh Tryz.prog 134 [isV s34,rep at1] [(s34,zk 3 l1)] (yj) [none,some (zk 3 r)]:=by
 unfold vR at h
 refine yh.i Tryz.func134 e Tryz.ntmps134 e (fun F=>(.sn mx (.c (.assign .none (.const (x:=([]:(List Int))) (fun M w=>⟨_,⟨none,0,rfl,Nat.le_refl _,by decide,rfl⟩,rfl⟩))) (.nil (.seq (.sn mx (.mv e (.ln yl e (.mvi (.nil ?_))))))))))
 obtain⟨j_1,h,hK1⟩:=bind_some h
 refine .thenJ (ι:=(List Int)) (fun j_1=>[]) (fun j_1=>[(0,some (zk 3 j_1))]) (fun s=>j_1=s) Sub.nil ze.nil ?_ (fun j_1' hj1=>?_)
 ·
  refine .block (.anon (t:=0) (g:=34) e e trivial e (.rforL h (fun p2_=>[(10,⟨True,rep p2_.1⟩)]) (fun p2_=>[(0,some (zk 3 p2_.2))]) (.k 10 e .nil) (.k 0 e .nil) (.k2 8 9 e e .nil) ze.nil (fun p2_ o_2 h hD2=>(.nameRow (t:=0) (g:=5001) e e e (fun s5001=>(.sn mx (.lt e e (.nil (.seq (.cb e h (fun _ h=>?_) fun _ h=>?_))))))))))
  ·
   refine .skip (.then (.seq ?_))
   obtain⟨j_4,h,hK4⟩:=bind_some h
   unfold zgX at h
   refine .thenJ (ι:=(List Int)) (fun j_4=>[]) (fun j_4=>[(0,some (zk 3 j_4))]) (fun s=>j_4=s) (.k2 8 9 e e (.k 10 e .nil)) ze.nil ?_ (fun j_4' hj4=>?_)
   ·
    obtain⟨hn5,h⟩:=zr h
    obtain⟨n1,hv6,h⟩:=zh h
    obtain⟨k1,hv7,h⟩:=zh h
    refine .block (.sn mx (.ix yl ty3 e e hn5 (.ld ty3 e (.ra hv6 e (.nil (.sn mx (.mv e (.c (.subW .none (.s e) .i) (.ra hv7 e (.nil (.block (.anon (t:=0) (g:=5001) e e trivial e (.loopL h (fun s8_=>[(7,⟨True,rep s8_.2⟩)]) (fun s8_=>[(0,some (zk 3 s8_.1))]) (.k 7 e .nil) (.k 0 e .nil) (.k4 6 8 9 10 e e e e .nil) ze.nil (fun s8_ o_8 h hD8=>?_))))))))))))))
    unfold J1 at h
    refine .nameRow (t:=0) (g:=5002) e e e (fun s5002=>(.seq (.sn mx (.mv e (.mv e (.adi e (.c (.le .none (.s e) (.s e)) (.nil (.cb e h (fun _ h=>?_) fun _ h=>?_)))))))))
    ·
     refine .skip (.then (.seq ?_))
     obtain⟨j_10,h,hK10⟩:=bind_some h
     refine .thenJ (ι:=(List Int)) (fun j_10=>[]) (fun j_10=>[(0,some (zk 3 j_10))]) (fun s=>j_10=s) (.k4 6 7 8 9 e e e e (.k 10 e .nil)) ze.nil ?_ (fun j_10' hj10=>?_)
     ·
      refine .block (.sn mx (.mv e (.c (.ge .none (.s e) .i) (.mv e (.mg e e e (.c (.le (.at e e) (.tmp e id) .i) (.pa e e (.nil (.cb e h (fun _ h=>?_) fun _ h=>?_)))))))))
      ·
       obtain⟨hn12,h⟩:=zr h
       exact .rg [oo,oo,oo,([5002],[31,5002]),([31],[0,31])] mx (.mvA e (.mvA e (.cA (.buildSlice (xs:=[_]) .none yl ty3 hz3 (.cons (.s e) .nil) e (by decide)) (.cW (.append (k:=5002) za7 e (.told (.s e) e) (.s e) hn12) (.consWD (.passRow e (.tmp e)) e e (.nil (.blkNormal (zb.j _ (za h)))))))))
      ·
       exact .skip (.blkNormal (.anon (t:=0) (g:=5002) e e trivial e (zb.j _ (za h))))
     ·
      subst hj10;have h:=hK10;clear hK10
      obtain⟨k2,hv13,h⟩:=zh h
      exact .nameRow (t:=0) (g:=5003) e e e (fun s5003=>(.rn mx (.mv e (.adi e (.ra hv13 e (.nil (.anon (t:=0) (g:=5003) e e trivial e (zb.ag (za h)))))))))
    ·
     refine .exit (.thenExit (.thenExit (.blkExit (.blkNormal (.anon (t:=0) (g:=5002) e e trivial e ?_)))))
     replace h:=hD8 _ (za h)
     exact zb.j _ (za h)
   ·
    subst hj4;have h:=hK4;clear hK4
    exact .nameRow (t:=0) (g:=5004) e e e (fun s5004=>(.rn mx (.adi e (.mv e (.nil (.anon (t:=0) (g:=5004) e e trivial e (zb.ag (za h))))))))
  ·
   refine .exit (.thenExit (.thenExit (.blkExit (.anon (t:=0) (g:=5001) e e trivial e ?_))))
   replace h:=hD2 _ (za h)
   exact zb.j _ (za h)
 ·
  subst hj1;have h:=hK1;clear hK1
  refine .nameRow (t:=0) (g:=5005) e e e (fun s5005=>(.sn mx (.mv e (.asn e (.nil (.ret (.anon (t:=4) (g:=5005) e e trivial e ?_)))))))
  obtain rfl:=za h
  exact zb.ret1O (.inl e) [34,4] Tryz.results134 (by decide) (.skip (.res e e)) (zO.tmp e trivial (fun _ _ _ _=>trivial))
theorem zqo {t1:zA}{r:((List Int)×(List Int))}  (h:zcB t1=some r):zi Tryz.prog 110 [rep t1] (tup [rep r.1,rep r.2]):=by
 unfold zcB at h
 obtain⟨r1,hv1,h⟩:=bind_some h
 obtain⟨xs1,hv2,h⟩:=bind_some h
 refine zi.i Tryz.func110 e Tryz.ntmps110 e (fun F=>(.sr [oo,([],[2]),([],[3])] mx (.cA (.box .none (.s e)) (.cW (.nilRow (T:=3) (α:=Int) e) (.cW (.nilRow (T:=3) (α:=Int) e) (.nil (.nameRow (t:=2) (g:=5001) e e e (fun s5001=>(.nameRow (t:=3) (g:=5002) e e e (fun s5002=>(.sr [oo,oo,oo,oo,oo,([],[4]),([],[5]),([4],[4]),([5],[5])] mx (.ldA qn e (.cA (.call .none (zgW hv1) (.cons (.s e) .nil)) (.mvA e (.exA e e (.exA e e (.al yG e (.al yG e (.st zw e e e (.st zw e e e (.nil (.freeze (t:=4) e e (.k2 5 5001 e e (.k 5002 e .nil)) e (.freeze (t:=5) e e (.k2 5001 5002 e e .nil) e (.sn mx (.c (.assign .none .funcC) (.nil (.sr [oo,oo,oo,oo,oo,oo,oo,([5001],[5001,21]),oo,oo,oo,oo,oo,oo,oo,([5002],[5002,29]),([21],[2,21]),([29],[3,29])] mx (.mvA e (.mvA e (.faA yt yu e (.ldA ty3 e (.faA yt yu e (.ldA ty3 e (.cA (.buildSlice (xs:=[_,_]) .none yl ty3 hz3 (.cons (.s e) (.cons (.s e) .nil)) e (by decide)) (.cW (.callClo [5001] (Ss:=[isV _,rep [r1.1.X,r1.2.X]]) (Cs:=[]) (.s e) (zeI hv2) (.cons (.s e) (.cons (.s e) .nil)) (.cons (k:=5001) e .nil) e (by decide) (by decide) (by intro d h;cases h;decide)) ?_)))))))))))))))))))))))))))))))))))
 obtain⟨ys1,hv3,h⟩:=bind_some h
 refine .mvA e (.mvA e (.faA yV yW e (.ldA ty3 e (.faA yV yW e (.ldA ty3 e (.cA (.buildSlice (xs:=[_,_]) .none yl ty3 hz3 (.cons (.s e) (.cons (.s e) .nil)) e (by decide)) (.cW (.callClo [5002] (Ss:=[isV _,rep [r1.1.Y,r1.2.Y]]) (Cs:=[]) (.s e) (zeI hv3) (.cons (.s e) (.cons (.s e) .nil)) (.cons (k:=5002) e .nil) e (by decide) (by decide) (by intro d h;cases h;decide)) ?_)))))))
 obtain⟨r2,hv4,h⟩:=bind_some h
 refine .cW (.passRow e (.tmp e)) (.cW (.passRow e (.tmp e)) (.nil (.nameRow (t:=2) (g:=5003) e e e (fun s5003=>(.nameRow (t:=3) (g:=5004) e e e (fun s5004=>(.seq (.sn mx (.ld qn e (.c (.call .none (zg6 hv4) (.cons (.s e) .nil)) (.ln Je e (.mvi (.nil ?_)))))))))))))
 obtain⟨j_5,h,hK5⟩:=bind_some h
 refine .thenJ (ι:=((List Int)×(List Int))) (fun j_5=>[]) (fun j_5=>[(2,some (zk 3 j_5.1)),(3,some (zk 3 j_5.2))]) (fun s=>j_5=s) Sub.nil ze.nil ?_ (fun j_5' hj5=>?_)
 ·
  refine .block (.anon (t:=2) (g:=5003) e e trivial e (.anon (t:=3) (g:=5004) e e trivial e (.rforL h (fun p6_=>[(33,⟨True,rep p6_.1⟩)]) (fun p6_=>[(2,some (zk 3 p6_.2.1)),(3,some (zk 3 p6_.2.2))]) (.k 33 e .nil) (.k2 2 3 e e .nil) (.k2 6 31 e e (.k 32 e .nil)) ze.nil (fun p6_ o_6 h hD6=>(.nameRow (t:=2) (g:=5005) e e e (fun s5005=>(.nameRow (t:=3) (g:=5006) e e e (fun s5006=>(.sn mx (.lt e e (.nil (.seq (.cb e h (fun _ h=>?_) fun _ h=>?_)))))))))))))
  ·
   refine .skip (.then (.seq ?_))
   obtain⟨j_8,h,hK8⟩:=bind_some h
   unfold zgY at h
   refine .thenJ (ι:=((List Int)×(List Int))) (fun j_8=>[]) (fun j_8=>[(2,some (zk 3 j_8.1)),(3,some (zk 3 j_8.2))]) (fun s=>j_8=s) (.k4 6 31 32 33 e e e e .nil) ze.nil ?_ (fun j_8' hj8=>?_)
   ·
    obtain⟨hn9,h⟩:=zr h
    obtain⟨v1,hv10,h⟩:=zh h
    obtain⟨xs2,hv11,h⟩:=bind_some h
    refine .block (.sr [oo,oo,([],[8]),([8],[8])] mx (.ixA Je Q0 e e hn9 (.rlA hv10 Q0 e (.al zlp e (.st Q0 e e e (.nil (.freeze (t:=8) e e (.k2 5005 5006 e e .nil) e (.rg [oo,oo,oo,oo,oo,oo,oo,([5005],[5005,44]),oo,oo,oo,oo,oo,oo,oo,([5006],[5006,52]),([44],[2,44]),([52],[3,52])] mx (.mvA e (.mvA e (.faA zfM zf3 e (.ldA ty3 e (.faA zfO zf5 e (.ldA ty3 e (.cA (.buildSlice (xs:=[_,_]) .none yl ty3 hz3 (.cons (.s e) (.cons (.s e) .nil)) e (by decide)) (.cW (.callClo [5005] (Ss:=[isV _,rep [v1.left,v1.right]]) (Cs:=[]) (.s e) (zeI hv11) (.cons (.s e) (.cons (.s e) .nil)) (.cons (k:=5005) e .nil) e (by decide) (by decide) (by intro d h;cases h;decide)) ?_))))))))))))))))
    obtain⟨ys2,hv12,h⟩:=bind_some h
    exact .mvA e (.mvA e (.faA zfN zf4 e (.ldA ty3 e (.faA zfP zf6 e (.ldA ty3 e (.cA (.buildSlice (xs:=[_,_]) .none yl ty3 hz3 (.cons (.s e) (.cons (.s e) .nil)) e (by decide)) (.cW (.callClo [5006] (Ss:=[isV _,rep [v1.top,v1.bottom]]) (Cs:=[]) (.s e) (zeI hv12) (.cons (.s e) (.cons (.s e) .nil)) (.cons (k:=5006) e .nil) e (by decide) (by decide) (by intro d h;cases h;decide)) (.cW (.passRow e (.tmp e)) (.cW (.passRow e (.tmp e)) (.nil (.blkNormal (zb.j _ (za h)))))))))))))
   ·
    subst hj8;have h:=hK8;clear hK8
    exact .nameRow (t:=2) (g:=5007) e e e (fun s5007=>(.nameRow (t:=3) (g:=5008) e e e (fun s5008=>(.rn mx (.adi e (.mv e (.nil (.anon (t:=2) (g:=5007) e e trivial e (.anon (t:=3) (g:=5008) e e trivial e (zb.ag (za h)))))))))))
  ·
   refine .exit (.thenExit (.thenExit (.blkExit (.anon (t:=2) (g:=5005) e e trivial e (.anon (t:=3) (g:=5006) e e trivial e ?_)))))
   replace h:=hD6 _ (za h)
   exact zb.j _ (za h)
 ·
  subst hj5;have h:=hK5;clear hK5
  obtain⟨r3,hv13,h⟩:=bind_some h
  obtain⟨r4,hv14,h⟩:=bind_some h
  obtain⟨xs3,hv15,h⟩:=bind_some h
  obtain⟨ys3,hv16,h⟩:=bind_some h
  refine .nameRow (t:=2) (g:=5009) e e e (fun s5009=>(.nameRow (t:=3) (g:=5010) e e e (fun s5010=>(.sr [oo,([5009],[5009])] mx (.mvA e (.cW (.cO [5009] (zhr hv13) (.cons (.s e) .nil) (.cons (k:=5009) e .nil) e) (.nil (.sr [oo,([5010],[5010])] mx (.mvA e (.cW (.cO [5010] (zhr hv14) (.cons (.s e) .nil) (.cons (k:=5010) e .nil) e) (.nil (.sr [oo,([5009],[5009]),oo,([5010],[5010]),oo,oo] mx (.mvA e (.cW (.cO [5009] ((zhj hv15).frzO1) (.cons (.s e) .nil) (.cons (k:=5009) e .nil) e) (.mvA e (.cW (.cO [5010] ((zhj hv16).frzO1) (.cons (.s e) .nil) (.cons (k:=5010) e .nil) e) (.consD (.assign .none (.s e)) e (.consD (.assign .none (.s e)) e (.nil (.ret ?_))))))))))))))))))))
  obtain rfl:=za h
  exact zb.ret2 (.inl e) Tryz.results110 (zO.tmp e trivial Imp.refl) (zO.tmp e trivial Imp.refl)
theorem zid {x1:Int}{r:Bool}  (h:zbH x1=some r):zi Tryz.prog 127 [rep x1] (rep r):=by
 unfold zbH at h
 refine zi.i Tryz.func127 e Tryz.ntmps127 e (fun F=>(.sn mx (.asb (.nil (.sn mx (.mv e (.mv e (.c (.neI .none (.s e) (.s e)) (.asn e (.nil (.ret ?_)))))))))))
 obtain rfl:=za h
 exact zb.rt Tryz.results127 e
theorem zmD {x1:Int}{y1:Int}{r:Bool}  (h:zbG x1 y1=some r):zi Tryz.prog 90 [rep x1,rep y1] (rep r):=by
 unfold zbG at h
 obtain⟨r1,hv1,h⟩:=bind_some h
 obtain⟨r2,hv2,h⟩:=bind_some h
 refine zi.i Tryz.func90 e Tryz.ntmps90 e (fun F=>(.sn mx (.asb (.nil (.sn mx (.mv e (.c (.call .none (zid hv1) (.cons (.s e) .nil)) (.mv e (.mg e e e (.c (.callIf (.at e e) zno (fun hg=>zid ((fun hg=>yC hv2 (hg.2)) hg)) (.cons (.tmp e id) .nil) (fun h=>h)) (.c (.not (.at e e) (.tmp e id)) (.pa e e (.mv e (.mg e e e (.mg e e e (.c (.lt (.at e e) (.tmp e id) (.tmp e id)) (.po e e (.asn e (.nil (.ret ?_))))))))))))))))))))
 obtain rfl:=za h
 exact zb.rt Tryz.results90 e
theorem zkX {x1:Int}{r:Bool}  (h:Jg x1=some r):zi Tryz.prog 91 [rep x1] (rep r):=by
 unfold Jg at h
 refine zi.i Tryz.func91 e Tryz.ntmps91 e (fun F=>(.sn mx (.asb (.nil (.sn mx (.mv e (.mv e (.c (.neI .none (.s e) (.s e)) (.asn e (.nil (.ret ?_)))))))))))
 obtain rfl:=za h
 exact zb.rt Tryz.results91 e
theorem Jf {x1:(List Int)}{target1:Int}{r:(Int×Bool)}  (h:vW x1 target1=some r):zi Tryz.prog 41 [rep x1,rep target1] (tup [rep r.1,rep r.2]):=by
 unfold vW at h
 obtain⟨n1,hv1,h⟩:=zh h
 refine zi.i Tryz.func41 e Tryz.ntmps41 e (fun F=>(.sn mx (.asi (.asb (.nil (.sn mx (.mv e (.ln yl e (.ra hv1 e (.nil (.sn mx (.mv e (.asi (.asn e (.nil (.seq ?_))))))))))))))))
 obtain⟨j_2,h,hK2⟩:=bind_some h
 refine .thenJ (ι:=Int) (fun j_2=>[(7,⟨True,rep j_2⟩)]) (fun j_2=>[]) (fun s=>j_2=s) (.k2 0 1 e e (.k 6 e .nil)) ze.nil ?_ (fun j_2' hj2=>?_)
 ·
  refine .block (.loopL h (fun s3_=>[(7,⟨True,rep s3_.1⟩),(8,⟨True,rep s3_.2⟩)]) (fun s3_=>[]) (.k2 7 8 e e .nil) ze.nil (.k2 0 1 e e (.k 6 e .nil)) ze.nil (fun s3_ o_3 h hD3=>?_))
  unfold zeS at h
  refine .seq (.sn mx (.mv e (.mv e (.lt e e (.nil (.cb e h (fun _ h=>?_) fun _ h=>?_))))))
  ·
   obtain⟨h1,hv5,h⟩:=zh h
   obtain⟨hn6,h⟩:=zr h
   obtain⟨r1,hv7,h⟩:=bind_some h
   refine .skip (.then (.block (.sn mx (.mv e (.mv e (.add e e (.c (.toK .none (by kernel_rfl) Tryz.underlying143 (.s e)) (.c (.kshr .none (.s e) .ki (fun _=>by decide)) (.c (.toInt .none (by kernel_rfl) Tryz.underlying3 (.s e)) (.ra hv5 e (.nil (.sn mx (.mv e (.mv e (.ix yl ty3 e e hn6 (.ld ty3 e (.mv e (.c (.call .none (zmD hv7) (.cons (.s e) (.cons (.s e) .nil))) (.nil (.cb e h (fun _ h=>?_) fun _ h=>?_))))))))))))))))))))
   ·
    obtain⟨i1,hv9,h⟩:=zh h
    exact .rn mx (.mv e (.adi e (.ra hv9 e (.nil (.blkNormal (zb.ag (za h)))))))
   ·
    exact .rn mx (.mv e (.asn e (.nil (.blkNormal (zb.ag (za h))))))
  ·
   refine .exit (.thenExit (.thenExit (.blkExit ?_)))
   replace h:=hD3 _ (za h)
   exact zb.j _ (za h)
 ·
  subst hj2;have h:=hK2;clear hK2
  obtain⟨hn10,h⟩:=zr h
  obtain⟨hn11,h⟩:=zr h
  obtain⟨r2,hv12,h⟩:=bind_some h
  refine .sn mx (.mv e (.mv e (.mv e (.lt e e (.mv e (.mg e e e (.mg e e e (.c (.indexAddr (.at e e) yl ty3 (.tmp e id) (.tmp e id) (fun hg=>hn10 hg.2)) (.lg ty3 e e e (.mg e e e (.c (.eqI (.at e e) (.tmp e id) (.tmp e id)) (.c (.move (.at e e) (.tmp e id)) (.mg e e e (.mg e e e (.c (.indexAddr (.at e e) yl ty3 (.tmp e id) (.tmp e id) (fun hg=>hn11 hg.1.2 hg.2)) (.lg ty3 e e e (.c (.callIf (.at e e) ziL (fun hg=>zkX ((fun hg=>yC hv12 ((zfl hg.1.2 (qD hg.2)))) hg)) (.cons (.tmp e id) .nil) (fun h=>h)) ?_)))))))))))))))))
  obtain⟨r3,hv13,h⟩:=bind_some h
  refine .c (.move (.at e e) (.tmp e id)) (.mg e e e (.c (.callIf (.at e e) ziL (fun hg=>zkX ((fun hg=>yC hv13 ((zfl (zfl hg.1.1.2 (qD hg.1.2)) hg.2))) hg)) (.cons (.tmp e id) .nil) (fun h=>h)) (.c (.pickAnd (.at e e) (.tmp e id) (.tmp e id)) (.c (.pickOr (.at e e) (.tmp e id) (.tmp e id)) (.pa e e (.asn e (.asn e (.nil (.ret ?_)))))))))
  obtain rfl:=za h
  exact zb.ret2 (.inl e) Tryz.results41 (zO.tmp e trivial Imp.refl) (zO.tmp e trivial Imp.refl)
theorem zqp {l1:(List Int)}{low1:Int}{high1:Int}{r:((Arr 1 Int)×(Arr 1 Int))}  (h:Qs l1 low1 high1=some r):zi Tryz.prog 111 [rep l1,rep low1,rep high1] (tup [rep r.1,rep r.2]):=by
 unfold Qs at h
 obtain⟨lines1,hv1,h⟩:=zh h
 obtain⟨stretches1,hv2,h⟩:=zh h
 obtain⟨r1,hv3,h⟩:=bind_some h
 obtain⟨r2,hv4,h⟩:=bind_some h
 obtain⟨v1,hv5,h⟩:=zh h
 obtain⟨v2,hv6,h⟩:=zh h
 refine zi.i Tryz.func111 e Tryz.ntmps111 e (fun F=>(.sr [([],[6]),([],[7])] mx (.al zbs e (.al zbs e (.nil (.reB (t:=6) e (congrArg (zE 159) hv1) (.reB (t:=7) e (congrArg (zE 159) hv2) (.nameBox (t:=6) (g:=5001) e e (fun m5001=>(.nameBox (t:=7) (g:=5002) e e (fun m5002=>(.sn mx (.mv e (.mv e (.adi e (.c (.call .none (Jf hv3) (.cons (.s e) (.cons (.s e) .nil))) (.mv e (.ex e e (.ex e e (.asn e (.asn e (.nil (.sn mx (.mv e (.mv e (.c (.call .none (Jf hv4) (.cons (.s e) (.cons (.s e) .nil))) (.mv e (.ex e e (.ex e e (.asn e (.asn e (.nil (.sr [oo,oo,oo,oo,oo,oo,oo,oo,([5001],[5001]),([5002],[5002])] mx (.mvA e (.mvA e (.cA (.re hv5 (.buildArr (xs:=[_,_]) .none QA ty3 zhZ (.cons (.s e) (.cons (.s e) .nil)) e)) (.mvA e (.cA (.subW .none (.s e) .i) (.cA (.max2 .none (.s e) .i) (.mvA e (.cA (.re hv6 (.buildArr (xs:=[_,_]) .none QA ty3 zhZ (.cons (.s e) (.cons (.s e) .nil)) e)) (.s0 5001 Ji e e e (.s0 5002 Ji e e e (.nil (.freezeBox (g:=5001) (ts:=[6]) e (.cons (t:=6) e trivial .nil) (.k 5002 e .nil) e (.fb 5002 [7] e (.cons (t:=7) e trivial .nil) (.ret ?_)))))))))))))))))))))))))))))))))))))))))))))))
 obtain rfl:=za h
 exact zb.ret2 (.inl e) Tryz.results111 (zO.cellR Ji e trivial Imp.refl) (zO.cellR Ji e trivial Imp.refl)
set_option maxHeartbeats 4000000 in
theorem zqq {t1:zA}{r:(Option yd)}  (h:za9 t1=some r):zi Tryz.prog 66 [rep t1] (rep r):=by
 unfold za9 at h
 obtain⟨v1,hv1,h⟩:=zh h
 obtain⟨r1,hv2,h⟩:=bind_some h
 obtain⟨s1,hv3,h⟩:=zh h
 obtain⟨w1,hv4,h⟩:=zh h
 obtain⟨h1,hv5,h⟩:=zh h
 obtain⟨v2,hv6,h⟩:=zh h
 obtain⟨hn7,h⟩:=zr h
 obtain⟨v3,hv8,h⟩:=zh h
 obtain⟨hn9,h⟩:=zr h
 obtain⟨c1,hv10,h⟩:=zh h
 obtain⟨c2,hv11,h⟩:=zh h
 refine zi.i Tryz.func66 e Tryz.ntmps66 e (fun F=>(.sn mx (.c (.box .none (.s e)) (.c (.assign .none (.const (x:=(none:(Option yd))) (fun M w=>⟨_,zjT,rfl⟩))) (.nil (.sr [oo,([],[19]),([19],[3,19])] mx (.cA (.re hv1 (.buildF (y:=(⟨([]:(List Int)),([]:(List Int)),([]:(List Bool)),([]:(List Bool))⟩:yd)) .none zmv zrY e .nil .nil)) (.cW (.boxO e (.s e)) (.cW (.passRow e (.tmp e)) (.nil (.nameBox (t:=3) (g:=5001) e e (fun m5001=>(.sr [oo,oo,oo,oo,oo,oo,oo,oo,oo,([5001],[5001]),oo,oo,([5001],[5001])] mx (.mvA e (.mvA e (.ldA qn e (.cA (.call .none (zqo hv2) (.cons (.s e) .nil)) (.mvA e (.exA e e (.exA e e (.cA (.nilCheckP .none (.s e)) (.cA (.fieldPtr .none vo (.s e)) (.cN (.storeAt (g:=5001) y6 e (.s e) zqO (.s e)) (.cA (.nilCheckP .none (.s e)) (.cA (.fieldPtr .none Qf (.s e)) (.cN (.storeAt (g:=5001) y6 e (.s e) zqP (.s e)) (.nil (.reB (t:=5001) e (congrArg (fun y=>jb m5001 124 y) hv3) (.sr [oo,oo,oo,([5001],[]),oo,oo,oo,oo,([5001],[]),oo,oo,oo] mx (.mvA e (.cA (.nilCheckP .none (.s e)) (.cA (.fieldPtr .none vo (.s e)) (.cA (.loadAt (k:=5001) .none y6 e (.s e) Qi) (.cA (.len .none yl (.s e)) (.mvA e (.cA (.nilCheckP .none (.s e)) (.cA (.fieldPtr .none Qf (.s e)) (.cA (.loadAt (k:=5001) .none y6 e (.s e) Yh) (.cA (.len .none yl (.s e)) (.cA (.re hv4 (.assign .none (.s e))) (.cA (.re hv5 (.assign .none (.s e))) (.nil (.sr [oo,oo,oo,oo,oo,([],[46]),oo,oo,oo,([],[50]),oo,oo,([5001,46],[5001,46]),oo,oo,([5001,50],[5001,50])] mx (.mvA e (.mvA e (.mvA e ?_))))))))))))))))))))))))))))))))))))))))))))))
 refine .mvA e (.cA (.re hv6 (.mulW .none (.s e) (.s e))) (.cW (.makeSlice zeD zo4 e (.s e) (.s e) hn7) (.mvA e (.mvA e (.cA (.re hv8 (.mulW .none (.s e) (.s e))) (.cW (.makeSlice zeD zo4 e (.s e) (.s e) hn9) (.cA (.nilCheckP .none (.s e)) (.cA (.fieldPtr .none zbL (.s e)) (.cN (.storeRowF (k:=5001) (t:=46) (off:=2) (set:=fun s=>(⟨s1.xs,s1.ys,⟨s⟩,s1.down⟩:zbA)) zcW e (.s e) (by decide) (fun M s cs w hc hs=>by obtain⟨c0,q0,e0,h0,c1,q1,e1,h1,c2,q2,e2,h2,h3⟩:=hc;obtain⟨v,_,hv⟩:=zft e e h2;exact zrs.2 M (⟨s1.xs,s1.ys,⟨v⟩,s1.down⟩:zbA) ⟨s⟩ cs [s] w ⟨c0,q0,e0,h0,c1,q1,e1,h1,c2,q2,e2,hv,h3⟩ hs) e e) (.cA (.nilCheckP .none (.s e)) (.cA (.fieldPtr .none zdh (.s e)) (.cN (.storeRowD (k:=5001) (t:=50) (off:=3) (mk:=fun z=>(⟨s1.xs,s1.ys,⟨z⟩,s1.down⟩:zbA)) (set:=fun s z=>(⟨s1.xs,s1.ys,⟨z⟩,⟨s⟩⟩:jO)) zcW e (.s e) (by decide) (fun M z s cs w hc hs=>by obtain⟨c0,q0,e0,h0,c1,q1,e1,h1,c2,q2,e2,h2,h3⟩:=hc;obtain⟨v,_,hv⟩:=zft e e h3;exact zrr.2 M (⟨s1.xs,s1.ys,⟨z⟩,⟨v⟩⟩:jO) ⟨s⟩ cs [s] w ⟨c0,q0,e0,h0,c1,q1,e1,h1,c2,q2,e2,h2,hv⟩ hs) e e) (.nil (.open (k:=5001) (g:=5002) e e (fun s5002=>(.open (k:=5001) (g:=5003) e e (fun s5003=>(.seq (.sr [oo,oo,oo,([5001],[]),([5003],[]),oo] mx (.mvA e (.cA (.nilCheckP .none (.s e)) (.cA (.fieldPtr .none zbL (.s e)) (.cA (.loadAt (k:=5001) .none zac e (.s e) zga) (.cA (.lenO (k:=5003) vU (.told (.s e) e)) (.cA (.move .none .i) (.nil (.reB (t:=5002) e (congrArg (fun y=>zf.at s5002 (zk 4 y)) hv10) ?_)))))))))))))))))))))))))))
 refine .reB (t:=5003) e (congrArg (fun y=>zf.at s5003 (zk 4 y)) hv11) ?_
 obtain⟨j_12,h,hK12⟩:=bind_some h
 refine .thenJ (ι:=((List Bool)×(List Bool))) (fun j_12=>[]) (fun j_12=>[(5002,some (zf.at s5002 (zk 4 j_12.1))),(5003,some (zf.at s5003 (zk 4 j_12.2)))]) (fun s=>j_12=s) (.k2 1 3 e e (.k 4 e .nil)) (.k 5001 e .nil) ?_ (fun j_12' hj12=>?_)
 ·
  refine .block (.rforL h (fun p13_=>[(60,⟨True,rep p13_.1⟩)]) (fun p13_=>[(5002,some (zf.at s5002 (zk 4 p13_.2.1))),(5003,some (zf.at s5003 (zk 4 p13_.2.2)))]) (.k 60 e .nil) (.k2 5002 5003 e e .nil) (.k4 1 3 4 5 e e e e (.k 59 e .nil)) (.k 5001 e .nil) (fun p13_ o_13 h hD13=>(.sn mx (.lt e e (.nil (.seq (.cb e h (fun _ h=>?_) fun _ h=>?_)))))))
  ·
   refine .skip (.then (.seq ?_))
   obtain⟨j_15,h,hK15⟩:=bind_some h
   unfold zcC at h
   refine .thenJ (ι:=((List Bool)×(List Bool))) (fun j_15=>[]) (fun j_15=>[(5002,some (zf.at s5002 (zk 4 j_15.1))),(5003,some (zf.at s5003 (zk 4 j_15.2)))]) (fun s=>j_15=s) (.k4 1 3 4 5 e e e e (.k2 59 60 e e .nil)) (.k 5001 e .nil) ?_ (fun j_15' hj15=>?_)
   ·
    obtain⟨hn16,h⟩:=zr h
    obtain⟨v4,hv17,h⟩:=zh h
    obtain⟨hn18,h⟩:=zr h
    obtain⟨v5,hv19,h⟩:=zh h
    obtain⟨hn20,h⟩:=zr h
    obtain⟨hn21,h⟩:=zr h
    exact .block (.sn mx (.mv e (.asn e (.nil (.rg [oo,oo,oo,([5001],[]),oo,oo,oo,oo,([5001],[]),oo,oo,oo,oo,oo,oo,oo,oo,oo,oo,oo,oo,oo,([5003],[]),([5003],[5003]),([5002],[]),([5002],[5002])] mx (.mvA e (.cA (.nilCheckP .none (.s e)) (.cA (.fieldPtr .none zbL (.s e)) (.cA (.loadAt (k:=5001) .none zac e (.s e) zga) (.mvA e (.mvA e (.cA (.nilCheckP .none (.s e)) (.cA (.fieldPtr .none zdh (.s e)) (.cA (.loadAt (k:=5001) .none zac e (.s e) zi6) (.mvA e (.mvA e (.mvA e (.cA (.rem .none (.s e) (.s e) (fun _=>hn16)) (.mvA e (.cA (.subW .none (.s e) .i) (.cA (.re hv17 (.lt .none (.s e) (.s e))) (.mvA e (.mvA e (.cA (.quo .none (.s e) (.s e) (fun _=>hn18)) (.mvA e (.cA (.subW .none (.s e) .i) (.cA (.re hv19 (.lt .none (.s e) (.s e))) (.ixO 5003 vU ty4 e e e hn20 (.cN (.storeElem0 (k:=5003) ty4 (.s e) e (.s e) hn20) (.ixO 5002 vU ty4 e e e hn21 (.cN (.storeElem0 (k:=5002) ty4 (.s e) e (.s e) hn21) (.nil (.blkNormal (zb.j _ (za h)))))))))))))))))))))))))))))))))))
   ·
    subst hj15;have h:=hK15;clear hK15
    exact .rn mx (.adi e (.mv e (.nil (zb.ag (za h)))))
  ·
   refine .exit (.thenExit (.thenExit (.blkExit ?_)))
   replace h:=hD13 _ (za h)
   exact zb.j _ (za h)
 ·
  subst hj12;have h:=hK12;clear hK12
  obtain⟨r2,hv22,h⟩:=bind_some h
  refine .seq (.sn mx (.ld qn e (.c (.call .none (zg6 hv22) (.cons (.s e) .nil)) (.ln Je e (.mvi (.nil ?_))))))
  obtain⟨j_23,h,hK23⟩:=bind_some h
  refine .thenJ (ι:=((List Bool)×(List Bool))) (fun j_23=>[]) (fun j_23=>[(5002,some (zf.at s5002 (zk 4 j_23.1))),(5003,some (zf.at s5003 (zk 4 j_23.2)))]) (fun s=>j_23=s) (.k 3 e .nil) (.k 5001 e .nil) ?_ (fun j_23' hj23=>?_)
  ·
   refine .block (.rforL h (fun p24_=>[(91,⟨True,rep p24_.1⟩)]) (fun p24_=>[(5002,some (zf.at s5002 (zk 4 p24_.2.1))),(5003,some (zf.at s5003 (zk 4 p24_.2.2)))]) (.k 91 e .nil) (.k2 5002 5003 e e .nil) (.k4 3 4 89 90 e e e e .nil) (.k 5001 e .nil) (fun p24_ o_24 h hD24=>(.sn mx (.lt e e (.nil (.seq (.cb e h (fun _ h=>?_) fun _ h=>?_)))))))
   ·
    refine .skip (.then (.seq ?_))
    obtain⟨j_26,h,hK26⟩:=bind_some h
    unfold zgZ at h
    refine .thenJ (ι:=((List Bool)×(List Bool))) (fun j_26=>[]) (fun j_26=>[(5002,some (zf.at s5002 (zk 4 j_26.1))),(5003,some (zf.at s5003 (zk 4 j_26.2)))]) (fun s=>j_26=s) (.k4 3 4 89 90 e e e e (.k 91 e .nil)) (.k 5001 e .nil) ?_ (fun j_26' hj26=>?_)
    ·
     obtain⟨hn27,h⟩:=zr h
     obtain⟨v6,hv28,h⟩:=zh h
     refine .block (.sr [oo,oo,([],[8]),([8],[8])] mx (.ixA Je Q0 e e hn27 (.rlA hv28 Q0 e (.al zlp e (.st Q0 e e e (.nil (.freeze (t:=8) e e (.k2 5001 5002 e e (.k 5003 e .nil)) e (.sn mx (.c (.assign .none (Opd.func (ι:=(List Int)×Int×Int×((Arr 1 Int)×(Arr 1 Int))) (pre:=fun i=>Qs i.1 i.2.1 i.2.2.1=some i.2.2.2) (Ss:=fun i=>[rep i.1,rep i.2.1,rep i.2.2.1]) (S:=fun i=>zeZ i.2.2.2) znl (fun i h=>zqp h))) ?_)))))))))
     obtain⟨r3,hv29,h⟩:=bind_some h
     obtain⟨r4,hv30,h⟩:=bind_some h
     obtain⟨y1,hv31,h⟩:=zh h
     refine .nil (.sr [oo,oo,oo,oo,([5001],[]),oo,oo,oo,oo,oo,oo,oo,oo,([],[10]),([],[11]),([10],[10]),([11],[11])] mx (.mvA e (.mvA e (.cA (.nilCheckP .none (.s e)) (.cA (.fieldPtr .none Qf (.s e)) (.cA (.loadAt (k:=5001) .none y6 e (.s e) zof) (.faA zfN zf4 e (.ldA ty3 e (.faA zfP zf6 e (.ldA ty3 e (.cA (.callV (s1.ys,v6.top,v6.bottom,r3) .none (.s e) (fun _=>hv29) (.cons (.s e) (.cons (.s e) (.cons (.s e) .nil)))) (.mvA e (.exA e e (.exA e e (.al zbs e (.al zbs e (.st Ji e e e (.st Ji e e e (.nil (.freeze (t:=10) e e (.k2 11 5001 e e (.k2 5002 5003 e e .nil)) e (.freeze (t:=11) e e (.k2 5001 5002 e e (.k 5003 e .nil)) e (.sr [oo,oo,oo,oo,([5001],[]),oo,oo,oo,oo,oo,oo,oo,oo,([],[12]),([],[13]),([12],[12]),([13],[13])] mx (.mvA e (.mvA e (.cA (.nilCheckP .none (.s e)) (.cA (.fieldPtr .none vo (.s e)) (.cA (.loadAt (k:=5001) .none y6 e (.s e) zoe) (.faA zfM zf3 e (.ldA ty3 e (.faA zfO zf5 e (.ldA ty3 e (.cA (.callV (s1.xs,v6.left,v6.right,r4) .none (.s e) (fun _=>hv30) (.cons (.s e) (.cons (.s e) (.cons (.s e) .nil)))) (.mvA e (.exA e e (.exA e e (.al zbs e (.al zbs e (.st Ji e e e (.st Ji e e e (.nil (.freeze (t:=12) e e (.k2 13 5001 e e (.k2 5002 5003 e e .nil)) e (.freeze (t:=13) e e (.k2 5001 5002 e e (.k 5003 e .nil)) e (.seq (.sn mx (.c (.indexAddrA .none QA ty3 (.s e) .i (fun _=>by decide)) (.ld ty3 e (.ra hv31 e (.nil ?_))))))))))))))))))))))))))))))))))))))))))))))))
     obtain⟨j_32,h,hK32⟩:=bind_some h
     refine .thenJ (ι:=(List Bool)) (fun j_32=>[]) (fun j_32=>[(5003,some (zf.at s5003 (zk 4 j_32)))]) (fun s=>j_32=s) (.k4 3 4 11 12 e e e e (.k2 89 90 e e (.k 91 e .nil))) (.k2 5001 5002 e e .nil) ?_ (fun j_32' hj32=>?_)
     ·
      refine .block (.loopL h (fun s33_=>[(14,⟨True,rep s33_.1⟩)]) (fun s33_=>[(5003,some (zf.at s5003 (zk 4 s33_.2)))]) (.k 14 e .nil) (.k 5003 e .nil) (.k4 3 4 10 11 e e e e (.k4 12 13 89 90 e e e e (.k 91 e .nil))) (.k2 5001 5002 e e .nil) (fun s33_ o_33 h hD33=>?_))
      unfold J2 at h
      refine .seq (.sn mx (.mv e (.c (.indexAddrA .none QA ty3 (.s e) .i (fun _=>by decide)) (.ld ty3 e (.lt e e (.nil (.cb e h (fun _ h=>?_) fun _ h=>?_)))))))
      ·
       refine .skip (.then (.seq ?_))
       obtain⟨j_35,h,hK35⟩:=bind_some h
       refine .thenJ (ι:=(List Bool)) (fun j_35=>[]) (fun j_35=>[(5003,some (zf.at s5003 (zk 4 j_35)))]) (fun s=>j_35=s) (.k4 3 4 10 11 e e e e (.k4 12 13 14 89 e e e e (.k2 90 91 e e .nil))) (.k2 5001 5002 e e .nil) ?_ (fun j_35' hj35=>?_)
       ·
        obtain⟨x1,hv36,h⟩:=zh h
        refine .block (.sn mx (.c (.indexAddrA .none QA ty3 (.s e) .i (fun _=>by decide)) (.ld ty3 e (.ra hv36 e (.nil (.block (.loopL h (fun s37_=>[(15,⟨True,rep s37_.1⟩)]) (fun s37_=>[(5003,some (zf.at s5003 (zk 4 s37_.2)))]) (.k 15 e .nil) (.k 5003 e .nil) (.k4 3 4 10 11 e e e e (.k4 12 13 14 89 e e e e (.k2 90 91 e e .nil))) (.k2 5001 5002 e e .nil) (fun s37_ o_37 h hD37=>?_))))))))
        unfold zcD at h
        refine .seq (.sn mx (.mv e (.c (.indexAddrA .none QA ty3 (.s e) .i (fun _=>by decide)) (.ld ty3 e (.lt e e (.nil (.cb e h (fun _ h=>?_) fun _ h=>?_)))))))
        ·
         obtain⟨hn39,h⟩:=zr h
         obtain⟨c3,hv40,h⟩:=zh h
         obtain⟨x2,hv41,h⟩:=zh h
         exact .skip (.then (.seq (.block (.rg [oo,oo,oo,([5001],[]),oo,oo,oo,oo,oo,([5003],[]),([5003],[5003])] mx (.mvA e (.cA (.nilCheckP .none (.s e)) (.cA (.fieldPtr .none zbL (.s e)) (.cA (.loadAt (k:=5001) .none zac e (.s e) zga) (.mvA e (.mvA e (.cA (.mulW .none (.s e) (.s e)) (.mvA e (.addA e e (.ixO 5003 vU ty4 e e e hn39 (.cN (.storeElem0 (k:=5003) ty4 (.s e) e .bool hn39) (.nil (.blkNormal (.then (.reB (t:=5003) e (congrArg (fun y=>zf.at s5003 (zk 4 y)) hv40) (.rn mx (.mv e (.adi e (.ra hv41 e (.nil (zb.ag (za h))))))))))))))))))))))))))
        ·
         refine .exit (.thenExit (.thenExit (.blkExit (.blkNormal ?_))))
         replace h:=hD37 _ (za h)
         exact zb.j _ (za h)
       ·
        subst hj35;have h:=hK35;clear hK35
        obtain⟨y2,hv42,h⟩:=zh h
        exact .rn mx (.mv e (.adi e (.ra hv42 e (.nil (zb.ag (za h))))))
      ·
       refine .exit (.thenExit (.thenExit (.blkExit ?_)))
       replace h:=hD33 _ (za h)
       exact zb.j _ (za h)
     ·
      subst hj32;have h:=hK32;clear hK32
      obtain⟨x3,hv43,h⟩:=zh h
      refine .sn mx (.c (.indexAddrA .none QA ty3 (.s e) .i (fun _=>by decide)) (.ld ty3 e (.ra hv43 e (.nil (.block (.loopL h (fun s44_=>[(16,⟨True,rep s44_.1⟩)]) (fun s44_=>[(5002,some (zf.at s5002 (zk 4 s44_.2)))]) (.k 16 e .nil) (.k 5002 e .nil) (.k4 3 4 11 12 e e e e (.k2 89 90 e e (.k 91 e .nil))) (.k2 5001 5003 e e .nil) (fun s44_ o_44 h hD44=>?_)))))))
      unfold J3 at h
      refine .seq (.sn mx (.mv e (.c (.indexAddrA .none QA ty3 (.s e) .i (fun _=>by decide)) (.ld ty3 e (.lt e e (.nil (.cb e h (fun _ h=>?_) fun _ h=>?_)))))))
      ·
       refine .skip (.then (.seq ?_))
       obtain⟨j_46,h,hK46⟩:=bind_some h
       refine .thenJ (ι:=(List Bool)) (fun j_46=>[]) (fun j_46=>[(5002,some (zf.at s5002 (zk 4 j_46)))]) (fun s=>j_46=s) (.k4 3 4 11 12 e e e e (.k4 16 89 90 91 e e e e .nil)) (.k2 5001 5003 e e .nil) ?_ (fun j_46' hj46=>?_)
       ·
        obtain⟨y3,hv47,h⟩:=zh h
        refine .block (.sn mx (.c (.indexAddrA .none QA ty3 (.s e) .i (fun _=>by decide)) (.ld ty3 e (.ra hv47 e (.nil (.block (.loopL h (fun s48_=>[(17,⟨True,rep s48_.1⟩)]) (fun s48_=>[(5002,some (zf.at s5002 (zk 4 s48_.2)))]) (.k 17 e .nil) (.k 5002 e .nil) (.k4 3 4 11 12 e e e e (.k4 16 89 90 91 e e e e .nil)) (.k2 5001 5003 e e .nil) (fun s48_ o_48 h hD48=>?_))))))))
        unfold zcE at h
        refine .seq (.sn mx (.mv e (.c (.indexAddrA .none QA ty3 (.s e) .i (fun _=>by decide)) (.ld ty3 e (.lt e e (.nil (.cb e h (fun _ h=>?_) fun _ h=>?_)))))))
        ·
         obtain⟨hn50,h⟩:=zr h
         obtain⟨c4,hv51,h⟩:=zh h
         obtain⟨y4,hv52,h⟩:=zh h
         exact .skip (.then (.seq (.block (.rg [oo,oo,oo,([5001],[]),oo,oo,oo,oo,oo,([5002],[]),([5002],[5002])] mx (.mvA e (.cA (.nilCheckP .none (.s e)) (.cA (.fieldPtr .none zdh (.s e)) (.cA (.loadAt (k:=5001) .none zac e (.s e) zi6) (.mvA e (.mvA e (.cA (.mulW .none (.s e) (.s e)) (.mvA e (.addA e e (.ixO 5002 vU ty4 e e e hn50 (.cN (.storeElem0 (k:=5002) ty4 (.s e) e .bool hn50) (.nil (.blkNormal (.then (.reB (t:=5002) e (congrArg (fun y=>zf.at s5002 (zk 4 y)) hv51) (.rn mx (.mv e (.adi e (.ra hv52 e (.nil (zb.ag (za h))))))))))))))))))))))))))
        ·
         refine .exit (.thenExit (.thenExit (.blkExit (.blkNormal ?_))))
         replace h:=hD48 _ (za h)
         exact zb.j _ (za h)
       ·
        subst hj46;have h:=hK46;clear hK46
        obtain⟨x4,hv53,h⟩:=zh h
        exact .rn mx (.mv e (.adi e (.ra hv53 e (.nil (zb.ag (za h))))))
      ·
       refine .exit (.thenExit (.thenExit (.blkExit (.blkNormal ?_))))
       replace h:=hD44 _ (za h)
       exact zb.j _ (za h)
    ·
     subst hj26;have h:=hK26;clear hK26
     exact .rn mx (.adi e (.mv e (.nil (zb.ag (za h)))))
   ·
    refine .exit (.thenExit (.thenExit (.blkExit ?_)))
    replace h:=hD24 _ (za h)
    exact zb.j _ (za h)
  ·
   subst hj23;have h:=hK23;clear hK23
   refine .close (k:=5001) (g:=5002) (fun z=>zE 124 (⟨s1.xs,s1.ys,⟨s5003⟩,⟨z⟩⟩:jO)) e e e (.close (k:=5001) (g:=5003) (fun z=>zZ (fun z0=>zE 124 (⟨s1.xs,s1.ys,⟨z⟩,⟨z0⟩⟩:jO)) (zk 4 j_23.1)) e e e (.freezeAt (g:=5001) (S:=ref ({ s1 with across:=j_23.2,down:=j_23.1 }:yd)) (ts:=[3]) e (.cons (t:=3) e trivial .nil) ze.nil e (fun M D w h hms=>zik (mk:=(fun s1_ s2_=>(⟨s1.xs,s1.ys,⟨s1_⟩,⟨s2_⟩⟩:jO))) (y:=({ s1 with across:=j_23.2,down:=j_23.1 }:yd)) zdr zdr e (fun M s1_ s2_ cs w hc g1 g2=>by obtain⟨c0,q0,e0,h0,c1,q1,e1,h1,c2,q2,e2,h2,h3⟩:=hc;exact⟨c0,q0,e0,h0,c1,q1,e1,h1,c2,q2,e2,zaN e e h2 g1,zaN e e h3 g2⟩) M D w h hms) (.sn mx (.mv e (.asn e (.nil (.ret ?_)))))))
   obtain rfl:=za h
   exact zb.ret1 (.inl e) Tryz.results66 (zO.tmp e trivial Imp.refSome)
theorem zko {s1:yd}{p1:zd}{side1:Int}{r:zt}  (h:zbb s1 p1 side1=some r):zi Tryz.prog 68 [ref s1,rep p1,rep side1] (rep r):=by
 unfold zbb at h
 obtain⟨v1,hv1,h⟩:=zh h
 obtain⟨r1,hv2,h⟩:=bind_some h
 obtain⟨r2,hv3,h⟩:=bind_some h
 obtain⟨v2,hv4,h⟩:=zh h
 refine zi.i Tryz.func68 e Tryz.ntmps68 e (fun F=>(.sr [oo,([],[6])] mx (.cA (.box .none (.s e)) (.al zhH e (.nil (.reB (t:=6) e (congrArg (zE 119) hv1) (.nameBox (t:=6) (g:=5001) e e (fun m5001=>(.sn mx (.mv e (.c (.nilCheckR .none (.s e)) (.fa vo Qi e (.ld y6 e (.fa yt yu e (.ld ty3 e (.c (.call .none (Jf hv2) (.cons (.s e) (.cons (.s e) .nil))) (.mv e (.ex e e (.ex e e (.asn e (.asn e (.nil (.sn mx (.mv e (.c (.nilCheckR .none (.s e)) (.fa Qf Yh e (.ld y6 e (.fa yV yW e (.ld ty3 e (.c (.call .none (Jf hv3) (.cons (.s e) (.cons (.s e) .nil))) (.mv e (.ex e e (.ex e e (.asn e (.asn e (.nil (.sr [oo,oo,oo,oo,([5001],[5001])] mx (.mvA e (.mvA e (.mvA e (.cA (.re hv4 (.buildF (y:=(⟨r1.1,r2.1,side1⟩:zt)) .none zh4 zlk e (.cons (.s e) (.cons (.s e) (.cons (.s e) .nil))) (.cons e zkC (.cons e zkD (.cons e zkE .nil))))) (.s0 5001 yO e e e (.nil (.fb 5001 [6] e (.cons (t:=6) e trivial .nil) (.ret ?_)))))))))))))))))))))))))))))))))))))))))))))
 obtain rfl:=za h
 exact zb.ret1 (.inl e) Tryz.results68 (zO.cellR yO e trivial Imp.refl)
theorem zgV {side1:Int}{r:Int}  (h:YA side1=some r):zi Tryz.prog 69 [rep side1] (rep r):=by
 unfold YA at h
 refine zi.i Tryz.func69 e Tryz.ntmps69 e (fun F=>(.sn mx (.asi (.nil (.sn mx (.mv e (.adi e (.c (.rem .none (.s e) .i (fun _=>by decide)) (.adi e (.asn e (.nil (.ret ?_))))))))))))
 obtain rfl:=za h
 exact zb.rt Tryz.results69 e
theorem zkn {s1:yd}{p1:zt}{r:Int}  (h:J5 s1 p1=some r):zi Tryz.prog 113 [ref s1,rep p1] (rep r):=by
 unfold J5 at h
 refine zi.i Tryz.func113 e Tryz.ntmps113 e (fun F=>(.sn mx (.c (.box .none (.s e)) (.asi (.nil (.sn mx (.fa vn vt e (.ld ty3 e (.mv e (.c (.nilCheckR .none (.s e)) (.fa vo Qi e (.ld y6 e (.ln yl e (.c (.mulW .none (.s e) (.s e)) (.fa vm vr e (.ld ty3 e (.add e e (.c (.mulW .none (.s e) .i) (.fa Jv JA e (.ld ty3 e (.add e e (.c (.subW .none (.s e) .i) (.asn e (.nil (.ret ?_)))))))))))))))))))))))))
 obtain rfl:=za h
 exact zb.rt Tryz.results113 e
theorem zqs {q1:(List zF)}{x1:zF}{r:(List zF)}{m13:Nat}{s14:Value}(h:zeK q1 x1=some r):yh Tryz.prog 193 [isV (ptr m13 0),vb 166 (rep x1)] [(ptr m13 0,zE 164 (⟨s14⟩:Raw)),(s14,zk 166 q1)] (yj) [some (zZ (fun z0=>zE 164 (⟨z0⟩:Raw)) (zk 166 r)),none]:=by
 unfold zeK at h
 obtain⟨hn1,h⟩:=zr h
 refine yh.i Tryz.func193 e Tryz.ntmps193 e (fun F=>(.rg [oo,oo,oo,([13],[]),oo,oo,oo,([14],[11,14]),oo,([13,11],[13,11])] mx (.mvA e (.mvA e (.cA (.nilCheckP .none (.s e)) (.cA (.loadAt0 (k:=13) .none Qw e (.s e)) (.mvA e (.cA (.assertV .none zdV (.s e)) (.cA (.buildSlice (xs:=[_]) .none jq qa zi7 (.cons (.s e) .nil) e (by decide)) (.cW (.append (k:=14) zqg e (.told (.s e) e) (.s e) hn1) (.cA (.nilCheckP .none (.s e)) (.cN (.storeRow (k:=13) (t:=11) (set:=fun _ z=>z) zle e (.s e) .self e e) (.nil ?_)))))))))))))
 obtain rfl:=za h
 exact zb.ret0O (.inr e) [13,14] Tryz.results193 (by decide) (.held e (.skip .nil))
theorem zg0 {q1:(List zF)}{r:Int}  (h:Ja q1=some r):zi Tryz.prog 115 [rep q1] (rep r):=by
 unfold Ja at h
 refine zi.i Tryz.func115 e Tryz.ntmps115 e (fun F=>(.sn mx (.asi (.nil (.sn mx (.mv e (.ln jq e (.asn e (.nil (.ret ?_))))))))))
 obtain rfl:=za h
 exact zb.rt Tryz.results115 e
theorem zg1 {q1:(List zF)}{i1:Int}{j1:Int}{r:Bool}  (h:Qt q1 i1 j1=some r):zi Tryz.prog 191 [rep q1,rep i1,rep j1] (rep r):=by
 unfold Qt at h
 obtain⟨hn1,h⟩:=zr h
 obtain⟨hn2,h⟩:=zr h
 refine zi.i Tryz.func191 e Tryz.ntmps191 e (fun F=>(.sn mx (.asb (.nil (.seq (.sn mx (.mv e (.mv e (.ix jq qa e e hn1 (.fa QC QH e (.ld ty3 e (.mv e (.mv e (.ix jq qa e e hn2 (.fa QC QH e (.ld ty3 e (.c (.neI .none (.s e) (.s e)) (.nil (.cb e h (fun _ h=>?_) fun _ h=>?_)))))))))))))))))))
 ·
  obtain⟨hn4,h⟩:=zr h
  obtain⟨hn5,h⟩:=zr h
  refine .sn mx (.mv e (.mv e (.ix jq qa e e hn4 (.fa QC QH e (.ld ty3 e (.mv e (.mv e (.ix jq qa e e hn5 (.fa QC QH e (.ld ty3 e (.lt e e (.asn e (.nil (.ret (.thenRet ?_)))))))))))))))
  obtain rfl:=za h
  exact zb.rt Tryz.results191 e
 ·
  obtain⟨hn6,h⟩:=zr h
  obtain⟨hn7,h⟩:=zr h
  refine .skip (.then (.sn mx (.mv e (.mv e (.ix jq qa e e hn6 (.fa zas zaz e (.ld ty3 e (.mv e (.mv e (.ix jq qa e e hn7 (.fa zas zaz e (.ld ty3 e (.lt e e (.asn e (.nil (.ret ?_))))))))))))))))
  obtain rfl:=za h
  exact zb.rt Tryz.results191 e
theorem zg2 {q1:(List zF)}{i1:Int}{j1:Int}{r:(List zF)}{s20:Value}(h:J4 q1 i1 j1=some r):yh Tryz.prog 194 [isV s20,rep i1,rep j1] [(s20,zk 166 q1)] (yj) [some (zk 166 r)]:=by
 unfold J4 at h
 obtain⟨hn1,h⟩:=zr h
 obtain⟨v1,hv2,h⟩:=zh h
 obtain⟨hn3,h⟩:=zr h
 obtain⟨v2,hv4,h⟩:=zh h
 obtain⟨hn5,h⟩:=zr h
 obtain⟨hn6,h⟩:=zr h
 refine yh.i Tryz.func194 e Tryz.ntmps194 e (fun F=>(.rg [oo,oo,oo,oo,oo,oo,([20],[]),([20],[]),oo,oo,([20],[]),([20],[]),([20],[]),([20],[20]),([20],[]),([20],[20])] mx (.mvA e (.mvA e (.mvA e (.mvA e (.mvA e (.mvA e (.ixO 20 jq qa e e e hn1 (.cA (.re hv2 (.loadElem0 (k:=20) .none qa (.s e) e (fun _=>hn1))) (.mvA e (.mvA e (.ixO 20 jq qa e e e hn3 (.cA (.re hv4 (.loadElem0 (k:=20) .none qa (.s e) e (fun _=>hn3))) (.ixO 20 jq qa e e e hn5 (.cN (.storeElem0 (k:=20) qa (.s e) e (.s e) hn5) (.ixO 20 jq qa e e e hn6 (.cN (.storeElem0 (k:=20) qa (.s e) e (.s e) hn6) (.nil ?_)))))))))))))))))))
 obtain rfl:=za h
 exact zb.ret0O (.inr e) [20] Tryz.results194 (by decide) (.held e .nil)
theorem zn6 {h1:(List zF)}{j1:Int}{r:(List zF)}{m23:Nat}{s24:Value}(h:zbV h1 j1=some r):yh Tryz.prog 135 [vb 163 (isV (ptr m23 0)),rep j1] [(ptr m23 0,zE 164 (⟨s24⟩:Raw)),(s24,zk 166 h1)] (yj) [some (zZ (fun z0=>zE 164 (⟨z0⟩:Raw)) (zk 166 r)),none]:=by
 unfold zbV at h
 refine yh.i Tryz.func135 e Tryz.ntmps135 e (fun F=>(.block (.loopL h (fun s1_=>[(1,⟨True,rep s1_.1⟩)]) (fun s1_=>[(24,some (zf.at s24 (zk 166 s1_.2)))]) (.k 1 e .nil) (.k 24 e .nil) (.k 0 e .nil) (.k 23 e .nil) (fun s1_ o_1 h hD1=>?_))))
 unfold zdB at h
 obtain⟨i1,hv2,h⟩:=zh h
 obtain⟨r1,hv3,h⟩:=bind_some h
 refine .block (.sn mx (.mv e (.c (.subW .none (.s e) .i) (.c (.quo .none (.s e) .i (fun _=>by decide)) (.ra hv2 e (.nil (.seq (.sr [oo,oo,oo,oo,oo,oo,oo,([23,24],[]),oo,oo] mx (.mvA e (.mvA e (.cA (.eqI .none (.s e) (.s e)) (.mvA e (.cA (.move (.at e e) (.s e)) (.cA (.move (.at e e) (.s e)) (.cA (.move (.at e e) (.s e)) (.cA (.invokeC (k:=23) (q:=24) (.at e e) zgr Tryz.underlying163 Qw (.tmp e id) e e zfW (fun hg=>zg1 ((fun hg=>yC hv3 ((qD hg.2))) hg)) .rep (.cons (.tmp e id) (.cons (.tmp e id) .nil))) (.cA (.not (.at e e) (.tmp e id)) (.cA (.pickOr .none (.s e) (.tmp e id)) (.nil (.cb e h (fun _ h=>?_) fun _ h=>?_))))))))))))))))))))
 ·
  refine .exit (.thenExit (.blkExitNe (by decide) (.thenExit (.blkExit (.close (k:=23) (g:=24) (fun z=>zE 164 (⟨z⟩:Raw)) e e e ?_)))))
  replace h:=hD1 _ (za h)
  obtain rfl:=za h
  exact zb.ret0O (.inr e) [23,24] Tryz.results135 (by decide) (.held e (.skip .nil))
 ·
  obtain⟨r2,hv5,h⟩:=bind_some h
  exact .skip (.then (.sr [oo,oo,oo,([23,24],[24])] mx (.mvA e (.mvA e (.mvA e (.cW (.invokeOV (k:=23) [24] zgs Tryz.underlying163 Qw (.s e) e (zg2 hv5) (.cons (.s e) (.cons (.s e) .nil)) (.cons (k:=24) e .nil) e (by decide) (by decide) (by intro d h;cases h;decide)) (.nil (.rn mx (.mv e (.asn e (.nil (.blkNormal (zb.ag (za h))))))))))))))
theorem zn4 {h1:(List zF)}{x1:zF}{r:(List zF)}{m12:Nat}{s13:Value}(h:zbT h1 x1=some r):yh Tryz.prog 114 [vb 163 (isV (ptr m12 0)),vb 166 (rep x1)] [(ptr m12 0,zE 164 (⟨s13⟩:Raw)),(s13,zk 166 h1)] (yj) [some (zZ (fun z0=>zE 164 (⟨z0⟩:Raw)) (zk 166 r)),none]:=by
 unfold zbT at h
 obtain⟨r1,hv1,h⟩:=bind_some h
 refine yh.i Tryz.func114 e Tryz.ntmps114 e (fun F=>(.sr [oo,oo,([12,13],[12,13])] mx (.mvA e (.mvA e (.cW (.invokeO [12,13] zoP Tryz.underlying163 (.s e) (zqs hv1) (.cons (.s e) .nil) (.cons (k:=12) e (.cons (k:=13) e .nil)) e (by decide) (by decide) (by intro d h;cases h;decide)) ?_)))))
 obtain⟨r2,hv2,h⟩:=bind_some h
 obtain⟨r3,hv3,h⟩:=bind_some h
 refine .nil (.open (k:=12) (g:=5001) e e (fun s5001=>(.rg [oo,oo,([12,5001],[]),oo,([12,5001],[12,5001])] mx (.mvA e (.mvA e (.cA (.invokeC (k:=12) (q:=5001) .none zjs Tryz.underlying163 Qw (.s e) e e zfV (fun hg=>zg0  hv2) .rep .nil) (.cA (.subW .none (.s e) .i) (.cW (.cO [12,5001] (zn6 hv3) (.cons (.s e) (.cons (.s e) .nil)) (.cons (k:=12) e (.cons (k:=5001) e .nil)) e) (.nil ?_)))))))))
 obtain rfl:=za h
 exact zb.ret0O (.inr e) [12,13] Tryz.results114 (by decide) (.held e (.skip .nil))
theorem zg3 {r1:zF}{by1:Int}{c0_1:(Option yd)}{c1_1:(List Bool)}{c2_1:(List zF)}{c3_1:(List Int)}{c4_1:(List zF)}{r:((List Bool)×(List zF)×(List Int)×(List zF))}{m64:Nat}{s65:Value}{m66:Nat}{s67:Value}{m68:Nat}{s69:Value}{m70:Nat}{s71:Value}(h:Qu r1 by1 c0_1 c1_1 c2_1 c3_1 c4_1=some r):yh Tryz.prog 112 [rep r1,rep by1,ref c0_1,isV (ptr m64 0),isV (ptr m66 0),isV (ptr m68 0),ref (⟨ptr m70 0⟩:Raw)] [(ptr m64 0,zE 122 (⟨s65⟩:Raw)),(s65,zk 4 c1_1),(ptr m66 0,zE 162 (⟨s67⟩:Raw)),(s67,zk 166 c2_1),(ptr m68 0,zE 79 (⟨s69⟩:Raw)),(s69,zk 3 c3_1),(ptr m70 0,zE 164 (⟨s71⟩:Raw)),(s71,zk 166 c4_1)] (yj) [some (zZ (fun z0=>zE 122 (⟨z0⟩:Raw)) (zk 4 r.1)),none,some (zZ (fun z0=>zE 162 (⟨z0⟩:Raw)) (zk 166 r.2.1)),none,some (zZ (fun z0=>zE 79 (⟨z0⟩:Raw)) (zk 3 r.2.2.1)),none,some (zZ (fun z0=>zE 164 (⟨z0⟩:Raw)) (zk 166 r.2.2.2)),none]:=by
 unfold Qu at h
 obtain⟨p1,hv1,h⟩:=bind_some h
 obtain⟨k1,hv2,h⟩:=bind_some h
 obtain⟨hn3,h⟩:=zr h
 obtain⟨hn4,h⟩:=zr h
 obtain⟨hn5,h⟩:=zr h
 obtain⟨hn6,h⟩:=zr h
 refine yh.i Tryz.func112 e Tryz.ntmps112 e (fun F=>(.sn mx (.c (.box .none (.s e)) (.nil (.sn mx (.c (.isRef hv1 (.load .none zcV (.s e))) (.fa QB QG e (.ld yO e (.c (.call .none (zkn hv2) (.cons (.s e) (.cons (.s e) .nil))) (.asn e (.nil (.seq (.sr [([64],[]),oo,([65],[]),([65],[]),oo,([66],[]),oo,([67],[]),([67],[]),([67],[]),oo,oo,oo,oo,([66],[]),oo,([67],[]),([67],[]),([67],[]),oo,oo,oo,oo,([66],[]),oo,([67],[]),([67],[]),([67],[]),oo,oo,oo,oo,oo,oo] mx (.cA (.loadAt0 (k:=64) .none zac e (.s e)) (.mvA e (.ixO 65 vU ty4 e e e hn3 (.cA (.loadElem0 (k:=65) .none ty4 (.s e) e (fun _=>hn3)) (.mvA e (.cA (.loadAt0 (k:=66) (.at e e) Jh e (.s e)) (.cA (.move (.at e e) (.s e)) (.cA (.indexAddrO (k:=67) (.at e e) YC qa (.tmp e id) e (.tmp e id) (fun hg=>hn4 hg.2)) (.cA (.fieldElem (k:=67) (.at e e) QC (.tmp e id) e (fun hg=>hn4 hg.2)) (.cA (.loadElem (k:=67) (.at e e) ty3 (.tmp e id) e QH (fun hg=>hn4 hg.2)) (.cA (.fieldAddr (.at e e) QC QH (.s e)) (.cA (.load (.at e e) ty3 (.tmp e id)) (.cA (.lt (.at e e) (.tmp e id) (.tmp e id)) (.cA (.move (.at e e) (.tmp e id)) (.cA (.loadAt0 (k:=66) (.at e e) Jh e (.s e)) (.cA (.move (.at e e) (.s e)) (.cA (.indexAddrO (k:=67) (.at e e) YC qa (.tmp e id) e (.tmp e id) (fun hg=>hn5 hg.1.2 hg.2)) (.cA (.fieldElem (k:=67) (.at e e) QC (.tmp e id) e (fun hg=>hn5 hg.1.2 hg.2)) (.cA (.loadElem (k:=67) (.at e e) ty3 (.tmp e id) e QH (fun hg=>hn5 hg.1.2 hg.2)) (.cA (.fieldAddr (.at e e) QC QH (.s e)) ?_)))))))))))))))))))))))))))))))))
 refine .cA (.load (.at e e) ty3 (.tmp e id)) (.cA (.eqI (.at e e) (.tmp e id) (.tmp e id)) (.cA (.move (.at e e) (.tmp e id)) (.cA (.loadAt0 (k:=66) (.at e e) Jh e (.s e)) (.cA (.move (.at e e) (.s e)) (.cA (.indexAddrO (k:=67) (.at e e) YC qa (.tmp e id) e (.tmp e id) (fun hg=>hn6 hg.1.1.2 hg.1.2 hg.2)) (.cA (.fieldElem (k:=67) (.at e e) zas (.tmp e id) e (fun hg=>hn6 hg.1.1.2 hg.1.2 hg.2)) (.cA (.loadElem (k:=67) (.at e e) ty3 (.tmp e id) e zaz (fun hg=>hn6 hg.1.1.2 hg.1.2 hg.2)) (.cA (.fieldAddr (.at e e) zas zaz (.s e)) (.cA (.load (.at e e) ty3 (.tmp e id)) (.cA (.le (.at e e) (.tmp e id) (.tmp e id)) (.cA (.pickAnd (.at e e) (.tmp e id) (.tmp e id)) (.cA (.pickOr (.at e e) (.tmp e id) (.tmp e id)) (.cA (.pickAnd .none (.s e) (.tmp e id)) (.nil (.cb e h (fun _ h=>?_) fun _ h=>?_)))))))))))))))
 ·
  refine .ret (.thenRet (.close (k:=64) (g:=65) (fun z=>zE 122 (⟨z⟩:Raw)) e e e (.close (k:=66) (g:=67) (fun z=>zE 162 (⟨z⟩:Raw)) e e e (.close (k:=68) (g:=69) (fun z=>zE 79 (⟨z⟩:Raw)) e e e (.close (k:=70) (g:=71) (fun z=>zE 164 (⟨z⟩:Raw)) e e e ?_)))))
  obtain rfl:=za h
  exact zb.ret0O (.inl e) [64,65,66,67,68,69,70,71] Tryz.results112 (by decide) (.held e (.skip (.held e (.skip (.held e (.skip (.held e (.skip .nil))))))))
 ·
  obtain⟨hn8,h⟩:=zr h
  obtain⟨hn9,h⟩:=zr h
  obtain⟨hn10,h⟩:=zr h
  obtain⟨c1,hv11,h⟩:=zh h
  obtain⟨c2,hv12,h⟩:=zh h
  obtain⟨c3,hv13,h⟩:=zh h
  obtain⟨r2,hv14,h⟩:=bind_some h
  refine .skip (.then (.sr [([66],[]),oo,([68],[]),oo,([64],[]),oo,oo,oo,([67],[]),([67],[67]),([69],[]),([69],[69]),([65],[]),([65],[65])] mx (.cA (.loadAt0 (k:=66) .none Jh e (.s e)) (.mvA e (.cA (.loadAt0 (k:=68) .none zla e (.s e)) (.mvA e (.cA (.loadAt0 (k:=64) .none zac e (.s e)) (.mvA e (.ldA qa e (.mvA e (.ixO 67 YC qa e e e hn8 (.cN (.storeElem0 (k:=67) qa (.s e) e (.s e) hn8) (.ixO 69 yl ty3 e e e hn9 (.cN (.storeElem0 (k:=69) ty3 (.s e) e (.s e) hn9) (.ixO 65 vU ty4 e e e hn10 (.cN (.storeElem0 (k:=65) ty4 (.s e) e .bool hn10) (.nil (.reB (t:=65) e (congrArg (fun y=>zf.at s65 (zk 4 y)) hv11) (.reB (t:=67) e (congrArg (fun y=>zf.at s67 (zk 166 y)) hv12) (.reB (t:=69) e (congrArg (fun y=>zf.at s69 (zk 3 y)) hv13) (.rg [oo,oo,oo,oo,([70,71],[70,71])] mx (.ldA zeY e (.cA (.mkIface .none zjE (.s e)) (.ldA qa e (.cA (.mkIface .none zdV (.s e)) (.cW (.cO [70,71] (zn4 hv14) (.cons (.s e) (.cons (.s e) .nil)) (.cons (k:=70) e (.cons (k:=71) e .nil)) e) (.nil (.close (k:=64) (g:=65) (fun z=>zE 122 (⟨z⟩:Raw)) e e e (.close (k:=66) (g:=67) (fun z=>zE 162 (⟨z⟩:Raw)) e e e (.close (k:=68) (g:=69) (fun z=>zE 79 (⟨z⟩:Raw)) e e e ?_))))))))))))))))))))))))))))))
  obtain rfl:=za h
  exact zb.ret0O (.inr e) [64,65,66,67,68,69,70,71] Tryz.results112 (by decide) (.held e (.skip (.held e (.skip (.held e (.skip (.held e (.skip .nil))))))))
theorem zn5 {h1:(List zF)}{i0_1:Int}{n1:Int}{r:(Bool×(List zF))}{m48:Nat}{s49:Value}(h:zbU h1 i0_1 n1=some r):yh Tryz.prog 136 [vb 163 (isV (ptr m48 0)),rep i0_1,rep n1] [(ptr m48 0,zE 164 (⟨s49⟩:Raw)),(s49,zk 166 h1)] (rep r.1) [some (zZ (fun z0=>zE 164 (⟨z0⟩:Raw)) (zk 166 r.2)),none]:=by
 unfold zbU at h
 refine yh.i Tryz.func136 e Tryz.ntmps136 e (fun F=>(.sn mx (.asb (.nil (.sn mx (.mv e (.asn e (.nil (.seq ?_)))))))))
 obtain⟨j_1,h,hK1⟩:=bind_some h
 refine .thenJ (ι:=(Int×(List zF))) (fun j_1=>[(7,⟨True,rep j_1.1⟩)]) (fun j_1=>[(49,some (zf.at s49 (zk 166 j_1.2)))]) (fun s=>j_1=s) (.k 1 e .nil) (.k 48 e .nil) ?_ (fun j_1' hj1=>?_)
 ·
  refine .block (.loopL h (fun s2_=>[(7,⟨True,rep s2_.1⟩)]) (fun s2_=>[(49,some (zf.at s49 (zk 166 s2_.2)))]) (.k 7 e .nil) (.k 49 e .nil) (.k2 0 1 e e (.k 2 e .nil)) (.k 48 e .nil) (fun s2_ o_2 h hD2=>?_))
  unfold zdA at h
  obtain⟨j1_1,hv3,h⟩:=zh h
  refine .block (.sn mx (.mv e (.c (.mulW .none .i (.s e)) (.adi e (.ra hv3 e (.nil (.seq (.sn mx (.mv e (.mv e (.c (.ge .none (.s e) (.s e)) (.mv e (.mg e e e (.c (.lt (.at e e) (.tmp e id) .i) (.po e e (.nil (.cb e h (fun _ h=>?_) fun _ h=>?_)))))))))))))))))
  ·
   refine .exit (.thenExit (.blkExitNe (by decide) (.thenExit (.blkExit ?_))))
   replace h:=hD2 _ (za h)
   exact zb.j _ (za h)
  ·
   obtain⟨j2_1,hv5,h⟩:=zh h
   obtain⟨r1,hv6,h⟩:=bind_some h
   refine .skip (.then (.sn mx (.mv e (.asn e (.nil (.seq (.sn mx (.mv e (.adi e (.ra hv5 e (.nil (.sr [oo,oo,oo,oo,oo,oo,oo,([48,49],[]),oo] mx (.mvA e (.mvA e (.cA (.lt .none (.s e) (.s e)) (.mvA e (.cA (.move (.at e e) (.s e)) (.cA (.move (.at e e) (.s e)) (.cA (.move (.at e e) (.s e)) (.cA (.invokeC (k:=48) (q:=49) (.at e e) zgr Tryz.underlying163 Qw (.tmp e id) e e zfW (fun hg=>zg1 ((fun hg=>yC hv6 (hg.2)) hg)) .rep (.cons (.tmp e id) (.cons (.tmp e id) .nil))) (.cA (.pickAnd .none (.s e) (.tmp e id)) (.nil ?_))))))))))))))))))))))
   obtain⟨j_7,h,hK7⟩:=bind_some h
   refine .thenJ (ι:=Int) (fun j_7=>[(9,⟨True,rep j_7⟩)]) (fun j_7=>[]) (fun s=>j_7=s) (.k4 0 1 2 7 e e e e .nil) (.k2 48 49 e e .nil) ?_ (fun j_7' hj7=>?_)
   ·
    refine .cb e h (fun _ h=>?_) fun _ h=>?_
    ·
     exact .rn mx (.mv e (.asn e (.nil (zb.j _ (za h)))))
    ·
     exact .skip (zb.j _ (za h))
   ·
    subst hj7;have h:=hK7;clear hK7
    obtain⟨r2,hv9,h⟩:=bind_some h
    refine .seq (.sr [oo,oo,oo,([48,49],[]),oo] mx (.mvA e (.mvA e (.mvA e (.cA (.invokeC (k:=48) (q:=49) .none zgr Tryz.underlying163 Qw (.s e) e e zfW (fun hg=>zg1  hv9) .rep (.cons (.s e) (.cons (.s e) .nil))) (.cA (.not .none (.s e)) (.nil (.cb e h (fun _ h=>?_) fun _ h=>?_))))))))
    ·
     refine .exit (.thenExit (.blkExitNe (by decide) (.thenExit (.blkExit ?_))))
     replace h:=hD2 _ (za h)
     exact zb.j _ (za h)
    ·
     obtain⟨r3,hv11,h⟩:=bind_some h
     exact .skip (.then (.sr [oo,oo,oo,([48,49],[49])] mx (.mvA e (.mvA e (.mvA e (.cW (.invokeOV (k:=48) [49] zgs Tryz.underlying163 Qw (.s e) e (zg2 hv11) (.cons (.s e) (.cons (.s e) .nil)) (.cons (k:=49) e .nil) e (by decide) (by decide) (by intro d h;cases h;decide)) (.nil (.rn mx (.mv e (.asn e (.nil (.blkNormal (zb.ag (za h))))))))))))))
 ·
  subst hj1;have h:=hK1;clear hK1
  refine .sn mx (.mv e (.mv e (.c (.gt .none (.s e) (.s e)) (.asn e (.nil (.ret (.close (k:=48) (g:=49) (fun z=>zE 164 (⟨z⟩:Raw)) e e e ?_)))))))
  obtain rfl:=za h
  exact zb.ret1O (.inl e) [48,49] Tryz.results136 (by decide) (.held e (.skip .nil)) (zO.tmp e trivial Imp.refl)
end Go.Proofs.YtmfcdppbnbfpjaaGreatDoor
