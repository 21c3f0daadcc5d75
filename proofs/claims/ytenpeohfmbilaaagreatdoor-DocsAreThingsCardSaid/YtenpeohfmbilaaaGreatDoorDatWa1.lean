/- A part of the proof. -/
import Derived.Test.YtenpeohfmbilaaaGreatDoorDatFa
set_option maxRecDepth 100000
set_option linter.unusedSimpArgs false
set_option linter.unusedVariables false
namespace Go.Proofs.YtenpeohfmbilaaaGreatDoor
open Go Go.DB Go.RowKit
theorem znk {s:Str}{r:Bool}(h:utf8_ValidString s=some r):zk Tryz.prog 98 [rep s] (rep r):=by
 obtain rfl:=za h
 exact zuH znl o o o zp9
theorem QV {n:Int}{r:Str}(h:strconv_Itoa n=some r):zk Tryz.prog 21 [rep n] (rep r):=by
 obtain⟨hn,h⟩:=zo h
 obtain rfl:=za h
 exact zqH zqI o o zgT hn
theorem strconv_Atoi_ok {s:Str}{r:Int×Q0}(h:QC s=some r):zk Tryz.prog 100 [rep s] (tup [rep r.1,rep r.2]):=by
 obtain⟨hn,h⟩:=zo h
 obtain rfl:=za h
 exact zok zol o o o zpA hn
theorem zbB {s sep:Str}{r:List Str}(h:strings_Split s sep=some r):ya Tryz.prog 99 [rep s,rep sep] [] (z7) [some (zq 9 r)]:=by
 obtain⟨hn,h⟩:=zo h
 obtain rfl:=za h
 exact zt3 zt4 (by kernel_rfl) o o o zqa hn.1 hn.2
theorem zfV {s:Str}{r:List Str}(h:vU s=some r):ya Tryz.prog 86 [rep s] [] (z7) [some (zq 9 r)]:=by
 obtain⟨hn,h⟩:=zo h
 obtain rfl:=za h
 exact zpy zjH (by kernel_rfl) (by kernel_rfl) (by kernel_rfl) o o o o zp6 hn
theorem zmZ {s cs:Str}{r:Str}(h:zaf s cs=some r):zk Tryz.prog 128 [rep s,rep cs] (rep r):=by
 obtain⟨hn,h⟩:=zo h
 obtain rfl:=za h
 exact zuA zuB (by kernel_rfl) o zgS hn
theorem zt8 {s sep:Str}{r:Int}(h:strings_Compare s sep=some r):zk Tryz.prog 77 [rep s,rep sep] (rep r):=by
 obtain rfl:=za h
 exact zoG zbM o zpZ
theorem zmX {l:List Str}{sep:Str}{r:Str}(h:strings_Join l sep=some r):zk Tryz.prog 73 [rep l,rep sep] (rep r):=by
 obtain⟨hn,h⟩:=zo h
 obtain rfl:=za h
 exact zqQ zqS zqR o zpW hn
theorem zsM {m1:zh}{c0_1:zh}{r:Bool}  (h:zc5 m1 c0_1=some r):zk Tryz.prog 56 [rep m1,ref c0_1] (rep r):=by
 unfold zc5 at h
 refine zk.i Tryz.func56 o Tryz.ntmps56 o (fun F=>(.sn mx (.c (.box .none (.s o)) (.asb (.nil (.sn mx (.fa qI qJ o (.ld ty9 o (.fa qI qJ o (.ld ty9 o (.c (.eqS .none (yy Tryz.underlying9) (.s o) (.s o)) (.asn o (.nil (.ret ?_))))))))))))))
 obtain rfl:=za h
 exact zb.rt Tryz.results56 o
theorem zmI {s1:(List zh)}{f1:(zh→Option Bool)}{r:Int}  (h:zbw s1 f1=some r):zk Tryz.prog 109 [rep s1,fn1 Tryz.prog (rep (α:=Bool)) f1] (rep r):=by
 unfold zbw at h
 refine zk.i Tryz.func109 o Tryz.ntmps109 o (fun F=>(.sn mx (.asi (.nil (.seq (.sn mx (.mv o (.ln yh o (.mvi (.nil ?_))))))))))
 obtain⟨o_1,h,hK1⟩:=ym h
 refine .tJ (fun s=>o_1=Res.nx s) Sub.nil zd.nil ?_ (fun j_1 hj1=>?_)
 ·
  refine .block (.rforEL h (fun p2_=>[(8,⟨True,rep p2_.1⟩)]) (fun p2_=>[]) (.k 8 o .nil) zd.nil (.k2 0 1 o o (.k 7 o .nil)) zd.nil (fun p2_ o_2 h hD2=>(.sn mx (.lt o o (.nil (.seq (.cb o h (fun _ h=>?_) fun _ h=>?_)))))))
  ·
   refine .skip (.then (.seq ?_))
   obtain⟨o_4,h,hK4⟩:=yB h
   unfold zhS at h
   refine .tJ (fun s=>o_4=Res.nx s) (.k4 0 1 7 8 o o o o .nil) zd.nil ?_ (fun j_4 hj4=>?_)
   ·
    obtain⟨hn5,h⟩:=zo h
    obtain⟨r1,hv6,h⟩:=bind_some h
    refine .block (.sn mx (.mv o (.asn o (.nil (.sn mx (.mv o (.mv o (.mv o (.ix yh zJ o o hn5 (.ld zJ o (.c (.callV (gx s1 p2_.1,r1) .none (.s o) (fun _=>hv6) (.cons (.s o) .nil)) (.nil (.cb o h (fun _ h=>?_) fun _ h=>?_)))))))))))))
    ·
     refine .sn mx (.mv o (.asn o (.nil (.ret (.blkRet (.thenRet (.thenRet (.blkRet (.thenRet ?_)))))))))
     replace h:=yf hK4 (za h)
     replace h:=hD2 _ (za h)
     replace h:=z8 hK1 (za h)
     obtain rfl:=za h
     exact zb.rt Tryz.results109 o
    ·
     exact .skip (.blkNormal (zb.j _ (za h)))
   ·
    have h:=yD hK4 hj4
    exact .rn mx (.adi o (.mv o (.nil (zb.ag (za h)))))
  ·
   refine .exit (.thenExit (.thenExit (.blkExit ?_)))
   replace h:=hD2 _ (za h)
   exact zb.j _ (za h)
 ·
  have h:=yn hK1 hj1
  refine .sn mx (.asi (.nil (.ret ?_)))
  obtain rfl:=za h
  exact zb.rt Tryz.results109 o
theorem ztx {s1:(List zh)}{f1:(zh→Option Bool)}{r:Bool}  (h:zdd s1 f1=some r):zk Tryz.prog 55 [rep s1,fn1 Tryz.prog (rep (α:=Bool)) f1] (rep r):=by
 unfold zdd at h
 obtain⟨r1,hv1,h⟩:=bind_some h
 refine zk.i Tryz.func55 o Tryz.ntmps55 o (fun F=>(.sn mx (.asb (.nil (.sn mx (.mv o (.mv o (.c (.call .none (zmI hv1) (.cons (.s o) (.cons (.s o) .nil))) (.c (.ge .none (.s o) .i) (.asn o (.nil (.ret ?_))))))))))))
 obtain rfl:=za h
 exact zb.rt Tryz.results55 o
theorem zcQ {s1:Str}{r:Bool}  (h:QR s1=some r):zk Tryz.prog 45 [rep s1] (rep r):=by
 unfold QR at h
 refine zk.i Tryz.func45 o Tryz.ntmps45 o (fun F=>(.sn mx (.asb (.nil (.seq (.sn mx (.mv o (.c (.lenStr .none Tryz.underlying9 (.s o)) (.mvi (.nil ?_))))))))))
 obtain⟨o_1,h,hK1⟩:=ym h
 refine .tJ (fun s=>o_1=Res.nx s) (.k 0 o .nil) zd.nil ?_ (fun j_1 hj1=>?_)
 ·
  refine .block (.rforEL h (fun p2_=>[(7,⟨True,rep p2_.1⟩)]) (fun p2_=>[]) (.k 7 o .nil) zd.nil (.k2 0 6 o o .nil) zd.nil (fun p2_ o_2 h hD2=>(.sn mx (.lt o o (.nil (.seq (.cb o h (fun _ h=>?_) fun _ h=>?_)))))))
  ·
   refine .skip (.then (.seq ?_))
   obtain⟨o_4,h,hK4⟩:=yB h
   unfold zfj at h
   refine .tJ (fun s=>o_4=Res.nx s) (.k2 0 6 o o (.k 7 o .nil)) zd.nil ?_ (fun j_4 hj4=>?_)
   ·
    obtain⟨hn5,h⟩:=zo h
    obtain⟨c1,hv6,h⟩:=zn h
    refine .block (.sn mx (.mv o (.asn o (.nil (.sn mx (.mv o (.mv o (.c (.indexStr .none Tryz.underlying9 (.s o) (.s o) (fun _=>hn5)) (.ra hv6 o (.nil (.sn mx (.mv o (.c (.kgeq .none (.s o) .ki) (.mv o (.mg o o o (.c (.kleq (.at o o) (.tmp o id) .ki) (.pa o o (.c (.not .none (.s o)) (.mv o (.mg o o o (.c (.eqI (.at o o) (.tmp o id) .i) (.c (.move (.at o o) (.tmp o id)) (.mg o o o (.c (.kgeq (.at o o) (.tmp o id) .ki) (.c (.move (.at o o) (.tmp o id)) (.mg o o o (.c (.kleq (.at o o) (.tmp o id) .ki) (.c (.pickAnd (.at o o) (.tmp o id) (.tmp o id)) (.c (.not (.at o o) (.tmp o id)) (.c (.move (.at o o) (.tmp o id)) (.mg o o o (.c (.kneq (.at o o) (.tmp o id) .ki) (.c (.pickAnd (.at o o) (.tmp o id) (.tmp o id)) (.c (.pickOr (.at o o) (.tmp o id) (.tmp o id)) (.pa o o (.nil (.cb o h (fun _ h=>?_) fun _ h=>?_)))))))))))))))))))))))))))))))))))))
    ·
     refine .sn mx (.asb (.nil (.ret (.blkRet (.thenRet (.thenRet (.blkRet (.thenRet ?_))))))))
     replace h:=yf hK4 (za h)
     replace h:=hD2 _ (za h)
     replace h:=z8 hK1 (za h)
     obtain rfl:=za h
     exact zb.rt Tryz.results45 o
    ·
     exact .skip (.blkNormal (zb.j _ (za h)))
   ·
    have h:=yD hK4 hj4
    exact .rn mx (.adi o (.mv o (.nil (zb.ag (za h)))))
  ·
   refine .exit (.thenExit (.thenExit (.blkExit ?_)))
   replace h:=hD2 _ (za h)
   exact zb.j _ (za h)
 ·
  have h:=yn hK1 hj1
  refine .sn mx (.mv o (.c (.neS .none (yy Tryz.underlying9) (.s o) (.str (l:=[]) (by decide))) (.mv o (.mg o o o (.c (.lenStr (.at o o) Tryz.underlying9 (.tmp o id)) (.c (.le (.at o o) (.tmp o id) .i) (.pa o o (.asn o (.nil (.ret ?_))))))))))
  obtain rfl:=za h
  exact zb.rt Tryz.results45 o
theorem jt {is1:Bool}{e1:Int}{r:Int}  (h:qF is1 e1=some r):zk Tryz.prog 44 [rep is1,rep e1] (rep r):=by
 unfold qF at h
 refine zk.i Tryz.func44 o Tryz.ntmps44 o (fun F=>(.sn mx (.asi (.nil (.seq (.sn mx (.mv o (.nil (.cb o h (fun _ h=>?_) fun _ h=>?_)))))))))
 ·
  refine .sn mx (.mv o (.asn o (.nil (.ret (.thenRet ?_)))))
  obtain rfl:=za h
  exact zb.rt Tryz.results44 o
 ·
  refine .skip (.then (.sn mx (.asi (.nil (.ret ?_)))))
  obtain rfl:=za h
  exact zb.rt Tryz.results44 o
theorem Jc {n1:Int}{low1:Int}{high1:Int}{r:Bool}  (h:vz n1 low1 high1=some r):zk Tryz.prog 50 [rep n1,rep low1,rep high1] (rep r):=by
 unfold vz at h
 refine zk.i Tryz.func50 o Tryz.ntmps50 o (fun F=>(.sn mx (.asb (.nil (.sn mx (.mv o (.mv o (.c (.ge .none (.s o) (.s o)) (.mv o (.mg o o o (.mg o o o (.c (.le (.at o o) (.tmp o id) (.tmp o id)) (.pa o o (.asn o (.nil (.ret ?_))))))))))))))))
 obtain rfl:=za h
 exact zb.rt Tryz.results50 o
theorem Yt {l1:(List Int)}{r:Int}  (h:jU l1=some r):zk Tryz.prog 43 [rep l1] (rep r):=by
 unfold jU at h
 refine zk.i Tryz.func43 o Tryz.ntmps43 o (fun F=>(.sn mx (.asi (.nil (.seq (.sn mx (.mv o (.ln QB o (.mvi (.nil ?_))))))))))
 obtain⟨o_1,h,hK1⟩:=ym h
 refine .tJ (fun s=>o_1=Res.nx s) Sub.nil zd.nil ?_ (fun j_1 hj1=>?_)
 ·
  refine .block (.rforEL h (fun p2_=>[(7,⟨True,rep p2_.1⟩)]) (fun p2_=>[]) (.k 7 o .nil) zd.nil (.k2 5 6 o o .nil) zd.nil (fun p2_ o_2 h hD2=>(.sn mx (.lt o o (.nil (.seq (.cb o h (fun _ h=>?_) fun _ h=>?_)))))))
  ·
   refine .skip (.then (.seq ?_))
   obtain⟨o_4,h,hK4⟩:=yB h
   unfold zhv at h
   refine .tJ (fun s=>o_4=Res.nx s) (.k2 5 6 o o (.k 7 o .nil)) zd.nil ?_ (fun j_4 hj4=>?_)
   ·
    obtain⟨hn5,h⟩:=zo h
    obtain⟨e1,hv6,h⟩:=zn h
    refine .block (.sn mx (.ix QB QD o o hn5 (.ld QD o (.ra hv6 o (.nil (.sn mx (.mv o (.nei o (.nil (.cb o h (fun _ h=>?_) fun _ h=>?_))))))))))
    ·
     refine .sn mx (.mv o (.asn o (.nil (.ret (.blkRet (.thenRet (.thenRet (.blkRet (.thenRet ?_)))))))))
     replace h:=yf hK4 (za h)
     replace h:=hD2 _ (za h)
     replace h:=z8 hK1 (za h)
     obtain rfl:=za h
     exact zb.rt Tryz.results43 o
    ·
     exact .skip (.blkNormal (zb.j _ (za h)))
   ·
    have h:=yD hK4 hj4
    exact .rn mx (.adi o (.mv o (.nil (zb.ag (za h)))))
  ·
   refine .exit (.thenExit (.thenExit (.blkExit ?_)))
   replace h:=hD2 _ (za h)
   exact zb.j _ (za h)
 ·
  have h:=yn hK1 hj1
  refine .sn mx (.asi (.nil (.ret ?_)))
  obtain rfl:=za h
  exact zb.rt Tryz.results43 o
theorem zlT {p1:zz}{r:Int}  (h:zbe p1=some r):zk Tryz.prog 110 [rep p1] (rep r):=by
 unfold zbe at h
 obtain⟨r1,hv1,h⟩:=bind_some h
 obtain⟨r2,hv2,h⟩:=bind_some h
 refine zk.i Tryz.func110 o Tryz.ntmps110 o (fun F=>(.sn mx (.c (.box .none (.s o)) (.asi (.nil (.sn mx (.fa zd5 zeo o (.ld ty3 o (.c (.call .none (Jc hv1) (.cons (.s o) (.cons .i (.cons .i .nil)))) (.c (.not .none (.s o)) (.mv o (.fg zd6 zep o o o (.lg ty3 o o o (.c (.callIf (.at o o) zec (fun hg=>Jc ((fun hg=>qf hv2 ((Qx hg.2))) hg)) (.cons (.tmp o id) (.cons .i (.cons .i .nil))) (fun h=>h)) ?_))))))))))))))
 obtain⟨r3,hv3,h⟩:=bind_some h
 refine .c (.not (.at o o) (.tmp o id)) (.po o o (.c (.call .none (jt hv3) (.cons (.s o) (.cons .i .nil))) (.asn o (.nil (.ret ?_)))))
 obtain rfl:=za h
 exact zb.rt Tryz.results110 o
theorem zlP {b1:Box}{r:Int}  (h:Y9 b1=some r):zk Tryz.prog 57 [rep b1] (rep r):=by
 unfold Y9 at h
 obtain⟨r1,hv1,h⟩:=bind_some h
 obtain⟨r2,hv2,h⟩:=bind_some h
 obtain⟨r3,hv3,h⟩:=bind_some h
 refine zk.i Tryz.func57 o Tryz.ntmps57 o (fun F=>(.sn mx (.c (.box .none (.s o)) (.asi (.nil (.sn mx (.fa vn va o (.ld ty3 o (.fa vo vb o (.ld ty3 o (.c (.buildF (y:=(⟨b1.X,b1.Y⟩:zz)) .none zgi zh6 o (.cons (.s o) (.cons (.s o) .nil)) (.cons o zhJ (.cons o zhK .nil))) (.c (.call .none (zlT hv1) (.cons (.s o) .nil)) (.fa Qe vO o (.ld ty3 o (.c (.call .none (Jc hv2) (.cons (.s o) (.cons .i (.cons .i .nil)))) (.c (.not .none (.s o)) (.mv o (.fg Qf vP o o o (.lg ty3 o o o (.c (.callIf (.at o o) zec (fun hg=>Jc ((fun hg=>qf hv3 ((Qx hg.2))) hg)) (.cons (.tmp o id) (.cons .i (.cons .i .nil))) (fun h=>h)) ?_))))))))))))))))))))
 obtain⟨r4,hv4,h⟩:=bind_some h
 obtain⟨r5,hv5,h⟩:=bind_some h
 refine .c (.not (.at o o) (.tmp o id)) (.po o o (.c (.call .none (jt hv4) (.cons (.s o) (.cons .i .nil))) (.c (.buildSlice (xs:=[_,_]) .none QB QD Ym (.cons (.s o) (.cons (.s o) .nil)) o (by decide)) (.c (.call .none (Yt hv5) (.cons (.s o) .nil)) (.asn o (.nil (.ret ?_)))))))
 obtain rfl:=za h
 exact zb.rt Tryz.results57 o
theorem zhy {s1:Str}{r:Int}  (h:Jf s1=some r):zk Tryz.prog 46 [rep s1] (rep r):=by
 unfold Jf at h
 obtain⟨r1,hv1,h⟩:=bind_some h
 obtain⟨bad1,hv2,h⟩:=zn h
 refine zk.i Tryz.func46 o Tryz.ntmps46 o (fun F=>(.sn mx (.asi (.nil (.sn mx (.mv o (.c (.call .none (znk hv1) (.cons (.s o) .nil)) (.c (.not .none (.s o)) (.ra hv2 o (.nil (.seq (.sn mx (.mv o (.c (.lenStr .none Tryz.underlying9 (.s o)) (.mvi (.nil ?_))))))))))))))))
 obtain⟨j_3,h,hK3⟩:=bind_some h
 refine .thenJ (ι:=Bool) (fun j_3=>[(3,⟨True,rep j_3⟩)]) (fun j_3=>[]) (fun s=>j_3=s) (.k 0 o .nil) zd.nil ?_ (fun j_3' hj3=>?_)
 ·
  refine .block (.rforL h (fun p4_=>[(10,⟨True,rep p4_.1⟩),(3,⟨True,rep p4_.2⟩)]) (fun p4_=>[]) (.k2 10 3 o o .nil) zd.nil (.k2 0 9 o o .nil) zd.nil (fun p4_ o_4 h hD4=>(.sn mx (.lt o o (.nil (.seq (.cb o h (fun _ h=>?_) fun _ h=>?_)))))))
  ·
   refine .skip (.then (.seq ?_))
   obtain⟨j_6,h,hK6⟩:=bind_some h
   unfold zhx at h
   refine .thenJ (ι:=Bool) (fun j_6=>[(3,⟨True,rep j_6⟩)]) (fun j_6=>[]) (fun s=>j_6=s) (.k2 0 9 o o (.k 10 o .nil)) zd.nil ?_ (fun j_6' hj6=>?_)
   ·
    obtain⟨hn7,h⟩:=zo h
    obtain⟨hn8,h⟩:=zo h
    obtain⟨hn9,h⟩:=zo h
    obtain⟨bad2,hv10,h⟩:=zn h
    exact .block (.sn mx (.mv o (.asn o (.nil (.rn mx (.mv o (.mv o (.mg o o o (.mg o o o (.c (.indexStr (.at o o) Tryz.underlying9 (.tmp o id) (.tmp o id) (fun hg=>hn7 hg.2)) (.c (.klss (.at o o) (.tmp o id) .ki) (.c (.move (.at o o) (.tmp o id)) (.mg o o o (.mg o o o (.c (.indexStr (.at o o) Tryz.underlying9 (.tmp o id) (.tmp o id) (fun hg=>hn8 hg.1.2 hg.2)) (.c (.kneq (.at o o) (.tmp o id) .ki) (.c (.pickAnd (.at o o) (.tmp o id) (.tmp o id)) (.po o o (.mv o (.mg o o o (.mg o o o (.c (.indexStr (.at o o) Tryz.underlying9 (.tmp o id) (.tmp o id) (fun hg=>hn9 hg.2)) (.c (.keql (.at o o) (.tmp o id) .ki) (.po o o (.ra hv10 o (.nil (.blkNormal (zb.j _ (za h)))))))))))))))))))))))))))))
   ·
    subst hj6;have h:=hK6;clear hK6
    exact .rn mx (.adi o (.mv o (.nil (zb.ag (za h)))))
  ·
   refine .exit (.thenExit (.thenExit (.blkExit ?_)))
   replace h:=hD4 _ (za h)
   exact zb.j _ (za h)
 ·
  subst hj3;have h:=hK3;clear hK3
  obtain⟨r2,hv11,h⟩:=bind_some h
  obtain⟨r3,hv12,h⟩:=bind_some h
  obtain⟨r4,hv13,h⟩:=bind_some h
  refine .sn mx (.mv o (.c (.lenStr .none Tryz.underlying9 (.s o)) (.c (.gt .none (.s o) .i) (.c (.call .none (jt hv11) (.cons (.s o) (.cons .i .nil))) (.mv o (.c (.call .none (jt hv12) (.cons (.s o) (.cons .i .nil))) (.c (.buildSlice (xs:=[_,_]) .none QB QD Ym (.cons (.s o) (.cons (.s o) .nil)) o (by decide)) (.c (.call .none (Yt hv13) (.cons (.s o) .nil)) (.asn o (.nil (.ret ?_)))))))))))
  obtain rfl:=za h
  exact zb.rt Tryz.results46 o
theorem zlX {s1:Str}{r:Int}  (h:J3 s1=some r):zk Tryz.prog 58 [rep s1] (rep r):=by
 unfold J3 at h
 obtain⟨r1,hv1,h⟩:=bind_some h
 refine zk.i Tryz.func58 o Tryz.ntmps58 o (fun F=>(.sn mx (.asi (.nil (.sn mx (.mv o (.c (.neS .none (yy Tryz.underlying9) (.s o) (.str (l:=[]) (by decide))) (.mv o (.mg o o o (.c (.callIf (.at o o) zpQ (fun hg=>zcQ ((fun hg=>qf hv1 (hg.2)) hg)) (.cons (.tmp o id) .nil) (fun h=>h)) ?_))))))))))
 obtain⟨r2,hv2,h⟩:=bind_some h
 refine .c (.not (.at o o) (.tmp o id)) (.pa o o (.c (.call .none (jt hv2) (.cons (.s o) (.cons .i .nil))) (.asn o (.nil (.ret ?_)))))
 obtain rfl:=za h
 exact zb.rt Tryz.results58 o
theorem zsN {d1:Doc}{i1:Int}{r:Int}  (h:zc4 d1 i1=some r):zk Tryz.prog 15 [rep d1,rep i1] (rep r):=by
 unfold zc4 at h
 obtain⟨hn1,h⟩:=zo h
 obtain⟨v1,hv2,h⟩:=zn h
 obtain⟨hn3,h⟩:=zo h
 refine zk.i Tryz.func15 o Tryz.ntmps15 o (fun F=>(.sn mx (.c (.box .none (.s o)) (.asi (.nil (.sr [oo,oo,oo,oo,oo,([],[5]),([5],[5])] mx (.faA yX qc o (.ldA y8 o (.mvA o (.ixA yh zJ o o hn1 (.rlA hv2 zJ o (.al ja o (.st zJ o o o (.nil (.freeze (t:=5) o o zd.nil o (.sn mx (.fa yX qc o (.ld y8 o (.mv o (.c (.slice .none yh zJ (.s o) o (.s o) (fun _=>hn3)) (.c (.makeFunc (ι:=zh×Bool) (pre:=fun i=>(fun x0=>zc5 x0 v1) i.1=some i.2) (Ss:=fun i=>[rep i.1]) (S:=fun i=>rep i.2) .none zpR (fun i h=>zsM h) (.cons (.s o) .nil)) ?_)))))))))))))))))))))
 obtain⟨twice1,hv4,h⟩:=bind_some h
 obtain⟨r1,hv5,h⟩:=bind_some h
 obtain⟨r2,hv6,h⟩:=bind_some h
 obtain⟨r3,hv7,h⟩:=bind_some h
 obtain⟨r4,hv8,h⟩:=bind_some h
 obtain⟨r5,hv9,h⟩:=bind_some h
 obtain⟨e1,hv10,h⟩:=bind_some h
 refine .c (.call .none (ztx hv4) (.cons (.s o) (.cons (.s o) .nil))) (.asn o (.nil (.seq (.sn mx (.fa qI qJ o (.ld ty9 o (.c (.call .none (zcQ hv5) (.cons (.s o) .nil)) (.c (.not .none (.s o)) (.c (.call .none (jt hv6) (.cons (.s o) (.cons .i .nil))) (.mv o (.c (.call .none (jt hv7) (.cons (.s o) (.cons .i .nil))) (.fa qV qO o (.ld ty3 o (.c (.call .none (Jc hv8) (.cons (.s o) (.cons .i (.cons .i .nil)))) (.c (.not .none (.s o)) (.c (.call .none (jt hv9) (.cons (.s o) (.cons .i .nil))) (.c (.buildSlice (xs:=[_,_,_]) .none QB QD Ym (.cons (.s o) (.cons (.s o) (.cons (.s o) .nil))) o (by decide)) (.c (.call .none (Yt hv10) (.cons (.s o) .nil)) (.asn o (.nil (.sn mx (.mv o (.nei o (.nil (.cb o h (fun _ h=>?_) fun _ h=>?_)))))))))))))))))))))))))
 ·
  refine .sn mx (.mv o (.asn o (.nil (.ret (.thenRet ?_)))))
  obtain rfl:=za h
  exact zb.rt Tryz.results15 o
 ·
  obtain⟨box1,hv12,h⟩:=bind_some h
  refine .skip (.then (.sn mx (.fa jQ vc o (.ld zN o (.c (.buildF (y:=(⟨(0:Int),(0:Int),(0:Int),(0:Int)⟩:Box)) .none qR q9 o .nil .nil) (.c (.neS .none zjp (.s o) (.s o)) (.c (.call .none (jt hv12) (.cons (.s o) (.cons .i .nil))) (.asn o (.nil (.seq (.sn mx (.fa qV qO o (.ld ty3 o (.nei o (.nil ?_)))))))))))))))
  obtain⟨j_13,h,hK13⟩:=bind_some h
  refine .thenJ (ι:=Int) (fun j_13=>[(8,⟨True,rep j_13⟩)]) (fun j_13=>[]) (fun s=>j_13=s) (.k 5 o .nil) zd.nil ?_ (fun j_13' hj13=>?_)
  ·
   refine .cb o h (fun _ h=>?_) fun _ h=>?_
   ·
    obtain⟨box2,hv15,h⟩:=bind_some h
    exact .rn mx (.fa jQ vc o (.ld zN o (.c (.call .none (zlP hv15) (.cons (.s o) .nil)) (.asn o (.nil (zb.j _ (za h)))))))
   ·
    exact .skip (zb.j _ (za h))
  ·
   subst hj13;have h:=hK13;clear hK13
   obtain⟨r6,hv16,h⟩:=bind_some h
   obtain⟨r7,hv17,h⟩:=bind_some h
   obtain⟨r8,hv18,h⟩:=bind_some h
   refine .sn mx (.mv o (.fa zb7 zcj o (.ld ty9 o (.c (.call .none (zhy hv16) (.cons (.s o) .nil)) (.fa zaF zaP o (.ld ty9 o (.c (.call .none (zlX hv17) (.cons (.s o) .nil)) (.c (.buildSlice (xs:=[_,_,_]) .none QB QD Ym (.cons (.s o) (.cons (.s o) (.cons (.s o) .nil))) o (by decide)) (.c (.call .none (Yt hv18) (.cons (.s o) .nil)) (.asn o (.nil (.ret ?_))))))))))))
   obtain rfl:=za h
   exact zb.rt Tryz.results15 o
theorem zsx {n1:zh}{c0_1:Str}{r:Bool}  (h:zcR n1 c0_1=some r):zk Tryz.prog 111 [rep n1,ref c0_1] (rep r):=by
 unfold zcR at h
 refine zk.i Tryz.func111 o Tryz.ntmps111 o (fun F=>(.sn mx (.c (.box .none (.s o)) (.asb (.nil (.sn mx (.fa qI qJ o (.ld ty9 o (.ld ty9 o (.c (.eqS .none (yy Tryz.underlying9) (.s o) (.s o)) (.asn o (.nil (.ret ?_)))))))))))))
 obtain rfl:=za h
 exact zb.rt Tryz.results111 o
theorem zcS {d1:Doc}{id1:Str}{r:Int}  (h:Yu d1 id1=some r):zk Tryz.prog 59 [rep d1,rep id1] (rep r):=by
 unfold Yu at h
 refine zk.i Tryz.func59 o Tryz.ntmps59 o (fun F=>(.sn mx (.c (.box .none (.s o)) (.c (.box .none (.s o)) (.asi (.nil (.sn mx (.fa yX qc o (.ld y8 o (.c (.makeFunc (ι:=zh×Bool) (pre:=fun i=>(fun x0=>zcR x0 id1) i.1=some i.2) (Ss:=fun i=>[rep i.1]) (S:=fun i=>rep i.2) .none zpG (fun i h=>zsx h) (.cons (.s o) .nil)) ?_))))))))))
 obtain⟨r1,hv1,h⟩:=bind_some h
 refine .c (.call .none (zmI hv1) (.cons (.s o) (.cons (.s o) .nil))) (.asn o (.nil (.ret ?_)))
 obtain rfl:=za h
 exact zb.rt Tryz.results59 o
theorem zlW {d1:Doc}{n1:zh}{r:(Int×Bool)}  (h:Yv d1 n1=some r):zk Tryz.prog 60 [rep d1,rep n1] (tup [rep r.1,rep r.2]):=by
 unfold Yv at h
 refine zk.i Tryz.func60 o Tryz.ntmps60 o (fun F=>(.sn mx (.c (.box .none (.s o)) (.c (.box .none (.s o)) (.asi (.asb (.nil (.sn mx (.fa jJ jL o (.ld ty9 o (.asn o (.nil (.seq ?_)))))))))))))
 obtain⟨o_1,h,hK1⟩:=ym h
 refine .thenJ (ι:=Int) (fun j_1=>[(4,⟨True,rep j_1⟩)]) (fun j_1=>[]) (fun s=>o_1=Res.nx s) Sub.nil zd.nil ?_ (fun j_1 hj1=>?_)
 ·
  refine .block (.loopL h (fun s2_=>[(4,⟨True,rep s2_.1⟩),(6,⟨True,rep s2_.2⟩)]) (fun s2_=>[]) (.k2 4 6 o o .nil) zd.nil (.k2 2 3 o o .nil) zd.nil (fun s2_ o_2 h hD2=>?_))
  unfold zfn at h
  refine .seq (.sn mx (.mv o (.c (.neS .none (yy Tryz.underlying9) (.s o) (.str (l:=[]) (by decide))) (.nil (.cb o h (fun _ h=>?_) fun _ h=>?_)))))
  ·
   obtain⟨many1,hv4,h⟩:=zn h
   refine .skip (.then (.block (.seq (.sn mx (.mv o (.adi o (.ra hv4 o (.nil (.sn mx (.mv o (.fa qI qJ o (.ld ty9 o (.c (.eqS .none (yy Tryz.underlying9) (.s o) (.s o)) (.mv o (.mg o o o (.fg yX qc o o o (.lg y8 o o o (.c (.len (.at o o) yh (.tmp o id)) (.c (.gt (.at o o) (.tmp o id) (.tmp o id)) (.po o o (.nil (.cb o h (fun _ h=>?_) fun _ h=>?_))))))))))))))))))))))
   ·
    refine .sn mx (.mv o (.mv o (.fa qI qJ o (.ld ty9 o (.c (.eqS .none (yy Tryz.underlying9) (.s o) (.s o)) (.asn o (.asn o (.nil (.ret (.thenRet (.blkRet (.thenRet (.blkRet (.thenRet ?_))))))))))))))
    replace h:=hD2 _ (za h)
    replace h:=z8 hK1 (za h)
    obtain rfl:=za h
    exact zb.ret2 (.inl o) Tryz.results60 (yb.tmp o trivial Imp.refl) (yb.tmp o trivial Imp.refl)
   ·
    obtain⟨r1,hv6,h⟩:=bind_some h
    obtain⟨hn7,h⟩:=zo h
    obtain⟨id1,hv8,h⟩:=zn h
    exact .skip (.then (.rn mx (.fa yX qc o (.ld y8 o (.ld yq o (.mv o (.c (.call .none (zcS hv6) (.cons (.s o) (.cons (.s o) .nil))) (.ix yh zJ o o hn7 (.fa jJ jL o (.ld ty9 o (.ra hv8 o (.nil (.blkNormal (zb.ag (za h)))))))))))))))
  ·
   refine .exit (.thenExit (.thenExit (.blkExit ?_)))
   replace h:=hD2 _ (za h)
   exact zb.j _ (za h)
 ·
  have h:=yn hK1 hj1
  refine .sn mx (.mv o (.asn o (.asb (.nil (.ret ?_)))))
  obtain rfl:=za h
  exact zb.ret2 (.inl o) Tryz.results60 (yb.tmp o trivial Imp.refl) (yb.tmp o trivial Imp.refl)
theorem zlY {d1:Doc}{id1:Str}{r:(List zh)}  (h:zbl d1 id1=some r):ya Tryz.prog 61 [rep d1,rep id1] [] (z7) [some (zq 45 r)]:=by
 unfold zbl at h
 refine ya.i Tryz.func61 o Tryz.ntmps61 o (fun F=>(.sn mx (.c (.box .none (.s o)) (.c (.assign .none (.const (x:=([]:(List zh))) (fun M w=>⟨_,⟨none,0,rfl,Nat.le_refl _,by decide,rfl⟩,rfl⟩))) (.nil (.sr [([],[5])] mx (.cW (.nilRow (T:=45) (α:=zh) o) (.nil (.nameRow (t:=5) (g:=5001) o o o (fun s5001=>(.seq (.sn mx (.fa yX qc o (.ld y8 o (.ln yh o (.mvi (.nil ?_)))))))))))))))))
 obtain⟨j_1,h,hK1⟩:=bind_some h
 refine .thenJ (ι:=(List zh)) (fun j_1=>[]) (fun j_1=>[(5,some (zq 45 j_1))]) (fun s=>j_1=s) Sub.nil zd.nil ?_ (fun j_1' hj1=>?_)
 ·
  refine .block (.anon (t:=5) (g:=5001) o o trivial o (.rforL h (fun p2_=>[(11,⟨True,rep p2_.1⟩)]) (fun p2_=>[(5,some (zq 45 p2_.2))]) (.k 11 o .nil) (.k 5 o .nil) (.k2 1 9 o o (.k 10 o .nil)) zd.nil (fun p2_ o_2 h hD2=>(.nameRow (t:=5) (g:=5002) o o o (fun s5002=>(.sn mx (.lt o o (.nil (.seq (.cb o h (fun _ h=>?_) fun _ h=>?_))))))))))
  ·
   refine .skip (.then (.seq ?_))
   obtain⟨j_4,h,hK4⟩:=bind_some h
   unfold zhA at h
   refine .thenJ (ι:=(List zh)) (fun j_4=>[]) (fun j_4=>[(5,some (zq 45 j_4))]) (fun s=>j_4=s) (.k4 1 9 10 11 o o o o .nil) zd.nil ?_ (fun j_4' hj4=>?_)
   ·
    obtain⟨hn5,h⟩:=zo h
    obtain⟨v1,hv6,h⟩:=zn h
    refine .block (.sr [oo,oo,([],[7]),([7],[7])] mx (.ixA yh zJ o o hn5 (.rlA hv6 zJ o (.al ja o (.st zJ o o o (.nil (.freeze (t:=7) o o (.k 5002 o .nil) o (.sn mx (.fa jJ jL o (.ld ty9 o (.mv o (.c (.eqS .none (yy Tryz.underlying9) (.s o) (.s o)) (.nil (.cb o h (fun _ h=>?_) fun _ h=>?_))))))))))))))
    ·
     obtain⟨hn8,h⟩:=zo h
     exact .rg [oo,oo,oo,([5002],[22,5002]),([22],[5,22])] mx (.mvA o (.ldA zJ o (.cA (.buildSlice (xs:=[_]) .none yh zJ zg0 (.cons (.s o) .nil) o (by decide)) (.cW (.append (k:=5002) zhF o (.told (.s o) o) (.s o) hn8) (.cW (.passRow o (.tmp o)) (.nil (.blkNormal (zb.j _ (za h)))))))))
    ·
     exact .skip (.blkNormal (.anon (t:=5) (g:=5002) o o trivial o (zb.j _ (za h))))
   ·
    subst hj4;have h:=hK4;clear hK4
    exact .nameRow (t:=5) (g:=5003) o o o (fun s5003=>(.rn mx (.adi o (.mv o (.nil (.anon (t:=5) (g:=5003) o o trivial o (zb.ag (za h))))))))
  ·
   refine .exit (.thenExit (.thenExit (.blkExit (.anon (t:=5) (g:=5002) o o trivial o ?_))))
   replace h:=hD2 _ (za h)
   exact zb.j _ (za h)
 ·
  subst hj1;have h:=hK1;clear hK1
  refine .nameRow (t:=5) (g:=5004) o o o (fun s5004=>(.sn mx (.mv o (.asn o (.nil (.ret (.anon (t:=4) (g:=5004) o o trivial o ?_)))))))
  obtain rfl:=za h
  exact zb.ret1O (.inl o) [4] Tryz.results61 (by decide) (.res o o) (yb.tmp o trivial (fun _ _ _ _=>trivial))
theorem zsR {d1:Doc}{r:Int}  (h:zbm d1=some r):zk Tryz.prog 16 [rep d1] (rep r):=by
 unfold zbm at h
 refine zk.i Tryz.func16 o Tryz.ntmps16 o (fun F=>(.sn mx (.c (.box .none (.s o)) (.asi (.nil (.seq (.sn mx (.fa yX qc o (.ld y8 o (.ln yh o (.mvi (.nil ?_))))))))))))
 obtain⟨o_1,h,hK1⟩:=ym h
 refine .tJ (fun s=>o_1=Res.nx s) (.k 1 o .nil) zd.nil ?_ (fun j_1 hj1=>?_)
 ·
  refine .block (.rforEL h (fun p2_=>[(19,⟨True,rep p2_.1⟩)]) (fun p2_=>[]) (.k 19 o .nil) zd.nil (.k2 1 17 o o (.k 18 o .nil)) zd.nil (fun p2_ o_2 h hD2=>(.sn mx (.lt o o (.nil (.seq (.cb o h (fun _ h=>?_) fun _ h=>?_)))))))
  ·
   refine .skip (.then (.seq ?_))
   obtain⟨o_4,h,hK4⟩:=yB h
   unfold zfs at h
   refine .tJ (fun s=>o_4=Res.nx s) (.k4 1 17 18 19 o o o o .nil) zd.nil ?_ (fun j_4 hj4=>?_)
   ·
    obtain⟨hn5,h⟩:=zo h
    obtain⟨v1,hv6,h⟩:=zn h
    obtain⟨k1,hv7,h⟩:=bind_some h
    obtain⟨hn8,h⟩:=zo h
    refine .block (.sr [oo,oo,([],[4]),([4],[4])] mx (.ixA yh zJ o o hn5 (.rlA hv6 zJ o (.al ja o (.st zJ o o o (.nil (.freeze (t:=4) o o zd.nil o (.sn mx (.ld yq o (.fa jJ jL o (.ld ty9 o (.c (.call .none (zcS hv7) (.cons (.s o) (.cons (.s o) .nil))) (.asn o (.nil (.sn mx (.fa jJ jL o (.ld ty9 o (.c (.neS .none (yy Tryz.underlying9) (.s o) (.str (l:=[]) (by decide))) (.mv o (.mg o o o (.c (.lt (.at o o) (.tmp o id) .i) (.c (.move (.at o o) (.tmp o id)) (.fg yX qc o o o (.lg y8 o o o (.mg o o o (.c (.indexAddr (.at o o) yh zJ (.tmp o id) (.tmp o id) (fun hg=>hn8 hg.1.2 hg.2)) (.c (.fieldAddr (.at o o) qV qO (.tmp o id)) (.lg ty3 o o o (.c (.neI (.at o o) (.tmp o id) .i) (.c (.pickOr (.at o o) (.tmp o id) (.tmp o id)) (.pa o o (.nil (.cb o h (fun _ h=>?_) fun _ h=>?_)))))))))))))))))))))))))))))))))
    ·
     refine .sn mx (.asi (.nil (.ret (.blkRet (.thenRet (.thenRet (.blkRet (.thenRet ?_))))))))
     replace h:=yf hK4 (za h)
     replace h:=hD2 _ (za h)
     replace h:=z8 hK1 (za h)
     obtain rfl:=za h
     exact zb.rt Tryz.results16 o
    ·
     exact .skip (.blkNormal (zb.j _ (za h)))
   ·
    have h:=yD hK4 hj4
    exact .rn mx (.adi o (.mv o (.nil (zb.ag (za h)))))
  ·
   refine .exit (.thenExit (.thenExit (.blkExit ?_)))
   replace h:=hD2 _ (za h)
   exact zb.j _ (za h)
 ·
  have h:=yn hK1 hj1
  refine .seq (.sn mx (.fa yX qc o (.ld y8 o (.ln yh o (.mvi (.nil ?_))))))
  obtain⟨o_10,h,hK10⟩:=ym h
  refine .tJ (fun s=>o_10=Res.nx s) (.k 1 o .nil) zd.nil ?_ (fun j_10 hj10=>?_)
  ·
   refine .block (.rforEL h (fun p11_=>[(47,⟨True,rep p11_.1⟩)]) (fun p11_=>[]) (.k 47 o .nil) zd.nil (.k2 1 45 o o (.k 46 o .nil)) zd.nil (fun p11_ o_11 h hD11=>(.sn mx (.lt o o (.nil (.seq (.cb o h (fun _ h=>?_) fun _ h=>?_)))))))
   ·
    refine .skip (.then (.seq ?_))
    obtain⟨o_13,h,hK13⟩:=yB h
    unfold zft at h
    refine .tJ (fun s=>o_13=Res.nx s) (.k4 1 45 46 47 o o o o .nil) zd.nil ?_ (fun j_13 hj13=>?_)
    ·
     obtain⟨hn14,h⟩:=zo h
     obtain⟨v2,hv15,h⟩:=zn h
     obtain⟨r1,hv16,h⟩:=bind_some h
     refine .block (.sr [oo,oo,([],[7]),([7],[7])] mx (.ixA yh zJ o o hn14 (.rlA hv15 zJ o (.al ja o (.st zJ o o o (.nil (.freeze (t:=7) o o zd.nil o (.sn mx (.ld yq o (.ld zJ o (.c (.call .none (zlW hv16) (.cons (.s o) (.cons (.s o) .nil))) (.mv o (.ex o o (.ex o o (.asn o (.asn o (.nil (.sn mx (.mv o (.nil (.cb o h (fun _ h=>?_) fun _ h=>?_)))))))))))))))))))))
     ·
      refine .sn mx (.asi (.nil (.ret (.blkRet (.thenRet (.thenRet (.blkRet (.thenRet ?_))))))))
      replace h:=yf hK13 (za h)
      replace h:=hD11 _ (za h)
      replace h:=z8 hK10 (za h)
      obtain rfl:=za h
      exact zb.rt Tryz.results16 o
     ·
      exact .skip (.blkNormal (zb.j _ (za h)))
    ·
     have h:=yD hK13 hj13
     exact .rn mx (.adi o (.mv o (.nil (zb.ag (za h)))))
   ·
    refine .exit (.thenExit (.thenExit (.blkExit ?_)))
    replace h:=hD11 _ (za h)
    exact zb.j _ (za h)
  ·
   have h:=yn hK10 hj10
   refine .seq (.sn mx (.fa yX qc o (.ld y8 o (.ln yh o (.mvi (.nil ?_))))))
   obtain⟨o_18,h,hK18⟩:=ym h
   refine .tJ (fun s=>o_18=Res.nx s) (.k 1 o .nil) zd.nil ?_ (fun j_18 hj18=>?_)
   ·
    refine .block (.rforEL h (fun p19_=>[(62,⟨True,rep p19_.1⟩)]) (fun p19_=>[]) (.k 62 o .nil) zd.nil (.k2 1 60 o o (.k 61 o .nil)) zd.nil (fun p19_ o_19 h hD19=>(.sn mx (.lt o o (.nil (.seq (.cb o h (fun _ h=>?_) fun _ h=>?_)))))))
    ·
     refine .skip (.then (.seq ?_))
     obtain⟨o_21,h,hK21⟩:=yB h
     unfold zfu at h
     refine .tJ (fun s=>o_21=Res.nx s) (.k4 1 60 61 62 o o o o .nil) zd.nil ?_ (fun j_21 hj21=>?_)
     ·
      obtain⟨hn22,h⟩:=zo h
      obtain⟨v3,hv23,h⟩:=zn h
      obtain⟨r2,hv24,h⟩:=bind_some h
      refine .block (.sr [oo,oo,([],[11]),([11],[11])] mx (.ixA yh zJ o o hn22 (.rlA hv23 zJ o (.al ja o (.st zJ o o o (.nil (.freeze (t:=11) o o zd.nil o (.sn mx (.ld yq o (.ld zJ o (.c (.call .none (zlW hv24) (.cons (.s o) (.cons (.s o) .nil))) (.mv o (.ex o o (.ex o o (.asn o (.asn o (.nil (.sn mx (.mv o (.c (.gt .none (.s o) .i) (.nil (.cb o h (fun _ h=>?_) fun _ h=>?_))))))))))))))))))))))
      ·
       refine .sn mx (.asi (.nil (.ret (.blkRet (.thenRet (.thenRet (.blkRet (.thenRet ?_))))))))
       replace h:=yf hK21 (za h)
       replace h:=hD19 _ (za h)
       replace h:=z8 hK18 (za h)
       obtain rfl:=za h
       exact zb.rt Tryz.results16 o
      ·
       exact .skip (.blkNormal (zb.j _ (za h)))
     ·
      have h:=yD hK21 hj21
      exact .rn mx (.adi o (.mv o (.nil (zb.ag (za h)))))
    ·
     refine .exit (.thenExit (.thenExit (.blkExit ?_)))
     replace h:=hD19 _ (za h)
     exact zb.j _ (za h)
   ·
    have h:=yn hK18 hj18
    refine .seq (.sn mx (.fa yX qc o (.ld y8 o (.ln yh o (.mvi (.nil ?_))))))
    obtain⟨o_26,h,hK26⟩:=ym h
    refine .tJ (fun s=>o_26=Res.nx s) Sub.nil zd.nil ?_ (fun j_26 hj26=>?_)
    ·
     refine .block (.rforEL h (fun p27_=>[(78,⟨True,rep p27_.1⟩)]) (fun p27_=>[]) (.k 78 o .nil) zd.nil (.k2 1 76 o o (.k 77 o .nil)) zd.nil (fun p27_ o_27 h hD27=>(.sn mx (.lt o o (.nil (.seq (.cb o h (fun _ h=>?_) fun _ h=>?_)))))))
     ·
      refine .skip (.then (.seq ?_))
      obtain⟨o_29,h,hK29⟩:=yB h
      unfold zfv at h
      refine .tJ (fun s=>o_29=Res.nx s) (.k4 1 76 77 78 o o o o .nil) zd.nil ?_ (fun j_29 hj29=>?_)
      ·
       obtain⟨hn30,h⟩:=zo h
       obtain⟨v4,hv31,h⟩:=zn h
       obtain⟨r3,hv32,h⟩:=bind_some h
       refine .block (.sr [oo,oo,([],[15]),([15],[15])] mx (.ixA yh zJ o o hn30 (.rlA hv31 zJ o (.al ja o (.st zJ o o o (.nil (.freeze (t:=15) o o zd.nil o (.sn mx (.fa qV qO o (.ld ty3 o (.eqi o (.mv o (.c (.load (.at o o) yq (.s o)) (.fg qI qJ o o o (.lg ty9 o o o (.c (.callIf (.at o o) zpS (fun hg=>(zlY ((fun hg=>qf hv32 (hg.2)) hg)).frz) (.cons (.tmp o id) (.cons (.tmp o id) .nil)) (fun h=>h)) (.c (.len (.at o o) yh (.tmp o id)) (.c (.eqI (.at o o) (.tmp o id) .i) (.pa o o (.nil (.cb o h (fun _ h=>?_) fun _ h=>?_)))))))))))))))))))))
       ·
        refine .sn mx (.asi (.nil (.ret (.blkRet (.thenRet (.thenRet (.blkRet (.thenRet ?_))))))))
        replace h:=yf hK29 (za h)
        replace h:=hD27 _ (za h)
        replace h:=z8 hK26 (za h)
        obtain rfl:=za h
        exact zb.rt Tryz.results16 o
       ·
        exact .skip (.blkNormal (zb.j _ (za h)))
      ·
       have h:=yD hK29 hj29
       exact .rn mx (.adi o (.mv o (.nil (zb.ag (za h)))))
     ·
      refine .exit (.thenExit (.thenExit (.blkExit ?_)))
      replace h:=hD27 _ (za h)
      exact zb.j _ (za h)
    ·
     have h:=yn hK26 hj26
     refine .sn mx (.asi (.nil (.ret ?_)))
     obtain rfl:=za h
     exact zb.rt Tryz.results16 o
theorem zsI {y1:zu}{c0_1:zu}{r:Bool}  (h:zc1 y1 c0_1=some r):zk Tryz.prog 63 [rep y1,ref c0_1] (rep r):=by
 unfold zc1 at h
 refine zk.i Tryz.func63 o Tryz.ntmps63 o (fun F=>(.sn mx (.c (.box .none (.s o)) (.asb (.nil (.sn mx (.fa j8 vt o (.ld ty9 o (.fa j8 vt o (.ld ty9 o (.c (.eqS .none (yy Tryz.underlying9) (.s o) (.s o)) (.asn o (.nil (.ret ?_))))))))))))))
 obtain rfl:=za h
 exact zb.rt Tryz.results63 o
theorem ztD {s1:(List zu)}{f1:(zu→Option Bool)}{r:Int}  (h:zdi s1 f1=some r):zk Tryz.prog 112 [rep s1,fn1 Tryz.prog (rep (α:=Bool)) f1] (rep r):=by
 unfold zdi at h
 refine zk.i Tryz.func112 o Tryz.ntmps112 o (fun F=>(.sn mx (.asi (.nil (.seq (.sn mx (.mv o (.ln qY o (.mvi (.nil ?_))))))))))
 obtain⟨o_1,h,hK1⟩:=ym h
 refine .tJ (fun s=>o_1=Res.nx s) Sub.nil zd.nil ?_ (fun j_1 hj1=>?_)
 ·
  refine .block (.rforEL h (fun p2_=>[(8,⟨True,rep p2_.1⟩)]) (fun p2_=>[]) (.k 8 o .nil) zd.nil (.k2 0 1 o o (.k 7 o .nil)) zd.nil (fun p2_ o_2 h hD2=>(.sn mx (.lt o o (.nil (.seq (.cb o h (fun _ h=>?_) fun _ h=>?_)))))))
  ·
   refine .skip (.then (.seq ?_))
   obtain⟨o_4,h,hK4⟩:=yB h
   unfold zhR at h
   refine .tJ (fun s=>o_4=Res.nx s) (.k4 0 1 7 8 o o o o .nil) zd.nil ?_ (fun j_4 hj4=>?_)
   ·
    obtain⟨hn5,h⟩:=zo h
    obtain⟨r1,hv6,h⟩:=bind_some h
    refine .block (.sn mx (.mv o (.asn o (.nil (.sn mx (.mv o (.mv o (.mv o (.ix qY yW o o hn5 (.ld yW o (.c (.callV (gx s1 p2_.1,r1) .none (.s o) (fun _=>hv6) (.cons (.s o) .nil)) (.nil (.cb o h (fun _ h=>?_) fun _ h=>?_)))))))))))))
    ·
     refine .sn mx (.mv o (.asn o (.nil (.ret (.blkRet (.thenRet (.thenRet (.blkRet (.thenRet ?_)))))))))
     replace h:=yf hK4 (za h)
     replace h:=hD2 _ (za h)
     replace h:=z8 hK1 (za h)
     obtain rfl:=za h
     exact zb.rt Tryz.results112 o
    ·
     exact .skip (.blkNormal (zb.j _ (za h)))
   ·
    have h:=yD hK4 hj4
    exact .rn mx (.adi o (.mv o (.nil (zb.ag (za h)))))
  ·
   refine .exit (.thenExit (.thenExit (.blkExit ?_)))
   replace h:=hD2 _ (za h)
   exact zb.j _ (za h)
 ·
  have h:=yn hK1 hj1
  refine .sn mx (.asi (.nil (.ret ?_)))
  obtain rfl:=za h
  exact zb.rt Tryz.results112 o
theorem ztw {s1:(List zu)}{f1:(zu→Option Bool)}{r:Bool}  (h:zdc s1 f1=some r):zk Tryz.prog 62 [rep s1,fn1 Tryz.prog (rep (α:=Bool)) f1] (rep r):=by
 unfold zdc at h
 obtain⟨r1,hv1,h⟩:=bind_some h
 refine zk.i Tryz.func62 o Tryz.ntmps62 o (fun F=>(.sn mx (.asb (.nil (.sn mx (.mv o (.mv o (.c (.call .none (ztD hv1) (.cons (.s o) (.cons (.s o) .nil))) (.c (.ge .none (.s o) .i) (.asn o (.nil (.ret ?_))))))))))))
 obtain rfl:=za h
 exact zb.rt Tryz.results62 o
theorem zsA {side1:Int}{at1:Int}{r:Int}  (h:zcU side1 at1=some r):zk Tryz.prog 64 [rep side1,rep at1] (rep r):=by
 unfold zcU at h
 obtain⟨r1,hv1,h⟩:=bind_some h
 obtain⟨r2,hv2,h⟩:=bind_some h
 refine zk.i Tryz.func64 o Tryz.ntmps64 o (fun F=>(.sn mx (.asi (.nil (.sn mx (.mv o (.c (.call .none (Jc hv1) (.cons (.s o) (.cons .i (.cons .i .nil)))) (.c (.not .none (.s o)) (.mv o (.mg o o o (.c (.callIf (.at o o) zec (fun hg=>Jc ((fun hg=>qf hv2 ((Qx hg.2))) hg)) (.cons (.tmp o id) (.cons .i (.cons .i .nil))) (fun h=>h)) ?_)))))))))))
 obtain⟨r3,hv3,h⟩:=bind_some h
 refine .c (.not (.at o o) (.tmp o id)) (.po o o (.c (.call .none (jt hv3) (.cons (.s o) (.cons .i .nil))) (.asn o (.nil (.ret ?_)))))
 obtain rfl:=za h
 exact zb.rt Tryz.results64 o
theorem zsz {l1:(List zz)}{r:Int}  (h:zbf l1=some r):zk Tryz.prog 65 [rep l1] (rep r):=by
 unfold zbf at h
 refine zk.i Tryz.func65 o Tryz.ntmps65 o (fun F=>(.sn mx (.asi (.nil (.seq (.sn mx (.mv o (.ln ji o (.c (.gt .none (.s o) .i) (.nil (.cb o h (fun _ h=>?_) fun _ h=>?_)))))))))))
 ·
  refine .sn mx (.asi (.nil (.ret (.thenRet ?_))))
  obtain rfl:=za h
  exact zb.rt Tryz.results65 o
 ·
  refine .skip (.then (.seq (.sn mx (.mv o (.ln ji o (.mvi (.nil ?_)))))))
  obtain⟨o_2,h,hK2⟩:=ym h
  refine .tJ (fun s=>o_2=Res.nx s) Sub.nil zd.nil ?_ (fun j_2 hj2=>?_)
  ·
   refine .block (.rforEL h (fun p3_=>[(11,⟨True,rep p3_.1⟩)]) (fun p3_=>[]) (.k 11 o .nil) zd.nil (.k2 9 10 o o .nil) zd.nil (fun p3_ o_3 h hD3=>(.sn mx (.lt o o (.nil (.seq (.cb o h (fun _ h=>?_) fun _ h=>?_)))))))
   ·
    refine .skip (.then (.seq ?_))
    obtain⟨o_5,h,hK5⟩:=yB h
    unfold zhw at h
    refine .tJ (fun s=>o_5=Res.nx s) (.k2 9 10 o o (.k 11 o .nil)) zd.nil ?_ (fun j_5 hj5=>?_)
    ·
     obtain⟨hn6,h⟩:=zo h
     obtain⟨v1,hv7,h⟩:=zn h
     obtain⟨e1,hv8,h⟩:=bind_some h
     refine .block (.sr [oo,oo,([],[4]),([4],[4])] mx (.ixA ji jk o o hn6 (.rlA hv7 jk o (.al zf1 o (.st jk o o o (.nil (.freeze (t:=4) o o zd.nil o (.sn mx (.ld jk o (.c (.call .none (zlT hv8) (.cons (.s o) .nil)) (.asn o (.nil (.sn mx (.mv o (.nei o (.nil (.cb o h (fun _ h=>?_) fun _ h=>?_)))))))))))))))))
     ·
      refine .sn mx (.mv o (.asn o (.nil (.ret (.blkRet (.thenRet (.thenRet (.blkRet (.thenRet ?_)))))))))
      replace h:=yf hK5 (za h)
      replace h:=hD3 _ (za h)
      replace h:=z8 hK2 (za h)
      obtain rfl:=za h
      exact zb.rt Tryz.results65 o
     ·
      exact .skip (.blkNormal (zb.j _ (za h)))
    ·
     have h:=yD hK5 hj5
     exact .rn mx (.adi o (.mv o (.nil (zb.ag (za h)))))
   ·
    refine .exit (.thenExit (.thenExit (.blkExit ?_)))
    replace h:=hD3 _ (za h)
    exact zb.j _ (za h)
  ·
   have h:=yn hK2 hj2
   refine .sn mx (.asi (.nil (.ret ?_)))
   obtain rfl:=za h
   exact zb.rt Tryz.results65 o
theorem zsJ {d1:Doc}{i1:Int}{r:Int}  (h:zc0 d1 i1=some r):zk Tryz.prog 17 [rep d1,rep i1] (rep r):=by
 unfold zc0 at h
 obtain⟨hn1,h⟩:=zo h
 obtain⟨v1,hv2,h⟩:=zn h
 obtain⟨r1,hv3,h⟩:=bind_some h
 obtain⟨hn4,h⟩:=zo h
 refine zk.i Tryz.func17 o Tryz.ntmps17 o (fun F=>(.sn mx (.c (.box .none (.s o)) (.asi (.nil (.sr [oo,oo,oo,oo,oo,([],[5]),([5],[5])] mx (.faA vM Qv o (.ldA Qr o (.mvA o (.ixA qY yW o o hn1 (.rlA hv2 yW o (.al YC o (.st yW o o o (.nil (.freeze (t:=5) o o zd.nil o (.sn mx (.ld yq o (.fa j8 vt o (.ld ty9 o (.c (.call .none (zcS hv3) (.cons (.s o) (.cons (.s o) .nil))) (.c (.ge .none (.s o) .i) (.mv o (.fg vM Qv o o o (.lg Qr o o o (.mg o o o (.c (.slice (.at o o) qY yW (.tmp o id) o (.tmp o id) (fun hg=>hn4 hg.2)) (.c (.makeFunc (ι:=zu×Bool) (pre:=fun i=>(fun x0=>zc1 x0 v1) i.1=some i.2) (Ss:=fun i=>[rep i.1]) (S:=fun i=>rep i.2) (.at o o) zpU (fun i h=>zsI h) (.cons (.s o) .nil)) ?_)))))))))))))))))))))))))))
 obtain⟨r2,hv5,h⟩:=bind_some h
 refine .c (.callIf (.at o o) zpT (fun hg=>ztw ((fun hg=>qf hv5 ((Qx hg.2))) hg)) (.cons (.tmp o id) (.cons (.tmp o id) .nil)) (fun h=>h)) ?_
 obtain⟨r3,hv6,h⟩:=bind_some h
 obtain⟨r4,hv7,h⟩:=bind_some h
 obtain⟨r5,hv8,h⟩:=bind_some h
 obtain⟨e1,hv9,h⟩:=bind_some h
 refine .po o o (.asn o (.nil (.seq (.sn mx (.fa j8 vt o (.ld ty9 o (.c (.call .none (zcQ hv6) (.cons (.s o) .nil)) (.c (.not .none (.s o)) (.c (.call .none (jt hv7) (.cons (.s o) (.cons .i .nil))) (.mv o (.c (.call .none (jt hv8) (.cons (.s o) (.cons .i .nil))) (.c (.buildSlice (xs:=[_,_]) .none QB QD Ym (.cons (.s o) (.cons (.s o) .nil)) o (by decide)) (.c (.call .none (Yt hv9) (.cons (.s o) .nil)) (.asn o (.nil (.sn mx (.mv o (.nei o (.nil (.cb o h (fun _ h=>?_) fun _ h=>?_))))))))))))))))))))
 ·
  refine .sn mx (.mv o (.asn o (.nil (.ret (.thenRet ?_)))))
  obtain rfl:=za h
  exact zb.rt Tryz.results17 o
 ·
  obtain⟨v2,hv11,h⟩:=zn h
  refine .skip (.then (.seq (.sn mx (.fa YN zaR o (.ld yV o (.fa YO zaS o (.ld yV o (.c (.re hv11 (.buildSlice (xs:=[_,_]) .none zbu yV zkf (.cons (.s o) (.cons (.s o) .nil)) o (by decide))) (.ln zbu o (.mvi (.nil ?_)))))))))))
  obtain⟨o_12,h,hK12⟩:=ym h
  refine .tJ (fun s=>o_12=Res.nx s) (.k 5 o .nil) zd.nil ?_ (fun j_12 hj12=>?_)
  ·
   refine .block (.rforEL h (fun p13_=>[(48,⟨True,rep p13_.1⟩)]) (fun p13_=>[]) (.k 48 o .nil) zd.nil (.k4 2 5 46 47 o o o o .nil) zd.nil (fun p13_ o_13 h hD13=>(.sn mx (.lt o o (.nil (.seq (.cb o h (fun _ h=>?_) fun _ h=>?_)))))))
   ·
    refine .skip (.then (.seq ?_))
    obtain⟨o_15,h,hK15⟩:=yB h
    unfold zfo at h
    refine .tJ (fun s=>o_15=Res.nx s) (.k4 2 5 46 47 o o o o (.k 48 o .nil)) zd.nil ?_ (fun j_15 hj15=>?_)
    ·
     obtain⟨hn16,h⟩:=zo h
     obtain⟨v3,hv17,h⟩:=zn h
     obtain⟨k1,hv18,h⟩:=bind_some h
     refine .block (.sr [oo,oo,([],[9]),([9],[9])] mx (.ixA zbu yV o o hn16 (.rlA hv17 yV o (.al zf0 o (.st yV o o o (.nil (.freeze (t:=9) o o zd.nil o (.sn mx (.ld yq o (.fa zb8 zck o (.ld ty9 o (.c (.call .none (zcS hv18) (.cons (.s o) (.cons (.s o) .nil))) (.asn o (.nil (.seq (.sn mx (.mv o (.c (.lt .none (.s o) .i) (.nil (.cb o h (fun _ h=>?_) fun _ h=>?_))))))))))))))))))))
     ·
      refine .sn mx (.asi (.nil (.ret (.thenRet (.blkRet (.thenRet (.thenRet (.blkRet (.thenRet ?_)))))))))
      replace h:=yf hK15 (za h)
      replace h:=hD13 _ (za h)
      replace h:=z8 hK12 (za h)
      obtain rfl:=za h
      exact zb.rt Tryz.results17 o
     ·
      obtain⟨hn20,h⟩:=zo h
      obtain⟨r6,hv21,h⟩:=bind_some h
      obtain⟨r7,hv22,h⟩:=bind_some h
      obtain⟨e2,hv23,h⟩:=bind_some h
      refine .skip (.then (.sn mx (.fa yX qc o (.ld y8 o (.mv o (.ix yh zJ o o hn20 (.fa qV qO o (.ld ty3 o (.eqi o (.c (.call .none (jt hv21) (.cons (.s o) (.cons .i .nil))) (.fa JF JM o (.ld ty3 o (.fa zaG zaQ o (.ld ty3 o (.c (.call .none (zsA hv22) (.cons (.s o) (.cons (.s o) .nil))) (.c (.buildSlice (xs:=[_,_]) .none QB QD Ym (.cons (.s o) (.cons (.s o) .nil)) o (by decide)) (.c (.call .none (Yt hv23) (.cons (.s o) .nil)) (.asn o (.nil (.sn mx (.mv o (.nei o (.nil (.cb o h (fun _ h=>?_) fun _ h=>?_))))))))))))))))))))))))
      ·
       refine .sn mx (.mv o (.asn o (.nil (.ret (.blkRet (.thenRet (.thenRet (.blkRet (.thenRet ?_)))))))))
       replace h:=yf hK15 (za h)
       replace h:=hD13 _ (za h)
       replace h:=z8 hK12 (za h)
       obtain rfl:=za h
       exact zb.rt Tryz.results17 o
      ·
       exact .skip (.blkNormal (zb.j _ (za h)))
    ·
     have h:=yD hK15 hj15
     exact .rn mx (.adi o (.mv o (.nil (zb.ag (za h)))))
   ·
    refine .exit (.thenExit (.thenExit (.blkExit ?_)))
    replace h:=hD13 _ (za h)
    exact zb.j _ (za h)
  ·
   have h:=yn hK12 hj12
   refine .seq (.sn mx (.fa Qu Yk o (.ld QE o (.ln ji o (.c (.gt .none (.s o) .i) (.nil (.cb o h (fun _ h=>?_) fun _ h=>?_)))))))
   ·
    refine .sn mx (.asi (.nil (.ret (.thenRet ?_))))
    obtain rfl:=za h
    exact zb.rt Tryz.results17 o
   ·
    obtain⟨r8,hv26,h⟩:=bind_some h
    obtain⟨r9,hv27,h⟩:=bind_some h
    obtain⟨r10,hv28,h⟩:=bind_some h
    obtain⟨r11,hv29,h⟩:=bind_some h
    refine .skip (.then (.sn mx (.fa Qu Yk o (.ld QE o (.c (.call .none (zsz hv26) (.cons (.s o) .nil)) (.fa JG zaT o (.ld ty9 o (.c (.call .none (zhy hv27) (.cons (.s o) .nil)) (.fa YP JN o (.ld ty9 o (.c (.call .none (zlX hv28) (.cons (.s o) .nil)) (.c (.buildSlice (xs:=[_,_,_]) .none QB QD Ym (.cons (.s o) (.cons (.s o) (.cons (.s o) .nil))) o (by decide)) (.c (.call .none (Yt hv29) (.cons (.s o) .nil)) (.asn o (.nil (.ret ?_))))))))))))))))
    obtain rfl:=za h
    exact zb.rt Tryz.results17 o
theorem zsu {l1:(List Box)}{r:(Box×Int)}  (h:zbc l1=some r):zk Tryz.prog 66 [rep l1] (tup [rep r.1,rep r.2]):=by
 unfold zbc at h
 obtain⟨v1,hv1,h⟩:=zn h
 refine zk.i Tryz.func66 o Tryz.ntmps66 o (fun F=>(.sr [([],[2]),oo] mx (.al jY o (.cA (.assign .none .i) (.nil (.reB (t:=2) o (congrArg (zM 43) hv1) (.nameBox (t:=2) (g:=5001) o o (fun m5001=>(.seq (.sn mx (.mv o (.ln jN o (.eqi o (.nil (.cb o h (fun _ h=>?_) fun _ h=>?_)))))))))))))))
 ·
  obtain⟨v2,hv3,h⟩:=zn h
  refine .sr [oo,([5001],[5001]),oo] mx (.cA (.re hv3 (.buildF (y:=(⟨(0:Int),(0:Int),(0:Int),(0:Int)⟩:Box)) .none qR q9 o .nil .nil)) (.s0 5001 zN o o o (.cA (.assign .none .i) (.nil (.fb 5001 [2] o (.cons (t:=2) o trivial .nil) (.ret (.thenRet ?_)))))))
  obtain rfl:=za h
  exact zb.r2 Tryz.results66 zN o o
 ·
  obtain⟨hn4,h⟩:=zo h
  obtain⟨hn5,h⟩:=zo h
  obtain⟨hn6,h⟩:=zo h
  obtain⟨hn7,h⟩:=zo h
  obtain⟨x1,hv8,h⟩:=zn h
  obtain⟨y1,hv9,h⟩:=zn h
  obtain⟨r1,hv10,h⟩:=zn h
  obtain⟨d1,hv11,h⟩:=zn h
  refine .skip (.then (.sn mx (.mv o (.c (.indexAddr .none jN zN (.s o) .i (fun _=>hn4)) (.fa vn va o (.ld ty3 o (.mv o (.c (.indexAddr .none jN zN (.s o) .i (fun _=>hn5)) (.fa vo vb o (.ld ty3 o (.mv o (.c (.indexAddr .none jN zN (.s o) .i (fun _=>hn6)) (.fa vn va o (.ld ty3 o (.mv o (.c (.indexAddr .none jN zN (.s o) .i (fun _=>hn7)) (.fa vo vb o (.ld ty3 o (.ra hv8 o (.ra hv9 o (.ra hv10 o (.ra hv11 o (.nil (.seq (.sn mx (.mv o (.ln jN o (.mvi (.nil ?_)))))))))))))))))))))))))))))
  obtain⟨j_12,h,hK12⟩:=bind_some h
  refine .thenJ (ι:=(Int×Int×Int×Int)) (fun j_12=>[(4,⟨True,rep j_12.1⟩),(5,⟨True,rep j_12.2.1⟩),(6,⟨True,rep j_12.2.2.1⟩),(7,⟨True,rep j_12.2.2.2⟩)]) (fun j_12=>[]) (fun s=>j_12=s) (.k 2 o .nil) (.k 5001 o .nil) ?_ (fun j_12' hj12=>?_)
  ·
   refine .block (.rforL h (fun p13_=>[(32,⟨True,rep p13_.1⟩),(4,⟨True,rep p13_.2.1⟩),(5,⟨True,rep p13_.2.2.1⟩),(6,⟨True,rep p13_.2.2.2.1⟩),(7,⟨True,rep p13_.2.2.2.2⟩)]) (fun p13_=>[]) (.k4 32 4 5 6 o o o o (.k 7 o .nil)) zd.nil (.k2 2 30 o o (.k 31 o .nil)) (.k 5001 o .nil) (fun p13_ o_13 h hD13=>(.sn mx (.lt o o (.nil (.seq (.cb o h (fun _ h=>?_) fun _ h=>?_)))))))
   ·
    refine .skip (.then (.seq ?_))
    obtain⟨j_15,h,hK15⟩:=bind_some h
    unfold zfg at h
    refine .thenJ (ι:=(Int×Int×Int×Int)) (fun j_15=>[(4,⟨True,rep j_15.1⟩),(5,⟨True,rep j_15.2.1⟩),(6,⟨True,rep j_15.2.2.1⟩),(7,⟨True,rep j_15.2.2.2⟩)]) (fun j_15=>[]) (fun s=>j_15=s) (.k4 2 30 31 32 o o o o .nil) (.k 5001 o .nil) ?_ (fun j_15' hj15=>?_)
    ·
     obtain⟨hn16,h⟩:=zo h
     obtain⟨v3,hv17,h⟩:=zn h
     obtain⟨x2,hv18,h⟩:=zn h
     obtain⟨y2,hv19,h⟩:=zn h
     obtain⟨r2,hv20,h⟩:=zn h
     obtain⟨d2,hv21,h⟩:=zn h
     exact .block (.sr [oo,oo,([],[9]),([9],[9])] mx (.ixA jN zN o o hn16 (.rlA hv17 zN o (.al jY o (.st zN o o o (.nil (.freeze (t:=9) o o (.k 5001 o .nil) o (.rn mx (.mv o (.fa vn va o (.ld ty3 o (.c (.min2 .none (.s o) (.s o)) (.mv o (.fa vo vb o (.ld ty3 o (.c (.min2 .none (.s o) (.s o)) (.mv o (.fa vn va o (.ld ty3 o (.fa Qe vO o (.ld ty3 o (.add o o (.c (.max2 .none (.s o) (.s o)) (.mv o (.fa vo vb o (.ld ty3 o (.fa Qf vP o (.ld ty3 o (.add o o (.c (.max2 .none (.s o) (.s o)) (.ra hv18 o (.ra hv19 o (.ra hv20 o (.ra hv21 o (.nil (.blkNormal (zb.j _ (za h))))))))))))))))))))))))))))))))))))))
    ·
     subst hj15;have h:=hK15;clear hK15
     exact .rn mx (.adi o (.mv o (.nil (zb.ag (za h)))))
   ·
    refine .exit (.thenExit (.thenExit (.blkExit ?_)))
    replace h:=hD13 _ (za h)
    exact zb.j _ (za h)
  ·
   subst hj12;have h:=hK12;clear hK12
   refine .seq (.sn mx (.mv o (.mv o (.sub o o (.c (.gt .none (.s o) .i) (.mv o (.mg o o o (.mg o o o (.c (.subW (.at o o) (.tmp o id) (.tmp o id)) (.c (.gt (.at o o) (.tmp o id) .i) (.po o o (.nil (.cb o h (fun _ h=>?_) fun _ h=>?_)))))))))))))
   ·
    obtain⟨v4,hv23,h⟩:=zn h
    refine .sr [oo,([5001],[5001]),oo] mx (.cA (.re hv23 (.buildF (y:=(⟨(0:Int),(0:Int),(0:Int),(0:Int)⟩:Box)) .none qR q9 o .nil .nil)) (.s0 5001 zN o o o (.cA (.assign .none .i) (.nil (.fb 5001 [2] o (.cons (t:=2) o trivial .nil) (.ret (.thenRet ?_)))))))
    obtain rfl:=za h
    exact zb.r2 Tryz.results66 zN o o
   ·
    obtain⟨v5,hv24,h⟩:=zn h
    refine .skip (.then (.sr [oo,oo,oo,oo,oo,oo,oo,oo,oo,([5001],[5001]),oo] mx (.mvA o (.mvA o (.mvA o (.mvA o (.subA o o (.mvA o (.mvA o (.subA o o (.cA (.re hv24 (.buildF (y:=(⟨j_12.1,j_12.2.1,W (j_12.2.2.1 - j_12.1),W (j_12.2.2.2 - j_12.2.1)⟩:Box)) .none qR q9 o (.cons (.s o) (.cons (.s o) (.cons (.s o) (.cons (.s o) .nil)))) (.cons o zbq (.cons o zbr (.cons o zbs (.cons o zbt .nil)))))) (.s0 5001 zN o o o (.cA (.assign .none .i) (.nil (.fb 5001 [2] o (.cons (t:=2) o trivial .nil) (.ret ?_))))))))))))))))
    obtain rfl:=za h
    exact zb.r2 Tryz.results66 zN o o
theorem zss {self:(Doc×Str)→Option (Box×Int)}(hself:∀(x:(Doc×Str)) (r:(Box×Int)),self x=some r→zk Tryz.prog 18 [rep x.1,rep x.2] (tup [rep r.1,rep r.2]))  {x:(Doc×Str)}{r:(Box×Int)}(h:QA self x=some r):zk Tryz.prog 18 [rep x.1,rep x.2] (tup [rep r.1,rep r.2]):=by
 unfold QA at h
 obtain⟨v1,hv1,h⟩:=zn h
 obtain⟨r1,hv2,h⟩:=bind_some h
 obtain⟨hn3,h⟩:=zo h
 obtain⟨v2,hv4,h⟩:=zn h
 refine zk.i Tryz.func18 o Tryz.ntmps18 o (fun F=>(.sr [oo,([],[4]),oo] mx (.cA (.box .none (.s o)) (.al jY o (.cA (.assign .none .i) (.nil (.reB (t:=4) o (congrArg (zM 43) hv1) (.nameBox (t:=4) (g:=5001) o o (fun m5001=>(.sr [oo,oo,oo,oo,oo,oo,oo,([],[6]),([6],[6])] mx (.faA yX qc o (.ldA y8 o (.ldA yq o (.mvA o (.cA (.call .none (zcS hv2) (.cons (.s o) (.cons (.s o) .nil))) (.ixA yh zJ o o hn3 (.rlA hv4 zJ o (.al ja o (.st zJ o o o (.nil (.freeze (t:=6) o o (.k 5001 o .nil) o (.seq (.sn mx (.fa qV qO o (.ld ty3 o (.nei o (.nil (.cb o h (fun _ h=>?_) fun _ h=>?_))))))))))))))))))))))))))))
 ·
  refine .sr [oo,oo,([5001],[5001]),oo] mx (.faA jQ vc o (.ldA zN o (.s0 5001 zN o o o (.cA (.assign .none .i) (.nil (.fb 5001 [4] o (.cons (t:=4) o trivial .nil) (.ret (.thenRet ?_))))))))
  obtain rfl:=za h
  exact zb.r2 Tryz.results18 zN o o
 ·
  obtain⟨r2,hv6,h⟩:=bind_some h
  refine .skip (.then (.sr [([],[7])] mx (.cW (.nilRow (T:=43) (α:=Box) o) (.nil (.nameRow (t:=7) (g:=5002) o o o (fun s5002=>(.seq (.sn mx (.ld yq o (.mv o (.c (.call .none (zlY hv6).frz (.cons (.s o) (.cons (.s o) .nil))) (.ln yh o (.mvi (.nil ?_))))))))))))))
  obtain⟨o_7,h,hK7⟩:=ym h
  refine .thenJ (ι:=(List Box)) (fun j_7=>[]) (fun j_7=>[(7,some (zq 43 j_7))]) (fun s=>o_7=Res.nx s) (.k 4 o .nil) (.k 5001 o .nil) ?_ (fun j_7 hj7=>?_)
  ·
   refine .block (.anon (t:=7) (g:=5002) o o trivial o (.rforEL h (fun p8_=>[(30,⟨True,rep p8_.1⟩)]) (fun p8_=>[(7,some (zq 43 p8_.2))]) (.k 30 o .nil) (.k 7 o .nil) (.k4 2 4 28 29 o o o o .nil) (.k 5001 o .nil) (fun p8_ o_8 h hD8=>(.nameRow (t:=7) (g:=5003) o o o (fun s5003=>(.sn mx (.lt o o (.nil (.seq (.cb o h (fun _ h=>?_) fun _ h=>?_))))))))))
   ·
    refine .skip (.then (.seq ?_))
    obtain⟨o_10,h,hK10⟩:=yB h
    unfold zba at h
    refine .thenJ (ι:=(List Box)) (fun j_10=>[]) (fun j_10=>[(7,some (zq 43 j_10))]) (fun s=>o_10=Res.nx s) (.k4 2 4 28 29 o o o o (.k 30 o .nil)) (.k 5001 o .nil) ?_ (fun j_10 hj10=>?_)
    ·
     obtain⟨hn11,h⟩:=zo h
     obtain⟨v3,hv12,h⟩:=zn h
     obtain⟨r3,hv13,h⟩:=bind_some h
     refine .block (.sr [oo,oo,([],[9]),([9],[9])] mx (.ixA yh zJ o o hn11 (.rlA hv12 zJ o (.al ja o (.st zJ o o o (.nil (.freeze (t:=9) o o (.k2 5001 5003 o o .nil) o (.sr [oo,oo,oo,oo,oo,oo,oo,([],[10]),([10],[10]),oo] mx (.ldA yq o (.faA qI qJ o (.ldA ty9 o (.cA (.call .none (hself _ _ hv13) (.cons (.s o) (.cons (.s o) .nil))) (.mvA o (.exA o o (.exA o o (.al jY o (.st zN o o o (.asnA o (.nil (.freeze (t:=10) o o (.k2 5001 5003 o o .nil) o (.seq (.sn mx (.mv o (.nei o (.nil (.cb o h (fun _ h=>?_) fun _ h=>?_))))))))))))))))))))))))))
     ·
      obtain⟨v4,hv15,h⟩:=zn h
      refine .sr [oo,oo,([5001],[5001]),oo] mx (.cA (.re hv15 (.buildF (y:=(⟨(0:Int),(0:Int),(0:Int),(0:Int)⟩:Box)) .none qR q9 o .nil .nil)) (.mvA o (.s0 5001 zN o o o (.asnA o (.nil (.fb 5001 [4] o (.cons (t:=4) o trivial .nil) (.ret (.thenRet (.blkRet (.thenRet (.thenRet (.blkRet (.thenRet ?_)))))))))))))
      replace h:=yf hK10 (za h)
      replace h:=hD8 _ (za h)
      replace h:=z8 hK7 (za h)
      obtain rfl:=za h
      exact zb.r2 Tryz.results18 zN o o
     ·
      obtain⟨hn16,h⟩:=zo h
      exact .skip (.then (.rg [oo,oo,oo,([5003],[48,5003]),([48],[7,48])] mx (.mvA o (.ldA zN o (.cA (.buildSlice (xs:=[_]) .none jN zN zke (.cons (.s o) .nil) o (by decide)) (.cW (.append (k:=5003) zl6 o (.told (.s o) o) (.s o) hn16) (.cW (.passRow o (.tmp o)) (.nil (.blkNormal (zb.j _ (za h)))))))))))
    ·
     have h:=yD hK10 hj10
     exact .nameRow (t:=7) (g:=5004) o o o (fun s5004=>(.rn mx (.adi o (.mv o (.nil (.anon (t:=7) (g:=5004) o o trivial o (zb.ag (za h))))))))
   ·
    refine .exit (.thenExit (.thenExit (.blkExit (.anon (t:=7) (g:=5003) o o trivial o ?_))))
    replace h:=hD8 _ (za h)
    exact zb.j _ (za h)
  ·
   have h:=yn hK7 hj7
   obtain⟨r4,hv17,h⟩:=bind_some h
   refine .freezeRowA (t:=7) o o (.k 5001 o .nil) o (.sr [oo,oo,oo,oo,oo,([],[12]),([12],[12]),oo] mx (.mvA o (.cA (.call .none (zsu hv17) (.cons (.s o) .nil)) (.mvA o (.exA o o (.exA o o (.al jY o (.st zN o o o (.asnA o (.nil (.nameBox (t:=12) (g:=5005) o o (fun m5005=>(.seq (.sn mx (.mv o (.nei o (.nil (.cb o h (fun _ h=>?_) fun _ h=>?_))))))))))))))))))
   ·
    obtain⟨v5,hv19,h⟩:=zn h
    refine .sr [oo,oo,([5001],[5001]),oo] mx (.cA (.re hv19 (.buildF (y:=(⟨(0:Int),(0:Int),(0:Int),(0:Int)⟩:Box)) .none qR q9 o .nil .nil)) (.mvA o (.s0 5001 zN o o o (.asnA o (.nil (.fb 5001 [4] o (.cons (t:=4) o trivial .nil) (.ret (.thenRet ?_))))))))
    obtain rfl:=za h
    exact zb.r2 Tryz.results18 zN o o
   ·
    obtain⟨v6,hv20,h⟩:=zn h
    obtain⟨r5,hv21,h⟩:=bind_some h
    refine .skip (.then (.sr [oo,([5005],[]),oo,oo,([5005],[]),oo,oo,([5005],[]),oo,oo,([5005],[]),oo,oo,([5005],[5005])] mx (.cA (.fieldPtr .none vn (.s o)) (.cA (.loadAt (k:=5005) .none ty3 o (.s o) va) (.cA (.subW .none (.s o) .i) (.cA (.fieldPtr .none vo (.s o)) (.cA (.loadAt (k:=5005) .none ty3 o (.s o) vb) (.cA (.subW .none (.s o) .i) (.cA (.fieldPtr .none Qe (.s o)) (.cA (.loadAt (k:=5005) .none ty3 o (.s o) vO) (.cA (.addW .none (.s o) .i) (.cA (.fieldPtr .none Qf (.s o)) (.cA (.loadAt (k:=5005) .none ty3 o (.s o) vP) (.cA (.addW .none (.s o) .i) (.cA (.re hv20 (.buildF (y:=(⟨W (r4.1.X - 10),W (r4.1.Y - 10),W (r4.1.W_+20),W (r4.1.H+20)⟩:Box)) .none qR q9 o (.cons (.s o) (.cons (.s o) (.cons (.s o) (.cons (.s o) .nil)))) (.cons o zbq (.cons o zbr (.cons o zbs (.cons o zbt .nil)))))) (.s0 5005 zN o o o (.nil (.freezeBox (g:=5005) (ts:=[12]) o (.cons (t:=12) o trivial .nil) (.k 5001 o .nil) o (.sr [oo,oo,oo,([5001],[5001]),oo] mx (.ldA zN o (.ldA zN o (.cA (.call .none (zlP hv21) (.cons (.s o) .nil)) (.s0 5001 zN o o o (.asnA o (.nil (.fb 5001 [4] o (.cons (t:=4) o trivial .nil) (.ret ?_)))))))))))))))))))))))))))
    obtain rfl:=za h
    exact zb.r2 Tryz.results18 zN o o
theorem zlQ:∀(k:Nat)  (x:(Doc×Str)) (r:(Box×Int)) (h:qp QA k x=some r),zk Tryz.prog 18 [rep x.1,rep x.2] (tup [rep r.1,rep r.2])
 | 0,x,r,h=>by simp[qp]at h
 | k+1,x,r,h=>zss (zlQ k) h
theorem zsr {d1:Doc}{id1:Str}{r:(Box×Int)}  (h:zcK d1 id1=some r):zk Tryz.prog 18 [rep d1,rep id1] (tup [rep r.1,rep r.2]):=
 let ⟨k,hk⟩:=zgQ h
 zlQ k (d1,id1) r hk
theorem zlR {d1:Doc}{r:Int}  (h:Ja d1=some r):zk Tryz.prog 4 [rep d1] (rep r):=by
 unfold Ja at h
 refine zk.i Tryz.func4 o Tryz.ntmps4 o (fun F=>(.sn mx (.c (.box .none (.s o)) (.asi (.nil (.seq (.sn mx (.fa yX qc o (.ld y8 o (.ln yh o (.c (.gt .none (.s o) .i) (.mv o (.fg vM Qv o o o (.lg Qr o o o (.c (.len (.at o o) qY (.tmp o id)) (.c (.gt (.at o o) (.tmp o id) .i) (.po o o (.nil (.cb o h (fun _ h=>?_) fun _ h=>?_)))))))))))))))))))
 ·
  refine .sn mx (.asi (.nil (.ret (.thenRet ?_))))
  obtain rfl:=za h
  exact zb.rt Tryz.results4 o
 ·
  refine .skip (.then (.seq (.sn mx (.fa yX qc o (.ld y8 o (.ln yh o (.mvi (.nil ?_))))))))
  obtain⟨o_2,h,hK2⟩:=ym h
  refine .tJ (fun s=>o_2=Res.nx s) (.k 1 o .nil) zd.nil ?_ (fun j_2 hj2=>?_)
  ·
   refine .block (.rforEL h (fun p3_=>[(25,⟨True,rep p3_.1⟩)]) (fun p3_=>[]) (.k 25 o .nil) zd.nil (.k2 1 24 o o .nil) zd.nil (fun p3_ o_3 h hD3=>(.sn mx (.lt o o (.nil (.seq (.cb o h (fun _ h=>?_) fun _ h=>?_)))))))
   ·
    refine .skip (.then (.seq ?_))
    obtain⟨o_5,h,hK5⟩:=yB h
    unfold zfc at h
    refine .tJ (fun s=>o_5=Res.nx s) (.k2 1 24 o o (.k 25 o .nil)) zd.nil ?_ (fun j_5 hj5=>?_)
    ·
     obtain⟨e1,hv6,h⟩:=bind_some h
     refine .block (.sn mx (.mv o (.asn o (.nil (.sn mx (.ld yq o (.mv o (.c (.call .none (zsN hv6) (.cons (.s o) (.cons (.s o) .nil))) (.asn o (.nil (.sn mx (.mv o (.nei o (.nil (.cb o h (fun _ h=>?_) fun _ h=>?_)))))))))))))))
     ·
      refine .sn mx (.mv o (.asn o (.nil (.ret (.blkRet (.thenRet (.thenRet (.blkRet (.thenRet ?_)))))))))
      replace h:=yf hK5 (za h)
      replace h:=hD3 _ (za h)
      replace h:=z8 hK2 (za h)
      obtain rfl:=za h
      exact zb.rt Tryz.results4 o
     ·
      exact .skip (.blkNormal (zb.j _ (za h)))
    ·
     have h:=yD hK5 hj5
     exact .rn mx (.adi o (.mv o (.nil (zb.ag (za h)))))
   ·
    refine .exit (.thenExit (.thenExit (.blkExit ?_)))
    replace h:=hD3 _ (za h)
    exact zb.j _ (za h)
  ·
   have h:=yn hK2 hj2
   obtain⟨e2,hv8,h⟩:=bind_some h
   refine .seq (.sn mx (.ld yq o (.c (.call .none (zsR hv8) (.cons (.s o) .nil)) (.asn o (.nil (.sn mx (.mv o (.nei o (.nil (.cb o h (fun _ h=>?_) fun _ h=>?_))))))))))
   ·
    refine .sn mx (.mv o (.asn o (.nil (.ret (.thenRet ?_)))))
    obtain rfl:=za h
    exact zb.rt Tryz.results4 o
   ·
    refine .skip (.then (.seq (.sn mx (.fa vM Qv o (.ld Qr o (.ln qY o (.mvi (.nil ?_))))))))
    obtain⟨o_10,h,hK10⟩:=ym h
    refine .tJ (fun s=>o_10=Res.nx s) (.k 1 o .nil) zd.nil ?_ (fun j_10 hj10=>?_)
    ·
     refine .block (.rforEL h (fun p11_=>[(43,⟨True,rep p11_.1⟩)]) (fun p11_=>[]) (.k 43 o .nil) zd.nil (.k2 1 42 o o .nil) zd.nil (fun p11_ o_11 h hD11=>(.sn mx (.lt o o (.nil (.seq (.cb o h (fun _ h=>?_) fun _ h=>?_)))))))
     ·
      refine .skip (.then (.seq ?_))
      obtain⟨o_13,h,hK13⟩:=yB h
      unfold zfd at h
      refine .tJ (fun s=>o_13=Res.nx s) (.k2 1 42 o o (.k 43 o .nil)) zd.nil ?_ (fun j_13 hj13=>?_)
      ·
       obtain⟨e3,hv14,h⟩:=bind_some h
       refine .block (.sn mx (.mv o (.asn o (.nil (.sn mx (.ld yq o (.mv o (.c (.call .none (zsJ hv14) (.cons (.s o) (.cons (.s o) .nil))) (.asn o (.nil (.sn mx (.mv o (.nei o (.nil (.cb o h (fun _ h=>?_) fun _ h=>?_)))))))))))))))
       ·
        refine .sn mx (.mv o (.asn o (.nil (.ret (.blkRet (.thenRet (.thenRet (.blkRet (.thenRet ?_)))))))))
        replace h:=yf hK13 (za h)
        replace h:=hD11 _ (za h)
        replace h:=z8 hK10 (za h)
        obtain rfl:=za h
        exact zb.rt Tryz.results4 o
       ·
        exact .skip (.blkNormal (zb.j _ (za h)))
      ·
       have h:=yD hK13 hj13
       exact .rn mx (.adi o (.mv o (.nil (zb.ag (za h)))))
     ·
      refine .exit (.thenExit (.thenExit (.blkExit ?_)))
      replace h:=hD11 _ (za h)
      exact zb.j _ (za h)
    ·
     have h:=yn hK10 hj10
     refine .seq (.sn mx (.fa yX qc o (.ld y8 o (.ln yh o (.mvi (.nil ?_))))))
     obtain⟨o_16,h,hK16⟩:=ym h
     refine .tJ (fun s=>o_16=Res.nx s) Sub.nil zd.nil ?_ (fun j_16 hj16=>?_)
     ·
      refine .block (.rforEL h (fun p17_=>[(56,⟨True,rep p17_.1⟩)]) (fun p17_=>[]) (.k 56 o .nil) zd.nil (.k2 1 54 o o (.k 55 o .nil)) zd.nil (fun p17_ o_17 h hD17=>(.sn mx (.lt o o (.nil (.seq (.cb o h (fun _ h=>?_) fun _ h=>?_)))))))
      ·
       refine .skip (.then (.seq ?_))
       obtain⟨o_19,h,hK19⟩:=yB h
       unfold zfe at h
       refine .tJ (fun s=>o_19=Res.nx s) (.k4 1 54 55 56 o o o o .nil) zd.nil ?_ (fun j_19 hj19=>?_)
       ·
        obtain⟨hn20,h⟩:=zo h
        obtain⟨v1,hv21,h⟩:=zn h
        obtain⟨r1,hv22,h⟩:=bind_some h
        refine .block (.sr [oo,oo,([],[9]),([9],[9])] mx (.ixA yh zJ o o hn20 (.rlA hv21 zJ o (.al ja o (.st zJ o o o (.nil (.freeze (t:=9) o o zd.nil o (.sr [oo,oo,oo,oo,oo,oo,oo,([],[10]),([10],[10]),oo] mx (.ldA yq o (.faA qI qJ o (.ldA ty9 o (.cA (.call .none (zsr hv22) (.cons (.s o) (.cons (.s o) .nil))) (.mvA o (.exA o o (.exA o o (.al jY o (.st zN o o o (.asnA o (.nil (.sn mx (.mv o (.nei o (.nil (.cb o h (fun _ h=>?_) fun _ h=>?_))))))))))))))))))))))))
        ·
         refine .sn mx (.mv o (.asn o (.nil (.ret (.blkRet (.thenRet (.thenRet (.blkRet (.thenRet ?_)))))))))
         replace h:=yf hK19 (za h)
         replace h:=hD17 _ (za h)
         replace h:=z8 hK16 (za h)
         obtain rfl:=za h
         exact zb.rt Tryz.results4 o
        ·
         exact .skip (.blkNormal (zb.j _ (za h)))
       ·
        have h:=yD hK19 hj19
        exact .rn mx (.adi o (.mv o (.nil (zb.ag (za h)))))
      ·
       refine .exit (.thenExit (.thenExit (.blkExit ?_)))
       replace h:=hD17 _ (za h)
       exact zb.j _ (za h)
     ·
      have h:=yn hK16 hj16
      refine .sn mx (.asi (.nil (.ret ?_)))
      obtain rfl:=za h
      exact zb.rt Tryz.results4 o
theorem zeV {s1:Str}{r:Bool}  (h:QP s1=some r):zk Tryz.prog 113 [rep s1] (rep r):=by
 unfold QP at h
 obtain⟨hn1,h⟩:=zo h
 obtain⟨hn2,h⟩:=zo h
 obtain⟨r1,hv3,h⟩:=bind_some h
 refine zk.i Tryz.func113 o Tryz.ntmps113 o (fun F=>(.sn mx (.asb (.nil (.sn mx (.mv o (.c (.neS .none (yy Tryz.underlying9) (.s o) (.str (l:=[]) (by decide))) (.mv o (.mg o o o (.c (.lenStr (.at o o) Tryz.underlying9 (.tmp o id)) (.c (.le (.at o o) (.tmp o id) .i) (.pa o o (.mv o (.mg o o o (.c (.indexStr (.at o o) Tryz.underlying9 (.tmp o id) .i (fun hg=>hn1 hg.2)) (.c (.kgeq (.at o o) (.tmp o id) .ki) (.c (.move (.at o o) (.tmp o id)) (.mg o o o (.c (.indexStr (.at o o) Tryz.underlying9 (.tmp o id) .i (fun hg=>hn2 hg.1.2 hg.2)) (.c (.kleq (.at o o) (.tmp o id) .ki) (.c (.pickAnd (.at o o) (.tmp o id) (.tmp o id)) (.pa o o (.mv o (.mg o o o (.c (.callIf (.at o o) zgS (fun hg=>zmZ ((fun hg=>qf hv3 (hg.2)) hg)) (.cons (.tmp o id) (.cons (.str (l:=[97,98,99,100,101,102,103,104,105,106,107,108,109,110,111,112,113,114,115,116,117,118,119,120,121,122,48,49,50,51,52,53,54,55,56,57,45]) (by decide)) .nil)) (fun h=>h)) (.c (.eqS (.at o o) (yy Tryz.underlying9) (.tmp o id) (.str (l:=[]) (by decide))) (.pa o o (.asn o (.nil (.ret ?_))))))))))))))))))))))))))))))
 obtain rfl:=za h
 exact zb.rt Tryz.results113 o
theorem zej {n1:Int}{r:Bool}  (h:YS n1=some r):zk Tryz.prog 148 [rep n1] (rep r):=by
 unfold YS at h
 refine zk.i Tryz.func148 o Tryz.ntmps148 o (fun F=>(.sn mx (.asb (.nil (.sn mx (.mv o (.c (.lt .none (.s o) .i) (.mv o (.mg o o o (.c (.gt (.at o o) (.tmp o id) .i) (.po o o (.asn o (.nil (.ret ?_))))))))))))))
 obtain rfl:=za h
 exact zb.rt Tryz.results148 o
theorem zeh {b1:Box}{r:Int}  (h:YR b1=some r):zk Tryz.prog 114 [rep b1] (rep r):=by
 unfold YR at h
 obtain⟨r1,hv1,h⟩:=bind_some h
 obtain⟨r2,hv2,h⟩:=bind_some h
 refine zk.i Tryz.func114 o Tryz.ntmps114 o (fun F=>(.sn mx (.c (.box .none (.s o)) (.asi (.nil (.seq (.sn mx (.fa vn va o (.ld ty3 o (.c (.call .none (zej hv1) (.cons (.s o) .nil)) (.mv o (.fg vo vb o o o (.lg ty3 o o o (.c (.callIf (.at o o) zjU (fun hg=>zej ((fun hg=>qf hv2 ((Qx hg.2))) hg)) (.cons (.tmp o id) .nil) (fun h=>h)) (.po o o (.mv o (.fg Qe vO o o o (.lg ty3 o o o (.c (.lt (.at o o) (.tmp o id) .i) (.po o o (.mv o (.fg Qe vO o o o (.lg ty3 o o o (.c (.gt (.at o o) (.tmp o id) .i) (.po o o (.mv o (.fg Qf vP o o o (.lg ty3 o o o (.c (.lt (.at o o) (.tmp o id) .i) (.po o o (.mv o (.fg Qf vP o o o (.lg ty3 o o o (.c (.gt (.at o o) (.tmp o id) .i) (.po o o (.nil (.cb o h (fun _ h=>?_) fun _ h=>?_)))))))))))))))))))))))))))))))))))))
 ·
  refine .sn mx (.asi (.nil (.ret (.thenRet ?_))))
  obtain rfl:=za h
  exact zb.rt Tryz.results114 o
 ·
  refine .skip (.then (.sn mx (.asi (.nil (.ret ?_)))))
  obtain rfl:=za h
  exact zb.rt Tryz.results114 o
theorem zfG {s1:Str}{r:Int}  (h:Yx s1=some r):zk Tryz.prog 91 [rep s1] (rep r):=by
 unfold Yx at h
 refine zk.i Tryz.func91 o Tryz.ntmps91 o (fun F=>(.sn mx (.asi (.nil (.seq (.sn mx (.mv o (.c (.lenStr .none Tryz.underlying9 (.s o)) (.c (.gt .none (.s o) .i) (.nil (.cb o h (fun _ h=>?_) fun _ h=>?_)))))))))))
 ·
  refine .sn mx (.asi (.nil (.ret (.thenRet ?_))))
  obtain rfl:=za h
  exact zb.rt Tryz.results91 o
 ·
  obtain⟨r1,hv2,h⟩:=bind_some h
  refine .skip (.then (.seq (.sn mx (.mv o (.c (.call .none (znk hv2) (.cons (.s o) .nil)) (.c (.not .none (.s o)) (.nil (.cb o h (fun _ h=>?_) fun _ h=>?_))))))))
  ·
   refine .sn mx (.asi (.nil (.ret (.thenRet ?_))))
   obtain rfl:=za h
   exact zb.rt Tryz.results91 o
  ·
   refine .skip (.then (.seq (.sn mx (.mv o (.c (.lenStr .none Tryz.underlying9 (.s o)) (.mvi (.nil ?_)))))))
   obtain⟨o_4,h,hK4⟩:=ym h
   refine .tJ (fun s=>o_4=Res.nx s) Sub.nil zd.nil ?_ (fun j_4 hj4=>?_)
   ·
    refine .block (.rforEL h (fun p5_=>[(12,⟨True,rep p5_.1⟩)]) (fun p5_=>[]) (.k 12 o .nil) zd.nil (.k2 0 11 o o .nil) zd.nil (fun p5_ o_5 h hD5=>(.sn mx (.lt o o (.nil (.seq (.cb o h (fun _ h=>?_) fun _ h=>?_)))))))
    ·
     refine .skip (.then (.seq ?_))
     obtain⟨o_7,h,hK7⟩:=yB h
     unfold zhL at h
     refine .tJ (fun s=>o_7=Res.nx s) (.k2 0 11 o o (.k 12 o .nil)) zd.nil ?_ (fun j_7 hj7=>?_)
     ·
      obtain⟨hn8,h⟩:=zo h
      obtain⟨hn9,h⟩:=zo h
      obtain⟨hn10,h⟩:=zo h
      refine .block (.sn mx (.mv o (.asn o (.nil (.sn mx (.mv o (.mv o (.c (.indexStr .none Tryz.underlying9 (.s o) (.s o) (fun _=>hn8)) (.c (.klss .none (.s o) .ki) (.mv o (.mg o o o (.mg o o o (.c (.indexStr (.at o o) Tryz.underlying9 (.tmp o id) (.tmp o id) (fun hg=>hn9 hg.2)) (.c (.kneq (.at o o) (.tmp o id) .ki) (.pa o o (.mv o (.mg o o o (.mg o o o (.c (.indexStr (.at o o) Tryz.underlying9 (.tmp o id) (.tmp o id) (fun hg=>hn10 hg.2)) (.c (.keql (.at o o) (.tmp o id) .ki) (.po o o (.nil (.cb o h (fun _ h=>?_) fun _ h=>?_)))))))))))))))))))))))
      ·
       refine .sn mx (.asi (.nil (.ret (.blkRet (.thenRet (.thenRet (.blkRet (.thenRet ?_))))))))
       replace h:=yf hK7 (za h)
       replace h:=hD5 _ (za h)
       replace h:=z8 hK4 (za h)
       obtain rfl:=za h
       exact zb.rt Tryz.results91 o
      ·
       exact .skip (.blkNormal (zb.j _ (za h)))
     ·
      have h:=yD hK7 hj7
      exact .rn mx (.adi o (.mv o (.nil (zb.ag (za h)))))
    ·
     refine .exit (.thenExit (.thenExit (.blkExit ?_)))
     replace h:=hD5 _ (za h)
     exact zb.j _ (za h)
   ·
    have h:=yn hK4 hj4
    refine .sn mx (.asi (.nil (.ret ?_)))
    obtain rfl:=za h
    exact zb.rt Tryz.results91 o
theorem zrU {n1:zh}{twice1:Bool}{r:Int}  (h:zcC n1 twice1=some r):zk Tryz.prog 67 [rep n1,rep twice1] (rep r):=by
 unfold zcC at h
 obtain⟨r1,hv1,h⟩:=bind_some h
 refine zk.i Tryz.func67 o Tryz.ntmps67 o (fun F=>(.sn mx (.c (.box .none (.s o)) (.asi (.nil (.seq (.block (.sn mx (.fa qI qJ o (.ld ty9 o (.c (.call .none (zeV hv1) (.cons (.s o) .nil)) (.c (.not .none (.s o)) (.asn o (.nil (.cb o h (fun _ h=>?_) fun _ h=>?_)))))))))))))))
 ·
  refine .sn mx (.asi (.nil (.ret (.blkRet (.thenRet ?_)))))
  obtain rfl:=za h
  exact zb.rt Tryz.results67 o
 ·
  refine .sn mx (.mv o (.asn o (.nil (.cb o h (fun _ h=>?_) fun _ h=>?_))))
  ·
   refine .sn mx (.asi (.nil (.ret (.blkRet (.thenRet ?_)))))
   obtain rfl:=za h
   exact zb.rt Tryz.results67 o
  ·
   refine .sn mx (.fa qV qO o (.ld ty3 o (.c (.lt .none (.s o) .i) (.mv o (.fg qV qO o o o (.lg ty3 o o o (.c (.gt (.at o o) (.tmp o id) .i) (.po o o (.asn o (.nil (.cb o h (fun _ h=>?_) fun _ h=>?_)))))))))))
   ·
    refine .sn mx (.asi (.nil (.ret (.blkRet (.thenRet ?_)))))
    obtain rfl:=za h
    exact zb.rt Tryz.results67 o
   ·
    refine .sn mx (.fa qV qO o (.ld ty3 o (.eqi o (.mv o (.fg jQ vc o o o (.lg zN o o o (.c (.buildF (y:=(⟨(0:Int),(0:Int),(0:Int),(0:Int)⟩:Box)) (.at o o) qR q9 o .nil .nil) (.c (.neS (.at o o) zjp (.tmp o id) (.tmp o id)) (.pa o o (.asn o (.nil (.cb o h (fun _ h=>?_) fun _ h=>?_))))))))))))
    ·
     refine .sn mx (.asi (.nil (.ret (.blkRet (.thenRet ?_)))))
     obtain rfl:=za h
     exact zb.rt Tryz.results67 o
    ·
     refine .skip (.blkNormal (.then (.seq (.sn mx (.fa qV qO o (.ld ty3 o (.nei o (.nil ?_))))))))
     obtain⟨o_6,h,hK6⟩:=ym h
     refine .tJ (fun s=>o_6=Res.nx s) (.k 2 o .nil) zd.nil ?_ (fun j_6 hj6=>?_)
     ·
      refine .cb o h (fun _ h=>?_) fun _ h=>?_
      ·
       obtain⟨e1,hv8,h⟩:=bind_some h
       refine .sn mx (.fa jQ vc o (.ld zN o (.c (.call .none (zeh hv8) (.cons (.s o) .nil)) (.asn o (.nil (.sn mx (.mv o (.nei o (.nil (.cb o h (fun _ h=>?_) fun _ h=>?_))))))))))
       ·
        refine .sn mx (.mv o (.asn o (.nil (.ret (.thenRet ?_)))))
        replace h:=z8 hK6 (za h)
        obtain rfl:=za h
        exact zb.rt Tryz.results67 o
       ·
        exact .skip (zb.j _ (za h))
      ·
       exact .skip (zb.j _ (za h))
     ·
      have h:=yn hK6 hj6
      obtain⟨e2,hv10,h⟩:=bind_some h
      refine .seq (.sn mx (.fa zb7 zcj o (.ld ty9 o (.c (.call .none (zfG hv10) (.cons (.s o) .nil)) (.asn o (.nil (.sn mx (.mv o (.nei o (.nil (.cb o h (fun _ h=>?_) fun _ h=>?_)))))))))))
      ·
       refine .sn mx (.mv o (.asn o (.nil (.ret (.thenRet ?_)))))
       obtain rfl:=za h
       exact zb.rt Tryz.results67 o
      ·
       obtain⟨r2,hv12,h⟩:=bind_some h
       refine .skip (.then (.seq (.sn mx (.fa zaF zaP o (.ld ty9 o (.c (.neS .none (yy Tryz.underlying9) (.s o) (.str (l:=[]) (by decide))) (.mv o (.fg zaF zaP o o o (.lg ty9 o o o (.c (.callIf (.at o o) zjR (fun hg=>zeV ((fun hg=>qf hv12 (hg.2)) hg)) (.cons (.tmp o id) .nil) (fun h=>h)) (.c (.not (.at o o) (.tmp o id)) (.pa o o (.nil (.cb o h (fun _ h=>?_) fun _ h=>?_))))))))))))))
       ·
        refine .sn mx (.asi (.nil (.ret (.thenRet ?_))))
        obtain rfl:=za h
        exact zb.rt Tryz.results67 o
       ·
        refine .skip (.then (.sn mx (.asi (.nil (.ret ?_)))))
        obtain rfl:=za h
        exact zb.rt Tryz.results67 o
theorem zrV {d1:Doc}{r:(Option yw)}  (h:zcD d1=some r):zk Tryz.prog 68 [rep d1] (rep r):=by
 unfold zcD at h
 obtain⟨c1,hv1,h⟩:=zn h
 obtain⟨c2,hv2,h⟩:=zn h
 refine zk.i Tryz.func68 o Tryz.ntmps68 o (fun F=>(.sn mx (.c (.box .none (.s o)) (.c (.assign .none (.const (x:=(none:(Option yw))) (fun M w=>⟨_,zhs,rfl⟩))) (.nil (.sr [oo,([],[7]),([],[8]),([7,8],[9,7,8]),([9],[10,9]),([10],[3,10])] mx (.ldA yq o (.cW (.makeMap (K:=Str) (V:=Int) o) (.cW (.makeMapW (K:=Str) (α:=Int) (E:=3) o) (.cW (.buildG2 (t1:=7) (t2:=8) zrR zrS (mk:=(fun z1 z2=>(⟨d1,⟨z1⟩,⟨z2⟩⟩:vD))) zow zuZ o o o o o o o o o (fun _ _=>(.cons (.s o) (.cons (.s o) (.cons (.s o) .nil)))) (fun _ _=>(.cons o zug (.cons o zuh (.cons o zui .nil))))) (.cW (.boxG2 (t:=9) o o) (.cW (.passRow o (.tmp o)) (.nil (.nameAt (t:=3) (g:=5001) o o (zg2 fun _=>(zg2 fun _=>QL)) o (fun m5001=>(.open (k:=5001) (g:=5002) o o (fun s5002=>(.open (k:=5001) (g:=5003) o o (fun s5003=>(.seq (.sn mx (.fa yX qc o (.ld y8 o (.ln yh o (.mvi (.nil (.reB (t:=5002) o (congrArg (fun y=>ze.at s5002 (zR y)) hv1) (.reB (t:=5003) o (congrArg (fun y=>ze.at s5003 (Qj 3 y)) hv2) ?_))))))))))))))))))))))))))))
 obtain⟨j_3,h,hK3⟩:=bind_some h
 refine .thenJ (ι:=((GMap Str Int)×(GMap Str (List Int)))) (fun j_3=>[]) (fun j_3=>[(5002,some (ze.at s5002 (zR j_3.1))),(5003,some (ze.at s5003 (Qj 3 j_3.2)))]) (fun s=>j_3=s) (.k 3 o .nil) (.k 5001 o .nil) ?_ (fun j_3' hj3=>?_)
 ·
  refine .block (.rforL h (fun p4_=>[(14,⟨True,rep p4_.1⟩)]) (fun p4_=>[(5002,some (ze.at s5002 (zR p4_.2.1))),(5003,some (ze.at s5003 (Qj 3 p4_.2.2)))]) (.k 14 o .nil) (.k2 5002 5003 o o .nil) (.k2 3 12 o o (.k 13 o .nil)) (.k 5001 o .nil) (fun p4_ o_4 h hD4=>(.sn mx (.lt o o (.nil (.seq (.cb o h (fun _ h=>?_) fun _ h=>?_)))))))
  ·
   refine .skip (.then (.seq ?_))
   obtain⟨j_6,h,hK6⟩:=bind_some h
   unfold zeW at h
   refine .thenJ (ι:=((GMap Str Int)×(GMap Str (List Int)))) (fun j_6=>[]) (fun j_6=>[(5002,some (ze.at s5002 (zR j_6.1))),(5003,some (ze.at s5003 (Qj 3 j_6.2)))]) (fun s=>j_6=s) (.k4 3 12 13 14 o o o o .nil) (.k 5001 o .nil) ?_ (fun j_6' hj6=>?_)
   ·
    obtain⟨hn7,h⟩:=zo h
    obtain⟨v1,hv8,h⟩:=zn h
    obtain⟨c3,hv9,h⟩:=zn h
    refine .block (.sr [oo,oo,oo,([],[5]),oo,([5],[5])] mx (.mvA o (.ixA yh zJ o o hn7 (.rlA hv8 zJ o (.al ja o (.asnA o (.st zJ o o o (.nil (.freeze (t:=5) o o (.k2 5001 5002 o o (.k 5003 o .nil)) o (.sr [oo,oo,oo,([5001],[]),oo,oo,oo,([5002],[5002])] mx (.mvA o (.cA (.nilCheckP .none (.s o)) (.cA (.fieldPtr .none zd0 (.s o)) (.cA (.loadAt (k:=5001) .none zuw o (.s o) zqy) (.faA qI qJ o (.ldA ty9 o (.mvA o (.cN (.mapUpdate (q:=5002) zeE (.s o) o (.s o) (.s o)) (.nil (.reB (t:=5002) o (congrArg (fun y=>ze.at s5002 (zR y)) hv9) (.sn mx (.fa jJ jL o (.ld ty9 o (.c (.neS .none (yy Tryz.underlying9) (.s o) (.str (l:=[]) (by decide))) (.nil (.cb o h (fun _ h=>?_) fun _ h=>?_))))))))))))))))))))))))))
    ·
     obtain⟨hn11,h⟩:=zo h
     exact .rg [oo,oo,oo,([5001],[]),oo,oo,oo,oo,oo,([5001],[]),oo,oo,([5003],[41,5003]),oo,oo,([41],[44,41]),([5003,44],[5003,44])] mx (.mvA o (.cA (.nilCheckP .none (.s o)) (.cA (.fieldPtr .none zd1 (.s o)) (.cA (.loadAt (k:=5001) .none zna o (.s o) zkd) (.faA jJ jL o (.ldA ty9 o (.mvA o (.cA (.nilCheckP .none (.s o)) (.cA (.fieldPtr .none zd1 (.s o)) (.cA (.loadAt (k:=5001) .none zna o (.s o) zkd) (.faA jJ jL o (.ldA ty9 o (.cW (.mapTake (q:=5003) zeF zuU o o (.s o) o (.s o)) (.mvA o (.cA (.buildSlice (xs:=[_]) .none yI ty3 hz3 (.cons (.s o) .nil) o (by decide)) (.cW (.append (k:=41) zc9 o (.tmp o) (.s o) hn11) (.cN (.mapPut (q:=5003) (t:=44) zeF o (.s o) o (fun _ h=>h) o o (.s o)) (.nil (.blkNormal (zb.j _ (za h)))))))))))))))))))))
    ·
     exact .skip (.blkNormal (zb.j _ (za h)))
   ·
    subst hj6;have h:=hK6;clear hK6
    exact .rn mx (.adi o (.mv o (.nil (zb.ag (za h)))))
  ·
   refine .exit (.thenExit (.thenExit (.blkExit ?_)))
   replace h:=hD4 _ (za h)
   exact zb.j _ (za h)
 ·
  subst hj3;have h:=hK3;clear hK3
  refine .close (k:=5001) (g:=5003) (fun z=>zM 181 (⟨d1,⟨s5002⟩,⟨z⟩⟩:vD)) o o o (.close (k:=5001) (g:=5002) (fun z=>yg (fun z0=>zM 181 (⟨d1,⟨z⟩,⟨z0⟩⟩:vD)) (Qj 3 j_3.2)) o o o (.freezeAt (g:=5001) (S:=ref ((⟨d1,j_3.1,j_3.2⟩:yw):yw)) (ts:=[3]) o (.cons (t:=3) o trivial .nil) zd.nil o (fun M D w h hms=>ziX (mk:=(fun s1_ s2_=>(⟨d1,⟨s1_⟩,⟨s2_⟩⟩:vD))) (y:=((⟨d1,j_3.1,j_3.2⟩:yw):yw)) zqb zqc o (fun M s1_ s2_ cs w hc g1 g2=>by obtain⟨c0,q0,e0,h0,c1,q1,e1,h1,h2⟩:=hc;exact⟨c0,q0,e0,h0,c1,q1,e1,Y7 o o h1 g1,Y7 o o h2 g2⟩) M D w h hms) (.sn mx (.mv o (.asn o (.nil (.ret ?_)))))))
  obtain rfl:=za h
  exact zb.ret1 (.inl o) Tryz.results68 (yb.tmp o trivial Imp.refSome)
theorem zr1 {v1:yw}{id1:Str}{r:zh}  (h:zcH v1 id1=some r):zk Tryz.prog 149 [ref v1,rep id1] (rep r):=by
 unfold zcH at h
 obtain⟨v2,hv1,h⟩:=zn h
 obtain⟨hn2,h⟩:=zo h
 obtain⟨v3,hv3,h⟩:=zn h
 refine zk.i Tryz.func149 o Tryz.ntmps149 o (fun F=>(.sr [([],[4])] mx (.al ja o (.nil (.reB (t:=4) o (congrArg (zM 45) hv1) (.nameBox (t:=4) (g:=5001) o o (fun m5001=>(.sr [oo,oo,oo,oo,oo,oo,oo,oo,oo,oo,oo,oo,oo,([5001],[5001])] mx (.mvA o (.cA (.nilCheckR .none (.s o)) (.faA Yh Yj o (.faA yX qc o (.ldA y8 o (.mvA o (.cA (.nilCheckR .none (.s o)) (.faA zd0 zgW o (.ldA zh3 o (.mvA o (.cA (.lookup .none zeE zo3 (.s o) (.s o)) (.ixA yh zJ o o hn2 (.rlA hv3 zJ o (.s0 5001 zJ o o o (.nil (.fb 5001 [4] o (.cons (t:=4) o trivial .nil) (.ret ?_)))))))))))))))))))))))))
 obtain rfl:=za h
 exact zb.ret1 (.inl o) Tryz.results149 (yb.cellR zJ o trivial Imp.refl)
theorem zls {v1:yw}{n1:zh}{r:(Int×Bool)}  (h:J1 v1 n1=some r):zk Tryz.prog 115 [ref v1,rep n1] (tup [rep r.1,rep r.2]):=by
 unfold J1 at h
 refine zk.i Tryz.func115 o Tryz.ntmps115 o (fun F=>(.sr [([],[3]),oo,oo] mx (.cW (.boxO o (.s o)) (.cA (.assign .none .i) (.cA (.assign .none .bool) (.nil (.nameBox (t:=3) (g:=5001) o o (fun m5001=>(.sr [oo,([5001],[]),oo,oo] mx (.cA (.fieldPtr .none qI (.s o)) (.cA (.loadAt (k:=5001) .none ty9 o (.s o) qJ) (.asnA o (.cA (.assign .none .i) (.nil (.seq ?_)))))))))))))))
 obtain⟨o_1,h,hK1⟩:=ym h
 refine .thenJ (ι:=Int) (fun j_1=>[(7,⟨True,rep j_1⟩)]) (fun j_1=>[]) (fun s=>o_1=Res.nx s) Sub.nil zd.nil ?_ (fun j_1 hj1=>?_)
 ·
  refine .block (.loopL h (fun s2_=>[(7,⟨True,rep s2_.1⟩)]) (fun s2_=>[(5001,some (qb m5001 45 s2_.2))]) (.k 7 o .nil) (.k 5001 o .nil) (.k2 0 3 o o (.k 6 o .nil)) zd.nil (fun s2_ o_2 h hD2=>?_))
  unfold zeX at h
  refine .seq (.sr [oo,([5001],[]),oo] mx (.cA (.fieldPtr .none jJ (.s o)) (.cA (.loadAt (k:=5001) .none ty9 o (.s o) jL) (.cA (.neS .none (yy Tryz.underlying9) (.s o) (.str (l:=[]) (by decide))) (.nil (.cb o h (fun _ h=>?_) fun _ h=>?_))))))
  ·
   obtain⟨many1,hv4,h⟩:=zn h
   refine .skip (.then (.block (.seq (.sn mx (.mv o (.adi o (.ra hv4 o (.nil (.sr [oo,([5001],[]),oo,oo,oo,oo,oo,oo,oo,oo,oo,oo,oo,oo] mx (.cA (.fieldPtr .none jJ (.s o)) (.cA (.loadAt (k:=5001) .none ty9 o (.s o) jL) (.mvA o (.cA (.eqS .none (yy Tryz.underlying9) (.s o) (.s o)) (.mvA o (.cA (.move (.at o o) (.s o)) (.cA (.move (.at o o) (.s o)) (.cA (.nilCheckR (.at o o) (.tmp o id)) (.cA (.fieldAddr (.at o o) Yh Yj (.tmp o id)) (.cA (.fieldAddr (.at o o) yX qc (.tmp o id)) (.cA (.load (.at o o) y8 (.tmp o id)) (.cA (.len (.at o o) yh (.tmp o id)) (.cA (.gt (.at o o) (.tmp o id) (.tmp o id)) (.cA (.pickOr .none (.s o) (.tmp o id)) (.nil (.cb o h (fun _ h=>?_) fun _ h=>?_)))))))))))))))))))))))))
   ·
    refine .sr [oo,oo,([5001],[]),oo,oo,oo,oo] mx (.mvA o (.cA (.fieldPtr .none jJ (.s o)) (.cA (.loadAt (k:=5001) .none ty9 o (.s o) jL) (.mvA o (.cA (.neS .none (yy Tryz.underlying9) (.s o) (.s o)) (.asnA o (.asnA o (.nil (.ret (.thenRet (.blkRet (.thenRet (.blkRet (.thenRet ?_))))))))))))))
    replace h:=hD2 _ (za h)
    replace h:=z8 hK1 (za h)
    obtain rfl:=za h
    exact zb.ret2 (.inl o) Tryz.results115 (yb.tmp o trivial Imp.refl) (yb.tmp o trivial Imp.refl)
   ·
    obtain⟨r1,hv6,h⟩:=bind_some h
    exact .skip (.then (.rg [oo,oo,([5001],[]),oo,([5001],[5001])] mx (.mvA o (.cA (.fieldPtr .none jJ (.s o)) (.cA (.loadAt (k:=5001) .none ty9 o (.s o) jL) (.cA (.call .none (zr1 hv6) (.cons (.s o) (.cons (.s o) .nil))) (.s0 5001 zJ o o o (.nil (.blkNormal (zb.ag (za h)))))))))))
  ·
   refine .exit (.thenExit (.thenExit (.blkExit ?_)))
   replace h:=hD2 _ (za h)
   exact zb.j _ (za h)
 ·
  have h:=yn hK1 hj1
  refine .sn mx (.mv o (.asn o (.asb (.nil (.ret ?_)))))
  obtain rfl:=za h
  exact zb.ret2 (.inl o) Tryz.results115 (yb.tmp o trivial Imp.refl) (yb.tmp o trivial Imp.refl)
theorem zr0 {v1:yw}{r:Int}  (h:za8 v1=some r):zk Tryz.prog 69 [ref v1] (rep r):=by
 unfold za8 at h
 refine zk.i Tryz.func69 o Tryz.ntmps69 o (fun F=>(.sn mx (.asi (.nil (.seq (.sn mx (.mv o (.c (.nilCheckR .none (.s o)) (.fa Yh Yj o (.fa yX qc o (.ld y8 o (.ln yh o (.mvi (.nil ?_))))))))))))))
 obtain⟨o_1,h,hK1⟩:=ym h
 refine .tJ (fun s=>o_1=Res.nx s) (.k 0 o .nil) zd.nil ?_ (fun j_1 hj1=>?_)
 ·
  refine .block (.rforEL h (fun p2_=>[(23,⟨True,rep p2_.1⟩)]) (fun p2_=>[]) (.k 23 o .nil) zd.nil (.k2 0 21 o o (.k 22 o .nil)) zd.nil (fun p2_ o_2 h hD2=>(.sn mx (.lt o o (.nil (.seq (.cb o h (fun _ h=>?_) fun _ h=>?_)))))))
  ·
   refine .skip (.then (.seq ?_))
   obtain⟨o_4,h,hK4⟩:=yB h
   unfold zeY at h
   refine .tJ (fun s=>o_4=Res.nx s) (.k4 0 21 22 23 o o o o .nil) zd.nil ?_ (fun j_4 hj4=>?_)
   ·
    obtain⟨hn5,h⟩:=zo h
    obtain⟨v2,hv6,h⟩:=zn h
    obtain⟨hn7,h⟩:=zo h
    refine .block (.sr [oo,oo,([],[4]),([4],[4])] mx (.ixA yh zJ o o hn5 (.rlA hv6 zJ o (.al ja o (.st zJ o o o (.nil (.freeze (t:=4) o o zd.nil o (.sn mx (.mv o (.c (.nilCheckR .none (.s o)) (.fa zd0 zgW o (.ld zh3 o (.fa jJ jL o (.ld ty9 o (.c (.lookupOk .none zeE zo3 (.s o) (.s o)) (.mv o (.ex o o (.ex o o (.asn o (.asn o (.nil (.sn mx (.fa jJ jL o (.ld ty9 o (.c (.neS .none (yy Tryz.underlying9) (.s o) (.str (l:=[]) (by decide))) (.mv o (.mg o o o (.c (.not (.at o o) (.tmp o id)) (.c (.move (.at o o) (.tmp o id)) (.mg o o o (.c (.nilCheckR (.at o o) (.tmp o id)) (.c (.fieldAddr (.at o o) Yh Yj (.tmp o id)) (.c (.fieldAddr (.at o o) yX qc (.tmp o id)) (.lg y8 o o o (.mg o o o (.c (.indexAddr (.at o o) yh zJ (.tmp o id) (.tmp o id) (fun hg=>hn7 hg.1.2 hg.2)) (.c (.fieldAddr (.at o o) qV qO (.tmp o id)) (.lg ty3 o o o (.c (.neI (.at o o) (.tmp o id) .i) (.c (.pickOr (.at o o) (.tmp o id) (.tmp o id)) (.pa o o (.nil (.cb o h (fun _ h=>?_) fun _ h=>?_)))))))))))))))))))))))))))))))))))))))))))
    ·
     refine .sn mx (.asi (.nil (.ret (.blkRet (.thenRet (.thenRet (.blkRet (.thenRet ?_))))))))
     replace h:=yf hK4 (za h)
     replace h:=hD2 _ (za h)
     replace h:=z8 hK1 (za h)
     obtain rfl:=za h
     exact zb.rt Tryz.results69 o
    ·
     exact .skip (.blkNormal (zb.j _ (za h)))
   ·
    have h:=yD hK4 hj4
    exact .rn mx (.adi o (.mv o (.nil (zb.ag (za h)))))
  ·
   refine .exit (.thenExit (.thenExit (.blkExit ?_)))
   replace h:=hD2 _ (za h)
   exact zb.j _ (za h)
 ·
  have h:=yn hK1 hj1
  refine .seq (.sn mx (.mv o (.c (.nilCheckR .none (.s o)) (.fa Yh Yj o (.fa yX qc o (.ld y8 o (.ln yh o (.mvi (.nil ?_)))))))))
  obtain⟨o_9,h,hK9⟩:=ym h
  refine .tJ (fun s=>o_9=Res.nx s) (.k 0 o .nil) zd.nil ?_ (fun j_9 hj9=>?_)
  ·
   refine .block (.rforEL h (fun p10_=>[(63,⟨True,rep p10_.1⟩)]) (fun p10_=>[]) (.k 63 o .nil) zd.nil (.k2 0 61 o o (.k 62 o .nil)) zd.nil (fun p10_ o_10 h hD10=>(.sn mx (.lt o o (.nil (.seq (.cb o h (fun _ h=>?_) fun _ h=>?_)))))))
   ·
    refine .skip (.then (.seq ?_))
    obtain⟨o_12,h,hK12⟩:=yB h
    unfold zeZ at h
    refine .tJ (fun s=>o_12=Res.nx s) (.k4 0 61 62 63 o o o o .nil) zd.nil ?_ (fun j_12 hj12=>?_)
    ·
     obtain⟨hn13,h⟩:=zo h
     obtain⟨v3,hv14,h⟩:=zn h
     obtain⟨r1,hv15,h⟩:=bind_some h
     refine .block (.sr [oo,oo,([],[8]),([8],[8])] mx (.ixA yh zJ o o hn13 (.rlA hv14 zJ o (.al ja o (.st zJ o o o (.nil (.freeze (t:=8) o o zd.nil o (.sn mx (.mv o (.ld zJ o (.c (.call .none (zls hv15) (.cons (.s o) (.cons (.s o) .nil))) (.mv o (.ex o o (.ex o o (.asn o (.asn o (.nil (.sn mx (.mv o (.c (.not .none (.s o)) (.nil (.cb o h (fun _ h=>?_) fun _ h=>?_))))))))))))))))))))))
     ·
      refine .sn mx (.asi (.nil (.ret (.blkRet (.thenRet (.thenRet (.blkRet (.thenRet ?_))))))))
      replace h:=yf hK12 (za h)
      replace h:=hD10 _ (za h)
      replace h:=z8 hK9 (za h)
      obtain rfl:=za h
      exact zb.rt Tryz.results69 o
     ·
      exact .skip (.blkNormal (zb.j _ (za h)))
    ·
     have h:=yD hK12 hj12
     exact .rn mx (.adi o (.mv o (.nil (zb.ag (za h)))))
   ·
    refine .exit (.thenExit (.thenExit (.blkExit ?_)))
    replace h:=hD10 _ (za h)
    exact zb.j _ (za h)
  ·
   have h:=yn hK9 hj9
   refine .seq (.sn mx (.mv o (.c (.nilCheckR .none (.s o)) (.fa Yh Yj o (.fa yX qc o (.ld y8 o (.ln yh o (.mvi (.nil ?_)))))))))
   obtain⟨o_17,h,hK17⟩:=ym h
   refine .tJ (fun s=>o_17=Res.nx s) (.k 0 o .nil) zd.nil ?_ (fun j_17 hj17=>?_)
   ·
    refine .block (.rforEL h (fun p18_=>[(82,⟨True,rep p18_.1⟩)]) (fun p18_=>[]) (.k 82 o .nil) zd.nil (.k2 0 80 o o (.k 81 o .nil)) zd.nil (fun p18_ o_18 h hD18=>(.sn mx (.lt o o (.nil (.seq (.cb o h (fun _ h=>?_) fun _ h=>?_)))))))
    ·
     refine .skip (.then (.seq ?_))
     obtain⟨o_20,h,hK20⟩:=yB h
     unfold ze0 at h
     refine .tJ (fun s=>o_20=Res.nx s) (.k4 0 80 81 82 o o o o .nil) zd.nil ?_ (fun j_20 hj20=>?_)
     ·
      obtain⟨hn21,h⟩:=zo h
      obtain⟨v4,hv22,h⟩:=zn h
      obtain⟨r2,hv23,h⟩:=bind_some h
      refine .block (.sr [oo,oo,([],[12]),([12],[12])] mx (.ixA yh zJ o o hn21 (.rlA hv22 zJ o (.al ja o (.st zJ o o o (.nil (.freeze (t:=12) o o zd.nil o (.sn mx (.mv o (.ld zJ o (.c (.call .none (zls hv23) (.cons (.s o) (.cons (.s o) .nil))) (.mv o (.ex o o (.ex o o (.asn o (.asn o (.nil (.sn mx (.mv o (.c (.gt .none (.s o) .i) (.nil (.cb o h (fun _ h=>?_) fun _ h=>?_))))))))))))))))))))))
      ·
       refine .sn mx (.asi (.nil (.ret (.blkRet (.thenRet (.thenRet (.blkRet (.thenRet ?_))))))))
       replace h:=yf hK20 (za h)
       replace h:=hD18 _ (za h)
       replace h:=z8 hK17 (za h)
       obtain rfl:=za h
       exact zb.rt Tryz.results69 o
      ·
       exact .skip (.blkNormal (zb.j _ (za h)))
     ·
      have h:=yD hK20 hj20
      exact .rn mx (.adi o (.mv o (.nil (zb.ag (za h)))))
    ·
     refine .exit (.thenExit (.thenExit (.blkExit ?_)))
     replace h:=hD18 _ (za h)
     exact zb.j _ (za h)
   ·
    have h:=yn hK17 hj17
    refine .seq (.sn mx (.mv o (.c (.nilCheckR .none (.s o)) (.fa Yh Yj o (.fa yX qc o (.ld y8 o (.ln yh o (.mvi (.nil ?_)))))))))
    obtain⟨o_25,h,hK25⟩:=ym h
    refine .tJ (fun s=>o_25=Res.nx s) Sub.nil zd.nil ?_ (fun j_25 hj25=>?_)
    ·
     refine .block (.rforEL h (fun p26_=>[(101,⟨True,rep p26_.1⟩)]) (fun p26_=>[]) (.k 101 o .nil) zd.nil (.k2 0 99 o o (.k 100 o .nil)) zd.nil (fun p26_ o_26 h hD26=>(.sn mx (.lt o o (.nil (.seq (.cb o h (fun _ h=>?_) fun _ h=>?_)))))))
     ·
      refine .skip (.then (.seq ?_))
      obtain⟨o_28,h,hK28⟩:=yB h
      unfold ze1 at h
      refine .tJ (fun s=>o_28=Res.nx s) (.k4 0 99 100 101 o o o o .nil) zd.nil ?_ (fun j_28 hj28=>?_)
      ·
       obtain⟨hn29,h⟩:=zo h
       obtain⟨v5,hv30,h⟩:=zn h
       refine .block (.sr [oo,oo,([],[16]),([16],[16])] mx (.ixA yh zJ o o hn29 (.rlA hv30 zJ o (.al ja o (.st zJ o o o (.nil (.freeze (t:=16) o o zd.nil o (.sn mx (.fa qV qO o (.ld ty3 o (.eqi o (.mv o (.mg o o o (.c (.nilCheckR (.at o o) (.tmp o id)) (.c (.fieldAddr (.at o o) zd1 zj6 (.tmp o id)) (.lg zne o o o (.fg qI qJ o o o (.lg ty9 o o o (.c (.lookup (.at o o) zeF znx (.tmp o id) (.tmp o id)) (.c (.len (.at o o) yI (.tmp o id)) (.c (.eqI (.at o o) (.tmp o id) .i) (.pa o o (.nil (.cb o h (fun _ h=>?_) fun _ h=>?_))))))))))))))))))))))))
       ·
        refine .sn mx (.asi (.nil (.ret (.blkRet (.thenRet (.thenRet (.blkRet (.thenRet ?_))))))))
        replace h:=yf hK28 (za h)
        replace h:=hD26 _ (za h)
        replace h:=z8 hK25 (za h)
        obtain rfl:=za h
        exact zb.rt Tryz.results69 o
       ·
        exact .skip (.blkNormal (zb.j _ (za h)))
      ·
       have h:=yD hK28 hj28
       exact .rn mx (.adi o (.mv o (.nil (zb.ag (za h)))))
     ·
      refine .exit (.thenExit (.thenExit (.blkExit ?_)))
      replace h:=hD26 _ (za h)
      exact zb.j _ (za h)
    ·
     have h:=yn hK25 hj25
     refine .sn mx (.asi (.nil (.ret ?_)))
     obtain rfl:=za h
     exact zb.rt Tryz.results69 o
theorem zrZ {v1:yw}{x1:zO}{r:Int}  (h:zcG v1 x1=some r):zk Tryz.prog 116 [ref v1,rep x1] (rep r):=by
 unfold zcG at h
 refine zk.i Tryz.func116 o Tryz.ntmps116 o (fun F=>(.sn mx (.c (.box .none (.s o)) (.asi (.nil (.sn mx (.mv o (.c (.nilCheckR .none (.s o)) (.fa zd0 zgW o (.ld zh3 o (.fa zb8 zck o (.ld ty9 o (.c (.lookupOk .none zeE zo3 (.s o) (.s o)) (.mv o (.ex o o (.ex o o (.asn o (.asn o (.nil (.seq (.block (.sn mx (.mv o (.c (.not .none (.s o)) (.asn o (.nil (.cb o h (fun _ h=>?_) fun _ h=>?_)))))))))))))))))))))))))))
 ·
  refine .sn mx (.asi (.nil (.ret (.blkRet (.thenRet ?_)))))
  obtain rfl:=za h
  exact zb.rt Tryz.results116 o
 ·
  obtain⟨hn2,h⟩:=zo h
  refine .sn mx (.mv o (.c (.nilCheckR .none (.s o)) (.fa Yh Yj o (.fa yX qc o (.ld y8 o (.mv o (.ix yh zJ o o hn2 (.fa qV qO o (.ld ty3 o (.eqi o (.asn o (.nil (.cb o h (fun _ h=>?_) fun _ h=>?_)))))))))))))
  ·
   refine .sn mx (.asi (.nil (.ret (.blkRet (.thenRet ?_)))))
   obtain rfl:=za h
   exact zb.rt Tryz.results116 o
  ·
   refine .sn mx (.fa JF JM o (.ld ty3 o (.c (.lt .none (.s o) .i) (.mv o (.fg JF JM o o o (.lg ty3 o o o (.c (.gt (.at o o) (.tmp o id) .i) (.po o o (.mv o (.fg zaG zaQ o o o (.lg ty3 o o o (.c (.lt (.at o o) (.tmp o id) .i) (.po o o (.mv o (.fg zaG zaQ o o o (.lg ty3 o o o (.c (.gt (.at o o) (.tmp o id) .i) (.po o o (.asn o (.nil (.cb o h (fun _ h=>?_) fun _ h=>?_)))))))))))))))))))))
   ·
    refine .sn mx (.asi (.nil (.ret (.blkRet (.thenRet ?_)))))
    obtain rfl:=za h
    exact zb.rt Tryz.results116 o
   ·
    refine .skip (.blkNormal (.then (.sn mx (.asi (.nil (.ret ?_))))))
    obtain rfl:=za h
    exact zb.rt Tryz.results116 o
theorem zqf {p1:zz}{r:Int}  (h:zcd p1=some r):zk Tryz.prog 214 [rep p1] (rep r):=by
 unfold zcd at h
 obtain⟨r1,hv1,h⟩:=bind_some h
 obtain⟨r2,hv2,h⟩:=bind_some h
 refine zk.i Tryz.func214 o Tryz.ntmps214 o (fun F=>(.sn mx (.c (.box .none (.s o)) (.asi (.nil (.seq (.sn mx (.fa zd5 zeo o (.ld ty3 o (.c (.call .none (zej hv1) (.cons (.s o) .nil)) (.mv o (.fg zd6 zep o o o (.lg ty3 o o o (.c (.callIf (.at o o) zjU (fun hg=>zej ((fun hg=>qf hv2 ((Qx hg.2))) hg)) (.cons (.tmp o id) .nil) (fun h=>h)) (.po o o (.nil (.cb o h (fun _ h=>?_) fun _ h=>?_)))))))))))))))))
 ·
  refine .sn mx (.asi (.nil (.ret (.thenRet ?_))))
  obtain rfl:=za h
  exact zb.rt Tryz.results214 o
 ·
  refine .skip (.then (.sn mx (.asi (.nil (.ret ?_)))))
  obtain rfl:=za h
  exact zb.rt Tryz.results214 o
theorem zqk {l1:(List zz)}{r:Int}  (h:zcg l1=some r):zk Tryz.prog 150 [rep l1] (rep r):=by
 unfold zcg at h
 refine zk.i Tryz.func150 o Tryz.ntmps150 o (fun F=>(.sn mx (.asi (.nil (.seq (.sn mx (.mv o (.ln ji o (.mvi (.nil ?_))))))))))
 obtain⟨o_1,h,hK1⟩:=ym h
 refine .tJ (fun s=>o_1=Res.nx s) Sub.nil zd.nil ?_ (fun j_1 hj1=>?_)
 ·
  refine .block (.rforEL h (fun p2_=>[(8,⟨True,rep p2_.1⟩)]) (fun p2_=>[]) (.k 8 o .nil) zd.nil (.k2 6 7 o o .nil) zd.nil (fun p2_ o_2 h hD2=>(.sn mx (.lt o o (.nil (.seq (.cb o h (fun _ h=>?_) fun _ h=>?_)))))))
  ·
   refine .skip (.then (.seq ?_))
   obtain⟨o_4,h,hK4⟩:=yB h
   unfold zgV at h
   refine .tJ (fun s=>o_4=Res.nx s) (.k2 6 7 o o (.k 8 o .nil)) zd.nil ?_ (fun j_4 hj4=>?_)
   ·
    obtain⟨hn5,h⟩:=zo h
    obtain⟨v1,hv6,h⟩:=zn h
    obtain⟨e1,hv7,h⟩:=bind_some h
    refine .block (.sr [oo,oo,([],[4]),([4],[4])] mx (.ixA ji jk o o hn5 (.rlA hv6 jk o (.al zf1 o (.st jk o o o (.nil (.freeze (t:=4) o o zd.nil o (.sn mx (.ld jk o (.c (.call .none (zqf hv7) (.cons (.s o) .nil)) (.asn o (.nil (.sn mx (.mv o (.nei o (.nil (.cb o h (fun _ h=>?_) fun _ h=>?_)))))))))))))))))
    ·
     refine .sn mx (.mv o (.asn o (.nil (.ret (.blkRet (.thenRet (.thenRet (.blkRet (.thenRet ?_)))))))))
     replace h:=yf hK4 (za h)
     replace h:=hD2 _ (za h)
     replace h:=z8 hK1 (za h)
     obtain rfl:=za h
     exact zb.rt Tryz.results150 o
    ·
     exact .skip (.blkNormal (zb.j _ (za h)))
   ·
    have h:=yD hK4 hj4
    exact .rn mx (.adi o (.mv o (.nil (zb.ag (za h)))))
  ·
   refine .exit (.thenExit (.thenExit (.blkExit ?_)))
   replace h:=hD2 _ (za h)
   exact zb.j _ (za h)
 ·
  have h:=yn hK1 hj1
  refine .sn mx (.asi (.nil (.ret ?_)))
  obtain rfl:=za h
  exact zb.rt Tryz.results150 o
theorem zqg {l1:(List zz)}{r:Int}  (h:zce l1=some r):zk Tryz.prog 117 [rep l1] (rep r):=by
 unfold zce at h
 refine zk.i Tryz.func117 o Tryz.ntmps117 o (fun F=>(.sn mx (.asi (.nil (.seq (.sn mx (.mv o (.ln ji o (.c (.gt .none (.s o) .i) (.nil (.cb o h (fun _ h=>?_) fun _ h=>?_)))))))))))
 ·
  refine .sn mx (.asi (.nil (.ret (.thenRet ?_))))
  obtain rfl:=za h
  exact zb.rt Tryz.results117 o
 ·
  obtain⟨r1,hv2,h⟩:=bind_some h
  refine .skip (.then (.sn mx (.mv o (.c (.call .none (zqk hv2) (.cons (.s o) .nil)) (.asn o (.nil (.ret ?_)))))))
  obtain rfl:=za h
  exact zb.rt Tryz.results117 o
theorem zrY {v1:yw}{x1:zu}{twice1:Bool}{r:Int}  (h:zcF v1 x1 twice1=some r):zk Tryz.prog 70 [ref v1,rep x1,rep twice1] (rep r):=by
 unfold zcF at h
 obtain⟨r1,hv1,h⟩:=bind_some h
 refine zk.i Tryz.func70 o Tryz.ntmps70 o (fun F=>(.sn mx (.c (.box .none (.s o)) (.asi (.nil (.seq (.block (.sn mx (.fa j8 vt o (.ld ty9 o (.c (.call .none (zeV hv1) (.cons (.s o) .nil)) (.c (.not .none (.s o)) (.asn o (.nil (.cb o h (fun _ h=>?_) fun _ h=>?_)))))))))))))))
 ·
  refine .sn mx (.asi (.nil (.ret (.blkRet (.thenRet ?_)))))
  obtain rfl:=za h
  exact zb.rt Tryz.results70 o
 ·
  refine .sn mx (.mv o (.asn o (.nil (.cb o h (fun _ h=>?_) fun _ h=>?_))))
  ·
   refine .sn mx (.asi (.nil (.ret (.blkRet (.thenRet ?_)))))
   obtain rfl:=za h
   exact zb.rt Tryz.results70 o
  ·
   obtain⟨v2,hv4,h⟩:=zn h
   refine .skip (.blkNormal (.then (.seq (.sn mx (.fa YN zaR o (.ld yV o (.fa YO zaS o (.ld yV o (.c (.re hv4 (.buildSlice (xs:=[_,_]) .none zbu yV zkf (.cons (.s o) (.cons (.s o) .nil)) o (by decide))) (.ln zbu o (.mvi (.nil ?_))))))))))))
   obtain⟨o_5,h,hK5⟩:=ym h
   refine .tJ (fun s=>o_5=Res.nx s) (.k 4 o .nil) zd.nil ?_ (fun j_5 hj5=>?_)
   ·
    refine .block (.rforEL h (fun p6_=>[(25,⟨True,rep p6_.1⟩)]) (fun p6_=>[]) (.k 25 o .nil) zd.nil (.k4 0 4 23 24 o o o o .nil) zd.nil (fun p6_ o_6 h hD6=>(.sn mx (.lt o o (.nil (.seq (.cb o h (fun _ h=>?_) fun _ h=>?_)))))))
    ·
     refine .skip (.then (.seq ?_))
     obtain⟨o_8,h,hK8⟩:=yB h
     unfold zhr at h
     refine .tJ (fun s=>o_8=Res.nx s) (.k4 0 4 23 24 o o o o (.k 25 o .nil)) zd.nil ?_ (fun j_8 hj8=>?_)
     ·
      obtain⟨hn9,h⟩:=zo h
      obtain⟨v3,hv10,h⟩:=zn h
      obtain⟨e1,hv11,h⟩:=bind_some h
      refine .block (.sr [oo,oo,([],[8]),([8],[8])] mx (.ixA zbu yV o o hn9 (.rlA hv10 yV o (.al zf0 o (.st yV o o o (.nil (.freeze (t:=8) o o zd.nil o (.sn mx (.mv o (.ld yV o (.c (.call .none (zrZ hv11) (.cons (.s o) (.cons (.s o) .nil))) (.asn o (.nil (.sn mx (.mv o (.nei o (.nil (.cb o h (fun _ h=>?_) fun _ h=>?_))))))))))))))))))
      ·
       refine .sn mx (.mv o (.asn o (.nil (.ret (.blkRet (.thenRet (.thenRet (.blkRet (.thenRet ?_)))))))))
       replace h:=yf hK8 (za h)
       replace h:=hD6 _ (za h)
       replace h:=z8 hK5 (za h)
       obtain rfl:=za h
       exact zb.rt Tryz.results70 o
      ·
       exact .skip (.blkNormal (zb.j _ (za h)))
     ·
      have h:=yD hK8 hj8
      exact .rn mx (.adi o (.mv o (.nil (zb.ag (za h)))))
    ·
     refine .exit (.thenExit (.thenExit (.blkExit ?_)))
     replace h:=hD6 _ (za h)
     exact zb.j _ (za h)
   ·
    have h:=yn hK5 hj5
    refine .seq (.sn mx (.fa Qu Yk o (.ld QE o (.ln ji o (.c (.gt .none (.s o) .i) (.nil (.cb o h (fun _ h=>?_) fun _ h=>?_)))))))
    ·
     refine .sn mx (.asi (.nil (.ret (.thenRet ?_))))
     obtain rfl:=za h
     exact zb.rt Tryz.results70 o
    ·
     obtain⟨e2,hv14,h⟩:=bind_some h
     refine .skip (.then (.seq (.sn mx (.fa Qu Yk o (.ld QE o (.c (.call .none (zqg hv14) (.cons (.s o) .nil)) (.asn o (.nil (.sn mx (.mv o (.nei o (.nil (.cb o h (fun _ h=>?_) fun _ h=>?_)))))))))))))
     ·
      refine .sn mx (.mv o (.asn o (.nil (.ret (.thenRet ?_)))))
      obtain rfl:=za h
      exact zb.rt Tryz.results70 o
     ·
      obtain⟨e3,hv16,h⟩:=bind_some h
      refine .skip (.then (.seq (.sn mx (.fa JG zaT o (.ld ty9 o (.c (.call .none (zfG hv16) (.cons (.s o) .nil)) (.asn o (.nil (.sn mx (.mv o (.nei o (.nil (.cb o h (fun _ h=>?_) fun _ h=>?_)))))))))))))
      ·
       refine .sn mx (.mv o (.asn o (.nil (.ret (.thenRet ?_)))))
       obtain rfl:=za h
       exact zb.rt Tryz.results70 o
      ·
       obtain⟨r2,hv18,h⟩:=bind_some h
       refine .skip (.then (.seq (.sn mx (.fa YP JN o (.ld ty9 o (.c (.neS .none (yy Tryz.underlying9) (.s o) (.str (l:=[]) (by decide))) (.mv o (.fg YP JN o o o (.lg ty9 o o o (.c (.callIf (.at o o) zjR (fun hg=>zeV ((fun hg=>qf hv18 (hg.2)) hg)) (.cons (.tmp o id) .nil) (fun h=>h)) (.c (.not (.at o o) (.tmp o id)) (.pa o o (.nil (.cb o h (fun _ h=>?_) fun _ h=>?_))))))))))))))
       ·
        refine .sn mx (.asi (.nil (.ret (.thenRet ?_))))
        obtain rfl:=za h
        exact zb.rt Tryz.results70 o
       ·
        refine .skip (.then (.sn mx (.asi (.nil (.ret ?_)))))
        obtain rfl:=za h
        exact zb.rt Tryz.results70 o
theorem zqj {l1:(List Box)}{r:Int}  (h:zcf l1=some r):zk Tryz.prog 151 [rep l1] (rep r):=by
 unfold zcf at h
 refine zk.i Tryz.func151 o Tryz.ntmps151 o (fun F=>(.sn mx (.asi (.nil (.seq (.sn mx (.mv o (.ln jN o (.mvi (.nil ?_))))))))))
 obtain⟨o_1,h,hK1⟩:=ym h
 refine .tJ (fun s=>o_1=Res.nx s) Sub.nil zd.nil ?_ (fun j_1 hj1=>?_)
 ·
  refine .block (.rforEL h (fun p2_=>[(8,⟨True,rep p2_.1⟩)]) (fun p2_=>[]) (.k 8 o .nil) zd.nil (.k2 6 7 o o .nil) zd.nil (fun p2_ o_2 h hD2=>(.sn mx (.lt o o (.nil (.seq (.cb o h (fun _ h=>?_) fun _ h=>?_)))))))
  ·
   refine .skip (.then (.seq ?_))
   obtain⟨o_4,h,hK4⟩:=yB h
   unfold zgU at h
   refine .tJ (fun s=>o_4=Res.nx s) (.k2 6 7 o o (.k 8 o .nil)) zd.nil ?_ (fun j_4 hj4=>?_)
   ·
    obtain⟨hn5,h⟩:=zo h
    obtain⟨v1,hv6,h⟩:=zn h
    obtain⟨e1,hv7,h⟩:=bind_some h
    refine .block (.sr [oo,oo,([],[4]),([4],[4])] mx (.ixA jN zN o o hn5 (.rlA hv6 zN o (.al jY o (.st zN o o o (.nil (.freeze (t:=4) o o zd.nil o (.sn mx (.ld zN o (.c (.call .none (zeh hv7) (.cons (.s o) .nil)) (.asn o (.nil (.sn mx (.mv o (.nei o (.nil (.cb o h (fun _ h=>?_) fun _ h=>?_)))))))))))))))))
    ·
     refine .sn mx (.mv o (.asn o (.nil (.ret (.blkRet (.thenRet (.thenRet (.blkRet (.thenRet ?_)))))))))
     replace h:=yf hK4 (za h)
     replace h:=hD2 _ (za h)
     replace h:=z8 hK1 (za h)
     obtain rfl:=za h
     exact zb.rt Tryz.results151 o
    ·
     exact .skip (.blkNormal (zb.j _ (za h)))
   ·
    have h:=yD hK4 hj4
    exact .rn mx (.adi o (.mv o (.nil (zb.ag (za h)))))
  ·
   refine .exit (.thenExit (.thenExit (.blkExit ?_)))
   replace h:=hD2 _ (za h)
   exact zb.j _ (za h)
 ·
  have h:=yn hK1 hj1
  refine .sn mx (.asi (.nil (.ret ?_)))
  obtain rfl:=za h
  exact zb.rt Tryz.results151 o
theorem zqi {l1:(List Box)}{r:(Box×Int)}  (h:zaN l1=some r):zk Tryz.prog 118 [rep l1] (tup [rep r.1,rep r.2]):=by
 unfold zaN at h
 obtain⟨v1,hv1,h⟩:=zn h
 refine zk.i Tryz.func118 o Tryz.ntmps118 o (fun F=>(.sr [([],[2]),oo] mx (.al jY o (.cA (.assign .none .i) (.nil (.reB (t:=2) o (congrArg (zM 43) hv1) (.nameBox (t:=2) (g:=5001) o o (fun m5001=>(.seq (.sn mx (.mv o (.ln jN o (.c (.gt .none (.s o) .i) (.nil (.cb o h (fun _ h=>?_) fun _ h=>?_)))))))))))))))
 ·
  obtain⟨v2,hv3,h⟩:=zn h
  refine .sr [oo,([5001],[5001]),oo] mx (.cA (.re hv3 (.buildF (y:=(⟨(0:Int),(0:Int),(0:Int),(0:Int)⟩:Box)) .none qR q9 o .nil .nil)) (.s0 5001 zN o o o (.cA (.assign .none .i) (.nil (.fb 5001 [2] o (.cons (t:=2) o trivial .nil) (.ret (.thenRet ?_)))))))
  obtain rfl:=za h
  exact zb.r2 Tryz.results118 zN o o
 ·
  obtain⟨e1,hv4,h⟩:=bind_some h
  refine .skip (.then (.seq (.sn mx (.mv o (.c (.call .none (zqj hv4) (.cons (.s o) .nil)) (.asn o (.nil (.sn mx (.mv o (.nei o (.nil (.cb o h (fun _ h=>?_) fun _ h=>?_))))))))))))
  ·
   obtain⟨v3,hv6,h⟩:=zn h
   refine .sr [oo,oo,([5001],[5001]),oo] mx (.cA (.re hv6 (.buildF (y:=(⟨(0:Int),(0:Int),(0:Int),(0:Int)⟩:Box)) .none qR q9 o .nil .nil)) (.mvA o (.s0 5001 zN o o o (.asnA o (.nil (.fb 5001 [2] o (.cons (t:=2) o trivial .nil) (.ret (.thenRet ?_))))))))
   obtain rfl:=za h
   exact zb.r2 Tryz.results118 zN o o
  ·
   refine .skip (.then (.seq (.sn mx (.mv o (.ln jN o (.eqi o (.nil (.cb o h (fun _ h=>?_) fun _ h=>?_))))))))
   ·
    obtain⟨v4,hv8,h⟩:=zn h
    refine .sr [oo,([5001],[5001]),oo] mx (.cA (.re hv8 (.buildF (y:=(⟨(0:Int),(0:Int),(0:Int),(0:Int)⟩:Box)) .none qR q9 o .nil .nil)) (.s0 5001 zN o o o (.cA (.assign .none .i) (.nil (.fb 5001 [2] o (.cons (t:=2) o trivial .nil) (.ret (.thenRet ?_)))))))
    obtain rfl:=za h
    exact zb.r2 Tryz.results118 zN o o
   ·
    obtain⟨hn9,h⟩:=zo h
    obtain⟨v5,hv10,h⟩:=zn h
    refine .skip (.then (.sr [oo,oo,oo,([],[5]),([5],[5])] mx (.mvA o (.cA (.indexAddr .none jN zN (.s o) .i (fun _=>hn9)) (.rlA hv10 zN o (.al jY o (.st zN o o o (.nil (.nameBox (t:=5) (g:=5002) o o (fun m5002=>(.seq (.sn mx (.mv o (.ln jN o (.mvi (.nil ?_))))))))))))))))
    obtain⟨j_11,h,hK11⟩:=bind_some h
    refine .thenJ (ι:=Box) (fun j_11=>[]) (fun j_11=>[(5002,some (qb m5002 43 j_11))]) (fun s=>j_11=s) (.k2 2 5 o o .nil) (.k 5001 o .nil) ?_ (fun j_11' hj11=>?_)
    ·
     refine .block (.rforL h (fun p12_=>[(29,⟨True,rep p12_.1⟩)]) (fun p12_=>[(5002,some (qb m5002 43 p12_.2))]) (.k 29 o .nil) (.k 5002 o .nil) (.k4 2 5 27 28 o o o o .nil) (.k 5001 o .nil) (fun p12_ o_12 h hD12=>(.sn mx (.lt o o (.nil (.seq (.cb o h (fun _ h=>?_) fun _ h=>?_)))))))
     ·
      refine .skip (.then (.seq ?_))
      obtain⟨j_14,h,hK14⟩:=bind_some h
      unfold zei at h
      refine .thenJ (ι:=Box) (fun j_14=>[]) (fun j_14=>[(5002,some (qb m5002 43 j_14))]) (fun s=>j_14=s) (.k4 2 5 27 28 o o o o (.k 29 o .nil)) (.k 5001 o .nil) ?_ (fun j_14' hj14=>?_)
      ·
       obtain⟨hn15,h⟩:=zo h
       obtain⟨v6,hv16,h⟩:=zn h
       obtain⟨x1,hv17,h⟩:=zn h
       obtain⟨y1,hv18,h⟩:=zn h
       obtain⟨v7,hv19,h⟩:=zn h
       refine .block (.sr [oo,oo,([],[7]),([7],[7])] mx (.ixA jN zN o o hn15 (.rlA hv16 zN o (.al jY o (.st zN o o o (.nil (.freeze (t:=7) o o (.k2 5001 5002 o o .nil) o (.sr [oo,([5002],[]),oo,oo,oo,oo,([5002],[]),oo,oo,oo,oo,oo] mx (.cA (.fieldPtr .none vn (.s o)) (.cA (.loadAt (k:=5002) .none ty3 o (.s o) va) (.faA vn va o (.ldA ty3 o (.cA (.min2 .none (.s o) (.s o)) (.cA (.fieldPtr .none vo (.s o)) (.cA (.loadAt (k:=5002) .none ty3 o (.s o) vb) (.faA vo vb o (.ldA ty3 o (.cA (.min2 .none (.s o) (.s o)) (.cA (.re hv17 (.assign .none (.s o))) (.cA (.re hv18 (.assign .none (.s o))) (.nil (.rg [oo,oo,oo,([5002],[]),oo,([5002],[]),oo,oo,oo,oo,oo,oo,oo,oo,oo,oo,([5002],[]),oo,([5002],[]),oo,oo,oo,oo,oo,oo,oo,oo,oo,oo,([5002],[5002])] mx (.mvA o (.mvA o (.cA (.fieldPtr .none vn (.s o)) (.cA (.loadAt (k:=5002) .none ty3 o (.s o) va) (.cA (.fieldPtr .none Qe (.s o)) (.cA (.loadAt (k:=5002) .none ty3 o (.s o) vO) (.addA o o (.faA vn va o (.ldA ty3 o (.faA Qe vO o (.ldA ty3 o (.addA o o (.cA (.max2 .none (.s o) (.s o)) (.mvA o (.subA o o (.cA (.fieldPtr .none vo (.s o)) (.cA (.loadAt (k:=5002) .none ty3 o (.s o) vb) (.cA (.fieldPtr .none Qf (.s o)) (.cA (.loadAt (k:=5002) .none ty3 o (.s o) vP) (.addA o o (.faA vo vb o (.ldA ty3 o (.faA Qf vP o (.ldA ty3 o (.addA o o (.cA (.max2 .none (.s o) (.s o)) (.mvA o (.subA o o (.cA (.re hv19 (.buildF (y:=(⟨x1,y1,W ((max (W (p12_.2.X+p12_.2.W_)) (W (v6.X+v6.W_))) - x1),W ((max (W (p12_.2.Y+p12_.2.H)) (W (v6.Y+v6.H))) - y1)⟩:Box)) .none qR q9 o (.cons (.s o) (.cons (.s o) (.cons (.s o) (.cons (.s o) .nil)))) (.cons o zbq (.cons o zbr (.cons o zbs (.cons o zbt .nil)))))) ?_)))))))))))))))))))))))))))))))))))))))))))))))))))
       exact .s0 5002 zN o o o (.nil (.blkNormal (zb.j _ (za h))))
      ·
       subst hj14;have h:=hK14;clear hK14
       exact .rn mx (.adi o (.mv o (.nil (zb.ag (za h)))))
     ·
      refine .exit (.thenExit (.thenExit (.blkExit ?_)))
      replace h:=hD12 _ (za h)
      exact zb.j _ (za h)
    ·
     subst hj11;have h:=hK11;clear hK11
     refine .freezeBox (g:=5002) (ts:=[5]) o (.cons (t:=5) o trivial .nil) (.k 5001 o .nil) o (.seq (.sn mx (.fa Qe vO o (.ld ty3 o (.c (.gt .none (.s o) .i) (.mv o (.fg Qf vP o o o (.lg ty3 o o o (.c (.gt (.at o o) (.tmp o id) .i) (.po o o (.nil (.cb o h (fun _ h=>?_) fun _ h=>?_))))))))))))
     ·
      obtain⟨v8,hv21,h⟩:=zn h
      refine .sr [oo,([5001],[5001]),oo] mx (.cA (.re hv21 (.buildF (y:=(⟨(0:Int),(0:Int),(0:Int),(0:Int)⟩:Box)) .none qR q9 o .nil .nil)) (.s0 5001 zN o o o (.cA (.assign .none .i) (.nil (.fb 5001 [2] o (.cons (t:=2) o trivial .nil) (.ret (.thenRet ?_)))))))
      obtain rfl:=za h
      exact zb.r2 Tryz.results118 zN o o
     ·
      refine .skip (.then (.sr [oo,([5001],[5001]),oo] mx (.ldA zN o (.s0 5001 zN o o o (.cA (.assign .none .i) (.nil (.fb 5001 [2] o (.cons (t:=2) o trivial .nil) (.ret ?_))))))))
      obtain rfl:=za h
      exact zb.r2 Tryz.results118 zN o o
theorem zqh {b1:Box}{n1:Int}{r:(Box×Int)}  (h:zaM b1 n1=some r):zk Tryz.prog 119 [rep b1,rep n1] (tup [rep r.1,rep r.2]):=by
 unfold zaM at h
 obtain⟨v1,hv1,h⟩:=zn h
 obtain⟨e1,hv2,h⟩:=bind_some h
 refine zk.i Tryz.func119 o Tryz.ntmps119 o (fun F=>(.sr [oo,([],[4]),oo] mx (.cA (.box .none (.s o)) (.al jY o (.cA (.assign .none .i) (.nil (.reB (t:=4) o (congrArg (zM 43) hv1) (.nameBox (t:=4) (g:=5001) o o (fun m5001=>(.seq (.sn mx (.ld zN o (.c (.call .none (zeh hv2) (.cons (.s o) .nil)) (.asn o (.nil (.sn mx (.mv o (.nei o (.nil (.cb o h (fun _ h=>?_) fun _ h=>?_))))))))))))))))))))
 ·
  obtain⟨v2,hv4,h⟩:=zn h
  refine .sr [oo,oo,([5001],[5001]),oo] mx (.cA (.re hv4 (.buildF (y:=(⟨(0:Int),(0:Int),(0:Int),(0:Int)⟩:Box)) .none qR q9 o .nil .nil)) (.mvA o (.s0 5001 zN o o o (.asnA o (.nil (.fb 5001 [4] o (.cons (t:=4) o trivial .nil) (.ret (.thenRet ?_))))))))
  obtain rfl:=za h
  exact zb.r2 Tryz.results119 zN o o
 ·
  refine .skip (.then (.seq (.sn mx (.mv o (.c (.lt .none (.s o) .i) (.mv o (.mg o o o (.c (.gt (.at o o) (.tmp o id) .i) (.po o o (.nil (.cb o h (fun _ h=>?_) fun _ h=>?_)))))))))))
  ·
   obtain⟨v3,hv6,h⟩:=zn h
   refine .sr [oo,([5001],[5001]),oo] mx (.cA (.re hv6 (.buildF (y:=(⟨(0:Int),(0:Int),(0:Int),(0:Int)⟩:Box)) .none qR q9 o .nil .nil)) (.s0 5001 zN o o o (.cA (.assign .none .i) (.nil (.fb 5001 [4] o (.cons (t:=4) o trivial .nil) (.ret (.thenRet ?_)))))))
   obtain rfl:=za h
   exact zb.r2 Tryz.results119 zN o o
  ·
   obtain⟨v4,hv7,h⟩:=zn h
   refine .skip (.then (.sr [oo,oo,oo,oo,oo,oo,oo,oo,oo,oo,oo,oo,oo,oo,oo,oo,oo,oo,oo,([],[7]),([7],[7])] mx (.faA vn va o (.ldA ty3 o (.mvA o (.subA o o (.faA vo vb o (.ldA ty3 o (.mvA o (.subA o o (.faA Qe vO o (.ldA ty3 o (.mvA o (.cA (.mulW .none .i (.s o)) (.addA o o (.faA Qf vP o (.ldA ty3 o (.mvA o (.cA (.mulW .none .i (.s o)) (.addA o o (.cA (.re hv7 (.buildF (y:=(⟨W (b1.X - n1),W (b1.Y - n1),W (b1.W_+(W (2*n1))),W (b1.H+(W (2*n1)))⟩:Box)) .none qR q9 o (.cons (.s o) (.cons (.s o) (.cons (.s o) (.cons (.s o) .nil)))) (.cons o zbq (.cons o zbr (.cons o zbs (.cons o zbt .nil)))))) (.al jY o (.st zN o o o (.nil (.freeze (t:=7) o o (.k 5001 o .nil) o (.seq (.sn mx (.fa Qe vO o (.ld ty3 o (.c (.lt .none (.s o) .i) (.mv o (.fg Qf vP o o o (.lg ty3 o o o (.c (.lt (.at o o) (.tmp o id) .i) (.po o o (.nil (.cb o h (fun _ h=>?_) fun _ h=>?_)))))))))))))))))))))))))))))))))))))
   ·
    obtain⟨v5,hv9,h⟩:=zn h
    refine .sr [oo,([5001],[5001]),oo] mx (.cA (.re hv9 (.buildF (y:=(⟨(0:Int),(0:Int),(0:Int),(0:Int)⟩:Box)) .none qR q9 o .nil .nil)) (.s0 5001 zN o o o (.cA (.assign .none .i) (.nil (.fb 5001 [4] o (.cons (t:=4) o trivial .nil) (.ret (.thenRet ?_)))))))
    obtain rfl:=za h
    exact zb.r2 Tryz.results119 zN o o
   ·
    obtain⟨e2,hv10,h⟩:=bind_some h
    refine .skip (.then (.seq (.sn mx (.ld zN o (.c (.call .none (zeh hv10) (.cons (.s o) .nil)) (.asn o (.nil (.sn mx (.mv o (.nei o (.nil (.cb o h (fun _ h=>?_) fun _ h=>?_))))))))))))
    ·
     obtain⟨v6,hv12,h⟩:=zn h
     refine .sr [oo,oo,([5001],[5001]),oo] mx (.cA (.re hv12 (.buildF (y:=(⟨(0:Int),(0:Int),(0:Int),(0:Int)⟩:Box)) .none qR q9 o .nil .nil)) (.mvA o (.s0 5001 zN o o o (.asnA o (.nil (.fb 5001 [4] o (.cons (t:=4) o trivial .nil) (.ret (.thenRet ?_))))))))
     obtain rfl:=za h
     exact zb.r2 Tryz.results119 zN o o
    ·
     refine .skip (.then (.sr [oo,([5001],[5001]),oo] mx (.ldA zN o (.s0 5001 zN o o o (.cA (.assign .none .i) (.nil (.fb 5001 [4] o (.cons (t:=4) o trivial .nil) (.ret ?_))))))))
     obtain rfl:=za h
     exact zb.r2 Tryz.results119 zN o o
theorem zrX {self:(yw×Int)→Option (Box×Int)}(hself:∀(x:(yw×Int)) (r:(Box×Int)),self x=some r→zk Tryz.prog 71 [ref x.1,rep x.2] (tup [rep r.1,rep r.2]))  {x:(yw×Int)}{r:(Box×Int)}(h:Qy self x=some r):zk Tryz.prog 71 [ref x.1,rep x.2] (tup [rep r.1,rep r.2]):=by
 unfold Qy at h
 obtain⟨v2,hv1,h⟩:=zn h
 obtain⟨hn2,h⟩:=zo h
 obtain⟨v3,hv3,h⟩:=zn h
 refine zk.i Tryz.func71 o Tryz.ntmps71 o (fun F=>(.sr [([],[4]),oo] mx (.al jY o (.cA (.assign .none .i) (.nil (.reB (t:=4) o (congrArg (zM 43) hv1) (.nameBox (t:=4) (g:=5001) o o (fun m5001=>(.sr [oo,oo,oo,oo,oo,oo,oo,oo,([],[6]),([6],[6])] mx (.mvA o (.cA (.nilCheckR .none (.s o)) (.faA Yh Yj o (.faA yX qc o (.ldA y8 o (.mvA o (.ixA yh zJ o o hn2 (.rlA hv3 zJ o (.al ja o (.st zJ o o o (.nil (.freeze (t:=6) o o (.k 5001 o .nil) o (.seq (.sn mx (.fa qV qO o (.ld ty3 o (.nei o (.nil (.cb o h (fun _ h=>?_) fun _ h=>?_))))))))))))))))))))))))))))
 ·
  refine .sr [oo,oo,([5001],[5001]),oo] mx (.faA jQ vc o (.ldA zN o (.s0 5001 zN o o o (.cA (.assign .none .i) (.nil (.fb 5001 [4] o (.cons (t:=4) o trivial .nil) (.ret (.thenRet ?_))))))))
  obtain rfl:=za h
  exact zb.r2 Tryz.results71 zN o o
 ·
  obtain⟨v4,hv5,h⟩:=zn h
  refine .skip (.then (.sr [([],[7])] mx (.cW (.nilRow (T:=43) (α:=Box) o) (.nil (.nameRow (t:=7) (g:=5002) o o o (fun s5002=>(.seq (.sn mx (.mv o (.c (.nilCheckR .none (.s o)) (.fa zd1 zj6 o (.ld zne o (.fa qI qJ o (.ld ty9 o (.c (.re hv5 (.lookup .none zeF znx (.s o) (.s o))) (.ln yI o (.mvi (.nil ?_))))))))))))))))))
  obtain⟨o_6,h,hK6⟩:=ym h
  refine .thenJ (ι:=(List Box)) (fun j_6=>[]) (fun j_6=>[(7,some (zq 43 j_6))]) (fun s=>o_6=Res.nx s) (.k 4 o .nil) (.k 5001 o .nil) ?_ (fun j_6 hj6=>?_)
  ·
   refine .block (.anon (t:=7) (g:=5002) o o trivial o (.rforEL h (fun p7_=>[(35,⟨True,rep p7_.1⟩)]) (fun p7_=>[(7,some (zq 43 p7_.2))]) (.k 35 o .nil) (.k 7 o .nil) (.k4 0 4 33 34 o o o o .nil) (.k 5001 o .nil) (fun p7_ o_7 h hD7=>(.nameRow (t:=7) (g:=5003) o o o (fun s5003=>(.sn mx (.lt o o (.nil (.seq (.cb o h (fun _ h=>?_) fun _ h=>?_))))))))))
   ·
    refine .skip (.then (.seq ?_))
    obtain⟨o_9,h,hK9⟩:=yB h
    unfold za7 at h
    refine .thenJ (ι:=(List Box)) (fun j_9=>[]) (fun j_9=>[(7,some (zq 43 j_9))]) (fun s=>o_9=Res.nx s) (.k4 0 4 33 34 o o o o (.k 35 o .nil)) (.k 5001 o .nil) ?_ (fun j_9 hj9=>?_)
    ·
     obtain⟨hn10,h⟩:=zo h
     obtain⟨r1,hv11,h⟩:=bind_some h
     refine .block (.sn mx (.ix yI ty3 o o hn10 (.ld ty3 o (.asn o (.nil (.sr [oo,oo,oo,oo,oo,oo,([],[10]),([10],[10]),oo] mx (.mvA o (.mvA o (.cA (.call .none (hself _ _ hv11) (.cons (.s o) (.cons (.s o) .nil))) (.mvA o (.exA o o (.exA o o (.al jY o (.st zN o o o (.asnA o (.nil (.freeze (t:=10) o o (.k2 5001 5003 o o .nil) o (.seq (.sn mx (.mv o (.nei o (.nil (.cb o h (fun _ h=>?_) fun _ h=>?_)))))))))))))))))))))))
     ·
      obtain⟨v5,hv13,h⟩:=zn h
      refine .sr [oo,oo,([5001],[5001]),oo] mx (.cA (.re hv13 (.buildF (y:=(⟨(0:Int),(0:Int),(0:Int),(0:Int)⟩:Box)) .none qR q9 o .nil .nil)) (.mvA o (.s0 5001 zN o o o (.asnA o (.nil (.fb 5001 [4] o (.cons (t:=4) o trivial .nil) (.ret (.thenRet (.blkRet (.thenRet (.thenRet (.blkRet (.thenRet ?_)))))))))))))
      replace h:=yf hK9 (za h)
      replace h:=hD7 _ (za h)
      replace h:=z8 hK6 (za h)
      obtain rfl:=za h
      exact zb.r2 Tryz.results71 zN o o
     ·
      obtain⟨hn14,h⟩:=zo h
      exact .skip (.then (.rg [oo,oo,oo,([5003],[52,5003]),([52],[7,52])] mx (.mvA o (.ldA zN o (.cA (.buildSlice (xs:=[_]) .none jN zN zke (.cons (.s o) .nil) o (by decide)) (.cW (.append (k:=5003) zl6 o (.told (.s o) o) (.s o) hn14) (.cW (.passRow o (.tmp o)) (.nil (.blkNormal (zb.j _ (za h)))))))))))
    ·
     have h:=yD hK9 hj9
     exact .nameRow (t:=7) (g:=5004) o o o (fun s5004=>(.rn mx (.adi o (.mv o (.nil (.anon (t:=7) (g:=5004) o o trivial o (zb.ag (za h))))))))
   ·
    refine .exit (.thenExit (.thenExit (.blkExit (.anon (t:=7) (g:=5003) o o trivial o ?_))))
    replace h:=hD7 _ (za h)
    exact zb.j _ (za h)
  ·
   have h:=yn hK6 hj6
   obtain⟨r2,hv15,h⟩:=bind_some h
   refine .freezeRowA (t:=7) o o (.k 5001 o .nil) o (.sr [oo,oo,oo,oo,oo,([],[12]),([12],[12]),oo] mx (.mvA o (.cA (.call .none (zqi hv15) (.cons (.s o) .nil)) (.mvA o (.exA o o (.exA o o (.al jY o (.st zN o o o (.asnA o (.nil (.freeze (t:=12) o o (.k 5001 o .nil) o (.seq (.sn mx (.mv o (.nei o (.nil (.cb o h (fun _ h=>?_) fun _ h=>?_)))))))))))))))))
   ·
    obtain⟨v6,hv17,h⟩:=zn h
    refine .sr [oo,oo,([5001],[5001]),oo] mx (.cA (.re hv17 (.buildF (y:=(⟨(0:Int),(0:Int),(0:Int),(0:Int)⟩:Box)) .none qR q9 o .nil .nil)) (.mvA o (.s0 5001 zN o o o (.asnA o (.nil (.fb 5001 [4] o (.cons (t:=4) o trivial .nil) (.ret (.thenRet ?_))))))))
    obtain rfl:=za h
    exact zb.r2 Tryz.results71 zN o o
   ·
    obtain⟨r3,hv18,h⟩:=bind_some h
    refine .skip (.then (.sr [oo,oo,oo,oo,([5001],[5001]),oo] mx (.ldA zN o (.cA (.call .none (zqh hv18) (.cons (.s o) (.cons .i .nil))) (.exA o o (.exA o o (.s0 5001 zN o o o (.asnA o (.nil (.fb 5001 [4] o (.cons (t:=4) o trivial .nil) (.ret ?_)))))))))))
    obtain rfl:=za h
    exact zb.r2 Tryz.results71 zN o o
theorem zlt:∀(k:Nat)  (x:(yw×Int)) (r:(Box×Int)) (h:qp Qy k x=some r),zk Tryz.prog 71 [ref x.1,rep x.2] (tup [rep r.1,rep r.2])
 | 0,x,r,h=>by simp[qp]at h
 | k+1,x,r,h=>zrX (zlt k) h
theorem zrW {v1:yw}{i1:Int}{r:(Box×Int)}  (h:zcE v1 i1=some r):zk Tryz.prog 71 [ref v1,rep i1] (tup [rep r.1,rep r.2]):=
 let ⟨k,hk⟩:=zgQ h
 zlt k (v1,i1) r hk
theorem zlr {d1:Doc}{r:Int}  (h:Ys d1=some r):zk Tryz.prog 19 [rep d1] (rep r):=by
 unfold Ys at h
 refine zk.i Tryz.func19 o Tryz.ntmps19 o (fun F=>(.sn mx (.c (.box .none (.s o)) (.asi (.nil (.seq (.sn mx (.fa yX qc o (.ld y8 o (.ln yh o (.c (.gt .none (.s o) .i) (.mv o (.fg vM Qv o o o (.lg Qr o o o (.c (.len (.at o o) qY (.tmp o id)) (.c (.gt (.at o o) (.tmp o id) .i) (.po o o (.nil (.cb o h (fun _ h=>?_) fun _ h=>?_)))))))))))))))))))
 ·
  refine .sn mx (.asi (.nil (.ret (.thenRet ?_))))
  obtain rfl:=za h
  exact zb.rt Tryz.results19 o
 ·
  obtain⟨known1,hv2,h⟩:=zn h
  refine .skip (.then (.sr [([],[25]),([25],[3,25])] mx (.cW (.makeMap (K:=Str) (V:=Bool) o) (.cW (.passRow o (.tmp o)) (.nil (.reB (t:=3) o (congrArg zR hv2) (.nameMap (t:=3) (g:=5001) o o o (fun s5001=>(.seq (.sn mx (.fa yX qc o (.ld y8 o (.ln yh o (.mvi (.nil ?_)))))))))))))))
  obtain⟨o_3,h,hK3⟩:=ym h
  refine .thenJ (ι:=(GMap Str Bool)) (fun j_3=>[]) (fun j_3=>[(5001,some (ze.at s5001 (zR j_3)))]) (fun s=>o_3=Res.nx s) (.k2 1 3 o o .nil) zd.nil ?_ (fun j_3 hj3=>?_)
  ·
   refine .block (.rforEL h (fun p4_=>[(29,⟨True,rep p4_.1⟩)]) (fun p4_=>[(5001,some (ze.at s5001 (zR p4_.2)))]) (.k 29 o .nil) (.k 5001 o .nil) (.k4 1 3 27 28 o o o o .nil) zd.nil (fun p4_ o_4 h hD4=>(.sn mx (.lt o o (.nil (.seq (.cb o h (fun _ h=>?_) fun _ h=>?_)))))))
   ·
    refine .skip (.then (.seq ?_))
    obtain⟨o_6,h,hK6⟩:=yB h
    unfold zeS at h
    refine .thenJ (ι:=(GMap Str Bool)) (fun j_6=>[]) (fun j_6=>[(5001,some (ze.at s5001 (zR j_6)))]) (fun s=>o_6=Res.nx s) (.k4 1 3 27 28 o o o o (.k 29 o .nil)) zd.nil ?_ (fun j_6 hj6=>?_)
    ·
     obtain⟨hn7,h⟩:=zo h
     obtain⟨v1,hv8,h⟩:=zn h
     obtain⟨e1,hv9,h⟩:=bind_some h
     refine .block (.sr [oo,oo,([],[5]),([5],[5])] mx (.ixA yh zJ o o hn7 (.rlA hv8 zJ o (.al ja o (.st zJ o o o (.nil (.freeze (t:=5) o o (.k 5001 o .nil) o (.seq (.sr [oo,oo,oo,oo,([5001],[]),oo,oo] mx (.ldA zJ o (.mvA o (.faA qI qJ o (.ldA ty9 o (.cA (.lookupO (q:=5001) .none zeD zo4 zcB (.told (.s o) o) (.s o)) (.cA (.call .none (zrU hv9) (.cons (.s o) (.cons (.s o) .nil))) (.asnA o (.nil (.sn mx (.mv o (.nei o (.nil (.cb o h (fun _ h=>?_) fun _ h=>?_))))))))))))))))))))))
     ·
      refine .sn mx (.mv o (.asn o (.nil (.ret (.thenRet (.blkRet (.thenRet (.thenRet (.blkRet (.thenRet ?_))))))))))
      replace h:=yf hK6 (za h)
      replace h:=hD4 _ (za h)
      replace h:=z8 hK3 (za h)
      obtain rfl:=za h
      exact zb.rt Tryz.results19 o
     ·
      exact .skip (.then (.rg [oo,oo,oo,([5001],[5001])] mx (.mvA o (.faA qI qJ o (.ldA ty9 o (.cN (.mapUpdate (q:=5001) zeD (.s o) o (.s o) .bool) (.nil (.blkNormal (zb.j _ (za h))))))))))
    ·
     have h:=yD hK6 hj6
     exact .rn mx (.adi o (.mv o (.nil (zb.ag (za h)))))
   ·
    refine .exit (.thenExit (.thenExit (.blkExit ?_)))
    replace h:=hD4 _ (za h)
    exact zb.j _ (za h)
  ·
   have h:=yn hK3 hj3
   obtain⟨v2,hv11,h⟩:=bind_some h
   obtain⟨p1,hv12,h⟩:=bind_some h
   obtain⟨e2,hv13,h⟩:=bind_some h
   refine .sn mx (.ld yq o (.c (.isRef hv12 (.call .none (zrV hv11) (.cons (.s o) .nil))) (.asn o (.nil (.seq (.sn mx (.mv o (.c (.call .none (zr0 hv13) (.cons (.s o) .nil)) (.asn o (.nil (.sn mx (.mv o (.nei o (.nil (.cb o h (fun _ h=>?_) fun _ h=>?_)))))))))))))))
   ·
    refine .sn mx (.mv o (.asn o (.nil (.ret (.thenRet ?_)))))
    obtain rfl:=za h
    exact zb.rt Tryz.results19 o
   ·
    refine .skip (.then (.seq (.sn mx (.fa vM Qv o (.ld Qr o (.ln qY o (.mvi (.nil ?_))))))))
    obtain⟨o_15,h,hK15⟩:=ym h
    refine .thenJ (ι:=(GMap Str Bool)) (fun j_15=>[]) (fun j_15=>[(5001,some (ze.at s5001 (zR j_15)))]) (fun s=>o_15=Res.nx s) (.k2 1 3 o o (.k 7 o .nil)) zd.nil ?_ (fun j_15 hj15=>?_)
    ·
     refine .block (.rforEL h (fun p16_=>[(56,⟨True,rep p16_.1⟩)]) (fun p16_=>[(5001,some (ze.at s5001 (zR p16_.2)))]) (.k 56 o .nil) (.k 5001 o .nil) (.k4 1 3 7 54 o o o o (.k 55 o .nil)) zd.nil (fun p16_ o_16 h hD16=>(.sn mx (.lt o o (.nil (.seq (.cb o h (fun _ h=>?_) fun _ h=>?_)))))))
     ·
      refine .skip (.then (.seq ?_))
      obtain⟨o_18,h,hK18⟩:=yB h
      unfold zeT at h
      refine .thenJ (ι:=(GMap Str Bool)) (fun j_18=>[]) (fun j_18=>[(5001,some (ze.at s5001 (zR j_18)))]) (fun s=>o_18=Res.nx s) (.k4 1 3 7 54 o o o o (.k2 55 56 o o .nil)) zd.nil ?_ (fun j_18 hj18=>?_)
      ·
       obtain⟨hn19,h⟩:=zo h
       obtain⟨v3,hv20,h⟩:=zn h
       obtain⟨e3,hv21,h⟩:=bind_some h
       refine .block (.sr [oo,oo,([],[10]),([10],[10])] mx (.ixA qY yW o o hn19 (.rlA hv20 yW o (.al YC o (.st yW o o o (.nil (.freeze (t:=10) o o (.k 5001 o .nil) o (.seq (.sr [oo,oo,oo,oo,oo,([5001],[]),oo,oo] mx (.mvA o (.ldA yW o (.mvA o (.faA j8 vt o (.ldA ty9 o (.cA (.lookupO (q:=5001) .none zeD zo4 zcB (.told (.s o) o) (.s o)) (.cA (.call .none (zrY hv21) (.cons (.s o) (.cons (.s o) (.cons (.s o) .nil)))) (.asnA o (.nil (.sn mx (.mv o (.nei o (.nil (.cb o h (fun _ h=>?_) fun _ h=>?_)))))))))))))))))))))))
       ·
        refine .sn mx (.mv o (.asn o (.nil (.ret (.thenRet (.blkRet (.thenRet (.thenRet (.blkRet (.thenRet ?_))))))))))
        replace h:=yf hK18 (za h)
        replace h:=hD16 _ (za h)
        replace h:=z8 hK15 (za h)
        obtain rfl:=za h
        exact zb.rt Tryz.results19 o
       ·
        exact .skip (.then (.rg [oo,oo,oo,([5001],[5001])] mx (.mvA o (.faA j8 vt o (.ldA ty9 o (.cN (.mapUpdate (q:=5001) zeD (.s o) o (.s o) .bool) (.nil (.blkNormal (zb.j _ (za h))))))))))
      ·
       have h:=yD hK18 hj18
       exact .rn mx (.adi o (.mv o (.nil (zb.ag (za h)))))
     ·
      refine .exit (.thenExit (.thenExit (.blkExit ?_)))
      replace h:=hD16 _ (za h)
      exact zb.j _ (za h)
    ·
     have h:=yn hK15 hj15
     refine .seq (.sn mx (.fa yX qc o (.ld y8 o (.ln yh o (.mvi (.nil ?_))))))
     obtain⟨o_23,h,hK23⟩:=ym h
     refine .tJ (fun s=>o_23=Res.nx s) Sub.nil zd.nil ?_ (fun j_23 hj23=>?_)
     ·
      refine .block (.rforEL h (fun p24_=>[(77,⟨True,rep p24_.1⟩)]) (fun p24_=>[]) (.k 77 o .nil) zd.nil (.k2 7 76 o o .nil) zd.nil (fun p24_ o_24 h hD24=>(.sn mx (.lt o o (.nil (.seq (.cb o h (fun _ h=>?_) fun _ h=>?_)))))))
      ·
       refine .skip (.then (.seq ?_))
       obtain⟨o_26,h,hK26⟩:=yB h
       unfold zeU at h
       refine .tJ (fun s=>o_26=Res.nx s) (.k2 7 76 o o (.k 77 o .nil)) zd.nil ?_ (fun j_26 hj26=>?_)
       ·
        obtain⟨r1,hv27,h⟩:=bind_some h
        refine .block (.sn mx (.mv o (.asn o (.nil (.sr [oo,oo,oo,oo,oo,oo,([],[13]),([13],[13]),oo] mx (.mvA o (.mvA o (.cA (.call .none (zrW hv27) (.cons (.s o) (.cons (.s o) .nil))) (.mvA o (.exA o o (.exA o o (.al jY o (.st zN o o o (.asnA o (.nil (.sn mx (.mv o (.nei o (.nil (.cb o h (fun _ h=>?_) fun _ h=>?_))))))))))))))))))))
        ·
         refine .sn mx (.mv o (.asn o (.nil (.ret (.blkRet (.thenRet (.thenRet (.blkRet (.thenRet ?_)))))))))
         replace h:=yf hK26 (za h)
         replace h:=hD24 _ (za h)
         replace h:=z8 hK23 (za h)
         obtain rfl:=za h
         exact zb.rt Tryz.results19 o
        ·
         exact .skip (.blkNormal (zb.j _ (za h)))
       ·
        have h:=yD hK26 hj26
        exact .rn mx (.adi o (.mv o (.nil (zb.ag (za h)))))
      ·
       refine .exit (.thenExit (.thenExit (.blkExit ?_)))
       replace h:=hD24 _ (za h)
       exact zb.j _ (za h)
     ·
      have h:=yn hK23 hj23
      refine .sn mx (.asi (.nil (.ret ?_)))
      obtain rfl:=za h
      exact zb.rt Tryz.results19 o
theorem zi9  {r:(List Str)}  (h:zbT=some r):zk Tryz.prog 20 [] (rep r):=by
 unfold zbT at h
 refine zk.i Tryz.func20 o Tryz.ntmps20 o (fun F=>(.sn mx (.c (.assign .none (.const (x:=([]:(List Str))) (fun M w=>⟨_,⟨none,0,rfl,Nat.le_refl _,by decide,rfl⟩,rfl⟩))) (.nil (.sn mx (.c (.buildSlice (xs:=[_,_,_,_,_,_,_]) .none yO ty9 hz9 (.cons (.str (l:=[]) (by decide)) (.cons (.str (l:=[98,111,120]) (by decide)) (.cons (.str (l:=[114,111,117,110,100]) (by decide)) (.cons (.str (l:=[111,118,97,108]) (by decide)) (.cons (.str (l:=[100,105,97,109,111,110,100]) (by decide)) (.cons (.str (l:=[110,111,116,101]) (by decide)) (.cons (.str (l:=[103,114,111,117,112]) (by decide)) .nil))))))) o (by decide)) (.asn o (.nil (.ret ?_)))))))))
 obtain rfl:=za h
 exact zb.rt Tryz.results20 o
theorem zja {l1:(List Int)}{r:Str}  (h:YK l1=some r):zk Tryz.prog 22 [rep l1] (rep r):=by
 unfold YK at h
 refine zk.i Tryz.func22 o Tryz.ntmps22 o (fun F=>(.sn mx (.c (.assign .none (.str (l:=[]) (by decide))) (.nil (.sr [([],[3])] mx (.cW (.nilRow (T:=9) (α:=Str) o) (.nil (.nameRow (t:=3) (g:=5001) o o o (fun s5001=>(.seq (.sn mx (.mv o (.ln yI o (.mvi (.nil ?_)))))))))))))))
 obtain⟨j_1,h,hK1⟩:=bind_some h
 refine .thenJ (ι:=(List Str)) (fun j_1=>[]) (fun j_1=>[(3,some (zq 9 j_1))]) (fun s=>j_1=s) Sub.nil zd.nil ?_ (fun j_1' hj1=>?_)
 ·
  refine .block (.anon (t:=3) (g:=5001) o o trivial o (.rforL h (fun p2_=>[(8,⟨True,rep p2_.1⟩)]) (fun p2_=>[(3,some (zq 9 p2_.2))]) (.k 8 o .nil) (.k 3 o .nil) (.k2 6 7 o o .nil) zd.nil (fun p2_ o_2 h hD2=>(.nameRow (t:=3) (g:=5002) o o o (fun s5002=>(.sn mx (.lt o o (.nil (.seq (.cb o h (fun _ h=>?_) fun _ h=>?_))))))))))
  ·
   refine .skip (.then (.seq ?_))
   obtain⟨j_4,h,hK4⟩:=bind_some h
   unfold zdO at h
   refine .thenJ (ι:=(List Str)) (fun j_4=>[]) (fun j_4=>[(3,some (zq 9 j_4))]) (fun s=>j_4=s) (.k2 6 7 o o (.k 8 o .nil)) zd.nil ?_ (fun j_4' hj4=>?_)
   ·
    obtain⟨hn5,h⟩:=zo h
    obtain⟨r1,hv6,h⟩:=bind_some h
    obtain⟨hn7,h⟩:=zo h
    exact .block (.sn mx (.ix yI ty3 o o hn5 (.ld ty3 o (.asn o (.nil (.rg [oo,oo,oo,oo,([5002],[16,5002]),([16],[3,16])] mx (.mvA o (.mvA o (.cA (.call .none (QV hv6) (.cons (.s o) .nil)) (.cA (.buildSlice (xs:=[_]) .none yO ty9 hz9 (.cons (.s o) .nil) o (by decide)) (.cW (.append (k:=5002) zhG o (.told (.s o) o) (.s o) hn7) (.consWD (.passRow o (.tmp o)) o o (.nil (.blkNormal (zb.j _ (za h))))))))))))))))
   ·
    subst hj4;have h:=hK4;clear hK4
    exact .nameRow (t:=3) (g:=5003) o o o (fun s5003=>(.rn mx (.adi o (.mv o (.nil (.anon (t:=3) (g:=5003) o o trivial o (zb.ag (za h))))))))
  ·
   refine .exit (.thenExit (.thenExit (.blkExit (.anon (t:=3) (g:=5002) o o trivial o ?_))))
   replace h:=hD2 _ (za h)
   exact zb.j _ (za h)
 ·
  subst hj1;have h:=hK1;clear hK1
  obtain⟨r2,hv8,h⟩:=bind_some h
  refine .freezeRowA (t:=3) o o zd.nil o (.sn mx (.mv o (.c (.call .none (zmX hv8) (.cons (.s o) (.cons (.str (l:=[32]) (by decide)) .nil))) (.asn o (.nil (.ret ?_))))))
  obtain rfl:=za h
  exact zb.rt Tryz.results22 o
theorem zjd  {r:(List Str)}  (h:zaD=some r):zk Tryz.prog 74 [] (rep r):=by
 unfold zaD at h
 refine zk.i Tryz.func74 o Tryz.ntmps74 o (fun F=>(.sn mx (.c (.assign .none (.const (x:=([]:(List Str))) (fun M w=>⟨_,⟨none,0,rfl,Nat.le_refl _,by decide,rfl⟩,rfl⟩))) (.nil (.sn mx (.c (.buildSlice (xs:=[_,_,_,_,_]) .none yO ty9 hz9 (.cons (.str (l:=[]) (by decide)) (.cons (.str (l:=[117,112]) (by decide)) (.cons (.str (l:=[114,105,103,104,116]) (by decide)) (.cons (.str (l:=[100,111,119,110]) (by decide)) (.cons (.str (l:=[108,101,102,116]) (by decide)) .nil))))) o (by decide)) (.asn o (.nil (.ret ?_)))))))))
 obtain rfl:=za h
 exact zb.rt Tryz.results74 o
theorem zi8 {x1:zO}{r:Str}  (h:zaA x1=some r):zk Tryz.prog 23 [rep x1] (rep r):=by
 unfold zaA at h
 obtain⟨hn1,h⟩:=zo h
 obtain⟨r1,hv2,h⟩:=bind_some h
 obtain⟨hn3,h⟩:=zo h
 obtain⟨hn4,h⟩:=zo h
 obtain⟨hn5,h⟩:=zo h
 obtain⟨r2,hv6,h⟩:=bind_some h
 obtain⟨hn7,h⟩:=zo h
 refine zk.i Tryz.func23 o Tryz.ntmps23 o (fun F=>(.sn mx (.c (.box .none (.s o)) (.c (.assign .none (.str (l:=[]) (by decide))) (.nil (.sn mx (.fa zb8 zck o (.ld ty9 o (.c (.addStr .none (.s o) (.str (l:=[32]) (by decide)) (fun _=>hn1)) (.c (.call .none (zjd hv2) .nil) (.fa JF JM o (.ld ty3 o (.ix yO ty9 o o hn3 (.ld ty9 o (.c (.addStr .none (.s o) (.s o) (fun _=>hn4)) (.c (.addStr .none (.s o) (.str (l:=[32]) (by decide)) (fun _=>hn5)) (.fa zaG zaQ o (.ld ty3 o (.c (.call .none (QV hv6) (.cons (.s o) .nil)) (.c (.addStr .none (.s o) (.s o) (fun _=>hn7)) (.asn o (.nil (.ret ?_)))))))))))))))))))))))
 obtain rfl:=za h
 exact zb.rt Tryz.results23 o
theorem zoV {l1:(List zz)}{r:(List Int)}  (h:zay l1=some r):zk Tryz.prog 24 [rep l1] (rep r):=by
 unfold zay at h
 refine zk.i Tryz.func24 o Tryz.ntmps24 o (fun F=>(.sr [([],[2])] mx (.cW (.nilRow (T:=3) (α:=Int) o) (.nil (.nameRow (t:=2) (g:=5001) o o o (fun s5001=>(.seq (.sn mx (.mv o (.ln ji o (.mvi (.nil ?_))))))))))))
 obtain⟨j_1,h,hK1⟩:=bind_some h
 refine .thenJ (ι:=(List Int)) (fun j_1=>[]) (fun j_1=>[(2,some (zq 3 j_1))]) (fun s=>j_1=s) Sub.nil zd.nil ?_ (fun j_1' hj1=>?_)
 ·
  refine .block (.anon (t:=2) (g:=5001) o o trivial o (.rforL h (fun p2_=>[(7,⟨True,rep p2_.1⟩)]) (fun p2_=>[(2,some (zq 3 p2_.2))]) (.k 7 o .nil) (.k 2 o .nil) (.k2 5 6 o o .nil) zd.nil (fun p2_ o_2 h hD2=>(.nameRow (t:=2) (g:=5002) o o o (fun s5002=>(.sn mx (.lt o o (.nil (.seq (.cb o h (fun _ h=>?_) fun _ h=>?_))))))))))
  ·
   refine .skip (.then (.seq ?_))
   obtain⟨j_4,h,hK4⟩:=bind_some h
   unfold zdN at h
   refine .thenJ (ι:=(List Int)) (fun j_4=>[]) (fun j_4=>[(2,some (zq 3 j_4))]) (fun s=>j_4=s) (.k2 5 6 o o (.k 7 o .nil)) zd.nil ?_ (fun j_4' hj4=>?_)
   ·
    obtain⟨hn5,h⟩:=zo h
    obtain⟨v1,hv6,h⟩:=zn h
    obtain⟨hn7,h⟩:=zo h
    exact .block (.sr [oo,oo,([],[4]),([4],[4])] mx (.ixA ji jk o o hn5 (.rlA hv6 jk o (.al zf1 o (.st jk o o o (.nil (.freeze (t:=4) o o (.k 5002 o .nil) o (.rg [oo,oo,oo,oo,oo,oo,([5002],[17,5002]),([17],[2,17])] mx (.mvA o (.faA zd5 zeo o (.ldA ty3 o (.faA zd6 zep o (.ldA ty3 o (.cA (.buildSlice (xs:=[_,_]) .none yI ty3 hz3 (.cons (.s o) (.cons (.s o) .nil)) o (by decide)) (.cW (.append (k:=5002) zc9 o (.told (.s o) o) (.s o) hn7) (.cW (.passRow o (.tmp o)) (.nil (.blkNormal (zb.j _ (za h))))))))))))))))))))
   ·
    subst hj4;have h:=hK4;clear hK4
    exact .nameRow (t:=2) (g:=5003) o o o (fun s5003=>(.rn mx (.adi o (.mv o (.nil (.anon (t:=2) (g:=5003) o o trivial o (zb.ag (za h))))))))
  ·
   refine .exit (.thenExit (.thenExit (.blkExit (.anon (t:=2) (g:=5002) o o trivial o ?_))))
   replace h:=hD2 _ (za h)
   exact zb.j _ (za h)
 ·
  subst hj1;have h:=hK1;clear hK1
  refine .freezeRowA (t:=2) o o zd.nil o (.sn mx (.mv o (.asn o (.nil (.ret ?_)))))
  obtain rfl:=za h
  exact zb.rt Tryz.results24 o
instance:Enc zU:=Enc.via (fun x:zU=>(x.Field,x.Value))
theorem ztU:Sort.SWO (Proofs.ltOf Qp):=by
 have h:∀x y,Proofs.ltOf Qp x y=decide (zQ x.1.Field.b y.1.Field.b<0):=fun x y=>rfl
 constructor
 ·
  intro x;rw[h,Jv];rfl
 ·
  intro x y z h1 h2
  rw[h]at *
  simp only[decide_eq_true_eq]at *
  exact(Q7 (by omega) (by omega)).2 (.inl h1)
 ·
  intro x y z h1 h2
  rw[h]at *
  simp only[decide_eq_false_iff_not,Int.not_lt]at *
  have e1:=jI x.1.Field.b y.1.Field.b
  have e2:=jI y.1.Field.b z.1.Field.b
  have e3:=jI x.1.Field.b z.1.Field.b
  have:=(Q7 (a:=z.1.Field.b) (b:=y.1.Field.b) (c:=x.1.Field.b) (by omega) (by omega)).1
  omega
theorem ztX (x y:{ x:zU // zad x })(w0:World):Calls Tryz.prog 76 #[.agg (Enc.enc x.1).toArray,.agg (Enc.enc y.1).toArray] w0 fun e w'=>e = .returned (.int .i64 (Qp x y))∧∃q os',w'=Go.Sort.grow (w0.drewN q) os':=by
 obtain⟨⟨a1,a2⟩,hx⟩:=x
 obtain⟨⟨b1,b2⟩,hy⟩:=y
 show Calls Tryz.prog 76 #[.agg #[.string ⟨a1.b.toArray⟩,.string ⟨a2.b.toArray⟩],.agg #[.string ⟨b1.b.toArray⟩,.string ⟨b2.b.toArray⟩]] w0 fun e w'=>e = .returned (.int .i64 (zQ a1.b b1.b))∧∃q os',w'=Go.Sort.grow (w0.drewN q) os'
 clear hx hy
 rw[←zau]
 go_enter Tryz.func76,Tryz.ntmps76
 go_wp2_with (go_at_call 77;refine(Proofs.Any.strings_Compare zbM _ _ _).mono ?_;rintro e w' ⟨rfl,rfl⟩)
 go_ret
 exact⟨by simp,0,_,by rw[Go.Sort.alloc_eq_grow,Go.Sort.alloc_eq_grow,Go.Sort.grow_grow];rfl⟩
theorem ztE {l r:List zU}{s:Value}(h:zfM l=some r):ya Tryz.prog 75 [isV s,QH 76 []] [(s,zq 96 l)] (z7) [some (zq 96 r)]:=by
 obtain⟨hl,h⟩:=zo h
 obtain rfl:=za h
 exact zhX ztS o o zpX zpY Tryz.underlying96 q7 ztU ztX hl.1 hl.2
theorem ztY (x y:Str×SlV)(w0:World):Calls Tryz.prog 79 #[.agg (Enc.enc x).toArray,.agg (Enc.enc y).toArray] w0 fun e w'=>e = .returned (.int .i64 (zQ x.1.b y.1.b))∧∃q os',w'=Go.Sort.grow (w0.drewN q) os':=by
 obtain⟨a1,a2,a3,a4⟩:=x
 obtain⟨b1,b2,b3,b4⟩:=y
 show Calls Tryz.prog 79 #[.agg #[.string ⟨a1.b.toArray⟩,.slice a2 a3 a4],.agg #[.string ⟨b1.b.toArray⟩,.slice b2 b3 b4]] w0 fun e w'=>e = .returned (.int .i64 (zQ a1.b b1.b))∧∃q os',w'=Go.Sort.grow (w0.drewN q) os'
 rw[←zau]
 go_enter Tryz.func79,Tryz.ntmps79
 go_wp2_with (go_at_call 77;refine(Proofs.Any.strings_Compare zbM _ _ _).mono ?_;rintro e w' ⟨rfl,rfl⟩)
 go_ret
 exact⟨by simp,0,_,by rw[Go.Sort.alloc_eq_grow,Go.Sort.alloc_eq_grow,Go.Sort.grow_grow];rfl⟩
theorem ztH {l r:List zv}{s:Value}(h:zhV l=some r):ya Tryz.prog 78 [isV s,QH 79 []] [(s,zq 78 l)] (z7) [some (zq 78 r)]:=by
 obtain⟨hl,h⟩:=zo h
 obtain rfl:=za h
 exact ztW ztQ (fun x:zv=>(x.Id,x.Attrs)) o o zp0 zp1 Tryz.underlying78 zuG ztY hl.1 hl.2
theorem zo7 {t1:(GMap Str (GMap Str Str))}{r:(List zv)}  (h:zb4 t1=some r):zk Tryz.prog 25 [rep t1] (rep r):=by
 unfold zb4 at h
 refine zk.i Tryz.func25 o Tryz.ntmps25 o (fun F=>(.sn mx (.c (.assign .none (.const (x:=([]:(List zv))) (fun M w=>⟨_,⟨none,0,rfl,Nat.le_refl _,by decide,rfl⟩,rfl⟩))) (.nil (.sr [([],[3])] mx (.cW (.nilRow (T:=78) (α:=zv) o) (.nil (.nameRow (t:=3) (g:=5001) o o o (fun s5001=>(.seq (.sr [oo,([],[10])] mx (.mvA o (.cW (.rangeMap Tryz.underlying49 o (.s o)) (.nil (.nameAt (t:=10) (g:=5002) o o zcp o (fun m5002=>?_))))))))))))))))
 obtain⟨P1,h,hK1⟩:=zk5 h
 refine .thenJ (ι:=(List zv)) (fun j_1=>[]) (fun j_1=>[(3,some (zq 78 j_1))]) (fun s=>P1 s) (.k 10 o .nil) zd.nil ?_ (fun j_1 hj1=>?_)
 ·
  refine .block (.anon (t:=3) (g:=5001) o o trivial o (.listsF (q:=5002) o (fun hf2=>(.mrangeKL h hf2 (fun p2_=>[]) (fun p2_=>[(5002,some (ze.at (ptr m5002 0) (vv t1 p2_.1))),(3,some (zq 78 p2_.2))]) Sub.nil (.k2 5002 3 o o .nil) (.k 10 o .nil) zd.nil (fun p2_ H2=>(.nameRow (t:=3) (g:=5003) o o o (fun s5003=>(.sr [([5002],[11,5002]),([11],[12,11])] mx (.cW (.nextF (k:=5002) o o (.s o)) (.cW (.nextedOk (d:=11) o o) (.nil (.openNext (t:=12) (k:=5002) o o o (fun o2_ ho2=>?_)))))))))))))
  obtain⟨out2_,h,hD2⟩:=H2 o2_ ho2
  refine .againM (fun s' hs'=>⟨o2_,ho2,h.trans (congrArg some hs')⟩) (.seq ?_)
  cases o2_ with
  | some x2_=>
   replace h:=zeH h
   refine .condT (t:=12) o trivial o (.skip (.then ?_))
   obtain⟨j_3,h,hK3⟩:=bind_some h
   unfold zdU at h
   refine .tailJ (ι:=(List zv)) (fun j_3=>[]) (fun j_3=>[(3,some (zq 78 j_3))]) (fun s=>j_3=s) (.k 10 o .nil) (.k 5002 o .nil) ?_ (fun j_3' hj3=>?_)
   ·
    refine .block (.sr [([5002],[]),oo,oo,oo,oo] mx (.cA (.entryF (k:=5002) (p:=p2_.1) (y:=x2_) o (.s o)) (.exA o o (.exA o o (.asnA o (.asnA o (.nil (.sr [oo,oo,([],[6]),([6],[6])] mx (.mvA o (.cA (.buildF (y:=(⟨x2_.1,⟨.slice none 0 0⟩⟩:qN)) .none ziD znA o (.cons (.s o) .nil) (.cons o zm0 .nil)) (.al QY o (.cN (.storeH znh o (by rfl) o (.s o)) (.nil (.nameAt (t:=6) (g:=5004) o o QL o (fun m5004=>(.nilKey (g:=5005) (T:=96) (α:=zU) o (.seq (.sr [oo,([],[19])] mx (.mvA o (.cW (.rangeMap Tryz.underlying53 o (.s o)) (.nil (.nameAt (t:=19) (g:=5006) o o zcp o (fun m5006=>?_)))))))))))))))))))))))
    obtain⟨P4,h,hK4⟩:=zk5 h
    refine .thenJ (ι:=zv) (fun j_4=>[]) (fun j_4=>[(5004,some (ze.at (ptr m5004 0) (yg (fun z0=>zM 78 (⟨j_4.Id,⟨z0⟩⟩:qN)) (zq 96 j_4.Attrs))))]) (fun s=>P4 s) (.k4 3 6 10 19 o o o o .nil) (.k2 5002 5003 o o .nil) ?_ (fun j_4 hj4=>?_)
    ·
     refine .block (.close (k:=5004) (g:=5005) (fun z=>zM 78 (⟨x2_.1,⟨z⟩⟩:qN)) o o o (.listsF (q:=5006) o (fun hf5=>(.mrangeKL h hf5 (fun p5_=>[]) (fun p5_=>[(5006,some (ze.at (ptr m5006 0) (vv x2_.2 p5_.1))),(5004,some (ze.at (ptr m5004 0) (yg (fun z0=>zM 78 (⟨p5_.2.Id,⟨z0⟩⟩:qN)) (zq 96 p5_.2.Attrs))))]) Sub.nil (.k2 5006 5004 o o .nil) (.k4 3 6 10 19 o o o o .nil) (.k2 5002 5003 o o .nil) (fun p5_ H5=>(.open (k:=5004) (g:=5007) o o (fun s5007=>(.sr [([5006],[20,5006]),([20],[21,20])] mx (.cW (.nextF (k:=5006) o o (.s o)) (.cW (.nextedOk (d:=20) o o) (.nil (.openNext (t:=21) (k:=5006) o o o (fun o5_ ho5=>?_)))))))))))))
     obtain⟨out5_,h,hD5⟩:=H5 o5_ ho5
     refine .againM (fun s' hs'=>⟨o5_,ho5,h.trans (congrArg some hs')⟩) (.seq ?_)
     cases o5_ with
     | some x5_=>
      replace h:=zeH h
      refine .condT (t:=21) o trivial o (.skip (.then ?_))
      obtain⟨j_6,h,hK6⟩:=bind_some h
      unfold zgB at h
      refine .tailJ (ι:=zv) (fun j_6=>[]) (fun j_6=>[(5004,some (ze.at (ptr m5004 0) (yg (fun z0=>zM 78 (⟨j_6.Id,⟨z0⟩⟩:qN)) (zq 96 j_6.Attrs))))]) (fun s=>j_6=s) (.k4 3 6 10 19 o o o o .nil) (.k2 5002 5003 o o (.k 5006 o .nil)) ?_ (fun j_6' hj6=>?_)
      ·
       obtain⟨hn7,h⟩:=zo h
       exact .block (.sr [([5006],[]),oo,oo,oo,oo] mx (.cA (.entryF (k:=5006) (p:=p5_.1) (y:=x5_) o (.s o)) (.exA o o (.exA o o (.asnA o (.asnA o (.nil (.rg [oo,([5004],[]),oo,oo,oo,oo,([5007],[31,5007]),oo,([5004,31],[5004,31])] mx (.cA (.fieldPtr .none jK (.s o)) (.cA (.loadAt (k:=5004) .none zh2 o (.s o) zgZ) (.mvA o (.mvA o (.cA (.buildF (y:=(⟨x5_.1,x5_.2⟩:zU)) .none ziE znw o (.cons (.s o) (.cons (.s o) .nil)) (.cons o zmE (.cons o zmF .nil))) (.cA (.buildSlice (xs:=[_]) .none qZ q7 zki (.cons (.s o) .nil) o (by decide)) (.cW (.appendW (k:=5007) zma o (.told (.s o) o) (.s o) hn7) (.cA (.fieldPtr .none jK (.s o)) (.cN (.storeRow (k:=5004) (t:=31) vC o (.s o) zm1 o o) (.nil (.blkNormal (zb.j _ (za h)))))))))))))))))))))
      ·
       subst hj6;have h:=hK6;clear hK6
       exact zb.ag (za h)
     | none=>
      replace h:=zeG h
      refine .condF (t:=21) o trivial o (.exit (.thenExit (.thenExit (.blkExit (.close (k:=5004) (g:=5007) (fun z=>zM 78 (⟨p5_.2.Id,⟨z⟩⟩:qN)) o o o ?_)))))
      replace h:=hD5 _ (za h)
      exact zb.join _ h (.k4 3 6 10 19 o o o o .nil) (.k2 5004 5002 o o (.k 5003 o .nil))
    ·
     have h:=hK4 _ hj4;clear hK4
     obtain⟨r1,hv8,h⟩:=bind_some h
     refine .open (k:=5004) (g:=5008) o o (fun s5008=>(.sr [oo,([5004],[]),([5008],[5008])] mx (.cA (.fieldPtr .none jK (.s o)) (.cA (.loadAt (k:=5004) .none zh2 o (.s o) zgZ) (.cW (.cO [5008] (ztE hv8) (.cons (.s o) (.cons .funcC .nil)) (.cons (k:=5008) o .nil) o) (.nil (.close (k:=5004) (g:=5008) (fun z=>zM 78 (⟨j_4.Id,⟨z⟩⟩:qN)) o o o (.freezeAt (g:=5004) (S:=ref ({ j_4 with Attrs:=r1 }:zv)) (ts:=[6]) o (.cons (t:=6) o trivial .nil) (.k2 5002 5003 o o .nil) o (fun M D w h hms=>zbN (mk:=(fun s1_=>(⟨j_4.Id,⟨s1_⟩⟩:qN))) (y:=({ j_4 with Attrs:=r1 }:zv)) zef o (fun M s1_ cs w hc g1=>by obtain⟨c0,q0,e0,h0,h1⟩:=hc;exact⟨c0,q0,e0,h0,Y7 o o h1 g1⟩) M D w h hms) ?_))))))))
     obtain⟨hn9,h⟩:=zo h
     exact .rg [oo,oo,oo,([5003],[39,5003]),([39],[3,39])] mx (.mvA o (.ldA y9 o (.cA (.buildSlice (xs:=[_]) .none qD y9 zg1 (.cons (.s o) .nil) o (by decide)) (.cW (.appendW (k:=5003) zl9 o (.told (.s o) o) (.s o) hn9) (.cW (.passRow o (.tmp o)) (.nil (.blkNormal (zb.j _ (za h)))))))))
   ·
    subst hj3;have h:=hK3;clear hK3
    exact zb.ag (za h)
  | none=>
   replace h:=zeG h
   refine .condF (t:=12) o trivial o (.exit (.thenExit (.thenExit (.blkExit (.anon (t:=3) (g:=5003) o o trivial o ?_)))))
   replace h:=hD2 _ (za h)
   exact zb.join _ h (.k 10 o .nil) (.k 3 o .nil)
 ·
  have h:=hK1 _ hj1;clear hK1
  obtain⟨r2,hv10,h⟩:=bind_some h
  refine .nameRow (t:=3) (g:=5009) o o o (fun s5009=>(.sr [oo,([5009],[5009])] mx (.mvA o (.cW (.cO [5009] (ztH hv10) (.cons (.s o) (.cons .funcC .nil)) (.cons (k:=5009) o .nil) o) (.nil (.freezeRow (g:=5009) (ts:=[3]) o (.cons (t:=3) o trivial .nil) zd.nil o (.sn mx (.mv o (.asn o (.nil (.ret ?_)))))))))))
  obtain rfl:=za h
  exact zb.rt Tryz.results25 o
end Go.Proofs.YtenpeohfmbilaaaGreatDoor
