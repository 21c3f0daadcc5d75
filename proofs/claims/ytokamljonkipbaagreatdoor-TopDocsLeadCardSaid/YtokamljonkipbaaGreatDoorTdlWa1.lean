/- A part of the proof. -/
import Derived.Test.YtokamljonkipbaaGreatDoorTdlFa
set_option maxRecDepth 100000
set_option linter.unusedSimpArgs false
set_option linter.unusedVariables false
namespace Go.Proofs.YtokamljonkipbaaGreatDoor
open Go Go.DB Go.RowKit
theorem zvi {m:Nat}{c r:Str}(h:zff c=some r):zS Tryz.prog 25 [isV (ptr m 0)] [(ptr m 0,qq 62 5 c)] (rep r) [none]:=by
 obtain⟨hn,h⟩:=zn h
 obtain rfl:=za h
 exact zoY zoX zoW o o o zqR hn
theorem zvh {m:Nat}{c:Str}{r:Int×Str}(h:zfe c=some r):zS Tryz.prog 24 [isV (ptr m 0)] [(ptr m 0,qq 62 5 c)] (rep r.1) [some (qq 62 5 r.2)]:=by
 obtain⟨hn,h⟩:=zn h
 obtain rfl:=za h
 exact zoV zoT o o o zqQ hn
theorem zhY {m:Nat}{c s r:Str}(h:zbq c s=some r):zS Tryz.prog 20 [isV (ptr m 0),rep s] [(ptr m 0,qq 62 5 c)] zV [some (qq 62 5 r)]:=by
 obtain⟨hn,h⟩:=zn h
 obtain rfl:=za h
 exact zoZ zwa zqO hn
theorem zqc {s r:Str}(h:zbS s=some r):zr Tryz.prog 134 [rep s] (rep r):=by
 obtain⟨hn,h⟩:=zn h
 obtain rfl:=za h
 exact ztm zqK (fun w=>ztl s.b w hn (fun c w=>Proofs.Any.strings_Count_one zpz ⟨s.b.toArray⟩ c w))
theorem zvl {l:List Str}{sep:Str}{r:Str}(h:strings_Join l sep=some r):zr Tryz.prog 81 [rep l,rep sep] (rep r):=by
 obtain⟨hn,h⟩:=zn h
 obtain rfl:=za h
 exact zrZ zr1 zr0 o zq1 hn
theorem zcY {n:Int}{r:Str}(h:strconv_Itoa n=some r):zr Tryz.prog 32 [rep n] (rep r):=by
 obtain⟨hn,h⟩:=zn h
 obtain rfl:=za h
 exact zrP zrQ o o zj9 hn
theorem zhZ {s cs:Str}{r:Str}(h:QR s cs=some r):zr Tryz.prog 91 [rep s,rep cs] (rep r):=by
 obtain⟨hn,h⟩:=zn h
 obtain rfl:=za h
 exact zvW zvX (by kernel_rfl) o zdY hn
theorem zv4 {s:Str}{r:Bool}(h:utf8_ValidString s=some r):zr Tryz.prog 92 [rep s] (rep r):=by
 obtain rfl:=za h
 exact zv6 znB o o o zq7
theorem strconv_Atoi_ok {s:Str}{r:Int×Yz}(h:zfd s=some r):zr Tryz.prog 210 [rep s] (tup [rep r.1,rep r.2]):=by
 obtain⟨hn,h⟩:=zn h
 obtain rfl:=za h
 exact zoI zoJ o o o zqP hn
theorem zng {s sep:Str}{r:List Str}(h:strings_Split s sep=some r):zS Tryz.prog 14 [rep s,rep sep] [] (zV) [some (zp 9 r)]:=by
 obtain⟨hn,h⟩:=zn h
 obtain rfl:=za h
 exact zu8 zu9 (by kernel_rfl) o o o zqM hn.1 hn.2
theorem zvk {s:Str}{c:KI .u8}{r:Int}(h:strings_IndexByte s c=some r):zr Tryz.prog 136 [rep s,rep c] (rep r):=by
 obtain⟨hn,h⟩:=zn h
 obtain rfl:=za h
 exact zrH zrI o zqL hn
theorem znf {s sep:Str}{r:Str×Str×Bool}(h:strings_Cut s sep=some r):zr Tryz.prog 26 [rep s,rep sep] (tup [rep r.1,rep r.2.1,rep r.2.2]):=by
 obtain⟨hn,h⟩:=zn h
 obtain rfl:=za h
 exact zpE zpF o o zqS hn
theorem zuT {l:List Str}{r:List Str}{s:Value}(h:slices_Sort_string l=some r):zS Tryz.prog 40 [isV s] [(s,zp 9 l)] (zV) [some (zp 9 r)]:=by
 obtain⟨hl,h⟩:=zn h
 obtain rfl:=za h
 exact zu3 zuZ o zqT hl
theorem zuP {n:Int}{r:List zu}(h:ze9 n=some r):zS Tryz.prog 87 [isV (.slice none 0 0),rep n] [] (zV) [some (zp 103 r)]:=by
 obtain⟨hn,h⟩:=zn h
 obtain rfl:=za h
 exact zrp zrn zhq o o zq6 hn
theorem zeF {s1:Str}{r:Bool}  (h:QM s1=some r):zr Tryz.prog 126 [rep s1] (rep r):=by
 unfold QM at h
 obtain⟨hn1,h⟩:=zn h
 obtain⟨hn2,h⟩:=zn h
 obtain⟨r1,hv3,h⟩:=bind_some h
 refine zr.i Tryz.func126 o Tryz.ntmps126 o (fun F=>(.sn mx (.asb (.nil (.sn mx (.mv o (.c (.neS .none (z6 Tryz.underlying9) (.s o) (.str (l:=[]) (by decide))) (.mv o (.mg o o o (.c (.lenStr (.at o o) Tryz.underlying9 (.tmp o id)) (.c (.le (.at o o) (.tmp o id) .i) (.pa o o (.mv o (.mg o o o (.c (.indexStr (.at o o) Tryz.underlying9 (.tmp o id) .i (fun hg=>hn1 hg.2)) (.c (.kgeq (.at o o) (.tmp o id) .ki) (.c (.move (.at o o) (.tmp o id)) (.mg o o o (.c (.indexStr (.at o o) Tryz.underlying9 (.tmp o id) .i (fun hg=>hn2 hg.1.2 hg.2)) (.c (.kleq (.at o o) (.tmp o id) .ki) (.c (.pickAnd (.at o o) (.tmp o id) (.tmp o id)) (.pa o o (.mv o (.mg o o o (.c (.callIf (.at o o) zdY (fun hg=>zhZ ((fun hg=>vj hv3 (hg.2)) hg)) (.cons (.tmp o id) (.cons (.str (l:=[97,98,99,100,101,102,103,104,105,106,107,108,109,110,111,112,113,114,115,116,117,118,119,120,121,122,48,49,50,51,52,53,54,55,56,57,45]) (by decide)) .nil)) (fun h=>h)) (.c (.eqS (.at o o) (z6 Tryz.underlying9) (.tmp o id) (.str (l:=[]) (by decide))) (.pa o o (.asn o (.nil (.ret ?_))))))))))))))))))))))))))))))
 obtain rfl:=za h
 exact zb.rt Tryz.results126 o
theorem zd2 {n1:Int}{r:Bool}  (h:YS n1=some r):zr Tryz.prog 199 [rep n1] (rep r):=by
 unfold YS at h
 refine zr.i Tryz.func199 o Tryz.ntmps199 o (fun F=>(.sn mx (.asb (.nil (.sn mx (.mv o (.c (.lt .none (.s o) .i) (.mv o (.mg o o o (.c (.gt (.at o o) (.tmp o id) .i) (.po o o (.asn o (.nil (.ret ?_))))))))))))))
 obtain rfl:=za h
 exact zb.rt Tryz.results199 o
theorem zd0 {b1:Box}{r:Int}  (h:YR b1=some r):zr Tryz.prog 127 [rep b1] (rep r):=by
 unfold YR at h
 obtain⟨r1,hv1,h⟩:=bind_some h
 obtain⟨r2,hv2,h⟩:=bind_some h
 refine zr.i Tryz.func127 o Tryz.ntmps127 o (fun F=>(.sn mx (.c (.box .none (.s o)) (.asi (.nil (.seq (.sn mx (.fa YP YW o (.ld ty3 o (.c (.call .none (zd2 hv1) (.cons (.s o) .nil)) (.mv o (.fg YQ YX o o o (.lg ty3 o o o (.c (.callIf (.at o o) zj8 (fun hg=>zd2 ((fun hg=>vj hv2 ((zeA hg.2))) hg)) (.cons (.tmp o id) .nil) (fun h=>h)) (.po o o (.mv o (.fg Ya Yf o o o (.lg ty3 o o o (.c (.lt (.at o o) (.tmp o id) .i) (.po o o (.mv o (.fg Ya Yf o o o (.lg ty3 o o o (.c (.gt (.at o o) (.tmp o id) .i) (.po o o (.mv o (.fg Yb Yg o o o (.lg ty3 o o o (.c (.lt (.at o o) (.tmp o id) .i) (.po o o (.mv o (.fg Yb Yg o o o (.lg ty3 o o o (.c (.gt (.at o o) (.tmp o id) .i) (.po o o (.nil (.cb o h (fun _ h=>?_) fun _ h=>?_)))))))))))))))))))))))))))))))))))))
 ·
  refine .sn mx (.asi (.nil (.ret (.thenRet ?_))))
  obtain rfl:=za h
  exact zb.rt Tryz.results127 o
 ·
  refine .skip (.then (.sn mx (.asi (.nil (.ret ?_)))))
  obtain rfl:=za h
  exact zb.rt Tryz.results127 o
theorem ze2 {s1:Str}{r:Int}  (h:Yr s1=some r):zr Tryz.prog 46 [rep s1] (rep r):=by
 unfold Yr at h
 refine zr.i Tryz.func46 o Tryz.ntmps46 o (fun F=>(.sn mx (.asi (.nil (.seq (.sn mx (.mv o (.c (.lenStr .none Tryz.underlying9 (.s o)) (.c (.gt .none (.s o) .i) (.nil (.cb o h (fun _ h=>?_) fun _ h=>?_)))))))))))
 ·
  refine .sn mx (.asi (.nil (.ret (.thenRet ?_))))
  obtain rfl:=za h
  exact zb.rt Tryz.results46 o
 ·
  obtain⟨r1,hv2,h⟩:=bind_some h
  refine .skip (.then (.seq (.sn mx (.mv o (.c (.call .none (zv4 hv2) (.cons (.s o) .nil)) (.c (.not .none (.s o)) (.nil (.cb o h (fun _ h=>?_) fun _ h=>?_))))))))
  ·
   refine .sn mx (.asi (.nil (.ret (.thenRet ?_))))
   obtain rfl:=za h
   exact zb.rt Tryz.results46 o
  ·
   refine .skip (.then (.seq (.sn mx (.mv o (.c (.lenStr .none Tryz.underlying9 (.s o)) (.mvi (.nil ?_)))))))
   obtain⟨o_4,h,hK4⟩:=yN h
   refine .tJ (fun s=>o_4=Res.nx s) Sub.nil zi.nil ?_ (fun j_4 hj4=>?_)
   ·
    refine .block (.rforEL h (fun p5_=>[(12,⟨True,rep p5_.1⟩)]) (fun p5_=>[]) (.k 12 o .nil) zi.nil (.k2 0 11 o o .nil) zi.nil (fun p5_ o_5 h hD5=>(.sn mx (.lt o o (.nil (.seq (.cb o h (fun _ h=>?_) fun _ h=>?_)))))))
    ·
     refine .skip (.then (.seq ?_))
     obtain⟨o_7,h,hK7⟩:=qg h
     unfold zhG at h
     refine .tJ (fun s=>o_7=Res.nx s) (.k2 0 11 o o (.k 12 o .nil)) zi.nil ?_ (fun j_7 hj7=>?_)
     ·
      obtain⟨hn8,h⟩:=zn h
      obtain⟨hn9,h⟩:=zn h
      obtain⟨hn10,h⟩:=zn h
      refine .block (.sn mx (.mv o (.asn o (.nil (.sn mx (.mv o (.mv o (.c (.indexStr .none Tryz.underlying9 (.s o) (.s o) (fun _=>hn8)) (.c (.klss .none (.s o) .ki) (.mv o (.mg o o o (.mg o o o (.c (.indexStr (.at o o) Tryz.underlying9 (.tmp o id) (.tmp o id) (fun hg=>hn9 hg.2)) (.c (.kneq (.at o o) (.tmp o id) .ki) (.pa o o (.mv o (.mg o o o (.mg o o o (.c (.indexStr (.at o o) Tryz.underlying9 (.tmp o id) (.tmp o id) (fun hg=>hn10 hg.2)) (.c (.keql (.at o o) (.tmp o id) .ki) (.po o o (.nil (.cb o h (fun _ h=>?_) fun _ h=>?_)))))))))))))))))))))))
      ·
       refine .sn mx (.asi (.nil (.ret (.blkRet (.thenRet (.thenRet (.blkRet (.thenRet ?_))))))))
       replace h:=yM hK7 (za h)
       replace h:=hD5 _ (za h)
       replace h:=yk hK4 (za h)
       obtain rfl:=za h
       exact zb.rt Tryz.results46 o
      ·
       exact .skip (.blkNormal (zb.j _ (za h)))
     ·
      have h:=qh hK7 hj7
      exact .rn mx (.adi o (.mv o (.nil (zb.ag (za h)))))
    ·
     refine .exit (.thenExit (.thenExit (.blkExit ?_)))
     replace h:=hD5 _ (za h)
     exact zb.j _ (za h)
   ·
    have h:=yO hK4 hj4
    refine .sn mx (.asi (.nil (.ret ?_)))
    obtain rfl:=za h
    exact zb.rt Tryz.results46 o
theorem zsZ {n1:zl}{twice1:Bool}{r:Int}  (h:zcv n1 twice1=some r):zr Tryz.prog 63 [rep n1,rep twice1] (rep r):=by
 unfold zcv at h
 obtain⟨r1,hv1,h⟩:=bind_some h
 refine zr.i Tryz.func63 o Tryz.ntmps63 o (fun F=>(.sn mx (.c (.box .none (.s o)) (.asi (.nil (.seq (.block (.sn mx (.fa Qh QF o (.ld ty9 o (.c (.call .none (zeF hv1) (.cons (.s o) .nil)) (.c (.not .none (.s o)) (.asn o (.nil (.cb o h (fun _ h=>?_) fun _ h=>?_)))))))))))))))
 ·
  refine .sn mx (.asi (.nil (.ret (.blkRet (.thenRet ?_)))))
  obtain rfl:=za h
  exact zb.rt Tryz.results63 o
 ·
  refine .sn mx (.mv o (.asn o (.nil (.cb o h (fun _ h=>?_) fun _ h=>?_))))
  ·
   refine .sn mx (.asi (.nil (.ret (.blkRet (.thenRet ?_)))))
   obtain rfl:=za h
   exact zb.rt Tryz.results63 o
  ·
   refine .sn mx (.fa jo jC o (.ld ty3 o (.c (.lt .none (.s o) .i) (.mv o (.fg jo jC o o o (.lg ty3 o o o (.c (.gt (.at o o) (.tmp o id) .i) (.po o o (.asn o (.nil (.cb o h (fun _ h=>?_) fun _ h=>?_)))))))))))
   ·
    refine .sn mx (.asi (.nil (.ret (.blkRet (.thenRet ?_)))))
    obtain rfl:=za h
    exact zb.rt Tryz.results63 o
   ·
    refine .sn mx (.fa jo jC o (.ld ty3 o (.eqi o (.mv o (.fg vK Qi o o o (.lg yi o o o (.c (.buildF (y:=(⟨(0:Int),(0:Int),(0:Int),(0:Int)⟩:Box)) (.at o o) vd vu o .nil .nil) (.c (.neS (.at o o) zqj (.tmp o id) (.tmp o id)) (.pa o o (.asn o (.nil (.cb o h (fun _ h=>?_) fun _ h=>?_))))))))))))
    ·
     refine .sn mx (.asi (.nil (.ret (.blkRet (.thenRet ?_)))))
     obtain rfl:=za h
     exact zb.rt Tryz.results63 o
    ·
     refine .skip (.blkNormal (.then (.seq (.sn mx (.fa jo jC o (.ld ty3 o (.nei o (.nil ?_))))))))
     obtain⟨o_6,h,hK6⟩:=yN h
     refine .tJ (fun s=>o_6=Res.nx s) (.k 2 o .nil) zi.nil ?_ (fun j_6 hj6=>?_)
     ·
      refine .cb o h (fun _ h=>?_) fun _ h=>?_
      ·
       obtain⟨e1,hv8,h⟩:=bind_some h
       refine .sn mx (.fa vK Qi o (.ld yi o (.c (.call .none (zd0 hv8) (.cons (.s o) .nil)) (.asn o (.nil (.sn mx (.mv o (.nei o (.nil (.cb o h (fun _ h=>?_) fun _ h=>?_))))))))))
       ·
        refine .sn mx (.mv o (.asn o (.nil (.ret (.thenRet ?_)))))
        replace h:=yk hK6 (za h)
        obtain rfl:=za h
        exact zb.rt Tryz.results63 o
       ·
        exact .skip (zb.j _ (za h))
      ·
       exact .skip (zb.j _ (za h))
     ·
      have h:=yO hK6 hj6
      obtain⟨e2,hv10,h⟩:=bind_some h
      refine .seq (.sn mx (.fa zdR zgs o (.ld ty9 o (.c (.call .none (ze2 hv10) (.cons (.s o) .nil)) (.asn o (.nil (.sn mx (.mv o (.nei o (.nil (.cb o h (fun _ h=>?_) fun _ h=>?_)))))))))))
      ·
       refine .sn mx (.mv o (.asn o (.nil (.ret (.thenRet ?_)))))
       obtain rfl:=za h
       exact zb.rt Tryz.results63 o
      ·
       obtain⟨r2,hv12,h⟩:=bind_some h
       refine .skip (.then (.seq (.sn mx (.fa zb2 zd3 o (.ld ty9 o (.c (.neS .none (z6 Tryz.underlying9) (.s o) (.str (l:=[]) (by decide))) (.mv o (.fg zb2 zd3 o o o (.lg ty9 o o o (.c (.callIf (.at o o) zj7 (fun hg=>zeF ((fun hg=>vj hv12 (hg.2)) hg)) (.cons (.tmp o id) .nil) (fun h=>h)) (.c (.not (.at o o) (.tmp o id)) (.pa o o (.nil (.cb o h (fun _ h=>?_) fun _ h=>?_))))))))))))))
       ·
        refine .sn mx (.asi (.nil (.ret (.thenRet ?_))))
        obtain rfl:=za h
        exact zb.rt Tryz.results63 o
       ·
        refine .skip (.then (.sn mx (.asi (.nil (.ret ?_)))))
        obtain rfl:=za h
        exact zb.rt Tryz.results63 o
theorem zs0 {d1:Doc}{r:(Option yr)}  (h:zcw d1=some r):zr Tryz.prog 64 [rep d1] (rep r):=by
 unfold zcw at h
 obtain⟨c1,hv1,h⟩:=zv h
 obtain⟨c2,hv2,h⟩:=zv h
 refine zr.i Tryz.func64 o Tryz.ntmps64 o (fun F=>(.sn mx (.c (.box .none (.s o)) (.c (.assign .none (.const (x:=(none:(Option yr))) (fun M w=>⟨_,ztf,rfl⟩))) (.nil (.sr [oo,([],[7]),([],[8]),([7,8],[9,7,8]),([9],[10,9]),([10],[3,10])] mx (.ldA yX o (.cW (.makeMap (K:=Str) (V:=Int) o) (.cW (.makeMapW (K:=Str) (α:=Int) (E:=3) o) (.cW (.buildG2 (t1:=7) (t2:=8) zsT zsU (mk:=(fun z1 z2=>(⟨d1,⟨z1⟩,⟨z2⟩⟩:vv))) zpc zwl o o o o o o o o o (fun _ _=>(.cons (.s o) (.cons (.s o) (.cons (.s o) .nil)))) (fun _ _=>(.cons o zvv (.cons o zvw (.cons o zvx .nil))))) (.cW (.boxG2 (t:=9) o o) (.cW (.passRow o (.tmp o)) (.nil (.nameAt (t:=3) (g:=5001) o o (zd8 fun _=>(zd8 fun _=>zcg)) o (fun m5001=>(.open (k:=5001) (g:=5002) o o (fun s5002=>(.open (k:=5001) (g:=5003) o o (fun s5003=>(.seq (.sn mx (.fa qt jp o (.ld qU o (.ln y4 o (.mvi (.nil (.reB (t:=5002) o (congrArg (fun y=>zd.at s5002 (zW y)) hv1) (.reB (t:=5003) o (congrArg (fun y=>zd.at s5003 (vO 3 y)) hv2) ?_))))))))))))))))))))))))))))
 obtain⟨j_3,h,hK3⟩:=bind_some h
 refine .thenJ (ι:=((GMap Str Int)×(GMap Str (List Int)))) (fun j_3=>[]) (fun j_3=>[(5002,some (zd.at s5002 (zW j_3.1))),(5003,some (zd.at s5003 (vO 3 j_3.2)))]) (fun s=>j_3=s) (.k 3 o .nil) (.k 5001 o .nil) ?_ (fun j_3' hj3=>?_)
 ·
  refine .block (.rforL h (fun p4_=>[(14,⟨True,rep p4_.1⟩)]) (fun p4_=>[(5002,some (zd.at s5002 (zW p4_.2.1))),(5003,some (zd.at s5003 (vO 3 p4_.2.2)))]) (.k 14 o .nil) (.k2 5002 5003 o o .nil) (.k2 3 12 o o (.k 13 o .nil)) (.k 5001 o .nil) (fun p4_ o_4 h hD4=>(.sn mx (.lt o o (.nil (.seq (.cb o h (fun _ h=>?_) fun _ h=>?_)))))))
  ·
   refine .skip (.then (.seq ?_))
   obtain⟨j_6,h,hK6⟩:=bind_some h
   unfold zeG at h
   refine .thenJ (ι:=((GMap Str Int)×(GMap Str (List Int)))) (fun j_6=>[]) (fun j_6=>[(5002,some (zd.at s5002 (zW j_6.1))),(5003,some (zd.at s5003 (vO 3 j_6.2)))]) (fun s=>j_6=s) (.k4 3 12 13 14 o o o o .nil) (.k 5001 o .nil) ?_ (fun j_6' hj6=>?_)
   ·
    obtain⟨hn7,h⟩:=zn h
    obtain⟨v1,hv8,h⟩:=zv h
    obtain⟨c3,hv9,h⟩:=zv h
    refine .block (.sr [oo,oo,oo,([],[5]),oo,([5],[5])] mx (.mvA o (.ixA y4 yd o o hn7 (.rlA hv8 yd o (.al vC o (.asnA o (.st yd o o o (.nil (.freeze (t:=5) o o (.k2 5001 5002 o o (.k 5003 o .nil)) o (.sr [oo,oo,oo,([5001],[]),oo,oo,oo,([5002],[5002])] mx (.mvA o (.cA (.nilCheckP .none (.s o)) (.cA (.fieldPtr .none zdP (.s o)) (.cA (.loadAt (k:=5001) .none zvU o (.s o) zrx) (.faA Qh QF o (.ldA ty9 o (.mvA o (.cN (.mapUpdate (q:=5002) zer (.s o) o (.s o) (.s o)) (.nil (.reB (t:=5002) o (congrArg (fun y=>zd.at s5002 (zW y)) hv9) (.sn mx (.fa vL Qj o (.ld ty9 o (.c (.neS .none (z6 Tryz.underlying9) (.s o) (.str (l:=[]) (by decide))) (.nil (.cb o h (fun _ h=>?_) fun _ h=>?_))))))))))))))))))))))))))
    ·
     obtain⟨hn11,h⟩:=zn h
     exact .rg [oo,oo,oo,([5001],[]),oo,oo,oo,oo,oo,([5001],[]),oo,oo,([5003],[41,5003]),oo,oo,([41],[44,41]),([5003,44],[5003,44])] mx (.mvA o (.cA (.nilCheckP .none (.s o)) (.cA (.fieldPtr .none zdQ (.s o)) (.cA (.loadAt (k:=5001) .none znu o (.s o) zkr) (.faA vL Qj o (.ldA ty9 o (.mvA o (.cA (.nilCheckP .none (.s o)) (.cA (.fieldPtr .none zdQ (.s o)) (.cA (.loadAt (k:=5001) .none znu o (.s o) zkr) (.faA vL Qj o (.ldA ty9 o (.cW (.mapTake (q:=5003) zes zwh o o (.s o) o (.s o)) (.mvA o (.cA (.buildSlice (xs:=[_]) .none qS ty3 hz3 (.cons (.s o) .nil) o (by decide)) (.cW (.append (k:=41) zhr o (.tmp o) (.s o) hn11) (.cN (.mapPut (q:=5003) (t:=44) zes o (.s o) o (fun _ h=>h) o o (.s o)) (.nil (.blkNormal (zb.j _ (za h)))))))))))))))))))))
    ·
     exact .skip (.blkNormal (zb.j _ (za h)))
   ·
    subst hj6;have h:=hK6;clear hK6
    exact .rn mx (.adi o (.mv o (.nil (zb.ag (za h)))))
  ·
   refine .exit (.thenExit (.thenExit (.blkExit ?_)))
   replace h:=hD4 _ (za h)
   exact zb.j _ (za h)
 ·
  subst hj3;have h:=hK3;clear hK3
  refine .close (k:=5001) (g:=5003) (fun z=>zC 208 (⟨d1,⟨s5002⟩,⟨z⟩⟩:vv)) o o o (.close (k:=5001) (g:=5002) (fun z=>zQ (fun z0=>zC 208 (⟨d1,⟨z⟩,⟨z0⟩⟩:vv)) (vO 3 j_3.2)) o o o (.freezeAt (g:=5001) (S:=ref ((⟨d1,j_3.1,j_3.2⟩:yr):yr)) (ts:=[3]) o (.cons (t:=3) o trivial .nil) zi.nil o (fun M D w h hms=>zdm (mk:=(fun s1_ s2_=>(⟨d1,⟨s1_⟩,⟨s2_⟩⟩:vv))) (y:=((⟨d1,j_3.1,j_3.2⟩:yr):yr)) zq8 zra o (fun M s1_ s2_ cs w hc g1 g2=>by obtain⟨c0,q0,e0,h0,c1,q1,e1,h1,h2⟩:=hc;exact⟨c0,q0,e0,h0,c1,q1,e1,vS o o h1 g1,vS o o h2 g2⟩) M D w h hms) (.sn mx (.mv o (.asn o (.nil (.ret ?_)))))))
  obtain rfl:=za h
  exact zb.ret1 (.inl o) Tryz.results64 (zt.tmp o trivial Imp.refSome)
theorem zs6 {v1:yr}{id1:Str}{r:zl}  (h:zcE v1 id1=some r):zr Tryz.prog 200 [ref v1,rep id1] (rep r):=by
 unfold zcE at h
 obtain⟨v2,hv1,h⟩:=zv h
 obtain⟨hn2,h⟩:=zn h
 obtain⟨v3,hv3,h⟩:=zv h
 refine zr.i Tryz.func200 o Tryz.ntmps200 o (fun F=>(.sr [([],[4])] mx (.al vC o (.nil (.reB (t:=4) o (congrArg (zC 47) hv1) (.nameBox (t:=4) (g:=5001) o o (fun m5001=>(.sr [oo,oo,oo,oo,oo,oo,oo,oo,oo,oo,oo,oo,oo,([5001],[5001])] mx (.mvA o (.cA (.nilCheckR .none (.s o)) (.faA Q9 Ye o (.faA qt jp o (.ldA qU o (.mvA o (.cA (.nilCheckR .none (.s o)) (.faA zdP zgp o (.ldA zh7 o (.mvA o (.cA (.lookup .none zer zo3 (.s o) (.s o)) (.ixA y4 yd o o hn2 (.rlA hv3 yd o (.s0 5001 yd o o o (.nil (.fb 5001 [4] o (.cons (t:=4) o trivial .nil) (.ret ?_)))))))))))))))))))))))))
 obtain rfl:=za h
 exact zb.ret1 (.inl o) Tryz.results200 (zt.cellR yd o trivial Imp.refl)
theorem zlM {v1:yr}{n1:zl}{r:(Int×Bool)}  (h:Ym v1 n1=some r):zr Tryz.prog 128 [ref v1,rep n1] (tup [rep r.1,rep r.2]):=by
 unfold Ym at h
 refine zr.i Tryz.func128 o Tryz.ntmps128 o (fun F=>(.sr [([],[3]),oo,oo] mx (.cW (.boxO o (.s o)) (.cA (.assign .none .i) (.cA (.assign .none .bool) (.nil (.nameBox (t:=3) (g:=5001) o o (fun m5001=>(.sr [oo,([5001],[]),oo,oo] mx (.cA (.fieldPtr .none Qh (.s o)) (.cA (.loadAt (k:=5001) .none ty9 o (.s o) QF) (.asnA o (.cA (.assign .none .i) (.nil (.seq ?_)))))))))))))))
 obtain⟨o_1,h,hK1⟩:=yN h
 refine .thenJ (ι:=Int) (fun j_1=>[(7,⟨True,rep j_1⟩)]) (fun j_1=>[]) (fun s=>o_1=Res.nx s) Sub.nil zi.nil ?_ (fun j_1 hj1=>?_)
 ·
  refine .block (.loopL h (fun s2_=>[(7,⟨True,rep s2_.1⟩)]) (fun s2_=>[(5001,some (yG m5001 47 s2_.2))]) (.k 7 o .nil) (.k 5001 o .nil) (.k2 0 3 o o (.k 6 o .nil)) zi.nil (fun s2_ o_2 h hD2=>?_))
  unfold zcx at h
  refine .seq (.sr [oo,([5001],[]),oo] mx (.cA (.fieldPtr .none vL (.s o)) (.cA (.loadAt (k:=5001) .none ty9 o (.s o) Qj) (.cA (.neS .none (z6 Tryz.underlying9) (.s o) (.str (l:=[]) (by decide))) (.nil (.cb o h (fun _ h=>?_) fun _ h=>?_))))))
  ·
   obtain⟨many1,hv4,h⟩:=zv h
   refine .skip (.then (.block (.seq (.sn mx (.mv o (.adi o (.ra hv4 o (.nil (.sr [oo,([5001],[]),oo,oo,oo,oo,oo,oo,oo,oo,oo,oo,oo,oo] mx (.cA (.fieldPtr .none vL (.s o)) (.cA (.loadAt (k:=5001) .none ty9 o (.s o) Qj) (.mvA o (.cA (.eqS .none (z6 Tryz.underlying9) (.s o) (.s o)) (.mvA o (.cA (.move (.at o o) (.s o)) (.cA (.move (.at o o) (.s o)) (.cA (.nilCheckR (.at o o) (.tmp o id)) (.cA (.fieldAddr (.at o o) Q9 Ye (.tmp o id)) (.cA (.fieldAddr (.at o o) qt jp (.tmp o id)) (.cA (.load (.at o o) qU (.tmp o id)) (.cA (.len (.at o o) y4 (.tmp o id)) (.cA (.gt (.at o o) (.tmp o id) (.tmp o id)) (.cA (.pickOr .none (.s o) (.tmp o id)) (.nil (.cb o h (fun _ h=>?_) fun _ h=>?_)))))))))))))))))))))))))
   ·
    refine .sr [oo,oo,([5001],[]),oo,oo,oo,oo] mx (.mvA o (.cA (.fieldPtr .none vL (.s o)) (.cA (.loadAt (k:=5001) .none ty9 o (.s o) Qj) (.mvA o (.cA (.neS .none (z6 Tryz.underlying9) (.s o) (.s o)) (.asnA o (.asnA o (.nil (.ret (.thenRet (.blkRet (.thenRet (.blkRet (.thenRet ?_))))))))))))))
    replace h:=hD2 _ (za h)
    replace h:=yk hK1 (za h)
    obtain rfl:=za h
    exact zb.ret2 (.inl o) Tryz.results128 (zt.tmp o trivial Imp.refl) (zt.tmp o trivial Imp.refl)
   ·
    obtain⟨r1,hv6,h⟩:=bind_some h
    exact .skip (.then (.rg [oo,oo,([5001],[]),oo,([5001],[5001])] mx (.mvA o (.cA (.fieldPtr .none vL (.s o)) (.cA (.loadAt (k:=5001) .none ty9 o (.s o) Qj) (.cA (.call .none (zs6 hv6) (.cons (.s o) (.cons (.s o) .nil))) (.s0 5001 yd o o o (.nil (.blkNormal (zb.ag (za h)))))))))))
  ·
   refine .exit (.thenExit (.thenExit (.blkExit ?_)))
   replace h:=hD2 _ (za h)
   exact zb.j _ (za h)
 ·
  have h:=yO hK1 hj1
  refine .sn mx (.mv o (.asn o (.asb (.nil (.ret ?_)))))
  obtain rfl:=za h
  exact zb.ret2 (.inl o) Tryz.results128 (zt.tmp o trivial Imp.refl) (zt.tmp o trivial Imp.refl)
theorem zs5 {v1:yr}{r:Int}  (h:Y7 v1=some r):zr Tryz.prog 65 [ref v1] (rep r):=by
 unfold Y7 at h
 refine zr.i Tryz.func65 o Tryz.ntmps65 o (fun F=>(.sn mx (.asi (.nil (.seq (.sn mx (.mv o (.c (.nilCheckR .none (.s o)) (.fa Q9 Ye o (.fa qt jp o (.ld qU o (.ln y4 o (.mvi (.nil ?_))))))))))))))
 obtain⟨o_1,h,hK1⟩:=yN h
 refine .tJ (fun s=>o_1=Res.nx s) (.k 0 o .nil) zi.nil ?_ (fun j_1 hj1=>?_)
 ·
  refine .block (.rforEL h (fun p2_=>[(23,⟨True,rep p2_.1⟩)]) (fun p2_=>[]) (.k 23 o .nil) zi.nil (.k2 0 21 o o (.k 22 o .nil)) zi.nil (fun p2_ o_2 h hD2=>(.sn mx (.lt o o (.nil (.seq (.cb o h (fun _ h=>?_) fun _ h=>?_)))))))
  ·
   refine .skip (.then (.seq ?_))
   obtain⟨o_4,h,hK4⟩:=qg h
   unfold zcA at h
   refine .tJ (fun s=>o_4=Res.nx s) (.k4 0 21 22 23 o o o o .nil) zi.nil ?_ (fun j_4 hj4=>?_)
   ·
    obtain⟨hn5,h⟩:=zn h
    obtain⟨v2,hv6,h⟩:=zv h
    obtain⟨hn7,h⟩:=zn h
    refine .block (.sr [oo,oo,([],[4]),([4],[4])] mx (.ixA y4 yd o o hn5 (.rlA hv6 yd o (.al vC o (.st yd o o o (.nil (.freeze (t:=4) o o zi.nil o (.sn mx (.mv o (.c (.nilCheckR .none (.s o)) (.fa zdP zgp o (.ld zh7 o (.fa vL Qj o (.ld ty9 o (.c (.lookupOk .none zer zo3 (.s o) (.s o)) (.mv o (.ex o o (.ex o o (.asn o (.asn o (.nil (.sn mx (.fa vL Qj o (.ld ty9 o (.c (.neS .none (z6 Tryz.underlying9) (.s o) (.str (l:=[]) (by decide))) (.mv o (.mg o o o (.c (.not (.at o o) (.tmp o id)) (.c (.move (.at o o) (.tmp o id)) (.mg o o o (.c (.nilCheckR (.at o o) (.tmp o id)) (.c (.fieldAddr (.at o o) Q9 Ye (.tmp o id)) (.c (.fieldAddr (.at o o) qt jp (.tmp o id)) (.lg qU o o o (.mg o o o (.c (.indexAddr (.at o o) y4 yd (.tmp o id) (.tmp o id) (fun hg=>hn7 hg.1.2 hg.2)) (.c (.fieldAddr (.at o o) jo jC (.tmp o id)) (.lg ty3 o o o (.c (.neI (.at o o) (.tmp o id) .i) (.c (.pickOr (.at o o) (.tmp o id) (.tmp o id)) (.pa o o (.nil (.cb o h (fun _ h=>?_) fun _ h=>?_)))))))))))))))))))))))))))))))))))))))))))
    ·
     refine .sn mx (.asi (.nil (.ret (.blkRet (.thenRet (.thenRet (.blkRet (.thenRet ?_))))))))
     replace h:=yM hK4 (za h)
     replace h:=hD2 _ (za h)
     replace h:=yk hK1 (za h)
     obtain rfl:=za h
     exact zb.rt Tryz.results65 o
    ·
     exact .skip (.blkNormal (zb.j _ (za h)))
   ·
    have h:=qh hK4 hj4
    exact .rn mx (.adi o (.mv o (.nil (zb.ag (za h)))))
  ·
   refine .exit (.thenExit (.thenExit (.blkExit ?_)))
   replace h:=hD2 _ (za h)
   exact zb.j _ (za h)
 ·
  have h:=yO hK1 hj1
  refine .seq (.sn mx (.mv o (.c (.nilCheckR .none (.s o)) (.fa Q9 Ye o (.fa qt jp o (.ld qU o (.ln y4 o (.mvi (.nil ?_)))))))))
  obtain⟨o_9,h,hK9⟩:=yN h
  refine .tJ (fun s=>o_9=Res.nx s) (.k 0 o .nil) zi.nil ?_ (fun j_9 hj9=>?_)
  ·
   refine .block (.rforEL h (fun p10_=>[(63,⟨True,rep p10_.1⟩)]) (fun p10_=>[]) (.k 63 o .nil) zi.nil (.k2 0 61 o o (.k 62 o .nil)) zi.nil (fun p10_ o_10 h hD10=>(.sn mx (.lt o o (.nil (.seq (.cb o h (fun _ h=>?_) fun _ h=>?_)))))))
   ·
    refine .skip (.then (.seq ?_))
    obtain⟨o_12,h,hK12⟩:=qg h
    unfold zcB at h
    refine .tJ (fun s=>o_12=Res.nx s) (.k4 0 61 62 63 o o o o .nil) zi.nil ?_ (fun j_12 hj12=>?_)
    ·
     obtain⟨hn13,h⟩:=zn h
     obtain⟨v3,hv14,h⟩:=zv h
     obtain⟨r1,hv15,h⟩:=bind_some h
     refine .block (.sr [oo,oo,([],[8]),([8],[8])] mx (.ixA y4 yd o o hn13 (.rlA hv14 yd o (.al vC o (.st yd o o o (.nil (.freeze (t:=8) o o zi.nil o (.sn mx (.mv o (.ld yd o (.c (.call .none (zlM hv15) (.cons (.s o) (.cons (.s o) .nil))) (.mv o (.ex o o (.ex o o (.asn o (.asn o (.nil (.sn mx (.mv o (.c (.not .none (.s o)) (.nil (.cb o h (fun _ h=>?_) fun _ h=>?_))))))))))))))))))))))
     ·
      refine .sn mx (.asi (.nil (.ret (.blkRet (.thenRet (.thenRet (.blkRet (.thenRet ?_))))))))
      replace h:=yM hK12 (za h)
      replace h:=hD10 _ (za h)
      replace h:=yk hK9 (za h)
      obtain rfl:=za h
      exact zb.rt Tryz.results65 o
     ·
      exact .skip (.blkNormal (zb.j _ (za h)))
    ·
     have h:=qh hK12 hj12
     exact .rn mx (.adi o (.mv o (.nil (zb.ag (za h)))))
   ·
    refine .exit (.thenExit (.thenExit (.blkExit ?_)))
    replace h:=hD10 _ (za h)
    exact zb.j _ (za h)
  ·
   have h:=yO hK9 hj9
   refine .seq (.sn mx (.mv o (.c (.nilCheckR .none (.s o)) (.fa Q9 Ye o (.fa qt jp o (.ld qU o (.ln y4 o (.mvi (.nil ?_)))))))))
   obtain⟨o_17,h,hK17⟩:=yN h
   refine .tJ (fun s=>o_17=Res.nx s) (.k 0 o .nil) zi.nil ?_ (fun j_17 hj17=>?_)
   ·
    refine .block (.rforEL h (fun p18_=>[(82,⟨True,rep p18_.1⟩)]) (fun p18_=>[]) (.k 82 o .nil) zi.nil (.k2 0 80 o o (.k 81 o .nil)) zi.nil (fun p18_ o_18 h hD18=>(.sn mx (.lt o o (.nil (.seq (.cb o h (fun _ h=>?_) fun _ h=>?_)))))))
    ·
     refine .skip (.then (.seq ?_))
     obtain⟨o_20,h,hK20⟩:=qg h
     unfold zcC at h
     refine .tJ (fun s=>o_20=Res.nx s) (.k4 0 80 81 82 o o o o .nil) zi.nil ?_ (fun j_20 hj20=>?_)
     ·
      obtain⟨hn21,h⟩:=zn h
      obtain⟨v4,hv22,h⟩:=zv h
      obtain⟨r2,hv23,h⟩:=bind_some h
      refine .block (.sr [oo,oo,([],[12]),([12],[12])] mx (.ixA y4 yd o o hn21 (.rlA hv22 yd o (.al vC o (.st yd o o o (.nil (.freeze (t:=12) o o zi.nil o (.sn mx (.mv o (.ld yd o (.c (.call .none (zlM hv23) (.cons (.s o) (.cons (.s o) .nil))) (.mv o (.ex o o (.ex o o (.asn o (.asn o (.nil (.sn mx (.mv o (.c (.gt .none (.s o) .i) (.nil (.cb o h (fun _ h=>?_) fun _ h=>?_))))))))))))))))))))))
      ·
       refine .sn mx (.asi (.nil (.ret (.blkRet (.thenRet (.thenRet (.blkRet (.thenRet ?_))))))))
       replace h:=yM hK20 (za h)
       replace h:=hD18 _ (za h)
       replace h:=yk hK17 (za h)
       obtain rfl:=za h
       exact zb.rt Tryz.results65 o
      ·
       exact .skip (.blkNormal (zb.j _ (za h)))
     ·
      have h:=qh hK20 hj20
      exact .rn mx (.adi o (.mv o (.nil (zb.ag (za h)))))
    ·
     refine .exit (.thenExit (.thenExit (.blkExit ?_)))
     replace h:=hD18 _ (za h)
     exact zb.j _ (za h)
   ·
    have h:=yO hK17 hj17
    refine .seq (.sn mx (.mv o (.c (.nilCheckR .none (.s o)) (.fa Q9 Ye o (.fa qt jp o (.ld qU o (.ln y4 o (.mvi (.nil ?_)))))))))
    obtain⟨o_25,h,hK25⟩:=yN h
    refine .tJ (fun s=>o_25=Res.nx s) Sub.nil zi.nil ?_ (fun j_25 hj25=>?_)
    ·
     refine .block (.rforEL h (fun p26_=>[(101,⟨True,rep p26_.1⟩)]) (fun p26_=>[]) (.k 101 o .nil) zi.nil (.k2 0 99 o o (.k 100 o .nil)) zi.nil (fun p26_ o_26 h hD26=>(.sn mx (.lt o o (.nil (.seq (.cb o h (fun _ h=>?_) fun _ h=>?_)))))))
     ·
      refine .skip (.then (.seq ?_))
      obtain⟨o_28,h,hK28⟩:=qg h
      unfold zcD at h
      refine .tJ (fun s=>o_28=Res.nx s) (.k4 0 99 100 101 o o o o .nil) zi.nil ?_ (fun j_28 hj28=>?_)
      ·
       obtain⟨hn29,h⟩:=zn h
       obtain⟨v5,hv30,h⟩:=zv h
       refine .block (.sr [oo,oo,([],[16]),([16],[16])] mx (.ixA y4 yd o o hn29 (.rlA hv30 yd o (.al vC o (.st yd o o o (.nil (.freeze (t:=16) o o zi.nil o (.sn mx (.fa jo jC o (.ld ty3 o (.eqi o (.mv o (.mg o o o (.c (.nilCheckR (.at o o) (.tmp o id)) (.c (.fieldAddr (.at o o) zdQ zko (.tmp o id)) (.lg znv o o o (.fg Qh QF o o o (.lg ty9 o o o (.c (.lookup (.at o o) zes znO (.tmp o id) (.tmp o id)) (.c (.len (.at o o) qS (.tmp o id)) (.c (.eqI (.at o o) (.tmp o id) .i) (.pa o o (.nil (.cb o h (fun _ h=>?_) fun _ h=>?_))))))))))))))))))))))))
       ·
        refine .sn mx (.asi (.nil (.ret (.blkRet (.thenRet (.thenRet (.blkRet (.thenRet ?_))))))))
        replace h:=yM hK28 (za h)
        replace h:=hD26 _ (za h)
        replace h:=yk hK25 (za h)
        obtain rfl:=za h
        exact zb.rt Tryz.results65 o
       ·
        exact .skip (.blkNormal (zb.j _ (za h)))
      ·
       have h:=qh hK28 hj28
       exact .rn mx (.adi o (.mv o (.nil (zb.ag (za h)))))
     ·
      refine .exit (.thenExit (.thenExit (.blkExit ?_)))
      replace h:=hD26 _ (za h)
      exact zb.j _ (za h)
    ·
     have h:=yO hK25 hj25
     refine .sn mx (.asi (.nil (.ret ?_)))
     obtain rfl:=za h
     exact zb.rt Tryz.results65 o
theorem zs4 {v1:yr}{x1:yg}{r:Int}  (h:zcz v1 x1=some r):zr Tryz.prog 129 [ref v1,rep x1] (rep r):=by
 unfold zcz at h
 refine zr.i Tryz.func129 o Tryz.ntmps129 o (fun F=>(.sn mx (.c (.box .none (.s o)) (.asi (.nil (.sn mx (.mv o (.c (.nilCheckR .none (.s o)) (.fa zdP zgp o (.ld zh7 o (.fa zgh zkq o (.ld ty9 o (.c (.lookupOk .none zer zo3 (.s o) (.s o)) (.mv o (.ex o o (.ex o o (.asn o (.asn o (.nil (.seq (.block (.sn mx (.mv o (.c (.not .none (.s o)) (.asn o (.nil (.cb o h (fun _ h=>?_) fun _ h=>?_)))))))))))))))))))))))))))
 ·
  refine .sn mx (.asi (.nil (.ret (.blkRet (.thenRet ?_)))))
  obtain rfl:=za h
  exact zb.rt Tryz.results129 o
 ·
  obtain⟨hn2,h⟩:=zn h
  refine .sn mx (.mv o (.c (.nilCheckR .none (.s o)) (.fa Q9 Ye o (.fa qt jp o (.ld qU o (.mv o (.ix y4 yd o o hn2 (.fa jo jC o (.ld ty3 o (.eqi o (.asn o (.nil (.cb o h (fun _ h=>?_) fun _ h=>?_)))))))))))))
  ·
   refine .sn mx (.asi (.nil (.ret (.blkRet (.thenRet ?_)))))
   obtain rfl:=za h
   exact zb.rt Tryz.results129 o
  ·
   refine .sn mx (.fa zb3 zd4 o (.ld ty3 o (.c (.lt .none (.s o) .i) (.mv o (.fg zb3 zd4 o o o (.lg ty3 o o o (.c (.gt (.at o o) (.tmp o id) .i) (.po o o (.mv o (.fg zdS zgt o o o (.lg ty3 o o o (.c (.lt (.at o o) (.tmp o id) .i) (.po o o (.mv o (.fg zdS zgt o o o (.lg ty3 o o o (.c (.gt (.at o o) (.tmp o id) .i) (.po o o (.asn o (.nil (.cb o h (fun _ h=>?_) fun _ h=>?_)))))))))))))))))))))
   ·
    refine .sn mx (.asi (.nil (.ret (.blkRet (.thenRet ?_)))))
    obtain rfl:=za h
    exact zb.rt Tryz.results129 o
   ·
    refine .skip (.blkNormal (.then (.sn mx (.asi (.nil (.ret ?_))))))
    obtain rfl:=za h
    exact zb.rt Tryz.results129 o
theorem zrd {p1:zJ}{r:Int}  (h:zb6 p1=some r):zr Tryz.prog 195 [rep p1] (rep r):=by
 unfold zb6 at h
 obtain⟨r1,hv1,h⟩:=bind_some h
 obtain⟨r2,hv2,h⟩:=bind_some h
 refine zr.i Tryz.func195 o Tryz.ntmps195 o (fun F=>(.sn mx (.c (.box .none (.s o)) (.asi (.nil (.seq (.sn mx (.fa zjU zkm o (.ld ty3 o (.c (.call .none (zd2 hv1) (.cons (.s o) .nil)) (.mv o (.fg zjV zkn o o o (.lg ty3 o o o (.c (.callIf (.at o o) zj8 (fun hg=>zd2 ((fun hg=>vj hv2 ((zeA hg.2))) hg)) (.cons (.tmp o id) .nil) (fun h=>h)) (.po o o (.nil (.cb o h (fun _ h=>?_) fun _ h=>?_)))))))))))))))))
 ·
  refine .sn mx (.asi (.nil (.ret (.thenRet ?_))))
  obtain rfl:=za h
  exact zb.rt Tryz.results195 o
 ·
  refine .skip (.then (.sn mx (.asi (.nil (.ret ?_)))))
  obtain rfl:=za h
  exact zb.rt Tryz.results195 o
theorem zri {l1:(List zJ)}{r:Int}  (h:zb9 l1=some r):zr Tryz.prog 201 [rep l1] (rep r):=by
 unfold zb9 at h
 refine zr.i Tryz.func201 o Tryz.ntmps201 o (fun F=>(.sn mx (.asi (.nil (.seq (.sn mx (.mv o (.ln vW o (.mvi (.nil ?_))))))))))
 obtain⟨o_1,h,hK1⟩:=yN h
 refine .tJ (fun s=>o_1=Res.nx s) Sub.nil zi.nil ?_ (fun j_1 hj1=>?_)
 ·
  refine .block (.rforEL h (fun p2_=>[(8,⟨True,rep p2_.1⟩)]) (fun p2_=>[]) (.k 8 o .nil) zi.nil (.k2 6 7 o o .nil) zi.nil (fun p2_ o_2 h hD2=>(.sn mx (.lt o o (.nil (.seq (.cb o h (fun _ h=>?_) fun _ h=>?_)))))))
  ·
   refine .skip (.then (.seq ?_))
   obtain⟨o_4,h,hK4⟩:=qg h
   unfold zgk at h
   refine .tJ (fun s=>o_4=Res.nx s) (.k2 6 7 o o (.k 8 o .nil)) zi.nil ?_ (fun j_4 hj4=>?_)
   ·
    obtain⟨hn5,h⟩:=zn h
    obtain⟨v1,hv6,h⟩:=zv h
    obtain⟨e1,hv7,h⟩:=bind_some h
    refine .block (.sr [oo,oo,([],[4]),([4],[4])] mx (.ixA vW QS o o hn5 (.rlA hv6 QS o (.al znM o (.st QS o o o (.nil (.freeze (t:=4) o o zi.nil o (.sn mx (.ld QS o (.c (.call .none (zrd hv7) (.cons (.s o) .nil)) (.asn o (.nil (.sn mx (.mv o (.nei o (.nil (.cb o h (fun _ h=>?_) fun _ h=>?_)))))))))))))))))
    ·
     refine .sn mx (.mv o (.asn o (.nil (.ret (.blkRet (.thenRet (.thenRet (.blkRet (.thenRet ?_)))))))))
     replace h:=yM hK4 (za h)
     replace h:=hD2 _ (za h)
     replace h:=yk hK1 (za h)
     obtain rfl:=za h
     exact zb.rt Tryz.results201 o
    ·
     exact .skip (.blkNormal (zb.j _ (za h)))
   ·
    have h:=qh hK4 hj4
    exact .rn mx (.adi o (.mv o (.nil (zb.ag (za h)))))
  ·
   refine .exit (.thenExit (.thenExit (.blkExit ?_)))
   replace h:=hD2 _ (za h)
   exact zb.j _ (za h)
 ·
  have h:=yO hK1 hj1
  refine .sn mx (.asi (.nil (.ret ?_)))
  obtain rfl:=za h
  exact zb.rt Tryz.results201 o
theorem zre {l1:(List zJ)}{r:Int}  (h:zb7 l1=some r):zr Tryz.prog 130 [rep l1] (rep r):=by
 unfold zb7 at h
 refine zr.i Tryz.func130 o Tryz.ntmps130 o (fun F=>(.sn mx (.asi (.nil (.seq (.sn mx (.mv o (.ln vW o (.c (.gt .none (.s o) .i) (.nil (.cb o h (fun _ h=>?_) fun _ h=>?_)))))))))))
 ·
  refine .sn mx (.asi (.nil (.ret (.thenRet ?_))))
  obtain rfl:=za h
  exact zb.rt Tryz.results130 o
 ·
  obtain⟨r1,hv2,h⟩:=bind_some h
  refine .skip (.then (.sn mx (.mv o (.c (.call .none (zri hv2) (.cons (.s o) .nil)) (.asn o (.nil (.ret ?_)))))))
  obtain rfl:=za h
  exact zb.rt Tryz.results130 o
theorem zs3 {v1:yr}{x1:zA}{twice1:Bool}{r:Int}  (h:zcy v1 x1 twice1=some r):zr Tryz.prog 66 [ref v1,rep x1,rep twice1] (rep r):=by
 unfold zcy at h
 obtain⟨r1,hv1,h⟩:=bind_some h
 refine zr.i Tryz.func66 o Tryz.ntmps66 o (fun F=>(.sn mx (.c (.box .none (.s o)) (.asi (.nil (.seq (.block (.sn mx (.fa JF zaN o (.ld ty9 o (.c (.call .none (zeF hv1) (.cons (.s o) .nil)) (.c (.not .none (.s o)) (.asn o (.nil (.cb o h (fun _ h=>?_) fun _ h=>?_)))))))))))))))
 ·
  refine .sn mx (.asi (.nil (.ret (.blkRet (.thenRet ?_)))))
  obtain rfl:=za h
  exact zb.rt Tryz.results66 o
 ·
  refine .sn mx (.mv o (.asn o (.nil (.cb o h (fun _ h=>?_) fun _ h=>?_))))
  ·
   refine .sn mx (.asi (.nil (.ret (.blkRet (.thenRet ?_)))))
   obtain rfl:=za h
   exact zb.rt Tryz.results66 o
  ·
   obtain⟨v2,hv4,h⟩:=zv h
   refine .skip (.blkNormal (.then (.seq (.sn mx (.fa zdT zgu o (.ld qu o (.fa zdU zgv o (.ld qu o (.c (.re hv4 (.buildSlice (xs:=[_,_]) .none zhJ qu zrC (.cons (.s o) (.cons (.s o) .nil)) o (by decide))) (.ln zhJ o (.mvi (.nil ?_))))))))))))
   obtain⟨o_5,h,hK5⟩:=yN h
   refine .tJ (fun s=>o_5=Res.nx s) (.k 4 o .nil) zi.nil ?_ (fun j_5 hj5=>?_)
   ·
    refine .block (.rforEL h (fun p6_=>[(25,⟨True,rep p6_.1⟩)]) (fun p6_=>[]) (.k 25 o .nil) zi.nil (.k4 0 4 23 24 o o o o .nil) zi.nil (fun p6_ o_6 h hD6=>(.sn mx (.lt o o (.nil (.seq (.cb o h (fun _ h=>?_) fun _ h=>?_)))))))
    ·
     refine .skip (.then (.seq ?_))
     obtain⟨o_8,h,hK8⟩:=qg h
     unfold zg3 at h
     refine .tJ (fun s=>o_8=Res.nx s) (.k4 0 4 23 24 o o o o (.k 25 o .nil)) zi.nil ?_ (fun j_8 hj8=>?_)
     ·
      obtain⟨hn9,h⟩:=zn h
      obtain⟨v3,hv10,h⟩:=zv h
      obtain⟨e1,hv11,h⟩:=bind_some h
      refine .block (.sr [oo,oo,([],[8]),([8],[8])] mx (.ixA zhJ qu o o hn9 (.rlA hv10 qu o (.al zfp o (.st qu o o o (.nil (.freeze (t:=8) o o zi.nil o (.sn mx (.mv o (.ld qu o (.c (.call .none (zs4 hv11) (.cons (.s o) (.cons (.s o) .nil))) (.asn o (.nil (.sn mx (.mv o (.nei o (.nil (.cb o h (fun _ h=>?_) fun _ h=>?_))))))))))))))))))
      ·
       refine .sn mx (.mv o (.asn o (.nil (.ret (.blkRet (.thenRet (.thenRet (.blkRet (.thenRet ?_)))))))))
       replace h:=yM hK8 (za h)
       replace h:=hD6 _ (za h)
       replace h:=yk hK5 (za h)
       obtain rfl:=za h
       exact zb.rt Tryz.results66 o
      ·
       exact .skip (.blkNormal (zb.j _ (za h)))
     ·
      have h:=qh hK8 hj8
      exact .rn mx (.adi o (.mv o (.nil (zb.ag (za h)))))
    ·
     refine .exit (.thenExit (.thenExit (.blkExit ?_)))
     replace h:=hD6 _ (za h)
     exact zb.j _ (za h)
   ·
    have h:=yO hK5 hj5
    refine .seq (.sn mx (.fa Yc JL o (.ld Yw o (.ln vW o (.c (.gt .none (.s o) .i) (.nil (.cb o h (fun _ h=>?_) fun _ h=>?_)))))))
    ·
     refine .sn mx (.asi (.nil (.ret (.thenRet ?_))))
     obtain rfl:=za h
     exact zb.rt Tryz.results66 o
    ·
     obtain⟨e2,hv14,h⟩:=bind_some h
     refine .skip (.then (.seq (.sn mx (.fa Yc JL o (.ld Yw o (.c (.call .none (zre hv14) (.cons (.s o) .nil)) (.asn o (.nil (.sn mx (.mv o (.nei o (.nil (.cb o h (fun _ h=>?_) fun _ h=>?_)))))))))))))
     ·
      refine .sn mx (.mv o (.asn o (.nil (.ret (.thenRet ?_)))))
      obtain rfl:=za h
      exact zb.rt Tryz.results66 o
     ·
      obtain⟨e3,hv16,h⟩:=bind_some h
      refine .skip (.then (.seq (.sn mx (.fa zdV zgw o (.ld ty9 o (.c (.call .none (ze2 hv16) (.cons (.s o) .nil)) (.asn o (.nil (.sn mx (.mv o (.nei o (.nil (.cb o h (fun _ h=>?_) fun _ h=>?_)))))))))))))
      ·
       refine .sn mx (.mv o (.asn o (.nil (.ret (.thenRet ?_)))))
       obtain rfl:=za h
       exact zb.rt Tryz.results66 o
      ·
       obtain⟨r2,hv18,h⟩:=bind_some h
       refine .skip (.then (.seq (.sn mx (.fa zb4 zd5 o (.ld ty9 o (.c (.neS .none (z6 Tryz.underlying9) (.s o) (.str (l:=[]) (by decide))) (.mv o (.fg zb4 zd5 o o o (.lg ty9 o o o (.c (.callIf (.at o o) zj7 (fun hg=>zeF ((fun hg=>vj hv18 (hg.2)) hg)) (.cons (.tmp o id) .nil) (fun h=>h)) (.c (.not (.at o o) (.tmp o id)) (.pa o o (.nil (.cb o h (fun _ h=>?_) fun _ h=>?_))))))))))))))
       ·
        refine .sn mx (.asi (.nil (.ret (.thenRet ?_))))
        obtain rfl:=za h
        exact zb.rt Tryz.results66 o
       ·
        refine .skip (.then (.sn mx (.asi (.nil (.ret ?_)))))
        obtain rfl:=za h
        exact zb.rt Tryz.results66 o
theorem zrh {l1:(List Box)}{r:Int}  (h:zb8 l1=some r):zr Tryz.prog 202 [rep l1] (rep r):=by
 unfold zb8 at h
 refine zr.i Tryz.func202 o Tryz.ntmps202 o (fun F=>(.sn mx (.asi (.nil (.seq (.sn mx (.mv o (.ln Yt o (.mvi (.nil ?_))))))))))
 obtain⟨o_1,h,hK1⟩:=yN h
 refine .tJ (fun s=>o_1=Res.nx s) Sub.nil zi.nil ?_ (fun j_1 hj1=>?_)
 ·
  refine .block (.rforEL h (fun p2_=>[(8,⟨True,rep p2_.1⟩)]) (fun p2_=>[]) (.k 8 o .nil) zi.nil (.k2 6 7 o o .nil) zi.nil (fun p2_ o_2 h hD2=>(.sn mx (.lt o o (.nil (.seq (.cb o h (fun _ h=>?_) fun _ h=>?_)))))))
  ·
   refine .skip (.then (.seq ?_))
   obtain⟨o_4,h,hK4⟩:=qg h
   unfold zgj at h
   refine .tJ (fun s=>o_4=Res.nx s) (.k2 6 7 o o (.k 8 o .nil)) zi.nil ?_ (fun j_4 hj4=>?_)
   ·
    obtain⟨hn5,h⟩:=zn h
    obtain⟨v1,hv6,h⟩:=zv h
    obtain⟨e1,hv7,h⟩:=bind_some h
    refine .block (.sr [oo,oo,([],[4]),([4],[4])] mx (.ixA Yt yi o o hn5 (.rlA hv6 yi o (.al QU o (.st yi o o o (.nil (.freeze (t:=4) o o zi.nil o (.sn mx (.ld yi o (.c (.call .none (zd0 hv7) (.cons (.s o) .nil)) (.asn o (.nil (.sn mx (.mv o (.nei o (.nil (.cb o h (fun _ h=>?_) fun _ h=>?_)))))))))))))))))
    ·
     refine .sn mx (.mv o (.asn o (.nil (.ret (.blkRet (.thenRet (.thenRet (.blkRet (.thenRet ?_)))))))))
     replace h:=yM hK4 (za h)
     replace h:=hD2 _ (za h)
     replace h:=yk hK1 (za h)
     obtain rfl:=za h
     exact zb.rt Tryz.results202 o
    ·
     exact .skip (.blkNormal (zb.j _ (za h)))
   ·
    have h:=qh hK4 hj4
    exact .rn mx (.adi o (.mv o (.nil (zb.ag (za h)))))
  ·
   refine .exit (.thenExit (.thenExit (.blkExit ?_)))
   replace h:=hD2 _ (za h)
   exact zb.j _ (za h)
 ·
  have h:=yO hK1 hj1
  refine .sn mx (.asi (.nil (.ret ?_)))
  obtain rfl:=za h
  exact zb.rt Tryz.results202 o
theorem zrg {l1:(List Box)}{r:(Box×Int)}  (h:zaK l1=some r):zr Tryz.prog 131 [rep l1] (tup [rep r.1,rep r.2]):=by
 unfold zaK at h
 obtain⟨v1,hv1,h⟩:=zv h
 refine zr.i Tryz.func131 o Tryz.ntmps131 o (fun F=>(.sr [([],[2]),oo] mx (.al QU o (.cA (.assign .none .i) (.nil (.reB (t:=2) o (congrArg (zC 45) hv1) (.nameBox (t:=2) (g:=5001) o o (fun m5001=>(.seq (.sn mx (.mv o (.ln Yt o (.c (.gt .none (.s o) .i) (.nil (.cb o h (fun _ h=>?_) fun _ h=>?_)))))))))))))))
 ·
  obtain⟨v2,hv3,h⟩:=zv h
  refine .sr [oo,([5001],[5001]),oo] mx (.cA (.re hv3 (.buildF (y:=(⟨(0:Int),(0:Int),(0:Int),(0:Int)⟩:Box)) .none vd vu o .nil .nil)) (.s0 5001 yi o o o (.cA (.assign .none .i) (.nil (.fb 5001 [2] o (.cons (t:=2) o trivial .nil) (.ret (.thenRet ?_)))))))
  obtain rfl:=za h
  exact zb.r2 Tryz.results131 yi o o
 ·
  obtain⟨e1,hv4,h⟩:=bind_some h
  refine .skip (.then (.seq (.sn mx (.mv o (.c (.call .none (zrh hv4) (.cons (.s o) .nil)) (.asn o (.nil (.sn mx (.mv o (.nei o (.nil (.cb o h (fun _ h=>?_) fun _ h=>?_))))))))))))
  ·
   obtain⟨v3,hv6,h⟩:=zv h
   refine .sr [oo,oo,([5001],[5001]),oo] mx (.cA (.re hv6 (.buildF (y:=(⟨(0:Int),(0:Int),(0:Int),(0:Int)⟩:Box)) .none vd vu o .nil .nil)) (.mvA o (.s0 5001 yi o o o (.asnA o (.nil (.fb 5001 [2] o (.cons (t:=2) o trivial .nil) (.ret (.thenRet ?_))))))))
   obtain rfl:=za h
   exact zb.r2 Tryz.results131 yi o o
  ·
   refine .skip (.then (.seq (.sn mx (.mv o (.ln Yt o (.eqi o (.nil (.cb o h (fun _ h=>?_) fun _ h=>?_))))))))
   ·
    obtain⟨v4,hv8,h⟩:=zv h
    refine .sr [oo,([5001],[5001]),oo] mx (.cA (.re hv8 (.buildF (y:=(⟨(0:Int),(0:Int),(0:Int),(0:Int)⟩:Box)) .none vd vu o .nil .nil)) (.s0 5001 yi o o o (.cA (.assign .none .i) (.nil (.fb 5001 [2] o (.cons (t:=2) o trivial .nil) (.ret (.thenRet ?_)))))))
    obtain rfl:=za h
    exact zb.r2 Tryz.results131 yi o o
   ·
    obtain⟨hn9,h⟩:=zn h
    obtain⟨v5,hv10,h⟩:=zv h
    refine .skip (.then (.sr [oo,oo,oo,([],[5]),([5],[5])] mx (.mvA o (.cA (.indexAddr .none Yt yi (.s o) .i (fun _=>hn9)) (.rlA hv10 yi o (.al QU o (.st yi o o o (.nil (.nameBox (t:=5) (g:=5002) o o (fun m5002=>(.seq (.sn mx (.mv o (.ln Yt o (.mvi (.nil ?_))))))))))))))))
    obtain⟨j_11,h,hK11⟩:=bind_some h
    refine .thenJ (ι:=Box) (fun j_11=>[]) (fun j_11=>[(5002,some (yG m5002 45 j_11))]) (fun s=>j_11=s) (.k2 2 5 o o .nil) (.k 5001 o .nil) ?_ (fun j_11' hj11=>?_)
    ·
     refine .block (.rforL h (fun p12_=>[(29,⟨True,rep p12_.1⟩)]) (fun p12_=>[(5002,some (yG m5002 45 p12_.2))]) (.k 29 o .nil) (.k 5002 o .nil) (.k4 2 5 27 28 o o o o .nil) (.k 5001 o .nil) (fun p12_ o_12 h hD12=>(.sn mx (.lt o o (.nil (.seq (.cb o h (fun _ h=>?_) fun _ h=>?_)))))))
     ·
      refine .skip (.then (.seq ?_))
      obtain⟨j_14,h,hK14⟩:=bind_some h
      unfold zd1 at h
      refine .thenJ (ι:=Box) (fun j_14=>[]) (fun j_14=>[(5002,some (yG m5002 45 j_14))]) (fun s=>j_14=s) (.k4 2 5 27 28 o o o o (.k 29 o .nil)) (.k 5001 o .nil) ?_ (fun j_14' hj14=>?_)
      ·
       obtain⟨hn15,h⟩:=zn h
       obtain⟨v6,hv16,h⟩:=zv h
       obtain⟨x1,hv17,h⟩:=zv h
       obtain⟨y1,hv18,h⟩:=zv h
       obtain⟨v7,hv19,h⟩:=zv h
       refine .block (.sr [oo,oo,([],[7]),([7],[7])] mx (.ixA Yt yi o o hn15 (.rlA hv16 yi o (.al QU o (.st yi o o o (.nil (.freeze (t:=7) o o (.k2 5001 5002 o o .nil) o (.sr [oo,([5002],[]),oo,oo,oo,oo,([5002],[]),oo,oo,oo,oo,oo] mx (.cA (.fieldPtr .none YP (.s o)) (.cA (.loadAt (k:=5002) .none ty3 o (.s o) YW) (.faA YP YW o (.ldA ty3 o (.cA (.min2 .none (.s o) (.s o)) (.cA (.fieldPtr .none YQ (.s o)) (.cA (.loadAt (k:=5002) .none ty3 o (.s o) YX) (.faA YQ YX o (.ldA ty3 o (.cA (.min2 .none (.s o) (.s o)) (.cA (.re hv17 (.assign .none (.s o))) (.cA (.re hv18 (.assign .none (.s o))) (.nil (.rg [oo,oo,oo,([5002],[]),oo,([5002],[]),oo,oo,oo,oo,oo,oo,oo,oo,oo,oo,([5002],[]),oo,([5002],[]),oo,oo,oo,oo,oo,oo,oo,oo,oo,oo,([5002],[5002])] mx (.mvA o (.mvA o (.cA (.fieldPtr .none YP (.s o)) (.cA (.loadAt (k:=5002) .none ty3 o (.s o) YW) (.cA (.fieldPtr .none Ya (.s o)) (.cA (.loadAt (k:=5002) .none ty3 o (.s o) Yf) (.addA o o (.faA YP YW o (.ldA ty3 o (.faA Ya Yf o (.ldA ty3 o (.addA o o (.cA (.max2 .none (.s o) (.s o)) (.mvA o (.subA o o (.cA (.fieldPtr .none YQ (.s o)) (.cA (.loadAt (k:=5002) .none ty3 o (.s o) YX) (.cA (.fieldPtr .none Yb (.s o)) (.cA (.loadAt (k:=5002) .none ty3 o (.s o) Yg) (.addA o o (.faA YQ YX o (.ldA ty3 o (.faA Yb Yg o (.ldA ty3 o (.addA o o (.cA (.max2 .none (.s o) (.s o)) (.mvA o (.subA o o (.cA (.re hv19 (.buildF (y:=(⟨x1,y1,W ((max (W (p12_.2.X+p12_.2.W_)) (W (v6.X+v6.W_))) - x1),W ((max (W (p12_.2.Y+p12_.2.H)) (W (v6.Y+v6.H))) - y1)⟩:Box)) .none vd vu o (.cons (.s o) (.cons (.s o) (.cons (.s o) (.cons (.s o) .nil)))) (.cons o zhC (.cons o zhD (.cons o zhE (.cons o zhF .nil)))))) ?_)))))))))))))))))))))))))))))))))))))))))))))))))))
       exact .s0 5002 yi o o o (.nil (.blkNormal (zb.j _ (za h))))
      ·
       subst hj14;have h:=hK14;clear hK14
       exact .rn mx (.adi o (.mv o (.nil (zb.ag (za h)))))
     ·
      refine .exit (.thenExit (.thenExit (.blkExit ?_)))
      replace h:=hD12 _ (za h)
      exact zb.j _ (za h)
    ·
     subst hj11;have h:=hK11;clear hK11
     refine .freezeBox (g:=5002) (ts:=[5]) o (.cons (t:=5) o trivial .nil) (.k 5001 o .nil) o (.seq (.sn mx (.fa Ya Yf o (.ld ty3 o (.c (.gt .none (.s o) .i) (.mv o (.fg Yb Yg o o o (.lg ty3 o o o (.c (.gt (.at o o) (.tmp o id) .i) (.po o o (.nil (.cb o h (fun _ h=>?_) fun _ h=>?_))))))))))))
     ·
      obtain⟨v8,hv21,h⟩:=zv h
      refine .sr [oo,([5001],[5001]),oo] mx (.cA (.re hv21 (.buildF (y:=(⟨(0:Int),(0:Int),(0:Int),(0:Int)⟩:Box)) .none vd vu o .nil .nil)) (.s0 5001 yi o o o (.cA (.assign .none .i) (.nil (.fb 5001 [2] o (.cons (t:=2) o trivial .nil) (.ret (.thenRet ?_)))))))
      obtain rfl:=za h
      exact zb.r2 Tryz.results131 yi o o
     ·
      refine .skip (.then (.sr [oo,([5001],[5001]),oo] mx (.ldA yi o (.s0 5001 yi o o o (.cA (.assign .none .i) (.nil (.fb 5001 [2] o (.cons (t:=2) o trivial .nil) (.ret ?_))))))))
      obtain rfl:=za h
      exact zb.r2 Tryz.results131 yi o o
theorem zrf {b1:Box}{n1:Int}{r:(Box×Int)}  (h:zaJ b1 n1=some r):zr Tryz.prog 132 [rep b1,rep n1] (tup [rep r.1,rep r.2]):=by
 unfold zaJ at h
 obtain⟨v1,hv1,h⟩:=zv h
 obtain⟨e1,hv2,h⟩:=bind_some h
 refine zr.i Tryz.func132 o Tryz.ntmps132 o (fun F=>(.sr [oo,([],[4]),oo] mx (.cA (.box .none (.s o)) (.al QU o (.cA (.assign .none .i) (.nil (.reB (t:=4) o (congrArg (zC 45) hv1) (.nameBox (t:=4) (g:=5001) o o (fun m5001=>(.seq (.sn mx (.ld yi o (.c (.call .none (zd0 hv2) (.cons (.s o) .nil)) (.asn o (.nil (.sn mx (.mv o (.nei o (.nil (.cb o h (fun _ h=>?_) fun _ h=>?_))))))))))))))))))))
 ·
  obtain⟨v2,hv4,h⟩:=zv h
  refine .sr [oo,oo,([5001],[5001]),oo] mx (.cA (.re hv4 (.buildF (y:=(⟨(0:Int),(0:Int),(0:Int),(0:Int)⟩:Box)) .none vd vu o .nil .nil)) (.mvA o (.s0 5001 yi o o o (.asnA o (.nil (.fb 5001 [4] o (.cons (t:=4) o trivial .nil) (.ret (.thenRet ?_))))))))
  obtain rfl:=za h
  exact zb.r2 Tryz.results132 yi o o
 ·
  refine .skip (.then (.seq (.sn mx (.mv o (.c (.lt .none (.s o) .i) (.mv o (.mg o o o (.c (.gt (.at o o) (.tmp o id) .i) (.po o o (.nil (.cb o h (fun _ h=>?_) fun _ h=>?_)))))))))))
  ·
   obtain⟨v3,hv6,h⟩:=zv h
   refine .sr [oo,([5001],[5001]),oo] mx (.cA (.re hv6 (.buildF (y:=(⟨(0:Int),(0:Int),(0:Int),(0:Int)⟩:Box)) .none vd vu o .nil .nil)) (.s0 5001 yi o o o (.cA (.assign .none .i) (.nil (.fb 5001 [4] o (.cons (t:=4) o trivial .nil) (.ret (.thenRet ?_)))))))
   obtain rfl:=za h
   exact zb.r2 Tryz.results132 yi o o
  ·
   obtain⟨v4,hv7,h⟩:=zv h
   refine .skip (.then (.sr [oo,oo,oo,oo,oo,oo,oo,oo,oo,oo,oo,oo,oo,oo,oo,oo,oo,oo,oo,([],[7]),([7],[7])] mx (.faA YP YW o (.ldA ty3 o (.mvA o (.subA o o (.faA YQ YX o (.ldA ty3 o (.mvA o (.subA o o (.faA Ya Yf o (.ldA ty3 o (.mvA o (.cA (.mulW .none .i (.s o)) (.addA o o (.faA Yb Yg o (.ldA ty3 o (.mvA o (.cA (.mulW .none .i (.s o)) (.addA o o (.cA (.re hv7 (.buildF (y:=(⟨W (b1.X - n1),W (b1.Y - n1),W (b1.W_+(W (2*n1))),W (b1.H+(W (2*n1)))⟩:Box)) .none vd vu o (.cons (.s o) (.cons (.s o) (.cons (.s o) (.cons (.s o) .nil)))) (.cons o zhC (.cons o zhD (.cons o zhE (.cons o zhF .nil)))))) (.al QU o (.st yi o o o (.nil (.freeze (t:=7) o o (.k 5001 o .nil) o (.seq (.sn mx (.fa Ya Yf o (.ld ty3 o (.c (.lt .none (.s o) .i) (.mv o (.fg Yb Yg o o o (.lg ty3 o o o (.c (.lt (.at o o) (.tmp o id) .i) (.po o o (.nil (.cb o h (fun _ h=>?_) fun _ h=>?_)))))))))))))))))))))))))))))))))))))
   ·
    obtain⟨v5,hv9,h⟩:=zv h
    refine .sr [oo,([5001],[5001]),oo] mx (.cA (.re hv9 (.buildF (y:=(⟨(0:Int),(0:Int),(0:Int),(0:Int)⟩:Box)) .none vd vu o .nil .nil)) (.s0 5001 yi o o o (.cA (.assign .none .i) (.nil (.fb 5001 [4] o (.cons (t:=4) o trivial .nil) (.ret (.thenRet ?_)))))))
    obtain rfl:=za h
    exact zb.r2 Tryz.results132 yi o o
   ·
    obtain⟨e2,hv10,h⟩:=bind_some h
    refine .skip (.then (.seq (.sn mx (.ld yi o (.c (.call .none (zd0 hv10) (.cons (.s o) .nil)) (.asn o (.nil (.sn mx (.mv o (.nei o (.nil (.cb o h (fun _ h=>?_) fun _ h=>?_))))))))))))
    ·
     obtain⟨v6,hv12,h⟩:=zv h
     refine .sr [oo,oo,([5001],[5001]),oo] mx (.cA (.re hv12 (.buildF (y:=(⟨(0:Int),(0:Int),(0:Int),(0:Int)⟩:Box)) .none vd vu o .nil .nil)) (.mvA o (.s0 5001 yi o o o (.asnA o (.nil (.fb 5001 [4] o (.cons (t:=4) o trivial .nil) (.ret (.thenRet ?_))))))))
     obtain rfl:=za h
     exact zb.r2 Tryz.results132 yi o o
    ·
     refine .skip (.then (.sr [oo,([5001],[5001]),oo] mx (.ldA yi o (.s0 5001 yi o o o (.cA (.assign .none .i) (.nil (.fb 5001 [4] o (.cons (t:=4) o trivial .nil) (.ret ?_))))))))
     obtain rfl:=za h
     exact zb.r2 Tryz.results132 yi o o
theorem zs2 {self:(yr×Int)→Option (Box×Int)}(hself:∀(x:(yr×Int)) (r:(Box×Int)),self x=some r→zr Tryz.prog 67 [ref x.1,rep x.2] (tup [rep r.1,rep r.2]))  {x:(yr×Int)}{r:(Box×Int)}(h:vp self x=some r):zr Tryz.prog 67 [ref x.1,rep x.2] (tup [rep r.1,rep r.2]):=by
 unfold vp at h
 obtain⟨v2,hv1,h⟩:=zv h
 obtain⟨hn2,h⟩:=zn h
 obtain⟨v3,hv3,h⟩:=zv h
 refine zr.i Tryz.func67 o Tryz.ntmps67 o (fun F=>(.sr [([],[4]),oo] mx (.al QU o (.cA (.assign .none .i) (.nil (.reB (t:=4) o (congrArg (zC 45) hv1) (.nameBox (t:=4) (g:=5001) o o (fun m5001=>(.sr [oo,oo,oo,oo,oo,oo,oo,oo,([],[6]),([6],[6])] mx (.mvA o (.cA (.nilCheckR .none (.s o)) (.faA Q9 Ye o (.faA qt jp o (.ldA qU o (.mvA o (.ixA y4 yd o o hn2 (.rlA hv3 yd o (.al vC o (.st yd o o o (.nil (.freeze (t:=6) o o (.k 5001 o .nil) o (.seq (.sn mx (.fa jo jC o (.ld ty3 o (.nei o (.nil (.cb o h (fun _ h=>?_) fun _ h=>?_))))))))))))))))))))))))))))
 ·
  refine .sr [oo,oo,([5001],[5001]),oo] mx (.faA vK Qi o (.ldA yi o (.s0 5001 yi o o o (.cA (.assign .none .i) (.nil (.fb 5001 [4] o (.cons (t:=4) o trivial .nil) (.ret (.thenRet ?_))))))))
  obtain rfl:=za h
  exact zb.r2 Tryz.results67 yi o o
 ·
  obtain⟨v4,hv5,h⟩:=zv h
  refine .skip (.then (.sr [([],[7])] mx (.cW (.nilRow (T:=45) (α:=Box) o) (.nil (.nameRow (t:=7) (g:=5002) o o o (fun s5002=>(.seq (.sn mx (.mv o (.c (.nilCheckR .none (.s o)) (.fa zdQ zko o (.ld znv o (.fa Qh QF o (.ld ty9 o (.c (.re hv5 (.lookup .none zes znO (.s o) (.s o))) (.ln qS o (.mvi (.nil ?_))))))))))))))))))
  obtain⟨o_6,h,hK6⟩:=yN h
  refine .thenJ (ι:=(List Box)) (fun j_6=>[]) (fun j_6=>[(7,some (zp 45 j_6))]) (fun s=>o_6=Res.nx s) (.k 4 o .nil) (.k 5001 o .nil) ?_ (fun j_6 hj6=>?_)
  ·
   refine .block (.anon (t:=7) (g:=5002) o o trivial o (.rforEL h (fun p7_=>[(35,⟨True,rep p7_.1⟩)]) (fun p7_=>[(7,some (zp 45 p7_.2))]) (.k 35 o .nil) (.k 7 o .nil) (.k4 0 4 33 34 o o o o .nil) (.k 5001 o .nil) (fun p7_ o_7 h hD7=>(.nameRow (t:=7) (g:=5003) o o o (fun s5003=>(.sn mx (.lt o o (.nil (.seq (.cb o h (fun _ h=>?_) fun _ h=>?_))))))))))
   ·
    refine .skip (.then (.seq ?_))
    obtain⟨o_9,h,hK9⟩:=qg h
    unfold za3 at h
    refine .thenJ (ι:=(List Box)) (fun j_9=>[]) (fun j_9=>[(7,some (zp 45 j_9))]) (fun s=>o_9=Res.nx s) (.k4 0 4 33 34 o o o o (.k 35 o .nil)) (.k 5001 o .nil) ?_ (fun j_9 hj9=>?_)
    ·
     obtain⟨hn10,h⟩:=zn h
     obtain⟨r1,hv11,h⟩:=bind_some h
     refine .block (.sn mx (.ix qS ty3 o o hn10 (.ld ty3 o (.asn o (.nil (.sr [oo,oo,oo,oo,oo,oo,([],[10]),([10],[10]),oo] mx (.mvA o (.mvA o (.cA (.call .none (hself _ _ hv11) (.cons (.s o) (.cons (.s o) .nil))) (.mvA o (.exA o o (.exA o o (.al QU o (.st yi o o o (.asnA o (.nil (.freeze (t:=10) o o (.k2 5001 5003 o o .nil) o (.seq (.sn mx (.mv o (.nei o (.nil (.cb o h (fun _ h=>?_) fun _ h=>?_)))))))))))))))))))))))
     ·
      obtain⟨v5,hv13,h⟩:=zv h
      refine .sr [oo,oo,([5001],[5001]),oo] mx (.cA (.re hv13 (.buildF (y:=(⟨(0:Int),(0:Int),(0:Int),(0:Int)⟩:Box)) .none vd vu o .nil .nil)) (.mvA o (.s0 5001 yi o o o (.asnA o (.nil (.fb 5001 [4] o (.cons (t:=4) o trivial .nil) (.ret (.thenRet (.blkRet (.thenRet (.thenRet (.blkRet (.thenRet ?_)))))))))))))
      replace h:=yM hK9 (za h)
      replace h:=hD7 _ (za h)
      replace h:=yk hK6 (za h)
      obtain rfl:=za h
      exact zb.r2 Tryz.results67 yi o o
     ·
      obtain⟨hn14,h⟩:=zn h
      exact .skip (.then (.rg [oo,oo,oo,([5003],[52,5003]),([52],[7,52])] mx (.mvA o (.ldA yi o (.cA (.buildSlice (xs:=[_]) .none Yt yi zrB (.cons (.s o) .nil) o (by decide)) (.cW (.append (k:=5003) ztH o (.told (.s o) o) (.s o) hn14) (.cW (.passRow o (.tmp o)) (.nil (.blkNormal (zb.j _ (za h)))))))))))
    ·
     have h:=qh hK9 hj9
     exact .nameRow (t:=7) (g:=5004) o o o (fun s5004=>(.rn mx (.adi o (.mv o (.nil (.anon (t:=7) (g:=5004) o o trivial o (zb.ag (za h))))))))
   ·
    refine .exit (.thenExit (.thenExit (.blkExit (.anon (t:=7) (g:=5003) o o trivial o ?_))))
    replace h:=hD7 _ (za h)
    exact zb.j _ (za h)
  ·
   have h:=yO hK6 hj6
   obtain⟨r2,hv15,h⟩:=bind_some h
   refine .freezeRowA (t:=7) o o (.k 5001 o .nil) o (.sr [oo,oo,oo,oo,oo,([],[12]),([12],[12]),oo] mx (.mvA o (.cA (.call .none (zrg hv15) (.cons (.s o) .nil)) (.mvA o (.exA o o (.exA o o (.al QU o (.st yi o o o (.asnA o (.nil (.freeze (t:=12) o o (.k 5001 o .nil) o (.seq (.sn mx (.mv o (.nei o (.nil (.cb o h (fun _ h=>?_) fun _ h=>?_)))))))))))))))))
   ·
    obtain⟨v6,hv17,h⟩:=zv h
    refine .sr [oo,oo,([5001],[5001]),oo] mx (.cA (.re hv17 (.buildF (y:=(⟨(0:Int),(0:Int),(0:Int),(0:Int)⟩:Box)) .none vd vu o .nil .nil)) (.mvA o (.s0 5001 yi o o o (.asnA o (.nil (.fb 5001 [4] o (.cons (t:=4) o trivial .nil) (.ret (.thenRet ?_))))))))
    obtain rfl:=za h
    exact zb.r2 Tryz.results67 yi o o
   ·
    obtain⟨r3,hv18,h⟩:=bind_some h
    refine .skip (.then (.sr [oo,oo,oo,oo,([5001],[5001]),oo] mx (.ldA yi o (.cA (.call .none (zrf hv18) (.cons (.s o) (.cons .i .nil))) (.exA o o (.exA o o (.s0 5001 yi o o o (.asnA o (.nil (.fb 5001 [4] o (.cons (t:=4) o trivial .nil) (.ret ?_)))))))))))
    obtain rfl:=za h
    exact zb.r2 Tryz.results67 yi o o
theorem zlN:∀(k:Nat)  (x:(yr×Int)) (r:(Box×Int)) (h:jW vp k x=some r),zr Tryz.prog 67 [ref x.1,rep x.2] (tup [rep r.1,rep r.2])
 | 0,x,r,h=>by simp[jW]at h
 | k+1,x,r,h=>zs2 (zlN k) h
theorem zs1 {v1:yr}{i1:Int}{r:(Box×Int)}  (h:JZ v1 i1=some r):zr Tryz.prog 67 [ref v1,rep i1] (tup [rep r.1,rep r.2]):=
 let ⟨k,hk⟩:=zqG h
 zlN k (v1,i1) r hk
theorem zeE {d1:Doc}{r:Int}  (h:jE d1=some r):zr Tryz.prog 18 [rep d1] (rep r):=by
 unfold jE at h
 refine zr.i Tryz.func18 o Tryz.ntmps18 o (fun F=>(.sn mx (.c (.box .none (.s o)) (.asi (.nil (.seq (.sn mx (.fa qt jp o (.ld qU o (.ln y4 o (.c (.gt .none (.s o) .i) (.mv o (.fg jV zcd o o o (.lg Ji o o o (.c (.len (.at o o) jx (.tmp o id)) (.c (.gt (.at o o) (.tmp o id) .i) (.po o o (.nil (.cb o h (fun _ h=>?_) fun _ h=>?_)))))))))))))))))))
 ·
  refine .sn mx (.asi (.nil (.ret (.thenRet ?_))))
  obtain rfl:=za h
  exact zb.rt Tryz.results18 o
 ·
  obtain⟨known1,hv2,h⟩:=zv h
  refine .skip (.then (.sr [([],[25]),([25],[3,25])] mx (.cW (.makeMap (K:=Str) (V:=Bool) o) (.cW (.passRow o (.tmp o)) (.nil (.reB (t:=3) o (congrArg zW hv2) (.nameMap (t:=3) (g:=5001) o o o (fun s5001=>(.seq (.sn mx (.fa qt jp o (.ld qU o (.ln y4 o (.mvi (.nil ?_)))))))))))))))
  obtain⟨o_3,h,hK3⟩:=yN h
  refine .thenJ (ι:=(GMap Str Bool)) (fun j_3=>[]) (fun j_3=>[(5001,some (zd.at s5001 (zW j_3)))]) (fun s=>o_3=Res.nx s) (.k2 1 3 o o .nil) zi.nil ?_ (fun j_3 hj3=>?_)
  ·
   refine .block (.rforEL h (fun p4_=>[(29,⟨True,rep p4_.1⟩)]) (fun p4_=>[(5001,some (zd.at s5001 (zW p4_.2)))]) (.k 29 o .nil) (.k 5001 o .nil) (.k4 1 3 27 28 o o o o .nil) zi.nil (fun p4_ o_4 h hD4=>(.sn mx (.lt o o (.nil (.seq (.cb o h (fun _ h=>?_) fun _ h=>?_)))))))
   ·
    refine .skip (.then (.seq ?_))
    obtain⟨o_6,h,hK6⟩:=qg h
    unfold za1 at h
    refine .thenJ (ι:=(GMap Str Bool)) (fun j_6=>[]) (fun j_6=>[(5001,some (zd.at s5001 (zW j_6)))]) (fun s=>o_6=Res.nx s) (.k4 1 3 27 28 o o o o (.k 29 o .nil)) zi.nil ?_ (fun j_6 hj6=>?_)
    ·
     obtain⟨hn7,h⟩:=zn h
     obtain⟨v1,hv8,h⟩:=zv h
     obtain⟨e1,hv9,h⟩:=bind_some h
     refine .block (.sr [oo,oo,([],[5]),([5],[5])] mx (.ixA y4 yd o o hn7 (.rlA hv8 yd o (.al vC o (.st yd o o o (.nil (.freeze (t:=5) o o (.k 5001 o .nil) o (.seq (.sr [oo,oo,oo,oo,([5001],[]),oo,oo] mx (.ldA yd o (.mvA o (.faA Qh QF o (.ldA ty9 o (.cA (.lookupO (q:=5001) .none zeq zo4 zlK (.told (.s o) o) (.s o)) (.cA (.call .none (zsZ hv9) (.cons (.s o) (.cons (.s o) .nil))) (.asnA o (.nil (.sn mx (.mv o (.nei o (.nil (.cb o h (fun _ h=>?_) fun _ h=>?_))))))))))))))))))))))
     ·
      refine .sn mx (.mv o (.asn o (.nil (.ret (.thenRet (.blkRet (.thenRet (.thenRet (.blkRet (.thenRet ?_))))))))))
      replace h:=yM hK6 (za h)
      replace h:=hD4 _ (za h)
      replace h:=yk hK3 (za h)
      obtain rfl:=za h
      exact zb.rt Tryz.results18 o
     ·
      exact .skip (.then (.rg [oo,oo,oo,([5001],[5001])] mx (.mvA o (.faA Qh QF o (.ldA ty9 o (.cN (.mapUpdate (q:=5001) zeq (.s o) o (.s o) .bool) (.nil (.blkNormal (zb.j _ (za h))))))))))
    ·
     have h:=qh hK6 hj6
     exact .rn mx (.adi o (.mv o (.nil (zb.ag (za h)))))
   ·
    refine .exit (.thenExit (.thenExit (.blkExit ?_)))
    replace h:=hD4 _ (za h)
    exact zb.j _ (za h)
  ·
   have h:=yO hK3 hj3
   obtain⟨v2,hv11,h⟩:=bind_some h
   obtain⟨p1,hv12,h⟩:=bind_some h
   obtain⟨e2,hv13,h⟩:=bind_some h
   refine .sn mx (.ld yX o (.c (.isRef hv12 (.call .none (zs0 hv11) (.cons (.s o) .nil))) (.asn o (.nil (.seq (.sn mx (.mv o (.c (.call .none (zs5 hv13) (.cons (.s o) .nil)) (.asn o (.nil (.sn mx (.mv o (.nei o (.nil (.cb o h (fun _ h=>?_) fun _ h=>?_)))))))))))))))
   ·
    refine .sn mx (.mv o (.asn o (.nil (.ret (.thenRet ?_)))))
    obtain rfl:=za h
    exact zb.rt Tryz.results18 o
   ·
    refine .skip (.then (.seq (.sn mx (.fa jV zcd o (.ld Ji o (.ln jx o (.mvi (.nil ?_))))))))
    obtain⟨o_15,h,hK15⟩:=yN h
    refine .thenJ (ι:=(GMap Str Bool)) (fun j_15=>[]) (fun j_15=>[(5001,some (zd.at s5001 (zW j_15)))]) (fun s=>o_15=Res.nx s) (.k2 1 3 o o (.k 7 o .nil)) zi.nil ?_ (fun j_15 hj15=>?_)
    ·
     refine .block (.rforEL h (fun p16_=>[(56,⟨True,rep p16_.1⟩)]) (fun p16_=>[(5001,some (zd.at s5001 (zW p16_.2)))]) (.k 56 o .nil) (.k 5001 o .nil) (.k4 1 3 7 54 o o o o (.k 55 o .nil)) zi.nil (fun p16_ o_16 h hD16=>(.sn mx (.lt o o (.nil (.seq (.cb o h (fun _ h=>?_) fun _ h=>?_)))))))
     ·
      refine .skip (.then (.seq ?_))
      obtain⟨o_18,h,hK18⟩:=qg h
      unfold za2 at h
      refine .thenJ (ι:=(GMap Str Bool)) (fun j_18=>[]) (fun j_18=>[(5001,some (zd.at s5001 (zW j_18)))]) (fun s=>o_18=Res.nx s) (.k4 1 3 7 54 o o o o (.k2 55 56 o o .nil)) zi.nil ?_ (fun j_18 hj18=>?_)
      ·
       obtain⟨hn19,h⟩:=zn h
       obtain⟨v3,hv20,h⟩:=zv h
       obtain⟨e3,hv21,h⟩:=bind_some h
       refine .block (.sr [oo,oo,([],[10]),([10],[10])] mx (.ixA jx yP o o hn19 (.rlA hv20 yP o (.al zbB o (.st yP o o o (.nil (.freeze (t:=10) o o (.k 5001 o .nil) o (.seq (.sr [oo,oo,oo,oo,oo,([5001],[]),oo,oo] mx (.mvA o (.ldA yP o (.mvA o (.faA JF zaN o (.ldA ty9 o (.cA (.lookupO (q:=5001) .none zeq zo4 zlK (.told (.s o) o) (.s o)) (.cA (.call .none (zs3 hv21) (.cons (.s o) (.cons (.s o) (.cons (.s o) .nil)))) (.asnA o (.nil (.sn mx (.mv o (.nei o (.nil (.cb o h (fun _ h=>?_) fun _ h=>?_)))))))))))))))))))))))
       ·
        refine .sn mx (.mv o (.asn o (.nil (.ret (.thenRet (.blkRet (.thenRet (.thenRet (.blkRet (.thenRet ?_))))))))))
        replace h:=yM hK18 (za h)
        replace h:=hD16 _ (za h)
        replace h:=yk hK15 (za h)
        obtain rfl:=za h
        exact zb.rt Tryz.results18 o
       ·
        exact .skip (.then (.rg [oo,oo,oo,([5001],[5001])] mx (.mvA o (.faA JF zaN o (.ldA ty9 o (.cN (.mapUpdate (q:=5001) zeq (.s o) o (.s o) .bool) (.nil (.blkNormal (zb.j _ (za h))))))))))
      ·
       have h:=qh hK18 hj18
       exact .rn mx (.adi o (.mv o (.nil (zb.ag (za h)))))
     ·
      refine .exit (.thenExit (.thenExit (.blkExit ?_)))
      replace h:=hD16 _ (za h)
      exact zb.j _ (za h)
    ·
     have h:=yO hK15 hj15
     refine .seq (.sn mx (.fa qt jp o (.ld qU o (.ln y4 o (.mvi (.nil ?_))))))
     obtain⟨o_23,h,hK23⟩:=yN h
     refine .tJ (fun s=>o_23=Res.nx s) Sub.nil zi.nil ?_ (fun j_23 hj23=>?_)
     ·
      refine .block (.rforEL h (fun p24_=>[(77,⟨True,rep p24_.1⟩)]) (fun p24_=>[]) (.k 77 o .nil) zi.nil (.k2 7 76 o o .nil) zi.nil (fun p24_ o_24 h hD24=>(.sn mx (.lt o o (.nil (.seq (.cb o h (fun _ h=>?_) fun _ h=>?_)))))))
      ·
       refine .skip (.then (.seq ?_))
       obtain⟨o_26,h,hK26⟩:=qg h
       unfold zcu at h
       refine .tJ (fun s=>o_26=Res.nx s) (.k2 7 76 o o (.k 77 o .nil)) zi.nil ?_ (fun j_26 hj26=>?_)
       ·
        obtain⟨r1,hv27,h⟩:=bind_some h
        refine .block (.sn mx (.mv o (.asn o (.nil (.sr [oo,oo,oo,oo,oo,oo,([],[13]),([13],[13]),oo] mx (.mvA o (.mvA o (.cA (.call .none (zs1 hv27) (.cons (.s o) (.cons (.s o) .nil))) (.mvA o (.exA o o (.exA o o (.al QU o (.st yi o o o (.asnA o (.nil (.sn mx (.mv o (.nei o (.nil (.cb o h (fun _ h=>?_) fun _ h=>?_))))))))))))))))))))
        ·
         refine .sn mx (.mv o (.asn o (.nil (.ret (.blkRet (.thenRet (.thenRet (.blkRet (.thenRet ?_)))))))))
         replace h:=yM hK26 (za h)
         replace h:=hD24 _ (za h)
         replace h:=yk hK23 (za h)
         obtain rfl:=za h
         exact zb.rt Tryz.results18 o
        ·
         exact .skip (.blkNormal (zb.j _ (za h)))
       ·
        have h:=qh hK26 hj26
        exact .rn mx (.adi o (.mv o (.nil (zb.ag (za h)))))
      ·
       refine .exit (.thenExit (.thenExit (.blkExit ?_)))
       replace h:=hD24 _ (za h)
       exact zb.j _ (za h)
     ·
      have h:=yO hK23 hj23
      refine .sn mx (.asi (.nil (.ret ?_)))
      obtain rfl:=za h
      exact zb.rt Tryz.results18 o
theorem zjf {s1:Str}{r:Bool}  (h:zap s1=some r):zr Tryz.prog 68 [rep s1] (rep r):=by
 unfold zap at h
 obtain⟨hn1,h⟩:=zn h
 obtain⟨hn2,h⟩:=zn h
 obtain⟨r1,hv3,h⟩:=bind_some h
 refine zr.i Tryz.func68 o Tryz.ntmps68 o (fun F=>(.sn mx (.asb (.nil (.sn mx (.mv o (.c (.neS .none (z6 Tryz.underlying9) (.s o) (.str (l:=[]) (by decide))) (.mv o (.mg o o o (.c (.lenStr (.at o o) Tryz.underlying9 (.tmp o id)) (.c (.le (.at o o) (.tmp o id) .i) (.pa o o (.mv o (.mg o o o (.c (.indexStr (.at o o) Tryz.underlying9 (.tmp o id) .i (fun hg=>hn1 hg.2)) (.c (.kgeq (.at o o) (.tmp o id) .ki) (.pa o o (.mv o (.mg o o o (.c (.indexStr (.at o o) Tryz.underlying9 (.tmp o id) .i (fun hg=>hn2 hg.2)) (.c (.kleq (.at o o) (.tmp o id) .ki) (.pa o o (.mv o (.mg o o o (.c (.callIf (.at o o) zdY (fun hg=>zhZ ((fun hg=>vj hv3 (hg.2)) hg)) (.cons (.tmp o id) (.cons (.str (l:=[97,98,99,100,101,102,103,104,105,106,107,108,109,110,111,112,113,114,115,116,117,118,119,120,121,122,48,49,50,51,52,53,54,55,56,57,45]) (by decide)) .nil)) (fun h=>h)) (.c (.eqS (.at o o) (z6 Tryz.underlying9) (.tmp o id) (.str (l:=[]) (by decide))) (.pa o o (.asn o (.nil (.ret ?_))))))))))))))))))))))))))))))
 obtain rfl:=za h
 exact zb.rt Tryz.results68 o
theorem zpS {s1:Str}{r:Bool}  (h:zbM s1=some r):zr Tryz.prog 69 [rep s1] (rep r):=by
 unfold zbM at h
 refine zr.i Tryz.func69 o Tryz.ntmps69 o (fun F=>(.sn mx (.asb (.nil (.seq (.sn mx (.mv o (.c (.eqS .none (z6 Tryz.underlying9) (.s o) (.str (l:=[]) (by decide))) (.mv o (.mg o o o (.c (.lenStr (.at o o) Tryz.underlying9 (.tmp o id)) (.c (.gt (.at o o) (.tmp o id) .i) (.po o o (.nil (.cb o h (fun _ h=>?_) fun _ h=>?_)))))))))))))))
 ·
  refine .sn mx (.asb (.nil (.ret (.thenRet ?_))))
  obtain rfl:=za h
  exact zb.rt Tryz.results69 o
 ·
  refine .skip (.then (.seq (.sn mx (.mv o (.c (.lenStr .none Tryz.underlying9 (.s o)) (.mvi (.nil ?_)))))))
  obtain⟨o_2,h,hK2⟩:=yN h
  refine .tJ (fun s=>o_2=Res.nx s) Sub.nil zi.nil ?_ (fun j_2 hj2=>?_)
  ·
   refine .block (.rforEL h (fun p3_=>[(13,⟨True,rep p3_.1⟩)]) (fun p3_=>[]) (.k 13 o .nil) zi.nil (.k2 0 12 o o .nil) zi.nil (fun p3_ o_3 h hD3=>(.sn mx (.lt o o (.nil (.seq (.cb o h (fun _ h=>?_) fun _ h=>?_)))))))
   ·
    refine .skip (.then (.seq ?_))
    obtain⟨o_5,h,hK5⟩:=qg h
    unfold zfV at h
    refine .tJ (fun s=>o_5=Res.nx s) (.k2 0 12 o o (.k 13 o .nil)) zi.nil ?_ (fun j_5 hj5=>?_)
    ·
     obtain⟨hn6,h⟩:=zn h
     obtain⟨hn7,h⟩:=zn h
     obtain⟨hn8,h⟩:=zn h
     refine .block (.sn mx (.mv o (.asn o (.nil (.sn mx (.mv o (.mv o (.c (.indexStr .none Tryz.underlying9 (.s o) (.s o) (fun _=>hn6)) (.c (.klss .none (.s o) .ki) (.mv o (.mg o o o (.mg o o o (.c (.indexStr (.at o o) Tryz.underlying9 (.tmp o id) (.tmp o id) (fun hg=>hn7 hg.2)) (.c (.kgtr (.at o o) (.tmp o id) .ki) (.po o o (.mv o (.mg o o o (.mg o o o (.c (.indexStr (.at o o) Tryz.underlying9 (.tmp o id) (.tmp o id) (fun hg=>hn8 hg.2)) (.c (.keql (.at o o) (.tmp o id) .ki) (.po o o (.nil (.cb o h (fun _ h=>?_) fun _ h=>?_)))))))))))))))))))))))
     ·
      refine .sn mx (.asb (.nil (.ret (.blkRet (.thenRet (.thenRet (.blkRet (.thenRet ?_))))))))
      replace h:=yM hK5 (za h)
      replace h:=hD3 _ (za h)
      replace h:=yk hK2 (za h)
      obtain rfl:=za h
      exact zb.rt Tryz.results69 o
     ·
      exact .skip (.blkNormal (zb.j _ (za h)))
    ·
     have h:=qh hK5 hj5
     exact .rn mx (.adi o (.mv o (.nil (zb.ag (za h)))))
   ·
    refine .exit (.thenExit (.thenExit (.blkExit ?_)))
    replace h:=hD3 _ (za h)
    exact zb.j _ (za h)
  ·
   have h:=yO hK2 hj2
   refine .sn mx (.asb (.nil (.ret ?_)))
   obtain rfl:=za h
   exact zb.rt Tryz.results69 o
theorem zfT {l1:(List zz)}{r:Int}  (h:Jv l1=some r):zr Tryz.prog 19 [rep l1] (rep r):=by
 unfold Jv at h
 refine zr.i Tryz.func19 o Tryz.ntmps19 o (fun F=>(.sn mx (.asi (.nil (.seq (.sn mx (.mv o (.ln j8 o (.c (.gt .none (.s o) .i) (.nil (.cb o h (fun _ h=>?_) fun _ h=>?_)))))))))))
 ·
  refine .sn mx (.asi (.nil (.ret (.thenRet ?_))))
  obtain rfl:=za h
  exact zb.rt Tryz.results19 o
 ·
  refine .skip (.then (.seq (.sn mx (.mv o (.ln j8 o (.mvi (.nil ?_)))))))
  obtain⟨o_2,h,hK2⟩:=yN h
  refine .tJ (fun s=>o_2=Res.nx s) Sub.nil zi.nil ?_ (fun j_2 hj2=>?_)
  ·
   refine .block (.rforEL h (fun p3_=>[(10,⟨True,rep p3_.1⟩)]) (fun p3_=>[]) (.k 10 o .nil) zi.nil (.k2 8 9 o o .nil) zi.nil (fun p3_ o_3 h hD3=>(.sn mx (.lt o o (.nil (.seq (.cb o h (fun _ h=>?_) fun _ h=>?_)))))))
   ·
    refine .skip (.then (.seq ?_))
    obtain⟨o_5,h,hK5⟩:=qg h
    unfold zfS at h
    refine .tJ (fun s=>o_5=Res.nx s) (.k2 8 9 o o (.k 10 o .nil)) zi.nil ?_ (fun j_5 hj5=>?_)
    ·
     obtain⟨hn6,h⟩:=zn h
     obtain⟨v1,hv7,h⟩:=zv h
     obtain⟨r1,hv8,h⟩:=bind_some h
     refine .block (.sr [oo,oo,([],[4]),([4],[4])] mx (.ixA j8 qf o o hn6 (.rlA hv7 qf o (.al zc4 o (.st qf o o o (.nil (.freeze (t:=4) o o zi.nil o (.block (.seq (.sn mx (.fa zb1 zce o (.ld ty9 o (.c (.neS .none (z6 Tryz.underlying9) (.s o) (.str (l:=[]) (by decide))) (.mv o (.fg zb1 zce o o o (.lg ty9 o o o (.c (.callIf (.at o o) zqZ (fun hg=>zjf ((fun hg=>vj hv8 (hg.2)) hg)) (.cons (.tmp o id) .nil) (fun h=>h)) ?_)))))))))))))))))
     obtain⟨v2,hv9,h⟩:=zv h
     refine .c (.not (.at o o) (.tmp o id)) (.pa o o (.ra hv9 o (.nil ?_)))
     obtain⟨j_10,h,hK10⟩:=bind_some h
     refine .thenJ (ι:=Bool) (fun j_10=>[(14,⟨True,rep j_10⟩)]) (fun j_10=>[]) (fun s=>j_10=s) (.k4 4 8 9 10 o o o o .nil) zi.nil ?_ (fun j_10' hj10=>?_)
     ·
      refine .cb o h (fun _ h=>?_) fun _ h=>?_
      ·
       exact .skip (zb.j _ (za h))
      ·
       obtain⟨r2,hv12,h⟩:=bind_some h
       obtain⟨v3,hv13,h⟩:=zv h
       exact .rn mx (.fa zjW zgq o (.ld ty9 o (.c (.call .none (zjf hv12) (.cons (.s o) .nil)) (.c (.not .none (.s o)) (.ra hv13 o (.nil (zb.j _ (za h))))))))
     ·
      subst hj10;have h:=hK10;clear hK10
      refine .cb o h (fun _ h=>?_) fun _ h=>?_
      ·
       refine .sn mx (.asi (.nil (.ret (.blkRet (.blkRet (.thenRet (.thenRet (.blkRet (.thenRet ?_)))))))))
       replace h:=yM hK5 (za h)
       replace h:=hD3 _ (za h)
       replace h:=yk hK2 (za h)
       obtain rfl:=za h
       exact zb.rt Tryz.results19 o
      ·
       obtain⟨r3,hv15,h⟩:=bind_some h
       refine .sn mx (.fa zjX zgr o (.ld ty9 o (.c (.call .none (zpS hv15) (.cons (.s o) .nil)) (.c (.not .none (.s o)) (.asn o (.nil (.cb o h (fun _ h=>?_) fun _ h=>?_)))))))
       ·
        refine .sn mx (.asi (.nil (.ret (.blkRet (.blkRet (.thenRet (.thenRet (.blkRet (.thenRet ?_)))))))))
        replace h:=yM hK5 (za h)
        replace h:=hD3 _ (za h)
        replace h:=yk hK2 (za h)
        obtain rfl:=za h
        exact zb.rt Tryz.results19 o
       ·
        exact .skip (.blkNormal (.blkNormal (zb.j _ (za h))))
    ·
     have h:=qh hK5 hj5
     exact .rn mx (.adi o (.mv o (.nil (zb.ag (za h)))))
   ·
    refine .exit (.thenExit (.thenExit (.blkExit ?_)))
    replace h:=hD3 _ (za h)
    exact zb.j _ (za h)
  ·
   have h:=yO hK2 hj2
   refine .sn mx (.asi (.nil (.ret ?_)))
   obtain rfl:=za h
   exact zb.rt Tryz.results19 o
theorem zpU {r1:zz}{r:Str}  (h:zbO r1=some r):zr Tryz.prog 21 [rep r1] (rep r):=by
 unfold zbO at h
 refine zr.i Tryz.func21 o Tryz.ntmps21 o (fun F=>(.sn mx (.c (.box .none (.s o)) (.c (.assign .none (.str (l:=[]) (by decide))) (.nil (.sn mx (.fa zb1 zce o (.ld ty9 o (.asn o (.nil (.seq (.sn mx (.mv o (.c (.eqS .none (z6 Tryz.underlying9) (.s o) (.str (l:=[]) (by decide))) (.nil ?_)))))))))))))))
 obtain⟨j_1,h,hK1⟩:=bind_some h
 refine .thenJ (ι:=Str) (fun j_1=>[(3,⟨True,rep j_1⟩)]) (fun j_1=>[]) (fun s=>j_1=s) (.k 1 o .nil) zi.nil ?_ (fun j_1' hj1=>?_)
 ·
  refine .cb o h (fun _ h=>?_) fun _ h=>?_
  ·
   obtain⟨class1,hv3,h⟩:=zv h
   exact .rn mx (.c (.re hv3 (.assign .none (.str (l:=[42]) (by decide)))) (.nil (zb.j _ (za h))))
  ·
   exact .skip (zb.j _ (za h))
 ·
  subst hj1;have h:=hK1;clear hK1
  obtain⟨hn4,h⟩:=zn h
  obtain⟨hn5,h⟩:=zn h
  obtain⟨hn6,h⟩:=zn h
  obtain⟨hn7,h⟩:=zn h
  obtain⟨hn8,h⟩:=zn h
  refine .sn mx (.mv o (.c (.addStr .none (.str (l:=[115,116,121,108,101,32]) (by decide)) (.s o) (fun _=>hn4)) (.c (.addStr .none (.s o) (.str (l:=[32]) (by decide)) (fun _=>hn5)) (.fa zjW zgq o (.ld ty9 o (.c (.addStr .none (.s o) (.s o) (fun _=>hn6)) (.c (.addStr .none (.s o) (.str (l:=[32]) (by decide)) (fun _=>hn7)) (.fa zjX zgr o (.ld ty9 o (.c (.addStr .none (.s o) (.s o) (fun _=>hn8)) (.asn o (.nil (.ret ?_)))))))))))))
  obtain rfl:=za h
  exact zb.rt Tryz.results21 o
theorem zdA  {r:(List Str)}  (h:YM=some r):zr Tryz.prog 31 [] (rep r):=by
 unfold YM at h
 refine zr.i Tryz.func31 o Tryz.ntmps31 o (fun F=>(.sn mx (.c (.assign .none (.const (x:=([]:(List Str))) (fun M w=>⟨_,⟨none,0,rfl,Nat.le_refl _,by decide,rfl⟩,rfl⟩))) (.nil (.sn mx (.c (.buildSlice (xs:=[_,_,_,_,_,_,_]) .none zX ty9 hz9 (.cons (.str (l:=[]) (by decide)) (.cons (.str (l:=[98,111,120]) (by decide)) (.cons (.str (l:=[114,111,117,110,100]) (by decide)) (.cons (.str (l:=[111,118,97,108]) (by decide)) (.cons (.str (l:=[100,105,97,109,111,110,100]) (by decide)) (.cons (.str (l:=[110,111,116,101]) (by decide)) (.cons (.str (l:=[103,114,111,117,112]) (by decide)) .nil))))))) o (by decide)) (.asn o (.nil (.ret ?_)))))))))
 obtain rfl:=za h
 exact zb.rt Tryz.results31 o
theorem zdC {l1:(List Int)}{r:Str}  (h:Qe l1=some r):zr Tryz.prog 33 [rep l1] (rep r):=by
 unfold Qe at h
 refine zr.i Tryz.func33 o Tryz.ntmps33 o (fun F=>(.sn mx (.c (.assign .none (.str (l:=[]) (by decide))) (.nil (.sr [([],[3])] mx (.cW (.nilRow (T:=9) (α:=Str) o) (.nil (.nameRow (t:=3) (g:=5001) o o o (fun s5001=>(.seq (.sn mx (.mv o (.ln qS o (.mvi (.nil ?_)))))))))))))))
 obtain⟨j_1,h,hK1⟩:=bind_some h
 refine .thenJ (ι:=(List Str)) (fun j_1=>[]) (fun j_1=>[(3,some (zp 9 j_1))]) (fun s=>j_1=s) Sub.nil zi.nil ?_ (fun j_1' hj1=>?_)
 ·
  refine .block (.anon (t:=3) (g:=5001) o o trivial o (.rforL h (fun p2_=>[(8,⟨True,rep p2_.1⟩)]) (fun p2_=>[(3,some (zp 9 p2_.2))]) (.k 8 o .nil) (.k 3 o .nil) (.k2 6 7 o o .nil) zi.nil (fun p2_ o_2 h hD2=>(.nameRow (t:=3) (g:=5002) o o o (fun s5002=>(.sn mx (.lt o o (.nil (.seq (.cb o h (fun _ h=>?_) fun _ h=>?_))))))))))
  ·
   refine .skip (.then (.seq ?_))
   obtain⟨j_4,h,hK4⟩:=bind_some h
   unfold zdB at h
   refine .thenJ (ι:=(List Str)) (fun j_4=>[]) (fun j_4=>[(3,some (zp 9 j_4))]) (fun s=>j_4=s) (.k2 6 7 o o (.k 8 o .nil)) zi.nil ?_ (fun j_4' hj4=>?_)
   ·
    obtain⟨hn5,h⟩:=zn h
    obtain⟨r1,hv6,h⟩:=bind_some h
    obtain⟨hn7,h⟩:=zn h
    exact .block (.sn mx (.ix qS ty3 o o hn5 (.ld ty3 o (.asn o (.nil (.rg [oo,oo,oo,oo,([5002],[16,5002]),([16],[3,16])] mx (.mvA o (.mvA o (.cA (.call .none (zcY hv6) (.cons (.s o) .nil)) (.cA (.buildSlice (xs:=[_]) .none zX ty9 hz9 (.cons (.s o) .nil) o (by decide)) (.cW (.append (k:=5002) zmu o (.told (.s o) o) (.s o) hn7) (.consWD (.passRow o (.tmp o)) o o (.nil (.blkNormal (zb.j _ (za h))))))))))))))))
   ·
    subst hj4;have h:=hK4;clear hK4
    exact .nameRow (t:=3) (g:=5003) o o o (fun s5003=>(.rn mx (.adi o (.mv o (.nil (.anon (t:=3) (g:=5003) o o trivial o (zb.ag (za h))))))))
  ·
   refine .exit (.thenExit (.thenExit (.blkExit (.anon (t:=3) (g:=5002) o o trivial o ?_))))
   replace h:=hD2 _ (za h)
   exact zb.j _ (za h)
 ·
  subst hj1;have h:=hK1;clear hK1
  obtain⟨r2,hv8,h⟩:=bind_some h
  refine .freezeRowA (t:=3) o o zi.nil o (.sn mx (.mv o (.c (.call .none (zvl hv8) (.cons (.s o) (.cons (.str (l:=[32]) (by decide)) .nil))) (.asn o (.nil (.ret ?_))))))
  obtain rfl:=za h
  exact zb.rt Tryz.results33 o
theorem zjk {class1:Str}{parent1:Str}{locked1:Bool}{text1:Str}{r:Str}  (h:zau class1 parent1 locked1 text1=some r):zr Tryz.prog 71 [rep class1,rep parent1,rep locked1,rep text1] (rep r):=by
 unfold zau at h
 refine zr.i Tryz.func71 o Tryz.ntmps71 o (fun F=>(.sn mx (.c (.assign .none (.str (l:=[]) (by decide))) (.nil (.sn mx (.c (.assign .none (.str (l:=[]) (by decide))) (.nil (.seq (.sn mx (.mv o (.c (.neS .none (z6 Tryz.underlying9) (.s o) (.str (l:=[]) (by decide))) (.nil ?_))))))))))))
 obtain⟨j_1,h,hK1⟩:=bind_some h
 refine .thenJ (ι:=Str) (fun j_1=>[(9,⟨True,rep j_1⟩)]) (fun j_1=>[]) (fun s=>j_1=s) (.k2 1 2 o o (.k 3 o .nil)) zi.nil ?_ (fun j_1' hj1=>?_)
 ·
  refine .cb o h (fun _ h=>?_) fun _ h=>?_
  ·
   obtain⟨hn3,h⟩:=zn h
   obtain⟨hn4,h⟩:=zn h
   obtain⟨s1,hv5,h⟩:=zv h
   exact .rn mx (.mv o (.mv o (.c (.addStr .none (.str (l:=[32,99,108,97,115,115,32]) (by decide)) (.s o) (fun _=>hn3)) (.c (.addStr .none (.s o) (.s o) (fun _=>hn4)) (.ra hv5 o (.nil (zb.j _ (za h))))))))
  ·
   exact .skip (zb.j _ (za h))
 ·
  subst hj1;have h:=hK1;clear hK1
  refine .seq (.sn mx (.mv o (.c (.neS .none (z6 Tryz.underlying9) (.s o) (.str (l:=[]) (by decide))) (.nil ?_))))
  obtain⟨j_6,h,hK6⟩:=bind_some h
  refine .thenJ (ι:=Str) (fun j_6=>[(9,⟨True,rep j_6⟩)]) (fun j_6=>[]) (fun s=>j_6=s) (.k2 2 3 o o .nil) zi.nil ?_ (fun j_6' hj6=>?_)
  ·
   refine .cb o h (fun _ h=>?_) fun _ h=>?_
   ·
    obtain⟨hn8,h⟩:=zn h
    obtain⟨hn9,h⟩:=zn h
    obtain⟨s2,hv10,h⟩:=zv h
    exact .rn mx (.mv o (.mv o (.c (.addStr .none (.str (l:=[32,105,110,32]) (by decide)) (.s o) (fun _=>hn8)) (.c (.addStr .none (.s o) (.s o) (fun _=>hn9)) (.ra hv10 o (.nil (zb.j _ (za h))))))))
   ·
    exact .skip (zb.j _ (za h))
  ·
   subst hj6;have h:=hK6;clear hK6
   refine .seq (.sn mx (.mv o (.nil ?_)))
   obtain⟨j_11,h,hK11⟩:=bind_some h
   refine .thenJ (ι:=Str) (fun j_11=>[(9,⟨True,rep j_11⟩)]) (fun j_11=>[]) (fun s=>j_11=s) (.k 3 o .nil) zi.nil ?_ (fun j_11' hj11=>?_)
   ·
    refine .cb o h (fun _ h=>?_) fun _ h=>?_
    ·
     obtain⟨hn13,h⟩:=zn h
     obtain⟨s3,hv14,h⟩:=zv h
     exact .rn mx (.mv o (.c (.addStr .none (.s o) (.str (l:=[32,108,111,99,107,101,100]) (by decide)) (fun _=>hn13)) (.ra hv14 o (.nil (zb.j _ (za h))))))
    ·
     exact .skip (zb.j _ (za h))
   ·
    subst hj11;have h:=hK11;clear hK11
    refine .seq (.sn mx (.mv o (.c (.neS .none (z6 Tryz.underlying9) (.s o) (.str (l:=[]) (by decide))) (.nil ?_))))
    obtain⟨j_15,h,hK15⟩:=bind_some h
    refine .thenJ (ι:=Str) (fun j_15=>[(9,⟨True,rep j_15⟩)]) (fun j_15=>[]) (fun s=>j_15=s) Sub.nil zi.nil ?_ (fun j_15' hj15=>?_)
    ·
     refine .cb o h (fun _ h=>?_) fun _ h=>?_
     ·
      obtain⟨r1,hv17,h⟩:=bind_some h
      obtain⟨hn18,h⟩:=zn h
      obtain⟨hn19,h⟩:=zn h
      obtain⟨s4,hv20,h⟩:=zv h
      exact .rn mx (.mv o (.mv o (.c (.call .none (zqc hv17) (.cons (.s o) .nil)) (.c (.addStr .none (.str (l:=[32]) (by decide)) (.s o) (fun _=>hn18)) (.c (.addStr .none (.s o) (.s o) (fun _=>hn19)) (.ra hv20 o (.nil (zb.j _ (za h)))))))))
     ·
      exact .skip (zb.j _ (za h))
    ·
     subst hj15;have h:=hK15;clear hK15
     refine .sn mx (.mv o (.asn o (.nil (.ret ?_))))
     obtain rfl:=za h
     exact zb.rt Tryz.results71 o
theorem zpT {n1:zl}{r:Str}  (h:zbN n1=some r):zr Tryz.prog 22 [rep n1] (rep r):=by
 unfold zbN at h
 obtain⟨r1,hv1,h⟩:=bind_some h
 obtain⟨hn2,h⟩:=zn h
 obtain⟨hn3,h⟩:=zn h
 obtain⟨hn4,h⟩:=zn h
 obtain⟨s1,hv5,h⟩:=zv h
 refine zr.i Tryz.func22 o Tryz.ntmps22 o (fun F=>(.sn mx (.c (.box .none (.s o)) (.c (.assign .none (.str (l:=[]) (by decide))) (.nil (.sn mx (.c (.call .none (zdA hv1) .nil) (.fa jo jC o (.ld ty3 o (.ix zX ty9 o o hn2 (.ld ty9 o (.c (.addStr .none (.s o) (.str (l:=[32]) (by decide)) (fun _=>hn3)) (.fa Qh QF o (.ld ty9 o (.c (.addStr .none (.s o) (.s o) (fun _=>hn4)) (.ra hv5 o (.nil (.seq (.sn mx (.fa jo jC o (.ld ty3 o (.nei o (.nil ?_)))))))))))))))))))))))
 obtain⟨j_6,h,hK6⟩:=bind_some h
 refine .thenJ (ι:=Str) (fun j_6=>[(3,⟨True,rep j_6⟩)]) (fun j_6=>[]) (fun s=>j_6=s) (.k 1 o .nil) zi.nil ?_ (fun j_6' hj6=>?_)
 ·
  refine .cb o h (fun _ h=>?_) fun _ h=>?_
  ·
   obtain⟨r2,hv8,h⟩:=bind_some h
   obtain⟨hn9,h⟩:=zn h
   obtain⟨hn10,h⟩:=zn h
   obtain⟨s2,hv11,h⟩:=zv h
   exact .rn mx (.mv o (.fa vK Qi o (.fa YP YW o (.ld ty3 o (.fa vK Qi o (.fa YQ YX o (.ld ty3 o (.fa vK Qi o (.fa Ya Yf o (.ld ty3 o (.fa vK Qi o (.fa Yb Yg o (.ld ty3 o (.c (.buildSlice (xs:=[_,_,_,_]) .none qS ty3 hz3 (.cons (.s o) (.cons (.s o) (.cons (.s o) (.cons (.s o) .nil)))) o (by decide)) (.c (.call .none (zdC hv8) (.cons (.s o) .nil)) (.c (.addStr .none (.str (l:=[32]) (by decide)) (.s o) (fun _=>hn9)) (.c (.addStr .none (.s o) (.s o) (fun _=>hn10)) (.ra hv11 o (.nil (zb.j _ (za h)))))))))))))))))))))
  ·
   exact .skip (zb.j _ (za h))
 ·
  subst hj6;have h:=hK6;clear hK6
  obtain⟨r3,hv12,h⟩:=bind_some h
  obtain⟨hn13,h⟩:=zn h
  refine .sn mx (.mv o (.fa zb2 zd3 o (.ld ty9 o (.fa vL Qj o (.ld ty9 o (.fa zgg zkp o (.ld ty4 o (.fa zdR zgs o (.ld ty9 o (.c (.call .none (zjk hv12) (.cons (.s o) (.cons (.s o) (.cons (.s o) (.cons (.s o) .nil))))) (.c (.addStr .none (.s o) (.s o) (fun _=>hn13)) (.asn o (.nil (.ret ?_))))))))))))))
  obtain rfl:=za h
  exact zb.rt Tryz.results22 o
theorem zjx  {r:(List Str)}  (h:zaB=some r):zr Tryz.prog 82 [] (rep r):=by
 unfold zaB at h
 refine zr.i Tryz.func82 o Tryz.ntmps82 o (fun F=>(.sn mx (.c (.assign .none (.const (x:=([]:(List Str))) (fun M w=>⟨_,⟨none,0,rfl,Nat.le_refl _,by decide,rfl⟩,rfl⟩))) (.nil (.sn mx (.c (.buildSlice (xs:=[_,_,_,_,_]) .none zX ty9 hz9 (.cons (.str (l:=[]) (by decide)) (.cons (.str (l:=[117,112]) (by decide)) (.cons (.str (l:=[114,105,103,104,116]) (by decide)) (.cons (.str (l:=[100,111,119,110]) (by decide)) (.cons (.str (l:=[108,101,102,116]) (by decide)) .nil))))) o (by decide)) (.asn o (.nil (.ret ?_)))))))))
 obtain rfl:=za h
 exact zb.rt Tryz.results82 o
theorem zdz {x1:yg}{r:Str}  (h:YL x1=some r):zr Tryz.prog 34 [rep x1] (rep r):=by
 unfold YL at h
 obtain⟨hn1,h⟩:=zn h
 obtain⟨r1,hv2,h⟩:=bind_some h
 obtain⟨hn3,h⟩:=zn h
 obtain⟨hn4,h⟩:=zn h
 obtain⟨hn5,h⟩:=zn h
 obtain⟨r2,hv6,h⟩:=bind_some h
 obtain⟨hn7,h⟩:=zn h
 refine zr.i Tryz.func34 o Tryz.ntmps34 o (fun F=>(.sn mx (.c (.box .none (.s o)) (.c (.assign .none (.str (l:=[]) (by decide))) (.nil (.sn mx (.fa zgh zkq o (.ld ty9 o (.c (.addStr .none (.s o) (.str (l:=[32]) (by decide)) (fun _=>hn1)) (.c (.call .none (zjx hv2) .nil) (.fa zb3 zd4 o (.ld ty3 o (.ix zX ty9 o o hn3 (.ld ty9 o (.c (.addStr .none (.s o) (.s o) (fun _=>hn4)) (.c (.addStr .none (.s o) (.str (l:=[32]) (by decide)) (fun _=>hn5)) (.fa zdS zgt o (.ld ty3 o (.c (.call .none (zcY hv6) (.cons (.s o) .nil)) (.c (.addStr .none (.s o) (.s o) (fun _=>hn7)) (.asn o (.nil (.ret ?_)))))))))))))))))))))))
 obtain rfl:=za h
 exact zb.rt Tryz.results34 o
theorem zju {l1:(List zJ)}{r:(List Int)}  (h:JA l1=some r):zr Tryz.prog 35 [rep l1] (rep r):=by
 unfold JA at h
 refine zr.i Tryz.func35 o Tryz.ntmps35 o (fun F=>(.sr [([],[2])] mx (.cW (.nilRow (T:=3) (α:=Int) o) (.nil (.nameRow (t:=2) (g:=5001) o o o (fun s5001=>(.seq (.sn mx (.mv o (.ln vW o (.mvi (.nil ?_))))))))))))
 obtain⟨j_1,h,hK1⟩:=bind_some h
 refine .thenJ (ι:=(List Int)) (fun j_1=>[]) (fun j_1=>[(2,some (zp 3 j_1))]) (fun s=>j_1=s) Sub.nil zi.nil ?_ (fun j_1' hj1=>?_)
 ·
  refine .block (.anon (t:=2) (g:=5001) o o trivial o (.rforL h (fun p2_=>[(7,⟨True,rep p2_.1⟩)]) (fun p2_=>[(2,some (zp 3 p2_.2))]) (.k 7 o .nil) (.k 2 o .nil) (.k2 5 6 o o .nil) zi.nil (fun p2_ o_2 h hD2=>(.nameRow (t:=2) (g:=5002) o o o (fun s5002=>(.sn mx (.lt o o (.nil (.seq (.cb o h (fun _ h=>?_) fun _ h=>?_))))))))))
  ·
   refine .skip (.then (.seq ?_))
   obtain⟨j_4,h,hK4⟩:=bind_some h
   unfold zdv at h
   refine .thenJ (ι:=(List Int)) (fun j_4=>[]) (fun j_4=>[(2,some (zp 3 j_4))]) (fun s=>j_4=s) (.k2 5 6 o o (.k 7 o .nil)) zi.nil ?_ (fun j_4' hj4=>?_)
   ·
    obtain⟨hn5,h⟩:=zn h
    obtain⟨v1,hv6,h⟩:=zv h
    obtain⟨hn7,h⟩:=zn h
    exact .block (.sr [oo,oo,([],[4]),([4],[4])] mx (.ixA vW QS o o hn5 (.rlA hv6 QS o (.al znM o (.st QS o o o (.nil (.freeze (t:=4) o o (.k 5002 o .nil) o (.rg [oo,oo,oo,oo,oo,oo,([5002],[17,5002]),([17],[2,17])] mx (.mvA o (.faA zjU zkm o (.ldA ty3 o (.faA zjV zkn o (.ldA ty3 o (.cA (.buildSlice (xs:=[_,_]) .none qS ty3 hz3 (.cons (.s o) (.cons (.s o) .nil)) o (by decide)) (.cW (.append (k:=5002) zhr o (.told (.s o) o) (.s o) hn7) (.cW (.passRow o (.tmp o)) (.nil (.blkNormal (zb.j _ (za h))))))))))))))))))))
   ·
    subst hj4;have h:=hK4;clear hK4
    exact .nameRow (t:=2) (g:=5003) o o o (fun s5003=>(.rn mx (.adi o (.mv o (.nil (.anon (t:=2) (g:=5003) o o trivial o (zb.ag (za h))))))))
  ·
   refine .exit (.thenExit (.thenExit (.blkExit (.anon (t:=2) (g:=5002) o o trivial o ?_))))
   replace h:=hD2 _ (za h)
   exact zb.j _ (za h)
 ·
  subst hj1;have h:=hK1;clear hK1
  refine .freezeRowA (t:=2) o o zi.nil o (.sn mx (.mv o (.asn o (.nil (.ret ?_)))))
  obtain rfl:=za h
  exact zb.rt Tryz.results35 o
theorem zpR {x1:zA}{r:Str}  (h:zbL x1=some r):zr Tryz.prog 23 [rep x1] (rep r):=by
 unfold zbL at h
 obtain⟨hn1,h⟩:=zn h
 obtain⟨hn2,h⟩:=zn h
 obtain⟨r1,hv3,h⟩:=bind_some h
 obtain⟨hn4,h⟩:=zn h
 obtain⟨hn5,h⟩:=zn h
 obtain⟨r2,hv6,h⟩:=bind_some h
 obtain⟨hn7,h⟩:=zn h
 obtain⟨s1,hv8,h⟩:=zv h
 refine zr.i Tryz.func23 o Tryz.ntmps23 o (fun F=>(.sn mx (.c (.box .none (.s o)) (.c (.assign .none (.str (l:=[]) (by decide))) (.nil (.sn mx (.fa JF zaN o (.ld ty9 o (.c (.addStr .none (.str (l:=[101,100,103,101,32]) (by decide)) (.s o) (fun _=>hn1)) (.c (.addStr .none (.s o) (.str (l:=[32]) (by decide)) (fun _=>hn2)) (.fa zdT zgu o (.ld qu o (.c (.call .none (zdz hv3) (.cons (.s o) .nil)) (.c (.addStr .none (.s o) (.s o) (fun _=>hn4)) (.c (.addStr .none (.s o) (.str (l:=[32]) (by decide)) (fun _=>hn5)) (.fa zdU zgv o (.ld qu o (.c (.call .none (zdz hv6) (.cons (.s o) .nil)) (.c (.addStr .none (.s o) (.s o) (fun _=>hn7)) (.ra hv8 o (.nil (.seq (.sn mx (.fa Yc JL o (.ld Yw o (.ln vW o (.c (.gt .none (.s o) .i) (.nil ?_))))))))))))))))))))))))))))
 obtain⟨j_9,h,hK9⟩:=bind_some h
 refine .thenJ (ι:=Str) (fun j_9=>[(3,⟨True,rep j_9⟩)]) (fun j_9=>[]) (fun s=>j_9=s) (.k 1 o .nil) zi.nil ?_ (fun j_9' hj9=>?_)
 ·
  refine .cb o h (fun _ h=>?_) fun _ h=>?_
  ·
   obtain⟨r3,hv11,h⟩:=bind_some h
   obtain⟨r4,hv12,h⟩:=bind_some h
   obtain⟨hn13,h⟩:=zn h
   obtain⟨hn14,h⟩:=zn h
   obtain⟨s2,hv15,h⟩:=zv h
   exact .rn mx (.mv o (.fa Yc JL o (.ld Yw o (.c (.call .none (zju hv11) (.cons (.s o) .nil)) (.c (.call .none (zdC hv12) (.cons (.s o) .nil)) (.c (.addStr .none (.str (l:=[32,98,121,32]) (by decide)) (.s o) (fun _=>hn13)) (.c (.addStr .none (.s o) (.s o) (fun _=>hn14)) (.ra hv15 o (.nil (zb.j _ (za h)))))))))))
  ·
   exact .skip (zb.j _ (za h))
 ·
  subst hj9;have h:=hK9;clear hK9
  obtain⟨r5,hv16,h⟩:=bind_some h
  obtain⟨hn17,h⟩:=zn h
  refine .sn mx (.mv o (.fa zb4 zd5 o (.ld ty9 o (.fa zdV zgw o (.ld ty9 o (.c (.call .none (zjk hv16) (.cons (.s o) (.cons (.str (l:=[]) (by decide)) (.cons .bool (.cons (.s o) .nil))))) (.c (.addStr .none (.s o) (.s o) (fun _=>hn17)) (.asn o (.nil (.ret ?_))))))))))
  obtain rfl:=za h
  exact zb.rt Tryz.results23 o
theorem zfU {d1:Doc}{l1:(List zz)}{r:(Str×Int)}  (h:Qx d1 l1=some r):zr Tryz.prog 4 [rep d1,rep l1] (tup [rep r.1,rep r.2]):=by
 unfold Qx at h
 obtain⟨e1,hv1,h⟩:=bind_some h
 refine zr.i Tryz.func4 o Tryz.ntmps4 o (fun F=>(.sn mx (.c (.box .none (.s o)) (.c (.assign .none (.str (l:=[]) (by decide))) (.asi (.nil (.seq (.sn mx (.ld yX o (.c (.call .none (zeE hv1) (.cons (.s o) .nil)) (.asn o (.nil (.sn mx (.mv o (.nei o (.nil (.cb o h (fun _ h=>?_) fun _ h=>?_)))))))))))))))))
 ·
  refine .sn mx (.mv o (.c (.assign .none (.str (l:=[]) (by decide))) (.asn o (.nil (.ret (.thenRet ?_))))))
  obtain rfl:=za h
  exact zb.ret2 (.inl o) Tryz.results4 (zt.tmp o trivial Imp.refl) (zt.tmp o trivial Imp.refl)
 ·
  obtain⟨e2,hv3,h⟩:=bind_some h
  refine .skip (.then (.seq (.sn mx (.mv o (.c (.call .none (zfT hv3) (.cons (.s o) .nil)) (.asn o (.nil (.sn mx (.mv o (.nei o (.nil (.cb o h (fun _ h=>?_) fun _ h=>?_))))))))))))
  ·
   refine .sn mx (.mv o (.c (.assign .none (.str (l:=[]) (by decide))) (.asn o (.nil (.ret (.thenRet ?_))))))
   obtain rfl:=za h
   exact zb.ret2 (.inl o) Tryz.results4 (zt.tmp o trivial Imp.refl) (zt.tmp o trivial Imp.refl)
  ·
   obtain⟨b1,hv5,h⟩:=zv h
   refine .skip (.then (.sr [([],[8])] mx (.cW (.post1 (.alloc zwc o) zo0) (.nil (.reB (t:=8) o (congrArg (qq 62 5) hv5) (.nameAt (t:=8) (g:=5001) o o zrK o (fun m5001=>(.seq (.sn mx (.mv o (.ln j8 o (.mvi (.nil ?_)))))))))))))
   obtain⟨j_6,h,hK6⟩:=bind_some h
   refine .thenJ (ι:=Str) (fun j_6=>[]) (fun j_6=>[(5001,some (zd.at (ptr m5001 0) (qq 62 5 j_6)))]) (fun s=>j_6=s) (.k2 2 8 o o .nil) zi.nil ?_ (fun j_6' hj6=>?_)
   ·
    refine .block (.rforL h (fun p7_=>[(27,⟨True,rep p7_.1⟩)]) (fun p7_=>[(5001,some (zd.at (ptr m5001 0) (qq 62 5 p7_.2)))]) (.k 27 o .nil) (.k 5001 o .nil) (.k4 2 8 25 26 o o o o .nil) zi.nil (fun p7_ o_7 h hD7=>(.sn mx (.lt o o (.nil (.seq (.cb o h (fun _ h=>?_) fun _ h=>?_)))))))
    ·
     refine .skip (.then (.seq ?_))
     obtain⟨j_9,h,hK9⟩:=bind_some h
     unfold zdo at h
     refine .thenJ (ι:=Str) (fun j_9=>[]) (fun j_9=>[(5001,some (zd.at (ptr m5001 0) (qq 62 5 j_9)))]) (fun s=>j_9=s) (.k4 2 8 25 26 o o o o (.k 27 o .nil)) zi.nil ?_ (fun j_9' hj9=>?_)
     ·
      obtain⟨hn10,h⟩:=zn h
      obtain⟨v1,hv11,h⟩:=zv h
      obtain⟨r1,hv12,h⟩:=bind_some h
      obtain⟨hn13,h⟩:=zn h
      obtain⟨r2,hv14,h⟩:=bind_some h
      exact .block (.sr [oo,oo,([],[10]),([10],[10])] mx (.ixA j8 qf o o hn10 (.rlA hv11 qf o (.al zc4 o (.st qf o o o (.nil (.freeze (t:=10) o o (.k 5001 o .nil) o (.rg [oo,oo,oo,([5001],[5001])] mx (.ldA qf o (.cA (.call .none (zpU hv12) (.cons (.s o) .nil)) (.cA (.addStr .none (.s o) (.str (l:=[10]) (by decide)) (fun _=>hn13)) (.cW (.cO [5001] (zhY hv14) (.cons (.s o) (.cons (.s o) .nil)) (.cons (k:=5001) o .nil) o) (.nil (.blkNormal (zb.j _ (za h))))))))))))))))
     ·
      subst hj9;have h:=hK9;clear hK9
      exact .rn mx (.adi o (.mv o (.nil (zb.ag (za h)))))
    ·
     refine .exit (.thenExit (.thenExit (.blkExit ?_)))
     replace h:=hD7 _ (za h)
     exact zb.j _ (za h)
   ·
    subst hj6;have h:=hK6;clear hK6
    refine .seq (.sn mx (.fa qt jp o (.ld qU o (.ln y4 o (.mvi (.nil ?_))))))
    obtain⟨j_15,h,hK15⟩:=bind_some h
    refine .thenJ (ι:=Str) (fun j_15=>[]) (fun j_15=>[(5001,some (zd.at (ptr m5001 0) (qq 62 5 j_15)))]) (fun s=>j_15=s) (.k2 2 8 o o .nil) zi.nil ?_ (fun j_15' hj15=>?_)
    ·
     refine .block (.rforL h (fun p16_=>[(39,⟨True,rep p16_.1⟩)]) (fun p16_=>[(5001,some (zd.at (ptr m5001 0) (qq 62 5 p16_.2)))]) (.k 39 o .nil) (.k 5001 o .nil) (.k4 2 8 37 38 o o o o .nil) zi.nil (fun p16_ o_16 h hD16=>(.sn mx (.lt o o (.nil (.seq (.cb o h (fun _ h=>?_) fun _ h=>?_)))))))
     ·
      refine .skip (.then (.seq ?_))
      obtain⟨j_18,h,hK18⟩:=bind_some h
      unfold zdp at h
      refine .thenJ (ι:=Str) (fun j_18=>[]) (fun j_18=>[(5001,some (zd.at (ptr m5001 0) (qq 62 5 j_18)))]) (fun s=>j_18=s) (.k4 2 8 37 38 o o o o (.k 39 o .nil)) zi.nil ?_ (fun j_18' hj18=>?_)
      ·
       obtain⟨hn19,h⟩:=zn h
       obtain⟨v2,hv20,h⟩:=zv h
       obtain⟨r3,hv21,h⟩:=bind_some h
       obtain⟨hn22,h⟩:=zn h
       obtain⟨r4,hv23,h⟩:=bind_some h
       exact .block (.sr [oo,oo,([],[12]),([12],[12])] mx (.ixA y4 yd o o hn19 (.rlA hv20 yd o (.al vC o (.st yd o o o (.nil (.freeze (t:=12) o o (.k 5001 o .nil) o (.rg [oo,oo,oo,([5001],[5001])] mx (.ldA yd o (.cA (.call .none (zpT hv21) (.cons (.s o) .nil)) (.cA (.addStr .none (.s o) (.str (l:=[10]) (by decide)) (fun _=>hn22)) (.cW (.cO [5001] (zhY hv23) (.cons (.s o) (.cons (.s o) .nil)) (.cons (k:=5001) o .nil) o) (.nil (.blkNormal (zb.j _ (za h))))))))))))))))
      ·
       subst hj18;have h:=hK18;clear hK18
       exact .rn mx (.adi o (.mv o (.nil (zb.ag (za h)))))
     ·
      refine .exit (.thenExit (.thenExit (.blkExit ?_)))
      replace h:=hD16 _ (za h)
      exact zb.j _ (za h)
    ·
     subst hj15;have h:=hK15;clear hK15
     refine .seq (.sn mx (.fa jV zcd o (.ld Ji o (.ln jx o (.mvi (.nil ?_))))))
     obtain⟨j_24,h,hK24⟩:=bind_some h
     refine .thenJ (ι:=Str) (fun j_24=>[]) (fun j_24=>[(5001,some (zd.at (ptr m5001 0) (qq 62 5 j_24)))]) (fun s=>j_24=s) (.k 8 o .nil) zi.nil ?_ (fun j_24' hj24=>?_)
     ·
      refine .block (.rforL h (fun p25_=>[(51,⟨True,rep p25_.1⟩)]) (fun p25_=>[(5001,some (zd.at (ptr m5001 0) (qq 62 5 p25_.2)))]) (.k 51 o .nil) (.k 5001 o .nil) (.k2 8 49 o o (.k 50 o .nil)) zi.nil (fun p25_ o_25 h hD25=>(.sn mx (.lt o o (.nil (.seq (.cb o h (fun _ h=>?_) fun _ h=>?_)))))))
      ·
       refine .skip (.then (.seq ?_))
       obtain⟨j_27,h,hK27⟩:=bind_some h
       unfold zdq at h
       refine .thenJ (ι:=Str) (fun j_27=>[]) (fun j_27=>[(5001,some (zd.at (ptr m5001 0) (qq 62 5 j_27)))]) (fun s=>j_27=s) (.k4 8 49 50 51 o o o o .nil) zi.nil ?_ (fun j_27' hj27=>?_)
       ·
        obtain⟨hn28,h⟩:=zn h
        obtain⟨v3,hv29,h⟩:=zv h
        obtain⟨r5,hv30,h⟩:=bind_some h
        obtain⟨hn31,h⟩:=zn h
        obtain⟨r6,hv32,h⟩:=bind_some h
        exact .block (.sr [oo,oo,([],[14]),([14],[14])] mx (.ixA jx yP o o hn28 (.rlA hv29 yP o (.al zbB o (.st yP o o o (.nil (.freeze (t:=14) o o (.k 5001 o .nil) o (.rg [oo,oo,oo,([5001],[5001])] mx (.ldA yP o (.cA (.call .none (zpR hv30) (.cons (.s o) .nil)) (.cA (.addStr .none (.s o) (.str (l:=[10]) (by decide)) (fun _=>hn31)) (.cW (.cO [5001] (zhY hv32) (.cons (.s o) (.cons (.s o) .nil)) (.cons (k:=5001) o .nil) o) (.nil (.blkNormal (zb.j _ (za h))))))))))))))))
       ·
        subst hj27;have h:=hK27;clear hK27
        exact .rn mx (.adi o (.mv o (.nil (zb.ag (za h)))))
      ·
       refine .exit (.thenExit (.thenExit (.blkExit ?_)))
       replace h:=hD25 _ (za h)
       exact zb.j _ (za h)
     ·
      subst hj24;have h:=hK24;clear hK24
      obtain⟨r7,hv33,h⟩:=bind_some h
      refine .seq (.sr [([5001],[5001]),oo] mx (.cW (.cO [5001] (zvh hv33) (.cons (.s o) .nil) (.cons (k:=5001) o .nil) o) (.cA (.gt .none (.s o) .i) (.nil (.cb o h (fun _ h=>?_) fun _ h=>?_)))))
      ·
       refine .sn mx (.c (.assign .none (.str (l:=[]) (by decide))) (.asi (.nil (.ret (.thenRet ?_)))))
       obtain rfl:=za h
       exact zb.ret2 (.inl o) Tryz.results4 (zt.tmp o trivial Imp.refl) (zt.tmp o trivial Imp.refl)
      ·
       obtain⟨r8,hv35,h⟩:=bind_some h
       refine .skip (.then (.sr [([5001],[5001]),oo,oo] mx (.cW (.cO [5001] (zvi hv35) (.cons (.s o) .nil) (.cons (k:=5001) o .nil) o) (.asnA o (.cA (.assign .none .i) (.nil (.ret ?_)))))))
       obtain rfl:=za h
       exact zb.ret2 (.inl o) Tryz.results4 (zt.tmp o trivial Imp.refl) (zt.tmp o trivial Imp.refl)
theorem zqe {s1:Str}{r:(Str×Bool)}  (h:zbW s1=some r):zr Tryz.prog 73 [rep s1] (tup [rep r.1,rep r.2]):=by
 unfold zbW at h
 refine zr.i Tryz.func73 o Tryz.ntmps73 o (fun F=>(.sn mx (.c (.assign .none (.str (l:=[]) (by decide))) (.asb (.nil (.sr [([],[4])] mx (.cW (.nilRow (T:=5) (α:=(KI .u8)) o) (.nil (.nameRow (t:=4) (g:=5001) o o o (fun s5001=>(.seq (.sn mx (.asi (.nil ?_))))))))))))))
 obtain⟨o_1,h,hK1⟩:=yN h
 refine .tJ (fun s=>o_1=Res.nx s) Sub.nil zi.nil ?_ (fun j_1 hj1=>?_)
 ·
  refine .block (.anon (t:=4) (g:=5001) o o trivial o (.loopL h (fun s2_=>[(5,⟨True,rep s2_.2⟩)]) (fun s2_=>[(4,some (zp 5 s2_.1))]) (.k 5 o .nil) (.k 4 o .nil) (.k 0 o .nil) zi.nil (fun s2_ o_2 h hD2=>?_)))
  unfold Qf at h
  refine .nameRow (t:=4) (g:=5002) o o o (fun s5002=>(.seq (.sn mx (.mv o (.mv o (.c (.lenStr .none Tryz.underlying9 (.s o)) (.lt o o (.nil (.cb o h (fun _ h=>?_) fun _ h=>?_)))))))))
  ·
   obtain⟨hn4,h⟩:=zn h
   obtain⟨c1,hv5,h⟩:=zv h
   refine .skip (.then (.seq (.block (.sn mx (.mv o (.mv o (.c (.indexStr .none Tryz.underlying9 (.s o) (.s o) (fun _=>hn4)) (.ra hv5 o (.nil (.seq ?_))))))))))
   obtain⟨o_6,h,hK6⟩:=yN h
   refine .thenJ (ι:=(Int×(KI .u8))) (fun j_6=>[(5,⟨True,rep j_6.1⟩),(6,⟨True,rep j_6.2⟩)]) (fun j_6=>[]) (fun s=>o_6=Res.nx s) (.k2 0 4 o o .nil) (.k 5002 o .nil) ?_ (fun j_6 hj6=>?_)
   ·
    refine .block (.sn mx (.mv o (.c (.keql .none (.s o) .ki) (.asn o (.nil (.cb o h (fun _ h=>?_) fun _ h=>?_))))))
    ·
     obtain⟨hn8,h⟩:=zn h
     refine .sr [oo,([5002],[]),oo,oo,oo,oo,oo,oo,oo,oo,oo,oo,oo,oo] mx (.mvA o (.cA (.bytesStrO (k:=5002) Tryz.underlying60 Tryz.underlying5 Tryz.underlying9 (.told (.s o) o)) (.mvA o (.mvA o (.cA (.lenStr .none Tryz.underlying9 (.s o)) (.cA (.subW .none (.s o) .i) (.cA (.eqI .none (.s o) (.s o)) (.mvA o (.cA (.move (.at o o) (.s o)) (.cA (.indexStr (.at o o) Tryz.underlying9 (.tmp o id) .i (fun hg=>hn8 hg.2)) (.cA (.keql (.at o o) (.tmp o id) .ki) (.cA (.pickAnd .none (.s o) (.tmp o id)) (.asnA o (.asnA o (.nil (.ret (.blkRet (.thenRet (.blkRet (.thenRet (.thenRet (.blkRet (.thenRet ?_)))))))))))))))))))))))
     replace h:=yk hK6 (za h)
     replace h:=hD2 _ (za h)
     replace h:=yk hK1 (za h)
     obtain rfl:=za h
     exact zb.ret2 (.inl o) Tryz.results73 (zt.tmp o trivial Imp.refl) (zt.tmp o trivial Imp.refl)
    ·
     refine .sn mx (.mv o (.c (.keql .none (.s o) .ki) (.asn o (.nil (.cb o h (fun _ h=>?_) fun _ h=>?_)))))
     ·
      refine .sn mx (.c (.assign .none (.str (l:=[]) (by decide))) (.asb (.nil (.ret (.blkRet (.thenRet (.blkRet (.thenRet (.thenRet (.blkRet (.thenRet ?_)))))))))))
      replace h:=yk hK6 (za h)
      replace h:=hD2 _ (za h)
      replace h:=yk hK1 (za h)
      obtain rfl:=za h
      exact zb.ret2 (.inl o) Tryz.results73 (zt.tmp o trivial Imp.refl) (zt.tmp o trivial Imp.refl)
     ·
      refine .sn mx (.mv o (.c (.keql .none (.s o) .ki) (.asn o (.nil (.cb o h (fun _ h=>?_) fun _ h=>?_)))))
      ·
       obtain⟨i1,hv11,h⟩:=zv h
       refine .seq (.sn mx (.mv o (.adi o (.ra hv11 o (.nil (.sn mx (.mv o (.mv o (.c (.lenStr .none Tryz.underlying9 (.s o)) (.c (.eqI .none (.s o) (.s o)) (.nil (.cb o h (fun _ h=>?_) fun _ h=>?_))))))))))))
       ·
        refine .sn mx (.c (.assign .none (.str (l:=[]) (by decide))) (.asb (.nil (.ret (.thenRet (.blkRet (.thenRet (.blkRet (.thenRet (.thenRet (.blkRet (.thenRet ?_))))))))))))
        replace h:=yk hK6 (za h)
        replace h:=hD2 _ (za h)
        replace h:=yk hK1 (za h)
        obtain rfl:=za h
        exact zb.ret2 (.inl o) Tryz.results73 (zt.tmp o trivial Imp.refl) (zt.tmp o trivial Imp.refl)
       ·
        obtain⟨hn13,h⟩:=zn h
        obtain⟨k1,hv14,h⟩:=bind_some h
        refine .skip (.then (.sn mx (.mv o (.mv o (.c (.indexStr .none Tryz.underlying9 (.s o) (.s o) (fun _=>hn13)) (.c (.call .none (zvk hv14) (.cons (.str (l:=[34,92,110]) (by decide)) (.cons (.s o) .nil))) (.asn o (.nil (.seq (.sn mx (.mv o (.c (.lt .none (.s o) .i) (.nil (.cb o h (fun _ h=>?_) fun _ h=>?_))))))))))))))
        ·
         refine .sn mx (.c (.assign .none (.str (l:=[]) (by decide))) (.asb (.nil (.ret (.thenRet (.blkRet (.thenRet (.blkRet (.thenRet (.thenRet (.blkRet (.thenRet ?_))))))))))))
         replace h:=yk hK6 (za h)
         replace h:=hD2 _ (za h)
         replace h:=yk hK1 (za h)
         obtain rfl:=za h
         exact zb.ret2 (.inl o) Tryz.results73 (zt.tmp o trivial Imp.refl) (zt.tmp o trivial Imp.refl)
        ·
         obtain⟨hn16,h⟩:=zn h
         obtain⟨c2,hv17,h⟩:=zv h
         exact .skip (.then (.rn mx (.mv o (.c (.indexStr .none Tryz.underlying9 (.str (l:=[34,92,10]) (by decide)) (.s o) (fun _=>hn16)) (.ra hv17 o (.nil (.blkNormal (zb.j _ (za h)))))))))
      ·
       exact .skip (.blkNormal (zb.j _ (za h)))
   ·
    have h:=yO hK6 hj6
    obtain⟨hn18,h⟩:=zn h
    obtain⟨b1,hv19,h⟩:=zv h
    obtain⟨i2,hv20,h⟩:=zv h
    exact .rg [oo,oo,oo,([5002],[55,5002]),([55],[4,55])] mx (.mvA o (.mvA o (.cA (.buildSlice (xs:=[_]) .none zmX ty5 hz5 (.cons (.s o) .nil) o (by decide)) (.cW (.append (k:=5002) ztI o (.told (.s o) o) (.s o) hn18) (.cW (.passRow o (.tmp o)) (.nil (.blkNormal (.then (.reB (t:=4) o (congrArg (zp 5) hv19) (.nameRow (t:=4) (g:=5003) o o o (fun s5003=>(.rn mx (.mv o (.adi o (.ra hv20 o (.nil (.anon (t:=4) (g:=5003) o o trivial o (zb.ag (za h)))))))))))))))))))
  ·
   refine .exit (.thenExit (.thenExit (.blkExit ?_)))
   replace h:=hD2 _ (za h)
   exact zb.j _ (za h)
 ·
  have h:=yO hK1 hj1
  refine .sn mx (.c (.assign .none (.str (l:=[]) (by decide))) (.asb (.nil (.ret ?_))))
  obtain rfl:=za h
  exact zb.ret2 (.inl o) Tryz.results73 (zt.tmp o trivial Imp.refl) (zt.tmp o trivial Imp.refl)
theorem zhR {s1:(List Str)}{v1:Str}{r:Int}  (h:QQ s1 v1=some r):zr Tryz.prog 79 [rep s1,rep v1] (rep r):=by
 unfold QQ at h
 refine zr.i Tryz.func79 o Tryz.ntmps79 o (fun F=>(.sn mx (.asi (.nil (.seq (.sn mx (.mv o (.ln zX o (.mvi (.nil ?_))))))))))
 obtain⟨o_1,h,hK1⟩:=yN h
 refine .tJ (fun s=>o_1=Res.nx s) Sub.nil zi.nil ?_ (fun j_1 hj1=>?_)
 ·
  refine .block (.rforEL h (fun p2_=>[(8,⟨True,rep p2_.1⟩)]) (fun p2_=>[]) (.k 8 o .nil) zi.nil (.k2 0 1 o o (.k 7 o .nil)) zi.nil (fun p2_ o_2 h hD2=>(.sn mx (.lt o o (.nil (.seq (.cb o h (fun _ h=>?_) fun _ h=>?_)))))))
  ·
   refine .skip (.then (.seq ?_))
   obtain⟨o_4,h,hK4⟩:=qg h
   unfold zbo at h
   refine .tJ (fun s=>o_4=Res.nx s) (.k4 0 1 7 8 o o o o .nil) zi.nil ?_ (fun j_4 hj4=>?_)
   ·
    obtain⟨hn5,h⟩:=zn h
    refine .block (.sn mx (.mv o (.asn o (.nil (.sn mx (.mv o (.mv o (.mv o (.ix zX ty9 o o hn5 (.ld ty9 o (.c (.eqS .none (z6 Tryz.underlying9) (.s o) (.s o)) (.nil (.cb o h (fun _ h=>?_) fun _ h=>?_)))))))))))))
    ·
     refine .sn mx (.mv o (.asn o (.nil (.ret (.blkRet (.thenRet (.thenRet (.blkRet (.thenRet ?_)))))))))
     replace h:=yM hK4 (za h)
     replace h:=hD2 _ (za h)
     replace h:=yk hK1 (za h)
     obtain rfl:=za h
     exact zb.rt Tryz.results79 o
    ·
     exact .skip (.blkNormal (zb.j _ (za h)))
   ·
    have h:=qh hK4 hj4
    exact .rn mx (.adi o (.mv o (.nil (zb.ag (za h)))))
  ·
   refine .exit (.thenExit (.thenExit (.blkExit ?_)))
   replace h:=hD2 _ (za h)
   exact zb.j _ (za h)
 ·
  have h:=yO hK1 hj1
  refine .sn mx (.asi (.nil (.ret ?_)))
  obtain rfl:=za h
  exact zb.rt Tryz.results79 o
theorem zmY {s1:(List Str)}{v1:Str}{r:Bool}  (h:J7 s1 v1=some r):zr Tryz.prog 54 [rep s1,rep v1] (rep r):=by
 unfold J7 at h
 obtain⟨r1,hv1,h⟩:=bind_some h
 refine zr.i Tryz.func54 o Tryz.ntmps54 o (fun F=>(.sn mx (.asb (.nil (.sn mx (.mv o (.mv o (.c (.call .none (zhR hv1) (.cons (.s o) (.cons (.s o) .nil))) (.c (.ge .none (.s o) .i) (.asn o (.nil (.ret ?_))))))))))))
 obtain rfl:=za h
 exact zb.rt Tryz.results54 o
theorem zjj {line1:Str}{r:((List Str)×Str×Bool×Bool)}  (h:Q3 line1=some r):zr Tryz.prog 27 [rep line1] (tup [rep r.1,rep r.2.1,rep r.2.2.1,rep r.2.2.2]):=by
 unfold Q3 at h
 obtain⟨r1,hv1,h⟩:=bind_some h
 refine zr.i Tryz.func27 o Tryz.ntmps27 o (fun F=>(.sn mx (.c (.assign .none (.const (x:=([]:(List Str))) (fun M w=>⟨_,⟨none,0,rfl,Nat.le_refl _,by decide,rfl⟩,rfl⟩))) (.c (.assign .none (.str (l:=[]) (by decide))) (.asb (.asb (.nil (.sn mx (.mv o (.c (.call .none (znf hv1) (.cons (.s o) (.cons (.str (l:=[32,34]) (by decide)) .nil))) (.mv o (.ex o o (.ex o o (.ex o o (.asn o (.asn o (.asn o (.nil (.seq (.sn mx (.mv o (.nil ?_))))))))))))))))))))))
 obtain⟨o_2,h,hK2⟩:=yN h
 refine .thenJ (ι:=Str) (fun j_2=>[(3,⟨True,rep j_2⟩)]) (fun j_2=>[]) (fun s=>o_2=Res.nx s) (.k2 4 6 o o .nil) zi.nil ?_ (fun j_2 hj2=>?_)
 ·
  refine .cb o h (fun _ h=>?_) fun _ h=>?_
  ·
   obtain⟨hn4,h⟩:=zn h
   obtain⟨r2,hv5,h⟩:=bind_some h
   refine .sn mx (.mv o (.c (.addStr .none (.str (l:=[34]) (by decide)) (.s o) (fun _=>hn4)) (.c (.call .none (zqe hv5) (.cons (.s o) .nil)) (.mv o (.ex o o (.ex o o (.asn o (.asn o (.nil (.sn mx (.mv o (.c (.not .none (.s o)) (.nil (.cb o h (fun _ h=>?_) fun _ h=>?_))))))))))))))
   ·
    refine .sn mx (.c (.assign .none (.const (x:=([]:(List Str))) (fun M w=>⟨_,⟨none,0,rfl,Nat.le_refl _,by decide,rfl⟩,rfl⟩))) (.c (.assign .none (.str (l:=[]) (by decide))) (.asb (.asb (.nil (.ret (.thenRet ?_)))))))
    replace h:=yk hK2 (za h)
    obtain rfl:=za h
    exact zb.ret4 (.inl o) Tryz.results27 (zt.tmp o trivial Imp.refl) (zt.tmp o trivial Imp.refl) (zt.tmp o trivial Imp.refl) (zt.tmp o trivial Imp.refl)
   ·
    exact .skip (zb.j _ (za h))
  ·
   exact .skip (zb.j _ (za h))
 ·
  have h:=yO hK2 hj2
  obtain⟨words1,hv7,h⟩:=bind_some h
  obtain⟨r3,hv8,h⟩:=bind_some h
  refine .sn mx (.mv o (.c (.call .none (zng hv7).frz (.cons (.s o) (.cons (.str (l:=[32]) (by decide)) .nil))) (.asn o (.nil (.sn mx (.mv o (.mv o (.mv o (.mv o (.c (.call .none (zmY hv8) (.cons (.s o) (.cons (.str (l:=[]) (by decide)) .nil))) (.c (.not .none (.s o)) (.asn o (.asn o (.asn o (.asn o (.nil (.ret ?_)))))))))))))))))
  obtain rfl:=za h
  exact zb.ret4 (.inl o) Tryz.results27 (zt.tmp o trivial Imp.refl) (zt.tmp o trivial Imp.refl) (zt.tmp o trivial Imp.refl) (zt.tmp o trivial Imp.refl)
theorem zji {l1:(List Str)}{r:(zz×Bool)}  (h:zat l1=some r):zr Tryz.prog 28 [rep l1] (tup [rep r.1,rep r.2]):=by
 unfold zat at h
 obtain⟨r1,hv1,h⟩:=zv h
 refine zr.i Tryz.func28 o Tryz.ntmps28 o (fun F=>(.sr [([],[2]),oo] mx (.al zc4 o (.cA (.assign .none .bool) (.nil (.reB (t:=2) o (congrArg (zC 37) hv1) (.nameBox (t:=2) (g:=5001) o o (fun m5001=>(.seq (.sn mx (.mv o (.ln zX o (.nei o (.nil (.cb o h (fun _ h=>?_) fun _ h=>?_)))))))))))))))
 ·
  refine .sr [([5001],[]),([5001],[5001]),oo] mx (.cA (.loadAt0 (k:=5001) .none qf o (.s o)) (.s0 5001 qf o o o (.cA (.assign .none .bool) (.nil (.fb 5001 [2] o (.cons (t:=2) o trivial .nil) (.ret (.thenRet ?_)))))))
  obtain rfl:=za h
  exact zb.r2 Tryz.results28 qf o o
 ·
  obtain⟨hn3,h⟩:=zn h
  obtain⟨hn4,h⟩:=zn h
  obtain⟨hn5,h⟩:=zn h
  obtain⟨v1,hv6,h⟩:=zv h
  refine .skip (.then (.sr [oo,oo,oo,oo,oo,oo,oo,oo,oo,oo,([5001],[5001])] mx (.mvA o (.cA (.indexAddr .none zX ty9 (.s o) .i (fun _=>hn3)) (.ldA ty9 o (.mvA o (.cA (.indexAddr .none zX ty9 (.s o) .i (fun _=>hn4)) (.ldA ty9 o (.mvA o (.cA (.indexAddr .none zX ty9 (.s o) .i (fun _=>hn5)) (.ldA ty9 o (.cA (.re hv6 (.buildF (y:=(⟨gx l1 1,gx l1 2,gx l1 3⟩:zz)) .none zpd zwf o (.cons (.s o) (.cons (.s o) (.cons (.s o) .nil))) (.cons o zmU (.cons o zuk (.cons o zul .nil))))) (.s0 5001 qf o o o (.nil (.seq (.sr [oo,([5001],[]),oo] mx (.cA (.fieldPtr .none zb1 (.s o)) (.cA (.loadAt (k:=5001) .none ty9 o (.s o) zce) (.cA (.eqS .none (z6 Tryz.underlying9) (.s o) (.str (l:=[42]) (by decide))) (.nil ?_))))))))))))))))))))
  obtain⟨j_7,h,hK7⟩:=bind_some h
  refine .thenJ (ι:=zz) (fun j_7=>[]) (fun j_7=>[(5001,some (yG m5001 37 j_7))]) (fun s=>j_7=s) (.k 2 o .nil) zi.nil ?_ (fun j_7' hj7=>?_)
  ·
   refine .cb o h (fun _ h=>?_) fun _ h=>?_
   ·
    exact .rg [oo,([5001],[5001])] mx (.cA (.fieldPtr .none zb1 (.s o)) (.cN (.storeAt (g:=5001) ty9 o (.s o) zmU (.str (l:=[]) (by decide))) (.nil (zb.j _ (za h)))))
   ·
    exact .skip (zb.j _ (za h))
  ·
   subst hj7;have h:=hK7;clear hK7
   refine .sr [([5001],[]),([5001],[5001]),oo] mx (.cA (.loadAt0 (k:=5001) .none qf o (.s o)) (.s0 5001 qf o o o (.cA (.assign .none .bool) (.nil (.fb 5001 [2] o (.cons (t:=2) o trivial .nil) (.ret ?_))))))
   obtain rfl:=za h
   exact zb.r2 Tryz.results28 qf o o
theorem Jx {w1:yQ}{r:(Str×yQ)}{m25:Nat}(h:vJ w1=some r):zS Tryz.prog 74 [isV (ptr m25 0)] [(ptr m25 0,zC 155 w1)] (rep r.1) [some (zC 155 r.2)]:=by
 unfold vJ at h
 refine zS.i Tryz.func74 o Tryz.ntmps74 o (fun F=>(.sn mx (.c (.assign .none (.str (l:=[]) (by decide))) (.nil (.seq (.sr [oo,oo,oo,([25],[]),oo,oo] mx (.mvA o (.cA (.nilCheckP .none (.s o)) (.cA (.fieldPtr .none qs (.s o)) (.cA (.loadAt (k:=25) .none qj o (.s o) qN) (.cA (.len .none zX (.s o)) (.cA (.eqI .none (.s o) .i) (.nil (.cb o h (fun _ h=>?_) fun _ h=>?_))))))))))))))
 ·
  refine .sn mx (.c (.assign .none (.str (l:=[]) (by decide))) (.nil (.ret (.thenRet ?_))))
  obtain rfl:=za h
  exact zb.ret1O (.inl o) [25] Tryz.results74 (by decide) (.held o .nil) (zt.tmp o trivial Imp.refl)
 ·
  obtain⟨hn2,h⟩:=zn h
  obtain⟨hn3,h⟩:=zn h
  obtain⟨v1,hv4,h⟩:=zv h
  obtain⟨c1,hv5,h⟩:=zv h
  refine .skip (.then (.sr [oo,oo,oo,([25],[]),oo,oo,oo] mx (.mvA o (.cA (.nilCheckP .none (.s o)) (.cA (.fieldPtr .none qs (.s o)) (.cA (.loadAt (k:=25) .none qj o (.s o) qN) (.cA (.indexAddr .none zX ty9 (.s o) .i (fun _=>hn2)) (.ldA ty9 o (.asnA o (.nil (.sr [oo,oo,oo,oo,([25],[]),oo,oo,oo,([25],[25])] mx (.mvA o (.mvA o (.cA (.nilCheckP .none (.s o)) (.cA (.fieldPtr .none qs (.s o)) (.cA (.loadAt (k:=25) .none qj o (.s o) qN) (.cA (.re hv4 (.slice .none zX ty9 (.s o) .i o (fun _=>hn3))) (.cA (.nilCheckP .none (.s o)) (.cA (.fieldPtr .none qs (.s o)) (.cN (.storeAt (g:=25) qj o (.s o) zcO (.s o)) (.nil (.reB (t:=25) o (congrArg (fun y=>yG m25 155 y) hv5) (.sn mx (.mv o (.asn o (.nil (.ret ?_)))))))))))))))))))))))))))
  obtain rfl:=za h
  exact zb.ret1O (.inl o) [25] Tryz.results74 (by decide) (.held o .nil) (zt.tmp o trivial Imp.refl)
theorem zvo {s1:Str}{prefix1:Str}{r:Bool}  (h:zfg s1 prefix1=some r):zr Tryz.prog 298 [rep s1,rep prefix1] (rep r):=by
 unfold zfg at h
 obtain⟨hn1,h⟩:=zn h
 refine zr.i Tryz.func298 o Tryz.ntmps298 o (fun F=>(.sn mx (.asb (.nil (.sn mx (.mv o (.c (.lenStr .none Tryz.underlying9 (.s o)) (.mv o (.c (.lenStr .none Tryz.underlying9 (.s o)) (.c (.ge .none (.s o) (.s o)) (.mv o (.mg o o o (.mg o o o (.c (.lenStr (.at o o) Tryz.underlying9 (.tmp o id)) (.c (.sliceStr (.at o o) Tryz.underlying9 (.tmp o id) o (.tmp o id) (fun hg=>hn1 hg.2)) (.mg o o o (.c (.eqS (.at o o) (z6 Tryz.underlying9) (.tmp o id) (.tmp o id)) (.pa o o (.asn o (.nil (.ret ?_)))))))))))))))))))))
 obtain rfl:=za h
 exact zb.rt Tryz.results298 o
theorem zvq {s1:Str}{prefix1:Str}{r:Str}  (h:zfh s1 prefix1=some r):zr Tryz.prog 261 [rep s1,rep prefix1] (rep r):=by
 unfold zfh at h
 obtain⟨r1,hv1,h⟩:=bind_some h
 refine zr.i Tryz.func261 o Tryz.ntmps261 o (fun F=>(.sn mx (.c (.assign .none (.str (l:=[]) (by decide))) (.nil (.seq (.sn mx (.mv o (.mv o (.c (.call .none (zvo hv1) (.cons (.s o) (.cons (.s o) .nil))) (.nil (.cb o h (fun _ h=>?_) fun _ h=>?_)))))))))))
 ·
  obtain⟨hn3,h⟩:=zn h
  refine .sn mx (.mv o (.mv o (.c (.lenStr .none Tryz.underlying9 (.s o)) (.c (.sliceStr .none Tryz.underlying9 (.s o) (.s o) o (fun _=>hn3)) (.asn o (.nil (.ret (.thenRet ?_))))))))
  obtain rfl:=za h
  exact zb.rt Tryz.results261 o
 ·
  refine .skip (.then (.sn mx (.mv o (.asn o (.nil (.ret ?_))))))
  obtain rfl:=za h
  exact zb.rt Tryz.results261 o
theorem zvm {s1:Str}{prefix1:Str}{r:Str}  (h:zcZ s1 prefix1=some r):zr Tryz.prog 209 [rep s1,rep prefix1] (rep r):=by
 unfold zcZ at h
 obtain⟨r1,hv1,h⟩:=bind_some h
 refine zr.i Tryz.func209 o Tryz.ntmps209 o (fun F=>(.sn mx (.c (.assign .none (.str (l:=[]) (by decide))) (.nil (.sn mx (.mv o (.mv o (.c (.call .none (zvq hv1) (.cons (.s o) (.cons (.s o) .nil))) (.asn o (.nil (.ret ?_)))))))))))
 obtain rfl:=za h
 exact zb.rt Tryz.results209 o
theorem zjv {s1:Str}{r:(Int×Bool)}  (h:JB s1=some r):zr Tryz.prog 137 [rep s1] (tup [rep r.1,rep r.2]):=by
 unfold JB at h
 obtain⟨digits1,hv1,h⟩:=bind_some h
 obtain⟨r1,hv2,h⟩:=bind_some h
 obtain⟨r2,hv3,h⟩:=bind_some h
 refine zr.i Tryz.func137 o Tryz.ntmps137 o (fun F=>(.sn mx (.asi (.asb (.nil (.sn mx (.mv o (.c (.call .none (zvm hv1) (.cons (.s o) (.cons (.str (l:=[45]) (by decide)) .nil))) (.asn o (.nil (.sn mx (.mv o (.c (.call .none (strconv_Atoi_ok hv2) (.cons (.s o) .nil)) (.mv o (.ex o o (.ex o o (.asn o (.asn o (.nil (.sn mx (.mv o (.mv o (.c (.eqErr .none Tryz.underlying64 (.s o)) (.mv o (.mg o o o (.c (.lenStr (.at o o) Tryz.underlying9 (.tmp o id)) (.c (.le (.at o o) (.tmp o id) .i) (.pa o o (.mv o (.mg o o o (.c (.callIf (.at o o) zj9 (fun hg=>zcY ((fun hg=>vj hv3 (hg.2)) hg)) (.cons (.tmp o id) .nil) (fun h=>h)) (.mg o o o (.c (.eqS (.at o o) (z6 Tryz.underlying9) (.tmp o id) (.tmp o id)) (.pa o o (.asn o (.asn o (.nil (.ret ?_))))))))))))))))))))))))))))))))))))))
 obtain rfl:=za h
 exact zb.ret2 (.inl o) Tryz.results137 (zt.tmp o trivial Imp.refl) (zt.tmp o trivial Imp.refl)
theorem zjw {w1:(List Str)}{r:(yg×Bool)}  (h:JC w1=some r):zr Tryz.prog 75 [rep w1] (tup [rep r.1,rep r.2]):=by
 unfold JC at h
 obtain⟨x1,hv1,h⟩:=zv h
 obtain⟨hn2,h⟩:=zn h
 obtain⟨hn3,h⟩:=zn h
 refine zr.i Tryz.func75 o Tryz.ntmps75 o (fun F=>(.sr [([],[2]),oo] mx (.al zfp o (.cA (.assign .none .bool) (.nil (.reB (t:=2) o (congrArg (zC 70) hv1) (.nameBox (t:=2) (g:=5001) o o (fun m5001=>(.seq (.sn mx (.mv o (.ln zX o (.nei o (.mv o (.mg o o o (.c (.indexAddr (.at o o) zX ty9 (.tmp o id) .i (fun hg=>hn2 hg.2)) (.lg ty9 o o o (.c (.eqS (.at o o) (z6 Tryz.underlying9) (.tmp o id) (.str (l:=[]) (by decide))) (.po o o (.mv o (.mg o o o (.c (.indexAddr (.at o o) zX ty9 (.tmp o id) .i (fun hg=>hn3 hg.2)) (.lg ty9 o o o (.c (.eqS (.at o o) (z6 Tryz.underlying9) (.tmp o id) (.str (l:=[]) (by decide))) (.po o o (.nil (.cb o h (fun _ h=>?_) fun _ h=>?_)))))))))))))))))))))))))))
 ·
  refine .sr [([5001],[]),([5001],[5001]),oo] mx (.cA (.loadAt0 (k:=5001) .none qu o (.s o)) (.s0 5001 qu o o o (.cA (.assign .none .bool) (.nil (.fb 5001 [2] o (.cons (t:=2) o trivial .nil) (.ret (.thenRet ?_)))))))
  obtain rfl:=za h
  exact zb.r2 Tryz.results75 qu o o
 ·
  obtain⟨hn5,h⟩:=zn h
  obtain⟨v1,hv6,h⟩:=zv h
  obtain⟨r1,hv7,h⟩:=bind_some h
  obtain⟨hn8,h⟩:=zn h
  obtain⟨r2,hv9,h⟩:=bind_some h
  obtain⟨x2,hv10,h⟩:=zv h
  obtain⟨hn11,h⟩:=zn h
  obtain⟨r3,hv12,h⟩:=bind_some h
  obtain⟨x3,hv13,h⟩:=zv h
  refine .skip (.then (.sr [oo,oo,oo,oo,oo,oo,oo,oo,oo,([5001],[5001]),oo,([5001],[5001])] mx (.mvA o (.cA (.indexAddr .none zX ty9 (.s o) .i (fun _=>hn5)) (.rlA hv6 ty9 o (.cA (.call .none (zjx hv7) .nil) (.mvA o (.cA (.indexAddr .none zX ty9 (.s o) .i (fun _=>hn8)) (.ldA ty9 o (.cA (.call .none (zhR hv9) (.cons (.s o) (.cons (.s o) .nil))) (.cA (.fieldPtr .none zgh (.s o)) (.cN (.storeAt (g:=5001) ty9 o (.s o) zut (.s o)) (.cA (.fieldPtr .none zb3 (.s o)) (.cN (.storeAt (g:=5001) ty3 o (.s o) zuu (.s o)) (.nil (.reB (t:=5001) o (congrArg (fun y=>yG m5001 70 y) hv10) (.sr [oo,oo,oo,oo,oo,oo,oo,oo,([5001],[5001]),oo] mx (.mvA o (.cA (.indexAddr .none zX ty9 (.s o) .i (fun _=>hn11)) (.ldA ty9 o (.cA (.call .none (zjv hv12) (.cons (.s o) .nil)) (.mvA o (.exA o o (.exA o o (.cA (.fieldPtr .none zdS (.s o)) (.cN (.storeAt (g:=5001) ty3 o (.s o) zuv (.s o)) (.asnA o (.nil (.reB (t:=5001) o (congrArg (fun y=>yG m5001 70 y) hv13) (.sr [([5001],[]),oo,oo,oo,([5001],[]),oo,oo,([5001],[5001]),oo] mx (.cA (.loadAt0 (k:=5001) .none qu o (.s o)) (.mvA o (.mvA o (.cA (.fieldPtr (.at o o) zb3 (.s o)) (.cA (.loadAt (k:=5001) (.at o o) ty3 o (.tmp o id) zd4) (.cA (.gt (.at o o) (.tmp o id) .i) (.cA (.pickAnd .none (.s o) (.tmp o id)) (.s0 5001 qu o o o (.asnA o (.nil (.fb 5001 [2] o (.cons (t:=2) o trivial .nil) (.ret ?_))))))))))))))))))))))))))))))))))))))))))
  obtain rfl:=za h
  exact zb.r2 Tryz.results75 qu o o
theorem zqd {w1:(List Str)}{r:((List Int)×Bool)}  (h:zbT w1=some r):zr Tryz.prog 101 [rep w1] (tup [rep r.1,rep r.2]):=by
 unfold zbT at h
 refine zr.i Tryz.func101 o Tryz.ntmps101 o (fun F=>(.sn mx (.c (.assign .none (.const (x:=([]:(List Int))) (fun M w=>⟨_,⟨none,0,rfl,Nat.le_refl _,by decide,rfl⟩,rfl⟩))) (.asb (.nil (.sr [([],[4])] mx (.cW (.nilRow (T:=3) (α:=Int) o) (.nil (.nameRow (t:=4) (g:=5001) o o o (fun s5001=>(.seq (.sn mx (.mv o (.ln zX o (.mvi (.nil ?_))))))))))))))))
 obtain⟨o_1,h,hK1⟩:=yN h
 refine .thenJ (ι:=(List Int)) (fun j_1=>[]) (fun j_1=>[(4,some (zp 3 j_1))]) (fun s=>o_1=Res.nx s) Sub.nil zi.nil ?_ (fun j_1 hj1=>?_)
 ·
  refine .block (.anon (t:=4) (g:=5001) o o trivial o (.rforEL h (fun p2_=>[(11,⟨True,rep p2_.1⟩)]) (fun p2_=>[(4,some (zp 3 p2_.2))]) (.k 11 o .nil) (.k 4 o .nil) (.k2 9 10 o o .nil) zi.nil (fun p2_ o_2 h hD2=>(.nameRow (t:=4) (g:=5002) o o o (fun s5002=>(.sn mx (.lt o o (.nil (.seq (.cb o h (fun _ h=>?_) fun _ h=>?_))))))))))
  ·
   refine .skip (.then (.seq ?_))
   obtain⟨o_4,h,hK4⟩:=qg h
   unfold zdD at h
   refine .thenJ (ι:=(List Int)) (fun j_4=>[]) (fun j_4=>[(4,some (zp 3 j_4))]) (fun s=>o_4=Res.nx s) (.k2 9 10 o o (.k 11 o .nil)) zi.nil ?_ (fun j_4 hj4=>?_)
   ·
    obtain⟨hn5,h⟩:=zn h
    obtain⟨r1,hv6,h⟩:=bind_some h
    refine .block (.sn mx (.ix zX ty9 o o hn5 (.ld ty9 o (.asn o (.nil (.sn mx (.mv o (.c (.call .none (zjv hv6) (.cons (.s o) .nil)) (.mv o (.ex o o (.ex o o (.asn o (.asn o (.nil (.seq (.sn mx (.mv o (.c (.not .none (.s o)) (.nil (.cb o h (fun _ h=>?_) fun _ h=>?_))))))))))))))))))))
    ·
     refine .sn mx (.c (.assign .none (.const (x:=([]:(List Int))) (fun M w=>⟨_,⟨none,0,rfl,Nat.le_refl _,by decide,rfl⟩,rfl⟩))) (.asb (.nil (.ret (.thenRet (.blkRet (.thenRet (.thenRet (.blkRet (.thenRet ?_))))))))))
     replace h:=yM hK4 (za h)
     replace h:=hD2 _ (za h)
     replace h:=yk hK1 (za h)
     obtain rfl:=za h
     exact zb.ret2 (.inl o) Tryz.results101 (zt.tmp o trivial Imp.refl) (zt.tmp o trivial Imp.refl)
    ·
     obtain⟨hn8,h⟩:=zn h
     exact .skip (.then (.rg [oo,oo,oo,([5002],[25,5002]),([25],[4,25])] mx (.mvA o (.mvA o (.cA (.buildSlice (xs:=[_]) .none qS ty3 hz3 (.cons (.s o) .nil) o (by decide)) (.cW (.append (k:=5002) zhr o (.told (.s o) o) (.s o) hn8) (.consWD (.passRow o (.tmp o)) o o (.nil (.blkNormal (zb.j _ (za h)))))))))))
   ·
    have h:=qh hK4 hj4
    exact .nameRow (t:=4) (g:=5003) o o o (fun s5003=>(.rn mx (.adi o (.mv o (.nil (.anon (t:=4) (g:=5003) o o trivial o (zb.ag (za h))))))))
  ·
   refine .exit (.thenExit (.thenExit (.blkExit (.anon (t:=4) (g:=5002) o o trivial o ?_))))
   replace h:=hD2 _ (za h)
   exact zb.j _ (za h)
 ·
  have h:=yO hK1 hj1
  refine .freezeRowA (t:=4) o o zi.nil o (.sn mx (.mv o (.asn o (.asb (.nil (.ret ?_))))))
  obtain rfl:=za h
  exact zb.ret2 (.inl o) Tryz.results101 (zt.tmp o trivial Imp.refl) (zt.tmp o trivial Imp.refl)
theorem zjl {w1:yQ}{many1:Int}{r:((List Int)×Bool×yQ)}{m36:Nat}(h:zav w1 many1=some r):zS Tryz.prog 76 [isV (ptr m36 0),rep many1] [(ptr m36 0,zC 155 w1)] (tup [rep r.1,rep r.2.1]) [some (zC 155 r.2.2)]:=by
 unfold zav at h
 refine zS.i Tryz.func76 o Tryz.ntmps76 o (fun F=>(.sn mx (.c (.assign .none (.const (x:=([]:(List Int))) (fun M w=>⟨_,⟨none,0,rfl,Nat.le_refl _,by decide,rfl⟩,rfl⟩))) (.asb (.nil (.seq (.sr [oo,oo,oo,([36],[]),oo,oo,oo] mx (.mvA o (.cA (.nilCheckP .none (.s o)) (.cA (.fieldPtr .none qs (.s o)) (.cA (.loadAt (k:=36) .none qj o (.s o) qN) (.cA (.len .none zX (.s o)) (.mvA o (.cA (.lt .none (.s o) (.s o)) (.nil (.cb o h (fun _ h=>?_) fun _ h=>?_))))))))))))))))
 ·
  refine .sn mx (.c (.assign .none (.const (x:=([]:(List Int))) (fun M w=>⟨_,⟨none,0,rfl,Nat.le_refl _,by decide,rfl⟩,rfl⟩))) (.asb (.nil (.ret (.thenRet ?_)))))
  obtain rfl:=za h
  exact zb.ret2O (.inl o) [36] Tryz.results76 (by decide) (.held o .nil) (zt.tmp o trivial Imp.refl) (zt.tmp o trivial Imp.refl)
 ·
  obtain⟨hn2,h⟩:=zn h
  obtain⟨r1,hv3,h⟩:=bind_some h
  obtain⟨hn4,h⟩:=zn h
  obtain⟨v1,hv5,h⟩:=zv h
  obtain⟨c1,hv6,h⟩:=zv h
  refine .skip (.then (.sr [oo,oo,oo,([36],[]),oo,oo,oo,oo,oo,oo,oo,oo] mx (.mvA o (.cA (.nilCheckP .none (.s o)) (.cA (.fieldPtr .none qs (.s o)) (.cA (.loadAt (k:=36) .none qj o (.s o) qN) (.mvA o (.cA (.slice .none zX ty9 (.s o) o (.s o) (fun _=>hn2)) (.cA (.call .none (zqd hv3) (.cons (.s o) .nil)) (.mvA o (.exA o o (.exA o o (.asnA o (.asnA o (.nil (.sr [oo,oo,oo,oo,([36],[]),oo,oo,oo,oo,([36],[36])] mx (.mvA o (.mvA o (.cA (.nilCheckP .none (.s o)) (.cA (.fieldPtr .none qs (.s o)) (.cA (.loadAt (k:=36) .none qj o (.s o) qN) (.mvA o (.cA (.re hv5 (.slice .none zX ty9 (.s o) (.s o) o (fun _=>hn4))) (.cA (.nilCheckP .none (.s o)) (.cA (.fieldPtr .none qs (.s o)) (.cN (.storeAt (g:=36) qj o (.s o) zcO (.s o)) (.nil (.reB (t:=36) o (congrArg (fun y=>yG m36 155 y) hv6) (.sn mx (.mv o (.mv o (.asn o (.asn o (.nil (.ret ?_)))))))))))))))))))))))))))))))))))
  obtain rfl:=za h
  exact zb.ret2O (.inl o) [36] Tryz.results76 (by decide) (.held o .nil) (zt.tmp o trivial Imp.refl) (zt.tmp o trivial Imp.refl)
theorem zqb {l1:(List Int)}{r:((List zJ)×Bool)}  (h:zbR l1=some r):zr Tryz.prog 77 [rep l1] (tup [rep r.1,rep r.2]):=by
 unfold zbR at h
 refine zr.i Tryz.func77 o Tryz.ntmps77 o (fun F=>(.sn mx (.c (.assign .none (.const (x:=([]:(List zJ))) (fun M w=>⟨_,⟨none,0,rfl,Nat.le_refl _,by decide,rfl⟩,rfl⟩))) (.asb (.nil (.seq (.sn mx (.mv o (.ln qS o (.c (.rem .none (.s o) .i (fun _=>by decide)) (.eqi o (.mv o (.mg o o o (.c (.len (.at o o) qS (.tmp o id)) (.c (.eqI (.at o o) (.tmp o id) .i) (.po o o (.nil (.cb o h (fun _ h=>?_) fun _ h=>?_))))))))))))))))))
 ·
  refine .sn mx (.c (.assign .none (.const (x:=([]:(List zJ))) (fun M w=>⟨_,⟨none,0,rfl,Nat.le_refl _,by decide,rfl⟩,rfl⟩))) (.asb (.nil (.ret (.thenRet ?_)))))
  obtain rfl:=za h
  exact zb.ret2 (.inl o) Tryz.results77 (zt.tmp o trivial Imp.refl) (zt.tmp o trivial Imp.refl)
 ·
  refine .skip (.then (.sr [([],[4])] mx (.cW (.nilRow (T:=166) (α:=zJ) o) (.nil (.nameRow (t:=4) (g:=5001) o o o (fun s5001=>(.seq (.sn mx (.asi (.nil ?_))))))))))
  obtain⟨j_2,h,hK2⟩:=bind_some h
  refine .thenJ (ι:=(List zJ)) (fun j_2=>[]) (fun j_2=>[(4,some (zp 166 j_2))]) (fun s=>j_2=s) Sub.nil zi.nil ?_ (fun j_2' hj2=>?_)
  ·
   refine .block (.anon (t:=4) (g:=5001) o o trivial o (.loopL h (fun s3_=>[(5,⟨True,rep s3_.2⟩)]) (fun s3_=>[(4,some (zp 166 s3_.1))]) (.k 5 o .nil) (.k 4 o .nil) (.k 0 o .nil) zi.nil (fun s3_ o_3 h hD3=>?_)))
   unfold zaA at h
   refine .nameRow (t:=4) (g:=5002) o o o (fun s5002=>(.seq (.sn mx (.mv o (.mv o (.ln qS o (.lt o o (.nil (.cb o h (fun _ h=>?_) fun _ h=>?_)))))))))
   ·
    obtain⟨hn5,h⟩:=zn h
    obtain⟨hn6,h⟩:=zn h
    obtain⟨hn7,h⟩:=zn h
    obtain⟨out1,hv8,h⟩:=zv h
    obtain⟨i1,hv9,h⟩:=zv h
    exact .skip (.then (.seq (.block (.rg [oo,oo,oo,oo,oo,oo,oo,oo,oo,oo,oo,oo,([5002],[33,5002]),([33],[4,33])] mx (.mvA o (.mvA o (.mvA o (.ixA qS ty3 o o hn5 (.ldA ty3 o (.mvA o (.mvA o (.cA (.addW .none (.s o) .i) (.ixA qS ty3 o o hn6 (.ldA ty3 o (.cA (.buildF (y:=(⟨gx l1 s3_.2,gx l1 (W (s3_.2+1))⟩:zJ)) .none zpb zwe o (.cons (.s o) (.cons (.s o) .nil)) (.cons o zui (.cons o zuj .nil))) (.cA (.buildSlice (xs:=[_]) .none vW QS zku (.cons (.s o) .nil) o (by decide)) (.cW (.append (k:=5002) zmv o (.told (.s o) o) (.s o) hn7) (.consWD (.passRow o (.tmp o)) o o (.nil (.blkNormal (.then (.reB (t:=4) o (congrArg (zp 166) hv8) (.nameRow (t:=4) (g:=5003) o o o (fun s5003=>(.rn mx (.mv o (.adi o (.ra hv9 o (.nil (.anon (t:=4) (g:=5003) o o trivial o (zb.ag (za h))))))))))))))))))))))))))))))))
   ·
    refine .exit (.thenExit (.thenExit (.blkExit (.anon (t:=4) (g:=5002) o o trivial o ?_))))
    replace h:=hD3 _ (za h)
    exact zb.j _ (za h)
  ·
   subst hj2;have h:=hK2;clear hK2
   refine .freezeRowA (t:=4) o o zi.nil o (.sn mx (.mv o (.asn o (.asb (.nil (.ret ?_))))))
   obtain rfl:=za h
   exact zb.ret2 (.inl o) Tryz.results77 (zt.tmp o trivial Imp.refl) (zt.tmp o trivial Imp.refl)
theorem zfW {w1:yQ}{word1:Str}{r:(Str×yQ)}{m25:Nat}(h:Qy w1 word1=some r):zS Tryz.prog 78 [isV (ptr m25 0),rep word1] [(ptr m25 0,zC 155 w1)] (rep r.1) [some (zC 155 r.2)]:=by
 unfold Qy at h
 obtain⟨hn1,h⟩:=zn h
 refine zS.i Tryz.func78 o Tryz.ntmps78 o (fun F=>(.sn mx (.c (.assign .none (.str (l:=[]) (by decide))) (.nil (.seq (.sr [oo,oo,oo,([25],[]),oo,oo,oo,oo,oo,oo,([25],[]),oo,oo,oo,oo,oo] mx (.mvA o (.cA (.nilCheckP .none (.s o)) (.cA (.fieldPtr .none qs (.s o)) (.cA (.loadAt (k:=25) .none qj o (.s o) qN) (.cA (.len .none zX (.s o)) (.cA (.lt .none (.s o) .i) (.mvA o (.cA (.move (.at o o) (.s o)) (.cA (.nilCheckP (.at o o) (.tmp o id)) (.cA (.fieldPtr (.at o o) qs (.tmp o id)) (.cA (.loadAt (k:=25) (.at o o) qj o (.tmp o id) qN) (.cA (.indexAddr (.at o o) zX ty9 (.tmp o id) .i (fun hg=>hn1 hg.2)) (.cA (.load (.at o o) ty9 (.tmp o id)) (.cA (.move (.at o o) (.s o)) (.cA (.neS (.at o o) (z6 Tryz.underlying9) (.tmp o id) (.tmp o id)) (.cA (.pickOr .none (.s o) (.tmp o id)) (.nil (.cb o h (fun _ h=>?_) fun _ h=>?_))))))))))))))))))))))))
 ·
  refine .sn mx (.c (.assign .none (.str (l:=[]) (by decide))) (.nil (.ret (.thenRet ?_))))
  obtain rfl:=za h
  exact zb.ret1O (.inl o) [25] Tryz.results78 (by decide) (.held o .nil) (zt.tmp o trivial Imp.refl)
 ·
  obtain⟨r1,hv3,h⟩:=bind_some h
  obtain⟨r2,hv4,h⟩:=bind_some h
  refine .skip (.then (.sr [oo,([25],[25])] mx (.mvA o (.cW (.cO [25] (Jx hv3) (.cons (.s o) .nil) (.cons (k:=25) o .nil) o) (.nil (.sr [oo,([25],[25]),oo] mx (.mvA o (.cW (.cO [25] (Jx hv4) (.cons (.s o) .nil) (.cons (k:=25) o .nil) o) (.asnA o (.nil (.ret ?_)))))))))))
  obtain rfl:=za h
  exact zb.ret1O (.inl o) [25] Tryz.results78 (by decide) (.held o .nil) (zt.tmp o trivial Imp.refl)
theorem zjg {l1:(List Str)}{text1:Str}{r:(zA×Bool)}  (h:zaq l1 text1=some r):zr Tryz.prog 29 [rep l1,rep text1] (tup [rep r.1,rep r.2]):=by
 unfold zaq at h
 obtain⟨x1,hv1,h⟩:=zv h
 obtain⟨hn2,h⟩:=zn h
 obtain⟨v1,hv3,h⟩:=zv h
 obtain⟨r1,hv4,h⟩:=bind_some h
 obtain⟨x2,hv5,h⟩:=zv h
 refine zr.i Tryz.func29 o Tryz.ntmps29 o (fun F=>(.sr [([],[4]),oo] mx (.al zbB o (.cA (.assign .none .bool) (.nil (.reB (t:=4) o (congrArg (zC 73) hv1) (.nameBox (t:=4) (g:=5001) o o (fun m5001=>(.sr [oo,oo,oo,([],[17]),([17],[6,17])] mx (.mvA o (.cA (.slice .none zX ty9 (.s o) .i o (fun _=>hn2)) (.cA (.re hv3 (.buildF (y:=(⟨seg l1 1 (l1.length:Int)⟩:yQ)) .none ziN znJ o (.cons (.s o) .nil) (.cons o zcO .nil))) (.cW (.boxO o (.s o)) (.cW (.passRow o (.tmp o)) (.nil (.nameBox (t:=6) (g:=5002) o o (fun m5002=>(.sr [oo,([5002],[5002]),oo,oo,([5001],[5001]),oo,([5001],[5001])] mx (.mvA o (.cW (.cO [5002] (Jx hv4) (.cons (.s o) .nil) (.cons (k:=5002) o .nil) o) (.mvA o (.cA (.fieldPtr .none JF (.s o)) (.cN (.storeAt (g:=5001) ty9 o (.s o) zuw (.s o)) (.cA (.fieldPtr .none zdV (.s o)) (.cN (.storeAt (g:=5001) ty9 o (.s o) zuz (.s o)) (.nil (.reB (t:=5001) o (congrArg (fun y=>yG m5001 73 y) hv5) (.seq (.sr [oo,([5001],[]),oo,oo,oo,oo,oo,([5002],[]),oo,oo,oo] mx (.cA (.fieldPtr .none JF (.s o)) (.cA (.loadAt (k:=5001) .none ty9 o (.s o) zaN) (.cA (.eqS .none (z6 Tryz.underlying9) (.s o) (.str (l:=[]) (by decide))) (.mvA o (.cA (.move (.at o o) (.s o)) (.cA (.nilCheckP (.at o o) (.tmp o id)) (.cA (.fieldPtr (.at o o) qs (.tmp o id)) (.cA (.loadAt (k:=5002) (.at o o) qj o (.tmp o id) qN) (.cA (.len (.at o o) zX (.tmp o id)) (.cA (.lt (.at o o) (.tmp o id) .i) (.cA (.pickOr .none (.s o) (.tmp o id)) (.nil (.cb o h (fun _ h=>?_) fun _ h=>?_))))))))))))))))))))))))))))))))))))))))))
 ·
  refine .sr [([5001],[]),([5001],[5001]),oo] mx (.cA (.loadAt0 (k:=5001) .none yP o (.s o)) (.s0 5001 yP o o o (.cA (.assign .none .bool) (.nil (.fb 5001 [4] o (.cons (t:=4) o trivial .nil) (.ret (.thenRet ?_)))))))
  obtain rfl:=za h
  exact zb.r2 Tryz.results29 yP o o
 ·
  obtain⟨hn7,h⟩:=zn h
  obtain⟨r2,hv8,h⟩:=bind_some h
  obtain⟨hn9,h⟩:=zn h
  obtain⟨r3,hv10,h⟩:=bind_some h
  obtain⟨x3,hv11,h⟩:=zv h
  obtain⟨hn12,h⟩:=zn h
  obtain⟨v2,hv13,h⟩:=zv h
  obtain⟨w1,hv14,h⟩:=zv h
  refine .skip (.then (.sr [oo,oo,oo,([5002],[]),oo,oo,oo,oo,oo,([],[7]),([7],[7]),oo] mx (.mvA o (.cA (.nilCheckP .none (.s o)) (.cA (.fieldPtr .none qs (.s o)) (.cA (.loadAt (k:=5002) .none qj o (.s o) qN) (.cA (.slice .none zX ty9 (.s o) o .i (fun _=>hn7)) (.cA (.call .none (zjw hv8) (.cons (.s o) .nil)) (.mvA o (.exA o o (.exA o o (.al zfp o (.st qu o o o (.asnA o (.nil (.freeze (t:=7) o o (.k2 5001 5002 o o .nil) o (.sr [oo,oo,oo,([5002],[]),oo,oo,oo,oo,oo,([],[9]),([9],[9]),oo] mx (.mvA o (.cA (.nilCheckP .none (.s o)) (.cA (.fieldPtr .none qs (.s o)) (.cA (.loadAt (k:=5002) .none qj o (.s o) qN) (.cA (.slice .none zX ty9 (.s o) .i .i (fun _=>hn9)) (.cA (.call .none (zjw hv10) (.cons (.s o) .nil)) (.mvA o (.exA o o (.exA o o (.al zfp o (.st qu o o o (.asnA o (.nil (.freeze (t:=9) o o (.k2 5001 5002 o o .nil) o (.sr [oo,oo,oo,([5001],[5001]),oo,([5001],[5001])] mx (.ldA qu o (.ldA qu o (.cA (.fieldPtr .none zdT (.s o)) (.cN (.storeAt (g:=5001) qu o (.s o) zux (.s o)) (.cA (.fieldPtr .none zdU (.s o)) (.cN (.storeAt (g:=5001) qu o (.s o) zuy (.s o)) (.nil (.reB (t:=5001) o (congrArg (fun y=>yG m5001 73 y) hv11) (.sr [oo,oo,oo,oo,([5002],[]),oo,oo,oo,([5002],[5002])] mx (.mvA o (.mvA o (.cA (.nilCheckP .none (.s o)) (.cA (.fieldPtr .none qs (.s o)) (.cA (.loadAt (k:=5002) .none qj o (.s o) qN) (.cA (.re hv13 (.slice .none zX ty9 (.s o) .i o (fun _=>hn12))) (.cA (.nilCheckP .none (.s o)) (.cA (.fieldPtr .none qs (.s o)) (.cN (.storeAt (g:=5002) qj o (.s o) zcO (.s o)) ?_))))))))))))))))))))))))))))))))))))))))))))))))))
  refine .nil (.reB (t:=5002) o (congrArg (fun y=>yG m5002 155 y) hv14) (.seq (.sn mx (.mv o (.c (.not .none (.s o)) (.mv o (.mg o o o (.c (.not (.at o o) (.tmp o id)) (.po o o (.nil (.cb o h (fun _ h=>?_) fun _ h=>?_)))))))))))
  ·
   refine .sr [([5001],[]),([5001],[5001]),oo] mx (.cA (.loadAt0 (k:=5001) .none yP o (.s o)) (.s0 5001 yP o o o (.cA (.assign .none .bool) (.nil (.fb 5001 [4] o (.cons (t:=4) o trivial .nil) (.ret (.thenRet ?_)))))))
   obtain rfl:=za h
   exact zb.r2 Tryz.results29 yP o o
  ·
   obtain⟨hn16,h⟩:=zn h
   refine .skip (.then (.seq (.sr [oo,oo,oo,([5002],[]),oo,oo,oo,oo,oo,oo,([5002],[]),oo,oo,oo,oo] mx (.mvA o (.cA (.nilCheckP .none (.s o)) (.cA (.fieldPtr .none qs (.s o)) (.cA (.loadAt (k:=5002) .none qj o (.s o) qN) (.cA (.len .none zX (.s o)) (.cA (.gt .none (.s o) .i) (.mvA o (.cA (.move (.at o o) (.s o)) (.cA (.nilCheckP (.at o o) (.tmp o id)) (.cA (.fieldPtr (.at o o) qs (.tmp o id)) (.cA (.loadAt (k:=5002) (.at o o) qj o (.tmp o id) qN) (.cA (.indexAddr (.at o o) zX ty9 (.tmp o id) .i (fun hg=>hn16 hg.2)) (.cA (.load (.at o o) ty9 (.tmp o id)) (.cA (.eqS (.at o o) (z6 Tryz.underlying9) (.tmp o id) (.str (l:=[98,121]) (by decide))) (.cA (.pickAnd .none (.s o) (.tmp o id)) (.nil ?_)))))))))))))))))))
   obtain⟨o_17,h,hK17⟩:=yN h
   refine .thenJ (ι:=(zA×yQ)) (fun j_17=>[]) (fun j_17=>[(5001,some (yG m5001 73 j_17.1)),(5002,some (yG m5002 155 j_17.2))]) (fun s=>o_17=Res.nx s) (.k2 4 6 o o .nil) zi.nil ?_ (fun j_17 hj17=>?_)
   ·
    refine .cb o h (fun _ h=>?_) fun _ h=>?_
    ·
     obtain⟨r4,hv19,h⟩:=bind_some h
     refine .sr [oo,([5002],[5002])] mx (.mvA o (.cW (.cO [5002] (Jx hv19) (.cons (.s o) .nil) (.cons (k:=5002) o .nil) o) (.nil (.sn mx (.asi (.nil (.seq ?_)))))))
     obtain⟨j_20,h,hK20⟩:=bind_some h
     refine .thenJ (ι:=Int) (fun j_20=>[(11,⟨True,rep j_20⟩)]) (fun j_20=>[]) (fun s=>j_20=s) (.k2 4 6 o o .nil) (.k2 5001 5002 o o .nil) ?_ (fun j_20' hj20=>?_)
     ·
      refine .block (.loopL h (fun s21_=>[(11,⟨True,rep s21_⟩)]) (fun s21_=>[]) (.k 11 o .nil) zi.nil (.k2 4 6 o o .nil) (.k2 5001 5002 o o .nil) (fun s21_ o_21 h hD21=>?_))
      unfold zar at h
      obtain⟨hn22,h⟩:=zn h
      refine .seq (.sr [oo,oo,oo,oo,([5002],[]),oo,oo,oo,oo,oo,oo,([5002],[]),oo,oo,oo,oo,oo] mx (.mvA o (.mvA o (.cA (.nilCheckP .none (.s o)) (.cA (.fieldPtr .none qs (.s o)) (.cA (.loadAt (k:=5002) .none qj o (.s o) qN) (.cA (.len .none zX (.s o)) (.cA (.lt .none (.s o) (.s o)) (.mvA o (.cA (.move (.at o o) (.s o)) (.cA (.nilCheckP (.at o o) (.tmp o id)) (.cA (.fieldPtr (.at o o) qs (.tmp o id)) (.cA (.loadAt (k:=5002) (.at o o) qj o (.tmp o id) qN) (.cA (.move (.at o o) (.s o)) (.cA (.indexAddr (.at o o) zX ty9 (.tmp o id) (.tmp o id) (fun hg=>hn22 hg.2)) (.cA (.load (.at o o) ty9 (.tmp o id)) (.cA (.neS (.at o o) (z6 Tryz.underlying9) (.tmp o id) (.str (l:=[99,108,97,115,115]) (by decide))) (.cA (.pickAnd .none (.s o) (.tmp o id)) (.nil (.cb o h (fun _ h=>?_) fun _ h=>?_))))))))))))))))))))
      ·
       obtain⟨many1,hv24,h⟩:=zv h
       exact .skip (.then (.block (.rn mx (.mv o (.adi o (.ra hv24 o (.nil (.blkNormal (zb.ag (za h))))))))))
      ·
       refine .exit (.thenExit (.thenExit (.blkExit ?_)))
       replace h:=hD21 _ (za h)
       exact zb.j _ (za h)
     ·
      subst hj20;have h:=hK20;clear hK20
      obtain⟨r5,hv25,h⟩:=bind_some h
      refine .sr [oo,oo,([5002],[5002]),oo,oo,oo,oo,oo] mx (.mvA o (.mvA o (.cW (.cO [5002] (zjl hv25) (.cons (.s o) (.cons (.s o) .nil)) (.cons (k:=5002) o .nil) o) (.mvA o (.exA o o (.exA o o (.asnA o (.asnA o (.nil (.seq (.sn mx (.mv o (.c (.not .none (.s o)) (.nil (.cb o h (fun _ h=>?_) fun _ h=>?_)))))))))))))))
      ·
       refine .sr [([5001],[]),([5001],[5001]),oo] mx (.cA (.loadAt0 (k:=5001) .none yP o (.s o)) (.s0 5001 yP o o o (.cA (.assign .none .bool) (.nil (.fb 5001 [4] o (.cons (t:=4) o trivial .nil) (.ret (.thenRet (.thenRet ?_))))))))
       replace h:=yk hK17 (za h)
       obtain rfl:=za h
       exact zb.r2 Tryz.results29 yP o o
      ·
       obtain⟨r6,hv27,h⟩:=bind_some h
       obtain⟨x4,hv28,h⟩:=zv h
       refine .skip (.then (.sr [oo,oo,oo,oo,oo,oo,([5001],[5001]),oo] mx (.mvA o (.cA (.call .none (zqb hv27) (.cons (.s o) .nil)) (.mvA o (.exA o o (.exA o o (.cA (.fieldPtr .none Yc (.s o)) (.cN (.storeAt (g:=5001) Yw o (.s o) zmV (.s o)) (.asnA o (.nil (.reB (t:=5001) o (congrArg (fun y=>yG m5001 73 y) hv28) (.sn mx (.mv o (.c (.not .none (.s o)) (.nil (.cb o h (fun _ h=>?_) fun _ h=>?_)))))))))))))))))
       ·
        refine .sr [([5001],[]),([5001],[5001]),oo] mx (.cA (.loadAt0 (k:=5001) .none yP o (.s o)) (.s0 5001 yP o o o (.cA (.assign .none .bool) (.nil (.fb 5001 [4] o (.cons (t:=4) o trivial .nil) (.ret (.thenRet ?_)))))))
        replace h:=yk hK17 (za h)
        obtain rfl:=za h
        exact zb.r2 Tryz.results29 yP o o
       ·
        exact .skip (zb.j _ (za h))
    ·
     exact .skip (zb.j _ (za h))
   ·
    have h:=yO hK17 hj17
    obtain⟨r7,hv30,h⟩:=bind_some h
    obtain⟨x5,hv31,h⟩:=zv h
    refine .sr [oo,([5002],[5002]),oo,([5001],[5001])] mx (.mvA o (.cW (.cO [5002] (zfW hv30) (.cons (.s o) (.cons (.str (l:=[99,108,97,115,115]) (by decide)) .nil)) (.cons (k:=5002) o .nil) o) (.cA (.fieldPtr .none zb4 (.s o)) (.cN (.storeAt (g:=5001) ty9 o (.s o) zuA (.s o)) (.nil (.freezeBox (g:=5002) (ts:=[6]) o (.cons (t:=6) o trivial .nil) (.k 5001 o .nil) o (.reB (t:=5001) o (congrArg (fun y=>yG m5001 73 y) hv31) (.sr [([5001],[]),oo,oo,oo,oo,oo,oo,([5001],[5001]),oo] mx (.cA (.loadAt0 (k:=5001) .none yP o (.s o)) (.mvA o (.cA (.nilCheckR .none (.s o)) (.faA qs qN o (.ldA qj o (.cA (.len .none zX (.s o)) (.cA (.eqI .none (.s o) .i) (.s0 5001 yP o o o (.asnA o (.nil (.fb 5001 [4] o (.cons (t:=4) o trivial .nil) (.ret ?_))))))))))))))))))))
    obtain rfl:=za h
    exact zb.r2 Tryz.results29 yP o o
theorem zjh {l1:(List Str)}{text1:Str}{r:(zl×Bool)}  (h:zas l1 text1=some r):zr Tryz.prog 30 [rep l1,rep text1] (tup [rep r.1,rep r.2]):=by
 unfold zas at h
 obtain⟨n1,hv1,h⟩:=zv h
 obtain⟨v1,hv2,h⟩:=zv h
 obtain⟨r1,hv3,h⟩:=bind_some h
 obtain⟨r2,hv4,h⟩:=bind_some h
 obtain⟨r3,hv5,h⟩:=bind_some h
 obtain⟨n2,hv6,h⟩:=zv h
 obtain⟨r4,hv7,h⟩:=bind_some h
 obtain⟨n3,hv8,h⟩:=zv h
 refine zr.i Tryz.func30 o Tryz.ntmps30 o (fun F=>(.sr [([],[4]),oo] mx (.al vC o (.cA (.assign .none .bool) (.nil (.reB (t:=4) o (congrArg (zC 47) hv1) (.nameBox (t:=4) (g:=5001) o o (fun m5001=>(.sr [oo,oo,([],[11]),([11],[6,11])] mx (.mvA o (.cA (.re hv2 (.buildF (y:=(⟨l1⟩:yQ)) .none ziN znJ o (.cons (.s o) .nil) (.cons o zcO .nil))) (.cW (.boxO o (.s o)) (.cW (.passRow o (.tmp o)) (.nil (.nameBox (t:=6) (g:=5002) o o (fun m5002=>(.sr [oo,oo,([5002],[5002]),oo,oo,([5001],[5001])] mx (.cA (.call .none (zdA hv3) .nil) (.mvA o (.cW (.cO [5002] (Jx hv4) (.cons (.s o) .nil) (.cons (k:=5002) o .nil) o) (.cA (.call .none (zhR hv5) (.cons (.s o) (.cons (.s o) .nil))) (.cA (.fieldPtr .none jo (.s o)) (.cN (.storeAt (g:=5001) ty3 o (.s o) zun (.s o)) (.nil (.reB (t:=5001) o (congrArg (fun y=>yG m5001 47 y) hv6) (.sr [oo,([5002],[5002]),oo,oo,([5001],[5001]),oo,([5001],[5001])] mx (.mvA o (.cW (.cO [5002] (Jx hv7) (.cons (.s o) .nil) (.cons (k:=5002) o .nil) o) (.mvA o (.cA (.fieldPtr .none Qh (.s o)) (.cN (.storeAt (g:=5001) ty9 o (.s o) zum (.s o)) (.cA (.fieldPtr .none zdR (.s o)) (.cN (.storeAt (g:=5001) ty9 o (.s o) zup (.s o)) (.nil (.reB (t:=5001) o (congrArg (fun y=>yG m5001 47 y) hv8) (.seq (.sr [oo,([5001],[]),oo,oo,oo,([5001],[]),oo,oo] mx (.cA (.fieldPtr .none jo (.s o)) (.cA (.loadAt (k:=5001) .none ty3 o (.s o) jC) (.cA (.lt .none (.s o) .i) (.mvA o (.cA (.fieldPtr (.at o o) Qh (.s o)) (.cA (.loadAt (k:=5001) (.at o o) ty9 o (.tmp o id) QF) ?_)))))))))))))))))))))))))))))))))))))))))))
 refine .cA (.eqS (.at o o) (z6 Tryz.underlying9) (.tmp o id) (.str (l:=[]) (by decide))) (.cA (.pickOr .none (.s o) (.tmp o id)) (.nil (.cb o h (fun _ h=>?_) fun _ h=>?_)))
 ·
  refine .sr [([5001],[]),([5001],[5001]),oo] mx (.cA (.loadAt0 (k:=5001) .none yd o (.s o)) (.s0 5001 yd o o o (.cA (.assign .none .bool) (.nil (.fb 5001 [4] o (.cons (t:=4) o trivial .nil) (.ret (.thenRet ?_)))))))
  obtain rfl:=za h
  exact zb.r2 Tryz.results30 yd o o
 ·
  refine .skip (.then (.seq (.sr [oo,([5001],[]),oo] mx (.cA (.fieldPtr .none jo (.s o)) (.cA (.loadAt (k:=5001) .none ty3 o (.s o) jC) (.cA (.neI .none (.s o) .i) (.nil ?_)))))))
  obtain⟨o_10,h,hK10⟩:=yN h
  refine .thenJ (ι:=(zl×yQ)) (fun j_10=>[]) (fun j_10=>[(5001,some (yG m5001 47 j_10.1)),(5002,some (yG m5002 155 j_10.2))]) (fun s=>o_10=Res.nx s) (.k2 4 6 o o .nil) zi.nil ?_ (fun j_10 hj10=>?_)
  ·
   refine .cb o h (fun _ h=>?_) fun _ h=>?_
   ·
    obtain⟨r5,hv12,h⟩:=bind_some h
    refine .sr [oo,([5002],[5002]),oo,oo,oo,oo,oo] mx (.mvA o (.cW (.cO [5002] (zjl hv12) (.cons (.s o) (.cons .i .nil)) (.cons (k:=5002) o .nil) o) (.mvA o (.exA o o (.exA o o (.asnA o (.asnA o (.nil (.seq (.sn mx (.mv o (.c (.not .none (.s o)) (.nil (.cb o h (fun _ h=>?_) fun _ h=>?_))))))))))))))
    ·
     refine .sr [([5001],[]),([5001],[5001]),oo] mx (.cA (.loadAt0 (k:=5001) .none yd o (.s o)) (.s0 5001 yd o o o (.cA (.assign .none .bool) (.nil (.fb 5001 [4] o (.cons (t:=4) o trivial .nil) (.ret (.thenRet (.thenRet ?_))))))))
     replace h:=yk hK10 (za h)
     obtain rfl:=za h
     exact zb.r2 Tryz.results30 yd o o
    ·
     obtain⟨hn14,h⟩:=zn h
     obtain⟨hn15,h⟩:=zn h
     obtain⟨hn16,h⟩:=zn h
     obtain⟨hn17,h⟩:=zn h
     obtain⟨v2,hv18,h⟩:=zv h
     exact .skip (.then (.rg [oo,oo,oo,oo,oo,oo,oo,oo,oo,oo,oo,oo,oo,oo,([5001],[5001])] mx (.mvA o (.cA (.indexAddr .none qS ty3 (.s o) .i (fun _=>hn14)) (.ldA ty3 o (.mvA o (.cA (.indexAddr .none qS ty3 (.s o) .i (fun _=>hn15)) (.ldA ty3 o (.mvA o (.cA (.indexAddr .none qS ty3 (.s o) .i (fun _=>hn16)) (.ldA ty3 o (.mvA o (.cA (.indexAddr .none qS ty3 (.s o) .i (fun _=>hn17)) (.ldA ty3 o (.cA (.re hv18 (.buildF (y:=(⟨gx r5.1 0,gx r5.1 1,gx r5.1 2,gx r5.1 3⟩:Box)) .none vd vu o (.cons (.s o) (.cons (.s o) (.cons (.s o) (.cons (.s o) .nil)))) (.cons o zhC (.cons o zhD (.cons o zhE (.cons o zhF .nil)))))) (.cA (.fieldPtr .none vK (.s o)) (.cN (.storeAt (g:=5001) yi o (.s o) zuo (.s o)) (.nil (zb.j _ (za h))))))))))))))))))))
   ·
    exact .skip (zb.j _ (za h))
  ·
   have h:=yO hK10 hj10
   obtain⟨r6,hv19,h⟩:=bind_some h
   obtain⟨n4,hv20,h⟩:=zv h
   obtain⟨r7,hv21,h⟩:=bind_some h
   obtain⟨n5,hv22,h⟩:=zv h
   obtain⟨hn23,h⟩:=zn h
   refine .sr [oo,([5002],[5002]),oo,([5001],[5001])] mx (.mvA o (.cW (.cO [5002] (zfW hv19) (.cons (.s o) (.cons (.str (l:=[99,108,97,115,115]) (by decide)) .nil)) (.cons (k:=5002) o .nil) o) (.cA (.fieldPtr .none zb2 (.s o)) (.cN (.storeAt (g:=5001) ty9 o (.s o) zuq (.s o)) (.nil (.reB (t:=5001) o (congrArg (fun y=>yG m5001 47 y) hv20) (.sr [oo,([5002],[5002]),oo,([5001],[5001])] mx (.mvA o (.cW (.cO [5002] (zfW hv21) (.cons (.s o) (.cons (.str (l:=[105,110]) (by decide)) .nil)) (.cons (k:=5002) o .nil) o) (.cA (.fieldPtr .none vL (.s o)) (.cN (.storeAt (g:=5001) ty9 o (.s o) zur (.s o)) (.nil (.reB (t:=5001) o (congrArg (fun y=>yG m5001 47 y) hv22) (.seq (.sr [oo,oo,oo,([5002],[]),oo,oo,oo,oo,oo,oo,([5002],[]),oo,oo,oo,oo] mx (.mvA o (.cA (.nilCheckP .none (.s o)) (.cA (.fieldPtr .none qs (.s o)) (.cA (.loadAt (k:=5002) .none qj o (.s o) qN) (.cA (.len .none zX (.s o)) (.cA (.gt .none (.s o) .i) (.mvA o (.cA (.move (.at o o) (.s o)) (.cA (.nilCheckP (.at o o) (.tmp o id)) (.cA (.fieldPtr (.at o o) qs (.tmp o id)) (.cA (.loadAt (k:=5002) (.at o o) qj o (.tmp o id) qN) (.cA (.indexAddr (.at o o) zX ty9 (.tmp o id) .i (fun hg=>hn23 hg.2)) (.cA (.load (.at o o) ty9 (.tmp o id)) (.cA (.eqS (.at o o) (z6 Tryz.underlying9) (.tmp o id) (.str (l:=[108,111,99,107,101,100]) (by decide))) (.cA (.pickAnd .none (.s o) (.tmp o id)) (.nil ?_)))))))))))))))))))))))))))))))
   obtain⟨j_24,h,hK24⟩:=bind_some h
   refine .thenJ (ι:=(zl×yQ)) (fun j_24=>[]) (fun j_24=>[(5001,some (yG m5001 47 j_24.1)),(5002,some (yG m5002 155 j_24.2))]) (fun s=>j_24=s) (.k2 4 6 o o .nil) zi.nil ?_ (fun j_24' hj24=>?_)
   ·
    refine .cb o h (fun _ h=>?_) fun _ h=>?_
    ·
     obtain⟨n6,hv26,h⟩:=zv h
     obtain⟨r8,hv27,h⟩:=bind_some h
     exact .sr [oo,([5001],[5001])] mx (.cA (.fieldPtr .none zgg (.s o)) (.cN (.storeAt (g:=5001) ty4 o (.s o) zus .bool) (.nil (.reB (t:=5001) o (congrArg (fun y=>yG m5001 47 y) hv26) (.rg [oo,([5002],[5002])] mx (.mvA o (.cW (.cO [5002] (Jx hv27) (.cons (.s o) .nil) (.cons (k:=5002) o .nil) o) (.nil (zb.j _ (za h))))))))))
    ·
     exact .skip (zb.j _ (za h))
   ·
    subst hj24;have h:=hK24;clear hK24
    refine .freezeBox (g:=5002) (ts:=[6]) o (.cons (t:=6) o trivial .nil) (.k 5001 o .nil) o (.sr [([5001],[]),oo,oo,oo,oo,oo,oo,([5001],[5001]),oo] mx (.cA (.loadAt0 (k:=5001) .none yd o (.s o)) (.mvA o (.cA (.nilCheckR .none (.s o)) (.faA qs qN o (.ldA qj o (.cA (.len .none zX (.s o)) (.cA (.eqI .none (.s o) .i) (.s0 5001 yd o o o (.asnA o (.nil (.fb 5001 [4] o (.cons (t:=4) o trivial .nil) (.ret ?_)))))))))))))
    obtain rfl:=za h
    exact zb.r2 Tryz.results30 yd o o
end Go.Proofs.YtokamljonkipbaaGreatDoor
