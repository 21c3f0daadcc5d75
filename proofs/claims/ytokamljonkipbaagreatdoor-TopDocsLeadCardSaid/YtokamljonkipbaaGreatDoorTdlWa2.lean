/- A part of the proof. -/
import Derived.Test.YtokamljonkipbaaGreatDoorTdlWa1
set_option maxRecDepth 100000
set_option linter.unusedSimpArgs false
set_option linter.unusedVariables false
namespace Go.Proofs.YtokamljonkipbaaGreatDoor
open Go Go.DB Go.RowKit
theorem zpP {text1:Str}{r:(Doc×(List zz)×Int×Int)}  (h:zbK text1=some r):zr Tryz.prog 5 [rep text1] (tup [rep r.1,rep r.2.1,rep r.2.2.1,rep r.2.2.2]):=by
 unfold zbK at h
 obtain⟨v1,hv1,h⟩:=zv h
 refine zr.i Tryz.func5 o Tryz.ntmps5 o (fun F=>(.sr [([],[2]),oo,oo,oo] mx (.al zc3 o (.cA (.assign .none (.const (x:=([]:(List zz))) (fun M w=>⟨_,⟨none,0,rfl,Nat.le_refl _,by decide,rfl⟩,rfl⟩))) (.cA (.assign .none .i) (.cA (.assign .none .i) (.nil (.reB (t:=2) o (congrArg (zC 25) hv1) (.nameBox (t:=2) (g:=5001) o o (fun m5001=>(.seq (.sn mx (.mv o (.c (.lenStr .none Tryz.underlying9 (.s o)) (.c (.gt .none (.s o) .i) (.nil (.cb o h (fun _ h=>?_) fun _ h=>?_)))))))))))))))))
 ·
  obtain⟨v2,hv3,h⟩:=zv h
  refine .sr [oo,([5001],[5001]),oo,oo,oo] mx (.cA (.re hv3 (.buildF (y:=(⟨([]:(List zl)),([]:(List zA))⟩:Doc)) .none zdi zfo o .nil .nil)) (.s0 5001 yX o o o (.cA (.assign .none (.const (x:=([]:(List zz))) (fun M w=>⟨_,⟨none,0,rfl,Nat.le_refl _,by decide,rfl⟩,rfl⟩))) (.cA (.assign .none .i) (.cA (.assign .none .i) (.nil (.fb 5001 [2] o (.cons (t:=2) o trivial .nil) (.ret (.thenRet ?_)))))))))
  obtain rfl:=za h
  exact zb.ret4 (.inl o) Tryz.results5 (zt.cellR yX o trivial Imp.refl) (zt.tmp o trivial Imp.refl) (zt.tmp o trivial Imp.refl) (zt.tmp o trivial Imp.refl)
 ·
  refine .skip (.then (.sr [([],[6])] mx (.al zwi o (.nil (.nameAt (t:=6) (g:=5002) o o zcg o (fun m5002=>(.nilKey (g:=5003) (T:=47) (α:=zl) o (.nilKey (g:=5004) (T:=73) (α:=zA) o (.sr [([],[7])] mx (.cW (.nilRow (T:=37) (α:=zz) o) (.nil (.nameRow (t:=7) (g:=5005) o o o (fun s5005=>(.seq (.sn mx (.asi (.nil ?_)))))))))))))))))
  obtain⟨o_4,h,hK4⟩:=yN h
  refine .thenJ (ι:=((List zz)×Doc)) (fun j_4=>[]) (fun j_4=>[(7,some (zp 37 j_4.1)),(5002,some (zd.at (ptr m5002 0) (zQ (fun z0=>zQ (fun z1=>zC 25 (⟨⟨z0⟩,⟨z1⟩⟩:yF)) (zp 73 j_4.2.Edges)) (zp 47 j_4.2.Nodes))))]) (fun s=>o_4=Res.nx s) (.k2 2 6 o o .nil) (.k 5001 o .nil) ?_ (fun j_4 hj4=>?_)
  ·
   refine .block (.anon (t:=7) (g:=5005) o o trivial o (.close (k:=5002) (g:=5004) (fun z=>zC 25 (⟨⟨(.slice none 0 0)⟩,⟨z⟩⟩:yF)) o o o (.close (k:=5002) (g:=5003) (fun z=>zQ (fun z0=>zC 25 (⟨⟨z⟩,⟨z0⟩⟩:yF)) (zp 73 ([]:List zA))) o o o (.loopL h (fun s5_=>[(0,⟨True,rep s5_.1⟩),(8,⟨True,rep s5_.2.2.1⟩)]) (fun s5_=>[(7,some (zp 37 s5_.2.1)),(5002,some (zd.at (ptr m5002 0) (zQ (fun z0=>zQ (fun z1=>zC 25 (⟨⟨z0⟩,⟨z1⟩⟩:yF)) (zp 73 s5_.2.2.2.Edges)) (zp 47 s5_.2.2.2.Nodes))))]) (.k2 0 8 o o .nil) (.k2 7 5002 o o .nil) (.k2 2 6 o o .nil) (.k 5001 o .nil) (fun s5_ o_5 h hD5=>?_)))))
   unfold jT at h
   refine .nameRow (t:=7) (g:=5006) o o o (fun s5006=>(.open (k:=5002) (g:=5007) o o (fun s5007=>(.open (k:=5002) (g:=5008) o o (fun s5008=>(.seq (.sn mx (.mv o (.c (.neS .none (z6 Tryz.underlying9) (.s o) (.str (l:=[]) (by decide))) (.nil (.cb o h (fun _ h=>?_) fun _ h=>?_)))))))))))
   ·
    obtain⟨r1,hv7,h⟩:=bind_some h
    obtain⟨r2,hv8,h⟩:=bind_some h
    obtain⟨ok1,hv9,h⟩:=zv h
    refine .skip (.then (.seq (.block (.sn mx (.mv o (.c (.call .none (znf hv7) (.cons (.s o) (.cons (.str (l:=[10]) (by decide)) .nil))) (.mv o (.ex o o (.ex o o (.ex o o (.asn o (.asn o (.asn o (.nil (.sn mx (.mv o (.asn o (.nil (.sn mx (.mv o (.c (.call .none (zjj hv8) (.cons (.s o) .nil)) (.mv o (.ex o o (.ex o o (.ex o o (.ex o o (.asn o (.asn o (.asn o (.asn o (.nil (.sn mx (.mv o (.mv o (.mg o o o (.pa o o (.mv o (.mg o o o (.c (.move (.at o o) (.tmp o id)) (.mg o o o (.c (.eqS (.at o o) (z6 Tryz.underlying9) (.tmp o id) (.str (l:=[]) (by decide))) (.c (.pickAnd (.at o o) (.tmp o id) (.tmp o id)) (.c (.not (.at o o) (.tmp o id)) (.pa o o (.ra hv9 o (.nil (.seq ?_)))))))))))))))))))))))))))))))))))))))))))))))
    obtain⟨j_10,h,hK10⟩:=bind_some h
    refine .thenJ (ι:=((List zz)×Bool×Doc)) (fun j_10=>[(15,⟨True,rep j_10.2.1⟩)]) (fun j_10=>[(7,some (zp 37 j_10.1)),(5002,some (zd.at (ptr m5002 0) (zQ (fun z0=>zQ (fun z1=>zC 25 (⟨⟨z0⟩,⟨z1⟩⟩:yF)) (zp 73 j_10.2.2.Edges)) (zp 47 j_10.2.2.Nodes))))]) (fun s=>j_10=s) (.k4 0 2 6 8 o o o o .nil) (.k 5001 o .nil) ?_ (fun j_10' hj10=>?_)
    ·
     refine .block (.sn mx (.mv o (.c (.not .none (.s o)) (.asn o (.nil (.cb o h (fun _ h=>?_) fun _ h=>?_))))))
     ·
      exact .skip (.blkNormal (.anon (t:=7) (g:=5006) o o trivial o (.close (k:=5002) (g:=5008) (fun z=>zC 25 (⟨⟨s5007⟩,⟨z⟩⟩:yF)) o o o (.close (k:=5002) (g:=5007) (fun z=>zQ (fun z0=>zC 25 (⟨⟨z⟩,⟨z0⟩⟩:yF)) (zp 73 s5_.2.2.2.Edges)) o o o (zb.j _ (za h))))))
     ·
      obtain⟨hn12,h⟩:=zn h
      refine .sn mx (.mv o (.c (.indexAddr .none zX ty9 (.s o) .i (fun _=>hn12)) (.ld ty9 o (.c (.eqS .none (z6 Tryz.underlying9) (.s o) (.str (l:=[115,116,121,108,101]) (by decide))) (.asn o (.nil (.cb o h (fun _ h=>?_) fun _ h=>?_)))))))
      ·
       obtain⟨r3,hv14,h⟩:=bind_some h
       obtain⟨ok2,hv15,h⟩:=zv h
       obtain⟨hn16,h⟩:=zn h
       exact .sr [oo,oo,oo,oo,oo,([],[16]),([16],[16]),oo] mx (.mvA o (.cA (.call .none (zji hv14) (.cons (.s o) .nil)) (.mvA o (.exA o o (.exA o o (.al zc4 o (.st qf o o o (.asnA o (.nil (.freeze (t:=16) o o (.k2 5001 5002 o o (.k2 5006 5007 o o (.k 5008 o .nil))) o (.sr [oo,oo,oo,oo,oo,oo,oo,([5002],[]),([5007],[]),oo,oo,oo,oo,([5002],[]),([5008],[]),oo,oo,oo] mx (.mvA o (.mvA o (.cA (.move (.at o o) (.s o)) (.cA (.not (.at o o) (.tmp o id)) (.cA (.pickAnd .none (.s o) (.tmp o id)) (.mvA o (.cA (.fieldPtr (.at o o) qt (.s o)) (.cA (.loadAt (k:=5002) (.at o o) zh4 o (.tmp o id) zgy) (.cA (.lenG (k:=5007) (.at o o) y4 (.tmp o id) o) (.cA (.eqI (.at o o) (.tmp o id) .i) (.cA (.pickAnd .none (.s o) (.tmp o id)) (.mvA o (.cA (.fieldPtr (.at o o) jV (.s o)) (.cA (.loadAt (k:=5002) (.at o o) zac o (.tmp o id) JM) (.cA (.lenG (k:=5008) (.at o o) jx (.tmp o id) o) (.cA (.eqI (.at o o) (.tmp o id) .i) (.cA (.pickAnd .none (.s o) (.tmp o id)) (.cA (.re hv15 (.assign .none (.s o))) (.nil (.rg [oo,oo,oo,([5006],[110,5006]),([110],[7,110])] mx (.mvA o (.ldA qf o (.cA (.buildSlice (xs:=[_]) .none j8 qf zgz (.cons (.s o) .nil) o (by decide)) (.cW (.append (k:=5006) zhp o (.told (.s o) o) (.s o) hn16) (.cW (.passRow o (.tmp o)) (.nil (.blkNormal (.close (k:=5002) (g:=5008) (fun z=>zC 25 (⟨⟨s5007⟩,⟨z⟩⟩:yF)) o o o (.close (k:=5002) (g:=5007) (fun z=>zQ (fun z0=>zC 25 (⟨⟨z⟩,⟨z0⟩⟩:yF)) (zp 73 s5_.2.2.2.Edges)) o o o (zb.j _ (za h))))))))))))))))))))))))))))))))))))))))))
      ·
       obtain⟨hn17,h⟩:=zn h
       refine .sn mx (.mv o (.c (.indexAddr .none zX ty9 (.s o) .i (fun _=>hn17)) (.ld ty9 o (.c (.eqS .none (z6 Tryz.underlying9) (.s o) (.str (l:=[101,100,103,101]) (by decide))) (.asn o (.nil (.cb o h (fun _ h=>?_) fun _ h=>?_)))))))
       ·
        obtain⟨r4,hv19,h⟩:=bind_some h
        obtain⟨hn20,h⟩:=zn h
        exact .sr [oo,oo,oo,oo,oo,oo,([],[18]),([18],[18]),oo] mx (.mvA o (.mvA o (.cA (.call .none (zjg hv19) (.cons (.s o) (.cons (.s o) .nil))) (.mvA o (.exA o o (.exA o o (.al zbB o (.st yP o o o (.asnA o (.nil (.freeze (t:=18) o o (.k2 5001 5002 o o (.k2 5006 5007 o o (.k 5008 o .nil))) o (.sn mx (.mv o (.asn o (.nil (.rg [oo,([5002],[]),oo,oo,([5008],[127,5008]),oo,([5002,127],[5002,127])] mx (.cA (.fieldPtr .none jV (.s o)) (.cA (.loadAt (k:=5002) .none zac o (.s o) JM) (.ldA yP o (.cA (.buildSlice (xs:=[_]) .none jx yP zgB (.cons (.s o) .nil) o (by decide)) (.cW (.append (k:=5008) zho o (.told (.s o) o) (.s o) hn20) (.cA (.fieldPtr .none jV (.s o)) (.cN (.storeRow (k:=5002) (t:=127) Ji o (.s o) zh0 o o) (.nil (.blkNormal (.anon (t:=7) (g:=5006) o o trivial o (.open (k:=5002) (g:=5009) o o (fun s5009=>(.close (k:=5002) (g:=5009) (fun z=>zC 25 (⟨⟨s5007⟩,⟨z⟩⟩:yF)) o o o (.close (k:=5002) (g:=5007) (fun z=>zQ (fun z0=>zC 25 (⟨⟨z⟩,⟨z0⟩⟩:yF)) (zp 73 (s5_.2.2.2.Edges++[r4.1]))) o o o (zb.j _ (za h))))))))))))))))))))))))))))))))
       ·
        obtain⟨r5,hv21,h⟩:=bind_some h
        obtain⟨ok3,hv22,h⟩:=zv h
        obtain⟨hn23,h⟩:=zn h
        exact .sr [oo,oo,oo,oo,oo,oo,([],[20]),([20],[20]),oo] mx (.mvA o (.mvA o (.cA (.call .none (zjh hv21) (.cons (.s o) (.cons (.s o) .nil))) (.mvA o (.exA o o (.exA o o (.al vC o (.st yd o o o (.asnA o (.nil (.freeze (t:=20) o o (.k2 5001 5002 o o (.k2 5006 5007 o o (.k 5008 o .nil))) o (.sr [oo,oo,oo,([5002],[]),([5008],[]),oo,oo,oo] mx (.mvA o (.mvA o (.cA (.fieldPtr (.at o o) jV (.s o)) (.cA (.loadAt (k:=5002) (.at o o) zac o (.tmp o id) JM) (.cA (.lenG (k:=5008) (.at o o) jx (.tmp o id) o) (.cA (.eqI (.at o o) (.tmp o id) .i) (.cA (.pickAnd .none (.s o) (.tmp o id)) (.cA (.re hv22 (.assign .none (.s o))) (.nil (.rg [oo,([5002],[]),oo,oo,([5007],[75,5007]),oo,([5002,75],[5002,75])] mx (.cA (.fieldPtr .none qt (.s o)) (.cA (.loadAt (k:=5002) .none zh4 o (.s o) zgy) (.ldA yd o (.cA (.buildSlice (xs:=[_]) .none y4 yd zgA (.cons (.s o) .nil) o (by decide)) (.cW (.append (k:=5007) zhn o (.told (.s o) o) (.s o) hn23) (.cA (.fieldPtr .none qt (.s o)) (.cN (.storeRow (k:=5002) (t:=75) qU o (.s o) zni o o) (.nil (.blkNormal (.anon (t:=7) (g:=5006) o o trivial o (.open (k:=5002) (g:=5010) o o (fun s5010=>(.close (k:=5002) (g:=5008) (fun z=>zC 25 (⟨⟨s5010⟩,⟨z⟩⟩:yF)) o o o (.close (k:=5002) (g:=5010) (fun z=>zQ (fun z0=>zC 25 (⟨⟨z⟩,⟨z0⟩⟩:yF)) (zp 73 s5_.2.2.2.Edges)) o o o (zb.j _ (za h))))))))))))))))))))))))))))))))))))))
    ·
     subst hj10;have h:=hK10;clear hK10
     refine .nameRow (t:=7) (g:=5011) o o o (fun s5011=>(.open (k:=5002) (g:=5012) o o (fun s5012=>(.open (k:=5002) (g:=5013) o o (fun s5013=>(.sn mx (.mv o (.c (.not .none (.s o)) (.nil (.cb o h (fun _ h=>?_) fun _ h=>?_))))))))))
     ·
      obtain⟨v3,hv25,h⟩:=zv h
      refine .sr [oo,oo,([5001],[5001]),oo,oo,oo] mx (.cA (.re hv25 (.buildF (y:=(⟨([]:(List zl)),([]:(List zA))⟩:Doc)) .none zdi zfo o .nil .nil)) (.mvA o (.s0 5001 yX o o o (.cA (.assign .none (.const (x:=([]:(List zz))) (fun M w=>⟨_,⟨none,0,rfl,Nat.le_refl _,by decide,rfl⟩,rfl⟩))) (.asnA o (.cA (.assign .none .i) (.nil (.fb 5001 [2] o (.cons (t:=2) o trivial .nil) (.ret (.blkRet (.thenRet (.thenRet (.blkRet (.thenRet ?_))))))))))))))
      replace h:=hD5 _ (za h)
      replace h:=yk hK4 (za h)
      obtain rfl:=za h
      exact zb.ret4 (.inl o) Tryz.results5 (zt.cellR yX o trivial Imp.refl) (zt.tmp o trivial Imp.refl) (zt.tmp o trivial Imp.refl) (zt.tmp o trivial Imp.refl)
     ·
      obtain⟨at1,hv26,h⟩:=zv h
      exact .skip (.blkNormal (.then (.rn mx (.mv o (.adi o (.ra hv26 o (.nil (.anon (t:=7) (g:=5011) o o trivial o (.close (k:=5002) (g:=5013) (fun z=>zC 25 (⟨⟨s5012⟩,⟨z⟩⟩:yF)) o o o (.close (k:=5002) (g:=5012) (fun z=>zQ (fun z0=>zC 25 (⟨⟨z⟩,⟨z0⟩⟩:yF)) (zp 73 j_10.2.2.Edges)) o o o (zb.ag (za h))))))))))))
   ·
    refine .exit (.thenExit (.thenExit (.blkExit (.anon (t:=7) (g:=5006) o o trivial o (.close (k:=5002) (g:=5008) (fun z=>zC 25 (⟨⟨s5007⟩,⟨z⟩⟩:yF)) o o o (.close (k:=5002) (g:=5007) (fun z=>zQ (fun z0=>zC 25 (⟨⟨z⟩,⟨z0⟩⟩:yF)) (zp 73 s5_.2.2.2.Edges)) o o o ?_))))))
    replace h:=hD5 _ (za h)
    exact zb.j _ (za h)
  ·
   have h:=yO hK4 hj4
   refine .freezeRowA (t:=7) o o (.k2 5001 5002 o o .nil) o (.freezeAt (g:=5002) (S:=ref ({ j_4.2 with Nodes:=j_4.2.Nodes,Edges:=j_4.2.Edges }:Doc)) (ts:=[6]) o (.cons (t:=6) o trivial .nil) (.k 5001 o .nil) o (fun M D w h hms=>zdm (mk:=(fun s1_ s2_=>(⟨⟨s1_⟩,⟨s2_⟩⟩:yF))) (y:=({ j_4.2 with Nodes:=j_4.2.Nodes,Edges:=j_4.2.Edges }:Doc)) QE QE o (fun M s1_ s2_ cs w hc g1 g2=>by obtain⟨c0,q0,e0,h0,h1⟩:=hc;exact⟨c0,q0,e0,vS o o h0 g1,vS o o h1 g2⟩) M D w h hms) ?_)
   obtain⟨e1,hv27,h⟩:=bind_some h
   refine .seq (.sn mx (.ld yX o (.c (.call .none (zeE hv27) (.cons (.s o) .nil)) (.asn o (.nil (.sn mx (.mv o (.nei o (.nil (.cb o h (fun _ h=>?_) fun _ h=>?_))))))))))
   ·
    obtain⟨v4,hv29,h⟩:=zv h
    refine .sr [oo,oo,([5001],[5001]),oo,oo,oo] mx (.cA (.re hv29 (.buildF (y:=(⟨([]:(List zl)),([]:(List zA))⟩:Doc)) .none zdi zfo o .nil .nil)) (.mvA o (.s0 5001 yX o o o (.cA (.assign .none (.const (x:=([]:(List zz))) (fun M w=>⟨_,⟨none,0,rfl,Nat.le_refl _,by decide,rfl⟩,rfl⟩))) (.cA (.assign .none .i) (.asnA o (.nil (.fb 5001 [2] o (.cons (t:=2) o trivial .nil) (.ret (.thenRet ?_))))))))))
    obtain rfl:=za h
    exact zb.ret4 (.inl o) Tryz.results5 (zt.cellR yX o trivial Imp.refl) (zt.tmp o trivial Imp.refl) (zt.tmp o trivial Imp.refl) (zt.tmp o trivial Imp.refl)
   ·
    obtain⟨e2,hv30,h⟩:=bind_some h
    refine .skip (.then (.seq (.sn mx (.mv o (.c (.call .none (zfT hv30) (.cons (.s o) .nil)) (.asn o (.nil (.sn mx (.mv o (.nei o (.nil (.cb o h (fun _ h=>?_) fun _ h=>?_))))))))))))
    ·
     obtain⟨v5,hv32,h⟩:=zv h
     refine .sr [oo,oo,([5001],[5001]),oo,oo,oo] mx (.cA (.re hv32 (.buildF (y:=(⟨([]:(List zl)),([]:(List zA))⟩:Doc)) .none zdi zfo o .nil .nil)) (.mvA o (.s0 5001 yX o o o (.cA (.assign .none (.const (x:=([]:(List zz))) (fun M w=>⟨_,⟨none,0,rfl,Nat.le_refl _,by decide,rfl⟩,rfl⟩))) (.cA (.assign .none .i) (.asnA o (.nil (.fb 5001 [2] o (.cons (t:=2) o trivial .nil) (.ret (.thenRet ?_))))))))))
     obtain rfl:=za h
     exact zb.ret4 (.inl o) Tryz.results5 (zt.cellR yX o trivial Imp.refl) (zt.tmp o trivial Imp.refl) (zt.tmp o trivial Imp.refl) (zt.tmp o trivial Imp.refl)
    ·
     obtain⟨v6,hv33,h⟩:=zv h
     refine .skip (.then (.sr [oo,oo,([5001],[5001]),oo,oo,oo] mx (.rlA hv33 yX o (.mvA o (.s0 5001 yX o o o (.asnA o (.cA (.assign .none .i) (.cA (.assign .none .i) (.nil (.fb 5001 [2] o (.cons (t:=2) o trivial .nil) (.ret ?_)))))))))))
     obtain rfl:=za h
     exact zb.ret4 (.inl o) Tryz.results5 (zt.cellR yX o trivial Imp.refl) (zt.tmp o trivial Imp.refl) (zt.tmp o trivial Imp.refl) (zt.tmp o trivial Imp.refl)
instance:Enc zR:=Enc.via (fun x:zR=>(x.Field,x.Value))
theorem zuY:Sort.SWO (Proofs.ltOf vX):=by
 have h:∀x y,Proofs.ltOf vX x y=decide (zH x.1.Field.b y.1.Field.b<0):=fun x y=>rfl
 constructor
 ·
  intro x;rw[h,vx];rfl
 ·
  intro x y z h1 h2
  rw[h]at *
  simp only[decide_eq_true_eq]at *
  exact(Qa (by omega) (by omega)).2 (.inl h1)
 ·
  intro x y z h1 h2
  rw[h]at *
  simp only[decide_eq_false_iff_not,Int.not_lt]at *
  have e1:=jm x.1.Field.b y.1.Field.b
  have e2:=jm y.1.Field.b z.1.Field.b
  have e3:=jm x.1.Field.b z.1.Field.b
  have:=(Qa (a:=z.1.Field.b) (b:=y.1.Field.b) (c:=x.1.Field.b) (by omega) (by omega)).1
  omega
theorem zu5 (x y:{ x:zR // J8 x })(w0:World):Calls Tryz.prog 84 #[.agg (Enc.enc x.1).toArray,.agg (Enc.enc y.1).toArray] w0 fun e w'=>e = .returned (.int .i64 (vX x y))∧∃q os',w'=Go.Sort.grow (w0.drewN q) os':=by
 obtain⟨⟨a1,a2⟩,hx⟩:=x
 obtain⟨⟨b1,b2⟩,hy⟩:=y
 show Calls Tryz.prog 84 #[.agg #[.string ⟨a1.b.toArray⟩,.string ⟨a2.b.toArray⟩],.agg #[.string ⟨b1.b.toArray⟩,.string ⟨b2.b.toArray⟩]] w0 fun e w'=>e = .returned (.int .i64 (zH a1.b b1.b))∧∃q os',w'=Go.Sort.grow (w0.drewN q) os'
 clear hx hy
 rw[←zdk]
 go_enter Tryz.func84,Tryz.ntmps84
 go_wp2_with (go_at_call 44;refine(Proofs.Any.strings_Compare zfO _ _ _).mono ?_;rintro e w' ⟨rfl,rfl⟩)
 go_ret
 exact⟨by simp,0,_,by rw[Go.Sort.alloc_eq_grow,Go.Sort.alloc_eq_grow,Go.Sort.grow_grow];rfl⟩
theorem zuR {l r:List zR}{s:Value}(h:zfa l=some r):zS Tryz.prog 83 [isV s,zbI 84 []] [(s,zp 116 l)] (zV) [some (zp 116 r)]:=by
 obtain⟨hl,h⟩:=zn h
 obtain rfl:=za h
 exact zm2 zuW o o zq2 zq3 Tryz.underlying116 jz zuY zu5 hl.1 hl.2
theorem zu6 (x y:Str×SlV)(w0:World):Calls Tryz.prog 86 #[.agg (Enc.enc x).toArray,.agg (Enc.enc y).toArray] w0 fun e w'=>e = .returned (.int .i64 (zH x.1.b y.1.b))∧∃q os',w'=Go.Sort.grow (w0.drewN q) os':=by
 obtain⟨a1,a2,a3,a4⟩:=x
 obtain⟨b1,b2,b3,b4⟩:=y
 show Calls Tryz.prog 86 #[.agg #[.string ⟨a1.b.toArray⟩,.slice a2 a3 a4],.agg #[.string ⟨b1.b.toArray⟩,.slice b2 b3 b4]] w0 fun e w'=>e = .returned (.int .i64 (zH a1.b b1.b))∧∃q os',w'=Go.Sort.grow (w0.drewN q) os'
 rw[←zdk]
 go_enter Tryz.func86,Tryz.ntmps86
 go_wp2_with (go_at_call 44;refine(Proofs.Any.strings_Compare zfO _ _ _).mono ?_;rintro e w' ⟨rfl,rfl⟩)
 go_ret
 exact⟨by simp,0,_,by rw[Go.Sort.alloc_eq_grow,Go.Sort.alloc_eq_grow,Go.Sort.grow_grow];rfl⟩
theorem zuS {l r:List zu}{s:Value}(h:zhS l=some r):zS Tryz.prog 85 [isV s,zbI 86 []] [(s,zp 103 l)] (zV) [some (zp 103 r)]:=by
 obtain⟨hl,h⟩:=zn h
 obtain rfl:=za h
 exact zu4 zuU (fun x:zu=>(x.Id,x.Attrs)) o o zq4 zq5 Tryz.underlying103 zv1 zu6 hl.1 hl.2
theorem zjz {t1:(GMap Str (GMap Str Str))}{r:(List zu)}  (h:zaC t1=some r):zr Tryz.prog 36 [rep t1] (rep r):=by
 unfold zaC at h
 refine zr.i Tryz.func36 o Tryz.ntmps36 o (fun F=>(.sn mx (.c (.assign .none (.const (x:=([]:(List zu))) (fun M w=>⟨_,⟨none,0,rfl,Nat.le_refl _,by decide,rfl⟩,rfl⟩))) (.nil (.sr [([],[3])] mx (.cW (.nilRow (T:=103) (α:=zu) o) (.nil (.nameRow (t:=3) (g:=5001) o o o (fun s5001=>(.seq (.sr [oo,([],[10])] mx (.mvA o (.cW (.rangeMap Tryz.underlying88 o (.s o)) (.nil (.nameAt (t:=10) (g:=5002) o o zch o (fun m5002=>?_))))))))))))))))
 obtain⟨P1,h,hK1⟩:=zlm h
 refine .thenJ (ι:=(List zu)) (fun j_1=>[]) (fun j_1=>[(3,some (zp 103 j_1))]) (fun s=>P1 s) (.k 10 o .nil) zi.nil ?_ (fun j_1 hj1=>?_)
 ·
  refine .block (.anon (t:=3) (g:=5001) o o trivial o (.listsF (q:=5002) o (fun hf2=>(.mrangeKL h hf2 (fun p2_=>[]) (fun p2_=>[(5002,some (zd.at (ptr m5002 0) (vl t1 p2_.1))),(3,some (zp 103 p2_.2))]) Sub.nil (.k2 5002 3 o o .nil) (.k 10 o .nil) zi.nil (fun p2_ H2=>(.nameRow (t:=3) (g:=5003) o o o (fun s5003=>(.sr [([5002],[11,5002]),([11],[12,11])] mx (.cW (.nextF (k:=5002) o o (.s o)) (.cW (.nextedOk (d:=11) o o) (.nil (.openNext (t:=12) (k:=5002) o o o (fun o2_ ho2=>?_)))))))))))))
  obtain⟨out2_,h,hD2⟩:=H2 o2_ ho2
  refine .againM (fun s' hs'=>⟨o2_,ho2,h.trans (congrArg some hs')⟩) (.seq ?_)
  cases o2_ with
  | some x2_=>
   replace h:=zcq h
   refine .condT (t:=12) o trivial o (.skip (.then ?_))
   obtain⟨j_3,h,hK3⟩:=bind_some h
   unfold zdJ at h
   refine .tailJ (ι:=(List zu)) (fun j_3=>[]) (fun j_3=>[(3,some (zp 103 j_3))]) (fun s=>j_3=s) (.k 10 o .nil) (.k 5002 o .nil) ?_ (fun j_3' hj3=>?_)
   ·
    refine .block (.sr [([5002],[]),oo,oo,oo,oo] mx (.cA (.entryF (k:=5002) (p:=p2_.1) (y:=x2_) o (.s o)) (.exA o o (.exA o o (.asnA o (.asnA o (.nil (.sr [oo,oo,([],[6]),([6],[6])] mx (.mvA o (.cA (.buildF (y:=(⟨x2_.1,⟨.slice none 0 0⟩⟩:jO)) .none zo8 zwm o (.cons (.s o) .nil) (.cons o zvy .nil)) (.al zbA o (.cN (.storeH zv2 o (by rfl) o (.s o)) (.nil (.nameAt (t:=6) (g:=5004) o o zcg o (fun m5004=>(.nilKey (g:=5005) (T:=116) (α:=zR) o (.seq (.sr [oo,([],[19])] mx (.mvA o (.cW (.rangeMap Tryz.underlying91 o (.s o)) (.nil (.nameAt (t:=19) (g:=5006) o o zch o (fun m5006=>?_)))))))))))))))))))))))
    obtain⟨P4,h,hK4⟩:=zlm h
    refine .thenJ (ι:=zu) (fun j_4=>[]) (fun j_4=>[(5004,some (zd.at (ptr m5004 0) (zQ (fun z0=>zC 103 (⟨j_4.Id,⟨z0⟩⟩:jO)) (zp 116 j_4.Attrs))))]) (fun s=>P4 s) (.k4 3 6 10 19 o o o o .nil) (.k2 5002 5003 o o .nil) ?_ (fun j_4 hj4=>?_)
    ·
     refine .block (.close (k:=5004) (g:=5005) (fun z=>zC 103 (⟨x2_.1,⟨z⟩⟩:jO)) o o o (.listsF (q:=5006) o (fun hf5=>(.mrangeKL h hf5 (fun p5_=>[]) (fun p5_=>[(5006,some (zd.at (ptr m5006 0) (vl x2_.2 p5_.1))),(5004,some (zd.at (ptr m5004 0) (zQ (fun z0=>zC 103 (⟨p5_.2.Id,⟨z0⟩⟩:jO)) (zp 116 p5_.2.Attrs))))]) Sub.nil (.k2 5006 5004 o o .nil) (.k4 3 6 10 19 o o o o .nil) (.k2 5002 5003 o o .nil) (fun p5_ H5=>(.open (k:=5004) (g:=5007) o o (fun s5007=>(.sr [([5006],[20,5006]),([20],[21,20])] mx (.cW (.nextF (k:=5006) o o (.s o)) (.cW (.nextedOk (d:=20) o o) (.nil (.openNext (t:=21) (k:=5006) o o o (fun o5_ ho5=>?_)))))))))))))
     obtain⟨out5_,h,hD5⟩:=H5 o5_ ho5
     refine .againM (fun s' hs'=>⟨o5_,ho5,h.trans (congrArg some hs')⟩) (.seq ?_)
     cases o5_ with
     | some x5_=>
      replace h:=zcq h
      refine .condT (t:=21) o trivial o (.skip (.then ?_))
      obtain⟨j_6,h,hK6⟩:=bind_some h
      unfold zf4 at h
      refine .tailJ (ι:=zu) (fun j_6=>[]) (fun j_6=>[(5004,some (zd.at (ptr m5004 0) (zQ (fun z0=>zC 103 (⟨j_6.Id,⟨z0⟩⟩:jO)) (zp 116 j_6.Attrs))))]) (fun s=>j_6=s) (.k4 3 6 10 19 o o o o .nil) (.k2 5002 5003 o o (.k 5006 o .nil)) ?_ (fun j_6' hj6=>?_)
      ·
       obtain⟨hn7,h⟩:=zn h
       exact .block (.sr [([5006],[]),oo,oo,oo,oo] mx (.cA (.entryF (k:=5006) (p:=p5_.1) (y:=x5_) o (.s o)) (.exA o o (.exA o o (.asnA o (.asnA o (.nil (.rg [oo,([5004],[]),oo,oo,oo,oo,([5007],[31,5007]),oo,([5004,31],[5004,31])] mx (.cA (.fieldPtr .none Qg (.s o)) (.cA (.loadAt (k:=5004) .none znt o (.s o) zks) (.mvA o (.mvA o (.cA (.buildF (y:=(⟨x5_.1,x5_.2⟩:zR)) .none zpa zwd o (.cons (.s o) (.cons (.s o) .nil)) (.cons o zug (.cons o zuh .nil))) (.cA (.buildSlice (xs:=[_]) .none jH jz zrz (.cons (.s o) .nil) o (by decide)) (.cW (.appendW (k:=5007) ztJ o (.told (.s o) o) (.s o) hn7) (.cA (.fieldPtr .none Qg (.s o)) (.cN (.storeRow (k:=5004) (t:=31) Yv o (.s o) zvz o o) (.nil (.blkNormal (zb.j _ (za h)))))))))))))))))))))
      ·
       subst hj6;have h:=hK6;clear hK6
       exact zb.ag (za h)
     | none=>
      replace h:=zcp h
      refine .condF (t:=21) o trivial o (.exit (.thenExit (.thenExit (.blkExit (.close (k:=5004) (g:=5007) (fun z=>zC 103 (⟨p5_.2.Id,⟨z⟩⟩:jO)) o o o ?_)))))
      replace h:=hD5 _ (za h)
      exact zb.join _ h (.k4 3 6 10 19 o o o o .nil) (.k2 5004 5002 o o (.k 5003 o .nil))
    ·
     have h:=hK4 _ hj4;clear hK4
     obtain⟨r1,hv8,h⟩:=bind_some h
     refine .open (k:=5004) (g:=5008) o o (fun s5008=>(.sr [oo,([5004],[]),([5008],[5008])] mx (.cA (.fieldPtr .none Qg (.s o)) (.cA (.loadAt (k:=5004) .none znt o (.s o) zks) (.cW (.cO [5008] (zuR hv8) (.cons (.s o) (.cons .funcC .nil)) (.cons (k:=5008) o .nil) o) (.nil (.close (k:=5004) (g:=5008) (fun z=>zC 103 (⟨j_4.Id,⟨z⟩⟩:jO)) o o o (.freezeAt (g:=5004) (S:=ref ({ j_4 with Attrs:=r1 }:zu)) (ts:=[6]) o (.cons (t:=6) o trivial .nil) (.k2 5002 5003 o o .nil) o (fun M D w h hms=>zjb (mk:=(fun s1_=>(⟨j_4.Id,⟨s1_⟩⟩:jO))) (y:=({ j_4 with Attrs:=r1 }:zu)) QE o (fun M s1_ cs w hc g1=>by obtain⟨c0,q0,e0,h0,h1⟩:=hc;exact⟨c0,q0,e0,h0,vS o o h1 g1⟩) M D w h hms) ?_))))))))
     obtain⟨hn9,h⟩:=zn h
     exact .rg [oo,oo,oo,([5003],[39,5003]),([39],[3,39])] mx (.mvA o (.ldA qe o (.cA (.buildSlice (xs:=[_]) .none qR qe zry (.cons (.s o) .nil) o (by decide)) (.cW (.appendW (k:=5003) ztK o (.told (.s o) o) (.s o) hn9) (.cW (.passRow o (.tmp o)) (.nil (.blkNormal (zb.j _ (za h)))))))))
   ·
    subst hj3;have h:=hK3;clear hK3
    exact zb.ag (za h)
  | none=>
   replace h:=zcp h
   refine .condF (t:=12) o trivial o (.exit (.thenExit (.thenExit (.blkExit (.anon (t:=3) (g:=5003) o o trivial o ?_)))))
   replace h:=hD2 _ (za h)
   exact zb.join _ h (.k 10 o .nil) (.k 3 o .nil)
 ·
  have h:=hK1 _ hj1;clear hK1
  obtain⟨r2,hv10,h⟩:=bind_some h
  refine .nameRow (t:=3) (g:=5009) o o o (fun s5009=>(.sr [oo,([5009],[5009])] mx (.mvA o (.cW (.cO [5009] (zuS hv10) (.cons (.s o) (.cons .funcC .nil)) (.cons (k:=5009) o .nil) o) (.nil (.freezeRow (g:=5009) (ts:=[3]) o (.cons (t:=3) o trivial .nil) zi.nil o (.sn mx (.mv o (.asn o (.nil (.ret ?_)))))))))))
  obtain rfl:=za h
  exact zb.rt Tryz.results36 o
set_option maxHeartbeats 4000000 in
theorem zjy {d1:Doc}{r:((List zu)×Int)}  (h:YN d1=some r):zr Tryz.prog 6 [rep d1] (tup [rep r.1,rep r.2]):=by
 unfold YN at h
 obtain⟨e1,hv1,h⟩:=bind_some h
 refine zr.i Tryz.func6 o Tryz.ntmps6 o (fun F=>(.sn mx (.c (.box .none (.s o)) (.c (.assign .none (.const (x:=([]:(List zu))) (fun M w=>⟨_,⟨none,0,rfl,Nat.le_refl _,by decide,rfl⟩,rfl⟩))) (.asi (.nil (.seq (.sn mx (.ld yX o (.c (.call .none (zeE hv1) (.cons (.s o) .nil)) (.asn o (.nil (.sn mx (.mv o (.nei o (.nil (.cb o h (fun _ h=>?_) fun _ h=>?_)))))))))))))))))
 ·
  refine .sn mx (.mv o (.c (.assign .none (.const (x:=([]:(List zu))) (fun M w=>⟨_,⟨none,0,rfl,Nat.le_refl _,by decide,rfl⟩,rfl⟩))) (.asn o (.nil (.ret (.thenRet ?_))))))
  obtain rfl:=za h
  exact zb.ret2 (.inl o) Tryz.results6 (zt.tmp o trivial Imp.refl) (zt.tmp o trivial Imp.refl)
 ·
  obtain⟨t1,hv3,h⟩:=zv h
  refine .skip (.then (.sr [([],[21]),([21],[5,21])] mx (.cW (.makeMapD (K:=Str) (K2:=Str) (V:=Str) o) (.cW (.passRow o (.tmp o)) (.nil (.reB (t:=5) o (congrArg (yo none) hv3) (.nameC (t:=5) (g:=5001) zg0 o o o (fun s5001=>(.seq (.sn mx (.fa qt jp o (.ld qU o (.ln y4 o (.mvi (.nil ?_)))))))))))))))
  obtain⟨j_4,h,hK4⟩:=bind_some h
  refine .thenJ (ι:=(GMap Str (GMap Str Str))) (fun j_4=>[]) (fun j_4=>[(5001,some (zd.at s5001 (yo none j_4)))]) (fun s=>j_4=s) (.k2 1 5 o o .nil) zi.nil ?_ (fun j_4' hj4=>?_)
  ·
   refine .block (.rforL h (fun p5_=>[(25,⟨True,rep p5_.1⟩)]) (fun p5_=>[(5001,some (zd.at s5001 (yo none p5_.2)))]) (.k 25 o .nil) (.k 5001 o .nil) (.k4 1 5 23 24 o o o o .nil) zi.nil (fun p5_ o_5 h hD5=>(.sn mx (.lt o o (.nil (.seq (.cb o h (fun _ h=>?_) fun _ h=>?_)))))))
   ·
    refine .skip (.then (.seq ?_))
    obtain⟨j_7,h,hK7⟩:=bind_some h
    unfold zbU at h
    refine .thenJ (ι:=(GMap Str (GMap Str Str))) (fun j_7=>[]) (fun j_7=>[(5001,some (zd.at s5001 (yo none j_7)))]) (fun s=>j_7=s) (.k4 1 5 23 24 o o o o (.k 25 o .nil)) zi.nil ?_ (fun j_7' hj7=>?_)
    ·
     obtain⟨hn8,h⟩:=zn h
     obtain⟨v1,hv9,h⟩:=zv h
     obtain⟨r1,hv10,h⟩:=bind_some h
     obtain⟨hn11,h⟩:=zn h
     obtain⟨r2,hv12,h⟩:=bind_some h
     obtain⟨f1,hv13,h⟩:=zv h
     refine .block (.sr [oo,oo,oo,([],[7]),oo,([7],[7])] mx (.mvA o (.ixA y4 yd o o hn8 (.rlA hv9 yd o (.al vC o (.asnA o (.st yd o o o (.nil (.freeze (t:=7) o o (.k 5001 o .nil) o (.seq (.regionG 30 (GMap.nil:(GMap Str Str)) ([((⟨[107,105,110,100]⟩:Str),(gx r1 v1.Kind)),((⟨[122]⟩:Str),r2)]:List (Str×Str)) [([],[30]),([],[]),([],[]),([],[]),([],[]),([],[]),([30],[30]),([],[]),([],[]),([30],[30]),([30],[38,30]),([38],[8,38])] mixed (by kernel_rfl) (show([(⟨[107,105,110,100]⟩:Str),(⟨[122]⟩:Str)]:List Str).Nodup from by decide) (zZ.one o (.cW (.makeMap (K:=Str) (V:=Str) o) (.nil (zZ.one o (.cA (.call .none (zdA hv10) .nil) (.nil (zZ.one o (.faA jo jC o (.nil (zZ.one o (.ldA ty3 o (.nil (zZ.one o (.ixA zX ty9 o o hn11 (.nil (zZ.one o (.ldA ty9 o (.nil (zZ.put o o o (fun m' B' hB'=>ze.mapInsert (q:=30) qO hB' (.str (l:=[107,105,110,100]) (by decide)) (.s o)) (zZ.one o (.mvA o (.nil (zZ.one o (.cA (.call .none (zcY hv12) (.cons (.s o) .nil)) (.nil (zZ.put o o o (fun m' B' hB'=>ze.mapInsert (q:=30) qO hB' (.str (l:=[122]) (by decide)) (.s o)) (zZ.one o (.cW (.passRowM o (.tmp o)) (.nil (zZ.one o (.cW (.passRow o (.tmp o)) (.nil (zZ.nil (.then (.reB (t:=8) o (congrArg zW hv13) (.nameMap (t:=8) (g:=5002) o o o (fun s5002=>(.seq (.sn mx (.fa jo jC o (.ld ty3 o (.nei o (.nil ?_))))))))))))))))))))))))))))))))))))))))))))))))))))))
     obtain⟨j_14,h,hK14⟩:=bind_some h
     refine .thenJ (ι:=(GMap Str Str)) (fun j_14=>[]) (fun j_14=>[(5002,some (zd.at s5002 (zW j_14)))]) (fun s=>j_14=s) (.k4 1 5 7 8 o o o o (.k2 23 24 o o (.k 25 o .nil))) (.k 5001 o .nil) ?_ (fun j_14' hj14=>?_)
     ·
      refine .cb o h (fun _ h=>?_) fun _ h=>?_
      ·
       obtain⟨r3,hv16,h⟩:=bind_some h
       exact .rg [oo,oo,oo,oo,oo,oo,oo,oo,oo,oo,oo,oo,oo,oo,oo,([5002],[5002])] mx (.mvA o (.faA vK Qi o (.faA YP YW o (.ldA ty3 o (.faA vK Qi o (.faA YQ YX o (.ldA ty3 o (.faA vK Qi o (.faA Ya Yf o (.ldA ty3 o (.faA vK Qi o (.faA Yb Yg o (.ldA ty3 o (.cA (.buildSlice (xs:=[_,_,_,_]) .none qS ty3 hz3 (.cons (.s o) (.cons (.s o) (.cons (.s o) (.cons (.s o) .nil)))) o (by decide)) (.cA (.call .none (zdC hv16) (.cons (.s o) .nil)) (.cN (.mapUpdate (q:=5002) qO (.s o) o (.str (l:=[112,108,97,99,101]) (by decide)) (.s o)) (.nil (zb.j _ (za h)))))))))))))))))))
      ·
       exact .skip (zb.j _ (za h))
     ·
      subst hj14;have h:=hK14;clear hK14
      refine .seq (.seq (.regionG 57 (GMap.nil:(GMap Str Str)) ([((⟨[116,101,120,116]⟩:Str),v1.Text),((⟨[99,108,97,115,115]⟩:Str),v1.Class),((⟨[112,97,114,101,110,116]⟩:Str),v1.Parent)]:List (Str×Str)) [([],[57]),([],[]),([],[]),([57],[57]),([],[]),([],[]),([57],[57]),([],[]),([],[]),([57],[57]),([57],[64,57]),([64],[65,64])] mixed (by kernel_rfl) (show([(⟨[116,101,120,116]⟩:Str),(⟨[99,108,97,115,115]⟩:Str),(⟨[112,97,114,101,110,116]⟩:Str)]:List Str).Nodup from by decide) (zZ.one o (.cW (.makeMap (K:=Str) (V:=Str) o) (.nil (zZ.one o (.faA zdR zgs o (.nil (zZ.one o (.ldA ty9 o (.nil (zZ.put o o o (fun m' B' hB'=>ze.mapInsert (q:=57) qO hB' (.str (l:=[116,101,120,116]) (by decide)) (.s o)) (zZ.one o (.faA zb2 zd3 o (.nil (zZ.one o (.ldA ty9 o (.nil (zZ.put o o o (fun m' B' hB'=>ze.mapInsert (q:=57) qO hB' (.str (l:=[99,108,97,115,115]) (by decide)) (.s o)) (zZ.one o (.faA vL Qj o (.nil (zZ.one o (.ldA ty9 o (.nil (zZ.put o o o (fun m' B' hB'=>ze.mapInsert (q:=57) qO hB' (.str (l:=[112,97,114,101,110,116]) (by decide)) (.s o)) (zZ.one o (.cW (.passRowM o (.tmp o)) (.nil (zZ.one o (.cW (.rangeMapZ Tryz.underlying91 o (.tmp o)) (.nil (zZ.nil (.then (.nameAt (t:=65) (g:=5003) o o zch o (fun m5003=>?_))))))))))))))))))))))))))))))))))))
      obtain⟨j_17,h,hK17⟩:=bind_some h
      refine .thenJ (ι:=(GMap Str Str)) (fun j_17=>[]) (fun j_17=>[(5002,some (zd.at s5002 (zW j_17)))]) (fun s=>j_17=s) (.k4 1 5 7 8 o o o o (.k4 23 24 25 65 o o o o .nil)) (.k 5001 o .nil) ?_ (fun j_17' hj17=>?_)
      ·
       refine .block (.listsF (q:=5003) o (fun hf18=>(.mrangeL h hf18 (fun p18_=>[]) (fun p18_=>[(5003,some (zd.at (ptr m5003 0) (vl ((((GMap.nil:(GMap Str Str)).set (⟨[116,101,120,116]⟩:Str) v1.Text).set (⟨[99,108,97,115,115]⟩:Str) v1.Class).set (⟨[112,97,114,101,110,116]⟩:Str) v1.Parent) p18_.1))),(5002,some (zd.at s5002 (zW p18_.2)))]) Sub.nil (.k2 5003 5002 o o .nil) (.k4 1 5 7 8 o o o o (.k4 23 24 25 65 o o o o .nil)) (.k 5001 o .nil) (fun p18_ H18=>(.sr [([5003],[66,5003]),([66],[67,66])] mx (.cW (.nextF (k:=5003) o o (.s o)) (.cW (.nextedOk (d:=66) o o) (.nil (.openNext (t:=67) (k:=5003) o o o (fun o18_ ho18=>?_))))))))))
       obtain⟨out18_,h,hD18⟩:=H18 o18_ ho18
       refine .againM (fun s' hs'=>⟨o18_,ho18,h.trans (congrArg some hs')⟩) (.seq ?_)
       cases o18_ with
       | some x18_=>
        replace h:=zcq h
        refine .condT (t:=67) o trivial o (.skip (.then ?_))
        obtain⟨j_19,h,hK19⟩:=bind_some h
        unfold zdE at h
        refine .tailJ (ι:=(GMap Str Str)) (fun j_19=>[]) (fun j_19=>[(5002,some (zd.at s5002 (zW j_19)))]) (fun s=>j_19=s) (.k4 1 5 7 8 o o o o (.k4 23 24 25 65 o o o o .nil)) (.k2 5001 5003 o o .nil) ?_ (fun j_19' hj19=>?_)
        ·
         refine .block (.sr [([5003],[]),oo,oo,oo,oo] mx (.cA (.entryF (k:=5003) (p:=p18_.1) (y:=x18_) o (.s o)) (.exA o o (.exA o o (.asnA o (.asnA o (.nil (.sn mx (.mv o (.c (.neS .none (z6 Tryz.underlying9) (.s o) (.str (l:=[]) (by decide))) (.nil (.cb o h (fun _ h=>?_) fun _ h=>?_))))))))))))
         ·
          exact .rg [oo,oo,oo,([5002],[5002])] mx (.mvA o (.mvA o (.mvA o (.cN (.mapUpdate (q:=5002) qO (.s o) o (.s o) (.s o)) (.nil (.blkNormal (zb.j _ (za h))))))))
         ·
          exact .skip (.blkNormal (zb.j _ (za h)))
        ·
         subst hj19;have h:=hK19;clear hK19
         exact zb.ag (za h)
       | none=>
        replace h:=zcp h
        refine .condF (t:=67) o trivial o (.exit (.thenExit (.thenExit (.blkExit ?_))))
        replace h:=hD18 _ (za h)
        exact zb.j _ (za h)
      ·
       subst hj17;have h:=hK17;clear hK17
       refine .seq (.sn mx (.fa zgg zkp o (.ld ty4 o (.nil ?_))))
       obtain⟨j_21,h,hK21⟩:=bind_some h
       refine .thenJ (ι:=(GMap Str Str)) (fun j_21=>[]) (fun j_21=>[(5002,some (zd.at s5002 (zW j_21)))]) (fun s=>j_21=s) (.k4 1 5 7 8 o o o o (.k2 23 24 o o (.k 25 o .nil))) (.k 5001 o .nil) ?_ (fun j_21' hj21=>?_)
       ·
        refine .cb o h (fun _ h=>?_) fun _ h=>?_
        ·
         exact .rg [oo,([5002],[5002])] mx (.mvA o (.cN (.mapUpdate (q:=5002) qO (.s o) o (.str (l:=[108,111,99,107,101,100]) (by decide)) (.str (l:=[121,101,115]) (by decide))) (.nil (zb.j _ (za h)))))
        ·
         exact .skip (zb.j _ (za h))
       ·
        subst hj21;have h:=hK21;clear hK21
        exact .rg [oo,oo,oo,oo,([5001,5002],[5001,5002])] mx (.mvA o (.faA Qh QF o (.ldA ty9 o (.mvA o (.cN (.mapPutDN (q:=5001) (t:=5002) Qn o (.s o) o (.s o) o (.s o)) (.nil (.blkNormal (zb.j _ (za h)))))))))
    ·
     subst hj7;have h:=hK7;clear hK7
     exact .rn mx (.adi o (.mv o (.nil (zb.ag (za h)))))
   ·
    refine .exit (.thenExit (.thenExit (.blkExit ?_)))
    replace h:=hD5 _ (za h)
    exact zb.j _ (za h)
  ·
   subst hj4;have h:=hK4;clear hK4
   refine .seq (.sn mx (.fa jV zcd o (.ld Ji o (.ln jx o (.mvi (.nil ?_))))))
   obtain⟨j_23,h,hK23⟩:=bind_some h
   refine .thenJ (ι:=(GMap Str (GMap Str Str))) (fun j_23=>[]) (fun j_23=>[(5001,some (zd.at s5001 (yo none j_23)))]) (fun s=>j_23=s) (.k 5 o .nil) zi.nil ?_ (fun j_23' hj23=>?_)
   ·
    refine .block (.rforL h (fun p24_=>[(87,⟨True,rep p24_.1⟩)]) (fun p24_=>[(5001,some (zd.at s5001 (yo none p24_.2)))]) (.k 87 o .nil) (.k 5001 o .nil) (.k2 5 85 o o (.k 86 o .nil)) zi.nil (fun p24_ o_24 h hD24=>(.sn mx (.lt o o (.nil (.seq (.cb o h (fun _ h=>?_) fun _ h=>?_)))))))
    ·
     refine .skip (.then (.seq ?_))
     obtain⟨j_26,h,hK26⟩:=bind_some h
     unfold zbV at h
     refine .thenJ (ι:=(GMap Str (GMap Str Str))) (fun j_26=>[]) (fun j_26=>[(5001,some (zd.at s5001 (yo none j_26)))]) (fun s=>j_26=s) (.k4 5 85 86 87 o o o o .nil) zi.nil ?_ (fun j_26' hj26=>?_)
     ·
      obtain⟨hn27,h⟩:=zn h
      obtain⟨v2,hv28,h⟩:=zv h
      obtain⟨r4,hv29,h⟩:=bind_some h
      obtain⟨r5,hv30,h⟩:=bind_some h
      obtain⟨r6,hv31,h⟩:=bind_some h
      obtain⟨f2,hv32,h⟩:=zv h
      refine .block (.sr [oo,oo,oo,([],[12]),oo,([12],[12])] mx (.mvA o (.ixA jx yP o o hn27 (.rlA hv28 yP o (.al zbB o (.asnA o (.st yP o o o (.nil (.freeze (t:=12) o o (.k 5001 o .nil) o (.seq (.regionG 92 (GMap.nil:(GMap Str Str)) ([((⟨[107,105,110,100]⟩:Str),(⟨[101,100,103,101]⟩:Str)),((⟨[102,114,111,109]⟩:Str),r4),((⟨[116,111]⟩:Str),r5),((⟨[122]⟩:Str),r6)]:List (Str×Str)) [([],[92]),([92],[92]),([],[]),([],[]),([],[]),([92],[92]),([],[]),([],[]),([],[]),([92],[92]),([],[]),([],[]),([92],[92]),([92],[101,92]),([101],[13,101])] mixed (by kernel_rfl) (show([(⟨[107,105,110,100]⟩:Str),(⟨[102,114,111,109]⟩:Str),(⟨[116,111]⟩:Str),(⟨[122]⟩:Str)]:List Str).Nodup from by decide) (zZ.one o (.cW (.makeMap (K:=Str) (V:=Str) o) (.nil (zZ.put o o o (fun m' B' hB'=>ze.mapInsert (q:=92) qO hB' (.str (l:=[107,105,110,100]) (by decide)) (.str (l:=[101,100,103,101]) (by decide))) (zZ.one o (.faA zdT zgu o (.nil (zZ.one o (.ldA qu o (.nil (zZ.one o (.cA (.call .none (zdz hv29) (.cons (.s o) .nil)) (.nil (zZ.put o o o (fun m' B' hB'=>ze.mapInsert (q:=92) qO hB' (.str (l:=[102,114,111,109]) (by decide)) (.s o)) (zZ.one o (.faA zdU zgv o (.nil (zZ.one o (.ldA qu o (.nil (zZ.one o (.cA (.call .none (zdz hv30) (.cons (.s o) .nil)) (.nil (zZ.put o o o (fun m' B' hB'=>ze.mapInsert (q:=92) qO hB' (.str (l:=[116,111]) (by decide)) (.s o)) (zZ.one o (.mvA o (.nil (zZ.one o (.cA (.call .none (zcY hv31) (.cons (.s o) .nil)) (.nil ?_)))))))))))))))))))))))))))))))))))))))))
      refine zZ.put o o o (fun m' B' hB'=>ze.mapInsert (q:=92) qO hB' (.str (l:=[122]) (by decide)) (.s o)) (zZ.one o (.cW (.passRowM o (.tmp o)) (.nil (zZ.one o (.cW (.passRow o (.tmp o)) (.nil (zZ.nil (.then (.reB (t:=13) o (congrArg zW hv32) (.nameMap (t:=13) (g:=5004) o o o (fun s5004=>(.seq (.sn mx (.fa Yc JL o (.ld Yw o (.ln vW o (.c (.gt .none (.s o) .i) (.nil ?_))))))))))))))))))
      obtain⟨j_33,h,hK33⟩:=bind_some h
      refine .thenJ (ι:=(GMap Str Str)) (fun j_33=>[]) (fun j_33=>[(5004,some (zd.at s5004 (zW j_33)))]) (fun s=>j_33=s) (.k4 5 12 13 85 o o o o (.k2 86 87 o o .nil)) (.k 5001 o .nil) ?_ (fun j_33' hj33=>?_)
      ·
       refine .cb o h (fun _ h=>?_) fun _ h=>?_
       ·
        obtain⟨r7,hv35,h⟩:=bind_some h
        obtain⟨r8,hv36,h⟩:=bind_some h
        exact .rg [oo,oo,oo,oo,oo,([5004],[5004])] mx (.mvA o (.faA Yc JL o (.ldA Yw o (.cA (.call .none (zju hv35) (.cons (.s o) .nil)) (.cA (.call .none (zdC hv36) (.cons (.s o) .nil)) (.cN (.mapUpdate (q:=5004) qO (.s o) o (.str (l:=[98,101,110,100,115]) (by decide)) (.s o)) (.nil (zb.j _ (za h)))))))))
       ·
        exact .skip (zb.j _ (za h))
      ·
       subst hj33;have h:=hK33;clear hK33
       refine .seq (.seq (.regionG 111 (GMap.nil:(GMap Str Str)) ([((⟨[116,101,120,116]⟩:Str),v2.Text),((⟨[99,108,97,115,115]⟩:Str),v2.Class)]:List (Str×Str)) [([],[111]),([],[]),([],[]),([111],[111]),([],[]),([],[]),([111],[111]),([111],[116,111]),([116],[117,116])] mixed (by kernel_rfl) (show([(⟨[116,101,120,116]⟩:Str),(⟨[99,108,97,115,115]⟩:Str)]:List Str).Nodup from by decide) (zZ.one o (.cW (.makeMap (K:=Str) (V:=Str) o) (.nil (zZ.one o (.faA zdV zgw o (.nil (zZ.one o (.ldA ty9 o (.nil (zZ.put o o o (fun m' B' hB'=>ze.mapInsert (q:=111) qO hB' (.str (l:=[116,101,120,116]) (by decide)) (.s o)) (zZ.one o (.faA zb4 zd5 o (.nil (zZ.one o (.ldA ty9 o (.nil (zZ.put o o o (fun m' B' hB'=>ze.mapInsert (q:=111) qO hB' (.str (l:=[99,108,97,115,115]) (by decide)) (.s o)) (zZ.one o (.cW (.passRowM o (.tmp o)) (.nil (zZ.one o (.cW (.rangeMapZ Tryz.underlying91 o (.tmp o)) (.nil (zZ.nil (.then (.nameAt (t:=117) (g:=5005) o o zch o (fun m5005=>?_)))))))))))))))))))))))))))))
       obtain⟨j_37,h,hK37⟩:=bind_some h
       refine .thenJ (ι:=(GMap Str Str)) (fun j_37=>[]) (fun j_37=>[(5004,some (zd.at s5004 (zW j_37)))]) (fun s=>j_37=s) (.k4 5 12 13 85 o o o o (.k2 86 87 o o (.k 117 o .nil))) (.k 5001 o .nil) ?_ (fun j_37' hj37=>?_)
       ·
        refine .block (.listsF (q:=5005) o (fun hf38=>(.mrangeL h hf38 (fun p38_=>[]) (fun p38_=>[(5005,some (zd.at (ptr m5005 0) (vl (((GMap.nil:(GMap Str Str)).set (⟨[116,101,120,116]⟩:Str) v2.Text).set (⟨[99,108,97,115,115]⟩:Str) v2.Class) p38_.1))),(5004,some (zd.at s5004 (zW p38_.2)))]) Sub.nil (.k2 5005 5004 o o .nil) (.k4 5 12 13 85 o o o o (.k2 86 87 o o (.k 117 o .nil))) (.k 5001 o .nil) (fun p38_ H38=>(.sr [([5005],[118,5005]),([118],[119,118])] mx (.cW (.nextF (k:=5005) o o (.s o)) (.cW (.nextedOk (d:=118) o o) (.nil (.openNext (t:=119) (k:=5005) o o o (fun o38_ ho38=>?_))))))))))
        obtain⟨out38_,h,hD38⟩:=H38 o38_ ho38
        refine .againM (fun s' hs'=>⟨o38_,ho38,h.trans (congrArg some hs')⟩) (.seq ?_)
        cases o38_ with
        | some x38_=>
         replace h:=zcq h
         refine .condT (t:=119) o trivial o (.skip (.then ?_))
         obtain⟨j_39,h,hK39⟩:=bind_some h
         unfold zdF at h
         refine .tailJ (ι:=(GMap Str Str)) (fun j_39=>[]) (fun j_39=>[(5004,some (zd.at s5004 (zW j_39)))]) (fun s=>j_39=s) (.k4 5 12 13 85 o o o o (.k2 86 87 o o (.k 117 o .nil))) (.k2 5001 5005 o o .nil) ?_ (fun j_39' hj39=>?_)
         ·
          refine .block (.sr [([5005],[]),oo,oo,oo,oo] mx (.cA (.entryF (k:=5005) (p:=p38_.1) (y:=x38_) o (.s o)) (.exA o o (.exA o o (.asnA o (.asnA o (.nil (.sn mx (.mv o (.c (.neS .none (z6 Tryz.underlying9) (.s o) (.str (l:=[]) (by decide))) (.nil (.cb o h (fun _ h=>?_) fun _ h=>?_))))))))))))
          ·
           exact .rg [oo,oo,oo,([5004],[5004])] mx (.mvA o (.mvA o (.mvA o (.cN (.mapUpdate (q:=5004) qO (.s o) o (.s o) (.s o)) (.nil (.blkNormal (zb.j _ (za h))))))))
          ·
           exact .skip (.blkNormal (zb.j _ (za h)))
         ·
          subst hj39;have h:=hK39;clear hK39
          exact zb.ag (za h)
        | none=>
         replace h:=zcp h
         refine .condF (t:=119) o trivial o (.exit (.thenExit (.thenExit (.blkExit ?_))))
         replace h:=hD38 _ (za h)
         exact zb.j _ (za h)
       ·
        subst hj37;have h:=hK37;clear hK37
        exact .rg [oo,oo,oo,oo,([5001,5004],[5001,5004])] mx (.mvA o (.faA JF zaN o (.ldA ty9 o (.mvA o (.cN (.mapPutDN (q:=5001) (t:=5004) Qn o (.s o) o (.s o) o (.s o)) (.nil (.blkNormal (zb.j _ (za h)))))))))
     ·
      subst hj26;have h:=hK26;clear hK26
      exact .rn mx (.adi o (.mv o (.nil (zb.ag (za h)))))
    ·
     refine .exit (.thenExit (.thenExit (.blkExit ?_)))
     replace h:=hD24 _ (za h)
     exact zb.j _ (za h)
   ·
    subst hj23;have h:=hK23;clear hK23
    refine .freezeAt (g:=5001) (S:=rep j_23) (ts:=[5]) o (.cons (t:=5) o trivial .nil) zi.nil o (fun M D w h hms=>zgQ h hms) ?_
    obtain⟨r9,hv41,h⟩:=bind_some h
    refine .sn mx (.mv o (.c (.call .none (zjz hv41) (.cons (.s o) .nil)) (.asn o (.asi (.nil (.ret ?_))))))
    obtain rfl:=za h
    exact zb.ret2 (.inl o) Tryz.results6 (zt.tmp o trivial Imp.refl) (zt.tmp o trivial Imp.refl)
theorem zuO {s1_1:(List zz)}{s2_1:(List zz)}{r:Bool}  (h:zcX s1_1 s2_1=some r):zr Tryz.prog 7 [rep s1_1,rep s2_1] (rep r):=by
 unfold zcX at h
 refine zr.i Tryz.func7 o Tryz.ntmps7 o (fun F=>(.sn mx (.asb (.nil (.seq (.sn mx (.mv o (.ln j8 o (.mv o (.ln j8 o (.c (.neI .none (.s o) (.s o)) (.nil (.cb o h (fun _ h=>?_) fun _ h=>?_)))))))))))))
 ·
  refine .sn mx (.asb (.nil (.ret (.thenRet ?_))))
  obtain rfl:=za h
  exact zb.rt Tryz.results7 o
 ·
  refine .skip (.then (.seq (.sn mx (.mv o (.ln j8 o (.mvi (.nil ?_)))))))
  obtain⟨o_2,h,hK2⟩:=yN h
  refine .tJ (fun s=>o_2=Res.nx s) Sub.nil zi.nil ?_ (fun j_2 hj2=>?_)
  ·
   refine .block (.rforEL h (fun p3_=>[(13,⟨True,rep p3_.1⟩)]) (fun p3_=>[]) (.k 13 o .nil) zi.nil (.k2 0 1 o o (.k 12 o .nil)) zi.nil (fun p3_ o_3 h hD3=>(.sn mx (.lt o o (.nil (.seq (.cb o h (fun _ h=>?_) fun _ h=>?_)))))))
   ·
    refine .skip (.then (.seq ?_))
    obtain⟨o_5,h,hK5⟩:=qg h
    unfold zhO at h
    refine .tJ (fun s=>o_5=Res.nx s) (.k4 0 1 12 13 o o o o .nil) zi.nil ?_ (fun j_5 hj5=>?_)
    ·
     obtain⟨hn6,h⟩:=zn h
     obtain⟨hn7,h⟩:=zn h
     refine .block (.sn mx (.mv o (.asn o (.nil (.sn mx (.mv o (.mv o (.ix j8 qf o o hn6 (.ld qf o (.mv o (.mv o (.ix j8 qf o o hn7 (.ld qf o (.c (.neS .none zqm (.s o) (.s o)) (.nil (.cb o h (fun _ h=>?_) fun _ h=>?_))))))))))))))))
     ·
      refine .sn mx (.asb (.nil (.ret (.blkRet (.thenRet (.thenRet (.blkRet (.thenRet ?_))))))))
      replace h:=yM hK5 (za h)
      replace h:=hD3 _ (za h)
      replace h:=yk hK2 (za h)
      obtain rfl:=za h
      exact zb.rt Tryz.results7 o
     ·
      exact .skip (.blkNormal (zb.j _ (za h)))
    ·
     have h:=qh hK5 hj5
     exact .rn mx (.adi o (.mv o (.nil (zb.ag (za h)))))
   ·
    refine .exit (.thenExit (.thenExit (.blkExit ?_)))
    replace h:=hD3 _ (za h)
    exact zb.j _ (za h)
  ·
   have h:=yO hK2 hj2
   refine .sn mx (.asb (.nil (.ret ?_)))
   obtain rfl:=za h
   exact zb.rt Tryz.results7 o
theorem zdG {s1:Str}{r:Bool}  (h:YO s1=some r):zr Tryz.prog 45 [rep s1] (rep r):=by
 unfold YO at h
 obtain⟨hn1,h⟩:=zn h
 obtain⟨hn2,h⟩:=zn h
 obtain⟨r1,hv3,h⟩:=bind_some h
 refine zr.i Tryz.func45 o Tryz.ntmps45 o (fun F=>(.sn mx (.asb (.nil (.sn mx (.mv o (.c (.neS .none (z6 Tryz.underlying9) (.s o) (.str (l:=[]) (by decide))) (.mv o (.mg o o o (.c (.lenStr (.at o o) Tryz.underlying9 (.tmp o id)) (.c (.le (.at o o) (.tmp o id) .i) (.pa o o (.mv o (.mg o o o (.c (.indexStr (.at o o) Tryz.underlying9 (.tmp o id) .i (fun hg=>hn1 hg.2)) (.c (.kgeq (.at o o) (.tmp o id) .ki) (.pa o o (.mv o (.mg o o o (.c (.indexStr (.at o o) Tryz.underlying9 (.tmp o id) .i (fun hg=>hn2 hg.2)) (.c (.kleq (.at o o) (.tmp o id) .ki) (.pa o o (.mv o (.mg o o o (.c (.callIf (.at o o) zdY (fun hg=>zhZ ((fun hg=>vj hv3 (hg.2)) hg)) (.cons (.tmp o id) (.cons (.str (l:=[97,98,99,100,101,102,103,104,105,106,107,108,109,110,111,112,113,114,115,116,117,118,119,120,121,122,48,49,50,51,52,53,54,55,56,57,45]) (by decide)) .nil)) (fun h=>h)) (.c (.eqS (.at o o) (z6 Tryz.underlying9) (.tmp o id) (.str (l:=[]) (by decide))) (.pa o o (.asn o (.nil (.ret ?_))))))))))))))))))))))))))))))
 obtain rfl:=za h
 exact zb.rt Tryz.results45 o
theorem zf2 {l1:(List zu)}{r:Int}  (h:Q6 l1=some r):zr Tryz.prog 37 [rep l1] (rep r):=by
 unfold Q6 at h
 refine zr.i Tryz.func37 o Tryz.ntmps37 o (fun F=>(.sn mx (.asi (.nil (.seq (.sn mx (.mv o (.ln qR o (.c (.gt .none (.s o) .i) (.nil (.cb o h (fun _ h=>?_) fun _ h=>?_)))))))))))
 ·
  refine .sn mx (.asi (.nil (.ret (.thenRet ?_))))
  obtain rfl:=za h
  exact zb.rt Tryz.results37 o
 ·
  refine .skip (.then (.seq (.sn mx (.mv o (.ln qR o (.mvi (.nil ?_)))))))
  obtain⟨o_2,h,hK2⟩:=yN h
  refine .tJ (fun s=>o_2=Res.nx s) Sub.nil zi.nil ?_ (fun j_2 hj2=>?_)
  ·
   refine .block (.rforEL h (fun p3_=>[(13,⟨True,rep p3_.1⟩)]) (fun p3_=>[]) (.k 13 o .nil) zi.nil (.k2 0 11 o o (.k 12 o .nil)) zi.nil (fun p3_ o_3 h hD3=>(.sn mx (.lt o o (.nil (.seq (.cb o h (fun _ h=>?_) fun _ h=>?_)))))))
   ·
    refine .skip (.then (.seq ?_))
    obtain⟨o_5,h,hK5⟩:=qg h
    unfold zdu at h
    refine .tJ (fun s=>o_5=Res.nx s) (.k4 0 11 12 13 o o o o .nil) zi.nil ?_ (fun j_5 hj5=>?_)
    ·
     obtain⟨hn6,h⟩:=zn h
     obtain⟨v1,hv7,h⟩:=zv h
     obtain⟨r1,hv8,h⟩:=bind_some h
     refine .block (.sr [oo,oo,oo,([],[4]),oo,([4],[4])] mx (.mvA o (.ixA qR qe o o hn6 (.rlA hv7 qe o (.al zbA o (.asnA o (.st qe o o o (.nil (.freeze (t:=4) o o zi.nil o (.seq (.block (.sn mx (.fa Q8 Yd o (.ld ty9 o (.c (.call .none (zdG hv8) (.cons (.s o) .nil)) (.c (.not .none (.s o)) (.asn o (.nil (.cb o h (fun _ h=>?_) fun _ h=>?_)))))))))))))))))))
     ·
      refine .sn mx (.asi (.nil (.ret (.blkRet (.thenRet (.blkRet (.thenRet (.thenRet (.blkRet (.thenRet ?_))))))))))
      replace h:=yM hK5 (za h)
      replace h:=hD3 _ (za h)
      replace h:=yk hK2 (za h)
      obtain rfl:=za h
      exact zb.rt Tryz.results37 o
     ·
      obtain⟨hn10,h⟩:=zn h
      refine .sn mx (.mv o (.c (.gt .none (.s o) .i) (.mv o (.fg Q8 Yd o o o (.lg ty9 o o o (.mg o o o (.mg o o o (.c (.subW (.at o o) (.tmp o id) .i) (.c (.indexAddr (.at o o) qR qe (.tmp o id) (.tmp o id) (fun hg=>hn10 hg.2)) (.c (.fieldAddr (.at o o) Q8 Yd (.tmp o id)) (.lg ty9 o o o (.c (.leStr (.at o o) (.tmp o id) (.tmp o id)) (.pa o o (.asn o (.nil (.cb o h (fun _ h=>?_) fun _ h=>?_))))))))))))))))
      ·
       refine .sn mx (.asi (.nil (.ret (.blkRet (.thenRet (.blkRet (.thenRet (.thenRet (.blkRet (.thenRet ?_))))))))))
       replace h:=yM hK5 (za h)
       replace h:=hD3 _ (za h)
       replace h:=yk hK2 (za h)
       obtain rfl:=za h
       exact zb.rt Tryz.results37 o
      ·
       refine .sn mx (.fa Qg YV o (.ld Yv o (.ln jH o (.eqi o (.asn o (.nil (.cb o h (fun _ h=>?_) fun _ h=>?_)))))))
       ·
        refine .sn mx (.asi (.nil (.ret (.blkRet (.thenRet (.blkRet (.thenRet (.thenRet (.blkRet (.thenRet ?_))))))))))
        replace h:=yM hK5 (za h)
        replace h:=hD3 _ (za h)
        replace h:=yk hK2 (za h)
        obtain rfl:=za h
        exact zb.rt Tryz.results37 o
       ·
        refine .sn mx (.fa Qg YV o (.ld Yv o (.ln jH o (.c (.gt .none (.s o) .i) (.asn o (.nil (.cb o h (fun _ h=>?_) fun _ h=>?_)))))))
        ·
         refine .sn mx (.asi (.nil (.ret (.blkRet (.thenRet (.blkRet (.thenRet (.thenRet (.blkRet (.thenRet ?_))))))))))
         replace h:=yM hK5 (za h)
         replace h:=hD3 _ (za h)
         replace h:=yk hK2 (za h)
         obtain rfl:=za h
         exact zb.rt Tryz.results37 o
        ·
         refine .skip (.blkNormal (.then (.sn mx (.fa Qg YV o (.ld Yv o (.ln jH o (.mvi (.nil (.block (.rforEL h (fun p14_=>[(50,⟨True,rep p14_.1⟩)]) (fun p14_=>[]) (.k 50 o .nil) zi.nil (.k4 0 4 11 12 o o o o (.k2 13 48 o o (.k 49 o .nil))) zi.nil (fun p14_ o_14 h hD14=>(.sn mx (.lt o o (.nil (.seq (.cb o h (fun _ h=>?_) fun _ h=>?_))))))))))))))))
         ·
          refine .skip (.then (.seq ?_))
          obtain⟨o_16,h,hK16⟩:=qg h
          unfold zbQ at h
          refine .tJ (fun s=>o_16=Res.nx s) (.k4 0 4 11 12 o o o o (.k4 13 48 49 50 o o o o .nil)) zi.nil ?_ (fun j_16 hj16=>?_)
          ·
           obtain⟨hn17,h⟩:=zn h
           obtain⟨v2,hv18,h⟩:=zv h
           obtain⟨r2,hv19,h⟩:=bind_some h
           refine .block (.sr [oo,oo,oo,([],[6]),oo,([6],[6])] mx (.mvA o (.ixA jH jz o o hn17 (.rlA hv18 jz o (.al zid o (.asnA o (.st jz o o o (.nil (.freeze (t:=6) o o zi.nil o (.seq (.block (.sn mx (.fa zaE JK o (.ld ty9 o (.c (.call .none (zdG hv19) (.cons (.s o) .nil)) (.c (.not .none (.s o)) (.asn o (.nil (.cb o h (fun _ h=>?_) fun _ h=>?_)))))))))))))))))))
           ·
            refine .sn mx (.asi (.nil (.ret (.blkRet (.thenRet (.blkRet (.thenRet (.thenRet (.blkRet (.blkRet (.thenRet (.thenRet (.blkRet (.thenRet ?_))))))))))))))
            replace h:=yM hK16 (za h)
            replace h:=hD14 _ (za h)
            replace h:=yM hK5 (za h)
            replace h:=hD3 _ (za h)
            replace h:=yk hK2 (za h)
            obtain rfl:=za h
            exact zb.rt Tryz.results37 o
           ·
            obtain⟨hn21,h⟩:=zn h
            refine .sn mx (.mv o (.c (.gt .none (.s o) .i) (.mv o (.fg zaE JK o o o (.lg ty9 o o o (.fg Qg YV o o o (.lg Yv o o o (.mg o o o (.c (.subW (.at o o) (.tmp o id) .i) (.c (.indexAddr (.at o o) jH jz (.tmp o id) (.tmp o id) (fun hg=>hn21 hg.2)) (.c (.fieldAddr (.at o o) zaE JK (.tmp o id)) (.lg ty9 o o o (.c (.leStr (.at o o) (.tmp o id) (.tmp o id)) (.pa o o (.asn o (.nil (.cb o h (fun _ h=>?_) fun _ h=>?_)))))))))))))))))
            ·
             refine .sn mx (.asi (.nil (.ret (.blkRet (.thenRet (.blkRet (.thenRet (.thenRet (.blkRet (.blkRet (.thenRet (.thenRet (.blkRet (.thenRet ?_))))))))))))))
             replace h:=yM hK16 (za h)
             replace h:=hD14 _ (za h)
             replace h:=yM hK5 (za h)
             replace h:=hD3 _ (za h)
             replace h:=yk hK2 (za h)
             obtain rfl:=za h
             exact zb.rt Tryz.results37 o
            ·
             obtain⟨e1,hv23,h⟩:=bind_some h
             refine .skip (.blkNormal (.then (.sn mx (.fa zdO zcc o (.ld ty9 o (.c (.call .none (ze2 hv23) (.cons (.s o) .nil)) (.asn o (.nil (.sn mx (.mv o (.nei o (.nil (.cb o h (fun _ h=>?_) fun _ h=>?_)))))))))))))
             ·
              refine .sn mx (.mv o (.asn o (.nil (.ret (.blkRet (.thenRet (.thenRet (.blkRet (.blkRet (.thenRet (.thenRet (.blkRet (.thenRet ?_)))))))))))))
              replace h:=yM hK16 (za h)
              replace h:=hD14 _ (za h)
              replace h:=yM hK5 (za h)
              replace h:=hD3 _ (za h)
              replace h:=yk hK2 (za h)
              obtain rfl:=za h
              exact zb.rt Tryz.results37 o
             ·
              exact .skip (.blkNormal (zb.j _ (za h)))
          ·
           have h:=qh hK16 hj16
           exact .rn mx (.adi o (.mv o (.nil (zb.ag (za h)))))
         ·
          refine .exit (.thenExit (.thenExit (.blkExit (.blkNormal ?_))))
          replace h:=hD14 _ (za h)
          exact zb.j _ (za h)
    ·
     have h:=qh hK5 hj5
     exact .rn mx (.adi o (.mv o (.nil (zb.ag (za h)))))
   ·
    refine .exit (.thenExit (.thenExit (.blkExit ?_)))
    replace h:=hD3 _ (za h)
    exact zb.j _ (za h)
  ·
   have h:=yO hK2 hj2
   refine .sn mx (.asi (.nil (.ret ?_)))
   obtain rfl:=za h
   exact zb.rt Tryz.results37 o
theorem zf3 {l1:(List zu)}{r:(GMap Str (GMap Str Str))}  (h:JD l1=some r):zS Tryz.prog 38 [rep l1] [] (zV) [some (yo none r)]:=by
 unfold JD at h
 obtain⟨t1,hv1,h⟩:=zv h
 refine zS.i Tryz.func38 o Tryz.ntmps38 o (fun F=>(.sn mx (.c (.assign .none (.const (x:=(GMap.nil:(GMap Str (GMap Str Str)))) (fun M w=>⟨_,zgR,rfl⟩))) (.nil (.sr [([],[8]),([8],[3,8])] mx (.cW (.makeMapD (K:=Str) (K2:=Str) (V:=Str) o) (.cW (.passRow o (.tmp o)) (.nil (.reB (t:=3) o (congrArg (yo none) hv1) (.nameC (t:=3) (g:=5001) zg0 o o o (fun s5001=>(.seq (.sn mx (.mv o (.ln qR o (.mvi (.nil ?_)))))))))))))))))
 obtain⟨j_2,h,hK2⟩:=bind_some h
 refine .thenJ (ι:=(GMap Str (GMap Str Str))) (fun j_2=>[]) (fun j_2=>[(5001,some (zd.at s5001 (yo none j_2)))]) (fun s=>j_2=s) (.k 3 o .nil) zi.nil ?_ (fun j_2' hj2=>?_)
 ·
  refine .block (.rforL h (fun p3_=>[(11,⟨True,rep p3_.1⟩)]) (fun p3_=>[(5001,some (zd.at s5001 (yo none p3_.2)))]) (.k 11 o .nil) (.k 5001 o .nil) (.k2 3 9 o o (.k 10 o .nil)) zi.nil (fun p3_ o_3 h hD3=>(.sn mx (.lt o o (.nil (.seq (.cb o h (fun _ h=>?_) fun _ h=>?_)))))))
  ·
   refine .skip (.then (.seq ?_))
   obtain⟨j_5,h,hK5⟩:=bind_some h
   unfold zdH at h
   refine .thenJ (ι:=(GMap Str (GMap Str Str))) (fun j_5=>[]) (fun j_5=>[(5001,some (zd.at s5001 (yo none j_5)))]) (fun s=>j_5=s) (.k4 3 9 10 11 o o o o .nil) zi.nil ?_ (fun j_5' hj5=>?_)
   ·
    obtain⟨hn6,h⟩:=zn h
    obtain⟨v1,hv7,h⟩:=zv h
    obtain⟨t2,hv8,h⟩:=zv h
    refine .block (.sr [oo,oo,([],[5]),([5],[5])] mx (.ixA qR qe o o hn6 (.rlA hv7 qe o (.al zbA o (.st qe o o o (.nil (.freeze (t:=5) o o (.k 5001 o .nil) o (.sr [oo,oo,oo,([],[18]),([5001,18],[5001,18])] mx (.mvA o (.faA Q8 Yd o (.ldA ty9 o (.cW (.makeMap (K:=Str) (V:=Str) o) (.cN (.mapPutD (q:=5001) (t:=18) Qn o (.s o) o o o (.s o)) (.nil (.reB (t:=5001) o (congrArg (fun y=>zd.at s5001 (yo none y)) hv8) (.sn mx (.fa Qg YV o (.ld Yv o (.ln jH o (.mvi (.nil (.block (.rforL h (fun p9_=>[(22,⟨True,rep p9_.1⟩)]) (fun p9_=>[(5001,some (zd.at s5001 (yo none p9_.2)))]) (.k 22 o .nil) (.k 5001 o .nil) (.k4 3 5 9 10 o o o o (.k2 11 20 o o (.k 21 o .nil))) zi.nil (fun p9_ o_9 h hD9=>(.sn mx (.lt o o (.nil (.seq (.cb o h (fun _ h=>?_) fun _ h=>?_)))))))))))))))))))))))))))))
    ·
     refine .skip (.then (.seq ?_))
     obtain⟨j_11,h,hK11⟩:=bind_some h
     unfold zdI at h
     refine .thenJ (ι:=(GMap Str (GMap Str Str))) (fun j_11=>[]) (fun j_11=>[(5001,some (zd.at s5001 (yo none j_11)))]) (fun s=>j_11=s) (.k4 3 5 9 10 o o o o (.k4 11 20 21 22 o o o o .nil)) zi.nil ?_ (fun j_11' hj11=>?_)
     ·
      obtain⟨hn12,h⟩:=zn h
      obtain⟨v2,hv13,h⟩:=zv h
      obtain⟨hn14,h⟩:=zn h
      exact .block (.sr [oo,oo,([],[7]),([7],[7])] mx (.ixA jH jz o o hn12 (.rlA hv13 jz o (.al zid o (.st jz o o o (.nil (.freeze (t:=7) o o (.k 5001 o .nil) o (.openM (q:=5001) (r:=5002) (k:=v1.Id) o o hn14 (fun s5002=>(.rg [oo,oo,oo,([5001],[]),oo,oo,oo,oo,([5002],[5002])] mx (.mvA o (.faA Q8 Yd o (.ldA ty9 o (.cA (.lookPin (q:=5001) (z:=s5002) .none Qn zfq (.s o) o (.s o)) (.faA zaE JK o (.ldA ty9 o (.faA zdO zcc o (.ldA ty9 o (.cN (.mapUpdate (q:=5002) qO (.s o) o (.s o) (.s o)) (.nil (.blkNormal (.closeM (q:=5001) (r:=5002) o o o (zb.j _ (za h))))))))))))))))))))))))
     ·
      subst hj11;have h:=hK11;clear hK11
      exact .rn mx (.adi o (.mv o (.nil (zb.ag (za h)))))
    ·
     refine .exit (.thenExit (.thenExit (.blkExit (.blkNormal ?_))))
     replace h:=hD9 _ (za h)
     exact zb.j _ (za h)
   ·
    subst hj5;have h:=hK5;clear hK5
    exact .rn mx (.adi o (.mv o (.nil (zb.ag (za h)))))
  ·
   refine .exit (.thenExit (.thenExit (.blkExit ?_)))
   replace h:=hD3 _ (za h)
   exact zb.j _ (za h)
 ·
  subst hj2;have h:=hK2;clear hK2
  refine .sn mx (.mv o (.asn o (.nil (.ret (.anon (t:=2) (g:=5001) o o trivial o ?_)))))
  obtain rfl:=za h
  exact zb.ret1O (.inl o) [2] Tryz.results38 (by decide) (.res o o) (zt.tmp o trivial (fun _ _ _ _=>trivial))
theorem zuK {slices1:(List (List zu))}{r:(List zu)}  (h:zcV slices1=some r):zS Tryz.prog 39 [rep slices1] [] (zV) [some (zp 103 r)]:=by
 unfold zcV at h
 refine zS.i Tryz.func39 o Tryz.ntmps39 o (fun F=>(.sn mx (.c (.assign .none (.const (x:=([]:(List zu))) (fun M w=>⟨_,⟨none,0,rfl,Nat.le_refl _,by decide,rfl⟩,rfl⟩))) (.nil (.sn mx (.asi (.nil (.seq (.sn mx (.mv o (.ln Jc o (.mvi (.nil ?_)))))))))))))
 obtain⟨j_1,h,hK1⟩:=bind_some h
 refine .thenJ (ι:=Int) (fun j_1=>[(3,⟨True,rep j_1⟩)]) (fun j_1=>[]) (fun s=>j_1=s) (.k 0 o .nil) zi.nil ?_ (fun j_1' hj1=>?_)
 ·
  refine .block (.rforL h (fun p2_=>[(11,⟨True,rep p2_.1⟩),(3,⟨True,rep p2_.2⟩)]) (fun p2_=>[]) (.k2 11 3 o o .nil) zi.nil (.k2 0 9 o o (.k 10 o .nil)) zi.nil (fun p2_ o_2 h hD2=>(.sn mx (.lt o o (.nil (.seq (.cb o h (fun _ h=>?_) fun _ h=>?_)))))))
  ·
   refine .skip (.then (.seq ?_))
   obtain⟨j_4,h,hK4⟩:=bind_some h
   unfold Jd at h
   refine .thenJ (ι:=Int) (fun j_4=>[(3,⟨True,rep j_4⟩)]) (fun j_4=>[]) (fun s=>j_4=s) (.k4 0 9 10 11 o o o o .nil) zi.nil ?_ (fun j_4' hj4=>?_)
   ·
    obtain⟨hn5,h⟩:=zn h
    obtain⟨size1,hv6,h⟩:=zv h
    refine .block (.sn mx (.ix Jc Jj o o hn5 (.ld Jj o (.asn o (.nil (.sn mx (.mv o (.mv o (.ln qR o (.add o o (.ra hv6 o (.nil (.sn mx (.mv o (.c (.lt .none (.s o) .i) (.nil (.cb o h (fun _ h=>?_) fun _ h=>?_)))))))))))))))))
    ·
     cases h
    ·
     exact .skip (.blkNormal (zb.j _ (za h)))
   ·
    subst hj4;have h:=hK4;clear hK4
    exact .rn mx (.adi o (.mv o (.nil (zb.ag (za h)))))
  ·
   refine .exit (.thenExit (.thenExit (.blkExit ?_)))
   replace h:=hD2 _ (za h)
   exact zb.j _ (za h)
 ·
  subst hj1;have h:=hK1;clear hK1
  obtain⟨newslice1,hv8,h⟩:=bind_some h
  refine .sr [oo,([],[24]),([24],[6,24])] mx (.mvA rfl (.cW (.cO [] (zuP hv8) (.cons (.const (fun _ _=>ya.2 ⟨rfl,rfl,rfl⟩)) (.cons (.s rfl) .nil)) .nil rfl) (.cW (.passRow rfl (.tmp rfl)) (.nil (.nameRow (t:=6) (g:=5001) rfl rfl rfl (fun s5001=>(.seq (.sn mx (.mv rfl (.ln Jc rfl (.mvi (.nil ?_))))))))))))
  obtain⟨j_9,h,hK9⟩:=bind_some h
  refine .thenJ (ι:=(List zu)) (fun j_9=>[]) (fun j_9=>[(6,some (zp 103 j_9))]) (fun s=>j_9=s) Sub.nil zi.nil ?_ (fun j_9' hj9=>?_)
  ·
   refine .block (.anon (t:=6) (g:=5001) o o trivial o (.rforL h (fun p10_=>[(27,⟨True,rep p10_.1⟩)]) (fun p10_=>[(6,some (zp 103 p10_.2))]) (.k 27 o .nil) (.k 6 o .nil) (.k2 25 26 o o .nil) zi.nil (fun p10_ o_10 h hD10=>(.nameRow (t:=6) (g:=5002) o o o (fun s5002=>(.sn mx (.lt o o (.nil (.seq (.cb o h (fun _ h=>?_) fun _ h=>?_))))))))))
   ·
    refine .skip (.then (.seq ?_))
    obtain⟨j_12,h,hK12⟩:=bind_some h
    unfold Je at h
    refine .thenJ (ι:=(List zu)) (fun j_12=>[]) (fun j_12=>[(6,some (zp 103 j_12))]) (fun s=>j_12=s) (.k2 25 26 o o (.k 27 o .nil)) zi.nil ?_ (fun j_12' hj12=>?_)
    ·
     obtain⟨hn13,h⟩:=zn h
     obtain⟨hn14,h⟩:=zn h
     exact .block (.sn mx (.ix Jc Jj o o hn13 (.ld Jj o (.asn o (.nil (.rg [oo,oo,([5002],[33,5002]),([33],[6,33])] mx (.mvA o (.mvA o (.cW (.append (k:=5002) zhq o (.told (.s o) o) (.s o) hn14) (.consWD (.passRow o (.tmp o)) o o (.nil (.blkNormal (zb.j _ (za h))))))))))))))
    ·
     subst hj12;have h:=hK12;clear hK12
     exact .nameRow (t:=6) (g:=5003) o o o (fun s5003=>(.rn mx (.adi o (.mv o (.nil (.anon (t:=6) (g:=5003) o o trivial o (zb.ag (za h))))))))
   ·
    refine .exit (.thenExit (.thenExit (.blkExit (.anon (t:=6) (g:=5002) o o trivial o ?_))))
    replace h:=hD10 _ (za h)
    exact zb.j _ (za h)
  ·
   subst hj9;have h:=hK9;clear hK9
   refine .nameRow (t:=6) (g:=5004) o o o (fun s5004=>(.sn mx (.mv o (.asn o (.nil (.ret (.anon (t:=2) (g:=5004) o o trivial o ?_)))))))
   obtain rfl:=za h
   exact zb.ret1O (.inl o) [2] Tryz.results39 (by decide) (.res o o) (zt.tmp o trivial (fun _ _ _ _=>trivial))
theorem zuJ {s1:(List Str)}{r:(List Str)}{s61:Value}(h:zcT s1=some r):zS Tryz.prog 41 [isV s61] [(s61,zp 9 s1)] (zV) [none,some (zp 9 r)]:=by
 unfold zcT at h
 refine zS.i Tryz.func41 o Tryz.ntmps41 o (fun F=>(.sn mx (.c (.assign .none (.const (x:=([]:(List Str))) (fun M w=>⟨_,⟨none,0,rfl,Nat.le_refl _,by decide,rfl⟩,rfl⟩))) (.nil (.seq (.sr [oo,([61],[]),oo] mx (.mvA o (.cA (.lenO (k:=61) zX (.told (.s o) o)) (.cA (.lt .none (.s o) .i) (.nil (.cb o h (fun _ h=>?_) fun _ h=>?_)))))))))))
 ·
  refine .sn mx (.mv o (.asn o (.nil (.ret (.thenRet (.anon (t:=2) (g:=61) o o trivial o ?_))))))
  obtain rfl:=za h
  exact zb.ret1O (.inl o) [61,2] Tryz.results41 (by decide) (.skip (.res o o)) (zt.tmp o trivial (fun _ _ _ _=>trivial))
 ·
  refine .skip (.then (.seq (.sn mx (.asi (.nil ?_)))))
  obtain⟨o_2,h,hK2⟩:=yN h
  refine .tJ (fun s=>o_2=Res.nx s) (.k 0 o .nil) (.k 61 o .nil) ?_ (fun j_2 hj2=>?_)
  ·
   refine .block (.loopL h (fun s3_=>[(3,⟨True,rep s3_⟩)]) (fun s3_=>[]) (.k 3 o .nil) zi.nil (.k 0 o .nil) (.k 61 o .nil) (fun s3_ o_3 h hD3=>?_))
   unfold ze7 at h
   refine .seq (.sr [oo,oo,([61],[]),oo] mx (.mvA o (.mvA o (.cA (.lenO (k:=61) zX (.told (.s o) o)) (.cA (.lt .none (.s o) (.s o)) (.nil (.cb o h (fun _ h=>?_) fun _ h=>?_)))))))
   ·
    refine .skip (.then (.seq ?_))
    obtain⟨o_5,h,hK5⟩:=yN h
    refine .tJ (fun s=>o_5=Res.nx s) (.k2 0 3 o o .nil) (.k 61 o .nil) ?_ (fun j_5 hj5=>?_)
    ·
     obtain⟨hn6,h⟩:=zn h
     obtain⟨hn7,h⟩:=zn h
     refine .block (.sr [oo,oo,([61],[]),([61],[]),oo,oo,oo,([61],[]),([61],[]),oo] mx (.mvA o (.mvA o (.ixO 61 zX ty9 o o o hn6 (.cA (.loadElem0 (k:=61) .none ty9 (.s o) o (fun _=>hn6)) (.mvA o (.mvA o (.cA (.subW .none (.s o) .i) (.ixO 61 zX ty9 o o o hn7 (.cA (.loadElem0 (k:=61) .none ty9 (.s o) o (fun _=>hn7)) (.cA (.eqS .none (z6 Tryz.underlying9) (.s o) (.s o)) (.nil (.cb o h (fun _ h=>?_) fun _ h=>?_)))))))))))))
     ·
      obtain⟨hn9,h⟩:=zn h
      refine .sr [oo,oo,([61],[]),oo] mx (.mvA o (.mvA o (.cA (.sliceLend (k:=61) zX ty9 (.s o) o (.s o) o hn9) (.asnA o (.nil (.seq (.sn mx (.asi (.nil ?_)))))))))
      obtain⟨j_10,h,hK10⟩:=bind_some h
      refine .thenJ (ι:=(Int×(List Str))) (fun j_10=>[(3,⟨True,rep j_10.1⟩)]) (fun j_10=>[(61,some (zd.at s61 (zp 9 j_10.2)))]) (fun s=>j_10=s) (.k 0 o .nil) zi.nil ?_ (fun j_10' hj10=>?_)
      ·
       refine .block (.loopL h (fun s11_=>[(3,⟨True,rep s11_.1⟩),(5,⟨True,rep s11_.2.1⟩)]) (fun s11_=>[(61,some (zd.at s61 (zp 9 s11_.2.2)))]) (.k2 3 5 o o .nil) (.k 61 o .nil) (.k2 0 4 o o .nil) zi.nil (fun s11_ o_11 h hD11=>?_))
       unfold zcU at h
       obtain⟨hn12,h⟩:=zn h
       refine .seq (.sr [oo,oo,([61],[]),oo] mx (.mvA o (.mvA o (.cA (.lenPart (k:=61) zX (.s o) o hn12) (.cA (.lt .none (.s o) (.s o)) (.nil (.cb o h (fun _ h=>?_) fun _ h=>?_)))))))
       ·
        refine .skip (.then (.seq ?_))
        obtain⟨j_14,h,hK14⟩:=bind_some h
        refine .thenJ (ι:=(Int×(List Str))) (fun j_14=>[(3,⟨True,rep j_14.1⟩)]) (fun j_14=>[(61,some (zd.at s61 (zp 9 j_14.2)))]) (fun s=>j_14=s) (.k2 0 4 o o (.k 5 o .nil)) zi.nil ?_ (fun j_14' hj14=>?_)
        ·
         obtain⟨hn15,h⟩:=zn h
         obtain⟨hn16,h⟩:=zn h
         obtain⟨hn17,h⟩:=zn h
         obtain⟨hn18,h⟩:=zn h
         obtain⟨hn19,h⟩:=zn h
         obtain⟨hn20,h⟩:=zn h
         refine .block (.sr [oo,oo,([61],[]),([61],[]),oo,oo,oo,([61],[]),([61],[]),oo] mx (.mvA o (.mvA o (.cA (.indexPart (k:=61) .none zX ty9 (.s o) o (.s o) (fun _=>hn15) (fun _=>hn16)) (.cA (.loadElem0 (k:=61) .none ty9 (.s o) o (fun _=>hn17)) (.mvA o (.mvA o (.cA (.subW .none (.s o) .i) (.cA (.indexPart (k:=61) .none zX ty9 (.s o) o (.s o) (fun _=>hn18) (fun _=>hn19)) (.cA (.loadElem0 (k:=61) .none ty9 (.s o) o (fun _=>hn20)) (.cA (.neS .none (z6 Tryz.underlying9) (.s o) (.s o)) (.nil (.cb o h (fun _ h=>?_) fun _ h=>?_)))))))))))))
         ·
          obtain⟨hn22,h⟩:=zn h
          obtain⟨hn23,h⟩:=zn h
          obtain⟨hn24,h⟩:=zn h
          obtain⟨v1,hv25,h⟩:=zv h
          obtain⟨hn26,h⟩:=zn h
          obtain⟨s2,hv27,h⟩:=zv h
          obtain⟨k1,hv28,h⟩:=zv h
          exact .sr [oo,oo,oo,oo,([61],[]),([61],[]),([61],[]),([61],[61])] mx (.mvA o (.mvA o (.mvA o (.mvA o (.cA (.indexPart (k:=61) .none zX ty9 (.s o) o (.s o) (fun _=>hn22) (fun _=>hn23)) (.cA (.re hv25 (.loadElem0 (k:=61) .none ty9 (.s o) o (fun _=>hn24))) (.ixO 61 zX ty9 o o o hn26 (.cN (.storeElem0 (k:=61) ty9 (.s o) o (.s o) hn26) (.nil (.reB (t:=61) o (congrArg (fun y=>zd.at s61 (zp 9 y)) hv27) (.rn mx (.mv o (.adi o (.ra hv28 o (.nil (.blkNormal (zb.j _ (za h))))))))))))))))))
         ·
          exact .skip (.blkNormal (zb.j _ (za h)))
        ·
         subst hj14;have h:=hK14;clear hK14
         obtain⟨k2_1,hv29,h⟩:=zv h
         exact .rn mx (.mv o (.adi o (.ra hv29 o (.nil (zb.ag (za h))))))
       ·
        refine .exit (.thenExit (.thenExit (.blkExit ?_)))
        replace h:=hD11 _ (za h)
        exact zb.j _ (za h)
      ·
       subst hj10;have h:=hK10;clear hK10
       obtain⟨hn30,h⟩:=zn h
       obtain⟨s3,hv31,h⟩:=zv h
       obtain⟨hn32,h⟩:=zn h
       obtain⟨v2,hv33,h⟩:=zv h
       refine .sr [oo,oo,([61],[]),([61],[61])] mx (.mvA o (.mvA o (.cA (.sliceLend (k:=61) zX ty9 (.s o) o (.s o) o hn30) (.cN (.clearPart (k:=61) zX zo9 (.s o) o hn30) (.nil (.reB (t:=61) o (congrArg (fun y=>zd.at s61 (zp 9 y)) hv31) (.sr [oo,oo,([61],[59,61]),([59],[2,59])] mx (.mvA o (.mvA o (.cW (.sliceRow (k:=61) zX ty9 o (.s o) o o (.s o) hn32) (.cW (.passRow o (.tmp o)) (.nil (.reB (t:=2) o (congrArg (zp 9) hv33) (.nameRow (t:=2) (g:=5001) o o o (fun s5001=>(.ret (.blkRet (.thenRet (.thenRet (.blkRet (.thenRet (.anon (t:=2) (g:=5001) o o trivial o ?_))))))))))))))))))))))
       replace h:=yk hK5 (za h)
       replace h:=hD3 _ (za h)
       replace h:=yk hK2 (za h)
       obtain rfl:=za h
       exact zb.ret1O (.inl o) [61,2] Tryz.results41 (by decide) (.skip (.res o o)) (zt.tmp o trivial (fun _ _ _ _=>trivial))
     ·
      exact .skip (.blkNormal (zb.j _ (za h)))
    ·
     have h:=yO hK5 hj5
     obtain⟨k2,hv34,h⟩:=zv h
     exact .rn mx (.mv o (.adi o (.ra hv34 o (.nil (zb.ag (za h))))))
   ·
    refine .exit (.thenExit (.thenExit (.blkExit ?_)))
    replace h:=hD3 _ (za h)
    exact zb.j _ (za h)
  ·
   have h:=yO hK2 hj2
   refine .sn mx (.mv o (.asn o (.nil (.ret (.anon (t:=2) (g:=61) o o trivial o ?_)))))
   obtain rfl:=za h
   exact zb.ret1O (.inl o) [61,2] Tryz.results41 (by decide) (.skip (.res o o)) (zt.tmp o trivial (fun _ _ _ _=>trivial))
theorem zuD {x1:(List zu)}{target1:Str}{cmp1:(zu→Str→Option Int)}{r:(Int×Bool)}  (h:zbj x1 target1 cmp1=some r):zr Tryz.prog 42 [rep x1,rep target1,fn2 Tryz.prog (rep (α:=Int)) cmp1] (tup [rep r.1,rep r.2]):=by
 unfold zbj at h
 obtain⟨n1,hv1,h⟩:=zv h
 refine zr.i Tryz.func42 o Tryz.ntmps42 o (fun F=>(.sn mx (.asi (.asb (.nil (.sn mx (.mv o (.ln qR o (.ra hv1 o (.nil (.sn mx (.mv o (.asi (.asn o (.nil (.seq ?_))))))))))))))))
 obtain⟨j_2,h,hK2⟩:=bind_some h
 refine .thenJ (ι:=Int) (fun j_2=>[(9,⟨True,rep j_2⟩)]) (fun j_2=>[]) (fun s=>j_2=s) (.k4 0 1 2 8 o o o o .nil) zi.nil ?_ (fun j_2' hj2=>?_)
 ·
  refine .block (.loopL h (fun s3_=>[(9,⟨True,rep s3_.1⟩),(10,⟨True,rep s3_.2⟩)]) (fun s3_=>[]) (.k2 9 10 o o .nil) zi.nil (.k4 0 1 2 8 o o o o .nil) zi.nil (fun s3_ o_3 h hD3=>?_))
  unfold zbk at h
  refine .seq (.sn mx (.mv o (.mv o (.lt o o (.nil (.cb o h (fun _ h=>?_) fun _ h=>?_))))))
  ·
   obtain⟨h1,hv5,h⟩:=zv h
   obtain⟨hn6,h⟩:=zn h
   obtain⟨r1,hv7,h⟩:=bind_some h
   refine .skip (.then (.block (.sn mx (.mv o (.mv o (.add o o (.c (.toK .none (by kernel_rfl) Tryz.underlying174 (.s o)) (.c (.kshr .none (.s o) .ki (fun _=>by decide)) (.c (.toInt .none (by kernel_rfl) Tryz.underlying3 (.s o)) (.ra hv5 o (.nil (.sn mx (.mv o (.mv o (.mv o (.ix qR qe o o hn6 (.ld qe o (.mv o (.c (.callV (gx x1 h1,target1,r1) .none (.s o) (fun _=>hv7) (.cons (.s o) (.cons (.s o) .nil))) (.c (.lt .none (.s o) .i) (.nil (.cb o h (fun _ h=>?_) fun _ h=>?_))))))))))))))))))))))
   ·
    obtain⟨i1,hv9,h⟩:=zv h
    exact .rn mx (.mv o (.adi o (.ra hv9 o (.nil (.blkNormal (zb.ag (za h)))))))
   ·
    exact .rn mx (.mv o (.asn o (.nil (.blkNormal (zb.ag (za h))))))
  ·
   refine .exit (.thenExit (.thenExit (.blkExit ?_)))
   replace h:=hD3 _ (za h)
   exact zb.j _ (za h)
 ·
  subst hj2;have h:=hK2;clear hK2
  obtain⟨hn10,h⟩:=zn h
  obtain⟨r2,hv11,h⟩:=bind_some h
  refine .sn mx (.mv o (.mv o (.mv o (.lt o o (.mv o (.mg o o o (.mg o o o (.mg o o o (.c (.indexAddr (.at o o) qR qe (.tmp o id) (.tmp o id) (fun hg=>hn10 hg.2)) (.lg qe o o o (.mg o o o (.c (.callV (gx x1 j_2,target1,r2) (.at o o) (.tmp o id) (fun hg=>vj hv11 (hg.2)) (.cons (.tmp o id) (.cons (.tmp o id) .nil))) (.c (.eqI (.at o o) (.tmp o id) .i) (.pa o o (.asn o (.asn o (.nil (.ret ?_))))))))))))))))))
  obtain rfl:=za h
  exact zb.ret2 (.inl o) Tryz.results42 (zt.tmp o trivial Imp.refl) (zt.tmp o trivial Imp.refl)
theorem zvj {s sep:Str}{r:Int}(h:strings_Compare s sep=some r):zr Tryz.prog 44 [rep s,rep sep] (rep r):=by
 obtain rfl:=za h
 exact zpu zfO o zqV
theorem zp9 {x1:zu}{id1:Str}{r:Int}  (h:QC x1 id1=some r):zr Tryz.prog 43 [rep x1,rep id1] (rep r):=by
 unfold QC at h
 obtain⟨r1,hv1,h⟩:=bind_some h
 refine zr.i Tryz.func43 o Tryz.ntmps43 o (fun F=>(.sn mx (.c (.box .none (.s o)) (.asi (.nil (.sn mx (.fa Q8 Yd o (.ld ty9 o (.mv o (.c (.call .none (zvj hv1) (.cons (.s o) (.cons (.s o) .nil))) (.asn o (.nil (.ret ?_)))))))))))))
 obtain rfl:=za h
 exact zb.rt Tryz.results43 o
set_option maxHeartbeats 4000000 in
theorem zqa {a1:(List zu)}{b1:(List zu)}{r:((List DOp)×Int)}  (h:zay a1 b1=some r):zr Tryz.prog 8 [rep a1,rep b1] (tup [rep r.1,rep r.2]):=by
 unfold zay at h
 obtain⟨v1,hv1,h⟩:=zv h
 refine zr.i Tryz.func8 o Tryz.ntmps8 o (fun F=>(.sn mx (.c (.assign .none (.const (x:=([]:(List DOp))) (fun M w=>⟨_,⟨none,0,rfl,Nat.le_refl _,by decide,rfl⟩,rfl⟩))) (.asi (.nil (.seq (.sn mx (.mv o (.mv o (.c (.re hv1 (.buildSlice (xs:=[_,_]) .none Jc Jj zkv (.cons (.s o) (.cons (.s o) .nil)) o (by decide))) (.ln Jc o (.mvi (.nil ?_)))))))))))))
 obtain⟨o_2,h,hK2⟩:=yN h
 refine .tJ (fun s=>o_2=Res.nx s) (.k2 0 1 o o .nil) zi.nil ?_ (fun j_2 hj2=>?_)
 ·
  refine .block (.rforEL h (fun p3_=>[(33,⟨True,rep p3_.1⟩)]) (fun p3_=>[]) (.k 33 o .nil) zi.nil (.k4 0 1 31 32 o o o o .nil) zi.nil (fun p3_ o_3 h hD3=>(.sn mx (.lt o o (.nil (.seq (.cb o h (fun _ h=>?_) fun _ h=>?_)))))))
  ·
   refine .skip (.then (.seq ?_))
   obtain⟨o_5,h,hK5⟩:=qg h
   unfold YK at h
   refine .tJ (fun s=>o_5=Res.nx s) (.k4 0 1 31 32 o o o o (.k 33 o .nil)) zi.nil ?_ (fun j_5 hj5=>?_)
   ·
    obtain⟨hn6,h⟩:=zn h
    obtain⟨e1,hv7,h⟩:=bind_some h
    refine .block (.sn mx (.ix Jc Jj o o hn6 (.ld Jj o (.asn o (.nil (.sn mx (.mv o (.c (.call .none (zf2 hv7) (.cons (.s o) .nil)) (.asn o (.nil (.sn mx (.mv o (.nei o (.nil (.cb o h (fun _ h=>?_) fun _ h=>?_)))))))))))))))
    ·
     refine .sn mx (.mv o (.c (.assign .none (.const (x:=([]:(List DOp))) (fun M w=>⟨_,⟨none,0,rfl,Nat.le_refl _,by decide,rfl⟩,rfl⟩))) (.asn o (.nil (.ret (.blkRet (.thenRet (.thenRet (.blkRet (.thenRet ?_))))))))))
     replace h:=yM hK5 (za h)
     replace h:=hD3 _ (za h)
     replace h:=yk hK2 (za h)
     obtain rfl:=za h
     exact zb.ret2 (.inl o) Tryz.results8 (zt.tmp o trivial Imp.refl) (zt.tmp o trivial Imp.refl)
    ·
     exact .skip (.blkNormal (zb.j _ (za h)))
   ·
    have h:=qh hK5 hj5
    exact .rn mx (.adi o (.mv o (.nil (zb.ag (za h)))))
  ·
   refine .exit (.thenExit (.thenExit (.blkExit ?_)))
   replace h:=hD3 _ (za h)
   exact zb.j _ (za h)
 ·
  have h:=yO hK2 hj2
  obtain⟨old1,hv9,h⟩:=bind_some h
  obtain⟨now1,hv10,h⟩:=bind_some h
  obtain⟨r1,hv11,h⟩:=bind_some h
  refine .sn mx (.mv o (.c (.call .none (zf3 hv9).frzD (.cons (.s o) .nil)) (.mv o (.c (.call .none (zf3 hv10).frzD (.cons (.s o) .nil)) (.asn o (.asn o (.nil (.sr [([],[11])] mx (.cW (.nilRow (T:=9) (α:=Str) o) (.nil (.nameRow (t:=11) (g:=5001) o o o (fun s5001=>(.seq (.sn mx (.mv o (.mv o (.c (.buildSlice (xs:=[_,_]) .none Jc Jj zkv (.cons (.s o) (.cons (.s o) .nil)) o (by decide)) (.c (.call .none (zuK hv11).frz (.cons (.s o) .nil)) (.ln qR o (.mvi (.nil ?_)))))))))))))))))))))
  obtain⟨j_12,h,hK12⟩:=bind_some h
  refine .thenJ (ι:=(List Str)) (fun j_12=>[]) (fun j_12=>[(11,some (zp 9 j_12))]) (fun s=>j_12=s) (.k2 1 9 o o (.k 10 o .nil)) zi.nil ?_ (fun j_12' hj12=>?_)
  ·
   refine .block (.anon (t:=11) (g:=5001) o o trivial o (.rforL h (fun p13_=>[(52,⟨True,rep p13_.1⟩)]) (fun p13_=>[(11,some (zp 9 p13_.2))]) (.k 52 o .nil) (.k 11 o .nil) (.k4 1 9 10 50 o o o o (.k 51 o .nil)) zi.nil (fun p13_ o_13 h hD13=>(.nameRow (t:=11) (g:=5002) o o o (fun s5002=>(.sn mx (.lt o o (.nil (.seq (.cb o h (fun _ h=>?_) fun _ h=>?_))))))))))
   ·
    refine .skip (.then (.seq ?_))
    obtain⟨j_15,h,hK15⟩:=bind_some h
    unfold zdw at h
    refine .thenJ (ι:=(List Str)) (fun j_15=>[]) (fun j_15=>[(11,some (zp 9 j_15))]) (fun s=>j_15=s) (.k4 1 9 10 50 o o o o (.k2 51 52 o o .nil)) zi.nil ?_ (fun j_15' hj15=>?_)
    ·
     obtain⟨hn16,h⟩:=zn h
     obtain⟨v2,hv17,h⟩:=zv h
     obtain⟨hn18,h⟩:=zn h
     exact .block (.sr [oo,oo,([],[13]),([13],[13])] mx (.ixA qR qe o o hn16 (.rlA hv17 qe o (.al zbA o (.st qe o o o (.nil (.freeze (t:=13) o o (.k 5002 o .nil) o (.rg [oo,oo,oo,oo,([5002],[60,5002]),([60],[11,60])] mx (.mvA o (.faA Q8 Yd o (.ldA ty9 o (.cA (.buildSlice (xs:=[_]) .none zX ty9 hz9 (.cons (.s o) .nil) o (by decide)) (.cW (.append (k:=5002) zmu o (.told (.s o) o) (.s o) hn18) (.cW (.passRow o (.tmp o)) (.nil (.blkNormal (zb.j _ (za h))))))))))))))))))
    ·
     subst hj15;have h:=hK15;clear hK15
     exact .nameRow (t:=11) (g:=5003) o o o (fun s5003=>(.rn mx (.adi o (.mv o (.nil (.anon (t:=11) (g:=5003) o o trivial o (zb.ag (za h))))))))
   ·
    refine .exit (.thenExit (.thenExit (.blkExit (.anon (t:=11) (g:=5002) o o trivial o ?_))))
    replace h:=hD13 _ (za h)
    exact zb.j _ (za h)
  ·
   subst hj12;have h:=hK12;clear hK12
   obtain⟨r2,hv19,h⟩:=bind_some h
   obtain⟨r3,hv20,h⟩:=bind_some h
   refine .nameRow (t:=11) (g:=5004) o o o (fun s5004=>(.sr [oo,([5004],[5004])] mx (.mvA o (.cW (.cO [5004] (zuT hv19) (.cons (.s o) .nil) (.cons (k:=5004) o .nil) o) (.nil (.sr [([],[14])] mx (.cW (.nilRow (T:=110) (α:=DOp) o) (.nil (.nameRow (t:=14) (g:=5005) o o o (fun s5005=>(.seq (.sr [oo,([5004],[5004]),oo,oo] mx (.mvA o (.cW (.cO [5004] ((zuJ hv20).frzO1) (.cons (.s o) .nil) (.cons (k:=5004) o .nil) o) (.cA (.len .none zX (.s o)) (.cA (.move .none .i) (.nil ?_)))))))))))))))))
   obtain⟨j_21,h,hK21⟩:=bind_some h
   refine .thenJ (ι:=(List DOp)) (fun j_21=>[]) (fun j_21=>[(14,some (zp 110 j_21))]) (fun s=>j_21=s) Sub.nil zi.nil ?_ (fun j_21' hj21=>?_)
   ·
    refine .block (.anon (t:=14) (g:=5005) o o trivial o (.rforL h (fun p22_=>[(67,⟨True,rep p22_.1⟩)]) (fun p22_=>[(14,some (zp 110 p22_.2))]) (.k 67 o .nil) (.k 14 o .nil) (.k4 1 9 10 65 o o o o (.k 66 o .nil)) zi.nil (fun p22_ o_22 h hD22=>(.nameRow (t:=14) (g:=5006) o o o (fun s5006=>(.sn mx (.lt o o (.nil (.seq (.cb o h (fun _ h=>?_) fun _ h=>?_))))))))))
    ·
     refine .skip (.then (.seq ?_))
     obtain⟨j_24,h,hK24⟩:=bind_some h
     unfold zdx at h
     refine .thenJ (ι:=(List DOp)) (fun j_24=>[]) (fun j_24=>[(14,some (zp 110 j_24))]) (fun s=>j_24=s) (.k4 1 9 10 65 o o o o (.k2 66 67 o o .nil)) zi.nil ?_ (fun j_24' hj24=>?_)
     ·
      obtain⟨hn25,h⟩:=zn h
      obtain⟨id1,hv26,h⟩:=zv h
      obtain⟨was1,hv27,h⟩:=zv h
      refine .block (.sn mx (.ix zX ty9 o o hn25 (.ld ty9 o (.ra hv26 o (.nil (.sn mx (.mv o (.mv o (.c (.lookup .none Qn znN (.s o) (.s o)) (.mv o (.mv o (.c (.lookup .none Qn znN (.s o) (.s o)) (.ra hv27 o (.asn o (.nil (.sn mx (.asb (.nil (.seq (.sr [oo,([],[78])] mx (.mvA o (.cW (.rangeMap Tryz.underlying91 o (.s o)) (.nil (.nameAt (t:=78) (g:=5007) o o zch o (fun m5007=>?_)))))))))))))))))))))))))
      obtain⟨j_28,h,hK28⟩:=bind_some h
      refine .thenJ (ι:=Bool) (fun j_28=>[(19,⟨True,rep j_28⟩)]) (fun j_28=>[]) (fun s=>j_28=s) (.k4 1 9 10 14 o o o o (.k4 16 17 65 66 o o o o (.k2 67 78 o o .nil))) (.k 5006 o .nil) ?_ (fun j_28' hj28=>?_)
      ·
       refine .block (.listsF (q:=5007) o (fun hf29=>(.mrangeL h hf29 (fun p29_=>[(19,⟨True,rep p29_.2⟩)]) (fun p29_=>[(5007,some (zd.at (ptr m5007 0) (vl was1 p29_.1)))]) (.k 19 o .nil) (.k 5007 o .nil) (.k4 1 9 10 14 o o o o (.k4 16 17 18 65 o o o o (.k2 66 67 o o (.k 78 o .nil)))) (.k 5006 o .nil) (fun p29_ H29=>(.sr [([5007],[79,5007]),([79],[80,79])] mx (.cW (.nextF (k:=5007) o o (.s o)) (.cW (.nextedOk (d:=79) o o) (.nil (.openNext (t:=80) (k:=5007) o o o (fun o29_ ho29=>?_))))))))))
       obtain⟨out29_,h,hD29⟩:=H29 o29_ ho29
       refine .againM (fun s' hs'=>⟨o29_,ho29,h.trans (congrArg some hs')⟩) (.seq ?_)
       cases o29_ with
       | some x29_=>
        replace h:=zcq h
        refine .condT (t:=80) o trivial o (.skip (.then ?_))
        obtain⟨j_30,h,hK30⟩:=bind_some h
        unfold zdy at h
        refine .tailJ (ι:=Bool) (fun j_30=>[(19,⟨True,rep j_30⟩)]) (fun j_30=>[]) (fun s=>j_30=s) (.k4 1 9 10 14 o o o o (.k4 16 17 18 65 o o o o (.k2 66 67 o o (.k 78 o .nil)))) (.k2 5006 5007 o o .nil) ?_ (fun j_30' hj30=>?_)
        ·
         refine .block (.sr [([5007],[]),oo,oo] mx (.cA (.entryF (k:=5007) (p:=p29_.1) (y:=x29_) o (.s o)) (.exA o o (.asnA o (.nil (.sn mx (.mv o (.mv o (.c (.lookupOk .none qO zo9 (.s o) (.s o)) (.mv o (.ex o o (.ex o o (.asn o (.asn o (.nil (.sn mx (.mv o (.c (.not .none (.s o)) (.nil (.cb o h (fun _ h=>?_) fun _ h=>?_))))))))))))))))))))
         ·
          exact .rn mx (.asb (.nil (.blkNormal (zb.j _ (za h)))))
         ·
          exact .skip (.blkNormal (zb.j _ (za h)))
        ·
         subst hj30;have h:=hK30;clear hK30
         exact zb.ag (za h)
       | none=>
        replace h:=zcp h
        refine .condF (t:=80) o trivial o (.exit (.thenExit (.thenExit (.blkExit ?_))))
        replace h:=hD29 _ (za h)
        exact zb.j _ (za h)
      ·
       subst hj28;have h:=hK28;clear hK28
       refine .seq (.sn mx (.mv o (.nil ?_)))
       obtain⟨j_32,h,hK32⟩:=bind_some h
       refine .thenJ (ι:=((List DOp)×(GMap Str Str))) (fun j_32=>[(17,⟨True,rep j_32.2⟩)]) (fun j_32=>[(14,some (zp 110 j_32.1))]) (fun s=>j_32=s) (.k4 1 9 10 16 o o o o (.k2 65 66 o o (.k 67 o .nil))) zi.nil ?_ (fun j_32' hj32=>?_)
       ·
        refine .cb o h (fun _ h=>?_) fun _ h=>?_
        ·
         obtain⟨hn34,h⟩:=zn h
         obtain⟨out1,hv35,h⟩:=zv h
         obtain⟨was2,hv36,h⟩:=zv h
         exact .sr [oo,oo,oo,oo,([5006],[96,5006]),([96],[14,96])] mx (.mvA o (.mvA o (.cA (.buildF (y:=(⟨(⟨(0:Int),Str.nil,(0:Int)⟩:Stamp),2,id1,Str.nil,Str.nil,(0:Int)⟩:DOp)) .none ziL znH o (.cons .i (.cons (.s o) .nil)) (.cons o zmQ (.cons o zmR .nil))) (.cA (.buildSlice (xs:=[_]) .none zcP zad zkt (.cons (.s o) .nil) o (by decide)) (.cW (.append (k:=5006) zmt o (.told (.s o) o) (.s o) hn34) (.cW (.passRow o (.tmp o)) (.nil (.reB (t:=14) o (congrArg (zp 110) hv35) (.nameRow (t:=14) (g:=5008) o o o (fun s5008=>(.rn mx (.c (.re hv36 (.assign .none (.const (x:=(GMap.nil:(GMap Str Str))) (fun M w=>⟨_,zgR,rfl⟩)))) (.nil (.anon (t:=14) (g:=5008) o o trivial o (zb.j _ (za h))))))))))))))))
        ·
         exact .skip (.anon (t:=14) (g:=5006) o o trivial o (zb.j _ (za h)))
       ·
        subst hj32;have h:=hK32;clear hK32
        obtain⟨r4,hv37,h⟩:=bind_some h
        refine .nameRow (t:=14) (g:=5009) o o o (fun s5009=>(.sn mx (.mv o (.mv o (.c (.call .none (zuD hv37) (.cons (.s o) (.cons (.s o) (.cons (Opd.func (ι:=zu×Str×Int) (pre:=fun i=>QC i.1 i.2.1=some i.2.2) (Ss:=fun i=>[rep i.1,rep i.2.1]) (S:=fun i=>rep i.2.2) zqU (fun i h=>zp9 h)) .nil)))) (.mv o (.ex o o (.ex o o (.asn o (.asn o (.nil (.seq (.sn mx (.mv o (.c (.not .none (.s o)) (.nil (.cb o h (fun _ h=>?_) fun _ h=>?_)))))))))))))))))
        ·
         exact .exit (.thenExit (.blkExit (.anon (t:=14) (g:=5009) o o trivial o (zb.j _ (za h)))))
        ·
         obtain⟨hn39,h⟩:=zn h
         obtain⟨v3,hv40,h⟩:=zv h
         refine .skip (.then (.sn mx (.mv o (.mv o (.ix qR qe o o hn39 (.fa Qg YV o (.c (.re hv40 (.load .none Yv (.s o))) (.ln jH o (.mvi (.nil (.block (.anon (t:=14) (g:=5009) o o trivial o (.rforL h (fun p41_=>[(111,⟨True,rep p41_.1⟩)]) (fun p41_=>[(14,some (zp 110 p41_.2))]) (.k 111 o .nil) (.k 14 o .nil) (.k4 1 9 10 16 o o o o (.k4 17 65 66 67 o o o o (.k2 109 110 o o .nil))) zi.nil (fun p41_ o_41 h hD41=>(.nameRow (t:=14) (g:=5010) o o o (fun s5010=>(.sn mx (.lt o o (.nil (.seq (.cb o h (fun _ h=>?_) fun _ h=>?_)))))))))))))))))))))
         ·
          refine .skip (.then (.seq ?_))
          obtain⟨j_43,h,hK43⟩:=bind_some h
          unfold zaz at h
          refine .thenJ (ι:=(List DOp)) (fun j_43=>[]) (fun j_43=>[(14,some (zp 110 j_43))]) (fun s=>j_43=s) (.k4 1 9 10 16 o o o o (.k4 17 65 66 67 o o o o (.k2 109 110 o o (.k 111 o .nil)))) zi.nil ?_ (fun j_43' hj43=>?_)
          ·
           obtain⟨hn44,h⟩:=zn h
           obtain⟨v4,hv45,h⟩:=zv h
           refine .block (.sr [oo,oo,([],[26]),([26],[26])] mx (.ixA jH jz o o hn44 (.rlA hv45 jz o (.al zid o (.st jz o o o (.nil (.freeze (t:=26) o o (.k 5010 o .nil) o (.sn mx (.mv o (.fa zaE JK o (.ld ty9 o (.c (.lookupOk .none qO zo9 (.s o) (.s o)) (.mv o (.ex o o (.ex o o (.asn o (.asn o (.nil (.sn mx (.mv o (.c (.not .none (.s o)) (.mv o (.mg o o o (.fg zdO zcc o o o (.lg ty9 o o o (.c (.neS (.at o o) (z6 Tryz.underlying9) (.tmp o id) (.tmp o id)) (.po o o (.nil (.cb o h (fun _ h=>?_) fun _ h=>?_)))))))))))))))))))))))))))))
           ·
            obtain⟨hn47,h⟩:=zn h
            exact .rg [oo,oo,oo,oo,oo,oo,oo,oo,([5010],[138,5010]),([138],[14,138])] mx (.mvA o (.mvA o (.faA zaE JK o (.ldA ty9 o (.faA zdO zcc o (.ldA ty9 o (.cA (.buildF (y:=(⟨(⟨(0:Int),Str.nil,(0:Int)⟩:Stamp),1,id1,v4.Field,v4.Value,(0:Int)⟩:DOp)) .none ziL znH o (.cons .i (.cons (.s o) (.cons (.s o) (.cons (.s o) .nil)))) (.cons o zmQ (.cons o zmR (.cons o zue (.cons o zuf .nil))))) (.cA (.buildSlice (xs:=[_]) .none zcP zad zkt (.cons (.s o) .nil) o (by decide)) (.cW (.append (k:=5010) zmt o (.told (.s o) o) (.s o) hn47) (.cW (.passRow o (.tmp o)) (.nil (.blkNormal (zb.j _ (za h))))))))))))))
           ·
            exact .skip (.blkNormal (.anon (t:=14) (g:=5010) o o trivial o (zb.j _ (za h))))
          ·
           subst hj43;have h:=hK43;clear hK43
           exact .nameRow (t:=14) (g:=5011) o o o (fun s5011=>(.rn mx (.adi o (.mv o (.nil (.anon (t:=14) (g:=5011) o o trivial o (zb.ag (za h))))))))
         ·
          refine .exit (.thenExit (.thenExit (.blkExit (.blkNormal (.anon (t:=14) (g:=5010) o o trivial o ?_)))))
          replace h:=hD41 _ (za h)
          exact zb.j _ (za h)
     ·
      subst hj24;have h:=hK24;clear hK24
      exact .nameRow (t:=14) (g:=5012) o o o (fun s5012=>(.rn mx (.adi o (.mv o (.nil (.anon (t:=14) (g:=5012) o o trivial o (zb.ag (za h))))))))
    ·
     refine .exit (.thenExit (.thenExit (.blkExit (.anon (t:=14) (g:=5006) o o trivial o ?_))))
     replace h:=hD22 _ (za h)
     exact zb.j _ (za h)
   ·
    subst hj21;have h:=hK21;clear hK21
    refine .freezeRowA (t:=14) o o zi.nil o (.sn mx (.mv o (.asn o (.asi (.nil (.ret ?_))))))
    obtain rfl:=za h
    exact zb.ret2 (.inl o) Tryz.results8 (zt.tmp o trivial Imp.refl) (zt.tmp o trivial Imp.refl)
theorem zqf {t1:(GMap Str (GMap Str Str))}{x1:DOp}{r:(GMap Str (GMap Str Str))}{s27:Value}(h:zbX t1 x1=some r):zS Tryz.prog 47 [isV s27,rep x1] [(s27,yo none t1)] (zV) [some (yo none r)]:=by
 unfold zbX at h
 refine zS.i Tryz.func47 o Tryz.ntmps47 o (fun F=>(.sn mx (.c (.box .none (.s o)) (.nil (.seq (.sn mx (.fa zge zgn o (.ld ty3 o (.eqi o (.nil (.cb o h (fun _ h=>?_) fun _ h=>?_)))))))))))
 ·
  obtain⟨c1,hv2,h⟩:=zv h
  refine .sr [oo,oo,oo,([27],[27])] mx (.mvA o (.faA zaD zaM o (.ldA ty9 o (.cN (.mapDelD (q:=27) Qn (.s o) o (.s o)) (.nil (.reB (t:=27) o (congrArg (fun y=>zd.at s27 (yo none y)) hv2) (.ret (.thenRet ?_))))))))
  obtain rfl:=za h
  exact zb.ret0O (.inl o) [27] Tryz.results47 (by decide) (.held o .nil)
 ·
  refine .skip (.then (.seq (.sr [oo,oo,oo,([27],[]),oo] mx (.mvA o (.faA zaD zaM o (.ldA ty9 o (.cA (.lookNilM (q:=27) .none Qn zfq (.s o) o (.s o)) (.cA (.eqNilM .none Tryz.underlying91 (.s o)) (.nil ?_)))))))))
  obtain⟨j_3,h,hK3⟩:=bind_some h
  refine .thenJ (ι:=(GMap Str (GMap Str Str))) (fun j_3=>[]) (fun j_3=>[(27,some (zd.at s27 (yo none j_3)))]) (fun s=>j_3=s) (.k2 0 3 o o .nil) zi.nil ?_ (fun j_3' hj3=>?_)
  ·
   refine .cb o h (fun _ h=>?_) fun _ h=>?_
   ·
    exact .rg [oo,oo,oo,([],[18]),([27,18],[27,18])] mx (.mvA o (.faA zaD zaM o (.ldA ty9 o (.cW (.makeMap (K:=Str) (V:=Str) o) (.cN (.mapPutD (q:=27) (t:=18) Qn o (.s o) o o o (.s o)) (.nil (zb.j _ (za h))))))))
   ·
    exact .skip (zb.j _ (za h))
  ·
   subst hj3;have h:=hK3;clear hK3
   obtain⟨hn5,h⟩:=zn h
   refine .openM (q:=27) (r:=5001) (k:=x1.Id) o o hn5 (fun s5001=>(.rg [oo,oo,oo,([27],[]),oo,oo,oo,oo,([5001],[5001])] mx (.mvA o (.faA zaD zaM o (.ldA ty9 o (.cA (.lookPin (q:=27) (z:=s5001) .none Qn zfq (.s o) o (.s o)) (.faA zjR zkj o (.ldA ty9 o (.faA zjS zkk o (.ldA ty9 o (.cN (.mapUpdate (q:=5001) qO (.s o) o (.s o) (.s o)) (.nil (.closeM (q:=27) (r:=5001) o o o ?_)))))))))))))
   obtain rfl:=za h
   exact zb.ret0O (.inr o) [27] Tryz.results47 (by decide) (.held o .nil)
theorem zp8 {l1:(List zu)}{ops1:(List DOp)}{r:((List zu)×Int)}  (h:zax l1 ops1=some r):zr Tryz.prog 9 [rep l1,rep ops1] (tup [rep r.1,rep r.2]):=by
 unfold zax at h
 obtain⟨e1,hv1,h⟩:=bind_some h
 refine zr.i Tryz.func9 o Tryz.ntmps9 o (fun F=>(.sn mx (.c (.assign .none (.const (x:=([]:(List zu))) (fun M w=>⟨_,⟨none,0,rfl,Nat.le_refl _,by decide,rfl⟩,rfl⟩))) (.asi (.nil (.seq (.sn mx (.mv o (.c (.call .none (zf2 hv1) (.cons (.s o) .nil)) (.asn o (.nil (.sn mx (.mv o (.nei o (.nil (.cb o h (fun _ h=>?_) fun _ h=>?_))))))))))))))))
 ·
  refine .sn mx (.mv o (.c (.assign .none (.const (x:=([]:(List zu))) (fun M w=>⟨_,⟨none,0,rfl,Nat.le_refl _,by decide,rfl⟩,rfl⟩))) (.asn o (.nil (.ret (.thenRet ?_))))))
  obtain rfl:=za h
  exact zb.ret2 (.inl o) Tryz.results9 (zt.tmp o trivial Imp.refl) (zt.tmp o trivial Imp.refl)
 ·
  obtain⟨t1,hv3,h⟩:=bind_some h
  refine .skip (.then (.sr [oo,([],[20]),([20],[7,20])] mx (.mvA o (.cW (.cO [] (zf3 hv3) (.cons (.s o) .nil) .nil o) (.cW (.passRow o (.tmp o)) (.nil (.nameC (t:=7) (g:=5001) zg0 o o o (fun s5001=>(.seq (.sn mx (.mv o (.ln zcP o (.mvi (.nil ?_))))))))))))))
  obtain⟨o_4,h,hK4⟩:=yN h
  refine .thenJ (ι:=(GMap Str (GMap Str Str))) (fun j_4=>[]) (fun j_4=>[(5001,some (zd.at s5001 (yo none j_4)))]) (fun s=>o_4=Res.nx s) (.k 7 o .nil) zi.nil ?_ (fun j_4 hj4=>?_)
  ·
   refine .block (.rforEL h (fun p5_=>[(23,⟨True,rep p5_.1⟩)]) (fun p5_=>[(5001,some (zd.at s5001 (yo none p5_.2)))]) (.k 23 o .nil) (.k 5001 o .nil) (.k2 7 21 o o (.k 22 o .nil)) zi.nil (fun p5_ o_5 h hD5=>(.sn mx (.lt o o (.nil (.seq (.cb o h (fun _ h=>?_) fun _ h=>?_)))))))
   ·
    refine .skip (.then (.seq ?_))
    obtain⟨o_7,h,hK7⟩:=qg h
    unfold zdt at h
    refine .thenJ (ι:=(GMap Str (GMap Str Str))) (fun j_7=>[]) (fun j_7=>[(5001,some (zd.at s5001 (yo none j_7)))]) (fun s=>o_7=Res.nx s) (.k4 7 21 22 23 o o o o .nil) zi.nil ?_ (fun j_7 hj7=>?_)
    ·
     obtain⟨hn8,h⟩:=zn h
     obtain⟨v1,hv9,h⟩:=zv h
     obtain⟨set1,hv10,h⟩:=zv h
     refine .block (.sr [oo,oo,([],[9]),([9],[9])] mx (.ixA zcP zad o o hn8 (.rlA hv9 zad o (.al zwg o (.st zad o o o (.nil (.freeze (t:=9) o o (.k 5001 o .nil) o (.sn mx (.fa zge zgn o (.ld ty3 o (.eqi o (.ra hv10 o (.nil (.seq (.block (.sn mx (.mv o (.c (.not .none (.s o)) (.mv o (.fg zge zgn o o o (.lg ty3 o o o (.c (.neI (.at o o) (.tmp o id) .i) (.pa o o (.asn o (.nil (.cb o h (fun _ h=>?_) fun _ h=>?_))))))))))))))))))))))))))
     ·
      refine .sn mx (.c (.assign .none (.const (x:=([]:(List zu))) (fun M w=>⟨_,⟨none,0,rfl,Nat.le_refl _,by decide,rfl⟩,rfl⟩))) (.asi (.nil (.ret (.blkRet (.thenRet (.blkRet (.thenRet (.thenRet (.blkRet (.thenRet ?_)))))))))))
      replace h:=yM hK7 (za h)
      replace h:=hD5 _ (za h)
      replace h:=yk hK4 (za h)
      obtain rfl:=za h
      exact zb.ret2 (.inl o) Tryz.results9 (zt.tmp o trivial Imp.refl) (zt.tmp o trivial Imp.refl)
     ·
      obtain⟨r1,hv12,h⟩:=bind_some h
      obtain⟨v2,hv13,h⟩:=zv h
      refine .seq (.sn mx (.fa zaD zaM o (.ld ty9 o (.c (.call .none (zdG hv12) (.cons (.s o) .nil)) (.c (.not .none (.s o)) (.ra hv13 o (.nil ?_)))))))
      obtain⟨j_14,h,hK14⟩:=bind_some h
      refine .thenJ (ι:=Bool) (fun j_14=>[(38,⟨True,rep j_14⟩)]) (fun j_14=>[]) (fun s=>j_14=s) (.k4 7 9 10 21 o o o o (.k2 22 23 o o .nil)) (.k 5001 o .nil) ?_ (fun j_14' hj14=>?_)
      ·
       refine .cb o h (fun _ h=>?_) fun _ h=>?_
       ·
        exact .skip (zb.j _ (za h))
       ·
        obtain⟨r2,hv16,h⟩:=bind_some h
        refine .rn mx (.mv o (.mv o (.fg zjR zkj o o o (.lg ty9 o o o (.c (.callIf (.at o o) zqW (fun hg=>zdG ((fun hg=>vj hv16 (hg.2)) hg)) (.cons (.tmp o id) .nil) (fun h=>h)) ?_)))))
        obtain⟨v3,hv17,h⟩:=zv h
        exact .c (.not (.at o o) (.tmp o id)) (.pa o o (.ra hv17 o (.nil (zb.j _ (za h)))))
      ·
       subst hj14;have h:=hK14;clear hK14
       refine .cb o h (fun _ h=>?_) fun _ h=>?_
       ·
        refine .sn mx (.c (.assign .none (.const (x:=([]:(List zu))) (fun M w=>⟨_,⟨none,0,rfl,Nat.le_refl _,by decide,rfl⟩,rfl⟩))) (.asi (.nil (.ret (.blkRet (.thenRet (.blkRet (.thenRet (.thenRet (.blkRet (.thenRet ?_)))))))))))
        replace h:=yM hK7 (za h)
        replace h:=hD5 _ (za h)
        replace h:=yk hK4 (za h)
        obtain rfl:=za h
        exact zb.ret2 (.inl o) Tryz.results9 (zt.tmp o trivial Imp.refl) (zt.tmp o trivial Imp.refl)
       ·
        refine .skip (.blkNormal (.then (.seq (.sn mx (.mv o (.nil ?_))))))
        obtain⟨o_19,h,hK19⟩:=yN h
        refine .tJ (fun s=>o_19=Res.nx s) (.k4 7 9 21 22 o o o o (.k 23 o .nil)) (.k 5001 o .nil) ?_ (fun j_19 hj19=>?_)
        ·
         refine .cb o h (fun _ h=>?_) fun _ h=>?_
         ·
          obtain⟨e2,hv21,h⟩:=bind_some h
          refine .sn mx (.fa zjS zkk o (.ld ty9 o (.c (.call .none (ze2 hv21) (.cons (.s o) .nil)) (.asn o (.nil (.sn mx (.mv o (.nei o (.nil (.cb o h (fun _ h=>?_) fun _ h=>?_))))))))))
          ·
           refine .sn mx (.mv o (.c (.assign .none (.const (x:=([]:(List zu))) (fun M w=>⟨_,⟨none,0,rfl,Nat.le_refl _,by decide,rfl⟩,rfl⟩))) (.asn o (.nil (.ret (.thenRet (.blkRet (.thenRet (.thenRet (.blkRet (.thenRet ?_)))))))))))
           replace h:=yk hK19 (za h)
           replace h:=yM hK7 (za h)
           replace h:=hD5 _ (za h)
           replace h:=yk hK4 (za h)
           obtain rfl:=za h
           exact zb.ret2 (.inl o) Tryz.results9 (zt.tmp o trivial Imp.refl) (zt.tmp o trivial Imp.refl)
          ·
           exact .skip (zb.j _ (za h))
         ·
          refine .sr [oo,oo,oo,([5001],[]),oo] mx (.mvA o (.faA zaD zaM o (.ldA ty9 o (.cA (.lookNilM (q:=5001) .none Qn zfq (.s o) o (.s o)) (.cA (.eqNilM .none Tryz.underlying91 (.s o)) (.nil (.cb o h (fun _ h=>?_) fun _ h=>?_)))))))
          ·
           refine .sn mx (.c (.assign .none (.const (x:=([]:(List zu))) (fun M w=>⟨_,⟨none,0,rfl,Nat.le_refl _,by decide,rfl⟩,rfl⟩))) (.asi (.nil (.ret (.thenRet (.blkRet (.thenRet (.thenRet (.blkRet (.thenRet ?_))))))))))
           replace h:=yk hK19 (za h)
           replace h:=yM hK7 (za h)
           replace h:=hD5 _ (za h)
           replace h:=yk hK4 (za h)
           obtain rfl:=za h
           exact zb.ret2 (.inl o) Tryz.results9 (zt.tmp o trivial Imp.refl) (zt.tmp o trivial Imp.refl)
          ·
           exact .skip (zb.j _ (za h))
        ·
         have h:=yO hK19 hj19
         obtain⟨r3,hv24,h⟩:=bind_some h
         exact .rg [oo,oo,([5001],[5001])] mx (.mvA o (.ldA zad o (.cW (.cO [5001] (zqf hv24) (.cons (.s o) (.cons (.s o) .nil)) (.cons (k:=5001) o .nil) o) (.nil (.blkNormal (zb.j _ (za h)))))))
    ·
     have h:=qh hK7 hj7
     exact .rn mx (.adi o (.mv o (.nil (zb.ag (za h)))))
   ·
    refine .exit (.thenExit (.thenExit (.blkExit ?_)))
    replace h:=hD5 _ (za h)
    exact zb.j _ (za h)
  ·
   have h:=yO hK4 hj4
   refine .freezeAt (g:=5001) (S:=rep j_4) (ts:=[7]) o (.cons (t:=7) o trivial .nil) zi.nil o (fun M D w h hms=>zgQ h hms) ?_
   obtain⟨out1,hv25,h⟩:=bind_some h
   obtain⟨e3,hv26,h⟩:=bind_some h
   refine .sn mx (.mv o (.c (.call .none (zjz hv25) (.cons (.s o) .nil)) (.asn o (.nil (.seq (.sn mx (.mv o (.c (.call .none (zf2 hv26) (.cons (.s o) .nil)) (.asn o (.nil (.sn mx (.mv o (.nei o (.nil (.cb o h (fun _ h=>?_) fun _ h=>?_)))))))))))))))
   ·
    refine .sn mx (.mv o (.c (.assign .none (.const (x:=([]:(List zu))) (fun M w=>⟨_,⟨none,0,rfl,Nat.le_refl _,by decide,rfl⟩,rfl⟩))) (.asn o (.nil (.ret (.thenRet ?_))))))
    obtain rfl:=za h
    exact zb.ret2 (.inl o) Tryz.results9 (zt.tmp o trivial Imp.refl) (zt.tmp o trivial Imp.refl)
   ·
    refine .skip (.then (.sn mx (.mv o (.asn o (.asi (.nil (.ret ?_)))))))
    obtain rfl:=za h
    exact zb.ret2 (.inl o) Tryz.results9 (zt.tmp o trivial Imp.refl) (zt.tmp o trivial Imp.refl)
theorem zuM {s1_1:(List zu)}{s2_1:(List zu)}{eq1:(zu→zu→Option Bool)}{r:Bool}  (h:ze8 s1_1 s2_1 eq1=some r):zr Tryz.prog 48 [rep s1_1,rep s2_1,fn2 Tryz.prog (rep (α:=Bool)) eq1] (rep r):=by
 unfold ze8 at h
 refine zr.i Tryz.func48 o Tryz.ntmps48 o (fun F=>(.sn mx (.asb (.nil (.seq (.sn mx (.mv o (.ln qR o (.mv o (.ln qR o (.c (.neI .none (.s o) (.s o)) (.nil (.cb o h (fun _ h=>?_) fun _ h=>?_)))))))))))))
 ·
  refine .sn mx (.asb (.nil (.ret (.thenRet ?_))))
  obtain rfl:=za h
  exact zb.rt Tryz.results48 o
 ·
  refine .skip (.then (.seq (.sn mx (.mv o (.ln qR o (.mvi (.nil ?_)))))))
  obtain⟨o_2,h,hK2⟩:=yN h
  refine .tJ (fun s=>o_2=Res.nx s) Sub.nil zi.nil ?_ (fun j_2 hj2=>?_)
  ·
   refine .block (.rforEL h (fun p3_=>[(17,⟨True,rep p3_.1⟩)]) (fun p3_=>[]) (.k 17 o .nil) zi.nil (.k4 1 2 15 16 o o o o .nil) zi.nil (fun p3_ o_3 h hD3=>(.sn mx (.lt o o (.nil (.seq (.cb o h (fun _ h=>?_) fun _ h=>?_)))))))
   ·
    refine .skip (.then (.seq ?_))
    obtain⟨o_5,h,hK5⟩:=qg h
    unfold zhM at h
    refine .tJ (fun s=>o_5=Res.nx s) (.k4 1 2 15 16 o o o o (.k 17 o .nil)) zi.nil ?_ (fun j_5 hj5=>?_)
    ·
     obtain⟨hn6,h⟩:=zn h
     obtain⟨v1,hv7,h⟩:=zv h
     obtain⟨hn8,h⟩:=zn h
     obtain⟨v2,hv9,h⟩:=zv h
     obtain⟨r1,hv10,h⟩:=bind_some h
     refine .block (.sr [oo,oo,oo,([],[8]),oo,([8],[8])] mx (.mvA o (.ixA qR qe o o hn6 (.rlA hv7 qe o (.al zbA o (.asnA o (.st qe o o o (.nil (.freeze (t:=8) o o zi.nil o (.sr [oo,oo,oo,oo,([],[9]),([9],[9])] mx (.mvA o (.mvA o (.ixA qR qe o o hn8 (.rlA hv9 qe o (.al zbA o (.st qe o o o (.nil (.freeze (t:=9) o o zi.nil o (.sn mx (.mv o (.ld qe o (.ld qe o (.c (.callV (v1,v2,r1) .none (.s o) (fun _=>hv10) (.cons (.s o) (.cons (.s o) .nil))) (.c (.not .none (.s o)) (.nil (.cb o h (fun _ h=>?_) fun _ h=>?_))))))))))))))))))))))))))
     ·
      refine .sn mx (.asb (.nil (.ret (.blkRet (.thenRet (.thenRet (.blkRet (.thenRet ?_))))))))
      replace h:=yM hK5 (za h)
      replace h:=hD3 _ (za h)
      replace h:=yk hK2 (za h)
      obtain rfl:=za h
      exact zb.rt Tryz.results48 o
     ·
      exact .skip (.blkNormal (zb.j _ (za h)))
    ·
     have h:=qh hK5 hj5
     exact .rn mx (.adi o (.mv o (.nil (zb.ag (za h)))))
   ·
    refine .exit (.thenExit (.thenExit (.blkExit ?_)))
    replace h:=hD3 _ (za h)
    exact zb.j _ (za h)
  ·
   have h:=yO hK2 hj2
   refine .sn mx (.asb (.nil (.ret ?_)))
   obtain rfl:=za h
   exact zb.rt Tryz.results48 o
theorem zuN {s1_1:(List zR)}{s2_1:(List zR)}{r:Bool}  (h:zcW s1_1 s2_1=some r):zr Tryz.prog 50 [rep s1_1,rep s2_1] (rep r):=by
 unfold zcW at h
 refine zr.i Tryz.func50 o Tryz.ntmps50 o (fun F=>(.sn mx (.asb (.nil (.seq (.sn mx (.mv o (.ln jH o (.mv o (.ln jH o (.c (.neI .none (.s o) (.s o)) (.nil (.cb o h (fun _ h=>?_) fun _ h=>?_)))))))))))))
 ·
  refine .sn mx (.asb (.nil (.ret (.thenRet ?_))))
  obtain rfl:=za h
  exact zb.rt Tryz.results50 o
 ·
  refine .skip (.then (.seq (.sn mx (.mv o (.ln jH o (.mvi (.nil ?_)))))))
  obtain⟨o_2,h,hK2⟩:=yN h
  refine .tJ (fun s=>o_2=Res.nx s) Sub.nil zi.nil ?_ (fun j_2 hj2=>?_)
  ·
   refine .block (.rforEL h (fun p3_=>[(13,⟨True,rep p3_.1⟩)]) (fun p3_=>[]) (.k 13 o .nil) zi.nil (.k2 0 1 o o (.k 12 o .nil)) zi.nil (fun p3_ o_3 h hD3=>(.sn mx (.lt o o (.nil (.seq (.cb o h (fun _ h=>?_) fun _ h=>?_)))))))
   ·
    refine .skip (.then (.seq ?_))
    obtain⟨o_5,h,hK5⟩:=qg h
    unfold zhN at h
    refine .tJ (fun s=>o_5=Res.nx s) (.k4 0 1 12 13 o o o o .nil) zi.nil ?_ (fun j_5 hj5=>?_)
    ·
     obtain⟨hn6,h⟩:=zn h
     obtain⟨hn7,h⟩:=zn h
     refine .block (.sn mx (.mv o (.asn o (.nil (.sn mx (.mv o (.mv o (.ix jH jz o o hn6 (.ld jz o (.mv o (.mv o (.ix jH jz o o hn7 (.ld jz o (.c (.neS .none zql (.s o) (.s o)) (.nil (.cb o h (fun _ h=>?_) fun _ h=>?_))))))))))))))))
     ·
      refine .sn mx (.asb (.nil (.ret (.blkRet (.thenRet (.thenRet (.blkRet (.thenRet ?_))))))))
      replace h:=yM hK5 (za h)
      replace h:=hD3 _ (za h)
      replace h:=yk hK2 (za h)
      obtain rfl:=za h
      exact zb.rt Tryz.results50 o
     ·
      exact .skip (.blkNormal (zb.j _ (za h)))
    ·
     have h:=qh hK5 hj5
     exact .rn mx (.adi o (.mv o (.nil (zb.ag (za h)))))
   ·
    refine .exit (.thenExit (.thenExit (.blkExit ?_)))
    replace h:=hD3 _ (za h)
    exact zb.j _ (za h)
  ·
   have h:=yO hK2 hj2
   refine .sn mx (.asb (.nil (.ret ?_)))
   obtain rfl:=za h
   exact zb.rt Tryz.results50 o
theorem zvS {x1:zu}{y1:zu}{r:Bool}  (h:zbu x1 y1=some r):zr Tryz.prog 49 [rep x1,rep y1] (rep r):=by
 unfold zbu at h
 obtain⟨r1,hv1,h⟩:=bind_some h
 refine zr.i Tryz.func49 o Tryz.ntmps49 o (fun F=>(.sn mx (.c (.box .none (.s o)) (.c (.box .none (.s o)) (.asb (.nil (.sn mx (.fa Q8 Yd o (.ld ty9 o (.fa Q8 Yd o (.ld ty9 o (.c (.eqS .none (z6 Tryz.underlying9) (.s o) (.s o)) (.mv o (.fg Qg YV o o o (.lg Yv o o o (.fg Qg YV o o o (.lg Yv o o o (.c (.callIf (.at o o) zqY (fun hg=>zuN ((fun hg=>vj hv1 (hg.2)) hg)) (.cons (.tmp o id) (.cons (.tmp o id) .nil)) (fun h=>h)) (.pa o o (.asn o (.nil (.ret ?_))))))))))))))))))))))
 obtain rfl:=za h
 exact zb.rt Tryz.results49 o
theorem zvT {a1:(List zu)}{b1:(List zu)}{r:Bool}  (h:zbt a1 b1=some r):zr Tryz.prog 10 [rep a1,rep b1] (rep r):=by
 unfold zbt at h
 obtain⟨r1,hv1,h⟩:=bind_some h
 refine zr.i Tryz.func10 o Tryz.ntmps10 o (fun F=>(.sn mx (.asb (.nil (.sn mx (.mv o (.mv o (.c (.call .none (zuM hv1) (.cons (.s o) (.cons (.s o) (.cons (Opd.func (ι:=zu×zu×Bool) (pre:=fun i=>zbu i.1 i.2.1=some i.2.2) (Ss:=fun i=>[rep i.1,rep i.2.1]) (S:=fun i=>rep i.2.2) zqX (fun i h=>zvS h)) .nil)))) (.asn o (.nil (.ret ?_)))))))))))
 obtain rfl:=za h
 exact zb.rt Tryz.results10 o
theorem zuQ {s1:(List zl)}{f1:(zl→Option Bool)}{r:Int}  (h:zbn s1 f1=some r):zr Tryz.prog 51 [rep s1,fn1 Tryz.prog (rep (α:=Bool)) f1] (rep r):=by
 unfold zbn at h
 refine zr.i Tryz.func51 o Tryz.ntmps51 o (fun F=>(.sn mx (.asi (.nil (.seq (.sn mx (.mv o (.ln y4 o (.mvi (.nil ?_))))))))))
 obtain⟨o_1,h,hK1⟩:=yN h
 refine .tJ (fun s=>o_1=Res.nx s) Sub.nil zi.nil ?_ (fun j_1 hj1=>?_)
 ·
  refine .block (.rforEL h (fun p2_=>[(8,⟨True,rep p2_.1⟩)]) (fun p2_=>[]) (.k 8 o .nil) zi.nil (.k2 0 1 o o (.k 7 o .nil)) zi.nil (fun p2_ o_2 h hD2=>(.sn mx (.lt o o (.nil (.seq (.cb o h (fun _ h=>?_) fun _ h=>?_)))))))
  ·
   refine .skip (.then (.seq ?_))
   obtain⟨o_4,h,hK4⟩:=qg h
   unfold zhQ at h
   refine .tJ (fun s=>o_4=Res.nx s) (.k4 0 1 7 8 o o o o .nil) zi.nil ?_ (fun j_4 hj4=>?_)
   ·
    obtain⟨hn5,h⟩:=zn h
    obtain⟨r1,hv6,h⟩:=bind_some h
    refine .block (.sn mx (.mv o (.asn o (.nil (.sn mx (.mv o (.mv o (.mv o (.ix y4 yd o o hn5 (.ld yd o (.c (.callV (gx s1 p2_.1,r1) .none (.s o) (fun _=>hv6) (.cons (.s o) .nil)) (.nil (.cb o h (fun _ h=>?_) fun _ h=>?_)))))))))))))
    ·
     refine .sn mx (.mv o (.asn o (.nil (.ret (.blkRet (.thenRet (.thenRet (.blkRet (.thenRet ?_)))))))))
     replace h:=yM hK4 (za h)
     replace h:=hD2 _ (za h)
     replace h:=yk hK1 (za h)
     obtain rfl:=za h
     exact zb.rt Tryz.results51 o
    ·
     exact .skip (.blkNormal (zb.j _ (za h)))
   ·
    have h:=qh hK4 hj4
    exact .rn mx (.adi o (.mv o (.nil (zb.ag (za h)))))
  ·
   refine .exit (.thenExit (.thenExit (.blkExit ?_)))
   replace h:=hD2 _ (za h)
   exact zb.j _ (za h)
 ·
  have h:=yO hK1 hj1
  refine .sn mx (.asi (.nil (.ret ?_)))
  obtain rfl:=za h
  exact zb.rt Tryz.results51 o
theorem zuL {s1:(List zl)}{f1:(zl→Option Bool)}{r:Bool}  (h:zbm s1 f1=some r):zr Tryz.prog 11 [rep s1,fn1 Tryz.prog (rep (α:=Bool)) f1] (rep r):=by
 unfold zbm at h
 obtain⟨r1,hv1,h⟩:=bind_some h
 refine zr.i Tryz.func11 o Tryz.ntmps11 o (fun F=>(.sn mx (.asb (.nil (.sn mx (.mv o (.mv o (.c (.call .none (zuQ hv1) (.cons (.s o) (.cons (.s o) .nil))) (.c (.ge .none (.s o) .i) (.asn o (.nil (.ret ?_))))))))))))
 obtain rfl:=za h
 exact zb.rt Tryz.results11 o
theorem zvQ {n1:zl}{r:Bool}  (h:zc1 n1=some r):zr Tryz.prog 12 [rep n1] (rep r):=by
 unfold zc1 at h
 refine zr.i Tryz.func12 o Tryz.ntmps12 o (fun F=>(.sn mx (.c (.box .none (.s o)) (.asb (.nil (.sn mx (.fa jo jC o (.ld ty3 o (.eqi o (.asn o (.nil (.ret ?_))))))))))))
 obtain rfl:=za h
 exact zb.rt Tryz.results12 o
theorem zvp {s1:Str}{suffix1:Str}{r:Bool}  (h:J9 s1 suffix1=some r):zr Tryz.prog 96 [rep s1,rep suffix1] (rep r):=by
 unfold J9 at h
 obtain⟨hn1,h⟩:=zn h
 refine zr.i Tryz.func96 o Tryz.ntmps96 o (fun F=>(.sn mx (.asb (.nil (.sn mx (.mv o (.c (.lenStr .none Tryz.underlying9 (.s o)) (.mv o (.c (.lenStr .none Tryz.underlying9 (.s o)) (.c (.ge .none (.s o) (.s o)) (.mv o (.mg o o o (.mg o o o (.c (.lenStr (.at o o) Tryz.underlying9 (.tmp o id)) (.mg o o o (.c (.lenStr (.at o o) Tryz.underlying9 (.tmp o id)) (.c (.subW (.at o o) (.tmp o id) (.tmp o id)) (.c (.sliceStr (.at o o) Tryz.underlying9 (.tmp o id) (.tmp o id) o (fun hg=>hn1 hg.2)) (.mg o o o (.c (.eqS (.at o o) (z6 Tryz.underlying9) (.tmp o id) (.tmp o id)) (.pa o o (.asn o (.nil (.ret ?_))))))))))))))))))))))))
 obtain rfl:=za h
 exact zb.rt Tryz.results96 o
theorem zvr {s1:Str}{suffix1:Str}{r:Str}  (h:zc0 s1 suffix1=some r):zr Tryz.prog 53 [rep s1,rep suffix1] (rep r):=by
 unfold zc0 at h
 obtain⟨r1,hv1,h⟩:=bind_some h
 refine zr.i Tryz.func53 o Tryz.ntmps53 o (fun F=>(.sn mx (.c (.assign .none (.str (l:=[]) (by decide))) (.nil (.seq (.sn mx (.mv o (.mv o (.c (.call .none (zvp hv1) (.cons (.s o) (.cons (.s o) .nil))) (.nil (.cb o h (fun _ h=>?_) fun _ h=>?_)))))))))))
 ·
  obtain⟨hn3,h⟩:=zn h
  refine .sn mx (.mv o (.mv o (.c (.lenStr .none Tryz.underlying9 (.s o)) (.mv o (.c (.lenStr .none Tryz.underlying9 (.s o)) (.sub o o (.c (.sliceStr .none Tryz.underlying9 (.s o) o (.s o) (fun _=>hn3)) (.asn o (.nil (.ret (.thenRet ?_)))))))))))
  obtain rfl:=za h
  exact zb.rt Tryz.results53 o
 ·
  refine .skip (.then (.sn mx (.mv o (.asn o (.nil (.ret ?_))))))
  obtain rfl:=za h
  exact zb.rt Tryz.results53 o
theorem zvn {s1:Str}{suffix1:Str}{r:Str}  (h:Jg s1 suffix1=some r):zr Tryz.prog 15 [rep s1,rep suffix1] (rep r):=by
 unfold Jg at h
 obtain⟨r1,hv1,h⟩:=bind_some h
 refine zr.i Tryz.func15 o Tryz.ntmps15 o (fun F=>(.sn mx (.c (.assign .none (.str (l:=[]) (by decide))) (.nil (.sn mx (.mv o (.mv o (.c (.call .none (zvr hv1) (.cons (.s o) (.cons (.s o) .nil))) (.asn o (.nil (.ret ?_)))))))))))
 obtain rfl:=za h
 exact zb.rt Tryz.results15 o
theorem zuF {s1:(List zl)}{r:(List zl)}  (h:zcR s1=some r):zS Tryz.prog 123 [rep s1] [] (zV) [some (zp 47 r)]:=by
 unfold zcR at h
 refine zS.i Tryz.func123 o Tryz.ntmps123 o (fun F=>(.sn mx (.c (.assign .none (.const (x:=([]:(List zl))) (fun M w=>⟨_,⟨none,0,rfl,Nat.le_refl _,by decide,rfl⟩,rfl⟩))) (.nil (.seq (.sn mx (.mv o (.c (.eqNil .none y4 (.s o)) (.nil (.condNil (t:=4) o trivial (fun hb1=>?_) ?_))))))))))
 ·
  replace h:=zew h hb1
  refine .sr [([],[2])] mx (.cW (.nilRow (T:=47) (α:=zl) o) (.nil (.nameRow (t:=2) (g:=5001) o o o (fun s5001=>(.ret (.thenRet (.anon (t:=2) (g:=5001) o o trivial o ?_)))))))
  obtain rfl:=za h
  exact zb.ret1O (.inl o) [2] Tryz.results123 (by decide) (.res o o) (zt.tmp o trivial (fun _ _ _ _=>trivial))
 ·
  replace h:=zev h
  obtain⟨hn2,h⟩:=zn h
  obtain⟨v1,hv3,h⟩:=zv h
  refine .skip (.then (.sr [([],[5]),oo,([5],[7,5]),([7],[2,7])] mx (.cW (.buildSliceO (xs:=[]) o y4 yd zgA .nil o (by decide)) (.mvA o (.cW (.append (k:=5) zhn o (.tmp o) (.s o) hn2) (.cW (.passRow o (.tmp o)) (.nil (.reB (t:=2) o (congrArg (zp 47) hv3) (.nameRow (t:=2) (g:=5002) o o o (fun s5002=>(.ret (.anon (t:=2) (g:=5002) o o trivial o ?_))))))))))))
  obtain rfl:=za h
  exact zb.ret1O (.inl o) [2] Tryz.results123 (by decide) (.res o o) (zt.tmp o trivial (fun _ _ _ _=>trivial))
theorem zuE {s1:(List zA)}{r:(List zA)}  (h:zcQ s1=some r):zS Tryz.prog 124 [rep s1] [] (zV) [some (zp 73 r)]:=by
 unfold zcQ at h
 refine zS.i Tryz.func124 o Tryz.ntmps124 o (fun F=>(.sn mx (.c (.assign .none (.const (x:=([]:(List zA))) (fun M w=>⟨_,⟨none,0,rfl,Nat.le_refl _,by decide,rfl⟩,rfl⟩))) (.nil (.seq (.sn mx (.mv o (.c (.eqNil .none jx (.s o)) (.nil (.condNil (t:=4) o trivial (fun hb1=>?_) ?_))))))))))
 ·
  replace h:=zew h hb1
  refine .sr [([],[2])] mx (.cW (.nilRow (T:=73) (α:=zA) o) (.nil (.nameRow (t:=2) (g:=5001) o o o (fun s5001=>(.ret (.thenRet (.anon (t:=2) (g:=5001) o o trivial o ?_)))))))
  obtain rfl:=za h
  exact zb.ret1O (.inl o) [2] Tryz.results124 (by decide) (.res o o) (zt.tmp o trivial (fun _ _ _ _=>trivial))
 ·
  replace h:=zev h
  obtain⟨hn2,h⟩:=zn h
  obtain⟨v1,hv3,h⟩:=zv h
  refine .skip (.then (.sr [([],[5]),oo,([5],[7,5]),([7],[2,7])] mx (.cW (.buildSliceO (xs:=[]) o jx yP zgB .nil o (by decide)) (.mvA o (.cW (.append (k:=5) zho o (.tmp o) (.s o) hn2) (.cW (.passRow o (.tmp o)) (.nil (.reB (t:=2) o (congrArg (zp 73) hv3) (.nameRow (t:=2) (g:=5002) o o o (fun s5002=>(.ret (.anon (t:=2) (g:=5002) o o trivial o ?_))))))))))))
  obtain rfl:=za h
  exact zb.ret1O (.inl o) [2] Tryz.results124 (by decide) (.res o o) (zt.tmp o trivial (fun _ _ _ _=>trivial))
theorem zuG {s1:(List zJ)}{r:(List zJ)}  (h:zcS s1=some r):zS Tryz.prog 125 [rep s1] [] (zV) [some (zp 166 r)]:=by
 unfold zcS at h
 refine zS.i Tryz.func125 o Tryz.ntmps125 o (fun F=>(.sn mx (.c (.assign .none (.const (x:=([]:(List zJ))) (fun M w=>⟨_,⟨none,0,rfl,Nat.le_refl _,by decide,rfl⟩,rfl⟩))) (.nil (.seq (.sn mx (.mv o (.c (.eqNil .none vW (.s o)) (.nil (.condNil (t:=4) o trivial (fun hb1=>?_) ?_))))))))))
 ·
  replace h:=zew h hb1
  refine .sr [([],[2])] mx (.cW (.nilRow (T:=166) (α:=zJ) o) (.nil (.nameRow (t:=2) (g:=5001) o o o (fun s5001=>(.ret (.thenRet (.anon (t:=2) (g:=5001) o o trivial o ?_)))))))
  obtain rfl:=za h
  exact zb.ret1O (.inl o) [2] Tryz.results125 (by decide) (.res o o) (zt.tmp o trivial (fun _ _ _ _=>trivial))
 ·
  replace h:=zev h
  obtain⟨hn2,h⟩:=zn h
  obtain⟨v1,hv3,h⟩:=zv h
  refine .skip (.then (.sr [([],[5]),oo,([5],[7,5]),([7],[2,7])] mx (.cW (.buildSliceO (xs:=[]) o vW QS zku .nil o (by decide)) (.mvA o (.cW (.append (k:=5) zmv o (.tmp o) (.s o) hn2) (.cW (.passRow o (.tmp o)) (.nil (.reB (t:=2) o (congrArg (zp 166) hv3) (.nameRow (t:=2) (g:=5002) o o o (fun s5002=>(.ret (.anon (t:=2) (g:=5002) o o trivial o ?_))))))))))))
  obtain rfl:=za h
  exact zb.ret1O (.inl o) [2] Tryz.results125 (by decide) (.res o o) (zt.tmp o trivial (fun _ _ _ _=>trivial))
theorem zje {d1:Doc}{r:Doc}  (h:Qc d1=some r):zS Tryz.prog 62 [rep d1] [] (zV) [some (zQ (fun z0=>zQ (fun z1=>Yx (⟨⟨z0⟩,⟨z1⟩⟩:yF)) (zp 73 r.Edges)) (zp 47 r.Nodes))]:=by
 unfold Qc at h
 obtain⟨v1,hv1,h⟩:=zv h
 obtain⟨r1,hv2,h⟩:=bind_some h
 obtain⟨r2,hv3,h⟩:=bind_some h
 refine zS.i Tryz.func62 o Tryz.ntmps62 o (fun F=>(.sr [([],[1]),([],[2])] mx (.cW (.boxO o (.s o)) (.al zc3 o (.nil (.reB (t:=2) o (congrArg (zC 25) hv1) (.nameBox (t:=1) (g:=5001) o o (fun m5001=>(.nameBox (t:=2) (g:=5002) o o (fun m5002=>(.sr [oo,([5001],[]),([],[6]),oo,([5001],[]),([],[9]),oo,([5001,6],[5001,6]),oo,([5001,9],[5001,9])] mx (.cA (.fieldPtr .none qt (.s o)) (.cA (.loadAt (k:=5001) .none qU o (.s o) jp) (.cW (.cO [] (zuF hv2) (.cons (.s o) .nil) .nil o) (.cA (.fieldPtr .none jV (.s o)) (.cA (.loadAt (k:=5001) .none Ji o (.s o) zcd) (.cW (.cO [] (zuE hv3) (.cons (.s o) .nil) .nil o) (.cA (.fieldPtr .none qt (.s o)) (.cN (.storeRowF (k:=5001) (t:=6) (off:=0) (set:=fun s=>(⟨⟨s⟩,d1.Edges⟩:zbD)) qU o (.s o) (by decide) (fun M s cs w hc hs=>by obtain⟨c0,q0,e0,h0,h1⟩:=hc;obtain⟨v,_,hv⟩:=ziT o o h0;exact zvu.2 M (⟨⟨v⟩,d1.Edges⟩:zbD) ⟨s⟩ cs [s] w ⟨c0,q0,e0,hv,h1⟩ hs) o o) (.cA (.fieldPtr .none jV (.s o)) (.cN (.storeRowD (k:=5001) (t:=9) (off:=1) (mk:=fun z=>(⟨⟨z⟩,d1.Edges⟩:zbD)) (set:=fun s z=>(⟨⟨z⟩,⟨s⟩⟩:yF)) Ji o (.s o) (by decide) (fun M z s cs w hc hs=>by obtain⟨c0,q0,e0,h0,h1⟩:=hc;obtain⟨v,_,hv⟩:=ziT o o h1;exact zh0.2 M (⟨⟨z⟩,⟨v⟩⟩:yF) ⟨s⟩ cs [s] w ⟨c0,q0,e0,h0,hv⟩ hs) o o) (.nil (.open (k:=5001) (g:=5003) o o (fun s5003=>(.open (k:=5001) (g:=5004) o o (fun s5004=>(.seq (.sr [oo,([5001],[]),([5003],[]),oo] mx (.cA (.fieldPtr .none jV (.s o)) (.cA (.loadAt (k:=5001) .none zac o (.s o) JM) ?_))))))))))))))))))))))))))))))
 refine .cA (.lenO (k:=5003) jx (.told (.s o) o)) (.cA (.move .none .i) (.nil ?_))
 obtain⟨j_4,h,hK4⟩:=bind_some h
 refine .thenJ (ι:=(List zA)) (fun j_4=>[]) (fun j_4=>[(5003,some (zd.at s5003 (zp 73 j_4)))]) (fun s=>j_4=s) (.k2 1 2 o o .nil) (.k2 5001 5002 o o (.k 5004 o .nil)) ?_ (fun j_4' hj4=>?_)
 ·
  refine .block (.rforL h (fun p5_=>[(15,⟨True,rep p5_.1⟩)]) (fun p5_=>[(5003,some (zd.at s5003 (zp 73 p5_.2)))]) (.k 15 o .nil) (.k 5003 o .nil) (.k2 1 2 o o (.k 14 o .nil)) (.k2 5001 5002 o o (.k 5004 o .nil)) (fun p5_ o_5 h hD5=>(.sn mx (.lt o o (.nil (.seq (.cb o h (fun _ h=>?_) fun _ h=>?_)))))))
  ·
   refine .skip (.then (.seq ?_))
   obtain⟨j_7,h,hK7⟩:=bind_some h
   unfold zdr at h
   refine .thenJ (ι:=(List zA)) (fun j_7=>[]) (fun j_7=>[(5003,some (zd.at s5003 (zp 73 j_7)))]) (fun s=>j_7=s) (.k4 1 2 14 15 o o o o .nil) (.k2 5001 5002 o o (.k 5004 o .nil)) ?_ (fun j_7' hj7=>?_)
   ·
    obtain⟨hn8,h⟩:=zn h
    obtain⟨r3,hv9,h⟩:=bind_some h
    obtain⟨hn10,h⟩:=zn h
    exact .block (.sn mx (.mv o (.asn o (.nil (.rg [oo,([5001],[]),oo,oo,([5001],[]),oo,([5003],[]),([5003],[]),([5003],[]),oo,([5003],[]),([5003],[]),([5003],[5003])] mx (.cA (.fieldPtr .none jV (.s o)) (.cA (.loadAt (k:=5001) .none zac o (.s o) JM) (.mvA o (.cA (.fieldPtr .none jV (.s o)) (.cA (.loadAt (k:=5001) .none zac o (.s o) JM) (.mvA o (.ixO 5003 jx yP o o o hn8 (.fe 5003 Yc o o hn8 (.cA (.loadElem (k:=5003) .none Yw (.s o) o JL (fun _=>hn8)) (.cA (.call .none (zuG hv9).frz (.cons (.s o) .nil)) (.ixO 5003 jx yP o o o hn10 (.fe 5003 Yc o o hn10 (.cN (.storeElem (k:=5003) Yw (.s o) o zmV (.s o) hn10) (.nil (.blkNormal (zb.j _ (za h))))))))))))))))))))))
   ·
    subst hj7;have h:=hK7;clear hK7
    exact .rn mx (.adi o (.mv o (.nil (zb.ag (za h)))))
  ·
   refine .exit (.thenExit (.thenExit (.blkExit ?_)))
   replace h:=hD5 _ (za h)
   exact zb.j _ (za h)
 ·
  subst hj4;have h:=hK4;clear hK4
  refine .sr [([5001],[]),([5002],[5002])] mx (.cA (.loadAt0 (k:=5001) .none zh8 o (.s o)) (.cN (.storeAtH (g:=5002) zh8 (by rfl) o (.s o) (.s o)) (.nil (.ret (.close (k:=5002) (g:=5003) (fun z=>zC 25 (⟨⟨s5004⟩,⟨z⟩⟩:yF)) o o o (.close (k:=5002) (g:=5004) (fun z=>zQ (fun z0=>zC 25 (⟨⟨z⟩,⟨z0⟩⟩:yF)) (zp 73 j_4)) o o o ?_))))))
  obtain rfl:=za h
  exact zb.ret1S (K:=5002) (.inl o) zh8 Tryz.results62 o trivial o
theorem zpQ {d1:Doc}{r:Doc}(h:Qc d1=some r):zr Tryz.prog 62 [rep d1] (rep r):=
 (zje h).frzG (fun M D v w h hms=>zpJ (mk:=(fun s1_ s2_=>(⟨⟨s1_⟩,⟨s2_⟩⟩:yF))) (y:=(r:Doc)) QE QE rfl (fun M s1_ s2_ cs w hc g1 g2=>by obtain⟨c0,q0,e0,h0,h1⟩:=hc;exact⟨c0,q0,e0,vS rfl rfl h0 g1,vS rfl rfl h1 g2⟩) M D v w h hms)
theorem zuI {l:List yh}{i j:Int}{r:List yh×List yh}{s:Value}(h:zhK l i j=some r):zS Tryz.prog 191 [isV (qP s i j (Rep.sz yh))] [(s,zp 125 l)] (zV) [some (zp 125 r.2),some (zp 125 r.1)]:=by
 obtain⟨⟨hl,h0,h1,rfl⟩,h⟩:=zn h
 obtain rfl:=za h
 exact zpr zpp o zqN o zms hl h0 h1
theorem zjc {k1:zY}{s1:yh}{r:zY}{m39:Nat}{s40:Value}(h:Q2 k1 s1=some r):zS Tryz.prog 116 [isV (ptr m39 0),rep s1] [(ptr m39 0,zC 128 (⟨k1.now,⟨s40⟩,k1.next⟩:yl)),(s40,zp 125 k1.past)] (zV) [some (zQ (fun z0=>zC 128 (⟨r.now,⟨z0⟩,r.next⟩:yl)) (zp 125 r.past)),none]:=by
 unfold Q2 at h
 obtain⟨hn1,h⟩:=zn h
 obtain⟨c1,hv2,h⟩:=zv h
 refine zS.i Tryz.func116 o Tryz.ntmps116 o (fun F=>(.sn mx (.c (.box .none (.s o)) (.nil (.sr [oo,oo,oo,oo,([39],[]),oo,oo,oo,([39],[]),oo,([40],[14,40]),oo,oo,([39,14],[39,14])] mx (.mvA o (.mvA o (.cA (.nilCheckP .none (.s o)) (.cA (.fieldPtr .none zb0 (.s o)) (.cA (.loadAt (k:=39) .none zh3 o (.s o) zgx) (.mvA o (.cA (.nilCheckP .none (.s o)) (.cA (.fieldPtr .none JE (.s o)) (.cA (.loadAt (k:=39) .none zbw o (.s o) zcf) (.cA (.buildSlice (xs:=[_]) .none ze6 zbw zrA (.cons (.s o) .nil) o (by decide)) (.cW (.append (k:=40) zms o (.told (.s o) o) (.s o) hn1) (.cA (.nilCheckP .none (.s o)) (.cA (.fieldPtr .none zb0 (.s o)) (.cN (.storeRow (k:=39) (t:=14) zh6 o (.s o) znh o o) (.nil (.open (k:=39) (g:=5001) o o (fun s5001=>(.seq (.sr [oo,oo,oo,([39],[]),([5001],[]),oo] mx (.mvA o (.cA (.nilCheckP .none (.s o)) (.cA (.fieldPtr .none zb0 (.s o)) (.cA (.loadAt (k:=39) .none zh3 o (.s o) zgx) (.cA (.lenO (k:=5001) ze6 (.told (.s o) o)) (.cA (.gt .none (.s o) .i) (.nil (.reB (t:=5001) o (congrArg (fun y=>zd.at s5001 (zp 125 y)) hv2) ?_))))))))))))))))))))))))))))))))
 obtain⟨j_3,h,hK3⟩:=bind_some h
 refine .thenJ (ι:=zY) (fun j_3=>[]) (fun j_3=>[(39,some (zd.at (ptr m39 0) (zQ (fun z0=>zC 128 (⟨j_3.now,⟨z0⟩,j_3.next⟩:yl)) (zp 125 j_3.past))))]) (fun s=>j_3=s) (.k2 0 3 o o .nil) zi.nil ?_ (fun j_3' hj3=>?_)
 ·
  refine .cb o h (fun _ h=>?_) fun _ h=>?_
  ·
   obtain⟨hn5,h⟩:=zn h
   obtain⟨r1,hv6,h⟩:=bind_some h
   exact .rg [oo,oo,oo,oo,([39],[]),([5001],[]),([5001],[5001,29]),oo,oo,([39,29],[39,29])] mx (.mvA o (.mvA o (.cA (.nilCheckP .none (.s o)) (.cA (.fieldPtr .none zb0 (.s o)) (.cA (.loadAt (k:=39) .none zh3 o (.s o) zgx) (.cA (.sliceLend (k:=5001) ze6 zbw (.s o) o .i o hn5) (.cW (.cO [5001] (zuI hv6) (.cons (.s o) .nil) (.cons (k:=5001) o .nil) o) (.cA (.nilCheckP .none (.s o)) (.cA (.fieldPtr .none zb0 (.s o)) (.cN (.storeRow (k:=39) (t:=29) zh6 o (.s o) znh o o) (.nil (zb.j _ (za h)))))))))))))
  ·
   exact .skip (.close (k:=39) (g:=5001) (fun z=>zC 128 (⟨k1.now,⟨z⟩,k1.next⟩:yl)) o o o (zb.j _ (za h)))
 ·
  subst hj3;have h:=hK3;clear hK3
  refine .open (k:=39) (g:=5002) o o (fun s5002=>(.rg [oo,oo,oo,oo,oo,([39],[39]),oo,oo,([39],[39])] mx (.mvA o (.mvA o (.ldA zbw o (.cA (.nilCheckP .none (.s o)) (.cA (.fieldPtr .none JE (.s o)) (.cN (.storeAt (g:=39) zbw o (.s o) zvs (.s o)) (.cA (.nilCheckP .none (.s o)) (.cA (.fieldPtr .none zqE (.s o)) (.cN (.storeAt (g:=39) zh6 o (.s o) zvt (.const (x:=([]:(List yh))) (fun M w=>⟨_,⟨none,0,rfl,Nat.le_refl _,by decide,rfl⟩,rfl⟩))) (.nil (.close (k:=39) (g:=5002) (fun z=>zC 128 (⟨({ { j_3 with now:=s1 }with next:=([]:(List yh)) }).now,⟨z⟩,({ { j_3 with now:=s1 }with next:=([]:(List yh)) }).next⟩:yl)) o o o ?_)))))))))))))
  obtain rfl:=za h
  exact zb.ret0O (.inr o) [39,40] Tryz.results116 (by decide) (.held o (.skip .nil))
theorem zpN {k1:zY}{d1:Doc}{e1:Int}{r:(Str×Int×zY)}{m20:Nat}{s21:Value}(h:zdn k1 d1 e1=some r):zS Tryz.prog 102 [isV (ptr m20 0),rep d1,rep e1] [(ptr m20 0,zC 128 (⟨k1.now,⟨s21⟩,k1.next⟩:yl)),(s21,zp 125 k1.past)] (tup [rep r.1,rep r.2.1]) [some (zQ (fun z0=>zC 128 (⟨r.2.2.now,⟨z0⟩,r.2.2.next⟩:yl)) (zp 125 r.2.2.past)),none]:=by
 unfold zdn at h
 refine zS.i Tryz.func102 o Tryz.ntmps102 o (fun F=>(.sn mx (.c (.box .none (.s o)) (.c (.assign .none (.str (l:=[]) (by decide))) (.asi (.nil (.seq (.sn mx (.mv o (.eqi o (.nil ?_)))))))))))
 obtain⟨j_1,h,hK1⟩:=bind_some h
 refine .thenJ (ι:=zY) (fun j_1=>[]) (fun j_1=>[(20,some (zd.at (ptr m20 0) (zQ (fun z0=>zC 128 (⟨j_1.now,⟨z0⟩,j_1.next⟩:yl)) (zp 125 j_1.past))))]) (fun s=>j_1=s) (.k 2 o .nil) zi.nil ?_ (fun j_1' hj1=>?_)
 ·
  refine .cb o h (fun _ h=>?_) fun _ h=>?_
  ·
   obtain⟨r1,hv3,h⟩:=bind_some h
   exact .rg [oo,oo,oo,oo,oo,oo,([20],[]),oo,([20,21],[20,21])] mx (.mvA o (.ldA yX o (.mvA o (.cA (.nilCheckP .none (.s o)) (.cA (.fieldPtr .none JE (.s o)) (.cA (.fieldPtr .none zjT (.s o)) (.cA (.loadAt (k:=20) .none znw o (.s o) (zj.comp (o2:=2) zcf zkl)) (.cA (.buildF (y:=(⟨d1,k1.now.rules⟩:yh)) .none ziM znI o (.cons (.s o) (.cons (.s o) .nil)) (.cons o zmS (.cons o zmT .nil))) (.cW (.cO [20,21] (zjc hv3) (.cons (.s o) (.cons (.s o) .nil)) (.cons (k:=20) o (.cons (k:=21) o .nil)) o) (.nil (zb.j _ (za h))))))))))))
  ·
   exact .skip (.close (k:=20) (g:=21) (fun z=>zC 128 (⟨k1.now,⟨z⟩,k1.next⟩:yl)) o o o (zb.j _ (za h)))
 ·
  subst hj1;have h:=hK1;clear hK1
  refine .open (k:=20) (g:=5001) o o (fun s5001=>(.sn mx (.mv o (.c (.assign .none (.str (l:=[]) (by decide))) (.asn o (.nil (.ret (.close (k:=20) (g:=5001) (fun z=>zC 128 (⟨j_1.now,⟨z⟩,j_1.next⟩:yl)) o o o ?_))))))))
  obtain rfl:=za h
  exact zb.ret2O (.inl o) [20,21] Tryz.results102 (by decide) (.held o (.skip .nil)) (zt.tmp o trivial Imp.refl) (zt.tmp o trivial Imp.refl)
theorem zjd {k1:zY}{d1:Doc}{r:(Str×Int×zY)}{m13:Nat}{s14:Value}(h:YI k1 d1=some r):zS Tryz.prog 97 [isV (ptr m13 0),rep d1] [(ptr m13 0,zC 128 (⟨k1.now,⟨s14⟩,k1.next⟩:yl)),(s14,zp 125 k1.past)] (tup [rep r.1,rep r.2.1]) [some (zQ (fun z0=>zC 128 (⟨r.2.2.now,⟨z0⟩,r.2.2.next⟩:yl)) (zp 125 r.2.2.past)),none]:=by
 unfold YI at h
 obtain⟨r1,hv1,h⟩:=bind_some h
 obtain⟨r2,hv2,h⟩:=bind_some h
 refine zS.i Tryz.func97 o Tryz.ntmps97 o (fun F=>(.sn mx (.c (.box .none (.s o)) (.c (.assign .none (.str (l:=[]) (by decide))) (.asi (.nil (.sr [oo,oo,oo,oo,([13,14],[13,14]),oo,oo,oo,oo] mx (.mvA o (.ldA yX o (.ldA yX o (.cA (.call .none (zeE hv1) (.cons (.s o) .nil)) (.cW (.cO [13,14] (zpN hv2) (.cons (.s o) (.cons (.s o) (.cons (.s o) .nil))) (.cons (k:=13) o (.cons (k:=14) o .nil)) o) (.exA o o (.exA o o (.asnA o (.asnA o (.nil (.open (k:=13) (g:=5001) o o (fun s5001=>(.ret (.close (k:=13) (g:=5001) (fun z=>zC 128 (⟨r2.2.2.now,⟨z⟩,r2.2.2.next⟩:yl)) o o o ?_)))))))))))))))))))))
 obtain rfl:=za h
 exact zb.ret2O (.inl o) [13,14] Tryz.results97 (by decide) (.held o (.skip .nil)) (zt.tmp o trivial Imp.refl) (zt.tmp o trivial Imp.refl)
theorem zpM {k1:zY}{w1:(List Str)}{text1:Str}{r:(Str×Int×zY)}{m66:Nat}{s67:Value}(h:Q1 k1 w1 text1=some r):zS Tryz.prog 55 [isV (ptr m66 0),rep w1,rep text1] [(ptr m66 0,zC 128 (⟨k1.now,⟨s67⟩,k1.next⟩:yl)),(s67,zp 125 k1.past)] (tup [rep r.1,rep r.2.1]) [some (zQ (fun z0=>zC 128 (⟨r.2.2.now,⟨z0⟩,r.2.2.next⟩:yl)) (zp 125 r.2.2.past)),none]:=by
 unfold Q1 at h
 obtain⟨r1,hv1,h⟩:=bind_some h
 obtain⟨hn2,h⟩:=zn h
 refine zS.i Tryz.func55 o Tryz.ntmps55 o (fun F=>(.sn mx (.c (.assign .none (.str (l:=[]) (by decide))) (.asi (.nil (.sr [oo,oo,oo,oo,([66],[]),([],[18]),([],[8]),([8,18],[8,18])] mx (.mvA o (.cA (.nilCheckP .none (.s o)) (.cA (.fieldPtr .none JE (.s o)) (.cA (.fieldPtr .none zgf (.s o)) (.cA (.loadAt (k:=66) .none yX o (.s o) (zj.comp (o2:=0) zcf zgo)) (.cW (.cO [] (zje hv1) (.cons (.s o) .nil) .nil o) (.al zc3 o (.cN (.storeG2 (t:=18) (k:=8) (mk:=(fun z1 z2=>(⟨⟨z1⟩,⟨z2⟩⟩:yF))) yX o o (by rfl) o o o o) (.nil (.nameAt (t:=8) (g:=5001) o o (zd8 fun _=>(zd8 fun _=>zcg)) o (fun m5001=>(.open (k:=5001) (g:=5002) o o (fun s5002=>(.open (k:=5001) (g:=5003) o o (fun s5003=>(.seq (.sn mx (.mv o (.c (.indexAddr .none zX ty9 (.s o) .i (fun _=>hn2)) (.ld ty9 o (.c (.eqS .none (z6 Tryz.underlying9) (.s o) (.str (l:=[101,100,103,101]) (by decide))) (.nil (.cb o h (fun _ h=>?_) fun _ h=>?_)))))))))))))))))))))))))))))
 ·
  obtain⟨r2,hv4,h⟩:=bind_some h
  refine .sr [oo,oo,oo,oo,oo,oo,([],[9]),([9],[9]),oo] mx (.mvA o (.mvA o (.cA (.call .none (zjg hv4) (.cons (.s o) (.cons (.s o) .nil))) (.mvA o (.exA o o (.exA o o (.al zbB o (.st yP o o o (.asnA o (.nil (.freeze (t:=9) o o (.k2 66 67 o o (.k2 5001 5002 o o (.k 5003 o .nil))) o (.seq (.sn mx (.mv o (.c (.not .none (.s o)) (.nil (.cb o h (fun _ h=>?_) fun _ h=>?_)))))))))))))))))
  ·
   refine .sn mx (.c (.assign .none (.str (l:=[]) (by decide))) (.asi (.nil (.ret (.thenRet (.thenRet (.close (k:=66) (g:=67) (fun z=>zC 128 (⟨k1.now,⟨z⟩,k1.next⟩:yl)) o o o ?_)))))))
   obtain rfl:=za h
   exact zb.ret2O (.inl o) [66,67] Tryz.results55 (by decide) (.held o (.skip .nil)) (zt.tmp o trivial Imp.refl) (zt.tmp o trivial Imp.refl)
  ·
   obtain⟨hn6,h⟩:=zn h
   refine .skip (.then (.sr [oo,([5001],[]),oo,oo,([5003],[35,5003]),oo,([5001,35],[5001,35])] mx (.cA (.fieldPtr .none jV (.s o)) (.cA (.loadAt (k:=5001) .none zac o (.s o) JM) (.ldA yP o (.cA (.buildSlice (xs:=[_]) .none jx yP zgB (.cons (.s o) .nil) o (by decide)) (.cW (.append (k:=5003) zho o (.told (.s o) o) (.s o) hn6) (.cA (.fieldPtr .none jV (.s o)) (.cN (.storeRow (k:=5001) (t:=35) Ji o (.s o) zh0 o o) (.nil (.open (k:=5001) (g:=5004) o o (fun s5004=>(.close (k:=5001) (g:=5004) (fun z=>zC 25 (⟨⟨s5002⟩,⟨z⟩⟩:yF)) o o o (.close (k:=5001) (g:=5002) (fun z=>zQ (fun z0=>zC 25 (⟨⟨z⟩,⟨z0⟩⟩:yF)) (zp 73 (r1.Edges++[r2.1]))) o o o (.freezeAt (g:=5001) (S:=ref ({ r1 with Nodes:=r1.Nodes,Edges:=r1.Edges++[r2.1] }:Doc)) (ts:=[8]) o (.cons (t:=8) o trivial .nil) (.k2 66 67 o o .nil) o (fun M D w h hms=>zdm (mk:=(fun s1_ s2_=>(⟨⟨s1_⟩,⟨s2_⟩⟩:yF))) (y:=({ r1 with Nodes:=r1.Nodes,Edges:=r1.Edges++[r2.1] }:Doc)) QE QE o (fun M s1_ s2_ cs w hc g1 g2=>by obtain⟨c0,q0,e0,h0,h1⟩:=hc;exact⟨c0,q0,e0,vS o o h0 g1,vS o o h1 g2⟩) M D w h hms) ?_)))))))))))))))
   obtain⟨r3,hv7,h⟩:=bind_some h
   refine .sr [oo,oo,([66,67],[66,67]),oo,oo,oo,oo] mx (.mvA o (.ldA yX o (.cW (.cO [66,67] (zjd hv7) (.cons (.s o) (.cons (.s o) .nil)) (.cons (k:=66) o (.cons (k:=67) o .nil)) o) (.exA o o (.exA o o (.asnA o (.asnA o (.nil (.open (k:=66) (g:=5005) o o (fun s5005=>(.ret (.thenRet (.close (k:=66) (g:=5005) (fun z=>zC 128 (⟨r3.2.2.now,⟨z⟩,r3.2.2.next⟩:yl)) o o o ?_)))))))))))))
   obtain rfl:=za h
   exact zb.ret2O (.inl o) [66,67] Tryz.results55 (by decide) (.held o (.skip .nil)) (zt.tmp o trivial Imp.refl) (zt.tmp o trivial Imp.refl)
 ·
  obtain⟨r4,hv8,h⟩:=bind_some h
  refine .skip (.then (.sr [oo,oo,oo,oo,oo,oo,([],[11]),([11],[11]),oo] mx (.mvA o (.mvA o (.cA (.call .none (zjh hv8) (.cons (.s o) (.cons (.s o) .nil))) (.mvA o (.exA o o (.exA o o (.al vC o (.st yd o o o (.asnA o (.nil (.freeze (t:=11) o o (.k2 66 67 o o (.k2 5001 5002 o o (.k 5003 o .nil))) o (.seq (.sn mx (.mv o (.c (.not .none (.s o)) (.mv o (.fg jo jC o o o (.lg ty3 o o o (.c (.eqI (.at o o) (.tmp o id) .i) (.po o o (.nil (.cb o h (fun _ h=>?_) fun _ h=>?_))))))))))))))))))))))))
  ·
   refine .sn mx (.c (.assign .none (.str (l:=[]) (by decide))) (.asi (.nil (.ret (.thenRet (.close (k:=66) (g:=67) (fun z=>zC 128 (⟨k1.now,⟨z⟩,k1.next⟩:yl)) o o o ?_))))))
   obtain rfl:=za h
   exact zb.ret2O (.inl o) [66,67] Tryz.results55 (by decide) (.held o (.skip .nil)) (zt.tmp o trivial Imp.refl) (zt.tmp o trivial Imp.refl)
  ·
   obtain⟨hn10,h⟩:=zn h
   refine .skip (.then (.sr [oo,([5001],[]),oo,oo,([5002],[59,5002]),oo,([5001,59],[5001,59])] mx (.cA (.fieldPtr .none qt (.s o)) (.cA (.loadAt (k:=5001) .none zh4 o (.s o) zgy) (.ldA yd o (.cA (.buildSlice (xs:=[_]) .none y4 yd zgA (.cons (.s o) .nil) o (by decide)) (.cW (.append (k:=5002) zhn o (.told (.s o) o) (.s o) hn10) (.cA (.fieldPtr .none qt (.s o)) (.cN (.storeRow (k:=5001) (t:=59) qU o (.s o) zni o o) (.nil (.open (k:=5001) (g:=5006) o o (fun s5006=>(.close (k:=5001) (g:=5003) (fun z=>zC 25 (⟨⟨s5006⟩,⟨z⟩⟩:yF)) o o o (.close (k:=5001) (g:=5006) (fun z=>zQ (fun z0=>zC 25 (⟨⟨z⟩,⟨z0⟩⟩:yF)) (zp 73 r1.Edges)) o o o (.freezeAt (g:=5001) (S:=ref ({ r1 with Nodes:=r1.Nodes++[r4.1],Edges:=r1.Edges }:Doc)) (ts:=[8]) o (.cons (t:=8) o trivial .nil) (.k2 66 67 o o .nil) o (fun M D w h hms=>zdm (mk:=(fun s1_ s2_=>(⟨⟨s1_⟩,⟨s2_⟩⟩:yF))) (y:=({ r1 with Nodes:=r1.Nodes++[r4.1],Edges:=r1.Edges }:Doc)) QE QE o (fun M s1_ s2_ cs w hc g1 g2=>by obtain⟨c0,q0,e0,h0,h1⟩:=hc;exact⟨c0,q0,e0,vS o o h0 g1,vS o o h1 g2⟩) M D w h hms) ?_)))))))))))))))
   obtain⟨r5,hv11,h⟩:=bind_some h
   refine .sr [oo,oo,([66,67],[66,67]),oo,oo,oo,oo] mx (.mvA o (.ldA yX o (.cW (.cO [66,67] (zjd hv11) (.cons (.s o) (.cons (.s o) .nil)) (.cons (k:=66) o (.cons (k:=67) o .nil)) o) (.exA o o (.exA o o (.asnA o (.asnA o (.nil (.open (k:=66) (g:=5007) o o (fun s5007=>(.ret (.close (k:=66) (g:=5007) (fun z=>zC 128 (⟨r5.2.2.now,⟨z⟩,r5.2.2.next⟩:yl)) o o o ?_))))))))))))
   obtain rfl:=za h
   exact zb.ret2O (.inl o) [66,67] Tryz.results55 (by decide) (.held o (.skip .nil)) (zt.tmp o trivial Imp.refl) (zt.tmp o trivial Imp.refl)
theorem zuH {s1:(List zz)}{r:(List zz)}  (h:zbl s1=some r):zS Tryz.prog 115 [rep s1] [] (zV) [some (zp 37 r)]:=by
 unfold zbl at h
 refine zS.i Tryz.func115 o Tryz.ntmps115 o (fun F=>(.sn mx (.c (.assign .none (.const (x:=([]:(List zz))) (fun M w=>⟨_,⟨none,0,rfl,Nat.le_refl _,by decide,rfl⟩,rfl⟩))) (.nil (.seq (.sn mx (.mv o (.c (.eqNil .none j8 (.s o)) (.nil (.condNil (t:=4) o trivial (fun hb1=>?_) ?_))))))))))
 ·
  replace h:=zew h hb1
  refine .sr [([],[2])] mx (.cW (.nilRow (T:=37) (α:=zz) o) (.nil (.nameRow (t:=2) (g:=5001) o o o (fun s5001=>(.ret (.thenRet (.anon (t:=2) (g:=5001) o o trivial o ?_)))))))
  obtain rfl:=za h
  exact zb.ret1O (.inl o) [2] Tryz.results115 (by decide) (.res o o) (zt.tmp o trivial (fun _ _ _ _=>trivial))
 ·
  replace h:=zev h
  obtain⟨hn2,h⟩:=zn h
  obtain⟨v1,hv3,h⟩:=zv h
  refine .skip (.then (.sr [([],[5]),oo,([5],[7,5]),([7],[2,7])] mx (.cW (.buildSliceO (xs:=[]) o j8 qf zgz .nil o (by decide)) (.mvA o (.cW (.append (k:=5) zhp o (.tmp o) (.s o) hn2) (.cW (.passRow o (.tmp o)) (.nil (.reB (t:=2) o (congrArg (zp 37) hv3) (.nameRow (t:=2) (g:=5002) o o o (fun s5002=>(.ret (.anon (t:=2) (g:=5002) o o trivial o ?_))))))))))))
  obtain rfl:=za h
  exact zb.ret1O (.inl o) [2] Tryz.results115 (by decide) (.res o o) (zt.tmp o trivial (fun _ _ _ _=>trivial))
theorem zpO {k1:zY}{w1:(List Str)}{r:(Str×Int×zY)}{m176:Nat}{s177:Value}(h:Jw k1 w1=some r):zS Tryz.prog 61 [isV (ptr m176 0),rep w1] [(ptr m176 0,zC 128 (⟨k1.now,⟨s177⟩,k1.next⟩:yl)),(s177,zp 125 k1.past)] (tup [rep r.1,rep r.2.1]) [some (zQ (fun z0=>zC 128 (⟨r.2.2.now,⟨z0⟩,r.2.2.next⟩:yl)) (zp 125 r.2.2.past)),none]:=by
 unfold Jw at h
 obtain⟨hn1,h⟩:=zn h
 refine zS.i Tryz.func61 o Tryz.ntmps61 o (fun F=>(.sn mx (.c (.box .none (.s o)) (.c (.assign .none (.str (l:=[]) (by decide))) (.asi (.nil (.seq (.sn mx (.ld qj o (.c (.indexAddr .none zX ty9 (.s o) .i (fun _=>hn1)) (.ld ty9 o (.c (.eqS .none (z6 Tryz.underlying9) (.s o) (.str (l:=[115,116,121,108,101]) (by decide))) (.nil (.cb o h (fun _ h=>?_) fun _ h=>?_))))))))))))))
 ·
  obtain⟨r1,hv3,h⟩:=bind_some h
  refine .sr [oo,oo,oo,oo,oo,([],[6]),([6],[6]),oo] mx (.ldA qj o (.cA (.call .none (zji hv3) (.cons (.s o) .nil)) (.mvA o (.exA o o (.exA o o (.al zc4 o (.st qf o o o (.asnA o (.nil (.freeze (t:=6) o o (.k2 176 177 o o .nil) o (.seq (.sn mx (.mv o (.c (.not .none (.s o)) (.nil (.cb o h (fun _ h=>?_) fun _ h=>?_))))))))))))))))
  ·
   refine .sn mx (.c (.assign .none (.str (l:=[]) (by decide))) (.asi (.nil (.ret (.thenRet (.thenRet (.close (k:=176) (g:=177) (fun z=>zC 128 (⟨k1.now,⟨z⟩,k1.next⟩:yl)) o o o ?_)))))))
   obtain rfl:=za h
   exact zb.ret2O (.inl o) [176,177] Tryz.results61 (by decide) (.held o (.skip .nil)) (zt.tmp o trivial Imp.refl) (zt.tmp o trivial Imp.refl)
  ·
   obtain⟨r2,hv5,h⟩:=bind_some h
   obtain⟨hn6,h⟩:=zn h
   obtain⟨e1,hv7,h⟩:=bind_some h
   refine .skip (.then (.sr [oo,oo,oo,oo,([176],[]),([],[35]),oo,oo,([35],[38,35]),([38],[8,38])] mx (.mvA o (.cA (.nilCheckP .none (.s o)) (.cA (.fieldPtr .none JE (.s o)) (.cA (.fieldPtr .none zjT (.s o)) (.cA (.loadAt (k:=176) .none znw o (.s o) (zj.comp (o2:=2) zcf zkl)) (.cW (.cO [] (zuH hv5) (.cons (.s o) .nil) .nil o) (.ldA qf o (.cA (.buildSlice (xs:=[_]) .none j8 qf zgz (.cons (.s o) .nil) o (by decide)) (.cW (.append (k:=35) zhp o (.tmp o) (.s o) hn6) (.cW (.passRow o (.tmp o)) (.nil (.freezeRowA (t:=8) o o (.k2 176 177 o o .nil) o (.seq (.sn mx (.mv o (.c (.call .none (zfT hv7) (.cons (.s o) .nil)) (.asn o (.nil (.sn mx (.mv o (.nei o (.nil (.cb o h (fun _ h=>?_) fun _ h=>?_)))))))))))))))))))))))))
   ·
    refine .sn mx (.mv o (.c (.assign .none (.str (l:=[]) (by decide))) (.asn o (.nil (.ret (.thenRet (.thenRet (.close (k:=176) (g:=177) (fun z=>zC 128 (⟨k1.now,⟨z⟩,k1.next⟩:yl)) o o o ?_))))))))
    obtain rfl:=za h
    exact zb.ret2O (.inl o) [176,177] Tryz.results61 (by decide) (.held o (.skip .nil)) (zt.tmp o trivial Imp.refl) (zt.tmp o trivial Imp.refl)
   ·
    obtain⟨r3,hv9,h⟩:=bind_some h
    refine .skip (.then (.sr [oo,oo,oo,oo,oo,([176],[]),oo,oo,([176,177],[176,177])] mx (.mvA o (.mvA o (.cA (.nilCheckP .none (.s o)) (.cA (.fieldPtr .none JE (.s o)) (.cA (.fieldPtr .none zgf (.s o)) (.cA (.loadAt (k:=176) .none yX o (.s o) (zj.comp (o2:=0) zcf zgo)) (.mvA o (.cA (.buildF (y:=(⟨k1.now.doc,r2++[r1.1]⟩:yh)) .none ziM znI o (.cons (.s o) (.cons (.s o) .nil)) (.cons o zmS (.cons o zmT .nil))) (.cW (.cO [176,177] (zjc hv9) (.cons (.s o) (.cons (.s o) .nil)) (.cons (k:=176) o (.cons (k:=177) o .nil)) o) (.nil (.open (k:=176) (g:=5001) o o (fun s5001=>(.sn mx (.c (.assign .none (.str (l:=[]) (by decide))) (.asi (.nil (.ret (.thenRet (.close (k:=176) (g:=5001) (fun z=>zC 128 (⟨r3.now,⟨z⟩,r3.next⟩:yl)) o o o ?_)))))))))))))))))))))
    obtain rfl:=za h
    exact zb.ret2O (.inl o) [176,177] Tryz.results61 (by decide) (.held o (.skip .nil)) (zt.tmp o trivial Imp.refl) (zt.tmp o trivial Imp.refl)
 ·
  refine .skip (.then (.seq ?_))
  cases h
theorem zpL {k1:zY}{line1:Str}{r:(Str×Int×zY)}{m130:Nat}{s131:Value}(h:vI k1 line1=some r):zS Tryz.prog 16 [isV (ptr m130 0),rep line1] [(ptr m130 0,zC 128 (⟨k1.now,⟨s131⟩,k1.next⟩:yl)),(s131,zp 125 k1.past)] (tup [rep r.1,rep r.2.1]) [some (zQ (fun z0=>zC 128 (⟨r.2.2.now,⟨z0⟩,r.2.2.next⟩:yl)) (zp 125 r.2.2.past)),none]:=by
 unfold vI at h
 obtain⟨r1,hv1,h⟩:=bind_some h
 refine zS.i Tryz.func16 o Tryz.ntmps16 o (fun F=>(.sn mx (.c (.assign .none (.str (l:=[]) (by decide))) (.asi (.nil (.sr [oo,oo,oo,oo,oo,oo,oo,([],[7]),oo,([7],[7]),oo,oo] mx (.mvA o (.cA (.call .none (zjj hv1) (.cons (.s o) .nil)) (.mvA o (.exA o o (.exA o o (.exA o o (.exA o o (.al zo9 o (.asnA o (.st ty9 o o o (.asnA o (.asnA o (.nil (.freeze (t:=7) o o (.k2 130 131 o o .nil) o (.seq (.sn mx (.mv o (.c (.not .none (.s o)) (.nil (.cb o h (fun _ h=>?_) fun _ h=>?_))))))))))))))))))))))))))
 ·
  refine .sn mx (.c (.assign .none (.str (l:=[]) (by decide))) (.asi (.nil (.ret (.thenRet (.close (k:=130) (g:=131) (fun z=>zC 128 (⟨k1.now,⟨z⟩,k1.next⟩:yl)) o o o ?_))))))
  obtain rfl:=za h
  exact zb.ret2O (.inl o) [130,131] Tryz.results16 (by decide) (.held o (.skip .nil)) (zt.tmp o trivial Imp.refl) (zt.tmp o trivial Imp.refl)
 ·
  obtain⟨r2,hv3,h⟩:=bind_some h
  obtain⟨hn4,h⟩:=zn h
  obtain⟨hn5,h⟩:=zn h
  obtain⟨isKind1,hv6,h⟩:=bind_some h
  obtain⟨hn7,h⟩:=zn h
  refine .skip (.then (.sn mx (.c (.call .none (zdA hv3) .nil) (.c (.slice .none zX ty9 (.s o) .i o (fun _=>hn4)) (.mv o (.c (.indexAddr .none zX ty9 (.s o) .i (fun _=>hn5)) (.ld ty9 o (.c (.call .none (zmY hv6) (.cons (.s o) (.cons (.s o) .nil))) (.asn o (.nil (.seq (.block (.sn mx (.mv o (.mv o (.mg o o o (.c (.indexAddr (.at o o) zX ty9 (.tmp o id) .i (fun hg=>hn7 hg.2)) (.lg ty9 o o o (.c (.eqS (.at o o) (z6 Tryz.underlying9) (.tmp o id) (.str (l:=[101,100,103,101]) (by decide))) (.po o o (.asn o (.nil (.cb o h (fun _ h=>?_) fun _ h=>?_)))))))))))))))))))))))
  ·
   refine .seq (.sn mx (.mv o (.mv o (.c (.load (.at o o) ty9 (.s o)) (.c (.eqS (.at o o) (z6 Tryz.underlying9) (.tmp o id) (.str (l:=[]) (by decide))) (.pa o o (.nil (.cb o h (fun _ h=>?_) fun _ h=>?_))))))))
   ·
    refine .sn mx (.c (.assign .none (.str (l:=[]) (by decide))) (.asi (.nil (.ret (.thenRet (.blkRet (.thenRet (.close (k:=130) (g:=131) (fun z=>zC 128 (⟨k1.now,⟨z⟩,k1.next⟩:yl)) o o o ?_))))))))
    obtain rfl:=za h
    exact zb.ret2O (.inl o) [130,131] Tryz.results16 (by decide) (.held o (.skip .nil)) (zt.tmp o trivial Imp.refl) (zt.tmp o trivial Imp.refl)
   ·
    obtain⟨r3,hv10,h⟩:=bind_some h
    refine .skip (.then (.sr [oo,oo,oo,([130,131],[130,131]),oo,oo,oo,oo] mx (.mvA o (.mvA o (.ldA ty9 o (.cW (.cO [130,131] (zpM hv10) (.cons (.s o) (.cons (.s o) (.cons (.s o) .nil))) (.cons (k:=130) o (.cons (k:=131) o .nil)) o) (.exA o o (.exA o o (.asnA o (.asnA o (.nil (.open (k:=130) (g:=5001) o o (fun s5001=>(.ret (.blkRet (.thenRet (.close (k:=130) (g:=5001) (fun z=>zC 128 (⟨r3.2.2.now,⟨z⟩,r3.2.2.next⟩:yl)) o o o ?_)))))))))))))))))
    obtain rfl:=za h
    exact zb.ret2O (.inl o) [130,131] Tryz.results16 (by decide) (.held o (.skip .nil)) (zt.tmp o trivial Imp.refl) (zt.tmp o trivial Imp.refl)
  ·
   obtain⟨hn11,h⟩:=zn h
   refine .sn mx (.mv o (.c (.indexAddr .none zX ty9 (.s o) .i (fun _=>hn11)) (.ld ty9 o (.c (.eqS .none (z6 Tryz.underlying9) (.s o) (.str (l:=[116,101,120,116]) (by decide))) (.asn o (.nil (.cb o h (fun _ h=>?_) fun _ h=>?_)))))))
   ·
    refine .seq (.sn mx (.mv o (.c (.not .none (.s o)) (.mv o (.mg o o o (.c (.len (.at o o) zX (.tmp o id)) (.c (.neI (.at o o) (.tmp o id) .i) (.po o o (.nil (.cb o h (fun _ h=>?_) fun _ h=>?_))))))))))
    ·
     refine .sn mx (.c (.assign .none (.str (l:=[]) (by decide))) (.asi (.nil (.ret (.thenRet (.blkRet (.thenRet (.close (k:=130) (g:=131) (fun z=>zC 128 (⟨k1.now,⟨z⟩,k1.next⟩:yl)) o o o ?_))))))))
     obtain rfl:=za h
     exact zb.ret2O (.inl o) [130,131] Tryz.results16 (by decide) (.held o (.skip .nil)) (zt.tmp o trivial Imp.refl) (zt.tmp o trivial Imp.refl)
    ·
     refine .skip (.then (.seq ?_))
     cases h
   ·
    refine .sn mx (.mv o (.asn o (.nil (.cb o h (fun _ h=>?_) fun _ h=>?_))))
    ·
     refine .sn mx (.c (.assign .none (.str (l:=[]) (by decide))) (.asi (.nil (.ret (.blkRet (.thenRet (.close (k:=130) (g:=131) (fun z=>zC 128 (⟨k1.now,⟨z⟩,k1.next⟩:yl)) o o o ?_)))))))
     obtain rfl:=za h
     exact zb.ret2O (.inl o) [130,131] Tryz.results16 (by decide) (.held o (.skip .nil)) (zt.tmp o trivial Imp.refl) (zt.tmp o trivial Imp.refl)
    ·
     obtain⟨hn15,h⟩:=zn h
     obtain⟨v1,hv16,h⟩:=zv h
     obtain⟨v2,hv17,h⟩:=zv h
     refine .skip (.blkNormal (.then (.seq (.sn mx (.mv o (.c (.indexAddr .none zX ty9 (.s o) .i (fun _=>hn15)) (.c (.re hv16 (.load .none ty9 (.s o))) (.nil (.block (.seq (.sn mx (.c (.eqS .none (z6 Tryz.underlying9) (.s o) (.str (l:=[109,111,118,101]) (by decide))) (.ra hv17 o (.nil ?_))))))))))))))
     obtain⟨j_18,h,hK18⟩:=bind_some h
     refine .thenJ (ι:=Bool) (fun j_18=>[(72,⟨True,rep j_18⟩)]) (fun j_18=>[]) (fun s=>j_18=s) (.k2 0 6 o o (.k 71 o .nil)) (.k2 130 131 o o .nil) ?_ (fun j_18' hj18=>?_)
     ·
      refine .cb o h (fun _ h=>?_) fun _ h=>?_
      ·
       exact .skip (zb.j _ (za h))
      ·
       obtain⟨v3,hv20,h⟩:=zv h
       refine .sn mx (.c (.eqS .none (z6 Tryz.underlying9) (.s o) (.str (l:=[97,108,105,103,110]) (by decide))) (.ra hv20 o (.nil (.cb o h (fun _ h=>?_) fun _ h=>?_))))
       ·
        exact .skip (zb.j _ (za h))
       ·
        obtain⟨v4,hv22,h⟩:=zv h
        refine .sn mx (.c (.eqS .none (z6 Tryz.underlying9) (.s o) (.str (l:=[115,112,114,101,97,100]) (by decide))) (.ra hv22 o (.nil (.cb o h (fun _ h=>?_) fun _ h=>?_))))
        ·
         exact .skip (zb.j _ (za h))
        ·
         obtain⟨v5,hv24,h⟩:=zv h
         refine .sn mx (.c (.eqS .none (z6 Tryz.underlying9) (.s o) (.str (l:=[115,110,97,112]) (by decide))) (.ra hv24 o (.nil (.cb o h (fun _ h=>?_) fun _ h=>?_))))
         ·
          exact .skip (zb.j _ (za h))
         ·
          obtain⟨v6,hv26,h⟩:=zv h
          refine .sn mx (.c (.eqS .none (z6 Tryz.underlying9) (.s o) (.str (l:=[106,111,105,110]) (by decide))) (.ra hv26 o (.nil (.cb o h (fun _ h=>?_) fun _ h=>?_))))
          ·
           exact .skip (zb.j _ (za h))
          ·
           obtain⟨v7,hv28,h⟩:=zv h
           refine .sn mx (.c (.eqS .none (z6 Tryz.underlying9) (.s o) (.str (l:=[102,114,111,110,116]) (by decide))) (.ra hv28 o (.nil (.cb o h (fun _ h=>?_) fun _ h=>?_))))
           ·
            exact .skip (zb.j _ (za h))
           ·
            obtain⟨v8,hv30,h⟩:=zv h
            refine .sn mx (.c (.eqS .none (z6 Tryz.underlying9) (.s o) (.str (l:=[98,97,99,107]) (by decide))) (.ra hv30 o (.nil (.cb o h (fun _ h=>?_) fun _ h=>?_))))
            ·
             exact .skip (zb.j _ (za h))
            ·
             obtain⟨v9,hv32,h⟩:=zv h
             refine .sn mx (.c (.eqS .none (z6 Tryz.underlying9) (.s o) (.str (l:=[100,101,108,101,116,101]) (by decide))) (.ra hv32 o (.nil (.cb o h (fun _ h=>?_) fun _ h=>?_))))
             ·
              exact .skip (zb.j _ (za h))
             ·
              obtain⟨v10,hv34,h⟩:=zv h
              exact .rn mx (.c (.eqS .none (z6 Tryz.underlying9) (.s o) (.str (l:=[99,111,112,121]) (by decide))) (.ra hv34 o (.nil (zb.j _ (za h)))))
     ·
      subst hj18;have h:=hK18;clear hK18
      refine .cb o h (fun _ h=>?_) fun _ h=>?_
      ·
       refine .seq (.sn mx (.mv o (.ln zX o (.c (.lt .none (.s o) .i) (.nil (.cb o h (fun _ h=>?_) fun _ h=>?_))))))
       ·
        refine .sn mx (.c (.assign .none (.str (l:=[]) (by decide))) (.asi (.nil (.ret (.thenRet (.blkRet (.thenRet (.close (k:=130) (g:=131) (fun z=>zC 128 (⟨k1.now,⟨z⟩,k1.next⟩:yl)) o o o ?_))))))))
        obtain rfl:=za h
        exact zb.ret2O (.inl o) [130,131] Tryz.results16 (by decide) (.held o (.skip .nil)) (zt.tmp o trivial Imp.refl) (zt.tmp o trivial Imp.refl)
       ·
        refine .skip (.then (.seq ?_))
        cases h
      ·
       obtain⟨v11,hv37,h⟩:=zv h
       refine .seq (.sn mx (.c (.eqS .none (z6 Tryz.underlying9) (.s o) (.str (l:=[99,108,97,115,115]) (by decide))) (.ra hv37 o (.nil ?_))))
       obtain⟨j_38,h,hK38⟩:=bind_some h
       refine .thenJ (ι:=Bool) (fun j_38=>[(104,⟨True,rep j_38⟩)]) (fun j_38=>[]) (fun s=>j_38=s) (.k2 0 6 o o .nil) (.k2 130 131 o o .nil) ?_ (fun j_38' hj38=>?_)
       ·
        refine .cb o h (fun _ h=>?_) fun _ h=>?_
        ·
         exact .skip (zb.j _ (za h))
        ·
         obtain⟨v12,hv40,h⟩:=zv h
         refine .sn mx (.c (.eqS .none (z6 Tryz.underlying9) (.s o) (.str (l:=[108,111,99,107]) (by decide))) (.ra hv40 o (.nil (.cb o h (fun _ h=>?_) fun _ h=>?_))))
         ·
          exact .skip (zb.j _ (za h))
         ·
          obtain⟨v13,hv42,h⟩:=zv h
          refine .sn mx (.c (.eqS .none (z6 Tryz.underlying9) (.s o) (.str (l:=[102,114,101,101]) (by decide))) (.ra hv42 o (.nil (.cb o h (fun _ h=>?_) fun _ h=>?_))))
          ·
           exact .skip (zb.j _ (za h))
          ·
           obtain⟨v14,hv44,h⟩:=zv h
           refine .sn mx (.c (.eqS .none (z6 Tryz.underlying9) (.s o) (.str (l:=[112,97,114,116]) (by decide))) (.ra hv44 o (.nil (.cb o h (fun _ h=>?_) fun _ h=>?_))))
           ·
            exact .skip (zb.j _ (za h))
           ·
            obtain⟨v15,hv46,h⟩:=zv h
            exact .rn mx (.c (.eqS .none (z6 Tryz.underlying9) (.s o) (.str (l:=[115,104,111,119]) (by decide))) (.ra hv46 o (.nil (zb.j _ (za h)))))
       ·
        subst hj38;have h:=hK38;clear hK38
        refine .cb o h (fun _ h=>?_) fun _ h=>?_
        ·
         refine .seq (.sn mx (.mv o (.ln zX o (.c (.lt .none (.s o) .i) (.nil (.cb o h (fun _ h=>?_) fun _ h=>?_))))))
         ·
          refine .sn mx (.c (.assign .none (.str (l:=[]) (by decide))) (.asi (.nil (.ret (.thenRet (.blkRet (.thenRet (.close (k:=130) (g:=131) (fun z=>zC 128 (⟨k1.now,⟨z⟩,k1.next⟩:yl)) o o o ?_))))))))
          obtain rfl:=za h
          exact zb.ret2O (.inl o) [130,131] Tryz.results16 (by decide) (.held o (.skip .nil)) (zt.tmp o trivial Imp.refl) (zt.tmp o trivial Imp.refl)
         ·
          refine .skip (.then (.seq ?_))
          cases h
        ·
         obtain⟨r4,hv49,h⟩:=bind_some h
         refine .skip (.blkNormal (.then (.sr [oo,oo,([130,131],[130,131]),oo,oo,oo,oo] mx (.mvA o (.mvA o (.cW (.cO [130,131] (zpO hv49) (.cons (.s o) (.cons (.s o) .nil)) (.cons (k:=130) o (.cons (k:=131) o .nil)) o) (.exA o o (.exA o o (.asnA o (.asnA o (.nil (.open (k:=130) (g:=5002) o o (fun s5002=>(.ret (.close (k:=130) (g:=5002) (fun z=>zC 128 (⟨r4.2.2.now,⟨z⟩,r4.2.2.next⟩:yl)) o o o ?_)))))))))))))))
         obtain rfl:=za h
         exact zb.ret2O (.inl o) [130,131] Tryz.results16 (by decide) (.held o (.skip .nil)) (zt.tmp o trivial Imp.refl) (zt.tmp o trivial Imp.refl)
theorem zpK {k1:zY}{r:Doc}  (h:zbJ k1=some r):zr Tryz.prog 17 [ref k1] (rep r):=by
 unfold zbJ at h
 obtain⟨v1,hv1,h⟩:=zv h
 obtain⟨r1,hv2,h⟩:=bind_some h
 refine zr.i Tryz.func17 o Tryz.ntmps17 o (fun F=>(.sr [([],[2])] mx (.al zc3 o (.nil (.reB (t:=2) o (congrArg (zC 25) hv1) (.nameBox (t:=2) (g:=5001) o o (fun m5001=>(.sr [oo,oo,oo,oo,oo,oo,([5001],[5001])] mx (.mvA o (.cA (.nilCheckR .none (.s o)) (.faA JE zrv o (.faA zgf zgo o (.ldA yX o (.cA (.call .none (zpQ hv2) (.cons (.s o) .nil)) (.s0 5001 yX o o o (.nil (.fb 5001 [2] o (.cons (t:=2) o trivial .nil) (.ret ?_))))))))))))))))))
 obtain rfl:=za h
 exact zb.ret1 (.inl o) Tryz.results17 (zt.cellR yX o trivial Imp.refl)
theorem zvR {d1:Doc}{old1:Doc}{l1:(List zz)}{r:Bool}  (h:zbs d1 old1 l1=some r):zr Tryz.prog 3 [rep d1,rep old1,rep l1] (rep r):=by
 unfold zbs at h
 obtain⟨r1,hv1,h⟩:=bind_some h
 refine zr.i Tryz.func3 o Tryz.ntmps3 o (fun F=>(.sn mx (.c (.box .none (.s o)) (.c (.box .none (.s o)) (.asb (.nil (.sn mx (.ld yX o (.mv o (.c (.call .none (zfU hv1) (.cons (.s o) (.cons (.s o) .nil))) (.mv o (.ex o o (.ex o o (.asn o (.asn o (.nil (.seq (.sn mx (.mv o (.nei o (.nil (.cb o h (fun _ h=>?_) fun _ h=>?_))))))))))))))))))))))
 ·
  refine .sn mx (.mv o (.c (.eqS .none (z6 Tryz.underlying9) (.s o) (.str (l:=[]) (by decide))) (.asn o (.nil (.ret (.thenRet ?_))))))
  obtain rfl:=za h
  exact zb.rt Tryz.results3 o
 ·
  obtain⟨r2,hv3,h⟩:=bind_some h
  obtain⟨r3,hv4,h⟩:=bind_some h
  obtain⟨r4,hv5,h⟩:=bind_some h
  refine .skip (.then (.sr [oo,oo,oo,oo,oo,oo,oo,([],[9]),([9],[9]),oo,oo,oo] mx (.mvA o (.cA (.call .none (zpP hv3) (.cons (.s o) .nil)) (.mvA o (.exA o o (.exA o o (.exA o o (.exA o o (.al zc3 o (.st yX o o o (.asnA o (.asnA o (.asnA o (.nil (.freeze (t:=9) o o zi.nil o (.sn mx (.ld yX o (.c (.call .none (zjy hv4) (.cons (.s o) .nil)) (.mv o (.ex o o (.ex o o (.asn o (.asn o (.nil (.seq (.sn mx (.mv o (.nei o (.mv o (.mg o o o (.c (.neI (.at o o) (.tmp o id) .i) (.po o o (.mv o (.mg o o o (.mg o o o (.c (.callIf (.at o o) zq0 (fun hg=>zuO ((fun hg=>vj hv5 ((zeA hg.2))) hg)) (.cons (.tmp o id) (.cons (.tmp o id) .nil)) (fun h=>h)) (.c (.not (.at o o) (.tmp o id)) (.po o o (.nil (.cb o h (fun _ h=>?_) fun _ h=>?_)))))))))))))))))))))))))))))))))))))))))
  ·
   refine .sn mx (.asb (.nil (.ret (.thenRet ?_))))
   obtain rfl:=za h
   exact zb.rt Tryz.results3 o
  ·
   obtain⟨r5,hv7,h⟩:=bind_some h
   refine .skip (.then (.sn mx (.ld yX o (.mv o (.c (.call .none (zfU hv7) (.cons (.s o) (.cons (.s o) .nil))) (.mv o (.ex o o (.ex o o (.asn o (.asn o (.nil (.seq (.sn mx (.mv o (.nei o (.mv o (.mg o o o (.mg o o o (.c (.neS (.at o o) (z6 Tryz.underlying9) (.tmp o id) (.tmp o id)) (.po o o (.nil (.cb o h (fun _ h=>?_) fun _ h=>?_))))))))))))))))))))))
   ·
    refine .sn mx (.asb (.nil (.ret (.thenRet ?_))))
    obtain rfl:=za h
    exact zb.rt Tryz.results3 o
   ·
    obtain⟨r6,hv9,h⟩:=bind_some h
    refine .skip (.then (.seq (.sn mx (.ld yX o (.c (.call .none (zjy hv9) (.cons (.s o) .nil)) (.mv o (.ex o o (.ex o o (.asn o (.asn o (.nil (.sn mx (.mv o (.eqi o (.nil ?_)))))))))))))))
    obtain⟨o_10,h,hK10⟩:=yN h
    refine .tJ (fun s=>o_10=Res.nx s) (.k2 2 3 o o (.k 7 o .nil)) zi.nil ?_ (fun j_10 hj10=>?_)
    ·
     refine .cb o h (fun _ h=>?_) fun _ h=>?_
     ·
      obtain⟨r7,hv12,h⟩:=bind_some h
      obtain⟨r8,hv13,h⟩:=bind_some h
      obtain⟨r9,hv14,h⟩:=bind_some h
      refine .sn mx (.mv o (.mv o (.c (.call .none (zqa hv12) (.cons (.s o) (.cons (.s o) .nil))) (.mv o (.ex o o (.ex o o (.asn o (.asn o (.nil (.sn mx (.mv o (.mv o (.c (.call .none (zp8 hv13) (.cons (.s o) (.cons (.s o) .nil))) (.mv o (.ex o o (.ex o o (.asn o (.asn o (.nil (.sn mx (.mv o (.nei o (.mv o (.mg o o o (.c (.neI (.at o o) (.tmp o id) .i) (.po o o (.mv o (.mg o o o (.mg o o o (.c (.callIf (.at o o) zqH (fun hg=>zvT ((fun hg=>vj hv14 ((zeA hg.2))) hg)) (.cons (.tmp o id) (.cons (.tmp o id) .nil)) (fun h=>h)) (.c (.not (.at o o) (.tmp o id)) (.po o o (.nil (.cb o h (fun _ h=>?_) fun _ h=>?_))))))))))))))))))))))))))))))))))
      ·
       refine .sn mx (.asb (.nil (.ret (.thenRet ?_))))
       replace h:=yk hK10 (za h)
       obtain rfl:=za h
       exact zb.rt Tryz.results3 o
      ·
       exact .skip (zb.j _ (za h))
     ·
      exact .skip (zb.j _ (za h))
    ·
     have h:=yO hK10 hj10
     obtain⟨r10,hv16,h⟩:=bind_some h
     refine .seq (.sn mx (.fa qt jp o (.ld qU o (.c (.call .none (zuL hv16) (.cons (.s o) (.cons (Opd.func (ι:=zl×Bool) (pre:=fun i=>zc1 i.1=some i.2) (Ss:=fun i=>[rep i.1]) (S:=fun i=>rep i.2) zqI (fun i h=>zvQ h)) .nil))) (.nil (.cb o h (fun _ h=>?_) fun _ h=>?_))))))
     ·
      refine .sn mx (.asb (.nil (.ret (.thenRet ?_))))
      obtain rfl:=za h
      exact zb.rt Tryz.results3 o
     ·
      obtain⟨r11,hv18,h⟩:=bind_some h
      obtain⟨r12,hv19,h⟩:=bind_some h
      refine .skip (.then (.sr [([],[107]),([107],[21,107])] mx (.cW (.cO [] zsI .nil .nil o) (.cW (.passRow o (.tmp o)) (.nil (.nameAt (t:=21) (g:=5001) o o zcg o (fun m5001=>(.nilKey (g:=5002) (T:=125) (α:=yh) o (.seq (.sn mx (.mv o (.c (.call .none (zvn hv18) (.cons (.s o) (.cons (.str (l:=[10]) (by decide)) .nil))) (.c (.call .none (zng hv19).frz (.cons (.s o) (.cons (.str (l:=[10]) (by decide)) .nil))) (.ln zX o (.mvi (.nil ?_))))))))))))))))
      obtain⟨o_20,h,hK20⟩:=yN h
      refine .thenJ (ι:=zY) (fun j_20=>[]) (fun j_20=>[(5001,some (zd.at (ptr m5001 0) (zQ (fun z0=>zC 128 (⟨j_20.now,⟨z0⟩,j_20.next⟩:yl)) (zp 125 j_20.past))))]) (fun s=>o_20=Res.nx s) (.k2 2 7 o o (.k 21 o .nil)) zi.nil ?_ (fun j_20 hj20=>?_)
      ·
       refine .block (.close (k:=5001) (g:=5002) (fun z=>zC 128 (⟨(⟨(⟨([]:(List zl)),([]:(List zA))⟩:Doc),([]:(List zz))⟩:yh),⟨z⟩,([]:(List yh))⟩:yl)) o o o (.rforEL h (fun p21_=>[(112,⟨True,rep p21_.1⟩)]) (fun p21_=>[(5001,some (zd.at (ptr m5001 0) (zQ (fun z0=>zC 128 (⟨p21_.2.now,⟨z0⟩,p21_.2.next⟩:yl)) (zp 125 p21_.2.past))))]) (.k 112 o .nil) (.k 5001 o .nil) (.k4 2 7 21 110 o o o o (.k 111 o .nil)) zi.nil (fun p21_ o_21 h hD21=>(.open (k:=5001) (g:=5003) o o (fun s5003=>(.sn mx (.lt o o (.nil (.seq (.cb o h (fun _ h=>?_) fun _ h=>?_))))))))))
       ·
        refine .skip (.then (.seq ?_))
        obtain⟨o_23,h,hK23⟩:=qg h
        unfold zc2 at h
        refine .thenJ (ι:=zY) (fun j_23=>[]) (fun j_23=>[(5001,some (zd.at (ptr m5001 0) (zQ (fun z0=>zC 128 (⟨j_23.now,⟨z0⟩,j_23.next⟩:yl)) (zp 125 j_23.past))))]) (fun s=>o_23=Res.nx s) (.k4 2 7 21 110 o o o o (.k2 111 112 o o .nil)) zi.nil ?_ (fun j_23 hj23=>?_)
        ·
         obtain⟨hn24,h⟩:=zn h
         obtain⟨s1,hv25,h⟩:=zv h
         refine .block (.sn mx (.ix zX ty9 o o hn24 (.ld ty9 o (.ra hv25 o (.nil (.seq (.sn mx (.mv o (.c (.eqS .none (z6 Tryz.underlying9) (.s o) (.str (l:=[]) (by decide))) (.nil (.cb o h (fun _ h=>?_) fun _ h=>?_)))))))))))
         ·
          exact .exit (.thenExit (.blkExit (.close (k:=5001) (g:=5003) (fun z=>zC 128 (⟨p21_.2.now,⟨z⟩,p21_.2.next⟩:yl)) o o o (zb.j _ (za h)))))
         ·
          obtain⟨r13,hv27,h⟩:=bind_some h
          refine .skip (.then (.sr [oo,oo,([5001,5003],[5001,5003]),oo,oo,oo,oo,oo] mx (.mvA o (.mvA o (.cW (.cO [5001,5003] (zpL hv27) (.cons (.s o) (.cons (.s o) .nil)) (.cons (k:=5001) o (.cons (k:=5003) o .nil)) o) (.mvA o (.exA o o (.exA o o (.asnA o (.asnA o (.nil (.open (k:=5001) (g:=5004) o o (fun s5004=>(.sn mx (.mv o (.nei o (.nil (.cb o h (fun _ h=>?_) fun _ h=>?_))))))))))))))))))
          ·
           refine .sn mx (.asb (.nil (.ret (.blkRet (.thenRet (.thenRet (.blkRet (.thenRet ?_))))))))
           replace h:=yM hK23 (za h)
           replace h:=hD21 _ (za h)
           replace h:=yk hK20 (za h)
           obtain rfl:=za h
           exact zb.rt Tryz.results3 o
          ·
           exact .skip (.blkNormal (.close (k:=5001) (g:=5004) (fun z=>zC 128 (⟨r13.2.2.now,⟨z⟩,r13.2.2.next⟩:yl)) o o o (zb.j _ (za h))))
        ·
         have h:=qh hK23 hj23
         exact .open (k:=5001) (g:=5005) o o (fun s5005=>(.rn mx (.adi o (.mv o (.nil (.close (k:=5001) (g:=5005) (fun z=>zC 128 (⟨j_23.now,⟨z⟩,j_23.next⟩:yl)) o o o (zb.ag (za h))))))))
       ·
        refine .exit (.thenExit (.thenExit (.blkExit (.close (k:=5001) (g:=5003) (fun z=>zC 128 (⟨p21_.2.now,⟨z⟩,p21_.2.next⟩:yl)) o o o ?_))))
        replace h:=hD21 _ (za h)
        exact zb.j _ (za h)
      ·
       have h:=yO hK20 hj20
       refine .freezeAt (g:=5001) (S:=ref ({ j_20 with past:=j_20.past }:zY)) (ts:=[21]) o (.cons (t:=21) o trivial .nil) zi.nil o (fun M D w h hms=>zjb (mk:=(fun s1_=>(⟨j_20.now,⟨s1_⟩,j_20.next⟩:yl))) (y:=({ j_20 with past:=j_20.past }:zY)) QE o (fun M s1_ cs w hc g1=>by obtain⟨c0,q0,e0,h0,c1,q1,e1,h1,h2⟩:=hc;exact⟨c0,q0,e0,h0,c1,q1,e1,vS o o h1 g1,h2⟩) M D w h hms) ?_
       obtain⟨r14,hv29,h⟩:=bind_some h
       obtain⟨r15,hv30,h⟩:=bind_some h
       refine .sn mx (.mv o (.c (.call .none (zpK hv29) (.cons (.s o) .nil)) (.mv o (.c (.call .none (zfU hv30) (.cons (.s o) (.cons (.s o) .nil))) (.mv o (.ex o o (.ex o o (.asn o (.asn o (.nil (.sn mx (.mv o (.eqi o (.mv o (.mg o o o (.mg o o o (.c (.eqS (.at o o) (z6 Tryz.underlying9) (.tmp o id) (.tmp o id)) (.pa o o (.asn o (.nil (.ret ?_)))))))))))))))))))))
       obtain rfl:=za h
       exact zb.rt Tryz.results3 o
end Go.Proofs.YtokamljonkipbaaGreatDoor
