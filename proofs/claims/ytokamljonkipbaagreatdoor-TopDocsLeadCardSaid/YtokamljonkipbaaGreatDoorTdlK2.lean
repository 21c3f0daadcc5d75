/- A part of the proof. -/
import Derived.Test.YtokamljonkipbaaGreatDoorTdlK1
import Derived.Laws.AppendOwn
import Derived.Laws.MakeOwn
import Derived.Laws.Slices
import Derived.Laws.StructEq
import Derived.Laws.Strings
import Derived.Laws.Strings2
import Derived.Scope
import Derived.Laws.IdiomStrings
import Derived.Maps.RangeRun
set_option linter.unusedSimpArgs false
set_option linter.unusedVariables false
namespace Go.DB
open Go Go.RowKit
def zio {α:Type}[Rep α](M D:zh)(T:TypeId)(l:List α)(a:Option Addr)(cap:Nat)(w:World):Prop:=
 match a with
 | none=>l=[]∧cap=0∧∀k,¬D k
 | some ad => ad.spot = none ∧ (∀ k, D k ↔ k = ad.block) ∧ M ad.block ∧
   ∃pre cs rest:List Value,qk w ad.block (pre++cs++rest) T (Rep.sz α)∧pre.length=ad.off∧zM M w l cs∧(cap - l.length)*Rep.sz α≤rest.length
def zp (T:TypeId){α:Type}[Rep α](l:List α):zd where
 p:=fun M D v w=>∃a cap,v = .slice a l.length cap∧l.length≤cap∧cap≤9223372036854775807∧zio M D T l a cap w
 inM:=fun M D v w ⟨a,cap,_,_,_,h⟩ k hk=>by
  cases a with
  | none=>exact absurd hk (h.2.2 k)
  | some ad=>exact(h.2.1 k).1 hk▸h.2.2.1
 law:=fun M M' D v w w' hk hm hown ⟨a,cap,hv,h1,h2,h⟩=>⟨a,cap,hv,h1,h2,by
  cases a with
  | none=>exact h
  | some ad=>
   obtain⟨hs,hD,hM,pre,cs,rest,hh,hp,he,hr⟩:=h
   obtain⟨g1,g2⟩:=hown ad.block ((hD _).2 rfl)
   exact⟨hs,hD,g1,pre,cs,rest,hh.to g2,hp,zM.law hk hm l cs he,hr⟩⟩
def ve (s:Value)(o:Nat):Value:=
 match s with
 | .slice (some ad) _ _=>ptr ad.block (ad.off+o)
 | _=>.pointer none
def qL (P:Program)(T E:TypeId)(α:Type)[Rep α]:Prop:=
 yK P T E∧Ty P E α∧(P.info? E).bind (fun i=>i.zero.map (fun z=>Nat.beq z.cells.size (Rep.sz α)&&Nat.ble i.bytes 4096))=some true
theorem qL.get {P:Program}{T E:TypeId}{α:Type}[Rep α](h:qL P T E α):∃i z,P.underlying T=some (.slice E)∧P.info? E=some i∧i.zero=some z∧i.size=Rep.sz α∧z.cells.size=Rep.sz α∧i.bytes≤4096:=by
 obtain⟨h1,h2,h3⟩:=h
 obtain⟨i,hi,h4⟩:=Option.bind_eq_some_iff.1 h3
 obtain⟨z,hz,h5⟩:=Option.map_eq_some_iff.1 h4
 obtain⟨i',hi',hs⟩:=Option.map_eq_some_iff.1 h2.size
 obtain rfl:i=i':=by rw[hi]at hi';simpa using hi'
 simp only[Bool.and_eq_true,Nat.beq_eq_true_eq,Nat.ble_eq]at h5
 exact⟨i,z,h1,hi,hz,hs,by simpa using h5.1,h5.2⟩
theorem zM.append {α:Type}[Rep α]{M:zh}{w:World}:∀(xs ys:List α) (cs ds:List Value),zM M w xs cs→zM M w ys ds→zM M w (xs++ys) (cs++ds)
 | [],_,_,_,h,k=>by rw[show _=[]from h];exact k
 | x::xs,ys,_,ds,⟨c,r,h,h1,h2⟩,k=>⟨c,r++ds,by rw[h,List.append_assoc],h1,zM.append xs ys r ds h2 k⟩
theorem zM.plain {α:Type}[Rep α]{M:zh}{w:World}:∀(xs:List α) (cs:List Value),zM M w xs cs→∀c∈cs,jf c=true
 | [],_,h,c,hc=>by rw[show _=[]from h]at hc;cases hc
 | x::xs,_,⟨c1,r,h,h1,h2⟩,c,hc=>by
  rw[h]at hc
  rcases List.mem_append.1 hc with hc | hc
  ·
   exact Rep.plain h1 c hc
  ·
   exact zM.plain xs r h2 c hc
theorem zM.take {α:Type}[Rep α]{M:zh}{w:World}:∀(xs:List α) (cs:List Value) (i:Nat),i≤xs.length→zM M w xs cs→zM M w (xs.take i) (cs.take (i*Rep.sz α))∧zM M w (xs.drop i) (cs.drop (i*Rep.sz α))
 | xs,cs,0,_,h=>by simp only[List.take_zero,Nat.zero_mul,List.drop_zero];exact⟨rfl,h⟩
 | x::xs,_,i+1,hi,⟨c,r,h,h1,h2⟩=>by
  obtain⟨h3,h4⟩:=zM.take xs r i (by simpa using hi) h2
  have hl:=Rep.len h1
  rw[h,show(i+1)*Rep.sz α=c.length+i*Rep.sz α by rw[hl,Nat.add_mul,Nat.one_mul];omega,List.take_length_add_append,List.drop_length_add_append]
  exact⟨⟨c,_,rfl,h1,h3⟩,h4⟩
theorem zM.set {α:Type}[Rep α]{M:zh}{w:World}:∀(xs:List α) (cs:List Value) (i:Nat) (x:α) (c:List Value),i<xs.length→zM M w xs cs→Rep.cells M x c w→
  zM M w (xs.set i x) (cs.take (i*Rep.sz α)++c++cs.drop (i*Rep.sz α+Rep.sz α))
 | y::xs,_,0,x,c,_,⟨c1,r,h,h1,h2⟩,hc=>by
  rw[Nat.zero_mul,List.take_zero,List.nil_append,Nat.zero_add,h,←Rep.len h1,List.drop_left]
  exact⟨c,r,rfl,hc,h2⟩
 | y::xs,_,i+1,x,c,hi,⟨c1,r,h,h1,h2⟩,hc=>by
  have ih:=zM.set xs r i x c (by simpa using hi) h2 hc
  have hl:=Rep.len h1
  refine⟨c1,_,?_,h1,ih⟩
  rw[h,show(i+1)*Rep.sz α=c1.length+i*Rep.sz α by rw[hl,Nat.add_mul,Nat.one_mul];omega,List.take_length_add_append,Nat.add_assoc,List.drop_length_add_append]
  simp
theorem j9.elems {α:Type}[Rep α]{M:zh}{w:World}:∀(l:List α) (ad:Addr),j9 M l (some ad) w→∃cs,zM M w l cs∧∀j u,cs[j]?=some u→w.cell? (ad.add j)=some u
 | [],_,_=>⟨[],rfl,fun j u h=>by simp at h⟩
 | x::l,ad,h=>by
  obtain⟨h1,h2,h3,c,hc,hr⟩:=h 0 (by simp)
  obtain⟨b,off,sp⟩:=ad
  simp only at h1 h2 h3 hr
  subst h1
  obtain⟨r,he,hj⟩:=j9.elems l ⟨b,off+Rep.sz α,none⟩ (fun i hi=>by
   obtain⟨_,_,_,c',hc',hr'⟩:=h (i+1) (by simpa using hi)
   refine⟨rfl,h2,h3,c',by simpa using hc',fun j hj=>?_⟩
   have:=hr' j hj
   simp only at this⊢
   rw[←this,Nat.add_mul]
   congr 2;omega)
  refine⟨c++r,⟨c,r,rfl,by simpa using hc,he⟩,fun j u hu=>?_⟩
  rw[qF]
  have hl:=Rep.len hc
  by_cases hj':j<Rep.sz α
  ·
   rw[List.getElem?_append_left (by omega)]at hu
   have:=hr j hj'
   simp only[Nat.zero_mul,Nat.add_zero]at this
   rw[this];exact hu
  ·
   rw[List.getElem?_append_right (by omega)]at hu
   have:=hj (j - c.length) u hu
   rw[qF]at this
   rw[←this,hl]
   congr 2;omega
def vb (L:zq)(B:zo)(x:Operand)(k:Nat)(C:zd):Prop:=
 (x = .tmp k∧zk B k=some C)∨∃s,Opd L True x (isV s)∧zk B k=some (zd.at s C)
theorem QD {a:Act}{t:Nat}:a.eval (.tmp t)=Act.val a t:=by
 unfold Act.val
 cases h:a.tmps[t]? with
 | none=>simp[Act.eval,h]
 | some v=>rw[Act.eval_tmp h];rfl
theorem vb.get {L:zq}{B:zo}{x:Operand}{k:Nat}{C:zd}(h:vb L B x k C){ts ks:List Nat}{M:zh}{D:Nat→zh}{a:Act}{w:World}
  (hs:vw ts M L a w) (hx:∀t,x = .tmp t→t∈ts) (hB:Jo ks M D B a w) (hk:k∈ks):C.p M (D k) (a.eval x) w∧∃C',zk B k=some C':=by
 rcases h with⟨rfl,hl⟩ | ⟨s,hx',hl⟩
 ·
  rw[QD];exact⟨hB.has k hk _ hl,_,hl⟩
 ·
  have:=(ya.1 (hx'.get hs hx trivial)).1
  rw[this]
  have:=hB.has k hk _ hl
  exact⟨this,_,hl⟩
theorem vb.tmp {L:zq}{B:zo}{k:Nat}{C:zd}(h:zk B k=some C):vb L B (.tmp k) k C:=.inl ⟨rfl,h⟩
theorem vb.told {L:zq}{B:zo}{x:Operand}{k:Nat}{s:Value}{C:zd}(hx:Opd L True x (isV s))(h:zk B k=some (zd.at s C)):vb L B x k C:=.inr ⟨s,hx,h⟩
section
variable {P:Program} {ops:Array Oper} {fs:Nat} {L:zq} {B:zo} {G:Prop}
variable {d:Option Tmp} {ty:TypeId} {pos:String} {after:Array Edge} {xr:List Nat}
theorem Yi {d k t:Nat}{C:Option zd}{c:zd}(h:zk [(d,C),(k,none)] t=some c):t=d∧C=some c:=by
 simp only[zk]at h
 by_cases h1:d=t
 ·
  subst h1
  have hb:Nat.beq d d=true:=by simp
  rw[hb,cond_true]at h
  exact⟨rfl,h⟩
 ·
  rw[yp h1,cond_false]at h
  by_cases h2:k=t
  ·
   subst h2;simp at h
  ·
   rw[yp h2]at h;cases h
theorem ze.doing {op:Op}{x:Aux}{E:Ent}{Ws:yL}(h:∀(M:zh) (D:Nat→zh) (a:Act) (w:World),a.tmps.size=fs→Low M w→
  vw ((⟨d,op,ty,pos,after,none⟩:Oper).looksAt ops++x.1) M L a w→Jo (x.1++x.2) M D B a w→zP P ⟨d,op,ty,pos,after,none⟩ a w (Leaves ⟨d,op,ty,pos,after,none⟩ B D x.2 E Ws M a w)):
  ze P ops fs ⟨d,op,ty,pos,after,none⟩ L B x E Ws:=by
 intro M D a w h1 h2 h3 h4
 have hw:Region.wanted (⟨d,op,ty,pos,after,none⟩:Oper) (yielded ops a.tmps)=true:=rfl
 rw[if_pos hw]
 exact h M D a w h1 h2 h3 h4
theorem Leaves.pass {o:Oper}{D:Nat→zh}{E:Ent}{M:zh}{a:Act}{w:World}{v:Value}{w':World}{d k:Nat}{C C0:zd}(M' Dd:zh)(hl:zk B k=some C0)
  (hk:zx (D k) w w') (h1:∀j,M j→M' j) (h2:∀j,M' j→M j∨w.heap.size≤j) (h3:∀j,M' j→j<w'.heap.size) (h4:E.holds M' v w') (h5:C.p M' Dd (Act.val (a.put o.dst v) d) w')
  (h6:∀j,Dd j→D k j∨w.heap.size≤j):Leaves o B D [d,k] E [(d,some C),(k,none)] M a w v w':=by
 have hm:∀j,D k j→qE [d,k] B D j:=fun j hj=>⟨k,by simp,C0,hl,hj⟩
 refine⟨M',fun _=>Dd,hk.mono (fun j _ h=>hm j h),fun j h=>.inl (h1 j h),h2,h3,h4,fun t c hc=>?_,fun t1 t2 c1 c2 hc1 hc2 hne=>?_⟩
 ·
  obtain⟨rfl,hc'⟩:=Yi (C:=some C) hc
  obtain rfl:C=c:=Option.some.inj hc'
  exact⟨h5,fun j hj=>(h6 j hj).imp (hm j) id⟩
 ·
  exact absurd ((Yi hc1).1.trans (Yi hc2).1.symm) hne
theorem ze.nilRow {d T:Nat}{α:Type}[Rep α](hd:Nat.blt d fs=true):ze P ops fs ⟨some d,.assign (.const (.slice none 0 0)),ty,pos,after,none⟩ L B ([],[d]) ⟨True,zV⟩ [(d,some (zp T ([]:List α)))]:=by
 refine .doing fun M D a w hsz hm _ _=>?_
 refine zP.value (v:=.slice none 0 0) (w':=w) rfl (.one M NoM (zx.refl _ _) (fun _ h=>h) (fun _ h=>.inl h) hm ⟨fun _=>trivial,fun hf=>(hf trivial).elim⟩ ?_ (fun k h=>h.elim))
 rw[qJ (by rw[hsz];exact Nat.le_of_ble_eq_true hd)]
 exact⟨none,0,rfl,Nat.le_refl _,by omega,rfl,rfl,fun k h=>h⟩
theorem ze.passRow {d k:Nat}{x:Operand}{C:zd}(hd:Nat.blt d fs=true)(hx:vb L B x k C):ze P ops fs ⟨some d,.assign x,ty,pos,after,none⟩ L B ([k],[d,k]) ⟨True,zV⟩ [(d,some C),(k,none)]:=by
 refine .doing fun M D a w hsz hm hs hsB=>?_
 obtain⟨hC,C0,hl⟩:=hx.get hs (fun t ht=>zB (by simp[Op.operands,ht])) hsB (by simp)
 refine zP.value (v:=a.eval x) (w':=w) rfl (.pass M (D k) hl (zx.refl _ _) (fun _ h=>h) (fun _ h=>.inl h) hm ⟨fun _=>trivial,fun hf=>(hf trivial).elim⟩ ?_ (fun j h=>.inl h))
 rw[qJ (by rw[hsz];exact Nat.le_of_ble_eq_true hd)]
 exact hC
theorem ze.lenO {x:Operand}{T E T' k:Nat}{α:Type}[Rep α]{l:List α}(hT:yK P T E)(hx:vb L B x k (zp T' l)):
  ze P ops fs ⟨d,.call { callee:=.builtin .len,args:=#[x],argTypes:=#[T] },ty,pos,after,none⟩ L B ([k],[]) ⟨True,rep (l.length:Int)⟩ []:=
 .of .none fun M D a w hm hs hsB hG=>by
  obtain⟨⟨ad,cap,hv,h1,h2,_⟩,_⟩:=hx.get hs (fun t ht=>zB (qM (by simp[ht]))) hsB (by simp)
  exact zP.value (zdN hT hv) ⟨zx.refl _ _,yz.2 ⟨rfl,by unfold InI;omega⟩⟩
theorem ztR {s T t:Nat}{i:TypeInfo}{w:World}{m off sLen sCap n:Nat}{xa:Option Addr}{xc:Nat}{news pre mid rest:List Value}{E:TypeId}(ht:P.underlying t=some (.slice E))(hi:P.info? E=some i)
  (hnews:(Builtin.firstCells i.size n (.slice xa n xc)).run P w = .ok news.toArray w) (hl:news.length=n*i.size) (h1:∀c∈news,jf c=true)
  (hroom:sLen+n≤sCap) (hpre:pre.length=off+sLen*i.size) (hmid:mid.length=news.length) (hh:qk w m (pre++mid++rest) T s):
  ∃w',(Builtin.append_ #[t,t] ty #[.slice (some ⟨m,off,none⟩) sLen sCap,.slice xa n xc]).run P w = .ok (.slice (some ⟨m,off,none⟩) (sLen+n) sCap) w'∧qk w' m (pre++news++rest) T s∧
   w'.os=w.os∧w'.tape=w.tape∧w'.output=w.output∧w'.heap.size=w.heap.size∧∀k,k≠m→w'.heap[k]?=w.heap[k]?:=by
 obtain⟨w',g1,g2⟩:=zmI (P:=P) (m:=m) (off:=off+sLen*i.size) (T:=T) news pre mid rest w 0 hmid h1 (by omega) hh
 refine⟨w',?_,g2⟩
 simp[Builtin.append_,run_underlying ht,sizeOf,typeInfo,hi,Builtin.lenOf,hroom,hnews,qF,g1]
theorem ztS {t:Nat}{i:TypeInfo}{w:World}{xa:Option Addr}{xc:Nat}{E:TypeId}{a:Option Addr}{sLen sCap:Nat}(ht:P.underlying t=some (.slice E))(hi:P.info? E=some i)
  (hroom:sLen≤sCap):(Builtin.append_ #[t,t] ty #[.slice a sLen sCap,.slice xa 0 xc]).run P w = .ok (.slice a sLen sCap) w:=by
 have hnews:(Builtin.firstCells i.size 0 (.slice xa 0 xc)).run P w = .ok #[] w:=by
  cases xa<;>simp[Builtin.firstCells,loadCells,loadCellsFrom]
 cases a<;>simp[Builtin.append_,run_underlying ht,sizeOf,typeInfo,hi,Builtin.lenOf,hroom,hnews,storeCells]
theorem zmy {t E:TypeId}{α:Type}[Rep α](hT:qL P t E α){M D:zh}{l xs:List α}{s x:Value}{w:World}(hm:∀k,M k→k<w.heap.size)(hs:(zp E l).p M D s w)(hx:(rep xs).p M x w)
  (hb:l.length+xs.length≤140737488355328) (hbb:∀i,P.info? E=some i→(l.length+xs.length)*i.bytes≤140737488355328):
  ∃v w' M' D',(Builtin.append_ #[t,t] ty #[s,x]).run P w = .ok v w'∧(zp E (l++xs)).p M' D' v w'∧zx D w w'∧(∀j,M j→M' j)∧(∀j,M' j→M j∨w.heap.size≤j)∧(∀j,M' j→j<w'.heap.size)∧
   (∀j,D' j→D j∨w.heap.size≤j):=by
 obtain⟨i,z,ht,hi,hz,hsz,hzs,hby⟩:=hT.get
 obtain⟨a,cap,rfl,hlc,hcm,ho⟩:=hs
 obtain⟨xa,xcap,rfl,hxc,_,hlx⟩:=Yq.1 hx
 have hspos:0<Rep.sz α:=Rep.pos
 have hnews:∃ns,zM M w xs ns∧(Builtin.firstCells i.size xs.length (.slice xa xs.length xcap)).run P w = .ok ns.toArray w∧ns.length=xs.length*i.size∧
   (∀ad,xa=some ad→∀j u,ns[j]?=some u→w.cell? (ad.add j)=some u)∧(xa=none→xs=[]):=by
  cases xa with
  | none=>
   have:xs=[]:=hlx
   subst this
   exact⟨[],rfl,rfl,by simp,(fun ad h=>by cases h),fun _=>rfl⟩
  | some ad=>
   obtain⟨cs,he,hj⟩:=j9.elems xs ad hlx
   have hcl:cs.length=xs.length*i.size:=by rw[he.len,hsz]
   exact⟨cs,he,run_firstCells_some w i.size xs.length ad xs.length xcap cs hcl hj,hcl,(fun ad' h=>by cases h;exact hj),(fun h=>by cases h)⟩
 obtain⟨ns,hne,hfc,hnl,hnj,hnn⟩:=hnews
 by_cases h0:xs=[]
 ·
  subst h0
  have hns:ns=[]:=hne
  subst hns
  refine⟨_,w,M,D,ztS ht hi hlc,?_,zx.refl _ _,fun _ h=>h,fun _ h=>.inl h,hm,fun _ h=>.inl h⟩
  rw[List.append_nil]
  exact⟨a,cap,rfl,hlc,hcm,ho⟩
 have hxpos:0<xs.length:=List.length_pos_iff.2 h0
 obtain⟨xad,rfl⟩:∃ad,xa=some ad:=by
  cases xa with
  | none=>exact absurd (hnn rfl) h0
  | some ad=>exact⟨ad,rfl⟩
 have hnj:=hnj xad rfl
 have grown:∀(cs:List Value) (old:Nat),zM M w l cs→old<l.length+xs.length→∀w',w'=w.drew.alloc (.cells (cs.toArray++ns.toArray++Builtin.zeroCells z.cells (grownCap w (l.length+xs.length) old E - (l.length+xs.length))) E)→
   (zp E (l++xs)).p (fun j=>M j∨j=w.heap.size) (fun j=>j=w.heap.size) (.slice (some ⟨w.heap.size,0,none⟩) (l.length+xs.length) (grownCap w (l.length+xs.length) old E)) w'∧zx D w w'∧
   (∀j,(M j∨j=w.heap.size)→j<w'.heap.size):=by
  intro cs old he ho w' hw'
  have hext:Ext w w':=by
   subst hw'
   exact zx.trans (Ext.drew w) (Ext.alloc w.drew _)
  have hsize:w'.heap.size=w.heap.size+1:=by subst hw';rw[jw];rfl
  have hge:=grownCap_ge w (l.length+xs.length) old E
  have hle:=grownCap_le_maxLen w (l.length+xs.length) old E (by simp only[maxLen];omega)
  have hkm:∀j,(M j∨j=w.heap.size)→M j∨w.heap.size≤j:=fun j h=>h.imp id (by omega)
  refine⟨⟨some ⟨w.heap.size,0,none⟩,_,by rw[List.length_append],by rw[List.length_append];exact hge,by simp only[maxLen]at hle;exact hle,rfl,fun j=>Iff.rfl,.inr rfl,[],cs++ns,
   (Builtin.zeroCells z.cells (grownCap w (l.length+xs.length) old E - (l.length+xs.length))).toList,?_,rfl,?_,?_⟩,hext.keeps,fun j h=>?_⟩
  ·
   subst hw'
   refine qk.of ?_
   show(w.drew.heap.push _)[w.heap.size]?=_
   rw[show w.heap.size=w.drew.heap.size from rfl,Array.getElem?_push_size]
   simp
  ·
   exact zM.append _ _ _ _ (zM.law hext.keeps hkm l cs he) (zM.law hext.keeps hkm xs ns hne)
  ·
   refine Nat.le_of_eq (Eq.symm ?_);rw[Array.length_toList,size_zeroCells,hzs,List.length_append]
  ·
   rw[hsize]
   rcases h with h | h
   ·
    have:=hm j h;omega
   ·
    omega
 have hbytes:(l.length+xs.length)*i.bytes≤140737488355328:=hbb i hi
 cases a with
 | none=>
  obtain⟨rfl,rfl,hD⟩:=ho
  have hr:=run_append_nil (P:=P) w t ty E i z ht hi hz xad xs.length xcap ns hnl hnj hxpos (by simp at hb;omega) (by simp at hbytes;omega)
  obtain⟨g1,g2,g3⟩:=grown [] 0 rfl (by simp;omega) _ rfl
  simp only[List.length_nil,Nat.zero_add,List.nil_append]at g1 g2 g3
  have e:∀c,(#[]++ns.toArray++c:Array Value)=ns.toArray++c:=by intro c;simp
  rw[e]at g1 g2 g3
  exact⟨_,_,_,_,hr,g1,g2,fun j h=>.inl h,fun j h=>h.imp id (by omega),g3,fun j h=>.inr (by omega)⟩
 | some ad=>
  obtain⟨hsp,hD,hM,pre,cs,rest,hh,hp,he,hrest⟩:=ho
  obtain⟨b,off,sp⟩:=ad
  simp only at hsp hD hM hh hp
  subst hsp
  have hcl:=he.len
  by_cases hroom:l.length+xs.length≤cap
  ·
   have hnl':ns.length≤rest.length:=by
    rw[hnl,hsz]
    exact Nat.le_trans (Nat.mul_le_mul_right _ (by omega)) hrest
   obtain⟨w',h1,h2,h3,h4,h5,h6,h7⟩:=ztR (P:=P) (ty:=ty) (T:=E) (m:=b) (off:=off) (sLen:=l.length) (sCap:=cap) (n:=xs.length) (pre:=pre++cs) (mid:=rest.take ns.length) (rest:=rest.drop ns.length) ht hi hfc hnl
    (zM.plain xs ns hne) hroom (by rw[List.length_append,hp,hcl,hsz]) (by rw[List.length_take];omega) (hh.re (by simp))
   have hkD:zx D w w':=⟨h3,h4,h5,by omega,fun k _ hn=>h7 k (fun e=>hn ((hD k).2 e))⟩
   have hkM:zx M w w':=⟨h3,h4,h5,by omega,fun k _ hn=>h7 k (fun e=>hn (e▸hM))⟩
   refine⟨_,w',M,D,h1,⟨some ⟨b,off,none⟩,cap,by rw[List.length_append],by rw[List.length_append];exact hroom,hcm,rfl,hD,hM,pre,cs++ns,rest.drop ns.length,h2.re (by simp),hp,?_,?_⟩,hkD,fun _ h=>h,fun _ h=>.inl h,
    fun j h=>by rw[h6];exact hm j h,fun _ h=>.inl h⟩
   ·
    exact zM.append _ _ _ _ (zM.law hkM (fun _ h=>.inl h) l cs he) (zM.law hkM (fun _ h=>.inl h) xs ns hne)
   ·
    rw[List.length_drop,hnl,hsz,List.length_append]
    have e:(cap - (l.length+xs.length))*Rep.sz α=(cap - l.length)*Rep.sz α - xs.length*Rep.sz α:=by rw[←Nat.sub_mul];congr 1;omega
    rw[e];omega
  ·
   have holds:∀j u,cs[j]?=some u→w.cell? ((⟨b,off,none⟩:Addr).add j)=some u:=by
    intro j u hu
    rw[qF,hh.cell,List.getElem?_toArray,List.append_assoc,List.getElem?_append_right (by omega),List.getElem?_append_left (by have:=(List.getElem?_eq_some_iff.1 hu).1;omega),hp]
    rw[←hu];congr 1;omega
   have hr:=run_append_grow (P:=P) w t ty E i z ht hi hz ⟨b,off,none⟩ l.length cap cs (by rw[hcl,hsz]) holds xad xs.length xcap ns hnl hnj (by omega) (by omega) (growslice_fits (by omega) hbytes)
   obtain⟨g1,g2,g3⟩:=grown cs cap he (by omega) _ rfl
   exact⟨_,_,_,_,hr,g1,g2,fun j h=>.inl h,fun j h=>h.imp id (by omega),g3,fun j h=>.inr (by omega)⟩
theorem ztQ {t E:TypeId}{α:Type}[Rep α](hT:qL P t E α){M D:zh}{l xs:List α}{s x:Value}{w:World}(hm:∀k,M k→k<w.heap.size)(hs:(zp E l).p M D s w)(hx:(rep xs).p M x w)
  (hb:l.length+xs.length≤1073741824):
  ∃v w' M' D',(Builtin.append_ #[t,t] ty #[s,x]).run P w = .ok v w'∧(zp E (l++xs)).p M' D' v w'∧zx D w w'∧(∀j,M j→M' j)∧(∀j,M' j→M j∨w.heap.size≤j)∧(∀j,M' j→j<w'.heap.size)∧
   (∀j,D' j→D j∨w.heap.size≤j):=by
 refine zmy hT hm hs hx (by omega) fun i hi=>?_
 obtain⟨i',_,_,hi',_,_,_,hby⟩:=hT.get
 obtain rfl:i'=i:=Option.some.inj (hi'.symm.trans hi)
 have:=Nat.mul_le_mul hb hby
 omega
theorem zjJ {ρ:Operand→Value}{s x:Operand}{t:Nat}{v:Value}{g:Option (Nat×Bool)}{w w':World}(h:(Builtin.append_ #[t,t] ty #[ρ s,ρ x]).run P w = .ok v w'):
  (execOp ρ ⟨d,.call { callee:=.builtin .append,args:=#[s,x],argTypes:=#[t,t] },ty,pos,after,g⟩).run P w = .ok (.value v) w':=by
 unfold execOp
 simp only[resolve,invoke,builtin,Sem.run_bind,Sem.run_pure,Result.andThen_ok,List.map_toArray,List.map_cons,List.map_nil,h]
theorem ze.append {d k:Nat}{s x:Operand}{t E:TypeId}{α:Type}[Rep α]{l xs:List α}(hT:qL P t E α)(hd:Nat.blt d fs=true)(hs:vb L B s k (zp E l))(hx:Opd L True x (rep xs))(hb:l.length+xs.length≤1073741824):
  ze P ops fs ⟨some d,.call { callee:=.builtin .append,args:=#[s,x],argTypes:=#[t,t] },ty,pos,after,none⟩ L B ([k],[d,k]) ⟨True,zV⟩ [(d,some (zp E (l++xs))),(k,none)]:=by
 refine .doing fun M D a w hsz hm hsat hsB=>?_
 obtain⟨hC,C0,hl⟩:=hs.get hsat (fun t ht=>zB (qM (by simp[ht]))) hsB (by simp)
 have hX:=hx.get hsat (fun t ht=>zB (qM (by simp[ht]))) trivial
 obtain⟨v,w',M',D',hr,h1,h2,h3,h4,h5,h6⟩:=ztQ (P:=P) (ty:=ty) hT hm hC hX hb
 refine zP.value (zjJ hr) (.pass M' D' hl h2 h3 h4 h5 ⟨fun _=>trivial,fun hf=>(hf trivial).elim⟩ ?_ h6)
 rw[qJ (by rw[hsz];exact Nat.le_of_ble_eq_true hd)]
 exact h1
theorem znL {α:Type}[Rep α]{z:α}{zs:List Value}{M:zh}{w:World}(hz:Rep.cells M z zs w):∀n,zM M w (List.replicate n z) ((List.range (n*Rep.sz α)).map fun j=>zs.toArray[j % zs.length]!)
 | 0=>by
  rw[Nat.zero_mul]
  exact rfl
 | n+1=>by
  have ih:=znL hz n
  have hl:=Rep.len hz
  have hp:0<Rep.sz α:=Rep.pos
  rw[List.replicate_succ]
  refine⟨zs,_,?_,hz,ih⟩
  rw[Nat.add_mul,Nat.one_mul,Nat.add_comm,List.range_add,List.map_append]
  congr 1
  ·
   refine List.ext_getElem? fun j=>?_
   by_cases hj:j<Rep.sz α
   ·
    rw[List.getElem?_map,List.getElem?_range hj,Option.map_some,hl,Nat.mod_eq_of_lt hj]
    have hjl:j<zs.length:=by omega
    simp[List.getElem?_eq_getElem hjl,getElem!_pos,hjl]
   ·
    rw[List.getElem?_eq_none (l:=zs) (by omega),List.getElem?_eq_none (by rw[List.length_map,List.length_range];omega)]
  ·
   rw[List.map_map]
   refine List.map_congr_left fun j _=>?_
   simp only[Function.comp]
   rw[hl,Nat.add_mod_left]
end
end Go.DB
namespace Go.DB
open Go Go.RowKit
section
variable {P:Program} {Q:Exit→Act→World→Prop} {n:Nat} {F:Fr} {L:zq} {B:zo}
theorem Cod.nameRow {c:Code}{t g T:Nat}{α:Type}[Rep α]{l:List α}(hl:zk B t=some (zp T l))(ht:Nat.blt t n=true)(hg:zk B g=none)
  (k:∀s,Cod P c Q n F ((t,⟨True,isV s⟩)::L) ((g,some (zd.at s (zp T l)))::(t,none)::B)):Cod P c Q n F L B:=by
 intro a w hs
 obtain⟨M,D,h⟩:=id hs
 have hC:=h.hasB t _ hl
 refine k (Act.val a t) a w ⟨M,_,h.rekey hl hg hC fun t' e he=>?_⟩
 simp only[zD]at he
 by_cases hne:t=t'
 ·
  subst hne
  simp at he;subst he
  have hlt:t<a.tmps.size:=by rw[h.size];exact Nat.le_of_ble_eq_true ht
  refine⟨Act.val a t,by unfold Act.val;simp[hlt],fun _=>?_,fun hf=>(hf trivial).elim⟩
  obtain⟨ad,cap,hv,_⟩:=hC
  rw[hv]
  exact ya.2 ⟨rfl,rfl,rfl⟩
 ·
  rw[yp hne,cond_false]at he;exact h.has t' e he
theorem Cod.anon {c:Code}{t g:Nat}{s:Value}{C:zd}{cd:Prop}(hl:zk B g=some (zd.at s C))(ht:zD L t=some ⟨cd,isV s⟩)(hc:cd)(hg:zk B t=none)
  (k:Cod P c Q n F L ((t,some C)::(g,none)::B)):Cod P c Q n F L B:=by
 intro a w hs
 obtain⟨M,D,h⟩:=id hs
 have hC:C.p M (D g) s w:=h.hasB g _ hl
 obtain⟨v,hv,he⟩:=h.has t _ ht
 obtain⟨rfl,_⟩:=ya.1 (he.1 hc)
 refine k a w ⟨M,_,h.rekey hl hg ?_ h.has⟩
 have:Act.val a t=v:=by unfold Act.val;rw[hv];rfl
 rw[this];exact hC
theorem zba {α:Type}[Rep α]{T:TypeId}{l:List α}(M D:zh)(w:World)(s:Value)(h:(zp T l).p M D s w)(hms:∀k,M k→k<w.heap.size):(rep l).p (fun k=>M k∧¬D k) s w:=by
 obtain⟨a,cap,rfl,h1,h2,h3⟩:=h
 refine Yq.2 ⟨a,cap,rfl,h1,h2,?_⟩
 cases a with
 | none=>exact h3.1
 | some ad=>
  obtain⟨hsp,hD,hM,pre,cs,rest,hh,hp,he,hr⟩:=h3
  intro i hi
  obtain⟨c,hc,hj⟩:=he.at l cs i hi
  refine⟨hsp,fun hf=>hf.2 ((hD _).2 rfl),hms _ hM,c,Rep.law (zx.refl M w) (fun k h=>.inl h.1) hc,fun j hjl=>?_⟩
  have hcl:=he.len
  have hlt:i*Rep.sz α+j<cs.length:=by
   rw[hcl]
   have:=Nat.mul_le_mul_right (Rep.sz α) (show i+1≤l.length by omega)
   rw[Nat.add_mul]at this;omega
  rw[←hj j hjl,hh.cell,List.getElem?_toArray,List.append_assoc,List.getElem?_append_right (by omega),List.getElem?_append_left (by omega),hp]
  congr 1;omega
theorem Cod.freezeRow {c:Code}{g T:Nat}{s:Value}{α:Type}[Rep α]{l:List α}{ts:List Nat}{B':zo}(hl:zk B g=some (zd.at s (zp T l)))(hts:QV L s ts)(hB:zi B B')(hn:yj B' g=false)
  (k:Cod P c Q n F (JG (rep l) ts L) B'):Cod P c Q n F L B:=
 Cod.freezeAt hl hts hB hn (fun M D w h hms=>zba M D w s h hms) k
end
section
variable {P:Program} {ops:Array Oper} {fs:Nat} {L:zq} {B:zo} {G:Prop}
variable {d:Option Tmp} {ty:TypeId} {pos:String} {after:Array Edge} {xr:List Nat} {g:Option (Nat×Bool)}
theorem ze.indexAddrO {T E E' k:Nat}{x i:Operand}{s:Value}{α:Type}[Rep α]{l:List α}{j:Int}(hg:zU ops g L G)(hT:yK P T E)(hE:Ty P E α)
  (hx:Opd L G x (isV s)) (hk:zk B k=some (zd.at s (zp E' l))) (hi:Opd L G i (rep j)) (hb:G→0≤j∧j<l.length):
  ze P ops fs ⟨d,.indexAddr T x i,ty,pos,after,g⟩ L B ([k],[]) ⟨G,isV (ve s (j.toNat*Rep.sz α+0))⟩ []:=
 .of hg fun M D a w _ hs hsB hG=>by
  have hv:=(ya.1 (hx.get hs (fun t ht=>zB (by simp[Op.operands,ht])) hG)).1
  obtain⟨ad,cap,rfl,hcap,_,hl⟩:=hsB.has k (by simp) _ hk
  obtain⟨hiv,_⟩:=yz.1 (hi.get hs (fun t ht=>zB (by simp[Op.operands,ht])) hG)
  obtain⟨h0,h1⟩:=hb hG
  cases ad with
  | none=>obtain⟨rfl,_⟩:=hl;simp at h1;omega
  | some ad=>
   obtain⟨blk,off,sp⟩:=ad
   obtain rfl:sp=none:=hl.1
   obtain⟨ti,hti,hsize⟩:=Option.map_eq_some_iff.1 hE.size
   have hsz:(sizeOf E).run P w = .ok (Rep.sz α) w:=by simp[sizeOf,typeInfo,hti,hsize,go_sem]
   have hun:(underlying T).run P w = .ok (.slice E) w:=by simp[underlying,show P.underlying T=_ from hT,go_sem]
   refine zP.value (v:=ptr blk (off+j.toNat*Rep.sz α)) (w':=w) ?_ ⟨zx.refl _ _,ya.2 ⟨by simp[ve],rfl,rfl⟩⟩
   simp only[execOp,hv,hiv,Instr.indexAt,asIntOf,Sem.run_bind,hun,Result.andThen,Sem.run_pure]
   rw[if_pos ⟨h0,h1⟩]
   simp only[Sem.run_bind,hsz,Result.andThen,Sem.run_pure,qF,ptr]
theorem zhs {α:Type}[Rep α]{M D:zh}{w:World}{s:Value}{T:TypeId}{l:List α}{j:Nat}(h:(zp T l).p M D s w)(hj:j<l.length):
  ∃b off cap pre cs rest,s = .slice (some ⟨b,off,none⟩) l.length cap∧l.length≤cap∧cap≤9223372036854775807∧(∀k,D k↔k=b)∧M b∧qk w b (pre++cs++rest) T (Rep.sz α)∧pre.length=off∧zM M w l cs∧
   (cap - l.length)*Rep.sz α≤rest.length:=by
 obtain⟨a,cap,rfl,h1,h2,h3⟩:=h
 cases a with
 | none=>obtain⟨rfl,_⟩:=h3;simp at hj
 | some ad=>
  obtain⟨b,off,sp⟩:=ad
  obtain⟨hsp,hD,hM,pre,cs,rest,hh,hp,he,hr⟩:=h3
  simp only at hsp
  subst hsp
  exact⟨b,off,cap,pre,cs,rest,rfl,h1,h2,hD,hM,hh,hp,he,hr⟩
theorem ze.fieldElem {S f o k off E':Nat}{x:Operand}{s:Value}{α:Type}[Rep α]{l:List α}{j:Int}(hg:zU ops g L G)(hF:yn P S f o)(hx:Opd L G x (isV (ve s (j.toNat*Rep.sz α+off))))
  (hk:zk B k=some (zd.at s (zp E' l))) (hb:G→0≤j∧j<l.length):
  ze P ops fs ⟨d,.fieldAddr S x f,ty,pos,after,g⟩ L B ([k],[]) ⟨G,isV (ve s (j.toNat*Rep.sz α+(off+o)))⟩ []:=
 .of hg fun M D a w _ hs hsB hG=>by
  obtain⟨b,of,cap,pre,cs,rest,rfl,_⟩:=zhs (j:=j.toNat) (show(zp E' l).p M (D k) s w from hsB.has k (by simp) _ hk) (by have:=hb hG;omega)
  have hv:a.eval x=ptr b (of+(j.toNat*Rep.sz α+off)):=(ya.1 (hx.get hs (fun t ht=>zB (by simp[Op.operands,ht])) hG)).1
  obtain⟨fds,fd,hu,hf,hoff,hsz0⟩:=hF
  obtain⟨i,hi,hne⟩:=zhI hsz0
  have hsz:(sizeOf fd.type).run P w = .ok i.size w:=by simp[sizeOf,typeInfo,hi,go_sem]
  have hpl:(fieldPlace ⟨b,of+(j.toNat*Rep.sz α+off),none⟩ fd).run P w = .ok ⟨b,of+(j.toNat*Rep.sz α+off)+o,none⟩ w:=by
   unfold fieldPlace
   rw[Sem.run_bind,hsz]
   simp only[Result.andThen,hne,if_false,Sem.run_pure,qF,hoff]
  have hun:(underlying S).run P w = .ok (.struct fds) w:=by simp[underlying,hu,go_sem]
  refine zP.value (v:=ptr b (of+(j.toNat*Rep.sz α+off)+o)) (w':=w) ?_ ⟨zx.refl _ _,ya.2 ⟨by simp only[ve,ptr];congr 3;omega,rfl,rfl⟩⟩
  simp only[execOp,hv,ptr,Instr.fieldAt,Instr.sureAddr,Sem.run_bind,hun,hf,Result.andThen,Sem.run_pure,hpl]
theorem ze.loadElem {T k off E':Nat}{x:Operand}{s:Value}{α β:Type}[Rep α][Rep β][Inhabited α]{proj:α→β}{l:List α}{j:Int}(hg:zU ops g L G)(hT:Ty P T β)
  (hx:Opd L G x (isV (ve s (j.toNat*Rep.sz α+off)))) (hk:zk B k=some (zd.at s (zp E' l))) (hH:zj α β off proj) (hb:G→0≤j∧j<l.length):
  ze P ops fs ⟨d,.load T x,ty,pos,after,g⟩ L B ([k],[]) ⟨G,rep (proj (gx l j))⟩ []:=
 .of hg fun M D a w _ hs hsB hG=>by
  obtain⟨h0,h1⟩:=hb hG
  have hlt:j.toNat<l.length:=by omega
  obtain⟨b,of,cap,pre,cs,rest,rfl,_,_,_,_,hh,hp,he,_⟩:=zhs (j:=j.toNat) (show(zp E' l).p M (D k) s w from hsB.has k (by simp) _ hk) hlt
  have hv:a.eval x=ptr b (of+(j.toNat*Rep.sz α+off)):=(ya.1 (hx.get hs (fun t ht=>zB (by simp[Op.operands,ht])) hG)).1
  obtain⟨c,hc,hj⟩:=he.at l cs j.toNat hlt
  obtain⟨fcs,hf,hfj⟩:=hH.2 M _ c w hc
  have hgx:gx l j=l[j.toNat]:=by simp[gx,List.getElem?_eq_getElem hlt]
  rw[hgx]
  refine zP.value (v:=mkv (Rep.agg β) fcs) (w':=w) ?_ ⟨zx.refl _ _,fcs,hf,rfl⟩
  have hcl:=he.len
  have:=zcM (P:=P) hT hf (w:=w) (b:=b) (off:=of+(j.toNat*Rep.sz α+off)) (fun i hi=>by
   have hle:=hH.1
   have hlt':j.toNat*Rep.sz α+(off+i)<cs.length:=by
    rw[hcl]
    have:=Nat.mul_le_mul_right (Rep.sz α) (show j.toNat+1≤l.length by omega)
    rw[Nat.add_mul]at this;omega
   rw[hfj i hi,←hj (off+i) (by omega),hh.cell,List.getElem?_toArray,List.append_assoc,List.getElem?_append_right (by omega),List.getElem?_append_left (by omega),hp]
   congr 1;omega)
  simp only[execOp,hv,ptr,Sem.run_bind,this,Result.andThen,Sem.run_pure]
theorem ze.storeElem {T k off E':Nat}{p x:Operand}{s:Value}{α β:Type}[Rep α][Rep β][Inhabited α]{set:α→β→α}{l:List α}{j:Int}{z:β}(hT:Ty P T β)
  (hp:Opd L True p (isV (ve s (j.toNat*Rep.sz α+off)))) (hk:zk B k=some (zd.at s (zp E' l))) (hF:zm α β off set) (hx:Opd L True x (rep z)) (hb:0≤j∧j<l.length):
  ze P ops fs ⟨none,.store T p x,ty,pos,after,none⟩ L B ([k],[k]) ⟨True,zV⟩ [(k,some (zd.at s (zp E' (l.set j.toNat (set (gx l j) z)))))]:=by
 refine .doing fun M D a w hsz hm hs hsB=>?_
 have hlt:j.toNat<l.length:=by omega
 obtain⟨b,of,cap,pre,cs,rest,rfl,hlc,hcm,hD,hM,hh,hpr,he,hrest⟩:=zhs (j:=j.toNat) (show(zp E' l).p M (D k) s w from hsB.has k (by simp) _ hk) hlt
 have hv:a.eval p=ptr b (of+(j.toNat*Rep.sz α+off)):=(ya.1 (hp.get hs (fun t ht=>zB (by simp[Op.operands,ht])) trivial)).1
 obtain⟨zs,hz,hxv⟩:=hx.get hs (fun t ht=>zB (by simp[Op.operands,ht])) trivial
 obtain⟨c,hc,hj⟩:=he.at l cs j.toNat hlt
 have hgx:gx l j=l[j.toNat]:=by simp[gx,List.getElem?_eq_getElem hlt]
 have hcl:=he.len
 have hce:=Rep.len hc
 have hle:=hF.1
 have hroom:j.toNat*Rep.sz α+Rep.sz α≤cs.length:=by
  rw[hcl]
  have:=Nat.mul_le_mul_right (Rep.sz α) (show j.toNat+1≤l.length by omega)
  rw[Nat.add_mul]at this;omega
 have hceq:c=(cs.drop (j.toNat*Rep.sz α)).take (Rep.sz α):=by
  refine List.ext_getElem? fun i=>?_
  by_cases hi:i<Rep.sz α
  ·
   rw[List.getElem?_take_of_lt hi,List.getElem?_drop,hj i hi]
  ·
   rw[List.getElem?_eq_none (by omega),List.getElem?_eq_none (by rw[List.length_take];omega)]
 have hsplit:cs=cs.take (j.toNat*Rep.sz α)++(c.take off++(c.drop off).take (Rep.sz β)++c.drop (off+Rep.sz β))++cs.drop (j.toNat*Rep.sz α+Rep.sz α):=by
  have h2:c.take off++(c.drop off).take (Rep.sz β)++c.drop (off+Rep.sz β)=c:=by
   rw[←List.drop_drop,List.append_assoc,List.take_append_drop,List.take_append_drop]
  rw[h2,hceq,←List.drop_drop,List.append_assoc,List.take_append_drop,List.take_append_drop]
 obtain⟨w',h1,h2,h3,h4,h5,h6,h7⟩:=zt4 (P:=P) (w:=w) (m:=b) (off:=of+(j.toNat*Rep.sz α+off)) (cs:=zs) (pre:=pre++cs.take (j.toNat*Rep.sz α)++c.take off) (mid:=(c.drop off).take (Rep.sz β))
  (rest:=c.drop (off+Rep.sz β)++cs.drop (j.toNat*Rep.sz α+Rep.sz α)++rest) hT (Rep.len hz)
  (by rw[List.length_take,List.length_drop];omega) (by rw[List.length_append,List.length_append,List.length_take,List.length_take];omega) (Rep.plain hz) (Rep.flat hz) (hh.re (by
   conv=>lhs;rw[hsplit]
   simp))
 have hkD:zx (D k) w w':=⟨h3,h4,h5,by omega,fun i _ hn=>h7 i (fun e=>hn ((hD i).2 e))⟩
 have hkM:zx M w w':=⟨h3,h4,h5,by omega,fun i _ hn=>h7 i (fun e=>hn (e▸hM))⟩
 refine zP.skip (w':=w') (Q7 (by rw[hv,hxv];exact h1)) rfl (.turn hk hkD (fun i h=>by rw[h6];exact hm i h) ⟨fun _=>trivial,fun hf=>(hf trivial).elim⟩ ?_)
 have hl':=Rep.law hkM (fun _ h=>.inl h) hc
 have hset:=hF.2 M l[j.toNat] z c zs w' hl' (Rep.law hkM (fun _ h=>.inl h) hz)
 have hel:=zM.set l cs j.toNat _ _ hlt (zM.law hkM (fun _ h=>.inl h) l cs he) hset
 refine⟨some ⟨b,of,none⟩,cap,by rw[List.length_set],by rw[List.length_set];exact hlc,hcm,rfl,hD,hM,pre,_,rest,?_,hpr,by rw[hgx];exact hel,by rw[List.length_set];exact hrest⟩
 exact h2.re (by simp)
theorem ze.loadElem0 {T k E':Nat}{x:Operand}{s:Value}{α:Type}[Rep α][Inhabited α]{l:List α}{j:Int}(hg:zU ops g L G)(hT:Ty P T α)
  (hx:Opd L G x (isV (ve s (j.toNat*Rep.sz α+0)))) (hk:zk B k=some (zd.at s (zp E' l))) (hb:G→0≤j∧j<l.length):
  ze P ops fs ⟨d,.load T x,ty,pos,after,g⟩ L B ([k],[]) ⟨G,rep (gx l j)⟩ []:=.loadElem (proj:=fun x=>x) hg hT hx hk .id hb
theorem ze.storeElem0 {T k E':Nat}{p x:Operand}{s:Value}{α:Type}[Rep α][Inhabited α]{l:List α}{j:Int}{z:α}(hT:Ty P T α)
  (hp:Opd L True p (isV (ve s (j.toNat*Rep.sz α+0)))) (hk:zk B k=some (zd.at s (zp E' l))) (hx:Opd L True x (rep z)) (hb:0≤j∧j<l.length):
  ze P ops fs ⟨none,.store T p x,ty,pos,after,none⟩ L B ([k],[k]) ⟨True,zV⟩ [(k,some (zd.at s (zp E' (l.set j.toNat z))))]:=.storeElem (set:=fun _ z=>z) hT hp hk .self hx hb
theorem ze.loadAt0 {T T' m k:Nat}{x:Operand}{α:Type}[Rep α]{y:α}(hg:zU ops g L G)(hT:Ty P T α)
  (hl:zk B k=some (yG m T' y)) (hx:Opd L G x (isV (ptr m 0))):ze P ops fs ⟨d,.load T x,ty,pos,after,g⟩ L B ([k],[]) ⟨G,rep y⟩ []:=.loadAt (proj:=fun x=>x) hg hT hl hx .id
theorem ze.storeAt0 {T T' m g:Nat}{p x:Operand}{α:Type}[Rep α]{y0 z:α}(hT:Ty P T α)(hl:zk B g=some (yG m T' y0))(hp:Opd L True p (isV (ptr m 0)))(hx:Opd L True x (rep z)):
  ze P ops fs ⟨none,.store T p x,ty,pos,after,none⟩ L B ([g],[g]) ⟨True,zV⟩ [(g,some (yG m T' z))]:=.storeAt (set:=fun _ z=>z) hT hl hp .self hx
theorem ze.passRowM {d k:Nat}{x:Operand}{C:zd}(hd:Nat.blt d fs=true)(hx:vb L B x k C):ze P ops fs ⟨some d,.move x,ty,pos,after,none⟩ L B ([k],[d,k]) ⟨True,zV⟩ [(d,some C),(k,none)]:=by
 refine .doing fun M D a w hsz hm hs hsB=>?_
 obtain⟨hC,C0,hl⟩:=hx.get hs (fun t ht=>zB (by simp[Op.operands,ht])) hsB (by simp)
 refine zP.value (v:=a.eval x) (w':=w) rfl (.pass M (D k) hl (zx.refl _ _) (fun _ h=>h) (fun _ h=>.inl h) hm ⟨fun _=>trivial,fun hf=>(hf trivial).elim⟩ ?_ (fun j h=>.inl h))
 rw[qJ (by rw[hsz];exact Nat.le_of_ble_eq_true hd)]
 exact hC
theorem ze.slice {T E:Nat}{x:Operand}{lo hi:Option Operand}{α:Type}[Rep α]{l:List α}{i j:Int}(hg:zU ops g L G)(hT:yK P T E)(hE:Ty P E α)(hx:Opd L G x (rep l))
  (hlo:match lo with | some o=>Opd L G o (rep i) | none=>i=0) (hhi:match hi with | some o=>Opd L G o (rep j) | none=>j=l.length) (hb:G→0≤i∧i≤j∧j≤l.length):
  ze P ops fs ⟨d,.slice T x lo hi none,ty,pos,after,g⟩ L B (xr,[]) ⟨G,rep ((l.take j.toNat).drop i.toNat)⟩ []:=
 .pure hg fun M a w _ hs hG=>by
  obtain⟨ad,cap,hv,hcap,hcm,hl⟩:=Yq.1 (hx.get hs (fun t ht=>zB (by simp[Op.operands,ht])) hG)
  obtain⟨h0,h1,h2⟩:=hb hG
  obtain⟨ti,hti,hsize⟩:=Option.map_eq_some_iff.1 hE.size
  have hTe:P.underlying T=some (.slice (P.elem T))∧P.elem T=E:=by
   have:P.elem T=E:=by unfold Program.elem;rw[show P.underlying T=_ from hT]
   exact⟨by rw[this];exact hT,this⟩
  have hsz:(sizeOf (P.elem T)).run P w = .ok (Rep.sz α) w:=by rw[hTe.2];simp[sizeOf,typeInfo,hti,hsize,go_sem]
  have hlov:(lo.map a.eval=none∧i=0)∨lo.map a.eval=some (.int .i64 i):=by
   cases lo with
   | none=>exact .inl ⟨rfl,hlo⟩
   | some o=>exact .inr (by rw[Option.map_some,(yz.1 (Opd.get hlo hs (fun t ht=>zB (by simp[Op.operands,ht])) hG)).1])
  have hhiv:(hi.map a.eval=none∧j=l.length)∨hi.map a.eval=some (.int .i64 j):=by
   cases hi with
   | none=>exact .inl ⟨rfl,hhi⟩
   | some o=>exact .inr (by rw[Option.map_some,(yz.1 (Opd.get hhi hs (fun t ht=>zB (by simp[Op.operands,ht])) hG)).1])
  have hrun:(Instr.sliceAt T (.slice ad l.length cap) (lo.map a.eval) (hi.map a.eval) none).run P w = .ok (sliced ad i.toNat j.toNat cap (Rep.sz α)) w:=by
   rw[run_sliceAt_slice (h:=hTe.1)]
   rcases hlov with⟨e1,rfl⟩ | e1<;>rcases hhiv with⟨e2,rfl⟩ | e2<;>rw[e1,e2]
   ·
    rw[run_slice_all w T ad l.length cap hTe.1,hsz];simp[Result.andThen]
   ·
    rw[run_slice_h w T ad l.length cap hTe.1 .i64 j (by omega) (by omega),hsz];simp[Result.andThen]
   ·
    rw[run_slice_l w T ad l.length cap hTe.1 .i64 i (by omega) (by omega),hsz];simp[Result.andThen]
   ·
    rw[run_slice_lh w T ad l.length cap hTe.1 .i64 .i64 i j (by omega) (by omega) (by omega),hsz];simp[Result.andThen]
  refine⟨sliced ad i.toNat j.toNat cap (Rep.sz α),?_,Yq.2 ⟨if cap=i.toNat then ad else ad.map (·.add (i.toNat*Rep.sz α)),cap - i.toNat,?_,?_,by omega,?_⟩⟩
  ·
   simp only[execOp,hv]
   rw[Sem.run_bind]
   simp only[Option.map]at hrun⊢
   rw[hrun];rfl
  ·
   simp only[sliced,List.length_drop,List.length_take]
   congr 1;omega
  ·
   simp only[List.length_drop,List.length_take];omega
  ·
   cases ad with
   | none=>
    have:l=[]:=hl
    subst this
    split<;>simp[j9]
   | some ad=>
    have key:∀ad':Addr,(∀q,q<((l.take j.toNat).drop i.toNat).length→ad'=⟨ad.block,ad.off+i.toNat*Rep.sz α,none⟩)→j9 M ((l.take j.toNat).drop i.toNat) (some ad') w:=by
     intro ad' hq q hql
     obtain rfl:=hq q hql
     have hql':i.toNat+q<l.length:=by simp only[List.length_drop,List.length_take]at hql;omega
     obtain⟨g1,g2,g3,cs,g4,g5⟩:=hl (i.toNat+q) hql'
     refine⟨rfl,g2,g3,cs,?_,fun k hk=>?_⟩
     ·
      simp only[List.getElem_drop,List.getElem_take];exact g4
     ·
      rw[←g5 k hk]
      have:ad.spot=none:=g1
      simp only[Nat.add_mul]
      congr 2;omega
    have hspot:∀q,q<((l.take j.toNat).drop i.toNat).length→ad.spot=none:=fun q hq=>(hl (i.toNat+q) (by simp only[List.length_drop,List.length_take]at hq;omega)).1
    split
    ·
     rename_i he
     refine key ad fun q hq=>?_
     simp only[List.length_drop,List.length_take]at hq
     omega
    ·
     refine key _ fun q hq=>?_
     have:=hspot q hq
     obtain⟨b,off,sp⟩:=ad
     simp only at this
     subst this
     exact qF _ _ _
end
section
variable {P:Program} {Q:Exit→Act→World→Prop} {n:Nat} {F:Fr} {L:zq} {B:zo}
theorem Cod.freezeKey {c:Code}{t:Nat}{C:zd}{S:zF}{B':zo}(hl:zk B t=some C)(ht:Nat.blt t n=true)(hB:zi B B')(hn:yj B' t=false)
  (hS:∀(M D:zh) (w:World) (s:Value),C.p M D s w→(∀k,M k→k<w.heap.size)→S.p (fun k=>M k∧¬D k) s w) (k:Cod P c Q n F ((t,⟨True,S⟩)::L) B'):Cod P c Q n F L B:=by
 intro a w hs
 obtain⟨M,D,h⟩:=id hs
 have hC:=h.hasB t _ hl
 refine k a w ⟨_,D,h.free hl hB hn fun t' e he=>?_⟩
 have hlow:∀k,(M k∧¬D t k)→M k∨w.heap.size≤k:=fun k h=>.inl h.1
 simp only[zD]at he
 by_cases hne:t=t'
 ·
  subst hne
  simp at he;subst he
  have hlt:t<a.tmps.size:=by rw[h.size];exact Nat.le_of_ble_eq_true ht
  exact⟨Act.val a t,by unfold Act.val;simp[hlt],fun _=>hS M (D t) w _ hC h.msub,fun hf=>(hf trivial).elim⟩
 ·
  rw[yp hne,cond_false]at he
  obtain⟨v',h1,h2⟩:=h.has t' e he
  exact⟨v',h1,Ent.holds_law (zx.refl M w) hlow h2⟩
theorem Cod.freezeRowA {c:Code}{t T:Nat}{α:Type}[Rep α]{l:List α}{B':zo}(hl:zk B t=some (zp T l))(ht:Nat.blt t n=true)(hB:zi B B')(hn:yj B' t=false)
  (k:Cod P c Q n F ((t,⟨True,rep l⟩)::L) B'):Cod P c Q n F L B:=
 Cod.freezeKey hl ht hB hn (fun M D w s h hms=>zba M D w s h hms) k
theorem Cod.freezeBox {c:Code}{g T m:Nat}{α:Type}[Rep α]{y:α}{ts:List Nat}{B':zo}(hl:zk B g=some (yG m T y))(hts:QV L (ptr m 0) ts)(hB:zi B B')(hn:yj B' g=false)
  (k:Cod P c Q n F (JG (ref y) ts L) B'):Cod P c Q n F L B:=
 Cod.freezeAt hl hts hB hn (fun M D w h hms=>zi2 h hms) k
theorem zb.anon {e:Exit}{t g:Nat}{s:Value}{C:zd}{cd:Prop}(hl:zk B g=some (zd.at s C))(ht:zD L t=some ⟨cd,isV s⟩)(hc:cd)(hg:zk B t=none)
  (k:zb Q e n F L ((t,some C)::(g,none)::B)):zb Q e n F L B:=by
 intro a w hs
 obtain⟨M,D,h⟩:=id hs
 have hC:C.p M (D g) s w:=h.hasB g _ hl
 obtain⟨v,hv,he⟩:=h.has t _ ht
 obtain⟨rfl,_⟩:=ya.1 (he.1 hc)
 refine k a w ⟨M,_,h.rekey hl hg ?_ h.has⟩
 have:Act.val a t=v:=by unfold Act.val;rw[hv];rfl
 rw[this];exact hC
theorem zb.join {ι:Type}{Ls:ι→zq}{Bs:ι→zo}{prop:ι→Prop}{keep:zq}{keepB:zo}(j:ι)(hp:prop j)(h:Sub L (Ls j++keep))(hB:zi B (Bs j++keepB)):
  zb (Exit.then (fun a w=>∃j,prop j∧Sat n F (Ls j++keep) (Bs j++keepB) a w) Q) .normal n F L B:=fun _ _ hs=>⟨j,hp,hs.weaken h hB⟩
end
end Go.DB
namespace Go.DB
open Go Go.RowKit
inductive vZ (B:zo):List Nat→jh→Prop
 | nil:vZ B [] []
 | cons {k ks s c Os}:zk B k=some (zd.at s c)→vZ B ks Os→vZ B (k::ks) ((s,c)::Os)
theorem vZ.length {B:zo}:∀{ks:List Nat} {Os:jh},vZ B ks Os→ks.length=Os.length
 | _,_,.nil=>rfl
 | _,_,.cons _ h=>by simp[h.length]
theorem vZ.at {B:zo}:∀{ks:List Nat} {Os:jh},vZ B ks Os→∀(i:Nat) (s:Value) (c:zd),Os[i]?=some (s,c)→∃k,ks[i]?=some k∧zk B k=some (zd.at s c)
 | _,_,.nil,i,s,c,h=>by simp at h
 | _,_,.cons h1 _,0,s,c,h=>by
  simp at h
  obtain⟨rfl,rfl⟩:=h
  exact⟨_,rfl,h1⟩
 | _,_,.cons _ h2,i+1,s,c,h=>by
  obtain⟨k,h3,h4⟩:=h2.at i s c (by simpa using h)
  exact⟨k,by simpa using h3,h4⟩
def j5:List Value→List Nat→Option Nat→List (Option zd)→yL
 | s::an,k::ks,d,some c::outs=>(k,some (zd.at s c))::j5 an ks d outs
 | _::an,k::ks,d,none::outs=>(k,none)::j5 an ks d outs
 | [],[],some d,[o]=>[(d,o)]
 | _,_,_,_=>[]
theorem zeD:∀(an:List Value) (ks:List Nat) (d:Option Nat) (outs:List (Option zd)) (t:Nat) (c:zd),zk (j5 an ks d outs) t=some c→
  ∃i c0,outs[i]?=some (some c0)∧((∃s,an[i]?=some s∧ks[i]?=some t∧c=zd.at s c0)∨(i=an.length∧i=ks.length∧d=some t∧c=c0))
 | s::an,k::ks,d,some c1::outs,t,c,h=>by
  simp only[j5,zk]at h
  by_cases he:k=t
  ·
   subst he;simp at h;subst h
   exact⟨0,c1,rfl,.inl ⟨s,rfl,rfl,rfl⟩⟩
  ·
   rw[yp he,cond_false]at h
   obtain⟨i,c0,h1,h2⟩:=zeD an ks d outs t c h
   refine⟨i+1,c0,by simpa using h1,?_⟩
   rcases h2 with⟨s',a1,a2,a3⟩ | ⟨a1,a2,a3⟩
   ·
    exact .inl ⟨s',by simpa using a1,by simpa using a2,a3⟩
   ·
    exact .inr ⟨by simp[a1],by simp[a2],a3⟩
 | s::an,k::ks,d,none::outs,t,c,h=>by
  simp only[j5,zk]at h
  by_cases he:k=t
  ·
   subst he;simp at h
  ·
   rw[yp he,cond_false]at h
   obtain⟨i,c0,h1,h2⟩:=zeD an ks d outs t c h
   refine⟨i+1,c0,by simpa using h1,?_⟩
   rcases h2 with⟨s',a1,a2,a3⟩ | ⟨a1,a2,a3⟩
   ·
    exact .inl ⟨s',by simpa using a1,by simpa using a2,a3⟩
   ·
    exact .inr ⟨by simp[a1],by simp[a2],a3⟩
 | [],[],some d,[o],t,c,h=>by
  simp only[j5,zk]at h
  by_cases he:d=t
  ·
   subst he
   simp at h;subst h
   exact⟨0,c,rfl,.inr ⟨rfl,rfl,rfl,rfl⟩⟩
  ·
   rw[yp he]at h;cases h
 | [],[],none,_,t,c,h=>by simp[j5,zk]at h
 | [],[],some d,[],t,c,h=>by simp[j5,zk]at h
 | [],[],some d,_::_::_,t,c,h=>by simp[j5,zk]at h
 | [],_::_,_,_,t,c,h=>by simp[j5,zk]at h
 | _::_,[],_,_,t,c,h=>by simp[j5,zk]at h
 | _::_,_::_,_,[],t,c,h=>by simp[j5,zk]at h
section
variable {P:Program} {ops:Array Oper} {fs:Nat} {L:zq} {B:zo} {G:Prop}
variable {ty:TypeId} {pos:String} {after:Array Edge}
theorem zP.enterO {o:Oper}{a:Act}{w:World}{f:Nat}{vs:List Value}{R:Ending→World→Prop}{R':Value→World→Prop}(hr:(execOp a.eval o).run P w = .ok (.enter f vs.toArray) w)
  (h:Calls P f vs.toArray w R) (hR:∀e w',R e w'→∃v,e = .returned v∧R' v w'):zP P o a w R':=by
 unfold zP Oper.wp
 rw[hr]
 refine Calls.mono h fun e w' he=>?_
 obtain⟨v,rfl,hv⟩:=hR e w' he
 exact⟨v,rfl,hv⟩
theorem Leaves.call {o:Oper}{M:zh}{D:Nat→zh}{a:Act}{w:World}{xs ks:List Nat}{Os:jh}{S:zF}{outs:List (Option zd)}{W:Nat×Option zd}{Ws:yL}{v:Value}{w':World}
  (hH:vZ B ks Os) (hW:j5 (Os.map (·.1)) ks o.dst outs=W::Ws) (hxs:∀k∈ks,k∈xs) (hnd:(ks++o.dst.toList).Nodup) (hsz:∀d,o.dst=some d→d<a.tmps.size)
  (h:ji ⟨w,M,DU (fun i=>D ((ks[i]?).getD 0)) Os.length⟩ S (Os.map (·.1)) outs (.returned v) w'):Leaves o B D xs ⟨True,S⟩ (W::Ws) M a w v w':=by
 obtain⟨v',M',D',hv,hk,hml,hmh,hms,hS,hC,hA⟩:=h
 obtain rfl:v=v':=by simpa using hv
 have hlen:=hH.length
 have mine:∀k,DU (fun i=>D ((ks[i]?).getD 0)) Os.length k→qE xs B D k:=by
  rintro k ⟨i,hi,hd⟩
  obtain⟨s,c,hsc⟩:∃s c,Os[i]?=some (s,c):=⟨_,_,List.getElem?_eq_getElem hi⟩
  obtain⟨t,ht,hl⟩:=hH.at i s c hsc
  simp only[ht,Option.getD_some]at hd
  exact⟨t,hxs t (List.mem_of_getElem? ht),_,hl,hd⟩
 let ix:Nat→Nat:=fun t=>(ks++o.dst.toList).idxOf t
 have ixk:∀i t,(ks++o.dst.toList)[i]?=some t→ix t=i:=by
  intro i t ht
  have hm:t∈ks++o.dst.toList:=List.mem_of_getElem? ht
  have h1:(ks++o.dst.toList)[ix t]?=some t:=by
   have hlt:=List.idxOf_lt_length_iff.2 hm
   rw[List.getElem?_eq_getElem hlt]
   simp only[Option.some.injEq]
   exact List.getElem_idxOf hlt
  exact zgV hnd h1 ht
 have at_:∀t c,zk (W::Ws) t=some c→∃c0,outs[ix t]?=some (some c0)∧∀M D w,c0.p M D ((((Os.map (·.1))++[v])[ix t]?).getD undef) w→c.p M D (Act.val (a.put o.dst v) t) w:=by
  intro t c hc
  rw[←hW]at hc
  obtain⟨i,c0,h1,h2⟩:=zeD _ _ _ _ _ _ hc
  rcases h2 with⟨s,a1,a2,rfl⟩ | ⟨a1,a2,a3,rfl⟩
  ·
   have hit:ix t=i:=ixk i t (by rw[List.getElem?_append_left (List.getElem?_eq_some_iff.1 a2).1];exact a2)
   rw[hit]
   refine⟨c0,h1,fun M D w hp=>?_⟩
   rw[List.getElem?_append_left (List.getElem?_eq_some_iff.1 a1).1,a1,Option.getD_some]at hp
   exact hp
  ·
   have hit:ix t=i:=ixk i t (by rw[a2,List.getElem?_append_right (Nat.le_refl _),a3];simp)
   rw[hit]
   refine⟨c,h1,fun M D w hp=>?_⟩
   rw[a1,List.getElem?_concat_length,Option.getD_some]at hp
   rw[a3,qJ (hsz t a3)]
   exact hp
 refine⟨M',fun t=>D' (ix t),hk.mono (fun k _ h=>mine k h),fun k h=>(hml k h).imp id (mine k),hmh,hms,⟨fun _=>hS,fun hf=>(hf trivial).elim⟩,fun t c hc=>?_,fun t1 t2 c1 c2 h1 h2 hne=>?_⟩
 ·
  obtain⟨c0,h1,h2⟩:=at_ t c hc
  obtain⟨h3,h4⟩:=hC _ _ h1
  exact⟨h2 _ _ _ h3,fun k hk=>(h4 k hk).imp (mine k) id⟩
 ·
  obtain⟨c1',g1,_⟩:=at_ t1 c1 h1
  obtain⟨c2',g2,_⟩:=at_ t2 c2 h2
  refine hA (ix t1) (ix t2) c1' c2' g1 g2 (fun e=>hne ?_)
  have m1:∀t c,zk (W::Ws) t=some c→(ks++o.dst.toList)[ix t]?=some t:=by
   intro t c hc
   rw[←hW]at hc
   obtain⟨i,c0,_,h2⟩:=zeD _ _ _ _ _ _ hc
   have hm:t∈ks++o.dst.toList:=by
    rcases h2 with⟨s,_,a2,_⟩ | ⟨_,_,a3,_⟩
    ·
     exact List.mem_append_left _ (List.mem_of_getElem? a2)
    ·
     exact List.mem_append_right _ (by rw[a3];simp)
   have hlt:=List.idxOf_lt_length_iff.2 hm
   rw[List.getElem?_eq_getElem hlt]
   simp only[Option.some.injEq]
   exact List.getElem_idxOf hlt
  have e1:=m1 t1 c1 h1
  have e2:=m1 t2 c2 h2
  rw[e]at e1
  rw[e1]at e2
  exact Option.some.inj e2
theorem zdc.of {M:zh}{D:Nat→zh}{a:Act}{w:World}{xr ks:List Nat}{Os:jh}(hH:vZ B ks Os)(hnd:ks.Nodup)(hsB:Jo xr M D B a w)(hx:∀k∈ks,k∈xr):zdc M (fun i=>D ((ks[i]?).getD 0)) w Os:=by
 refine⟨fun i s c h=>?_,fun i j x y hi hj hne k h1 h2=>?_⟩
 ·
  obtain⟨k,hk,hl⟩:=hH.at i s c h
  have:=hsB.has k (hx k (List.mem_of_getElem? hk)) _ hl
  simp only[hk,Option.getD_some]
  exact this
 ·
  obtain⟨s,c⟩:=x
  obtain⟨s',c'⟩:=y
  obtain⟨k1,hk1,hl1⟩:=hH.at i s c hi
  obtain⟨k2,hk2,hl2⟩:=hH.at j s' c' hj
  simp only[hk1,hk2,Option.getD_some]at h1 h2
  refine hsB.apart k1 (hx k1 (List.mem_of_getElem? hk1)) k2 (hx k2 (List.mem_of_getElem? hk2)) _ _ hl1 hl2 (fun e=>?_) k h1 h2
  subst e
  exact hne (zgV hnd hk1 hk2)
theorem ze.callO {d:Option Nat}{f:Nat}{xs:Array Operand}{ts:Array TypeId}{Ss:List zF}{Os:jh}{S:zF}{outs:List (Option zd)}{W:Nat×Option zd}{Ws:yL}{xk:List Nat}(ks:List Nat)(hspec:zS P f Ss Os S outs)
  (hx:jL L True xs.toList Ss) (hH:vZ B ks Os) (hW:j5 (Os.map (·.1)) ks d outs=W::Ws) (hnd:(ks++d.toList).Nodup) (hxk:∀k∈ks,k∈xk) (hd:∀d',d=some d'→d'<fs):
  ze P ops fs ⟨d,.call { callee:=.value (.func f),args:=xs,argTypes:=ts },ty,pos,after,none⟩ L B (ks,xk) ⟨True,S⟩ (W::Ws):=
 .doing fun M D a w hsz hm hs hsB=>by
  have ha:=hx.get hs (fun x hxm t ht=>zB (qM (by subst ht;simpa using hxm))) trivial
  have hr:(execOp a.eval ⟨d,.call { callee:=.value (.func f),args:=xs,argTypes:=ts },ty,pos,after,none⟩).run P w = .ok (.enter f (xs.toList.map a.eval).toArray) w:=by
   rw[show(xs.toList.map a.eval).toArray=xs.map a.eval++#[]by rw[Array.append_empty,←List.map_toArray]]
   exact zdM hspec.ok rfl
  have hnd':ks.Nodup:=(List.nodup_append.1 hnd).1
  refine zP.enterO hr (hspec.calls M _ w _ hm ha (zdc.of hH hnd' hsB (fun k hk=>List.mem_append_left _ hk))) fun e w' he=>?_
  obtain⟨v,M',D',rfl,rest⟩:=he
  exact⟨v,rfl,.call hH hW hxk hnd (fun d' h=>by rw[hsz];exact hd d' h) ⟨v,M',D',rfl,rest⟩⟩
end
end Go.DB
namespace Go.DB
open Go Go.RowKit
inductive zN (σ ρ:Type) where
 | again (s:σ)
 | done (e:ρ)
inductive Res (σ ρ:Type) where
 | nx (s:σ)
 | ab (r:ρ)
def bnd {α β:Type}(e:α)(k:α→Option β):Option β:=k e
open Classical in
noncomputable def zg {β:Type}(c:Prop)(k:Option β):Option β:=if c then k else none
def gd {α:Type}[Inhabited α](b:Bool)(m:Option α):Option α:=bif b then m else some default
def inR {α:Type}(l:List α)(k:Int):Prop:=0≤k∧k<l.length
def qd (n:Nat):Prop:=n≤1073741824
def seg {α:Type}(l:List α)(i j:Int):List α:=(l.take j.toNat).drop i.toNat
def y3 (n:Nat)(i j:Int):Prop:=0≤i∧i≤j∧j≤n
def jg {σ ρ:Type}(body:σ→Option (zN σ ρ)):Nat→σ→Option ρ
 | 0,_=>none
 | n+1,s=>match body s with
  | none=>none
  | some (.again s')=>jg body n s'
  | some (.done e)=>some e
open Classical in
noncomputable def loop {σ ρ:Type}(body:σ→Option (zN σ ρ))(s:σ):Option ρ:=
 if h:∃e n,jg body n s=some e then some h.choose else none
theorem zn {β:Type}{c:Prop}{k:Option β}{r:β}(h:zg c k=some r):c∧k=some r:=by
 unfold zg at h
 by_cases hc:c
 ·
  rw[if_pos hc]at h;exact⟨hc,h⟩
 ·
  rw[if_neg hc]at h;cases h
theorem zsG {β:Type}{c:Prop}{k:Option β}(h:c):zg c k=k:=by unfold zg;rw[if_pos h]
theorem zv {α β:Type}{e:α}{k:α→Option β}{r:β}(h:bnd e k=some r):∃v,v=e∧k v=some r:=⟨e,rfl,h⟩
theorem bind_some {α β:Type}{m:Option α}{k:α→Option β}{r:β}(h:m.bind k=some r):∃v,m=some v∧k v=some r:=Option.bind_eq_some_iff.1 h
theorem zoS {β:Type}{b:Bool}{x y:Option β}{r:Option β}(h:(bif b then x else y)=r)(hb:b=true):x=r:=by subst hb;exact h
theorem zoR {β:Type}{b:Bool}{x y:Option β}{r:Option β}(h:(bif b then x else y)=r)(hb:b=false):y=r:=by subst hb;exact h
theorem vj {α:Type}[Inhabited α]{b:Bool}{m:Option α}{r:α}(h:gd b m=some r)(hb:b=true):m=some r:=by subst hb;exact h
theorem za {α:Type}{x y:α}(h:some x=some y):y=x:=(Option.some.inj h).symm
theorem zgF {σ ρ:Type}{body:σ→Option (zN σ ρ)}:∀{n m:Nat} {s:σ} {e:ρ},jg body n s=some e→n≤m→jg body m s=some e
 | 0,_,_,_,h,_=>by simp[jg]at h
 | n+1,0,_,_,_,h=>by omega
 | n+1,m+1,s,e,h,hm=>by
  simp only[jg]at h⊢
  cases hb:body s with
  | none=>rw[hb]at h;cases h
  | some x=>
   rw[hb]at h
   cases x with
   | again s'=>exact zgF (n:=n) h (by omega)
   | done e'=>exact h
theorem JT {σ ρ:Type}{body:σ→Option (zN σ ρ)}{s:σ}{e:ρ}:loop body s=some e↔∃n,jg body n s=some e:=by
 unfold loop
 constructor
 ·
  intro h
  by_cases hx:∃e n,jg body n s=some e
  ·
   rw[dif_pos hx]at h
   obtain⟨n,hn⟩:=hx.choose_spec
   rw[Option.some.inj h]at hn
   exact⟨n,hn⟩
  ·
   rw[dif_neg hx]at h;cases h
 ·
  rintro⟨n,hn⟩
  have hx:∃e n,jg body n s=some e:=⟨e,n,hn⟩
  rw[dif_pos hx]
  obtain⟨m,hm⟩:=hx.choose_spec
  have h1:=zgF hm (Nat.le_max_left m n)
  have h2:=zgF hn (Nat.le_max_right m n)
  rw[h1]at h2
  exact h2
theorem Yj {σ ρ:Type}(body:σ→Option (zN σ ρ))(s:σ):loop body s=match body s with
  | none=>none
  | some (.again s')=>loop body s'
  | some (.done e)=>some e:=by
 cases hb:body s with
 | none=>
  cases hl:loop body s with
  | none=>rfl
  | some e=>
   obtain⟨n,hn⟩:=JT.1 hl
   cases n with
   | zero=>simp[jg]at hn
   | succ n=>simp[jg,hb]at hn
 | some x=>
  cases x with
  | done e=>exact JT.2 ⟨1,by simp[jg,hb]⟩
  | again s'=>
   simp only
   cases hl:loop body s' with
   | some e=>
    obtain⟨n,hn⟩:=JT.1 hl
    exact JT.2 ⟨n+1,by simp[jg,hb,hn]⟩
   | none=>
    cases hl':loop body s with
    | none=>rfl
    | some e=>
     obtain⟨n,hn⟩:=JT.1 hl'
     cases n with
     | zero=>simp[jg]at hn
     | succ n=>
      simp only[jg,hb]at hn
      rw[JT.2 ⟨n,hn⟩]at hl;cases hl
noncomputable def z7 {σ O:Type}(n:Int)(step:Int→σ→Option (Res σ O))(fin:σ→O)(s0:σ):Option O:=
 loop (fun p:Int×σ=>bif decide (p.1<n)then(step p.1 p.2).bind (fun r=>match r with
  | .nx s'=>some (.again (W (p.1+1),s'))
  | .ab e=>some (.done e))else some (.done (fin p.2))) (0,s0)
noncomputable def yV {σ:Type}(n:Int)(step:Int→σ→Option σ)(s0:σ):Option σ:=
 loop (fun p:Int×σ=>bif decide (p.1<n)then(step p.1 p.2).bind (fun s'=>some (.again (W (p.1+1),s')))else some (.done p.2)) (0,s0)
def jW {α β:Type}(b:(α→Option β)→α→Option β):Nat→α→Option β
 | 0=>fun _=>none
 | n+1=>b (jW b n)
open Classical in
noncomputable def zaF {α β:Type}(b:(α→Option β)→α→Option β)(a:α):Option β:=
 if h:∃r N,∀n,N≤n→jW b n a=some r then some h.choose else none
theorem zqG {α β:Type}{b:(α→Option β)→α→Option β}{a:α}{r:β}(h:zaF b a=some r):∃n,jW b n a=some r:=by
 unfold zaF at h
 by_cases hx:∃r N,∀n,N≤n→jW b n a=some r
 ·
  rw[dif_pos hx]at h
  obtain⟨N,hN⟩:=hx.choose_spec
  rw[Option.some.inj h]at hN
  exact⟨N,hN N (Nat.le_refl _)⟩
 ·
  rw[dif_neg hx]at h;cases h
theorem zgi {α β:Type}{b:(α→Option β)→α→Option β}{a:α}{r:β}(N:Nat)(h:∀n,N≤n→jW b n a=some r):zaF b a=some r:=by
 unfold zaF
 have hx:∃r N,∀n,N≤n→jW b n a=some r:=⟨r,N,h⟩
 rw[dif_pos hx]
 obtain⟨M,hM⟩:=hx.choose_spec
 have h1:=hM (max M N) (Nat.le_max_left _ _)
 rw[h _ (Nat.le_max_right _ _)]at h1
 exact h1.symm
abbrev fn1 (P:Program){α β:Type}[Rep α](S:β→zF)(f:α→Option β):zF:=fnv P (ι:=α×β) (fun i=>f i.1=some i.2) (fun i=>[rep i.1]) (fun i=>S i.2)
abbrev fn2 (P:Program){α α' β:Type}[Rep α][Rep α'](S:β→zF)(f:α→α'→Option β):zF:=fnv P (ι:=α×α'×β) (fun i=>f i.1 i.2.1=some i.2.2) (fun i=>[rep i.1,rep i.2.1]) (fun i=>S i.2.2)
abbrev zfl {α β:Type}[Rep α][Rep β](r:α×β):zF:=tup [rep r.1,rep r.2]
section
variable {P:Program} {ops:Array Oper} {fs:Nat} {L:zq} {B:zo} {G:Prop}
theorem ze.re {o:Oper}{x:Aux}{α:Type}[Rep α]{e v:α}{Ws:yL}(hv:v=e)(h:ze P ops fs o L B x ⟨G,rep e⟩ Ws):ze P ops fs o L B x ⟨G,rep v⟩ Ws:=hv▸h
class Flat (α:Type) [Rep α]:Prop where
 cells:∀{M M':zh} {x:α} {cs:List Value} {w:World},Rep.cells M x cs w→Rep.cells M' x cs w
instance:Flat Int:=⟨fun h=>h⟩
instance:Flat Bool:=⟨fun h=>h⟩
instance {α β:Type} [Rep α] [Rep β] [Flat α] [Flat β]:Flat (α×β):=⟨fun⟨c1,c2,h,h1,h2⟩=>⟨c1,c2,h,Flat.cells h1,Flat.cells h2⟩⟩
theorem Flat.via {α β:Type}[r:Rep β][Flat β](f:α→β):@Flat α (Rep.via f):=@Flat.mk α (Rep.via f) (fun h=>Flat.cells (α:=β) h)
theorem zeW {S:zF}{M M':zh}{v:Value}{w:World}(h:S.p M v w)(hm:∀k,M' k→M k):S.p M' v w:=S.law M M' v w w (zx.refl _ _) (fun k hk=>.inl (hm k hk)) h
variable {d:Option Tmp} {ty:TypeId} {pos:String} {after:Array Edge} {g:Option (Nat×Bool)}
end
section
variable {P:Program} {Q:Exit→Act→World→Prop} {n:Nat} {F:Fr} {L:zq} {B:zo}
theorem Cod.loopL {c:Code}{σ ρ:Type}{body:σ→Option (zN σ ρ)}{s0:σ}{e:ρ}(he:Go.DB.loop body s0=some e)(Ls:σ→zq)(Bs:σ→zo){keep:zq}{keepB:zo}
  (h0:Sub L (Ls s0)) (hB0:zi B (Bs s0)) (hk:Sub L keep) (hkB:zi B keepB)
  (round:∀s o,body s=some o→(∀e',o = .done e'→some e'=some e)→Cod P c (Exit.then (fun a w=>∃s',o = .again s'∧Sat n F (Ls s'++keep) (Bs s'++keepB) a w) Q) n F (Ls s++keep) (Bs s++keepB)):
  Cod P (.loop c) Q n F L B:=by
 obtain⟨m,hm⟩:=JT.1 he
 refine Cod.loop (ι:={ p:σ×Nat // jg body p.2 p.1=some e }) (fun p=>Ls p.1.1++keep) (fun p=>Bs p.1.1++keepB) (fun p=>p.1.2) ⟨(s0,m),hm⟩ (h0.append hk) (hB0.append hkB) ?_
 rintro⟨⟨s,k⟩,hi⟩
 cases k with
 | zero=>simp[jg]at hi
 | succ k=>
  simp only[jg]at hi
  cases hb:body s with
  | none=>rw[hb]at hi;cases hi
  | some o=>
   rw[hb]at hi
   have hr:=round s o hb (fun e' ho=>by subst ho;exact hi)
   intro a w hs
   refine wp_mono (hr a w hs) (fun x a w hq=>?_)
   cases x with
   | normal=>
    obtain⟨s',ho,h3⟩:=hq
    subst ho
    exact⟨⟨(s',k),hi⟩,Nat.lt_succ_self k,h3⟩
   | _=>exact hq
theorem zb.againL {σ ρ:Type}{o:zN σ ρ}{Ls:σ→zq}{Bs:σ→zo}{keep:zq}{keepB:zo}{s':σ}(ho:o = .again s')(h:Sub L (Ls s'++keep))(hB:zi B (Bs s'++keepB)):
  zb (Exit.then (fun a w=>∃s',o = .again s'∧Sat n F (Ls s'++keep) (Bs s'++keepB) a w) Q) .normal n F L B:=fun _ _ hs=>⟨s',ho,hs.weaken h hB⟩
end
section
variable {P:Program} {ops:Array Oper} {fs:Nat} {L:zq} {B:zo} {G:Prop}
variable {d:Option Tmp} {ty:TypeId} {pos:String} {after:Array Edge} {g:Option (Nat×Bool)} {xr:List Nat}
inductive YA {α:Type} [Rep α] (pl:List (Nat×Nat)):α→List Nat→List zF→α→Prop
 | nil {x}:YA pl x [] [] x
 | cons {x i is off Ss y} {β:Type} [Rep β] {z:β} {set:α→β→α}:pl[i]?=some (off,Rep.sz β)→zm α β off set→YA pl (set x z) is Ss y→YA pl x (i::is) (rep z::Ss) y
theorem zkd (off:Nat):∀(vs:List Value) (pre mid rest:List Value) (j:Nat),mid.length=vs.length→pre.length=off+j→
  (vs.zipIdx j).foldl (fun(cs:Array Value) (p:Value×Nat)=>cs.setIfInBounds (off+p.2) p.1) (pre++mid++rest).toArray=(pre++vs++rest).toArray
 | [],pre,mid,rest,j,hl,_=>by
  have:mid=[]:=List.length_eq_zero_iff.1 hl
  subst this;rfl
 | v::vs,pre,m::mid,rest,j,hl,hp=>by
  simp only[List.zipIdx_cons,List.foldl_cons]
  have h1:(pre++m::mid++rest).toArray.setIfInBounds (off+j) v=((pre++[v])++mid++rest).toArray:=by
   rw[←hp]
   apply Array.ext'
   simp
  rw[h1,zkd off vs (pre++[v]) mid rest (j+1) (by simpa using hl) (by simp[hp];omega)]
  simp
theorem YA.run {α:Type}[Rep α]{pl:List (Nat×Nat)}{x y:α}{is:List Nat}{Ss:List zF}(h:YA pl x is Ss y){M:zh}{w:World}:∀{zs vs:List Value},Rep.cells M x zs w→qK M w Ss vs→
  ∃cs,Instr.fill (pl.toArray[·]?) zs.toArray (is.zip vs)=some cs.toArray∧Rep.cells M y cs w:=by
 induction h with
 | nil=>intro zs vs hz ha;exact⟨zs,by simp[Instr.fill],hz⟩
 | @cons x i is off Ss y β _ z set hi hF _ ih=>
  intro zs vs hz ha
  match vs,ha with
  | v::vs,ha=>
   obtain⟨⟨zc,hzc,rfl⟩,ha⟩:=ha
   have hfl:=Rep.flat hzc
   have hlz:=Rep.len hzc
   have hlx:=Rep.len hz
   have hle:=hF.1
   have hsplit:zs=zs.take off++(zs.drop off).take (Rep.sz β)++zs.drop (off+Rep.sz β):=by
    rw[←List.drop_drop,List.append_assoc,List.take_append_drop,List.take_append_drop]
   obtain⟨cs,h1,h2⟩:=ih (hF.2 M x z zs zc w hz hzc) ha
   refine⟨cs,?_,h2⟩
   rw[List.zip_cons_cons,Instr.fill]
   simp only[List.getElem?_toArray,hi,hfl]
   rw[if_neg (by simp[hlz,hlx];omega)]
   have key:=zkd off zc (zs.take off) ((zs.drop off).take (Rep.sz β)) (zs.drop (off+Rep.sz β)) 0 (by rw[List.length_take,List.length_drop];omega) (by rw[List.length_take];omega)
   rw[←hsplit]at key
   have key2:zc.toArray.zipIdx.foldl (fun(cs:Array Value) (p:Value×Nat)=>cs.setIfInBounds (off+p.2) p.1) zs.toArray=(zs.take off++zc++zs.drop (off+Rep.sz β)).toArray:=by
    rw[←key,←Array.foldl_toList,Array.toList_zipIdx]
   have h1':=h1
   simp only[List.getElem?_toArray]at h1'
   rw[←h1',←key2]
theorem ze.buildF {T:Nat}{α:Type}[Rep α]{parts:Array (Nat×Operand)}{x0 y:α}{zero:List Value}{places:List (Nat×Nat)}{Ss:List zF}(hg:zU ops g L G)(hb:jI P T zero places)(hz:∀M w,Rep.cells M x0 zero w)(hagg:Rep.agg α=true)
  (hx:jL L G (parts.toList.map (·.2)) Ss) (hf:YA places x0 (parts.toList.map (·.1)) Ss y):
  ze P ops fs ⟨d,.build T parts,ty,pos,after,g⟩ L B (xr,[]) ⟨G,rep y⟩ []:=
 .build hg hb hx hagg (fun M w vs ha=>hf.run (hz M w) ha)
end
end Go.DB
namespace Go.DB
open Go Go.RowKit
def zeX {σ ρ:Type}(o:Res σ ρ)(k:σ→Option ρ):Option ρ:=match o with
 | .nx s=>k s
 | .ab r=>some r
def yc {σ ρ:Type}(m:Option (Res σ ρ))(k:σ→Option ρ):Option ρ:=m.bind (fun o=>zeX o k)
def za8 {σ τ ρ:Type}(o:Res σ ρ)(k:σ→Option (zN τ ρ)):Option (zN τ ρ):=match o with
 | .nx s=>k s
 | .ab r=>some (.done r)
def YF {σ τ ρ:Type}(m:Option (Res σ ρ))(k:σ→Option (zN τ ρ)):Option (zN τ ρ):=m.bind (fun o=>za8 o k)
theorem yN {σ ρ:Type}{m:Option (Res σ ρ)}{k:σ→Option ρ}{r:ρ}(h:yc m k=some r):∃o,m=some o∧zeX o k=some r:=bind_some h
theorem qg {σ τ ρ:Type}{m:Option (Res σ ρ)}{k:σ→Option (zN τ ρ)}{r:zN τ ρ}(h:YF m k=some r):∃o,m=some o∧za8 o k=some r:=bind_some h
theorem yO {σ ρ:Type}{o:Res σ ρ}{k:σ→Option ρ}{r:Option ρ}{s:σ}(h:zeX o k=r)(ho:o = .nx s):k s=r:=by subst ho;exact h
theorem yk {σ ρ:Type}{o:Res σ ρ}{k:σ→Option ρ}{r:Option ρ}{s:ρ}(h:zeX o k=r)(ho:o = .ab s):some s=r:=by subst ho;exact h
theorem qh {σ τ ρ:Type}{o:Res σ ρ}{k:σ→Option (zN τ ρ)}{r:Option (zN τ ρ)}{s:σ}(h:za8 o k=r)(ho:o = .nx s):k s=r:=by subst ho;exact h
theorem yM {σ τ ρ:Type}{o:Res σ ρ}{k:σ→Option (zN τ ρ)}{r:Option (zN τ ρ)}{s:ρ}(h:za8 o k=r)(ho:o = .ab s):some (.done s)=r:=by subst ho;exact h
theorem zmq {σ O:Type}{n:Int}{step:Int→σ→Option (Res σ O)}{fin:σ→O}{s0:σ}:
  z7 n step fin s0=loop (fun p:Int×σ=>bif decide (p.1<n)then YF (step p.1 p.2) (fun s'=>some (.again (W (p.1+1),s')))else some (.done (fin p.2))) (0,s0):=by
 rfl
section
variable {P:Program} {Q:Exit→Act→World→Prop} {n:Nat} {F:Fr} {L:zq} {B:zo}
theorem Cod.rforL {c:Code}{σ:Type}{m:Int}{step:Int→σ→Option σ}{s0 e:σ}(he:yV m step s0=some e)(Ls:Int×σ→zq)(Bs:Int×σ→zo){keep:zq}{keepB:zo}
  (h0:Sub L (Ls (0,s0))) (hB0:zi B (Bs (0,s0))) (hk:Sub L keep) (hkB:zi B keepB)
  (round:∀(p:Int×σ) (o:zN (Int×σ) σ),(bif decide (p.1<m)then(step p.1 p.2).bind (fun s'=>some (.again (W (p.1+1),s')))else some (.done p.2))=some o→(∀e',o = .done e'→some e'=some e)→
   Cod P c (Exit.then (fun a w=>∃s',o = .again s'∧Sat n F (Ls s'++keep) (Bs s'++keepB) a w) Q) n F (Ls p++keep) (Bs p++keepB)):Cod P (.loop c) Q n F L B:=
 Cod.loopL he Ls Bs h0 hB0 hk hkB round
theorem Cod.rforEL {c:Code}{σ O:Type}{m:Int}{step:Int→σ→Option (Res σ O)}{fin:σ→O}{s0:σ}{e:O}(he:z7 m step fin s0=some e)(Ls:Int×σ→zq)(Bs:Int×σ→zo){keep:zq}{keepB:zo}
  (h0:Sub L (Ls (0,s0))) (hB0:zi B (Bs (0,s0))) (hk:Sub L keep) (hkB:zi B keepB)
  (round:∀(p:Int×σ) (o:zN (Int×σ) O),(bif decide (p.1<m)then YF (step p.1 p.2) (fun s'=>some (.again (W (p.1+1),s')))else some (.done (fin p.2)))=some o→(∀e',o = .done e'→some e'=some e)→
   Cod P c (Exit.then (fun a w=>∃s',o = .again s'∧Sat n F (Ls s'++keep) (Bs s'++keepB) a w) Q) n F (Ls p++keep) (Bs p++keepB)):Cod P (.loop c) Q n F L B:=
 Cod.loopL (zmq.symm.trans he) Ls Bs h0 hB0 hk hkB round
theorem Cod.thenJ {x y:Code}{ι:Type}(Ls:ι→zq)(Bs:ι→zo)(prop:ι→Prop){keep:zq}{keepB:zo}(hk:Sub L keep)(hkB:zi B keepB)
  (h:Cod P x (Exit.then (fun a w=>∃j,prop j∧Sat n F (Ls j++keep) (Bs j++keepB) a w) Q) n F L B)
  (k:∀i,prop i→Cod P y Q n F (Ls i++keep) (Bs i++keepB)):Cod P x (Exit.then (y.wp P Q) Q) n F L B:=fun a w hs=>wp_mono (h a w hs) (fun e a w hq=>by
 cases e with
 | normal=>obtain⟨j,h1,h2⟩:=hq;exact k j h1 a w h2
 | _=>exact hq)
theorem zsf {t:Nat}{C:Option zd}{t':Nat}:zk ((t,C)::B) t'=if t=t' then C else zk B t':=by
 simp only[zk]
 by_cases h:t=t'
 ·
  subst h;simp
 ·
  rw[yp h,if_neg h];rfl
theorem Cod.reB {c:Code}{t:Nat}{C C':zd}(hl:zk B t=some C)(hC:C'=C)(k:Cod P c Q n F L ((t,some C')::B)):Cod P c Q n F L B:=by
 refine Cod.weaken (fun _ _ h=>h) (fun t' c' h=>?_) k
 rw[zsf]at h
 by_cases he:t=t'
 ·
  subst he;rw[if_pos rfl]at h;rw[hl,←hC];exact h
 ·
  rw[if_neg he]at h;exact h
variable {e:Exit}
end
def qP (s:Value)(i j:Int)(sz:Nat):Value:=match s with
 | .slice ad _ cap=>sliced ad i.toNat j.toNat cap sz
 | _=>s
section
variable {P:Program} {ops:Array Oper} {fs:Nat} {L:zq} {B:zo} {G:Prop}
variable {d:Option Tmp} {ty:TypeId} {pos:String} {after:Array Edge} {g:Option (Nat×Bool)} {xr:List Nat}
theorem zmE {T E:Nat}{α:Type}[Rep α]{ad:Option Addr}{m cap:Nat}{lo hi:Option Value}{i j:Int}{w:World}(hT:yK P T E)(hE:Ty P E α)(hb:y3 m i j)(hc:m≤cap)
  (hlov:(lo=none∧i=0)∨lo=some (.int .i64 i)) (hhiv:(hi=none∧j=m)∨hi=some (.int .i64 j)):
  (Instr.sliceAt T (.slice ad m cap) lo hi none).run P w = .ok (sliced ad i.toNat j.toNat cap (Rep.sz α)) w:=by
 obtain⟨h0,h1,h2⟩:=hb
 obtain⟨ti,hti,hsize⟩:=Option.map_eq_some_iff.1 hE.size
 have hTe:P.underlying T=some (.slice (P.elem T))∧P.elem T=E:=by
  have:P.elem T=E:=by unfold Program.elem;rw[show P.underlying T=_ from hT]
  exact⟨by rw[this];exact hT,this⟩
 have hsz:(sizeOf (P.elem T)).run P w = .ok (Rep.sz α) w:=by rw[hTe.2];simp[sizeOf,typeInfo,hti,hsize,go_sem]
 rw[run_sliceAt_slice (h:=hTe.1)]
 rcases hlov with⟨e1,rfl⟩ | e1<;>rcases hhiv with⟨e2,rfl⟩ | e2<;>rw[e1,e2]
 ·
  rw[run_slice_all w T ad m cap hTe.1,hsz];simp[Result.andThen]
 ·
  rw[run_slice_h w T ad m cap hTe.1 .i64 j (by omega) (by omega),hsz];simp[Result.andThen]
 ·
  rw[run_slice_l w T ad m cap hTe.1 .i64 i (by omega) (by omega),hsz];simp[Result.andThen]
 ·
  rw[run_slice_lh w T ad m cap hTe.1 .i64 .i64 i j (by omega) (by omega) (by omega),hsz];simp[Result.andThen]
theorem zta {s:Value}{a:Option Addr}{m c:Nat}{i j:Int}{sz:Nat}(h:s = .slice a m c):jf (qP s i j sz)=true∧(qP s i j sz).cells=#[qP s i j sz]:=by
 subst h;exact⟨rfl,rfl⟩
theorem zej {L:zq}{G:Prop}{o:Option Operand}{i:Int}{z:Int}{ts:List Nat}{M:zh}{a:Act}{w:World}(h:match o with | some o=>Opd L G o (rep i) | none=>i=z)
  (hs:vw ts M L a w) (hx:∀t,o=some (.tmp t)→t∈ts) (hG:G):(o.map a.eval=none∧i=z)∨o.map a.eval=some (.int .i64 i):=by
 cases o with
 | none=>exact .inl ⟨rfl,h⟩
 | some o=>exact .inr (by rw[Option.map_some,(yz.1 (Opd.get h hs (fun t ht=>hx t (by rw[ht])) hG)).1])
theorem ze.sliceLend {T E k T':Nat}{x:Operand}{s:Value}{lo hi:Option Operand}{α:Type}[Rep α]{l:List α}{i j:Int}(hT:yK P T E)(hE:Ty P E α)(hx:Opd L True x (isV s))(hk:zk B k=some (zd.at s (zp T' l)))
  (hlo:match lo with | some o=>Opd L True o (rep i) | none=>i=0) (hhi:match hi with | some o=>Opd L True o (rep j) | none=>j=l.length) (hb:y3 l.length i j):
  ze P ops fs ⟨d,.slice T x lo hi none,ty,pos,after,none⟩ L B ([k],[]) ⟨True,isV (qP s i j (Rep.sz α))⟩ []:=
 .of .none fun M D a w hm hs hsB hG=>by
  have hv:a.eval x=s:=(ya.1 (hx.get hs (fun t ht=>zB (by simp[Op.operands,ht])) trivial)).1
  obtain⟨ad,cap,hsl,hlc,hcm,ho⟩:=hsB.has k (by simp) _ hk
  have hlov:=zej hlo hs (fun t ht=>zB (by simp[Op.operands,ht])) trivial
  have hhiv:=zej hhi hs (fun t ht=>zB (by simp[Op.operands,ht])) trivial
  have hrun:=zmE (P:=P) (w:=w) (ad:=ad) (cap:=cap) hT hE hb hlc hlov hhiv
  refine zP.value (v:=qP s i j (Rep.sz α)) (w':=w) ?_ ⟨zx.refl _ _,ya.2 ⟨rfl,zta hsl⟩⟩
  subst hsl
  simp only[execOp,hv]
  rw[Sem.run_bind]
  simp only[Option.map]at hrun⊢
  rw[hrun];rfl
theorem ze.sliceRow {T E k d:Nat}{x:Operand}{s:Value}{lo hi:Option Operand}{α:Type}[Rep α]{l:List α}{i j:Int}(hT:yK P T E)(hE:Ty P E α)(hd:Nat.blt d fs=true)(hx:Opd L True x (isV s))(hk:zk B k=some (zd.at s (zp E l)))
  (hlo:match lo with | some o=>Opd L True o (rep i) | none=>i=0) (hhi:match hi with | some o=>Opd L True o (rep j) | none=>j=l.length) (hb:y3 l.length i j):
  ze P ops fs ⟨some d,.slice T x lo hi none,ty,pos,after,none⟩ L B ([k],[d,k]) ⟨True,zV⟩ [(d,some (zp E (seg l i j))),(k,none)]:=by
 refine .doing fun M D a w hsz hm hs hsB=>?_
 have hv:a.eval x=s:=(ya.1 (hx.get hs (fun t ht=>zB (by simp[Op.operands,ht])) trivial)).1
 obtain⟨ad,cap,hsl,hlc,hcm,ho⟩:=hsB.has k (by simp) _ hk
 have hlov:=zej hlo hs (fun t ht=>zB (by simp[Op.operands,ht])) trivial
 have hhiv:=zej hhi hs (fun t ht=>zB (by simp[Op.operands,ht])) trivial
 have hrun:=zmE (P:=P) (w:=w) (ad:=ad) (cap:=cap) hT hE hb hlc hlov hhiv
 obtain⟨h0,h1,h2⟩:=hb
 refine zP.value (v:=sliced ad i.toNat j.toNat cap (Rep.sz α)) (w':=w) ?_ (.pass M (D k) hk (zx.refl _ _) (fun _ h=>h) (fun _ h=>.inl h) hm ⟨fun _=>trivial,fun hf=>(hf trivial).elim⟩ ?_ (fun j h=>.inl h))
 ·
  subst hsl
  simp only[execOp,hv]
  rw[Sem.run_bind]
  simp only[Option.map]at hrun⊢
  rw[hrun];rfl
 ·
  rw[qJ (by rw[hsz];exact Nat.le_of_ble_eq_true hd)]
  have hlen:(seg l i j).length=j.toNat - i.toNat:=by simp only[seg,List.length_drop,List.length_take];omega
  refine⟨if cap=i.toNat then ad else ad.map (·.add (i.toNat*Rep.sz α)),cap - i.toNat,?_,by rw[hlen];omega,by omega,?_⟩
  ·
   simp only[sliced]
   rw[hlen]
  ·
   cases ad with
   | none=>
    obtain⟨rfl,rfl,hD⟩:=ho
    have:seg ([]:List α) i j=[]:=by simp[seg]
    rw[this]
    split<;>exact⟨rfl,by simp,hD⟩
   | some ad=>
    obtain⟨hsp,hD,hM,pre,cs,rest,hh,hp,he,hr⟩:=ho
    obtain⟨b,off,sp⟩:=ad
    simp only at hsp hD hM hh hp
    subst hsp
    have hcl:=he.len
    have hsp2:=zM.take l cs j.toNat (by omega) he
    have hsp3:=zM.take (l.take j.toNat) (cs.take (j.toNat*Rep.sz α)) i.toNat (by rw[List.length_take];omega) hsp2.1
    have hmid:(seg l i j).length=j.toNat - i.toNat:=hlen
    have hij:i.toNat*Rep.sz α≤j.toNat*Rep.sz α:=Nat.mul_le_mul_right _ (by omega)
    have hjl:j.toNat*Rep.sz α≤cs.length:=by rw[hcl];exact Nat.mul_le_mul_right _ (by omega)
    have split3:pre++cs++rest=(pre++cs.take (i.toNat*Rep.sz α))++(cs.take (j.toNat*Rep.sz α)).drop (i.toNat*Rep.sz α)++(cs.drop (j.toNat*Rep.sz α)++rest):=by
     have e1:cs=cs.take (j.toNat*Rep.sz α)++cs.drop (j.toNat*Rep.sz α):=(List.take_append_drop _ _).symm
     have e2:cs.take (j.toNat*Rep.sz α)=cs.take (i.toNat*Rep.sz α)++(cs.take (j.toNat*Rep.sz α)).drop (i.toNat*Rep.sz α):=by
      conv=>lhs;rw[←List.take_append_drop (i.toNat*Rep.sz α) (cs.take (j.toNat*Rep.sz α))]
      rw[List.take_take,Nat.min_eq_left hij]
     conv=>lhs;rw[e1,e2]
     simp only[List.append_assoc]
    have hrest:(cap - i.toNat - (seg l i j).length)*Rep.sz α≤(cs.drop (j.toNat*Rep.sz α)++rest).length:=by
     rw[List.length_append,List.length_drop,hcl,hmid,←Nat.sub_mul]
     have e:(cap - i.toNat - (j.toNat - i.toNat))*Rep.sz α=(l.length - j.toNat)*Rep.sz α+(cap - l.length)*Rep.sz α:=by rw[←Nat.add_mul];congr 1;omega
     omega
    have own:∀pre',pre'=pre++cs.take (i.toNat*Rep.sz α)→zio M (D k) E (seg l i j) (some ⟨b,off+i.toNat*Rep.sz α,none⟩) (cap - i.toNat) w:=by
     intro pre' hp'
     refine⟨rfl,hD,hM,pre',_,_,hh.re (by rw[hp',←split3]),?_,hsp3.2,hrest⟩
     rw[hp',List.length_append,List.length_take,hp]
     have:i.toNat*Rep.sz α≤cs.length:=by omega
     simp only at *;omega
    by_cases hc:cap=i.toNat
    ·
     rw[if_pos hc]
     have hil:i.toNat=l.length:=by omega
     have hemp:seg l i j=[]:=by simp only[seg];rw[List.drop_eq_nil_iff];rw[List.length_take];omega
     rw[hemp]
     refine⟨rfl,hD,hM,pre,[],cs++rest,hh.re (by rw[List.append_nil,←List.append_assoc]),hp,rfl,?_⟩
     rw[hc];simp
    ·
     rw[if_neg hc,Option.map_some,qF]
     exact own _ rfl
theorem ze.buildSliceO {T E m d:Nat}{α:Type}[Rep α]{parts:Array (Nat×Operand)}{xs:List α}(hd:Nat.blt d fs=true)(hT:yK P T E)(hE:Ty P E α)(hz:yY P E)
  (hx:jL L True (parts.toList.map (·.2)) (xs.map rep)) (hidx:parts.toList.map (·.1)=List.range' 0 m) (hsmall:m*Rep.sz α≤16777216):
  ze P ops fs ⟨some d,.buildSlice T m parts,ty,pos,after,none⟩ L B ([],[d]) ⟨True,zV⟩ [(d,some (zp E xs))]:=by
 refine .doing fun M D a w hsz hm hs _=>?_
 have ha:=hx.get hs (fun x hxm t ht=>zB (by
   subst ht
   obtain⟨p,hp,he⟩:=List.mem_map.1 hxm
   simp only[Op.operands]
   rw[List.mem_toArray]
   exact List.mem_map.2 ⟨p,hp,he⟩)) trivial
 rw[List.map_map]at ha
 have hn:xs.length=m:=by
  have h1:=ha.length
  have h2:=congrArg List.length hidx
  simp only[List.length_map,List.length_range']at h1 h2
  omega
 obtain⟨cs,hrun,hel⟩:=zjN (P:=P) (d:=some d) (ty:=ty) (pos:=pos) (after:=after) (g:=none) hT hE hz hn hsmall hidx ha
 have hle:m≤16777216:=by
  have:Rep.sz α≠0:=Nat.ne_of_gt (Rep.pos (α:=α))
  have:m*1≤m*Rep.sz α:=Nat.mul_le_mul_left m (by omega)
  omega
 refine zP.value hrun (.one (fun k=>M k∨k=w.heap.size) (fun k=>k=w.heap.size) (Ext.alloc _ _) (fun k h=>.inl h) (fun k h=>h.imp id (by omega)) (fun k h=>?_) ⟨fun _=>trivial,fun hf=>(hf trivial).elim⟩ ?_ (fun k h=>by omega))
 ·
  rw[jw]
  rcases h with h | h
  ·
   have:=hm k h;omega
  ·
   omega
 ·
  rw[qJ (by rw[hsz];exact Nat.le_of_ble_eq_true hd)]
  refine⟨some ⟨w.heap.size,0,none⟩,m,by rw[hn],by omega,by omega,rfl,fun k=>Iff.rfl,.inr rfl,[],cs,[],?_,rfl,?_,?_⟩
  ·
   refine qk.of ?_
   show(w.heap.push _)[w.heap.size]?=_
   rw[Array.getElem?_push_size];simp
  ·
   exact zM.law (Ext.alloc w _).keeps (fun k h=>h.imp id (by omega)) xs cs hel
  ·
   rw[hn];simp
theorem zjP {ρ:Operand→Value}{x:Operand}{ad:Addr}{w:World}(h:ρ x = .pointer (some ad)):
  (execOp ρ ⟨d,.nilCheck x,ty,pos,after,g⟩).run P w = .ok (.value (.pointer (some ad))) w:=by
 simp only[execOp,h];rfl
theorem ze.nilCheckR {x:Operand}{α:Type}[Rep α]{y:α}(hg:zU ops g L G)(hx:Opd L G x (ref y)):ze P ops fs ⟨d,.nilCheck x,ty,pos,after,g⟩ L B (xr,[]) ⟨G,ref y⟩ []:=
 .pure hg fun M a w _ hs hG=>by
  have h:=hx.get hs (fun t ht=>zB (by simp[Op.operands,ht])) hG
  obtain⟨b,o,cs,hv,h'⟩:=id h
  exact⟨_,zjP hv,hv▸h⟩
theorem ze.nilCheckP {x:Operand}{m o:Nat}(hg:zU ops g L G)(hx:Opd L G x (isV (ptr m o))):ze P ops fs ⟨d,.nilCheck x,ty,pos,after,g⟩ L B (xr,[]) ⟨G,isV (ptr m o)⟩ []:=
 .pure hg fun M a w _ hs hG=>by
  have h:=hx.get hs (fun t ht=>zB (by simp[Op.operands,ht])) hG
  exact⟨_,zjP (ya.1 h).1,zgE⟩
end
def zob (P:Program)(T:Nat)(n:Nat):Prop:=
 P.underlying T=some (.struct (P.fieldsOf T))∧P.stoodInHeld T=false∧P.eqGuardType P.depth T=false∧
  (P.fieldsOf T).toList.map (fun f=>(f.name != "_",f.offset,P.underlying f.type))=(List.range n).map (fun i=>(true,i,some (.int .i64)))
theorem zmB {P:Program}{w:World}(k:Nat)(xs ys:List Int)(hxy:xs.length=ys.length):∀(fs:List Field) (i m:Nat),i+m=xs.length→
  fs.map (fun f=>(f.name != "_",f.offset,P.underlying f.type))=(List.range' i m).map (fun i=>(true,i,some (.int .i64)))→
  (Op.eqFields (k+1) (xs.map (Value.int .i64 ·)).toArray (ys.map (Value.int .i64 ·)).toArray fs).run P w = .ok (decide (xs.drop i=ys.drop i)) w
 | [],i,m,him,h=>by
  have hm:m=0:=by
   have:=congrArg List.length h
   simp at this;omega
  subst hm
  rw[List.drop_of_length_le (by omega),List.drop_of_length_le (by omega)]
  simp[Op.eqFields,go_sem]
 | f::fs,i,m,him,h=>by
  obtain⟨m,rfl⟩:∃m',m=m'+1:=⟨m - 1,by have:=congrArg List.length h;simp at this;omega⟩
  rw[List.range'_succ]at h
  simp only[List.map_cons,List.cons.injEq,Prod.mk.injEq]at h
  obtain⟨⟨h1,h2,h3⟩,h4⟩:=h
  have hne:f.name≠"_" :=by simpa using h1
  have hx:i<xs.length:=by omega
  have hy:i<ys.length:=by omega
  have hag:(isAgg f.type).run P w = .ok false w:=by simp[isAgg,underlying,h3,go_sem]
  have pt:∀(zs:List Int) (hz:i<zs.length),(part f.type (zs.map (Value.int .i64 ·)).toArray f.offset).run P w = .ok (.int .i64 zs[i]) w:=by
   intro zs hz
   unfold part
   rw[Sem.run_bind,hag]
   simp only[Result.andThen,h2]
   have:((zs.map (Value.int .i64 ·)).toArray)[i]?=some (.int .i64 zs[i]):=by simp[hz]
   simp only[Bool.false_eq_true,if_false,this]
   rfl
  have ih:=zmB (P:=P) (w:=w) k xs ys hxy fs (i+1) m (by omega) h4
  rw[Op.eqFields,if_pos hne,Sem.run_bind,pt xs hx]
  simp only[Result.andThen]
  rw[Sem.run_bind,pt ys hy]
  simp only[Result.andThen]
  rw[Sem.run_bind,zt1 k h3]
  simp only[Result.andThen]
  have key:decide (xs.drop i=ys.drop i)=(decide (xs[i]=ys[i])&&decide (xs.drop (i+1)=ys.drop (i+1))):=by
   rw[List.drop_eq_getElem_cons hx,List.drop_eq_getElem_cons hy,←Bool.decide_and]
   exact decide_eq_decide.2 (by rw[List.cons.injEq])
  rw[key]
  by_cases he:xs[i]=ys[i]
  ·
   have hb:(xs[i]==ys[i])=true:=by simp[he]
   rw[hb]
   simp only[Bool.not_true,Bool.false_eq_true,if_false]
   rw[ih,decide_eq_true he,Bool.true_and]
  ·
   have hb:(xs[i]==ys[i])=false:=by simp[he]
   rw[hb,decide_eq_false he,Bool.false_and]
   simp[go_sem]
theorem zqk {P:Program}{T n:Nat}{α:Type}[Rep α][DecidableEq α](f:α→List Int)(hf:∀a b,f a=f b↔a=b)(hlen:∀a,(f a).length=n)
  (hrep:∀(M:zh) (v:Value) (w:World) (a:α),(rep a).p M v w→v = .agg ((f a).map (Value.int .i64 ·)).toArray) (hT:zob P T n):EqAt P T α:=by
 obtain⟨hu,hst,hgd,hfs⟩:=hT
 intro M w p q x y v u hv hu'
 obtain rfl:=hrep _ _ _ _ hv
 obtain rfl:=hrep _ _ _ _ hu'
 have h:(Op.equal T (.agg ((f x).map (Value.int .i64 ·)).toArray) (.agg ((f y).map (Value.int .i64 ·)).toArray)).run P w = .ok (decide (x=y)) w:=by
  show(Op.equalIn (9998+1+1) T _ _).run P w=_
  rw[run_equalIn_struct w _ T _ _ hu hst,zmB 9998 (f x) (f y) (by rw[hlen,hlen]) _ 0 n (by rw[hlen];omega) (by rw[hfs,List.range_eq_range'])]
  simp[hf]
 have hg:∀op,(op = .eql∨op = .neq)→(eqGuard op T p q (.agg ((f x).map (Value.int .i64 ·)).toArray) (.agg ((f y).map (Value.int .i64 ·)).toArray)).run P w = .ok () w:=by
  intro op hop
  rcases hop with rfl | rfl<;>simp[eqGuard,go_sem,hgd]
 constructor
 ·
  rw[Sem.run_bind,hg _ (.inl rfl)]
  simp only[Result.andThen,binOp]
  rw[Sem.run_bind,h];rfl
 ·
  rw[Sem.run_bind,hg _ (.inr rfl)]
  simp only[Result.andThen,binOp]
  rw[Sem.run_bind,h];rfl
class Fits (α:Type) where
 isFits:α→Prop
abbrev zT {α:Type}[Fits α](x:α):Prop:=Fits.isFits x
instance:Fits Int:=⟨InI⟩
instance:Fits Bool:=⟨fun _=>True⟩
instance {α:Type} [Fits α]:Fits (List α):=⟨fun l=>l.length≤9223372036854775807∧∀x∈l,zT x⟩
class FitsRep (α:Type) [Rep α] [Fits α]:Prop where
 of:∀{M:zh} {x:α} {cs:List Value} {w:World},Rep.cells M x cs w→zT x
instance:FitsRep Int:=⟨fun h=>h.2⟩
instance:FitsRep Bool:=⟨fun _=>trivial⟩
instance {α β:Type} [Fits α] [Fits β]:Fits (α×β):=⟨fun x=>zT x.1∧zT x.2⟩
instance {α β:Type} [Rep α] [Rep β] [Fits α] [Fits β] [FitsRep α] [FitsRep β]:FitsRep (α×β):=⟨fun⟨_,_,_,h1,h2⟩=>⟨FitsRep.of h1,FitsRep.of h2⟩⟩
instance {α:Type} [Rep α] [Fits α] [FitsRep α]:FitsRep (List α):=⟨fun {M x cs w} ⟨a,cap,_,h1,h2,h3⟩=>⟨by omega,fun y hy=>by
 obtain⟨i,hi,rfl⟩:=List.mem_iff_getElem.1 hy
 cases a with
 | none=>have:x=[]:=h3;subst this;simp at hi
 | some ad=>obtain⟨_,_,_,cs,hc,_⟩:=h3 i hi;exact FitsRep.of hc⟩⟩
theorem zmk {α:Type}[Rep α][Fits α][FitsRep α]{x:α}{M:zh}{v:Value}{w:World}(h:(rep x).p M v w):zT x:=by
 obtain⟨cs,hc,_⟩:=h;exact FitsRep.of hc
@[simp] theorem zwy {n:Int}:zT n↔(-9223372036854775808≤n∧n≤9223372036854775807):=Iff.rfl
@[simp] theorem zwx {n:Bool}:zT n↔True:=Iff.rfl
end Go.DB
namespace Go.DB
open Go Go.RowKit
structure KI (k:IntKind) where
 n:Int
 deriving DecidableEq,Inhabited
instance {k:IntKind}:Rep (KI k) where
 sz:=1
 agg:=false
 cells:=fun _ x cs _=>cs=[.int k x.n]
 len:=fun h=>by rw[h];rfl
 pos:=by decide
 flat:=fun h=>by rw[h];rfl
 plain:=fun h c hc=>by rw[h]at hc;simp at hc;rw[hc];rfl
 law:=fun _ _ h=>h
instance {k:IntKind}:Flat (KI k):=⟨fun h=>h⟩
instance {k:IntKind}:Fits (KI k):=⟨fun _=>True⟩
instance {k:IntKind}:FitsRep (KI k):=⟨fun _=>trivial⟩
theorem Yp {k:IntKind}{x:KI k}{M:zh}{v:Value}{w:World}:(rep x).p M v w↔v = .int k x.n:=by
 constructor
 ·
  rintro⟨cs,h,hv⟩;subst h;exact hv
 ·
  intro h;exact⟨[.int k x.n],rfl,h⟩
theorem Opd.ki {L:zq}{G:Prop}{k:IntKind}{n:Int}:Opd L G (.const (.int k n)) (rep (⟨n⟩:KI k)):=fun _ _=>Yp.2 rfl
def KI.shr {k:IntKind}(a:KI k)(b:Int):KI k:=⟨a.n.fdiv (2 ^ min b.toNat k.bits)⟩
def KI.of (k:IntKind)(n:Int):KI k:=⟨k.wrap n⟩
section
variable {P:Program} {ops:Array Oper} {fs:Nat} {L:zq} {B:zo} {G:Prop}
variable {d:Option Tmp} {ty:TypeId} {pos:String} {after:Array Edge} {g:Option (Nat×Bool)} {xr:List Nat}
theorem zjK {ρ:Operand→Value}{op:BinOp}{x y:Operand}{T T':TypeId}{j k:IntKind}{m n:Int}{v:Value}{w:World}(hx:ρ x = .int j m)(hy:ρ y = .int k n)
  (hv:(binOp op T (.int j m) (.int k n)).run P w = .ok v w):
  (execOp ρ ⟨d,.binOp op T x y T',ty,pos,after,g⟩).run P w = .ok (.value v) w:=by
 have hgd:eqGuard op T x y (.int j m) (.int k n)=Pure.pure ():=by
  unfold eqGuard;cases op<;>rfl
 simp only[execOp,hx,hy,hgd]
 generalize binOp op T (.int j m) (.int k n)=s at *
 simp[go_sem,hv]
theorem ze.kbin {op:BinOp}{x y:Operand}{T T':TypeId}{k:IntKind}{m n:KI k}{S:zF}(hg:zU ops g L G)(hx:Opd L G x (rep m))(hy:Opd L G y (rep n))
  (h:G→∃v,(∀w,(binOp op T (.int k m.n) (.int k n.n)).run P w = .ok v w)∧∀M w,S.p M v w):
  ze P ops fs ⟨d,.binOp op T x y T',ty,pos,after,g⟩ L B (xr,[]) ⟨G,S⟩ []:=
 .pure hg fun M a w _ hs hG=>by
  have h1:=Yp.1 (hx.get hs (fun t ht=>zB (by simp[Op.operands,ht])) hG)
  have h2:=Yp.1 (hy.get hs (fun t ht=>zB (by simp[Op.operands,ht])) hG)
  obtain⟨v,hv,hS⟩:=h hG
  exact⟨v,zjK h1 h2 (hv w),hS M w⟩
theorem zbd {op:BinOp}{T:TypeId}{k:IntKind}{a b:Int}(h1:op≠.shl)(h2:op≠.shr){s:Sem Value}
  (h:(match op with
  | .add | .sub | .mul=>Op.intArith op k a b
  | .quo | .rem=>Op.intDiv op k a b
  | .and | .or | .xor | .andNot=>Op.intBits op k a b
  | _=>Op.intCmp op a b)=s):binOp op T (.int k a) (.int k b)=s:=by
 cases op<;>first | exact absurd rfl h1 | exact absurd rfl h2 | (simp only[binOp,ne_eq,not_true_eq_false,if_false];exact h)
variable {x y:Operand} {T T':TypeId} {k:IntKind} {m n:KI k}
theorem ze.keql (hg:zU ops g L G)(hx:Opd L G x (rep m))(hy:Opd L G y (rep n)):ze P ops fs ⟨d,.binOp .eql T x y T',ty,pos,after,g⟩ L B (xr,[]) ⟨G,rep (decide (m.n=n.n))⟩ []:=
 .kbin hg hx hy fun _=>⟨_,fun _=>by rw[zbd (by decide) (by decide) rfl];rfl,fun _ _=>yS.2 rfl⟩
theorem ze.kneq (hg:zU ops g L G)(hx:Opd L G x (rep m))(hy:Opd L G y (rep n)):ze P ops fs ⟨d,.binOp .neq T x y T',ty,pos,after,g⟩ L B (xr,[]) ⟨G,rep (!decide (m.n=n.n))⟩ []:=
 .kbin hg hx hy fun _=>⟨_,fun _=>by rw[zbd (by decide) (by decide) rfl];rfl,fun _ _=>yS.2 rfl⟩
theorem ze.klss (hg:zU ops g L G)(hx:Opd L G x (rep m))(hy:Opd L G y (rep n)):ze P ops fs ⟨d,.binOp .lss T x y T',ty,pos,after,g⟩ L B (xr,[]) ⟨G,rep (decide (m.n<n.n))⟩ []:=
 .kbin hg hx hy fun _=>⟨_,fun _=>by rw[zbd (by decide) (by decide) rfl];rfl,fun _ _=>yS.2 rfl⟩
theorem ze.kleq (hg:zU ops g L G)(hx:Opd L G x (rep m))(hy:Opd L G y (rep n)):ze P ops fs ⟨d,.binOp .leq T x y T',ty,pos,after,g⟩ L B (xr,[]) ⟨G,rep (decide (m.n≤n.n))⟩ []:=
 .kbin hg hx hy fun _=>⟨_,fun _=>by rw[zbd (by decide) (by decide) rfl];rfl,fun _ _=>yS.2 rfl⟩
theorem ze.kgtr (hg:zU ops g L G)(hx:Opd L G x (rep m))(hy:Opd L G y (rep n)):ze P ops fs ⟨d,.binOp .gtr T x y T',ty,pos,after,g⟩ L B (xr,[]) ⟨G,rep (decide (n.n<m.n))⟩ []:=
 .kbin hg hx hy fun _=>⟨_,fun _=>by rw[zbd (by decide) (by decide) rfl];rfl,fun _ _=>yS.2 rfl⟩
theorem ze.kgeq (hg:zU ops g L G)(hx:Opd L G x (rep m))(hy:Opd L G y (rep n)):ze P ops fs ⟨d,.binOp .geq T x y T',ty,pos,after,g⟩ L B (xr,[]) ⟨G,rep (decide (n.n≤m.n))⟩ []:=
 .kbin hg hx hy fun _=>⟨_,fun _=>by rw[zbd (by decide) (by decide) rfl];rfl,fun _ _=>yS.2 rfl⟩
class IsInt (α:Type) [Rep α] where
 kind:IntKind
 val:α→Int
 spec:∀{x:α} {M:zh} {v:Value} {w:World},(rep x).p M v w→v = .int kind (val x)
instance:IsInt Int:=⟨.i64,fun n=>n,fun h=>(yz.1 h).1⟩
instance {k:IntKind}:IsInt (KI k):=⟨k,fun x=>x.n,fun h=>Yp.1 h⟩
theorem ze.kshr {α:Type}[Rep α][IsInt α]{b:α}(hg:zU ops g L G)(hx:Opd L G x (rep m))(hy:Opd L G y (rep b))(h0:G→0≤IsInt.val b):
  ze P ops fs ⟨d,.binOp .shr T x y T',ty,pos,after,g⟩ L B (xr,[]) ⟨G,rep (m.shr (IsInt.val b))⟩ []:=
 .pure hg fun M a w _ hs hG=>by
  have h1:=Yp.1 (hx.get hs (fun t ht=>zB (by simp[Op.operands,ht])) hG)
  have h2:=IsInt.spec (hy.get hs (fun t ht=>zB (by simp[Op.operands,ht])) hG)
  refine⟨_,zjK h1 h2 (v:=.int k (m.shr (IsInt.val b)).n) ?_,Yp.2 rfl⟩
  simp only[binOp,Op.shift]
  rw[if_neg (by have:=h0 hG;omega)];rfl
theorem zjO {ρ:Operand→Value}{x:Operand}{src dst:TypeId}{v u:Value}{w:World}(hx:ρ x=v)(h:(convert src dst v).run P w = .ok u w):
  (execOp ρ ⟨d,.convert src dst x,ty,pos,after,g⟩).run P w = .ok (.value u) w:=by
 simp only[execOp,hx]
 generalize convert src dst v=s at *
 simp[go_sem,h]
theorem zmA {src dst:TypeId}{k j:IntKind}{n:Int}{w:World}{D:TypeDesc}(hs:P.underlying src=some D)(hd:P.underlying dst=some (.int k)):(convert src dst (.int j n)).run P w = .ok (.int k (k.wrap n)) w:=by
 simp[convert,underlying,hs,hd,go_sem,Conv.intToInt]
theorem ze.toK {src dst:TypeId}{k:IntKind}{α:Type}[Rep α][IsInt α]{b:α}(hg:zU ops g L G)(hs:(P.underlying src).isSome=true)(hd:P.underlying dst=some (.int k))(hx:Opd L G x (rep b)):
  ze P ops fs ⟨d,.convert src dst x,ty,pos,after,g⟩ L B (xr,[]) ⟨G,rep (KI.of k (IsInt.val b))⟩ []:=
 .pure hg fun M a w _ hsat hG=>by
  have h1:=IsInt.spec (hx.get hsat (fun t ht=>zB (by simp[Op.operands,ht])) hG)
  obtain⟨D,hD⟩:=Option.isSome_iff_exists.1 hs
  exact⟨_,zjO h1 (zmA hD hd),Yp.2 rfl⟩
theorem ze.toInt {src dst:TypeId}{α:Type}[Rep α][IsInt α]{b:α}(hg:zU ops g L G)(hs:(P.underlying src).isSome=true)(hd:P.underlying dst=some (.int .i64))(hx:Opd L G x (rep b)):
  ze P ops fs ⟨d,.convert src dst x,ty,pos,after,g⟩ L B (xr,[]) ⟨G,rep (W (IsInt.val b))⟩ []:=
 .pure hg fun M a w _ hsat hG=>by
  have h1:=IsInt.spec (hx.get hsat (fun t ht=>zB (by simp[Op.operands,ht])) hG)
  obtain⟨D,hD⟩:=Option.isSome_iff_exists.1 hs
  exact⟨_,zjO h1 (zmA hD hd),yz.2 ⟨by unfold W;rfl,zdd _⟩⟩
def zlr {α:Type}(l:List α):zF:=⟨fun _ v _=>∃b,v = .bool b∧(b=true→l=[]),fun _ _ _ _ _ _ _ h=>h⟩
open Classical in
noncomputable def QK {α β:Type}(l:List α)(x y:Option β):Option β:=if l=[]then(if x=y then y else none)else y
theorem zew {α β:Type}{l:List α}{x y:Option β}{r:β}(h:QK l x y=some r)(hl:l=[]):x=some r:=by
 unfold QK at h
 rw[if_pos hl]at h
 by_cases e:x=y
 ·
  rw[if_pos e]at h;rw[e];exact h
 ·
  rw[if_neg e]at h;cases h
theorem zev {α β:Type}{l:List α}{x y:Option β}{r:β}(h:QK l x y=some r):y=some r:=by
 unfold QK at h
 by_cases hl:l=[]
 ·
  rw[if_pos hl]at h
  by_cases e:x=y
  ·
   rw[if_pos e]at h;exact h
  ·
   rw[if_neg e]at h;cases h
 ·
  rw[if_neg hl]at h;exact h
theorem zeu {α β:Type}{l:List α}{x y:Option β}(h:l=[]→x=y):QK l x y=y:=by
 unfold QK
 by_cases hl:l=[]
 ·
  rw[if_pos hl,if_pos (h hl)]
 ·
  rw[if_neg hl]
theorem ztZ {T E:TypeId}{a:Option Addr}{n c:Nat}{w:World}{p q:Operand}(hT:yK P T E):(do eqGuard .eql T p q (.slice a n c) (.slice none 0 0);binOp .eql T (.slice a n c) (.slice none 0 0):Sem Value).run P w = .ok (.bool a.isNone) w:=by
 have hun:(underlying T).run P w = .ok (.slice E) w:=by simp[underlying,show P.underlying T=_ from hT,go_sem]
 have h1:(Op.equal T (.slice a n c) (.slice none 0 0)).run P w = .ok a.isNone w:=by
  unfold Op.equal Op.maxDepth Op.equalIn
  rw[Sem.run_bind,hun]
  simp only[Result.andThen]
  cases a<;>rfl
 rw[Sem.run_bind,show(eqGuard .eql T p q (.slice a n c) (.slice none 0 0)).run P w = .ok () w from rfl]
 simp only[Result.andThen,binOp]
 rw[Sem.run_bind,h1];rfl
theorem zqx {ρ:Operand→Value}{T T' E:TypeId}{x y:Operand}{ad:Option Addr}{n c:Nat}{w:World}(hT:yK P T E)(hx:ρ x = .slice ad n c)(hy:ρ y = .slice none 0 0):
  (execOp ρ ⟨d,.binOp .eql T x y T',ty,pos,after,g⟩).run P w = .ok (.value (.bool ad.isNone)) w:=by
 simp only[execOp,hx,hy]
 rw[Sem.run_bind,ztZ hT];rfl
theorem ze.eqNil {E:TypeId}{α:Type}[Rep α]{l:List α}(hg:zU ops g L G)(hT:yK P T E)(hx:Opd L G x (rep l)):
  ze P ops fs ⟨d,.binOp .eql T x (.const (.slice none 0 0)) T',ty,pos,after,g⟩ L B (xr,[]) ⟨G,zlr l⟩ []:=
 .pure hg fun M a w _ hs hG=>by
  obtain⟨ad,cap,hv,_,_,hl⟩:=Yq.1 (hx.get hs (fun t ht=>zB (by simp[Op.operands,ht])) hG)
  refine⟨.bool ad.isNone,zqx hT hv rfl,ad.isNone,rfl,fun h=>?_⟩
  ·
   cases ad with
   | none=>exact hl
   | some ad=>cases h
theorem Cod.condNil {Q:Exit→Act→World→Prop}{n:Nat}{F:Fr}{t:Nat}{x y:Code}{α:Type}{l:List α}{c:Prop}(hl:zD L t=some ⟨c,zlr l⟩)(hc:c)
  (h1:l=[]→Cod P x Q n F L B) (h2:Cod P y Q n F L B):Cod P (.cond (.tmp t) x y) Q n F L B:=by
 intro a w hs
 obtain⟨M,D,hs1⟩:=id hs
 obtain⟨v,hv,he⟩:=hs1.has t _ hl
 obtain⟨b,hb,hbl⟩:=he.1 hc
 have hev:a.eval (.tmp t) = .bool b:=by rw[Act.eval_tmp hv,hb]
 cases b with
 | true=>exact wp_cond_true hev (h1 (hbl rfl) a w hs)
 | false=>exact wp_cond_false hev (h2 a w hs)
theorem ze.boxO {d T:Nat}{α:Type}[Rep α]{z:α}(hd:Nat.blt d fs=true)(hx:Opd L True x (rep z)):
  ze P ops fs ⟨some d,.box T x,ty,pos,after,none⟩ L B ([],[d]) ⟨True,zV⟩ [(d,some (zC T z))]:=by
 refine .doing fun M D a w hsz hm hs _=>?_
 obtain⟨cs,hc,hv⟩:=hx.get hs (fun t ht=>zB (by simp[Op.operands,ht])) trivial
 have hcs:(a.eval x).cells=cs.toArray:=by rw[hv];exact Rep.flat hc
 refine zP.value (zgd hcs) (.one (fun k=>M k∨k=w.heap.size) (fun k=>k=w.heap.size) (Ext.alloc _ _) (fun k h=>.inl h) (fun k h=>h.imp id (by omega)) (fun k h=>?_) ⟨fun _=>trivial,fun hf=>(hf trivial).elim⟩ ?_ (fun k h=>by omega))
 ·
  rw[jw]
  rcases h with h | h
  ·
   have:=hm k h;omega
  ·
   omega
 ·
  rw[qJ (by rw[hsz];exact Nat.le_of_ble_eq_true hd)]
  refine⟨w.heap.size,cs,rfl,fun k=>Iff.rfl,.inr rfl,?_,Rep.law (Ext.alloc w _).keeps (fun k h=>h.imp id (by omega)) hc⟩
  show(w.heap.push _)[w.heap.size]?=_
  rw[Array.getElem?_push_size]
end
end Go.DB
namespace Go.DB
open Go Go.RowKit
def zd.ex {ι:Type}(C:ι→zd):zd where
 p:=fun M D v w=>∃i,(C i).p M D v w
 inM:=fun M D v w ⟨i,h⟩=>(C i).inM M D v w h
 law:=fun M M' D v w w' hk hm hD ⟨i,h⟩=>⟨i,(C i).law M M' D v w w' hk hm hD h⟩
def zd.star (C:zd)(s:Value)(C':zd):zd where
 p:=fun M D v w=>∃D1 D2,C.p M D1 v w∧C'.p M D2 s w∧(∀k,D k↔D1 k∨D2 k)∧∀k,D1 k→¬D2 k
 inM:=fun M D v w ⟨D1,D2,h1,h2,h3,_⟩ k hk=>((h3 k).1 hk).elim (C.inM M D1 v w h1 k) (C'.inM M D2 s w h2 k)
 law:=fun M M' D v w w' hk hm hD ⟨D1,D2,h1,h2,h3,h4⟩=>⟨D1,D2,C.law M M' D1 v w w' hk hm (fun k h=>hD k ((h3 k).2 (.inl h))) h1,C'.law M M' D2 s w w' hk hm (fun k h=>hD k ((h3 k).2 (.inr h))) h2,h3,h4⟩
abbrev zQ (C:Value→zd)(R:zd):zd:=zd.ex fun s=>zd.star (C s) s R
section
variable {n:Nat} {F:Fr} {L:zq} {B:zo}
theorem vG.retell {M:zh}{D:Nat→zh}{a:Act}{w:World}{k:Nat}{C C':zd}(h:vG n F L B M D a w)(hl:zk B k=some C)(hC:C'.p M (D k) (Act.val a k) w):vG n F L ((k,some C')::B) M D a w:=by
 have cs:∀t c,zk ((k,some C')::B) t=some c→(t=k∧c=C')∨(t≠k∧zk B t=some c):=by
  intro t c hc
  simp only[zk]at hc
  by_cases h1:k=t
  ·
   subst h1;simp at hc;exact .inl ⟨rfl,hc.symm⟩
  ·
   rw[yp h1,cond_false]at hc;exact .inr ⟨Ne.symm h1,hc⟩
 refine⟨h.size,h.defers,h.keeps,h.mf0,h.mlow,h.mhigh,h.msub,h.has,fun t c hc=>?_,fun t c hc=>?_,fun t1 t2 c1 c2 h1 h2 hne=>?_⟩
 ·
  rcases cs t c hc with⟨rfl,rfl⟩ | ⟨_,h2⟩
  ·
   exact hC
  ·
   exact h.hasB t c h2
 ·
  rcases cs t c hc with⟨rfl,rfl⟩ | ⟨_,h2⟩
  ·
   exact h.own t _ hl
  ·
   exact h.own t c h2
 ·
  rcases cs t1 c1 h1 with⟨rfl,rfl⟩ | ⟨_,a2⟩<;>rcases cs t2 c2 h2 with⟨rfl,rfl⟩ | ⟨_,b2⟩
  ·
   exact absurd rfl hne
  ·
   exact h.apart _ _ _ _ hl b2 hne
  ·
   exact h.apart _ _ _ _ a2 hl hne
  ·
   exact h.apart _ _ _ _ a2 b2 hne
theorem Sat.open {k g:Nat}{v:Value}{C:Value→zd}{R:zd}(hl:zk B k=some (zd.at v (zQ C R)))(hg:zk B g=none){a:Act}{w:World}(h:Sat n F L B a w):
  ∃s,Sat n F L ((g,some (zd.at s R))::(k,some (zd.at v (C s)))::B) a w:=by
 obtain⟨M,D,h⟩:=h
 have hC:(zQ C R).p M (D k) v w:=h.hasB k _ hl
 obtain⟨s,D1,D2,h1,h2,h3,h4⟩:=hC
 have hgk:g≠k:=fun e=>by subst e;rw[hg]at hl;cases hl
 refine⟨s,M,fun t=>if t=g then D2 else if t=k then D1 else D t,?_⟩
 have cs:∀t c,zk ((g,some (zd.at s R))::(k,some (zd.at v (C s)))::B) t=some c→(t=g∧c=zd.at s R)∨(t=k∧c=zd.at v (C s))∨(t≠g∧t≠k∧zk B t=some c):=by
  intro t c hc
  simp only[zk]at hc
  by_cases e1:g=t
  ·
   subst e1;simp at hc;exact .inl ⟨rfl,hc.symm⟩
  ·
   rw[yp e1,cond_false]at hc
   by_cases e2:k=t
   ·
    subst e2;simp at hc;exact .inr (.inl ⟨rfl,hc.symm⟩)
   ·
    rw[yp e2,cond_false]at hc;exact .inr (.inr ⟨Ne.symm e1,Ne.symm e2,hc⟩)
 have sub:∀t,t≠g→∀j,(if t=g then D2 else if t=k then D1 else D t) j→D t j:=by
  intro t ht j hj
  rw[if_neg ht]at hj
  by_cases e:t=k
  ·
   subst e;rw[if_pos rfl]at hj;exact(h3 j).2 (.inl hj)
  ·
   rw[if_neg e]at hj;exact hj
 refine⟨h.size,h.defers,h.keeps,h.mf0,h.mlow,h.mhigh,h.msub,h.has,fun t c hc=>?_,fun t c hc j hj=>?_,fun t1 t2 c1 c2 q1 q2 hne j j1 j2=>?_⟩
 ·
  rcases cs t c hc with⟨rfl,rfl⟩ | ⟨rfl,rfl⟩ | ⟨e1,e2,h5⟩
  ·
   rw[if_pos rfl];exact h2
  ·
   rw[if_neg (Ne.symm hgk),if_pos rfl];exact h1
  ·
   rw[if_neg e1,if_neg e2];exact h.hasB t c h5
 ·
  rcases cs t c hc with⟨rfl,rfl⟩ | ⟨rfl,rfl⟩ | ⟨e1,e2,h5⟩
  ·
   rw[if_pos rfl]at hj;exact h.own k _ hl j ((h3 j).2 (.inr hj))
  ·
   exact h.own _ _ hl j (sub _ (Ne.symm hgk) j hj)
  ·
   exact h.own t c h5 j (sub _ e1 j hj)
 ·
  rcases cs t1 c1 q1 with⟨rfl,rfl⟩ | ⟨rfl,rfl⟩ | ⟨e1,e2,h5⟩<;>rcases cs t2 c2 q2 with⟨rfl,rfl⟩ | ⟨rfl,rfl⟩ | ⟨f1,f2,h6⟩
  ·
   exact hne rfl
  ·
   rw[if_pos rfl]at j1;rw[if_neg (Ne.symm hgk),if_pos rfl]at j2;exact h4 j j2 j1
  ·
   rw[if_pos rfl]at j1;exact h.apart k t2 _ _ hl h6 (Ne.symm f2) j ((h3 j).2 (.inr j1)) (sub _ f1 j j2)
  ·
   rw[if_pos rfl]at j2;rw[if_neg (Ne.symm hgk),if_pos rfl]at j1;exact h4 j j1 j2
  ·
   exact hne rfl
  ·
   exact h.apart _ t2 _ _ hl h6 hne j (sub _ (Ne.symm hgk) j j1) (sub _ f1 j j2)
  ·
   rw[if_pos rfl]at j2;exact h.apart t1 k _ _ h5 hl e2 j (sub _ e1 j j1) ((h3 j).2 (.inr j2))
  ·
   exact h.apart t1 _ _ _ h5 hl hne j (sub _ e1 j j1) (sub _ (Ne.symm hgk) j j2)
  ·
   exact h.apart t1 t2 _ _ h5 h6 hne j (sub _ e1 j j1) (sub _ f1 j j2)
theorem Sat.close {k g:Nat}{v s:Value}(C:Value→zd){R:zd}(hl:zk B k=some (zd.at v (C s)))(hg:zk B g=some (zd.at s R))(hgk:(g==k)=false){a:Act}{w:World}(h:Sat n F L B a w):
  Sat n F L ((g,none)::(k,some (zd.at v (zQ C R)))::B) a w:=by
 obtain⟨M,D,h⟩:=h
 have hgk:g≠k:=by simpa using hgk
 have h1:(C s).p M (D k) v w:=h.hasB k _ hl
 have h2:R.p M (D g) s w:=h.hasB g _ hg
 have h4:=h.apart k g _ _ hl hg (Ne.symm hgk)
 refine⟨M,fun t=>if t=k then fun j=>D k j∨D g j else D t,?_⟩
 have cs:∀t c,zk ((g,none)::(k,some (zd.at v (zQ C R)))::B) t=some c→(t=k∧c=zd.at v (zQ C R))∨(t≠g∧t≠k∧zk B t=some c):=by
  intro t c hc
  simp only[zk]at hc
  by_cases e1:g=t
  ·
   subst e1;simp at hc
  ·
   rw[yp e1,cond_false]at hc
   by_cases e2:k=t
   ·
    subst e2;simp at hc;exact .inl ⟨rfl,hc.symm⟩
   ·
    rw[yp e2,cond_false]at hc;exact .inr ⟨Ne.symm e1,Ne.symm e2,hc⟩
 refine⟨h.size,h.defers,h.keeps,h.mf0,h.mlow,h.mhigh,h.msub,h.has,fun t c hc=>?_,fun t c hc j hj=>?_,fun t1 t2 c1 c2 q1 q2 hne j j1 j2=>?_⟩
 ·
  rcases cs t c hc with⟨rfl,rfl⟩ | ⟨e1,e2,h5⟩
  ·
   rw[if_pos rfl];exact⟨s,D t,D g,h1,h2,fun _=>Iff.rfl,h4⟩
  ·
   rw[if_neg e2];exact h.hasB t c h5
 ·
  rcases cs t c hc with⟨rfl,rfl⟩ | ⟨e1,e2,h5⟩
  ·
   rw[if_pos rfl]at hj;exact hj.elim (h.own t _ hl j) (h.own g _ hg j)
  ·
   rw[if_neg e2]at hj;exact h.own t c h5 j hj
 ·
  rcases cs t1 c1 q1 with⟨rfl,rfl⟩ | ⟨e1,e2,h5⟩<;>rcases cs t2 c2 q2 with⟨rfl,rfl⟩ | ⟨f1,f2,h6⟩
  ·
   exact hne rfl
  ·
   rw[if_pos rfl]at j1;rw[if_neg f2]at j2
   exact j1.elim (fun x=>h.apart _ t2 _ _ hl h6 hne j x j2) (fun x=>h.apart g t2 _ _ hg h6 (Ne.symm f1) j x j2)
  ·
   rw[if_pos rfl]at j2;rw[if_neg e2]at j1
   exact j2.elim (fun x=>h.apart t1 _ _ _ h5 hl hne j j1 x) (fun x=>h.apart t1 g _ _ h5 hg e1 j j1 x)
  ·
   rw[if_neg e2]at j1;rw[if_neg f2]at j2;exact h.apart t1 t2 _ _ h5 h6 hne j j1 j2
variable {P:Program} {Q:Exit→Act→World→Prop}
theorem Cod.open {c:Code}{k g:Nat}{v:Value}{C:Value→zd}{R:zd}(hl:zk B k=some (zd.at v (zQ C R)))(hg:zk B g=none)(h:∀s,Cod P c Q n F L ((g,some (zd.at s R))::(k,some (zd.at v (C s)))::B)):Cod P c Q n F L B:=
 fun a w hs=>let ⟨s,h1⟩:=hs.open hl hg;h s a w h1
theorem Cod.close {c:Code}{k g:Nat}{v s:Value}(C:Value→zd){R:zd}(hl:zk B k=some (zd.at v (C s)))(hg:zk B g=some (zd.at s R))(hgk:(g==k)=false)(h:Cod P c Q n F L ((g,none)::(k,some (zd.at v (zQ C R)))::B)):Cod P c Q n F L B:=
 fun a w hs=>h a w (hs.close C hl hg hgk)
theorem zb.open {e:Exit}{k g:Nat}{v:Value}{C:Value→zd}{R:zd}(hl:zk B k=some (zd.at v (zQ C R)))(hg:zk B g=none)(h:∀s,zb Q e n F L ((g,some (zd.at s R))::(k,some (zd.at v (C s)))::B)):zb Q e n F L B:=
 fun a w hs=>let ⟨s,h1⟩:=hs.open hl hg;h s a w h1
theorem zb.close {e:Exit}{k g:Nat}{v s:Value}(C:Value→zd){R:zd}(hl:zk B k=some (zd.at v (C s)))(hg:zk B g=some (zd.at s R))(hgk:(g==k)=false)(h:zb Q e n F L ((g,none)::(k,some (zd.at v (zQ C R)))::B)):zb Q e n F L B:=
 fun a w hs=>h a w (hs.close C hl hg hgk)
theorem Sat.nilKey {g T:Nat}{α:Type}[Rep α](hg:zk B g=none){a:Act}{w:World}(h:Sat n F L B a w):Sat n F L ((g,some (zd.at (.slice none 0 0) (zp T ([]:List α))))::B) a w:=by
 obtain⟨M,D,h⟩:=h
 have cs:∀t c,zk ((g,some (zd.at (.slice none 0 0) (zp T ([]:List α))))::B) t=some c→(t=g∧c=zd.at (.slice none 0 0) (zp T ([]:List α)))∨(t≠g∧zk B t=some c):=by
  intro t c hc
  simp only[zk]at hc
  by_cases h1:g=t
  ·
   subst h1;simp at hc;exact .inl ⟨rfl,hc.symm⟩
  ·
   rw[yp h1,cond_false]at hc;exact .inr ⟨Ne.symm h1,hc⟩
 refine⟨M,fun t=>if t=g then NoM else D t,h.size,h.defers,h.keeps,h.mf0,h.mlow,h.mhigh,h.msub,h.has,fun t c hc=>?_,fun t c hc j hj=>?_,fun t1 t2 c1 c2 h1 h2 hne j j1 j2=>?_⟩
 ·
  rcases cs t c hc with⟨rfl,rfl⟩ | ⟨e,h2⟩
  ·
   rw[if_pos rfl];exact⟨none,0,rfl,Nat.le_refl _,by omega,rfl,rfl,fun k h=>h⟩
  ·
   rw[if_neg e];exact h.hasB t c h2
 ·
  rcases cs t c hc with⟨rfl,rfl⟩ | ⟨e,h2⟩
  ·
   rw[if_pos rfl]at hj;exact hj.elim
  ·
   rw[if_neg e]at hj;exact h.own t c h2 j hj
 ·
  rcases cs t1 c1 h1 with⟨rfl,rfl⟩ | ⟨e1,a2⟩
  ·
   rw[if_pos rfl]at j1;exact j1
  ·
   rcases cs t2 c2 h2 with⟨rfl,rfl⟩ | ⟨e2,b2⟩
   ·
    rw[if_pos rfl]at j2;exact j2
   ·
    rw[if_neg e1]at j1;rw[if_neg e2]at j2;exact h.apart t1 t2 _ _ a2 b2 hne j j1 j2
theorem Cod.nilKey {c:Code}{g T:Nat}{α:Type}[Rep α](hg:zk B g=none)(h:Cod P c Q n F L ((g,some (zd.at (.slice none 0 0) (zp T ([]:List α))))::B)):Cod P c Q n F L B:=fun a w hs=>h a w (hs.nilKey hg)
end
theorem Cod.tailJ {P:Program}{Q:Exit→Act→World→Prop}{n:Nat}{F:Fr}{L:zq}{B:zo}{x:Code}{ι:Type}(Ls:ι→zq)(Bs:ι→zo)(prop:ι→Prop){keep:zq}{keepB:zo}(hk:Sub L keep)(hkB:zi B keepB)
  (h:Cod P x (Exit.then (fun a w=>∃j,prop j∧Sat n F (Ls j++keep) (Bs j++keepB) a w) Q) n F L B)
  (k:∀i,prop i→zb Q .normal n F (Ls i++keep) (Bs i++keepB)):Cod P x Q n F L B:=fun a w hs=>wp_mono (h a w hs) (fun e a w hq=>by
 cases e with
 | normal=>obtain⟨j,h1,h2⟩:=hq;exact k j h1 a w h2
 | _=>exact hq)
def zbI (f:Nat)(Cs:List zF):zF where
 p:=fun M v w=>∃caps:List Value,v = .func (.func f) #[] caps.toArray∧qK M w Cs caps
 law:=fun M M' v w w' hk hm ⟨caps,h,ha⟩=>⟨caps,h,qK.law hk hm Cs caps ha⟩
theorem zS.frz {P:Program}{f T:Nat}{Ss:List zF}{α:Type}[Rep α]{l:List α}(h:zS P f Ss [] zV [some (zp T l)]):zr P f Ss (rep l):=
 ⟨h.ok,fun M w vs hM ha=>Calls.mono (h.calls M (fun _=>NoM) w vs hM ha ⟨fun i s c h=>by simp at h,fun i j x y h=>by simp at h⟩) fun e w' ⟨v,M',D',he,hk,hml,hmh,hms,hS,hO,_⟩=>by
  have no:∀k,¬DU (fun _=>NoM) ([]:jh).length k:=fun k ⟨i,hi,_⟩=>by simp at hi
  obtain⟨h1,h2⟩:=hO 0 _ rfl
  have h3:=zba M' (D' 0) w' _ h1 hms
  refine⟨⟨hk.os,hk.tape,hk.output,hk.size,fun k hlt _=>hk.block k hlt (no k)⟩,v,he,(rep l).law _ M v w' w' (zx.refl _ _) (fun k hk2=>.inl ⟨(hml k hk2).resolve_right (no k),fun hd=>?_⟩) h3⟩
  rcases h2 k hd with h4 | h4
  ·
   exact no k h4
  ·
   have:=hM k hk2;simp only at h4;omega⟩
end Go.DB
namespace Go.DB
open Go Go.RowKit
section
variable {P:Program} {ops:Array Oper} {fs:Nat} {L:zq} {B:zo} {G:Prop}
variable {d:Option Tmp} {ty:TypeId} {pos:String} {after:Array Edge} {g:Option (Nat×Bool)} {xr:List Nat}
theorem Leaves.merge {o:Oper}{D:Nat→zh}{E:Ent}{M:zh}{a:Act}{w:World}{v:Value}{w':World}{k t:Nat}{C Ck Ct:zd}(hlk:zk B k=some Ck)(hlt:zk B t=some Ct)
  (hk:zx (D k) w w') (h3:∀j,M j→j<w'.heap.size) (h4:E.holds M v w') (h5:C.p M (fun j=>D k j∨D t j) (Act.val (a.put o.dst v) k) w'):
  Leaves o B D [k,t] E [(k,some C),(t,none)] M a w v w':=by
 have m1:∀j,D k j→qE [k,t] B D j:=fun j hj=>⟨k,by simp,Ck,hlk,hj⟩
 have m2:∀j,D t j→qE [k,t] B D j:=fun j hj=>⟨t,by simp,Ct,hlt,hj⟩
 refine⟨M,fun _=>fun j=>D k j∨D t j,hk.mono (fun j _ h=>m1 j h),fun j h=>.inl h,fun j h=>.inl h,h3,h4,fun t' c hc=>?_,fun t1 t2 c1 c2 hc1 hc2 hne=>?_⟩
 ·
  obtain⟨rfl,hc'⟩:=Yi (C:=some C) hc
  obtain rfl:C=c:=Option.some.inj hc'
  exact⟨h5,fun j hj=>.inl (hj.elim (m1 j) (m2 j))⟩
 ·
  exact absurd ((Yi hc1).1.trans (Yi hc2).1.symm) hne
theorem ze.storeRow {T T' m off k t E:Nat}{p:Operand}{α γ:Type}[Rep α][Rep γ]{y0:γ}{l:List α}{set:γ→Raw→γ}(hT:Ty P T (List α))(hl:zk B k=some (yG m T' y0))(hp:Opd L True p (isV (ptr m off)))
  (hF:zm γ Raw off set) (ht:zk B t=some (zp E l)) (hkt:(k==t)=false):
  ze P ops fs ⟨none,.store T p (.tmp t),ty,pos,after,none⟩ L B ([k,t],[k,t]) ⟨True,zV⟩ [(k,some (zd.at (ptr m 0) (zQ (fun s=>zC T' (set y0 ⟨s⟩)) (zp E l)))),(t,none)]:=by
 have hkt:k≠t:=by simpa using hkt
 refine .doing fun M D a w hsz hm hs hsB=>?_
 obtain⟨m',old,hvm,hD,hM,hh,hold⟩:=hsB.has k (by simp) _ hl
 obtain rfl:m=m':=by simp[ptr]at hvm;exact hvm
 have hR:=hsB.has t (by simp) _ ht
 have hap:=hsB.apart k (by simp) t (by simp) _ _ hl ht hkt
 have hxv:a.eval (.tmp t)=Act.val a t:=QD
 obtain⟨ad,cap,hsl,_⟩:=id hR
 have hz:Rep.cells M (⟨Act.val a t⟩:Raw) [Act.val a t] w:=⟨rfl,by rw[hsl];rfl,by rw[hsl];rfl⟩
 have hat:a.eval p=ptr m off:=(ya.1 (hp.get hs (fun t ht=>zB (by simp[Op.operands,ht])) trivial)).1
 have hlo:=Rep.len hold
 have hle:=hF.1
 have hs1:Rep.sz Raw=1:=rfl
 have hsplit:old=old.take off++(old.drop off).take 1++old.drop (off+1):=by
  rw[←List.drop_drop,List.append_assoc,List.take_append_drop,List.take_append_drop]
 obtain⟨w',h1,h2,h3,h4,h5,h6,h7⟩:=Ja (w:=w) (m:=m) (off:=off) (cs:=[Act.val a t]) (pre:=old.take off) (mid:=(old.drop off).take 1) (rest:=old.drop (off+1)) hT rfl
  (by rw[List.length_take,List.length_drop];show _=1;omega) (by rw[List.length_take];omega) (Rep.plain hz) (show(Act.val a t).cells=#[Act.val a t]by rw[hsl];rfl) (by rw[←hsplit];exact hh)
 have hkeep:zx (D k) w w':=⟨h3,h4,h5,by omega,fun j _ hn=>h7 j (fun e=>hn ((hD j).2 e))⟩
 have hkM:zx M w w':=⟨h3,h4,h5,by omega,fun j _ hn=>h7 j (fun e=>hn (e▸hM))⟩
 refine zP.skip (w':=w') (Q7 (by rw[hat,hxv];exact h1)) rfl (.merge hl ht hkeep (fun j h=>by rw[h6];exact hm j h) ⟨fun _=>trivial,fun hf=>(hf trivial).elim⟩ ?_)
 refine⟨Act.val a t,D k,D t,⟨m,_,rfl,hD,hM,h2,hF.2 M y0 ⟨Act.val a t⟩ old [Act.val a t] w' (Rep.law hkM (fun _ h=>.inl h) hold) (Rep.law hkM (fun _ h=>.inl h) hz)⟩,?_,fun _=>Iff.rfl,fun j h1 h2=>hap j h1 h2⟩
 exact(zp E l).law M M (D t) _ w w' hkM (fun _ h=>.inl h) (fun j hj=>⟨(zp E l).inM _ _ _ _ hR j hj,h7 j (fun e=>hap j ((hD j).2 e) hj)⟩) hR
def Yx {α:Type}[Rep α](y:α):zd where
 p:=fun M D v w=>(∀k,¬D k)∧(rep y).p M v w
 inM:=fun M D v w h k hk=>absurd hk (h.1 k)
 law:=fun M M' D v w w' hk hm _ h=>⟨h.1,(rep y).law M M' v w w' hk hm h.2⟩
theorem vw.extend {ts:List Nat}{M:zh}{a:Act}{w:World}{t:Nat}(h:vw ts M L a w)(ht:t<a.tmps.size)(h1:jf (Act.val a t)=true)(h2:(Act.val a t).cells=#[Act.val a t]):
  vw ts M ((t,⟨True,isV (Act.val a t)⟩)::L) a w:=by
 intro t' ht' e he
 simp only[zD]at he
 by_cases hne:t=t'
 ·
  subst hne
  simp at he;subst he
  exact⟨Act.val a t,by unfold Act.val;simp[ht],fun _=>ya.2 ⟨rfl,h1,h2⟩,fun hf=>(hf trivial).elim⟩
 ·
  rw[yp hne,cond_false]at he;exact h t' ht' e he
theorem ztM {α:Type}[Rep α]{E:Nat}{l:List α}{M D:zh}{v:Value}{w:World}(h:(zp E l).p M D v w):jf v=true∧v.cells=#[v]:=by
 obtain⟨ad,cap,rfl,_⟩:=h;exact⟨rfl,rfl⟩
theorem zqu {T:Nat}{α:Type}[Rep α]{parts:Array (Nat×Operand)}{x0 y:α}{zero:List Value}{places:List (Nat×Nat)}{Ss:List zF}{M:zh}{w:World}{a:Act}(hb:jI P T zero places)(hz:∀M w,Rep.cells M x0 zero w)(hagg:Rep.agg α=true)
  (ha:qK M w Ss ((parts.toList.map (·.2)).map a.eval)) (hf:YA places x0 (parts.toList.map (·.1)) Ss y):
  ∃v,(execOp a.eval ⟨d,.build T parts,ty,pos,after,g⟩).run P w = .ok (.value v) w∧(rep y).p M v w:=by
 obtain⟨cs,h1,h2⟩:=hf.run (hz M w) ha
 refine⟨.agg cs.toArray,zjM hb ?_,cs,h2,by rw[hagg];rfl⟩
 rw[←h1,List.map_map,List.zip_map']
 rfl
end
section
variable {P:Program} {Q:Exit→Act→World→Prop} {n:Nat} {F:Fr} {L:zq} {B:zo}
def zaj (C:zd):Prop:=∀M D v w,C.p M D v w→∃m,v=ptr m 0
theorem zcg {T:Nat}{α:Type}[Rep α]{y:α}:zaj (zC T y):=fun M D v w ⟨m,cs,hv,_⟩=>⟨m,hv⟩
theorem zd8 {C:Value→zd}{R:zd}(h:∀s,zaj (C s)):zaj (zQ C R):=fun M D v w ⟨s,D1,D2,h1,_⟩=>h s M D1 v w h1
theorem Cod.nameAt {c:Code}{t g:Nat}{C:zd}(hl:zk B t=some C)(ht:Nat.blt t n=true)(hC:zaj C)(hg:zk B g=none)
  (k:∀m,Cod P c Q n F ((t,⟨True,isV (ptr m 0)⟩)::L) ((g,some (zd.at (ptr m 0) C))::(t,none)::B)):Cod P c Q n F L B:=by
 intro a w hs
 obtain⟨M,D,h⟩:=id hs
 have h1:=h.hasB t _ hl
 obtain⟨m,hv⟩:=hC _ _ _ _ h1
 refine k m a w ⟨M,_,h.rekey hl hg (C':=zd.at (ptr m 0) C) (by rw[←hv];exact h1) fun t' e he=>?_⟩
 simp only[zD]at he
 by_cases hne:t=t'
 ·
  subst hne
  simp at he;subst he
  have hlt:t<a.tmps.size:=by rw[h.size];exact Nat.le_of_ble_eq_true ht
  refine⟨Act.val a t,by unfold Act.val;simp[hlt],fun _=>?_,fun hf=>(hf trivial).elim⟩
  rw[hv];exact ya.2 ⟨rfl,rfl,rfl⟩
 ·
  rw[yp hne,cond_false]at he;exact h.has t' e he
end
end Go.DB
namespace Go.DB
open Go Go.RowKit
structure Arr (n:Nat) (α:Type) where
 l:List α
 deriving Inhabited,DecidableEq
theorem zM.plainA {α:Type}[Rep α]{M:zh}{w:World}:∀(xs:List α) (cs:List Value),zM M w xs cs→∀c∈cs,jf c=true
 | [],_,h,c,hc=>by rw[h]at hc;cases hc
 | x::xs,_,⟨c1,r,h,h1,h2⟩,c,hc=>by
  rw[h]at hc
  rcases List.mem_append.1 hc with hc | hc
  ·
   exact Rep.plain h1 c hc
  ·
   exact zM.plainA xs r h2 c hc
instance {n:Nat} {α:Type} [Rep α]:Rep (Arr n α) where
 sz:=(n+1)*Rep.sz α
 agg:=true
 cells:=fun M x cs w=>x.l.length=n+1∧zM M w x.l cs
 len:=fun h=>by rw[zM.len _ _ h.2,h.1]
 pos:=Nat.mul_pos (Nat.succ_pos n) Rep.pos
 flat:=fun _=>rfl
 plain:=fun h=>zM.plainA _ _ h.2
 law:=fun hk hm h=>⟨h.1,zM.law hk hm _ _ h.2⟩
theorem zM.flat {α:Type}[Rep α][Flat α]{M M':zh}{w:World}:∀(xs:List α) (cs:List Value),zM M w xs cs→zM M' w xs cs
 | [],_,h=>h
 | x::xs,_,⟨c1,r,h,h1,h2⟩=>⟨c1,r,h,Flat.cells h1,zM.flat xs r h2⟩
instance {n:Nat} {α:Type} [Rep α] [Flat α]:Flat (Arr n α):=⟨fun h=>⟨h.1,zM.flat _ _ h.2⟩⟩
instance {n:Nat} {α:Type} [Fits α]:Fits (Arr n α):=⟨fun x=>x.l.length=n+1∧∀y∈x.l,zT y⟩
theorem zM.fit {α:Type}[Rep α][Fits α][FitsRep α]{M:zh}{w:World}:∀(xs:List α) (cs:List Value),zM M w xs cs→∀y∈xs,zT y
 | [],_,_,y,hy=>by cases hy
 | x::xs,_,⟨c1,r,h,h1,h2⟩,y,hy=>by
  rcases List.mem_cons.1 hy with rfl | hy
  ·
   exact FitsRep.of h1
  ·
   exact zM.fit xs r h2 y hy
instance {n:Nat} {α:Type} [Rep α] [Fits α] [FitsRep α]:FitsRep (Arr n α):=⟨fun h=>⟨h.1,zM.fit _ _ h.2⟩⟩
section
variable {P:Program} {ops:Array Oper} {fs:Nat} {L:zq} {B:zo} {G:Prop}
variable {d:Option Tmp} {ty:TypeId} {pos:String} {after:Array Edge} {g:Option (Nat×Bool)} {xr:List Nat}
end
end Go.DB
namespace Go.DB
open Go Go.RowKit
theorem zeA {b:Bool}(h:b=false):(!b)=true:=by rw[h];rfl
section
variable {P:Program} {ops:Array Oper} {fs:Nat} {L:zq} {B:zo} {G:Prop}
variable {d:Option Tmp} {ty:TypeId} {pos:String} {after:Array Edge} {g:Option (Nat×Bool)} {xr:List Nat}
end
end Go.DB
namespace Go.DB
open Go Go.RowKit
variable {L:zq} {G:Prop}
theorem Opd.funcC {f:Nat}:Opd L G (.func f) (zbI f []):=fun _ _=>⟨[],rfl,trivial⟩
end Go.DB
namespace Go.DB
open Go Go.RowKit
structure Str where
 b:List UInt8
deriving DecidableEq,Inhabited
def yE (x:Str):Value:=.string ⟨x.b.toArray⟩
instance:Rep Str where
 sz:=1
 agg:=false
 cells:=fun _ x cs _=>cs=[yE x]∧x.b.length≤9223372036854775807
 len:=fun h=>by rw[h.1];rfl
 pos:=by decide
 flat:=fun h=>by rw[h.1];rfl
 plain:=fun h c hc=>by rw[h.1]at hc;simp at hc;rw[hc];rfl
 law:=fun _ _ h=>h
def Str.nil:Str:=⟨[]⟩
instance:Flat Str:=⟨fun h=>h⟩
theorem y5 {M:zh}{w:World}:Rep.cells M Str.nil [.string ByteArray.empty] w:=⟨rfl,by decide⟩
theorem yC {x:Str}{M:zh}{v:Value}{w:World}:(rep x).p M v w↔v=yE x∧x.b.length≤9223372036854775807:=by
 constructor
 ·
  rintro⟨cs,⟨h,hi⟩,hv⟩;subst h;exact⟨hv,hi⟩
 ·
  rintro⟨h,hi⟩;exact⟨[yE x],⟨rfl,hi⟩,h⟩
instance:Fits Str:=⟨fun x=>x.b.length≤9223372036854775807⟩
instance:FitsRep Str:=⟨fun h=>h.2⟩
section
variable {P:Program} {ops:Array Oper} {fs:Nat} {L:zq} {B:zo} {G:Prop}
variable {d:Option Tmp} {ty:TypeId} {pos:String} {after:Array Edge} {g:Option (Nat×Bool)} {xr:List Nat}
theorem Opd.str {l:List UInt8}(h:Nat.ble l.length 9223372036854775807=true):Opd L G (.const (.string ⟨l.toArray⟩)) (rep (⟨l⟩:Str)):=fun _ _=>yC.2 ⟨rfl,Nat.le_of_ble_eq_true h⟩
theorem z6 {T:Nat}(hT:P.underlying T=some .string):EqAt P T Str:=by
 intro M w p q x y v u hv hu
 obtain⟨rfl,_⟩:=yC.1 hv
 obtain⟨rfl,_⟩:=yC.1 hu
 have hb:(x.b==y.b)=decide (x=y):=by
  cases x with | mk a=>cases y with | mk c=>by_cases h:a=c<;>simp[h]
 constructor
 ·
  rw[Sem.run_bind,show(eqGuard .eql T p q (yE x) (yE y)).run P w = .ok () w from rfl]
  simp only[Result.andThen,yE,binOp_string_eql,ByteArray.toList_mk,hb];rfl
 ·
  rw[Sem.run_bind,show(eqGuard .neq T p q (yE x) (yE y)).run P w = .ok () w from rfl]
  simp only[Result.andThen,yE,binOp_string_neq,ByteArray.toList_mk,hb];rfl
theorem zjL {ρ:Operand→Value}{op:BinOp}{x y:Operand}{T T':TypeId}{m n:Str}{v:Value}{w:World}(hx:ρ x=yE m)(hy:ρ y=yE n)
  (hop:(match op with | .eql | .neq=>false | _=>true)=true) (hv:(binOp op T (yE m) (yE n)).run P w = .ok v w):
  (execOp ρ ⟨d,.binOp op T x y T',ty,pos,after,g⟩).run P w = .ok (.value v) w:=by
 have hgd:eqGuard op T x y (yE m) (yE n)=Pure.pure ():=by
  unfold eqGuard;cases op<;>first | rfl | cases hop
 simp only[execOp,hx,hy,hgd]
 generalize binOp op T (yE m) (yE n)=s at *
 simp[go_sem,hv]
theorem ze.addStr {x y:Operand}{T T':TypeId}{m n:Str}(hg:zU ops g L G)(hx:Opd L G x (rep m))(hy:Opd L G y (rep n))(hn:G→((m.b.length:Int)+n.b.length≤9223372036854775807)):
  ze P ops fs ⟨d,.binOp .add T x y T',ty,pos,after,g⟩ L B (xr,[]) ⟨G,rep (⟨m.b++n.b⟩:Str)⟩ []:=
 .pure hg fun M a w _ hs hG=>by
  obtain⟨h1,_⟩:=yC.1 (hx.get hs (fun t ht=>zB (by simp[Op.operands,ht])) hG)
  obtain⟨h2,_⟩:=yC.1 (hy.get hs (fun t ht=>zB (by simp[Op.operands,ht])) hG)
  have hle:=hn hG
  refine⟨_,zjL h1 h2 rfl (v:=yE ⟨m.b++n.b⟩) ?_,yC.2 ⟨rfl,by simp only[List.length_append];omega⟩⟩
  have hs1:(ByteArray.mk m.b.toArray).size=m.b.length:=rfl
  have hs2:(ByteArray.mk n.b.toArray).size=n.b.length:=rfl
  have hap:(ByteArray.mk m.b.toArray)++(ByteArray.mk n.b.toArray)=ByteArray.mk (m.b++n.b).toArray:=by
   apply ByteArray.ext
   simp
  have hmax:IntKind.i64.max=9223372036854775807:=rfl
  simp only[yE,binOp_string_add,Op.stringOp,hs1,hs2,hap,hmax]
  rw[if_neg (by push_cast;omega)];rfl
theorem zqA {ρ:Operand→Value}{x:Operand}{T:Nat}{m:Str}{w:World}(hT:P.underlying T=some .string)(hx:ρ x=yE m):
  (execOp ρ ⟨d,.call { callee:=.builtin .len,args:=#[x],argTypes:=#[T] },ty,pos,after,g⟩).run P w = .ok (.value (.int .i64 m.b.length)) w:=by
 have hun:(underlying T).run P w = .ok .string w:=by simp[underlying,hT,go_sem]
 simp only[execOp,resolve,invoke,builtin,Builtin.len_,Array.map]
 simp only[yE]at hx
 generalize hb:(ByteArray.mk m.b.toArray)=s at hx
 have hs:s.size=m.b.length:=by subst hb;rfl
 simp[go_sem,hun,hx,goInt,hs]
theorem ze.lenStr {x:Operand}{T:Nat}{m:Str}(hg:zU ops g L G)(hT:P.underlying T=some .string)(hx:Opd L G x (rep m)):
  ze P ops fs ⟨d,.call { callee:=.builtin .len,args:=#[x],argTypes:=#[T] },ty,pos,after,g⟩ L B (xr,[]) ⟨G,rep (m.b.length:Int)⟩ []:=
 .pure hg fun M a w _ hs hG=>by
  obtain⟨h1,h2⟩:=yC.1 (hx.get hs (fun t ht=>zB (qM (by simp[ht]))) hG)
  exact⟨_,zqA hT h1,yz.2 ⟨rfl,by unfold InI;omega⟩⟩
theorem ze.indexStr {x i:Operand}{T:Nat}{m:Str}{k:Int}(hg:zU ops g L G)(hT:P.underlying T=some .string)(hx:Opd L G x (rep m))(hi:Opd L G i (rep k))(hk:G→inR m.b k):
  ze P ops fs ⟨d,.index T x i,ty,pos,after,g⟩ L B (xr,[]) ⟨G,rep (⟨((gx m.b k).toNat:Int)⟩:KI .u8)⟩ []:=
 .pure hg fun M a w _ hs hG=>by
  obtain⟨h1,_⟩:=yC.1 (hx.get hs (fun t ht=>zB (by simp[Op.operands,ht])) hG)
  obtain⟨h2,_⟩:=yz.1 (hi.get hs (fun t ht=>zB (by simp[Op.operands,ht])) hG)
  obtain⟨k0,k1⟩:=hk hG
  have hun:(underlying T).run P w = .ok .string w:=by simp[underlying,hT,go_sem]
  have hlt:k.toNat<m.b.length:=by omega
  have hget:(ByteArray.mk m.b.toArray)[k.toNat]?=some m.b[k.toNat]:=by
   rw[getElem?_pos (ByteArray.mk m.b.toArray) k.toNat (by show k.toNat<m.b.toArray.size;simpa using hlt)]
   rfl
  have hgx:gx m.b k=m.b[k.toNat]:=by simp[gx,hlt]
  refine⟨.int .u8 ((gx m.b k).toNat:Int),?_,?_⟩
  ·
   simp only[execOp,h1,h2,Instr.index,asIntOf,Sem.run_bind,hun,Result.andThen,Sem.run_pure,yE]
   simp only[k0,if_true,hget,hgx,go_sem]
   rfl
  ·
   exact Yp.2 rfl
theorem ze.sliceStr {x:Operand}{lo hi:Option Operand}{T:Nat}{m:Str}{i j:Int}(hg:zU ops g L G)(hT:P.underlying T=some .string)(hx:Opd L G x (rep m))
  (hlo:match lo with | some o=>Opd L G o (rep i) | none=>i=0) (hhi:match hi with | some o=>Opd L G o (rep j) | none=>j=m.b.length) (hb:G→y3 m.b.length i j):
  ze P ops fs ⟨d,.slice T x lo hi none,ty,pos,after,g⟩ L B (xr,[]) ⟨G,rep (⟨seg m.b i j⟩:Str)⟩ []:=
 .pure hg fun M a w _ hs hG=>by
  obtain⟨h1,hbd⟩:=yC.1 (hx.get hs (fun t ht=>zB (by simp[Op.operands,ht])) hG)
  obtain⟨h0,h2,h3⟩:=hb hG
  have hlov:(lo.map a.eval=none∧i=0)∨lo.map a.eval=some (.int .i64 i):=by
   cases lo with
   | none=>exact .inl ⟨rfl,hlo⟩
   | some o=>exact .inr (by rw[Option.map_some,(yz.1 (Opd.get hlo hs (fun t ht=>zB (by simp[Op.operands,ht])) hG)).1])
  have hhiv:(hi.map a.eval=none∧j=m.b.length)∨hi.map a.eval=some (.int .i64 j):=by
   cases hi with
   | none=>exact .inl ⟨rfl,hhi⟩
   | some o=>exact .inr (by rw[Option.map_some,(yz.1 (Opd.get hhi hs (fun t ht=>zB (by simp[Op.operands,ht])) hG)).1])
  have hsz:(ByteArray.mk m.b.toArray).size=m.b.length:=rfl
  have hun:(underlying T).run P w = .ok .string w:=by simp[underlying,hT,go_sem]
  have hbo:(Instr.sliceBounds false m.b.length m.b.length (lo.map a.eval) (hi.map a.eval) none).run P w = .ok (i.toNat,j.toNat,m.b.length) w:=by
   have hj:0≤j∧j≤(m.b.length:Int):=⟨by omega,h3⟩
   have hi':0≤i∧i≤((j.toNat:Nat):Int):=⟨h0,by omega⟩
   rcases hlov with⟨e1,e2⟩ | e1<;>rcases hhiv with⟨e3,e4⟩ | e3<;>rw[e1,e3]<;>simp[Instr.sliceBounds,Instr.sliceBound,asIntOf,hj,hi',go_sem]
   ·
    exact⟨by omega,by omega⟩
   ·
    omega
   ·
    subst e4;simp at hi';simp[hi',go_sem]
   ·
    intro hc;omega
  refine⟨yE ⟨seg m.b i j⟩,?_,yC.2 ⟨rfl,by unfold seg;simp;omega⟩⟩
  have hex:(ByteArray.mk m.b.toArray).extract i.toNat j.toNat=ByteArray.mk (seg m.b i j).toArray:=by
   rw[ByteArray.extract_mk]
   unfold seg
   rw[List.drop_take]
  simp only[execOp,h1,yE]
  have hr:(Instr.slice T (.string (ByteArray.mk m.b.toArray)) (lo.map a.eval) (hi.map a.eval) none).run P w = .ok (.string (ByteArray.mk (seg m.b i j).toArray)) w:=by
   rw[←hex]
   unfold Instr.slice
   rw[Sem.run_bind,hun]
   simp only[Result.andThen,Option.isSome_none,Bool.false_eq_true,if_false,hsz]
   rw[Sem.run_bind]
   simp only[Sem.run_pure,Result.andThen]
   rw[hbo]
  have hr2:(Instr.sliceAt T (.string (ByteArray.mk m.b.toArray)) (lo.map a.eval) (hi.map a.eval) none).run P w = .ok (.string (ByteArray.mk (seg m.b i j).toArray)) w:=by
   unfold Instr.sliceAt
   rw[Sem.run_bind,hun]
   exact hr
  rw[Sem.run_bind]
  simp only[Option.map_none]
  rw[hr2]
  rfl
end
end Go.DB
namespace Go.DB
open Go Go.RowKit
section
variable {P:Program} {ops:Array Oper} {fs:Nat} {L:zq} {B:zo} {G:Prop}
variable {ty:TypeId} {pos:String} {after:Array Edge} {g:Option (Nat×Bool)} {xr:List Nat}
theorem zqz {ρ:Operand→Value}{d:Option Nat}{x:Operand}{i:Nat}{vs:Array Value}{v:Value}{w:World}(hx:ρ x = .tuple vs)(hv:vs[i]?=some v):
  (execOp ρ ⟨d,.extract x i,ty,pos,after,g⟩).run P w = .ok (.value v) w:=by
 simp only[execOp,hx,Instr.extract,hv];rfl
end
section
variable {P:Program} {n:Nat} {F:Fr} {L:zq} {B:zo} {Q:Exit→Act→World→Prop}
end
end Go.DB
namespace Go.DB
open Go Go.RowKit
section
variable {P:Program} {ops:Array Oper} {fs:Nat} {L:zq} {B:zo} {G:Prop}
variable {ty:TypeId} {pos:String} {after:Array Edge}
theorem zhx {E:Nat}{α:Type}[Rep α]{z:α}(hz:yZ P E z)(w:World):∃zs,(zeroValue E).run P w = .ok (mkv (Rep.agg α) zs) w∧∀(M:zh) (w:World),Rep.cells M z zs w:=by
 obtain⟨zs,h1,h2⟩:=hz
 obtain⟨i,hi,h1⟩:=Option.bind_eq_some_iff.1 h1
 refine⟨zs,?_,h2⟩
 simp[zeroValue,typeInfo,hi,h1,go_sem]
theorem ztU {T E:Nat}{ad:Option Addr}{c:Nat}{w:World}(hun:(underlying T).run P w = .ok (.slice E) w):(Builtin.clear_ #[T] ty #[.slice ad 0 c]).run P w = .ok (.tuple #[]) w:=by
 cases ad<;>simp[Builtin.clear_,hun,go_sem]
theorem ztV {T E:Nat}{a:Addr}{n c:Nat}{z:Value}{w w':World}(hun:(underlying T).run P w = .ok (.slice E) w)(hz:(zeroValue E).run P w = .ok z w)(hn:0<n)
  (h:(storeCells a (Builtin.zeroCells z.cells n).toList).run P w = .ok () w'):(Builtin.clear_ #[T] ty #[.slice (some a) n c]).run P w = .ok (.tuple #[]) w':=by
 cases n with
 | zero=>omega
 | succ n=>simp[Builtin.clear_,hun,hz,h]
theorem ze.clearPart {T E k:Nat}{x:Operand}{s:Value}{α:Type}[Rep α]{l:List α}{i:Int}{z:α}(hT:yK P T E)(hz:yZ P E z)(hx:Opd L True x (isV (qP s i l.length (Rep.sz α))))(hk:zk B k=some (zd.at s (zp E l)))
  (hb:y3 l.length i l.length):
  ze P ops fs ⟨none,.call { callee:=.builtin .clear,args:=#[x],argTypes:=#[T] },ty,pos,after,none⟩ L B ([k],[k]) ⟨True,zV⟩ [(k,some (zd.at s (zp E (l.take i.toNat++List.replicate (l.length - i.toNat) z))))]:=by
 refine .doing fun M D a w hsz hm hs hsB=>?_
 have hv:a.eval x=qP s i l.length (Rep.sz α):=(ya.1 (hx.get hs (fun t ht=>zB (qM (by simp[ht]))) trivial)).1
 obtain⟨ad,cap,hsl,hlc,hcm,ho⟩:=hsB.has k (by simp) _ hk
 obtain⟨h0,h1,_⟩:=hb
 have hi:i.toNat≤l.length:=by omega
 have hun:(underlying T).run P w = .ok (.slice E) w:=by simp[underlying,show P.underlying T=_ from hT,go_sem]
 have hex:∀w',(Builtin.clear_ #[T] ty #[qP s i l.length (Rep.sz α)]).run P w = .ok (.tuple #[]) w'→
   (execOp a.eval ⟨none,.call { callee:=.builtin .clear,args:=#[x],argTypes:=#[T] },ty,pos,after,none⟩).run P w = .ok (.value (.tuple #[])) w':=by
  intro w' h
  have e:(#[x]:Array Operand).map a.eval=#[qP s i l.length (Rep.sz α)]:=by simp[hv]
  simp only[execOp,resolve,invoke,builtin,e]
  simp[go_sem]
  rw[h];rfl
 by_cases he:i.toNat=l.length
 ·
  -- nothing to clear
  have hsame:l.take i.toNat++List.replicate (l.length - i.toNat) z=l:=by rw[he];simp
  rw[hsame]
  refine zP.value (w':=w) (hex w ?_) (.turn hk (zx.refl _ _) (fun j h=>hm j h) ⟨fun _=>trivial,fun hf=>(hf trivial).elim⟩ ⟨ad,cap,hsl,hlc,hcm,ho⟩)
  subst hsl
  have hz0:(l.length:Int).toNat - i.toNat=0:=by omega
  simp only[qP,sliced,hz0]
  exact ztU hun
 ·
  have hlt:i.toNat<l.length:=by omega
  cases ad with
  | none=>
   obtain⟨e,_⟩:=ho
   subst e;simp at hlt
  | some ad=>
   obtain⟨b,off,sp⟩:=ad
   obtain⟨hsp,hD,hM,pre,cs,rest,hh,hp,hel,hr⟩:=ho
   simp only at hsp hD hM hh hp
   subst hsp
   obtain⟨zs,hzr,hzc⟩:=zhx hz w
   have hcl:cs.length=l.length*Rep.sz α:=hel.len
   have hzl:zs.length=Rep.sz α:=Rep.len (hzc M w)
   have hpos:=Rep.pos (α:=α)
   have hfl:(mkv (Rep.agg α) zs).cells=zs.toArray:=Rep.flat (hzc M w)
   have hn:(l.length:Int).toNat - i.toNat=l.length - i.toNat:=by omega
   have hvs:(Builtin.zeroCells (mkv (Rep.agg α) zs).cells (l.length - i.toNat)).toList=(List.range ((l.length - i.toNat)*Rep.sz α)).map fun j=>zs.toArray[j % zs.length]! :=by
    rw[hfl];simp[Builtin.zeroCells,hzl]
   have hele:zM M w (List.replicate (l.length - i.toNat) z) (Builtin.zeroCells (mkv (Rep.agg α) zs).cells (l.length - i.toNat)).toList:=by rw[hvs];exact znL (hzc M w) _
   generalize hZ:(Builtin.zeroCells (mkv (Rep.agg α) zs).cells (l.length - i.toNat)).toList=Z at hele
   have hzl2:Z.length=(l.length - i.toNat)*Rep.sz α:=by have:=hele.len;simpa using this
   obtain⟨t1,t2⟩:=zM.take l cs i.toNat hi hel
   have hmul:i.toNat*Rep.sz α≤l.length*Rep.sz α:=Nat.mul_le_mul_right _ hi
   have hsub:(l.length - i.toNat)*Rep.sz α=l.length*Rep.sz α - i.toNat*Rep.sz α:=Nat.sub_mul _ _ _
   obtain⟨w',g1,g2,g3,g4,g5,g6,g7⟩:=zmI (P:=P) (m:=b) (off:=off+i.toNat*Rep.sz α) (T:=E) Z (pre++cs.take (i.toNat*Rep.sz α)) (cs.drop (i.toNat*Rep.sz α)) rest w 0
    (by rw[List.length_drop,hcl,hzl2,hsub]) (hele.plain) (by rw[List.length_append,List.length_take,hp];omega) (hh.re (by simp))
   have hkeep:zx (D k) w w':=⟨g3,g4,g5,by omega,fun j _ hn=>g7 j (fun e=>hn ((hD j).2 e))⟩
   have hkM:zx M w w':=⟨g3,g4,g5,by omega,fun j _ hn=>g7 j (fun e=>hn (e▸hM))⟩
   have hlen:(l.take i.toNat++List.replicate (l.length - i.toNat) z).length=l.length:=by rw[List.length_append,List.length_take,List.length_replicate];omega
   refine zP.value (w':=w') (hex w' ?_) (.turn hk hkeep (fun j h=>by rw[g6];exact hm j h) ⟨fun _=>trivial,fun hf=>(hf trivial).elim⟩
    ⟨some ⟨b,off,none⟩,cap,by rw[hlen];exact hsl,by rw[hlen];exact hlc,hcm,rfl,hD,hM,pre,cs.take (i.toNat*Rep.sz α)++Z,rest,g2.re (by simp),hp,?_,by rw[hlen];exact hr⟩)
   ·
    subst hsl
    have hcap:¬cap=i.toNat:=by omega
    simp only[qP,sliced,hn,if_neg hcap,Option.map_some]
    rw[qF]
    exact ztV hun hzr (by omega) (by rw[hZ];exact g1)
   ·
    exact zM.law hkM (fun _ h=>.inl h) _ _ (zM.append _ _ _ _ t1 hele)
end
end Go.DB
namespace Go.DB
open Go Go.RowKit
section
variable {P:Program} {ops:Array Oper} {fs:Nat} {L:zq} {B:zo} {G:Prop}
variable {d:Option Tmp} {ty:TypeId} {pos:String} {after:Array Edge} {g:Option (Nat×Bool)} {xr:List Nat}
theorem zqv {ρ:Operand→Value}{x:Operand}{src dst:TypeId}{v u:Value}{w w':World}(hx:ρ x=v)(h:(convert src dst v).run P w = .ok u w'):
  (execOp ρ ⟨d,.convert src dst x,ty,pos,after,g⟩).run P w = .ok (.value u) w':=by
 simp only[execOp,hx]
 generalize convert src dst v=s at *
 simp[go_sem,h]
end
end Go.DB
namespace Go.DB
open Go Go.RowKit
section
variable {P:Program} {ops:Array Oper} {fs:Nat} {L:zq} {B:zo} {G:Prop}
variable {d:Option Tmp} {ty:TypeId} {pos:String} {after:Array Edge} {g:Option (Nat×Bool)} {xr:List Nat}
theorem zt2 {T:Nat}{α:Type}[Rep α](hT:Ty P T α)(w:World):(isAgg T).run P w = .ok (Rep.agg α) w:=by
 obtain⟨dd,hd,hm⟩:=hT.agg
 rw[←hm]
 cases dd<;>simp[isAgg,underlying,hd,go_sem]
theorem zmF {T off:Nat}{α β:Type}[Rep α][Rep β]{proj:α→β}(hT:Ty P T β)(hF:zj α β off proj){M:zh}{x:α}{cs:List Value}{w:World}(hc:Rep.cells M x cs w):
  ∃v,(part T cs.toArray off).run P w = .ok v w∧(rep (proj x)).p M v w:=by
 obtain⟨hle,hp⟩:=hF
 obtain⟨f,hf,hj⟩:=hp M x cs w hc
 have hl:=Rep.len hf
 have hlc:=Rep.len hc
 have hpos:=Rep.pos (α:=β)
 refine⟨mkv (Rep.agg β) f,?_,f,hf,rfl⟩
 obtain⟨i,hi,hsize⟩:=Option.map_eq_some_iff.1 hT.size
 have hs:(sizeOf T).run P w = .ok (Rep.sz β) w:=by simp[sizeOf,typeInfo,hi,hsize,go_sem]
 unfold part
 rw[Sem.run_bind,zt2 hT]
 simp only[Result.andThen]
 cases hag:Rep.agg β with
 | true=>
  simp only[if_true]
  rw[Sem.run_bind,hs]
  simp only[Result.andThen,mkv,Sem.run_pure]
  congr 2
  refine Array.ext_getElem? fun j=>?_
  simp only[List.extract_toArray,List.getElem?_toArray]
  by_cases hjl:j<Rep.sz β
  ·
   rw[hj j hjl]
   simp only[List.extract,List.getElem?_take,List.getElem?_drop]
   rw[if_pos (by omega)]
  ·
   rw[List.getElem?_eq_none (by simp only[List.extract,List.length_take,List.length_drop];omega),List.getElem?_eq_none (by omega)]
 | false=>
  simp only[Bool.false_eq_true,if_false]
  have h0:=hj 0 hpos
  match f,hl with
  | c::f',_=>
   simp only[List.getElem?_cons_zero,Nat.add_zero]at h0
   have:cs.toArray[off]?=some c:=by simpa using h0.symm
   rw[this]
   simp[mkv,go_sem]
  | [],hl=>simp at hl;omega
def zah (P:Program)(T:Nat)(α:Type)[Rep α][DecidableEq α](d:Nat):Prop:=
 ∀(k:Nat) (M:zh) (w:World) (x y:α) (v u:Value),(rep x).p M v w→(rep y).p M u w→(Op.equalIn (k+d) T v u).run P w = .ok (decide (x=y)) w
theorem zbY {T:Nat}(hT:P.underlying T=some .string):zah P T Str 1:=by
 intro k M w x y v u hv hu
 rw[(yC.1 hv).1,(yC.1 hu).1]
 have:(Op.equalIn (k+1) T (yE x) (yE y)).run P w = .ok ((ByteArray.mk x.b.toArray)==(ByteArray.mk y.b.toArray)) w:=by
  simp[yE,Op.equalIn,underlying,hT,go_sem]
 rw[this]
 congr 1
 rw[beq_toListBytes]
 cases x with | mk a=>cases y with | mk c=>by_cases h:a=c<;>simp[h]
inductive FQ (P:Program) (dd:Nat) (α:Type) [Rep α]:List Field→(α→α→Bool)→Prop
 | nil:FQ P dd α [] (fun _ _=>true)
 | cons {f:Field} {fs:List Field} {β:Type} [Rep β] [DecidableEq β] {proj:α→β} {r:α→α→Bool}:(f.name=="_")=false→zj α β f.offset proj→Ty P f.type β→zah P f.type β dd→FQ P dd α fs r→FQ P dd α (f::fs) (fun x y=>decide (proj x=proj y)&&r x y)
theorem FQ.run {dd:Nat}{α:Type}[Rep α]{fl:List Field}{r:α→α→Bool}(h:FQ P dd α fl r){k:Nat}{M:zh}{w:World}{x y:α}{xs ys:List Value}(hx:Rep.cells M x xs w)(hy:Rep.cells M y ys w):
  (Op.eqFields (k+dd) xs.toArray ys.toArray fl).run P w = .ok (r x y) w:=by
 induction h with
 | nil=>simp[Op.eqFields,go_sem]
 | @cons f fl β _ _ proj r h1 h2 h3 h4 _ ih=>
  have hne:f.name≠"_" :=by intro e;rw[e]at h1;cases h1
  obtain⟨v,hv,hv2⟩:=zmF (P:=P) h3 h2 hx
  obtain⟨u,hu,hu2⟩:=zmF (P:=P) h3 h2 hy
  rw[Op.eqFields,if_pos hne,Sem.run_bind,hv]
  simp only[Result.andThen]
  rw[Sem.run_bind,hu]
  simp only[Result.andThen]
  rw[Sem.run_bind,h4 k M w _ _ _ _ hv2 hu2]
  simp only[Result.andThen]
  by_cases he:proj x=proj y
  ·
   simp only[he,decide_true,Bool.not_true,Bool.false_eq_true,if_false,Bool.true_and]
   exact ih
  ·
   simp[he,go_sem]
theorem zjF {T dd:Nat}{α:Type}[Rep α][DecidableEq α]{fl:Array Field}{r:α→α→Bool}(hT:P.underlying T=some (.struct fl))(hst:P.stoodInHeld T=false)(hq:FQ P dd α fl.toList r)(hr:∀x y,r x y=decide (x=y))(hag:Rep.agg α=true):zah P T α (dd+1):=by
 intro k M w x y v u hv hu
 obtain⟨xs,hx,rfl⟩:=hv
 obtain⟨ys,hy,rfl⟩:=hu
 rw[hag]
 have hfo:P.fieldsOf T=fl:=by unfold Program.fieldsOf;rw[hT]
 show(Op.equalIn (k+dd+1) T (.agg xs.toArray) (.agg ys.toArray)).run P w=_
 rw[run_equalIn_struct w _ T _ _ (by rw[hfo];exact hT) hst,hfo,hq.run hx hy,hr]
theorem zjE {T dd:Nat}{α:Type}[Rep α][DecidableEq α](h:zah P T α dd)(hle:Nat.ble dd 10000=true)(hgd:P.eqGuardType P.depth T=false)(hag:Rep.agg α=true):EqAt P T α:=by
 intro M w p q x y v u hv hu
 have he:(Op.equal T v u).run P w = .ok (decide (x=y)) w:=by
  have:=h (10000 - dd) M w x y v u hv hu
  rw[Nat.sub_add_cancel (Nat.le_of_ble_eq_true hle)]at this
  exact this
 obtain⟨xs,hx,rfl⟩:=hv
 obtain⟨ys,hy,rfl⟩:=hu
 rw[hag]at *
 have hg:∀op,(op = .eql∨op = .neq)→(eqGuard op T p q (mkv true xs) (mkv true ys)).run P w = .ok () w:=by
  intro op hop
  rcases hop with rfl | rfl<;>simp[mkv,eqGuard,go_sem,hgd]
 constructor
 ·
  rw[Sem.run_bind,hg _ (.inl rfl)]
  simp only[Result.andThen,binOp,mkv]at he⊢
  rw[Sem.run_bind,he];rfl
 ·
  rw[Sem.run_bind,hg _ (.inr rfl)]
  simp only[Result.andThen,binOp,mkv]at he⊢
  rw[Sem.run_bind,he];rfl
end
end Go.DB
namespace Go.DB
open Go Go.RowKit
structure GMap (K V:Type) where
 f:K→Option V
namespace GMap
variable {K V:Type}
def nil:GMap K V:=⟨fun _=>none⟩
instance:Inhabited (GMap K V):=⟨nil⟩
def set [DecidableEq K](m:GMap K V)(k:K)(v:V):GMap K V:=⟨fun x=>if x=k then some v else m.f x⟩
def del [DecidableEq K](m:GMap K V)(k:K):GMap K V:=⟨fun x=>if x=k then none else m.f x⟩
def getD (m:GMap K V)(k:K)(z:V):V:=(m.f k).getD z
def has (m:GMap K V)(k:K):Bool:=(m.f k).isSome
end GMap
structure zI {K V:Type} (m:GMap K V) (l:List (K×V)):Prop where
 nodup:(l.map (·.1)).Nodup
 mem:∀k v,(k,v)∈l↔m.f k=some v
open Classical in
noncomputable def GMap.size {K V:Type}(m:GMap K V):Int:=if h:∃l,zI m l then(h.choose.length:Int)else 0
theorem zez {α:Type}{l:List α}(h:l.Nodup){i j:Nat}{a:α}(h1:l[i]?=some a)(h2:l[j]?=some a):i=j:=by
 obtain⟨hi,e1⟩:=List.getElem?_eq_some_iff.1 h1
 obtain⟨hj,e2⟩:=List.getElem?_eq_some_iff.1 h2
 have hp:=List.pairwise_iff_getElem.1 h
 rcases Nat.lt_trichotomy i j with c | c | c
 ·
  exact absurd (e1.trans e2.symm) (hp i j hi hj c)
 ·
  exact c
 ·
  exact absurd (e2.trans e1.symm) (hp j i hj hi c)
theorem zlz {α β:Type}{f:α→β}{l:List α}(h:(l.map f).Nodup):l.Nodup:=List.Pairwise.of_map f (fun a b hne e=>hne (by rw[e])) h
section
variable {K V:Type} {m:GMap K V} {l l':List (K×V)}
theorem zI.perm (h:zI m l)(h':zI m l'):l.Perm l':=
 (List.perm_ext_iff_of_nodup (zlz h.nodup) (zlz h'.nodup)).2 fun⟨k,v⟩=>(h.mem k v).trans (h'.mem k v).symm
theorem zI.nil:zI (GMap.nil:GMap K V) []:=⟨List.nodup_nil,fun k v=>by simp[GMap.nil]⟩
theorem zI.of_perm (h:zI m l)(hp:l.Perm l'):zI m l':=⟨(hp.map _).nodup_iff.1 h.nodup,fun k v=>(hp.mem_iff.symm).trans (h.mem k v)⟩
theorem zI.fst_ne {k:K}(h:zI m l)(hn:∀x∈l,x.1≠k):m.f k=none:=by
 cases hm:m.f k with
 | none=>rfl
 | some v=>exact absurd rfl (hn (k,v) ((h.mem k v).2 hm))
variable [DecidableEq K]
theorem zI.push (h:zI m l){k:K}{v:V}(hn:∀x∈l,x.1≠k):zI (m.set k v) (l++[(k,v)]):=by
 refine⟨?_,fun k' v'=>?_⟩
 ·
  rw[List.map_append,List.nodup_append]
  refine⟨h.nodup,by simp,fun a ha b hb=>?_⟩
  obtain⟨x,hx,rfl⟩:=List.mem_map.1 ha
  simp at hb;subst hb;exact hn x hx
 ·
  simp only[List.mem_append,List.mem_singleton,GMap.set]
  by_cases hk:k'=k
  ·
   subst hk
   rw[if_pos rfl]
   constructor
   ·
    rintro(h1 | h1)
    ·
     exact absurd rfl (hn _ h1)
    ·
     simp at h1;rw[h1]
   ·
    intro h1;simp at h1;right;rw[h1]
  ·
   rw[if_neg hk,←h.mem k' v']
   constructor
   ·
    rintro(h1 | h1)
    ·
     exact h1
    ·
     simp at h1;exact absurd h1.1 hk
   ·
    exact .inl
theorem zI.put (h:zI m l){j:Nat}{x:K×V}{v:V}(hj:l[j]?=some x):zI (m.set x.1 v) (l.set j (x.1,v)):=by
 have hlt:j<l.length:=(List.getElem?_eq_some_iff.1 hj).1
 have hx:l[j]=x:=(List.getElem?_eq_some_iff.1 hj).2
 have hmap:(l.set j (x.1,v)).map (·.1)=l.map (·.1):=by
  rw[List.map_set]
  have:(l.map (·.1))[j]?=some x.1:=by rw[List.getElem?_map,hj];rfl
  apply List.ext_getElem?
  intro i
  by_cases hij:j=i
  ·
   subst hij;rw[List.getElem?_set_self (by simpa using hlt),this]
  ·
   rw[List.getElem?_set_ne hij]
 refine⟨by rw[hmap];exact h.nodup,fun k' v'=>?_⟩
 have hin:x∈l:=List.mem_of_getElem? hj
 simp only[GMap.set]
 by_cases hk:k'=x.1
 ·
  subst hk
  rw[if_pos rfl]
  constructor
  ·
   intro h1
   obtain⟨i,hi⟩:=List.getElem?_of_mem h1
   by_cases hij:j=i
   ·
    subst hij
    rw[List.getElem?_set_self hlt]at hi;simp at hi;rw[hi]
   ·
    rw[List.getElem?_set_ne hij]at hi
    have h2:(l.map (·.1))[i]?=some x.1:=by rw[List.getElem?_map,hi];rfl
    have h3:(l.map (·.1))[j]?=some x.1:=by rw[List.getElem?_map,hj];rfl
    exact absurd (zez h.nodup h3 h2) hij
  ·
   intro h1;simp at h1;subst h1
   exact List.mem_of_getElem? (List.getElem?_set_self hlt)
 ·
  rw[if_neg hk,←h.mem k' v']
  constructor
  ·
   intro h1
   rcases List.mem_or_eq_of_mem_set h1 with h1 | h1
   ·
    exact h1
   ·
    simp at h1;exact absurd h1.1 hk
  ·
   intro h1
   obtain⟨i,hi⟩:=List.getElem?_of_mem h1
   refine List.mem_of_getElem? (i:=i) ?_
   rw[List.getElem?_set_ne]
   ·
    exact hi
   ·
    intro e;subst e;rw[hj]at hi;simp at hi;subst hi;exact hk rfl
theorem zI.drop (h:zI m l){j:Nat}{x:K×V}(hj:l[j]?=some x):zI (m.del x.1) (l.eraseIdx j):=by
 have hlt:j<l.length:=(List.getElem?_eq_some_iff.1 hj).1
 refine⟨h.nodup.sublist ((List.eraseIdx_sublist _ _).map _),fun k' v'=>?_⟩
 simp only[GMap.del]
 constructor
 ·
  intro h1
  obtain⟨i,hne,hi⟩:=List.mem_eraseIdx_iff_getElem?.1 h1
  have hk:k'≠x.1:=by
   intro e
   have h2:(l.map (·.1))[i]?=some x.1:=by rw[List.getElem?_map,hi,←e];rfl
   have h3:(l.map (·.1))[j]?=some x.1:=by rw[List.getElem?_map,hj];rfl
   exact hne (zez h.nodup h2 h3)
  rw[if_neg hk,←h.mem];exact List.mem_of_getElem? hi
 ·
  intro h1
  by_cases hk:k'=x.1
  ·
   rw[if_pos hk]at h1;cases h1
  ·
   rw[if_neg hk,←h.mem]at h1
   obtain⟨i,hi⟩:=List.getElem?_of_mem h1
   refine List.mem_eraseIdx_iff_getElem?.2 ⟨i,fun e=>hk ?_,hi⟩
   subst e;rw[hj]at hi;simp at hi;rw[hi]
end
def zft {K:Type}(k:K)(es:List MapEntry)(l:List K)(r:Option (Nat×Value)):Prop:=
 (r=none∧∀x∈l,x≠k)∨∃j e x,r=some (j,e.val)∧es[j]?=some e∧l[j]?=some x∧x=k
class MKey (K:Type) [Rep K] [DecidableEq K] where
 desc:Program→TypeId→Prop
 check:∀{P:Program} {T:TypeId} {M:zh} {w0:World} {k:K} {v:Value} (e:Bool) (w:World),desc P T→(rep k).p M v w0→(Instr.checkKey e 10000 T v).run P w = .ok () w
 find:∀{P:Program} {T:TypeId} {M M':zh} {w w':World} {k:K} {v:Value} (w0:World),desc P T→(rep k).p M' v w'→∀(es:List MapEntry) (l:List K),es.length=l.length→
  (∀(j:Nat) (e:MapEntry) (x:K),es[j]?=some e→l[j]?=some x→(rep x).p M e.key w)→∃r,(Instr.findKey T v es).run P w0 = .ok r w0∧zft k es l r
 bits:∀{M M' w w'} {k:K} {v1 v2:Value},(rep k).p M v1 w→(rep k).p M' v2 w'→Instr.sameBits 10000 v1 v2=true
theorem zjZ {K:Type}[Rep K][DecidableEq K]{desc:TypeDesc}(same:∀{M M' w w'} {k1 k2:K} {v1 v2:Value},(rep k1).p M v1 w→(rep k2).p M' v2 w'→Instr.sameNow desc v1 v2=some (decide (k1=k2))){M M':zh}{w w':World}{k:K}{v:Value}(hv:(rep k).p M' v w'):∀(es:List MapEntry) (l:List K) (i:Nat),es.length=l.length→
  (∀(j:Nat) (e:MapEntry) (x:K),es[j]?=some e→l[j]?=some x→(rep x).p M e.key w)→
  ∃r,Instr.findNow desc v es i=some r∧((r=none∧∀x∈l,x≠k)∨∃j e x,r=some (i+j,e.val)∧es[j]?=some e∧l[j]?=some x∧x=k)
 | [],l,i,h,_=>by
  have:l=[]:=List.length_eq_zero_iff.1 h.symm
  subst this
  exact⟨none,rfl,.inl ⟨rfl,by simp⟩⟩
 | e::es,[],i,h,_=>by simp at h
 | e::es,x::l,i,h,h'=>by
  have h0:=h' 0 e x rfl rfl
  have hs:=same hv h0
  simp only[Instr.findNow,hs]
  by_cases hk:k=x
  ·
   rw[decide_eq_true hk]
   exact⟨_,rfl,.inr ⟨0,e,x,rfl,rfl,rfl,hk.symm⟩⟩
  ·
   rw[decide_eq_false hk]
   obtain⟨r,h1,h2⟩:=zjZ same hv es l (i+1) (by simpa using h) (fun j e' x' h1 h2=>h' (j+1) e' x' (by simpa using h1) (by simpa using h2))
   refine⟨r,h1,?_⟩
   rcases h2 with⟨h2,h3⟩ | ⟨j,e',x',h2,h3,h4,h5⟩
   ·
    exact .inl ⟨h2,fun y hy=>by
     rcases List.mem_cons.1 hy with rfl | hy
     ·
      exact fun e=>hk e.symm
     ·
      exact h3 y hy⟩
   ·
    exact .inr ⟨j+1,e',x',by rw[h2];congr 2;omega,by simpa using h3,by simpa using h4,h5⟩
theorem zj0 {K:Type}[Rep K][DecidableEq K]{desc:TypeDesc}(same:∀{M M' w w'} {k1 k2:K} {v1 v2:Value},(rep k1).p M v1 w→(rep k2).p M' v2 w'→Instr.sameNow desc v1 v2=some (decide (k1=k2)))
  {P:Program} {T:TypeId} {M M':zh} {w w':World} {k:K} {v:Value} (w0:World) (hT:P.underlying T=some desc) (hv:(rep k).p M' v w') (es:List MapEntry) (l:List K) (hl:es.length=l.length)
  (h:∀(j:Nat) (e:MapEntry) (x:K),es[j]?=some e→l[j]?=some x→(rep x).p M e.key w):∃r,(Instr.findKey T v es).run P w0 = .ok r w0∧zft k es l r:=by
 obtain⟨r,h1,h2⟩:=zjZ same hv es l 0 hl h
 refine⟨r,?_,by simpa [zft]using h2⟩
 have hun:(underlying T).run P w0 = .ok desc w0:=by simp[underlying,hT,go_sem]
 simp only[Instr.findKey,Sem.run_bind,hun,Result.andThen,h1,Sem.run_pure]
instance:MKey Int where
 desc:=fun P T=>P.underlying T=some (.int .i64)
 find:=fun w0 hT hv es l hl h=>zj0 (fun h1 h2=>by
  obtain⟨rfl,_⟩:=yz.1 h1
  obtain⟨rfl,_⟩:=yz.1 h2
  simp only[Instr.sameNow,if_true]
  congr 1) w0 hT hv es l hl h
 check:=fun e w hT _=>by
  unfold Instr.checkKey
  simp[underlying,hT,go_sem]
 bits:=fun h1 h2=>by
  obtain⟨rfl,_⟩:=yz.1 h1
  obtain⟨rfl,_⟩:=yz.1 h2
  unfold Instr.sameBits
  simp
instance:MKey Str where
 desc:=fun P T=>P.underlying T=some .string
 find:=fun w0 hT hv es l hl h=>zj0 (fun {M M' w w' k1 k2 v1 v2} h1 h2=>by
  obtain⟨rfl,_⟩:=yC.1 h1
  obtain⟨rfl,_⟩:=yC.1 h2
  simp only[Instr.sameNow,yE]
  congr 1
  rw[Bool.eq_iff_iff,Go.MapKept.bytes_beq,decide_eq_true_eq]
  cases k1;cases k2;simp) w0 hT hv es l hl h
 check:=fun e w hT _=>by
  unfold Instr.checkKey
  simp[underlying,hT,go_sem]
 bits:=fun h1 h2=>by
  obtain⟨rfl,_⟩:=yC.1 h1
  obtain⟨rfl,_⟩:=yC.1 h2
  unfold Instr.sameBits
  exact(Go.MapKept.bytes_beq _ _).2 rfl
section
variable {K V:Type} [Rep K] [Rep V]
def qv (M:zh)(w:World)(es:List MapEntry)(l:List (K×V)):Prop:=
 es.length=l.length∧∀(j:Nat) (e:MapEntry) (x:K×V),es[j]?=some e→l[j]?=some x→(rep x.1).p M e.key w∧(rep x.2).p M e.val w
theorem qv.law {M M':zh}{w w':World}{es:List MapEntry}{l:List (K×V)}(hk:zx M w w')(hm:∀k,M' k→M k∨w.heap.size≤k)(h:qv M w es l):qv M' w' es l:=
 ⟨h.1,fun j e x h1 h2=>⟨(rep x.1).law M M' _ w w' hk hm (h.2 j e x h1 h2).1,(rep x.2).law M M' _ w w' hk hm (h.2 j e x h1 h2).2⟩⟩
theorem qv.nil {M:zh}{w:World}:qv M w [] ([]:List (K×V)):=⟨rfl,fun j e x h=>by simp at h⟩
theorem qv.at {M:zh}{w:World}{es:List MapEntry}{l:List (K×V)}(h:qv M w es l){j:Nat}{e:MapEntry}(hj:es[j]?=some e):∃x,l[j]?=some x∧(rep x.1).p M e.key w∧(rep x.2).p M e.val w:=by
 have hlt:=(List.getElem?_eq_some_iff.1 hj).1
 have:j<l.length:=by rw[←h.1];exact hlt
 exact⟨l[j],List.getElem?_eq_getElem this,h.2 j e _ hj (List.getElem?_eq_getElem this)⟩
theorem qv.push {M:zh}{w:World}{es:List MapEntry}{l:List (K×V)}(h:qv M w es l){e:MapEntry}{x:K×V}(h1:(rep x.1).p M e.key w)(h2:(rep x.2).p M e.val w):qv M w (es++[e]) (l++[x]):=by
 refine⟨by simp[h.1],fun j e' x' hj hx=>?_⟩
 by_cases hlt:j<es.length
 ·
  rw[List.getElem?_append_left hlt]at hj
  rw[List.getElem?_append_left (by rw[←h.1];exact hlt)]at hx
  exact h.2 j e' x' hj hx
 ·
  rw[List.getElem?_append_right (by omega)]at hj
  rw[List.getElem?_append_right (by rw[←h.1];omega)]at hx
  obtain⟨k,hk⟩:∃k,j - es.length=k:=⟨_,rfl⟩
  rw[←h.1,hk]at hx
  rw[hk]at hj
  cases k with
  | zero=>simp at hj hx;subst hj hx;exact⟨h1,h2⟩
  | succ k=>simp at hj
theorem qv.set {M:zh}{w:World}{es:List MapEntry}{l:List (K×V)}(h:qv M w es l){j:Nat}{e:MapEntry}{x:K×V}(h1:(rep x.1).p M e.key w)(h2:(rep x.2).p M e.val w):qv M w (es.set j e) (l.set j x):=by
 refine⟨by simp[h.1],fun i e' x' hj hx=>?_⟩
 by_cases hij:j=i
 ·
  subst hij
  have hlt:j<es.length:=by
   rcases Nat.lt_or_ge j es.length with h' | h'
   ·
    exact h'
   ·
    rw[List.getElem?_eq_none (by simpa using h')]at hj;cases hj
  rw[List.getElem?_set_self hlt]at hj
  rw[List.getElem?_set_self (by rw[←h.1];exact hlt)]at hx
  simp at hj hx;subst hj hx;exact⟨h1,h2⟩
 ·
  rw[List.getElem?_set_ne hij]at hj
  rw[List.getElem?_set_ne hij]at hx
  exact h.2 i e' x' hj hx
theorem qv.erase {M:zh}{w:World}{es:List MapEntry}{l:List (K×V)}(h:qv M w es l)(j:Nat):qv M w (es.eraseIdx j) (l.eraseIdx j):=by
 refine⟨by rw[List.length_eraseIdx,List.length_eraseIdx,h.1],fun i e' x' hj hx=>?_⟩
 rw[List.getElem?_eraseIdx]at hj hx
 by_cases hij:i<j
 ·
  rw[if_pos hij]at hj hx;exact h.2 i e' x' hj hx
 ·
  rw[if_neg hij]at hj hx;exact h.2 _ e' x' hj hx
theorem zeZ [DecidableEq K][MKey K]{P:Program}{T:Nat}{M M':zh}{w w' w0:World}{k:K}{v:Value}(hT:MKey.desc K P T)(hv:(rep k).p M' v w'){es:Array MapEntry}{l:List (K×V)}(h:qv M w es.toList l):
  ∃r,(Instr.findKey T v es.toList).run P w0 = .ok r w0∧((r=none∧∀x∈l,x.1≠k)∨∃j e x,r=some (j,e.val)∧es.toList[j]?=some e∧l[j]?=some x∧x.1=k):=by
 obtain⟨r,h1,h2⟩:=MKey.find (M:=M) (w:=w) w0 hT hv es.toList (l.map (·.1)) (by rw[List.length_map];exact h.1) (fun j e x hj hx=>by
  rw[List.getElem?_map,Option.map_eq_some_iff]at hx
  obtain⟨y,hy,rfl⟩:=hx
  exact(h.2 j e y hj hy).1)
 refine⟨r,h1,?_⟩
 rcases h2 with⟨h2,h3⟩ | ⟨j,e,x,h2,h3,h4,h5⟩
 ·
  exact .inl ⟨h2,fun x hx=>h3 x.1 (List.mem_map.2 ⟨x,hx,rfl⟩)⟩
 ·
  rw[List.getElem?_map,Option.map_eq_some_iff]at h4
  obtain⟨y,hy,rfl⟩:=h4
  exact .inr ⟨j,e,y,h2,h3,hy,h5⟩
structure qC (M:zh) (w:World) (m:GMap K V) (es:Array MapEntry) (clock:Nat) (l:List (K×V)):Prop where
 ents:qv M w es.toList l
 lists:zI m l
 born:(es.toList.map (·.born)).Nodup
 low:∀e∈es.toList,e.born<clock
theorem qC.law {M M':zh}{w w':World}{m:GMap K V}{es:Array MapEntry}{clock:Nat}{l:List (K×V)}(hk:zx M w w')(hm:∀k,M' k→M k∨w.heap.size≤k)(h:qC M w m es clock l):qC M' w' m es clock l:=
 ⟨h.ents.law hk hm,h.lists,h.born,h.low⟩
instance:Rep (GMap K V) where
 sz:=1
 agg:=false
 cells:=fun M m cs w=>∃v,cs=[v]∧((v = .map none∧m=GMap.nil)∨∃b es clock l,v = .map (some b)∧¬M b∧b<w.heap.size∧w.heap[b]?=some (.map es clock)∧qC M w m es clock l)
 len:=fun⟨v,h,_⟩=>by rw[h];rfl
 pos:=by decide
 flat:=fun⟨v,h,hv⟩=>by
  subst h
  rcases hv with⟨rfl,_⟩ | ⟨b,es,clock,l,rfl,_⟩<;>rfl
 plain:=fun⟨v,h,hv⟩ c hc=>by
  subst h;simp at hc;subst hc
  rcases hv with⟨rfl,_⟩ | ⟨b,es,clock,l,rfl,_⟩<;>rfl
 law:=fun {M M' x cs w w'} hk hm ⟨v,h,hv⟩=>⟨v,h,by
  rcases hv with hv | ⟨b,es,clock,l,h1,h2,h3,h4,h5⟩
  ·
   exact .inl hv
  ·
   exact .inr ⟨b,es,clock,l,h1,fun hb=>(hm b hb).elim h2 (by omega),Nat.lt_of_lt_of_le h3 hk.size,by rw[hk.block b h3 h2];exact h4,h5.law hk hm⟩⟩
theorem za7 {m:GMap K V}{M:zh}{v:Value}{w:World}:(rep m).p M v w↔(v = .map none∧m=GMap.nil)∨∃b es clock l,v = .map (some b)∧¬M b∧b<w.heap.size∧w.heap[b]?=some (.map es clock)∧qC M w m es clock l:=by
 constructor
 ·
  rintro⟨cs,⟨v',h,hv⟩,e⟩
  subst h
  have:v=v':=e
  subst this;exact hv
 ·
  intro h;exact⟨[v],⟨v,rfl,h⟩,rfl⟩
instance:Fits (GMap K V):=⟨fun _=>True⟩
instance:FitsRep (GMap K V):=⟨fun _=>trivial⟩
theorem zgR {M:zh}{w:World}:Rep.cells M (GMap.nil:GMap K V) [.map none] w:=⟨_,rfl,.inl ⟨rfl,rfl⟩⟩
def zW (m:GMap K V):zd where
 p:=fun M D v w=>∃b es clock l,v = .map (some b)∧(∀k,D k↔k=b)∧M b∧w.heap[b]?=some (.map es clock)∧qC M w m es clock l
 inM:=fun M D v w ⟨b,_,_,_,_,hD,hM,_⟩ k hk=>(hD k).1 hk▸hM
 law:=fun M M' D v w w' hk hm hown ⟨b,es,clock,l,hv,hD,hM,hh,h⟩=>by
  obtain⟨h1,h2⟩:=hown b ((hD b).2 rfl)
  exact⟨b,es,clock,l,hv,hD,h1,by rw[h2];exact hh,h.law hk hm⟩
theorem zla {m:GMap K V}{M D:zh}{w:World}{s:Value}(h:(zW m).p M D s w)(hms:∀k,M k→k<w.heap.size):(rep m).p (fun k=>M k∧¬D k) s w:=by
 obtain⟨b,es,clock,l,hv,hD,hM,hh,h⟩:=h
 exact za7.2 (.inr ⟨b,es,clock,l,hv,fun hb=>hb.2 ((hD b).2 rfl),hms b hM,hh,h.law (zx.refl _ _) (fun k hk=>.inl hk.1)⟩)
end
end Go.DB
namespace Go.DB
open Go Go.RowKit
def qD (P:Program)(T kt et:TypeId)(d:Program→TypeId→Prop):Prop:=P.underlying T=some (.map kt et)∧d P kt
section
variable {P:Program} {K V:Type} [Rep K] [DecidableEq K] [MKey K] [Rep V] {T kt et:TypeId} {m:GMap K V} {k:K} {x z:V}
theorem J5 {w:World}{d:TypeDesc}(h:P.underlying T=some d):(underlying T).run P w = .ok d w:=by simp[underlying,h,go_sem]
theorem zbe {M M':zh}{w w':World}{b:Nat}{es:Array MapEntry}{clock:Nat}{l:List (K×V)}{kv:Value}(hT:qD P T kt et (MKey.desc K))(hz:yZ P et z)(hv:(rep k).p M' kv w')
  (hb:w.heap[b]?=some (.map es clock)) (h:qC M w m es clock l) (c:Bool):
  ∃u,(rep (m.getD k z)).p M u w∧(Instr.lookup T (.map (some b)) kv c).run P w = .ok (if c then .tuple #[u,.bool (m.has k)]else u) w:=by
 obtain⟨zs,hz1,hz2⟩:=zhx hz w
 obtain⟨r,h1,h2⟩:=zeZ (w0:=w) hT.2 hv h.ents
 rcases h2 with⟨rfl,h3⟩ | ⟨j,e,y,rfl,h3,h4,h5⟩
 ·
  have hn:=h.lists.fst_ne h3
  have e:m.getD k z=z:=by simp[GMap.getD,hn]
  refine⟨mkv (Rep.agg V) zs,by rw[e];exact⟨zs,hz2 M w,rfl⟩,?_⟩
  simp only[GMap.has,hn,Option.isSome_none]
  simp only[Instr.lookup,Sem.run_bind,J5 hT.1,Go.MapKept.run_getObj_map hb,Sem.run_pure,MKey.check _ w hT.2 hv,h1,hz1,Result.andThen]
 ·
  have hy:=h.lists
  have hm:m.f k=some y.2:=by rw[←h5];exact(hy.mem y.1 y.2).1 (List.mem_of_getElem? h4)
  have hval:(rep (m.getD k z)).p M e.val w:=by
   have:=(h.ents.2 j e y h3 h4).2
   simpa only[GMap.getD,hm,Option.getD_some]using this
  refine⟨_,hval,?_⟩
  simp only[GMap.has,hm,Option.isSome_some]
  simp only[Instr.lookup,Sem.run_bind,J5 hT.1,Go.MapKept.run_getObj_map hb,Sem.run_pure,MKey.check _ w hT.2 hv,h1,Result.andThen]
theorem zmD {M':zh}{w w':World}{kv:Value}(hT:qD P T kt et (MKey.desc K))(hz:yZ P et z)(hv:(rep k).p M' kv w')(c:Bool):
  ∃u,(∀M,(rep ((GMap.nil:GMap K V).getD k z)).p M u w)∧(Instr.lookup T (.map none) kv c).run P w = .ok (if c then .tuple #[u,.bool ((GMap.nil:GMap K V).has k)]else u) w:=by
 obtain⟨zs,hz1,hz2⟩:=zhx hz w
 obtain⟨r,h1,h2⟩:=zeZ (V:=V) (w0:=w) (M:=NoM) (w:=w) (es:=#[]) (l:=[]) hT.2 hv qv.nil
 have hr:r=none:=by
  rcases h2 with⟨h,_⟩ | ⟨j,e,y,_,h3,_⟩
  ·
   exact h
  ·
   simp at h3
 subst hr
 refine⟨_,fun M=>⟨zs,hz2 M w,rfl⟩,?_⟩
 simp only[Instr.lookup,Sem.run_bind,J5 hT.1,Sem.run_pure,MKey.check _ w hT.2 hv,h1,hz1,Result.andThen,GMap.has,GMap.nil,Option.isSome_none]
theorem zcN {M:zh}{w:World}{b:Nat}{es:Array MapEntry}{clock:Nat}{l:List (K×V)}{kv xv:Value}(hT:qD P T kt et (MKey.desc K))(hv:(rep k).p M kv w)(hx:(rep x).p M xv w)
  (hb:w.heap[b]?=some (.map es clock)) (h:qC M w m es clock l):
  ∃es' clock' l',(Instr.mapUpdate T (.map (some b)) kv xv).run P w = .ok () { w with heap:=w.heap.setIfInBounds b (.map es' clock') }∧qC M w (m.set k x) es' clock' l':=by
 obtain⟨r,h1,h2⟩:=zeZ (w0:=w) hT.2 hv h.ents
 rcases h2 with⟨rfl,h3⟩ | ⟨j,e,y,rfl,h3,h4,h5⟩
 ·
  refine⟨es.push { key:=kv,val:=xv,born:=clock },clock+1,l++[(k,x)],?_,⟨?_,h.lists.push h3,?_,?_⟩⟩
  ·
   simp only[Instr.mapUpdate,Sem.run_bind,J5 hT.1,Go.MapKept.run_getObj_map hb,Sem.run_pure,MKey.check _ w hT.2 hv,h1,Result.andThen,Go.MapKept.run_setObj_map _ hb]
  ·
   rw[Array.toList_push];exact h.ents.push (x:=(k,x)) hv hx
  ·
   rw[Array.toList_push,List.map_append,List.nodup_append]
   refine⟨h.born,by simp,fun a ha b' hb'=>?_⟩
   obtain⟨e,he,rfl⟩:=List.mem_map.1 ha
   simp at hb';subst hb'
   have:=h.low e he
   omega
  ·
   intro e he
   rw[Array.toList_push]at he
   rcases List.mem_append.1 he with he | he
   ·
    have:=h.low e he;omega
   ·
    simp at he;subst he;exact Nat.lt_succ_self _
 ·
  have hj:es[j]?=some e:=by rw[←Array.getElem?_toList];exact h3
  have hset:(es.modify j fun e=>{ e with key:=kv,val:=xv }).toList=es.toList.set j { e with key:=kv,val:=xv }:=by
   rw[Array.toList_modify]
   apply List.ext_getElem?
   intro i
   rw[List.getElem?_modify,List.getElem?_set]
   by_cases hij:j=i
   ·
    subst hij
    have hlt:=(List.getElem?_eq_some_iff.1 h3).1
    simp[h3]
    simpa using hlt
   ·
    simp[hij]
  have hko:=(h.ents.2 j e y h3 h4).1
  rw[h5]at hko
  refine⟨es.modify j (fun e=>{ e with key:=kv,val:=xv }),clock,l.set j (k,x),?_,⟨?_,?_,?_,?_⟩⟩
  ·
   simp only[Instr.mapUpdate,Sem.run_bind,J5 hT.1,Go.MapKept.run_getObj_map hb,Sem.run_pure,MKey.check _ w hT.2 hv,h1,Result.andThen,hj,Option.map_some,Option.getD_some,Instr.keyThatStays,MKey.bits hko hv,if_true,Go.MapKept.run_setObj_map _ hb]
  ·
   rw[hset];exact h.ents.set (x:=(k,x)) hv hx
  ·
   rw[←h5];exact h.lists.put h4
  ·
   rw[hset,List.map_set]
   have:(es.toList.map (·.born)).set j e.born=es.toList.map (·.born):=by
    apply List.ext_getElem?
    intro i
    by_cases hij:j=i
    ·
     subst hij
     rw[List.getElem?_set_self (by simpa using(List.getElem?_eq_some_iff.1 h3).1),List.getElem?_map,h3];rfl
    ·
     rw[List.getElem?_set_ne hij]
   rw[this];exact h.born
  ·
   intro e' he'
   rw[hset]at he'
   rcases List.mem_or_eq_of_mem_set he' with he' | rfl
   ·
    exact h.low e' he'
   ·
    exact h.low e (List.mem_of_getElem? h3)
theorem ztW {M:zh}{w:World}{b:Nat}{es:Array MapEntry}{clock:Nat}{l:List (K×V)}{kv:Value}(hT:qD P T kt et (MKey.desc K))(hv:(rep k).p M kv w)
  (hb:w.heap[b]?=some (.map es clock)) (h:qC M w m es clock l) (ty:TypeId) {ts:Array TypeId} (hts:ts[0]?=some T):
  ∃es' l',(Builtin.delete_ ts ty #[.map (some b),kv]).run P w = .ok (.tuple #[]) { w with heap:=w.heap.setIfInBounds b (.map es' clock) }∧qC M w (m.del k) es' clock l':=by
 obtain⟨r,h1,h2⟩:=zeZ (w0:=w) hT.2 hv h.ents
 rcases h2 with⟨rfl,h3⟩ | ⟨j,e,y,rfl,h3,h4,h5⟩
 ·
  refine⟨es,l,?_,?_⟩
  ·
   simp only[Builtin.delete_,hts,List.getElem?_toArray,List.getElem?_cons_zero,List.getElem?_cons_succ,Sem.run_bind,J5 hT.1,Go.MapKept.run_getObj_map hb,Sem.run_pure,MKey.check _ w hT.2 hv,h1,Result.andThen,Go.MapKept.run_setObj_map _ hb]
  ·
   have:m.del k=m:=by
    cases m with | mk f=>
    simp only[GMap.del,GMap.mk.injEq]
    funext y
    by_cases hy:y=k
    ·
     subst hy;rw[if_pos rfl];exact(h.lists.fst_ne h3).symm
    ·
     rw[if_neg hy]
   rw[this];exact h
 ·
  have hjl:j<es.size:=by
   have:=(List.getElem?_eq_some_iff.1 h3).1
   simpa using this
  have hset:(es.eraseIdxIfInBounds j).toList=es.toList.eraseIdx j:=by
   unfold Array.eraseIdxIfInBounds
   rw[dif_pos hjl];simp
  refine⟨es.eraseIdxIfInBounds j,l.eraseIdx j,?_,⟨?_,?_,?_,?_⟩⟩
  ·
   simp only[Builtin.delete_,hts,List.getElem?_toArray,List.getElem?_cons_zero,List.getElem?_cons_succ,Sem.run_bind,J5 hT.1,Go.MapKept.run_getObj_map hb,Sem.run_pure,MKey.check _ w hT.2 hv,h1,Result.andThen,Go.MapKept.run_setObj_map _ hb]
  ·
   rw[hset];exact h.ents.erase j
  ·
   rw[←h5];exact h.lists.drop h4
  ·
   rw[hset];exact h.born.sublist ((List.eraseIdx_sublist _ _).map _)
  ·
   intro e' he'
   rw[hset]at he'
   exact h.low e' ((List.eraseIdx_sublist _ _).subset he')
end
section
variable {P:Program} {ops:Array Oper} {fs:Nat} {L:zq} {B:zo} {G:Prop}
variable {ty:TypeId} {pos:String} {after:Array Edge} {g:Option (Nat×Bool)} {xr:List Nat} {d:Option Tmp}
variable {K V:Type} [Rep K] [DecidableEq K] [MKey K] [Rep V] {T kt et:TypeId} {m:GMap K V} {k:K} {z:V}
theorem zbv {α β:Type}[Rep α][Rep β]{r:α×β}{M:zh}{w:World}{u v:Value}(h1:(rep r.1).p M u w)(h2:(rep r.2).p M v w):(zfl r).p M (.tuple #[u,v]) w:=
 ⟨[u,v],rfl,rfl,fun i S y hi hy=>by
  match i with
  | 0=>simp at hi hy;subst hi hy;exact h1
  | 1=>simp at hi hy;subst hi hy;exact h2
  | i+2=>simp at hi⟩
theorem ze.lookup {x y:Operand}(hg:zU ops g L G)(hT:qD P T kt et (MKey.desc K))(hz:yZ P et z)(hx:Opd L G x (rep m))(hy:Opd L G y (rep k)):
  ze P ops fs ⟨d,.lookup T x y false,ty,pos,after,g⟩ L B (xr,[]) ⟨G,rep (m.getD k z)⟩ []:=
 .pure hg fun M a w _ hs hG=>by
  have h1:=za7.1 (hx.get hs (fun t ht=>zB (by simp[Op.operands,ht])) hG)
  have h2:=hy.get hs (fun t ht=>zB (by simp[Op.operands,ht])) hG
  rcases h1 with⟨hv,rfl⟩ | ⟨b,es,clock,l,hv,hM,hb,hh,hi⟩
  ·
   obtain⟨u,hu,hr⟩:=zmD (V:=V) (w:=w) hT hz h2 false
   refine⟨u,?_,hu M⟩
   simp only[execOp,hv];rw[Sem.run_bind,hr];rfl
  ·
   obtain⟨u,hu,hr⟩:=zbe hT hz h2 hh hi false
   refine⟨u,?_,hu⟩
   simp only[execOp,hv];rw[Sem.run_bind,hr];rfl
theorem ze.lookupOk {x y:Operand}(hg:zU ops g L G)(hT:qD P T kt et (MKey.desc K))(hz:yZ P et z)(hx:Opd L G x (rep m))(hy:Opd L G y (rep k)):
  ze P ops fs ⟨d,.lookup T x y true,ty,pos,after,g⟩ L B (xr,[]) ⟨G,zfl (m.getD k z,m.has k)⟩ []:=
 .pure hg fun M a w _ hs hG=>by
  have h1:=za7.1 (hx.get hs (fun t ht=>zB (by simp[Op.operands,ht])) hG)
  have h2:=hy.get hs (fun t ht=>zB (by simp[Op.operands,ht])) hG
  rcases h1 with⟨hv,rfl⟩ | ⟨b,es,clock,l,hv,hM,hb,hh,hi⟩
  ·
   obtain⟨u,hu,hr⟩:=zmD (V:=V) (w:=w) hT hz h2 true
   refine⟨_,?_,zbv (hu M) (yS.2 rfl)⟩
   simp only[execOp,hv];rw[Sem.run_bind,hr];rfl
  ·
   obtain⟨u,hu,hr⟩:=zbe hT hz h2 hh hi true
   refine⟨_,?_,zbv hu (yS.2 rfl)⟩
   simp only[execOp,hv];rw[Sem.run_bind,hr];rfl
def ziq (C:zd)(m:GMap K V):Prop:=∀M D v w,C.p M D v w→(zW m).p M D v w
omit [DecidableEq K] [MKey K]in
theorem zlK:ziq (zW m) m:=fun _ _ _ _ h=>h
theorem ze.lookupO {x y:Operand}{q:Nat}(hg:zU ops g L G)(hT:qD P T kt et (MKey.desc K))(hz:yZ P et z){C:zd}(hC:ziq C m)(hx:vb L B x q C)(hy:Opd L G y (rep k)):
  ze P ops fs ⟨d,.lookup T x y false,ty,pos,after,g⟩ L B ([q],[]) ⟨G,rep (m.getD k z)⟩ []:=
 .of hg fun M D a w hm hs hsB hG=>by
  obtain⟨hcc,_⟩:=hx.get hs (fun t ht=>zB (by simp[Op.operands,ht])) hsB (by simp)
  obtain⟨b,es,clock,l,hv,hD,hM,hh,hi⟩:=hC _ _ _ _ hcc
  have h2:=hy.get hs (fun t ht=>zB (by simp[Op.operands,ht])) hG
  obtain⟨u,hu,hr⟩:=zbe hT hz h2 hh hi false
  refine zP.value (v:=u) (w':=w) ?_ ⟨zx.refl _ _,hu⟩
  simp only[execOp,hv];rw[Sem.run_bind,hr];rfl
omit [DecidableEq K] [MKey K]in
theorem ze.makeMap {d:Nat}(hd:Nat.blt d fs=true):
  ze P ops fs ⟨some d,.makeMap T none,ty,pos,after,none⟩ L B ([],[d]) ⟨True,zV⟩ [(d,some (zW (GMap.nil:GMap K V)))]:=by
 refine .doing fun M D a w hsz hm hs _=>?_
 refine zP.value (v:=.map (some w.heap.size)) (w':=w.alloc (.map #[] 0)) rfl (.one (fun k=>M k∨k=w.heap.size) (fun k=>k=w.heap.size) (Ext.alloc _ _) (fun k h=>.inl h) (fun k h=>h.imp id (by omega)) (fun k h=>?_) ⟨fun _=>trivial,fun hf=>(hf trivial).elim⟩ ?_ (fun k h=>by omega))
 ·
  rw[jw]
  rcases h with h | h
  ·
   have:=hm k h;omega
  ·
   omega
 ·
  rw[qJ (by rw[hsz];exact Nat.le_of_ble_eq_true hd)]
  refine⟨w.heap.size,#[],0,[],rfl,fun k=>Iff.rfl,.inr rfl,?_,⟨qv.nil,zI.nil,by simp,by simp⟩⟩
  show(w.heap.push _)[w.heap.size]?=_
  rw[Array.getElem?_push_size]
theorem JQ {b:Nat}{o:Obj}{w:World}{D:zh}(hD:∀k,D k↔k=b):zx D w { w with heap:=w.heap.setIfInBounds b o }:=
 ⟨rfl,rfl,rfl,by simp,fun j _ hn=>by
  have:j≠b:=fun e=>hn ((hD j).2 e)
  simp[Array.getElem?_setIfInBounds,Ne.symm this]⟩
theorem J6 {b:Nat}{o o':Obj}{w:World}(h:w.heap[b]?=some o):(w.heap.setIfInBounds b o')[b]?=some o':=by
 have hlt:b<w.heap.size:=(Array.getElem?_eq_some_iff.1 h).1
 simp[Array.getElem?_setIfInBounds,hlt]
omit [DecidableEq K] [MKey K]in
theorem qC.stay {M D:zh}{w w':World}{es:Array MapEntry}{clock:Nat}{l:List (K×V)}(hk:zx D w w')(hD:∀k,D k→M k)(h:qC M w m es clock l):qC M w' m es clock l:=
 h.law (hk.mono (fun k _ h=>hD k h)) (fun k h=>.inl h)
theorem ze.mapUpdate {x y u:Operand}{q:Nat}{s:Value}{v:V}(hT:qD P T kt et (MKey.desc K))(hx:Opd L True x (isV s))(hq:zk B q=some (zd.at s (zW m)))(hy:Opd L True y (rep k))(hu:Opd L True u (rep v)):
  ze P ops fs ⟨none,.mapUpdate T x y u,ty,pos,after,none⟩ L B ([q],[q]) ⟨True,zV⟩ [(q,some (zd.at s (zW (m.set k v))))]:=by
 refine .doing fun M D a w hsz hm hs hsB=>?_
 have he:a.eval x=s:=(ya.1 (hx.get hs (fun t ht=>zB (by simp[Op.operands,ht])) trivial)).1
 obtain⟨b,es,clock,l,hv,hD,hM,hh,hi⟩:=hsB.has q (by simp) _ hq
 have h2:=hy.get hs (fun t ht=>zB (by simp[Op.operands,ht])) trivial
 have h3:=hu.get hs (fun t ht=>zB (by simp[Op.operands,ht])) trivial
 obtain⟨es',clock',l',hr,hi'⟩:=zcN hT h2 h3 hh hi
 have hk:zx (D q) w { w with heap:=w.heap.setIfInBounds b (.map es' clock') }:=JQ hD
 refine zP.skip ?_ rfl (.turn hq hk (fun j h=>by simpa using hm j h) ⟨fun _=>trivial,fun hf=>(hf trivial).elim⟩ ⟨b,es',clock',l',hv,hD,hM,J6 hh,hi'.stay hk (fun j h=>(hD j).1 h▸hM)⟩)
 simp only[execOp,he,hv];rw[Sem.run_bind,hr];rfl
theorem ze.mapInsert {y u:Operand}{q:Nat}{v:V}(hT:qD P T kt et (MKey.desc K))(hq:zk B q=some (zW m))(hy:Opd L True y (rep k))(hu:Opd L True u (rep v)):
  ze P ops fs ⟨none,.insert T (.tmp q) y u,ty,pos,after,none⟩ L B ([q],[q]) ⟨True,zV⟩ [(q,some (zW (m.set k v)))]:=by
 refine .doing fun M D a w hsz hm hs hsB=>?_
 obtain⟨b,es,clock,l,hv,hD,hM,hh,hi⟩:=hsB.has q (by simp) _ hq
 have h2:=hy.get hs (fun t ht=>zB (by simp[Op.operands,ht])) trivial
 have h3:=hu.get hs (fun t ht=>zB (by simp[Op.operands,ht])) trivial
 obtain⟨es',clock',l',hr,hi'⟩:=zcN hT h2 h3 hh hi
 have hk:zx (D q) w { w with heap:=w.heap.setIfInBounds b (.map es' clock') }:=JQ hD
 refine zP.skip ?_ rfl (.turn hq hk (fun j h=>by simpa using hm j h) ⟨fun _=>trivial,fun hf=>(hf trivial).elim⟩ ⟨b,es',clock',l',by rw[zae];exact hv,hD,hM,J6 hh,hi'.stay hk (fun j h=>(hD j).1 h▸hM)⟩)
 rw[←QD]at hv
 simp only[execOp,hv];rw[Sem.run_bind,hr];rfl
end
end Go.DB
namespace Go.DB
open Go Go.RowKit
section
variable {K V:Type}
def Q0 (m:GMap K V)(p:List (K×V)):Prop:=(p.map (·.1)).Nodup∧∀x∈p,m.f x.1=some x.2
def va (m:GMap K V)(p:List (K×V)):Option (K×V)→Prop
 | none=>zI m p
 | some x=>m.f x.1=some x.2∧x.1∉p.map (·.1)
def jN (es:Array MapEntry)(l:List (K×V))(seen:Array Nat)(p:List (K×V)):Prop:=
 ∃js:List Nat,js.Nodup∧(∀j∈js,j<es.size)∧seen.toList=js.map (fun j=>(es.toList[j]?).elim 0 (·.born))∧p.map some=js.map (fun j=>l[j]?)
theorem jN.nil {es:Array MapEntry}{l:List (K×V)}:jN es l #[] []:=⟨[],List.nodup_nil,by simp,rfl,rfl⟩
end
section
variable {K V:Type} [Rep K] [Rep V] {m:GMap K V} {M:zh} {w:World} {es:Array MapEntry} {clock:Nat} {l p:List (K×V)} {seen:Array Nat}
theorem jN.mem (h:jN es l seen p)(hi:qC M w m es clock l){x:K×V}(hx:x∈p):∃j e,j<es.size∧es.toList[j]?=some e∧l[j]?=some x∧e.born∈seen.toList:=by
 obtain⟨js,h1,h2,h3,h4⟩:=h
 have:some x∈js.map (fun j=>l[j]?):=by rw[←h4];exact List.mem_map.2 ⟨x,hx,rfl⟩
 obtain⟨j,hj,e⟩:=List.mem_map.1 this
 have hlt:j<es.toList.length:=by simpa using h2 j hj
 refine⟨j,es.toList[j],by simpa using hlt,List.getElem?_eq_getElem hlt,e,?_⟩
 rw[h3]
 exact List.mem_map.2 ⟨j,hj,by rw[List.getElem?_eq_getElem hlt];rfl⟩
theorem jN.all (h:jN es l seen p)(hi:qC M w m es clock l)(h0:(leftOf es seen).size=0):zI m p:=by
 obtain⟨js,h1,h2,h3,h4⟩:=h
 have hlen:es.size=l.length:=by simpa using hi.ents.1
 have hcov:∀j,j<es.size→j∈js:=by
  intro j hj
  have hjl:j<es.toList.length:=by simpa using hj
  have he:es.toList[j]∈es.toList:=List.getElem_mem hjl
  have hseen:es.toList[j].born∈seen.toList:=by
   by_cases hc:es.toList[j].born∈seen.toList
   ·
    exact hc
   ·
    exfalso
    have hin:es.toList[j]∈(leftOf es seen).toList:=by
     unfold leftOf
     rw[Array.toList_filter,List.mem_filter]
     refine⟨he,?_⟩
     simp only[Bool.not_eq_true',Array.contains_eq_mem,decide_eq_false_iff_not]
     intro hh;exact hc (by simpa using hh)
    have:(leftOf es seen).toList.length=0:=by simpa using h0
    rw[List.length_eq_zero_iff.1 this]at hin
    cases hin
  rw[h3]at hseen
  obtain⟨i,hi',e⟩:=List.mem_map.1 hseen
  have hil:i<es.toList.length:=by simpa using h2 i hi'
  rw[List.getElem?_eq_getElem hil]at e
  have e1:(es.toList.map (·.born))[i]?=some es.toList[j].born:=by rw[List.getElem?_map,List.getElem?_eq_getElem hil];exact congrArg some e
  have e2:(es.toList.map (·.born))[j]?=some es.toList[j].born:=by rw[List.getElem?_map,List.getElem?_eq_getElem hjl];rfl
  have:=zez hi.born e1 e2
  subst this;exact hi'
 have hp:js.Perm (List.range es.size):=(List.perm_ext_iff_of_nodup h1 List.nodup_range).2 fun j=>by
  rw[List.mem_range]
  exact⟨h2 j,hcov j⟩
 have hl:l.map some=(List.range es.size).map (fun j=>l[j]?):=by
  apply List.ext_getElem?
  intro i
  rw[List.getElem?_map,List.getElem?_map]
  by_cases hlt:i<l.length
  ·
   rw[List.getElem?_range (by omega),List.getElem?_eq_getElem hlt];simp[hlt]
  ·
   rw[List.getElem?_eq_none (by omega)]
   rw[List.getElem?_eq_none (by simp;omega)];rfl
 have hpp:(l.map some).Perm (p.map some):=by
  rw[hl,h4];exact(hp.map _).symm
 have hq:=hpp.filterMap id
 have e:∀q:List (K×V),(q.map some).filterMap id=q:=fun q=>by
  rw[List.filterMap_map]
  exact List.filterMap_some
 rw[e,e]at hq
 exact hi.lists.of_perm hq
theorem jN.more (h:jN es l seen p)(hi:qC M w m es clock l){e:MapEntry}(he:e∈(leftOf es seen).toList):
  ∃x,va m p (some x)∧jN es l (seen.push e.born) (p++[x]):=by
 unfold leftOf at he
 rw[Array.toList_filter,List.mem_filter]at he
 obtain⟨he,hns⟩:=he
 have hns':e.born∉seen.toList:=by
  simp only[Bool.not_eq_true',Array.contains_eq_mem,decide_eq_false_iff_not]at hns
  intro hh;exact hns (by simpa using hh)
 obtain⟨j,hj⟩:=List.getElem?_of_mem he
 obtain⟨x,hx,_,_⟩:=hi.ents.at hj
 have hjl:j<es.toList.length:=(List.getElem?_eq_some_iff.1 hj).1
 have hnew:∀y∈p,y.1≠x.1:=by
  intro y hy e1
  obtain⟨j',e',hlt,h1,h2,h3⟩:=h.mem hi hy
  have a1:(l.map (·.1))[j']?=some x.1:=by rw[List.getElem?_map,h2];exact congrArg some e1
  have a2:(l.map (·.1))[j]?=some x.1:=by rw[List.getElem?_map,hx];rfl
  have:=zez hi.lists.nodup a1 a2
  subst this
  rw[hj]at h1;simp at h1;subst h1
  exact hns' h3
 refine⟨x,⟨(hi.lists.mem x.1 x.2).1 (List.mem_of_getElem? hx),fun hm=>?_⟩,?_⟩
 ·
  obtain⟨y,hy,e1⟩:=List.mem_map.1 hm
  exact hnew y hy e1
 ·
  obtain⟨js,h1,h2,h3,h4⟩:=h
  refine⟨js++[j],?_,fun i hi'=>?_,?_,?_⟩
  ·
   rw[List.nodup_append]
   refine⟨h1,by simp,fun a ha b hb=>?_⟩
   simp at hb;subst hb
   intro e1;subst e1
   apply hns'
   rw[h3];exact List.mem_map.2 ⟨a,ha,by rw[hj];rfl⟩
  ·
   rcases List.mem_append.1 hi' with h' | h'
   ·
    exact h2 i h'
   ·
    simp at h';subst h';simpa using hjl
  ·
   rw[Array.toList_push,h3,List.map_append,List.map_cons,List.map_nil,hj];rfl
  ·
   rw[List.map_append,h4,List.map_append];simp[hx]
def vl (m:GMap K V)(p:List (K×V)):zd where
  p := fun M D v w => ∃ r, v = .pointer (some ⟨r, 0, none⟩) ∧ (∀ k, D k ↔ k = r) ∧ M r ∧
    ((m=GMap.nil∧p=[]∧∃seen,w.heap[r]?=some (.mapIter none 0 seen 0))∨
     ∃b es clock l seen,¬M b∧b<w.heap.size∧w.heap[b]?=some (.map es clock)∧qC M w m es clock l∧w.heap[r]?=some (.mapIter (some b) clock seen clock)∧jN es l seen p)
  inM:=fun M D v w ⟨r,hv,hD,hM,_⟩ k hk=>(hD k).1 hk▸hM
  law:=fun M M' D v w w' hk hm hown ⟨r,hv,hD,hM,h⟩=>by
    obtain⟨h1,h2⟩:=hown r ((hD r).2 rfl)
    refine⟨r,hv,hD,h1,?_⟩
    rw[h2]
    rcases h with h | ⟨b,es,clock,l,seen,a1,a2,a3,a4,a5,a6⟩
    · exact .inl h
    · exact .inr ⟨b,es,clock,l,seen,fun hb=>(hm b hb).elim a1 (by omega),Nat.lt_of_lt_of_le a2 hk.size,by rw[hk.block b a2 a1];exact a3,a4.law hk hm,a5,a6⟩
theorem zch:zaj (vl m p):=fun M D v w ⟨r,hv,_⟩=>⟨r,hv⟩
end
section
variable {K V:Type}
def zlq (r:Nat)(C:List (K×V)→zd)(m:GMap K V)(p:List (K×V)):zd where
 p:=fun M D v w=>∃o vs,va m p o∧v = .tuple vs∧vs[0]?=some (.bool o.isSome)∧(C (p++o.toList)).p M D (ptr r 0) w
 inM:=fun M D v w ⟨o,vs,_,_,_,h⟩=>(C _).inM M D _ w h
 law:=fun M M' D v w w' hk hm hown ⟨o,vs,h1,h2,h3,h⟩=>⟨o,vs,h1,h2,h3,(C _).law M M' D _ w w' hk hm hown h⟩
def zlG (r:Nat)(C:List (K×V)→zd)(m:GMap K V)(p:List (K×V)):zd where
 p:=fun M D v w=>∃o,va m p o∧v = .bool o.isSome∧(C (p++o.toList)).p M D (ptr r 0) w
 inM:=fun M D v w ⟨o,_,_,h⟩=>(C _).inM M D _ w h
 law:=fun M M' D v w w' hk hm hown ⟨o,h1,h2,h⟩=>⟨o,h1,h2,(C _).law M M' D _ w w' hk hm hown h⟩
end
section
variable {P:Program} {ops:Array Oper} {fs:Nat} {L:zq} {B:zo} {G:Prop}
variable {ty:TypeId} {pos:String} {after:Array Edge} {g:Option (Nat×Bool)} {xr:List Nat}
variable {K V:Type} [Rep K] [Rep V] {T kt et:TypeId} {m:GMap K V}
theorem ze.rangeMap {d:Nat}{x:Operand}(hT:P.underlying T=some (.map kt et))(hd:Nat.blt d fs=true)(hx:Opd L True x (rep m)):
  ze P ops fs ⟨some d,.range T x,ty,pos,after,none⟩ L B ([],[d]) ⟨True,zV⟩ [(d,some (vl m []))]:=by
 refine .doing fun M D a w hsz hm hs _=>?_
 have h1:=za7.1 (hx.get hs (fun t ht=>zB (by simp[Op.operands,ht])) trivial)
 have hg:∀o,((w.alloc o).heap)[w.heap.size]?=some o:=fun o=>by
  show(w.heap.push o)[w.heap.size]?=_
  rw[Array.getElem?_push_size]
 have fin:∀o,(Instr.range T (a.eval x)).run P w = .ok (.pointer (some ⟨w.heap.size,0,none⟩)) (w.alloc o)→
   (((m=GMap.nil∧∃seen,o = .mapIter none 0 seen 0))∨∃b es clock l,¬M b∧b<w.heap.size∧w.heap[b]?=some (.map es clock)∧qC M w m es clock l∧o = .mapIter (some b) clock #[] clock)→
   zP P ⟨some d,.range T x,ty,pos,after,none⟩ a w (Leaves ⟨some d,.range T x,ty,pos,after,none⟩ B D [d] ⟨True,zV⟩ [(d,some (vl m []))] M a w):=by
  intro o hr ho
  refine zP.value (v:=.pointer (some ⟨w.heap.size,0,none⟩)) (w':=w.alloc o) ?_ (.one (fun k=>M k∨k=w.heap.size) (fun k=>k=w.heap.size) (Ext.alloc _ _) (fun k h=>.inl h) (fun k h=>h.imp id (by omega)) (fun k h=>?_) ⟨fun _=>trivial,fun hf=>(hf trivial).elim⟩ ?_ (fun k h=>by omega))
  ·
   simp only[execOp];rw[Sem.run_bind,hr];rfl
  ·
   rw[jw]
   rcases h with h | h
   ·
    have:=hm k h;omega
   ·
    omega
  ·
   rw[qJ (by rw[hsz];exact Nat.le_of_ble_eq_true hd)]
   refine⟨w.heap.size,rfl,fun k=>Iff.rfl,.inr rfl,?_⟩
   rw[hg o]
   rcases ho with⟨h2,seen,h3⟩ | ⟨b,es,clock,l,h2,h3,h4,h5,h6⟩
   ·
    exact .inl ⟨h2,rfl,seen,by rw[h3]⟩
   ·
    refine .inr ⟨b,es,clock,l,#[],fun hb=>hb.elim h2 (by omega),by rw[jw];omega,?_,h5.law (Ext.alloc w o).keeps (fun k h=>h.imp id (by omega)),by rw[h6],jN.nil⟩
    rw[(Ext.alloc w o).block b h3 (fun f=>f)];exact h4
 rcases h1 with⟨hv,h2⟩ | ⟨b,es,clock,l,hv,hM,hb,hh,hi⟩
 ·
  exact fin _ (by rw[hv];exact run_range_nilMap w T kt et hT) (.inl ⟨h2,_,rfl⟩)
 ·
  exact fin _ (by rw[hv];exact run_range_map w T kt et b es clock hT hh) (.inr ⟨b,es,clock,l,hM,hb,hh,hi,rfl⟩)
theorem zt3 {M:zh}{w:World}{r b:Nat}{seen:Array Nat}{es:Array MapEntry}{clock:Nat}{l p:List (K×V)}(hr:w.heap[r]?=some (.mapIter (some b) clock seen clock))(hb:w.heap[b]?=some (.map es clock))(hi:qC M w m es clock l)(hs:jN es l seen p):
  ∃o vs w' seen',va m p o∧(Instr.next (.pointer (some ⟨r,0,none⟩)) false ty).run P w = .ok (.tuple vs) w'∧vs[0]?=some (.bool o.isSome)∧(∀D:zh,(∀k,D k↔k=r)→zx D w w')∧w'.heap.size=w.heap.size∧
   w'.heap[r]?=some (.mapIter (some b) clock seen' clock)∧jN es l seen' (p++o.toList):=by
 rcases run_next_at (P:=P) w ty r b clock clock seen es clock hr hb hi.low (Nat.le_refl _)with⟨h0,hrun⟩ | ⟨e,he,w1,hal,hrun⟩
 ·
  exact⟨none,_,w,seen,hs.all hi h0,hrun,rfl,fun D _=>zx.refl _ _,rfl,hr,by simpa using hs⟩
 ·
  obtain⟨x,hx,hs'⟩:=hs.more hi he
  refine⟨some x,_,_,_,hx,hrun,rfl,fun D hD=>?_,?_,?_,hs'⟩
  ·
   have hk:zx D w1 (Go.ChangeMaps.setBlock w1 r (.mapIter (some b) clock (seen.push e.born) clock)):=JQ hD
   rcases hal with rfl | rfl
   ·
    exact hk
   ·
    exact(Ext.drew w).keeps.trans hk
  ·
   show(w1.heap.setIfInBounds r _).size=_
   rw[Array.size_setIfInBounds]
   rcases hal with rfl | rfl<;>rfl
  ·
   have:w1.heap[r]?=some (.mapIter (some b) clock seen clock):=by rcases hal with rfl | rfl<;>exact hr
   exact J6 this
theorem ze.nextF {d k r:Nat}{x:Operand}{p:List (K×V)}(hd:Nat.blt d fs=true)(hl:zk B k=some (zd.at (ptr r 0) (vl m p)))(hx:Opd L True x (isV (ptr r 0))):
  ze P ops fs ⟨some d,.next x false,ty,pos,after,none⟩ L B ([k],[d,k]) ⟨True,zV⟩ [(d,some (zlq r (vl m) m p)),(k,none)]:=by
 refine .doing fun M D a w hsz hm hs hsB=>?_
 obtain⟨r',hvr,hD,hM,h⟩:=hsB.has k (by simp) _ hl
 obtain rfl:r=r':=by simp[ptr]at hvr;exact hvr
 have hat:a.eval x = .pointer (some ⟨r,0,none⟩):=(ya.1 (hx.get hs (fun t ht=>zB (by simp[Op.operands,ht])) trivial)).1
 have hd':d<a.tmps.size:=by rw[hsz];exact Nat.le_of_ble_eq_true hd
 rcases h with⟨h1,h2,seen,h3⟩ | ⟨b,es,clock,l,seen,a1,a2,a3,a4,a5,a6⟩
 ·
  have hrun:(Instr.next (.pointer (some ⟨r,0,none⟩)) false ty).run P w = .ok (.tuple #[.bool false]) w:=by
   simp only[Instr.next,getObj,Sem.run_bind,Sem.run,h3,Result.andThen];rfl
  refine zP.value (v:=.tuple #[.bool false]) (w':=w) ?_ (.pass M (D k) hl (zx.refl _ _) (fun _ h=>h) (fun _ h=>.inl h) hm ⟨fun _=>trivial,fun hf=>(hf trivial).elim⟩ ?_ (fun j h=>.inl h))
  ·
   simp only[execOp,hat];rw[Sem.run_bind,hrun];rfl
  ·
   rw[qJ hd']
   refine⟨none,_,?_,rfl,rfl,r,rfl,hD,hM,.inl ⟨h1,by rw[h2];rfl,seen,h3⟩⟩
   show zI m p
   rw[h1,h2];exact zI.nil
 ·
  obtain⟨o,vs,w',seen',h1,h2,h3,h4,h5,h6,h7⟩:=zt3 (P:=P) (ty:=ty) a5 a3 a4 a6
  have hk:=h4 (D k) hD
  have hne:b≠r:=fun e=>a1 (e▸hM)
  refine zP.value (v:=.tuple vs) (w':=w') ?_ (.pass M (D k) hl hk (fun _ h=>h) (fun _ h=>.inl h) (fun j h=>by rw[h5];exact hm j h) ⟨fun _=>trivial,fun hf=>(hf trivial).elim⟩ ?_ (fun j h=>.inl h))
  ·
   simp only[execOp,hat];rw[Sem.run_bind,h2];rfl
  ·
   rw[qJ hd']
   exact⟨o,vs,h1,rfl,h3,r,rfl,hD,hM,.inr ⟨b,es,clock,l,seen',a1,by rw[h5];exact a2,by rw[hk.block b a2 (fun h=>hne ((hD b).1 h))];exact a3,a4.stay hk (fun j h=>(hD j).1 h▸hM),h6,h7⟩⟩
omit [Rep K] [Rep V]in
theorem ze.nextedOk {d e r:Nat}{C:List (K×V)→zd}{p:List (K×V)}(he:Nat.blt e fs=true)(hl:zk B d=some (zlq r C m p)):
  ze P ops fs ⟨some e,.extract (.tmp d) 0,ty,pos,after,none⟩ L B ([d],[e,d]) ⟨True,zV⟩ [(e,some (zlG r C m p)),(d,none)]:=by
 refine .doing fun M D a w hsz hm hs hsB=>?_
 obtain⟨o,vs,h1,h2,h3,h4⟩:=hsB.has d (by simp) _ hl
 have he':e<a.tmps.size:=by rw[hsz];exact Nat.le_of_ble_eq_true he
 rw[←QD]at h2
 refine zP.value (w':=w) (zqz h2 h3) (.pass M (D d) hl (zx.refl _ _) (fun _ h=>h) (fun _ h=>.inl h) hm ⟨fun _=>trivial,fun hf=>(hf trivial).elim⟩ ?_ (fun j h=>.inl h))
 rw[qJ he']
 exact⟨o,h1,rfl,h4⟩
theorem ztX {M:zh}{w:World}{r b:Nat}{seen:Array Nat}{es:Array MapEntry}{clock:Nat}{l p:List (K×V)}{x:K×V}(hr:w.heap[r]?=some (.mapIter (some b) clock seen clock))(hb:w.heap[b]?=some (.map es clock))(hi:qC M w m es clock l)(hs:jN es l seen (p++[x])):
  ∃u v,(rep x.1).p M u w∧(rep x.2).p M v w∧(Instr.entry (.pointer (some ⟨r,0,none⟩))).run P w = .ok (.tuple #[u,v]) w:=by
 obtain⟨js,h1,h2,h3,h4⟩:=hs
 rw[List.map_append]at h4
 have hlast:∃js' j,js=js'++[j]:=by
  rcases List.eq_nil_or_concat js with h | ⟨js',j,h⟩
  ·
   subst h;simp at h4
  ·
   exact⟨js',j,by simpa using h⟩
 obtain⟨js',j,rfl⟩:=hlast
 have hx:l[j]?=some x:=by
  have:=congrArg List.getLast? h4
  simpa using this.symm
 have hjl:j<es.toList.length:=by simpa using h2 j (by simp)
 have he:es.toList[j]?=some es.toList[j]:=List.getElem?_eq_getElem hjl
 have hseen:∃seen0:Array Nat,seen=seen0.push es.toList[j].born:=by
  refine⟨(js'.map (fun j=>(es.toList[j]?).elim 0 (·.born))).toArray,?_⟩
  apply Array.ext'
  rw[h3,Array.toList_push,List.map_append,List.map_cons,List.map_nil,he];rfl
 obtain⟨seen0,hse⟩:=hseen
 obtain⟨a1,a2⟩:=hi.ents.2 j _ x he hx
 rw[hse]at hr
 exact⟨_,_,a1,a2,run_entry_at w r b clock seen0 es clock es.toList[j] hr hb (List.getElem_mem hjl) hi.born⟩
theorem ze.entryF {d:Option Tmp}{k r:Nat}{x:Operand}{p:List (K×V)}{y:K×V}(hl:zk B k=some (zd.at (ptr r 0) (vl m (p++[y]))))(hx:Opd L True x (isV (ptr r 0))):
  ze P ops fs ⟨d,.entry x,ty,pos,after,none⟩ L B ([k],[]) ⟨True,zfl y⟩ []:=
 .of .none fun M D a w hm hs hsB hG=>by
  obtain⟨r',hvr,hD,hM,h⟩:=hsB.has k (by simp) _ hl
  obtain rfl:r=r':=by simp[ptr]at hvr;exact hvr
  have hat:a.eval x = .pointer (some ⟨r,0,none⟩):=(ya.1 (hx.get hs (fun t ht=>zB (by simp[Op.operands,ht])) trivial)).1
  rcases h with⟨_,h2,_⟩ | ⟨b,es,clock,l,seen,a1,a2,a3,a4,a5,a6⟩
  ·
   simp at h2
  ·
   obtain⟨u,v,h1,h2,h3⟩:=ztX (P:=P) a5 a3 a4 a6
   refine zP.value (v:=.tuple #[u,v]) (w':=w) ?_ ⟨zx.refl _ _,zbv h1 h2⟩
   simp only[execOp,hat];rw[Sem.run_bind,h3];rfl
end
end Go.DB
namespace Go.DB
open Go Go.RowKit
section
variable {K V σ O:Type}
def Qm (step:K→V→σ→Option (Res σ O))(fin:σ→O):List (K×V)→σ→Option O
 | [],s=>some (fin s)
 | x::l,s=>(step x.1 x.2 s).bind (fun r=>match r with
  | .nx s'=>Qm step fin l s'
  | .ab o=>some o)
def qp (step:K→V→σ→Option σ):List (K×V)→σ→Option σ
 | [],s=>some s
 | x::l,s=>(step x.1 x.2 s).bind (fun s'=>qp step l s')
open Classical in
noncomputable def zaW (m:GMap K V)(step:K→V→σ→Option (Res σ O))(fin:σ→O)(s0:σ):Option O:=
 if h:∃r,∀l,zI m l→Qm step fin l s0=some r then some h.choose else none
open Classical in
noncomputable def QJ (m:GMap K V)(step:K→V→σ→Option σ)(s0:σ):Option σ:=
 if h:∃r,∀l,zI m l→qp step l s0=some r then some h.choose else none
def Y2 (step:K→V→σ→Option (Res σ O))(fin:σ→O)(p:List (K×V)×σ)(o:Option (K×V)):Option (zN (List (K×V)×σ) O):=match o with
 | none=>some (.done (fin p.2))
 | some x=>YF (step x.1 x.2 p.2) (fun s'=>some (.again (p.1++[x],s')))
def vP (step:K→V→σ→Option σ)(p:List (K×V)×σ)(o:Option (K×V)):Option (zN (List (K×V)×σ) σ):=match o with
 | none=>some (.done p.2)
 | some x=>(step x.1 x.2 p.2).bind (fun s'=>some (.again (p.1++[x],s')))
theorem zcq {step:K→V→σ→Option σ}{p:List (K×V)×σ}{x:K×V}{out:zN (List (K×V)×σ) σ}(h:vP step p (some x)=some out):(step x.1 x.2 p.2).bind (fun s'=>some (.again (p.1++[x],s')))=some out:=h
theorem zcp {step:K→V→σ→Option σ}{p:List (K×V)×σ}{out:zN (List (K×V)×σ) σ}(h:vP step p none=some out):some (.done p.2)=some out:=h
variable {m:GMap K V}
theorem zsB {step:K→V→σ→Option (Res σ O)}{fin:σ→O}{s0:σ}{e:O}(h:zaW m step fin s0=some e):∀l,zI m l→Qm step fin l s0=some e:=by
 unfold zaW at h
 by_cases hx:∃r,∀l,zI m l→Qm step fin l s0=some r
 ·
  rw[dif_pos hx]at h
  rw[←Option.some.inj h];exact hx.choose_spec
 ·
  rw[dif_neg hx]at h;cases h
theorem zsD {step:K→V→σ→Option σ}{s0 e:σ}(h:QJ m step s0=some e):∀l,zI m l→qp step l s0=some e:=by
 unfold QJ at h
 by_cases hx:∃r,∀l,zI m l→qp step l s0=some r
 ·
  rw[dif_pos hx]at h
  rw[←Option.some.inj h];exact hx.choose_spec
 ·
  rw[dif_neg hx]at h;cases h
theorem zsA {step:K→V→σ→Option (Res σ O)}{fin:σ→O}{s0:σ}{e:O}{l0:List (K×V)}(h0:zI m l0)(h:∀l,zI m l→Qm step fin l s0=some e):zaW m step fin s0=some e:=by
 unfold zaW
 have hx:∃r,∀l,zI m l→Qm step fin l s0=some r:=⟨e,h⟩
 rw[dif_pos hx]
 exact(hx.choose_spec l0 h0).symm.trans (h l0 h0)
theorem zln {step:K→V→σ→Option σ}{s0 e:σ}{l0:List (K×V)}(h0:zI m l0)(h:∀l,zI m l→qp step l s0=some e):QJ m step s0=some e:=by
 unfold QJ
 have hx:∃r,∀l,zI m l→qp step l s0=some r:=⟨e,h⟩
 rw[dif_pos hx]
 exact(hx.choose_spec l0 h0).symm.trans (h l0 h0)
theorem zlj (step:K→V→σ→Option σ):∀(l:List (K×V)) (s:σ),Qm (fun k v s=>(step k v s).map (Res.nx (ρ:=σ))) id l s=qp step l s
 | [],s=>rfl
 | x::l,s=>by
  simp only[Qm,qp]
  cases step x.1 x.2 s with
  | none=>rfl
  | some s'=>exact zlj step l s'
open Classical in
theorem Q0.more {p l0:List (K×V)}(hp:Q0 m p)(h0:zI m l0):∃l,zI m (p++l):=by
 refine⟨l0.filter (fun y=>decide (y.1∉p.map (·.1))),?_,fun k v=>?_⟩
 ·
  rw[List.map_append,List.nodup_append]
  refine⟨hp.1,h0.nodup.sublist ((List.filter_sublist).map _),fun a ha b hb e=>?_⟩
  obtain⟨y,hy,rfl⟩:=List.mem_map.1 hb
  have:=(List.mem_filter.1 hy).2
  simp only[decide_eq_true_eq]at this
  exact this (e▸ha)
 ·
  rw[List.mem_append,List.mem_filter]
  constructor
  ·
   rintro(h | ⟨h,_⟩)
   ·
    exact hp.2 _ h
   ·
    exact(h0.mem k v).1 h
  ·
   intro h
   by_cases hk:k∈p.map (·.1)
   ·
    obtain⟨y,hy,rfl⟩:=List.mem_map.1 hk
    have:=hp.2 y hy
    rw[h]at this
    left
    have e:v=y.2:=Option.some.inj this
    rw[e];exact hy
   ·
    exact .inr ⟨(h0.mem k v).2 h,by simpa using hk⟩
theorem Q0.next {p:List (K×V)}{x:K×V}(hp:Q0 m p)(h:va m p (some x)):Q0 m (p++[x]):=by
 refine⟨?_,fun y hy=>?_⟩
 ·
  rw[List.map_append,List.nodup_append]
  refine⟨hp.1,by simp,fun a ha b hb e=>?_⟩
  simp at hb;subst hb
  exact h.2 (e▸ha)
 ·
  rcases List.mem_append.1 hy with h1 | h1
  ·
   exact hp.2 y h1
  ·
   simp at h1;subst h1;exact h.1
theorem Q0.len {p l0:List (K×V)}(hp:Q0 m p)(h0:zI m l0):p.length≤l0.length:=by
 obtain⟨l,hl⟩:=hp.more h0
 have:=(hl.perm h0).length_eq
 rw[List.length_append]at this
 omega
end
section
variable {P:Program} {Q:Exit→Act→World→Prop} {n:Nat} {F:Fr} {L:zq} {B:zo}
variable {K V:Type} {m:GMap K V}
theorem Cod.mrangeEL {c:Code}{σ O:Type}{step:K→V→σ→Option (Res σ O)}{fin:σ→O}{s0:σ}{e:O}(he:zaW m step fin s0=some e)(hfin:∃l,zI m l)(Ls:List (K×V)×σ→zq)(Bs:List (K×V)×σ→zo){keep:zq}{keepB:zo}
  (h0:Sub L (Ls ([],s0))) (hB0:zi B (Bs ([],s0))) (hk:Sub L keep) (hkB:zi B keepB)
  (round:∀(p:List (K×V)×σ),(∀o,va m p.1 o→∃out,Y2 step fin p o=some out∧(∀e',out = .done e'→some e'=some e))→
   Cod P c (Exit.then (fun a w=>∃s',(∃o,va m p.1 o∧Y2 step fin p o=some (.again s'))∧Sat n F (Ls s'++keep) (Bs s'++keepB) a w) Q) n F (Ls p++keep) (Bs p++keepB)):Cod P (.loop c) Q n F L B:=by
 obtain⟨l0,hl0⟩:=hfin
 have hall:=zsB he
 refine Cod.loop (ι:={ p:List (K×V)×σ // Q0 m p.1∧∀l,zI m (p.1++l)→Qm step fin l p.2=some e }) (fun p=>Ls p.1++keep) (fun p=>Bs p.1++keepB) (fun p=>l0.length - p.1.1.length)
  ⟨([],s0),⟨List.nodup_nil,by simp⟩,fun l hl=>hall l (by simpa using hl)⟩ (h0.append hk) (hB0.append hkB) ?_
 rintro⟨p,hp,hI⟩
 have H:∀o,va m p.1 o→∃out,Y2 step fin p o=some out∧(∀e',out = .done e'→some e'=some e):=by
  intro o ho
  cases o with
  | none=>
   have h1:=hI [] (by simpa using(show zI m p.1 from ho))
   exact⟨_,rfl,fun e' h2=>by cases h2;exact h1⟩
  | some x=>
   obtain⟨l,hl⟩:=(hp.next ho).more hl0
   have h1:=hI (x::l) (by simpa using hl)
   simp only[Qm]at h1
   simp only[Y2,YF]
   cases hst:step x.1 x.2 p.2 with
   | none=>rw[hst]at h1;cases h1
   | some r=>
    rw[hst]at h1
    cases r with
    | nx s'=>exact⟨_,rfl,fun e' h2=>by cases h2⟩
    | ab y=>exact⟨_,rfl,fun e' h2=>by cases h2;exact h1⟩
 intro a w hs
 refine wp_mono (round p H a w hs) (fun x a w hq=>?_)
 cases x with
 | normal=>
  obtain⟨s',⟨o,ho,hst⟩,h3⟩:=hq
  cases o with
  | none=>simp[Y2]at hst
  | some x=>
   simp only[Y2,YF]at hst
   cases hx:step x.1 x.2 p.2 with
   | none=>rw[hx]at hst;cases hst
   | some r=>
    rw[hx]at hst
    cases r with
    | ab y=>simp[za8]at hst
    | nx s''=>
     simp only[Option.bind_some,za8,Option.some.injEq,zN.again.injEq]at hst
     subst hst
     have hpn:=hp.next ho
     refine⟨⟨(p.1++[x],s''),hpn,fun l hl=>?_⟩,?_,h3⟩
     ·
      have h1:=hI (x::l) (by simpa using hl)
      simp only[Qm,hx,Option.bind_some]at h1
      exact h1
     ·
      have h1:=hpn.len hl0
      rw[List.length_append]at h1
      simp at h1⊢
      omega
 | _=>exact hq
theorem Cod.mrangeL {c:Code}{σ:Type}{step:K→V→σ→Option σ}{s0 e:σ}(he:QJ m step s0=some e)(hfin:∃l,zI m l)(Ls:List (K×V)×σ→zq)(Bs:List (K×V)×σ→zo){keep:zq}{keepB:zo}
  (h0:Sub L (Ls ([],s0))) (hB0:zi B (Bs ([],s0))) (hk:Sub L keep) (hkB:zi B keepB)
  (round:∀(p:List (K×V)×σ),(∀o,va m p.1 o→∃out,vP step p o=some out∧(∀e',out = .done e'→some e'=some e))→
   Cod P c (Exit.then (fun a w=>∃s',(∃o,va m p.1 o∧vP step p o=some (.again s'))∧Sat n F (Ls s'++keep) (Bs s'++keepB) a w) Q) n F (Ls p++keep) (Bs p++keepB)):Cod P (.loop c) Q n F L B:=by
 have hs:∀p o,Y2 (fun k v s=>(step k v s).map (Res.nx (ρ:=σ))) id p o=vP step p o:=by
  intro p o
  cases o with
  | none=>rfl
  | some x=>
   simp only[Y2,vP,YF]
   cases step x.1 x.2 p.2<;>rfl
 have he':zaW m (fun k v s=>(step k v s).map (Res.nx (ρ:=σ))) id s0=some e:=by
  obtain⟨l0,hl0⟩:=hfin
  exact zsA hl0 fun l hl=>by rw[zlj];exact zsD he l hl
 refine Cod.mrangeEL he' hfin Ls Bs h0 hB0 hk hkB fun p H=>?_
 simp only[hs]at H⊢
 exact round p H
theorem Cod.againM {c:Code}{σ ρ:Type}{OK:σ→Prop}{out:zN σ ρ}{Ls:σ→zq}{Bs:σ→zo}{keep:zq}{keepB:zo}(hA:∀s',out = .again s'→OK s')
  (h:Cod P c (Exit.then (fun a w=>∃s',out = .again s'∧Sat n F (Ls s'++keep) (Bs s'++keepB) a w) Q) n F L B):
  Cod P c (Exit.then (fun a w=>∃s',OK s'∧Sat n F (Ls s'++keep) (Bs s'++keepB) a w) Q) n F L B:=fun a w hs=>wp_mono (h a w hs) (fun e a w hq=>by
 cases e with
 | normal=>obtain⟨s',h1,h2⟩:=hq;exact⟨s',hA s' h1,h2⟩
 | _=>exact hq)
theorem Cod.condT {t:Nat}{x y:Code}{c:Prop}{b:Bool}(hl:zD L t=some ⟨c,rep b⟩)(hc:c)(hb:b=true)(h:Cod P x Q n F L B):Cod P (.cond (.tmp t) x y) Q n F L B:=
 Cod.cond hl hc (fun _=>h) (fun h2=>by rw[hb]at h2;cases h2)
theorem Cod.condF {t:Nat}{x y:Code}{c:Prop}{b:Bool}(hl:zD L t=some ⟨c,rep b⟩)(hc:c)(hb:b=false)(h:Cod P y Q n F L B):Cod P (.cond (.tmp t) x y) Q n F L B:=
 Cod.cond hl hc (fun h2=>by rw[hb]at h2;cases h2) (fun _=>h)
theorem Cod.openNext {c:Code}{t k r:Nat}{C:List (K×V)→zd}{p:List (K×V)}(hl:zk B t=some (zlG r C m p))(ht:Nat.blt t n=true)(hg:zk B k=none)
  (h:∀o,va m p o→Cod P c Q n F ((t,⟨True,rep o.isSome⟩)::L) ((k,some (zd.at (ptr r 0) (C (p++o.toList))))::(t,none)::B)):Cod P c Q n F L B:=by
 intro a w hs
 obtain⟨M,D,h1⟩:=id hs
 obtain⟨o,ho,hv,hC⟩:=h1.hasB t _ hl
 refine h o ho a w ⟨M,_,h1.rekey hl hg (C':=zd.at (ptr r 0) (C (p++o.toList))) hC fun t' e he=>?_⟩
 simp only[zD]at he
 by_cases hne:t=t'
 ·
  subst hne
  simp at he;subst he
  have hlt:t<a.tmps.size:=by rw[h1.size];exact Nat.le_of_ble_eq_true ht
  refine⟨Act.val a t,by unfold Act.val;simp[hlt],fun _=>?_,fun hf=>(hf trivial).elim⟩
  rw[hv];exact yS.2 rfl
 ·
  rw[yp hne,cond_false]at he;exact h1.has t' e he
variable [Rep K] [Rep V]
theorem Cod.listsF {c:Code}{q r:Nat}{p:List (K×V)}(hl:zk B q=some (zd.at (ptr r 0) (vl m p)))(h:(∃l,zI m l)→Cod P c Q n F L B):Cod P c Q n F L B:=by
 intro a w hs
 obtain⟨M,D,h1⟩:=id hs
 obtain⟨r',_,_,_,h2⟩:=h1.hasB q _ hl
 rcases h2 with⟨rfl,_⟩ | ⟨_,_,_,l,_,_,_,_,h3,_⟩
 ·
  exact h ⟨[],zI.nil⟩ a w hs
 ·
  exact h ⟨l,h3.lists⟩ a w hs
theorem JU {M D:zh}{w:World}{s:Value}(h:(zW m).p M D s w):∃b,s = .map (some b):=by
 obtain⟨b,_,_,_,hv,_⟩:=h;exact⟨b,hv⟩
theorem Cod.nameMap {c:Code}{t g:Nat}(hl:zk B t=some (zW m))(ht:Nat.blt t n=true)(hg:zk B g=none)
  (k:∀s,Cod P c Q n F ((t,⟨True,isV s⟩)::L) ((g,some (zd.at s (zW m)))::(t,none)::B)):Cod P c Q n F L B:=by
 intro a w hs
 obtain⟨M,D,h⟩:=id hs
 have hC:=h.hasB t _ hl
 refine k (Act.val a t) a w ⟨M,_,h.rekey hl hg hC fun t' e he=>?_⟩
 simp only[zD]at he
 by_cases hne:t=t'
 ·
  subst hne
  simp at he;subst he
  have hlt:t<a.tmps.size:=by rw[h.size];exact Nat.le_of_ble_eq_true ht
  refine⟨Act.val a t,by unfold Act.val;simp[hlt],fun _=>?_,fun hf=>(hf trivial).elim⟩
  obtain⟨b,hv⟩:=JU hC
  rw[hv]
  exact ya.2 ⟨rfl,rfl,rfl⟩
 ·
  rw[yp hne,cond_false]at he;exact h.has t' e he
end
end Go.DB
namespace Go.DB
open Go Go.RowKit
def zam (C:zd):Prop:=∀M D v w,C.p M D v w→jf v=true∧v.cells=#[v]
def QY {β:Type}[Rep β](R:zd)(x:β):Prop:=∀(M D:zh) (s:Value) (w:World),R.p M D s w→(∀k,M k→k<w.heap.size)→(rep x).p (fun k=>M k∧¬D k) s w
theorem QE {α:Type}[Rep α]{E:Nat}{l:List α}:QY (zp E l) l:=fun M D s w h hms=>zba M D w s h hms
theorem zq8 {K V:Type}[Rep K][Rep V]{m:GMap K V}:QY (zW m) m:=fun M D s w h hms=>zla h hms
theorem zsT {K V:Type}[Rep K][Rep V]{m:GMap K V}:zam (zW m):=fun _ _ _ _ h=>by
 obtain⟨b,hv⟩:=JU h
 rw[hv];exact⟨rfl,rfl⟩
section
variable {P:Program} {ops:Array Oper} {fs:Nat} {L:zq} {B:zo} {G:Prop}
variable {ty:TypeId} {pos:String} {after:Array Edge} {g:Option (Nat×Bool)} {xr:List Nat} {d:Option Tmp}
theorem ze.buildG2 {T d t1 t2:Nat}{α:Type}[Rep α]{R1 R2:zd}(o1:zam R1)(o2:zam R2){parts:Array (Nat×Operand)}{x0:α}(mk:Value→Value→α){zero:List Value}{places:List (Nat×Nat)}{Ss:Value→Value→List zF}(hb:jI P T zero places)(hz:∀M w,Rep.cells M x0 zero w)(hagg:Rep.agg α=true)
  (hd:Nat.blt d fs=true) (h1:zk B t1=some R1) (h2:zk B t2=some R2) (hn1:Nat.blt t1 fs=true) (hn2:Nat.blt t2 fs=true) (h12:(t1==t2)=false) (hd1:(d==t1)=false) (hd2:(d==t2)=false)
  (hx:∀s1 s2,jL ((t1,⟨True,isV s1⟩)::(t2,⟨True,isV s2⟩)::L) True (parts.toList.map (·.2)) (Ss s1 s2)) (hf:∀s1 s2,YA places x0 (parts.toList.map (·.1)) (Ss s1 s2) (mk s1 s2)):
  ze P ops fs ⟨some d,.build T parts,ty,pos,after,none⟩ L B ([t1,t2],[d,t1,t2]) ⟨True,zV⟩ [(d,some (zQ (fun s1=>zQ (fun s2=>Yx (mk s1 s2)) R2) R1)),(t1,none),(t2,none)]:=by
 have h12:t1≠t2:=by simpa using h12
 have hd1:d≠t1:=by simpa using hd1
 have hd2:d≠t2:=by simpa using hd2
 refine .doing fun M D a w hsz hm hs hsB=>?_
 have hR1:=hsB.has t1 (by simp) _ h1
 have hR2:=hsB.has t2 (by simp) _ h2
 have hap:=hsB.apart t1 (by simp) t2 (by simp) _ _ h1 h2 h12
 have e1:=o1 _ _ _ _ hR1
 have e2:=o2 _ _ _ _ hR2
 have hs2:=(hs.extend (t:=t2) (by rw[hsz];exact Nat.le_of_ble_eq_true hn2) e2.1 e2.2).extend (t:=t1) (by rw[hsz];exact Nat.le_of_ble_eq_true hn1) e1.1 e1.2
 have ha:=(hx (Act.val a t1) (Act.val a t2)).get hs2 (fun x hxm t ht=>zB (by
  subst ht
  obtain⟨p,hp,he⟩:=List.mem_map.1 hxm
  simp only[Op.operands]
  rw[List.mem_toArray]
  exact List.mem_map.2 ⟨p,hp,he⟩)) trivial
 obtain⟨v,hr,hv⟩:=zqu (P:=P) (d:=some d) (ty:=ty) (pos:=pos) (after:=after) (g:=none) (T:=T) hb hz hagg ha (hf _ _)
 refine zP.value hr ?_
 have m1:∀j,D t1 j→qE [d,t1,t2] B D j:=fun j hj=>⟨t1,by simp,_,h1,hj⟩
 have m2:∀j,D t2 j→qE [d,t1,t2] B D j:=fun j hj=>⟨t2,by simp,_,h2,hj⟩
 have cs:∀t c,zk [(d,some (zQ (fun s1=>zQ (fun s2=>Yx (mk s1 s2)) R2) R1)),(t1,none),(t2,none)] t=some c→t=d∧c=zQ (fun s1=>zQ (fun s2=>Yx (mk s1 s2)) R2) R1:=by
  intro t c hc
  simp only[zk]at hc
  by_cases q1:d=t
  ·
   subst q1;simp at hc;exact⟨rfl,hc.symm⟩
  ·
   rw[yp q1,cond_false]at hc
   by_cases q2:t1=t
   ·
    subst q2;simp at hc
   ·
    rw[yp q2,cond_false]at hc
    by_cases q3:t2=t
    ·
     subst q3;simp at hc
    ·
     rw[yp q3,cond_false]at hc;cases hc
 refine⟨M,fun _ j=>D t1 j∨D t2 j,zx.refl _ _,fun j h=>.inl h,fun j h=>.inl h,hm,⟨fun _=>trivial,fun hf=>(hf trivial).elim⟩,fun t c hc=>?_,fun t t' c c' hc hc' hne=>?_⟩
 ·
  obtain⟨rfl,rfl⟩:=cs t c hc
  refine⟨?_,fun j hj=>.inl (hj.elim (m1 j) (m2 j))⟩
  rw[qJ (by rw[hsz];exact Nat.le_of_ble_eq_true hd)]
  refine⟨Act.val a t1,D t2,D t1,⟨Act.val a t2,NoM,D t2,⟨fun k h=>h,hv⟩,hR2,fun j=>⟨fun h=>.inr h,fun h=>h.elim (fun h=>h.elim) id⟩,fun j h=>h.elim⟩,hR1,fun j=>⟨fun h=>h.symm,fun h=>h.symm⟩,fun j a b=>hap j b a⟩
 ·
  exact absurd ((cs t c hc).1.trans (cs t' c' hc').1.symm) hne
theorem ze.boxG2 {T d t:Nat}{α:Type}[Rep α]{R1 R2:zd}{mk:Value→Value→α}(hd:Nat.blt d fs=true)(h1:zk B t=some (zQ (fun s1=>zQ (fun s2=>Yx (mk s1 s2)) R2) R1)):
  ze P ops fs ⟨some d,.box T (.tmp t),ty,pos,after,none⟩ L B ([t],[d,t]) ⟨True,zV⟩ [(d,some (zQ (fun s1=>zQ (fun s2=>zC T (mk s1 s2)) R2) R1)),(t,none)]:=by
 refine .doing fun M D a w hsz hm hs hsB=>?_
 have hC:=hsB.has t (by simp) _ h1
 obtain⟨s1,D1,D2,⟨s2,D3,D4,⟨hn,cs,hc,hv⟩,hR2,e1,a1⟩,hR1,e2,a2⟩:=id hC
 have hx:a.eval (.tmp t)=Act.val a t:=QD
 have hcs:(a.eval (.tmp t)).cells=cs.toArray:=by rw[hx,hv];exact Rep.flat hc
 have hin:∀j,D t j→M j:=fun j hj=>zd.inM _ M (D t) _ w hC j hj
 have hext:=Ext.alloc w (.cells cs.toArray T)
 have hmm:∀k,(M k∨k=w.heap.size)→M k∨w.heap.size≤k:=fun k h=>h.imp id (by omega)
 have hblk:∀j,D t j→j<w.heap.size:=fun j hj=>hm j (hin j hj)
 refine zP.value (zgd hcs) (.pass (fun k=>M k∨k=w.heap.size) (fun j=>D t j∨j=w.heap.size) h1 hext.keeps (fun k h=>.inl h) hmm (fun k h=>?_) ⟨fun _=>trivial,fun hf=>(hf trivial).elim⟩ ?_ (fun j h=>h.imp id (by omega)))
 ·
  rw[jw]
  rcases h with h | h
  ·
   have:=hm k h;omega
  ·
   omega
 ·
  rw[qJ (by rw[hsz];exact Nat.le_of_ble_eq_true hd)]
  have d1:∀j,D1 j→D t j:=fun j h=>(e2 j).2 (.inl h)
  have d2:∀j,D2 j→D t j:=fun j h=>(e2 j).2 (.inr h)
  have d4:∀j,D4 j→D1 j:=fun j h=>(e1 j).2 (.inr h)
  have old:∀j,D t j→(M j∨j=w.heap.size)∧(w.alloc (.cells cs.toArray T)).heap[j]?=w.heap[j]?:=fun j hj=>⟨.inl (hin j hj),hext.block j (hblk j hj) (fun f=>f)⟩
  refine⟨s1,fun j=>D4 j∨j=w.heap.size,D2,⟨s2,fun j=>j=w.heap.size,D4,⟨w.heap.size,cs,rfl,fun _=>Iff.rfl,.inr rfl,?_,Rep.law hext.keeps hmm hc⟩,?_,fun j=>Or.comm,fun j h1 h2=>?_⟩,?_,fun j=>?_,fun j h1 h2=>?_⟩
  ·
   show(w.heap.push _)[w.heap.size]?=_
   rw[Array.getElem?_push_size]
  ·
   exact R2.law M _ D4 s2 w _ hext.keeps hmm (fun j hj=>old j (d1 j (d4 j hj))) hR2
  ·
   have:=hblk j (d1 j (d4 j h2));omega
  ·
   exact R1.law M _ D2 s1 w _ hext.keeps hmm (fun j hj=>old j (d2 j hj)) hR1
  ·
   constructor
   ·
    rintro(h | h)
    ·
     rcases(e2 j).1 h with h | h
     ·
      rcases(e1 j).1 h with h | h
      ·
       exact absurd h (hn j)
      ·
       exact .inl (.inl h)
     ·
      exact .inr h
    ·
     exact .inl (.inr h)
   ·
    rintro((h | h) | h)
    ·
     exact .inl (d1 j (d4 j h))
    ·
     exact .inr h
    ·
     exact .inl (d2 j h)
  ·
   rcases h1 with h1 | h1
   ·
    exact a2 j (d4 j h1) h2
   ·
    have:=hblk j (d2 j h2);omega
theorem ze.storeG2 {T T' t k:Nat}{α α0 β:Type}[Rep α][Rep α0][Rep β]{R1 R2:zd}{mk:Value→Value→α}{y0:α0}(hT:Ty P T β)(hβ:Rep.sz β=Rep.sz α)(hagg:Rep.agg β=Rep.agg α)(hα:Rep.sz α0=Rep.sz α)(hl:zk B k=some (zC T' y0))(hkn:Nat.blt k fs=true)
  (h1:zk B t=some (zQ (fun s1=>zQ (fun s2=>Yx (mk s1 s2)) R2) R1)) (hkt:(k==t)=false):
  ze P ops fs ⟨none,.store T (.tmp k) (.tmp t),ty,pos,after,none⟩ L B ([k,t],[k,t]) ⟨True,zV⟩ [(k,some (zQ (fun s1=>zQ (fun s2=>zC T' (mk s1 s2)) R2) R1)),(t,none)]:=by
 have hkt:k≠t:=by simpa using hkt
 refine .doing fun M D a w hsz hm hs hsB=>?_
 obtain⟨m,old,hvm,hD,hM,hh,hold⟩:=hsB.has k (by simp) _ hl
 have hR:=hsB.has t (by simp) _ h1
 have hap:=hsB.apart k (by simp) t (by simp) _ _ hl h1 hkt
 obtain⟨s1,D1,D2,⟨s2,D3,D4,⟨hn,cs,hc,hv⟩,hR2,e1,a1⟩,hR1,e2,a2⟩:=id hR
 have hxv:a.eval (.tmp t)=Act.val a t:=QD
 have hat:a.eval (.tmp k) = .pointer (some ⟨m,0,none⟩):=by
  have hlt:k<a.tmps.size:=by rw[hsz];exact Nat.le_of_ble_eq_true hkn
  rw[Act.eval_tmp (v:=Act.val a k) (by unfold Act.val;simp[hlt]),hvm]
 obtain⟨w',h1',h2,h3,h4,h5,h6,h7⟩:=Ja (w:=w) (m:=m) (off:=0) (cs:=cs) (pre:=[]) (mid:=old) (rest:=[]) hT ((Rep.len hc).trans hβ.symm) ((Rep.len hold).trans (hα.trans hβ.symm)) rfl (Rep.plain hc) (by rw[hagg];exact Rep.flat hc) (by simpa using hh)
 have hkeep:zx (D k) w w':=⟨h3,h4,h5,by omega,fun j _ hn=>h7 j (fun e=>hn ((hD j).2 e))⟩
 have hkM:zx M w w':=⟨h3,h4,h5,by omega,fun j _ hn=>h7 j (fun e=>hn (e▸hM))⟩
 have hin:∀j,D t j→M j:=fun j hj=>zd.inM _ M (D t) _ w hR j hj
 have old':∀j,D t j→M j∧w'.heap[j]?=w.heap[j]?:=fun j hj=>⟨hin j hj,h7 j (fun e=>hap j ((hD j).2 e) hj)⟩
 have d1:∀j,D1 j→D t j:=fun j h=>(e2 j).2 (.inl h)
 have d2:∀j,D2 j→D t j:=fun j h=>(e2 j).2 (.inr h)
 have d4:∀j,D4 j→D1 j:=fun j h=>(e1 j).2 (.inr h)
 have d14:∀j,D1 j→D4 j:=fun j h=>((e1 j).1 h).elim (fun h=>absurd h (hn j)) id
 refine zP.skip (w':=w') (Q7 (by rw[hat,hxv,hv,←hagg];exact h1')) rfl (.merge hl h1 hkeep (fun j h=>by rw[h6];exact hm j h) ⟨fun _=>trivial,fun hf=>(hf trivial).elim⟩ ?_)
 rw[zae]
 refine⟨s1,fun j=>D k j∨D4 j,D2,⟨s2,D k,D4,⟨m,cs,hvm,hD,hM,by simpa using h2,Rep.law hkM (fun _ h=>.inl h) hc⟩,?_,fun _=>Iff.rfl,fun j h1 h2=>hap j h1 (d1 j (d4 j h2))⟩,?_,fun j=>?_,fun j h1 h2=>?_⟩
 ·
  exact R2.law M M D4 s2 w w' hkM (fun _ h=>.inl h) (fun j hj=>old' j (d1 j (d4 j hj))) hR2
 ·
  exact R1.law M M D2 s1 w w' hkM (fun _ h=>.inl h) (fun j hj=>old' j (d2 j hj)) hR1
 ·
  constructor
  ·
   rintro(h | h)
   ·
    exact .inl (.inl h)
   ·
    rcases(e2 j).1 h with h | h
    ·
     exact .inl (.inr (d14 j h))
    ·
     exact .inr h
  ·
   rintro((h | h) | h)
   ·
    exact .inl h
   ·
    exact .inr (d1 j (d4 j h))
   ·
    exact .inr (d2 j h)
 ·
  rcases h1 with h1 | h1
  ·
   exact hap j h1 (d2 j h2)
  ·
   exact a2 j (d4 j h1) h2
theorem zdm {T m:Nat}{α β1 β2 γ:Type}[Rep α][Rep β1][Rep β2][Rep γ]{x1:β1}{x2:β2}{R1 R2:zd}{mk:Value→Value→α}{y:γ}(f1:QY R1 x1)(f2:QY R2 x2)(hsz:Rep.sz γ=Rep.sz α)
  (hy:∀M s1 s2 cs w,Rep.cells M (mk s1 s2) cs w→(rep x1).p M s1 w→(rep x2).p M s2 w→Rep.cells M y cs w) (M D:zh) (w:World)
  (h:(zQ (fun s1=>zQ (fun s2=>zC T (mk s1 s2)) R2) R1).p M D (ptr m 0) w) (hms:∀k,M k→k<w.heap.size):(ref y).p (fun k=>M k∧¬D k) (ptr m 0) w:=by
 obtain⟨s1,D1,D2,⟨s2,D3,D4,⟨m',cs,hv,hD,hM,hh,hc⟩,hR2,e1,a1⟩,hR1,e2,a2⟩:=h
 have hsub:∀k,(M k∧¬D k)→M k∨w.heap.size≤k:=fun k h=>.inl h.1
 refine⟨m',0,cs,hv,fun hk=>hk.2 ((e2 m').2 (.inl ((e1 m').2 (.inl ((hD m').2 rfl))))),hms _ hM,hy _ s1 s2 cs w (Rep.law (zx.refl M w) hsub hc) ?_ ?_,fun j _=>by rw[cell_of_heap hh];simp⟩
 ·
  exact(rep x1).law _ _ s1 w w (zx.refl _ _) (fun k h=>.inl ⟨h.1,fun h2=>h.2 ((e2 k).2 (.inr h2))⟩) (f1 M D2 s1 w hR1 hms)
 ·
  exact(rep x2).law _ _ s2 w w (zx.refl _ _) (fun k h=>.inl ⟨h.1,fun h2=>h.2 ((e2 k).2 (.inl ((e1 k).2 (.inr h2))))⟩) (f2 M D4 s2 w hR2 hms)
theorem zjb {T m:Nat}{α β1 γ:Type}[Rep α][Rep β1][Rep γ]{x1:β1}{R1:zd}{mk:Value→α}{y:γ}(f1:QY R1 x1)(hsz:Rep.sz γ=Rep.sz α)
  (hy:∀M s1 cs w,Rep.cells M (mk s1) cs w→(rep x1).p M s1 w→Rep.cells M y cs w) (M D:zh) (w:World)
  (h:(zQ (fun s1=>zC T (mk s1)) R1).p M D (ptr m 0) w) (hms:∀k,M k→k<w.heap.size):(ref y).p (fun k=>M k∧¬D k) (ptr m 0) w:=by
 obtain⟨s1,D1,D2,⟨m',cs,hv,hD,hM,hh,hc⟩,hR1,e2,a2⟩:=h
 have hsub:∀k,(M k∧¬D k)→M k∨w.heap.size≤k:=fun k h=>.inl h.1
 refine⟨m',0,cs,hv,fun hk=>hk.2 ((e2 m').2 (.inl ((hD m').2 rfl))),hms _ hM,hy _ s1 cs w (Rep.law (zx.refl M w) hsub hc) ?_,fun j _=>by rw[cell_of_heap hh];simp⟩
 exact(rep x1).law _ _ s1 w w (zx.refl _ _) (fun k h=>.inl ⟨h.1,fun h2=>h.2 ((e2 k).2 (.inr h2))⟩) (f1 M D2 s1 w hR1 hms)
theorem vS {β:Type}[Rep β]{x:β}{M:zh}{s:Value}{cs:List Value}{w:World}(ha:Rep.agg β=false)(h1:Rep.sz β=1)(hc:Rep.cells M (⟨s⟩:Raw) cs w)(h:(rep x).p M s w):Rep.cells M x cs w:=by
 obtain⟨rfl,_,_⟩:=hc
 obtain⟨c,h2,h3⟩:=h
 have hl:=Rep.len h2
 rw[h1]at hl
 match c,hl with
 | [u],_=>
  rw[ha]at h3
  have:s=u:=h3
  rw[this];exact h2
end
end Go.DB
