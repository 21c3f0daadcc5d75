/- A part of the proof. -/
import Derived.Test.YtokamljonkipbaaGreatDoorTdlK2
import Derived.Laws.Cover1
import Derived.Lib.Overlaps
import Derived.Lib.AppendZerosOnto
import Derived.Laws.IdiomStrings
import Derived.Shelf.Strings.BuilderF
import Derived.Tactics
import Derived.Tactics2
import Derived.Defers
import Derived.Laws.Pointers
import Derived.Laws.LoneSync
import Derived.RegionTactic
import Derived.RegionCalls
import Derived.ChangeAlike
import Derived.Laws.NewBlocks
import Derived.Handy
import Derived.Laws.MakeOwn
import Derived.OwnWalk
import Derived.Deep.WholeRow
import Derived.Deep.RegionLaw
import Derived.Laws.CopyOwn
import Derived.Laws.BytesArg
import Derived.Deep.OwnRows
import Derived.LoopTactic
import Derived.Lib.Walk
import Derived.Laws.Cover3
import Derived.WalkKit
import Derived.Shelf.Strings.Count
import Derived.Shelf.Strings.OnBuilder
import Derived.Shelf.Strconv.Itoa3
import Derived.Lib.AppendIntMem
import Derived.Shelf.Strings.SlTrimAscii
import Derived.Shelf.Unicode.ValidAny
import Derived.Shelf.SortM.Plain
import Derived.Shelf.SortM.SortNone
import Derived.Shelf.SlicesG.CompactI
import Derived.Shelf.Strconv.AtoiAll
import Derived.Shelf.Strings.Split
import Derived.Shelf.Small.Strs
import Derived.Shelf.Strings.Cut
import Derived.Shelf.SlSortCmp.NoneTotal
import Derived.Lib.Bytealg
import Derived.StillTailTactics
import Derived.Shelf.Spec.SlicesGrow
set_option linter.unusedVariables false
set_option linter.unusedSimpArgs false
namespace Go.DB
open Go Go.RowKit
section
variable {K α:Type} [Rep K] [Rep α]
def zai (E:Nat)(M D:zh)(w:World):Option (List α)→Option Raw→Prop
 | some l,some s=>(zp E l).p M D s.v w
 | none,none=>∀j,¬D j
 | _,_=>False
theorem zai.law {E:Nat}{M M' D:zh}{w w':World}{a:Option (List α)}{b:Option Raw}(hk:zx M w w')(hm:∀k,M' k→M k∨w.heap.size≤k)(ho:∀k,D k→M' k∧w'.heap[k]?=w.heap[k]?)(h:zai E M D w a b):zai E M' D w' a b:=by
 match a,b,h with
 | some l,some s,h=>exact(zp E l).law M M' D s.v w w' hk hm ho h
 | none,none,h=>exact h
def zcn (E:Nat)(hole:K→Prop)(m:GMap K (List α)):zd where
 p:=fun M D v w=>∃(r:GMap K Raw) (Dm:zh) (Dr:K→zh),(zW r).p M Dm v w∧(∀k,¬hole k→zai E M (Dr k) w (m.f k) (r.f k))∧(∀j,D j→M j)∧
  (∀j,(Dm j∨∃k,Dr k j)→D j)∧(∀k j,Dr k j→¬Dm j)∧∀k k' j,Dr k j→Dr k' j→k=k'
 inM:=fun M D v w ⟨r,Dm,Dr,h1,_,h3,h4,_⟩ k hk=>h3 k hk
 law:=fun M M' D v w w' hk hm hown ⟨r,Dm,Dr,h1,h2,h3,h4,h5,h6⟩=>by
  have o1:∀j,Dm j→D j:=fun j h=>h4 j (.inl h)
  have o2:∀k j,Dr k j→D j:=fun k j h=>h4 j (.inr ⟨k,h⟩)
  exact⟨r,Dm,Dr,(zW r).law M M' Dm v w w' hk hm (fun j h=>hown j (o1 j h)) h1,fun k hn=>(h2 k hn).law hk hm (fun j h=>hown j (o2 k j h)),fun j h=>(hown j h).1,h4,h5,h6⟩
abbrev vO (E:Nat)(m:GMap K (List α)):zd:=zcn E (fun _=>False) m
theorem zsq {E:Nat}{m:GMap K (List α)}{M D:zh}{s:Value}{w:World}(h:(vO E m).p M D s w):∃b,s = .map (some b):=by
 obtain⟨r,Dm,Dr,h1,_⟩:=h
 exact JU h1
theorem zsU {E:Nat}{m:GMap K (List α)}:zam (vO E m):=fun _ _ _ _ h=>by
 obtain⟨b,hv⟩:=zsq h
 rw[hv];exact⟨rfl,rfl⟩
theorem zsr {E:Nat}{m:GMap K (List α)}{M D:zh}{w:World}{s:Value}(h:(vO E m).p M D s w)(hms:∀k,M k→k<w.heap.size):(rep m).p (fun k=>M k∧¬D k) s w:=by
 obtain⟨r,Dm,Dr,⟨b,es,clock,l,hv,hD,hM,hh,hi⟩,h2,h3,h4,h5,h6⟩:=h
 have hfit:∀k s,r.f k=some s→∃v,m.f k=some v∧(zp E v).p M (Dr k) s.v w:=fun k s hk=>by
  have:=h2 k (fun h=>h)
  rw[hk]at this
  cases hm:m.f k with
  | none=>rw[hm]at this;exact this.elim
  | some v=>rw[hm]at this;exact⟨v,rfl,this⟩
 have hnone:∀k,r.f k=none→m.f k=none:=fun k hk=>by
  have:=h2 k (fun h=>h)
  rw[hk]at this
  cases hm:m.f k with
  | none=>rfl
  | some v=>rw[hm]at this;exact this.elim
 refine za7.2 (.inr ⟨b,es,clock,l.map (fun x=>(x.1,(m.f x.1).getD [])),hv,fun hb=>hb.2 (h4 b (.inl ((hD b).2 rfl))),hms b hM,hh,⟨?_,?_,hi.born,hi.low⟩⟩)
 ·
  refine⟨by rw[List.length_map];exact hi.ents.1,fun j e x hj hx=>?_⟩
  rw[List.getElem?_map]at hx
  obtain⟨y,hy,rfl⟩:=Option.map_eq_some_iff.1 hx
  obtain⟨g1,g2⟩:=hi.ents.2 j e y hj hy
  have hr:=(hi.lists.mem y.1 y.2).1 (List.mem_of_getElem? hy)
  obtain⟨v,hm,hR⟩:=hfit _ _ hr
  have hval:e.val=y.2.v:=(ya.1 g2).1
  refine⟨zeW g1 (fun k hk=>hk.1),?_⟩
  show(rep ((m.f y.1).getD [])).p _ e.val w
  rw[hm,Option.getD_some,hval]
  refine zeW (zba M (Dr y.1) w _ hR hms) (fun k hk=>⟨hk.1,fun hd=>hk.2 (h4 k (.inr ⟨_,hd⟩))⟩)
 ·
  refine⟨?_,fun k v=>?_⟩
  ·
   rw[List.map_map]
   exact hi.lists.nodup
  ·
   constructor
   ·
    intro hin
    obtain⟨x,hx,he⟩:=List.mem_map.1 hin
    have hr:=(hi.lists.mem x.1 x.2).1 hx
    obtain⟨v',hm,_⟩:=hfit _ _ hr
    simp only[Prod.mk.injEq]at he
    obtain⟨rfl,rfl⟩:=he
    rw[hm];rfl
   ·
    intro hm
    cases hr:r.f k with
    | none=>rw[hnone k hr]at hm;cases hm
    | some s=>exact List.mem_map.2 ⟨(k,s),(hi.lists.mem k s).2 hr,by simp[hm]⟩
theorem zra {E:Nat}{m:GMap K (List α)}:QY (vO E m) m:=fun M D s w h hms=>zsr h hms
end
section
variable {P:Program} {ops:Array Oper} {fs:Nat} {L:zq} {B:zo} {G:Prop}
variable {ty:TypeId} {pos:String} {after:Array Edge} {g:Option (Nat×Bool)} {xr:List Nat} {d:Option Tmp}
variable {K α:Type} [Rep K] [DecidableEq K] [MKey K] [Rep α] {T kt et:TypeId} {m:GMap K (List α)} {k:K}
omit [DecidableEq K] [MKey K]in
theorem ze.makeMapW {E d:Nat}(hd:Nat.blt d fs=true):
  ze P ops fs ⟨some d,.makeMap T none,ty,pos,after,none⟩ L B ([],[d]) ⟨True,zV⟩ [(d,some (vO E (GMap.nil:GMap K (List α))))]:=by
 refine .doing fun M D a w hsz hm hs _=>?_
 refine zP.value (v:=.map (some w.heap.size)) (w':=w.alloc (.map #[] 0)) rfl (.one (fun k=>M k∨k=w.heap.size) (fun k=>k=w.heap.size) (Ext.alloc _ _) (fun k h=>.inl h) (fun k h=>h.imp id (by omega)) (fun k h=>?_) ⟨fun _=>trivial,fun hf=>(hf trivial).elim⟩ ?_ (fun k h=>by omega))
 ·
  rw[jw]
  rcases h with h | h
  ·
   have:=hm k h;omega
  ·
   omega
 ·
  rw[qJ (by rw[hsz];exact Nat.le_of_ble_eq_true hd)]
  refine⟨GMap.nil,fun k=>k=w.heap.size,fun _ _=>False,⟨w.heap.size,#[],0,[],rfl,fun k=>Iff.rfl,.inr rfl,?_,⟨qv.nil,zI.nil,by simp,by simp⟩⟩,fun k _=>fun _ h=>h,fun j h=>.inr h,fun j h=>h.elim id (fun⟨_,h⟩=>h.elim),fun _ _ h=>h.elim,fun _ _ _ h=>h.elim⟩
  show(w.heap.push _)[w.heap.size]?=_
  rw[Array.getElem?_push_size]
theorem ze.mapTake {E d q:Nat}{x y:Operand}{s:Value}(hT:qD P T kt et (MKey.desc K))(hz:yZ P et (⟨.slice none 0 0⟩:Raw))(hd:Nat.blt d fs=true)(hdq:(d==q)=false)(hx:Opd L True x (isV s))(hq:zk B q=some (zd.at s (vO E m)))(hy:Opd L True y (rep k)):
  ze P ops fs ⟨some d,.lookup T x y false,ty,pos,after,none⟩ L B ([q],[d,q]) ⟨True,zV⟩ [(d,some (zp E (m.getD k []))),(q,some (zd.at s (zcn E (fun z=>z=k) m)))]:=by
 have hdq:d≠q:=by simpa using hdq
 refine .doing fun M D a w hsz hm hs hsB=>?_
 have he:a.eval x=s:=(ya.1 (hx.get hs (fun t ht=>zB (by simp[Op.operands,ht])) trivial)).1
 obtain⟨r,Dm,Dr,⟨b,es,clock,l,hv,hD,hM,hh,hi⟩,h2,h3,h4,h5,h6⟩:=hsB.has q (by simp) _ hq
 have hk:=hy.get hs (fun t ht=>zB (by simp[Op.operands,ht])) trivial
 obtain⟨u,hu,hr⟩:=zbe (z:=(⟨.slice none 0 0⟩:Raw)) hT hz hk hh hi false
 have hu':u=(r.getD k ⟨.slice none 0 0⟩).v:=(ya.1 hu).1
 refine zP.value (v:=u) (w':=w) ?_ ?_
 ·
  simp only[execOp,he,hv];rw[Sem.run_bind,hr];rfl
 have mine:∀j,D q j→qE [d,q] B D j:=fun j hj=>⟨q,by simp,_,hq,hj⟩
 have cs:∀t c,zk [(d,some (zp E (m.getD k []))),(q,some (zd.at s (zcn E (fun z=>z=k) m)))] t=some c→(t=d∧c=zp E (m.getD k []))∨(t=q∧c=zd.at s (zcn E (fun z=>z=k) m)):=by
  intro t c hc
  simp only[zk]at hc
  by_cases q1:d=t
  ·
   subst q1;simp at hc;exact .inl ⟨rfl,hc.symm⟩
  ·
   rw[yp q1,cond_false]at hc
   by_cases q2:q=t
   ·
    subst q2;simp at hc;exact .inr ⟨rfl,hc.symm⟩
   ·
    rw[yp q2,cond_false]at hc;cases hc
 refine⟨M,fun t j=>if t=d then Dr k j else(D q j∧¬Dr k j),zx.refl _ _,fun j h=>.inl h,fun j h=>.inl h,hm,⟨fun _=>trivial,fun hf=>(hf trivial).elim⟩,fun t c hc=>?_,fun t t' c c' hc hc' hne=>?_⟩
 ·
  rcases cs t c hc with⟨rfl,rfl⟩ | ⟨rfl,rfl⟩
  ·
   simp only[if_pos rfl]
   refine⟨?_,fun j hj=>.inl (mine j (h4 j (.inr ⟨k,hj⟩)))⟩
   rw[qJ (by rw[hsz];exact Nat.le_of_ble_eq_true hd)]
   have hf:=h2 k (fun h=>h)
   cases hmk:m.f k with
   | none=>
    rw[hmk]at hf
    cases hrk:r.f k with
    | none=>
     rw[hrk]at hf
     have hu2:u = .slice none 0 0:=by rw[hu'];simp[GMap.getD,hrk]
     have e:m.getD k []=[]:=by simp[GMap.getD,hmk]
     rw[hu2,e]
     exact⟨none,0,rfl,Nat.le_refl _,by omega,rfl,rfl,hf⟩
    | some z=>rw[hrk]at hf;exact hf.elim
   | some v=>
    rw[hmk]at hf
    cases hrk:r.f k with
    | none=>rw[hrk]at hf;exact hf.elim
    | some z=>
     rw[hrk]at hf
     have hu2:u=z.v:=by rw[hu'];simp[GMap.getD,hrk]
     have e:m.getD k []=v:=by simp[GMap.getD,hmk]
     rw[hu2,e]
     exact hf
  ·
   have hne:t≠d:=fun e=>hdq e.symm
   simp only[if_neg hne]
   refine⟨⟨r,Dm,fun k' j=>k'≠k∧Dr k' j,⟨b,es,clock,l,hv,hD,hM,hh,hi⟩,fun k' hn=>?_,fun j h=>h3 j h.1,fun j h=>⟨h4 j (h.imp id (fun⟨k',h⟩=>⟨k',h.2⟩)),fun hd=>h.elim (fun h=>h5 _ _ hd h) (fun⟨k',h,h'⟩=>h (h6 _ _ _ h' hd))⟩,fun k' j h=>h5 k' j h.2,fun k1 k2 j a1 a2=>h6 k1 k2 j a1.2 a2.2⟩,fun j hj=>.inl (mine j hj.1)⟩
   have hf:=h2 k' (fun h=>h)
   have e:(fun j=>k'≠k∧Dr k' j)=Dr k':=by
    funext j;exact propext ⟨fun h=>h.2,fun h=>⟨hn,h⟩⟩
   show zai E M (fun j=>k'≠k∧Dr k' j) w _ _
   rw[e];exact hf
 ·
  intro j hj hj'
  rcases cs t c hc with⟨rfl,_⟩ | ⟨rfl,_⟩<;>rcases cs t' c' hc' with⟨rfl,_⟩ | ⟨rfl,_⟩
  ·
   exact hne rfl
  ·
   simp only[if_pos rfl]at hj
   simp only[if_neg (Ne.symm hdq)]at hj'
   exact hj'.2 hj
  ·
   simp only[if_pos rfl]at hj'
   simp only[if_neg (Ne.symm hdq)]at hj
   exact hj.2 hj'
  ·
   exact hne rfl
theorem ze.mapPut {E q t:Nat}{x y:Operand}{s:Value}{hole:K→Prop}{l:List α}(hT:qD P T kt et (MKey.desc K))(hqt:(q==t)=false)(hx:Opd L True x (isV s))(hq:zk B q=some (zd.at s (zcn E hole m)))(hh:∀z,hole z→z=k)(ht:zk B t=some (zp E l))(htn:Nat.blt t fs=true)(hy:Opd L True y (rep k)):
  ze P ops fs ⟨none,.mapUpdate T x y (.tmp t),ty,pos,after,none⟩ L B ([q,t],[q,t]) ⟨True,zV⟩ [(q,some (zd.at s (vO E (m.set k l)))),(t,none)]:=by
 have hqt:q≠t:=by simpa using hqt
 refine .doing fun M D a w hsz hm hs hsB=>?_
 have he:a.eval x=s:=(ya.1 (hx.get hs (fun t ht=>zB (by simp[Op.operands,ht])) trivial)).1
 obtain⟨r,Dm,Dr,⟨b,es,clock,es0,hv,hD,hM,hb,hi⟩,h2,h3,h4,h5,h6⟩:=hsB.has q (by simp) _ hq
 have hR:=hsB.has t (by simp) _ ht
 have hap:=hsB.apart q (by simp) t (by simp) _ _ hq ht hqt
 have hk:=hy.get hs (fun t ht=>zB (by simp[Op.operands,ht])) trivial
 obtain⟨o1,o2⟩:=ztM hR
 have hx2:(rep (⟨Act.val a t⟩:Raw)).p M (Act.val a t) w:=ya.2 ⟨rfl,o1,o2⟩
 obtain⟨es',clock',l',hr,hi'⟩:=zcN (x:=(⟨Act.val a t⟩:Raw)) hT hk hx2 hb hi
 have hkm:zx Dm w { w with heap:=w.heap.setIfInBounds b (.map es' clock') }:=JQ hD
 have hkq:zx (D q) w { w with heap:=w.heap.setIfInBounds b (.map es' clock') }:=hkm.mono (fun j _ h=>h4 j (.inl h))
 have hkM:zx M w { w with heap:=w.heap.setIfInBounds b (.map es' clock') }:=hkm.mono (fun j _ h=>(hD j).1 h▸hM)
 have same:∀j,j≠b→(w.heap.setIfInBounds b (.map es' clock'))[j]?=w.heap[j]?:=fun j hj=>by simp[Array.getElem?_setIfInBounds,Ne.symm hj]
 have inR:∀j,D t j→M j:=fun j hj=>zd.inM _ M (D t) _ w hR j hj
 have nb:∀j,D t j→j≠b:=fun j hj e=>hap j (h4 j (.inl ((hD j).2 e))) hj
 refine zP.skip (w':={ w with heap:=w.heap.setIfInBounds b (.map es' clock') }) ?_ rfl (.merge hq ht hkq (fun j h=>by simpa using hm j h) ⟨fun _=>trivial,fun hf=>(hf trivial).elim⟩ ?_)
 ·
  have:a.eval (.tmp t)=Act.val a t:=QD
  simp only[execOp,he,hv,this];rw[Sem.run_bind,hr];rfl
 ·
  rw[zae]
  have outR:∀k' j,Dr k' j→j≠b:=fun k' j h e=>h5 k' j h ((hD j).2 e)
  refine⟨r.set k ⟨Act.val a t⟩,Dm,fun k'=>if k'=k then D t else Dr k',⟨b,es',clock',l',hv,hD,hM,J6 hb,hi'.stay hkM (fun _ h=>h)⟩,fun k' _=>?_,fun j h=>h.elim (h3 j) (inR j),fun j h=>?_,fun k' j h=>?_,fun k1 k2 j a1 a2=>?_⟩
  ·
   show zai E M (if k'=k then D t else Dr k') _ (if k'=k then some l else m.f k') (if k'=k then some ⟨Act.val a t⟩else r.f k')
   by_cases hkk:k'=k
   ·
    rw[if_pos hkk,if_pos hkk,if_pos hkk]
    exact(zp E l).law M M (D t) _ w _ hkM (fun _ h=>.inl h) (fun j hj=>⟨inR j hj,same j (nb j hj)⟩) hR
   ·
    rw[if_neg hkk,if_neg hkk,if_neg hkk]
    exact(h2 k' (fun h=>hkk (hh k' h))).law hkM (fun _ h=>.inl h) (fun j hj=>⟨h3 j (h4 j (.inr ⟨k',hj⟩)),same j (outR k' j hj)⟩)
  ·
   rcases h with h | ⟨k',h⟩
   ·
    exact .inl (h4 j (.inl h))
   ·
    by_cases hkk:k'=k
    ·
     rw[if_pos hkk]at h;exact .inr h
    ·
     rw[if_neg hkk]at h;exact .inl (h4 j (.inr ⟨k',h⟩))
  ·
   intro hd
   simp only at h
   by_cases hkk:k'=k
   ·
    rw[if_pos hkk]at h;exact hap j (h4 j (.inl hd)) h
   ·
    rw[if_neg hkk]at h;exact h5 k' j h hd
  ·
   simp only at a1 a2
   by_cases c1:k1=k<;>by_cases c2:k2=k
   ·
    rw[c1,c2]
   ·
    rw[if_pos c1]at a1;rw[if_neg c2]at a2
    exact absurd a1 (hap j (h4 j (.inr ⟨k2,a2⟩)))
   ·
    rw[if_neg c1]at a1;rw[if_pos c2]at a2
    exact absurd a2 (hap j (h4 j (.inr ⟨k1,a1⟩)))
   ·
    rw[if_neg c1]at a1;rw[if_neg c2]at a2
    exact h6 k1 k2 j a1 a2
end
section
variable {P:Program} {Q:Exit→Act→World→Prop} {n:Nat} {F:Fr} {L:zq} {B:zo} {K α:Type} [Rep K] [Rep α] {m:GMap K (List α)}
end
theorem Opd.s {L:zq}{G:Prop}{t:Nat}{S:zF}(h:zD L t=some ⟨True,S⟩):Opd L G (.tmp t) S:=.tmp h fun _=>trivial
instance {α:Type} [Rep α]:Rep (Option α) where
 sz:=1
 agg:=false
 cells:=fun M o cs w=>∃v,cs=[v]∧((v = .pointer none∧o=none)∨∃x,o=some x∧(ref x).p M v w)
 len:=fun⟨v,h,_⟩=>by rw[h];rfl
 pos:=by decide
 flat:=fun⟨v,h,hv⟩=>by
  subst h
  rcases hv with⟨rfl,_⟩ | ⟨x,_,b,off,cs,rfl,_⟩<;>rfl
 plain:=fun⟨v,h,hv⟩ c hc=>by
  subst h;simp at hc;subst hc
  rcases hv with⟨rfl,_⟩ | ⟨x,_,b,off,cs,rfl,_⟩<;>rfl
 law:=fun {M M' x cs w w'} hk hm ⟨v,h,hv⟩=>⟨v,h,by
  rcases hv with hv | ⟨x,h1,h2⟩
  ·
   exact .inl hv
  ·
   exact .inr ⟨x,h1,(ref x).law _ _ _ _ _ hk hm h2⟩⟩
theorem zml {α:Type}[Rep α]{o:Option α}{M:zh}{v:Value}{w:World}:(rep o).p M v w↔(v = .pointer none∧o=none)∨∃x,o=some x∧(ref x).p M v w:=by
 constructor
 ·
  rintro⟨cs,⟨u,h,hu⟩,hv⟩
  subst h
  have:v=u:=hv
  rw[this];exact hu
 ·
  intro h
  exact⟨[v],⟨v,rfl,h⟩,rfl⟩
theorem ztv {α:Type}[Rep α]{x:α}{o:Option α}(h:o=some x){M:zh}{v:Value}{w:World}(hr:(rep o).p M v w):(ref x).p M v w:=by
 subst h
 rcases zml.1 hr with⟨_,h⟩ | ⟨y,h,hy⟩
 ·
  cases h
 ·
  cases h;exact hy
theorem ztf {α:Type}[Rep α]{M:zh}{w:World}:Rep.cells M (none:Option α) [.pointer none] w:=⟨_,rfl,.inl ⟨rfl,rfl⟩⟩
theorem Imp.refSome {α:Type}[Rep α]{x:α}:Imp (ref x) (rep (some x)):=fun M v w h=>zml.2 (.inr ⟨x,rfl,h⟩)
section
variable {P:Program} {ops:Array Oper} {fs:Nat} {L:zq} {B:zo} {G:Prop}
theorem ze.isRef {o:Oper}{x:Aux}{α:Type}[Rep α]{e:Option α}{v:α}{Ws:yL}(hv:e=some v)(h:ze P ops fs o L B x ⟨G,rep e⟩ Ws):ze P ops fs o L B x ⟨G,ref v⟩ Ws:=by
 intro M D a w h1 h2 h3 h4
 have q:=h M D a w h1 h2 h3 h4
 have hh:∀M' u w',(⟨G,rep e⟩:Ent).holds M' u w'→(⟨G,ref v⟩:Ent).holds M' u w':=fun M' u w' hp=>⟨fun hc=>ztv hv (hp.1 hc),hp.2⟩
 split
 ·
  rename_i hw
  rw[if_pos hw]at q
  refine zP.mono q fun u w' hL=>?_
  cases Ws with
  | nil=>exact⟨hL.1,hh _ _ _ hL.2⟩
  | cons W Ws=>
   obtain⟨M',D',a1,a2,a3,a4,a5,a6⟩:=hL
   exact⟨M',D',a1,a2,a3,a4,hh _ _ _ a5,a6⟩
 ·
  rename_i hw
  rw[if_neg hw]at q
  exact⟨q.1,hh _ _ _ q.2⟩
variable {d:Option Tmp} {ty:TypeId} {pos:String} {after:Array Edge}
end
section
variable {P:Program} {Q:Exit→Act→World→Prop} {n:Nat} {F:Fr} {L:zq} {B:zo}
end
end Go.DB
namespace Go.DB
open Go Go.RowKit
instance:Inhabited Raw:=⟨⟨.slice none 0 0⟩⟩
section
variable {P:Program} {ops:Array Oper} {fs:Nat} {L:zq} {B:zo} {G:Prop}
variable {d:Option Tmp} {ty:TypeId} {pos:String} {after:Array Edge} {g:Option (Nat×Bool)} {xr:List Nat}
end
end Go.DB
namespace Go.DB
open Go Go.RowKit
theorem ziT {β:Type}[Rep β]{x:β}{M:zh}{cs:List Value}{w:World}(h1:Rep.sz β=1)(ha:Rep.agg β=false)(hc:Rep.cells M x cs w):∃v,cs=[v]∧Rep.cells M (⟨v⟩:Raw) cs w:=by
 have hl:=Rep.len hc
 rw[h1]at hl
 match cs,hl with
 | [v],_=>
  refine⟨v,rfl,rfl,Rep.plain hc v (by simp),?_⟩
  have:=Rep.flat hc
  rw[ha]at this
  exact this
section
variable {P:Program} {ops:Array Oper} {fs:Nat} {L:zq} {B:zo} {G:Prop}
variable {ty:TypeId} {pos:String} {after:Array Edge} {g:Option (Nat×Bool)} {xr:List Nat} {d:Option Tmp}
theorem ze.storeRowF {T T' m off k t E:Nat}{p:Operand}{α γ δ:Type}[Rep α][Rep γ][Rep δ]{y0:γ}{l:List α}{set:Value→δ}(hT:Ty P T (List α))(hl:zk B k=some (yG m T' y0))(hp:Opd L True p (isV (ptr m off)))
  (hle:off+1≤Rep.sz γ) (hF:∀(M:zh) (s:Value) (cs:List Value) (w:World),Rep.cells M y0 cs w→Rep.cells M (⟨s⟩:Raw) [s] w→Rep.cells M (set s) (cs.take off++[s]++cs.drop (off+1)) w) (ht:zk B t=some (zp E l)) (hkt:(k==t)=false):
  ze P ops fs ⟨none,.store T p (.tmp t),ty,pos,after,none⟩ L B ([k,t],[k,t]) ⟨True,zV⟩ [(k,some (zd.at (ptr m 0) (zQ (fun s=>zC T' (set s)) (zp E l)))),(t,none)]:=by
 have hkt:k≠t:=by simpa using hkt
 refine .doing fun M D a w hsz hm hs hsB=>?_
 obtain⟨m',old,hvm,hD,hM,hh,hold⟩:=hsB.has k (by simp) _ hl
 obtain rfl:m=m':=by simp[ptr]at hvm;exact hvm
 have hR:=hsB.has t (by simp) _ ht
 have hap:=hsB.apart k (by simp) t (by simp) _ _ hl ht hkt
 have hxv:a.eval (.tmp t)=Act.val a t:=QD
 obtain⟨ad,cap,hsl,_⟩:=id hR
 have hz:Rep.cells M (⟨Act.val a t⟩:Raw) [Act.val a t] w:=⟨rfl,by rw[hsl];rfl,by rw[hsl];rfl⟩
 have hat:a.eval p=ptr m off:=(ya.1 (hp.get hs (fun t ht=>zB (by simp[Op.operands,ht])) trivial)).1
 have hlo:=Rep.len hold
 have hsplit:old=old.take off++(old.drop off).take 1++old.drop (off+1):=by
  rw[←List.drop_drop,List.append_assoc,List.take_append_drop,List.take_append_drop]
 obtain⟨w',h1,h2,h3,h4,h5,h6,h7⟩:=Ja (w:=w) (m:=m) (off:=off) (cs:=[Act.val a t]) (pre:=old.take off) (mid:=(old.drop off).take 1) (rest:=old.drop (off+1)) hT rfl
  (by rw[List.length_take,List.length_drop];show _=1;omega) (by rw[List.length_take];omega) (Rep.plain hz) (show(Act.val a t).cells=#[Act.val a t]by rw[hsl];rfl) (by rw[←hsplit];exact hh)
 have hkeep:zx (D k) w w':=⟨h3,h4,h5,by omega,fun j _ hn=>h7 j (fun e=>hn ((hD j).2 e))⟩
 have hkM:zx M w w':=⟨h3,h4,h5,by omega,fun j _ hn=>h7 j (fun e=>hn (e▸hM))⟩
 refine zP.skip (w':=w') (Q7 (by rw[hat,hxv];exact h1)) rfl (.merge hl ht hkeep (fun j h=>by rw[h6];exact hm j h) ⟨fun _=>trivial,fun hf=>(hf trivial).elim⟩ ?_)
 refine⟨Act.val a t,D k,D t,⟨m,_,rfl,hD,hM,h2,hF M _ old w' (Rep.law hkM (fun _ h=>.inl h) hold) (Rep.law hkM (fun _ h=>.inl h) hz)⟩,?_,fun _=>Iff.rfl,fun j h1 h2=>hap j h1 h2⟩
 exact(zp E l).law M M (D t) _ w w' hkM (fun _ h=>.inl h) (fun j hj=>⟨(zp E l).inM _ _ _ _ hR j hj,h7 j (fun e=>hap j ((hD j).2 e) hj)⟩) hR
theorem ze.storeRowD {T T' m off k t E:Nat}{p:Operand}{α γ δ:Type}[Rep α][Rep γ][Rep δ]{R0:zd}{mk:Value→γ}{l:List α}{set:Value→Value→δ}(hT:Ty P T (List α))(hl:zk B k=some (zd.at (ptr m 0) (zQ (fun z=>zC T' (mk z)) R0)))(hp:Opd L True p (isV (ptr m off)))
  (hle:off+1≤Rep.sz γ) (hF:∀(M:zh) (z s:Value) (cs:List Value) (w:World),Rep.cells M (mk z) cs w→Rep.cells M (⟨s⟩:Raw) [s] w→Rep.cells M (set s z) (cs.take off++[s]++cs.drop (off+1)) w) (ht:zk B t=some (zp E l)) (hkt:(k==t)=false):
  ze P ops fs ⟨none,.store T p (.tmp t),ty,pos,after,none⟩ L B ([k,t],[k,t]) ⟨True,zV⟩ [(k,some (zd.at (ptr m 0) (zQ (fun s=>zQ (fun z=>zC T' (set s z)) R0) (zp E l)))),(t,none)]:=by
 have hkt:k≠t:=by simpa using hkt
 refine .doing fun M D a w hsz hm hs hsB=>?_
 have hK:=hsB.has k (by simp) _ hl
 obtain⟨z,D1,D2,⟨m',old,hvm,hD,hM,hh,hold⟩,hR0,e1,a1⟩:=id hK
 obtain rfl:m=m':=by simp[ptr]at hvm;exact hvm
 have hR:=hsB.has t (by simp) _ ht
 have hap:=hsB.apart k (by simp) t (by simp) _ _ hl ht hkt
 have hxv:a.eval (.tmp t)=Act.val a t:=QD
 obtain⟨ad,cap,hsl,_⟩:=id hR
 have hz:Rep.cells M (⟨Act.val a t⟩:Raw) [Act.val a t] w:=⟨rfl,by rw[hsl];rfl,by rw[hsl];rfl⟩
 have hat:a.eval p=ptr m off:=(ya.1 (hp.get hs (fun t ht=>zB (by simp[Op.operands,ht])) trivial)).1
 have hlo:=Rep.len hold
 have hsplit:old=old.take off++(old.drop off).take 1++old.drop (off+1):=by
  rw[←List.drop_drop,List.append_assoc,List.take_append_drop,List.take_append_drop]
 obtain⟨w',h1,h2,h3,h4,h5,h6,h7⟩:=Ja (w:=w) (m:=m) (off:=off) (cs:=[Act.val a t]) (pre:=old.take off) (mid:=(old.drop off).take 1) (rest:=old.drop (off+1)) hT rfl
  (by rw[List.length_take,List.length_drop];show _=1;omega) (by rw[List.length_take];omega) (Rep.plain hz) (show(Act.val a t).cells=#[Act.val a t]by rw[hsl];rfl) (by rw[←hsplit];exact hh)
 have dk:D k m:=(e1 m).2 (.inl ((hD m).2 rfl))
 have hkeep:zx (D k) w w':=⟨h3,h4,h5,by omega,fun j _ hn=>h7 j (fun e=>hn (e▸dk))⟩
 have hkM:zx M w w':=⟨h3,h4,h5,by omega,fun j _ hn=>h7 j (fun e=>hn (e▸hM))⟩
 have hinK:∀j,D k j→M j:=fun j hj=>zd.inM _ M (D k) _ w hK j hj
 refine zP.skip (w':=w') (Q7 (by rw[hat,hxv];exact h1)) rfl (.merge hl ht hkeep (fun j h=>by rw[h6];exact hm j h) ⟨fun _=>trivial,fun hf=>(hf trivial).elim⟩ ?_)
 refine⟨Act.val a t,D k,D t,⟨z,D1,D2,⟨m,_,rfl,hD,hM,h2,hF M z _ old w' (Rep.law hkM (fun _ h=>.inl h) hold) (Rep.law hkM (fun _ h=>.inl h) hz)⟩,?_,e1,a1⟩,?_,fun _=>Iff.rfl,fun j h1 h2=>hap j h1 h2⟩
 ·
  exact R0.law M M D2 z w w' hkM (fun _ h=>.inl h) (fun j hj=>⟨hinK j ((e1 j).2 (.inr hj)),h7 j (fun e=>a1 m ((hD m).2 rfl) (e▸hj))⟩) hR0
 ·
  exact(zp E l).law M M (D t) _ w w' hkM (fun _ h=>.inl h) (fun j hj=>⟨(zp E l).inM _ _ _ _ hR j hj,h7 j (fun e=>hap m dk (e▸hj))⟩) hR
theorem ze.storeAtH {T T' m g:Nat}{p x:Operand}{α0 α:Type}[Rep α0][Rep α]{y0:α0}{z:α}(hT:Ty P T α)(hsz0:Rep.sz α0=Rep.sz α)(hl:zk B g=some (yG m T' y0))(hp:Opd L True p (isV (ptr m 0)))(hx:Opd L True x (rep z)):
  ze P ops fs ⟨none,.store T p x,ty,pos,after,none⟩ L B ([g],[g]) ⟨True,zV⟩ [(g,some (yG m T' z))]:=by
 refine .doing fun M D a w hsz hm hs hsB=>?_
 obtain⟨m',old,hvm,hD,hM,hh,hold⟩:=hsB.has g (by simp) _ hl
 obtain rfl:m=m':=by simp[ptr]at hvm;exact hvm
 have hat:a.eval p=ptr m 0:=(ya.1 (hp.get hs (fun t ht=>zB (by simp[Op.operands,ht])) trivial)).1
 obtain⟨cs,hc,hv⟩:=hx.get hs (fun t ht=>zB (by simp[Op.operands,ht])) trivial
 obtain⟨w',h1,h2,h3,h4,h5,h6,h7⟩:=Ja (w:=w) (m:=m) (off:=0) (cs:=cs) (pre:=[]) (mid:=old) (rest:=[]) hT (Rep.len hc) ((Rep.len hold).trans hsz0) rfl (Rep.plain hc) (Rep.flat hc) (by simpa using hh)
 have hkeep:zx (D g) w w':=⟨h3,h4,h5,by omega,fun j _ hn=>h7 j (fun e=>hn ((hD j).2 e))⟩
 have hkM:zx M w w':=⟨h3,h4,h5,by omega,fun j _ hn=>h7 j (fun e=>hn (e▸hM))⟩
 refine zP.skip (w':=w') (Q7 (by rw[hat,hv];exact h1)) rfl (.turn hl hkeep (fun j h=>by rw[h6];exact hm j h) ⟨fun _=>trivial,fun hf=>(hf trivial).elim⟩ ?_)
 exact⟨m,cs,rfl,hD,hM,by simpa using h2,Rep.law hkM (fun _ h=>.inl h) hc⟩
end
section
variable {P:Program} {fn:Func} {n:Nat} {F:Fr} {L:zq} {B:zo}
theorem zb.ret1S {e:Exit}(he:e = .ret∨e = .normal){t T T' m K:Nat}{α:Type}[Rep α]{R1 R2:zd}{mk:Value→Value→α}{c:Prop}(hT:Ty P T α)(hr:fn.results=#[.cell t T])
  (hl:zD L t=some ⟨c,isV (ptr m 0)⟩) (hc:c) (hB:zk B K=some (zd.at (ptr m 0) (zQ (fun s1=>zQ (fun s2=>zC T' (mk s1 s2)) R2) R1))):
  zb (bodyPost P fn (ji F zV [] [some (zQ (fun s1=>zQ (fun s2=>Yx (mk s1 s2)) R2) R1)])) e n F L B:=by
 rintro a w ⟨M,D,hs⟩
 have hK:=hs.hasB K _ hB
 obtain⟨s1,D1,D2,⟨s2,D3,D4,⟨m',cs,hvm,hD,hM,hh,hcs⟩,hR2,e1,a1⟩,hR1,e2,a2⟩:=id hK
 obtain rfl:m=m':=by simp[ptr]at hvm;exact hvm
 obtain⟨v,hv,hev⟩:=hs.has t _ hl
 obtain⟨rfl,_⟩:=ya.1 (hev.1 hc)
 have hrun:(ju a.tmps (.cell t T)).run P w = .ok (mkv (Rep.agg α) cs) w:=by
  have h1:=zcM (P:=P) hT hcs (b:=m) (off:=0) (fun j _=>by rw[cell_of_heap hh];simp)
  simp only[Instr.loadAt,Instr.sureAddr]at h1
  rw[Sem.run_bind]at h1
  simp only[Sem.run_pure,Result.andThen]at h1
  simp only[ju,Array.getD_eq_getD_getElem?,hv,Option.getD_some,asAddr]
  rw[Sem.run_bind]
  simp only[Sem.run_pure,Result.andThen]
  exact h1
 have hd:∀j,(D4 j∨D2 j)→D K j:=fun j h=>(e2 j).2 (h.imp (fun h=>(e1 j).2 (.inr h)) id)
 have hpost:a.defers=[]∧∃v,(results fn a.tmps).run P w = .ok v w∧ji F zV [] [some (zQ (fun s1=>zQ (fun s2=>Yx (mk s1 s2)) R2) R1)] (.returned v) w:=by
  refine⟨hs.defers,_,zmn hr hrun,_,M,fun _ j=>D4 j∨D2 j,rfl,hs.keeps,hs.mlow,hs.mhigh,hs.msub,trivial,fun i c hi=>?_,fun i j c c' hi hj hne=>?_⟩
  ·
   match i,hi with
   | 0,hi=>
    simp only[List.getElem?_cons_zero,Option.some.injEq]at hi
    subst hi
    exact⟨⟨s1,D4,D2,⟨s2,NoM,D4,⟨fun k h=>h,cs,hcs,rfl⟩,hR2,fun j=>⟨fun h=>.inr h,fun h=>h.elim (fun h=>h.elim) id⟩,fun j h=>h.elim⟩,hR1,fun j=>Iff.rfl,fun j h=>a2 j ((e1 j).2 (.inr h))⟩,fun k hk=>hs.own K _ hB k (hd k hk)⟩
   | i+1,hi=>simp at hi
  ·
   match i,j,hi,hj with
   | 0,0,_,_=>omega
   | i+1,_,hi,_=>simp at hi
   | _,j+1,_,hj=>simp at hj
 rcases he with rfl | rfl<;>exact hpost
end
end Go.DB
namespace Go.DB
open Go Go.RowKit
section
variable {P:Program} {ops:Array Oper} {fs:Nat} {L:zq} {B:zo} {G:Prop}
variable {ty:TypeId} {pos:String} {after:Array Edge} {g:Option (Nat×Bool)} {xr:List Nat} {d:Option Tmp}
theorem ze.lenPart {x:Operand}{T E E' k:Nat}{s:Value}{α:Type}[Rep α]{l:List α}{i j:Int}(hT:yK P T E)(hx:Opd L True x (isV (qP s i j (Rep.sz α))))(hk:zk B k=some (zd.at s (zp E' l)))(hb:y3 l.length i j):
  ze P ops fs ⟨d,.call { callee:=.builtin .len,args:=#[x],argTypes:=#[T] },ty,pos,after,none⟩ L B ([k],[]) ⟨True,rep (j - i)⟩ []:=
 .of .none fun M D a w hm hs hsB hG=>by
  have hv:=(ya.1 (hx.get hs (fun t ht=>zB (qM (by simp[ht]))) trivial)).1
  obtain⟨ad,cap,hsl,hlc,hcm,ho⟩:=hsB.has k (by simp) _ hk
  obtain⟨h0,h1,h2⟩:=hb
  subst hsl
  simp only[qP,sliced]at hv
  refine zP.value (zdN hT hv) ⟨zx.refl _ _,yz.2 ⟨by congr 1;omega,by unfold InI;omega⟩⟩
end
section
variable {Q:Exit→Act→World→Prop} {n:Nat} {F:Fr} {L:zq} {B:zo}
end
end Go.DB
namespace Go.DB
open Go Go.RowKit
section
variable {P:Program} {ops:Array Oper} {fs:Nat} {L:zq} {B:zo} {G:Prop}
variable {ty:TypeId} {pos:String} {after:Array Edge} {g:Option (Nat×Bool)} {xr:List Nat}
end
end Go.DB
namespace Go.DB
open Go Go.RowKit
section
variable {α β ρ:Type} [Rep β] [Rep ρ]
variable {E E2:Nat} {mk:α→Value→ρ} {sub:α→List β} {hs:List (Nat×Value)} {l:List α} {M D:zh} {v:Value} {w:World}
end
section
variable {Q:Exit→Act→World→Prop} {P:Program} {n:Nat} {F:Fr} {L:zq} {B:zo}
theorem zaS {k:Nat}{C:Option zd}:zk ((k,C)::B) k=C:=by simp[zk]
theorem zsg {g k:Nat}{C C':Option zd}(h:¬g=k):zk ((g,C')::(k,C)::B) k=C:=by simp only[zk];rw[yp h];simp
theorem Cod.tellK {c:Code}{k:Nat}{C C':zd}(hl:zk B k=some C)(h:∀M D v w,C.p M D v w→C'.p M D v w)(hc:Cod P c Q n F L ((k,some C')::B)):Cod P c Q n F L B:=by
 rintro a w ⟨M,D,hs⟩
 exact hc a w ⟨M,D,hs.retell hl (h _ _ _ _ (hs.hasB k _ hl))⟩
theorem zb.tellK {e:Exit}{k:Nat}{C C':zd}(hl:zk B k=some C)(h:∀M D v w,C.p M D v w→C'.p M D v w)(hc:zb Q e n F L ((k,some C')::B)):zb Q e n F L B:=by
 rintro a w ⟨M,D,hs⟩
 exact hc a w ⟨M,D,hs.retell hl (h _ _ _ _ (hs.hasB k _ hl))⟩
variable {α β ρ:Type} [Rep β] [Rep ρ] [Inhabited α] {E E2:Nat} {mk:α→Value→ρ} {sub:α→List β} {hs:List (Nat×Value)} {l:List α} {s:Value}
end
section
variable {P:Program} {ops:Array Oper} {fs:Nat} {L:zq} {B:zo} {G:Prop}
variable {ty:TypeId} {pos:String} {after:Array Edge} {g:Option (Nat×Bool)} {xr:List Nat} {d:Option Tmp}
variable {α β ρ:Type} [Rep β] [Rep ρ] [Inhabited α] {E E2:Nat} {mk:α→Value→ρ} {sub:α→List β} {hs:List (Nat×Value)} {l:List α} {s:Value}
theorem ze.post1 {o:Oper}{x:Aux}{e:Ent}{d:Nat}{C C':zd}(h:ze P ops fs o L B x e [(d,some C)])(hC:∀M D v w,C.p M D v w→C'.p M D v w):ze P ops fs o L B x e [(d,some C')]:=by
 intro M D a w h1 h2 h3 h4
 have:=h M D a w h1 h2 h3 h4
 split at this
 ·
  rename_i hw
  rw[if_pos hw]
  refine zP.mono this fun v w' hl=>?_
  obtain⟨M',D',a1,a2,a3,a4,a5,a6,a7⟩:=hl
  refine⟨M',D',a1,a2,a3,a4,a5,fun t c hc=>?_,fun t1 t2 c1 c2 q1 q2 hne=>?_⟩
  ·
   simp only[zk]at hc
   by_cases e:d=t
   ·
    subst e;simp at hc;subst hc
    obtain⟨b1,b2⟩:=a6 d C (by simp[zk])
    exact⟨hC _ _ _ _ b1,b2⟩
   ·
    rw[yp e]at hc;cases hc
  ·
   simp only[zk]at q1 q2
   by_cases e1:d=t1
   ·
    by_cases e2:d=t2
    ·
     exact absurd (e1.symm.trans e2) hne
    ·
     rw[yp e2]at q2;cases q2
   ·
    rw[yp e1]at q1;cases q1
 ·
  exact absurd this.1 (by simp)
end
section
variable {P:Program} {Q:Exit→Act→World→Prop} {n:Nat} {F:Fr} {L:zq} {B:zo}
theorem Cod.nameC {c:Code}{t g:Nat}{C:zd}(h1:zam C)(hl:zk B t=some C)(ht:Nat.blt t n=true)(hg:zk B g=none)
  (k:∀s,Cod P c Q n F ((t,⟨True,isV s⟩)::L) ((g,some (zd.at s C))::(t,none)::B)):Cod P c Q n F L B:=by
 intro a w hs
 obtain⟨M,D,h⟩:=id hs
 have hC:=h.hasB t _ hl
 refine k (Act.val a t) a w ⟨M,_,h.rekey hl hg hC fun t' e he=>?_⟩
 simp only[zD]at he
 by_cases hne:t=t'
 ·
  subst hne
  simp at he
  obtain rfl:=he
  have hlt:t<a.tmps.size:=by rw[h.size];exact Nat.le_of_ble_eq_true ht
  obtain⟨q1,q2⟩:=h1 _ _ _ _ hC
  refine⟨Act.val a t,by unfold Act.val;simp[hlt],fun _=>ya.2 ⟨rfl,q1,q2⟩,fun hf=>(hf trivial).elim⟩
 ·
  rw[yp hne,cond_false]at he
  exact h.has t' e he
end
section
variable {Q:Exit→Act→World→Prop} {P:Program} {n:Nat} {F:Fr} {L:zq} {B:zo}
end
theorem zS.frzO {P:Program}{f T:Nat}{Ss:List zF}{Os:jh}{outs:List (Option zd)}{α:Type}[Rep α]{l:List α}(h:zS P f Ss Os zV (outs++[some (zp T l)]))(hlen:outs.length=Os.length):zS P f Ss Os (rep l) outs:=by
 refine⟨h.ok,fun M D w vs hM ha hO=>Calls.mono (h.calls M D w vs hM ha hO) ?_⟩
 rintro e w' ⟨v,M',D',rfl,hk,hml,hmh,hms,_,hC,hA⟩
 have hn:(outs++[some (zp T l)])[Os.length]?=some (some (zp T l)):=by rw[←hlen];simp
 obtain⟨g1,g2⟩:=hC Os.length _ hn
 have hv:(((Os.map (·.1))++[v])[Os.length]?).getD undef=v:=by
  rw[List.getElem?_append_right (by simp)]
  simp
 rw[hv]at g1
 refine⟨v,fun k=>M' k∧¬D' Os.length k,D',rfl,hk,fun k hk'=>?_,fun k hk'=>hmh k hk'.1,fun k hk'=>hms k hk'.1,zba M' (D' Os.length) w' v g1 hms,fun i c hc=>?_,fun i j c c' hi hj hne=>?_⟩
 ·
  rcases hml k hk' with h1 | h1
  ·
   by_cases hd:D' Os.length k
   ·
    rcases g2 k hd with h2 | h2
    ·
     exact .inr h2
    ·
     exact absurd (hM k hk') (by have:=h2;simp only at this;omega)
   ·
    exact .inl ⟨h1,hd⟩
  ·
   exact .inr h1
 ·
  have hil:i<outs.length:=(List.getElem?_eq_some_iff.1 hc).1
  have hc':(outs++[some (zp T l)])[i]?=some (some c):=by rw[List.getElem?_append_left hil];exact hc
  obtain⟨q1,q2⟩:=hC i c hc'
  refine⟨c.law M' _ (D' i) _ w' w' (zx.refl _ _) (fun k hk=>.inl hk.1) (fun k hk=>⟨⟨c.inM _ _ _ _ q1 k hk,hA i Os.length _ _ hc' hn (by omega) k hk⟩,rfl⟩) q1,q2⟩
 ·
  have hil:i<outs.length:=(List.getElem?_eq_some_iff.1 hi).1
  have hjl:j<outs.length:=(List.getElem?_eq_some_iff.1 hj).1
  exact hA i j c c' (by rw[List.getElem?_append_left hil];exact hi) (by rw[List.getElem?_append_left hjl];exact hj) hne
theorem zS.frzO1 {P:Program}{f T:Nat}{Ss:List zF}{x:Value×zd}{o:Option zd}{α:Type}[Rep α]{l:List α}(h:zS P f Ss [x] zV [o,some (zp T l)]):zS P f Ss [x] (rep l) [o]:=zS.frzO (outs:=[o]) h rfl
end Go.DB
namespace Go.DB
open Go Go.RowKit
theorem zj.comp {α β γ:Type}[Rep α][Rep β][Rep γ]{o1 o2:Nat}{p:α→β}{q:β→γ}(h:zj α β o1 p)(h':zj β γ (0+o2) q):zj α γ (o1+o2) (fun x=>q (p x)):=by
 rw[Nat.zero_add]at h'
 refine⟨by have:=h.1;have:=h'.1;omega,fun M x cs w hc=>?_⟩
 obtain⟨c1,hc1,hj1⟩:=h.2 M x cs w hc
 obtain⟨c2,hc2,hj2⟩:=h'.2 M _ c1 w hc1
 refine⟨c2,hc2,fun j hj=>?_⟩
 rw[hj2 j hj,hj1 (o2+j) (by have:=h'.1;omega),Nat.add_assoc]
section
variable {P:Program} {ops:Array Oper} {fs:Nat} {L:zq} {B:zo} {G:Prop}
variable {d:Option Tmp} {ty:TypeId} {pos:String} {after:Array Edge} {g:Option (Nat×Bool)} {xr:List Nat}
end
end Go.DB
namespace Go.DB
open Go Go.RowKit
section
variable {P:Program} {ops:Array Oper} {fs:Nat} {L:zq} {B:zo} {G:Prop}
variable {d:Option Tmp} {ty:TypeId} {pos:String} {after:Array Edge} {g:Option (Nat×Bool)} {xr:List Nat}
variable {T T' E:TypeId} {x:Operand} {α:Type} [Rep α] {l:List α}
end
section
variable {P:Program} {ops:Array Oper} {fs:Nat} {L:zq} {B:zo} {ty:TypeId} {pos:String} {after:Array Edge}
end
end Go.DB
namespace Go.DB
open Go Go.RowKit
section
variable {K V σ ρ:Type}
open Classical in
noncomputable def zaX (m:GMap K V)(step:K→V→σ→Option σ)(s0:σ)(k:σ→Option ρ):Option ρ:=
 if h:∃r,∀l,zI m l→∃s,qp step l s0=some s∧k s=some r then some h.choose else none
variable {m:GMap K V}
def zil (m:GMap K V)(step:K→V→σ→Option σ)(s0:σ)(Pp:σ→Prop):Prop:=∀l,zI m l→∃s,qp step l s0=some s∧Pp s
theorem zlm {step:K→V→σ→Option σ}{s0:σ}{k:σ→Option ρ}{r:ρ}(h:zaX m step s0 k=some r):∃Pp:σ→Prop,zil m step s0 Pp∧∀s,Pp s→k s=some r:=by
 unfold zaX at h
 by_cases hx:∃r,∀l,zI m l→∃s,qp step l s0=some s∧k s=some r
 ·
  rw[dif_pos hx]at h
  refine⟨fun s=>k s=some r,fun l hl=>?_,fun _ h=>h⟩
  rw[←Option.some.inj h];exact hx.choose_spec l hl
 ·
  rw[dif_neg hx]at h;cases h
theorem zll {step:K→V→σ→Option σ}{s0:σ}{k:σ→Option ρ}{r:ρ}{l0:List (K×V)}(h0:zI m l0)(h:∀l,zI m l→∃s,qp step l s0=some s∧k s=some r):zaX m step s0 k=some r:=by
 unfold zaX
 have hx:∃r,∀l,zI m l→∃s,qp step l s0=some s∧k s=some r:=⟨r,h⟩
 rw[dif_pos hx]
 obtain⟨s,e1,e2⟩:=hx.choose_spec l0 h0
 obtain⟨s',e3,e4⟩:=h l0 h0
 have:s=s':=Option.some.inj (e1.symm.trans e3)
 subst this
 exact e2.symm.trans e4
end
section
variable {P:Program} {Q:Exit→Act→World→Prop} {n:Nat} {F:Fr} {L:zq} {B:zo}
variable {K V:Type} {m:GMap K V}
theorem Cod.mrangeKL {c:Code}{σ:Type}{step:K→V→σ→Option σ}{s0:σ}{Pp:σ→Prop}(he:zil m step s0 Pp)(hfin:∃l,zI m l)(Ls:List (K×V)×σ→zq)(Bs:List (K×V)×σ→zo){keep:zq}{keepB:zo}
  (h0:Sub L (Ls ([],s0))) (hB0:zi B (Bs ([],s0))) (hk:Sub L keep) (hkB:zi B keepB)
  (round:∀(p:List (K×V)×σ),(∀o,va m p.1 o→∃out,vP step p o=some out∧(∀e',out = .done e'→Pp e'))→
   Cod P c (Exit.then (fun a w=>∃s',(∃o,va m p.1 o∧vP step p o=some (.again s'))∧Sat n F (Ls s'++keep) (Bs s'++keepB) a w) Q) n F (Ls p++keep) (Bs p++keepB)):Cod P (.loop c) Q n F L B:=by
 obtain⟨l0,hl0⟩:=hfin
 refine Cod.loop (ι:={ p:List (K×V)×σ // Q0 m p.1∧∀l,zI m (p.1++l)→∃s,qp step l p.2=some s∧Pp s }) (fun p=>Ls p.1++keep) (fun p=>Bs p.1++keepB) (fun p=>l0.length - p.1.1.length)
  ⟨([],s0),⟨List.nodup_nil,by simp⟩,fun l hl=>he l (by simpa using hl)⟩ (h0.append hk) (hB0.append hkB) ?_
 rintro⟨p,hp,hI⟩
 have H:∀o,va m p.1 o→∃out,vP step p o=some out∧(∀e',out = .done e'→Pp e'):=by
  intro o ho
  cases o with
  | none=>
   obtain⟨s,h1,h2⟩:=hI [] (by simpa using(show zI m p.1 from ho))
   refine⟨_,rfl,fun e' h3=>?_⟩
   obtain rfl:p.2=s:=Option.some.inj h1
   cases h3
   exact h2
  | some x=>
   obtain⟨l,hl⟩:=(hp.next ho).more hl0
   obtain⟨s,h1,h2⟩:=hI (x::l) (by simpa using hl)
   simp only[qp]at h1
   simp only[vP]
   cases hst:step x.1 x.2 p.2 with
   | none=>rw[hst]at h1;cases h1
   | some s'=>exact⟨_,rfl,fun e' h3=>by cases h3⟩
 intro a w hs
 refine wp_mono (round p H a w hs) (fun x a w hq=>?_)
 cases x with
 | normal=>
  obtain⟨s',⟨o,ho,hst⟩,h3⟩:=hq
  cases o with
  | none=>simp[vP]at hst
  | some x=>
   simp only[vP]at hst
   cases hx:step x.1 x.2 p.2 with
   | none=>rw[hx]at hst;cases hst
   | some s''=>
    rw[hx]at hst
    simp only[Option.bind_some,Option.some.injEq,zN.again.injEq]at hst
    subst hst
    have hpn:=hp.next ho
    refine⟨⟨(p.1++[x],s''),hpn,fun l hl=>?_⟩,?_,h3⟩
    ·
     obtain⟨s,h1,h2⟩:=hI (x::l) (by simpa using hl)
     simp only[qp,hx,Option.bind_some]at h1
     exact⟨s,h1,h2⟩
    ·
     have h1:=hpn.len hl0
     rw[List.length_append]at h1
     simp at h1⊢
     omega
 | _=>exact hq
end
end Go.DB
namespace Go.DB
open Go Go.RowKit
section
variable {P:Program} {ops:Array Oper} {fs:Nat} {L:zq} {B:zo} {G:Prop}
variable {d:Option Tmp} {ty:TypeId} {pos:String} {after:Array Edge} {g:Option (Nat×Bool)} {xr:List Nat}
theorem ze.leStr {x y:Operand}{T T':TypeId}{m n:Str}(hg:zU ops g L G)(hx:Opd L G x (rep m))(hy:Opd L G y (rep n)):
  ze P ops fs ⟨d,.binOp .leq T x y T',ty,pos,after,g⟩ L B (xr,[]) ⟨G,rep (Op.bytesLess m.b n.b || m.b==n.b)⟩ []:=
 .pure hg fun M a w _ hs hG=>by
  obtain⟨h1,_⟩:=yC.1 (hx.get hs (fun t ht=>zB (by simp[Op.operands,ht])) hG)
  obtain⟨h2,_⟩:=yC.1 (hy.get hs (fun t ht=>zB (by simp[Op.operands,ht])) hG)
  refine⟨_,zjL h1 h2 rfl (v:=.bool (Op.bytesLess m.b n.b || m.b==n.b)) ?_,yS.2 rfl⟩
  simp only[yE,binOp_string_leq,ByteArray.toList_mk];rfl
theorem ze.indexPart {T E E' k:Nat}{x i:Operand}{s:Value}{α:Type}[Rep α]{l:List α}{i0 j0 j:Int}(hg:zU ops g L G)(hT:yK P T E)(hE:Ty P E α)
  (hx:Opd L G x (isV (qP s i0 j0 (Rep.sz α)))) (hk:zk B k=some (zd.at s (zp E' l))) (hi:Opd L G i (rep j)) (hb:G→y3 l.length i0 j0) (hb2:G→0≤j∧j<j0 - i0):
  ze P ops fs ⟨d,.indexAddr T x i,ty,pos,after,g⟩ L B ([k],[]) ⟨G,isV (ve s ((i0+j).toNat*Rep.sz α+0))⟩ []:=
 .of hg fun M D a w _ hs hsB hG=>by
  have hv:=(ya.1 (hx.get hs (fun t ht=>zB (by simp[Op.operands,ht])) hG)).1
  obtain⟨ad,cap,rfl,hcap,_,hl⟩:=hsB.has k (by simp) _ hk
  obtain⟨hiv,_⟩:=yz.1 (hi.get hs (fun t ht=>zB (by simp[Op.operands,ht])) hG)
  obtain⟨h0,h1⟩:=hb2 hG
  obtain⟨b0,b1,b2⟩:=hb hG
  cases ad with
  | none=>obtain⟨rfl,_⟩:=hl;simp at b2;omega
  | some ad=>
   obtain⟨blk,off,sp⟩:=ad
   obtain rfl:sp=none:=hl.1
   obtain⟨ti,hti,hsize⟩:=Option.map_eq_some_iff.1 hE.size
   have hsz:(sizeOf E).run P w = .ok (Rep.sz α) w:=by simp[sizeOf,typeInfo,hti,hsize,go_sem]
   have hun:(underlying T).run P w = .ok (.slice E) w:=by simp[underlying,show P.underlying T=_ from hT,go_sem]
   refine zP.value (v:=ptr blk (off+(i0+j).toNat*Rep.sz α)) (w':=w) ?_ ⟨zx.refl _ _,ya.2 ⟨by simp[ve],rfl,rfl⟩⟩
   have hv2:qP (.slice (some ⟨blk,off,none⟩) l.length cap) i0 j0 (Rep.sz α) = .slice (some ⟨blk,off+i0.toNat*Rep.sz α,none⟩) (j0.toNat - i0.toNat) (cap - i0.toNat)∨i0.toNat=cap:=by
    simp only[qP,sliced]
    by_cases c:i0.toNat=cap
    ·
     exact .inr c
    ·
     left
     have c':¬cap=i0.toNat:=fun e=>c e.symm
     simp[c',Addr.add]
   rcases hv2 with hv2 | hc
   ·
    rw[hv2]at hv
    have e:off+i0.toNat*Rep.sz α+j.toNat*Rep.sz α=off+(i0+j).toNat*Rep.sz α:=by
     rw[show(i0+j).toNat=i0.toNat+j.toNat by omega,Nat.add_mul];omega
    simp only[execOp,hv,hiv,Instr.indexAt,asIntOf,Sem.run_bind,hun,Result.andThen,Sem.run_pure]
    rw[if_pos ⟨h0,by omega⟩]
    simp only[Sem.run_bind,hsz,Result.andThen,Sem.run_pure,qF,ptr,e]
   ·
    have hcap2:l.length≤cap:=hcap
    omega
end
end Go.DB
namespace Go.DB
open Go Go.RowKit
section
variable {P:Program} {ops:Array Oper} {fs:Nat} {L:zq} {B:zo} {ty:TypeId} {pos:String} {after:Array Edge}
end
end Go.DB
namespace Go.DB
open Go Go.RowKit
section
variable {P:Program} {ops:Array Oper} {fs:Nat} {L:zq} {B:zo} {G:Prop}
variable {ty:TypeId} {pos:String} {after:Array Edge} {g:Option (Nat×Bool)} {xr:List Nat}
theorem ze.lenG {d:Option Nat}{x:Operand}{T E T' k:Nat}{s:Value}{α:Type}[Rep α]{l:List α}(hg:zU ops g L G)(hT:yK P T E)(hx:Opd L G x (isV s))(hl:zk B k=some (zd.at s (zp T' l))):
  ze P ops fs ⟨d,.call { callee:=.builtin .len,args:=#[x],argTypes:=#[T] },ty,pos,after,g⟩ L B ([k],[]) ⟨G,rep (l.length:Int)⟩ []:=
 .of hg fun M D a w _ hs hsB hG=>by
  have hv:=(ya.1 (hx.get hs (fun t ht=>zB (qM (by simp[ht]))) hG)).1
  obtain⟨ad,cap,rfl,h1,h2,_⟩:=hsB.has k (by simp) _ hl
  exact zP.value (zdN hT hv) ⟨zx.refl _ _,yz.2 ⟨rfl,by unfold InI;omega⟩⟩
end
end Go.DB
namespace Go.DB
open Go Go.RowKit
section
variable {α β ρ:Type} [Rep β] [Rep ρ]
variable {E E2:Nat} {mk:α→Value→ρ} {sub:α→List β} {n k:Nat} {l:List α} {M D:zh} {v:Value} {w:World}
end
section
variable {P:Program} {ops:Array Oper} {fs:Nat} {L:zq} {B:zo} {G:Prop}
variable {ty:TypeId} {pos:String} {after:Array Edge} {g:Option (Nat×Bool)} {xr:List Nat} {d:Option Tmp}
variable {α β ρ:Type} [Rep β] [Rep ρ] {E E2:Nat} {mk:α→Value→ρ} {sub:α→List β} {n k0:Nat} {l:List α} {s:Value}
theorem ze.storeH {T T' t:Nat}{x:Operand}{α0 α1:Type}[Rep α0][Rep α1]{y:α1}{y0:α0}(hT:Ty P T α1)(hl:zk B t=some (zC T' y0))(hsz0:Rep.sz α0=Rep.sz α1)(ht:Nat.blt t fs=true)(hx:Opd L True x (rep y)):
  ze P ops fs ⟨none,.store T (.tmp t) x,ty,pos,after,none⟩ L B ([t],[t]) ⟨True,zV⟩ [(t,some (zC T' y))]:=by
 refine .doing fun M D a w hsz hm hs hsB=>?_
 obtain⟨m,old,hvm,hD,hM,hh,hold⟩:=hsB.has t (by simp) _ hl
 obtain⟨cs,hc,hxv⟩:=hx.get hs (fun t ht=>zB (by simp[Op.operands,ht])) trivial
 have hat:a.eval (.tmp t) = .pointer (some ⟨m,0,none⟩):=by
  have hlt:t<a.tmps.size:=by rw[hsz];exact Nat.le_of_ble_eq_true ht
  rw[Act.eval_tmp (v:=Act.val a t) (by unfold Act.val;simp[hlt]),hvm]
 obtain⟨w',h1,h2,h3,h4,h5,h6,h7⟩:=Ja (w:=w) (m:=m) (pre:=[]) (rest:=[]) hT (Rep.len hc) ((Rep.len hold).trans hsz0) rfl (Rep.plain hc) (Rep.flat hc) (by simpa using hh)
 have hkeep:zx (D t) w w':=⟨h3,h4,h5,by omega,fun k _ hn=>h7 k (fun e=>hn ((hD k).2 e))⟩
 have hkM:zx M w w':=⟨h3,h4,h5,by omega,fun k _ hn=>h7 k (fun e=>hn (e▸hM))⟩
 refine zP.skip (w':=w') (Q7 (by rw[hat,hxv];exact h1)) rfl (.turn hl hkeep (fun k h=>by rw[h6];exact hm k h) ⟨fun _=>trivial,fun hf=>(hf trivial).elim⟩ ?_)
 rw[zae]
 exact⟨m,cs,hvm,hD,hM,by simpa using h2,Rep.law hkM (fun _ h=>.inl h) hc⟩
end
end Go.DB
namespace Go.DB
open Go Go.RowKit
abbrev oo:Aux:=([],[])
section
variable {P:Program} {ops:Array Oper} {n:Nat} {rest:List Oper} {L:zq} {B:zo} {K:zq→zo→Prop} {aux:List Aux} {xr:List Nat} {d t:Nat} {ty:TypeId} {pos:String} {after:Array Edge}
theorem zy.mv {S:zF}(h:zD L t=some ⟨True,S⟩)(k:zy P ops n rest [] ((d,⟨True,S⟩)::L) B K)(hB:yj B d=false:=by exact rfl):
  zy P ops n (⟨some d,.move (.tmp t),ty,pos,after,none⟩::rest) [] L B K:=.cons (.move .none (.s h)) hB k
theorem zy.mvA {S:zF}(h:zD L t=some ⟨True,S⟩)(k:zy P ops n rest aux ((d,⟨True,S⟩)::L) B K)(hB:yj B d=false:=by exact rfl):
  zy P ops n (⟨some d,.move (.tmp t),ty,pos,after,none⟩::rest) ((xr,[])::aux) L B K:=.consA (.move .none (.s h)) hB k
theorem zy.asn {S:zF}(h:zD L t=some ⟨True,S⟩)(k:zy P ops n rest [] ((d,⟨True,S⟩)::L) B K)(hB:yj B d=false:=by exact rfl):
  zy P ops n (⟨some d,.assign (.tmp t),ty,pos,after,none⟩::rest) [] L B K:=.cons (.assign .none (.s h)) hB k
theorem zy.asnA {S:zF}(h:zD L t=some ⟨True,S⟩)(k:zy P ops n rest aux ((d,⟨True,S⟩)::L) B K)(hB:yj B d=false:=by exact rfl):
  zy P ops n (⟨some d,.assign (.tmp t),ty,pos,after,none⟩::rest) ((xr,[])::aux) L B K:=.consA (.assign .none (.s h)) hB k
theorem zy.asi {i:Int}(k:zy P ops n rest [] ((d,⟨True,rep i⟩)::L) B K)(hi:InI i:=by decide)(hB:yj B d=false:=by exact rfl):
  zy P ops n (⟨some d,.assign (.const (.int .i64 i)),ty,pos,after,none⟩::rest) [] L B K:=.cons (.assign .none (.int hi)) hB k
theorem zy.mvi {i:Int}(k:zy P ops n rest [] ((d,⟨True,rep i⟩)::L) B K)(hi:InI i:=by decide)(hB:yj B d=false:=by exact rfl):
  zy P ops n (⟨some d,.move (.const (.int .i64 i)),ty,pos,after,none⟩::rest) [] L B K:=.cons (.move .none (.int hi)) hB k
theorem zy.ld {T:TypeId}{α:Type}[Rep α]{y:α}(hT:Ty P T α)(h:zD L t=some ⟨True,ref y⟩)(k:zy P ops n rest [] ((d,⟨True,rep y⟩)::L) B K)(hB:yj B d=false:=by exact rfl):
  zy P ops n (⟨some d,.load T (.tmp t),ty,pos,after,none⟩::rest) [] L B K:=.cons (.load .none hT (.s h)) hB k
theorem zy.ldA {T:TypeId}{α:Type}[Rep α]{y:α}(hT:Ty P T α)(h:zD L t=some ⟨True,ref y⟩)(k:zy P ops n rest aux ((d,⟨True,rep y⟩)::L) B K)(hB:yj B d=false:=by exact rfl):
  zy P ops n (⟨some d,.load T (.tmp t),ty,pos,after,none⟩::rest) ((xr,[])::aux) L B K:=.consA (.load .none hT (.s h)) hB k
theorem zy.fa {S f off:Nat}{α β:Type}[Rep α][Rep β]{proj:α→β}{y:α}(hF:yn P S f off)(hH:zj α β off proj)(h:zD L t=some ⟨True,ref y⟩)
  (k:zy P ops n rest [] ((d,⟨True,ref (proj y)⟩)::L) B K) (hB:yj B d=false:=by exact rfl):
  zy P ops n (⟨some d,.fieldAddr S (.tmp t) f,ty,pos,after,none⟩::rest) [] L B K:=.cons (.fieldAddr .none hF hH (.s h)) hB k
theorem zy.faA {S f off:Nat}{α β:Type}[Rep α][Rep β]{proj:α→β}{y:α}(hF:yn P S f off)(hH:zj α β off proj)(h:zD L t=some ⟨True,ref y⟩)
  (k:zy P ops n rest aux ((d,⟨True,ref (proj y)⟩)::L) B K) (hB:yj B d=false:=by exact rfl):
  zy P ops n (⟨some d,.fieldAddr S (.tmp t) f,ty,pos,after,none⟩::rest) ((xr,[])::aux) L B K:=.consA (.fieldAddr .none hF hH (.s h)) hB k
theorem zy.c {op:Op}{g:Option (Nat×Bool)}{E:Ent}(h:ze P ops n ⟨some d,op,ty,pos,after,g⟩ L B ([],[]) E [])(k:zy P ops n rest [] ((d,E)::L) B K)(hB:yj B d=false:=by exact rfl):
  zy P ops n (⟨some d,op,ty,pos,after,g⟩::rest) [] L B K:=.cons h hB k
theorem zy.cA {op:Op}{g:Option (Nat×Bool)}{E:Ent}(h:ze P ops n ⟨some d,op,ty,pos,after,g⟩ L B (xr,[]) E [])(k:zy P ops n rest aux ((d,E)::L) B K)(hB:yj B d=false:=by exact rfl):
  zy P ops n (⟨some d,op,ty,pos,after,g⟩::rest) ((xr,[])::aux) L B K:=.consA h hB k
theorem zy.cN {op:Op}{g:Option (Nat×Bool)}{E:Ent}{xs:List Nat}{V:Nat×Option zd}{Ws:yL}(h:ze P ops n ⟨none,op,ty,pos,after,g⟩ L B (xr,xs) E (V::Ws))(k:zy P ops n rest aux L (V::(Ws++B)) K)
  (hx:(V::Ws).map (·.1)=xs:=by exact rfl):zy P ops n (⟨none,op,ty,pos,after,g⟩::rest) ((xr,xs)::aux) L B K:=.consN h hx k
theorem zy.cW {op:Op}{g:Option (Nat×Bool)}{E:Ent}{xs:List Nat}{V:Nat×Option zd}{Ws:yL}(h:ze P ops n ⟨some d,op,ty,pos,after,g⟩ L B (xr,xs) E (V::Ws))(k:zy P ops n rest aux ((d,E)::L) (V::(Ws++B)) K)
  (hx:(V::Ws).map (·.1)=xs:=by exact rfl) (hB:yj B d=false:=by exact rfl):zy P ops n (⟨some d,op,ty,pos,after,g⟩::rest) ((xr,xs)::aux) L B K:=.consW h hx hB k
theorem zy.ixO {T E E' u:Nat}{s:Value}{α:Type}[Rep α]{l:List α}{j:Int}(q:Nat)(hT:yK P T E)(hE:Ty P E α)(hx:zD L t=some ⟨True,isV s⟩)(hk:zk B q=some (zd.at s (zp E' l)))(hi:zD L u=some ⟨True,rep j⟩)
  (hb:0≤j∧j<l.length) (k:zy P ops n rest aux ((d,⟨True,isV (ve s (j.toNat*Rep.sz α+0))⟩)::L) B K) (hB:yj B d=false:=by exact rfl):
  zy P ops n (⟨some d,.indexAddr T (.tmp t) (.tmp u),ty,pos,after,none⟩::rest) (([q],[])::aux) L B K:=.consA (.indexAddrO (k:=q) .none hT hE (.s hx) hk (.s hi) (fun _=>hb)) hB k
theorem zy.ix {T E u:Nat}{α:Type}[Rep α][Inhabited α]{l:List α}{j:Int}(hT:yK P T E)(hE:Ty P E α)(hx:zD L t=some ⟨True,rep l⟩)(hi:zD L u=some ⟨True,rep j⟩)
  (hb:0≤j∧j<l.length) (k:zy P ops n rest [] ((d,⟨True,ref (gx l j)⟩)::L) B K) (hB:yj B d=false:=by exact rfl):
  zy P ops n (⟨some d,.indexAddr T (.tmp t) (.tmp u),ty,pos,after,none⟩::rest) [] L B K:=.cons (.indexAddr .none hT hE (.s hx) (.s hi) (fun _=>hb)) hB k
theorem zy.ixA {T E u:Nat}{α:Type}[Rep α][Inhabited α]{l:List α}{j:Int}(hT:yK P T E)(hE:Ty P E α)(hx:zD L t=some ⟨True,rep l⟩)(hi:zD L u=some ⟨True,rep j⟩)
  (hb:0≤j∧j<l.length) (k:zy P ops n rest aux ((d,⟨True,ref (gx l j)⟩)::L) B K) (hB:yj B d=false:=by exact rfl):
  zy P ops n (⟨some d,.indexAddr T (.tmp t) (.tmp u),ty,pos,after,none⟩::rest) ((xr,[])::aux) L B K:=.consA (.indexAddr .none hT hE (.s hx) (.s hi) (fun _=>hb)) hB k
theorem zy.ex {i:Nat}{Ss:List zF}{S:zF}(h:zD L t=some ⟨True,tup Ss⟩)(hi:Ss[i]?=some S)(k:zy P ops n rest [] ((d,⟨True,S⟩)::L) B K)(hB:yj B d=false:=by exact rfl):
  zy P ops n (⟨some d,.extract (.tmp t) i,ty,pos,after,none⟩::rest) [] L B K:=.cons (.extract .none (.s h) hi) hB k
theorem zy.exA {i:Nat}{Ss:List zF}{S:zF}(h:zD L t=some ⟨True,tup Ss⟩)(hi:Ss[i]?=some S)(k:zy P ops n rest aux ((d,⟨True,S⟩)::L) B K)(hB:yj B d=false:=by exact rfl):
  zy P ops n (⟨some d,.extract (.tmp t) i,ty,pos,after,none⟩::rest) ((xr,[])::aux) L B K:=.consA (.extract .none (.s h) hi) hB k
theorem zy.mg {j tg:Nat}{want b:Bool}{c:Prop}{S:zF}(h1:(ops[j]?).bind (·.dst)=some tg)(h2:zD L tg=some ⟨c,rep b⟩)(h:zD L t=some ⟨True,S⟩)(k:zy P ops n rest [] ((d,⟨c∧b=want,S⟩)::L) B K)(hB:yj B d=false:=by exact rfl):
  zy P ops n (⟨some d,.move (.tmp t),ty,pos,after,some (j,want)⟩::rest) [] L B K:=.cons (.move (.at h1 h2) (.s h)) hB k
theorem zy.lg {j tg:Nat}{want b:Bool}{c:Prop}{T:TypeId}{α:Type}[Rep α]{y:α}(hT:Ty P T α)(h1:(ops[j]?).bind (·.dst)=some tg)(h2:zD L tg=some ⟨c,rep b⟩)(h:zD L t=some ⟨c∧b=want,ref y⟩)
  (k:zy P ops n rest [] ((d,⟨c∧b=want,rep y⟩)::L) B K) (hB:yj B d=false:=by exact rfl):
  zy P ops n (⟨some d,.load T (.tmp t),ty,pos,after,some (j,want)⟩::rest) [] L B K:=.cons (.load (.at h1 h2) hT (.tmp h id)) hB k
theorem zy.fg {j tg:Nat}{want b:Bool}{c:Prop}{S f off:Nat}{α β:Type}[Rep α][Rep β]{proj:α→β}{y:α}(hF:yn P S f off)(hH:zj α β off proj)(h1:(ops[j]?).bind (·.dst)=some tg)(h2:zD L tg=some ⟨c,rep b⟩)
  (h:zD L t=some ⟨True,ref y⟩) (k:zy P ops n rest [] ((d,⟨c∧b=want,ref (proj y)⟩)::L) B K) (hB:yj B d=false:=by exact rfl):
  zy P ops n (⟨some d,.fieldAddr S (.tmp t) f,ty,pos,after,some (j,want)⟩::rest) [] L B K:=.cons (.fieldAddr (.at h1 h2) hF hH (.s h)) hB k
theorem zy.pa {u:Nat}{b1 b2:Bool}(h1:zD L t=some ⟨True,rep b1⟩)(h2:zD L u=some ⟨True∧b1=true,rep b2⟩)(k:zy P ops n rest [] ((d,⟨True,rep (b1&&b2)⟩)::L) B K)(hB:yj B d=false:=by exact rfl):
  zy P ops n (⟨some d,.pick (.tmp t) (.tmp u) (.const (.bool false)),ty,pos,after,none⟩::rest) [] L B K:=.cons (.pickAnd .none (.s h1) (.tmp h2 id)) hB k
theorem zy.po {u:Nat}{b1 b2:Bool}(h1:zD L t=some ⟨True,rep b1⟩)(h2:zD L u=some ⟨True∧b1=false,rep b2⟩)(k:zy P ops n rest [] ((d,⟨True,rep (b1 || b2)⟩)::L) B K)(hB:yj B d=false:=by exact rfl):
  zy P ops n (⟨some d,.pick (.tmp t) (.const (.bool true)) (.tmp u),ty,pos,after,none⟩::rest) [] L B K:=.cons (.pickOr .none (.s h1) (.tmp h2 id)) hB k
theorem zy.lt {u:Nat}{T T':TypeId}{i j:Int}(h1:zD L t=some ⟨True,rep i⟩)(h2:zD L u=some ⟨True,rep j⟩)(k:zy P ops n rest [] ((d,⟨True,rep (decide (i<j))⟩)::L) B K)(hB:yj B d=false:=by exact rfl):
  zy P ops n (⟨some d,.binOp .lss T (.tmp t) (.tmp u) T',ty,pos,after,none⟩::rest) [] L B K:=.cons (.lt .none (.s h1) (.s h2)) hB k
theorem zy.add {u:Nat}{T T':TypeId}{i j:Int}(h1:zD L t=some ⟨True,rep i⟩)(h2:zD L u=some ⟨True,rep j⟩)(k:zy P ops n rest [] ((d,⟨True,rep (W (i+j))⟩)::L) B K)(hB:yj B d=false:=by exact rfl):
  zy P ops n (⟨some d,.binOp .add T (.tmp t) (.tmp u) T',ty,pos,after,none⟩::rest) [] L B K:=.cons (.addW .none (.s h1) (.s h2)) hB k
theorem zy.sub {u:Nat}{T T':TypeId}{i j:Int}(h1:zD L t=some ⟨True,rep i⟩)(h2:zD L u=some ⟨True,rep j⟩)(k:zy P ops n rest [] ((d,⟨True,rep (W (i - j))⟩)::L) B K)(hB:yj B d=false:=by exact rfl):
  zy P ops n (⟨some d,.binOp .sub T (.tmp t) (.tmp u) T',ty,pos,after,none⟩::rest) [] L B K:=.cons (.subW .none (.s h1) (.s h2)) hB k
theorem zy.asb {b:Bool}(k:zy P ops n rest [] ((d,⟨True,rep b⟩)::L) B K)(hB:yj B d=false:=by exact rfl):
  zy P ops n (⟨some d,.assign (.const (.bool b)),ty,pos,after,none⟩::rest) [] L B K:=.cons (.assign .none .bool) hB k
theorem Opd.i {G:Prop}{m:Int}(h:InI m:=by decide):Opd L G (.const (.int .i64 m)) (rep m):=.int h
theorem zy.addA {u:Nat}{T T':TypeId}{i j:Int}(h1:zD L t=some ⟨True,rep i⟩)(h2:zD L u=some ⟨True,rep j⟩)(k:zy P ops n rest aux ((d,⟨True,rep (W (i+j))⟩)::L) B K)(hB:yj B d=false:=by exact rfl):
  zy P ops n (⟨some d,.binOp .add T (.tmp t) (.tmp u) T',ty,pos,after,none⟩::rest) ((xr,[])::aux) L B K:=.consA (.addW .none (.s h1) (.s h2)) hB k
theorem zy.subA {u:Nat}{T T':TypeId}{i j:Int}(h1:zD L t=some ⟨True,rep i⟩)(h2:zD L u=some ⟨True,rep j⟩)(k:zy P ops n rest aux ((d,⟨True,rep (W (i - j))⟩)::L) B K)(hB:yj B d=false:=by exact rfl):
  zy P ops n (⟨some d,.binOp .sub T (.tmp t) (.tmp u) T',ty,pos,after,none⟩::rest) ((xr,[])::aux) L B K:=.consA (.subW .none (.s h1) (.s h2)) hB k
theorem zy.adi {T T':TypeId}{i j:Int}(h1:zD L t=some ⟨True,rep i⟩)(k:zy P ops n rest [] ((d,⟨True,rep (W (i+j))⟩)::L) B K)(hj:InI j:=by decide)(hB:yj B d=false:=by exact rfl):
  zy P ops n (⟨some d,.binOp .add T (.tmp t) (.const (.int .i64 j)) T',ty,pos,after,none⟩::rest) [] L B K:=.cons (.addW .none (.s h1) (.int hj)) hB k
theorem zy.eqi {T T':TypeId}{i j:Int}(h1:zD L t=some ⟨True,rep i⟩)(k:zy P ops n rest [] ((d,⟨True,rep (decide (i=j))⟩)::L) B K)(hj:InI j:=by decide)(hB:yj B d=false:=by exact rfl):
  zy P ops n (⟨some d,.binOp .eql T (.tmp t) (.const (.int .i64 j)) T',ty,pos,after,none⟩::rest) [] L B K:=.cons (.eqI .none (.s h1) (.int hj)) hB k
theorem zy.nei {T T':TypeId}{i j:Int}(h1:zD L t=some ⟨True,rep i⟩)(k:zy P ops n rest [] ((d,⟨True,rep (!decide (i=j))⟩)::L) B K)(hj:InI j:=by decide)(hB:yj B d=false:=by exact rfl):
  zy P ops n (⟨some d,.binOp .neq T (.tmp t) (.const (.int .i64 j)) T',ty,pos,after,none⟩::rest) [] L B K:=.cons (.neI .none (.s h1) (.int hj)) hB k
theorem zy.ra {α:Type}[Rep α]{e v:α}(hv:v=e)(h:zD L t=some ⟨True,rep e⟩)(k:zy P ops n rest [] ((d,⟨True,rep v⟩)::L) B K)(hB:yj B d=false:=by exact rfl):
  zy P ops n (⟨some d,.assign (.tmp t),ty,pos,after,none⟩::rest) [] L B K:=.cons (.re hv (.assign .none (.s h))) hB k
theorem zy.rlA {T:TypeId}{α:Type}[Rep α]{y v:α}(hv:v=y)(hT:Ty P T α)(h:zD L t=some ⟨True,ref y⟩)(k:zy P ops n rest aux ((d,⟨True,rep v⟩)::L) B K)(hB:yj B d=false:=by exact rfl):
  zy P ops n (⟨some d,.load T (.tmp t),ty,pos,after,none⟩::rest) ((xr,[])::aux) L B K:=.consA (.re hv (.load .none hT (.s h))) hB k
theorem zy.fe {S f o off E':Nat}{s:Value}{α:Type}[Rep α]{l:List α}{j:Int}(q:Nat)(hF:yn P S f o)(hx:zD L t=some ⟨True,isV (ve s (j.toNat*Rep.sz α+off))⟩)(hk:zk B q=some (zd.at s (zp E' l)))
  (hb:0≤j∧j<l.length) (k:zy P ops n rest aux ((d,⟨True,isV (ve s (j.toNat*Rep.sz α+(off+o)))⟩)::L) B K) (hB:yj B d=false:=by exact rfl):
  zy P ops n (⟨some d,.fieldAddr S (.tmp t) f,ty,pos,after,none⟩::rest) (([q],[])::aux) L B K:=.consA (.fieldElem (k:=q) .none hF (.s hx) hk (fun _=>hb)) hB k
theorem zy.st {T T' u:Nat}{α:Type}[Rep α]{y y0:α}(hT:Ty P T α)(hl:zk B t=some (zC T' y0))(ht:Nat.blt t n=true)(hx:zD L u=some ⟨True,rep y⟩)(k:zy P ops n rest aux L ((t,some (zC T' y))::([]++B)) K):
  zy P ops n (⟨none,.store T (.tmp t) (.tmp u),ty,pos,after,none⟩::rest) (([t],[t])::aux) L B K:=.consN (.store hT hl ht (.s hx)) rfl k
theorem zy.ln {T E:Nat}{α:Type}[Rep α]{l:List α}(hT:yK P T E)(h:zD L t=some ⟨True,rep l⟩)(k:zy P ops n rest [] ((d,⟨True,rep (l.length:Int)⟩)::L) B K)(hB:yj B d=false:=by exact rfl):
  zy P ops n (⟨some d,.call { callee:=.builtin .len,args:=#[.tmp t],argTypes:=#[T] },ty,pos,after,none⟩::rest) [] L B K:=.cons (.len .none hT (.s h)) hB k
theorem zy.al {T:Nat}{α:Type}[Rep α]{z:α}(hz:yZ P T z)(hd:Nat.blt d n=true)(k:zy P ops n rest aux ((d,⟨True,zV⟩)::L) ((d,some (zC T z))::([]++B)) K)(hB:yj B d=false:=by exact rfl):
  zy P ops n (⟨some d,.alloc T,ty,pos,after,none⟩::rest) (([],[d])::aux) L B K:=.consW (.alloc hz hd) rfl hB k
theorem zy.s0 {T T' m u:Nat}{α:Type}[Rep α]{y0 z:α}(q:Nat)(hT:Ty P T α)(hl:zk B q=some (yG m T' y0))(hp:zD L t=some ⟨True,isV (ptr m 0)⟩)(hx:zD L u=some ⟨True,rep z⟩)
  (k:zy P ops n rest aux L ((q,some (yG m T' z))::([]++B)) K):zy P ops n (⟨none,.store T (.tmp t) (.tmp u),ty,pos,after,none⟩::rest) (([q],[q])::aux) L B K:=.consN (.storeAt0 (g:=q) hT hl (.s hp) (.s hx)) rfl k
end
section
variable {P:Program} {ops:Array Oper} {fs:Nat} {L:zq} {B:zo} {ty:TypeId} {pos:String} {after:Array Edge}
theorem ze.cO {d:Option Nat}{f:Nat}{xs:Array Operand}{ts:Array TypeId}{Ss:List zF}{Os:jh}{S:zF}{outs:List (Option zd)}{V:Nat×Option zd}{Ws:yL}{xk:List Nat}(ks:List Nat)(hspec:zS P f Ss Os S outs)
  (hx:jL L True xs.toList Ss) (hH:vZ B ks Os) (hW:j5 (Os.map (·.1)) ks d outs=V::Ws) (hnd:(ks++d.toList).Nodup:=by decide) (hxk:∀k∈ks,k∈xk:=by decide) (hd:∀d',d=some d'→d'<fs:=by intro d h;cases h;decide):
  ze P ops fs ⟨d,.call { callee:=.value (.func f),args:=xs,argTypes:=ts },ty,pos,after,none⟩ L B (ks,xk) ⟨True,S⟩ (V::Ws):=.callO ks hspec hx hH hW hnd hxk hd
end
section
variable {P:Program} {Q:Exit→Act→World→Prop} {n:Nat} {F:Fr} {L:zq} {B:zo}
theorem Cod.sr {id:Nat}{l:List Oper}{draw:Bool}{y:Code}(aux:List Aux)(hm:P.follows .mixedOrders=true)
  (h:zy P l.toArray n l aux L B (fun L' B'=>Cod P y Q n F L' B')) (hok:J3 n l.toArray aux=true:=by kernel_rfl):Cod P (.seq (.region id l.toArray draw) y) Q n F L B:=
 .seq (.region aux hm hok h)
theorem Cod.rg {id:Nat}{l:List Oper}{draw:Bool}(aux:List Aux)(hm:P.follows .mixedOrders=true)
  (h:zy P l.toArray n l aux L B (fun L' B'=>zb Q .normal n F L' B')) (hok:J3 n l.toArray aux=true:=by kernel_rfl):Cod P (.region id l.toArray draw) Q n F L B:=
 .region aux hm hok h
theorem Cod.sn {id:Nat}{l:List Oper}{draw:Bool}{y:Code}(hm:P.follows .mixedOrders=true)(h:zy P l.toArray n l [] L B (fun L' B'=>Cod P y Q n F L' B'))(hok:J3 n l.toArray []=true:=by kernel_rfl):
  Cod P (.seq (.region id l.toArray draw) y) Q n F L B:=.sr [] hm h hok
theorem Cod.rn {id:Nat}{l:List Oper}{draw:Bool}(hm:P.follows .mixedOrders=true)(h:zy P l.toArray n l [] L B (fun L' B'=>zb Q .normal n F L' B'))(hok:J3 n l.toArray []=true:=by kernel_rfl):
  Cod P (.region id l.toArray draw) Q n F L B:=.rg [] hm h hok
theorem Cod.tJ {x y:Code}(prop:Unit→Prop){keep:zq}{keepB:zo}(hk:Sub L keep)(hkB:zi B keepB)(h:Cod P x (Exit.then (fun a w=>∃j:Unit,prop j∧Sat n F ((fun _=>([]:zq)) j++keep) ((fun _=>([]:zo)) j++keepB) a w) Q) n F L B)
  (k:∀i:Unit,prop i→Cod P y Q n F ((fun _=>([]:zq)) i++keep) ((fun _=>([]:zo)) i++keepB)):Cod P x (Exit.then (y.wp P Q) Q) n F L B:=.thenJ (fun _=>[]) (fun _=>[]) prop hk hkB h k
theorem Sub.k4 {e1 e2 e3 e4:Ent}{L':zq}(a b c d:Nat)(h1:zD L a=some e1)(h2:zD L b=some e2)(h3:zD L c=some e3)(h4:zD L d=some e4)(r:Sub L L'):Sub L ((a,e1)::(b,e2)::(c,e3)::(d,e4)::L'):=.cons h1 (.cons h2 (.cons h3 (.cons h4 r)))
theorem Sub.k2 {e1 e2:Ent}{L':zq}(a b:Nat)(h1:zD L a=some e1)(h2:zD L b=some e2)(r:Sub L L'):Sub L ((a,e1)::(b,e2)::L'):=.cons h1 (.cons h2 r)
theorem zi.k2 {C1 C2:zd}{B':zo}(a b:Nat)(h1:zk B a=some C1)(h2:zk B b=some C2)(r:zi B B'):zi B ((a,some C1)::(b,some C2)::B'):=.cons h1 (.cons h2 r)
theorem Cod.cb {t:Nat}{x y:Code}{b:Bool}{β:Type}{A C r:Option β}(hl:zD L t=some ⟨True,rep b⟩)(h:(bif b then A else C)=r)
  (h1:b=true→A=r→Cod P x Q n F L B) (h2:b=false→C=r→Cod P y Q n F L B):Cod P (.cond (.tmp t) x y) Q n F L B:=
 .cond hl trivial (fun hb=>h1 hb (zoS h hb)) (fun hb=>h2 hb (zoR h hb))
inductive Jp (L:zq):zq→Prop
 | n:Jp L []
 | c {t:Nat} {e:Ent} {L':zq} (h:zD L t=some e) (k:Jp L L'):Jp L ((t,e)::L')
inductive Jq (B:zo):zo→Prop
 | n:Jq B []
 | c {t:Nat} {e:zd} {B':zo} (h:zk B t=some e) (k:Jq B B'):Jq B ((t,some e)::B')
theorem Jp.sub {L L':zq}(h:Jp L L'):Sub L L':=by
 induction h with
 | n=>exact .nil
 | c h _ ih=>exact .cons h ih
theorem Jq.sub {B B':zo}(h:Jq B B'):zi B B':=by
 induction h with
 | n=>exact .nil
 | c h _ ih=>exact .cons h ih
theorem zb.j {ι:Type}{Ls:ι→zq}{Bs:ι→zo}{prop:ι→Prop}{keep:zq}{keepB:zo}(j:ι)(hp:prop j)(h:Jp L (Ls j++keep):=by repeat constructor)(hB:Jq B (Bs j++keepB):=by repeat constructor):
  zb (Exit.then (fun a w=>∃j,prop j∧Sat n F (Ls j++keep) (Bs j++keepB) a w) Q) .normal n F L B:=.join j hp h.sub hB.sub
theorem zb.ag {σ ρ:Type}{o:zN σ ρ}{Ls:σ→zq}{Bs:σ→zo}{keep:zq}{keepB:zo}{s':σ}(ho:o = .again s')(h:Jp L (Ls s'++keep):=by repeat constructor)(hB:Jq B (Bs s'++keepB):=by repeat constructor):
  zb (Exit.then (fun a w=>∃s',o = .again s'∧Sat n F (Ls s'++keep) (Bs s'++keepB) a w) Q) .normal n F L B:=.againL ho h.sub hB.sub
theorem zb.rt {fn:Func}{e:Exit}{t:Nat}{S:zF}(hr:fn.results=#[.tmp t])(h:zD L t=some ⟨True,S⟩)(he:e = .ret∨e = .normal:=by exact .inl rfl):zb (bodyPost P fn (vE F S)) e n F L B:=
 .ret1 he hr (.tmp h trivial Imp.refl)
theorem Cod.fb {c:Code}{T m:Nat}{α:Type}[Rep α]{y:α}(q:Nat)(ts:List Nat)(hl:zk B q=some (yG m T y))(hts:QV L (ptr m 0) ts)(k:Cod P c Q n F (JG (ref y) ts L) []):Cod P c Q n F L B:=.freezeBox hl hts .nil rfl k
theorem zb.r2 {fn:Func}{e:Exit}{t t2 T:Nat}{S2:zF}{α:Type}[Rep α]{y:α}(hr:fn.results=#[.cell t T,.tmp t2])(hT:Ty P T α)(h:zD L t=some ⟨True,ref y⟩)(h2:zD L t2=some ⟨True,S2⟩)(he:e = .ret∨e = .normal:=by exact .inl rfl):
  zb (bodyPost P fn (vE F (tup [rep y,S2]))) e n F L B:=.ret2 he hr (.cellR hT h trivial Imp.refl) (.tmp h2 trivial Imp.refl)
theorem zr.i {f:Nat}{fn:Func}{c:Code}{Ss:List zF}{S:zF}(hf:P.funcs[f]?=some fn)(hb:fn.body=some c)(hn:fn.ntmps=n)(hle:Nat.ble Ss.length n=true)
  (h:∀F,Cod P c (bodyPost P fn (vE F S)) n F (Jt 0 Ss) []) (hN:(fn.name=="runtime.NumGoroutine")=false:=by kernel_rfl) (hB:fn.body.isNone=false:=by kernel_rfl):zr P f Ss S:=.intro ⟨fn,hf,hN,hB⟩ hf hb hn hle h
theorem zS.i {f:Nat}{fn:Func}{c:Code}{Ss:List zF}{Os:jh}{S:zF}{outs:List (Option zd)}(hf:P.funcs[f]?=some fn)(hb:fn.body=some c)(hn:fn.ntmps=n)(hle:Nat.ble Ss.length n=true)
  (h:∀F,Cod P c (bodyPost P fn (ji F S (Os.map (·.1)) outs)) n F (Jt 0 Ss) (za0 n Os)) (hN:(fn.name=="runtime.NumGoroutine")=false:=by kernel_rfl) (hB:fn.body.isNone=false:=by kernel_rfl):zS P f Ss Os S outs:=.intro ⟨fn,hf,hN,hB⟩ hf hb hn hle h
end
end Go.DB
namespace Go.DB
open Go Go.RowKit
section
variable {P:Program} {Q:Exit→Act→World→Prop} {n:Nat} {F:Fr} {L:zq} {B:zo}
end
section
variable {P:Program} {ops:Array Oper} {fs:Nat} {L:zq} {B:zo} {ty:TypeId} {pos:String} {after:Array Edge} {d:Option Tmp} {xr:List Nat}
end
end Go.DB
namespace Go.DB
open Go Go.RowKit
section
variable {P:Program} {ops:Array Oper} {fs:Nat} {L:zq} {B:zo} {ty:TypeId} {pos:String} {after:Array Edge} {g:Option (Nat×Bool)}
end
section
variable {P:Program} {ops:Array Oper} {fs:Nat} {L:zq} {B:zo} {d:Option Tmp} {ty:TypeId} {pos:String} {after:Array Edge} {g:Option (Nat×Bool)} {G:Prop}
variable {K V:Type} [Rep K] [DecidableEq K] [MKey K] [Rep V] {m:GMap K V} {k:K} {z:V} {T kt et:TypeId}
end
end Go.DB
namespace Go.DB
open Go Go.RowKit
theorem zS.frzG {P:Program}{f:Nat}{Ss:List zF}{α:Type}[Rep α]{x:α}{C:zd}(h:zS P f Ss [] zV [some C])
  (hF:∀M D v w,C.p M D v w→(∀k,M k→k<w.heap.size)→(rep x).p (fun k=>M k∧¬D k) v w):zr P f Ss (rep x):=
 ⟨h.ok,fun M w vs hM ha=>Calls.mono (h.calls M (fun _=>NoM) w vs hM ha ⟨fun i s c h=>by simp at h,fun i j x y h=>by simp at h⟩) fun e w' ⟨v,M',D',he,hk,hml,hmh,hms,hS,hO,_⟩=>by
  have no:∀k,¬DU (fun _=>NoM) ([]:jh).length k:=fun k ⟨i,hi,_⟩=>by simp at hi
  obtain⟨h1,h2⟩:=hO 0 _ rfl
  have h3:=hF M' (D' 0) _ w' h1 hms
  refine⟨⟨hk.os,hk.tape,hk.output,hk.size,fun k hlt _=>hk.block k hlt (no k)⟩,v,he,(rep x).law _ M v w' w' (zx.refl _ _) (fun k hk2=>.inl ⟨(hml k hk2).resolve_right (no k),fun hd=>?_⟩) h3⟩
  rcases h2 k hd with h4 | h4
  ·
   exact no k h4
  ·
   have:=hM k hk2;simp only at h4;omega⟩
theorem zpJ {α β1 β2 γ:Type}[Rep α][Rep β1][Rep β2][Rep γ]{x1:β1}{x2:β2}{R1 R2:zd}{mk:Value→Value→α}{y:γ}(f1:QY R1 x1)(f2:QY R2 x2)(hagg:Rep.agg γ=Rep.agg α)
  (hy:∀M s1 s2 cs w,Rep.cells M (mk s1 s2) cs w→(rep x1).p M s1 w→(rep x2).p M s2 w→Rep.cells M y cs w) (M D:zh) (v:Value) (w:World)
  (h:(zQ (fun s1=>zQ (fun s2=>Yx (mk s1 s2)) R2) R1).p M D v w) (hms:∀k,M k→k<w.heap.size):(rep y).p (fun k=>M k∧¬D k) v w:=by
 obtain⟨s1,D1,D2,⟨s2,D3,D4,⟨hno,cs,hc,hv⟩,hR2,e1,a1⟩,hR1,e2,a2⟩:=h
 have hsub:∀k,(M k∧¬D k)→M k∨w.heap.size≤k:=fun k h=>.inl h.1
 refine⟨cs,hy _ s1 s2 cs w (Rep.law (zx.refl M w) hsub hc) ?_ ?_,by rw[hv,hagg]⟩
 ·
  exact(rep x1).law _ _ s1 w w (zx.refl _ _) (fun k h=>.inl ⟨h.1,fun h2=>h.2 ((e2 k).2 (.inr h2))⟩) (f1 M D2 s1 w hR1 hms)
 ·
  exact(rep x2).law _ _ s2 w w (zx.refl _ _) (fun k h=>.inl ⟨h.1,fun h2=>h.2 ((e2 k).2 (.inl ((e1 k).2 (.inr h2))))⟩) (f2 M D4 s2 w hR2 hms)
section
variable {P:Program} {ops:Array Oper} {fs:Nat} {L:zq} {B:zo} {d:Option Tmp} {ty:TypeId} {pos:String} {after:Array Edge} {g:Option (Nat×Bool)} {G:Prop}
end
section
variable {P:Program} {ops:Array Oper} {fs:Nat} {L:zq} {B:zo} {d:Option Tmp} {ty:TypeId} {pos:String} {after:Array Edge} {g:Option (Nat×Bool)} {xr:List Nat}
end
end Go.DB
namespace Go.DB
open Go Go.RowKit
section
variable {K K2 V:Type} [Rep K] [Rep K2] [Rep V]
def QX (M D:zh)(w:World):Option (GMap K2 V)→Option Raw→Prop
 | some l,some s=>(zW l).p M D s.v w
 | none,none=>True
 | _,_=>False
theorem QX.law {M M' D:zh}{w w':World}{a:Option (GMap K2 V)}{b:Option Raw}(hk:zx M w w')(hm:∀k,M' k→M k∨w.heap.size≤k)(ho:∀k,D k→M' k∧w'.heap[k]?=w.heap[k]?)(h:QX M D w a b):QX M' D w' a b:=by
 match a,b,h with
 | some l,some s,h=>exact(zW l).law M M' D s.v w w' hk hm ho h
 | none,none,h=>exact h
def yo (h:Option (K×Value))(m:GMap K (GMap K2 V)):zd where
 p:=fun M D v w=>∃(r:GMap K Raw) (Dm:zh) (Dr:K→zh),(zW r).p M Dm v w∧(∀k s,h=some (k,s)→r.f k=some ⟨s⟩∧(m.f k).isSome=true)∧(∀k,(∀s,h≠some (k,s))→QX M (Dr k) w (m.f k) (r.f k))∧
  (∀j,D j→M j)∧(∀j,(Dm j∨∃k,Dr k j)→D j)∧(∀k j,Dr k j→¬Dm j)∧∀k k' j,Dr k j→Dr k' j→k=k'
 inM:=fun M D v w ⟨r,Dm,Dr,_,_,_,h3,_⟩ k hk=>h3 k hk
 law:=fun M M' D v w w' hk hm hown ⟨r,Dm,Dr,h1,hp,h2,h3,h4,h5,h6⟩=>by
  have o1:∀j,Dm j→D j:=fun j h=>h4 j (.inl h)
  have o2:∀k j,Dr k j→D j:=fun k j h=>h4 j (.inr ⟨k,h⟩)
  exact⟨r,Dm,Dr,(zW r).law M M' Dm v w w' hk hm (fun j h=>hown j (o1 j h)) h1,hp,fun k hn=>(h2 k hn).law hk hm (fun j h=>hown j (o2 k j h)),fun j h=>(hown j h).1,h4,h5,h6⟩
variable {m:GMap K (GMap K2 V)} {M D:zh} {v:Value} {w:World} {h:Option (K×Value)}
theorem zsn (h1:(yo h m).p M D v w):∃b,v = .map (some b):=by
 obtain⟨r,Dm,Dr,h1,_⟩:=h1
 exact JU h1
theorem zg0:zam (yo h m):=fun _ _ _ _ h=>by
 obtain⟨b,hv⟩:=zsn h
 rw[hv];exact⟨rfl,rfl⟩
theorem zso {k:K}(hk:m.has k=true)(h:(yo none m).p M D v w):(zQ (fun z=>yo (some (k,z)) m) (zW (m.getD k GMap.nil))).p M D v w:=by
 obtain⟨r,Dm,Dr,h1,hp,h2,h3,h4,h5,h6⟩:=h
 have hf:=h2 k (fun s e=>by cases e)
 unfold GMap.has at hk
 cases hmk:m.f k with
 | none=>rw[hmk]at hk;cases hk
 | some x=>
  rw[hmk]at hf
  cases hrk:r.f k with
  | none=>rw[hrk]at hf;exact hf.elim
  | some s=>
   rw[hrk]at hf
   refine⟨s.v,fun j=>D j∧¬Dr k j,Dr k,⟨r,Dm,fun k' j=>k'≠k∧Dr k' j,h1,fun k' s' e=>?_,fun k' hn=>?_,fun j h=>h3 j h.1,fun j h=>?_,fun k' j h=>h5 k' j h.2,fun k1 k2 j a1 a2=>h6 k1 k2 j a1.2 a2.2⟩,?_,fun j=>?_,fun j h h'=>h.2 h'⟩
   ·
    simp only[Option.some.injEq,Prod.mk.injEq]at e
    obtain⟨rfl,rfl⟩:=e
    exact⟨hrk,by rw[hmk];rfl⟩
   ·
    have hne:k'≠k:=fun e=>hn s.v (by rw[e])
    have e:(fun j=>k'≠k∧Dr k' j)=Dr k':=by
     funext j;exact propext ⟨fun h=>h.2,fun h=>⟨hne,h⟩⟩
    show QX M (fun j=>k'≠k∧Dr k' j) w _ _
    rw[e];exact h2 k' (fun s e=>by cases e)
   ·
    rcases h with h | ⟨k',h,h'⟩
    ·
     exact⟨h4 j (.inl h),fun hd=>h5 k j hd h⟩
    ·
     exact⟨h4 j (.inr ⟨k',h'⟩),fun hd=>h (h6 k' k j h' hd)⟩
   ·
    have e:m.getD k GMap.nil=x:=by unfold GMap.getD;rw[hmk];rfl
    rw[e];exact hf
   ·
    constructor
    ·
     intro h
     by_cases hd:Dr k j
     ·
      exact .inr hd
     ·
      exact .inl ⟨h,hd⟩
    ·
     rintro(h | h)
     ·
      exact h.1
     ·
      exact h4 j (.inr ⟨k,h⟩)
theorem zsm [DecidableEq K]{k:K}{x:GMap K2 V}(h:(zQ (fun z=>yo (some (k,z)) m) (zW x)).p M D v w):(yo none (m.set k x)).p M D v w:=by
 obtain⟨z,D1,D2,⟨r,Dm,Dr,h1,hp,h2,h3,h4,h5,h6⟩,hx,hD,hap⟩:=h
 obtain⟨hrk,hmk⟩:=hp k z rfl
 have inD:∀j,D2 j→M j:=fun j hj=>zd.inM _ M D2 _ w hx j hj
 refine⟨r,Dm,fun k' j=>if k'=k then D2 j else Dr k' j,h1,(fun k' s e=>by cases e),fun k' _=>?_,fun j h=>?_,fun j h=>?_,fun k' j h=>?_,fun k1 k2 j a1 a2=>?_⟩
 ·
  show QX M (fun j=>if k'=k then D2 j else Dr k' j) w (if k'=k then some x else m.f k') (r.f k')
  by_cases e:k'=k
  ·
   subst e
   simp only[if_true]
   rw[hrk];exact hx
  ·
   simp only[if_neg e]
   exact h2 k' (fun s he=>by simp only[Option.some.injEq,Prod.mk.injEq]at he;exact e he.1.symm)
 ·
  rcases(hD j).1 h with h | h
  ·
   exact h3 j h
  ·
   exact inD j h
 ·
  rcases h with h | ⟨k',h⟩
  ·
   exact(hD j).2 (.inl (h4 j (.inl h)))
  ·
   by_cases e:k'=k
   ·
    rw[if_pos e]at h;exact(hD j).2 (.inr h)
   ·
    rw[if_neg e]at h;exact(hD j).2 (.inl (h4 j (.inr ⟨k',h⟩)))
 ·
  simp only at h
  by_cases e:k'=k
  ·
   rw[if_pos e]at h
   exact fun hd=>hap j (h4 j (.inl hd)) h
  ·
   rw[if_neg e]at h;exact h5 k' j h
 ·
  simp only at a1 a2
  by_cases c1:k1=k<;>by_cases c2:k2=k
  ·
   rw[c1,c2]
  ·
   rw[if_pos c1]at a1;rw[if_neg c2]at a2
   exact absurd a1 (hap j (h4 j (.inr ⟨k2,a2⟩)))
  ·
   rw[if_neg c1]at a1;rw[if_pos c2]at a2
   exact absurd a2 (hap j (h4 j (.inr ⟨k1,a1⟩)))
  ·
   rw[if_neg c1]at a1;rw[if_neg c2]at a2
   exact h6 k1 k2 j a1 a2
theorem zgQ (h:(yo none m).p M D v w)(hms:∀k,M k→k<w.heap.size):(rep m).p (fun k=>M k∧¬D k) v w:=by
 obtain⟨r,Dm,Dr,⟨b,es,clock,l,hv,hD,hM,hh,hi⟩,_,h2,h3,h4,h5,h6⟩:=h
 have hfit:∀k s,r.f k=some s→∃x,m.f k=some x∧(zW x).p M (Dr k) s.v w:=fun k s hk=>by
  have:=h2 k (fun s e=>by cases e)
  rw[hk]at this
  cases hm:m.f k with
  | none=>rw[hm]at this;exact this.elim
  | some x=>rw[hm]at this;exact⟨x,rfl,this⟩
 have hnone:∀k,r.f k=none→m.f k=none:=fun k hk=>by
  have:=h2 k (fun s e=>by cases e)
  rw[hk]at this
  cases hm:m.f k with
  | none=>rfl
  | some x=>rw[hm]at this;exact this.elim
 refine za7.2 (.inr ⟨b,es,clock,l.map (fun x=>(x.1,(m.f x.1).getD GMap.nil)),hv,fun hb=>hb.2 (h4 b (.inl ((hD b).2 rfl))),hms b hM,hh,⟨?_,?_,hi.born,hi.low⟩⟩)
 ·
  refine⟨by rw[List.length_map];exact hi.ents.1,fun j e x hj hx=>?_⟩
  rw[List.getElem?_map]at hx
  obtain⟨y,hy,rfl⟩:=Option.map_eq_some_iff.1 hx
  obtain⟨g1,g2⟩:=hi.ents.2 j e y hj hy
  have hr:=(hi.lists.mem y.1 y.2).1 (List.mem_of_getElem? hy)
  obtain⟨x,hm,hR⟩:=hfit _ _ hr
  have hval:e.val=y.2.v:=(ya.1 g2).1
  refine⟨zeW g1 (fun k hk=>hk.1),?_⟩
  show(rep ((m.f y.1).getD GMap.nil)).p _ e.val w
  rw[hm,Option.getD_some,hval]
  exact zeW (zla hR hms) (fun k hk=>⟨hk.1,fun hd=>hk.2 (h4 k (.inr ⟨_,hd⟩))⟩)
 ·
  refine⟨?_,fun k x=>?_⟩
  ·
   rw[List.map_map]
   exact hi.lists.nodup
  ·
   constructor
   ·
    intro hin
    obtain⟨y,hy,he⟩:=List.mem_map.1 hin
    have hr:=(hi.lists.mem y.1 y.2).1 hy
    obtain⟨v',hm,_⟩:=hfit _ _ hr
    simp only[Prod.mk.injEq]at he
    obtain⟨rfl,rfl⟩:=he
    rw[hm];rfl
   ·
    intro hm
    cases hr:r.f k with
    | none=>rw[hnone k hr]at hm;cases hm
    | some s=>exact List.mem_map.2 ⟨(k,s),(hi.lists.mem k s).2 hr,by simp[hm]⟩
theorem zq9:QY (yo none m) m:=fun M D s w h hms=>zgQ h hms
end
theorem zS.frzD {P:Program}{f:Nat}{Ss:List zF}{K K2 V:Type}[Rep K][Rep K2][Rep V]{m:GMap K (GMap K2 V)}(h:zS P f Ss [] zV [some (yo none m)]):zr P f Ss (rep m):=h.frzG (fun M D v w h hms=>zq9 M D v w h hms)
section
variable {P:Program} {ops:Array Oper} {fs:Nat} {L:zq} {B:zo} {G:Prop}
variable {ty:TypeId} {pos:String} {after:Array Edge} {g:Option (Nat×Bool)} {xr:List Nat} {d:Option Tmp}
variable {K K2 V:Type} [Rep K] [DecidableEq K] [MKey K] [Rep K2] [Rep V] {T kt et:TypeId} {m:GMap K (GMap K2 V)} {k:K} {hole:Option (K×Value)}
omit [DecidableEq K] [MKey K]in
theorem ze.makeMapD {d:Nat}(hd:Nat.blt d fs=true):
  ze P ops fs ⟨some d,.makeMap T none,ty,pos,after,none⟩ L B ([],[d]) ⟨True,zV⟩ [(d,some (yo none (GMap.nil:GMap K (GMap K2 V))))]:=by
 refine .doing fun M D a w hsz hm hs _=>?_
 refine zP.value (v:=.map (some w.heap.size)) (w':=w.alloc (.map #[] 0)) rfl (.one (fun k=>M k∨k=w.heap.size) (fun k=>k=w.heap.size) (Ext.alloc _ _) (fun k h=>.inl h) (fun k h=>h.imp id (by omega)) (fun k h=>?_) ⟨fun _=>trivial,fun hf=>(hf trivial).elim⟩ ?_ (fun k h=>by omega))
 ·
  rw[jw]
  rcases h with h | h
  ·
   have:=hm k h;omega
  ·
   omega
 ·
  rw[qJ (by rw[hsz];exact Nat.le_of_ble_eq_true hd)]
  refine⟨GMap.nil,fun k=>k=w.heap.size,fun _ _=>False,⟨w.heap.size,#[],0,[],rfl,fun k=>Iff.rfl,.inr rfl,?_,⟨qv.nil,zI.nil,by simp,by simp⟩⟩,(fun k s e=>by cases e),fun k _=>trivial,fun j h=>.inr h,fun j h=>h.elim id (fun⟨_,h⟩=>h.elim),fun _ _ h=>h.elim,fun _ _ _ h=>h.elim⟩
  show(w.heap.push _)[w.heap.size]?=_
  rw[Array.getElem?_push_size]
theorem ze.lookPin {q:Nat}{x y:Operand}{s z:Value}(hg:zU ops g L G)(hT:qD P T kt et (MKey.desc K))(hz:yZ P et (⟨.map none⟩:Raw))(hx:Opd L G x (isV s))(hq:zk B q=some (zd.at s (yo (some (k,z)) m)))(hy:Opd L G y (rep k)):
  ze P ops fs ⟨d,.lookup T x y false,ty,pos,after,g⟩ L B ([q],[]) ⟨G,isV z⟩ []:=
 .of hg fun M D a w hm hs hsB hG=>by
  have he:a.eval x=s:=(ya.1 (hx.get hs (fun t ht=>zB (by simp[Op.operands,ht])) hG)).1
  obtain⟨r,Dm,Dr,⟨b,es,clock,l,hv,hD,hM,hh,hi⟩,hp,_⟩:=hsB.has q (by simp) _ hq
  have hk:=hy.get hs (fun t ht=>zB (by simp[Op.operands,ht])) hG
  obtain⟨u,hu,hr⟩:=zbe (z:=(⟨.map none⟩:Raw)) hT hz hk hh hi false
  have hrk:=(hp k z rfl).1
  have e:r.getD k ⟨.map none⟩=⟨z⟩:=by unfold GMap.getD;rw[hrk];rfl
  rw[e]at hu
  refine zP.value (v:=u) (w':=w) ?_ ⟨zx.refl _ _,hu⟩
  simp only[execOp,he,hv];rw[Sem.run_bind,hr];rfl
def zls (b:Bool):zF where
 p:=fun M v w=>(b=true∧v = .map none)∨(b=false∧∃j,v = .map (some j))
 law:=fun M M' v w w' _ _ h=>h
theorem ze.lookNilM {q:Nat}{x y:Operand}{s:Value}(hg:zU ops g L G)(hT:qD P T kt et (MKey.desc K))(hz:yZ P et (⟨.map none⟩:Raw))(hx:Opd L G x (isV s))(hq:zk B q=some (zd.at s (yo none m)))(hy:Opd L G y (rep k)):
  ze P ops fs ⟨d,.lookup T x y false,ty,pos,after,g⟩ L B ([q],[]) ⟨G,zls (!m.has k)⟩ []:=
 .of hg fun M D a w hm hs hsB hG=>by
  have he:a.eval x=s:=(ya.1 (hx.get hs (fun t ht=>zB (by simp[Op.operands,ht])) hG)).1
  obtain⟨r,Dm,Dr,⟨b,es,clock,l,hv,hD,hM,hh,hi⟩,hp,h2,_⟩:=hsB.has q (by simp) _ hq
  have hk:=hy.get hs (fun t ht=>zB (by simp[Op.operands,ht])) hG
  obtain⟨u,hu,hr⟩:=zbe (z:=(⟨.map none⟩:Raw)) hT hz hk hh hi false
  have hf:=h2 k (fun s e=>by cases e)
  have hu':u=(r.getD k ⟨.map none⟩).v:=(ya.1 hu).1
  refine zP.value (v:=u) (w':=w) ?_ ⟨zx.refl _ _,?_⟩
  ·
   simp only[execOp,he,hv];rw[Sem.run_bind,hr];rfl
  ·
   show(_∧_)∨(_∧_)
   unfold GMap.has
   cases hmk:m.f k with
   | none=>
    rw[hmk]at hf
    cases hrk:r.f k with
    | none=>left;exact⟨rfl,by rw[hu'];simp[GMap.getD,hrk]⟩
    | some z=>rw[hrk]at hf;exact hf.elim
   | some x=>
    rw[hmk]at hf
    cases hrk:r.f k with
    | none=>rw[hrk]at hf;exact hf.elim
    | some z=>
     rw[hrk]at hf
     right
     refine⟨rfl,?_⟩
     rw[hu']
     simp only[GMap.getD,hrk,Option.getD_some]
     exact JU hf
theorem ze.mapPutD {q t:Nat}{x y:Operand}{s:Value}{l:GMap K2 V}(hT:qD P T kt et (MKey.desc K))(hqt:(q==t)=false)(hx:Opd L True x (isV s))(hq:zk B q=some (zd.at s (yo none m)))(ht:zk B t=some (zW l))(htn:Nat.blt t fs=true)(hy:Opd L True y (rep k)):
  ze P ops fs ⟨none,.mapUpdate T x y (.tmp t),ty,pos,after,none⟩ L B ([q,t],[q,t]) ⟨True,zV⟩ [(q,some (zd.at s (yo none (m.set k l)))),(t,none)]:=by
 have hqt:q≠t:=by simpa using hqt
 refine .doing fun M D a w hsz hm hs hsB=>?_
 have he:a.eval x=s:=(ya.1 (hx.get hs (fun t ht=>zB (by simp[Op.operands,ht])) trivial)).1
 obtain⟨r,Dm,Dr,⟨b,es,clock,es0,hv,hD,hM,hb,hi⟩,_,h2,h3,h4,h5,h6⟩:=hsB.has q (by simp) _ hq
 have hR:=hsB.has t (by simp) _ ht
 have hap:=hsB.apart q (by simp) t (by simp) _ _ hq ht hqt
 have hk:=hy.get hs (fun t ht=>zB (by simp[Op.operands,ht])) trivial
 obtain⟨b2,hv2⟩:=JU hR
 have hx2:(rep (⟨Act.val a t⟩:Raw)).p M (Act.val a t) w:=ya.2 ⟨rfl,by rw[hv2];rfl,by rw[hv2];rfl⟩
 obtain⟨es',clock',l',hr,hi'⟩:=zcN (x:=(⟨Act.val a t⟩:Raw)) hT hk hx2 hb hi
 have hkm:zx Dm w { w with heap:=w.heap.setIfInBounds b (.map es' clock') }:=JQ hD
 have hkq:zx (D q) w { w with heap:=w.heap.setIfInBounds b (.map es' clock') }:=hkm.mono (fun j _ h=>h4 j (.inl h))
 have hkM:zx M w { w with heap:=w.heap.setIfInBounds b (.map es' clock') }:=hkm.mono (fun j _ h=>(hD j).1 h▸hM)
 have same:∀j,j≠b→(w.heap.setIfInBounds b (.map es' clock'))[j]?=w.heap[j]?:=fun j hj=>by simp[Array.getElem?_setIfInBounds,Ne.symm hj]
 have inR:∀j,D t j→M j:=fun j hj=>zd.inM _ M (D t) _ w hR j hj
 have nb:∀j,D t j→j≠b:=fun j hj e=>hap j (h4 j (.inl ((hD j).2 e))) hj
 refine zP.skip (w':={ w with heap:=w.heap.setIfInBounds b (.map es' clock') }) ?_ rfl (.merge hq ht hkq (fun j h=>by simpa using hm j h) ⟨fun _=>trivial,fun hf=>(hf trivial).elim⟩ ?_)
 ·
  have:a.eval (.tmp t)=Act.val a t:=QD
  simp only[execOp,he,hv,this];rw[Sem.run_bind,hr];rfl
 ·
  rw[zae]
  have outR:∀k' j,Dr k' j→j≠b:=fun k' j h e=>h5 k' j h ((hD j).2 e)
  refine⟨r.set k ⟨Act.val a t⟩,Dm,fun k'=>if k'=k then D t else Dr k',⟨b,es',clock',l',hv,hD,hM,J6 hb,hi'.stay hkM (fun _ h=>h)⟩,(fun k' s e=>by cases e),fun k' _=>?_,fun j h=>h.elim (h3 j) (inR j),fun j h=>?_,fun k' j h=>?_,fun k1 k2 j a1 a2=>?_⟩
  ·
   show QX M (if k'=k then D t else Dr k') _ (if k'=k then some l else m.f k') (if k'=k then some ⟨Act.val a t⟩else r.f k')
   by_cases hkk:k'=k
   ·
    rw[if_pos hkk,if_pos hkk,if_pos hkk]
    exact(zW l).law M M (D t) _ w _ hkM (fun _ h=>.inl h) (fun j hj=>⟨inR j hj,same j (nb j hj)⟩) hR
   ·
    rw[if_neg hkk,if_neg hkk,if_neg hkk]
    exact(h2 k' (fun s e=>by cases e)).law hkM (fun _ h=>.inl h) (fun j hj=>⟨h3 j (h4 j (.inr ⟨k',hj⟩)),same j (outR k' j hj)⟩)
  ·
   rcases h with h | ⟨k',h⟩
   ·
    exact .inl (h4 j (.inl h))
   ·
    by_cases hkk:k'=k
    ·
     rw[if_pos hkk]at h;exact .inr h
    ·
     rw[if_neg hkk]at h;exact .inl (h4 j (.inr ⟨k',h⟩))
  ·
   intro hd
   simp only at h
   by_cases hkk:k'=k
   ·
    rw[if_pos hkk]at h;exact hap j (h4 j (.inl hd)) h
   ·
    rw[if_neg hkk]at h;exact h5 k' j h hd
  ·
   simp only at a1 a2
   by_cases c1:k1=k<;>by_cases c2:k2=k
   ·
    rw[c1,c2]
   ·
    rw[if_pos c1]at a1;rw[if_neg c2]at a2
    exact absurd a1 (hap j (h4 j (.inr ⟨k2,a2⟩)))
   ·
    rw[if_neg c1]at a1;rw[if_pos c2]at a2
    exact absurd a2 (hap j (h4 j (.inr ⟨k1,a1⟩)))
   ·
    rw[if_neg c1]at a1;rw[if_neg c2]at a2
    exact h6 k1 k2 j a1 a2
theorem ze.mapDelD {x y:Operand}{q:Nat}{s:Value}(hT:qD P T kt et (MKey.desc K))(hx:Opd L True x (isV s))(hq:zk B q=some (zd.at s (yo none m)))(hy:Opd L True y (rep k)):
  ze P ops fs ⟨none,.call { callee:=.builtin .delete,args:=#[x,y],argTypes:=#[T,kt] },ty,pos,after,none⟩ L B ([q],[q]) ⟨True,zV⟩ [(q,some (zd.at s (yo none (m.del k))))]:=by
 refine .doing fun M D a w hsz hm hs hsB=>?_
 have he:a.eval x=s:=(ya.1 (hx.get hs (fun t ht=>zB (qM (by simp[ht]))) trivial)).1
 obtain⟨r,Dm,Dr,⟨b,es,clock,l,hv,hD,hM,hh,hi⟩,_,g2,g3,g4,g5,g6⟩:=hsB.has q (by simp) _ hq
 have h2:=hy.get hs (fun t ht=>zB (qM (by simp[ht]))) trivial
 obtain⟨es',l',hr,hi'⟩:=ztW hT h2 hh hi ty (ts:=#[T,kt]) rfl
 have hk:zx Dm w { w with heap:=w.heap.setIfInBounds b (.map es' clock) }:=JQ hD
 have hkq:zx (D q) w { w with heap:=w.heap.setIfInBounds b (.map es' clock) }:=hk.mono (fun j _ h=>g4 j (.inl h))
 have hkM:zx M w { w with heap:=w.heap.setIfInBounds b (.map es' clock) }:=hk.mono (fun j _ h=>(hD j).1 h▸hM)
 have same:∀j,j≠b→(w.heap.setIfInBounds b (.map es' clock))[j]?=w.heap[j]?:=fun j hj=>by simp[Array.getElem?_setIfInBounds,Ne.symm hj]
 refine zP.value (v:=.tuple #[]) ?_ (.turn hq hkq (fun j h=>by simpa using hm j h) ⟨fun _=>trivial,fun hf=>(hf trivial).elim⟩
  ⟨r.del k,Dm,Dr,⟨b,es',clock,l',hv,hD,hM,J6 hh,hi'.stay hk (fun j h=>(hD j).1 h▸hM)⟩,(fun k' s e=>by cases e),fun k' _=>?_,g3,g4,g5,g6⟩)
 ·
  have e:(#[x,y]:Array Operand).map a.eval=#[.map (some b),a.eval y]:=by simp[he,hv]
  generalize a.eval y=yv at e hr
  simp only[execOp,resolve,invoke,builtin,e]
  simp[go_sem]
  rw[hr];rfl
 ·
  show QX M (Dr k') _ (if k'=k then none else m.f k') (if k'=k then none else r.f k')
  by_cases e:k'=k
  ·
   rw[if_pos e,if_pos e];trivial
  ·
   rw[if_neg e,if_neg e]
   exact(g2 k' (fun s e=>by cases e)).law hkM (fun _ h=>.inl h) (fun j hj=>⟨g3 j (g4 j (.inr ⟨k',hj⟩)),same j (fun e2=>g5 k' j hj ((hD j).2 e2))⟩)
omit [DecidableEq K] [MKey K] [Rep K] [Rep K2] [Rep V]in
theorem zt0 {a:Option Nat}{w:World}{p q:Operand}(hT:P.underlying T=some (.map kt et)):(do eqGuard .eql T p q (.map a) (.map none);binOp .eql T (.map a) (.map none):Sem Value).run P w = .ok (.bool a.isNone) w:=by
 have hun:(underlying T).run P w = .ok (.map kt et) w:=by simp[underlying,hT,go_sem]
 have h1:(Op.equal T (.map a) (.map none)).run P w = .ok a.isNone w:=by
  unfold Op.equal Op.maxDepth Op.equalIn
  rw[Sem.run_bind,hun]
  simp only[Result.andThen]
  cases a<;>rfl
 rw[Sem.run_bind,show(eqGuard .eql T p q (.map a) (.map none)).run P w = .ok () w from rfl]
 simp only[Result.andThen,binOp]
 rw[Sem.run_bind,h1];rfl
omit [DecidableEq K] [MKey K] [Rep K] [Rep K2] [Rep V]in
theorem ze.eqNilM {T':TypeId}{b:Bool}{x:Operand}(hg:zU ops g L G)(hT:P.underlying T=some (.map kt et))(hx:Opd L G x (zls b)):
  ze P ops fs ⟨d,.binOp .eql T x (.const (.map none)) T',ty,pos,after,g⟩ L B (xr,[]) ⟨G,rep b⟩ []:=
 .pure hg fun M a w _ hs hG=>by
  have h:=hx.get hs (fun t ht=>zB (by simp[Op.operands,ht])) hG
  obtain⟨o,hv,hb⟩:∃o:Option Nat,a.eval x = .map o∧o.isNone=b:=by
   rcases h with⟨h1,h2⟩ | ⟨h1,j,h2⟩
   ·
    exact⟨none,h2,h1.symm⟩
   ·
    exact⟨some j,h2,h1.symm⟩
  refine⟨.bool o.isNone,?_,yS.2 (by rw[hb])⟩
  simp only[execOp,hv]
  rw[Sem.run_bind]
  show((do eqGuard .eql T x (.const (.map none)) (.map o) (.map none);binOp .eql T (.map o) (.map none):Sem Value).run P w).andThen _=_
  rw[zt0 hT];rfl
end
section
variable {Q:Exit→Act→World→Prop} {P:Program} {n:Nat} {F:Fr} {L:zq} {B:zo}
variable {K K2 V:Type} [Rep K] [Rep K2] [Rep V] {m:GMap K (GMap K2 V)} {s:Value}
theorem Cod.openM {c:Code}{q r:Nat}{k:K}(hl:zk B q=some (zd.at s (yo none m)))(hg:zk B r=none)(hk:m.has k=true)
  (h:∀z,Cod P c Q n F L ((r,some (zd.at z (zW (m.getD k GMap.nil))))::(q,some (zd.at s (yo (some (k,z)) m)))::(q,some (zd.at s (zQ (fun z=>yo (some (k,z)) m) (zW (m.getD k GMap.nil)))))::B)):Cod P c Q n F L B:=by
 have hgk:¬q=r:=fun e=>by subst e;rw[hg]at hl;cases hl
 exact .tellK (C':=zd.at s (zQ (fun z=>yo (some (k,z)) m) (zW (m.getD k GMap.nil)))) hl (fun M D v w h=>by have h':(yo none m).p M D s w:=h;exact zso hk h') (.open (k:=q) (g:=r) zaS (by simp only[zk];rw[yp hgk];exact hg) h)
theorem zb.closeM [DecidableEq K]{e:Exit}{q r:Nat}{k:K}{z:Value}{x:GMap K2 V}(hl:zk B q=some (zd.at s (yo (some (k,z)) m)))(hg:zk B r=some (zd.at z (zW x)))(hgk:(r==q)=false)
  (h:zb Q e n F L ((q,some (zd.at s (yo none (m.set k x))))::(r,none)::(q,some (zd.at s (zQ (fun z=>yo (some (k,z)) m) (zW x))))::B)):zb Q e n F L B:=by
 have hgk':¬r=q:=by simpa using hgk
 exact .close (k:=q) (g:=r) (fun z=>yo (some (k,z)) m) hl hg hgk (.tellK (k:=q) (C:=zd.at s (zQ (fun z=>yo (some (k,z)) m) (zW x))) (zsg hgk') (fun M D v w h=>by have h':(zQ (fun z=>yo (some (k,z)) m) (zW x)).p M D s w:=h;exact zsm h') h)
end
end Go.DB
namespace Go.DB
open Go Go.RowKit
def zfv (P:Program)(T E:TypeId)(α:Type)[Rep α]:Prop:=qL P T E α∧((P.info? E).all fun i=>i.bytes≤64)=true
def zmw (n:Nat):Prop:=n≤2199023255552
section
variable {P:Program} {ops:Array Oper} {fs:Nat} {L:zq} {B:zo} {ty:TypeId} {pos:String} {after:Array Edge}
theorem ze.appendW {d k:Nat}{s x:Operand}{t E:TypeId}{α:Type}[Rep α]{l xs:List α}(hT:zfv P t E α)(hd:Nat.blt d fs=true)(hs:vb L B s k (zp E l))(hx:Opd L True x (rep xs))(hb:l.length+xs.length≤2199023255552):
  ze P ops fs ⟨some d,.call { callee:=.builtin .append,args:=#[s,x],argTypes:=#[t,t] },ty,pos,after,none⟩ L B ([k],[d,k]) ⟨True,zV⟩ [(d,some (zp E (l++xs))),(k,none)]:=by
 refine .doing fun M D a w hsz hm hsat hsB=>?_
 obtain⟨hC,C0,hl⟩:=hs.get hsat (fun t ht=>zB (qM (by simp[ht]))) hsB (by simp)
 have hX:=hx.get hsat (fun t ht=>zB (qM (by simp[ht]))) trivial
 obtain⟨v,w',M',D',hr,h1,h2,h3,h4,h5,h6⟩:=zmy (P:=P) (ty:=ty) hT.1 hm hC hX (by omega) (fun i hi=>by
  have h:=hT.2
  rw[hi]at h
  have h:i.bytes≤64:=by simpa using h
  have:=Nat.mul_le_mul hb h
  omega)
 refine zP.value (zjJ hr) (.pass M' D' hl h2 h3 h4 h5 ⟨fun _=>trivial,fun hf=>(hf trivial).elim⟩ ?_ h6)
 rw[qJ (by rw[hsz];exact Nat.le_of_ble_eq_true hd)]
 exact h1
end
end Go.DB
namespace Go.DB
open Go Go.RowKit
section
variable {P:Program} {ops:Array Oper} {fs:Nat} {L:zq} {B:zo} {G:Prop}
variable {d:Option Tmp} {ty:TypeId} {pos:String} {after:Array Edge} {g:Option (Nat×Bool)} {xr:List Nat}
end
section
variable {P:Program} {Q:Exit→Act→World→Prop} {n:Nat} {F:Fr} {L:zq} {B:zo}
end
end Go.DB
namespace Go.DB
open Go Go.RowKit
def jy (l:List (KI .u8)):Str:=⟨l.map fun x=>UInt8.ofNat x.n.toNat⟩
theorem zf5 {k:IntKind}{M:zh}{w:World}:∀(l:List (KI k)) (cs:List Value),zM M w l cs↔cs=l.map fun x=>Value.int k x.n
 | [],cs=>by simp[zM]
 | x::l,cs=>by
  simp only[zM,List.map_cons]
  constructor
  ·
   rintro⟨c,r,rfl,h1,h2⟩
   rw[(zf5 l r).1 h2,show c=[.int k x.n]from h1];rfl
  ·
   intro h
   exact⟨[.int k x.n],l.map fun x=>Value.int k x.n,by rw[h];rfl,rfl,(zf5 l _).2 rfl⟩
theorem zkc:∀(l:List (KI .u8)) (r:ByteArray),(l.map (fun x=>x.n)).foldl (fun r n=>r.push (UInt8.ofNat n.toNat)) r=⟨r.data++(jy l).b.toArray⟩
 | [],r=>by simp[jy]
 | x::l,r=>by
  simp only[List.map_cons,List.foldl_cons]
  rw[zkc l]
  simp[ByteArray.push,jy]
theorem zt5 {P:Program}(w:World)(src dst e:TypeId)(a:Option Addr)(cap:Nat)(l:List (KI .u8))(hs:P.underlying src=some (.slice e))(he:P.underlying e=some (.int .u8))(hd:P.underlying dst=some .string)
  (hn:a=none→l=[]) (hc:∀ad,a=some ad→∀j u,(l.map fun x=>Value.int .u8 x.n)[j]?=some u→w.cell? (ad.add j)=some u):
  (convert src dst (.slice a l.length cap)).run P w = .ok (yE (jy l)) w:=by
 cases a with
 | none=>
  obtain rfl:=hn rfl
  show(convert src dst (.slice none 0 cap)).run P w=_
  rw[run_convert_bytes_string w src dst e none 0 cap hs he hd]
  rfl
 | some ad=>
  rw[run_convert_bytes_string w src dst e (some ad) l.length cap hs he hd]
  have hl:=run_loadCells_list (P:=P) w ad ((l.map (fun x=>x.n)).map (Value.int .u8)) (fun j v hj=>hc ad rfl j v (by rw[List.map_map]at hj;exact hj))
  simp only[List.length_map]at hl
  rw[run_bytesToString w ad l.length cap _ hl,zkc]
  have he0:ByteArray.empty.data=#[]:=rfl
  rw[he0]
  simp[yE]
section
variable {P:Program} {ops:Array Oper} {fs:Nat} {L:zq} {B:zo} {G:Prop}
variable {d:Option Tmp} {ty:TypeId} {pos:String} {after:Array Edge} {g:Option (Nat×Bool)} {xr:List Nat}
theorem ze.bytesStrO {src dst e T k:Nat}{l:List (KI .u8)}{x:Operand}(hs:P.underlying src=some (.slice e))(he:P.underlying e=some (.int .u8))(hd:P.underlying dst=some .string)(hx:vb L B x k (zp T l)):
  ze P ops fs ⟨d,.convert src dst x,ty,pos,after,none⟩ L B ([k],[]) ⟨True,rep (jy l)⟩ []:=
 .of .none fun M D a w hm hsat hsB hG=>by
  obtain⟨⟨ad,cap,h1,h2,h3,h4⟩,_⟩:=hx.get hsat (fun t ht=>zB (by simp[Op.operands,ht])) hsB (by simp)
  refine zP.value (zqv h1 (zt5 w src dst e ad cap l hs he hd (fun e=>by subst e;exact h4.1) (fun ad' e j u hu=>by
   subst e
   obtain⟨hsp,hD,hM,pre,cs,rest,hh,hp,he,hr⟩:=h4
   obtain⟨b,off,sp⟩:=ad'
   simp only at hsp hh hp
   subst hsp
   have hcs:=(zf5 l cs).1 he
   rw[←hcs]at hu
   rw[qF,hh.cell,List.getElem?_toArray,List.append_assoc,List.getElem?_append_right (by omega),List.getElem?_append_left (by have:=(List.getElem?_eq_some_iff.1 hu).1;omega),hp]
   rw[←hu];congr 1;omega))) ⟨zx.refl _ _,yC.2 ⟨rfl,?_⟩⟩
  simp[jy];omega
end
end Go.DB
namespace Go.DB
open Go Go.RowKit
structure Yz where
 is:Bool
deriving Inhabited,DecidableEq
instance:Rep Yz where
 sz:=1
 agg:=false
 cells:=fun _ x cs _=>(x.is=false∧cs=[.nilIface])∨(x.is=true∧∃tp pe,cs=[.iface tp pe])
 len:=fun h=>by rcases h with⟨_,rfl⟩ | ⟨_,_,_,rfl⟩<;>rfl
 pos:=by decide
 flat:=fun h=>by rcases h with⟨_,rfl⟩ | ⟨_,_,_,rfl⟩<;>rfl
 plain:=fun h c hc=>by
  rcases h with⟨_,rfl⟩ | ⟨_,_,_,rfl⟩
  ·
   simp at hc;rw[hc];rfl
  ·
   simp at hc;rw[hc];rfl
 law:=fun _ _ h=>h
theorem zeV {x:Yz}{M:zh}{v:Value}{w:World}:(rep x).p M v w↔(x.is=false∧v = .nilIface)∨(x.is=true∧∃tp pe,v = .iface tp pe):=by
 constructor
 ·
  rintro⟨cs,⟨h,rfl⟩ | ⟨h,tp,pe,rfl⟩,rfl⟩
  ·
   exact .inl ⟨h,rfl⟩
  ·
   exact .inr ⟨h,tp,pe,rfl⟩
 ·
  rintro(⟨h,rfl⟩ | ⟨h,tp,pe,rfl⟩)
  ·
   exact⟨_,.inl ⟨h,rfl⟩,rfl⟩
  ·
   exact⟨_,.inr ⟨h,tp,pe,rfl⟩,rfl⟩
section
variable {P:Program} {ops:Array Oper} {fs:Nat} {L:zq} {B:zo} {ty:TypeId} {pos:String} {after:Array Edge} {g:Option (Nat×Bool)} {d:Option Tmp} {G:Prop} {xr:List Nat} {T T':TypeId} {ms:Array (String×TypeId)}
theorem ztY {x:Yz}{v:Value}{M:zh}{w:World}{p:Operand}{b:Bool}(hT:P.underlying T=some (.interface ms))(hv:(rep x).p M v w):
  (do eqGuard (if b then .eql else .neq) T p (.const .nilIface) v .nilIface;binOp (if b then .eql else .neq) T v .nilIface:Sem Value).run P w = .ok (.bool (if b then !x.is else x.is)) w:=by
 have hun:(underlying T).run P w = .ok (.interface ms) w:=by simp[underlying,hT,go_sem]
 rcases zeV.1 hv with⟨h,rfl⟩ | ⟨h,tp,pe,rfl⟩
 ·
  have h1:(Op.equal T .nilIface .nilIface).run P w = .ok true w:=by
   unfold Op.equal Op.maxDepth Op.equalIn
   rw[Sem.run_bind,hun]
   rfl
  cases b
  ·
   simp only[Bool.false_eq_true,if_false]
   rw[Sem.run_bind,show(eqGuard .neq T p (.const .nilIface) .nilIface .nilIface).run P w = .ok () w from by cases p<;>rfl]
   simp only[Result.andThen,binOp]
   rw[h]
   show((do return Value.bool !(←Op.equal T .nilIface .nilIface)):Sem Value).run P w=_
   rw[Sem.run_bind,h1];rfl
  ·
   simp only[if_true]
   rw[Sem.run_bind,show(eqGuard .eql T p (.const .nilIface) .nilIface .nilIface).run P w = .ok () w from by cases p<;>rfl]
   simp only[Result.andThen,binOp]
   rw[h]
   show((do return Value.bool (←Op.equal T .nilIface .nilIface)):Sem Value).run P w=_
   rw[Sem.run_bind,h1];rfl
 ·
  have h1:(Op.equal T (.iface tp pe) .nilIface).run P w = .ok false w:=by
   unfold Op.equal Op.maxDepth Op.equalIn
   rw[Sem.run_bind,hun]
   rfl
  cases b
  ·
   simp only[Bool.false_eq_true,if_false]
   rw[Sem.run_bind,show(eqGuard .neq T p (.const .nilIface) (.iface tp pe) .nilIface).run P w = .ok () w from rfl]
   simp only[Result.andThen,binOp]
   rw[h]
   show((do return Value.bool !(←Op.equal T (.iface tp pe) .nilIface)):Sem Value).run P w=_
   rw[Sem.run_bind,h1];rfl
  ·
   simp only[if_true]
   rw[Sem.run_bind,show(eqGuard .eql T p (.const .nilIface) (.iface tp pe) .nilIface).run P w = .ok () w from rfl]
   simp only[Result.andThen,binOp]
   rw[h]
   show((do return Value.bool (←Op.equal T (.iface tp pe) .nilIface)):Sem Value).run P w=_
   rw[Sem.run_bind,h1];rfl
theorem zqw {ρ:Operand→Value}{x:Operand}{e:Yz}{v:Value}{M:zh}{w:World}(b:Bool)(hT:P.underlying T=some (.interface ms))(hv:(rep e).p M v w)(hx:ρ x=v)(hy:ρ (.const .nilIface) = .nilIface):
  (execOp ρ ⟨d,.binOp (if b then .eql else .neq) T x (.const .nilIface) T',ty,pos,after,g⟩).run P w = .ok (.value (.bool (if b then !e.is else e.is))) w:=by
 simp only[execOp,hx,hy]
 rw[Sem.run_bind,ztY hT hv];rfl
theorem ze.eqErr {x:Operand}{e:Yz}(hg:zU ops g L G)(hT:P.underlying T=some (.interface ms))(hx:Opd L G x (rep e)):
  ze P ops fs ⟨d,.binOp .eql T x (.const .nilIface) T',ty,pos,after,g⟩ L B (xr,[]) ⟨G,rep (!e.is)⟩ []:=
 .pure hg fun M a w _ hs hG=>⟨.bool (!e.is),zqw true hT (hx.get hs (fun t ht=>zB (by simp[Op.operands,ht])) hG) rfl rfl,yS.2 rfl⟩
end
end Go.DB
namespace Go.DB
open Go Go.RowKit
section
variable {P:Program} {ops:Array Oper} {fs:Nat} {L:zq} {B:zo} {G:Prop}
variable {ty:TypeId} {pos:String} {after:Array Edge} {T kt et:TypeId}
theorem ze.rangeMapZ {K V:Type}[Rep K][Rep V]{m:GMap K V}{d k:Nat}{x:Operand}(hT:P.underlying T=some (.map kt et))(hd:Nat.blt d fs=true)(hx:vb L B x k (zW m)):
  ze P ops fs ⟨some d,.range T x,ty,pos,after,none⟩ L B ([k],[d,k]) ⟨True,zV⟩ [(d,some (vl m [])),(k,none)]:=by
 refine .doing fun M D a w hsz hm hs hsB=>?_
 obtain⟨hC,C0,hl⟩:=hx.get hs (fun t ht=>zB (by simp[Op.operands,ht])) hsB (by simp)
 obtain⟨b,es,clock,l,hv,hD,hM,hh,hi⟩:=hC
 have hb:b<w.heap.size:=hm b hM
 have hr:(Instr.range T (a.eval x)).run P w = .ok (.pointer (some ⟨w.heap.size,0,none⟩)) (w.alloc (.mapIter (some b) clock #[] clock)):=by
  rw[hv];exact run_range_map w T kt et b es clock hT hh
 have hx':Ext w (w.alloc (.mapIter (some b) clock #[] clock)):=Ext.alloc _ _
 refine zP.value (v:=.pointer (some ⟨w.heap.size,0,none⟩)) (w':=w.alloc (.mapIter (some b) clock #[] clock)) ?_ ?_
 ·
  simp only[execOp];rw[Sem.run_bind,hr];rfl
 ·
  refine⟨fun j=>(M j∧¬D k j)∨j=w.heap.size,fun _ j=>j=w.heap.size,hx'.keeps,fun j hj=>?_,fun j hj=>hj.imp (fun h=>h.1) (by omega),fun j hj=>?_,⟨fun _=>trivial,fun hf=>(hf trivial).elim⟩,fun t c hc=>?_,fun t1 t2 c1 c2 hc1 hc2 hne=>?_⟩
  ·
   by_cases h:D k j
   ·
    exact .inr ⟨k,by simp,C0,hl,h⟩
   ·
    exact .inl (.inl ⟨hj,h⟩)
  ·
   rw[jw]
   rcases hj with h | h
   ·
    have:=hm j h.1;omega
   ·
    omega
  ·
   obtain⟨rfl,hc'⟩:=Yi (C:=some (vl m [])) hc
   obtain rfl:=Option.some.inj hc'
   refine⟨?_,fun j hj=>.inr (by omega)⟩
   rw[qJ (by rw[hsz];exact Nat.le_of_ble_eq_true hd)]
   refine⟨w.heap.size,rfl,fun k=>Iff.rfl,.inr rfl,.inr ⟨b,es,clock,l,#[],?_,?_,?_,?_,?_,jN.nil⟩⟩
   ·
    rintro(h | h)
    ·
     exact h.2 ((hD b).2 rfl)
    ·
     omega
   ·
    rw[jw];omega
   ·
    rw[hx'.block b hb (fun f=>f)];exact hh
   ·
    exact hi.law hx'.keeps (fun j hj=>hj.imp (fun h=>h.1) (by omega))
   ·
    show(w.heap.push _)[w.heap.size]?=_
    rw[Array.getElem?_push_size]
  ·
   exact absurd ((Yi hc1).1.trans (Yi hc2).1.symm) hne
end
section
variable {P:Program} {ops:Array Oper} {fs:Nat} {L:zq} {B:zo} {G:Prop}
variable {ty:TypeId} {pos:String} {after:Array Edge} {g:Option (Nat×Bool)} {xr:List Nat} {d:Option Tmp}
variable {K K2 V:Type} [Rep K] [DecidableEq K] [MKey K] [Rep K2] [Rep V] {T kt et:TypeId} {m:GMap K (GMap K2 V)} {k:K} {hole:Option (K×Value)}
theorem ze.mapPutDN {q t:Nat}{x y u:Operand}{s z:Value}{l:GMap K2 V}(hT:qD P T kt et (MKey.desc K))(hqt:(q==t)=false)(hx:Opd L True x (isV s))(hq:zk B q=some (zd.at s (yo none m)))(hu:Opd L True u (isV z))(ht:zk B t=some (zd.at z (zW l)))(hy:Opd L True y (rep k)):
  ze P ops fs ⟨none,.mapUpdate T x y u,ty,pos,after,none⟩ L B ([q,t],[q,t]) ⟨True,zV⟩ [(q,some (zd.at s (yo none (m.set k l)))),(t,none)]:=by
 have hqt:q≠t:=by simpa using hqt
 refine .doing fun M D a w hsz hm hs hsB=>?_
 have he:a.eval x=s:=(ya.1 (hx.get hs (fun t ht=>zB (by simp[Op.operands,ht])) trivial)).1
 obtain⟨r,Dm,Dr,⟨b,es,clock,es0,hv,hD,hM,hb,hi⟩,_,h2,h3,h4,h5,h6⟩:=hsB.has q (by simp) _ hq
 have hz0:a.eval u=z:=(ya.1 (hu.get hs (fun t ht=>zB (by simp[Op.operands,ht])) trivial)).1
 have hR:(zW l).p M (D t) z w:=hsB.has t (by simp) _ ht
 have hap:=hsB.apart q (by simp) t (by simp) _ _ hq ht hqt
 have hk:=hy.get hs (fun t ht=>zB (by simp[Op.operands,ht])) trivial
 obtain⟨b2,hv2⟩:=JU hR
 have hx2:(rep (⟨z⟩:Raw)).p M (z) w:=ya.2 ⟨rfl,by rw[hv2];rfl,by rw[hv2];rfl⟩
 obtain⟨es',clock',l',hr,hi'⟩:=zcN (x:=(⟨z⟩:Raw)) hT hk hx2 hb hi
 have hkm:zx Dm w { w with heap:=w.heap.setIfInBounds b (.map es' clock') }:=JQ hD
 have hkq:zx (D q) w { w with heap:=w.heap.setIfInBounds b (.map es' clock') }:=hkm.mono (fun j _ h=>h4 j (.inl h))
 have hkM:zx M w { w with heap:=w.heap.setIfInBounds b (.map es' clock') }:=hkm.mono (fun j _ h=>(hD j).1 h▸hM)
 have same:∀j,j≠b→(w.heap.setIfInBounds b (.map es' clock'))[j]?=w.heap[j]?:=fun j hj=>by simp[Array.getElem?_setIfInBounds,Ne.symm hj]
 have inR:∀j,D t j→M j:=fun j hj=>zd.inM _ M (D t) _ w hR j hj
 have nb:∀j,D t j→j≠b:=fun j hj e=>hap j (h4 j (.inl ((hD j).2 e))) hj
 refine zP.skip (w':={ w with heap:=w.heap.setIfInBounds b (.map es' clock') }) ?_ rfl (.merge hq ht hkq (fun j h=>by simpa using hm j h) ⟨fun _=>trivial,fun hf=>(hf trivial).elim⟩ ?_)
 ·
  have:a.eval u=z:=hz0
  simp only[execOp,he,hv,this];rw[Sem.run_bind,hr];rfl
 ·
  rw[zae]
  have outR:∀k' j,Dr k' j→j≠b:=fun k' j h e=>h5 k' j h ((hD j).2 e)
  refine⟨r.set k ⟨z⟩,Dm,fun k'=>if k'=k then D t else Dr k',⟨b,es',clock',l',hv,hD,hM,J6 hb,hi'.stay hkM (fun _ h=>h)⟩,(fun k' s e=>by cases e),fun k' _=>?_,fun j h=>h.elim (h3 j) (inR j),fun j h=>?_,fun k' j h=>?_,fun k1 k2 j a1 a2=>?_⟩
  ·
   show QX M (if k'=k then D t else Dr k') _ (if k'=k then some l else m.f k') (if k'=k then some ⟨z⟩else r.f k')
   by_cases hkk:k'=k
   ·
    rw[if_pos hkk,if_pos hkk,if_pos hkk]
    exact(zW l).law M M (D t) _ w _ hkM (fun _ h=>.inl h) (fun j hj=>⟨inR j hj,same j (nb j hj)⟩) hR
   ·
    rw[if_neg hkk,if_neg hkk,if_neg hkk]
    exact(h2 k' (fun s e=>by cases e)).law hkM (fun _ h=>.inl h) (fun j hj=>⟨h3 j (h4 j (.inr ⟨k',hj⟩)),same j (outR k' j hj)⟩)
  ·
   rcases h with h | ⟨k',h⟩
   ·
    exact .inl (h4 j (.inl h))
   ·
    by_cases hkk:k'=k
    ·
     rw[if_pos hkk]at h;exact .inr h
    ·
     rw[if_neg hkk]at h;exact .inl (h4 j (.inr ⟨k',h⟩))
  ·
   intro hd
   simp only at h
   by_cases hkk:k'=k
   ·
    rw[if_pos hkk]at h;exact hap j (h4 j (.inl hd)) h
   ·
    rw[if_neg hkk]at h;exact h5 k' j h hd
  ·
   simp only at a1 a2
   by_cases c1:k1=k<;>by_cases c2:k2=k
   ·
    rw[c1,c2]
   ·
    rw[if_pos c1]at a1;rw[if_neg c2]at a2
    exact absurd a1 (hap j (h4 j (.inr ⟨k2,a2⟩)))
   ·
    rw[if_neg c1]at a1;rw[if_pos c2]at a2
    exact absurd a2 (hap j (h4 j (.inr ⟨k1,a1⟩)))
   ·
    rw[if_neg c1]at a1;rw[if_neg c2]at a2
    exact h6 k1 k2 j a1 a2
end
end Go.DB
namespace Go.DB
open Go Go.RowKit
theorem ztz {P:Program}{fn:Func}{r1 r2 r3 r4:ResultVar}{tmps:Array Value}{w:World}{v1 v2 v3 v4:Value}(h:fn.results=#[r1,r2,r3,r4])(h1:(ju tmps r1).run P w = .ok v1 w)
  (h2:(ju tmps r2).run P w = .ok v2 w) (h3:(ju tmps r3).run P w = .ok v3 w) (h4:(ju tmps r4).run P w = .ok v4 w):(results fn tmps).run P w = .ok (.tuple #[v1,v2,v3,v4]) w:=by
 have:results fn tmps=(do let vs←(#[r1,r2,r3,r4]:Array ResultVar).mapM (ju tmps);pure (if h:vs.size=1 then vs[0]else .tuple vs)):=by
  unfold results;rw[h];rfl
 rw[this]
 simp[go_sem,h1,h2,h3,h4]
theorem zb.ret4O {P:Program}{fn:Func}{n:Nat}{F:Fr}{L:zq}{B:zo}{e:Exit}(he:e = .ret∨e = .normal){r1 r2 r3 r4:ResultVar}{S1 S2 S3 S4:zF}{an:List Value}{outs:List (Option zd)}(ks:List Nat)(hr:fn.results=#[r1,r2,r3,r4])(hnd:ks.Nodup)(ho:jM B #[r1,r2,r3,r4] an ks outs)
  (h1:zt P L B r1 S1) (h2:zt P L B r2 S2) (h3:zt P L B r3 S3) (h4:zt P L B r4 S4):
  zb (bodyPost P fn (ji F (tup [S1,S2,S3,S4]) an outs)) e n F L B:=by
 rintro a w ⟨M,D,hs⟩
 obtain⟨v1,h1,h1',_⟩:=h1.get hs
 obtain⟨v2,h2,h2',_⟩:=h2.get hs
 obtain⟨v3,h3,h3',_⟩:=h3.get hs
 obtain⟨v4,h4,h4',_⟩:=h4.get hs
 have:a.defers=[]∧∃v,(results fn a.tmps).run P w = .ok v w∧ji F (tup [S1,S2,S3,S4]) an outs (.returned v) w:=⟨hs.defers,_,ztz hr h1 h2 h3 h4,vE.mk hs ⟨[v1,v2,v3,v4],rfl,rfl,fun i S u hi hu=>by
  match i with
  | 0=>simp at hi hu;subst hi hu;exact h1'
  | 1=>simp at hi hu;subst hi hu;exact h2'
  | 2=>simp at hi hu;subst hi hu;exact h3'
  | 3=>simp at hi hu;subst hi hu;exact h4'
  | i+4=>simp at hi⟩ ho hnd (fun k hk=>by simp at hk)⟩
 rcases he with rfl | rfl<;>exact this
theorem zb.ret4 {P:Program}{fn:Func}{n:Nat}{F:Fr}{L:zq}{B:zo}{e:Exit}(he:e = .ret∨e = .normal){r1 r2 r3 r4:ResultVar}{S1 S2 S3 S4:zF}(hr:fn.results=#[r1,r2,r3,r4])(h1:zt P L B r1 S1)(h2:zt P L B r2 S2)(h3:zt P L B r3 S3)(h4:zt P L B r4 S4):
  zb (bodyPost P fn (vE F (tup [S1,S2,S3,S4]))) e n F L B:=zb.ret4O he [] hr .nil .nil h1 h2 h3 h4
section
variable {P:Program} {ops:Array Oper} {fs:Nat} {L:zq} {B:zo} {G:Prop}
variable {d:Option Tmp} {ty:TypeId} {pos:String} {after:Array Edge} {g:Option (Nat×Bool)} {T kt et:TypeId} {K V:Type} [Rep K] [Rep V] {m:GMap K V}
end
end Go.DB
namespace Go.DB
open Go Go.RowKit
section
variable {P:Program} {ops:Array Oper} {fs:Nat} {L:zq} {B:zo} {G:Prop}
variable {ty:TypeId} {pos:String} {after:Array Edge}
end
section
variable {P:Program} {ops:Array Oper} {fs:Nat} {L:zq} {B:zo} {G:Prop}
variable {ty:TypeId} {pos:String} {after:Array Edge} {d:Option Tmp} {g:Option (Nat×Bool)} {xr:List Nat} {T T' E:TypeId}
end
instance {α:Type} [Fits α]:Fits (Option α):=⟨fun o=>∀x,o=some x→zT x⟩
instance {α:Type} [Rep α] [Fits α] [FitsRep α]:FitsRep (Option α):=⟨fun {M x cs w} ⟨v,_,h⟩ y hy=>by
 rcases h with⟨_,h2⟩ | ⟨z,h1,b,off,c,_,_,_,hc,_⟩
 ·
  rw[h2]at hy;cases hy
 ·
  rw[h1]at hy
  injection hy with hy
  subst hy
  exact FitsRep.of hc⟩
end Go.DB
namespace Go.DB
open Go Go.RowKit
section
variable {P:Program} {ops:Array Oper} {Q:Exit→Act→World→Prop} {n:Nat} {F:Fr} {L:zq} {B:zo} {Es:List Ent} {Ws:List yL} {aux:List Aux}
structure zim (lk:(Nat→Bool)→Nat→Option zd) (ops:Array Oper) (Es:List Ent) (L:zq) (n:Nat) (F:Fr) (listed:Array Bool) (M:zh) (D:Nat→zh) (a:Act) (w:World):Prop where
 lsize:listed.size=ops.size
 closed:∀j,on listed j=true→∀i,((jD ops.toList).getD j 0).testBit i=true→on listed i=true
 size:a.tmps.size=n
 defers:a.defers=[]
 keeps:zx F.M0 F.w0 w
 mf0:∀k,F.Mf k→k<F.w0.heap.size
 mlow:∀k,F.Mf k→M k∨F.M0 k
 mhigh:∀k,M k→F.Mf k∨F.w0.heap.size≤k
 msub:Low M w
 has:∀t e,y8 ops Es L (on listed) ops.size t=some e→∃v,a.tmps[t]?=some v∧e.holds M v w
 hasB:∀t c,lk (on listed) t=some c→c.p M (D t) (Act.val a t) w
 own:∀t c,lk (on listed) t=some c→∀k,D t k→F.M0 k∨F.w0.heap.size≤k
 apart:zag (lk (on listed)) D
def QZ (lk:(Nat→Bool)→Nat→Option zd)(ops:Array Oper)(Es:List Ent)(L:zq)(n:Nat)(F:Fr)(listed:Array Bool)(a:Act)(w:World):Prop:=
 ∃M D,zim lk ops Es L n F listed M D a w
theorem QZ.step {lk:(Nat→Bool)→Nat→Option zd}{listed:Array Bool}{M:zh}{D:Nat→zh}{a:Act}{w:World}{i:Nat}{o:Oper}{E:Ent}{W:yL}{xr xs:List Nat}{Bi:zo}
  (h:zim lk ops Es L n F listed M D a w) (ho:ops[i]?=some o) (hWm:W.map (·.1)=xs) (hstep:ze P ops n o (Lat ops Es L i) Bi (xr,xs) E W)
  (same:∀t,t∈o.looksAt ops++xr→y8 ops Es L (on listed) ops.size t=zD (Lat ops Es L i) t) (sameB:∀t,t∈xr++xs→lk (on listed) t=zk Bi t)
  (lookD:∀t,o.dst=some t→y8 ops Es L (on (listed.setIfInBounds i true)) ops.size t=some E)
  (lookO:∀t,o.dst≠some t→y8 ops Es L (on (listed.setIfInBounds i true)) ops.size t=y8 ops Es L (on listed) ops.size t)
  (lookBT:∀t,(o.dst=some t∨t∈xs)→lk (on (listed.setIfInBounds i true)) t=zk W t) (lookBO:∀t,¬(o.dst=some t∨t∈xs)→lk (on (listed.setIfInBounds i true)) t=lk (on listed) t)
  (closed':∀j,on (listed.setIfInBounds i true) j=true→∀k,((jD ops.toList).getD j 0).testBit k=true→on (listed.setIfInBounds i true) k=true)
  (dlt:∀t,o.dst=some t→t<a.tmps.size):wpOp P ops Q i (QZ lk ops Es L n F (listed.setIfInBounds i true)) a w:=by
 have sat:vw (o.looksAt ops++xr) M (Lat ops Es L i) a w:=fun t ht e he=>h.has t e (by rw[same t ht];exact he)
 have satB:Jo (xr++xs) M D Bi a w:=⟨fun t ht c hc=>h.hasB t c (by rw[sameB t ht];exact hc),
  fun t ht t' ht' c c' hc hc'=>h.apart t t' c c' (by rw[sameB t ht];exact hc) (by rw[sameB t' ht'];exact hc')⟩
 have hs:=hstep M D a w h.size h.msub sat satB
 have after:∀v w',Leaves o (Bi) D xs E W M a w v w'→QZ lk ops Es L n F (listed.setIfInBounds i true) (a.put o.dst v) w':=by
  intro v w' hv
  have hWx:W.map (·.1)=xs:=hWm
  have notouch:∀t c,lk (on (listed.setIfInBounds i true)) t=some c→t∉xs→¬(o.dst=some t∨t∈xs)∧o.dst≠some t:=by
   intro t c hc hne
   have h1:¬(o.dst=some t∨t∈xs):=by
    intro ht
    rw[lookBT t ht,zgP (by rw[hWx];exact hne)]at hc
    cases hc
   exact⟨h1,fun hd=>h1 (.inl hd)⟩
  have valO:∀t,o.dst≠some t→Act.val (a.put o.dst v) t=Act.val a t:=by
   intro t hd;unfold Act.val;rw[za4 hd]
  cases W with
  | nil=>
   obtain⟨hx,hv⟩:=hv
   have hxs:xs=[]:=by rw[←hWx];rfl
   have nt:∀t c,lk (on (listed.setIfInBounds i true)) t=some c→¬(o.dst=some t∨t∈xs)∧o.dst≠some t:=fun t c hc=>notouch t c hc (by rw[hxs];simp)
   refine⟨M,D,by simpa using h.lsize,closed',by rw[zeN];exact h.size,by rw[zeM];exact h.defers,h.keeps.trans hx.keeps,h.mf0,h.mlow,h.mhigh,
    h.msub.ext hx,?_,?_,?_,?_⟩
   ·
    intro t e he
    by_cases hd:o.dst=some t
    ·
     rw[lookD t hd]at he
     obtain rfl:E=e:=by simpa using he
     exact⟨v,zeL hd (dlt t hd),hv⟩
    ·
     rw[lookO t hd]at he
     obtain⟨v',h1,h2⟩:=h.has t e he
     exact⟨v',by rw[za4 hd];exact h1,Ent.holds_ext hx h2⟩
   ·
    intro t c hc
    obtain⟨h1,hd⟩:=nt t c hc
    rw[lookBO t h1]at hc
    rw[valO t hd]
    have h3:=h.hasB t c hc
    refine c.law M M (D t) _ w w' hx.keeps (fun _ h=>.inl h) (fun m hm=>?_) h3
    have hM:=c.inM _ _ _ _ h3 m hm
    exact⟨hM,hx.block m (h.msub m hM) (fun f=>f)⟩
   ·
    intro t c hc
    obtain⟨h1,_⟩:=nt t c hc
    rw[lookBO t h1]at hc
    exact h.own t c hc
   ·
    intro t t' c c' hc hc' hne
    obtain⟨h1,_⟩:=nt t c hc
    obtain⟨h1',_⟩:=nt t' c' hc'
    rw[lookBO t h1]at hc
    rw[lookBO t' h1']at hc'
    exact h.apart t t' c c' hc hc' hne
  | cons W1 Wr=>
   generalize hWW:W1::Wr=W at hv hWx lookBT
   have hv:∃M' D',zx (qE xs (Bi) D) w w'∧(∀k,M k→M' k∨qE xs (Bi) D k)∧(∀k,M' k→M k∨w.heap.size≤k)∧(∀k,M' k→k<w'.heap.size)∧E.holds M' v w'∧
     (∀t c,zk W t=some c→c.p M' (D' t) (Act.val (a.put o.dst v) t) w'∧∀k,D' t k→qE xs (Bi) D k∨w.heap.size≤k)∧zag (zk W) D':=by
    subst hWW;exact hv
   obtain⟨M',D',hk,hml,hmh,hms,hv,hC,hap⟩:=hv
   have mine:∀k,qE xs (Bi) D k→M k∧(F.M0 k∨F.w0.heap.size≤k)∧∃t∈xs,∃c,lk (on listed) t=some c∧D t k:=by
    rintro k ⟨t,ht,c,hc,hb⟩
    rw[←sameB t (List.mem_append_right _ ht)]at hc
    exact⟨c.inM _ _ _ _ (h.hasB t c hc) k hb,h.own t c hc k hb,t,ht,c,hc,hb⟩
   have hkM:zx M w w':=hk.mono (fun k _ hm=>(mine k hm).1)
   have other:∀t c,t∉xs→lk (on (listed.setIfInBounds i true)) t=some c→
     lk (on listed) t=some c∧o.dst≠some t:=by
    intro t c hne hc
    obtain⟨h1,hd⟩:=notouch t c hc hne
    exact⟨by rw[←lookBO t h1];exact hc,hd⟩
   have hTT:∀t,t∈xs→lk (on (listed.setIfInBounds i true)) t=zk W t:=by
    intro t ht
    rw[lookBT t (.inr ht)]
   have free:∀t c,t∉xs→lk (on listed) t=some c→∀k,D t k→¬qE xs (Bi) D k:=by
    intro t c hne hc k hk hm
    obtain⟨_,_,t1,ht1,c1,hc1,hb1⟩:=mine k hm
    exact h.apart t t1 c c1 hc hc1 (fun e=>hne (e▸ht1)) k hk hb1
   have fresh:∀t c,lk (on listed) t=some c→∀k,D t k→k<w.heap.size:=fun t c hc k hk=>h.msub k (c.inM _ _ _ _ (h.hasB t c hc) k hk)
   let D2:Nat→zh:=fun t=>if t∈xs then D' t else D t
   have D2x:∀t,t∈xs→D2 t=D' t:=fun t ht=>if_pos ht
   have D2n:∀t,t∉xs→D2 t=D t:=fun t ht=>if_neg ht
   refine⟨M',D2,by simpa using h.lsize,closed',by rw[zeN];exact h.size,by rw[zeM];exact h.defers,?_,h.mf0,?_,?_,h.msub.next hkM hmh hms,?_,?_,?_,?_⟩
   ·
    refine⟨hk.os.trans h.keeps.os,hk.tape.trans h.keeps.tape,hk.output.trans h.keeps.output,Nat.le_trans h.keeps.size hk.size,fun k hlt hn=>?_⟩
    rw[hk.block k (Nat.lt_of_lt_of_le hlt h.keeps.size) (fun hm=>?_),h.keeps.block k hlt hn]
    rcases(mine k hm).2.1 with h1 | h1
    ·
     exact hn h1
    ·
     omega
   ·
    intro k hk'
    rcases h.mlow k hk' with h1 | h1
    ·
     rcases hml k h1 with h2 | h2
     ·
      exact .inl h2
     ·
      rcases(mine k h2).2.1 with h3 | h3
      ·
       exact .inr h3
      ·
       have:=h.mf0 k hk'
       omega
    ·
     exact .inr h1
   ·
    intro k hk'
    rcases hmh k hk' with h1 | h1
    ·
     exact h.mhigh k h1
    ·
     exact .inr (Nat.le_trans h.keeps.size h1)
   ·
    intro t e he
    by_cases hd:o.dst=some t
    ·
     rw[lookD t hd]at he
     obtain rfl:E=e:=by simpa using he
     exact⟨v,zeL hd (dlt t hd),hv⟩
    ·
     rw[lookO t hd]at he
     obtain⟨v',h1,h2⟩:=h.has t e he
     exact⟨v',by rw[za4 hd];exact h1,Ent.holds_law hkM hmh h2⟩
   ·
    intro t c hc
    by_cases ht:t∈xs
    ·
     rw[hTT t ht]at hc
     rw[D2x t ht]
     exact(hC t c hc).1
    ·
     obtain⟨hc',hd⟩:=other t c ht hc
     rw[D2n t ht,valO t hd]
     have h3:=h.hasB t c hc'
     refine c.law M M' (D t) _ w w' hkM hmh (fun m hm=>?_) h3
     have hM:=c.inM _ _ _ _ h3 m hm
     have hnm:=free t c ht hc' m hm
     exact⟨(hml m hM).resolve_right hnm,hk.block m (h.msub m hM) hnm⟩
   ·
    intro t c hc
    by_cases ht:t∈xs
    ·
     rw[hTT t ht]at hc
     rw[D2x t ht]
     intro k hk'
     rcases(hC t c hc).2 k hk' with h1 | h1
     ·
      exact(mine k h1).2.1
     ·
      exact .inr (Nat.le_trans h.keeps.size h1)
    ·
     obtain⟨hc',hd⟩:=other t c ht hc
     rw[D2n t ht]
     exact h.own t c hc'
   ·
    -- two keys, one block?
    have cross:∀t t' c c',t∈xs→t'∉xs→lk (on (listed.setIfInBounds i true)) t=some c→lk (on (listed.setIfInBounds i true)) t'=some c'→
      ∀k,D' t k→¬D t' k:=by
     intro t t' c c' ht ht' hc hc' k hk1 hk2
     rw[hTT t ht]at hc
     obtain⟨hc1,_⟩:=other t' c' ht' hc'
     rcases(hC t c hc).2 k hk1 with h1 | h1
     ·
      exact free t' c' ht' hc1 k hk2 h1
     ·
      have:=fresh t' c' hc1 k hk2
      omega
    intro t t' c c' hc hc' hne k hk1 hk2
    by_cases ht:t∈xs<;>by_cases ht':t'∈xs
    ·
     rw[D2x t ht]at hk1
     rw[D2x t' ht']at hk2
     rw[hTT t ht]at hc
     rw[hTT t' ht']at hc'
     exact hap t t' c c' hc hc' hne k hk1 hk2
    ·
     rw[D2x t ht]at hk1
     rw[D2n t' ht']at hk2
     exact cross t t' c c' ht ht' hc hc' k hk1 hk2
    ·
     rw[D2n t ht]at hk1
     rw[D2x t' ht']at hk2
     exact cross t' t c' c ht' ht hc' hc k hk2 hk1
    ·
     rw[D2n t ht]at hk1
     rw[D2n t' ht']at hk2
     obtain⟨h1,_⟩:=other t c ht hc
     obtain⟨h2,_⟩:=other t' c' ht' hc'
     exact h.apart t t' c c' h1 h2 hne k hk1 hk2
 unfold wpOp
 rw[ho]
 dsimp only
 split at hs
 ·
  rename_i hw
  rw[if_pos hw]
  exact .inl (hs.wp after)
 ·
  rename_i hw
  rw[if_neg hw]
  obtain⟨rfl,hs⟩:=hs
  exact after undef w ⟨zx.refl _ _,hs⟩
end
def qH (q:Nat)(o:Oper):Bool:=match o.op with
 | .insert _ (.tmp t) _ _=>Nat.beq t q
 | _=>false
section
variable {K V:Type} [Rep K] [DecidableEq K] [Rep V]
def QN (m:GMap K V)(l:List (K×V)):GMap K V:=l.foldl (fun m x=>m.set x.1 x.2) m
def Grp (P:Program)(ops:Array Oper)(n q:Nat)(o:Oper)(L:zq)(B:zo)(x:Aux)(E:Ent)(Ws:yL)(m:GMap K V)(kv:K×V):Prop:=
 zk B q=some (zW m)∧o.dst=none∧x=([q],[q])∧Ws=[(q,some (zW (m.set kv.1 kv.2)))]∧
  ∀(m':GMap K V) (B':zo),zk B' q=some (zW m')→ze P ops n o L B' ([q],[q]) E [(q,some (zW (m'.set kv.1 kv.2)))]
def zZ (P:Program)(ops:Array Oper)(n q:Nat):List Oper→List Aux→zq→zo→GMap K V→List (K×V)→(zq→zo→Prop)→Prop
  | [],_,L,B,_,_,Z=>Z L B
  | o :: rest, aux, L, B, m, kvs, Z => ∃ E Ws, Ws.map (·.1) = (aux.headD ye).2 ∧ ze P ops n o L B (aux.headD ye) E Ws ∧
      (if qH q o=true then ∃kv r,kvs=kv::r∧Grp P ops n q o L B (aux.headD ye) E Ws m kv∧zZ P ops n q rest aux.tail (j6 o.dst E L) (vr o.dst Ws B) (m.set kv.1 kv.2) r Z
       else zZ P ops n q rest aux.tail (j6 o.dst E L) (vr o.dst Ws B) m kvs Z)
theorem zZ.nil {P:Program}{ops:Array Oper}{n q:Nat}{aux:List Aux}{L:zq}{B:zo}{m:GMap K V}{kvs:List (K×V)}{Z:zq→zo→Prop}(h:Z L B):zZ P ops n q [] aux L B m kvs Z:=h
theorem zZ.one {P:Program}{ops:Array Oper}{n q:Nat}{o:Oper}{rest:List Oper}{a:Aux}{aux:List Aux}{L:zq}{B:zo}{m:GMap K V}{kvs:List (K×V)}{Z:zq→zo→Prop}
  (h0:qH q o=false) (h:zy P ops n [o] [a] L B (fun L' B'=>zZ P ops n q rest aux L' B' m kvs Z)):zZ P ops n q (o::rest) (a::aux) L B m kvs Z:=by
 obtain⟨E,W,h1,h2,h3⟩:=h
 refine⟨E,W,h1,h2,?_⟩
 rw[if_neg (by rw[h0];decide)]
 exact h3
theorem zZ.put {P:Program}{ops:Array Oper}{n q:Nat}{o:Oper}{rest:List Oper}{aux:List Aux}{L:zq}{B:zo}{m:GMap K V}{kv:K×V}{kvs:List (K×V)}{Z:zq→zo→Prop}{E:Ent}
  (h0:qH q o=true) (hd:o.dst=none) (hl:zk B q=some (zW m)) (h:∀(m':GMap K V) (B':zo),zk B' q=some (zW m')→ze P ops n o L B' ([q],[q]) E [(q,some (zW (m'.set kv.1 kv.2)))])
  (k:zZ P ops n q rest aux L ((q,some (zW (m.set kv.1 kv.2)))::B) (m.set kv.1 kv.2) kvs Z):zZ P ops n q (o::rest) (([q],[q])::aux) L B m (kv::kvs) Z:=by
 refine⟨E,[(q,some (zW (m.set kv.1 kv.2)))],rfl,h m B hl,?_⟩
 rw[if_pos h0]
 refine⟨kv,kvs,rfl,⟨hl,hd,rfl,rfl,h⟩,?_⟩
 rw[hd]
 exact k
theorem zpm {P:Program}{ops:Array Oper}{n q:Nat}{Z:zq→zo→Prop}:∀(rest:List Oper) (aux:List Aux) (L:zq) (B:zo) (m:GMap K V) (kvs:List (K×V)),zZ P ops n q rest aux L B m kvs Z→
  ∃(Es:List Ent) (Ws:List yL),Es.length=rest.length∧Ws.length=rest.length∧Z (Lat rest.toArray Es L rest.length) (BAt rest.toArray Ws B rest.length)∧
   ∀i o,rest[i]?=some o→∃E W,Es[i]?=some E∧Ws[i]?=some W∧W.map (·.1)=((aux[i]?).getD ye).2∧
    ze P ops n o (Lat rest.toArray Es L i) (BAt rest.toArray Ws B i) ((aux[i]?).getD ye) E W∧
    (qH q o=true→∃kv,kvs[(rest.take i).countP (qH q)]?=some kv∧Grp P ops n q o (Lat rest.toArray Es L i) (BAt rest.toArray Ws B i) ((aux[i]?).getD ye) E W (QN m (kvs.take ((rest.take i).countP (qH q)))) kv):=by
 intro rest
 induction rest with
 | nil=>intro aux L B m kvs h;exact⟨[],[],rfl,rfl,h,fun i o h=>by simp at h⟩
 | cons o rest ih=>
  intro aux L B m kvs h
  obtain⟨E,W,hw,hs,hc⟩:=h
  obtain⟨m1,kvs1,hc1,hgrp,hshape⟩:∃m1 kvs1,zZ P ops n q rest aux.tail (j6 o.dst E L) (vr o.dst W B) m1 kvs1 Z∧
    (qH q o=true→∃kv,kvs[0]?=some kv∧Grp P ops n q o L B (aux.headD ye) E W m kv)∧
    (∀c,kvs1[c]?=kvs[(bif qH q o then 1 else 0)+c]?∧QN m1 (kvs1.take c)=QN m (kvs.take ((bif qH q o then 1 else 0)+c))):=by
   by_cases hg:qH q o=true
   ·
    rw[if_pos hg]at hc
    obtain⟨kv,r,rfl,h1,h2⟩:=hc
    refine⟨_,_,h2,fun _=>⟨kv,rfl,h1⟩,fun c=>?_⟩
    rw[hg,cond_true,Nat.add_comm 1 c]
    exact⟨by simp,by simp[QN]⟩
   ·
    rw[if_neg hg]at hc
    have hg':qH q o=false:=by simpa using hg
    refine⟨_,_,hc,fun h=>absurd h hg,fun c=>?_⟩
    rw[hg',cond_false,Nat.zero_add]
    exact⟨rfl,rfl⟩
  obtain⟨Es,Ws,hl,hl',hk,hall⟩:=ih _ _ _ _ _ hc1
  have shift:∀i,i≤rest.length→Lat (o::rest).toArray (E::Es) L (i+1)=Lat rest.toArray Es (j6 o.dst E L) i:=by
   intro i
   induction i with
   | zero=>intro _;simp[Lat]
   | succ i ih2=>
    intro hi
    rw[Lat,ih2 (by omega),Lat]
    simp
  have shiftB:∀i,i≤rest.length→BAt (o::rest).toArray (W::Ws) B (i+1)=BAt rest.toArray Ws (vr o.dst W B) i:=by
   intro i
   induction i with
   | zero=>intro _;simp[BAt]
   | succ i ih2=>
    intro hi
    rw[BAt,ih2 (by omega),BAt]
    simp
  refine⟨E::Es,W::Ws,by simp[hl],by simp[hl'],?_,?_⟩
  ·
   rw[List.length_cons,shift _ (Nat.le_refl _),shiftB _ (Nat.le_refl _)];exact hk
  ·
   intro i o' ho
   cases i with
   | zero=>
    simp at ho;subst ho
    refine⟨E,W,rfl,rfl,by rw[hw,JJ],by rw[←JJ];exact hs,fun hg=>?_⟩
    obtain⟨kv,h1,h2⟩:=hgrp hg
    exact⟨kv,h1,by rw[←JJ];exact h2⟩
   | succ i=>
    have ho':rest[i]?=some o':=by simpa using ho
    obtain⟨E',W',h1,h1',h2,h3,h4⟩:=hall i o' ho'
    have hi:i≤rest.length:=by have:=(List.getElem?_eq_some_iff.1 ho').1;omega
    have hcnt:((o::rest).take (i+1)).countP (qH q)=(bif qH q o then 1 else 0)+(rest.take i).countP (qH q):=by
     rw[List.take_succ_cons,List.countP_cons]
     cases qH q o<;>simp[Nat.add_comm]
    refine⟨E',W',by simpa using h1,by simpa using h1',by rw[←Yu];exact h2,?_,fun hg=>?_⟩
    ·
     rw[shift i hi,shiftB i hi,←Yu]
     exact h3
    ·
     obtain⟨kv,g1,g2⟩:=h4 hg
     obtain⟨s1,s2⟩:=hshape ((rest.take i).countP (qH q))
     rw[shift i hi,shiftB i hi,←Yu,hcnt]
     exact⟨kv,by rw[←s1];exact g1,by rw[←s2];exact g2⟩
def isG (ops:Array Oper)(q i:Nat):Bool:=match ops[i]? with
 | some o=>qH q o
 | none=>false
def zfD (ops:Array Oper)(q:Nat)(aux:List Aux)(g:Nat):List Aux:=(List.range ops.size).map fun j=>bif isG ops q j&&!Nat.beq j g then ye else(aux[j]?).getD ye
def touchQ (ops:Array Oper)(q:Nat)(aux:List Aux)(j:Nat):Bool:=((aux[j]?).getD ye).2.contains q || (match(ops[j]?).bind (·.dst)with | some d=>Nat.beq d q | none=>false)
def zke (ops:Array Oper)(q:Nat)(aux:List Aux):Bool:=(List.range ops.size).all fun j=>isG ops q j || !touchQ ops q aux j || ((List.range ops.size).all fun g=>!isG ops q g || Nat.blt j g) || ((List.range ops.size).all fun g=>!isG ops q g || Nat.blt g j)
def Yo (n q:Nat)(ops:Array Oper)(aux:List Aux):Bool:=((List.range (ops.size+1)).all fun g=>wfR ops (zfD ops q aux g))&&Q4 n ops.toList&&zke ops q aux
theorem zdf {ops:Array Oper}{q:Nat}{aux:List Aux}{g j:Nat}(hj:j<ops.size)(h:isG ops q j=false∨j=g):((zfD ops q aux g)[j]?).getD ye=(aux[j]?).getD ye:=by
 unfold zfD
 rw[List.getElem?_map,List.getElem?_range hj]
 simp only[Option.map_some,Option.getD_some]
 rcases h with h | h
 ·
  rw[h];rfl
 ·
  subst h
  rw[show Nat.beq j j=true from Nat.beq_refl j]
  cases isG ops q j<;>rfl
theorem Jl {n q:Nat}{ops:Array Oper}{aux:List Aux}(h:Yo n q ops aux=true){i j:Nat}{x y:Oper}(hx:ops[i]?=some x)(hy:ops[j]?=some y)(hij:i<j)(hg:¬(isG ops q i=true∧isG ops q j=true))
  (t:Nat) (ht:(t∈qA x ((aux[i]?).getD ye)∧(t∈qA y ((aux[j]?).getD ye)∨t∈vT ops y ((aux[j]?).getD ye)))∨
   (t∈qA y ((aux[j]?).getD ye)∧(t∈qA x ((aux[i]?).getD ye)∨t∈vT ops x ((aux[i]?).getD ye)))):
  ((jD ops.toList).getD j 0).testBit i=true:=by
 have hi':i<ops.size:=(Array.getElem?_eq_some_iff.1 hx).1
 have hj':j<ops.size:=(Array.getElem?_eq_some_iff.1 hy).1
 simp only[Yo,Bool.and_eq_true,List.all_eq_true,List.mem_range]at h
 by_cases hgi:isG ops q i=true
 ·
  have hgj:isG ops q j=false:=by cases hh:isG ops q j with
   | false=>rfl
   | true=>exact absurd ⟨hgi,hh⟩ hg
  refine Jm (h.1.1 i (by omega)) hx hy hij t ?_
  rw[zdf hi' (.inr rfl),zdf hj' (.inl hgj)]
  exact ht
 ·
  have hgi:isG ops q i=false:=by simpa using hgi
  refine Jm (h.1.1 j (by omega)) hx hy hij t ?_
  rw[zdf hi' (.inl hgi),zdf hj' (.inr rfl)]
  exact ht
theorem zrb {n q:Nat}{ops:Array Oper}{aux:List Aux}(h:Yo n q ops aux=true){j:Nat}(hj:j<ops.size)(hg:isG ops q j=false)(ht:touchQ ops q aux j=true):
  (∀g,g<ops.size→isG ops q g=true→j<g)∨(∀g,g<ops.size→isG ops q g=true→g<j):=by
 simp only[Yo,Bool.and_eq_true]at h
 have h:=h.2
 unfold zke at h
 rw[List.all_eq_true]at h
 have h:=h j (List.mem_range.2 hj)
 rw[hg,ht]at h
 simp only[Bool.false_or,Bool.not_true,Bool.or_eq_true,List.all_eq_true,List.mem_range,Bool.not_eq_true']at h
 rcases h with h | h
 ·
  exact .inl fun g hgl hgg=>(h g hgl).elim (fun e=>absurd hgg (by rw[e];decide)) (fun e=>Nat.le_of_ble_eq_true e)
 ·
  exact .inr fun g hgl hgg=>(h g hgl).elim (fun e=>absurd hgg (by rw[e];decide)) (fun e=>Nat.le_of_ble_eq_true e)
section
variable {K V:Type} [DecidableEq K]
def y7 (G:Nat→Bool)(kv:Nat→K×V)(m0:GMap K V)(p:Nat→Bool):Nat→GMap K V
 | 0=>m0
 | i+1=>bif G i&&p i then(y7 G kv m0 p i).set (kv i).1 (kv i).2 else y7 G kv m0 p i
theorem zrr {m:GMap K V}{a b:K}{x y:V}(h:a≠b):(m.set a x).set b y=(m.set b y).set a x:=by
 have e:((m.set a x).set b y).f=((m.set b y).set a x).f:=by
  funext k
  show(if k=b then some y else if k=a then some x else m.f k)=(if k=a then some x else if k=b then some y else m.f k)
  by_cases h1:k=a
  ·
   by_cases h2:k=b
   ·
    exact absurd (h1.symm.trans h2) h
   ·
    rw[if_neg h2,if_pos h1,if_pos h1]
  ·
   rw[if_neg h1,if_neg h1]
 cases hA:(m.set a x).set b y
 cases hB:(m.set b y).set a x
 rw[hA,hB]at e
 simp only at e
 rw[e]
theorem zf8 {G:Nat→Bool}{kv:Nat→K×V}{m0:GMap K V}{p p':Nat→Bool}:∀n,(∀j,j<n→G j=true→p j=p' j)→y7 G kv m0 p n=y7 G kv m0 p' n
 | 0,_=>rfl
 | n+1,h=>by
  rw[y7,y7,zf8 n (fun j hj=>h j (by omega))]
  cases hg:G n with
  | false=>rfl
  | true=>rw[h n (by omega) hg]
theorem zf9 {G:Nat→Bool}{kv:Nat→K×V}{m0:GMap K V}{p:Nat→Bool}{i:Nat}:∀m,i≤m→(∀j,i≤j→j<m→G j=true→p j=false)→y7 G kv m0 p m=y7 G kv m0 p i
 | 0,h,_=>by rw[show i=0 by omega]
 | m+1,h,hj=>by
  by_cases e:i=m+1
  ·
   rw[e]
  ·
   rw[y7,zf9 m (by omega) (fun j h1 h2=>hj j h1 (by omega))]
   cases hg:G m with
   | false=>rfl
   | true=>rw[hj m (by omega) (by omega) hg];rfl
theorem zjD {G:Nat→Bool}{kv:Nat→K×V}{m0:GMap K V}{p p':Nat→Bool}{i:Nat}(hg:G i=true)(hp:p i=false)(hp':∀j,p' j=(p j || Nat.beq i j))(hd:∀j,G j=true→j≠i→(kv i).1≠(kv j).1):
  ∀n,i<n→y7 G kv m0 p' n=(y7 G kv m0 p n).set (kv i).1 (kv i).2
 | 0,h=>by omega
 | n+1,h=>by
  by_cases hin:i=n
  ·
   subst hin
   have e:y7 G kv m0 p' i=y7 G kv m0 p i:=zf8 i fun j hj _=>by
    rw[hp' j,show Nat.beq i j=false from yp (by omega),Bool.or_false]
   rw[y7,y7,e,hg,hp' i,hp,show Nat.beq i i=true from Nat.beq_refl i];rfl
  ·
   have ih:=zjD (p:=p) (p':=p') (m0:=m0) hg hp hp' hd n (by omega)
   rw[y7,y7,ih,hp' n,show Nat.beq i n=false from yp hin,Bool.or_false]
   cases hgn:G n with
   | false=>rfl
   | true=>
    cases p n with
    | false=>rfl
    | true=>exact zrr (hd n hgn (Ne.symm hin))
end
end
section
variable {K V:Type} [Rep K] [DecidableEq K] [Rep V] [Inhabited (K×V)]
def qy (ops:Array Oper)(q i:Nat):Nat:=(ops.toList.take i).countP (qH q)
def kvG (ops:Array Oper)(q:Nat)(kvs:List (K×V))(j:Nat):K×V:=(kvs[qy ops q j]?).getD default
structure GS (P:Program) (ops:Array Oper) (n q:Nat) (L:zq) (B:zo) (Es:List Ent) (Ws:List yL) (aux:List Aux) (m0:GMap K V) (kvs:List (K×V)):Prop where
 hok:Yo n q ops aux=true
 hl:Es.length=ops.size
 hl':Ws.length=ops.size
 nd:(kvs.map (·.1)).Nodup
 all:∀i o,ops[i]?=some o→∃E W,Es[i]?=some E∧Ws[i]?=some W∧W.map (·.1)=((aux[i]?).getD ye).2∧ze P ops n o (Lat ops Es L i) (BAt ops Ws B i) ((aux[i]?).getD ye) E W∧
  (qH q o=true→∃kv,kvs[qy ops q i]?=some kv∧Grp P ops n q o (Lat ops Es L i) (BAt ops Ws B i) ((aux[i]?).getD ye) E W (QN m0 (kvs.take (qy ops q i))) kv)
variable {P:Program} {ops:Array Oper} {n q:Nat} {L:zq} {B:zo} {Es:List Ent} {Ws:List yL} {aux:List Aux} {m0:GMap K V} {kvs:List (K×V)}
theorem zcF {i:Nat}(hi:i<ops.size):qy ops q (i+1)=qy ops q i+(bif isG ops q i then 1 else 0):=by
 unfold qy isG
 have hi':i<ops.toList.length:=by simpa using hi
 rw[List.take_succ_eq_append_getElem hi',List.countP_append,Array.getElem?_eq_getElem hi]
 simp only[Array.getElem_toList,List.countP_cons,List.countP_nil]
 cases qH q ops[i]<;>rfl
theorem zto {i j:Nat}(h:i≤j)(hj:j≤ops.size):qy ops q i≤qy ops q j:=by
 induction j with
 | zero=>rw[show i=0 by omega];exact Nat.le_refl _
 | succ j ih=>
  by_cases e:i=j+1
  ·
   rw[e];exact Nat.le_refl _
  ·
   have:=ih (by omega) (by omega)
   rw[zcF (by omega)];omega
theorem zlY {i j:Nat}(h:i<j)(hj:j≤ops.size)(hg:isG ops q i=true):qy ops q i<qy ops q j:=by
 have h1:=zto (q:=q) (i:=i+1) (j:=j) h hj
 rw[zcF (by omega),hg]at h1
 simp only[cond_true]at h1;omega
theorem zrL {i:Nat}(h:isG ops q i=true):∃o,ops[i]?=some o∧qH q o=true:=by
 unfold isG at h
 split at h
 ·
  exact⟨_,by assumption,h⟩
 ·
  cases h
theorem GS.grp (S:GS P ops n q L B Es Ws aux m0 kvs){i:Nat}(h:isG ops q i=true):∃o E W,ops[i]?=some o∧Es[i]?=some E∧Ws[i]?=some W∧kvs[qy ops q i]?=some (kvG ops q kvs i)∧
  Grp P ops n q o (Lat ops Es L i) (BAt ops Ws B i) ((aux[i]?).getD ye) E W (QN m0 (kvs.take (qy ops q i))) (kvG ops q kvs i):=by
 obtain⟨o,ho,hi⟩:=zrL h
 obtain⟨E,W,h1,h2,_,_,h5⟩:=S.all i o ho
 obtain⟨kv,h6,h7⟩:=h5 hi
 have e:kvG ops q kvs i=kv:=by unfold kvG;rw[h6];rfl
 exact⟨o,E,W,ho,h1,h2,by rw[e];exact h6,by rw[e];exact h7⟩
theorem GS.ents (S:GS P ops n q L B Es Ws aux m0 kvs){p:Nat→Bool}:∀i,i≤ops.size→(∀j,j<i→isG ops q j=true→p j=true)→y7 (isG ops q) (kvG ops q kvs) m0 p i=QN m0 (kvs.take (qy ops q i))
 | 0,_,_=>rfl
 | i+1,hi,h=>by
  rw[y7,S.ents i (by omega) (fun j hj=>h j (by omega)),zcF (by omega)]
  cases hg:isG ops q i with
  | false=>rfl
  | true=>
   obtain⟨o,E,W,_,_,_,hk,_⟩:=S.grp hg
   rw[h i (by omega) hg,Bool.and_self,cond_true,cond_true,List.take_add_one,hk]
   unfold QN
   rw[List.foldl_append];rfl
theorem GS.keys (S:GS P ops n q L B Es Ws aux m0 kvs){i j:Nat}(hi:isG ops q i=true)(hj:isG ops q j=true)(hne:j≠i):(kvG ops q kvs i).1≠(kvG ops q kvs j).1:=by
 obtain⟨oi,_,_,ho,_,_,hk,_⟩:=S.grp hi
 obtain⟨oj,_,_,ho',_,_,hk',_⟩:=S.grp hj
 have hil:=(Array.getElem?_eq_some_iff.1 ho).1
 have hjl:=(Array.getElem?_eq_some_iff.1 ho').1
 have hr:qy ops q i≠qy ops q j:=by
  rcases Nat.lt_or_gt_of_ne hne with h | h
  ·
   have:=zlY (q:=q) h (by omega) hj;omega
  ·
   have:=zlY (q:=q) h (by omega) hi;omega
 intro e
 obtain⟨a1,a2⟩:=List.getElem?_eq_some_iff.1 hk
 obtain⟨b1,b2⟩:=List.getElem?_eq_some_iff.1 hk'
 refine hr ((List.getElem_inj (xs:=kvs.map (·.1)) (h₀:=by simpa using a1) (h₁:=by simpa using b1) S.nd).1 ?_)
 rw[List.getElem_map,List.getElem_map,a2,b2,e]
def WsG (ops:Array Oper)(q:Nat)(Ws:List yL)(kvs:List (K×V))(m0:GMap K V)(p:Nat→Bool):List yL:=
 (List.range ops.size).map fun i=>bif isG ops q i then [(q,some (zW (y7 (isG ops q) (kvG ops q kvs) m0 p ops.size)))]else(Ws[i]?).getD []
noncomputable def lkG (ops:Array Oper)(q:Nat)(Ws:List yL)(B:zo)(kvs:List (K×V))(m0:GMap K V)(p:Nat→Bool)(t:Nat):Option zd:=yu ops (WsG ops q Ws kvs m0 p) B p ops.size t
theorem zfx {p:Nat→Bool}{j:Nat}(hj:j<ops.size):(WsG ops q Ws kvs m0 p)[j]?=some (bif isG ops q j then [(q,some (zW (y7 (isG ops q) (kvG ops q kvs) m0 p ops.size)))]else(Ws[j]?).getD []):=by
 unfold WsG
 rw[List.getElem?_map,List.getElem?_range hj];rfl
theorem GS.touch (S:GS P ops n q L B Es Ws aux m0 kvs){p:Nat→Bool}{j t:Nat}(hj:j<ops.size):yW ops (WsG ops q Ws kvs m0 p) j t↔yW ops Ws j t:=by
 unfold yW
 rw[zfx hj]
 have hj':j<Ws.length:=by rw[S.hl'];exact hj
 have hw:Ws[j]?=some Ws[j]:=List.getElem?_eq_getElem hj'
 cases hg:isG ops q j with
 | false=>simp only[cond_false,hw,Option.getD_some]
 | true=>
  obtain⟨o,E,W,_,_,hW,_,_,_,_,hWs,_⟩:=S.grp hg
  rw[hW,hWs]
  simp
theorem GS.newB (S:GS P ops n q L B Es Ws aux m0 kvs){p:Nat→Bool}{j t:Nat}(hj:j<ops.size)(hg:isG ops q j=false):Go.DB.newB (WsG ops q Ws kvs m0 p) j t=Go.DB.newB Ws j t:=by
 unfold Go.DB.newB
 rw[zfx hj,hg,cond_false,List.getElem?_eq_getElem (by rw[S.hl'];exact hj)];rfl
theorem zlp {p:Nat→Bool}{j:Nat}(hj:j<ops.size)(hg:isG ops q j=true):Go.DB.newB (WsG ops q Ws kvs m0 p) j q=some (zW (y7 (isG ops q) (kvG ops q kvs) m0 p ops.size)):=by
 unfold Go.DB.newB
 rw[zfx hj,hg,cond_true]
 exact zaS
theorem zkS {p:Nat→Prop}:∀n,(∃g,g<n∧p g)→∃g,g<n∧p g∧∀j,g<j→j<n→¬p j
 | 0,⟨g,h,_⟩=>by omega
 | n+1,⟨g,h,hg⟩=>by
  by_cases hn:p n
  ·
   exact⟨n,by omega,hn,fun j h1 h2=>by omega⟩
  ·
   obtain⟨g',h1,h2,h3⟩:=zkS n ⟨g,by
    rcases Nat.lt_or_ge g n with h' | h'
    ·
     exact h'
    ·
     rw[show g=n by omega]at hg;exact absurd hg hn,hg⟩
   refine⟨g',by omega,h2,fun j hj1 hj2=>?_⟩
   by_cases e:j=n
   ·
    rw[e];exact hn
   ·
    exact h3 j hj1 (by omega)
theorem zj3 {p:Nat→Prop}:∀n,(∃g,g<n∧p g)→∃g,g<n∧p g∧∀j,j<g→¬p j
 | 0,⟨g,h,_⟩=>by omega
 | n+1,⟨g,h,hg⟩=>by
  by_cases hn:∃g,g<n∧p g
  ·
   obtain⟨g',h1,h2,h3⟩:=zj3 n hn
   exact⟨g',by omega,h2,h3⟩
  ·
   exact⟨g,h,hg,fun j hj hp=>hn ⟨j,by omega,hp⟩⟩
theorem GS.touch_grp (S:GS P ops n q L B Es Ws aux m0 kvs){j:Nat}(hg:isG ops q j=true):yW ops Ws j q:=by
 obtain⟨o,E,W,_,_,hW,_,_,_,_,hWs,_⟩:=S.grp hg
 exact .inr ⟨W,hW,by rw[hWs];simp⟩
theorem GS.touch_ne (S:GS P ops n q L B Es Ws aux m0 kvs){j t:Nat}(hg:isG ops q j=true)(ht:t≠q):¬yW ops Ws j t:=by
 obtain⟨o,E,W,ho,_,hW,_,_,hd,_,hWs,_⟩:=S.grp hg
 rintro(h | ⟨W',h,hm⟩)
 ·
  rw[ho,Option.bind_some,hd]at h;cases h
 ·
  rw[hW]at h
  injection h with h
  rw[←h,hWs]at hm
  simp at hm
  exact ht hm
theorem GS.lk_ne (S:GS P ops n q L B Es Ws aux m0 kvs){p:Nat→Bool}{t:Nat}(ht:t≠q):∀m,m≤ops.size→yu ops (WsG ops q Ws kvs m0 p) B p m t=yu ops Ws B p m t
 | 0,_=>rfl
 | m+1,hm=>by
  have ih:=S.lk_ne (p:=p) ht m (by omega)
  simp only[yu]
  by_cases h:p m=true∧yW ops Ws m t
  ·
   have hg:isG ops q m=false:=by
    cases hh:isG ops q m with
    | false=>rfl
    | true=>exact absurd h.2 (S.touch_ne hh ht)
   rw[if_pos h,if_pos ⟨h.1,(S.touch (by omega)).2 h.2⟩,S.newB (by omega) hg]
  ·
   rw[if_neg h,if_neg (fun h'=>h ⟨h'.1,(S.touch (by omega)).1 h'.2⟩),ih]
theorem zlX {a b:Nat}(hab:a≤b)(hb:b≤ops.size)(h:∀j,a≤j→j<b→isG ops q j=false):qy ops q b=qy ops q a:=by
 induction b with
 | zero=>rw[show a=0 by omega]
 | succ b ih=>
  by_cases e:a=b+1
  ·
   rw[e]
  ·
   rw[zcF (by omega),h b (by omega) (by omega),ih (by omega) (by omega) (fun j h1 h2=>h j h1 (by omega))];rfl
theorem GS.lk_stat (S:GS P ops n q L B Es Ws aux m0 kvs){p:Nat→Bool}{i:Nat}(hi:i≤ops.size)(hon:∀j,j<i→yW ops Ws j q→p j=true)(hoff:∀g,i≤g→g<ops.size→isG ops q g=true→p g=false):
  yu ops (WsG ops q Ws kvs m0 p) B p i q=zk (BAt ops Ws B i) q:=by
 have he:y7 (isG ops q) (kvG ops q kvs) m0 p ops.size=QN m0 (kvs.take (qy ops q i)):=
  (zf9 ops.size hi fun j h1 h2 h3=>hoff j h1 h2 h3).trans (S.ents i hi fun j hj hg=>hon j hj (S.touch_grp hg))
 rw[zaR S.hl' i q hi]
 have key:∀m,m≤i→(∀j,m≤j→j<i→¬yW ops Ws j q)→yu ops (WsG ops q Ws kvs m0 p) B p m q=yu ops Ws B (fun _=>true) m q:=by
  intro m
  induction m with
  | zero=>intro _ _;rfl
  | succ m ih=>
   intro hm hno
   simp only[yu]
   by_cases h:yW ops Ws m q
   ·
    rw[if_pos ⟨hon m (by omega) h,(S.touch (by omega)).2 h⟩,if_pos ⟨rfl,h⟩]
    cases hg:isG ops q m with
    | false=>exact S.newB (by omega) hg
    | true=>
     obtain⟨o,E,W,_,_,hW,hk,_,_,_,hWs,_⟩:=S.grp hg
     have hr:qy ops q i=qy ops q m+1:=by
      rw[zlX (a:=m+1) hm hi (fun j h1 h2=>by
       cases hh:isG ops q j with
       | false=>rfl
       | true=>exact absurd (S.touch_grp hh) (hno j h1 h2)),zcF (by omega),hg];rfl
     rw[zlp (by omega) hg,he,hr]
     unfold Go.DB.newB
     rw[hW,hWs]
     show _=zk _ q
     rw[zaS,List.take_add_one,hk]
     unfold QN
     rw[List.foldl_append];rfl
   ·
    rw[if_neg (fun h'=>h ((S.touch (by omega)).1 h'.2)),if_neg (fun h'=>h h'.2)]
    exact ih (by omega) (fun j h1 h2=>by
     by_cases e:j=m
     ·
      rw[e];exact h
     ·
      exact hno j (by omega) h2)
 exact key i (Nat.le_refl _) (fun j h1 h2=>by omega)
omit [Inhabited (K×V)]in
theorem GS.touchQ (S:GS P ops n q L B Es Ws aux m0 kvs){j:Nat}(hj:j<ops.size)(h:yW ops Ws j q):Go.DB.touchQ ops q aux j=true:=by
 obtain⟨E,W,_,hW,hm,_,_⟩:=S.all j _ (Array.getElem?_eq_getElem hj)
 unfold Go.DB.touchQ
 rcases h with h | ⟨W',h,hmem⟩
 ·
  rw[h]
  simp
 ·
  rw[hW]at h
  injection h with h
  rw[←h,hm]at hmem
  rw[show((aux[j]?).getD ye).2.contains q=true by simpa using hmem,Bool.true_or]
theorem GS.lk_grp (S:GS P ops n q L B Es Ws aux m0 kvs){p:Nat→Bool}{i:Nat}(hi:i<ops.size)(hgi:isG ops q i=true)(hb:∀j,j<ops.size→isG ops q j=false→yW ops Ws j q→(j<i→p j=true)∧(i<j→p j=false)):
  yu ops (WsG ops q Ws kvs m0 p) B p ops.size q=some (zW (y7 (isG ops q) (kvG ops q kvs) m0 p ops.size)):=by
 have side:∀j,j<ops.size→isG ops q j=false→yW ops Ws j q→(p j=true∧∀g,g<ops.size→isG ops q g=true→j<g)∨(p j=false∧∀g,g<ops.size→isG ops q g=true→g<j):=by
  intro j hj hg ht
  obtain⟨h1,h2⟩:=hb j hj hg ht
  rcases zrb S.hok hj hg (S.touchQ hj ht)with h | h
  ·
   exact .inl ⟨h1 (h i hi hgi),h⟩
  ·
   exact .inr ⟨h2 (h i hi hgi),h⟩
 by_cases hex:∃g,g<ops.size∧(isG ops q g=true∧p g=true)
 ·
  obtain⟨g,g1,⟨g2,g3⟩,g4⟩:=zkS ops.size hex
  rw[QH (i:=g+1) ops.size g1 (fun j h1 h2 ht=>by
   have ht:=(S.touch h2).1 ht
   cases hg:isG ops q j with
   | true=>
    cases hp:p j with
    | false=>rfl
    | true=>exact absurd ⟨hg,hp⟩ (g4 j h1 h2)
   | false=>
    rcases side j h2 hg ht with⟨_,h⟩ | ⟨h,_⟩
    ·
     have:=h g g1 g2;omega
    ·
     exact h)]
  simp only[yu]
  rw[if_pos ⟨g3,(S.touch g1).2 (S.touch_grp g2)⟩,zlp g1 g2]
 ·
  obtain⟨g,g1,g2,g4⟩:=zj3 (p:=fun g=>isG ops q g=true) ops.size ⟨i,hi,hgi⟩
  have noff:∀j,j<ops.size→isG ops q j=true→p j=false:=fun j hj hg=>by
   cases hp:p j with
   | false=>rfl
   | true=>exact absurd ⟨j,hj,hg,hp⟩ hex
  rw[QH (i:=g) ops.size (by omega) (fun j h1 h2 ht=>by
   have ht:=(S.touch h2).1 ht
   cases hg:isG ops q j with
   | true=>exact noff j h2 hg
   | false=>
    rcases side j h2 hg ht with⟨_,h⟩ | ⟨h,_⟩
    ·
     have:=h g g1 g2;omega
    ·
     exact h)]
  rw[S.lk_stat (i:=g) (by omega) (fun j h1 ht=>by
   cases hg:isG ops q j with
   | true=>exact absurd hg (g4 j h1)
   | false=>
    rcases side j (by omega) hg ht with⟨h,_⟩ | ⟨_,h⟩
    ·
     exact h
    ·
     have:=h g g1 g2;omega) (fun j h1 h2 hg=>noff j h2 hg)]
  obtain⟨o,E,W,_,_,_,_,hB,_⟩:=S.grp g2
  have hr:qy ops q g=0:=by
   rw[zlX (a:=0) (Nat.zero_le _) (by omega) (fun j _ h2=>by
    cases hh:isG ops q j with
    | false=>rfl
    | true=>exact absurd hh (g4 j h2))]
   unfold qy;simp
  rw[hB,hr,zf9 (i:=0) ops.size (Nat.zero_le _) (fun j _ h2 hg=>noff j h2 hg)]
  rfl
variable {Q:Exit→Act→World→Prop} {F:Fr}
omit [Inhabited (K×V)]in
theorem GS.each (S:GS P ops n q L B Es Ws aux m0 kvs):Each P ops n Es Ws L B aux:=fun i o ho=>by
 obtain⟨E,W,h1,h2,h3,h4,_⟩:=S.all i o ho
 exact⟨E,W,h1,h2,h3,h4⟩
theorem GS.no_dst (S:GS P ops n q L B Es Ws aux m0 kvs){j t:Nat}{oj:Oper}(ho:ops[j]?=some oj)(hd:oj.dst=some t):isG ops q j=false:=by
 cases hg:isG ops q j with
 | false=>rfl
 | true=>
  obtain⟨o,E,W,ho',_,_,_,_,hn,_⟩:=S.grp hg
  rw[ho]at ho'
  injection ho' with e
  rw[e,hn]at hd;cases hd
theorem GS.step (S:GS P ops n q L B Es Ws aux m0 kvs){listed:Array Bool}{a:Act}{w:World}{i:Nat}(h:QZ (lkG ops q Ws B kvs m0) ops Es L n F listed a w)(hi:i∈Region.ready .any ops listed):
  wpOp P ops Q i (QZ (lkG ops q Ws B kvs m0) ops Es L n F (listed.setIfInBounds i true)) a w:=by
 obtain⟨M,D,h⟩:=h
 obtain⟨hlt,hoff,o,ho,hedges⟩:=zg7 hi
 have hisz:i<ops.size:=by rw[←h.lsize];exact hlt
 have hds:Q4 n ops.toList=true:=by have:=S.hok;simp only[Yo,Bool.and_eq_true]at this;exact this.1.2
 obtain⟨E,W,hE,hW,hWm,hstep,_⟩:=S.all i o ho
 have ahead:∀k,((jD ops.toList).getD i 0).testBit k=true→on listed k=true:=by
  intro k hk
  obtain⟨e,he,hb,h1⟩:=zlf (ops:=ops.toList) (by simpa using ho) hk
  have h2:=hedges e he hb
  rcases h1 with rfl | h1
  ·
   exact h2
  ·
   exact h.closed _ h2 _ h1
 have behind:∀j,((jD ops.toList).getD j 0).testBit i=true→on listed j=false:=by
  intro j hj
  cases hon:on listed j with
  | false=>rfl
  | true=>
   have:=h.closed j hon i hj
   rw[this]at hoff;cases hoff
 have hon:∀j,on (listed.setIfInBounds i true) j=(on listed j || (i==j)):=fun j=>zgZ hlt
 have hself:on (listed.setIfInBounds i true) i=true:=by rw[hon];simp
 have hoth:∀j,j≠i→on (listed.setIfInBounds i true) j=on listed j:=fun j hj=>by rw[hon];simp[Ne.symm hj]
 have closed':∀j,on (listed.setIfInBounds i true) j=true→∀k,((jD ops.toList).getD j 0).testBit k=true→on (listed.setIfInBounds i true) k=true:=by
  intro j hj k hk
  rw[hon]at hj⊢
  simp only[Bool.or_eq_true,beq_iff_eq]at hj⊢
  rcases hj with hj | rfl
  ·
   exact .inl (h.closed j hj k hk)
  ·
   exact .inl (ahead k hk)
 have dlt:∀t,o.dst=some t→t<a.tmps.size:=by
  intro t hd
  rw[h.size];exact zfZ ops.toList i o t hds (by simpa using ho) hd
 have lookD:∀t,o.dst=some t→y8 ops Es L (on (listed.setIfInBounds i true)) ops.size t=some E:=by
  intro t hd
  have hgi:=S.no_dst ho hd
  rw[JS (i:=i+1) ops.size (by omega)]
  ·
   simp only[y8]
   rw[if_pos ⟨hself,by simp[ho,hd]⟩,hE]
  ·
   intro j h1 h2 hdj'
   obtain⟨oj,hoj,hdj⟩:=Option.bind_eq_some_iff.1 hdj'
   rw[hoth j (by omega),behind j (Jl S.hok ho hoj (by omega) (fun hh=>by rw[hgi]at hh;cases hh.1) _ (.inl ⟨Y1 hd,.inl (Y1 hdj)⟩))]
 have lookO:∀t,o.dst≠some t→y8 ops Es L (on (listed.setIfInBounds i true)) ops.size t=y8 ops Es L (on listed) ops.size t:=by
  intro t hd
  refine JR ops.size (fun j _ hdj=>?_)
  by_cases hij:j=i
  ·
   subst hij;simp[ho]at hdj;exact absurd hdj hd
  ·
   exact hoth j hij
 have same:∀t,t∈o.looksAt ops++((aux[i]?).getD ye).1→y8 ops Es L (on listed) ops.size t=zD (Lat ops Es L i) t:=by
  intro t ht
  rw[zcm S.hl i t (by omega)]
  rw[JS (i:=i) ops.size (by omega)]
  ·
   refine JR i (fun j hj hd=>?_)
   obtain⟨oj,hoj,hdj⟩:=Option.bind_eq_some_iff.1 hd
   have hgj:=S.no_dst hoj hdj
   exact ahead j (Jl S.hok hoj ho hj (fun hh=>by rw[hgj]at hh;cases hh.1) _ (.inl ⟨Y1 hdj,.inr (zeo ht)⟩))
  ·
   intro j h1 h2 hd
   obtain⟨oj,hoj,hdj⟩:=Option.bind_eq_some_iff.1 hd
   by_cases hji:i=j
   ·
    subst hji;exact hoff
   ·
    have hgj:=S.no_dst hoj hdj
    exact behind j (Jl S.hok ho hoj (by omega) (fun hh=>by rw[hgj]at hh;cases hh.2) _ (.inr ⟨Y1 hdj,.inr (zeo ht)⟩))
 cases hgi:isG ops q i with
 | false=>
  have nb:∀j,¬(isG ops q i=true∧isG ops q j=true):=fun j hh=>by rw[hgi]at hh;cases hh.1
  have nb':∀j,¬(isG ops q j=true∧isG ops q i=true):=fun j hh=>by rw[hgi]at hh;cases hh.2
  have name:∀t,t∈((aux[i]?).getD ye).1++((aux[i]?).getD ye).2→2*t+1∈qA o ((aux[i]?).getD ye)∨2*t+1∈vT ops o ((aux[i]?).getD ye):=by
   intro t ht
   rcases List.mem_append.1 ht with ht | ht
   ·
    exact .inr (zlh ht)
   ·
    exact .inl (zep ht)
  have tb:∀t,t∈((aux[i]?).getD ye).1++((aux[i]?).getD ye).2→∀j,j<i→yW ops Ws j t→on listed j=true:=by
   intro t ht j hj hd
   obtain⟨oj,hoj,hdj⟩:=S.each.touch hd (by omega)
   exact ahead j (Jl S.hok hoj ho hj (nb' j) _ (.inl ⟨hdj,name t ht⟩))
  have ta:∀t,t∈((aux[i]?).getD ye).1++((aux[i]?).getD ye).2→∀j,i≤j→j<ops.size→yW ops Ws j t→on listed j=false:=by
   intro t ht j h1 h2 hd
   obtain⟨oj,hoj,hdj⟩:=S.each.touch hd h2
   by_cases hji:i=j
   ·
    subst hji;exact hoff
   ·
    exact behind j (Jl S.hok ho hoj (by omega) (nb j) _ (.inr ⟨hdj,name t ht⟩))
  refine QZ.step h ho hWm hstep same (fun t ht=>?_) lookD lookO (fun t ht=>?_) (fun t ht=>?_) closed' dlt
  ·
   show yu ops (WsG ops q Ws kvs m0 (on listed)) B (on listed) ops.size t=_
   by_cases htq:t=q
   ·
    subst htq
    rw[QH (i:=i) ops.size (by omega) (fun j h1 h2 hd=>ta t ht j h1 h2 ((S.touch h2).1 hd))]
    exact S.lk_stat (by omega) (tb t ht) (fun g h1 h2 hg=>ta t ht g h1 h2 (S.touch_grp hg))
   ·
    rw[S.lk_ne htq ops.size (Nat.le_refl _),zaR S.hl' i t (by omega),QH (i:=i) ops.size (by omega) (ta t ht)]
    exact Y0 i (fun j hj hd=>tb t ht j hj hd)
  ·
   show yu ops (WsG ops q Ws kvs m0 (on (listed.setIfInBounds i true))) B (on (listed.setIfInBounds i true)) ops.size t=_
   have htch:yW ops Ws i t:=by
    rcases ht with ht | ht
    ·
     exact .inl (by rw[ho,Option.bind_some];exact ht)
    ·
     exact .inr ⟨W,hW,by rw[hWm];exact ht⟩
   rw[QH (i:=i+1) ops.size (by omega) (fun j h1 h2 hd=>by
    obtain⟨oj,hoj,hdj⟩:=S.each.touch ((S.touch h2).1 hd) h2
    obtain⟨oi,hoi,hdi⟩:=S.each.touch htch hisz
    rw[ho]at hoi
    injection hoi with hoi
    subst hoi
    rw[hoth j (by omega),behind j (Jl S.hok ho hoj (by omega) (nb j) _ (.inl ⟨hdi,.inl hdj⟩))])]
   simp only[yu]
   rw[if_pos ⟨hself,(S.touch hisz).2 htch⟩,S.newB hisz hgi]
   unfold Go.DB.newB
   rw[hW]
  ·
   show yu ops (WsG ops q Ws kvs m0 (on (listed.setIfInBounds i true))) B (on (listed.setIfInBounds i true)) ops.size t=yu ops (WsG ops q Ws kvs m0 (on listed)) B (on listed) ops.size t
   have hne:¬yW ops Ws i t:=by
    rintro(h1 | ⟨W',h1,h2⟩)
    ·
     rw[ho,Option.bind_some]at h1;exact ht (.inl h1)
    ·
     rw[hW]at h1
     injection h1 with h1
     rw[←h1,hWm]at h2
     exact ht (.inr h2)
   have he:y7 (isG ops q) (kvG ops q kvs) m0 (on (listed.setIfInBounds i true)) ops.size=y7 (isG ops q) (kvG ops q kvs) m0 (on listed) ops.size:=zf8 ops.size (fun j _ hg=>hoth j (fun e=>by rw[e,hgi]at hg;cases hg))
   have hWs:WsG ops q Ws kvs m0 (on (listed.setIfInBounds i true))=WsG ops q Ws kvs m0 (on listed):=by unfold WsG;rw[he]
   rw[hWs]
   exact Y0 ops.size (fun j hj hd=>hoth j (fun e=>hne (e▸(S.touch hj).1 hd)))
 | true=>
  obtain⟨o',E',W',ho',hE',_,_,_,hd,hx,_,poly⟩:=S.grp hgi
  rw[ho]at ho'
  injection ho' with e1
  subst e1
  rw[hE]at hE'
  injection hE' with e2
  subst e2
  have hb:∀j,j<ops.size→isG ops q j=false→yW ops Ws j q→(j<i→on listed j=true)∧(i<j→on listed j=false):=by
   intro j hj hgj ht
   obtain⟨oj,hoj,hdj⟩:=S.each.touch ht hj
   have hqi:2*q+1∈qA o ((aux[i]?).getD ye):=zep (by rw[hx];simp)
   exact⟨fun hji=>ahead j (Jl S.hok hoj ho hji (fun hh=>by rw[hgj]at hh;cases hh.1) _ (.inl ⟨hdj,.inl hqi⟩)),
    fun hij=>behind j (Jl S.hok ho hoj hij (fun hh=>by rw[hgj]at hh;cases hh.2) _ (.inl ⟨hqi,.inl hdj⟩))⟩
  have hb':∀j,j<ops.size→isG ops q j=false→yW ops Ws j q→(j<i→on (listed.setIfInBounds i true) j=true)∧(i<j→on (listed.setIfInBounds i true) j=false):=by
   intro j hj hgj ht
   have:=hb j hj hgj ht
   have hji:j≠i:=fun e=>by rw[e,hgi]at hgj;cases hgj
   rw[hoth j hji];exact this
  have hk:=S.lk_grp hisz hgi hb
  have hk':=S.lk_grp hisz hgi hb'
  have hadd:y7 (isG ops q) (kvG ops q kvs) m0 (on (listed.setIfInBounds i true)) ops.size=(y7 (isG ops q) (kvG ops q kvs) m0 (on listed) ops.size).set (kvG ops q kvs i).1 (kvG ops q kvs i).2:=
   zjD hgi hoff (fun j=>by
    rw[hon]
    congr 1
    cases hij:Nat.beq i j with
    | true=>have:=Nat.eq_of_beq_eq_true hij;subst this;simp
    | false=>simp only[beq_eq_false_iff_ne,ne_eq];intro e;subst e;rw[show Nat.beq i i=true from Nat.beq_refl i]at hij;cases hij) (fun j hgj hne=>S.keys hgi hgj hne) ops.size hisz
  rw[hx]at same
  refine QZ.step (xr:=[q]) (xs:=[q]) (Bi:=[(q,some (zW (y7 (isG ops q) (kvG ops q kvs) m0 (on listed) ops.size)))]) h ho rfl (poly _ _ zaS) same (fun t ht=>?_) lookD lookO (fun t ht=>?_) (fun t ht=>?_) closed' dlt
  ·
   have:t=q:=by simpa using ht
   subst this
   exact hk.trans zaS.symm
  ·
   rcases ht with ht | ht
   ·
    rw[hd]at ht;cases ht
   ·
    have:t=q:=by simpa using ht
    subst this
    refine hk'.trans ?_
    rw[hadd]
    exact zaS.symm
  ·
   have htq:t≠q:=fun e=>ht (.inr (by simp[e]))
   show yu ops (WsG ops q Ws kvs m0 (on (listed.setIfInBounds i true))) B (on (listed.setIfInBounds i true)) ops.size t=yu ops (WsG ops q Ws kvs m0 (on listed)) B (on listed) ops.size t
   rw[S.lk_ne htq ops.size (Nat.le_refl _),S.lk_ne htq ops.size (Nat.le_refl _)]
   exact Y0 ops.size (fun j hj hd'=>hoth j (fun e=>S.touch_ne hgi htq (e▸hd')))
theorem GS.legal (S:GS P ops n q L B Es Ws aux m0 kvs)(hq:∀a w,Sat n F (Lat ops Es L ops.size) (BAt ops Ws B ops.size) a w→Q .normal a w):
  ∀(l:List Nat) (listed:Array Bool) (a:Act) (w:World),QZ (lkG ops q Ws B kvs m0) ops Es L n F listed a w→zak ops listed l→wpOps P ops Q l a w:=by
 intro l
 induction l with
 | nil=>
  intro listed a w h hlg
  simp only[wpOps]
  obtain⟨M,D,h⟩:=h
  have e1:∀t,zD (Lat ops Es L ops.size) t=y8 ops Es L (on listed) ops.size t:=by
   intro t
   rw[zcm S.hl _ _ (Nat.le_refl _)]
   exact(JR _ (fun j hj _=>hlg j hj)).symm
  have e2:zk (BAt ops Ws B ops.size)=lkG ops q Ws B kvs m0 (on listed):=by
   funext t
   show _=yu ops (WsG ops q Ws kvs m0 (on listed)) B (on listed) ops.size t
   by_cases ht:t=q
   ·
    subst ht
    exact(S.lk_stat (Nat.le_refl _) (fun j hj _=>hlg j hj) (fun g h1 h2 _=>by omega)).symm
   ·
    rw[S.lk_ne ht ops.size (Nat.le_refl _),zaR S.hl' _ _ (Nat.le_refl _)]
    exact(Y0 _ (fun j hj _=>hlg j hj)).symm
  exact hq a w ⟨M,D,h.size,h.defers,h.keeps,h.mf0,h.mlow,h.mhigh,h.msub,fun t e he=>h.has t e (by rw[←e1];exact he),
   fun t c hc=>h.hasB t c (by rw[←e2];exact hc),fun t c hc=>h.own t c (by rw[←e2];exact hc),by rw[e2];exact h.apart⟩
 | cons i l ih=>
  intro listed a w h hlg
  rw[wpOps_cons]
  exact wpOp_mono (fun a w hm=>ih _ a w hm hlg.2) (S.step h hlg.1)
theorem ztx {id:Nat}{draw:Bool}(aux:List Aux)(hm:P.follows .mixedOrders=true)(hok:Yo n q ops aux=true)(hnd:(kvs.map (·.1)).Nodup)
  (hch:zZ P ops n q ops.toList aux L B m0 kvs (fun L' B'=>∀a w,Sat n F L' B' a w→Q .normal a w)) {a:Act} {w:World} (hs:Sat n F L B a w):
  (Code.region id ops draw).wp P Q a w:=by
 obtain⟨Es,Ws,hl,hl',hk,hall⟩:=zpm _ _ _ _ _ _ hch
 simp only[Array.length_toList,Array.toArray_toList]at hl hl' hk hall
 have S:GS P ops n q L B Es Ws aux m0 kvs:=⟨hok,hl,hl',hnd,fun i o ho=>hall i o (by simpa using ho)⟩
 have hedge:QB 0 ops.toList=true:=by
  simp only[Yo,Bool.and_eq_true,List.all_eq_true,List.mem_range]at hok
  have:=hok.1.1 0 (by omega)
  simp only[wfR,Bool.and_eq_true]at this
  exact this.1
 have on0:∀j,on (Array.replicate ops.size false) j=false:=by
  intro j
  unfold on
  rw[Array.getD_eq_getD_getElem?,Array.getElem?_replicate]
  split<;>rfl
 have skip0:∀t m,y8 ops Es L (on (Array.replicate ops.size false)) m t=zD L t:=by
  intro t m
  exact JS (i:=0) m (Nat.zero_le _) (fun j _ _ _=>on0 j)
 have skipB0:lkG ops q Ws B kvs m0 (on (Array.replicate ops.size false))=zk B:=by
  funext t
  exact QH (i:=0) ops.size (Nat.zero_le _) (fun j _ _ _=>on0 j)
 have mid:∀w',Ext w w'→QZ (lkG ops q Ws B kvs m0) ops Es L n F (Array.replicate ops.size false) a w':=by
  intro w' hx
  obtain⟨M,D,hs⟩:=hs
  refine⟨M,D,by simp,fun j hj=>absurd ((on0 j).symm.trans hj) (by simp),hs.size,hs.defers,hs.keeps.trans hx.keeps,hs.mf0,hs.mlow,hs.mhigh,
   hs.msub.ext hx,fun t e he=>?_,fun t c hc=>?_,fun t c hc=>hs.own t c (by rw[←skipB0];exact hc),by rw[skipB0];exact hs.apart⟩
  ·
   rw[skip0]at he
   obtain⟨v,h1,h2⟩:=hs.has t e he
   exact⟨v,h1,Ent.holds_ext hx h2⟩
  ·
   rw[skipB0]at hc
   have h2:=hs.hasB t c hc
   refine c.law M M (D t) _ w w' hx.keeps (fun _ h=>.inl h) (fun m hm=>?_) h2
   have hM:=c.inM _ _ _ _ h2 m hm
   exact⟨hM,hx.block m (hs.msub m hM) (fun f=>f)⟩
 cases draw with
 | false=>
  refine wp_region ?_
  rw[List.range_eq_range']
  exact S.legal hk _ _ _ _ (mid w (zx.refl _ _)) (zkY hedge _ 0 _ (by simp) (by simp) (by intro j;rw[on0];simp))
 | true=>
  refine wp_region_draw fun t=>?_
  have hsch:Region.schedule (P.follows .mixedOrders) ops t=Region.linearise .any ops t:=by
   simp[Region.schedule,hm]
  rw[hsch]
  exact S.legal hk _ _ _ _ (mid _ (Ext.drew w)) (zkX hedge _ _ _ (by simp) (by rw[zmm];simp))
theorem Cod.regionG {id:Nat}{l:List Oper}{draw:Bool}(q:Nat)(m0:GMap K V)(kvs:List (K×V))(aux:List Aux)(hm:P.follows .mixedOrders=true)(hok:Yo n q l.toArray aux=true)(hnd:(kvs.map (·.1)).Nodup)
  (h:zZ P l.toArray n q l aux L B m0 kvs (fun L' B'=>zb Q .normal n F L' B')):Cod P (.region id l.toArray draw) Q n F L B:=
 fun _ _ hs=>ztx aux hm hok hnd h hs
end
end Go.DB
namespace Go.DB
open Go Go.RowKit
theorem zsH {P:Program}{f T:Nat}{α:Type}[Rep α]{z:α}{cs:List Value}(ok:z8 P f)(hz:∀(M:zh) (w:World),Rep.cells M z cs w)
  (hc:∀w:World,Calls P f #[] w fun e w'=>e = .returned (.pointer (some ⟨w.heap.size,0,none⟩))∧w'=w.alloc (.cells cs.toArray T)):zS P f [] [] zV [some (zC T z)]:=by
 refine⟨ok,fun M D w vs hM ha hO=>?_⟩
 match vs,ha with
 | [],_=>
  refine Calls.mono (hc w) ?_
  rintro e w' ⟨rfl,rfl⟩
  refine⟨_,fun k=>M k∨k=w.heap.size,fun _ k=>k=w.heap.size,rfl,(Ext.alloc _ _).keeps,fun k h=>.inl (.inl h),fun k h=>h.imp id (fun e=>Nat.le_of_eq e.symm),fun k h=>?_,trivial,?_,?_⟩
  ·
   rw[jw]
   rcases h with h | h
   ·
    have:=hM.lt k h;omega
   ·
    omega
  ·
   intro i c hi
   match i,hi with
   | 0,hi=>
    simp only[List.getElem?_cons_zero,Option.some.injEq]at hi
    subst hi
    refine⟨⟨w.heap.size,cs,rfl,fun k=>Iff.rfl,.inr rfl,?_,hz _ _⟩,fun k hk=>.inr (Nat.le_of_eq (Eq.symm hk))⟩
    show(w.heap.push _)[w.heap.size]?=_
    rw[Array.getElem?_push_size]
  ·
   intro i j c c' hi hj hne
   match i,j,hi,hj with
   | 0,0,_,_=>exact absurd rfl hne
end Go.DB
namespace Go.DB
open Go Go.RowKit
def qq (T E:TypeId)(c:Str):zd where
 p:=fun M D v w=>∃(m:Nat) (p u:Value),v=ptr m 0∧(p = .pointer none∨p = .pointer (some ⟨m,0,none⟩))∧w.heap[m]?=some (.cells #[p,u] T (0,0))∧w.ownsRow 0 E 1 u c.b.length (Go.Lib.byteCells c.b)∧u.ownBlock≠some m∧
  (∀k,D k↔(k=m∨u.ownBlock=some k))∧∀k,D k→M k
 inM:=fun M D v w ⟨_,_,_,_,_,_,_,_,_,h⟩ k hk=>h k hk
 law:=fun M M' D v w w' hk hm hD ⟨m,p,u,h1,h2,h3,h4,h5,h6,h7⟩=>by
  refine⟨m,p,u,h1,h2,by rw[(hD m ((h6 m).2 (.inl rfl))).2];exact h3,⟨h4.1,?_⟩,h5,h6,fun k hk=>(hD k hk).1⟩
  rcases h4.2 with h | ⟨g,cap,cur,e1,e2,e3,e4⟩
  ·
   exact .inl h
  ·
   exact .inr ⟨g,cap,cur,e1,e2,by rw[(hD g ((h6 g).2 (.inr (by rw[e1];rfl)))).2];exact e3,e4⟩
theorem zrK {T E:TypeId}{c:Str}:zaj (qq T E c):=fun M D v w ⟨m,_,_,hv,_⟩=>⟨m,hv⟩
theorem zo0 {T E:TypeId}(M D:zh)(v:Value)(w:World)(h:(zC T ((⟨.pointer none⟩,⟨.slice none 0 0⟩):Raw×Raw)).p M D v w):(qq T E ⟨[]⟩).p M D v w:=by
 obtain⟨m,cs,h1,h2,h3,h4,h5⟩:=h
 have hcs:cs=[.pointer none,.slice none 0 0]:=by
  obtain⟨c1,c2,e,⟨g1,_⟩,g2,_⟩:=h5
  rw[e,g1,g2];rfl
 subst hcs
 exact⟨m,_,_,h1,.inl rfl,h4,World.ownsRow_nil _ _ _ _,by simp[Value.ownBlock],fun k=>by rw[h2];simp[Value.ownBlock],fun k hk=>by rw[(h2 k).1 hk];exact h3⟩
theorem zsW {T E:TypeId}{c:Str}{M D:zh}{w:World}{m:Nat}{p u:Value}(h3:w.heap[m]?=some (.cells #[p,u] T (0,0)))(h4:w.ownsRow 0 E 1 u c.b.length (Go.Lib.byteCells c.b))(h6:∀k,D k↔(k=m∨u.ownBlock=some k)):∀k,D k→k<w.heap.size:=fun k hk=>by
 rcases(h6 k).1 hk with rfl | h
 ·
  exact(Array.getElem?_eq_some_iff.1 h3).1
 ·
  exact(h4.lt k h).2
theorem ziJ {T E:TypeId}{M D0:zh}{D:Nat→zh}{w w':World}{m:Nat}{p u:Value}{c:Str}{S:zF}{v:Value}(hD0:∀k,DU D 1 k↔D0 k)(hM:∀k,M k→k<w.heap.size)(hDM:∀k,D0 k→M k)
  (hp:p = .pointer none∨p = .pointer (some ⟨m,0,none⟩)) (h3:w'.heap[m]?=some (.cells #[p,u] T (0,0))) (h4:w'.ownsRow 0 E 1 u c.b.length (Go.Lib.byteCells c.b)) (h5:u.ownBlock≠some m) (hm:D0 m)
  (hk:zx D0 w w') (hu:∀k,u.ownBlock=some k→D0 k∨w.heap.size≤k) (hS:∀M',S.p M' v w'):ji ⟨w,M,DU D 1⟩ S [ptr m 0] [some (qq T E c)] (.returned v) w':=by
 have hlt:=zsW (T:=T) (E:=E) (c:=c) (M:=M) (D:=fun k=>k=m∨u.ownBlock=some k) h3 h4 (fun k=>Iff.rfl)
 refine⟨v,fun k=>M k∨(k=m∨u.ownBlock=some k),fun _ k=>k=m∨u.ownBlock=some k,rfl,⟨hk.1,hk.2,hk.3,hk.4,fun k h1 h2=>hk.5 k h1 (fun h=>h2 ((hD0 k).2 h))⟩,fun k h=>.inl (.inl h),fun k h=>?_,fun k h=>?_,hS _,?_,?_⟩
 ·
  rcases h with h | rfl | h
  ·
   exact .inl h
  ·
   exact .inl (hDM _ hm)
  ·
   exact(hu k h).imp (fun h=>hDM _ h) id
 ·
  rcases h with h | h
  ·
   exact Nat.lt_of_lt_of_le (hM k h) hk.size
  ·
   exact hlt k h
 ·
  intro i c' hc
  match i,hc with
  | 0,hc=>
   simp only[List.getElem?_cons_zero,Option.some.injEq]at hc
   subst hc
   refine⟨⟨m,p,u,rfl,hp,h3,h4,h5,fun k=>Iff.rfl,fun k hk=>.inr hk⟩,fun k hk=>?_⟩
   rcases hk with rfl | h
   ·
    exact .inl ((hD0 _).2 hm)
   ·
    exact(hu k h).imp (fun h=>(hD0 _).2 h) id
 ·
  intro i j c c' hi hj hne
  match i,j,hi,hj with
  | 0,0,_,_=>omega
theorem ztT {P:Program}(w:World)(t u ty e:TypeId)(i:TypeInfo)(ht:P.underlying t=some (.slice e))(hu:P.underlying u=some .string)(hi:P.info? e=some i)(hz:i.zero=some (.int .u8 0))(hsize:i.size=1)(hby:i.bytes=1)
  (v:Value) (n:Nat) (xs:List Value) (hown:w.ownsRow 0 e 1 v n xs) (s:ByteArray) (hb:n+s.size≤70368744177664):
  ∃v' w',(Builtin.append_ #[t,u] ty #[v,.string s]).run P w = .ok v' w'∧w'.ownsRow 0 e 1 v' (n+s.size) (xs++Go.Lib.strCells s)∧w.grownBy w' v.ownBlock∧∀k,v'.ownBlock=some k→v.ownBlock=some k∨w.heap.size≤k:=by
 have h1:n+s.size≤maxLen:=by unfold maxLen;omega
 obtain⟨v',w',g1,g2,g3,_⟩:=Go.Lib.run_append_own_string (P:=P) w 0 t u ty e i ht hu hi hz hsize hby v n xs hown s h1 (by omega) (Nat.zero_le _)
 refine⟨v',w',g1,g2,g3,fun k hk=>?_⟩
 rcases hown.2 with⟨rfl,rfl⟩ | ⟨g,cap,cur,rfl,f1,f2,f3,f4,f5,f6⟩
 ·
  obtain⟨v2,w2,q1,q2,_,_⟩:=Go.Lib.run_append_own_string (P:=P) w w.heap.size t u ty e i ht hu hi hz hsize hby _ 0 xs ⟨hown.1,.inl ⟨rfl,rfl⟩⟩ s h1 (by omega) (Nat.le_refl _)
  rw[g1]at q1
  obtain⟨rfl,rfl⟩:=Result.ok.inj q1
  exact .inr (q2.lt k hk).1
 ·
  have hxl:xs.length=n*1:=hown.1
  by_cases hr:n+s.size≤cap
  ·
   have:=Go.Lib.run_append_room_string (P:=P) w t u ty e i ht hu hi hsize g n cap cur f2 s hr (by omega)
   rw[g1]at this
   obtain⟨rfl,_⟩:=Result.ok.inj this
   left
   rw[←hk];rfl
  ·
   have:=Go.Lib.run_append_grow_string (P:=P) w t u ty e i (.int .u8 0) ht hu hi hz ⟨g,0,none⟩ n cap xs (by rw[hsize];exact hxl) (hown.cells (g:=g) rfl) s (by omega) (by omega) (by rw[hby];exact growslice_fits (by omega) (by omega))
   rw[g1]at this
   obtain⟨rfl,_⟩:=Result.ok.inj this
   right
   have:w.heap.size=k:=by simpa [Value.ownBlock]using hk
   omega
theorem zv9 {P:Program}{w:World}{ops:Array Oper}{rest:List Oper}{o:Oper}{a:Act}{Q:Exit→Act→World→Prop}(hgd:o.guard=none)(sl x:Operand)(t u:TypeId)(ho:o.op = .call { callee:=.builtin .append,args:=#[sl,x],argTypes:=#[t,u] })
  (e:TypeId) (i:TypeInfo) (ht:P.underlying t=some (.slice e)) (hu:P.underlying u=some .string) (hi:P.info? e=some i) (hz:i.zero=some (.int .u8 0)) (hsize:i.size=1) (hby:i.bytes=1)
  (v:Value) (n:Nat) (xs:List Value) (hs:a.eval sl=v) (hown:w.ownsRow 0 e 1 v n xs) (s:ByteArray) (hx:a.eval x = .string s) (hb:n+s.size≤70368744177664)
  (h:∀v' w',w'.ownsRow 0 e 1 v' (n+s.size) (xs++Go.Lib.strCells s)→w.grownBy w' v.ownBlock→(∀k,v'.ownBlock=some k→v.ownBlock=some k∨w.heap.size≤k)→wpList P ops Q rest (a.put o.dst v') w'):wpList P ops Q (o::rest) a w:=by
 refine wpList_plain hgd fun K hK=>?_
 obtain⟨v',w',g1,g2,g3,g4⟩:=ztT (P:=P) w t u o.type e i ht hu hi hz hsize hby v n xs hown s hb
 have hr:(execOp a.eval o).run P w = .ok (.value v') w':=by
  unfold execOp
  simp only[ho,resolve,invoke,builtin,Sem.run_bind,Sem.run_pure,Result.andThen_ok,List.map_toArray,List.map_cons,List.map_nil,hs,hx,g1]
 unfold Oper.wp
 rw[hr]
 exact hK _ _ (h v' w' g2 g3 g4)
def znT (P:Program)(f T:Nat):Prop:=∀(m:Nat) (p u:Value) (w:World),(p = .pointer none∨p = .pointer (some ⟨m,0,none⟩))→w.heap[m]?=some (.cells #[p,u] T (0,0))→
 Calls P f #[.pointer (some ⟨m,0,none⟩)] w fun e w'=>e = .returned (.tuple #[])∧w'.heap[m]?=some (.cells #[.pointer (some ⟨m,0,none⟩),u] T (0,0))∧w'.os=w.os∧w'.tape=w.tape∧w'.output=w.output∧w'.heap.size=w.heap.size∧∀k,k≠m→w'.heap[k]?=w.heap[k]?
def zix (T E m:Nat)(u:Value)(c s:List UInt8)(w:World)(e:Ending)(w':World):Prop:=e = .returned (.tuple #[.int .i64 s.length,.nilIface])∧∃u',w'.heap[m]?=some (.cells #[.pointer (some ⟨m,0,none⟩),u'] T (0,0))∧
 w'.ownsRow 0 E 1 u' (c++s).length (Go.Lib.byteCells (c++s))∧u'.ownBlock≠some m∧(∀k,u'.ownBlock=some k→u.ownBlock=some k∨w.heap.size≤k)∧
 w'.os=w.os∧w'.tape=w.tape∧w'.output=w.output∧w.heap.size≤w'.heap.size∧∀k,k<w.heap.size→k≠m→u.ownBlock≠some k→w'.heap[k]?=w.heap[k]?
def ziz (P:Program)(f T E:Nat):Prop:=∀(m:Nat) (p u:Value) (c s:List UInt8) (w:World),(p = .pointer none∨p = .pointer (some ⟨m,0,none⟩))→w.heap[m]?=some (.cells #[p,u] T (0,0))→
 w.ownsRow 0 E 1 u c.length (Go.Lib.byteCells c)→u.ownBlock≠some m→c.length+s.length≤70368744177664→Calls P f #[.pointer (some ⟨m,0,none⟩),.string ⟨s.toArray⟩] w (zix T E m u c s w)
theorem zsY {T E m:Nat}{u:Value}{n:Nat}{xs:List Value}{w w1:World}(h4:w.ownsRow 0 E 1 u n xs)(h5:u.ownBlock≠some m)(g6:∀k,k≠m→w1.heap[k]?=w.heap[k]?):w1.ownsRow 0 E 1 u n xs:=by
 refine⟨h4.1,?_⟩
 rcases h4.2 with h | ⟨g,cap,cur,f1,f2,f3,f4⟩
 ·
  exact .inl h
 ·
  refine .inr ⟨g,cap,cur,f1,f2,?_,f4⟩
  rw[g6 g (fun e=>h5 (by rw[f1,e];rfl))];exact f3
theorem zsX {E n:Nat}{v:Value}{xs:List Value}{w:World}(h:w.ownsRow 0 E 1 v n xs):∃ao n' cap,v = .slice ao n' cap:=by
 rcases h.2 with⟨hv,_⟩ | ⟨g,cap,cur,hv,_⟩
 ·
  exact⟨_,_,_,hv⟩
 ·
  exact⟨_,_,_,hv⟩
theorem zwb {T E m:Nat}{p u:Value}{c s:List UInt8}{w w1 w2:World}{ao:Option Addr}{n' cap:Nat}(hne0:T≠E)(h3:w.heap[m]?=some (.cells #[p,u] T (0,0)))(h5:u.ownBlock≠some m)(g2:w1.os=w.os)(g3:w1.tape=w.tape)(g4:w1.output=w.output)(g5:w1.heap.size=w.heap.size)(g6:∀k,k≠m→w1.heap[k]?=w.heap[k]?)
  (hm2:w2.heap[m]?=some (.cells #[.pointer (some ⟨m,0,none⟩),u] T (0,0))) (hown2:w2.ownsRow 0 E 1 (.slice ao n' cap) (c.length+(ByteArray.mk s.toArray).size) (Go.Lib.byteCells c++Go.Lib.strCells ⟨s.toArray⟩)) (hgrow:w1.grownBy w2 u.ownBlock)
  (hwhere:∀k,(Value.slice ao n' cap).ownBlock=some k→u.ownBlock=some k∨w.heap.size≤k):zix T E m u c s w (.returned (.tuple #[.int .i64 s.length,.nilIface])) (w2.setCell ⟨m,1,none⟩ (.slice ao n' cap)):=by
 have hm:=(Array.getElem?_eq_some_iff.1 h3).1
 have hne:(Value.slice ao n' cap).ownBlock≠some m:=fun e=>by
  rcases hown2.2 with⟨hv,_⟩ | ⟨g,cap,cur,hv,_,hg,_⟩
  ·
   rw[hv]at e;cases e
  ·
   rw[hv]at e
   have:g=m:=by simpa [Value.ownBlock]using e
   rw[this,hm2]at hg
   simp only[Option.some.injEq,Obj.cells.injEq]at hg
   exact hne0 hg.2.1
 refine⟨rfl,.slice ao n' cap,?_,?_,hne,?_,?_⟩
 ·
  simp[World.setCell,Array.getElem?_modify,hm2]
 ·
  have hcl:(c++s).length=c.length+(ByteArray.mk s.toArray).size:=by rw[List.length_append];rfl
  have hbc:Go.Lib.byteCells (c++s)=Go.Lib.byteCells c++Go.Lib.strCells ⟨s.toArray⟩:=by rw[Go.Lib.byteCells_append];rfl
  rw[hcl,hbc]
  refine⟨hown2.1,?_⟩
  rcases hown2.2 with h | ⟨g,cap',cur,q1,q2,q3,q4⟩
  ·
   exact .inl h
  ·
   refine .inr ⟨g,cap',cur,q1,q2,?_,q4⟩
   simp only[World.setCell,Array.getElem?_modify]
   rw[if_neg (fun e=>hne (by rw[q1,e];rfl))];exact q3
 ·
  exact hwhere
 ·
  refine⟨?_,?_,?_,?_,fun k hk hkm hku=>?_⟩
  ·
   show w2.os=w.os;rw[hgrow.os,g2]
  ·
   show w2.tape=w.tape;rw[hgrow.tape,g3]
  ·
   show w2.output=w.output;rw[hgrow.output,g4]
  ·
   have:=hgrow.size;simp[World.setCell];omega
  ·
   simp only[World.setCell,Array.getElem?_modify]
   rw[if_neg (Ne.symm hkm),hgrow.block k (by omega) (fun e=>hku e.symm),g6 k hkm]
section
open Go.Proofs Go.Shelf
variable {P:Program} {ρ:Ren}
set_option maxHeartbeats 1000000 in
set_option maxRecDepth 100000 in
theorem zpe (L:Lays.n169 P ρ)(X:Builder.Extra P ρ){m:Nat}{p u:Value}{c:List UInt8}{w:World}(h3:w.heap[m]?=some (.cells #[p,u] (ρ.t 72) (0,0)))(h4:w.ownsRow 0 (ρ.t 5) 1 u c.length (Go.Lib.byteCells c)):
  Calls P (ρ.f 169) #[.pointer (some ⟨m,0,none⟩)] w fun e w'=>e = .returned (.string ⟨c.toArray⟩)∧w'.os=w.os∧w'.tape=w.tape∧w'.output=w.output∧w.heap.size≤w'.heap.size∧∀k,k<w.heap.size→u.ownBlock≠some k→w'.heap[k]?=w.heap[k]?:=by
 have below:∀{e:Ending} {w':World},e = .returned (.string ⟨#[]⟩)∧Below w.heap.size w w'→e = .returned (.string ⟨([]:List UInt8).toArray⟩)∧w'.os=w.os∧w'.tape=w.tape∧w'.output=w.output∧w.heap.size≤w'.heap.size∧∀k,k<w.heap.size→u.ownBlock≠some k→w'.heap[k]?=w.heap[k]?:=
  fun⟨h1,hb⟩=>⟨h1,hb.os,hb.tape,hb.output,hb.size,fun k hk _=>hb.block k hk⟩
 rcases h4.2 with⟨rfl,hz⟩ | ⟨g,cap,cur,rfl,f1,f2,f3,f4,f5,f6⟩
 ·
  obtain rfl:c=[]:=List.eq_nil_of_length_eq_zero hz
  exact Calls.mono (Any.Builder_String_nil L X w.heap.size m p w h3) fun e w' h=>below h
 by_cases hc0:c=[]
 ·
  subst hc0
  by_cases hcap:cap=0
  ·
   subst hcap
   exact Calls.mono (Any.Builder_String_noroom L X w.heap.size m g p cur w (Nat.le_refl _) h3 f2) fun e w' h=>below h
  ·
   exact Calls.mono (Any.Builder_String_room L X w.heap.size m g cap p w hcap h3) fun e w' h=>below h
 ·
  have hl0:c.length≠0:=by simpa using hc0
  have c1:w.drew.cell? ⟨m,1,none⟩=some (.slice (some ⟨g,0,none⟩) c.length cap):=by
   have:w.drew.heap[m]?=some (.cells #[p,.slice (some ⟨g,0,none⟩) c.length cap] (ρ.t 72) (0,0)):=h3
   rw[Go.DB.cell_of_heap this];rfl
  have hSD:(Builtin.unsafeSliceData_ #[(ρ.t 37)] (ρ.t 127) #[.slice (some ⟨g,0,none⟩) c.length cap]).run P w.drew = .ok (.pointer (some ⟨g,0,none⟩)) w.drew:=
   Go.Lib.run_unsafeSliceData_row _ _ _ _ _ _ (by omega)
  have hUS:(Builtin.unsafeString_ #[(ρ.t 127),(ρ.t 3)] (ρ.t 9) #[.pointer (some ⟨g,0,none⟩),.int .i64 c.length]).run P w.drew = .ok (.string ⟨c.toArray⟩) (w.drew.freeze ⟨g,0,none⟩ c.length):=
   Go.Lib.run_unsafeString_row w.drew (ρ.t 127) (ρ.t 3) (ρ.t 9) (ρ.t 5) L.t127 X.cellsByte g cur.size (by have:w.drew.heap[g]?=some (.cells cur (ρ.t 5) (0,0)):=f2;simp[World.shape?,this]) c hc0 (by omega) (by unfold maxLen at f4;omega)
    (fun j x hx=>h4.cells (g:=g) rfl j (.int .u8 x.toNat) (by simp[Go.Lib.byteCells,hx]))
  have hfr:∀k,(Value.slice (some ⟨g,0,none⟩) c.length cap).ownBlock≠some k→(w.drew.freeze ⟨g,0,none⟩ c.length).heap[k]?=w.heap[k]?:=fun k hk=>by
   unfold World.freeze
   rw[if_neg hl0]
   simp only[Array.getElem?_modify]
   rw[if_neg (fun e=>hk (by rw[←e];rfl))]
   rfl
  have hsz:(w.drew.freeze ⟨g,0,none⟩ c.length).heap.size=w.heap.size:=by
   unfold World.freeze
   rw[if_neg hl0]
   simp only[Array.size_modify];rfl
  have hrest:(w.drew.freeze ⟨g,0,none⟩ c.length).os=w.os∧(w.drew.freeze ⟨g,0,none⟩ c.length).tape=w.tape∧(w.drew.freeze ⟨g,0,none⟩ c.length).output=w.output:=by
   unfold World.freeze
   rw[if_neg hl0]
   exact⟨rfl,rfl,rfl⟩
  have mixed:=L.mixed
  have t72:=L.t72;have a72:=L.a72;have z72:=L.z72;have v72:=L.v72;have u72:=run_underlying L.t72
  have t70:=L.t70;have a70:=L.a70;have z70:=L.z70;have v70:=L.v70;have u70:=run_underlying L.t70
  have t37:=L.t37;have a37:=L.a37;have z37:=L.z37;have v37:=L.v37;have u37:=run_underlying L.t37
  have t127:=L.t127;have a127:=L.a127;have z127:=L.z127;have v127:=L.v127;have u127:=run_underlying L.t127
  have t3:=L.t3;have a3:=L.a3;have z3:=L.z3;have v3:=L.v3;have u3:=run_underlying L.t3
  have t9:=L.t9;have a9:=L.a9;have z9:=L.z9;have v9:=L.v9;have u9:=run_underlying L.t9
  have t5:=X.t5;have a5:=X.a5;have z5:=X.z5;have v5:=X.v5;have u5:=run_underlying X.t5
  go_enter L.f169,Body.n169_ntmps ρ
  go_wp2
  go_region_o
  all_goals (go_wp2;go_ret;exact⟨rfl,hrest.1,hrest.2.1,hrest.2.2,by rw[hsz];exact Nat.le_refl _,fun k _ hk=>hfr k hk⟩)
theorem zf0 {D:Nat→zh}(k:Nat):DU D 1 k↔D 0 k:=by
 constructor
 ·
  rintro⟨i,hi,h⟩
  obtain rfl:i=0:=by omega
  exact h
 ·
  exact fun h=>⟨0,by omega,h⟩
theorem zg4 {m m':Nat}(h:ptr m 0=ptr m' 0):m=m':=by
 unfold ptr at h
 simpa using h
theorem zoZ {f T E:Nat}(W:ziz P f T E)(ok:z8 P f){m:Nat}{c s:Str}(hl:c.b.length+s.b.length≤70368744177664):
  zS P f [isV (ptr m 0),rep s] [(ptr m 0,qq T E c)] zV [some (qq T E ⟨c.b++s.b⟩)]:=by
 refine⟨ok,fun M D w vs hM ha hO=>?_⟩
 match vs,ha with
 | [v,x],⟨hv,hx,_⟩=>
  obtain⟨rfl,_⟩:=ya.1 hv
  obtain⟨rfl,_⟩:=yC.1 hx
  obtain⟨m',p,u,e,hp,h3,h4,h5,h6,h7⟩:=hO.has 0 (ptr m 0) _ rfl
  obtain rfl:=zg4 e
  refine Calls.mono (W m p u c.b s.b w hp h3 h4 h5 hl) ?_
  rintro e w' ⟨rfl,u',g1,g2,g3,g4,k1,k2,k3,k4,k5⟩
  exact ziJ (D0:=D 0) (c:=⟨c.b++s.b⟩) (fun k=>zf0 k) (fun k hk=>hM.lt k hk) h7 (.inr rfl) g1 g2 g3 ((h6 m).2 (.inl rfl)) ⟨k1,k2,k3,k4,fun k hk hn=>k5 k hk (fun e=>hn ((h6 k).2 (.inl e))) (fun e=>hn ((h6 k).2 (.inr e)))⟩
   (fun k hk=>(g4 k hk).imp (fun h=>(h6 k).2 (.inr h)) id) (fun _=>trivial)
theorem zoY (L:Lays.n169 P ρ)(X:Builder.Extra P ρ){f T E:Nat}(hf:ρ.f 169=f)(hT:ρ.t 72=T)(hE:ρ.t 5=E)(ok:z8 P f){m:Nat}{c:Str}(hl:c.b.length≤70368744177664):
  zS P f [isV (ptr m 0)] [(ptr m 0,qq T E c)] (rep c) [none]:=by
 refine⟨ok,fun M D w vs hM ha hO=>?_⟩
 match vs,ha with
 | [v],⟨hv,_⟩=>
  obtain⟨rfl,_⟩:=ya.1 hv
  obtain⟨m',p,u,e,hp,h3,h4,h5,h6,h7⟩:=hO.has 0 (ptr m 0) _ rfl
  obtain rfl:=zg4 e
  subst hf hT hE
  refine Calls.mono (zpe L X h3 h4) ?_
  rintro e w' ⟨rfl,k1,k2,k3,k4,k5⟩
  refine⟨_,M,fun _ _=>False,rfl,⟨k1,k2,k3,k4,fun k hk hn=>k5 k hk (fun e=>hn ((zf0 k).2 ((h6 k).2 (.inr e))))⟩,fun k h=>.inl h,fun k h=>.inl h,fun k h=>Nat.lt_of_lt_of_le (hM.lt k h) k4,yC.2 ⟨rfl,by omega⟩,?_,?_⟩
  ·
   intro i c' hc
   match i,hc with
   | 0,hc=>cases hc
  ·
   intro i j c c' hi hj hne
   match i,j,hi,hj with
   | 0,0,_,_=>omega
theorem zoV (L:Lays.n170 P ρ){f T E:Nat}(hf:ρ.f 170=f)(hT:ρ.t 72=T)(hE:ρ.t 5=E)(ok:z8 P f){m:Nat}{c:Str}(hl:c.b.length≤70368744177664):
  zS P f [isV (ptr m 0)] [(ptr m 0,qq T E c)] (rep (c.b.length:Int)) [some (qq T E c)]:=by
 refine⟨ok,fun M D w vs hM ha hO=>?_⟩
 match vs,ha with
 | [v],⟨hv,_⟩=>
  obtain⟨rfl,_⟩:=ya.1 hv
  obtain⟨m',p,u,e,hp,h3,h4,h5,h6,h7⟩:=hO.has 0 (ptr m 0) _ rfl
  obtain rfl:=zg4 e
  subst hf hT hE
  have hB:Go.Lib.IsBuilder (ρ.t 72) (ρ.t 5) 0 m (Go.Lib.byteCells c.b) w:=by
   have hAt:Go.Lib.BuilderAt (ρ.t 72) (ρ.t 5) 0 m p (Go.Lib.byteCells c.b) w:=⟨Nat.zero_le _,u,h3,by rw[Go.Lib.byteCells_length];exact h4,h5⟩
   rcases hp with rfl | rfl
   ·
    exact .inl hAt
   ·
    exact .inr hAt
  refine Calls.mono (Any.Builder_Len L 0 m _ w hB) ?_
  rintro e w' ⟨rfl,rfl⟩
  rw[Go.Lib.byteCells_length]
  refine ziJ (D0:=D 0) (c:=c) (fun k=>zf0 k) (fun k hk=>hM.lt k hk) h7 hp h3 h4 h5 ((h6 m).2 (.inl rfl)) (zx.refl _ _) (fun k hk=>.inl ((h6 k).2 (.inr hk))) (fun _=>yz.2 ⟨rfl,?_⟩)
  unfold InI;omega
end
end Go.DB
namespace Go.DB
open Go Go.RowKit
def jU (b:UInt8):List UInt8:=if b=10 then [92,110]else if b=34 then [92,34]else if b=92 then [92,92]else [b]
def yw:List UInt8→List UInt8
 | []=>[]
 | b::l=>jU b++yw l
def jX (b:UInt8):Bool:=b==10 || b==34 || b==92
theorem zgb:∀(a b:List UInt8),yw (a++b)=yw a++yw b
 | [],_=>rfl
 | x::a,b=>by rw[List.cons_append,yw,yw,zgb a b,List.append_assoc]
theorem zqp (b:UInt8):(jU b).length=if jX b then 2 else 1:=by
 unfold jU jX
 by_cases h1:b=10
 ·
  subst h1;rfl
 ·
  by_cases h2:b=34
  ·
   subst h2;rfl
  ·
   by_cases h3:b=92
   ·
    subst h3;rfl
   ·
    simp[h1,h2,h3]
theorem zga {b:UInt8}(h:jX b=false):jU b=[b]:=by
 unfold jX at h
 unfold jU
 simp only[Bool.or_eq_false_iff,beq_eq_false_iff_ne]at h
 rw[if_neg h.1.1,if_neg h.1.2,if_neg h.2]
def qx (l:List UInt8):Nat:=l.countP jX
theorem zbZ:∀(l:List UInt8),(yw l).length=l.length+qx l
 | []=>rfl
 | b::l=>by
  rw[yw,List.length_append,zqp,zbZ l]
  unfold qx
  rw[List.countP_cons,List.length_cons]
  split<;>omega
theorem zgc:∀{l:List UInt8},qx l=0→yw l=l
 | [],_=>rfl
 | b::l,h=>by
  unfold qx at h
  rw[List.countP_cons]at h
  cases hb:jX b with
  | true=>rw[hb]at h;simp at h
  | false=>
   rw[hb]at h
   rw[yw,zga hb,zgc (by unfold qx;simpa using h)];rfl
theorem zjH:∀(l:List UInt8),qx l=l.count 10+l.count 34+l.count 92
 | []=>rfl
 | b::l=>by
  have ih:=zjH l
  unfold qx at *
  rw[List.countP_cons,ih]
  unfold jX
  by_cases h1:b=10
  ·
   subst h1;simp;omega
  ·
   by_cases h2:b=34
   ·
    subst h2;simp;omega
   ·
    by_cases h3:b=92
    ·
     subst h3;simp;omega
    ·
     simp[h1,h2,h3]
def j7 (s:Str):Str:=⟨34::(yw s.b++[34])⟩
theorem zlT (s:Str):(j7 s).b.length≤2*s.b.length+2:=by
 unfold j7
 simp only[List.length_cons,List.length_append,zbZ]
 have:qx s.b≤s.b.length:=List.countP_le_length
 simp;omega
theorem ztm {P:Program}{f:Nat}(ok:z8 P f){s:Str}(h:∀w:World,Calls P f #[.string ⟨s.b.toArray⟩] w fun e w'=>e = .returned (.string ⟨(34::(yw s.b++[34])).toArray⟩)∧Below w.heap.size w w')(hn:s.b.length≤4294967296:=by assumption):zr P f [rep s] (rep (j7 s)):=by
 refine⟨ok,fun M w vs hM ha=>?_⟩
 match vs,ha with
 | [v],⟨hv,_⟩=>
  obtain⟨rfl,_⟩:=yC.1 hv
  refine Calls.mono (h w) ?_
  rintro e w' ⟨rfl,hB⟩
  exact⟨Ext.of_below hB,_,rfl,yC.2 ⟨rfl,by have:=zlT s;omega⟩⟩
end Go.DB
namespace Go.DB
open Go Go.RowKit
def zaO (l:List Str)(sep:Str):Str:=⟨Go.Lib.join (l.map (·.b)) sep.b⟩
theorem zrZ {P:Program}{ρ:Shelf.Ren}(Ly:Proofs.Lays.n156 P ρ)(X:Proofs.Builder.Extra P ρ){f:Nat}(hf:ρ.f 156=f)(ok:z8 P f){l:List Str}{sep:Str}(hl:l.length≤1000000000∧(zaO l sep).b.length≤1000000000):
  zr P f [rep l,rep sep] (rep (zaO l sep)):=by
 refine⟨ok,fun M w vs hM ha=>?_⟩
 match vs,ha with
 | [v,u],⟨hv,hu,_⟩=>
  obtain⟨a,cap,rfl,h1,h2,h3⟩:=Yq.1 hv
  obtain⟨rfl,_⟩:=yC.1 hu
  subst hf
  cases l with
  | nil=>
   refine Calls.mono (Proofs.Any.strings_Join_none Ly X a cap _ w) ?_
   rintro e w' ⟨rfl,rfl⟩
   exact⟨zx.refl _ _,_,rfl,yC.2 ⟨rfl,by show([]:List UInt8).length≤_;decide⟩⟩
  | cons x l=>
   cases a with
   | none=>exact absurd h3 (by simp[j9])
   | some ad=>
    obtain⟨b,off,sp⟩:=ad
    obtain⟨hsp,_,hb,_⟩:=h3 0 (by simp)
    simp only at hsp hb
    subst hsp
    have e0:((x::l).map (fun y=>ByteArray.mk y.b.toArray)).map (·.data.toList)=(x::l).map (·.b):=by rw[List.map_map];rfl
    have c:=Proofs.Any.strings_Join Ly X b off cap ((x::l).map (fun y=>ByteArray.mk y.b.toArray)) (ByteArray.mk sep.b.toArray) w (fun j y hj=>by
     rw[List.getElem?_map]at hj
     obtain⟨z,hz,rfl⟩:=Option.map_eq_some_iff.1 hj
     obtain⟨hlt,rfl⟩:=List.getElem?_eq_some_iff.1 hz
     obtain⟨_,_,_,cs,⟨hc,_⟩,hr⟩:=h3 j hlt
     have:=hr 0 (by decide)
     simp only[Rep.sz,Nat.mul_one,Nat.add_zero]at this
     rw[this,hc];rfl) hb (by rw[List.length_map];have:=hl.1;omega) (by rw[List.length_map];exact h1) (by rw[e0];have:=hl.2;exact Nat.le_trans this (by decide))
    rw[e0,List.length_map]at c
    refine Calls.mono c ?_
    rintro e w' ⟨rfl,hb⟩
    exact⟨⟨hb.os,hb.tape,hb.output,hb.size,fun k h1 _=>hb.block k h1⟩,_,rfl,yC.2 ⟨rfl,Nat.le_trans hl.2 (by decide)⟩⟩
end Go.DB
namespace Go.DB
open Go Go.RowKit
def yf (n:Int):Str:=⟨Go.Lib.itoa n⟩
theorem zrP {P:Program}{ρ:Shelf.Ren}(Ly:Proofs.LaysM.n171 P ρ)(h17:ρ.g 17=vi){f:Nat}(hf:ρ.f 171=f)(ok:z8 P f){n:Int}(hl:(yf n).b.length≤1000000):
  zr P f [rep n] (rep (yf n)):=by
 refine⟨ok,fun M w vs hM ha=>?_⟩
 match vs,ha with
 | [u],⟨hu,_⟩=>
  obtain⟨rfl,hn⟩:=yz.1 hu
  subst hf
  refine Calls.mono (Proofs.Any.strconv_Itoa Ly n hn.1 hn.2 w (hM.glob.pow (h17▸Ly.m17))) ?_
  rintro e' w' ⟨rfl,k,os,rfl⟩
  have hb:=Go.Lib.below_grow w.heap.size w (Nat.le_refl _) k os
  exact⟨⟨hb.os,hb.tape,hb.output,hb.size,fun k h1 _=>hb.block k h1⟩,_,rfl,yC.2 ⟨rfl,Nat.le_trans hl (by decide)⟩⟩
end Go.DB
namespace Go.DB
open Go Go.RowKit
def trimS (s cs:Str):Str:=⟨Go.Lib.trimS s.b cs.b⟩
theorem zvW {P:Program}{ρ:Shelf.Ren}(Ly:Proofs.Lays.n160 P ρ)(h116:(P.info? (ρ.t 116)).map (fun i=>(i.zero,i.size))=some (some (.agg (Array.replicate 256 (.bool false))),256)){f:Nat}(hf:ρ.f 160=f)(ok:z8 P f)
  {s cs:Str} (hs:(cs.b.length:Int)<4294967281∧cs.b.all (fun b=>decide (b.toNat<128))=true):zr P f [rep s,rep cs] (rep (trimS s cs)):=by
 refine⟨ok,fun M w vs hM ha=>?_⟩
 match vs,ha with
 | [v,u],⟨hv,hu,_⟩=>
  obtain⟨rfl,hs1⟩:=yC.1 hv
  obtain⟨rfl,_⟩:=yC.1 hu
  subst hf
  have hz2:(ByteArray.mk cs.b.toArray).size=cs.b.length:=rfl
  have hz1:(ByteArray.mk s.b.toArray).size=s.b.length:=rfl
  refine Calls.mono (Proofs.Any.strings_Trim_laid Ly h116 (ByteArray.mk s.b.toArray) (ByteArray.mk cs.b.toArray) w (by omega) (by have:=hs.1;omega) (by
   have:=Proofs.ascii_of_all hs.2
   simpa using this)) ?_
  rintro e w' ⟨rfl,hb⟩
  have hle:∀(l c:List UInt8),(Go.Lib.trimS l c).length≤l.length:=fun l c=>by
   have h1:∀(l:List UInt8),(Go.Lib.trimLeftS l c).length≤l.length:=fun l=>(List.dropWhile_suffix _).length_le
   refine Nat.le_trans (h1 _) ?_
   unfold Go.Lib.trimRightS
   simp only[List.length_reverse]
   exact Nat.le_trans (List.dropWhile_suffix _).length_le (by simp)
  refine⟨⟨hb.os,hb.tape,hb.output,hb.size,fun k h1 _=>hb.block k h1⟩,_,rfl,yC.2 ⟨?_,?_⟩⟩
  ·
   simp[trimS,yE]
  ·
   have:=hle s.b cs.b
   show(Go.Lib.trimS s.b cs.b).length≤_
   omega
end Go.DB
namespace Go.DB
open Go Go.RowKit
def Yy (s:Str):Bool:=Go.Lib.validD s.b
theorem zv6 {P:Program}{ρ:Shelf.Ren}(Ly:Proofs.Lays.n196 P ρ){f:Nat}(hf:ρ.f 196=f)(h3:ρ.g 3=zaG)(h4:ρ.g 4=JH)(ok:z8 P f){s:Str}:zr P f [rep s] (rep (Yy s)):=by
 refine⟨ok,fun M w vs hM ha=>?_⟩
 match vs,ha with
 | [v],⟨hv,_⟩=>
  obtain⟨rfl,hs⟩:=yC.1 hv
  subst hf
  have hT:Go.Lib.Utf8Tabs (ρ.g 3) (ρ.g 4) w:=by rw[h3,h4];exact hM.glob.tabs
  refine Calls.mono (Proofs.Any.utf8_ValidString Ly (ByteArray.mk s.b.toArray) w hs hT) ?_
  rintro e w' ⟨rfl,hb⟩
  exact⟨Ext.of_below hb,_,rfl,yS.2 rfl⟩
end Go.DB
namespace Go.DB
open Go Go.RowKit
end Go.DB
namespace Go.DB
open Go Go.RowKit
end Go.DB
namespace Go.DB
open Go Go.RowKit
def zbH (s:Str):Int×Yz:=match Go.Lib.atoiAll s.b with
 | .ok v=>(v,⟨false⟩)
 | Go.Lib.NumEnd.syntax=>(0,⟨true⟩)
 | .range=>(Go.Lib.atoiSat s.b,⟨true⟩)
theorem zoI {P:Program}{ρ:Shelf.Ren}(Ly:Proofs.LaysC.n172 P ρ)(h15:ρ.g 15=zaI)(h16:ρ.g 16=zaH){f:Nat}(hf:ρ.f 172=f)(ok:z8 P f){s:Str}(hl:s.b.length≤4294967281):
  zr P f [rep s] (zfl (zbH s)):=by
 refine⟨ok,fun M w vs hM ha=>?_⟩
 match vs,ha with
 | [u],⟨hu,_⟩=>
  obtain⟨rfl,hn⟩:=yC.1 hu
  subst hf
  have z1:(ByteArray.mk s.b.toArray).size=s.b.length:=rfl
  have e0:(ByteArray.mk s.b.toArray).data.toList=s.b:=rfl
  have herr:=hM.glob.errs
  rw[←h15,←h16]at herr
  obtain⟨⟨t1,p1,k1⟩,t2,p2,k2⟩:=herr
  unfold zbH
  rcases h:Go.Lib.atoiAll s.b with v | _ | _
  ·
   skip
   obtain⟨b0,b1⟩:=Go.Lib.atoiAll_bounds h
   refine Calls.mono (Proofs.Any.strconv_Atoi_ok Ly (ByteArray.mk s.b.toArray) (by omega) v h w) ?_
   rintro e w' ⟨rfl,hw⟩
   have hb:Below w.heap.size w w':=by
    rcases hw with rfl | ⟨t,rfl⟩
    ·
     exact Below.refl _ _
    ·
     exact Go.Lib.bytesWorld_below _ _ _
   exact⟨⟨hb.os,hb.tape,hb.output,hb.size,fun k h1 _=>hb.block k h1⟩,_,rfl,zbv (yz.2 ⟨rfl,by show InI v;exact⟨by omega,by omega⟩⟩) (zeV.2 (.inl ⟨rfl,rfl⟩))⟩
  ·
   skip
   refine Calls.mono (Proofs.Any.strconv_Atoi_syntax Ly (ByteArray.mk s.b.toArray) (by omega) h _ w k1 (.inr ⟨_,_,rfl⟩)) ?_
   rintro e w' ⟨N,rfl,_,_,hb⟩
   exact⟨⟨hb.os,hb.tape,hb.output,hb.size,fun k h1 _=>hb.block k h1⟩,_,rfl,zbv (yz.2 ⟨rfl,by show InI (0:Int);decide⟩) (zeV.2 (.inr ⟨rfl,_,_,rfl⟩))⟩
  ·
   skip
   refine Calls.mono (Proofs.Any.strconv_Atoi_range Ly (ByteArray.mk s.b.toArray) (by omega) h _ w k2 (.inr ⟨_,_,rfl⟩)) ?_
   rintro e w' ⟨N,rfl,_,_,hb⟩
   refine⟨⟨hb.os,hb.tape,hb.output,hb.size,fun k h1 _=>hb.block k h1⟩,_,rfl,zbv (yz.2 ⟨rfl,?_⟩) (zeV.2 (.inr ⟨rfl,_,_,rfl⟩))⟩
   show InI (Go.Lib.atoiSat s.b)
   unfold Go.Lib.atoiSat
   split<;>decide
end Go.DB
namespace Go.DB
open Go Go.RowKit
def JY (x:ByteArray):Str:=⟨x.data.toList⟩
def Jf (s sep:Str):List Str:=(Go.Lib.splitB (ByteArray.mk sep.b.toArray) 0 (Go.Lib.countB (ByteArray.mk s.b.toArray) (ByteArray.mk sep.b.toArray)) (ByteArray.mk s.b.toArray)).map JY
theorem zjA {M:zh}{w:World}:∀(l:List ByteArray),(∀x∈l,x.size≤9223372036854775807)→zM M w (l.map JY) (l.map Value.string)
 | [],_=>rfl
 | x::l,h=>⟨[.string x],l.map Value.string,rfl,⟨congrArg (fun v=>[v]) (by cases x;simp[yE,JY]),by have:=h x (by simp);show x.data.toList.length≤_;rw[Array.length_toList];exact this⟩,zjA l (fun y hy=>h y (by simp[hy]))⟩
theorem zm9 (sep:ByteArray)(n:Nat):∀(k:Nat) (s:ByteArray),s.size≤n→∀x∈Go.Lib.splitB sep 0 k s,x.size≤n
 | 0,s,hs,x,hx=>by simp[Go.Lib.splitB]at hx;subst hx;exact hs
 | k+1,s,hs,x,hx=>by
  unfold Go.Lib.splitB at hx
  split at hx
  ·
   simp at hx;subst hx;exact hs
  ·
   rcases List.mem_cons.1 hx with rfl | hx
   ·
    rw[ByteArray.size_extract];omega
   ·
    exact zm9 sep n k _ (by rw[ByteArray.size_extract];omega) x hx
theorem zu8 {P:Program}{ρ:Shelf.Ren}(Ly:Proofs.Lays.n146 P ρ)(hi9:(P.info? (ρ.t 9)).map (fun i=>(i.zero,i.size,i.bytes))=some (some (.string ByteArray.empty),1,16)){f T:Nat}(hf:ρ.f 146=f)(hT:ρ.t 9=T)(h1:ρ.g 1=JI)(ok:z8 P f)
  {s sep:Str} (hs:(s.b.length:Int)<4294967281) (hp:sep.b≠[]):zS P f [rep s,rep sep] [] zV [some (zp T (Jf s sep))]:=by
 refine⟨ok,fun M D w vs hM ha hO=>?_⟩
 match vs,ha with
 | [v,u],⟨hv,hu,_⟩=>
  obtain⟨rfl,hs1⟩:=yC.1 hv
  obtain⟨rfl,_⟩:=yC.1 hu
  subst hf;subst hT
  have hz1:(ByteArray.mk s.b.toArray).size=s.b.length:=rfl
  have hz2:(ByteArray.mk sep.b.toArray).size=sep.b.length:=rfl
  have hpp:1≤(ByteArray.mk sep.b.toArray).size:=by rw[hz2];exact List.length_pos_iff.2 hp
  obtain⟨m,hm⟩:=hM.glob.maxLen
  refine Calls.mono (Proofs.Any.strings_Split Ly hi9 (ByteArray.mk s.b.toArray) (ByteArray.mk sep.b.toArray) m w (by omega) (by rw[h1];exact hm) hpp) ?_
  rintro e w' ⟨rfl,rfl⟩
  have hle:=Go.Lib.countB_le (ByteArray.mk sep.b.toArray) hpp (ByteArray.mk s.b.toArray).size (ByteArray.mk s.b.toArray) (Nat.le_refl _)
  have hlen:(Jf s sep).length=Go.Lib.countB (ByteArray.mk s.b.toArray) (ByteArray.mk sep.b.toArray)+1:=by
   unfold Jf;rw[List.length_map];exact Go.Lib.splitB_all _ hpp 0 _ _ rfl
  have hx:Ext w (w.alloc (.cells ((Go.Lib.splitB (ByteArray.mk sep.b.toArray) 0 (Go.Lib.countB (ByteArray.mk s.b.toArray) (ByteArray.mk sep.b.toArray)) (ByteArray.mk s.b.toArray)).map Value.string).toArray (ρ.t 9))):=Ext.alloc _ _
  refine⟨_,fun k=>M k∨k=w.heap.size,fun _ k=>k=w.heap.size,rfl,hx.keeps,fun k h=>.inl (.inl h),fun k h=>h.imp id (fun e=>by subst e;exact Nat.le_refl _),fun k h=>?_,trivial,?_,?_⟩
  ·
   rw[jw]
   rcases h with h | h
   ·
    have:=hM.lt k h;omega
   ·
    omega
  ·
   intro i c hc
   match i,hc with
   | 0,hc=>
    simp only[List.getElem?_cons_zero,Option.some.injEq]at hc
    subst hc
    refine⟨⟨some ⟨w.heap.size,0,none⟩,_,by rw[hlen];rfl,by rw[hlen];exact Nat.le_refl _,by rw[hz1]at hle;omega,rfl,fun k=>Iff.rfl,.inr rfl,[],_,[],?_,rfl,zjA _ (zm9 _ _ _ _ (by rw[hz1];exact hs1)),by rw[hlen];simp⟩,fun k hk=>.inr (by rw[hk];exact Nat.le_refl _)⟩
    refine qk.of ?_
    show(w.heap.push _)[w.heap.size]?=_
    rw[Array.getElem?_push_size];simp
  ·
   intro i j c c' hi hj hne
   match i,j,hi,hj with
   | 0,0,_,_=>omega
end Go.DB
namespace Go.DB
open Go Go.RowKit
def zd7 (s:Str)(c:KI .u8):Int:=Go.Lib.indexByte s.b c.n.toNat.toUInt8
theorem zkB:∀(l:List UInt8) (c:UInt8),Go.Lib.indexByte l c≤l.length
 | [],c=>by simp[Go.Lib.indexByte]
 | b::l,c=>by
  have:=zkB l c
  unfold Go.Lib.indexByte
  repeat' split
  all_goals (simp only[List.length_cons];omega)
theorem zrH {P:Program}{ρ:Shelf.Ren}(Ly:Proofs.Lays.n137 P ρ){f:Nat}(hf:ρ.f 137=f)(ok:z8 P f){s:Str}{c:KI .u8}(hs:(s.b.length:Int)<4611686018427387904):zr P f [rep s,rep c] (rep (zd7 s c)):=by
 refine⟨ok,fun M w vs hM ha=>?_⟩
 match vs,ha with
 | [v,u],⟨hv,hu,_⟩=>
  obtain⟨rfl,_⟩:=yC.1 hv
  obtain rfl:=Yp.1 hu
  subst hf
  refine Calls.mono (Proofs.Any.strings_IndexByte Ly (ByteArray.mk s.b.toArray) c.n w) ?_
  rintro e w' ⟨rfl,rfl⟩
  refine⟨zx.refl _ _,_,rfl,yz.2 ⟨rfl,?_⟩⟩
  have h1:=zkB s.b c.n.toNat.toUInt8
  have h2:=Go.Lib.indexByte_ge s.b c.n.toNat.toUInt8
  unfold InI zd7;omega
end Go.DB
namespace Go.DB
open Go Go.RowKit
def jB (s sep:Str):Str×Str×Bool:=(⟨(Go.Lib.cut s.b sep.b).1⟩,⟨(Go.Lib.cut s.b sep.b).2.1⟩,(Go.Lib.cut s.b sep.b).2.2)
theorem zv0 {A B C:zF}{M:zh}{w:World}{a b c:Value}(h1:A.p M a w)(h2:B.p M b w)(h3:C.p M c w):(tup [A,B,C]).p M (.tuple #[a,b,c]) w:=
 ⟨[a,b,c],rfl,rfl,fun i S u hS hu=>by
  match i,hS,hu with
  | 0,hS,hu=>cases hS;cases hu;exact h1
  | 1,hS,hu=>cases hS;cases hu;exact h2
  | 2,hS,hu=>cases hS;cases hu;exact h3⟩
theorem zpE {P:Program}{ρ:Shelf.Ren}(Ly:Proofs.Lays.n145 P ρ)(h1:ρ.g 1=JI){f:Nat}(hf:ρ.f 145=f)(ok:z8 P f){s sep:Str}
  (hl:(s.b.length:Int)<4294967281∧(jB s sep).1.b.length≤4294967281∧(jB s sep).2.1.b.length≤4294967281):
  zr P f [rep s,rep sep] (tup [rep (jB s sep).1,rep (jB s sep).2.1,rep (jB s sep).2.2]):=by
 refine⟨ok,fun M w vs hM ha=>?_⟩
 match vs,ha with
 | [v,u],⟨hv,hu,_⟩=>
  obtain⟨rfl,_⟩:=yC.1 hv
  obtain⟨rfl,_⟩:=yC.1 hu
  subst hf
  obtain⟨l1,l2,l3⟩:=hl
  have z1:(ByteArray.mk s.b.toArray).size=s.b.length:=rfl
  obtain⟨m,hm⟩:=hM.glob.maxLen
  refine Calls.mono (Proofs.Any.strings_Cut Ly (ByteArray.mk s.b.toArray) (ByteArray.mk sep.b.toArray) m w (by omega) (by rw[h1];exact hm)) ?_
  rintro e w' ⟨rfl,n,rfl⟩
  exact⟨⟨rfl,rfl,rfl,Nat.le_refl _,fun _ _ _=>rfl⟩,_,rfl,zv0 (yC.2 ⟨rfl,Nat.le_trans l2 (by decide)⟩) (yC.2 ⟨rfl,Nat.le_trans l3 (by decide)⟩) (yS.2 rfl)⟩
end Go.DB
namespace Go.DB
open Go Go.RowKit
class Enc (α:Type) [Rep α] where
 enc:α→List Value
 ok:α→Prop
 cells:∀{M:zh} {x:α} {cs:List Value} {w:World},Rep.cells M x cs w↔cs=enc x∧ok x
 len:∀x,(enc x).length=Rep.sz α
 one:∀x,∀v∈enc x,jf v=true
instance:Enc Int:=⟨fun n=>[.int .i64 n],InI,fun {M x cs w}=>Iff.rfl,fun _=>rfl,fun x v h=>by obtain rfl:=List.mem_singleton.1 h;rfl⟩
instance:Enc Bool:=⟨fun b=>[.bool b],fun _=>True,fun {M x cs w}=>⟨fun h=>⟨h,trivial⟩,fun h=>h.1⟩,fun _=>rfl,fun x v h=>by obtain rfl:=List.mem_singleton.1 h;rfl⟩
instance {α β:Type} [Rep α] [Rep β] [Enc α] [Enc β]:Enc (α×β):=⟨fun x=>Enc.enc x.1++Enc.enc x.2,fun x=>Enc.ok x.1∧Enc.ok x.2,fun {M x cs w}=>by
 constructor
 ·
  rintro⟨c1,c2,h,h1,h2⟩
  obtain⟨e1,o1⟩:=Enc.cells.1 h1
  obtain⟨e2,o2⟩:=Enc.cells.1 h2
  exact⟨by rw[h,e1,e2],o1,o2⟩
 ·
  rintro⟨h,o1,o2⟩
  exact⟨_,_,h,Enc.cells.2 ⟨rfl,o1⟩,Enc.cells.2 ⟨rfl,o2⟩⟩,fun x=>by rw[List.length_append,Enc.len,Enc.len];rfl,fun x v h=>(List.mem_append.1 h).elim (Enc.one _ v) (Enc.one _ v)⟩
@[reducible] def Enc.via {α β:Type}[Rep β][Enc β](f:α→β):@Enc α (Rep.via f):=@Enc.mk α (Rep.via f) (fun x=>Enc.enc (f x)) (fun x=>Enc.ok (f x)) (fun {M x cs w}=>Enc.cells (α:=β)) (fun x=>Enc.len (f x)) (fun x=>Enc.one (f x))
theorem zdK {α:Type}[Rep α][Enc α]{M:zh}{w:World}:∀(l:List α) (cs:List Value),zM M w l cs↔cs=l.flatMap Enc.enc∧∀x∈l,Enc.ok x
 | [],cs=>by simp[zM]
 | x::l,cs=>by
  constructor
  ·
   rintro⟨c,r,h,h1,h3⟩
   obtain⟨e1,o1⟩:=Enc.cells.1 h1
   obtain⟨h4,h5⟩:=(zdK l r).1 h3
   exact⟨by rw[h,e1,h4];rfl,by simp only[List.forall_mem_cons];exact⟨o1,h5⟩⟩
  ·
   rintro⟨h,h2⟩
   simp only[List.forall_mem_cons]at h2
   exact⟨Enc.enc x,l.flatMap Enc.enc,by rw[h];rfl,Enc.cells.2 ⟨rfl,h2.1⟩,(zdK l _).2 ⟨rfl,h2.2⟩⟩
theorem zj5 {α:Type}{enc:α→List Value}{k:Nat}(hk:∀x,(enc x).length=k)(k0:0<k):∀(l:List α) (t:Nat),(l.flatMap enc)[t]?=(l[t / k]?).bind (fun x=>(enc x)[t % k]?)
 | [],t=>by simp
 | x::l,t=>by
  rw[List.flatMap_cons]
  by_cases h:t<k
  ·
   rw[List.getElem?_append_left (by rw[hk];exact h),Nat.div_eq_of_lt h,Nat.mod_eq_of_lt h];rfl
  ·
   rw[List.getElem?_append_right (by rw[hk];omega),hk,zj5 hk k0 l]
   have e:t=(t - k)+k:=by omega
   have e1:t / k=(t - k) / k+1:=by rw[show t / k=((t - k)+k) / k by rw[←e],Nat.add_div_right _ k0]
   have e2:t % k=(t - k) % k:=by rw[show t % k=((t - k)+k) % k by rw[←e],Nat.add_mod_right]
   rw[e1,e2,List.getElem?_cons_succ]
theorem zj4 {A:Type}[Inhabited A]{enc:A→List Value}{k:Nat}(hk:∀x,(enc x).length=k)(k0:0<k)(d:Array A):(Go.Sort.flatK enc k d)=(d.toList.flatMap enc).toArray:=by
 apply Array.ext_getElem?
 intro t
 have hlen:(d.toList.flatMap enc).length=d.size*k:=by
  rw[List.length_flatMap]
  have:(d.toList.map fun x=>(enc x).length)=List.replicate d.size k:=by
   refine List.ext_getElem (by simp) fun i h1 h2=>?_
   simp[hk]
  rw[this];simp
 by_cases ht:t<d.size*k
 ·
  have h1:t / k<d.size:=Nat.div_lt_of_lt_mul (by rw[Nat.mul_comm];exact ht)
  have h2:t % k<k:=Nat.mod_lt _ k0
  have g:=Go.Sort.get_flatK enc k d t ht
  rw[getElem!_pos _ _ (by simpa using ht)]at g
  rw[Array.getElem?_eq_getElem (by simpa using ht),g,List.getElem?_toArray,zj5 hk k0,Array.getElem?_toList,Array.getElem?_eq_getElem h1,Option.bind_some,getElem!_pos d _ h1,List.getElem?_eq_getElem (by rw[hk];exact h2),getElem!_pos _ _ (by rw[hk];exact h2)]
 ·
  rw[Array.getElem?_eq_none (by simpa using Nat.le_of_not_lt ht),List.getElem?_toArray,List.getElem?_eq_none (by rw[hlen];omega)]
theorem zti {pre cs ds rest:List Value}{off:Nat}(hp:pre.length=off)(hl:cs.length=ds.length):
  Go.Sort.putCells id off ds.toArray (pre++cs++rest).toArray=(pre++ds++rest).toArray:=by
 unfold Go.Sort.putCells
 apply Array.ext_getElem?
 intro k
 rw[Array.getElem?_mapIdx]
 simp only[List.getElem?_toArray,List.size_toArray]
 by_cases h1:k<off
 ·
  rw[List.append_assoc,List.append_assoc,List.getElem?_append_left (by omega),List.getElem?_append_left (by omega)]
  have:¬(off≤k∧k<off+ds.length):=by omega
  simp only[this,if_false]
  cases pre[k]?<;>rfl
 ·
  by_cases h2:k<off+ds.length
  ·
   rw[List.append_assoc,List.append_assoc,List.getElem?_append_right (l₁:=pre) (by omega),List.getElem?_append_left (l₁:=cs) (by omega),List.getElem?_append_right (l₁:=pre) (by omega),List.getElem?_append_left (by omega)]
   have:off≤k∧k<off+ds.length:=by omega
   simp only[this,and_self,if_true,hp]
   rw[List.getElem?_eq_getElem (by omega),Option.map_some,List.getElem?_eq_getElem (by omega)]
   congr 1
   rw[getElem!_pos _ _ (by simp;omega)]
   simp
  ·
   rw[List.getElem?_append_right (by simp;omega),List.getElem?_append_right (by simp;omega)]
   have:¬(off≤k∧k<off+ds.length):=by omega
   simp only[this,if_false]
   have e:(pre++cs).length=(pre++ds).length:=by simp[hl]
   rw[e]
   cases rest[k - (pre++ds).length]?<;>rfl
section
variable {α:Type} {Q:α→Prop} [Inhabited { x:α // Q x }]
noncomputable def y9 (cf:{ x:α // Q x }→{ x:α // Q x }→Int)(l:List α):List α:=by
 classical
 exact if h:∀x∈l,Q x then(Sort.pdq (Proofs.ltOf cf) (l.attachWith Q h).toArray 0 l.length (Lib.bitLen l.length) true true).toList.map (·.1)else l
variable {cf:{ x:α // Q x }→{ x:α // Q x }→Int} {l:List α}
theorem zm1 (h:∀x∈l,Q x):y9 cf l=(Sort.pdq (Proofs.ltOf cf) (l.attachWith Q h).toArray 0 l.length (Lib.bitLen l.length) true true).toList.map (·.1):=by
 unfold y9
 rw[dif_pos h]
theorem zhT (hO:Sort.SWO (Proofs.ltOf cf))(h:∀x∈l,Q x):(y9 cf l).Perm l∧(∀(i j:Nat) (hi:i<j) (hj:j<(y9 cf l).length) (q1:Q (y9 cf l)[i]) (q2:Q (y9 cf l)[j]),¬cf ⟨(y9 cf l)[j],q2⟩ ⟨(y9 cf l)[i],q1⟩<0):=by
 have hs:(l.attachWith Q h).toArray.size=l.length:=by simp
 have hq:=Sort.pdq_sorts (Proofs.ltOf cf) hO (l.attachWith Q h).toArray 0 l.length (Lib.bitLen l.length) true true (Nat.zero_le _) (by rw[hs];exact Nat.le_refl _) (Or.inl rfl)
 obtain⟨⟨p1,p2,p3⟩,hsort⟩:=hq
 have e:=zm1 (cf:=cf) h
 generalize Sort.pdq (Proofs.ltOf cf) (l.attachWith Q h).toArray 0 l.length (Lib.bitLen l.length) true true=r at *
 have hrs:r.size=l.length:=by rw[p1,hs]
 have xx:∀(A:Array { x:α // Q x }) (n:Nat),A.size=n→A.extract 0 n=A:=fun A n hn=>by subst hn;simp
 have x1:=xx r l.length hrs
 have x2:=xx (l.attachWith Q h).toArray l.length hs
 rw[x1,x2]at p3
 refine⟨?_,fun i j hi hj q1 q2 hlt=>?_⟩
 ·
  rw[e]
  have:=p3.map (fun x:{ x:α // Q x }=>x.1)
  have e2:((l.attachWith Q h).toArray.toList.map fun x:{ x:α // Q x }=>x.1)=l:=by simp
  rw[e2]at this
  exact this
 ·
  have hj':j<r.size:=by rw[e]at hj;simpa using hj
  have hi':i<r.size:=by omega
  have:=hsort i j (Nat.zero_le _) hi (by omega)
  rw[getElem!_pos r j hj',getElem!_pos r i hi']at this
  unfold Proofs.ltOf at this
  have g:∀(k:Nat) (hk:k<(y9 cf l).length) (hk':k<r.size),(y9 cf l)[k]=r[k].1:=fun k hk hk'=>by simp[e]
  have ej:(⟨(y9 cf l)[j],q2⟩:{ x:α // Q x })=r[j]:=Subtype.ext (g j hj hj')
  have ei:(⟨(y9 cf l)[i],q1⟩:{ x:α // Q x })=r[i]:=Subtype.ext (g i (by omega) hi')
  rw[ej,ei]at hlt
  simp[hlt]at this
end
theorem zm2 {P:Program}{ρ:Shelf.Ren}(Ly:Proofs.SlLaysF0.n6 P ρ){f g E:Nat}{α:Type}[Rep α][Enc α]{Q:α→Prop}[Inhabited { x:α // Q x }]{cf:{ x:α // Q x }→{ x:α // Q x }→Int}(hf:ρ.f 6=f)(hE:ρ.t 24=E)(ok:z8 P f)(okg:z8 P g)
  {fds:Array Field} (hagg:P.underlying E=some (.struct fds)) (hT:Ty P E α) (hO:Sort.SWO (Proofs.ltOf cf))
  (hc:∀(x y:{ x:α // Q x }) (W:World),Calls P g #[.agg (Enc.enc x.1).toArray,.agg (Enc.enc y.1).toArray] W fun e w'=>e = .returned (.int .i64 (cf x y))∧∃q os',w'=Go.Sort.grow (W.drewN q) os')
  {s:Value} {l:List α} (hl:(l.length:Int)<4611686018427387904) (hq:∀x∈l,Q x):
  zS P f [isV s,zbI g []] [(s,zp E l)] zV [some (zp E (y9 cf l))]:=by
 refine⟨ok,fun M D w vs hM ha hOw=>?_⟩
 match vs,ha with
 | [v,u],⟨hv,⟨caps,hu,hcaps⟩,_⟩=>
  obtain⟨rfl,_⟩:=ya.1 hv
  obtain rfl:caps=[]:=by
   cases caps with
   | nil=>rfl
   | cons c cs=>exact hcaps.elim
  subst hu
  have h0:=hOw.has 0 v (zp E l) rfl
  obtain⟨a,cap,rfl,h1,h2,h3⟩:=h0
  obtain⟨hperm,_⟩:=zhT (l:=l) hO hq
  have hll:(y9 cf l).length=l.length:=hperm.length_eq
  subst hf
  cases a with
  | none=>
   obtain⟨h4,h5,h6⟩:=h3
   subst h4
   refine Calls.mono (Proofs.AnyF.slices_SortFunc_none Ly none cap _ w) ?_
   rintro e w' ⟨rfl,rfl⟩
   have hnil:y9 cf ([]:List α)=[]:=List.length_eq_zero_iff.1 hll
   refine⟨.tuple #[],M,D,rfl,zx.refl _ _,fun k h=>.inl h,fun k h=>.inl h,hM,trivial,?_,?_⟩
   ·
    intro i c hc
    match i,hc with
    | 0,hc=>
     simp only[List.getElem?_cons_zero,Option.some.injEq]at hc
     subst hc
     rw[hnil]
     exact⟨⟨none,cap,rfl,by simp,h2,rfl,h5,h6⟩,fun k hk=>absurd hk (h6 k)⟩
   ·
    intro i j c c' hi hj hne
    match i,j,hi,hj with
    | 0,0,_,_=>omega
  | some ad=>
   obtain⟨b,off,sp⟩:=ad
   obtain⟨hs,hD,hMb,pre,cs,rest,hh,hp,he,hr⟩:=h3
   simp only at hs hD hMb hh hp
   subst hs
   obtain⟨hcs,hin⟩:=(zdK l cs).1 he
   have hcl:cs.length=l.length*Rep.sz α:=he.len
   have hcell:∀j,w.cell? ⟨b,j,none⟩=(pre++cs++rest).toArray[j]?:=fun j=>hh.cell
   obtain⟨qz,hqz,hh⟩:=hh
   have hfz:∀j,j<(pre++cs++rest).length→w.frozen? ⟨b,j,none⟩=false:=fun j hj=>by simp[World.frozen?,hh];omega
   have hblk:b<w.heap.size:=hM b hMb
   have k0:0<Rep.sz α:=Rep.pos
   have hek:∀x:{ x:α // Q x },(Enc.enc x.1).length=Rep.sz α:=fun x=>Enc.len x.1
   have hds:(l.attachWith Q hq).toArray.size=l.length:=by simp
   have fl0:Go.Sort.flatK (fun x:{ x:α // Q x }=>Enc.enc x.1) (Rep.sz α) (l.attachWith Q hq).toArray=cs.toArray:=by
    rw[zj4 hek k0,hcs]
    congr 1
    rw[show(l.attachWith Q hq).toArray.toList=l.attachWith Q hq from rfl]
    conv=>rhs;rw[←List.attachWith_map_subtype_val (p:=Q) (l:=l) hq]
    rw[List.flatMap_map]
   obtain⟨ti,hti,hsize⟩:=Option.map_eq_some_iff.1 hT.size
   have zE:∀w,(Go.sizeOf (ρ.t 24)).run P w = .ok (Rep.sz α) w:=fun w=>by rw[hE];simp[sizeOf,typeInfo,hti,hsize,go_sem]
   have aE:∀w,(isAgg (ρ.t 24)).run P w = .ok true w:=fun w=>by rw[hE];simp[isAgg,underlying,hagg,go_sem]
   have eg:∀args w,(callFunc g args).run P w = .ok (.enter g args) w:=fun args w=>zmz okg args w
   have hcon:=Proofs.AnyQ.slices_SortFunc_eq Ly (Rep.sz α) aE zE (fun x:{ x:α // Q x }=>Enc.enc x.1) hek (fun x v hv=>Enc.one x.1 v hv) cf hO g #[] b off cap (l.attachWith Q hq).toArray w eg
    (fun m os dk _ x y=>by rw[Array.append_empty];exact hc x y _) (fun j hj=>by
     rw[fl0]at hj⊢
     have hj':j<cs.length:=by simpa using hj
     refine⟨?_,hfz _ (by simp;omega)⟩
     rw[hcell,List.getElem?_toArray,List.append_assoc,List.getElem?_append_right (by omega),List.getElem?_append_left (by omega),show off+j - pre.length=j by omega,List.getElem?_eq_getElem hj',getElem!_pos _ _ (by simpa using hj')]
     simp) hblk (by rw[hds];omega)
   rw[hds]at hcon
   refine Calls.mono hcon ?_
   rintro e w' ⟨rfl,n,os,rfl⟩
   have hR:=zm1 (cf:=cf) hq
   have fl1:Go.Sort.flatK (fun x:{ x:α // Q x }=>Enc.enc x.1) (Rep.sz α) (Sort.pdq (Proofs.ltOf cf) (l.attachWith Q hq).toArray 0 l.length (Lib.bitLen l.length) true true)=((y9 cf l).flatMap Enc.enc).toArray:=by
    rw[zj4 hek k0,hR,List.flatMap_map]
   have hfl:cs.length=((y9 cf l).flatMap Enc.enc).length:=by
    rw[hcs]
    exact(hperm.symm.flatMap_right _).length_eq
   have hw:Proofs.sortWorldK (fun x:{ x:α // Q x }=>Enc.enc x.1) (Rep.sz α) w b off n (Sort.pdq (Proofs.ltOf cf) (l.attachWith Q hq).toArray 0 l.length (Lib.bitLen l.length) true true) os=Go.Sort.grow (Go.Sort.putRow id (Go.Sort.ahead w n) b off ((y9 cf l).flatMap Enc.enc).toArray) os:=by
    show Go.Sort.grow (Go.Sort.putRow id (Go.Sort.ahead w n) b off (Go.Sort.flatK _ _ _)) os=_
    rw[fl1]
   rw[hw]
   have hkeep:zx (DU D 1) w (Go.Sort.grow (Go.Sort.putRow id (Go.Sort.ahead w n) b off ((y9 cf l).flatMap Enc.enc).toArray) os):=by
    refine⟨rfl,rfl,rfl,?_,fun k hk hn=>?_⟩
    ·
     simp[Go.Sort.grow,Go.Sort.putRow,Go.Sort.mapBlock,Go.Sort.ahead]
    ·
     have hne:b≠k:=fun e=>hn ⟨0,by omega,(hD k).2 e.symm⟩
     simp only[Go.Sort.grow,Go.Sort.putRow,Go.Sort.mapBlock,Go.Sort.ahead]
     rw[Array.getElem?_append_left (by simpa using hk),Array.getElem?_modify,if_neg hne]
   have hhb:(Go.Sort.grow (Go.Sort.putRow id (Go.Sort.ahead w n) b off ((y9 cf l).flatMap Enc.enc).toArray) os).heap[b]?=some (.cells (pre++(y9 cf l).flatMap Enc.enc++rest).toArray E qz):=by
    simp only[Go.Sort.grow,Go.Sort.putRow,Go.Sort.mapBlock,Go.Sort.ahead]
    rw[Array.getElem?_append_left (by simpa using hblk),Array.getElem?_modify,if_pos rfl,hh,Option.map_some]
    simp only[Go.Sort.onCells]
    rw[zti hp hfl]
   generalize Go.Sort.grow (Go.Sort.putRow id (Go.Sort.ahead w n) b off ((y9 cf l).flatMap Enc.enc).toArray) os=w' at hkeep hhb
   refine⟨.tuple #[],M,D,rfl,hkeep,fun k h=>.inl h,fun k h=>.inl h,fun k h=>Nat.lt_of_lt_of_le (hM k h) hkeep.size,trivial,?_,?_⟩
   ·
    intro i c hc
    match i,hc with
    | 0,hc=>
     simp only[List.getElem?_cons_zero,Option.some.injEq]at hc
     subst hc
     exact⟨⟨some ⟨b,off,none⟩,cap,by simp[hll],by rw[hll];exact h1,h2,rfl,hD,hMb,pre,_,rest,⟨qz,hqz.imp id (fun h=>⟨h.1,by have:=h.2;simp only[List.length_append,←hfl]at this⊢;omega⟩),hhb⟩,hp,(zdK _ _).2 ⟨rfl,fun x hx=>hin x (hperm.mem_iff.1 hx)⟩,by rw[hll];exact hr⟩,fun k hk=>.inl ⟨0,by simp,hk⟩⟩
   ·
    intro i j c c' hi hj hne
    match i,j,hi,hj with
    | 0,0,_,_=>omega
end Go.DB
namespace Go.DB
open Go Go.RowKit
theorem znx {a b:UInt8}(h1:¬a.toNat<b.toNat)(h2:¬b.toNat<a.toNat):a=b:=UInt8.toNat_inj.1 (by omega)
def zH:List UInt8→List UInt8→Int
 | [],[]=>0
 | [],_::_=> -1
 | _::_,[]=>1
 | a::l,b::m=>if a.toNat<b.toNat then -1 else if b.toNat<a.toNat then 1 else zH l m
theorem zdk:∀a b:List UInt8,Lib.compareBytes a b=zH a b
 | [],[]=>rfl
 | [],_::_=>rfl
 | _::_,[]=>rfl
 | a::l,b::m=>by
  unfold Lib.compareBytes zH
  rw[zdk l m]
  rfl
theorem vx:∀a:List UInt8,zH a a=0
 | []=>rfl
 | a::l=>by unfold zH;rw[if_neg (by omega),if_neg (by omega)];exact vx l
theorem YG:∀{a b:List UInt8},zH a b=0→a=b
 | [],[],_=>rfl
 | [],_::_,h=>by simp[zH]at h
 | _::_,[],h=>by simp[zH]at h
 | a::l,b::m,h=>by
  unfold zH at h
  by_cases h1:a.toNat<b.toNat
  ·
   rw[if_pos h1]at h;omega
  ·
   rw[if_neg h1]at h
   by_cases h2:b.toNat<a.toNat
   ·
    rw[if_pos h2]at h;omega
   ·
    rw[if_neg h2]at h
    rw[znx h1 h2,YG h]
theorem jm:∀a b:List UInt8,zH a b = -zH b a
 | [],[]=>rfl
 | [],_::_=>rfl
 | _::_,[]=>rfl
 | a::l,b::m=>by
  unfold zH
  by_cases h1:a.toNat<b.toNat
  ·
   rw[if_pos h1,if_neg (by omega),if_pos h1]
  ·
   rw[if_neg h1]
   by_cases h2:b.toNat<a.toNat
   ·
    rw[if_pos h2,if_pos h2];rfl
   ·
    rw[if_neg h2,if_neg h2,if_neg h1];exact jm l m
theorem zi1:∀a b:List UInt8,zH a b = -1∨zH a b=0∨zH a b=1
 | [],[]=>.inr (.inl rfl)
 | [],_::_=>.inl rfl
 | _::_,[]=>.inr (.inr rfl)
 | a::l,b::m=>by
  unfold zH
  by_cases h1:a.toNat<b.toNat
  ·
   rw[if_pos h1];exact .inl rfl
  ·
   rw[if_neg h1]
   by_cases h2:b.toNat<a.toNat
   ·
    rw[if_pos h2];exact .inr (.inr rfl)
   ·
    rw[if_neg h2];exact zi1 l m
theorem Qa:∀{a b c:List UInt8},zH a b≤0→zH b c≤0→zH a c≤0∧(zH a b<0∨zH b c<0→zH a c<0)
 | [],b,[],h1,h2=>by
  cases b with
  | nil=>exact⟨Int.le_refl _,fun h=>h.elim id id⟩
  | cons x b=>simp[zH]at h2
 | [],b,c::n,h1,h2=>⟨by simp[zH],fun _=>by simp[zH]⟩
 | a::l,[],c,h1,h2=>by simp[zH]at h1
 | a::l,b::m,[],h1,h2=>by simp[zH]at h2
 | a::l,b::m,c::n,h1,h2=>by
  have ih:=@Qa l m n
  unfold zH at h1 h2⊢
  by_cases p1:a.toNat<b.toNat
  ·
   by_cases q1:b.toNat<c.toNat
   ·
    rw[if_pos (by omega)];exact⟨by omega,fun _=>by omega⟩
   ·
    rw[if_neg q1]at h2
    by_cases q2:c.toNat<b.toNat
    ·
     rw[if_pos q2]at h2;omega
    ·
     rw[if_pos (by omega)];exact⟨by omega,fun _=>by omega⟩
  ·
   rw[if_neg p1]at h1⊢
   by_cases p2:b.toNat<a.toNat
   ·
    rw[if_pos p2]at h1;omega
   ·
    rw[if_neg p2]at h1⊢
    by_cases q1:b.toNat<c.toNat
    ·
     rw[if_pos (by omega)];exact⟨by omega,fun _=>by omega⟩
    ·
     rw[if_neg q1]at h2⊢
     by_cases q2:c.toNat<b.toNat
     ·
      rw[if_pos q2]at h2;omega
     ·
      rw[if_neg q2]at h2⊢
      rw[if_neg (by omega),if_neg (by omega)]
      exact ih h1 h2
theorem zfL:∀a b:List UInt8,Op.bytesLess a b=decide (zH a b<0)
 | [],[]=>rfl
 | [],_::_=>rfl
 | _::_,[]=>rfl
 | a::l,b::m=>by
  unfold Op.bytesLess zH
  rw[zfL l m]
  by_cases h1:a.toNat<b.toNat
  ·
   have:a<b:=h1
   simp[this,h1]
  ·
   have h1':¬a<b:=h1
   rw[if_neg h1]
   by_cases h2:b.toNat<a.toNat
   ·
    have:¬a=b:=fun e=>by subst e;omega
    rw[if_pos h2];simp[h1',this]
   ·
    have:a=b:=znx h1 h2
    subst this
    rw[if_neg h2];simp[h1']
def zps (s:List UInt8)(n:Int)(t:List UInt8)(m:Int):Int:=if zH s t≠0 then zH s t else if n<m then -1 else if m<n then 1 else 0
instance:Enc Str:=⟨fun s=>[yE s],fun s=>s.b.length≤9223372036854775807,fun {M x cs w}=>Iff.rfl,fun _=>rfl,fun x v h=>by obtain rfl:=List.mem_singleton.1 h;rfl⟩
end Go.DB
namespace Go.DB
open Go Go.RowKit
theorem zdL {M:zh}{w:World}:∀(l:List Str) (cs:List Value),zM M w l cs↔cs=l.map yE∧∀x∈l,x.b.length≤9223372036854775807
 | [],cs=>by simp[zM]
 | x::l,cs=>by
  constructor
  ·
   rintro⟨c,r,h,⟨h1,h2⟩,h3⟩
   obtain⟨h4,h5⟩:=(zdL l r).1 h3
   subst h1 h4
   exact⟨by simp[h],by simp only[List.forall_mem_cons];exact⟨h2,h5⟩⟩
  ·
   rintro⟨h,h2⟩
   simp only[List.forall_mem_cons]at h2
   exact⟨[yE x],l.map yE,by simp[h],⟨rfl,h2.1⟩,(zdL l _).2 ⟨rfl,h2.2⟩⟩
theorem ztj {pre cs ds rest:List Value}{off:Nat}{zs:List (List UInt8)}(hp:pre.length=off)(hd:ds=zs.map Proofs.encStr)(hl:cs.length=zs.length):
  Go.Sort.putCells Proofs.encStr off zs.toArray (pre++cs++rest).toArray=(pre++ds++rest).toArray:=by
 subst hd
 unfold Go.Sort.putCells
 apply Array.ext_getElem?
 intro k
 rw[Array.getElem?_mapIdx]
 simp only[List.getElem?_toArray,List.size_toArray]
 by_cases h1:k<off
 ·
  rw[List.append_assoc,List.append_assoc,List.getElem?_append_left (by omega),List.getElem?_append_left (by omega)]
  have:¬(off≤k∧k<off+zs.length):=by omega
  simp only[this,if_false]
  cases pre[k]?<;>rfl
 ·
  by_cases h2:k<off+zs.length
  ·
   rw[List.append_assoc,List.append_assoc,List.getElem?_append_right (l₁:=pre) (by omega),List.getElem?_append_left (l₁:=cs) (by omega),List.getElem?_append_right (l₁:=pre) (by omega),List.getElem?_append_left (by simp;omega)]
   have:off≤k∧k<off+zs.length:=by omega
   simp only[this,and_self,if_true,hp]
   rw[List.getElem?_eq_getElem (by omega),Option.map_some,List.getElem?_map,List.getElem?_eq_getElem (by omega),Option.map_some]
   congr 2
   rw[getElem!_pos _ _ (by simp;omega)]
   simp
  ·
   rw[List.getElem?_append_right (by simp;omega),List.getElem?_append_right (by simp;omega)]
   have:¬(off≤k∧k<off+zs.length):=by omega
   simp only[this,if_false]
   have e:(pre++cs).length=(pre++zs.map Proofs.encStr).length:=by simp[hl]
   rw[e]
   cases rest[k - (pre++zs.map Proofs.encStr).length]?<;>rfl
noncomputable def jb (l:List Str):List Str:=((l.map fun x=>x.b).mergeSort fun x y=>decide (x≤y)).map Str.mk
theorem zfb (l:List Str):(jb l).length=l.length:=by unfold jb;rw[List.length_map,List.length_mergeSort,List.length_map]
theorem zm3 (l:List Str):(jb l).Perm l:=by
  unfold jb
  have h:=(List.mergeSort_perm (l.map fun x=>x.b) (fun x y=>decide (x≤y))).map Str.mk
  rw[List.map_map]at h
  have e : l.map (Str.mk ∘ fun x => x.b) = l := by conv => rhs; rw [← List.map_id l]
                                                   rfl
  rwa [e]at h
theorem zu1 (l:List Str):((l.map fun x=>x.b).mergeSort fun x y=>decide (x≤y)).map Proofs.encStr=(jb l).map yE:=by
 unfold jb
 rw[List.map_map];rfl
theorem zu3 {P:Program}{ρ:Shelf.Ren}(Ly:Proofs.SlLaysM.n6 P ρ){f:Nat}(hf:ρ.f 6=f)(ok:z8 P f){T:TypeId}{s:Value}{l:List Str}(hl:(l.length:Int)<4611686018427387904):
  zS P f [isV s] [(s,zp T l)] zV [some (zp T (jb l))]:=by
 refine⟨ok,fun M D w vs hM ha hO=>?_⟩
 match vs,ha with
 | [v],⟨hv,_⟩=>
  obtain⟨rfl,_⟩:=ya.1 hv
  have h0:=hO.has 0 v (zp T l) rfl
  obtain⟨a,cap,rfl,h1,h2,h3⟩:=h0
  subst hf
  cases a with
  | none=>
   obtain⟨h4,h5,h6⟩:=h3
   subst h4
   refine Calls.mono (Proofs.AnyM.slices_Sort_string_none Ly none cap w) ?_
   rintro e w' ⟨rfl,rfl⟩
   refine⟨.tuple #[],M,D,rfl,zx.refl _ _,fun k h=>.inl h,fun k h=>.inl h,hM,trivial,?_,?_⟩
   ·
    intro i c hc
    match i,hc with
    | 0,hc=>
     simp only[List.getElem?_cons_zero,Option.some.injEq]at hc
     subst hc
     refine⟨⟨none,cap,by simp[zfb],by simp[zfb],h2,by simp[jb],h5,h6⟩,fun k hk=>absurd hk (h6 k)⟩
   ·
    intro i j c c' hi hj hne
    match i,j,hi,hj with
    | 0,0,_,_=>omega
  | some ad=>
   obtain⟨b,off,sp⟩:=ad
   obtain⟨hs,hD,hMb,pre,cs,rest,hh,hp,he,hr⟩:=h3
   simp only at hs hD hMb hh hp
   subst hs
   obtain⟨hcs,hin⟩:=(zdL l cs).1 he
   have hcl:cs.length=l.length:=by rw[hcs];simp
   have hcell:∀j,w.cell? ⟨b,j,none⟩=(pre++cs++rest).toArray[j]?:=fun j=>hh.cell
   obtain⟨qz,hqz,hh⟩:=hh
   have hfz:∀j,j<(pre++cs++rest).length→w.frozen? ⟨b,j,none⟩=false:=fun j hj=>by simp[World.frozen?,hh];omega
   have hblk:b<w.heap.size:=hM b hMb
   have hml:(l.map fun x=>x.b).length=l.length:=List.length_map _
   have hcall:=Proofs.AnyM.slices_Sort_string Ly b off cap (l.map fun x=>x.b) w (fun j hj=>⟨by
    rw[hcell]
    have hj':j<l.length:=by simpa using hj
    simp only[List.getElem?_toArray]
    rw[List.append_assoc,List.getElem?_append_right (by omega),List.getElem?_append_left (by omega),hcs,List.getElem?_map,show off+j - pre.length=j by omega,List.getElem?_eq_getElem hj',Option.map_some]
    rw[getElem!_pos _ _ (by simpa using hj')]
    simp[yE,Proofs.encStr],hfz _ (by simp at hj⊢;omega)⟩) hblk (by rw[hml];omega)
   rw[hml]at hcall
   refine Calls.mono hcall ?_
   ·
    rintro e w' ⟨rfl,n,os,rfl⟩
    have hkeep:zx (DU D 1) w (Go.Sort.grow (Go.Sort.putRow Proofs.encStr (Go.Sort.ahead w n) b off ((l.map fun x=>x.b).mergeSort fun x y=>decide (x≤y)).toArray) os):=by
     refine⟨rfl,rfl,rfl,?_,fun k hk hn=>?_⟩
     ·
      simp[Go.Sort.grow,Go.Sort.putRow,Go.Sort.mapBlock,Go.Sort.ahead]
     ·
      have hne:b≠k:=fun e=>hn ⟨0,by omega,(hD k).2 e.symm⟩
      simp only[Go.Sort.grow,Go.Sort.putRow,Go.Sort.mapBlock,Go.Sort.ahead]
      rw[Array.getElem?_append_left (by simpa using hk),Array.getElem?_modify,if_neg hne]
    have hhb:(Go.Sort.grow (Go.Sort.putRow Proofs.encStr (Go.Sort.ahead w n) b off ((l.map fun x=>x.b).mergeSort fun x y=>decide (x≤y)).toArray) os).heap[b]?=some (.cells (pre++(jb l).map yE++rest).toArray T qz):=by
     simp only[Go.Sort.grow,Go.Sort.putRow,Go.Sort.mapBlock,Go.Sort.ahead]
     rw[Array.getElem?_append_left (by simpa using hblk),Array.getElem?_modify,if_pos rfl,hh,Option.map_some]
     simp only[Go.Sort.onCells]
     rw[ztj hp rfl (by rw[hcl];simp),zu1]
    generalize hw:Go.Sort.grow (Go.Sort.putRow Proofs.encStr (Go.Sort.ahead w n) b off ((l.map fun x=>x.b).mergeSort fun x y=>decide (x≤y)).toArray) os=w' at hkeep hhb
    have hll:(jb l).length=l.length:=zfb l
    refine⟨.tuple #[],M,D,rfl,hkeep,fun k h=>.inl h,fun k h=>.inl h,fun k h=>Nat.lt_of_lt_of_le (hM k h) hkeep.size,trivial,?_,?_⟩
    ·
     intro i c hc
     match i,hc with
     | 0,hc=>
      simp only[List.getElem?_cons_zero,Option.some.injEq]at hc
      subst hc
      refine⟨⟨some ⟨b,off,none⟩,cap,by simp[hll],by rw[hll];exact h1,h2,rfl,hD,hMb,pre,_,rest,⟨qz,hqz.imp id (fun h=>⟨h.1,by have:=h.2;simp[hll,hcl]at this⊢;omega⟩),hhb⟩,hp,(zdL _ _).2 ⟨rfl,fun x hx=>hin x ?_⟩,by rw[hll];exact hr⟩,fun k hk=>.inl ⟨0,by simp,hk⟩⟩
      exact(zm3 l).mem_iff.1 hx
    ·
     intro i j c c' hi hj hne
     match i,j,hi,hj with
     | 0,0,_,_=>omega
end Go.DB
namespace Go.DB
open Go Go.RowKit
theorem zrp {P:Program}{ρ:Shelf.Ren}(Ly:Proofs.Lays8.n4 P ρ){f t E:Nat}{α:Type}[Rep α](hT:qL P t E α)(hf:ρ.f 4=f)(hE:ρ.t 25=E)(ok:z8 P f)
  {n:Int} (hn:0≤n∧n≤1073741824):zS P f [isV (.slice none 0 0),rep n] [] zV [some (zp E ([]:List α))]:=by
 refine⟨ok,fun M D w vs hM ha hO=>?_⟩
 match vs,ha with
 | [v,u],⟨hv,hu,_⟩=>
  obtain⟨rfl,_⟩:=ya.1 hv
  obtain⟨rfl,_⟩:=yz.1 hu
  subst hf;subst hE
  obtain⟨i,z,ht,hi,hz,hsz,hzs,hby⟩:=hT.get
  obtain⟨k,rfl⟩:∃k:Nat,n=k:=⟨n.toNat,by omega⟩
  have hk:k≤1073741824:=by omega
  have hspos:0<Rep.sz α:=Rep.pos
  by_cases h0:k=0
  ·
   subst h0
   refine Calls.mono (Proofs.Any8.slices_Grow_room Ly none 0 0 0 w (by omega) (by omega) (by omega) (by omega)) ?_
   rintro e w' ⟨rfl,rfl⟩
   refine⟨_,M,fun _=>NoM,rfl,zx.refl _ _,fun k h=>.inl h,fun k h=>.inl h,fun k h=>hM.lt k h,trivial,?_,?_⟩
   ·
    intro i c hc
    match i,hc with
    | 0,hc=>
     simp only[List.getElem?_cons_zero,Option.some.injEq]at hc
     subst hc
     exact⟨⟨none,0,rfl,Nat.le_refl _,by omega,rfl,rfl,fun k h=>h⟩,fun k hk=>hk.elim⟩
   ·
    intro i j c c' hi hj hne
    match i,j,hi,hj with
    | 0,0,_,_=>omega
  ·
   have hbytes:(0+k)*i.bytes≤140737488355328:=by
    have:=Nat.mul_le_mul hk hby
    rw[Nat.zero_add]
    omega
   refine Calls.mono (Proofs.Any8.slices_Grow_grow Ly i z hi hz (by rw[hsz];exact hspos) none 0 0 k [] w (by omega) (by omega) hbytes (by omega) (by simp) (fun _=>rfl) (fun a h=>by cases h)) ?_
   rintro e w' ⟨rfl,rfl⟩
   have hge:=grownCap_ge w (0+k) 0 (ρ.t 25)
   have hle:=grownCap_le_maxLen w (0+k) 0 (ρ.t 25) (by simp only[maxLen];omega)
   have hext:Ext w (w.drew.alloc (.cells (([]:List Value).toArray++Builtin.zeroCells z.cells (0+k - 0)++Builtin.zeroCells z.cells (grownCap w (0+k) 0 (ρ.t 25) - (0+k))) (ρ.t 25))):=zx.trans (Ext.drew w) (Ext.alloc w.drew _)
   refine⟨_,fun k=>M k∨k=w.heap.size,fun _ k=>k=w.heap.size,rfl,hext.keeps,fun k h=>.inl (.inl h),fun k h=>h.imp id (fun e=>by subst e;exact Nat.le_refl _),fun j h=>?_,trivial,?_,?_⟩
   ·
    rw[jw]
    show j<w.heap.size+1
    rcases h with h | h
    ·
     have:=hM.lt j h;omega
    ·
     omega
   ·
    intro i' c hc
    match i',hc with
    | 0,hc=>
     simp only[List.getElem?_cons_zero,Option.some.injEq]at hc
     subst hc
     refine⟨⟨some ⟨w.heap.size,0,none⟩,_,rfl,Nat.zero_le _,by simp only[maxLen]at hle;exact hle,rfl,fun k=>Iff.rfl,.inr rfl,[],[],(([]:List Value).toArray++Builtin.zeroCells z.cells (0+k - 0)++Builtin.zeroCells z.cells (grownCap w (0+k) 0 (ρ.t 25) - (0+k))).toList,?_,rfl,rfl,?_⟩,fun k hk=>.inr (by rw[hk];exact Nat.le_refl _)⟩
     ·
      refine qk.of ?_
      show(w.drew.heap.push _)[w.heap.size]?=_
      rw[show w.heap.size=w.drew.heap.size from rfl,Array.getElem?_push_size]
      simp
     ·
      have e:((([]:List Value).toArray++Builtin.zeroCells z.cells (0+k - 0)++Builtin.zeroCells z.cells (grownCap w (0+k) 0 (ρ.t 25) - (0+k))).toList).length=(0+k - 0)*Rep.sz α+(grownCap w (0+k) 0 (ρ.t 25) - (0+k))*Rep.sz α:=by
       rw[Array.toList_append,Array.toList_append,List.length_append,List.length_append,Array.length_toList,Array.length_toList,Array.length_toList,size_zeroCells,size_zeroCells,hzs]
       simp
      rw[e,←Nat.add_mul]
      refine Nat.mul_le_mul_right _ ?_
      have e2:([]:List α).length=0:=rfl
      rw[e2]
      omega
   ·
    intro i j c c' hi hj hne
    match i,j,hi,hj with
    | 0,0,_,_=>omega
end Go.DB
