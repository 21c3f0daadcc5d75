/- A part of the proof. -/
import Derived.Test.YtenpeohfmbilaaaGreatDoorDatK2
import Derived.Laws.Cover1
import Derived.Lib.Overlaps
import Derived.Lib.AppendZerosOnto
import Derived.Laws.IdiomStrings
import Derived.Shelf.Unicode.ValidAny
import Derived.Shelf.Strconv.Itoa3
import Derived.Lib.AppendIntMem
import Derived.Shelf.Strconv.AtoiAll
import Derived.Shelf.Strings.Split
import Derived.Shelf.Strings.FieldsAny
import Derived.Shelf.Strings.SlTrimAscii
import Derived.Shelf.SlSortCmp.NoneTotal
import Derived.Lib.Bytealg
import Derived.StillTailTactics
import Derived.Shelf.Small.Strs
import Derived.Shelf.Strings.OnBuilder
import Derived.Shelf.SlIter.Nil
import Derived.Shelf.SlIter.Sorted
import Derived.Shelf.SlIter.Collect
import Derived.Shelf.SortM.Plain
import Derived.Shelf.SortM.SortNone
import Derived.StillTail
import Derived.StillTactics
import Derived.Shelf.Strings.Cut
set_option linter.unusedVariables false
set_option linter.unusedSimpArgs false
namespace Go.DB
open Go Go.RowKit
section
variable {K V σ ρ:Type}
open Classical in
noncomputable def za3 (m:GMap K V)(step:K→V→σ→Option σ)(s0:σ)(k:σ→Option ρ):Option ρ:=
 if h:∃r,∀l,zD m l→∃s,jh step l s0=some s∧k s=some r then some h.choose else none
variable {m:GMap K V}
def zii (m:GMap K V)(step:K→V→σ→Option σ)(s0:σ)(Pp:σ→Prop):Prop:=∀l,zD m l→∃s,jh step l s0=some s∧Pp s
theorem zk5 {step:K→V→σ→Option σ}{s0:σ}{k:σ→Option ρ}{r:ρ}(h:za3 m step s0 k=some r):∃Pp:σ→Prop,zii m step s0 Pp∧∀s,Pp s→k s=some r:=by
 unfold za3 at h
 by_cases hx:∃r,∀l,zD m l→∃s,jh step l s0=some s∧k s=some r
 ·
  rw[dif_pos hx]at h
  refine⟨fun s=>k s=some r,fun l hl=>?_,fun _ h=>h⟩
  rw[←Option.some.inj h];exact hx.choose_spec l hl
 ·
  rw[dif_neg hx]at h;cases h
theorem zk4 {step:K→V→σ→Option σ}{s0:σ}{k:σ→Option ρ}{r:ρ}{l0:List (K×V)}(h0:zD m l0)(h:∀l,zD m l→∃s,jh step l s0=some s∧k s=some r):za3 m step s0 k=some r:=by
 unfold za3
 have hx:∃r,∀l,zD m l→∃s,jh step l s0=some s∧k s=some r:=⟨r,h⟩
 rw[dif_pos hx]
 obtain⟨s,e1,e2⟩:=hx.choose_spec l0 h0
 obtain⟨s',e3,e4⟩:=h l0 h0
 have:s=s':=Option.some.inj (e1.symm.trans e3)
 subst this
 exact e2.symm.trans e4
end
section
variable {P:Program} {Q:Exit→Act→World→Prop} {n:Nat} {F:Fr} {L:zr} {B:zp}
variable {K V:Type} {m:GMap K V}
theorem Cod.mrangeKL {c:Code}{σ:Type}{step:K→V→σ→Option σ}{s0:σ}{Pp:σ→Prop}(he:zii m step s0 Pp)(hfin:∃l,zD m l)(Ls:List (K×V)×σ→zr)(Bs:List (K×V)×σ→zp){keep:zr}{keepB:zp}
  (h0:Sub L (Ls ([],s0))) (hB0:zd B (Bs ([],s0))) (hk:Sub L keep) (hkB:zd B keepB)
  (round:∀(p:List (K×V)×σ),(∀o,vi m p.1 o→∃out,Ql step p o=some out∧(∀e',out = .done e'→Pp e'))→
   Cod P c (Exit.then (fun a w=>∃s',(∃o,vi m p.1 o∧Ql step p o=some (.again s'))∧Sat n F (Ls s'++keep) (Bs s'++keepB) a w) Q) n F (Ls p++keep) (Bs p++keepB)):Cod P (.loop c) Q n F L B:=by
 obtain⟨l0,hl0⟩:=hfin
 refine Cod.loop (ι:={ p:List (K×V)×σ // Q5 m p.1∧∀l,zD m (p.1++l)→∃s,jh step l p.2=some s∧Pp s }) (fun p=>Ls p.1++keep) (fun p=>Bs p.1++keepB) (fun p=>l0.length - p.1.1.length)
  ⟨([],s0),⟨List.nodup_nil,by simp⟩,fun l hl=>he l (by simpa using hl)⟩ (h0.append hk) (hB0.append hkB) ?_
 rintro⟨p,hp,hI⟩
 have H:∀o,vi m p.1 o→∃out,Ql step p o=some out∧(∀e',out = .done e'→Pp e'):=by
  intro o ho
  cases o with
  | none=>
   obtain⟨s,h1,h2⟩:=hI [] (by simpa using(show zD m p.1 from ho))
   refine⟨_,rfl,fun e' h3=>?_⟩
   obtain rfl:p.2=s:=Option.some.inj h1
   cases h3
   exact h2
  | some x=>
   obtain⟨l,hl⟩:=(hp.next ho).more hl0
   obtain⟨s,h1,h2⟩:=hI (x::l) (by simpa using hl)
   simp only[jh]at h1
   simp only[Ql]
   cases hst:step x.1 x.2 p.2 with
   | none=>rw[hst]at h1;cases h1
   | some s'=>exact⟨_,rfl,fun e' h3=>by cases h3⟩
 intro a w hs
 refine wp_mono (round p H a w hs) (fun x a w hq=>?_)
 cases x with
 | normal=>
  obtain⟨s',⟨o,ho,hst⟩,h3⟩:=hq
  cases o with
  | none=>simp[Ql]at hst
  | some x=>
   simp only[Ql]at hst
   cases hx:step x.1 x.2 p.2 with
   | none=>rw[hx]at hst;cases hst
   | some s''=>
    rw[hx]at hst
    simp only[Option.bind_some,Option.some.injEq,zL.again.injEq]at hst
    subst hst
    have hpn:=hp.next ho
    refine⟨⟨(p.1++[x],s''),hpn,fun l hl=>?_⟩,?_,h3⟩
    ·
     obtain⟨s,h1,h2⟩:=hI (x::l) (by simpa using hl)
     simp only[jh,hx,Option.bind_some]at h1
     exact⟨s,h1,h2⟩
    ·
     have h1:=hpn.len hl0
     rw[List.length_append]at h1
     simp at h1⊢
     omega
 | _=>exact hq
end
end Go.DB
namespace Go.DB
open Go Go.RowKit
section
variable {P:Program} {ops:Array Oper} {fs:Nat} {L:zr} {B:zp} {G:Prop}
variable {d:Option Tmp} {ty:TypeId} {pos:String} {after:Array Edge} {g:Option (Nat×Bool)} {xr:List Nat}
theorem zg.leStr {x y:Operand}{T T':TypeId}{m n:Str}(hg:zY ops g L G)(hx:Opd L G x (rep m))(hy:Opd L G y (rep n)):
  zg P ops fs ⟨d,.binOp .leq T x y T',ty,pos,after,g⟩ L B (xr,[]) ⟨G,rep (Op.bytesLess m.b n.b || m.b==n.b)⟩ []:=
 .pure hg fun M a w _ hs hG=>by
  obtain⟨h1,_⟩:=y6.1 (hx.get hs (fun t ht=>zB (by simp[Op.operands,ht])) hG)
  obtain⟨h2,_⟩:=y6.1 (hy.get hs (fun t ht=>zB (by simp[Op.operands,ht])) hG)
  refine⟨_,zju h1 h2 rfl (v:=.bool (Op.bytesLess m.b n.b || m.b==n.b)) ?_,yQ.2 rfl⟩
  simp only[yo,binOp_string_leq,ByteArray.toList_mk];rfl
end
end Go.DB
namespace Go.DB
open Go Go.RowKit
section
variable {P:Program} {ops:Array Oper} {fs:Nat} {L:zr} {B:zp} {ty:TypeId} {pos:String} {after:Array Edge}
end
end Go.DB
namespace Go.DB
open Go Go.RowKit
section
variable {P:Program} {ops:Array Oper} {fs:Nat} {L:zr} {B:zp} {G:Prop}
variable {ty:TypeId} {pos:String} {after:Array Edge} {g:Option (Nat×Bool)} {xr:List Nat}
end
end Go.DB
namespace Go.DB
open Go Go.RowKit
section
variable {α β ρ:Type} [Rep β] [Rep ρ]
variable {E E2:Nat} {mk:α→Value→ρ} {sub:α→List β} {n k:Nat} {l:List α} {M D:zj} {v:Value} {w:World}
end
section
variable {P:Program} {ops:Array Oper} {fs:Nat} {L:zr} {B:zp} {G:Prop}
variable {ty:TypeId} {pos:String} {after:Array Edge} {g:Option (Nat×Bool)} {xr:List Nat} {d:Option Tmp}
variable {α β ρ:Type} [Rep β] [Rep ρ] {E E2:Nat} {mk:α→Value→ρ} {sub:α→List β} {n k0:Nat} {l:List α} {s:Value}
theorem zg.storeH {T T' t:Nat}{x:Operand}{α0 α1:Type}[Rep α0][Rep α1]{y:α1}{y0:α0}(hT:Ty P T α1)(hl:zm B t=some (zM T' y0))(hsz0:Rep.sz α0=Rep.sz α1)(ht:Nat.blt t fs=true)(hx:Opd L True x (rep y)):
  zg P ops fs ⟨none,.store T (.tmp t) x,ty,pos,after,none⟩ L B ([t],[t]) ⟨True,z7⟩ [(t,some (zM T' y))]:=by
 refine .doing fun M D a w hsz hm hs hsB=>?_
 obtain⟨m,old,hvm,hD,hM,hh,hold⟩:=hsB.has t (by simp) _ hl
 obtain⟨cs,hc,hxv⟩:=hx.get hs (fun t ht=>zB (by simp[Op.operands,ht])) trivial
 have hat:a.eval (.tmp t) = .pointer (some ⟨m,0,none⟩):=by
  have hlt:t<a.tmps.size:=by rw[hsz];exact Nat.le_of_ble_eq_true ht
  rw[Act.eval_tmp (v:=Act.val a t) (by unfold Act.val;simp[hlt]),hvm]
 obtain⟨w',h1,h2,h3,h4,h5,h6,h7⟩:=J7 (w:=w) (m:=m) (pre:=[]) (rest:=[]) hT (Rep.len hc) ((Rep.len hold).trans hsz0) rfl (Rep.plain hc) (Rep.flat hc) (by simpa using hh)
 have hkeep:zy (D t) w w':=⟨h3,h4,h5,by omega,fun k _ hn=>h7 k (fun e=>hn ((hD k).2 e))⟩
 have hkM:zy M w w':=⟨h3,h4,h5,by omega,fun k _ hn=>h7 k (fun e=>hn (e▸hM))⟩
 refine zW.skip (w':=w') (YM (by rw[hat,hxv];exact h1)) rfl (.turn hl hkeep (fun k h=>by rw[h6];exact hm k h) ⟨fun _=>trivial,fun hf=>(hf trivial).elim⟩ ?_)
 rw[zai]
 exact⟨m,cs,hvm,hD,hM,by simpa using h2,Rep.law hkM (fun _ h=>.inl h) hc⟩
end
end Go.DB
namespace Go.DB
open Go Go.RowKit
abbrev oo:Aux:=([],[])
section
variable {P:Program} {ops:Array Oper} {n:Nat} {rest:List Oper} {L:zr} {B:zp} {K:zr→zp→Prop} {aux:List Aux} {xr:List Nat} {d t:Nat} {ty:TypeId} {pos:String} {after:Array Edge}
theorem zx.mv {S:zA}(h:zC L t=some ⟨True,S⟩)(k:zx P ops n rest [] ((d,⟨True,S⟩)::L) B K)(hB:yl B d=false:=by exact rfl):
  zx P ops n (⟨some d,.move (.tmp t),ty,pos,after,none⟩::rest) [] L B K:=.cons (.move .none (.s h)) hB k
theorem zx.mvA {S:zA}(h:zC L t=some ⟨True,S⟩)(k:zx P ops n rest aux ((d,⟨True,S⟩)::L) B K)(hB:yl B d=false:=by exact rfl):
  zx P ops n (⟨some d,.move (.tmp t),ty,pos,after,none⟩::rest) ((xr,[])::aux) L B K:=.consA (.move .none (.s h)) hB k
theorem zx.asn {S:zA}(h:zC L t=some ⟨True,S⟩)(k:zx P ops n rest [] ((d,⟨True,S⟩)::L) B K)(hB:yl B d=false:=by exact rfl):
  zx P ops n (⟨some d,.assign (.tmp t),ty,pos,after,none⟩::rest) [] L B K:=.cons (.assign .none (.s h)) hB k
theorem zx.asnA {S:zA}(h:zC L t=some ⟨True,S⟩)(k:zx P ops n rest aux ((d,⟨True,S⟩)::L) B K)(hB:yl B d=false:=by exact rfl):
  zx P ops n (⟨some d,.assign (.tmp t),ty,pos,after,none⟩::rest) ((xr,[])::aux) L B K:=.consA (.assign .none (.s h)) hB k
theorem zx.asi {i:Int}(k:zx P ops n rest [] ((d,⟨True,rep i⟩)::L) B K)(hi:InI i:=by decide)(hB:yl B d=false:=by exact rfl):
  zx P ops n (⟨some d,.assign (.const (.int .i64 i)),ty,pos,after,none⟩::rest) [] L B K:=.cons (.assign .none (.int hi)) hB k
theorem zx.mvi {i:Int}(k:zx P ops n rest [] ((d,⟨True,rep i⟩)::L) B K)(hi:InI i:=by decide)(hB:yl B d=false:=by exact rfl):
  zx P ops n (⟨some d,.move (.const (.int .i64 i)),ty,pos,after,none⟩::rest) [] L B K:=.cons (.move .none (.int hi)) hB k
theorem zx.ld {T:TypeId}{α:Type}[Rep α]{y:α}(hT:Ty P T α)(h:zC L t=some ⟨True,ref y⟩)(k:zx P ops n rest [] ((d,⟨True,rep y⟩)::L) B K)(hB:yl B d=false:=by exact rfl):
  zx P ops n (⟨some d,.load T (.tmp t),ty,pos,after,none⟩::rest) [] L B K:=.cons (.load .none hT (.s h)) hB k
theorem zx.ldA {T:TypeId}{α:Type}[Rep α]{y:α}(hT:Ty P T α)(h:zC L t=some ⟨True,ref y⟩)(k:zx P ops n rest aux ((d,⟨True,rep y⟩)::L) B K)(hB:yl B d=false:=by exact rfl):
  zx P ops n (⟨some d,.load T (.tmp t),ty,pos,after,none⟩::rest) ((xr,[])::aux) L B K:=.consA (.load .none hT (.s h)) hB k
theorem zx.fa {S f off:Nat}{α β:Type}[Rep α][Rep β]{proj:α→β}{y:α}(hF:yr P S f off)(hH:zi α β off proj)(h:zC L t=some ⟨True,ref y⟩)
  (k:zx P ops n rest [] ((d,⟨True,ref (proj y)⟩)::L) B K) (hB:yl B d=false:=by exact rfl):
  zx P ops n (⟨some d,.fieldAddr S (.tmp t) f,ty,pos,after,none⟩::rest) [] L B K:=.cons (.fieldAddr .none hF hH (.s h)) hB k
theorem zx.faA {S f off:Nat}{α β:Type}[Rep α][Rep β]{proj:α→β}{y:α}(hF:yr P S f off)(hH:zi α β off proj)(h:zC L t=some ⟨True,ref y⟩)
  (k:zx P ops n rest aux ((d,⟨True,ref (proj y)⟩)::L) B K) (hB:yl B d=false:=by exact rfl):
  zx P ops n (⟨some d,.fieldAddr S (.tmp t) f,ty,pos,after,none⟩::rest) ((xr,[])::aux) L B K:=.consA (.fieldAddr .none hF hH (.s h)) hB k
theorem zx.c {op:Op}{g:Option (Nat×Bool)}{E:Ent}(h:zg P ops n ⟨some d,op,ty,pos,after,g⟩ L B ([],[]) E [])(k:zx P ops n rest [] ((d,E)::L) B K)(hB:yl B d=false:=by exact rfl):
  zx P ops n (⟨some d,op,ty,pos,after,g⟩::rest) [] L B K:=.cons h hB k
theorem zx.cA {op:Op}{g:Option (Nat×Bool)}{E:Ent}(h:zg P ops n ⟨some d,op,ty,pos,after,g⟩ L B (xr,[]) E [])(k:zx P ops n rest aux ((d,E)::L) B K)(hB:yl B d=false:=by exact rfl):
  zx P ops n (⟨some d,op,ty,pos,after,g⟩::rest) ((xr,[])::aux) L B K:=.consA h hB k
theorem zx.cN {op:Op}{g:Option (Nat×Bool)}{E:Ent}{xs:List Nat}{V:Nat×Option ze}{Ws:yS}(h:zg P ops n ⟨none,op,ty,pos,after,g⟩ L B (xr,xs) E (V::Ws))(k:zx P ops n rest aux L (V::(Ws++B)) K)
  (hx:(V::Ws).map (·.1)=xs:=by exact rfl):zx P ops n (⟨none,op,ty,pos,after,g⟩::rest) ((xr,xs)::aux) L B K:=.consN h hx k
theorem zx.cW {op:Op}{g:Option (Nat×Bool)}{E:Ent}{xs:List Nat}{V:Nat×Option ze}{Ws:yS}(h:zg P ops n ⟨some d,op,ty,pos,after,g⟩ L B (xr,xs) E (V::Ws))(k:zx P ops n rest aux ((d,E)::L) (V::(Ws++B)) K)
  (hx:(V::Ws).map (·.1)=xs:=by exact rfl) (hB:yl B d=false:=by exact rfl):zx P ops n (⟨some d,op,ty,pos,after,g⟩::rest) ((xr,xs)::aux) L B K:=.consW h hx hB k
theorem zx.ixO {T E E' u:Nat}{s:Value}{α:Type}[Rep α]{l:List α}{j:Int}(q:Nat)(hT:qv P T E)(hE:Ty P E α)(hx:zC L t=some ⟨True,isV s⟩)(hk:zm B q=some (ze.at s (zq E' l)))(hi:zC L u=some ⟨True,rep j⟩)
  (hb:0≤j∧j<l.length) (k:zx P ops n rest aux ((d,⟨True,isV (JC s (j.toNat*Rep.sz α+0))⟩)::L) B K) (hB:yl B d=false:=by exact rfl):
  zx P ops n (⟨some d,.indexAddr T (.tmp t) (.tmp u),ty,pos,after,none⟩::rest) (([q],[])::aux) L B K:=.consA (.indexAddrO (k:=q) .none hT hE (.s hx) hk (.s hi) (fun _=>hb)) hB k
theorem zx.ix {T E u:Nat}{α:Type}[Rep α][Inhabited α]{l:List α}{j:Int}(hT:qv P T E)(hE:Ty P E α)(hx:zC L t=some ⟨True,rep l⟩)(hi:zC L u=some ⟨True,rep j⟩)
  (hb:0≤j∧j<l.length) (k:zx P ops n rest [] ((d,⟨True,ref (gx l j)⟩)::L) B K) (hB:yl B d=false:=by exact rfl):
  zx P ops n (⟨some d,.indexAddr T (.tmp t) (.tmp u),ty,pos,after,none⟩::rest) [] L B K:=.cons (.indexAddr .none hT hE (.s hx) (.s hi) (fun _=>hb)) hB k
theorem zx.ixA {T E u:Nat}{α:Type}[Rep α][Inhabited α]{l:List α}{j:Int}(hT:qv P T E)(hE:Ty P E α)(hx:zC L t=some ⟨True,rep l⟩)(hi:zC L u=some ⟨True,rep j⟩)
  (hb:0≤j∧j<l.length) (k:zx P ops n rest aux ((d,⟨True,ref (gx l j)⟩)::L) B K) (hB:yl B d=false:=by exact rfl):
  zx P ops n (⟨some d,.indexAddr T (.tmp t) (.tmp u),ty,pos,after,none⟩::rest) ((xr,[])::aux) L B K:=.consA (.indexAddr .none hT hE (.s hx) (.s hi) (fun _=>hb)) hB k
theorem zx.ex {i:Nat}{Ss:List zA}{S:zA}(h:zC L t=some ⟨True,tup Ss⟩)(hi:Ss[i]?=some S)(k:zx P ops n rest [] ((d,⟨True,S⟩)::L) B K)(hB:yl B d=false:=by exact rfl):
  zx P ops n (⟨some d,.extract (.tmp t) i,ty,pos,after,none⟩::rest) [] L B K:=.cons (.extract .none (.s h) hi) hB k
theorem zx.exA {i:Nat}{Ss:List zA}{S:zA}(h:zC L t=some ⟨True,tup Ss⟩)(hi:Ss[i]?=some S)(k:zx P ops n rest aux ((d,⟨True,S⟩)::L) B K)(hB:yl B d=false:=by exact rfl):
  zx P ops n (⟨some d,.extract (.tmp t) i,ty,pos,after,none⟩::rest) ((xr,[])::aux) L B K:=.consA (.extract .none (.s h) hi) hB k
theorem zx.mg {j tg:Nat}{want b:Bool}{c:Prop}{S:zA}(h1:(ops[j]?).bind (·.dst)=some tg)(h2:zC L tg=some ⟨c,rep b⟩)(h:zC L t=some ⟨True,S⟩)(k:zx P ops n rest [] ((d,⟨c∧b=want,S⟩)::L) B K)(hB:yl B d=false:=by exact rfl):
  zx P ops n (⟨some d,.move (.tmp t),ty,pos,after,some (j,want)⟩::rest) [] L B K:=.cons (.move (.at h1 h2) (.s h)) hB k
theorem zx.lg {j tg:Nat}{want b:Bool}{c:Prop}{T:TypeId}{α:Type}[Rep α]{y:α}(hT:Ty P T α)(h1:(ops[j]?).bind (·.dst)=some tg)(h2:zC L tg=some ⟨c,rep b⟩)(h:zC L t=some ⟨c∧b=want,ref y⟩)
  (k:zx P ops n rest [] ((d,⟨c∧b=want,rep y⟩)::L) B K) (hB:yl B d=false:=by exact rfl):
  zx P ops n (⟨some d,.load T (.tmp t),ty,pos,after,some (j,want)⟩::rest) [] L B K:=.cons (.load (.at h1 h2) hT (.tmp h id)) hB k
theorem zx.fg {j tg:Nat}{want b:Bool}{c:Prop}{S f off:Nat}{α β:Type}[Rep α][Rep β]{proj:α→β}{y:α}(hF:yr P S f off)(hH:zi α β off proj)(h1:(ops[j]?).bind (·.dst)=some tg)(h2:zC L tg=some ⟨c,rep b⟩)
  (h:zC L t=some ⟨True,ref y⟩) (k:zx P ops n rest [] ((d,⟨c∧b=want,ref (proj y)⟩)::L) B K) (hB:yl B d=false:=by exact rfl):
  zx P ops n (⟨some d,.fieldAddr S (.tmp t) f,ty,pos,after,some (j,want)⟩::rest) [] L B K:=.cons (.fieldAddr (.at h1 h2) hF hH (.s h)) hB k
theorem zx.pa {u:Nat}{b1 b2:Bool}(h1:zC L t=some ⟨True,rep b1⟩)(h2:zC L u=some ⟨True∧b1=true,rep b2⟩)(k:zx P ops n rest [] ((d,⟨True,rep (b1&&b2)⟩)::L) B K)(hB:yl B d=false:=by exact rfl):
  zx P ops n (⟨some d,.pick (.tmp t) (.tmp u) (.const (.bool false)),ty,pos,after,none⟩::rest) [] L B K:=.cons (.pickAnd .none (.s h1) (.tmp h2 id)) hB k
theorem zx.po {u:Nat}{b1 b2:Bool}(h1:zC L t=some ⟨True,rep b1⟩)(h2:zC L u=some ⟨True∧b1=false,rep b2⟩)(k:zx P ops n rest [] ((d,⟨True,rep (b1 || b2)⟩)::L) B K)(hB:yl B d=false:=by exact rfl):
  zx P ops n (⟨some d,.pick (.tmp t) (.const (.bool true)) (.tmp u),ty,pos,after,none⟩::rest) [] L B K:=.cons (.pickOr .none (.s h1) (.tmp h2 id)) hB k
theorem zx.lt {u:Nat}{T T':TypeId}{i j:Int}(h1:zC L t=some ⟨True,rep i⟩)(h2:zC L u=some ⟨True,rep j⟩)(k:zx P ops n rest [] ((d,⟨True,rep (decide (i<j))⟩)::L) B K)(hB:yl B d=false:=by exact rfl):
  zx P ops n (⟨some d,.binOp .lss T (.tmp t) (.tmp u) T',ty,pos,after,none⟩::rest) [] L B K:=.cons (.lt .none (.s h1) (.s h2)) hB k
theorem zx.add {u:Nat}{T T':TypeId}{i j:Int}(h1:zC L t=some ⟨True,rep i⟩)(h2:zC L u=some ⟨True,rep j⟩)(k:zx P ops n rest [] ((d,⟨True,rep (W (i+j))⟩)::L) B K)(hB:yl B d=false:=by exact rfl):
  zx P ops n (⟨some d,.binOp .add T (.tmp t) (.tmp u) T',ty,pos,after,none⟩::rest) [] L B K:=.cons (.addW .none (.s h1) (.s h2)) hB k
theorem zx.sub {u:Nat}{T T':TypeId}{i j:Int}(h1:zC L t=some ⟨True,rep i⟩)(h2:zC L u=some ⟨True,rep j⟩)(k:zx P ops n rest [] ((d,⟨True,rep (W (i - j))⟩)::L) B K)(hB:yl B d=false:=by exact rfl):
  zx P ops n (⟨some d,.binOp .sub T (.tmp t) (.tmp u) T',ty,pos,after,none⟩::rest) [] L B K:=.cons (.subW .none (.s h1) (.s h2)) hB k
theorem zx.asb {b:Bool}(k:zx P ops n rest [] ((d,⟨True,rep b⟩)::L) B K)(hB:yl B d=false:=by exact rfl):
  zx P ops n (⟨some d,.assign (.const (.bool b)),ty,pos,after,none⟩::rest) [] L B K:=.cons (.assign .none .bool) hB k
theorem Opd.i {G:Prop}{m:Int}(h:InI m:=by decide):Opd L G (.const (.int .i64 m)) (rep m):=.int h
theorem zx.addA {u:Nat}{T T':TypeId}{i j:Int}(h1:zC L t=some ⟨True,rep i⟩)(h2:zC L u=some ⟨True,rep j⟩)(k:zx P ops n rest aux ((d,⟨True,rep (W (i+j))⟩)::L) B K)(hB:yl B d=false:=by exact rfl):
  zx P ops n (⟨some d,.binOp .add T (.tmp t) (.tmp u) T',ty,pos,after,none⟩::rest) ((xr,[])::aux) L B K:=.consA (.addW .none (.s h1) (.s h2)) hB k
theorem zx.subA {u:Nat}{T T':TypeId}{i j:Int}(h1:zC L t=some ⟨True,rep i⟩)(h2:zC L u=some ⟨True,rep j⟩)(k:zx P ops n rest aux ((d,⟨True,rep (W (i - j))⟩)::L) B K)(hB:yl B d=false:=by exact rfl):
  zx P ops n (⟨some d,.binOp .sub T (.tmp t) (.tmp u) T',ty,pos,after,none⟩::rest) ((xr,[])::aux) L B K:=.consA (.subW .none (.s h1) (.s h2)) hB k
theorem zx.adi {T T':TypeId}{i j:Int}(h1:zC L t=some ⟨True,rep i⟩)(k:zx P ops n rest [] ((d,⟨True,rep (W (i+j))⟩)::L) B K)(hj:InI j:=by decide)(hB:yl B d=false:=by exact rfl):
  zx P ops n (⟨some d,.binOp .add T (.tmp t) (.const (.int .i64 j)) T',ty,pos,after,none⟩::rest) [] L B K:=.cons (.addW .none (.s h1) (.int hj)) hB k
theorem zx.eqi {T T':TypeId}{i j:Int}(h1:zC L t=some ⟨True,rep i⟩)(k:zx P ops n rest [] ((d,⟨True,rep (decide (i=j))⟩)::L) B K)(hj:InI j:=by decide)(hB:yl B d=false:=by exact rfl):
  zx P ops n (⟨some d,.binOp .eql T (.tmp t) (.const (.int .i64 j)) T',ty,pos,after,none⟩::rest) [] L B K:=.cons (.eqI .none (.s h1) (.int hj)) hB k
theorem zx.nei {T T':TypeId}{i j:Int}(h1:zC L t=some ⟨True,rep i⟩)(k:zx P ops n rest [] ((d,⟨True,rep (!decide (i=j))⟩)::L) B K)(hj:InI j:=by decide)(hB:yl B d=false:=by exact rfl):
  zx P ops n (⟨some d,.binOp .neq T (.tmp t) (.const (.int .i64 j)) T',ty,pos,after,none⟩::rest) [] L B K:=.cons (.neI .none (.s h1) (.int hj)) hB k
theorem zx.ra {α:Type}[Rep α]{e v:α}(hv:v=e)(h:zC L t=some ⟨True,rep e⟩)(k:zx P ops n rest [] ((d,⟨True,rep v⟩)::L) B K)(hB:yl B d=false:=by exact rfl):
  zx P ops n (⟨some d,.assign (.tmp t),ty,pos,after,none⟩::rest) [] L B K:=.cons (.re hv (.assign .none (.s h))) hB k
theorem zx.rlA {T:TypeId}{α:Type}[Rep α]{y v:α}(hv:v=y)(hT:Ty P T α)(h:zC L t=some ⟨True,ref y⟩)(k:zx P ops n rest aux ((d,⟨True,rep v⟩)::L) B K)(hB:yl B d=false:=by exact rfl):
  zx P ops n (⟨some d,.load T (.tmp t),ty,pos,after,none⟩::rest) ((xr,[])::aux) L B K:=.consA (.re hv (.load .none hT (.s h))) hB k
theorem zx.st {T T' u:Nat}{α:Type}[Rep α]{y y0:α}(hT:Ty P T α)(hl:zm B t=some (zM T' y0))(ht:Nat.blt t n=true)(hx:zC L u=some ⟨True,rep y⟩)(k:zx P ops n rest aux L ((t,some (zM T' y))::([]++B)) K):
  zx P ops n (⟨none,.store T (.tmp t) (.tmp u),ty,pos,after,none⟩::rest) (([t],[t])::aux) L B K:=.consN (.store hT hl ht (.s hx)) rfl k
theorem zx.ln {T E:Nat}{α:Type}[Rep α]{l:List α}(hT:qv P T E)(h:zC L t=some ⟨True,rep l⟩)(k:zx P ops n rest [] ((d,⟨True,rep (l.length:Int)⟩)::L) B K)(hB:yl B d=false:=by exact rfl):
  zx P ops n (⟨some d,.call { callee:=.builtin .len,args:=#[.tmp t],argTypes:=#[T] },ty,pos,after,none⟩::rest) [] L B K:=.cons (.len .none hT (.s h)) hB k
theorem zx.al {T:Nat}{α:Type}[Rep α]{z:α}(hz:qa P T z)(hd:Nat.blt d n=true)(k:zx P ops n rest aux ((d,⟨True,z7⟩)::L) ((d,some (zM T z))::([]++B)) K)(hB:yl B d=false:=by exact rfl):
  zx P ops n (⟨some d,.alloc T,ty,pos,after,none⟩::rest) (([],[d])::aux) L B K:=.consW (.alloc hz hd) rfl hB k
theorem zx.s0 {T T' m u:Nat}{α:Type}[Rep α]{y0 z:α}(q:Nat)(hT:Ty P T α)(hl:zm B q=some (qb m T' y0))(hp:zC L t=some ⟨True,isV (ptr m 0)⟩)(hx:zC L u=some ⟨True,rep z⟩)
  (k:zx P ops n rest aux L ((q,some (qb m T' z))::([]++B)) K):zx P ops n (⟨none,.store T (.tmp t) (.tmp u),ty,pos,after,none⟩::rest) (([q],[q])::aux) L B K:=.consN (.storeAt0 (g:=q) hT hl (.s hp) (.s hx)) rfl k
end
section
variable {P:Program} {ops:Array Oper} {fs:Nat} {L:zr} {B:zp} {ty:TypeId} {pos:String} {after:Array Edge}
theorem zg.cO {d:Option Nat}{f:Nat}{xs:Array Operand}{ts:Array TypeId}{Ss:List zA}{Os:jD}{S:zA}{outs:List (Option ze)}{V:Nat×Option ze}{Ws:yS}{xk:List Nat}(ks:List Nat)(hspec:ya P f Ss Os S outs)
  (hx:jw L True xs.toList Ss) (hH:vX B ks Os) (hW:jT (Os.map (·.1)) ks d outs=V::Ws) (hnd:(ks++d.toList).Nodup:=by decide) (hxk:∀k∈ks,k∈xk:=by decide) (hd:∀d',d=some d'→d'<fs:=by intro d h;cases h;decide):
  zg P ops fs ⟨d,.call { callee:=.value (.func f),args:=xs,argTypes:=ts },ty,pos,after,none⟩ L B (ks,xk) ⟨True,S⟩ (V::Ws):=.callO ks hspec hx hH hW hnd hxk hd
end
section
variable {P:Program} {Q:Exit→Act→World→Prop} {n:Nat} {F:Fr} {L:zr} {B:zp}
theorem Cod.sr {id:Nat}{l:List Oper}{draw:Bool}{y:Code}(aux:List Aux)(hm:P.follows .mixedOrders=true)
  (h:zx P l.toArray n l aux L B (fun L' B'=>Cod P y Q n F L' B')) (hok:J5 n l.toArray aux=true:=by kernel_rfl):Cod P (.seq (.region id l.toArray draw) y) Q n F L B:=
 .seq (.region aux hm hok h)
theorem Cod.rg {id:Nat}{l:List Oper}{draw:Bool}(aux:List Aux)(hm:P.follows .mixedOrders=true)
  (h:zx P l.toArray n l aux L B (fun L' B'=>zb Q .normal n F L' B')) (hok:J5 n l.toArray aux=true:=by kernel_rfl):Cod P (.region id l.toArray draw) Q n F L B:=
 .region aux hm hok h
theorem Cod.sn {id:Nat}{l:List Oper}{draw:Bool}{y:Code}(hm:P.follows .mixedOrders=true)(h:zx P l.toArray n l [] L B (fun L' B'=>Cod P y Q n F L' B'))(hok:J5 n l.toArray []=true:=by kernel_rfl):
  Cod P (.seq (.region id l.toArray draw) y) Q n F L B:=.sr [] hm h hok
theorem Cod.rn {id:Nat}{l:List Oper}{draw:Bool}(hm:P.follows .mixedOrders=true)(h:zx P l.toArray n l [] L B (fun L' B'=>zb Q .normal n F L' B'))(hok:J5 n l.toArray []=true:=by kernel_rfl):
  Cod P (.region id l.toArray draw) Q n F L B:=.rg [] hm h hok
theorem Cod.tJ {x y:Code}(prop:Unit→Prop){keep:zr}{keepB:zp}(hk:Sub L keep)(hkB:zd B keepB)(h:Cod P x (Exit.then (fun a w=>∃j:Unit,prop j∧Sat n F ((fun _=>([]:zr)) j++keep) ((fun _=>([]:zp)) j++keepB) a w) Q) n F L B)
  (k:∀i:Unit,prop i→Cod P y Q n F ((fun _=>([]:zr)) i++keep) ((fun _=>([]:zp)) i++keepB)):Cod P x (Exit.then (y.wp P Q) Q) n F L B:=.thenJ (fun _=>[]) (fun _=>[]) prop hk hkB h k
theorem Sub.k4 {e1 e2 e3 e4:Ent}{L':zr}(a b c d:Nat)(h1:zC L a=some e1)(h2:zC L b=some e2)(h3:zC L c=some e3)(h4:zC L d=some e4)(r:Sub L L'):Sub L ((a,e1)::(b,e2)::(c,e3)::(d,e4)::L'):=.cons h1 (.cons h2 (.cons h3 (.cons h4 r)))
theorem Sub.k2 {e1 e2:Ent}{L':zr}(a b:Nat)(h1:zC L a=some e1)(h2:zC L b=some e2)(r:Sub L L'):Sub L ((a,e1)::(b,e2)::L'):=.cons h1 (.cons h2 r)
theorem zd.k2 {C1 C2:ze}{B':zp}(a b:Nat)(h1:zm B a=some C1)(h2:zm B b=some C2)(r:zd B B'):zd B ((a,some C1)::(b,some C2)::B'):=.cons h1 (.cons h2 r)
theorem Cod.cb {t:Nat}{x y:Code}{b:Bool}{β:Type}{A C r:Option β}(hl:zC L t=some ⟨True,rep b⟩)(h:(bif b then A else C)=r)
  (h1:b=true→A=r→Cod P x Q n F L B) (h2:b=false→C=r→Cod P y Q n F L B):Cod P (.cond (.tmp t) x y) Q n F L B:=
 .cond hl trivial (fun hb=>h1 hb (zor h hb)) (fun hb=>h2 hb (zoq h hb))
inductive Jr (L:zr):zr→Prop
 | n:Jr L []
 | c {t:Nat} {e:Ent} {L':zr} (h:zC L t=some e) (k:Jr L L'):Jr L ((t,e)::L')
inductive Js (B:zp):zp→Prop
 | n:Js B []
 | c {t:Nat} {e:ze} {B':zp} (h:zm B t=some e) (k:Js B B'):Js B ((t,some e)::B')
theorem Jr.sub {L L':zr}(h:Jr L L'):Sub L L':=by
 induction h with
 | n=>exact .nil
 | c h _ ih=>exact .cons h ih
theorem Js.sub {B B':zp}(h:Js B B'):zd B B':=by
 induction h with
 | n=>exact .nil
 | c h _ ih=>exact .cons h ih
theorem zb.j {ι:Type}{Ls:ι→zr}{Bs:ι→zp}{prop:ι→Prop}{keep:zr}{keepB:zp}(j:ι)(hp:prop j)(h:Jr L (Ls j++keep):=by repeat constructor)(hB:Js B (Bs j++keepB):=by repeat constructor):
  zb (Exit.then (fun a w=>∃j,prop j∧Sat n F (Ls j++keep) (Bs j++keepB) a w) Q) .normal n F L B:=.join j hp h.sub hB.sub
theorem zb.ag {σ ρ:Type}{o:zL σ ρ}{Ls:σ→zr}{Bs:σ→zp}{keep:zr}{keepB:zp}{s':σ}(ho:o = .again s')(h:Jr L (Ls s'++keep):=by repeat constructor)(hB:Js B (Bs s'++keepB):=by repeat constructor):
  zb (Exit.then (fun a w=>∃s',o = .again s'∧Sat n F (Ls s'++keep) (Bs s'++keepB) a w) Q) .normal n F L B:=.againL ho h.sub hB.sub
theorem zb.rt {fn:Func}{e:Exit}{t:Nat}{S:zA}(hr:fn.results=#[.tmp t])(h:zC L t=some ⟨True,S⟩)(he:e = .ret∨e = .normal:=by exact .inl rfl):zb (bodyPost P fn (QG F S)) e n F L B:=
 .ret1 he hr (.tmp h trivial Imp.refl)
theorem Cod.fb {c:Code}{T m:Nat}{α:Type}[Rep α]{y:α}(q:Nat)(ts:List Nat)(hl:zm B q=some (qb m T y))(hts:Qt L (ptr m 0) ts)(k:Cod P c Q n F (Yi (ref y) ts L) []):Cod P c Q n F L B:=.freezeBox hl hts .nil rfl k
theorem zb.r2 {fn:Func}{e:Exit}{t t2 T:Nat}{S2:zA}{α:Type}[Rep α]{y:α}(hr:fn.results=#[.cell t T,.tmp t2])(hT:Ty P T α)(h:zC L t=some ⟨True,ref y⟩)(h2:zC L t2=some ⟨True,S2⟩)(he:e = .ret∨e = .normal:=by exact .inl rfl):
  zb (bodyPost P fn (QG F (tup [rep y,S2]))) e n F L B:=.ret2 he hr (.cellR hT h trivial Imp.refl) (.tmp h2 trivial Imp.refl)
theorem zk.i {f:Nat}{fn:Func}{c:Code}{Ss:List zA}{S:zA}(hf:P.funcs[f]?=some fn)(hb:fn.body=some c)(hn:fn.ntmps=n)(hle:Nat.ble Ss.length n=true)
  (h:∀F,Cod P c (bodyPost P fn (QG F S)) n F (Jt 0 Ss) []) (hN:(fn.name=="runtime.NumGoroutine")=false:=by kernel_rfl) (hB:fn.body.isNone=false:=by kernel_rfl):zk P f Ss S:=.intro ⟨fn,hf,hN,hB⟩ hf hb hn hle h
theorem ya.i {f:Nat}{fn:Func}{c:Code}{Ss:List zA}{Os:jD}{S:zA}{outs:List (Option ze)}(hf:P.funcs[f]?=some fn)(hb:fn.body=some c)(hn:fn.ntmps=n)(hle:Nat.ble Ss.length n=true)
  (h:∀F,Cod P c (bodyPost P fn (vE F S (Os.map (·.1)) outs)) n F (Jt 0 Ss) (za6 n Os)) (hN:(fn.name=="runtime.NumGoroutine")=false:=by kernel_rfl) (hB:fn.body.isNone=false:=by kernel_rfl):ya P f Ss Os S outs:=.intro ⟨fn,hf,hN,hB⟩ hf hb hn hle h
end
end Go.DB
namespace Go.DB
open Go Go.RowKit
section
variable {P:Program} {Q:Exit→Act→World→Prop} {n:Nat} {F:Fr} {L:zr} {B:zp}
end
section
variable {P:Program} {ops:Array Oper} {fs:Nat} {L:zr} {B:zp} {ty:TypeId} {pos:String} {after:Array Edge} {d:Option Tmp} {xr:List Nat}
end
end Go.DB
namespace Go.DB
open Go Go.RowKit
section
variable {P:Program} {ops:Array Oper} {fs:Nat} {L:zr} {B:zp} {ty:TypeId} {pos:String} {after:Array Edge} {g:Option (Nat×Bool)}
end
section
variable {P:Program} {ops:Array Oper} {fs:Nat} {L:zr} {B:zp} {d:Option Tmp} {ty:TypeId} {pos:String} {after:Array Edge} {g:Option (Nat×Bool)} {G:Prop}
variable {K V:Type} [Rep K] [DecidableEq K] [MKey K] [Rep V] {m:GMap K V} {k:K} {z:V} {T kt et:TypeId}
end
end Go.DB
namespace Go.DB
open Go Go.RowKit
theorem ya.frzG {P:Program}{f:Nat}{Ss:List zA}{α:Type}[Rep α]{x:α}{C:ze}(h:ya P f Ss [] z7 [some C])
  (hF:∀M D v w,C.p M D v w→(∀k,M k→k<w.heap.size)→(rep x).p (fun k=>M k∧¬D k) v w):zk P f Ss (rep x):=
 ⟨h.ok,fun M w vs hM ha=>Calls.mono (h.calls M (fun _=>NoM) w vs hM ha ⟨fun i s c h=>by simp at h,fun i j x y h=>by simp at h⟩) fun e w' ⟨v,M',D',he,hk,hml,hmh,hms,hS,hO,_⟩=>by
  have no:∀k,¬DU (fun _=>NoM) ([]:jD).length k:=fun k ⟨i,hi,_⟩=>by simp at hi
  obtain⟨h1,h2⟩:=hO 0 _ rfl
  have h3:=hF M' (D' 0) _ w' h1 hms
  refine⟨⟨hk.os,hk.tape,hk.output,hk.size,fun k hlt _=>hk.block k hlt (no k)⟩,v,he,(rep x).law _ M v w' w' (zy.refl _ _) (fun k hk2=>.inl ⟨(hml k hk2).resolve_right (no k),fun hd=>?_⟩) h3⟩
  rcases h2 k hd with h4 | h4
  ·
   exact no k h4
  ·
   have:=hM k hk2;simp only at h4;omega⟩
section
variable {P:Program} {ops:Array Oper} {fs:Nat} {L:zr} {B:zp} {d:Option Tmp} {ty:TypeId} {pos:String} {after:Array Edge} {g:Option (Nat×Bool)} {G:Prop}
end
section
variable {P:Program} {ops:Array Oper} {fs:Nat} {L:zr} {B:zp} {d:Option Tmp} {ty:TypeId} {pos:String} {after:Array Edge} {g:Option (Nat×Bool)} {xr:List Nat}
end
end Go.DB
namespace Go.DB
open Go Go.RowKit
section
variable {K K2 V:Type} [Rep K] [Rep K2] [Rep V]
def YE (M D:zj)(w:World):Option (GMap K2 V)→Option Raw→Prop
 | some l,some s=>(zR l).p M D s.v w
 | none,none=>True
 | _,_=>False
theorem YE.law {M M' D:zj}{w w':World}{a:Option (GMap K2 V)}{b:Option Raw}(hk:zy M w w')(hm:∀k,M' k→M k∨w.heap.size≤k)(ho:∀k,D k→M' k∧w'.heap[k]?=w.heap[k]?)(h:YE M D w a b):YE M' D w' a b:=by
 match a,b,h with
 | some l,some s,h=>exact(zR l).law M M' D s.v w w' hk hm ho h
 | none,none,h=>exact h
def yd (h:Option (K×Value))(m:GMap K (GMap K2 V)):ze where
 p:=fun M D v w=>∃(r:GMap K Raw) (Dm:zj) (Dr:K→zj),(zR r).p M Dm v w∧(∀k s,h=some (k,s)→r.f k=some ⟨s⟩∧(m.f k).isSome=true)∧(∀k,(∀s,h≠some (k,s))→YE M (Dr k) w (m.f k) (r.f k))∧
  (∀j,D j→M j)∧(∀j,(Dm j∨∃k,Dr k j)→D j)∧(∀k j,Dr k j→¬Dm j)∧∀k k' j,Dr k j→Dr k' j→k=k'
 inM:=fun M D v w ⟨r,Dm,Dr,_,_,_,h3,_⟩ k hk=>h3 k hk
 law:=fun M M' D v w w' hk hm hown ⟨r,Dm,Dr,h1,hp,h2,h3,h4,h5,h6⟩=>by
  have o1:∀j,Dm j→D j:=fun j h=>h4 j (.inl h)
  have o2:∀k j,Dr k j→D j:=fun k j h=>h4 j (.inr ⟨k,h⟩)
  exact⟨r,Dm,Dr,(zR r).law M M' Dm v w w' hk hm (fun j h=>hown j (o1 j h)) h1,hp,fun k hn=>(h2 k hn).law hk hm (fun j h=>hown j (o2 k j h)),fun j h=>(hown j h).1,h4,h5,h6⟩
variable {m:GMap K (GMap K2 V)} {M D:zj} {v:Value} {w:World} {h:Option (K×Value)}
theorem zrk (h1:(yd h m).p M D v w):∃b,v = .map (some b):=by
 obtain⟨r,Dm,Dr,h1,_⟩:=h1
 exact za1 h1
theorem zeQ:Q4 (yd h m):=fun _ _ _ _ h=>by
 obtain⟨b,hv⟩:=zrk h
 rw[hv];exact⟨rfl,rfl⟩
theorem zrl {k:K}(hk:m.has k=true)(h:(yd none m).p M D v w):(yg (fun z=>yd (some (k,z)) m) (zR (m.getD k GMap.nil))).p M D v w:=by
 obtain⟨r,Dm,Dr,h1,hp,h2,h3,h4,h5,h6⟩:=h
 have hf:=h2 k (fun s e=>by cases e)
 unfold GMap.has at hk
 cases hmk:m.f k with
 | none=>rw[hmk]at hk;cases hk
 | some x=>
  rw[hmk]at hf
  cases hrk:r.f k with
  | none=>rw[hrk]at hf;exact hf.elim
  | some s=>
   rw[hrk]at hf
   refine⟨s.v,fun j=>D j∧¬Dr k j,Dr k,⟨r,Dm,fun k' j=>k'≠k∧Dr k' j,h1,fun k' s' e=>?_,fun k' hn=>?_,fun j h=>h3 j h.1,fun j h=>?_,fun k' j h=>h5 k' j h.2,fun k1 k2 j a1 a2=>h6 k1 k2 j a1.2 a2.2⟩,?_,fun j=>?_,fun j h h'=>h.2 h'⟩
   ·
    simp only[Option.some.injEq,Prod.mk.injEq]at e
    obtain⟨rfl,rfl⟩:=e
    exact⟨hrk,by rw[hmk];rfl⟩
   ·
    have hne:k'≠k:=fun e=>hn s.v (by rw[e])
    have e:(fun j=>k'≠k∧Dr k' j)=Dr k':=by
     funext j;exact propext ⟨fun h=>h.2,fun h=>⟨hne,h⟩⟩
    show YE M (fun j=>k'≠k∧Dr k' j) w _ _
    rw[e];exact h2 k' (fun s e=>by cases e)
   ·
    rcases h with h | ⟨k',h,h'⟩
    ·
     exact⟨h4 j (.inl h),fun hd=>h5 k j hd h⟩
    ·
     exact⟨h4 j (.inr ⟨k',h'⟩),fun hd=>h (h6 k' k j h' hd)⟩
   ·
    have e:m.getD k GMap.nil=x:=by unfold GMap.getD;rw[hmk];rfl
    rw[e];exact hf
   ·
    constructor
    ·
     intro h
     by_cases hd:Dr k j
     ·
      exact .inr hd
     ·
      exact .inl ⟨h,hd⟩
    ·
     rintro(h | h)
     ·
      exact h.1
     ·
      exact h4 j (.inr ⟨k,h⟩)
theorem zrj [DecidableEq K]{k:K}{x:GMap K2 V}(h:(yg (fun z=>yd (some (k,z)) m) (zR x)).p M D v w):(yd none (m.set k x)).p M D v w:=by
 obtain⟨z,D1,D2,⟨r,Dm,Dr,h1,hp,h2,h3,h4,h5,h6⟩,hx,hD,hap⟩:=h
 obtain⟨hrk,hmk⟩:=hp k z rfl
 have inD:∀j,D2 j→M j:=fun j hj=>ze.inM _ M D2 _ w hx j hj
 refine⟨r,Dm,fun k' j=>if k'=k then D2 j else Dr k' j,h1,(fun k' s e=>by cases e),fun k' _=>?_,fun j h=>?_,fun j h=>?_,fun k' j h=>?_,fun k1 k2 j a1 a2=>?_⟩
 ·
  show YE M (fun j=>if k'=k then D2 j else Dr k' j) w (if k'=k then some x else m.f k') (r.f k')
  by_cases e:k'=k
  ·
   subst e
   simp only[if_true]
   rw[hrk];exact hx
  ·
   simp only[if_neg e]
   exact h2 k' (fun s he=>by simp only[Option.some.injEq,Prod.mk.injEq]at he;exact e he.1.symm)
 ·
  rcases(hD j).1 h with h | h
  ·
   exact h3 j h
  ·
   exact inD j h
 ·
  rcases h with h | ⟨k',h⟩
  ·
   exact(hD j).2 (.inl (h4 j (.inl h)))
  ·
   by_cases e:k'=k
   ·
    rw[if_pos e]at h;exact(hD j).2 (.inr h)
   ·
    rw[if_neg e]at h;exact(hD j).2 (.inl (h4 j (.inr ⟨k',h⟩)))
 ·
  simp only at h
  by_cases e:k'=k
  ·
   rw[if_pos e]at h
   exact fun hd=>hap j (h4 j (.inl hd)) h
  ·
   rw[if_neg e]at h;exact h5 k' j h
 ·
  simp only at a1 a2
  by_cases c1:k1=k<;>by_cases c2:k2=k
  ·
   rw[c1,c2]
  ·
   rw[if_pos c1]at a1;rw[if_neg c2]at a2
   exact absurd a1 (hap j (h4 j (.inr ⟨k2,a2⟩)))
  ·
   rw[if_neg c1]at a1;rw[if_pos c2]at a2
   exact absurd a2 (hap j (h4 j (.inr ⟨k1,a1⟩)))
  ·
   rw[if_neg c1]at a1;rw[if_neg c2]at a2
   exact h6 k1 k2 j a1 a2
theorem zkT (h:(yd none m).p M D v w)(hms:∀k,M k→k<w.heap.size):(rep m).p (fun k=>M k∧¬D k) v w:=by
 obtain⟨r,Dm,Dr,⟨b,es,clock,l,hv,hD,hM,hh,hi⟩,_,h2,h3,h4,h5,h6⟩:=h
 have hfit:∀k s,r.f k=some s→∃x,m.f k=some x∧(zR x).p M (Dr k) s.v w:=fun k s hk=>by
  have:=h2 k (fun s e=>by cases e)
  rw[hk]at this
  cases hm:m.f k with
  | none=>rw[hm]at this;exact this.elim
  | some x=>rw[hm]at this;exact⟨x,rfl,this⟩
 have hnone:∀k,r.f k=none→m.f k=none:=fun k hk=>by
  have:=h2 k (fun s e=>by cases e)
  rw[hk]at this
  cases hm:m.f k with
  | none=>rfl
  | some x=>rw[hm]at this;exact this.elim
 refine Ji.2 (.inr ⟨b,es,clock,l.map (fun x=>(x.1,(m.f x.1).getD GMap.nil)),hv,fun hb=>hb.2 (h4 b (.inl ((hD b).2 rfl))),hms b hM,hh,⟨?_,?_,hi.born,hi.low⟩⟩)
 ·
  refine⟨by rw[List.length_map];exact hi.ents.1,fun j e x hj hx=>?_⟩
  rw[List.getElem?_map]at hx
  obtain⟨y,hy,rfl⟩:=Option.map_eq_some_iff.1 hx
  obtain⟨g1,g2⟩:=hi.ents.2 j e y hj hy
  have hr:=(hi.lists.mem y.1 y.2).1 (List.mem_of_getElem? hy)
  obtain⟨x,hm,hR⟩:=hfit _ _ hr
  have hval:e.val=y.2.v:=(yH.1 g2).1
  refine⟨zfx g1 (fun k hk=>hk.1),?_⟩
  show(rep ((m.f y.1).getD GMap.nil)).p _ e.val w
  rw[hm,Option.getD_some,hval]
  exact zfx (zkU hR hms) (fun k hk=>⟨hk.1,fun hd=>hk.2 (h4 k (.inr ⟨_,hd⟩))⟩)
 ·
  refine⟨?_,fun k x=>?_⟩
  ·
   rw[List.map_map]
   exact hi.lists.nodup
  ·
   constructor
   ·
    intro hin
    obtain⟨y,hy,he⟩:=List.mem_map.1 hin
    have hr:=(hi.lists.mem y.1 y.2).1 hy
    obtain⟨v',hm,_⟩:=hfit _ _ hr
    simp only[Prod.mk.injEq]at he
    obtain⟨rfl,rfl⟩:=he
    rw[hm];rfl
   ·
    intro hm
    cases hr:r.f k with
    | none=>rw[hnone k hr]at hm;cases hm
    | some s=>exact List.mem_map.2 ⟨(k,s),(hi.lists.mem k s).2 hr,by simp[hm]⟩
theorem zj1:YF (yd none m) m:=fun M D s w h hms=>zkT h hms
end
theorem ya.frzD {P:Program}{f:Nat}{Ss:List zA}{K K2 V:Type}[Rep K][Rep K2][Rep V]{m:GMap K (GMap K2 V)}(h:ya P f Ss [] z7 [some (yd none m)]):zk P f Ss (rep m):=h.frzG (fun M D v w h hms=>zj1 M D v w h hms)
section
variable {P:Program} {ops:Array Oper} {fs:Nat} {L:zr} {B:zp} {G:Prop}
variable {ty:TypeId} {pos:String} {after:Array Edge} {g:Option (Nat×Bool)} {xr:List Nat} {d:Option Tmp}
variable {K K2 V:Type} [Rep K] [DecidableEq K] [MKey K] [Rep K2] [Rep V] {T kt et:TypeId} {m:GMap K (GMap K2 V)} {k:K} {hole:Option (K×Value)}
omit [DecidableEq K] [MKey K]in
theorem zg.makeMapD {d:Nat}(hd:Nat.blt d fs=true):
  zg P ops fs ⟨some d,.makeMap T none,ty,pos,after,none⟩ L B ([],[d]) ⟨True,z7⟩ [(d,some (yd none (GMap.nil:GMap K (GMap K2 V))))]:=by
 refine .doing fun M D a w hsz hm hs _=>?_
 refine zW.value (v:=.map (some w.heap.size)) (w':=w.alloc (.map #[] 0)) rfl (.one (fun k=>M k∨k=w.heap.size) (fun k=>k=w.heap.size) (Ext.alloc _ _) (fun k h=>.inl h) (fun k h=>h.imp id (by omega)) (fun k h=>?_) ⟨fun _=>trivial,fun hf=>(hf trivial).elim⟩ ?_ (fun k h=>by omega))
 ·
  rw[jW]
  rcases h with h | h
  ·
   have:=hm k h;omega
  ·
   omega
 ·
  rw[jl (by rw[hsz];exact Nat.le_of_ble_eq_true hd)]
  refine⟨GMap.nil,fun k=>k=w.heap.size,fun _ _=>False,⟨w.heap.size,#[],0,[],rfl,fun k=>Iff.rfl,.inr rfl,?_,⟨qP.nil,zD.nil,by simp,by simp⟩⟩,(fun k s e=>by cases e),fun k _=>trivial,fun j h=>.inr h,fun j h=>h.elim id (fun⟨_,h⟩=>h.elim),fun _ _ h=>h.elim,fun _ _ _ h=>h.elim⟩
  show(w.heap.push _)[w.heap.size]?=_
  rw[Array.getElem?_push_size]
theorem zg.lookPin {q:Nat}{x y:Operand}{s z:Value}(hg:zY ops g L G)(hT:qM P T kt et (MKey.desc K))(hz:qa P et (⟨.map none⟩:Raw))(hx:Opd L G x (isV s))(hq:zm B q=some (ze.at s (yd (some (k,z)) m)))(hy:Opd L G y (rep k)):
  zg P ops fs ⟨d,.lookup T x y false,ty,pos,after,g⟩ L B ([q],[]) ⟨G,isV z⟩ []:=
 .of hg fun M D a w hm hs hsB hG=>by
  have he:a.eval x=s:=(yH.1 (hx.get hs (fun t ht=>zB (by simp[Op.operands,ht])) hG)).1
  obtain⟨r,Dm,Dr,⟨b,es,clock,l,hv,hD,hM,hh,hi⟩,hp,_⟩:=hsB.has q (by simp) _ hq
  have hk:=hy.get hs (fun t ht=>zB (by simp[Op.operands,ht])) hG
  obtain⟨u,hu,hr⟩:=J6 (z:=(⟨.map none⟩:Raw)) hT hz hk hh hi false
  have hrk:=(hp k z rfl).1
  have e:r.getD k ⟨.map none⟩=⟨z⟩:=by unfold GMap.getD;rw[hrk];rfl
  rw[e]at hu
  refine zW.value (v:=u) (w':=w) ?_ ⟨zy.refl _ _,hu⟩
  simp only[execOp,he,hv];rw[Sem.run_bind,hr];rfl
theorem zg.mapPutD {q t:Nat}{x y:Operand}{s:Value}{l:GMap K2 V}(hT:qM P T kt et (MKey.desc K))(hqt:(q==t)=false)(hx:Opd L True x (isV s))(hq:zm B q=some (ze.at s (yd none m)))(ht:zm B t=some (zR l))(htn:Nat.blt t fs=true)(hy:Opd L True y (rep k)):
  zg P ops fs ⟨none,.mapUpdate T x y (.tmp t),ty,pos,after,none⟩ L B ([q,t],[q,t]) ⟨True,z7⟩ [(q,some (ze.at s (yd none (m.set k l)))),(t,none)]:=by
 have hqt:q≠t:=by simpa using hqt
 refine .doing fun M D a w hsz hm hs hsB=>?_
 have he:a.eval x=s:=(yH.1 (hx.get hs (fun t ht=>zB (by simp[Op.operands,ht])) trivial)).1
 obtain⟨r,Dm,Dr,⟨b,es,clock,es0,hv,hD,hM,hb,hi⟩,_,h2,h3,h4,h5,h6⟩:=hsB.has q (by simp) _ hq
 have hR:=hsB.has t (by simp) _ ht
 have hap:=hsB.apart q (by simp) t (by simp) _ _ hq ht hqt
 have hk:=hy.get hs (fun t ht=>zB (by simp[Op.operands,ht])) trivial
 obtain⟨b2,hv2⟩:=za1 hR
 have hx2:(rep (⟨Act.val a t⟩:Raw)).p M (Act.val a t) w:=yH.2 ⟨rfl,by rw[hv2];rfl,by rw[hv2];rfl⟩
 obtain⟨es',clock',l',hr,hi'⟩:=zdb (x:=(⟨Act.val a t⟩:Raw)) hT hk hx2 hb hi
 have hkm:zy Dm w { w with heap:=w.heap.setIfInBounds b (.map es' clock') }:=JO hD
 have hkq:zy (D q) w { w with heap:=w.heap.setIfInBounds b (.map es' clock') }:=hkm.mono (fun j _ h=>h4 j (.inl h))
 have hkM:zy M w { w with heap:=w.heap.setIfInBounds b (.map es' clock') }:=hkm.mono (fun j _ h=>(hD j).1 h▸hM)
 have same:∀j,j≠b→(w.heap.setIfInBounds b (.map es' clock'))[j]?=w.heap[j]?:=fun j hj=>by simp[Array.getElem?_setIfInBounds,Ne.symm hj]
 have inR:∀j,D t j→M j:=fun j hj=>ze.inM _ M (D t) _ w hR j hj
 have nb:∀j,D t j→j≠b:=fun j hj e=>hap j (h4 j (.inl ((hD j).2 e))) hj
 refine zW.skip (w':={ w with heap:=w.heap.setIfInBounds b (.map es' clock') }) ?_ rfl (.merge hq ht hkq (fun j h=>by simpa using hm j h) ⟨fun _=>trivial,fun hf=>(hf trivial).elim⟩ ?_)
 ·
  have:a.eval (.tmp t)=Act.val a t:=Yg
  simp only[execOp,he,hv,this];rw[Sem.run_bind,hr];rfl
 ·
  rw[zai]
  have outR:∀k' j,Dr k' j→j≠b:=fun k' j h e=>h5 k' j h ((hD j).2 e)
  refine⟨r.set k ⟨Act.val a t⟩,Dm,fun k'=>if k'=k then D t else Dr k',⟨b,es',clock',l',hv,hD,hM,zaa hb,hi'.stay hkM (fun _ h=>h)⟩,(fun k' s e=>by cases e),fun k' _=>?_,fun j h=>h.elim (h3 j) (inR j),fun j h=>?_,fun k' j h=>?_,fun k1 k2 j a1 a2=>?_⟩
  ·
   show YE M (if k'=k then D t else Dr k') _ (if k'=k then some l else m.f k') (if k'=k then some ⟨Act.val a t⟩else r.f k')
   by_cases hkk:k'=k
   ·
    rw[if_pos hkk,if_pos hkk,if_pos hkk]
    exact(zR l).law M M (D t) _ w _ hkM (fun _ h=>.inl h) (fun j hj=>⟨inR j hj,same j (nb j hj)⟩) hR
   ·
    rw[if_neg hkk,if_neg hkk,if_neg hkk]
    exact(h2 k' (fun s e=>by cases e)).law hkM (fun _ h=>.inl h) (fun j hj=>⟨h3 j (h4 j (.inr ⟨k',hj⟩)),same j (outR k' j hj)⟩)
  ·
   rcases h with h | ⟨k',h⟩
   ·
    exact .inl (h4 j (.inl h))
   ·
    by_cases hkk:k'=k
    ·
     rw[if_pos hkk]at h;exact .inr h
    ·
     rw[if_neg hkk]at h;exact .inl (h4 j (.inr ⟨k',h⟩))
  ·
   intro hd
   simp only at h
   by_cases hkk:k'=k
   ·
    rw[if_pos hkk]at h;exact hap j (h4 j (.inl hd)) h
   ·
    rw[if_neg hkk]at h;exact h5 k' j h hd
  ·
   simp only at a1 a2
   by_cases c1:k1=k<;>by_cases c2:k2=k
   ·
    rw[c1,c2]
   ·
    rw[if_pos c1]at a1;rw[if_neg c2]at a2
    exact absurd a1 (hap j (h4 j (.inr ⟨k2,a2⟩)))
   ·
    rw[if_neg c1]at a1;rw[if_pos c2]at a2
    exact absurd a2 (hap j (h4 j (.inr ⟨k1,a1⟩)))
   ·
    rw[if_neg c1]at a1;rw[if_neg c2]at a2
    exact h6 k1 k2 j a1 a2
end
section
variable {Q:Exit→Act→World→Prop} {P:Program} {n:Nat} {F:Fr} {L:zr} {B:zp}
variable {K K2 V:Type} [Rep K] [Rep K2] [Rep V] {m:GMap K (GMap K2 V)} {s:Value}
theorem Cod.openM {c:Code}{q r:Nat}{k:K}(hl:zm B q=some (ze.at s (yd none m)))(hg:zm B r=none)(hk:m.has k=true)
  (h:∀z,Cod P c Q n F L ((r,some (ze.at z (zR (m.getD k GMap.nil))))::(q,some (ze.at s (yd (some (k,z)) m)))::(q,some (ze.at s (yg (fun z=>yd (some (k,z)) m) (zR (m.getD k GMap.nil)))))::B)):Cod P c Q n F L B:=by
 have hgk:¬q=r:=fun e=>by subst e;rw[hg]at hl;cases hl
 exact .tellK (C':=ze.at s (yg (fun z=>yd (some (k,z)) m) (zR (m.getD k GMap.nil)))) hl (fun M D v w h=>by have h':(yd none m).p M D s w:=h;exact zrl hk h') (.open (k:=q) (g:=r) za0 (by simp only[zm];rw[yx hgk];exact hg) h)
theorem zb.closeM [DecidableEq K]{e:Exit}{q r:Nat}{k:K}{z:Value}{x:GMap K2 V}(hl:zm B q=some (ze.at s (yd (some (k,z)) m)))(hg:zm B r=some (ze.at z (zR x)))(hgk:(r==q)=false)
  (h:zb Q e n F L ((q,some (ze.at s (yd none (m.set k x))))::(r,none)::(q,some (ze.at s (yg (fun z=>yd (some (k,z)) m) (zR x))))::B)):zb Q e n F L B:=by
 have hgk':¬r=q:=by simpa using hgk
 exact .close (k:=q) (g:=r) (fun z=>yd (some (k,z)) m) hl hg hgk (.tellK (k:=q) (C:=ze.at s (yg (fun z=>yd (some (k,z)) m) (zR x))) (zrg hgk') (fun M D v w h=>by have h':(yg (fun z=>yd (some (k,z)) m) (zR x)).p M D s w:=h;exact zrj h') h)
end
end Go.DB
namespace Go.DB
open Go Go.RowKit
def zf8 (P:Program)(T E:TypeId)(α:Type)[Rep α]:Prop:=jF P T E α∧((P.info? E).all fun i=>i.bytes≤64)=true
def zfA (n:Nat):Prop:=n≤2199023255552
section
variable {P:Program} {ops:Array Oper} {fs:Nat} {L:zr} {B:zp} {ty:TypeId} {pos:String} {after:Array Edge}
theorem zg.appendW {d k:Nat}{s x:Operand}{t E:TypeId}{α:Type}[Rep α]{l xs:List α}(hT:zf8 P t E α)(hd:Nat.blt d fs=true)(hs:j5 L B s k (zq E l))(hx:Opd L True x (rep xs))(hb:l.length+xs.length≤2199023255552):
  zg P ops fs ⟨some d,.call { callee:=.builtin .append,args:=#[s,x],argTypes:=#[t,t] },ty,pos,after,none⟩ L B ([k],[d,k]) ⟨True,z7⟩ [(d,some (zq E (l++xs))),(k,none)]:=by
 refine .doing fun M D a w hsz hm hsat hsB=>?_
 obtain⟨hC,C0,hl⟩:=hs.get hsat (fun t ht=>zB (jp (by simp[ht]))) hsB (by simp)
 have hX:=hx.get hsat (fun t ht=>zB (jp (by simp[ht]))) trivial
 obtain⟨v,w',M',D',hr,h1,h2,h3,h4,h5,h6⟩:=zmc (P:=P) (ty:=ty) hT.1 hm hC hX (by omega) (fun i hi=>by
  have h:=hT.2
  rw[hi]at h
  have h:i.bytes≤64:=by simpa using h
  have:=Nat.mul_le_mul hb h
  omega)
 refine zW.value (zjs hr) (.pass M' D' hl h2 h3 h4 h5 ⟨fun _=>trivial,fun hf=>(hf trivial).elim⟩ ?_ h6)
 rw[jl (by rw[hsz];exact Nat.le_of_ble_eq_true hd)]
 exact h1
end
end Go.DB
namespace Go.DB
open Go Go.RowKit
section
variable {P:Program} {ops:Array Oper} {fs:Nat} {L:zr} {B:zp} {G:Prop}
variable {d:Option Tmp} {ty:TypeId} {pos:String} {after:Array Edge} {g:Option (Nat×Bool)} {xr:List Nat}
theorem zln {C:ze}(h:Jp C):Q4 C:=fun M D v w hc=>by
 obtain⟨m,rfl⟩:=h M D v w hc
 exact⟨rfl,rfl⟩
end
section
variable {P:Program} {Q:Exit→Act→World→Prop} {n:Nat} {F:Fr} {L:zr} {B:zp}
theorem Cod.boxTold {c:Code}{g:Nat}{s:Value}{C:ze}(hl:zm B g=some (ze.at s C))(hC:Jp C)(k:∀m,s=ptr m 0→Cod P c Q n F L B):Cod P c Q n F L B:=fun a w hs=>by
 obtain⟨M,D,h⟩:=id hs
 have hp:C.p M (D g) s w:=h.hasB g _ hl
 obtain⟨m,hv⟩:=hC _ _ _ _ hp
 exact k m hv a w hs
end
end Go.DB
namespace Go.DB
open Go Go.RowKit
section
variable {P:Program} {ops:Array Oper} {fs:Nat} {L:zr} {B:zp} {G:Prop}
variable {d:Option Tmp} {ty:TypeId} {pos:String} {after:Array Edge} {g:Option (Nat×Bool)} {xr:List Nat}
end
end Go.DB
namespace Go.DB
open Go Go.RowKit
structure Q0 where
 is:Bool
deriving Inhabited,DecidableEq
instance:Rep Q0 where
 sz:=1
 agg:=false
 cells:=fun _ x cs _=>(x.is=false∧cs=[.nilIface])∨(x.is=true∧∃tp pe,cs=[.iface tp pe])
 len:=fun h=>by rcases h with⟨_,rfl⟩ | ⟨_,_,_,rfl⟩<;>rfl
 pos:=by decide
 flat:=fun h=>by rcases h with⟨_,rfl⟩ | ⟨_,_,_,rfl⟩<;>rfl
 plain:=fun h c hc=>by
  rcases h with⟨_,rfl⟩ | ⟨_,_,_,rfl⟩
  ·
   simp at hc;rw[hc];rfl
  ·
   simp at hc;rw[hc];rfl
 law:=fun _ _ h=>h
theorem zfw {x:Q0}{M:zj}{v:Value}{w:World}:(rep x).p M v w↔(x.is=false∧v = .nilIface)∨(x.is=true∧∃tp pe,v = .iface tp pe):=by
 constructor
 ·
  rintro⟨cs,⟨h,rfl⟩ | ⟨h,tp,pe,rfl⟩,rfl⟩
  ·
   exact .inl ⟨h,rfl⟩
  ·
   exact .inr ⟨h,tp,pe,rfl⟩
 ·
  rintro(⟨h,rfl⟩ | ⟨h,tp,pe,rfl⟩)
  ·
   exact⟨_,.inl ⟨h,rfl⟩,rfl⟩
  ·
   exact⟨_,.inr ⟨h,tp,pe,rfl⟩,rfl⟩
section
variable {P:Program} {ops:Array Oper} {fs:Nat} {L:zr} {B:zp} {ty:TypeId} {pos:String} {after:Array Edge} {g:Option (Nat×Bool)} {d:Option Tmp} {G:Prop} {xr:List Nat} {T T':TypeId} {ms:Array (String×TypeId)}
theorem zte {x:Q0}{v:Value}{M:zj}{w:World}{p:Operand}{b:Bool}(hT:P.underlying T=some (.interface ms))(hv:(rep x).p M v w):
  (do eqGuard (if b then .eql else .neq) T p (.const .nilIface) v .nilIface;binOp (if b then .eql else .neq) T v .nilIface:Sem Value).run P w = .ok (.bool (if b then !x.is else x.is)) w:=by
 have hun:(underlying T).run P w = .ok (.interface ms) w:=by simp[underlying,hT,go_sem]
 rcases zfw.1 hv with⟨h,rfl⟩ | ⟨h,tp,pe,rfl⟩
 ·
  have h1:(Op.equal T .nilIface .nilIface).run P w = .ok true w:=by
   unfold Op.equal Op.maxDepth Op.equalIn
   rw[Sem.run_bind,hun]
   rfl
  cases b
  ·
   simp only[Bool.false_eq_true,if_false]
   rw[Sem.run_bind,show(eqGuard .neq T p (.const .nilIface) .nilIface .nilIface).run P w = .ok () w from by cases p<;>rfl]
   simp only[Result.andThen,binOp]
   rw[h]
   show((do return Value.bool !(←Op.equal T .nilIface .nilIface)):Sem Value).run P w=_
   rw[Sem.run_bind,h1];rfl
  ·
   simp only[if_true]
   rw[Sem.run_bind,show(eqGuard .eql T p (.const .nilIface) .nilIface .nilIface).run P w = .ok () w from by cases p<;>rfl]
   simp only[Result.andThen,binOp]
   rw[h]
   show((do return Value.bool (←Op.equal T .nilIface .nilIface)):Sem Value).run P w=_
   rw[Sem.run_bind,h1];rfl
 ·
  have h1:(Op.equal T (.iface tp pe) .nilIface).run P w = .ok false w:=by
   unfold Op.equal Op.maxDepth Op.equalIn
   rw[Sem.run_bind,hun]
   rfl
  cases b
  ·
   simp only[Bool.false_eq_true,if_false]
   rw[Sem.run_bind,show(eqGuard .neq T p (.const .nilIface) (.iface tp pe) .nilIface).run P w = .ok () w from rfl]
   simp only[Result.andThen,binOp]
   rw[h]
   show((do return Value.bool !(←Op.equal T (.iface tp pe) .nilIface)):Sem Value).run P w=_
   rw[Sem.run_bind,h1];rfl
  ·
   simp only[if_true]
   rw[Sem.run_bind,show(eqGuard .eql T p (.const .nilIface) (.iface tp pe) .nilIface).run P w = .ok () w from rfl]
   simp only[Result.andThen,binOp]
   rw[h]
   show((do return Value.bool (←Op.equal T (.iface tp pe) .nilIface)):Sem Value).run P w=_
   rw[Sem.run_bind,h1];rfl
theorem zjy {ρ:Operand→Value}{x:Operand}{e:Q0}{v:Value}{M:zj}{w:World}(b:Bool)(hT:P.underlying T=some (.interface ms))(hv:(rep e).p M v w)(hx:ρ x=v)(hy:ρ (.const .nilIface) = .nilIface):
  (execOp ρ ⟨d,.binOp (if b then .eql else .neq) T x (.const .nilIface) T',ty,pos,after,g⟩).run P w = .ok (.value (.bool (if b then !e.is else e.is))) w:=by
 simp only[execOp,hx,hy]
 rw[Sem.run_bind,zte hT hv];rfl
theorem zg.eqErr {x:Operand}{e:Q0}(hg:zY ops g L G)(hT:P.underlying T=some (.interface ms))(hx:Opd L G x (rep e)):
  zg P ops fs ⟨d,.binOp .eql T x (.const .nilIface) T',ty,pos,after,g⟩ L B (xr,[]) ⟨G,rep (!e.is)⟩ []:=
 .pure hg fun M a w _ hs hG=>⟨.bool (!e.is),zjy true hT (hx.get hs (fun t ht=>zB (by simp[Op.operands,ht])) hG) rfl rfl,yQ.2 rfl⟩
theorem zg.neErr {x:Operand}{e:Q0}(hg:zY ops g L G)(hT:P.underlying T=some (.interface ms))(hx:Opd L G x (rep e)):
  zg P ops fs ⟨d,.binOp .neq T x (.const .nilIface) T',ty,pos,after,g⟩ L B (xr,[]) ⟨G,rep e.is⟩ []:=
 .pure hg fun M a w _ hs hG=>⟨.bool e.is,zjy false hT (hx.get hs (fun t ht=>zB (by simp[Op.operands,ht])) hG) rfl rfl,yQ.2 rfl⟩
end
end Go.DB
namespace Go.DB
open Go Go.RowKit
section
variable {P:Program} {ops:Array Oper} {fs:Nat} {L:zr} {B:zp} {G:Prop}
variable {ty:TypeId} {pos:String} {after:Array Edge} {T kt et:TypeId}
theorem zg.rangeMapZ {K V:Type}[Rep K][Rep V]{m:GMap K V}{d k:Nat}{x:Operand}(hT:P.underlying T=some (.map kt et))(hd:Nat.blt d fs=true)(hx:j5 L B x k (zR m)):
  zg P ops fs ⟨some d,.range T x,ty,pos,after,none⟩ L B ([k],[d,k]) ⟨True,z7⟩ [(d,some (vv m [])),(k,none)]:=by
 refine .doing fun M D a w hsz hm hs hsB=>?_
 obtain⟨hC,C0,hl⟩:=hx.get hs (fun t ht=>zB (by simp[Op.operands,ht])) hsB (by simp)
 obtain⟨b,es,clock,l,hv,hD,hM,hh,hi⟩:=hC
 have hb:b<w.heap.size:=hm b hM
 have hr:(Instr.range T (a.eval x)).run P w = .ok (.pointer (some ⟨w.heap.size,0,none⟩)) (w.alloc (.mapIter (some b) clock #[] clock)):=by
  rw[hv];exact run_range_map w T kt et b es clock hT hh
 have hx':Ext w (w.alloc (.mapIter (some b) clock #[] clock)):=Ext.alloc _ _
 refine zW.value (v:=.pointer (some ⟨w.heap.size,0,none⟩)) (w':=w.alloc (.mapIter (some b) clock #[] clock)) ?_ ?_
 ·
  simp only[execOp];rw[Sem.run_bind,hr];rfl
 ·
  refine⟨fun j=>(M j∧¬D k j)∨j=w.heap.size,fun _ j=>j=w.heap.size,hx'.keeps,fun j hj=>?_,fun j hj=>hj.imp (fun h=>h.1) (by omega),fun j hj=>?_,⟨fun _=>trivial,fun hf=>(hf trivial).elim⟩,fun t c hc=>?_,fun t1 t2 c1 c2 hc1 hc2 hne=>?_⟩
  ·
   by_cases h:D k j
   ·
    exact .inr ⟨k,by simp,C0,hl,h⟩
   ·
    exact .inl (.inl ⟨hj,h⟩)
  ·
   rw[jW]
   rcases hj with h | h
   ·
    have:=hm j h.1;omega
   ·
    omega
  ·
   obtain⟨rfl,hc'⟩:=Yo (C:=some (vv m [])) hc
   obtain rfl:=Option.some.inj hc'
   refine⟨?_,fun j hj=>.inr (by omega)⟩
   rw[jl (by rw[hsz];exact Nat.le_of_ble_eq_true hd)]
   refine⟨w.heap.size,rfl,fun k=>Iff.rfl,.inr rfl,.inr ⟨b,es,clock,l,#[],?_,?_,?_,?_,?_,j6.nil⟩⟩
   ·
    rintro(h | h)
    ·
     exact h.2 ((hD b).2 rfl)
    ·
     omega
   ·
    rw[jW];omega
   ·
    rw[hx'.block b hb (fun f=>f)];exact hh
   ·
    exact hi.law hx'.keeps (fun j hj=>hj.imp (fun h=>h.1) (by omega))
   ·
    show(w.heap.push _)[w.heap.size]?=_
    rw[Array.getElem?_push_size]
  ·
   exact absurd ((Yo hc1).1.trans (Yo hc2).1.symm) hne
theorem zg.lookupZ {K K2 V:Type}[DecidableEq K][Rep K][Rep K2][Rep V][MKey K]{m:GMap K (GMap K2 V)}{k:K}{d q:Nat}{x y:Operand}(hd:Nat.blt d fs=true)(hT:qM P T kt et (MKey.desc K))(hz:qa P et (⟨.map none⟩:Raw))(hx:j5 L B x q (yd none m))(hy:Opd L True y (rep k))(hk:m.has k=true):
  zg P ops fs ⟨some d,.lookup T x y false,ty,pos,after,none⟩ L B ([q],[d,q]) ⟨True,z7⟩ [(d,some (zR (m.getD k GMap.nil))),(q,none)]:=by
 refine .doing fun M D a w hsz hm hs hsB=>?_
 obtain⟨hC,C0,hl⟩:=hx.get hs (fun t ht=>zB (by simp[Op.operands,ht])) hsB (by simp)
 obtain⟨r,Dm,Dr,⟨b,es,clock,l,hv,hD,hM,hh,hi⟩,hp,h2,h3,h4,h5,h6⟩:=hC
 have hky:=hy.get hs (fun t ht=>zB (by simp[Op.operands,ht])) trivial
 obtain⟨u,hu,hr⟩:=J6 (z:=(⟨.map none⟩:Raw)) hT hz hky hh hi false
 have hf:=h2 k (fun s e=>by cases e)
 unfold GMap.has at hk
 cases hmk:m.f k with
 | none=>rw[hmk]at hk;cases hk
 | some z=>
  rw[hmk]at hf
  cases hrk:r.f k with
  | none=>rw[hrk]at hf;exact hf.elim
  | some s=>
   rw[hrk]at hf
   have e:r.getD k ⟨.map none⟩=s:=by unfold GMap.getD;rw[hrk];rfl
   have e2:m.getD k GMap.nil=z:=by unfold GMap.getD;rw[hmk];rfl
   rw[e]at hu
   have hu':u=s.v:=(yH.1 hu).1
   rw[e2]
   refine zW.value (v:=u) (w':=w) ?_ (.pass M (Dr k) hl (zy.refl _ _) (fun _ h=>h) (fun _ h=>.inl h) hm ⟨fun _=>trivial,fun hf=>(hf trivial).elim⟩ ?_ (fun j h=>.inl (h4 j (.inr ⟨k,h⟩))))
   ·
    simp only[execOp,hv];rw[Sem.run_bind,hr];rfl
   ·
    rw[jl (by rw[hsz];exact Nat.le_of_ble_eq_true hd),hu']
    exact hf
end
section
variable {P:Program} {ops:Array Oper} {fs:Nat} {L:zr} {B:zp} {G:Prop}
variable {ty:TypeId} {pos:String} {after:Array Edge} {g:Option (Nat×Bool)} {xr:List Nat} {d:Option Tmp}
variable {K K2 V:Type} [Rep K] [DecidableEq K] [MKey K] [Rep K2] [Rep V] {T kt et:TypeId} {m:GMap K (GMap K2 V)} {k:K} {hole:Option (K×Value)}
theorem zg.mapPutDN {q t:Nat}{x y u:Operand}{s z:Value}{l:GMap K2 V}(hT:qM P T kt et (MKey.desc K))(hqt:(q==t)=false)(hx:Opd L True x (isV s))(hq:zm B q=some (ze.at s (yd none m)))(hu:Opd L True u (isV z))(ht:zm B t=some (ze.at z (zR l)))(hy:Opd L True y (rep k)):
  zg P ops fs ⟨none,.mapUpdate T x y u,ty,pos,after,none⟩ L B ([q,t],[q,t]) ⟨True,z7⟩ [(q,some (ze.at s (yd none (m.set k l)))),(t,none)]:=by
 have hqt:q≠t:=by simpa using hqt
 refine .doing fun M D a w hsz hm hs hsB=>?_
 have he:a.eval x=s:=(yH.1 (hx.get hs (fun t ht=>zB (by simp[Op.operands,ht])) trivial)).1
 obtain⟨r,Dm,Dr,⟨b,es,clock,es0,hv,hD,hM,hb,hi⟩,_,h2,h3,h4,h5,h6⟩:=hsB.has q (by simp) _ hq
 have hz0:a.eval u=z:=(yH.1 (hu.get hs (fun t ht=>zB (by simp[Op.operands,ht])) trivial)).1
 have hR:(zR l).p M (D t) z w:=hsB.has t (by simp) _ ht
 have hap:=hsB.apart q (by simp) t (by simp) _ _ hq ht hqt
 have hk:=hy.get hs (fun t ht=>zB (by simp[Op.operands,ht])) trivial
 obtain⟨b2,hv2⟩:=za1 hR
 have hx2:(rep (⟨z⟩:Raw)).p M (z) w:=yH.2 ⟨rfl,by rw[hv2];rfl,by rw[hv2];rfl⟩
 obtain⟨es',clock',l',hr,hi'⟩:=zdb (x:=(⟨z⟩:Raw)) hT hk hx2 hb hi
 have hkm:zy Dm w { w with heap:=w.heap.setIfInBounds b (.map es' clock') }:=JO hD
 have hkq:zy (D q) w { w with heap:=w.heap.setIfInBounds b (.map es' clock') }:=hkm.mono (fun j _ h=>h4 j (.inl h))
 have hkM:zy M w { w with heap:=w.heap.setIfInBounds b (.map es' clock') }:=hkm.mono (fun j _ h=>(hD j).1 h▸hM)
 have same:∀j,j≠b→(w.heap.setIfInBounds b (.map es' clock'))[j]?=w.heap[j]?:=fun j hj=>by simp[Array.getElem?_setIfInBounds,Ne.symm hj]
 have inR:∀j,D t j→M j:=fun j hj=>ze.inM _ M (D t) _ w hR j hj
 have nb:∀j,D t j→j≠b:=fun j hj e=>hap j (h4 j (.inl ((hD j).2 e))) hj
 refine zW.skip (w':={ w with heap:=w.heap.setIfInBounds b (.map es' clock') }) ?_ rfl (.merge hq ht hkq (fun j h=>by simpa using hm j h) ⟨fun _=>trivial,fun hf=>(hf trivial).elim⟩ ?_)
 ·
  have:a.eval u=z:=hz0
  simp only[execOp,he,hv,this];rw[Sem.run_bind,hr];rfl
 ·
  rw[zai]
  have outR:∀k' j,Dr k' j→j≠b:=fun k' j h e=>h5 k' j h ((hD j).2 e)
  refine⟨r.set k ⟨z⟩,Dm,fun k'=>if k'=k then D t else Dr k',⟨b,es',clock',l',hv,hD,hM,zaa hb,hi'.stay hkM (fun _ h=>h)⟩,(fun k' s e=>by cases e),fun k' _=>?_,fun j h=>h.elim (h3 j) (inR j),fun j h=>?_,fun k' j h=>?_,fun k1 k2 j a1 a2=>?_⟩
  ·
   show YE M (if k'=k then D t else Dr k') _ (if k'=k then some l else m.f k') (if k'=k then some ⟨z⟩else r.f k')
   by_cases hkk:k'=k
   ·
    rw[if_pos hkk,if_pos hkk,if_pos hkk]
    exact(zR l).law M M (D t) _ w _ hkM (fun _ h=>.inl h) (fun j hj=>⟨inR j hj,same j (nb j hj)⟩) hR
   ·
    rw[if_neg hkk,if_neg hkk,if_neg hkk]
    exact(h2 k' (fun s e=>by cases e)).law hkM (fun _ h=>.inl h) (fun j hj=>⟨h3 j (h4 j (.inr ⟨k',hj⟩)),same j (outR k' j hj)⟩)
  ·
   rcases h with h | ⟨k',h⟩
   ·
    exact .inl (h4 j (.inl h))
   ·
    by_cases hkk:k'=k
    ·
     rw[if_pos hkk]at h;exact .inr h
    ·
     rw[if_neg hkk]at h;exact .inl (h4 j (.inr ⟨k',h⟩))
  ·
   intro hd
   simp only at h
   by_cases hkk:k'=k
   ·
    rw[if_pos hkk]at h;exact hap j (h4 j (.inl hd)) h
   ·
    rw[if_neg hkk]at h;exact h5 k' j h hd
  ·
   simp only at a1 a2
   by_cases c1:k1=k<;>by_cases c2:k2=k
   ·
    rw[c1,c2]
   ·
    rw[if_pos c1]at a1;rw[if_neg c2]at a2
    exact absurd a1 (hap j (h4 j (.inr ⟨k2,a2⟩)))
   ·
    rw[if_neg c1]at a1;rw[if_pos c2]at a2
    exact absurd a2 (hap j (h4 j (.inr ⟨k1,a1⟩)))
   ·
    rw[if_neg c1]at a1;rw[if_neg c2]at a2
    exact h6 k1 k2 j a1 a2
end
end Go.DB
namespace Go.DB
open Go Go.RowKit
section
variable {P:Program} {ops:Array Oper} {fs:Nat} {L:zr} {B:zp} {G:Prop}
variable {d:Option Tmp} {ty:TypeId} {pos:String} {after:Array Edge} {g:Option (Nat×Bool)} {T kt et:TypeId} {K V:Type} [Rep K] [Rep V] {m:GMap K V}
theorem zg.lenMapOG {x:Operand}{q:Nat}{s:Value}(hg:zY ops g L G)(hT:P.underlying T=some (.map kt et)){C:ze}(hC:zdD C m)(hx:Opd L G x (isV s))(hl:zm B q=some (ze.at s C))(hn:G→m.size≤9223372036854775807):
  zg P ops fs ⟨d,.call { callee:=.builtin .len,args:=#[x],argTypes:=#[T] },ty,pos,after,g⟩ L B ([q],[]) ⟨G,rep m.size⟩ []:=
 .of hg fun M D a w hm hs hsB hG=>by
  have hcc:C.p M (D q) (a.eval x) w:=by
   have h1:=(yH.1 (hx.get hs (fun t ht=>zB (jp (by simp[ht]))) hG)).1
   rw[h1]
   exact hsB.has q (by simp) _ hl
  obtain⟨b,es,clock,l,hv,hD,hM,hh,hi⟩:=hC _ _ _ _ hcc
  have hle:=hn hG
  rw[hi.lists.size,←hi.ents.1]at hle⊢
  refine zW.value (v:=.int .i64 es.size) (w':=w) ?_ ⟨zy.refl _ _,yR.2 ⟨rfl,by unfold InI;simp at hle⊢;omega⟩⟩
  have e:(#[x]:Array Operand).map a.eval=#[.map (some b)]:=by simp[hv]
  simp only[execOp,resolve,invoke,builtin,e]
  simp[go_sem];rw[ztg hT hh];rfl
end
end Go.DB
namespace Go.DB
open Go Go.RowKit
section
variable {P:Program} {ops:Array Oper} {fs:Nat} {L:zr} {B:zp} {G:Prop}
variable {ty:TypeId} {pos:String} {after:Array Edge}
theorem zg.storeSub {T T' m off k t:Nat}{p:Operand}{γ:Type}[Rep γ]{y0:γ}{R:ze}{set:γ→Raw→γ}(hT:Ty P T Raw)(hl:zm B k=some (qb m T' y0))(hp:Opd L True p (isV (ptr m off)))
  (hF:zt γ Raw off set) (ht:zm B t=some R) (hR1:Q4 R) (hkt:(k==t)=false):
  zg P ops fs ⟨none,.store T p (.tmp t),ty,pos,after,none⟩ L B ([k,t],[k,t]) ⟨True,z7⟩ [(k,some (ze.at (ptr m 0) (yg (fun s=>zM T' (set y0 ⟨s⟩)) R))),(t,none)]:=by
 have hkt:k≠t:=by simpa using hkt
 refine .doing fun M D a w hsz hm hs hsB=>?_
 obtain⟨m',old,hvm,hD,hM,hh,hold⟩:=hsB.has k (by simp) _ hl
 obtain rfl:m=m':=by simp[ptr]at hvm;exact hvm
 have hR:=hsB.has t (by simp) _ ht
 have hap:=hsB.apart k (by simp) t (by simp) _ _ hl ht hkt
 have hxv:a.eval (.tmp t)=Act.val a t:=Yg
 obtain⟨u1,u2⟩:=hR1 _ _ _ _ hR
 have hz:Rep.cells M (⟨Act.val a t⟩:Raw) [Act.val a t] w:=⟨rfl,u1,u2⟩
 have hat:a.eval p=ptr m off:=(yH.1 (hp.get hs (fun t ht=>zB (by simp[Op.operands,ht])) trivial)).1
 have hlo:=Rep.len hold
 have hle:=hF.1
 have hs1:Rep.sz Raw=1:=rfl
 have hsplit:old=old.take off++(old.drop off).take 1++old.drop (off+1):=by
  rw[←List.drop_drop,List.append_assoc,List.take_append_drop,List.take_append_drop]
 obtain⟨w',h1,h2,h3,h4,h5,h6,h7⟩:=J7 (w:=w) (m:=m) (off:=off) (cs:=[Act.val a t]) (pre:=old.take off) (mid:=(old.drop off).take 1) (rest:=old.drop (off+1)) hT rfl
  (by rw[List.length_take,List.length_drop];show _=1;omega) (by rw[List.length_take];omega) (Rep.plain hz) (show(Act.val a t).cells=#[Act.val a t]from u2) (by rw[←hsplit];exact hh)
 have hkeep:zy (D k) w w':=⟨h3,h4,h5,by omega,fun j _ hn=>h7 j (fun e=>hn ((hD j).2 e))⟩
 have hkM:zy M w w':=⟨h3,h4,h5,by omega,fun j _ hn=>h7 j (fun e=>hn (e▸hM))⟩
 refine zW.skip (w':=w') (YM (by rw[hat,hxv];exact h1)) rfl (.merge hl ht hkeep (fun j h=>by rw[h6];exact hm j h) ⟨fun _=>trivial,fun hf=>(hf trivial).elim⟩ ?_)
 refine⟨Act.val a t,D k,D t,⟨m,_,rfl,hD,hM,h2,hF.2 M y0 ⟨Act.val a t⟩ old [Act.val a t] w' (Rep.law hkM (fun _ h=>.inl h) hold) (Rep.law hkM (fun _ h=>.inl h) hz)⟩,?_,fun _=>Iff.rfl,fun j h1 h2=>hap j h1 h2⟩
 exact R.law M M (D t) _ w w' hkM (fun _ h=>.inl h) (fun j hj=>⟨R.inM _ _ _ _ hR j hj,h7 j (fun e=>hap j ((hD j).2 e) hj)⟩) hR
end
theorem zj0 {T:TypeId}{α:Type}[Rep α]{y:α}:YF (zM T y) (some y):=fun M D s w h hms=>by
 have hr:=zgo h hms
 obtain⟨b,off,cs,hv,h1⟩:=id hr
 refine⟨[s],⟨s,rfl,.inr ⟨y,rfl,hr⟩⟩,rfl⟩
theorem zeN {α:Type}[Rep α]{M:zj}{cs:List Value}{w:World}(hc:Rep.cells M (⟨.pointer none⟩:Raw) cs w):Rep.cells M (none:Option α) cs w:=by
 obtain⟨rfl,_,_⟩:=hc
 exact⟨_,rfl,.inl ⟨rfl,rfl⟩⟩
theorem zoL {T m:Nat}{α γ:Type}[Rep α][Rep γ]{mk:α}{y:γ}(hsz:Rep.sz γ=Rep.sz α)(hy:∀M cs w,Rep.cells M mk cs w→Rep.cells M y cs w)(M D:zj)(w:World)
  (h:(zM T mk).p M D (ptr m 0) w) (hms:∀k,M k→k<w.heap.size):(ref y).p (fun k=>M k∧¬D k) (ptr m 0) w:=by
 obtain⟨m',cs,hv,hD,hM,hh,hc⟩:=h
 exact⟨m',0,cs,hv,fun hk=>hk.2 ((hD m').2 rfl),hms _ hM,hy _ cs w (Rep.law (zy.refl M w) (fun k h=>.inl h.1) hc),fun j _=>by rw[YJ hh];simp⟩
section
variable {P:Program} {ops:Array Oper} {fs:Nat} {L:zr} {B:zp} {G:Prop}
variable {ty:TypeId} {pos:String} {after:Array Edge} {d:Option Tmp} {g:Option (Nat×Bool)} {xr:List Nat} {T T' E:TypeId}
theorem zth {a:Option Addr}{w:World}{p q:Operand}(hT:P.underlying T=some (.pointer E)):(do eqGuard .neq T p q (.pointer a) (.pointer none);binOp .neq T (.pointer a) (.pointer none):Sem Value).run P w = .ok (.bool a.isSome) w:=by
 have hun:(underlying T).run P w = .ok (.pointer E) w:=by simp[underlying,hT,go_sem]
 have h1:(Op.equal T (.pointer a) (.pointer none)).run P w = .ok a.isNone w:=by
  unfold Op.equal Op.maxDepth Op.equalIn
  rw[Sem.run_bind,hun]
  simp only[Result.andThen]
  cases a<;>rfl
 rw[Sem.run_bind,show(eqGuard .neq T p q (.pointer a) (.pointer none)).run P w = .ok () w from rfl]
 simp only[Result.andThen,binOp]
 rw[Sem.run_bind,h1]
 cases a<;>rfl
theorem zg.neNilP {α:Type}[Rep α]{o:Option α}{x:Operand}(hg:zY ops g L G)(hT:P.underlying T=some (.pointer E))(hx:Opd L G x (rep o)):
  zg P ops fs ⟨d,.binOp .neq T x (.const (.pointer none)) T',ty,pos,after,g⟩ L B (xr,[]) ⟨G,rep o.isSome⟩ []:=
 .pure hg fun M a w _ hs hG=>by
  have h:=hx.get hs (fun t ht=>zB (by simp[Op.operands,ht])) hG
  obtain⟨u,hv,hb⟩:∃u:Option Addr,a.eval x = .pointer u∧u.isSome=o.isSome:=by
   rcases zhB.1 h with⟨h1,h2⟩ | ⟨y,h1,h2⟩
   ·
    exact⟨none,h1,by rw[h2];rfl⟩
   ·
    obtain⟨b,off,cs,h3,_⟩:=h2
    exact⟨some _,h3,by rw[h1];rfl⟩
  refine⟨.bool u.isSome,?_,yQ.2 (by rw[hb])⟩
  simp only[execOp,hv]
  rw[Sem.run_bind]
  show((do eqGuard .neq T x (.const (.pointer none)) (.pointer u) (.pointer none);binOp .neq T (.pointer u) (.pointer none):Sem Value).run P w).andThen _=_
  rw[zth hT];rfl
end
instance {α:Type} [Fits α]:Fits (Option α):=⟨fun o=>∀x,o=some x→zF x⟩
instance {α:Type} [Rep α] [Fits α] [FitsRep α]:FitsRep (Option α):=⟨fun {M x cs w} ⟨v,_,h⟩ y hy=>by
 rcases h with⟨_,h2⟩ | ⟨z,h1,b,off,c,_,_,_,hc,_⟩
 ·
  rw[h2]at hy;cases hy
 ·
  rw[h1]at hy
  injection hy with hy
  subst hy
  exact FitsRep.of hc⟩
end Go.DB
namespace Go.DB
open Go Go.RowKit
section
variable {P:Program} {ops:Array Oper} {Q:Exit→Act→World→Prop} {n:Nat} {F:Fr} {L:zr} {B:zp} {Es:List Ent} {Ws:List yS} {aux:List Aux}
structure zij (lk:(Nat→Bool)→Nat→Option ze) (ops:Array Oper) (Es:List Ent) (L:zr) (n:Nat) (F:Fr) (listed:Array Bool) (M:zj) (D:Nat→zj) (a:Act) (w:World):Prop where
 lsize:listed.size=ops.size
 closed:∀j,on listed j=true→∀i,((jS ops.toList).getD j 0).testBit i=true→on listed i=true
 size:a.tmps.size=n
 defers:a.defers=[]
 keeps:zy F.M0 F.w0 w
 mf0:∀k,F.Mf k→k<F.w0.heap.size
 mlow:∀k,F.Mf k→M k∨F.M0 k
 mhigh:∀k,M k→F.Mf k∨F.w0.heap.size≤k
 msub:Low M w
 has:∀t e,qq ops Es L (on listed) ops.size t=some e→∃v,a.tmps[t]?=some v∧e.holds M v w
 hasB:∀t c,lk (on listed) t=some c→c.p M (D t) (Act.val a t) w
 own:∀t c,lk (on listed) t=some c→∀k,D t k→F.M0 k∨F.w0.heap.size≤k
 apart:zak (lk (on listed)) D
def Q3 (lk:(Nat→Bool)→Nat→Option ze)(ops:Array Oper)(Es:List Ent)(L:zr)(n:Nat)(F:Fr)(listed:Array Bool)(a:Act)(w:World):Prop:=
 ∃M D,zij lk ops Es L n F listed M D a w
theorem Q3.step {lk:(Nat→Bool)→Nat→Option ze}{listed:Array Bool}{M:zj}{D:Nat→zj}{a:Act}{w:World}{i:Nat}{o:Oper}{E:Ent}{W:yS}{xr xs:List Nat}{Bi:zp}
  (h:zij lk ops Es L n F listed M D a w) (ho:ops[i]?=some o) (hWm:W.map (·.1)=xs) (hstep:zg P ops n o (Lat ops Es L i) Bi (xr,xs) E W)
  (same:∀t,t∈o.looksAt ops++xr→qq ops Es L (on listed) ops.size t=zC (Lat ops Es L i) t) (sameB:∀t,t∈xr++xs→lk (on listed) t=zm Bi t)
  (lookD:∀t,o.dst=some t→qq ops Es L (on (listed.setIfInBounds i true)) ops.size t=some E)
  (lookO:∀t,o.dst≠some t→qq ops Es L (on (listed.setIfInBounds i true)) ops.size t=qq ops Es L (on listed) ops.size t)
  (lookBT:∀t,(o.dst=some t∨t∈xs)→lk (on (listed.setIfInBounds i true)) t=zm W t) (lookBO:∀t,¬(o.dst=some t∨t∈xs)→lk (on (listed.setIfInBounds i true)) t=lk (on listed) t)
  (closed':∀j,on (listed.setIfInBounds i true) j=true→∀k,((jS ops.toList).getD j 0).testBit k=true→on (listed.setIfInBounds i true) k=true)
  (dlt:∀t,o.dst=some t→t<a.tmps.size):wpOp P ops Q i (Q3 lk ops Es L n F (listed.setIfInBounds i true)) a w:=by
 have sat:Qa (o.looksAt ops++xr) M (Lat ops Es L i) a w:=fun t ht e he=>h.has t e (by rw[same t ht];exact he)
 have satB:Jq (xr++xs) M D Bi a w:=⟨fun t ht c hc=>h.hasB t c (by rw[sameB t ht];exact hc),
  fun t ht t' ht' c c' hc hc'=>h.apart t t' c c' (by rw[sameB t ht];exact hc) (by rw[sameB t' ht'];exact hc')⟩
 have hs:=hstep M D a w h.size h.msub sat satB
 have after:∀v w',jZ o (Bi) D xs E W M a w v w'→Q3 lk ops Es L n F (listed.setIfInBounds i true) (a.put o.dst v) w':=by
  intro v w' hv
  have hWx:W.map (·.1)=xs:=hWm
  have notouch:∀t c,lk (on (listed.setIfInBounds i true)) t=some c→t∉xs→¬(o.dst=some t∨t∈xs)∧o.dst≠some t:=by
   intro t c hc hne
   have h1:¬(o.dst=some t∨t∈xs):=by
    intro ht
    rw[lookBT t ht,zhc (by rw[hWx];exact hne)]at hc
    cases hc
   exact⟨h1,fun hd=>h1 (.inl hd)⟩
  have valO:∀t,o.dst≠some t→Act.val (a.put o.dst v) t=Act.val a t:=by
   intro t hd;unfold Act.val;rw[za9 hd]
  cases W with
  | nil=>
   obtain⟨hx,hv⟩:=hv
   have hxs:xs=[]:=by rw[←hWx];rfl
   have nt:∀t c,lk (on (listed.setIfInBounds i true)) t=some c→¬(o.dst=some t∨t∈xs)∧o.dst≠some t:=fun t c hc=>notouch t c hc (by rw[hxs];simp)
   refine⟨M,D,by simpa using h.lsize,closed',by rw[zfa];exact h.size,by rw[ze9];exact h.defers,h.keeps.trans hx.keeps,h.mf0,h.mlow,h.mhigh,
    h.msub.ext hx,?_,?_,?_,?_⟩
   ·
    intro t e he
    by_cases hd:o.dst=some t
    ·
     rw[lookD t hd]at he
     obtain rfl:E=e:=by simpa using he
     exact⟨v,ze8 hd (dlt t hd),hv⟩
    ·
     rw[lookO t hd]at he
     obtain⟨v',h1,h2⟩:=h.has t e he
     exact⟨v',by rw[za9 hd];exact h1,Ent.holds_ext hx h2⟩
   ·
    intro t c hc
    obtain⟨h1,hd⟩:=nt t c hc
    rw[lookBO t h1]at hc
    rw[valO t hd]
    have h3:=h.hasB t c hc
    refine c.law M M (D t) _ w w' hx.keeps (fun _ h=>.inl h) (fun m hm=>?_) h3
    have hM:=c.inM _ _ _ _ h3 m hm
    exact⟨hM,hx.block m (h.msub m hM) (fun f=>f)⟩
   ·
    intro t c hc
    obtain⟨h1,_⟩:=nt t c hc
    rw[lookBO t h1]at hc
    exact h.own t c hc
   ·
    intro t t' c c' hc hc' hne
    obtain⟨h1,_⟩:=nt t c hc
    obtain⟨h1',_⟩:=nt t' c' hc'
    rw[lookBO t h1]at hc
    rw[lookBO t' h1']at hc'
    exact h.apart t t' c c' hc hc' hne
  | cons W1 Wr=>
   generalize hWW:W1::Wr=W at hv hWx lookBT
   have hv:∃M' D',zy (jc xs (Bi) D) w w'∧(∀k,M k→M' k∨jc xs (Bi) D k)∧(∀k,M' k→M k∨w.heap.size≤k)∧(∀k,M' k→k<w'.heap.size)∧E.holds M' v w'∧
     (∀t c,zm W t=some c→c.p M' (D' t) (Act.val (a.put o.dst v) t) w'∧∀k,D' t k→jc xs (Bi) D k∨w.heap.size≤k)∧zak (zm W) D':=by
    subst hWW;exact hv
   obtain⟨M',D',hk,hml,hmh,hms,hv,hC,hap⟩:=hv
   have mine:∀k,jc xs (Bi) D k→M k∧(F.M0 k∨F.w0.heap.size≤k)∧∃t∈xs,∃c,lk (on listed) t=some c∧D t k:=by
    rintro k ⟨t,ht,c,hc,hb⟩
    rw[←sameB t (List.mem_append_right _ ht)]at hc
    exact⟨c.inM _ _ _ _ (h.hasB t c hc) k hb,h.own t c hc k hb,t,ht,c,hc,hb⟩
   have hkM:zy M w w':=hk.mono (fun k _ hm=>(mine k hm).1)
   have other:∀t c,t∉xs→lk (on (listed.setIfInBounds i true)) t=some c→
     lk (on listed) t=some c∧o.dst≠some t:=by
    intro t c hne hc
    obtain⟨h1,hd⟩:=notouch t c hc hne
    exact⟨by rw[←lookBO t h1];exact hc,hd⟩
   have hTT:∀t,t∈xs→lk (on (listed.setIfInBounds i true)) t=zm W t:=by
    intro t ht
    rw[lookBT t (.inr ht)]
   have free:∀t c,t∉xs→lk (on listed) t=some c→∀k,D t k→¬jc xs (Bi) D k:=by
    intro t c hne hc k hk hm
    obtain⟨_,_,t1,ht1,c1,hc1,hb1⟩:=mine k hm
    exact h.apart t t1 c c1 hc hc1 (fun e=>hne (e▸ht1)) k hk hb1
   have fresh:∀t c,lk (on listed) t=some c→∀k,D t k→k<w.heap.size:=fun t c hc k hk=>h.msub k (c.inM _ _ _ _ (h.hasB t c hc) k hk)
   let D2:Nat→zj:=fun t=>if t∈xs then D' t else D t
   have D2x:∀t,t∈xs→D2 t=D' t:=fun t ht=>if_pos ht
   have D2n:∀t,t∉xs→D2 t=D t:=fun t ht=>if_neg ht
   refine⟨M',D2,by simpa using h.lsize,closed',by rw[zfa];exact h.size,by rw[ze9];exact h.defers,?_,h.mf0,?_,?_,h.msub.next hkM hmh hms,?_,?_,?_,?_⟩
   ·
    refine⟨hk.os.trans h.keeps.os,hk.tape.trans h.keeps.tape,hk.output.trans h.keeps.output,Nat.le_trans h.keeps.size hk.size,fun k hlt hn=>?_⟩
    rw[hk.block k (Nat.lt_of_lt_of_le hlt h.keeps.size) (fun hm=>?_),h.keeps.block k hlt hn]
    rcases(mine k hm).2.1 with h1 | h1
    ·
     exact hn h1
    ·
     omega
   ·
    intro k hk'
    rcases h.mlow k hk' with h1 | h1
    ·
     rcases hml k h1 with h2 | h2
     ·
      exact .inl h2
     ·
      rcases(mine k h2).2.1 with h3 | h3
      ·
       exact .inr h3
      ·
       have:=h.mf0 k hk'
       omega
    ·
     exact .inr h1
   ·
    intro k hk'
    rcases hmh k hk' with h1 | h1
    ·
     exact h.mhigh k h1
    ·
     exact .inr (Nat.le_trans h.keeps.size h1)
   ·
    intro t e he
    by_cases hd:o.dst=some t
    ·
     rw[lookD t hd]at he
     obtain rfl:E=e:=by simpa using he
     exact⟨v,ze8 hd (dlt t hd),hv⟩
    ·
     rw[lookO t hd]at he
     obtain⟨v',h1,h2⟩:=h.has t e he
     exact⟨v',by rw[za9 hd];exact h1,Ent.holds_law hkM hmh h2⟩
   ·
    intro t c hc
    by_cases ht:t∈xs
    ·
     rw[hTT t ht]at hc
     rw[D2x t ht]
     exact(hC t c hc).1
    ·
     obtain⟨hc',hd⟩:=other t c ht hc
     rw[D2n t ht,valO t hd]
     have h3:=h.hasB t c hc'
     refine c.law M M' (D t) _ w w' hkM hmh (fun m hm=>?_) h3
     have hM:=c.inM _ _ _ _ h3 m hm
     have hnm:=free t c ht hc' m hm
     exact⟨(hml m hM).resolve_right hnm,hk.block m (h.msub m hM) hnm⟩
   ·
    intro t c hc
    by_cases ht:t∈xs
    ·
     rw[hTT t ht]at hc
     rw[D2x t ht]
     intro k hk'
     rcases(hC t c hc).2 k hk' with h1 | h1
     ·
      exact(mine k h1).2.1
     ·
      exact .inr (Nat.le_trans h.keeps.size h1)
    ·
     obtain⟨hc',hd⟩:=other t c ht hc
     rw[D2n t ht]
     exact h.own t c hc'
   ·
    -- two keys, one block?
    have cross:∀t t' c c',t∈xs→t'∉xs→lk (on (listed.setIfInBounds i true)) t=some c→lk (on (listed.setIfInBounds i true)) t'=some c'→
      ∀k,D' t k→¬D t' k:=by
     intro t t' c c' ht ht' hc hc' k hk1 hk2
     rw[hTT t ht]at hc
     obtain⟨hc1,_⟩:=other t' c' ht' hc'
     rcases(hC t c hc).2 k hk1 with h1 | h1
     ·
      exact free t' c' ht' hc1 k hk2 h1
     ·
      have:=fresh t' c' hc1 k hk2
      omega
    intro t t' c c' hc hc' hne k hk1 hk2
    by_cases ht:t∈xs<;>by_cases ht':t'∈xs
    ·
     rw[D2x t ht]at hk1
     rw[D2x t' ht']at hk2
     rw[hTT t ht]at hc
     rw[hTT t' ht']at hc'
     exact hap t t' c c' hc hc' hne k hk1 hk2
    ·
     rw[D2x t ht]at hk1
     rw[D2n t' ht']at hk2
     exact cross t t' c c' ht ht' hc hc' k hk1 hk2
    ·
     rw[D2n t ht]at hk1
     rw[D2x t' ht']at hk2
     exact cross t' t c' c ht' ht hc' hc k hk2 hk1
    ·
     rw[D2n t ht]at hk1
     rw[D2n t' ht']at hk2
     obtain⟨h1,_⟩:=other t c ht hc
     obtain⟨h2,_⟩:=other t' c' ht' hc'
     exact h.apart t t' c c' h1 h2 hne k hk1 hk2
 unfold wpOp
 rw[ho]
 dsimp only
 split at hs
 ·
  rename_i hw
  rw[if_pos hw]
  exact .inl (hs.wp after)
 ·
  rename_i hw
  rw[if_neg hw]
  obtain⟨rfl,hs⟩:=hs
  exact after undef w ⟨zy.refl _ _,hs⟩
end
def jg (q:Nat)(o:Oper):Bool:=match o.op with
 | .insert _ (.tmp t) _ _=>Nat.beq t q
 | _=>false
section
variable {K V:Type} [Rep K] [DecidableEq K] [Rep V]
def QQ (m:GMap K V)(l:List (K×V)):GMap K V:=l.foldl (fun m x=>m.set x.1 x.2) m
def Grp (P:Program)(ops:Array Oper)(n q:Nat)(o:Oper)(L:zr)(B:zp)(x:Aux)(E:Ent)(Ws:yS)(m:GMap K V)(kv:K×V):Prop:=
 zm B q=some (zR m)∧o.dst=none∧x=([q],[q])∧Ws=[(q,some (zR (m.set kv.1 kv.2)))]∧
  ∀(m':GMap K V) (B':zp),zm B' q=some (zR m')→zg P ops n o L B' ([q],[q]) E [(q,some (zR (m'.set kv.1 kv.2)))]
def zG (P:Program)(ops:Array Oper)(n q:Nat):List Oper→List Aux→zr→zp→GMap K V→List (K×V)→(zr→zp→Prop)→Prop
  | [],_,L,B,_,_,Z=>Z L B
  | o :: rest, aux, L, B, m, kvs, Z => ∃ E Ws, Ws.map (·.1) = (aux.headD yk).2 ∧ zg P ops n o L B (aux.headD yk) E Ws ∧
      (if jg q o=true then ∃kv r,kvs=kv::r∧Grp P ops n q o L B (aux.headD yk) E Ws m kv∧zG P ops n q rest aux.tail (ve o.dst E L) (vy o.dst Ws B) (m.set kv.1 kv.2) r Z
       else zG P ops n q rest aux.tail (ve o.dst E L) (vy o.dst Ws B) m kvs Z)
theorem zG.nil {P:Program}{ops:Array Oper}{n q:Nat}{aux:List Aux}{L:zr}{B:zp}{m:GMap K V}{kvs:List (K×V)}{Z:zr→zp→Prop}(h:Z L B):zG P ops n q [] aux L B m kvs Z:=h
theorem zG.one {P:Program}{ops:Array Oper}{n q:Nat}{o:Oper}{rest:List Oper}{a:Aux}{aux:List Aux}{L:zr}{B:zp}{m:GMap K V}{kvs:List (K×V)}{Z:zr→zp→Prop}
  (h0:jg q o=false) (h:zx P ops n [o] [a] L B (fun L' B'=>zG P ops n q rest aux L' B' m kvs Z)):zG P ops n q (o::rest) (a::aux) L B m kvs Z:=by
 obtain⟨E,W,h1,h2,h3⟩:=h
 refine⟨E,W,h1,h2,?_⟩
 rw[if_neg (by rw[h0];decide)]
 exact h3
theorem zG.put {P:Program}{ops:Array Oper}{n q:Nat}{o:Oper}{rest:List Oper}{aux:List Aux}{L:zr}{B:zp}{m:GMap K V}{kv:K×V}{kvs:List (K×V)}{Z:zr→zp→Prop}{E:Ent}
  (h0:jg q o=true) (hd:o.dst=none) (hl:zm B q=some (zR m)) (h:∀(m':GMap K V) (B':zp),zm B' q=some (zR m')→zg P ops n o L B' ([q],[q]) E [(q,some (zR (m'.set kv.1 kv.2)))])
  (k:zG P ops n q rest aux L ((q,some (zR (m.set kv.1 kv.2)))::B) (m.set kv.1 kv.2) kvs Z):zG P ops n q (o::rest) (([q],[q])::aux) L B m (kv::kvs) Z:=by
 refine⟨E,[(q,some (zR (m.set kv.1 kv.2)))],rfl,h m B hl,?_⟩
 rw[if_pos h0]
 refine⟨kv,kvs,rfl,⟨hl,hd,rfl,rfl,h⟩,?_⟩
 rw[hd]
 exact k
theorem zoy {P:Program}{ops:Array Oper}{n q:Nat}{Z:zr→zp→Prop}:∀(rest:List Oper) (aux:List Aux) (L:zr) (B:zp) (m:GMap K V) (kvs:List (K×V)),zG P ops n q rest aux L B m kvs Z→
  ∃(Es:List Ent) (Ws:List yS),Es.length=rest.length∧Ws.length=rest.length∧Z (Lat rest.toArray Es L rest.length) (BAt rest.toArray Ws B rest.length)∧
   ∀i o,rest[i]?=some o→∃E W,Es[i]?=some E∧Ws[i]?=some W∧W.map (·.1)=((aux[i]?).getD yk).2∧
    zg P ops n o (Lat rest.toArray Es L i) (BAt rest.toArray Ws B i) ((aux[i]?).getD yk) E W∧
    (jg q o=true→∃kv,kvs[(rest.take i).countP (jg q)]?=some kv∧Grp P ops n q o (Lat rest.toArray Es L i) (BAt rest.toArray Ws B i) ((aux[i]?).getD yk) E W (QQ m (kvs.take ((rest.take i).countP (jg q)))) kv):=by
 intro rest
 induction rest with
 | nil=>intro aux L B m kvs h;exact⟨[],[],rfl,rfl,h,fun i o h=>by simp at h⟩
 | cons o rest ih=>
  intro aux L B m kvs h
  obtain⟨E,W,hw,hs,hc⟩:=h
  obtain⟨m1,kvs1,hc1,hgrp,hshape⟩:∃m1 kvs1,zG P ops n q rest aux.tail (ve o.dst E L) (vy o.dst W B) m1 kvs1 Z∧
    (jg q o=true→∃kv,kvs[0]?=some kv∧Grp P ops n q o L B (aux.headD yk) E W m kv)∧
    (∀c,kvs1[c]?=kvs[(bif jg q o then 1 else 0)+c]?∧QQ m1 (kvs1.take c)=QQ m (kvs.take ((bif jg q o then 1 else 0)+c))):=by
   by_cases hg:jg q o=true
   ·
    rw[if_pos hg]at hc
    obtain⟨kv,r,rfl,h1,h2⟩:=hc
    refine⟨_,_,h2,fun _=>⟨kv,rfl,h1⟩,fun c=>?_⟩
    rw[hg,cond_true,Nat.add_comm 1 c]
    exact⟨by simp,by simp[QQ]⟩
   ·
    rw[if_neg hg]at hc
    have hg':jg q o=false:=by simpa using hg
    refine⟨_,_,hc,fun h=>absurd h hg,fun c=>?_⟩
    rw[hg',cond_false,Nat.zero_add]
    exact⟨rfl,rfl⟩
  obtain⟨Es,Ws,hl,hl',hk,hall⟩:=ih _ _ _ _ _ hc1
  have shift:∀i,i≤rest.length→Lat (o::rest).toArray (E::Es) L (i+1)=Lat rest.toArray Es (ve o.dst E L) i:=by
   intro i
   induction i with
   | zero=>intro _;simp[Lat]
   | succ i ih2=>
    intro hi
    rw[Lat,ih2 (by omega),Lat]
    simp
  have shiftB:∀i,i≤rest.length→BAt (o::rest).toArray (W::Ws) B (i+1)=BAt rest.toArray Ws (vy o.dst W B) i:=by
   intro i
   induction i with
   | zero=>intro _;simp[BAt]
   | succ i ih2=>
    intro hi
    rw[BAt,ih2 (by omega),BAt]
    simp
  refine⟨E::Es,W::Ws,by simp[hl],by simp[hl'],?_,?_⟩
  ·
   rw[List.length_cons,shift _ (Nat.le_refl _),shiftB _ (Nat.le_refl _)];exact hk
  ·
   intro i o' ho
   cases i with
   | zero=>
    simp at ho;subst ho
    refine⟨E,W,rfl,rfl,by rw[hw,JL],by rw[←JL];exact hs,fun hg=>?_⟩
    obtain⟨kv,h1,h2⟩:=hgrp hg
    exact⟨kv,h1,by rw[←JL];exact h2⟩
   | succ i=>
    have ho':rest[i]?=some o':=by simpa using ho
    obtain⟨E',W',h1,h1',h2,h3,h4⟩:=hall i o' ho'
    have hi:i≤rest.length:=by have:=(List.getElem?_eq_some_iff.1 ho').1;omega
    have hcnt:((o::rest).take (i+1)).countP (jg q)=(bif jg q o then 1 else 0)+(rest.take i).countP (jg q):=by
     rw[List.take_succ_cons,List.countP_cons]
     cases jg q o<;>simp[Nat.add_comm]
    refine⟨E',W',by simpa using h1,by simpa using h1',by rw[←Yy];exact h2,?_,fun hg=>?_⟩
    ·
     rw[shift i hi,shiftB i hi,←Yy]
     exact h3
    ·
     obtain⟨kv,g1,g2⟩:=h4 hg
     obtain⟨s1,s2⟩:=hshape ((rest.take i).countP (jg q))
     rw[shift i hi,shiftB i hi,←Yy,hcnt]
     exact⟨kv,by rw[←s1];exact g1,by rw[←s2];exact g2⟩
def isG (ops:Array Oper)(q i:Nat):Bool:=match ops[i]? with
 | some o=>jg q o
 | none=>false
def zge (ops:Array Oper)(q:Nat)(aux:List Aux)(g:Nat):List Aux:=(List.range ops.size).map fun j=>bif isG ops q j&&!Nat.beq j g then yk else(aux[j]?).getD yk
def touchQ (ops:Array Oper)(q:Nat)(aux:List Aux)(j:Nat):Bool:=((aux[j]?).getD yk).2.contains q || (match(ops[j]?).bind (·.dst)with | some d=>Nat.beq d q | none=>false)
def zj2 (ops:Array Oper)(q:Nat)(aux:List Aux):Bool:=(List.range ops.size).all fun j=>isG ops q j || !touchQ ops q aux j || ((List.range ops.size).all fun g=>!isG ops q g || Nat.blt j g) || ((List.range ops.size).all fun g=>!isG ops q g || Nat.blt g j)
def Yw (n q:Nat)(ops:Array Oper)(aux:List Aux):Bool:=((List.range (ops.size+1)).all fun g=>wfR ops (zge ops q aux g))&&Yc n ops.toList&&zj2 ops q aux
theorem zdI {ops:Array Oper}{q:Nat}{aux:List Aux}{g j:Nat}(hj:j<ops.size)(h:isG ops q j=false∨j=g):((zge ops q aux g)[j]?).getD yk=(aux[j]?).getD yk:=by
 unfold zge
 rw[List.getElem?_map,List.getElem?_range hj]
 simp only[Option.map_some,Option.getD_some]
 rcases h with h | h
 ·
  rw[h];rfl
 ·
  subst h
  rw[show Nat.beq j j=true from Nat.beq_refl j]
  cases isG ops q j<;>rfl
theorem Jl {n q:Nat}{ops:Array Oper}{aux:List Aux}(h:Yw n q ops aux=true){i j:Nat}{x y:Oper}(hx:ops[i]?=some x)(hy:ops[j]?=some y)(hij:i<j)(hg:¬(isG ops q i=true∧isG ops q j=true))
  (t:Nat) (ht:(t∈q8 x ((aux[i]?).getD yk)∧(t∈q8 y ((aux[j]?).getD yk)∨t∈Qo ops y ((aux[j]?).getD yk)))∨
   (t∈q8 y ((aux[j]?).getD yk)∧(t∈q8 x ((aux[i]?).getD yk)∨t∈Qo ops x ((aux[i]?).getD yk)))):
  ((jS ops.toList).getD j 0).testBit i=true:=by
 have hi':i<ops.size:=(Array.getElem?_eq_some_iff.1 hx).1
 have hj':j<ops.size:=(Array.getElem?_eq_some_iff.1 hy).1
 simp only[Yw,Bool.and_eq_true,List.all_eq_true,List.mem_range]at h
 by_cases hgi:isG ops q i=true
 ·
  have hgj:isG ops q j=false:=by cases hh:isG ops q j with
   | false=>rfl
   | true=>exact absurd ⟨hgi,hh⟩ hg
  refine Jm (h.1.1 i (by omega)) hx hy hij t ?_
  rw[zdI hi' (.inr rfl),zdI hj' (.inl hgj)]
  exact ht
 ·
  have hgi:isG ops q i=false:=by simpa using hgi
  refine Jm (h.1.1 j (by omega)) hx hy hij t ?_
  rw[zdI hi' (.inl hgi),zdI hj' (.inr rfl)]
  exact ht
theorem zqd {n q:Nat}{ops:Array Oper}{aux:List Aux}(h:Yw n q ops aux=true){j:Nat}(hj:j<ops.size)(hg:isG ops q j=false)(ht:touchQ ops q aux j=true):
  (∀g,g<ops.size→isG ops q g=true→j<g)∨(∀g,g<ops.size→isG ops q g=true→g<j):=by
 simp only[Yw,Bool.and_eq_true]at h
 have h:=h.2
 unfold zj2 at h
 rw[List.all_eq_true]at h
 have h:=h j (List.mem_range.2 hj)
 rw[hg,ht]at h
 simp only[Bool.false_or,Bool.not_true,Bool.or_eq_true,List.all_eq_true,List.mem_range,Bool.not_eq_true']at h
 rcases h with h | h
 ·
  exact .inl fun g hgl hgg=>(h g hgl).elim (fun e=>absurd hgg (by rw[e];decide)) (fun e=>Nat.le_of_ble_eq_true e)
 ·
  exact .inr fun g hgl hgg=>(h g hgl).elim (fun e=>absurd hgg (by rw[e];decide)) (fun e=>Nat.le_of_ble_eq_true e)
section
variable {K V:Type} [DecidableEq K]
def qn (G:Nat→Bool)(kv:Nat→K×V)(m0:GMap K V)(p:Nat→Bool):Nat→GMap K V
 | 0=>m0
 | i+1=>bif G i&&p i then(qn G kv m0 p i).set (kv i).1 (kv i).2 else qn G kv m0 p i
theorem zqn {m:GMap K V}{a b:K}{x y:V}(h:a≠b):(m.set a x).set b y=(m.set b y).set a x:=by
 have e:((m.set a x).set b y).f=((m.set b y).set a x).f:=by
  funext k
  show(if k=b then some y else if k=a then some x else m.f k)=(if k=a then some x else if k=b then some y else m.f k)
  by_cases h1:k=a
  ·
   by_cases h2:k=b
   ·
    exact absurd (h1.symm.trans h2) h
   ·
    rw[if_neg h2,if_pos h1,if_pos h1]
  ·
   rw[if_neg h1,if_neg h1]
 cases hA:(m.set a x).set b y
 cases hB:(m.set b y).set a x
 rw[hA,hB]at e
 simp only at e
 rw[e]
theorem zgG {G:Nat→Bool}{kv:Nat→K×V}{m0:GMap K V}{p p':Nat→Bool}:∀n,(∀j,j<n→G j=true→p j=p' j)→qn G kv m0 p n=qn G kv m0 p' n
 | 0,_=>rfl
 | n+1,h=>by
  rw[qn,qn,zgG n (fun j hj=>h j (by omega))]
  cases hg:G n with
  | false=>rfl
  | true=>rw[h n (by omega) hg]
theorem zgH {G:Nat→Bool}{kv:Nat→K×V}{m0:GMap K V}{p:Nat→Bool}{i:Nat}:∀m,i≤m→(∀j,i≤j→j<m→G j=true→p j=false)→qn G kv m0 p m=qn G kv m0 p i
 | 0,h,_=>by rw[show i=0 by omega]
 | m+1,h,hj=>by
  by_cases e:i=m+1
  ·
   rw[e]
  ·
   rw[qn,zgH m (by omega) (fun j h1 h2=>hj j h1 (by omega))]
   cases hg:G m with
   | false=>rfl
   | true=>rw[hj m (by omega) (by omega) hg];rfl
theorem zjo {G:Nat→Bool}{kv:Nat→K×V}{m0:GMap K V}{p p':Nat→Bool}{i:Nat}(hg:G i=true)(hp:p i=false)(hp':∀j,p' j=(p j || Nat.beq i j))(hd:∀j,G j=true→j≠i→(kv i).1≠(kv j).1):
  ∀n,i<n→qn G kv m0 p' n=(qn G kv m0 p n).set (kv i).1 (kv i).2
 | 0,h=>by omega
 | n+1,h=>by
  by_cases hin:i=n
  ·
   subst hin
   have e:qn G kv m0 p' i=qn G kv m0 p i:=zgG i fun j hj _=>by
    rw[hp' j,show Nat.beq i j=false from yx (by omega),Bool.or_false]
   rw[qn,qn,e,hg,hp' i,hp,show Nat.beq i i=true from Nat.beq_refl i];rfl
  ·
   have ih:=zjo (p:=p) (p':=p') (m0:=m0) hg hp hp' hd n (by omega)
   rw[qn,qn,ih,hp' n,show Nat.beq i n=false from yx hin,Bool.or_false]
   cases hgn:G n with
   | false=>rfl
   | true=>
    cases p n with
    | false=>rfl
    | true=>exact zqn (hd n hgn (Ne.symm hin))
end
end
section
variable {K V:Type} [Rep K] [DecidableEq K] [Rep V] [Inhabited (K×V)]
def qW (ops:Array Oper)(q i:Nat):Nat:=(ops.toList.take i).countP (jg q)
def kvG (ops:Array Oper)(q:Nat)(kvs:List (K×V))(j:Nat):K×V:=(kvs[qW ops q j]?).getD default
structure GS (P:Program) (ops:Array Oper) (n q:Nat) (L:zr) (B:zp) (Es:List Ent) (Ws:List yS) (aux:List Aux) (m0:GMap K V) (kvs:List (K×V)):Prop where
 hok:Yw n q ops aux=true
 hl:Es.length=ops.size
 hl':Ws.length=ops.size
 nd:(kvs.map (·.1)).Nodup
 all:∀i o,ops[i]?=some o→∃E W,Es[i]?=some E∧Ws[i]?=some W∧W.map (·.1)=((aux[i]?).getD yk).2∧zg P ops n o (Lat ops Es L i) (BAt ops Ws B i) ((aux[i]?).getD yk) E W∧
  (jg q o=true→∃kv,kvs[qW ops q i]?=some kv∧Grp P ops n q o (Lat ops Es L i) (BAt ops Ws B i) ((aux[i]?).getD yk) E W (QQ m0 (kvs.take (qW ops q i))) kv)
variable {P:Program} {ops:Array Oper} {n q:Nat} {L:zr} {B:zp} {Es:List Ent} {Ws:List yS} {aux:List Aux} {m0:GMap K V} {kvs:List (K×V)}
theorem zcI {i:Nat}(hi:i<ops.size):qW ops q (i+1)=qW ops q i+(bif isG ops q i then 1 else 0):=by
 unfold qW isG
 have hi':i<ops.toList.length:=by simpa using hi
 rw[List.take_succ_eq_append_getElem hi',List.countP_append,Array.getElem?_eq_getElem hi]
 simp only[Array.getElem_toList,List.countP_cons,List.countP_nil]
 cases jg q ops[i]<;>rfl
theorem zsg {i j:Nat}(h:i≤j)(hj:j≤ops.size):qW ops q i≤qW ops q j:=by
 induction j with
 | zero=>rw[show i=0 by omega];exact Nat.le_refl _
 | succ j ih=>
  by_cases e:i=j+1
  ·
   rw[e];exact Nat.le_refl _
  ·
   have:=ih (by omega) (by omega)
   rw[zcI (by omega)];omega
theorem zlC {i j:Nat}(h:i<j)(hj:j≤ops.size)(hg:isG ops q i=true):qW ops q i<qW ops q j:=by
 have h1:=zsg (q:=q) (i:=i+1) (j:=j) h hj
 rw[zcI (by omega),hg]at h1
 simp only[cond_true]at h1;omega
theorem zqG {i:Nat}(h:isG ops q i=true):∃o,ops[i]?=some o∧jg q o=true:=by
 unfold isG at h
 split at h
 ·
  exact⟨_,by assumption,h⟩
 ·
  cases h
theorem GS.grp (S:GS P ops n q L B Es Ws aux m0 kvs){i:Nat}(h:isG ops q i=true):∃o E W,ops[i]?=some o∧Es[i]?=some E∧Ws[i]?=some W∧kvs[qW ops q i]?=some (kvG ops q kvs i)∧
  Grp P ops n q o (Lat ops Es L i) (BAt ops Ws B i) ((aux[i]?).getD yk) E W (QQ m0 (kvs.take (qW ops q i))) (kvG ops q kvs i):=by
 obtain⟨o,ho,hi⟩:=zqG h
 obtain⟨E,W,h1,h2,_,_,h5⟩:=S.all i o ho
 obtain⟨kv,h6,h7⟩:=h5 hi
 have e:kvG ops q kvs i=kv:=by unfold kvG;rw[h6];rfl
 exact⟨o,E,W,ho,h1,h2,by rw[e];exact h6,by rw[e];exact h7⟩
theorem GS.ents (S:GS P ops n q L B Es Ws aux m0 kvs){p:Nat→Bool}:∀i,i≤ops.size→(∀j,j<i→isG ops q j=true→p j=true)→qn (isG ops q) (kvG ops q kvs) m0 p i=QQ m0 (kvs.take (qW ops q i))
 | 0,_,_=>rfl
 | i+1,hi,h=>by
  rw[qn,S.ents i (by omega) (fun j hj=>h j (by omega)),zcI (by omega)]
  cases hg:isG ops q i with
  | false=>rfl
  | true=>
   obtain⟨o,E,W,_,_,_,hk,_⟩:=S.grp hg
   rw[h i (by omega) hg,Bool.and_self,cond_true,cond_true,List.take_add_one,hk]
   unfold QQ
   rw[List.foldl_append];rfl
theorem GS.keys (S:GS P ops n q L B Es Ws aux m0 kvs){i j:Nat}(hi:isG ops q i=true)(hj:isG ops q j=true)(hne:j≠i):(kvG ops q kvs i).1≠(kvG ops q kvs j).1:=by
 obtain⟨oi,_,_,ho,_,_,hk,_⟩:=S.grp hi
 obtain⟨oj,_,_,ho',_,_,hk',_⟩:=S.grp hj
 have hil:=(Array.getElem?_eq_some_iff.1 ho).1
 have hjl:=(Array.getElem?_eq_some_iff.1 ho').1
 have hr:qW ops q i≠qW ops q j:=by
  rcases Nat.lt_or_gt_of_ne hne with h | h
  ·
   have:=zlC (q:=q) h (by omega) hj;omega
  ·
   have:=zlC (q:=q) h (by omega) hi;omega
 intro e
 obtain⟨a1,a2⟩:=List.getElem?_eq_some_iff.1 hk
 obtain⟨b1,b2⟩:=List.getElem?_eq_some_iff.1 hk'
 refine hr ((List.getElem_inj (xs:=kvs.map (·.1)) (h₀:=by simpa using a1) (h₁:=by simpa using b1) S.nd).1 ?_)
 rw[List.getElem_map,List.getElem_map,a2,b2,e]
def WsG (ops:Array Oper)(q:Nat)(Ws:List yS)(kvs:List (K×V))(m0:GMap K V)(p:Nat→Bool):List yS:=
 (List.range ops.size).map fun i=>bif isG ops q i then [(q,some (zR (qn (isG ops q) (kvG ops q kvs) m0 p ops.size)))]else(Ws[i]?).getD []
noncomputable def lkG (ops:Array Oper)(q:Nat)(Ws:List yS)(B:zp)(kvs:List (K×V))(m0:GMap K V)(p:Nat→Bool)(t:Nat):Option ze:=yA ops (WsG ops q Ws kvs m0 p) B p ops.size t
theorem zga {p:Nat→Bool}{j:Nat}(hj:j<ops.size):(WsG ops q Ws kvs m0 p)[j]?=some (bif isG ops q j then [(q,some (zR (qn (isG ops q) (kvG ops q kvs) m0 p ops.size)))]else(Ws[j]?).getD []):=by
 unfold WsG
 rw[List.getElem?_map,List.getElem?_range hj];rfl
theorem GS.touch (S:GS P ops n q L B Es Ws aux m0 kvs){p:Nat→Bool}{j t:Nat}(hj:j<ops.size):qg ops (WsG ops q Ws kvs m0 p) j t↔qg ops Ws j t:=by
 unfold qg
 rw[zga hj]
 have hj':j<Ws.length:=by rw[S.hl'];exact hj
 have hw:Ws[j]?=some Ws[j]:=List.getElem?_eq_getElem hj'
 cases hg:isG ops q j with
 | false=>simp only[cond_false,hw,Option.getD_some]
 | true=>
  obtain⟨o,E,W,_,_,hW,_,_,_,_,hWs,_⟩:=S.grp hg
  rw[hW,hWs]
  simp
theorem GS.newB (S:GS P ops n q L B Es Ws aux m0 kvs){p:Nat→Bool}{j t:Nat}(hj:j<ops.size)(hg:isG ops q j=false):Go.DB.newB (WsG ops q Ws kvs m0 p) j t=Go.DB.newB Ws j t:=by
 unfold Go.DB.newB
 rw[zga hj,hg,cond_false,List.getElem?_eq_getElem (by rw[S.hl'];exact hj)];rfl
theorem zk8 {p:Nat→Bool}{j:Nat}(hj:j<ops.size)(hg:isG ops q j=true):Go.DB.newB (WsG ops q Ws kvs m0 p) j q=some (zR (qn (isG ops q) (kvG ops q kvs) m0 p ops.size)):=by
 unfold Go.DB.newB
 rw[zga hj,hg,cond_true]
 exact za0
theorem zkH {p:Nat→Prop}:∀n,(∃g,g<n∧p g)→∃g,g<n∧p g∧∀j,g<j→j<n→¬p j
 | 0,⟨g,h,_⟩=>by omega
 | n+1,⟨g,h,hg⟩=>by
  by_cases hn:p n
  ·
   exact⟨n,by omega,hn,fun j h1 h2=>by omega⟩
  ·
   obtain⟨g',h1,h2,h3⟩:=zkH n ⟨g,by
    rcases Nat.lt_or_ge g n with h' | h'
    ·
     exact h'
    ·
     rw[show g=n by omega]at hg;exact absurd hg hn,hg⟩
   refine⟨g',by omega,h2,fun j hj1 hj2=>?_⟩
   by_cases e:j=n
   ·
    rw[e];exact hn
   ·
    exact h3 j hj1 (by omega)
theorem zjN {p:Nat→Prop}:∀n,(∃g,g<n∧p g)→∃g,g<n∧p g∧∀j,j<g→¬p j
 | 0,⟨g,h,_⟩=>by omega
 | n+1,⟨g,h,hg⟩=>by
  by_cases hn:∃g,g<n∧p g
  ·
   obtain⟨g',h1,h2,h3⟩:=zjN n hn
   exact⟨g',by omega,h2,h3⟩
  ·
   exact⟨g,h,hg,fun j hj hp=>hn ⟨j,by omega,hp⟩⟩
theorem GS.touch_grp (S:GS P ops n q L B Es Ws aux m0 kvs){j:Nat}(hg:isG ops q j=true):qg ops Ws j q:=by
 obtain⟨o,E,W,_,_,hW,_,_,_,_,hWs,_⟩:=S.grp hg
 exact .inr ⟨W,hW,by rw[hWs];simp⟩
theorem GS.touch_ne (S:GS P ops n q L B Es Ws aux m0 kvs){j t:Nat}(hg:isG ops q j=true)(ht:t≠q):¬qg ops Ws j t:=by
 obtain⟨o,E,W,ho,_,hW,_,_,hd,_,hWs,_⟩:=S.grp hg
 rintro(h | ⟨W',h,hm⟩)
 ·
  rw[ho,Option.bind_some,hd]at h;cases h
 ·
  rw[hW]at h
  injection h with h
  rw[←h,hWs]at hm
  simp at hm
  exact ht hm
theorem GS.lk_ne (S:GS P ops n q L B Es Ws aux m0 kvs){p:Nat→Bool}{t:Nat}(ht:t≠q):∀m,m≤ops.size→yA ops (WsG ops q Ws kvs m0 p) B p m t=yA ops Ws B p m t
 | 0,_=>rfl
 | m+1,hm=>by
  have ih:=S.lk_ne (p:=p) ht m (by omega)
  simp only[yA]
  by_cases h:p m=true∧qg ops Ws m t
  ·
   have hg:isG ops q m=false:=by
    cases hh:isG ops q m with
    | false=>rfl
    | true=>exact absurd h.2 (S.touch_ne hh ht)
   rw[if_pos h,if_pos ⟨h.1,(S.touch (by omega)).2 h.2⟩,S.newB (by omega) hg]
  ·
   rw[if_neg h,if_neg (fun h'=>h ⟨h'.1,(S.touch (by omega)).1 h'.2⟩),ih]
theorem zlB {a b:Nat}(hab:a≤b)(hb:b≤ops.size)(h:∀j,a≤j→j<b→isG ops q j=false):qW ops q b=qW ops q a:=by
 induction b with
 | zero=>rw[show a=0 by omega]
 | succ b ih=>
  by_cases e:a=b+1
  ·
   rw[e]
  ·
   rw[zcI (by omega),h b (by omega) (by omega),ih (by omega) (by omega) (fun j h1 h2=>h j h1 (by omega))];rfl
theorem GS.lk_stat (S:GS P ops n q L B Es Ws aux m0 kvs){p:Nat→Bool}{i:Nat}(hi:i≤ops.size)(hon:∀j,j<i→qg ops Ws j q→p j=true)(hoff:∀g,i≤g→g<ops.size→isG ops q g=true→p g=false):
  yA ops (WsG ops q Ws kvs m0 p) B p i q=zm (BAt ops Ws B i) q:=by
 have he:qn (isG ops q) (kvG ops q kvs) m0 p ops.size=QQ m0 (kvs.take (qW ops q i)):=
  (zgH ops.size hi fun j h1 h2 h3=>hoff j h1 h2 h3).trans (S.ents i hi fun j hj hg=>hon j hj (S.touch_grp hg))
 rw[zaZ S.hl' i q hi]
 have key:∀m,m≤i→(∀j,m≤j→j<i→¬qg ops Ws j q)→yA ops (WsG ops q Ws kvs m0 p) B p m q=yA ops Ws B (fun _=>true) m q:=by
  intro m
  induction m with
  | zero=>intro _ _;rfl
  | succ m ih=>
   intro hm hno
   simp only[yA]
   by_cases h:qg ops Ws m q
   ·
    rw[if_pos ⟨hon m (by omega) h,(S.touch (by omega)).2 h⟩,if_pos ⟨rfl,h⟩]
    cases hg:isG ops q m with
    | false=>exact S.newB (by omega) hg
    | true=>
     obtain⟨o,E,W,_,_,hW,hk,_,_,_,hWs,_⟩:=S.grp hg
     have hr:qW ops q i=qW ops q m+1:=by
      rw[zlB (a:=m+1) hm hi (fun j h1 h2=>by
       cases hh:isG ops q j with
       | false=>rfl
       | true=>exact absurd (S.touch_grp hh) (hno j h1 h2)),zcI (by omega),hg];rfl
     rw[zk8 (by omega) hg,he,hr]
     unfold Go.DB.newB
     rw[hW,hWs]
     show _=zm _ q
     rw[za0,List.take_add_one,hk]
     unfold QQ
     rw[List.foldl_append];rfl
   ·
    rw[if_neg (fun h'=>h ((S.touch (by omega)).1 h'.2)),if_neg (fun h'=>h h'.2)]
    exact ih (by omega) (fun j h1 h2=>by
     by_cases e:j=m
     ·
      rw[e];exact h
     ·
      exact hno j (by omega) h2)
 exact key i (Nat.le_refl _) (fun j h1 h2=>by omega)
omit [Inhabited (K×V)]in
theorem GS.touchQ (S:GS P ops n q L B Es Ws aux m0 kvs){j:Nat}(hj:j<ops.size)(h:qg ops Ws j q):Go.DB.touchQ ops q aux j=true:=by
 obtain⟨E,W,_,hW,hm,_,_⟩:=S.all j _ (Array.getElem?_eq_getElem hj)
 unfold Go.DB.touchQ
 rcases h with h | ⟨W',h,hmem⟩
 ·
  rw[h]
  simp
 ·
  rw[hW]at h
  injection h with h
  rw[←h,hm]at hmem
  rw[show((aux[j]?).getD yk).2.contains q=true by simpa using hmem,Bool.true_or]
theorem GS.lk_grp (S:GS P ops n q L B Es Ws aux m0 kvs){p:Nat→Bool}{i:Nat}(hi:i<ops.size)(hgi:isG ops q i=true)(hb:∀j,j<ops.size→isG ops q j=false→qg ops Ws j q→(j<i→p j=true)∧(i<j→p j=false)):
  yA ops (WsG ops q Ws kvs m0 p) B p ops.size q=some (zR (qn (isG ops q) (kvG ops q kvs) m0 p ops.size)):=by
 have side:∀j,j<ops.size→isG ops q j=false→qg ops Ws j q→(p j=true∧∀g,g<ops.size→isG ops q g=true→j<g)∨(p j=false∧∀g,g<ops.size→isG ops q g=true→g<j):=by
  intro j hj hg ht
  obtain⟨h1,h2⟩:=hb j hj hg ht
  rcases zqd S.hok hj hg (S.touchQ hj ht)with h | h
  ·
   exact .inl ⟨h1 (h i hi hgi),h⟩
  ·
   exact .inr ⟨h2 (h i hi hgi),h⟩
 by_cases hex:∃g,g<ops.size∧(isG ops q g=true∧p g=true)
 ·
  obtain⟨g,g1,⟨g2,g3⟩,g4⟩:=zkH ops.size hex
  rw[QM (i:=g+1) ops.size g1 (fun j h1 h2 ht=>by
   have ht:=(S.touch h2).1 ht
   cases hg:isG ops q j with
   | true=>
    cases hp:p j with
    | false=>rfl
    | true=>exact absurd ⟨hg,hp⟩ (g4 j h1 h2)
   | false=>
    rcases side j h2 hg ht with⟨_,h⟩ | ⟨h,_⟩
    ·
     have:=h g g1 g2;omega
    ·
     exact h)]
  simp only[yA]
  rw[if_pos ⟨g3,(S.touch g1).2 (S.touch_grp g2)⟩,zk8 g1 g2]
 ·
  obtain⟨g,g1,g2,g4⟩:=zjN (p:=fun g=>isG ops q g=true) ops.size ⟨i,hi,hgi⟩
  have noff:∀j,j<ops.size→isG ops q j=true→p j=false:=fun j hj hg=>by
   cases hp:p j with
   | false=>rfl
   | true=>exact absurd ⟨j,hj,hg,hp⟩ hex
  rw[QM (i:=g) ops.size (by omega) (fun j h1 h2 ht=>by
   have ht:=(S.touch h2).1 ht
   cases hg:isG ops q j with
   | true=>exact noff j h2 hg
   | false=>
    rcases side j h2 hg ht with⟨_,h⟩ | ⟨h,_⟩
    ·
     have:=h g g1 g2;omega
    ·
     exact h)]
  rw[S.lk_stat (i:=g) (by omega) (fun j h1 ht=>by
   cases hg:isG ops q j with
   | true=>exact absurd hg (g4 j h1)
   | false=>
    rcases side j (by omega) hg ht with⟨h,_⟩ | ⟨_,h⟩
    ·
     exact h
    ·
     have:=h g g1 g2;omega) (fun j h1 h2 hg=>noff j h2 hg)]
  obtain⟨o,E,W,_,_,_,_,hB,_⟩:=S.grp g2
  have hr:qW ops q g=0:=by
   rw[zlB (a:=0) (Nat.zero_le _) (by omega) (fun j _ h2=>by
    cases hh:isG ops q j with
    | false=>rfl
    | true=>exact absurd hh (g4 j h2))]
   unfold qW;simp
  rw[hB,hr,zgH (i:=0) ops.size (Nat.zero_le _) (fun j _ h2 hg=>noff j h2 hg)]
  rfl
variable {Q:Exit→Act→World→Prop} {F:Fr}
omit [Inhabited (K×V)]in
theorem GS.each (S:GS P ops n q L B Es Ws aux m0 kvs):Each P ops n Es Ws L B aux:=fun i o ho=>by
 obtain⟨E,W,h1,h2,h3,h4,_⟩:=S.all i o ho
 exact⟨E,W,h1,h2,h3,h4⟩
theorem GS.no_dst (S:GS P ops n q L B Es Ws aux m0 kvs){j t:Nat}{oj:Oper}(ho:ops[j]?=some oj)(hd:oj.dst=some t):isG ops q j=false:=by
 cases hg:isG ops q j with
 | false=>rfl
 | true=>
  obtain⟨o,E,W,ho',_,_,_,_,hn,_⟩:=S.grp hg
  rw[ho]at ho'
  injection ho' with e
  rw[e,hn]at hd;cases hd
theorem GS.step (S:GS P ops n q L B Es Ws aux m0 kvs){listed:Array Bool}{a:Act}{w:World}{i:Nat}(h:Q3 (lkG ops q Ws B kvs m0) ops Es L n F listed a w)(hi:i∈Region.ready .any ops listed):
  wpOp P ops Q i (Q3 (lkG ops q Ws B kvs m0) ops Es L n F (listed.setIfInBounds i true)) a w:=by
 obtain⟨M,D,h⟩:=h
 obtain⟨hlt,hoff,o,ho,hedges⟩:=zhu hi
 have hisz:i<ops.size:=by rw[←h.lsize];exact hlt
 have hds:Yc n ops.toList=true:=by have:=S.hok;simp only[Yw,Bool.and_eq_true]at this;exact this.1.2
 obtain⟨E,W,hE,hW,hWm,hstep,_⟩:=S.all i o ho
 have ahead:∀k,((jS ops.toList).getD i 0).testBit k=true→on listed k=true:=by
  intro k hk
  obtain⟨e,he,hb,h1⟩:=zkZ (ops:=ops.toList) (by simpa using ho) hk
  have h2:=hedges e he hb
  rcases h1 with rfl | h1
  ·
   exact h2
  ·
   exact h.closed _ h2 _ h1
 have behind:∀j,((jS ops.toList).getD j 0).testBit i=true→on listed j=false:=by
  intro j hj
  cases hon:on listed j with
  | false=>rfl
  | true=>
   have:=h.closed j hon i hj
   rw[this]at hoff;cases hoff
 have hon:∀j,on (listed.setIfInBounds i true) j=(on listed j || (i==j)):=fun j=>zhq hlt
 have hself:on (listed.setIfInBounds i true) i=true:=by rw[hon];simp
 have hoth:∀j,j≠i→on (listed.setIfInBounds i true) j=on listed j:=fun j hj=>by rw[hon];simp[Ne.symm hj]
 have closed':∀j,on (listed.setIfInBounds i true) j=true→∀k,((jS ops.toList).getD j 0).testBit k=true→on (listed.setIfInBounds i true) k=true:=by
  intro j hj k hk
  rw[hon]at hj⊢
  simp only[Bool.or_eq_true,beq_iff_eq]at hj⊢
  rcases hj with hj | rfl
  ·
   exact .inl (h.closed j hj k hk)
  ·
   exact .inl (ahead k hk)
 have dlt:∀t,o.dst=some t→t<a.tmps.size:=by
  intro t hd
  rw[h.size];exact zgt ops.toList i o t hds (by simpa using ho) hd
 have lookD:∀t,o.dst=some t→qq ops Es L (on (listed.setIfInBounds i true)) ops.size t=some E:=by
  intro t hd
  have hgi:=S.no_dst ho hd
  rw[JV (i:=i+1) ops.size (by omega)]
  ·
   simp only[qq]
   rw[if_pos ⟨hself,by simp[ho,hd]⟩,hE]
  ·
   intro j h1 h2 hdj'
   obtain⟨oj,hoj,hdj⟩:=Option.bind_eq_some_iff.1 hdj'
   rw[hoth j (by omega),behind j (Jl S.hok ho hoj (by omega) (fun hh=>by rw[hgi]at hh;cases hh.1) _ (.inl ⟨YV hd,.inl (YV hdj)⟩))]
 have lookO:∀t,o.dst≠some t→qq ops Es L (on (listed.setIfInBounds i true)) ops.size t=qq ops Es L (on listed) ops.size t:=by
  intro t hd
  refine JU ops.size (fun j _ hdj=>?_)
  by_cases hij:j=i
  ·
   subst hij;simp[ho]at hdj;exact absurd hdj hd
  ·
   exact hoth j hij
 have same:∀t,t∈o.looksAt ops++((aux[i]?).getD yk).1→qq ops Es L (on listed) ops.size t=zC (Lat ops Es L i) t:=by
  intro t ht
  rw[zct S.hl i t (by omega)]
  rw[JV (i:=i) ops.size (by omega)]
  ·
   refine JU i (fun j hj hd=>?_)
   obtain⟨oj,hoj,hdj⟩:=Option.bind_eq_some_iff.1 hd
   have hgj:=S.no_dst hoj hdj
   exact ahead j (Jl S.hok hoj ho hj (fun hh=>by rw[hgj]at hh;cases hh.1) _ (.inl ⟨YV hdj,.inr (zeB ht)⟩))
  ·
   intro j h1 h2 hd
   obtain⟨oj,hoj,hdj⟩:=Option.bind_eq_some_iff.1 hd
   by_cases hji:i=j
   ·
    subst hji;exact hoff
   ·
    have hgj:=S.no_dst hoj hdj
    exact behind j (Jl S.hok ho hoj (by omega) (fun hh=>by rw[hgj]at hh;cases hh.2) _ (.inr ⟨YV hdj,.inr (zeB ht)⟩))
 cases hgi:isG ops q i with
 | false=>
  have nb:∀j,¬(isG ops q i=true∧isG ops q j=true):=fun j hh=>by rw[hgi]at hh;cases hh.1
  have nb':∀j,¬(isG ops q j=true∧isG ops q i=true):=fun j hh=>by rw[hgi]at hh;cases hh.2
  have name:∀t,t∈((aux[i]?).getD yk).1++((aux[i]?).getD yk).2→2*t+1∈q8 o ((aux[i]?).getD yk)∨2*t+1∈Qo ops o ((aux[i]?).getD yk):=by
   intro t ht
   rcases List.mem_append.1 ht with ht | ht
   ·
    exact .inr (zk0 ht)
   ·
    exact .inl (zeC ht)
  have tb:∀t,t∈((aux[i]?).getD yk).1++((aux[i]?).getD yk).2→∀j,j<i→qg ops Ws j t→on listed j=true:=by
   intro t ht j hj hd
   obtain⟨oj,hoj,hdj⟩:=S.each.touch hd (by omega)
   exact ahead j (Jl S.hok hoj ho hj (nb' j) _ (.inl ⟨hdj,name t ht⟩))
  have ta:∀t,t∈((aux[i]?).getD yk).1++((aux[i]?).getD yk).2→∀j,i≤j→j<ops.size→qg ops Ws j t→on listed j=false:=by
   intro t ht j h1 h2 hd
   obtain⟨oj,hoj,hdj⟩:=S.each.touch hd h2
   by_cases hji:i=j
   ·
    subst hji;exact hoff
   ·
    exact behind j (Jl S.hok ho hoj (by omega) (nb j) _ (.inr ⟨hdj,name t ht⟩))
  refine Q3.step h ho hWm hstep same (fun t ht=>?_) lookD lookO (fun t ht=>?_) (fun t ht=>?_) closed' dlt
  ·
   show yA ops (WsG ops q Ws kvs m0 (on listed)) B (on listed) ops.size t=_
   by_cases htq:t=q
   ·
    subst htq
    rw[QM (i:=i) ops.size (by omega) (fun j h1 h2 hd=>ta t ht j h1 h2 ((S.touch h2).1 hd))]
    exact S.lk_stat (by omega) (tb t ht) (fun g h1 h2 hg=>ta t ht g h1 h2 (S.touch_grp hg))
   ·
    rw[S.lk_ne htq ops.size (Nat.le_refl _),zaZ S.hl' i t (by omega),QM (i:=i) ops.size (by omega) (ta t ht)]
    exact YT i (fun j hj hd=>tb t ht j hj hd)
  ·
   show yA ops (WsG ops q Ws kvs m0 (on (listed.setIfInBounds i true))) B (on (listed.setIfInBounds i true)) ops.size t=_
   have htch:qg ops Ws i t:=by
    rcases ht with ht | ht
    ·
     exact .inl (by rw[ho,Option.bind_some];exact ht)
    ·
     exact .inr ⟨W,hW,by rw[hWm];exact ht⟩
   rw[QM (i:=i+1) ops.size (by omega) (fun j h1 h2 hd=>by
    obtain⟨oj,hoj,hdj⟩:=S.each.touch ((S.touch h2).1 hd) h2
    obtain⟨oi,hoi,hdi⟩:=S.each.touch htch hisz
    rw[ho]at hoi
    injection hoi with hoi
    subst hoi
    rw[hoth j (by omega),behind j (Jl S.hok ho hoj (by omega) (nb j) _ (.inl ⟨hdi,.inl hdj⟩))])]
   simp only[yA]
   rw[if_pos ⟨hself,(S.touch hisz).2 htch⟩,S.newB hisz hgi]
   unfold Go.DB.newB
   rw[hW]
  ·
   show yA ops (WsG ops q Ws kvs m0 (on (listed.setIfInBounds i true))) B (on (listed.setIfInBounds i true)) ops.size t=yA ops (WsG ops q Ws kvs m0 (on listed)) B (on listed) ops.size t
   have hne:¬qg ops Ws i t:=by
    rintro(h1 | ⟨W',h1,h2⟩)
    ·
     rw[ho,Option.bind_some]at h1;exact ht (.inl h1)
    ·
     rw[hW]at h1
     injection h1 with h1
     rw[←h1,hWm]at h2
     exact ht (.inr h2)
   have he:qn (isG ops q) (kvG ops q kvs) m0 (on (listed.setIfInBounds i true)) ops.size=qn (isG ops q) (kvG ops q kvs) m0 (on listed) ops.size:=zgG ops.size (fun j _ hg=>hoth j (fun e=>by rw[e,hgi]at hg;cases hg))
   have hWs:WsG ops q Ws kvs m0 (on (listed.setIfInBounds i true))=WsG ops q Ws kvs m0 (on listed):=by unfold WsG;rw[he]
   rw[hWs]
   exact YT ops.size (fun j hj hd=>hoth j (fun e=>hne (e▸(S.touch hj).1 hd)))
 | true=>
  obtain⟨o',E',W',ho',hE',_,_,_,hd,hx,_,poly⟩:=S.grp hgi
  rw[ho]at ho'
  injection ho' with e1
  subst e1
  rw[hE]at hE'
  injection hE' with e2
  subst e2
  have hb:∀j,j<ops.size→isG ops q j=false→qg ops Ws j q→(j<i→on listed j=true)∧(i<j→on listed j=false):=by
   intro j hj hgj ht
   obtain⟨oj,hoj,hdj⟩:=S.each.touch ht hj
   have hqi:2*q+1∈q8 o ((aux[i]?).getD yk):=zeC (by rw[hx];simp)
   exact⟨fun hji=>ahead j (Jl S.hok hoj ho hji (fun hh=>by rw[hgj]at hh;cases hh.1) _ (.inl ⟨hdj,.inl hqi⟩)),
    fun hij=>behind j (Jl S.hok ho hoj hij (fun hh=>by rw[hgj]at hh;cases hh.2) _ (.inl ⟨hqi,.inl hdj⟩))⟩
  have hb':∀j,j<ops.size→isG ops q j=false→qg ops Ws j q→(j<i→on (listed.setIfInBounds i true) j=true)∧(i<j→on (listed.setIfInBounds i true) j=false):=by
   intro j hj hgj ht
   have:=hb j hj hgj ht
   have hji:j≠i:=fun e=>by rw[e,hgi]at hgj;cases hgj
   rw[hoth j hji];exact this
  have hk:=S.lk_grp hisz hgi hb
  have hk':=S.lk_grp hisz hgi hb'
  have hadd:qn (isG ops q) (kvG ops q kvs) m0 (on (listed.setIfInBounds i true)) ops.size=(qn (isG ops q) (kvG ops q kvs) m0 (on listed) ops.size).set (kvG ops q kvs i).1 (kvG ops q kvs i).2:=
   zjo hgi hoff (fun j=>by
    rw[hon]
    congr 1
    cases hij:Nat.beq i j with
    | true=>have:=Nat.eq_of_beq_eq_true hij;subst this;simp
    | false=>simp only[beq_eq_false_iff_ne,ne_eq];intro e;subst e;rw[show Nat.beq i i=true from Nat.beq_refl i]at hij;cases hij) (fun j hgj hne=>S.keys hgi hgj hne) ops.size hisz
  rw[hx]at same
  refine Q3.step (xr:=[q]) (xs:=[q]) (Bi:=[(q,some (zR (qn (isG ops q) (kvG ops q kvs) m0 (on listed) ops.size)))]) h ho rfl (poly _ _ za0) same (fun t ht=>?_) lookD lookO (fun t ht=>?_) (fun t ht=>?_) closed' dlt
  ·
   have:t=q:=by simpa using ht
   subst this
   exact hk.trans za0.symm
  ·
   rcases ht with ht | ht
   ·
    rw[hd]at ht;cases ht
   ·
    have:t=q:=by simpa using ht
    subst this
    refine hk'.trans ?_
    rw[hadd]
    exact za0.symm
  ·
   have htq:t≠q:=fun e=>ht (.inr (by simp[e]))
   show yA ops (WsG ops q Ws kvs m0 (on (listed.setIfInBounds i true))) B (on (listed.setIfInBounds i true)) ops.size t=yA ops (WsG ops q Ws kvs m0 (on listed)) B (on listed) ops.size t
   rw[S.lk_ne htq ops.size (Nat.le_refl _),S.lk_ne htq ops.size (Nat.le_refl _)]
   exact YT ops.size (fun j hj hd'=>hoth j (fun e=>S.touch_ne hgi htq (e▸hd')))
theorem GS.legal (S:GS P ops n q L B Es Ws aux m0 kvs)(hq:∀a w,Sat n F (Lat ops Es L ops.size) (BAt ops Ws B ops.size) a w→Q .normal a w):
  ∀(l:List Nat) (listed:Array Bool) (a:Act) (w:World),Q3 (lkG ops q Ws B kvs m0) ops Es L n F listed a w→zao ops listed l→wpOps P ops Q l a w:=by
 intro l
 induction l with
 | nil=>
  intro listed a w h hlg
  simp only[wpOps]
  obtain⟨M,D,h⟩:=h
  have e1:∀t,zC (Lat ops Es L ops.size) t=qq ops Es L (on listed) ops.size t:=by
   intro t
   rw[zct S.hl _ _ (Nat.le_refl _)]
   exact(JU _ (fun j hj _=>hlg j hj)).symm
  have e2:zm (BAt ops Ws B ops.size)=lkG ops q Ws B kvs m0 (on listed):=by
   funext t
   show _=yA ops (WsG ops q Ws kvs m0 (on listed)) B (on listed) ops.size t
   by_cases ht:t=q
   ·
    subst ht
    exact(S.lk_stat (Nat.le_refl _) (fun j hj _=>hlg j hj) (fun g h1 h2 _=>by omega)).symm
   ·
    rw[S.lk_ne ht ops.size (Nat.le_refl _),zaZ S.hl' _ _ (Nat.le_refl _)]
    exact(YT _ (fun j hj _=>hlg j hj)).symm
  exact hq a w ⟨M,D,h.size,h.defers,h.keeps,h.mf0,h.mlow,h.mhigh,h.msub,fun t e he=>h.has t e (by rw[←e1];exact he),
   fun t c hc=>h.hasB t c (by rw[←e2];exact hc),fun t c hc=>h.own t c (by rw[←e2];exact hc),by rw[e2];exact h.apart⟩
 | cons i l ih=>
  intro listed a w h hlg
  rw[wpOps_cons]
  exact wpOp_mono (fun a w hm=>ih _ a w hm hlg.2) (S.step h hlg.1)
theorem zsT {id:Nat}{draw:Bool}(aux:List Aux)(hm:P.follows .mixedOrders=true)(hok:Yw n q ops aux=true)(hnd:(kvs.map (·.1)).Nodup)
  (hch:zG P ops n q ops.toList aux L B m0 kvs (fun L' B'=>∀a w,Sat n F L' B' a w→Q .normal a w)) {a:Act} {w:World} (hs:Sat n F L B a w):
  (Code.region id ops draw).wp P Q a w:=by
 obtain⟨Es,Ws,hl,hl',hk,hall⟩:=zoy _ _ _ _ _ _ hch
 simp only[Array.length_toList,Array.toArray_toList]at hl hl' hk hall
 have S:GS P ops n q L B Es Ws aux m0 kvs:=⟨hok,hl,hl',hnd,fun i o ho=>hall i o (by simpa using ho)⟩
 have hedge:QJ 0 ops.toList=true:=by
  simp only[Yw,Bool.and_eq_true,List.all_eq_true,List.mem_range]at hok
  have:=hok.1.1 0 (by omega)
  simp only[wfR,Bool.and_eq_true]at this
  exact this.1
 have on0:∀j,on (Array.replicate ops.size false) j=false:=by
  intro j
  unfold on
  rw[Array.getD_eq_getD_getElem?,Array.getElem?_replicate]
  split<;>rfl
 have skip0:∀t m,qq ops Es L (on (Array.replicate ops.size false)) m t=zC L t:=by
  intro t m
  exact JV (i:=0) m (Nat.zero_le _) (fun j _ _ _=>on0 j)
 have skipB0:lkG ops q Ws B kvs m0 (on (Array.replicate ops.size false))=zm B:=by
  funext t
  exact QM (i:=0) ops.size (Nat.zero_le _) (fun j _ _ _=>on0 j)
 have mid:∀w',Ext w w'→Q3 (lkG ops q Ws B kvs m0) ops Es L n F (Array.replicate ops.size false) a w':=by
  intro w' hx
  obtain⟨M,D,hs⟩:=hs
  refine⟨M,D,by simp,fun j hj=>absurd ((on0 j).symm.trans hj) (by simp),hs.size,hs.defers,hs.keeps.trans hx.keeps,hs.mf0,hs.mlow,hs.mhigh,
   hs.msub.ext hx,fun t e he=>?_,fun t c hc=>?_,fun t c hc=>hs.own t c (by rw[←skipB0];exact hc),by rw[skipB0];exact hs.apart⟩
  ·
   rw[skip0]at he
   obtain⟨v,h1,h2⟩:=hs.has t e he
   exact⟨v,h1,Ent.holds_ext hx h2⟩
  ·
   rw[skipB0]at hc
   have h2:=hs.hasB t c hc
   refine c.law M M (D t) _ w w' hx.keeps (fun _ h=>.inl h) (fun m hm=>?_) h2
   have hM:=c.inM _ _ _ _ h2 m hm
   exact⟨hM,hx.block m (hs.msub m hM) (fun f=>f)⟩
 cases draw with
 | false=>
  refine wp_region ?_
  rw[List.range_eq_range']
  exact S.legal hk _ _ _ _ (mid w (zy.refl _ _)) (zkL hedge _ 0 _ (by simp) (by simp) (by intro j;rw[on0];simp))
 | true=>
  refine wp_region_draw fun t=>?_
  have hsch:Region.schedule (P.follows .mixedOrders) ops t=Region.linearise .any ops t:=by
   simp[Region.schedule,hm]
  rw[hsch]
  exact S.legal hk _ _ _ _ (mid _ (Ext.drew w)) (zkK hedge _ _ _ (by simp) (by rw[zl1];simp))
theorem Cod.regionG {id:Nat}{l:List Oper}{draw:Bool}(q:Nat)(m0:GMap K V)(kvs:List (K×V))(aux:List Aux)(hm:P.follows .mixedOrders=true)(hok:Yw n q l.toArray aux=true)(hnd:(kvs.map (·.1)).Nodup)
  (h:zG P l.toArray n q l aux L B m0 kvs (fun L' B'=>zb Q .normal n F L' B')):Cod P (.region id l.toArray draw) Q n F L B:=
 fun _ _ hs=>zsT aux hm hok hnd h hs
end
end Go.DB
namespace Go.DB
open Go Go.RowKit
def YA (s:Str):Bool:=Go.Lib.validD s.b
theorem zuH {P:Program}{ρ:Shelf.Ren}(Ly:Proofs.Lays.n196 P ρ){f:Nat}(hf:ρ.f 196=f)(h3:ρ.g 3=zaH)(h4:ρ.g 4=JJ)(ok:zV P f){s:Str}:zk P f [rep s] (rep (YA s)):=by
 refine⟨ok,fun M w vs hM ha=>?_⟩
 match vs,ha with
 | [v],⟨hv,_⟩=>
  obtain⟨rfl,hs⟩:=y6.1 hv
  subst hf
  have hT:Go.Lib.Utf8Tabs (ρ.g 3) (ρ.g 4) w:=by rw[h3,h4];exact hM.glob.tabs
  refine Calls.mono (Proofs.Any.utf8_ValidString Ly (ByteArray.mk s.b.toArray) w hs hT) ?_
  rintro e w' ⟨rfl,hb⟩
  exact⟨Ext.of_below hb,_,rfl,yQ.2 rfl⟩
end Go.DB
namespace Go.DB
open Go Go.RowKit
def yC (n:Int):Str:=⟨Go.Lib.itoa n⟩
theorem zqH {P:Program}{ρ:Shelf.Ren}(Ly:Proofs.LaysM.n171 P ρ)(h17:ρ.g 17=vq){f:Nat}(hf:ρ.f 171=f)(ok:zV P f){n:Int}(hl:(yC n).b.length≤1000000):
  zk P f [rep n] (rep (yC n)):=by
 refine⟨ok,fun M w vs hM ha=>?_⟩
 match vs,ha with
 | [u],⟨hu,_⟩=>
  obtain⟨rfl,hn⟩:=yR.1 hu
  subst hf
  refine Calls.mono (Proofs.Any.strconv_Itoa Ly n hn.1 hn.2 w (hM.glob.pow (h17▸Ly.m17))) ?_
  rintro e' w' ⟨rfl,k,os,rfl⟩
  have hb:=Go.Lib.below_grow w.heap.size w (Nat.le_refl _) k os
  exact⟨⟨hb.os,hb.tape,hb.output,hb.size,fun k h1 _=>hb.block k h1⟩,_,rfl,y6.2 ⟨rfl,Nat.le_trans hl (by decide)⟩⟩
end Go.DB
namespace Go.DB
open Go Go.RowKit
def qE (s:Str):Int×Q0:=match Go.Lib.atoiAll s.b with
 | .ok v=>(v,⟨false⟩)
 | Go.Lib.NumEnd.syntax=>(0,⟨true⟩)
 | .range=>(Go.Lib.atoiSat s.b,⟨true⟩)
theorem zok {P:Program}{ρ:Shelf.Ren}(Ly:Proofs.LaysC.n172 P ρ)(h15:ρ.g 15=zaK)(h16:ρ.g 16=zaJ){f:Nat}(hf:ρ.f 172=f)(ok:zV P f){s:Str}(hl:s.b.length≤4294967281):
  zk P f [rep s] (zdv (qE s)):=by
 refine⟨ok,fun M w vs hM ha=>?_⟩
 match vs,ha with
 | [u],⟨hu,_⟩=>
  obtain⟨rfl,hn⟩:=y6.1 hu
  subst hf
  have z1:(ByteArray.mk s.b.toArray).size=s.b.length:=rfl
  have e0:(ByteArray.mk s.b.toArray).data.toList=s.b:=rfl
  have herr:=hM.glob.errs
  rw[←h15,←h16]at herr
  obtain⟨⟨t1,p1,k1⟩,t2,p2,k2⟩:=herr
  unfold qE
  rcases h:Go.Lib.atoiAll s.b with v | _ | _
  ·
   skip
   obtain⟨b0,b1⟩:=Go.Lib.atoiAll_bounds h
   refine Calls.mono (Proofs.Any.strconv_Atoi_ok Ly (ByteArray.mk s.b.toArray) (by omega) v h w) ?_
   rintro e w' ⟨rfl,hw⟩
   have hb:Below w.heap.size w w':=by
    rcases hw with rfl | ⟨t,rfl⟩
    ·
     exact Below.refl _ _
    ·
     exact Go.Lib.bytesWorld_below _ _ _
   exact⟨⟨hb.os,hb.tape,hb.output,hb.size,fun k h1 _=>hb.block k h1⟩,_,rfl,zah (yR.2 ⟨rfl,by show InI v;exact⟨by omega,by omega⟩⟩) (zfw.2 (.inl ⟨rfl,rfl⟩))⟩
  ·
   skip
   refine Calls.mono (Proofs.Any.strconv_Atoi_syntax Ly (ByteArray.mk s.b.toArray) (by omega) h _ w k1 (.inr ⟨_,_,rfl⟩)) ?_
   rintro e w' ⟨N,rfl,_,_,hb⟩
   exact⟨⟨hb.os,hb.tape,hb.output,hb.size,fun k h1 _=>hb.block k h1⟩,_,rfl,zah (yR.2 ⟨rfl,by show InI (0:Int);decide⟩) (zfw.2 (.inr ⟨rfl,_,_,rfl⟩))⟩
  ·
   skip
   refine Calls.mono (Proofs.Any.strconv_Atoi_range Ly (ByteArray.mk s.b.toArray) (by omega) h _ w k2 (.inr ⟨_,_,rfl⟩)) ?_
   rintro e w' ⟨N,rfl,_,_,hb⟩
   refine⟨⟨hb.os,hb.tape,hb.output,hb.size,fun k h1 _=>hb.block k h1⟩,_,rfl,zah (yR.2 ⟨rfl,?_⟩) (zfw.2 (.inr ⟨rfl,_,_,rfl⟩))⟩
   show InI (Go.Lib.atoiSat s.b)
   unfold Go.Lib.atoiSat
   split<;>decide
end Go.DB
namespace Go.DB
open Go Go.RowKit
def JZ (x:ByteArray):Str:=⟨x.data.toList⟩
def zae (s sep:Str):List Str:=(Go.Lib.splitB (ByteArray.mk sep.b.toArray) 0 (Go.Lib.countB (ByteArray.mk s.b.toArray) (ByteArray.mk sep.b.toArray)) (ByteArray.mk s.b.toArray)).map JZ
theorem zji {M:zj}{w:World}:∀(l:List ByteArray),(∀x∈l,x.size≤9223372036854775807)→zT M w (l.map JZ) (l.map Value.string)
 | [],_=>rfl
 | x::l,h=>⟨[.string x],l.map Value.string,rfl,⟨congrArg (fun v=>[v]) (by cases x;simp[yo,JZ]),by have:=h x (by simp);show x.data.toList.length≤_;rw[Array.length_toList];exact this⟩,zji l (fun y hy=>h y (by simp[hy]))⟩
theorem zmU (sep:ByteArray)(n:Nat):∀(k:Nat) (s:ByteArray),s.size≤n→∀x∈Go.Lib.splitB sep 0 k s,x.size≤n
 | 0,s,hs,x,hx=>by simp[Go.Lib.splitB]at hx;subst hx;exact hs
 | k+1,s,hs,x,hx=>by
  unfold Go.Lib.splitB at hx
  split at hx
  ·
   simp at hx;subst hx;exact hs
  ·
   rcases List.mem_cons.1 hx with rfl | hx
   ·
    rw[ByteArray.size_extract];omega
   ·
    exact zmU sep n k _ (by rw[ByteArray.size_extract];omega) x hx
theorem zt3 {P:Program}{ρ:Shelf.Ren}(Ly:Proofs.Lays.n146 P ρ)(hi9:(P.info? (ρ.t 9)).map (fun i=>(i.zero,i.size,i.bytes))=some (some (.string ByteArray.empty),1,16)){f T:Nat}(hf:ρ.f 146=f)(hT:ρ.t 9=T)(h1:ρ.g 1=zaI)(ok:zV P f)
  {s sep:Str} (hs:(s.b.length:Int)<4294967281) (hp:sep.b≠[]):ya P f [rep s,rep sep] [] z7 [some (zq T (zae s sep))]:=by
 refine⟨ok,fun M D w vs hM ha hO=>?_⟩
 match vs,ha with
 | [v,u],⟨hv,hu,_⟩=>
  obtain⟨rfl,hs1⟩:=y6.1 hv
  obtain⟨rfl,_⟩:=y6.1 hu
  subst hf;subst hT
  have hz1:(ByteArray.mk s.b.toArray).size=s.b.length:=rfl
  have hz2:(ByteArray.mk sep.b.toArray).size=sep.b.length:=rfl
  have hpp:1≤(ByteArray.mk sep.b.toArray).size:=by rw[hz2];exact List.length_pos_iff.2 hp
  obtain⟨m,hm⟩:=hM.glob.maxLen
  refine Calls.mono (Proofs.Any.strings_Split Ly hi9 (ByteArray.mk s.b.toArray) (ByteArray.mk sep.b.toArray) m w (by omega) (by rw[h1];exact hm) hpp) ?_
  rintro e w' ⟨rfl,rfl⟩
  have hle:=Go.Lib.countB_le (ByteArray.mk sep.b.toArray) hpp (ByteArray.mk s.b.toArray).size (ByteArray.mk s.b.toArray) (Nat.le_refl _)
  have hlen:(zae s sep).length=Go.Lib.countB (ByteArray.mk s.b.toArray) (ByteArray.mk sep.b.toArray)+1:=by
   unfold zae;rw[List.length_map];exact Go.Lib.splitB_all _ hpp 0 _ _ rfl
  have hx:Ext w (w.alloc (.cells ((Go.Lib.splitB (ByteArray.mk sep.b.toArray) 0 (Go.Lib.countB (ByteArray.mk s.b.toArray) (ByteArray.mk sep.b.toArray)) (ByteArray.mk s.b.toArray)).map Value.string).toArray (ρ.t 9))):=Ext.alloc _ _
  refine⟨_,fun k=>M k∨k=w.heap.size,fun _ k=>k=w.heap.size,rfl,hx.keeps,fun k h=>.inl (.inl h),fun k h=>h.imp id (fun e=>by subst e;exact Nat.le_refl _),fun k h=>?_,trivial,?_,?_⟩
  ·
   rw[jW]
   rcases h with h | h
   ·
    have:=hM.lt k h;omega
   ·
    omega
  ·
   intro i c hc
   match i,hc with
   | 0,hc=>
    simp only[List.getElem?_cons_zero,Option.some.injEq]at hc
    subst hc
    refine⟨⟨some ⟨w.heap.size,0,none⟩,_,by rw[hlen];rfl,by rw[hlen];exact Nat.le_refl _,by rw[hz1]at hle;omega,rfl,fun k=>Iff.rfl,.inr rfl,[],_,[],?_,rfl,zji _ (zmU _ _ _ _ (by rw[hz1];exact hs1)),by rw[hlen];simp⟩,fun k hk=>.inr (by rw[hk];exact Nat.le_refl _)⟩
    refine qG.of ?_
    show(w.heap.push _)[w.heap.size]?=_
    rw[Array.getElem?_push_size];simp
  ·
   intro i j c c' hi hj hne
   match i,j,hi,hj with
   | 0,0,_,_=>omega
end Go.DB
namespace Go.DB
open Go Go.RowKit
def j9 (s:Str):List Str:=(Go.Lib.fieldsD s.b).map Str.mk
theorem zgM:∀(k:Nat) (cur l:List UInt8) (n:Nat),cur.length+l.length≤n→∀x∈Go.Lib.fieldsGoD k cur l,x.length≤n
 | 0,cur,l,n,h,x,hx=>by
  unfold Go.Lib.fieldsGoD at hx
  split at hx
  ·
   simp at hx
  ·
   simp at hx;subst hx;omega
 | k+1,cur,l,n,h,x,hx=>by
  have hcur:∀y∈(if cur=[]then []else [cur]),y.length≤n:=fun y hy=>by
   split at hy
   ·
    simp at hy
   ·
    simp at hy;subst hy;omega
  unfold Go.Lib.fieldsGoD at hx
  split at hx
  ·
   exact hcur x hx
  ·
   split at hx
   ·
    rcases List.mem_append.1 hx with hx | hx
    ·
     exact hcur x hx
    ·
     exact zgM k [] _ n (by simp only[List.length_nil,List.length_drop];omega) x hx
   ·
    exact zgM k _ _ n (by simp only[List.length_append,List.length_take,List.length_drop];omega) x hx
theorem zjh {M:zj}{w:World}:∀(l:List Str),(∀x∈l,x.b.length≤9223372036854775807)→zT M w l (l.map yo)
 | [],_=>rfl
 | x::l,h=>⟨[yo x],l.map yo,rfl,⟨rfl,h x (by simp)⟩,zjh l (fun y hy=>h y (by simp[hy]))⟩
theorem zpy {P:Program}{ρ:Shelf.Ren}(Ly:Proofs.Lays.n157 P ρ)(hi9:(P.info? (ρ.t 9)).map (fun i=>(i.zero,i.size,i.bytes))=some (some (.string ByteArray.empty),1,16))
  (hi154:(P.info? (ρ.t 154)).map (fun i=>(i.zero,i.size,i.bytes))=some (some (.agg #[.int .i64 0,.int .i64 0]),2,16)) (hg:P.globalNamed "strings.asciiSpace" = some (ρ.g 0)) (h0:ρ.g 0=vr) (h6:ρ.g 6=zaL)
  {f T:Nat} (hf:ρ.f 157=f) (hT:ρ.t 9=T) (ok:zV P f) {s:Str} (hs:s.b.length≤1000000000):ya P f [rep s] [] z7 [some (zq T (j9 s))]:=by
 refine⟨ok,fun M D w vs hM ha hO=>?_⟩
 match vs,ha with
 | [v],⟨hv,_⟩=>
  obtain⟨rfl,hs1⟩:=y6.1 hv
  subst hf;subst hT
  have z1:(ByteArray.mk s.b.toArray).size=s.b.length:=rfl
  have c:=Proofs.Any.strings_Fields_any Ly hi9 hi154 hg (ByteArray.mk s.b.toArray) w (by omega) (hM.glob.space (by rw[←h0];exact hg)) (by rw[h6];exact hM.glob.white)
  have e0:(ByteArray.mk s.b.toArray).data.toList=s.b:=rfl
  rw[e0]at c
  refine Calls.mono c ?_
  rintro e w' ⟨A,rfl,hA,ho,hb⟩
  have hlen:(j9 s).length=(Go.Lib.fieldsD s.b).length:=by unfold j9;rw[List.length_map]
  have hvs:((Go.Lib.fieldsD s.b).map fun x=>Value.string ⟨x.toArray⟩)=(j9 s).map yo:=by unfold j9;rw[List.map_map];rfl
  rw[hvs]at ho
  rcases ho.2 with⟨h,_⟩ | ⟨g,cap,cur,hv',hbase,hgc,r1,r2,r3,r4⟩
  ·
   cases h
  ·
   have hgA:A=g∧cap=(Go.Lib.fieldsD s.b).length:=by
    injection hv' with a1 a2 a3
    injection a1 with a1
    injection a1 with a1
    exact⟨a1,by omega⟩
   obtain⟨rfl,rfl⟩:=hgA
   have hgl:A<w'.heap.size:=(Array.getElem?_eq_some_iff.1 hgc).1
   have hcur:cur.toList=(j9 s).map yo++cur.toList.drop (j9 s).length:=by
    rw[←List.take_append_drop (j9 s).length cur.toList]
    congr 1
    ·
     rw[hlen];simpa using r4
    ·
     simp
   have hcl:cur.toList.length=(Go.Lib.fieldsD s.b).length:=by simpa using r3
   have hx:zy (DU (fun _ k=>k=A) 0) w w':=⟨hb.os,hb.tape,hb.output,hb.size,fun k hk _=>hb.block k hk⟩
   refine⟨_,fun k=>M k∨k=A,fun _ k=>k=A,rfl,⟨hb.os,hb.tape,hb.output,hb.size,fun k hk _=>hb.block k hk⟩,fun k h=>.inl (.inl h),fun k h=>h.imp id (fun e=>by subst e;exact hA),fun k h=>?_,trivial,?_,?_⟩
   ·
    rcases h with h | h
    ·
     exact Nat.lt_of_lt_of_le (hM.lt k h) hb.size
    ·
     omega
   ·
    intro i c hc
    match i,hc with
    | 0,hc=>
     simp only[List.getElem?_cons_zero,Option.some.injEq]at hc
     subst hc
     refine⟨⟨some ⟨A,0,none⟩,_,by rw[hlen];rfl,by rw[hlen];exact Nat.le_refl _,by unfold maxLen at r2;omega,rfl,fun k=>Iff.rfl,.inr rfl,[],(j9 s).map yo,cur.toList.drop (j9 s).length,?_,rfl,zjh _ (fun x hx=>?_),?_⟩,fun k hk=>.inr (by rw[hk];exact hA)⟩
     ·
      refine qG.of ?_
      rw[hgc]
      congr 2
      rw[List.nil_append,←hcur]
     ·
      obtain⟨y,hy,rfl⟩:=List.mem_map.1 hx
      have:=zgM _ [] s.b s.b.length (by simp) y hy
      show y.length≤_
      omega
     ·
      rw[hlen];simp only[Rep.sz,Nat.mul_one,List.length_drop];omega
   ·
    intro i j c c' hi hj hne
    match i,j,hi,hj with
    | 0,0,_,_=>omega
end Go.DB
namespace Go.DB
open Go Go.RowKit
def trimS (s cs:Str):Str:=⟨Go.Lib.trimS s.b cs.b⟩
theorem zuA {P:Program}{ρ:Shelf.Ren}(Ly:Proofs.Lays.n160 P ρ)(h116:(P.info? (ρ.t 116)).map (fun i=>(i.zero,i.size))=some (some (.agg (Array.replicate 256 (.bool false))),256)){f:Nat}(hf:ρ.f 160=f)(ok:zV P f)
  {s cs:Str} (hs:(cs.b.length:Int)<4294967281∧cs.b.all (fun b=>decide (b.toNat<128))=true):zk P f [rep s,rep cs] (rep (trimS s cs)):=by
 refine⟨ok,fun M w vs hM ha=>?_⟩
 match vs,ha with
 | [v,u],⟨hv,hu,_⟩=>
  obtain⟨rfl,hs1⟩:=y6.1 hv
  obtain⟨rfl,_⟩:=y6.1 hu
  subst hf
  have hz2:(ByteArray.mk cs.b.toArray).size=cs.b.length:=rfl
  have hz1:(ByteArray.mk s.b.toArray).size=s.b.length:=rfl
  refine Calls.mono (Proofs.Any.strings_Trim_laid Ly h116 (ByteArray.mk s.b.toArray) (ByteArray.mk cs.b.toArray) w (by omega) (by have:=hs.1;omega) (by
   have:=Proofs.ascii_of_all hs.2
   simpa using this)) ?_
  rintro e w' ⟨rfl,hb⟩
  have hle:∀(l c:List UInt8),(Go.Lib.trimS l c).length≤l.length:=fun l c=>by
   have h1:∀(l:List UInt8),(Go.Lib.trimLeftS l c).length≤l.length:=fun l=>(List.dropWhile_suffix _).length_le
   refine Nat.le_trans (h1 _) ?_
   unfold Go.Lib.trimRightS
   simp only[List.length_reverse]
   exact Nat.le_trans (List.dropWhile_suffix _).length_le (by simp)
  refine⟨⟨hb.os,hb.tape,hb.output,hb.size,fun k h1 _=>hb.block k h1⟩,_,rfl,y6.2 ⟨?_,?_⟩⟩
  ·
   simp[trimS,yo]
  ·
   have:=hle s.b cs.b
   show(Go.Lib.trimS s.b cs.b).length≤_
   omega
end Go.DB
namespace Go.DB
open Go Go.RowKit
class Enc (α:Type) [Rep α] where
 enc:α→List Value
 ok:α→Prop
 cells:∀{M:zj} {x:α} {cs:List Value} {w:World},Rep.cells M x cs w↔cs=enc x∧ok x
 len:∀x,(enc x).length=Rep.sz α
 one:∀x,∀v∈enc x,jR v=true
instance:Enc Int:=⟨fun n=>[.int .i64 n],InI,fun {M x cs w}=>Iff.rfl,fun _=>rfl,fun x v h=>by obtain rfl:=List.mem_singleton.1 h;rfl⟩
instance:Enc Bool:=⟨fun b=>[.bool b],fun _=>True,fun {M x cs w}=>⟨fun h=>⟨h,trivial⟩,fun h=>h.1⟩,fun _=>rfl,fun x v h=>by obtain rfl:=List.mem_singleton.1 h;rfl⟩
instance {α β:Type} [Rep α] [Rep β] [Enc α] [Enc β]:Enc (α×β):=⟨fun x=>Enc.enc x.1++Enc.enc x.2,fun x=>Enc.ok x.1∧Enc.ok x.2,fun {M x cs w}=>by
 constructor
 ·
  rintro⟨c1,c2,h,h1,h2⟩
  obtain⟨e1,o1⟩:=Enc.cells.1 h1
  obtain⟨e2,o2⟩:=Enc.cells.1 h2
  exact⟨by rw[h,e1,e2],o1,o2⟩
 ·
  rintro⟨h,o1,o2⟩
  exact⟨_,_,h,Enc.cells.2 ⟨rfl,o1⟩,Enc.cells.2 ⟨rfl,o2⟩⟩,fun x=>by rw[List.length_append,Enc.len,Enc.len];rfl,fun x v h=>(List.mem_append.1 h).elim (Enc.one _ v) (Enc.one _ v)⟩
@[reducible] def Enc.via {α β:Type}[Rep β][Enc β](f:α→β):@Enc α (Rep.via f):=@Enc.mk α (Rep.via f) (fun x=>Enc.enc (f x)) (fun x=>Enc.ok (f x)) (fun {M x cs w}=>Enc.cells (α:=β)) (fun x=>Enc.len (f x)) (fun x=>Enc.one (f x))
theorem zdX {α:Type}[Rep α][Enc α]{M:zj}{w:World}:∀(l:List α) (cs:List Value),zT M w l cs↔cs=l.flatMap Enc.enc∧∀x∈l,Enc.ok x
 | [],cs=>by simp[zT]
 | x::l,cs=>by
  constructor
  ·
   rintro⟨c,r,h,h1,h3⟩
   obtain⟨e1,o1⟩:=Enc.cells.1 h1
   obtain⟨h4,h5⟩:=(zdX l r).1 h3
   exact⟨by rw[h,e1,h4];rfl,by simp only[List.forall_mem_cons];exact⟨o1,h5⟩⟩
  ·
   rintro⟨h,h2⟩
   simp only[List.forall_mem_cons]at h2
   exact⟨Enc.enc x,l.flatMap Enc.enc,by rw[h];rfl,Enc.cells.2 ⟨rfl,h2.1⟩,(zdX l _).2 ⟨rfl,h2.2⟩⟩
theorem zjP {α:Type}{enc:α→List Value}{k:Nat}(hk:∀x,(enc x).length=k)(k0:0<k):∀(l:List α) (t:Nat),(l.flatMap enc)[t]?=(l[t / k]?).bind (fun x=>(enc x)[t % k]?)
 | [],t=>by simp
 | x::l,t=>by
  rw[List.flatMap_cons]
  by_cases h:t<k
  ·
   rw[List.getElem?_append_left (by rw[hk];exact h),Nat.div_eq_of_lt h,Nat.mod_eq_of_lt h];rfl
  ·
   rw[List.getElem?_append_right (by rw[hk];omega),hk,zjP hk k0 l]
   have e:t=(t - k)+k:=by omega
   have e1:t / k=(t - k) / k+1:=by rw[show t / k=((t - k)+k) / k by rw[←e],Nat.add_div_right _ k0]
   have e2:t % k=(t - k) % k:=by rw[show t % k=((t - k)+k) % k by rw[←e],Nat.add_mod_right]
   rw[e1,e2,List.getElem?_cons_succ]
theorem zjO {A:Type}[Inhabited A]{enc:A→List Value}{k:Nat}(hk:∀x,(enc x).length=k)(k0:0<k)(d:Array A):(Go.Sort.flatK enc k d)=(d.toList.flatMap enc).toArray:=by
 apply Array.ext_getElem?
 intro t
 have hlen:(d.toList.flatMap enc).length=d.size*k:=by
  rw[List.length_flatMap]
  have:(d.toList.map fun x=>(enc x).length)=List.replicate d.size k:=by
   refine List.ext_getElem (by simp) fun i h1 h2=>?_
   simp[hk]
  rw[this];simp
 by_cases ht:t<d.size*k
 ·
  have h1:t / k<d.size:=Nat.div_lt_of_lt_mul (by rw[Nat.mul_comm];exact ht)
  have h2:t % k<k:=Nat.mod_lt _ k0
  have g:=Go.Sort.get_flatK enc k d t ht
  rw[getElem!_pos _ _ (by simpa using ht)]at g
  rw[Array.getElem?_eq_getElem (by simpa using ht),g,List.getElem?_toArray,zjP hk k0,Array.getElem?_toList,Array.getElem?_eq_getElem h1,Option.bind_some,getElem!_pos d _ h1,List.getElem?_eq_getElem (by rw[hk];exact h2),getElem!_pos _ _ (by rw[hk];exact h2)]
 ·
  rw[Array.getElem?_eq_none (by simpa using Nat.le_of_not_lt ht),List.getElem?_toArray,List.getElem?_eq_none (by rw[hlen];omega)]
theorem zsa {pre cs ds rest:List Value}{off:Nat}(hp:pre.length=off)(hl:cs.length=ds.length):
  Go.Sort.putCells id off ds.toArray (pre++cs++rest).toArray=(pre++ds++rest).toArray:=by
 unfold Go.Sort.putCells
 apply Array.ext_getElem?
 intro k
 rw[Array.getElem?_mapIdx]
 simp only[List.getElem?_toArray,List.size_toArray]
 by_cases h1:k<off
 ·
  rw[List.append_assoc,List.append_assoc,List.getElem?_append_left (by omega),List.getElem?_append_left (by omega)]
  have:¬(off≤k∧k<off+ds.length):=by omega
  simp only[this,if_false]
  cases pre[k]?<;>rfl
 ·
  by_cases h2:k<off+ds.length
  ·
   rw[List.append_assoc,List.append_assoc,List.getElem?_append_right (l₁:=pre) (by omega),List.getElem?_append_left (l₁:=cs) (by omega),List.getElem?_append_right (l₁:=pre) (by omega),List.getElem?_append_left (by omega)]
   have:off≤k∧k<off+ds.length:=by omega
   simp only[this,and_self,if_true,hp]
   rw[List.getElem?_eq_getElem (by omega),Option.map_some,List.getElem?_eq_getElem (by omega)]
   congr 1
   rw[getElem!_pos _ _ (by simp;omega)]
   simp
  ·
   rw[List.getElem?_append_right (by simp;omega),List.getElem?_append_right (by simp;omega)]
   have:¬(off≤k∧k<off+ds.length):=by omega
   simp only[this,if_false]
   have e:(pre++cs).length=(pre++ds).length:=by simp[hl]
   rw[e]
   cases rest[k - (pre++ds).length]?<;>rfl
section
variable {α:Type} {Q:α→Prop} [Inhabited { x:α // Q x }]
noncomputable def qm (cf:{ x:α // Q x }→{ x:α // Q x }→Int)(l:List α):List α:=by
 classical
 exact if h:∀x∈l,Q x then(Sort.pdq (Proofs.ltOf cf) (l.attachWith Q h).toArray 0 l.length (Lib.bitLen l.length) true true).toList.map (·.1)else l
variable {cf:{ x:α // Q x }→{ x:α // Q x }→Int} {l:List α}
theorem zmN (h:∀x∈l,Q x):qm cf l=(Sort.pdq (Proofs.ltOf cf) (l.attachWith Q h).toArray 0 l.length (Lib.bitLen l.length) true true).toList.map (·.1):=by
 unfold qm
 rw[dif_pos h]
theorem zfS (hO:Sort.SWO (Proofs.ltOf cf))(h:∀x∈l,Q x):(qm cf l).Perm l∧(∀(i j:Nat) (hi:i<j) (hj:j<(qm cf l).length) (q1:Q (qm cf l)[i]) (q2:Q (qm cf l)[j]),¬cf ⟨(qm cf l)[j],q2⟩ ⟨(qm cf l)[i],q1⟩<0):=by
 have hs:(l.attachWith Q h).toArray.size=l.length:=by simp
 have hq:=Sort.pdq_sorts (Proofs.ltOf cf) hO (l.attachWith Q h).toArray 0 l.length (Lib.bitLen l.length) true true (Nat.zero_le _) (by rw[hs];exact Nat.le_refl _) (Or.inl rfl)
 obtain⟨⟨p1,p2,p3⟩,hsort⟩:=hq
 have e:=zmN (cf:=cf) h
 generalize Sort.pdq (Proofs.ltOf cf) (l.attachWith Q h).toArray 0 l.length (Lib.bitLen l.length) true true=r at *
 have hrs:r.size=l.length:=by rw[p1,hs]
 have xx:∀(A:Array { x:α // Q x }) (n:Nat),A.size=n→A.extract 0 n=A:=fun A n hn=>by subst hn;simp
 have x1:=xx r l.length hrs
 have x2:=xx (l.attachWith Q h).toArray l.length hs
 rw[x1,x2]at p3
 refine⟨?_,fun i j hi hj q1 q2 hlt=>?_⟩
 ·
  rw[e]
  have:=p3.map (fun x:{ x:α // Q x }=>x.1)
  have e2:((l.attachWith Q h).toArray.toList.map fun x:{ x:α // Q x }=>x.1)=l:=by simp
  rw[e2]at this
  exact this
 ·
  have hj':j<r.size:=by rw[e]at hj;simpa using hj
  have hi':i<r.size:=by omega
  have:=hsort i j (Nat.zero_le _) hi (by omega)
  rw[getElem!_pos r j hj',getElem!_pos r i hi']at this
  unfold Proofs.ltOf at this
  have g:∀(k:Nat) (hk:k<(qm cf l).length) (hk':k<r.size),(qm cf l)[k]=r[k].1:=fun k hk hk'=>by simp[e]
  have ej:(⟨(qm cf l)[j],q2⟩:{ x:α // Q x })=r[j]:=Subtype.ext (g j hj hj')
  have ei:(⟨(qm cf l)[i],q1⟩:{ x:α // Q x })=r[i]:=Subtype.ext (g i (by omega) hi')
  rw[ej,ei]at hlt
  simp[hlt]at this
end
theorem zhX {P:Program}{ρ:Shelf.Ren}(Ly:Proofs.SlLaysF0.n6 P ρ){f g E:Nat}{α:Type}[Rep α][Enc α]{Q:α→Prop}[Inhabited { x:α // Q x }]{cf:{ x:α // Q x }→{ x:α // Q x }→Int}(hf:ρ.f 6=f)(hE:ρ.t 24=E)(ok:zV P f)(okg:zV P g)
  {fds:Array Field} (hagg:P.underlying E=some (.struct fds)) (hT:Ty P E α) (hO:Sort.SWO (Proofs.ltOf cf))
  (hc:∀(x y:{ x:α // Q x }) (W:World),Calls P g #[.agg (Enc.enc x.1).toArray,.agg (Enc.enc y.1).toArray] W fun e w'=>e = .returned (.int .i64 (cf x y))∧∃q os',w'=Go.Sort.grow (W.drewN q) os')
  {s:Value} {l:List α} (hl:(l.length:Int)<4611686018427387904) (hq:∀x∈l,Q x):
  ya P f [isV s,QH g []] [(s,zq E l)] z7 [some (zq E (qm cf l))]:=by
 refine⟨ok,fun M D w vs hM ha hOw=>?_⟩
 match vs,ha with
 | [v,u],⟨hv,⟨caps,hu,hcaps⟩,_⟩=>
  obtain⟨rfl,_⟩:=yH.1 hv
  obtain rfl:caps=[]:=by
   cases caps with
   | nil=>rfl
   | cons c cs=>exact hcaps.elim
  subst hu
  have h0:=hOw.has 0 v (zq E l) rfl
  obtain⟨a,cap,rfl,h1,h2,h3⟩:=h0
  obtain⟨hperm,_⟩:=zfS (l:=l) hO hq
  have hll:(qm cf l).length=l.length:=hperm.length_eq
  subst hf
  cases a with
  | none=>
   obtain⟨h4,h5,h6⟩:=h3
   subst h4
   refine Calls.mono (Proofs.AnyF.slices_SortFunc_none Ly none cap _ w) ?_
   rintro e w' ⟨rfl,rfl⟩
   have hnil:qm cf ([]:List α)=[]:=List.length_eq_zero_iff.1 hll
   refine⟨.tuple #[],M,D,rfl,zy.refl _ _,fun k h=>.inl h,fun k h=>.inl h,hM,trivial,?_,?_⟩
   ·
    intro i c hc
    match i,hc with
    | 0,hc=>
     simp only[List.getElem?_cons_zero,Option.some.injEq]at hc
     subst hc
     rw[hnil]
     exact⟨⟨none,cap,rfl,by simp,h2,rfl,h5,h6⟩,fun k hk=>absurd hk (h6 k)⟩
   ·
    intro i j c c' hi hj hne
    match i,j,hi,hj with
    | 0,0,_,_=>omega
  | some ad=>
   obtain⟨b,off,sp⟩:=ad
   obtain⟨hs,hD,hMb,pre,cs,rest,hh,hp,he,hr⟩:=h3
   simp only at hs hD hMb hh hp
   subst hs
   obtain⟨hcs,hin⟩:=(zdX l cs).1 he
   have hcl:cs.length=l.length*Rep.sz α:=he.len
   have hcell:∀j,w.cell? ⟨b,j,none⟩=(pre++cs++rest).toArray[j]?:=fun j=>hh.cell
   obtain⟨qz,hqz,hh⟩:=hh
   have hfz:∀j,j<(pre++cs++rest).length→w.frozen? ⟨b,j,none⟩=false:=fun j hj=>by simp[World.frozen?,hh];omega
   have hblk:b<w.heap.size:=hM b hMb
   have k0:0<Rep.sz α:=Rep.pos
   have hek:∀x:{ x:α // Q x },(Enc.enc x.1).length=Rep.sz α:=fun x=>Enc.len x.1
   have hds:(l.attachWith Q hq).toArray.size=l.length:=by simp
   have fl0:Go.Sort.flatK (fun x:{ x:α // Q x }=>Enc.enc x.1) (Rep.sz α) (l.attachWith Q hq).toArray=cs.toArray:=by
    rw[zjO hek k0,hcs]
    congr 1
    rw[show(l.attachWith Q hq).toArray.toList=l.attachWith Q hq from rfl]
    conv=>rhs;rw[←List.attachWith_map_subtype_val (p:=Q) (l:=l) hq]
    rw[List.flatMap_map]
   obtain⟨ti,hti,hsize⟩:=Option.map_eq_some_iff.1 hT.size
   have zE:∀w,(Go.sizeOf (ρ.t 24)).run P w = .ok (Rep.sz α) w:=fun w=>by rw[hE];simp[sizeOf,typeInfo,hti,hsize,go_sem]
   have aE:∀w,(isAgg (ρ.t 24)).run P w = .ok true w:=fun w=>by rw[hE];simp[isAgg,underlying,hagg,go_sem]
   have eg:∀args w,(callFunc g args).run P w = .ok (.enter g args) w:=fun args w=>zfB okg args w
   have hcon:=Proofs.AnyQ.slices_SortFunc_eq Ly (Rep.sz α) aE zE (fun x:{ x:α // Q x }=>Enc.enc x.1) hek (fun x v hv=>Enc.one x.1 v hv) cf hO g #[] b off cap (l.attachWith Q hq).toArray w eg
    (fun m os dk _ x y=>by rw[Array.append_empty];exact hc x y _) (fun j hj=>by
     rw[fl0]at hj⊢
     have hj':j<cs.length:=by simpa using hj
     refine⟨?_,hfz _ (by simp;omega)⟩
     rw[hcell,List.getElem?_toArray,List.append_assoc,List.getElem?_append_right (by omega),List.getElem?_append_left (by omega),show off+j - pre.length=j by omega,List.getElem?_eq_getElem hj',getElem!_pos _ _ (by simpa using hj')]
     simp) hblk (by rw[hds];omega)
   rw[hds]at hcon
   refine Calls.mono hcon ?_
   rintro e w' ⟨rfl,n,os,rfl⟩
   have hR:=zmN (cf:=cf) hq
   have fl1:Go.Sort.flatK (fun x:{ x:α // Q x }=>Enc.enc x.1) (Rep.sz α) (Sort.pdq (Proofs.ltOf cf) (l.attachWith Q hq).toArray 0 l.length (Lib.bitLen l.length) true true)=((qm cf l).flatMap Enc.enc).toArray:=by
    rw[zjO hek k0,hR,List.flatMap_map]
   have hfl:cs.length=((qm cf l).flatMap Enc.enc).length:=by
    rw[hcs]
    exact(hperm.symm.flatMap_right _).length_eq
   have hw:Proofs.sortWorldK (fun x:{ x:α // Q x }=>Enc.enc x.1) (Rep.sz α) w b off n (Sort.pdq (Proofs.ltOf cf) (l.attachWith Q hq).toArray 0 l.length (Lib.bitLen l.length) true true) os=Go.Sort.grow (Go.Sort.putRow id (Go.Sort.ahead w n) b off ((qm cf l).flatMap Enc.enc).toArray) os:=by
    show Go.Sort.grow (Go.Sort.putRow id (Go.Sort.ahead w n) b off (Go.Sort.flatK _ _ _)) os=_
    rw[fl1]
   rw[hw]
   have hkeep:zy (DU D 1) w (Go.Sort.grow (Go.Sort.putRow id (Go.Sort.ahead w n) b off ((qm cf l).flatMap Enc.enc).toArray) os):=by
    refine⟨rfl,rfl,rfl,?_,fun k hk hn=>?_⟩
    ·
     simp[Go.Sort.grow,Go.Sort.putRow,Go.Sort.mapBlock,Go.Sort.ahead]
    ·
     have hne:b≠k:=fun e=>hn ⟨0,by omega,(hD k).2 e.symm⟩
     simp only[Go.Sort.grow,Go.Sort.putRow,Go.Sort.mapBlock,Go.Sort.ahead]
     rw[Array.getElem?_append_left (by simpa using hk),Array.getElem?_modify,if_neg hne]
   have hhb:(Go.Sort.grow (Go.Sort.putRow id (Go.Sort.ahead w n) b off ((qm cf l).flatMap Enc.enc).toArray) os).heap[b]?=some (.cells (pre++(qm cf l).flatMap Enc.enc++rest).toArray E qz):=by
    simp only[Go.Sort.grow,Go.Sort.putRow,Go.Sort.mapBlock,Go.Sort.ahead]
    rw[Array.getElem?_append_left (by simpa using hblk),Array.getElem?_modify,if_pos rfl,hh,Option.map_some]
    simp only[Go.Sort.onCells]
    rw[zsa hp hfl]
   generalize Go.Sort.grow (Go.Sort.putRow id (Go.Sort.ahead w n) b off ((qm cf l).flatMap Enc.enc).toArray) os=w' at hkeep hhb
   refine⟨.tuple #[],M,D,rfl,hkeep,fun k h=>.inl h,fun k h=>.inl h,fun k h=>Nat.lt_of_lt_of_le (hM k h) hkeep.size,trivial,?_,?_⟩
   ·
    intro i c hc
    match i,hc with
    | 0,hc=>
     simp only[List.getElem?_cons_zero,Option.some.injEq]at hc
     subst hc
     exact⟨⟨some ⟨b,off,none⟩,cap,by simp[hll],by rw[hll];exact h1,h2,rfl,hD,hMb,pre,_,rest,⟨qz,hqz.imp id (fun h=>⟨h.1,by have:=h.2;simp only[List.length_append,←hfl]at this⊢;omega⟩),hhb⟩,hp,(zdX _ _).2 ⟨rfl,fun x hx=>hin x (hperm.mem_iff.1 hx)⟩,by rw[hll];exact hr⟩,fun k hk=>.inl ⟨0,by simp,hk⟩⟩
   ·
    intro i j c c' hi hj hne
    match i,j,hi,hj with
    | 0,0,_,_=>omega
end Go.DB
namespace Go.DB
open Go Go.RowKit
theorem zni {a b:UInt8}(h1:¬a.toNat<b.toNat)(h2:¬b.toNat<a.toNat):a=b:=UInt8.toNat_inj.1 (by omega)
def zQ:List UInt8→List UInt8→Int
 | [],[]=>0
 | [],_::_=> -1
 | _::_,[]=>1
 | a::l,b::m=>if a.toNat<b.toNat then -1 else if b.toNat<a.toNat then 1 else zQ l m
theorem zau:∀a b:List UInt8,Lib.compareBytes a b=zQ a b
 | [],[]=>rfl
 | [],_::_=>rfl
 | _::_,[]=>rfl
 | a::l,b::m=>by
  unfold Lib.compareBytes zQ
  rw[zau l m]
  rfl
theorem Jv:∀a:List UInt8,zQ a a=0
 | []=>rfl
 | a::l=>by unfold zQ;rw[if_neg (by omega),if_neg (by omega)];exact Jv l
theorem zat:∀{a b:List UInt8},zQ a b=0→a=b
 | [],[],_=>rfl
 | [],_::_,h=>by simp[zQ]at h
 | _::_,[],h=>by simp[zQ]at h
 | a::l,b::m,h=>by
  unfold zQ at h
  by_cases h1:a.toNat<b.toNat
  ·
   rw[if_pos h1]at h;omega
  ·
   rw[if_neg h1]at h
   by_cases h2:b.toNat<a.toNat
   ·
    rw[if_pos h2]at h;omega
   ·
    rw[if_neg h2]at h
    rw[zni h1 h2,zat h]
theorem jI:∀a b:List UInt8,zQ a b = -zQ b a
 | [],[]=>rfl
 | [],_::_=>rfl
 | _::_,[]=>rfl
 | a::l,b::m=>by
  unfold zQ
  by_cases h1:a.toNat<b.toNat
  ·
   rw[if_pos h1,if_neg (by omega),if_pos h1]
  ·
   rw[if_neg h1]
   by_cases h2:b.toNat<a.toNat
   ·
    rw[if_pos h2,if_pos h2];rfl
   ·
    rw[if_neg h2,if_neg h2,if_neg h1];exact jI l m
theorem ziJ:∀a b:List UInt8,zQ a b = -1∨zQ a b=0∨zQ a b=1
 | [],[]=>.inr (.inl rfl)
 | [],_::_=>.inl rfl
 | _::_,[]=>.inr (.inr rfl)
 | a::l,b::m=>by
  unfold zQ
  by_cases h1:a.toNat<b.toNat
  ·
   rw[if_pos h1];exact .inl rfl
  ·
   rw[if_neg h1]
   by_cases h2:b.toNat<a.toNat
   ·
    rw[if_pos h2];exact .inr (.inr rfl)
   ·
    rw[if_neg h2];exact ziJ l m
theorem Q7:∀{a b c:List UInt8},zQ a b≤0→zQ b c≤0→zQ a c≤0∧(zQ a b<0∨zQ b c<0→zQ a c<0)
 | [],b,[],h1,h2=>by
  cases b with
  | nil=>exact⟨Int.le_refl _,fun h=>h.elim id id⟩
  | cons x b=>simp[zQ]at h2
 | [],b,c::n,h1,h2=>⟨by simp[zQ],fun _=>by simp[zQ]⟩
 | a::l,[],c,h1,h2=>by simp[zQ]at h1
 | a::l,b::m,[],h1,h2=>by simp[zQ]at h2
 | a::l,b::m,c::n,h1,h2=>by
  have ih:=@Q7 l m n
  unfold zQ at h1 h2⊢
  by_cases p1:a.toNat<b.toNat
  ·
   by_cases q1:b.toNat<c.toNat
   ·
    rw[if_pos (by omega)];exact⟨by omega,fun _=>by omega⟩
   ·
    rw[if_neg q1]at h2
    by_cases q2:c.toNat<b.toNat
    ·
     rw[if_pos q2]at h2;omega
    ·
     rw[if_pos (by omega)];exact⟨by omega,fun _=>by omega⟩
  ·
   rw[if_neg p1]at h1⊢
   by_cases p2:b.toNat<a.toNat
   ·
    rw[if_pos p2]at h1;omega
   ·
    rw[if_neg p2]at h1⊢
    by_cases q1:b.toNat<c.toNat
    ·
     rw[if_pos (by omega)];exact⟨by omega,fun _=>by omega⟩
    ·
     rw[if_neg q1]at h2⊢
     by_cases q2:c.toNat<b.toNat
     ·
      rw[if_pos q2]at h2;omega
     ·
      rw[if_neg q2]at h2⊢
      rw[if_neg (by omega),if_neg (by omega)]
      exact ih h1 h2
theorem zgj:∀a b:List UInt8,Op.bytesLess a b=decide (zQ a b<0)
 | [],[]=>rfl
 | [],_::_=>rfl
 | _::_,[]=>rfl
 | a::l,b::m=>by
  unfold Op.bytesLess zQ
  rw[zgj l m]
  by_cases h1:a.toNat<b.toNat
  ·
   have:a<b:=h1
   simp[this,h1]
  ·
   have h1':¬a<b:=h1
   rw[if_neg h1]
   by_cases h2:b.toNat<a.toNat
   ·
    have:¬a=b:=fun e=>by subst e;omega
    rw[if_pos h2];simp[h1',this]
   ·
    have:a=b:=zni h1 h2
    subst this
    rw[if_neg h2];simp[h1']
def zoE (s:List UInt8)(n:Int)(t:List UInt8)(m:Int):Int:=if zQ s t≠0 then zQ s t else if n<m then -1 else if m<n then 1 else 0
def zlg (n m:Int):Int:=if n<m then -1 else if m<n then 1 else 0
instance:Enc Str:=⟨fun s=>[yo s],fun s=>s.b.length≤9223372036854775807,fun {M x cs w}=>Iff.rfl,fun _=>rfl,fun x v h=>by obtain rfl:=List.mem_singleton.1 h;rfl⟩
end Go.DB
namespace Go.DB
open Go Go.RowKit
def zgn (s sep:Str):Int:=zQ s.b sep.b
theorem zoG {P:Program}{ρ:Shelf.Ren}(Ly:Proofs.Lays.n106 P ρ){f:Nat}(hf:ρ.f 106=f)(ok:zV P f){s sep:Str}:zk P f [rep s,rep sep] (rep (zgn s sep)):=by
 refine⟨ok,fun M w vs hM ha=>?_⟩
 match vs,ha with
 | [v,u],⟨hv,hu,_⟩=>
  obtain⟨rfl,_⟩:=y6.1 hv
  obtain⟨rfl,_⟩:=y6.1 hu
  subst hf
  refine Calls.mono (Proofs.Any.strings_Compare Ly (ByteArray.mk s.b.toArray) (ByteArray.mk sep.b.toArray) w) ?_
  rintro e w' ⟨rfl,rfl⟩
  refine⟨zy.refl _ _,_,rfl,yR.2 ⟨?_,?_⟩⟩
  ·
   show Value.int .i64 (Lib.compareBytes s.b sep.b)=_
   rw[zau];rfl
  ·
   unfold zgn InI
   rcases ziJ s.b sep.b with e | e | e<;>rw[e]<;>omega
end Go.DB
namespace Go.DB
open Go Go.RowKit
def zaV (l:List Str)(sep:Str):Str:=⟨Go.Lib.join (l.map (·.b)) sep.b⟩
theorem zqQ {P:Program}{ρ:Shelf.Ren}(Ly:Proofs.Lays.n156 P ρ)(X:Proofs.Builder.Extra P ρ){f:Nat}(hf:ρ.f 156=f)(ok:zV P f){l:List Str}{sep:Str}(hl:l.length≤1000000000∧(zaV l sep).b.length≤1000000000):
  zk P f [rep l,rep sep] (rep (zaV l sep)):=by
 refine⟨ok,fun M w vs hM ha=>?_⟩
 match vs,ha with
 | [v,u],⟨hv,hu,_⟩=>
  obtain⟨a,cap,rfl,h1,h2,h3⟩:=Jh.1 hv
  obtain⟨rfl,_⟩:=y6.1 hu
  subst hf
  cases l with
  | nil=>
   refine Calls.mono (Proofs.Any.strings_Join_none Ly X a cap _ w) ?_
   rintro e w' ⟨rfl,rfl⟩
   exact⟨zy.refl _ _,_,rfl,y6.2 ⟨rfl,by show([]:List UInt8).length≤_;decide⟩⟩
  | cons x l=>
   cases a with
   | none=>exact absurd h3 (by simp[j0])
   | some ad=>
    obtain⟨b,off,sp⟩:=ad
    obtain⟨hsp,_,hb,_⟩:=h3 0 (by simp)
    simp only at hsp hb
    subst hsp
    have e0:((x::l).map (fun y=>ByteArray.mk y.b.toArray)).map (·.data.toList)=(x::l).map (·.b):=by rw[List.map_map];rfl
    have c:=Proofs.Any.strings_Join Ly X b off cap ((x::l).map (fun y=>ByteArray.mk y.b.toArray)) (ByteArray.mk sep.b.toArray) w (fun j y hj=>by
     rw[List.getElem?_map]at hj
     obtain⟨z,hz,rfl⟩:=Option.map_eq_some_iff.1 hj
     obtain⟨hlt,rfl⟩:=List.getElem?_eq_some_iff.1 hz
     obtain⟨_,_,_,cs,⟨hc,_⟩,hr⟩:=h3 j hlt
     have:=hr 0 (by decide)
     simp only[Rep.sz,Nat.mul_one,Nat.add_zero]at this
     rw[this,hc];rfl) hb (by rw[List.length_map];have:=hl.1;omega) (by rw[List.length_map];exact h1) (by rw[e0];have:=hl.2;exact Nat.le_trans this (by decide))
    rw[e0,List.length_map]at c
    refine Calls.mono c ?_
    rintro e w' ⟨rfl,hb⟩
    exact⟨⟨hb.os,hb.tape,hb.output,hb.size,fun k h1 _=>hb.block k h1⟩,_,rfl,y6.2 ⟨rfl,Nat.le_trans hl.2 (by decide)⟩⟩
end Go.DB
namespace Go.DB
open Go Go.RowKit
structure SlV where
 a:Option Addr
 n:Nat
 c:Nat
instance:Inhabited SlV:=⟨⟨none,0,0⟩⟩
instance:Rep SlV where
 sz:=1
 agg:=false
 cells:=fun _ x cs _=>cs=[.slice x.a x.n x.c]
 len:=fun h=>by rw[h];rfl
 pos:=by decide
 flat:=fun h=>by rw[h];rfl
 plain:=fun h c hc=>by rw[h]at hc;simp at hc;rw[hc];rfl
 law:=fun _ _ h=>h
instance:Enc SlV:=⟨fun x=>[.slice x.a x.n x.c],fun _=>True,fun {M x cs w}=>⟨fun h=>⟨h,trivial⟩,fun h=>h.1⟩,fun _=>rfl,fun x v h=>by obtain rfl:=List.mem_singleton.1 h;rfl⟩
theorem zkV {A B:Type}(f:A→B){l m:List B}(h:l.Perm m):∀z:List A,z.map f=m→∃z':List A,z'.Perm z∧z'.map f=l:=by
 induction h with
 | nil=>intro z hz;exact⟨z,.refl _,hz⟩
 | @cons x l m _ ih=>
  intro z hz
  cases z with
  | nil=>cases hz
  | cons y z=>
   simp only[List.map_cons,List.cons.injEq]at hz
   obtain⟨z',h1,h2⟩:=ih z hz.2
   exact⟨y::z',h1.cons y,by rw[List.map_cons,h2,hz.1]⟩
 | swap x y l=>
  intro z hz
  match z,hz with
  | a::b::z,hz=>
   simp only[List.map_cons,List.cons.injEq]at hz
   exact⟨b::a::z,.swap a b z,by simp[hz.1,hz.2.1,hz.2.2]⟩
 | trans _ _ ih1 ih2=>
  intro z hz
  obtain⟨z1,h1,h2⟩:=ih2 z hz
  obtain⟨z2,h3,h4⟩:=ih1 z1 h2
  exact⟨z2,h3.trans h1,h4⟩
theorem zfU {A:Type}(R:A→A→Prop)(hR:∀x y,R x y→¬R y x):∀{M N:List A},M.Perm N→M.Pairwise R→N.Pairwise R→M=N
 | [],N,hp,_,_=>List.Perm.nil_eq hp
 | x::M,N,hp,h1,h2=>by
  cases N with
  | nil=>exact absurd hp.length_eq (by simp)
  | cons y N=>
   have hxy:x=y:=by
    have hx:x∈y::N:=hp.mem_iff.1 (by simp)
    have hy:y∈x::M:=hp.mem_iff.2 (by simp)
    rcases List.mem_cons.1 hx with e | hx
    ·
     exact e
    ·
     rcases List.mem_cons.1 hy with e | hy
     ·
      exact e.symm
     ·
      exact absurd ((List.pairwise_cons.1 h2).1 x hx) (hR _ _ ((List.pairwise_cons.1 h1).1 y hy))
   subst hxy
   rw[zfU R hR (List.Perm.cons_inv hp) (List.pairwise_cons.1 h1).2 (List.pairwise_cons.1 h2).2]
section
variable {α:Type}
def Qw (key:α→Str)(a b:α):Prop:=zQ (key a).b (key b).b<0
theorem zkA (key:α→Str)(x y:α)(h:Qw key x y):¬Qw key y x:=by
 unfold Qw at *
 have:=jI (key x).b (key y).b
 omega
noncomputable def zfY (key:α→Str)(l:List α):List α:=by
 classical
 exact if h:∃m:List α,m.Perm l∧m.Pairwise (Qw key)then h.choose else l
theorem znj {key:α→Str}{l m:List α}(h1:m.Perm l)(h2:m.Pairwise (Qw key)):zfY key l=m:=by
 have h:∃m:List α,m.Perm l∧m.Pairwise (Qw key):=⟨m,h1,h2⟩
 unfold zfY
 rw[dif_pos h]
 exact zfU _ (zkA key) (h.choose_spec.1.trans h1.symm) h.choose_spec.2 h2
end
section
variable {α β:Type} [Rep β] (fx:α→Str×List β)
def Y6 (M:zj)(w:World)(p:(Str×SlV)×α):Prop:=p.1.1=(fx p.2).1∧p.1.2.n=(fx p.2).2.length∧(fx p.2).2.length≤p.1.2.c∧p.1.2.c≤9223372036854775807∧j0 M (fx p.2).2 p.1.2.a w∧p.1.1.b.length≤9223372036854775807
theorem zlE {M:zj}{w:World}:∀(l:List α) (cs:List Value),@zT α (Rep.via fx) M w l cs→∃z:List ((Str×SlV)×α),z.map (·.2)=l∧zT M w (z.map (·.1)) cs∧∀p∈z,Y6 fx M w p
 | [],cs,h=>⟨[],rfl,h,fun p hp=>by simp at hp⟩
 | x::l,cs,⟨c,r,h,h1,h2⟩=>by
  obtain⟨z,z1,z2,z3⟩:=zlE l r h2
  obtain⟨c1,c2,e,g1,a,cap,e2,g2,g3,g4⟩:=(show Rep.cells M (fx x) c w from h1)
  refine⟨(((fx x).1,⟨a,(fx x).2.length,cap⟩),x)::z,by rw[List.map_cons,z1],⟨c,r,h,⟨c1,c2,e,g1,e2⟩,z2⟩,fun p hp=>?_⟩
  rcases List.mem_cons.1 hp with rfl | hp
  ·
   exact⟨rfl,rfl,g2,g3,g4,g1.2⟩
  ·
   exact z3 p hp
theorem zlD {M:zj}{w:World}:∀(z:List ((Str×SlV)×α)) (cs:List Value),(∀p∈z,Y6 fx M w p)→zT M w (z.map (·.1)) cs→@zT α (Rep.via fx) M w (z.map (·.2)) cs
 | [],cs,_,h=>h
 | p::z,cs,hz,⟨c,r,h,⟨c1,c2,e,g1,e2⟩,h2⟩=>by
  obtain⟨q1,q2,q3,q4,q5,q6⟩:=hz p (by simp)
  refine⟨c,r,h,?_,zlD z r (fun y hy=>hz y (by simp[hy])) h2⟩
  refine(show Rep.cells M (fx p.2) c w from⟨c1,c2,e,?_,p.1.2.a,p.1.2.c,?_,q3,q4,q5⟩)
  ·
   rw[←q1];exact g1
  ·
   rw[←q2];exact e2
theorem Y6.law {M M':zj}{w w':World}{p:(Str×SlV)×α}(hk:zy M w w')(hm:∀k,M' k→M k∨w.heap.size≤k)(h:Y6 fx M w p):Y6 fx M' w' p:=
 ⟨h.1,h.2.1,h.2.2.1,h.2.2.2.1,h.2.2.2.2.1.law hk hm,h.2.2.2.2.2⟩
end
theorem ztW {P:Program}{ρ:Shelf.Ren}(Ly:Proofs.SlLaysF0.n6 P ρ){f g E:Nat}{α β:Type}[Rep β](fx:α→Str×List β)(hf:ρ.f 6=f)(hE:ρ.t 24=E)(ok:zV P f)(okg:zV P g)
  {fds:Array Field} (hagg:P.underlying E=some (.struct fds)) (hT:Ty P E (Str×SlV))
  (hc:∀(x y:Str×SlV) (W:World),Calls P g #[.agg (Enc.enc x).toArray,.agg (Enc.enc y).toArray] W fun e w'=>e = .returned (.int .i64 (zQ x.1.b y.1.b))∧∃q os',w'=Go.Sort.grow (W.drewN q) os')
  {s:Value} {l:List α} (hl:(l.length:Int)<4611686018427387904) (hn:(l.map fun x=>(fx x).1).Nodup):
  ya P f [isV s,QH g []] [(s,@zq E α (Rep.via fx) l)] z7 [some (@zq E α (Rep.via fx) (zfY (fun x=>(fx x).1) l))]:=by
 letI:Rep α:=Rep.via fx
 haveI:Inhabited { x:Str×SlV // (fun _=>True) x }:=⟨⟨default,trivial⟩⟩
 refine⟨ok,fun M D w vs hM ha hOw=>?_⟩
 obtain⟨a,cap,hv,h1,h2,h3⟩:=hOw.has 0 s (zq E l) rfl
 have hO:Sort.SWO (Proofs.ltOf (fun x y:{ x:Str×SlV // (fun _=>True) x }=>zQ x.1.1.b y.1.1.b)):=by
  have h:∀x y:{ x:Str×SlV // (fun _=>True) x },Proofs.ltOf (fun x y:{ x:Str×SlV // (fun _=>True) x }=>zQ x.1.1.b y.1.1.b) x y=decide (zQ x.1.1.b y.1.1.b<0):=fun x y=>rfl
  constructor
  ·
   intro x;rw[h,Jv];rfl
  ·
   intro x y z h1 h2
   rw[h]at *
   simp only[decide_eq_true_eq]at *
   exact(Q7 (by omega) (by omega)).2 (.inl h1)
  ·
   intro x y z h1 h2
   rw[h]at *
   simp only[decide_eq_false_iff_not,Int.not_lt]at *
   have e1:=jI x.1.1.b y.1.1.b
   have e2:=jI y.1.1.b z.1.1.b
   have e3:=jI x.1.1.b z.1.1.b
   have:=(Q7 (a:=z.1.1.b) (b:=y.1.1.b) (c:=x.1.1.b) (by omega) (by omega)).1
   omega
 obtain⟨z,z1,z2,z3⟩:∃z:List ((Str×SlV)×α),z.map (·.2)=l∧(zq E (z.map (·.1))).p M (D 0) s w∧∀p∈z,Y6 fx M w p:=by
  cases a with
  | none=>
   obtain⟨h4,h5,h6⟩:=h3
   subst h4
   exact⟨[],rfl,⟨none,cap,hv,h1,h2,rfl,h5,h6⟩,fun p hp=>by simp at hp⟩
  | some ad=>
   obtain⟨hs,hD,hMb,pre,cs,rest,hh,hp,he,hr⟩:=h3
   obtain⟨z,z1,z2,z3⟩:=zlE fx l cs he
   have hlen:(z.map (·.1)).length=l.length:=by rw[←z1];simp
   exact⟨z,z1,⟨some ad,cap,by rw[hlen];exact hv,by rw[hlen];exact h1,h2,hs,hD,hMb,pre,cs,rest,hh,hp,z2,by rw[hlen];exact hr⟩,z3⟩
 have hspec:=zhX (s:=s) (l:=z.map (·.1)) (α:=Str×SlV) (Q:=fun _=>True) (cf:=fun x y=>zQ x.1.1.b y.1.1.b) Ly hf hE ok okg hagg hT hO (fun x y W=>hc x.1 y.1 W) (by rw[List.length_map];rw[←z1,List.length_map]at hl;exact hl) (fun _ _=>trivial)
 obtain⟨p1,p2⟩:=zfS (l:=z.map (·.1)) (Q:=fun _=>True) (cf:=fun x y:{ x:Str×SlV // (fun _=>True) x }=>zQ x.1.1.b y.1.1.b) hO (fun _ _=>trivial)
 obtain⟨lv,hlv0⟩:∃lv,lv=qm (Q:=fun _=>True) (fun x y:{ x:Str×SlV // (fun _=>True) x }=>zQ x.1.1.b y.1.1.b) (z.map (·.1)):=⟨_,rfl⟩
 have p3:∀(i j:Nat) (hi:i<j) (hj:j<lv.length),¬zQ (lv[j]).1.b (lv[i]).1.b<0:=by
  subst hlv0
  exact fun i j hi hj=>p2 i j hi hj trivial trivial
 clear p2
 rw[←hlv0]at hspec p1
 obtain⟨z',q1,q2⟩:=zkV (·.1) p1 z rfl
 have hz':∀p∈z',Y6 fx M w p:=fun p hp=>z3 p (q1.mem_iff.1 hp)
 have hperm:(z'.map (·.2)).Perm l:=by rw[←z1];exact q1.map _
 have hsorted:(z'.map (·.2)).Pairwise (Qw fun x=>(fx x).1):=by
  rw[List.pairwise_iff_getElem]
  intro i j hi hj hij
  have hi':i<z'.length:=by simpa using hi
  have hj':j<z'.length:=by simpa using hj
  have hlv:lv.length=z'.length:=by rw[←q2,List.length_map]
  have:=p3 i j hij (by omega)
  have ei:lv[i]'(by omega)=z'[i].1:=by simp[←q2]
  have ej:lv[j]'(by omega)=z'[j].1:=by simp[←q2]
  rw[ei,ej]at this
  have ri:=(hz' _ (List.getElem_mem hi')).1
  have rj:=(hz' _ (List.getElem_mem hj')).1
  rw[ri,rj]at this
  unfold Qw
  rw[List.getElem_map,List.getElem_map]
  have hne:(fx z'[i].2).1≠(fx z'[j].2).1:=fun e=>by
   have hnd:((z'.map (·.2)).map fun x=>(fx x).1).Nodup:=(hperm.map _).nodup_iff.2 hn
   rw[List.nodup_iff_pairwise_ne,List.pairwise_iff_getElem]at hnd
   have:=hnd i j (by simpa using hi') (by simpa using hj') hij
   simp only[List.getElem_map]at this
   exact this e
  have hsw:=jI (fx z'[i].2).1.b (fx z'[j].2).1.b
  have h0:zQ (fx z'[i].2).1.b (fx z'[j].2).1.b≠0:=fun e=>hne (by
   have:=zat e
   cases hx:(fx z'[i].2).1;cases hy:(fx z'[j].2).1
   rw[hx,hy]at this
   simp only at this
   rw[this])
  show zQ (fx z'[i].2).1.b (fx z'[j].2).1.b<0
  omega
 rw[znj hperm hsorted]
 have hDM:∀k,DU D 1 k→M k:=fun k ⟨i,hi,hk⟩=>by
  obtain rfl:i=0:=by omega
  exact ze.inM _ M (D 0) s w z2 k hk
 refine(hspec.calls M D w vs hM ha ⟨fun i s' c hi=>?_,fun i j x y hi hj hne=>?_⟩).mono fun e w' ⟨v,M',D',r1,r2,r3,r4,r5,r6,r7,r8⟩=>⟨v,M',D',r1,r2,r3,r4,r5,r6,fun i c hi=>?_,fun i j c c' hi hj hne=>?_⟩
 ·
  match i,hi with
  | 0,hi=>
   simp only[List.getElem?_cons_zero,Option.some.injEq,Prod.mk.injEq]at hi
   obtain⟨rfl,rfl⟩:=hi
   exact z2
 ·
  match i,j,hi,hj with
  | 0,0,_,_=>omega
 ·
  match i,hi with
  | 0,hi=>
   simp only[List.getElem?_cons_zero,Option.some.injEq]at hi
   subst hi
   obtain⟨⟨a',cap',g1,g2,g3,g4⟩,g5⟩:=r7 0 _ rfl
   refine⟨?_,g5⟩
   have hlen:(z'.map (·.2)).length=lv.length:=by rw[←q2];simp
   have hkM:zy M w w':=r2.mono (fun k _ h=>hDM k h)
   have hr:∀p∈z',Y6 fx M' w' p:=fun p hp=>(hz' p hp).law fx hkM r4
   cases a' with
   | none=>
    obtain⟨u1,u2,u3⟩:=g4
    have:z'.map (·.2)=[]:=List.eq_nil_of_length_eq_zero (by rw[hlen,u1];rfl)
    rw[this]
    rw[u1]at g1 g2
    exact⟨none,cap',g1,g2,g3,rfl,u2,u3⟩
   | some ad=>
    obtain⟨hs,hD,hMb,pre,cs,rest,hh,hp,he,hrr⟩:=g4
    rw[←q2]at he
    exact⟨some ad,cap',by rw[hlen];exact g1,by rw[hlen];exact g2,g3,hs,hD,hMb,pre,cs,rest,hh,hp,zlD fx z' cs hr he,by rw[hlen];exact hrr⟩
 ·
  match i,j,hi,hj with
  | 0,0,_,_=>omega
end Go.DB
namespace Go.DB
open Go Go.RowKit
section
variable {V:Type} [Rep V]
def zaW (y:Nat)(m:GMap Str V):zA where
 p:=fun M v w=>∃b,v = .func (.func y) #[] #[.pointer (some ⟨b,0,none⟩)]∧¬M b∧b<w.heap.size∧∃sv,w.cell? ⟨b,0,none⟩=some sv∧(rep m).p M sv w
 law:=fun M M' v w w' hk hm ⟨b,hv,hM,hb,sv,hc,hr⟩=>⟨b,hv,fun h=>(hm b h).elim hM (by omega),Nat.lt_of_lt_of_le hb hk.size,sv,(World.cell?_of_block (w:=w) (hk.block b hb hM)).trans hc,(rep m).law M M' sv w w' hk hm hr⟩
noncomputable def ql (m:GMap Str V):List Str:=by
 classical
 exact if h:∃l,zD m l then((h.choose.map fun x=>x.1.b).mergeSort Go.leB).map Str.mk else []
omit [Rep V]in
theorem zg9 {m:GMap Str V}{l:List (Str×V)}(h:zD m l):ql m=((l.map fun x=>x.1.b).mergeSort Go.leB).map Str.mk:=by
 have he:∃l,zD m l:=⟨l,h⟩
 unfold ql
 rw[dif_pos he]
 congr 1
 exact Go.mergeSort_of_perm ((he.choose_spec.perm h).map _)
theorem zkD {P:Program}{ρ:Shelf.Ren}(Ly:Proofs.SlLaysZ.n7 P ρ){f y:Nat}(hf:ρ.f 7=f)(hy:ρ.f 10=y)(ok:zV P f){m:GMap Str V}:zk P f [rep m] (zaW y m):=by
 refine⟨ok,fun M w vs hM ha=>?_⟩
 match vs,ha with
 | [v],⟨hv,_⟩=>
  subst hf hy
  obtain⟨mb,rfl⟩:∃mb,v = .map mb:=by
   rcases Ji.1 hv with⟨h,_⟩ | ⟨b,_,_,_,h,_⟩
   ·
    exact⟨none,h⟩
   ·
    exact⟨some b,h⟩
  refine Calls.mono ((callsIn_wide (n:=5)).1 (Proofs.AnyZ.keys_in Ly Fence.wide 5 trivial rfl mb w)) ?_
  rintro e w' ⟨rfl,rfl⟩
  have hx:Ext w (w.alloc (.cells #[.map mb] (ρ.t 23))):=Ext.alloc _ _
  exact⟨hx,_,rfl,w.heap.size,rfl,fun h=>absurd (hM _ h) (by omega),by rw[jW];omega,.map mb,by rw[zgk];rfl,(rep m).ext hx hv⟩
theorem zs5 {M:zj}{w w':World}{T:Nat}{v:Value}{l:List Str}(hM:Low M w)(hb:Below w.heap.size w w')(hi:∀x∈l,x.b.length≤9223372036854775807)(h:w'.ownsRow w.heap.size T 1 v l.length (l.map yo)):
  ∃(M':zj) (D':Nat→zj),(∀D0:Nat→zj,zy (DU D0 0) w w')∧(∀k,M' k→M k∨w.heap.size≤k)∧(∀k,M k→M' k)∧(∀k,M' k→k<w'.heap.size)∧(zq T l).p M' (D' 0) v w'∧∀k,D' 0 k→w.heap.size≤k:=by
 have hkeep:∀D':Nat→zj,zy (DU D' 0) w w':=fun D'=>⟨hb.os,hb.tape,hb.output,hb.size,fun k hk _=>hb.block k hk⟩
 have hel:∀(l:List Str),(∀x∈l,x.b.length≤9223372036854775807)→zT (fun k=>M k) w' l (l.map yo)∧∀M',zT M' w' l (l.map yo):=fun l=>by
  have:∀(M':zj) (l:List Str),(∀x∈l,x.b.length≤9223372036854775807)→zT M' w' l (l.map yo):=fun M' l=>by
   induction l with
   | nil=>intro _;rfl
   | cons x l ih=>exact fun h=>⟨[yo x],l.map yo,rfl,⟨rfl,h x (by simp)⟩,ih (fun y hy=>h y (by simp[hy]))⟩
  exact fun h=>⟨this _ l h,fun M'=>this M' l h⟩
 rcases h.2 with⟨rfl,hz⟩ | ⟨g,cap,cur,rfl,hbase,hg,r1,r2,r3,r4⟩
 ·
  obtain rfl:l=[]:=List.eq_nil_of_length_eq_zero hz
  exact⟨M,fun _ _=>False,hkeep,fun k h=>.inl h,fun k h=>h,fun k h=>Nat.lt_of_lt_of_le (hM.lt k h) hb.size,⟨none,0,rfl,by simp,by omega,rfl,rfl,fun k h=>h⟩,fun k h=>h.elim⟩
 ·
  have hgl:g<w'.heap.size:=(Array.getElem?_eq_some_iff.1 hg).1
  refine⟨fun k=>M k∨k=g,fun _ k=>k=g,hkeep,fun k h=>h.imp id (fun e=>by subst e;exact hbase),fun k h=>.inl h,fun k h=>h.elim (fun h=>Nat.lt_of_lt_of_le (hM.lt k h) hb.size) (fun e=>by subst e;exact hgl),?_,fun k h=>by subst h;exact hbase⟩
  have hcur:cur.toList=l.map yo++cur.toList.drop l.length:=by
   rw[←List.take_append_drop l.length cur.toList]
   congr 1
   ·
    simpa using r4
   ·
    simp
  have hcl:cur.toList.length=cap:=by simpa using r3
  refine⟨some ⟨g,0,none⟩,cap,rfl,r1,by unfold maxLen at r2;omega,rfl,fun k=>Iff.rfl,.inr rfl,[],l.map yo,cur.toList.drop l.length,?_,rfl,(hel l hi).2 _,?_⟩
  ·
   refine qG.of ?_
   rw[hg]
   congr 2
   rw[List.nil_append,←hcur]
  ·
   simp only[Rep.sz,Nat.mul_one,List.length_drop];omega
theorem zrs {P:Program}{k:TypeId}(hk:P.underlying k=some .string){M:zj}{w:World}{m:GMap Str V}{b clock:Nat}{es:Array MapEntry}{l:List (Str×V)}(hh:w.heap[b]?=some (.map es clock))(hi:qQ M w m es clock l)(hn:l.length≤8796093022208):
  ∃D0:DataW Unit,w.ownsMap P k (fun _=>some (.nil,[])) b es.size D0∧(Go.strKeys D0).Perm (l.map fun x=>x.1.b)∧Maps.size D0=l.length:=by
 have hlen:es.toList.length=l.length:=hi.ents.1
 have hkey:∀(j:Nat) (e:MapEntry),es.toList[j]?=some e→∃x,l[j]?=some x∧e.key=yo x.1∧x.1.b.length≤9223372036854775807:=fun j e he=>by
  obtain⟨x,hx,h1,_⟩:=hi.ents.at he
  obtain⟨h2,h3⟩:=y6.1 h1
  exact⟨x,hx,h2,h3⟩
 have hrd:∀(j:Nat) (e:MapEntry),es.toList[j]?=some e→∃x,l[j]?=some x∧WideElems.rd (H:=Unit) P k (fun _=>some (.nil,[])) e=some (.string x.1.b,.nil):=fun j e he=>by
  obtain⟨x,hx,h1,h2⟩:=hkey j e he
  refine⟨x,hx,?_⟩
  unfold WideElems.rd
  rw[h1]
  have:keyOf P k (yo x.1)=some (.string x.1.b):=WideMaps.keyOf_string_mk hk (s:=⟨x.1.b.toArray⟩) (by show x.1.b.length≤maxLen;exact h2)
  rw[this];rfl
 refine⟨_,⟨es,clock,hh,⟨?_,⟨hi.low,hi.born,?_⟩,fun e he=>?_⟩,Nat.le_refl _,rfl⟩,?_,?_⟩
 ·
  show es.size≤maxLen
  have:es.size=l.length:=by rw[←hlen];simp
  unfold maxLen;omega
 ·
  -- the keys are apart
  rw[List.nodup_iff_pairwise_ne,List.pairwise_iff_getElem]
  intro i j hi' hj' hij e
  rw[List.getElem_map,List.getElem_map]at e
  have hi2:i<es.toList.length:=by simpa using hi'
  have hj2:j<es.toList.length:=by simpa using hj'
  obtain⟨x,hx,ex,_⟩:=hkey i _ (List.getElem?_eq_getElem hi2)
  obtain⟨y,hy,ey,_⟩:=hkey j _ (List.getElem?_eq_getElem hj2)
  rw[ex,ey]at e
  have hxy:x.1=y.1:=by
   have:=congrArg (fun v:Value=>match v with | .string s=>s.data.toList | _=>[]) e
   simp only[yo]at this
   cases hx1:x.1;cases hy1:y.1
   rw[hx1,hy1]at this
   simp only at this
   rw[this]
  have hnd:=hi.lists.nodup
  rw[List.nodup_iff_pairwise_ne,List.pairwise_iff_getElem]at hnd
  obtain⟨a1,a2⟩:=List.getElem?_eq_some_iff.1 hx
  obtain⟨b1,b2⟩:=List.getElem?_eq_some_iff.1 hy
  have:=hnd i j (by rw[List.length_map];exact a1) (by rw[List.length_map];exact b1) hij
  rw[List.getElem_map,List.getElem_map,a2,b2]at this
  exact this hxy
 ·
  obtain⟨j,hj⟩:=List.getElem?_of_mem he
  obtain⟨x,_,h⟩:=hrd j e hj
  exact⟨_,h⟩
 ·
  have hp:=WideShapes.sorted_perm (es.toList.map (WideElems.rg (H:=Unit) P k (fun _=>some (.nil,[]))))
  refine((hp.map fun p=>strOf p.1)).trans ?_
  rw[List.map_map]
  refine List.Perm.of_eq (List.ext_getElem (by simp only[List.length_map];exact hlen) fun j h1 h2=>?_)
  have hj:j<es.toList.length:=by simpa using h1
  obtain⟨x,hx,h⟩:=hrd j _ (List.getElem?_eq_getElem hj)
  obtain⟨a1,a2⟩:=List.getElem?_eq_some_iff.1 hx
  rw[List.getElem_map,List.getElem_map,a2]
  simp only[Function.comp,WideElems.rg,h,Option.getD_some,strOf]
 ·
  show(List.foldr DataW.insert [] _).length=_
  rw[(WideShapes.sorted_perm _).length_eq,List.length_map,hlen]
theorem zmQ {P:Program}{ρ σ τ:Shelf.Ren}(L7:Proofs.SlLaysZ.n7 P ρ)(L6:Proofs.SlLaysZ.n6 P σ)(Ls:Proofs.SlLaysM.n6 P τ){f y o T:Nat}(hf:σ.f 6=f)(hy:ρ.f 10=y)(ho:σ.f 9=o)(ho2:τ.f 6=o)(hT:σ.t 26=T)(hk:P.underlying (ρ.t 26)=some .string)
    (ok:zV P f) (oky:zV P y) (oko:zV P o) {m:GMap Str V} (hn:m.size≤8796093022208) (hl:∃l,zD m l):ya P f [zaW y m] [] z7 [some (zq T (ql m))]:=by
  refine⟨ok,fun M D w vs hM ha hO=>?_⟩
  match vs,ha with
  | [v], ⟨⟨B, hvv, hBM, hB, sv, hc, hm⟩, _⟩ =>
    subst hvv hf hy hT
    have hsort:Proofs.AnyZ.SortsIn P σ Fence.wide (5 - 1):=
      ⟨fun blk off cap ss W hH hblk hsz=>callsIn_wide.2 (by rw[ho,←ho2];exact Proofs.AnyM.slices_Sort_string Ls blk off cap ss W hH hblk hsz),
       fun p cap W=>callsIn_wide.2 (by rw[ho,←ho2];exact Proofs.AnyM.slices_Sort_string_none Ls p cap W)⟩
    have e9:∀args w,(callFunc (σ.f 9) args).run P w = .ok (.enter (σ.f 9) args) w:=fun args w=>zfB (by rw[ho];exact oko) args w
    have ey:∀args w,(callFunc (ρ.f 10) args).run P w = .ok (.enter (ρ.f 10) args) w:=fun args w=>zfB oky args w
    have fin:∀(e:Ending) (w':World),(∃(v:Value) (ss:List (List UInt8)),e = .returned v∧(∃l,zD m l∧ss.Perm (l.map fun x=>x.1.b)∧∀x∈l,x.1.b.length≤9223372036854775807)∧
        w'.ownsRow w.heap.size (σ.t 26) 1 v ss.length ((ss.mergeSort (fun x y=>decide (x≤y))).map Proofs.encStr)∧(v = .slice none 0 0↔ss=[])∧Below w.heap.size w w')→
        vE ⟨w,M,DU D 0⟩ z7 [] [some (zq (σ.t 26) (ql m))] e w':=fun e w' ⟨v,ss,he,⟨l,hl,hss,hlen⟩,ho,_,hb⟩=>by
      have hks:ql m=(ss.mergeSort Go.leB).map Str.mk:=by rw[zg9 hl,Go.mergeSort_of_perm hss]
      have hcnt:ss.length=(ql m).length:=by rw[hks,List.length_map,List.length_mergeSort]
      have hvs:(ss.mergeSort (fun x y=>decide (x≤y))).map Proofs.encStr=(ql m).map yo:=by rw[hks,List.map_map];rfl
      rw[hcnt,hvs]at ho
      obtain⟨M',D',a1,a2,a3,a4,a5,a6⟩:=zs5 hM hb (fun x hx=>by
        rw[hks]at hx
        obtain⟨z,hz,rfl⟩:=List.mem_map.1 hx
        have:=hss.mem_iff.1 ((List.mergeSort_perm ss Go.leB).mem_iff.1 hz)
        obtain⟨q,hq,rfl⟩:=List.mem_map.1 this
        exact hlen q hq) ho
      refine⟨v,M',D',he,a1 D,fun k h=>.inl (a3 k h),a2,a4,trivial,fun i c hi=>?_,fun i j c c' hi hj hne=>?_⟩
      · match i,hi with
        | 0, hi =>
          simp only[List.getElem?_cons_zero,Option.some.injEq]at hi
          subst hi
          exact⟨a5,fun k hk=>.inr (a6 k hk)⟩
      · match i,j,hi,hj with
        | 0,0,_,_=>omega
    rcases Ji.1 hm with⟨rfl,rfl⟩ | ⟨b,es,clock,l,rfl,hbM,hbl,hh,hi⟩
    · have hseq:=Proofs.AnyZ.keys_gives_nil (ρ:=ρ) { L7 with } Fence.wide 2 trivial rfl B w hB hc
      have cS:=Proofs.AnyZ.sorted_in L6 Fence.wide 5 trivial trivial trivial trivial rfl (by omega) hsort e9 (ρ.f 10) #[.pointer (some ⟨B,0,none⟩)] trivial ey _ 0 (by decide) (by decide) w hseq
      refine Calls.mono ((callsIn_wide (n:=5)).1 cS) fun e w' ⟨v,ss,h1,h2,h3,h4,h5⟩=>fin e w' ⟨v,ss,h1,⟨[],zD.nil,by rw[h2];exact .refl _,by simp⟩,h3,h4,h5⟩
    · have hln:l.length≤8796093022208:=by have:=hi.lists.size;omega
      obtain⟨D0,g1,g2,g3⟩:=zrs (P:=P) (k:=ρ.t 26) hk hh hi hln
      have hseq:=Proofs.AnyZ.keys_gives (ρ:=ρ) { L7 with } Fence.wide 2 trivial rfl (by omega) B b es.size D0 w hB hc g1
      have cS:=Proofs.AnyZ.sorted_in L6 Fence.wide 5 trivial trivial trivial trivial rfl (by omega) hsort e9 (ρ.f 10) #[.pointer (some ⟨B,0,none⟩)] trivial ey _ (Maps.size D0) (by rw[g3];unfold maxLen;omega) (by rw[g3];omega) w hseq
      refine Calls.mono ((callsIn_wide (n:=5)).1 cS) fun e w' ⟨v,ss,h1,h2,h3,h4,h5⟩=>fin e w' ⟨v,ss,h1,⟨l,hi.lists,h2.trans g2,fun x hx=>?_⟩,h3,h4,h5⟩
      obtain⟨j,hj⟩:=List.getElem?_of_mem hx
      have hjl:=(List.getElem?_eq_some_iff.1 hj).1
      have hje:j<es.toList.length:=by rw[hi.ents.1];exact hjl
      obtain⟨x',hx',h1',_⟩:=hi.ents.at (List.getElem?_eq_getElem hje)
      rw[hj]at hx'
      obtain rfl:=Option.some.inj hx'
      exact(y6.1 h1').2
end
end Go.DB
namespace Go.DB
open Go Go.RowKit
structure zdC {κ:Type} (Q:κ→Prop) (c:κ→κ→Int):Prop where
 self:∀x,c x x=0
 swap:∀x y,c x y = -c y x
 zero:∀x y,c x y=0→x=y
 trans:∀x y z,Q x→Q y→Q z→c x y≤0→c y z≤0→c x z≤0∧(c x y<0∨c y z<0→c x z<0)
section
variable {α κ:Type}
def kLt (c:κ→κ→Int)(key:α→κ)(a b:α):Prop:=c (key a) (key b)<0
theorem zqT {Q:κ→Prop}{c:κ→κ→Int}(hc:zdC Q c)(key:α→κ)(x y:α)(h:kLt c key x y):¬kLt c key y x:=by
 unfold kLt at *
 have:=hc.swap (key x) (key y)
 omega
noncomputable def JP (c:κ→κ→Int)(key:α→κ)(l:List α):List α:=by
 classical
 exact if h:∃m:List α,m.Perm l∧m.Pairwise (kLt c key)then h.choose else l
theorem JQ {Q:κ→Prop}{c:κ→κ→Int}(hc:zdC Q c){key:α→κ}{l m:List α}(h1:m.Perm l)(h2:m.Pairwise (kLt c key)):JP c key l=m:=by
 have h:∃m:List α,m.Perm l∧m.Pairwise (kLt c key):=⟨m,h1,h2⟩
 unfold JP
 rw[dif_pos h]
 exact zfU _ (zqT hc key) (h.choose_spec.1.trans h1.symm) h.choose_spec.2 h2
end
structure z6 (α ρ:Type) [Rep α] [Rep ρ] where
 rel:zj→World→ρ→α→Prop
 sz:Rep.sz ρ=Rep.sz α
 split:∀{M x cs w},Rep.cells M x cs w→∃r:ρ,Rep.cells M r cs w∧rel M w r x
 join:∀{M x cs w} {r:ρ},Rep.cells M r cs w→rel M w r x→Rep.cells M x cs w
 law:∀{M M' w w' r x},zy M w w'→(∀k,M' k→M k∨w.heap.size≤k)→rel M w r x→rel M' w' r x
def z6.same (α:Type)[Rep α]:z6 α α where
 rel:=fun _ _ r x=>r=x
 sz:=rfl
 split:=fun h=>⟨_,h,rfl⟩
 join:=fun h e=>e▸h
 law:=fun _ _ h=>h
def z6.row (β:Type)[Rep β]:z6 (List β) SlV where
 rel:=fun M w r x=>r.n=x.length∧x.length≤r.c∧r.c≤9223372036854775807∧j0 M x r.a w
 sz:=rfl
 split:=fun {M x cs w} ⟨a,cap,h,h1,h2,h3⟩=>⟨⟨a,x.length,cap⟩,h,rfl,h1,h2,h3⟩
 join:=fun {M x cs w r} h ⟨e,h1,h2,h3⟩=>⟨r.a,r.c,by rw[←e];exact h,h1,h2,h3⟩
 law:=fun hk hm ⟨e,h1,h2,h3⟩=>⟨e,h1,h2,h3.law hk hm⟩
def z6.pair {α β ρ σ:Type}[Rep α][Rep β][Rep ρ][Rep σ](a:z6 α ρ)(b:z6 β σ):z6 (α×β) (ρ×σ) where
 rel:=fun M w r x=>a.rel M w r.1 x.1∧b.rel M w r.2 x.2
 sz:=by
  show Rep.sz ρ+Rep.sz σ=Rep.sz α+Rep.sz β
  rw[a.sz,b.sz]
 split:=fun {M x cs w} ⟨c1,c2,h,h1,h2⟩=>by
  obtain⟨r,r1,r2⟩:=a.split h1
  obtain⟨s,s1,s2⟩:=b.split h2
  exact⟨(r,s),⟨c1,c2,h,r1,s1⟩,r2,s2⟩
 join:=fun {M x cs w r} ⟨c1,c2,h,h1,h2⟩ ⟨e1,e2⟩=>⟨c1,c2,h,a.join h1 e1,b.join h2 e2⟩
 law:=fun hk hm ⟨e1,e2⟩=>⟨a.law hk hm e1,b.law hk hm e2⟩
def z6.via {α β ρ:Type}[Rep β][Rep ρ](f:α→β)(a:z6 β ρ):@z6 α ρ (Rep.via f) _:=
 letI:Rep α:=Rep.via f
 ⟨fun M w r x=>a.rel M w r (f x),a.sz,fun {M x cs w} h=>a.split (show Rep.cells M (f x) cs w from h),fun {M x cs w r} h e=>a.join h e,fun hk hm e=>a.law hk hm e⟩
section
variable {α ρ:Type} [Rep α] [Rep ρ] (R:z6 α ρ)
theorem z6.splitL {M:zj}{w:World}:∀(l:List α) (cs:List Value),zT M w l cs→∃z:List (ρ×α),z.map (·.2)=l∧zT M w (z.map (·.1)) cs∧∀p∈z,R.rel M w p.1 p.2
 | [],cs,h=>⟨[],rfl,h,fun p hp=>by simp at hp⟩
 | x::l,cs,⟨c,r,h,h1,h2⟩=>by
  obtain⟨z,z1,z2,z3⟩:=z6.splitL l r h2
  obtain⟨y,y1,y2⟩:=R.split h1
  refine⟨(y,x)::z,by rw[List.map_cons,z1],⟨c,r,h,y1,z2⟩,fun p hp=>?_⟩
  rcases List.mem_cons.1 hp with rfl | hp
  ·
   exact y2
  ·
   exact z3 p hp
theorem z6.joinL {M:zj}{w:World}:∀(z:List (ρ×α)) (cs:List Value),(∀p∈z,R.rel M w p.1 p.2)→zT M w (z.map (·.1)) cs→zT M w (z.map (·.2)) cs
 | [],cs,_,h=>h
 | p::z,cs,hz,⟨c,r,h,h1,h2⟩=>⟨c,r,h,R.join h1 (hz p (by simp)),z6.joinL z r (fun y hy=>hz y (by simp[hy])) h2⟩
end
theorem zmO {P:Program}{ρs:Shelf.Ren}(Ly:Proofs.SlLaysF0.n6 P ρs){f g E:Nat}{α ρ κ:Type}[Rep α][Rep ρ][Enc ρ][Inhabited ρ](R:z6 α ρ)(rk:ρ→κ)(kf:α→κ)(hk:∀{M w r x},R.rel M w r x→rk r=kf x)
  {Q:κ→Prop} {c:κ→κ→Int} (hO:zdC Q c) (hf:ρs.f 6=f) (hE:ρs.t 24=E) (ok:zV P f) (okg:zV P g) {fds:Array Field} (hagg:P.underlying E=some (.struct fds)) (hT:Ty P E ρ)
  (hc:∀(x y:ρ) (_:Q (rk x)) (_:Q (rk y)) (W:World),Calls P g #[.agg (Enc.enc x).toArray,.agg (Enc.enc y).toArray] W fun e w'=>e = .returned (.int .i64 (c (rk x) (rk y)))∧∃q os',w'=Go.Sort.grow (W.drewN q) os')
  {s:Value} {l:List α} (hl:(l.length:Int)<4611686018427387904) (hq:∀x∈l,Q (kf x)) (hn:(l.map kf).Nodup) (hin:Q (rk default)):
  ya P f [isV s,QH g []] [(s,zq E l)] z7 [some (zq E (JP c kf l))]:=by
 haveI:Inhabited { x:ρ // (fun r=>Q (rk r)) x }:=⟨⟨default,hin⟩⟩
 refine⟨ok,fun M D w vs hM ha hOw=>?_⟩
 obtain⟨a,cap,hv,h1,h2,h3⟩:=hOw.has 0 s (zq E l) rfl
 have hS:Sort.SWO (Proofs.ltOf (fun x y:{ x:ρ // (fun r=>Q (rk r)) x }=>c (rk x.1) (rk y.1))):=by
  have h:∀x y:{ x:ρ // (fun r=>Q (rk r)) x },Proofs.ltOf (fun x y:{ x:ρ // (fun r=>Q (rk r)) x }=>c (rk x.1) (rk y.1)) x y=decide (c (rk x.1) (rk y.1)<0):=fun x y=>rfl
  constructor
  ·
   intro x;rw[h,hO.self];rfl
  ·
   intro x y z h1 h2
   rw[h]at *
   simp only[decide_eq_true_eq]at *
   exact(hO.trans _ _ _ x.2 y.2 z.2 (by omega) (by omega)).2 (.inl h1)
  ·
   intro x y z h1 h2
   rw[h]at *
   simp only[decide_eq_false_iff_not,Int.not_lt]at *
   have e1:=hO.swap (rk x.1) (rk y.1)
   have e2:=hO.swap (rk y.1) (rk z.1)
   have e3:=hO.swap (rk x.1) (rk z.1)
   have:=(hO.trans (rk z.1) (rk y.1) (rk x.1) z.2 y.2 x.2 (by omega) (by omega)).1
   omega
 obtain⟨z,z1,z2,z3⟩:∃z:List (ρ×α),z.map (·.2)=l∧(zq E (z.map (·.1))).p M (D 0) s w∧∀p∈z,R.rel M w p.1 p.2:=by
  cases a with
  | none=>
   obtain⟨h4,h5,h6⟩:=h3
   subst h4
   exact⟨[],rfl,⟨none,cap,hv,h1,h2,rfl,h5,h6⟩,fun p hp=>by simp at hp⟩
  | some ad=>
   obtain⟨hs,hD,hMb,pre,cs,rest,hh,hp,he,hr⟩:=h3
   obtain⟨z,z1,z2,z3⟩:=R.splitL l cs he
   have hlen:(z.map (·.1)).length=l.length:=by rw[←z1];simp
   exact⟨z,z1,⟨some ad,cap,by rw[hlen];exact hv,by rw[hlen];exact h1,h2,hs,hD,hMb,pre,cs,rest,by rw[R.sz];exact hh,hp,z2,by rw[hlen,R.sz];exact hr⟩,z3⟩
 have hzq:∀x∈z.map (·.1),(fun r=>Q (rk r)) x:=fun x hx=>by
  obtain⟨p,hp,rfl⟩:=List.mem_map.1 hx
  show Q (rk p.1)
  rw[hk (z3 p hp)]
  exact hq _ (by rw[←z1];exact List.mem_map.2 ⟨p,hp,rfl⟩)
 have hspec:=zhX (s:=s) (l:=z.map (·.1)) (α:=ρ) (Q:=fun r=>Q (rk r)) (cf:=fun x y=>c (rk x.1) (rk y.1)) Ly hf hE ok okg hagg hT hS (fun x y W=>hc x.1 y.1 x.2 y.2 W) (by rw[List.length_map];rw[←z1,List.length_map]at hl;exact hl) hzq
 obtain⟨p1,p2⟩:=zfS (l:=z.map (·.1)) (Q:=fun r=>Q (rk r)) (cf:=fun x y:{ x:ρ // (fun r=>Q (rk r)) x }=>c (rk x.1) (rk y.1)) hS hzq
 obtain⟨lv,hlv0⟩:∃lv,lv=qm (Q:=fun r=>Q (rk r)) (fun x y:{ x:ρ // (fun r=>Q (rk r)) x }=>c (rk x.1) (rk y.1)) (z.map (·.1)):=⟨_,rfl⟩
 have hlq:∀x∈lv,Q (rk x):=fun x hx=>hzq x (p1.mem_iff.1 (by rw[←hlv0];exact hx))
 have p3:∀(i j:Nat) (hi:i<j) (hj:j<lv.length),¬c (rk lv[j]) (rk lv[i])<0:=by
  subst hlv0
  exact fun i j hi hj=>p2 i j hi hj (hlq _ (List.getElem_mem _)) (hlq _ (List.getElem_mem _))
 clear p2
 rw[←hlv0]at hspec p1
 obtain⟨z',q1,q2⟩:=zkV (·.1) p1 z rfl
 have hz':∀p∈z',R.rel M w p.1 p.2:=fun p hp=>z3 p (q1.mem_iff.1 hp)
 have hperm:(z'.map (·.2)).Perm l:=by rw[←z1];exact q1.map _
 have hsorted:(z'.map (·.2)).Pairwise (kLt c kf):=by
  rw[List.pairwise_iff_getElem]
  intro i j hi hj hij
  have hi':i<z'.length:=by simpa using hi
  have hj':j<z'.length:=by simpa using hj
  have hlv:lv.length=z'.length:=by rw[←q2,List.length_map]
  have:=p3 i j hij (by omega)
  have ei:lv[i]'(by omega)=z'[i].1:=by simp[←q2]
  have ej:lv[j]'(by omega)=z'[j].1:=by simp[←q2]
  rw[ei,ej,hk (hz' _ (List.getElem_mem hi')),hk (hz' _ (List.getElem_mem hj'))]at this
  unfold kLt
  rw[List.getElem_map,List.getElem_map]
  have hne:kf z'[i].2≠kf z'[j].2:=fun e=>by
   have hnd:((z'.map (·.2)).map kf).Nodup:=(hperm.map _).nodup_iff.2 hn
   rw[List.nodup_iff_pairwise_ne,List.pairwise_iff_getElem]at hnd
   have:=hnd i j (by simpa using hi') (by simpa using hj') hij
   simp only[List.getElem_map]at this
   exact this e
  have hsw:=hO.swap (kf z'[i].2) (kf z'[j].2)
  have h0:c (kf z'[i].2) (kf z'[j].2)≠0:=fun e=>hne (hO.zero _ _ e)
  omega
 rw[JQ hO hperm hsorted]
 have hDM:∀k,DU D 1 k→M k:=fun k ⟨i,hi,hk⟩=>by
  obtain rfl:i=0:=by omega
  exact ze.inM _ M (D 0) s w z2 k hk
 refine(hspec.calls M D w vs hM ha ⟨fun i s' c hi=>?_,fun i j x y hi hj hne=>?_⟩).mono fun e w' ⟨v,M',D',r1,r2,r3,r4,r5,r6,r7,r8⟩=>⟨v,M',D',r1,r2,r3,r4,r5,r6,fun i c hi=>?_,fun i j c c' hi hj hne=>?_⟩
 ·
  match i,hi with
  | 0,hi=>
   simp only[List.getElem?_cons_zero,Option.some.injEq,Prod.mk.injEq]at hi
   obtain⟨rfl,rfl⟩:=hi
   exact z2
 ·
  match i,j,hi,hj with
  | 0,0,_,_=>omega
 ·
  match i,hi with
  | 0,hi=>
   simp only[List.getElem?_cons_zero,Option.some.injEq]at hi
   subst hi
   obtain⟨⟨a',cap',g1,g2,g3,g4⟩,g5⟩:=r7 0 _ rfl
   refine⟨?_,g5⟩
   have hlen:(z'.map (·.2)).length=lv.length:=by rw[←q2];simp
   have hkM:zy M w w':=r2.mono (fun k _ h=>hDM k h)
   have hr:∀p∈z',R.rel M' w' p.1 p.2:=fun p hp=>R.law hkM r4 (hz' p hp)
   cases a' with
   | none=>
    obtain⟨u1,u2,u3⟩:=g4
    have:z'.map (·.2)=[]:=List.eq_nil_of_length_eq_zero (by rw[hlen,u1];rfl)
    rw[this]
    rw[u1]at g1 g2
    exact⟨none,cap',g1,g2,g3,rfl,u2,u3⟩
   | some ad=>
    obtain⟨hs,hD,hMb,pre,cs,rest,hh,hp,he,hrr⟩:=g4
    rw[←q2]at he
    exact⟨some ad,cap',by rw[hlen];exact g1,by rw[hlen];exact g2,g3,hs,hD,hMb,pre,cs,rest,by rw[←R.sz];exact hh,hp,R.joinL z' cs hr he,by rw[hlen,←R.sz];exact hrr⟩
 ·
  match i,j,hi,hj with
  | 0,0,_,_=>omega
def je (a b:Int×Str):Int:=if a.1 - b.1≠0 then a.1 - b.1 else zQ a.2.b b.2.b
theorem Q8 {a b:Int×Str}(h:a.1=b.1):je a b=zQ a.2.b b.2.b:=if_neg (by omega)
theorem Qb {a b:Int×Str}(h:a.1≠b.1):je a b=a.1 - b.1:=if_pos (by omega)
theorem Q9:zdC (fun x:Int×Str=>0≤x.1∧x.1≤1000000) je:=by
 refine⟨fun x=>?_,fun x y=>?_,fun x y h=>?_,fun x y z _ _ _ h1 h2=>?_⟩
 ·
  rw[Q8 rfl,Jv]
 ·
  have:=jI x.2.b y.2.b
  by_cases h:x.1=y.1
  ·
   rw[Q8 h,Q8 h.symm];exact this
  ·
   rw[Qb h,Qb (Ne.symm h)];omega
 ·
  by_cases e:x.1=y.1
  ·
   rw[Q8 e]at h
   have:=zat h
   obtain⟨a,⟨b⟩⟩:=x
   obtain⟨a',⟨b'⟩⟩:=y
   simp only at e this
   rw[e,this]
  ·
   rw[Qb e]at h;omega
 ·
  by_cases e:x.1=y.1
  ·
   rw[Q8 e]at h1⊢
   by_cases e':y.1=z.1
   ·
    rw[Q8 e']at h2⊢
    rw[Q8 (e.trans e')]
    exact Q7 h1 h2
   ·
    rw[Qb e']at h2⊢
    rw[Qb (fun h=>e' (e.symm.trans h))];omega
  ·
   rw[Qb e]at h1⊢
   by_cases e':y.1=z.1
   ·
    rw[Q8 e']at h2⊢
    rw[Qb (fun h=>e (h.trans e'.symm))];omega
   ·
    rw[Qb e']at h2⊢
    rw[Qb (by omega)];omega
end Go.DB
namespace Go.DB
open Go Go.RowKit
end Go.DB
namespace Go.DB
open Go Go.RowKit
end Go.DB
namespace Go.DB
open Go Go.RowKit
end Go.DB
