/- A part of the proof. -/
import Derived.Test.YtmfcdppbnbfpjaaGreatDoorRerK2
import Derived.Laws.Cover1
import Derived.Lib.Overlaps
import Derived.Lib.AppendZerosOnto
import Derived.Laws.IdiomStrings
import Derived.Shelf.Strings.SlTrimAscii
import Derived.Shelf.Unicode.ValidAny
import Derived.Shelf.SortM.Plain
import Derived.Shelf.SortM.SortNone
import Derived.Shelf.SlicesG.CompactI
set_option linter.unusedVariables false
set_option linter.unusedSimpArgs false
namespace Go.DB
open Go Go.RowKit
section
variable {K V σ ρ:Type}
open Classical in
noncomputable def zsm (m:GMap K V)(step:K→V→σ→Option σ)(s0:σ)(k:σ→Option ρ):Option ρ:=
 if h:∃r,∀l,jA m l→∃s,zjw step l s0=some s∧k s=some r then some h.choose else none
variable {m:GMap K V}
end
section
variable {P:Program} {Q:Exit→Act→World→Prop} {n:Nat} {F:Fr} {L:zD} {B:zC}
variable {K V:Type} {m:GMap K V}
end
end Go.DB
namespace Go.DB
open Go Go.RowKit
section
variable {P:Program} {ops:Array Oper} {fs:Nat} {L:zD} {B:zC} {G:Prop}
variable {d:Option Tmp} {ty:TypeId} {pos:String} {after:Array Edge} {g:Option (Nat×Bool)} {xr:List Nat}
end
end Go.DB
namespace Go.DB
open Go Go.RowKit
section
variable {P:Program} {ops:Array Oper} {fs:Nat} {L:zD} {B:zC} {ty:TypeId} {pos:String} {after:Array Edge}
end
end Go.DB
namespace Go.DB
open Go Go.RowKit
section
variable {P:Program} {ops:Array Oper} {fs:Nat} {L:zD} {B:zC} {G:Prop}
variable {ty:TypeId} {pos:String} {after:Array Edge} {g:Option (Nat×Bool)} {xr:List Nat}
end
end Go.DB
namespace Go.DB
open Go Go.RowKit
section
variable {α β ρ:Type} [Rep β] [Rep ρ]
variable {E E2:Nat} {mk:α→Value→ρ} {sub:α→List β} {n k:Nat} {l:List α} {M D:zp} {v:Value} {w:World}
end
section
variable {P:Program} {ops:Array Oper} {fs:Nat} {L:zD} {B:zC} {G:Prop}
variable {ty:TypeId} {pos:String} {after:Array Edge} {g:Option (Nat×Bool)} {xr:List Nat} {d:Option Tmp}
variable {α β ρ:Type} [Rep β] [Rep ρ] {E E2:Nat} {mk:α→Value→ρ} {sub:α→List β} {n k0:Nat} {l:List α} {s:Value}
theorem zj.storeH {T T' t:Nat}{x:Operand}{α0 α1:Type}[Rep α0][Rep α1]{y:α1}{y0:α0}(hT:Ty P T α1)(hl:zB B t=some (zE T' y0))(hsz0:Rep.sz α0=Rep.sz α1)(ht:Nat.blt t fs=true)(hx:Opd L True x (rep y)):
  zj P ops fs ⟨none,.store T (.tmp t) x,ty,pos,after,none⟩ L B ([t],[t]) ⟨True,yj⟩ [(t,some (zE T' y))]:=by
 refine .doing fun M D a w hsz hm hs hsB=>?_
 obtain⟨m,old,hvm,hD,hM,hh,hold⟩:=hsB.has t (by simp) _ hl
 obtain⟨cs,hc,hxv⟩:=hx.get hs (fun t ht=>zL (by simp[Op.operands,ht])) trivial
 have hat:a.eval (.tmp t) = .pointer (some ⟨m,0,none⟩):=by
  have hlt:t<a.tmps.size:=by rw[hsz];exact Nat.le_of_ble_eq_true ht
  rw[Act.eval_tmp (v:=Act.val a t) (by unfold Act.val;simp[hlt]),hvm]
 obtain⟨w',h1,h2,h3,h4,h5,h6,h7⟩:=QX (w:=w) (m:=m) (pre:=[]) (rest:=[]) hT (Rep.len hc) ((Rep.len hold).trans hsz0) rfl (Rep.plain hc) (Rep.flat hc) (by simpa using hh)
 have hkeep:zM (D t) w w':=⟨h3,h4,h5,by omega,fun k _ hn=>h7 k (fun e=>hn ((hD k).2 e))⟩
 have hkM:zM M w w':=⟨h3,h4,h5,by omega,fun k _ hn=>h7 k (fun e=>hn (e▸hM))⟩
 refine zW.skip (w':=w') (Qe (by rw[hat,hxv];exact h1)) rfl (.turn hl hkeep (fun k h=>by rw[h6];exact hm k h) ⟨fun _=>trivial,fun hf=>(hf trivial).elim⟩ ?_)
 rw[Jk]
 exact⟨m,cs,hvm,hD,hM,by simpa using h2,Rep.law hkM (fun _ h=>.inl h) hc⟩
end
end Go.DB
namespace Go.DB
open Go Go.RowKit
abbrev oo:Aux:=([],[])
section
variable {P:Program} {ops:Array Oper} {n:Nat} {rest:List Oper} {L:zD} {B:zC} {K:zD→zC→Prop} {aux:List Aux} {xr:List Nat} {d t:Nat} {ty:TypeId} {pos:String} {after:Array Edge}
theorem Chain.mv {S:zH}(h:look L t=some ⟨True,S⟩)(k:Chain P ops n rest [] ((d,⟨True,S⟩)::L) B K)(hB:ye B d=false:=by exact rfl):
  Chain P ops n (⟨some d,.move (.tmp t),ty,pos,after,none⟩::rest) [] L B K:=.cons (.move .none (.s h)) hB k
theorem Chain.mvA {S:zH}(h:look L t=some ⟨True,S⟩)(k:Chain P ops n rest aux ((d,⟨True,S⟩)::L) B K)(hB:ye B d=false:=by exact rfl):
  Chain P ops n (⟨some d,.move (.tmp t),ty,pos,after,none⟩::rest) ((xr,[])::aux) L B K:=.consA (.move .none (.s h)) hB k
theorem Chain.asn {S:zH}(h:look L t=some ⟨True,S⟩)(k:Chain P ops n rest [] ((d,⟨True,S⟩)::L) B K)(hB:ye B d=false:=by exact rfl):
  Chain P ops n (⟨some d,.assign (.tmp t),ty,pos,after,none⟩::rest) [] L B K:=.cons (.assign .none (.s h)) hB k
theorem Chain.asnA {S:zH}(h:look L t=some ⟨True,S⟩)(k:Chain P ops n rest aux ((d,⟨True,S⟩)::L) B K)(hB:ye B d=false:=by exact rfl):
  Chain P ops n (⟨some d,.assign (.tmp t),ty,pos,after,none⟩::rest) ((xr,[])::aux) L B K:=.consA (.assign .none (.s h)) hB k
theorem Chain.asi {i:Int}(k:Chain P ops n rest [] ((d,⟨True,rep i⟩)::L) B K)(hi:InI i:=by decide)(hB:ye B d=false:=by exact rfl):
  Chain P ops n (⟨some d,.assign (.const (.int .i64 i)),ty,pos,after,none⟩::rest) [] L B K:=.cons (.assign .none (.int hi)) hB k
theorem Chain.mvi {i:Int}(k:Chain P ops n rest [] ((d,⟨True,rep i⟩)::L) B K)(hi:InI i:=by decide)(hB:ye B d=false:=by exact rfl):
  Chain P ops n (⟨some d,.move (.const (.int .i64 i)),ty,pos,after,none⟩::rest) [] L B K:=.cons (.move .none (.int hi)) hB k
theorem Chain.ld {T:TypeId}{α:Type}[Rep α]{y:α}(hT:Ty P T α)(h:look L t=some ⟨True,ref y⟩)(k:Chain P ops n rest [] ((d,⟨True,rep y⟩)::L) B K)(hB:ye B d=false:=by exact rfl):
  Chain P ops n (⟨some d,.load T (.tmp t),ty,pos,after,none⟩::rest) [] L B K:=.cons (.load .none hT (.s h)) hB k
theorem Chain.ldA {T:TypeId}{α:Type}[Rep α]{y:α}(hT:Ty P T α)(h:look L t=some ⟨True,ref y⟩)(k:Chain P ops n rest aux ((d,⟨True,rep y⟩)::L) B K)(hB:ye B d=false:=by exact rfl):
  Chain P ops n (⟨some d,.load T (.tmp t),ty,pos,after,none⟩::rest) ((xr,[])::aux) L B K:=.consA (.load .none hT (.s h)) hB k
theorem Chain.fa {S f off:Nat}{α β:Type}[Rep α][Rep β]{proj:α→β}{y:α}(hF:yc P S f off)(hH:zg α β off proj)(h:look L t=some ⟨True,ref y⟩)
  (k:Chain P ops n rest [] ((d,⟨True,ref (proj y)⟩)::L) B K) (hB:ye B d=false:=by exact rfl):
  Chain P ops n (⟨some d,.fieldAddr S (.tmp t) f,ty,pos,after,none⟩::rest) [] L B K:=.cons (.fieldAddr .none hF hH (.s h)) hB k
theorem Chain.faA {S f off:Nat}{α β:Type}[Rep α][Rep β]{proj:α→β}{y:α}(hF:yc P S f off)(hH:zg α β off proj)(h:look L t=some ⟨True,ref y⟩)
  (k:Chain P ops n rest aux ((d,⟨True,ref (proj y)⟩)::L) B K) (hB:ye B d=false:=by exact rfl):
  Chain P ops n (⟨some d,.fieldAddr S (.tmp t) f,ty,pos,after,none⟩::rest) ((xr,[])::aux) L B K:=.consA (.fieldAddr .none hF hH (.s h)) hB k
theorem Chain.c {op:Op}{g:Option (Nat×Bool)}{E:Ent}(h:zj P ops n ⟨some d,op,ty,pos,after,g⟩ L B ([],[]) E [])(k:Chain P ops n rest [] ((d,E)::L) B K)(hB:ye B d=false:=by exact rfl):
  Chain P ops n (⟨some d,op,ty,pos,after,g⟩::rest) [] L B K:=.cons h hB k
theorem Chain.cA {op:Op}{g:Option (Nat×Bool)}{E:Ent}(h:zj P ops n ⟨some d,op,ty,pos,after,g⟩ L B (xr,[]) E [])(k:Chain P ops n rest aux ((d,E)::L) B K)(hB:ye B d=false:=by exact rfl):
  Chain P ops n (⟨some d,op,ty,pos,after,g⟩::rest) ((xr,[])::aux) L B K:=.consA h hB k
theorem Chain.cN {op:Op}{g:Option (Nat×Bool)}{E:Ent}{xs:List Nat}{V:Nat×Option zf}{Ws:qc}(h:zj P ops n ⟨none,op,ty,pos,after,g⟩ L B (xr,xs) E (V::Ws))(k:Chain P ops n rest aux L (V::(Ws++B)) K)
  (hx:(V::Ws).map (·.1)=xs:=by exact rfl):Chain P ops n (⟨none,op,ty,pos,after,g⟩::rest) ((xr,xs)::aux) L B K:=.consN h hx k
theorem Chain.cW {op:Op}{g:Option (Nat×Bool)}{E:Ent}{xs:List Nat}{V:Nat×Option zf}{Ws:qc}(h:zj P ops n ⟨some d,op,ty,pos,after,g⟩ L B (xr,xs) E (V::Ws))(k:Chain P ops n rest aux ((d,E)::L) (V::(Ws++B)) K)
  (hx:(V::Ws).map (·.1)=xs:=by exact rfl) (hB:ye B d=false:=by exact rfl):Chain P ops n (⟨some d,op,ty,pos,after,g⟩::rest) ((xr,xs)::aux) L B K:=.consW h hx hB k
theorem Chain.ixO {T E E' u:Nat}{s:Value}{α:Type}[Rep α]{l:List α}{j:Int}(q:Nat)(hT:yY P T E)(hE:Ty P E α)(hx:look L t=some ⟨True,isV s⟩)(hk:zB B q=some (zf.at s (zk E' l)))(hi:look L u=some ⟨True,rep j⟩)
  (hb:0≤j∧j<l.length) (k:Chain P ops n rest aux ((d,⟨True,isV (vG s (j.toNat*Rep.sz α+0))⟩)::L) B K) (hB:ye B d=false:=by exact rfl):
  Chain P ops n (⟨some d,.indexAddr T (.tmp t) (.tmp u),ty,pos,after,none⟩::rest) (([q],[])::aux) L B K:=.consA (.indexAddrO (k:=q) .none hT hE (.s hx) hk (.s hi) (fun _=>hb)) hB k
theorem Chain.ix {T E u:Nat}{α:Type}[Rep α][Inhabited α]{l:List α}{j:Int}(hT:yY P T E)(hE:Ty P E α)(hx:look L t=some ⟨True,rep l⟩)(hi:look L u=some ⟨True,rep j⟩)
  (hb:0≤j∧j<l.length) (k:Chain P ops n rest [] ((d,⟨True,ref (gx l j)⟩)::L) B K) (hB:ye B d=false:=by exact rfl):
  Chain P ops n (⟨some d,.indexAddr T (.tmp t) (.tmp u),ty,pos,after,none⟩::rest) [] L B K:=.cons (.indexAddr .none hT hE (.s hx) (.s hi) (fun _=>hb)) hB k
theorem Chain.ixA {T E u:Nat}{α:Type}[Rep α][Inhabited α]{l:List α}{j:Int}(hT:yY P T E)(hE:Ty P E α)(hx:look L t=some ⟨True,rep l⟩)(hi:look L u=some ⟨True,rep j⟩)
  (hb:0≤j∧j<l.length) (k:Chain P ops n rest aux ((d,⟨True,ref (gx l j)⟩)::L) B K) (hB:ye B d=false:=by exact rfl):
  Chain P ops n (⟨some d,.indexAddr T (.tmp t) (.tmp u),ty,pos,after,none⟩::rest) ((xr,[])::aux) L B K:=.consA (.indexAddr .none hT hE (.s hx) (.s hi) (fun _=>hb)) hB k
theorem Chain.ex {i:Nat}{Ss:List zH}{S:zH}(h:look L t=some ⟨True,tup Ss⟩)(hi:Ss[i]?=some S)(k:Chain P ops n rest [] ((d,⟨True,S⟩)::L) B K)(hB:ye B d=false:=by exact rfl):
  Chain P ops n (⟨some d,.extract (.tmp t) i,ty,pos,after,none⟩::rest) [] L B K:=.cons (.extract .none (.s h) hi) hB k
theorem Chain.exA {i:Nat}{Ss:List zH}{S:zH}(h:look L t=some ⟨True,tup Ss⟩)(hi:Ss[i]?=some S)(k:Chain P ops n rest aux ((d,⟨True,S⟩)::L) B K)(hB:ye B d=false:=by exact rfl):
  Chain P ops n (⟨some d,.extract (.tmp t) i,ty,pos,after,none⟩::rest) ((xr,[])::aux) L B K:=.consA (.extract .none (.s h) hi) hB k
theorem Chain.mg {j tg:Nat}{want b:Bool}{c:Prop}{S:zH}(h1:(ops[j]?).bind (·.dst)=some tg)(h2:look L tg=some ⟨c,rep b⟩)(h:look L t=some ⟨True,S⟩)(k:Chain P ops n rest [] ((d,⟨c∧b=want,S⟩)::L) B K)(hB:ye B d=false:=by exact rfl):
  Chain P ops n (⟨some d,.move (.tmp t),ty,pos,after,some (j,want)⟩::rest) [] L B K:=.cons (.move (.at h1 h2) (.s h)) hB k
theorem Chain.lg {j tg:Nat}{want b:Bool}{c:Prop}{T:TypeId}{α:Type}[Rep α]{y:α}(hT:Ty P T α)(h1:(ops[j]?).bind (·.dst)=some tg)(h2:look L tg=some ⟨c,rep b⟩)(h:look L t=some ⟨c∧b=want,ref y⟩)
  (k:Chain P ops n rest [] ((d,⟨c∧b=want,rep y⟩)::L) B K) (hB:ye B d=false:=by exact rfl):
  Chain P ops n (⟨some d,.load T (.tmp t),ty,pos,after,some (j,want)⟩::rest) [] L B K:=.cons (.load (.at h1 h2) hT (.tmp h id)) hB k
theorem Chain.fg {j tg:Nat}{want b:Bool}{c:Prop}{S f off:Nat}{α β:Type}[Rep α][Rep β]{proj:α→β}{y:α}(hF:yc P S f off)(hH:zg α β off proj)(h1:(ops[j]?).bind (·.dst)=some tg)(h2:look L tg=some ⟨c,rep b⟩)
  (h:look L t=some ⟨True,ref y⟩) (k:Chain P ops n rest [] ((d,⟨c∧b=want,ref (proj y)⟩)::L) B K) (hB:ye B d=false:=by exact rfl):
  Chain P ops n (⟨some d,.fieldAddr S (.tmp t) f,ty,pos,after,some (j,want)⟩::rest) [] L B K:=.cons (.fieldAddr (.at h1 h2) hF hH (.s h)) hB k
theorem Chain.pa {u:Nat}{b1 b2:Bool}(h1:look L t=some ⟨True,rep b1⟩)(h2:look L u=some ⟨True∧b1=true,rep b2⟩)(k:Chain P ops n rest [] ((d,⟨True,rep (b1&&b2)⟩)::L) B K)(hB:ye B d=false:=by exact rfl):
  Chain P ops n (⟨some d,.pick (.tmp t) (.tmp u) (.const (.bool false)),ty,pos,after,none⟩::rest) [] L B K:=.cons (.pickAnd .none (.s h1) (.tmp h2 id)) hB k
theorem Chain.po {u:Nat}{b1 b2:Bool}(h1:look L t=some ⟨True,rep b1⟩)(h2:look L u=some ⟨True∧b1=false,rep b2⟩)(k:Chain P ops n rest [] ((d,⟨True,rep (b1 || b2)⟩)::L) B K)(hB:ye B d=false:=by exact rfl):
  Chain P ops n (⟨some d,.pick (.tmp t) (.const (.bool true)) (.tmp u),ty,pos,after,none⟩::rest) [] L B K:=.cons (.pickOr .none (.s h1) (.tmp h2 id)) hB k
theorem Chain.lt {u:Nat}{T T':TypeId}{i j:Int}(h1:look L t=some ⟨True,rep i⟩)(h2:look L u=some ⟨True,rep j⟩)(k:Chain P ops n rest [] ((d,⟨True,rep (decide (i<j))⟩)::L) B K)(hB:ye B d=false:=by exact rfl):
  Chain P ops n (⟨some d,.binOp .lss T (.tmp t) (.tmp u) T',ty,pos,after,none⟩::rest) [] L B K:=.cons (.lt .none (.s h1) (.s h2)) hB k
theorem Chain.add {u:Nat}{T T':TypeId}{i j:Int}(h1:look L t=some ⟨True,rep i⟩)(h2:look L u=some ⟨True,rep j⟩)(k:Chain P ops n rest [] ((d,⟨True,rep (W (i+j))⟩)::L) B K)(hB:ye B d=false:=by exact rfl):
  Chain P ops n (⟨some d,.binOp .add T (.tmp t) (.tmp u) T',ty,pos,after,none⟩::rest) [] L B K:=.cons (.addW .none (.s h1) (.s h2)) hB k
theorem Chain.sub {u:Nat}{T T':TypeId}{i j:Int}(h1:look L t=some ⟨True,rep i⟩)(h2:look L u=some ⟨True,rep j⟩)(k:Chain P ops n rest [] ((d,⟨True,rep (W (i - j))⟩)::L) B K)(hB:ye B d=false:=by exact rfl):
  Chain P ops n (⟨some d,.binOp .sub T (.tmp t) (.tmp u) T',ty,pos,after,none⟩::rest) [] L B K:=.cons (.subW .none (.s h1) (.s h2)) hB k
theorem Chain.asb {b:Bool}(k:Chain P ops n rest [] ((d,⟨True,rep b⟩)::L) B K)(hB:ye B d=false:=by exact rfl):
  Chain P ops n (⟨some d,.assign (.const (.bool b)),ty,pos,after,none⟩::rest) [] L B K:=.cons (.assign .none .bool) hB k
theorem Opd.i {G:Prop}{m:Int}(h:InI m:=by decide):Opd L G (.const (.int .i64 m)) (rep m):=.int h
theorem Chain.addA {u:Nat}{T T':TypeId}{i j:Int}(h1:look L t=some ⟨True,rep i⟩)(h2:look L u=some ⟨True,rep j⟩)(k:Chain P ops n rest aux ((d,⟨True,rep (W (i+j))⟩)::L) B K)(hB:ye B d=false:=by exact rfl):
  Chain P ops n (⟨some d,.binOp .add T (.tmp t) (.tmp u) T',ty,pos,after,none⟩::rest) ((xr,[])::aux) L B K:=.consA (.addW .none (.s h1) (.s h2)) hB k
theorem Chain.subA {u:Nat}{T T':TypeId}{i j:Int}(h1:look L t=some ⟨True,rep i⟩)(h2:look L u=some ⟨True,rep j⟩)(k:Chain P ops n rest aux ((d,⟨True,rep (W (i - j))⟩)::L) B K)(hB:ye B d=false:=by exact rfl):
  Chain P ops n (⟨some d,.binOp .sub T (.tmp t) (.tmp u) T',ty,pos,after,none⟩::rest) ((xr,[])::aux) L B K:=.consA (.subW .none (.s h1) (.s h2)) hB k
theorem Chain.adi {T T':TypeId}{i j:Int}(h1:look L t=some ⟨True,rep i⟩)(k:Chain P ops n rest [] ((d,⟨True,rep (W (i+j))⟩)::L) B K)(hj:InI j:=by decide)(hB:ye B d=false:=by exact rfl):
  Chain P ops n (⟨some d,.binOp .add T (.tmp t) (.const (.int .i64 j)) T',ty,pos,after,none⟩::rest) [] L B K:=.cons (.addW .none (.s h1) (.int hj)) hB k
theorem Chain.eqi {T T':TypeId}{i j:Int}(h1:look L t=some ⟨True,rep i⟩)(k:Chain P ops n rest [] ((d,⟨True,rep (decide (i=j))⟩)::L) B K)(hj:InI j:=by decide)(hB:ye B d=false:=by exact rfl):
  Chain P ops n (⟨some d,.binOp .eql T (.tmp t) (.const (.int .i64 j)) T',ty,pos,after,none⟩::rest) [] L B K:=.cons (.eqI .none (.s h1) (.int hj)) hB k
theorem Chain.nei {T T':TypeId}{i j:Int}(h1:look L t=some ⟨True,rep i⟩)(k:Chain P ops n rest [] ((d,⟨True,rep (!decide (i=j))⟩)::L) B K)(hj:InI j:=by decide)(hB:ye B d=false:=by exact rfl):
  Chain P ops n (⟨some d,.binOp .neq T (.tmp t) (.const (.int .i64 j)) T',ty,pos,after,none⟩::rest) [] L B K:=.cons (.neI .none (.s h1) (.int hj)) hB k
theorem Chain.ra {α:Type}[Rep α]{e v:α}(hv:v=e)(h:look L t=some ⟨True,rep e⟩)(k:Chain P ops n rest [] ((d,⟨True,rep v⟩)::L) B K)(hB:ye B d=false:=by exact rfl):
  Chain P ops n (⟨some d,.assign (.tmp t),ty,pos,after,none⟩::rest) [] L B K:=.cons (.re hv (.assign .none (.s h))) hB k
theorem Chain.rlA {T:TypeId}{α:Type}[Rep α]{y v:α}(hv:v=y)(hT:Ty P T α)(h:look L t=some ⟨True,ref y⟩)(k:Chain P ops n rest aux ((d,⟨True,rep v⟩)::L) B K)(hB:ye B d=false:=by exact rfl):
  Chain P ops n (⟨some d,.load T (.tmp t),ty,pos,after,none⟩::rest) ((xr,[])::aux) L B K:=.consA (.re hv (.load .none hT (.s h))) hB k
theorem Chain.fe {S f o off E':Nat}{s:Value}{α:Type}[Rep α]{l:List α}{j:Int}(q:Nat)(hF:yc P S f o)(hx:look L t=some ⟨True,isV (vG s (j.toNat*Rep.sz α+off))⟩)(hk:zB B q=some (zf.at s (zk E' l)))
  (hb:0≤j∧j<l.length) (k:Chain P ops n rest aux ((d,⟨True,isV (vG s (j.toNat*Rep.sz α+(off+o)))⟩)::L) B K) (hB:ye B d=false:=by exact rfl):
  Chain P ops n (⟨some d,.fieldAddr S (.tmp t) f,ty,pos,after,none⟩::rest) (([q],[])::aux) L B K:=.consA (.fieldElem (k:=q) .none hF (.s hx) hk (fun _=>hb)) hB k
theorem Chain.st {T T' u:Nat}{α:Type}[Rep α]{y y0:α}(hT:Ty P T α)(hl:zB B t=some (zE T' y0))(ht:Nat.blt t n=true)(hx:look L u=some ⟨True,rep y⟩)(k:Chain P ops n rest aux L ((t,some (zE T' y))::([]++B)) K):
  Chain P ops n (⟨none,.store T (.tmp t) (.tmp u),ty,pos,after,none⟩::rest) (([t],[t])::aux) L B K:=.consN (.store hT hl ht (.s hx)) rfl k
theorem Chain.ln {T E:Nat}{α:Type}[Rep α]{l:List α}(hT:yY P T E)(h:look L t=some ⟨True,rep l⟩)(k:Chain P ops n rest [] ((d,⟨True,rep (l.length:Int)⟩)::L) B K)(hB:ye B d=false:=by exact rfl):
  Chain P ops n (⟨some d,.call { callee:=.builtin .len,args:=#[.tmp t],argTypes:=#[T] },ty,pos,after,none⟩::rest) [] L B K:=.cons (.len .none hT (.s h)) hB k
theorem Chain.al {T:Nat}{α:Type}[Rep α]{z:α}(hz:yT P T z)(hd:Nat.blt d n=true)(k:Chain P ops n rest aux ((d,⟨True,yj⟩)::L) ((d,some (zE T z))::([]++B)) K)(hB:ye B d=false:=by exact rfl):
  Chain P ops n (⟨some d,.alloc T,ty,pos,after,none⟩::rest) (([],[d])::aux) L B K:=.consW (.alloc hz hd) rfl hB k
theorem Chain.s0 {T T' m u:Nat}{α:Type}[Rep α]{y0 z:α}(q:Nat)(hT:Ty P T α)(hl:zB B q=some (jb m T' y0))(hp:look L t=some ⟨True,isV (ptr m 0)⟩)(hx:look L u=some ⟨True,rep z⟩)
  (k:Chain P ops n rest aux L ((q,some (jb m T' z))::([]++B)) K):Chain P ops n (⟨none,.store T (.tmp t) (.tmp u),ty,pos,after,none⟩::rest) (([q],[q])::aux) L B K:=.consN (.storeAt0 (g:=q) hT hl (.s hp) (.s hx)) rfl k
end
section
variable {P:Program} {ops:Array Oper} {fs:Nat} {L:zD} {B:zC} {ty:TypeId} {pos:String} {after:Array Edge}
theorem zj.cO {d:Option Nat}{f:Nat}{xs:Array Operand}{ts:Array TypeId}{Ss:List zH}{Os:q9}{S:zH}{outs:List (Option zf)}{V:Nat×Option zf}{Ws:qc}{xk:List Nat}(ks:List Nat)(hspec:yh P f Ss Os S outs)
  (hx:qN L True xs.toList Ss) (hH:jZ B ks Os) (hW:jn (Os.map (·.1)) ks d outs=V::Ws) (hnd:(ks++d.toList).Nodup:=by decide) (hxk:∀k∈ks,k∈xk:=by decide) (hd:∀d',d=some d'→d'<fs:=by intro d h;cases h;decide):
  zj P ops fs ⟨d,.call { callee:=.value (.func f),args:=xs,argTypes:=ts },ty,pos,after,none⟩ L B (ks,xk) ⟨True,S⟩ (V::Ws):=.callO ks hspec hx hH hW hnd hxk hd
end
section
variable {P:Program} {Q:Exit→Act→World→Prop} {n:Nat} {F:Fr} {L:zD} {B:zC}
theorem Cod.sr {id:Nat}{l:List Oper}{draw:Bool}{y:Code}(aux:List Aux)(hm:P.follows .mixedOrders=true)
  (h:Chain P l.toArray n l aux L B (fun L' B'=>Cod P y Q n F L' B')) (hok:JW n l.toArray aux=true:=by kernel_rfl):Cod P (.seq (.region id l.toArray draw) y) Q n F L B:=
 .seq (.region aux hm hok h)
theorem Cod.rg {id:Nat}{l:List Oper}{draw:Bool}(aux:List Aux)(hm:P.follows .mixedOrders=true)
  (h:Chain P l.toArray n l aux L B (fun L' B'=>zb Q .normal n F L' B')) (hok:JW n l.toArray aux=true:=by kernel_rfl):Cod P (.region id l.toArray draw) Q n F L B:=
 .region aux hm hok h
theorem Cod.sn {id:Nat}{l:List Oper}{draw:Bool}{y:Code}(hm:P.follows .mixedOrders=true)(h:Chain P l.toArray n l [] L B (fun L' B'=>Cod P y Q n F L' B'))(hok:JW n l.toArray []=true:=by kernel_rfl):
  Cod P (.seq (.region id l.toArray draw) y) Q n F L B:=.sr [] hm h hok
theorem Cod.rn {id:Nat}{l:List Oper}{draw:Bool}(hm:P.follows .mixedOrders=true)(h:Chain P l.toArray n l [] L B (fun L' B'=>zb Q .normal n F L' B'))(hok:JW n l.toArray []=true:=by kernel_rfl):
  Cod P (.region id l.toArray draw) Q n F L B:=.rg [] hm h hok
theorem Cod.tJ {x y:Code}(prop:Unit→Prop){keep:zD}{keepB:zC}(hk:Sub L keep)(hkB:ze B keepB)(h:Cod P x (Exit.then (fun a w=>∃j:Unit,prop j∧Sat n F ((fun _=>([]:zD)) j++keep) ((fun _=>([]:zC)) j++keepB) a w) Q) n F L B)
  (k:∀i:Unit,prop i→Cod P y Q n F ((fun _=>([]:zD)) i++keep) ((fun _=>([]:zC)) i++keepB)):Cod P x (Exit.then (y.wp P Q) Q) n F L B:=.thenJ (fun _=>[]) (fun _=>[]) prop hk hkB h k
theorem Sub.k4 {e1 e2 e3 e4:Ent}{L':zD}(a b c d:Nat)(h1:look L a=some e1)(h2:look L b=some e2)(h3:look L c=some e3)(h4:look L d=some e4)(r:Sub L L'):Sub L ((a,e1)::(b,e2)::(c,e3)::(d,e4)::L'):=.cons h1 (.cons h2 (.cons h3 (.cons h4 r)))
theorem Sub.k2 {e1 e2:Ent}{L':zD}(a b:Nat)(h1:look L a=some e1)(h2:look L b=some e2)(r:Sub L L'):Sub L ((a,e1)::(b,e2)::L'):=.cons h1 (.cons h2 r)
theorem ze.k2 {C1 C2:zf}{B':zC}(a b:Nat)(h1:zB B a=some C1)(h2:zB B b=some C2)(r:ze B B'):ze B ((a,some C1)::(b,some C2)::B'):=.cons h1 (.cons h2 r)
theorem Cod.cb {t:Nat}{x y:Code}{b:Bool}{β:Type}{A C r:Option β}(hl:look L t=some ⟨True,rep b⟩)(h:(bif b then A else C)=r)
  (h1:b=true→A=r→Cod P x Q n F L B) (h2:b=false→C=r→Cod P y Q n F L B):Cod P (.cond (.tmp t) x y) Q n F L B:=
 .cond hl trivial (fun hb=>h1 hb (zmm h hb)) (fun hb=>h2 hb (zml h hb))
inductive Jo (L:zD):zD→Prop
 | n:Jo L []
 | c {t:Nat} {e:Ent} {L':zD} (h:look L t=some e) (k:Jo L L'):Jo L ((t,e)::L')
inductive Jp (B:zC):zC→Prop
 | n:Jp B []
 | c {t:Nat} {e:zf} {B':zC} (h:zB B t=some e) (k:Jp B B'):Jp B ((t,some e)::B')
theorem Jo.sub {L L':zD}(h:Jo L L'):Sub L L':=by
 induction h with
 | n=>exact .nil
 | c h _ ih=>exact .cons h ih
theorem Jp.sub {B B':zC}(h:Jp B B'):ze B B':=by
 induction h with
 | n=>exact .nil
 | c h _ ih=>exact .cons h ih
theorem zb.j {ι:Type}{Ls:ι→zD}{Bs:ι→zC}{prop:ι→Prop}{keep:zD}{keepB:zC}(j:ι)(hp:prop j)(h:Jo L (Ls j++keep):=by repeat constructor)(hB:Jp B (Bs j++keepB):=by repeat constructor):
  zb (Exit.then (fun a w=>∃j,prop j∧Sat n F (Ls j++keep) (Bs j++keepB) a w) Q) .normal n F L B:=.join j hp h.sub hB.sub
theorem zb.ag {σ ρ:Type}{o:zI σ ρ}{Ls:σ→zD}{Bs:σ→zC}{keep:zD}{keepB:zC}{s':σ}(ho:o = .again s')(h:Jo L (Ls s'++keep):=by repeat constructor)(hB:Jp B (Bs s'++keepB):=by repeat constructor):
  zb (Exit.then (fun a w=>∃s',o = .again s'∧Sat n F (Ls s'++keep) (Bs s'++keepB) a w) Q) .normal n F L B:=.againL ho h.sub hB.sub
theorem zb.rt {fn:Func}{e:Exit}{t:Nat}{S:zH}(hr:fn.results=#[.tmp t])(h:look L t=some ⟨True,S⟩)(he:e = .ret∨e = .normal:=by exact .inl rfl):zb (bodyPost P fn (vE F S)) e n F L B:=
 .ret1 he hr (.tmp h trivial Imp.refl)
theorem Cod.fb {c:Code}{T m:Nat}{α:Type}[Rep α]{y:α}(q:Nat)(ts:List Nat)(hl:zB B q=some (jb m T y))(hts:Q1 L (ptr m 0) ts)(k:Cod P c Q n F (Jx (ref y) ts L) []):Cod P c Q n F L B:=.freezeBox hl hts .nil rfl k
theorem zb.r2 {fn:Func}{e:Exit}{t t2 T:Nat}{S2:zH}{α:Type}[Rep α]{y:α}(hr:fn.results=#[.cell t T,.tmp t2])(hT:Ty P T α)(h:look L t=some ⟨True,ref y⟩)(h2:look L t2=some ⟨True,S2⟩)(he:e = .ret∨e = .normal:=by exact .inl rfl):
  zb (bodyPost P fn (vE F (tup [rep y,S2]))) e n F L B:=.ret2 he hr (.cellR hT h trivial Imp.refl) (.tmp h2 trivial Imp.refl)
theorem zi.i {f:Nat}{fn:Func}{c:Code}{Ss:List zH}{S:zH}(hf:P.funcs[f]?=some fn)(hb:fn.body=some c)(hn:fn.ntmps=n)(hle:Nat.ble Ss.length n=true)
  (h:∀F,Cod P c (bodyPost P fn (vE F S)) n F (Jq 0 Ss) []) (hN:(fn.name=="runtime.NumGoroutine")=false:=by kernel_rfl) (hB:fn.body.isNone=false:=by kernel_rfl):zi P f Ss S:=.intro ⟨fn,hf,hN,hB⟩ hf hb hn hle h
theorem yh.i {f:Nat}{fn:Func}{c:Code}{Ss:List zH}{Os:q9}{S:zH}{outs:List (Option zf)}(hf:P.funcs[f]?=some fn)(hb:fn.body=some c)(hn:fn.ntmps=n)(hle:Nat.ble Ss.length n=true)
  (h:∀F,Cod P c (bodyPost P fn (j6 F S (Os.map (·.1)) outs)) n F (Jq 0 Ss) (zaK n Os)) (hN:(fn.name=="runtime.NumGoroutine")=false:=by kernel_rfl) (hB:fn.body.isNone=false:=by kernel_rfl):yh P f Ss Os S outs:=.intro ⟨fn,hf,hN,hB⟩ hf hb hn hle h
end
end Go.DB
namespace Go.DB
open Go Go.RowKit
section
variable {P:Program} {Q:Exit→Act→World→Prop} {n:Nat} {F:Fr} {L:zD} {B:zC}
end
section
variable {P:Program} {ops:Array Oper} {fs:Nat} {L:zD} {B:zC} {ty:TypeId} {pos:String} {after:Array Edge} {d:Option Tmp} {xr:List Nat}
end
end Go.DB
namespace Go.DB
open Go Go.RowKit
section
variable {P:Program} {ops:Array Oper} {fs:Nat} {L:zD} {B:zC} {ty:TypeId} {pos:String} {after:Array Edge} {g:Option (Nat×Bool)}
end
section
variable {P:Program} {ops:Array Oper} {fs:Nat} {L:zD} {B:zC} {d:Option Tmp} {ty:TypeId} {pos:String} {after:Array Edge} {g:Option (Nat×Bool)} {G:Prop}
variable {K V:Type} [Rep K] [DecidableEq K] [MKey K] [Rep V] {m:GMap K V} {k:K} {z:V} {T kt et:TypeId}
end
end Go.DB
namespace Go.DB
open Go Go.RowKit
section
variable {P:Program} {ops:Array Oper} {fs:Nat} {L:zD} {B:zC} {d:Option Tmp} {ty:TypeId} {pos:String} {after:Array Edge} {g:Option (Nat×Bool)} {G:Prop}
end
section
variable {P:Program} {ops:Array Oper} {fs:Nat} {L:zD} {B:zC} {d:Option Tmp} {ty:TypeId} {pos:String} {after:Array Edge} {g:Option (Nat×Bool)} {xr:List Nat}
end
end Go.DB
namespace Go.DB
open Go Go.RowKit
section
variable {K K2 V:Type} [Rep K] [Rep K2] [Rep V]
variable {m:GMap K (GMap K2 V)} {M D:zp} {v:Value} {w:World} {h:Option (K×Value)}
end
section
variable {P:Program} {ops:Array Oper} {fs:Nat} {L:zD} {B:zC} {G:Prop}
variable {ty:TypeId} {pos:String} {after:Array Edge} {g:Option (Nat×Bool)} {xr:List Nat} {d:Option Tmp}
variable {K K2 V:Type} [Rep K] [DecidableEq K] [MKey K] [Rep K2] [Rep V] {T kt et:TypeId} {m:GMap K (GMap K2 V)} {k:K} {hole:Option (K×Value)}
end
section
variable {Q:Exit→Act→World→Prop} {P:Program} {n:Nat} {F:Fr} {L:zD} {B:zC}
variable {K K2 V:Type} [Rep K] [Rep K2] [Rep V] {m:GMap K (GMap K2 V)} {s:Value}
end
end Go.DB
namespace Go.DB
open Go Go.RowKit
section
variable {P:Program} {ops:Array Oper} {fs:Nat} {L:zD} {B:zC} {ty:TypeId} {pos:String} {after:Array Edge}
end
end Go.DB
namespace Go.DB
open Go Go.RowKit
def vb (T:TypeId)(S:zH):zH where
 p:=fun M v w=>∃u,v = .iface T u∧S.p M u w
 law:=fun M M' v w w' hk hm ⟨u,h,hs⟩=>⟨u,h,S.law M M' u w w' hk hm hs⟩
theorem Opd.nilI {L:zD}{G:Prop}:Opd L G (.const .nilIface) (isV .nilIface):=fun _ _=>yJ.2 ⟨rfl,rfl,rfl⟩
def YG (P:Program)(T:TypeId):Prop:=((P.underlying T).map (fun | .interface _=>false | _=>true))=some true
def jg (P:Program)(T:TypeId)(name:String)(f:Nat)(ptrRecv:Bool):Prop:=
 ((P.info? T).bind (fun i=>i.methods.find? (·.name==name))).map (fun m=>(m.path.toList.isEmpty,m.func))=some (true,some (f,ptrRecv))
theorem zqE {P:Program}{T E:TypeId}{name:String}{f:Nat}{w:World}{v:Value}(hm:jg P T name f true)(hT:P.underlying T=some (.pointer E)):
  (method (P.types.size+Made.depth) T v name).run P w = .ok (f,v) w:=by
 unfold jg at hm
 obtain⟨m,hb,hm2⟩:=Option.map_eq_some_iff.1 hm
 obtain⟨i,hi,hf⟩:=Option.bind_eq_some_iff.1 hb
 simp only[Prod.mk.injEq]at hm2
 obtain⟨hp,hfn⟩:=hm2
 have hp0:m.path.toList=[]:=List.isEmpty_iff.1 hp
 have hd:P.types.size+Made.depth=(P.types.size+(Made.depth - 1))+1:=by
  have:Made.depth=100:=rfl
  omega
 rw[hd]
 have hti:(typeInfo T).run P w = .ok i w:=by simp[typeInfo,hi,go_sem]
 have hun:(underlying T).run P w = .ok (.pointer E) w:=by simp[underlying,hT,go_sem]
 unfold method
 rw[Sem.run_bind,hti]
 simp only[Result.andThen,hf]
 rw[Sem.run_bind,hp0]
 simp only[follow,Sem.run_pure,Result.andThen,hfn]
 rw[Sem.run_bind]
 unfold receiverAt
 rw[Sem.run_bind,hun]
 simp[Result.andThen,Place.get,Sem.run_pure]
theorem zqJ {P:Program}{T:TypeId}{a:Addr}{nm:String}{w:World}:(Builtin.ssaWrapNilChk_ #[T] T #[.pointer (some a),strVal "",strVal nm]).run P w = .ok (.pointer (some a)) w:=rfl
theorem zqF {P:Program}{T E:TypeId}{name:String}{f:Nat}{w:World}{b off:Nat}{x:Value}(hm:jg P T name f false)(hT:P.underlying T=some (.pointer E))
  (hl:(Instr.loadAt E (.pointer (some ⟨b,off,none⟩))).run P w = .ok x w):
  (method (P.types.size+Made.depth) T (.pointer (some ⟨b,off,none⟩)) name).run P w = .ok (f,x) w:=by
 unfold jg at hm
 obtain⟨m,hb,hm2⟩:=Option.map_eq_some_iff.1 hm
 obtain⟨i,hi,hf⟩:=Option.bind_eq_some_iff.1 hb
 simp only[Prod.mk.injEq]at hm2
 obtain⟨hp,hfn⟩:=hm2
 have hp0:m.path.toList=[]:=List.isEmpty_iff.1 hp
 have hpe:m.path.isEmpty=true:=by
  cases hq:m.path with
  | mk l=>rw[hq]at hp0;simp at hp0;simp[hp0]
 have hd:P.types.size+Made.depth=(P.types.size+(Made.depth - 1))+1:=by
  have:Made.depth=100:=rfl
  omega
 rw[hd]
 have hti:(typeInfo T).run P w = .ok i w:=by simp[typeInfo,hi,go_sem]
 have hun:(underlying T).run P w = .ok (.pointer E) w:=by simp[underlying,hT,go_sem]
 have hl2:(loadVar E ⟨b,off,none⟩).run P w = .ok x w:=by
  simpa [Instr.loadAt,Instr.sureAddr,Sem.run_bind,Sem.run_pure,Result.andThen]using hl
 unfold method
 rw[Sem.run_bind,hti]
 simp only[Result.andThen,hf]
 rw[Sem.run_bind,hp0]
 simp only[follow,Sem.run_pure,Result.andThen,hfn]
 rw[Sem.run_bind]
 unfold receiverAt
 rw[Sem.run_bind,hun]
 simp only[Result.andThen,Place.get,Sem.run_bind,Sem.run_pure,hpe,if_true,zqJ,asAddr,hl2]
theorem zqB {P:Program}{T n:Nat}{xs:List Int}{w:World}(e:Bool)(hT:zbx P T n)(hl:xs.length=n):(Instr.checkKey e 10000 T (.agg (xs.map (Value.int .i64 ·)).toArray)).run P w = .ok () w:=by
 obtain⟨hu,_,_,hfs⟩:=hT
 have hun:(underlying T).run P w = .ok (.struct (P.fieldsOf T)) w:=J9 hu
 rw[show(10000:Nat)=9999+1 from rfl,Instr.checkKey]
 simp only[Sem.run_bind,hun,Result.andThen_ok]
 rw[←Array.forIn_toList]
 have zZ:∀f∈(P.fieldsOf T).toList,f.name≠"_"∧f.offset<n∧P.underlying f.type=some (.int .i64):=fun f hf=>by
  have hm:=List.mem_map_of_mem (f:=fun f:Field=>(f.name != "_",f.offset,P.underlying f.type)) hf
  rw[hfs]at hm
  obtain⟨i,hi,he⟩:=List.mem_map.1 hm
  simp only[Prod.mk.injEq]at he
  exact⟨by simpa using he.1.symm,by rw[←he.2.1];exact List.mem_range.1 hi,he.2.2.symm⟩
 generalize (P.fieldsOf T).toList=L at zZ
 induction L with
 | nil=>simp
 | cons f L ih=>
  obtain⟨h1,h2,h3⟩:=zZ f (by simp)
  have hag:(isAgg f.type).run P w = .ok false w:=by simp[isAgg,underlying,h3,go_sem]
  have hp:(part f.type (xs.map (Value.int .i64 ·)).toArray f.offset).run P w = .ok (.int .i64 (xs[f.offset]'(by omega))) w:=by
   unfold part
   rw[Sem.run_bind,hag]
   simp only[Result.andThen]
   have:((xs.map (Value.int .i64 ·)).toArray)[f.offset]?=some (.int .i64 (xs[f.offset]'(by omega))):=by simp[hl,h2]
   simp only[Bool.false_eq_true,if_false,this]
   rfl
  have hc:∀z,(Instr.checkKey e 9999 f.type (.int .i64 z)).run P w = .ok () w:=fun z=>by
   rw[show(9999:Nat)=9998+1 from rfl,Instr.checkKey]
   simp[underlying,h3,go_sem]
  simp only[List.forIn_cons,Sem.run_bind,h1,ne_eq,not_false_eq_true,if_true,Result.andThen_ok,hp,hc,Sem.run_pure]
  exact ih (fun y hy=>zZ y (by simp[hy]))
theorem zkt {P:Program}{T n:Nat}{xs:List Int}{w0:World}(hT:zbx P T n)(hl:xs.length=n):∀(es:List MapEntry) (ls:List (List Int)) (i:Nat),es.length=ls.length→(∀ys∈ls,ys.length=n)→
  (∀(j:Nat) (e:MapEntry) (ys:List Int),es[j]?=some e→ls[j]?=some ys→e.key = .agg (ys.map (Value.int .i64 ·)).toArray)→
  ∃r,(Instr.findAsking T (.agg (xs.map (Value.int .i64 ·)).toArray) es i).run P w0 = .ok r w0∧((r=none∧∀y∈ls,y≠xs)∨∃j e y,r=some (i+j,e.val)∧es[j]?=some e∧ls[j]?=some y∧y=xs)
 | [],ls,i,h,_,_=>by
  have:ls=[]:=List.length_eq_zero_iff.1 h.symm
  subst this
  exact⟨none,by simp[Instr.findAsking,go_sem],.inl ⟨rfl,by simp⟩⟩
 | e::es,[],i,h,_,_=>by simp at h
 | e::es,y::ls,i,h,hn,h'=>by
  have h0:=h' 0 e y rfl rfl
  have hyl:=hn y (by simp)
  obtain⟨hu,hst,hgd,hfs⟩:=id hT
  have heq:(Op.equal T (.agg (xs.map (Value.int .i64 ·)).toArray) e.key).run P w0 = .ok (decide (xs=y)) w0:=by
   rw[h0]
   show(Op.equalIn (9998+1+1) T _ _).run P w0=_
   rw[run_equalIn_struct w0 _ T _ _ hu hst,zg8 9998 xs y (by omega) _ 0 n (by omega) (by rw[hfs,List.range_eq_range'])]
   simp
  unfold Instr.findAsking
  rw[Sem.run_bind,heq]
  simp only[Result.andThen]
  by_cases hk:xs=y
  ·
   rw[decide_eq_true hk]
   exact⟨_,rfl,.inr ⟨0,e,y,rfl,rfl,rfl,hk.symm⟩⟩
  ·
   rw[decide_eq_false hk]
   obtain⟨r,h1,h2⟩:=zkt (w0:=w0) hT hl es ls (i+1) (by simpa using h) (fun z hz=>hn z (by simp[hz])) (fun j e' x' h1 h2=>h' (j+1) e' x' (by simpa using h1) (by simpa using h2))
   refine⟨r,by simpa using h1,?_⟩
   rcases h2 with⟨h2,h3⟩ | ⟨j,e',x',h2,h3,h4,h5⟩
   ·
    exact .inl ⟨h2,fun z hz=>by
     rcases List.mem_cons.1 hz with rfl | hz
     ·
      exact fun e=>hk e.symm
     ·
      exact h3 z hz⟩
   ·
    exact .inr ⟨j+1,e',x',by rw[h2];congr 2;omega,by simpa using h3,by simpa using h4,h5⟩
theorem zqK (n:Nat)(xs:List Int):Instr.sameBits (n+1) (.agg (xs.map (Value.int .i64 ·)).toArray) (.agg (xs.map (Value.int .i64 ·)).toArray)=true:=by
 unfold Instr.sameBits
 simp only[beq_self_eq_true,Bool.true_and]
 rw[List.all_eq_true]
 intro x hx
 obtain⟨a,b⟩:=x
 have:a=b∧∃z,a=Value.int .i64 z:=by
  clear n
  induction xs with
  | nil=>simp at hx
  | cons y ys ih=>
   simp only[List.map_cons,List.zip_cons_cons,List.mem_cons,Prod.mk.injEq]at hx
   rcases hx with⟨rfl,rfl⟩ | hx
   ·
    exact⟨rfl,y,rfl⟩
   ·
    exact ih hx
 obtain⟨rfl,z,rfl⟩:=this
 cases n<;>simp[Instr.sameBits]
abbrev MKey.ints {K:Type}[Rep K][DecidableEq K](n:Nat)(f:K→List Int)(hf:∀a b,f a=f b↔a=b)(hlen:∀a,(f a).length=n)
  (hrep:∀(M:zp) (v:Value) (w:World) (a:K),(rep a).p M v w→v = .agg ((f a).map (Value.int .i64 ·)).toArray):MKey K where
 desc:=fun P T=>zbx P T n
 check:=fun {P T M w0 k v} e w hT hv=>by
  obtain rfl:=hrep _ _ _ _ hv
  exact zqB e hT (hlen k)
 find:=fun {P T M M' w w' k v} w0 hT hv es l hl h=>by
  obtain rfl:=hrep _ _ _ _ hv
  have hun:(underlying T).run P w0 = .ok (.struct (P.fieldsOf T)) w0:=J9 hT.1
  have conv:∀r i,((r=none∧∀y∈l.map f,y≠f k)∨∃j e y,r=some (i+j,MapEntry.val e)∧es[j]?=some e∧(l.map f)[j]?=some y∧y=f k)→i=0→zc4 k es l r:=by
   rintro r i hr rfl
   rcases hr with⟨h1,h2⟩ | ⟨j,e,y,h1,h2,h3,h4⟩
   ·
    exact .inl ⟨h1,fun x hx he=>h2 (f x) (List.mem_map.2 ⟨x,hx,rfl⟩) (by rw[he])⟩
   ·
    rw[List.getElem?_map,Option.map_eq_some_iff]at h3
    obtain⟨x,hx,rfl⟩:=h3
    exact .inr ⟨j,e,x,by rw[h1,Nat.zero_add],h2,hx,(hf x k).1 h4⟩
  obtain⟨r,h1,h2⟩:=zkt (w0:=w0) hT (hlen k) es (l.map f) 0 (by rw[List.length_map];exact hl) (fun ys hy=>by obtain⟨x,_,rfl⟩:=List.mem_map.1 hy;exact hlen x) (fun j e ys hj hy=>by
   rw[List.getElem?_map,Option.map_eq_some_iff]at hy
   obtain⟨x,hx,rfl⟩:=hy
   exact hrep _ _ _ _ (h j e x hj hx))
  cases es with
  | nil=>
   have:l=[]:=List.length_eq_zero_iff.1 hl.symm
   subst this
   refine⟨none,?_,.inl ⟨rfl,by simp⟩⟩
   simp only[Instr.findKey,Sem.run_bind,hun,Result.andThen,Instr.findNow,Sem.run_pure]
  | cons e es=>
   refine⟨r,?_,conv r 0 h2 rfl⟩
   simp only[Instr.findKey,Sem.run_bind,hun,Result.andThen,Instr.findNow,Instr.sameNow]
   exact h1
 bits:=fun {M M' w w' k v1 v2} h1 h2=>by
  obtain rfl:=hrep _ _ _ _ h1
  obtain rfl:=hrep _ _ _ _ h2
  exact zqK 9999 _
section
variable {P:Program} {ops:Array Oper} {fs:Nat} {L:zD} {B:zC} {G:Prop}
variable {d:Option Tmp} {ty:TypeId} {pos:String} {after:Array Edge} {g:Option (Nat×Bool)} {xr:List Nat}
theorem zfK {ρ:Operand→Value}{x:Operand}{xs:Array Operand}{ts:Array TypeId}{name:String}{T:TypeId}{u rv:Value}{f:Nat}{w:World}(hf:yb P f)(hx:ρ x = .iface T u)
  (hm:(method (P.types.size+Made.depth) T u name).run P w = .ok (f,rv) w):
  (execOp ρ ⟨d,.call { callee:=.invoke x name,args:=xs,argTypes:=ts },ty,pos,after,g⟩).run P w = .ok (.enter f (#[rv]++xs.map ρ)) w:=by
 have h:=zkp hf (#[rv]++xs.map ρ) w
 simp only[execOp,resolve,hx]
 rw[Sem.run_bind]
 simp only[Sem.run_pure,Result.andThen,invoke]
 have e0:(#[Value.iface T u]++xs.map ρ)[0]?=some (.iface T u):=by
  rw[Array.getElem?_append_left (by simp)];rfl
 have e1:(#[Value.iface T u]++xs.map ρ).extract 1 (#[Value.iface T u]++xs.map ρ).size=xs.map ρ:=by
  apply Array.ext
  ·
   simp
  ·
   intro i h1 h2
   rw[Array.getElem_extract,Array.getElem_append_right (by simp)]
   simp
 rw[e0]
 simp only[e1,callMethod]
 rw[Sem.run_bind]
 have hp:(program).run P w = .ok P w:=rfl
 rw[hp]
 simp only[Result.andThen]
 rw[Sem.run_bind,hm]
 simp only[Result.andThen]
 exact h
theorem zj.mkIface {T:TypeId}{x:Operand}{S:zH}(hg:zU ops g L G)(hT:YG P T)(hx:Opd L G x S):
  zj P ops fs ⟨d,.makeInterface T x,ty,pos,after,g⟩ L B (xr,[]) ⟨G,vb T S⟩ []:=
 .pure hg fun M a w _ hs hG=>by
  have hS:=hx.get hs (fun t ht=>zL (by simp[Op.operands,ht])) hG
  refine⟨.iface T (a.eval x),?_,_,rfl,hS⟩
  unfold YG at hT
  obtain⟨u,hu,hn⟩:=Option.map_eq_some_iff.1 hT
  have hun:(underlying T).run P w = .ok u w:=by simp[underlying,hu,go_sem]
  simp only[execOp,Instr.makeInterface]
  cases u<;>first | (simp at hn;done) | simp[Sem.run_bind,hun,Result.andThen,Sem.run_pure]
theorem zj.assertV {T X:TypeId}{x:Operand}{S:zH}(hg:zU ops g L G)(hT:YG P T)(hx:Opd L G x (vb T S)):
  zj P ops fs ⟨d,.typeAssert x X T false,ty,pos,after,g⟩ L B (xr,[]) ⟨G,S⟩ []:=
 .pure hg fun M a w _ hs hG=>by
  obtain⟨u,hv,hS⟩:=hx.get hs (fun t ht=>zL (by simp[Op.operands,ht])) hG
  refine⟨u,?_,hS⟩
  unfold YG at hT
  obtain⟨t,hu,hn⟩:=Option.map_eq_some_iff.1 hT
  have hun:(underlying T).run P w = .ok t w:=by simp[underlying,hu,go_sem]
  simp only[execOp,Instr.typeAssert,hv]
  cases t<;>first | (simp at hn;done) | simp[Sem.run_bind,hun,Result.andThen,Sem.run_pure]
theorem zj7 {T E m k q:Nat}{x:Operand}{s:Value}{name:String}{f:Nat}{α:Type}[Rep α]{l:List α}{T':TypeId}{E':TypeId}{ts kz:List Nat}{M:zp}{D:Nat→zp}{a:Act}{w:World}
  (hm:jg P T name f false) (hT:P.underlying T=some (.pointer E)) (hE:Ty P E Raw) (hx:Opd L G x (vb T (isV (ptr m 0)))) (hk:zB B k=some (zf.at (ptr m 0) (zE T' (⟨s⟩:Raw))))
  (hs:j8 ts M L a w) (hxt:∀t,x = .tmp t→t∈ts) (hB:Q4 kz M D B a w) (hkz:k∈kz) (hG:G):
  ∃u,a.eval x = .iface T u∧(method (P.types.size+Made.depth) T u name).run P w = .ok (f,s) w:=by
 obtain⟨u,hv,hu⟩:=hx.get hs hxt hG
 obtain rfl:=(yJ.1 hu).1
 refine⟨_,hv,?_⟩
 obtain⟨m',cs,hvm,hD,hM,hh,hc⟩:=hB.has k hkz _ hk
 simp only[ptr,Value.pointer.injEq,Option.some.injEq,Addr.mk.injEq,and_true,true_and]at hvm
 subst hvm
 have hc':=hc
 obtain⟨rfl,h1,h2⟩:=hc'
 refine zqF hm hT ?_
 have:=zbc (P:=P) (w:=w) hE hc (b:=m) (off:=0) (fun j hj=>by
  rw[Q7 hh]
  simp)
 exact this
theorem zj.invokeC {f T E m k q:Nat}{x:Operand}{xs:Array Operand}{ts:Array TypeId}{Ss:List zH}{S:zH}{s:Value}{name:String}{α:Type}[Rep α]{l:List α}{T' E':TypeId}
  (hg:zU ops g L G) (hm:jg P T name f false) (hT:P.underlying T=some (.pointer E)) (hE:Ty P E Raw) (hx:Opd L G x (vb T (isV (ptr m 0))))
  (hk:zB B k=some (zf.at (ptr m 0) (zE T' (⟨s⟩:Raw)))) (hq:zB B q=some (zf.at s (zk E' l)))
  (hf:yb P f) (hspec:G→zi P f (rep l::Ss) S) (hS:zc3 S) (ha:qN L G xs.toList Ss):
  zj P ops fs ⟨d,.call { callee:=.invoke x name,args:=xs,argTypes:=ts },ty,pos,after,g⟩ L B ([k,q],[]) ⟨G,S⟩ []:=
 .of hg fun M D a w hmm hs hsB hG=>by
  let M':zp:=fun j=>M j∧¬D q j
  obtain⟨u,hv,hrun⟩:=zj7 (q:=q) (l:=l) (E':=E') hm hT hE hx hk hs (fun t ht=>zL (by simp[Op.operands,Call.operands,ht])) hsB (by simp) hG
  have hR:=hsB.has q (by simp) _ hq
  have hrow:(rep l).p M' s w:=QW M (D q) w s hR hmm
  have hargs:=ha.get hs (fun y hym t ht=>zL (by subst ht;simp[Op.operands,Call.operands];exact .inr (by simpa using hym))) hG
  have hall:qb M' w (rep l::Ss) (s::xs.toList.map a.eval):=⟨hrow,qb.law (zM.refl _ _) (fun _ h=>.inl h.1) _ _ hargs⟩
  have hgive:=(hspec hG).calls M' w _ (hmm.less fun k h=>h.1) hall
  have hgive':Q2 P f (s::xs.toList.map a.eval) M w S:=Calls.mono hgive fun e w' ⟨hx,v,he,hv⟩=>⟨hx,v,he,hS _ _ _ _ hv⟩
  refine zW.enter (vs:=s::xs.toList.map a.eval) ?_ hgive'
  rw[show(s::xs.toList.map a.eval).toArray=#[s]++xs.map a.eval by apply Array.ext';simp]
  exact zfK hf hv hrun
theorem zj.invokeO {T E:TypeId}{x:Operand}{d:Option Nat}{f:Nat}{u:Value}{xs:Array Operand}{ts:Array TypeId}{Ss:List zH}{Os:q9}{S:zH}{outs:List (Option zf)}{W:Nat×Option zf}{Ws:qc}{xk:List Nat}{name:String}(ks:List Nat)
  (hm:jg P T name f true) (hT:P.underlying T=some (.pointer E)) (hxr:Opd L True x (vb T (isV u))) (hspec:yh P f (isV u::Ss) Os S outs)
  (hx:qN L True xs.toList Ss) (hH:jZ B ks Os) (hW:jn (Os.map (·.1)) ks d outs=W::Ws) (hnd:(ks++d.toList).Nodup) (hxk:∀k∈ks,k∈xk) (hd:∀d',d=some d'→d'<fs):
  zj P ops fs ⟨d,.call { callee:=.invoke x name,args:=xs,argTypes:=ts },ty,pos,after,none⟩ L B (ks,xk) ⟨True,S⟩ (W::Ws):=
 .doing fun M D a w hsz hmm hs hsB=>by
  have ha:=hx.get hs (fun y hym t ht=>zL (by subst ht;simp[Op.operands,Call.operands];exact .inr (by simpa using hym))) trivial
  obtain⟨u',hv,hu⟩:=hxr.get hs (fun t ht=>zL (by simp[Op.operands,Call.operands,ht])) trivial
  obtain rfl:=(yJ.1 hu).1
  have hr:=zfK (P:=P) (d:=d) (ty:=ty) (pos:=pos) (after:=after) (g:=none) (xs:=xs) (ts:=ts) (w:=w) hspec.ok hv (zqE hm hT)
  rw[show(#[u']++xs.map a.eval)=(u'::xs.toList.map a.eval).toArray by apply Array.ext';simp]at hr
  have hnd':ks.Nodup:=(List.nodup_append.1 hnd).1
  refine zW.enterO hr (hspec.calls M _ w _ hmm ⟨hu,ha⟩ (Jn.of hH hnd' hsB (fun k hk=>List.mem_append_left _ hk))) fun e w' he=>?_
  obtain⟨v,M',D',rfl,rest⟩:=he
  exact⟨v,rfl,.call hH hW hxk hnd (fun d' h=>by rw[hsz];exact hd d' h) ⟨v,M',D',rfl,rest⟩⟩
theorem zj.invokeOV {T E m k:Nat}{x:Operand}{d:Option Nat}{f:Nat}{s:Value}{T':TypeId}{xs:Array Operand}{ts:Array TypeId}{Ss:List zH}{Os:q9}{S:zH}{outs:List (Option zf)}{W:Nat×Option zf}{Ws:qc}{xk:List Nat}{name:String}(ks:List Nat)
  (hm:jg P T name f false) (hT:P.underlying T=some (.pointer E)) (hE:Ty P E Raw) (hxr:Opd L True x (vb T (isV (ptr m 0)))) (hk:zB B k=some (zf.at (ptr m 0) (zE T' (⟨s⟩:Raw)))) (hspec:yh P f (isV s::Ss) Os S outs)
  (hx:qN L True xs.toList Ss) (hH:jZ B ks Os) (hW:jn (Os.map (·.1)) ks d outs=W::Ws) (hnd:(ks++d.toList).Nodup) (hxk:∀k∈ks,k∈xk) (hd:∀d',d=some d'→d'<fs):
  zj P ops fs ⟨d,.call { callee:=.invoke x name,args:=xs,argTypes:=ts },ty,pos,after,none⟩ L B (k::ks,xk) ⟨True,S⟩ (W::Ws):=
 .doing fun M D a w hsz hmm hs hsB=>by
  have ha:=hx.get hs (fun y hym t ht=>zL (by subst ht;simp[Op.operands,Call.operands];exact .inr (by simpa using hym))) trivial
  obtain⟨u',hv,hrun⟩:=zj7 (P:=P) (q:=0) (α:=Raw) (l:=[]) (E':=0) hm hT hE hxr hk hs (fun t ht=>zL (by simp[Op.operands,Call.operands,ht])) hsB (by simp) trivial
  have hr:=zfK (P:=P) (d:=d) (ty:=ty) (pos:=pos) (after:=after) (g:=none) (xs:=xs) (ts:=ts) (w:=w) hspec.ok hv hrun
  rw[show(#[s]++xs.map a.eval)=(s::xs.toList.map a.eval).toArray by apply Array.ext';simp]at hr
  have hnd':ks.Nodup:=(List.nodup_append.1 hnd).1
  obtain⟨m',cs,hvm,hD,hM,hh,hc⟩:=hsB.has k (by simp) _ hk
  have hsv:(isV s).p M s w:=⟨[s],by obtain⟨e1,e2,e3⟩:=hc;subst e1;exact⟨rfl,e2,e3⟩,rfl⟩
  have hsB':Q4 (ks++xk) M D B a w:=⟨fun t ht=>hsB.has t (List.mem_cons_of_mem _ ht),fun t ht t' ht'=>hsB.apart t (List.mem_cons_of_mem _ ht) t' (List.mem_cons_of_mem _ ht')⟩
  refine zW.enterO hr (hspec.calls M _ w _ hmm ⟨hsv,ha⟩ (Jn.of hH hnd' hsB' (fun k hk=>List.mem_append_left _ hk))) fun e w' he=>?_
  obtain⟨v,M',D',rfl,rest⟩:=he
  exact⟨v,rfl,.call hH hW hxk hnd (fun d' h=>by rw[hsz];exact hd d' h) ⟨v,M',D',rfl,rest⟩⟩
theorem zj.boxRow {T d t E:Nat}{α:Type}[Rep α]{l:List α}(hd:Nat.blt d fs=true)(h1:zB B t=some (zk E l)):
  zj P ops fs ⟨some d,.box T (.tmp t),ty,pos,after,none⟩ L B ([t],[d,t]) ⟨True,yj⟩ [(d,some (zZ (fun s=>zE T (⟨s⟩:Raw)) (zk E l))),(t,none)]:=by
 refine .doing fun M D a w hsz hm hs hsB=>?_
 have hC:=hsB.has t (by simp) _ h1
 have hx:a.eval (.tmp t)=Act.val a t:=Qd
 have hcs:(a.eval (.tmp t)).cells=#[Act.val a t]:=by
  obtain⟨ad,cap,hsl,_⟩:=id hC
  rw[hx,hsl];rfl
 have hone:jl (Act.val a t)=true∧(Act.val a t).cells=#[Act.val a t]:=by
  obtain⟨ad,cap,hsl,_⟩:=id hC
  rw[hsl];exact⟨rfl,rfl⟩
 have hin:∀j,D t j→M j:=fun j hj=>zf.inM _ M (D t) _ w hC j hj
 have hext:=Ext.alloc w (.cells #[Act.val a t] T)
 have hmm:∀k,(M k∨k=w.heap.size)→M k∨w.heap.size≤k:=fun k h=>h.imp id (by omega)
 have hblk:∀j,D t j→j<w.heap.size:=fun j hj=>hm j (hin j hj)
 refine zW.value (zbK hcs) (.pass (fun k=>M k∨k=w.heap.size) (fun j=>D t j∨j=w.heap.size) h1 hext.keeps (fun k h=>.inl h) hmm (fun k h=>?_) ⟨fun _=>trivial,fun hf=>(hf trivial).elim⟩ ?_ (fun j h=>h.imp id (by omega)))
 ·
  rw[vS]
  rcases h with h | h
  ·
   have:=hm k h;omega
  ·
   omega
 ·
  rw[jK (by rw[hsz];exact Nat.le_of_ble_eq_true hd)]
  have old:∀j,D t j→(M j∨j=w.heap.size)∧(w.alloc (.cells #[Act.val a t] T)).heap[j]?=w.heap[j]?:=fun j hj=>⟨.inl (hin j hj),hext.block j (hblk j hj) (fun f=>f)⟩
  refine⟨Act.val a t,fun j=>j=w.heap.size,D t,⟨w.heap.size,[Act.val a t],rfl,fun _=>Iff.rfl,.inr rfl,?_,rfl,hone.1,hone.2⟩,?_,fun j=>Or.comm,fun j h1 h2=>?_⟩
  ·
   show(w.heap.push _)[w.heap.size]?=_
   rw[Array.getElem?_push_size]
  ·
   exact(zk E l).law M _ (D t) _ w _ hext.keeps hmm (fun j hj=>old j hj) hC
  ·
   have:=hblk j h2;omega
theorem zo6 {C:zf}(h:zak C):Jm C:=fun M D v w hc=>by
 obtain⟨m,rfl⟩:=h M D v w hc
 exact⟨rfl,rfl⟩
theorem zj.storeRow0P {T T' t k:Nat}{y0:Raw}{R:zf}(hT:Ty P T Raw)(hl:zB B k=some (zE T' y0))(hkn:Nat.blt k fs=true)(ht:zB B t=some R)(hR1:Jm R)(hkt:(k==t)=false):
  zj P ops fs ⟨none,.store T (.tmp k) (.tmp t),ty,pos,after,none⟩ L B ([k,t],[k,t]) ⟨True,yj⟩ [(k,some (zZ (fun s=>zE T' (⟨s⟩:Raw)) R)),(t,none)]:=by
 have hkt:k≠t:=by simpa using hkt
 refine .doing fun M D a w hsz hm hs hsB=>?_
 obtain⟨m,old,hvm,hD,hM,hh,hold⟩:=hsB.has k (by simp) _ hl
 have hR:=hsB.has t (by simp) _ ht
 have hap:=hsB.apart k (by simp) t (by simp) _ _ hl ht hkt
 have hxv:a.eval (.tmp t)=Act.val a t:=Qd
 obtain⟨ho1,ho2⟩:=hR1 _ _ _ _ hR
 have hz:Rep.cells M (⟨Act.val a t⟩:Raw) [Act.val a t] w:=⟨rfl,ho1,ho2⟩
 have hat:a.eval (.tmp k) = .pointer (some ⟨m,0,none⟩):=by
  have hlt:k<a.tmps.size:=by rw[hsz];exact Nat.le_of_ble_eq_true hkn
  rw[Act.eval_tmp (v:=Act.val a k) (by unfold Act.val;simp[hlt]),hvm]
 obtain⟨w',h1,h2,h3,h4,h5,h6,h7⟩:=QX (w:=w) (m:=m) (off:=0) (cs:=[Act.val a t]) (pre:=[]) (mid:=old) (rest:=[]) hT rfl (show old.length=1 from Rep.len hold) rfl (Rep.plain hz) (show(Act.val a t).cells=#[Act.val a t]from ho2) (by simpa using hh)
 have hkeep:zM (D k) w w':=⟨h3,h4,h5,by omega,fun j _ hn=>h7 j (fun e=>hn ((hD j).2 e))⟩
 have hkM:zM M w w':=⟨h3,h4,h5,by omega,fun j _ hn=>h7 j (fun e=>hn (e▸hM))⟩
 refine zW.skip (w':=w') (Qe (by rw[hat,hxv];exact h1)) rfl (.merge hl ht hkeep (fun j h=>by rw[h6];exact hm j h) ⟨fun _=>trivial,fun hf=>(hf trivial).elim⟩ ?_)
 rw[Jk]
 refine⟨Act.val a t,D k,D t,⟨m,_,hvm,hD,hM,by simpa using h2,rfl,ho1,ho2⟩,?_,fun _=>Iff.rfl,fun j h1 h2=>hap j h1 h2⟩
 exact R.law M M (D t) _ w w' hkM (fun _ h=>.inl h) (fun j hj=>⟨R.inM _ _ _ _ hR j hj,h7 j (fun e=>hap j ((hD j).2 e) hj)⟩) hR
end
section
variable {P:Program} {Q:Exit→Act→World→Prop} {n:Nat} {F:Fr} {L:zD} {B:zC}
theorem Cod.boxTold {c:Code}{g:Nat}{s:Value}{C:zf}(hl:zB B g=some (zf.at s C))(hC:zak C)(k:∀m,s=ptr m 0→Cod P c Q n F L B):Cod P c Q n F L B:=fun a w hs=>by
 obtain⟨M,D,h⟩:=id hs
 have hp:C.p M (D g) s w:=h.hasB g _ hl
 obtain⟨m,hv⟩:=hC _ _ _ _ hp
 exact k m hv a w hs
end
end Go.DB
namespace Go.DB
open Go Go.RowKit
section
variable {P:Program} {ops:Array Oper} {fs:Nat} {L:zD} {B:zC} {G:Prop}
variable {d:Option Tmp} {ty:TypeId} {pos:String} {after:Array Edge} {g:Option (Nat×Bool)} {xr:List Nat}
end
end Go.DB
namespace Go.DB
open Go Go.RowKit
def trimS (s cs:Str):Str:=⟨Go.Lib.trimS s.b cs.b⟩
theorem zrI {P:Program}{ρ:Shelf.Ren}(Ly:Proofs.Lays.n160 P ρ)(h116:(P.info? (ρ.t 116)).map (fun i=>(i.zero,i.size))=some (some (.agg (Array.replicate 256 (.bool false))),256)){f:Nat}(hf:ρ.f 160=f)(ok:yb P f)
  {s cs:Str} (hs:(cs.b.length:Int)<4294967281∧cs.b.all (fun b=>decide (b.toNat<128))=true):zi P f [rep s,rep cs] (rep (trimS s cs)):=by
 refine⟨ok,fun M w vs hM ha=>?_⟩
 match vs,ha with
 | [v,u],⟨hv,hu,_⟩=>
  obtain⟨rfl,hs1⟩:=jH.1 hv
  obtain⟨rfl,_⟩:=jH.1 hu
  subst hf
  have hz2:(ByteArray.mk cs.b.toArray).size=cs.b.length:=rfl
  have hz1:(ByteArray.mk s.b.toArray).size=s.b.length:=rfl
  refine Calls.mono (Proofs.Any.strings_Trim_laid Ly h116 (ByteArray.mk s.b.toArray) (ByteArray.mk cs.b.toArray) w (by omega) (by have:=hs.1;omega) (by
   have:=Proofs.ascii_of_all hs.2
   simpa using this)) ?_
  rintro e w' ⟨rfl,hb⟩
  have hle:∀(l c:List UInt8),(Go.Lib.trimS l c).length≤l.length:=fun l c=>by
   have h1:∀(l:List UInt8),(Go.Lib.trimLeftS l c).length≤l.length:=fun l=>(List.dropWhile_suffix _).length_le
   refine Nat.le_trans (h1 _) ?_
   unfold Go.Lib.trimRightS
   simp only[List.length_reverse]
   exact Nat.le_trans (List.dropWhile_suffix _).length_le (by simp)
  refine⟨⟨hb.os,hb.tape,hb.output,hb.size,fun k h1 _=>hb.block k h1⟩,_,rfl,jH.2 ⟨?_,?_⟩⟩
  ·
   simp[trimS,jf]
  ·
   have:=hle s.b cs.b
   show(Go.Lib.trimS s.b cs.b).length≤_
   omega
end Go.DB
namespace Go.DB
open Go Go.RowKit
def zad (s:Str):Bool:=Go.Lib.validD s.b
theorem zrP {P:Program}{ρ:Shelf.Ren}(Ly:Proofs.Lays.n196 P ρ){f:Nat}(hf:ρ.f 196=f)(h3:ρ.g 3=zav)(h4:ρ.g 4=Jy)(ok:yb P f){s:Str}:zi P f [rep s] (rep (zad s)):=by
 refine⟨ok,fun M w vs hM ha=>?_⟩
 match vs,ha with
 | [v],⟨hv,_⟩=>
  obtain⟨rfl,hs⟩:=jH.1 hv
  subst hf
  have hT:Go.Lib.Utf8Tabs (ρ.g 3) (ρ.g 4) w:=by rw[h3,h4];exact hM.glob.tabs
  refine Calls.mono (Proofs.Any.utf8_ValidString Ly (ByteArray.mk s.b.toArray) w hs hT) ?_
  rintro e w' ⟨rfl,hb⟩
  exact⟨Ext.of_below hb,_,rfl,yX.2 rfl⟩
end Go.DB
namespace Go.DB
open Go Go.RowKit
theorem zap {M:zp}{w:World}:∀(l:List Int) (cs:List Value),zX M w l cs↔cs=l.map (Value.int .i64)∧∀x∈l,InI x
 | [],cs=>by simp[zX]
 | x::l,cs=>by
  constructor
  ·
   rintro⟨c,r,h,⟨h1,h2⟩,h3⟩
   obtain⟨h4,h5⟩:=(zap l r).1 h3
   subst h1 h4
   exact⟨by simp[h],by simp only[List.forall_mem_cons];exact⟨h2,h5⟩⟩
  ·
   rintro⟨h,h2⟩
   simp only[List.forall_mem_cons]at h2
   exact⟨[.int .i64 x],l.map (Value.int .i64),by simp[h],⟨rfl,h2.1⟩,(zap l _).2 ⟨rfl,h2.2⟩⟩
theorem zjU {pre cs ds rest:List Value}{off:Nat}{zs:List Int}(hp:pre.length=off)(hd:ds=zs.map (Value.int .i64))(hl:cs.length=zs.length):
  Go.Sort.putCells (Value.int .i64) off zs.toArray (pre++cs++rest).toArray=(pre++ds++rest).toArray:=by
 subst hd
 unfold Go.Sort.putCells
 apply Array.ext_getElem?
 intro k
 rw[Array.getElem?_mapIdx]
 simp only[List.getElem?_toArray,List.size_toArray]
 by_cases h1:k<off
 ·
  rw[List.append_assoc,List.append_assoc,List.getElem?_append_left (by omega),List.getElem?_append_left (by omega)]
  have:¬(off≤k∧k<off+zs.length):=by omega
  simp only[this,if_false]
  cases pre[k]?<;>rfl
 ·
  by_cases h2:k<off+zs.length
  ·
   rw[List.append_assoc,List.append_assoc,List.getElem?_append_right (l₁:=pre) (by omega),List.getElem?_append_left (l₁:=cs) (by omega),List.getElem?_append_right (l₁:=pre) (by omega),List.getElem?_append_left (by simp;omega)]
   have:off≤k∧k<off+zs.length:=by omega
   simp only[this,and_self,if_true,hp]
   rw[List.getElem?_eq_getElem (by omega),Option.map_some,List.getElem?_map,List.getElem?_eq_getElem (by omega),Option.map_some]
   congr 2
   rw[getElem!_pos _ _ (by simp;omega)]
   simp
  ·
   rw[List.getElem?_append_right (by simp;omega),List.getElem?_append_right (by simp;omega)]
   have:¬(off≤k∧k<off+zs.length):=by omega
   simp only[this,if_false]
   have e:(pre++cs).length=(pre++zs.map (Value.int .i64)).length:=by simp[hl]
   rw[e]
   cases rest[k - (pre++zs.map (Value.int .i64)).length]?<;>rfl
noncomputable def jY (l:List Int):List Int:=l.mergeSort fun x y=>decide (x≤y)
theorem zrl {P:Program}{ρ:Shelf.Ren}(Ly:Proofs.SlLaysM.n5 P ρ){f:Nat}(hf:ρ.f 5=f)(ok:yb P f){T:TypeId}{s:Value}{l:List Int}(hl:(l.length:Int)<4611686018427387904):
  yh P f [isV s] [(s,zk T l)] yj [some (zk T (jY l))]:=by
 refine⟨ok,fun M D w vs hM ha hO=>?_⟩
 match vs,ha with
 | [v],⟨hv,_⟩=>
  obtain⟨rfl,_⟩:=yJ.1 hv
  have h0:=hO.has 0 v (zk T l) rfl
  obtain⟨a,cap,rfl,h1,h2,h3⟩:=h0
  subst hf
  cases a with
  | none=>
   obtain⟨h4,h5,h6⟩:=h3
   subst h4
   refine Calls.mono (Proofs.AnyM.slices_Sort_int_none Ly none cap w) ?_
   rintro e w' ⟨rfl,rfl⟩
   refine⟨.tuple #[],M,D,rfl,zM.refl _ _,fun k h=>.inl h,fun k h=>.inl h,hM,trivial,?_,?_⟩
   ·
    intro i c hc
    match i,hc with
    | 0,hc=>
     simp only[List.getElem?_cons_zero,Option.some.injEq]at hc
     subst hc
     refine⟨⟨none,cap,by simp[jY],by simp[jY],h2,by simp[jY],h5,h6⟩,fun k hk=>absurd hk (h6 k)⟩
   ·
    intro i j c c' hi hj hne
    match i,j,hi,hj with
    | 0,0,_,_=>omega
  | some ad=>
   obtain⟨b,off,sp⟩:=ad
   obtain⟨hs,hD,hMb,pre,cs,rest,hh,hp,he,hr⟩:=h3
   simp only at hs hD hMb hh hp
   subst hs
   obtain⟨hcs,hin⟩:=(zap l cs).1 he
   have hcl:cs.length=l.length:=by rw[hcs];simp
   have hcell:∀j,w.cell? ⟨b,j,none⟩=(pre++cs++rest).toArray[j]?:=fun j=>hh.cell
   obtain⟨qz,hqz,hh⟩:=hh
   have hfz:∀j,j<(pre++cs++rest).length→w.frozen? ⟨b,j,none⟩=false:=fun j hj=>by simp[World.frozen?,hh];omega
   have hblk:b<w.heap.size:=hM b hMb
   refine Calls.mono (Proofs.AnyM.slices_Sort_int Ly b off cap l w (fun j hj=>⟨?_,hfz _ (by simp at hj⊢;omega)⟩) hblk (by omega)) ?_
   ·
    rw[hcell]
    have hj':j<l.length:=by simpa using hj
    simp only[List.getElem?_toArray]
    rw[List.append_assoc,List.getElem?_append_right (by omega),List.getElem?_append_left (by omega),hcs,List.getElem?_map,show off+j - pre.length=j by omega,List.getElem?_eq_getElem hj',Option.map_some]
    congr 2
    rw[getElem!_pos _ _ (by simpa using hj')]
    simp
   ·
    rintro e w' ⟨rfl,n,os,rfl⟩
    have hkeep:zM (DU D 1) w (Go.Sort.grow (Go.Sort.putRow (Value.int .i64) (Go.Sort.ahead w n) b off (l.mergeSort fun x y=>decide (x≤y)).toArray) os):=by
     refine⟨rfl,rfl,rfl,?_,fun k hk hn=>?_⟩
     ·
      simp[Go.Sort.grow,Go.Sort.putRow,Go.Sort.mapBlock,Go.Sort.ahead]
     ·
      have hne:b≠k:=fun e=>hn ⟨0,by omega,(hD k).2 e.symm⟩
      simp only[Go.Sort.grow,Go.Sort.putRow,Go.Sort.mapBlock,Go.Sort.ahead]
      rw[Array.getElem?_append_left (by simpa using hk),Array.getElem?_modify,if_neg hne]
    have hhb:(Go.Sort.grow (Go.Sort.putRow (Value.int .i64) (Go.Sort.ahead w n) b off (l.mergeSort fun x y=>decide (x≤y)).toArray) os).heap[b]?=some (.cells (pre++(jY l).map (Value.int .i64)++rest).toArray T qz):=by
     simp only[Go.Sort.grow,Go.Sort.putRow,Go.Sort.mapBlock,Go.Sort.ahead]
     rw[Array.getElem?_append_left (by simpa using hblk),Array.getElem?_modify,if_pos rfl,hh,Option.map_some]
     simp only[Go.Sort.onCells]
     rw[zjU hp rfl (by rw[hcl];simp)];rfl
    generalize hw:Go.Sort.grow (Go.Sort.putRow (Value.int .i64) (Go.Sort.ahead w n) b off (l.mergeSort fun x y=>decide (x≤y)).toArray) os=w' at hkeep hhb
    have hll:(jY l).length=l.length:=by simp[jY]
    refine⟨.tuple #[],M,D,rfl,hkeep,fun k h=>.inl h,fun k h=>.inl h,fun k h=>Nat.lt_of_lt_of_le (hM k h) hkeep.size,trivial,?_,?_⟩
    ·
     intro i c hc
     match i,hc with
     | 0,hc=>
      simp only[List.getElem?_cons_zero,Option.some.injEq]at hc
      subst hc
      refine⟨⟨some ⟨b,off,none⟩,cap,by simp[hll],by rw[hll];exact h1,h2,rfl,hD,hMb,pre,_,rest,⟨qz,hqz.imp id (fun h=>⟨h.1,by have:=h.2;simp[hll,hcl]at this⊢;omega⟩),hhb⟩,hp,(zap _ _).2 ⟨rfl,fun x hx=>hin x ?_⟩,by rw[hll];exact hr⟩,fun k hk=>.inl ⟨0,by simp,hk⟩⟩
      simpa [jY]using hx
    ·
     intro i j c c' hi hj hne
     match i,j,hi,hj with
     | 0,0,_,_=>omega
end Go.DB
namespace Go.DB
open Go Go.RowKit
noncomputable def jR (l:List Int):List Int:=Lib.compact l
theorem zif {l:List Int}{x:Int}(h:x∈jR l):x∈l:=by
 unfold jR Lib.compact Lib.compactUpTo at h
 obtain⟨j,h1,rfl⟩:=List.mem_map.1 h
 have hj:j<l.length:=by simpa using(List.mem_filter.1 h1).1
 rw[getElem!_pos _ _ (by simpa using hj)]
 simp
theorem zie (l:List Int):(jR l).length≤l.length:=by
 unfold jR Lib.compact Lib.compactUpTo
 rw[List.length_map]
 exact Nat.le_trans (List.length_filter_le _ _) (by simp)
theorem zmH {P:Program}{ρ:Shelf.Ren}(Ly:Proofs.SlLaysN.n43 P ρ){f:Nat}(hf:ρ.f 43=f)(ok:yb P f){T:TypeId}{s:Value}{l:List Int}(hl:(l.length:Int)<4611686018427387904):
  yh P f [isV s] [(s,zk T l)] yj [none,some (zk T (jR l))]:=by
 refine⟨ok,fun M D w vs hM ha hO=>?_⟩
 match vs,ha with
 | [v],⟨hv,_⟩=>
  obtain⟨rfl,_⟩:=yJ.1 hv
  have h0:=hO.has 0 v (zk T l) rfl
  obtain⟨a,cap,rfl,h1,h2,h3⟩:=h0
  subst hf
  have hle:=zie l
  cases a with
  | none=>
   obtain⟨h4,h5,h6⟩:=h3
   subst h4
   have e0:jR []=[]:=List.length_eq_zero_iff.1 (by simpa using hle)
   refine Calls.mono (Proofs.AnyG.slices_Compact_int_empty Ly none cap w) ?_
   rintro e w' ⟨rfl,rfl⟩
   refine⟨_,M,fun _=>D 0,rfl,zM.refl _ _,fun k h=>.inl h,fun k h=>.inl h,hM,trivial,?_,?_⟩
   ·
    intro i c hc
    match i,hc with
    | 0,hc=>cases hc
    | 1,hc=>
     simp only[List.getElem?_cons_succ,List.getElem?_cons_zero,Option.some.injEq]at hc
     subst hc
     refine⟨⟨none,cap,by simp[e0],by simp[e0],h2,by simp[e0],h5,h6⟩,fun k hk=>absurd hk (h6 k)⟩
   ·
    intro i j c c' hi hj hne
    match i,j,hi,hj with
    | 0,_,hi,_=>cases hi
    | 1,0,_,hj=>cases hj
    | 1,1,_,_=>omega
  | some ad=>
   obtain⟨b,off,sp⟩:=ad
   obtain⟨hs,hD,hMb,pre,cs,rest,hh,hp,he,hr⟩:=h3
   simp only at hs hD hMb hh hp
   subst hs
   obtain⟨hcs,hin⟩:=(zap l cs).1 he
   have hcl:cs.length=l.length:=by rw[hcs];simp
   have hcell:∀j,w.cell? ⟨b,j,none⟩=(pre++cs++rest).toArray[j]?:=fun j=>hh.cell
   obtain⟨qz,hqz,hh⟩:=hh
   have hfz:∀j,j<(pre++cs++rest).length→w.frozen? ⟨b,j,none⟩=false:=fun j hj=>by simp[World.frozen?,hh];omega
   have hblk:b<w.heap.size:=hM b hMb
   refine Calls.mono (Proofs.AnyG.slices_Compact_int Ly b off cap l w (fun j hj=>⟨?_,hfz _ (by simp at hj⊢;omega)⟩) (by omega) (by omega)) ?_
   ·
    rw[hcell]
    have hj':j<l.length:=by simpa using hj
    simp only[List.getElem?_toArray]
    rw[List.append_assoc,List.getElem?_append_right (by omega),List.getElem?_append_left (by omega),hcs,List.getElem?_map,show off+j - pre.length=j by omega,List.getElem?_eq_getElem hj',Option.map_some]
    congr 2
    rw[getElem!_pos _ _ (by simpa using hj')]
    simp
   ·
    rintro e w' ⟨rfl,n,rfl⟩
    have hkeep:zM (DU D 1) w (Go.Sort.putRow (Value.int .i64) (Go.Sort.ahead w n) b off (Lib.compact l++List.replicate (l.length - (Lib.compact l).length) 0).toArray):=by
     refine⟨rfl,rfl,rfl,?_,fun k hk hn=>?_⟩
     ·
      simp[Go.Sort.putRow,Go.Sort.mapBlock,Go.Sort.ahead]
     ·
      have hne:b≠k:=fun e=>hn ⟨0,by omega,(hD k).2 e.symm⟩
      simp only[Go.Sort.putRow,Go.Sort.mapBlock,Go.Sort.ahead]
      rw[Array.getElem?_modify,if_neg hne]
    have hll:(Lib.compact l++List.replicate (l.length - (Lib.compact l).length) (0:Int)).length=l.length:=by
     have:(Lib.compact l).length≤l.length:=hle
     simp;omega
    have hhb:(Go.Sort.putRow (Value.int .i64) (Go.Sort.ahead w n) b off (Lib.compact l++List.replicate (l.length - (Lib.compact l).length) 0).toArray).heap[b]? =
      some (.cells (pre++(jR l).map (Value.int .i64)++((List.replicate (l.length - (Lib.compact l).length) (0:Int)).map (Value.int .i64)++rest)).toArray T qz):=by
     simp only[Go.Sort.putRow,Go.Sort.mapBlock,Go.Sort.ahead]
     rw[Array.getElem?_modify,if_pos rfl,hh,Option.map_some]
     simp only[Go.Sort.onCells]
     rw[zjU hp rfl (by rw[hcl,hll])]
     simp[jR,List.map_append,List.append_assoc]
    generalize hw:Go.Sort.putRow (Value.int .i64) (Go.Sort.ahead w n) b off (Lib.compact l++List.replicate (l.length - (Lib.compact l).length) 0).toArray=w' at hkeep hhb
    refine⟨_,M,fun _=>D 0,rfl,hkeep,fun k h=>.inl h,fun k h=>.inl h,fun k h=>Nat.lt_of_lt_of_le (hM k h) hkeep.size,trivial,?_,?_⟩
    ·
     intro i c hc
     match i,hc with
     | 0,hc=>cases hc
     | 1,hc=>
      simp only[List.getElem?_cons_succ,List.getElem?_cons_zero,Option.some.injEq]at hc
      subst hc
      refine⟨⟨some ⟨b,off,none⟩,cap,rfl,by omega,h2,rfl,hD,hMb,pre,_,_,⟨qz,hqz.imp id (fun h=>⟨h.1,by have:=h.2;simp[jR,hcl]at this hll⊢;omega⟩),hhb⟩,hp,(zap _ _).2 ⟨rfl,fun x hx=>hin x (zif hx)⟩,?_⟩,fun k hk=>.inl ⟨0,by simp,hk⟩⟩
      have hsz:Rep.sz Int=1:=rfl
      have:(Lib.compact l).length≤l.length:=hle
      rw[hsz]at hr⊢
      simp only[List.length_append,List.length_map,List.length_replicate]
      show(cap - (Lib.compact l).length)*1≤_
      omega
    ·
     intro i j c c' hi hj hne
     match i,j,hi,hj with
     | 0,_,hi,_=>cases hi
     | 1,0,_,hj=>cases hj
     | 1,1,_,_=>omega
end Go.DB
