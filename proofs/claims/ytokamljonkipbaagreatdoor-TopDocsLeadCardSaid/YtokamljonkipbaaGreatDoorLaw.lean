/- A part of the proof. -/
import Derived.Test.YtokamljonkipbaaGreatDoorTdlK3
import Derived.ProofKit
import Derived.Deep.Slices
set_option linter.unusedSimpArgs false
set_option linter.unusedVariables false
namespace Go.DB
open Go Go.RowKit Go.ChangeShapes Go.WideShapes
def ql (P:Program)(T:TypeId)(α:Type)[Rep α]:Prop:=
 ∀(H:Type) (enc:TypeId×Value→H) (W:World) (sp:Nat→Bool) (fuel:Nat) (cs:List Value) (x:DataW H×List MemPlace),
  DataW.trod enc P W 0 sp true fuel T cs=some x→∃y:α,Rep.cells NoM y cs W
theorem znF {n:Int}(h:(Lit.int .i64 n).wf=true):InI n:=by
 simp[Lit.wf,IntKind.min,IntKind.max,IntKind.signed,IntKind.bits]at h
 unfold InI;omega
theorem zts {P:Program}{T:TypeId}(hT:P.underlying T=some (.int .i64)):ql P T Int:=by
 intro H enc W sp fuel cs x h
 obtain⟨n,rfl,_,hw⟩:=DataW.trod_int hT h
 exact⟨n,rfl,znF hw⟩
theorem ztr {P:Program}{T:TypeId}(hT:P.underlying T=some .bool):ql P T Bool:=by
 intro H enc W sp fuel cs x h
 obtain⟨b,rfl,_⟩:=DataW.trod_bool hT h
 exact⟨b,rfl⟩
theorem zne (s:ByteArray):Value.string s=yE ⟨s.data.toList⟩:=by cases s;simp[yE]
theorem ztt {P:Program}{T:TypeId}(hT:P.underlying T=some .string):ql P T Str:=by
 intro H enc W sp fuel cs x h
 obtain⟨s,rfl,_,hs⟩:=DataW.trod_string hT h
 have hsz:(⟨s.data.toList⟩:Str).b.length=s.size:=Array.length_toList
 exact⟨⟨s.data.toList⟩,congrArg (fun v=>[v]) (zne s),by rw[hsz];exact hs⟩
theorem ziX {α:Type}{Q:Nat→α→Prop}:∀n,(∀i,i<n→∃x,Q i x)→∃l:List α,l.length=n∧∀i (h:i<l.length),Q i l[i]
 | 0,_=>⟨[],rfl,fun i h=>by simp at h⟩
 | n+1,h=>by
  obtain⟨l,hl,hq⟩:=ziX n (fun i hi=>h i (by omega))
  obtain⟨x,hx⟩:=h n (by omega)
  refine⟨l++[x],by simp[hl],fun i hi=>?_⟩
  by_cases hlt:i<l.length
  ·
   rw[List.getElem_append_left hlt];exact hq i hlt
  ·
   have:i=n:=by simp at hi;omega
   subst this
   rw[List.getElem_append_right (by omega)]
   simpa using hx
theorem zeO {P:Program}{T E:TypeId}{α:Type}[Rep α](hT:P.underlying T=some (.slice E))(hE:ql P E α)(hsz:P.cellsOf E=Rep.sz α):ql P T (List α):=by
 intro H enc W sp fuel cs x h
 rcases Deep.open_slice hT h with⟨rfl,_⟩ | ⟨a,len,cap,m,n,D,Pl,rfl,_,hlc,hcap,hm,_,hel⟩
 ·
  exact⟨[],none,0,rfl,by simp,by simp,rfl⟩
 ·
  have hlm:len≤m:=by rw[hm];split<;>omega
  obtain⟨l,hl,hq⟩:=ziX (Q:=fun i (y:α)=>∃cs',W.cells? 0 (a.add (i*P.cellsOf E)) (P.cellsOf E)=some cs'∧Rep.cells NoM y cs' W) len (fun i hi=>by
   obtain⟨cs',h1,h2⟩:=hel i (by omega)
   obtain⟨y,hy⟩:=hE H enc W sp n cs' _ h2
   exact⟨y,cs',h1,hy⟩)
  refine⟨l,some a,cap,by rw[hl],by omega,by unfold maxLen at hcap;omega,fun i hi=>?_⟩
  obtain⟨cs',h1,h2⟩:=hq i hi
  obtain⟨_,hlen,hc⟩:=World.cells?_some h1
  rw[hsz]at h1 hc hlen
  have hpos:=Rep.pos (α:=α)
  have hadd:∀j,(a.add (i*Rep.sz α)).add j=a.add (i*Rep.sz α+j):=fun j=>Deep.add_add a _ j
  obtain⟨c0,hc0⟩:∃c,W.cell? ((a.add (i*Rep.sz α)).add 0)=some c:=by
   rw[hc 0 hpos]
   exact⟨cs'[0]'(by omega),List.getElem?_eq_getElem (by omega)⟩
  have hsp:a.spot=none:=by
   rw[hadd]at hc0
   by_cases hz:i*Rep.sz α+0=0
   ·
    rw[hz]at hc0
    have:=World.cell?_spot hc0
    simpa [Addr.add]using this
   ·
    -- another element's place would do; the first one's
    obtain⟨cs0,g1,_⟩:=hel 0 (by omega)
    obtain⟨_,glen,gc⟩:=World.cells?_some g1
    rw[hsz]at gc glen
    have g0:=gc 0 hpos
    rw[Nat.zero_mul]at g0
    have:W.cell? (a.add 0)=some (cs0[0]'(by omega)):=by
     have e:(a.add 0).add 0=a.add 0:=by simp[Addr.add]
     rw[e]at g0;rw[g0,List.getElem?_eq_getElem (by omega)]
    have:=World.cell?_spot this
    simpa [Addr.add]using this
  obtain⟨b,off,s⟩:=a
  simp only at hsp
  subst hsp
  have hb:b<W.heap.size:=by
   rw[qF,qF]at hc0
   unfold World.cell? at hc0
   rcases Nat.lt_or_ge b W.heap.size with h' | h'
   ·
    exact h'
   ·
    simp[Array.getElem?_eq_none h']at hc0
  refine⟨rfl,fun f=>f,hb,cs',h2,fun j hj=>?_⟩
  have:=hc j hj
  rwa [qF,qF]at this
inductive FR (P:Program):List Field→Nat→(α:Type)→Rep α→Prop
 | one {f:Field} {off:Nat} {α:Type} [r:Rep α]:f.offset=off→P.cellsOf f.type=Rep.sz α→ql P f.type α→FR P [f] off α r
 | cons {f:Field} {fs:List Field} {off:Nat} {α β:Type} [r:Rep α] [s:Rep β]:f.offset=off→P.cellsOf f.type=Rep.sz α→ql P f.type α→FR P fs (off+Rep.sz α) β s→FR P (f::fs) off (α×β) inferInstance
theorem FR.reads {P:Program}{fs:List Field}{off:Nat}{α:Type}{r:Rep α}(h:FR P fs off α r){H:Type}{enc:TypeId×Value→H}{W:World}{sp:Nat→Bool}{n:Nat}{cs:List Value}
  (hl:cs.length=off+Rep.sz α) (hf:∀f∈fs,∃x,DataW.trod enc P W 0 sp true n f.type ((cs.drop f.offset).take (P.cellsOf f.type))=some x):∃y:α,Rep.cells NoM y (cs.drop off) W:=by
 induction h with
 | @one f off α r h1 h2 h3=>
  obtain⟨x,hx⟩:=hf f List.mem_cons_self
  obtain⟨y,hy⟩:=h3 H enc W sp n _ x hx
  refine⟨y,?_⟩
  rw[h1,h2,List.take_of_length_le (by rw[List.length_drop];omega)]at hy
  exact hy
 | @cons f fs off α β r s h1 h2 h3 _ ih=>
  obtain⟨x,hx⟩:=hf f List.mem_cons_self
  obtain⟨y,hy⟩:=h3 H enc W sp n _ x hx
  have hl':cs.length=off+Rep.sz α+Rep.sz β:=by rw[hl];show off+(Rep.sz α+Rep.sz β)=_;omega
  obtain⟨z,hz⟩:=ih hl' (fun g hg=>hf g (List.mem_cons_of_mem _ hg))
  rw[h1,h2]at hy
  refine⟨(y,z),_,_,?_,hy,hz⟩
  rw[←List.drop_drop,List.take_append_drop]
theorem J0 {P:Program}{T:TypeId}{fs:Array Field}{α β:Type}[r:Rep β]{f:α→β}(hT:P.underlying T=some (.struct fs))(hfr:FR P fs.toList 0 β r)(hsz:P.cellsOf T=Rep.sz β)
  (hsur:∀b,∃a,f a=b):@ql P T α (Rep.via f):=by
 intro H enc W sp fuel cs x h
 obtain⟨xs,n,_,_,hl,hlx,hel⟩:=DataW.trod_struct hT h
 obtain⟨y,hy⟩:=hfr.reads (cs:=cs) (by rw[hl,hsz];omega) (fun g hg=>by
  obtain⟨i,hi,rfl⟩:=List.mem_iff_getElem.1 hg
  have hi':i<fs.size:=by simpa using hi
  have:=hel i fs[i] (Array.getElem?_eq_getElem hi')
  rw[List.getElem?_eq_getElem (by omega)]at this
  exact⟨_,by simpa using this⟩)
 obtain⟨a,rfl⟩:=hsur y
 exact⟨a,hy⟩
def qW (P:Program)(T:TypeId)(α:Type)[Rep α]:Prop:=
 ∀(H:Type) (enc:TypeId×Value→H) (W:World) (base:Nat) (v:Value) (d:DataW H) (p:List MemPlace),Value.okWide P W .any base T v→DataW.Trod enc P W 0 (fun _=>true) true T v d p→∃y:α,(rep y).p NoM v W
theorem zoE {P:Program}{T:TypeId}(hT:P.underlying T=some (.int .i64)):qW P T Int:=by
 intro H enc W base v d p hv h
 obtain⟨n,rfl,_,_,hw⟩:=open_int hT hv h
 exact⟨n,yz.2 ⟨rfl,znF hw⟩⟩
theorem zoF {P:Program}{T:TypeId}(hT:P.underlying T=some .string):qW P T Str:=by
 intro H enc W base v d p hv h
 obtain⟨s,rfl⟩:=okWide_string hT hv
 obtain⟨fuel,h⟩:=h
 obtain⟨s',h1,_,hs⟩:=DataW.trod_string hT h
 have hsz:(⟨s'.data.toList⟩:Str).b.length=s'.size:=Array.length_toList
 have h2:Value.string s=Value.string s':=by simpa [Value.cells]using h1
 rw[h2]
 exact⟨⟨s'.data.toList⟩,yC.2 ⟨zne s',by rw[hsz];exact hs⟩⟩
theorem zoD {P:Program}{T:TypeId}(hT:P.underlying T=some .bool):qW P T Bool:=by
 intro H enc W base v d p hv h
 obtain⟨n,rfl,_,_⟩:=open_bool hT hv h
 exact⟨n,yS.2 rfl⟩
theorem zde {P:Program}{T E:TypeId}{α:Type}[Rep α](hT:P.underlying T=some (.slice E))(hR:ql P T (List α)):qW P T (List α):=by
 intro H enc W base v d p hv ⟨fuel,h⟩
 obtain⟨a,len,cap,rfl⟩:=okWide_slice hT hv
 obtain⟨y,hy⟩:=hR H enc W _ fuel _ _ h
 exact⟨y,_,hy,rfl⟩
theorem Js {P:Program}{T:TypeId}{fs:Array Field}{α:Type}[r:Rep α](hT:P.underlying T=some (.struct fs))(hR:ql P T α)(hagg:Rep.agg α=true):qW P T α:=by
 intro H enc W base v d p hv ⟨fuel,h⟩
 obtain⟨cs,rfl,_⟩:=okWide_struct hT hv
 obtain⟨y,hy⟩:=hR H enc W _ fuel _ _ h
 exact⟨y,_,hy,by rw[hagg];rfl⟩
theorem zr8 {Z:∀H:Type,List (DataW H)→Prop}{P:Program}{f:Nat}{fn:Func}{s:ChangeSpec}{B:TypeId}(hvars:s.vars=[])(hres:fn.resultTypes=#[B])(hB:P.underlying B=some .bool)
  (hl:laidOutB P=true) (hr:∀t∈fn.params.toList,P.readableRec t=true∧t<P.types.size)
  (hfn:∀(H:Type) (ds:List (DataW H)),ds.length=fn.params.size→s.fn H ds = { results:=[.lit (.bool true)],args:=ds })
  (hcalls:∀(H:Type) (enc:TypeId×Value→H) (W:World) (base:Nat) (args:Array Value) (ds:List (DataW H)) (ps:List MemPlace),Low NoM W→
   (∀(j:Nat) t v,fn.params[j]?=some t→args[j]?=some v→Value.okWide P W .any base t v)→
   DataW.TrodAll enc P W 0 (fun _=>true) true fn.params.toList args.toList ds ps→Z H ds→Jn P f args.toList NoM W (rep true)):
  ∀(H:Type) (enc:TypeId×Value→H) (W:World) (base:Nat) (args:Array Value) (ds gs:List (DataW H)) (before:List MemPlace),Low NoM W→
   (∀(j:Nat) t v,fn.params[j]?=some t→args[j]?=some v→Value.okWide P W .any base t v)→
   DataW.Whole enc P fn.params.toList s.vars false W args.toList ds gs before→Z H ds→
   Calls P f args W fun e W'=>∃v,e = .returned v∧s.post enc P fn false true false false W args v W':=by
 intro H enc W base args ds gs before hlow hval hW hz
 have hW':=hW
 obtain⟨p,q,hA,hV,hpq,_,_⟩:=hW
 rw[hvars]at hV
 obtain⟨rfl,rfl⟩:=trodVars_none hV
 have hg:=hcalls H enc W base args ds p hlow hval hA hz
 unfold Jn at hg
 rw[show args.toList.toArray=args by simp]at hg
 refine hg.mono fun e W' ⟨hx,v,he,hv⟩=>?_
 subst he
 obtain rfl:=yS.1 hv
 have hb:Below W.heap.size W W':=hx.below (Nat.le_refl _)
 have hlen:∀(ts:List TypeId) (vs:List Value) (ds:List (DataW H)) (ps:List MemPlace),DataW.TrodAll enc P W 0 (fun _=>true) true ts vs ds ps→ds.length=ts.length:=by
  intro ts
  induction ts with
  | nil=>intro vs ds ps h;obtain⟨_,rfl,_⟩:=trodAll_nil h;rfl
  | cons t ts ih=>
   intro vs ds ps h
   obtain⟨_,_,_,_,_,_,_,rfl,_,_,hr⟩:=trodAll_cons h
   simp[ih _ _ _ hr]
 have hlt:∀x∈p,x.block<W.heap.size:=fun x hx=>hW'.lt x (by rw[hpq];exact List.mem_append_left _ hx)
 have hargs:∀(ts:List TypeId) (vs:List Value) (ds:List (DataW H)) (ps:List MemPlace),(∀t∈ts,P.readableRec t=true∧t<P.types.size)→(∀x∈ps,x.block<W.heap.size)→DataW.TrodAll enc P W 0 (fun _=>true) true ts vs ds ps→
   DataW.TrodAll enc P W' 0 (fun b=>decide (b<W.heap.size)) true ts vs ds ps:=by
  intro ts
  induction ts with
  | nil=>intro vs ds ps _ _ h;obtain⟨rfl,rfl,rfl⟩:=trodAll_nil h;exact trodAll_mk0
  | cons t ts ih=>
   intro vs ds ps hr hlt h
   obtain⟨_,_,_,_,p1,q1,rfl,rfl,rfl,h0,h1⟩:=trodAll_cons h
   obtain⟨hr1,hr2⟩:=hr t List.mem_cons_self
   exact⟨p1,q1,Below.trod hl hr1 hr2 h0 hb (fun x hx=>hlt x (List.mem_append_left _ hx)),ih _ _ _ (fun t ht=>hr t (List.mem_cons_of_mem _ ht)) (fun x hx=>hlt x (List.mem_append_right _ hx)) h1,rfl⟩
 have hs:=hfn H ds (by rw[hlen _ _ _ _ hA];simp)
 refine⟨_,rfl,ds,[],_,[],p,[],hW',?_,?_,?_,hb.frame _,fun h=>by cases h⟩
 ·
  rw[List.append_nil,hs,hres]
  exact trodAll_mk1 (shut_bool hB true)
 ·
  rw[List.append_nil,hs]
  exact hargs _ _ _ _ hr hlt hA
 ·
  rw[List.append_nil,hs,hvars];rfl
theorem zr7 {P:Program}{f:Nat}{fn:Func}{s:ChangeSpec}{B:TypeId}(hvars:s.vars=[])(hres:fn.resultTypes=#[B])(hB:P.underlying B=some .bool)
  (hl:laidOutB P=true) (hr:∀t∈fn.params.toList,P.readableRec t=true∧t<P.types.size)
  (hfn:∀(H:Type) (ds:List (DataW H)),ds.length=fn.params.size→s.fn H ds = { results:=[.lit (.bool true)],args:=ds })
  (hcalls:∀(H:Type) (enc:TypeId×Value→H) (W:World) (base:Nat) (args:Array Value) (ds:List (DataW H)) (ps:List MemPlace),Low NoM W→
   (∀(j:Nat) t v,fn.params[j]?=some t→args[j]?=some v→Value.okWide P W .any base t v)→
   DataW.TrodAll enc P W 0 (fun _=>true) true fn.params.toList args.toList ds ps→Jn P f args.toList NoM W (rep true)):
  ∀(H:Type) (enc:TypeId×Value→H) (W:World) (base:Nat) (args:Array Value) (ds gs:List (DataW H)) (before:List MemPlace),Low NoM W→
   (∀(j:Nat) t v,fn.params[j]?=some t→args[j]?=some v→Value.okWide P W .any base t v)→
   DataW.Whole enc P fn.params.toList s.vars false W args.toList ds gs before→
   Calls P f args W fun e W'=>∃v,e = .returned v∧s.post enc P fn false true false false W args v W':=
 fun H enc W base args ds gs before hlow hval hW=>zr8 (Z:=fun _ _=>True) hvars hres hB hl hr hfn (fun H enc W base args ds ps hlow hval hA _=>hcalls H enc W base args ds ps hlow hval hA) H enc W base args ds gs before hlow hval hW trivial
end Go.DB
