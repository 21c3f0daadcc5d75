/- A part of the proof. -/
import Derived.Test.YtenpeohfmbilaaaGreatDoorDatG1
import Derived.Test.YtenpeohfmbilaaaGreatDoorDatK3
import Derived.Lib.TrimAscii
set_option linter.unusedSimpArgs false
set_option linter.unusedVariables false
namespace Go.DB
open Go Go.RowKit
section
theorem zkS:∀a b:List UInt8,a<b↔zQ a b<0
 | [],[]=>by simp[zQ]
 | [],b::m=>by simp[zQ]
 | a::l,[]=>by simp[zQ]
 | a::l,b::m=>by
  rw[List.cons_lt_cons_iff,zkS l m]
  show _↔(if a.toNat<b.toNat then(-1:Int)else if b.toNat<a.toNat then 1 else zQ l m)<0
  have h1:a<b↔a.toNat<b.toNat:=Iff.rfl
  have h2:a=b↔a.toNat=b.toNat:=⟨fun e=>by rw[e],fun e=>UInt8.toNat_inj.1 e⟩
  rw[h1,h2]
  by_cases c1:a.toNat<b.toNat
  ·
   rw[if_pos c1];simp[c1]
  ·
   rw[if_neg c1]
   by_cases c2:b.toNat<a.toNat
   ·
    rw[if_pos c2]
    constructor
    ·
     rintro(h | ⟨h,_⟩)
     ·
      exact absurd h c1
     ·
      omega
    ·
     intro h;omega
   ·
    rw[if_neg c2]
    have:a.toNat=b.toNat:=by omega
    simp[this]
theorem zq8 {a b:List UInt8}(h:Go.leB a b=true)(hne:a≠b):zQ a b<0:=by
 have h':a≤b:=of_decide_eq_true h
 have h2:¬b<a:=by
  rw[←List.not_lt]at h'
  exact h'
 rw[zkS]at h2
 have:=jI a b
 have h0:zQ a b≠0:=fun e=>hne (zat e)
 omega
section
variable {V:Type}
theorem zew {m:GMap Str V}{l:List (Str×V)}(h:zD m l):(ql m).Perm (l.map (·.1)):=by
 rw[zg9 h]
 have:=(List.mergeSort_perm (l.map fun x=>x.1.b) Go.leB).map Str.mk
 rw[List.map_map]at this
 exact this
theorem zex {m:GMap Str V}{l:List (Str×V)}(h:zD m l):(ql m).Pairwise (fun a b=>zQ a.b b.b<0):=by
 have hnd:(ql m).Nodup:=(zew h).nodup_iff.2 h.nodup
 rw[zg9 h]at hnd⊢
 rw[List.pairwise_map]
 have tr:∀a b c:List UInt8,Go.leB a b=true→Go.leB b c=true→Go.leB a c=true:=fun a b c h1 h2=>by simp only[Go.leB,decide_eq_true_eq]at *;exact List.le_trans h1 h2
 have tt:∀a b:List UInt8,(Go.leB a b || Go.leB b a)=true:=fun a b=>by simp only[Go.leB,Bool.or_eq_true,decide_eq_true_eq];exact List.le_total a b
 have hp:=List.pairwise_mergeSort tr tt (l.map fun x=>x.1.b)
 rw[List.nodup_iff_pairwise_ne,List.pairwise_map]at hnd
 exact(hp.and hnd).imp fun⟨a,b⟩=>zq8 a (fun e=>b (congrArg Str.mk e))
theorem zcq {m:GMap Str V}{l:List (Str×V)}(h:zD m l){k:Str}:k∈ql m↔m.has k=true:=by
 rw[(zew h).mem_iff,List.mem_map]
 unfold GMap.has
 constructor
 ·
  rintro⟨x,hx,rfl⟩
  rw[(h.mem x.1 x.2).1 hx];rfl
 ·
  intro hk
  cases e:m.f k with
  | none=>rw[e]at hk;cases hk
  | some v=>exact⟨(k,v),(h.mem k v).2 e,rfl⟩
theorem zev {m:GMap Str V}{l:List (Str×V)}(h:zD m l):(ql m).length=l.length:=by rw[(zew h).length_eq,List.length_map]
theorem zha {W:Type}{m:GMap Str V}{l:List (Str×V)}(h:zD m l)(z:V)(f:Str→V→W):((ql m).map fun k=>f k (m.getD k z)).Perm (l.map fun x=>f x.1 x.2):=by
 have h1:=(zew h).map fun k=>f k (m.getD k z)
 rw[List.map_map]at h1
 have e:l.map ((fun k=>f k (m.getD k z))∘(·.1))=l.map fun x=>f x.1 x.2:=List.map_congr_left fun x hx=>by
  have:=(h.mem x.1 x.2).1 hx
  simp only[Function.comp,GMap.getD,this,Option.getD_some]
 rw[e]at h1
 exact h1
end
noncomputable def jo (e:GMap Str Str):List zU:=(ql e).map fun f=>⟨f,e.getD f Str.nil⟩
noncomputable def jX (m:GMap Str (GMap Str Str)):List zv:=(ql m).map fun k=>⟨k,jo (m.getD k GMap.nil)⟩
theorem zn9 {e:GMap Str Str}{l:List (Str×Str)}(h:zD e l)(hn:l.length≤4611686018427387903):zfM (l.map fun x=>⟨x.1,x.2⟩)=some (jo e):=by
 unfold zfM
 rw[zl ⟨by rw[List.length_map];omega,fun _ _=>trivial⟩]
 congr 1
 have hO:Sort.SWO (Proofs.ltOf Qp):=by
  have h:∀x y:{ x:zU // zad x },Proofs.ltOf Qp x y=decide (zQ x.1.Field.b y.1.Field.b<0):=fun x y=>rfl
  constructor
  ·
   intro x;rw[h,Jv];rfl
  ·
   intro x y z h1 h2
   rw[h]at *
   simp only[decide_eq_true_eq]at *
   exact(Q7 (by omega) (by omega)).2 (.inl h1)
  ·
   intro x y z h1 h2
   rw[h]at *
   simp only[decide_eq_false_iff_not,Int.not_lt]at *
   have e1:=jI x.1.Field.b y.1.Field.b
   have e2:=jI y.1.Field.b z.1.Field.b
   have e3:=jI x.1.Field.b z.1.Field.b
   have:=(Q7 (a:=z.1.Field.b) (b:=y.1.Field.b) (c:=x.1.Field.b) (by omega) (by omega)).1
   omega
 obtain⟨p1,p2⟩:=zfS (l:=l.map fun x=>(⟨x.1,x.2⟩:zU)) (Q:=zad) (cf:=Qp) hO (fun _ _=>trivial)
 have hs:(jo e).Pairwise (Qw fun x:zU=>x.Field):=by
  unfold jo
  rw[List.pairwise_map]
  exact(zex h).imp fun h=>h
 have hp:(jo e).Perm (l.map fun x=>(⟨x.1,x.2⟩:zU)):=zha h Str.nil fun k v=>(⟨k,v⟩:zU)
 refine zfU (Qw fun x:zU=>x.Field) (zkA _) (p1.trans hp.symm) ?_ hs
 rw[List.pairwise_iff_getElem]
 intro i j hi hj hij
 have hlt:=p2 i j hij hj trivial trivial
 have hne:(qm Qp (l.map fun x=>(⟨x.1,x.2⟩:zU)))[i].Field≠(qm Qp (l.map fun x=>(⟨x.1,x.2⟩:zU)))[j].Field:=fun e=>by
  have hnd:((qm Qp (l.map fun x=>(⟨x.1,x.2⟩:zU))).map (·.Field)).Nodup:=by
   refine(p1.map _).nodup_iff.2 ?_
   rw[List.map_map]
   exact h.nodup
  rw[List.nodup_iff_pairwise_ne,List.pairwise_iff_getElem]at hnd
  have:=hnd i j (by rw[List.length_map];exact hi) (by rw[List.length_map];exact hj) hij
  rw[List.getElem_map,List.getElem_map]at this
  exact this e
 generalize (qm Qp (l.map fun x=>(⟨x.1,x.2⟩:zU)))[i]=a at *
 generalize (qm Qp (l.map fun x=>(⟨x.1,x.2⟩:zU)))[j]=b at *
 have hlt':¬zQ b.Field.b a.Field.b<0:=hlt
 show zQ a.Field.b b.Field.b<0
 have hsw:=jI a.Field.b b.Field.b
 have h0:zQ a.Field.b b.Field.b≠0:=fun e=>hne (ztv (zat e))
 omega
theorem zhg {K V τ σ:Type}{step:K→V→σ→Option σ}(mk:List τ→σ)(g:K×V→τ)(N:Nat):∀(l:List (K×V)) (s:List τ),s.length+l.length≤N→(∀x∈l,∀s:List τ,s.length<N→step x.1 x.2 (mk s)=some (mk (s++[g x])))→jh step l (mk s)=some (mk (s++l.map g))
 | [],s,_,_=>by simp[jh]
 | x::l,s,hN,h=>by
  simp only[List.length_cons]at hN
  simp only[jh,h x (by simp) s (by omega),Option.bind_some]
  rw[zhg mk g N l (s++[g x]) (by simp only[List.length_append,List.length_singleton];omega) (fun y hy=>h y (by simp[hy]))]
  simp
def Small (m:GMap Str (GMap Str Str))(N:Nat):Prop:=(∃l,zD m l∧l.length≤N)∧∀k e,m.f k=some e→∃l,zD e l∧l.length≤N
theorem zq9 {e:GMap Str Str}{l0:List (Str×Str)}(h:zD e l0)(hn:l0.length≤2199023255551)(k:Str){s:List zv}(hs:s.length≤2199023255551):zdU k e s=some (s++[⟨k,jo e⟩]):=by
 unfold zdU
 refine zk4 h fun l hl=>?_
 have hll:l.length=l0.length:=(hl.perm h).length_eq
 refine⟨_,zhg (fun s=>(⟨k,s⟩:zv)) (fun x=>(⟨x.1,x.2⟩:zU)) 2199023255551 l [] (by simp;omega) (fun x _ s hs=>?_),?_⟩
 ·
  unfold zgB
  rw[zl (by show _≤2199023255552;simp only[List.length_singleton];omega)]
 ·
  simp only[List.nil_append]
  rw[zn9 hl (by omega),Option.bind_some,zl (by show _≤2199023255552;simp only[List.length_singleton];omega)]
theorem zm8 {m:GMap Str (GMap Str Str)}{l:List (Str×GMap Str Str)}(h:zD m l):(jX m).Pairwise (Qw fun x:zv=>x.Id):=by
 unfold jX
 rw[List.pairwise_map]
 exact(zex h).imp fun h=>h
theorem zra {m:GMap Str (GMap Str Str)}(hm:Small m 2199023255551):zb4 m=some (jX m):=by
 obtain⟨⟨l0,h0,hn⟩,hin⟩:=hm
 unfold zb4
 refine zk4 h0 fun l hl=>?_
 have hll:l.length=l0.length:=(hl.perm h0).length_eq
 refine⟨_,zhg (fun s:List zv=>s) (fun x=>(⟨x.1,jo x.2⟩:zv)) 2199023255551 l [] (by simp;omega) (fun x hx s hs=>?_),?_⟩
 ·
  obtain⟨le,hle,hne⟩:=hin x.1 x.2 ((hl.mem x.1 x.2).1 hx)
  exact zq9 hle (by omega) x.1 (by omega)
 ·
  simp only[List.nil_append]
  unfold zhV
  rw[zl ⟨by rw[List.length_map];omega,by rw[List.map_map];exact hl.nodup⟩,Option.bind_some]
  congr 1
  exact znj (zha hl GMap.nil fun k e=>(⟨k,jo e⟩:zv)) (zm8 hl)
theorem zoa {m:GMap Str (GMap Str Str)}(hm:Small m 2199023255551):zcZ m=some (jX m):=by
 obtain⟨⟨l0,h0,hn⟩,hin⟩:=hm
 have hk:=zev h0
 have hsz:=h0.size
 unfold zcZ
 rw[zl ⟨by omega,l0,h0⟩,zw]
 rw[zl5 2199023255552 (by omega) (l:=ql m) (fun k=>[(⟨k,jo (m.getD k GMap.nil)⟩:zv)]) [] (fun a _=>by simp) (by simp;omega) (fun i s hi hs=>by
  unfold zhz
  rw[zl hi,zw]
  have hmem:=jy hi
  rw[zcq h0]at hmem
  generalize gx (ql m) i=k at *
  obtain⟨e,he⟩:∃e,m.f k=some e:=by
   unfold GMap.has at hmem
   cases q:m.f k with
   | none=>rw[q]at hmem;cases hmem
   | some e=>exact⟨e,rfl⟩
  obtain⟨le,hle,hne⟩:=hin k e he
  have hg:m.getD k (GMap.nil:GMap Str Str)=e:=by unfold GMap.getD;rw[he];rfl
  have hse:=hle.size
  have hke:=zev hle
  rw[hg,zl ⟨by omega,le,hle⟩,zw]
  obtain⟨s1,e1,e2⟩:=vB (n:=((ql e).length:Int)) (step:=zfm m (ql e) k) (s0:=(⟨k,([]:List zU)⟩:zv)) (fun t s=>s=⟨k,((ql e).take t).map fun f=>⟨f,e.getD f Str.nil⟩⟩) (by omega) rfl (fun j s hj hI=>by
   subst hI
   have hj':j<(ql e).length:=by omega
   unfold zfm
   simp only
   rw[zl ⟨by omega,by omega⟩,zw,zP hj',hg,zl (by show _≤2199023255552;simp only[List.length_map,List.length_take,List.length_singleton];omega)]
   refine⟨_,rfl,?_⟩
   rw[List.take_succ_eq_append_getElem hj',List.map_append];rfl)
  rw[e1,e2,Option.bind_some,show((ql e).length:Int).toNat=(ql e).length by omega,List.take_length,zl (by show _≤2199023255552;simp only[List.length_singleton];omega)]
  rfl),Option.bind_some,←List.map_eq_flatMap]
 rfl
end
theorem zkN {K V:Type}[DecidableEq K]{m:GMap K V}{l:List (K×V)}(h:zD m l)(k:K)(v:V):∃l',zD (m.set k v) l'∧l'.length≤l.length+1:=by
 by_cases hx:∃x∈l,x.1=k
 ·
  obtain⟨x,hx,rfl⟩:=hx
  obtain⟨j,hj⟩:=List.getElem?_of_mem hx
  exact⟨_,h.put hj,by rw[List.length_set];omega⟩
 ·
  exact⟨_,h.push (fun x hx' e=>hx ⟨x,hx',e⟩),by simp⟩
theorem zrb {K V:Type}[DecidableEq K]{m:GMap K V}{l:List (K×V)}(h:zD m l)(k:K):∃l',zD (m.del k) l'∧l'.length≤l.length:=by
 by_cases hx:∃x∈l,x.1=k
 ·
  obtain⟨x,hx,rfl⟩:=hx
  obtain⟨j,hj⟩:=List.getElem?_of_mem hx
  exact⟨_,h.drop hj,by have:=List.length_eraseIdx_le l j;omega⟩
 ·
  have hn:=h.fst_ne (k:=k) (fun x hx' e=>hx ⟨x,hx',e⟩)
  refine⟨l,?_,Nat.le_refl _⟩
  have:m.del k=m:=by
   cases m with
   | mk f=>
    unfold GMap.del
    congr 1
    funext x
    by_cases e:x=k
    ·
     rw[if_pos e,e];exact hn.symm
    ·
     rw[if_neg e]
  rw[this];exact h
theorem zfF {K V:Type}[DecidableEq K]{m:GMap K V}{k:K}{v:V}:(m.set k v).has k=true:=by unfold GMap.has GMap.set;simp
theorem zfE {K V:Type}[DecidableEq K]{m:GMap K V}{k:K}{v z:V}:(m.set k v).getD k z=v:=by unfold GMap.getD GMap.set;simp
theorem zhI {K V:Type}[DecidableEq K]{m:GMap K V}{k:K}{v u:V}:(m.set k v).set k u=m.set k u:=by
 unfold GMap.set
 congr 1
 funext x
 by_cases e:x=k<;>simp[e]
theorem zj3 {K V:Type}{m:GMap K V}{k:K}{z:V}(h:m.has k=false):m.getD k z=z:=by
 unfold GMap.has at h
 unfold GMap.getD
 cases q:m.f k with
 | none=>rfl
 | some v=>rw[q]at h;cases h
theorem znQ (s:List zU)(hl:(s.length:Int)≤9223372036854775807):zdf s s=some true:=by
 unfold zdf
 simp only[decide_true,Bool.not_true,cond_false]
 rw[zhE rfl hl (fun i hi=>by
  unfold zhO
  rw[zl ⟨by omega,by omega⟩,zl ⟨by omega,by omega⟩,zP hi]
  simp)]
 simp
theorem zn6 {s:List zv}(hl:(s.length:Int)≤9223372036854775807)(ha:∀x∈s,(x.Attrs.length:Int)≤9223372036854775807):zbh s s=some true:=by
 unfold zbh zfL
 simp only[decide_true,Bool.not_true,cond_false]
 rw[zhC (fun _=>false) (Res.ab false) hl (fun i hi=>by
  unfold zhN
  have hs:zbi (gx s i) (gx s i)=some true:=by
   unfold zbi
   rw[znQ _ (ha _ (jy hi))]
   simp
  rw[zl hi,zw,zl hi,zw,hs];rfl)]
 simp
theorem zus {e:Int}(he:e≠0)(r:Option (List zv)):JT [] e e r=some true:=by
 unfold JT
 rw[decide_eq_false he];simp
def qd (l:List zU):GMap Str Str:=l.foldl (fun e a=>e.set a.Field a.Value) GMap.nil
def YU (l:List zv):GMap Str (GMap Str Str):=l.foldl (fun m t=>m.set t.Id (qd t.Attrs)) GMap.nil
theorem zcs {V A:Type}(kf:A→Str)(vf:A→V):∀(l:List A) (m:GMap Str V) (l0:List (Str×V)),zD m l0→((l0.map (·.1))++l.map kf).Nodup→zD (l.foldl (fun m x=>m.set (kf x) (vf x)) m) (l0++l.map fun x=>(kf x,vf x))
 | [],m,l0,h,_=>by simpa using h
 | x::l,m,l0,h,hn=>by
  rw[List.foldl_cons,List.map_cons]
  have hnx:∀y∈l0,y.1≠kf x:=fun y hy e=>by
   rw[List.nodup_append]at hn
   exact hn.2.2 y.1 (List.mem_map.2 ⟨y,hy,rfl⟩) (kf x) (by simp) e
  have:=zcs kf vf l _ _ (h.push hnx (v:=vf x)) (by simpa [List.map_append,List.append_assoc]using hn)
  simpa [List.append_assoc]using this
theorem zlc {A:Type}(kf:A→Str){l:List A}(h:l.Pairwise (fun a b=>zQ (kf a).b (kf b).b<0)):(l.map kf).Nodup:=by
 rw[List.nodup_iff_pairwise_ne,List.pairwise_map]
 exact h.imp fun {a b} hlt e=>by rw[e,Jv]at hlt;omega
theorem zix {l:List zU}(h:l.Pairwise (fun a b=>zQ a.Field.b b.Field.b<0)):zD (qd l) (l.map fun a=>(a.Field,a.Value)):=by
 have:=zcs (fun a:zU=>a.Field) (fun a=>a.Value) l GMap.nil [] zD.nil (by simpa using zlc (fun a:zU=>a.Field) h)
 rw[List.nil_append]at this
 exact this
theorem zrn {l:List zv}(h:l.Pairwise (fun a b=>zQ a.Id.b b.Id.b<0)):zD (YU l) (l.map fun a=>(a.Id,qd a.Attrs)):=by
 have:=zcs (fun a:zv=>a.Id) (fun a=>qd a.Attrs) l GMap.nil [] zD.nil (by simpa using zlc (fun a:zv=>a.Id) h)
 rw[List.nil_append]at this
 exact this
theorem zrm {l:List zv}(h:j4 l){t:zv}(ht:t∈l):(YU l).f t.Id=some (qd t.Attrs):=((zrn h.ids).mem t.Id _).1 (List.mem_map.2 ⟨t,ht,rfl⟩)
theorem zur {l:List zv}(h:j4 l):zb3 l=some (YU l):=by
 have hl:=h.len
 unfold zb3
 rw[zw]
 obtain⟨m,e1,e2⟩:=vB (n:=(l.length:Int)) (step:=zdS l) (s0:=(GMap.nil:GMap Str (GMap Str Str))) (fun t s=>s=(l.take t).foldl (fun m t=>m.set t.Id (qd t.Attrs)) GMap.nil) (by omega) rfl (fun i s hi hI=>by
  have hi':i<l.length:=by omega
  have ha:=(h.some _ (List.getElem_mem hi')).2
  unfold zdS
  rw[zl ⟨by omega,by omega⟩,zw,zw,zP hi']
  obtain⟨m,e1,e2⟩:=vB (n:=(l[i].Attrs.length:Int)) (step:=zdT l[i]) (s0:=s.set l[i].Id (GMap.nil:GMap Str Str)) (fun t s'=>s'=s.set l[i].Id (qd (l[i].Attrs.take t))) (by omega) rfl (fun j s' hj hJ=>by
   have hj':j<l[i].Attrs.length:=by omega
   subst hJ
   unfold zdT
   rw[zl ⟨by omega,by omega⟩,zw,zl zfF,zfE,zhI,zP hj']
   refine⟨_,rfl,?_⟩
   rw[List.take_succ_eq_append_getElem hj']
   unfold qd
   rw[List.foldl_append];rfl)
  rw[e1,e2]
  refine⟨_,rfl,?_⟩
  rw[show(l[i].Attrs.length:Int).toNat=l[i].Attrs.length by omega,List.take_length,List.take_succ_eq_append_getElem hi',List.foldl_append,←hI];rfl)
 rw[e1,e2,show(l.length:Int).toNat=l.length by omega,List.take_length];rfl
theorem znV {l:List zv}(h:j4 l):zcP l=some (YU l):=by
 have hl:=h.len
 unfold zcP
 rw[zw]
 obtain⟨m,e1,e2⟩:=vB (n:=(l.length:Int)) (step:=zfh l) (s0:=(GMap.nil:GMap Str (GMap Str Str))) (fun t s=>s=(l.take t).foldl (fun m t=>m.set t.Id (qd t.Attrs)) GMap.nil) (by omega) rfl (fun i s hi hI=>by
  have hi':i<l.length:=by omega
  have ha:=(h.some _ (List.getElem_mem hi')).2
  unfold zfh
  rw[zl ⟨by omega,by omega⟩,zw,zw,zP hi']
  obtain⟨m,e1,e2⟩:=vB (n:=(l[i].Attrs.length:Int)) (step:=zfi l[i]) (s0:=s.set l[i].Id (GMap.nil:GMap Str Str)) (fun t s'=>s'=s.set l[i].Id (qd (l[i].Attrs.take t))) (by omega) rfl (fun j s' hj hJ=>by
   have hj':j<l[i].Attrs.length:=by omega
   subst hJ
   unfold zfi
   rw[zl ⟨by omega,by omega⟩,zw,zl zfF,zfE,zhI,zP hj']
   refine⟨_,rfl,?_⟩
   rw[List.take_succ_eq_append_getElem hj']
   unfold qd
   rw[List.foldl_append];rfl)
  rw[e1,e2]
  refine⟨_,rfl,?_⟩
  rw[show(l[i].Attrs.length:Int).toNat=l[i].Attrs.length by omega,List.take_length,List.take_succ_eq_append_getElem hi',List.foldl_append,←hI];rfl)
 rw[e1,e2,show(l.length:Int).toNat=l.length by omega,List.take_length];rfl
noncomputable def qr (s:Str):Option Int:=match Qd s with
 | some (n,true)=>some n
 | _=>none
theorem zar (s:Str)(hs:s.b.length≤4294967281):∃n b,Qd s=some (n,b)∧qr s=(if b=true then some n else none)∧(b=true→InI n∧Go.Lib.itoa n=s.b):=by
 obtain⟨n,b,h1,h2⟩:=znX s hs
 refine⟨n,b,h1,?_,h2⟩
 unfold qr
 rw[h1]
 cases b<;>rfl
noncomputable def yU:List Str→Option (List Int)
 | []=>some []
 | s::l=>match qr s with
  | none=>none
  | some n=>(yU l).map (n:: ·)
theorem zhp (s:Str):∀l:List Str,yU (l++[s])=(yU l).bind fun ns=>(qr s).map fun n=>ns++[n]
 | []=>by
  show yU [s]=_
  unfold yU
  cases qr s<;>rfl
 | a::l=>by
  rw[List.cons_append,yU,yU,zhp s l]
  cases qr a with
  | none=>rfl
  | some n=>
   cases yU l with
   | none=>rfl
   | some ns=>cases qr s<;>rfl
theorem zho {s:Str}(h:qr s=none):∀(a b:List Str),yU (a++s::b)=none
 | [],b=>by rw[List.nil_append,yU,h]
 | x::a,b=>by
  rw[List.cons_append,yU,zho h a b]
  cases qr x<;>rfl
theorem ziq (w:List Str)(hw:∀s∈w,s.b.length≤4294967281)(hl:w.length≤100000000):∃ns b,zaC w=some (ns,b)∧yU w=(if b=true then some ns else none):=by
 unfold zaC
 obtain⟨e,h1,h2⟩:=QU (n:=(w.length:Int)) (step:=zdP w) (fin:=fun s=>Res.nx s) (s0:=([]:List Int)) (fun i ns=>yU (w.take i)=some ns∧ns.length=i)
  (fun e=>(∃ns,e=Res.nx ns∧yU w=some ns)∨(e=Res.ab ([],false)∧yU w=none)) (by omega) ⟨rfl,rfl⟩ (fun i s hi hI=>by
   have hi':i<w.length:=by omega
   obtain⟨n,b,e1,e2,_⟩:=zar w[i] (hw _ (List.getElem_mem hi'))
   unfold zdP
   rw[zl ⟨by omega,by omega⟩,zP hi',e1,Option.bind_some]
   cases hb:b with
   | false=>
    rw[hb,if_neg (by decide)]at e2
    refine .inr ⟨_,rfl,.inr ⟨rfl,?_⟩⟩
    have:w=w.take i++w[i]::w.drop (i+1):=by rw[←List.drop_eq_getElem_cons hi',List.take_append_drop]
    rw[this]
    exact zho e2 _ _
   | true=>
    rw[hb,if_pos rfl]at e2
    refine .inl ⟨s++[n],?_,?_,?_⟩
    ·
     simp only[Bool.not_true,cond_false]
     rw[zl (by rw[jV,List.length_singleton];omega)]
    ·
     rw[List.take_succ_eq_append_getElem hi',zhp,hI.1,e2];rfl
    ·
     rw[List.length_append,List.length_singleton,hI.2])
  (fun s hI=>.inl ⟨s,rfl,by simpa using hI.1⟩)
 rw[h1]
 rcases h2 with⟨ns,rfl,q⟩ | ⟨rfl,q⟩
 ·
  exact⟨ns,true,rfl,by rw[if_pos rfl];exact q⟩
 ·
  exact⟨_,_,rfl,by rw[if_neg (by decide)];exact q⟩
theorem zrN (s:Str)(hs:s.b.length≤4294967281):qr s=if(!(qE s).2.is&&decide (yC (qE s).1=s)&&decide ((vm s).b.length≤7))=true then some (qE s).1 else none:=by
 have ha:QC s=some (qE s):=by unfold QC;exact zl hs
 unfold qr Qd
 rw[zdF,Option.bind_some,ha,Option.bind_some]
 have hd:decide (((vm s).b.length:Int)≤7)=decide ((vm s).b.length≤7):=by rw[decide_eq_decide];omega
 rw[hd]
 cases h1:(qE s).2.is with
 | true=>simp
 | false=>
  cases h2:decide ((vm s).b.length≤7)with
  | false=>simp
  | true=>
   simp only[Bool.not_false,Bool.true_and,Bool.and_true,qy]
   rw[vY (zf4 s),Option.bind_some]
   cases h3:decide (yC (qE s).1=s)<;>rfl
def yJ (s:Str):List Str:=(jf 32 (s.b.count 32) s.b).map Str.mk
theorem zas (s:Str)(hs:s.b.length≤100000000):strings_Split s ⟨[32]⟩=some (yJ s):=by
 unfold strings_Split yJ
 rw[zhY]
 exact zl ⟨by omega,by simp⟩
theorem zdz (s:Str):(yJ s).length≤s.b.length+1:=by unfold yJ;rw[List.length_map];exact ziQ _ _ _
theorem ziU (c:UInt8):∀(k:Nat) (l x:List UInt8),x∈jf c k l→x.length≤l.length
 | 0,l,x,h=>by simp[jf]at h;rw[h];exact Nat.le_refl _
 | k+1,l,x,h=>by
  by_cases hc:c∈l
  ·
   obtain⟨a,m,rfl,h2⟩:=za2 hc
   rw[zav h2]at h
   rcases List.mem_cons.1 h with rfl | h
   ·
    simp
   ·
    have:=ziU c k m x h
    simp only[List.length_append,List.length_cons];omega
  ·
   rw[Yb hc]at h
   simp at h;rw[h];exact Nat.le_refl _
theorem zaj {s w:Str}(h:w∈yJ s):w.b.length≤s.b.length:=by
 unfold yJ at h
 obtain⟨x,hx,rfl⟩:=List.mem_map.1 h
 exact ziU _ _ _ _ hx
theorem zdE (s:Str)(hs:s.b.length≤10000000):∃ns b,Jd s=some (ns,b)∧yU (yJ s)=(if b=true then some ns else none):=by
 unfold Jd
 rw[zas s (by omega),Option.bind_some]
 have hw:∀w∈yJ s,w.b.length≤4294967281:=fun w h=>by have:=zaj h;omega
 have hl:(yJ s).length≤100000000:=by have:=zdz s;omega
 generalize yJ s=w at hw hl
 obtain⟨e,h1,h2⟩:=QU (n:=(w.length:Int)) (step:=zcV w) (fin:=fun s=>Res.nx s) (s0:=([]:List Int)) (fun i ns=>yU (w.take i)=some ns∧ns.length=i)
  (fun e=>(∃ns,e=Res.nx ns∧yU w=some ns)∨(e=Res.ab ([],false)∧yU w=none)) (by omega) ⟨rfl,rfl⟩ (fun i s hi hI=>by
   have hi':i<w.length:=by omega
   have hwi:=hw _ (List.getElem_mem hi')
   have e2:=zrN w[i] hwi
   have ha:QC w[i]=some (qE w[i]):=by unfold QC;exact zl hwi
   have hstep:zcV w (i:Int) s=bif !(!(qE w[i]).2.is&&decide (yC (qE w[i]).1=w[i])&&decide ((vm w[i]).b.length≤7))then some (Res.ab (Res.ab (([]:List Int),false)))else need (qX (s.length+[(qE w[i]).1].length)) <| some (Res.nx (s++[(qE w[i]).1])):=by
    unfold zcV
    rw[zl ⟨by omega,by omega⟩,zw,zP hi',ha,Option.bind_some]
    cases h1:(qE w[i]).2.is with
    | true=>simp
    | false=>
     rw[Bool.not_false,qy,vY (zf4 _),Option.bind_some]
     cases h2:decide (yC (qE w[i]).1=w[i])with
     | false=>simp
     | true=>
      simp only[Bool.not_true,Bool.or_self,Bool.not_false,qy]
      rw[zdF,Option.bind_some]
      have hd:decide ((7:Int)<((vm w[i]).b.length:Int))=!decide ((vm w[i]).b.length≤7):=by
       rw[Bool.eq_iff_iff]
       simp only[decide_eq_true_eq,Bool.not_eq_true',decide_eq_false_iff_not]
       omega
      rw[hd]
      simp
   rw[hstep]
   cases hc:(!(qE w[i]).2.is&&decide (yC (qE w[i]).1=w[i])&&decide ((vm w[i]).b.length≤7))with
   | false=>
    rw[hc,if_neg (by decide)]at e2
    refine .inr ⟨_,rfl,.inr ⟨rfl,?_⟩⟩
    have:w=w.take i++w[i]::w.drop (i+1):=by rw[←List.drop_eq_getElem_cons hi',List.take_append_drop]
    rw[this]
    exact zho e2 _ _
   | true=>
    rw[hc,if_pos rfl]at e2
    refine .inl ⟨s++[(qE w[i]).1],?_,?_,?_⟩
    ·
     rw[Bool.not_true,cond_false,zl (by rw[jV,List.length_singleton];omega)]
    ·
     rw[List.take_succ_eq_append_getElem hi',zhp,hI.1,e2];rfl
    ·
     rw[List.length_append,List.length_singleton,hI.2])
  (fun s hI=>.inl ⟨s,rfl,by simpa using hI.1⟩)
 rw[h1]
 rcases h2 with⟨ns,rfl,q⟩ | ⟨rfl,q⟩
 ·
  exact⟨ns,true,rfl,by rw[if_pos rfl];exact q⟩
 ·
  exact⟨_,_,rfl,by rw[if_neg (by decide)];exact q⟩
section
theorem zhm:qr Str.nil=none:=by
 obtain⟨n,b,h1,h2,h3⟩:=zar Str.nil (by show 0≤_;omega)
 rw[h2]
 cases b with
 | false=>rfl
 | true=>exact absurd (h3 rfl).2 (zeu n)
theorem zh4:yJ Str.nil=[Str.nil]:=rfl
theorem zuM (s:Str):yJ s≠[]:=fun e=>by
 unfold yJ at e
 exact ziR 32 (s.b.count 32) s.b (List.map_eq_nil_iff.1 e)
theorem zuN {s w:Str}(h:w∈yJ s):yJ w=[w]:=by
 unfold yJ at h
 obtain⟨x,hx,rfl⟩:=List.mem_map.1 h
 have hf:=ziS 32 _ _ (Nat.le_refl _) x hx
 unfold yJ
 rw[Yb hf];rfl
theorem zcy (s:Str):yU [s]=(qr s).map fun n=>[n]:=by
 unfold yU
 cases qr s<;>rfl
theorem za4:∀{l:List Str} {ns:List Int},yU l=some ns→ns.length=l.length
 | [],ns,h=>by
  unfold yU at h
  obtain rfl:=Option.some.inj h
  rfl
 | s::l,ns,h=>by
  unfold yU at h
  cases h1:qr s with
  | none=>rw[h1]at h;cases h
  | some n=>
   rw[h1]at h
   cases h2:yU l with
   | none=>rw[h2]at h;cases h
   | some r=>
    rw[h2]at h
    obtain rfl:=Option.some.inj h
    rw[List.length_cons,List.length_cons,za4 h2]
noncomputable def qw (l:List Str)(b:Str):Int:=match jB l b with
 | some k=>if 0<k then k else 0
 | none=>0
theorem zdy {t:List Str}(hn:(Str.nil::t).Nodup)(hl:t.length≤100)(b:Str):
  ∃k k',jB (Str.nil::t) b=some k∧jB t b=some k'∧W (k'+1)=qw (Str.nil::t) b∧qw (Str.nil::t) b=(if 0<k then k else 0)∧qw (Str.nil::t) b≤(t.length:Int)∧k<200∧ -1≤k:=by
 obtain⟨k,h1,h2⟩:=zf6 (Str.nil::t) b (by rw[List.length_cons];omega)
 obtain⟨k',g1,g2⟩:=zf6 t b (by omega)
 have hw:qw (Str.nil::t) b=if 0<k then k else 0:=by unfold qw;rw[h1]
 have key:k'+1=(if 0<k then k else 0)∧k'+1≤(t.length:Int)∧0≤k'+1:=by
  rcases h2 with⟨e,hm⟩ | ⟨i,hi,e,hm⟩
  ·
   rcases g2 with⟨e',_⟩ | ⟨j,hj,_,hm'⟩
   ·
    subst e;subst e';exact⟨rfl,by omega,by omega⟩
   ·
    exact absurd (by rw[←hm'];exact List.mem_cons_of_mem _ (List.getElem_mem hj)) hm
  ·
   rcases g2 with⟨e',hm'⟩ | ⟨j,hj,e',hm'⟩
   ·
    cases i with
    | zero=>subst e;subst e';exact⟨rfl,by omega,by omega⟩
    | succ i=>exact absurd (by rw[←hm];exact List.getElem_mem (by simpa using hi)) hm'
   ·
    have hj':j+1<(Str.nil::t).length:=by rw[List.length_cons];omega
    have:i=j+1:=(List.getElem_inj (h₀:=hi) (h₁:=hj') hn).1 (by rw[hm,←hm'];rfl)
    subst this
    rw[if_pos (by omega)]
    omega
 refine⟨k,k',h1,g1,?_,hw,by rw[hw,←key.1];exact key.2.1,?_,?_⟩
 ·
  rw[Wk (by omega) (by omega),hw];exact key.1
 ·
  rcases h2 with⟨e,_⟩ | ⟨i,hi,e,_⟩
  ·
   omega
  ·
   rw[List.length_cons]at hi;omega
 ·
  rcases h2 with⟨e,_⟩ | ⟨i,hi,e,_⟩<;>omega
open Classical in
noncomputable def qU (s:Str):Option zO:=match yJ s with
 | [a,b,c]=>if a=Str.nil∨qw qs b=0 then none else(qr c).map fun n=>⟨a,qw qs b,n⟩
 | _=>none
theorem zgF {s:Str}(h:(yJ s).length≠3):qU s=none:=by
 unfold qU
 split
 ·
  rename_i e;rw[e]at h;exact absurd rfl h
 ·
  rfl
theorem zpb:qU Str.nil=none:=zgF (by rw[zh4];decide)
theorem zm9 {α:Type}{l:List α}(h:l.length=3):∃a b c,l=[a,b,c]:=by
 match l,h with
 | [a,b,c],_=>exact⟨a,b,c,rfl⟩
theorem zio (s:Str)(hs:s.b.length≤10000000):∃y ok,JA (yJ s)=some (y,ok)∧qU s=if ok=true then some y else none:=by
 by_cases h:(yJ s).length=3
 ·
  obtain⟨a,b,c,e⟩:=zm9 h
  have hc:c.b.length≤4294967281:=by
   have:=zaj (s:=s) (w:=c) (by rw[e];simp)
   omega
  unfold qU
  rw[e]
  unfold JA
  have g0:gx [a,b,c] 0=a:=rfl
  have g1:gx [a,b,c] 1=b:=rfl
  have g2:gx [a,b,c] 2=c:=rfl
  have h3:(!decide ((([a,b,c]:List Str).length:Int)=3))=false:=by simp
  have n0:inR [a,b,c] 0:=⟨by decide,by simp⟩
  have n1:inR [a,b,c] 1:=⟨by decide,by simp⟩
  have n2:inR [a,b,c] 2:=⟨by decide,by simp⟩
  obtain⟨k,k',k1,k2,k3,k4,k5,k6,k7⟩:=zdy (t:=qs.tail) (by decide) (by decide) b
  have k1:jB qs b=some k:=k1
  have k4:qw qs b=if 0<k then k else 0:=k4
  rw[zw,zl (fun _=>n0),zl (fun _=>n1),h3,Bool.false_or,g0,g1]
  by_cases ha:a=Str.nil
  ·
   rw[decide_eq_true ha,Bool.true_or,cond_true]
   exact⟨_,_,rfl,by simp[ha]⟩
  by_cases hb:b=Str.nil
  ·
   rw[decide_eq_true hb,Bool.or_true,cond_true]
   have:qw qs b=0:=by
    rw[k4]
    have hb0:jB qs b=some 0:=by
     have:=zf7 (l:=qs) (by decide) (by decide) (k:=0) ⟨by decide,by decide⟩
     rw[hb];exact this
    rw[hb0]at k1
    obtain rfl:=Option.some.inj k1
    rfl
   exact⟨_,_,rfl,by simp[this]⟩
  rw[decide_eq_false ha,decide_eq_false hb,Bool.or_self,cond_false,zl n0,zw,zn8,Option.bind_some,zl n1,k1,Option.bind_some,zw,zl n2,g2]
  obtain⟨n,ok,e1,e2,_⟩:=zar c hc
  rw[e1,Option.bind_some,zw]
  refine⟨_,_,rfl,?_⟩
  simp only
  rw[e2,k4]
  by_cases hk:0<k
  ·
   rw[if_pos hk,decide_eq_true hk,if_neg (by rintro(h | h);exact ha h;omega)]
   cases ok<;>rfl
  ·
   rw[if_neg hk,decide_eq_false hk,if_pos (.inr rfl),Bool.and_false];rfl
 ·
  rw[zgF h]
  unfold JA
  have h3:(!decide (((yJ s).length:Int)=3))=true:=by rw[decide_eq_false (by omega)];rfl
  rw[zw,zl (fun h=>by rw[h3]at h;cases h),h3,Bool.true_or,zl (fun h=>by cases h),Bool.true_or,cond_true]
  exact⟨_,_,rfl,rfl⟩
theorem zlz (s:Str)(hs:s.b.length≤10000000):∃y ok,zbg s=some (y,ok)∧qU s=if ok=true then some y else none:=by
 unfold zbg
 rw[zw,zas s (by omega),Option.bind_some]
 by_cases h:(yJ s).length=3
 ·
  obtain⟨a,b,c,e⟩:=zm9 h
  have hcm:c∈yJ s:=by rw[e];simp
  have hc:=zaj hcm
  have hcw:=zuN hcm
  unfold qU
  rw[e]
  have g0:gx [a,b,c] 0=a:=rfl
  have g1:gx [a,b,c] 1=b:=rfl
  have g2:gx [a,b,c] 2=c:=rfl
  have h3:(!decide ((([a,b,c]:List Str).length:Int)=3))=false:=by simp
  have n0:inR [a,b,c] 0:=⟨by decide,by simp⟩
  have n1:inR [a,b,c] 1:=⟨by decide,by simp⟩
  have n2:inR [a,b,c] 2:=⟨by decide,by simp⟩
  obtain⟨k,k',k1,k2,k3,k4,k5,k6,k7⟩:=zdy (t:=qs.tail) (by decide) (by decide) b
  have k3:W (k'+1)=qw qs b:=k3
  have hf:vU (⟨[117,112,32,114,105,103,104,116,32,100,111,119,110,32,108,101,102,116]⟩:Str)=some qs.tail:=by
   unfold vU
   rw[show j9 (⟨[117,112,32,114,105,103,104,116,32,100,111,119,110,32,108,101,102,116]⟩:Str)=qs.tail by decide]
   exact zl (by decide)
  rw[h3,cond_false,hf,Option.bind_some,zl n1,g1,k2,Option.bind_some,zw,k3,zl n2,g2]
  obtain⟨ns,ok,e1,e2⟩:=zdE c (by omega)
  rw[hcw,zcy]at e2
  rw[e1,Option.bind_some,zl (fun _=>n0),g0]
  simp only
  by_cases hw:qw qs b=0
  ·
   rw[decide_eq_true hw,Bool.true_or,Bool.true_or,cond_true,zw]
   exact⟨_,_,rfl,by simp[hw]⟩
  rw[decide_eq_false hw,Bool.false_or]
  by_cases ha:a=Str.nil
  ·
   rw[decide_eq_true ha,Bool.or_true,cond_true,zw]
   exact⟨_,_,rfl,by simp[ha]⟩
  rw[decide_eq_false ha,Bool.or_false,if_neg (by rintro(h | h);exact ha h;exact hw h)]
  cases ok with
  | false=>
   rw[if_neg (by decide)]at e2
   rw[Bool.not_false,cond_true,zw]
   refine⟨_,_,rfl,?_⟩
   cases hn:qr c with
   | none=>rfl
   | some n=>rw[hn]at e2;cases e2
  | true=>
   rw[if_pos rfl]at e2
   cases hn:qr c with
   | none=>rw[hn]at e2;cases e2
   | some n=>
    rw[hn]at e2
    obtain rfl:=Option.some.inj e2
    rw[Bool.not_true,cond_false,zl n0,zl ⟨by decide,by simp⟩,zw]
    exact⟨_,_,rfl,rfl⟩
 ·
  rw[zgF h,decide_eq_false (by omega),Bool.not_false,cond_true,zw]
  exact⟨_,_,rfl,rfl⟩
def Qz:List Int→List zz
 | x::y::r=>⟨x,y⟩::Qz r
 | _=>[]
theorem ze7:∀l:List zz,Qz (qx l)=l
 | []=>rfl
 | p::l=>by rw[zoI,Qz,ze7 l]
theorem zn3 (ns:List Int)(hl:ns.length≤100000000)(hn:ns≠[]):∃r ok,zbU ns=some (r,ok)∧(if ns.length % 2=1 then none else some (Qz ns))=if ok=true then some r else none:=by
 unfold zbU
 have hp:=List.length_pos_iff.2 hn
 have ht:(ns.length:Int).tmod 2=((ns.length % 2:Nat):Int):=by rw[Int.tmod_eq_emod_of_nonneg (by omega)];omega
 by_cases h:ns.length % 2=1
 ·
  have:(decide (((ns.length:Int).tmod 2)=1) || decide ((ns.length:Int)=0))=true:=by
   rw[Bool.or_eq_true,decide_eq_true_eq,decide_eq_true_eq,ht];omega
  rw[this,cond_true,if_pos h]
  exact⟨_,_,rfl,rfl⟩
 ·
  have:(decide (((ns.length:Int).tmod 2)=1) || decide ((ns.length:Int)=0))=false:=by
   rw[Bool.or_eq_false_iff,decide_eq_false_iff_not,decide_eq_false_iff_not,ht];omega
  obtain⟨r,r1,r2⟩:=zin ns hl (ns.length / 2) [] 0 (by omega) (by omega) rfl rfl
  rw[show((0:Nat):Int)=0 from rfl]at r1
  rw[this,cond_false,r1,Option.bind_some,if_neg h]
  exact⟨_,_,rfl,by rw[if_pos rfl,←r2,ze7]⟩
theorem zil (l:List Int)(hl:l.length≤100000000):∀(k:Nat) (a:List zz) (i:Nat),l.length - i=2*k→i≤l.length→qx a=l.take i→i=2*a.length→∃r,loop (zbd l) (a,((i+1:Nat):Int))=some r∧qx r=l
 | 0,a,i,h1,h2,h3,_=>by
  refine⟨a,zkR ?_,?_⟩
  ·
   unfold zbd
   rw[decide_eq_false (by show ¬(((i+1:Nat):Int)<(l.length:Int));omega),cond_false]
  ·
   rw[h3,List.take_of_length_le (by omega)]
 | k+1,a,i,h1,h2,h3,h4=>by
  have hi:i<l.length:=by omega
  have hi2:i+1<l.length:=by omega
  have hst:zbd l (a,((i+1:Nat):Int))=some (zL.again (a++[(⟨l[i],l[i+1]⟩:zz)],((i+2+1:Nat):Int))):=by
   unfold zbd
   simp only
   have hw:W (((i+1:Nat):Int) - 1)=(i:Int):=by rw[Wk (by omega) (by omega)];omega
   have hw2:W (((i+1:Nat):Int)+2)=((i+2+1:Nat):Int):=by rw[Wk (by omega) (by omega)];omega
   rw[decide_eq_true (by omega),cond_true,hw,zl ⟨by omega,by omega⟩,zl ⟨by omega,by omega⟩,zl (by rw[jV,List.length_singleton];omega),zw,zw,hw2,zP hi,zP hi2]
  obtain⟨r,r1,r2⟩:=zil l hl k (a++[(⟨l[i],l[i+1]⟩:zz)]) (i+2) (by omega) (by omega) (by
   rw[zgp,h3,show i+2=(i+1)+1 from rfl,List.take_succ_eq_append_getElem hi2,List.take_succ_eq_append_getElem hi,List.append_assoc];rfl) (by rw[List.length_append,List.length_singleton];omega)
  exact⟨r,(zkQ hst).trans r1,r2⟩
theorem zn1 (ns:List Int)(hl:ns.length≤100000000)(h:ns.length % 2=0):zcT ns=some (Qz ns):=by
 unfold zcT
 obtain⟨r,r1,r2⟩:=zil ns hl (ns.length / 2) [] 0 (by omega) (by omega) rfl rfl
 rw[show((0+1:Nat):Int)=1 from rfl]at r1
 rw[r1,Option.bind_some,←r2,ze7]
theorem zrz {K V O:Type}{m:GMap K V}{step:K→V→Unit→Option (Res Unit O)}{fin:Unit→O}(bad:K→V→Bool)(o:O){l0:List (K×V)}(h0:zD m l0)
  (hs:∀k v,step k v ()=some (if bad k v=true then .ab o else .nx ())):YY m step fin ()=some (if l0.any (fun x=>bad x.1 x.2)=true then o else fin ()):=by
 refine zk3 h0 fun l hl=>?_
 have he:l.any (fun x=>bad x.1 x.2)=l0.any (fun x=>bad x.1 x.2):=by
  rw[Bool.eq_iff_iff,List.any_eq_true,List.any_eq_true]
  constructor<;>rintro⟨x,hx,h⟩
  ·
   exact⟨x,(hl.perm h0).mem_iff.1 hx,h⟩
  ·
   exact⟨x,(hl.perm h0).mem_iff.2 hx,h⟩
 rw[←he]
 clear he hl
 induction l with
 | nil=>rfl
 | cons x l ih=>
  rw[Qk,hs,Option.bind_some]
  by_cases h:bad x.1 x.2=true
  ·
   rw[if_pos h,List.any_cons,h,Bool.true_or,if_pos rfl]
  ·
   rw[if_neg h,List.any_cons,Bool.eq_false_iff.2 h,Bool.false_or]
   exact ih
abbrev zS:Str:=⟨[107,105,110,100]⟩
abbrev kZ:Str:=⟨[122]⟩
abbrev zI:Str:=⟨[116,101,120,116]⟩
abbrev zK:Str:=⟨[99,108,97,115,115]⟩
abbrev yM:Str:=⟨[112,97,114,101,110,116]⟩
abbrev yP:Str:=⟨[108,111,99,107,101,100]⟩
abbrev yz:Str:=⟨[112,108,97,99,101]⟩
abbrev qe:Str:=⟨[102,114,111,109]⟩
abbrev kTo:Str:=⟨[116,111]⟩
abbrev yE:Str:=⟨[98,101,110,100,115]⟩
abbrev Qs:Str:=⟨[121,101,115]⟩
abbrev QX:Str:=⟨[101,100,103,101]⟩
def okT (f:GMap Str Str)(k:Str):Prop:=¬(f.has k=true∧f.getD k Str.nil=Str.nil)
structure Fld (f:GMap Str Str) (nd ot:List Str):Prop where
 need:∀k∈nd,f.has k=true
 only:∀k,f.has k=true→k∈nd∨k∈ot
 text:okT f zI
 cls:okT f zK
 par:okT f yM
theorem zj5 {V:Type}{m:GMap Str V}{l:List (Str×V)}(h:zD m l)(k:Str):m.has k=true↔∃v,(k,v)∈l:=by
 unfold GMap.has
 constructor
 ·
  intro hk
  cases e:m.f k with
  | none=>rw[e]at hk;cases hk
  | some v=>exact⟨v,(h.mem k v).2 e⟩
 ·
  rintro⟨v,hv⟩
  rw[(h.mem k v).1 hv];rfl
theorem zjJ {f:GMap Str Str}{l0:List (Str×Str)}(h0:zD f l0)(nd ot:List Str)(hn:nd.length≤100)(ho:ot.length≤100):∃b,YL f nd ot=some b∧(b=true↔Fld f nd ot):=by
 unfold YL
 rw[zhC (fun k=>!(f.has k)) (Res.ab false) (by omega) (fun i hi=>by
  unfold zgy
  rw[zl hi]
  cases f.has (gx nd i)<;>rfl)]
 by_cases a1:(nd.any fun k=>!(f.has k))=true
 ·
  rw[if_pos a1,jG]
  refine⟨_,rfl,⟨fun h=>(by cases h),fun h=>?_⟩⟩
  obtain⟨k,hk,e⟩:=List.any_eq_true.1 a1
  rw[h.need k hk]at e;cases e
 rw[if_neg a1,yG]
 rw[zrz (fun k _=>!decide (k∈nd)&&!decide (k∈ot)) (Res.ab false) h0 (fun k v=>by
  unfold zgz
  rw[zic _ _ (by omega),Option.bind_some,zic _ _ (by omega)]
  cases decide (k∈nd)<;>cases decide (k∈ot)<;>rfl)]
 by_cases a2:(l0.any fun x=>!decide (x.1∈nd)&&!decide (x.1∈ot))=true
 ·
  rw[if_pos a2,jG]
  refine⟨_,rfl,⟨fun h=>(by cases h),fun h=>?_⟩⟩
  obtain⟨x,hx,e⟩:=List.any_eq_true.1 a2
  simp only[Bool.and_eq_true,Bool.not_eq_true',decide_eq_false_iff_not]at e
  rcases h.only x.1 ((zj5 h0 x.1).2 ⟨x.2,hx⟩)with h | h
  ·
   exact absurd h e.1
  ·
   exact absurd h e.2
 rw[if_neg a2,yG,zw]
 rw[zhC (fun k=>f.has k&&decide (f.getD k Str.nil=Str.nil)) (Res.ab false) (by decide) (fun i hi=>by
  unfold zgA
  rw[zl hi]
  cases f.has (gx [zI,zK,yM] i)<;>cases decide (f.getD (gx [zI,zK,yM] i) Str.nil=Str.nil)<;>rfl)]
 have key:∀k,okT f k↔¬(f.has k&&decide (f.getD k Str.nil=Str.nil))=true:=fun k=>by
  unfold okT
  rw[Bool.and_eq_true,decide_eq_true_eq]
 by_cases a3:(([zI,zK,yM]:List Str).any fun k=>f.has k&&decide (f.getD k Str.nil=Str.nil))=true
 ·
  rw[if_pos a3,jG]
  refine⟨_,rfl,⟨fun h=>(by cases h),fun h=>?_⟩⟩
  obtain⟨k,hk,e⟩:=List.any_eq_true.1 a3
  simp only[List.mem_cons,List.mem_nil_iff,or_false]at hk
  rcases hk with rfl | rfl | rfl
  ·
   exact absurd e ((key _).1 h.text)
  ·
   exact absurd e ((key _).1 h.cls)
  ·
   exact absurd e ((key _).1 h.par)
 rw[if_neg a3,yG]
 refine⟨_,rfl,⟨fun _=>⟨fun k hk=>?_,fun k hk=>?_,?_,?_,?_⟩,fun _=>rfl⟩⟩
 ·
  cases e:f.has k with
  | true=>rfl
  | false=>exact absurd (List.any_eq_true.2 ⟨k,hk,by rw[e];rfl⟩) a1
 ·
  obtain⟨v,hv⟩:=(zj5 h0 k).1 hk
  by_cases c1:k∈nd
  ·
   exact .inl c1
  by_cases c2:k∈ot
  ·
   exact .inr c2
  exact absurd (List.any_eq_true.2 ⟨(k,v),hv,by simp[c1,c2]⟩) a2
 all_goals exact(key _).2 fun e=>a3 (List.any_eq_true.2 ⟨_,by simp,e⟩)
end
section
noncomputable def Y4 (s:Str):Option (List zz):=(yU (yJ s)).bind fun ns=>if ns.length % 2=1 then none else some (Qz ns)
structure Q1 (f:GMap Str Str):Prop where
 only:∀k,f.has k=true→k∈[zS,kZ,zI,zK,qe,kTo,yE]
 text:okT f zI
 cls:okT f zK
structure Q2 (f:GMap Str Str) (K:Int):Prop where
 only:∀k,f.has k=true→k∈[zS,kZ,zI,zK,yM,yP]∨(k=yz∧K≠6)
 text:okT f zI
 cls:okT f zK
 par:okT f yM
 lock:f.has yP=true→f.getD yP Str.nil=Qs
def zdJ:List Int→Option Box
 | [x,y,w,h]=>some ⟨x,y,w,h⟩
 | _=>none
theorem zgf {l:List Int}(h:l.length≠4):zdJ l=none:=by
 unfold zdJ
 split
 ·
  rename_i e;exact absurd rfl h
 ·
  rfl
open Classical in
noncomputable def vK (id:Str)(f:GMap Str Str):Option zu:=
 (qU (f.getD qe Str.nil)).bind fun a=>(qU (f.getD kTo Str.nil)).bind fun b=>
 (if f.has yE=true then Y4 (f.getD yE Str.nil)else some []).bind fun p=>
 if Q1 f then some ⟨id,a,b,p,f.getD zI Str.nil,f.getD zK Str.nil⟩else none
open Classical in
noncomputable def Qm (id:Str)(f:GMap Str Str):Option zh:=
 if qw y4 (f.getD zS Str.nil)=0 then none else
 (if qw y4 (f.getD zS Str.nil)=6 then some qh else(yU (yJ (f.getD yz Str.nil))).bind zdJ).bind fun b=>
 if Q2 f (qw y4 (f.getD zS Str.nil))then some ⟨id,qw y4 (f.getD zS Str.nil),b,f.getD zI Str.nil,f.getD zK Str.nil,f.getD yM Str.nil,f.has yP⟩else none
noncomputable def qk (id:Str)(f:GMap Str Str):Option zf:=
 (qr (f.getD kZ Str.nil)).bind fun z=>if z<0∨1000000<z then none else
 if f.getD zS Str.nil=QX then(vK id f).map fun x=>⟨z,none,some x⟩else(Qm id f).map fun n=>⟨z,some n,none⟩
theorem zci {f:GMap Str Str}{k:Str}(h:f.getD k Str.nil≠Str.nil):f.has k=true:=by
 cases e:f.has k with
 | true=>rfl
 | false=>exact absurd (zj3 e) h
structure Fs (f:GMap Str Str):Prop where
 list:∃l,zD f l∧l.length≤100000
 short:∀k,(f.getD k Str.nil).b.length≤10000000
theorem zjk {f:GMap Str Str}{k:Str}{y:zO}(h:qU (f.getD k Str.nil)=some y):f.has k=true:=by
 refine zci fun e=>?_
 rw[e,zpb]at h;cases h
theorem zrQ {f:GMap Str Str}{k:Str}(h:¬f.has k=true):okT f k:=fun⟨a,_⟩=>h a
theorem zsj {f:GMap Str Str}(hf:Fs f)(hk:f.has zS=true)(hz:f.has kZ=true)(id:Str):
  ∃ok y,zb1 ⟨id,⟨Str.nil,0,0⟩,⟨Str.nil,0,0⟩,[],f.getD zI Str.nil,f.getD zK Str.nil⟩ f=some (ok,y)∧vK id f=if ok=true then some y else none:=by
 obtain⟨l0,h0,hl0⟩:=hf.list
 unfold zb1
 obtain⟨a,oka,a1,a2⟩:=zio (f.getD qe Str.nil) (hf.short _)
 obtain⟨b,okb,b1,b2⟩:=zio (f.getD kTo Str.nil) (hf.short _)
 rw[zas _ (Nat.le_trans (hf.short _) (by decide)),Option.bind_some,a1,Option.bind_some,zw,zas _ (Nat.le_trans (hf.short _) (by decide)),Option.bind_some,b1,Option.bind_some,zw]
 simp only
 obtain⟨fb,f1,f2⟩:=zjJ h0 [zS,qe,kTo,kZ] [yE,zI,zK] (by decide) (by decide)
 have hF:∀(p:List zz),oka=true→okb=true→(fb=true↔Q1 f):=fun p ha hb=>by
  rw[f2]
  rw[ha,if_pos rfl]at a2
  rw[hb,if_pos rfl]at b2
  constructor
  ·
   intro h
   refine⟨fun k hk=>?_,h.text,h.cls⟩
   have:=h.only k hk
   simp only[List.mem_cons,List.mem_nil_iff,or_false]at this⊢
   rcases this with(h | h | h | h) | (h | h | h)<;>simp[h]
  ·
   intro h
   refine⟨fun k hk'=>?_,fun k hk'=>?_,h.text,h.cls,zrQ fun hp=>?_⟩
   ·
    simp only[List.mem_cons,List.mem_nil_iff,or_false]at hk'
    rcases hk' with rfl | rfl | rfl | rfl
    ·
     exact hk
    ·
     exact zjk a2
    ·
     exact zjk b2
    ·
     exact hz
   ·
    have:=h.only k hk'
    simp only[List.mem_cons,List.mem_nil_iff,or_false]at this⊢
    rcases this with h | h | h | h | h | h | h<;>simp[h]
   ·
    have:=h.only _ hp
    exact absurd this (by decide)
 have fin:∀(p:List zz),∃ok y,(Option.bind (gd (oka&&okb) (YL f [zS,qe,kTo,kZ] [yE,zI,zK])) fun r8=>some ((oka&&okb)&&r8,(⟨id,a,b,p,f.getD zI Str.nil,f.getD zK Str.nil⟩:zu)))=some (ok,y)∧
   ((qU (f.getD qe Str.nil)).bind fun a=>(qU (f.getD kTo Str.nil)).bind fun b=>by
    classical
    exact if Q1 f then some (⟨id,a,b,p,f.getD zI Str.nil,f.getD zK Str.nil⟩:zu)else none)=if ok=true then some y else none:=fun p=>by
  rw[a2,b2]
  cases ha:oka with
  | false=>exact⟨_,_,rfl,rfl⟩
  | true=>
   cases hb:okb with
   | false=>exact⟨_,_,rfl,rfl⟩
   | true=>
    rw[Bool.and_self,qy,f1,Option.bind_some]
    refine⟨_,_,rfl,?_⟩
    rw[if_pos rfl,if_pos rfl,Option.bind_some,Option.bind_some,Bool.true_and]
    have:=hF p ha hb
    by_cases c:Q1 f
    ·
     rw[this.2 c,if_pos c,if_pos rfl]
    ·
     rw[if_neg c,if_neg (fun h=>c (this.1 h))]
 by_cases hb:f.has yE=true
 ·
  rw[hb,cond_true,zas _ (Nat.le_trans (hf.short _) (by decide)),Option.bind_some]
  have hw:∀s∈yJ (f.getD yE Str.nil),s.b.length≤4294967281:=fun s hs=>by
   have:=zaj hs
   have:=hf.short yE
   omega
  have hwl:(yJ (f.getD yE Str.nil)).length≤100000000:=by
   have:=zdz (f.getD yE Str.nil)
   have:=hf.short yE
   omega
  obtain⟨ns,ok,e1,e2⟩:=ziq _ hw hwl
  rw[e1,Option.bind_some]
  unfold vK Y4
  rw[if_pos hb,e2]
  cases ok with
  | false=>
   simp only[Bool.not_false,cond_true,jG]
   refine⟨_,_,rfl,?_⟩
   simp
  | true=>
   rw[if_pos rfl]at e2
   have hns:ns≠[]:=fun e=>by
    have:=za4 e2
    rw[e]at this
    exact zuM _ (List.length_eq_zero_iff.1 this.symm)
   have hnl:ns.length≤100000000:=by rw[za4 e2];exact hwl
   obtain⟨r,okr,r1,r2⟩:=zn3 ns hnl hns
   rw[if_pos rfl,Option.bind_some,r2]
   simp only[Bool.not_true,cond_false]
   rw[r1,Option.bind_some,zw]
   cases okr with
   | false=>
    simp only[Bool.not_false,cond_true,jG]
    refine⟨_,_,rfl,?_⟩
    simp
   | true=>
    simp only[Bool.not_true,cond_false,yG]
    exact fin r
 ·
  rw[Bool.eq_false_iff.2 hb,cond_false,yG]
  unfold vK
  rw[if_neg hb]
  exact fin []
theorem zsk {f:GMap Str Str}(hf:Fs f)(hz:f.has kZ=true)(id:Str){k:Int}(hk:qw y4 (f.getD zS Str.nil)=if 0<k then k else 0):
  ∃ok y,zb2 ⟨id,k,⟨0,0,0,0⟩,f.getD zI Str.nil,f.getD zK Str.nil,f.getD yM Str.nil,false⟩ f=some (ok,y)∧Qm id f=if ok=true then some y else none:=by
 obtain⟨l0,h0,hl0⟩:=hf.list
 unfold zb2 Qm
 by_cases hk0:0<k
 ·
  rw[if_pos hk0]at hk
  have hkk:f.has zS=true:=zci fun e=>by
   rw[e]at hk
   have:qw y4 Str.nil=0:=by
    unfold qw
    have:=zf7 (l:=y4) (by decide) (by decide) (k:=0) ⟨by decide,by decide⟩
    rw[show jB y4 Str.nil=some 0 from this];rfl
   omega
  rw[hk,if_neg (by omega),decide_eq_false (by show ¬k<1;omega),cond_false,zw]
  have fin:∀(bx:Box) (nd:List Str),nd.length≤100→(∀x∈nd,f.has x=true)→(∀x,x∈nd↔x∈[zS,kZ]∨(x=yz∧k≠6))→
    ∃ok y,(bnd (f.has yP) fun has1=>
     bnd ({ (⟨id,k,bx,f.getD zI Str.nil,f.getD zK Str.nil,f.getD yM Str.nil,false⟩:zh)with Locked:=has1 }) fun c1=>
     Option.bind (gd (((!has1) || (decide ((f.getD yP Str.nil)=Qs)))) (YL f nd [zI,zK,yM,yP])) fun r3=>
     some (((!has1) || (decide ((f.getD yP Str.nil)=Qs)))&&r3,c1))=some (ok,y)∧
     (by
      classical
      exact if Q2 f k then some (⟨id,k,bx,f.getD zI Str.nil,f.getD zK Str.nil,f.getD yM Str.nil,f.has yP⟩:zh)else none)=if ok=true then some y else none:=fun bx nd hn hnd hno=>by
   rw[zw,zw]
   obtain⟨fb,f1,f2⟩:=zjJ h0 nd [zI,zK,yM,yP] hn (by decide)
   have hL:((!f.has yP) || decide (f.getD yP Str.nil=Qs))=true↔(f.has yP=true→f.getD yP Str.nil=Qs):=by
    rw[Bool.or_eq_true,Bool.not_eq_true',decide_eq_true_eq]
    constructor
    ·
     rintro(h | h) h2
     ·
      rw[h]at h2;cases h2
     ·
      exact h
    ·
     intro h
     cases e:f.has yP with
     | false=>exact .inl rfl
     | true=>exact .inr (h e)
   cases hl:((!f.has yP) || decide (f.getD yP Str.nil=Qs))with
   | false=>
    rw[hl]at hL
    refine⟨_,_,rfl,?_⟩
    rw[Bool.false_and,if_neg (show ¬(false=true)by decide),if_neg]
    intro h
    exact absurd (hL.2 h.lock) (by decide)
   | true=>
    rw[qy,f1,Option.bind_some]
    refine⟨_,_,rfl,?_⟩
    rw[Bool.true_and]
    have hF:fb=true↔Q2 f k:=by
     rw[f2]
     constructor
     ·
      intro h
      refine⟨fun x hx=>?_,h.text,h.cls,h.par,hL.1 hl⟩
      rcases h.only x hx with h | h
      ·
       rcases(hno x).1 h with h | h
       ·
        left
        simp only[List.mem_cons,List.mem_nil_iff,or_false]at h⊢
        rcases h with h | h<;>simp[h]
       ·
        exact .inr h
      ·
       left
       simp only[List.mem_cons,List.mem_nil_iff,or_false]at h⊢
       rcases h with h | h | h | h<;>simp[h]
     ·
      intro h
      refine⟨hnd,fun x hx=>?_,h.text,h.cls,h.par⟩
      rcases h.only x hx with h | h
      ·
       simp only[List.mem_cons,List.mem_nil_iff,or_false]at h
       rcases h with h | h | h | h | h | h
       ·
        exact .inl ((hno x).2 (.inl (by simp[h])))
       ·
        exact .inl ((hno x).2 (.inl (by simp[h])))
       ·
        exact .inr (by simp[h])
       ·
        exact .inr (by simp[h])
       ·
        exact .inr (by simp[h])
       ·
        exact .inr (by simp[h])
      ·
       exact .inl ((hno x).2 (.inr h))
    by_cases c:Q2 f k
    ·
     rw[hF.2 c,if_pos c,if_pos rfl]
    ·
     rw[if_neg c,if_neg (fun h=>c (hF.1 h))]
  by_cases h6:k=6
  ·
   rw[decide_eq_true (by exact h6),Bool.not_true,cond_false,yG,if_pos h6,Option.bind_some]
   exact fin qh [zS,kZ] (by decide) (fun x hx=>by
    simp only[List.mem_cons,List.mem_nil_iff,or_false]at hx
    rcases hx with rfl | rfl
    ·
     exact hkk
    ·
     exact hz) (fun x=>⟨.inl,fun h=>h.elim (fun g=>g) fun g=>absurd h6 g.2⟩)
  ·
   rw[decide_eq_false (by exact h6),Bool.not_false,cond_true,zl (by rw[jV];decide),zas _ (Nat.le_trans (hf.short _) (by decide)),Option.bind_some,if_neg h6]
   have hw:∀s∈yJ (f.getD yz Str.nil),s.b.length≤4294967281:=fun s hs=>by
    have:=zaj hs
    have:=hf.short yz
    omega
   have hwl:(yJ (f.getD yz Str.nil)).length≤100000000:=by
    have:=zdz (f.getD yz Str.nil)
    have:=hf.short yz
    omega
   obtain⟨ns,ok,e1,e2⟩:=ziq _ hw hwl
   rw[e1,Option.bind_some,e2]
   simp only
   cases ok with
   | false=>
    rw[Bool.not_false,Bool.true_or,cond_true,jG]
    exact⟨_,_,rfl,rfl⟩
   | true=>
    rw[if_pos rfl]at e2
    rw[Bool.not_true,Bool.false_or,if_pos rfl,Option.bind_some]
    by_cases h4:ns.length=4
    ·
     match ns,h4 with
     | [x,y,w,h],_=>
      rw[decide_eq_true (by rfl),Bool.not_true,cond_false,zl ⟨by decide,(show(0:Int)<((4:Nat):Int)by decide)⟩,zl ⟨by decide,(show(1:Int)<((4:Nat):Int)by decide)⟩,zl ⟨by decide,(show(2:Int)<((4:Nat):Int)by decide)⟩,zl ⟨by decide,(show(3:Int)<((4:Nat):Int)by decide)⟩,zw,yG]
      have hp:f.has yz=true:=zci fun e=>by
       rw[e,zh4,zcy,zhm]at e2
       cases e2
      exact fin ⟨x,y,w,h⟩ [zS,kZ,yz] (by decide) (fun x hx=>by
       simp only[List.mem_cons,List.mem_nil_iff,or_false]at hx
       rcases hx with rfl | rfl | rfl
       ·
        exact hkk
       ·
        exact hz
       ·
        exact hp) (fun x=>by
        simp only[List.mem_cons,List.mem_nil_iff,or_false]
        constructor
        ·
         rintro(h | h | h)
         ·
          exact .inl (.inl h)
         ·
          exact .inl (.inr h)
         ·
          exact .inr ⟨h,h6⟩
        ·
         rintro((h | h) | h)
         ·
          exact .inl h
         ·
          exact .inr (.inl h)
         ·
          exact .inr (.inr h.1))
    ·
     rw[decide_eq_false (by omega),Bool.not_false,cond_true,jG,zgf h4]
     exact⟨_,_,rfl,rfl⟩
 ·
  rw[if_neg hk0]at hk
  rw[if_pos hk,decide_eq_true (by show k<1;omega),cond_true]
  exact⟨_,_,rfl,rfl⟩
theorem zsl {f:GMap Str Str}(hf:Fs f)(id:Str):∃e ok,zb0 id f=some (e,ok)∧qk id f=if ok=true then some e else none:=by
 unfold zb0 qk
 obtain⟨z,okz,z1,z2,z3⟩:=zar (f.getD kZ Str.nil) (by have:=hf.short kZ;omega)
 rw[z1,Option.bind_some,z2]
 simp only
 cases okz with
 | false=>
  rw[Bool.not_false,Bool.true_or,Bool.true_or,cond_true]
  exact⟨_,_,rfl,rfl⟩
 | true=>
  rw[if_pos rfl,Option.bind_some,Bool.not_true,Bool.false_or]
  by_cases hz:z<0∨1000000<z
  ·
   have:(decide (z<0) || decide (1000000<z))=true:=by rw[Bool.or_eq_true,decide_eq_true_eq,decide_eq_true_eq];exact hz
   rw[this,cond_true,if_pos hz]
   exact⟨_,_,rfl,rfl⟩
  ·
   have:(decide (z<0) || decide (1000000<z))=false:=by rw[Bool.or_eq_false_iff,decide_eq_false_iff_not,decide_eq_false_iff_not];omega
   rw[this,cond_false,if_neg hz]
   have hzh:f.has kZ=true:=zci fun e=>by
    rw[e,zhm]at z2
    cases z2
   by_cases he:f.getD zS Str.nil=QX
   ·
    rw[decide_eq_true he,cond_true,if_pos he,zw]
    obtain⟨ok,y,y1,y2⟩:=zsj hf (zci (by rw[he];decide)) hzh id
    rw[y1,Option.bind_some,y2]
    refine⟨_,_,rfl,?_⟩
    cases ok<;>rfl
   ·
    rw[decide_eq_false he,cond_false,if_neg he,zih,Option.bind_some]
    obtain⟨k,k',k1,k2,k3,k4,k5,k6,k7⟩:=zdy (t:=y4.tail) (by decide) (by decide) (f.getD zS Str.nil)
    have k1:jB y4 (f.getD zS Str.nil)=some k:=k1
    rw[k1,Option.bind_some,zw]
    obtain⟨ok,y,y1,y2⟩:=zsk hf hzh id (k:=k) k4
    rw[y1,Option.bind_some,y2]
    refine⟨_,_,rfl,?_⟩
    cases ok<;>rfl
theorem QW (m:GMap Str Str)(k:Str):vg m k=some (m.getD k Str.nil,m.has k,m.del k):=rfl
theorem zaw {m:GMap Str Str}{a k:Str}(h:k≠a):(m.del a).getD k Str.nil=m.getD k Str.nil:=by
 unfold GMap.getD GMap.del
 simp only
 rw[if_neg h]
theorem zbO {m:GMap Str Str}{a k:Str}(h:k≠a):(m.del a).has k=m.has k:=by
 unfold GMap.has GMap.del
 simp only
 rw[if_neg h]
def yT (m:GMap Str Str)(l:List Str):GMap Str Str:=l.foldl (fun m k=>m.del k) m
theorem vG (k:Str):∀(l:List Str) (m:GMap Str Str),(yT m l).f k=if k∈l then none else m.f k
 | [],m=>by simp[yT]
 | a::l,m=>by
  have:=vG k l (m.del a)
  show(yT (m.del a) l).f k=_
  rw[this]
  by_cases h1:k∈l
  ·
   rw[if_pos h1,if_pos (List.mem_cons_of_mem _ h1)]
  ·
   rw[if_neg h1]
   show(if k=a then none else m.f k)=_
   by_cases h2:k=a
   ·
    rw[if_pos h2,if_pos (by simp[h2])]
   ·
    rw[if_neg h2,if_neg (by simp[h1,h2])]
theorem ziY {N:Nat}:∀(ks:List Str) {m:GMap Str Str},(∃l,zD m l∧l.length≤N)→∃l,zD (yT m ks) l∧l.length≤N
 | [],m,h=>h
 | a::ks,m,⟨l,h1,h2⟩=>by
  obtain⟨l',a1,a2⟩:=zrb h1 a
  exact ziY ks ⟨l',a1,by omega⟩
theorem ziZ {m:GMap Str Str}{N:Nat}(h:∃l,zD m l∧l.length≤N)(ks:List Str):(yT m ks).size≤(N:Int)∧((yT m ks).size=0↔∀k,m.has k=true→k∈ks):=by
 obtain⟨l,h1,h2⟩:=ziY ks h
 rw[h1.size]
 refine⟨by omega,⟨fun hz k hk=>?_,fun hz=>?_⟩⟩
 ·
  have hl:l=[]:=List.length_eq_zero_iff.1 (by omega)
  subst hl
  by_cases hm:k∈ks
  ·
   exact hm
  ·
   have h3:=vG k ks m
   rw[if_neg hm]at h3
   have h4:(yT m ks).f k=none:=by
    cases e:(yT m ks).f k with
    | none=>rfl
    | some v=>exact absurd ((h1.mem k v).2 e) (by simp)
   unfold GMap.has at hk
   rw[←h3,h4]at hk
   cases hk
 ·
  have hl:l=[]:=List.eq_nil_iff_forall_not_mem.2 fun x hx=>by
   have h3:=(h1.mem x.1 x.2).1 hx
   rw[vG]at h3
   split at h3
   ·
    cases h3
   ·
    rename_i hn
    exact hn (hz x.1 (by unfold GMap.has;rw[h3];rfl))
  rw[hl];rfl
theorem zuo {f:GMap Str Str}(hf:Fs f)(ht:okT f zI)(hc:okT f zK)(id:Str):
    ∃y ok g,zc6 (yT f [zS,kZ,zI,zK])=some (y,ok,g)∧vK id f=if ok=true then some { y with Id:=id,Text:=f.getD zI Str.nil,Class:=f.getD zK Str.nil }else none:=by
  obtain⟨l0,h0,hl0⟩:=hf.list
  unfold zc6
  have g1:(yT f [zS,kZ,zI,zK]).getD qe Str.nil=f.getD qe Str.nil:=by unfold GMap.getD;rw[vG,if_neg (by decide)]
  have g2:((yT f [zS,kZ,zI,zK]).del qe).getD kTo Str.nil=f.getD kTo Str.nil:=by
    show(yT f [zS,kZ,zI,zK,qe]).getD kTo Str.nil=_
    unfold GMap.getD;rw[vG,if_neg (by decide)]
  have g3:(((yT f [zS,kZ,zI,zK]).del qe).del kTo).getD yE Str.nil=f.getD yE Str.nil:=by
    show(yT f [zS,kZ,zI,zK,qe,kTo]).getD yE Str.nil=_
    unfold GMap.getD;rw[vG,if_neg (by decide)]
  have g4:(((yT f [zS,kZ,zI,zK]).del qe).del kTo).has yE=f.has yE:=by
    show(yT f [zS,kZ,zI,zK,qe,kTo]).has yE=_
    unfold GMap.has;rw[vG,if_neg (by decide)]
  rw[zw,QW,Option.bind_some,QW,Option.bind_some,QW,Option.bind_some,zw]
  simp only
  rw[g1,g2,g3,g4,show(((yT f [zS,kZ,zI,zK]).del qe).del kTo).del yE=yT f [zS,kZ,zI,zK,qe,kTo,yE]from rfl]
  obtain⟨hs1,hs2⟩:=ziZ ⟨l0,h0,hl0⟩ [zS,kZ,zI,zK,qe,kTo,yE]
  have hF:(yT f [zS,kZ,zI,zK,qe,kTo,yE]).size=0↔Q1 f:=by
    rw[hs2]
    exact⟨fun h=>⟨h,ht,hc⟩,fun h=>h.only⟩
  obtain⟨a,oka,a1,a2⟩:=zlz (f.getD qe Str.nil) (hf.short _)
  obtain⟨b,okb,b1,b2⟩:=zlz (f.getD kTo Str.nil) (hf.short _)
  rw[a1,Option.bind_some,zw,b1,Option.bind_some,zw]
  simp only
  have fin:∀(p:List zz),∃y ok g,(need ((oka&&okb)=true→(yT f [zS,kZ,zI,zK,qe,kTo,yE]).size≤9223372036854775807) <|
        some ((⟨Str.nil,a,b,p,Str.nil,Str.nil⟩:zu),(oka&&okb)&&decide ((yT f [zS,kZ,zI,zK,qe,kTo,yE]).size=0),yT f [zS,kZ,zI,zK,qe,kTo,yE]))=some (y,ok,g)∧
      ((qU (f.getD qe Str.nil)).bind fun a=>(qU (f.getD kTo Str.nil)).bind fun b=>by
        classical
        exact if Q1 f then some (⟨id,a,b,p,f.getD zI Str.nil,f.getD zK Str.nil⟩:zu)else none)=if ok=true then some { y with Id:=id,Text:=f.getD zI Str.nil,Class:=f.getD zK Str.nil }else none:=fun p=>by
    rw[zl (fun _=>by omega),a2,b2]
    refine⟨_,_,_,rfl,?_⟩
    cases ha:oka with
    | false=>rfl
    | true =>
      cases hb:okb with
      | false=>rfl
      | true =>
        rw[if_pos rfl,if_pos rfl,Option.bind_some,Option.bind_some,Bool.and_self,Bool.true_and]
        by_cases c:Q1 f
        · rw[decide_eq_true (hF.2 c),if_pos c,if_pos rfl]
        · rw[if_neg c,decide_eq_false (fun h=>c (hF.1 h)),if_neg (by decide)]
  unfold vK
  by_cases hb:f.has yE=true
  · obtain⟨ns,ok,e1,e2⟩:=zdE (f.getD yE Str.nil) (hf.short _)
    rw[hb,cond_true,e1,Option.bind_some,if_pos rfl]
    unfold Y4
    rw[e2]
    simp only
    cases ok with
    | false =>
      rw[Bool.not_false,Bool.true_or,cond_true,jG]
      refine⟨_,_,_,rfl,?_⟩
      simp
    | true =>
      rw[if_pos rfl]at e2
      have hwl:(yJ (f.getD yE Str.nil)).length≤100000000:=by
        have:=zdz (f.getD yE Str.nil)
        have:=hf.short yE
        omega
      have hnl:ns.length≤100000000:=by rw[za4 e2];exact hwl
      have htm:(ns.length:Int).tmod 2=((ns.length % 2:Nat):Int):=by rw[Int.tmod_eq_emod_of_nonneg (by omega)];omega
      rw[Bool.not_true,Bool.false_or,if_pos rfl,Option.bind_some,htm]
      by_cases h2:ns.length % 2=1
      · rw[decide_eq_false (by omega),Bool.not_false,cond_true,jG,if_pos h2]
        refine⟨_,_,_,rfl,?_⟩
        simp
      · rw[decide_eq_true (by omega),Bool.not_true,cond_false,zn1 ns hnl (by omega),Option.bind_some,yG,if_neg h2]
        exact fin (Qz ns)
  · rw[Bool.eq_false_iff.2 hb,cond_false,yG,if_neg (by decide)]
    exact fin []
theorem zup {f:GMap Str Str}(hf:Fs f)(ht:okT f zI)(hc:okT f zK)(id:Str):
  ∃y ok g,zc7 (f.getD zS Str.nil) (yT f [zS,kZ,zI,zK])=some (y,ok,g)∧Qm id f=if ok=true then some { y with Id:=id,Text:=f.getD zI Str.nil,Class:=f.getD zK Str.nil }else none:=by
 obtain⟨l0,h0,hl0⟩:=hf.list
 unfold zc7 Qm
 have hfl:vU (⟨[98,111,120,32,114,111,117,110,100,32,111,118,97,108,32,100,105,97,109,111,110,100,32,110,111,116,101,32,103,114,111,117,112]⟩:Str)=some y4.tail:=by
  unfold vU
  rw[show j9 (⟨[98,111,120,32,114,111,117,110,100,32,111,118,97,108,32,100,105,97,109,111,110,100,32,110,111,116,101,32,103,114,111,117,112]⟩:Str)=y4.tail by decide]
  exact zl (by decide)
 obtain⟨k,k',k1,k2,k3,k4,k5,k6,k7⟩:=zdy (t:=y4.tail) (by decide) (by decide) (f.getD zS Str.nil)
 have k3:W (k'+1)=qw y4 (f.getD zS Str.nil):=k3
 rw[zw,hfl,Option.bind_some,k2,Option.bind_some,k3,zw,QW,Option.bind_some]
 generalize hK:qw y4 (f.getD zS Str.nil)=K
 have g1:(yT f [zS,kZ,zI,zK]).getD yz Str.nil=f.getD yz Str.nil:=by unfold GMap.getD;rw[vG,if_neg (by decide)]
 have g2:(yT f [zS,kZ,zI,zK]).has yz=f.has yz:=by unfold GMap.has;rw[vG,if_neg (by decide)]
 simp only
 rw[g1,g2]
 by_cases hK0:K=0
 ·
  rw[decide_eq_true hK0,Bool.true_or,cond_true,if_pos hK0]
  exact⟨_,_,_,rfl,rfl⟩
 rw[decide_eq_false hK0,Bool.false_or,if_neg hK0]
 have fin:∀(bx:Box),f.has yz=(!decide (K=6))→∃y ok g,(Option.bind (vg ((yT f [zS,kZ,zI,zK]).del yz) yM) fun r5=>
   Option.bind (vg r5.2.2 yP) fun r6=>
   bnd ({ { (⟨Str.nil,K,bx,Str.nil,Str.nil,Str.nil,false⟩:zh)with Parent:=r5.1 }with Locked:=r6.2.1 }) fun v4=>
   need (((!(r5.2.1&&(decide (r5.1=Str.nil))))&&(!(r6.2.1&&(!decide (r6.1=Qs)))))=true→r6.2.2.size≤9223372036854775807) <|
   some (v4,((!(r5.2.1&&(decide (r5.1=Str.nil))))&&(!(r6.2.1&&(!decide (r6.1=Qs)))))&&(decide (r6.2.2.size=0)),r6.2.2))=some (y,ok,g)∧
   (by
    classical
    exact if Q2 f K then some (⟨id,K,bx,f.getD zI Str.nil,f.getD zK Str.nil,f.getD yM Str.nil,f.has yP⟩:zh)else none)=if ok=true then some { y with Id:=id,Text:=f.getD zI Str.nil,Class:=f.getD zK Str.nil }else none:=fun bx hp=>by
  have p1:((yT f [zS,kZ,zI,zK]).del yz).getD yM Str.nil=f.getD yM Str.nil:=by
   show(yT f [zS,kZ,zI,zK,yz]).getD yM Str.nil=_
   unfold GMap.getD;rw[vG,if_neg (by decide)]
  have p2:((yT f [zS,kZ,zI,zK]).del yz).has yM=f.has yM:=by
   show(yT f [zS,kZ,zI,zK,yz]).has yM=_
   unfold GMap.has;rw[vG,if_neg (by decide)]
  have p3:(((yT f [zS,kZ,zI,zK]).del yz).del yM).getD yP Str.nil=f.getD yP Str.nil:=by
   show(yT f [zS,kZ,zI,zK,yz,yM]).getD yP Str.nil=_
   unfold GMap.getD;rw[vG,if_neg (by decide)]
  have p4:(((yT f [zS,kZ,zI,zK]).del yz).del yM).has yP=f.has yP:=by
   show(yT f [zS,kZ,zI,zK,yz,yM]).has yP=_
   unfold GMap.has;rw[vG,if_neg (by decide)]
  rw[QW,Option.bind_some,QW,Option.bind_some,zw]
  simp only
  rw[p1,p2,p3,p4,show(((yT f [zS,kZ,zI,zK]).del yz).del yM).del yP=yT f [zS,kZ,zI,zK,yz,yM,yP]from rfl]
  obtain⟨hs1,hs2⟩:=ziZ ⟨l0,h0,hl0⟩ [zS,kZ,zI,zK,yz,yM,yP]
  rw[zl (fun _=>by omega)]
  refine⟨_,_,_,rfl,?_⟩
  have hF:(((!(f.has yM&&decide (f.getD yM Str.nil=Str.nil)))&&(!(f.has yP&&(!decide (f.getD yP Str.nil=Qs)))))&&decide ((yT f [zS,kZ,zI,zK,yz,yM,yP]).size=0))=true↔Q2 f K:=by
   rw[Bool.and_eq_true,decide_eq_true_eq,hs2,Bool.and_eq_true,Bool.not_eq_true',Bool.not_eq_true']
   constructor
   ·
    rintro⟨⟨h1,h2⟩,h3⟩
    refine⟨fun x hx=>?_,ht,hc,fun⟨a,b⟩=>?_,fun a=>?_⟩
    ·
     have:=h3 x hx
     simp only[List.mem_cons,List.mem_nil_iff,or_false]at this
     rcases this with h | h | h | h | h | h | h
     ·
      exact .inl (by simp[h])
     ·
      exact .inl (by simp[h])
     ·
      exact .inl (by simp[h])
     ·
      exact .inl (by simp[h])
     ·
      refine .inr ⟨h,fun h6=>?_⟩
      rw[h]at hx
      rw[hx,h6]at hp
      exact absurd hp (by decide)
     ·
      exact .inl (by simp[h])
     ·
      exact .inl (by simp[h])
    ·
     rw[a,decide_eq_true b]at h1;cases h1
    ·
     rw[a,Bool.true_and,Bool.not_eq_false',decide_eq_true_eq]at h2
     exact h2
   ·
    intro h
    refine⟨⟨?_,?_⟩,fun x hx=>?_⟩
    ·
     cases e:f.has yM with
     | false=>rfl
     | true=>
      rw[Bool.true_and,decide_eq_false_iff_not]
      exact fun e'=>h.par ⟨e,e'⟩
    ·
     cases e:f.has yP with
     | false=>rfl
     | true=>rw[Bool.true_and,h.lock e];rfl
    ·
     rcases h.only x hx with h | h
     ·
      simp only[List.mem_cons,List.mem_nil_iff,or_false]at h⊢
      rcases h with h | h | h | h | h | h<;>simp[h]
     ·
      simp[h.1]
  by_cases c:Q2 f K
  ·
   rw[if_pos c,if_pos (hF.2 c)]
  ·
   rw[if_neg c,if_neg (fun h=>c (hF.1 h))]
 by_cases hsame:f.has yz=decide (K=6)
 ·
  rw[decide_eq_true hsame,cond_true]
  refine⟨_,_,_,rfl,?_⟩
  rw[if_neg (show ¬(false=true)by decide)]
  by_cases h6:K=6
  ·
   rw[if_pos h6,Option.bind_some,if_neg]
   intro h
   rw[decide_eq_true h6]at hsame
   rcases h.only _ hsame with h | h
   ·
    exact absurd h (by decide)
   ·
    exact h.2 h6
  ·
   rw[if_neg h6]
   have:f.getD yz Str.nil=Str.nil:=zj3 (by rw[hsame,decide_eq_false h6])
   rw[this,zh4,zcy,zhm];rfl
 ·
  have hp:f.has yz=(!decide (K=6)):=by
   cases h1:f.has yz<;>cases h2:decide (K=6)<;>first | rfl | (rw[h1,h2]at hsame;exact absurd rfl hsame)
  rw[decide_eq_false hsame,cond_false]
  by_cases h6:K=6
  ·
   have hp':f.has yz=false:=by rw[hp,decide_eq_true h6];rfl
   rw[hp',cond_false,yG,if_pos h6,Option.bind_some]
   exact fin qh hp
  ·
   have hp':f.has yz=true:=by rw[hp,decide_eq_false h6];rfl
   rw[hp',cond_true,if_neg h6]
   obtain⟨ns,ok,e1,e2⟩:=zdE (f.getD yz Str.nil) (hf.short _)
   rw[e1,Option.bind_some,e2]
   simp only
   cases ok with
   | false=>
    rw[Bool.not_false,Bool.true_or,cond_true,jG]
    exact⟨_,_,_,rfl,rfl⟩
   | true=>
    rw[Bool.not_true,Bool.false_or,if_pos rfl,Option.bind_some]
    by_cases h4:ns.length=4
    ·
     match ns,h4 with
     | [x,y,w,h],_=>
      rw[decide_eq_true (by rfl),Bool.not_true,cond_false,zl ⟨by decide,(show(0:Int)<((4:Nat):Int)by decide)⟩,zl ⟨by decide,(show(1:Int)<((4:Nat):Int)by decide)⟩,zl ⟨by decide,(show(2:Int)<((4:Nat):Int)by decide)⟩,zl ⟨by decide,(show(3:Int)<((4:Nat):Int)by decide)⟩,zw,yG]
      exact fin ⟨x,y,w,h⟩ hp
    ·
     rw[decide_eq_false (by omega),Bool.not_false,cond_true,jG,zgf h4]
     exact⟨_,_,_,rfl,rfl⟩
end
theorem zul {s:Str}(h:yp s=0):s.b.length≤1000:=(zdu.1 h).1
theorem j4.fs {l:List zv}(h:j4 l){t:zv}(ht:t∈l):Fs (qd t.Attrs):=by
 have hL:=zix (h.fields t ht)
 refine⟨⟨_,hL,by rw[List.length_map];have:=(h.some t ht).2;omega⟩,fun k=>?_⟩
 unfold GMap.getD
 cases e:(qd t.Attrs).f k with
 | none=>exact Nat.zero_le _
 | some v=>
  obtain⟨a,ha,e2⟩:=List.mem_map.1 ((hL.mem k v).2 e)
  obtain⟨_,rfl⟩:=Prod.mk.inj e2
  have:=zul (h.field t ht a ha).2
  show a.Value.b.length≤_
  omega
theorem j4.one {l:List zv}(h:j4 l){t:zv}(ht:t∈l):j4 [t]:=by
 refine⟨by simp,fun x hx=>?_,fun x hx=>?_,fun x hx=>?_,by simp,fun x hx=>?_⟩<;>rw[List.mem_singleton.1 hx]
 ·
  exact h.id t ht
 ·
  exact h.some t ht
 ·
  exact h.field t ht
 ·
  exact h.fields t ht
theorem zro (t:zv):YU [t]=(GMap.nil:GMap Str (GMap Str Str)).set t.Id (qd t.Attrs):=rfl
theorem JH {s:Str}(h:s.b.length≤100000000):zF s:=Nat.le_trans h (by decide)
theorem zeb:zF (0:Int):=(by decide:InI 0)
theorem zlh {s:Str}{n:Int}(hs:s.b.length≤4294967281)(h:qr s=some n):InI n:=by
 obtain⟨m,b,h1,h2,h3⟩:=zar s hs
 rw[h2]at h
 cases b with
 | false=>cases h
 | true=>
  obtain rfl:=Option.some.inj h
  exact(h3 rfl).1
theorem zhn:∀{l:List Str} {ns:List Int},(∀s∈l,s.b.length≤4294967281)→yU l=some ns→∀n∈ns,InI n
 | [],ns,_,h,n,hn=>by
  unfold yU at h
  obtain rfl:=Option.some.inj h
  cases hn
 | s::l,ns,hs,h,n,hn=>by
  unfold yU at h
  cases h1:qr s with
  | none=>rw[h1]at h;cases h
  | some m=>
   rw[h1]at h
   cases h2:yU l with
   | none=>rw[h2]at h;cases h
   | some r=>
    rw[h2]at h
    obtain rfl:=Option.some.inj h
    rcases List.mem_cons.1 hn with rfl | hn
    ·
     exact zlh (hs s (by simp)) h1
    ·
     exact zhn (fun x hx=>hs x (by simp[hx])) h2 n hn
theorem zno (t:List Str)(hn:(Str.nil::t).Nodup)(hl:t.length≤100)(b:Str):InI (qw (Str.nil::t) b):=by
 obtain⟨k,k',_,_,_,k4,k5,k6,k7⟩:=zdy hn hl b
 unfold InI
 split at k4<;>omega
theorem zjj {s:Str}{y:zO}(hs:s.b.length≤10000000)(h:qU s=some y):zF y:=by
 unfold qU at h
 split at h
 ·
  rename_i a b c e
  have hm:∀w∈yJ s,w.b.length≤10000000:=fun w hw=>by have:=zaj hw;omega
  rw[e]at hm
  split at h
  ·
   cases h
  ·
   cases hn:qr c with
   | none=>rw[hn]at h;cases h
   | some n=>
    rw[hn]at h
    obtain rfl:=Option.some.inj h
    exact⟨JH (Nat.le_trans (hm a (by simp)) (by decide)),zno qs.tail (by decide) (by decide) b,zlh (by have:=hm c (by simp);omega) hn⟩
 ·
  cases h
theorem zlx:∀(ns:List Int),(∀n∈ns,InI n)→(∀p∈Qz ns,zF p)∧(Qz ns).length≤ns.length
 | [],_=>⟨fun p hp=>(by cases hp),Nat.le_refl _⟩
 | [_],_=>⟨fun p hp=>(by cases hp),Nat.zero_le _⟩
 | x::y::r,h=>by
  obtain⟨h1,h2⟩:=zlx r (fun n hn=>h n (by simp[hn]))
  refine⟨fun p hp=>?_,?_⟩
  ·
   rw[Qz]at hp
   rcases List.mem_cons.1 hp with rfl | hp
   ·
    exact⟨h x (by simp),h y (by simp)⟩
   ·
    exact h1 p hp
  ·
   rw[Qz,List.length_cons,List.length_cons,List.length_cons];omega
theorem znr {s:Str}(hs:s.b.length≤10000000):∀w∈yJ s,w.b.length≤4294967281:=fun w hw=>by have:=zaj hw;omega
theorem zr9 {s:Str}{p:List zz}(hs:s.b.length≤10000000)(h:Y4 s=some p):zF p:=by
 unfold Y4 at h
 cases hn:yU (yJ s)with
 | none=>rw[hn]at h;cases h
 | some ns=>
  rw[hn,Option.bind_some]at h
  split at h
  ·
   cases h
  ·
   obtain rfl:=Option.some.inj h
   obtain⟨h1,h2⟩:=zlx ns (zhn (znr hs) hn)
   have:=za4 hn
   have:=zdz s
   exact⟨Nat.le_trans (Nat.le_trans h2 (by omega:ns.length≤100000000)) (by decide),h1⟩
theorem zoS {id:Str}{f:GMap Str Str}{x:zu}(hf:Fs f)(hid:zF id)(h:vK id f=some x):zF x∧x.Id=id:=by
 unfold vK at h
 cases ha:qU (f.getD qe Str.nil)with
 | none=>rw[ha]at h;cases h
 | some a=>
  cases hb:qU (f.getD kTo Str.nil)with
  | none=>rw[ha,hb]at h;cases h
  | some b=>
   rw[ha,hb,Option.bind_some,Option.bind_some]at h
   have key:∀p:List zz,zF p→(by
     classical
     exact if Q1 f then some (⟨id,a,b,p,f.getD zI Str.nil,f.getD zK Str.nil⟩:zu)else none)=some x→zF x∧x.Id=id:=fun p hp h=>by
    split at h
    ·
     obtain rfl:=Option.some.inj h
     exact⟨⟨hid,zjj (hf.short _) ha,zjj (hf.short _) hb,hp,JH (Nat.le_trans (hf.short _) (by decide)),JH (Nat.le_trans (hf.short _) (by decide))⟩,rfl⟩
    ·
     cases h
   by_cases hbn:f.has yE=true
   ·
    rw[if_pos hbn]at h
    cases hp:Y4 (f.getD yE Str.nil)with
    | none=>rw[hp]at h;cases h
    | some p=>
     rw[hp,Option.bind_some]at h
     exact key p (zr9 (hf.short _) hp) h
   ·
    rw[if_neg hbn,Option.bind_some]at h
    exact key [] ⟨by decide,fun p hp=>by cases hp⟩ h
theorem zrK {id:Str}{f:GMap Str Str}{n:zh}(hf:Fs f)(hid:zF id)(h:Qm id f=some n):zF n∧n.Id=id:=by
 unfold Qm at h
 split at h
 ·
  cases h
 have key:∀b:Box,zF b→(by
   classical
   exact if Q2 f (qw y4 (f.getD zS Str.nil))then some (⟨id,qw y4 (f.getD zS Str.nil),b,f.getD zI Str.nil,f.getD zK Str.nil,f.getD yM Str.nil,f.has yP⟩:zh)else none)=some n→zF n∧n.Id=id:=fun b hb h=>by
  split at h
  ·
   obtain rfl:=Option.some.inj h
   exact⟨⟨hid,zno y4.tail (by decide) (by decide) _,hb,JH (Nat.le_trans (hf.short _) (by decide)),JH (Nat.le_trans (hf.short _) (by decide)),JH (Nat.le_trans (hf.short _) (by decide)),trivial⟩,rfl⟩
  ·
   cases h
 split at h
 ·
  rw[Option.bind_some]at h
  exact key qh ⟨zeb,zeb,zeb,zeb⟩ h
 ·
  cases hn:yU (yJ (f.getD yz Str.nil))with
  | none=>rw[hn]at h;cases h
  | some ns=>
   rw[hn,Option.bind_some]at h
   have hin:=zhn (znr (hf.short yz)) hn
   by_cases h4:ns.length=4
   ·
    match ns,h4,hin,h with
    | [x,y,w,u],_,hin,h=>
     exact key ⟨x,y,w,u⟩ ⟨hin x (by simp),hin y (by simp),hin w (by simp),hin u (by simp)⟩ h
   ·
    rw[zgf h4]at h;cases h
def eid (e:zf):Str:=match e.node with
 | some n=>n.Id
 | none=>match e.edge with
  | some x=>x.Id
  | none=>Str.nil
structure zam (e:zf):Prop where
 z0:0≤e.z
 z1:e.z≤1000000
 one:(∃n,e.node=some n∧e.edge=none∧zF n)∨∃x,e.node=none∧e.edge=some x∧zF x
theorem zo8 {id:Str}{f:GMap Str Str}{e:zf}(hf:Fs f)(hid:zF id)(h:qk id f=some e):zam e∧eid e=id:=by
 unfold qk at h
 cases hz:qr (f.getD kZ Str.nil)with
 | none=>rw[hz]at h;cases h
 | some z=>
  rw[hz,Option.bind_some]at h
  split at h
  ·
   cases h
  ·
   rename_i hzz
   split at h
   ·
    cases hx:vK id f with
    | none=>rw[hx]at h;cases h
    | some x=>
     rw[hx]at h
     obtain rfl:=Option.some.inj h
     obtain⟨h1,h2⟩:=zoS hf hid hx
     exact⟨⟨by show 0≤z;omega,by show z≤_;omega,.inr ⟨x,rfl,rfl,h1⟩⟩,h2⟩
   ·
    cases hx:Qm id f with
    | none=>rw[hx]at h;cases h
    | some n=>
     rw[hx]at h
     obtain rfl:=Option.some.inj h
     obtain⟨h1,h2⟩:=zrK hf hid hx
     exact⟨⟨by show 0≤z;omega,by show z≤_;omega,.inl ⟨n,rfl,rfl,h1⟩⟩,h2⟩
noncomputable def y3:List zv→Option (List zf)
 | []=>some []
 | t::l=>match qk t.Id (qd t.Attrs)with
  | none=>none
  | some e=>(y3 l).map (e:: ·)
theorem zgE (t:zv):∀l:List zv,y3 (l++[t])=(y3 l).bind fun es=>(qk t.Id (qd t.Attrs)).map fun e=>es++[e]
 | []=>by
  show y3 [t]=_
  unfold y3
  cases qk t.Id (qd t.Attrs)<;>rfl
 | a::l=>by
  rw[List.cons_append,y3,y3,zgE t l]
  cases qk a.Id (qd a.Attrs)with
  | none=>rfl
  | some e=>
   cases y3 l with
   | none=>rfl
   | some es=>cases qk t.Id (qd t.Attrs)<;>rfl
theorem zgD {t:zv}(h:qk t.Id (qd t.Attrs)=none):∀(a b:List zv),y3 (a++t::b)=none
 | [],b=>by rw[List.nil_append,y3,h]
 | x::a,b=>by
  rw[List.cons_append,y3,zgD h a b]
  cases qk x.Id (qd x.Attrs)<;>rfl
theorem zdW:∀{l:List zv} {es:List zf},y3 l=some es→es.map some=l.map fun t=>qk t.Id (qd t.Attrs)
 | [],es,h=>by
  unfold y3 at h
  obtain rfl:=Option.some.inj h
  rfl
 | t::l,es,h=>by
  unfold y3 at h
  cases h1:qk t.Id (qd t.Attrs)with
  | none=>rw[h1]at h;cases h
  | some e=>
   rw[h1]at h
   cases h2:y3 l with
   | none=>rw[h2]at h;cases h
   | some r=>
    rw[h2]at h
    obtain rfl:=Option.some.inj h
    rw[List.map_cons,List.map_cons,zdW h2,h1]
theorem zdV {l:List zv}{es:List zf}(h:y3 l=some es):es.length=l.length:=by
 have:=congrArg List.length (zdW h)
 rwa [List.length_map,List.length_map]at this
theorem zgC {l:List zv}{es:List zf}(hl:j4 l)(h:y3 l=some es):(∀e∈es,zam e)∧es.map eid=l.map (·.Id):=by
 have hm:=zdW h
 have hlen:=zdV h
 have key:∀(i:Nat) (hi:i<l.length) (hj:i<es.length),zam es[i]∧eid es[i]=l[i].Id:=fun i hi hj=>by
  have h1:(es.map some)[i]'(by rw[List.length_map];exact hj)=(l.map fun t=>qk t.Id (qd t.Attrs))[i]'(by rw[List.length_map];exact hi):=by simp only[hm]
  rw[List.getElem_map,List.getElem_map]at h1
  have hin:=List.getElem_mem hi
  exact zo8 (hl.fs hin) (JH (by have:=zcw (hl.id _ hin);omega)) h1.symm
 refine⟨fun e he=>?_,?_⟩
 ·
  obtain⟨i,hi,rfl⟩:=List.getElem_of_mem he
  exact(key i (by omega) hi).1
 ·
  refine List.ext_getElem (by rw[List.length_map,List.length_map,hlen]) fun i h1 h2=>?_
  rw[List.length_map]at h1 h2
  rw[List.getElem_map,List.getElem_map]
  exact(key i h2 h1).2
def yL (es:List zf):List yt:=es.filterMap fun e=>e.node.map fun n=>⟨e.z,n.Id,n⟩
def yK (es:List zf):List yu:=es.filterMap fun e=>e.edge.map fun x=>⟨e.z,x.Id,x⟩
noncomputable def vH (es:List zf):Doc:=⟨(JP je (fun x=>(x.z,x.id)) (yL es)).map (·.x),(JP je (fun x=>(x.z,x.id)) (yK es)).map (·.x)⟩
def eLt (a b:zf):Prop:=je (a.z,eid a) (b.z,eid b)<0
theorem zlb {r:List zf}(h:r.Pairwise eLt):(yL r).Pairwise (kLt je fun x=>(x.z,x.id)):=by
 unfold yL
 rw[List.pairwise_filterMap]
 refine h.imp fun {a b} hab x hx y hy=>?_
 cases ha:a.node with
 | none=>rw[ha]at hx;cases hx
 | some n=>
  cases hb:b.node with
  | none=>rw[hb]at hy;cases hy
  | some m=>
   rw[ha]at hx
   rw[hb]at hy
   obtain rfl:=Option.some.inj hx
   obtain rfl:=Option.some.inj hy
   unfold eLt eid at hab
   rw[ha,hb]at hab
   exact hab
theorem zi5 {r:List zf}(hT:∀e∈r,zam e)(h:r.Pairwise eLt):(yK r).Pairwise (kLt je fun x=>(x.z,x.id)):=by
 unfold yK
 rw[List.pairwise_filterMap]
 refine(List.Pairwise.and_mem.1 h).imp fun {a b} ⟨ma,mb,hab⟩ x hx y hy=>?_
 cases ha:a.edge with
 | none=>rw[ha]at hx;cases hx
 | some n=>
  cases hb:b.edge with
  | none=>rw[hb]at hy;cases hy
  | some m=>
   rw[ha]at hx
   rw[hb]at hy
   obtain rfl:=Option.some.inj hx
   obtain rfl:=Option.some.inj hy
   have na:a.node=none:=by
    rcases(hT a ma).one with⟨_,_,h2,_⟩ | ⟨_,h1,_⟩
    ·
     rw[h2]at ha;cases ha
    ·
     exact h1
   have nb:b.node=none:=by
    rcases(hT b mb).one with⟨_,_,h2,_⟩ | ⟨_,h1,_⟩
    ·
     rw[h2]at hb;cases hb
    ·
     exact h1
   unfold eLt eid at hab
   rw[na,nb,ha,hb]at hab
   exact hab
theorem zgs {es r:List zf}(hT:∀e∈es,zam e)(hp:r.Perm es)(hs:r.Pairwise eLt):vH es=⟨(yL r).map (·.x),(yK r).map (·.x)⟩:=by
 have p1:(yL r).Perm (yL es):=hp.filterMap _
 have p2:(yK r).Perm (yK es):=hp.filterMap _
 unfold vH
 rw[JQ Q9 p1 (zlb hs),JQ Q9 p2 (zi5 (fun e he=>hT e (hp.mem_iff.1 he)) hs)]
theorem zi3 {es:List zf}(hn:(es.map eid).Pairwise fun a b=>zQ a.b b.b<0){M:List zf}(h:Sd (fun a b:zf=>decide (a.z<b.z)) es M):M.Pairwise eLt:=by
 rw[List.pairwise_map]at hn
 have hk:=h.kept (fun a b=>zQ (eid a).b (eid b).b<0) (hn.imp fun h=>.inl h)
 refine(hk.and h.srtd).imp fun {a b} ⟨h1,h2⟩=>?_
 unfold eLt
 have h2:=of_decide_eq_false h2
 by_cases e:a.z=b.z
 ·
  rw[Q8 e]
  rcases h1 with h1 | h1
  ·
   exact h1
  ·
   have:=of_decide_eq_true h1
   omega
 ·
  rw[Qb e]
  show a.z - b.z<0
  omega
theorem zm2:Swo (fun _=>True) (fun a b:zf=>decide (a.z<b.z)) zaz:=by
 refine⟨fun x y _ _=>?_,fun x y _ _ h=>?_,fun x y z _ _ _ h1 h2=>?_⟩
 ·
  unfold zaz
  have hnan:∀v:Int,Jx v=some false:=fun v=>by unfold Jx;simp
  rcases Int.lt_trichotomy x.z y.z with h | h | h
  ·
   refine⟨-1,?_,?_⟩
   ·
    unfold Ya
    simp[hnan,h]
   ·
    simp[h]
  ·
   refine⟨0,?_,?_⟩
   ·
    unfold Ya
    simp[hnan,h]
   ·
    simp[h]
  ·
   refine⟨1,?_,?_⟩
   ·
    unfold Ya
    simp[hnan,h,Int.lt_asymm h]
   ·
    simp;omega
 ·
  have:=of_decide_eq_true h
  exact decide_eq_false (by omega)
 ·
  have:=of_decide_eq_false h1
  have:=of_decide_eq_false h2
  exact decide_eq_false (by omega)
theorem znJ {l:List zv}(h:j4 l):zZ (l.length:Int) (zbR l (YU l)) (fun s=>(Res.nx s:Res (List zf) (Doc×Int))) ([]:List zf)=some (match y3 l with | some es=>Res.nx es | none=>Res.ab ((⟨[],[]⟩:Doc),8)):=by
 have hl:=h.len
 obtain⟨e,h1,h2⟩:=QU (n:=(l.length:Int)) (step:=zbR l (YU l)) (fin:=fun s=>(Res.nx s:Res (List zf) (Doc×Int))) (s0:=([]:List zf)) (fun i s=>y3 (l.take i)=some s∧s.length=i)
  (fun e=>e=match y3 l with | some es=>Res.nx es | none=>Res.ab ((⟨[],[]⟩:Doc),8)) (by omega) ⟨rfl,rfl⟩ (fun i s hi hI=>by
   have hi':i<l.length:=by omega
   have hin:=List.getElem_mem hi'
   have hg:(YU l).getD l[i].Id GMap.nil=qd l[i].Attrs:=by unfold GMap.getD;rw[zrm h hin];rfl
   obtain⟨y,ok,r1,r2⟩:=zsl (h.fs hin) l[i].Id
   unfold zbR
   rw[zl ⟨by omega,by omega⟩,zw,zP hi',hg,r1,Option.bind_some]
   cases ok with
   | false=>
    rw[if_neg (by decide)]at r2
    refine .inr ⟨_,rfl,?_⟩
    have:l=l.take i++l[i]::l.drop (i+1):=by rw[←List.drop_eq_getElem_cons hi',List.take_append_drop]
    have hno:=zgD r2 (l.take i) (l.drop (i+1))
    rw[←this]at hno
    rw[hno]
   | true=>
    rw[if_pos rfl]at r2
    rw[Bool.not_true,cond_false,zl (by rw[jV,List.length_singleton];omega)]
    refine .inl ⟨_,rfl,?_,?_⟩
    ·
     rw[List.take_succ_eq_append_getElem hi',zgE,hI.1,r2];rfl
    ·
     rw[List.length_append,List.length_singleton,hI.2])
  (fun s hI=>by
   rw[show(l.length:Int).toNat=l.length by omega,List.take_length]at hI
   rw[hI.1])
 rw[h1,h2]
theorem znI {r:List zf}(hT:∀e∈r,zam e)(hl:r.length≤2000):y7 (r.length:Int) (zbS r) (⟨[],[]⟩:Doc)=some ⟨(yL r).map (·.x),(yK r).map (·.x)⟩:=by
 have hn:∀k,((yL (r.take k)).map (·.x)).length≤r.length∧((yK (r.take k)).map (·.x)).length≤r.length:=fun k=>by
  have h1:=List.length_filterMap_le (fun e:zf=>e.node.map fun n=>(⟨e.z,n.Id,n⟩:yt)) (r.take k)
  have h2:=List.length_filterMap_le (fun e:zf=>e.edge.map fun x=>(⟨e.z,x.Id,x⟩:yu)) (r.take k)
  rw[List.length_take]at h1 h2
  rw[List.length_map,List.length_map]
  unfold yL yK
  omega
 obtain⟨s,h1,h2⟩:=vB (n:=(r.length:Int)) (step:=zbS r) (s0:=(⟨[],[]⟩:Doc)) (fun i s=>s=⟨(yL (r.take i)).map (·.x),(yK (r.take i)).map (·.x)⟩) (by omega) rfl (fun i s hi hI=>by
  have hi':i<r.length:=by omega
  have hlen:=hn i
  subst hI
  unfold zbS
  rw[zl ⟨by omega,by omega⟩,zw,zP hi',List.take_succ_eq_append_getElem hi']
  have e1:yL (r.take i++[r[i]])=yL (r.take i)++yL [r[i]]:=List.filterMap_append
  have e2:yK (r.take i++[r[i]])=yK (r.take i)++yK [r[i]]:=List.filterMap_append
  rw[e1,e2]
  rcases(hT _ (List.getElem_mem hi')).one with⟨n,a,b,_⟩ | ⟨x,a,b,_⟩
  ·
   have f1:yL [r[i]]=[⟨r[i].z,n.Id,n⟩]:=by unfold yL;simp[a]
   have f2:yK [r[i]]=[]:=by unfold yK;simp[b]
   rw[a,f1,f2]
   refine⟨_,?_,rfl⟩
   simp only[Option.isSome_some,cond_true,Option.bind_some]
   rw[zl (by rw[jV,List.length_singleton];omega)]
   simp
  ·
   have f1:yL [r[i]]=[]:=by unfold yL;simp[a]
   have f2:yK [r[i]]=[⟨r[i].z,x.Id,x⟩]:=by unfold yK;simp[b]
   rw[a,b,f1,f2]
   refine⟨_,?_,rfl⟩
   simp only[Option.isSome_none,cond_false,Option.bind_some]
   rw[zl (by rw[jV,List.length_singleton];omega)]
   simp)
 rw[h1,h2,show(r.length:Int).toNat=r.length by omega,List.take_length]
theorem zid {l:List zv}(h:Qq l=0):QK l=match y3 l with
  | none=>some ((⟨[],[]⟩:Doc),8)
  | some es=>(Ys (vH es)).bind fun e=>some (if e=0 then(vH es,0)else((⟨[],[]⟩:Doc),e)):=by
 have hR:=zh0 h
 have hl:=hR.len
 unfold QK
 rw[zw,zh9,Option.bind_some,h,decide_eq_true rfl,Bool.not_true,cond_false,zur hR,Option.bind_some,znJ hR]
 cases hes:y3 l with
 | none=>rfl
 | some es=>
  obtain⟨hT,hid⟩:=zgC hR hes
  have hlen:=zdV hes
  obtain⟨M,m1,m2⟩:=Stbelement.stable_eq zm2 (D:=es) (fun _ _=>trivial) (by omega)
  have hid':(es.map eid).Pairwise fun a b=>zQ a.b b.b<0:=by
   rw[hid,List.pairwise_map]
   exact hR.ids
  have hd:=zgs hT m1.perm (zi3 hid' m1)
  simp only[yG]
  rw[m2,Option.bind_some,znI (fun e he=>hT e (m1.mem.1 he)) (by rw[m1.len];omega),Option.bind_some,←hd]
  cases Ys (vH es)with
  | none=>rfl
  | some e=>
   rw[Option.bind_some,Option.bind_some]
   by_cases c:e=0
   ·
    rw[c];rfl
   ·
    rw[decide_eq_false c,if_neg c];rfl
theorem zoc {l:List zv}(h:j4 l):zZ (l.length:Int) (zcX l) (fun s=>(Res.nx s:Res (List yt×List yu) (Doc×Int))) (([]:List yt),([]:List yu))=some (match y3 l with | some es=>Res.nx (yL es,yK es) | none=>Res.ab ((⟨[],[]⟩:Doc),8)):=by
 have hl:=h.len
 obtain⟨e,h1,h2⟩:=QU (n:=(l.length:Int)) (step:=zcX l) (fin:=fun s=>(Res.nx s:Res (List yt×List yu) (Doc×Int))) (s0:=(([]:List yt),([]:List yu))) (fun i s=>∃es,y3 (l.take i)=some es∧s=(yL es,yK es)∧es.length=i)
  (fun e=>e=match y3 l with | some es=>Res.nx (yL es,yK es) | none=>Res.ab ((⟨[],[]⟩:Doc),8)) (by omega) ⟨[],rfl,rfl,rfl⟩ (fun i s hi hI=>by
   obtain⟨es,i1,rfl,i3⟩:=hI
   have hi':i<l.length:=by omega
   have hin:=List.getElem_mem hi'
   have hR1:=h.one hin
   have hf:=h.fs hin
   have hnl:=List.length_filterMap_le (fun e:zf=>e.node.map fun n=>(⟨e.z,n.Id,n⟩:yt)) es
   have hel:=List.length_filterMap_le (fun e:zf=>e.edge.map fun x=>(⟨e.z,x.Id,x⟩:yu)) es
   unfold zcX
   rw[zl ⟨by omega,by omega⟩,zw,zP hi',znV hR1,Option.bind_some,zro,zl zfF,zw,zfE]
   have bad:qk l[i].Id (qd l[i].Attrs)=none→(Res.ab ((⟨[],[]⟩:Doc),(8:Int)):Res (List yt×List yu) (Doc×Int))=match y3 l with | some es=>Res.nx (yL es,yK es) | none=>Res.ab ((⟨[],[]⟩:Doc),8):=fun hno=>by
    have:l=l.take i++l[i]::l.drop (i+1):=by rw[←List.drop_eq_getElem_cons hi',List.take_append_drop]
    have hno:=zgD hno (l.take i) (l.drop (i+1))
    rw[←this]at hno
    rw[hno]
   have good:∀e,qk l[i].Id (qd l[i].Attrs)=some e→∃es',y3 (l.take (i+1))=some es'∧es'=es++[e]∧es'.length=i+1:=fun e he=>by
    refine⟨es++[e],?_,rfl,by rw[List.length_append,List.length_singleton,i3]⟩
    rw[List.take_succ_eq_append_getElem hi',zgE,i1,he];rfl
   generalize hfe:qd l[i].Attrs=f at *
   generalize hid:l[i].Id=id at *
   rw[QW,Option.bind_some,QW,Option.bind_some]
   simp only
   have q1:(f.del zS).getD kZ Str.nil=f.getD kZ Str.nil:=zaw (by decide)
   have q2:((f.del zS).del kZ).getD zI Str.nil=f.getD zI Str.nil:=by rw[zaw (by decide),zaw (by decide)]
   have q3:((f.del zS).del kZ).has zI=f.has zI:=by rw[zbO (by decide),zbO (by decide)]
   have q4:(((f.del zS).del kZ).del zI).getD zK Str.nil=f.getD zK Str.nil:=by rw[zaw (by decide),zaw (by decide),zaw (by decide)]
   have q5:(((f.del zS).del kZ).del zI).has zK=f.has zK:=by rw[zbO (by decide),zbO (by decide),zbO (by decide)]
   rw[q1]
   obtain⟨ns,ok,z1,z2⟩:=zdE (f.getD kZ Str.nil) (hf.short _)
   rw[z1,Option.bind_some,QW,Option.bind_some,QW,Option.bind_some]
   simp only
   rw[q2,q3,q4,q5,show(((f.del zS).del kZ).del zI).del zK=yT f [zS,kZ,zI,zK]from rfl]
   have hzn:∀n,qr (f.getD kZ Str.nil)=some n→yJ (f.getD kZ Str.nil)=[f.getD kZ Str.nil]:=fun n hn=>by
    obtain⟨m,b,g1,g2,g3⟩:=zar (f.getD kZ Str.nil) (by have:=hf.short kZ;omega)
    rw[g2]at hn
    cases b with
    | false=>cases hn
    | true=>
     have hw:=(zg7 m).b32
     rw[(g3 rfl).2]at hw
     unfold yJ
     rw[Yb hw];rfl
   have hnum:qr (f.getD kZ Str.nil)=if(ok&&decide (ns.length=1))=true then some (gx ns 0)else none:=by
    cases hn:qr (f.getD kZ Str.nil)with
    | some n=>
     rw[hzn n hn,zcy,hn]at z2
     cases ok with
     | false=>cases z2
     | true=>
      rw[if_pos rfl]at z2
      obtain rfl:=Option.some.inj z2
      rfl
    | none=>
     cases ok with
     | false=>rfl
     | true=>
      rw[if_pos rfl]at z2
      by_cases h1:ns.length=1
      ·
       exfalso
       have hwl:=za4 z2
       obtain⟨w,hw⟩:=List.length_eq_one_iff.1 (hwl.symm.trans h1)
       have hw2:w=f.getD kZ Str.nil:=by
        have:=zkw 32 ((f.getD kZ Str.nil).b.count 32) (f.getD kZ Str.nil).b
        unfold yJ at hw
        obtain⟨x,hx,hxw⟩:=List.map_eq_singleton_iff.1 hw
        rw[hx]at this
        have h2:x=(f.getD kZ Str.nil).b:=this
        rw[←hxw,h2]
       rw[hw,hw2,zcy,hn]at z2
       cases z2
      ·
       rw[decide_eq_false h1,Bool.and_false,if_neg (by decide)]
   have hd1:decide ((ns.length:Int)=1)=decide (ns.length=1):=by rw[decide_eq_decide];omega
   rw[hd1]
   cases hok:(ok&&decide (ns.length=1))with
   | false=>
    rw[hok,if_neg (by decide)]at hnum
    have hb:((!ok) || !decide (ns.length=1))=true:=by
     cases ok<;>cases h:decide (ns.length=1)<;>first | rfl | (rw[h]at hok;cases hok)
    rw[hb,zl (fun h=>by cases h),Bool.not_true,zeg,Option.bind_some,Bool.true_or,Bool.true_or,Bool.true_or,cond_true,zw]
    exact .inr ⟨_,rfl,bad (by unfold qk;rw[hnum];rfl)⟩
   | true=>
    rw[hok,if_pos rfl]at hnum
    rw[Bool.and_eq_true,decide_eq_true_eq]at hok
    obtain⟨hok,hn1⟩:=hok
    have hb:((!ok) || !decide (ns.length=1))=false:=by rw[hok,decide_eq_true hn1];rfl
    have hin0:inR ns 0:=⟨by decide,by omega⟩
    have hIn:vz (gx ns 0) 0 1000000=some (decide (0≤gx ns 0∧gx ns 0≤1000000)):=by
     unfold vz
     simp
    rw[hb,zl (fun _=>hin0),Bool.not_false,qy,hIn,Option.bind_some,Bool.false_or]
    generalize gx ns 0=z at *
    by_cases hz:z<0∨1000000<z
    ·
     rw[decide_eq_false (by omega),Bool.not_false,Bool.true_or,Bool.true_or,cond_true,zw]
     exact .inr ⟨_,rfl,bad (by unfold qk;rw[hnum,Option.bind_some,if_pos hz])⟩
    rw[decide_eq_true (by omega),Bool.not_true,Bool.false_or]
    have hkT:∀k,okT f k↔(f.has k&&decide (f.getD k Str.nil=Str.nil))=false:=fun k=>by
     unfold okT
     rw[←Bool.not_eq_true,Bool.and_eq_true,decide_eq_true_eq]
    by_cases hTx:¬okT f zI∨¬okT f zK
    ·
     have:((f.has zI&&decide (f.getD zI Str.nil=Str.nil)) || (f.has zK&&decide (f.getD zK Str.nil=Str.nil)))=true:=by
      rw[Bool.or_eq_true]
      rcases hTx with h | h
      ·
       left
       cases e:(f.has zI&&decide (f.getD zI Str.nil=Str.nil))with
       | true=>rfl
       | false=>exact absurd ((hkT _).2 e) h
      ·
       right
       cases e:(f.has zK&&decide (f.getD zK Str.nil=Str.nil))with
       | true=>rfl
       | false=>exact absurd ((hkT _).2 e) h
     rw[this,cond_true,zw]
     refine .inr ⟨_,rfl,bad ?_⟩
     unfold qk
     rw[hnum,Option.bind_some,if_neg hz]
     have e1:vK id f=none:=by
      unfold vK
      cases qU (f.getD qe Str.nil)with
      | none=>rfl
      | some a=>
       cases qU (f.getD kTo Str.nil)with
       | none=>rfl
       | some b=>
        rw[Option.bind_some,Option.bind_some]
        cases(if f.has yE=true then Y4 (f.getD yE Str.nil)else some [])with
        | none=>rfl
        | some p=>
         rw[Option.bind_some,if_neg]
         intro h
         exact hTx.elim (fun g=>g h.text) (fun g=>g h.cls)
     have e2:Qm id f=none:=by
      unfold Qm
      split
      ·
       rfl
      ·
       cases(if qw y4 (f.getD zS Str.nil)=6 then some qh else(yU (yJ (f.getD yz Str.nil))).bind zdJ)with
       | none=>rfl
       | some b=>
        rw[Option.bind_some,if_neg]
        intro h
        exact hTx.elim (fun g=>g h.text) (fun g=>g h.cls)
     rw[e1,e2]
     split<;>rfl
    have hT1:okT f zI:=Classical.byContradiction fun h=>hTx (.inl h)
    have hT2:okT f zK:=Classical.byContradiction fun h=>hTx (.inr h)
    rw[(hkT _).1 hT1,(hkT _).1 hT2,Bool.or_self,cond_false]
    by_cases he:f.getD zS Str.nil=QX
    ·
     rw[decide_eq_true he,cond_true]
     obtain⟨y,oky,g,y1,y2⟩:=zuo hf hT1 hT2 id
     rw[y1,Option.bind_some]
     simp only
     cases oky with
     | false=>
      rw[if_neg (by decide)]at y2
      rw[Bool.not_false,cond_true,zw]
      exact .inr ⟨_,rfl,bad (by unfold qk;rw[hnum,Option.bind_some,if_neg hz,if_pos he,y2];rfl)⟩
     | true=>
      rw[if_pos rfl]at y2
      obtain⟨es',g1,g2,g3⟩:=good _ (by unfold qk;rw[hnum,Option.bind_some,if_neg hz,if_pos he,y2];rfl)
      rw[Bool.not_true,cond_false,zl hin0,zl (by rw[jV,List.length_singleton];show(yK es).length+1≤_;unfold yK;omega),zw]
      refine .inl ⟨_,rfl,es',g1,?_,g3⟩
      rw[g2]
      have e1:yL (es++[(⟨z,none,some { y with Id:=id,Text:=f.getD zI Str.nil,Class:=f.getD zK Str.nil }⟩:zf)])=yL es++[]:=List.filterMap_append
      have e2:yK (es++[(⟨z,none,some { y with Id:=id,Text:=f.getD zI Str.nil,Class:=f.getD zK Str.nil }⟩:zf)])=yK es++[⟨z,id,{ y with Id:=id,Text:=f.getD zI Str.nil,Class:=f.getD zK Str.nil }⟩]:=List.filterMap_append
      rw[e1,e2,List.append_nil]
    ·
     rw[decide_eq_false he,cond_false]
     obtain⟨y,oky,g,y1,y2⟩:=zup hf hT1 hT2 id
     rw[y1,Option.bind_some]
     simp only
     cases oky with
     | false=>
      rw[if_neg (by decide)]at y2
      rw[Bool.not_false,cond_true,zw]
      exact .inr ⟨_,rfl,bad (by unfold qk;rw[hnum,Option.bind_some,if_neg hz,if_neg he,y2];rfl)⟩
     | true=>
      rw[if_pos rfl]at y2
      obtain⟨es',g1,g2,g3⟩:=good _ (by unfold qk;rw[hnum,Option.bind_some,if_neg hz,if_neg he,y2];rfl)
      rw[Bool.not_true,cond_false,zl hin0,zl (by rw[jV,List.length_singleton];show(yL es).length+1≤_;unfold yL;omega)]
      refine .inl ⟨_,rfl,es',g1,?_,g3⟩
      rw[g2]
      have e1:yL (es++[(⟨z,some { y with Id:=id,Text:=f.getD zI Str.nil,Class:=f.getD zK Str.nil },none⟩:zf)])=yL es++[⟨z,id,{ y with Id:=id,Text:=f.getD zI Str.nil,Class:=f.getD zK Str.nil }⟩]:=List.filterMap_append
      have e2:yK (es++[(⟨z,some { y with Id:=id,Text:=f.getD zI Str.nil,Class:=f.getD zK Str.nil },none⟩:zf)])=yK es++[]:=List.filterMap_append
      rw[e1,e2,List.append_nil])
  (fun s hI=>by
   obtain⟨es,i1,rfl,_⟩:=hI
   rw[show(l.length:Int).toNat=l.length by omega,List.take_length]at i1
   rw[i1])
 rw[h1,h2]
theorem zqF {r:List yt}(hl:r.length≤2000):y7 (r.length:Int) (zfq r) ([]:List zh)=some (r.map (·.x)):=by
 rw[zc8 (l:=r) (fun v=>[v.x]) [] (fun a _=>by simp) (by simp;omega) (fun i s hi hs=>by
  unfold zfq
  rw[zl hi,zw,zl (by rw[jV];simp only[List.length_singleton];omega)]),←List.map_eq_flatMap,List.nil_append]
theorem zqE {r:List yu}(hl:r.length≤2000):y7 (r.length:Int) (zfp r) ([]:List zu)=some (r.map (·.x)):=by
 rw[zc8 (l:=r) (fun v=>[v.x]) [] (fun a _=>by simp) (by simp;omega) (fun i s hi hs=>by
  unfold zfp
  rw[zl hi,zw,zl (by rw[jV];simp only[List.length_singleton];omega)]),←List.map_eq_flatMap,List.nil_append]
theorem zkz {α:Type}{key:α→Int×Str}{r:List α}(h:r.Pairwise (kLt je key)):(r.map key).Nodup:=by
 rw[List.nodup_iff_pairwise_ne,List.pairwise_map]
 exact h.imp fun {a b} h e=>by
  unfold kLt at h
  rw[e,Q9.self]at h
  omega
theorem zjD {es:List zf}(hl:es.length≤2000)(hid:(es.map eid).Pairwise fun a b=>zQ a.b b.b<0):∃M:List zf,M.Perm es∧M.Pairwise eLt:=by
 obtain⟨M,m1,m2⟩:=Stbelement.stable_eq zm2 (D:=es) (fun _ _=>trivial) (by omega)
 exact⟨M,m1.perm,zi3 hid m1⟩
theorem znK {l:List zv}(h:Qq l=0):zbj l=match y3 l with
  | none=>some ((⟨[],[]⟩:Doc),8)
  | some es=>(Ja (vH es)).bind fun e=>some (if e=0 then(vH es,0)else((⟨[],[]⟩:Doc),e)):=by
 have hR:=zh0 h
 have hl:=hR.len
 unfold zbj
 rw[zw,zoc hR]
 cases hes:y3 l with
 | none=>rfl
 | some es=>
  obtain⟨hT,hid⟩:=zgC hR hes
  have hlen:=zdV hes
  have hid':(es.map eid).Pairwise fun a b=>zQ a.b b.b<0:=by
   rw[hid,List.pairwise_map]
   exact hR.ids
  obtain⟨M,m1,m2⟩:=zjD (by omega) hid'
  have hd:=zgs hT m1 m2
  have n1:(yL M).Perm (yL es):=m1.filterMap _
  have n2:(yK M).Perm (yK es):=m1.filterMap _
  have s1:=zlb m2
  have s2:=zi5 (fun e he=>hT e (m1.mem_iff.1 he)) m2
  have hnl:=List.length_filterMap_le (fun e:zf=>e.node.map fun n=>(⟨e.z,n.Id,n⟩:yt)) es
  have hel:=List.length_filterMap_le (fun e:zf=>e.edge.map fun x=>(⟨e.z,x.Id,x⟩:yu)) es
  have hn:(yL es).length≤2000:=by unfold yL;omega
  have he:(yK es).length≤2000:=by unfold yK;omega
  have k1:zc3 (yL es)=some ((yL M).map (·.x),yL M):=by
   unfold zc3 zhU
   rw[zl ⟨by omega,fun x hx=>by
    obtain⟨e,hm,hx⟩:=List.mem_filterMap.1 hx
    cases hn:e.node with
    | none=>rw[hn]at hx;cases hx
    | some n=>
     rw[hn]at hx
     obtain rfl:=Option.some.inj hx
     exact⟨(hT e hm).z0,(hT e hm).z1⟩,(n1.map _).nodup_iff.1 (zkz s1)⟩,Option.bind_some,JQ Q9 n1 s1,zqF (by rw[n1.length_eq];omega),Option.bind_some]
  have k2:zc2 (yK es)=some ((yK M).map (·.x),yK M):=by
   unfold zc2 zhT
   rw[zl ⟨by omega,fun x hx=>by
    obtain⟨e,hm,hx⟩:=List.mem_filterMap.1 hx
    cases hn:e.edge with
    | none=>rw[hn]at hx;cases hx
    | some n=>
     rw[hn]at hx
     obtain rfl:=Option.some.inj hx
     exact⟨(hT e hm).z0,(hT e hm).z1⟩,(n2.map _).nodup_iff.1 (zkz s2)⟩,Option.bind_some,JQ Q9 n2 s2,zqE (by rw[n2.length_eq];omega),Option.bind_some]
  simp only[yG]
  rw[k1,Option.bind_some,k2,Option.bind_some,zw]
  simp only
  rw[←hd]
  cases Ja (vH es)with
  | none=>rfl
  | some e=>
   rw[Option.bind_some,Option.bind_some]
   by_cases c:e=0
   ·
    rw[c];rfl
   ·
    rw[decide_eq_false c,if_neg c];rfl
theorem zoP {l:List zv}{es:List zf}(h:j4 l)(hes:y3 l=some es):zF (vH es)∧(vH es).Nodes.length≤2000∧(vH es).Edges.length≤2000:=by
 have hl:=h.len
 obtain⟨hT,hid⟩:=zgC h hes
 have hlen:=zdV hes
 have hid':(es.map eid).Pairwise fun a b=>zQ a.b b.b<0:=by
  rw[hid,List.pairwise_map]
  exact h.ids
 obtain⟨M,m1,m2⟩:=zjD (by omega) hid'
 rw[zgs hT m1 m2]
 have hM:=m1.length_eq
 have hnl:=List.length_filterMap_le (fun e:zf=>e.node.map fun n=>(⟨e.z,n.Id,n⟩:yt)) M
 have hel:=List.length_filterMap_le (fun e:zf=>e.edge.map fun x=>(⟨e.z,x.Id,x⟩:yu)) M
 have hn:((yL M).map (·.x)).length≤2000:=by rw[List.length_map];unfold yL;omega
 have he:((yK M).map (·.x)).length≤2000:=by rw[List.length_map];unfold yK;omega
 refine⟨⟨⟨Nat.le_trans hn (by decide),fun n hx=>?_⟩,⟨Nat.le_trans he (by decide),fun n hx=>?_⟩⟩,hn,he⟩
 ·
  obtain⟨y,hy,rfl⟩:=List.mem_map.1 hx
  obtain⟨e,hm,hy⟩:=List.mem_filterMap.1 hy
  rcases(hT e (m1.mem_iff.1 hm)).one with⟨m,a,b,c⟩ | ⟨m,a,b,c⟩
  ·
   rw[a]at hy
   obtain rfl:=Option.some.inj hy
   exact c
  ·
   rw[a]at hy;cases hy
 ·
  obtain⟨y,hy,rfl⟩:=List.mem_map.1 hx
  obtain⟨e,hm,hy⟩:=List.mem_filterMap.1 hy
  rcases(hT e (m1.mem_iff.1 hm)).one with⟨m,a,b,c⟩ | ⟨m,a,b,c⟩
  ·
   rw[b]at hy;cases hy
  ·
   rw[b]at hy
   obtain rfl:=Option.some.inj hy
   exact c
theorem zch {K V:Type}{a b:GMap K V}(h:∀k,a.f k=b.f k):a=b:=by
 cases a;cases b
 congr 1
 funext k
 exact h k
def setN (f:GMap Str Str)(k v:Str):GMap Str Str:=if v=Str.nil then f else f.set k v
theorem J9 {V:Type}(m:GMap Str V)(k x:Str)(v:V):(m.set k v).f x=if x=k then some v else m.f x:=rfl
theorem Jk (m:GMap Str Str)(k v x:Str):(setN m k v).f x=if x=k∧v≠Str.nil then some v else m.f x:=by
 unfold setN
 by_cases h:v=Str.nil
 ·
  rw[if_pos h,if_neg (fun e=>e.2 h)]
 ·
  rw[if_neg h,J9]
  by_cases e:x=k
  ·
   rw[if_pos e,if_pos ⟨e,h⟩]
  ·
   rw[if_neg e,if_neg (fun q=>e q.1)]
theorem zmn {V:Type}{m:GMap Str V}{a b:Str}{x y:V}(h:a≠b):(m.set a x).set b y=(m.set b y).set a x:=zch fun k=>by
 simp only[J9]
 by_cases h1:k=b
 ·
  by_cases h2:k=a
  ·
   exact absurd (h2.symm.trans h1) h
  ·
   rw[if_pos h1,if_neg h2,if_pos h1]
 ·
  by_cases h2:k=a
  ·
   rw[if_neg h1,if_pos h2,if_pos h2]
  ·
   rw[if_neg h1,if_neg h2,if_neg h2,if_neg h1]
theorem zed {k:Str}:∀(l:List (Str×Str)) (s:GMap Str Str),(∀v,(k,v)∈l→v=Str.nil)→(l.foldl (fun s x=>setN s x.1 x.2) s).f k=s.f k
 | [],s,_=>rfl
 | x::l,s,h=>by
  rw[List.foldl_cons,zed l _ (fun v hv=>h v (by simp[hv])),Jk]
  by_cases e:k=x.1
  ·
   have:x.2=Str.nil:=h x.2 (by rw[e];simp)
   rw[if_neg (fun q=>q.2 this)]
  ·
   rw[if_neg (fun q=>e q.1)]
theorem zjX {k v:Str}(hv:v≠Str.nil):∀(l:List (Str×Str)) (s:GMap Str Str),(l.map (·.1)).Nodup→(k,v)∈l→(l.foldl (fun s x=>setN s x.1 x.2) s).f k=some v
 | x::l,s,hn,hm=>by
  rw[List.map_cons,List.nodup_cons]at hn
  rw[List.foldl_cons]
  rcases List.mem_cons.1 hm with h | h
  ·
   subst h
   rw[zed l _ (fun w hw=>absurd (List.mem_map.2 ⟨(k,w),hw,rfl⟩) hn.1),Jk,if_pos ⟨rfl,hv⟩]
  ·
   exact zjX hv l _ hn.2 h
def za5 (s M:GMap Str Str):GMap Str Str:=⟨fun k=>match M.f k with
 | some v=>if v=Str.nil then s.f k else some v
 | none=>s.f k⟩
theorem zlA {M:GMap Str Str}{step:Str→Str→GMap Str Str→Option (GMap Str Str)}(hs:∀k e s,step k e s=some (setN s k e))(hl:∃l,zD M l)(s0:GMap Str Str):YX M step s0=some (za5 s0 M):=by
 obtain⟨l0,h0⟩:=hl
 refine zrB h0 fun l hl=>?_
 have key:∀(l:List (Str×Str)) (s:GMap Str Str),jh step l s=some (l.foldl (fun s x=>setN s x.1 x.2) s):=fun l=>by
  induction l with
  | nil=>intro s;rfl
  | cons x l ih=>intro s;rw[jh,hs,Option.bind_some,ih];rfl
 rw[key]
 congr 1
 refine zch fun k=>?_
 unfold za5
 simp only
 cases e:M.f k with
 | none=>exact zed l s0 fun v hv=>by rw[(hl.mem k v).1 hv]at e;cases e
 | some v=>
  simp only
  by_cases hv:v=Str.nil
  ·
   rw[if_pos hv]
   exact zed l s0 fun w hw=>by
    rw[(hl.mem k w).1 hw]at e
    rw[Option.some.inj e];exact hv
  ·
   rw[if_neg hv]
   exact zjX hv l s0 hl.nodup ((hl.mem k v).2 e)
theorem zlp (s:GMap Str Str):za5 s GMap.nil=s:=zch fun k=>rfl
theorem zcA {s M:GMap Str Str}{k v:Str}(h:M.f k=none):za5 s (M.set k v)=setN (za5 s M) k v:=zch fun x=>by
 rw[Jk]
 unfold za5
 simp only[J9]
 by_cases e:x=k
 ·
  subst e
  rw[if_pos rfl]
  by_cases hv:v=Str.nil
  ·
   rw[if_neg (fun q=>q.2 hv),h]
   exact if_pos hv
  ·
   rw[if_pos ⟨rfl,hv⟩]
   exact if_neg hv
 ·
  rw[if_neg e,if_neg (fun q=>e q.1)]
def qH {V:Type}(m:GMap Str V)(n:Nat):Prop:=∃l,zD m l∧l.length≤n
theorem qH.nil {V:Type}:qH (GMap.nil:GMap Str V) 0:=⟨[],zD.nil,Nat.le_refl _⟩
theorem qH.set {V:Type}{m:GMap Str V}{n:Nat}(h:qH m n)(k:Str)(v:V):qH (m.set k v) (n+1):=by
 obtain⟨l,h1,h2⟩:=h
 obtain⟨l',a,b⟩:=zkN h1 k v
 exact⟨l',a,by omega⟩
theorem qH.more {V:Type}{m:GMap Str V}{n k:Nat}(h:qH m n)(hk:n≤k):qH m k:=by
 obtain⟨l,h1,h2⟩:=h
 exact⟨l,h1,by omega⟩
theorem qH.setN {m:GMap Str Str}{n:Nat}(h:qH m n)(k v:Str):qH (setN m k v) (n+1):=by
 unfold DB.setN
 split
 ·
  exact h.more (by omega)
 ·
  exact h.set k v
def QO (n:zh)(i:Int):GMap Str Str:=((GMap.nil:GMap Str Str).set zS (gx y4 n.Kind)).set kZ (yC i)
def vR (n:zh)(i:Int):GMap Str Str:=if n.Kind=6 then QO n i else(QO n i).set yz ⟨qC (vl n.Box)⟩
def Y0 (n:zh)(i:Int):GMap Str Str:=setN (setN (setN (vR n i) zI n.Text) zK n.Class) yM n.Parent
def y5 (n:zh)(i:Int):GMap Str Str:=if n.Locked=true then(Y0 n i).set yP Qs else Y0 n i
def Qc (x:zu)(i:Int):GMap Str Str:=((((GMap.nil:GMap Str Str).set zS QX).set qe ⟨qS x.From⟩).set kTo ⟨qS x.To⟩).set kZ (yC i)
def vJ (x:zu)(i:Int):GMap Str Str:=if x.Bends=[]then Qc x i else(Qc x i).set yE ⟨qC (qx x.Bends)⟩
def qj (x:zu)(i:Int):GMap Str Str:=setN (setN (vJ x i) zI x.Text) zK x.Class
theorem zrP {l:List Int}(h:l≠[]):qC l≠[]:=by
 unfold qC
 match l,h with
 | [a],_=>exact zeu a
 | a::b::r,_=>
  show Go.Lib.itoa a++_≠[]
  intro e
  exact zeu a (List.append_eq_nil_iff.1 e).1
theorem zlk {l:List Int}(h:l≠[]):¬(⟨qC l⟩:Str)=Str.nil:=fun e=>zrP h (congrArg Str.b e)
def Y3 (d:Doc)(k:Nat):GMap Str (GMap Str Str):=(List.range k).foldl (fun m (i:Nat)=>m.set (gx d.Nodes (i:Int)).Id (y5 (gx d.Nodes (i:Int)) (i:Int))) GMap.nil
def Ye (d:Doc)(k:Nat):GMap Str (GMap Str Str):=(List.range k).foldl (fun m (i:Nat)=>m.set (gx d.Edges (i:Int)).Id (qj (gx d.Edges (i:Int)) (i:Int))) (Y3 d d.Nodes.length)
def vI (d:Doc):GMap Str (GMap Str Str):=Ye d d.Edges.length
theorem zhj (d:Doc)(k:Nat):Y3 d (k+1)=(Y3 d k).set (gx d.Nodes (k:Int)).Id (y5 (gx d.Nodes (k:Int)) (k:Int)):=by
 unfold Y3
 rw[List.range_succ,List.foldl_append];rfl
theorem zgv (d:Doc)(k:Nat):Ye d (k+1)=(Ye d k).set (gx d.Edges (k:Int)).Id (qj (gx d.Edges (k:Int)) (k:Int)):=by
 unfold Ye
 rw[List.range_succ,List.foldl_append];rfl
theorem zhi (n:zh)(i:Int):qH (y5 n i) 20:=by
 have h0:qH (QO n i) 2:=(qH.nil.set _ _).set _ _
 have h1:qH (vR n i) 3:=by
  unfold vR
  split
  ·
   exact h0.more (by omega)
  ·
   exact h0.set _ _
 have h2:qH (Y0 n i) 6:=((h1.setN _ _).setN _ _).setN _ _
 unfold y5
 split
 ·
  exact(h2.set _ _).more (by omega)
 ·
  exact h2.more (by omega)
theorem zgu (x:zu)(i:Int):qH (qj x i) 20:=by
 have h0:qH (Qc x i) 4:=(((qH.nil.set _ _).set _ _).set _ _).set _ _
 have h1:qH (vJ x i) 5:=by
  unfold vJ
  split
  ·
   exact h0.more (by omega)
  ·
   exact h0.set _ _
 exact((h1.setN _ _).setN _ _).more (by omega)
theorem zmM {m:GMap Str (GMap Str Str)}{N:Nat}(h:Small m N){e:GMap Str Str}(he:qH e 20)(hN:20≤N)(k:Str):Small (m.set k e) (N+1):=by
 obtain⟨⟨l,h1,h2⟩,h3⟩:=h
 obtain⟨l',a,b⟩:=zkN h1 k e
 refine⟨⟨l',a,by omega⟩,fun x y hx=>?_⟩
 have hx':(if x=k then some e else m.f x)=some y:=hx
 split at hx'
 ·
  obtain rfl:=Option.some.inj hx'
  obtain⟨l,c,q⟩:=he
  exact⟨l,c,by omega⟩
 ·
  obtain⟨l,c,q⟩:=h3 x y hx'
  exact⟨l,c,by omega⟩
theorem zla (d:Doc):∀k,Small (Y3 d k) (20+k)
 | 0=>⟨⟨[],zD.nil,Nat.zero_le _⟩,fun k e h=>by cases h⟩
 | k+1=>by
  rw[zhj]
  exact zmM (zla d k) (zhi _ _) (by omega) _
theorem zi4 (d:Doc):∀k,Small (Ye d k) (20+d.Nodes.length+k)
 | 0=>zla d d.Nodes.length
 | k+1=>by
  rw[zgv]
  exact zmM (zi4 d k) (zgu _ _) (by omega) _
theorem zi2 {d:Doc}(hn:d.Nodes.length≤500)(he:d.Edges.length≤1000):Small (vI d) 2199023255551:=by
 obtain⟨⟨l,h1,h2⟩,h3⟩:=zi4 d d.Edges.length
 refine⟨⟨l,h1,by omega⟩,fun k e hk=>?_⟩
 obtain⟨l,a,b⟩:=h3 k e hk
 exact⟨l,a,by omega⟩
theorem zeq {i:Nat}(h:i≤1000000):InI (i:Int):=by unfold InI;omega
theorem zuu {d:Doc}{i:Nat}(hi:i<d.Nodes.length)(hl:d.Nodes.length≤500)(hT:zaq d.Nodes[i])(s:GMap Str (GMap Str Str)):zbV d (i:Int) s=some (s.set d.Nodes[i].Id (y5 d.Nodes[i] (i:Int))):=by
 have hL2:∀k e s,zdQ k e s=some (setN s k e):=fun k e s=>by
  unfold zdQ setN
  by_cases h:e=Str.nil
  ·
   rw[decide_eq_true h,if_pos h];rfl
  ·
   rw[decide_eq_false h,if_neg h];rfl
 unfold zbV
 rw[zl ⟨by omega,by omega⟩,zw,zP hi,zih,Option.bind_some,zl (zkE hT.k1 hT.k2),vY (zeq (by omega)),Option.bind_some,zw]
 have h1:(bif !decide (d.Nodes[i].Kind=6)then(Option.bind (YK [d.Nodes[i].Box.X,d.Nodes[i].Box.Y,d.Nodes[i].Box.W_,d.Nodes[i].Box.H]) fun r3=>some ((QO d.Nodes[i] (i:Int)).set yz r3))else some (QO d.Nodes[i] (i:Int)))=some (vR d.Nodes[i] (i:Int)):=by
  unfold vR
  by_cases h:d.Nodes[i].Kind=6
  ·
   rw[decide_eq_true h,if_pos h];rfl
  ·
   rw[decide_eq_false h,if_neg h,Bool.not_false,cond_true]
   have:=zik (l:=vl d.Nodes[i].Box) (show 4≤1000000 by decide) (ziA hT)
   unfold vl at this
   rw[this];rfl
 have h2:∃l,zD ((((GMap.nil:GMap Str Str).set zI d.Nodes[i].Text).set zK d.Nodes[i].Class).set yM d.Nodes[i].Parent) l:=by
  obtain⟨l,a,_⟩:=((qH.nil.set zI d.Nodes[i].Text).set zK d.Nodes[i].Class).set yM d.Nodes[i].Parent
  exact⟨l,a⟩
 have h3:=zlA hL2 h2 (vR d.Nodes[i] (i:Int))
 rw[zcA rfl,zcA rfl,zcA rfl,zlp]at h3
 refine(congrArg (fun o=>Option.bind o _) h1).trans ?_
 rw[Option.bind_some]
 refine(congrArg (fun o=>Option.bind o _) h3).trans ?_
 rw[Option.bind_some]
 unfold y5 Y0
 cases d.Nodes[i].Locked<;>rfl
theorem zut {d:Doc}{i:Nat}(hi:i<d.Edges.length)(hl:d.Edges.length≤1000)(hT:zal d.Edges[i])(s:GMap Str (GMap Str Str)):zbW d (i:Int) s=some (s.set d.Edges[i].Id (qj d.Edges[i] (i:Int))):=by
 have hL4:∀k e s,zdR k e s=some (setN s k e):=fun k e s=>by
  unfold zdR setN
  by_cases h:e=Str.nil
  ·
   rw[decide_eq_true h,if_pos h];rfl
  ·
   rw[decide_eq_false h,if_neg h];rfl
 have hfew:=hT.few
 unfold zbW
 rw[zl ⟨by omega,by omega⟩,zw,zP hi,zie hT.from_,Option.bind_some,zie hT.to_,Option.bind_some,vY (zeq (by omega)),Option.bind_some,zw]
 have h1:(bif decide (0<(d.Edges[i].Bends.length:Int))then(Option.bind (zay d.Edges[i].Bends) fun r7=>Option.bind (YK r7) fun r8=>some ((Qc d.Edges[i] (i:Int)).set yE r8))else some (Qc d.Edges[i] (i:Int)))=some (vJ d.Edges[i] (i:Int)):=by
  unfold vJ
  by_cases h:d.Edges[i].Bends=[]
  ·
   rw[if_pos h,decide_eq_false (by rw[h];decide),cond_false]
  ·
   have:=List.length_pos_iff.2 h
   have hc:=Jy d.Edges[i].Bends
   rw[if_neg h,decide_eq_true (by omega),cond_true,znG (by omega),Option.bind_some,zik (by omega) (ziM hT)];rfl
 have h2:∃l,zD (((GMap.nil:GMap Str Str).set zI d.Edges[i].Text).set zK d.Edges[i].Class) l:=by
  obtain⟨l,a,_⟩:=(qH.nil.set zI d.Edges[i].Text).set zK d.Edges[i].Class
  exact⟨l,a⟩
 have h3:=zlA hL4 h2 (vJ d.Edges[i] (i:Int))
 rw[zcA rfl,zcA rfl,zlp]at h3
 refine(congrArg (fun o=>Option.bind o _) h1).trans ?_
 rw[Option.bind_some]
 refine(congrArg (fun o=>Option.bind o _) h3).trans ?_
 rw[Option.bind_some];rfl
theorem zob {d:Doc}(h:jE d)(hc:Ys d=some 0):JB d=some (jX (vI d),0):=by
 have hn:=h.nl
 have he:=h.el
 unfold JB
 rw[hc,Option.bind_some,decide_eq_true rfl,Bool.not_true,cond_false,zw]
 obtain⟨m1,a1,a2⟩:=vB (n:=(d.Nodes.length:Int)) (step:=zbV d) (s0:=(GMap.nil:GMap Str (GMap Str Str))) (fun k s=>s=Y3 d k) (by omega) rfl (fun i s hi hI=>by
  have hi':i<d.Nodes.length:=by omega
  exact⟨_,zuu hi' hn (h.nodeT (List.getElem_mem hi')) s,by rw[zhj,zP hi',hI]⟩)
 rw[show(d.Nodes.length:Int).toNat=d.Nodes.length by omega]at a2
 obtain⟨m2,b1,b2⟩:=vB (n:=(d.Edges.length:Int)) (step:=zbW d) (s0:=m1) (fun k s=>s=Ye d k) (by omega) a2 (fun i s hi hI=>by
  have hi':i<d.Edges.length:=by omega
  exact⟨_,zut hi' he (h.edgeT (List.getElem_mem hi')) s,by rw[zgv,zP hi',hI]⟩)
 rw[show(d.Edges.length:Int).toNat=d.Edges.length by omega]at b2
 rw[a1,Option.bind_some,b1,Option.bind_some,b2,show Ye d d.Edges.length=vI d from rfl,zra (zi2 hn he)];rfl
theorem Y5 (id f v:Str)(s:GMap Str (GMap Str Str))(m:GMap Str Str):vS id f v (s.set id m)=some (s.set id (setN m f v)):=by
 unfold vS setN
 by_cases h:v=Str.nil
 ·
  rw[decide_eq_true h,if_pos h];rfl
 ·
  rw[decide_eq_false h,if_neg h,Bool.not_false,cond_true,zl zfF,zfE,zhI]
theorem zs8 {d:Doc}{i:Nat}(hi:i<d.Nodes.length)(hl:d.Nodes.length≤500)(hT:zaq d.Nodes[i])(s:GMap Str (GMap Str Str)):zcM d (i:Int) s=some (s.set d.Nodes[i].Id (y5 d.Nodes[i] (i:Int))):=by
 unfold zcM
 rw[zl ⟨by omega,by omega⟩,zw,zP hi,znU hT.k1 hT.k2,Option.bind_some,vY (zeq (by omega)),Option.bind_some,zw]
 have h1:(bif !decide (d.Nodes[i].Kind=6)then(Option.bind (J4 [d.Nodes[i].Box.X,d.Nodes[i].Box.Y,d.Nodes[i].Box.W_,d.Nodes[i].Box.H]) fun r3=>Option.bind (vS d.Nodes[i].Id yz r3 (s.set d.Nodes[i].Id (QO d.Nodes[i] (i:Int)))) fun r4=>some r4)else some (s.set d.Nodes[i].Id (QO d.Nodes[i] (i:Int))))=some (s.set d.Nodes[i].Id (vR d.Nodes[i] (i:Int))):=by
  unfold vR
  by_cases h:d.Nodes[i].Kind=6
  ·
   rw[decide_eq_true h,if_pos h];rfl
  ·
   rw[decide_eq_false h,if_neg h,Bool.not_false,cond_true]
   have:=zli (l:=vl d.Nodes[i].Box) (show 4≤1000000 by decide) (ziA hT)
   unfold vl at this
   rw[this,Option.bind_some,Y5,Option.bind_some]
   unfold setN
   rw[if_neg (zlk (l:=[d.Nodes[i].Box.X,d.Nodes[i].Box.Y,d.Nodes[i].Box.W_,d.Nodes[i].Box.H]) (by simp))];rfl
 refine(congrArg (fun o=>Option.bind o _) h1).trans ?_
 rw[Option.bind_some,Y5,Option.bind_some,Y5,Option.bind_some,Y5,Option.bind_some]
 unfold y5 Y0
 cases d.Nodes[i].Locked with
 | false=>rfl
 | true=>rw[cond_true,Y5,Option.bind_some];rfl
theorem zs7 {d:Doc}{i:Nat}(hi:i<d.Edges.length)(hl:d.Edges.length≤1000)(hT:zal d.Edges[i])(s:GMap Str (GMap Str Str)):zcN d (i:Int) s=some (s.set d.Edges[i].Id (qj d.Edges[i] (i:Int))):=by
 have hfew:=hT.few
 unfold zcN
 rw[zl ⟨by omega,by omega⟩,zw,zP hi,vY (zeq (by omega)),Option.bind_some,zly hT.from_,Option.bind_some,zly hT.to_,Option.bind_some,zw]
 obtain⟨c,c1,c2⟩:=vB (n:=(d.Edges[i].Bends.length:Int)) (step:=zff d.Edges[i]) (s0:=([]:List Int)) (fun k s=>s=qx (d.Edges[i].Bends.take k)) (by omega) rfl (fun k s hk hI=>by
  have hk':k<d.Edges[i].Bends.length:=by omega
  have hc:=Jy (d.Edges[i].Bends.take k)
  rw[List.length_take]at hc
  refine⟨_,?_,rfl⟩
  unfold zff
  rw[zl ⟨by omega,by omega⟩,zw,zP hk',hI,zl (by rw[jV];simp only[List.length_cons,List.length_nil];omega),List.take_succ_eq_append_getElem hk',zgp])
 rw[show(d.Edges[i].Bends.length:Int).toNat=d.Edges[i].Bends.length by omega,List.take_length]at c2
 have hc:=Jy d.Edges[i].Bends
 have h0:((((GMap.nil:GMap Str Str).set zS QX).set kZ (yC (i:Int))).set qe ⟨qS d.Edges[i].From⟩).set kTo ⟨qS d.Edges[i].To⟩=Qc d.Edges[i] (i:Int):=by
  unfold Qc
  rw[zmn (a:=kZ) (b:=qe) (by decide),zmn (a:=kZ) (b:=kTo) (by decide)]
 rw[c1,Option.bind_some,c2,zli (by omega) (ziM hT),Option.bind_some,h0,Y5,Option.bind_some,Y5,Option.bind_some,Y5,Option.bind_some]
 have h1:setN (Qc d.Edges[i] (i:Int)) yE ⟨qC (qx d.Edges[i].Bends)⟩=vJ d.Edges[i] (i:Int):=by
  unfold vJ
  by_cases h:d.Edges[i].Bends=[]
  ·
   rw[if_pos h,h];rfl
  ·
   unfold setN
   rw[if_neg h,if_neg (zlk (ziN h))]
 have h1:setN (Qc d.Edges[i] (i:Int)) (⟨[98,101,110,100,115]⟩:Str) ⟨qC (qx d.Edges[i].Bends)⟩=vJ d.Edges[i] (i:Int):=h1
 rw[h1];rfl
theorem znH {d:Doc}(h:jE d):zcL d=some (jX (vI d)):=by
 have hn:=h.nl
 have he:=h.el
 unfold zcL
 rw[zw]
 obtain⟨m1,a1,a2⟩:=vB (n:=(d.Nodes.length:Int)) (step:=zcM d) (s0:=(GMap.nil:GMap Str (GMap Str Str))) (fun k s=>s=Y3 d k) (by omega) rfl (fun i s hi hI=>by
  have hi':i<d.Nodes.length:=by omega
  exact⟨_,zs8 hi' hn (h.nodeT (List.getElem_mem hi')) s,by rw[zhj,zP hi',hI]⟩)
 rw[show(d.Nodes.length:Int).toNat=d.Nodes.length by omega]at a2
 obtain⟨m2,b1,b2⟩:=vB (n:=(d.Edges.length:Int)) (step:=zcN d) (s0:=m1) (fun k s=>s=Ye d k) (by omega) a2 (fun i s hi hI=>by
  have hi':i<d.Edges.length:=by omega
  exact⟨_,zs7 hi' he (h.edgeT (List.getElem_mem hi')) s,by rw[zgv,zP hi',hI]⟩)
 rw[show(d.Edges.length:Int).toNat=d.Edges.length by omega]at b2
 rw[a1,Option.bind_some,b1,Option.bind_some,b2,show Ye d d.Edges.length=vI d from rfl,zoa (zi2 hn he)];rfl
theorem znm:∀(k:Nat) (l:List UInt8),(∀b∈l,b.toNat<128)→Go.Lib.validGoD k l=true
 | 0,_,_=>rfl
 | k+1,[],_=>by rw[Go.Lib.validGoD,if_pos rfl]
 | k+1,b::l,h=>by
  have hb:=h b (by simp)
  rw[Go.Lib.validGoD,if_neg (by simp),Go.Lib.decodeL_ascii b l hb,if_neg (fun e=>by have:=e.1;omega)]
  exact znm k l (fun c hc=>h c (by simp[hc]))
theorem zag {l:List UInt8}(h:∀b∈l,32≤b.toNat∧b.toNat<127)(hl:l.length≤1000):yp ⟨l⟩=0:=by
 refine zdu.2 ⟨hl,znm _ _ (fun b hb=>by have:=h b hb;omega),?_⟩
 rw[List.any_eq_false]
 intro b hb
 have:=h b hb
 unfold jd
 rw[decide_eq_false (p:=b.toNat<32) (by omega),decide_eq_false (p:=b.toNat=127) (by omega)]
 simp
theorem zk7 {s:Str}(h:zX s=true):∀b∈s.b,32≤b.toNat∧b.toNat<127:=by
 have low:∀c,jM c=true→32≤c.toNat∧c.toNat<127:=fun c h=>by
  unfold jM at h
  rw[Bool.and_eq_true,decide_eq_true_eq,decide_eq_true_eq]at h
  omega
 have nm:∀c,nameC c=true→32≤c.toNat∧c.toNat<127:=fun c h=>by
  unfold nameC at h
  rw[Bool.or_eq_true,Bool.or_eq_true]at h
  rcases h with(h | h) | h
  ·
   exact low c h
  ·
   rw[Bool.and_eq_true,decide_eq_true_eq,decide_eq_true_eq]at h;omega
  ·
   have:=of_decide_eq_true h;omega
 intro b hb
 unfold zX at h
 rw[Bool.and_eq_true]at h
 obtain⟨_,h2⟩:=h
 cases e:s.b with
 | nil=>rw[e]at hb;cases hb
 | cons c l=>
  rw[e]at h2 hb
  simp only[Bool.and_eq_true]at h2
  rcases List.mem_cons.1 hb with rfl | hb
  ·
   exact low _ h2.1
  ·
   exact nm _ (List.all_eq_true.1 h2.2 b hb)
theorem zrG {s:Str}(h:zX s=true):yp s=0:=zag (zk7 h) (by have:=zcw h;omega)
theorem zg6 (n:Int):∀b∈Go.Lib.itoa n,32≤b.toNat∧b.toNat<127:=fun b hb=>by
 rcases zkr hb with h | h
 ·
  rw[h];decide
 ·
  omega
theorem zkv {ws:List (List UInt8)}(h:∀w∈ws,∀b∈w,32≤b.toNat∧b.toNat<127):∀b∈qK 32 ws,32≤b.toNat∧b.toNat<127:=fun b hb=>by
 rcases zkt hb with h1 | ⟨w,hw,h1⟩
 ·
  rw[h1];decide
 ·
  exact h w hw b h1
theorem zll {l:List Int}(h:∀v∈l,v.natAbs<10000000)(hl:l.length≤100):yp ⟨qC l⟩=0:=by
 refine zag (zkv fun w hw=>?_) ?_
 ·
  obtain⟨v,_,rfl⟩:=List.mem_map.1 hw
  exact zg6 v
 ·
  have:=zg8 32 (l.map Go.Lib.itoa) 8 (fun x hx=>by
   obtain⟨v,hv,rfl⟩:=List.mem_map.1 hx
   exact zaU (h v hv))
  rw[List.length_map]at this
  show(qK 32 (l.map Go.Lib.itoa)).length≤1000
  omega
theorem zks {n:Int}(h:n.natAbs<10000000):yp (yC n)=0:=zag (zg6 n) (by have:=zaU h;omega)
theorem zqY {k:Int}(h1:1≤k)(h2:k≤6):yp (gx y4 k)=0:=by
 rcases zhb h1 h2 with rfl | rfl | rfl | rfl | rfl | rfl<;>exact zag (by decide) (by decide)
theorem zjm (y:zO):qS y=qK 32 (zdY y):=rfl
theorem zjn {y:zO}(h:QZ y):yp ⟨qS y⟩=0:=by
 refine zag ?_ (by have:=zpa h;omega)
 rw[zjm]
 refine zkv fun w hw=>?_
 unfold zdY at hw
 simp only[List.mem_cons,List.mem_nil_iff,or_false]at hw
 rcases hw with rfl | rfl | rfl
 ·
  exact zk7 h.node
 ·
  rcases zhM h.s1 h.s2 with e | e | e | e<;>rw[e]<;>decide
 ·
  exact zg6 _
def ju (m:GMap Str Str):Prop:=∀k v,m.f k=some v→zX k=true∧yp v=0
theorem ju.nil:ju GMap.nil:=fun k v h=>by cases h
theorem ju.set {m:GMap Str Str}(h:ju m){k v:Str}(hk:zX k=true)(hv:yp v=0):ju (m.set k v):=fun x y hx=>by
 rw[J9]at hx
 split at hx
 ·
  rename_i e
  obtain rfl:=Option.some.inj hx
  rw[e];exact⟨hk,hv⟩
 ·
  exact h x y hx
theorem ju.setN {m:GMap Str Str}(h:ju m){k v:Str}(hk:zX k=true)(hv:yp v=0):ju (setN m k v):=by
 unfold DB.setN
 split
 ·
  exact h
 ·
  exact h.set hk hv
theorem zgl {s:Str}(h:s=Str.nil∨zX s=true):yp s=0:=by
 rcases h with h | h
 ·
  rw[h];exact zum
 ·
  exact zrG h
theorem zrJ {n:zh}(h:zaq n)(ht:yp n.Text=0){i:Int}(hi:i.natAbs<10000000):ju (y5 n i):=by
 have h0:ju (QO n i):=(ju.nil.set (by decide) (zqY h.k1 h.k2)).set (by decide) (zks hi)
 have h1:ju (vR n i):=by
  unfold vR
  split
  ·
   exact h0
  ·
   exact h0.set (by decide) (zll h.box (by show 4≤100;decide))
 have h2:ju (Y0 n i):=((h1.setN (by decide) ht).setN (by decide) (zgl h.cls)).setN (by decide) (zgl h.par)
 unfold y5
 split
 ·
  exact h2.set (by decide) (zag (by decide) (by decide))
 ·
  exact h2
theorem zoR {x:zu}(h:zal x)(ht:yp x.Text=0){i:Int}(hi:i.natAbs<10000000):ju (qj x i):=by
 have h0:ju (Qc x i):=(((ju.nil.set (by decide) (zag (by decide) (by decide))).set (by decide) (zjn h.from_)).set (by decide) (zjn h.to_)).set (by decide) (zks hi)
 have h1:ju (vJ x i):=by
  unfold vJ
  split
  ·
   exact h0
  ·
   exact h0.set (by decide) (zll h.bends (by have:=Jy x.Bends;have:=h.few;omega))
 exact(h1.setN (by decide) ht).setN (by decide) (zgl h.cls)
theorem Yr (n:zh)(i:Int)(k:Str):(y5 n i).f k=if k=yP∧n.Locked=true then some Qs else if k=yM∧n.Parent≠Str.nil then some n.Parent else if k=zK∧n.Class≠Str.nil then some n.Class else
  if k=zI∧n.Text≠Str.nil then some n.Text else if k=yz∧n.Kind≠6 then some ⟨qC (vl n.Box)⟩else if k=kZ then some (yC i)else if k=zS then some (gx y4 n.Kind)else none:=by
 have h0:(QO n i).f k=if k=kZ then some (yC i)else if k=zS then some (gx y4 n.Kind)else none:=rfl
 have h1:(vR n i).f k=if k=yz∧n.Kind≠6 then some ⟨qC (vl n.Box)⟩else(QO n i).f k:=by
  unfold vR
  by_cases h:n.Kind=6
  ·
   rw[if_pos h,if_neg (fun e=>e.2 h)]
  ·
   rw[if_neg h,J9]
   by_cases e:k=yz
   ·
    rw[if_pos e,if_pos ⟨e,h⟩]
   ·
    rw[if_neg e,if_neg (fun q=>e q.1)]
 have h2:(Y0 n i).f k=if k=yM∧n.Parent≠Str.nil then some n.Parent else if k=zK∧n.Class≠Str.nil then some n.Class else if k=zI∧n.Text≠Str.nil then some n.Text else(vR n i).f k:=by
  unfold Y0
  rw[Jk,Jk,Jk]
 rw[←h0,←h1,←h2]
 unfold y5
 cases n.Locked with
 | false=>rw[if_neg (by decide),if_neg (fun e=>absurd e.2 (by decide))]
 | true=>
  rw[if_pos rfl,J9]
  by_cases e:k=yP
  ·
   rw[if_pos e,if_pos ⟨e,rfl⟩]
  ·
   rw[if_neg e,if_neg (fun q=>e q.1)]
theorem Yd (x:zu)(i:Int)(k:Str):(qj x i).f k=if k=zK∧x.Class≠Str.nil then some x.Class else if k=zI∧x.Text≠Str.nil then some x.Text else if k=yE∧x.Bends≠[]then some ⟨qC (qx x.Bends)⟩else
  if k=kZ then some (yC i)else if k=kTo then some ⟨qS x.To⟩else if k=qe then some ⟨qS x.From⟩else if k=zS then some QX else none:=by
 have h0:(Qc x i).f k=if k=kZ then some (yC i)else if k=kTo then some ⟨qS x.To⟩else if k=qe then some ⟨qS x.From⟩else if k=zS then some QX else none:=rfl
 have h1:(vJ x i).f k=if k=yE∧x.Bends≠[]then some ⟨qC (qx x.Bends)⟩else(Qc x i).f k:=by
  unfold vJ
  by_cases h:x.Bends=[]
  ·
   rw[if_pos h,if_neg (fun e=>e.2 h)]
  ·
   rw[if_neg h,J9]
   by_cases e:k=yE
   ·
    rw[if_pos e,if_pos ⟨e,h⟩]
   ·
    rw[if_neg e,if_neg (fun q=>e q.1)]
 unfold qj
 rw[Jk,Jk,h1,h0]
theorem J0 {s:Str}:((if s≠Str.nil then some s else none:Option Str)).getD Str.nil=s:=by
 by_cases h:s=Str.nil
 ·
  rw[if_neg (fun e=>e h),h];rfl
 ·
  rw[if_pos h];rfl
theorem znq {ws:List (List UInt8)}(h0:ws≠[])(h:∀w∈ws,(32:UInt8)∉w):yJ ⟨qK 32 ws⟩=ws.map Str.mk:=by
 have:=zt6 h0 h
 rw[zhY]at this
 exact this
theorem zeP {n:Int}(h:n.natAbs<10000000):qr (yC n)=some n:=by
 unfold qr
 rw[znY h]
theorem zlj:∀{l:List Int},(∀n∈l,n.natAbs<10000000)→yU (l.map yC)=some l
 | [],_=>rfl
 | n::l,h=>by
  rw[List.map_cons,yU,zeP (h n (by simp)),zlj (fun m hm=>h m (by simp[hm]))];rfl
theorem zns {l:List Int}(h0:l≠[])(h:∀n∈l,n.natAbs<10000000):yU (yJ ⟨qC l⟩)=some l:=by
 unfold qC
 rw[znq (by simpa using h0) (fun w hw=>by
  obtain⟨v,_,rfl⟩:=List.mem_map.1 hw
  exact(zg7 v).b32),List.map_map]
 exact zlj h
theorem znp {l:List Str}(hn:l.Nodup)(hl:(l.length:Int)≤9223372036854775807){k:Int}(hk:inR l k)(h0:0<k):qw l (gx l k)=k:=by
 unfold qw
 rw[zf7 hn hl hk]
 exact if_pos h0
theorem zjl {y:zO}(h:QZ y):qU ⟨qS y⟩=some y:=by
 have hw:yJ ⟨qS y⟩=[⟨y.Node.b⟩,⟨(gx qs y.Side).b⟩,⟨Go.Lib.itoa y.At⟩]:=by
  rw[zjm,znq (by unfold zdY;simp) (fun w hw=>by
   unfold zdY at hw
   simp only[List.mem_cons,List.mem_nil_iff,or_false]at hw
   rcases hw with rfl | rfl | rfl
   ·
    exact(zrF h.node).b32
   ·
    exact(zfH h.s1 h.s2).1.b32
   ·
    exact(zg7 _).b32)]
  rfl
 have s1:=h.s1
 have s2:=h.s2
 have hwn:qw qs (⟨(gx qs y.Side).b⟩:Str)=y.Side:=znp ztu (by decide) ⟨by omega,by show y.Side<5;omega⟩ (by omega)
 unfold qU
 rw[hw]
 simp only
 rw[hwn,if_neg (by
  rintro(e | e)
  ·
   exact zeJ h.node e
  ·
   omega)]
 have:qr (⟨Go.Lib.itoa y.At⟩:Str)=some y.At:=zeP h.at_
 rw[this];rfl
theorem JK {m:GMap Str Str}{k:Str}:m.has k=(m.f k).isSome:=rfl
theorem yc {a b:Str}{p:Prop}(h:a≠b):¬(a=b∧p):=fun e=>h e.1
theorem zrL {n:zh}(h:zaq n){i:Int}(h0:0≤i)(h1:i≤1000000):qk n.Id (y5 n i)=some ⟨i,some n,none⟩:=by
 have k1:=h.k1
 have k2:=h.k2
 have fz:(y5 n i).f kZ=some (yC i):=by
  rw[Yr,if_neg (yc (by decide)),if_neg (yc (by decide)),if_neg (yc (by decide)),if_neg (yc (by decide)),if_neg (yc (by decide)),if_pos rfl]
 have fk:(y5 n i).f zS=some (gx y4 n.Kind):=by
  rw[Yr,if_neg (yc (by decide)),if_neg (yc (by decide)),if_neg (yc (by decide)),if_neg (yc (by decide)),if_neg (yc (by decide)),if_neg (by decide),if_pos rfl]
 have fl:(y5 n i).f yP=if n.Locked=true then some Qs else none:=by
  rw[Yr]
  cases n.Locked with
  | true=>rw[if_pos ⟨rfl,rfl⟩,if_pos rfl]
  | false=>rw[if_neg (fun e=>absurd e.2 (by decide)),if_neg (yc (by decide)),if_neg (yc (by decide)),if_neg (yc (by decide)),if_neg (yc (by decide)),if_neg (by decide),if_neg (by decide),if_neg (by decide)]
 have fp:(y5 n i).f yM=if n.Parent≠Str.nil then some n.Parent else none:=by
  rw[Yr,if_neg (yc (by decide))]
  by_cases e:n.Parent=Str.nil
  ·
   rw[if_neg (fun q=>q.2 e),if_neg (yc (by decide)),if_neg (yc (by decide)),if_neg (yc (by decide)),if_neg (by decide),if_neg (by decide),if_neg (fun q=>q e)]
  ·
   rw[if_pos ⟨rfl,e⟩,if_pos e]
 have fc:(y5 n i).f zK=if n.Class≠Str.nil then some n.Class else none:=by
  rw[Yr,if_neg (yc (by decide)),if_neg (yc (by decide))]
  by_cases e:n.Class=Str.nil
  ·
   rw[if_neg (fun q=>q.2 e),if_neg (yc (by decide)),if_neg (yc (by decide)),if_neg (by decide),if_neg (by decide),if_neg (fun q=>q e)]
  ·
   rw[if_pos ⟨rfl,e⟩,if_pos e]
 have ft:(y5 n i).f zI=if n.Text≠Str.nil then some n.Text else none:=by
  rw[Yr,if_neg (yc (by decide)),if_neg (yc (by decide)),if_neg (yc (by decide))]
  by_cases e:n.Text=Str.nil
  ·
   rw[if_neg (fun q=>q.2 e),if_neg (yc (by decide)),if_neg (by decide),if_neg (by decide),if_neg (fun q=>q e)]
  ·
   rw[if_pos ⟨rfl,e⟩,if_pos e]
 have fpl:(y5 n i).f yz=if n.Kind≠6 then some ⟨qC (vl n.Box)⟩else none:=by
  rw[Yr,if_neg (yc (by decide)),if_neg (yc (by decide)),if_neg (yc (by decide)),if_neg (yc (by decide))]
  by_cases e:n.Kind=6
  ·
   rw[if_neg (fun q=>q.2 e),if_neg (by decide),if_neg (by decide),if_neg (fun q=>q e)]
  ·
   rw[if_pos ⟨rfl,e⟩,if_pos e]
 have gz:(y5 n i).getD kZ Str.nil=yC i:=by unfold GMap.getD;rw[fz];rfl
 have gk:(y5 n i).getD zS Str.nil=gx y4 n.Kind:=by unfold GMap.getD;rw[fk];rfl
 have gt:(y5 n i).getD zI Str.nil=n.Text:=by unfold GMap.getD;rw[ft];exact J0
 have gc:(y5 n i).getD zK Str.nil=n.Class:=by unfold GMap.getD;rw[fc];exact J0
 have gp:(y5 n i).getD yM Str.nil=n.Parent:=by unfold GMap.getD;rw[fp];exact J0
 have hl:(y5 n i).has yP=n.Locked:=by rw[JK,fl];cases n.Locked<;>rfl
 have hw:qw y4 (gx y4 n.Kind)=n.Kind:=znp zqZ (by decide) (zkE k1 k2) (by omega)
 have hkw:¬gx y4 n.Kind=QX:=by rcases zhb k1 k2 with e | e | e | e | e | e<;>rw[e]<;>decide
 have okO:∀(k s:Str),(y5 n i).f k=(if s≠Str.nil then some s else none)→okT (y5 n i) k:=fun k s hs ⟨a,b⟩=>by
  rw[JK,hs]at a
  unfold GMap.getD at b
  rw[hs,J0]at b
  rw[if_neg (fun q=>q b)]at a
  cases a
 have hF:Q2 (y5 n i) n.Kind:=by
  refine⟨fun k hk=>?_,okO _ _ ft,okO _ _ fc,okO _ _ fp,fun hk=>?_⟩
  ·
   rw[JK,Yr]at hk
   by_cases e1:k=yP
   ·
    exact .inl (by simp[e1])
   by_cases e2:k=yM
   ·
    exact .inl (by simp[e2])
   by_cases e3:k=zK
   ·
    exact .inl (by simp[e3])
   by_cases e4:k=zI
   ·
    exact .inl (by simp[e4])
   by_cases e6:k=kZ
   ·
    exact .inl (by simp[e6])
   by_cases e7:k=zS
   ·
    exact .inl (by simp[e7])
   rw[if_neg (yc e1),if_neg (yc e2),if_neg (yc e3),if_neg (yc e4)]at hk
   by_cases e5:k=yz∧n.Kind≠6
   ·
    exact .inr e5
   ·
    rw[if_neg e5,if_neg e6,if_neg e7]at hk;cases hk
  ·
   rw[hl]at hk
   unfold GMap.getD
   rw[fl,if_pos hk];rfl
 unfold qk
 rw[gz,zeP (by omega),Option.bind_some,if_neg (by omega),gk,if_neg hkw]
 have hN:Qm n.Id (y5 n i)=some n:=by
  unfold Qm
  rw[gk,hw,if_neg (by omega),gt,gc,gp,hl]
  by_cases h6:n.Kind=6
  ·
   rw[if_pos h6,Option.bind_some,if_pos hF,←h.zero h6]
  ·
   rw[if_neg h6]
   have:(y5 n i).getD yz Str.nil=⟨qC (vl n.Box)⟩:=by unfold GMap.getD;rw[fpl,if_pos h6];rfl
   rw[this,zns (by unfold vl;simp) h.box,Option.bind_some]
   show Option.bind (some n.Box) _=_
   rw[Option.bind_some,if_pos hF]
 rw[hN];rfl
theorem zoT {x:zu}(h:zal x){i:Int}(h0:0≤i)(h1:i≤1000000):qk x.Id (qj x i)=some ⟨i,none,some x⟩:=by
 have fz:(qj x i).f kZ=some (yC i):=by
  rw[Yd,if_neg (yc (by decide)),if_neg (yc (by decide)),if_neg (yc (by decide)),if_pos rfl]
 have fk:(qj x i).f zS=some QX:=by
  rw[Yd,if_neg (yc (by decide)),if_neg (yc (by decide)),if_neg (yc (by decide)),if_neg (by decide),if_neg (by decide),if_neg (by decide),if_pos rfl]
 have ff:(qj x i).f qe=some ⟨qS x.From⟩:=by
  rw[Yd,if_neg (yc (by decide)),if_neg (yc (by decide)),if_neg (yc (by decide)),if_neg (by decide),if_neg (by decide),if_pos rfl]
 have fto:(qj x i).f kTo=some ⟨qS x.To⟩:=by
  rw[Yd,if_neg (yc (by decide)),if_neg (yc (by decide)),if_neg (yc (by decide)),if_neg (by decide),if_pos rfl]
 have fc:(qj x i).f zK=if x.Class≠Str.nil then some x.Class else none:=by
  rw[Yd]
  by_cases e:x.Class=Str.nil
  ·
   rw[if_neg (fun q=>q.2 e),if_neg (yc (by decide)),if_neg (yc (by decide)),if_neg (by decide),if_neg (by decide),if_neg (by decide),if_neg (by decide),if_neg (fun q=>q e)]
  ·
   rw[if_pos ⟨rfl,e⟩,if_pos e]
 have ft:(qj x i).f zI=if x.Text≠Str.nil then some x.Text else none:=by
  rw[Yd,if_neg (yc (by decide))]
  by_cases e:x.Text=Str.nil
  ·
   rw[if_neg (fun q=>q.2 e),if_neg (yc (by decide)),if_neg (by decide),if_neg (by decide),if_neg (by decide),if_neg (by decide),if_neg (fun q=>q e)]
  ·
   rw[if_pos ⟨rfl,e⟩,if_pos e]
 have fb:(qj x i).f yE=if x.Bends≠[]then some ⟨qC (qx x.Bends)⟩else none:=by
  rw[Yd,if_neg (yc (by decide)),if_neg (yc (by decide))]
  by_cases e:x.Bends=[]
  ·
   rw[if_neg (fun q=>q.2 e),if_neg (by decide),if_neg (by decide),if_neg (by decide),if_neg (by decide),if_neg (fun q=>q e)]
  ·
   rw[if_pos ⟨rfl,e⟩,if_pos e]
 have gz:(qj x i).getD kZ Str.nil=yC i:=by unfold GMap.getD;rw[fz];rfl
 have gk:(qj x i).getD zS Str.nil=QX:=by unfold GMap.getD;rw[fk];rfl
 have gf:(qj x i).getD qe Str.nil=⟨qS x.From⟩:=by unfold GMap.getD;rw[ff];rfl
 have gto:(qj x i).getD kTo Str.nil=⟨qS x.To⟩:=by unfold GMap.getD;rw[fto];rfl
 have gt:(qj x i).getD zI Str.nil=x.Text:=by unfold GMap.getD;rw[ft];exact J0
 have gc:(qj x i).getD zK Str.nil=x.Class:=by unfold GMap.getD;rw[fc];exact J0
 have okO:∀(k s:Str),(qj x i).f k=(if s≠Str.nil then some s else none)→okT (qj x i) k:=fun k s hs ⟨a,b⟩=>by
  rw[JK,hs]at a
  unfold GMap.getD at b
  rw[hs,J0]at b
  rw[if_neg (fun q=>q b)]at a
  cases a
 have hF:Q1 (qj x i):=by
  refine⟨fun k hk=>?_,okO _ _ ft,okO _ _ fc⟩
  rw[JK,Yd]at hk
  by_cases e1:k=zK
  ·
   simp[e1]
  by_cases e2:k=zI
  ·
   simp[e2]
  by_cases e3:k=yE
  ·
   simp[e3]
  by_cases e4:k=kZ
  ·
   simp[e4]
  by_cases e5:k=kTo
  ·
   simp[e5]
  by_cases e6:k=qe
  ·
   simp[e6]
  by_cases e7:k=zS
  ·
   simp[e7]
  rw[if_neg (yc e1),if_neg (yc e2),if_neg (yc e3),if_neg e4,if_neg e5,if_neg e6,if_neg e7]at hk
  cases hk
 have hE:vK x.Id (qj x i)=some x:=by
  unfold vK
  rw[gf,zjl h.from_,Option.bind_some,gto,zjl h.to_,Option.bind_some,gt,gc]
  by_cases hb:x.Bends=[]
  ·
   have:¬(qj x i).has yE=true:=by rw[JK,fb,if_neg (fun q=>q hb)];decide
   rw[if_neg this,Option.bind_some,if_pos hF,←hb]
  ·
   have h2:(qj x i).has yE=true:=by rw[JK,fb,if_pos hb];rfl
   have h3:(qj x i).getD yE Str.nil=⟨qC (qx x.Bends)⟩:=by unfold GMap.getD;rw[fb,if_pos hb];rfl
   have hc:=Jy x.Bends
   rw[if_pos h2,h3]
   unfold Y4
   rw[zns (ziN hb) h.bends,Option.bind_some,if_neg (by omega),ze7,Option.bind_some,if_pos hF]
 unfold qk
 rw[gz,zeP (by omega),Option.bind_some,if_neg (by omega),gk,if_pos rfl,hE];rfl
theorem jE.ids {d:Doc}(h:jE d):(d.Nodes.map (·.Id)++d.Edges.map (·.Id)).Nodup:=by
 have he:∀(i:Nat) (hi:i<d.Edges.length),d.Edges[i].Id∉d.Nodes.map (·.Id)++(d.Edges.take i).map (·.Id):=fun i hi=>by
  have h2:=qo.1 (h.edge i hi) (if(decide (d.Edges[i].Id∈d.Nodes.map (·.Id)++(d.Edges.take i).map (·.Id)))=true then 6 else 0) (by simp)
  intro hm
  rw[if_pos (decide_eq_true hm)]at h2
  cases h2
 rw[List.nodup_append]
 refine⟨zle fun i hi=>of_decide_eq_false (zcx (h.node i hi)).2.1,?_,fun a ha b hb e=>?_⟩
 ·
  rw[List.nodup_iff_pairwise_ne,List.pairwise_iff_getElem]
  intro i j hi hj hij e
  simp only[List.length_map]at hi hj
  simp only[List.getElem_map]at e
  refine he j hj (List.mem_append_right _ (List.mem_map.2 ⟨d.Edges[i],?_,e⟩))
  have:d.Edges[i]=(d.Edges.take j)[i]'(by simp;omega):=by simp
  rw[this];exact List.getElem_mem _
 ·
  obtain⟨x,hx,rfl⟩:=List.mem_map.1 hb
  obtain⟨j,hj,rfl⟩:=List.getElem_of_mem hx
  exact he j hj (List.mem_append_left _ (e▸ha))
def zb5 (d:Doc):List (Str×GMap Str Str):=((List.range d.Nodes.length).map fun(i:Nat)=>((gx d.Nodes (i:Int)).Id,y5 (gx d.Nodes (i:Int)) (i:Int)))++(List.range d.Edges.length).map fun(i:Nat)=>((gx d.Edges (i:Int)).Id,qj (gx d.Edges (i:Int)) (i:Int))
theorem zfb {α β:Type}[Inhabited α](l:List α)(f:α→β):((List.range l.length).map fun(i:Nat)=>f (gx l (i:Int)))=l.map f:=by
 refine List.ext_getElem (by simp) fun i h1 h2=>?_
 rw[List.length_map]at h2
 rw[List.getElem_map,List.getElem_range,zP h2,List.getElem_map]
theorem zi1 {d:Doc}(h:jE d):zD (vI d) (zb5 d):=by
 have hid:=h.ids
 have hN:(List.range d.Nodes.length).map (fun(i:Nat)=>(gx d.Nodes (i:Int)).Id)=d.Nodes.map (·.Id):=zfb d.Nodes (·.Id)
 have hE:(List.range d.Edges.length).map (fun(i:Nat)=>(gx d.Edges (i:Int)).Id)=d.Edges.map (·.Id):=zfb d.Edges (·.Id)
 have h1:zD (Y3 d d.Nodes.length) ((List.range d.Nodes.length).map fun(i:Nat)=>((gx d.Nodes (i:Int)).Id,y5 (gx d.Nodes (i:Int)) (i:Int))):=by
  have:=zcs (fun i:Nat=>(gx d.Nodes (i:Int)).Id) (fun i:Nat=>y5 (gx d.Nodes (i:Int)) (i:Int)) (List.range d.Nodes.length) GMap.nil [] zD.nil (by rw[List.map_nil,List.nil_append,hN];exact(List.nodup_append.1 hid).1)
  rw[List.nil_append]at this
  exact this
 exact zcs (fun i:Nat=>(gx d.Edges (i:Int)).Id) (fun i:Nat=>qj (gx d.Edges (i:Int)) (i:Int)) (List.range d.Edges.length) _ _ h1 (by
  rw[List.map_map,hE]
  have:(List.range d.Nodes.length).map ((fun x:Str×GMap Str Str=>x.1)∘fun(i:Nat)=>((gx d.Nodes (i:Int)).Id,y5 (gx d.Nodes (i:Int)) (i:Int)))=d.Nodes.map (·.Id):=hN
  rw[this];exact hid)
theorem ziw {e:GMap Str Str}{l:List (Str×Str)}(h:zD e l):qd (jo e)=e:=by
 have hs:(jo e).Pairwise (fun a b=>zQ a.Field.b b.Field.b<0):=by
  unfold jo
  rw[List.pairwise_map]
  exact(zex h).imp fun h=>h
 have hL:=zix hs
 refine zch fun k=>Option.ext fun v=>?_
 rw[←hL.mem k v,List.mem_map]
 constructor
 ·
  rintro⟨a,ha,e1⟩
  obtain⟨f,hf,rfl⟩:=List.mem_map.1 (show a∈(ql e).map _ from ha)
  obtain⟨rfl,rfl⟩:=Prod.mk.inj e1
  have:=(zcq h).1 hf
  unfold GMap.has at this
  unfold GMap.getD
  cases q:e.f f with
  | none=>rw[q]at this;cases this
  | some v=>rfl
 ·
  intro hv
  refine⟨⟨k,v⟩,List.mem_map.2 ⟨k,(zcq h).2 (by unfold GMap.has;rw[hv];rfl),?_⟩,rfl⟩
  unfold GMap.getD
  rw[hv];rfl
structure znR (k:Str) (e:GMap Str Str):Prop where
 id:zX k=true
 all:ju e
 few:qH e 20
 some:e.f zS≠none
theorem zpd {d:Doc}(h:jE d){x:Str×GMap Str Str}(hx:x∈zb5 d):znR x.1 x.2:=by
 have hn:=h.nl
 have he:=h.el
 rcases List.mem_append.1 hx with hx | hx
 ·
  obtain⟨i,hi,rfl⟩:=List.mem_map.1 hx
  have hi':=List.mem_range.1 hi
  rw[zP hi']
  have hT:=h.nodeT (List.getElem_mem hi')
  have ht:=qo.1 (h.node i hi') (yp d.Nodes[i].Text) (by simp)
  refine⟨hT.id,zrJ hT ht (by omega),zhi _ _,?_⟩
  rw[Yr,if_neg (yc (by decide)),if_neg (yc (by decide)),if_neg (yc (by decide)),if_neg (yc (by decide)),if_neg (yc (by decide)),if_neg (by decide),if_pos rfl]
  simp
 ·
  obtain⟨i,hi,rfl⟩:=List.mem_map.1 hx
  have hi':=List.mem_range.1 hi
  rw[zP hi']
  have hT:=h.edgeT (List.getElem_mem hi')
  have ht:=qo.1 (h.edge i hi') (yp d.Edges[i].Text) (by simp)
  refine⟨hT.id,zoR hT ht (by omega),zgu _ _,?_⟩
  rw[Yd,if_neg (yc (by decide)),if_neg (yc (by decide)),if_neg (yc (by decide)),if_neg (by decide),if_neg (by decide),if_neg (by decide),if_pos rfl]
  simp
theorem zm6 {m:GMap Str (GMap Str Str)}{l:List (Str×GMap Str Str)}(h:zD m l){t:zv}(ht:t∈jX m):∃e,(t.Id,e)∈l∧t.Attrs=jo e:=by
 obtain⟨k,hk,rfl⟩:=List.mem_map.1 (show t∈(ql m).map _ from ht)
 have:=(zcq h).1 hk
 unfold GMap.has at this
 cases q:m.f k with
 | none=>rw[q]at this;cases this
 | some e=>exact⟨e,(h.mem k e).2 q,by show jo (m.getD k GMap.nil)=_;unfold GMap.getD;rw[q];rfl⟩
theorem zm7 {d:Doc}(h:jE d):j4 (jX (vI d)):=by
 have hL:=zi1 h
 have hn:=h.nl
 have he:=h.el
 refine⟨?_,fun x hx=>?_,fun x hx=>?_,fun x hx a ha=>?_,zm8 hL,fun x hx=>?_⟩
 ·
  unfold jX
  rw[List.length_map,zev hL]
  unfold zb5
  rw[List.length_append,List.length_map,List.length_map,List.length_range,List.length_range]
  omega
 all_goals obtain⟨e,h1,h2⟩:=zm6 hL hx
 all_goals have hG:=zpd h h1
 ·
  exact hG.id
 ·
  obtain⟨le,a,b⟩:=hG.few
  rw[h2]
  unfold jo
  rw[List.length_map,zev a]
  refine⟨?_,b⟩
  cases hk:e.f zS with
  | none=>exact absurd hk hG.some
  | some v=>exact List.length_pos_of_mem ((a.mem zS v).2 hk)
 ·
  rw[h2]at ha
  obtain⟨le,a1,b⟩:=hG.few
  obtain⟨k,hk,rfl⟩:=List.mem_map.1 (show a∈(ql e).map _ from ha)
  have:=(zcq a1).1 hk
  unfold GMap.has at this
  cases q:e.f k with
  | none=>rw[q]at this;cases this
  | some v=>
   have hv:=hG.all k v q
   refine⟨hv.1,?_⟩
   show yp (e.getD k Str.nil)=0
   unfold GMap.getD
   rw[q];exact hv.2
 ·
  obtain⟨le,a,b⟩:=hG.few
  rw[h2]
  unfold jo
  rw[List.pairwise_map]
  exact(zex a).imp fun h=>h
theorem zkJ {a b:List UInt8}(h:zQ b a<0):(Op.bytesLess a b || a==b)=false:=by
 rw[Bool.or_eq_false_iff,zgj]
 have h3:=jI a b
 refine⟨decide_eq_false (by omega),beq_eq_false_iff_ne.2 fun e=>?_⟩
 rw[e,Jv]at h
 omega
theorem zun {l:List zv}(h:j4 l):Qq l=0:=by
 have hl:=h.len
 unfold Qq
 rw[if_neg (by omega)]
 refine qo.2 fun v hv=>?_
 obtain⟨i,hi,rfl⟩:=List.mem_map.1 hv
 have hi':=List.mem_range.1 hi
 have hin:=List.getElem_mem hi'
 unfold Yz
 refine qo.2 fun v hv=>?_
 rcases List.mem_append.1 hv with hv | hv
 ·
  unfold jO at hv
  rw[zP hi']at hv
  have hsome:=h.some _ hin
  have hlate:vQ l i=false:=by
   unfold vQ
   by_cases h0:0<i
   ·
    rw[show(i:Int) - 1=((i - 1:Nat):Int)by omega,zP hi',zP (by omega)]
    rw[zkJ (List.pairwise_iff_getElem.1 h.ids (i - 1) i (by omega) hi' (by omega)),Bool.and_false]
   ·
    rw[decide_eq_false (p:=0<(i:Int)) (by omega),Bool.false_and]
  simp only[List.mem_cons,List.mem_nil_iff,or_false]at hv
  rcases hv with rfl | rfl | rfl | rfl
  ·
   rw[if_neg (by rw[h.id _ hin];decide)]
  ·
   rw[if_neg (by rw[hlate];decide)]
  ·
   rw[if_neg (by omega)]
  ·
   rw[if_neg (by omega)]
 ·
  rw[List.mem_singleton.1 hv,zP hi']
  unfold YH
  refine qo.2 fun v hv=>?_
  obtain⟨k,hk,rfl⟩:=List.mem_map.1 hv
  have hk':=List.mem_range.1 hk
  have hf:=h.field _ hin _ (List.getElem_mem hk')
  unfold vk
  rw[zP hk']
  have hlate:Qh l[i].Attrs k=false:=by
   unfold Qh
   by_cases h0:0<k
   ·
    rw[show(k:Int) - 1=((k - 1:Nat):Int)by omega,zP hk',zP (by omega)]
    rw[zkJ (List.pairwise_iff_getElem.1 (h.fields _ hin) (k - 1) k (by omega) hk' (by omega)),Bool.and_false]
   ·
    rw[decide_eq_false (p:=0<(k:Int)) (by omega),Bool.false_and]
  rw[if_neg (by rw[hf.1];decide),if_neg (by rw[hlate];decide),hf.2];rfl
def vL (d:Doc):List zf:=((List.range d.Nodes.length).map fun(i:Nat)=>(⟨(i:Int),some (gx d.Nodes (i:Int)),none⟩:zf))++(List.range d.Edges.length).map fun(i:Nat)=>(⟨(i:Int),none,some (gx d.Edges (i:Int))⟩:zf)
theorem zjg:∀{l:List zv},(∀t∈l,∃e,qk t.Id (qd t.Attrs)=some e)→∃es,y3 l=some es
 | [],_=>⟨[],rfl⟩
 | t::l,h=>by
  obtain⟨e,he⟩:=h t (by simp)
  obtain⟨es,hes⟩:=zjg (l:=l) (fun x hx=>h x (by simp[hx]))
  exact⟨e::es,by rw[y3,he,hes];rfl⟩
theorem zoO {d:Doc}(h:jE d):∃es,y3 (jX (vI d))=some es∧vH es=d:=by
 have hL:=zi1 h
 have hn:=h.nl
 have he:=h.el
 have hent:(zb5 d).map (fun x=>qk x.1 (qd (jo x.2)))=(vL d).map some:=by
  unfold zb5 vL
  rw[List.map_append,List.map_append,List.map_map,List.map_map,List.map_map,List.map_map]
  congr 1
  ·
   refine List.map_congr_left fun i hi=>?_
   have hi':=List.mem_range.1 hi
   simp only[Function.comp]
   obtain⟨le,a,_⟩:=zhi (gx d.Nodes (i:Int)) (i:Int)
   rw[ziw a,zP hi',zrL (h.nodeT (List.getElem_mem hi')) (by omega) (by omega)]
  ·
   refine List.map_congr_left fun i hi=>?_
   have hi':=List.mem_range.1 hi
   simp only[Function.comp]
   obtain⟨le,a,_⟩:=zgu (gx d.Edges (i:Int)) (i:Int)
   rw[ziw a,zP hi',zoT (h.edgeT (List.getElem_mem hi')) (by omega) (by omega)]
 obtain⟨es,hes⟩:∃es,y3 (jX (vI d))=some es:=zjg fun t ht=>by
  obtain⟨e,h1,h2⟩:=zm6 hL ht
  have:qk t.Id (qd (jo e))∈(vL d).map some:=by
   rw[←hent]
   exact List.mem_map.2 ⟨(t.Id,e),h1,rfl⟩
  obtain⟨y,_,hy⟩:=List.mem_map.1 this
  exact⟨y,by rw[h2];exact hy.symm⟩
 refine⟨es,hes,?_⟩
 have hp:es.Perm (vL d):=by
  have h1:=zdW hes
  unfold jX at h1
  rw[List.map_map]at h1
  have h2:=zha hL GMap.nil fun k e=>qk k (qd (jo e))
  have h3:(es.map some).Perm ((vL d).map some):=by
   rw[←hent,h1]
   exact h2
  have h4:=h3.filterMap id
  rwa [List.filterMap_map,List.filterMap_map,Function.id_comp,List.filterMap_some,List.filterMap_some]at h4
 have p1:(yL (vL d)).Perm (yL es):=(hp.filterMap _).symm
 have p2:(yK (vL d)).Perm (yK es):=(hp.filterMap _).symm
 have n1:yL (vL d)=(List.range d.Nodes.length).map fun(i:Nat)=>(⟨(i:Int),(gx d.Nodes (i:Int)).Id,gx d.Nodes (i:Int)⟩:yt):=by
  unfold yL vL
  rw[List.filterMap_append,List.filterMap_map,List.filterMap_map]
  have a:(List.range d.Edges.length).filterMap ((fun e:zf=>e.node.map fun n=>(⟨e.z,n.Id,n⟩:yt))∘fun(i:Nat)=>(⟨(i:Int),none,some (gx d.Edges (i:Int))⟩:zf))=[]:=List.filterMap_eq_nil_iff.2 fun _ _=>rfl
  rw[a,List.append_nil]
  exact congrFun List.filterMap_eq_map _
 have n2:yK (vL d)=(List.range d.Edges.length).map fun(i:Nat)=>(⟨(i:Int),(gx d.Edges (i:Int)).Id,gx d.Edges (i:Int)⟩:yu):=by
  unfold yK vL
  rw[List.filterMap_append,List.filterMap_map,List.filterMap_map]
  have a:(List.range d.Nodes.length).filterMap ((fun e:zf=>e.edge.map fun x=>(⟨e.z,x.Id,x⟩:yu))∘fun(i:Nat)=>(⟨(i:Int),some (gx d.Nodes (i:Int)),none⟩:zf))=[]:=List.filterMap_eq_nil_iff.2 fun _ _=>rfl
  rw[a,List.nil_append]
  exact congrFun List.filterMap_eq_map _
 have s1:(yL (vL d)).Pairwise (kLt je fun x=>(x.z,x.id)):=by
  rw[n1,List.pairwise_map]
  refine List.pairwise_lt_range.imp fun {a b} hab=>?_
  show je _ _<0
  rw[Qb (by show((a:Nat):Int)≠((b:Nat):Int);omega)]
  show((a:Nat):Int) - ((b:Nat):Int)<0
  omega
 have s2:(yK (vL d)).Pairwise (kLt je fun x=>(x.z,x.id)):=by
  rw[n2,List.pairwise_map]
  refine List.pairwise_lt_range.imp fun {a b} hab=>?_
  show je _ _<0
  rw[Qb (by show((a:Nat):Int)≠((b:Nat):Int);omega)]
  show((a:Nat):Int) - ((b:Nat):Int)<0
  omega
 unfold vH
 rw[JQ Q9 p1 s1,JQ Q9 p2 s2,n1,n2,List.map_map,List.map_map]
 have e1:(List.range d.Nodes.length).map ((fun x:yt=>x.x)∘fun(i:Nat)=>(⟨(i:Int),(gx d.Nodes (i:Int)).Id,gx d.Nodes (i:Int)⟩:yt))=d.Nodes:=(zfb d.Nodes id).trans (List.map_id _)
 have e2:(List.range d.Edges.length).map ((fun x:yu=>x.x)∘fun(i:Nat)=>(⟨(i:Int),(gx d.Edges (i:Int)).Id,gx d.Edges (i:Int)⟩:yu))=d.Edges:=(zfb d.Edges id).trans (List.map_id _)
 rw[e1,e2]
theorem znO (l:List zh)(hl:l.length≤1000000):zdg l l=some true:=by
 unfold zdg
 simp only[decide_true,Bool.not_true,cond_false]
 rw[zhE rfl (by omega) (fun i hi=>by
  unfold zhP
  rw[zl ⟨by omega,by omega⟩,zl ⟨by omega,by omega⟩,zP hi]
  simp)]
 simp
theorem znP (l:List zz)(hl:l.length≤1000000):zdh l l=some true:=by
 unfold zdh
 simp only[decide_true,Bool.not_true,cond_false]
 rw[zhE rfl (by omega) (fun i hi=>by
  unfold zhQ
  rw[zl ⟨by omega,by omega⟩,zl ⟨by omega,by omega⟩,zP hi]
  simp)]
 simp
theorem zn5 {d:Doc}(hn:d.Nodes.length≤500)(he:d.Edges.length≤1000)(hb:∀x∈d.Edges,x.Bends.length≤50):J2 d d=some true:=by
 unfold J2
 rw[znO _ (by omega),Option.bind_some,qy]
 have:zde d.Edges d.Edges Je=some true:=by
  unfold zde
  obtain⟨e,h1,h2⟩:=QU (n:=(d.Edges.length:Int)) (step:=zfK Je d.Edges d.Edges) (fin:=fun s=>(Res.nx s:Res Unit Bool)) (s0:=()) (fun _ _=>True) (fun e=>e=Res.nx ()) (by omega) trivial (fun i s hi _=>by
   have hin:inR d.Edges (i:Int):=⟨by omega,by omega⟩
   have hx:Je (gx d.Edges (i:Int)) (gx d.Edges (i:Int))=some true:=by
    unfold Je
    have:=hb _ (jy hin)
    simp only[decide_true,Bool.and_self,qy]
    rw[znP _ (by omega)];rfl
   unfold zfK
   rw[zl hin,zw,zl hin,zw,hx,Option.bind_some,Bool.not_true,cond_false]
   exact .inl ⟨(),rfl,trivial⟩) (fun s _=>rfl)
  rw[decide_eq_true rfl,Bool.not_true,cond_false,h1,h2,yG]
 rw[this];rfl
theorem zir {d:Doc}(h:jE d):J2 d d=some true:=zn5 h.nl h.el fun x hx=>(h.edgeT hx).few
theorem zuq {d:Doc}(h:jE d):zbh (jX (vI d)) (jX (vI d))=some true:=by
 have hR:=zm7 h
 have hl:=hR.len
 exact zn6 (by omega) (fun x hx=>by have:=(hR.some x hx).2;omega)
theorem zsm {l:List zv}(hf:∀x∈l,zF x):(Option.bind (QK l) fun r6=>
    Option.bind (zbk l) fun want1=>
    bnd ((⟨([]:(List zh)),([]:(List zu))⟩:Doc)) fun right1=>
    Option.bind (α:=(Int×Doc)) (
     bif decide (want1=0)then(
      Option.bind (zbj l) fun r7=>
      some (r7.2,r7.1))
     else(
      some (want1,right1))) fun j_14=>
    Option.bind (JS r6.1 r6.2 j_14.1 j_14.2) fun r8=>
    some r8)=some true:=by
  have bad:∀e:Int,e≠0→∀r:Doc,JS ⟨[],[]⟩ e e r=some true:=fun e he r=>by
    unfold JS
    rw[decide_eq_false he];simp
  by_cases h:Qq l=0
  · have hR:=zh0 h
    rw[zid h,zis hf,h,znK h]
    cases hes:y3 l with
    | none =>
      simp only[Option.bind_some,zw,decide_true,cond_true]
      rw[bad 8 (by decide)];rfl
    | some es =>
      obtain⟨hd,_,_⟩:=zoP hR hes
      obtain⟨e,c1,c2,c3⟩:=zia hd
      simp only
      rw[c1,c2,Option.bind_some,Option.bind_some,Option.bind_some,zw]
      simp only[Option.bind_some,decide_true,cond_true]
      by_cases he:e=0
      · rw[if_pos he]
        have:=zir (c3 he)
        unfold JS
        simp only[decide_true,Bool.not_true,cond_false,qy]
        rw[this];rfl
      · rw[if_neg he]
        simp only
        rw[bad e he];rfl
  · have hp:QK l=some ((⟨[],[]⟩:Doc),Qq l):=by
      unfold QK
      rw[zw,zh9,Option.bind_some,decide_eq_false h];rfl
    rw[hp,Option.bind_some,zis hf,Option.bind_some,zw,decide_eq_false h,cond_false,Option.bind_some]
    simp only
    rw[bad _ h];rfl
theorem znN (d:Doc)(l:List zv)(hd:zF d)(hl:zF l):zey d l=some true:=by
 obtain⟨e,c1,c2,c3⟩:=zia hd
 have hlast:=zsm hl.2
 unfold zey
 rw[c2,Option.bind_some]
 by_cases he:e=0
 ·
  subst he
  have h:=c3 rfl
  rw[zob h c1,Option.bind_some,zjf,Option.bind_some]
  have h1:JT (jX (vI d)) 0 0 (zaX d)=some true:=by
   unfold JT zaX
   rw[znH h]
   simp only[decide_true,Bool.not_true,cond_false,qy,Option.bind_some]
   rw[zuq h];rfl
  simp only[Bool.not_true,Bool.not_false,qy]
  rw[h1,Option.bind_some]
  simp only[Bool.not_true,Bool.or_self,cond_false,decide_true,cond_true]
  obtain⟨es,g1,g2⟩:=zoO h
  have hD:QK (jX (vI d))=some (d,0):=by
   rw[zid (zun (zm7 h)),g1]
   simp only
   rw[g2,c1];rfl
  rw[hD,Option.bind_some]
  simp only[decide_true,Bool.not_true,Bool.not_false,qy]
  rw[zir h,Option.bind_some]
  simp only[Bool.not_true,Bool.or_self,cond_false,yG]
  exact hlast
 ·
  have hT:JB d=some ([],e):=by
   unfold JB
   rw[c1,Option.bind_some,decide_eq_false he];rfl
  rw[hT,Option.bind_some,zjf,Option.bind_some]
  simp only[Bool.not_true,Bool.not_false,qy]
  rw[zus he,Option.bind_some,decide_eq_false he]
  simp only[Bool.not_true,Bool.or_self,cond_false,yG]
  exact hlast
end Go.DB
