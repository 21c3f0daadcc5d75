/- A part of the proof. -/
import Derived.Test.YtokamljonkipbaaGreatDoorTdlK3
import Derived.Shelf.Small.Strs
import Derived.Shelf.SlicesE.Clone
import Derived.Shelf.SlIter.Nil
import Derived.Shelf.SlIter.Sorted
import Derived.Shelf.SlIter.Collect
import Derived.Shelf.SortM.Plain
import Derived.Shelf.SortM.SortNone
set_option linter.unusedSimpArgs false
set_option linter.unusedVariables false
namespace Go.DB
open Go Go.RowKit
structure SlV where
 a:Option Addr
 n:Nat
 c:Nat
instance:Inhabited SlV:=⟨⟨none,0,0⟩⟩
instance:Rep SlV where
 sz:=1
 agg:=false
 cells:=fun _ x cs _=>cs=[.slice x.a x.n x.c]
 len:=fun h=>by rw[h];rfl
 pos:=by decide
 flat:=fun h=>by rw[h];rfl
 plain:=fun h c hc=>by rw[h]at hc;simp at hc;rw[hc];rfl
 law:=fun _ _ h=>h
instance:Enc SlV:=⟨fun x=>[.slice x.a x.n x.c],fun _=>True,fun {M x cs w}=>⟨fun h=>⟨h,trivial⟩,fun h=>h.1⟩,fun _=>rfl,fun x v h=>by obtain rfl:=List.mem_singleton.1 h;rfl⟩
theorem zss {A B:Type}(f:A→B){l m:List B}(h:l.Perm m):∀z:List A,z.map f=m→∃z':List A,z'.Perm z∧z'.map f=l:=by
 induction h with
 | nil=>intro z hz;exact⟨z,.refl _,hz⟩
 | @cons x l m _ ih=>
  intro z hz
  cases z with
  | nil=>cases hz
  | cons y z=>
   simp only[List.map_cons,List.cons.injEq]at hz
   obtain⟨z',h1,h2⟩:=ih z hz.2
   exact⟨y::z',h1.cons y,by rw[List.map_cons,h2,hz.1]⟩
 | swap x y l=>
  intro z hz
  match z,hz with
  | a::b::z,hz=>
   simp only[List.map_cons,List.cons.injEq]at hz
   exact⟨b::a::z,.swap a b z,by simp[hz.1,hz.2.1,hz.2.2]⟩
 | trans _ _ ih1 ih2=>
  intro z hz
  obtain⟨z1,h1,h2⟩:=ih2 z hz
  obtain⟨z2,h3,h4⟩:=ih1 z1 h2
  exact⟨z2,h3.trans h1,h4⟩
theorem zhX {A:Type}(R:A→A→Prop)(hR:∀x y,R x y→¬R y x):∀{M N:List A},M.Perm N→M.Pairwise R→N.Pairwise R→M=N
 | [],N,hp,_,_=>List.Perm.nil_eq hp
 | x::M,N,hp,h1,h2=>by
  cases N with
  | nil=>exact absurd hp.length_eq (by simp)
  | cons y N=>
   have hxy:x=y:=by
    have hx:x∈y::N:=hp.mem_iff.1 (by simp)
    have hy:y∈x::M:=hp.mem_iff.2 (by simp)
    rcases List.mem_cons.1 hx with e | hx
    ·
     exact e
    ·
     rcases List.mem_cons.1 hy with e | hy
     ·
      exact e.symm
     ·
      exact absurd ((List.pairwise_cons.1 h2).1 x hx) (hR _ _ ((List.pairwise_cons.1 h1).1 y hy))
   subst hxy
   rw[zhX R hR (List.Perm.cons_inv hp) (List.pairwise_cons.1 h1).2 (List.pairwise_cons.1 h2).2]
section
variable {α:Type}
def Qk (key:α→Str)(a b:α):Prop:=zH (key a).b (key b).b<0
theorem zkN (key:α→Str)(x y:α)(h:Qk key x y):¬Qk key y x:=by
 unfold Qk at *
 have:=jm (key x).b (key y).b
 omega
noncomputable def zfn (key:α→Str)(l:List α):List α:=by
 classical
 exact if h:∃m:List α,m.Perm l∧m.Pairwise (Qk key)then h.choose else l
theorem znA {key:α→Str}{l m:List α}(h1:m.Perm l)(h2:m.Pairwise (Qk key)):zfn key l=m:=by
 have h:∃m:List α,m.Perm l∧m.Pairwise (Qk key):=⟨m,h1,h2⟩
 unfold zfn
 rw[dif_pos h]
 exact zhX _ (zkN key) (h.choose_spec.1.trans h1.symm) h.choose_spec.2 h2
end
section
variable {α β:Type} [Rep β] (fx:α→Str×List β)
def Y8 (M:zh)(w:World)(p:(Str×SlV)×α):Prop:=p.1.1=(fx p.2).1∧p.1.2.n=(fx p.2).2.length∧(fx p.2).2.length≤p.1.2.c∧p.1.2.c≤9223372036854775807∧j9 M (fx p.2).2 p.1.2.a w∧p.1.1.b.length≤9223372036854775807
theorem zl0 {M:zh}{w:World}:∀(l:List α) (cs:List Value),@zM α (Rep.via fx) M w l cs→∃z:List ((Str×SlV)×α),z.map (·.2)=l∧zM M w (z.map (·.1)) cs∧∀p∈z,Y8 fx M w p
 | [],cs,h=>⟨[],rfl,h,fun p hp=>by simp at hp⟩
 | x::l,cs,⟨c,r,h,h1,h2⟩=>by
  obtain⟨z,z1,z2,z3⟩:=zl0 l r h2
  obtain⟨c1,c2,e,g1,a,cap,e2,g2,g3,g4⟩:=(show Rep.cells M (fx x) c w from h1)
  refine⟨(((fx x).1,⟨a,(fx x).2.length,cap⟩),x)::z,by rw[List.map_cons,z1],⟨c,r,h,⟨c1,c2,e,g1,e2⟩,z2⟩,fun p hp=>?_⟩
  rcases List.mem_cons.1 hp with rfl | hp
  ·
   exact⟨rfl,rfl,g2,g3,g4,g1.2⟩
  ·
   exact z3 p hp
theorem zlZ {M:zh}{w:World}:∀(z:List ((Str×SlV)×α)) (cs:List Value),(∀p∈z,Y8 fx M w p)→zM M w (z.map (·.1)) cs→@zM α (Rep.via fx) M w (z.map (·.2)) cs
 | [],cs,_,h=>h
 | p::z,cs,hz,⟨c,r,h,⟨c1,c2,e,g1,e2⟩,h2⟩=>by
  obtain⟨q1,q2,q3,q4,q5,q6⟩:=hz p (by simp)
  refine⟨c,r,h,?_,zlZ z r (fun y hy=>hz y (by simp[hy])) h2⟩
  refine(show Rep.cells M (fx p.2) c w from⟨c1,c2,e,?_,p.1.2.a,p.1.2.c,?_,q3,q4,q5⟩)
  ·
   rw[←q1];exact g1
  ·
   rw[←q2];exact e2
theorem Y8.law {M M':zh}{w w':World}{p:(Str×SlV)×α}(hk:zx M w w')(hm:∀k,M' k→M k∨w.heap.size≤k)(h:Y8 fx M w p):Y8 fx M' w' p:=
 ⟨h.1,h.2.1,h.2.2.1,h.2.2.2.1,h.2.2.2.2.1.law hk hm,h.2.2.2.2.2⟩
end
theorem zu4 {P:Program}{ρ:Shelf.Ren}(Ly:Proofs.SlLaysF0.n6 P ρ){f g E:Nat}{α β:Type}[Rep β](fx:α→Str×List β)(hf:ρ.f 6=f)(hE:ρ.t 24=E)(ok:z8 P f)(okg:z8 P g)
  {fds:Array Field} (hagg:P.underlying E=some (.struct fds)) (hT:Ty P E (Str×SlV))
  (hc:∀(x y:Str×SlV) (W:World),Calls P g #[.agg (Enc.enc x).toArray,.agg (Enc.enc y).toArray] W fun e w'=>e = .returned (.int .i64 (zH x.1.b y.1.b))∧∃q os',w'=Go.Sort.grow (W.drewN q) os')
  {s:Value} {l:List α} (hl:(l.length:Int)<4611686018427387904) (hn:(l.map fun x=>(fx x).1).Nodup):
  zS P f [isV s,zbI g []] [(s,@zp E α (Rep.via fx) l)] zV [some (@zp E α (Rep.via fx) (zfn (fun x=>(fx x).1) l))]:=by
 letI:Rep α:=Rep.via fx
 haveI:Inhabited { x:Str×SlV // (fun _=>True) x }:=⟨⟨default,trivial⟩⟩
 refine⟨ok,fun M D w vs hM ha hOw=>?_⟩
 obtain⟨a,cap,hv,h1,h2,h3⟩:=hOw.has 0 s (zp E l) rfl
 have hO:Sort.SWO (Proofs.ltOf (fun x y:{ x:Str×SlV // (fun _=>True) x }=>zH x.1.1.b y.1.1.b)):=by
  have h:∀x y:{ x:Str×SlV // (fun _=>True) x },Proofs.ltOf (fun x y:{ x:Str×SlV // (fun _=>True) x }=>zH x.1.1.b y.1.1.b) x y=decide (zH x.1.1.b y.1.1.b<0):=fun x y=>rfl
  constructor
  ·
   intro x;rw[h,vx];rfl
  ·
   intro x y z h1 h2
   rw[h]at *
   simp only[decide_eq_true_eq]at *
   exact(Qa (by omega) (by omega)).2 (.inl h1)
  ·
   intro x y z h1 h2
   rw[h]at *
   simp only[decide_eq_false_iff_not,Int.not_lt]at *
   have e1:=jm x.1.1.b y.1.1.b
   have e2:=jm y.1.1.b z.1.1.b
   have e3:=jm x.1.1.b z.1.1.b
   have:=(Qa (a:=z.1.1.b) (b:=y.1.1.b) (c:=x.1.1.b) (by omega) (by omega)).1
   omega
 obtain⟨z,z1,z2,z3⟩:∃z:List ((Str×SlV)×α),z.map (·.2)=l∧(zp E (z.map (·.1))).p M (D 0) s w∧∀p∈z,Y8 fx M w p:=by
  cases a with
  | none=>
   obtain⟨h4,h5,h6⟩:=h3
   subst h4
   exact⟨[],rfl,⟨none,cap,hv,h1,h2,rfl,h5,h6⟩,fun p hp=>by simp at hp⟩
  | some ad=>
   obtain⟨hs,hD,hMb,pre,cs,rest,hh,hp,he,hr⟩:=h3
   obtain⟨z,z1,z2,z3⟩:=zl0 fx l cs he
   have hlen:(z.map (·.1)).length=l.length:=by rw[←z1];simp
   exact⟨z,z1,⟨some ad,cap,by rw[hlen];exact hv,by rw[hlen];exact h1,h2,hs,hD,hMb,pre,cs,rest,hh,hp,z2,by rw[hlen];exact hr⟩,z3⟩
 have hspec:=zm2 (s:=s) (l:=z.map (·.1)) (α:=Str×SlV) (Q:=fun _=>True) (cf:=fun x y=>zH x.1.1.b y.1.1.b) Ly hf hE ok okg hagg hT hO (fun x y W=>hc x.1 y.1 W) (by rw[List.length_map];rw[←z1,List.length_map]at hl;exact hl) (fun _ _=>trivial)
 obtain⟨p1,p2⟩:=zhT (l:=z.map (·.1)) (Q:=fun _=>True) (cf:=fun x y:{ x:Str×SlV // (fun _=>True) x }=>zH x.1.1.b y.1.1.b) hO (fun _ _=>trivial)
 obtain⟨lv,hlv0⟩:∃lv,lv=y9 (Q:=fun _=>True) (fun x y:{ x:Str×SlV // (fun _=>True) x }=>zH x.1.1.b y.1.1.b) (z.map (·.1)):=⟨_,rfl⟩
 have p3:∀(i j:Nat) (hi:i<j) (hj:j<lv.length),¬zH (lv[j]).1.b (lv[i]).1.b<0:=by
  subst hlv0
  exact fun i j hi hj=>p2 i j hi hj trivial trivial
 clear p2
 rw[←hlv0]at hspec p1
 obtain⟨z',q1,q2⟩:=zss (·.1) p1 z rfl
 have hz':∀p∈z',Y8 fx M w p:=fun p hp=>z3 p (q1.mem_iff.1 hp)
 have hperm:(z'.map (·.2)).Perm l:=by rw[←z1];exact q1.map _
 have hsorted:(z'.map (·.2)).Pairwise (Qk fun x=>(fx x).1):=by
  rw[List.pairwise_iff_getElem]
  intro i j hi hj hij
  have hi':i<z'.length:=by simpa using hi
  have hj':j<z'.length:=by simpa using hj
  have hlv:lv.length=z'.length:=by rw[←q2,List.length_map]
  have:=p3 i j hij (by omega)
  have ei:lv[i]'(by omega)=z'[i].1:=by simp[←q2]
  have ej:lv[j]'(by omega)=z'[j].1:=by simp[←q2]
  rw[ei,ej]at this
  have ri:=(hz' _ (List.getElem_mem hi')).1
  have rj:=(hz' _ (List.getElem_mem hj')).1
  rw[ri,rj]at this
  unfold Qk
  rw[List.getElem_map,List.getElem_map]
  have hne:(fx z'[i].2).1≠(fx z'[j].2).1:=fun e=>by
   have hnd:((z'.map (·.2)).map fun x=>(fx x).1).Nodup:=(hperm.map _).nodup_iff.2 hn
   rw[List.nodup_iff_pairwise_ne,List.pairwise_iff_getElem]at hnd
   have:=hnd i j (by simpa using hi') (by simpa using hj') hij
   simp only[List.getElem_map]at this
   exact this e
  have hsw:=jm (fx z'[i].2).1.b (fx z'[j].2).1.b
  have h0:zH (fx z'[i].2).1.b (fx z'[j].2).1.b≠0:=fun e=>hne (by
   have:=YG e
   cases hx:(fx z'[i].2).1;cases hy:(fx z'[j].2).1
   rw[hx,hy]at this
   simp only at this
   rw[this])
  show zH (fx z'[i].2).1.b (fx z'[j].2).1.b<0
  omega
 rw[znA hperm hsorted]
 have hDM:∀k,DU D 1 k→M k:=fun k ⟨i,hi,hk⟩=>by
  obtain rfl:i=0:=by omega
  exact zd.inM _ M (D 0) s w z2 k hk
 refine(hspec.calls M D w vs hM ha ⟨fun i s' c hi=>?_,fun i j x y hi hj hne=>?_⟩).mono fun e w' ⟨v,M',D',r1,r2,r3,r4,r5,r6,r7,r8⟩=>⟨v,M',D',r1,r2,r3,r4,r5,r6,fun i c hi=>?_,fun i j c c' hi hj hne=>?_⟩
 ·
  match i,hi with
  | 0,hi=>
   simp only[List.getElem?_cons_zero,Option.some.injEq,Prod.mk.injEq]at hi
   obtain⟨rfl,rfl⟩:=hi
   exact z2
 ·
  match i,j,hi,hj with
  | 0,0,_,_=>omega
 ·
  match i,hi with
  | 0,hi=>
   simp only[List.getElem?_cons_zero,Option.some.injEq]at hi
   subst hi
   obtain⟨⟨a',cap',g1,g2,g3,g4⟩,g5⟩:=r7 0 _ rfl
   refine⟨?_,g5⟩
   have hlen:(z'.map (·.2)).length=lv.length:=by rw[←q2];simp
   have hkM:zx M w w':=r2.mono (fun k _ h=>hDM k h)
   have hr:∀p∈z',Y8 fx M' w' p:=fun p hp=>(hz' p hp).law fx hkM r4
   cases a' with
   | none=>
    obtain⟨u1,u2,u3⟩:=g4
    have:z'.map (·.2)=[]:=List.eq_nil_of_length_eq_zero (by rw[hlen,u1];rfl)
    rw[this]
    rw[u1]at g1 g2
    exact⟨none,cap',g1,g2,g3,rfl,u2,u3⟩
   | some ad=>
    obtain⟨hs,hD,hMb,pre,cs,rest,hh,hp,he,hrr⟩:=g4
    rw[←q2]at he
    exact⟨some ad,cap',by rw[hlen];exact g1,by rw[hlen];exact g2,g3,hs,hD,hMb,pre,cs,rest,hh,hp,zlZ fx z' cs hr he,by rw[hlen];exact hrr⟩
 ·
  match i,j,hi,hj with
  | 0,0,_,_=>omega
end Go.DB
namespace Go.DB
open Go Go.RowKit
def zfN (s sep:Str):Int:=zH s.b sep.b
theorem zpu {P:Program}{ρ:Shelf.Ren}(Ly:Proofs.Lays.n106 P ρ){f:Nat}(hf:ρ.f 106=f)(ok:z8 P f){s sep:Str}:zr P f [rep s,rep sep] (rep (zfN s sep)):=by
 refine⟨ok,fun M w vs hM ha=>?_⟩
 match vs,ha with
 | [v,u],⟨hv,hu,_⟩=>
  obtain⟨rfl,_⟩:=yC.1 hv
  obtain⟨rfl,_⟩:=yC.1 hu
  subst hf
  refine Calls.mono (Proofs.Any.strings_Compare Ly (ByteArray.mk s.b.toArray) (ByteArray.mk sep.b.toArray) w) ?_
  rintro e w' ⟨rfl,rfl⟩
  refine⟨zx.refl _ _,_,rfl,yz.2 ⟨?_,?_⟩⟩
  ·
   show Value.int .i64 (Lib.compareBytes s.b sep.b)=_
   rw[zdk];rfl
  ·
   unfold zfN InI
   rcases zi1 s.b sep.b with e | e | e<;>rw[e]<;>omega
end Go.DB
namespace Go.DB
open Go Go.RowKit
theorem zM.one {α:Type}[Rep α]{M:zh}{w:World}:∀{l:List α} {cs:List Value},zM M w l cs→∀c∈cs,jf c=true
 | [],_,h,c,hc=>by rw[h]at hc;simp at hc
 | x::l,_,⟨c1,r,rfl,h1,h2⟩,c,hc=>by
  rcases List.mem_append.1 hc with h | h
  ·
   exact Rep.plain h1 c h
  ·
   exact h2.one c h
end Go.DB
namespace Go.DB
open Go Go.RowKit
theorem zua {α:Type}(l:List α)(i:Int):seg l i (l.length:Int)=l.drop i.toNat:=by
 unfold seg
 rw[Int.toNat_natCast,List.take_length]
theorem zpr {P:Program}{ρ:Shelf.Ren}(Ly:Proofs.SlLaysE0.n41 P ρ){f:Nat}(hf:ρ.f 41=f)(ok:z8 P f){t T:TypeId}(hT:ρ.t 23=T){α:Type}[Rep α](hr:qL P t T α){s:Value}{l:List α}{k:Int}(hl:l.length≤1073741824)(hk0:0≤k)(hk1:k<l.length):
  zS P f [isV (qP s k (l.length:Int) (Rep.sz α))] [(s,zp T l)] zV [some (zp T l),some (zp T (seg l k (l.length:Int)))]:=by
 obtain⟨i0,z,ht,hi,hz0,hz1,hzs,hby⟩:=hr.get
 have z23:∀w,(Go.sizeOf T).run P w = .ok (Rep.sz α) w:=fun w=>by simp[sizeOf,typeInfo,hi,hz1,go_sem]
 refine⟨ok,fun M D w vs hM ha hO=>?_⟩
 match vs,ha with
 | [v],⟨hv,_⟩=>
  obtain⟨rfl,_⟩:=ya.1 hv
  have h0:=hO.has 0 s (zp T l) rfl
  obtain⟨a,cap,rfl,h1,h2,h3⟩:=id h0
  subst hf hT
  cases a with
  | none=>
   obtain⟨h4,h5,h6⟩:=h3
   subst h4
   simp at hk1
   omega
  | some ad=>
   obtain⟨b,off,sp⟩:=ad
   obtain⟨hs,hD,hMb,pre,cs,rest,hh,hp,he,hrr⟩:=h3
   simp only at hs hD hMb hh hp
   subst hs
   obtain⟨n,rfl⟩:∃n:Nat,k=(n:Int):=⟨k.toNat,by omega⟩
   have hn:n<l.length:=by omega
   have hcl:=zM.len _ _ he
   have he':=(zM.take l cs n (by omega) he).2
   have hcell:∀j,w.cell? ⟨b,j,none⟩=(pre++cs++rest).toArray[j]?:=fun j=>hh.cell
   have hblk:b<w.heap.size:=hM.lt b hMb
   have hpv:qP (.slice (some ⟨b,off,none⟩) l.length cap) (n:Int) (l.length:Int) (Rep.sz α) = .slice (some ⟨b,off+n*Rep.sz α,none⟩) (l.length - n) (cap - n):=by
    simp only[qP,sliced,Int.toNat_natCast,if_neg (show ¬cap=n by omega),Option.map_some]
    rw[qF]
   rw[hpv]
   have hcl':(cs.drop (n*Rep.sz α)).length=(l.length - n)*Rep.sz α:=by rw[List.length_drop,hcl,Nat.sub_mul]
   have hdl:(l.drop n).length=l.length - n:=List.length_drop
   refine Calls.mono (Proofs.AnyE.slices_Clone Ly i0 z (Rep.sz α) i0.bytes hi hz0 hz1 rfl hzs Rep.pos z23 b (off+n*Rep.sz α) (l.length - n) (cap - n) (cs.drop (n*Rep.sz α)) w hcl' (by unfold maxLen;omega) ?_ ?_ ?_) ?_
   ·
    have h3:i0.bytes≤100000:=by omega
    have:=Nat.mul_le_mul (show l.length - n≤1073741824 by omega) h3
    omega
   ·
    intro j u hj
    rw[hcell]
    simp only[List.getElem?_toArray]
    rw[List.getElem?_drop]at hj
    rw[List.append_assoc,List.getElem?_append_right (by omega),show off+n*Rep.sz α+j - pre.length=n*Rep.sz α+j by omega,List.getElem?_append_left (List.getElem?_eq_some_iff.1 hj).1]
    exact hj
   ·
    exact fun u hu=>he'.one u hu
   ·
    rintro e w' ⟨v',rfl,ho,hne,hb⟩
    have hkeep:zx (DU D 1) w w':=⟨hb.os,hb.tape,hb.output,hb.size,fun k hk _=>hb.block k hk⟩
    rcases ho.2 with⟨rfl,_⟩ | ⟨g,cap',cur,rfl,hbase,hg,r1,r2,r3,r4⟩
    ·
     exact absurd rfl hne
    ·
     have hgl:g<w'.heap.size:=(Array.getElem?_eq_some_iff.1 hg).1
     have hkeepM:zx M w w':=⟨hb.os,hb.tape,hb.output,hb.size,fun k hk _=>hb.block k hk⟩
     have hm':∀k,(M k∨k=g)→M k∨w.heap.size≤k:=fun k h=>h.imp id (fun e=>by subst e;exact hbase)
     have hcur:cur.toList=cs.drop (n*Rep.sz α)++cur.toList.drop (cs.drop (n*Rep.sz α)).length:=by
      rw[←List.take_append_drop (cs.drop (n*Rep.sz α)).length cur.toList]
      congr 1
      ·
       rw[hcl'];simpa using r4
      ·
       simp
     have hcsz:cur.toList.length=cap'*Rep.sz α:=by simpa using r3
     refine⟨_,fun k=>M k∨k=g,fun i=>if i=0 then D 0 else fun k=>k=g,rfl,hkeep,fun k h=>.inl (.inl h),hm',fun k h=>h.elim (fun h=>Nat.lt_of_lt_of_le (hM.lt k h) hb.size) (fun e=>by subst e;exact hgl),trivial,?_,?_⟩
     ·
      intro i c hc
      match i,hc with
      | 0,hc=>
       simp only[List.getElem?_cons_zero,Option.some.injEq]at hc
       subst hc
       refine⟨(zp (ρ.t 23) l).law M _ (D 0) _ w w' hkeepM hm' (fun k hk=>?_) h0,fun k hk=>.inl ⟨0,by show 0<1;omega,hk⟩⟩
       have:k=b:=(hD k).1 hk
       subst this
       exact⟨.inl hMb,hb.block _ hblk⟩
      | 1,hc=>
       simp only[List.getElem?_cons_succ,List.getElem?_cons_zero,Option.some.injEq]at hc
       subst hc
       rw[zua,Int.toNat_natCast]
       refine⟨⟨some ⟨g,0,none⟩,cap',(by rw[hdl];rfl),(by rw[hdl];exact r1),by unfold maxLen at r2;omega,rfl,fun k=>Iff.rfl,.inr rfl,[],cs.drop (n*Rep.sz α),cur.toList.drop (cs.drop (n*Rep.sz α)).length,?_,rfl,zM.law hkeepM hm' _ _ he',?_⟩,fun k hk=>.inr (by have:k=g:=hk;subst this;exact hbase)⟩
       ·
        refine qk.of ?_
        rw[hg]
        congr 2
        rw[List.nil_append,←hcur]
       ·
        have e0:(List.drop (cs.drop (n*Rep.sz α)).length cur.toList).length=cur.toList.length - (cs.drop (n*Rep.sz α)).length:=List.length_drop
        rw[e0,hcsz,hcl',hdl]
        exact Nat.le_of_eq (Nat.sub_mul _ _ _)
     ·
      intro i j c c' hi hj hne k hk hk'
      match i,j,hi,hj with
      | 0,0,_,_=>exact hne rfl
      | 1,1,_,_=>exact hne rfl
      | 0,1,_,_=>
       have e1:k=b:=(hD k).1 hk
       have e2:k=g:=hk'
       omega
      | 1,0,_,_=>
       have e1:k=g:=hk
       have e2:k=b:=(hD k).1 hk'
       omega
end Go.DB
namespace Go.DB
open Go Go.RowKit
end Go.DB
namespace Go.DB
open Go Go.RowKit
section
variable {V:Type} [Rep V]
noncomputable def vm (m:GMap Str V):List Str:=by
 classical
 exact if h:∃l,zI m l then((h.choose.map fun x=>x.1.b).mergeSort Go.leB).map Str.mk else []
omit [Rep V]in
theorem zgJ {m:GMap Str V}{l:List (Str×V)}(h:zI m l):vm m=((l.map fun x=>x.1.b).mergeSort Go.leB).map Str.mk:=by
 have he:∃l,zI m l:=⟨l,h⟩
 unfold vm
 rw[dif_pos he]
 congr 1
 exact Go.mergeSort_of_perm ((he.choose_spec.perm h).map _)
omit [Rep V]in
theorem zr2:vm (GMap.nil:GMap Str V)=[]:=by rw[zgJ zI.nil];simp
end
end Go.DB
namespace Go.DB
open Go Go.RowKit
end Go.DB
