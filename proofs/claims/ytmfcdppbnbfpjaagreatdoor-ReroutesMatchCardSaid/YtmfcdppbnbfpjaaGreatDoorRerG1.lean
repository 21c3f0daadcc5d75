/- A part of the proof. -/
import Derived.Test.YtmfcdppbnbfpjaaGreatDoorRerLi1
import Derived.Test.YtmfcdppbnbfpjaaGreatDoorPu0
import Derived.Test.YtmfcdppbnbfpjaaGreatDoorRerK3
set_option linter.unusedSimpArgs false
set_option linter.unusedVariables false
namespace Go.DB
open Go Go.RowKit
theorem zcx {α:Type}[Inhabited α]{l:List α}{step:Int→Unit→Option (Res Unit (Res Unit Int))}(p:α→Bool)(hl:(l.length:Int)≤9223372036854775807)
  (hf:∀(i:Nat) (h:i<l.length),step i ()=some (if p l[i]=true then .ab (.ab (i:Int))else .nx ())):
  ya (l.length:Int) step (fun s=>Res.nx s) ()=some (match l.findIdx? p with | some i=>Res.ab (i:Int) | none=>Res.nx ()):=by
 obtain⟨e,he,hp⟩:=zgR (n:=(l.length:Int)) (step:=step) (fin:=fun s=>(Res.nx s:Res Unit Int)) (s0:=()) (fun i _=>∀j (h:j<l.length),j<i→p l[j]=false)
  (fun e=>e=match l.findIdx? p with | some i=>Res.ab (i:Int) | none=>Res.nx ()) hl (fun j h hj=>by omega) (fun i u hi hI=>by
   have hi':i<l.length:=by omega
   cases u
   rw[hf i hi']
   cases hb:p l[i]with
   | false=>
    refine .inl ⟨(),by simp,fun j h hj=>?_⟩
    rcases Nat.lt_or_eq_of_le (Nat.lt_succ_iff.1 hj)with h1 | h1
    ·
     exact hI j h h1
    ·
     subst h1;exact hb
   | true=>
    refine .inr ⟨_,by simp;rfl,?_⟩
    have:l.findIdx? p=some i:=by
     rw[List.findIdx?_eq_some_iff_getElem]
     exact⟨hi',hb,fun j hj=>by simpa using hI j (by omega) hj⟩
    rw[this]) (fun u hI=>by
   have:l.findIdx? p=none:=by
    rw[List.findIdx?_eq_none_iff]
    intro x hx
    obtain⟨j,hj,rfl⟩:=List.mem_iff_getElem.1 hx
    exact hI j hj (by simpa using hj)
   rw[this])
 rw[he,hp]
theorem zbY {α:Type}{l:List α}{p:α→Bool}:decide (0≤(match l.findIdx? p with | some i=>(i:Int) | none=> -1))=l.any p:=by
 cases h:l.findIdx? p with
 | none=>
  rw[List.findIdx?_eq_none_iff]at h
  simp;exact h
 | some i=>
  obtain⟨hi,hp,_⟩:=List.findIdx?_eq_some_iff_getElem.1 h
  have:l.any p=true:=List.any_eq_true.2 ⟨_,List.getElem_mem hi,hp⟩
  rw[this];simp
theorem zkj {α:Type}[Inhabited α][DecidableEq α]{l m:List α}{step:Int→Unit→Option (Res Unit (Res Unit Bool))}(hlm:l.length=m.length)(hl:(l.length:Int)≤9223372036854775807)
  (hf:∀(i:Nat) (h:i<l.length),step i ()=some (if l[i]=m[i]'(hlm▸h)then .nx ()else .ab (.ab false))):
  ya (l.length:Int) step (fun s=>Res.nx s) ()=some (if l=m then Res.nx ()else Res.ab false):=by
 obtain⟨e,he,hp⟩:=zgR (n:=(l.length:Int)) (step:=step) (fin:=fun s=>(Res.nx s:Res Unit Bool)) (s0:=()) (fun i _=>∀j (h:j<l.length),j<i→l[j]=m[j]'(hlm▸h))
  (fun e=>e=if l=m then Res.nx ()else Res.ab false) hl (fun j h hj=>by omega) (fun i u hi hI=>by
   have hi':i<l.length:=by omega
   cases u
   rw[hf i hi']
   by_cases hb:l[i]=m[i]'(hlm▸hi')
   ·
    refine .inl ⟨(),by simp[hb],fun j h hj=>?_⟩
    rcases Nat.lt_or_eq_of_le (Nat.lt_succ_iff.1 hj)with h1 | h1
    ·
     exact hI j h h1
    ·
     subst h1;exact hb
   ·
    refine .inr ⟨_,by rw[if_neg hb],?_⟩
    have:¬l=m:=fun e=>hb (by subst e;rfl)
    rw[if_neg this]) (fun u hI=>by
   have:l=m:=List.ext_getElem hlm (fun j h1 h2=>hI j h1 (by simpa using h1))
   rw[if_pos this])
 rw[he,hp]
theorem Qa {l:List Int}(hl:(l.length:Int)≤9223372036854775807):q5 l=some (zP l):=by
 unfold q5
 rw[jp (fun e=>e) (fun e=>Res.ab e) hl (fun i hi=>?_)]
 ·
  by_cases h:zP (l.map fun e=>e)=0
  ·
   simp only[if_pos h,qd];simp at h;simp[h]
  ·
   simp only[if_neg h,zan];simp
 ·
  unfold zgG
  rw[zo hi]
  simp only[zG]
  by_cases h:gx l i=0<;>simp[h]
theorem jD (b:Bool)(e:Int):qH b e=some (if b=true then e else 0):=by
 unfold qH;cases b<;>rfl
theorem Qz (n lo hi:Int):q6 n lo hi=some (decide (lo≤n∧n≤hi)):=by
 unfold q6;simp
theorem zlI (s:List Box)(f:Box→Option Bool)(p:Box→Bool)(hl:(s.length:Int)≤9223372036854775807)(hf:∀x∈s,f x=some (p x)):
  zcS s f=some (match s.findIdx? p with | some i=>(i:Int) | none=> -1):=by
 unfold zcS
 rw[zcx p hl (fun i h=>by unfold zho;rw[zo ⟨by omega,by omega⟩,zS h,hf _ (List.getElem_mem h)];simp only[zq];cases p s[i]<;>rfl)]
 cases s.findIdx? p<;>rfl
theorem zhM (s:List Box)(f:Box→Option Bool)(p:Box→Bool)(hl:(s.length:Int)≤9223372036854775807)(hf:∀x∈s,f x=some (p x)):
  zcN s f=some (s.any p):=by
 unfold zcN
 rw[zlI s f p hl hf]
 simp only[zq,zbY]
theorem zc1 (s t:List zd)(hl:(s.length:Int)≤9223372036854775807):YD s t=some (decide (s=t)):=by
 unfold YD
 by_cases h:s.length=t.length
 ·
  simp only[h,decide_true,Bool.not_true,cond_false]
  rw[←h,zkj h hl (fun i hi=>by
   unfold zhm
   rw[zo ⟨by omega,by omega⟩,zo ⟨by omega,by omega⟩,zS hi,zS (h▸hi)]
   by_cases hv:s[i]=t[i]'(h▸hi)<;>simp[hv])]
  by_cases he:s=t<;>simp[he]
 ·
  have h1:¬((s.length:Int)=t.length):=by omega
  have h2:¬s=t:=fun e=>h (by rw[e])
  simp[h1,h2]
theorem zbt {n:Int}(h1: -9223372036854775807≤n)(h2:n≤9223372036854775807):jX n=some (max n (-n)):=by
 unfold jX;rw[Wk (by omega) (by omega)]
theorem zc0 {a b:Int}(hb:1≤b)(h1: -1000000000000≤a)(h2:a≤1000000000000)(h3:b≤1000000000000):YY a b=some (a / b):=by
 unfold YY
 rw[zo (by omega)]
 simp only[zG]
 have e1:=Int.mul_tdiv_add_tmod a b
 have e2:=Int.mul_ediv_add_emod a b
 have m1:=Int.emod_nonneg a (show b≠0 by omega)
 have m2:=Int.emod_lt_of_pos a (show 0<b by omega)
 have t1: -b<a.tmod b:=by have:=Int.tmod_lt_of_pos (-a) (show 0<b by omega);rw[Int.neg_tmod]at this;omega
 have t2:=Int.tmod_lt_of_pos a (show 0<b by omega)
 have e3:a.tdiv b*b=a - a.tmod b:=by rw[Int.mul_comm];omega
 rw[e3,Wk (n:=a - a.tmod b) (by omega) (by omega)]
 by_cases c:a<a - a.tmod b
 ·
  have c1:decide (a<a - a.tmod b)=true:=by simpa using c
  simp only[c1,cond_true,zq,zG]
  have hq:a.tdiv b=a / b+1:=by
   have:b*a.tdiv b=b*(a / b+1):=by
    have h:b*(a / b+1)=b*(a / b)+b:=by rw[Int.mul_add,Int.mul_one]
    have hneg:a<0:=by
     rcases Int.lt_or_le a 0 with h0 | h0
     ·
      exact h0
     ·
      have:=Int.tmod_nonneg b h0;omega
    have hm:a % b=a.tmod b+b:=by
     have hd:a % b=(a.tmod b+b) % b:=by
      rw[Int.add_emod_right,Int.tmod_def,Int.sub_emod,Int.mul_emod_right,Int.sub_zero,Int.emod_emod_of_dvd _ (Int.dvd_refl b)]
     rw[hd,Int.emod_eq_of_lt (by omega) (by omega)]
    omega
   exact Int.eq_of_mul_eq_mul_left (by omega) this
  have hlo: -1000000000000≤a / b:=by
   have:=Int.ediv_le_ediv (show 0<b by omega) h1
   have h4: -1000000000000≤ -1000000000000 / b:=by
    rw[Int.le_ediv_iff_mul_le (by omega)]
    have:(-1000000000000:Int)*b≤ -1000000000000*1:=by omega
    omega
   omega
  have hhi:a / b≤1000000000000:=by
   have h4:b*(a / b)≤a:=by omega
   rcases Int.lt_or_le 0 (a / b)with h0 | h0
   ·
    have:1*(a / b)≤b*(a / b):=Int.mul_le_mul_of_nonneg_right hb (by omega)
    omega
   ·
    omega
  rw[hq,Wk (by omega) (by omega)]
  congr 1;omega
 ·
  have c1:decide (a<a - a.tmod b)=false:=by simpa using c
  simp only[c1,cond_false,zq]
  have hm:a % b=a.tmod b:=by
   have hd:a % b=(a.tmod b) % b:=by
    rw[Int.tmod_def,Int.sub_emod,Int.mul_emod_right,Int.sub_zero,Int.emod_emod_of_dvd _ (Int.dvd_refl b)]
   rw[hd,Int.emod_eq_of_lt (by omega) (by omega)]
  have:b*a.tdiv b=b*(a / b):=by omega
  rw[Int.eq_of_mul_eq_mul_left (by omega) this]
theorem zhS (n:Int):za1 n=some (min (max n (-1)) 1):=rfl
section
def vN (n:Int):Bool:=decide (n < -1000000) || decide (1000000<n)
def yM (p:zd):Int:=if vN p.X=true∨vN p.Y=true then 3 else 0
def okP (p:zd):Prop:= -1000000≤p.X∧p.X≤1000000∧ -1000000≤p.Y∧p.Y≤1000000
theorem vP {p:zd}:yM p=0↔okP p:=by
 unfold yM okP vN
 simp only[Bool.or_eq_true,decide_eq_true_eq]
 constructor
 ·
  intro h
  by_cases a:(p.X < -1000000∨1000000<p.X)∨p.Y < -1000000∨1000000<p.Y
  ·
   rw[if_pos a]at h;omega
  ·
   omega
 ·
  intro h
  rw[if_neg (by omega)]
theorem zpn (p:zd):yM p=0∨yM p=3:=by unfold yM;split<;>simp
def qB (l:List zd):Int:=if 1000<l.length then 4 else zP (l.map yM)
theorem Yr {l:List zd}:qB l=0↔l.length≤1000∧∀p∈l,okP p:=by
 unfold qB
 by_cases h:1000<l.length
 ·
  simp[h];omega
 ·
  rw[if_neg h,qi]
  constructor
  ·
   intro h2;exact⟨by omega,fun p hp=>vP.1 (h2 _ (List.mem_map_of_mem hp))⟩
  ·
   rintro⟨_,h2⟩ e he
   obtain⟨p,hp,rfl⟩:=List.mem_map.1 he
   exact vP.2 (h2 p hp)
theorem ze9 (p:zd):YN p=some (yM p):=by
 unfold YN YO yM vN
 simp only[zq]
 cases h1:(decide (p.X < -1000000) || decide (1000000<p.X))<;>cases h2:(decide (p.Y < -1000000) || decide (1000000<p.Y))<;>simp[h1,h2]
theorem zff (p:zd):QS p=some (yM p):=by
 unfold QS yM
 simp only[Qz,zq,jD]
 by_cases h1: -1000000≤p.X∧p.X≤1000000
 ·
  have h1':vN p.X=false:=by unfold vN;simp;omega
  by_cases h2: -1000000≤p.Y∧p.Y≤1000000
  ·
   have h2':vN p.Y=false:=by unfold vN;simp;omega
   simp[h1,h2,h1',h2']
  ·
   have h2':vN p.Y=true:=by unfold vN;simp;omega
   simp[h1,h2,h1',h2']
 ·
  have h1':vN p.X=true:=by unfold vN;simp;omega
  simp[h1,h1']
theorem zpj {l:List zd}(hl:(l.length:Int)≤9223372036854775807):zbR l=some (zP (l.map yM)):=by
 unfold zbR
 rw[jp yM (fun e=>Res.ab e) hl (fun i hi=>by
  unfold zf0
  rw[zo hi]
  simp only[zG,ze9,zq]
  by_cases h:yM (gx l i)=0<;>simp[h])]
 by_cases h:zP (l.map yM)=0
 ·
  simp only[if_pos h,qd];rw[h]
 ·
  simp only[if_neg h,zan]
theorem zlz (l:List zd):zbP l=some (qB l):=by
 unfold zbP qB
 by_cases h:1000<l.length
 ·
  have:(1000:Int)<l.length:=by omega
  simp[h,this]
 ·
  have:¬(1000:Int)<l.length:=by omega
  simp only[this,decide_false,cond_false,if_neg h]
  rw[zpj (by omega)];rfl
theorem zlY (l:List zd):zaW l=some (qB l):=by
 unfold zaW qB
 by_cases h:1000<l.length
 ·
  have:(1000:Int)<l.length:=by omega
  simp[h,this]
 ·
  have:¬(1000:Int)<l.length:=by omega
  simp only[this,decide_false,cond_false,if_neg h]
  rw[jp yM (fun e=>Res.ab e) (by omega) (fun i hi=>by
   unfold zgI
   rw[zo hi]
   simp only[zG,zff,zq]
   by_cases h:yM (gx l i)=0<;>simp[h])]
  by_cases h:zP (l.map yM)=0
  ·
   simp only[if_pos h,qd];rw[h]
  ·
   simp only[if_neg h,zan]
def YJ (l:List zd)(i:Nat):Prop:=decide ((gx l i).X=(gx l ((i:Int) - 1)).X)=decide ((gx l i).Y=(gx l ((i:Int) - 1)).Y)
instance (l:List zd):DecidablePred (YJ l):=fun i=>by unfold YJ;infer_instance
open Classical in
noncomputable def vI (l:List zd):Bool:=decide (1<l.length∧¬∃i,1≤i∧i<l.length∧YJ l i)
noncomputable def JK (l:List zd):Int:=if qB l=0 then(if vI l=true then 0 else 2)else qB l
theorem YV {l:List zd}:JK l=0↔qB l=0∧vI l=true:=by
 unfold JK
 by_cases h:qB l=0
 ·
  by_cases h2:vI l=true<;>simp[h,h2]
 ·
  simp[h]
theorem YR {l:List zd}:vI l=true↔1<l.length∧∀i,1≤i→i<l.length→¬YJ l i:=by
 simp only[vI,decide_eq_true_eq]
 exact⟨fun⟨h1,h2⟩=>⟨h1,fun i a b c=>h2 ⟨i,a,b,c⟩⟩,fun⟨h1,h2⟩=>⟨h1,fun⟨i,a,b,c⟩=>h2 i a b c⟩⟩
theorem zlK {l:List zd}(hl:(l.length:Int)≤9223372036854775807):zcj l=some (vI l):=by
 unfold zcj
 classical
 rw[show(1:Int)=((1:Nat):Int)from rfl,zoE (ρ:=Bool) 1 l.length (YJ l) false (fun i h1 h2=>by
  unfold zem YJ
  have e1:decide ((i:Int)<(l.length:Int))=true:=by simp;omega
  have e2:W ((i:Int) - 1)=(i:Int) - 1:=Wk (by omega) (by omega)
  have e3:W ((i:Int)+1)=(i:Int)+1:=Wk (by omega) (by omega)
  simp only[e1,e2,e3,cond_true,zG]
  rw[zo ⟨by omega,by omega⟩,zo ⟨by omega,by omega⟩,zo ⟨by omega,by omega⟩,zo ⟨by omega,by omega⟩]
  by_cases hb:decide ((gx l i).X=(gx l ((i:Int) - 1)).X)=decide ((gx l i).Y=(gx l ((i:Int) - 1)).Y)
  ·
   simp[hb]
  ·
   simp only[hb,decide_false,cond_false,if_false]) (fun i h=>by
  unfold zem
  have e1:decide ((i:Int)<(l.length:Int))=false:=by simp;omega
  simp only[e1,cond_false])]
 by_cases hb:∃i,1≤i∧i<l.length∧YJ l i
 ·
  have h3:vI l=false:=by
   cases h:vI l with
   | false=>rfl
   | true=>obtain⟨i,a,b,c⟩:=hb;exact absurd c ((YR.1 h).2 i a b)
  rw[if_pos hb,zan,h3]
 ·
  rw[if_neg hb,qd]
  congr 1
  by_cases h1:1<l.length
  ·
   have h3:vI l=true:=YR.2 ⟨h1,fun i a b c=>hb ⟨i,a,b,c⟩⟩
   rw[h3];simp;omega
  ·
   have h3:vI l=false:=by
    cases h:vI l with
    | false=>rfl
    | true=>have:=(YR.1 h).1;omega
   rw[h3];simp;omega
theorem vM {l:List zd}(h:qB l=0){i:Int}(hi:inR l i):okP (gx l i):=(Yr.1 h).2 _ (qQ hi)
def yy (a b:zd):Int:=max (a.X - b.X) (-(a.X - b.X))+max (a.Y - b.Y) (-(a.Y - b.Y))
theorem zfL {a b:zd}(ha:okP a)(hb:okP b):0≤yy a b∧yy a b≤4000000:=by unfold yy okP at *;omega
theorem zc2 {a b:zd}(ha:okP a)(hb:okP b):Yw a b=some (yy a b):=by
 unfold okP at ha hb
 unfold Yw
 rw[Wk (n:=a.X - b.X) (by omega) (by omega),Wk (n:=a.Y - b.Y) (by omega) (by omega),zbt (by omega) (by omega),zbt (by omega) (by omega)]
 simp only[zq]
 rw[Wk (by omega) (by omega)];rfl
def qR (l:List zd):Nat→Int
 | 0=>0
 | i+1=>qR l i+(if i=0 then 0 else yy (gx l ((i:Int) - 1)) (gx l i))
theorem zgl {l:List zd}(h:qB l=0):∀i:Nat,i≤l.length→0≤qR l i∧qR l i≤i*4000000
 | 0,_=>by simp[qR]
 | i+1,hi=>by
  have ih:=zgl h i (by omega)
  unfold qR
  by_cases h0:i=0
  ·
   subst h0;simp at ih⊢;omega
  ·
   have hb:=zfL (vM h (i:=(i:Int) - 1) ⟨by omega,by omega⟩) (vM h (i:=(i:Int)) ⟨by omega,by omega⟩)
   rw[if_neg h0]
   push_cast
   omega
theorem zlW {l:List zd}(h:qB l=0)(h1:1≤l.length):JO l=some (qR l l.length):=by
 have hl:=(Yr.1 h).1
 unfold JO
 obtain⟨e,he,hp⟩:=zjm (body:=zcl l) (fun i=>(qR l i,(i:Int))) (fun e=>e=qR l l.length) 1 l.length h1 (fun i a b=>by
  left
  have hb:=zgl h i (by omega)
  have k1:=vM h (i:=(i:Int) - 1) ⟨by omega,by omega⟩
  have k2:=vM h (i:=(i:Int)) ⟨by omega,by omega⟩
  have hf:=zfL k1 k2
  unfold zcl
  have e1:decide ((i:Int)<(l.length:Int))=true:=by simp;omega
  have e2:W ((i:Int) - 1)=(i:Int) - 1:=Wk (by omega) (by omega)
  have e3:W ((i:Int)+1)=(i:Int)+1:=Wk (by omega) (by omega)
  simp only[e1,e2,e3,cond_true,zG]
  rw[zo ⟨by omega,by omega⟩,zo ⟨by omega,by omega⟩,zc2 k1 k2]
  simp only[zq]
  rw[Wk (by omega) (by omega)]
  have:¬i=0:=by omega
  simp[qR,this]) ⟨_,by unfold zcl;simp,rfl⟩
 have:((0:Int),(1:Int))=(qR l 1,((1:Nat):Int)):=by simp[qR]
 rw[this,he,hp];rfl
end
def okB (b:Box):Prop:= -1000000≤b.X∧b.X≤1000000∧ -1000000≤b.Y∧b.Y≤1000000∧1≤b.W_∧b.W_≤20000∧1≤b.H∧b.H≤20000
instance (b:Box):Decidable (okB b):=by unfold okB;infer_instance
def ql (b:Box):Int:=if okB b then 0 else 3
theorem zao {b:Box}:ql b=0↔okB b:=by unfold ql;split<;>simp_all
theorem zaf (b:Box):QE b=some (ql b):=by
 unfold QE YO ql
 simp only[zq]
 by_cases h:okB b
 ·
  rw[if_pos h]
  unfold okB at h
  have e1:(decide (b.X < -1000000) || decide (1000000<b.X))=false:=by simp;omega
  have e2:(decide (b.Y < -1000000) || decide (1000000<b.Y))=false:=by simp;omega
  simp only[e1,e2,Bool.not_false,qC,zq,Bool.or_self,Bool.false_or]
  have e3:(((decide (b.W_<1) || decide (20000<b.W_)) || decide (b.H<1)) || decide (20000<b.H))=false:=by simp;omega
  rw[e3];rfl
 ·
  rw[if_neg h]
  unfold okB at h
  cases h1:(decide (b.X < -1000000) || decide (1000000<b.X))with
  | true=>simp
  | false=>
   cases h2:(decide (b.Y < -1000000) || decide (1000000<b.Y))with
   | true=>simp
   | false=>
    simp only[Bool.not_false,qC,zq,Bool.or_self,Bool.false_or]
    have e3:(((decide (b.W_<1) || decide (20000<b.W_)) || decide (b.H<1)) || decide (20000<b.H))=true:=by
     simp at h1 h2⊢;omega
    rw[e3];rfl
theorem ze8 (b:Box):Yu b=some (ql b):=by
 unfold Yu ql
 simp only[zff,Qz,jD,zq]
 have hF:∀a c:Int,q5 [a,c]=some (zP [a,c]):=fun a c=>Qa (by simp)
 by_cases h:okB b
 ·
  rw[if_pos h]
  unfold okB at h
  have e1:yM ⟨b.X,b.Y⟩=0:=vP.2 (by unfold okP;simp only;omega)
  have e2:decide (1≤b.W_∧b.W_≤20000)=true:=by simp;omega
  have e3:decide (1≤b.H∧b.H≤20000)=true:=by simp;omega
  simp[e1,e2,e3,hF]
 ·
  rw[if_neg h]
  unfold okB at h
  by_cases c:yM ⟨b.X,b.Y⟩=0
  ·
   have c':=vP.1 c
   unfold okP at c'
   simp only at c'
   by_cases c2:1≤b.W_∧b.W_≤20000
   ·
    have e2:decide (1≤b.W_∧b.W_≤20000)=true:=by simpa using c2
    have e3:decide (1≤b.H∧b.H≤20000)=false:=by simp;omega
    simp[c,e2,e3,hF]
   ·
    have e2:decide (1≤b.W_∧b.W_≤20000)=false:=by simpa using c2
    simp[c,e2,hF]
  ·
   have e1:yM ⟨b.X,b.Y⟩=3:=(zpn _).resolve_left c
   rw[e1]
   cases decide (1≤b.W_∧b.W_≤20000)<;>cases decide (1≤b.H∧b.H≤20000)<;>simp[hF]
theorem zlw (l:List Box):zcg l=some (if 1000<l.length then 4 else zP (l.map ql)):=by
 unfold zcg
 by_cases h:1000<l.length
 ·
  have:(1000:Int)<l.length:=by omega
  simp[this,h]
 ·
  have:decide ((1000:Int)<l.length)=false:=by simp;omega
  simp only[this,cond_false,h,if_false]
  rw[jp ql (fun e=>Res.ab e) (by omega) (fun i hi=>by
   unfold zgF
   rw[zo hi]
   simp only[zG,ze8,zq]
   by_cases c:ql (gx l i)=0<;>simp[c])]
  by_cases c:zP (l.map ql)=0
  ·
   simp[c]
  ·
   rw[if_neg c];rfl
theorem zmu {l:List Box}(h:zP (l.map ql)=0):∀b∈l,okB b:=fun b hb=>by
 have:=qi.1 h (ql b) (List.mem_map.2 ⟨b,hb,rfl⟩)
 exact zao.1 this
theorem zqa (N:Nat)(hN:N≤4611686018427387904){α β:Type}[Inhabited α]{l:List α}{step:Int→List β→Option (List β)}(g:α→List β)(s0:List β)(hg:∀a∈l,(g a).length≤1)(hl:s0.length+l.length≤N)
  (hf:∀i s,inR l i→s.length<N→step i s=some (s++g (gx l i))):yS (l.length:Int) step s0=some (s0++l.flatMap g):=by
 obtain⟨s,h1,h2⟩:=Y7 (n:=(l.length:Int)) (step:=step) (s0:=s0) (fun i s=>s=s0++(l.take i).flatMap g∧s.length≤s0.length+i) (by omega) (by simp) (fun i s hi hI=>by
  have hi':i<l.length:=by omega
  refine⟨_,hf i s ⟨by omega,by omega⟩ (by omega),?_,?_⟩
  ·
   rw[zS hi',hI.1,List.take_succ_eq_append_getElem hi',List.flatMap_append,List.append_assoc];simp
  ·
   rw[zS hi',List.length_append]
   have:=hg _ (List.getElem_mem hi')
   omega)
 rw[h1,h2.1];simp
theorem zp9 {α β:Type}[Inhabited α]{l:List α}{step:Int→List β→Option (List β)}(g:α→List β)(s0:List β)(hg:∀a∈l,(g a).length≤1)(hl:s0.length+l.length≤1073741824)
  (hf:∀i s,inR l i→(s.length:Int)<1073741824→step i s=some (s++g (gx l i))):yS (l.length:Int) step s0=some (s0++l.flatMap g):=
 zqa 1073741824 (by omega) g s0 hg hl (fun i s hi hs=>hf i s hi (by omega))
theorem vx {σ O:Type}{n:Nat}{step:Int→σ→Option (Res σ O)}{fin:σ→O}(S:Nat→σ)(err:Nat→Int)(mk:Int→O)(hn:(n:Int)≤9223372036854775807)
  (hf:∀i:Nat,i<n→(∀j,j<i→err j=0)→step i (S i)=some (if err i=0 then .nx (S (i+1))else .ab (mk (err i)))):
  ya (n:Int) step fin (S 0)=some (if zP ((List.range n).map err)=0 then fin (S n)else mk (zP ((List.range n).map err))):=by
 have hfe:∀(k i:Nat),zP ((List.range' i k).map err)=0∨∃j,i≤j∧j<i+k∧(∀q,i≤q→q<j→err q=0)∧err j≠0∧zP ((List.range' i k).map err)=err j:=by
  intro k
  induction k with
  | zero=>intro i;left;rfl
  | succ k ih=>
   intro i
   rw[List.range'_succ,List.map_cons,vq]
   by_cases h:err i=0
   ·
    rw[if_pos h]
    rcases ih (i+1)with h1 | ⟨j,h1,h2,h3,h4,h5⟩
    ·
     exact .inl h1
    ·
     refine .inr ⟨j,by omega,by omega,fun q q1 q2=>?_,h4,h5⟩
     by_cases hq:q=i
     ·
      rw[hq];exact h
     ·
      exact h3 q (by omega) q2
   ·
    rw[if_neg h]
    exact .inr ⟨i,Nat.le_refl _,by omega,fun q q1 q2=>by omega,h,rfl⟩
 obtain⟨e,h1,h2⟩:=zgR (n:=(n:Int)) (step:=step) (fin:=fin) (s0:=S 0) (fun i s=>s=S i∧∀j,j<i→err j=0)
  (fun e=>e=if zP ((List.range n).map err)=0 then fin (S n)else mk (zP ((List.range n).map err))) hn ⟨rfl,fun j h=>by omega⟩ (fun i s hi hI=>by
   obtain⟨rfl,hz⟩:=hI
   have hi':i<n:=by omega
   rw[hf i hi' hz]
   by_cases he:err i=0
   ·
    left
    rw[if_pos he]
    refine⟨_,rfl,rfl,fun j hj=>?_⟩
    by_cases hj':j=i
    ·
     rw[hj'];exact he
    ·
     exact hz j (by omega)
   ·
    right
    rw[if_neg he]
    refine⟨_,rfl,?_⟩
    have:=hfe n 0
    rw[List.range_eq_range']
    rcases this with h1 | ⟨j,a1,a2,a3,a4,a5⟩
    ·
     have:=qi.1 h1 (err i) (List.mem_map.2 ⟨i,by simp;exact hi',rfl⟩)
     exact absurd this he
    ·
     rw[a5,if_neg a4]
     have:j=i:=by
      rcases Nat.lt_trichotomy j i with c | c | c
      ·
       exact absurd (hz j c) a4
      ·
       exact c
      ·
       exact absurd (a3 i (by omega) c) he
     rw[this]) (fun s hI=>by
   obtain⟨rfl,hz⟩:=hI
   have:zP ((List.range n).map err)=0:=qi.2 (fun e he=>by
    obtain⟨j,hj,rfl⟩:=List.mem_map.1 he
    exact hz j (by simpa using hj))
   rw[if_pos this];rfl)
 rw[h1,h2]
def vu (c:UInt8):Bool:=decide (97≤c.toNat)&&decide (c.toNat≤122)
def jW (c:UInt8):Bool:=vu c || (decide (48≤c.toNat)&&decide (c.toNat≤57)) || decide (c.toNat=45)
def qm (s:Str):Bool:=decide (s.b.length≤40)&&(match s.b with | []=>false | c::l=>vu c&&l.all jW)
theorem zjB {s:Str}(h:qm s=true):s≠Str.nil:=by
 rintro rfl
 simp[qm,Str.nil]at h
theorem zrL (l cs:List UInt8):Go.Lib.trimS l cs=[]↔l.all (cs.contains ·)=true:=by
 have hd:∀(m:List UInt8),m.dropWhile (cs.contains ·)=[]↔m.all (cs.contains ·)=true:=by
  intro m
  induction m with
  | nil=>simp
  | cons c m ih=>
   rw[List.dropWhile_cons,List.all_cons]
   cases h:cs.contains c with
   | true=>simp only[if_true,Bool.true_and];exact ih
   | false=>simp
 unfold Go.Lib.trimS Go.Lib.trimLeftS
 rw[hd]
 unfold Go.Lib.trimRightS
 constructor
 ·
  intro h
  cases hq:l.reverse.dropWhile (cs.contains ·)with
  | nil=>
   have:=(hd l.reverse).1 hq
   simpa using this
  | cons c m=>
   have hc:cs.contains c=false:=by
    have:=List.head?_dropWhile_not (cs.contains ·) l.reverse
    rw[hq]at this
    simpa using this
   rw[hq]at h
   have:c∈(c::m).reverse:=by simp
   have:=List.all_eq_true.1 h c this
   rw[hc]at this;cases this
 ·
  intro h
  have:l.reverse.dropWhile (cs.contains ·)=[]:=(hd _).2 (by simpa using h)
  rw[this];rfl
theorem zoV (c:UInt8):([97,98,99,100,101,102,103,104,105,106,107,108,109,110,111,112,113,114,115,116,117,118,119,120,121,122,48,49,50,51,52,53,54,55,56,57,45]:List UInt8).contains c=jW c:=by
 have h:∀n,n<256→([97,98,99,100,101,102,103,104,105,106,107,108,109,110,111,112,113,114,115,116,117,118,119,120,121,122,48,49,50,51,52,53,54,55,56,57,45]:List UInt8).contains (UInt8.ofNat n)=jW (UInt8.ofNat n):=by decide +kernel
 have:=h c.toNat (UInt8.toNat_lt c)
 simpa using this
theorem zjn (c:UInt8):(decide ((97:Int)≤(c.toNat:Int))&&decide ((c.toNat:Int)≤122))=vu c:=by
 unfold vu
 congr 1<;>simp only[decide_eq_decide]<;>omega
theorem zmL (c:UInt8):(decide ((48:Int)≤(c.toNat:Int))&&decide ((c.toNat:Int)≤57))=(decide (48≤c.toNat)&&decide (c.toNat≤57)):=by
 congr 1<;>simp only[decide_eq_decide]<;>omega
theorem zmK (c:UInt8):decide ((c.toNat:Int)=45)=decide (c.toNat=45):=by simp only[decide_eq_decide];omega
theorem zge (s:Str):QN s=some (qm s):=by
 obtain⟨b⟩:=s
 unfold QN
 cases b with
 | nil=>simp[zl,Str.nil,qm,gd,zeW]
 | cons c l=>
  have hne:(⟨c::l⟩:Str)≠Str.nil:=by simp[Str.nil]
  have hg:gx (c::l) 0=c:=by simp[gx]
  have hin:inR (c::l) 0:=⟨by omega,by simp⟩
  rw[zo (fun _=>hin),zo (fun _ _=>hin)]
  simp only[hg,decide_eq_false hne,Bool.not_false,Bool.true_and]
  rw[zjn]
  unfold zeW
  rw[zo ⟨by decide,by decide⟩]
  have ht:decide (trimS ⟨c::l⟩ (⟨[97,98,99,100,101,102,103,104,105,106,107,108,109,110,111,112,113,114,115,116,117,118,119,120,121,122,48,49,50,51,52,53,54,55,56,57,45]⟩:Str)=Str.nil)=(c::l).all jW:=by
   rw[Bool.eq_iff_iff,decide_eq_true_eq]
   unfold trimS Str.nil
   rw[Str.mk.injEq,zrL]
   have:(fun x=>([97,98,99,100,101,102,103,104,105,106,107,108,109,110,111,112,113,114,115,116,117,118,119,120,121,122,48,49,50,51,52,53,54,55,56,57,45]:List UInt8).contains x)=jW:=funext zoV
   rw[this]
  have hlen:decide (((c::l).length:Int)≤40)=decide ((c::l).length≤40):=by simp only[decide_eq_decide];omega
  unfold qm
  simp only[hlen]
  cases hA:decide ((c::l).length≤40)with
  | false=>simp[gd]
  | true=>
   cases hB:vu c with
   | false=>simp[gd]
   | true=>
    simp only[Bool.and_self,qC,Option.bind_some,Bool.true_and,ht,List.all_cons]
    have:jW c=true:=by simp[jW,hB]
    rw[this,Bool.true_and]
theorem zfc {s:Str}(hs:zT s):Y2 s=some (qm s):=by
 have hl:(s.b.length:Int)≤9223372036854775807:=by have:s.b.length≤9223372036854775807:=hs;omega
 obtain⟨b⟩:=s
 unfold Y2
 simp only at hl⊢
 let ok:Nat→Bool:=fun i=>match i with | 0=>vu (gx b 0) | i+1=>jW (gx b ((i+1:Nat):Int))
 have:=vx (n:=b.length) (step:=zen ⟨b⟩) (fin:=fun s=>(Res.nx s:Res Unit Bool)) (fun _=>()) (fun i=>if ok i=true then 0 else 1) (fun _=>Res.ab false) hl (fun i hi _=>by
  unfold zen
  have hin:inR b (i:Int):=⟨by omega,by omega⟩
  rw[zo hin,zG]
  simp only
  generalize hc:gx b (i:Int)=c
  rw[zjn,zmL,zmK]
  cases i with
  | zero=>
   have:ok 0=vu c:=by show vu (gx b 0)=_;rw[←hc];rfl
   rw[this]
   cases vu c<;>simp
  | succ i=>
   have:ok (i+1)=jW c:=by show jW (gx b ((i+1:Nat):Int))=_;rw[hc]
   rw[this]
   have h0:decide (((i+1:Nat):Int)=0)=false:=decide_eq_false (by omega)
   rw[h0]
   unfold jW
   cases vu c<;>cases(decide (48≤c.toNat)&&decide (c.toNat≤57))<;>cases decide (c.toNat=45)<;>simp)
 rw[this]
 have hall:zP ((List.range b.length).map (fun i=>if ok i=true then(0:Int)else 1))=0↔∀i,i<b.length→ok i=true:=by
  rw[qi]
  constructor
  ·
   intro h i hi
   have:=h _ (List.mem_map.2 ⟨i,by simpa using hi,rfl⟩)
   by_cases c:ok i=true
   ·
    exact c
   ·
    rw[if_neg c]at this;cases this
  ·
   intro h e he
   obtain⟨i,hi,rfl⟩:=List.mem_map.1 he
   rw[if_pos (h i (by simpa using hi))]
 cases b with
 | nil=>simp[qm,Str.nil]
 | cons c l=>
  have hok:(∀i,i<(c::l).length→ok i=true)↔(vu c&&l.all jW)=true:=by
   rw[Bool.and_eq_true,List.all_eq_true]
   constructor
   ·
    intro h
    refine⟨h 0 (by simp),fun x hx=>?_⟩
    obtain⟨j,hj,rfl⟩:=List.mem_iff_getElem.1 hx
    have:=h (j+1) (by simp;exact hj)
    have e:gx (c::l) ((j+1:Nat):Int)=l[j]:=by rw[zS (by simp;exact hj)];rfl
    rw[←e];exact this
   ·
    rintro⟨h1,h2⟩ i hi
    cases i with
    | zero=>exact h1
    | succ i=>
     show jW (gx (c::l) ((i+1:Nat):Int))=true
     rw[zS hi]
     exact h2 _ (by simp)
  have hne:(⟨c::l⟩:Str)≠Str.nil:=by simp[Str.nil]
  unfold qm
  by_cases h:(vu c&&l.all jW)=true
  ·
   rw[if_pos (hall.2 (hok.2 h))]
   simp only[qd,decide_eq_false hne,h,Bool.not_false,Bool.true_and,Bool.and_true]
   congr 1
   simp only[decide_eq_decide];omega
  ·
   have h':(vu c&&l.all jW)=false:=by simpa using h
   rw[if_neg (fun e=>h (hok.1 (hall.1 e)))]
   simp[h']
def jh (b:UInt8):Bool:=(decide (b.toNat<32)&&!decide (b.toNat=10)) || decide (b.toNat=127)
def qI (s:Str):Int:=if 1000<s.b.length then 4 else if zad s=true∧s.b.any jh=false then 0 else 2
theorem zh2 (b:UInt8):((decide ((⟨(b.toNat:Int)⟩:KI .u8).n<(⟨32⟩:KI .u8).n)&&!decide ((⟨(b.toNat:Int)⟩:KI .u8).n=(⟨10⟩:KI .u8).n)) || decide ((⟨(b.toNat:Int)⟩:KI .u8).n=(⟨127⟩:KI .u8).n))=jh b:=by
 unfold jh
 have e1:decide ((⟨(b.toNat:Int)⟩:KI .u8).n<(⟨32⟩:KI .u8).n)=decide (b.toNat<32):=by simp;omega
 have e2:decide ((⟨(b.toNat:Int)⟩:KI .u8).n=(⟨10⟩:KI .u8).n)=decide (b.toNat=10):=by simp;omega
 have e3:decide ((⟨(b.toNat:Int)⟩:KI .u8).n=(⟨127⟩:KI .u8).n)=decide (b.toNat=127):=by simp;omega
 rw[e1,e2,e3]
theorem zhK (s:Str):zaa s=some (qI s):=by
 unfold zaa
 by_cases h:1000<s.b.length
 ·
  rw[decide_eq_true (by omega),show qI s=4 by unfold qI;rw[if_pos h]];rfl
 ·
  rw[decide_eq_false (by omega),cond_false]
  simp only[utf8_ValidString,Option.bind_some]
  cases hv:zad s with
  | false=>rw[show qI s=2 by unfold qI;rw[if_neg h,hv,if_neg (fun x=>by cases x.1)]];rfl
  | true=>
   simp only[Bool.not_true,cond_false]
   rw[jp (fun b=>if jh b=true then 2 else 0) (fun e=>(Res.ab e:Res Unit Int)) (by omega) (fun i hi=>by
    unfold zhe
    rw[zo hi,zo (fun _=>hi),zo (fun _=>hi),zh2]
    cases jh (gx s.b i)<;>simp)]
   by_cases hb:s.b.any jh=true
   ·
    rw[show qI s=2 by unfold qI;rw[if_neg h,hb,if_neg (fun x=>by cases x.2)]]
    have hne:zP (s.b.map (fun b=>if jh b=true then(2:Int)else 0))=2:=by
     clear h hv
     generalize s.b=l at hb
     induction l with
     | nil=>simp at hb
     | cons b l ih=>
      rw[List.map_cons,vq]
      by_cases c:jh b=true
      ·
       rw[c];simp
      ·
       rw[if_pos (by simp[c])]
       exact ih (by simpa [c]using hb)
    rw[hne];simp
   ·
    have hb':s.b.any jh=false:=by simpa using hb
    rw[show qI s=0 by unfold qI;rw[if_neg h,if_pos ⟨hv,hb'⟩]]
    have hz:zP (s.b.map (fun b=>if jh b=true then(2:Int)else 0))=0:=qi.2 (fun e he=>by
     obtain⟨b,hbm,rfl⟩:=List.mem_map.1 he
     have:jh b=false:=by
      cases q:jh b with
      | false=>rfl
      | true=>exact absurd (List.any_eq_true.2 ⟨b,hbm,q⟩) hb
     rw[this];simp)
    rw[hz];simp
theorem zhU {s:Str}(hs:zT s):JR s=some (qI s):=by
 have hl:(s.b.length:Int)≤9223372036854775807:=by have:s.b.length≤9223372036854775807:=hs;omega
 unfold JR
 simp only[utf8_ValidString,Option.bind_some,zG]
 rw[zp8 (l:=s.b) (fun a b=>a || jh b) hl (fun i a hi=>by
  unfold zgK
  rw[zo (fun _=>hi),zo (fun _ _=>hi),zo (fun _=>hi),zG]
  rw[Bool.or_assoc,zh2])]
 have hf:∀(l:List UInt8) (a:Bool),l.foldl (fun a b=>a || jh b) a=(a || l.any jh):=by
  intro l
  induction l with
  | nil=>intro a;simp
  | cons b l ih=>intro a;rw[List.foldl_cons,ih,List.any_cons,Bool.or_assoc]
 rw[hf,Option.bind_some,jD,jD,Option.bind_some,Option.bind_some,Qa (by simp),Option.bind_some]
 congr 1
 unfold qI
 by_cases h:1000<s.b.length
 ·
  rw[if_pos h,if_pos (by simp;omega)];rfl
 ·
  rw[if_neg h,if_neg (by simp;omega)]
  by_cases h2:zad s=true∧s.b.any jh=false
  ·
   rw[if_pos h2];simp[h2]
  ·
   rw[if_neg h2]
   have:(!zad s || s.b.any jh)=true:=by
    cases a:zad s
    ·
     simp
    ·
     cases b:s.b.any jh
     ·
      exact absurd ⟨a,b⟩ h2
     ·
      simp
   rw[if_pos (by simpa using this)];simp
def yn (l:List zm)(id:Str):Int:=match l.findIdx? (fun n=>decide (n.Id=id))with | some i=>(i:Int) | none=> -1
theorem zhP (s:List zm)(f:zm→Option Bool)(p:zm→Bool)(hl:(s.length:Int)≤9223372036854775807)(hf:∀x∈s,f x=some (p x)):
  zbm s f=some (match s.findIdx? p with | some i=>(i:Int) | none=> -1):=by
 unfold zbm
 rw[zcx p hl (fun i h=>by unfold zhq;rw[zo ⟨by omega,by omega⟩,zS h,hf _ (List.getElem_mem h)];simp only[zq];cases p s[i]<;>rfl)]
 cases s.findIdx? p<;>rfl
theorem zlF (s:List zm)(f:zm→Option Bool)(p:zm→Bool)(hl:(s.length:Int)≤9223372036854775807)(hf:∀x∈s,f x=some (p x)):
  zcP s f=some (s.any p):=by
 unfold zcP
 rw[zhP s f p hl hf,zq]
 exact congrArg some zbY
theorem zlJ (s:List zJ)(f:zJ→Option Bool)(p:zJ→Bool)(hl:(s.length:Int)≤9223372036854775807)(hf:∀x∈s,f x=some (p x)):
  zcT s f=some (match s.findIdx? p with | some i=>(i:Int) | none=> -1):=by
 unfold zcT
 rw[zcx p hl (fun i h=>by unfold zhp;rw[zo ⟨by omega,by omega⟩,zS h,hf _ (List.getElem_mem h)];simp only[zq];cases p s[i]<;>rfl)]
 cases s.findIdx? p<;>rfl
theorem zlE (s:List zJ)(f:zJ→Option Bool)(p:zJ→Bool)(hl:(s.length:Int)≤9223372036854775807)(hf:∀x∈s,f x=some (p x)):
  zcO s f=some (s.any p):=by
 unfold zcO
 rw[zlJ s f p hl hf,zq]
 exact congrArg some zbY
theorem Jl {d:Doc}(hl:(d.Nodes.length:Int)≤9223372036854775807)(id:Str):QR d id=some (yn d.Nodes id):=by
 unfold QR
 rw[zhP d.Nodes (fun x0=>zcn x0 id) (fun n=>decide (n.Id=id)) hl (fun x _=>rfl)]
 rfl
theorem zdX {l:List zm}{id:Str}:yn l id<0↔∀n∈l,n.Id≠id:=by
 unfold yn
 cases h:l.findIdx? (fun n=>decide (n.Id=id))with
 | none=>
  rw[List.findIdx?_eq_none_iff]at h
  simpa using h
 | some i=>
  obtain⟨hi,hp,_⟩:=List.findIdx?_eq_some_iff_getElem.1 h
  simp only
  constructor
  ·
   intro h;omega
  ·
   intro h;exact absurd (by simpa using hp) (h _ (List.getElem_mem hi))
theorem JI {l:List zm}{id:Str}(h:∃n∈l,n.Id=id):inR l (yn l id)∧(gx l (yn l id)).Id=id:=by
 unfold yn
 cases hq:l.findIdx? (fun n=>decide (n.Id=id))with
 | none=>
  rw[List.findIdx?_eq_none_iff]at hq
  obtain⟨n,hn,e⟩:=h
  exact absurd e (by simpa using hq n hn)
 | some i=>
  obtain⟨hi,hp,_⟩:=List.findIdx?_eq_some_iff_getElem.1 hq
  refine⟨⟨by simp,by simp only;omega⟩,?_⟩
  simp only
  rw[zS hi];simpa using hp
theorem zgw {l:List zm}(hd:(l.map (·.Id)).Nodup){i:Nat}(hi:i<l.length):yn l l[i].Id=i:=by
 unfold yn
 have:l.findIdx? (fun n=>decide (n.Id=l[i].Id))=some i:=by
  rw[List.findIdx?_eq_some_iff_getElem]
  refine⟨hi,by simp,fun j hj=>?_⟩
  simp only[decide_eq_true_eq]
  intro e
  have:=List.pairwise_iff_getElem.1 hd j i (by simp;omega) (by simpa using hi) hj
  simp at this
  exact this e
 rw[this]
def qr (l:List zm)(p:Str):List Int:=((List.range l.length).filter (fun(i:Nat)=>decide ((gx l (i:Int)).Parent=p))).map (fun(i:Nat)=>(i:Int))
theorem zn0 {α:Type}[Inhabited α]{l m:List α}{i:Nat}(hi:i<l.length):gx (l++m) (i:Int)=gx l (i:Int):=by
 rw[zS hi,zS (by simp;omega),List.getElem_append_left hi]
theorem zi0 {α:Type}[Inhabited α]{l:List α}{x:α}:gx (l++[x]) (l.length:Int)=x:=by
 rw[zS (by simp)];simp
theorem zdG {l:List zm}{x:zm}{p:Str}:qr (l++[x]) p=qr l p++(if x.Parent=p then [(l.length:Int)]else []):=by
 unfold qr
 rw[List.length_append,List.length_singleton,List.range_succ,List.filter_append,List.map_append]
 congr 1
 ·
  congr 1
  refine List.filter_congr fun i hi=>?_
  rw[zn0 (by simpa using hi)]
 ·
  by_cases h:x.Parent=p
  ·
   simp[h,zi0]
  ·
   simp[h,zi0]
theorem zok {l:List zm}{p:Str}{k:Int}:k∈qr l p↔inR l k∧(gx l k).Parent=p:=by
 unfold qr
 simp only[List.mem_map,List.mem_filter,List.mem_range,decide_eq_true_eq]
 constructor
 ·
  rintro⟨i,⟨h1,h2⟩,rfl⟩;exact⟨⟨by omega,by omega⟩,h2⟩
 ·
  rintro⟨⟨h1,h2⟩,h3⟩
  refine⟨k.toNat,⟨by omega,?_⟩,by omega⟩
  rw[show((k.toNat:Nat):Int)=k by omega];exact h3
theorem zjb {l:List zm}{p:Str}:(qr l p).map (gx l)=l.filter (fun n=>decide (n.Parent=p)):=by
 have key:∀(k:Nat),k≤l.length→(qr (l.take k) p).map (gx l)=(l.take k).filter (fun n=>decide (n.Parent=p)):=by
  intro k
  induction k with
  | zero=>intro _;rfl
  | succ k ih=>
   intro hk
   rw[List.take_succ_eq_append_getElem (by omega),zdG,List.map_append,ih (by omega),List.filter_append]
   congr 1
   have hlen:(l.take k).length=k:=by simp;omega
   by_cases h:(l[k]'(by omega)).Parent=p
   ·
    rw[if_pos h,hlen];simp[h,zS (show k<l.length by omega)]
   ·
    rw[if_neg h];simp[h]
 have:=key l.length (Nat.le_refl _)
 rwa [List.take_length]at this
def vf (l:List zm):GMap Str Int:=⟨fun id=>(l.findIdx? (fun n=>decide (n.Id=id))).map (fun(i:Nat)=>(i:Int))⟩
def jV (l:List zm):GMap Str (List Int):=⟨fun p=>if p≠Str.nil∧qr l p≠[]then some (qr l p)else none⟩
theorem zo2 {l:List zm}{x:zm}(h:∀n∈l,n.Id≠x.Id):vf (l++[x])=(vf l).set x.Id l.length:=by
 unfold vf GMap.set
 congr 1
 funext id
 rw[List.findIdx?_append]
 by_cases he:id=x.Id
 ·
  subst he
  have:l.findIdx? (fun n=>decide (n.Id=x.Id))=none:=by
   rw[List.findIdx?_eq_none_iff]
   intro n hn
   simpa using h n hn
  rw[this,if_pos rfl]
  simp[List.findIdx?_cons]
 ·
  rw[if_neg he]
  have:[x].findIdx? (fun n=>decide (n.Id=id))=none:=by
   rw[List.findIdx?_eq_none_iff]
   intro n hn
   have:n=x:=by simpa using hn
   subst this
   simpa using fun e=>he e.symm
  rw[this]
  simp only
  cases l.findIdx? (fun n=>decide (n.Id=id))<;>rfl
theorem zdP {l:List zm}{p:Str}(hp:p≠Str.nil):(jV l).getD p []=qr l p:=by
 unfold jV GMap.getD
 simp only
 by_cases h:qr l p=[]
 ·
  rw[if_neg (by simp[h])];simp[h]
 ·
  rw[if_pos ⟨hp,h⟩];rfl
theorem zoR {l:List zm}{x:zm}(h:x.Parent=Str.nil):jV (l++[x])=jV l:=by
 unfold jV
 congr 1
 funext p
 by_cases hp:p=Str.nil
 ·
  simp[hp]
 ·
  have e:(if x.Parent=p then [(l.length:Int)]else [])=[]:=if_neg (fun e=>hp (by rw[←e,h]))
  rw[zdG,e,List.append_nil]
theorem zoQ {l:List zm}{x:zm}(h:x.Parent≠Str.nil):jV (l++[x])=(jV l).set x.Parent ((jV l).getD x.Parent []++[(l.length:Int)]):=by
 rw[zdP h]
 unfold jV GMap.set
 congr 1
 funext p
 simp only
 by_cases hp:p=x.Parent
 ·
  subst hp
  rw[if_pos rfl,zdG,if_pos rfl,if_pos ⟨h,by simp⟩]
 ·
  have e:(if x.Parent=p then [(l.length:Int)]else [])=[]:=if_neg (fun e=>hp e.symm)
  rw[if_neg hp,zdG,e,List.append_nil]
theorem zgy {l:List zm}{id:Str}:(vf l).has id=decide (0≤yn l id):=by
 unfold vf GMap.has yn
 simp only
 cases l.findIdx? (fun n=>decide (n.Id=id))<;>simp
theorem zd0 {l:List zm}{id:Str}(h:0≤yn l id):(vf l).getD id 0=yn l id:=by
 unfold vf GMap.getD yn at *
 simp only at *
 cases hq:l.findIdx? (fun n=>decide (n.Id=id))with
 | none=>rw[hq]at h;simp at h
 | some i=>rfl
def yp (d:Doc):yk:=⟨d,vf d.Nodes,jV d.Nodes⟩
theorem zhD {d:Doc}(hl:d.Nodes.length≤500)(hd:(d.Nodes.map (·.Id)).Nodup):zb9 d=some (some (yp d)):=by
 unfold zb9
 simp only[zG]
 have hlen:∀k p,(qr (d.Nodes.take k) p).length≤500:=fun k p=>by
  unfold qr
  rw[List.length_map]
  refine Nat.le_trans (List.length_filter_le _ _) ?_
  simp;omega
 obtain⟨s,h1,h2⟩:=Y7 (n:=(d.Nodes.length:Int)) (step:=zd5 d) (s0:=(GMap.nil,GMap.nil)) (fun i s=>s=(vf (d.Nodes.take i),jV (d.Nodes.take i))) (by omega) (by
  simp only[List.take_zero]
  have e1:vf []=(GMap.nil:GMap Str Int):=rfl
  have e2:jV []=(GMap.nil:GMap Str (List Int)):=by
   unfold jV GMap.nil
   congr 1
   funext p
   rw[if_neg (fun h=>h.2 rfl)]
  rw[e1,e2]) (fun i s hi hI=>by
  subst hI
  have hi':i<d.Nodes.length:=by omega
  have hln:(d.Nodes.take i).length=i:=by simp;omega
  have hnew:∀n∈d.Nodes.take i,n.Id≠d.Nodes[i].Id:=fun n hn=>by
   obtain⟨j,hj,rfl⟩:=List.mem_iff_getElem.1 hn
   rw[List.getElem_take]
   have hj':j<i:=by simp at hj;omega
   have:=List.pairwise_iff_getElem.1 hd j i (by simp;omega) (by simpa using hi') hj'
   simpa using this
  unfold zd5
  rw[zo ⟨by omega,by omega⟩,zS hi',zG,zG,List.take_succ_eq_append_getElem hi',zo2 hnew,hln]
  simp only
  by_cases hp:d.Nodes[i].Parent=Str.nil
  ·
   rw[decide_eq_true hp,zoR hp]
   exact⟨_,rfl,rfl⟩
  ·
   rw[decide_eq_false hp,zoQ hp,hln]
   rw[zdP hp]
   refine⟨_,?_,rfl⟩
   simp only[Bool.not_false,cond_true]
   rw[zo]
   show _≤1073741824
   have:=hlen i d.Nodes[i].Parent
   simp;omega)
 rw[h1,h2]
 simp[yp]
theorem zjv {d:Doc}(hl:d.Nodes.length≤500)(id:Str):za4 d id=some (d.Nodes.filter (fun n=>decide (n.Parent=id))):=by
 unfold za4
 rw[zp9 (fun n=>if n.Parent=id then [n]else []) [] (fun a _=>by split<;>simp) (by simp;omega) (fun i s hi hs=>by
  unfold zgN
  rw[zo hi,zG]
  by_cases h:(gx d.Nodes i).Parent=id
  ·
   rw[decide_eq_true h,if_pos h,cond_true,zo]
   show _≤1073741824
   simp;omega
  ·
   rw[decide_eq_false h,if_neg h,cond_false,List.append_nil])]
 simp only[List.nil_append,Option.bind_some]
 congr 1
 generalize d.Nodes=l
 induction l with
 | nil=>rfl
 | cons n l ih=>
  rw[List.flatMap_cons,ih,List.filter_cons]
  by_cases h:n.Parent=id<;>simp[h]
theorem zjJ {α:Type}[DecidableEq α]:∀(l m:List α),l.Nodup→(∀x∈l,x∈m)→l.length≤m.length
 | [],m,_,_=>by simp
 | x::l,m,hn,hs=>by
  have hx:=hs x (by simp)
  have hn':=List.nodup_cons.1 hn
  have:=zjJ l (m.erase x) hn'.2 (fun y hy=>by
   have hne:y≠x:=fun e=>hn'.1 (e▸hy)
   rw[List.mem_erase_of_ne hne];exact hs y (by simp[hy]))
  rw[List.length_erase_of_mem hx]at this
  have:=List.length_pos_of_mem hx
  simp;omega
def par (l:List zm)(n:zm):zm:=gx l (yn l n.Parent)
def anc (l:List zm)(n:zm):Nat→zm
 | 0=>n
 | k+1=>par l (anc l n k)
theorem zfi {l:List zm}{n:zm}{i:Nat}:∀t,anc l n (i+t)=anc l (anc l n i) t
 | 0=>rfl
 | t+1=>by
  show par l (anc l n (i+t))=par l (anc l (anc l n i) t)
  rw[zfi t]
def zbz (l:List zm):Prop:=∀n∈l,n.Parent≠Str.nil→∃g∈l,g.Id=n.Parent
theorem zjQ {l:List zm}(hp:zbz l){n:zm}(hn:n∈l)(h:n.Parent≠Str.nil):par l n∈l∧(par l n).Id=n.Parent:=by
 obtain⟨h1,h2⟩:=JI (hp n hn h)
 exact⟨qQ h1,h2⟩
theorem zfj {l:List zm}(hp:zbz l){n:zm}(hn:n∈l):∀k,(∀j,j<k→(anc l n j).Parent≠Str.nil)→anc l n k∈l
 | 0,_=>hn
 | k+1,h=>(zjQ hp (zfj hp hn k (fun j hj=>h j (by omega))) (h k (by omega))).1
def Up (l:List zm)(n:zm)(m:Int)(b:Bool):Prop:=
 (b=false∧∃k:Nat,m=k∧(anc l n k).Parent=Str.nil∧∀j,j<k→(anc l n j).Parent≠Str.nil∧(anc l n j).Parent≠n.Id)∨
 ∃k:Nat,m=k+1∧(∀j,j≤k→(anc l n j).Parent≠Str.nil)∧(b=true↔(anc l n k).Parent=n.Id)∧(b=false→k=l.length∧∀j,j≤k→(anc l n j).Parent≠n.Id)
theorem ends {l:List zm}(hp:zbz l)(hu:∀n∈l,∃m,Up l n m false){n:zm}(hn:n∈l){m:Int}(h:Up l n m false):∃k:Nat,m=k∧(anc l n k).Parent=Str.nil∧∀j,j<k→(anc l n j).Parent≠Str.nil:=by
 rcases h with⟨_,k,h1,h2,h3⟩ | ⟨k,h1,h2,h3,h4⟩
 ·
  exact⟨k,h1,h2,fun j hj=>(h3 j hj).1⟩
 ·
  exfalso
  obtain⟨rfl,h5⟩:=h4 rfl
  have hmem:∀j,j≤l.length→anc l n j∈l:=fun j hj=>zfj hp hn j (fun q hq=>h2 q (by omega))
  have hnd:¬((List.range (l.length+1)).map (anc l n)).Nodup:=fun hd=>by
   have:=zjJ _ l hd (fun x hx=>by
    obtain⟨j,hj,rfl⟩:=List.mem_map.1 hx
    exact hmem j (by have:=List.mem_range.1 hj;omega))
   rw[List.length_map,List.length_range]at this
   omega
  have:∃i j,i<j∧j≤l.length∧anc l n i=anc l n j:=by
   apply Classical.byContradiction
   intro hne
   apply hnd
   rw[List.nodup_iff_pairwise_ne,List.pairwise_iff_getElem]
   intro i j hi hj hij e
   simp only[List.length_map,List.length_range]at hi hj
   simp at e
   exact hne ⟨i,j,hij,by omega,e⟩
  obtain⟨i,j,hij,hj,he⟩:=this
  let a:=anc l n i
  have ha:a∈l:=hmem i (by omega)
  let q:=j - i - 1
  have hq:(anc l a q).Parent=a.Id:=by
   have e1:anc l a q=anc l n (j - 1):=by
    rw[←zfi]
    congr 1
    omega
   have e2:=(zjQ hp (hmem (j - 1) (by omega)) (h2 (j - 1) (by omega))).2
   have e3:par l (anc l n (j - 1))=a:=by
    show anc l n (j - 1+1)=a
    rw[show j - 1+1=j by omega,←he]
   rw[e1,←e2,e3]
  have hnn:∀t,t≤q→(anc l a t).Parent≠Str.nil:=fun t ht=>by
   rw[←zfi]
   exact h2 _ (by omega)
  obtain⟨m',hm'⟩:=hu a ha
  rcases hm' with⟨_,k,g1,g2,g3⟩ | ⟨k,g1,g2,g3,g4⟩
  ·
   by_cases hk:k≤q
   ·
    exact hnn k hk g2
   ·
    exact(g3 q (by omega)).2 hq
  ·
   obtain⟨rfl,g5⟩:=g4 rfl
   exact g5 q (by omega) hq
theorem zrR {d:Doc}{p:Str}(h:∃g∈d.Nodes,g.Id=p):zcc (yp d) p=some (gx d.Nodes (yn d.Nodes p)):=by
 obtain⟨h1,h2⟩:=JI h
 unfold zcc yp
 simp only[zG]
 rw[zd0 h1.1,zo h1]
theorem zmc {d:Doc}(hl:d.Nodes.length≤500)(hp:zbz d.Nodes){n:zm}(hn:n∈d.Nodes):∃m b,JJ (yp d) n=some (m,!b)∧Yy d n=some (m,b)∧Up d.Nodes n m b:=by
 obtain⟨e,e',h1,h2,h3⟩:=zoF (body:=zd6 n (yp d)) (body':=zer d n) (s0:=((0:Int),n)) (t0:=((0:Int),n.Parent))
  (fun s t=>∃k:Nat,k≤d.Nodes.length∧s=((k:Int),anc d.Nodes n k)∧t=((k:Int),(anc d.Nodes n k).Parent)∧∀j,j<k→(anc d.Nodes n j).Parent≠Str.nil∧(anc d.Nodes n j).Parent≠n.Id)
  (fun s=>(d.Nodes.length+1 - s.1).toNat)
  (fun e e'=>(∃k:Nat,e=Res.nx (k:Int)∧e'=Res.nx (k:Int)∧Up d.Nodes n k false)∨∃m b,e=Res.ab (m,!b)∧e'=Res.ab (m,b)∧Up d.Nodes n m b)
  ⟨0,by omega,rfl,rfl,fun j hj=>by omega⟩ (fun s t hR=>by
   obtain⟨k,hk,rfl,rfl,hbef⟩:=hR
   have hmem:anc d.Nodes n k∈d.Nodes:=zfj hp hn k (fun j hj=>(hbef j hj).1)
   unfold zd6 zer
   simp only[zG]
   by_cases hnil:(anc d.Nodes n k).Parent=Str.nil
   ·
    right
    refine⟨Res.nx (k:Int),Res.nx (k:Int),by rw[decide_eq_true hnil];rfl,by rw[decide_eq_true hnil];rfl,.inl ⟨k,rfl,rfl,.inl ⟨rfl,k,rfl,hnil,hbef⟩⟩⟩
   ·
    rw[decide_eq_false hnil]
    simp only[Bool.not_false,cond_true]
    have hw:W ((k:Int)+1)=(k:Int)+1:=Wk (by omega) (by omega)
    rw[hw]
    have hv:(yp d).d.Nodes=d.Nodes:=rfl
    rw[hv]
    have hall:∀j,j≤k→(anc d.Nodes n j).Parent≠Str.nil:=fun j hj=>by
     rcases Nat.lt_or_eq_of_le hj with h | h
     ·
      exact(hbef j h).1
     ·
      rw[h];exact hnil
    by_cases hid:(anc d.Nodes n k).Parent=n.Id
    ·
     right
     rw[decide_eq_true hid]
     simp only[Bool.true_or,cond_true]
     refine⟨Res.ab ((k:Int)+1,!true),Res.ab ((k:Int)+1,true),rfl,rfl,.inr ⟨_,true,rfl,rfl,.inr ⟨k,rfl,hall,by simp[hid],fun h=>by cases h⟩⟩⟩
    ·
     rw[decide_eq_false hid]
     simp only[Bool.false_or]
     by_cases hlen:(d.Nodes.length:Int)<(k:Int)+1
     ·
      right
      rw[decide_eq_true hlen]
      refine⟨Res.ab ((k:Int)+1,!false),Res.ab ((k:Int)+1,false),rfl,rfl,.inr ⟨_,false,rfl,rfl,.inr ⟨k,rfl,hall,by simp[hid],fun _=>⟨by omega,fun j hj=>?_⟩⟩⟩⟩
      rcases Nat.lt_or_eq_of_le hj with h | h
      ·
       exact(hbef j h).2
      ·
       rw[h];exact hid
     ·
      left
      rw[decide_eq_false hlen]
      have hex:=hp _ hmem hnil
      rw[zrR hex,Jl (by omega),cond_false,cond_false,Option.bind_some,Option.bind_some,zo (JI hex).1]
      refine⟨_,_,rfl,rfl,⟨k+1,by omega,by rw[Int.natCast_add];rfl,by rw[Int.natCast_add];rfl,fun j hj=>?_⟩,by simp only;omega⟩
      rcases Nat.lt_or_eq_of_le (Nat.lt_succ_iff.1 hj)with h | h
      ·
       exact hbef j h
      ·
       rw[h];exact⟨hnil,hid⟩)
 unfold JJ Yy
 rw[h1,h2]
 rcases h3 with⟨k,rfl,rfl,h3⟩ | ⟨m,b,rfl,rfl,h3⟩
 ·
  exact⟨k,false,rfl,rfl,h3⟩
 ·
  exact⟨m,b,rfl,rfl,h3⟩
theorem zlb {d:Doc}(hl:d.Nodes.length≤500)(hid:∀n∈d.Nodes,n.Id≠Str.nil):∃e,QO (yp d)=some e∧za5 d=some e∧
  (e=0→(∀n∈d.Nodes,n.Parent≠Str.nil→∃g∈d.Nodes,g.Id=n.Parent∧(par d.Nodes n).Kind=6)∧(∀n∈d.Nodes,∃k:Nat,k≤8∧(anc d.Nodes n k).Parent=Str.nil∧∀j,j<k→(anc d.Nodes n j).Parent≠Str.nil)∧
   ∀n∈d.Nodes,n.Kind=6→qr d.Nodes n.Id≠[]):=by
 have hll:(d.Nodes.length:Int)≤9223372036854775807:=by omega
 have hv:(yp d).d.Nodes=d.Nodes:=rfl
 have hvn:(yp d).number=vf d.Nodes:=rfl
 have hvm:(yp d).members=jV d.Nodes:=rfl
 let err1:zm→Int:=fun n=>if n.Parent≠Str.nil∧(yn d.Nodes n.Parent<0∨(par d.Nodes n).Kind≠6)then 10 else 0
 have p1:ya (d.Nodes.length:Int) (zd7 (yp d)) (fun s=>Res.nx s) ()=some (if zP (d.Nodes.map err1)=0 then Res.nx ()else Res.ab (zP (d.Nodes.map err1))):=
  jp err1 (fun e=>(Res.ab e:Res Unit Int)) hll (fun i hi=>by
   unfold zd7
   rw[hv,hvn,zo hi,zG]
   have hneed:(!decide ((gx d.Nodes i).Parent=Str.nil))=true→(!(vf d.Nodes).has (gx d.Nodes i).Parent)=false→inR d.Nodes ((vf d.Nodes).getD (gx d.Nodes i).Parent 0):=fun _ h2=>by
    rw[zgy]at h2
    have:0≤yn d.Nodes (gx d.Nodes i).Parent:=by simpa using h2
    rw[zd0 this]
    apply Classical.byContradiction
    intro hc
    have:=JI (l:=d.Nodes) (id:=(gx d.Nodes i).Parent) (Classical.byContradiction fun hne=>by
     have:yn d.Nodes (gx d.Nodes i).Parent<0:=zdX.2 (fun n hn e=>hne ⟨n,hn,e⟩)
     omega)
    exact hc this.1
   rw[zo hneed,zgy]
   by_cases h0:(gx d.Nodes i).Parent=Str.nil
   ·
    rw[show err1 (gx d.Nodes i)=0 from if_neg (fun h=>h.1 h0)]
    simp[h0]
   ·
    by_cases hneg:yn d.Nodes (gx d.Nodes i).Parent<0
    ·
     rw[show err1 (gx d.Nodes i)=10 from if_pos ⟨h0,.inl hneg⟩]
     have:¬0≤yn d.Nodes (gx d.Nodes i).Parent:=by omega
     simp[h0,this]
    ·
     have hge:0≤yn d.Nodes (gx d.Nodes i).Parent:=by omega
     rw[zd0 hge]
     by_cases hk:(par d.Nodes (gx d.Nodes i)).Kind=6
     ·
      rw[show err1 (gx d.Nodes i)=0 from if_neg (fun h=>h.2.elim hneg (fun h=>h hk))]
      unfold par at hk
      simp[h0,hge,hk]
     ·
      rw[show err1 (gx d.Nodes i)=10 from if_pos ⟨h0,.inr hk⟩]
      unfold par at hk
      simp[h0,hge,hk])
 have q1:ya (d.Nodes.length:Int) (zeu d) (fun s=>Res.nx s) ()=some (if zP (d.Nodes.map err1)=0 then Res.nx ()else Res.ab (zP (d.Nodes.map err1))):=
  jp err1 (fun e=>(Res.ab e:Res Unit Int)) hll (fun i hi=>by
   unfold zeu
   rw[zo hi,zG,Jl hll,Option.bind_some]
   have hneed:(!decide ((gx d.Nodes i).Parent=Str.nil))=true→decide (yn d.Nodes (gx d.Nodes i).Parent<0)=false→inR d.Nodes (yn d.Nodes (gx d.Nodes i).Parent):=fun _ h2=>by
    have h2:¬yn d.Nodes (gx d.Nodes i).Parent<0:=by simpa using h2
    exact(JI (l:=d.Nodes) (id:=(gx d.Nodes i).Parent) (Classical.byContradiction fun hne=>h2 (zdX.2 (fun n hn e=>hne ⟨n,hn,e⟩)))).1
   rw[zo hneed]
   by_cases h0:(gx d.Nodes i).Parent=Str.nil
   ·
    rw[show err1 (gx d.Nodes i)=0 from if_neg (fun h=>h.1 h0)]
    simp[h0]
   ·
    by_cases hneg:yn d.Nodes (gx d.Nodes i).Parent<0
    ·
     rw[show err1 (gx d.Nodes i)=10 from if_pos ⟨h0,.inl hneg⟩]
     simp[h0,hneg]
    ·
     by_cases hk:(par d.Nodes (gx d.Nodes i)).Kind=6
     ·
      rw[show err1 (gx d.Nodes i)=0 from if_neg (fun h=>h.2.elim hneg (fun h=>h hk))]
      unfold par at hk
      simp[h0,hneg,hk]
     ·
      rw[show err1 (gx d.Nodes i)=10 from if_pos ⟨h0,.inr hk⟩]
      unfold par at hk
      simp[h0,hneg,hk])
 by_cases h1:zP (d.Nodes.map err1)=0
 case neg=>
  refine⟨zP (d.Nodes.map err1),?_,?_,fun h=>absurd h h1⟩
  ·
   unfold QO;rw[hv,p1,if_neg h1];rfl
  ·
   unfold za5;rw[q1,if_neg h1];rfl
 have hgood:∀n∈d.Nodes,n.Parent≠Str.nil→∃g∈d.Nodes,g.Id=n.Parent∧(par d.Nodes n).Kind=6:=fun n hn hne=>by
  have:=qi.1 h1 _ (List.mem_map_of_mem hn)
  have hx:¬(n.Parent≠Str.nil∧(yn d.Nodes n.Parent<0∨(par d.Nodes n).Kind≠6)):=fun h=>by
   have e:err1 n=10:=if_pos h
   rw[e]at this;cases this
  have hk:(par d.Nodes n).Kind=6:=Classical.byContradiction fun hk=>hx ⟨hne,.inr hk⟩
  have hge:¬yn d.Nodes n.Parent<0:=fun h=>hx ⟨hne,.inl h⟩
  apply Classical.byContradiction
  intro hno
  exact hge (zdX.2 (fun g hg e=>hno ⟨g,hg,e,hk⟩))
 have hpar:zbz d.Nodes:=fun n hn hne=>by
  obtain⟨g,h1,h2,_⟩:=hgood n hn hne
  exact⟨g,h1,h2⟩
 let A:zm→Int×Bool:=fun n=>(Yy d n).getD (0,false)
 have hA:∀n∈d.Nodes,JJ (yp d) n=some ((A n).1,!(A n).2)∧Yy d n=some (A n)∧Up d.Nodes n (A n).1 (A n).2:=fun n hn=>by
  obtain⟨m,b,g1,g2,g3⟩:=zmc hl hpar hn
  have e:A n=(m,b):=by show(Yy d n).getD _=_;rw[g2];rfl
  rw[e];exact⟨g1,g2,g3⟩
 let err2:zm→Int:=fun n=>if(A n).2=true then 13 else 0
 let err3:zm→Int:=fun n=>if 8<(A n).1 then 4 else 0
 let err4:zm→Int:=fun n=>if n.Kind=6∧qr d.Nodes n.Id=[]then 9 else 0
 have p2:ya (d.Nodes.length:Int) (zd8 (yp d)) (fun s=>Res.nx s) ()=some (if zP (d.Nodes.map err2)=0 then Res.nx ()else Res.ab (zP (d.Nodes.map err2))):=
  jp err2 (fun e=>(Res.ab e:Res Unit Int)) hll (fun i hi=>by
   unfold zd8
   rw[hv,zo hi,zG,(hA _ (qQ hi)).1,Option.bind_some]
   by_cases h:(A (gx d.Nodes i)).2=true
   ·
    rw[show err2 (gx d.Nodes i)=13 from if_pos h];simp[h]
   ·
    rw[show err2 (gx d.Nodes i)=0 from if_neg h];simp[h])
 have q2:ya (d.Nodes.length:Int) (zev d) (fun s=>Res.nx s) ()=some (if zP (d.Nodes.map err2)=0 then Res.nx ()else Res.ab (zP (d.Nodes.map err2))):=
  jp err2 (fun e=>(Res.ab e:Res Unit Int)) hll (fun i hi=>by
   unfold zev
   rw[zo hi,zG,(hA _ (qQ hi)).2.1,Option.bind_some]
   by_cases h:(A (gx d.Nodes i)).2=true
   ·
    rw[show err2 (gx d.Nodes i)=13 from if_pos h];simp[h]
   ·
    rw[show err2 (gx d.Nodes i)=0 from if_neg h];simp[h])
 have p3:ya (d.Nodes.length:Int) (zd9 (yp d)) (fun s=>Res.nx s) ()=some (if zP (d.Nodes.map err3)=0 then Res.nx ()else Res.ab (zP (d.Nodes.map err3))):=
  jp err3 (fun e=>(Res.ab e:Res Unit Int)) hll (fun i hi=>by
   unfold zd9
   rw[hv,zo hi,zG,(hA _ (qQ hi)).1,Option.bind_some]
   by_cases h:8<(A (gx d.Nodes i)).1
   ·
    rw[show err3 (gx d.Nodes i)=4 from if_pos h];simp[h]
   ·
    rw[show err3 (gx d.Nodes i)=0 from if_neg h];simp[h])
 have q3:ya (d.Nodes.length:Int) (zew d) (fun s=>Res.nx s) ()=some (if zP (d.Nodes.map err3)=0 then Res.nx ()else Res.ab (zP (d.Nodes.map err3))):=
  jp err3 (fun e=>(Res.ab e:Res Unit Int)) hll (fun i hi=>by
   unfold zew
   rw[zo hi,zG,(hA _ (qQ hi)).2.1,Option.bind_some]
   by_cases h:8<(A (gx d.Nodes i)).1
   ·
    rw[show err3 (gx d.Nodes i)=4 from if_pos h];simp[h]
   ·
    rw[show err3 (gx d.Nodes i)=0 from if_neg h];simp[h])
 have hlen:∀p,(d.Nodes.filter (fun n=>decide (n.Parent=p))).length=(qr d.Nodes p).length:=fun p=>by rw[←zjb,List.length_map]
 have p4:ya (d.Nodes.length:Int) (zea (yp d)) (fun s=>Res.nx s) ()=some (if zP (d.Nodes.map err4)=0 then Res.nx ()else Res.ab (zP (d.Nodes.map err4))):=
  jp err4 (fun e=>(Res.ab e:Res Unit Int)) hll (fun i hi=>by
   unfold zea
   rw[hv,hvm,zo hi,zG,zdP (hid _ (qQ hi))]
   by_cases h:(gx d.Nodes i).Kind=6∧qr d.Nodes (gx d.Nodes i).Id=[]
   ·
    rw[show err4 (gx d.Nodes i)=9 from if_pos h];simp[h.1,h.2]
   ·
    rw[show err4 (gx d.Nodes i)=0 from if_neg h]
    by_cases h2:(gx d.Nodes i).Kind=6
    ·
     have h3:qr d.Nodes (gx d.Nodes i).Id≠[]:=fun e=>h ⟨h2,e⟩
     simp[h2,h3]
    ·
     simp[h2])
 have q4:ya (d.Nodes.length:Int) (zex d) (fun s=>Res.nx s) ()=some (if zP (d.Nodes.map err4)=0 then Res.nx ()else Res.ab (zP (d.Nodes.map err4))):=
  jp err4 (fun e=>(Res.ab e:Res Unit Int)) hll (fun i hi=>by
   unfold zex
   rw[zo hi,zG,zjv hl]
   by_cases h2:(gx d.Nodes i).Kind=6
   ·
    rw[decide_eq_true h2,qC,Option.bind_some,hlen]
    by_cases h3:qr d.Nodes (gx d.Nodes i).Id=[]
    ·
     rw[show err4 (gx d.Nodes i)=9 from if_pos ⟨h2,h3⟩];simp[h3]
    ·
     rw[show err4 (gx d.Nodes i)=0 from if_neg (fun h=>h3 h.2)];simp[h3]
   ·
    rw[show err4 (gx d.Nodes i)=0 from if_neg (fun h=>h2 h.1),decide_eq_false h2];simp[gd])
 unfold QO za5
 rw[hv,p1,p2,p3,p4,q1,q2,q3,q4,if_pos h1,qd]
 by_cases h2:zP (d.Nodes.map err2)=0
 case neg=>rw[if_neg h2];exact⟨_,rfl,rfl,fun h=>absurd h h2⟩
 rw[if_pos h2,qd]
 by_cases h3:zP (d.Nodes.map err3)=0
 case neg=>rw[if_neg h3];exact⟨_,rfl,rfl,fun h=>absurd h h3⟩
 rw[if_pos h3,qd]
 by_cases h4:zP (d.Nodes.map err4)=0
 case neg=>rw[if_neg h4];exact⟨_,rfl,rfl,fun h=>absurd h h4⟩
 rw[if_pos h4,qd]
 have hu:∀n∈d.Nodes,Up d.Nodes n (A n).1 false:=fun n hn=>by
  have:=qi.1 h2 _ (List.mem_map_of_mem hn)
  have hb:(A n).2=false:=by
   cases hb:(A n).2 with
   | false=>rfl
   | true=>
    have e:err2 n=13:=if_pos hb
    rw[e]at this;cases this
  have:=(hA n hn).2.2
  rwa [hb]at this
 refine⟨0,rfl,rfl,fun _=>⟨hgood,fun n hn=>?_,fun n hn hk he=>?_⟩⟩
 ·
  obtain⟨k,e1,e2,e3⟩:=ends hpar (fun n hn=>⟨_,hu n hn⟩) hn (hu n hn)
  refine⟨k,?_,e2,e3⟩
  have:=qi.1 h3 _ (List.mem_map_of_mem hn)
  apply Classical.byContradiction
  intro hc
  have e:err3 n=4:=if_pos (by omega)
  rw[e]at this;cases this
 ·
  have:=qi.1 h4 _ (List.mem_map_of_mem hn)
  have e:err4 n=9:=if_pos ⟨hk,he⟩
  rw[e]at this;cases this
def qK:Box:=⟨0,0,0,0⟩
theorem znQ {l:List Box}(hl:(l.length:Int)≤9223372036854775807):zbQ l=some (zP (l.map ql)):=by
 unfold zbQ
 rw[jp ql (fun e=>(Res.ab e:Res Unit Int)) hl (fun i hi=>by
  unfold zfZ
  rw[zo hi,zG,zaf,Option.bind_some]
  by_cases h:ql (gx l i)=0<;>simp[h])]
 by_cases h:zP (l.map ql)=0<;>simp[h]
theorem zoc {l:List Box}(hok:∀b∈l,okB b)(hl:l.length≤1000):∃b e,zay l=some (b,e)∧zaT l=some (b,e)∧(e=0→okB b):=by
 unfold zay zaT
 simp only[zG]
 rw[decide_eq_false (show ¬(1000:Int)<(l.length:Int)by omega),znQ (by omega)]
 have hz:zP (l.map ql)=0:=qi.2 (fun e he=>by
  obtain⟨b,hb,rfl⟩:=List.mem_map.1 he
  exact zao.2 (hok b hb))
 rw[hz]
 simp only[cond_false,Option.bind_some,decide_true,Bool.not_true]
 by_cases h0:l=[]
 ·
  subst h0
  refine⟨qK,9,rfl,rfl,fun h=>by cases h⟩
 have hpos:0<l.length:=List.length_pos_iff.2 h0
 rw[decide_eq_false (show ¬(l.length:Int)=0 by omega)]
 have hin:inR l 0:=⟨by omega,by omega⟩
 simp only[cond_false,zo hin]
 obtain⟨s,t,h1,h2,h3⟩:=zqb (n:=(l.length:Int)) (step:=zdu l) (step':=zel l) (s0:=gx l 0) (t0:=((gx l 0).X,(gx l 0).Y,(gx l 0).X,(gx l 0).Y))
  (fun k s t=>(k=0∧s=gx l 0∧t=((gx l 0).X,(gx l 0).Y,(gx l 0).X,(gx l 0).Y))∨(s=⟨t.1,t.2.1,t.2.2.1 - t.1,t.2.2.2 - t.2.1⟩∧ -1000000≤t.1∧t.1≤1000000∧ -1000000≤t.2.1∧t.2.1≤1000000∧t.1<t.2.2.1∧t.2.2.1≤1020000∧t.2.1<t.2.2.2∧t.2.2.2≤1020000))
  (by omega) (.inl ⟨rfl,rfl,rfl⟩) (fun i s t hi hI=>by
   have hi':i<l.length:=by omega
   have hb:=hok _ (List.getElem_mem hi')
   unfold zdu zel
   rw[zo ⟨by omega,by omega⟩,zo ⟨by omega,by omega⟩,zS hi']
   simp only[zG]
   refine⟨_,_,rfl,rfl,.inr ?_⟩
   have hv0:i=0→l[i]=gx l 0:=fun h=>by subst h;exact(zS hi').symm
   generalize l[i]=v at *
   obtain⟨x1,x2,y1,y2,w1,w2,g1,g2⟩:=hb
   rcases hI with⟨rfl,rfl,rfl⟩ | ⟨rfl,c1,c2,c3,c4,c5,c6,c7,c8⟩
   ·
    rw[←hv0 rfl]
    simp only[Int.min_self]
    rw[Wk (n:=v.X+v.W_) (by omega) (by omega),Wk (n:=v.Y+v.H) (by omega) (by omega),Int.max_self,Int.max_self,show max v.X (v.X+v.W_)=v.X+v.W_ by omega,show max v.Y (v.Y+v.H)=v.Y+v.H by omega,
     Wk (n:=v.X+v.W_ - v.X) (by omega) (by omega),Wk (n:=v.Y+v.H - v.Y) (by omega) (by omega)]
    refine⟨rfl,by omega,by omega,by omega,by omega,by omega,by omega,by omega,by omega⟩
   ·
    have q1:W (t.1+(t.2.2.1 - t.1))=t.2.2.1:=by rw[Wk (by omega) (by omega)];omega
    have q2:W (t.2.1+(t.2.2.2 - t.2.1))=t.2.2.2:=by rw[Wk (by omega) (by omega)];omega
    have q3:W (v.X+v.W_)=v.X+v.W_:=Wk (by omega) (by omega)
    have q4:W (v.Y+v.H)=v.Y+v.H:=Wk (by omega) (by omega)
    simp only[q1,q2,q3,q4]
    rw[Wk (n:=max t.2.2.1 (v.X+v.W_) - min t.1 v.X) (by omega) (by omega),Wk (n:=max t.2.2.2 (v.Y+v.H) - min t.2.1 v.Y) (by omega) (by omega)]
    refine⟨rfl,by omega,by omega,by omega,by omega,by omega,by omega,by omega,by omega⟩)
 rw[h1,h2]
 simp only[Option.bind_some]
 rcases h3 with⟨h,_⟩ | ⟨rfl,c1,c2,c3,c4,c5,c6,c7,c8⟩
 ·
  have:(l.length:Int).toNat=l.length:=by omega
  omega
 ·
  rw[Wk (n:=t.2.2.1 - t.1) (by omega) (by omega),Wk (n:=t.2.2.2 - t.2.1) (by omega) (by omega)]
  by_cases h:20000<t.2.2.1 - t.1∨20000<t.2.2.2 - t.2.1
  ·
   have e:(decide (20000<t.2.2.1 - t.1) || decide (20000<t.2.2.2 - t.2.1))=true:=by simpa using h
   rw[e]
   exact⟨qK,4,rfl,rfl,fun h=>by cases h⟩
  ·
   have e:(decide (20000<t.2.2.1 - t.1) || decide (20000<t.2.2.2 - t.2.1))=false:=by simpa using h
   rw[e]
   refine⟨_,0,rfl,rfl,fun _=>?_⟩
   unfold okB
   simp only
   omega
theorem znZ {h:Box}(hh:okB h):∃b e,zax h 10=some (b,e)∧Yu (⟨W (h.X - 10),W (h.Y - 10),W (h.W_+20),W (h.H+20)⟩:Box)=some e∧(e=0→b=(⟨W (h.X - 10),W (h.Y - 10),W (h.W_+20),W (h.H+20)⟩:Box)∧okB b):=by
 obtain⟨x1,x2,y1,y2,w1,w2,g1,g2⟩:=id hh
 unfold zax
 simp only[zG]
 have e2:W (2*10)=20:=Wk (by omega) (by omega)
 rw[zaf,zao.2 hh,ze8,e2]
 rw[Wk (n:=h.X - 10) (by omega) (by omega),Wk (n:=h.Y - 10) (by omega) (by omega),Wk (n:=h.W_+20) (by omega) (by omega),Wk (n:=h.H+20) (by omega) (by omega)]
 simp only[Option.bind_some,decide_true,Bool.not_true,cond_false]
 have e3:(decide ((10:Int) < -20000) || decide ((20000:Int)<10))=false:=by decide
 rw[e3,cond_false]
 have e4:(decide (h.W_+20<1) || decide (h.H+20<1))=false:=by
  rw[decide_eq_false (by omega),decide_eq_false (by omega)];rfl
 rw[e4,cond_false,zaf,Option.bind_some]
 by_cases h0:ql (⟨h.X - 10,h.Y - 10,h.W_+20,h.H+20⟩:Box)=0
 ·
  rw[h0]
  exact⟨_,0,rfl,rfl,fun _=>⟨rfl,zao.1 h0⟩⟩
 ·
  rw[decide_eq_false h0]
  exact⟨_,_,rfl,rfl,fun h=>absurd h h0⟩
theorem zmt {d:Doc}(hl:d.Nodes.length≤500)(hd:(d.Nodes.map (·.Id)).Nodup)(hid:∀n∈d.Nodes,n.Id≠Str.nil)(hb:∀n∈d.Nodes,n.Kind≠6→okB n.Box)
  {i:Nat} (hi:i<d.Nodes.length) (R:Int→(Box×Int)×Box) (hR:∀c∈qr d.Nodes d.Nodes[i].Id,(R c).1.2=0→(R c).1.1=(R c).2∧okB (R c).2):
  ∃b e b',(e=0→b=b'∧okB b')∧∀(slf:yk×Int→Option (Box×Int)) (slf':Doc×Str→Option (Box×Int)),
   (d.Nodes[i].Kind=6→∀c∈qr d.Nodes d.Nodes[i].Id,slf (yp d,c)=some (R c).1∧slf' (d,(gx d.Nodes c).Id)=some ((R c).2,(R c).1.2))→
   jo slf (yp d,(i:Int))=some (b,e)∧Qo slf' (d,d.Nodes[i].Id)=some (b',e):=by
 have hin:inR d.Nodes (i:Int):=⟨by omega,by omega⟩
 have hn:=List.getElem_mem hi
 have hv:(yp d).d.Nodes=d.Nodes:=rfl
 have hvm:(yp d).members=jV d.Nodes:=rfl
 by_cases hk:d.Nodes[i].Kind=6
 case neg=>
  refine⟨d.Nodes[i].Box,0,d.Nodes[i].Box,fun _=>⟨rfl,hb _ hn hk⟩,fun slf slf' _=>⟨?_,?_⟩⟩
  ·
   unfold jo
   simp only[zG]
   rw[hv,zo hin,zS hi,decide_eq_false hk];rfl
  ·
   unfold Qo
   simp only[zG]
   rw[Jl (by omega),zgw hd hi,Option.bind_some,zo hin,zS hi,decide_eq_false hk];rfl
 generalize hks:qr d.Nodes d.Nodes[i].Id=ks at *
 have hkl:ks.length≤500:=by
  rw[←hks];unfold qr
  rw[List.length_map]
  refine Nat.le_trans (List.length_filter_le _ _) ?_
  simp;omega
 let err:Nat→Int:=fun k=>(R (gx ks (k:Int))).1.2
 let E:=zP ((List.range ks.length).map err)
 have loop1:∀(slf:yk×Int→Option (Box×Int)),(∀c∈ks,slf (yp d,c)=some (R c).1)→
   ya (ks.length:Int) (Qm slf (yp d,(i:Int)) ks) (fun s=>Res.nx s) ([]:List Box)=some (if E=0 then Res.nx (ks.map (fun c=>(R c).1.1))else Res.ab (qK,E)):=fun slf hs=>by
  have:=vx (n:=ks.length) (step:=Qm slf (yp d,(i:Int)) ks) (fin:=fun s=>(Res.nx s:Res (List Box) (Box×Int))) (fun k=>(ks.take k).map (fun c=>(R c).1.1)) err (fun e=>Res.ab (qK,e)) (by omega) (fun k hk _=>by
   unfold Qm
   have hink:inR ks (k:Int):=⟨by omega,by omega⟩
   rw[zo hink,hs _ (qQ hink),Option.bind_some]
   by_cases h:err k=0
   ·
    have h':(R (gx ks (k:Int))).1.2=0:=h
    rw[if_pos h,h']
    simp only[decide_true,Bool.not_true,cond_false]
    rw[zo (by show _≤_;simp;omega),List.take_succ_eq_append_getElem hk,List.map_append,zS hk]
    rfl
   ·
    have h':¬(R (gx ks (k:Int))).1.2=0:=h
    rw[if_neg h,decide_eq_false h']
    rfl)
  simp only[List.take_zero,List.map_nil,List.take_length]at this
  exact this
 have loop2:∀(slf':Doc×Str→Option (Box×Int)),(∀c∈ks,slf' (d,(gx d.Nodes c).Id)=some ((R c).2,(R c).1.2))→
   ya ((ks.map (gx d.Nodes)).length:Int) (zaP slf' (d,d.Nodes[i].Id) (ks.map (gx d.Nodes))) (fun s=>Res.nx s) ([]:List Box)=some (if E=0 then Res.nx (ks.map (fun c=>(R c).2))else Res.ab (qK,E)):=fun slf' hs=>by
  rw[List.length_map]
  have:=vx (n:=ks.length) (step:=zaP slf' (d,d.Nodes[i].Id) (ks.map (gx d.Nodes))) (fin:=fun s=>(Res.nx s:Res (List Box) (Box×Int))) (fun k=>(ks.take k).map (fun c=>(R c).2)) err (fun e=>Res.ab (qK,e)) (by omega) (fun k hk _=>by
   unfold zaP
   have hink:inR ks (k:Int):=⟨by omega,by omega⟩
   have hg:gx (ks.map (gx d.Nodes)) (k:Int)=gx d.Nodes (gx ks (k:Int)):=by rw[zS (by simpa using hk),zS hk];simp
   rw[zo ⟨by omega,by simp;omega⟩,zG,hg,hs _ (qQ hink),Option.bind_some]
   by_cases h:err k=0
   ·
    have h':(R (gx ks (k:Int))).1.2=0:=h
    rw[if_pos h,h']
    simp only[decide_true,Bool.not_true,cond_false]
    rw[zo (by show _≤_;simp;omega),List.take_succ_eq_append_getElem hk,List.map_append,zS hk]
    rfl
   ·
    have h':¬(R (gx ks (k:Int))).1.2=0:=h
    rw[if_neg h,decide_eq_false h']
    rfl)
  simp only[List.take_zero,List.map_nil,List.take_length]at this
  exact this
 have hfil:d.Nodes.filter (fun n=>decide (n.Parent=d.Nodes[i].Id))=ks.map (gx d.Nodes):=by rw[←hks];exact zjb.symm
 have r1:∀slf,jo slf (yp d,(i:Int))=yg (σ:=(List Box)) (ρ:=(Box×Int)) (ya (ks.length:Int) (Qm slf (yp d,(i:Int)) ks) (fun s=>Res.nx s) ([]:List Box)) fun j=>
   Option.bind (zay j) fun r2=>bif !decide (r2.2=0)then some (qK,r2.2)else Option.bind (zax r2.1 10) fun r3=>some (r3.1,r3.2):=fun slf=>by
  unfold jo
  simp only[zG]
  rw[hv,hvm,zo hin,zS hi,decide_eq_true hk,zdP (hid _ hn),hks]
  rfl
 have r2:∀slf',Qo slf' (d,d.Nodes[i].Id)=yg (σ:=(List Box)) (ρ:=(Box×Int)) (ya ((ks.map (gx d.Nodes)).length:Int) (zaP slf' (d,d.Nodes[i].Id) (ks.map (gx d.Nodes))) (fun s=>Res.nx s) ([]:List Box)) fun j=>
   Option.bind (zaT j) fun r4=>bif !decide (r4.2=0)then some (qK,r4.2)else Option.bind (Yu (⟨W (r4.1.X - 10),W (r4.1.Y - 10),W (r4.1.W_+20),W (r4.1.H+20)⟩:Box)) fun r5=>some ((⟨W (r4.1.X - 10),W (r4.1.Y - 10),W (r4.1.W_+20),W (r4.1.H+20)⟩:Box),r5):=fun slf'=>by
  unfold Qo
  simp only[zG]
  rw[Jl (by omega),zgw hd hi,Option.bind_some,zo hin,zS hi,decide_eq_true hk,zjv hl,Option.bind_some,hfil]
  rfl
 by_cases hE:E=0
 case neg=>
  refine⟨qK,E,qK,fun h=>absurd h hE,fun slf slf' hs=>?_⟩
  rw[r1,r2,loop1 slf (fun c hc=>(hs hk c hc).1),loop2 slf' (fun c hc=>(hs hk c hc).2),if_neg hE,if_neg hE]
  exact⟨rfl,rfl⟩
 have hz:∀c∈ks,(R c).1.2=0:=fun c hc=>by
  obtain⟨k,hk',rfl⟩:=List.mem_iff_getElem.1 hc
  have:=qi.1 hE (err k) (List.mem_map.2 ⟨k,by simpa using hk',rfl⟩)
  show(R ks[k]).1.2=0
  rw[←zS hk'];exact this
 have hsame:ks.map (fun c=>(R c).1.1)=ks.map (fun c=>(R c).2):=List.map_congr_left fun c hc=>(hR c hc (hz c hc)).1
 obtain⟨b,e,h1,h2,h3⟩:=zoc (l:=ks.map (fun c=>(R c).2)) (fun b hb=>by
  obtain⟨c,hc,rfl⟩:=List.mem_map.1 hb
  exact(hR c hc (hz c hc)).2) (by simp;omega)
 by_cases he:e=0
 case neg=>
  refine⟨qK,e,qK,fun h=>absurd h he,fun slf slf' hs=>?_⟩
  rw[r1,r2,loop1 slf (fun c hc=>(hs hk c hc).1),loop2 slf' (fun c hc=>(hs hk c hc).2),if_pos hE,if_pos hE,qd,qd,hsame,h1,h2,Option.bind_some,Option.bind_some,decide_eq_false he]
  exact⟨rfl,rfl⟩
 obtain⟨b2,e2,g1,g2,g3⟩:=znZ (h3 he)
 refine⟨b2,e2,_,fun h=>⟨(g3 h).1,(g3 h).1▸(g3 h).2⟩,fun slf slf' hs=>?_⟩
 rw[r1,r2,loop1 slf (fun c hc=>(hs hk c hc).1),loop2 slf' (fun c hc=>(hs hk c hc).2),if_pos hE,if_pos hE,qd,qd,hsame,h1,h2,Option.bind_some,Option.bind_some,decide_eq_true he]
 simp only[Bool.not_true,cond_false]
 rw[g1,g2]
 exact⟨rfl,rfl⟩
def Dp (l:List zm)(n:zm)(m:Nat):Prop:=(anc l n m).Parent=Str.nil∧∀j,j<m→(anc l n j).Parent≠Str.nil
theorem Dp.uni {l:List zm}{n:zm}{m m':Nat}(h:Dp l n m)(h':Dp l n m'):m=m':=by
 rcases Nat.lt_trichotomy m m' with c | c | c
 ·
  exact absurd h.1 (h'.2 m c)
 ·
  exact c
 ·
  exact absurd h'.1 (h.2 m' c)
theorem zpi {l:List zm}(hd:(l.map (·.Id)).Nodup){i:Nat}(hi:i<l.length){c:zm}(hc:c.Parent=l[i].Id):par l c=l[i]:=by
 unfold par
 rw[hc,zgw hd hi,zS hi]
theorem zfk {l:List zm}{c:zm}:∀k,anc l c (k+1)=anc l (par l c) k
 | 0=>rfl
 | k+1=>by
  show par l (anc l c (k+1))=par l (anc l (par l c) k)
  rw[zfk k]
theorem Dp.kid {l:List zm}{c:zm}{m:Nat}(hc:c.Parent≠Str.nil)(h:Dp l (par l c) m):Dp l c (m+1):=by
 refine⟨by rw[zfk];exact h.1,fun j hj=>?_⟩
 cases j with
 | zero=>exact hc
 | succ j=>rw[zfk];exact h.2 j (by omega)
theorem zms {d:Doc}(hl:d.Nodes.length≤500)(hd:(d.Nodes.map (·.Id)).Nodup)(hid:∀n∈d.Nodes,n.Id≠Str.nil)(hb:∀n∈d.Nodes,n.Kind≠6→okB n.Box)(hdp:∀n∈d.Nodes,∃k,k≤8∧Dp d.Nodes n k)
  {i:Nat} (hi:i<d.Nodes.length):∃b e b',YU (yp d) (i:Int)=some (b,e)∧zcf d d.Nodes[i].Id=some (b',e)∧(e=0→b=b'∧okB b'):=by
 have key:∀(f m:Nat) (i:Nat) (hi:i<d.Nodes.length),Dp d.Nodes d.Nodes[i] m→9≤m+f→∃b e b',(e=0→b=b'∧okB b')∧
   ∀N,f≤N→qw jo N (yp d,(i:Int))=some (b,e)∧qw Qo N (d,d.Nodes[i].Id)=some (b',e):=by
  intro f
  induction f with
  | zero=>
   intro m i hi hm hf
   obtain⟨k,hk,hk2⟩:=hdp _ (List.getElem_mem hi)
   have:=hm.uni hk2
   omega
  | succ f ih=>
   intro m i hi hm hf
   have hkid:∀c∈qr d.Nodes d.Nodes[i].Id,∃(x:(Box×Int)×Box),(x.1.2=0→x.1.1=x.2∧okB x.2)∧∀N,f≤N→qw jo N (yp d,c)=some x.1∧qw Qo N (d,(gx d.Nodes c).Id)=some (x.2,x.1.2):=fun c hc=>by
    obtain⟨hin,hp⟩:=zok.1 hc
    obtain⟨j,rfl⟩:∃j:Nat,c=j:=⟨c.toNat,by have:=hin.1;omega⟩
    have hj:j<d.Nodes.length:=by have:=hin.2;omega
    rw[zS hj]at hp⊢
    have hpe:=zpi hd hi hp
    obtain⟨b,e,b',h1,h2⟩:=ih (m+1) j hj (Dp.kid (by rw[hp];exact hid _ (List.getElem_mem hi)) (by rw[hpe];exact hm)) (by omega)
    exact⟨((b,e),b'),h1,h2⟩
   let R:Int→(Box×Int)×Box:=fun c=>if h:c∈qr d.Nodes d.Nodes[i].Id then(hkid c h).choose else((qK,0),qK)
   have hR:∀c (h:c∈qr d.Nodes d.Nodes[i].Id),R c=(hkid c h).choose:=fun c h=>dif_pos h
   obtain⟨b,e,b',h1,h2⟩:=zmt hl hd hid hb hi R (fun c hc=>by rw[hR c hc];exact(hkid c hc).choose_spec.1)
   refine⟨b,e,b',h1,fun N hN=>?_⟩
   obtain⟨N,rfl⟩:∃q,N=q+1:=⟨N - 1,by omega⟩
   exact h2 (qw jo N) (qw Qo N) (fun _ c hc=>by rw[hR c hc];exact(hkid c hc).choose_spec.2 N (by omega))
 obtain⟨k,hk,hk2⟩:=hdp _ (List.getElem_mem hi)
 obtain⟨b,e,b',h1,h2⟩:=key 9 k i hi hk2 (by omega)
 exact⟨b,e,b',ziF 9 (fun N hN=>(h2 N hN).1),ziF 9 (fun N hN=>(h2 N hN).2),h1⟩
theorem zdo {c:Prop}[Decidable c]{e:Int}{l:List Int}(he:e≠0):zP ((if c then 0 else e)::l)=if c then zP l else e:=by
 by_cases h:c<;>simp[h,he]
theorem zbO {c:Prop}[Decidable c]{e:Int}{l:List Int}(he:e≠0):zP ((if c then e else 0)::l)=if c then e else zP l:=by
 by_cases h:c<;>simp[h,he]
theorem zdn:∀(l m:List Int),zP (l++m)=if zP l=0 then zP m else zP l
 | [],m=>by simp
 | e::l,m=>by
  rw[List.cons_append,vq,vq,zdn l m]
  by_cases h:e=0<;>simp[h]
def jQ (s:Str):Int:=if s=Str.nil∨qm s=true then 0 else 5
def vL (n:zm)(tw:Bool):Int:=
 zP [if qm n.Id=true then 0 else 5,if tw=true then 6 else 0,if 1≤n.Kind∧n.Kind≤6 then 0 else 1,if n.Kind=6 then(if n.Box=qK then 0 else 2)else ql n.Box,qI n.Text,jQ n.Class]
theorem zic (s:Str){k:Bool→Option Int}:(Option.bind (gd (!decide (s=Str.nil)) (QN s)) fun r=>bif(!decide (s=Str.nil))&&!r then some 5 else some 0)=some (jQ s):=by
 unfold jQ
 rw[zge]
 by_cases h:s=Str.nil
 ·
  simp[h,gd]
 ·
  rw[decide_eq_false h,Bool.not_false,qC,Option.bind_some]
  cases qm s<;>simp[h]
theorem zfu (n:zm)(tw:Bool):zb8 n tw=some (vL n tw):=by
 unfold zb8 vL
 rw[zge,Option.bind_some,zdo (by decide),zbO (by decide),zdo (by decide),vq]
 cases qm n.Id with
 | false=>rfl
 | true=>
  cases tw with
  | true=>rfl
  | false=>
   simp only[Bool.not_true,cond_false,if_true,Bool.false_eq_true,if_false]
   by_cases hk:1≤n.Kind∧n.Kind≤6
   case neg=>
    have:(decide (n.Kind<1) || decide (6<n.Kind))=true:=by simp;omega
    rw[this,if_neg hk];rfl
   have:(decide (n.Kind<1) || decide (6<n.Kind))=false:=by simp;omega
   rw[this,if_pos hk,cond_false]
   have hz:(⟨(0:Int),(0:Int),(0:Int),(0:Int)⟩:Box)=qK:=rfl
   rw[hz]
   have last:(Option.bind (zaa n.Text) fun e2=>bif !decide (e2=0)then some e2 else Option.bind (gd (!decide (n.Class=Str.nil)) (QN n.Class)) fun r2=>bif(!decide (n.Class=Str.nil))&&!r2 then some 5 else some 0)=some (zP [qI n.Text,jQ n.Class]):=by
    rw[zhK,Option.bind_some,zic (k:=fun _=>none)]
    by_cases h:qI n.Text=0
    ·
     simp[h]
    ·
     simp[h]
   by_cases h6:n.Kind=6
   ·
    rw[decide_eq_true h6,if_pos h6]
    by_cases hb:n.Box=qK
    ·
     rw[decide_eq_true hb,if_pos hb]
     simp only[Bool.not_true,Bool.and_false,cond_false,qd,if_true]
     exact last
    ·
     rw[decide_eq_false hb,if_neg hb];simp
   ·
    rw[decide_eq_false h6,if_neg h6]
    simp only[Bool.false_and,cond_false,Bool.not_false,cond_true]
    rw[zaf,Option.bind_some]
    by_cases hb:ql n.Box=0
    ·
     rw[decide_eq_true hb,if_pos hb]
     simp only[Bool.not_true,cond_false,qd]
     exact last
    ·
     rw[decide_eq_false hb,if_neg hb]
     simp
theorem zib {s:Str}(hs:zT s):JT s=some (jQ s):=by
 unfold JT jQ
 rw[zfc hs]
 by_cases h:s=Str.nil
 ·
  simp[h,gd,jD]
 ·
  rw[decide_eq_false h,Bool.not_false,qC,Option.bind_some,jD]
  cases qm s<;>simp[h]
theorem zo0 {d:Doc}(hl:d.Nodes.length≤500)(hf:∀n∈d.Nodes,zT n.Id∧zT n.Text∧zT n.Class){i:Nat}(hi:i<d.Nodes.length):
  zcu d (i:Int)=some (vL d.Nodes[i] (decide (d.Nodes[i].Id∈(d.Nodes.take i).map (·.Id)))):=by
 obtain⟨f1,f2,f3⟩:=hf _ (List.getElem_mem hi)
 unfold zcu
 rw[zo ⟨by omega,by omega⟩,zS hi,zG,zo ⟨by omega,by omega,by omega⟩]
 have hseg:seg d.Nodes 0 (i:Int)=d.Nodes.take i:=by simp[seg]
 rw[hseg,zlF (d.Nodes.take i) (fun x0=>zcv x0 d.Nodes[i]) (fun m=>decide (m.Id=d.Nodes[i].Id)) (by simp;omega) (fun x _=>rfl),Option.bind_some,zfc f1,Option.bind_some,jD,Option.bind_some,jD,Option.bind_some,Qz,Option.bind_some,jD,Option.bind_some,Qa (by simp),Option.bind_some]
 have htw:(d.Nodes.take i).any (fun m=>decide (m.Id=d.Nodes[i].Id))=decide (d.Nodes[i].Id∈(d.Nodes.take i).map (·.Id)):=by
  rw[Bool.eq_iff_iff,List.any_eq_true,decide_eq_true_eq,List.mem_map]
  simp
 rw[htw]
 generalize decide (d.Nodes[i].Id∈(d.Nodes.take i).map (·.Id))=tw
 generalize d.Nodes[i]=n at *
 have e1:vL n tw=if zP [if qm n.Id=true then(0:Int)else 5,if tw=true then(6:Int)else 0,if 1≤n.Kind∧n.Kind≤6 then(0:Int)else 1]=0 then zP [if n.Kind=6 then(if n.Box=qK then(0:Int)else 2)else ql n.Box,qI n.Text,jQ n.Class]else zP [if qm n.Id=true then(0:Int)else 5,if tw=true then(6:Int)else 0,if 1≤n.Kind∧n.Kind≤6 then(0:Int)else 1]:=zdn [_,_,_] [_,_,_]
 have e2:zP [if(!qm n.Id)=true then(5:Int)else 0,if tw=true then(6:Int)else 0,if(!decide (1≤n.Kind∧n.Kind≤6))=true then(1:Int)else 0]=zP [if qm n.Id=true then(0:Int)else 5,if tw=true then(6:Int)else 0,if 1≤n.Kind∧n.Kind≤6 then(0:Int)else 1]:=by
  cases qm n.Id<;>by_cases h:1≤n.Kind∧n.Kind≤6<;>simp[h]
 rw[e2,e1]
 generalize zP [if qm n.Id=true then(0:Int)else 5,if tw=true then(6:Int)else 0,if 1≤n.Kind∧n.Kind≤6 then(0:Int)else 1]=E
 by_cases hE:E=0
 ·
  rw[decide_eq_true hE,if_pos hE,Bool.not_true,cond_false,jD,Option.bind_some,ze8,zhU f2,zib f3]
  have hz:(⟨(0:Int),(0:Int),(0:Int),(0:Int)⟩:Box)=qK:=rfl
  rw[hz]
  by_cases h6:n.Kind=6
  ·
   rw[decide_eq_true h6,if_pos h6]
   simp only[Bool.not_true,cond_false,Option.bind_some]
   rw[Qa (by simp),Option.bind_some]
   by_cases hb:n.Box=qK<;>simp[hb]
  ·
   rw[decide_eq_false h6,if_neg h6]
   simp only[Bool.not_false,cond_true,Option.bind_some]
   rw[Qa (by simp),Option.bind_some]
 ·
  rw[decide_eq_false hE,if_neg hE];rfl
def qv (l:List zm)(y:yx):Int:=if yn l y.Node<0 then 10 else if(gx l (yn l y.Node)).Kind=6 then 1 else if(1≤y.Side∧y.Side≤4)∧0≤y.At∧y.At≤1000 then 0 else 3
def qU (l:List zm)(x:zJ)(tw:Bool):Int:=
 zP [if qm x.Id=true then 0 else 5,if tw=true then 6 else 0,qv l x.From,qv l x.To,if 50<x.Bends.length then 4 else 0,qB x.Bends,qI x.Text,jQ x.Class]
theorem zdW {l:List zm}{id:Str}(h:¬yn l id<0):inR l (yn l id)∧(gx l (yn l id)).Id=id:=
 JI (Classical.byContradiction fun hne=>h (zdX.2 (fun n hn e=>hne ⟨n,hn,e⟩)))
theorem zmC (d:Doc)(y:yx):zcb (yp d) y=some (qv d.Nodes y):=by
 unfold zcb qv
 have hvn:(yp d).number=vf d.Nodes:=rfl
 have hv:(yp d).d.Nodes=d.Nodes:=rfl
 rw[hvn,hv,zgy]
 by_cases h:yn d.Nodes y.Node<0
 ·
  rw[if_pos h,decide_eq_false (by omega)];rfl
 ·
  rw[if_neg h,decide_eq_true (by omega),zd0 (by omega),Bool.not_true,cond_false,zo (zdW h).1]
  by_cases h6:(gx d.Nodes (yn d.Nodes y.Node)).Kind=6
  ·
   rw[if_pos h6,decide_eq_true h6];rfl
  ·
   rw[if_neg h6,decide_eq_false h6,cond_false]
   by_cases hs:(1≤y.Side∧y.Side≤4)∧0≤y.At∧y.At≤1000
   ·
    have:(decide (y.Side<1) || decide (4<y.Side) || decide (y.At<0) || decide (1000<y.At))=false:=by simp;omega
    rw[this,if_pos hs];rfl
   ·
    have:(decide (y.Side<1) || decide (4<y.Side) || decide (y.At<0) || decide (1000<y.At))=true:=by simp;omega
    rw[this,if_neg hs];rfl
theorem zh9 (d:Doc)(x:zJ)(tw:Bool):zca (yp d) x tw=some (qU d.Nodes x tw):=by
 unfold zca qU
 rw[zge,Option.bind_some,zdo (by decide),zbO (by decide)]
 cases qm x.Id with
 | false=>rfl
 | true=>
  cases tw with
  | true=>rfl
  | false=>
   simp only[Bool.not_true,cond_false,if_true,Bool.false_eq_true,if_false,zG]
   rw[jp (qv d.Nodes) (fun e=>(Res.ab e:Res Unit Int)) (by simp) (fun i hi=>by
    unfold zgz
    rw[zo hi,zG,zmC,Option.bind_some]
    by_cases h:qv d.Nodes (gx [x.From,x.To] i)=0<;>simp[h])]
   rw[show [qv d.Nodes x.From,qv d.Nodes x.To,if 50<x.Bends.length then(4:Int)else 0,qB x.Bends,qI x.Text,jQ x.Class]=[x.From,x.To].map (qv d.Nodes)++[if 50<x.Bends.length then(4:Int)else 0,qB x.Bends,qI x.Text,jQ x.Class]from rfl,zdn]
   by_cases hE:zP ([x.From,x.To].map (qv d.Nodes))=0
   case neg=>rw[if_neg hE,if_neg hE];rfl
   rw[if_pos hE,if_pos hE,qd,zbO (by decide)]
   by_cases h50:50<x.Bends.length
   ·
    rw[if_pos h50,decide_eq_true (by omega)];rfl
   rw[if_neg h50,decide_eq_false (by omega),cond_false,zlz,Option.bind_some,vq]
   by_cases hp:qB x.Bends=0
   case neg=>rw[if_neg hp,decide_eq_false hp];rfl
   rw[if_pos hp,decide_eq_true hp,Bool.not_true,cond_false,zhK,Option.bind_some,vq]
   by_cases ht:qI x.Text=0
   case neg=>rw[if_neg ht,decide_eq_false ht];rfl
   rw[if_pos ht,decide_eq_true ht,Bool.not_true,cond_false,zic (k:=fun _=>none)]
   by_cases h2:jQ x.Class=0<;>simp[h2]
theorem zl0 (s a:Int):zco s a=some (if(1≤s∧s≤4)∧0≤a∧a≤1000 then 0 else 3):=by
 unfold zco
 rw[Qz,Qz,Option.bind_some]
 by_cases h1:1≤s∧s≤4
 ·
  rw[decide_eq_true h1]
  simp only[Bool.not_true,Bool.not_false,qC,Option.bind_some,Bool.false_or]
  rw[jD]
  by_cases h2:0≤a∧a≤1000<;>simp[h1,h2]
 ·
  rw[decide_eq_false h1,if_neg (fun h=>h1 h.1)]
  simp[gd,jD]
theorem zmP {d:Doc}(hl:d.Nodes.length≤500)(hel:d.Edges.length≤1000)(hf:∀x∈d.Edges,zT x.Id∧zT x.Text∧zT x.Class){i:Nat}(hi:i<d.Edges.length):
  zcs d (i:Int)=some (qU d.Nodes d.Edges[i] (decide (d.Edges[i].Id∈d.Nodes.map (·.Id)++(d.Edges.take i).map (·.Id)))):=by
 obtain⟨f1,f2,f3⟩:=hf _ (List.getElem_mem hi)
 have hll:(d.Nodes.length:Int)≤9223372036854775807:=by omega
 unfold zcs
 rw[zo ⟨by omega,by omega⟩,zS hi,zG,Jl hll,Option.bind_some,zo (fun _=>⟨by omega,by omega,by omega⟩)]
 have hseg:seg d.Edges 0 (i:Int)=d.Edges.take i:=by simp[seg]
 rw[hseg,zlE (d.Edges.take i) (fun x0=>zct x0 d.Edges[i]) (fun m=>decide (m.Id=d.Edges[i].Id)) (by simp;omega) (fun x _=>rfl)]
 have htw:(decide (0≤yn d.Nodes d.Edges[i].Id) || (d.Edges.take i).any (fun m=>decide (m.Id=d.Edges[i].Id)))=decide (d.Edges[i].Id∈d.Nodes.map (·.Id)++(d.Edges.take i).map (·.Id)):=by
  rw[Bool.eq_iff_iff,Bool.or_eq_true,List.any_eq_true,decide_eq_true_eq,decide_eq_true_eq,List.mem_append,List.mem_map,List.mem_map]
  refine or_congr ?_ (by simp)
  constructor
  ·
   intro h
   obtain⟨h1,h2⟩:=zdW (l:=d.Nodes) (id:=d.Edges[i].Id) (by omega)
   exact⟨_,qQ h1,h2⟩
  ·
   rintro⟨n,hn,e⟩
   have:=(JI ⟨n,hn,e⟩).1.1
   exact this
 have hgd:∀{k:Bool→Option Int},(Option.bind (gd (!(decide (0≤yn d.Nodes d.Edges[i].Id))) (some ((d.Edges.take i).any (fun m=>decide (m.Id=d.Edges[i].Id))))) fun r2=>k (decide (0≤yn d.Nodes d.Edges[i].Id) || r2))=k (decide (d.Edges[i].Id∈d.Nodes.map (·.Id)++(d.Edges.take i).map (·.Id))):=fun {k}=>by
  rw[←htw]
  cases decide (0≤yn d.Nodes d.Edges[i].Id)<;>simp[gd]
 rw[hgd (k:=fun tw=>Option.bind (Y2 d.Edges[i].Id) fun r3=>Option.bind (qH (!r3) 5) fun r4=>Option.bind (qH tw 6) fun r5=>Option.bind (q5 [r4,r5]) fun e1=>
  bif !decide (e1=0)then some e1 else bnd [d.Edges[i].From,d.Edges[i].To] fun v2=>yg (ya (v2.length:Int) (zet d v2) (fun s=>Res.nx s) ()) fun j_12=>
   bif decide (50<(d.Edges[i].Bends.length:Int))then some 4 else Option.bind (zaW d.Edges[i].Bends) fun r8=>Option.bind (JR d.Edges[i].Text) fun r9=>Option.bind (JT d.Edges[i].Class) fun r10=>Option.bind (q5 [r8,r9,r10]) fun r11=>some r11)]
 generalize decide (d.Edges[i].Id∈d.Nodes.map (·.Id)++(d.Edges.take i).map (·.Id))=tw
 generalize d.Edges[i]=x at *
 simp only[zfc f1,Option.bind_some,jD]
 rw[Qa (by simp),Option.bind_some]
 have eR:qU d.Nodes x tw=if qm x.Id=true then(if tw=true then 6 else zP [qv d.Nodes x.From,qv d.Nodes x.To,if 50<x.Bends.length then 4 else 0,qB x.Bends,qI x.Text,jQ x.Class])else 5:=by
  unfold qU
  rw[zdo (by decide),zbO (by decide)]
 rw[eR]
 cases qm x.Id with
 | false=>rfl
 | true=>
  cases tw with
  | true=>rfl
  | false=>
   have e0:zP [if(!true)=true then(5:Int)else 0,if false=true then(6:Int)else 0]=0:=by simp
   rw[e0]
   simp only[decide_true,Bool.not_true,cond_false,if_true,Bool.false_eq_true,if_false,zG]
   rw[jp (qv d.Nodes) (fun e=>(Res.ab e:Res Unit Int)) (by simp) (fun i hi=>by
    unfold zet
    rw[zo hi,zG,Jl hll,Option.bind_some]
    generalize gx [x.From,x.To] i=y
    unfold qv
    by_cases h:yn d.Nodes y.Node<0
    ·
     rw[if_pos h,decide_eq_true h];rfl
    ·
     rw[if_neg h,decide_eq_false h,cond_false,zo (zdW h).1,jD,Option.bind_some,zl0,Option.bind_some,Qa (by simp),Option.bind_some]
     by_cases h6:(gx d.Nodes (yn d.Nodes y.Node)).Kind=6
     ·
      simp[h6]
     ·
      by_cases hs:(1≤y.Side∧y.Side≤4)∧0≤y.At∧y.At≤1000
      ·
       simp[h6,hs]
      ·
       simp only[if_neg h6,if_neg hs,decide_eq_false h6];simp)]
   rw[show [qv d.Nodes x.From,qv d.Nodes x.To,if 50<x.Bends.length then(4:Int)else 0,qB x.Bends,qI x.Text,jQ x.Class]=[x.From,x.To].map (qv d.Nodes)++[if 50<x.Bends.length then(4:Int)else 0,qB x.Bends,qI x.Text,jQ x.Class]from rfl,zdn]
   by_cases hE:zP ([x.From,x.To].map (qv d.Nodes))=0
   case neg=>rw[if_neg hE,if_neg hE];rfl
   rw[if_pos hE,if_pos hE,qd,zbO (by decide)]
   by_cases h50:50<x.Bends.length
   ·
    rw[if_pos h50,decide_eq_true (by omega)];rfl
   rw[if_neg h50,decide_eq_false (by omega),cond_false,zlY,Option.bind_some,zhU f2,Option.bind_some,zib f3,Option.bind_some,Qa (by simp),Option.bind_some]
def knM (l:List Str):GMap Str Bool:=⟨fun id=>if id∈l then some true else none⟩
theorem zb1 {l:List Str}{x:Str}:(knM l).set x true=knM (l++[x]):=by
 unfold knM GMap.set
 congr 1
 funext id
 by_cases h:id=x
 ·
  simp[h]
 ·
  simp[h]
theorem zb0 {l:List Str}{x:Str}:(knM l).getD x false=decide (x∈l):=by
 unfold knM GMap.getD
 by_cases h:x∈l<;>simp[h]
structure vF (d:Doc):Prop where
 nl:d.Nodes.length≤500
 el:d.Edges.length≤1000
 node:∀(i:Nat) (h:i<d.Nodes.length),vL d.Nodes[i] (decide (d.Nodes[i].Id∈(d.Nodes.take i).map (·.Id)))=0
 tree:∀n∈d.Nodes,n.Parent≠Str.nil→∃g∈d.Nodes,g.Id=n.Parent∧(par d.Nodes n).Kind=6
 zZ:∀n∈d.Nodes,∃k,k≤8∧Dp d.Nodes n k
 full:∀n∈d.Nodes,n.Kind=6→qr d.Nodes n.Id≠[]
 edge:∀(i:Nat) (h:i<d.Edges.length),qU d.Nodes d.Edges[i] (decide (d.Edges[i].Id∈d.Nodes.map (·.Id)++(d.Edges.take i).map (·.Id)))=0
 box:∀(i:Nat) (h:i<d.Nodes.length),∃b,YU (yp d) (i:Int)=some (b,0)∧zcf d d.Nodes[i].Id=some (b,0)∧okB b
theorem zdY {n:zm}{tw:Bool}(h:vL n tw=0):qm n.Id=true∧tw=false∧(1≤n.Kind∧n.Kind≤6)∧(n.Kind≠6→okB n.Box):=by
 have:=qi.1 h
 have h1:=this (if qm n.Id=true then 0 else 5) (by simp)
 have h2:=this (if tw=true then 6 else 0) (by simp)
 have h3:=this (if 1≤n.Kind∧n.Kind≤6 then 0 else 1) (by simp)
 have h4:=this (if n.Kind=6 then(if n.Box=qK then 0 else 2)else ql n.Box) (by simp)
 refine⟨?_,?_,?_,fun hk=>?_⟩
 ·
  apply Classical.byContradiction;intro hc;rw[if_neg hc]at h1;cases h1
 ·
  cases tw with
  | false=>rfl
  | true=>simp at h2
 ·
  apply Classical.byContradiction;intro hc;rw[if_neg hc]at h3;cases h3
 ·
  rw[if_neg hk]at h4;exact zao.1 h4
theorem zjI:∀{l:List zm},(∀(i:Nat) (h:i<l.length),l[i].Id∉(l.take i).map (·.Id))→(l.map (·.Id)).Nodup:=fun {l} h=>by
 rw[List.nodup_iff_pairwise_ne,List.pairwise_iff_getElem]
 intro i j hi hj hij e
 simp only[List.length_map]at hi hj
 simp only[List.getElem_map]at e
 refine h j hj (List.mem_map.2 ⟨l[i],?_,e⟩)
 have:l[i]=(l.take j)[i]'(by simp;omega):=by simp
 rw[this];exact List.getElem_mem _
theorem zlB {d:Doc}(hf:zT d):∃e,vO d=some e∧zch d=some e∧(e=0→vF d):=by
 have hfn:∀n∈d.Nodes,zT n.Id∧zT n.Text∧zT n.Class:=fun n hn=>by
  have:=hf.1.2 n hn
  exact⟨this.1,this.2.2.2.1,this.2.2.2.2.1⟩
 have hfe:∀x∈d.Edges,zT x.Id∧zT x.Text∧zT x.Class:=fun x hx=>by
  have:=hf.2.2 x hx
  exact⟨this.1,this.2.2.2.2.1,this.2.2.2.2.2⟩
 unfold vO zch
 by_cases hsz:500<d.Nodes.length∨1000<d.Edges.length
 ·
  have:(decide (500<(d.Nodes.length:Int)) || decide (1000<(d.Edges.length:Int)))=true:=by simp;omega
  rw[this]
  exact⟨4,rfl,rfl,fun h=>by cases h⟩
 have hl:d.Nodes.length≤500:=by omega
 have hel:d.Edges.length≤1000:=by omega
 have:(decide (500<(d.Nodes.length:Int)) || decide (1000<(d.Edges.length:Int)))=false:=by simp;omega
 rw[this,cond_false,cond_false,zG]
 let nE:Nat→Int:=fun i=>vL (gx d.Nodes (i:Int)) (decide ((gx d.Nodes (i:Int)).Id∈(d.Nodes.take i).map (·.Id)))
 have k0:(GMap.nil:GMap Str Bool)=knM ((d.Nodes.take 0).map (·.Id)):=by simp[knM,GMap.nil]
 rw[k0]
 have p1:=vx (n:=d.Nodes.length) (step:=YT d) (fin:=fun s=>(Res.nx s:Res (GMap Str Bool) Int)) (fun k=>knM ((d.Nodes.take k).map (·.Id))) nE (fun e=>Res.ab e) (by omega) (fun i hi _=>by
  unfold YT
  rw[zo ⟨by omega,by omega⟩,zG,zb0,zfu,Option.bind_some]
  show(bif !decide (nE i=0)then _ else _)=_
  by_cases h:nE i=0
  ·
   rw[decide_eq_true h,if_pos h,zb1,List.take_succ_eq_append_getElem hi,List.map_append,zS hi];rfl
  ·
   rw[decide_eq_false h,if_neg h];rfl)
 have q1:=vx (n:=d.Nodes.length) (step:=zef d) (fin:=fun s=>(Res.nx s:Res Unit Int)) (fun _=>()) nE (fun e=>Res.ab e) (by omega) (fun i hi _=>by
  unfold zef
  rw[zo0 hl hfn hi,Option.bind_some,←zS hi]
  show(bif !decide (nE i=0)then some (Res.ab (Res.ab (nE i)))else _)=_
  by_cases h:nE i=0
  ·
   rw[decide_eq_true h,if_pos h];rfl
  ·
   rw[decide_eq_false h,if_neg h];rfl)
 rw[p1,q1]
 by_cases h1:zP ((List.range d.Nodes.length).map nE)=0
 case neg=>rw[if_neg h1,if_neg h1];exact⟨_,rfl,rfl,fun h=>absurd h h1⟩
 rw[if_pos h1,if_pos h1,qd,qd,List.take_length]
 have hnode:∀(i:Nat) (h:i<d.Nodes.length),vL d.Nodes[i] (decide (d.Nodes[i].Id∈(d.Nodes.take i).map (·.Id)))=0:=fun i h=>by
  have:=qi.1 h1 (nE i) (List.mem_map.2 ⟨i,by simpa using h,rfl⟩)
  rw[←zS h];exact this
 have hd:(d.Nodes.map (·.Id)).Nodup:=zjI fun i h=>by
  have:=(zdY (hnode i h)).2.1
  exact of_decide_eq_false this
 have hat:∀n∈d.Nodes,qm n.Id=true∧(n.Kind≠6→okB n.Box):=fun n hn=>by
  obtain⟨i,hi,rfl⟩:=List.mem_iff_getElem.1 hn
  have:=zdY (hnode i hi)
  exact⟨this.1,this.2.2.2⟩
 have hid:∀n∈d.Nodes,n.Id≠Str.nil:=fun n hn=>zjB (hat n hn).1
 have hbx:∀n∈d.Nodes,n.Kind≠6→okB n.Box:=fun n hn=>(hat n hn).2
 rw[zhD hl hd,Option.bind_some,Option.bind_some]
 obtain⟨e,t1,t2,t3⟩:=zlb hl hid
 rw[t1,t2,Option.bind_some,Option.bind_some]
 by_cases he:e=0
 case neg=>rw[decide_eq_false he];exact⟨e,rfl,rfl,fun h=>absurd h he⟩
 rw[decide_eq_true he,Bool.not_true,cond_false,cond_false]
 obtain⟨htree,hdeep,hfull⟩:=t3 he
 have hdp:∀n∈d.Nodes,∃k,k≤8∧Dp d.Nodes n k:=fun n hn=>by
  obtain⟨k,a,b,c⟩:=hdeep n hn
  exact⟨k,a,b,c⟩
 let eE:Nat→Int:=fun i=>qU d.Nodes (gx d.Edges (i:Int)) (decide ((gx d.Edges (i:Int)).Id∈d.Nodes.map (·.Id)++(d.Edges.take i).map (·.Id)))
 have k1:knM (d.Nodes.map (·.Id))=knM (d.Nodes.map (·.Id)++(d.Edges.take 0).map (·.Id)):=by simp
 rw[k1]
 have p2:=vx (n:=d.Edges.length) (step:=zaL d (yp d)) (fin:=fun s=>(Res.nx s:Res (GMap Str Bool) Int)) (fun k=>knM (d.Nodes.map (·.Id)++(d.Edges.take k).map (·.Id))) eE (fun e=>Res.ab e) (by omega) (fun i hi _=>by
  unfold zaL
  rw[zo ⟨by omega,by omega⟩,zG,zb0,zh9,Option.bind_some]
  show(bif !decide (eE i=0)then _ else _)=_
  by_cases h:eE i=0
  ·
   rw[decide_eq_true h,if_pos h,zb1,List.take_succ_eq_append_getElem hi,List.map_append,zS hi,List.append_assoc];rfl
  ·
   rw[decide_eq_false h,if_neg h];rfl)
 have q2:=vx (n:=d.Edges.length) (step:=zeg d) (fin:=fun s=>(Res.nx s:Res Unit Int)) (fun _=>()) eE (fun e=>Res.ab e) (by omega) (fun i hi _=>by
  unfold zeg
  rw[zmP hl hel hfe hi,Option.bind_some,←zS hi]
  show(bif !decide (eE i=0)then some (Res.ab (Res.ab (eE i)))else _)=_
  by_cases h:eE i=0
  ·
   rw[decide_eq_true h,if_pos h];rfl
  ·
   rw[decide_eq_false h,if_neg h];rfl)
 rw[p2,q2]
 by_cases h2:zP ((List.range d.Edges.length).map eE)=0
 case neg=>rw[if_neg h2,if_neg h2];exact⟨_,rfl,rfl,fun h=>absurd h h2⟩
 rw[if_pos h2,if_pos h2,qd,qd]
 have hbox:∀i:Nat,∃x:(Box×Int)×Box,i<d.Nodes.length→YU (yp d) (i:Int)=some x.1∧zcf d (gx d.Nodes (i:Int)).Id=some (x.2,x.1.2)∧(x.1.2=0→x.1.1=x.2∧okB x.2):=fun i=>by
  by_cases hi:i<d.Nodes.length
  ·
   obtain⟨b,e,b',g1,g2,g3⟩:=zms hl hd hid hbx hdp hi
   exact⟨((b,e),b'),fun _=>⟨g1,by rw[zS hi];exact g2,g3⟩⟩
  ·
   exact⟨((qK,0),qK),fun h=>absurd h hi⟩
 let bE:Nat→Int:=fun i=>(hbox i).choose.1.2
 have p3:=vx (n:=d.Nodes.length) (step:=zaM (yp d)) (fin:=fun s=>(Res.nx s:Res Unit Int)) (fun _=>()) bE (fun e=>Res.ab e) (by omega) (fun i hi _=>by
  unfold zaM
  rw[((hbox i).choose_spec hi).1,Option.bind_some]
  show(bif !decide (bE i=0)then some (Res.ab (Res.ab (bE i)))else _)=_
  by_cases h:bE i=0
  ·
   rw[decide_eq_true h,if_pos h];rfl
  ·
   rw[decide_eq_false h,if_neg h];rfl)
 have q3:=vx (n:=d.Nodes.length) (step:=zeh d) (fin:=fun s=>(Res.nx s:Res Unit Int)) (fun _=>()) bE (fun e=>Res.ab e) (by omega) (fun i hi _=>by
  unfold zeh
  rw[zo ⟨by omega,by omega⟩,zG,((hbox i).choose_spec hi).2.1,Option.bind_some]
  show(bif !decide (bE i=0)then some (Res.ab (Res.ab (bE i)))else _)=_
  by_cases h:bE i=0
  ·
   rw[decide_eq_true h,if_pos h];rfl
  ·
   rw[decide_eq_false h,if_neg h];rfl)
 rw[p3,q3]
 by_cases h3:zP ((List.range d.Nodes.length).map bE)=0
 case neg=>rw[if_neg h3];exact⟨_,rfl,rfl,fun h=>absurd h h3⟩
 rw[if_pos h3]
 refine⟨0,rfl,rfl,fun _=>⟨hl,hel,hnode,htree,hdp,hfull,fun i h=>?_,fun i h=>?_⟩⟩
 ·
  have:=qi.1 h2 (eE i) (List.mem_map.2 ⟨i,by simpa using h,rfl⟩)
  rw[←zS h];exact this
 ·
  have hz:=qi.1 h3 (bE i) (List.mem_map.2 ⟨i,by simpa using h,rfl⟩)
  obtain⟨g1,g2,g3⟩:=(hbox i).choose_spec h
  have hz':(hbox i).choose.1.2=0:=hz
  generalize (hbox i).choose=x at *
  obtain⟨⟨b,e⟩,b'⟩:=x
  simp only at hz' g1 g2 g3
  subst hz'
  obtain⟨rfl,g4⟩:=g3 rfl
  rw[zS h]at g2
  exact⟨b,g1,g2,g4⟩
theorem jG {a b A B:Int}(a0:0≤a)(a1:a≤A)(b0:0≤b)(b1:b≤B):0≤a*b∧a*b≤A*B:=
 ⟨Int.mul_nonneg a0 b0,Int.le_trans (Int.mul_le_mul_of_nonneg_right a1 b0) (Int.mul_le_mul_of_nonneg_left b1 (by omega))⟩
theorem sqb {u A:Int}(h1: -A≤u)(h2:u≤A):0≤u*u∧u*u≤A*A:=by
 by_cases h:0≤u
 ·
  exact jG h h2 h h2
 ·
  have:=jG (a:= -u) (b:= -u) (A:=A) (B:=A) (by omega) (by omega) (by omega) (by omega)
  rwa [Int.neg_mul_neg]at this
def zeQ (n l:Int):Int:=if n<l then 1 else if n=l then 0 else -1
theorem zhu (n l:Int):Jd n l=some (zeQ n l):=by
 unfold Jd zeQ
 by_cases h:n<l
 ·
  simp[h]
 ·
  by_cases h2:n=l<;>simp[h,h2]
theorem zgd {n l:Int}(h1: -4000000000000000000≤n)(h2:n≤4000000000000000000)(h3: -4000000000000000000≤l)(h4:l≤4000000000000000000):QQ n l=some (zeQ n l):=by
 unfold QQ
 rw[Wk (by omega) (by omega),zhS]
 simp only[zq]
 congr 1
 unfold zeQ
 by_cases h:n<l
 ·
  rw[if_pos h];omega
 ·
  by_cases h2:n=l
  ·
   rw[if_neg h,if_pos h2];omega
  ·
   rw[if_neg h,if_neg h2];omega
theorem zn2 {k:Int}{b:Box}{p:zd}(hb:okB b)(p1: -3000000≤p.X)(p2:p.X≤3000000)(p3: -3000000≤p.Y)(p4:p.Y≤3000000):∃r,zbg k b p=some r∧Yx k b p=some r:=by
 unfold okB at hb
 unfold zbg Yx zbh
 simp only[zG]
 rw[Wk (n:=p.X - b.X) (by omega) (by omega),Wk (n:=p.Y - b.Y) (by omega) (by omega)]
 generalize hx:p.X - b.X=x
 generalize hy:p.Y - b.Y=y
 rw[Wk (n:=2*x) (by omega) (by omega),Wk (n:=2*y) (by omega) (by omega),Wk (n:=2*x - b.W_) (by omega) (by omega),Wk (n:=2*y - b.H) (by omega) (by omega)]
 rw[zbt (n:=2*x - b.W_) (by omega) (by omega),zbt (n:=2*y - b.H) (by omega) (by omega)]
 generalize hw:b.W_=w at *
 generalize hh:b.H=h at *
 generalize hu:2*x - w=u
 generalize hv:2*y - h=v
 by_cases c1:x<0∨w<x∨y<0∨h<y
 ·
  have e1:(((decide (x<0) || decide (w<x)) || decide (y<0)) || decide (h<y))=true:=by simp;omega
  simp only[e1,cond_true]
  refine⟨_,rfl,?_⟩
  simp only[zq]
  by_cases c2:w<max u (-u)
  ·
   have:decide (w<max u (-u))=true:=by simpa using c2
   simp only[this,Bool.not_true,Jz,zq,Bool.true_or,cond_true]
  ·
   have:decide (w<max u (-u))=false:=by simpa using c2
   have c3:decide (h<max v (-v))=true:=by simp;omega
   simp only[this,Bool.not_false,qC,zq,Bool.false_or,c3,cond_true]
 ·
  have e1:(((decide (x<0) || decide (w<x)) || decide (y<0)) || decide (h<y))=false:=by simp;omega
  have e2:decide (w<max u (-u))=false:=by simp;omega
  have e3:decide (h<max v (-v))=false:=by simp;omega
  have hu1: -20000≤u∧u≤20000:=by omega
  have hv1: -20000≤v∧v≤20000:=by omega
  simp only[e1,e2,e3,cond_false,zq,Bool.not_false,qC,Bool.or_self]
  have hflat:(bif(((decide (x=0) || decide (x=w)) || decide (y=0)) || decide (y=h))then some (0:Int)else some 1)=some (if(x=0∨x=w)∨y=0∨y=h then 0 else 1):=by
   by_cases c:(x=0∨x=w)∨y=0∨y=h
   ·
    have:(((decide (x=0) || decide (x=w)) || decide (y=0)) || decide (y=h))=true:=by simp;omega
    rw[this,if_pos c];rfl
   ·
    have:(((decide (x=0) || decide (x=w)) || decide (y=0)) || decide (y=h))=false:=by simp;omega
    rw[this,if_neg c];rfl
  have hflat2:(Option.bind (gd (!(decide (max u (-u)=w))) (some (max v (-v)))) fun r4=>Option.bind (bif(decide (max u (-u)=w) || decide (r4=h))then some (0:Int)else some 1) fun j=>some j)=some (if(x=0∨x=w)∨y=0∨y=h then 0 else 1):=by
   by_cases c:max u (-u)=w
   ·
    have:decide (max u (-u)=w)=true:=by simpa using c
    have c':(x=0∨x=w)∨y=0∨y=h:=by omega
    simp only[this,Bool.not_true,Jz,zq,Bool.true_or,cond_true,if_pos c']
   ·
    have:decide (max u (-u)=w)=false:=by simpa using c
    simp only[this,Bool.not_false,qC,zq,Bool.false_or]
    by_cases c2:max v (-v)=h
    ·
     have e:decide (max v (-v)=h)=true:=by simpa using c2
     have c':(x=0∨x=w)∨y=0∨y=h:=by omega
     simp only[e,cond_true,zq,if_pos c']
    ·
     have e:decide (max v (-v)=h)=false:=by simpa using c2
     have c':¬((x=0∨x=w)∨y=0∨y=h):=by omega
     simp only[e,cond_false,zq,if_neg c']
  rw[hflat]
  generalize (if(x=0∨x=w)∨y=0∨y=h then(0:Int)else 1)=fl at *
  have hbind:∀(K:Int→Option Int),(Option.bind (gd (!(decide (max u (-u)=w))) (some (max v (-v)))) fun r4=>Option.bind (bif(decide (max u (-u)=w) || decide (r4=h))then some (0:Int)else some 1) K)=K fl:=by
   intro K
   cases h1:gd (!(decide (max u (-u)=w))) (some (max v (-v)))with
   | none=>rw[h1]at hflat2;cases hflat2
   | some r4=>
    rw[h1]at hflat2
    simp only[zq]at hflat2⊢
    cases h2:(bif(decide (max u (-u)=w) || decide (r4=h))then some (0:Int)else some 1)with
    | none=>rw[h2]at hflat2;cases hflat2
    | some j=>rw[h2]at hflat2;simp only[zq,Option.some.injEq]at hflat2⊢;rw[hflat2]
  rw[hbind]
  simp only[zq]
  by_cases k3:k=3
  ·
   simp only[k3,decide_true,cond_true]
   have b1:=sqb hu1.1 hu1.2
   have b2:=sqb hv1.1 hv1.2
   have b3:=jG b1.1 b1.2 (show 0≤h by omega) (show h≤20000 by omega)
   have b4:=jG b3.1 b3.2 (show 0≤h by omega) (show h≤20000 by omega)
   have b5:=jG b2.1 b2.2 (show 0≤w by omega) (show w≤20000 by omega)
   have b6:=jG b5.1 b5.2 (show 0≤w by omega) (show w≤20000 by omega)
   have b7:=jG (show 0≤w by omega) (show w≤20000 by omega) (show 0≤w by omega) (show w≤20000 by omega)
   have b8:=jG b7.1 b7.2 (show 0≤h by omega) (show h≤20000 by omega)
   have b9:=jG b8.1 b8.2 (show 0≤h by omega) (show h≤20000 by omega)
   rw[Wk (n:=u*u) (by omega) (by omega),Wk (n:=u*u*h) (by omega) (by omega),Wk (n:=u*u*h*h) (by omega) (by omega),Wk (n:=v*v) (by omega) (by omega),Wk (n:=v*v*w) (by omega) (by omega),Wk (n:=v*v*w*w) (by omega) (by omega),
    Wk (n:=w*w) (by omega) (by omega),Wk (n:=w*w*h) (by omega) (by omega),Wk (n:=w*w*h*h) (by omega) (by omega),Wk (n:=u*u*h*h+v*v*w*w) (by omega) (by omega)]
   rw[zhu,zgd (by omega) (by omega) (by omega) (by omega)]
   exact⟨_,rfl,rfl⟩
  ·
   have d3:decide (k=3)=false:=by simpa using k3
   simp only[d3,cond_false]
   by_cases k4:k=4
   ·
    simp only[k4,decide_true,cond_true]
    rw[Wk (n:= -u) (by omega) (by omega),Wk (n:= -v) (by omega) (by omega)]
    have b1:=jG (a:=max u (-u)) (A:=20000) (by omega) (by omega) (show 0≤h by omega) (show h≤20000 by omega)
    have b2:=jG (a:=max v (-v)) (A:=20000) (by omega) (by omega) (show 0≤w by omega) (show w≤20000 by omega)
    have b3:=jG (show 0≤w by omega) (show w≤20000 by omega) (show 0≤h by omega) (show h≤20000 by omega)
    rw[Wk (n:=max u (-u)*h) (by omega) (by omega),Wk (n:=max v (-v)*w) (by omega) (by omega),Wk (n:=w*h) (by omega) (by omega),Wk (n:=max u (-u)*h+max v (-v)*w) (by omega) (by omega)]
    rw[zhu,zgd (by omega) (by omega) (by omega) (by omega)]
    exact⟨_,rfl,rfl⟩
   ·
    have d4:decide (k=4)=false:=by simpa using k4
    simp only[d4,cond_false]
    by_cases k2:k=2
    ·
     simp only[k2,decide_true,cond_true]
     have hround:∀u v w h:Int, -20000≤u→u≤20000→ -20000≤v→v≤20000→1≤w→w≤20000→1≤h→h≤20000→
       (Option.bind (some (max u (W (-u)))) fun r5=>Option.bind (Jd (W (W ((max (W (r5 - W (w - h))) 0)*(max (W (r5 - W (w - h))) 0))+W (v*v))) (W (h*h))) fun r6=>some (Res.ab r6:Res Unit Int)) =
       (Option.bind (jX u) fun r9=>Option.bind (QQ (W (W ((max (W (r9 - W (w - h))) 0)*(max (W (r9 - W (w - h))) 0))+W (v*v))) (W (h*h))) fun r10=>some (Res.ab r10:Res Unit Int))∧
       ∃r,(Option.bind (jX u) fun r9=>Option.bind (QQ (W (W ((max (W (r9 - W (w - h))) 0)*(max (W (r9 - W (w - h))) 0))+W (v*v))) (W (h*h))) fun r10=>some (Res.ab r10:Res Unit Int))=some (Res.ab r):=by
      intro u v w h u1 u2 v1 v2 w1 w2 h1 h2
      rw[zbt (by omega) (by omega),Wk (n:= -u) (by omega) (by omega)]
      simp only[zq]
      rw[Wk (n:=w - h) (by omega) (by omega),Wk (n:=max u (-u) - (w - h)) (by omega) (by omega)]
      have b1:=jG (a:=max (max u (-u) - (w - h)) 0) (b:=max (max u (-u) - (w - h)) 0) (A:=40000) (B:=40000) (by omega) (by omega) (by omega) (by omega)
      have b2:=sqb v1 v2
      have b3:=jG (show 0≤h by omega) h2 (show 0≤h by omega) h2
      rw[Wk (n:=max (max u (-u) - (w - h)) 0*max (max u (-u) - (w - h)) 0) (by omega) (by omega),Wk (n:=v*v) (by omega) (by omega),Wk (n:=h*h) (by omega) (by omega),Wk (by omega) (by omega)]
      rw[zhu,zgd (by omega) (by omega) (by omega) (by omega)]
      exact⟨rfl,_,rfl⟩
     by_cases cw:w<h
     ·
      have dw:decide (w<h)=true:=by simpa using cw
      simp only[dw,cond_true,zq]
      obtain⟨q1,r,q2⟩:=hround v u h w (by omega) (by omega) (by omega) (by omega) (by omega) (by omega) (by omega) (by omega)
      simp only[zq]at q1
      rw[q1,q2]
      exact⟨r,rfl,rfl⟩
     ·
      have dw:decide (w<h)=false:=by simpa using cw
      simp only[dw,cond_false,zq]
      obtain⟨q1,r,q2⟩:=hround u v w h (by omega) (by omega) (by omega) (by omega) (by omega) (by omega) (by omega) (by omega)
      simp only[zq]at q1
      rw[q1,q2]
      exact⟨r,rfl,rfl⟩
    ·
     have d2:decide (k=2)=false:=by simpa using k2
     simp only[d2,cond_false]
     by_cases k5:k=5
     ·
      simp only[k5,decide_true,cond_true]
      rw[Int.tdiv_eq_ediv_of_nonneg (show 0≤min w h by omega)]
      rw[Wk (n:=x - w) (by omega) (by omega),Wk (n:=x - w+min w h / 4) (by omega) (by omega),Wk (n:=x - w+min w h / 4 - y) (by omega) (by omega)]
      generalize hn:min w h / 4=n
      have hn0:0≤n:=by omega
      by_cases cn:n=0
      ·
       have e1:decide (n=0)=true:=by simpa using cn
       have e2:decide (0<n)=false:=by simp;omega
       simp only[e1,e2,cond_true,Bool.and_false,cond_false,zan,qd]
       exact⟨_,rfl,rfl⟩
      ·
       have e1:decide (n=0)=false:=by simpa using cn
       have e2:decide (0<n)=true:=by simp;omega
       simp only[e1,e2,cond_false,Bool.and_true]
       cases decide (0<x - w+n - y)with
       | true=>exact⟨_,rfl,rfl⟩
       | false=>
        simp only[cond_false]
        cases decide (x - w+n - y=0)with
        | true=>exact⟨_,rfl,rfl⟩
        | false=>exact⟨_,rfl,rfl⟩
     ·
      have d5:decide (k=5)=false:=by simpa using k5
      simp only[d5,cond_false,qd]
      exact⟨_,rfl,rfl⟩
section
def Qy (p:Int→Bool)(lo hi:Int)(o:Option Int):Prop:=match o with
 | some k=>lo≤k∧k≤hi∧p k=true∧∀j,lo≤j→j<k→p j=false
 | none=>∀j,lo≤j→j≤hi→p j=false
def Qx (p:Int→Bool)(lo hi:Int)(o:Option Int):Prop:=match o with
 | some k=>lo≤k∧k≤hi∧p k=true∧∀j,k<j→j≤hi→p j=false
 | none=>∀j,lo≤j→j≤hi→p j=false
theorem Qy.one {p:Int→Bool}{lo hi:Int}{a b:Option Int}(ha:Qy p lo hi a)(hb:Qy p lo hi b):a=b:=by
 cases a with
 | none=>
  cases b with
  | none=>rfl
  | some k=>obtain⟨h1,h2,h3,_⟩:=hb;rw[ha k h1 h2]at h3;cases h3
 | some j=>
  obtain⟨g1,g2,g3,g4⟩:=ha
  cases b with
  | none=>rw[hb j g1 g2]at g3;cases g3
  | some k=>
   obtain⟨h1,h2,h3,h4⟩:=hb
   rcases Int.lt_trichotomy j k with h | h | h
   ·
    rw[h4 j g1 h]at g3;cases g3
   ·
    rw[h]
   ·
    rw[g4 k h1 h]at h3;cases h3
theorem Qx.one {p:Int→Bool}{lo hi:Int}{a b:Option Int}(ha:Qx p lo hi a)(hb:Qx p lo hi b):a=b:=by
 cases a with
 | none=>
  cases b with
  | none=>rfl
  | some k=>obtain⟨h1,h2,h3,_⟩:=hb;rw[ha k h1 h2]at h3;cases h3
 | some j=>
  obtain⟨g1,g2,g3,g4⟩:=ha
  cases b with
  | none=>rw[hb j g1 g2]at g3;cases g3
  | some k=>
   obtain⟨h1,h2,h3,h4⟩:=hb
   rcases Int.lt_trichotomy j k with h | h | h
   ·
    rw[g4 k h h2]at h3;cases h3
   ·
    rw[h]
   ·
    rw[h4 j h g2]at g3;cases g3
def vg:Option Int→Int×Bool
 | some k=>(k,true)
 | none=>(0,false)
theorem zhC {ρ:Type}{p:Int→Bool}{lo hi:Int}{body:Int→Option (zI Int ρ)}(mk:Option Int→ρ)(hlh:lo≤hi)
  (hs:∀n,lo≤n→n≤hi→(p n=true→body n=some (.done (mk (some n))))∧(p n=false→n<hi→body n=some (.again (n+1))))
  (he:p hi=false→body hi=some (.done (mk none))∨(body hi=some (.again (hi+1))∧body (hi+1)=some (.done (mk none)))):∃o,Qy p lo hi o∧loop body lo=some (mk o):=by
 obtain⟨e,h1,o,h2,h3⟩:=ve (body:=body) (s0:=lo) (fun n=>lo≤n∧n≤hi+1∧(n=hi+1→body (hi+1)=some (.done (mk none)))∧∀j,lo≤j→j<n→p j=false) (fun n=>(hi+1 - n).toNat) (fun e=>∃o,Qy p lo hi o∧e=mk o) ⟨by omega,by omega,fun e=>by omega,fun j h1 h2=>by omega⟩ (fun n hI=>by
  obtain⟨i1,i2,i3,i4⟩:=hI
  by_cases c:n=hi+1
  ·
   right
   subst c
   exact⟨_,i3 rfl,none,fun j h1 h2=>i4 j h1 (by omega),rfl⟩
  ·
   obtain⟨h1,h2⟩:=hs n i1 (by omega)
   cases hp:p n with
   | true=>right;exact⟨_,h1 hp,some n,⟨i1,by omega,hp,i4⟩,rfl⟩
   | false=>
    have hall:∀j,lo≤j→j<n+1→p j=false:=fun j j1 j2=>by
     by_cases cj:j<n
     ·
      exact i4 j j1 cj
     ·
      have:j=n:=by omega
      rw[this,hp]
    by_cases c2:n=hi
    ·
     subst c2
     rcases he hp with q | ⟨q1,q2⟩
     ·
      right;exact⟨_,q,none,fun j j1 j2=>hall j j1 (by omega),rfl⟩
     ·
      left;exact⟨_,q1,⟨by omega,by omega,fun _=>q2,hall⟩,by omega⟩
    ·
     left;exact⟨_,h2 hp (by omega),⟨by omega,by omega,fun e=>by omega,hall⟩,by omega⟩)
 exact⟨o,h2,by rw[h1,h3]⟩
theorem zfB {ρ:Type}{p:Int→Bool}{lo hi:Int}{body:Int→Option (zI Int ρ)}(mk:Option Int→ρ)(hlh:lo≤hi)
  (hs:∀n,lo≤n→n≤hi→(p n=true→body n=some (.done (mk (some n))))∧(p n=false→lo<n→body n=some (.again (n - 1))))
  (he:p lo=false→body lo=some (.done (mk none))∨(body lo=some (.again (lo - 1))∧body (lo - 1)=some (.done (mk none)))):∃o,Qx p lo hi o∧loop body hi=some (mk o):=by
 obtain⟨e,h1,o,h2,h3⟩:=ve (body:=body) (s0:=hi) (fun n=>lo - 1≤n∧n≤hi∧(n=lo - 1→body (lo - 1)=some (.done (mk none)))∧∀j,n<j→j≤hi→p j=false) (fun n=>(n - lo+1).toNat) (fun e=>∃o,Qx p lo hi o∧e=mk o) ⟨by omega,by omega,fun e=>by omega,fun j h1 h2=>by omega⟩ (fun n hI=>by
  obtain⟨i1,i2,i3,i4⟩:=hI
  by_cases c:n=lo - 1
  ·
   right
   subst c
   exact⟨_,i3 rfl,none,fun j h1 h2=>i4 j (by omega) h2,rfl⟩
  ·
   obtain⟨h1,h2⟩:=hs n (by omega) i2
   cases hp:p n with
   | true=>right;exact⟨_,h1 hp,some n,⟨by omega,i2,hp,i4⟩,rfl⟩
   | false=>
    have hall:∀j,n - 1<j→j≤hi→p j=false:=fun j j1 j2=>by
     by_cases cj:n<j
     ·
      exact i4 j cj j2
     ·
      have:j=n:=by omega
      rw[this,hp]
    by_cases c2:n=lo
    ·
     subst c2
     rcases he hp with q | ⟨q1,q2⟩
     ·
      right;exact⟨_,q,none,fun j j1 j2=>hall j (by omega) j2,rfl⟩
     ·
      left;exact⟨_,q1,⟨by omega,by omega,fun _=>q2,hall⟩,by omega⟩
    ·
     left;exact⟨_,h2 hp (by omega),⟨by omega,by omega,fun e=>by omega,hall⟩,by omega⟩)
 exact⟨o,h2,by rw[h1,h3]⟩
theorem zin {p:Int→Bool}{f:Int→Option Bool}{lo hi:Int}(hlh:lo<hi)(b1: -4000000≤lo)(b2:hi≤4000000)(hf:∀n,lo≤n→n≤hi→f n=some (p n)):∃o,Qy p lo hi o∧Jc lo hi f=some (vg o):=by
 unfold Jc
 have e1:decide (hi<lo)=false:=by simp;omega
 simp only[e1,cond_false,zq]
 have body:∀n,lo≤n→n≤hi→zbf 1 hi f n=some (if p n=true then .done (n,true)else if n=hi then .done (0,false)else .again (n+1)):=fun n h1 h2=>by
  unfold zbf
  rw[hf n h1 h2]
  simp only[zq]
  cases p n with
  | true=>simp
  | false=>
   by_cases c:n=hi
   ·
    simp[c]
   ·
    rw[Wk (by omega) (by omega)];simp[c,zG]
 refine zhC (p:=p) vg (Int.le_of_lt hlh) (fun n h1 h2=>⟨fun hp=>?_,fun hp hn=>?_⟩) (fun hp=>.inl ?_)
 ·
  rw[body n h1 h2,if_pos hp];rfl
 ·
  rw[body n h1 h2,hp];simp;omega
 ·
  rw[body hi (by omega) (Int.le_refl _),hp];simp[vg]
theorem zim {p:Int→Bool}{f:Int→Option Bool}{lo hi:Int}(hlh:lo<hi)(b1: -4000000≤lo)(b2:hi≤4000000)(hf:∀n,lo≤n→n≤hi→f n=some (p n)):∃o,Qx p lo hi o∧Jc hi lo f=some (vg o):=by
 unfold Jc
 have e1:decide (lo<hi)=true:=by simpa using hlh
 simp only[e1,cond_true,zq]
 have body:∀n,lo≤n→n≤hi→zbf (-1) lo f n=some (if p n=true then .done (n,true)else if n=lo then .done (0,false)else .again (n - 1)):=fun n h1 h2=>by
  unfold zbf
  rw[hf n h1 h2]
  simp only[zq]
  cases p n with
  | true=>simp
  | false=>
   by_cases c:n=lo
   ·
    simp[c]
   ·
    rw[Wk (by omega) (by omega)];simp[c,zG];omega
 refine zfB (p:=p) vg (Int.le_of_lt hlh) (fun n h1 h2=>⟨fun hp=>?_,fun hp hn=>?_⟩) (fun hp=>.inl ?_)
 ·
  rw[body n h1 h2,if_pos hp];rfl
 ·
  rw[body n h1 h2,hp];simp;omega
 ·
  rw[body lo (Int.le_refl _) (by omega),hp];simp[vg]
noncomputable def inS (k:Int)(b:Box)(p:zd):Bool:=match zbg k b p with
 | some r=>decide (0≤r)
 | none=>false
section
variable {k:Int} {b:Box}
theorem zaD (hb:okB b){p:zd}(p1: -3000000≤p.X)(p2:p.X≤3000000)(p3: -3000000≤p.Y)(p4:p.Y≤3000000):vz p k b=some (inS k b p)∧∃r,Yx k b p=some r∧decide (0≤r)=inS k b p:=by
 obtain⟨r,h1,h2⟩:=zn2 (k:=k) hb p1 p2 p3 p4
 unfold vz inS
 rw[h1]
 exact⟨rfl,r,h2,rfl⟩
def YW (mk:Int→zd):Option Int→Res Unit zd
 | some k=>.ab (mk k)
 | none=>.nx ()
theorem zlM (hb:okB b){x:Int}(x1: -3000000≤x)(x2:x≤3000000):∃o,Qy (fun n=>inS k b ⟨x,n⟩) b.Y (b.Y+b.H) o∧loop (zaX b x k) b.Y=some (YW (fun n=>⟨x,n⟩) o):=by
 have hb':=hb
 unfold okB at hb'
 have body:∀n,b.Y≤n→n≤b.Y+b.H→zaX b x k n=some (if inS k b ⟨x,n⟩=true then .done (.ab ⟨x,n⟩)else .again (n+1)):=fun n h1 h2=>by
  unfold zaX
  rw[Wk (n:=b.Y+b.H) (by omega) (by omega),Wk (n:=n+1) (by omega) (by omega)]
  have e1:decide (n≤b.Y+b.H)=true:=by simpa using h2
  obtain⟨_,r,q1,q2⟩:=zaD (k:=k) hb (p:=⟨x,n⟩) x1 x2 (by simp only;omega) (by simp only;omega)
  simp only[e1,cond_true,zG,q1,zq,q2]
  cases inS k b ⟨x,n⟩<;>simp
 refine zhC (p:=fun n=>inS k b ⟨x,n⟩) (YW (fun n=>⟨x,n⟩)) (by omega) (fun n h1 h2=>⟨fun hp=>?_,fun hp hn=>?_⟩) (fun hp=>.inr ⟨?_,?_⟩)
 ·
  rw[body n h1 h2,if_pos hp];rfl
 ·
  rw[body n h1 h2,hp];simp
 ·
  rw[body _ (by omega) (Int.le_refl _),hp];simp
 ·
  unfold zaX
  rw[Wk (n:=b.Y+b.H) (by omega) (by omega)]
  have e1:decide (b.Y+b.H+1≤b.Y+b.H)=false:=by simp;omega
  rw[e1];rfl
theorem zlR (hb:okB b){y:Int}(x1: -3000000≤y)(x2:y≤3000000):∃o,Qy (fun n=>inS k b ⟨n,y⟩) b.X (b.X+b.W_) o∧loop (zaZ b y k) b.X=some (YW (fun n=>⟨n,y⟩) o):=by
 have hb':=hb
 unfold okB at hb'
 have body:∀n,b.X≤n→n≤b.X+b.W_→zaZ b y k n=some (if inS k b ⟨n,y⟩=true then .done (.ab ⟨n,y⟩)else .again (n+1)):=fun n h1 h2=>by
  unfold zaZ
  rw[Wk (n:=b.X+b.W_) (by omega) (by omega),Wk (n:=n+1) (by omega) (by omega)]
  have e1:decide (n≤b.X+b.W_)=true:=by simpa using h2
  obtain⟨_,r,q1,q2⟩:=zaD (k:=k) hb (p:=⟨n,y⟩) (by simp only;omega) (by simp only;omega) x1 x2
  simp only[e1,cond_true,zG,q1,zq,q2]
  cases inS k b ⟨n,y⟩<;>simp
 refine zhC (p:=fun n=>inS k b ⟨n,y⟩) (YW (fun n=>⟨n,y⟩)) (by omega) (fun n h1 h2=>⟨fun hp=>?_,fun hp hn=>?_⟩) (fun hp=>.inr ⟨?_,?_⟩)
 ·
  rw[body n h1 h2,if_pos hp];rfl
 ·
  rw[body n h1 h2,hp];simp
 ·
  rw[body _ (by omega) (Int.le_refl _),hp];simp
 ·
  unfold zaZ
  rw[Wk (n:=b.X+b.W_) (by omega) (by omega)]
  have e1:decide (b.X+b.W_+1≤b.X+b.W_)=false:=by simp;omega
  rw[e1];rfl
theorem zlO (hb:okB b){x:Int}(x1: -3000000≤x)(x2:x≤3000000):∃o,Qx (fun n=>inS k b ⟨x,n⟩) b.Y (b.Y+b.H) o∧loop (zaY b x k) (b.Y+b.H)=some (YW (fun n=>⟨x,n⟩) o):=by
 have hb':=hb
 unfold okB at hb'
 have body:∀n,b.Y≤n→n≤b.Y+b.H→zaY b x k n=some (if inS k b ⟨x,n⟩=true then .done (.ab ⟨x,n⟩)else .again (n - 1)):=fun n h1 h2=>by
  unfold zaY
  rw[Wk (n:=n - 1) (by omega) (by omega)]
  have e1:decide (b.Y≤n)=true:=by simpa using h1
  obtain⟨_,r,q1,q2⟩:=zaD (k:=k) hb (p:=⟨x,n⟩) x1 x2 (by simp only;omega) (by simp only;omega)
  simp only[e1,cond_true,zG,q1,zq,q2]
  cases inS k b ⟨x,n⟩<;>simp
 refine zfB (p:=fun n=>inS k b ⟨x,n⟩) (YW (fun n=>⟨x,n⟩)) (by omega) (fun n h1 h2=>⟨fun hp=>?_,fun hp hn=>?_⟩) (fun hp=>.inr ⟨?_,?_⟩)
 ·
  rw[body n h1 h2,if_pos hp];rfl
 ·
  rw[body n h1 h2,hp];simp
 ·
  rw[body _ (Int.le_refl _) (by omega),hp];simp
 ·
  unfold zaY
  have e1:decide (b.Y≤b.Y - 1)=false:=by simp;omega
  rw[e1];rfl
theorem zlS (hb:okB b){y:Int}(x1: -3000000≤y)(x2:y≤3000000):∃o,Qx (fun n=>inS k b ⟨n,y⟩) b.X (b.X+b.W_) o∧loop (za0 b y k) (b.X+b.W_)=some (YW (fun n=>⟨n,y⟩) o):=by
 have hb':=hb
 unfold okB at hb'
 have body:∀n,b.X≤n→n≤b.X+b.W_→za0 b y k n=some (if inS k b ⟨n,y⟩=true then .done (.ab ⟨n,y⟩)else .again (n - 1)):=fun n h1 h2=>by
  unfold za0
  rw[Wk (n:=n - 1) (by omega) (by omega)]
  have e1:decide (b.X≤n)=true:=by simpa using h1
  obtain⟨_,r,q1,q2⟩:=zaD (k:=k) hb (p:=⟨n,y⟩) (by simp only;omega) (by simp only;omega) x1 x2
  simp only[e1,cond_true,zG,q1,zq,q2]
  cases inS k b ⟨n,y⟩<;>simp
 refine zfB (p:=fun n=>inS k b ⟨n,y⟩) (YW (fun n=>⟨n,y⟩)) (by omega) (fun n h1 h2=>⟨fun hp=>?_,fun hp hn=>?_⟩) (fun hp=>.inr ⟨?_,?_⟩)
 ·
  rw[body n h1 h2,if_pos hp];rfl
 ·
  rw[body n h1 h2,hp];simp
 ·
  rw[body _ (Int.le_refl _) (by omega),hp];simp
 ·
  unfold za0
  have e1:decide (b.X≤b.X - 1)=false:=by simp;omega
  rw[e1];rfl
theorem zpm (hb:okB b){side at_:Int}(hk:1≤k∧k≤5)(s1:1≤side)(s2:side≤4)(a1:0≤at_)(a2:at_≤1000):∃p,zcK k b side at_=some (p,0)∧zcp k b side at_=some p∧ -1000000≤p.X∧p.X≤1020000∧ -1000000≤p.Y∧p.Y≤1020000:=by
 have hb':=hb
 unfold okB at hb'
 have m1:=jG (show 0≤b.W_ by omega) (show b.W_≤20000 by omega) a1 a2
 have m2:=jG (show 0≤b.H by omega) (show b.H≤20000 by omega) a1 a2
 have m3:b.W_*at_≤b.W_*1000:=Int.mul_le_mul_of_nonneg_left a2 (by omega)
 have m4:b.H*at_≤b.H*1000:=Int.mul_le_mul_of_nonneg_left a2 (by omega)
 unfold zcK zcp zeR
 simp only[zG,zq,zaf]
 have e1:(decide (1≤k)&&decide (k≤5))=true:=by simpa using hk
 have e2:(((decide (side<1) || decide (4<side)) || decide (at_<0)) || decide (1000<at_))=false:=by simp;omega
 simp only[e1,e2,zao.2 hb,Bool.not_true,cond_false,decide_true]
 rw[Wk (n:=b.W_*at_) (by omega) (by omega),Wk (n:=b.H*at_) (by omega) (by omega),zc0 (by omega) (by omega) (by omega) (by omega),zc0 (by omega) (by omega) (by omega) (by omega),Int.tdiv_eq_ediv_of_nonneg m1.1,Int.tdiv_eq_ediv_of_nonneg m2.1]
 simp only[zq]
 generalize hqx:b.W_*at_ / 1000=qx
 generalize hqy:b.H*at_ / 1000=qy
 have q1:0≤qx∧qx≤b.W_:=by omega
 have q2:0≤qy∧qy≤b.H:=by omega
 rw[Wk (n:=b.X+qx) (by omega) (by omega),Wk (n:=b.Y+qy) (by omega) (by omega),Wk (n:=b.Y+b.H) (by omega) (by omega),Wk (n:=b.X+b.W_) (by omega) (by omega),zc0 (by omega) (by omega) (by omega) (by omega),zc0 (by omega) (by omega) (by omega) (by omega),Int.tdiv_eq_ediv_of_nonneg (show 0≤b.H by omega),Int.tdiv_eq_ediv_of_nonneg (show 0≤b.W_ by omega)]
 simp only[zq]
 rw[Wk (n:=b.Y+b.H / 2) (by omega) (by omega),Wk (n:=b.X+b.W_ / 2) (by omega) (by omega)]
 have hY:∀n,b.Y≤n→n≤b.Y+b.H→zbd n (fun x0=>vz x0 k b) ⟨b.X+qx,b.Y+qy⟩=some (inS k b ⟨b.X+qx,n⟩):=fun n h1 h2=>by
  unfold zbd
  simp only
  rw[(zaD (k:=k) hb (p:=⟨b.X+qx,n⟩) (by simp only;omega) (by simp only;omega) (by simp only;omega) (by simp only;omega)).1];rfl
 have hX:∀n,b.X≤n→n≤b.X+b.W_→zbe n (fun x0=>vz x0 k b) ⟨b.X+qx,b.Y+qy⟩=some (inS k b ⟨n,b.Y+qy⟩):=fun n h1 h2=>by
  unfold zbe
  simp only
  rw[(zaD (k:=k) hb (p:=⟨n,b.Y+qy⟩) (by simp only;omega) (by simp only;omega) (by simp only;omega) (by simp only;omega)).1];rfl
 have hsd:side=1∨side=2∨side=3∨side=4:=by omega
 rcases hsd with rfl | rfl | rfl | rfl
 ·
  obtain⟨o,o1,o2⟩:=zin (lo:=b.Y) (hi:=b.Y+b.H) (by omega) (by omega) (by omega) hY
  obtain⟨o',o3,o4⟩:=zlM (k:=k) hb (x:=b.X+qx) (by omega) (by omega)
  obtain rfl:=Qy.one o1 o3
  simp only[show decide ((1:Int)=1)=true from rfl,show decide ((1:Int)=3)=false from rfl,Bool.true_or,cond_true,cond_false,zq]
  rw[o2,o4]
  cases o with
  | none=>exact⟨_,rfl,rfl,by simp only;omega,by simp only;omega,by simp only;omega,by simp only;omega⟩
  | some n=>
   obtain⟨g1,g2,_⟩:=o1
   exact⟨_,rfl,rfl,by simp only;omega,by simp only;omega,by simp only[vg];omega,by simp only[vg];omega⟩
 ·
  obtain⟨o,o1,o2⟩:=zim (lo:=b.X) (hi:=b.X+b.W_) (by omega) (by omega) (by omega) hX
  obtain⟨o',o3,o4⟩:=zlS (k:=k) hb (y:=b.Y+qy) (by omega) (by omega)
  obtain rfl:=Qx.one o1 o3
  simp only[decide_true,show decide ((2:Int)=1)=false from rfl,show decide ((2:Int)=3)=false from rfl,show decide ((2:Int)=2)=true from rfl,show decide ((2:Int)=4)=false from rfl,Bool.or_self,cond_true,cond_false,zq]
  rw[o2,o4]
  cases o with
  | none=>exact⟨_,rfl,rfl,by simp only;omega,by simp only;omega,by simp only;omega,by simp only;omega⟩
  | some n=>
   obtain⟨g1,g2,_⟩:=o1
   exact⟨_,rfl,rfl,by simp only[vg];omega,by simp only[vg];omega,by simp only;omega,by simp only;omega⟩
 ·
  obtain⟨o,o1,o2⟩:=zim (lo:=b.Y) (hi:=b.Y+b.H) (by omega) (by omega) (by omega) hY
  obtain⟨o',o3,o4⟩:=zlO (k:=k) hb (x:=b.X+qx) (by omega) (by omega)
  obtain rfl:=Qx.one o1 o3
  simp only[decide_true,show decide ((3:Int)=1)=false from rfl,show decide ((3:Int)=3)=true from rfl,Bool.or_true,cond_true,cond_false,zq]
  rw[o2,o4]
  cases o with
  | none=>exact⟨_,rfl,rfl,by simp only;omega,by simp only;omega,by simp only;omega,by simp only;omega⟩
  | some n=>
   obtain⟨g1,g2,_⟩:=o1
   exact⟨_,rfl,rfl,by simp only;omega,by simp only;omega,by simp only[vg];omega,by simp only[vg];omega⟩
 ·
  obtain⟨o,o1,o2⟩:=zin (lo:=b.X) (hi:=b.X+b.W_) (by omega) (by omega) (by omega) hX
  obtain⟨o',o3,o4⟩:=zlR (k:=k) hb (y:=b.Y+qy) (by omega) (by omega)
  obtain rfl:=Qy.one o1 o3
  simp only[show decide ((4:Int)=1)=false from rfl,show decide ((4:Int)=3)=false from rfl,show decide ((4:Int)=2)=false from rfl,show decide ((4:Int)=4)=true from rfl,Bool.or_self,cond_true,cond_false,zq]
  rw[o2,o4]
  cases o with
  | none=>exact⟨_,rfl,rfl,by simp only;omega,by simp only;omega,by simp only;omega,by simp only;omega⟩
  | some n=>
   obtain⟨g1,g2,_⟩:=o1
   exact⟨_,rfl,rfl,by simp only[vg];omega,by simp only[vg];omega,by simp only;omega,by simp only;omega⟩
end
end
section
section
variable {d:Doc}
theorem vF.hd (h:vF d):(d.Nodes.map (·.Id)).Nodup:=zjI fun i hi=>of_decide_eq_false (zdY (h.node i hi)).2.1
theorem vF.at (h:vF d){n:zm}(hn:n∈d.Nodes):qm n.Id=true∧(1≤n.Kind∧n.Kind≤6)∧(n.Kind≠6→okB n.Box):=by
 obtain⟨i,hi,rfl⟩:=List.mem_iff_getElem.1 hn
 have:=zdY (h.node i hi)
 exact⟨this.1,this.2.2.1,this.2.2.2⟩
theorem vF.hid (h:vF d){n:zm}(hn:n∈d.Nodes):n.Id≠Str.nil:=zjB (h.at hn).1
end
section
variable {d:Doc}
end
end
theorem jS {α:Type}[Inhabited α]{l:List α}{k:Nat}{v:α}(hk:k<l.length)(t:Nat):gx (l.set k v) (t:Int)=if t=k then v else gx l (t:Int):=by
 simp only[gx,Int.toNat_natCast]
 by_cases h:t=k
 ·
  subst h;simp[hk]
 ·
  rw[if_neg h,List.getElem?_set_ne (fun e=>h e.symm)]
def lt2 (a b:zF):Prop:=a.bends<b.bends∨(a.bends=b.bends∧a.long<b.long)
def le2 (a b:zF):Prop:=a.bends<b.bends∨(a.bends=b.bends∧a.long≤b.long)
instance (a b:zF):Decidable (lt2 a b):=by unfold lt2;infer_instance
instance (a b:zF):Decidable (le2 a b):=by unfold le2;infer_instance
theorem QK (a:zF):le2 a a:=by unfold le2;omega
theorem Yp {a b c:zF}(h1:le2 a b)(h2:le2 b c):le2 a c:=by unfold le2 at *;omega
theorem zb5 {a b:zF}(h:lt2 a b):le2 a b:=by unfold lt2 at h;unfold le2;omega
theorem zdZ {a b:zF}:¬lt2 a b↔le2 b a:=by unfold lt2 le2;omega
abbrev RL:=List zF
def at_ (q:RL)(i:Nat):zF:=gx q (i:Int)
theorem zfb {q:RL}{i j:Nat}(hi:i<q.length)(hj:j<q.length):Qt q (i:Int) (j:Int)=some (decide (lt2 (at_ q i) (at_ q j))):=by
 unfold Qt
 simp only[zo (show inR q (i:Int)from⟨by omega,by omega⟩),zo (show inR q (j:Int)from⟨by omega,by omega⟩)]
 show(bif !decide ((at_ q i).bends=(at_ q j).bends)then some (decide ((at_ q i).bends<(at_ q j).bends))else some (decide ((at_ q i).long<(at_ q j).long)))=_
 by_cases h:(at_ q i).bends=(at_ q j).bends
 ·
  simp only[h,decide_true,Bool.not_true,cond_false,Option.some.injEq,decide_eq_decide]
  unfold lt2;omega
 ·
  simp only[h,decide_false,Bool.not_false,cond_true,Option.some.injEq,decide_eq_decide]
  unfold lt2;omega
def swp (q:RL)(i j:Nat):RL:=(q.set i (at_ q j)).set j (at_ q i)
theorem Qv (q:RL)(i j:Nat):(swp q i j).length=q.length:=by simp[swp]
theorem jE {q:RL}{i j:Nat}(hi:i<q.length)(hj:j<q.length)(k:Nat):at_ (swp q i j) k=if k=j then at_ q i else if k=i then at_ q j else at_ q k:=by
 unfold swp at_
 rw[jS (by simpa using hj),jS hi]
theorem zfh {q:RL}{i j:Nat}(hi:i<q.length)(hj:j<q.length):J4 q (i:Int) (j:Int)=some (swp q i j):=by
 unfold J4
 simp only[zo (show inR q (i:Int)from⟨by omega,by omega⟩),zo (show inR q (j:Int)from⟨by omega,by omega⟩),zG,Int.toNat_natCast]
 rw[zo ⟨by omega,by simp;omega⟩]
 rfl
theorem zaI {q:RL}{x:zF}:x∈q↔∃k,k<q.length∧at_ q k=x:=by
 rw[List.mem_iff_getElem]
 constructor
 ·
  rintro⟨k,hk,h⟩
  exact⟨k,hk,by unfold at_;rw[zS hk];exact h⟩
 ·
  rintro⟨k,hk,h⟩
  exact⟨k,hk,by rw[←h];unfold at_;rw[zS hk]⟩
theorem zeX {q:RL}{i j:Nat}(hi:i<q.length)(hj:j<q.length)(x:zF):x∈swp q i j↔x∈q:=by
 rw[zaI,zaI]
 constructor
 ·
  rintro⟨k,hk,h⟩
  rw[Qv]at hk
  rw[jE hi hj]at h
  by_cases c1:k=j
  ·
   rw[if_pos c1]at h;exact⟨i,hi,h⟩
  ·
   rw[if_neg c1]at h
   by_cases c2:k=i
   ·
    rw[if_pos c2]at h;exact⟨j,hj,h⟩
   ·
    rw[if_neg c2]at h;exact⟨k,hk,h⟩
 ·
  rintro⟨k,hk,h⟩
  by_cases c1:k=i
  ·
   subst c1;exact⟨j,by rw[Qv];exact hj,by rw[jE hi hj,if_pos rfl];exact h⟩
  ·
   by_cases c2:k=j
   ·
    subst c2;exact⟨i,by rw[Qv];exact hi,by rw[jE hi hj,if_neg (fun e=>c1 e.symm),if_pos rfl];exact h⟩
   ·
    exact⟨k,by rw[Qv];exact hk,by rw[jE hi hj,if_neg c2,if_neg c1];exact h⟩
def Hp (ex:Nat→Prop)(n:Nat)(q:RL):Prop:=∀k,0<k→k<n→¬ex k→le2 (at_ q ((k - 1) / 2)) (at_ q k)
def jM (n:Nat)(q:RL):Prop:=∀k,0<k→k<n→le2 (at_ q ((k - 1) / 2)) (at_ q k)
theorem jM.top {n:Nat}{q:RL}(h:jM n q):∀k,k<n→le2 (at_ q 0) (at_ q k):=by
 intro k
 induction k using Nat.strongRecOn with
 | _ k ih=>
  intro hk
  by_cases c:k=0
  ·
   subst c;exact QK _
  ·
   exact Yp (ih ((k - 1) / 2) (by omega) (by omega)) (h k (by omega) hk)
theorem zrO {q:RL}{j:Nat}(hq:q.length≤1073741824)(hj:j<q.length)(h1:Hp (fun k=>k=j) q.length q)(h2:∀k,0<k→k<q.length→(k - 1) / 2=j→0<j→le2 (at_ q ((j - 1) / 2)) (at_ q k)):
  ∃r,zbV q (j:Int)=some r∧jM r.length r∧r.length=q.length∧∀x,x∈r↔x∈q:=by
 unfold zbV
 refine ve (body:=zdB) (s0:=((j:Int),q)) (fun s=>∃j:Nat,s.1=(j:Int)∧s.2.length=q.length∧j<q.length∧Hp (fun k=>k=j) s.2.length s.2∧
   (∀k,0<k→k<s.2.length→(k - 1) / 2=j→0<j→le2 (at_ s.2 ((j - 1) / 2)) (at_ s.2 k))∧∀x,x∈s.2↔x∈q) (fun s=>s.1.toNat) (fun r=>jM r.length r∧r.length=q.length∧∀x,x∈r↔x∈q)
  ⟨j,rfl,rfl,hj,h1,h2,fun _=>Iff.rfl⟩ ?_
 rintro⟨s1,p⟩ ⟨j,h0,hl,hj,h1,h2,hm⟩
 simp only at h0 hl h1 h2 hm
 subst h0
 unfold zdB
 simp only[zG]
 rw[Wk (n:=(j:Int) - 1) (by omega) (by omega)]
 by_cases c:j=0
 ·
  subst c
  refine .inr ⟨p,by simp[Qt,gd],?_,hl,hm⟩
  intro k k0 kn
  exact h1 k k0 kn (by omega)
 ·
  have e:((j:Int) - 1).tdiv 2=(((j - 1) / 2:Nat):Int):=by
   rw[Int.tdiv_eq_ediv_of_nonneg (by omega)];omega
  rw[e]
  have hi:(j - 1) / 2<p.length:=by omega
  have hd:decide ((((j - 1) / 2:Nat):Int)=(j:Int))=false:=by rw[decide_eq_false_iff_not];omega
  rw[hd,Bool.not_false,qC,zfb (by omega) hi]
  simp only[zq,Bool.false_or]
  by_cases c2:lt2 (at_ p j) (at_ p ((j - 1) / 2))
  ·
   left
   rw[decide_eq_true c2]
   simp only[Bool.not_true,cond_false]
   rw[zfh hi (by omega)]
   have hjp:j<p.length:=by omega
   refine⟨((((j - 1) / 2:Nat):Int),swp p ((j - 1) / 2) j),rfl,⟨(j - 1) / 2,rfl,by rw[Qv];exact hl,by omega,?_,?_,fun x=>(zeX hi hjp x).trans (hm x)⟩,by simp;omega⟩
   ·
    intro k k0 kn hne
    simp only at hne
    rw[Qv]at kn
    rw[jE hi hjp,jE hi hjp]
    by_cases ck:k=j
    ·
     subst ck
     rw[if_pos rfl,if_neg (by omega),if_pos rfl]
     exact zb5 c2
    ·
     rw[if_neg ck,if_neg hne]
     by_cases cp:(k - 1) / 2=j
     ·
      rw[if_pos cp]
      exact h2 k k0 kn cp (by omega)
     ·
      rw[if_neg cp]
      by_cases cq:(k - 1) / 2=(j - 1) / 2
      ·
       rw[if_pos cq]
       have:=h1 k k0 kn ck
       rw[cq]at this
       exact Yp (zb5 c2) this
      ·
       rw[if_neg cq]
       exact h1 k k0 kn ck
   ·
    intro k k0 kn hp hpos
    rw[Qv]at kn
    rw[jE hi hjp,jE hi hjp,if_neg (by omega),if_neg (by omega)]
    have hpp:=h1 ((j - 1) / 2) hpos (by omega) (by omega)
    by_cases ck:k=j
    ·
     subst ck;rw[if_pos rfl];exact hpp
    ·
     rw[if_neg ck,if_neg (by omega)]
     have:=h1 k k0 kn ck
     rw[hp]at this
     exact Yp hpp this
  ·
   right
   rw[decide_eq_false c2]
   refine⟨p,rfl,?_,hl,hm⟩
   intro k k0 kn
   by_cases ck:k=j
   ·
    subst ck;exact zdZ.1 c2
   ·
    exact h1 k k0 kn ck
theorem zl1 {q:RL}(x:zF)(hq:q.length<1073741824)(h:jM q.length q):∃r,zbT q x=some r∧jM r.length r∧r.length=q.length+1∧∀y,y∈r↔y∈q∨y=x:=by
 unfold zbT zeK Ja
 rw[zo (by rw[jd];simp;omega)]
 simp only[zq]
 have hl:(q++[x]).length=q.length+1:=by simp
 rw[hl,Wk (by omega) (by omega),show(((q.length+1:Nat):Int) - 1)=((q.length:Nat):Int)by omega]
 have hat:∀k,k<q.length→at_ (q++[x]) k=at_ q k:=fun k hk=>by
  unfold at_
  rw[zS (by simp;omega),zS hk,List.getElem_append_left hk]
 obtain⟨r,h1,h2,h3,h4⟩:=zrO (q:=q++[x]) (j:=q.length) (by rw[hl];omega) (by rw[hl];omega) (fun k k0 kn hne=>by
  simp only at hne
  rw[hl]at kn
  rw[hat _ (by omega),hat _ (by omega)]
  exact h k k0 (by omega)) (fun k k0 kn hp=>by rw[hl]at kn;omega)
 rw[h1]
 exact⟨r,rfl,h2,by rw[h3,hl],fun y=>by rw[h4];simp⟩
theorem zmM {q:RL}{n:Nat}(hq:q.length≤1073741824)(hn:n≤q.length)(h1:Hp (fun k=>(k - 1) / 2=0) n q):
  ∃r,zbU q 0 (n:Int)=some r∧jM n r.2∧r.2.length=q.length∧(∀k,n≤k→at_ r.2 k=at_ q k)∧∀x,x∈r.2↔x∈q:=by
 unfold zbU
 obtain⟨e,he,hp⟩:=ve (body:=zdA (n:Int)) (s0:=((0:Int),q)) (fun s=>∃i:Nat,s.1=(i:Int)∧s.2.length=q.length∧i≤q.length∧Hp (fun k=>(k - 1) / 2=i) n s.2∧
   (∀k,0<k→k<n→(k - 1) / 2=i→0<i→le2 (at_ s.2 ((i - 1) / 2)) (at_ s.2 k))∧(∀k,n≤k→at_ s.2 k=at_ q k)∧∀x,x∈s.2↔x∈q) (fun s=>q.length - s.1.toNat)
  (fun r=>jM n r.2∧r.2.length=q.length∧(∀k,n≤k→at_ r.2 k=at_ q k)∧∀x,x∈r.2↔x∈q)
  ⟨0,rfl,rfl,by omega,h1,fun k _ _ _ h=>by omega,fun _ _=>rfl,fun _=>Iff.rfl⟩ (by
  rintro⟨s1,p⟩ ⟨i,h0,hl,hi,h1,h2,ht,hm⟩
  simp only at h0 hl h1 h2 hm ht
  subst h0
  unfold zdA
  simp only[zG]
  rw[Wk (n:=2*(i:Int)) (by omega) (by omega),Wk (n:=2*(i:Int)+1) (by omega) (by omega),Wk (n:=2*(i:Int)+1+1) (by omega) (by omega)]
  by_cases c:n≤2*i+1
  ·
   right
   have d:decide ((n:Int)≤2*(i:Int)+1)=true:=by rw[decide_eq_true_eq];omega
   rw[d,Bool.true_or,cond_true]
   refine⟨_,rfl,fun k k0 kn=>h1 k k0 kn (by simp only;omega),hl,ht,hm⟩
  ·
   have d:decide ((n:Int)≤2*(i:Int)+1)=false:=by rw[decide_eq_false_iff_not];omega
   have d2:decide (2*(i:Int)+1<0)=false:=by rw[decide_eq_false_iff_not];omega
   rw[d,d2,Bool.false_or,cond_false]
   have hip:i<p.length:=by omega
   obtain⟨j,hj,hjn,hpar,hmin,hjj⟩:∃j:Nat,(Option.bind (gd (decide (2*(i:Int)+1+1<(n:Int))) (Qt p (2*(i:Int)+1+1) (2*(i:Int)+1))) fun r1=>
     Option.bind (α:=Int) (bif decide (2*(i:Int)+1+1<(n:Int))&&r1 then some (2*(i:Int)+1+1)else some (2*(i:Int)+1)) fun j7=>some j7)=some (j:Int)∧j<n∧(j - 1) / 2=i∧(∀k,0<k→k<n→(k - 1) / 2=i→le2 (at_ p j) (at_ p k))∧i<j:=by
    rw[show(2*(i:Int)+1+1)=((2*i+2:Nat):Int)by omega,show(2*(i:Int)+1)=((2*i+1:Nat):Int)by omega]
    by_cases c2:2*i+2<n
    ·
     have d3:decide (((2*i+2:Nat):Int)<(n:Int))=true:=by rw[decide_eq_true_eq];omega
     rw[d3,qC,zfb (by omega) (by omega)]
     simp only[zq,Bool.true_and]
     by_cases c3:lt2 (at_ p (2*i+2)) (at_ p (2*i+1))
     ·
      refine⟨2*i+2,by rw[decide_eq_true c3];rfl,c2,by omega,fun k k0 kn hk=>?_,by omega⟩
      have:k=2*i+1∨k=2*i+2:=by omega
      rcases this with rfl | rfl
      ·
       exact zb5 c3
      ·
       exact QK _
     ·
      refine⟨2*i+1,by rw[decide_eq_false c3];rfl,by omega,by omega,fun k k0 kn hk=>?_,by omega⟩
      have:k=2*i+1∨k=2*i+2:=by omega
      rcases this with rfl | rfl
      ·
       exact QK _
      ·
       exact zdZ.1 c3
    ·
     have d3:decide (((2*i+2:Nat):Int)<(n:Int))=false:=by rw[decide_eq_false_iff_not];omega
     rw[d3,Jz]
     refine⟨2*i+1,rfl,by omega,by omega,fun k k0 kn hk=>?_,by omega⟩
     have:k=2*i+1:=by omega
     subst this;exact QK _
   have fold:∀{β:Type} (k:Int→Option β),(Option.bind (gd (decide (2*(i:Int)+1+1<(n:Int))) (Qt p (2*(i:Int)+1+1) (2*(i:Int)+1))) fun r1=>
     Option.bind (α:=Int) (bif decide (2*(i:Int)+1+1<(n:Int))&&r1 then some (2*(i:Int)+1+1)else some (2*(i:Int)+1)) fun j7=>k j7)=k (j:Int):=by
    intro β k
    cases hA:gd (decide (2*(i:Int)+1+1<(n:Int))) (Qt p (2*(i:Int)+1+1) (2*(i:Int)+1))with
    | none=>rw[hA]at hj;cases hj
    | some r1=>
     rw[hA]at hj
     simp only[zq]at hj⊢
     cases hB:(bif decide (2*(i:Int)+1+1<(n:Int))&&r1 then some (2*(i:Int)+1+1)else some (2*(i:Int)+1))with
     | none=>rw[hB]at hj;cases hj
     | some z=>rw[hB]at hj;simp only[zq,Option.some.injEq]at hj⊢;rw[hj]
   rw[fold]
   have hjp:j<p.length:=by omega
   rw[zfb hjp hip]
   simp only[zq]
   by_cases c4:lt2 (at_ p j) (at_ p i)
   ·
    left
    rw[decide_eq_true c4]
    simp only[Bool.not_true,cond_false]
    rw[zfh hip hjp]
    refine⟨((j:Int),swp p i j),rfl,⟨j,rfl,by rw[Qv];exact hl,by omega,?_,?_,?_,fun x=>(zeX hip hjp x).trans (hm x)⟩,by simp;omega⟩
    ·
     intro k k0 kn hne
     simp only at hne
     rw[jE hip hjp,jE hip hjp,if_neg hne]
     by_cases ck:k=j
     ·
      subst ck
      rw[if_pos rfl,if_pos hpar]
      exact zb5 c4
     ·
      rw[if_neg ck]
      by_cases ck2:k=i
      ·
       subst ck2
       rw[if_pos rfl,if_neg (by omega)]
       exact h2 j (by omega) hjn hpar (by omega)
      ·
       rw[if_neg ck2]
       by_cases cp:(k - 1) / 2=i
       ·
        rw[if_pos cp];exact hmin k k0 kn cp
       ·
        rw[if_neg cp];exact h1 k k0 kn cp
    ·
     intro k k0 kn hp hpos
     rw[hpar,jE hip hjp,jE hip hjp,if_neg (by omega),if_pos rfl,if_neg (by omega),if_neg (by omega)]
     have:=h1 k k0 kn (by simp only;omega)
     rw[hp]at this
     exact this
    ·
     intro k hk
     rw[jE hip hjp,if_neg (by omega),if_neg (by omega)]
     exact ht k hk
   ·
    right
    rw[decide_eq_false c4]
    refine⟨_,rfl,fun k k0 kn=>?_,hl,ht,hm⟩
    by_cases cp:(k - 1) / 2=i
    ·
     simp only[cp];exact Yp (zdZ.1 c4) (hmin k k0 kn cp)
    ·
     exact h1 k k0 kn cp)
 rw[show((0:Int))=((0:Nat):Int)from rfl]at he
 exact⟨(decide (0<e.1),e.2),by rw[show(0:Int)=((0:Nat):Int)from rfl,he];rfl,hp⟩
theorem zlZ {q:RL}(hq:q.length≤1073741824)(hne:0<q.length)(h:jM q.length q):∃r,zbS q=some r∧jM r.2.length r.2∧r.2.length+1=q.length∧r.1∈q∧(∀y∈q,le2 r.1 y)∧(∀y∈r.2,y∈q)∧∀y∈q,y=r.1∨y∈r.2:=by
 obtain⟨n,hn⟩:∃n,q.length=n+1:=⟨q.length - 1,by omega⟩
 unfold zbS Ja
 simp only[zq,zG]
 rw[hn,Wk (n:=((n+1:Nat):Int) - 1) (by omega) (by omega),show(((n+1:Nat):Int) - 1)=(n:Int)by omega]
 have s0:0<q.length:=by omega
 have sn:n<q.length:=by omega
 have hsw:=zfh s0 sn
 rw[show((0:Nat):Int)=0 from rfl]at hsw
 rw[hsw,zq]
 obtain⟨r,h1,h2,h3,h4,h5⟩:=zmM (q:=swp q 0 n) (n:=n) (by rw[Qv];omega) (by rw[Qv];omega) (fun k k0 kn hne=>by
  simp only at hne
  rw[jE s0 sn,jE s0 sn,if_neg (by omega),if_neg (by omega),if_neg (by omega),if_neg (by omega)]
  exact h k k0 (by omega))
 rw[h1,zq]
 rw[Qv]at h3
 unfold zeJ
 rw[h3,hn,Wk (n:=((n+1:Nat):Int) - 1) (by omega) (by omega),show(((n+1:Nat):Int) - 1)=(n:Int)by omega,zo ⟨by omega,by omega⟩,zG,zo ⟨by omega,by omega,by omega⟩,zG,zq]
 have hseg:seg r.2 0 (n:Int)=r.2.take n:=by simp[seg]
 rw[hseg]
 have hlen:(r.2.take n).length=n:=by rw[List.length_take];omega
 have htop:gx r.2 (n:Int)=at_ q 0:=by
  show at_ r.2 n=_
  rw[h4 n (Nat.le_refl _),jE s0 sn,if_pos rfl]
 have hat:∀k,k<n→at_ (r.2.take n) k=at_ r.2 k:=fun k hk=>by
  unfold at_
  rw[zS (by omega),zS (by omega),List.getElem_take]
 refine⟨_,rfl,?_,by simp only;omega,?_,?_,?_,?_⟩
 ·
  simp only
  rw[hlen]
  intro k k0 kn
  rw[hat _ (by omega),hat _ kn]
  exact h2 k k0 kn
 ·
  simp only[htop];exact zaI.2 ⟨0,s0,rfl⟩
 ·
  intro y hy
  simp only[htop]
  obtain⟨k,hk,rfl⟩:=zaI.1 hy
  exact h.top k hk
 ·
  intro y hy
  exact(zeX s0 sn y).1 ((h5 y).1 (List.mem_of_mem_take hy))
 ·
  intro y hy
  obtain⟨k,hk,e⟩:=zaI.1 ((h5 y).2 ((zeX s0 sn y).2 hy))
  rw[h3]at hk
  by_cases c:k=n
  ·
   left
   simp only
   rw[←e,c];rfl
  ·
   right
   simp only
   exact zaI.2 ⟨k,by omega,by rw[hat k (by omega)];exact e⟩
section
def yq (n:Int):Int:=(n+1) % 4+1
structure InS (s:yd) (p:zt):Prop where
 x0:0≤p.x
 x1:p.x<s.xs.length
 y0:0≤p.y
 y1:p.y<s.ys.length
 s1:1≤p.side
 s4:p.side≤4
def YS (s:yd)(p:zt):Int:=(p.y*(s.xs.length:Int)+p.x)*4+p.side - 1
def zN (s:yd)(p:zt):Nat:=(YS s p).toNat
def NN (s:yd):Nat:=s.xs.length*s.ys.length*4
structure Sea (s:yd) (nx:zt→Int→Option (zt×Int)):Prop where
 w:s.xs.length≤1000
 h:s.ys.length≤1000
 next:∀p side,InS s p→1≤side→side≤4→∃r,zba s p side=some r∧((r.2.2=true∧nx p side=some (r.1,r.2.1))∨(r.2.2=false∧nx p side=none))
 ok:∀p side q l,InS s p→1≤side→side≤4→nx p side=some (q,l)→InS s q∧q.side=side∧0<l∧l≤2000000
variable {s:yd} {nx:zt→Int→Option (zt×Int)} {p q fr tq:zt}
theorem zc9 (h:Sea s nx):NN s≤4000000:=by
 have:=Nat.mul_le_mul h.w h.h
 unfold NN;omega
theorem zgk (hp:InS s p):0≤YS s p∧YS s p<NN s:=by
 obtain⟨x0,x1,y0,y1,s1,s4⟩:=hp
 have h1:0≤p.y*(s.xs.length:Int):=Int.mul_nonneg y0 (by omega)
 have h2:(p.y+1)*(s.xs.length:Int)≤(s.ys.length:Int)*(s.xs.length:Int):=Int.mul_le_mul_of_nonneg_right (by omega) (by omega)
 rw[Int.add_mul]at h2
 have e:((NN s:Nat):Int)=(s.ys.length:Int)*(s.xs.length:Int)*4:=by unfold NN;rw[Nat.mul_comm s.xs.length];simp
 rw[e]
 unfold YS
 omega
theorem vJ (hp:InS s p):zN s p<NN s:=by have:=zgk hp;unfold zN;omega
theorem zgj (hp:InS s p):((zN s p:Nat):Int)=YS s p:=by have:=zgk hp;unfold zN;omega
theorem zbZ (hp:InS s p)(hq:InS s q)(h:zN s p=zN s q):p=q:=by
 have h:YS s p=YS s q:=by rw[←zgj hp,←zgj hq,h]
 obtain⟨x0,x1,y0,y1,s1,s4⟩:=hp
 obtain⟨x0',x1',y0',y1',s1',s4'⟩:=hq
 unfold YS at h
 have hs:p.side=q.side:=by omega
 have ha:p.y*(s.xs.length:Int)+p.x=q.y*(s.xs.length:Int)+q.x:=by omega
 have hy:p.y=q.y:=by
  rcases Int.lt_trichotomy p.y q.y with c | c | c
  ·
   have:=Int.mul_le_mul_of_nonneg_right (a:=p.y+1) (b:=q.y) (c:=(s.xs.length:Int)) (by omega) (by omega)
   rw[Int.add_mul]at this;omega
  ·
   exact c
  ·
   have:=Int.mul_le_mul_of_nonneg_right (a:=q.y+1) (b:=p.y) (c:=(s.xs.length:Int)) (by omega) (by omega)
   rw[Int.add_mul]at this;omega
 have hx:p.x=q.x:=by rw[hy]at ha;omega
 cases p;cases q;simp_all
theorem zjc (hS:Sea s nx)(hp:InS s p):J5 s p=some ((zN s p:Nat):Int):=by
 rw[zgj hp]
 have hk:=zgk hp
 have:=zc9 hS
 obtain⟨x0,x1,y0,y1,s1,s4⟩:=hp
 have h1:0≤p.y*(s.xs.length:Int):=Int.mul_nonneg y0 (by omega)
 have h2:p.y*(s.xs.length:Int)≤1000*1000:=Int.mul_le_mul (by have:=hS.h;omega) (by have:=hS.w;omega) (by omega) (by omega)
 have:=hS.w
 unfold J5
 rw[Wk (n:=p.y*(s.xs.length:Int)) (by omega) (by omega),Wk (n:=p.y*(s.xs.length:Int)+p.x) (by omega) (by omega),Wk (n:=(p.y*(s.xs.length:Int)+p.x)*4) (by omega) (by omega),
  Wk (n:=(p.y*(s.xs.length:Int)+p.x)*4+p.side) (by omega) (by omega),Wk (n:=(p.y*(s.xs.length:Int)+p.x)*4+p.side - 1) (by omega) (by omega)]
 rfl
theorem zfo {n:Int}(h1:1≤n)(h2:n≤4):YA n=some (yq n):=by
 unfold YA yq
 rw[Wk (n:=n+1) (by omega) (by omega),Int.tmod_eq_emod_of_nonneg (by omega),Wk (by omega) (by omega)]
def Edge (nx:zt→Int→Option (zt×Int))(tq p q:zt)(b l:Int):Prop:=
 (∃side,1≤side∧side≤4∧side≠yq p.side∧nx p side=some (q,l)∧b=if side=p.side then 0 else 1)∨(q=tq∧p.x=tq.x∧p.y=tq.y∧p.side≠yq tq.side∧b=1∧l=0)
theorem zfD (hS:Sea s nx)(hp:InS s p){b l:Int}(h:Edge nx tq p q b l):0≤b∧b≤1∧0≤l∧l≤2000000:=by
 rcases h with⟨side,h1,h2,_,h3,h4⟩ | ⟨_,_,_,_,h1,h2⟩
 ·
  obtain⟨_,_,h5,h6⟩:=hS.ok p side q l hp h1 h2 h3
  split at h4<;>omega
 ·
  omega
theorem zfE (hS:Sea s nx)(hp:InS s p)(ht:InS s tq){b l:Int}(h:Edge nx tq p q b l):InS s q:=by
 rcases h with⟨side,h1,h2,_,h3,h4⟩ | ⟨h,_⟩
 ·
  exact(hS.ok p side q l hp h1 h2 h3).1
 ·
  rw[h];exact ht
inductive Tr (nx:zt→Int→Option (zt×Int)) (fr tq:zt):List zt→zt→Int→Int→Prop
 | one:Tr nx fr tq [fr] fr 0 0
 | snoc {l p b n q b' n'}:Tr nx fr tq l p b n→p≠tq→Edge nx tq p q b' n'→Tr nx fr tq (l++[q]) q (b+b') (n+n')
def cnt (done:List Bool):Nat:=done.count true
theorem zfw (done:List Bool):cnt done≤done.length:=List.count_le_length
theorem zfx:∀{done:List Bool} {k:Nat},k<done.length→gx done (k:Int)=false→cnt (done.set k true)=cnt done+1
 | [],k,h,_=>by simp at h
 | b::done,0,h,hf=>by
  have:b=false:=by simpa [gx]using hf
  subst this
  simp[cnt]
 | b::done,k+1,h,hf=>by
  have ih:=zfx (done:=done) (k:=k) (by simpa using h) (by
   unfold gx at hf⊢
   simpa using hf)
  simp only[cnt,List.set_cons_succ,List.count_cons]at ih⊢
  omega
structure zlx (s:yd) (nx:zt→Int→Option (zt×Int)) (tq:zt) (best:RL) (came:List Int) (done:List Bool) (pos:Nat→Nat) (k c:Nat):Prop where
 lt:c<NN s
 at_:gx came (k:Int)=(c:Int)
 dn:gx done (c:Int)=true
 ps:gx done (k:Int)=true→pos c<pos k
 ne:(Go.DB.at_ best c).spot≠tq
 edge:∃b l,Edge nx tq (Go.DB.at_ best c).spot (Go.DB.at_ best k).spot b l∧(Go.DB.at_ best k).bends=(Go.DB.at_ best c).bends+b∧(Go.DB.at_ best k).long=(Go.DB.at_ best c).long+l
structure Bd (done:List Bool) (r:zF):Prop where
 b0:0≤r.bends
 b1:r.bends≤(cnt done:Int)
 l0:0≤r.long
 l1:r.long≤(cnt done:Int)*2000000
structure Inv (s:yd) (nx:zt→Int→Option (zt×Int)) (fr tq:zt) (best:RL) (came:List Int) (known:List Bool) (q:RL) (done:List Bool) (pos:Nat→Nat) (X:Nat→zt→Int→Int→Prop):Prop where
 lb:best.length=NN s
 lc:came.length=NN s
 lk:known.length=NN s
 ld:done.length=NN s
 heap:jM q.length q
 qok:∀r∈q,InS s r.spot∧gx known ((zN s r.spot:Nat):Int)=true∧le2 (at_ best (zN s r.spot)) r∧Bd done r
 kin:∀k,k<NN s→gx known (k:Int)=true→InS s (at_ best k).spot∧zN s (at_ best k).spot=k∧Bd done (at_ best k)
 kq:∀k,k<NN s→gx known (k:Int)=true→gx done (k:Int)=true∨at_ best k∈q
 kc:∀k,k<NN s→gx known (k:Int)=true→(gx came (k:Int) = -1∧at_ best k=⟨fr,0,0⟩)∨∃c,zlx s nx tq best came done pos k c
 dk:∀k,k<NN s→gx done (k:Int)=true→gx known (k:Int)=true∧pos k<cnt done∧(at_ best k).spot≠tq
 dq:∀k,k<NN s→gx done (k:Int)=true→∀r∈q,le2 (at_ best k) r
 de:∀k,k<NN s→gx done (k:Int)=true→∀p b l,Edge nx tq (at_ best k).spot p b l→¬X k p b l→gx known ((zN s p:Nat):Int)=true∧le2 (at_ best (zN s p)) ⟨p,(at_ best k).bends+b,(at_ best k).long+l⟩
 fi:InS s fr
 fk:gx known ((zN s fr:Nat):Int)=true
 fb:at_ best (zN s fr)=⟨fr,0,0⟩
 ti:InS s tq
theorem zdy {l:List Bool}{k:Nat}{v:Bool}(hk:k<l.length)(t:Nat):gx (l.set k v) (t:Int)=if t=k then v else gx l (t:Int):=jS hk t
theorem ziC (hS:Sea s nx){r:zF}(hr:InS s r.spot)(by_:Int){known:List Bool}{best:RL}{came:List Int}{qu:RL}(lb:best.length=NN s)(lc:came.length=NN s)(lk:known.length=NN s):
  (gx known ((zN s r.spot:Nat):Int)=true∧le2 (at_ best (zN s r.spot)) r→Qu r by_ (some s) known best came qu=some (known,best,came,qu))∧
  (¬(gx known ((zN s r.spot:Nat):Int)=true∧le2 (at_ best (zN s r.spot)) r)→qu.length<1073741824→jM qu.length qu→∃q',Qu r by_ (some s) known best came qu=some (known.set (zN s r.spot) true,best.set (zN s r.spot) r,came.set (zN s r.spot) by_,q')∧
   jM q'.length q'∧q'.length=qu.length+1∧∀y,y∈q'↔y∈qu∨y=r):=by
 have hk:=vJ hr
 have hcond:((gx known ((zN s r.spot:Nat):Int))&&((decide (((gx best ((zN s r.spot:Nat):Int)).bends)<r.bends)) || ((decide (((gx best ((zN s r.spot:Nat):Int)).bends)=r.bends))&&(decide (((gx best ((zN s r.spot:Nat):Int)).long)≤r.long)))))=decide (gx known ((zN s r.spot:Nat):Int)=true∧le2 (at_ best (zN s r.spot)) r):=by
  rw[Bool.eq_iff_iff,decide_eq_true_eq]
  unfold le2 at_
  simp
 have ik:inR known ((zN s r.spot:Nat):Int):=⟨by omega,by omega⟩
 have ib:inR best ((zN s r.spot:Nat):Int):=⟨by omega,by omega⟩
 have ic:inR came ((zN s r.spot:Nat):Int):=⟨by omega,by omega⟩
 have start:∀{β:Type} (k:Int→Option β),(Option.bind (some s) fun p1=>Option.bind (J5 p1 r.spot) k)=k ((zN s r.spot:Nat):Int):=fun k=>by
  rw[zq,zjc hS hr,zq]
 constructor
 ·
  intro h
  unfold Qu
  rw[start,zo ik,zo (fun _=>ib),zo (fun _ _=>ib),zo (fun _ _ _=>ib),hcond,decide_eq_true h]
  rfl
 ·
  intro h hq hh
  obtain⟨q',h1,h2,h3,h4⟩:=zl1 r hq hh
  refine⟨q',?_,h2,h3,h4⟩
  unfold Qu
  rw[start,zo ik,zo (fun _=>ib),zo (fun _ _=>ib),zo (fun _ _ _=>ib),hcond,decide_eq_false h]
  simp only[cond_false,zG]
  rw[zo ib,zo ic,zo ik,h1]
  simp only[zq,Int.toNat_natCast]
theorem zj5 (hS:Sea s nx){best:RL}{came:List Int}{known:List Bool}{qu:RL}{done:List Bool}{pos:Nat→Nat}{X:Nat→zt→Int→Int→Prop}(hI:Inv s nx fr tq best came known qu done pos X)
  {r:zF} {kp:Nat} {b l:Int} (hkp:kp<NN s) (hd:gx done (kp:Int)=true) (hE:Edge nx tq (at_ best kp).spot r.spot b l) (hb:r.bends=(at_ best kp).bends+b) (hl:r.long=(at_ best kp).long+l)
  (hbd:Bd done r) (hmax:∀k,k<NN s→gx done (k:Int)=true→le2 (at_ best k) (at_ best kp)) (hq:qu.length<1073741824):
  ∃known' best' came' q',Qu r (kp:Int) (some s) known best came qu=some (known',best',came',q')∧Inv s nx fr tq best' came' known' q' done pos (fun k p b' l'=>X k p b' l'∧¬(k=kp∧p=r.spot∧b'=b∧l'=l))∧
   q'.length≤qu.length+1∧∀k,k<NN s→gx done (k:Int)=true→at_ best' k=at_ best k:=by
 have hpin:=(hI.kin kp hkp (hI.dk kp hkp hd).1).1
 have hr:InS s r.spot:=zfE hS hpin hI.ti hE
 have hebd:=zfD hS hpin hE
 obtain⟨v1,v2⟩:=ziC hS hr (kp:Int) (qu:=qu) hI.lb hI.lc hI.lk
 have hk:=vJ hr
 have hle:∀k,k<NN s→gx done (k:Int)=true→le2 (at_ best k) r:=fun k k1 k2=>by
  have:=hmax k k1 k2
  unfold le2 at this⊢;omega
 by_cases c:gx known ((zN s r.spot:Nat):Int)=true∧le2 (at_ best (zN s r.spot)) r
 ·
  refine⟨known,best,came,qu,v1 c,?_,by omega,fun _ _ _=>rfl⟩
  refine { hI with de:=fun k k1 k2 p b' l' he hx=>?_ }
  by_cases cc:k=kp∧p=r.spot∧b'=b∧l'=l
  ·
   obtain⟨rfl,rfl,rfl,rfl⟩:=cc
   refine⟨c.1,?_⟩
   have:=c.2
   unfold le2 at this⊢
   simp only;omega
  ·
   exact hI.de k k1 k2 p b' l' he (fun hX=>hx ⟨hX,cc⟩)
 ·
  obtain⟨q',h1,h2,h3,h4⟩:=v2 c hq hI.heap
  have nd:gx done ((zN s r.spot:Nat):Int)≠true:=fun hd'=>c ⟨(hI.dk _ hk hd').1,hle _ hk hd'⟩
  have atb:∀k,at_ (best.set (zN s r.spot) r) k=if k=zN s r.spot then r else at_ best k:=fun k=>jS (by rw[hI.lb];exact hk) k
  have atk:∀k:Nat,gx (known.set (zN s r.spot) true) (k:Int)=if k=zN s r.spot then true else gx known (k:Int):=fun k=>zdy (by rw[hI.lk];exact hk) k
  have atc:∀k:Nat,gx (came.set (zN s r.spot) (kp:Int)) (k:Int)=if k=zN s r.spot then(kp:Int)else gx came (k:Int):=fun k=>jS (by rw[hI.lc];exact hk) k
  have keep:∀k:Nat,gx done (k:Int)=true→at_ (best.set (zN s r.spot) r) k=at_ best k:=fun k hd'=>by
   have hne:k≠zN s r.spot:=fun e=>nd (by rw[←e];exact hd')
   rw[atb,if_neg hne]
  have lower:∀k:Nat,gx known (k:Int)=true→le2 (at_ (best.set (zN s r.spot) r) k) (at_ best k):=fun k hk'=>by
   rw[atb]
   by_cases e:k=zN s r.spot
   ·
    rw[if_pos e]
    subst e
    exact zb5 (Classical.byContradiction fun hn=>c ⟨hk',zdZ.1 hn⟩)
   ·
    rw[if_neg e];exact QK _
  have more:∀k:Nat,gx known (k:Int)=true→gx (known.set (zN s r.spot) true) (k:Int)=true:=fun k hk'=>by
   rw[atk];split
   ·
    rfl
   ·
    exact hk'
  refine⟨_,_,_,q',h1,?_,by omega,fun k _ hd'=>keep k hd'⟩
  refine⟨by rw[List.length_set];exact hI.lb,by rw[List.length_set];exact hI.lc,by rw[List.length_set];exact hI.lk,hI.ld,h2,?_,?_,?_,?_,?_,?_,?_,hI.fi,more _ hI.fk,?_,hI.ti⟩
  ·
   intro y hy
   rcases(h4 y).1 hy with hy | rfl
   ·
    obtain⟨a1,a2,a3,a4⟩:=hI.qok y hy
    exact⟨a1,more _ a2,Yp (lower _ a2) a3,a4⟩
   ·
    exact⟨hr,by rw[atk,if_pos rfl],by rw[atb,if_pos rfl];exact QK _,hbd⟩
  ·
   intro k k1 k2
   rw[atb]
   by_cases e:k=zN s r.spot
   ·
    rw[if_pos e];exact⟨hr,e.symm,hbd⟩
   ·
    rw[if_neg e]
    rw[atk,if_neg e]at k2
    exact hI.kin k k1 k2
  ·
   intro k k1 k2
   rw[atb]
   by_cases e:k=zN s r.spot
   ·
    rw[if_pos e];exact .inr ((h4 r).2 (.inr rfl))
   ·
    rw[if_neg e]
    rw[atk,if_neg e]at k2
    exact(hI.kq k k1 k2).imp id (fun h=>(h4 _).2 (.inl h))
  ·
   intro k k1 k2
   by_cases e:k=zN s r.spot
   ·
    right
    subst e
    refine⟨kp,hkp,by rw[atc,if_pos rfl],hd,fun hd'=>absurd hd' nd,?_,b,l,?_,?_,?_⟩
    ·
     rw[keep kp hd];exact(hI.dk kp hkp hd).2.2
    ·
     rw[keep kp hd,atb,if_pos rfl];exact hE
    ·
     rw[keep kp hd,atb,if_pos rfl];exact hb
    ·
     rw[keep kp hd,atb,if_pos rfl];exact hl
   ·
    rw[atk,if_neg e]at k2
    rcases hI.kc k k1 k2 with⟨g1,g2⟩ | ⟨c',g⟩
    ·
     exact .inl ⟨by rw[atc,if_neg e];exact g1,by rw[atb,if_neg e];exact g2⟩
    ·
     refine .inr ⟨c',g.lt,by rw[atc,if_neg e];exact g.at_,g.dn,g.ps,by rw[keep _ g.dn];exact g.ne,?_⟩
     rw[keep _ g.dn,atb,if_neg e]
     exact g.edge
  ·
   intro k k1 k2
   obtain⟨g1,g2,g3⟩:=hI.dk k k1 k2
   exact⟨more _ g1,g2,by rw[keep k k2];exact g3⟩
  ·
   intro k k1 k2 y hy
   rw[keep k k2]
   rcases(h4 y).1 hy with hy | rfl
   ·
    exact hI.dq k k1 k2 y hy
   ·
    exact hle k k1 k2
  ·
   intro k k1 k2 p b' l' he hx
   rw[keep k k2]at he⊢
   by_cases cc:k=kp∧p=r.spot∧b'=b∧l'=l
   ·
    obtain⟨rfl,rfl,rfl,rfl⟩:=cc
    refine⟨by rw[atk,if_pos rfl],?_⟩
    rw[atb,if_pos rfl]
    unfold le2;simp only;omega
   ·
    obtain⟨g1,g2⟩:=hI.de k k1 k2 p b' l' he (fun hX=>hx ⟨hX,cc⟩)
    exact⟨more _ g1,Yp (lower _ g1) g2⟩
  ·
   rw[atb]
   by_cases e:zN s fr=zN s r.spot
   ·
    exfalso
    refine c ⟨e▸hI.fk,?_⟩
    rw[←e,hI.fb]
    have:=hbd.b0;have:=hbd.l0
    unfold le2;simp only;omega
   ·
    rw[if_neg e];exact hI.fb
end
section
theorem zl5 {l:List zt}(hl:l.length≤10000000):zcU l=some l.reverse:=by
 unfold zcU
 rw[zG,Wk (by omega) (by omega)]
 obtain⟨e,h1,h2⟩:=ve (body:=zeU) (s0:=((0:Int),(l.length:Int) - 1,l))
  (fun st=>0≤st.1∧st.1+st.2.1=(l.length:Int) - 1∧ -1≤st.2.1∧st.2.2.length=l.length∧∀k:Nat,k<l.length→gx st.2.2 (k:Int)=if(k:Int)<st.1∨st.2.1<k then gx l ((l.length:Int) - 1 - k)else gx l (k:Int))
  (fun st=>(l.length - st.1).toNat) (fun e=>e=l.reverse)
  ⟨by simp,by simp,by simp only;omega,rfl,fun k hk=>by rw[if_neg (by simp only;omega)]⟩ (fun st hI=>by
   obtain⟨i,j,z⟩:=st
   obtain⟨i1,i2,i3,i4,i5⟩:=hI
   simp only at i1 i2 i3 i4 i5
   unfold zeU
   simp only
   by_cases c:i<j
   ·
    left
    obtain⟨n,rfl⟩:=Int.eq_ofNat_of_zero_le i1
    obtain⟨m,rfl⟩:=Int.eq_ofNat_of_zero_le (show 0≤j by omega)
    rw[decide_eq_true c,cond_true,zo ⟨by omega,by omega⟩,zG,zo ⟨by omega,by omega⟩,zG,zo ⟨by omega,by omega⟩,zo ⟨by omega,by simp;omega⟩,zG,zG,zG,Wk (by omega) (by omega),Wk (by omega) (by omega)]
    refine⟨_,rfl,⟨by simp only;omega,by simp only;omega,by simp only;omega,by simp[i4],fun k hk=>?_⟩,by simp only;omega⟩
    simp only[Int.toNat_natCast]
    rw[zS (by simp;omega),List.getElem_set,List.getElem_set]
    by_cases c1:m=k
    ·
     subst c1
     rw[if_pos rfl,if_pos (by omega),i5 n (by omega),if_neg (by omega)]
     congr 1;omega
    ·
     rw[if_neg c1]
     by_cases c2:n=k
     ·
      subst c2
      rw[if_pos rfl,if_pos (by omega),i5 m (by omega),if_neg (by omega)]
      congr 1;omega
     ·
      rw[if_neg c2]
      have:=i5 k hk
      rw[zS (by omega)]at this
      rw[this]
      by_cases c3:(k:Int)<n∨(m:Int)<k
      ·
       rw[if_pos c3,if_pos (by omega)]
      ·
       rw[if_neg c3,if_neg (by omega)]
   ·
    right
    rw[decide_eq_false c,cond_false]
    refine⟨_,rfl,List.ext_getElem (by simp[i4]) fun k h1 h2=>?_⟩
    have hk:k<l.length:=by omega
    have:=i5 k hk
    rw[zS (by omega)]at this
    rw[this,List.getElem_reverse]
    by_cases c3:(k:Int)<i∨j<k
    ·
     rw[if_pos c3,show(l.length:Int) - 1 - k=((l.length - 1 - k:Nat):Int)by omega,zS (by omega)]
    ·
     rw[if_neg c3,zS (by omega)]
     congr 1;omega)
 rw[h1,h2]
variable {s:yd} {nx:zt→Int→Option (zt×Int)} {p q fr tq:zt}
abbrev zfg:=List zF×List Int×List Bool×List zF×List Bool
theorem zmA (hS:Sea s nx){best:RL}{came:List Int}{known:List Bool}{qu:RL}{done:List Bool}{pos:Nat→Nat}{X:Nat→zt→Int→Int→Prop}(hI:Inv s nx fr tq best came known qu done pos X)(s16:zfg)(e1:s16.1=best)(e2:s16.2.1=came):
  ∀(n k:Nat) (way:List zt),k<NN s→gx done (k:Int)=true→pos k≤n→way.length+n+1≤10000000→
   ∃l,loop (QV s16) ((k:Int),way)=some (way++l.reverse)∧Tr nx fr tq l (at_ best k).spot (at_ best k).bends (at_ best k).long∧l.length≤n+1:=by
 intro n
 induction n using Nat.strongRecOn with
 | _ n ih=>
  intro k way hk hd hp hw
  have hkn:=(hI.dk k hk hd).1
  have step:QV s16 ((k:Int),way)=some (.again (gx came (k:Int),way++[(at_ best k).spot])):=by
   unfold QV
   simp only[e1,e2]
   rw[decide_eq_true (show 0≤((k:Nat):Int)by omega),cond_true,zo ⟨by omega,by rw[hI.lb];omega⟩,zo (by rw[jd];simp;omega),zG,zo ⟨by omega,by rw[hI.lc];omega⟩,zG]
   rfl
  rw[vc step]
  rcases hI.kc k hk hkn with⟨g1,g2⟩ | ⟨c,g⟩
  ·
   refine⟨[fr],?_,by rw[g2];exact .one,by simp⟩
   rw[g1,g2]
   exact JF (by unfold QV;simp)
  ·
   obtain⟨b,l',hE,hb,hl⟩:=g.edge
   have hpc:=g.ps hd
   rw[g.at_]
   obtain⟨l,h1,h2,h3⟩:=ih (pos c) (by omega) c (way++[(at_ best k).spot]) g.lt g.dn (Nat.le_refl _) (by simp;omega)
   refine⟨l++[(at_ best k).spot],by rw[h1];simp,?_,by simp;omega⟩
   rw[hb,hl]
   exact .snoc h2 g.ne hE
theorem zmz (hS:Sea s nx){best:RL}{came:List Int}{known:List Bool}{qu:RL}{done:List Bool}{pos:Nat→Nat}{X:Nat→zt→Int→Int→Prop}(hI:Inv s nx fr tq best came known qu done pos X)(s16:zfg)(e1:s16.1=best)(e2:s16.2.1=came)
  {k:Nat} (hk:k<NN s) (hkn:gx known (k:Int)=true):
  ∃l,loop (QV s16) ((k:Int),([]:List zt))=some l.reverse∧Tr nx fr tq l (at_ best k).spot (at_ best k).bends (at_ best k).long∧l.length≤4000002:=by
 have hN:=zc9 hS
 have step:QV s16 ((k:Int),([]:List zt))=some (.again (gx came (k:Int),[(at_ best k).spot])):=by
  unfold QV
  simp only[e1,e2]
  rw[decide_eq_true (show 0≤((k:Nat):Int)by omega),cond_true,zo ⟨by omega,by rw[hI.lb];omega⟩,zo (by rw[jd];simp),zG,zo ⟨by omega,by rw[hI.lc];omega⟩,zG]
  rfl
 rw[vc step]
 rcases hI.kc k hk hkn with⟨g1,g2⟩ | ⟨c,g⟩
 ·
  refine⟨[fr],?_,by rw[g2];exact .one,by simp⟩
  rw[g1,g2]
  exact JF (by unfold QV;simp)
 ·
  obtain⟨b,l',hE,hb,hl⟩:=g.edge
  have hc:=(hI.dk c g.lt g.dn).2.1
  have:=zfw done
  rw[hI.ld]at this
  rw[g.at_]
  obtain⟨l,h1,h2,h3⟩:=zmA hS hI s16 e1 e2 (pos c) c [(at_ best k).spot] g.lt g.dn (Nat.le_refl _) (by simp;omega)
  refine⟨l++[(at_ best k).spot],by rw[h1];simp,?_,by simp;omega⟩
  rw[hb,hl]
  exact .snoc h2 g.ne hE
def XS (nx:zt→Int→Option (zt×Int))(kp:Nat)(sp:zt)(m:Int):Nat→zt→Int→Int→Prop:=
 fun k p b l=>k=kp∧∃side,m≤side∧side≤4∧side≠yq sp.side∧nx sp side=some (p,l)∧b=if side=sp.side then 0 else 1
theorem Inv.weak {best:RL}{came:List Int}{known:List Bool}{qu:RL}{done:List Bool}{pos:Nat→Nat}{X Y:Nat→zt→Int→Int→Prop}(hI:Inv s nx fr tq best came known qu done pos X)(h:∀k p b l,X k p b l→Y k p b l):
  Inv s nx fr tq best came known qu done pos Y:={ hI with de:=fun k k1 k2 p b l he hx=>hI.de k k1 k2 p b l he (fun hX=>hx (h _ _ _ _ hX)) }
theorem zq6 (hS:Sea s nx){done:List Bool}{pos:Nat→Nat}{r3:zF×List zF}{kp:Nat}(hkp:kp<NN s)(hd:gx done (kp:Int)=true)(hsp:InS s r3.1.spot)
    (hkb:r3.1.bends+1≤(cnt done:Int)∧r3.1.long+2000000≤(cnt done:Int)*2000000) (hk0:0≤r3.1.bends∧0≤r3.1.long) (hcnt:cnt done≤4000000)
    {K:Nat} (hK:K≤1000000000) {best0:RL} {came0:List Int} {known0:List Bool} {qu0:RL} (hI0:Inv s nx fr tq best0 came0 known0 qu0 done pos (XS nx kp r3.1.spot 1)) (hr0:at_ best0 kp=r3.1) (hmax0:∀k,k<NN s→gx done (k:Int)=true→le2 (at_ best0 k) r3.1) (hq0:qu0.length≤K):
    ∃best came known qu,loop (zcH (kp:Int) r3 s done) (1,best0,came0,known0,qu0)=some (.again (best,came,known,qu,done))∧Inv s nx fr tq best came known qu done pos (fun _ _ _ _=>False)∧qu.length≤K+4:=by
  obtain⟨e,he,best,came,known,qu,rfl,h1,h2⟩:=ve (body:=zcH (kp:Int) r3 s done) (s0:=((1:Int),best0,came0,known0,qu0))
    (fun st=>∃(m:Nat) (best:RL) (came:List Int) (known:List Bool) (qu:RL),st=((m:Int),best,came,known,qu)∧1≤m∧m≤5∧Inv s nx fr tq best came known qu done pos (XS nx kp r3.1.spot (m:Int))∧at_ best kp=r3.1∧
      (∀k,k<NN s→gx done (k:Int)=true→le2 (at_ best k) r3.1)∧qu.length+1≤K+m) (fun st=>(5 - st.1).toNat)
    (fun e=>∃best came known qu,e = .again (best,came,known,qu,done)∧Inv s nx fr tq best came known qu done pos (fun _ _ _ _=>False)∧qu.length≤K+4)
    ⟨1,best0,came0,known0,qu0,rfl,by omega,by omega,hI0,hr0,hmax0,by omega⟩ (by
    rintro st ⟨m,best,came,known,qu,rfl,m1,m5,hI,hr,hmax,hq⟩
    unfold zcH
    simp only
    by_cases c:m=5
    · right
      subst c
      refine⟨_,by rw[decide_eq_false (by omega),cond_false],best,came,known,qu,rfl,hI.weak (fun k p b l ⟨_,side,h1,h2,_⟩=>by omega),by omega⟩
    · left
      rw[decide_eq_true (show((m:Nat):Int)≤4 by omega),cond_true,zfo hsp.s1 hsp.s4,zq]
      have next:∀(bb:RL) (cc:List Int) (kk:List Bool) (qq:RL),Inv s nx fr tq bb cc kk qq done pos (XS nx kp r3.1.spot ((m:Int)+1))→at_ bb kp=r3.1→(∀k,k<NN s→gx done (k:Int)=true→le2 (at_ bb k) r3.1)→qq.length≤K+m→
          ∃ s', (bnd (W ((m : Int) + 1)) fun side1 => some (zI.again (ρ := zI zfg (Res Unit (List zt × Bool))) (side1, bb, cc, kk, qq))) = some (.again s') ∧ (∃ (m : Nat) (best : RL) (came : List Int) (known : List Bool) (qu : RL), s' = ((m : Int), best, came, known, qu) ∧ 1 ≤ m ∧ m ≤ 5 ∧ Inv s nx fr tq best came known qu done pos (XS nx kp r3.1.spot (m : Int)) ∧ at_ best kp = r3.1 ∧
            (∀k,k<NN s→gx done (k:Int)=true→le2 (at_ best k) r3.1)∧qu.length+1≤K+m)∧(5 - s'.1).toNat<(5 - (m:Int)).toNat:=fun bb cc kk qq a1 a2 a3 a4=>by
        rw[Wk (by omega) (by omega),zG]
        refine⟨_,rfl,⟨m+1,bb,cc,kk,qq,by simp,by omega,by omega,?_,a2,a3,by omega⟩,by simp only;omega⟩
        rw[show(((m+1:Nat):Int))=(m:Int)+1 by omega];exact a1
      by_cases cb:(m:Int)=yq r3.1.spot.side
      · rw[decide_eq_true cb,cond_true,zq]
        refine next best came known qu (hI.weak ?_) hr hmax (by omega)
        rintro k p b l ⟨h1,side,h2,h3,h4,h5⟩
        exact ⟨h1, side, by have : side ≠ (m : Int) := fun e => h4 (e.trans cb)
                            omega,h3,h4,h5⟩
      · rw[decide_eq_false cb,cond_false]
        obtain⟨r8,hr8,hc⟩:=hS.next r3.1.spot (m:Int) hsp (by omega) (by omega)
        rw[hr8,zq]
        rcases hc with⟨t,hn⟩ | ⟨t,hn⟩
        · rw[t]
          simp only[Bool.not_true,cond_false]
          have hok:=hS.ok _ _ _ _ hsp (by omega) (by omega) hn
          have hj:(bif !decide ((m:Int)=r3.1.spot.side)then(bnd (W (r3.1.bends+1)) fun bends1=>some bends1)else some r3.1.bends)=some (r3.1.bends+if(m:Int)=r3.1.spot.side then 0 else 1):=by
            by_cases cs:(m:Int)=r3.1.spot.side
            · simp[cs]
            · simp only[cs,decide_false,Bool.not_false,cond_true,if_false,zG]
              rw[Wk (by omega) (by omega)]
          rw[hj,zq,Wk (by omega) (by omega)]
          have hE:Edge nx tq (at_ best kp).spot r8.1 (if(m:Int)=r3.1.spot.side then 0 else 1) r8.2.1:=by
            rw[hr];exact .inl ⟨(m:Int),by omega,by omega,cb,hn,rfl⟩
          obtain⟨known',best',came',q',f1,f2,f3,f4⟩:=zj5 hS hI (r:=⟨r8.1,r3.1.bends+if(m:Int)=r3.1.spot.side then 0 else 1,r3.1.long+r8.2.1⟩) hkp hd hE (by rw[hr]) (by rw[hr]) (by
            refine⟨?_,?_,?_,?_⟩<;>simp only<;>(try split)<;>omega) (fun k k1 k2=>by rw[hr];exact hmax k k1 k2) (by omega)
          rw[f1]
          simp only[zq]
          refine next best' came' known' q' (f2.weak ?_) (by rw[f4 kp hkp hd];exact hr) (fun k k1 k2=>by rw[f4 k k1 k2];exact hmax k k1 k2) (by omega)
          rintro k p b l ⟨⟨h1,side,h2,h3,h4,h5,h6⟩,h7⟩
          refine⟨h1,side,?_,h3,h4,h5,h6⟩
          by_cases cs:side=(m:Int)
          · exfalso
            subst cs
            rw[hn]at h5
            simp only[Option.some.injEq,Prod.mk.injEq]at h5
            exact h7 ⟨h1,h5.1.symm,h6,h5.2.symm⟩
          · omega
        · rw[t]
          simp only[Bool.not_false,cond_true,zq]
          refine next best came known qu (hI.weak ?_) hr hmax (by omega)
          rintro k p b l ⟨h1,side,h2,h3,h4,h5,h6⟩
          refine⟨h1,side,?_,h3,h4,h5,h6⟩
          by_cases cs:side=(m:Int)
          · exfalso;subst cs;rw[hn]at h5;cases h5
          · omega)
  exact⟨best,came,known,qu,he,h1,h2⟩
theorem ziU (hS:Sea s nx){best:RL}{came:List Int}{known:List Bool}{qu:RL}{done:List Bool}{pos:Nat→Nat}(hI:Inv s nx fr tq best came known qu done pos (fun _ _ _ _=>False)){l:List zt}{p:zt}{b n:Int}(h:Tr nx fr tq l p b n):
  InS s p∧((gx done ((zN s p:Nat):Int)=true∧le2 (at_ best (zN s p)) ⟨p,b,n⟩)∨∃y∈qu,le2 y ⟨p,b,n⟩):=by
 induction h with
 | one=>
  refine⟨hI.fi,?_⟩
  rcases hI.kq _ (vJ hI.fi) hI.fk with h | h
  ·
   exact .inl ⟨h,by rw[hI.fb];exact QK _⟩
  ·
   exact .inr ⟨_,h,by rw[hI.fb];exact QK _⟩
 | @snoc l p b n q b' n' _ hne hE ih=>
  obtain⟨hp,ih⟩:=ih
  have hq:=zfE hS hp hI.ti hE
  have hbd:=zfD hS hp hE
  refine⟨hq,?_⟩
  rcases ih with⟨h1,h2⟩ | ⟨y,h1,h2⟩
  ·
   have hk:=vJ hp
   have hsp:(at_ best (zN s p)).spot=p:=by
    obtain⟨g1,g2,_⟩:=hI.kin _ hk (hI.dk _ hk h1).1
    exact zbZ g1 hp g2
   obtain⟨g1,g2⟩:=hI.de _ hk h1 q b' n' (by rw[hsp];exact hE) (fun h=>h)
   have g3:le2 (at_ best (zN s q)) ⟨q,b+b',n+n'⟩:=Yp g2 (by unfold le2 at h2⊢;simp only at h2⊢;omega)
   rcases hI.kq _ (vJ hq) g1 with h | h
   ·
    exact .inl ⟨h,g3⟩
   ·
    exact .inr ⟨_,h,g3⟩
  ·
   exact .inr ⟨y,h1,Yp h2 (by unfold le2;simp only;omega)⟩
end
section
variable {s:yd} {nx:zt→Int→Option (zt×Int)} {p q fr tq:zt}
theorem Inv.weakE {best:RL}{came:List Int}{known:List Bool}{qu:RL}{done:List Bool}{pos:Nat→Nat}{X Y:Nat→zt→Int→Int→Prop}(hI:Inv s nx fr tq best came known qu done pos X)
  (h:∀k p b l,gx done ((k:Nat):Int)=true→Edge nx tq (at_ best k).spot p b l→X k p b l→Y k p b l):Inv s nx fr tq best came known qu done pos Y:=
 { hI with de:=fun k k1 k2 p b l he hx=>hI.de k k1 k2 p b l he (fun hX=>hx (h _ _ _ _ k2 he hX)) }
theorem zpl {best:RL}{came:List Int}{known:List Bool}{qu:RL}{done:List Bool}{pos:Nat→Nat}(hI:Inv s nx fr tq best came known qu done pos (fun _ _ _ _=>False)){r:zF}{rest:RL}(hh:jM rest.length rest)(h1:r∈qu)(h2:∀y∈rest,y∈qu)(h3:∀y∈qu,y=r∨y∈rest)
  (hd:gx done ((zN s r.spot:Nat):Int)=true):Inv s nx fr tq best came known rest done pos (fun _ _ _ _=>False):=
 { hI with
  heap:=hh
  qok:=fun y hy=>hI.qok y (h2 y hy)
  kq:=fun k k1 k2=>by
   rcases hI.kq k k1 k2 with h | h
   ·
    exact .inl h
   ·
    rcases h3 _ h with e | e
    ·
     left
     have:=(hI.kin k k1 k2).2.1
     rw[e]at this
     rw[←this];exact hd
    ·
     exact .inr e
  dq:=fun k k1 k2 y hy=>hI.dq k k1 k2 y (h2 y hy) }
theorem zpk {best:RL}{came:List Int}{known:List Bool}{qu:RL}{done:List Bool}{pos:Nat→Nat}(hI:Inv s nx fr tq best came known qu done pos (fun _ _ _ _=>False)){r:zF}{rest:RL}(hh:jM rest.length rest)(h1:r∈qu)(hmin:∀y∈qu,le2 r y)(h2:∀y∈rest,y∈qu)(h3:∀y∈qu,y=r∨y∈rest)
  (hd:gx done ((zN s r.spot:Nat):Int)≠true) (hne:r.spot≠tq):
  at_ best (zN s r.spot)=r∧∃pos',Inv s nx fr tq best came known rest (done.set (zN s r.spot) true) pos' (fun k _ _ _=>k=zN s r.spot)∧(∀k,k<NN s→gx (done.set (zN s r.spot) true) (k:Int)=true→le2 (at_ best k) r):=by
 obtain⟨g1,g2,g3,g4⟩:=hI.qok r h1
 have hk:=vJ g1
 obtain⟨a1,a2,a3⟩:=hI.kin _ hk g2
 have hbq:at_ best (zN s r.spot)∈qu:=(hI.kq _ hk g2).resolve_left hd
 have heq:at_ best (zN s r.spot)=r:=by
  have e1:=zbZ a1 g1 a2
  have e2:=hmin _ hbq
  unfold le2 at e2 g3
  generalize at_ best (zN s r.spot)=z at *
  cases z;cases r
  simp only[zF.mk.injEq]at *
  exact⟨e1,by omega,by omega⟩
 have hdl:zN s r.spot<done.length:=by rw[hI.ld];exact hk
 have hf:gx done ((zN s r.spot:Nat):Int)=false:=by simpa using hd
 have hc:cnt (done.set (zN s r.spot) true)=cnt done+1:=zfx hdl hf
 have atd:∀k:Nat,gx (done.set (zN s r.spot) true) (k:Int)=if k=zN s r.spot then true else gx done (k:Int):=fun k=>zdy hdl k
 have old:∀k:Nat,gx done (k:Int)=true→k≠zN s r.spot:=fun k h e=>hd (by rw[←e];exact h)
 have mono:∀k:Nat,gx done (k:Int)=true→gx (done.set (zN s r.spot) true) (k:Int)=true:=fun k h=>by rw[atd,if_neg (old k h)];exact h
 have bd:∀y,Bd done y→Bd (done.set (zN s r.spot) true) y:=fun y hy=>by
  obtain⟨b0,b1,l0,l1⟩:=hy
  refine⟨b0,by rw[hc];omega,l0,by rw[hc];omega⟩
 refine⟨heq,fun k=>if k=zN s r.spot then cnt done else pos k,?_,?_⟩
 ·
  refine⟨hI.lb,hI.lc,hI.lk,by rw[List.length_set];exact hI.ld,hh,fun y hy=>?_,fun k k1 k2=>?_,fun k k1 k2=>?_,fun k k1 k2=>?_,fun k k1 k2=>?_,fun k k1 k2 y hy=>?_,fun k k1 k2 p b l he hx=>?_,hI.fi,hI.fk,hI.fb,hI.ti⟩
  ·
   obtain⟨b1,b2,b3,b4⟩:=hI.qok y (h2 y hy)
   exact⟨b1,b2,b3,bd _ b4⟩
  ·
   obtain⟨b1,b2,b3⟩:=hI.kin k k1 k2
   exact⟨b1,b2,bd _ b3⟩
  ·
   by_cases e:k=zN s r.spot
   ·
    left;rw[atd,if_pos e]
   ·
    rcases hI.kq k k1 k2 with h | h
    ·
     exact .inl (mono k h)
    ·
     rcases h3 _ h with e2 | e2
     ·
      exfalso
      have:=(hI.kin k k1 k2).2.1
      rw[e2]at this
      exact e this.symm
     ·
      exact .inr e2
  ·
   rcases hI.kc k k1 k2 with h | ⟨c,g⟩
   ·
    exact .inl h
   ·
    have hc1:=(hI.dk c g.lt g.dn).2.1
    have hcn:=old c g.dn
    refine .inr ⟨c,g.lt,g.at_,mono c g.dn,fun hd'=>?_,g.ne,g.edge⟩
    rw[if_neg hcn]
    by_cases e:k=zN s r.spot
    ·
     rw[if_pos e];exact hc1
    ·
     rw[if_neg e]
     rw[atd,if_neg e]at hd'
     exact g.ps hd'
  ·
   by_cases e:k=zN s r.spot
   ·
    subst e
    rw[if_pos rfl,hc,heq]
    exact⟨g2,by omega,hne⟩
   ·
    rw[if_neg e,hc]
    rw[atd,if_neg e]at k2
    obtain⟨b1,b2,b3⟩:=hI.dk k k1 k2
    exact⟨b1,by omega,b3⟩
  ·
   by_cases e:k=zN s r.spot
   ·
    subst e
    rw[heq];exact hmin y (h2 y hy)
   ·
    rw[atd,if_neg e]at k2
    exact hI.dq k k1 k2 y (h2 y hy)
  ·
   by_cases e:k=zN s r.spot
   ·
    exact absurd e hx
   ·
    rw[atd,if_neg e]at k2
    exact hI.de k k1 k2 p b l he (fun h=>h)
 ·
  intro k k1 k2
  by_cases e:k=zN s r.spot
  ·
   subst e;rw[heq];exact QK _
  ·
   rw[atd,if_neg e]at k2
   exact hI.dq k k1 k2 r h1
def zlH (nx:zt→Int→Option (zt×Int))(fr tq:zt)(e:List zt×Bool):Prop:=
 (e=([],false)∧∀l b n,¬Tr nx fr tq l tq b n)∨∃way b n,e=(way,true)∧Tr nx fr tq way tq b n∧way.length≤4000002∧∀l' b' n',Tr nx fr tq l' tq b' n'→b<b'∨(b=b'∧n≤n')
theorem znh (hS:Sea s nx){best0:RL}{came0:List Int}{known0:List Bool}{qu0:RL}{done0:List Bool}{pos0:Nat→Nat}(hI0:Inv s nx fr tq best0 came0 known0 qu0 done0 pos0 (fun _ _ _ _=>False))(hq0:qu0.length≤1+4*cnt done0):
    ∃e,loop (zcG s tq) (best0,came0,known0,qu0,done0)=some e∧((e = .nx ()∧∀l b n,¬Tr nx fr tq l tq b n)∨∃way b n,e = .ab (way,true)∧Tr nx fr tq way tq b n∧way.length≤4000002∧∀l' b' n',Tr nx fr tq l' tq b' n'→b<b'∨(b=b'∧n≤n')):=by
  have hN:=zc9 hS
  refine ve (body:=zcG s tq) (s0:=(best0,came0,known0,qu0,done0))
    (fun st=>∃(best:RL) (came:List Int) (known:List Bool) (qu:RL) (done:List Bool) (pos:Nat→Nat),st=(best,came,known,qu,done)∧Inv s nx fr tq best came known qu done pos (fun _ _ _ _=>False)∧qu.length≤1+4*cnt done)
    (fun st=>5*(NN s - cnt st.2.2.2.2)+st.2.2.2.1.length) _ ⟨best0,came0,known0,qu0,done0,pos0,rfl,hI0,hq0⟩ ?_
  rintro st ⟨best,came,known,qu,done,pos,rfl,hI,hq⟩
  have hcl:=zfw done
  rw[hI.ld]at hcl
  have hto:∀{r:zF} (h1:r∈qu) (hmin:∀y∈qu,le2 r y),r.spot=tq→∀l' b' n',Tr nx fr tq l' tq b' n'→r.bends<b'∨(r.bends=b'∧r.long≤n'):=by
    intro r h1 hmin hrt l' b' n' htr
    obtain⟨hp,h⟩:=ziU hS hI htr
    rcases h with⟨g1,_⟩ | ⟨y,g1,g2⟩
    · exfalso
      obtain⟨k1,_,k3⟩:=hI.dk _ (vJ hp) g1
      obtain⟨c1,c2,_⟩:=hI.kin _ (vJ hp) k1
      exact k3 (zbZ c1 hp c2)
    · have:=Yp (hmin y g1) g2
      unfold le2 at this
      exact this
  unfold zcG Ja
  simp only[zq]
  by_cases c0:qu.length=0
  · right
    refine⟨_,by rw[decide_eq_false (by omega),cond_false],.inl ⟨rfl,fun l b n htr=>?_⟩⟩
    obtain⟨hp,h⟩:=ziU hS hI htr
    rcases h with⟨g1,_⟩ | ⟨y,g1,_⟩
    · obtain⟨k1,_,k3⟩:=hI.dk _ (vJ hp) g1
      obtain⟨c1,c2,_⟩:=hI.kin _ (vJ hp) k1
      exact k3 (zbZ c1 hp c2)
    · rw[List.length_eq_zero_iff.1 c0]at g1;cases g1
  · rw[decide_eq_true (show(0:Int)<(qu.length:Int)by omega),cond_true]
    obtain⟨⟨r,rest⟩,e1,e2,e3,e4,e5,e6,e7⟩:=zlZ (by omega) (by omega) hI.heap
    simp only at e1 e2 e3 e4 e5 e6 e7
    rw[e1,zq]
    obtain⟨g1,g2,g3,g4⟩:=hI.qok r e4
    have hk:=vJ g1
    simp only
    have idn:inR done ((zN s r.spot:Nat):Int):=⟨by omega,by rw[hI.ld];omega⟩
    rw[zjc hS g1,zq,zo idn]
    by_cases hd:gx done ((zN s r.spot:Nat):Int)=true
    · left
      rw[hd,cond_true]
      exact⟨_,rfl,⟨best,came,known,rest,done,pos,rfl,zpl hI e2 e4 e6 e7 hd,by omega⟩,by simp only;omega⟩
    · rw[show gx done ((zN s r.spot:Nat):Int)=false by simpa using hd,cond_false,zo idn,zG]
      by_cases ct:r.spot=tq
      · right
        rw[decide_eq_true ct,cond_true]
        have heq:at_ best (zN s r.spot)=r:=by
          have hbq:at_ best (zN s r.spot)∈qu:=(hI.kq _ hk g2).resolve_left hd
          obtain⟨a1,a2,a3⟩:=hI.kin _ hk g2
          have f1:=zbZ a1 g1 a2
          have f2:=e5 _ hbq
          unfold le2 at f2 g3
          generalize at_ best (zN s r.spot)=z at *
          cases z;cases r
          simp only[zF.mk.injEq]at *
          exact⟨f1,by omega,by omega⟩
        obtain⟨l,h1,h2,h3⟩:=zmz hS hI (best,came,known,qu,done) rfl rfl hk g2
        rw[h1,zq,zl5 (by simp;omega),zq,List.reverse_reverse]
        rw[heq]at h2
        refine⟨_,rfl,.inr ⟨l,r.bends,r.long,rfl,?_,h3,hto e4 e5 ct⟩⟩
        rw[←ct]at h2⊢;exact h2
      · left
        rw[decide_eq_false ct,cond_false,qd]
        obtain⟨heq,pos',hI2,hmax⟩:=zpk hI e2 e4 e5 e6 e7 hd ct
        have hdl:zN s r.spot<done.length:=by rw[hI.ld];exact hk
        have hf:gx done ((zN s r.spot:Nat):Int)=false:=by simpa using hd
        have hc:cnt (done.set (zN s r.spot) true)=cnt done+1:=zfx hdl hf
        have hcl2:=zfw (done.set (zN s r.spot) true)
        rw[hI2.ld]at hcl2
        have hd2:gx (done.set (zN s r.spot) true) ((zN s r.spot:Nat):Int)=true:=by rw[zdy hdl,if_pos rfl]
        rw[Int.toNat_natCast]
        obtain⟨best1,came1,known1,qu1,f0,f1,f2,f3,f4⟩:∃best1 came1 known1 qu1,(Option.bind (gd (((decide (r.spot.x=tq.x))&&(decide (r.spot.y=tq.y)))) (YA tq.side)) fun r5=>
            (bif((decide (r.spot.x=tq.x))&&(decide (r.spot.y=tq.y)))&&(!decide (r.spot.side=r5))then(
              Option.bind (Qu (⟨tq,W (r.bends+1),r.long⟩:zF) ((zN s r.spot:Nat):Int) (some s) known best came rest) fun r6=>some (r6.2.1,r6.2.2.1,r6.1,r6.2.2.2))
             else some (best,came,known,rest)))=some (best1,came1,known1,qu1)∧Inv s nx fr tq best1 came1 known1 qu1 (done.set (zN s r.spot) true) pos' (XS nx (zN s r.spot) r.spot 1)∧at_ best1 (zN s r.spot)=r∧(∀k,k<NN s→gx (done.set (zN s r.spot) true) (k:Int)=true→le2 (at_ best1 k) r)∧qu1.length≤rest.length+1:=by
          have ht:=hI.ti
          by_cases cx:r.spot.x=tq.x∧r.spot.y=tq.y
          · rw[decide_eq_true cx.1,decide_eq_true cx.2,Bool.true_and,qC,zfo ht.s1 ht.s4,zq,Bool.true_and]
            by_cases cs:r.spot.side=yq tq.side
            · refine⟨best,came,known,rest,by rw[decide_eq_true cs];rfl,hI2.weakE ?_,heq,hmax,by omega⟩
              rintro k p b l _ he rfl
              rw[heq]at he
              rcases he with⟨side,s1,s4,h5,h6,h7⟩ | ⟨_,_,_,h5,_⟩
              · exact⟨rfl,side,s1,s4,h5,h6,h7⟩
              · exact absurd cs h5
            · rw[decide_eq_false cs,Bool.not_false,cond_true,Wk (by have:=g4.b0;omega) (by have:=g4.b1;omega)]
              have hE:Edge nx tq (at_ best (zN s r.spot)).spot tq 1 0:=by rw[heq];exact .inr ⟨rfl,cx.1,cx.2,cs,rfl,rfl⟩
              obtain⟨known',best',came',q',y1,y2,y3,y4⟩:=zj5 hS hI2 (r:=⟨tq,r.bends+1,r.long⟩) hk hd2 hE (by rw[heq]) (by rw[heq];simp) (by
                obtain⟨b0,b1,l0,l1⟩:=g4
                refine⟨by simp only;omega,by rw[hc];simp only;omega,by simp only;omega,by rw[hc];simp only;omega⟩) (fun k k1 k2=>by rw[heq];exact hmax k k1 k2) (by omega)
              rw[y1,zq]
              refine⟨best',came',known',q',rfl,y2.weakE ?_,by rw[y4 _ hk hd2];exact heq,fun k k1 k2=>by rw[y4 k k1 k2];exact hmax k k1 k2,y3⟩
              rintro k p b l hkd he ⟨rfl,hx⟩
              rw[y4 _ hk hd2,heq]at he
              rcases he with⟨side,s1,s4,h5,h6,h7⟩ | ⟨h5,_,_,_,h6,h7⟩
              · exact⟨rfl,side,s1,s4,h5,h6,h7⟩
              · exact absurd ⟨rfl,h5,h6,h7⟩ hx
          · have hb:(decide (r.spot.x=tq.x)&&decide (r.spot.y=tq.y))=false:=by
              rw[Bool.eq_false_iff];simpa using cx
            rw[hb,Jz,zq,Bool.false_and,cond_false]
            refine⟨best,came,known,rest,rfl,hI2.weakE ?_,heq,hmax,by omega⟩
            rintro k p b l _ he rfl
            rw[heq]at he
            rcases he with⟨side,s1,s4,h5,h6,h7⟩ | ⟨_,h5,h6,_⟩
            · exact⟨rfl,side,s1,s4,h5,h6,h7⟩
            · exact absurd ⟨h5,h6⟩ cx
        obtain⟨best2,came2,known2,qu2,z1,z2,z3⟩:=zq6 hS (r3:=(r,rest)) (K:=rest.length+1) hk hd2 g1 (by
          obtain⟨b0,b1,l0,l1⟩:=g4
          rw[hc];simp only;omega) ⟨g4.b0,g4.l0⟩ (by omega) (by omega) f1 f2 f3 f4
        refine⟨(best2,came2,known2,qu2,done.set (zN s r.spot) true),?_,⟨best2,came2,known2,qu2,_,pos',rfl,z2,by rw[hc];omega⟩,by simp only;rw[hc];omega⟩
        cases hA:gd ((decide (r.spot.x=tq.x))&&(decide (r.spot.y=tq.y))) (YA tq.side)with
        | none=>rw[hA]at f0;cases f0
        | some r5 =>
          rw[hA,zq]at f0
          rw[zq,f0,zq]
          exact z1
theorem zng (hS:Sea s nx)(hf:InS s fr)(ht:InS s tq):∃e,zcF s fr tq=some e∧zlH nx fr tq e:=by
 have hN:=zc9 hS
 have hw:=hS.w;have hh:=hS.h
 have hNN:((s.xs.length:Int)*(s.ys.length:Int))*4=((NN s:Nat):Int):=by unfold NN;simp
 have hm:0≤(s.xs.length:Int)*(s.ys.length:Int):=Int.mul_nonneg (by omega) (by omega)
 unfold zcF
 simp only[zG]
 rw[Wk (n:=(s.xs.length:Int)*(s.ys.length:Int)) (by omega) (by omega),hNN,Wk (n:=((NN s:Nat):Int)) (by omega) (by omega)]
 simp only[Int.toNat_natCast,List.length_replicate]
 rw[zo ⟨by omega,by omega,by omega⟩,zo ⟨by omega,by omega,by omega⟩,zo ⟨by omega,by omega,by omega⟩,zo ⟨by omega,by omega,by omega⟩]
 have hk:=vJ hf
 have rep:∀(k:Nat),gx (List.replicate (NN s) false) (k:Int)=false:=fun k=>by
  unfold gx
  rw[Int.toNat_natCast,List.getElem?_replicate]
  split<;>rfl
 obtain⟨_,v2⟩:=ziC hS (r:=⟨fr,0,0⟩) hf (-1) (known:=List.replicate (NN s) false) (best:=List.replicate (NN s) (⟨(⟨(0:Int),(0:Int),(0:Int)⟩:zt),(0:Int),(0:Int)⟩:zF)) (came:=List.replicate (NN s) (0:Int)) (qu:=[]) (by simp) (by simp) (by simp)
 obtain⟨q',h1,h2,h3,h4⟩:=v2 (by rw[rep];simp) (by simp) (fun k k0 kn=>by simp at kn)
 rw[h1,zq]
 simp only
 have atk:∀k:Nat,gx ((List.replicate (NN s) false).set (zN s fr) true) (k:Int)=if k=zN s fr then true else false:=fun k=>by
  rw[zdy (by simpa using hk),rep]
 have kno:∀k:Nat,gx ((List.replicate (NN s) false).set (zN s fr) true) (k:Int)=true→k=zN s fr:=fun k h=>by
  rw[atk]at h
  by_cases e:k=zN s fr
  ·
   exact e
  ·
   rw[if_neg e]at h;cases h
 have atb:at_ ((List.replicate (NN s) (⟨(⟨(0:Int),(0:Int),(0:Int)⟩:zt),(0:Int),(0:Int)⟩:zF)).set (zN s fr) ⟨fr,0,0⟩) (zN s fr)=⟨fr,0,0⟩:=by
  unfold at_
  rw[jS (by simpa using hk),if_pos rfl]
 have hbd:Bd (List.replicate (NN s) false) ⟨fr,0,0⟩:=⟨by simp,by simp only;omega,by simp,by simp only;omega⟩
 have hI:Inv s nx fr tq ((List.replicate (NN s) (⟨(⟨(0:Int),(0:Int),(0:Int)⟩:zt),(0:Int),(0:Int)⟩:zF)).set (zN s fr) ⟨fr,0,0⟩) ((List.replicate (NN s) (0:Int)).set (zN s fr) (-1)) ((List.replicate (NN s) false).set (zN s fr) true) q' (List.replicate (NN s) false) (fun _=>0) (fun _ _ _ _=>False):=by
  refine⟨by simp,by simp,by simp,by simp,h2,fun r hr=>?_,fun k k1 k2=>?_,fun k k1 k2=>?_,fun k k1 k2=>?_,fun k k1 k2=>?_,fun k k1 k2=>?_,fun k k1 k2=>?_,hf,?_,atb,ht⟩
  ·
   have:r=⟨fr,0,0⟩:=by simpa using(h4 r).1 hr
   subst this
   exact⟨hf,by rw[atk,if_pos rfl],by rw[atb];exact QK _,hbd⟩
  ·
   obtain rfl:=kno k k2
   rw[atb];exact⟨hf,rfl,hbd⟩
  ·
   obtain rfl:=kno k k2
   rw[atb];exact .inr ((h4 _).2 (.inr rfl))
  ·
   obtain rfl:=kno k k2
   exact .inl ⟨by rw[jS (by simpa using hk),if_pos rfl],atb⟩
  ·
   rw[rep]at k2;cases k2
  ·
   rw[rep]at k2;cases k2
  ·
   rw[rep]at k2;cases k2
  ·
   rw[atk,if_pos rfl]
 obtain⟨e,he,hc⟩:=znh hS hI (by rw[h3];simp)
 rw[he]
 rcases hc with⟨rfl,h⟩ | ⟨way,b,n,rfl,h⟩
 ·
  exact⟨_,rfl,.inl ⟨rfl,h⟩⟩
 ·
  exact⟨_,rfl,.inr ⟨way,b,n,rfl,h⟩⟩
end
def je (s:Int):Int:=if 1≤s∧s≤4 then 0 else 3
def tow (s:Int):zd:=if s=1 then⟨0, -1⟩else if s=2 then⟨1,0⟩else if s=3 then⟨0,1⟩else⟨-1,0⟩
def Ju (p d:zd)(n:Int):zd:=⟨p.X+n*d.X,p.Y+n*d.Y⟩
def yf (t:zA):zd:=Ju t.From (tow t.FromSide) t.Clear
def yi (t:zA):zd:=Ju t.To (tow t.ToSide) t.Clear
theorem jI {s:Int}:je s=0↔1≤s∧s≤4:=by unfold je;split<;>simp_all
theorem vX (s:Int):tow s=⟨0, -1⟩∨tow s=⟨1,0⟩∨tow s=⟨0,1⟩∨tow s=⟨-1,0⟩:=by
 unfold tow
 by_cases h1:s=1
 ·
  simp[h1]
 ·
  by_cases h2:s=2
  ·
   simp[h2]
  ·
   by_cases h3:s=3
   ·
    simp[h3]
   ·
    simp[h1,h2,h3]
def zbI (t:zA):Int:=if 1≤t.Clear∧t.Clear≤200 then zP [yM (yf t),yM (yi t)]else 3
def QZ (t:zA):Int:=zP [yM t.From,je t.FromSide,yM t.To,je t.ToSide,if 100<t.Walls.length then 4 else 0,zP (t.Walls.map ql),zbI t]
theorem zdg {p:zd}(hp:okP p){n:Int}(h1:0≤n)(h2:n≤10000000)(s:Int):W (p.X+W (n*(tow s).X))=(Ju p (tow s) n).X∧W (p.Y+W (n*(tow s).Y))=(Ju p (tow s) n).Y:=by
 unfold okP at hp
 unfold Ju
 rcases vX s with h | h | h | h<;>rw[h]<;>simp only<;>refine⟨?_,?_⟩<;>(rw[Wk (n:=n*_) (by omega) (by omega),Wk (by omega) (by omega)])
theorem zhx {s:Int}(h1:1≤s)(h2:s≤4):J6 s=some (tow s):=by
 unfold J6 tow
 simp only[zG]
 rw[zo ⟨by omega,by omega⟩]
 have:s=1∨s=2∨s=3∨s=4:=by omega
 rcases this with rfl | rfl | rfl | rfl<;>rfl
theorem zfG {t:zA}(hf:okP t.From)(ht:okP t.To)(h1:je t.FromSide=0)(h2:je t.ToSide=0)(h3:0≤t.Clear)(h4:t.Clear≤10000000):J0 t=some (yf t,yi t):=by
 have a1:=jI.1 h1
 have a2:=jI.1 h2
 unfold J0 zcA
 rw[zhx a1.1 a1.2,zhx a2.1 a2.2]
 simp only[zG,zq]
 obtain⟨e1,e2⟩:=zdg hf h3 h4 t.FromSide
 obtain⟨e3,e4⟩:=zdg ht h3 h4 t.ToSide
 rw[e1,e2,e3,e4];rfl
theorem zeF {t:zA}(hw:(t.Walls.length:Int)≤9223372036854775807):JY t=some (QZ t):=by
 unfold JY
 simp only[zG]
 rw[jp (fun x:qT=>zP [yM x.p,je x.side]) (fun e=>(Res.ab e:Res Unit Int)) (by simp) (fun i hi=>by
  unfold zgS zeH
  rw[zo hi]
  simp only[zG,ze9,zq]
  generalize gx ([(⟨t.From,t.FromSide⟩:qT),(⟨t.To,t.ToSide⟩:qT)]) i=x
  by_cases c:yM x.p=0
  ·
   by_cases c2:1≤x.side∧x.side≤4
   ·
    have e1:(decide (1≤x.side)&&decide (x.side≤4))=true:=by simpa using c2
    have e2:je x.side=0:=jI.2 c2
    simp[c,e1,e2]
   ·
    have e1:(decide (1≤x.side)&&decide (x.side≤4))=false:=by simp;omega
    have e2:je x.side=3:=by unfold je;rw[if_neg c2]
    simp[c,e1,e2]
  ·
   simp[c])]
 simp only[List.map_cons,List.map_nil]
 unfold QZ
 by_cases c1:yM t.From=0
 ·
  by_cases c2:je t.FromSide=0
  ·
   by_cases c3:yM t.To=0
   ·
    by_cases c4:je t.ToSide=0
    ·
     simp only[c1,c2,c3,c4,vq,zdp,if_true,qd]
     by_cases c5:100<t.Walls.length
     ·
      have e5:decide ((100:Int)<(t.Walls.length:Int))=true:=by simp;omega
      simp[e5,c5]
     ·
      have e5:decide ((100:Int)<(t.Walls.length:Int))=false:=by simp;omega
      simp only[e5,cond_false,c5,if_false,if_true]
      rw[jp ql (fun e=>(Res.ab e:Res Unit Int)) hw (fun i hi=>by
       unfold zgT
       rw[zo hi]
       simp only[zG,zaf,zq]
       by_cases c:ql (gx t.Walls i)=0<;>simp[c])]
      by_cases c6:zP (t.Walls.map ql)=0
      ·
       simp only[c6,if_true,qd]
       unfold zbI
       by_cases c7:1≤t.Clear∧t.Clear≤200
       ·
        have e7:(decide (t.Clear<1) || decide (200<t.Clear))=false:=by simp;omega
        simp only[e7,cond_false,if_pos c7]
        rw[zfG (vP.1 c1) (vP.1 c3) c2 c4 (by omega) (by omega)]
        simp only[zq,ze9]
        by_cases c8:yM (yf t)=0
        ·
         by_cases c9:yM (yi t)=0<;>simp[c8,c9]
        ·
         simp[c8]
       ·
        have e7:(decide (t.Clear<1) || decide (200<t.Clear))=true:=by simp;omega
        simp[e7,c7]
      ·
       simp[c6]
    ·
     simp[c1,c2,c3,c4]
   ·
    simp[c1,c2,c3]
  ·
   simp[c1,c2]
 ·
  simp[c1]
theorem zqv:zaF=some true:=by
 unfold zaF
 simp only[zG]
 rw[zeF (by decide),zeF (by decide)]
 simp only[zq]
 have e1:QZ (⟨⟨0,0⟩,2,⟨9,0⟩,4,[],1⟩:zA)=0:=by decide
 have e2:QZ (⟨⟨0,0⟩,0,⟨0,0⟩,0,[],0⟩:zA)=3:=by decide
 rw[e1]
 simp only[decide_true,qC,e2,zq,Bool.true_and]
theorem J8 (s:Int):Qq s=some (tow s):=by
 unfold Qq tow
 simp only[zG]
 by_cases h1:s=1
 ·
  simp[h1]
 ·
  by_cases h2:s=2
  ·
   simp[h2]
  ·
   by_cases h3:s=3<;>simp[h1,h2,h3]
theorem zee {t:zA}(hf:okP t.From)(ht:okP t.To)(h3:0≤t.Clear)(h4:t.Clear≤10000000):YZ t=some (yf t,yi t):=by
 unfold YZ Y4
 rw[J8,J8]
 simp only[zG,zq]
 obtain⟨e1,e2⟩:=zdg hf h3 h4 t.FromSide
 obtain⟨e3,e4⟩:=zdg ht h3 h4 t.ToSide
 rw[e1,e2,e3,e4];rfl
theorem zhT {t:zA}(hw:(t.Walls.length:Int)≤9223372036854775807):Y3 t=some (QZ t):=by
 unfold Y3 zcw
 simp only[zff,Qz,jD,zq,zlw]
 have hF:∀a b c d e:Int,q5 [a,b,c,d,e]=some (zP [a,b,c,d,e]):=fun a b c d e=>Qa (by simp)
 have hs:∀s:Int,(if(!decide (1≤s∧s≤4))=true then(3:Int)else 0)=je s:=fun s=>by unfold je;by_cases h:1≤s∧s≤4<;>simp[h]
 have h5:(if decide ((100:Int)<(t.Walls.length:Int))=true then(4:Int)else 0)=if 100<t.Walls.length then 4 else 0:=by by_cases h:100<t.Walls.length<;>simp[h]<;>omega
 rw[hs,hs,h5,hF]
 simp only[zq]
 unfold QZ
 by_cases c1:yM t.From=0
 ·
  by_cases c2:je t.FromSide=0
  ·
   by_cases c3:yM t.To=0
   ·
    by_cases c4:je t.ToSide=0
    ·
     by_cases c5:100<t.Walls.length
     ·
      simp[c1,c2,c3,c4,c5]
     ·
      have c51:¬1000<t.Walls.length:=by omega
      simp only[c1,c2,c3,c4,c5,c51,vq,zdp,if_true,if_false,decide_true,Bool.not_true,cond_false]
      by_cases c6:zP (t.Walls.map ql)=0
      ·
       simp only[c6,decide_true,Bool.not_true,cond_false,if_true]
       unfold zbI
       by_cases c7:1≤t.Clear∧t.Clear≤200
       ·
        have e7:(!decide (1≤t.Clear∧t.Clear≤200))=false:=by simpa using c7
        simp only[e7,cond_false,if_pos c7]
        rw[zee (vP.1 c1) (vP.1 c3) (by omega) (by omega)]
        have hF2:∀a b:Int,q5 [a,b]=some (zP [a,b]):=fun a b=>Qa (by simp)
        simp only[zq,hF2]
        generalize zP [yM (yf t),yM (yi t)]=z
        by_cases cz:z=0<;>simp[cz]
       ·
        have e7:(!decide (1≤t.Clear∧t.Clear≤200))=true:=by rw[decide_eq_false c7];rfl
        simp only[e7,cond_true,if_neg c7]
        rfl
      ·
       simp[c6]
    ·
     simp[c1,c2,c3,c4]
   ·
    simp[c1,c2,c3]
  ·
   simp[c1,c2]
 ·
  simp[c1]
def sg (n:Int):Int:=min (max n (-1)) 1
def qo (a b:zd):zd:=⟨sg (b.X - a.X),sg (b.Y - a.Y)⟩
theorem ze2 {a b:zd}(ha:okP a)(hb:okP b):Y5 a b=some (qo a b):=by
 unfold okP at ha hb
 unfold Y5 qo
 simp only[zG,zhS,zq]
 rw[Wk (n:=b.X - a.X) (by omega) (by omega),Wk (n:=b.Y - a.Y) (by omega) (by omega)];rfl
theorem zje {l:List zd}{i:Nat}(h1:1≤i):qR l (i+1)=qR l i+yy (gx l ((i:Int) - 1)) (gx l (i:Int)):=by
 have:¬i=0:=by omega
 simp[qR,this]
section
section
variable {α:Type}
end
theorem zn1 {i j:Nat}(h:i+j≤4611686018427387904):W ((KI.of .u64 (W ((i:Int)+(j:Int)))).shr 1).n=(((i+j) / 2:Nat):Int):=by
 rw[Wk (n:=(i:Int)+j) (by omega) (by omega)]
 have e1:(KI.of .u64 ((i:Int)+(j:Int))).n=(i:Int)+j:=by
  show IntKind.wrap .u64 ((i:Int)+j)=_
  rw[show(i:Int)+j=((i+j:Nat):Int)by omega]
  unfold IntKind.wrap
  have hm:(((i+j:Nat):Int) % 2 ^ IntKind.u64.bits)=((i+j:Nat):Int):=Int.emod_eq_of_lt (by omega) (by show _<(2:Int) ^ 64;omega)
  rw[hm]
  simp[IntKind.signed]
 have e2:((KI.of .u64 ((i:Int)+(j:Int))).shr 1).n=(((i+j) / 2:Nat):Int):=by
  show((KI.of .u64 ((i:Int)+(j:Int))).n).fdiv (2 ^ min (1:Int).toNat IntKind.u64.bits)=_
  rw[e1]
  have:((2:Int) ^ min (1:Int).toNat IntKind.u64.bits)=2:=by decide
  rw[this,Int.fdiv_eq_ediv_of_nonneg _ (by omega)]
  omega
 rw[e2,Wk (by omega) (by omega)]
end
theorem zhL {l:List zd}(hl:l.length≤1000):zbk l=some l:=by
 unfold zbk
 rw[zo (by rw[jd];simp;omega)]
 simp only[zG,List.nil_append]
 unfold QM
 by_cases h:l=[]
 ·
  simp[h]
 ·
  rw[if_neg h]
def in1 (k:Int):List Int:=if -1000000≤k∧k≤1000000 then [k]else []
def qt (n:Int):List Int:=in1 (n - 1)++in1 n++in1 (n+1)
theorem YQ (k:Int):(in1 k).length≤1:=by unfold in1;split<;>simp
theorem zfn (n:Int):(qt n).length≤3:=by
 have:=YQ (n - 1);have:=YQ n;have:=YQ (n+1)
 simp only[qt,List.length_append];omega
theorem Q6:∀at_:List Int,(at_.flatMap qt).length≤3*at_.length
 | []=>by simp
 | n::l=>by
  have:=zfn n;have:=Q6 l
  simp only[List.flatMap_cons,List.length_append,List.length_cons];omega
def nrI (n:Int):Prop:= -10000000≤n∧n≤10000000
theorem zc6 {n k:Int}{s:List Int}(hn:nrI n)(h1:n - 1≤k)(h2:k≤n+2)(hs:s.length≤100000):J1 n (s,k)=some (if k≤n+1 then .again (s++in1 k,k+1)else .done s):=by
 unfold nrI at hn
 unfold J1 in1
 simp only[zG]
 rw[Wk (n:=n+1) (by omega) (by omega),Wk (n:=k+1) (by omega) (by omega)]
 by_cases c:k≤n+1
 ·
  simp only[c,decide_true,cond_true,if_true]
  rw[zo (by rw[jd];simp;omega)]
  by_cases d: -1000000≤k∧k≤1000000
  ·
   have e:(decide (-1000000≤k)&&decide (k≤1000000))=true:=by simpa using d
   simp only[e,cond_true,if_pos d,zq]
  ·
   have e:(decide (-1000000≤k)&&decide (k≤1000000))=false:=by simp;omega
   simp only[e,cond_false,if_neg d,zq,List.append_nil]
 ·
  simp only[c,decide_false,cond_false,if_false]
theorem zlP {n:Int}{s:List Int}(hn:nrI n)(hs:s.length≤99990):loop (J1 n) (s,W (n - 1))=some (s++qt n):=by
 have b1:=YQ (n - 1);have b2:=YQ (n - 1+1);have b3:=YQ (n - 1+1+1)
 have hn':=hn
 unfold nrI at hn'
 rw[Wk (n:=n - 1) (by omega) (by omega)]
 have e1:=zc6 (k:=n - 1) (s:=s) hn (by omega) (by omega) (by omega)
 rw[if_pos (by omega)]at e1
 rw[vc e1]
 have e2:=zc6 (k:=n - 1+1) (s:=s++in1 (n - 1)) hn (by omega) (by omega) (by simp only[List.length_append];omega)
 rw[if_pos (by omega)]at e2
 rw[vc e2]
 have e3:=zc6 (k:=n - 1+1+1) (s:=s++in1 (n - 1)++in1 (n - 1+1)) hn (by omega) (by omega) (by simp only[List.length_append];omega)
 rw[if_pos (by omega)]at e3
 rw[vc e3]
 have e4:=zc6 (k:=n - 1+1+1+1) (s:=s++in1 (n - 1)++in1 (n - 1+1)++in1 (n - 1+1+1)) hn (by omega) (by omega) (by simp only[List.length_append];omega)
 rw[if_neg (by omega)]at e4
 rw[JF e4,show n - 1+1=n by omega]
 simp only[qt,List.append_assoc]
theorem zhQ:∀(at_ s:List Int),(∀n∈at_,nrI n)→s.length+3*at_.length≤99990→lgo (fun n s=>loop (J1 n) (s,W (n - 1))) at_ s=some (s++at_.flatMap qt)
 | [],s,_,_=>by simp[lgo]
 | n::l,s,hn,hs=>by
  simp only[List.length_cons]at hs
  rw[lgo,zlP (hn n (by simp)) (by omega)]
  simp only
  have:=zfn n
  rw[zhQ l (s++qt n) (fun m hm=>hn m (by simp[hm])) (by simp only[List.length_append];omega)]
  simp[List.flatMap_cons]
theorem zdI {at_ s:List Int}(hn:∀n∈at_,nrI n)(hs:s.length+3*at_.length≤99990):vR s at_=some (s++at_.flatMap qt):=by
 unfold vR
 rw[Y8 (fun n s=>loop (J1 n) (s,W (n - 1))) (by omega) (fun i s hi=>by unfold zgX;rw[zo hi];rfl),zhQ at_ s hn hs]
 rfl
theorem zfa {k:Int}{s:List Int}(hs:s.length≤100000):(Option.bind (q6 k (-1000000) 1000000) fun r1=>bif r1 then zl (y9 (s.length+[k].length)) (some (s++[k]))else some s)=some (s++in1 k):=by
 rw[Qz,zo (by rw[jd];simp;omega)]
 unfold in1
 by_cases d: -1000000≤k∧k≤1000000<;>simp[d]
theorem zlG {n:Int}{s:List Int}(hn:nrI n)(hs:s.length≤99990):yS ((([W (n - 1),n,W (n+1)]:List Int).length:Nat):Int) (za3 [W (n - 1),n,W (n+1)]) s=some (s++qt n):=by
 unfold nrI at hn
 rw[Wk (n:=n - 1) (by omega) (by omega),Wk (n:=n+1) (by omega) (by omega)]
 rw[Y8 (fun k s=>Option.bind (q6 k (-1000000) 1000000) fun r1=>bif r1 then zl (y9 (s.length+[k].length)) (some (s++[k]))else some s) (by simp) (fun i s hi=>by unfold za3;rw[zo hi];rfl)]
 have b1:=YQ (n - 1);have b2:=YQ n
 rw[lgo,zfa (by omega)]
 simp only
 rw[lgo,zfa (by simp only[List.length_append];omega)]
 simp only
 rw[lgo,zfa (by simp only[List.length_append];omega)]
 simp only[lgo,qt,List.append_assoc]
theorem zhO:∀(at_ s:List Int),(∀n∈at_,nrI n)→s.length+3*at_.length≤99990→lgo (fun n s=>yS ((([W (n - 1),n,W (n+1)]:List Int).length:Nat):Int) (za3 [W (n - 1),n,W (n+1)]) s) at_ s=some (s++at_.flatMap qt)
 | [],s,_,_=>by simp[lgo]
 | n::l,s,hn,hs=>by
  simp only[List.length_cons]at hs
  rw[lgo,zlG (hn n (by simp)) (by omega)]
  simp only
  have:=zfn n
  rw[zhO l (s++qt n) (fun m hm=>hn m (by simp[hm])) (by simp only[List.length_append];omega)]
  simp[List.flatMap_cons]
noncomputable def yr (at_:List Int):List Int:=jR (jY (at_.flatMap qt))
theorem zeV (l:List Int):(jY l).length=l.length:=by simp[jY]
theorem zdw (at_:List Int):(yr at_).length≤3*at_.length:=by
 have h1:=zie (jY (at_.flatMap qt))
 rw[zeV]at h1
 have:=Q6 at_
 unfold yr;omega
theorem ziX {at_:List Int}(hn:∀n∈at_,nrI n)(hs:3*at_.length≤99990):JU at_=some (yr at_):=by
 unfold JU
 rw[Y8 (fun n s=>yS ((([W (n - 1),n,W (n+1)]:List Int).length:Nat):Int) (za3 [W (n - 1),n,W (n+1)]) s) (by omega) (fun i s hi=>by unfold zgL;rw[zo hi];rfl),zhO at_ [] hn (by simp only[List.length_nil];omega)]
 have:=Q6 at_
 simp only[zq,List.nil_append]
 unfold slices_Sort_int slices_Compact_int
 rw[zo (by omega)]
 simp only[zq]
 rw[zo (by rw[zeV];omega)]
 rfl
def zn (t:zA)(w:Box):zV:=⟨W (w.X - t.Clear),W (w.Y - t.Clear),W (W (w.X+w.W_)+t.Clear),W (W (w.Y+w.H)+t.Clear)⟩
def xv (t:zA):List Int:=[(yf t).X,(yi t).X]++t.Walls.flatMap (fun w=>[(zn t w).left,(zn t w).right])
def yv (t:zA):List Int:=[(yf t).Y,(yi t).Y]++t.Walls.flatMap (fun w=>[(zn t w).top,(zn t w).bottom])
structure yw (t:zA):Prop where
 from_:okP t.From
 fs:je t.FromSide=0
 to_:okP t.To
 ts:je t.ToSide=0
 few:t.Walls.length≤100
 walls:∀b∈t.Walls,okB b
 c1:1≤t.Clear
 c2:t.Clear≤200
 start:okP (yf t)
 end_:okP (yi t)
theorem zrz {t:zA}(h:QZ t=0):yw t:=by
 have h:=qi.1 h
 have h5:t.Walls.length≤100:=by
  have:=h (if 100<t.Walls.length then 4 else 0) (by simp)
  by_cases c:100<t.Walls.length
  ·
   simp[c]at this
  ·
   omega
 have h7:=h (zbI t) (by simp)
 unfold zbI at h7
 by_cases c:1≤t.Clear∧t.Clear≤200
 ·
  rw[if_pos c]at h7
  have h8:=qi.1 h7
  exact⟨vP.1 (h _ (by simp)),h _ (by simp),vP.1 (h (yM t.To) (by simp)),h (je t.ToSide) (by simp),h5,zmu (h (zP (t.Walls.map ql)) (by simp)),c.1,c.2,vP.1 (h8 _ (by simp)),vP.1 (h8 (yM (yi t)) (by simp))⟩
 ·
  rw[if_neg c]at h7;omega
theorem zbr {t:zA}(h:yw t){w:Box}(hw:w∈t.Walls):nrI (zn t w).left∧nrI (zn t w).top∧nrI (zn t w).right∧nrI (zn t w).bottom:=by
 have hb:=h.walls w hw
 have c1:=h.c1;have c2:=h.c2
 unfold okB at hb
 unfold zn nrI
 simp only
 rw[Wk (n:=w.X - t.Clear) (by omega) (by omega),Wk (n:=w.Y - t.Clear) (by omega) (by omega),Wk (n:=w.X+w.W_) (by omega) (by omega),Wk (n:=w.Y+w.H) (by omega) (by omega),Wk (n:=w.X+w.W_+t.Clear) (by omega) (by omega),Wk (n:=w.Y+w.H+t.Clear) (by omega) (by omega)]
 omega
theorem zrW {t:zA}(h:yw t):∀n∈xv t,nrI n:=by
 intro n hn
 have hs:=h.start;have he:=h.end_
 unfold okP at hs he
 unfold xv at hn
 simp only[List.cons_append,List.nil_append,List.mem_cons,List.mem_flatMap,List.not_mem_nil,or_false]at hn
 rcases hn with rfl | rfl | ⟨w,hw,rfl | rfl⟩
 ·
  unfold nrI;omega
 ·
  unfold nrI;omega
 ·
  exact(zbr h hw).1
 ·
  exact(zbr h hw).2.2.1
theorem zrX {t:zA}(h:yw t):∀n∈yv t,nrI n:=by
 intro n hn
 have hs:=h.start;have he:=h.end_
 unfold okP at hs he
 unfold yv at hn
 simp only[List.cons_append,List.nil_append,List.mem_cons,List.mem_flatMap,List.not_mem_nil,or_false]at hn
 rcases hn with rfl | rfl | ⟨w,hw,rfl | rfl⟩
 ·
  unfold nrI;omega
 ·
  unfold nrI;omega
 ·
  exact(zbr h hw).2.1
 ·
  exact(zbr h hw).2.2.2
theorem zhA {α:Type}(f g:α→Int):∀l:List α,(l.flatMap fun w=>[f w,g w]).length=2*l.length
 | []=>by simp
 | w::l=>by simp only[List.flatMap_cons,List.length_append,zhA f g l,List.length_cons,List.length_nil];omega
theorem ze3 (t:zA):(xv t).length=2+2*t.Walls.length:=by unfold xv;rw[List.length_append,zhA];simp
theorem ze4 (t:zA):(yv t).length=2+2*t.Walls.length:=by unfold yv;rw[List.length_append,zhA];simp
theorem zls (t:zA):∀(ws:List Box) (s:List zV),s.length+ws.length≤1000→
  lgo (fun v1 s=>zl (y9 (s.length+[(⟨W (v1.X - t.Clear),W (v1.Y - t.Clear),W ((W (v1.X+v1.W_))+t.Clear),W ((W (v1.Y+v1.H))+t.Clear)⟩:zV)].length)) (some (s++[(⟨W (v1.X - t.Clear),W (v1.Y - t.Clear),W ((W (v1.X+v1.W_))+t.Clear),W ((W (v1.Y+v1.H))+t.Clear)⟩:zV)]))) ws s=some (s++ws.map (zn t))
 | [],s,_=>by simp[lgo]
 | w::ws,s,h=>by
  simp only[List.length_cons]at h
  rw[lgo,zo (by rw[jd];simp;omega)]
  simp only
  rw[zls t ws _ (by simp only[List.length_append,List.length_cons,List.length_nil];omega)]
  simp[zn]
theorem zhJ {t:zA}(h:yw t):J7 t=some (t.Walls.map (zn t)):=by
 have hf:=h.few
 unfold J7
 rw[Y8 (fun v1 s=>zl (y9 (s.length+[(⟨W (v1.X - t.Clear),W (v1.Y - t.Clear),W ((W (v1.X+v1.W_))+t.Clear),W ((W (v1.Y+v1.H))+t.Clear)⟩:zV)].length)) (some (s++[(⟨W (v1.X - t.Clear),W (v1.Y - t.Clear),W ((W (v1.X+v1.W_))+t.Clear),W ((W (v1.Y+v1.H))+t.Clear)⟩:zV)]))) (by omega) (fun i s hi=>by unfold zg5;rw[zo hi];rfl),zls t _ _ (by simp only[List.length_nil];omega)]
 simp
theorem zjg:∀(zs:List zV) (s:List Int×List Int),(∀z∈zs,nrI z.left∧nrI z.top∧nrI z.right∧nrI z.bottom)→s.1.length+6*zs.length≤99990→s.2.length+6*zs.length≤99990→
  lgo (fun(v1:zV) (s:List Int×List Int)=>Option.bind (vR s.1 [v1.left,v1.right]) fun xs2=>Option.bind (vR s.2 [v1.top,v1.bottom]) fun ys2=>some (xs2,ys2)) zs s =
   some (s.1++zs.flatMap (fun z=>[z.left,z.right].flatMap qt),s.2++zs.flatMap (fun z=>[z.top,z.bottom].flatMap qt))
 | [],s,_,_,_=>by simp[lgo]
 | z::zs,s,hz,h1,h2=>by
  simp only[List.length_cons]at h1 h2
  obtain⟨z1,z2,z3,z4⟩:=hz z (by simp)
  rw[lgo,zdI (s:=s.1) (at_:=[z.left,z.right]) (by simp only[List.mem_cons,List.not_mem_nil,or_false];rintro n (rfl | rfl);exact z1;exact z3) (by simp only[List.length_cons,List.length_nil];omega),
   zdI (s:=s.2) (at_:=[z.top,z.bottom]) (by simp only[List.mem_cons,List.not_mem_nil,or_false];rintro n (rfl | rfl);exact z2;exact z4) (by simp only[List.length_cons,List.length_nil];omega)]
  simp only[zq]
  have a1:=Q6 [z.left,z.right]
  have a2:=Q6 [z.top,z.bottom]
  simp only[List.length_cons,List.length_nil]at a1 a2
  rw[zjg zs _ (fun y hy=>hz y (by simp[hy])) (by simp only[List.length_append];omega) (by simp only[List.length_append];omega)]
  simp only[List.flatMap_cons,List.append_assoc]
theorem zov {t:zA}(h:yw t):zcB t=some (yr (xv t),yr (yv t)):=by
 have hf:=h.few
 have hs:=h.start;have he:=h.end_
 unfold okP at hs he
 have c1:=h.c1;have c2:=h.c2
 unfold zcB
 rw[zfG h.from_ h.to_ h.fs h.ts (by omega) (by omega)]
 simp only[zq]
 rw[zdI (s:=[]) (at_:=[(yf t).X,(yi t).X]) (by simp only[List.mem_cons,List.not_mem_nil,or_false];rintro n (rfl | rfl)<;>unfold nrI<;>omega) (by simp only[List.length_cons,List.length_nil];omega),
  zdI (s:=[]) (at_:=[(yf t).Y,(yi t).Y]) (by simp only[List.mem_cons,List.not_mem_nil,or_false];rintro n (rfl | rfl)<;>unfold nrI<;>omega) (by simp only[List.length_cons,List.length_nil];omega),zhJ h]
 simp only[zq]
 have a1:=Q6 [(yf t).X,(yi t).X]
 have a2:=Q6 [(yf t).Y,(yi t).Y]
 simp only[List.length_cons,List.length_nil]at a1 a2
 rw[Y8 (fun(v1:zV) (s:List Int×List Int)=>Option.bind (vR s.1 [v1.left,v1.right]) fun xs2=>Option.bind (vR s.2 [v1.top,v1.bottom]) fun ys2=>some (xs2,ys2)) (by rw[List.length_map];omega) (fun i s hi=>by unfold zgY;rw[zo hi];rfl),
  zjg _ _ (fun z hz=>by obtain⟨w,hw,rfl⟩:=List.mem_map.1 hz;exact zbr h hw) (by simp only[List.length_append,List.length_map,List.length_nil];omega) (by simp only[List.length_append,List.length_map,List.length_nil];omega)]
 have ex:([]++[(yf t).X,(yi t).X].flatMap qt)++(t.Walls.map (zn t)).flatMap (fun z=>[z.left,z.right].flatMap qt)=(xv t).flatMap qt:=by
  unfold xv
  rw[List.flatMap_append,List.flatMap_assoc,List.flatMap_map];rfl
 have ey:([]++[(yf t).Y,(yi t).Y].flatMap qt)++(t.Walls.map (zn t)).flatMap (fun z=>[z.top,z.bottom].flatMap qt)=(yv t).flatMap qt:=by
  unfold yv
  rw[List.flatMap_append,List.flatMap_assoc,List.flatMap_map];rfl
 rw[ex,ey]
 have b1:=Q6 (xv t);have b2:=Q6 (yv t)
 rw[ze3]at b1;rw[ze4]at b2
 simp only[zq]
 unfold slices_Sort_int slices_Compact_int
 rw[zo (by omega),zo (by omega)]
 simp only[zq]
 rw[zo (by rw[zeV];omega),zo (by rw[zeV];omega)]
 rfl
theorem ziZ (t:zA):∀(ws:List Box) (s:List Int×List Int),s.1.length+2*ws.length≤1000→s.2.length+2*ws.length≤1000→
  lgo (fun(v1:Box) (s:List Int×List Int)=>zl (y9 (s.1.length+[W (v1.X - t.Clear),W ((W (v1.X+v1.W_))+t.Clear)].length)) (zl (y9 (s.2.length+[W (v1.Y - t.Clear),W ((W (v1.Y+v1.H))+t.Clear)].length)) (some (s.1++[W (v1.X - t.Clear),W ((W (v1.X+v1.W_))+t.Clear)],s.2++[W (v1.Y - t.Clear),W ((W (v1.Y+v1.H))+t.Clear)])))) ws s =
   some (s.1++ws.flatMap (fun w=>[(zn t w).left,(zn t w).right]),s.2++ws.flatMap (fun w=>[(zn t w).top,(zn t w).bottom]))
 | [],s,_,_=>by simp[lgo]
 | w::ws,s,h1,h2=>by
  simp only[List.length_cons]at h1 h2
  rw[lgo,zo (by rw[jd];simp;omega),zo (by rw[jd];simp;omega)]
  simp only
  rw[ziZ t ws _ (by simp only[List.length_append,List.length_cons,List.length_nil];omega) (by simp only[List.length_append,List.length_cons,List.length_nil];omega)]
  simp[zn,List.flatMap_cons]
theorem ziY {t:zA}(h:yw t):za2 t=some (yr (xv t),yr (yv t)):=by
 have hf:=h.few
 have c1:=h.c1;have c2:=h.c2
 unfold za2
 rw[zee h.from_ h.to_ (by omega) (by omega)]
 simp only[zq,zG]
 rw[Y8 (fun(v1:Box) (s:List Int×List Int)=>zl (y9 (s.1.length+[W (v1.X - t.Clear),W ((W (v1.X+v1.W_))+t.Clear)].length)) (zl (y9 (s.2.length+[W (v1.Y - t.Clear),W ((W (v1.Y+v1.H))+t.Clear)].length)) (some (s.1++[W (v1.X - t.Clear),W ((W (v1.X+v1.W_))+t.Clear)],s.2++[W (v1.Y - t.Clear),W ((W (v1.Y+v1.H))+t.Clear)])))) (by omega) (fun i s hi=>by unfold zgM;rw[zo hi];rfl),
  ziZ t _ _ (by simp only[List.length_cons,List.length_nil];omega) (by simp only[List.length_cons,List.length_nil];omega)]
 simp only[zq]
 have ex:[(yf t).X,(yi t).X]++t.Walls.flatMap (fun w=>[(zn t w).left,(zn t w).right])=xv t:=rfl
 have ey:[(yf t).Y,(yi t).Y]++t.Walls.flatMap (fun w=>[(zn t w).top,(zn t w).bottom])=yv t:=rfl
 rw[ex,ey,ziX (zrW h) (by rw[ze3];omega),ziX (zrX h) (by rw[ze4];omega)]
 rfl
theorem znO {t:zA}(h:yw t)(a b:zd):∃r,Qp t a b=some r∧YB (t.Walls.map (zn t)) a b=some (!r):=by
 have hf:=h.few
 obtain⟨p,hp⟩:∃p:Box→Bool,∀w,JS w t a b=some (p w):=⟨fun w=>(((decide ((W (w.X - t.Clear))<(max a.X b.X)))&&(decide ((min a.X b.X)<(W ((W (w.X+w.W_))+t.Clear)))))&&(decide ((W (w.Y - t.Clear))<(max a.Y b.Y))))&&(decide ((min a.Y b.Y)<(W ((W (w.Y+w.H))+t.Clear)))),fun w=>rfl⟩
 refine⟨t.Walls.any p,?_,?_⟩
 ·
  unfold Qp
  rw[zhM t.Walls _ p (by omega) (fun x _=>hp x)];rfl
 ·
  unfold YB
  have hz:∀w,Qr (zn t w) a b=some (p w):=fun w=>hp w
  have hi:zab (t.Walls.map (zn t)) (fun x0=>Qr x0 a b)=some (match t.Walls.findIdx? p with | some i=>(i:Int) | none=> -1):=by
   unfold zab
   rw[List.length_map,zcx p (by omega) (fun i h=>by
    unfold zeT
    rw[zo ⟨by omega,by rw[List.length_map];omega⟩,zS (by rw[List.length_map];exact h),List.getElem_map]
    show Option.bind (Qr (zn t t.Walls[i]) a b) _=_
    rw[hz];simp only[zq];cases p t.Walls[i]<;>rfl)]
   cases t.Walls.findIdx? p<;>rfl
  unfold zcQ
  rw[hi]
  exact congrArg (fun b:Bool=>some (!b)) (zbY (l:=t.Walls) (p:=p))
theorem zkZ (z:List Int):(jY z).Pairwise (· ≤ ·):=by
 have:=List.pairwise_mergeSort (le:=fun x y:Int=>decide (x≤y)) (fun a b c h1 h2=>by simp at *;omega) (fun a b=>by simp;omega) z
 exact this.imp (fun h=>by simpa using h)
theorem zrj {z:List Int}{x:Int}:x∈jY z↔x∈z:=(List.mergeSort_perm z _).mem_iff
theorem zig {z:List Int}(hz:z.Pairwise (· ≤ ·)):(jR z).Pairwise (· < ·)∧∀x,x∈jR z↔x∈z:=by
 have hat:∀(i j:Nat),i≤j→(hj:j<z.length)→z.toArray[i]! ≤z.toArray[j]! :=fun i j hij hj=>by
  rw[getElem!_pos _ i (by simp;omega),getElem!_pos _ j (by simpa using hj)]
  rcases Nat.lt_or_eq_of_le hij with h | h
  ·
   simpa using List.pairwise_iff_getElem.1 hz i j (by omega) hj h
  ·
   subst h;simp
 have hk:∀j,Lib.keeps z.toArray j=true↔j=0∨z.toArray[j]! ≠z.toArray[j - 1]! :=fun j=>by unfold Lib.keeps;simp
 constructor
 ·
  unfold jR Lib.compact Lib.compactUpTo
  rw[List.pairwise_map]
  refine List.Pairwise.imp_of_mem (R:=(· < ·)) (fun {a b} ha hb hab=>?_) (List.Pairwise.filter _ List.pairwise_lt_range)
  have hb1:b<z.length:=by simpa using(List.mem_filter.1 hb).1
  have hb2:=(hk b).1 (List.mem_filter.1 hb).2
  have h1:=hat a (b - 1) (by omega) (by omega)
  have h2:=hat (b - 1) b (by omega) hb1
  rcases hb2 with h | h
  ·
   omega
  ·
   omega
 ·
  intro x
  refine⟨zif,fun hx=>?_⟩
  obtain⟨j,hj,rfl⟩:=List.getElem_of_mem hx
  have key:∀j,j<z.length→∃i,i<z.length∧Lib.keeps z.toArray i=true∧z.toArray[i]! = z.toArray[j]! :=by
   intro j
   induction j with
   | zero=>intro h;exact⟨0,h,(hk 0).2 (.inl rfl),rfl⟩
   | succ j ih=>
    intro h
    by_cases he:z.toArray[j+1]! = z.toArray[j]!
    ·
     obtain⟨i,i1,i2,i3⟩:=ih (by omega)
     exact⟨i,i1,i2,by rw[i3,he]⟩
    ·
     exact⟨j+1,h,(hk _).2 (.inr he),rfl⟩
  obtain⟨i,i1,i2,i3⟩:=key j hj
  unfold jR Lib.compact Lib.compactUpTo
  refine List.mem_map.2 ⟨i,List.mem_filter.2 ⟨by simpa using i1,i2⟩,?_⟩
  rw[i3,getElem!_pos _ _ (by simpa using hj)]
  simp
end Go.DB
