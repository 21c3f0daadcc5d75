/- A part of the proof. -/
import Derived.Test.YtenpeohfmbilaaaGreatDoorDatK3
import Derived.Lib.AtoiTie
import Derived.Test.YtenpeohfmbilaaaGreatDoorDatLi1
import Derived.Test.YtenpeohfmbilaaaGreatDoorPu0
import Derived.Lib.ItoaLen
import Derived.Lib.SplitLaws
set_option linter.unusedSimpArgs false
set_option linter.unusedVariables false
namespace Go.DB
open Go Go.RowKit
theorem zi0 {d:Nat}(h:d<10):Go.Lib.digitVal (UInt8.ofNat (48+d))=some d:=by
 have e:(UInt8.ofNat (48+d)).toNat=48+d:=by rw[UInt8.toNat_ofNat'];omega
 unfold Go.Lib.digitVal
 rw[e,if_pos (by omega)]
 congr 1;omega
theorem ziV:∀(l m:List UInt8) (acc:Nat),Go.Lib.decFrom acc (l++m)=(Go.Lib.decFrom acc l).bind fun a=>Go.Lib.decFrom a m
 | [],m,acc=>rfl
 | b::l,m,acc=>by
  simp only[List.cons_append,Go.Lib.decFrom]
  cases Go.Lib.digitVal b with
  | none=>rfl
  | some d=>exact ziV l m _
theorem zoK (u:Nat):∀acc,Go.Lib.decFrom acc (Go.Lib.decDigits u)=some (acc*10 ^ Go.Lib.nDigits u+u):=by
 induction u using Nat.strongRecOn with
 | _ u ih=>
  intro acc
  by_cases h:u<10
  ·
   rw[Go.Lib.decDigits_one h,Go.Lib.nDigits_small h]
   simp only[Go.Lib.decFrom,zi0 h,Nat.pow_one]
  ·
   rw[Go.Lib.decDigits,dif_neg h,Go.Lib.nDigits_big h,ziV,ih (u / 10) (by omega),Option.bind_some]
   simp only[Go.Lib.decFrom,zi0 (show u % 10<10 by omega)]
   congr 1
   rw[Nat.pow_succ,Nat.add_mul,Nat.mul_assoc];omega
theorem zgq (u:Nat):∀b∈Go.Lib.decDigits u,48≤b.toNat∧b.toNat≤57:=by
 induction u using Nat.strongRecOn with
 | _ u ih=>
  intro b hb
  have e:∀d,d<10→(UInt8.ofNat (48+d)).toNat=48+d:=fun d h=>by rw[UInt8.toNat_ofNat'];omega
  by_cases h:u<10
  ·
   rw[Go.Lib.decDigits_one h]at hb
   simp only[List.mem_singleton]at hb
   rw[hb,e u h];omega
  ·
   rw[Go.Lib.decDigits,dif_neg h]at hb
   rcases List.mem_append.1 hb with hb | hb
   ·
    exact ih (u / 10) (by omega) b hb
   ·
    simp only[List.mem_singleton]at hb
    rw[hb,e _ (show u % 10<10 by omega)];omega
theorem zgr (u:Nat):Go.Lib.decDigits u≠[]:=fun e=>by
 have:=Go.Lib.decDigits_length u
 rw[e]at this
 have:=Go.Lib.nDigits_pos u
 simp at *;omega
theorem ziW (u:Nat):Go.Lib.decNat (Go.Lib.decDigits u)=some u:=by
 unfold Go.Lib.decNat
 rw[if_neg (by simpa using zgr u),zoK];simp
theorem zon (n:Int):Go.Lib.atoi (Go.Lib.itoa n)=some n:=by
 unfold Go.Lib.itoa
 split
 ·
  rename_i h
  unfold Go.Lib.atoi
  simp only[beq_self_eq_true,if_true,ziW,Option.map_some]
  congr 1;omega
 ·
  rename_i h
  cases hd:Go.Lib.decDigits n.toNat with
  | nil=>exact absurd hd (zgr _)
  | cons b r=>
   have hb:=zgq n.toNat b (by rw[hd];simp)
   have h1:(b==45)=false:=beq_eq_false_iff_ne.2 fun e=>by rw[e]at hb;simp at hb
   have h2:(b==43)=false:=beq_eq_false_iff_ne.2 fun e=>by rw[e]at hb;simp at hb
   unfold Go.Lib.atoi
   simp only[h1,h2,Bool.false_eq_true,if_false]
   rw[←hd,ziW,Option.map_some]
   congr 1;omega
theorem zkr {n:Int}{b:UInt8}(h:b∈Go.Lib.itoa n):b=45∨(48≤b.toNat∧b.toNat≤57):=by
 unfold Go.Lib.itoa at h
 split at h
 ·
  rcases List.mem_cons.1 h with h | h
  ·
   exact .inl h
  ·
   exact .inr (zgq _ b h)
 ·
  exact .inr (zgq _ b h)
theorem zeu (n:Int):Go.Lib.itoa n≠[]:=by
 unfold Go.Lib.itoa
 split
 ·
  simp
 ·
  exact zgr _
theorem zeI {u k:Nat}(hk:1≤k)(h:u<10 ^ k):Go.Lib.nDigits u≤k:=by
 rcases Nat.eq_zero_or_pos u with rfl | hu
 ·
  rw[Go.Lib.nDigits_small (by decide)];exact hk
 ·
  refine Nat.le_of_not_lt fun hc=>?_
  have:∀m,∀u,0<u→u<10 ^ m→1≤m→Go.Lib.nDigits u≤m:=by
   intro m
   induction m with
   | zero=>intro u _ _ h;omega
   | succ m ih=>
    intro u hu h _
    by_cases h10:u<10
    ·
     rw[Go.Lib.nDigits_small h10];omega
    ·
     rw[Go.Lib.nDigits_big h10]
     have hm:1≤m:=by
      rcases Nat.eq_zero_or_pos m with rfl | h'
      ·
       simp at h;omega
      ·
       exact h'
     have:=ih (u / 10) (by omega) (by rw[Nat.pow_succ]at h;omega) hm
     omega
  have:=this k u hu h hk
  omega
theorem zqK {n:Int}{k:Nat}(hk:1≤k)(h:n.natAbs<10 ^ k):(Go.Lib.itoa n).length≤k+1:=by
 unfold Go.Lib.itoa
 split
 ·
  rw[List.length_cons,Go.Lib.decDigits_length];have:=zeI hk h;omega
 ·
  rw[Go.Lib.decDigits_length];have:=zeI hk (show n.toNat<10 ^ k by omega);omega
theorem zoj {n:Int}(h:(Go.Lib.itoa n).length≤18):qE (yC n)=(n,⟨false⟩):=by
 unfold qE yC
 simp only[Go.Lib.atoiAll_short _ h,zon]
 rfl
theorem zkm (s:List UInt8)(c:UInt8):Go.Lib.indexB ⟨s.toArray⟩ ⟨[c].toArray⟩=Go.Lib.indexByte s c:=by
 unfold Go.Lib.indexB
 exact Go.Lib.index_one s c
theorem zkn {c:UInt8}{m:List UInt8}:∀{a:List UInt8},c∉a→Go.Lib.indexByte (a++c::m) c=a.length
 | [],_=>by simp[Go.Lib.indexByte]
 | b::a,h=>by
  have h1:¬b=c:=fun e=>h (by simp[e])
  have h2:c∉a:=fun e=>h (by simp[e])
  have ih:=zkn (m:=m) h2
  rw[List.cons_append,Go.Lib.indexByte,if_neg (by simpa using h1),ih,if_neg (by simp)]
  simp
theorem zko {c:UInt8}:∀{a:List UInt8},c∉a→Go.Lib.indexByte a c = -1
 | [],_=>rfl
 | b::a,h=>by
  have h1:¬b=c:=fun e=>h (by simp[e])
  have h2:c∉a:=fun e=>h (by simp[e])
  rw[Go.Lib.indexByte,if_neg (by simpa using h1),zko h2];rfl
theorem za2 {c:UInt8}:∀{l:List UInt8},c∈l→∃a m,l=a++c::m∧c∉a
 | b::l,h=>by
  by_cases e:b=c
  ·
   exact⟨[],l,by rw[e];rfl,by simp⟩
  ·
   obtain⟨a,m,rfl,h2⟩:=za2 (l:=l) (by simpa [Ne.symm e]using h)
   exact⟨b::a,m,rfl,by simp[h2,Ne.symm e]⟩
def jf (c:UInt8):Nat→List UInt8→List (List UInt8)
 | 0,l=>[l]
 | k+1,l=>if c∈l then l.takeWhile (fun b=>decide (b≠c))::jf c k (l.dropWhile (fun b=>decide (b≠c))).tail else [l]
theorem zm4 {c:UInt8}{m:List UInt8}:∀{a:List UInt8},c∉a→(a++c::m).takeWhile (fun b=>decide (b≠c))=a∧(a++c::m).dropWhile (fun b=>decide (b≠c))=c::m
 | [],_=>by simp[List.takeWhile,List.dropWhile]
 | b::a,h=>by
  have h1:¬b=c:=fun e=>h (by simp[e])
  have h2:c∉a:=fun e=>h (by simp[e])
  obtain⟨i1,i2⟩:=zm4 (m:=m) h2
  rw[List.cons_append,List.takeWhile_cons,List.dropWhile_cons,if_pos (by simpa using h1),if_pos (by simpa using h1),i1,i2]
  exact⟨rfl,rfl⟩
theorem zav {c:UInt8}{k:Nat}{a m:List UInt8}(h:c∉a):jf c (k+1) (a++c::m)=a::jf c k m:=by
 obtain⟨h1,h2⟩:=zm4 (m:=m) h
 rw[jf,if_pos (by simp),h1,h2];rfl
theorem Yb {c:UInt8}{k:Nat}{a:List UInt8}(h:c∉a):jf c k a=[a]:=by
 cases k with
 | zero=>rfl
 | succ k=>rw[jf,if_neg h]
theorem ziR (c:UInt8)(k:Nat)(l:List UInt8):jf c k l≠[]:=by
 cases k with
 | zero=>simp[jf]
 | succ k=>rw[jf];split<;>simp
theorem ziQ (c:UInt8):∀(k:Nat) (l:List UInt8),(jf c k l).length≤l.length+1
 | 0,l=>by simp[jf]
 | k+1,l=>by
  by_cases h:c∈l
  ·
   obtain⟨a,m,rfl,h2⟩:=za2 h
   rw[zav h2]
   have:=ziQ c k m
   simp only[List.length_cons,List.length_append];omega
  ·
   rw[Yb h];simp
def qK (c:UInt8):List (List UInt8)→List UInt8
 | []=>[]
 | [a]=>a
 | a::b::r=>a++c::qK c (b::r)
theorem zkw (c:UInt8):∀(k:Nat) (l:List UInt8),qK c (jf c k l)=l
 | 0,l=>rfl
 | k+1,l=>by
  by_cases h:c∈l
  ·
   obtain⟨a,m,rfl,h2⟩:=za2 h
   rw[zav h2]
   have ih:=zkw c k m
   cases hq:jf c k m with
   | nil=>exact absurd hq (ziR _ _ _)
   | cons p r=>rw[qK,←hq,ih]
  ·
   rw[Yb h];rfl
theorem zmT (c:UInt8):∀(k:Nat) (l:List UInt8),(Go.Lib.splitB ⟨[c].toArray⟩ 0 k ⟨l.toArray⟩).map JZ=(jf c k l).map Str.mk
 | 0,l=>by simp[Go.Lib.splitB,JZ,jf]
 | k+1,l=>by
  by_cases h:c∈l
  ·
   obtain⟨a,m,rfl,h2⟩:=za2 h
   have hb:Go.Lib.indexB ⟨(a++c::m).toArray⟩ ⟨[c].toArray⟩=a.length:=(zkm _ _).trans (zkn h2)
   rw[Go.Lib.splitB_hit _ _ _ _ _ hb,zav h2]
   have ex:∀i j,(ByteArray.mk (a++c::m).toArray).extract i j=⟨(((a++c::m).take j).drop i).toArray⟩:=by
    intro i j
    rw[ByteArray.extract_mk]
    congr 1
    simp[List.drop_take]
   have hsz:(ByteArray.mk (a++c::m).toArray).size=(a++c::m).length:=rfl
   have hs1:(ByteArray.mk [c].toArray).size=1:=rfl
   have e1:(ByteArray.mk (a++c::m).toArray).extract 0 (a.length+0)=⟨a.toArray⟩:=by
    rw[ex,Nat.add_zero,List.drop_zero,List.take_left]
   have e2:(ByteArray.mk (a++c::m).toArray).extract (a.length+(ByteArray.mk [c].toArray).size) (ByteArray.mk (a++c::m).toArray).size=⟨m.toArray⟩:=by
    rw[ex,hsz,hs1,List.take_length,←List.drop_drop,List.drop_left];rfl
   rw[e2,e1]
   simp only[List.map_cons,zmT c k m]
   simp[JZ]
  ·
   have hb:Go.Lib.indexB ⟨l.toArray⟩ ⟨[c].toArray⟩ = -1:=(zkm _ _).trans (zko h)
   rw[Go.Lib.splitB_miss _ _ _ _ hb,Yb h]
   simp[JZ]
theorem zl2 {α:Type}[Inhabited α]{l:List α}{step:Int→Unit→Option (Res Unit (Res Unit Int))}(p:α→Bool)(hl:(l.length:Int)≤9223372036854775807)
  (hf:∀(i:Nat) (h:i<l.length),step i ()=some (if p l[i]=true then .ab (.ab (i:Int))else .nx ())):
  zZ (l.length:Int) step (fun s=>Res.nx s) ()=some (match l.findIdx? p with | some i=>Res.ab (i:Int) | none=>Res.nx ()):=by
 obtain⟨e,he,hp⟩:=QU (n:=(l.length:Int)) (step:=step) (fin:=fun s=>(Res.nx s:Res Unit Int)) (s0:=()) (fun i _=>∀j (h:j<l.length),j<i→p l[j]=false)
  (fun e=>e=match l.findIdx? p with | some i=>Res.ab (i:Int) | none=>Res.nx ()) hl (fun j h hj=>by omega) (fun i u hi hI=>by
   have hi':i<l.length:=by omega
   cases u
   rw[hf i hi']
   cases hb:p l[i]with
   | false=>
    refine .inl ⟨(),by simp,fun j h hj=>?_⟩
    rcases Nat.lt_or_eq_of_le (Nat.lt_succ_iff.1 hj)with h1 | h1
    ·
     exact hI j h h1
    ·
     subst h1;exact hb
   | true=>
    refine .inr ⟨_,by simp;rfl,?_⟩
    have:l.findIdx? p=some i:=by
     rw[List.findIdx?_eq_some_iff_getElem]
     exact⟨hi',hb,fun j hj=>by simpa using hI j (by omega) hj⟩
    rw[this]) (fun u hI=>by
   have:l.findIdx? p=none:=by
    rw[List.findIdx?_eq_none_iff]
    intro x hx
    obtain⟨j,hj,rfl⟩:=List.mem_iff_getElem.1 hx
    exact hI j hj (by simpa using hj)
   rw[this])
 rw[he,hp]
theorem zkj {α:Type}{l:List α}{p:α→Bool}:decide (0≤(match l.findIdx? p with | some i=>(i:Int) | none=> -1))=l.any p:=by
 cases h:l.findIdx? p with
 | none=>
  rw[List.findIdx?_eq_none_iff]at h
  simp;exact h
 | some i=>
  obtain⟨hi,hp,_⟩:=List.findIdx?_eq_some_iff_getElem.1 h
  have:l.any p=true:=List.any_eq_true.2 ⟨_,List.getElem_mem hi,hp⟩
  rw[this];simp
theorem zhE {α:Type}[Inhabited α][DecidableEq α]{l m:List α}{step:Int→Unit→Option (Res Unit (Res Unit Bool))}(hlm:l.length=m.length)(hl:(l.length:Int)≤9223372036854775807)
  (hf:∀(i:Nat) (h:i<l.length),step i ()=some (if l[i]=m[i]'(hlm▸h)then .nx ()else .ab (.ab false))):
  zZ (l.length:Int) step (fun s=>Res.nx s) ()=some (if l=m then Res.nx ()else Res.ab false):=by
 obtain⟨e,he,hp⟩:=QU (n:=(l.length:Int)) (step:=step) (fin:=fun s=>(Res.nx s:Res Unit Bool)) (s0:=()) (fun i _=>∀j (h:j<l.length),j<i→l[j]=m[j]'(hlm▸h))
  (fun e=>e=if l=m then Res.nx ()else Res.ab false) hl (fun j h hj=>by omega) (fun i u hi hI=>by
   have hi':i<l.length:=by omega
   cases u
   rw[hf i hi']
   by_cases hb:l[i]=m[i]'(hlm▸hi')
   ·
    refine .inl ⟨(),by simp[hb],fun j h hj=>?_⟩
    rcases Nat.lt_or_eq_of_le (Nat.lt_succ_iff.1 hj)with h1 | h1
    ·
     exact hI j h h1
    ·
     subst h1;exact hb
   ·
    refine .inr ⟨_,by rw[if_neg hb],?_⟩
    have:¬l=m:=fun e=>hb (by subst e;rfl)
    rw[if_neg this]) (fun u hI=>by
   have:l=m:=List.ext_getElem hlm (fun j h1 h2=>hI j h1 (by simpa using h1))
   rw[if_pos this])
 rw[he,hp]
theorem QF {l:List Int}(hl:(l.length:Int)≤9223372036854775807):jU l=some (zH l):=by
 unfold jU
 rw[vh (fun e=>e) (fun e=>Res.ab e) hl (fun i hi=>?_)]
 ·
  by_cases h:zH (l.map fun e=>e)=0
  ·
   simp only[if_pos h,yG];simp at h;simp[h]
  ·
   simp only[if_neg h,jG];simp
 ·
  unfold zhv
  rw[zl hi]
  simp only[zw]
  by_cases h:gx l i=0<;>simp[h]
theorem jm (b:Bool)(e:Int):qF b e=some (if b=true then e else 0):=by
 unfold qF;cases b<;>rfl
theorem zbF (n lo hi:Int):vz n lo hi=some (decide (lo≤n∧n≤hi)):=by
 unfold vz;simp
def Qn (n:Int):Bool:=decide (n < -1000000) || decide (1000000<n)
def jn (p:zz):Int:=if Qn p.X=true∨Qn p.Y=true then 3 else 0
def okP (p:zz):Prop:= -1000000≤p.X∧p.X≤1000000∧ -1000000≤p.Y∧p.Y≤1000000
theorem ze6 {p:zz}:jn p=0↔okP p:=by
 unfold jn okP Qn
 simp only[Bool.or_eq_true,decide_eq_true_eq]
 constructor
 ·
  intro h
  by_cases a:(p.X < -1000000∨1000000<p.X)∨p.Y < -1000000∨1000000<p.Y
  ·
   rw[if_pos a]at h;omega
  ·
   omega
 ·
  intro h
  rw[if_neg (by omega)]
theorem zr7 (p:zz):jn p=0∨jn p=3:=by unfold jn;split<;>simp
def vx (l:List zz):Int:=if 1000<l.length then 4 else zH (l.map jn)
theorem zr8 {l:List zz}:vx l=0↔l.length≤1000∧∀p∈l,okP p:=by
 unfold vx
 by_cases h:1000<l.length
 ·
  simp[h];omega
 ·
  rw[if_neg h,qo]
  constructor
  ·
   intro h2;exact⟨by omega,fun p hp=>ze6.1 (h2 _ (List.mem_map_of_mem hp))⟩
  ·
   rintro⟨_,h2⟩ e he
   obtain⟨p,hp,rfl⟩:=List.mem_map.1 he
   exact ze6.2 (h2 p hp)
theorem znB (p:zz):zcd p=some (jn p):=by
 unfold zcd YS jn Qn
 simp only[yZ]
 cases h1:(decide (p.X < -1000000) || decide (1000000<p.X))<;>cases h2:(decide (p.Y < -1000000) || decide (1000000<p.Y))<;>simp[h1,h2]
theorem zim (p:zz):zbe p=some (jn p):=by
 unfold zbe jn
 simp only[zbF,yZ,jm]
 by_cases h1: -1000000≤p.X∧p.X≤1000000
 ·
  have h1':Qn p.X=false:=by unfold Qn;simp;omega
  by_cases h2: -1000000≤p.Y∧p.Y≤1000000
  ·
   have h2':Qn p.Y=false:=by unfold Qn;simp;omega
   simp[h1,h2,h1',h2']
  ·
   have h2':Qn p.Y=true:=by unfold Qn;simp;omega
   simp[h1,h2,h1',h2']
 ·
  have h1':Qn p.X=true:=by unfold Qn;simp;omega
  simp[h1,h1']
theorem zr5 {l:List zz}(hl:(l.length:Int)≤9223372036854775807):zcg l=some (zH (l.map jn)):=by
 unfold zcg
 rw[vh jn (fun e=>Res.ab e) hl (fun i hi=>by
  unfold zgV
  rw[zl hi]
  simp only[zw,znB,yZ]
  by_cases h:jn (gx l i)=0<;>simp[h])]
 by_cases h:zH (l.map jn)=0
 ·
  simp only[if_pos h,yG];rw[h]
 ·
  simp only[if_neg h,jG]
theorem znC (l:List zz):zce l=some (vx l):=by
 unfold zce vx
 by_cases h:1000<l.length
 ·
  have:(1000:Int)<l.length:=by omega
  simp[h,this]
 ·
  have:¬(1000:Int)<l.length:=by omega
  simp only[this,decide_false,cond_false,if_neg h]
  rw[zr5 (by omega)];rfl
theorem zn2 (l:List zz):zbf l=some (vx l):=by
 unfold zbf vx
 by_cases h:1000<l.length
 ·
  have:(1000:Int)<l.length:=by omega
  simp[h,this]
 ·
  have:¬(1000:Int)<l.length:=by omega
  simp only[this,decide_false,cond_false,if_neg h]
  rw[vh jn (fun e=>Res.ab e) (by omega) (fun i hi=>by
   unfold zhw
   rw[zl hi]
   simp only[zw,zim,yZ]
   by_cases h:jn (gx l i)=0<;>simp[h])]
  by_cases h:zH (l.map jn)=0
  ·
   simp only[if_pos h,yG];rw[h]
  ·
   simp only[if_neg h,jG]
def ziy (l:List zz)(i:Nat):Prop:=decide ((gx l i).X=(gx l ((i:Int) - 1)).X)=decide ((gx l i).Y=(gx l ((i:Int) - 1)).Y)
instance (l:List zz):DecidablePred (ziy l):=fun i=>by unfold ziy;infer_instance
def okB (b:Box):Prop:= -1000000≤b.X∧b.X≤1000000∧ -1000000≤b.Y∧b.Y≤1000000∧1≤b.W_∧b.W_≤20000∧1≤b.H∧b.H≤20000
instance (b:Box):Decidable (okB b):=by unfold okB;infer_instance
def jH (b:Box):Int:=if okB b then 0 else 3
theorem zdK {b:Box}:jH b=0↔okB b:=by unfold jH;split<;>simp_all
theorem zdA (b:Box):YR b=some (jH b):=by
 unfold YR YS jH
 simp only[yZ]
 by_cases h:okB b
 ·
  rw[if_pos h]
  unfold okB at h
  have e1:(decide (b.X < -1000000) || decide (1000000<b.X))=false:=by simp;omega
  have e2:(decide (b.Y < -1000000) || decide (1000000<b.Y))=false:=by simp;omega
  simp only[e1,e2,Bool.not_false,qy,yZ,Bool.or_self,Bool.false_or]
  have e3:(((decide (b.W_<1) || decide (20000<b.W_)) || decide (b.H<1)) || decide (20000<b.H))=false:=by simp;omega
  rw[e3];rfl
 ·
  rw[if_neg h]
  unfold okB at h
  cases h1:(decide (b.X < -1000000) || decide (1000000<b.X))with
  | true=>simp
  | false=>
   cases h2:(decide (b.Y < -1000000) || decide (1000000<b.Y))with
   | true=>simp
   | false=>
    simp only[Bool.not_false,qy,yZ,Bool.or_self,Bool.false_or]
    have e3:(((decide (b.W_<1) || decide (20000<b.W_)) || decide (b.H<1)) || decide (20000<b.H))=true:=by
     simp at h1 h2⊢;omega
    rw[e3];rfl
theorem zh8 (b:Box):Y9 b=some (jH b):=by
 unfold Y9 jH
 simp only[zim,zbF,jm,yZ]
 have hF:∀a c:Int,jU [a,c]=some (zH [a,c]):=fun a c=>QF (by simp)
 by_cases h:okB b
 ·
  rw[if_pos h]
  unfold okB at h
  have e1:jn ⟨b.X,b.Y⟩=0:=ze6.2 (by unfold okP;simp only;omega)
  have e2:decide (1≤b.W_∧b.W_≤20000)=true:=by simp;omega
  have e3:decide (1≤b.H∧b.H≤20000)=true:=by simp;omega
  simp[e1,e2,e3,hF]
 ·
  rw[if_neg h]
  unfold okB at h
  by_cases c:jn ⟨b.X,b.Y⟩=0
  ·
   have c':=ze6.1 c
   unfold okP at c'
   simp only at c'
   by_cases c2:1≤b.W_∧b.W_≤20000
   ·
    have e2:decide (1≤b.W_∧b.W_≤20000)=true:=by simpa using c2
    have e3:decide (1≤b.H∧b.H≤20000)=false:=by simp;omega
    simp[c,e2,e3,hF]
   ·
    have e2:decide (1≤b.W_∧b.W_≤20000)=false:=by simpa using c2
    simp[c,e2,hF]
  ·
   have e1:jn ⟨b.X,b.Y⟩=3:=(zr7 _).resolve_left c
   rw[e1]
   cases decide (1≤b.W_∧b.W_≤20000)<;>cases decide (1≤b.H∧b.H≤20000)<;>simp[hF]
theorem zl5 (N:Nat)(hN:N≤4611686018427387904){α β:Type}[Inhabited α]{l:List α}{step:Int→List β→Option (List β)}(g:α→List β)(s0:List β)(hg:∀a∈l,(g a).length≤1)(hl:s0.length+l.length≤N)
  (hf:∀i s,inR l i→s.length<N→step i s=some (s++g (gx l i))):y7 (l.length:Int) step s0=some (s0++l.flatMap g):=by
 obtain⟨s,h1,h2⟩:=vB (n:=(l.length:Int)) (step:=step) (s0:=s0) (fun i s=>s=s0++(l.take i).flatMap g∧s.length≤s0.length+i) (by omega) (by simp) (fun i s hi hI=>by
  have hi':i<l.length:=by omega
  refine⟨_,hf i s ⟨by omega,by omega⟩ (by omega),?_,?_⟩
  ·
   rw[zP hi',hI.1,List.take_succ_eq_append_getElem hi',List.flatMap_append,List.append_assoc];simp
  ·
   rw[zP hi',List.length_append]
   have:=hg _ (List.getElem_mem hi')
   omega)
 rw[h1,h2.1];simp
theorem zc8 {α β:Type}[Inhabited α]{l:List α}{step:Int→List β→Option (List β)}(g:α→List β)(s0:List β)(hg:∀a∈l,(g a).length≤1)(hl:s0.length+l.length≤1073741824)
  (hf:∀i s,inR l i→(s.length:Int)<1073741824→step i s=some (s++g (gx l i))):y7 (l.length:Int) step s0=some (s0++l.flatMap g):=
 zl5 1073741824 (by omega) g s0 hg hl (fun i s hi hs=>hf i s hi (by omega))
theorem vA {σ O:Type}{n:Nat}{step:Int→σ→Option (Res σ O)}{fin:σ→O}(S:Nat→σ)(err:Nat→Int)(mk:Int→O)(hn:(n:Int)≤9223372036854775807)
  (hf:∀i:Nat,i<n→(∀j,j<i→err j=0)→step i (S i)=some (if err i=0 then .nx (S (i+1))else .ab (mk (err i)))):
  zZ (n:Int) step fin (S 0)=some (if zH ((List.range n).map err)=0 then fin (S n)else mk (zH ((List.range n).map err))):=by
 have hfe:∀(k i:Nat),zH ((List.range' i k).map err)=0∨∃j,i≤j∧j<i+k∧(∀q,i≤q→q<j→err q=0)∧err j≠0∧zH ((List.range' i k).map err)=err j:=by
  intro k
  induction k with
  | zero=>intro i;left;rfl
  | succ k ih=>
   intro i
   rw[List.range'_succ,List.map_cons,vN]
   by_cases h:err i=0
   ·
    rw[if_pos h]
    rcases ih (i+1)with h1 | ⟨j,h1,h2,h3,h4,h5⟩
    ·
     exact .inl h1
    ·
     refine .inr ⟨j,by omega,by omega,fun q q1 q2=>?_,h4,h5⟩
     by_cases hq:q=i
     ·
      rw[hq];exact h
     ·
      exact h3 q (by omega) q2
   ·
    rw[if_neg h]
    exact .inr ⟨i,Nat.le_refl _,by omega,fun q q1 q2=>by omega,h,rfl⟩
 obtain⟨e,h1,h2⟩:=QU (n:=(n:Int)) (step:=step) (fin:=fin) (s0:=S 0) (fun i s=>s=S i∧∀j,j<i→err j=0)
  (fun e=>e=if zH ((List.range n).map err)=0 then fin (S n)else mk (zH ((List.range n).map err))) hn ⟨rfl,fun j h=>by omega⟩ (fun i s hi hI=>by
   obtain⟨rfl,hz⟩:=hI
   have hi':i<n:=by omega
   rw[hf i hi' hz]
   by_cases he:err i=0
   ·
    left
    rw[if_pos he]
    refine⟨_,rfl,rfl,fun j hj=>?_⟩
    by_cases hj':j=i
    ·
     rw[hj'];exact he
    ·
     exact hz j (by omega)
   ·
    right
    rw[if_neg he]
    refine⟨_,rfl,?_⟩
    have:=hfe n 0
    rw[List.range_eq_range']
    rcases this with h1 | ⟨j,a1,a2,a3,a4,a5⟩
    ·
     have:=qo.1 h1 (err i) (List.mem_map.2 ⟨i,by simp;exact hi',rfl⟩)
     exact absurd this he
    ·
     rw[a5,if_neg a4]
     have:j=i:=by
      rcases Nat.lt_trichotomy j i with c | c | c
      ·
       exact absurd (hz j c) a4
      ·
       exact c
      ·
       exact absurd (a3 i (by omega) c) he
     rw[this]) (fun s hI=>by
   obtain⟨rfl,hz⟩:=hI
   have:zH ((List.range n).map err)=0:=qo.2 (fun e he=>by
    obtain⟨j,hj,rfl⟩:=List.mem_map.1 he
    exact hz j (by simpa using hj))
   rw[if_pos this];rfl)
 rw[h1,h2]
def jM (c:UInt8):Bool:=decide (97≤c.toNat)&&decide (c.toNat≤122)
def nameC (c:UInt8):Bool:=jM c || (decide (48≤c.toNat)&&decide (c.toNat≤57)) || decide (c.toNat=45)
def zX (s:Str):Bool:=decide (s.b.length≤40)&&(match s.b with | []=>false | c::l=>jM c&&l.all nameC)
theorem zeJ {s:Str}(h:zX s=true):s≠Str.nil:=by
 rintro rfl
 simp[zX,Str.nil]at h
theorem znd (l cs:List UInt8):Go.Lib.trimS l cs=[]↔l.all (cs.contains ·)=true:=by
 have hd:∀(m:List UInt8),m.dropWhile (cs.contains ·)=[]↔m.all (cs.contains ·)=true:=by
  intro m
  induction m with
  | nil=>simp
  | cons c m ih=>
   rw[List.dropWhile_cons,List.all_cons]
   cases h:cs.contains c with
   | true=>simp only[if_true,Bool.true_and];exact ih
   | false=>simp
 unfold Go.Lib.trimS Go.Lib.trimLeftS
 rw[hd]
 unfold Go.Lib.trimRightS
 constructor
 ·
  intro h
  cases hq:l.reverse.dropWhile (cs.contains ·)with
  | nil=>
   have:=(hd l.reverse).1 hq
   simpa using this
  | cons c m=>
   have hc:cs.contains c=false:=by
    have:=List.head?_dropWhile_not (cs.contains ·) l.reverse
    rw[hq]at this
    simpa using this
   rw[hq]at h
   have:c∈(c::m).reverse:=by simp
   have:=List.all_eq_true.1 h c this
   rw[hc]at this;cases this
 ·
  intro h
  have:l.reverse.dropWhile (cs.contains ·)=[]:=(hd _).2 (by simpa using h)
  rw[this];rfl
theorem zk6 (c:UInt8):([97,98,99,100,101,102,103,104,105,106,107,108,109,110,111,112,113,114,115,116,117,118,119,120,121,122,48,49,50,51,52,53,54,55,56,57,45]:List UInt8).contains c=nameC c:=by
 have h:∀n,n<256→([97,98,99,100,101,102,103,104,105,106,107,108,109,110,111,112,113,114,115,116,117,118,119,120,121,122,48,49,50,51,52,53,54,55,56,57,45]:List UInt8).contains (UInt8.ofNat n)=nameC (UInt8.ofNat n):=by decide +kernel
 have:=h c.toNat (UInt8.toNat_lt c)
 simpa using this
theorem zhe (c:UInt8):(decide ((97:Int)≤(c.toNat:Int))&&decide ((c.toNat:Int)≤122))=jM c:=by
 unfold jM
 congr 1<;>simp only[decide_eq_decide]<;>omega
theorem zoM (c:UInt8):(decide ((48:Int)≤(c.toNat:Int))&&decide ((c.toNat:Int)≤57))=(decide (48≤c.toNat)&&decide (c.toNat≤57)):=by
 congr 1<;>simp only[decide_eq_decide]<;>omega
theorem zoJ (c:UInt8):decide ((c.toNat:Int)=45)=decide (c.toNat=45):=by simp only[decide_eq_decide];omega
theorem zg3 (s:Str):QP s=some (zX s):=by
 obtain⟨b⟩:=s
 unfold QP
 cases b with
 | nil=>simp[need,Str.nil,zX,gd,zaf]
 | cons c l=>
  have hne:(⟨c::l⟩:Str)≠Str.nil:=by simp[Str.nil]
  have hg:gx (c::l) 0=c:=by simp[gx]
  have hin:inR (c::l) 0:=⟨by omega,by simp⟩
  rw[zl (fun _=>hin),zl (fun _ _=>hin)]
  simp only[hg,decide_eq_false hne,Bool.not_false,Bool.true_and]
  rw[zhe]
  unfold zaf
  rw[zl ⟨by decide,by decide⟩]
  have ht:decide (trimS ⟨c::l⟩ (⟨[97,98,99,100,101,102,103,104,105,106,107,108,109,110,111,112,113,114,115,116,117,118,119,120,121,122,48,49,50,51,52,53,54,55,56,57,45]⟩:Str)=Str.nil)=(c::l).all nameC:=by
   rw[Bool.eq_iff_iff,decide_eq_true_eq]
   unfold trimS Str.nil
   rw[Str.mk.injEq,znd]
   have:(fun x=>([97,98,99,100,101,102,103,104,105,106,107,108,109,110,111,112,113,114,115,116,117,118,119,120,121,122,48,49,50,51,52,53,54,55,56,57,45]:List UInt8).contains x)=nameC:=funext zk6
   rw[this]
  have hlen:decide (((c::l).length:Int)≤40)=decide ((c::l).length≤40):=by simp only[decide_eq_decide];omega
  unfold zX
  simp only[hlen]
  cases hA:decide ((c::l).length≤40)with
  | false=>simp[gd]
  | true=>
   cases hB:jM c with
   | false=>simp[gd]
   | true=>
    simp only[Bool.and_self,qy,Option.bind_some,Bool.true_and,ht,List.all_cons]
    have:nameC c=true:=by simp[nameC,hB]
    rw[this,Bool.true_and]
theorem zet (s:Str):Yf s=some (zX s):=by
 obtain⟨b⟩:=s
 unfold Yf
 cases b with
 | nil=>simp[need,Str.nil,zX,gd,zaf]
 | cons c l=>
  have hne:(⟨c::l⟩:Str)≠Str.nil:=by simp[Str.nil]
  have hg:gx (c::l) 0=c:=by simp[gx]
  have hin:inR (c::l) 0:=⟨by omega,by simp⟩
  rw[zl (fun _=>hin),zl (fun _=>hin)]
  simp only[hg,decide_eq_false hne,Bool.not_false,Bool.true_and]
  have e:∀X:Bool,((X&&decide ((97:Int)≤(c.toNat:Int)))&&decide ((c.toNat:Int)≤122))=(X&&jM c):=fun X=>by rw[Bool.and_assoc,zhe]
  simp only[e]
  unfold zaf
  rw[zl ⟨by decide,by decide⟩]
  have ht:decide (trimS ⟨c::l⟩ (⟨[97,98,99,100,101,102,103,104,105,106,107,108,109,110,111,112,113,114,115,116,117,118,119,120,121,122,48,49,50,51,52,53,54,55,56,57,45]⟩:Str)=Str.nil)=(c::l).all nameC:=by
   rw[Bool.eq_iff_iff,decide_eq_true_eq]
   unfold trimS Str.nil
   rw[Str.mk.injEq,znd]
   have:(fun x=>([97,98,99,100,101,102,103,104,105,106,107,108,109,110,111,112,113,114,115,116,117,118,119,120,121,122,48,49,50,51,52,53,54,55,56,57,45]:List UInt8).contains x)=nameC:=funext zk6
   rw[this]
  have hlen:decide (((c::l).length:Int)≤40)=decide ((c::l).length≤40):=by simp only[decide_eq_decide];omega
  unfold zX
  simp only[hlen]
  cases hA:decide ((c::l).length≤40)with
  | false=>simp[gd]
  | true=>
   cases hB:jM c with
   | false=>simp[gd]
   | true=>
    simp only[Bool.and_self,qy,Option.bind_some,Bool.true_and,ht,List.all_cons]
    have:nameC c=true:=by simp[nameC,hB]
    rw[this,Bool.true_and]
theorem zbG {s:Str}(hs:zF s):QR s=some (zX s):=by
 have hl:(s.b.length:Int)≤9223372036854775807:=by have:s.b.length≤9223372036854775807:=hs;omega
 obtain⟨b⟩:=s
 unfold QR
 simp only at hl⊢
 let ok:Nat→Bool:=fun i=>match i with | 0=>jM (gx b 0) | i+1=>nameC (gx b ((i+1:Nat):Int))
 have:=vA (n:=b.length) (step:=zfj ⟨b⟩) (fin:=fun s=>(Res.nx s:Res Unit Bool)) (fun _=>()) (fun i=>if ok i=true then 0 else 1) (fun _=>Res.ab false) hl (fun i hi _=>by
  unfold zfj
  have hin:inR b (i:Int):=⟨by omega,by omega⟩
  rw[zl hin,zw]
  simp only
  generalize hc:gx b (i:Int)=c
  rw[zhe,zoM,zoJ]
  cases i with
  | zero=>
   have:ok 0=jM c:=by show jM (gx b 0)=_;rw[←hc];rfl
   rw[this]
   cases jM c<;>simp
  | succ i=>
   have:ok (i+1)=nameC c:=by show nameC (gx b ((i+1:Nat):Int))=_;rw[hc]
   rw[this]
   have h0:decide (((i+1:Nat):Int)=0)=false:=decide_eq_false (by omega)
   rw[h0]
   unfold nameC
   cases jM c<;>cases(decide (48≤c.toNat)&&decide (c.toNat≤57))<;>cases decide (c.toNat=45)<;>simp)
 rw[this]
 have hall:zH ((List.range b.length).map (fun i=>if ok i=true then(0:Int)else 1))=0↔∀i,i<b.length→ok i=true:=by
  rw[qo]
  constructor
  ·
   intro h i hi
   have:=h _ (List.mem_map.2 ⟨i,by simpa using hi,rfl⟩)
   by_cases c:ok i=true
   ·
    exact c
   ·
    rw[if_neg c]at this;cases this
  ·
   intro h e he
   obtain⟨i,hi,rfl⟩:=List.mem_map.1 he
   rw[if_pos (h i (by simpa using hi))]
 cases b with
 | nil=>simp[zX,Str.nil]
 | cons c l=>
  have hok:(∀i,i<(c::l).length→ok i=true)↔(jM c&&l.all nameC)=true:=by
   rw[Bool.and_eq_true,List.all_eq_true]
   constructor
   ·
    intro h
    refine⟨h 0 (by simp),fun x hx=>?_⟩
    obtain⟨j,hj,rfl⟩:=List.mem_iff_getElem.1 hx
    have:=h (j+1) (by simp;exact hj)
    have e:gx (c::l) ((j+1:Nat):Int)=l[j]:=by rw[zP (by simp;exact hj)];rfl
    rw[←e];exact this
   ·
    rintro⟨h1,h2⟩ i hi
    cases i with
    | zero=>exact h1
    | succ i=>
     show nameC (gx (c::l) ((i+1:Nat):Int))=true
     rw[zP hi]
     exact h2 _ (by simp)
  have hne:(⟨c::l⟩:Str)≠Str.nil:=by simp[Str.nil]
  unfold zX
  by_cases h:(jM c&&l.all nameC)=true
  ·
   rw[if_pos (hall.2 (hok.2 h))]
   simp only[yG,decide_eq_false hne,h,Bool.not_false,Bool.true_and,Bool.and_true]
   congr 1
   simp only[decide_eq_decide];omega
  ·
   have h':(jM c&&l.all nameC)=false:=by simpa using h
   rw[if_neg (fun e=>h (hok.1 (hall.1 e)))]
   simp[h']
def jd (b:UInt8):Bool:=(decide (b.toNat<32)&&!decide (b.toNat=10)) || decide (b.toNat=127)
def yp (s:Str):Int:=if 1000<s.b.length then 4 else if YA s=true∧s.b.any jd=false then 0 else 2
theorem zdu {s:Str}:yp s=0↔s.b.length≤1000∧YA s=true∧s.b.any jd=false:=by
 unfold yp
 by_cases h:1000<s.b.length
 ·
  rw[if_pos h];simp;omega
 ·
  rw[if_neg h]
  by_cases h2:YA s=true∧s.b.any jd=false
  ·
   rw[if_pos h2];exact⟨fun _=>⟨by omega,h2⟩,fun _=>rfl⟩
  ·
   rw[if_neg h2];exact⟨fun e=>by simp at e,fun hh=>absurd hh.2 h2⟩
theorem ziz (b:UInt8):((decide ((⟨(b.toNat:Int)⟩:KI .u8).n<(⟨32⟩:KI .u8).n)&&!decide ((⟨(b.toNat:Int)⟩:KI .u8).n=(⟨10⟩:KI .u8).n)) || decide ((⟨(b.toNat:Int)⟩:KI .u8).n=(⟨127⟩:KI .u8).n))=jd b:=by
 unfold jd
 have e1:decide ((⟨(b.toNat:Int)⟩:KI .u8).n<(⟨32⟩:KI .u8).n)=decide (b.toNat<32):=by simp;omega
 have e2:decide ((⟨(b.toNat:Int)⟩:KI .u8).n=(⟨10⟩:KI .u8).n)=decide (b.toNat=10):=by simp;omega
 have e3:decide ((⟨(b.toNat:Int)⟩:KI .u8).n=(⟨127⟩:KI .u8).n)=decide (b.toNat=127):=by simp;omega
 rw[e1,e2,e3]
theorem zdB (s:Str):Yx s=some (yp s):=by
 unfold Yx
 by_cases h:1000<s.b.length
 ·
  rw[decide_eq_true (by omega),show yp s=4 by unfold yp;rw[if_pos h]];rfl
 ·
  rw[decide_eq_false (by omega),cond_false]
  simp only[utf8_ValidString,Option.bind_some]
  cases hv:YA s with
  | false=>rw[show yp s=2 by unfold yp;rw[if_neg h,hv,if_neg (fun x=>by cases x.1)]];rfl
  | true=>
   simp only[Bool.not_true,cond_false]
   rw[vh (fun b=>if jd b=true then 2 else 0) (fun e=>(Res.ab e:Res Unit Int)) (by omega) (fun i hi=>by
    unfold zhL
    rw[zl hi,zl (fun _=>hi),zl (fun _=>hi),ziz]
    cases jd (gx s.b i)<;>simp)]
   by_cases hb:s.b.any jd=true
   ·
    rw[show yp s=2 by unfold yp;rw[if_neg h,hb,if_neg (fun x=>by cases x.2)]]
    have hne:zH (s.b.map (fun b=>if jd b=true then(2:Int)else 0))=2:=by
     clear h hv
     generalize s.b=l at hb
     induction l with
     | nil=>simp at hb
     | cons b l ih=>
      rw[List.map_cons,vN]
      by_cases c:jd b=true
      ·
       rw[c];simp
      ·
       rw[if_pos (by simp[c])]
       exact ih (by simpa [c]using hb)
    rw[hne];simp
   ·
    have hb':s.b.any jd=false:=by simpa using hb
    rw[show yp s=0 by unfold yp;rw[if_neg h,if_pos ⟨hv,hb'⟩]]
    have hz:zH (s.b.map (fun b=>if jd b=true then(2:Int)else 0))=0:=qo.2 (fun e he=>by
     obtain⟨b,hbm,rfl⟩:=List.mem_map.1 he
     have:jd b=false:=by
      cases q:jd b with
      | false=>rfl
      | true=>exact absurd (List.any_eq_true.2 ⟨b,hbm,q⟩) hb
     rw[this];simp)
    rw[hz];simp
theorem zf9 {s:Str}(hs:zF s):Jf s=some (yp s):=by
 have hl:(s.b.length:Int)≤9223372036854775807:=by have:s.b.length≤9223372036854775807:=hs;omega
 unfold Jf
 simp only[utf8_ValidString,Option.bind_some,zw]
 rw[zsX (l:=s.b) (fun a b=>a || jd b) hl (fun i a hi=>by
  unfold zhx
  rw[zl (fun _=>hi),zl (fun _ _=>hi),zl (fun _=>hi),zw]
  rw[Bool.or_assoc,ziz])]
 have hf:∀(l:List UInt8) (a:Bool),l.foldl (fun a b=>a || jd b) a=(a || l.any jd):=by
  intro l
  induction l with
  | nil=>intro a;simp
  | cons b l ih=>intro a;rw[List.foldl_cons,ih,List.any_cons,Bool.or_assoc]
 rw[hf,Option.bind_some,jm,jm,Option.bind_some,Option.bind_some,QF (by simp),Option.bind_some]
 congr 1
 unfold yp
 by_cases h:1000<s.b.length
 ·
  rw[if_pos h,if_pos (by simp;omega)];rfl
 ·
  rw[if_neg h,if_neg (by simp;omega)]
  by_cases h2:YA s=true∧s.b.any jd=false
  ·
   rw[if_pos h2];simp[h2]
  ·
   rw[if_neg h2]
   have:(!YA s || s.b.any jd)=true:=by
    cases a:YA s
    ·
     simp
    ·
     cases b:s.b.any jd
     ·
      exact absurd ⟨a,b⟩ h2
     ·
      simp
   rw[if_pos (by simpa using this)];simp
theorem zkx (c:UInt8):∀(l:List (List UInt8)),Go.Lib.join l [c]=qK c l
 | []=>rfl
 | [a]=>Go.Lib.join_one a [c]
 | a::b::r=>by
  have ih:=zkx c (b::r)
  rw[qK,←ih]
  simp[Go.Lib.join,List.intercalate,List.intersperse]
def qC (l:List Int):List UInt8:=qK 32 (l.map Go.Lib.itoa)
theorem zg8 (c:UInt8):∀(l:List (List UInt8)) (n:Nat),(∀x∈l,x.length≤n)→(qK c l).length≤l.length*(n+1)
 | [],n,_=>by simp[qK]
 | [a],n,h=>by have:=h a (by simp);simp only[qK,List.length_singleton];omega
 | a::b::r,n,h=>by
  have ih:=zg8 c (b::r) n (fun x hx=>h x (by simp[hx]))
  have:=h a (by simp)
  rw[qK,List.length_append,List.length_cons]
  rw[show(a::b::r).length=(b::r).length+1 from rfl,Nat.add_mul];omega
theorem zkq {n:Int}(h:InI n):(Go.Lib.itoa n).length≤21:=Go.Lib.itoa_length_le n (by unfold InI at h;omega) (by unfold InI at h;omega)
theorem zrO {l:List Int}(hr:∀x∈l,InI x):(qC l).length≤l.length*22:=by
 have:=zg8 32 (l.map Go.Lib.itoa) 21 (fun x hx=>by
  obtain⟨n,hn,rfl⟩:=List.mem_map.1 hx
  exact zkq (hr n hn))
 simpa [qC]using this
theorem vY {n:Int}(h:InI n):strconv_Itoa n=some (yC n):=by
 unfold strconv_Itoa
 exact zl (by have:=zkq h;show(Go.Lib.itoa n).length≤_;omega)
theorem zky {l:List Int}:zaV (l.map yC) ⟨[32]⟩=⟨qC l⟩:=by
 unfold zaV qC
 rw[show(⟨[32]⟩:Str).b=[32]from rfl,zkx,List.map_map]
 rfl
theorem zig {l:List Int}(hl:l.length≤1000000)(hr:∀x∈l,InI x):strings_Join (l.map yC) ⟨[32]⟩=some ⟨qC l⟩:=by
 unfold strings_Join
 rw[zl ⟨by rw[List.length_map];omega,by rw[zky];have:=zrO hr;show(qC l).length≤_;omega⟩,zky]
theorem zgR {α β:Type}(f:α→β):∀l:List α,(l.flatMap fun x=>[f x])=l.map f
 | []=>rfl
 | a::l=>by rw[List.flatMap_cons,zgR f l];rfl
theorem zik {l:List Int}(hl:l.length≤1000000)(hr:∀x∈l,InI x):YK l=some ⟨qC l⟩:=by
 unfold YK
 have hg:(l.flatMap fun n=>[yC n])=l.map yC:=zgR yC l
 have h:=zc8 (l:=l) (step:=zdO l) (fun n=>[yC n]) [] (fun _ _=>Nat.le_refl 1) (by simp;omega) (fun i s hi hs=>by
  unfold zdO
  rw[zl hi,vY (hr _ (jy hi)),Option.bind_some,zl (by rw[jV,List.length_singleton];omega)])
 rw[h,hg,Option.bind_some,List.nil_append,zig hl hr];rfl
theorem zli {l:List Int}(hl:l.length≤1000000)(hr:∀x∈l,InI x):J4 l=some ⟨qC l⟩:=by
 unfold J4
 have hg:(l.flatMap fun n=>[yC n])=l.map yC:=zgR yC l
 have h:=zc8 (l:=l) (step:=zfr l) (fun n=>[yC n]) [] (fun _ _=>Nat.le_refl 1) (by simp;omega) (fun i s hi hs=>by
  unfold zfr
  rw[zl hi,vY (hr _ (jy hi)),Option.bind_some,zl (by rw[jV,List.length_singleton];omega)])
 rw[h,hg,Option.bind_some,List.nil_append,zig hl hr];rfl
theorem zhY (s:Str)(c:UInt8):zae s ⟨[c]⟩=(jf c (s.b.count c) s.b).map Str.mk:=by
 unfold zae
 rw[show Go.Lib.countB ⟨s.b.toArray⟩ ⟨[c].toArray⟩=s.b.count c from Go.Lib.count_one c s.b]
 exact zmT c _ s.b
theorem ziS (c:UInt8):∀(k:Nat) (l:List UInt8),l.count c≤k→∀w∈jf c k l,c∉w
 | 0,l,h,w,hw=>by
  have:c∉l:=List.count_eq_zero.1 (Nat.le_zero.1 h)
  rw[Yb this]at hw
  rw[List.mem_singleton.1 hw];exact this
 | k+1,l,h,w,hw=>by
  by_cases hc:c∈l
  ·
   obtain⟨a,m,rfl,h2⟩:=za2 hc
   rw[zav h2]at hw
   rcases List.mem_cons.1 hw with rfl | hw
   ·
    exact h2
   ·
    exact ziS c k m (by simp only[List.count_append,List.count_cons_self]at h;omega) w hw
  ·
   rw[Yb hc]at hw
   rw[List.mem_singleton.1 hw];exact hc
theorem ziT (c:UInt8):∀(ws:List (List UInt8)) (k:Nat),ws≠[]→(∀w∈ws,c∉w)→ws.length≤k+1→jf c k (qK c ws)=ws
 | [],_,h,_,_=>absurd rfl h
 | [a],k,_,h,_=>Yb (h a (by simp))
 | a::b::r,0,_,_,hl=>by simp at hl
 | a::b::r,k+1,_,h,hl=>by
  rw[qK,zav (h a (by simp)),ziT c (b::r) k (by simp) (fun w hw=>h w (by simp[hw])) (by simp only[List.length_cons]at hl⊢;omega)]
theorem ziO (c:UInt8):∀(ws:List (List UInt8)),ws≠[]→(∀w∈ws,c∉w)→(qK c ws).count c+1=ws.length
 | [],h,_=>absurd rfl h
 | [a],_,h=>by
  show a.count c+1=1
  rw[List.count_eq_zero.2 (h a (by simp))]
 | a::b::r,_,h=>by
  have ih:=ziO c (b::r) (by simp) (fun w hw=>h w (by simp[hw]))
  rw[qK,List.count_append,List.count_cons_self,List.count_eq_zero.2 (h a (by simp)),List.length_cons,←ih];omega
theorem zt6 {c:UInt8}{ws:List (List UInt8)}(h0:ws≠[])(h:∀w∈ws,c∉w):zae ⟨qK c ws⟩ ⟨[c]⟩=ws.map Str.mk:=by
 rw[zhY,show(⟨qK c ws⟩:Str).b=qK c ws from rfl,ziT c ws _ h0 h (by have:=ziO c ws h0 h;omega)]
theorem zkt {c b:UInt8}:∀{ws:List (List UInt8)},b∈qK c ws→b=c∨∃w∈ws,b∈w
 | [],h=>by simp[qK]at h
 | [a],h=>.inr ⟨a,by simp,h⟩
 | a::d::r,h=>by
  rw[qK,List.mem_append,List.mem_cons]at h
  rcases h with h | h | h
  ·
   exact .inr ⟨a,by simp,h⟩
  ·
   exact .inl h
  ·
   rcases zkt h with h | ⟨w,hw,h⟩
   ·
    exact .inl h
   ·
    exact .inr ⟨w,by simp[hw],h⟩
structure zdH (w:List UInt8):Prop where
 ne:w≠[]
 b32:(32:UInt8)∉w
 b34:(34:UInt8)∉w
 b10:(10:UInt8)∉w
def yN (l:List zh)(id:Str):Int:=match l.findIdx? (fun n=>decide (n.Id=id))with | some i=>(i:Int) | none=> -1
theorem zif (s:List zh)(f:zh→Option Bool)(p:zh→Bool)(hl:(s.length:Int)≤9223372036854775807)(hf:∀x∈s,f x=some (p x)):
  zbw s f=some (match s.findIdx? p with | some i=>(i:Int) | none=> -1):=by
 unfold zbw
 rw[zl2 p hl (fun i h=>by unfold zhS;rw[zl ⟨by omega,by omega⟩,zP h,hf _ (List.getElem_mem h)];simp only[yZ];cases p s[i]<;>rfl)]
 cases s.findIdx? p<;>rfl
theorem znF (s:List zh)(f:zh→Option Bool)(p:zh→Bool)(hl:(s.length:Int)≤9223372036854775807)(hf:∀x∈s,f x=some (p x)):
  zdd s f=some (s.any p):=by
 unfold zdd
 rw[zif s f p hl hf,yZ]
 exact congrArg some zkj
theorem znS (s:List zu)(f:zu→Option Bool)(p:zu→Bool)(hl:(s.length:Int)≤9223372036854775807)(hf:∀x∈s,f x=some (p x)):
  zdi s f=some (match s.findIdx? p with | some i=>(i:Int) | none=> -1):=by
 unfold zdi
 rw[zl2 p hl (fun i h=>by unfold zhR;rw[zl ⟨by omega,by omega⟩,zP h,hf _ (List.getElem_mem h)];simp only[yZ];cases p s[i]<;>rfl)]
 cases s.findIdx? p<;>rfl
theorem znE (s:List zu)(f:zu→Option Bool)(p:zu→Bool)(hl:(s.length:Int)≤9223372036854775807)(hf:∀x∈s,f x=some (p x)):
  zdc s f=some (s.any p):=by
 unfold zdc
 rw[znS s f p hl hf,yZ]
 exact congrArg some zkj
theorem zap {d:Doc}(hl:(d.Nodes.length:Int)≤9223372036854775807)(id:Str):Yu d id=some (yN d.Nodes id):=by
 unfold Yu
 rw[zif d.Nodes (fun x0=>zcR x0 id) (fun n=>decide (n.Id=id)) hl (fun x _=>rfl)]
 rfl
theorem zeL {l:List zh}{id:Str}:yN l id<0↔∀n∈l,n.Id≠id:=by
 unfold yN
 cases h:l.findIdx? (fun n=>decide (n.Id=id))with
 | none=>
  rw[List.findIdx?_eq_none_iff]at h
  simpa using h
 | some i=>
  obtain⟨hi,hp,_⟩:=List.findIdx?_eq_some_iff_getElem.1 h
  simp only
  constructor
  ·
   intro h;omega
  ·
   intro h;exact absurd (by simpa using hp) (h _ (List.getElem_mem hi))
theorem JY {l:List zh}{id:Str}(h:∃n∈l,n.Id=id):inR l (yN l id)∧(gx l (yN l id)).Id=id:=by
 unfold yN
 cases hq:l.findIdx? (fun n=>decide (n.Id=id))with
 | none=>
  rw[List.findIdx?_eq_none_iff]at hq
  obtain⟨n,hn,e⟩:=h
  exact absurd e (by simpa using hq n hn)
 | some i=>
  obtain⟨hi,hp,_⟩:=List.findIdx?_eq_some_iff_getElem.1 hq
  refine⟨⟨by simp,by simp only;omega⟩,?_⟩
  simp only
  rw[zP hi];simpa using hp
theorem zhh {l:List zh}(hd:(l.map (·.Id)).Nodup){i:Nat}(hi:i<l.length):yN l l[i].Id=i:=by
 unfold yN
 have:l.findIdx? (fun n=>decide (n.Id=l[i].Id))=some i:=by
  rw[List.findIdx?_eq_some_iff_getElem]
  refine⟨hi,by simp,fun j hj=>?_⟩
  simp only[decide_eq_true_eq]
  intro e
  have:=List.pairwise_iff_getElem.1 hd j i (by simp;omega) (by simpa using hi) hj
  simp at this
  exact this e
 rw[this]
def qA (l:List zh)(p:Str):List Int:=((List.range l.length).filter (fun(i:Nat)=>decide ((gx l (i:Int)).Parent=p))).map (fun(i:Nat)=>(i:Int))
theorem zqp {α:Type}[Inhabited α]{l m:List α}{i:Nat}(hi:i<l.length):gx (l++m) (i:Int)=gx l (i:Int):=by
 rw[zP hi,zP (by simp;omega),List.getElem_append_left hi]
theorem zj4 {α:Type}[Inhabited α]{l:List α}{x:α}:gx (l++[x]) (l.length:Int)=x:=by
 rw[zP (by simp)];simp
theorem zer {l:List zh}{x:zh}{p:Str}:qA (l++[x]) p=qA l p++(if x.Parent=p then [(l.length:Int)]else []):=by
 unfold qA
 rw[List.length_append,List.length_singleton,List.range_succ,List.filter_append,List.map_append]
 congr 1
 ·
  congr 1
  refine List.filter_congr fun i hi=>?_
  rw[zqp (by simpa using hi)]
 ·
  by_cases h:x.Parent=p
  ·
   simp[h,zj4]
  ·
   simp[h,zj4]
theorem zqD {l:List zh}{p:Str}{k:Int}:k∈qA l p↔inR l k∧(gx l k).Parent=p:=by
 unfold qA
 simp only[List.mem_map,List.mem_filter,List.mem_range,decide_eq_true_eq]
 constructor
 ·
  rintro⟨i,⟨h1,h2⟩,rfl⟩;exact⟨⟨by omega,by omega⟩,h2⟩
 ·
  rintro⟨⟨h1,h2⟩,h3⟩
  refine⟨k.toNat,⟨by omega,?_⟩,by omega⟩
  rw[show((k.toNat:Nat):Int)=k by omega];exact h3
theorem zkk {l:List zh}{p:Str}:(qA l p).map (gx l)=l.filter (fun n=>decide (n.Parent=p)):=by
 have key:∀(k:Nat),k≤l.length→(qA (l.take k) p).map (gx l)=(l.take k).filter (fun n=>decide (n.Parent=p)):=by
  intro k
  induction k with
  | zero=>intro _;rfl
  | succ k ih=>
   intro hk
   rw[List.take_succ_eq_append_getElem (by omega),zer,List.map_append,ih (by omega),List.filter_append]
   congr 1
   have hlen:(l.take k).length=k:=by simp;omega
   by_cases h:(l[k]'(by omega)).Parent=p
   ·
    rw[if_pos h,hlen];simp[h,zP (show k<l.length by omega)]
   ·
    rw[if_neg h];simp[h]
 have:=key l.length (Nat.le_refl _)
 rwa [List.take_length]at this
def vw (l:List zh):GMap Str Int:=⟨fun id=>(l.findIdx? (fun n=>decide (n.Id=id))).map (fun(i:Nat)=>(i:Int))⟩
def vd (l:List zh):GMap Str (List Int):=⟨fun p=>if p≠Str.nil∧qA l p≠[]then some (qA l p)else none⟩
theorem zrM {l:List zh}{x:zh}(h:∀n∈l,n.Id≠x.Id):vw (l++[x])=(vw l).set x.Id l.length:=by
 unfold vw GMap.set
 congr 1
 funext id
 rw[List.findIdx?_append]
 by_cases he:id=x.Id
 ·
  subst he
  have:l.findIdx? (fun n=>decide (n.Id=x.Id))=none:=by
   rw[List.findIdx?_eq_none_iff]
   intro n hn
   simpa using h n hn
  rw[this,if_pos rfl]
  simp[List.findIdx?_cons]
 ·
  rw[if_neg he]
  have:[x].findIdx? (fun n=>decide (n.Id=id))=none:=by
   rw[List.findIdx?_eq_none_iff]
   intro n hn
   have:n=x:=by simpa using hn
   subst this
   simpa using fun e=>he e.symm
  rw[this]
  simp only
  cases l.findIdx? (fun n=>decide (n.Id=id))<;>rfl
theorem zeA {l:List zh}{p:Str}(hp:p≠Str.nil):(vd l).getD p []=qA l p:=by
 unfold vd GMap.getD
 simp only
 by_cases h:qA l p=[]
 ·
  rw[if_neg (by simp[h])];simp[h]
 ·
  rw[if_pos ⟨hp,h⟩];rfl
theorem zrw {l:List zh}{x:zh}(h:x.Parent=Str.nil):vd (l++[x])=vd l:=by
 unfold vd
 congr 1
 funext p
 by_cases hp:p=Str.nil
 ·
  simp[hp]
 ·
  have e:(if x.Parent=p then [(l.length:Int)]else [])=[]:=if_neg (fun e=>hp (by rw[←e,h]))
  rw[zer,e,List.append_nil]
theorem zrv {l:List zh}{x:zh}(h:x.Parent≠Str.nil):vd (l++[x])=(vd l).set x.Parent ((vd l).getD x.Parent []++[(l.length:Int)]):=by
 rw[zeA h]
 unfold vd GMap.set
 congr 1
 funext p
 simp only
 by_cases hp:p=x.Parent
 ·
  subst hp
  rw[if_pos rfl,zer,if_pos rfl,if_pos ⟨h,by simp⟩]
 ·
  have e:(if x.Parent=p then [(l.length:Int)]else [])=[]:=if_neg (fun e=>hp e.symm)
  rw[if_neg hp,zer,e,List.append_nil]
theorem zhl {l:List zh}{id:Str}:(vw l).has id=decide (0≤yN l id):=by
 unfold vw GMap.has yN
 simp only
 cases l.findIdx? (fun n=>decide (n.Id=id))<;>simp
theorem zeO {l:List zh}{id:Str}(h:0≤yN l id):(vw l).getD id 0=yN l id:=by
 unfold vw GMap.getD yN at *
 simp only at *
 cases hq:l.findIdx? (fun n=>decide (n.Id=id))with
 | none=>rw[hq]at h;simp at h
 | some i=>rfl
def yY (d:Doc):yw:=⟨d,vw d.Nodes,vd d.Nodes⟩
theorem zuJ {d:Doc}(hl:d.Nodes.length≤500)(hd:(d.Nodes.map (·.Id)).Nodup):zcD d=some (some (yY d)):=by
 unfold zcD
 simp only[zw]
 have hlen:∀k p,(qA (d.Nodes.take k) p).length≤500:=fun k p=>by
  unfold qA
  rw[List.length_map]
  refine Nat.le_trans (List.length_filter_le _ _) ?_
  simp;omega
 obtain⟨s,h1,h2⟩:=vB (n:=(d.Nodes.length:Int)) (step:=zeW d) (s0:=(GMap.nil,GMap.nil)) (fun i s=>s=(vw (d.Nodes.take i),vd (d.Nodes.take i))) (by omega) (by
  simp only[List.take_zero]
  have e1:vw []=(GMap.nil:GMap Str Int):=rfl
  have e2:vd []=(GMap.nil:GMap Str (List Int)):=by
   unfold vd GMap.nil
   congr 1
   funext p
   rw[if_neg (fun h=>h.2 rfl)]
  rw[e1,e2]) (fun i s hi hI=>by
  subst hI
  have hi':i<d.Nodes.length:=by omega
  have hln:(d.Nodes.take i).length=i:=by simp;omega
  have hnew:∀n∈d.Nodes.take i,n.Id≠d.Nodes[i].Id:=fun n hn=>by
   obtain⟨j,hj,rfl⟩:=List.mem_iff_getElem.1 hn
   rw[List.getElem_take]
   have hj':j<i:=by simp at hj;omega
   have:=List.pairwise_iff_getElem.1 hd j i (by simp;omega) (by simpa using hi') hj'
   simpa using this
  unfold zeW
  rw[zl ⟨by omega,by omega⟩,zP hi',zw,zw,List.take_succ_eq_append_getElem hi',zrM hnew,hln]
  simp only
  by_cases hp:d.Nodes[i].Parent=Str.nil
  ·
   rw[decide_eq_true hp,zrw hp]
   exact⟨_,rfl,rfl⟩
  ·
   rw[decide_eq_false hp,zrv hp,hln]
   rw[zeA hp]
   refine⟨_,?_,rfl⟩
   simp only[Bool.not_false,cond_true]
   rw[zl]
   show _≤1073741824
   have:=hlen i d.Nodes[i].Parent
   simp;omega)
 rw[h1,h2]
 simp[yY]
theorem zk1 {d:Doc}(hl:d.Nodes.length≤500)(id:Str):zbl d id=some (d.Nodes.filter (fun n=>decide (n.Parent=id))):=by
 unfold zbl
 rw[zc8 (fun n=>if n.Parent=id then [n]else []) [] (fun a _=>by split<;>simp) (by simp;omega) (fun i s hi hs=>by
  unfold zhA
  rw[zl hi,zw]
  by_cases h:(gx d.Nodes i).Parent=id
  ·
   rw[decide_eq_true h,if_pos h,cond_true,zl]
   show _≤1073741824
   simp;omega
  ·
   rw[decide_eq_false h,if_neg h,cond_false,List.append_nil])]
 simp only[List.nil_append,Option.bind_some]
 congr 1
 generalize d.Nodes=l
 induction l with
 | nil=>rfl
 | cons n l ih=>
  rw[List.flatMap_cons,ih,List.filter_cons]
  by_cases h:n.Parent=id<;>simp[h]
theorem zlf {α:Type}[DecidableEq α]:∀(l m:List α),l.Nodup→(∀x∈l,x∈m)→l.length≤m.length
 | [],m,_,_=>by simp
 | x::l,m,hn,hs=>by
  have hx:=hs x (by simp)
  have hn':=List.nodup_cons.1 hn
  have:=zlf l (m.erase x) hn'.2 (fun y hy=>by
   have hne:y≠x:=fun e=>hn'.1 (e▸hy)
   rw[List.mem_erase_of_ne hne];exact hs y (by simp[hy]))
  rw[List.length_erase_of_mem hx]at this
  have:=List.length_pos_of_mem hx
  simp;omega
def par (l:List zh)(n:zh):zh:=gx l (yN l n.Parent)
def anc (l:List zh)(n:zh):Nat→zh
 | 0=>n
 | k+1=>par l (anc l n k)
theorem zgb {l:List zh}{n:zh}{i:Nat}:∀t,anc l n (i+t)=anc l (anc l n i) t
 | 0=>rfl
 | t+1=>by
  show par l (anc l n (i+t))=par l (anc l (anc l n i) t)
  rw[zgb t]
def zbI (l:List zh):Prop:=∀n∈l,n.Parent≠Str.nil→∃g∈l,g.Id=n.Parent
theorem zlv {l:List zh}(hp:zbI l){n:zh}(hn:n∈l)(h:n.Parent≠Str.nil):par l n∈l∧(par l n).Id=n.Parent:=by
 obtain⟨h1,h2⟩:=JY (hp n hn h)
 exact⟨jy h1,h2⟩
theorem zgc {l:List zh}(hp:zbI l){n:zh}(hn:n∈l):∀k,(∀j,j<k→(anc l n j).Parent≠Str.nil)→anc l n k∈l
 | 0,_=>hn
 | k+1,h=>(zlv hp (zgc hp hn k (fun j hj=>h j (by omega))) (h k (by omega))).1
def Up (l:List zh)(n:zh)(m:Int)(b:Bool):Prop:=
 (b=false∧∃k:Nat,m=k∧(anc l n k).Parent=Str.nil∧∀j,j<k→(anc l n j).Parent≠Str.nil∧(anc l n j).Parent≠n.Id)∨
 ∃k:Nat,m=k+1∧(∀j,j≤k→(anc l n j).Parent≠Str.nil)∧(b=true↔(anc l n k).Parent=n.Id)∧(b=false→k=l.length∧∀j,j≤k→(anc l n j).Parent≠n.Id)
theorem zpc {l:List zh}(hp:zbI l)(hu:∀n∈l,∃m,Up l n m false){n:zh}(hn:n∈l){m:Int}(h:Up l n m false):∃k:Nat,m=k∧(anc l n k).Parent=Str.nil∧∀j,j<k→(anc l n j).Parent≠Str.nil:=by
 rcases h with⟨_,k,h1,h2,h3⟩ | ⟨k,h1,h2,h3,h4⟩
 ·
  exact⟨k,h1,h2,fun j hj=>(h3 j hj).1⟩
 ·
  exfalso
  obtain⟨rfl,h5⟩:=h4 rfl
  have hmem:∀j,j≤l.length→anc l n j∈l:=fun j hj=>zgc hp hn j (fun q hq=>h2 q (by omega))
  have hnd:¬((List.range (l.length+1)).map (anc l n)).Nodup:=fun hd=>by
   have:=zlf _ l hd (fun x hx=>by
    obtain⟨j,hj,rfl⟩:=List.mem_map.1 hx
    exact hmem j (by have:=List.mem_range.1 hj;omega))
   rw[List.length_map,List.length_range]at this
   omega
  have:∃i j,i<j∧j≤l.length∧anc l n i=anc l n j:=by
   apply Classical.byContradiction
   intro hne
   apply hnd
   rw[List.nodup_iff_pairwise_ne,List.pairwise_iff_getElem]
   intro i j hi hj hij e
   simp only[List.length_map,List.length_range]at hi hj
   simp at e
   exact hne ⟨i,j,hij,by omega,e⟩
  obtain⟨i,j,hij,hj,he⟩:=this
  let a:=anc l n i
  have ha:a∈l:=hmem i (by omega)
  let q:=j - i - 1
  have hq:(anc l a q).Parent=a.Id:=by
   have e1:anc l a q=anc l n (j - 1):=by
    rw[←zgb]
    congr 1
    omega
   have e2:=(zlv hp (hmem (j - 1) (by omega)) (h2 (j - 1) (by omega))).2
   have e3:par l (anc l n (j - 1))=a:=by
    show anc l n (j - 1+1)=a
    rw[show j - 1+1=j by omega,←he]
   rw[e1,←e2,e3]
  have hnn:∀t,t≤q→(anc l a t).Parent≠Str.nil:=fun t ht=>by
   rw[←zgb]
   exact h2 _ (by omega)
  obtain⟨m',hm'⟩:=hu a ha
  rcases hm' with⟨_,k,g1,g2,g3⟩ | ⟨k,g1,g2,g3,g4⟩
  ·
   by_cases hk:k≤q
   ·
    exact hnn k hk g2
   ·
    exact(g3 q (by omega)).2 hq
  ·
   obtain⟨rfl,g5⟩:=g4 rfl
   exact g5 q (by omega) hq
theorem zuK {d:Doc}{p:Str}(h:∃g∈d.Nodes,g.Id=p):zcH (yY d) p=some (gx d.Nodes (yN d.Nodes p)):=by
 obtain⟨h1,h2⟩:=JY h
 unfold zcH yY
 simp only[zw]
 rw[zeO h1.1,zl h1]
theorem zod {d:Doc}(hl:d.Nodes.length≤500)(hp:zbI d.Nodes){n:zh}(hn:n∈d.Nodes):∃m b,J1 (yY d) n=some (m,!b)∧Yv d n=some (m,b)∧Up d.Nodes n m b:=by
 obtain⟨e,e',h1,h2,h3⟩:=zri (body:=zeX n (yY d)) (body':=zfn d n) (s0:=((0:Int),n)) (t0:=((0:Int),n.Parent))
  (fun s t=>∃k:Nat,k≤d.Nodes.length∧s=((k:Int),anc d.Nodes n k)∧t=((k:Int),(anc d.Nodes n k).Parent)∧∀j,j<k→(anc d.Nodes n j).Parent≠Str.nil∧(anc d.Nodes n j).Parent≠n.Id)
  (fun s=>(d.Nodes.length+1 - s.1).toNat)
  (fun e e'=>(∃k:Nat,e=Res.nx (k:Int)∧e'=Res.nx (k:Int)∧Up d.Nodes n k false)∨∃m b,e=Res.ab (m,!b)∧e'=Res.ab (m,b)∧Up d.Nodes n m b)
  ⟨0,by omega,rfl,rfl,fun j hj=>by omega⟩ (fun s t hR=>by
   obtain⟨k,hk,rfl,rfl,hbef⟩:=hR
   have hmem:anc d.Nodes n k∈d.Nodes:=zgc hp hn k (fun j hj=>(hbef j hj).1)
   unfold zeX zfn
   simp only[zw]
   by_cases hnil:(anc d.Nodes n k).Parent=Str.nil
   ·
    right
    refine⟨Res.nx (k:Int),Res.nx (k:Int),by rw[decide_eq_true hnil];rfl,by rw[decide_eq_true hnil];rfl,.inl ⟨k,rfl,rfl,.inl ⟨rfl,k,rfl,hnil,hbef⟩⟩⟩
   ·
    rw[decide_eq_false hnil]
    simp only[Bool.not_false,cond_true]
    have hw:W ((k:Int)+1)=(k:Int)+1:=Wk (by omega) (by omega)
    rw[hw]
    have hv:(yY d).d.Nodes=d.Nodes:=rfl
    rw[hv]
    have hall:∀j,j≤k→(anc d.Nodes n j).Parent≠Str.nil:=fun j hj=>by
     rcases Nat.lt_or_eq_of_le hj with h | h
     ·
      exact(hbef j h).1
     ·
      rw[h];exact hnil
    by_cases hid:(anc d.Nodes n k).Parent=n.Id
    ·
     right
     rw[decide_eq_true hid]
     simp only[Bool.true_or,cond_true]
     refine⟨Res.ab ((k:Int)+1,!true),Res.ab ((k:Int)+1,true),rfl,rfl,.inr ⟨_,true,rfl,rfl,.inr ⟨k,rfl,hall,by simp[hid],fun h=>by cases h⟩⟩⟩
    ·
     rw[decide_eq_false hid]
     simp only[Bool.false_or]
     by_cases hlen:(d.Nodes.length:Int)<(k:Int)+1
     ·
      right
      rw[decide_eq_true hlen]
      refine⟨Res.ab ((k:Int)+1,!false),Res.ab ((k:Int)+1,false),rfl,rfl,.inr ⟨_,false,rfl,rfl,.inr ⟨k,rfl,hall,by simp[hid],fun _=>⟨by omega,fun j hj=>?_⟩⟩⟩⟩
      rcases Nat.lt_or_eq_of_le hj with h | h
      ·
       exact(hbef j h).2
      ·
       rw[h];exact hid
     ·
      left
      rw[decide_eq_false hlen]
      have hex:=hp _ hmem hnil
      rw[zuK hex,zap (by omega),cond_false,cond_false,Option.bind_some,Option.bind_some,zl (JY hex).1]
      refine⟨_,_,rfl,rfl,⟨k+1,by omega,by rw[Int.natCast_add];rfl,by rw[Int.natCast_add];rfl,fun j hj=>?_⟩,by simp only;omega⟩
      rcases Nat.lt_or_eq_of_le (Nat.lt_succ_iff.1 hj)with h | h
      ·
       exact hbef j h
      ·
       rw[h];exact⟨hnil,hid⟩)
 unfold J1 Yv
 rw[h1,h2]
 rcases h3 with⟨k,rfl,rfl,h3⟩ | ⟨m,b,rfl,rfl,h3⟩
 ·
  exact⟨k,false,rfl,rfl,h3⟩
 ·
  exact⟨m,b,rfl,rfl,h3⟩
theorem zuz {d:Doc}(hl:d.Nodes.length≤500)(hid:∀n∈d.Nodes,n.Id≠Str.nil):∃e,za8 (yY d)=some e∧zbm d=some e∧
  (e=0→(∀n∈d.Nodes,n.Parent≠Str.nil→∃g∈d.Nodes,g.Id=n.Parent∧(par d.Nodes n).Kind=6)∧(∀n∈d.Nodes,∃k:Nat,k≤8∧(anc d.Nodes n k).Parent=Str.nil∧∀j,j<k→(anc d.Nodes n j).Parent≠Str.nil)∧
   ∀n∈d.Nodes,n.Kind=6→qA d.Nodes n.Id≠[]):=by
 have hll:(d.Nodes.length:Int)≤9223372036854775807:=by omega
 have hv:(yY d).d.Nodes=d.Nodes:=rfl
 have hvn:(yY d).number=vw d.Nodes:=rfl
 have hvm:(yY d).members=vd d.Nodes:=rfl
 let err1:zh→Int:=fun n=>if n.Parent≠Str.nil∧(yN d.Nodes n.Parent<0∨(par d.Nodes n).Kind≠6)then 10 else 0
 have p1:zZ (d.Nodes.length:Int) (zeY (yY d)) (fun s=>Res.nx s) ()=some (if zH (d.Nodes.map err1)=0 then Res.nx ()else Res.ab (zH (d.Nodes.map err1))):=
  vh err1 (fun e=>(Res.ab e:Res Unit Int)) hll (fun i hi=>by
   unfold zeY
   rw[hv,hvn,zl hi,zw]
   have hneed:(!decide ((gx d.Nodes i).Parent=Str.nil))=true→(!(vw d.Nodes).has (gx d.Nodes i).Parent)=false→inR d.Nodes ((vw d.Nodes).getD (gx d.Nodes i).Parent 0):=fun _ h2=>by
    rw[zhl]at h2
    have:0≤yN d.Nodes (gx d.Nodes i).Parent:=by simpa using h2
    rw[zeO this]
    apply Classical.byContradiction
    intro hc
    have:=JY (l:=d.Nodes) (id:=(gx d.Nodes i).Parent) (Classical.byContradiction fun hne=>by
     have:yN d.Nodes (gx d.Nodes i).Parent<0:=zeL.2 (fun n hn e=>hne ⟨n,hn,e⟩)
     omega)
    exact hc this.1
   rw[zl hneed,zhl]
   by_cases h0:(gx d.Nodes i).Parent=Str.nil
   ·
    rw[show err1 (gx d.Nodes i)=0 from if_neg (fun h=>h.1 h0)]
    simp[h0]
   ·
    by_cases hneg:yN d.Nodes (gx d.Nodes i).Parent<0
    ·
     rw[show err1 (gx d.Nodes i)=10 from if_pos ⟨h0,.inl hneg⟩]
     have:¬0≤yN d.Nodes (gx d.Nodes i).Parent:=by omega
     simp[h0,this]
    ·
     have hge:0≤yN d.Nodes (gx d.Nodes i).Parent:=by omega
     rw[zeO hge]
     by_cases hk:(par d.Nodes (gx d.Nodes i)).Kind=6
     ·
      rw[show err1 (gx d.Nodes i)=0 from if_neg (fun h=>h.2.elim hneg (fun h=>h hk))]
      unfold par at hk
      simp[h0,hge,hk]
     ·
      rw[show err1 (gx d.Nodes i)=10 from if_pos ⟨h0,.inr hk⟩]
      unfold par at hk
      simp[h0,hge,hk])
 have q1:zZ (d.Nodes.length:Int) (zfs d) (fun s=>Res.nx s) ()=some (if zH (d.Nodes.map err1)=0 then Res.nx ()else Res.ab (zH (d.Nodes.map err1))):=
  vh err1 (fun e=>(Res.ab e:Res Unit Int)) hll (fun i hi=>by
   unfold zfs
   rw[zl hi,zw,zap hll,Option.bind_some]
   have hneed:(!decide ((gx d.Nodes i).Parent=Str.nil))=true→decide (yN d.Nodes (gx d.Nodes i).Parent<0)=false→inR d.Nodes (yN d.Nodes (gx d.Nodes i).Parent):=fun _ h2=>by
    have h2:¬yN d.Nodes (gx d.Nodes i).Parent<0:=by simpa using h2
    exact(JY (l:=d.Nodes) (id:=(gx d.Nodes i).Parent) (Classical.byContradiction fun hne=>h2 (zeL.2 (fun n hn e=>hne ⟨n,hn,e⟩)))).1
   rw[zl hneed]
   by_cases h0:(gx d.Nodes i).Parent=Str.nil
   ·
    rw[show err1 (gx d.Nodes i)=0 from if_neg (fun h=>h.1 h0)]
    simp[h0]
   ·
    by_cases hneg:yN d.Nodes (gx d.Nodes i).Parent<0
    ·
     rw[show err1 (gx d.Nodes i)=10 from if_pos ⟨h0,.inl hneg⟩]
     simp[h0,hneg]
    ·
     by_cases hk:(par d.Nodes (gx d.Nodes i)).Kind=6
     ·
      rw[show err1 (gx d.Nodes i)=0 from if_neg (fun h=>h.2.elim hneg (fun h=>h hk))]
      unfold par at hk
      simp[h0,hneg,hk]
     ·
      rw[show err1 (gx d.Nodes i)=10 from if_pos ⟨h0,.inr hk⟩]
      unfold par at hk
      simp[h0,hneg,hk])
 by_cases h1:zH (d.Nodes.map err1)=0
 case neg=>
  refine⟨zH (d.Nodes.map err1),?_,?_,fun h=>absurd h h1⟩
  ·
   unfold za8;rw[hv,p1,if_neg h1];rfl
  ·
   unfold zbm;rw[q1,if_neg h1];rfl
 have hgood:∀n∈d.Nodes,n.Parent≠Str.nil→∃g∈d.Nodes,g.Id=n.Parent∧(par d.Nodes n).Kind=6:=fun n hn hne=>by
  have:=qo.1 h1 _ (List.mem_map_of_mem hn)
  have hx:¬(n.Parent≠Str.nil∧(yN d.Nodes n.Parent<0∨(par d.Nodes n).Kind≠6)):=fun h=>by
   have e:err1 n=10:=if_pos h
   rw[e]at this;cases this
  have hk:(par d.Nodes n).Kind=6:=Classical.byContradiction fun hk=>hx ⟨hne,.inr hk⟩
  have hge:¬yN d.Nodes n.Parent<0:=fun h=>hx ⟨hne,.inl h⟩
  apply Classical.byContradiction
  intro hno
  exact hge (zeL.2 (fun g hg e=>hno ⟨g,hg,e,hk⟩))
 have hpar:zbI d.Nodes:=fun n hn hne=>by
  obtain⟨g,h1,h2,_⟩:=hgood n hn hne
  exact⟨g,h1,h2⟩
 let A:zh→Int×Bool:=fun n=>(Yv d n).getD (0,false)
 have hA:∀n∈d.Nodes,J1 (yY d) n=some ((A n).1,!(A n).2)∧Yv d n=some (A n)∧Up d.Nodes n (A n).1 (A n).2:=fun n hn=>by
  obtain⟨m,b,g1,g2,g3⟩:=zod hl hpar hn
  have e:A n=(m,b):=by show(Yv d n).getD _=_;rw[g2];rfl
  rw[e];exact⟨g1,g2,g3⟩
 let err2:zh→Int:=fun n=>if(A n).2=true then 13 else 0
 let err3:zh→Int:=fun n=>if 8<(A n).1 then 4 else 0
 let err4:zh→Int:=fun n=>if n.Kind=6∧qA d.Nodes n.Id=[]then 9 else 0
 have p2:zZ (d.Nodes.length:Int) (zeZ (yY d)) (fun s=>Res.nx s) ()=some (if zH (d.Nodes.map err2)=0 then Res.nx ()else Res.ab (zH (d.Nodes.map err2))):=
  vh err2 (fun e=>(Res.ab e:Res Unit Int)) hll (fun i hi=>by
   unfold zeZ
   rw[hv,zl hi,zw,(hA _ (jy hi)).1,Option.bind_some]
   by_cases h:(A (gx d.Nodes i)).2=true
   ·
    rw[show err2 (gx d.Nodes i)=13 from if_pos h];simp[h]
   ·
    rw[show err2 (gx d.Nodes i)=0 from if_neg h];simp[h])
 have q2:zZ (d.Nodes.length:Int) (zft d) (fun s=>Res.nx s) ()=some (if zH (d.Nodes.map err2)=0 then Res.nx ()else Res.ab (zH (d.Nodes.map err2))):=
  vh err2 (fun e=>(Res.ab e:Res Unit Int)) hll (fun i hi=>by
   unfold zft
   rw[zl hi,zw,(hA _ (jy hi)).2.1,Option.bind_some]
   by_cases h:(A (gx d.Nodes i)).2=true
   ·
    rw[show err2 (gx d.Nodes i)=13 from if_pos h];simp[h]
   ·
    rw[show err2 (gx d.Nodes i)=0 from if_neg h];simp[h])
 have p3:zZ (d.Nodes.length:Int) (ze0 (yY d)) (fun s=>Res.nx s) ()=some (if zH (d.Nodes.map err3)=0 then Res.nx ()else Res.ab (zH (d.Nodes.map err3))):=
  vh err3 (fun e=>(Res.ab e:Res Unit Int)) hll (fun i hi=>by
   unfold ze0
   rw[hv,zl hi,zw,(hA _ (jy hi)).1,Option.bind_some]
   by_cases h:8<(A (gx d.Nodes i)).1
   ·
    rw[show err3 (gx d.Nodes i)=4 from if_pos h];simp[h]
   ·
    rw[show err3 (gx d.Nodes i)=0 from if_neg h];simp[h])
 have q3:zZ (d.Nodes.length:Int) (zfu d) (fun s=>Res.nx s) ()=some (if zH (d.Nodes.map err3)=0 then Res.nx ()else Res.ab (zH (d.Nodes.map err3))):=
  vh err3 (fun e=>(Res.ab e:Res Unit Int)) hll (fun i hi=>by
   unfold zfu
   rw[zl hi,zw,(hA _ (jy hi)).2.1,Option.bind_some]
   by_cases h:8<(A (gx d.Nodes i)).1
   ·
    rw[show err3 (gx d.Nodes i)=4 from if_pos h];simp[h]
   ·
    rw[show err3 (gx d.Nodes i)=0 from if_neg h];simp[h])
 have hlen:∀p,(d.Nodes.filter (fun n=>decide (n.Parent=p))).length=(qA d.Nodes p).length:=fun p=>by rw[←zkk,List.length_map]
 have p4:zZ (d.Nodes.length:Int) (ze1 (yY d)) (fun s=>Res.nx s) ()=some (if zH (d.Nodes.map err4)=0 then Res.nx ()else Res.ab (zH (d.Nodes.map err4))):=
  vh err4 (fun e=>(Res.ab e:Res Unit Int)) hll (fun i hi=>by
   unfold ze1
   rw[hv,hvm,zl hi,zw,zeA (hid _ (jy hi))]
   by_cases h:(gx d.Nodes i).Kind=6∧qA d.Nodes (gx d.Nodes i).Id=[]
   ·
    rw[show err4 (gx d.Nodes i)=9 from if_pos h];simp[h.1,h.2]
   ·
    rw[show err4 (gx d.Nodes i)=0 from if_neg h]
    by_cases h2:(gx d.Nodes i).Kind=6
    ·
     have h3:qA d.Nodes (gx d.Nodes i).Id≠[]:=fun e=>h ⟨h2,e⟩
     simp[h2,h3]
    ·
     simp[h2])
 have q4:zZ (d.Nodes.length:Int) (zfv d) (fun s=>Res.nx s) ()=some (if zH (d.Nodes.map err4)=0 then Res.nx ()else Res.ab (zH (d.Nodes.map err4))):=
  vh err4 (fun e=>(Res.ab e:Res Unit Int)) hll (fun i hi=>by
   unfold zfv
   rw[zl hi,zw,zk1 hl]
   by_cases h2:(gx d.Nodes i).Kind=6
   ·
    rw[decide_eq_true h2,qy,Option.bind_some,hlen]
    by_cases h3:qA d.Nodes (gx d.Nodes i).Id=[]
    ·
     rw[show err4 (gx d.Nodes i)=9 from if_pos ⟨h2,h3⟩];simp[h3]
    ·
     rw[show err4 (gx d.Nodes i)=0 from if_neg (fun h=>h3 h.2)];simp[h3]
   ·
    rw[show err4 (gx d.Nodes i)=0 from if_neg (fun h=>h2 h.1),decide_eq_false h2];simp[gd])
 unfold za8 zbm
 rw[hv,p1,p2,p3,p4,q1,q2,q3,q4,if_pos h1,yG]
 by_cases h2:zH (d.Nodes.map err2)=0
 case neg=>rw[if_neg h2];exact⟨_,rfl,rfl,fun h=>absurd h h2⟩
 rw[if_pos h2,yG]
 by_cases h3:zH (d.Nodes.map err3)=0
 case neg=>rw[if_neg h3];exact⟨_,rfl,rfl,fun h=>absurd h h3⟩
 rw[if_pos h3,yG]
 by_cases h4:zH (d.Nodes.map err4)=0
 case neg=>rw[if_neg h4];exact⟨_,rfl,rfl,fun h=>absurd h h4⟩
 rw[if_pos h4,yG]
 have hu:∀n∈d.Nodes,Up d.Nodes n (A n).1 false:=fun n hn=>by
  have:=qo.1 h2 _ (List.mem_map_of_mem hn)
  have hb:(A n).2=false:=by
   cases hb:(A n).2 with
   | false=>rfl
   | true=>
    have e:err2 n=13:=if_pos hb
    rw[e]at this;cases this
  have:=(hA n hn).2.2
  rwa [hb]at this
 refine⟨0,rfl,rfl,fun _=>⟨hgood,fun n hn=>?_,fun n hn hk he=>?_⟩⟩
 ·
  obtain⟨k,e1,e2,e3⟩:=zpc hpar (fun n hn=>⟨_,hu n hn⟩) hn (hu n hn)
  refine⟨k,?_,e2,e3⟩
  have:=qo.1 h3 _ (List.mem_map_of_mem hn)
  apply Classical.byContradiction
  intro hc
  have e:err3 n=4:=if_pos (by omega)
  rw[e]at this;cases this
 ·
  have:=qo.1 h4 _ (List.mem_map_of_mem hn)
  have e:err4 n=9:=if_pos ⟨hk,he⟩
  rw[e]at this;cases this
def qh:Box:=⟨0,0,0,0⟩
theorem zqe {l:List Box}(hl:(l.length:Int)≤9223372036854775807):zcf l=some (zH (l.map jH)):=by
 unfold zcf
 rw[vh jH (fun e=>(Res.ab e:Res Unit Int)) hl (fun i hi=>by
  unfold zgU
  rw[zl hi,zw,zdA,Option.bind_some]
  by_cases h:jH (gx l i)=0<;>simp[h])]
 by_cases h:zH (l.map jH)=0<;>simp[h]
theorem zqt {l:List Box}(hok:∀b∈l,okB b)(hl:l.length≤1000):∃b e,zaN l=some (b,e)∧zbc l=some (b,e)∧(e=0→okB b):=by
 unfold zaN zbc
 simp only[zw]
 rw[decide_eq_false (show ¬(1000:Int)<(l.length:Int)by omega),zqe (by omega)]
 have hz:zH (l.map jH)=0:=qo.2 (fun e he=>by
  obtain⟨b,hb,rfl⟩:=List.mem_map.1 he
  exact zdK.2 (hok b hb))
 rw[hz]
 simp only[cond_false,Option.bind_some,decide_true,Bool.not_true]
 by_cases h0:l=[]
 ·
  subst h0
  refine⟨qh,9,rfl,rfl,fun h=>by cases h⟩
 have hpos:0<l.length:=List.length_pos_iff.2 h0
 rw[decide_eq_false (show ¬(l.length:Int)=0 by omega)]
 have hin:inR l 0:=⟨by omega,by omega⟩
 simp only[cond_false,zl hin]
 obtain⟨s,t,h1,h2,h3⟩:=zsY (n:=(l.length:Int)) (step:=zei l) (step':=zfg l) (s0:=gx l 0) (t0:=((gx l 0).X,(gx l 0).Y,(gx l 0).X,(gx l 0).Y))
  (fun k s t=>(k=0∧s=gx l 0∧t=((gx l 0).X,(gx l 0).Y,(gx l 0).X,(gx l 0).Y))∨(s=⟨t.1,t.2.1,t.2.2.1 - t.1,t.2.2.2 - t.2.1⟩∧ -1000000≤t.1∧t.1≤1000000∧ -1000000≤t.2.1∧t.2.1≤1000000∧t.1<t.2.2.1∧t.2.2.1≤1020000∧t.2.1<t.2.2.2∧t.2.2.2≤1020000))
  (by omega) (.inl ⟨rfl,rfl,rfl⟩) (fun i s t hi hI=>by
   have hi':i<l.length:=by omega
   have hb:=hok _ (List.getElem_mem hi')
   unfold zei zfg
   rw[zl ⟨by omega,by omega⟩,zl ⟨by omega,by omega⟩,zP hi']
   simp only[zw]
   refine⟨_,_,rfl,rfl,.inr ?_⟩
   have hv0:i=0→l[i]=gx l 0:=fun h=>by subst h;exact(zP hi').symm
   generalize l[i]=v at *
   obtain⟨x1,x2,y1,y2,w1,w2,g1,g2⟩:=hb
   rcases hI with⟨rfl,rfl,rfl⟩ | ⟨rfl,c1,c2,c3,c4,c5,c6,c7,c8⟩
   ·
    rw[←hv0 rfl]
    simp only[Int.min_self]
    rw[Wk (n:=v.X+v.W_) (by omega) (by omega),Wk (n:=v.Y+v.H) (by omega) (by omega),Int.max_self,Int.max_self,show max v.X (v.X+v.W_)=v.X+v.W_ by omega,show max v.Y (v.Y+v.H)=v.Y+v.H by omega,
     Wk (n:=v.X+v.W_ - v.X) (by omega) (by omega),Wk (n:=v.Y+v.H - v.Y) (by omega) (by omega)]
    refine⟨rfl,by omega,by omega,by omega,by omega,by omega,by omega,by omega,by omega⟩
   ·
    have q1:W (t.1+(t.2.2.1 - t.1))=t.2.2.1:=by rw[Wk (by omega) (by omega)];omega
    have q2:W (t.2.1+(t.2.2.2 - t.2.1))=t.2.2.2:=by rw[Wk (by omega) (by omega)];omega
    have q3:W (v.X+v.W_)=v.X+v.W_:=Wk (by omega) (by omega)
    have q4:W (v.Y+v.H)=v.Y+v.H:=Wk (by omega) (by omega)
    simp only[q1,q2,q3,q4]
    rw[Wk (n:=max t.2.2.1 (v.X+v.W_) - min t.1 v.X) (by omega) (by omega),Wk (n:=max t.2.2.2 (v.Y+v.H) - min t.2.1 v.Y) (by omega) (by omega)]
    refine⟨rfl,by omega,by omega,by omega,by omega,by omega,by omega,by omega,by omega⟩)
 rw[h1,h2]
 simp only[Option.bind_some]
 rcases h3 with⟨h,_⟩ | ⟨rfl,c1,c2,c3,c4,c5,c6,c7,c8⟩
 ·
  have:(l.length:Int).toNat=l.length:=by omega
  omega
 ·
  rw[Wk (n:=t.2.2.1 - t.1) (by omega) (by omega),Wk (n:=t.2.2.2 - t.2.1) (by omega) (by omega)]
  by_cases h:20000<t.2.2.1 - t.1∨20000<t.2.2.2 - t.2.1
  ·
   have e:(decide (20000<t.2.2.1 - t.1) || decide (20000<t.2.2.2 - t.2.1))=true:=by simpa using h
   rw[e]
   exact⟨qh,4,rfl,rfl,fun h=>by cases h⟩
  ·
   have e:(decide (20000<t.2.2.1 - t.1) || decide (20000<t.2.2.2 - t.2.1))=false:=by simpa using h
   rw[e]
   refine⟨_,0,rfl,rfl,fun _=>?_⟩
   unfold okB
   simp only
   omega
theorem zqm {h:Box}(hh:okB h):∃b e,zaM h 10=some (b,e)∧Y9 (⟨W (h.X - 10),W (h.Y - 10),W (h.W_+20),W (h.H+20)⟩:Box)=some e∧(e=0→b=(⟨W (h.X - 10),W (h.Y - 10),W (h.W_+20),W (h.H+20)⟩:Box)∧okB b):=by
 obtain⟨x1,x2,y1,y2,w1,w2,g1,g2⟩:=id hh
 unfold zaM
 simp only[zw]
 have e2:W (2*10)=20:=Wk (by omega) (by omega)
 rw[zdA,zdK.2 hh,zh8,e2]
 rw[Wk (n:=h.X - 10) (by omega) (by omega),Wk (n:=h.Y - 10) (by omega) (by omega),Wk (n:=h.W_+20) (by omega) (by omega),Wk (n:=h.H+20) (by omega) (by omega)]
 simp only[Option.bind_some,decide_true,Bool.not_true,cond_false]
 have e3:(decide ((10:Int) < -20000) || decide ((20000:Int)<10))=false:=by decide
 rw[e3,cond_false]
 have e4:(decide (h.W_+20<1) || decide (h.H+20<1))=false:=by
  rw[decide_eq_false (by omega),decide_eq_false (by omega)];rfl
 rw[e4,cond_false,zdA,Option.bind_some]
 by_cases h0:jH (⟨h.X - 10,h.Y - 10,h.W_+20,h.H+20⟩:Box)=0
 ·
  rw[h0]
  exact⟨_,0,rfl,rfl,fun _=>⟨rfl,zdK.1 h0⟩⟩
 ·
  rw[decide_eq_false h0]
  exact⟨_,_,rfl,rfl,fun h=>absurd h h0⟩
theorem zot {d:Doc}(hl:d.Nodes.length≤500)(hd:(d.Nodes.map (·.Id)).Nodup)(hid:∀n∈d.Nodes,n.Id≠Str.nil)(hb:∀n∈d.Nodes,n.Kind≠6→okB n.Box)
  {i:Nat} (hi:i<d.Nodes.length) (R:Int→(Box×Int)×Box) (hR:∀c∈qA d.Nodes d.Nodes[i].Id,(R c).1.2=0→(R c).1.1=(R c).2∧okB (R c).2):
  ∃b e b',(e=0→b=b'∧okB b')∧∀(slf:yw×Int→Option (Box×Int)) (slf':Doc×Str→Option (Box×Int)),
   (d.Nodes[i].Kind=6→∀c∈qA d.Nodes d.Nodes[i].Id,slf (yY d,c)=some (R c).1∧slf' (d,(gx d.Nodes c).Id)=some ((R c).2,(R c).1.2))→
   Qy slf (yY d,(i:Int))=some (b,e)∧QA slf' (d,d.Nodes[i].Id)=some (b',e):=by
 have hin:inR d.Nodes (i:Int):=⟨by omega,by omega⟩
 have hn:=List.getElem_mem hi
 have hv:(yY d).d.Nodes=d.Nodes:=rfl
 have hvm:(yY d).members=vd d.Nodes:=rfl
 by_cases hk:d.Nodes[i].Kind=6
 case neg=>
  refine⟨d.Nodes[i].Box,0,d.Nodes[i].Box,fun _=>⟨rfl,hb _ hn hk⟩,fun slf slf' _=>⟨?_,?_⟩⟩
  ·
   unfold Qy
   simp only[zw]
   rw[hv,zl hin,zP hi,decide_eq_false hk];rfl
  ·
   unfold QA
   simp only[zw]
   rw[zap (by omega),zhh hd hi,Option.bind_some,zl hin,zP hi,decide_eq_false hk];rfl
 generalize hks:qA d.Nodes d.Nodes[i].Id=ks at *
 have hkl:ks.length≤500:=by
  rw[←hks];unfold qA
  rw[List.length_map]
  refine Nat.le_trans (List.length_filter_le _ _) ?_
  simp;omega
 let err:Nat→Int:=fun k=>(R (gx ks (k:Int))).1.2
 let E:=zH ((List.range ks.length).map err)
 have loop1:∀(slf:yw×Int→Option (Box×Int)),(∀c∈ks,slf (yY d,c)=some (R c).1)→
   zZ (ks.length:Int) (za7 slf (yY d,(i:Int)) ks) (fun s=>Res.nx s) ([]:List Box)=some (if E=0 then Res.nx (ks.map (fun c=>(R c).1.1))else Res.ab (qh,E)):=fun slf hs=>by
  have:=vA (n:=ks.length) (step:=za7 slf (yY d,(i:Int)) ks) (fin:=fun s=>(Res.nx s:Res (List Box) (Box×Int))) (fun k=>(ks.take k).map (fun c=>(R c).1.1)) err (fun e=>Res.ab (qh,e)) (by omega) (fun k hk _=>by
   unfold za7
   have hink:inR ks (k:Int):=⟨by omega,by omega⟩
   rw[zl hink,hs _ (jy hink),Option.bind_some]
   by_cases h:err k=0
   ·
    have h':(R (gx ks (k:Int))).1.2=0:=h
    rw[if_pos h,h']
    simp only[decide_true,Bool.not_true,cond_false]
    rw[zl (by show _≤_;simp;omega),List.take_succ_eq_append_getElem hk,List.map_append,zP hk]
    rfl
   ·
    have h':¬(R (gx ks (k:Int))).1.2=0:=h
    rw[if_neg h,decide_eq_false h']
    rfl)
  simp only[List.take_zero,List.map_nil,List.take_length]at this
  exact this
 have loop2:∀(slf':Doc×Str→Option (Box×Int)),(∀c∈ks,slf' (d,(gx d.Nodes c).Id)=some ((R c).2,(R c).1.2))→
   zZ ((ks.map (gx d.Nodes)).length:Int) (zba slf' (d,d.Nodes[i].Id) (ks.map (gx d.Nodes))) (fun s=>Res.nx s) ([]:List Box)=some (if E=0 then Res.nx (ks.map (fun c=>(R c).2))else Res.ab (qh,E)):=fun slf' hs=>by
  rw[List.length_map]
  have:=vA (n:=ks.length) (step:=zba slf' (d,d.Nodes[i].Id) (ks.map (gx d.Nodes))) (fin:=fun s=>(Res.nx s:Res (List Box) (Box×Int))) (fun k=>(ks.take k).map (fun c=>(R c).2)) err (fun e=>Res.ab (qh,e)) (by omega) (fun k hk _=>by
   unfold zba
   have hink:inR ks (k:Int):=⟨by omega,by omega⟩
   have hg:gx (ks.map (gx d.Nodes)) (k:Int)=gx d.Nodes (gx ks (k:Int)):=by rw[zP (by simpa using hk),zP hk];simp
   rw[zl ⟨by omega,by simp;omega⟩,zw,hg,hs _ (jy hink),Option.bind_some]
   by_cases h:err k=0
   ·
    have h':(R (gx ks (k:Int))).1.2=0:=h
    rw[if_pos h,h']
    simp only[decide_true,Bool.not_true,cond_false]
    rw[zl (by show _≤_;simp;omega),List.take_succ_eq_append_getElem hk,List.map_append,zP hk]
    rfl
   ·
    have h':¬(R (gx ks (k:Int))).1.2=0:=h
    rw[if_neg h,decide_eq_false h']
    rfl)
  simp only[List.take_zero,List.map_nil,List.take_length]at this
  exact this
 have hfil:d.Nodes.filter (fun n=>decide (n.Parent=d.Nodes[i].Id))=ks.map (gx d.Nodes):=by rw[←hks];exact zkk.symm
 have r1:∀slf,Qy slf (yY d,(i:Int))=ye (σ:=(List Box)) (ρ:=(Box×Int)) (zZ (ks.length:Int) (za7 slf (yY d,(i:Int)) ks) (fun s=>Res.nx s) ([]:List Box)) fun j=>
   Option.bind (zaN j) fun r2=>bif !decide (r2.2=0)then some (qh,r2.2)else Option.bind (zaM r2.1 10) fun r3=>some (r3.1,r3.2):=fun slf=>by
  unfold Qy
  simp only[zw]
  rw[hv,hvm,zl hin,zP hi,decide_eq_true hk,zeA (hid _ hn),hks]
  rfl
 have r2:∀slf',QA slf' (d,d.Nodes[i].Id)=ye (σ:=(List Box)) (ρ:=(Box×Int)) (zZ ((ks.map (gx d.Nodes)).length:Int) (zba slf' (d,d.Nodes[i].Id) (ks.map (gx d.Nodes))) (fun s=>Res.nx s) ([]:List Box)) fun j=>
   Option.bind (zbc j) fun r4=>bif !decide (r4.2=0)then some (qh,r4.2)else Option.bind (Y9 (⟨W (r4.1.X - 10),W (r4.1.Y - 10),W (r4.1.W_+20),W (r4.1.H+20)⟩:Box)) fun r5=>some ((⟨W (r4.1.X - 10),W (r4.1.Y - 10),W (r4.1.W_+20),W (r4.1.H+20)⟩:Box),r5):=fun slf'=>by
  unfold QA
  simp only[zw]
  rw[zap (by omega),zhh hd hi,Option.bind_some,zl hin,zP hi,decide_eq_true hk,zk1 hl,Option.bind_some,hfil]
  rfl
 by_cases hE:E=0
 case neg=>
  refine⟨qh,E,qh,fun h=>absurd h hE,fun slf slf' hs=>?_⟩
  rw[r1,r2,loop1 slf (fun c hc=>(hs hk c hc).1),loop2 slf' (fun c hc=>(hs hk c hc).2),if_neg hE,if_neg hE]
  exact⟨rfl,rfl⟩
 have hz:∀c∈ks,(R c).1.2=0:=fun c hc=>by
  obtain⟨k,hk',rfl⟩:=List.mem_iff_getElem.1 hc
  have:=qo.1 hE (err k) (List.mem_map.2 ⟨k,by simpa using hk',rfl⟩)
  show(R ks[k]).1.2=0
  rw[←zP hk'];exact this
 have hsame:ks.map (fun c=>(R c).1.1)=ks.map (fun c=>(R c).2):=List.map_congr_left fun c hc=>(hR c hc (hz c hc)).1
 obtain⟨b,e,h1,h2,h3⟩:=zqt (l:=ks.map (fun c=>(R c).2)) (fun b hb=>by
  obtain⟨c,hc,rfl⟩:=List.mem_map.1 hb
  exact(hR c hc (hz c hc)).2) (by simp;omega)
 by_cases he:e=0
 case neg=>
  refine⟨qh,e,qh,fun h=>absurd h he,fun slf slf' hs=>?_⟩
  rw[r1,r2,loop1 slf (fun c hc=>(hs hk c hc).1),loop2 slf' (fun c hc=>(hs hk c hc).2),if_pos hE,if_pos hE,yG,yG,hsame,h1,h2,Option.bind_some,Option.bind_some,decide_eq_false he]
  exact⟨rfl,rfl⟩
 obtain⟨b2,e2,g1,g2,g3⟩:=zqm (h3 he)
 refine⟨b2,e2,_,fun h=>⟨(g3 h).1,(g3 h).1▸(g3 h).2⟩,fun slf slf' hs=>?_⟩
 rw[r1,r2,loop1 slf (fun c hc=>(hs hk c hc).1),loop2 slf' (fun c hc=>(hs hk c hc).2),if_pos hE,if_pos hE,yG,yG,hsame,h1,h2,Option.bind_some,Option.bind_some,decide_eq_true he]
 simp only[Bool.not_true,cond_false]
 rw[g1,g2]
 exact⟨rfl,rfl⟩
def Dp (l:List zh)(n:zh)(m:Nat):Prop:=(anc l n m).Parent=Str.nil∧∀j,j<m→(anc l n j).Parent≠Str.nil
theorem Dp.uni {l:List zh}{n:zh}{m m':Nat}(h:Dp l n m)(h':Dp l n m'):m=m':=by
 rcases Nat.lt_trichotomy m m' with c | c | c
 ·
  exact absurd h.1 (h'.2 m c)
 ·
  exact c
 ·
  exact absurd h'.1 (h.2 m' c)
theorem zr4 {l:List zh}(hd:(l.map (·.Id)).Nodup){i:Nat}(hi:i<l.length){c:zh}(hc:c.Parent=l[i].Id):par l c=l[i]:=by
 unfold par
 rw[hc,zhh hd hi,zP hi]
theorem zgd {l:List zh}{c:zh}:∀k,anc l c (k+1)=anc l (par l c) k
 | 0=>rfl
 | k+1=>by
  show par l (anc l c (k+1))=par l (anc l (par l c) k)
  rw[zgd k]
theorem Dp.kid {l:List zh}{c:zh}{m:Nat}(hc:c.Parent≠Str.nil)(h:Dp l (par l c) m):Dp l c (m+1):=by
 refine⟨by rw[zgd];exact h.1,fun j hj=>?_⟩
 cases j with
 | zero=>exact hc
 | succ j=>rw[zgd];exact h.2 j (by omega)
theorem zos {d:Doc}(hl:d.Nodes.length≤500)(hd:(d.Nodes.map (·.Id)).Nodup)(hid:∀n∈d.Nodes,n.Id≠Str.nil)(hb:∀n∈d.Nodes,n.Kind≠6→okB n.Box)(hdp:∀n∈d.Nodes,∃k,k≤8∧Dp d.Nodes n k)
  {i:Nat} (hi:i<d.Nodes.length):∃b e b',zcE (yY d) (i:Int)=some (b,e)∧zcK d d.Nodes[i].Id=some (b',e)∧(e=0→b=b'∧okB b'):=by
 have key:∀(f m:Nat) (i:Nat) (hi:i<d.Nodes.length),Dp d.Nodes d.Nodes[i] m→9≤m+f→∃b e b',(e=0→b=b'∧okB b')∧
   ∀N,f≤N→qp Qy N (yY d,(i:Int))=some (b,e)∧qp QA N (d,d.Nodes[i].Id)=some (b',e):=by
  intro f
  induction f with
  | zero=>
   intro m i hi hm hf
   obtain⟨k,hk,hk2⟩:=hdp _ (List.getElem_mem hi)
   have:=hm.uni hk2
   omega
  | succ f ih=>
   intro m i hi hm hf
   have hkid:∀c∈qA d.Nodes d.Nodes[i].Id,∃(x:(Box×Int)×Box),(x.1.2=0→x.1.1=x.2∧okB x.2)∧∀N,f≤N→qp Qy N (yY d,c)=some x.1∧qp QA N (d,(gx d.Nodes c).Id)=some (x.2,x.1.2):=fun c hc=>by
    obtain⟨hin,hp⟩:=zqD.1 hc
    obtain⟨j,rfl⟩:∃j:Nat,c=j:=⟨c.toNat,by have:=hin.1;omega⟩
    have hj:j<d.Nodes.length:=by have:=hin.2;omega
    rw[zP hj]at hp⊢
    have hpe:=zr4 hd hi hp
    obtain⟨b,e,b',h1,h2⟩:=ih (m+1) j hj (Dp.kid (by rw[hp];exact hid _ (List.getElem_mem hi)) (by rw[hpe];exact hm)) (by omega)
    exact⟨((b,e),b'),h1,h2⟩
   let R:Int→(Box×Int)×Box:=fun c=>if h:c∈qA d.Nodes d.Nodes[i].Id then(hkid c h).choose else((qh,0),qh)
   have hR:∀c (h:c∈qA d.Nodes d.Nodes[i].Id),R c=(hkid c h).choose:=fun c h=>dif_pos h
   obtain⟨b,e,b',h1,h2⟩:=zot hl hd hid hb hi R (fun c hc=>by rw[hR c hc];exact(hkid c hc).choose_spec.1)
   refine⟨b,e,b',h1,fun N hN=>?_⟩
   obtain⟨N,rfl⟩:∃q,N=q+1:=⟨N - 1,by omega⟩
   exact h2 (qp Qy N) (qp QA N) (fun _ c hc=>by rw[hR c hc];exact(hkid c hc).choose_spec.2 N (by omega))
 obtain⟨k,hk,hk2⟩:=hdp _ (List.getElem_mem hi)
 obtain⟨b,e,b',h1,h2⟩:=key 9 k i hi hk2 (by omega)
 exact⟨b,e,b',zgP 9 (fun N hN=>(h2 N hN).1),zgP 9 (fun N hN=>(h2 N hN).2),h1⟩
theorem zea {c:Prop}[Decidable c]{e:Int}{l:List Int}(he:e≠0):zH ((if c then 0 else e)::l)=if c then zH l else e:=by
 by_cases h:c<;>simp[h,he]
theorem zcc {c:Prop}[Decidable c]{e:Int}{l:List Int}(he:e≠0):zH ((if c then e else 0)::l)=if c then e else zH l:=by
 by_cases h:c<;>simp[h,he]
theorem zd9:∀(l m:List Int),zH (l++m)=if zH l=0 then zH m else zH l
 | [],m=>by simp
 | e::l,m=>by
  rw[List.cons_append,vN,vN,zd9 l m]
  by_cases h:e=0<;>simp[h]
def jx (s:Str):Int:=if s=Str.nil∨zX s=true then 0 else 5
def YZ (n:zh)(tw:Bool):Int:=
 zH [if zX n.Id=true then 0 else 5,if tw=true then 6 else 0,if 1≤n.Kind∧n.Kind≤6 then 0 else 1,if n.Kind=6 then(if n.Box=qh then 0 else 2)else jH n.Box,yp n.Text,jx n.Class]
theorem ziI (s:Str){k:Bool→Option Int}:(Option.bind (gd (!decide (s=Str.nil)) (QP s)) fun r=>bif(!decide (s=Str.nil))&&!r then some 5 else some 0)=some (jx s):=by
 unfold jx
 rw[zg3]
 by_cases h:s=Str.nil
 ·
  simp[h,gd]
 ·
  rw[decide_eq_false h,Bool.not_false,qy,Option.bind_some]
  cases zX s<;>simp[h]
theorem zoD (n:zh)(tw:Bool):zcC n tw=some (YZ n tw):=by
 unfold zcC YZ
 rw[zg3,Option.bind_some,zea (by decide),zcc (by decide),zea (by decide),vN]
 cases zX n.Id with
 | false=>rfl
 | true=>
  cases tw with
  | true=>rfl
  | false=>
   simp only[Bool.not_true,cond_false,if_true,Bool.false_eq_true,if_false]
   by_cases hk:1≤n.Kind∧n.Kind≤6
   case neg=>
    have:(decide (n.Kind<1) || decide (6<n.Kind))=true:=by simp;omega
    rw[this,if_neg hk];rfl
   have:(decide (n.Kind<1) || decide (6<n.Kind))=false:=by simp;omega
   rw[this,if_pos hk,cond_false]
   have hz:(⟨(0:Int),(0:Int),(0:Int),(0:Int)⟩:Box)=qh:=rfl
   rw[hz]
   have last:(Option.bind (Yx n.Text) fun e2=>bif !decide (e2=0)then some e2 else Option.bind (gd (!decide (n.Class=Str.nil)) (QP n.Class)) fun r2=>bif(!decide (n.Class=Str.nil))&&!r2 then some 5 else some 0)=some (zH [yp n.Text,jx n.Class]):=by
    rw[zdB,Option.bind_some,ziI (k:=fun _=>none)]
    by_cases h:yp n.Text=0
    ·
     simp[h]
    ·
     simp[h]
   by_cases h6:n.Kind=6
   ·
    rw[decide_eq_true h6,if_pos h6]
    by_cases hb:n.Box=qh
    ·
     rw[decide_eq_true hb,if_pos hb]
     simp only[Bool.not_true,Bool.and_false,cond_false,yG,if_true]
     exact last
    ·
     rw[decide_eq_false hb,if_neg hb];simp
   ·
    rw[decide_eq_false h6,if_neg h6]
    simp only[Bool.false_and,cond_false,Bool.not_false,cond_true]
    rw[zdA,Option.bind_some]
    by_cases hb:jH n.Box=0
    ·
     rw[decide_eq_true hb,if_pos hb]
     simp only[Bool.not_true,cond_false,yG]
     exact last
    ·
     rw[decide_eq_false hb,if_neg hb]
     simp
theorem ziG {s:Str}(hs:zF s):J3 s=some (jx s):=by
 unfold J3 jx
 rw[zbG hs]
 by_cases h:s=Str.nil
 ·
  simp[h,gd,jm]
 ·
  rw[decide_eq_false h,Bool.not_false,qy,Option.bind_some,jm]
  cases zX s<;>simp[h]
theorem zrI {d:Doc}(hl:d.Nodes.length≤500)(hf:∀n∈d.Nodes,zF n.Id∧zF n.Text∧zF n.Class){i:Nat}(hi:i<d.Nodes.length):
  zc4 d (i:Int)=some (YZ d.Nodes[i] (decide (d.Nodes[i].Id∈(d.Nodes.take i).map (·.Id)))):=by
 obtain⟨f1,f2,f3⟩:=hf _ (List.getElem_mem hi)
 unfold zc4
 rw[zl ⟨by omega,by omega⟩,zP hi,zw,zl ⟨by omega,by omega,by omega⟩]
 have hseg:seg d.Nodes 0 (i:Int)=d.Nodes.take i:=by simp[seg]
 rw[hseg,znF (d.Nodes.take i) (fun x0=>zc5 x0 d.Nodes[i]) (fun m=>decide (m.Id=d.Nodes[i].Id)) (by simp;omega) (fun x _=>rfl),Option.bind_some,zbG f1,Option.bind_some,jm,Option.bind_some,jm,Option.bind_some,zbF,Option.bind_some,jm,Option.bind_some,QF (by simp),Option.bind_some]
 have htw:(d.Nodes.take i).any (fun m=>decide (m.Id=d.Nodes[i].Id))=decide (d.Nodes[i].Id∈(d.Nodes.take i).map (·.Id)):=by
  rw[Bool.eq_iff_iff,List.any_eq_true,decide_eq_true_eq,List.mem_map]
  simp
 rw[htw]
 generalize decide (d.Nodes[i].Id∈(d.Nodes.take i).map (·.Id))=tw
 generalize d.Nodes[i]=n at *
 have e1:YZ n tw=if zH [if zX n.Id=true then(0:Int)else 5,if tw=true then(6:Int)else 0,if 1≤n.Kind∧n.Kind≤6 then(0:Int)else 1]=0 then zH [if n.Kind=6 then(if n.Box=qh then(0:Int)else 2)else jH n.Box,yp n.Text,jx n.Class]else zH [if zX n.Id=true then(0:Int)else 5,if tw=true then(6:Int)else 0,if 1≤n.Kind∧n.Kind≤6 then(0:Int)else 1]:=zd9 [_,_,_] [_,_,_]
 have e2:zH [if(!zX n.Id)=true then(5:Int)else 0,if tw=true then(6:Int)else 0,if(!decide (1≤n.Kind∧n.Kind≤6))=true then(1:Int)else 0]=zH [if zX n.Id=true then(0:Int)else 5,if tw=true then(6:Int)else 0,if 1≤n.Kind∧n.Kind≤6 then(0:Int)else 1]:=by
  cases zX n.Id<;>by_cases h:1≤n.Kind∧n.Kind≤6<;>simp[h]
 rw[e2,e1]
 generalize zH [if zX n.Id=true then(0:Int)else 5,if tw=true then(6:Int)else 0,if 1≤n.Kind∧n.Kind≤6 then(0:Int)else 1]=E
 by_cases hE:E=0
 ·
  rw[decide_eq_true hE,if_pos hE,Bool.not_true,cond_false,jm,Option.bind_some,zh8,zf9 f2,ziG f3]
  have hz:(⟨(0:Int),(0:Int),(0:Int),(0:Int)⟩:Box)=qh:=rfl
  rw[hz]
  by_cases h6:n.Kind=6
  ·
   rw[decide_eq_true h6,if_pos h6]
   simp only[Bool.not_true,cond_false,Option.bind_some]
   rw[QF (by simp),Option.bind_some]
   by_cases hb:n.Box=qh<;>simp[hb]
  ·
   rw[decide_eq_false h6,if_neg h6]
   simp only[Bool.not_false,cond_true,Option.bind_some]
   rw[QF (by simp),Option.bind_some]
 ·
  rw[decide_eq_false hE,if_neg hE];rfl
def qT (l:List zh)(y:zO):Int:=if yN l y.Node<0 then 10 else if(gx l (yN l y.Node)).Kind=6 then 1 else if(1≤y.Side∧y.Side≤4)∧0≤y.At∧y.At≤1000 then 0 else 3
def Jz (l:List zh)(x:zu)(tw:Bool):Int:=
 zH [if zX x.Id=true then 0 else 5,if tw=true then 6 else 0,qT l x.From,qT l x.To,if 50<x.Bends.length then 4 else 0,vx x.Bends,yp x.Text,jx x.Class]
theorem zeK {l:List zh}{id:Str}(h:¬yN l id<0):inR l (yN l id)∧(gx l (yN l id)).Id=id:=
 JY (Classical.byContradiction fun hne=>h (zeL.2 (fun n hn e=>hne ⟨n,hn,e⟩)))
theorem zoC (d:Doc)(y:zO):zcG (yY d) y=some (qT d.Nodes y):=by
 unfold zcG qT
 have hvn:(yY d).number=vw d.Nodes:=rfl
 have hv:(yY d).d.Nodes=d.Nodes:=rfl
 rw[hvn,hv,zhl]
 by_cases h:yN d.Nodes y.Node<0
 ·
  rw[if_pos h,decide_eq_false (by omega)];rfl
 ·
  rw[if_neg h,decide_eq_true (by omega),zeO (by omega),Bool.not_true,cond_false,zl (zeK h).1]
  by_cases h6:(gx d.Nodes (yN d.Nodes y.Node)).Kind=6
  ·
   rw[if_pos h6,decide_eq_true h6];rfl
  ·
   rw[if_neg h6,decide_eq_false h6,cond_false]
   by_cases hs:(1≤y.Side∧y.Side≤4)∧0≤y.At∧y.At≤1000
   ·
    have:(decide (y.Side<1) || decide (4<y.Side) || decide (y.At<0) || decide (1000<y.At))=false:=by simp;omega
    rw[this,if_pos hs];rfl
   ·
    have:(decide (y.Side<1) || decide (4<y.Side) || decide (y.At<0) || decide (1000<y.At))=true:=by simp;omega
    rw[this,if_neg hs];rfl
theorem zoB (d:Doc)(x:zu)(tw:Bool):zcF (yY d) x tw=some (Jz d.Nodes x tw):=by
 unfold zcF Jz
 rw[zg3,Option.bind_some,zea (by decide),zcc (by decide)]
 cases zX x.Id with
 | false=>rfl
 | true=>
  cases tw with
  | true=>rfl
  | false=>
   simp only[Bool.not_true,cond_false,if_true,Bool.false_eq_true,if_false,zw]
   rw[vh (qT d.Nodes) (fun e=>(Res.ab e:Res Unit Int)) (by simp) (fun i hi=>by
    unfold zhr
    rw[zl hi,zw,zoC,Option.bind_some]
    by_cases h:qT d.Nodes (gx [x.From,x.To] i)=0<;>simp[h])]
   rw[show [qT d.Nodes x.From,qT d.Nodes x.To,if 50<x.Bends.length then(4:Int)else 0,vx x.Bends,yp x.Text,jx x.Class]=[x.From,x.To].map (qT d.Nodes)++[if 50<x.Bends.length then(4:Int)else 0,vx x.Bends,yp x.Text,jx x.Class]from rfl,zd9]
   by_cases hE:zH ([x.From,x.To].map (qT d.Nodes))=0
   case neg=>rw[if_neg hE,if_neg hE];rfl
   rw[if_pos hE,if_pos hE,yG,zcc (by decide)]
   by_cases h50:50<x.Bends.length
   ·
    rw[if_pos h50,decide_eq_true (by omega)];rfl
   rw[if_neg h50,decide_eq_false (by omega),cond_false,znC,Option.bind_some,vN]
   by_cases hp:vx x.Bends=0
   case neg=>rw[if_neg hp,decide_eq_false hp];rfl
   rw[if_pos hp,decide_eq_true hp,Bool.not_true,cond_false,zdB,Option.bind_some,vN]
   by_cases ht:yp x.Text=0
   case neg=>rw[if_neg ht,decide_eq_false ht];rfl
   rw[if_pos ht,decide_eq_true ht,Bool.not_true,cond_false,ziI (k:=fun _=>none)]
   by_cases h2:jx x.Class=0<;>simp[h2]
theorem zn4 (s a:Int):zcU s a=some (if(1≤s∧s≤4)∧0≤a∧a≤1000 then 0 else 3):=by
 unfold zcU
 rw[zbF,zbF,Option.bind_some]
 by_cases h1:1≤s∧s≤4
 ·
  rw[decide_eq_true h1]
  simp only[Bool.not_true,Bool.not_false,qy,Option.bind_some,Bool.false_or]
  rw[jm]
  by_cases h2:0≤a∧a≤1000<;>simp[h1,h2]
 ·
  rw[decide_eq_false h1,if_neg (fun h=>h1 h.1)]
  simp[gd,jm]
theorem zoQ {d:Doc}(hl:d.Nodes.length≤500)(hel:d.Edges.length≤1000)(hf:∀x∈d.Edges,zF x.Id∧zF x.Text∧zF x.Class){i:Nat}(hi:i<d.Edges.length):
  zc0 d (i:Int)=some (Jz d.Nodes d.Edges[i] (decide (d.Edges[i].Id∈d.Nodes.map (·.Id)++(d.Edges.take i).map (·.Id)))):=by
 obtain⟨f1,f2,f3⟩:=hf _ (List.getElem_mem hi)
 have hll:(d.Nodes.length:Int)≤9223372036854775807:=by omega
 unfold zc0
 rw[zl ⟨by omega,by omega⟩,zP hi,zw,zap hll,Option.bind_some,zl (fun _=>⟨by omega,by omega,by omega⟩)]
 have hseg:seg d.Edges 0 (i:Int)=d.Edges.take i:=by simp[seg]
 rw[hseg,znE (d.Edges.take i) (fun x0=>zc1 x0 d.Edges[i]) (fun m=>decide (m.Id=d.Edges[i].Id)) (by simp;omega) (fun x _=>rfl)]
 have htw:(decide (0≤yN d.Nodes d.Edges[i].Id) || (d.Edges.take i).any (fun m=>decide (m.Id=d.Edges[i].Id)))=decide (d.Edges[i].Id∈d.Nodes.map (·.Id)++(d.Edges.take i).map (·.Id)):=by
  rw[Bool.eq_iff_iff,Bool.or_eq_true,List.any_eq_true,decide_eq_true_eq,decide_eq_true_eq,List.mem_append,List.mem_map,List.mem_map]
  refine or_congr ?_ (by simp)
  constructor
  ·
   intro h
   obtain⟨h1,h2⟩:=zeK (l:=d.Nodes) (id:=d.Edges[i].Id) (by omega)
   exact⟨_,jy h1,h2⟩
  ·
   rintro⟨n,hn,e⟩
   have:=(JY ⟨n,hn,e⟩).1.1
   exact this
 have hgd:∀{k:Bool→Option Int},(Option.bind (gd (!(decide (0≤yN d.Nodes d.Edges[i].Id))) (some ((d.Edges.take i).any (fun m=>decide (m.Id=d.Edges[i].Id))))) fun r2=>k (decide (0≤yN d.Nodes d.Edges[i].Id) || r2))=k (decide (d.Edges[i].Id∈d.Nodes.map (·.Id)++(d.Edges.take i).map (·.Id))):=fun {k}=>by
  rw[←htw]
  cases decide (0≤yN d.Nodes d.Edges[i].Id)<;>simp[gd]
 rw[hgd (k:=fun tw=>Option.bind (QR d.Edges[i].Id) fun r3=>Option.bind (qF (!r3) 5) fun r4=>Option.bind (qF tw 6) fun r5=>Option.bind (jU [r4,r5]) fun e1=>
  bif !decide (e1=0)then some e1 else bnd [d.Edges[i].From,d.Edges[i].To] fun v2=>ye (zZ (v2.length:Int) (zfo d v2) (fun s=>Res.nx s) ()) fun j_12=>
   bif decide (50<(d.Edges[i].Bends.length:Int))then some 4 else Option.bind (zbf d.Edges[i].Bends) fun r8=>Option.bind (Jf d.Edges[i].Text) fun r9=>Option.bind (J3 d.Edges[i].Class) fun r10=>Option.bind (jU [r8,r9,r10]) fun r11=>some r11)]
 generalize decide (d.Edges[i].Id∈d.Nodes.map (·.Id)++(d.Edges.take i).map (·.Id))=tw
 generalize d.Edges[i]=x at *
 simp only[zbG f1,Option.bind_some,jm]
 rw[QF (by simp),Option.bind_some]
 have eR:Jz d.Nodes x tw=if zX x.Id=true then(if tw=true then 6 else zH [qT d.Nodes x.From,qT d.Nodes x.To,if 50<x.Bends.length then 4 else 0,vx x.Bends,yp x.Text,jx x.Class])else 5:=by
  unfold Jz
  rw[zea (by decide),zcc (by decide)]
 rw[eR]
 cases zX x.Id with
 | false=>rfl
 | true=>
  cases tw with
  | true=>rfl
  | false=>
   have e0:zH [if(!true)=true then(5:Int)else 0,if false=true then(6:Int)else 0]=0:=by simp
   rw[e0]
   simp only[decide_true,Bool.not_true,cond_false,if_true,Bool.false_eq_true,if_false,zw]
   rw[vh (qT d.Nodes) (fun e=>(Res.ab e:Res Unit Int)) (by simp) (fun i hi=>by
    unfold zfo
    rw[zl hi,zw,zap hll,Option.bind_some]
    generalize gx [x.From,x.To] i=y
    unfold qT
    by_cases h:yN d.Nodes y.Node<0
    ·
     rw[if_pos h,decide_eq_true h];rfl
    ·
     rw[if_neg h,decide_eq_false h,cond_false,zl (zeK h).1,jm,Option.bind_some,zn4,Option.bind_some,QF (by simp),Option.bind_some]
     by_cases h6:(gx d.Nodes (yN d.Nodes y.Node)).Kind=6
     ·
      simp[h6]
     ·
      by_cases hs:(1≤y.Side∧y.Side≤4)∧0≤y.At∧y.At≤1000
      ·
       simp[h6,hs]
      ·
       simp only[if_neg h6,if_neg hs,decide_eq_false h6];simp)]
   rw[show [qT d.Nodes x.From,qT d.Nodes x.To,if 50<x.Bends.length then(4:Int)else 0,vx x.Bends,yp x.Text,jx x.Class]=[x.From,x.To].map (qT d.Nodes)++[if 50<x.Bends.length then(4:Int)else 0,vx x.Bends,yp x.Text,jx x.Class]from rfl,zd9]
   by_cases hE:zH ([x.From,x.To].map (qT d.Nodes))=0
   case neg=>rw[if_neg hE,if_neg hE];rfl
   rw[if_pos hE,if_pos hE,yG,zcc (by decide)]
   by_cases h50:50<x.Bends.length
   ·
    rw[if_pos h50,decide_eq_true (by omega)];rfl
   rw[if_neg h50,decide_eq_false (by omega),cond_false,zn2,Option.bind_some,zf9 f2,Option.bind_some,ziG f3,Option.bind_some,QF (by simp),Option.bind_some]
def knM (l:List Str):GMap Str Bool:=⟨fun id=>if id∈l then some true else none⟩
theorem zkG {l:List Str}{x:Str}:(knM l).set x true=knM (l++[x]):=by
 unfold knM GMap.set
 congr 1
 funext id
 by_cases h:id=x
 ·
  simp[h]
 ·
  simp[h]
theorem zkF {l:List Str}{x:Str}:(knM l).getD x false=decide (x∈l):=by
 unfold knM GMap.getD
 by_cases h:x∈l<;>simp[h]
structure jE (d:Doc):Prop where
 nl:d.Nodes.length≤500
 el:d.Edges.length≤1000
 node:∀(i:Nat) (h:i<d.Nodes.length),YZ d.Nodes[i] (decide (d.Nodes[i].Id∈(d.Nodes.take i).map (·.Id)))=0
 tree:∀n∈d.Nodes,n.Parent≠Str.nil→∃g∈d.Nodes,g.Id=n.Parent∧(par d.Nodes n).Kind=6
 yg:∀n∈d.Nodes,∃k,k≤8∧Dp d.Nodes n k
 full:∀n∈d.Nodes,n.Kind=6→qA d.Nodes n.Id≠[]
 edge:∀(i:Nat) (h:i<d.Edges.length),Jz d.Nodes d.Edges[i] (decide (d.Edges[i].Id∈d.Nodes.map (·.Id)++(d.Edges.take i).map (·.Id)))=0
 box:∀(i:Nat) (h:i<d.Nodes.length),∃b,zcE (yY d) (i:Int)=some (b,0)∧zcK d d.Nodes[i].Id=some (b,0)∧okB b
theorem zcx {n:zh}{tw:Bool}(h:YZ n tw=0):zX n.Id=true∧tw=false∧(1≤n.Kind∧n.Kind≤6)∧(n.Kind≠6→okB n.Box):=by
 have:=qo.1 h
 have h1:=this (if zX n.Id=true then 0 else 5) (by simp)
 have h2:=this (if tw=true then 6 else 0) (by simp)
 have h3:=this (if 1≤n.Kind∧n.Kind≤6 then 0 else 1) (by simp)
 have h4:=this (if n.Kind=6 then(if n.Box=qh then 0 else 2)else jH n.Box) (by simp)
 refine⟨?_,?_,?_,fun hk=>?_⟩
 ·
  apply Classical.byContradiction;intro hc;rw[if_neg hc]at h1;cases h1
 ·
  cases tw with
  | false=>rfl
  | true=>simp at h2
 ·
  apply Classical.byContradiction;intro hc;rw[if_neg hc]at h3;cases h3
 ·
  rw[if_neg hk]at h4;exact zdK.1 h4
theorem zle:∀{l:List zh},(∀(i:Nat) (h:i<l.length),l[i].Id∉(l.take i).map (·.Id))→(l.map (·.Id)).Nodup:=fun {l} h=>by
 rw[List.nodup_iff_pairwise_ne,List.pairwise_iff_getElem]
 intro i j hi hj hij e
 simp only[List.length_map]at hi hj
 simp only[List.getElem_map]at e
 refine h j hj (List.mem_map.2 ⟨l[i],?_,e⟩)
 have:l[i]=(l.take j)[i]'(by simp;omega):=by simp
 rw[this];exact List.getElem_mem _
theorem zia {d:Doc}(hf:zF d):∃e,Ys d=some e∧Ja d=some e∧(e=0→jE d):=by
 have hfn:∀n∈d.Nodes,zF n.Id∧zF n.Text∧zF n.Class:=fun n hn=>by
  have:=hf.1.2 n hn
  exact⟨this.1,this.2.2.2.1,this.2.2.2.2.1⟩
 have hfe:∀x∈d.Edges,zF x.Id∧zF x.Text∧zF x.Class:=fun x hx=>by
  have:=hf.2.2 x hx
  exact⟨this.1,this.2.2.2.2.1,this.2.2.2.2.2⟩
 unfold Ys Ja
 by_cases hsz:500<d.Nodes.length∨1000<d.Edges.length
 ·
  have:(decide (500<(d.Nodes.length:Int)) || decide (1000<(d.Edges.length:Int)))=true:=by simp;omega
  rw[this]
  exact⟨4,rfl,rfl,fun h=>by cases h⟩
 have hl:d.Nodes.length≤500:=by omega
 have hel:d.Edges.length≤1000:=by omega
 have:(decide (500<(d.Nodes.length:Int)) || decide (1000<(d.Edges.length:Int)))=false:=by simp;omega
 rw[this,cond_false,cond_false,zw]
 let nE:Nat→Int:=fun i=>YZ (gx d.Nodes (i:Int)) (decide ((gx d.Nodes (i:Int)).Id∈(d.Nodes.take i).map (·.Id)))
 have k0:(GMap.nil:GMap Str Bool)=knM ((d.Nodes.take 0).map (·.Id)):=by simp[knM,GMap.nil]
 rw[k0]
 have p1:=vA (n:=d.Nodes.length) (step:=zeS d) (fin:=fun s=>(Res.nx s:Res (GMap Str Bool) Int)) (fun k=>knM ((d.Nodes.take k).map (·.Id))) nE (fun e=>Res.ab e) (by omega) (fun i hi _=>by
  unfold zeS
  rw[zl ⟨by omega,by omega⟩,zw,zkF,zoD,Option.bind_some]
  show(bif !decide (nE i=0)then _ else _)=_
  by_cases h:nE i=0
  ·
   rw[decide_eq_true h,if_pos h,zkG,List.take_succ_eq_append_getElem hi,List.map_append,zP hi];rfl
  ·
   rw[decide_eq_false h,if_neg h];rfl)
 have q1:=vA (n:=d.Nodes.length) (step:=zfc d) (fin:=fun s=>(Res.nx s:Res Unit Int)) (fun _=>()) nE (fun e=>Res.ab e) (by omega) (fun i hi _=>by
  unfold zfc
  rw[zrI hl hfn hi,Option.bind_some,←zP hi]
  show(bif !decide (nE i=0)then some (Res.ab (Res.ab (nE i)))else _)=_
  by_cases h:nE i=0
  ·
   rw[decide_eq_true h,if_pos h];rfl
  ·
   rw[decide_eq_false h,if_neg h];rfl)
 rw[p1,q1]
 by_cases h1:zH ((List.range d.Nodes.length).map nE)=0
 case neg=>rw[if_neg h1,if_neg h1];exact⟨_,rfl,rfl,fun h=>absurd h h1⟩
 rw[if_pos h1,if_pos h1,yG,yG,List.take_length]
 have hnode:∀(i:Nat) (h:i<d.Nodes.length),YZ d.Nodes[i] (decide (d.Nodes[i].Id∈(d.Nodes.take i).map (·.Id)))=0:=fun i h=>by
  have:=qo.1 h1 (nE i) (List.mem_map.2 ⟨i,by simpa using h,rfl⟩)
  rw[←zP h];exact this
 have hd:(d.Nodes.map (·.Id)).Nodup:=zle fun i h=>by
  have:=(zcx (hnode i h)).2.1
  exact of_decide_eq_false this
 have hat:∀n∈d.Nodes,zX n.Id=true∧(n.Kind≠6→okB n.Box):=fun n hn=>by
  obtain⟨i,hi,rfl⟩:=List.mem_iff_getElem.1 hn
  have:=zcx (hnode i hi)
  exact⟨this.1,this.2.2.2⟩
 have hid:∀n∈d.Nodes,n.Id≠Str.nil:=fun n hn=>zeJ (hat n hn).1
 have hbx:∀n∈d.Nodes,n.Kind≠6→okB n.Box:=fun n hn=>(hat n hn).2
 rw[zuJ hl hd,Option.bind_some,Option.bind_some]
 obtain⟨e,t1,t2,t3⟩:=zuz hl hid
 rw[t1,t2,Option.bind_some,Option.bind_some]
 by_cases he:e=0
 case neg=>rw[decide_eq_false he];exact⟨e,rfl,rfl,fun h=>absurd h he⟩
 rw[decide_eq_true he,Bool.not_true,cond_false,cond_false]
 obtain⟨htree,hdeep,hfull⟩:=t3 he
 have hdp:∀n∈d.Nodes,∃k,k≤8∧Dp d.Nodes n k:=fun n hn=>by
  obtain⟨k,a,b,c⟩:=hdeep n hn
  exact⟨k,a,b,c⟩
 let eE:Nat→Int:=fun i=>Jz d.Nodes (gx d.Edges (i:Int)) (decide ((gx d.Edges (i:Int)).Id∈d.Nodes.map (·.Id)++(d.Edges.take i).map (·.Id)))
 have k1:knM (d.Nodes.map (·.Id))=knM (d.Nodes.map (·.Id)++(d.Edges.take 0).map (·.Id)):=by simp
 rw[k1]
 have p2:=vA (n:=d.Edges.length) (step:=zeT d (yY d)) (fin:=fun s=>(Res.nx s:Res (GMap Str Bool) Int)) (fun k=>knM (d.Nodes.map (·.Id)++(d.Edges.take k).map (·.Id))) eE (fun e=>Res.ab e) (by omega) (fun i hi _=>by
  unfold zeT
  rw[zl ⟨by omega,by omega⟩,zw,zkF,zoB,Option.bind_some]
  show(bif !decide (eE i=0)then _ else _)=_
  by_cases h:eE i=0
  ·
   rw[decide_eq_true h,if_pos h,zkG,List.take_succ_eq_append_getElem hi,List.map_append,zP hi,List.append_assoc];rfl
  ·
   rw[decide_eq_false h,if_neg h];rfl)
 have q2:=vA (n:=d.Edges.length) (step:=zfd d) (fin:=fun s=>(Res.nx s:Res Unit Int)) (fun _=>()) eE (fun e=>Res.ab e) (by omega) (fun i hi _=>by
  unfold zfd
  rw[zoQ hl hel hfe hi,Option.bind_some,←zP hi]
  show(bif !decide (eE i=0)then some (Res.ab (Res.ab (eE i)))else _)=_
  by_cases h:eE i=0
  ·
   rw[decide_eq_true h,if_pos h];rfl
  ·
   rw[decide_eq_false h,if_neg h];rfl)
 rw[p2,q2]
 by_cases h2:zH ((List.range d.Edges.length).map eE)=0
 case neg=>rw[if_neg h2,if_neg h2];exact⟨_,rfl,rfl,fun h=>absurd h h2⟩
 rw[if_pos h2,if_pos h2,yG,yG]
 have hbox:∀i:Nat,∃x:(Box×Int)×Box,i<d.Nodes.length→zcE (yY d) (i:Int)=some x.1∧zcK d (gx d.Nodes (i:Int)).Id=some (x.2,x.1.2)∧(x.1.2=0→x.1.1=x.2∧okB x.2):=fun i=>by
  by_cases hi:i<d.Nodes.length
  ·
   obtain⟨b,e,b',g1,g2,g3⟩:=zos hl hd hid hbx hdp hi
   exact⟨((b,e),b'),fun _=>⟨g1,by rw[zP hi];exact g2,g3⟩⟩
  ·
   exact⟨((qh,0),qh),fun h=>absurd h hi⟩
 let bE:Nat→Int:=fun i=>(hbox i).choose.1.2
 have p3:=vA (n:=d.Nodes.length) (step:=zeU (yY d)) (fin:=fun s=>(Res.nx s:Res Unit Int)) (fun _=>()) bE (fun e=>Res.ab e) (by omega) (fun i hi _=>by
  unfold zeU
  rw[((hbox i).choose_spec hi).1,Option.bind_some]
  show(bif !decide (bE i=0)then some (Res.ab (Res.ab (bE i)))else _)=_
  by_cases h:bE i=0
  ·
   rw[decide_eq_true h,if_pos h];rfl
  ·
   rw[decide_eq_false h,if_neg h];rfl)
 have q3:=vA (n:=d.Nodes.length) (step:=zfe d) (fin:=fun s=>(Res.nx s:Res Unit Int)) (fun _=>()) bE (fun e=>Res.ab e) (by omega) (fun i hi _=>by
  unfold zfe
  rw[zl ⟨by omega,by omega⟩,zw,((hbox i).choose_spec hi).2.1,Option.bind_some]
  show(bif !decide (bE i=0)then some (Res.ab (Res.ab (bE i)))else _)=_
  by_cases h:bE i=0
  ·
   rw[decide_eq_true h,if_pos h];rfl
  ·
   rw[decide_eq_false h,if_neg h];rfl)
 rw[p3,q3]
 by_cases h3:zH ((List.range d.Nodes.length).map bE)=0
 case neg=>rw[if_neg h3];exact⟨_,rfl,rfl,fun h=>absurd h h3⟩
 rw[if_pos h3]
 refine⟨0,rfl,rfl,fun _=>⟨hl,hel,hnode,htree,hdp,hfull,fun i h=>?_,fun i h=>?_⟩⟩
 ·
  have:=qo.1 h2 (eE i) (List.mem_map.2 ⟨i,by simpa using h,rfl⟩)
  rw[←zP h];exact this
 ·
  have hz:=qo.1 h3 (bE i) (List.mem_map.2 ⟨i,by simpa using h,rfl⟩)
  obtain⟨g1,g2,g3⟩:=(hbox i).choose_spec h
  have hz':(hbox i).choose.1.2=0:=hz
  generalize (hbox i).choose=x at *
  obtain⟨⟨b,e⟩,b'⟩:=x
  simp only at hz' g1 g2 g3
  subst hz'
  obtain⟨rfl,g4⟩:=g3 rfl
  rw[zP h]at g2
  exact⟨b,g1,g2,g4⟩
def y4:List Str:=[Str.nil,⟨[98,111,120]⟩,⟨[114,111,117,110,100]⟩,⟨[111,118,97,108]⟩,⟨[100,105,97,109,111,110,100]⟩,⟨[110,111,116,101]⟩,⟨[103,114,111,117,112]⟩]
def qs:List Str:=[Str.nil,⟨[117,112]⟩,⟨[114,105,103,104,116]⟩,⟨[100,111,119,110]⟩,⟨[108,101,102,116]⟩]
def vl (b:Box):List Int:=[b.X,b.Y,b.W_,b.H]
def qx (l:List zz):List Int:=l.flatMap fun p=>[p.X,p.Y]
def zdY (y:zO):List (List UInt8):=[y.Node.b,(gx qs y.Side).b,Go.Lib.itoa y.At]
structure zaq (n:zh):Prop where
 id:zX n.Id=true
 k1:1≤n.Kind
 k2:n.Kind≤6
 zero:n.Kind=6→n.Box=qh
 box:∀v∈vl n.Box,v.natAbs<10000000
 cls:n.Class=Str.nil∨zX n.Class=true
 par:n.Parent=Str.nil∨zX n.Parent=true
 text:n.Text.b.length≤1000
structure QZ (y:zO):Prop where
 node:zX y.Node=true
 s1:1≤y.Side
 s2:y.Side≤4
 at_:y.At.natAbs<10000000
structure zal (x:zu):Prop where
 id:zX x.Id=true
 from_:QZ x.From
 to_:QZ x.To
 few:x.Bends.length≤50
 bends:∀v∈qx x.Bends,v.natAbs<10000000
 cls:x.Class=Str.nil∨zX x.Class=true
 text:x.Text.b.length≤1000
theorem zcw {s:Str}(h:zX s=true):s.b.length≤40:=by
 unfold zX at h
 simp only[Bool.and_eq_true,decide_eq_true_eq]at h
 exact h.1
theorem zrF {s:Str}(h:zX s=true):zdH s.b:=by
 have key:∀c∈s.b,nameC c=true:=fun c hm=>by
  unfold zX at h
  simp only[Bool.and_eq_true,decide_eq_true_eq]at h
  obtain⟨_,h2⟩:=h
  cases hb:s.b with
  | nil=>rw[hb]at hm;cases hm
  | cons a l=>
   rw[hb]at h2 hm
   simp only[Bool.and_eq_true]at h2
   rcases List.mem_cons.1 hm with rfl | hm
   ·
    unfold nameC;rw[h2.1];rfl
   ·
    exact List.all_eq_true.1 h2.2 c hm
 exact⟨fun e=>zeJ h (by cases s;simp only at e;rw[e];rfl),fun hm=>absurd (key _ hm) (by decide),fun hm=>absurd (key _ hm) (by decide),fun hm=>absurd (key _ hm) (by decide)⟩
theorem zg7 (n:Int):zdH (Go.Lib.itoa n):=by
 have key:∀c:UInt8,c=32∨c=34∨c=10→c∉Go.Lib.itoa n:=fun c hc hm=>by
  rcases zkr hm with h | h
  ·
   rcases hc with rfl | rfl | rfl<;>exact absurd h (by decide)
  ·
   rcases hc with rfl | rfl | rfl<;>exact absurd h (by decide)
 exact⟨zeu n,key _ (.inl rfl),key _ (.inr (.inl rfl)),key _ (.inr (.inr rfl))⟩
theorem zuL {w:List UInt8}(h:(!w.isEmpty&&!w.contains 32&&!w.contains 34&&!w.contains 10)=true):zdH w:=by
 simp only[Bool.and_eq_true,Bool.not_eq_true',List.contains_eq_mem,decide_eq_false_iff_not]at h
 obtain⟨⟨⟨h1,h2⟩,h3⟩,h4⟩:=h
 exact⟨fun e=>(by rw[e]at h1;cases h1),h2,h3,h4⟩
theorem zhb {k:Int}(h1:1≤k)(h2:k≤6):k=1∨k=2∨k=3∨k=4∨k=5∨k=6:=by omega
theorem zhM {k:Int}(h1:1≤k)(h2:k≤4):k=1∨k=2∨k=3∨k=4:=by omega
theorem zfH {k:Int}(h1:1≤k)(h2:k≤4):zdH (gx qs k).b∧(gx qs k).b.length≤5:=by
 rcases zhM h1 h2 with rfl | rfl | rfl | rfl<;>exact⟨zuL (by decide),by decide⟩
theorem zaU {n:Int}(h:n.natAbs<10000000):(Go.Lib.itoa n).length≤8:=zqK (k:=7) (by decide) (by omega)
theorem Jy:∀(l:List zz),(qx l).length=2*l.length
 | []=>rfl
 | p::l=>by
  have:=Jy l
  unfold qx at this⊢
  rw[List.flatMap_cons,List.length_append,this,List.length_cons,List.length_cons,List.length_cons,List.length_nil];omega
theorem ziH {s:Str}(h:jx s=0):s=Str.nil∨zX s=true:=by
 unfold jx at h
 split at h
 ·
  assumption
 ·
  cases h
theorem jE.nodeT {d:Doc}(h:jE d){n:zh}(hn:n∈d.Nodes):zaq n:=by
 obtain⟨i,hi,rfl⟩:=List.getElem_of_mem hn
 have h0:=h.node i hi
 obtain⟨a1,a2,a3,a4⟩:=zcx h0
 have hz:=qo.1 h0
 have h4:=hz (if d.Nodes[i].Kind=6 then(if d.Nodes[i].Box=qh then 0 else 2)else jH d.Nodes[i].Box) (by simp)
 have h5:=hz (yp d.Nodes[i].Text) (by simp)
 have h6:=hz (jx d.Nodes[i].Class) (by simp)
 have hzero:d.Nodes[i].Kind=6→d.Nodes[i].Box=qh:=fun hk=>by
  rw[if_pos hk]at h4
  split at h4
  ·
   assumption
  ·
   cases h4
 refine⟨a1,a3.1,a3.2,hzero,fun v hv=>?_,ziH h6,?_,(zdu.1 h5).1⟩
 ·
  by_cases hk:d.Nodes[i].Kind=6
  ·
   rw[hzero hk]at hv
   unfold vl qh at hv
   simp only[List.mem_cons,List.mem_nil_iff,or_false,or_self]at hv
   subst hv;decide
  ·
   have hb:=a4 hk
   unfold okB at hb
   unfold vl at hv
   simp only[List.mem_cons,List.mem_nil_iff,or_false]at hv
   omega
 ·
  by_cases hp:d.Nodes[i].Parent=Str.nil
  ·
   exact .inl hp
  ·
   obtain⟨g,hg,hid,_⟩:=h.tree _ (List.getElem_mem hi) hp
   obtain⟨j,hj,rfl⟩:=List.getElem_of_mem hg
   rw[←hid]
   exact .inr (zcx (h.node j hj)).1
theorem jE.endT {d:Doc}(h:jE d){y:zO}(he:qT d.Nodes y=0):QZ y:=by
 unfold qT at he
 split at he
 ·
  cases he
 ·
  rename_i hn
  split at he
  ·
   cases he
  ·
   split at he
   ·
    rename_i hs
    obtain⟨h1,h2⟩:=zeK hn
    have hm:=jy h1
    refine⟨?_,hs.1.1,hs.1.2,by omega⟩
    rw[←h2];exact(h.nodeT hm).id
   ·
    cases he
theorem jE.edgeT {d:Doc}(h:jE d){x:zu}(hx:x∈d.Edges):zal x:=by
 obtain⟨i,hi,rfl⟩:=List.getElem_of_mem hx
 have hz:=qo.1 (h.edge i hi)
 have h1:=hz (if zX d.Edges[i].Id=true then 0 else 5) (by simp)
 have h3:=hz (qT d.Nodes d.Edges[i].From) (by simp)
 have h4:=hz (qT d.Nodes d.Edges[i].To) (by simp)
 have h5:=hz (if 50<d.Edges[i].Bends.length then 4 else 0) (by simp)
 have h6:=hz (vx d.Edges[i].Bends) (by simp)
 have h7:=hz (yp d.Edges[i].Text) (by simp)
 have h8:=hz (jx d.Edges[i].Class) (by simp)
 refine⟨?_,h.endT h3,h.endT h4,?_,fun v hv=>?_,ziH h8,(zdu.1 h7).1⟩
 ·
  split at h1
  ·
   assumption
  ·
   cases h1
 ·
  split at h5
  ·
   cases h5
  ·
   omega
 ·
  have hp:=(zr8.1 h6).2
  obtain⟨p,hp1,hp2⟩:=List.mem_flatMap.1 hv
  have:=hp p hp1
  unfold okP at this
  simp only[List.mem_cons,List.mem_nil_iff,or_false]at hp2
  omega
theorem zic (w:List Str)(v:Str)(hw:(w.length:Int)≤9223372036854775807):zbv w v=some (decide (v∈w)):=by
 unfold zbv jB
 obtain⟨e,h1,h2⟩:=QU (n:=(w.length:Int)) (step:=zbx w v) (fin:=fun s=>Res.nx s) (s0:=()) (fun i _=>∀j:Nat,j<i→∀hj:j<w.length,v≠w[j])
  (fun e=>(e=Res.nx ()∧v∉w)∨∃k:Int,0≤k∧e=Res.ab k∧v∈w) hw (fun j hj=>by omega) (fun i s hi hI=>by
   have hi':i<w.length:=by omega
   unfold zbx
   rw[zl ⟨by omega,by omega⟩,zP hi']
   by_cases e:v=w[i]
   ·
    exact .inr ⟨_,by rw[decide_eq_true e,cond_true],.inr ⟨(i:Int),by omega,rfl,e▸List.getElem_mem hi'⟩⟩
   ·
    refine .inl ⟨(),by rw[decide_eq_false e,cond_false],fun j hj hjl=>?_⟩
    by_cases hji:j=i
    ·
     subst hji;exact e
    ·
     exact hI j (by omega) hjl)
  (fun s hI=>.inl ⟨rfl,fun hm=>by
   obtain⟨j,hj,he⟩:=List.getElem_of_mem hm
   exact hI j (by omega) hj he.symm⟩)
 rw[h1]
 rcases h2 with⟨rfl,hn⟩ | ⟨k,h0,rfl,hm⟩
 ·
  rw[yG,Option.bind_some,decide_eq_false hn];rfl
 ·
  rw[jG,Option.bind_some,decide_eq_true hm,decide_eq_true h0]
theorem zkE {k:Int}(h1:1≤k)(h2:k≤6):inR y4 k:=⟨by omega,by show k<7;omega⟩
theorem ziA {n:zh}(h:zaq n):∀v∈vl n.Box,InI v:=fun v hv=>by have:=h.box v hv;unfold InI;omega
theorem ztt {k:Int}(h1:1≤k)(h2:k≤4):inR qs k:=⟨by omega,by show k<5;omega⟩
theorem ziv {y:zO}(h:QZ y):InI y.At:=by have:=h.at_;unfold InI;omega
def qS (y:zO):List UInt8:=y.Node.b++(32::((gx qs y.Side).b++(32::Go.Lib.itoa y.At)))
theorem zpa {y:zO}(h:QZ y):(qS y).length≤60:=by
 have h1:=zcw h.node
 have h2:=(zfH h.s1 h.s2).2
 have h3:=zaU h.at_
 unfold qS
 simp only[List.length_append,List.length_cons];omega
theorem ziM {x:zu}(h:zal x):∀v∈qx x.Bends,InI v:=fun v hv=>by have:=h.bends v hv;unfold InI;omega
theorem ziN {l:List zz}(h:l≠[]):qx l≠[]:=by
 cases l with
 | nil=>exact absurd rfl h
 | cons p l=>unfold qx;simp
theorem znU {k:Int}(h1:1≤k)(h2:k≤6):zcO k=some (gx y4 k):=by
 unfold zcO
 have hf:vU (⟨[98,111,120,32,114,111,117,110,100,32,111,118,97,108,32,100,105,97,109,111,110,100,32,110,111,116,101,32,103,114,111,117,112]⟩:Str)=some y4.tail:=by
  unfold vU
  rw[show j9 (⟨[98,111,120,32,114,111,117,110,100,32,111,118,97,108,32,100,105,97,109,111,110,100,32,110,111,116,101,32,103,114,111,117,112]⟩:Str)=y4.tail by decide]
  exact zl (by decide)
 rw[hf,Option.bind_some]
 rw[Wk (by omega) (by omega)]
 rcases zhb h1 h2 with rfl | rfl | rfl | rfl | rfl | rfl<;>exact(zl (c:=inR y4.tail _) ⟨by decide,by decide⟩).trans rfl
theorem zn7 {k:Int}(h1:1≤k)(h2:k≤4):zcW k=some (gx qs k):=by
 unfold zcW
 have hf:vU (⟨[117,112,32,114,105,103,104,116,32,100,111,119,110,32,108,101,102,116]⟩:Str)=some qs.tail:=by
  unfold vU
  rw[show j9 (⟨[117,112,32,114,105,103,104,116,32,100,111,119,110,32,108,101,102,116]⟩:Str)=qs.tail by decide]
  exact zl (by decide)
 rw[hf,Option.bind_some]
 rw[Wk (by omega) (by omega)]
 rcases zhM h1 h2 with rfl | rfl | rfl | rfl<;>exact(zl (c:=inR qs.tail _) ⟨by decide,by decide⟩).trans rfl
theorem zie {y:zO}(h:QZ y):zaA y=some ⟨qS y⟩:=by
 have h1:=zcw h.node
 have h2:=(zfH h.s1 h.s2).2
 have h3:=zaU h.at_
 unfold zaA
 rw[zl (by simp only[List.length_cons,List.length_nil];omega),show zaD=some qs from rfl,Option.bind_some,zl (ztt h.s1 h.s2),zl (by simp only[List.length_append,List.length_cons,List.length_nil];omega),zl (by simp only[List.length_append,List.length_cons,List.length_nil];omega),
  vY (ziv h),Option.bind_some,zl (by simp only[yC,List.length_append,List.length_cons,List.length_nil];omega)]
 unfold qS
 simp[yC]
theorem zly {y:zO}(h:QZ y):zbb y=some ⟨qS y⟩:=by
 have h1:=zcw h.node
 have h2:=(zfH h.s1 h.s2).2
 have h3:=zaU h.at_
 unfold zbb
 rw[zl (by simp only[List.length_cons,List.length_nil];omega),zn7 h.s1 h.s2,Option.bind_some,zl (by simp only[List.length_append,List.length_cons,List.length_nil];omega),zl (by simp only[List.length_append,List.length_cons,List.length_nil];omega),
  vY (ziv h),Option.bind_some,zl (by simp only[yC,List.length_append,List.length_cons,List.length_nil];omega)]
 unfold qS
 simp[yC]
theorem znG {l:List zz}(hl:l.length≤100000):zay l=some (qx l):=by
 unfold zay
 obtain⟨s,h1,h2⟩:=vB (n:=(l.length:Int)) (step:=zdN l) (s0:=([]:List Int)) (fun i s=>s=qx (l.take i)) (by omega) rfl (fun i s hi hI=>by
  have hi':i<l.length:=by omega
  refine⟨_,?_,rfl⟩
  have hc:=Jy (l.take i)
  rw[List.length_take]at hc
  unfold zdN
  rw[zl ⟨by omega,by omega⟩,zw,zP hi',hI,zl (by rw[jV];simp only[List.length_cons,List.length_nil];omega),List.take_succ_eq_append_getElem hi']
  unfold qx
  rw[List.flatMap_append];rfl)
 rw[h1,h2];simp
theorem zf4 (s:Str):InI (qE s).1:=by
 unfold qE
 rcases h:Go.Lib.atoiAll s.b with v | _ | _
 ·
  obtain⟨b0,b1⟩:=Go.Lib.atoiAll_bounds h;exact⟨by omega,by omega⟩
 ·
  show InI 0;decide
 ·
  show InI (Go.Lib.atoiSat s.b);unfold Go.Lib.atoiSat;split<;>decide
def vm (s:Str):Str:=match s.b with
 | []=>s
 | c::l=>if c=45 then⟨l⟩else s
theorem zdF (s:Str):zbC s ⟨[45]⟩=some (vm s):=by
 unfold zbC zfX zfW vm
 obtain⟨b⟩:=s
 cases b with
 | nil=>rw[zl (fun h=>absurd (of_decide_eq_true h) (by decide))];rfl
 | cons c l=>
  have h1:decide ((([45]:List UInt8).length:Int)≤(((c::l):List UInt8).length:Int))=true:=decide_eq_true (by simp only[List.length_cons,List.length_nil];omega)
  have hs:J8 (c::l:List UInt8).length 0 (([45]:List UInt8).length:Int):=⟨by omega,by simp,by simp only[List.length_cons,List.length_nil];omega⟩
  have e1:seg (c::l:List UInt8) 0 (([45]:List UInt8).length:Int)=[c]:=rfl
  rw[zl (fun _=>hs)]
  simp only[Option.bind_some]
  rw[h1,e1,Bool.true_and]
  by_cases hc:c=45
  ·
   subst hc
   have hs2:J8 (45::l:List UInt8).length (([45]:List UInt8).length:Int) ((45::l:List UInt8).length:Int):=⟨by omega,by simp only[List.length_cons,List.length_nil];omega,by omega⟩
   have e2:seg (45::l:List UInt8) (([45]:List UInt8).length:Int) ((45::l:List UInt8).length:Int)=l:=by
    unfold seg
    simp
   rw[decide_eq_true rfl,cond_true,zl hs2,e2,if_pos rfl];rfl
  ·
   have:¬(⟨[c]⟩:Str)=⟨[45]⟩:=fun e=>by
    injection e with e
    injection e with e
    exact hc e
   rw[decide_eq_false this,cond_false,if_neg hc];rfl
theorem znX (s:Str)(hs:s.b.length≤4294967281):∃n b,Qd s=some (n,b)∧(b=true→InI n∧Go.Lib.itoa n=s.b):=by
 unfold Qd
 have ha:QC s=some (qE s):=by unfold QC;exact zl hs
 rw[zdF,Option.bind_some,ha,Option.bind_some]
 have hin:=zf4 s
 cases hc:((!(qE s).2.is)&&(decide (((vm s).b.length:Int)≤7)))with
 | false=>exact⟨_,_,rfl,fun h=>by simp at h⟩
 | true=>
  rw[qy,vY hin,Option.bind_some]
  refine⟨_,_,rfl,fun h=>?_⟩
  simp only[Bool.true_and,decide_eq_true_eq]at h
  exact⟨hin,congrArg Str.b h⟩
theorem zoN {n:Int}(h:n.natAbs<10000000):(vm (yC n)).b.length≤7:=by
 unfold vm yC Go.Lib.itoa
 by_cases hn:n<0
 ·
  rw[if_pos hn]
  show(Go.Lib.decDigits n.natAbs).length≤7
  rw[Go.Lib.decDigits_length]
  exact zeI (by decide) (by omega)
 ·
  rw[if_neg hn]
  have hd:(Go.Lib.decDigits n.toNat).length≤7:=by
   rw[Go.Lib.decDigits_length]
   exact zeI (by decide) (by omega)
  cases hb:Go.Lib.decDigits n.toNat with
  | nil=>simp
  | cons c l=>
   rw[hb]at hd
   simp only
   split
   ·
    simp only[List.length_cons]at hd;show l.length≤7;omega
   ·
    exact hd
theorem znY {n:Int}(h:n.natAbs<10000000):Qd (yC n)=some (n,true):=by
 have hl:=zaU h
 unfold Qd
 have ha:QC (yC n)=some (n,⟨false⟩):=by
  unfold QC
  rw[zl (by show(Go.Lib.itoa n).length≤_;omega),zoj (by omega)]
 rw[zdF,Option.bind_some,ha,Option.bind_some]
 have hd:=zoN h
 simp only[decide_eq_true (show((vm (yC n)).b.length:Int)≤7 by omega),Bool.not_false,Bool.and_self,qy]
 rw[vY (by unfold InI;omega),Option.bind_some]
 simp
theorem zoI (p:zz)(l:List zz):qx (p::l)=p.X::p.Y::qx l:=rfl
theorem zgp (l:List zz)(p:zz):qx (l++[p])=qx l++[p.X,p.Y]:=by
 unfold qx;rw[List.flatMap_append];rfl
theorem zin (l:List Int)(hl:l.length≤100000000):∀(k:Nat) (a:List zz) (i:Nat),l.length - i=2*k→i≤l.length→qx a=l.take i→i=2*a.length→∃r,loop (zaB l) (a,(i:Int))=some r∧qx r=l
 | 0,a,i,h1,h2,h3,_=>by
  refine⟨a,zkR ?_,?_⟩
  ·
   unfold zaB
   rw[decide_eq_false (by show ¬((i:Int)<(l.length:Int));omega),cond_false]
  ·
   rw[h3,List.take_of_length_le (by omega)]
 | k+1,a,i,h1,h2,h3,h4=>by
  have hi:i<l.length:=by omega
  have hi2:i+1<l.length:=by omega
  have hst:zaB l (a,(i:Int))=some (zL.again (a++[(⟨l[i],l[i+1]⟩:zz)],((i+2:Nat):Int))):=by
   unfold zaB
   simp only
   have hw:W ((i:Int)+1)=((i+1:Nat):Int):=by rw[Wk (by omega) (by omega)];omega
   have hw2:W ((i:Int)+2)=((i+2:Nat):Int):=by rw[Wk (by omega) (by omega)];omega
   rw[decide_eq_true (by omega),cond_true,zl ⟨by omega,by omega⟩,hw,zl ⟨by omega,by omega⟩,zl (by rw[jV,List.length_singleton];omega),zw,zw,hw2,zP hi,zP hi2]
  obtain⟨r,r1,r2⟩:=zin l hl k (a++[(⟨l[i],l[i+1]⟩:zz)]) (i+2) (by omega) (by omega) (by
   rw[zgp,h3,show i+2=(i+1)+1 from rfl,List.take_succ_eq_append_getElem hi2,List.take_succ_eq_append_getElem hi,List.append_assoc];rfl) (by rw[List.length_append,List.length_singleton];omega)
  exact⟨r,(zkQ hst).trans r1,r2⟩
theorem zf6 (l:List Str)(v:Str)(hl:(l.length:Int)≤9223372036854775807):∃k,jB l v=some k∧((k = -1∧v∉l)∨∃(i:Nat) (hi:i<l.length),k=(i:Int)∧l[i]=v):=by
 unfold jB
 obtain⟨e,h1,h2⟩:=QU (n:=(l.length:Int)) (step:=zbx l v) (fin:=fun s=>Res.nx s) (s0:=()) (fun i _=>∀j:Nat,j<i→∀hj:j<l.length,v≠l[j])
  (fun e=>(e=Res.nx ()∧v∉l)∨∃(i:Nat) (hi:i<l.length),e=Res.ab (i:Int)∧l[i]=v) hl (fun j hj=>by omega) (fun i s hi hI=>by
   have hi':i<l.length:=by omega
   unfold zbx
   rw[zl ⟨by omega,by omega⟩,zP hi']
   by_cases e:v=l[i]
   ·
    exact .inr ⟨_,by rw[decide_eq_true e,cond_true],.inr ⟨i,hi',rfl,e.symm⟩⟩
   ·
    refine .inl ⟨(),by rw[decide_eq_false e,cond_false],fun j hj hjl=>?_⟩
    by_cases hji:j=i
    ·
     subst hji;exact e
    ·
     exact hI j (by omega) hjl)
  (fun s hI=>.inl ⟨rfl,fun hm=>by
   obtain⟨j,hj,he⟩:=List.getElem_of_mem hm
   exact hI j (by omega) hj he.symm⟩)
 rw[h1]
 rcases h2 with⟨rfl,hn⟩ | ⟨i,hi,rfl,hm⟩
 ·
  exact⟨_,rfl,.inl ⟨rfl,hn⟩⟩
 ·
  exact⟨_,rfl,.inr ⟨i,hi,rfl,hm⟩⟩
theorem zf7 {l:List Str}(hn:l.Nodup)(hl:(l.length:Int)≤9223372036854775807){k:Int}(hk:inR l k):jB l (gx l k)=some k:=by
 obtain⟨x,h1,h2⟩:=zf6 l (gx l k) hl
 rw[h1]
 rcases h2 with⟨_,h⟩ | ⟨i,hi,rfl,h⟩
 ·
  exact absurd (jy hk) h
 ·
  rw[zqo hk,List.getElem_inj hn]at h
  have:=hk.1
  congr 1;omega
theorem zqZ:y4.Nodup:=by decide
theorem ztu:qs.Nodup:=by decide
theorem zih:zbT=some y4:=rfl
theorem zn8:zaD=some qs:=rfl
section
section
open Classical
end
end
section
section
variable {α:Type}
theorem zaO [Inhabited α]{U V:List α}{x:α}{k:Int}(hk:k=U.length):gx (U++x::V) k=x:=by
 subst hk
 rw[zP (by simp)]
 simp
theorem zco {U V:List α}{x:α}{k:Int}(hk:k=U.length):inR (U++x::V) k:=⟨by omega,by simp;omega⟩
theorem zbp {U V:List α}{x y:α}{k:Nat}(hk:k=U.length):(U++x::V).set k y=U++y::V:=by
 subst hk
 rw[List.set_append_right _ _ (Nat.le_refl _)]
 simp
theorem zhZ [Inhabited α]{U V:List α}{x y:α}{j:Int}(hj:j=U.length+1):gx (U++y::x::V) j=x∧gx (U++y::x::V) (j - 1)=y∧inR (U++y::x::V) j∧inR (U++y::x::V) (j - 1)∧
  ((U++y::x::V).set j.toNat y).set (j - 1).toNat x=U++x::y::V∧((U++y::x::V).set (j - 1).toNat x).set j.toNat y=U++x::y::V:=by
 have e1:U++y::x::V=(U++[y])++x::V:=by simp
 have e2:j.toNat=(U++[y]).length:=by simp;omega
 have e3:(j - 1).toNat=U.length:=by omega
 refine⟨by rw[e1];exact zaO (by simp;omega),zaO (by omega),⟨by omega,by simp;omega⟩,⟨by omega,by simp;omega⟩,?_,?_⟩
 ·
  rw[e1,zbp e2]
  have:(U++[y])++y::V=U++y::y::V:=by simp
  rw[this,zbp e3]
 ·
  rw[zbp e3]
  have:U++x::x::V=(U++[x])++x::V:=by simp
  rw[this,zbp (by simp;omega)];simp
theorem zek [Inhabited α]{P A R:List α}{i:Nat}(hi:i<A.length){k:Int}(hk:k=P.length+i):gx (P++(A++R)) k=A[i]:=by
 subst hk
 rw[show((P.length:Int)+(i:Int))=((P.length+i:Nat):Int)by omega,zP (by simp;omega)]
 rw[List.getElem_append_right (by omega),List.getElem_append_left (by omega)]
 simp
theorem zes {P A R:List α}{i:Nat}(hi:i<A.length){k:Int}(hk:k=P.length+i):inR (P++(A++R)) k:=⟨by omega,by simp;omega⟩
theorem cut {A:List α}{n:Nat}(hn:n≤A.length):∃A1 A2,A=A1++A2∧A1.length=n:=⟨A.take n,A.drop n,(List.take_append_drop n A).symm,by simp;omega⟩
end
theorem zgg {body:Int×Int→Option (zL (Int×Int) Int)}(p:Nat→Bool){lo hi:Nat}(hlh:lo≤hi)
  (hb:∀i j:Nat,lo≤i→i<j→j≤hi→body ((i:Int),(j:Int))=some (if p ((i+j) / 2)=true then .again ((((i+j) / 2+1:Nat):Int),(j:Int))else .again ((i:Int),(((i+j) / 2:Nat):Int))))
  (hd:∀i:Nat,lo≤i→i≤hi→body ((i:Int),(i:Int))=some (.done (i:Int))) (mono:∀h k,lo≤h→h≤k→k<hi→p k=true→p h=true):
  ∃s,lo≤s∧s≤hi∧(∀h,lo≤h→h<s→p h=true)∧(∀h,s≤h→h<hi→p h=false)∧loop body ((lo:Int),(hi:Int))=some (s:Int):=by
 obtain⟨e,h1,s,h2⟩:=Yp (body:=body) (s0:=((lo:Int),(hi:Int))) (fun st=>∃i j:Nat,st=((i:Int),(j:Int))∧lo≤i∧i≤j∧j≤hi∧(∀h,lo≤h→h<i→p h=true)∧∀h,j≤h→h<hi→p h=false)
  (fun st=>(st.2 - st.1).toNat) (fun e=>∃s:Nat,e=(s:Int)∧lo≤s∧s≤hi∧(∀h,lo≤h→h<s→p h=true)∧∀h,s≤h→h<hi→p h=false)
  ⟨lo,hi,rfl,Nat.le_refl _,hlh,Nat.le_refl _,fun h a b=>by omega,fun h a b=>by omega⟩ (fun st hI=>by
  obtain⟨i,j,rfl,i1,i2,i3,i4,i5⟩:=hI
  by_cases c:i<j
  ·
   left
   rw[hb i j i1 c i3]
   cases hp:p ((i+j) / 2)with
   | true=>
    refine⟨_,by simp,⟨(i+j) / 2+1,j,rfl,by omega,by omega,i3,fun h a b=>?_,i5⟩,by simp only;omega⟩
    exact mono h ((i+j) / 2) a (by omega) (by omega) hp
   | false=>
    refine⟨_,by simp,⟨i,(i+j) / 2,rfl,i1,by omega,by omega,i4,fun h a b=>?_⟩,by simp only;omega⟩
    cases hh:p h with
    | false=>rfl
    | true=>
     have:=mono ((i+j) / 2) h (by omega) a b hh
     rw[hp]at this;cases this
  ·
   right
   have:i=j:=by omega
   subst this
   exact⟨_,hd i i1 i3,i,rfl,i1,i3,i4,i5⟩)
 obtain⟨rfl,h3,h4,h5,h6⟩:=h2
 exact⟨s,h3,h4,h5,h6,h1⟩
theorem zel {i j:Nat}(h:i+j≤4611686018427387904):W ((KI.of .u64 (W ((i:Int)+(j:Int)))).shr 1).n=(((i+j) / 2:Nat):Int):=by
 rw[Wk (n:=(i:Int)+j) (by omega) (by omega)]
 have e1:(KI.of .u64 ((i:Int)+(j:Int))).n=(i:Int)+j:=by
  show IntKind.wrap .u64 ((i:Int)+j)=_
  rw[show(i:Int)+j=((i+j:Nat):Int)by omega]
  unfold IntKind.wrap
  have hm:(((i+j:Nat):Int) % 2 ^ IntKind.u64.bits)=((i+j:Nat):Int):=Int.emod_eq_of_lt (by omega) (by show _<(2:Int) ^ 64;omega)
  rw[hm]
  simp[IntKind.signed]
 have e2:((KI.of .u64 ((i:Int)+(j:Int))).shr 1).n=(((i+j) / 2:Nat):Int):=by
  show((KI.of .u64 ((i:Int)+(j:Int))).n).fdiv (2 ^ min (1:Int).toNat IntKind.u64.bits)=_
  rw[e1]
  have:((2:Int) ^ min (1:Int).toNat IntKind.u64.bits)=2:=by decide
  rw[this,Int.fdiv_eq_ediv_of_nonneg _ (by omega)]
  omega
 rw[e2,Wk (by omega) (by omega)]
end
section
section
variable {α:Type}
structure Swo (S:α→Prop) (lt:α→α→Bool) (f:α→α→Option Int):Prop where
 cmp:∀x y,S x→S y→∃c,f x y=some c∧decide (c<0)=lt x y
 asym:∀x y,S x→S y→lt x y=true→lt y x=false
 ntr:∀x y z,S x→S y→S z→lt x y=false→lt y z=false→lt x z=false
def srt (lt:α→α→Bool)(l:List α):Prop:=l.Pairwise (fun x y=>lt y x=false)
def Yn (lt:α→α→Bool)(tb:α→α→Prop)(l:List α):Prop:=l.Pairwise (fun x y=>tb x y∨lt x y=true)
structure Sd (lt:α→α→Bool) (L M:List α):Prop where
 perm:M.Perm L
 srtd:srt lt M
 kept:∀tb:α→α→Prop,Yn lt tb L→Yn lt tb M
variable {S:α→Prop} {lt:α→α→Bool} {f:α→α→Option Int}
theorem zt7 (x:α):srt lt [x]:=by simp[srt]
theorem zmV:srt lt ([]:List α):=by simp[srt]
theorem Sd.refl {L:List α}(h:srt lt L):Sd lt L L:=⟨List.Perm.refl _,h,fun _ h=>h⟩
theorem Sd.len {L M:List α}(h:Sd lt L M):M.length=L.length:=h.perm.length_eq
theorem Sd.mem {L M:List α}(h:Sd lt L M){x:α}:x∈M↔x∈L:=h.perm.mem_iff
theorem Swo.irr (hw:Swo S lt f){x:α}(hx:S x):lt x x=false:=by
 cases h:lt x x with
 | false=>rfl
 | true=>have:=hw.asym x x hx hx h;rw[h]at this;cases this
theorem Swo.tr (hw:Swo S lt f){x y z:α}(hx:S x)(hy:S y)(hz:S z)(h1:lt x y=true)(h2:lt z y=false):lt x z=true:=by
 cases h:lt x z with
 | true=>rfl
 | false=>have:=hw.ntr x z y hx hz hy h h2;rw[h1]at this;cases this
theorem Sd.insert (hw:Swo S lt f){L1 L2:List α}{x:α}(hS:∀y∈L1++L2,S y)(hx:S x)(hs:srt lt (L1++L2))(h1:∀y∈L1,lt x y=false)(h2:∀y∈L2,lt x y=true):Sd lt (L1++L2++[x]) (L1++x::L2):=by
 refine⟨?_,?_,fun tb h=>?_⟩
 ·
  rw[List.append_assoc]
  exact(List.perm_append_left_iff L1).2 (List.perm_append_singleton x L2).symm
 ·
  unfold srt at *
  rw[List.pairwise_append]at hs⊢
  refine⟨hs.1,List.pairwise_cons.2 ⟨fun y hy=>hw.asym x y hx (hS y (List.mem_append_right _ hy)) (h2 y hy),hs.2.1⟩,fun a ha b hb=>?_⟩
  rcases List.mem_cons.1 hb with rfl | hb
  ·
   exact h1 a ha
  ·
   exact hs.2.2 a ha b hb
 ·
  unfold Yn at *
  rw[List.append_assoc,List.pairwise_append]at h
  rw[List.pairwise_append]
  obtain⟨k1,k2,k3⟩:=h
  rw[List.pairwise_append]at k2
  refine⟨k1,List.pairwise_cons.2 ⟨fun y hy=>.inr (h2 y hy),k2.1⟩,fun a ha b hb=>?_⟩
  rcases List.mem_cons.1 hb with rfl | hb
  ·
   exact k3 a ha b (by simp)
  ·
   exact k3 a ha b (by simp[hb])
theorem Sd.insertF (hw:Swo S lt f){L1 L2:List α}{x:α}(hS:∀y∈L1++L2,S y)(hx:S x)(hs:srt lt (L1++L2))(h1:∀y∈L1,lt y x=true)(h2:∀y∈L2,lt y x=false):Sd lt (x::(L1++L2)) (L1++x::L2):=by
 refine⟨?_,?_,fun tb h=>?_⟩
 ·
  exact List.perm_middle
 ·
  unfold srt at *
  rw[List.pairwise_append]at hs⊢
  refine⟨hs.1,List.pairwise_cons.2 ⟨fun y hy=>h2 y hy,hs.2.1⟩,fun a ha b hb=>?_⟩
  rcases List.mem_cons.1 hb with rfl | hb
  ·
   exact hw.asym a b (hS a (List.mem_append_left _ ha)) hx (h1 a ha)
  ·
   exact hs.2.2 a ha b hb
 ·
  unfold Yn at *
  rw[List.pairwise_cons,List.pairwise_append]at h
  obtain⟨k0,k1,k2,k3⟩:=h
  rw[List.pairwise_append]
  refine⟨k1,List.pairwise_cons.2 ⟨fun y hy=>k0 y (List.mem_append_right _ hy),k2⟩,fun a ha b hb=>?_⟩
  rcases List.mem_cons.1 hb with rfl | hb
  ·
   exact .inr (h1 a ha)
  ·
   exact k3 a ha b hb
theorem Sd.halves (hw:Swo S lt f){A1 A2 B1 B2 M1 M2:List α}(hS:∀y∈(A1++A2)++(B1++B2),S y)(hA:srt lt (A1++A2))(hB:srt lt (B1++B2))
  (hi:∀x∈A1,∀y∈B2,lt y x=false) (hii:∀y∈B1,∀x∈A2,lt y x=true) (h1:Sd lt (A1++B1) M1) (h2:Sd lt (A2++B2) M2):Sd lt ((A1++A2)++(B1++B2)) (M1++M2):=by
 refine⟨?_,?_,fun tb h=>?_⟩
 ·
  refine(h1.perm.append h2.perm).trans ?_
  have:(A1++B1)++(A2++B2)=A1++(B1++(A2++B2)):=by simp
  rw[this]
  have:(A1++A2)++(B1++B2)=A1++(A2++(B1++B2)):=by simp
  rw[this,List.perm_append_left_iff]
  have e1:B1++(A2++B2)=(B1++A2)++B2:=by simp
  have e2:A2++(B1++B2)=(A2++B1)++B2:=by simp
  rw[e1,e2,List.perm_append_right_iff]
  exact List.perm_append_comm
 ·
  unfold srt
  rw[List.pairwise_append]
  refine⟨h1.srtd,h2.srtd,fun a ha b hb=>?_⟩
  unfold srt at hA hB
  rw[List.pairwise_append]at hA hB
  have sA2:∀x∈A2,S x:=fun x hx=>hS x (by simp[hx])
  have sB1:∀x∈B1,S x:=fun x hx=>hS x (by simp[hx])
  rcases List.mem_append.1 (h1.mem.1 ha)with ha | ha<;>rcases List.mem_append.1 (h2.mem.1 hb)with hb | hb
  ·
   exact hA.2.2 a ha b hb
  ·
   exact hi a ha b hb
  ·
   exact hw.asym a b (sB1 a ha) (sA2 b hb) (hii a ha b hb)
  ·
   exact hB.2.2 a ha b hb
 ·
  unfold Yn at *
  have hp:(A1++B1++(A2++B2)).Pairwise (fun x y=>tb x y∨lt x y=true):=by
   simp only[List.pairwise_append,List.mem_append]at h⊢
   obtain⟨⟨k1,k2,k3⟩,⟨k4,k5,k6⟩,k7⟩:=h
   refine⟨⟨k1,k4,fun a ha b hb=>k7 a (.inl ha) b (.inl hb)⟩,⟨k2,k5,fun a ha b hb=>k7 a (.inr ha) b (.inr hb)⟩,fun a ha b hb=>?_⟩
   rcases ha with ha | ha<;>rcases hb with hb | hb
   ·
    exact k3 a ha b hb
   ·
    exact k7 a (.inl ha) b (.inr hb)
   ·
    exact .inr (hii a ha b hb)
   ·
    exact k6 a ha b hb
  rw[List.pairwise_append]at hp
  rw[List.pairwise_append]
  exact⟨h1.kept tb hp.1,h2.kept tb hp.2.1,fun a ha b hb=>hp.2.2 a (h1.mem.1 ha) b (h2.mem.1 hb)⟩
theorem zdt {A B:List α}(h:srt lt (A++B)):srt lt A:=by unfold srt at *;exact(List.pairwise_append.1 h).1
theorem zfT {A B:List α}(h:srt lt (A++B)):srt lt B:=by unfold srt at *;exact(List.pairwise_append.1 h).2.1
structure Pk (lt:α→α→Bool) (L M:List α):Prop where
 perm:M.Perm L
 kept:∀tb:α→α→Prop,Yn lt tb L→Yn lt tb M
theorem Sd.pk {L M:List α}(h:Sd lt L M):Pk lt L M:=⟨h.perm,h.kept⟩
theorem Pk.refl (L:List α):Pk lt L L:=⟨List.Perm.refl _,fun _ h=>h⟩
theorem Pk.trans {L M N:List α}(h1:Pk lt L M)(h2:Pk lt M N):Pk lt L N:=⟨h2.perm.trans h1.perm,fun tb h=>h2.kept tb (h1.kept tb h)⟩
theorem Pk.sd {L M:List α}(h:Pk lt L M)(hs:srt lt M):Sd lt L M:=⟨h.perm,hs,h.kept⟩
theorem Pk.mid {L M:List α}(h:Pk lt L M)(P Q:List α):Pk lt (P++(L++Q)) (P++(M++Q)):=by
 refine⟨(List.perm_append_left_iff P).2 (h.perm.append_right Q),fun tb hk=>?_⟩
 unfold Yn at *
 simp only[List.pairwise_append,List.mem_append]at hk⊢
 obtain⟨k1,⟨k2,k3,k4⟩,k5⟩:=hk
 refine⟨k1,⟨h.kept tb k2,k3,fun a ha b hb=>k4 a (h.perm.mem_iff.1 ha) b hb⟩,fun a ha b hb=>?_⟩
 rcases hb with hb | hb
 ·
  exact k5 a ha b (.inl (h.perm.mem_iff.1 hb))
 ·
  exact k5 a ha b (.inr hb)
theorem Pk.len {L M:List α}(h:Pk lt L M):M.length=L.length:=h.perm.length_eq
theorem Pk.all {L M:List α}(h:Pk lt L M)(hS:∀x∈L,S x):∀x∈M,S x:=fun x hx=>hS x (h.perm.mem_iff.1 hx)
inductive Bl (lt:α→α→Bool) (n:Nat):List α→Prop
 | last {A:List α}:A.length≤n→srt lt A→Bl lt n A
 | more {A R:List α}:A.length=n→srt lt A→Bl lt n R→Bl lt n (A++R)
inductive BlF (lt:α→α→Bool) (n:Nat):List α→Prop
 | nil:BlF lt n []
 | snoc {P M:List α}:BlF lt n P→M.length=n→srt lt M→BlF lt n (P++M)
theorem BlF.bl {n:Nat}{P:List α}(h:BlF lt n P):∀{D:List α},Bl lt n D→Bl lt n (P++D):=by
 induction h with
 | nil=>intro D hD;simpa using hD
 | snoc _ h1 h2 ih=>intro D hD;rw[List.append_assoc];exact ih (.more h1 h2 hD)
theorem Bl.all {n:Nat}{D:List α}(h:Bl lt n D)(hn:D.length≤n):srt lt D:=by
 cases h with
 | last _ h=>exact h
 | @more A R h1 h2 _=>
  rw[List.length_append]at hn
  have:R=[]:=List.length_eq_zero_iff.1 (by omega)
  rw[this,List.append_nil];exact h2
theorem Bl.first {n:Nat}{D:List α}(h:Bl lt n D)(hn:n≤D.length):∃A R,D=A++R∧A.length=n∧srt lt A∧Bl lt n R:=by
 cases h with
 | last h1 h2=>exact⟨D,[],by simp,by omega,h2,.last (by simp) zmV⟩
 | @more A R h1 h2 h3=>exact⟨A,R,rfl,h1,h2,h3⟩
end
end
end Go.DB
namespace Go.DB.Stbelement
open Go Go.RowKit Go.DB
section
section
variable {S:zf→Prop} {lt:zf→zf→Bool} {f:zf→zf→Option Int}
theorem ins_loop (hw:Swo S lt f){P Q:List zf}{x:zf}(hx:S x):∀(n:Nat) (L L2:List zf),L.length=n→(∀y∈L,S y)→P.length+n+L2.length≤1073741824→(∀y∈L2,lt x y=true)→
  ∃L1 L3,L=L1++L3∧(∀y∈L3,lt x y=true)∧(∀L0 y,L1=L0++[y]→lt x y=false)∧
   loop (zbz (P.length:Int) f) (((P.length+n:Nat):Int),P++(L++x::(L2++Q)))=some (P++(L1++x::(L3++L2++Q)))
 | 0,L,L2,hL,hS,hlen,h2=>by
  have:L=[]:=List.length_eq_zero_iff.1 hL
  subst this
  refine⟨[],[],rfl,by simp,fun L0 y h=>by simp at h,?_⟩
  rw[Qi]
  unfold zbz
  have e1:decide ((P.length:Int)<((P.length+0:Nat):Int))=false:=by simp
  simp only[e1,zeg,yZ,Bool.false_and,cond_false]
  rw[zl (by simp),zl (by simp)]
  simp
 | n+1,L,L2,hL,hS,hlen,h2=>by
  obtain⟨L',y,rfl⟩:∃L' y,L=L'++[y]:=by
   rcases List.eq_nil_or_concat L with h | ⟨L',y,h⟩
   ·
    rw[h]at hL;simp at hL
   ·
    exact⟨L',y,by rw[h,List.concat_eq_append]⟩
  have hL':L'.length=n:=by simpa using hL
  have hd:P++((L'++[y])++x::(L2++Q))=(P++L')++y::x::(L2++Q):=by simp
  rw[hd]
  have hj:(((P.length+(n+1):Nat):Int))=((P++L').length:Int)+1:=by simp;omega
  obtain⟨g1,g2,g3,g4,g5,_⟩:=zhZ (U:=P++L') (V:=L2++Q) (x:=x) (y:=y) hj
  obtain⟨c,hc,hcl⟩:=hw.cmp x y hx (hS y (by simp))
  have e1:decide ((P.length:Int)<((P.length+(n+1):Nat):Int))=true:=by rw[decide_eq_true_eq];omega
  have ew:W (((P.length+(n+1):Nat):Int) - 1)=((P.length+(n+1):Nat):Int) - 1:=Wk (by omega) (by omega)
  have hbody:zbz (P.length:Int) f (((P.length+(n+1):Nat):Int),(P++L')++y::x::(L2++Q)) =
    some (if lt x y=true then .again (((P.length+n:Nat):Int),P++(L'++x::((y::L2)++Q)))else .done ((P++L')++y::x::(L2++Q))):=by
   unfold zbz
   simp only[e1,ew,qy,Bool.true_and]
   rw[zl (fun _=>g3),zl (fun _=>g4),g1,g2,hc]
   simp only[yZ,hcl]
   cases hl:lt x y with
   | true=>
    simp only[cond_true,if_true,zw]
    have g6:inR (((P++L')++y::x::(L2++Q)).set (((P.length+(n+1):Nat):Int)).toNat y) (((P.length+(n+1):Nat):Int) - 1):=⟨g4.1,by rw[List.length_set];exact g4.2⟩
    rw[zl g4,zl g3,zl g3,zl g6,g5]
    congr 3
    ·
     omega
    ·
     simp
   | false=>simp
  rw[Qi,hbody]
  cases hl:lt x y with
  | true=>
   simp only[if_true]
   obtain⟨L1,L3,k1,k2,k3,k4⟩:=ins_loop hw (P:=P) (Q:=Q) hx n L' (y::L2) hL' (fun z hz=>hS z (by simp[hz])) (by simp;omega) (fun z hz=>by
    rcases List.mem_cons.1 hz with rfl | hz
    ·
     exact hl
    ·
     exact h2 z hz)
   refine⟨L1,L3++[y],by rw[k1];simp,fun z hz=>?_,k3,?_⟩
   ·
    rcases List.mem_append.1 hz with hz | hz
    ·
     exact k2 z hz
    ·
     simp at hz;rw[hz];exact hl
   ·
    rw[k4];simp
  | false=>
   simp only[Bool.false_eq_true,if_false]
   refine⟨L'++[y],[],by simp,by simp,fun L0 z h=>?_,by simp⟩
   have:=List.append_inj' h (by simp)
   have e:y=z:=by simpa using this.2
   rw[←e];exact hl
theorem ins_sort (hw:Swo S lt f){P M Q:List zf}(hS:∀x∈M,S x)(hlen:P.length+M.length≤1073741824):
  ∃M',Sd lt M M'∧zby (P++(M++Q)) (P.length:Int) ((P.length+M.length:Nat):Int) f=some (P++(M'++Q)):=by
 unfold zby
 simp only[zw]
 rw[Wk (n:=(P.length:Int)+1) (by omega) (by omega)]
 cases M with
 | nil=>
  refine⟨[],Sd.refl zmV,?_⟩
  rw[Qi]
  unfold zdl
  have e1:decide ((P.length:Int)+1<((P.length+([]:List zf).length:Nat):Int))=false:=by simp;omega
  simp only[e1,cond_false]
 | cons z M0=>
  obtain⟨e,h1,h2⟩:=Yp (body:=zdl (P.length:Int) ((P.length+(z::M0).length:Nat):Int) f) (s0:=((P.length:Int)+1,P++((z::M0)++Q)))
   (fun s=>∃(A A' B:List zf),z::M0=A++B∧A≠[]∧Sd lt A A'∧s=(((P.length+A.length:Nat):Int),P++(A'++(B++Q)))) (fun s=>(((P.length+(z::M0).length:Nat):Int) - s.1).toNat) (fun e=>∃M',Sd lt (z::M0) M'∧e=P++(M'++Q))
   ⟨[z],[z],M0,rfl,by simp,Sd.refl (zt7 z),by simp⟩ (fun s hI=>by
   obtain⟨A,A',B,hM,hA0,hA,rfl⟩:=hI
   unfold zdl
   have hlM:(z::M0).length=A.length+B.length:=by rw[hM,List.length_append]
   cases B with
   | nil=>
    right
    have e1:decide (((P.length+A.length:Nat):Int)<((P.length+(z::M0).length:Nat):Int))=false:=by rw[hlM];simp
    simp only[e1,cond_false]
    refine⟨_,rfl,A',?_,by simp⟩
    rw[hM,List.append_nil];exact hA
   | cons x B'=>
    left
    have hlM':(z::M0).length=A.length+(B'.length+1):=by rw[hlM];rfl
    have e1:decide (((P.length+A.length:Nat):Int)<((P.length+(z::M0).length:Nat):Int))=true:=by rw[decide_eq_true_eq];omega
    simp only[e1,cond_true]
    have hSA:∀y∈A',S y:=fun y hy=>hS y (by rw[hM];exact List.mem_append_left _ (hA.mem.1 hy))
    have hSx:S x:=hS x (by rw[hM];simp)
    obtain⟨L1,L3,k1,k2,k3,k4⟩:=ins_loop hw (P:=P) (Q:=B'++Q) hSx A.length A' [] hA.len hSA (by simp;rw[hlM]at hlen;simp at hlen;omega) (by simp)
    have hd:P++(A'++((x::B')++Q))=P++(A'++x::([]++(B'++Q))):=by simp
    rw[hd,k4]
    simp only[yZ,zw]
    rw[Wk (n:=((P.length+A.length:Nat):Int)+1) (by omega) (by omega)]
    have hins:Sd lt (A'++[x]) (L1++x::L3):=by
     rw[k1]
     refine Sd.insert hw (by rw[←k1];exact hSA) hSx (by rw[←k1];exact hA.srtd) (fun y hy=>?_) k2
     have hs:=hA.srtd
     rw[k1]at hs
     rcases List.eq_nil_or_concat L1 with h | ⟨L0,w,h⟩
     ·
      rw[h]at hy;cases hy
     ·
      rw[List.concat_eq_append]at h
      have hw1:=k3 L0 w h
      rw[h]at hy
      rcases List.mem_append.1 hy with hy | hy
      ·
       have hs1:=zdt hs
       unfold srt at hs1
       rw[h,List.pairwise_append]at hs1
       have:=hs1.2.2 y hy w (by simp)
       exact hw.ntr x w y hSx (hSA w (by rw[k1,h];simp)) (hSA y (by rw[k1,h];simp[hy])) hw1 this
      ·
       simp at hy;rw[hy];exact hw1
    refine⟨_,rfl,⟨A++[x],L1++x::L3,B',by rw[hM];simp,by simp,⟨?_,hins.srtd,fun tb h=>?_⟩,?_⟩,by simp only;omega⟩
    ·
     exact hins.perm.trans (hA.perm.append_right [x])
    ·
     refine hins.kept tb ?_
     unfold Yn at *
     rw[List.pairwise_append]at h⊢
     exact⟨hA.kept tb h.1,h.2.1,fun a ha b hb=>h.2.2 a (hA.mem.1 ha) b hb⟩
    ·
     simp;omega)
  obtain⟨M',h3,h4⟩:=h2
  exact⟨M',h3,by rw[←h4,←h1]⟩
theorem swap_range {P X Z Y Q:List zf}(hxy:X.length=Y.length)(hlen:(P++(X++(Z++(Y++Q)))).length≤1073741824):
  zac (P++(X++(Z++(Y++Q)))) (P.length:Int) ((P.length+X.length+Z.length:Nat):Int) (X.length:Int) f=some (P++(Y++(Z++(X++Q)))):=by
 unfold zac
 obtain⟨e,h1,h2⟩:=Yp (body:=zfQ (P.length:Int) ((P.length+X.length+Z.length:Nat):Int) (X.length:Int)) (s0:=(0,P++(X++(Z++(Y++Q)))))
  (fun s=>∃(X1 X2 Y1 Y2:List zf),X=X1++X2∧Y=Y1++Y2∧X1.length=Y1.length∧s=((X1.length:Int),P++(Y1++(X2++(Z++(X1++(Y2++Q))))))) (fun s=>((X.length:Int) - s.1).toNat) (fun e=>e=P++(Y++(Z++(X++Q))))
  ⟨[],X,[],Y,rfl,rfl,rfl,by simp⟩ (fun s hI=>by
  obtain⟨X1,X2,Y1,Y2,hX,hY,h12,rfl⟩:=hI
  have lX:X.length=X1.length+X2.length:=by rw[hX,List.length_append]
  have lY:Y.length=Y1.length+Y2.length:=by rw[hY,List.length_append]
  simp only[List.length_append]at hlen
  unfold zfQ
  cases X2 with
  | nil=>
   right
   have e1:decide ((X1.length:Int)<(X.length:Int))=false:=by rw[lX];simp
   have hy2:Y2=[]:=List.length_eq_zero_iff.1 (by simp at lX;omega)
   subst hy2
   simp only[e1,cond_false]
   refine⟨_,rfl,?_⟩
   rw[hX,hY];simp
  | cons x X2'=>
   left
   obtain⟨y,Y2',rfl⟩:∃y Y2',Y2=y::Y2':=by
    cases Y2 with
    | nil=>simp at lX lY;omega
    | cons y Y2'=>exact⟨y,Y2',rfl⟩
   simp only[List.length_cons]at lX lY
   have e1:decide ((X1.length:Int)<(X.length:Int))=true:=by rw[decide_eq_true_eq];omega
   simp only[e1,cond_true]
   rw[Wk (n:=((P.length+X.length+Z.length:Nat):Int)+(X1.length:Int)) (by omega) (by omega),Wk (n:=(P.length:Int)+(X1.length:Int)) (by omega) (by omega),Wk (n:=(X1.length:Int)+1) (by omega) (by omega)]
   have d1:P++(Y1++((x::X2')++(Z++(X1++((y::Y2')++Q)))))=(P++Y1)++x::(X2'++(Z++(X1++((y::Y2')++Q)))):=by simp
   have d2:∀v:zf,(P++Y1)++v::(X2'++(Z++(X1++((y::Y2')++Q))))=(P++Y1++v::(X2'++(Z++X1)))++y::(Y2'++Q):=fun v=>by simp
   have i1:((P.length:Int)+(X1.length:Int))=((P++Y1).length:Int):=by simp;omega
   have i2:∀v:zf,(((P.length+X.length+Z.length:Nat):Int)+(X1.length:Int))=((P++Y1++v::(X2'++(Z++X1))).length:Int):=fun v=>by simp;omega
   rw[d1]
   have r1:inR ((P++Y1)++x::(X2'++(Z++(X1++((y::Y2')++Q))))) ((P.length:Int)+(X1.length:Int)):=zco i1
   have r2:inR ((P++Y1)++x::(X2'++(Z++(X1++((y::Y2')++Q))))) (((P.length+X.length+Z.length:Nat):Int)+(X1.length:Int)):=by rw[d2];exact zco (i2 x)
   have v1:gx ((P++Y1)++x::(X2'++(Z++(X1++((y::Y2')++Q))))) (((P.length+X.length+Z.length:Nat):Int)+(X1.length:Int))=y:=by rw[d2];exact zaO (i2 x)
   have v2:gx ((P++Y1)++x::(X2'++(Z++(X1++((y::Y2')++Q))))) ((P.length:Int)+(X1.length:Int))=x:=zaO i1
   rw[zl r2,v1]
   simp only[zw]
   rw[zl r1,v2,zl r1,zbp (by omega)]
   have r3:inR ((P++Y1)++y::(X2'++(Z++(X1++((y::Y2')++Q))))) (((P.length+X.length+Z.length:Nat):Int)+(X1.length:Int)):=by rw[d2];exact zco (i2 y)
   rw[zl r3,d2,zbp (by have:=i2 y;omega)]
   refine⟨_,rfl,⟨X1++[x],X2',Y1++[y],Y2',by rw[hX];simp,by rw[hY];simp,by simp;omega,?_⟩,by simp only;omega⟩
   simp)
 rw[h1,h2]
theorem rotate_eq {P X Y Q:List zf}(hX:X≠[])(hY:Y≠[])(hlen:(P++(X++(Y++Q))).length≤1073741824):
  zbA (P++(X++(Y++Q))) (P.length:Int) ((P.length+X.length:Nat):Int) ((P.length+X.length+Y.length:Nat):Int) f=some (P++(Y++(X++Q))):=by
 unfold zbA
 simp only[zw]
 have hl2:P.length+X.length+Y.length≤1073741824:=by simp at hlen;omega
 rw[Wk (n:=((P.length+X.length:Nat):Int) - (P.length:Int)) (by omega) (by omega),Wk (n:=((P.length+X.length+Y.length:Nat):Int) - ((P.length+X.length:Nat):Int)) (by omega) (by omega)]
 obtain⟨e,h1,P',X',Y',Q',e1,e2,e3,e4,e5⟩:=Yp (body:=zfN ((P.length+X.length:Nat):Int) f) (s0:=(((P.length+X.length:Nat):Int) - (P.length:Int),((P.length+X.length+Y.length:Nat):Int) - ((P.length+X.length:Nat):Int),P++(X++(Y++Q))))
  (fun s=>∃P' X' Y' Q':List zf,X'≠[]∧Y'≠[]∧s=((X'.length:Int),(Y'.length:Int),P'++(X'++(Y'++Q')))∧P'.length+X'.length=P.length+X.length∧P'++(Y'++(X'++Q'))=P++(Y++(X++Q)))
  (fun s=>(s.1+s.2.1).toNat) (fun e=>∃P' X' Y' Q':List zf,X'.length=Y'.length∧X'≠[]∧e=((X'.length:Int),P'++(X'++(Y'++Q')))∧P'.length+X'.length=P.length+X.length∧P'++(Y'++(X'++Q'))=P++(Y++(X++Q)))
  ⟨P,X,Y,Q,hX,hY,Prod.ext (by simp only;omega) (Prod.ext (by simp only;omega) rfl),rfl,rfl⟩ (fun s hI=>by
  obtain⟨P',X',Y',Q',x0,y0,rfl,hm,ht⟩:=hI
  have hx0:=List.length_pos_iff.2 x0
  have hy0:=List.length_pos_iff.2 y0
  have hlt:(P'++(X'++(Y'++Q'))).length≤1073741824:=by
   have:=congrArg List.length ht
   simp only[List.length_append]at this hlen⊢;omega
  unfold zfN
  simp only
  by_cases c:X'.length=Y'.length
  ·
   right
   have d1:(!decide ((X'.length:Int)=(Y'.length:Int)))=false:=by simp;omega
   simp only[d1,cond_false]
   exact⟨_,rfl,P',X',Y',Q',c,x0,rfl,hm,ht⟩
  ·
   left
   have d1:(!decide ((X'.length:Int)=(Y'.length:Int)))=true:=by simp;omega
   simp only[d1,cond_true]
   have hl3:P'.length+X'.length+Y'.length≤1073741824:=by simp at hlt;omega
   have ew:W (((P.length+X.length:Nat):Int) - (X'.length:Int))=(P'.length:Int):=by rw[Wk (by omega) (by omega)];omega
   rw[ew]
   by_cases c2:Y'.length<X'.length
   ·
    have d2:decide ((Y'.length:Int)<(X'.length:Int))=true:=by simp;omega
    simp only[d2,cond_true]
    obtain⟨X1,X2,rfl,hx1⟩:=cut (A:=X') (n:=Y'.length) (by omega)
    have hsw:=swap_range (f:=f) (P:=P') (X:=X1) (Z:=X2) (Y:=Y') (Q:=Q') hx1 (by simpa using hlt)
    have hd:P'++((X1++X2)++(Y'++Q'))=P'++(X1++(X2++(Y'++Q'))):=by simp
    have hmm:((P.length+X.length:Nat):Int)=((P'.length+X1.length+X2.length:Nat):Int):=by simp at hm;omega
    have hl12:(X1++X2).length=X1.length+X2.length:=List.length_append
    rw[hd,hmm,←hx1,hsw]
    simp only[yZ,zw]
    rw[Wk (by omega) (by omega)]
    refine⟨_,rfl,⟨P'++Y',X2,X1,Q',fun e=>by have:=congrArg List.length e;rw[List.length_nil]at this;omega,fun e=>by have:=congrArg List.length e;rw[List.length_nil]at this;omega,?_,by rw[List.length_append];omega,?_⟩,by simp only;omega⟩
    ·
     exact Prod.ext (by simp only;omega) (Prod.ext rfl (by simp))
    ·
     rw[←ht];simp
   ·
    have d2:decide ((Y'.length:Int)<(X'.length:Int))=false:=by simp;omega
    simp only[d2,cond_false]
    obtain⟨Y1,Y2,rfl,hy1⟩:=cut (A:=Y') (n:=Y'.length - X'.length) (by omega)
    have hl12:(Y1++Y2).length=Y1.length+Y2.length:=List.length_append
    have hy2:X'.length=Y2.length:=by omega
    have hsw:=swap_range (f:=f) (P:=P') (X:=X') (Z:=Y1) (Y:=Y2) (Q:=Q') hy2 (by simpa using hlt)
    have hd:P'++(X'++((Y1++Y2)++Q'))=P'++(X'++(Y1++(Y2++Q'))):=by simp
    have hmm:W (W (((P.length+X.length:Nat):Int)+((Y1++Y2).length:Int)) - (X'.length:Int))=((P'.length+X'.length+Y1.length:Nat):Int):=by
     rw[Wk (n:=((P.length+X.length:Nat):Int)+((Y1++Y2).length:Int)) (by omega) (by omega),Wk (by omega) (by omega)];omega
    rw[hd,hmm,hsw]
    simp only[yZ,zw]
    rw[Wk (by omega) (by omega)]
    refine⟨_,rfl,⟨P',Y2,Y1,X'++Q',fun e=>by have:=congrArg List.length e;rw[List.length_nil]at this;omega,fun e=>by have:=congrArg List.length e;rw[List.length_nil]at this;omega,?_,by omega,?_⟩,by simp only;omega⟩
    ·
     exact Prod.ext (by simp only;omega) (Prod.ext (by simp only;omega) (by simp))
    ·
     rw[←ht];simp)
 rw[h1]
 simp only[yZ]
 subst e3
 simp only
 have hlt:(P'++(X'++(Y'++Q'))).length≤1073741824:=by
  have:=congrArg List.length e5
  simp only[List.length_append]at this hlen⊢;omega
 have hl3:P'.length+X'.length+Y'.length≤1073741824:=by simp at hlt;omega
 have ew:W (((P.length+X.length:Nat):Int) - (X'.length:Int))=(P'.length:Int):=by rw[Wk (by omega) (by omega)];omega
 have hsw:=swap_range (f:=f) (P:=P') (X:=X') (Z:=[]) (Y:=Y') (Q:=Q') e1 (by simpa using hlt)
 have hmm:((P.length+X.length:Nat):Int)=((P'.length+X'.length+([]:List zf).length:Nat):Int):=by simp;omega
 rw[ew,hmm]
 simp only[List.nil_append]at hsw
 rw[hsw,e5]
 rfl
end
end
section
section
variable {S:zf→Prop} {lt:zf→zf→Bool} {f:zf→zf→Option Int}
theorem right_loop {P L Q:List zf}{x:zf}{e:Int}(he:e=((P.length+L.length+1:Nat):Int))(hlen:P.length+L.length+1≤1073741824):
  loop (zdp e) ((P.length:Int),P++(x::(L++Q)))=some (P++(L++x::Q)):=by
 obtain⟨r,h1,h2⟩:=Yp (body:=zdp e) (s0:=((P.length:Int),P++(x::(L++Q)))) (fun s=>∃L1 L2,L=L1++L2∧s=(((P.length+L1.length:Nat):Int),P++(L1++x::(L2++Q))))
  (fun s=>(e - s.1).toNat) (fun r=>r=P++(L++x::Q)) ⟨[],L,rfl,by simp⟩ (fun s hI=>by
  obtain⟨L1,L2,hL,rfl⟩:=hI
  have lL:L.length=L1.length+L2.length:=by rw[hL,List.length_append]
  unfold zdp
  simp only
  rw[Wk (n:=e - 1) (by omega) (by omega),Wk (n:=((P.length+L1.length:Nat):Int)+1) (by omega) (by omega)]
  cases L2 with
  | nil=>
   right
   have e1:decide (((P.length+L1.length:Nat):Int)<e - 1)=false:=by rw[decide_eq_false_iff_not];simp at lL;omega
   simp only[e1,cond_false]
   exact⟨_,rfl,by rw[hL];simp⟩
  | cons y L2'=>
   left
   simp only[List.length_cons]at lL
   have e1:decide (((P.length+L1.length:Nat):Int)<e - 1)=true:=by rw[decide_eq_true_eq];omega
   simp only[e1,cond_true]
   have hd:P++(L1++x::((y::L2')++Q))=(P++L1)++x::y::(L2'++Q):=by simp
   obtain⟨g1,g2,g3,g4,_,g6⟩:=zhZ (U:=P++L1) (V:=L2'++Q) (x:=y) (y:=x) (j:=((P.length+L1.length:Nat):Int)+1) (by simp)
   have ej:((P.length+L1.length:Nat):Int)+1 - 1=((P.length+L1.length:Nat):Int):=by omega
   rw[ej]at g2 g4 g6
   rw[hd,zl g3,g1]
   simp only[zw]
   have g7:inR (((P++L1)++x::y::(L2'++Q)).set (((P.length+L1.length:Nat):Int)).toNat y) (((P.length+L1.length:Nat):Int)+1):=⟨g3.1,by rw[List.length_set];exact g3.2⟩
   rw[zl g4,g2,zl g4,zl g7,g6]
   refine⟨_,rfl,⟨L1++[y],L2',by rw[hL];simp,Prod.ext (by simp;omega) (by simp)⟩,by simp only;omega⟩)
 rw[h1,h2]
theorem left_loop {P L Q:List zf}{x:zf}(hlen:P.length+L.length+1≤1073741824):
  loop (zdr (P.length:Int)) (((P.length+L.length:Nat):Int),P++(L++x::Q))=some (P++(x::(L++Q))):=by
 obtain⟨r,h1,h2⟩:=Yp (body:=zdr (P.length:Int)) (s0:=(((P.length+L.length:Nat):Int),P++(L++x::Q))) (fun s=>∃L1 L2,L=L1++L2∧s=(((P.length+L1.length:Nat):Int),P++(L1++x::(L2++Q))))
  (fun s=>(s.1 - P.length).toNat) (fun r=>r=P++(x::(L++Q))) ⟨L,[],by simp,by simp⟩ (fun s hI=>by
  obtain⟨L1,L2,hL,rfl⟩:=hI
  have lL:L.length=L1.length+L2.length:=by rw[hL,List.length_append]
  unfold zdr
  simp only
  rw[Wk (n:=((P.length+L1.length:Nat):Int) - 1) (by omega) (by omega)]
  rcases List.eq_nil_or_concat L1 with h | ⟨L1',y,h⟩
  ·
   right
   subst h
   have e1:decide ((P.length:Int)<((P.length+([]:List zf).length:Nat):Int))=false:=by simp
   simp only[e1,cond_false]
   exact⟨_,rfl,by rw[hL];simp⟩
  ·
   left
   rw[List.concat_eq_append]at h
   subst h
   have hl1:(L1'++[y]).length=L1'.length+1:=by simp
   have e1:decide ((P.length:Int)<((P.length+(L1'++[y]).length:Nat):Int))=true:=by rw[decide_eq_true_eq];omega
   simp only[e1,cond_true]
   have hd:P++((L1'++[y])++x::(L2++Q))=(P++L1')++y::x::(L2++Q):=by simp
   obtain⟨g1,g2,g3,g4,g5,_⟩:=zhZ (U:=P++L1') (V:=L2++Q) (x:=x) (y:=y) (j:=((P.length+(L1'++[y]).length:Nat):Int)) (by simp;omega)
   rw[hd,zl g4,g2]
   simp only[zw]
   have g7:inR (((P++L1')++y::x::(L2++Q)).set (((P.length+(L1'++[y]).length:Nat):Int)).toNat y) (((P.length+(L1'++[y]).length:Nat):Int) - 1):=⟨g4.1,by rw[List.length_set];exact g4.2⟩
   rw[zl g3,g1,zl g3,zl g7,g5]
   refine⟨_,rfl,⟨L1',y::L2,by rw[hL];simp,Prod.ext (by simp only;omega) (by simp)⟩,by simp only;omega⟩)
 rw[h1,h2]
theorem srt_get (hw:Swo S lt f){A:List zf}(h:srt lt A)(hS:∀x∈A,S x){i j:Nat}(hj:j<A.length)(hij:i≤j):lt A[j] (A[i]'(by omega))=false:=by
 by_cases e:i=j
 ·
  subst e;exact hw.irr (hS _ (List.getElem_mem _))
 ·
  unfold srt at h
  rw[List.pairwise_iff_getElem]at h
  exact h i j (by omega) hj (by omega)
theorem merge_first (hw:Swo S lt f){P B Q:List zf}{x:zf}(hB:B≠[])(hS:∀y∈x::B,S y)(hs:srt lt B)(hlen:P.length+1+B.length≤1073741824):
  ∃M,Sd lt (x::B) M∧∀n,qp jj (n+1) (P++(x::(B++Q)),(P.length:Int),((P.length+1:Nat):Int),((P.length+1+B.length:Nat):Int),f)=some (P++(M++Q)):=by
 have hx:S x:=hS x (by simp)
 have hSB:∀y∈B,S y:=fun y hy=>hS y (by simp[hy])
 obtain⟨s,s1,s2,s3,s4,s5⟩:=zgg (body:=zdo (P++(x::(B++Q)),(P.length:Int),((P.length+1:Nat):Int),((P.length+1+B.length:Nat):Int),f)) (fun h=>if hh:P.length+1≤h∧h<P.length+1+B.length then lt (B[h - (P.length+1)]'(by omega)) x else false) (lo:=P.length+1) (hi:=P.length+1+B.length) (by omega)
  (fun i j i1 i2 i3=>by
   unfold zdo
   have e1:decide ((i:Int)<(j:Int))=true:=by rw[decide_eq_true_eq];omega
   simp only[e1,cond_true]
   rw[zel (by omega)]
   simp only[zw]
   have hk:(i+j) / 2 - (P.length+1)<B.length:=by omega
   have hd:P++(x::(B++Q))=(P++[x])++(B++Q):=by simp
   have hg1:gx (P++(x::(B++Q))) (((i+j) / 2:Nat):Int)=B[(i+j) / 2 - (P.length+1)]:=by rw[hd];exact zek hk (by simp;omega)
   have hr1:inR (P++(x::(B++Q))) (((i+j) / 2:Nat):Int):=by rw[hd];exact zes hk (by simp;omega)
   have hg2:gx (P++(x::(B++Q))) (P.length:Int)=x:=zaO rfl
   have hr2:inR (P++(x::(B++Q))) (P.length:Int):=zco rfl
   obtain⟨c,hc,hcl⟩:=hw.cmp (B[(i+j) / 2 - (P.length+1)]) x (hSB _ (List.getElem_mem _)) hx
   rw[zl hr1,zl hr2,hg1,hg2,hc]
   simp only[yZ,hcl]
   rw[dif_pos ⟨by omega,by omega⟩]
   rw[Wk (n:=(((i+j) / 2:Nat):Int)+1) (by omega) (by omega)]
   cases lt (B[(i+j) / 2 - (P.length+1)]) x<;>simp)
  (fun i i1 i2=>by
   unfold zdo
   have e1:decide ((i:Int)<(i:Int))=false:=by simp
   simp only[e1,cond_false])
  (fun h k h1 h2 h3 hp=>by
   rw[dif_pos ⟨by omega,h3⟩]at hp
   rw[dif_pos ⟨h1,by omega⟩]
   have hsrt:=srt_get hw hs hSB (i:=h - (P.length+1)) (j:=k - (P.length+1)) (by omega) (by omega)
   cases hh:lt (B[h - (P.length+1)]) x with
   | true=>rfl
   | false=>
    have:=hw.ntr _ _ _ (hSB _ (List.getElem_mem (show k - (P.length+1)<B.length by omega))) (hSB _ (List.getElem_mem (show h - (P.length+1)<B.length by omega))) hx hsrt hh
    rw[hp]at this;cases this)
 obtain⟨B1,B2,hBB,hB1⟩:=cut (A:=B) (n:=s - (P.length+1)) (by omega)
 have hlB:B.length=B1.length+B2.length:=by rw[hBB,List.length_append]
 have hb1:∀y∈B1,lt y x=true:=fun y hy=>by
  obtain⟨i,hi,rfl⟩:=List.mem_iff_getElem.1 hy
  have:=s3 (P.length+1+i) (by omega) (by omega)
  rw[dif_pos ⟨by omega,by omega⟩]at this
  have e:B[P.length+1+i - (P.length+1)]'(by omega)=B1[i]:=by simp only[hBB];rw[List.getElem_append_left (by omega)];congr 1;omega
  rwa [e]at this
 have hb2:∀y∈B2,lt y x=false:=fun y hy=>by
  obtain⟨i,hi,rfl⟩:=List.mem_iff_getElem.1 hy
  have:=s4 (s+i) (by omega) (by omega)
  rw[dif_pos ⟨by omega,by omega⟩]at this
  have e:B[s+i - (P.length+1)]'(by omega)=B2[i]:=by simp only[hBB];rw[List.getElem_append_right (by omega)];congr 1;omega
  rwa [e]at this
 refine⟨B1++x::B2,by rw[hBB];exact Sd.insertF hw (by rw[←hBB];exact hSB) hx (by rw[←hBB];exact hs) hb1 hb2,fun n=>?_⟩
 show jj (qp jj n) _=_
 generalize qp jj n=slf
 unfold jj
 have e1:decide (W (((P.length+1:Nat):Int) - (P.length:Int))=1)=true:=by rw[Wk (by omega) (by omega),decide_eq_true_eq];omega
 simp only[e1,cond_true,s5,yZ]
 have hr:=right_loop (P:=P) (L:=B1) (Q:=B2++Q) (x:=x) (e:=(s:Int)) (by omega) (by omega)
 have hd:P++(x::(B++Q))=P++(x::(B1++(B2++Q))):=by rw[hBB];simp
 rw[hd,hr]
 simp
theorem merge_last (hw:Swo S lt f){P A Q:List zf}{y:zf}(hA:2≤A.length)(hS:∀z∈A++[y],S z)(hs:srt lt A)(hlen:P.length+A.length+1≤1073741824):
  ∃M,Sd lt (A++[y]) M∧∀n,qp jj (n+1) (P++(A++y::Q),(P.length:Int),((P.length+A.length:Nat):Int),((P.length+A.length+1:Nat):Int),f)=some (P++(M++Q)):=by
 have hy:S y:=hS y (by simp)
 have hSA:∀z∈A,S z:=fun z hz=>hS z (by simp[hz])
 obtain⟨s,s1,s2,s3,s4,s5⟩:=zgg (body:=zdq (P++(A++y::Q),(P.length:Int),((P.length+A.length:Nat):Int),((P.length+A.length+1:Nat):Int),f)) (fun h=>if hh:P.length≤h∧h<P.length+A.length then !lt y (A[h - P.length]'(by omega))else false) (lo:=P.length) (hi:=P.length+A.length) (by omega)
  (fun i j i1 i2 i3=>by
   unfold zdq
   have e1:decide ((i:Int)<(j:Int))=true:=by rw[decide_eq_true_eq];omega
   simp only[e1,cond_true]
   rw[zel (by omega)]
   simp only[zw]
   have hk:(i+j) / 2 - P.length<A.length:=by omega
   have hg1:gx (P++(A++y::Q)) (((i+j) / 2:Nat):Int)=A[(i+j) / 2 - P.length]:=zek hk (by omega)
   have hr1:inR (P++(A++y::Q)) (((i+j) / 2:Nat):Int):=zes hk (by omega)
   have hd:P++(A++y::Q)=(P++A)++y::Q:=by simp
   have hg2:gx (P++(A++y::Q)) ((P.length+A.length:Nat):Int)=y:=by rw[hd];exact zaO (by simp)
   have hr2:inR (P++(A++y::Q)) ((P.length+A.length:Nat):Int):=by rw[hd];exact zco (by simp)
   obtain⟨c,hc,hcl⟩:=hw.cmp y (A[(i+j) / 2 - P.length]) hy (hSA _ (List.getElem_mem _))
   rw[zl hr2,zl hr1,hg1,hg2,hc]
   simp only[yZ,hcl]
   rw[dif_pos ⟨by omega,by omega⟩]
   rw[Wk (n:=(((i+j) / 2:Nat):Int)+1) (by omega) (by omega)]
   cases lt y (A[(i+j) / 2 - P.length])<;>simp)
  (fun i i1 i2=>by
   unfold zdq
   have e1:decide ((i:Int)<(i:Int))=false:=by simp
   simp only[e1,cond_false])
  (fun h k h1 h2 h3 hp=>by
   rw[dif_pos ⟨by omega,h3⟩]at hp
   rw[dif_pos ⟨h1,by omega⟩]
   have hsrt:=srt_get hw hs hSA (i:=h - P.length) (j:=k - P.length) (by omega) (by omega)
   simp only[Bool.not_eq_true']at hp⊢
   exact hw.ntr _ _ _ hy (hSA _ (List.getElem_mem (show k - P.length<A.length by omega))) (hSA _ (List.getElem_mem (show h - P.length<A.length by omega))) hp hsrt)
 obtain⟨A1,A2,hAA,hA1⟩:=cut (A:=A) (n:=s - P.length) (by omega)
 have hlA:A.length=A1.length+A2.length:=by rw[hAA,List.length_append]
 have ha1:∀z∈A1,lt y z=false:=fun z hz=>by
  obtain⟨i,hi,rfl⟩:=List.mem_iff_getElem.1 hz
  have:=s3 (P.length+i) (by omega) (by omega)
  rw[dif_pos ⟨by omega,by omega⟩]at this
  have e:A[P.length+i - P.length]'(by omega)=A1[i]:=by simp only[hAA];rw[List.getElem_append_left (by omega)];congr 1;omega
  rw[e]at this;simpa using this
 have ha2:∀z∈A2,lt y z=true:=fun z hz=>by
  obtain⟨i,hi,rfl⟩:=List.mem_iff_getElem.1 hz
  have:=s4 (s+i) (by omega) (by omega)
  rw[dif_pos ⟨by omega,by omega⟩]at this
  have e:A[s+i - P.length]'(by omega)=A2[i]:=by simp only[hAA];rw[List.getElem_append_right (by omega)];congr 1;omega
  rw[e]at this;simpa using this
 refine⟨A1++y::A2,by rw[hAA];exact Sd.insert hw (by rw[←hAA];exact hSA) hy (by rw[←hAA];exact hs) ha1 ha2,fun n=>?_⟩
 show jj (qp jj n) _=_
 generalize qp jj n=slf
 unfold jj
 have e1:decide (W (((P.length+A.length:Nat):Int) - (P.length:Int))=1)=false:=by rw[Wk (by omega) (by omega),decide_eq_false_iff_not];omega
 have e2:decide (W (((P.length+A.length+1:Nat):Int) - ((P.length+A.length:Nat):Int))=1)=true:=by rw[Wk (by omega) (by omega),decide_eq_true_eq];omega
 simp only[e1,e2,cond_true,cond_false,s5,yZ,yG]
 have hr:=left_loop (P:=P++A1) (L:=A2) (Q:=Q) (x:=y) (by simp;omega)
 have hd:P++(A++y::Q)=(P++A1)++(A2++y::Q):=by rw[hAA];simp
 have hp1:((P++A1).length:Int)=(s:Int):=by simp;omega
 have hp2:(((P++A1).length+A2.length:Nat):Int)=((P.length+A.length:Nat):Int):=by simp;omega
 rw[hp1,hp2]at hr
 rw[hd,hr]
 simp
theorem sym_merge (hw:Swo S lt f):∀(k:Nat) (P A B Q:List zf),A.length+B.length≤k→A≠[]→B≠[]→(∀z∈A++B,S z)→srt lt A→srt lt B→(P++(A++(B++Q))).length≤1073741824→
  ∃M,Sd lt (A++B) M∧∀n,k≤n→qp jj n (P++(A++(B++Q)),(P.length:Int),((P.length+A.length:Nat):Int),((P.length+A.length+B.length:Nat):Int),f)=some (P++(M++Q))
 | 0,P,A,B,Q,hk,hA,hB,hS,sA,sB,hlen=>by
  have:=List.length_pos_iff.2 hA;omega
 | k+1,P,A,B,Q,hk,hA,hB,hS,sA,sB,hlen=>by
  have hA0:=List.length_pos_iff.2 hA
  have hB0:=List.length_pos_iff.2 hB
  have hl3:P.length+A.length+B.length≤1073741824:=by simp at hlen;omega
  have hSA:∀z∈A,S z:=fun z hz=>hS z (by simp[hz])
  have hSB:∀z∈B,S z:=fun z hz=>hS z (by simp[hz])
  by_cases c1:A.length=1
  ·
   obtain⟨x,rfl⟩:=List.length_eq_one_iff.1 c1
   obtain⟨M,h1,h2⟩:=merge_first hw (P:=P) (Q:=Q) (x:=x) hB (by simpa using hS) sB (by simp at hl3;omega)
   refine⟨M,by simpa using h1,fun n hn=>?_⟩
   obtain⟨n,rfl⟩:∃m,n=m+1:=⟨n - 1,by omega⟩
   exact h2 n
  by_cases c2:B.length=1
  ·
   obtain⟨y,rfl⟩:=List.length_eq_one_iff.1 c2
   obtain⟨M,h1,h2⟩:=merge_last hw (P:=P) (A:=A) (Q:=Q) (y:=y) (by omega) hS sA (by simp at hl3;omega)
   refine⟨M,h1,fun n hn=>?_⟩
   obtain⟨n,rfl⟩:∃m,n=m+1:=⟨n - 1,by omega⟩
   exact h2 n
  obtain⟨a,ha⟩:∃a,a=P.length:=⟨_,rfl⟩
  obtain⟨m,hm⟩:∃m,m=P.length+A.length:=⟨_,rfl⟩
  obtain⟨b,hb⟩:∃b,b=P.length+A.length+B.length:=⟨_,rfl⟩
  obtain⟨mid,hmid⟩:∃mid,mid=(a+b) / 2:=⟨_,rfl⟩
  have hgA:∀c,a≤c→(hc:c<m)→gx (P++(A++(B++Q))) (c:Int)=A[c - a]'(by omega)∧inR (P++(A++(B++Q))) (c:Int):=fun c c1 c2=>⟨zek (by omega) (by omega),zes (i:=c - a) (by omega) (by omega)⟩
  have hgB:∀c,m≤c→(hc:c<b)→gx (P++(A++(B++Q))) (c:Int)=B[c - m]'(by omega)∧inR (P++(A++(B++Q))) (c:Int):=fun c c1 c2=>by
   have hd:P++(A++(B++Q))=(P++A)++(B++Q):=by simp
   rw[hd]
   exact⟨zek (by omega) (by simp;omega),zes (i:=c - m) (by omega) (by simp;omega)⟩
  obtain⟨lo,hlo⟩:∃lo,lo=if mid<m then mid+m - b else a:=⟨_,rfl⟩
  obtain⟨hi,hhi⟩:∃hi,hi=if mid<m then mid else m:=⟨_,rfl⟩
  have hlh:a≤lo∧lo≤hi∧hi≤m∧hi≤mid∧(mid<m→lo=mid+m - b∧hi=mid)∧(m≤mid→lo=a∧hi=m):=by
   by_cases c:mid<m
   ·
    rw[if_pos c]at hlo hhi;omega
   ·
    rw[if_neg c]at hlo hhi;omega
  have hpl:∀c,lo≤c→c<hi→a≤c∧c<m∧m≤mid+m - 1 - c∧mid+m - 1 - c<b:=fun c h1 h2=>by
   by_cases cm:mid<m
   ·
    have:=hlh.2.2.2.2.1 cm;omega
   ·
    have:=hlh.2.2.2.2.2 (by omega);omega
  obtain⟨s,s1,s2,s3,s4,s5⟩:=zgg (body:=zds (P++(A++(B++Q)),(P.length:Int),((P.length+A.length:Nat):Int),((P.length+A.length+B.length:Nat):Int),f) ((mid+m:Nat):Int)) (fun c=>if hh:lo≤c∧c<hi then !lt (B[mid+m - 1 - c - m]'(by have:=hpl c hh.1 hh.2;omega)) (A[c - a]'(by have:=hpl c hh.1 hh.2;omega))else false) (lo:=lo) (hi:=hi) hlh.2.1
   (fun i j i1 i2 i3=>by
    unfold zds
    have e1:decide ((i:Int)<(j:Int))=true:=by rw[decide_eq_true_eq];omega
    simp only[e1,cond_true]
    rw[zel (by omega)]
    simp only[zw]
    obtain⟨q1,q2,q3,q4⟩:=hpl ((i+j) / 2) (by omega) (by omega)
    rw[Wk (n:=((mid+m:Nat):Int) - 1) (by omega) (by omega),Wk (n:=((mid+m:Nat):Int) - 1 - (((i+j) / 2:Nat):Int)) (by omega) (by omega),Wk (n:=(((i+j) / 2:Nat):Int)+1) (by omega) (by omega)]
    have ec:((mid+m:Nat):Int) - 1 - (((i+j) / 2:Nat):Int)=((mid+m - 1 - (i+j) / 2:Nat):Int):=by omega
    obtain⟨g1,r1⟩:=hgA ((i+j) / 2) q1 q2
    obtain⟨g2,r2⟩:=hgB (mid+m - 1 - (i+j) / 2) q3 q4
    obtain⟨cc,hc,hcl⟩:=hw.cmp (B[mid+m - 1 - (i+j) / 2 - m]'(by omega)) (A[(i+j) / 2 - a]'(by omega)) (hSB _ (List.getElem_mem _)) (hSA _ (List.getElem_mem _))
    rw[ec,zl r2,zl r1,g1,g2,hc]
    simp only[yZ,hcl]
    rw[dif_pos ⟨by omega,by omega⟩]
    cases lt (B[mid+m - 1 - (i+j) / 2 - m]'(by omega)) (A[(i+j) / 2 - a]'(by omega))<;>simp)
   (fun i i1 i2=>by
    unfold zds
    have e1:decide ((i:Int)<(i:Int))=false:=by simp
    simp only[e1,cond_false])
   (fun h k h1 h2 h3 hp=>by
    rw[dif_pos ⟨by omega,h3⟩]at hp
    rw[dif_pos ⟨h1,by omega⟩]
    obtain⟨q1,q2,q3,q4⟩:=hpl h h1 (by omega)
    obtain⟨w1,w2,w3,w4⟩:=hpl k (by omega) h3
    simp only[Bool.not_eq_true']at hp⊢
    have t1:=srt_get hw sB hSB (i:=mid+m - 1 - k - m) (j:=mid+m - 1 - h - m) (by omega) (by omega)
    have t2:=srt_get hw sA hSA (i:=h - a) (j:=k - a) (by omega) (by omega)
    have t3:=hw.ntr _ _ _ (hSB _ (List.getElem_mem (show mid+m - 1 - h - m<B.length by omega))) (hSB _ (List.getElem_mem (show mid+m - 1 - k - m<B.length by omega))) (hSA _ (List.getElem_mem (show k - a<A.length by omega))) t1 hp
    exact hw.ntr _ _ _ (hSB _ (List.getElem_mem (show mid+m - 1 - h - m<B.length by omega))) (hSA _ (List.getElem_mem (show k - a<A.length by omega))) (hSA _ (List.getElem_mem (show h - a<A.length by omega))) t3 t2)
  obtain⟨A1,A2,hAA,hA1⟩:=cut (A:=A) (n:=s - a) (by omega)
  obtain⟨B1,B2,hBB,hB1⟩:=cut (A:=B) (n:=mid - s) (by
   by_cases cm:mid<m
   ·
    have:=hlh.2.2.2.2.1 cm;omega
   ·
    have:=hlh.2.2.2.2.2 (by omega);omega)
  have hlA:A.length=A1.length+A2.length:=by rw[hAA,List.length_append]
  have hlB:B.length=B1.length+B2.length:=by rw[hBB,List.length_append]
  have gA1:∀i,(hi:i<A1.length)→A1[i]=A[i]'(by omega):=fun i hi=>by simp only[hAA];rw[List.getElem_append_left hi]
  have gA2:∀i,(hi:i<A2.length)→A2[i]=A[A1.length+i]'(by omega):=fun i hi=>by simp only[hAA];rw[List.getElem_append_right (by omega)];congr 1;omega
  have gB1:∀i,(hi:i<B1.length)→B1[i]=B[i]'(by omega):=fun i hi=>by simp only[hBB];rw[List.getElem_append_left hi]
  have gB2:∀i,(hi:i<B2.length)→B2[i]=B[B1.length+i]'(by omega):=fun i hi=>by simp only[hBB];rw[List.getElem_append_right (by omega)];congr 1;omega
  have hI:∀x∈A1,∀y∈B2,lt y x=false:=fun x hx y hy=>by
   obtain⟨i,hi1,rfl⟩:=List.mem_iff_getElem.1 hx
   obtain⟨j,hj1,rfl⟩:=List.mem_iff_getElem.1 hy
   by_cases cs:lo<s
   ·
    have h3:=s3 (s - 1) (by omega) (by omega)
    rw[dif_pos ⟨by omega,by omega⟩]at h3
    simp only[Bool.not_eq_true']at h3
    obtain⟨w1,w2,w3,w4⟩:=hpl (s - 1) (by omega) (by omega)
    have t1:=srt_get hw sB hSB (i:=mid+m - 1 - (s - 1) - m) (j:=B1.length+j) (by omega) (by omega)
    have t2:=srt_get hw sA hSA (i:=i) (j:=s - 1 - a) (by omega) (by omega)
    rw[gA1 i hi1,gB2 j hj1]
    have t3:=hw.ntr _ _ _ (hSB _ (List.getElem_mem (show B1.length+j<B.length by omega))) (hSB _ (List.getElem_mem (show mid+m - 1 - (s - 1) - m<B.length by omega))) (hSA _ (List.getElem_mem (show s - 1 - a<A.length by omega))) t1 h3
    exact hw.ntr _ _ _ (hSB _ (List.getElem_mem (show B1.length+j<B.length by omega))) (hSA _ (List.getElem_mem (show s - 1 - a<A.length by omega))) (hSA _ (List.getElem_mem (show i<A.length by omega))) t3 t2
   ·
    -- nothing of A is ahead, or nothing of B behind
    exfalso
    by_cases cm:mid<m
    ·
     have:=hlh.2.2.2.2.1 cm;omega
    ·
     have:=hlh.2.2.2.2.2 (by omega);omega
  have hII:∀y∈B1,∀x∈A2,lt y x=true:=fun y hy x hx=>by
   obtain⟨i,hi1,rfl⟩:=List.mem_iff_getElem.1 hx
   obtain⟨j,hj1,rfl⟩:=List.mem_iff_getElem.1 hy
   by_cases cs:s<hi
   ·
    have h4:=s4 s (Nat.le_refl _) cs
    rw[dif_pos ⟨by omega,cs⟩]at h4
    obtain⟨w1,w2,w3,w4⟩:=hpl s (by omega) cs
    have h4:lt (B[mid+m - 1 - s - m]'(by omega)) (A[s - a]'(by omega))=true:=by simpa using h4
    have t1:=srt_get hw sB hSB (i:=j) (j:=mid+m - 1 - s - m) (by omega) (by omega)
    have t2:=srt_get hw sA hSA (i:=s - a) (j:=A1.length+i) (by omega) (by omega)
    rw[gA2 i hi1,gB1 j hj1]
    have t3:=hw.tr (hSB _ (List.getElem_mem (show mid+m - 1 - s - m<B.length by omega))) (hSA _ (List.getElem_mem (show s - a<A.length by omega))) (hSA _ (List.getElem_mem (show A1.length+i<A.length by omega))) h4 t2
    cases hh:lt (B[j]'(by omega)) (A[A1.length+i]'(by omega))with
    | true=>rfl
    | false=>
     have:=hw.ntr _ _ _ (hSB _ (List.getElem_mem (show mid+m - 1 - s - m<B.length by omega))) (hSB _ (List.getElem_mem (show j<B.length by omega))) (hSA _ (List.getElem_mem (show A1.length+i<A.length by omega))) t1 hh
     rw[t3]at this;cases this
   ·
    exfalso
    by_cases cm:mid<m
    ·
     have:=hlh.2.2.2.2.1 cm;omega
    ·
     have:=hlh.2.2.2.2.2 (by omega);omega
  have hSS:∀y∈(A1++A2)++(B1++B2),S y:=by rw[←hAA,←hBB];exact hS
  have sA':srt lt (A1++A2):=by rw[←hAA];exact sA
  have sB':srt lt (B1++B2):=by rw[←hBB];exact sB
  have half1:∃M1,Sd lt (A1++B1) M1∧∀(n:Nat),k≤n→(bif(decide ((a:Int)<(s:Int)))&&(decide ((s:Int)<(mid:Int)))then(Option.bind (qp jj n (P++(A1++(B1++(A2++(B2++Q)))),(a:Int),(s:Int),(mid:Int),f)) fun r5=>some r5)else some (P++(A1++(B1++(A2++(B2++Q))))))=some (P++(M1++(A2++(B2++Q)))):=by
   by_cases c:A1≠[]∧B1≠[]
   ·
    have x1:=List.length_pos_iff.2 c.1
    have x2:=List.length_pos_iff.2 c.2
    obtain⟨M1,h1,h2⟩:=sym_merge hw k P A1 B1 (A2++(B2++Q)) (by omega) c.1 c.2 (fun z hz=>hSS z (by rcases List.mem_append.1 hz with h | h<;>simp[h])) (zdt sA') (zdt sB') (by simp at hlen⊢;omega)
    refine⟨M1,h1,fun n hn=>?_⟩
    have e1:((decide ((a:Int)<(s:Int)))&&(decide ((s:Int)<(mid:Int))))=true:=by simp;omega
    rw[e1]
    simp only[cond_true]
    have i1:(a:Int)=(P.length:Int):=by omega
    have i2:(s:Int)=((P.length+A1.length:Nat):Int):=by omega
    have i3:(mid:Int)=((P.length+A1.length+B1.length:Nat):Int):=by omega
    rw[i1,i2,i3,h2 n hn];rfl
   ·
    have c:A1=[]∨B1=[]:=by
     by_cases c1:A1=[]
     ·
      exact .inl c1
     ·
      by_cases c2:B1=[]
      ·
       exact .inr c2
      ·
       exact absurd ⟨c1,c2⟩ c
    refine⟨A1++B1,⟨List.Perm.refl _,?_,fun _ h=>h⟩,fun n hn=>?_⟩
    ·
     rcases c with c | c
     ·
      rw[c,List.nil_append];exact zdt sB'
     ·
      rw[c,List.append_nil];exact zdt sA'
    ·
     have e1:((decide ((a:Int)<(s:Int)))&&(decide ((s:Int)<(mid:Int))))=false:=by
      rcases c with c | c
      ·
       have:A1.length=0:=by rw[c];rfl
       simp;omega
      ·
       have:B1.length=0:=by rw[c];rfl
       simp;omega
     rw[e1];simp
  obtain⟨M1,hM1,hm1⟩:=half1
  have hlM1:=hM1.len
  rw[List.length_append]at hlM1
  have half2:∃M2,Sd lt (A2++B2) M2∧∀(n:Nat),k≤n→(bif(decide ((mid:Int)<((mid+m - s:Nat):Int)))&&(decide (((mid+m - s:Nat):Int)<(b:Int)))then(Option.bind (qp jj n (P++(M1++(A2++(B2++Q))),(mid:Int),((mid+m - s:Nat):Int),(b:Int),f)) fun r6=>some r6)else some (P++(M1++(A2++(B2++Q)))))=some (P++(M1++(M2++Q))):=by
   by_cases c:A2≠[]∧B2≠[]
   ·
    have x1:=List.length_pos_iff.2 c.1
    have x2:=List.length_pos_iff.2 c.2
    obtain⟨M2,h1,h2⟩:=sym_merge hw k (P++M1) A2 B2 Q (by omega) c.1 c.2 (fun z hz=>hSS z (by rcases List.mem_append.1 hz with h | h<;>simp[h])) (zfT sA') (zfT sB') (by simp at hlen⊢;omega)
    refine⟨M2,h1,fun n hn=>?_⟩
    have e1:((decide ((mid:Int)<((mid+m - s:Nat):Int)))&&(decide (((mid+m - s:Nat):Int)<(b:Int))))=true:=by simp;omega
    rw[e1]
    simp only[cond_true]
    have i1:(mid:Int)=((P++M1).length:Int):=by simp;omega
    have i2:((mid+m - s:Nat):Int)=(((P++M1).length+A2.length:Nat):Int):=by simp;omega
    have i3:(b:Int)=(((P++M1).length+A2.length+B2.length:Nat):Int):=by simp;omega
    have hd:∀R:List zf,P++(M1++R)=(P++M1)++R:=fun R=>by simp
    rw[i1,i2,i3,hd,h2 n hn];simp
   ·
    have c:A2=[]∨B2=[]:=by
     by_cases c1:A2=[]
     ·
      exact .inl c1
     ·
      by_cases c2:B2=[]
      ·
       exact .inr c2
      ·
       exact absurd ⟨c1,c2⟩ c
    refine⟨A2++B2,⟨List.Perm.refl _,?_,fun _ h=>h⟩,fun n hn=>?_⟩
    ·
     rcases c with c | c
     ·
      rw[c,List.nil_append];exact zfT sB'
     ·
      rw[c,List.append_nil];exact zfT sA'
    ·
     have e1:((decide ((mid:Int)<((mid+m - s:Nat):Int)))&&(decide (((mid+m - s:Nat):Int)<(b:Int))))=false:=by
      rcases c with c | c
      ·
       have:A2.length=0:=by rw[c];rfl
       simp;omega
      ·
       have:B2.length=0:=by rw[c];rfl
       simp;omega
     rw[e1];simp
  obtain⟨M2,hM2,hm2⟩:=half2
  refine⟨M1++M2,by rw[hAA,hBB];exact Sd.halves hw hSS sA' sB' hI hII hM1 hM2,fun n hn=>?_⟩
  obtain⟨n,rfl⟩:∃n',n=n'+1:=⟨n - 1,by omega⟩
  have hm1:=hm1 n (by omega)
  have hm2:=hm2 n (by omega)
  show jj (qp jj n) _=_
  generalize qp jj n=slf at hm1 hm2⊢
  unfold jj
  have w1:decide (W (((P.length+A.length:Nat):Int) - (P.length:Int))=1)=false:=by rw[Wk (by omega) (by omega),decide_eq_false_iff_not];omega
  have w2:decide (W (((P.length+A.length+B.length:Nat):Int) - ((P.length+A.length:Nat):Int))=1)=false:=by rw[Wk (by omega) (by omega),decide_eq_false_iff_not];omega
  simp only[w1,w2,cond_false,yG]
  rw[zel (by omega)]
  have i1:(P.length:Int)=(a:Int):=by omega
  have i2:((P.length+A.length:Nat):Int)=(m:Int):=by omega
  have i3:((P.length+A.length+B.length:Nat):Int)=(b:Int):=by omega
  have i4:(((P.length+(P.length+A.length+B.length)) / 2:Nat):Int)=(mid:Int):=by omega
  rw[i1,i2,i3]at s5
  simp only[zw,i1,i2,i3,i4]
  rw[Wk (n:=(mid:Int)+(m:Int)) (by omega) (by omega)]
  have hnn:(mid:Int)+(m:Int)=((mid+m:Nat):Int):=by omega
  rw[hnn]
  have hsr:(bif decide ((mid:Int)<(m:Int))then some (W (((mid+m:Nat):Int) - (b:Int)),(mid:Int))else some ((a:Int),(m:Int)))=some ((lo:Int),(hi:Int)):=by
   by_cases cm:mid<m
   ·
    have e:decide ((mid:Int)<(m:Int))=true:=by simp;omega
    have:=hlh.2.2.2.2.1 cm
    rw[e,Wk (by omega) (by omega)]
    simp only[cond_true]
    congr 2<;>omega
   ·
    have e:decide ((mid:Int)<(m:Int))=false:=by simp;omega
    have:=hlh.2.2.2.2.2 (by omega)
    rw[e]
    simp only[cond_false]
    congr 2<;>omega
  rw[hsr]
  simp only[yZ]
  rw[s5]
  simp only[yZ]
  rw[Wk (n:=((mid+m:Nat):Int) - (s:Int)) (by omega) (by omega)]
  have hend:((mid+m:Nat):Int) - (s:Int)=((mid+m - s:Nat):Int):=by omega
  rw[hend]
  have hrot:(bif(decide ((s:Int)<(m:Int)))&&(decide ((m:Int)<((mid+m - s:Nat):Int)))then(Option.bind (zbA (P++(A++(B++Q))) (s:Int) (m:Int) ((mid+m - s:Nat):Int) f) fun r4=>some r4)else some (P++(A++(B++Q))))=some (P++(A1++(B1++(A2++(B2++Q))))):=by
   by_cases c:A2≠[]∧B1≠[]
   ·
    have x1:=List.length_pos_iff.2 c.1
    have x2:=List.length_pos_iff.2 c.2
    have e1:((decide ((s:Int)<(m:Int)))&&(decide ((m:Int)<((mid+m - s:Nat):Int))))=true:=by simp;omega
    rw[e1]
    simp only[cond_true]
    have hd:P++(A++(B++Q))=(P++A1)++(A2++(B1++(B2++Q))):=by rw[hAA,hBB];simp
    have hr:=rotate_eq (f:=f) (P:=P++A1) (X:=A2) (Y:=B1) (Q:=B2++Q) c.1 c.2 (by rw[←hd];exact hlen)
    have j1:((P++A1).length:Int)=(s:Int):=by simp;omega
    have j2:(((P++A1).length+A2.length:Nat):Int)=(m:Int):=by simp;omega
    have j3:(((P++A1).length+A2.length+B1.length:Nat):Int)=((mid+m - s:Nat):Int):=by simp;omega
    rw[j1,j2,j3]at hr
    rw[hd,hr];simp
   ·
    have c:A2=[]∨B1=[]:=by
     by_cases c1:A2=[]
     ·
      exact .inl c1
     ·
      by_cases c2:B1=[]
      ·
       exact .inr c2
      ·
       exact absurd ⟨c1,c2⟩ c
    have e1:((decide ((s:Int)<(m:Int)))&&(decide ((m:Int)<((mid+m - s:Nat):Int))))=false:=by
     rcases c with c | c
     ·
      have:A2.length=0:=by rw[c];rfl
      simp;omega
     ·
      have:B1.length=0:=by rw[c];rfl
      simp;omega
    rw[e1,hAA,hBB]
    rcases c with c | c<;>rw[c]<;>simp
  rw[hrot]
  simp only[yZ]
  rw[hm1]
  simp only[yZ]
  rw[hm2]
  simp
end
end
section
section
variable {S:zf→Prop} {lt:zf→zf→Bool} {f:zf→zf→Option Int}
theorem merge_call (hw:Swo S lt f){P A B Q:List zf}(hA:A≠[])(hB:B≠[])(hS:∀z∈A++B,S z)(sA:srt lt A)(sB:srt lt B)(hlen:(P++(A++(B++Q))).length≤1073741824):
  ∃M,Sd lt (A++B) M∧zfR (P++(A++(B++Q))) (P.length:Int) ((P.length+A.length:Nat):Int) ((P.length+A.length+B.length:Nat):Int) f=some (P++(M++Q)):=by
 obtain⟨M,h1,h2⟩:=sym_merge hw (A.length+B.length) P A B Q (Nat.le_refl _) hA hB hS sA sB hlen
 exact⟨M,h1,zgP _ h2⟩
theorem blocks_eq (hw:Swo S lt f){D:List zf}(hS:∀x∈D,S x)(hlen:D.length≤1000000000):
  ∃(P R:List zf),loop (zdm (D.length:Int) f) (0,20,D)=some ((P.length:Int),P++R)∧BlF lt 20 P∧R.length≤20∧Pk lt D (P++R):=by
 obtain⟨e,h1,P,R,rfl,h3,h4,h5⟩:=Yp (body:=zdm (D.length:Int) f) (s0:=(0,20,D)) (fun s=>∃P R:List zf,s=((P.length:Int),(P.length:Int)+20,P++R)∧BlF lt 20 P∧Pk lt D (P++R)) (fun s=>((D.length:Int)+20 - s.2.1).toNat)
  (fun e=>∃P R:List zf,e=((P.length:Int),P++R)∧BlF lt 20 P∧R.length≤20∧Pk lt D (P++R)) ⟨[],D,by simp,.nil,Pk.refl D⟩ (fun s hI=>by
  obtain⟨P,R,rfl,hP,hPk⟩:=hI
  have hl:=hPk.len
  rw[List.length_append]at hl
  unfold zdm
  simp only
  by_cases c:20≤R.length
  ·
   left
   have e1:decide ((P.length:Int)+20≤(D.length:Int))=true:=by rw[decide_eq_true_eq];omega
   obtain⟨A,R',rfl,hA⟩:=cut c
   obtain⟨M,m1,m2⟩:=ins_sort hw (P:=P) (M:=A) (Q:=R') (fun x hx=>hPk.all hS x (by simp[hx])) (by omega)
   have i2:((P.length+A.length:Nat):Int)=(P.length:Int)+20:=by omega
   rw[i2]at m2
   simp only[e1,cond_true]
   rw[m2]
   simp only[yZ,zw]
   rw[Wk (by omega) (by omega)]
   have hml:=m1.len
   refine⟨_,rfl,⟨P++M,R',Prod.ext (by simp;omega) (Prod.ext (by simp;omega) (by simp)),.snoc hP (by omega) m1.srtd,?_⟩,by simp only;omega⟩
   have:=hPk.trans (m1.pk.mid P R')
   simpa using this
  ·
   right
   have e1:decide ((P.length:Int)+20≤(D.length:Int))=false:=by rw[decide_eq_false_iff_not];omega
   simp only[e1,cond_false]
   exact⟨_,rfl,P,R,rfl,hP,by omega,hPk⟩)
 exact⟨P,R,h1,h3,h4,h5⟩
theorem pass_eq (hw:Swo S lt f){D:List zf}{b:Nat}(hb:1≤b)(hS:∀x∈D,S x)(hlen:D.length≤1000000000)(hbn:b<D.length)(hD:Bl lt b D){x7:Int×List zf}(hx7:x7.1=(b:Int)):
  ∃(P R:List zf),loop (zdn (D.length:Int) x7 f) (0,2*(b:Int),D)=some ((P.length:Int),P++R)∧BlF lt (2*b) P∧R.length<2*b∧Bl lt b R∧Pk lt D (P++R):=by
 obtain⟨e,h1,P,R,rfl,h3,h4,h5,h6⟩:=Yp (body:=zdn (D.length:Int) x7 f) (s0:=(0,2*(b:Int),D)) (fun s=>∃P R:List zf,s=((P.length:Int),(P.length:Int)+2*(b:Int),P++R)∧BlF lt (2*b) P∧Bl lt b R∧Pk lt D (P++R)) (fun s=>((D.length:Int)+2*(b:Int) - s.2.1).toNat)
  (fun e=>∃P R:List zf,e=((P.length:Int),P++R)∧BlF lt (2*b) P∧R.length<2*b∧Bl lt b R∧Pk lt D (P++R)) ⟨[],D,by simp,.nil,hD,Pk.refl D⟩ (fun s hI=>by
  obtain⟨P,R,rfl,hP,hR,hPk⟩:=hI
  have hl:=hPk.len
  rw[List.length_append]at hl
  unfold zdn
  simp only[hx7]
  by_cases c:2*b≤R.length
  ·
   left
   have e1:decide ((P.length:Int)+2*(b:Int)≤(D.length:Int))=true:=by rw[decide_eq_true_eq];omega
   obtain⟨A,R1,rfl,hA,sA,hR1⟩:=hR.first (by omega)
   rw[List.length_append]at c hl
   obtain⟨B,R',rfl,hB,sB,hR'⟩:=hR1.first (by omega)
   rw[List.length_append]at c hl
   obtain⟨M,m1,m2⟩:=merge_call hw (P:=P) (A:=A) (B:=B) (Q:=R') (fun e=>by have:=congrArg List.length e;rw[List.length_nil]at this;omega) (fun e=>by have:=congrArg List.length e;rw[List.length_nil]at this;omega) (fun x hx=>hPk.all hS x (by rcases List.mem_append.1 hx with h | h<;>simp[h])) sA sB (by simp;omega)
   have i2:((P.length+A.length:Nat):Int)=(P.length:Int)+(b:Int):=by omega
   have i3:((P.length+A.length+B.length:Nat):Int)=(P.length:Int)+2*(b:Int):=by omega
   rw[i2,i3]at m2
   simp only[e1,cond_true]
   rw[Wk (n:=(P.length:Int)+(b:Int)) (by omega) (by omega),m2]
   simp only[yZ,zw]
   rw[Wk (n:=2*(b:Int)) (by omega) (by omega),Wk (by omega) (by omega)]
   have hml:=m1.len
   rw[List.length_append]at hml
   refine⟨_,rfl,⟨P++M,R',Prod.ext (by simp;omega) (Prod.ext (by simp;omega) (by simp)),.snoc hP (by omega) m1.srtd,hR',?_⟩,by simp only;omega⟩
   have:=hPk.trans (by have:=m1.pk.mid P R';simpa using this)
   simpa using this
  ·
   right
   have e1:decide ((P.length:Int)+2*(b:Int)≤(D.length:Int))=false:=by rw[decide_eq_false_iff_not];omega
   simp only[e1,cond_false]
   exact⟨_,rfl,P,R,rfl,hP,by omega,hR,hPk⟩)
 exact⟨P,R,h1,h3,h4,h5,h6⟩
theorem stable_eq (hw:Swo S lt f){D:List zf}(hS:∀x∈D,S x)(hlen:D.length≤100000000):∃M,Sd lt D M∧zdk D f=some M:=by
 unfold zdk zfO
 obtain⟨P,R,h1,h2,h3,h4⟩:=blocks_eq hw hS (by omega)
 have hl:=h4.len
 rw[List.length_append]at hl
 rw[h1]
 simp only[yZ]
 obtain⟨R',r1,r2⟩:=ins_sort hw (P:=P) (M:=R) (Q:=[]) (fun x hx=>h4.all hS x (by simp[hx])) (by omega)
 have i1:((P.length+R.length:Nat):Int)=(D.length:Int):=by omega
 rw[i1]at r2
 simp only[List.append_nil]at r2
 rw[r2]
 simp only[yZ]
 have hB:Bl lt 20 (P++R'):=h2.bl (.last (by rw[r1.len];exact h3) r1.srtd)
 have hPk:Pk lt D (P++R'):=h4.trans (by have:=r1.pk.mid P [];simpa using this)
 obtain⟨e,g1,g2⟩:=Yp (body:=zfP (D.length:Int) f) (s0:=(20,P++R')) (fun s=>∃(b:Nat) (E:List zf),s=((b:Int),E)∧1≤b∧b≤400000000∧Bl lt b E∧Pk lt D E) (fun s=>(2*(D.length:Int) - s.1).toNat) (fun e=>Sd lt D e)
  ⟨20,P++R',rfl,by omega,by omega,hB,hPk⟩ (fun s hI=>by
  obtain⟨b,E,rfl,b1,b2,hE,hk⟩:=hI
  have hlE:=hk.len
  unfold zfP
  simp only
  by_cases c:b<D.length
  ·
   left
   have e1:decide ((b:Int)<(D.length:Int))=true:=by rw[decide_eq_true_eq];omega
   simp only[e1,cond_true,zw]
   rw[Wk (n:=2*(b:Int)) (by omega) (by omega)]
   obtain⟨P2,R2,q1,q2,q3,q4,q5⟩:=pass_eq hw (x7:=((b:Int),E)) b1 (hk.all hS) (by omega) (by omega) hE rfl
   rw[hlE]at q1
   have hl2:=q5.len
   rw[List.length_append]at hl2
   rw[q1]
   simp only[yZ]
   rw[Wk (n:=(P2.length:Int)+(b:Int)) (by omega) (by omega),Wk (n:=(b:Int)*2) (by omega) (by omega)]
   have hb2:(b:Int)*2=((2*b:Nat):Int):=by omega
   by_cases c2:b<R2.length
   ·
    have e2:decide ((P2.length:Int)+(b:Int)<(D.length:Int))=true:=by rw[decide_eq_true_eq];omega
    simp only[e2,cond_true]
    obtain⟨A,B,rfl,hA,sA,hBl⟩:=q4.first (by omega)
    rw[List.length_append]at c2 q3 hl2
    have sB:=hBl.all (by omega)
    obtain⟨M,m1,m2⟩:=merge_call hw (P:=P2) (A:=A) (B:=B) (Q:=[]) (fun e=>by have:=congrArg List.length e;rw[List.length_nil]at this;omega) (fun e=>by have:=congrArg List.length e;rw[List.length_nil]at this;omega) (fun x hx=>q5.all (hk.all hS) x (List.mem_append_right _ hx)) sA sB (by simp;omega)
    have i2:((P2.length+A.length:Nat):Int)=(P2.length:Int)+(b:Int):=by omega
    have i3:((P2.length+A.length+B.length:Nat):Int)=(D.length:Int):=by omega
    rw[i2,i3]at m2
    simp only[List.append_nil]at m2
    rw[m2]
    simp only[yZ]
    have hml:=m1.len
    rw[List.length_append]at hml
    refine⟨_,rfl,⟨2*b,P2++M,Prod.ext hb2 rfl,by omega,by omega,q2.bl (.last (by omega) m1.srtd),?_⟩,by simp only;omega⟩
    exact(hk.trans q5).trans (by have:=m1.pk.mid P2 [];simpa using this)
   ·
    have e2:decide ((P2.length:Int)+(b:Int)<(D.length:Int))=false:=by rw[decide_eq_false_iff_not];omega
    simp only[e2,cond_false,yZ]
    refine⟨_,rfl,⟨2*b,P2++R2,Prod.ext hb2 rfl,by omega,by omega,q2.bl (.last (by omega) (q4.all (by omega))),hk.trans q5⟩,by simp only;omega⟩
  ·
   right
   have e1:decide ((b:Int)<(D.length:Int))=false:=by rw[decide_eq_false_iff_not];omega
   simp only[e1,cond_false]
   exact⟨_,rfl,hk.sd (hE.all (by omega))⟩)
 rw[g1]
 exact⟨e,g2,rfl⟩
end
end
end Go.DB.Stbelement
namespace Go.DB
open Go Go.RowKit
def zgm (a b:DOp):Int:=zoE a.Stamp.Site.b a.Stamp.No b.Stamp.Site.b b.Stamp.No
theorem ztv {a b:Str}(h:a.b=b.b):a=b:=by cases a;cases b;simp at h;rw[h]
theorem znD (a b:Int):Ya a b=some (zlg a b):=by
 unfold Ya Jx zlg
 simp only[decide_true,Bool.not_true,yZ,cond_false]
 by_cases c:a<b
 ·
  rw[decide_eq_true c,cond_true,if_pos c]
 ·
  rw[decide_eq_false c,cond_false,if_neg c]
  by_cases d:b<a
  ·
   rw[decide_eq_true d,cond_true,if_pos d]
  ·
   rw[decide_eq_false d,cond_false,if_neg d]
theorem znZ (x y:Int):zbL [x,y]=some (if x≠0 then x else y):=by
 unfold zbL
 rw[zhD (by simp)]
 have e0:Jw [x,y] 0 ()=some (if x=0 then .nx ()else .ab (.ab x)):=by
  unfold Jw
  rw[zl ⟨by omega,by simp⟩,zw]
  show(bif !decide (x=0)then _ else _)=_
  by_cases h:x=0
  ·
   rw[decide_eq_true h,if_pos h];rfl
  ·
   rw[decide_eq_false h,if_neg h];rfl
 have e1:Jw [x,y] 1 ()=some (if y=0 then .nx ()else .ab (.ab y)):=by
  unfold Jw
  rw[zl ⟨by omega,by simp⟩,zw]
  show(bif !decide (y=0)then _ else _)=_
  by_cases h:y=0
  ·
   rw[decide_eq_true h,if_pos h];rfl
  ·
   rw[decide_eq_false h,if_neg h];rfl
 show ye (vT (Jw [x,y]) (fun s=>Res.nx s) 2 0 ()) _=_
 by_cases h:x=0
 ·
  by_cases h':y=0
  ·
   rw[if_pos h]at e0
   rw[if_pos h']at e1
   simp only[vT,e0,show(0+1:Int)=1 from rfl,e1,yG]
   simp[h,h']
  ·
   rw[h]at e0 e1⊢
   simp only[vT,e0,if_true,show(0+1:Int)=1 from rfl,e1,if_neg h',jG]
   simp
 ·
  simp only[vT,e0,if_neg h,jG]
  simp[h]
theorem zrT (a b:DOp):zbZ a b=some (zgm a b):=by
 unfold zbZ strings_Compare
 rw[Option.bind_some,znD,Option.bind_some,znZ]
 rfl
def zee (x:DOp):Bool:=((!decide (x.Of=0))&&!decide (x.Kind=3)) || ((!decide (x.Id=Str.nil))&&decide (x.Kind=3)) || (((!decide (x.Field=Str.nil)) || (!decide (x.Value=Str.nil)))&&!decide (x.Kind=1))
def zbK (x:DOp):Int:=
 if x.Kind<1∨3<x.Kind then 1 else if zee x=true then 2 else
 if x.Kind=3 then(if x.Of<1∨W (x.Stamp.No - 1)<x.Of then 10 else 0)else
 if(!zX x.Id || (decide (x.Kind=1)&&!zX x.Field))=true then 5 else if x.Kind=1 then yp x.Value else 0
theorem zoA (x:DOp):zbX x=some (zbK x):=by
 unfold zbX zbK
 by_cases h1:x.Kind<1∨3<x.Kind
 ·
  rw[if_pos h1]
  have:(decide (x.Kind<1) || decide (3<x.Kind))=true:=by simpa using h1
  rw[this];rfl
 ·
  rw[if_neg h1]
  have:(decide (x.Kind<1) || decide (3<x.Kind))=false:=by simpa using h1
  rw[this,cond_false]
  simp only[zw,zet,zdB]
  have hj:(Option.bind (α:=Bool) (bif(!decide (x.Of=0))&&(!decide (x.Kind=3))then some ((!decide (x.Of=0))&&(!decide (x.Kind=3)))else
    bif(!decide (x.Id=Str.nil))&&decide (x.Kind=3)then some ((!decide (x.Id=Str.nil))&&decide (x.Kind=3))else some (((!decide (x.Field=Str.nil)) || (!decide (x.Value=Str.nil)))&&!decide (x.Kind=1))) fun b=>(some b:Option Bool))=some (zee x):=by
   unfold zee
   cases(!decide (x.Of=0))&&(!decide (x.Kind=3))<;>cases(!decide (x.Id=Str.nil))&&decide (x.Kind=3)<;>rfl
  obtain⟨b,hb,hb2⟩:=Option.bind_eq_some_iff.1 hj
  rw[hb,Option.bind_some,Option.some.inj hb2]
  cases hf:zee x with
  | true=>rfl
  | false=>
   simp only[cond_false,Bool.false_eq_true,if_false]
   by_cases h3:x.Kind=3
   ·
    have h31:¬x.Kind=1:=by omega
    simp only[if_pos h3,decide_eq_true h3,decide_eq_false h31,Bool.not_true,zeg,Option.bind_some,Bool.false_and,cond_false,Bool.true_and,yG]
    by_cases ho:x.Of<1∨W (x.Stamp.No - 1)<x.Of
    ·
     have:(decide (x.Of<1) || decide (W (x.Stamp.No - 1)<x.Of))=true:=by simpa using ho
     rw[this,if_pos ho];rfl
    ·
     have:(decide (x.Of<1) || decide (W (x.Stamp.No - 1)<x.Of))=false:=by simpa using ho
     rw[this,if_neg ho];rfl
   ·
    simp only[if_neg h3,decide_eq_false h3,Bool.not_false,qy,Option.bind_some,Bool.true_and,Bool.false_and,cond_false]
    cases hn:zX x.Id with
    | false=>rfl
    | true=>
     simp only[Bool.not_true,cond_false,Bool.false_or]
     by_cases hk:x.Kind=1
     ·
      simp only[decide_eq_true hk,qy,Option.bind_some,Bool.true_and,if_pos hk,cond_true]
      cases hfn:zX x.Field with
      | false=>rfl
      | true=>
       simp only[Bool.not_true,cond_false,Bool.false_eq_true,if_false]
       by_cases ht:yp x.Value=0
       ·
        rw[ht];rfl
       ·
        rw[decide_eq_false ht];rfl
     ·
      simp only[decide_eq_false hk,zeg,Option.bind_some,Bool.false_and,if_neg hk,cond_false,Bool.false_eq_true,if_false,yG]
theorem zum:yp Str.nil=0:=zdu.2 ⟨by decide,by decide,rfl⟩
theorem zkp (e:Int):(if e=0 then 0 else e)=e:=by split<;>simp_all
def YB:DOp:=⟨(⟨(0:Int),Str.nil,(0:Int)⟩:Stamp),(0:Int),Str.nil,Str.nil,Str.nil,(0:Int)⟩
def Ju (l:List DOp)(i:Nat):DOp:=if 0<i∧(gx l ((i:Int) - 1)).Stamp.Site=(gx l (i:Int)).Stamp.Site then gx l ((i:Int) - 1)else YB
def JR (l:List DOp)(i:Nat):Prop:=0<i∧0≤zgm (gx l ((i:Int) - 1)) (gx l (i:Int))
instance (l:List DOp) (i:Nat):Decidable (JR l i):=by unfold JR;exact inferInstance
def jA (l:List DOp)(i:Nat):Int:=
 zH [if zX (gx l (i:Int)).Stamp.Site=false then 5 else 0,if JR l i then 7 else 0,
  if(gx l (i:Int)).Stamp.No≠W ((Ju l i).Stamp.No+1)∨(gx l (i:Int)).Stamp.Time<1∨1000000000<(gx l (i:Int)).Stamp.Time then 3 else 0,
  if(gx l (i:Int)).Stamp.Time≤(Ju l i).Stamp.Time then 7 else 0,zbK (gx l (i:Int))]
def zcz (l:List DOp):Int:=if 2000<l.length then 4 else zH ((List.range l.length).map (jA l))
theorem zib (l:List DOp):zax l=some (zcz l):=by
 unfold zax zcz
 by_cases hl:2000<l.length
 ·
  rw[if_pos hl,decide_eq_true (p:=(2000:Int)<(l.length:Int)) (by omega),cond_true]
 ·
  rw[if_neg hl,decide_eq_false (p:=(2000:Int)<(l.length:Int)) (by omega),cond_false]
  have:=vA (n:=l.length) (step:=zdM l) (fin:=fun s=>(Res.nx s:Res Unit Int)) (fun _=>()) (jA l) (fun e=>Res.ab e) (by omega) (fun i hi _=>by
   unfold zdM
   have hin:inR l (i:Int):=⟨by omega,by omega⟩
   have hin2:decide (0<(i:Int))=true→inR l (W ((i:Int) - 1)):=fun h=>by
    have:=of_decide_eq_true h
    rw[Wk (by omega) (by omega)];exact⟨by omega,by omega⟩
   rw[zl hin,zw,zw,zl hin2]
   have hb:(Option.bind (α:=DOp) (bif(decide (0<(i:Int)))&&(decide ((((gx l (W ((i:Int) - 1))).Stamp).Site)=(gx l (i:Int)).Stamp.Site))then(need (inR l (W ((i:Int) - 1))) <| bnd (gx l (W ((i:Int) - 1))) fun v3=>some v3)else some YB) fun b=>(some b:Option DOp))=some (Ju l i):=by
    unfold Ju
    by_cases h0:0<i
    ·
     rw[decide_eq_true (p:=0<(i:Int)) (by omega),Wk (by omega) (by omega),Bool.true_and]
     by_cases hs:(gx l ((i:Int) - 1)).Stamp.Site=(gx l (i:Int)).Stamp.Site
     ·
      rw[decide_eq_true hs,cond_true,if_pos ⟨h0,hs⟩,zl ⟨by omega,by omega⟩];rfl
     ·
      rw[decide_eq_false hs,cond_false,if_neg (fun e=>hs e.2)];rfl
    ·
     rw[decide_eq_false (p:=0<(i:Int)) (by omega),Bool.false_and,cond_false,if_neg (fun e=>h0 e.1)];rfl
   obtain⟨b,hb1,hb2⟩:=Option.bind_eq_some_iff.1 hb
   unfold YB at hb1
   rw[hb1,Option.bind_some,Option.some.inj hb2,zet,Option.bind_some]
   cases hn:zX (gx l (i:Int)).Stamp.Site with
   | false=>
    have hv:jA l i=5:=by unfold jA;rw[if_pos hn];rfl
    rw[hv];rfl
   | true=>
    simp only[Bool.not_true,cond_false]
    rw[zl hin2,zrT]
    have ho:(Option.bind (gd (decide (0<(i:Int))) (some (zgm (gx l (W ((i:Int) - 1))) (gx l (i:Int))))) fun r=>(some ((decide (0<(i:Int)))&&(decide (0≤r))):Option Bool))=some (decide (JR l i)):=by
     by_cases h0:0<i
     ·
      rw[decide_eq_true (p:=0<(i:Int)) (by omega),qy,Wk (by omega) (by omega),Option.bind_some]
      simp[JR,h0]
     ·
      rw[decide_eq_false (p:=0<(i:Int)) (by omega)]
      simp[JR,h0]
    obtain⟨r,hr1,hr2⟩:=Option.bind_eq_some_iff.1 ho
    rw[hr1,Option.bind_some,Option.some.inj hr2]
    have hn':¬zX (gx l (i:Int)).Stamp.Site=false:=by rw[hn];decide
    by_cases hc:JR l i
    ·
     have hv:jA l i=7:=by unfold jA;rw[if_neg hn',if_pos hc];rfl
     rw[decide_eq_true hc,cond_true,hv];rfl
    ·
     rw[decide_eq_false hc,cond_false,zw,zoA]
     simp only[zw]
     by_cases hno:(gx l (i:Int)).Stamp.No=W ((Ju l i).Stamp.No+1)
     ·
      rw[decide_eq_true hno,Bool.not_true,cond_false,Option.bind_some]
      by_cases ht:(gx l (i:Int)).Stamp.Time<1∨1000000000<(gx l (i:Int)).Stamp.Time
      ·
       have hb3:(decide ((gx l (i:Int)).Stamp.Time<1) || decide (1000000000<(gx l (i:Int)).Stamp.Time))=true:=by simpa using ht
       have hv:jA l i=3:=by unfold jA;rw[if_neg hn',if_neg hc,if_pos (Or.inr ht)];rfl
       rw[hb3,cond_true,hv];rfl
      ·
       have hb3:(decide ((gx l (i:Int)).Stamp.Time<1) || decide (1000000000<(gx l (i:Int)).Stamp.Time))=false:=by simpa using ht
       have hno':¬((gx l (i:Int)).Stamp.No≠W ((Ju l i).Stamp.No+1)∨(gx l (i:Int)).Stamp.Time<1∨1000000000<(gx l (i:Int)).Stamp.Time):=fun e=>Or.elim e (fun e=>e hno) ht
       rw[hb3,cond_false]
       by_cases hti:(gx l (i:Int)).Stamp.Time≤(Ju l i).Stamp.Time
       ·
        have hv:jA l i=7:=by unfold jA;rw[if_neg hn',if_neg hc,if_neg hno',if_pos hti];rfl
        rw[decide_eq_true hti,cond_true,hv];rfl
       ·
        have hv:jA l i=zbK (gx l (i:Int)):=by
         unfold jA;rw[if_neg hn',if_neg hc,if_neg hno',if_neg hti];simp only[vN,zgN,if_pos,zkp]
        rw[decide_eq_false hti,cond_false,Option.bind_some,hv]
        by_cases hbo:zbK (gx l (i:Int))=0
        ·
         rw[decide_eq_true hbo,if_pos hbo];rfl
        ·
         rw[decide_eq_false hbo,if_neg hbo];rfl
     ·
      have hv:jA l i=3:=by unfold jA;rw[if_neg hn',if_neg hc,if_pos (Or.inl hno)];rfl
      rw[decide_eq_false hno,Bool.not_false,cond_true,Option.bind_some,cond_true,hv];rfl)
  rw[this]
  by_cases c:zH ((List.range l.length).map (jA l))=0
  ·
   rw[if_pos c,c];rfl
  ·
   rw[if_neg c];rfl


theorem zjf:zcr=some true:=by
 unfold zcr
 rw[zib,Option.bind_some,zib]
 have h0:zcz []=0:=rfl
 have h5:zcz [YB]=5:=by
  unfold zcz
  rw[if_neg (by simp)]
  show zH [jA [YB] 0]=5
  have:jA [YB] 0=5:=by
   unfold jA
   have:zX (gx [YB] ((0:Nat):Int)).Stamp.Site=false:=by
    cases h:zX (gx [YB] ((0:Nat):Int)).Stamp.Site with
    | false=>rfl
    | true=>exact absurd rfl (zeJ h)
   rw[if_pos this];rfl
  rw[this];rfl
 rw[h0]
 unfold YB at h5
 rw[h5];rfl
theorem zgO (x:Int):∀l:List Int,zH (l++[x])=if zH l=0 then x else zH l
 | []=>by
  show zH [x]=if zH []=0 then x else _
  rw[vN,zgN,if_pos rfl]
  split
  ·
   rename_i h;exact h.symm
  ·
   rfl
 | e::l=>by
  rw[List.cons_append,vN,vN,zgO x l]
  by_cases h:e=0
  ·
   rw[if_pos h,if_pos h]
  ·
   rw[if_neg h,if_neg h,if_neg h]
def Qh (l:List zU)(i:Nat):Bool:=decide (0<(i:Int))&&(Op.bytesLess (gx l (i:Int)).Field.b ((gx l ((i:Int) - 1)).Field).b || (gx l (i:Int)).Field.b==((gx l ((i:Int) - 1)).Field).b)
def vk (l:List zU)(i:Nat):Int:=
 zH [if zX (gx l (i:Int)).Field=false then 5 else 0,if Qh l i=true then 7 else 0,yp (gx l (i:Int)).Value]
def YH (l:List zU):Int:=zH ((List.range l.length).map (vk l))
def vQ (l:List zv)(i:Nat):Bool:=decide (0<(i:Int))&&(Op.bytesLess (gx l (i:Int)).Id.b ((gx l ((i:Int) - 1)).Id).b || (gx l (i:Int)).Id.b==((gx l ((i:Int) - 1)).Id).b)
def jO (l:List zv)(i:Nat):List Int:=[if zX (gx l (i:Int)).Id=false then 5 else 0,if vQ l i=true then 7 else 0,if(gx l (i:Int)).Attrs.length=0 then 9 else 0,if 20<(gx l (i:Int)).Attrs.length then 4 else 0]
def Yz (l:List zv)(i:Nat):Int:=zH (jO l i++[YH (gx l (i:Int)).Attrs])
def Qq (l:List zv):Int:=if 2000<l.length then 4 else zH ((List.range l.length).map (Yz l))
theorem zoo (v:zv)(hl:v.Attrs.length≤20):zZ (v.Attrs.length:Int) (zbQ v) (fun s=>(Res.nx s:Res Unit (Res Unit Int))) ()=some (if YH v.Attrs=0 then Res.nx ()else Res.ab (Res.ab (YH v.Attrs))):=
 vA (n:=v.Attrs.length) (step:=zbQ v) (fin:=fun s=>(Res.nx s:Res Unit (Res Unit Int))) (fun _=>()) (vk v.Attrs) (fun e=>Res.ab (Res.ab e)) (by omega) (fun i hi _=>by
  have hin:inR v.Attrs (i:Int):=⟨by omega,by omega⟩
  unfold zbQ
  rw[zl hin,zw,zet,Option.bind_some]
  cases hn:zX (gx v.Attrs (i:Int)).Field with
  | false=>
   have hv:vk v.Attrs i=5:=by unfold vk;rw[if_pos hn];rfl
   rw[hv];rfl
  | true=>
   have hn':¬zX (gx v.Attrs (i:Int)).Field=false:=by rw[hn];decide
   rw[Bool.not_true,cond_false,zl (fun h=>by
    have:=of_decide_eq_true h
    rw[Wk (by omega) (by omega)];exact⟨by omega,by omega⟩),Wk (n:=(i:Int) - 1) (by omega) (by omega)]
   show(bif Qh v.Attrs i then _ else _)=_
   cases hlt:Qh v.Attrs i with
   | true=>
    have hv:vk v.Attrs i=7:=by unfold vk;rw[if_neg hn',if_pos hlt];rfl
    rw[cond_true,hv];rfl
   | false=>
    have hv:vk v.Attrs i=yp (gx v.Attrs (i:Int)).Value:=by
     unfold vk;rw[if_neg hn',if_neg (by rw[hlt];decide)]
     simp only[vN,zgN,if_true,zkp]
    rw[cond_false,zdB,Option.bind_some,hv]
    by_cases ht:yp (gx v.Attrs (i:Int)).Value=0
    ·
     rw[decide_eq_true ht,if_pos ht];rfl
    ·
     rw[decide_eq_false ht,if_neg ht];rfl)
theorem zh9 (l:List zv):zbP l=some (Qq l):=by
 unfold zbP Qq
 by_cases hl:2000<l.length
 ·
  rw[if_pos hl,decide_eq_true (p:=(2000:Int)<(l.length:Int)) (by omega),cond_true]
 ·
  rw[if_neg hl,decide_eq_false (p:=(2000:Int)<(l.length:Int)) (by omega),cond_false]
  have:=vA (n:=l.length) (step:=zdL l) (fin:=fun s=>(Res.nx s:Res Unit Int)) (fun _=>()) (Yz l) (fun e=>Res.ab e) (by omega) (fun i hi _=>by
   have hin:inR l (i:Int):=⟨by omega,by omega⟩
   unfold zdL
   rw[zl hin,zw,zet,Option.bind_some]
   unfold Yz
   rw[zgO]
   cases hn:zX (gx l (i:Int)).Id with
   | false=>
    have hv:zH (jO l i)=5:=by unfold jO;rw[if_pos hn];rfl
    rw[hv];rfl
   | true=>
    have hn':¬zX (gx l (i:Int)).Id=false:=by rw[hn];decide
    rw[Bool.not_true,cond_false,zl (fun h=>by
     have:=of_decide_eq_true h
     rw[Wk (by omega) (by omega)];exact⟨by omega,by omega⟩),Wk (n:=(i:Int) - 1) (by omega) (by omega)]
    show(bif vQ l i then _ else _)=_
    cases hlt:vQ l i with
    | true=>
     have hv:zH (jO l i)=7:=by unfold jO;rw[if_neg hn',if_pos hlt];rfl
     rw[cond_true,hv];rfl
    | false=>
     have hlt':¬vQ l i=true:=by rw[hlt];decide
     rw[cond_false]
     by_cases h0:(gx l (i:Int)).Attrs.length=0
     ·
      have hv:zH (jO l i)=9:=by unfold jO;rw[if_neg hn',if_neg hlt',if_pos h0];rfl
      rw[decide_eq_true (by omega),cond_true,hv];rfl
     ·
      rw[decide_eq_false (by omega),cond_false]
      by_cases h20:20<(gx l (i:Int)).Attrs.length
      ·
       have hv:zH (jO l i)=4:=by unfold jO;rw[if_neg hn',if_neg hlt',if_neg h0,if_pos h20];rfl
       rw[decide_eq_true (by omega),cond_true,hv];rfl
      ·
       have hv:zH (jO l i)=0:=by unfold jO;rw[if_neg hn',if_neg hlt',if_neg h0,if_neg h20];rfl
       rw[decide_eq_false (by omega),cond_false,zoo _ (by omega),hv,if_pos rfl])
  rw[this]
  by_cases c:zH ((List.range l.length).map (Yz l))=0
  ·
   rw[if_pos c,c];rfl
  ·
   rw[if_neg c];rfl
theorem zop (v:zv)(hl:v.Attrs.length≤20)(hf:∀x∈v.Attrs,zF x):zZ (v.Attrs.length:Int) (zcY v) (fun s=>(Res.nx s:Res Unit (Res Unit Int))) ()=some (if YH v.Attrs=0 then Res.nx ()else Res.ab (Res.ab (YH v.Attrs))):=
 vA (n:=v.Attrs.length) (step:=zcY v) (fin:=fun s=>(Res.nx s:Res Unit (Res Unit Int))) (fun _=>()) (vk v.Attrs) (fun e=>Res.ab (Res.ab e)) (by omega) (fun i hi _=>by
  have hin:inR v.Attrs (i:Int):=⟨by omega,by omega⟩
  obtain⟨f1,f2⟩:zF (gx v.Attrs (i:Int)).Field∧zF (gx v.Attrs (i:Int)).Value:=hf _ (jy hin)
  unfold zcY
  rw[zl hin,zw,zbG f1,Option.bind_some,jm,Option.bind_some,Wk (n:=max (i:Int) 1 - 1) (by omega) (by omega),zl (fun h=>by have:=of_decide_eq_true h;exact⟨by omega,by omega⟩)]
  have hlate:(decide (0<(i:Int))&&(Op.bytesLess (gx v.Attrs (i:Int)).Field.b ((gx v.Attrs (max (i:Int) 1 - 1)).Field).b || (gx v.Attrs (i:Int)).Field.b==((gx v.Attrs (max (i:Int) 1 - 1)).Field).b))=Qh v.Attrs i:=by
   unfold Qh
   by_cases h0:0<i
   ·
    rw[show max (i:Int) 1 - 1=(i:Int) - 1 by omega]
   ·
    rw[decide_eq_false (p:=0<(i:Int)) (by omega),Bool.false_and,Bool.false_and]
  rw[hlate,jm,Option.bind_some,zf9 f2,Option.bind_some,QF (by simp),Option.bind_some]
  have hv:zH [if(!zX (gx v.Attrs (i:Int)).Field)=true then 5 else 0,if Qh v.Attrs i=true then 7 else 0,yp (gx v.Attrs (i:Int)).Value]=vk v.Attrs i:=by
   unfold vk
   simp only[Bool.not_eq_true']
  rw[hv]
  by_cases h0:vk v.Attrs i=0
  ·
   rw[decide_eq_true h0,if_pos h0];rfl
  ·
   rw[decide_eq_false h0,if_neg h0];rfl)
theorem zis {l:List zv}(hf:∀x∈l,zF x):zbk l=some (Qq l):=by
 unfold zbk Qq
 by_cases hl:2000<l.length
 ·
  rw[if_pos hl,decide_eq_true (p:=(2000:Int)<(l.length:Int)) (by omega),cond_true]
 ·
  rw[if_neg hl,decide_eq_false (p:=(2000:Int)<(l.length:Int)) (by omega),cond_false]
  have:=vA (n:=l.length) (step:=zfl l) (fin:=fun s=>(Res.nx s:Res Unit Int)) (fun _=>()) (Yz l) (fun e=>Res.ab e) (by omega) (fun i hi _=>by
   have hin:inR l (i:Int):=⟨by omega,by omega⟩
   obtain⟨f1,f2⟩:zF (gx l (i:Int)).Id∧zF (gx l (i:Int)).Attrs:=hf _ (jy hin)
   have hal:((gx l (i:Int)).Attrs.length:Int)≤9223372036854775807:=by have:=f2.1;omega
   unfold zfl
   rw[zl hin,zw,zbG f1,Option.bind_some,jm,Option.bind_some,Wk (n:=max (i:Int) 1 - 1) (by omega) (by omega),zl (fun h=>by have:=of_decide_eq_true h;exact⟨by omega,by omega⟩)]
   have hlate:(decide (0<(i:Int))&&(Op.bytesLess (gx l (i:Int)).Id.b ((gx l (max (i:Int) 1 - 1)).Id).b || (gx l (i:Int)).Id.b==((gx l (max (i:Int) 1 - 1)).Id).b))=vQ l i:=by
    unfold vQ
    by_cases h0:0<i
    ·
     rw[show max (i:Int) 1 - 1=(i:Int) - 1 by omega]
    ·
     rw[decide_eq_false (p:=0<(i:Int)) (by omega),Bool.false_and,Bool.false_and]
   rw[hlate,jm,Option.bind_some,jm,Option.bind_some,jm,Option.bind_some,QF (by simp),Option.bind_some]
   have hv:zH [if(!zX (gx l (i:Int)).Id)=true then 5 else 0,if vQ l i=true then 7 else 0,if decide (((gx l (i:Int)).Attrs.length:Int)=0)=true then 9 else 0,if decide (20<((gx l (i:Int)).Attrs.length:Int))=true then 4 else 0]=zH (jO l i):=by
    unfold jO
    have e1:(((gx l (i:Int)).Attrs.length:Int)=0)=((gx l (i:Int)).Attrs.length=0):=propext ⟨fun h=>by omega,fun h=>by omega⟩
    have e2:(20<((gx l (i:Int)).Attrs.length:Int))=(20<(gx l (i:Int)).Attrs.length):=propext ⟨fun h=>by omega,fun h=>by omega⟩
    simp only[Bool.not_eq_true',decide_eq_true_eq,e1,e2]
   rw[hv]
   unfold Yz
   rw[zgO]
   by_cases h0:zH (jO l i)=0
   ·
    have h20:¬20<(gx l (i:Int)).Attrs.length:=fun c=>by
     have:=qo.1 h0 (if 20<(gx l (i:Int)).Attrs.length then 4 else 0) (by unfold jO;simp)
     rw[if_pos c]at this;omega
    rw[decide_eq_true h0,if_pos h0,Bool.not_true,cond_false,zop _ (by omega) f2.2]
   ·
    rw[decide_eq_false h0,if_neg h0,if_neg h0];rfl)
  rw[this]
  by_cases c:zH ((List.range l.length).map (Yz l))=0
  ·
   rw[if_pos c,c];rfl
  ·
   rw[if_neg c];rfl
structure j4 (l:List zv):Prop where
 len:l.length≤2000
 id:∀x∈l,zX x.Id=true
 some:∀x∈l,0<x.Attrs.length∧x.Attrs.length≤20
 field:∀x∈l,∀a∈x.Attrs,zX a.Field=true∧yp a.Value=0
 ids:l.Pairwise (fun x y=>zQ x.Id.b y.Id.b<0)
 fields:∀x∈l,x.Attrs.Pairwise (fun a b=>zQ a.Field.b b.Field.b<0)
theorem zlu {α:Type}(R:α→α→Prop)(tr:∀a b c,R a b→R b c→R a c){l:List α}(h:∀(j:Nat) (hj:j<l.length) (h0:0<j),R (l[j - 1]'(by omega)) l[j]):l.Pairwise R:=by
  refine List.pairwise_iff_getElem.2 fun i j hi hj hij=>?_
  have key:∀(d i j:Nat) (hij:j=i+1+d) (hj:j<l.length),R (l[i]'(by omega)) l[j]:=by
    intro d
    induction d with
    | zero => intro i j hij hj; obtain rfl : j = i + 1 := by omega
              exact h (i+1) hj (by omega)
    | succ d ih=>intro i j hij hj;exact tr _ _ _ (ih i (j - 1) (by omega) (by omega)) (h j hj (by omega))
  exact key (j - i - 1) i j (by omega) hj
theorem zkI {a b:List UInt8}(h:(Op.bytesLess a b || a==b)=false):zQ b a<0:=by
 rw[Bool.or_eq_false_iff,zgj]at h
 have h1:=of_decide_eq_false h.1
 have h2:=beq_eq_false_iff_ne.1 h.2
 have h3:=jI a b
 have h4:zQ a b≠0:=fun e=>h2 (zat e)
 omega
theorem zh0 {l:List zv}(h:Qq l=0):j4 l:=by
 unfold Qq at h
 by_cases hl:2000<l.length
 ·
  rw[if_pos hl]at h;omega
 rw[if_neg hl]at h
 have hz:∀i:Nat,(hi:i<l.length)→Yz l i=0:=fun i hi=>qo.1 h _ (List.mem_map.2 ⟨i,List.mem_range.2 hi,rfl⟩)
 have hh:∀i:Nat,(hi:i<l.length)→zX l[i].Id=true∧vQ l i=false∧0<l[i].Attrs.length∧l[i].Attrs.length≤20∧YH l[i].Attrs=0:=fun i hi=>by
  have h0:=qo.1 (hz i hi)
  unfold jO at h0
  have h1:=h0 (if zX (gx l (i:Int)).Id=false then 5 else 0) (by simp)
  have h2:=h0 (if vQ l i=true then 7 else 0) (by simp)
  have h3:=h0 (if(gx l (i:Int)).Attrs.length=0 then 9 else 0) (by simp)
  have h4:=h0 (if 20<(gx l (i:Int)).Attrs.length then 4 else 0) (by simp)
  have h5:=h0 (YH (gx l (i:Int)).Attrs) (by simp)
  rw[zP hi]at h1 h3 h4 h5
  refine⟨?_,?_,?_,?_,h5⟩
  ·
   cases c:zX l[i].Id with
   | true=>rfl
   | false=>rw[if_pos c]at h1;omega
  ·
   cases c:vQ l i with
   | false=>rfl
   | true=>rw[c]at h2;simp at h2
  ·
   refine Nat.pos_of_ne_zero fun c=>?_
   rw[if_pos c]at h3;omega
  ·
   refine Nat.le_of_not_lt fun c=>?_
   rw[if_pos c]at h4;omega
 have ha:∀i:Nat,(hi:i<l.length)→∀k:Nat,(hk:k<l[i].Attrs.length)→zX l[i].Attrs[k].Field=true∧Qh l[i].Attrs k=false∧yp l[i].Attrs[k].Value=0:=fun i hi k hk=>by
  have h0:=(hh i hi).2.2.2.2
  have h0:=qo.1 h0 (vk l[i].Attrs k) (List.mem_map.2 ⟨k,List.mem_range.2 hk,rfl⟩)
  have h0:=qo.1 h0
  have h1:=h0 (if zX (gx l[i].Attrs (k:Int)).Field=false then 5 else 0) (by simp)
  have h2:=h0 (if Qh l[i].Attrs k=true then 7 else 0) (by simp)
  have h3:=h0 (yp (gx l[i].Attrs (k:Int)).Value) (by simp)
  rw[zP hk]at h1 h3
  refine⟨?_,?_,h3⟩
  ·
   cases c:zX l[i].Attrs[k].Field with
   | true=>rfl
   | false=>rw[if_pos c]at h1;omega
  ·
   cases c:Qh l[i].Attrs k with
   | false=>rfl
   | true=>rw[c]at h2;simp at h2
 have tr:∀a b c:List UInt8,zQ a b<0→zQ b c<0→zQ a c<0:=fun a b c h1 h2=>(Q7 (by omega) (by omega)).2 (.inl h1)
 refine⟨by omega,fun x hx=>?_,fun x hx=>?_,fun x hx a hax=>?_,?_,fun x hx=>?_⟩
 ·
  obtain⟨i,hi,rfl⟩:=List.getElem_of_mem hx
  exact(hh i hi).1
 ·
  obtain⟨i,hi,rfl⟩:=List.getElem_of_mem hx
  exact⟨(hh i hi).2.2.1,(hh i hi).2.2.2.1⟩
 ·
  obtain⟨i,hi,rfl⟩:=List.getElem_of_mem hx
  obtain⟨k,hk,rfl⟩:=List.getElem_of_mem hax
  exact⟨(ha i hi k hk).1,(ha i hi k hk).2.2⟩
 ·
  refine zlu (fun x y:zv=>zQ x.Id.b y.Id.b<0) (fun a b c=>tr _ _ _) fun j hj h0=>?_
  have h1:=(hh j hj).2.1
  unfold vQ at h1
  rw[decide_eq_true (p:=0<(j:Int)) (by omega),Bool.true_and,show(j:Int) - 1=((j - 1:Nat):Int)by omega,zP hj,zP (by omega)]at h1
  exact zkI h1
 ·
  obtain⟨i,hi,rfl⟩:=List.getElem_of_mem hx
  refine zlu (fun a b:zU=>zQ a.Field.b b.Field.b<0) (fun a b c=>tr _ _ _) fun j hj h0=>?_
  have h1:=(ha i hi j hj).2.1
  unfold Qh at h1
  rw[decide_eq_true (p:=0<(j:Int)) (by omega),Bool.true_and,show(j:Int) - 1=((j - 1:Nat):Int)by omega,zP hj,zP (by omega)]at h1
  exact zkI h1
end Go.DB
