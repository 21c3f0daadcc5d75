/- A part of the proof. -/
import Derived.Test.YtokamljonkipbaaGreatDoorTdlG1
import Derived.Test.YtokamljonkipbaaGreatDoorPu0
import Derived.Test.YtokamljonkipbaaGreatDoorTdlK4
import Derived.Lib.TrimAscii
set_option linter.unusedSimpArgs false
set_option linter.unusedVariables false
namespace Go.DB
open Go Go.RowKit
theorem znV {l:List zl}(h:l.length≤1073741824):zcR l=some l:=by
 unfold zcR
 rw[zf (by simpa [qI]using h),zw,List.nil_append]
 exact zeu fun e=>by rw[e]
theorem znU {l:List zA}(h:l.length≤1073741824):zcQ l=some l:=by
 unfold zcQ
 rw[zf (by simpa [qI]using h),zw,List.nil_append]
 exact zeu fun e=>by rw[e]
theorem znW {l:List zJ}(h:l.length≤1073741824):zcS l=some l:=by
 unfold zcS
 rw[zf (by simpa [qI]using h),zw,List.nil_append]
 exact zeu fun e=>by rw[e]
theorem znX {l:List zz}(h:l.length≤1073741824):zbl l=some l:=by
 unfold zbl
 rw[zf (by simpa [qI]using h),zw,List.nil_append]
 exact zeu fun e=>by rw[e]
theorem zfR {d:Doc}(hn:d.Nodes.length≤500)(he:d.Edges.length≤1000)(hb:∀x∈d.Edges,x.Bends.length≤50):Qc d=some d:=by
 unfold Qc
 rw[zw,znV (by omega),znU (by omega),Option.bind_some,Option.bind_some]
 obtain⟨s,h1,h2⟩:=QO (n:=(d.Edges.length:Int)) (step:=zdr) (s0:=d.Edges) (fun _ s=>s=d.Edges) (by omega) rfl (fun i s hi hs=>by
  subst hs
  have hi':i<d.Edges.length:=by omega
  refine⟨d.Edges,?_,rfl⟩
  unfold zdr
  rw[zf ⟨by omega,by omega⟩,zL hi',znW (by have:=hb _ (List.getElem_mem hi');omega),Option.bind_some,zf ⟨by omega,by omega⟩]
  rw[show((i:Int).toNat)=i from rfl]
  exact congrArg some (List.set_getElem_self hi'))
 rw[h1,Option.bind_some,h2]
structure Has (k:zY) (d:Doc) (l:List zz):Prop where
 now:k.now=⟨d,l⟩
 past:k.past.length≤50
theorem ziG {k:zY}(h:k.past.length≤50)(d:Doc)(l:List zz):∃k',Q2 k ⟨d,l⟩=some k'∧Has k' d l:=by
 unfold Q2
 have hl:(k.past++[k.now]).length=k.past.length+1:=by rw[List.length_append,List.length_singleton]
 rw[zf (by rw[qI,List.length_singleton];omega),zw]
 by_cases c:50<(k.past++[k.now]).length
 ·
  rw[decide_eq_true (show(50:Int)<((k.past++[k.now]).length:Int)by omega),cond_true,zf ⟨by omega,by omega,by omega⟩]
  unfold zhK
  rw[zf ⟨by omega,by omega,by omega,rfl⟩,Option.bind_some,Option.bind_some]
  refine⟨_,rfl,rfl,?_⟩
  show(seg (k.past++[k.now]) 1 ((k.past++[k.now]).length:Int)).length≤50
  unfold seg
  rw[List.length_drop,List.length_take]
  omega
 ·
  rw[decide_eq_false (show ¬(50:Int)<((k.past++[k.now]).length:Int)by omega),cond_false,Option.bind_some]
  exact⟨_,rfl,rfl,by show(k.past++[k.now]).length≤50;omega⟩
theorem ziW {k:zY}{d0:Doc}{l:List zz}(h:Has k d0 l){d:Doc}(hc:jE d=some 0):∃k',YI k d=some (Str.nil,0,k')∧Has k' d l:=by
 obtain⟨k',h1,h2⟩:=ziG (k:=k) h.past d l
 unfold YI zdn
 rw[hc,Option.bind_some,decide_eq_true rfl,cond_true]
 have h1':Q2 { ({ k with past:=k.past }:zY)with past:=({ k with past:=k.past }:zY).past } ⟨d,({ k with past:=k.past }:zY).now.rules⟩=some k':=by
  show Q2 k ⟨d,k.now.rules⟩=some k'
  rw[h.now];exact h1
 rw[h1']
 exact⟨_,rfl,h2.now,h2.past⟩
theorem zr4 {k:Int}(h1:1≤k)(h2:k≤6):decide (gx y6 k∈y6.tail)=true:=by
 rcases zeg h1 h2 with rfl | rfl | rfl | rfl | rfl | rfl<;>decide
theorem zmM:seg y6 1 ((y6.length:Nat):Int)=y6.tail:=rfl
theorem ziu {k:zY}{line:Str}{ws:List Str}{t:Str}(hs:Q3 line=some (ws,t,!decide (t=Str.nil),true))(h0:0<ws.length)(hw:gx ws 0∈y6.tail∨gx ws 0=⟨QT⟩){k':zY}(ha:Q1 k ws t=some (Str.nil,0,k')):
  vI k line=some (Str.nil,0,{ k' with past:=k'.past }):=by
 have hin:inR ws 0:=⟨by omega,by omega⟩
 unfold vI
 rw[hs,Option.bind_some]
 simp only[Bool.not_true,cond_false]
 rw[zda,Option.bind_some,zf ⟨by decide,by decide,by decide⟩,zf hin,zmM,zfr _ _ (by decide),Option.bind_some,zf (fun _=>hin)]
 have hb:(decide (gx ws 0∈y6.tail) || decide (gx ws 0=(⟨[101,100,103,101]⟩:Str)))=true:=by
  rw[Bool.or_eq_true,decide_eq_true_eq,decide_eq_true_eq];exact hw
 have hq:((!decide (t=Str.nil))&&decide (t=Str.nil))=false:=by cases decide (t=Str.nil)<;>rfl
 rw[hb,cond_true,hq,cond_false]
 have ha':Q1 { k with past:=k.past } ws t=some (Str.nil,0,k'):=ha
 rw[ha',Option.bind_some]
theorem zom {k:zY}{d:Doc}{l:List zz}(h:Has k d l)(hn:d.Nodes.length≤500)(he:d.Edges.length≤1000)(hb:∀x∈d.Edges,x.Bends.length≤50){n:zl}(hT:jK n)(h6:n.Kind≠6)(hc:jE ⟨d.Nodes++[n],d.Edges⟩=some 0)(hl:(yH n).length≤100000000):
  ∃k',vI k ⟨yH n⟩=some (Str.nil,0,k')∧Has k' ⟨d.Nodes++[n],d.Edges⟩ l:=by
 have hw:=hT.words.word
 have hsp:=zbp (t:=n.Text) (by unfold jq;simp) hw hl
 have hg:gx ((jq n).map Str.mk) 0=gx y6 n.Kind:=rfl
 have hlen:0<((jq n).map Str.mk).length:=by rw[List.length_map];unfold jq;rw[List.length_cons];omega
 obtain⟨k1,k2⟩:=zkQ hT.k1 hT.k2
 obtain⟨k',c1,c2⟩:=ziW h hc
 have ha:Q1 k ((jq n).map Str.mk) n.Text=some (Str.nil,0,{ k' with past:=k'.past }):=by
  unfold Q1
  have hd:Qc k.now.doc=some d:=by rw[h.now];exact zfR hn he hb
  rw[hd,Option.bind_some,zf ⟨by omega,by omega⟩,hg,decide_eq_false k2,cond_false,zma hT,Option.bind_some]
  simp only[Bool.not_true,Bool.false_or]
  rw[decide_eq_false h6,cond_false,zf (by rw[qI,List.length_singleton];omega)]
  have c1':YI { k with past:=k.past } { d with Nodes:=d.Nodes++[n],Edges:=d.Edges } = some (Str.nil,0,k'):=c1
  rw[c1',Option.bind_some]
 refine⟨_,ziu hsp hlen (.inl ?_) ha,c2.now,c2.past⟩
 rw[hg]
 exact of_decide_eq_true (zr4 hT.k1 hT.k2)
theorem zol {k:zY}{d:Doc}{l:List zz}(h:Has k d l)(hn:d.Nodes.length≤500)(he:d.Edges.length≤1000)(hb:∀x∈d.Edges,x.Bends.length≤50){x:zA}(hT:jJ x)(hc:jE ⟨d.Nodes,d.Edges++[x]⟩=some 0)(hl:(yB x).length≤100000000):
  ∃k',vI k ⟨yB x⟩=some (Str.nil,0,k')∧Has k' ⟨d.Nodes,d.Edges++[x]⟩ l:=by
 have hw:=hT.words.word
 have hsp:=zbp (t:=x.Text) (by unfold jn;simp) hw hl
 have hg:gx ((jn x).map Str.mk) 0=⟨QT⟩:=rfl
 have hlen:0<((jn x).map Str.mk).length:=by rw[List.length_map];unfold jn;rw[List.length_cons];omega
 obtain⟨k',c1,c2⟩:=ziW h hc
 have ha:Q1 k ((jn x).map Str.mk) x.Text=some (Str.nil,0,{ k' with past:=k'.past }):=by
  unfold Q1
  have hd:Qc k.now.doc=some d:=by rw[h.now];exact zfR hn he hb
  rw[hd,Option.bind_some,zf ⟨by omega,by omega⟩,hg,decide_eq_true rfl,cond_true,zl9 hT,Option.bind_some]
  simp only[Bool.not_true,cond_false]
  rw[zf (by rw[qI,List.length_singleton];omega)]
  have c1':YI { k with past:=k.past } { d with Nodes:=d.Nodes,Edges:=d.Edges++[x] } = some (Str.nil,0,k'):=c1
  rw[c1',Option.bind_some]
 exact⟨_,ziu hsp hlen (.inr hg) ha,c2.now,c2.past⟩
theorem zon {k:zY}{d:Doc}{l:List zz}(h:Has k d l)(hll:l.length≤100){r:zz}(hT:vF r)(hc:vt (l++[r])=0)(hl:(yD r).length≤100000000):
  ∃k',vI k ⟨yD r⟩=some (Str.nil,0,k')∧Has k' d (l++[r]):=by
 have hw:=hT.words.word
 have hsp:=zbp (t:=Str.nil) (by unfold jv;simp) hw (by rw[←zbb];exact hl)
 rw[←zbb]at hsp
 have hg:gx ((jv r).map Str.mk) 0=⟨vB⟩:=rfl
 have hin:inR ((jv r).map Str.mk) 0:=⟨by omega,by rw[List.length_map];unfold jv;rw[List.length_cons];omega⟩
 obtain⟨k',c1,c2⟩:=ziG (k:=k) h.past d (l++[r])
 have ho:Jw k ((jv r).map Str.mk)=some (Str.nil,0,{ k' with past:=k'.past }):=by
  unfold Jw
  have c1':Q2 { k with past:=k.past } ⟨k.now.doc,l++[r]⟩=some k':=by rw[h.now];exact c1
  have hr:zbl k.now.rules=some l:=by rw[h.now];exact znX (by show l.length≤_;omega)
  rw[zf hin,hg,decide_eq_true rfl,cond_true,zmb hT,Option.bind_some]
  simp only[Bool.not_true,cond_false]
  rw[hr,Option.bind_some,zf (by rw[qI,List.length_singleton];omega),zc6,hc,Option.bind_some,decide_eq_true rfl,Bool.not_true,cond_false,c1',Option.bind_some]
 refine⟨{ k' with past:=k'.past },?_,c2.now,c2.past⟩
 unfold vI
 rw[hsp,Option.bind_some]
 simp only[Bool.not_true,cond_false]
 rw[zda,Option.bind_some,zf ⟨by decide,by decide,by decide⟩,zf hin,zmM,zfr _ _ (by decide),Option.bind_some,zf (fun _=>hin),hg,
  decide_eq_false (show ¬(⟨vB⟩:Str)∈y6.tail by decide),decide_eq_false (show ¬(⟨vB⟩:Str)=⟨[101,100,103,101]⟩by decide),Bool.or_self,cond_false,zf hin,
  decide_eq_false (show ¬(⟨vB⟩:Str)=⟨[116,101,120,116]⟩by decide),cond_false]
 simp only[decide_true,Bool.not_true,cond_false]
 rw[zf hin,zw,zw]
 have ho':Jw { k with past:=k.past } ((jv r).map Str.mk)=some (Str.nil,0,{ k' with past:=k'.past }):=ho
 show Option.bind (Jw { k with past:=k.past } ((jv r).map Str.mk)) _=_
 rw[ho',Option.bind_some]
theorem znp:∀{l:List (List UInt8)},l≠[]→yb l=yI 10 l++[10]
 | [],h=>absurd rfl h
 | [a],_=>by rw[zvK];rfl
 | a::b::r,_=>by
  have:=znp (l:=b::r) (by simp)
  rw[yb,this]
  show a++10::(yI 10 (b::r)++[10])=(a++10::yI 10 (b::r))++[10]
  simp
theorem zov (x:List UInt8)(hx:x.length≤1000000000):Jg ⟨x++[10]⟩ ⟨[10]⟩=some ⟨x⟩:=by
 have hl:(((x++[10]:List UInt8).length:Nat):Int)=(x.length:Int)+1:=by rw[List.length_append,List.length_singleton];omega
 have hw:W (((x++[10]:List UInt8).length:Int) - (([10]:List UInt8).length:Int))=(x.length:Int):=by
  rw[hl,List.length_singleton,Wk (by omega) (by omega)];omega
 have hseg1:seg (x++[10]:List UInt8) (x.length:Int) (((x++[10]:List UInt8).length:Nat):Int)=[10]:=by
  unfold seg
  rw[Int.toNat_natCast,Int.toNat_natCast,List.take_length,List.drop_left]
 have hseg2:seg (x++[10]:List UInt8) 0 (x.length:Int)=x:=by
  unfold seg
  rw[Int.toNat_natCast,List.take_left];rfl
 have hs:J9 (⟨x++[10]⟩:Str) ⟨[10]⟩=some true:=by
  unfold J9
  simp only[hw,hseg1]
  rw[zf (fun _=>⟨by omega,by omega,by omega⟩)]
  rw[decide_eq_true (show(([10]:List UInt8).length:Int)≤((x++[10]:List UInt8).length:Int)by rw[hl,List.length_singleton];omega)]
  simp
 unfold Jg zc0
 rw[hs,Option.bind_some,cond_true]
 simp only[hw,hseg2]
 rw[zf ⟨by omega,by omega,by omega⟩,Option.bind_some]
theorem zow:Jg Str.nil ⟨[10]⟩=some Str.nil:=by
 have hs:J9 Str.nil ⟨[10]⟩=some false:=by
  unfold J9
  rw[zf (fun h=>absurd (of_decide_eq_true h) (by decide))];rfl
 unfold Jg zc0
 rw[hs];rfl
theorem ztP {a b:List zz}(h:vt (a++b)=0):vt a=0:=by
 unfold vt at h⊢
 rw[List.length_append]at h
 split at h
 ·
  cases h
 ·
  rw[if_neg (by omega)]
  refine yU.2 fun e he=>?_
  rw[List.map_append]at h
  exact yU.1 h e (List.mem_append_left _ he)
abbrev YC:=Res zY Bool
noncomputable def Qs (s1:Str)(s:zY):Option (Res zY YC):=
 bif decide (s1=Str.nil)then some (Res.nx { s with past:=s.past })else
 Option.bind (vI { s with past:=s.past } s1) fun r13=>
 bif !decide (r13.2.1=0)then some (Res.ab (Res.ab false))else some (Res.nx { r13.2.2 with past:=r13.2.2.past })
theorem zhu {s1:Str}(h1:¬s1=Str.nil){s k':zY}(h:vI s s1=some (Str.nil,0,k')):Qs s1 s=some (Res.nx { k' with past:=k'.past }):=by
 unfold Qs
 have h':vI { s with past:=s.past } s1=some (Str.nil,0,k'):=h
 rw[decide_eq_false h1,cond_false,h',Option.bind_some];rfl
theorem zgN {l:List UInt8}(h:l≠[]):¬(⟨l⟩:Str)=Str.nil:=fun e=>h (congrArg Str.b e)
theorem zmL (fin:zY→YC)(rest:List Str):∀(l acc:List zz) (s:zY),(∀r∈l,vF r)→vt (acc++l)=0→Has s ⟨[],[]⟩ acc→∃s',q7 Qs fin (l.map (fun r=>⟨yD r⟩)++rest) s=q7 Qs fin rest s'∧Has s' ⟨[],[]⟩ (acc++l)
 | [],acc,s,_,_,h=>⟨s,rfl,by rw[List.append_nil];exact h⟩
 | r::l,acc,s,hT,hr,h=>by
  have e:acc++r::l=(acc++[r])++l:=by simp
  rw[e]at hr⊢
  have hr1:=ztP hr
  have hlen:=(zht hr1).1
  rw[List.length_append,List.length_singleton]at hlen
  have hb:=zcL (hT r (by simp))
  obtain⟨k',c1,c2⟩:=zon h (by omega) (hT r (by simp)) hr1 (by omega)
  have hne:yD r≠[]:=by rw[zmx];simp
  obtain⟨s',d1,d2⟩:=zmL fin rest l (acc++[r]) { k' with past:=k'.past } (fun x hx=>hT x (by simp[hx])) hr ⟨c2.now,c2.past⟩
  refine⟨s',?_,d2⟩
  rw[List.map_cons,List.cons_append,q7,zhu (zgN hne) c1]
  exact d1
theorem zmK (fin:zY→YC)(rest:List Str)(rules:List zz){d:Doc}(hP:Plain d)(hT:∀n∈d.Nodes,jK n):∀(l acc:List zl) (s:zY),acc++l=d.Nodes→Has s ⟨acc,[]⟩ rules→∃s',q7 Qs fin (l.map (fun r=>⟨yH r⟩)++rest) s=q7 Qs fin rest s'∧Has s' ⟨d.Nodes,[]⟩ rules
 | [],acc,s,he,h=>⟨s,rfl,by rw[List.append_nil]at he;rw[←he];exact h⟩
 | n::l,acc,s,he,h=>by
  have e:acc++n::l=(acc++[n])++l:=by simp
  have hm:n∈d.Nodes:=by rw[←he];simp
  have hl:=hP.nl
  rw[e]at he
  have htk:d.Nodes.take (acc.length+1)=acc++[n]:=by rw[←he];exact List.take_left' (by simp)
  have hc:=(hP.nodes (acc.length+1)).check
  rw[htk]at hc
  have hal:acc.length+1≤d.Nodes.length:=by rw[←he];simp
  have hb:=zcs (hT n hm)
  obtain⟨k',c1,c2⟩:=zom h (by show acc.length≤500;omega) (by show 0≤1000;omega) (fun x hx=>by cases hx) (hT n hm) (hP.kind n hm) hc (by omega)
  have hne:yH n≠[]:=by rw[zlt];simp
  obtain⟨s',d1,d2⟩:=zmK fin rest rules hP hT l (acc++[n]) { k' with past:=k'.past } he ⟨c2.now,c2.past⟩
  refine⟨s',?_,d2⟩
  rw[List.map_cons,List.cons_append,q7,zhu (zgN hne) c1]
  exact d1
theorem zmJ (fin:zY→YC)(rest:List Str)(rules:List zz){d:Doc}(hP:Plain d)(hT:∀x∈d.Edges,jJ x):∀(l acc:List zA) (s:zY),acc++l=d.Edges→Has s ⟨d.Nodes,acc⟩ rules→∃s',q7 Qs fin (l.map (fun r=>⟨yB r⟩)++rest) s=q7 Qs fin rest s'∧Has s' d rules
 | [],acc,s,he,h=>⟨s,rfl,by rw[List.append_nil]at he;rw[he]at h;exact h⟩
 | x::l,acc,s,he,h=>by
  have e:acc++x::l=(acc++[x])++l:=by simp
  have hm:x∈d.Edges:=by rw[←he];simp
  have hl:=hP.el
  have hacc:∀y∈acc,y∈d.Edges:=fun y hy=>by rw[←he];simp[hy]
  rw[e]at he
  have htk:d.Edges.take (acc.length+1)=acc++[x]:=by rw[←he];exact List.take_left' (by simp)
  have hc:=(hP.edges (acc.length+1)).check
  rw[htk]at hc
  have hal:acc.length+1≤d.Edges.length:=by rw[←he];simp
  have hb:=zds (hT x hm)
  obtain⟨k',c1,c2⟩:=zol h hP.nl (by show acc.length≤1000;omega) (fun y hy=>(hT y (hacc y hy)).few) (hT x hm) hc (by omega)
  have hne:yB x≠[]:=by rw[zjp];simp
  obtain⟨s',d1,d2⟩:=zmJ fin rest rules hP hT l (acc++[x]) { k' with past:=k'.past } he ⟨c2.now,c2.past⟩
  refine⟨s',?_,d2⟩
  rw[List.map_cons,List.cons_append,q7,zhu (zgN hne) c1]
  exact d1
theorem zpY (d:Doc)(l:List zz):qr d l=yb (l.map yD++(d.Nodes.map yH++d.Edges.map yB)):=by
 unfold qr
 rw[zfj,zfj]
theorem zoo {d:Doc}{l:List zz}(hD:zbC d l)(hr:vt l=0)(hP:Plain d){k:zY}(hk:Has k ⟨[],[]⟩ []):
  ∃r11 r12 k',Jg ⟨qr d l⟩ ⟨[10]⟩=some r11∧strings_Split r11 ⟨[10]⟩=some r12∧z7 (r12.length:Int) (zc2 r12) (fun s=>(Res.nx s:YC)) k=some (Res.nx k')∧Has k' d l:=by
 have hdl:=zjo hD
 have hf:∀(r12:List Str) (i:Int) (s:zY),inR r12 i→zc2 r12 i s=Qs (gx r12 i) s:=fun r12 i s hi=>by
  unfold zc2
  rw[zf hi,zw];rfl
 by_cases hnil:l.map yD++(d.Nodes.map yH++d.Edges.map yB)=[]
 ·
  obtain⟨e1,e2⟩:=List.append_eq_nil_iff.1 hnil
  obtain⟨e2,e3⟩:=List.append_eq_nil_iff.1 e2
  have hl:l=[]:=List.map_eq_nil_iff.1 e1
  have hn:d.Nodes=[]:=List.map_eq_nil_iff.1 e2
  have he:d.Edges=[]:=List.map_eq_nil_iff.1 e3
  have hd:d=⟨[],[]⟩:=by cases d;simp only at hn he;rw[hn,he]
  subst hd
  subst hl
  refine⟨Str.nil,[Str.nil],{ k with past:=k.past },zow,?_,?_,⟨hk.now,hk.past⟩⟩
  ·
   unfold strings_Split
   rw[zna]
   exact(zf ⟨by decide,by decide⟩).trans rfl
  ·
   rw[zcJ Qs (by decide) (fun i s hi=>hf _ i s hi)]
   rfl
 ·
  have hsp:Jf ⟨yI 10 (l.map yD++(d.Nodes.map yH++d.Edges.map yB))⟩ ⟨[10]⟩=(l.map yD++(d.Nodes.map yH++d.Edges.map yB)).map Str.mk:=znb hnil fun w hw=>by
   rcases List.mem_append.1 hw with h | h
   ·
    obtain⟨r,hr,rfl⟩:=List.mem_map.1 h
    rw[zbb]
    exact zaP (hD.rule r hr).words.word
   ·
    rcases List.mem_append.1 h with h | h
    ·
     obtain⟨n,hn,rfl⟩:=List.mem_map.1 h
     exact zaP (hD.node n hn).words.word
    ·
     obtain⟨x,hx,rfl⟩:=List.mem_map.1 h
     exact zaP (hD.edge x hx).words.word
  have hdoc:=zpY d l
  rw[znp hnil]at hdoc
  have hjl:(yI 10 (l.map yD++(d.Nodes.map yH++d.Edges.map yB))).length≤20000000:=by
   rw[hdoc,List.length_append,List.length_singleton]at hdl;omega
  obtain⟨s1,a1,a2⟩:=zmL (fun s=>(Res.nx s:YC)) (d.Nodes.map (fun n=>(⟨yH n⟩:Str))++(d.Edges.map (fun x=>(⟨yB x⟩:Str))++[])) l [] k hD.rule hr hk
  obtain⟨s2,b1,b2⟩:=zmK (fun s=>(Res.nx s:YC)) (d.Edges.map (fun x=>(⟨yB x⟩:Str))++[]) l hP hD.node d.Nodes [] s1 rfl a2
  obtain⟨s3,c1,c2⟩:=zmJ (fun s=>(Res.nx s:YC)) [] l hP hD.edge d.Edges [] s2 rfl b2
  have hlines:(l.map yD++(d.Nodes.map yH++d.Edges.map yB)).map Str.mk=l.map (fun r=>(⟨yD r⟩:Str))++(d.Nodes.map (fun n=>(⟨yH n⟩:Str))++(d.Edges.map (fun x=>(⟨yB x⟩:Str))++[])):=by
   rw[List.map_append,List.map_append,List.map_map,List.map_map,List.map_map,List.append_nil];rfl
  have hlen:((l.map yD++(d.Nodes.map yH++d.Edges.map yB)).map Str.mk).length≤2000:=by
   rw[List.length_map,List.length_append,List.length_append,List.length_map,List.length_map,List.length_map]
   have:=hD.rl;have:=hD.nl;have:=hD.el
   omega
  refine⟨_,(l.map yD++(d.Nodes.map yH++d.Edges.map yB)).map Str.mk,s3,by rw[hdoc];exact zov _ (by omega),?_,?_,c2⟩
  ·
   unfold strings_Split
   rw[hsp]
   exact zf ⟨by show((yI 10 (l.map yD++(d.Nodes.map yH++d.Edges.map yB))).length:Int)<4294967281;omega,by decide⟩
  ·
   rw[zcJ Qs (by omega) (fun i s hi=>hf _ i s hi),hlines,a1,b1,c1];rfl
section
section
open Classical
end
end
section
section
variable {α:Type}
theorem cut {A:List α}{n:Nat}(hn:n≤A.length):∃A1 A2,A=A1++A2∧A1.length=n:=⟨A.take n,A.drop n,(List.take_append_drop n A).symm,by simp;omega⟩
end
theorem zo7 {body:Int×Int→Option (zN (Int×Int) Int)}(p:Nat→Bool){lo hi:Nat}(hlh:lo≤hi)
  (hb:∀i j:Nat,lo≤i→i<j→j≤hi→body ((i:Int),(j:Int))=some (if p ((i+j) / 2)=true then .again ((((i+j) / 2+1:Nat):Int),(j:Int))else .again ((i:Int),(((i+j) / 2:Nat):Int))))
  (hd:∀i:Nat,lo≤i→i≤hi→body ((i:Int),(i:Int))=some (.done (i:Int))) (mono:∀h k,lo≤h→h≤k→k<hi→p k=true→p h=true):
  ∃s,lo≤s∧s≤hi∧(∀h,lo≤h→h<s→p h=true)∧(∀h,s≤h→h<hi→p h=false)∧loop body ((lo:Int),(hi:Int))=some (s:Int):=by
 obtain⟨e,h1,s,h2⟩:=zek (body:=body) (s0:=((lo:Int),(hi:Int))) (fun st=>∃i j:Nat,st=((i:Int),(j:Int))∧lo≤i∧i≤j∧j≤hi∧(∀h,lo≤h→h<i→p h=true)∧∀h,j≤h→h<hi→p h=false)
  (fun st=>(st.2 - st.1).toNat) (fun e=>∃s:Nat,e=(s:Int)∧lo≤s∧s≤hi∧(∀h,lo≤h→h<s→p h=true)∧∀h,s≤h→h<hi→p h=false)
  ⟨lo,hi,rfl,Nat.le_refl _,hlh,Nat.le_refl _,fun h a b=>by omega,fun h a b=>by omega⟩ (fun st hI=>by
  obtain⟨i,j,rfl,i1,i2,i3,i4,i5⟩:=hI
  by_cases c:i<j
  ·
   left
   rw[hb i j i1 c i3]
   cases hp:p ((i+j) / 2)with
   | true=>
    refine⟨_,by simp,⟨(i+j) / 2+1,j,rfl,by omega,by omega,i3,fun h a b=>?_,i5⟩,by simp only;omega⟩
    exact mono h ((i+j) / 2) a (by omega) (by omega) hp
   | false=>
    refine⟨_,by simp,⟨i,(i+j) / 2,rfl,i1,by omega,by omega,i4,fun h a b=>?_⟩,by simp only;omega⟩
    cases hh:p h with
    | false=>rfl
    | true=>
     have:=mono ((i+j) / 2) h (by omega) a b hh
     rw[hp]at this;cases this
  ·
   right
   have:i=j:=by omega
   subst this
   exact⟨_,hd i i1 i3,i,rfl,i1,i3,i4,i5⟩)
 obtain⟨rfl,h3,h4,h5,h6⟩:=h2
 exact⟨s,h3,h4,h5,h6,h1⟩
theorem zrt {i j:Nat}(h:i+j≤4611686018427387904):W ((KI.of .u64 (W ((i:Int)+(j:Int)))).shr 1).n=(((i+j) / 2:Nat):Int):=by
 rw[Wk (n:=(i:Int)+j) (by omega) (by omega)]
 have e1:(KI.of .u64 ((i:Int)+(j:Int))).n=(i:Int)+j:=by
  show IntKind.wrap .u64 ((i:Int)+j)=_
  rw[show(i:Int)+j=((i+j:Nat):Int)by omega]
  unfold IntKind.wrap
  have hm:(((i+j:Nat):Int) % 2 ^ IntKind.u64.bits)=((i+j:Nat):Int):=Int.emod_eq_of_lt (by omega) (by show _<(2:Int) ^ 64;omega)
  rw[hm]
  simp[IntKind.signed]
 have e2:((KI.of .u64 ((i:Int)+(j:Int))).shr 1).n=(((i+j) / 2:Nat):Int):=by
  show((KI.of .u64 ((i:Int)+(j:Int))).n).fdiv (2 ^ min (1:Int).toNat IntKind.u64.bits)=_
  rw[e1]
  have:((2:Int) ^ min (1:Int).toNat IntKind.u64.bits)=2:=by decide
  rw[this,Int.fdiv_eq_ediv_of_nonneg _ (by omega)]
  omega
 rw[e2,Wk (by omega) (by omega)]
end
theorem zm4 {α:Type}{R:α→α→Prop}(irr:∀x,¬R x x)(asym:∀x y,R x y→R y x→False):∀{a b:List α},a.Pairwise R→b.Pairwise R→(∀x,x∈a↔x∈b)→a=b
 | [],[],_,_,_=>rfl
 | [],y::b,_,_,h=>by have:=(h y).2 (by simp);simp at this
 | x::a,[],_,_,h=>by have:=(h x).1 (by simp);simp at this
 | x::a,y::b,ha,hb,h=>by
  obtain⟨a1,a2⟩:=List.pairwise_cons.1 ha
  obtain⟨b1,b2⟩:=List.pairwise_cons.1 hb
  have hxy:x=y:=by
   rcases List.mem_cons.1 ((h x).1 (by simp))with e | e
   ·
    exact e
   ·
    rcases List.mem_cons.1 ((h y).2 (by simp))with e' | e'
    ·
     exact e'.symm
    ·
     exact(asym _ _ (a1 y e') (b1 x e)).elim
  subst hxy
  congr 1
  refine zm4 irr asym a2 b2 fun z=>⟨fun hz=>?_,fun hz=>?_⟩
  ·
   rcases List.mem_cons.1 ((h z).1 (by simp[hz]))with e | e
   ·
    subst e;exact(irr _ (a1 _ hz)).elim
   ·
    exact e
  ·
   rcases List.mem_cons.1 ((h z).2 (by simp[hz]))with e | e
   ·
    subst e;exact(irr _ (b1 _ hz)).elim
   ·
    exact e
def zpt (a b:DOp):Int:=zps a.Stamp.Site.b a.Stamp.No b.Stamp.Site.b b.Stamp.No
theorem ze5 {a b:Str}(h:a.b=b.b):a=b:=by cases a;cases b;simp at h;rw[h]
theorem zvJ:ym Str.nil=0:=zfi.2 ⟨by decide,by decide,rfl⟩
theorem zrN (e:Int):(if e=0 then 0 else e)=e:=by split<;>simp_all
def zkT (l:List DOp)(i:Nat):Prop:=0<i∧0≤zpt (gx l ((i:Int) - 1)) (gx l (i:Int))
instance (l:List DOp) (i:Nat):Decidable (zkT l i):=by unfold zkT;exact inferInstance



theorem zj2 (x:Int):∀l:List Int,zK (l++[x])=if zK l=0 then x else zK l
 | []=>by
  show zK [x]=if zK []=0 then x else _
  rw[vM,zj1,if_pos rfl]
  split
  ·
   rename_i h;exact h.symm
  ·
   rfl
 | e::l=>by
  rw[List.cons_append,vM,vM,zj2 x l]
  by_cases h:e=0
  ·
   rw[if_pos h,if_pos h]
  ·
   rw[if_neg h,if_neg h,if_neg h]
def Yh (l:List zR)(i:Nat):Bool:=decide (0<(i:Int))&&(Op.bytesLess (gx l (i:Int)).Field.b ((gx l ((i:Int) - 1)).Field).b || (gx l (i:Int)).Field.b==((gx l ((i:Int) - 1)).Field).b)
def Qw (l:List zR)(i:Nat):Int:=
 zK [if zO (gx l (i:Int)).Field=false then 5 else 0,if Yh l i=true then 7 else 0,ym (gx l (i:Int)).Value]
def zao (l:List zR):Int:=zK ((List.range l.length).map (Qw l))
def QG (l:List zu)(i:Nat):Bool:=decide (0<(i:Int))&&(Op.bytesLess (gx l (i:Int)).Id.b ((gx l ((i:Int) - 1)).Id).b || (gx l (i:Int)).Id.b==((gx l ((i:Int) - 1)).Id).b)
def vA (l:List zu)(i:Nat):List Int:=[if zO (gx l (i:Int)).Id=false then 5 else 0,if QG l i=true then 7 else 0,if(gx l (i:Int)).Attrs.length=0 then 9 else 0,if 20<(gx l (i:Int)).Attrs.length then 4 else 0]
def zbr (l:List zu)(i:Nat):Int:=zK (vA l i++[zao (gx l (i:Int)).Attrs])
def vY (l:List zu):Int:=if 2000<l.length then 4 else zK ((List.range l.length).map (zbr l))
theorem zoN (v:zu)(hl:v.Attrs.length≤20):z7 (v.Attrs.length:Int) (zbQ v) (fun s=>(Res.nx s:Res Unit (Res Unit Int))) ()=some (if zao v.Attrs=0 then Res.nx ()else Res.ab (Res.ab (zao v.Attrs))):=
 vz (n:=v.Attrs.length) (step:=zbQ v) (fin:=fun s=>(Res.nx s:Res Unit (Res Unit Int))) (fun _=>()) (Qw v.Attrs) (fun e=>Res.ab (Res.ab e)) (by omega) (fun i hi _=>by
  have hin:inR v.Attrs (i:Int):=⟨by omega,by omega⟩
  unfold zbQ
  rw[zf hin,zw,zd9,Option.bind_some]
  cases hn:zO (gx v.Attrs (i:Int)).Field with
  | false=>
   have hv:Qw v.Attrs i=5:=by unfold Qw;rw[if_pos hn];rfl
   rw[hv];rfl
  | true=>
   have hn':¬zO (gx v.Attrs (i:Int)).Field=false:=by rw[hn];decide
   rw[Bool.not_true,cond_false,zf (fun h=>by
    have:=of_decide_eq_true h
    rw[Wk (by omega) (by omega)];exact⟨by omega,by omega⟩),Wk (n:=(i:Int) - 1) (by omega) (by omega)]
   show(bif Yh v.Attrs i then _ else _)=_
   cases hlt:Yh v.Attrs i with
   | true=>
    have hv:Qw v.Attrs i=7:=by unfold Qw;rw[if_neg hn',if_pos hlt];rfl
    rw[cond_true,hv];rfl
   | false=>
    have hv:Qw v.Attrs i=ym (gx v.Attrs (i:Int)).Value:=by
     unfold Qw;rw[if_neg hn',if_neg (by rw[hlt];decide)]
     simp only[vM,zj1,if_true,zrN]
    rw[cond_false,zc7,Option.bind_some,hv]
    by_cases ht:ym (gx v.Attrs (i:Int)).Value=0
    ·
     rw[decide_eq_true ht,if_pos ht];rfl
    ·
     rw[decide_eq_false ht,if_neg ht];rfl)
theorem zc8 (l:List zu):Q6 l=some (vY l):=by
 unfold Q6 vY
 by_cases hl:2000<l.length
 ·
  rw[if_pos hl,decide_eq_true (p:=(2000:Int)<(l.length:Int)) (by omega),cond_true]
 ·
  rw[if_neg hl,decide_eq_false (p:=(2000:Int)<(l.length:Int)) (by omega),cond_false]
  have:=vz (n:=l.length) (step:=zdu l) (fin:=fun s=>(Res.nx s:Res Unit Int)) (fun _=>()) (zbr l) (fun e=>Res.ab e) (by omega) (fun i hi _=>by
   have hin:inR l (i:Int):=⟨by omega,by omega⟩
   unfold zdu
   rw[zf hin,zw,zd9,Option.bind_some]
   unfold zbr
   rw[zj2]
   cases hn:zO (gx l (i:Int)).Id with
   | false=>
    have hv:zK (vA l i)=5:=by unfold vA;rw[if_pos hn];rfl
    rw[hv];rfl
   | true=>
    have hn':¬zO (gx l (i:Int)).Id=false:=by rw[hn];decide
    rw[Bool.not_true,cond_false,zf (fun h=>by
     have:=of_decide_eq_true h
     rw[Wk (by omega) (by omega)];exact⟨by omega,by omega⟩),Wk (n:=(i:Int) - 1) (by omega) (by omega)]
    show(bif QG l i then _ else _)=_
    cases hlt:QG l i with
    | true=>
     have hv:zK (vA l i)=7:=by unfold vA;rw[if_neg hn',if_pos hlt];rfl
     rw[cond_true,hv];rfl
    | false=>
     have hlt':¬QG l i=true:=by rw[hlt];decide
     rw[cond_false]
     by_cases h0:(gx l (i:Int)).Attrs.length=0
     ·
      have hv:zK (vA l i)=9:=by unfold vA;rw[if_neg hn',if_neg hlt',if_pos h0];rfl
      rw[decide_eq_true (by omega),cond_true,hv];rfl
     ·
      rw[decide_eq_false (by omega),cond_false]
      by_cases h20:20<(gx l (i:Int)).Attrs.length
      ·
       have hv:zK (vA l i)=4:=by unfold vA;rw[if_neg hn',if_neg hlt',if_neg h0,if_pos h20];rfl
       rw[decide_eq_true (by omega),cond_true,hv];rfl
      ·
       have hv:zK (vA l i)=0:=by unfold vA;rw[if_neg hn',if_neg hlt',if_neg h0,if_neg h20];rfl
       rw[decide_eq_false (by omega),cond_false,zoN _ (by omega),hv,if_pos rfl])
  rw[this]
  by_cases c:zK ((List.range l.length).map (zbr l))=0
  ·
   rw[if_pos c,c];rfl
  ·
   rw[if_neg c];rfl
structure qm (l:List zu):Prop where
 len:l.length≤2000
 id:∀x∈l,zO x.Id=true
 some:∀x∈l,0<x.Attrs.length∧x.Attrs.length≤20
 field:∀x∈l,∀a∈x.Attrs,zO a.Field=true∧ym a.Value=0
 ids:l.Pairwise (fun x y=>zH x.Id.b y.Id.b<0)
 fields:∀x∈l,x.Attrs.Pairwise (fun a b=>zH a.Field.b b.Field.b<0)
theorem zlO {α:Type}(R:α→α→Prop)(tr:∀a b c,R a b→R b c→R a c){l:List α}(h:∀(j:Nat) (hj:j<l.length) (h0:0<j),R (l[j - 1]'(by omega)) l[j]):l.Pairwise R:=by
  refine List.pairwise_iff_getElem.2 fun i j hi hj hij=>?_
  have key:∀(d i j:Nat) (hij:j=i+1+d) (hj:j<l.length),R (l[i]'(by omega)) l[j]:=by
    intro d
    induction d with
    | zero => intro i j hij hj; obtain rfl : j = i + 1 := by omega
              exact h (i+1) hj (by omega)
    | succ d ih=>intro i j hij hj;exact tr _ _ _ (ih i (j - 1) (by omega) (by omega)) (h j hj (by omega))
  exact key (j - i - 1) i j (by omega) hj
theorem zkU {a b:List UInt8}(h:(Op.bytesLess a b || a==b)=false):zH b a<0:=by
 rw[Bool.or_eq_false_iff,zfL]at h
 have h1:=of_decide_eq_false h.1
 have h2:=beq_eq_false_iff_ne.1 h.2
 have h3:=jm a b
 have h4:zH a b≠0:=fun e=>h2 (YG e)
 omega
theorem zfk {l:List zu}(h:vY l=0):qm l:=by
 unfold vY at h
 by_cases hl:2000<l.length
 ·
  rw[if_pos hl]at h;omega
 rw[if_neg hl]at h
 have hz:∀i:Nat,(hi:i<l.length)→zbr l i=0:=fun i hi=>yU.1 h _ (List.mem_map.2 ⟨i,List.mem_range.2 hi,rfl⟩)
 have hh:∀i:Nat,(hi:i<l.length)→zO l[i].Id=true∧QG l i=false∧0<l[i].Attrs.length∧l[i].Attrs.length≤20∧zao l[i].Attrs=0:=fun i hi=>by
  have h0:=yU.1 (hz i hi)
  unfold vA at h0
  have h1:=h0 (if zO (gx l (i:Int)).Id=false then 5 else 0) (by simp)
  have h2:=h0 (if QG l i=true then 7 else 0) (by simp)
  have h3:=h0 (if(gx l (i:Int)).Attrs.length=0 then 9 else 0) (by simp)
  have h4:=h0 (if 20<(gx l (i:Int)).Attrs.length then 4 else 0) (by simp)
  have h5:=h0 (zao (gx l (i:Int)).Attrs) (by simp)
  rw[zL hi]at h1 h3 h4 h5
  refine⟨?_,?_,?_,?_,h5⟩
  ·
   cases c:zO l[i].Id with
   | true=>rfl
   | false=>rw[if_pos c]at h1;omega
  ·
   cases c:QG l i with
   | false=>rfl
   | true=>rw[c]at h2;simp at h2
  ·
   refine Nat.pos_of_ne_zero fun c=>?_
   rw[if_pos c]at h3;omega
  ·
   refine Nat.le_of_not_lt fun c=>?_
   rw[if_pos c]at h4;omega
 have ha:∀i:Nat,(hi:i<l.length)→∀k:Nat,(hk:k<l[i].Attrs.length)→zO l[i].Attrs[k].Field=true∧Yh l[i].Attrs k=false∧ym l[i].Attrs[k].Value=0:=fun i hi k hk=>by
  have h0:=(hh i hi).2.2.2.2
  have h0:=yU.1 h0 (Qw l[i].Attrs k) (List.mem_map.2 ⟨k,List.mem_range.2 hk,rfl⟩)
  have h0:=yU.1 h0
  have h1:=h0 (if zO (gx l[i].Attrs (k:Int)).Field=false then 5 else 0) (by simp)
  have h2:=h0 (if Yh l[i].Attrs k=true then 7 else 0) (by simp)
  have h3:=h0 (ym (gx l[i].Attrs (k:Int)).Value) (by simp)
  rw[zL hk]at h1 h3
  refine⟨?_,?_,h3⟩
  ·
   cases c:zO l[i].Attrs[k].Field with
   | true=>rfl
   | false=>rw[if_pos c]at h1;omega
  ·
   cases c:Yh l[i].Attrs k with
   | false=>rfl
   | true=>rw[c]at h2;simp at h2
 have tr:∀a b c:List UInt8,zH a b<0→zH b c<0→zH a c<0:=fun a b c h1 h2=>(Qa (by omega) (by omega)).2 (.inl h1)
 refine⟨by omega,fun x hx=>?_,fun x hx=>?_,fun x hx a hax=>?_,?_,fun x hx=>?_⟩
 ·
  obtain⟨i,hi,rfl⟩:=List.getElem_of_mem hx
  exact(hh i hi).1
 ·
  obtain⟨i,hi,rfl⟩:=List.getElem_of_mem hx
  exact⟨(hh i hi).2.2.1,(hh i hi).2.2.2.1⟩
 ·
  obtain⟨i,hi,rfl⟩:=List.getElem_of_mem hx
  obtain⟨k,hk,rfl⟩:=List.getElem_of_mem hax
  exact⟨(ha i hi k hk).1,(ha i hi k hk).2.2⟩
 ·
  refine zlO (fun x y:zu=>zH x.Id.b y.Id.b<0) (fun a b c=>tr _ _ _) fun j hj h0=>?_
  have h1:=(hh j hj).2.1
  unfold QG at h1
  rw[decide_eq_true (p:=0<(j:Int)) (by omega),Bool.true_and,show(j:Int) - 1=((j - 1:Nat):Int)by omega,zL hj,zL (by omega)]at h1
  exact zkU h1
 ·
  obtain⟨i,hi,rfl⟩:=List.getElem_of_mem hx
  refine zlO (fun a b:zR=>zH a.Field.b b.Field.b<0) (fun a b c=>tr _ _ _) fun j hj h0=>?_
  have h1:=(ha i hi j hj).2.1
  unfold Yh at h1
  rw[decide_eq_true (p:=0<(j:Int)) (by omega),Bool.true_and,show(j:Int) - 1=((j - 1:Nat):Int)by omega,zL hj,zL (by omega)]at h1
  exact zkU h1
section
theorem zk9:∀a b:List UInt8,a<b↔zH a b<0
 | [],[]=>by simp[zH]
 | [],b::m=>by simp[zH]
 | a::l,[]=>by simp[zH]
 | a::l,b::m=>by
  rw[List.cons_lt_cons_iff,zk9 l m]
  show _↔(if a.toNat<b.toNat then(-1:Int)else if b.toNat<a.toNat then 1 else zH l m)<0
  have h1:a<b↔a.toNat<b.toNat:=Iff.rfl
  have h2:a=b↔a.toNat=b.toNat:=⟨fun e=>by rw[e],fun e=>UInt8.toNat_inj.1 e⟩
  rw[h1,h2]
  by_cases c1:a.toNat<b.toNat
  ·
   rw[if_pos c1];simp[c1]
  ·
   rw[if_neg c1]
   by_cases c2:b.toNat<a.toNat
   ·
    rw[if_pos c2]
    constructor
    ·
     rintro(h | ⟨h,_⟩)
     ·
      exact absurd h c1
     ·
      omega
    ·
     intro h;omega
   ·
    rw[if_neg c2]
    have:a.toNat=b.toNat:=by omega
    simp[this]
theorem zkW {a b:List UInt8}(h:Go.leB a b=true)(hne:a≠b):zH a b<0:=by
 have h':a≤b:=of_decide_eq_true h
 have h2:¬b<a:=by
  rw[←List.not_lt]at h'
  exact h'
 rw[zk9]at h2
 have:=jm a b
 have h0:zH a b≠0:=fun e=>hne (YG e)
 omega
section
variable {V:Type}
theorem zck {m:GMap Str V}{l:List (Str×V)}(h:zI m l):(vm m).Perm (l.map (·.1)):=by
 rw[zgJ h]
 have:=(List.mergeSort_perm (l.map fun x=>x.1.b) Go.leB).map Str.mk
 rw[List.map_map]at this
 exact this
theorem zef {m:GMap Str V}{l:List (Str×V)}(h:zI m l):(vm m).Pairwise (fun a b=>zH a.b b.b<0):=by
 have hnd:(vm m).Nodup:=(zck h).nodup_iff.2 h.nodup
 rw[zgJ h]at hnd⊢
 rw[List.pairwise_map]
 have tr:∀a b c:List UInt8,Go.leB a b=true→Go.leB b c=true→Go.leB a c=true:=fun a b c h1 h2=>by simp only[Go.leB,decide_eq_true_eq]at *;exact List.le_trans h1 h2
 have tt:∀a b:List UInt8,(Go.leB a b || Go.leB b a)=true:=fun a b=>by simp only[Go.leB,Bool.or_eq_true,decide_eq_true_eq];exact List.le_total a b
 have hp:=List.pairwise_mergeSort tr tt (l.map fun x=>x.1.b)
 rw[List.nodup_iff_pairwise_ne,List.pairwise_map]at hnd
 exact(hp.and hnd).imp fun⟨a,b⟩=>zkW a (fun e=>b (congrArg Str.mk e))
theorem zee {m:GMap Str V}{l:List (Str×V)}(h:zI m l){k:Str}:k∈vm m↔m.has k=true:=by
 rw[(zck h).mem_iff,List.mem_map]
 unfold GMap.has
 constructor
 ·
  rintro⟨x,hx,rfl⟩
  rw[(h.mem x.1 x.2).1 hx];rfl
 ·
  intro hk
  cases e:m.f k with
  | none=>rw[e]at hk;cases hk
  | some v=>exact⟨(k,v),(h.mem k v).2 e,rfl⟩
theorem zgK {m:GMap Str V}{l:List (Str×V)}(h:zI m l):(vm m).length=l.length:=by rw[(zck h).length_eq,List.length_map]
theorem zkO {W:Type}{m:GMap Str V}{l:List (Str×V)}(h:zI m l)(z:V)(f:Str→V→W):((vm m).map fun k=>f k (m.getD k z)).Perm (l.map fun x=>f x.1 x.2):=by
 have h1:=(zck h).map fun k=>f k (m.getD k z)
 rw[List.map_map]at h1
 have e:l.map ((fun k=>f k (m.getD k z))∘(·.1))=l.map fun x=>f x.1 x.2:=List.map_congr_left fun x hx=>by
  have:=(h.mem x.1 x.2).1 hx
  simp only[Function.comp,GMap.getD,this,Option.getD_some]
 rw[e]at h1
 exact h1
end
noncomputable def qa (e:GMap Str Str):List zR:=(vm e).map fun f=>⟨f,e.getD f Str.nil⟩
noncomputable def Qu (m:GMap Str (GMap Str Str)):List zu:=(vm m).map fun k=>⟨k,qa (m.getD k GMap.nil)⟩
theorem zoq {e:GMap Str Str}{l:List (Str×Str)}(h:zI e l)(hn:l.length≤4611686018427387903):zfa (l.map fun x=>⟨x.1,x.2⟩)=some (qa e):=by
 unfold zfa
 rw[zf ⟨by rw[List.length_map];omega,fun _ _=>trivial⟩]
 congr 1
 have hO:Sort.SWO (Proofs.ltOf vX):=by
  have h:∀x y:{ x:zR // J8 x },Proofs.ltOf vX x y=decide (zH x.1.Field.b y.1.Field.b<0):=fun x y=>rfl
  constructor
  ·
   intro x;rw[h,vx];rfl
  ·
   intro x y z h1 h2
   rw[h]at *
   simp only[decide_eq_true_eq]at *
   exact(Qa (by omega) (by omega)).2 (.inl h1)
  ·
   intro x y z h1 h2
   rw[h]at *
   simp only[decide_eq_false_iff_not,Int.not_lt]at *
   have e1:=jm x.1.Field.b y.1.Field.b
   have e2:=jm y.1.Field.b z.1.Field.b
   have e3:=jm x.1.Field.b z.1.Field.b
   have:=(Qa (a:=z.1.Field.b) (b:=y.1.Field.b) (c:=x.1.Field.b) (by omega) (by omega)).1
   omega
 obtain⟨p1,p2⟩:=zhT (l:=l.map fun x=>(⟨x.1,x.2⟩:zR)) (Q:=J8) (cf:=vX) hO (fun _ _=>trivial)
 have hs:(qa e).Pairwise (Qk fun x:zR=>x.Field):=by
  unfold qa
  rw[List.pairwise_map]
  exact(zef h).imp fun h=>h
 have hp:(qa e).Perm (l.map fun x=>(⟨x.1,x.2⟩:zR)):=zkO h Str.nil fun k v=>(⟨k,v⟩:zR)
 refine zhX (Qk fun x:zR=>x.Field) (zkN _) (p1.trans hp.symm) ?_ hs
 rw[List.pairwise_iff_getElem]
 intro i j hi hj hij
 have hlt:=p2 i j hij hj trivial trivial
 have hne:(y9 vX (l.map fun x=>(⟨x.1,x.2⟩:zR)))[i].Field≠(y9 vX (l.map fun x=>(⟨x.1,x.2⟩:zR)))[j].Field:=fun e=>by
  have hnd:((y9 vX (l.map fun x=>(⟨x.1,x.2⟩:zR))).map (·.Field)).Nodup:=by
   refine(p1.map _).nodup_iff.2 ?_
   rw[List.map_map]
   exact h.nodup
  rw[List.nodup_iff_pairwise_ne,List.pairwise_iff_getElem]at hnd
  have:=hnd i j (by rw[List.length_map];exact hi) (by rw[List.length_map];exact hj) hij
  rw[List.getElem_map,List.getElem_map]at this
  exact this e
 generalize (y9 vX (l.map fun x=>(⟨x.1,x.2⟩:zR)))[i]=a at *
 generalize (y9 vX (l.map fun x=>(⟨x.1,x.2⟩:zR)))[j]=b at *
 have hlt':¬zH b.Field.b a.Field.b<0:=hlt
 show zH a.Field.b b.Field.b<0
 have hsw:=jm a.Field.b b.Field.b
 have h0:zH a.Field.b b.Field.b≠0:=fun e=>hne (ze5 (YG e))
 omega
theorem zgS {K V τ σ:Type}{step:K→V→σ→Option σ}(mk:List τ→σ)(g:K×V→τ)(N:Nat):∀(l:List (K×V)) (s:List τ),s.length+l.length≤N→(∀x∈l,∀s:List τ,s.length<N→step x.1 x.2 (mk s)=some (mk (s++[g x])))→qp step l (mk s)=some (mk (s++l.map g))
 | [],s,_,_=>by simp[qp]
 | x::l,s,hN,h=>by
  simp only[List.length_cons]at hN
  simp only[qp,h x (by simp) s (by omega),Option.bind_some]
  rw[zgS mk g N l (s++[g x]) (by simp only[List.length_append,List.length_singleton];omega) (fun y hy=>h y (by simp[hy]))]
  simp
def Small (m:GMap Str (GMap Str Str))(N:Nat):Prop:=(∃l,zI m l∧l.length≤N)∧∀k e,m.f k=some e→∃l,zI e l∧l.length≤N
theorem zsa {e:GMap Str Str}{l0:List (Str×Str)}(h:zI e l0)(hn:l0.length≤2199023255551)(k:Str){s:List zu}(hs:s.length≤2199023255551):zdJ k e s=some (s++[⟨k,qa e⟩]):=by
 unfold zdJ
 refine zll h fun l hl=>?_
 have hll:l.length=l0.length:=(hl.perm h).length_eq
 refine⟨_,zgS (fun s=>(⟨k,s⟩:zu)) (fun x=>(⟨x.1,x.2⟩:zR)) 2199023255551 l [] (by simp;omega) (fun x _ s hs=>?_),?_⟩
 ·
  unfold zf4
  rw[zf (by show _≤2199023255552;simp only[List.length_singleton];omega)]
 ·
  simp only[List.nil_append]
  rw[zoq hl (by omega),Option.bind_some,zf (by show _≤2199023255552;simp only[List.length_singleton];omega)]
theorem zns {m:GMap Str (GMap Str Str)}{l:List (Str×GMap Str Str)}(h:zI m l):(Qu m).Pairwise (Qk fun x:zu=>x.Id):=by
 unfold Qu
 rw[List.pairwise_map]
 exact(zef h).imp fun h=>h
theorem zk0 {m:GMap Str (GMap Str Str)}(hm:Small m 2199023255551):zaC m=some (Qu m):=by
 obtain⟨⟨l0,h0,hn⟩,hin⟩:=hm
 unfold zaC
 refine zll h0 fun l hl=>?_
 have hll:l.length=l0.length:=(hl.perm h0).length_eq
 refine⟨_,zgS (fun s:List zu=>s) (fun x=>(⟨x.1,qa x.2⟩:zu)) 2199023255551 l [] (by simp;omega) (fun x hx s hs=>?_),?_⟩
 ·
  obtain⟨le,hle,hne⟩:=hin x.1 x.2 ((hl.mem x.1 x.2).1 hx)
  exact zsa hle (by omega) x.1 (by omega)
 ·
  simp only[List.nil_append]
  unfold zhS
  rw[zf ⟨by rw[List.length_map];omega,by rw[List.map_map];exact hl.nodup⟩,Option.bind_some]
  congr 1
  exact znA (zkO hl GMap.nil fun k e=>(⟨k,qa e⟩:zu)) (zns hl)
end
noncomputable def doM (m:GMap Str (GMap Str Str))(x:DOp):GMap Str (GMap Str Str):=if x.Kind=2 then m.del x.Id else m.set x.Id ((m.getD x.Id GMap.nil).set x.Field x.Value)
theorem zk2 {K V:Type}[DecidableEq K]{m:GMap K V}{l:List (K×V)}(h:zI m l)(k:K)(v:V):∃l',zI (m.set k v) l'∧l'.length≤l.length+1:=by
 by_cases hx:∃x∈l,x.1=k
 ·
  obtain⟨x,hx,rfl⟩:=hx
  obtain⟨j,hj⟩:=List.getElem?_of_mem hx
  exact⟨_,h.put hj,by rw[List.length_set];omega⟩
 ·
  exact⟨_,h.push (fun x hx' e=>hx ⟨x,hx',e⟩),by simp⟩
theorem zhA {K V:Type}[DecidableEq K]{m:GMap K V}{k:K}{v:V}:(m.set k v).has k=true:=by unfold GMap.has GMap.set;simp
theorem zhz {K V:Type}[DecidableEq K]{m:GMap K V}{k:K}{v z:V}:(m.set k v).getD k z=v:=by unfold GMap.getD GMap.set;simp
theorem zmO {K V:Type}[DecidableEq K]{m:GMap K V}{k:K}{v u:V}:(m.set k v).set k u=m.set k u:=by
 unfold GMap.set
 congr 1
 funext x
 by_cases e:x=k<;>simp[e]
theorem YT {K V:Type}{m:GMap K V}{k:K}{z:V}(h:m.has k=false):m.getD k z=z:=by
 unfold GMap.has at h
 unfold GMap.getD
 cases q:m.f k with
 | none=>rfl
 | some v=>rw[q]at h;cases h
theorem zjn (m:GMap Str (GMap Str Str))(x:DOp):zbX m x=some (doM m x):=by
 unfold zbX doM
 by_cases hk:x.Kind=2
 ·
  rw[decide_eq_true hk,if_pos hk];rfl
 ·
  rw[decide_eq_false hk,if_neg hk,cond_false]
  cases hh:m.has x.Id with
  | true=>
   simp only[Bool.not_true,cond_false,Option.bind_some]
   rw[zf hh]
  | false=>
   simp only[Bool.not_false,cond_true,Option.bind_some]
   rw[zf zhA,zhz,zmO,YT hh]
def jQ (l:List zR):GMap Str Str:=l.foldl (fun e a=>e.set a.Field a.Value) GMap.nil
def zG (l:List zu):GMap Str (GMap Str Str):=l.foldl (fun m t=>m.set t.Id (jQ t.Attrs)) GMap.nil
theorem zcl {V A:Type}(kf:A→Str)(vf:A→V):∀(l:List A) (m:GMap Str V) (l0:List (Str×V)),zI m l0→((l0.map (·.1))++l.map kf).Nodup→zI (l.foldl (fun m x=>m.set (kf x) (vf x)) m) (l0++l.map fun x=>(kf x,vf x))
 | [],m,l0,h,_=>by simpa using h
 | x::l,m,l0,h,hn=>by
  rw[List.foldl_cons,List.map_cons]
  have hnx:∀y∈l0,y.1≠kf x:=fun y hy e=>by
   rw[List.nodup_append]at hn
   exact hn.2.2 y.1 (List.mem_map.2 ⟨y,hy,rfl⟩) (kf x) (by simp) e
  have:=zcl kf vf l _ _ (h.push hnx (v:=vf x)) (by simpa [List.map_append,List.append_assoc]using hn)
  simpa [List.append_assoc]using this
theorem zly {A:Type}(kf:A→Str){l:List A}(h:l.Pairwise (fun a b=>zH (kf a).b (kf b).b<0)):(l.map kf).Nodup:=by
 rw[List.nodup_iff_pairwise_ne,List.pairwise_map]
 exact h.imp fun {a b} hlt e=>by rw[e,vx]at hlt;omega
theorem zan {l:List zR}(h:l.Pairwise (fun a b=>zH a.Field.b b.Field.b<0)):zI (jQ l) (l.map fun a=>(a.Field,a.Value)):=by
 have:=zcl (fun a:zR=>a.Field) (fun a=>a.Value) l GMap.nil [] zI.nil (by simpa using zly (fun a:zR=>a.Field) h)
 rw[List.nil_append]at this
 exact this
theorem zaU {l:List zu}(h:l.Pairwise (fun a b=>zH a.Id.b b.Id.b<0)):zI (zG l) (l.map fun a=>(a.Id,jQ a.Attrs)):=by
 have:=zcl (fun a:zu=>a.Id) (fun a=>jQ a.Attrs) l GMap.nil [] zI.nil (by simpa using zly (fun a:zu=>a.Id) h)
 rw[List.nil_append]at this
 exact this
theorem zvg (a:Str):¬zH a.b a.b<0:=by rw[vx];omega
theorem zvf (a b:Str)(h:zH a.b b.b<0)(h':zH b.b a.b<0):False:=by
 have:=jm a.b b.b
 omega
theorem zed {V A:Type}{kf:A→Str}{vf:A→V}{m:GMap Str V}{l:List A}(hL:zI m (l.map fun x=>(kf x,vf x)))(h:l.Pairwise (fun a b=>zH (kf a).b (kf b).b<0)):vm m=l.map kf:=by
 refine zm4 (R:=fun a b:Str=>zH a.b b.b<0) zvg zvf (zef hL) (by rw[List.pairwise_map];exact h) fun x=>?_
 rw[(zck hL).mem_iff,List.map_map]
 exact Iff.rfl
theorem zk1 {K V:Type}{m:GMap K V}{l:List (K×V)}(h:zI m l){x:K×V}(hx:x∈l)(z:V):m.getD x.1 z=x.2:=by
 unfold GMap.getD
 rw[(h.mem x.1 x.2).1 hx];rfl
theorem ziD {l:List zR}(h:l.Pairwise (fun a b=>zH a.Field.b b.Field.b<0)):qa (jQ l)=l:=by
 have hL:=zan h
 unfold qa
 rw[zed (kf:=fun a:zR=>a.Field) (vf:=fun a=>a.Value) hL h,List.map_map]
 conv=>rhs;rw[←List.map_id l]
 refine List.map_congr_left fun a ha=>?_
 have:=zk1 hL (x:=(a.Field,a.Value)) (List.mem_map.2 ⟨a,ha,rfl⟩) Str.nil
 simp only[Function.comp]
 rw[this];rfl
theorem zvL {l:List zu}(h:qm l):Qu (zG l)=l:=by
 have hL:=zaU h.ids
 unfold Qu
 rw[zed (kf:=fun a:zu=>a.Id) (vf:=fun a=>jQ a.Attrs) hL h.ids,List.map_map]
 conv=>rhs;rw[←List.map_id l]
 refine List.map_congr_left fun a ha=>?_
 have:=zk1 hL (x:=(a.Id,jQ a.Attrs)) (List.mem_map.2 ⟨a,ha,rfl⟩) GMap.nil
 simp only[Function.comp]
 rw[this]
 simp only
 rw[ziD (h.fields a ha)];rfl
theorem vy {l:List zu}(h:qm l)(k:Str):(zG l).has k=true↔∃t∈l,t.Id=k:=by
 rw[←zee (zaU h.ids),zed (kf:=fun a:zu=>a.Id) (vf:=fun a=>jQ a.Attrs) (zaU h.ids) h.ids,List.mem_map]
theorem zco {l:List zu}(h:qm l){t:zu}(ht:t∈l):(zG l).f t.Id=some (jQ t.Attrs):=((zaU h.ids).mem t.Id _).1 (List.mem_map.2 ⟨t,ht,rfl⟩)
theorem zoM {l:List zR}(h:l.Pairwise (fun a b=>zH a.Field.b b.Field.b<0)){a:zR}(ha:a∈l):(jQ l).f a.Field=some a.Value:=((zan h).mem _ _).1 (List.mem_map.2 ⟨a,ha,rfl⟩)
theorem zfB {l:List zR}(h:l.Pairwise (fun a b=>zH a.Field.b b.Field.b<0))(k:Str):(jQ l).has k=true↔∃a∈l,a.Field=k:=by
 rw[←zee (zan h),zed (kf:=fun a:zR=>a.Field) (vf:=fun a=>a.Value) (zan h) h,List.mem_map]
theorem zsp {l:List zu}(h:qm l):Small (zG l) 2000:=by
 refine⟨⟨_,zaU h.ids,by rw[List.length_map];exact h.len⟩,fun k e hk=>?_⟩
 obtain⟨t,ht,e⟩:=List.mem_map.1 (((zaU h.ids).mem k e).2 hk)
 obtain⟨rfl,rfl⟩:=Prod.mk.inj e
 exact⟨_,zan (h.fields t ht),by rw[List.length_map];have:=(h.some t ht).2;omega⟩
theorem zh1 {l:List zu}(h:qm l):JD l=some (zG l):=by
 have hl:=h.len
 unfold JD
 rw[zw]
 obtain⟨m,e1,e2⟩:=QO (n:=(l.length:Int)) (step:=zdH l) (s0:=(GMap.nil:GMap Str (GMap Str Str))) (fun t s=>s=(l.take t).foldl (fun m t=>m.set t.Id (jQ t.Attrs)) GMap.nil) (by omega) rfl (fun i s hi hI=>by
  have hi':i<l.length:=by omega
  have ha:=(h.some _ (List.getElem_mem hi')).2
  unfold zdH
  rw[zf ⟨by omega,by omega⟩,zw,zw,zL hi']
  obtain⟨m,e1,e2⟩:=QO (n:=(l[i].Attrs.length:Int)) (step:=zdI l[i]) (s0:=s.set l[i].Id (GMap.nil:GMap Str Str)) (fun t s'=>s'=s.set l[i].Id (jQ (l[i].Attrs.take t))) (by omega) rfl (fun j s' hj hJ=>by
   have hj':j<l[i].Attrs.length:=by omega
   subst hJ
   unfold zdI
   rw[zf ⟨by omega,by omega⟩,zw,zf zhA,zhz,zmO,zL hj']
   refine⟨_,rfl,?_⟩
   rw[List.take_succ_eq_append_getElem hj']
   unfold jQ
   rw[List.foldl_append];rfl)
  rw[e1,e2]
  refine⟨_,rfl,?_⟩
  rw[show(l[i].Attrs.length:Int).toNat=l[i].Attrs.length by omega,List.take_length,List.take_succ_eq_append_getElem hi',List.foldl_append,←hI];rfl)
 rw[e1,e2,show(l.length:Int).toNat=l.length by omega,List.take_length];rfl
section
def zaw (id:Str):DOp:=⟨⟨0,Str.nil,0⟩,2,id,Str.nil,Str.nil,0⟩
def zbf (id f v:Str):DOp:=⟨⟨0,Str.nil,0⟩,1,id,f,v,0⟩
section
open Classical
noncomputable def Ql (x y:GMap Str (GMap Str Str))(id:Str):Bool:=!(y.has id) || decide (∃f,(x.getD id GMap.nil).has f=true∧(y.getD id GMap.nil).has f=false)
end
noncomputable def Y6 (x y:GMap Str (GMap Str Str))(id:Str):GMap Str Str:=if Ql x y id=true then GMap.nil else x.getD id GMap.nil
def Yl (e:GMap Str Str)(a:zR):Bool:=!(e.has a.Field) || !decide (e.getD a.Field Str.nil=a.Value)
noncomputable def Qt (e:GMap Str Str)(id:Str)(l:List zR):List DOp:=l.flatMap fun a=>if Yl e a=true then [zbf id a.Field a.Value]else []
noncomputable def vV (x y:GMap Str (GMap Str Str))(id:Str):List DOp:=(if Ql x y id=true then [zaw id]else [])++Qt (Y6 x y id) id (qa (y.getD id GMap.nil))
structure Ids (x y:GMap Str (GMap Str Str)) (r:List Str):Prop where
 srt:r.Pairwise (fun a b=>zH a.b b.b<0)
 mem:∀k,k∈r↔x.has k=true∨y.has k=true
theorem zlk {K V:Type}(p:K→Bool){step:K→V→Bool→Option Bool}(h:∀k v s,step k v s=some (s || p k)):∀(l:List (K×V)) (s:Bool),qp step l s=some (s || l.any fun x=>p x.1)
 | [],s=>by simp[qp]
 | x::l,s=>by
  rw[qp,h,Option.bind_some,zlk p h l,List.any_cons,Bool.or_assoc]
theorem zsC {K V:Type}[DecidableEq K]{m:GMap K V}{l0:List (K×V)}(h0:zI m l0)(p:K→Bool){step:K→V→Bool→Option Bool}(h:∀k v s,step k v s=some (s || p k)):∃b,QJ m step false=some b∧(b=true↔∃k,m.has k=true∧p k=true):=by
 refine⟨l0.any fun x=>p x.1,zln h0 fun l hl=>?_,?_⟩
 ·
  rw[zlk p h l,Bool.false_or]
  congr 1
  rw[Bool.eq_iff_iff,List.any_eq_true,List.any_eq_true]
  exact⟨fun⟨y,a,b⟩=>⟨y,(hl.perm h0).mem_iff.1 a,b⟩,fun⟨y,a,b⟩=>⟨y,(hl.perm h0).mem_iff.2 a,b⟩⟩
 ·
  rw[List.any_eq_true]
  constructor
  ·
   rintro⟨y,a,b⟩
   refine⟨y.1,?_,b⟩
   unfold GMap.has
   rw[(h0.mem y.1 y.2).1 a];rfl
  ·
   rintro⟨k,a,b⟩
   unfold GMap.has at a
   cases c:m.f k with
   | none=>rw[c]at a;cases a
   | some v=>exact⟨(k,v),(h0.mem k v).2 c,b⟩
open Classical in
theorem zsj {x y:GMap Str (GMap Str Str)}{id:Str}{b:Bool}(h:b=true↔∃k,(x.getD id GMap.nil).has k=true∧(!(y.getD id GMap.nil).has k)=true)(hy:y.has id=true):Ql x y id=b:=by
 unfold Ql
 rw[hy,Bool.not_true,Bool.false_or,Bool.eq_iff_iff,decide_eq_true_eq,h]
 simp only[Bool.not_eq_true']
theorem zmP {e:GMap Str Str}{id:Str}:∀l:List zR,(Qt e id l).length≤l.length
 | []=>by simp[Qt]
 | a::l=>by
  have:=zmP (e:=e) (id:=id) l
  unfold Qt at *
  rw[List.flatMap_cons,List.length_append,List.length_cons]
  split<;>simp only[List.length_singleton,List.length_nil]<;>omega
section
variable {a b:List zu}
theorem zkg {l:List zu}(h:qm l)(id:Str):∃q,zI ((zG l).getD id GMap.nil) q∧q.length≤20:=by
 cases c:(zG l).has id with
 | true=>
  obtain⟨t,ht,rfl⟩:=(vy h id).1 c
  have:=zco h ht
  refine⟨t.Attrs.map fun a=>(a.Field,a.Value),?_,by rw[List.length_map];exact(h.some t ht).2⟩
  unfold GMap.getD
  rw[this];exact zan (h.fields t ht)
 | false=>rw[YT c];exact⟨[],zI.nil,by simp⟩
theorem zca {l:List zu}(h:qm l){t:zu}(ht:t∈l):qa ((zG l).getD t.Id GMap.nil)=t.Attrs:=by
 have:=zco h ht
 unfold GMap.getD
 rw[this]
 exact ziD (h.fields t ht)
theorem zfC:qa (GMap.nil:GMap Str Str)=[]:=by unfold qa;rw[zr2];rfl
theorem zrj {l:List zu}(h:qm l)(id:Str):(qa ((zG l).getD id GMap.nil)).length≤20:=by
 obtain⟨q,hq,hl⟩:=zkg h id
 unfold qa
 rw[List.length_map,zgK hq];exact hl
theorem zt8 (hb:qm b)(x:GMap Str (GMap Str Str))(id:Str):(vV x (zG b) id).length≤21:=by
 unfold vV
 rw[List.length_append]
 have h1:=zmP (e:=Y6 x (zG b) id) (id:=id) (qa ((zG b).getD id GMap.nil))
 have h2:=zrj hb id
 split<;>simp<;>omega
theorem zhy (hb:qm b)(x:GMap Str (GMap Str Str)):∀r:List Str,(r.flatMap (vV x (zG b))).length≤21*r.length
 | []=>by simp
 | k::r=>by
  have:=zt8 hb x k
  have:=zhy hb x r
  rw[List.flatMap_cons,List.length_append,List.length_cons];omega
theorem zlA {α:Type}[BEq α][LawfulBEq α]:∀{r s:List α},r.Nodup→(∀x∈r,x∈s)→r.length≤s.length
 | [],_,_,_=>by simp
 | x::r,s,hn,hs=>by
  have hx:=hs x (by simp)
  obtain⟨h1,h2⟩:=List.nodup_cons.1 hn
  have:=zlA (r:=r) (s:=s.erase x) h2 (fun y hy=>by
   have hne:y≠x:=fun e=>h1 (e▸hy)
   exact(List.mem_erase_of_ne hne).2 (hs y (by simp[hy])))
  rw[List.length_erase_of_mem hx]at this
  have:=List.length_pos_of_mem hx
  simp only[List.length_cons];omega
theorem Ids.len {r:List Str}(ha:qm a)(hb:qm b)(h:Ids (zG a) (zG b) r):r.length≤4000:=by
 have hn:r.Nodup:=by
  rw[List.nodup_iff_pairwise_ne]
  exact h.srt.imp fun {x y} hlt e=>by rw[e,vx]at hlt;omega
 have hs:∀k∈r,k∈a.map (·.Id)++b.map (·.Id):=fun k hk=>by
  rw[List.mem_append,List.mem_map,List.mem_map]
  rcases(h.mem k).1 hk with h | h
  ·
   exact .inl ((vy ha k).1 h)
  ·
   exact .inr ((vy hb k).1 h)
 have h1:=ha.len
 have h2:=hb.len
 have:=zlA hn hs
 simp only[List.length_append,List.length_map]at this
 omega
theorem zt9 {s:List DOp}{id:Str}{e:GMap Str Str}{l:List zR}(hl:l.length≤20)(hs:s.length≤100000):
  yV (l.length:Int) (zaz l id (s,e)) s=some (s++Qt e id l):=by
 rw[zeY (l:=l) (step:=zaz l id (s,e)) (fun a=>if Yl e a=true then [zbf id a.Field a.Value]else []) s (fun f _=>by split<;>simp) (by omega) (fun i s' hi hs'=>by
  unfold zaz
  rw[zf hi,zw]
  show(bif Yl e (gx l i)then _ else _)=_
  cases Yl e (gx l i)with
  | true=>rw[cond_true,zf (by rw[qI];simp only[List.length_singleton];omega)];rfl
  | false=>rw[cond_false];simp)]
 rfl
theorem zt7 (h:qm b)(id:Str):∃(p:Nat) (f:Bool),zbj b id QC=some ((p:Int),f)∧((f=true∧∃hp:p<b.length,b[p].Id=id)∨(f=false∧∀t∈b,t.Id≠id)):=by
 have hl:=h.len
 have hlt:∀i j:Nat,i<j→j<b.length→zH (gx b (i:Int)).Id.b (gx b (j:Int)).Id.b<0:=fun i j hij hj=>by
  rw[zL hj,zL (show i<b.length by omega)]
  exact List.pairwise_iff_getElem.1 h.ids i j (by omega) hj hij
 have hcmp:∀k:Nat,QC (gx b (k:Int)) id=some (zH (gx b (k:Int)).Id.b id.b):=fun k=>by
  unfold QC strings_Compare
  rfl
 unfold zbj
 rw[zw]
 obtain⟨s,s1,s2,s3,s4,s5⟩:=zo7 (body:=zbk b QC id) (fun k=>decide (zH (gx b (k:Int)).Id.b id.b<0)) (lo:=0) (hi:=b.length) (by omega)
  (fun i j _ hij hj=>by
   unfold zbk
   have hm:(i+j) / 2<b.length:=by omega
   simp only
   rw[decide_eq_true (show(i:Int)<(j:Int)by omega),cond_true,zw,zrt (by omega),zf ⟨by omega,by omega⟩,hcmp,Option.bind_some]
   cases decide (zH (gx b (((i+j) / 2:Nat):Int)).Id.b id.b<0)with
   | true=>
    rw[cond_true,if_pos rfl,zw,Wk (by omega) (by omega)]
    congr 1
   | false=>rw[cond_false,if_neg (by simp)])
  (fun i _ hi=>by
   unfold zbk
   simp only
   rw[decide_eq_false (by omega),cond_false])
  (fun u v _ huv hv hp=>by
   have hp:=of_decide_eq_true hp
   rcases Nat.lt_or_eq_of_le huv with c | c
   ·
    have:=hlt u v c hv
    exact decide_eq_true ((Qa (by omega) (by omega)).2 (.inl this))
   ·
    subst c;exact decide_eq_true hp)
 have h5:loop (zbk b QC id) (0,(b.length:Int))=some (s:Int):=s5
 rw[h5,Option.bind_some]
 have hlo:∀k:Nat,k<s→zH (gx b (k:Int)).Id.b id.b<0:=fun k hk=>of_decide_eq_true (s3 k (by omega) hk)
 have hhi:∀k:Nat,s≤k→k<b.length→¬zH (gx b (k:Int)).Id.b id.b<0:=fun k hk hkl=>of_decide_eq_false (s4 k hk hkl)
 by_cases c:s<b.length
 ·
  rw[zf (fun _=>⟨by omega,by omega⟩),decide_eq_true (show(s:Int)<(b.length:Int)by omega),vk,hcmp,Option.bind_some]
  refine⟨s,_,rfl,?_⟩
  by_cases e:zH (gx b (s:Int)).Id.b id.b=0
  ·
   refine .inl ⟨by rw[decide_eq_true e];rfl,c,?_⟩
   have:=YG e
   rw[zL c]at this
   exact ze5 this
  ·
   refine .inr ⟨by rw[decide_eq_false e];rfl,fun t ht he=>?_⟩
   obtain⟨k,hk,rfl⟩:=List.getElem_of_mem ht
   have hk0:zH (gx b (k:Int)).Id.b id.b=0:=by rw[zL hk,he,vx]
   rcases Nat.lt_trichotomy k s with q | q | q
   ·
    have:=hlo k q;omega
   ·
    subst q;exact e hk0
   ·
    have h1:=hhi s (Nat.le_refl _) c
    have h2:=hlt s k q hk
    have:=(Qa (a:=(gx b (s:Int)).Id.b) (b:=(gx b (k:Int)).Id.b) (c:=id.b) (by omega) (by omega)).2 (.inl h2)
    omega
 ·
  rw[decide_eq_false (show ¬(s:Int)<(b.length:Int)by omega),zf (fun h=>by cases h),zkf,Option.bind_some]
  refine⟨s,_,rfl,.inr ⟨rfl,fun t ht he=>?_⟩⟩
  obtain⟨k,hk,rfl⟩:=List.getElem_of_mem ht
  have:=hlo k (by omega)
  rw[zL hk,he,vx]at this
  omega
end
end
def yR (s:List Str):Nat→List Str
 | 0=>[]
 | n+1=>yR s n++(if n=0∨gx s (n:Int)≠gx s ((n:Int) - 1)then [gx s (n:Int)]else [])
theorem zkL (s:List Str):∀n,(yR s n).length≤n
 | 0=>by simp[yR]
 | n+1=>by
  have:=zkL s n
  rw[yR,List.length_append]
  split<;>simp<;>omega
theorem zgI {s:List Str}:∀{n:Nat},n≤s.length→∀x,x∈yR s n↔x∈s.take n
 | 0,_,x=>by simp[yR]
 | n+1,h,x=>by
  have ih:=zgI (s:=s) (n:=n) (by omega) x
  rw[yR,List.mem_append,ih,List.take_succ_eq_append_getElem (by omega),List.mem_append,←zL (l:=s) (i:=n) (by omega)]
  by_cases c:n=0∨gx s (n:Int)≠gx s ((n:Int) - 1)
  ·
   rw[if_pos c]
  ·
   rw[if_neg c]
   have hn:¬n=0:=fun e=>c (.inl e)
   have he:gx s (n:Int)=gx s ((n:Int) - 1):=Decidable.byContradiction fun e=>c (.inr e)
   refine⟨fun h=>h.elim .inl (fun h=>by simp at h),fun h'=>h'.elim .inl (fun h'=>.inl ?_)⟩
   rw[List.mem_singleton.1 h',he,show((n:Int) - 1)=((n - 1:Nat):Int)by omega,zL (by omega)]
   refine List.mem_take_iff_getElem.2 ⟨n - 1,by omega,rfl⟩
theorem zec {s:List Str}:∀{n:Nat},n≤s.length→(∀j:Nat,0<j→j<n→gx s (j:Int)≠gx s ((j:Int) - 1))→yR s n=s.take n
 | 0,_,_=>by simp[yR]
 | n+1,h,hj=>by
  rw[yR,zec (by omega) (fun j h1 h2=>hj j h1 (by omega)),List.take_succ_eq_append_getElem (by omega),←zL (l:=s) (i:=n) (by omega),if_pos]
  by_cases c:n=0
  ·
   exact .inl c
  ·
   exact .inr (hj n (by omega) (by omega))
theorem znZ {s:List Str}{k0:Nat}(h0:0<k0)(h1:k0<s.length)(hl:s.length≤1000000)(hp:∀j:Nat,0<j→j<k0→gx s (j:Int)≠gx s ((j:Int) - 1))(he:gx s (k0:Int)=gx s ((k0:Int) - 1)):
  ∃e:Int×List Str,loop (zcU s (k0:Int)) ((k0:Int),1,s)=some e∧e.1=((yR s s.length).length:Int)∧e.2.length=s.length∧e.2.take (yR s s.length).length=yR s s.length:=by
 obtain⟨e,e1,e2,e3,e4⟩:=zek (body:=zcU s (k0:Int)) (s0:=((k0:Int),1,s))
  (fun st=>∃k2:Nat,st.2.1=(k2:Int)∧1≤k2∧k0+k2≤s.length∧st.1=((yR s (k0+k2)).length:Int)∧(yR s (k0+k2)).length+1≤k0+k2∧st.2.2.length=s.length∧
   st.2.2.take (yR s (k0+k2)).length=yR s (k0+k2)∧st.2.2.drop (k0+k2 - 1)=s.drop (k0+k2 - 1))
  (fun st=>((s.length:Int) - st.2.1).toNat) (fun e=>e.1=((yR s s.length).length:Int)∧e.2.length=s.length∧e.2.take (yR s s.length).length=yR s s.length)
  (by
   have hk:yR s (k0+1)=s.take k0:=by
    rw[yR,if_neg (by rintro(h | h);omega;exact h he),List.append_nil,zec (by omega) hp]
   have hkl:(s.take k0).length=k0:=by simp;omega
   refine⟨1,rfl,by omega,by omega,?_,?_,rfl,?_,rfl⟩
   ·
    rw[hk,hkl]
   ·
    rw[hk,hkl];omega
   ·
    rw[hk,hkl]) (fun st hI=>by
   obtain⟨k2,i1,i2,i3,i4,i5,i6,i7,i8⟩:=hI
   obtain⟨a,b,z⟩:=st
   simp only at i1 i4 i6 i7 i8
   subst i1 i4
   unfold zcU
   simp only
   rw[zf ⟨by omega,by omega,by omega⟩]
   have hz:∀t:Nat,k0+k2 - 1≤t→(ht:t<s.length)→gx z (t:Int)=s[t]:=fun t ht1 ht=>by
    rw[zL (by omega)]
    have h1:(z.drop (k0+k2 - 1))[t - (k0+k2 - 1)]'(by simp;omega)=(s.drop (k0+k2 - 1))[t - (k0+k2 - 1)]'(by simp;omega):=by simp only[i8]
    simp only[List.getElem_drop]at h1
    have e:k0+k2 - 1+(t - (k0+k2 - 1))=t:=by omega
    simpa only[e]using h1
   by_cases c:k0+k2<s.length
   ·
    left
    rw[decide_eq_true (p:=(k2:Int)<(s.length:Int) - (k0:Int)) (by omega),cond_true]
    have ez:gx z ((k0:Int)+(k2:Int))=gx s ((k0+k2:Nat):Int):=by
     rw[show(k0:Int)+(k2:Int)=((k0+k2:Nat):Int)by omega,hz _ (by omega) c,zL c]
    have ez':gx z ((k0:Int)+((k2:Int) - 1))=gx s (((k0+k2:Nat):Int) - 1):=by
     rw[show(k0:Int)+((k2:Int) - 1)=((k0+k2 - 1:Nat):Int)by omega,hz _ (by omega) (by omega),show((k0+k2:Nat):Int) - 1=((k0+k2 - 1:Nat):Int)by omega,zL (by omega)]
    have hkn:yR s (k0+(k2+1))=yR s (k0+k2)++(if gx s ((k0+k2:Nat):Int)≠gx s (((k0+k2:Nat):Int) - 1)then [gx s ((k0+k2:Nat):Int)]else []):=by
     rw[←Nat.add_assoc,yR]
     congr 1
     by_cases q:gx s ((k0+k2:Nat):Int)≠gx s (((k0+k2:Nat):Int) - 1)
     ·
      rw[if_pos q,if_pos (.inr q)]
     ·
      rw[if_neg q,if_neg (fun e=>e.elim (fun e=>by omega) q)]
    rw[Wk (n:=(k2:Int) - 1) (by omega) (by omega)]
    rw[zf ⟨by omega,by omega,by omega⟩,zf ⟨by omega,by omega⟩,zf ⟨by omega,by omega⟩,zf ⟨by omega,by omega,by omega⟩,zf ⟨by omega,by omega⟩,zf ⟨by omega,by omega⟩,ez,ez']
    by_cases q:gx s ((k0+k2:Nat):Int)=gx s (((k0+k2:Nat):Int) - 1)
    ·
     rw[decide_eq_true q,Bool.not_true,cond_false,Option.bind_some,zw,Wk (n:=(k2:Int)+1) (by omega) (by omega)]
     rw[if_neg (fun e=>e q),List.append_nil]at hkn
     refine⟨_,rfl,⟨k2+1,by simp,by omega,by omega,?_,?_,i6,?_,?_⟩,by simp only;omega⟩
     ·
      rw[hkn]
     ·
      rw[hkn];omega
     ·
      rw[hkn];exact i7
     ·
      have h1:(z.drop (k0+k2 - 1)).drop 1=(s.drop (k0+k2 - 1)).drop 1:=by rw[i8]
      rw[List.drop_drop,List.drop_drop]at h1
      rw[show k0+(k2+1) - 1=k0+k2 - 1+1 by omega];exact h1
    ·
     rw[decide_eq_false q,Bool.not_false,cond_true]
     rw[zf ⟨by omega,by omega,by omega⟩,zf ⟨by omega,by omega⟩,zf ⟨by omega,by omega⟩,zw,zf ⟨by omega,by omega⟩,zw,zw,Option.bind_some,zw,Wk (n:=(k2:Int)+1) (by omega) (by omega),Wk (by omega) (by omega)]
     rw[if_pos q]at hkn
     have hkl:(yR s (k0+(k2+1))).length=(yR s (k0+k2)).length+1:=by rw[hkn];simp
     simp only[Int.toNat_natCast]
     refine⟨_,rfl,⟨k2+1,by simp,by omega,by omega,?_,?_,by simp[i6],?_,?_⟩,by simp only;omega⟩
     ·
      simp only;rw[hkl];simp
     ·
      rw[hkl];omega
     ·
      simp only
      rw[hkl,List.take_succ_eq_append_getElem (by simp;omega),List.take_set_of_le (Nat.le_refl _),i7,hkn]
      simp[ez]
     ·
      simp only
      rw[List.drop_set_of_lt (by omega),show k0+(k2+1) - 1=k0+k2 - 1+1 by omega]
      have h1:(z.drop (k0+k2 - 1)).drop 1=(s.drop (k0+k2 - 1)).drop 1:=by rw[i8]
      rw[List.drop_drop,List.drop_drop]at h1
      exact h1
   ·
    right
    obtain hc:k0+k2=s.length:=by omega
    rw[decide_eq_false (p:=(k2:Int)<(s.length:Int) - (k0:Int)) (by omega),cond_false]
    rw[hc]at i7
    exact⟨_,rfl,by simp only[hc],i6,i7⟩)
 exact⟨e,e1,e2,e3,e4⟩
theorem znY {s:List Str}(hl:s.length≤1000000):zcT s=some (yR s s.length):=by
 unfold zcT
 by_cases h2:s.length<2
 ·
  rw[decide_eq_true (p:=(s.length:Int)<2) (by omega),cond_true,zec (Nat.le_refl _) (fun j h1 h3=>by omega),List.take_length]
 ·
  rw[decide_eq_false (p:=(s.length:Int)<2) (by omega),cond_false]
  obtain⟨e,e1,e2⟩:=zek (body:=ze7 s) (s0:=(1:Int)) (fun st=>∃k:Nat,st=(k:Int)∧0<k∧k≤s.length∧∀j:Nat,0<j→j<k→gx s (j:Int)≠gx s ((j:Int) - 1))
   (fun st=>((s.length:Int) - st).toNat) (fun e=>e=Res.ab (yR s s.length)∨(e=Res.nx ()∧yR s s.length=s)) ⟨1,rfl,by omega,by omega,fun j h1 h3=>by omega⟩ (fun st hI=>by
    obtain⟨k,rfl,i1,i2,i3⟩:=hI
    unfold ze7
    by_cases c:k<s.length
    ·
     rw[decide_eq_true (p:=(k:Int)<(s.length:Int)) (by omega),cond_true,Wk (n:=(k:Int) - 1) (by omega) (by omega),zf ⟨by omega,by omega⟩,zf ⟨by omega,by omega⟩]
     by_cases q:gx s (k:Int)=gx s ((k:Int) - 1)
     ·
      right
      obtain⟨e,e1,e2,e3,e4⟩:=znZ i1 c hl i3 q
      have hkl:=zkL s s.length
      rw[decide_eq_true q,cond_true,zf ⟨by omega,by omega,by omega⟩,e1,Option.bind_some,e2,zf ⟨by omega,by omega,by omega⟩,zw,zf ⟨by omega,by omega,by simp;omega⟩,zw]
      refine⟨_,rfl,.inl ?_⟩
      congr 1
      simp only[Int.toNat_natCast]
      unfold seg
      rw[Int.toNat_natCast,e4]
      simp
     ·
      left
      rw[decide_eq_false q,cond_false,yy,zw,Wk (by omega) (by omega)]
      refine⟨_,rfl,⟨k+1,by simp,by omega,by omega,fun j h1 h3=>?_⟩,by omega⟩
      by_cases hj:j=k
      ·
       rw[hj];exact q
      ·
       exact i3 j h1 (by omega)
    ·
     right
     obtain rfl:k=s.length:=by omega
     rw[decide_eq_false (p:=(s.length:Int)<(s.length:Int)) (by omega),cond_false]
     exact⟨_,rfl,.inr ⟨rfl,by rw[zec (Nat.le_refl _) i3,List.take_length]⟩⟩)
  rw[e1]
  rcases e2 with e2 | ⟨e2,e3⟩
  ·
   rw[e2];rfl
  ·
   rw[e2,e3];rfl
section
theorem zu2 (l:List Str):(jb l).Pairwise (fun a b=>Go.leB a.b b.b=true):=by
 have tr:∀a b c:List UInt8,Go.leB a b=true→Go.leB b c=true→Go.leB a c=true:=fun a b c h1 h2=>by simp only[Go.leB,decide_eq_true_eq]at *;exact List.le_trans h1 h2
 have tt:∀a b:List UInt8,(Go.leB a b || Go.leB b a)=true:=fun a b=>by simp only[Go.leB,Bool.or_eq_true,decide_eq_true_eq];exact List.le_total a b
 have hp:=List.pairwise_mergeSort tr tt (l.map fun x=>x.b)
 unfold jb
 rw[List.pairwise_map]
 exact hp
theorem zkM {s:List Str}(h:s.Pairwise (fun a b=>Go.leB a.b b.b=true)):∀{n:Nat},n≤s.length→(yR s n).Pairwise (fun a b=>zH a.b b.b<0)
 | 0,_=>by simp[yR]
 | n+1,hn=>by
  have ih:=zkM h (n:=n) (by omega)
  have hle:∀i j:Nat,(hij:i<j)→(hj:j<s.length)→zH (s[i]'(by omega)).b s[j].b≤0:=fun i j hij hj=>by
   have h1:=List.pairwise_iff_getElem.1 h i j (by omega) hj hij
   by_cases e:(s[i]'(by omega)).b=s[j].b
   ·
    rw[e,vx];omega
   ·
    have:=zkW h1 e;omega
  rw[yR]
  by_cases c:n=0∨gx s (n:Int)≠gx s ((n:Int) - 1)
  ·
   rw[if_pos c]
   refine List.pairwise_append.2 ⟨ih,by simp,fun x hx y hy=>?_⟩
   rw[List.mem_singleton.1 hy,zL (by omega)]
   obtain⟨i,hi,rfl⟩:=List.mem_take_iff_getElem.1 ((zgI (by omega) x).1 hx)
   have hin:i<n:=by omega
   have h1:=hle i n hin (by omega)
   refine Decidable.byContradiction fun hh=>?_
   have h2:zH (s[i]'(by omega)).b (s[n]'(by omega)).b=0:=by omega
   rcases c with c | c
   ·
    omega
   ·
    apply c
    rw[zL (by omega),show(n:Int) - 1=((n - 1:Nat):Int)by omega,zL (by omega)]
    by_cases q:i=n - 1
    ·
     subst q;exact(ze5 (YG h2)).symm
    ·
     have h3:=hle i (n - 1) (by omega) (by omega)
     have h4:=hle (n - 1) n (by omega) (by omega)
     have h5:=(Qa h3 h4).2
     refine(ze5 (YG ?_)).symm
     by_cases q2:zH (s[n - 1]'(by omega)).b (s[n]'(by omega)).b<0
     ·
      have:=h5 (.inr q2);omega
     ·
      omega
  ·
   rw[if_neg c,List.append_nil];exact ih
theorem zn0 {a b:List zu}(ha:a.length≤2000)(hb:b.length≤2000):zcV [a,b]=some (a++b):=by
 unfold zcV
 rw[za9 (by simp)]
 have i0:inR [a,b] 0:=⟨by omega,by simp⟩
 have i1:inR [a,b] 1:=⟨by omega,by simp⟩
 have g0:gx [a,b] 0=a:=rfl
 have g1:gx [a,b] 1=b:=rfl
 have s0:Jd [a,b] 0 0=some (a.length:Int):=by
  unfold Jd
  rw[zf i0,zw,g0,Int.zero_add,Wk (by omega) (by omega),decide_eq_false (by omega),cond_false]
 have s1:Jd [a,b] 1 (a.length:Int)=some ((a.length:Int)+b.length):=by
  unfold Jd
  rw[zf i1,zw,g1,Wk (by omega) (by omega),decide_eq_false (by omega),cond_false]
 have t0:Je [a,b] 0 []=some a:=by
  unfold Je
  rw[zf i0,g0,zf (by rw[qI];simp;omega)];rfl
 have t1:Je [a,b] 1 a=some (a++b):=by
  unfold Je
  rw[zf i1,g1,zf (by rw[qI];omega)]
 have r1:rgo (Jd [a,b]) (([a,b]:List (List zu)).length:Int).toNat 0 0=some ((a.length:Int)+b.length):=by
  show rgo (Jd [a,b]) 2 0 0=_
  simp only[rgo,s0,show(0+1:Int)=1 from rfl,s1]
 have hg:ze9 ((a.length:Int)+b.length)=some []:=by unfold ze9;rw[zf ⟨by omega,by omega⟩]
 rw[r1,Option.bind_some,hg,Option.bind_some]
 have r2:rgo (Je [a,b]) (([a,b]:List (List zu)).length:Int).toNat 0 []=some (a++b):=by
  show rgo (Je [a,b]) 2 0 []=_
  simp only[rgo,t0,show(0+1:Int)=1 from rfl,t1]
 rw[za9 (by simp),r2,Option.bind_some]
variable {a b:List zu}
theorem zn3 (ha:vY a=0)(hb:vY b=0):z7 (([a,b]:List (List zu)).length:Int) (YK [a,b]) (fun s=>(Res.nx s:Res Unit (List DOp×Int))) ()=some (Res.nx ()):=by
 rw[zhm (by simp)]
 have e0:YK [a,b] 0 ()=some (.nx ()):=by
  unfold YK
  rw[zf ⟨by omega,by simp⟩]
  show Option.bind (Q6 a) _=_
  rw[zc8,ha];rfl
 have e1:YK [a,b] 1 ()=some (.nx ()):=by
  unfold YK
  rw[zf ⟨by omega,by simp⟩]
  show Option.bind (Q6 b) _=_
  rw[zc8,hb];rfl
 show Qr (YK [a,b]) (fun s=>Res.nx s) 2 0 ()=_
 simp only[Qr,e0,show(0+1:Int)=1 from rfl,e1]
theorem zn2 (ha0:vY a=0)(hb0:vY b=0):∃r,Ids (zG a) (zG b) r∧zay a b=some (r.flatMap (vV (zG a) (zG b)),0):=by
 have ha:=zfk ha0
 have hb:=zfk hb0
 have hal:=ha.len
 have hbl:=hb.len
 have hsl:(jb ((a++b).map (·.Id))).length=a.length+b.length:=by rw[zfb,List.length_map,List.length_append]
 have hr:Ids (zG a) (zG b) (yR (jb ((a++b).map (·.Id))) (jb ((a++b).map (·.Id))).length):=by
  refine⟨zkM (zu2 _) (Nat.le_refl _),fun k=>?_⟩
  rw[zgI (Nat.le_refl _),List.take_length,(zm3 _).mem_iff,List.map_append,List.mem_append,vy ha,vy hb,List.mem_map,List.mem_map]
 refine⟨_,hr,?_⟩
 generalize hrr:yR (jb ((a++b).map (·.Id))) (jb ((a++b).map (·.Id))).length=r at hr
 have hrl:=hr.len ha hb
 unfold zay
 rw[zw,zn3 ha0 hb0,yy,zh1 ha,Option.bind_some,zh1 hb,Option.bind_some,zn0 hal hbl,Option.bind_some]
 rw[zeY (l:=a++b) (step:=zdw (a++b)) (fun t=>[t.Id]) [] (fun _ _=>by simp) (by simp;omega) (fun i s hi hs=>by
  unfold zdw
  rw[zf hi,zw,zf (by rw[qI];simp only[List.length_singleton];omega)]),Option.bind_some,List.nil_append,←List.map_eq_flatMap]
 unfold slices_Sort_string
 rw[zf (by rw[List.length_map,List.length_append];omega),Option.bind_some,znY (s:=jb ((a++b).map (·.Id))) (by omega),Option.bind_some,hrr]
 obtain⟨o,e1,e2⟩:=QO (n:=(r.length:Int)) (step:=zdx b r (zG b) (zG a)) (s0:=([]:List DOp)) (fun t s=>s=(r.take t).flatMap (vV (zG a) (zG b))) (by omega) rfl (fun i s hi hI=>by
  have hi':i<r.length:=by omega
  have hsl:s.length≤100000 - 21:=by
   have:=zhy hb (zG a) (r.take i)
   rw[hI]
   rw[List.length_take]at this;omega
  unfold zdx
  rw[zf ⟨by omega,by omega⟩,zw,zw,zL hi']
  obtain⟨q,hq,_⟩:=zkg ha r[i]
  obtain⟨bl,g1,g2⟩:=zsC hq (fun k=>!((zG b).getD r[i] GMap.nil).has k) (step:=zdy r[i] (zG b)) (fun k v s=>by
   unfold zdy
   cases(!((zG b).getD r[i] GMap.nil).has k)with
   | true=>rw[cond_true,Bool.or_true]
   | false=>rw[cond_false,Bool.or_false])
  rw[g1,Option.bind_some]
  have hlost:bl=Ql (zG a) (zG b) r[i]:=by
   cases c:(zG b).has r[i]with
   | true=>exact(zsj g2 c).symm
   | false=>
    have hx:(zG a).has r[i]=true:=by
     rcases(hr.mem r[i]).1 (List.getElem_mem hi')with e | e
     ·
      exact e
     ·
      rw[c]at e;cases e
    obtain⟨t,ht,he⟩:=(vy ha _).1 hx
    have hsome:=(ha.some t ht).1
    have:bl=true:=g2.2 (by
     refine⟨(t.Attrs[0]'hsome).Field,?_,?_⟩
     ·
      unfold GMap.getD
      rw[←he,zco ha ht]
      exact(zfB (ha.fields t ht) _).2 ⟨_,List.getElem_mem hsome,rfl⟩
     ·
      rw[YT c];rfl)
    rw[this];unfold Ql;rw[c];rfl
  rw[hlost]
  obtain⟨p,f,h1,h2⟩:=zt7 hb r[i]
  have hfin:r.take (i+1)=r.take i++[r[i]]:=List.take_succ_eq_append_getElem hi'
  rw[hfin,List.flatMap_append,←hI]
  simp only[List.flatMap_cons,List.flatMap_nil,List.append_nil]
  have hbody:∀(s':List DOp) (e:GMap Str Str),s'.length≤100000→(Option.bind (zbj b r[i] QC) fun r4=>bif !r4.2 then(some (s',e).1)else(zg (inR b r4.1) <| bnd ((gx b r4.1).Attrs) fun v3=>yV (v3.length:Int) (zaz v3 r[i] (s',e)) (s',e).1))=some (s'++Qt e r[i] (qa ((zG b).getD r[i] GMap.nil))):=fun s' e hs'=>by
   rw[h1,Option.bind_some]
   rcases h2 with⟨rfl,hp,he⟩ | ⟨rfl,hno⟩
   ·
    simp only[Bool.not_true,cond_false]
    rw[zf ⟨by omega,by omega⟩,zw,zL hp,←he,zca hb (List.getElem_mem hp)]
    exact zt9 (hb.some _ (List.getElem_mem hp)).2 hs'
   ·
    have:(zG b).has r[i]=false:=by
     cases c:(zG b).has r[i]with
     | false=>rfl
     | true=>
      obtain⟨t,ht,he⟩:=(vy hb _).1 c
      exact absurd he (hno t ht)
    rw[YT this,zfC]
    simp[Qt]
  cases c:Ql (zG a) (zG b) r[i]with
  | true=>
   rw[cond_true,zf (by rw[qI];simp only[List.length_singleton];omega),zw,zw,Option.bind_some]
   refine⟨_,hbody (s++[zaw r[i]]) GMap.nil (by simp only[List.length_append,List.length_singleton];omega),?_⟩
   unfold vV Y6
   rw[if_pos c,if_pos c,List.append_assoc]
  | false=>
   rw[cond_false,Option.bind_some]
   refine⟨_,hbody s _ (by omega),?_⟩
   unfold vV Y6
   rw[if_neg (by rw[c];decide),if_neg (by rw[c];decide),List.nil_append])
 rw[e1,e2,Option.bind_some,show(r.length:Int).toNat=r.length by omega,List.take_length]
end
abbrev TM:=GMap Str (GMap Str Str)
def qY (s:TM)(x:DOp):Int:=
 if x.Kind≠1∧x.Kind≠2 then 1 else if zO x.Id=false∨(x.Kind=1∧zO x.Field=false)then 5 else
 if x.Kind=1 then ym x.Value else if s.has x.Id=false then 10 else 0
abbrev ApR:=Res TM (List zu×Int)
noncomputable def Jr (x:DOp)(s:TM):Option (Res TM ApR):=some (if qY s x=0 then .nx (doM s x)else .ab (.ab (([]:List zu),qY s x)))
theorem znQ (ops:List DOp)(i:Int)(s:TM)(hi:inR ops i):zdt ops i s=Jr (gx ops i) s:=by
 unfold zdt Jr
 rw[zf hi,zw,zw]
 generalize gx ops i=x
 by_cases hk:x.Kind≠1∧x.Kind≠2
 ·
  rw[decide_eq_false hk.1,decide_eq_false hk.2]
  have:qY s x=1:=by unfold qY;rw[if_pos hk]
  rw[this];rfl
 ·
  have hb:(!decide (x.Kind=1)&&!decide (x.Kind=2))=false:=by
   rw[Bool.eq_false_iff];intro e
   simp only[Bool.and_eq_true,Bool.not_eq_true',decide_eq_false_iff_not]at e
   exact hk e
  rw[hb,cond_false,zd9,Option.bind_some,zd9]
  simp only[zw]
  cases hn:zO x.Id with
  | false=>
   have:qY s x=5:=by unfold qY;rw[if_neg hk,if_pos (.inl hn)]
   rw[this];rfl
  | true=>
   by_cases h1:x.Kind=1
   ·
    rw[decide_eq_true h1]
    simp only[Bool.not_true,cond_false,vk,Option.bind_some,Bool.true_and]
    cases hf:zO x.Field with
    | false=>
     have:qY s x=5:=by unfold qY;rw[if_neg hk,if_pos (.inr ⟨h1,hf⟩)]
     rw[this];rfl
    | true=>
     have:qY s x=ym x.Value:=by
      unfold qY
      rw[if_neg hk,if_neg (fun e=>by rcases e with e | e;rw[hn]at e;cases e;rw[hf]at e;cases e.2),if_pos h1]
     rw[this,Bool.not_true,cond_false,cond_true,zc7,Option.bind_some]
     by_cases ht:ym x.Value=0
     ·
      rw[decide_eq_true ht,if_pos ht,Bool.not_true,cond_false,yy,zjn];rfl
     ·
      rw[decide_eq_false ht,if_neg ht];rfl
   ·
    rw[decide_eq_false h1]
    simp only[Bool.not_true,cond_false,zkf,Option.bind_some,Bool.false_and]
    cases hh:s.has x.Id with
    | false=>
     have:qY s x=10:=by
      unfold qY
      rw[if_neg hk,if_neg (fun e=>by rcases e with e | e;rw[hn]at e;cases e;exact h1 e.1),if_neg h1,if_pos hh]
     rw[this];rfl
    | true=>
     have:qY s x=0:=by
      unfold qY
      rw[if_neg hk,if_neg (fun e=>by rcases e with e | e;rw[hn]at e;cases e;exact h1 e.1),if_neg h1,if_neg (by rw[hh];decide)]
     rw[this,Bool.not_true,cond_false,yy,zjn];rfl
theorem zgl {K V:Type}{m:GMap K V}{k:K}{v z:V}(h:m.f k=some v):m.getD k z=v:=by unfold GMap.getD;rw[h];rfl
section
def jA (l:List DOp)(s s':TM):Prop:=∀q,q7 Jr (fun s=>(Res.nx s:ApR)) (l++q) s=q7 Jr (fun s=>(Res.nx s:ApR)) q s'
theorem jA.nil (s:TM):jA [] s s:=fun q=>rfl
theorem jA.one {x:DOp}{s:TM}(h:qY s x=0):jA [x] s (doM s x):=fun q=>by
 show q7 Jr _ (x::q) s=_
 rw[q7]
 unfold Jr
 rw[if_pos h]
theorem jA.app {l m:List DOp}{s t u:TM}(h1:jA l s t)(h2:jA m t u):jA (l++m) s u:=fun q=>by
 rw[List.append_assoc,h1,h2]
theorem zaL {K V:Type}{m:GMap K V}{k:K}:m.has k=true↔∃v,m.f k=some v:=by
 unfold GMap.has
 cases m.f k with
 | none=>simp
 | some v=>simp
theorem zhB {K V:Type}[DecidableEq K]{m:GMap K V}{k j:K}{v:V}(h:j≠k):(m.set k v).f j=m.f j:=if_neg h
theorem zud {K V:Type}[DecidableEq K]{m:GMap K V}{k:K}{v:V}:(m.set k v).f k=some v:=if_pos rfl
theorem ze1 {id:Str}(hid:zO id=true){e:GMap Str Str}:∀(l:List zR) (s:TM),(∀a∈l,zO a.Field=true∧ym a.Value=0)→l.Pairwise (fun a b=>zH a.Field.b b.Field.b<0)→
  (∀a∈l,(s.getD id GMap.nil).f a.Field=e.f a.Field)→
  ∃s',jA (Qt e id l) s s'∧(∀k,k≠id→s'.f k=s.f k)∧(∀a∈l,(s'.getD id GMap.nil).f a.Field=some a.Value)∧(∀f,(∀a∈l,a.Field≠f)→(s'.getD id GMap.nil).f f=(s.getD id GMap.nil).f f)∧
   (s'.has id=true↔s.has id=true∨∃a∈l,Yl e a=true)
 | [],s,_,_,_=>⟨s,jA.nil s,fun _ _=>rfl,(fun a h=>by cases h),fun _ _=>rfl,by simp⟩
 | a::l,s,hok,hp,he=>by
  obtain⟨hp1,hp2⟩:=List.pairwise_cons.1 hp
  have hne:∀b∈l,b.Field≠a.Field:=fun b hb c=>by
   have:=hp1 b hb
   rw[c,vx]at this;omega
  have hsplit:Qt e id (a::l)=(if Yl e a=true then [zbf id a.Field a.Value]else [])++Qt e id l:=by
   unfold Qt;rw[List.flatMap_cons]
  rw[hsplit]
  by_cases c:Yl e a=true
  ·
   rw[if_pos c]
   have hdo:doM s (zbf id a.Field a.Value)=s.set id ((s.getD id GMap.nil).set a.Field a.Value):=by
    unfold doM;rw[if_neg (by show ¬(1:Int)=2;decide)];rfl
   have hap:qY s (zbf id a.Field a.Value)=0:=by
    obtain⟨h1,h2⟩:=hok a (by simp)
    unfold qY zbf
    simp only[hid,h1]
    simp[h2]
   have hg:(s.set id ((s.getD id GMap.nil).set a.Field a.Value)).getD id GMap.nil=(s.getD id GMap.nil).set a.Field a.Value:=zhz
   obtain⟨s',h1,h2,h3,h4,h5⟩:=ze1 hid (e:=e) l (s.set id ((s.getD id GMap.nil).set a.Field a.Value)) (fun b hb=>hok b (by simp[hb])) hp2 (fun b hb=>by
    rw[hg,zhB (hne b hb)]
    exact he b (by simp[hb]))
   refine⟨s',(by rw[←hdo]at h1;exact(jA.one hap).app h1),fun k hk=>(h2 k hk).trans (zhB hk),fun b hb=>?_,fun f hf=>?_,?_⟩
   ·
    rcases List.mem_cons.1 hb with rfl | hb
    ·
     rw[h4 _ (fun x hx=>hne x hx),hg,zud]
    ·
     exact h3 b hb
   ·
    rw[h4 f (fun x hx=>hf x (by simp[hx])),hg,zhB (fun q=>hf a (by simp) q.symm)]
   ·
    rw[h5]
    exact⟨fun _=>.inr ⟨a,by simp,c⟩,fun _=>.inl zhA⟩
  ·
   rw[if_neg c,List.nil_append]
   obtain⟨s',h1,h2,h3,h4,h5⟩:=ze1 hid (e:=e) l s (fun b hb=>hok b (by simp[hb])) hp2 (fun b hb=>he b (by simp[hb]))
   refine⟨s',h1,h2,fun b hb=>?_,fun f hf=>h4 f (fun x hx=>hf x (by simp[hx])),?_⟩
   ·
    rcases List.mem_cons.1 hb with rfl | hb
    ·
     rw[h4 _ (fun x hx=>hne x hx),he b (by simp)]
     unfold Yl at c
     simp only[Bool.or_eq_true,Bool.not_eq_true',decide_eq_false_iff_not,not_or]at c
     obtain⟨c1,c2⟩:=c
     have c1:e.has b.Field=true:=by simpa using c1
     have c2:e.getD b.Field Str.nil=b.Value:=Decidable.byContradiction fun q=>c2 q
     obtain⟨v,hv⟩:=zaL.1 c1
     rw[hv,←c2,zgl hv]
    ·
     exact h3 b hb
   ·
    rw[h5]
    constructor
    ·
     rintro(h | ⟨b,hb,h⟩)
     ·
      exact .inl h
     ·
      exact .inr ⟨b,by simp[hb],h⟩
    ·
     rintro(h | ⟨b,hb,h⟩)
     ·
      exact .inl h
     ·
      rcases List.mem_cons.1 hb with rfl | hb
      ·
       exact absurd h c
      ·
       exact .inr ⟨b,hb,h⟩
variable {a b:List zu}
theorem zlb {K V:Type}{m n:GMap K V}(h:∀k,m.f k=n.f k):m=n:=by
 cases m;cases n
 congr 1
 funext k;exact h k
theorem zrk (h:qm b)(id:Str):(qa ((zG b).getD id GMap.nil)).Pairwise (fun a b=>zH a.Field.b b.Field.b<0)∧∀a∈qa ((zG b).getD id GMap.nil),zO a.Field=true∧ym a.Value=0:=by
 cases c:(zG b).has id with
 | true=>
  obtain⟨t,ht,rfl⟩:=(vy h id).1 c
  rw[zca h ht]
  exact⟨h.fields t ht,h.field t ht⟩
 | false=>
  rw[YT c,zfC]
  exact⟨List.Pairwise.nil,fun a h=>by cases h⟩
open Classical in
theorem zub (ha:qm a)(hb:qm b){r:List Str}(hr:Ids (zG a) (zG b) r){id:Str}(hid:id∈r){s:TM}(hs:s.f id=(zG a).f id):
  ∃s',jA (vV (zG a) (zG b) id) s s'∧(∀k,k≠id→s'.f k=s.f k)∧s'.f id=(zG b).f id:=by
 have hname:zO id=true:=by
  rcases(hr.mem id).1 hid with h | h
  ·
   obtain⟨t,ht,rfl⟩:=(vy ha id).1 h
   exact ha.id t ht
  ·
   obtain⟨t,ht,rfl⟩:=(vy hb id).1 h
   exact hb.id t ht
 obtain⟨hp,hok⟩:=zrk hb id
 have hsx:s.has id=(zG a).has id:=by unfold GMap.has;rw[hs]
 have hsg:s.getD id GMap.nil=(zG a).getD id GMap.nil:=by unfold GMap.getD;rw[hs]
 have fin:∀s':TM,(∀x∈qa ((zG b).getD id GMap.nil),(s'.getD id GMap.nil).f x.Field=some x.Value)→(∀f,(∀x∈qa ((zG b).getD id GMap.nil),x.Field≠f)→(s'.getD id GMap.nil).f f=none)→(s'.has id=(zG b).has id)→s'.f id=(zG b).f id:=fun s' h1 h2 h3=>by
  cases c:(zG b).has id with
  | false=>
   rw[c]at h3
   unfold GMap.has at c h3
   rw[Option.isSome_eq_false_iff,Option.isNone_iff_eq_none]at c h3
   rw[c,h3]
  | true=>
   rw[c]at h3
   obtain⟨t,ht,rfl⟩:=(vy hb id).1 c
   obtain⟨v,hv⟩:=zaL.1 h3
   rw[zco hb ht,hv]
   congr 1
   rw[zca hb ht,zgl hv]at h1 h2
   refine zlb fun f=>?_
   by_cases q:∃x∈t.Attrs,x.Field=f
   ·
    obtain⟨x,hx,rfl⟩:=q
    rw[h1 x hx,zoM (hb.fields t ht) hx]
   ·
    rw[h2 f (fun x hx e=>q ⟨x,hx,e⟩)]
    cases w:(jQ t.Attrs).f f with
    | none=>rfl
    | some u=>exact absurd ((zfB (hb.fields t ht) f).1 (zaL.2 ⟨u,w⟩)) q
 have hother:∀(e:GMap Str Str),(∃x∈qa ((zG b).getD id GMap.nil),Yl e x=true)→(zG b).has id=true:=fun e ⟨x,hx,_⟩=>by
  cases c:(zG b).has id with
  | true=>rfl
  | false=>rw[YT c,zfC]at hx;cases hx
 have hall:(zG b).has id=true→∃x,x∈qa ((zG b).getD id GMap.nil):=fun c=>by
  obtain⟨t,ht,rfl⟩:=(vy hb id).1 c
  rw[zca hb ht]
  exact⟨_,List.getElem_mem (hb.some t ht).1⟩
 unfold vV
 by_cases c:Ql (zG a) (zG b) id=true
 ·
  have ho:Y6 (zG a) (zG b) id=GMap.nil:=by unfold Y6;rw[if_pos c]
  have hx:(zG a).has id=true:=by
   unfold Ql at c
   rw[Bool.or_eq_true,Bool.not_eq_true',decide_eq_true_eq]at c
   rcases c with c | ⟨f,h1,_⟩
   ·
    rcases(hr.mem id).1 hid with h | h
    ·
     exact h
    ·
     rw[c]at h;cases h
   ·
    cases q:(zG a).has id with
    | true=>rfl
    | false=>rw[YT q]at h1;cases h1
  rw[if_pos c,ho]
  have hap:qY s (zaw id)=0:=by
   unfold qY zaw
   simp only[hname,hsx,hx]
   simp
  have hdo:doM s (zaw id)=s.del id:=by unfold doM;rw[if_pos (show(zaw id).Kind=2 from rfl)];rfl
  have hdn:(s.del id).f id=none:=if_pos rfl
  have hdg:(s.del id).getD id GMap.nil=GMap.nil:=by unfold GMap.getD;rw[hdn];rfl
  have hdk:∀k,k≠id→(s.del id).f k=s.f k:=fun k hk=>if_neg hk
  obtain⟨s',h1,h2,h3,h4,h5⟩:=ze1 hname (e:=GMap.nil) _ (s.del id) hok hp (fun x _=>by rw[hdg])
  refine⟨s',(by rw[←hdo]at h1;exact(jA.one hap).app h1),fun k hk=>(h2 k hk).trans (hdk k hk),fin s' h3 (fun f hf=>by rw[h4 f hf,hdg];rfl) ?_⟩
  rw[Bool.eq_iff_iff,h5]
  constructor
  ·
   rintro(h | h)
   ·
    unfold GMap.has at h;rw[hdn]at h;cases h
   ·
    exact hother _ h
  ·
   intro h
   obtain⟨x,hx⟩:=hall h
   exact .inr ⟨x,hx,rfl⟩
 ·
  have ho:Y6 (zG a) (zG b) id=(zG a).getD id GMap.nil:=by unfold Y6;rw[if_neg c]
  rw[if_neg c,List.nil_append,ho]
  have cf:Ql (zG a) (zG b) id=false:=by simpa using c
  unfold Ql at cf
  rw[Bool.or_eq_false_iff,Bool.not_eq_false',decide_eq_false_iff_not]at cf
  obtain⟨c1,c2⟩:=cf
  obtain⟨s',h1,h2,h3,h4,h5⟩:=ze1 hname (e:=(zG a).getD id GMap.nil) _ s hok hp (fun x _=>by rw[hsg])
  refine⟨s',h1,h2,fin s' h3 (fun f hf=>?_) ?_⟩
  ·
   rw[h4 f hf,hsg]
   cases w:((zG a).getD id GMap.nil).f f with
   | none=>rfl
   | some u=>
    exfalso
    have hy:((zG b).getD id GMap.nil).has f=true:=by
     cases q:((zG b).getD id GMap.nil).has f with
     | true=>rfl
     | false=>exact absurd ⟨f,zaL.2 ⟨u,w⟩,q⟩ c2
    obtain⟨t,ht,he⟩:=(vy hb id).1 c1
    subst he
    rw[zca hb ht]at hf
    rw[zgl (zco hb ht)]at hy
    obtain⟨x,hx,e⟩:=(zfB (hb.fields t ht) f).1 hy
    exact hf x hx e
  ·
   rw[Bool.eq_iff_iff,h5]
   refine⟨fun _=>c1,fun _=>?_⟩
   obtain⟨x,hx⟩:=hall c1
   cases q:s.has id with
   | true=>exact .inl rfl
   | false=>
    refine .inr ⟨x,hx,?_⟩
    rw[hsx]at q
    rw[YT q];rfl
theorem zmN (ha:qm a)(hb:qm b){r:List Str}(hr:Ids (zG a) (zG b) r):∀(p:List Str) (s:TM),p.Nodup→(∀k∈p,k∈r)→(∀k∈p,s.f k=(zG a).f k)→
  ∃s',jA (p.flatMap (vV (zG a) (zG b))) s s'∧(∀k∈p,s'.f k=(zG b).f k)∧∀k,k∉p→s'.f k=s.f k
 | [],s,_,_,_=>⟨s,jA.nil s,(fun k h=>by cases h),fun _ _=>rfl⟩
 | id::p,s,hn,hm,hs=>by
  obtain⟨hn1,hn2⟩:=List.nodup_cons.1 hn
  obtain⟨t,t1,t2,t3⟩:=zub ha hb hr (hm id (by simp)) (hs id (by simp))
  obtain⟨u,u1,u2,u3⟩:=zmN ha hb hr p t hn2 (fun k hk=>hm k (by simp[hk])) (fun k hk=>by rw[t2 k (fun e=>hn1 (e▸hk))];exact hs k (by simp[hk]))
  refine⟨u,by rw[List.flatMap_cons];exact t1.app u1,fun k hk=>?_,fun k hk=>?_⟩
  ·
   rcases List.mem_cons.1 hk with rfl | hk
   ·
    rw[u3 k hn1,t3]
   ·
    exact u2 k hk
  ·
   rw[List.mem_cons,not_or]at hk
   rw[u3 k hk.2,t2 k hk.1]
theorem zpV (ha:qm a)(hb:qm b){r:List Str}(hr:Ids (zG a) (zG b) r):jA (r.flatMap (vV (zG a) (zG b))) (zG a) (zG b):=by
 have hn:r.Nodup:=by
  rw[List.nodup_iff_pairwise_ne]
  exact hr.srt.imp fun {x y} hlt e=>by rw[e,vx]at hlt;omega
 obtain⟨s,h1,h2,h3⟩:=zmN ha hb hr r (zG a) hn (fun k h=>h) (fun k _=>rfl)
 have:s=zG b:=zlb fun k=>by
  by_cases c:k∈r
  ·
   exact h2 k c
  ·
   rw[h3 k c]
   have h:=fun q=>c ((hr.mem k).2 q)
   have e1:(zG a).f k=none:=by
    cases w:(zG a).f k with
    | none=>rfl
    | some v=>exact absurd (.inl (zaL.2 ⟨v,w⟩)) h
   have e2:(zG b).f k=none:=by
    cases w:(zG b).f k with
    | none=>rfl
    | some v=>exact absurd (.inr (zaL.2 ⟨v,w⟩)) h
   rw[e1,e2]
 rw[this]at h1;exact h1
theorem znP (ha0:vY a=0)(hb0:vY b=0){r:List Str}(hr:Ids (zG a) (zG b) r):zax a (r.flatMap (vV (zG a) (zG b)))=some (b,0):=by
 have ha:=zfk ha0
 have hb:=zfk hb0
 have hl:=zhy hb (zG a) r
 have hrl:=hr.len ha hb
 unfold zax
 rw[zc8,ha0,Option.bind_some,decide_eq_true (rfl:(0:Int)=0),Bool.not_true,cond_false,zh1 ha,Option.bind_some,zcJ Jr (by omega) (fun i s hi=>znQ _ i s hi)]
 have:=zpV ha hb hr []
 rw[List.append_nil]at this
 have hs:Small (zG b) 2199023255551:=by
  obtain⟨⟨q,x,y⟩,z⟩:=zsp hb
  exact⟨⟨q,x,by omega⟩,fun k e hk=>by obtain⟨q,x,y⟩:=z k e hk;exact⟨q,x,by omega⟩⟩
 rw[this]
 show yc (σ:=TM) (ρ:=List zu×Int) (some (Res.nx (zG b))) _=_
 rw[yy,zk0 hs,Option.bind_some,zvL hb,zc8,hb0];rfl
end
noncomputable def zlC (s:Str):Option Int:=match JB s with
 | some (n,true)=>some n
 | _=>none
noncomputable def zgY:List Str→Option (List Int)
 | []=>some []
 | s::l=>match zlC s with
  | none=>none
  | some n=>(zgY l).map (n:: ·)
def zic (s:Str):List Str:=(Qb 32 (s.b.count 32) s.b).map Str.mk
section
noncomputable def zbz (l:List Str)(b:Str):Int:=match QQ l b with
 | some k=>if 0<k then k else 0
 | none=>0
open Classical in
noncomputable def zjB (s:Str):Option yg:=match zic s with
 | [a,b,c]=>if a=Str.nil∨zbz qi b=0 then none else(zlC c).map fun n=>⟨a,zbz qi b,n⟩
 | _=>none
def zlS:List Int→List zJ
 | x::y::r=>⟨x,y⟩::zlS r
 | _=>[]
abbrev jZ:Str:=⟨[107,105,110,100]⟩
abbrev kZ:Str:=⟨[122]⟩
abbrev j3:Str:=⟨[116,101,120,116]⟩
abbrev jY:Str:=⟨[99,108,97,115,115]⟩
abbrev YZ:Str:=⟨[112,97,114,101,110,116]⟩
abbrev JO:Str:=⟨[108,111,99,107,101,100]⟩
abbrev JP:Str:=⟨[112,108,97,99,101]⟩
abbrev zcj:Str:=⟨[102,114,111,109]⟩
abbrev kTo:Str:=⟨[116,111]⟩
abbrev YY:Str:=⟨[98,101,110,100,115]⟩
abbrev zia:Str:=⟨[121,101,115]⟩
abbrev zh9:Str:=⟨[101,100,103,101]⟩
def okT (f:GMap Str Str)(k:Str):Prop:=¬(f.has k=true∧f.getD k Str.nil=Str.nil)
end
section
noncomputable def zth (s:Str):Option (List zJ):=(zgY (zic s)).bind fun ns=>if ns.length % 2=1 then none else some (zlS ns)
structure zn6 (f:GMap Str Str):Prop where
 only:∀k,f.has k=true→k∈[jZ,kZ,j3,jY,zcj,kTo,YY]
 text:okT f j3
 cls:okT f jY
structure zn7 (f:GMap Str Str) (K:Int):Prop where
 only:∀k,f.has k=true→k∈[jZ,kZ,j3,jY,YZ,JO]∨(k=JP∧K≠6)
 text:okT f j3
 cls:okT f jY
 par:okT f YZ
 lock:f.has JO=true→f.getD JO Str.nil=zia
def zo2:List Int→Option Box
 | [x,y,w,h]=>some ⟨x,y,w,h⟩
 | _=>none
open Classical in
noncomputable def zww (id:Str)(f:GMap Str Str):Option zA:=
 (zjB (f.getD zcj Str.nil)).bind fun a=>(zjB (f.getD kTo Str.nil)).bind fun b=>
 (if f.has YY=true then zth (f.getD YY Str.nil)else some []).bind fun p=>
 if zn6 f then some ⟨id,a,b,p,f.getD j3 Str.nil,f.getD jY Str.nil⟩else none
open Classical in
noncomputable def zwz (id:Str)(f:GMap Str Str):Option zl:=
 if zbz y6 (f.getD jZ Str.nil)=0 then none else
 (if zbz y6 (f.getD jZ Str.nil)=6 then some qb else(zgY (zic (f.getD JP Str.nil))).bind zo2).bind fun b=>
 if zn7 f (zbz y6 (f.getD jZ Str.nil))then some ⟨id,zbz y6 (f.getD jZ Str.nil),b,f.getD j3 Str.nil,f.getD jY Str.nil,f.getD YZ Str.nil,f.has JO⟩else none
end
theorem zgm {K V:Type}{a b:GMap K V}(h:∀k,a.f k=b.f k):a=b:=by
 cases a;cases b
 congr 1
 funext k
 exact h k
def setN (f:GMap Str Str)(k v:Str):GMap Str Str:=if v=Str.nil then f else f.set k v
theorem zbg {V:Type}(m:GMap Str V)(k x:Str)(v:V):(m.set k v).f x=if x=k then some v else m.f x:=rfl
theorem Jb (m:GMap Str Str)(k v x:Str):(setN m k v).f x=if x=k∧v≠Str.nil then some v else m.f x:=by
 unfold setN
 by_cases h:v=Str.nil
 ·
  rw[if_pos h,if_neg (fun e=>e.2 h)]
 ·
  rw[if_neg h,zbg]
  by_cases e:x=k
  ·
   rw[if_pos e,if_pos ⟨e,h⟩]
  ·
   rw[if_neg e,if_neg (fun q=>e q.1)]
theorem zdZ {k:Str}:∀(l:List (Str×Str)) (s:GMap Str Str),(∀v,(k,v)∈l→v=Str.nil)→(l.foldl (fun s x=>setN s x.1 x.2) s).f k=s.f k
 | [],s,_=>rfl
 | x::l,s,h=>by
  rw[List.foldl_cons,zdZ l _ (fun v hv=>h v (by simp[hv])),Jb]
  by_cases e:k=x.1
  ·
   have:x.2=Str.nil:=h x.2 (by rw[e];simp)
   rw[if_neg (fun q=>q.2 this)]
  ·
   rw[if_neg (fun q=>e q.1)]
theorem zka {k v:Str}(hv:v≠Str.nil):∀(l:List (Str×Str)) (s:GMap Str Str),(l.map (·.1)).Nodup→(k,v)∈l→(l.foldl (fun s x=>setN s x.1 x.2) s).f k=some v
 | x::l,s,hn,hm=>by
  rw[List.map_cons,List.nodup_cons]at hn
  rw[List.foldl_cons]
  rcases List.mem_cons.1 hm with h | h
  ·
   subst h
   rw[zdZ l _ (fun w hw=>absurd (List.mem_map.2 ⟨(k,w),hw,rfl⟩) hn.1),Jb,if_pos ⟨rfl,hv⟩]
  ·
   exact zka hv l _ hn.2 h
def zaZ (s M:GMap Str Str):GMap Str Str:=⟨fun k=>match M.f k with
 | some v=>if v=Str.nil then s.f k else some v
 | none=>s.f k⟩
theorem zlW {M:GMap Str Str}{step:Str→Str→GMap Str Str→Option (GMap Str Str)}(hs:∀k e s,step k e s=some (setN s k e))(hl:∃l,zI M l)(s0:GMap Str Str):QJ M step s0=some (zaZ s0 M):=by
 obtain⟨l0,h0⟩:=hl
 refine zln h0 fun l hl=>?_
 have key:∀(l:List (Str×Str)) (s:GMap Str Str),qp step l s=some (l.foldl (fun s x=>setN s x.1 x.2) s):=fun l=>by
  induction l with
  | nil=>intro s;rfl
  | cons x l ih=>intro s;rw[qp,hs,Option.bind_some,ih];rfl
 rw[key]
 congr 1
 refine zgm fun k=>?_
 unfold zaZ
 simp only
 cases e:M.f k with
 | none=>exact zdZ l s0 fun v hv=>by rw[(hl.mem k v).1 hv]at e;cases e
 | some v=>
  simp only
  by_cases hv:v=Str.nil
  ·
   rw[if_pos hv]
   exact zdZ l s0 fun w hw=>by
    rw[(hl.mem k w).1 hw]at e
    rw[Option.some.inj e];exact hv
  ·
   rw[if_neg hv]
   exact zka hv l s0 hl.nodup ((hl.mem k v).2 e)
theorem zlJ (s:GMap Str Str):zaZ s GMap.nil=s:=zgm fun k=>rfl
theorem zct {s M:GMap Str Str}{k v:Str}(h:M.f k=none):zaZ s (M.set k v)=setN (zaZ s M) k v:=zgm fun x=>by
 rw[Jb]
 unfold zaZ
 simp only[zbg]
 by_cases e:x=k
 ·
  subst e
  rw[if_pos rfl]
  by_cases hv:v=Str.nil
  ·
   rw[if_neg (fun q=>q.2 hv),h]
   exact if_pos hv
  ·
   rw[if_pos ⟨rfl,hv⟩]
   exact if_neg hv
 ·
  rw[if_neg e,if_neg (fun q=>e q.1)]
def qn {V:Type}(m:GMap Str V)(n:Nat):Prop:=∃l,zI m l∧l.length≤n
theorem qn.nil {V:Type}:qn (GMap.nil:GMap Str V) 0:=⟨[],zI.nil,Nat.le_refl _⟩
theorem qn.set {V:Type}{m:GMap Str V}{n:Nat}(h:qn m n)(k:Str)(v:V):qn (m.set k v) (n+1):=by
 obtain⟨l,h1,h2⟩:=h
 obtain⟨l',a,b⟩:=zk2 h1 k v
 exact⟨l',a,by omega⟩
theorem qn.more {V:Type}{m:GMap Str V}{n k:Nat}(h:qn m n)(hk:n≤k):qn m k:=by
 obtain⟨l,h1,h2⟩:=h
 exact⟨l,h1,by omega⟩
theorem qn.setN {m:GMap Str Str}{n:Nat}(h:qn m n)(k v:Str):qn (setN m k v) (n+1):=by
 unfold DB.setN
 split
 ·
  exact h.more (by omega)
 ·
  exact h.set k v
def Y5 (n:zl)(i:Int):GMap Str Str:=((GMap.nil:GMap Str Str).set jZ (gx y6 n.Kind)).set kZ (yf i)
def Qo (n:zl)(i:Int):GMap Str Str:=if n.Kind=6 then Y5 n i else(Y5 n i).set JP ⟨jr (jd n.Box)⟩
def JW (n:zl)(i:Int):GMap Str Str:=setN (setN (setN (Qo n i) j3 n.Text) jY n.Class) YZ n.Parent
def vn (n:zl)(i:Int):GMap Str Str:=if n.Locked=true then(JW n i).set JO zia else JW n i
def YJ (x:zA)(i:Int):GMap Str Str:=((((GMap.nil:GMap Str Str).set jZ zh9).set zcj ⟨vg x.From⟩).set kTo ⟨vg x.To⟩).set kZ (yf i)
def QA (x:zA)(i:Int):GMap Str Str:=if x.Bends=[]then YJ x i else(YJ x i).set YY ⟨jr (yT x.Bends)⟩
def Q5 (x:zA)(i:Int):GMap Str Str:=setN (setN (QA x i) j3 x.Text) jY x.Class
def JX (d:Doc)(k:Nat):GMap Str (GMap Str Str):=(List.range k).foldl (fun m (i:Nat)=>m.set (gx d.Nodes (i:Int)).Id (vn (gx d.Nodes (i:Int)) (i:Int))) GMap.nil
def Jz (d:Doc)(k:Nat):GMap Str (GMap Str Str):=(List.range k).foldl (fun m (i:Nat)=>m.set (gx d.Edges (i:Int)).Id (Q5 (gx d.Edges (i:Int)) (i:Int))) (JX d d.Nodes.length)
def Jy (d:Doc):GMap Str (GMap Str Str):=Jz d d.Edges.length
theorem zlx (d:Doc)(k:Nat):JX d (k+1)=(JX d k).set (gx d.Nodes (k:Int)).Id (vn (gx d.Nodes (k:Int)) (k:Int)):=by
 unfold JX
 rw[List.range_succ,List.foldl_append];rfl
theorem zjt (d:Doc)(k:Nat):Jz d (k+1)=(Jz d k).set (gx d.Edges (k:Int)).Id (Q5 (gx d.Edges (k:Int)) (k:Int)):=by
 unfold Jz
 rw[List.range_succ,List.foldl_append];rfl
theorem zlu (n:zl)(i:Int):qn (vn n i) 20:=by
 have h0:qn (Y5 n i) 2:=(qn.nil.set _ _).set _ _
 have h1:qn (Qo n i) 3:=by
  unfold Qo
  split
  ·
   exact h0.more (by omega)
  ·
   exact h0.set _ _
 have h2:qn (JW n i) 6:=((h1.setN _ _).setN _ _).setN _ _
 unfold vn
 split
 ·
  exact(h2.set _ _).more (by omega)
 ·
  exact h2.more (by omega)
theorem zjq (x:zA)(i:Int):qn (Q5 x i) 20:=by
 have h0:qn (YJ x i) 4:=(((qn.nil.set _ _).set _ _).set _ _).set _ _
 have h1:qn (QA x i) 5:=by
  unfold QA
  split
  ·
   exact h0.more (by omega)
  ·
   exact h0.set _ _
 exact((h1.setN _ _).setN _ _).more (by omega)
theorem zm0 {m:GMap Str (GMap Str Str)}{N:Nat}(h:Small m N){e:GMap Str Str}(he:qn e 20)(hN:20≤N)(k:Str):Small (m.set k e) (N+1):=by
 obtain⟨⟨l,h1,h2⟩,h3⟩:=h
 obtain⟨l',a,b⟩:=zk2 h1 k e
 refine⟨⟨l',a,by omega⟩,fun x y hx=>?_⟩
 have hx':(if x=k then some e else m.f x)=some y:=hx
 split at hx'
 ·
  obtain rfl:=Option.some.inj hx'
  obtain⟨l,c,q⟩:=he
  exact⟨l,c,by omega⟩
 ·
  obtain⟨l,c,q⟩:=h3 x y hx'
  exact⟨l,c,by omega⟩
theorem zlw (d:Doc):∀k,Small (JX d k) (20+k)
 | 0=>⟨⟨[],zI.nil,Nat.zero_le _⟩,fun k e h=>by cases h⟩
 | k+1=>by
  rw[zlx]
  exact zm0 (zlw d k) (zlu _ _) (by omega) _
theorem zjs (d:Doc):∀k,Small (Jz d k) (20+d.Nodes.length+k)
 | 0=>zlw d d.Nodes.length
 | k+1=>by
  rw[zjt]
  exact zm0 (zjs d k) (zjq _ _) (by omega) _
theorem zp0 {d:Doc}(hn:d.Nodes.length≤500)(he:d.Edges.length≤1000):Small (Jy d) 2199023255551:=by
 obtain⟨⟨l,h1,h2⟩,h3⟩:=zjs d d.Edges.length
 refine⟨⟨l,h1,by omega⟩,fun k e hk=>?_⟩
 obtain⟨l,a,b⟩:=h3 k e hk
 exact⟨l,a,by omega⟩
theorem zkw {i:Nat}(h:i≤1000000):InI (i:Int):=by unfold InI;omega
theorem zvO {d:Doc}{i:Nat}(hi:i<d.Nodes.length)(hl:d.Nodes.length≤500)(hT:jK d.Nodes[i])(s:GMap Str (GMap Str Str)):zbU d (i:Int) s=some (s.set d.Nodes[i].Id (vn d.Nodes[i] (i:Int))):=by
 have hL2:∀k e s,zdE k e s=some (setN s k e):=fun k e s=>by
  unfold zdE setN
  by_cases h:e=Str.nil
  ·
   rw[decide_eq_true h,if_pos h];rfl
  ·
   rw[decide_eq_false h,if_neg h];rfl
 unfold zbU
 rw[zf ⟨by omega,by omega⟩,zw,zL hi,zda,Option.bind_some,zf (zkP hT.k1 hT.k2),zbF (zkw (by omega)),Option.bind_some,zw]
 have h1:(bif !decide (d.Nodes[i].Kind=6)then(Option.bind (Qe [d.Nodes[i].Box.X,d.Nodes[i].Box.Y,d.Nodes[i].Box.W_,d.Nodes[i].Box.H]) fun r3=>some ((Y5 d.Nodes[i] (i:Int)).set JP r3))else some (Y5 d.Nodes[i] (i:Int)))=some (Qo d.Nodes[i] (i:Int)):=by
  unfold Qo
  by_cases h:d.Nodes[i].Kind=6
  ·
   rw[decide_eq_true h,if_pos h];rfl
  ·
   rw[decide_eq_false h,if_neg h,Bool.not_false,cond_true]
   have:=zdb (l:=jd d.Nodes[i].Box) (show 4≤1000000 by decide) (ziK hT)
   unfold jd at this
   rw[this];rfl
 have h2:∃l,zI ((((GMap.nil:GMap Str Str).set j3 d.Nodes[i].Text).set jY d.Nodes[i].Class).set YZ d.Nodes[i].Parent) l:=by
  obtain⟨l,a,_⟩:=((qn.nil.set j3 d.Nodes[i].Text).set jY d.Nodes[i].Class).set YZ d.Nodes[i].Parent
  exact⟨l,a⟩
 have h3:=zlW hL2 h2 (Qo d.Nodes[i] (i:Int))
 rw[zct rfl,zct rfl,zct rfl,zlJ]at h3
 refine(congrArg (fun o=>Option.bind o _) h1).trans ?_
 rw[Option.bind_some]
 refine(congrArg (fun o=>Option.bind o _) h3).trans ?_
 rw[Option.bind_some]
 unfold vn JW
 cases d.Nodes[i].Locked<;>rfl
theorem zvN {d:Doc}{i:Nat}(hi:i<d.Edges.length)(hl:d.Edges.length≤1000)(hT:jJ d.Edges[i])(s:GMap Str (GMap Str Str)):zbV d (i:Int) s=some (s.set d.Edges[i].Id (Q5 d.Edges[i] (i:Int))):=by
 have hL4:∀k e s,zdF k e s=some (setN s k e):=fun k e s=>by
  unfold zdF setN
  by_cases h:e=Str.nil
  ·
   rw[decide_eq_true h,if_pos h];rfl
  ·
   rw[decide_eq_false h,if_neg h];rfl
 have hfew:=hT.few
 unfold zbV
 rw[zf ⟨by omega,by omega⟩,zw,zL hi,zc9 hT.from_,Option.bind_some,zc9 hT.to_,Option.bind_some,zbF (zkw (by omega)),Option.bind_some,zw]
 have h1:(bif decide (0<(d.Edges[i].Bends.length:Int))then(Option.bind (JA d.Edges[i].Bends) fun r7=>Option.bind (Qe r7) fun r8=>some ((YJ d.Edges[i] (i:Int)).set YY r8))else some (YJ d.Edges[i] (i:Int)))=some (QA d.Edges[i] (i:Int)):=by
  unfold QA
  by_cases h:d.Edges[i].Bends=[]
  ·
   rw[if_pos h,decide_eq_false (by rw[h];decide),cond_false]
  ·
   have:=List.length_pos_iff.2 h
   have hc:=YH d.Edges[i].Bends
   rw[if_neg h,decide_eq_true (by omega),cond_true,zih (by omega),Option.bind_some,zdb (by omega) (zi3 hT)];rfl
 have h2:∃l,zI (((GMap.nil:GMap Str Str).set j3 d.Edges[i].Text).set jY d.Edges[i].Class) l:=by
  obtain⟨l,a,_⟩:=(qn.nil.set j3 d.Edges[i].Text).set jY d.Edges[i].Class
  exact⟨l,a⟩
 have h3:=zlW hL4 h2 (QA d.Edges[i] (i:Int))
 rw[zct rfl,zct rfl,zlJ]at h3
 refine(congrArg (fun o=>Option.bind o _) h1).trans ?_
 rw[Option.bind_some]
 refine(congrArg (fun o=>Option.bind o _) h3).trans ?_
 rw[Option.bind_some];rfl
theorem ziw {d:Doc}(h:jk d)(hc:jE d=some 0):YN d=some (Qu (Jy d),0):=by
 have hn:=h.nl
 have he:=h.el
 unfold YN
 rw[hc,Option.bind_some,decide_eq_true rfl,Bool.not_true,cond_false,zw]
 obtain⟨m1,a1,a2⟩:=QO (n:=(d.Nodes.length:Int)) (step:=zbU d) (s0:=(GMap.nil:GMap Str (GMap Str Str))) (fun k s=>s=JX d k) (by omega) rfl (fun i s hi hI=>by
  have hi':i<d.Nodes.length:=by omega
  exact⟨_,zvO hi' hn (h.nodeT (List.getElem_mem hi')) s,by rw[zlx,zL hi',hI]⟩)
 rw[show(d.Nodes.length:Int).toNat=d.Nodes.length by omega]at a2
 obtain⟨m2,b1,b2⟩:=QO (n:=(d.Edges.length:Int)) (step:=zbV d) (s0:=m1) (fun k s=>s=Jz d k) (by omega) a2 (fun i s hi hI=>by
  have hi':i<d.Edges.length:=by omega
  exact⟨_,zvN hi' he (h.edgeT (List.getElem_mem hi')) s,by rw[zjt,zL hi',hI]⟩)
 rw[show(d.Edges.length:Int).toNat=d.Edges.length by omega]at b2
 rw[a1,Option.bind_some,b1,Option.bind_some,b2,show Jz d d.Edges.length=Jy d from rfl,zk0 (zp0 hn he)];rfl
theorem znC:∀(k:Nat) (l:List UInt8),(∀b∈l,b.toNat<128)→Go.Lib.validGoD k l=true
 | 0,_,_=>rfl
 | k+1,[],_=>by rw[Go.Lib.validGoD,if_pos rfl]
 | k+1,b::l,h=>by
  have hb:=h b (by simp)
  rw[Go.Lib.validGoD,if_neg (by simp),Go.Lib.decodeL_ascii b l hb,if_neg (fun e=>by have:=e.1;omega)]
  exact znC k l (fun c hc=>h c (by simp[hc]))
theorem zab {l:List UInt8}(h:∀b∈l,32≤b.toNat∧b.toNat<127)(hl:l.length≤1000):ym ⟨l⟩=0:=by
 refine zfi.2 ⟨hl,znC _ _ (fun b hb=>by have:=h b hb;omega),?_⟩
 rw[List.any_eq_false]
 intro b hb
 have:=h b hb
 unfold qG
 rw[decide_eq_false (p:=b.toNat<32) (by omega),decide_eq_false (p:=b.toNat=127) (by omega)]
 simp
theorem zlo {s:Str}(h:zO s=true):∀b∈s.b,32≤b.toNat∧b.toNat<127:=by
 have low:∀c,ja c=true→32≤c.toNat∧c.toNat<127:=fun c h=>by
  unfold ja at h
  rw[Bool.and_eq_true,decide_eq_true_eq,decide_eq_true_eq]at h
  omega
 have nm:∀c,nameC c=true→32≤c.toNat∧c.toNat<127:=fun c h=>by
  unfold nameC at h
  rw[Bool.or_eq_true,Bool.or_eq_true]at h
  rcases h with(h | h) | h
  ·
   exact low c h
  ·
   rw[Bool.and_eq_true,decide_eq_true_eq,decide_eq_true_eq]at h;omega
  ·
   have:=of_decide_eq_true h;omega
 intro b hb
 unfold zO at h
 rw[Bool.and_eq_true]at h
 obtain⟨_,h2⟩:=h
 cases e:s.b with
 | nil=>rw[e]at hb;cases hb
 | cons c l=>
  rw[e]at h2 hb
  simp only[Bool.and_eq_true]at h2
  rcases List.mem_cons.1 hb with rfl | hb
  ·
   exact low _ h2.1
  ·
   exact nm _ (List.all_eq_true.1 h2.2 b hb)
theorem zsF {s:Str}(h:zO s=true):ym s=0:=zab (zlo h) (by have:=Y3 h;omega)
theorem zgG (n:Int):∀b∈Go.Lib.itoa n,32≤b.toNat∧b.toNat<127:=fun b hb=>by
 rcases zgH hb with h | h
 ·
  rw[h];decide
 ·
  omega
theorem zkI {ws:List (List UInt8)}(h:∀w∈ws,∀b∈w,32≤b.toNat∧b.toNat<127):∀b∈yI 32 ws,32≤b.toNat∧b.toNat<127:=fun b hb=>by
 rcases zeb hb with h1 | ⟨w,hw,h1⟩
 ·
  rw[h1];decide
 ·
  exact h w hw b h1
theorem zlE {l:List Int}(h:∀v∈l,v.natAbs<10000000)(hl:l.length≤100):ym ⟨jr l⟩=0:=by
 refine zab (zkI fun w hw=>?_) ?_
 ·
  obtain⟨v,_,rfl⟩:=List.mem_map.1 hw
  exact zgG v
 ·
  have:=zea 32 (l.map Go.Lib.itoa) 8 (fun x hx=>by
   obtain⟨v,hv,rfl⟩:=List.mem_map.1 hx
   exact JN (h v hv))
  rw[List.length_map]at this
  show(yI 32 (l.map Go.Lib.itoa)).length≤1000
  omega
theorem zkF {n:Int}(h:n.natAbs<10000000):ym (yf n)=0:=zab (zgG n) (by have:=JN h;omega)
theorem zr3 {k:Int}(h1:1≤k)(h2:k≤6):ym (gx y6 k)=0:=by
 rcases zeg h1 h2 with rfl | rfl | rfl | rfl | rfl | rfl<;>exact zab (by decide) (by decide)
theorem zqg (y:yg):vg y=yI 32 (vh y):=rfl
theorem zjC {y:yg}(h:Qv y):ym ⟨vg y⟩=0:=by
 refine zab ?_ (by have:=zf6 h;omega)
 rw[zqg]
 refine zkI fun w hw=>?_
 unfold vh at hw
 simp only[List.mem_cons,List.mem_nil_iff,or_false]at hw
 rcases hw with rfl | rfl | rfl
 ·
  exact zlo h.node
 ·
  rcases zmW h.s1 h.s2 with e | e | e | e<;>rw[e]<;>decide
 ·
  exact zgG _
def jc (m:GMap Str Str):Prop:=∀k v,m.f k=some v→zO k=true∧ym v=0
theorem jc.nil:jc GMap.nil:=fun k v h=>by cases h
theorem jc.set {m:GMap Str Str}(h:jc m){k v:Str}(hk:zO k=true)(hv:ym v=0):jc (m.set k v):=fun x y hx=>by
 rw[zbg]at hx
 split at hx
 ·
  rename_i e
  obtain rfl:=Option.some.inj hx
  rw[e];exact⟨hk,hv⟩
 ·
  exact h x y hx
theorem jc.setN {m:GMap Str Str}(h:jc m){k v:Str}(hk:zO k=true)(hv:ym v=0):jc (setN m k v):=by
 unfold DB.setN
 split
 ·
  exact h
 ·
  exact h.set hk hv
theorem zfM {s:Str}(h:s=Str.nil∨zO s=true):ym s=0:=by
 rcases h with h | h
 ·
  rw[h];exact zvJ
 ·
  exact zsF h
theorem zsM {n:zl}(h:jK n)(ht:ym n.Text=0){i:Int}(hi:i.natAbs<10000000):jc (vn n i):=by
 have h0:jc (Y5 n i):=(jc.nil.set (by decide) (zr3 h.k1 h.k2)).set (by decide) (zkF hi)
 have h1:jc (Qo n i):=by
  unfold Qo
  split
  ·
   exact h0
  ·
   exact h0.set (by decide) (zlE h.box (by show 4≤100;decide))
 have h2:jc (JW n i):=((h1.setN (by decide) ht).setN (by decide) (zfM h.cls)).setN (by decide) (zfM h.par)
 unfold vn
 split
 ·
  exact h2.set (by decide) (zab (by decide) (by decide))
 ·
  exact h2
theorem zp4 {x:zA}(h:jJ x)(ht:ym x.Text=0){i:Int}(hi:i.natAbs<10000000):jc (Q5 x i):=by
 have h0:jc (YJ x i):=(((jc.nil.set (by decide) (zab (by decide) (by decide))).set (by decide) (zjC h.from_)).set (by decide) (zjC h.to_)).set (by decide) (zkF hi)
 have h1:jc (QA x i):=by
  unfold QA
  split
  ·
   exact h0
  ·
   exact h0.set (by decide) (zlE h.bends (by have:=YH x.Bends;have:=h.few;omega))
 exact(h1.setN (by decide) ht).setN (by decide) (zfM h.cls)
theorem zsN (n:zl)(i:Int)(k:Str):(vn n i).f k=if k=JO∧n.Locked=true then some zia else if k=YZ∧n.Parent≠Str.nil then some n.Parent else if k=jY∧n.Class≠Str.nil then some n.Class else
  if k=j3∧n.Text≠Str.nil then some n.Text else if k=JP∧n.Kind≠6 then some ⟨jr (jd n.Box)⟩else if k=kZ then some (yf i)else if k=jZ then some (gx y6 n.Kind)else none:=by
 have h0:(Y5 n i).f k=if k=kZ then some (yf i)else if k=jZ then some (gx y6 n.Kind)else none:=rfl
 have h1:(Qo n i).f k=if k=JP∧n.Kind≠6 then some ⟨jr (jd n.Box)⟩else(Y5 n i).f k:=by
  unfold Qo
  by_cases h:n.Kind=6
  ·
   rw[if_pos h,if_neg (fun e=>e.2 h)]
  ·
   rw[if_neg h,zbg]
   by_cases e:k=JP
   ·
    rw[if_pos e,if_pos ⟨e,h⟩]
   ·
    rw[if_neg e,if_neg (fun q=>e q.1)]
 have h2:(JW n i).f k=if k=YZ∧n.Parent≠Str.nil then some n.Parent else if k=jY∧n.Class≠Str.nil then some n.Class else if k=j3∧n.Text≠Str.nil then some n.Text else(Qo n i).f k:=by
  unfold JW
  rw[Jb,Jb,Jb]
 rw[←h0,←h1,←h2]
 unfold vn
 cases n.Locked with
 | false=>rw[if_neg (by decide),if_neg (fun e=>absurd e.2 (by decide))]
 | true=>
  rw[if_pos rfl,zbg]
  by_cases e:k=JO
  ·
   rw[if_pos e,if_pos ⟨e,rfl⟩]
  ·
   rw[if_neg e,if_neg (fun q=>e q.1)]
theorem zp5 (x:zA)(i:Int)(k:Str):(Q5 x i).f k=if k=jY∧x.Class≠Str.nil then some x.Class else if k=j3∧x.Text≠Str.nil then some x.Text else if k=YY∧x.Bends≠[]then some ⟨jr (yT x.Bends)⟩else
  if k=kZ then some (yf i)else if k=kTo then some ⟨vg x.To⟩else if k=zcj then some ⟨vg x.From⟩else if k=jZ then some zh9 else none:=by
 have h0:(YJ x i).f k=if k=kZ then some (yf i)else if k=kTo then some ⟨vg x.To⟩else if k=zcj then some ⟨vg x.From⟩else if k=jZ then some zh9 else none:=rfl
 have h1:(QA x i).f k=if k=YY∧x.Bends≠[]then some ⟨jr (yT x.Bends)⟩else(YJ x i).f k:=by
  unfold QA
  by_cases h:x.Bends=[]
  ·
   rw[if_pos h,if_neg (fun e=>e.2 h)]
  ·
   rw[if_neg h,zbg]
   by_cases e:k=YY
   ·
    rw[if_pos e,if_pos ⟨e,h⟩]
   ·
    rw[if_neg e,if_neg (fun q=>e q.1)]
 unfold Q5
 rw[Jb,Jb,h1,h0]
theorem YD {a b:Str}{p:Prop}(h:a≠b):¬(a=b∧p):=fun e=>h e.1
theorem jk.ids {d:Doc}(h:jk d):(d.Nodes.map (·.Id)++d.Edges.map (·.Id)).Nodup:=by
 have he:∀(i:Nat) (hi:i<d.Edges.length),d.Edges[i].Id∉d.Nodes.map (·.Id)++(d.Edges.take i).map (·.Id):=fun i hi=>by
  have h2:=yU.1 (h.edge i hi) (if(decide (d.Edges[i].Id∈d.Nodes.map (·.Id)++(d.Edges.take i).map (·.Id)))=true then 6 else 0) (by simp)
  intro hm
  rw[if_pos (decide_eq_true hm)]at h2
  cases h2
 rw[List.nodup_append]
 refine⟨zgW fun i hi=>of_decide_eq_false (zaY (h.node i hi)).2.1,?_,fun a ha b hb e=>?_⟩
 ·
  rw[List.nodup_iff_pairwise_ne,List.pairwise_iff_getElem]
  intro i j hi hj hij e
  simp only[List.length_map]at hi hj
  simp only[List.getElem_map]at e
  refine he j hj (List.mem_append_right _ (List.mem_map.2 ⟨d.Edges[i],?_,e⟩))
  have:d.Edges[i]=(d.Edges.take j)[i]'(by simp;omega):=by simp
  rw[this];exact List.getElem_mem _
 ·
  obtain⟨x,hx,rfl⟩:=List.mem_map.1 hb
  obtain⟨j,hj,rfl⟩:=List.getElem_of_mem hx
  exact he j hj (List.mem_append_left _ (e▸ha))
def zf7 (d:Doc):List (Str×GMap Str Str):=((List.range d.Nodes.length).map fun(i:Nat)=>((gx d.Nodes (i:Int)).Id,vn (gx d.Nodes (i:Int)) (i:Int)))++(List.range d.Edges.length).map fun(i:Nat)=>((gx d.Edges (i:Int)).Id,Q5 (gx d.Edges (i:Int)) (i:Int))
theorem zlV {α β:Type}[Inhabited α](l:List α)(f:α→β):((List.range l.length).map fun(i:Nat)=>f (gx l (i:Int)))=l.map f:=by
 refine List.ext_getElem (by simp) fun i h1 h2=>?_
 rw[List.length_map]at h2
 rw[List.getElem_map,List.getElem_range,zL h2,List.getElem_map]
theorem zpZ {d:Doc}(h:jk d):zI (Jy d) (zf7 d):=by
 have hid:=h.ids
 have hN:(List.range d.Nodes.length).map (fun(i:Nat)=>(gx d.Nodes (i:Int)).Id)=d.Nodes.map (·.Id):=zlV d.Nodes (·.Id)
 have hE:(List.range d.Edges.length).map (fun(i:Nat)=>(gx d.Edges (i:Int)).Id)=d.Edges.map (·.Id):=zlV d.Edges (·.Id)
 have h1:zI (JX d d.Nodes.length) ((List.range d.Nodes.length).map fun(i:Nat)=>((gx d.Nodes (i:Int)).Id,vn (gx d.Nodes (i:Int)) (i:Int))):=by
  have:=zcl (fun i:Nat=>(gx d.Nodes (i:Int)).Id) (fun i:Nat=>vn (gx d.Nodes (i:Int)) (i:Int)) (List.range d.Nodes.length) GMap.nil [] zI.nil (by rw[List.map_nil,List.nil_append,hN];exact(List.nodup_append.1 hid).1)
  rw[List.nil_append]at this
  exact this
 exact zcl (fun i:Nat=>(gx d.Edges (i:Int)).Id) (fun i:Nat=>Q5 (gx d.Edges (i:Int)) (i:Int)) (List.range d.Edges.length) _ _ h1 (by
  rw[List.map_map,hE]
  have:(List.range d.Nodes.length).map ((fun x:Str×GMap Str Str=>x.1)∘fun(i:Nat)=>((gx d.Nodes (i:Int)).Id,vn (gx d.Nodes (i:Int)) (i:Int)))=d.Nodes.map (·.Id):=hN
  rw[this];exact hid)
structure zn8 (k:Str) (e:GMap Str Str):Prop where
 id:zO k=true
 all:jc e
 few:qn e 20
 some:e.f jZ≠none
theorem zqi {d:Doc}(h:jk d){x:Str×GMap Str Str}(hx:x∈zf7 d):zn8 x.1 x.2:=by
 have hn:=h.nl
 have he:=h.el
 rcases List.mem_append.1 hx with hx | hx
 ·
  obtain⟨i,hi,rfl⟩:=List.mem_map.1 hx
  have hi':=List.mem_range.1 hi
  rw[zL hi']
  have hT:=h.nodeT (List.getElem_mem hi')
  have ht:=yU.1 (h.node i hi') (ym d.Nodes[i].Text) (by simp)
  refine⟨hT.id,zsM hT ht (by omega),zlu _ _,?_⟩
  rw[zsN,if_neg (YD (by decide)),if_neg (YD (by decide)),if_neg (YD (by decide)),if_neg (YD (by decide)),if_neg (YD (by decide)),if_neg (by decide),if_pos rfl]
  simp
 ·
  obtain⟨i,hi,rfl⟩:=List.mem_map.1 hx
  have hi':=List.mem_range.1 hi
  rw[zL hi']
  have hT:=h.edgeT (List.getElem_mem hi')
  have ht:=yU.1 (h.edge i hi') (ym d.Edges[i].Text) (by simp)
  refine⟨hT.id,zp4 hT ht (by omega),zjq _ _,?_⟩
  rw[zp5,if_neg (YD (by decide)),if_neg (YD (by decide)),if_neg (YD (by decide)),if_neg (by decide),if_neg (by decide),if_neg (by decide),if_pos rfl]
  simp
theorem zvM {m:GMap Str (GMap Str Str)}{l:List (Str×GMap Str Str)}(h:zI m l){t:zu}(ht:t∈Qu m):∃e,(t.Id,e)∈l∧t.Attrs=qa e:=by
 obtain⟨k,hk,rfl⟩:=List.mem_map.1 (show t∈(vm m).map _ from ht)
 have:=(zee h).1 hk
 unfold GMap.has at this
 cases q:m.f k with
 | none=>rw[q]at this;cases this
 | some e=>exact⟨e,(h.mem k e).2 q,by show qa (m.getD k GMap.nil)=_;unfold GMap.getD;rw[q];rfl⟩
theorem zh2 {d:Doc}(h:jk d):qm (Qu (Jy d)):=by
 have hL:=zpZ h
 have hn:=h.nl
 have he:=h.el
 refine⟨?_,fun x hx=>?_,fun x hx=>?_,fun x hx a ha=>?_,zns hL,fun x hx=>?_⟩
 ·
  unfold Qu
  rw[List.length_map,zgK hL]
  unfold zf7
  rw[List.length_append,List.length_map,List.length_map,List.length_range,List.length_range]
  omega
 all_goals obtain⟨e,h1,h2⟩:=zvM hL hx
 all_goals have hG:=zqi h h1
 ·
  exact hG.id
 ·
  obtain⟨le,a,b⟩:=hG.few
  rw[h2]
  unfold qa
  rw[List.length_map,zgK a]
  refine⟨?_,b⟩
  cases hk:e.f jZ with
  | none=>exact absurd hk hG.some
  | some v=>exact List.length_pos_of_mem ((a.mem jZ v).2 hk)
 ·
  rw[h2]at ha
  obtain⟨le,a1,b⟩:=hG.few
  obtain⟨k,hk,rfl⟩:=List.mem_map.1 (show a∈(vm e).map _ from ha)
  have:=(zee a1).1 hk
  unfold GMap.has at this
  cases q:e.f k with
  | none=>rw[q]at this;cases this
  | some v=>
   have hv:=hG.all k v q
   refine⟨hv.1,?_⟩
   show ym (e.getD k Str.nil)=0
   unfold GMap.getD
   rw[q];exact hv.2
 ·
  obtain⟨le,a,b⟩:=hG.few
  rw[h2]
  unfold qa
  rw[List.pairwise_map]
  exact(zef a).imp fun h=>h
theorem zkV {a b:List UInt8}(h:zH b a<0):(Op.bytesLess a b || a==b)=false:=by
 rw[Bool.or_eq_false_iff,zfL]
 have h3:=jm a b
 refine⟨decide_eq_false (by omega),beq_eq_false_iff_ne.2 fun e=>?_⟩
 rw[e,vx]at h
 omega
theorem znr {l:List zu}(h:qm l):vY l=0:=by
 have hl:=h.len
 unfold vY
 rw[if_neg (by omega)]
 refine yU.2 fun v hv=>?_
 obtain⟨i,hi,rfl⟩:=List.mem_map.1 hv
 have hi':=List.mem_range.1 hi
 have hin:=List.getElem_mem hi'
 unfold zbr
 refine yU.2 fun v hv=>?_
 rcases List.mem_append.1 hv with hv | hv
 ·
  unfold vA at hv
  rw[zL hi']at hv
  have hsome:=h.some _ hin
  have hlate:QG l i=false:=by
   unfold QG
   by_cases h0:0<i
   ·
    rw[show(i:Int) - 1=((i - 1:Nat):Int)by omega,zL hi',zL (by omega)]
    rw[zkV (List.pairwise_iff_getElem.1 h.ids (i - 1) i (by omega) hi' (by omega)),Bool.and_false]
   ·
    rw[decide_eq_false (p:=0<(i:Int)) (by omega),Bool.false_and]
  simp only[List.mem_cons,List.mem_nil_iff,or_false]at hv
  rcases hv with rfl | rfl | rfl | rfl
  ·
   rw[if_neg (by rw[h.id _ hin];decide)]
  ·
   rw[if_neg (by rw[hlate];decide)]
  ·
   rw[if_neg (by omega)]
  ·
   rw[if_neg (by omega)]
 ·
  rw[List.mem_singleton.1 hv,zL hi']
  unfold zao
  refine yU.2 fun v hv=>?_
  obtain⟨k,hk,rfl⟩:=List.mem_map.1 hv
  have hk':=List.mem_range.1 hk
  have hf:=h.field _ hin _ (List.getElem_mem hk')
  unfold Qw
  rw[zL hk']
  have hlate:Yh l[i].Attrs k=false:=by
   unfold Yh
   by_cases h0:0<k
   ·
    rw[show(k:Int) - 1=((k - 1:Nat):Int)by omega,zL hk',zL (by omega)]
    rw[zkV (List.pairwise_iff_getElem.1 (h.fields _ hin) (k - 1) k (by omega) hk' (by omega)),Bool.and_false]
   ·
    rw[decide_eq_false (p:=0<(k:Int)) (by omega),Bool.false_and]
  rw[if_neg (by rw[hf.1];decide),if_neg (by rw[hlate];decide),hf.2];rfl
theorem zn5 (l:List zz)(hl:l.length≤1000000):zcX l l=some true:=by
 unfold zcX
 simp only[decide_true,Bool.not_true,cond_false]
 rw[zmr rfl (by omega) (fun i hi=>by
  unfold zhO
  rw[zf ⟨by omega,by omega⟩,zf ⟨by omega,by omega⟩,zL hi]
  simp)]
 simp
theorem zn4 (s:List zR)(hl:s.length≤1000000):zcW s s=some true:=by
 unfold zcW
 simp only[decide_true,Bool.not_true,cond_false]
 rw[zmr rfl (by omega) (fun i hi=>by
  unfold zhN
  rw[zf ⟨by omega,by omega⟩,zf ⟨by omega,by omega⟩,zL hi]
  simp)]
 simp
theorem zt6 {s:List zu}(h:qm s):zbt s s=some true:=by
 have hl:=h.len
 unfold zbt ze8
 simp only[decide_true,Bool.not_true,cond_false]
 rw[zmo (fun _=>false) (Res.ab false) (by omega) (fun i hi=>by
  unfold zhM
  have hs:zbu (gx s i) (gx s i)=some true:=by
   unfold zbu
   rw[zn4 _ (by have:=(h.some _ (qZ hi)).2;omega)]
   simp
  rw[zf hi,zw,zf hi,zw,hs];rfl)]
 simp
theorem zsy {old d:Doc}(ho:zT old)(h:jk d):∃r6,YN old=some r6∧(bif decide (r6.2=0)then(
      Option.bind (zay r6.1 (Qu (Jy d))) fun r7=>
      Option.bind (zax r6.1 r7.1) fun r8=>
      Option.bind (gd (!((!decide (r7.2=0)) || (!decide (r8.2=0)))) (zbt r8.1 (Qu (Jy d)))) fun r9=>
      bif((!decide (r7.2=0)) || (!decide (r8.2=0))) || (!r9)then(
       some (Res.ab false))
      else(
       some (Res.nx ())))
     else(
      some (Res.nx ())))=some (Res.nx ():Res Unit Bool):=by
  obtain⟨e,c1,c2,c3⟩:=zif ho
  by_cases he:e=0
  · subst he
    have hR:=c3 rfl
    have ta:=znr (zh2 hR)
    have tb:=znr (zh2 h)
    obtain⟨r,hr,hd⟩:=zn2 ta tb
    refine⟨_,ziw hR c1,?_⟩
    simp only[decide_true,cond_true]
    rw[hd,Option.bind_some]
    simp only
    rw[znP ta tb hr,Option.bind_some]
    simp only[decide_true,Bool.not_true,Bool.or_self,Bool.not_false,vk]
    rw[zt6 (zh2 h),Option.bind_some];rfl
  · refine⟨([],e),?_,?_⟩
    · unfold YN
      rw[c1,Option.bind_some,decide_eq_false he];rfl
    · rw[decide_eq_false he,cond_false]
theorem zot (d old:Doc)(l:List zz)(hd:zT d)(ho:zT old):zbs d old l=some true:=by
 obtain⟨e,c1,c2,c3⟩:=zif hd
 have bad:∀x:Int,x≠0→Qx d l=some (Str.nil,x)→zbs d old l=some true:=fun x hx hp=>by
  unfold zbs
  rw[hp,Option.bind_some]
  simp only
  rw[decide_eq_false hx,Bool.not_false,cond_true]
  simp
 by_cases he:e=0
 case neg=>
  refine bad e he ?_
  unfold Qx
  rw[c1,Option.bind_some,decide_eq_false he,Bool.not_false,cond_true]
 subst he
 have h:=c3 rfl
 by_cases hr:vt l=0
 case neg=>
  refine bad _ hr ?_
  unfold Qx
  rw[c1,Option.bind_some,zc6]
  simp only[decide_true,Bool.not_true,cond_false,Option.bind_some]
  rw[decide_eq_false hr,Bool.not_false,cond_true]
 have hT:=zp1 h hr
 have hpr:=zoi hT c1 hr
 by_cases dd:1048576<(qr d l).length
 ·
  rw[if_pos dd]at hpr
  exact bad 4 (by decide) hpr
 rw[if_neg dd]at hpr
 obtain⟨r6,m1,m2⟩:=zsy ho h
 unfold zbs
 rw[hpr,Option.bind_some]
 simp only[decide_true,Bool.not_true,cond_false]
 rw[zoe hT c1 hr (by omega),Option.bind_some,ziw h c1,Option.bind_some]
 simp only[decide_true,Bool.not_true,Bool.or_self,Bool.not_false,vk]
 rw[zn5 l (by have:=hT.rl;omega),Option.bind_some]
 simp only[Bool.not_true,Bool.or_self,cond_false]
 rw[hpr,Option.bind_some]
 simp only[decide_true,Bool.not_true,Bool.or_self,cond_false]
 rw[m1,Option.bind_some,m2,yy]
 rw[zig d.Nodes zc1 (fun n=>decide (n.Kind=6)) (by have:=h.nl;omega) (fun n _=>rfl),Option.bind_some]
 cases hg:d.Nodes.any fun n=>decide (n.Kind=6)with
 | true=>rfl
 | false=>
  rw[cond_false]
  have hP:=h.plain fun n hn=>fun e=>by
   have:=List.any_eq_false.1 hg n hn
   rw[decide_eq_true e]at this
   exact this rfl
  obtain⟨r11,r12,k',s1,s2,s3,s4⟩:=zoo hT hr hP (k:=(⟨(⟨(⟨([]:(List zl)),([]:(List zA))⟩:Doc),([]:(List zz))⟩:yh),([]:List yh),([]:(List yh))⟩:zY)) ⟨rfl,Nat.zero_le _⟩
  rw[s1,Option.bind_some,s2,Option.bind_some,s3,yy]
  have hdoc:zbJ { k' with past:=k'.past } = some d:=by
   unfold zbJ
   have:Qc k'.now.doc=some d:=by rw[s4.now];exact zfR h.nl h.el fun x hx=>(h.edgeT hx).few
   rw[zw]
   show Option.bind (Qc k'.now.doc) _=_
   rw[this,Option.bind_some]
  rw[hdoc,Option.bind_some,hpr,Option.bind_some]
  simp
end Go.DB
