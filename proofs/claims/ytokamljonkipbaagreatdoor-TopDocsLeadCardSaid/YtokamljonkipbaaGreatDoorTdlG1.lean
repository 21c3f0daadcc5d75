/- A part of the proof. -/
import Derived.Test.YtokamljonkipbaaGreatDoorTdlLi1
import Derived.Test.YtokamljonkipbaaGreatDoorPu0
import Derived.Test.YtokamljonkipbaaGreatDoorTdlK3
import Derived.Lib.AtoiTie
import Derived.Test.YtokamljonkipbaaGreatDoorTdlK4
import Derived.Lib.ItoaLen
import Derived.Lib.SplitLaws
set_option linter.unusedVariables false
set_option linter.unusedSimpArgs false
namespace Go.DB
open Go Go.RowKit
noncomputable def zmj (m1:zl)(c0_1:zl):Option Bool:=
 some (decide (m1.Id=c0_1.Id))
noncomputable def zhc (s1:Str)(i:Int)(s:Unit):Option (Res Unit (Res Unit Bool)):=
 zg (inR s1.b i) <|
 bnd ((⟨((gx s1.b i).toNat:Int)⟩:KI .u8)) fun c1=>
 bif(!((decide ((⟨97⟩:KI .u8).n≤c1.n))&&(decide (c1.n≤(⟨122⟩:KI .u8).n))))&&((decide (i=0)) || ((!((decide ((⟨48⟩:KI .u8).n≤c1.n))&&(decide (c1.n≤(⟨57⟩:KI .u8).n))))&&(!decide (c1.n=(⟨45⟩:KI .u8).n))))then(
  some (Res.ab (Res.ab false)))
 else(
  some (Res.nx ()))
noncomputable def za6 (s1:Str):Option Bool:=
 yc (σ:=Unit) (ρ:=Bool) (
  z7 (s1.b.length:Int) (zhc s1) (fun s=>Res.nx s) ()) fun j_1=>
 some ((!decide (s1=Str.nil))&&(decide ((s1.b.length:Int)≤40)))
noncomputable def jt (is1:Bool)(e1:Int):Option Int:=
 bif is1 then(
  some e1)
 else(
  some 0)
noncomputable def Yn (n1:Int)(low1:Int)(high1:Int):Option Bool:=
 some ((decide (low1≤n1))&&(decide (n1≤high1)))
noncomputable def zmd (l1:(List Int))(i:Int)(s:Unit):Option (Res Unit (Res Unit Int)):=
 zg (inR l1 i) <|
 bnd (gx l1 i) fun e1=>
 bif !decide (e1=0)then(
  some (Res.ab (Res.ab e1)))
 else(
  some (Res.nx ()))
noncomputable def vU (l1:(List Int)):Option Int:=
 yc (σ:=Unit) (ρ:=Int) (
  z7 (l1.length:Int) (zmd l1) (fun s=>Res.nx s) ()) fun j_1=>
 some 0
noncomputable def zeR (p1:zJ):Option Int:=
 Option.bind (Yn p1.X (-1000000) 1000000) fun r1=>
 Option.bind (gd (!(!r1)) (Yn p1.Y (-1000000) 1000000)) fun r2=>
 Option.bind (jt ((!r1) || (!r2)) 3) fun r3=>
 some r3
noncomputable def za5 (b1:Box):Option Int:=
 Option.bind (zeR (⟨b1.X,b1.Y⟩:zJ)) fun r1=>
 Option.bind (Yn b1.W_ 1 20000) fun r2=>
 Option.bind (gd (!(!r2)) (Yn b1.H 1 20000)) fun r3=>
 Option.bind (jt ((!r2) || (!r3)) 3) fun r4=>
 Option.bind (vU [r1,r4]) fun r5=>
 some r5
noncomputable def zmg (s1:Str)(i:Int)(s:Bool):Option Bool:=
 zg (s=false→inR s1.b i) <|
 zg (s=false→(decide ((⟨((gx s1.b i).toNat:Int)⟩:KI .u8).n<(⟨32⟩:KI .u8).n))=true→inR s1.b i) <|
 zg ((s || ((decide ((⟨((gx s1.b i).toNat:Int)⟩:KI .u8).n<(⟨32⟩:KI .u8).n))&&(!decide ((⟨((gx s1.b i).toNat:Int)⟩:KI .u8).n=(⟨10⟩:KI .u8).n))))=false→inR s1.b i) <|
 bnd ((s || ((decide ((⟨((gx s1.b i).toNat:Int)⟩:KI .u8).n<(⟨32⟩:KI .u8).n))&&(!decide ((⟨((gx s1.b i).toNat:Int)⟩:KI .u8).n=(⟨10⟩:KI .u8).n)))) || (decide ((⟨((gx s1.b i).toNat:Int)⟩:KI .u8).n=(⟨127⟩:KI .u8).n))) fun bad2=>
 some bad2
noncomputable def zcH (s1:Str):Option Int:=
 Option.bind (utf8_ValidString s1) fun r1=>
 bnd (!r1) fun bad1=>
 Option.bind (α:=Bool) (
  yV (s1.b.length:Int) (zmg s1) bad1) fun j_3=>
 Option.bind (jt (decide (1000<(s1.b.length:Int))) 4) fun r2=>
 Option.bind (jt j_3 2) fun r3=>
 Option.bind (vU [r2,r3]) fun r4=>
 some r4
noncomputable def zcI (s1:Str):Option Int:=
 Option.bind (gd ((!decide (s1=Str.nil))) (za6 s1)) fun r1=>
 Option.bind (jt ((!decide (s1=Str.nil))&&(!r1)) 5) fun r2=>
 some r2
noncomputable def zhh (d1:Doc)(i1:Int):Option Int:=
 zg (inR d1.Nodes i1) <|
 bnd (gx d1.Nodes i1) fun v1=>
 zg (y3 d1.Nodes.length 0 i1) <|
 Option.bind (zbm (seg d1.Nodes 0 i1) (fun x0=>zmj x0 v1)) fun twice1=>
 Option.bind (za6 v1.Id) fun r1=>
 Option.bind (jt (!r1) 5) fun r2=>
 Option.bind (jt twice1 6) fun r3=>
 Option.bind (Yn v1.Kind 1 6) fun r4=>
 Option.bind (jt (!r4) 1) fun r5=>
 Option.bind (vU [r2,r3,r5]) fun e1=>
 bif !decide (e1=0)then(
  some e1)
 else(
  Option.bind (jt (!decide (v1.Box=(⟨(0:Int),(0:Int),(0:Int),(0:Int)⟩:Box))) 2) fun box1=>
  Option.bind (α:=Int) (
   bif !decide (v1.Kind=6)then(
    Option.bind (za5 v1.Box) fun box2=>
    some box2)
   else(
    some box1)) fun j_13=>
  Option.bind (zcH v1.Text) fun r6=>
  Option.bind (zcI v1.Class) fun r7=>
  Option.bind (vU [j_13,r6,r7]) fun r8=>
  some r8)
noncomputable def zme (n1:zl)(c0_1:Str):Option Bool:=
 some (decide (n1.Id=c0_1))
noncomputable def J1 (d1:Doc)(id1:Str):Option Int:=
 Option.bind (zbn d1.Nodes (fun x0=>zme x0 id1)) fun r1=>
 some r1
noncomputable def zhe (d1:Doc)(n1:zl)(s2_:(Int×Str)):Option (zN (Int×Str) (Res Int (Int×Bool))):=
 bif !decide (s2_.2=Str.nil)then(
  bnd (W (s2_.1+1)) fun many1=>
  bif(decide (s2_.2=n1.Id)) || (decide ((d1.Nodes.length:Int)<many1))then(
   some (zN.done (Res.ab (many1,decide (s2_.2=n1.Id)))))
  else(
   Option.bind (J1 d1 s2_.2) fun r1=>
   zg (inR d1.Nodes r1) <|
   bnd ((gx d1.Nodes r1).Parent) fun id1=>
   some (zN.again (many1,id1))))
 else(
  some (zN.done (Res.nx s2_.1)))
noncomputable def J2 (d1:Doc)(n1:zl):Option (Int×Bool):=
 yc (σ:=Int) (ρ:=(Int×Bool)) (
  loop (zhe d1 n1) (0,n1.Parent)) fun j_1=>
 some (j_1,false)
noncomputable def zmi (d1:Doc)(id1:Str)(i:Int)(s:(List zl)):Option (List zl):=
 zg (inR d1.Nodes i) <|
 bnd (gx d1.Nodes i) fun v1=>
 bif decide (v1.Parent=id1)then(
  zg (qd (s.length+[v1].length)) <|
  some (s++[v1]))
 else(
  some s)
noncomputable def zeT (d1:Doc)(id1:Str):Option (List zl):=
 Option.bind (α:=(List zl)) (
  yV (d1.Nodes.length:Int) (zmi d1 id1) ([]:List zl)) fun j_1=>
 some j_1
noncomputable def zhi (d1:Doc)(i:Int)(s:Unit):Option (Res Unit (Res Unit Int)):=
 zg (inR d1.Nodes i) <|
 bnd (gx d1.Nodes i) fun v1=>
 Option.bind (J1 d1 v1.Parent) fun k1=>
 zg ((!decide (v1.Parent=Str.nil))=true→(decide (k1<0))=false→inR d1.Nodes k1) <|
 bif(!decide (v1.Parent=Str.nil))&&((decide (k1<0)) || (!decide (((gx d1.Nodes k1).Kind)=6)))then(
  some (Res.ab (Res.ab 10)))
 else(
  some (Res.nx ()))
noncomputable def zhj (d1:Doc)(i:Int)(s:Unit):Option (Res Unit (Res Unit Int)):=
 zg (inR d1.Nodes i) <|
 bnd (gx d1.Nodes i) fun v2=>
 Option.bind (J2 d1 v2) fun r1=>
 bif r1.2 then(
  some (Res.ab (Res.ab 13)))
 else(
  some (Res.nx ()))
noncomputable def zhk (d1:Doc)(i:Int)(s:Unit):Option (Res Unit (Res Unit Int)):=
 zg (inR d1.Nodes i) <|
 bnd (gx d1.Nodes i) fun v3=>
 Option.bind (J2 d1 v3) fun r2=>
 bif decide (8<r2.1)then(
  some (Res.ab (Res.ab 4)))
 else(
  some (Res.nx ()))
noncomputable def zhl (d1:Doc)(i:Int)(s:Unit):Option (Res Unit (Res Unit Int)):=
 zg (inR d1.Nodes i) <|
 bnd (gx d1.Nodes i) fun v4=>
 Option.bind (gd ((decide (v4.Kind=6))) (zeT d1 v4.Id)) fun r3=>
 bif(decide (v4.Kind=6))&&(decide ((r3.length:Int)=0))then(
  some (Res.ab (Res.ab 9)))
 else(
  some (Res.nx ()))
noncomputable def zeU (d1:Doc):Option Int:=
 yc (σ:=Unit) (ρ:=Int) (
  z7 (d1.Nodes.length:Int) (zhi d1) (fun s=>Res.nx s) ()) fun j_1=>
 yc (σ:=Unit) (ρ:=Int) (
  z7 (d1.Nodes.length:Int) (zhj d1) (fun s=>Res.nx s) ()) fun j_10=>
 yc (σ:=Unit) (ρ:=Int) (
  z7 (d1.Nodes.length:Int) (zhk d1) (fun s=>Res.nx s) ()) fun j_18=>
 yc (σ:=Unit) (ρ:=Int) (
  z7 (d1.Nodes.length:Int) (zhl d1) (fun s=>Res.nx s) ()) fun j_26=>
 some 0
noncomputable def zmh (y1:zA)(c0_1:zA):Option Bool:=
 some (decide (y1.Id=c0_1.Id))
noncomputable def zmZ (f1:(zA→Option Bool))(s1:(List zA))(i:Int)(s:Unit):Option (Res Unit (Res Unit Int)):=
 zg (inR s1 i) <|
 Option.bind (f1 (gx s1 i)) fun r1=>
 bif r1 then(
  some (Res.ab (Res.ab i)))
 else(
  some (Res.nx ()))
noncomputable def zhP (s1:(List zA))(f1:(zA→Option Bool)):Option Int:=
 yc (σ:=Unit) (ρ:=Int) (
  z7 (s1.length:Int) (zmZ f1 s1) (fun s=>Res.nx s) ()) fun j_1=>
 some (-1)
noncomputable def zhL (s1:(List zA))(f1:(zA→Option Bool)):Option Bool:=
 Option.bind (zhP s1 f1) fun r1=>
 some (decide (0≤r1))
noncomputable def zhd (side1:Int)(at1:Int):Option Int:=
 Option.bind (Yn side1 1 4) fun r1=>
 Option.bind (gd (!(!r1)) (Yn at1 0 1000)) fun r2=>
 Option.bind (jt ((!r1) || (!r2)) 3) fun r3=>
 some r3
noncomputable def zmf (l1:(List zJ))(i:Int)(s:Unit):Option (Res Unit (Res Unit Int)):=
 zg (inR l1 i) <|
 bnd (gx l1 i) fun v1=>
 Option.bind (zeR v1) fun e1=>
 bif !decide (e1=0)then(
  some (Res.ab (Res.ab e1)))
 else(
  some (Res.nx ()))
noncomputable def zeS (l1:(List zJ)):Option Int:=
 bif decide (1000<(l1.length:Int))then(
  some 4)
 else(
  yc (σ:=Unit) (ρ:=Int) (
   z7 (l1.length:Int) (zmf l1) (fun s=>Res.nx s) ()) fun j_2=>
  some 0)
noncomputable def zhg (d1:Doc)(v2:(List yg))(i:Int)(s:Unit):Option (Res Unit (Res Unit Int)):=
 zg (inR v2 i) <|
 bnd (gx v2 i) fun v3=>
 Option.bind (J1 d1 v3.Node) fun k1=>
 bif decide (k1<0)then(
  some (Res.ab (Res.ab 10)))
 else(
  zg (inR d1.Nodes k1) <|
  Option.bind (jt (decide (((gx d1.Nodes k1).Kind)=6)) 1) fun r6=>
  Option.bind (zhd v3.Side v3.At) fun r7=>
  Option.bind (vU [r6,r7]) fun e2=>
  bif !decide (e2=0)then(
   some (Res.ab (Res.ab e2)))
  else(
   some (Res.nx ())))
noncomputable def zhf (d1:Doc)(i1:Int):Option Int:=
 zg (inR d1.Edges i1) <|
 bnd (gx d1.Edges i1) fun v1=>
 Option.bind (J1 d1 v1.Id) fun r1=>
 zg ((decide (0≤r1))=false→y3 d1.Edges.length 0 i1) <|
 Option.bind (gd (!(decide (0≤r1))) (zhL (seg d1.Edges 0 i1) (fun x0=>zmh x0 v1))) fun r2=>
 Option.bind (za6 v1.Id) fun r3=>
 Option.bind (jt (!r3) 5) fun r4=>
 Option.bind (jt ((decide (0≤r1)) || r2) 6) fun r5=>
 Option.bind (vU [r4,r5]) fun e1=>
 bif !decide (e1=0)then(
  some e1)
 else(
  bnd ([v1.From,v1.To]) fun v2=>
  yc (σ:=Unit) (ρ:=Int) (
   z7 (v2.length:Int) (zhg d1 v2) (fun s=>Res.nx s) ()) fun j_12=>
  bif decide (50<(v1.Bends.length:Int))then(
   some 4)
  else(
   Option.bind (zeS v1.Bends) fun r8=>
   Option.bind (zcH v1.Text) fun r9=>
   Option.bind (zcI v1.Class) fun r10=>
   Option.bind (vU [r8,r9,r10]) fun r11=>
   some r11))
noncomputable def zhb (l1:(List Box))(i:Int)(s:(Int×Int×Int×Int)):Option (Int×Int×Int×Int):=
 zg (inR l1 i) <|
 bnd (gx l1 i) fun v3=>
 bnd (min s.1 v3.X) fun x2=>
 bnd (min s.2.1 v3.Y) fun y2=>
 bnd (max s.2.2.1 (W (v3.X+v3.W_))) fun r2=>
 bnd (max s.2.2.2 (W (v3.Y+v3.H))) fun d2=>
 some (x2,y2,r2,d2)
noncomputable def zeQ (l1:(List Box)):Option (Box×Int):=
 bnd ((⟨(0:Int),(0:Int),(0:Int),(0:Int)⟩:Box)) fun v1=>
 bif decide ((l1.length:Int)=0)then(
  bnd ((⟨(0:Int),(0:Int),(0:Int),(0:Int)⟩:Box)) fun v2=>
  some (v2,9))
 else(
  zg (inR l1 0) <|
  zg (inR l1 0) <|
  zg (inR l1 0) <|
  zg (inR l1 0) <|
  bnd ((gx l1 0).X) fun x1=>
  bnd ((gx l1 0).Y) fun y1=>
  bnd ((gx l1 0).X) fun r1=>
  bnd ((gx l1 0).Y) fun d1=>
  Option.bind (α:=(Int×Int×Int×Int)) (
   yV (l1.length:Int) (zhb l1) (x1,y1,r1,d1)) fun j_12=>
  bif(decide (20000<(W (j_12.2.2.1 - j_12.1)))) || (decide (20000<(W (j_12.2.2.2 - j_12.2.1))))then(
   bnd ((⟨(0:Int),(0:Int),(0:Int),(0:Int)⟩:Box)) fun v4=>
   some (v4,4))
  else(
   bnd ((⟨j_12.1,j_12.2.1,W (j_12.2.2.1 - j_12.1),W (j_12.2.2.2 - j_12.2.1)⟩:Box)) fun v5=>
   some (v5,0)))
noncomputable def zcG (self:(Doc×Str)→Option (Box×Int))(x:(Doc×Str))(r2:(List zl))(i:Int)(s:(List Box)):Option (Res (List Box) (Res (List Box) (Box×Int))):=
 zg (inR r2 i) <|
 bnd (gx r2 i) fun v3=>
 Option.bind (self (x.1,v3.Id)) fun r3=>
 bif !decide (r3.2=0)then(
  bnd ((⟨(0:Int),(0:Int),(0:Int),(0:Int)⟩:Box)) fun v4=>
  some (Res.ab (Res.ab (v4,r3.2))))
 else(
  zg (qd (s.length+[r3.1].length)) <|
  some (Res.nx (s++[r3.1])))
noncomputable def Y9 (self:(Doc×Str)→Option (Box×Int))(x:(Doc×Str)):Option (Box×Int):=
 bnd ((⟨(0:Int),(0:Int),(0:Int),(0:Int)⟩:Box)) fun v1=>
 Option.bind (J1 x.1 x.2) fun r1=>
 zg (inR x.1.Nodes r1) <|
 bnd (gx x.1.Nodes r1) fun v2=>
 bif !decide (v2.Kind=6)then(
  some (v2.Box,0))
 else(
  Option.bind (zeT x.1 x.2) fun r2=>
  yc (σ:=(List Box)) (ρ:=(Box×Int)) (
   z7 (r2.length:Int) (zcG self x r2) (fun s=>Res.nx s) ([]:List Box)) fun j_7=>
  Option.bind (zeQ j_7) fun r4=>
  bif !decide (r4.2=0)then(
   bnd ((⟨(0:Int),(0:Int),(0:Int),(0:Int)⟩:Box)) fun v5=>
   some (v5,r4.2))
  else(
   bnd ((⟨W (r4.1.X - 10),W (r4.1.Y - 10),W (r4.1.W_+20),W (r4.1.H+20)⟩:Box)) fun v6=>
   Option.bind (za5 v6) fun r5=>
   some (v6,r5)))
noncomputable def zeP (d1:Doc)(id1:Str):Option (Box×Int):=zaF Y9 (d1,id1)
noncomputable def zg8 (d1:Doc)(i:Int)(s:Unit):Option (Res Unit (Res Unit Int)):=
 Option.bind (zhh d1 i) fun e1=>
 bif !decide (e1=0)then(
  some (Res.ab (Res.ab e1)))
 else(
  some (Res.nx ()))
noncomputable def zg9 (d1:Doc)(i:Int)(s:Unit):Option (Res Unit (Res Unit Int)):=
 Option.bind (zhf d1 i) fun e3=>
 bif !decide (e3=0)then(
  some (Res.ab (Res.ab e3)))
 else(
  some (Res.nx ()))
noncomputable def zha (d1:Doc)(i:Int)(s:Unit):Option (Res Unit (Res Unit Int)):=
 zg (inR d1.Nodes i) <|
 bnd (gx d1.Nodes i) fun v1=>
 Option.bind (zeP d1 v1.Id) fun r1=>
 bif !decide (r1.2=0)then(
  some (Res.ab (Res.ab r1.2)))
 else(
  some (Res.nx ()))
noncomputable def zmc (d1:Doc):Option Int:=
 bif(decide (500<(d1.Nodes.length:Int))) || (decide (1000<(d1.Edges.length:Int)))then(
  some 4)
 else(
  yc (σ:=Unit) (ρ:=Int) (
   z7 (d1.Nodes.length:Int) (zg8 d1) (fun s=>Res.nx s) ()) fun j_2=>
  Option.bind (zeU d1) fun e2=>
  bif !decide (e2=0)then(
   some e2)
  else(
   yc (σ:=Unit) (ρ:=Int) (
    z7 (d1.Edges.length:Int) (zg9 d1) (fun s=>Res.nx s) ()) fun j_10=>
   yc (σ:=Unit) (ρ:=Int) (
    z7 (d1.Nodes.length:Int) (zha d1) (fun s=>Res.nx s) ()) fun j_16=>
   some 0))
theorem zjm {d:Nat}(h:d<10):Go.Lib.digitVal (UInt8.ofNat (48+d))=some d:=by
 have e:(UInt8.ofNat (48+d)).toNat=48+d:=by rw[UInt8.toNat_ofNat'];omega
 unfold Go.Lib.digitVal
 rw[e,if_pos (by omega)]
 congr 1;omega
theorem zi9:∀(l m:List UInt8) (acc:Nat),Go.Lib.decFrom acc (l++m)=(Go.Lib.decFrom acc l).bind fun a=>Go.Lib.decFrom a m
 | [],m,acc=>rfl
 | b::l,m,acc=>by
  simp only[List.cons_append,Go.Lib.decFrom]
  cases Go.Lib.digitVal b with
  | none=>rfl
  | some d=>exact zi9 l m _
theorem zpI (u:Nat):∀acc,Go.Lib.decFrom acc (Go.Lib.decDigits u)=some (acc*10 ^ Go.Lib.nDigits u+u):=by
 induction u using Nat.strongRecOn with
 | _ u ih=>
  intro acc
  by_cases h:u<10
  ·
   rw[Go.Lib.decDigits_one h,Go.Lib.nDigits_small h]
   simp only[Go.Lib.decFrom,zjm h,Nat.pow_one]
  ·
   rw[Go.Lib.decDigits,dif_neg h,Go.Lib.nDigits_big h,zi9,ih (u / 10) (by omega),Option.bind_some]
   simp only[Go.Lib.decFrom,zjm (show u % 10<10 by omega)]
   congr 1
   rw[Nat.pow_succ,Nat.add_mul,Nat.mul_assoc];omega
theorem zfX (u:Nat):∀b∈Go.Lib.decDigits u,48≤b.toNat∧b.toNat≤57:=by
 induction u using Nat.strongRecOn with
 | _ u ih=>
  intro b hb
  have e:∀d,d<10→(UInt8.ofNat (48+d)).toNat=48+d:=fun d h=>by rw[UInt8.toNat_ofNat'];omega
  by_cases h:u<10
  ·
   rw[Go.Lib.decDigits_one h]at hb
   simp only[List.mem_singleton]at hb
   rw[hb,e u h];omega
  ·
   rw[Go.Lib.decDigits,dif_neg h]at hb
   rcases List.mem_append.1 hb with hb | hb
   ·
    exact ih (u / 10) (by omega) b hb
   ·
    simp only[List.mem_singleton]at hb
    rw[hb,e _ (show u % 10<10 by omega)];omega
theorem zfY (u:Nat):Go.Lib.decDigits u≠[]:=fun e=>by
 have:=Go.Lib.decDigits_length u
 rw[e]at this
 have:=Go.Lib.nDigits_pos u
 simp at *;omega
theorem zja (u:Nat):Go.Lib.decNat (Go.Lib.decDigits u)=some u:=by
 unfold Go.Lib.decNat
 rw[if_neg (by simpa using zfY u),zpI];simp
theorem zoL (n:Int):Go.Lib.atoi (Go.Lib.itoa n)=some n:=by
 unfold Go.Lib.itoa
 split
 ·
  rename_i h
  unfold Go.Lib.atoi
  simp only[beq_self_eq_true,if_true,zja,Option.map_some]
  congr 1;omega
 ·
  rename_i h
  cases hd:Go.Lib.decDigits n.toNat with
  | nil=>exact absurd hd (zfY _)
  | cons b r=>
   have hb:=zfX n.toNat b (by rw[hd];simp)
   have h1:(b==45)=false:=beq_eq_false_iff_ne.2 fun e=>by rw[e]at hb;simp at hb
   have h2:(b==43)=false:=beq_eq_false_iff_ne.2 fun e=>by rw[e]at hb;simp at hb
   unfold Go.Lib.atoi
   simp only[h1,h2,Bool.false_eq_true,if_false]
   rw[←hd,zja,Option.map_some]
   congr 1;omega
theorem zgH {n:Int}{b:UInt8}(h:b∈Go.Lib.itoa n):b=45∨(48≤b.toNat∧b.toNat≤57):=by
 unfold Go.Lib.itoa at h
 split at h
 ·
  rcases List.mem_cons.1 h with h | h
  ·
   exact .inl h
  ·
   exact .inr (zfX _ b h)
 ·
  exact .inr (zfX _ b h)
theorem zrT (n:Int):Go.Lib.itoa n≠[]:=by
 unfold Go.Lib.itoa
 split
 ·
  simp
 ·
  exact zfY _
theorem zet {u k:Nat}(hk:1≤k)(h:u<10 ^ k):Go.Lib.nDigits u≤k:=by
 rcases Nat.eq_zero_or_pos u with rfl | hu
 ·
  rw[Go.Lib.nDigits_small (by decide)];exact hk
 ·
  refine Nat.le_of_not_lt fun hc=>?_
  have:∀m,∀u,0<u→u<10 ^ m→1≤m→Go.Lib.nDigits u≤m:=by
   intro m
   induction m with
   | zero=>intro u _ _ h;omega
   | succ m ih=>
    intro u hu h _
    by_cases h10:u<10
    ·
     rw[Go.Lib.nDigits_small h10];omega
    ·
     rw[Go.Lib.nDigits_big h10]
     have hm:1≤m:=by
      rcases Nat.eq_zero_or_pos m with rfl | h'
      ·
       simp at h;omega
      ·
       exact h'
     have:=ih (u / 10) (by omega) (by rw[Nat.pow_succ]at h;omega) hm
     omega
  have:=this k u hu h hk
  omega
theorem zrS {n:Int}{k:Nat}(hk:1≤k)(h:n.natAbs<10 ^ k):(Go.Lib.itoa n).length≤k+1:=by
 unfold Go.Lib.itoa
 split
 ·
  rw[List.length_cons,Go.Lib.decDigits_length];have:=zet hk h;omega
 ·
  rw[Go.Lib.decDigits_length];have:=zet hk (show n.toNat<10 ^ k by omega);omega
theorem zoH {n:Int}(h:(Go.Lib.itoa n).length≤18):zbH (yf n)=(n,⟨false⟩):=by
 unfold zbH yf
 simp only[Go.Lib.atoiAll_short _ h,zoL]
 rfl
theorem zkA (s:List UInt8)(c:UInt8):Go.Lib.indexB ⟨s.toArray⟩ ⟨[c].toArray⟩=Go.Lib.indexByte s c:=by
 unfold Go.Lib.indexB
 exact Go.Lib.index_one s c
theorem zgC {c:UInt8}{m:List UInt8}:∀{a:List UInt8},c∉a→Go.Lib.indexByte (a++c::m) c=a.length
 | [],_=>by simp[Go.Lib.indexByte]
 | b::a,h=>by
  have h1:¬b=c:=fun e=>h (by simp[e])
  have h2:c∉a:=fun e=>h (by simp[e])
  have ih:=zgC (m:=m) h2
  rw[List.cons_append,Go.Lib.indexByte,if_neg (by simpa using h1),ih,if_neg (by simp)]
  simp
theorem zkC {c:UInt8}:∀{a:List UInt8},c∉a→Go.Lib.indexByte a c = -1
 | [],_=>rfl
 | b::a,h=>by
  have h1:¬b=c:=fun e=>h (by simp[e])
  have h2:c∉a:=fun e=>h (by simp[e])
  rw[Go.Lib.indexByte,if_neg (by simpa using h1),zkC h2];rfl
theorem zlg {c:UInt8}:∀{l:List UInt8},c∈l→∃a m,l=a++c::m∧c∉a
 | b::l,h=>by
  by_cases e:b=c
  ·
   exact⟨[],l,by rw[e];rfl,by simp⟩
  ·
   obtain⟨a,m,rfl,h2⟩:=zlg (l:=l) (by simpa [Ne.symm e]using h)
   exact⟨b::a,m,rfl,by simp[h2,Ne.symm e]⟩
theorem zpD {c:UInt8}{a m:List UInt8}(h:c∉a):jB ⟨a++c::m⟩ ⟨[c]⟩=(⟨a⟩,⟨m⟩,true):=by
 have hi:Go.Lib.index (a++c::m) [c]=a.length:=(Go.Lib.index_one _ c).trans (zgC h)
 unfold jB Go.Lib.cut
 simp only[hi,Int.natCast_nonneg,if_true]
 simp
def Qb (c:UInt8):Nat→List UInt8→List (List UInt8)
 | 0,l=>[l]
 | k+1,l=>if c∈l then l.takeWhile (fun b=>decide (b≠c))::Qb c k (l.dropWhile (fun b=>decide (b≠c))).tail else [l]
theorem znn {c:UInt8}{m:List UInt8}:∀{a:List UInt8},c∉a→(a++c::m).takeWhile (fun b=>decide (b≠c))=a∧(a++c::m).dropWhile (fun b=>decide (b≠c))=c::m
 | [],_=>by simp[List.takeWhile,List.dropWhile]
 | b::a,h=>by
  have h1:¬b=c:=fun e=>h (by simp[e])
  have h2:c∉a:=fun e=>h (by simp[e])
  obtain⟨i1,i2⟩:=znn (m:=m) h2
  rw[List.cons_append,List.takeWhile_cons,List.dropWhile_cons,if_pos (by simpa using h1),if_pos (by simpa using h1),i1,i2]
  exact⟨rfl,rfl⟩
theorem zi6 {c:UInt8}{k:Nat}{a m:List UInt8}(h:c∉a):Qb c (k+1) (a++c::m)=a::Qb c k m:=by
 obtain⟨h1,h2⟩:=znn (m:=m) h
 rw[Qb,if_pos (by simp),h1,h2];rfl
theorem zi7 {c:UInt8}{k:Nat}{a:List UInt8}(h:c∉a):Qb c k a=[a]:=by
 cases k with
 | zero=>rfl
 | succ k=>rw[Qb,if_neg h]
def yI (c:UInt8):List (List UInt8)→List UInt8
 | []=>[]
 | [a]=>a
 | a::b::r=>a++c::yI c (b::r)
theorem zm8 (c:UInt8):∀(k:Nat) (l:List UInt8),(Go.Lib.splitB ⟨[c].toArray⟩ 0 k ⟨l.toArray⟩).map JY=(Qb c k l).map Str.mk
 | 0,l=>by simp[Go.Lib.splitB,JY,Qb]
 | k+1,l=>by
  by_cases h:c∈l
  ·
   obtain⟨a,m,rfl,h2⟩:=zlg h
   have hb:Go.Lib.indexB ⟨(a++c::m).toArray⟩ ⟨[c].toArray⟩=a.length:=(zkA _ _).trans (zgC h2)
   rw[Go.Lib.splitB_hit _ _ _ _ _ hb,zi6 h2]
   have ex:∀i j,(ByteArray.mk (a++c::m).toArray).extract i j=⟨(((a++c::m).take j).drop i).toArray⟩:=by
    intro i j
    rw[ByteArray.extract_mk]
    congr 1
    simp[List.drop_take]
   have hsz:(ByteArray.mk (a++c::m).toArray).size=(a++c::m).length:=rfl
   have hs1:(ByteArray.mk [c].toArray).size=1:=rfl
   have e1:(ByteArray.mk (a++c::m).toArray).extract 0 (a.length+0)=⟨a.toArray⟩:=by
    rw[ex,Nat.add_zero,List.drop_zero,List.take_left]
   have e2:(ByteArray.mk (a++c::m).toArray).extract (a.length+(ByteArray.mk [c].toArray).size) (ByteArray.mk (a++c::m).toArray).size=⟨m.toArray⟩:=by
    rw[ex,hsz,hs1,List.take_length,←List.drop_drop,List.drop_left];rfl
   rw[e2,e1]
   simp only[List.map_cons,zm8 c k m]
   simp[JY]
  ·
   have hb:Go.Lib.indexB ⟨l.toArray⟩ ⟨[c].toArray⟩ = -1:=(zkA _ _).trans (zkC h)
   rw[Go.Lib.splitB_miss _ _ _ _ hb,zi7 h]
   simp[JY]
def qV:List UInt8→Option (List UInt8×List UInt8)
 | []=>none
 | b::l=>if b=34 then some ([],l)else if b=10 then none else if b=92 then(match l with
  | []=>none
  | c::r=>if c=34 then(qV r).map (fun x=>(34::x.1,x.2))else if c=92 then(qV r).map (fun x=>(92::x.1,x.2))else if c=110 then(qV r).map (fun x=>(10::x.1,x.2))else none)
  else(qV l).map (fun x=>(b::x.1,x.2))
theorem znz:qV []=none:=by rw[qV.eq_def]
theorem zbx (b:UInt8)(l:List UInt8):qV (b::l)=if b=34 then some ([],l)else if b=10 then none else if b=92 then(match l with
  | []=>none
  | c::r=>if c=34 then(qV r).map (fun x=>(34::x.1,x.2))else if c=92 then(qV r).map (fun x=>(92::x.1,x.2))else if c=110 then(qV r).map (fun x=>(10::x.1,x.2))else none)
  else(qV l).map (fun x=>(b::x.1,x.2)):=by rw[qV.eq_def]
theorem zny:∀(v r:List UInt8),qV (yw v++34::r)=some (v,r)
 | [],r=>by rw[yw,List.nil_append,zbx,if_pos rfl]
 | b::v,r=>by
  have ih:=zny v r
  rw[yw,List.append_assoc]
  by_cases h1:b=10
  ·
   subst h1
   rw[show jU 10=[92,110]from rfl]
   simp only[List.cons_append,List.nil_append]
   rw[zbx]
   simp[ih]
  ·
   by_cases h2:b=34
   ·
    subst h2
    rw[show jU 34=[92,34]from rfl]
    simp only[List.cons_append,List.nil_append]
    rw[zbx]
    simp[ih]
   ·
    by_cases h3:b=92
    ·
     subst h3
     rw[show jU 92=[92,92]from rfl]
     simp only[List.cons_append,List.nil_append]
     rw[zbx]
     simp[ih]
    ·
     have:jU b=[b]:=by unfold jU;rw[if_neg h1,if_neg h2,if_neg h3]
     rw[this]
     simp only[List.cons_append,List.nil_append]
     rw[zbx,if_neg h2,if_neg h1,if_neg h3,ih];rfl
def zfm (s:Str):Str×Bool:=match s.b with
 | []=>(Str.nil,false)
 | q::l=>match qV l with
  | none=>(Str.nil,false)
  | some (v,r)=>(⟨v⟩,r.isEmpty&&q==34)
theorem zv3 (s:Str):zfm (j7 s)=(s,true):=by
 unfold zfm j7
 simp only[zny s.b []]
 rfl
theorem zmp {α:Type}[Inhabited α]{l:List α}{step:Int→Unit→Option (Res Unit (Res Unit Int))}(p:α→Bool)(hl:(l.length:Int)≤9223372036854775807)
  (hf:∀(i:Nat) (h:i<l.length),step i ()=some (if p l[i]=true then .ab (.ab (i:Int))else .nx ())):
  z7 (l.length:Int) step (fun s=>Res.nx s) ()=some (match l.findIdx? p with | some i=>Res.ab (i:Int) | none=>Res.nx ()):=by
 obtain⟨e,he,hp⟩:=J4 (n:=(l.length:Int)) (step:=step) (fin:=fun s=>(Res.nx s:Res Unit Int)) (s0:=()) (fun i _=>∀j (h:j<l.length),j<i→p l[j]=false)
  (fun e=>e=match l.findIdx? p with | some i=>Res.ab (i:Int) | none=>Res.nx ()) hl (fun j h hj=>by omega) (fun i u hi hI=>by
   have hi':i<l.length:=by omega
   cases u
   rw[hf i hi']
   cases hb:p l[i]with
   | false=>
    refine .inl ⟨(),by simp,fun j h hj=>?_⟩
    rcases Nat.lt_or_eq_of_le (Nat.lt_succ_iff.1 hj)with h1 | h1
    ·
     exact hI j h h1
    ·
     subst h1;exact hb
   | true=>
    refine .inr ⟨_,by simp;rfl,?_⟩
    have:l.findIdx? p=some i:=by
     rw[List.findIdx?_eq_some_iff_getElem]
     exact⟨hi',hb,fun j hj=>by simpa using hI j (by omega) hj⟩
    rw[this]) (fun u hI=>by
   have:l.findIdx? p=none:=by
    rw[List.findIdx?_eq_none_iff]
    intro x hx
    obtain⟨j,hj,rfl⟩:=List.mem_iff_getElem.1 hx
    exact hI j hj (by simpa using hj)
   rw[this])
 rw[he,hp]
theorem zkx {α:Type}{l:List α}{p:α→Bool}:decide (0≤(match l.findIdx? p with | some i=>(i:Int) | none=> -1))=l.any p:=by
 cases h:l.findIdx? p with
 | none=>
  rw[List.findIdx?_eq_none_iff]at h
  simp;exact h
 | some i=>
  obtain⟨hi,hp,_⟩:=List.findIdx?_eq_some_iff_getElem.1 h
  have:l.any p=true:=List.any_eq_true.2 ⟨_,List.getElem_mem hi,hp⟩
  rw[this];simp
theorem zmr {α:Type}[Inhabited α][DecidableEq α]{l m:List α}{step:Int→Unit→Option (Res Unit (Res Unit Bool))}(hlm:l.length=m.length)(hl:(l.length:Int)≤9223372036854775807)
  (hf:∀(i:Nat) (h:i<l.length),step i ()=some (if l[i]=m[i]'(hlm▸h)then .nx ()else .ab (.ab false))):
  z7 (l.length:Int) step (fun s=>Res.nx s) ()=some (if l=m then Res.nx ()else Res.ab false):=by
 obtain⟨e,he,hp⟩:=J4 (n:=(l.length:Int)) (step:=step) (fin:=fun s=>(Res.nx s:Res Unit Bool)) (s0:=()) (fun i _=>∀j (h:j<l.length),j<i→l[j]=m[j]'(hlm▸h))
  (fun e=>e=if l=m then Res.nx ()else Res.ab false) hl (fun j h hj=>by omega) (fun i u hi hI=>by
   have hi':i<l.length:=by omega
   cases u
   rw[hf i hi']
   by_cases hb:l[i]=m[i]'(hlm▸hi')
   ·
    refine .inl ⟨(),by simp[hb],fun j h hj=>?_⟩
    rcases Nat.lt_or_eq_of_le (Nat.lt_succ_iff.1 hj)with h1 | h1
    ·
     exact hI j h h1
    ·
     subst h1;exact hb
   ·
    refine .inr ⟨_,by rw[if_neg hb],?_⟩
    have:¬l=m:=fun e=>hb (by subst e;rfl)
    rw[if_neg this]) (fun u hI=>by
   have:l=m:=List.ext_getElem hlm (fun j h1 h2=>hI j h1 (by simpa using h1))
   rw[if_pos this])
 rw[he,hp]
theorem YB {l:List Int}(hl:(l.length:Int)≤9223372036854775807):vU l=some (zK l):=by
 unfold vU
 rw[jF (fun e=>e) (fun e=>Res.ab e) hl (fun i hi=>?_)]
 ·
  by_cases h:zK (l.map fun e=>e)=0
  ·
   simp only[if_pos h,yy];simp at h;simp[h]
  ·
   simp only[if_neg h,zdg];simp
 ·
  unfold zmd
  rw[zf hi]
  simp only[zw]
  by_cases h:gx l i=0<;>simp[h]
theorem vc (b:Bool)(e:Int):jt b e=some (if b=true then e else 0):=by
 unfold jt;cases b<;>rfl
theorem zbE (n lo hi:Int):Yn n lo hi=some (decide (lo≤n∧n≤hi)):=by
 unfold Yn;simp
def vR (n:Int):Bool:=decide (n < -1000000) || decide (1000000<n)
def qQ (p:zJ):Int:=if vR p.X=true∨vR p.Y=true then 3 else 0
def okP (p:zJ):Prop:= -1000000≤p.X∧p.X≤1000000∧ -1000000≤p.Y∧p.Y≤1000000
theorem zeK {p:zJ}:qQ p=0↔okP p:=by
 unfold qQ okP vR
 simp only[Bool.or_eq_true,decide_eq_true_eq]
 constructor
 ·
  intro h
  by_cases a:(p.X < -1000000∨1000000<p.X)∨p.Y < -1000000∨1000000<p.Y
  ·
   rw[if_pos a]at h;omega
  ·
   omega
 ·
  intro h
  rw[if_neg (by omega)]
theorem zte (p:zJ):qQ p=0∨qQ p=3:=by unfold qQ;split<;>simp
def vq (l:List zJ):Int:=if 1000<l.length then 4 else zK (l.map qQ)
theorem ztg {l:List zJ}:vq l=0↔l.length≤1000∧∀p∈l,okP p:=by
 unfold vq
 by_cases h:1000<l.length
 ·
  simp[h];omega
 ·
  rw[if_neg h,yU]
  constructor
  ·
   intro h2;exact⟨by omega,fun p hp=>zeK.1 (h2 _ (List.mem_map_of_mem hp))⟩
  ·
   rintro⟨_,h2⟩ e he
   obtain⟨p,hp,rfl⟩:=List.mem_map.1 he
   exact zeK.2 (h2 p hp)
theorem znR (p:zJ):zb6 p=some (qQ p):=by
 unfold zb6 YS qQ vR
 simp only[vH]
 cases h1:(decide (p.X < -1000000) || decide (1000000<p.X))<;>cases h2:(decide (p.Y < -1000000) || decide (1000000<p.Y))<;>simp[h1,h2]
theorem zir (p:zJ):zeR p=some (qQ p):=by
 unfold zeR qQ
 simp only[zbE,vH,vc]
 by_cases h1: -1000000≤p.X∧p.X≤1000000
 ·
  have h1':vR p.X=false:=by unfold vR;simp;omega
  by_cases h2: -1000000≤p.Y∧p.Y≤1000000
  ·
   have h2':vR p.Y=false:=by unfold vR;simp;omega
   simp[h1,h2,h1',h2']
  ·
   have h2':vR p.Y=true:=by unfold vR;simp;omega
   simp[h1,h2,h1',h2']
 ·
  have h1':vR p.X=true:=by unfold vR;simp;omega
  simp[h1,h1']
theorem ztc {l:List zJ}(hl:(l.length:Int)≤9223372036854775807):zb9 l=some (zK (l.map qQ)):=by
 unfold zb9
 rw[jF qQ (fun e=>Res.ab e) hl (fun i hi=>by
  unfold zgk
  rw[zf hi]
  simp only[zw,znR,vH]
  by_cases h:qQ (gx l i)=0<;>simp[h])]
 by_cases h:zK (l.map qQ)=0
 ·
  simp only[if_pos h,yy];rw[h]
 ·
  simp only[if_neg h,zdg]
theorem znS (l:List zJ):zb7 l=some (vq l):=by
 unfold zb7 vq
 by_cases h:1000<l.length
 ·
  have:(1000:Int)<l.length:=by omega
  simp[h,this]
 ·
  have:¬(1000:Int)<l.length:=by omega
  simp only[this,decide_false,cond_false,if_neg h]
  rw[ztc (by omega)];rfl
theorem zof (l:List zJ):zeS l=some (vq l):=by
 unfold zeS vq
 by_cases h:1000<l.length
 ·
  have:(1000:Int)<l.length:=by omega
  simp[h,this]
 ·
  have:¬(1000:Int)<l.length:=by omega
  simp only[this,decide_false,cond_false,if_neg h]
  rw[jF qQ (fun e=>Res.ab e) (by omega) (fun i hi=>by
   unfold zmf
   rw[zf hi]
   simp only[zw,zir,vH]
   by_cases h:qQ (gx l i)=0<;>simp[h])]
  by_cases h:zK (l.map qQ)=0
  ·
   simp only[if_pos h,yy];rw[h]
  ·
   simp only[if_neg h,zdg]
def ziE (l:List zJ)(i:Nat):Prop:=decide ((gx l i).X=(gx l ((i:Int) - 1)).X)=decide ((gx l i).Y=(gx l ((i:Int) - 1)).Y)
instance (l:List zJ):DecidablePred (ziE l):=fun i=>by unfold ziE;infer_instance
def okB (b:Box):Prop:= -1000000≤b.X∧b.X≤1000000∧ -1000000≤b.Y∧b.Y≤1000000∧1≤b.W_∧b.W_≤20000∧1≤b.H∧b.H≤20000
instance (b:Box):Decidable (okB b):=by unfold okB;infer_instance
def jl (b:Box):Int:=if okB b then 0 else 3
theorem zdh {b:Box}:jl b=0↔okB b:=by unfold jl;split<;>simp_all
theorem zc5 (b:Box):YR b=some (jl b):=by
 unfold YR YS jl
 simp only[vH]
 by_cases h:okB b
 ·
  rw[if_pos h]
  unfold okB at h
  have e1:(decide (b.X < -1000000) || decide (1000000<b.X))=false:=by simp;omega
  have e2:(decide (b.Y < -1000000) || decide (1000000<b.Y))=false:=by simp;omega
  simp only[e1,e2,Bool.not_false,vk,vH,Bool.or_self,Bool.false_or]
  have e3:(((decide (b.W_<1) || decide (20000<b.W_)) || decide (b.H<1)) || decide (20000<b.H))=false:=by simp;omega
  rw[e3];rfl
 ·
  rw[if_neg h]
  unfold okB at h
  cases h1:(decide (b.X < -1000000) || decide (1000000<b.X))with
  | true=>simp
  | false=>
   cases h2:(decide (b.Y < -1000000) || decide (1000000<b.Y))with
   | true=>simp
   | false=>
    simp only[Bool.not_false,vk,vH,Bool.or_self,Bool.false_or]
    have e3:(((decide (b.W_<1) || decide (20000<b.W_)) || decide (b.H<1)) || decide (20000<b.H))=true:=by
     simp at h1 h2⊢;omega
    rw[e3];rfl
theorem zie (b:Box):za5 b=some (jl b):=by
 unfold za5 jl
 simp only[zir,zbE,vc,vH]
 have hF:∀a c:Int,vU [a,c]=some (zK [a,c]):=fun a c=>YB (by simp)
 by_cases h:okB b
 ·
  rw[if_pos h]
  unfold okB at h
  have e1:qQ ⟨b.X,b.Y⟩=0:=zeK.2 (by unfold okP;simp only;omega)
  have e2:decide (1≤b.W_∧b.W_≤20000)=true:=by simp;omega
  have e3:decide (1≤b.H∧b.H≤20000)=true:=by simp;omega
  simp[e1,e2,e3,hF]
 ·
  rw[if_neg h]
  unfold okB at h
  by_cases c:qQ ⟨b.X,b.Y⟩=0
  ·
   have c':=zeK.1 c
   unfold okP at c'
   simp only at c'
   by_cases c2:1≤b.W_∧b.W_≤20000
   ·
    have e2:decide (1≤b.W_∧b.W_≤20000)=true:=by simpa using c2
    have e3:decide (1≤b.H∧b.H≤20000)=false:=by simp;omega
    simp[c,e2,e3,hF]
   ·
    have e2:decide (1≤b.W_∧b.W_≤20000)=false:=by simpa using c2
    simp[c,e2,hF]
  ·
   have e1:qQ ⟨b.X,b.Y⟩=3:=(zte _).resolve_left c
   rw[e1]
   cases decide (1≤b.W_∧b.W_≤20000)<;>cases decide (1≤b.H∧b.H≤20000)<;>simp[hF]
theorem ztD (N:Nat)(hN:N≤4611686018427387904){α β:Type}[Inhabited α]{l:List α}{step:Int→List β→Option (List β)}(g:α→List β)(s0:List β)(hg:∀a∈l,(g a).length≤1)(hl:s0.length+l.length≤N)
  (hf:∀i s,inR l i→s.length<N→step i s=some (s++g (gx l i))):yV (l.length:Int) step s0=some (s0++l.flatMap g):=by
 obtain⟨s,h1,h2⟩:=QO (n:=(l.length:Int)) (step:=step) (s0:=s0) (fun i s=>s=s0++(l.take i).flatMap g∧s.length≤s0.length+i) (by omega) (by simp) (fun i s hi hI=>by
  have hi':i<l.length:=by omega
  refine⟨_,hf i s ⟨by omega,by omega⟩ (by omega),?_,?_⟩
  ·
   rw[zL hi',hI.1,List.take_succ_eq_append_getElem hi',List.flatMap_append,List.append_assoc];simp
  ·
   rw[zL hi',List.length_append]
   have:=hg _ (List.getElem_mem hi')
   omega)
 rw[h1,h2.1];simp
theorem zeY {α β:Type}[Inhabited α]{l:List α}{step:Int→List β→Option (List β)}(g:α→List β)(s0:List β)(hg:∀a∈l,(g a).length≤1)(hl:s0.length+l.length≤1073741824)
  (hf:∀i s,inR l i→(s.length:Int)<1073741824→step i s=some (s++g (gx l i))):yV (l.length:Int) step s0=some (s0++l.flatMap g):=
 ztD 1073741824 (by omega) g s0 hg hl (fun i s hi hs=>hf i s hi (by omega))
theorem vz {σ O:Type}{n:Nat}{step:Int→σ→Option (Res σ O)}{fin:σ→O}(S:Nat→σ)(err:Nat→Int)(mk:Int→O)(hn:(n:Int)≤9223372036854775807)
  (hf:∀i:Nat,i<n→(∀j,j<i→err j=0)→step i (S i)=some (if err i=0 then .nx (S (i+1))else .ab (mk (err i)))):
  z7 (n:Int) step fin (S 0)=some (if zK ((List.range n).map err)=0 then fin (S n)else mk (zK ((List.range n).map err))):=by
 have hfe:∀(k i:Nat),zK ((List.range' i k).map err)=0∨∃j,i≤j∧j<i+k∧(∀q,i≤q→q<j→err q=0)∧err j≠0∧zK ((List.range' i k).map err)=err j:=by
  intro k
  induction k with
  | zero=>intro i;left;rfl
  | succ k ih=>
   intro i
   rw[List.range'_succ,List.map_cons,vM]
   by_cases h:err i=0
   ·
    rw[if_pos h]
    rcases ih (i+1)with h1 | ⟨j,h1,h2,h3,h4,h5⟩
    ·
     exact .inl h1
    ·
     refine .inr ⟨j,by omega,by omega,fun q q1 q2=>?_,h4,h5⟩
     by_cases hq:q=i
     ·
      rw[hq];exact h
     ·
      exact h3 q (by omega) q2
   ·
    rw[if_neg h]
    exact .inr ⟨i,Nat.le_refl _,by omega,fun q q1 q2=>by omega,h,rfl⟩
 obtain⟨e,h1,h2⟩:=J4 (n:=(n:Int)) (step:=step) (fin:=fin) (s0:=S 0) (fun i s=>s=S i∧∀j,j<i→err j=0)
  (fun e=>e=if zK ((List.range n).map err)=0 then fin (S n)else mk (zK ((List.range n).map err))) hn ⟨rfl,fun j h=>by omega⟩ (fun i s hi hI=>by
   obtain⟨rfl,hz⟩:=hI
   have hi':i<n:=by omega
   rw[hf i hi' hz]
   by_cases he:err i=0
   ·
    left
    rw[if_pos he]
    refine⟨_,rfl,rfl,fun j hj=>?_⟩
    by_cases hj':j=i
    ·
     rw[hj'];exact he
    ·
     exact hz j (by omega)
   ·
    right
    rw[if_neg he]
    refine⟨_,rfl,?_⟩
    have:=hfe n 0
    rw[List.range_eq_range']
    rcases this with h1 | ⟨j,a1,a2,a3,a4,a5⟩
    ·
     have:=yU.1 h1 (err i) (List.mem_map.2 ⟨i,by simp;exact hi',rfl⟩)
     exact absurd this he
    ·
     rw[a5,if_neg a4]
     have:j=i:=by
      rcases Nat.lt_trichotomy j i with c | c | c
      ·
       exact absurd (hz j c) a4
      ·
       exact c
      ·
       exact absurd (a3 i (by omega) c) he
     rw[this]) (fun s hI=>by
   obtain⟨rfl,hz⟩:=hI
   have:zK ((List.range n).map err)=0:=yU.2 (fun e he=>by
    obtain⟨j,hj,rfl⟩:=List.mem_map.1 he
    exact hz j (by simpa using hj))
   rw[if_pos this];rfl)
 rw[h1,h2]
def ja (c:UInt8):Bool:=decide (97≤c.toNat)&&decide (c.toNat≤122)
def nameC (c:UInt8):Bool:=ja c || (decide (48≤c.toNat)&&decide (c.toNat≤57)) || decide (c.toNat=45)
def zO (s:Str):Bool:=decide (s.b.length≤40)&&(match s.b with | []=>false | c::l=>ja c&&l.all nameC)
theorem zcr {s:Str}(h:zO s=true):s≠Str.nil:=by
 rintro rfl
 simp[zO,Str.nil]at h
theorem zh5 (l cs:List UInt8):Go.Lib.trimS l cs=[]↔l.all (cs.contains ·)=true:=by
 have hd:∀(m:List UInt8),m.dropWhile (cs.contains ·)=[]↔m.all (cs.contains ·)=true:=by
  intro m
  induction m with
  | nil=>simp
  | cons c m ih=>
   rw[List.dropWhile_cons,List.all_cons]
   cases h:cs.contains c with
   | true=>simp only[if_true,Bool.true_and];exact ih
   | false=>simp
 unfold Go.Lib.trimS Go.Lib.trimLeftS
 rw[hd]
 unfold Go.Lib.trimRightS
 constructor
 ·
  intro h
  cases hq:l.reverse.dropWhile (cs.contains ·)with
  | nil=>
   have:=(hd l.reverse).1 hq
   simpa using this
  | cons c m=>
   have hc:cs.contains c=false:=by
    have:=List.head?_dropWhile_not (cs.contains ·) l.reverse
    rw[hq]at this
    simpa using this
   rw[hq]at h
   have:c∈(c::m).reverse:=by simp
   have:=List.all_eq_true.1 h c this
   rw[hc]at this;cases this
 ·
  intro h
  have:l.reverse.dropWhile (cs.contains ·)=[]:=(hd _).2 (by simpa using h)
  rw[this];rfl
theorem zgT (c:UInt8):([97,98,99,100,101,102,103,104,105,106,107,108,109,110,111,112,113,114,115,116,117,118,119,120,121,122,48,49,50,51,52,53,54,55,56,57,45]:List UInt8).contains c=nameC c:=by
 have h:∀n,n<256→([97,98,99,100,101,102,103,104,105,106,107,108,109,110,111,112,113,114,115,116,117,118,119,120,121,122,48,49,50,51,52,53,54,55,56,57,45]:List UInt8).contains (UInt8.ofNat n)=nameC (UInt8.ofNat n):=by decide +kernel
 have:=h c.toNat (UInt8.toNat_lt c)
 simpa using this
theorem zel (c:UInt8):(decide ((97:Int)≤(c.toNat:Int))&&decide ((c.toNat:Int)≤122))=ja c:=by
 unfold ja
 congr 1<;>simp only[decide_eq_decide]<;>omega
theorem zpW (c:UInt8):(decide ((48:Int)≤(c.toNat:Int))&&decide ((c.toNat:Int)≤57))=(decide (48≤c.toNat)&&decide (c.toNat≤57)):=by
 congr 1<;>simp only[decide_eq_decide]<;>omega
theorem zpH (c:UInt8):decide ((c.toNat:Int)=45)=decide (c.toNat=45):=by simp only[decide_eq_decide];omega
theorem zgD (s:Str):QM s=some (zO s):=by
 obtain⟨b⟩:=s
 unfold QM
 cases b with
 | nil=>simp[zg,Str.nil,zO,gd,QR]
 | cons c l=>
  have hne:(⟨c::l⟩:Str)≠Str.nil:=by simp[Str.nil]
  have hg:gx (c::l) 0=c:=by simp[gx]
  have hin:inR (c::l) 0:=⟨by omega,by simp⟩
  rw[zf (fun _=>hin),zf (fun _ _=>hin)]
  simp only[hg,decide_eq_false hne,Bool.not_false,Bool.true_and]
  rw[zel]
  unfold QR
  rw[zf ⟨by decide,by decide⟩]
  have ht:decide (trimS ⟨c::l⟩ (⟨[97,98,99,100,101,102,103,104,105,106,107,108,109,110,111,112,113,114,115,116,117,118,119,120,121,122,48,49,50,51,52,53,54,55,56,57,45]⟩:Str)=Str.nil)=(c::l).all nameC:=by
   rw[Bool.eq_iff_iff,decide_eq_true_eq]
   unfold trimS Str.nil
   rw[Str.mk.injEq,zh5]
   have:(fun x=>([97,98,99,100,101,102,103,104,105,106,107,108,109,110,111,112,113,114,115,116,117,118,119,120,121,122,48,49,50,51,52,53,54,55,56,57,45]:List UInt8).contains x)=nameC:=funext zgT
   rw[this]
  have hlen:decide (((c::l).length:Int)≤40)=decide ((c::l).length≤40):=by simp only[decide_eq_decide];omega
  unfold zO
  simp only[hlen]
  cases hA:decide ((c::l).length≤40)with
  | false=>simp[gd]
  | true=>
   cases hB:ja c with
   | false=>simp[gd]
   | true=>
    simp only[Bool.and_self,vk,Option.bind_some,Bool.true_and,ht,List.all_cons]
    have:nameC c=true:=by simp[nameC,hB]
    rw[this,Bool.true_and]
theorem zkD (s:Str):zap s=some (zO s):=by
 obtain⟨b⟩:=s
 unfold zap
 cases b with
 | nil=>simp[zg,Str.nil,zO,gd,QR]
 | cons c l=>
  have hne:(⟨c::l⟩:Str)≠Str.nil:=by simp[Str.nil]
  have hg:gx (c::l) 0=c:=by simp[gx]
  have hin:inR (c::l) 0:=⟨by omega,by simp⟩
  rw[zf (fun _=>hin),zf (fun _=>hin)]
  simp only[hg,decide_eq_false hne,Bool.not_false,Bool.true_and]
  have e:∀X:Bool,((X&&decide ((97:Int)≤(c.toNat:Int)))&&decide ((c.toNat:Int)≤122))=(X&&ja c):=fun X=>by rw[Bool.and_assoc,zel]
  simp only[e]
  unfold QR
  rw[zf ⟨by decide,by decide⟩]
  have ht:decide (trimS ⟨c::l⟩ (⟨[97,98,99,100,101,102,103,104,105,106,107,108,109,110,111,112,113,114,115,116,117,118,119,120,121,122,48,49,50,51,52,53,54,55,56,57,45]⟩:Str)=Str.nil)=(c::l).all nameC:=by
   rw[Bool.eq_iff_iff,decide_eq_true_eq]
   unfold trimS Str.nil
   rw[Str.mk.injEq,zh5]
   have:(fun x=>([97,98,99,100,101,102,103,104,105,106,107,108,109,110,111,112,113,114,115,116,117,118,119,120,121,122,48,49,50,51,52,53,54,55,56,57,45]:List UInt8).contains x)=nameC:=funext zgT
   rw[this]
  have hlen:decide (((c::l).length:Int)≤40)=decide ((c::l).length≤40):=by simp only[decide_eq_decide];omega
  unfold zO
  simp only[hlen]
  cases hA:decide ((c::l).length≤40)with
  | false=>simp[gd]
  | true=>
   cases hB:ja c with
   | false=>simp[gd]
   | true=>
    simp only[Bool.and_self,vk,Option.bind_some,Bool.true_and,ht,List.all_cons]
    have:nameC c=true:=by simp[nameC,hB]
    rw[this,Bool.true_and]
theorem zd9 (s:Str):YO s=some (zO s):=by
 obtain⟨b⟩:=s
 unfold YO
 cases b with
 | nil=>simp[zg,Str.nil,zO,gd,QR]
 | cons c l=>
  have hne:(⟨c::l⟩:Str)≠Str.nil:=by simp[Str.nil]
  have hg:gx (c::l) 0=c:=by simp[gx]
  have hin:inR (c::l) 0:=⟨by omega,by simp⟩
  rw[zf (fun _=>hin),zf (fun _=>hin)]
  simp only[hg,decide_eq_false hne,Bool.not_false,Bool.true_and]
  have e:∀X:Bool,((X&&decide ((97:Int)≤(c.toNat:Int)))&&decide ((c.toNat:Int)≤122))=(X&&ja c):=fun X=>by rw[Bool.and_assoc,zel]
  simp only[e]
  unfold QR
  rw[zf ⟨by decide,by decide⟩]
  have ht:decide (trimS ⟨c::l⟩ (⟨[97,98,99,100,101,102,103,104,105,106,107,108,109,110,111,112,113,114,115,116,117,118,119,120,121,122,48,49,50,51,52,53,54,55,56,57,45]⟩:Str)=Str.nil)=(c::l).all nameC:=by
   rw[Bool.eq_iff_iff,decide_eq_true_eq]
   unfold trimS Str.nil
   rw[Str.mk.injEq,zh5]
   have:(fun x=>([97,98,99,100,101,102,103,104,105,106,107,108,109,110,111,112,113,114,115,116,117,118,119,120,121,122,48,49,50,51,52,53,54,55,56,57,45]:List UInt8).contains x)=nameC:=funext zgT
   rw[this]
  have hlen:decide (((c::l).length:Int)≤40)=decide ((c::l).length≤40):=by simp only[decide_eq_decide];omega
  unfold zO
  simp only[hlen]
  cases hA:decide ((c::l).length≤40)with
  | false=>simp[gd]
  | true=>
   cases hB:ja c with
   | false=>simp[gd]
   | true=>
    simp only[Bool.and_self,vk,Option.bind_some,Bool.true_and,ht,List.all_cons]
    have:nameC c=true:=by simp[nameC,hB]
    rw[this,Bool.true_and]
theorem zfu {s:Str}(hs:zT s):za6 s=some (zO s):=by
 have hl:(s.b.length:Int)≤9223372036854775807:=by have:s.b.length≤9223372036854775807:=hs;omega
 obtain⟨b⟩:=s
 unfold za6
 simp only at hl⊢
 let ok:Nat→Bool:=fun i=>match i with | 0=>ja (gx b 0) | i+1=>nameC (gx b ((i+1:Nat):Int))
 have:=vz (n:=b.length) (step:=zhc ⟨b⟩) (fin:=fun s=>(Res.nx s:Res Unit Bool)) (fun _=>()) (fun i=>if ok i=true then 0 else 1) (fun _=>Res.ab false) hl (fun i hi _=>by
  unfold zhc
  have hin:inR b (i:Int):=⟨by omega,by omega⟩
  rw[zf hin,zw]
  simp only
  generalize hc:gx b (i:Int)=c
  rw[zel,zpW,zpH]
  cases i with
  | zero=>
   have:ok 0=ja c:=by show ja (gx b 0)=_;rw[←hc];rfl
   rw[this]
   cases ja c<;>simp
  | succ i=>
   have:ok (i+1)=nameC c:=by show nameC (gx b ((i+1:Nat):Int))=_;rw[hc]
   rw[this]
   have h0:decide (((i+1:Nat):Int)=0)=false:=decide_eq_false (by omega)
   rw[h0]
   unfold nameC
   cases ja c<;>cases(decide (48≤c.toNat)&&decide (c.toNat≤57))<;>cases decide (c.toNat=45)<;>simp)
 rw[this]
 have hall:zK ((List.range b.length).map (fun i=>if ok i=true then(0:Int)else 1))=0↔∀i,i<b.length→ok i=true:=by
  rw[yU]
  constructor
  ·
   intro h i hi
   have:=h _ (List.mem_map.2 ⟨i,by simpa using hi,rfl⟩)
   by_cases c:ok i=true
   ·
    exact c
   ·
    rw[if_neg c]at this;cases this
  ·
   intro h e he
   obtain⟨i,hi,rfl⟩:=List.mem_map.1 he
   rw[if_pos (h i (by simpa using hi))]
 cases b with
 | nil=>simp[zO,Str.nil]
 | cons c l=>
  have hok:(∀i,i<(c::l).length→ok i=true)↔(ja c&&l.all nameC)=true:=by
   rw[Bool.and_eq_true,List.all_eq_true]
   constructor
   ·
    intro h
    refine⟨h 0 (by simp),fun x hx=>?_⟩
    obtain⟨j,hj,rfl⟩:=List.mem_iff_getElem.1 hx
    have:=h (j+1) (by simp;exact hj)
    have e:gx (c::l) ((j+1:Nat):Int)=l[j]:=by rw[zL (by simp;exact hj)];rfl
    rw[←e];exact this
   ·
    rintro⟨h1,h2⟩ i hi
    cases i with
    | zero=>exact h1
    | succ i=>
     show nameC (gx (c::l) ((i+1:Nat):Int))=true
     rw[zL hi]
     exact h2 _ (by simp)
  have hne:(⟨c::l⟩:Str)≠Str.nil:=by simp[Str.nil]
  unfold zO
  by_cases h:(ja c&&l.all nameC)=true
  ·
   rw[if_pos (hall.2 (hok.2 h))]
   simp only[yy,decide_eq_false hne,h,Bool.not_false,Bool.true_and,Bool.and_true]
   congr 1
   simp only[decide_eq_decide];omega
  ·
   have h':(ja c&&l.all nameC)=false:=by simpa using h
   rw[if_neg (fun e=>h (hok.1 (hall.1 e)))]
   simp[h']
def qG (b:UInt8):Bool:=(decide (b.toNat<32)&&!decide (b.toNat=10)) || decide (b.toNat=127)
def ym (s:Str):Int:=if 1000<s.b.length then 4 else if Yy s=true∧s.b.any qG=false then 0 else 2
theorem zfi {s:Str}:ym s=0↔s.b.length≤1000∧Yy s=true∧s.b.any qG=false:=by
 unfold ym
 by_cases h:1000<s.b.length
 ·
  rw[if_pos h];simp;omega
 ·
  rw[if_neg h]
  by_cases h2:Yy s=true∧s.b.any qG=false
  ·
   rw[if_pos h2];exact⟨fun _=>⟨by omega,h2⟩,fun _=>rfl⟩
  ·
   rw[if_neg h2];exact⟨fun e=>by simp at e,fun hh=>absurd hh.2 h2⟩
theorem ziF (b:UInt8):((decide ((⟨(b.toNat:Int)⟩:KI .u8).n<(⟨32⟩:KI .u8).n)&&!decide ((⟨(b.toNat:Int)⟩:KI .u8).n=(⟨10⟩:KI .u8).n)) || decide ((⟨(b.toNat:Int)⟩:KI .u8).n=(⟨127⟩:KI .u8).n))=qG b:=by
 unfold qG
 have e1:decide ((⟨(b.toNat:Int)⟩:KI .u8).n<(⟨32⟩:KI .u8).n)=decide (b.toNat<32):=by simp;omega
 have e2:decide ((⟨(b.toNat:Int)⟩:KI .u8).n=(⟨10⟩:KI .u8).n)=decide (b.toNat=10):=by simp;omega
 have e3:decide ((⟨(b.toNat:Int)⟩:KI .u8).n=(⟨127⟩:KI .u8).n)=decide (b.toNat=127):=by simp;omega
 rw[e1,e2,e3]
theorem zc7 (s:Str):Yr s=some (ym s):=by
 unfold Yr
 by_cases h:1000<s.b.length
 ·
  rw[decide_eq_true (by omega),show ym s=4 by unfold ym;rw[if_pos h]];rfl
 ·
  rw[decide_eq_false (by omega),cond_false]
  simp only[utf8_ValidString,Option.bind_some]
  cases hv:Yy s with
  | false=>rw[show ym s=2 by unfold ym;rw[if_neg h,hv,if_neg (fun x=>by cases x.1)]];rfl
  | true=>
   simp only[Bool.not_true,cond_false]
   rw[jF (fun b=>if qG b=true then 2 else 0) (fun e=>(Res.ab e:Res Unit Int)) (by omega) (fun i hi=>by
    unfold zhG
    rw[zf hi,zf (fun _=>hi),zf (fun _=>hi),ziF]
    cases qG (gx s.b i)<;>simp)]
   by_cases hb:s.b.any qG=true
   ·
    rw[show ym s=2 by unfold ym;rw[if_neg h,hb,if_neg (fun x=>by cases x.2)]]
    have hne:zK (s.b.map (fun b=>if qG b=true then(2:Int)else 0))=2:=by
     clear h hv
     generalize s.b=l at hb
     induction l with
     | nil=>simp at hb
     | cons b l ih=>
      rw[List.map_cons,vM]
      by_cases c:qG b=true
      ·
       rw[c];simp
      ·
       rw[if_pos (by simp[c])]
       exact ih (by simpa [c]using hb)
    rw[hne];simp
   ·
    have hb':s.b.any qG=false:=by simpa using hb
    rw[show ym s=0 by unfold ym;rw[if_neg h,if_pos ⟨hv,hb'⟩]]
    have hz:zK (s.b.map (fun b=>if qG b=true then(2:Int)else 0))=0:=yU.2 (fun e he=>by
     obtain⟨b,hbm,rfl⟩:=List.mem_map.1 he
     have:qG b=false:=by
      cases q:qG b with
      | false=>rfl
      | true=>exact absurd (List.any_eq_true.2 ⟨b,hbm,q⟩) hb
     rw[this];simp)
    rw[hz];simp
theorem ziv {s:Str}(hs:zT s):zcH s=some (ym s):=by
 have hl:(s.b.length:Int)≤9223372036854775807:=by have:s.b.length≤9223372036854775807:=hs;omega
 unfold zcH
 simp only[utf8_ValidString,Option.bind_some,zw]
 rw[ztC (l:=s.b) (fun a b=>a || qG b) hl (fun i a hi=>by
  unfold zmg
  rw[zf (fun _=>hi),zf (fun _ _=>hi),zf (fun _=>hi),zw]
  rw[Bool.or_assoc,ziF])]
 have hf:∀(l:List UInt8) (a:Bool),l.foldl (fun a b=>a || qG b) a=(a || l.any qG):=by
  intro l
  induction l with
  | nil=>intro a;simp
  | cons b l ih=>intro a;rw[List.foldl_cons,ih,List.any_cons,Bool.or_assoc]
 rw[hf,Option.bind_some,vc,vc,Option.bind_some,Option.bind_some,YB (by simp),Option.bind_some]
 congr 1
 unfold ym
 by_cases h:1000<s.b.length
 ·
  rw[if_pos h,if_pos (by simp;omega)];rfl
 ·
  rw[if_neg h,if_neg (by simp;omega)]
  by_cases h2:Yy s=true∧s.b.any qG=false
  ·
   rw[if_pos h2];simp[h2]
  ·
   rw[if_neg h2]
   have:(!Yy s || s.b.any qG)=true:=by
    cases a:Yy s
    ·
     simp
    ·
     cases b:s.b.any qG
     ·
      exact absurd ⟨a,b⟩ h2
     ·
      simp
   rw[if_pos (by simpa using this)];simp
theorem zkJ (c:UInt8):∀(l:List (List UInt8)),Go.Lib.join l [c]=yI c l
 | []=>rfl
 | [a]=>Go.Lib.join_one a [c]
 | a::b::r=>by
  have ih:=zkJ c (b::r)
  rw[yI,←ih]
  simp[Go.Lib.join,List.intercalate,List.intersperse]
def jr (l:List Int):List UInt8:=yI 32 (l.map Go.Lib.itoa)
theorem zea (c:UInt8):∀(l:List (List UInt8)) (n:Nat),(∀x∈l,x.length≤n)→(yI c l).length≤l.length*(n+1)
 | [],n,_=>by simp[yI]
 | [a],n,h=>by have:=h a (by simp);simp only[yI,List.length_singleton];omega
 | a::b::r,n,h=>by
  have ih:=zea c (b::r) n (fun x hx=>h x (by simp[hx]))
  have:=h a (by simp)
  rw[yI,List.length_append,List.length_cons]
  rw[show(a::b::r).length=(b::r).length+1 from rfl,Nat.add_mul];omega
theorem zkE {n:Int}(h:InI n):(Go.Lib.itoa n).length≤21:=Go.Lib.itoa_length_le n (by unfold InI at h;omega) (by unfold InI at h;omega)
theorem zsS {l:List Int}(hr:∀x∈l,InI x):(jr l).length≤l.length*22:=by
 have:=zea 32 (l.map Go.Lib.itoa) 21 (fun x hx=>by
  obtain⟨n,hn,rfl⟩:=List.mem_map.1 hx
  exact zkE (hr n hn))
 simpa [jr]using this
theorem zbF {n:Int}(h:InI n):strconv_Itoa n=some (yf n):=by
 unfold strconv_Itoa
 exact zf (by have:=zkE h;show(Go.Lib.itoa n).length≤_;omega)
theorem zkK {l:List Int}:zaO (l.map yf) ⟨[32]⟩=⟨jr l⟩:=by
 unfold zaO jr
 rw[show(⟨[32]⟩:Str).b=[32]from rfl,zkJ,List.map_map]
 rfl
theorem zoc {l:List Int}(hl:l.length≤1000000)(hr:∀x∈l,InI x):strings_Join (l.map yf) ⟨[32]⟩=some ⟨jr l⟩:=by
 unfold strings_Join
 rw[zf ⟨by rw[List.length_map];omega,by rw[zkK];have:=zsS hr;show(jr l).length≤_;omega⟩,zkK]
theorem zj6 {α β:Type}(f:α→β):∀l:List α,(l.flatMap fun x=>[f x])=l.map f
 | []=>rfl
 | a::l=>by rw[List.flatMap_cons,zj6 f l];rfl
theorem zdb {l:List Int}(hl:l.length≤1000000)(hr:∀x∈l,InI x):Qe l=some ⟨jr l⟩:=by
 unfold Qe
 have hg:(l.flatMap fun n=>[yf n])=l.map yf:=zj6 yf l
 have h:=zeY (l:=l) (step:=zdB l) (fun n=>[yf n]) [] (fun _ _=>Nat.le_refl 1) (by simp;omega) (fun i s hi hs=>by
  unfold zdB
  rw[zf hi,zbF (hr _ (qZ hi)),Option.bind_some,zf (by rw[qI,List.length_singleton];omega)])
 rw[h,hg,Option.bind_some,List.nil_append,zoc hl hr];rfl
theorem zna (s:Str)(c:UInt8):Jf s ⟨[c]⟩=(Qb c (s.b.count c) s.b).map Str.mk:=by
 unfold Jf
 rw[show Go.Lib.countB ⟨s.b.toArray⟩ ⟨[c].toArray⟩=s.b.count c from Go.Lib.count_one c s.b]
 exact zm8 c _ s.b
theorem zi8 (c:UInt8):∀(ws:List (List UInt8)) (k:Nat),ws≠[]→(∀w∈ws,c∉w)→ws.length≤k+1→Qb c k (yI c ws)=ws
 | [],_,h,_,_=>absurd rfl h
 | [a],k,_,h,_=>zi7 (h a (by simp))
 | a::b::r,0,_,_,hl=>by simp at hl
 | a::b::r,k+1,_,h,hl=>by
  rw[yI,zi6 (h a (by simp)),zi8 c (b::r) k (by simp) (fun w hw=>h w (by simp[hw])) (by simp only[List.length_cons]at hl⊢;omega)]
theorem zfQ (c:UInt8):∀(ws:List (List UInt8)),ws≠[]→(∀w∈ws,c∉w)→(yI c ws).count c+1=ws.length
 | [],h,_=>absurd rfl h
 | [a],_,h=>by
  show a.count c+1=1
  rw[List.count_eq_zero.2 (h a (by simp))]
 | a::b::r,_,h=>by
  have ih:=zfQ c (b::r) (by simp) (fun w hw=>h w (by simp[hw]))
  rw[yI,List.count_append,List.count_cons_self,List.count_eq_zero.2 (h a (by simp)),List.length_cons,←ih];omega
theorem znb {c:UInt8}{ws:List (List UInt8)}(h0:ws≠[])(h:∀w∈ws,c∉w):Jf ⟨yI c ws⟩ ⟨[c]⟩=ws.map Str.mk:=by
 rw[zna,show(⟨yI c ws⟩:Str).b=yI c ws from rfl,zi8 c ws _ h0 h (by have:=zfQ c ws h0 h;omega)]
theorem zeb {c b:UInt8}:∀{ws:List (List UInt8)},b∈yI c ws→b=c∨∃w∈ws,b∈w
 | [],h=>by simp[yI]at h
 | [a],h=>.inr ⟨a,by simp,h⟩
 | a::d::r,h=>by
  rw[yI,List.mem_append,List.mem_cons]at h
  rcases h with h | h | h
  ·
   exact .inr ⟨a,by simp,h⟩
  ·
   exact .inl h
  ·
   rcases zeb h with h | ⟨w,hw,h⟩
   ·
    exact .inl h
   ·
    exact .inr ⟨w,by simp[hw],h⟩
structure jP (w:List UInt8):Prop where
 ne:w≠[]
 b32:(32:UInt8)∉w
 b34:(34:UInt8)∉w
 b10:(10:UInt8)∉w
theorem zlF {s:List UInt8}{j:Nat}(h:Go.Lib.occAt s [32,34] j=true):s[j+1]?=some 34:=by
 unfold Go.Lib.occAt at h
 rw[List.isPrefixOf_iff_prefix]at h
 obtain⟨t,ht⟩:=h
 have h1:s[j+1]?=(s.drop j)[1]?:=by rw[List.getElem?_drop]
 rw[h1,←ht];rfl
theorem zrE {a m:List UInt8}(h:34∉a):Go.Lib.index (a++32::34::m) [32,34]=a.length:=by
 refine Go.Lib.index_first (by simp) ?_ ?_
 ·
  unfold Go.Lib.occAt
  rw[List.drop_left,List.isPrefixOf_iff_prefix]
  exact⟨m,rfl⟩
 ·
  intro j hj
  cases hc:Go.Lib.occAt (a++32::34::m) [32,34] j with
  | false=>rfl
  | true=>
   have h2:=zlF hc
   exfalso
   by_cases e:j+1<a.length
   ·
    rw[List.getElem?_append_left e]at h2
    exact h (List.mem_of_getElem? h2)
   ·
    obtain e:j+1=a.length:=by omega
    rw[e,List.getElem?_append_right (Nat.le_refl _),Nat.sub_self,List.getElem?_cons_zero]at h2
    injection h2 with h2
    exact absurd h2 (by decide)
theorem zrF {a:List UInt8}(h:34∉a):Go.Lib.index a [32,34] = -1:=
 Go.Lib.index_none fun j _=>by
  cases hc:Go.Lib.occAt a [32,34] j with
  | false=>rfl
  | true=>exact absurd (List.mem_of_getElem? (zlF hc)) h
theorem zpB {a m:List UInt8}(h:34∉a):jB ⟨a++32::34::m⟩ ⟨[32,34]⟩=(⟨a⟩,⟨m⟩,true):=by
 unfold jB Go.Lib.cut
 simp only[zrE h,Int.natCast_nonneg,if_true]
 simp
theorem zpC {a:List UInt8}(h:34∉a):jB ⟨a⟩ ⟨[32,34]⟩=(⟨a⟩,⟨[]⟩,false):=by
 unfold jB Go.Lib.cut
 rw[show(⟨a⟩:Str).b=a from rfl,show(⟨[32,34]⟩:Str).b=[32,34]from rfl,zrF h]
 rfl
def qB (t:Str):List UInt8:=if t=Str.nil then []else 32::(j7 t).b
def q8 (ws:List (List UInt8))(t:Str):List UInt8:=yI 32 ws++qB t
theorem zjI:∀(l:List UInt8),(10:UInt8)∉yw l
 | []=>by simp[yw]
 | b::l=>by
  rw[yw,List.mem_append,not_or]
  refine⟨?_,zjI l⟩
  unfold jU
  split
  ·
   decide
  ·
   split
   ·
    decide
   ·
    split
    ·
     decide
    ·
     rename_i h _ _
     simp only[List.mem_singleton]
     exact fun e=>h e.symm
theorem ztn (s:Str):(10:UInt8)∉(j7 s).b:=by
 unfold j7
 simp only[List.mem_cons,List.mem_append,List.mem_nil_iff,or_false,not_or]
 exact⟨by decide,zjI _,by decide⟩
theorem zaP {ws:List (List UInt8)}{t:Str}(h:∀w∈ws,jP w):(10:UInt8)∉q8 ws t:=by
 unfold q8
 rw[List.mem_append,not_or]
 refine⟨fun hm=>?_,?_⟩
 ·
  rcases zeb hm with e | ⟨w,hw,hb⟩
  ·
   exact absurd e (by decide)
  ·
   exact(h w hw).b10 hb
 ·
  unfold qB
  split
  ·
   simp
  ·
   rw[List.mem_cons,not_or]
   exact⟨by decide,ztn t⟩
theorem zr9 {ws:List (List UInt8)}{t:Str}(h:∀w∈ws,jP w):jB ⟨q8 ws t⟩ ⟨[32,34]⟩=(⟨yI 32 ws⟩,⟨if t=Str.nil then []else yw t.b++[34]⟩,!decide (t=Str.nil)):=by
 have hj:(34:UInt8)∉yI 32 ws:=fun hm=>by
  rcases zeb hm with e | ⟨w,hw,hb⟩
  ·
   exact absurd e (by decide)
  ·
   exact(h w hw).b34 hb
 unfold q8 qB
 by_cases ht:t=Str.nil
 ·
  rw[if_pos ht,if_pos ht,List.append_nil,zpC hj,decide_eq_true ht];rfl
 ·
  rw[if_neg ht,if_neg ht,decide_eq_false ht]
  exact zpB hj
def yb:List (List UInt8)→List UInt8
 | []=>[]
 | x::l=>x++10::yb l
theorem zfj:∀(a b:List (List UInt8)),yb (a++b)=yb a++yb b
 | [],_=>rfl
 | x::a,b=>by rw[List.cons_append,yb,yb,zfj a b];simp
theorem zvK (x:List UInt8):yb [x]=x++[10]:=rfl
theorem znq {n:Nat}:∀{l:List (List UInt8)},(∀x∈l,x.length≤n)→(yb l).length≤l.length*(n+1)
 | [],_=>by simp[yb]
 | x::l,h=>by
  have:=h x (by simp)
  have:=znq (l:=l) (fun y hy=>h y (by simp[hy]))
  rw[yb,List.length_append,List.length_cons,List.length_cons,Nat.add_mul];omega
theorem zlU (s:Str):(j7 s).b.length≤2*s.b.length+2:=zlT s
theorem zg5 {t:Str}{n:Nat}(h:t.b.length≤n):(qB t).length≤2*n+3:=by
 have:=zlU t
 unfold qB
 split
 ·
  simp
 ·
  rw[List.length_cons];omega
def yJ (l:List zl)(id:Str):Int:=match l.findIdx? (fun n=>decide (n.Id=id))with | some i=>(i:Int) | none=> -1
theorem zij (s:List zl)(f:zl→Option Bool)(p:zl→Bool)(hl:(s.length:Int)≤9223372036854775807)(hf:∀x∈s,f x=some (p x)):
  zbn s f=some (match s.findIdx? p with | some i=>(i:Int) | none=> -1):=by
 unfold zbn
 rw[zmp p hl (fun i h=>by unfold zhQ;rw[zf ⟨by omega,by omega⟩,zL h,hf _ (List.getElem_mem h)];simp only[vH];cases p s[i]<;>rfl)]
 cases s.findIdx? p<;>rfl
theorem zig (s:List zl)(f:zl→Option Bool)(p:zl→Bool)(hl:(s.length:Int)≤9223372036854775807)(hf:∀x∈s,f x=some (p x)):
  zbm s f=some (s.any p):=by
 unfold zbm
 rw[zij s f p hl hf,vH]
 exact congrArg some zkx
theorem zn9 (s:List zA)(f:zA→Option Bool)(p:zA→Bool)(hl:(s.length:Int)≤9223372036854775807)(hf:∀x∈s,f x=some (p x)):
  zhP s f=some (match s.findIdx? p with | some i=>(i:Int) | none=> -1):=by
 unfold zhP
 rw[zmp p hl (fun i h=>by unfold zmZ;rw[zf ⟨by omega,by omega⟩,zL h,hf _ (List.getElem_mem h)];simp only[vH];cases p s[i]<;>rfl)]
 cases s.findIdx? p<;>rfl
theorem zn1 (s:List zA)(f:zA→Option Bool)(p:zA→Bool)(hl:(s.length:Int)≤9223372036854775807)(hf:∀x∈s,f x=some (p x)):
  zhL s f=some (s.any p):=by
 unfold zhL
 rw[zn9 s f p hl hf,vH]
 exact congrArg some zkx
theorem zal {d:Doc}(hl:(d.Nodes.length:Int)≤9223372036854775807)(id:Str):J1 d id=some (yJ d.Nodes id):=by
 unfold J1
 rw[zij d.Nodes (fun x0=>zme x0 id) (fun n=>decide (n.Id=id)) hl (fun x _=>rfl)]
 rfl
theorem zey {l:List zl}{id:Str}:yJ l id<0↔∀n∈l,n.Id≠id:=by
 unfold yJ
 cases h:l.findIdx? (fun n=>decide (n.Id=id))with
 | none=>
  rw[List.findIdx?_eq_none_iff]at h
  simpa using h
 | some i=>
  obtain⟨hi,hp,_⟩:=List.findIdx?_eq_some_iff_getElem.1 h
  simp only
  constructor
  ·
   intro h;omega
  ·
   intro h;exact absurd (by simpa using hp) (h _ (List.getElem_mem hi))
theorem Y4 {l:List zl}{id:Str}(h:∃n∈l,n.Id=id):inR l (yJ l id)∧(gx l (yJ l id)).Id=id:=by
 unfold yJ
 cases hq:l.findIdx? (fun n=>decide (n.Id=id))with
 | none=>
  rw[List.findIdx?_eq_none_iff]at hq
  obtain⟨n,hn,e⟩:=h
  exact absurd e (by simpa using hq n hn)
 | some i=>
  obtain⟨hi,hp,_⟩:=List.findIdx?_eq_some_iff_getElem.1 hq
  refine⟨⟨by simp,by simp only;omega⟩,?_⟩
  simp only
  rw[zL hi];simpa using hp
theorem zgU {l:List zl}(hd:(l.map (·.Id)).Nodup){i:Nat}(hi:i<l.length):yJ l l[i].Id=i:=by
 unfold yJ
 have:l.findIdx? (fun n=>decide (n.Id=l[i].Id))=some i:=by
  rw[List.findIdx?_eq_some_iff_getElem]
  refine⟨hi,by simp,fun j hj=>?_⟩
  simp only[decide_eq_true_eq]
  intro e
  have:=List.pairwise_iff_getElem.1 hd j i (by simp;omega) (by simpa using hi) hj
  simp at this
  exact this e
 rw[this]
def qc (l:List zl)(p:Str):List Int:=((List.range l.length).filter (fun(i:Nat)=>decide ((gx l (i:Int)).Parent=p))).map (fun(i:Nat)=>(i:Int))
theorem zrs {α:Type}[Inhabited α]{l m:List α}{i:Nat}(hi:i<l.length):gx (l++m) (i:Int)=gx l (i:Int):=by
 rw[zL hi,zL (by simp;omega),List.getElem_append_left hi]
theorem zkh {α:Type}[Inhabited α]{l:List α}{x:α}:gx (l++[x]) (l.length:Int)=x:=by
 rw[zL (by simp)];simp
theorem zd6 {l:List zl}{x:zl}{p:Str}:qc (l++[x]) p=qc l p++(if x.Parent=p then [(l.length:Int)]else []):=by
 unfold qc
 rw[List.length_append,List.length_singleton,List.range_succ,List.filter_append,List.map_append]
 congr 1
 ·
  congr 1
  refine List.filter_congr fun i hi=>?_
  rw[zrs (by simpa using hi)]
 ·
  by_cases h:x.Parent=p
  ·
   simp[h,zkh]
  ·
   simp[h,zkh]
theorem zrD {l:List zl}{p:Str}{k:Int}:k∈qc l p↔inR l k∧(gx l k).Parent=p:=by
 unfold qc
 simp only[List.mem_map,List.mem_filter,List.mem_range,decide_eq_true_eq]
 constructor
 ·
  rintro⟨i,⟨h1,h2⟩,rfl⟩;exact⟨⟨by omega,by omega⟩,h2⟩
 ·
  rintro⟨⟨h1,h2⟩,h3⟩
  refine⟨k.toNat,⟨by omega,?_⟩,by omega⟩
  rw[show((k.toNat:Nat):Int)=k by omega];exact h3
theorem zky {l:List zl}{p:Str}:(qc l p).map (gx l)=l.filter (fun n=>decide (n.Parent=p)):=by
 have key:∀(k:Nat),k≤l.length→(qc (l.take k) p).map (gx l)=(l.take k).filter (fun n=>decide (n.Parent=p)):=by
  intro k
  induction k with
  | zero=>intro _;rfl
  | succ k ih=>
   intro hk
   rw[List.take_succ_eq_append_getElem (by omega),zd6,List.map_append,ih (by omega),List.filter_append]
   congr 1
   have hlen:(l.take k).length=k:=by simp;omega
   by_cases h:(l[k]'(by omega)).Parent=p
   ·
    rw[if_pos h,hlen];simp[h,zL (show k<l.length by omega)]
   ·
    rw[if_neg h];simp[h]
 have:=key l.length (Nat.le_refl _)
 rwa [List.take_length]at this
def vo (l:List zl):GMap Str Int:=⟨fun id=>(l.findIdx? (fun n=>decide (n.Id=id))).map (fun(i:Nat)=>(i:Int))⟩
def j4 (l:List zl):GMap Str (List Int):=⟨fun p=>if p≠Str.nil∧qc l p≠[]then some (qc l p)else none⟩
theorem zsR {l:List zl}{x:zl}(h:∀n∈l,n.Id≠x.Id):vo (l++[x])=(vo l).set x.Id l.length:=by
 unfold vo GMap.set
 congr 1
 funext id
 rw[List.findIdx?_append]
 by_cases he:id=x.Id
 ·
  subst he
  have:l.findIdx? (fun n=>decide (n.Id=x.Id))=none:=by
   rw[List.findIdx?_eq_none_iff]
   intro n hn
   simpa using h n hn
  rw[this,if_pos rfl]
  simp[List.findIdx?_cons]
 ·
  rw[if_neg he]
  have:[x].findIdx? (fun n=>decide (n.Id=id))=none:=by
   rw[List.findIdx?_eq_none_iff]
   intro n hn
   have:n=x:=by simpa using hn
   subst this
   simpa using fun e=>he e.symm
  rw[this]
  simp only
  cases l.findIdx? (fun n=>decide (n.Id=id))<;>rfl
theorem zen {l:List zl}{p:Str}(hp:p≠Str.nil):(j4 l).getD p []=qc l p:=by
 unfold j4 GMap.getD
 simp only
 by_cases h:qc l p=[]
 ·
  rw[if_neg (by simp[h])];simp[h]
 ·
  rw[if_pos ⟨hp,h⟩];rfl
theorem zsw {l:List zl}{x:zl}(h:x.Parent=Str.nil):j4 (l++[x])=j4 l:=by
 unfold j4
 congr 1
 funext p
 by_cases hp:p=Str.nil
 ·
  simp[hp]
 ·
  have e:(if x.Parent=p then [(l.length:Int)]else [])=[]:=if_neg (fun e=>hp (by rw[←e,h]))
  rw[zd6,e,List.append_nil]
theorem zsv {l:List zl}{x:zl}(h:x.Parent≠Str.nil):j4 (l++[x])=(j4 l).set x.Parent ((j4 l).getD x.Parent []++[(l.length:Int)]):=by
 rw[zen h]
 unfold j4 GMap.set
 congr 1
 funext p
 simp only
 by_cases hp:p=x.Parent
 ·
  subst hp
  rw[if_pos rfl,zd6,if_pos rfl,if_pos ⟨h,by simp⟩]
 ·
  have e:(if x.Parent=p then [(l.length:Int)]else [])=[]:=if_neg (fun e=>hp e.symm)
  rw[if_neg hp,zd6,e,List.append_nil]
theorem zgX {l:List zl}{id:Str}:(vo l).has id=decide (0≤yJ l id):=by
 unfold vo GMap.has yJ
 simp only
 cases l.findIdx? (fun n=>decide (n.Id=id))<;>simp
theorem zeB {l:List zl}{id:Str}(h:0≤yJ l id):(vo l).getD id 0=yJ l id:=by
 unfold vo GMap.getD yJ at *
 simp only at *
 cases hq:l.findIdx? (fun n=>decide (n.Id=id))with
 | none=>rw[hq]at h;simp at h
 | some i=>rfl
def yA (d:Doc):yr:=⟨d,vo d.Nodes,j4 d.Nodes⟩
theorem znE {d:Doc}(hl:d.Nodes.length≤500)(hd:(d.Nodes.map (·.Id)).Nodup):zcw d=some (some (yA d)):=by
 unfold zcw
 simp only[zw]
 have hlen:∀k p,(qc (d.Nodes.take k) p).length≤500:=fun k p=>by
  unfold qc
  rw[List.length_map]
  refine Nat.le_trans (List.length_filter_le _ _) ?_
  simp;omega
 obtain⟨s,h1,h2⟩:=QO (n:=(d.Nodes.length:Int)) (step:=zeG d) (s0:=(GMap.nil,GMap.nil)) (fun i s=>s=(vo (d.Nodes.take i),j4 (d.Nodes.take i))) (by omega) (by
  simp only[List.take_zero]
  have e1:vo []=(GMap.nil:GMap Str Int):=rfl
  have e2:j4 []=(GMap.nil:GMap Str (List Int)):=by
   unfold j4 GMap.nil
   congr 1
   funext p
   rw[if_neg (fun h=>h.2 rfl)]
  rw[e1,e2]) (fun i s hi hI=>by
  subst hI
  have hi':i<d.Nodes.length:=by omega
  have hln:(d.Nodes.take i).length=i:=by simp;omega
  have hnew:∀n∈d.Nodes.take i,n.Id≠d.Nodes[i].Id:=fun n hn=>by
   obtain⟨j,hj,rfl⟩:=List.mem_iff_getElem.1 hn
   rw[List.getElem_take]
   have hj':j<i:=by simp at hj;omega
   have:=List.pairwise_iff_getElem.1 hd j i (by simp;omega) (by simpa using hi') hj'
   simpa using this
  unfold zeG
  rw[zf ⟨by omega,by omega⟩,zL hi',zw,zw,List.take_succ_eq_append_getElem hi',zsR hnew,hln]
  simp only
  by_cases hp:d.Nodes[i].Parent=Str.nil
  ·
   rw[decide_eq_true hp,zsw hp]
   exact⟨_,rfl,rfl⟩
  ·
   rw[decide_eq_false hp,zsv hp,hln]
   rw[zen hp]
   refine⟨_,?_,rfl⟩
   simp only[Bool.not_false,cond_true]
   rw[zf]
   show _≤1073741824
   have:=hlen i d.Nodes[i].Parent
   simp;omega)
 rw[h1,h2]
 simp[yA]
theorem zli {d:Doc}(hl:d.Nodes.length≤500)(id:Str):zeT d id=some (d.Nodes.filter (fun n=>decide (n.Parent=id))):=by
 unfold zeT
 rw[zeY (fun n=>if n.Parent=id then [n]else []) [] (fun a _=>by split<;>simp) (by simp;omega) (fun i s hi hs=>by
  unfold zmi
  rw[zf hi,zw]
  by_cases h:(gx d.Nodes i).Parent=id
  ·
   rw[decide_eq_true h,if_pos h,cond_true,zf]
   show _≤1073741824
   simp;omega
  ·
   rw[decide_eq_false h,if_neg h,cond_false,List.append_nil])]
 simp only[List.nil_append,Option.bind_some]
 congr 1
 generalize d.Nodes=l
 induction l with
 | nil=>rfl
 | cons n l ih=>
  rw[List.flatMap_cons,ih,List.filter_cons]
  by_cases h:n.Parent=id<;>simp[h]
theorem zlB {α:Type}[DecidableEq α]:∀(l m:List α),l.Nodup→(∀x∈l,x∈m)→l.length≤m.length
 | [],m,_,_=>by simp
 | x::l,m,hn,hs=>by
  have hx:=hs x (by simp)
  have hn':=List.nodup_cons.1 hn
  have:=zlB l (m.erase x) hn'.2 (fun y hy=>by
   have hne:y≠x:=fun e=>hn'.1 (e▸hy)
   rw[List.mem_erase_of_ne hne];exact hs y (by simp[hy]))
  rw[List.length_erase_of_mem hx]at this
  have:=List.length_pos_of_mem hx
  simp;omega
def par (l:List zl)(n:zl):zl:=gx l (yJ l n.Parent)
def anc (l:List zl)(n:zl):Nat→zl
 | 0=>n
 | k+1=>par l (anc l n k)
theorem zfy {l:List zl}{n:zl}{i:Nat}:∀t,anc l n (i+t)=anc l (anc l n i) t
 | 0=>rfl
 | t+1=>by
  show par l (anc l n (i+t))=par l (anc l (anc l n i) t)
  rw[zfy t]
def zbG (l:List zl):Prop:=∀n∈l,n.Parent≠Str.nil→∃g∈l,g.Id=n.Parent
theorem zlP {l:List zl}(hp:zbG l){n:zl}(hn:n∈l)(h:n.Parent≠Str.nil):par l n∈l∧(par l n).Id=n.Parent:=by
 obtain⟨h1,h2⟩:=Y4 (hp n hn h)
 exact⟨qZ h1,h2⟩
theorem zfz {l:List zl}(hp:zbG l){n:zl}(hn:n∈l):∀k,(∀j,j<k→(anc l n j).Parent≠Str.nil)→anc l n k∈l
 | 0,_=>hn
 | k+1,h=>(zlP hp (zfz hp hn k (fun j hj=>h j (by omega))) (h k (by omega))).1
def Up (l:List zl)(n:zl)(m:Int)(b:Bool):Prop:=
 (b=false∧∃k:Nat,m=k∧(anc l n k).Parent=Str.nil∧∀j,j<k→(anc l n j).Parent≠Str.nil∧(anc l n j).Parent≠n.Id)∨
 ∃k:Nat,m=k+1∧(∀j,j≤k→(anc l n j).Parent≠Str.nil)∧(b=true↔(anc l n k).Parent=n.Id)∧(b=false→k=l.length∧∀j,j≤k→(anc l n j).Parent≠n.Id)
theorem zqh {l:List zl}(hp:zbG l)(hu:∀n∈l,∃m,Up l n m false){n:zl}(hn:n∈l){m:Int}(h:Up l n m false):∃k:Nat,m=k∧(anc l n k).Parent=Str.nil∧∀j,j<k→(anc l n j).Parent≠Str.nil:=by
 rcases h with⟨_,k,h1,h2,h3⟩ | ⟨k,h1,h2,h3,h4⟩
 ·
  exact⟨k,h1,h2,fun j hj=>(h3 j hj).1⟩
 ·
  exfalso
  obtain⟨rfl,h5⟩:=h4 rfl
  have hmem:∀j,j≤l.length→anc l n j∈l:=fun j hj=>zfz hp hn j (fun q hq=>h2 q (by omega))
  have hnd:¬((List.range (l.length+1)).map (anc l n)).Nodup:=fun hd=>by
   have:=zlB _ l hd (fun x hx=>by
    obtain⟨j,hj,rfl⟩:=List.mem_map.1 hx
    exact hmem j (by have:=List.mem_range.1 hj;omega))
   rw[List.length_map,List.length_range]at this
   omega
  have:∃i j,i<j∧j≤l.length∧anc l n i=anc l n j:=by
   apply Classical.byContradiction
   intro hne
   apply hnd
   rw[List.nodup_iff_pairwise_ne,List.pairwise_iff_getElem]
   intro i j hi hj hij e
   simp only[List.length_map,List.length_range]at hi hj
   simp at e
   exact hne ⟨i,j,hij,by omega,e⟩
  obtain⟨i,j,hij,hj,he⟩:=this
  let a:=anc l n i
  have ha:a∈l:=hmem i (by omega)
  let q:=j - i - 1
  have hq:(anc l a q).Parent=a.Id:=by
   have e1:anc l a q=anc l n (j - 1):=by
    rw[←zfy]
    congr 1
    omega
   have e2:=(zlP hp (hmem (j - 1) (by omega)) (h2 (j - 1) (by omega))).2
   have e3:par l (anc l n (j - 1))=a:=by
    show anc l n (j - 1+1)=a
    rw[show j - 1+1=j by omega,←he]
   rw[e1,←e2,e3]
  have hnn:∀t,t≤q→(anc l a t).Parent≠Str.nil:=fun t ht=>by
   rw[←zfy]
   exact h2 _ (by omega)
  obtain⟨m',hm'⟩:=hu a ha
  rcases hm' with⟨_,k,g1,g2,g3⟩ | ⟨k,g1,g2,g3,g4⟩
  ·
   by_cases hk:k≤q
   ·
    exact hnn k hk g2
   ·
    exact(g3 q (by omega)).2 hq
  ·
   obtain⟨rfl,g5⟩:=g4 rfl
   exact g5 q (by omega) hq
theorem zv8 {d:Doc}{p:Str}(h:∃g∈d.Nodes,g.Id=p):zcE (yA d) p=some (gx d.Nodes (yJ d.Nodes p)):=by
 obtain⟨h1,h2⟩:=Y4 h
 unfold zcE yA
 simp only[zw]
 rw[zeB h1.1,zf h1]
theorem zoz {d:Doc}(hl:d.Nodes.length≤500)(hp:zbG d.Nodes){n:zl}(hn:n∈d.Nodes):∃m b,Ym (yA d) n=some (m,!b)∧J2 d n=some (m,b)∧Up d.Nodes n m b:=by
 obtain⟨e,e',h1,h2,h3⟩:=zsi (body:=zcx n (yA d)) (body':=zhe d n) (s0:=((0:Int),n)) (t0:=((0:Int),n.Parent))
  (fun s t=>∃k:Nat,k≤d.Nodes.length∧s=((k:Int),anc d.Nodes n k)∧t=((k:Int),(anc d.Nodes n k).Parent)∧∀j,j<k→(anc d.Nodes n j).Parent≠Str.nil∧(anc d.Nodes n j).Parent≠n.Id)
  (fun s=>(d.Nodes.length+1 - s.1).toNat)
  (fun e e'=>(∃k:Nat,e=Res.nx (k:Int)∧e'=Res.nx (k:Int)∧Up d.Nodes n k false)∨∃m b,e=Res.ab (m,!b)∧e'=Res.ab (m,b)∧Up d.Nodes n m b)
  ⟨0,by omega,rfl,rfl,fun j hj=>by omega⟩ (fun s t hR=>by
   obtain⟨k,hk,rfl,rfl,hbef⟩:=hR
   have hmem:anc d.Nodes n k∈d.Nodes:=zfz hp hn k (fun j hj=>(hbef j hj).1)
   unfold zcx zhe
   simp only[zw]
   by_cases hnil:(anc d.Nodes n k).Parent=Str.nil
   ·
    right
    refine⟨Res.nx (k:Int),Res.nx (k:Int),by rw[decide_eq_true hnil];rfl,by rw[decide_eq_true hnil];rfl,.inl ⟨k,rfl,rfl,.inl ⟨rfl,k,rfl,hnil,hbef⟩⟩⟩
   ·
    rw[decide_eq_false hnil]
    simp only[Bool.not_false,cond_true]
    have hw:W ((k:Int)+1)=(k:Int)+1:=Wk (by omega) (by omega)
    rw[hw]
    have hv:(yA d).d.Nodes=d.Nodes:=rfl
    rw[hv]
    have hall:∀j,j≤k→(anc d.Nodes n j).Parent≠Str.nil:=fun j hj=>by
     rcases Nat.lt_or_eq_of_le hj with h | h
     ·
      exact(hbef j h).1
     ·
      rw[h];exact hnil
    by_cases hid:(anc d.Nodes n k).Parent=n.Id
    ·
     right
     rw[decide_eq_true hid]
     simp only[Bool.true_or,cond_true]
     refine⟨Res.ab ((k:Int)+1,!true),Res.ab ((k:Int)+1,true),rfl,rfl,.inr ⟨_,true,rfl,rfl,.inr ⟨k,rfl,hall,by simp[hid],fun h=>by cases h⟩⟩⟩
    ·
     rw[decide_eq_false hid]
     simp only[Bool.false_or]
     by_cases hlen:(d.Nodes.length:Int)<(k:Int)+1
     ·
      right
      rw[decide_eq_true hlen]
      refine⟨Res.ab ((k:Int)+1,!false),Res.ab ((k:Int)+1,false),rfl,rfl,.inr ⟨_,false,rfl,rfl,.inr ⟨k,rfl,hall,by simp[hid],fun _=>⟨by omega,fun j hj=>?_⟩⟩⟩⟩
      rcases Nat.lt_or_eq_of_le hj with h | h
      ·
       exact(hbef j h).2
      ·
       rw[h];exact hid
     ·
      left
      rw[decide_eq_false hlen]
      have hex:=hp _ hmem hnil
      rw[zv8 hex,zal (by omega),cond_false,cond_false,Option.bind_some,Option.bind_some,zf (Y4 hex).1]
      refine⟨_,_,rfl,rfl,⟨k+1,by omega,by rw[Int.natCast_add];rfl,by rw[Int.natCast_add];rfl,fun j hj=>?_⟩,by simp only;omega⟩
      rcases Nat.lt_or_eq_of_le (Nat.lt_succ_iff.1 hj)with h | h
      ·
       exact hbef j h
      ·
       rw[h];exact⟨hnil,hid⟩)
 unfold Ym J2
 rw[h1,h2]
 rcases h3 with⟨k,rfl,rfl,h3⟩ | ⟨m,b,rfl,rfl,h3⟩
 ·
  exact⟨k,false,rfl,rfl,h3⟩
 ·
  exact⟨m,b,rfl,rfl,h3⟩
theorem zvV {d:Doc}(hl:d.Nodes.length≤500)(hid:∀n∈d.Nodes,n.Id≠Str.nil):∃e,Y7 (yA d)=some e∧zeU d=some e∧
  (e=0→(∀n∈d.Nodes,n.Parent≠Str.nil→∃g∈d.Nodes,g.Id=n.Parent∧(par d.Nodes n).Kind=6)∧(∀n∈d.Nodes,∃k:Nat,k≤8∧(anc d.Nodes n k).Parent=Str.nil∧∀j,j<k→(anc d.Nodes n j).Parent≠Str.nil)∧
   ∀n∈d.Nodes,n.Kind=6→qc d.Nodes n.Id≠[]):=by
 have hll:(d.Nodes.length:Int)≤9223372036854775807:=by omega
 have hv:(yA d).d.Nodes=d.Nodes:=rfl
 have hvn:(yA d).number=vo d.Nodes:=rfl
 have hvm:(yA d).members=j4 d.Nodes:=rfl
 let err1:zl→Int:=fun n=>if n.Parent≠Str.nil∧(yJ d.Nodes n.Parent<0∨(par d.Nodes n).Kind≠6)then 10 else 0
 have p1:z7 (d.Nodes.length:Int) (zcA (yA d)) (fun s=>Res.nx s) ()=some (if zK (d.Nodes.map err1)=0 then Res.nx ()else Res.ab (zK (d.Nodes.map err1))):=
  jF err1 (fun e=>(Res.ab e:Res Unit Int)) hll (fun i hi=>by
   unfold zcA
   rw[hv,hvn,zf hi,zw]
   have hneed:(!decide ((gx d.Nodes i).Parent=Str.nil))=true→(!(vo d.Nodes).has (gx d.Nodes i).Parent)=false→inR d.Nodes ((vo d.Nodes).getD (gx d.Nodes i).Parent 0):=fun _ h2=>by
    rw[zgX]at h2
    have:0≤yJ d.Nodes (gx d.Nodes i).Parent:=by simpa using h2
    rw[zeB this]
    apply Classical.byContradiction
    intro hc
    have:=Y4 (l:=d.Nodes) (id:=(gx d.Nodes i).Parent) (Classical.byContradiction fun hne=>by
     have:yJ d.Nodes (gx d.Nodes i).Parent<0:=zey.2 (fun n hn e=>hne ⟨n,hn,e⟩)
     omega)
    exact hc this.1
   rw[zf hneed,zgX]
   by_cases h0:(gx d.Nodes i).Parent=Str.nil
   ·
    rw[show err1 (gx d.Nodes i)=0 from if_neg (fun h=>h.1 h0)]
    simp[h0]
   ·
    by_cases hneg:yJ d.Nodes (gx d.Nodes i).Parent<0
    ·
     rw[show err1 (gx d.Nodes i)=10 from if_pos ⟨h0,.inl hneg⟩]
     have:¬0≤yJ d.Nodes (gx d.Nodes i).Parent:=by omega
     simp[h0,this]
    ·
     have hge:0≤yJ d.Nodes (gx d.Nodes i).Parent:=by omega
     rw[zeB hge]
     by_cases hk:(par d.Nodes (gx d.Nodes i)).Kind=6
     ·
      rw[show err1 (gx d.Nodes i)=0 from if_neg (fun h=>h.2.elim hneg (fun h=>h hk))]
      unfold par at hk
      simp[h0,hge,hk]
     ·
      rw[show err1 (gx d.Nodes i)=10 from if_pos ⟨h0,.inr hk⟩]
      unfold par at hk
      simp[h0,hge,hk])
 have q1:z7 (d.Nodes.length:Int) (zhi d) (fun s=>Res.nx s) ()=some (if zK (d.Nodes.map err1)=0 then Res.nx ()else Res.ab (zK (d.Nodes.map err1))):=
  jF err1 (fun e=>(Res.ab e:Res Unit Int)) hll (fun i hi=>by
   unfold zhi
   rw[zf hi,zw,zal hll,Option.bind_some]
   have hneed:(!decide ((gx d.Nodes i).Parent=Str.nil))=true→decide (yJ d.Nodes (gx d.Nodes i).Parent<0)=false→inR d.Nodes (yJ d.Nodes (gx d.Nodes i).Parent):=fun _ h2=>by
    have h2:¬yJ d.Nodes (gx d.Nodes i).Parent<0:=by simpa using h2
    exact(Y4 (l:=d.Nodes) (id:=(gx d.Nodes i).Parent) (Classical.byContradiction fun hne=>h2 (zey.2 (fun n hn e=>hne ⟨n,hn,e⟩)))).1
   rw[zf hneed]
   by_cases h0:(gx d.Nodes i).Parent=Str.nil
   ·
    rw[show err1 (gx d.Nodes i)=0 from if_neg (fun h=>h.1 h0)]
    simp[h0]
   ·
    by_cases hneg:yJ d.Nodes (gx d.Nodes i).Parent<0
    ·
     rw[show err1 (gx d.Nodes i)=10 from if_pos ⟨h0,.inl hneg⟩]
     simp[h0,hneg]
    ·
     by_cases hk:(par d.Nodes (gx d.Nodes i)).Kind=6
     ·
      rw[show err1 (gx d.Nodes i)=0 from if_neg (fun h=>h.2.elim hneg (fun h=>h hk))]
      unfold par at hk
      simp[h0,hneg,hk]
     ·
      rw[show err1 (gx d.Nodes i)=10 from if_pos ⟨h0,.inr hk⟩]
      unfold par at hk
      simp[h0,hneg,hk])
 by_cases h1:zK (d.Nodes.map err1)=0
 case neg=>
  refine⟨zK (d.Nodes.map err1),?_,?_,fun h=>absurd h h1⟩
  ·
   unfold Y7;rw[hv,p1,if_neg h1];rfl
  ·
   unfold zeU;rw[q1,if_neg h1];rfl
 have hgood:∀n∈d.Nodes,n.Parent≠Str.nil→∃g∈d.Nodes,g.Id=n.Parent∧(par d.Nodes n).Kind=6:=fun n hn hne=>by
  have:=yU.1 h1 _ (List.mem_map_of_mem hn)
  have hx:¬(n.Parent≠Str.nil∧(yJ d.Nodes n.Parent<0∨(par d.Nodes n).Kind≠6)):=fun h=>by
   have e:err1 n=10:=if_pos h
   rw[e]at this;cases this
  have hk:(par d.Nodes n).Kind=6:=Classical.byContradiction fun hk=>hx ⟨hne,.inr hk⟩
  have hge:¬yJ d.Nodes n.Parent<0:=fun h=>hx ⟨hne,.inl h⟩
  apply Classical.byContradiction
  intro hno
  exact hge (zey.2 (fun g hg e=>hno ⟨g,hg,e,hk⟩))
 have hpar:zbG d.Nodes:=fun n hn hne=>by
  obtain⟨g,h1,h2,_⟩:=hgood n hn hne
  exact⟨g,h1,h2⟩
 let A:zl→Int×Bool:=fun n=>(J2 d n).getD (0,false)
 have hA:∀n∈d.Nodes,Ym (yA d) n=some ((A n).1,!(A n).2)∧J2 d n=some (A n)∧Up d.Nodes n (A n).1 (A n).2:=fun n hn=>by
  obtain⟨m,b,g1,g2,g3⟩:=zoz hl hpar hn
  have e:A n=(m,b):=by show(J2 d n).getD _=_;rw[g2];rfl
  rw[e];exact⟨g1,g2,g3⟩
 let err2:zl→Int:=fun n=>if(A n).2=true then 13 else 0
 let err3:zl→Int:=fun n=>if 8<(A n).1 then 4 else 0
 let err4:zl→Int:=fun n=>if n.Kind=6∧qc d.Nodes n.Id=[]then 9 else 0
 have p2:z7 (d.Nodes.length:Int) (zcB (yA d)) (fun s=>Res.nx s) ()=some (if zK (d.Nodes.map err2)=0 then Res.nx ()else Res.ab (zK (d.Nodes.map err2))):=
  jF err2 (fun e=>(Res.ab e:Res Unit Int)) hll (fun i hi=>by
   unfold zcB
   rw[hv,zf hi,zw,(hA _ (qZ hi)).1,Option.bind_some]
   by_cases h:(A (gx d.Nodes i)).2=true
   ·
    rw[show err2 (gx d.Nodes i)=13 from if_pos h];simp[h]
   ·
    rw[show err2 (gx d.Nodes i)=0 from if_neg h];simp[h])
 have q2:z7 (d.Nodes.length:Int) (zhj d) (fun s=>Res.nx s) ()=some (if zK (d.Nodes.map err2)=0 then Res.nx ()else Res.ab (zK (d.Nodes.map err2))):=
  jF err2 (fun e=>(Res.ab e:Res Unit Int)) hll (fun i hi=>by
   unfold zhj
   rw[zf hi,zw,(hA _ (qZ hi)).2.1,Option.bind_some]
   by_cases h:(A (gx d.Nodes i)).2=true
   ·
    rw[show err2 (gx d.Nodes i)=13 from if_pos h];simp[h]
   ·
    rw[show err2 (gx d.Nodes i)=0 from if_neg h];simp[h])
 have p3:z7 (d.Nodes.length:Int) (zcC (yA d)) (fun s=>Res.nx s) ()=some (if zK (d.Nodes.map err3)=0 then Res.nx ()else Res.ab (zK (d.Nodes.map err3))):=
  jF err3 (fun e=>(Res.ab e:Res Unit Int)) hll (fun i hi=>by
   unfold zcC
   rw[hv,zf hi,zw,(hA _ (qZ hi)).1,Option.bind_some]
   by_cases h:8<(A (gx d.Nodes i)).1
   ·
    rw[show err3 (gx d.Nodes i)=4 from if_pos h];simp[h]
   ·
    rw[show err3 (gx d.Nodes i)=0 from if_neg h];simp[h])
 have q3:z7 (d.Nodes.length:Int) (zhk d) (fun s=>Res.nx s) ()=some (if zK (d.Nodes.map err3)=0 then Res.nx ()else Res.ab (zK (d.Nodes.map err3))):=
  jF err3 (fun e=>(Res.ab e:Res Unit Int)) hll (fun i hi=>by
   unfold zhk
   rw[zf hi,zw,(hA _ (qZ hi)).2.1,Option.bind_some]
   by_cases h:8<(A (gx d.Nodes i)).1
   ·
    rw[show err3 (gx d.Nodes i)=4 from if_pos h];simp[h]
   ·
    rw[show err3 (gx d.Nodes i)=0 from if_neg h];simp[h])
 have hlen:∀p,(d.Nodes.filter (fun n=>decide (n.Parent=p))).length=(qc d.Nodes p).length:=fun p=>by rw[←zky,List.length_map]
 have p4:z7 (d.Nodes.length:Int) (zcD (yA d)) (fun s=>Res.nx s) ()=some (if zK (d.Nodes.map err4)=0 then Res.nx ()else Res.ab (zK (d.Nodes.map err4))):=
  jF err4 (fun e=>(Res.ab e:Res Unit Int)) hll (fun i hi=>by
   unfold zcD
   rw[hv,hvm,zf hi,zw,zen (hid _ (qZ hi))]
   by_cases h:(gx d.Nodes i).Kind=6∧qc d.Nodes (gx d.Nodes i).Id=[]
   ·
    rw[show err4 (gx d.Nodes i)=9 from if_pos h];simp[h.1,h.2]
   ·
    rw[show err4 (gx d.Nodes i)=0 from if_neg h]
    by_cases h2:(gx d.Nodes i).Kind=6
    ·
     have h3:qc d.Nodes (gx d.Nodes i).Id≠[]:=fun e=>h ⟨h2,e⟩
     simp[h2,h3]
    ·
     simp[h2])
 have q4:z7 (d.Nodes.length:Int) (zhl d) (fun s=>Res.nx s) ()=some (if zK (d.Nodes.map err4)=0 then Res.nx ()else Res.ab (zK (d.Nodes.map err4))):=
  jF err4 (fun e=>(Res.ab e:Res Unit Int)) hll (fun i hi=>by
   unfold zhl
   rw[zf hi,zw,zli hl]
   by_cases h2:(gx d.Nodes i).Kind=6
   ·
    rw[decide_eq_true h2,vk,Option.bind_some,hlen]
    by_cases h3:qc d.Nodes (gx d.Nodes i).Id=[]
    ·
     rw[show err4 (gx d.Nodes i)=9 from if_pos ⟨h2,h3⟩];simp[h3]
    ·
     rw[show err4 (gx d.Nodes i)=0 from if_neg (fun h=>h3 h.2)];simp[h3]
   ·
    rw[show err4 (gx d.Nodes i)=0 from if_neg (fun h=>h2 h.1),decide_eq_false h2];simp[gd])
 unfold Y7 zeU
 rw[hv,p1,p2,p3,p4,q1,q2,q3,q4,if_pos h1,yy]
 by_cases h2:zK (d.Nodes.map err2)=0
 case neg=>rw[if_neg h2];exact⟨_,rfl,rfl,fun h=>absurd h h2⟩
 rw[if_pos h2,yy]
 by_cases h3:zK (d.Nodes.map err3)=0
 case neg=>rw[if_neg h3];exact⟨_,rfl,rfl,fun h=>absurd h h3⟩
 rw[if_pos h3,yy]
 by_cases h4:zK (d.Nodes.map err4)=0
 case neg=>rw[if_neg h4];exact⟨_,rfl,rfl,fun h=>absurd h h4⟩
 rw[if_pos h4,yy]
 have hu:∀n∈d.Nodes,Up d.Nodes n (A n).1 false:=fun n hn=>by
  have:=yU.1 h2 _ (List.mem_map_of_mem hn)
  have hb:(A n).2=false:=by
   cases hb:(A n).2 with
   | false=>rfl
   | true=>
    have e:err2 n=13:=if_pos hb
    rw[e]at this;cases this
  have:=(hA n hn).2.2
  rwa [hb]at this
 refine⟨0,rfl,rfl,fun _=>⟨hgood,fun n hn=>?_,fun n hn hk he=>?_⟩⟩
 ·
  obtain⟨k,e1,e2,e3⟩:=zqh hpar (fun n hn=>⟨_,hu n hn⟩) hn (hu n hn)
  refine⟨k,?_,e2,e3⟩
  have:=yU.1 h3 _ (List.mem_map_of_mem hn)
  apply Classical.byContradiction
  intro hc
  have e:err3 n=4:=if_pos (by omega)
  rw[e]at this;cases this
 ·
  have:=yU.1 h4 _ (List.mem_map_of_mem hn)
  have e:err4 n=9:=if_pos ⟨hk,he⟩
  rw[e]at this;cases this
def qb:Box:=⟨0,0,0,0⟩
theorem zrc {l:List Box}(hl:(l.length:Int)≤9223372036854775807):zb8 l=some (zK (l.map jl)):=by
 unfold zb8
 rw[jF jl (fun e=>(Res.ab e:Res Unit Int)) hl (fun i hi=>by
  unfold zgj
  rw[zf hi,zw,zc5,Option.bind_some]
  by_cases h:jl (gx l i)=0<;>simp[h])]
 by_cases h:zK (l.map jl)=0<;>simp[h]
theorem zrw {l:List Box}(hok:∀b∈l,okB b)(hl:l.length≤1000):∃b e,zaK l=some (b,e)∧zeQ l=some (b,e)∧(e=0→okB b):=by
 unfold zaK zeQ
 simp only[zw]
 rw[decide_eq_false (show ¬(1000:Int)<(l.length:Int)by omega),zrc (by omega)]
 have hz:zK (l.map jl)=0:=yU.2 (fun e he=>by
  obtain⟨b,hb,rfl⟩:=List.mem_map.1 he
  exact zdh.2 (hok b hb))
 rw[hz]
 simp only[cond_false,Option.bind_some,decide_true,Bool.not_true]
 by_cases h0:l=[]
 ·
  subst h0
  refine⟨qb,9,rfl,rfl,fun h=>by cases h⟩
 have hpos:0<l.length:=List.length_pos_iff.2 h0
 rw[decide_eq_false (show ¬(l.length:Int)=0 by omega)]
 have hin:inR l 0:=⟨by omega,by omega⟩
 simp only[cond_false,zf hin]
 obtain⟨s,t,h1,h2,h3⟩:=ztE (n:=(l.length:Int)) (step:=zd1 l) (step':=zhb l) (s0:=gx l 0) (t0:=((gx l 0).X,(gx l 0).Y,(gx l 0).X,(gx l 0).Y))
  (fun k s t=>(k=0∧s=gx l 0∧t=((gx l 0).X,(gx l 0).Y,(gx l 0).X,(gx l 0).Y))∨(s=⟨t.1,t.2.1,t.2.2.1 - t.1,t.2.2.2 - t.2.1⟩∧ -1000000≤t.1∧t.1≤1000000∧ -1000000≤t.2.1∧t.2.1≤1000000∧t.1<t.2.2.1∧t.2.2.1≤1020000∧t.2.1<t.2.2.2∧t.2.2.2≤1020000))
  (by omega) (.inl ⟨rfl,rfl,rfl⟩) (fun i s t hi hI=>by
   have hi':i<l.length:=by omega
   have hb:=hok _ (List.getElem_mem hi')
   unfold zd1 zhb
   rw[zf ⟨by omega,by omega⟩,zf ⟨by omega,by omega⟩,zL hi']
   simp only[zw]
   refine⟨_,_,rfl,rfl,.inr ?_⟩
   have hv0:i=0→l[i]=gx l 0:=fun h=>by subst h;exact(zL hi').symm
   generalize l[i]=v at *
   obtain⟨x1,x2,y1,y2,w1,w2,g1,g2⟩:=hb
   rcases hI with⟨rfl,rfl,rfl⟩ | ⟨rfl,c1,c2,c3,c4,c5,c6,c7,c8⟩
   ·
    rw[←hv0 rfl]
    simp only[Int.min_self]
    rw[Wk (n:=v.X+v.W_) (by omega) (by omega),Wk (n:=v.Y+v.H) (by omega) (by omega),Int.max_self,Int.max_self,show max v.X (v.X+v.W_)=v.X+v.W_ by omega,show max v.Y (v.Y+v.H)=v.Y+v.H by omega,
     Wk (n:=v.X+v.W_ - v.X) (by omega) (by omega),Wk (n:=v.Y+v.H - v.Y) (by omega) (by omega)]
    refine⟨rfl,by omega,by omega,by omega,by omega,by omega,by omega,by omega,by omega⟩
   ·
    have q1:W (t.1+(t.2.2.1 - t.1))=t.2.2.1:=by rw[Wk (by omega) (by omega)];omega
    have q2:W (t.2.1+(t.2.2.2 - t.2.1))=t.2.2.2:=by rw[Wk (by omega) (by omega)];omega
    have q3:W (v.X+v.W_)=v.X+v.W_:=Wk (by omega) (by omega)
    have q4:W (v.Y+v.H)=v.Y+v.H:=Wk (by omega) (by omega)
    simp only[q1,q2,q3,q4]
    rw[Wk (n:=max t.2.2.1 (v.X+v.W_) - min t.1 v.X) (by omega) (by omega),Wk (n:=max t.2.2.2 (v.Y+v.H) - min t.2.1 v.Y) (by omega) (by omega)]
    refine⟨rfl,by omega,by omega,by omega,by omega,by omega,by omega,by omega,by omega⟩)
 rw[h1,h2]
 simp only[Option.bind_some]
 rcases h3 with⟨h,_⟩ | ⟨rfl,c1,c2,c3,c4,c5,c6,c7,c8⟩
 ·
  have:(l.length:Int).toNat=l.length:=by omega
  omega
 ·
  rw[Wk (n:=t.2.2.1 - t.1) (by omega) (by omega),Wk (n:=t.2.2.2 - t.2.1) (by omega) (by omega)]
  by_cases h:20000<t.2.2.1 - t.1∨20000<t.2.2.2 - t.2.1
  ·
   have e:(decide (20000<t.2.2.1 - t.1) || decide (20000<t.2.2.2 - t.2.1))=true:=by simpa using h
   rw[e]
   exact⟨qb,4,rfl,rfl,fun h=>by cases h⟩
  ·
   have e:(decide (20000<t.2.2.1 - t.1) || decide (20000<t.2.2.2 - t.2.1))=false:=by simpa using h
   rw[e]
   refine⟨_,0,rfl,rfl,fun _=>?_⟩
   unfold okB
   simp only
   omega
theorem zrq {h:Box}(hh:okB h):∃b e,zaJ h 10=some (b,e)∧za5 (⟨W (h.X - 10),W (h.Y - 10),W (h.W_+20),W (h.H+20)⟩:Box)=some e∧(e=0→b=(⟨W (h.X - 10),W (h.Y - 10),W (h.W_+20),W (h.H+20)⟩:Box)∧okB b):=by
 obtain⟨x1,x2,y1,y2,w1,w2,g1,g2⟩:=id hh
 unfold zaJ
 simp only[zw]
 have e2:W (2*10)=20:=Wk (by omega) (by omega)
 rw[zc5,zdh.2 hh,zie,e2]
 rw[Wk (n:=h.X - 10) (by omega) (by omega),Wk (n:=h.Y - 10) (by omega) (by omega),Wk (n:=h.W_+20) (by omega) (by omega),Wk (n:=h.H+20) (by omega) (by omega)]
 simp only[Option.bind_some,decide_true,Bool.not_true,cond_false]
 have e3:(decide ((10:Int) < -20000) || decide ((20000:Int)<10))=false:=by decide
 rw[e3,cond_false]
 have e4:(decide (h.W_+20<1) || decide (h.H+20<1))=false:=by
  rw[decide_eq_false (by omega),decide_eq_false (by omega)];rfl
 rw[e4,cond_false,zc5,Option.bind_some]
 by_cases h0:jl (⟨h.X - 10,h.Y - 10,h.W_+20,h.H+20⟩:Box)=0
 ·
  rw[h0]
  exact⟨_,0,rfl,rfl,fun _=>⟨rfl,zdh.1 h0⟩⟩
 ·
  rw[decide_eq_false h0]
  exact⟨_,_,rfl,rfl,fun h=>absurd h h0⟩
theorem zo6 {d:Doc}(hl:d.Nodes.length≤500)(hd:(d.Nodes.map (·.Id)).Nodup)(hid:∀n∈d.Nodes,n.Id≠Str.nil)(hb:∀n∈d.Nodes,n.Kind≠6→okB n.Box)
  {i:Nat} (hi:i<d.Nodes.length) (R:Int→(Box×Int)×Box) (hR:∀c∈qc d.Nodes d.Nodes[i].Id,(R c).1.2=0→(R c).1.1=(R c).2∧okB (R c).2):
  ∃b e b',(e=0→b=b'∧okB b')∧∀(slf:yr×Int→Option (Box×Int)) (slf':Doc×Str→Option (Box×Int)),
   (d.Nodes[i].Kind=6→∀c∈qc d.Nodes d.Nodes[i].Id,slf (yA d,c)=some (R c).1∧slf' (d,(gx d.Nodes c).Id)=some ((R c).2,(R c).1.2))→
   vp slf (yA d,(i:Int))=some (b,e)∧Y9 slf' (d,d.Nodes[i].Id)=some (b',e):=by
 have hin:inR d.Nodes (i:Int):=⟨by omega,by omega⟩
 have hn:=List.getElem_mem hi
 have hv:(yA d).d.Nodes=d.Nodes:=rfl
 have hvm:(yA d).members=j4 d.Nodes:=rfl
 by_cases hk:d.Nodes[i].Kind=6
 case neg=>
  refine⟨d.Nodes[i].Box,0,d.Nodes[i].Box,fun _=>⟨rfl,hb _ hn hk⟩,fun slf slf' _=>⟨?_,?_⟩⟩
  ·
   unfold vp
   simp only[zw]
   rw[hv,zf hin,zL hi,decide_eq_false hk];rfl
  ·
   unfold Y9
   simp only[zw]
   rw[zal (by omega),zgU hd hi,Option.bind_some,zf hin,zL hi,decide_eq_false hk];rfl
 generalize hks:qc d.Nodes d.Nodes[i].Id=ks at *
 have hkl:ks.length≤500:=by
  rw[←hks];unfold qc
  rw[List.length_map]
  refine Nat.le_trans (List.length_filter_le _ _) ?_
  simp;omega
 let err:Nat→Int:=fun k=>(R (gx ks (k:Int))).1.2
 let E:=zK ((List.range ks.length).map err)
 have loop1:∀(slf:yr×Int→Option (Box×Int)),(∀c∈ks,slf (yA d,c)=some (R c).1)→
   z7 (ks.length:Int) (za3 slf (yA d,(i:Int)) ks) (fun s=>Res.nx s) ([]:List Box)=some (if E=0 then Res.nx (ks.map (fun c=>(R c).1.1))else Res.ab (qb,E)):=fun slf hs=>by
  have:=vz (n:=ks.length) (step:=za3 slf (yA d,(i:Int)) ks) (fin:=fun s=>(Res.nx s:Res (List Box) (Box×Int))) (fun k=>(ks.take k).map (fun c=>(R c).1.1)) err (fun e=>Res.ab (qb,e)) (by omega) (fun k hk _=>by
   unfold za3
   have hink:inR ks (k:Int):=⟨by omega,by omega⟩
   rw[zf hink,hs _ (qZ hink),Option.bind_some]
   by_cases h:err k=0
   ·
    have h':(R (gx ks (k:Int))).1.2=0:=h
    rw[if_pos h,h']
    simp only[decide_true,Bool.not_true,cond_false]
    rw[zf (by show _≤_;simp;omega),List.take_succ_eq_append_getElem hk,List.map_append,zL hk]
    rfl
   ·
    have h':¬(R (gx ks (k:Int))).1.2=0:=h
    rw[if_neg h,decide_eq_false h']
    rfl)
  simp only[List.take_zero,List.map_nil,List.take_length]at this
  exact this
 have loop2:∀(slf':Doc×Str→Option (Box×Int)),(∀c∈ks,slf' (d,(gx d.Nodes c).Id)=some ((R c).2,(R c).1.2))→
   z7 ((ks.map (gx d.Nodes)).length:Int) (zcG slf' (d,d.Nodes[i].Id) (ks.map (gx d.Nodes))) (fun s=>Res.nx s) ([]:List Box)=some (if E=0 then Res.nx (ks.map (fun c=>(R c).2))else Res.ab (qb,E)):=fun slf' hs=>by
  rw[List.length_map]
  have:=vz (n:=ks.length) (step:=zcG slf' (d,d.Nodes[i].Id) (ks.map (gx d.Nodes))) (fin:=fun s=>(Res.nx s:Res (List Box) (Box×Int))) (fun k=>(ks.take k).map (fun c=>(R c).2)) err (fun e=>Res.ab (qb,e)) (by omega) (fun k hk _=>by
   unfold zcG
   have hink:inR ks (k:Int):=⟨by omega,by omega⟩
   have hg:gx (ks.map (gx d.Nodes)) (k:Int)=gx d.Nodes (gx ks (k:Int)):=by rw[zL (by simpa using hk),zL hk];simp
   rw[zf ⟨by omega,by simp;omega⟩,zw,hg,hs _ (qZ hink),Option.bind_some]
   by_cases h:err k=0
   ·
    have h':(R (gx ks (k:Int))).1.2=0:=h
    rw[if_pos h,h']
    simp only[decide_true,Bool.not_true,cond_false]
    rw[zf (by show _≤_;simp;omega),List.take_succ_eq_append_getElem hk,List.map_append,zL hk]
    rfl
   ·
    have h':¬(R (gx ks (k:Int))).1.2=0:=h
    rw[if_neg h,decide_eq_false h']
    rfl)
  simp only[List.take_zero,List.map_nil,List.take_length]at this
  exact this
 have hfil:d.Nodes.filter (fun n=>decide (n.Parent=d.Nodes[i].Id))=ks.map (gx d.Nodes):=by rw[←hks];exact zky.symm
 have r1:∀slf,vp slf (yA d,(i:Int))=yc (σ:=(List Box)) (ρ:=(Box×Int)) (z7 (ks.length:Int) (za3 slf (yA d,(i:Int)) ks) (fun s=>Res.nx s) ([]:List Box)) fun j=>
   Option.bind (zaK j) fun r2=>bif !decide (r2.2=0)then some (qb,r2.2)else Option.bind (zaJ r2.1 10) fun r3=>some (r3.1,r3.2):=fun slf=>by
  unfold vp
  simp only[zw]
  rw[hv,hvm,zf hin,zL hi,decide_eq_true hk,zen (hid _ hn),hks]
  rfl
 have r2:∀slf',Y9 slf' (d,d.Nodes[i].Id)=yc (σ:=(List Box)) (ρ:=(Box×Int)) (z7 ((ks.map (gx d.Nodes)).length:Int) (zcG slf' (d,d.Nodes[i].Id) (ks.map (gx d.Nodes))) (fun s=>Res.nx s) ([]:List Box)) fun j=>
   Option.bind (zeQ j) fun r4=>bif !decide (r4.2=0)then some (qb,r4.2)else Option.bind (za5 (⟨W (r4.1.X - 10),W (r4.1.Y - 10),W (r4.1.W_+20),W (r4.1.H+20)⟩:Box)) fun r5=>some ((⟨W (r4.1.X - 10),W (r4.1.Y - 10),W (r4.1.W_+20),W (r4.1.H+20)⟩:Box),r5):=fun slf'=>by
  unfold Y9
  simp only[zw]
  rw[zal (by omega),zgU hd hi,Option.bind_some,zf hin,zL hi,decide_eq_true hk,zli hl,Option.bind_some,hfil]
  rfl
 by_cases hE:E=0
 case neg=>
  refine⟨qb,E,qb,fun h=>absurd h hE,fun slf slf' hs=>?_⟩
  rw[r1,r2,loop1 slf (fun c hc=>(hs hk c hc).1),loop2 slf' (fun c hc=>(hs hk c hc).2),if_neg hE,if_neg hE]
  exact⟨rfl,rfl⟩
 have hz:∀c∈ks,(R c).1.2=0:=fun c hc=>by
  obtain⟨k,hk',rfl⟩:=List.mem_iff_getElem.1 hc
  have:=yU.1 hE (err k) (List.mem_map.2 ⟨k,by simpa using hk',rfl⟩)
  show(R ks[k]).1.2=0
  rw[←zL hk'];exact this
 have hsame:ks.map (fun c=>(R c).1.1)=ks.map (fun c=>(R c).2):=List.map_congr_left fun c hc=>(hR c hc (hz c hc)).1
 obtain⟨b,e,h1,h2,h3⟩:=zrw (l:=ks.map (fun c=>(R c).2)) (fun b hb=>by
  obtain⟨c,hc,rfl⟩:=List.mem_map.1 hb
  exact(hR c hc (hz c hc)).2) (by simp;omega)
 by_cases he:e=0
 case neg=>
  refine⟨qb,e,qb,fun h=>absurd h he,fun slf slf' hs=>?_⟩
  rw[r1,r2,loop1 slf (fun c hc=>(hs hk c hc).1),loop2 slf' (fun c hc=>(hs hk c hc).2),if_pos hE,if_pos hE,yy,yy,hsame,h1,h2,Option.bind_some,Option.bind_some,decide_eq_false he]
  exact⟨rfl,rfl⟩
 obtain⟨b2,e2,g1,g2,g3⟩:=zrq (h3 he)
 refine⟨b2,e2,_,fun h=>⟨(g3 h).1,(g3 h).1▸(g3 h).2⟩,fun slf slf' hs=>?_⟩
 rw[r1,r2,loop1 slf (fun c hc=>(hs hk c hc).1),loop2 slf' (fun c hc=>(hs hk c hc).2),if_pos hE,if_pos hE,yy,yy,hsame,h1,h2,Option.bind_some,Option.bind_some,decide_eq_true he]
 simp only[Bool.not_true,cond_false]
 rw[g1,g2]
 exact⟨rfl,rfl⟩
def Dp (l:List zl)(n:zl)(m:Nat):Prop:=(anc l n m).Parent=Str.nil∧∀j,j<m→(anc l n j).Parent≠Str.nil
theorem Dp.uni {l:List zl}{n:zl}{m m':Nat}(h:Dp l n m)(h':Dp l n m'):m=m':=by
 rcases Nat.lt_trichotomy m m' with c | c | c
 ·
  exact absurd h.1 (h'.2 m c)
 ·
  exact c
 ·
  exact absurd h'.1 (h.2 m' c)
theorem zs9 {l:List zl}(hd:(l.map (·.Id)).Nodup){i:Nat}(hi:i<l.length){c:zl}(hc:c.Parent=l[i].Id):par l c=l[i]:=by
 unfold par
 rw[hc,zgU hd hi,zL hi]
theorem zfA {l:List zl}{c:zl}:∀k,anc l c (k+1)=anc l (par l c) k
 | 0=>rfl
 | k+1=>by
  show par l (anc l c (k+1))=par l (anc l (par l c) k)
  rw[zfA k]
theorem Dp.kid {l:List zl}{c:zl}{m:Nat}(hc:c.Parent≠Str.nil)(h:Dp l (par l c) m):Dp l c (m+1):=by
 refine⟨by rw[zfA];exact h.1,fun j hj=>?_⟩
 cases j with
 | zero=>exact hc
 | succ j=>rw[zfA];exact h.2 j (by omega)
theorem zo5 {d:Doc}(hl:d.Nodes.length≤500)(hd:(d.Nodes.map (·.Id)).Nodup)(hid:∀n∈d.Nodes,n.Id≠Str.nil)(hb:∀n∈d.Nodes,n.Kind≠6→okB n.Box)(hdp:∀n∈d.Nodes,∃k,k≤8∧Dp d.Nodes n k)
  {i:Nat} (hi:i<d.Nodes.length):∃b e b',JZ (yA d) (i:Int)=some (b,e)∧zeP d d.Nodes[i].Id=some (b',e)∧(e=0→b=b'∧okB b'):=by
 have key:∀(f m:Nat) (i:Nat) (hi:i<d.Nodes.length),Dp d.Nodes d.Nodes[i] m→9≤m+f→∃b e b',(e=0→b=b'∧okB b')∧
   ∀N,f≤N→jW vp N (yA d,(i:Int))=some (b,e)∧jW Y9 N (d,d.Nodes[i].Id)=some (b',e):=by
  intro f
  induction f with
  | zero=>
   intro m i hi hm hf
   obtain⟨k,hk,hk2⟩:=hdp _ (List.getElem_mem hi)
   have:=hm.uni hk2
   omega
  | succ f ih=>
   intro m i hi hm hf
   have hkid:∀c∈qc d.Nodes d.Nodes[i].Id,∃(x:(Box×Int)×Box),(x.1.2=0→x.1.1=x.2∧okB x.2)∧∀N,f≤N→jW vp N (yA d,c)=some x.1∧jW Y9 N (d,(gx d.Nodes c).Id)=some (x.2,x.1.2):=fun c hc=>by
    obtain⟨hin,hp⟩:=zrD.1 hc
    obtain⟨j,rfl⟩:∃j:Nat,c=j:=⟨c.toNat,by have:=hin.1;omega⟩
    have hj:j<d.Nodes.length:=by have:=hin.2;omega
    rw[zL hj]at hp⊢
    have hpe:=zs9 hd hi hp
    obtain⟨b,e,b',h1,h2⟩:=ih (m+1) j hj (Dp.kid (by rw[hp];exact hid _ (List.getElem_mem hi)) (by rw[hpe];exact hm)) (by omega)
    exact⟨((b,e),b'),h1,h2⟩
   let R:Int→(Box×Int)×Box:=fun c=>if h:c∈qc d.Nodes d.Nodes[i].Id then(hkid c h).choose else((qb,0),qb)
   have hR:∀c (h:c∈qc d.Nodes d.Nodes[i].Id),R c=(hkid c h).choose:=fun c h=>dif_pos h
   obtain⟨b,e,b',h1,h2⟩:=zo6 hl hd hid hb hi R (fun c hc=>by rw[hR c hc];exact(hkid c hc).choose_spec.1)
   refine⟨b,e,b',h1,fun N hN=>?_⟩
   obtain⟨N,rfl⟩:∃q,N=q+1:=⟨N - 1,by omega⟩
   exact h2 (jW vp N) (jW Y9 N) (fun _ c hc=>by rw[hR c hc];exact(hkid c hc).choose_spec.2 N (by omega))
 obtain⟨k,hk,hk2⟩:=hdp _ (List.getElem_mem hi)
 obtain⟨b,e,b',h1,h2⟩:=key 9 k i hi hk2 (by omega)
 exact⟨b,e,b',zgi 9 (fun N hN=>(h2 N hN).1),zgi 9 (fun N hN=>(h2 N hN).2),h1⟩
theorem zdX {c:Prop}[Decidable c]{e:Int}{l:List Int}(he:e≠0):zK ((if c then 0 else e)::l)=if c then zK l else e:=by
 by_cases h:c<;>simp[h,he]
theorem zb5 {c:Prop}[Decidable c]{e:Int}{l:List Int}(he:e≠0):zK ((if c then e else 0)::l)=if c then e else zK l:=by
 by_cases h:c<;>simp[h,he]
theorem zdW:∀(l m:List Int),zK (l++m)=if zK l=0 then zK m else zK l
 | [],m=>by simp
 | e::l,m=>by
  rw[List.cons_append,vM,vM,zdW l m]
  by_cases h:e=0<;>simp[h]
def je (s:Str):Int:=if s=Str.nil∨zO s=true then 0 else 5
def vQ (n:zl)(tw:Bool):Int:=
 zK [if zO n.Id=true then 0 else 5,if tw=true then 6 else 0,if 1≤n.Kind∧n.Kind≤6 then 0 else 1,if n.Kind=6 then(if n.Box=qb then 0 else 2)else jl n.Box,ym n.Text,je n.Class]
theorem zi0 (s:Str){k:Bool→Option Int}:(Option.bind (gd (!decide (s=Str.nil)) (QM s)) fun r=>bif(!decide (s=Str.nil))&&!r then some 5 else some 0)=some (je s):=by
 unfold je
 rw[zgD]
 by_cases h:s=Str.nil
 ·
  simp[h,gd]
 ·
  rw[decide_eq_false h,Bool.not_false,vk,Option.bind_some]
  cases zO s<;>simp[h]
theorem ziV (n:zl)(tw:Bool):zcv n tw=some (vQ n tw):=by
 unfold zcv vQ
 rw[zgD,Option.bind_some,zdX (by decide),zb5 (by decide),zdX (by decide),vM]
 cases zO n.Id with
 | false=>rfl
 | true=>
  cases tw with
  | true=>rfl
  | false=>
   simp only[Bool.not_true,cond_false,if_true,Bool.false_eq_true,if_false]
   by_cases hk:1≤n.Kind∧n.Kind≤6
   case neg=>
    have:(decide (n.Kind<1) || decide (6<n.Kind))=true:=by simp;omega
    rw[this,if_neg hk];rfl
   have:(decide (n.Kind<1) || decide (6<n.Kind))=false:=by simp;omega
   rw[this,if_pos hk,cond_false]
   have hz:(⟨(0:Int),(0:Int),(0:Int),(0:Int)⟩:Box)=qb:=rfl
   rw[hz]
   have last:(Option.bind (Yr n.Text) fun e2=>bif !decide (e2=0)then some e2 else Option.bind (gd (!decide (n.Class=Str.nil)) (QM n.Class)) fun r2=>bif(!decide (n.Class=Str.nil))&&!r2 then some 5 else some 0)=some (zK [ym n.Text,je n.Class]):=by
    rw[zc7,Option.bind_some,zi0 (k:=fun _=>none)]
    by_cases h:ym n.Text=0
    ·
     simp[h]
    ·
     simp[h]
   by_cases h6:n.Kind=6
   ·
    rw[decide_eq_true h6,if_pos h6]
    by_cases hb:n.Box=qb
    ·
     rw[decide_eq_true hb,if_pos hb]
     simp only[Bool.not_true,Bool.and_false,cond_false,yy,if_true]
     exact last
    ·
     rw[decide_eq_false hb,if_neg hb];simp
   ·
    rw[decide_eq_false h6,if_neg h6]
    simp only[Bool.false_and,cond_false,Bool.not_false,cond_true]
    rw[zc5,Option.bind_some]
    by_cases hb:jl n.Box=0
    ·
     rw[decide_eq_true hb,if_pos hb]
     simp only[Bool.not_true,cond_false,yy]
     exact last
    ·
     rw[decide_eq_false hb,if_neg hb]
     simp
theorem ziY {s:Str}(hs:zT s):zcI s=some (je s):=by
 unfold zcI je
 rw[zfu hs]
 by_cases h:s=Str.nil
 ·
  simp[h,gd,vc]
 ·
  rw[decide_eq_false h,Bool.not_false,vk,Option.bind_some,vc]
  cases zO s<;>simp[h]
theorem zsK {d:Doc}(hl:d.Nodes.length≤500)(hf:∀n∈d.Nodes,zT n.Id∧zT n.Text∧zT n.Class){i:Nat}(hi:i<d.Nodes.length):
  zhh d (i:Int)=some (vQ d.Nodes[i] (decide (d.Nodes[i].Id∈(d.Nodes.take i).map (·.Id)))):=by
 obtain⟨f1,f2,f3⟩:=hf _ (List.getElem_mem hi)
 unfold zhh
 rw[zf ⟨by omega,by omega⟩,zL hi,zw,zf ⟨by omega,by omega,by omega⟩]
 have hseg:seg d.Nodes 0 (i:Int)=d.Nodes.take i:=by simp[seg]
 rw[hseg,zig (d.Nodes.take i) (fun x0=>zmj x0 d.Nodes[i]) (fun m=>decide (m.Id=d.Nodes[i].Id)) (by simp;omega) (fun x _=>rfl),Option.bind_some,zfu f1,Option.bind_some,vc,Option.bind_some,vc,Option.bind_some,zbE,Option.bind_some,vc,Option.bind_some,YB (by simp),Option.bind_some]
 have htw:(d.Nodes.take i).any (fun m=>decide (m.Id=d.Nodes[i].Id))=decide (d.Nodes[i].Id∈(d.Nodes.take i).map (·.Id)):=by
  rw[Bool.eq_iff_iff,List.any_eq_true,decide_eq_true_eq,List.mem_map]
  simp
 rw[htw]
 generalize decide (d.Nodes[i].Id∈(d.Nodes.take i).map (·.Id))=tw
 generalize d.Nodes[i]=n at *
 have e1:vQ n tw=if zK [if zO n.Id=true then(0:Int)else 5,if tw=true then(6:Int)else 0,if 1≤n.Kind∧n.Kind≤6 then(0:Int)else 1]=0 then zK [if n.Kind=6 then(if n.Box=qb then(0:Int)else 2)else jl n.Box,ym n.Text,je n.Class]else zK [if zO n.Id=true then(0:Int)else 5,if tw=true then(6:Int)else 0,if 1≤n.Kind∧n.Kind≤6 then(0:Int)else 1]:=zdW [_,_,_] [_,_,_]
 have e2:zK [if(!zO n.Id)=true then(5:Int)else 0,if tw=true then(6:Int)else 0,if(!decide (1≤n.Kind∧n.Kind≤6))=true then(1:Int)else 0]=zK [if zO n.Id=true then(0:Int)else 5,if tw=true then(6:Int)else 0,if 1≤n.Kind∧n.Kind≤6 then(0:Int)else 1]:=by
  cases zO n.Id<;>by_cases h:1≤n.Kind∧n.Kind≤6<;>simp[h]
 rw[e2,e1]
 generalize zK [if zO n.Id=true then(0:Int)else 5,if tw=true then(6:Int)else 0,if 1≤n.Kind∧n.Kind≤6 then(0:Int)else 1]=E
 by_cases hE:E=0
 ·
  rw[decide_eq_true hE,if_pos hE,Bool.not_true,cond_false,vc,Option.bind_some,zie,ziv f2,ziY f3]
  have hz:(⟨(0:Int),(0:Int),(0:Int),(0:Int)⟩:Box)=qb:=rfl
  rw[hz]
  by_cases h6:n.Kind=6
  ·
   rw[decide_eq_true h6,if_pos h6]
   simp only[Bool.not_true,cond_false,Option.bind_some]
   rw[YB (by simp),Option.bind_some]
   by_cases hb:n.Box=qb<;>simp[hb]
  ·
   rw[decide_eq_false h6,if_neg h6]
   simp only[Bool.not_false,cond_true,Option.bind_some]
   rw[YB (by simp),Option.bind_some]
 ·
  rw[decide_eq_false hE,if_neg hE];rfl
def qw (l:List zl)(y:yg):Int:=if yJ l y.Node<0 then 10 else if(gx l (yJ l y.Node)).Kind=6 then 1 else if(1≤y.Side∧y.Side≤4)∧0≤y.At∧y.At≤1000 then 0 else 3
def Qd (l:List zl)(x:zA)(tw:Bool):Int:=
 zK [if zO x.Id=true then 0 else 5,if tw=true then 6 else 0,qw l x.From,qw l x.To,if 50<x.Bends.length then 4 else 0,vq x.Bends,ym x.Text,je x.Class]
theorem zex {l:List zl}{id:Str}(h:¬yJ l id<0):inR l (yJ l id)∧(gx l (yJ l id)).Id=id:=
 Y4 (Classical.byContradiction fun hne=>h (zey.2 (fun n hn e=>hne ⟨n,hn,e⟩)))
theorem zpo (d:Doc)(y:yg):zcz (yA d) y=some (qw d.Nodes y):=by
 unfold zcz qw
 have hvn:(yA d).number=vo d.Nodes:=rfl
 have hv:(yA d).d.Nodes=d.Nodes:=rfl
 rw[hvn,hv,zgX]
 by_cases h:yJ d.Nodes y.Node<0
 ·
  rw[if_pos h,decide_eq_false (by omega)];rfl
 ·
  rw[if_neg h,decide_eq_true (by omega),zeB (by omega),Bool.not_true,cond_false,zf (zex h).1]
  by_cases h6:(gx d.Nodes (yJ d.Nodes y.Node)).Kind=6
  ·
   rw[if_pos h6,decide_eq_true h6];rfl
  ·
   rw[if_neg h6,decide_eq_false h6,cond_false]
   by_cases hs:(1≤y.Side∧y.Side≤4)∧0≤y.At∧y.At≤1000
   ·
    have:(decide (y.Side<1) || decide (4<y.Side) || decide (y.At<0) || decide (1000<y.At))=false:=by simp;omega
    rw[this,if_pos hs];rfl
   ·
    have:(decide (y.Side<1) || decide (4<y.Side) || decide (y.At<0) || decide (1000<y.At))=true:=by simp;omega
    rw[this,if_neg hs];rfl
theorem ziU (d:Doc)(x:zA)(tw:Bool):zcy (yA d) x tw=some (Qd d.Nodes x tw):=by
 unfold zcy Qd
 rw[zgD,Option.bind_some,zdX (by decide),zb5 (by decide)]
 cases zO x.Id with
 | false=>rfl
 | true=>
  cases tw with
  | true=>rfl
  | false=>
   simp only[Bool.not_true,cond_false,if_true,Bool.false_eq_true,if_false,zw]
   rw[jF (qw d.Nodes) (fun e=>(Res.ab e:Res Unit Int)) (by simp) (fun i hi=>by
    unfold zg3
    rw[zf hi,zw,zpo,Option.bind_some]
    by_cases h:qw d.Nodes (gx [x.From,x.To] i)=0<;>simp[h])]
   rw[show [qw d.Nodes x.From,qw d.Nodes x.To,if 50<x.Bends.length then(4:Int)else 0,vq x.Bends,ym x.Text,je x.Class]=[x.From,x.To].map (qw d.Nodes)++[if 50<x.Bends.length then(4:Int)else 0,vq x.Bends,ym x.Text,je x.Class]from rfl,zdW]
   by_cases hE:zK ([x.From,x.To].map (qw d.Nodes))=0
   case neg=>rw[if_neg hE,if_neg hE];rfl
   rw[if_pos hE,if_pos hE,yy,zb5 (by decide)]
   by_cases h50:50<x.Bends.length
   ·
    rw[if_pos h50,decide_eq_true (by omega)];rfl
   rw[if_neg h50,decide_eq_false (by omega),cond_false,znS,Option.bind_some,vM]
   by_cases hp:vq x.Bends=0
   case neg=>rw[if_neg hp,decide_eq_false hp];rfl
   rw[if_pos hp,decide_eq_true hp,Bool.not_true,cond_false,zc7,Option.bind_some,vM]
   by_cases ht:ym x.Text=0
   case neg=>rw[if_neg ht,decide_eq_false ht];rfl
   rw[if_pos ht,decide_eq_true ht,Bool.not_true,cond_false,zi0 (k:=fun _=>none)]
   by_cases h2:je x.Class=0<;>simp[h2]
theorem zoh (s a:Int):zhd s a=some (if(1≤s∧s≤4)∧0≤a∧a≤1000 then 0 else 3):=by
 unfold zhd
 rw[zbE,zbE,Option.bind_some]
 by_cases h1:1≤s∧s≤4
 ·
  rw[decide_eq_true h1]
  simp only[Bool.not_true,Bool.not_false,vk,Option.bind_some,Bool.false_or]
  rw[vc]
  by_cases h2:0≤a∧a≤1000<;>simp[h1,h2]
 ·
  rw[decide_eq_false h1,if_neg (fun h=>h1 h.1)]
  simp[gd,vc]
theorem zp2 {d:Doc}(hl:d.Nodes.length≤500)(hel:d.Edges.length≤1000)(hf:∀x∈d.Edges,zT x.Id∧zT x.Text∧zT x.Class){i:Nat}(hi:i<d.Edges.length):
  zhf d (i:Int)=some (Qd d.Nodes d.Edges[i] (decide (d.Edges[i].Id∈d.Nodes.map (·.Id)++(d.Edges.take i).map (·.Id)))):=by
 obtain⟨f1,f2,f3⟩:=hf _ (List.getElem_mem hi)
 have hll:(d.Nodes.length:Int)≤9223372036854775807:=by omega
 unfold zhf
 rw[zf ⟨by omega,by omega⟩,zL hi,zw,zal hll,Option.bind_some,zf (fun _=>⟨by omega,by omega,by omega⟩)]
 have hseg:seg d.Edges 0 (i:Int)=d.Edges.take i:=by simp[seg]
 rw[hseg,zn1 (d.Edges.take i) (fun x0=>zmh x0 d.Edges[i]) (fun m=>decide (m.Id=d.Edges[i].Id)) (by simp;omega) (fun x _=>rfl)]
 have htw:(decide (0≤yJ d.Nodes d.Edges[i].Id) || (d.Edges.take i).any (fun m=>decide (m.Id=d.Edges[i].Id)))=decide (d.Edges[i].Id∈d.Nodes.map (·.Id)++(d.Edges.take i).map (·.Id)):=by
  rw[Bool.eq_iff_iff,Bool.or_eq_true,List.any_eq_true,decide_eq_true_eq,decide_eq_true_eq,List.mem_append,List.mem_map,List.mem_map]
  refine or_congr ?_ (by simp)
  constructor
  ·
   intro h
   obtain⟨h1,h2⟩:=zex (l:=d.Nodes) (id:=d.Edges[i].Id) (by omega)
   exact⟨_,qZ h1,h2⟩
  ·
   rintro⟨n,hn,e⟩
   have:=(Y4 ⟨n,hn,e⟩).1.1
   exact this
 have hgd:∀{k:Bool→Option Int},(Option.bind (gd (!(decide (0≤yJ d.Nodes d.Edges[i].Id))) (some ((d.Edges.take i).any (fun m=>decide (m.Id=d.Edges[i].Id))))) fun r2=>k (decide (0≤yJ d.Nodes d.Edges[i].Id) || r2))=k (decide (d.Edges[i].Id∈d.Nodes.map (·.Id)++(d.Edges.take i).map (·.Id))):=fun {k}=>by
  rw[←htw]
  cases decide (0≤yJ d.Nodes d.Edges[i].Id)<;>simp[gd]
 rw[hgd (k:=fun tw=>Option.bind (za6 d.Edges[i].Id) fun r3=>Option.bind (jt (!r3) 5) fun r4=>Option.bind (jt tw 6) fun r5=>Option.bind (vU [r4,r5]) fun e1=>
  bif !decide (e1=0)then some e1 else bnd [d.Edges[i].From,d.Edges[i].To] fun v2=>yc (z7 (v2.length:Int) (zhg d v2) (fun s=>Res.nx s) ()) fun j_12=>
   bif decide (50<(d.Edges[i].Bends.length:Int))then some 4 else Option.bind (zeS d.Edges[i].Bends) fun r8=>Option.bind (zcH d.Edges[i].Text) fun r9=>Option.bind (zcI d.Edges[i].Class) fun r10=>Option.bind (vU [r8,r9,r10]) fun r11=>some r11)]
 generalize decide (d.Edges[i].Id∈d.Nodes.map (·.Id)++(d.Edges.take i).map (·.Id))=tw
 generalize d.Edges[i]=x at *
 simp only[zfu f1,Option.bind_some,vc]
 rw[YB (by simp),Option.bind_some]
 have eR:Qd d.Nodes x tw=if zO x.Id=true then(if tw=true then 6 else zK [qw d.Nodes x.From,qw d.Nodes x.To,if 50<x.Bends.length then 4 else 0,vq x.Bends,ym x.Text,je x.Class])else 5:=by
  unfold Qd
  rw[zdX (by decide),zb5 (by decide)]
 rw[eR]
 cases zO x.Id with
 | false=>rfl
 | true=>
  cases tw with
  | true=>rfl
  | false=>
   have e0:zK [if(!true)=true then(5:Int)else 0,if false=true then(6:Int)else 0]=0:=by simp
   rw[e0]
   simp only[decide_true,Bool.not_true,cond_false,if_true,Bool.false_eq_true,if_false,zw]
   rw[jF (qw d.Nodes) (fun e=>(Res.ab e:Res Unit Int)) (by simp) (fun i hi=>by
    unfold zhg
    rw[zf hi,zw,zal hll,Option.bind_some]
    generalize gx [x.From,x.To] i=y
    unfold qw
    by_cases h:yJ d.Nodes y.Node<0
    ·
     rw[if_pos h,decide_eq_true h];rfl
    ·
     rw[if_neg h,decide_eq_false h,cond_false,zf (zex h).1,vc,Option.bind_some,zoh,Option.bind_some,YB (by simp),Option.bind_some]
     by_cases h6:(gx d.Nodes (yJ d.Nodes y.Node)).Kind=6
     ·
      simp[h6]
     ·
      by_cases hs:(1≤y.Side∧y.Side≤4)∧0≤y.At∧y.At≤1000
      ·
       simp[h6,hs]
      ·
       simp only[if_neg h6,if_neg hs,decide_eq_false h6];simp)]
   rw[show [qw d.Nodes x.From,qw d.Nodes x.To,if 50<x.Bends.length then(4:Int)else 0,vq x.Bends,ym x.Text,je x.Class]=[x.From,x.To].map (qw d.Nodes)++[if 50<x.Bends.length then(4:Int)else 0,vq x.Bends,ym x.Text,je x.Class]from rfl,zdW]
   by_cases hE:zK ([x.From,x.To].map (qw d.Nodes))=0
   case neg=>rw[if_neg hE,if_neg hE];rfl
   rw[if_pos hE,if_pos hE,yy,zb5 (by decide)]
   by_cases h50:50<x.Bends.length
   ·
    rw[if_pos h50,decide_eq_true (by omega)];rfl
   rw[if_neg h50,decide_eq_false (by omega),cond_false,zof,Option.bind_some,ziv f2,Option.bind_some,ziY f3,Option.bind_some,YB (by simp),Option.bind_some]
def knM (l:List Str):GMap Str Bool:=⟨fun id=>if id∈l then some true else none⟩
theorem zei {l:List Str}{x:Str}:(knM l).set x true=knM (l++[x]):=by
 unfold knM GMap.set
 congr 1
 funext id
 by_cases h:id=x
 ·
  simp[h]
 ·
  simp[h]
theorem zeh {l:List Str}{x:Str}:(knM l).getD x false=decide (x∈l):=by
 unfold knM GMap.getD
 by_cases h:x∈l<;>simp[h]
structure jk (d:Doc):Prop where
 nl:d.Nodes.length≤500
 el:d.Edges.length≤1000
 node:∀(i:Nat) (h:i<d.Nodes.length),vQ d.Nodes[i] (decide (d.Nodes[i].Id∈(d.Nodes.take i).map (·.Id)))=0
 tree:∀n∈d.Nodes,n.Parent≠Str.nil→∃g∈d.Nodes,g.Id=n.Parent∧(par d.Nodes n).Kind=6
 zQ:∀n∈d.Nodes,∃k,k≤8∧Dp d.Nodes n k
 full:∀n∈d.Nodes,n.Kind=6→qc d.Nodes n.Id≠[]
 edge:∀(i:Nat) (h:i<d.Edges.length),Qd d.Nodes d.Edges[i] (decide (d.Edges[i].Id∈d.Nodes.map (·.Id)++(d.Edges.take i).map (·.Id)))=0
 box:∀(i:Nat) (h:i<d.Nodes.length),∃b,JZ (yA d) (i:Int)=some (b,0)∧zeP d d.Nodes[i].Id=some (b,0)∧okB b
theorem zaY {n:zl}{tw:Bool}(h:vQ n tw=0):zO n.Id=true∧tw=false∧(1≤n.Kind∧n.Kind≤6)∧(n.Kind≠6→okB n.Box):=by
 have:=yU.1 h
 have h1:=this (if zO n.Id=true then 0 else 5) (by simp)
 have h2:=this (if tw=true then 6 else 0) (by simp)
 have h3:=this (if 1≤n.Kind∧n.Kind≤6 then 0 else 1) (by simp)
 have h4:=this (if n.Kind=6 then(if n.Box=qb then 0 else 2)else jl n.Box) (by simp)
 refine⟨?_,?_,?_,fun hk=>?_⟩
 ·
  apply Classical.byContradiction;intro hc;rw[if_neg hc]at h1;cases h1
 ·
  cases tw with
  | false=>rfl
  | true=>simp at h2
 ·
  apply Classical.byContradiction;intro hc;rw[if_neg hc]at h3;cases h3
 ·
  rw[if_neg hk]at h4;exact zdh.1 h4
theorem zgW:∀{l:List zl},(∀(i:Nat) (h:i<l.length),l[i].Id∉(l.take i).map (·.Id))→(l.map (·.Id)).Nodup:=fun {l} h=>by
 rw[List.nodup_iff_pairwise_ne,List.pairwise_iff_getElem]
 intro i j hi hj hij e
 simp only[List.length_map]at hi hj
 simp only[List.getElem_map]at e
 refine h j hj (List.mem_map.2 ⟨l[i],?_,e⟩)
 have:l[i]=(l.take j)[i]'(by simp;omega):=by simp
 rw[this];exact List.getElem_mem _
theorem zif {d:Doc}(hf:zT d):∃e,jE d=some e∧zmc d=some e∧(e=0→jk d):=by
 have hfn:∀n∈d.Nodes,zT n.Id∧zT n.Text∧zT n.Class:=fun n hn=>by
  have:=hf.1.2 n hn
  exact⟨this.1,this.2.2.2.1,this.2.2.2.2.1⟩
 have hfe:∀x∈d.Edges,zT x.Id∧zT x.Text∧zT x.Class:=fun x hx=>by
  have:=hf.2.2 x hx
  exact⟨this.1,this.2.2.2.2.1,this.2.2.2.2.2⟩
 unfold jE zmc
 by_cases hsz:500<d.Nodes.length∨1000<d.Edges.length
 ·
  have:(decide (500<(d.Nodes.length:Int)) || decide (1000<(d.Edges.length:Int)))=true:=by simp;omega
  rw[this]
  exact⟨4,rfl,rfl,fun h=>by cases h⟩
 have hl:d.Nodes.length≤500:=by omega
 have hel:d.Edges.length≤1000:=by omega
 have:(decide (500<(d.Nodes.length:Int)) || decide (1000<(d.Edges.length:Int)))=false:=by simp;omega
 rw[this,cond_false,cond_false,zw]
 let nE:Nat→Int:=fun i=>vQ (gx d.Nodes (i:Int)) (decide ((gx d.Nodes (i:Int)).Id∈(d.Nodes.take i).map (·.Id)))
 have k0:(GMap.nil:GMap Str Bool)=knM ((d.Nodes.take 0).map (·.Id)):=by simp[knM,GMap.nil]
 rw[k0]
 have p1:=vz (n:=d.Nodes.length) (step:=za1 d) (fin:=fun s=>(Res.nx s:Res (GMap Str Bool) Int)) (fun k=>knM ((d.Nodes.take k).map (·.Id))) nE (fun e=>Res.ab e) (by omega) (fun i hi _=>by
  unfold za1
  rw[zf ⟨by omega,by omega⟩,zw,zeh,ziV,Option.bind_some]
  show(bif !decide (nE i=0)then _ else _)=_
  by_cases h:nE i=0
  ·
   rw[decide_eq_true h,if_pos h,zei,List.take_succ_eq_append_getElem hi,List.map_append,zL hi];rfl
  ·
   rw[decide_eq_false h,if_neg h];rfl)
 have q1:=vz (n:=d.Nodes.length) (step:=zg8 d) (fin:=fun s=>(Res.nx s:Res Unit Int)) (fun _=>()) nE (fun e=>Res.ab e) (by omega) (fun i hi _=>by
  unfold zg8
  rw[zsK hl hfn hi,Option.bind_some,←zL hi]
  show(bif !decide (nE i=0)then some (Res.ab (Res.ab (nE i)))else _)=_
  by_cases h:nE i=0
  ·
   rw[decide_eq_true h,if_pos h];rfl
  ·
   rw[decide_eq_false h,if_neg h];rfl)
 rw[p1,q1]
 by_cases h1:zK ((List.range d.Nodes.length).map nE)=0
 case neg=>rw[if_neg h1,if_neg h1];exact⟨_,rfl,rfl,fun h=>absurd h h1⟩
 rw[if_pos h1,if_pos h1,yy,yy,List.take_length]
 have hnode:∀(i:Nat) (h:i<d.Nodes.length),vQ d.Nodes[i] (decide (d.Nodes[i].Id∈(d.Nodes.take i).map (·.Id)))=0:=fun i h=>by
  have:=yU.1 h1 (nE i) (List.mem_map.2 ⟨i,by simpa using h,rfl⟩)
  rw[←zL h];exact this
 have hd:(d.Nodes.map (·.Id)).Nodup:=zgW fun i h=>by
  have:=(zaY (hnode i h)).2.1
  exact of_decide_eq_false this
 have hat:∀n∈d.Nodes,zO n.Id=true∧(n.Kind≠6→okB n.Box):=fun n hn=>by
  obtain⟨i,hi,rfl⟩:=List.mem_iff_getElem.1 hn
  have:=zaY (hnode i hi)
  exact⟨this.1,this.2.2.2⟩
 have hid:∀n∈d.Nodes,n.Id≠Str.nil:=fun n hn=>zcr (hat n hn).1
 have hbx:∀n∈d.Nodes,n.Kind≠6→okB n.Box:=fun n hn=>(hat n hn).2
 rw[znE hl hd,Option.bind_some,Option.bind_some]
 obtain⟨e,t1,t2,t3⟩:=zvV hl hid
 rw[t1,t2,Option.bind_some,Option.bind_some]
 by_cases he:e=0
 case neg=>rw[decide_eq_false he];exact⟨e,rfl,rfl,fun h=>absurd h he⟩
 rw[decide_eq_true he,Bool.not_true,cond_false,cond_false]
 obtain⟨htree,hdeep,hfull⟩:=t3 he
 have hdp:∀n∈d.Nodes,∃k,k≤8∧Dp d.Nodes n k:=fun n hn=>by
  obtain⟨k,a,b,c⟩:=hdeep n hn
  exact⟨k,a,b,c⟩
 let eE:Nat→Int:=fun i=>Qd d.Nodes (gx d.Edges (i:Int)) (decide ((gx d.Edges (i:Int)).Id∈d.Nodes.map (·.Id)++(d.Edges.take i).map (·.Id)))
 have k1:knM (d.Nodes.map (·.Id))=knM (d.Nodes.map (·.Id)++(d.Edges.take 0).map (·.Id)):=by simp
 rw[k1]
 have p2:=vz (n:=d.Edges.length) (step:=za2 d (yA d)) (fin:=fun s=>(Res.nx s:Res (GMap Str Bool) Int)) (fun k=>knM (d.Nodes.map (·.Id)++(d.Edges.take k).map (·.Id))) eE (fun e=>Res.ab e) (by omega) (fun i hi _=>by
  unfold za2
  rw[zf ⟨by omega,by omega⟩,zw,zeh,ziU,Option.bind_some]
  show(bif !decide (eE i=0)then _ else _)=_
  by_cases h:eE i=0
  ·
   rw[decide_eq_true h,if_pos h,zei,List.take_succ_eq_append_getElem hi,List.map_append,zL hi,List.append_assoc];rfl
  ·
   rw[decide_eq_false h,if_neg h];rfl)
 have q2:=vz (n:=d.Edges.length) (step:=zg9 d) (fin:=fun s=>(Res.nx s:Res Unit Int)) (fun _=>()) eE (fun e=>Res.ab e) (by omega) (fun i hi _=>by
  unfold zg9
  rw[zp2 hl hel hfe hi,Option.bind_some,←zL hi]
  show(bif !decide (eE i=0)then some (Res.ab (Res.ab (eE i)))else _)=_
  by_cases h:eE i=0
  ·
   rw[decide_eq_true h,if_pos h];rfl
  ·
   rw[decide_eq_false h,if_neg h];rfl)
 rw[p2,q2]
 by_cases h2:zK ((List.range d.Edges.length).map eE)=0
 case neg=>rw[if_neg h2,if_neg h2];exact⟨_,rfl,rfl,fun h=>absurd h h2⟩
 rw[if_pos h2,if_pos h2,yy,yy]
 have hbox:∀i:Nat,∃x:(Box×Int)×Box,i<d.Nodes.length→JZ (yA d) (i:Int)=some x.1∧zeP d (gx d.Nodes (i:Int)).Id=some (x.2,x.1.2)∧(x.1.2=0→x.1.1=x.2∧okB x.2):=fun i=>by
  by_cases hi:i<d.Nodes.length
  ·
   obtain⟨b,e,b',g1,g2,g3⟩:=zo5 hl hd hid hbx hdp hi
   exact⟨((b,e),b'),fun _=>⟨g1,by rw[zL hi];exact g2,g3⟩⟩
  ·
   exact⟨((qb,0),qb),fun h=>absurd h hi⟩
 let bE:Nat→Int:=fun i=>(hbox i).choose.1.2
 have p3:=vz (n:=d.Nodes.length) (step:=zcu (yA d)) (fin:=fun s=>(Res.nx s:Res Unit Int)) (fun _=>()) bE (fun e=>Res.ab e) (by omega) (fun i hi _=>by
  unfold zcu
  rw[((hbox i).choose_spec hi).1,Option.bind_some]
  show(bif !decide (bE i=0)then some (Res.ab (Res.ab (bE i)))else _)=_
  by_cases h:bE i=0
  ·
   rw[decide_eq_true h,if_pos h];rfl
  ·
   rw[decide_eq_false h,if_neg h];rfl)
 have q3:=vz (n:=d.Nodes.length) (step:=zha d) (fin:=fun s=>(Res.nx s:Res Unit Int)) (fun _=>()) bE (fun e=>Res.ab e) (by omega) (fun i hi _=>by
  unfold zha
  rw[zf ⟨by omega,by omega⟩,zw,((hbox i).choose_spec hi).2.1,Option.bind_some]
  show(bif !decide (bE i=0)then some (Res.ab (Res.ab (bE i)))else _)=_
  by_cases h:bE i=0
  ·
   rw[decide_eq_true h,if_pos h];rfl
  ·
   rw[decide_eq_false h,if_neg h];rfl)
 rw[p3,q3]
 by_cases h3:zK ((List.range d.Nodes.length).map bE)=0
 case neg=>rw[if_neg h3];exact⟨_,rfl,rfl,fun h=>absurd h h3⟩
 rw[if_pos h3]
 refine⟨0,rfl,rfl,fun _=>⟨hl,hel,hnode,htree,hdp,hfull,fun i h=>?_,fun i h=>?_⟩⟩
 ·
  have:=yU.1 h2 (eE i) (List.mem_map.2 ⟨i,by simpa using h,rfl⟩)
  rw[←zL h];exact this
 ·
  have hz:=yU.1 h3 (bE i) (List.mem_map.2 ⟨i,by simpa using h,rfl⟩)
  obtain⟨g1,g2,g3⟩:=(hbox i).choose_spec h
  have hz':(hbox i).choose.1.2=0:=hz
  generalize (hbox i).choose=x at *
  obtain⟨⟨b,e⟩,b'⟩:=x
  simp only at hz' g1 g2 g3
  subst hz'
  obtain⟨rfl,g4⟩:=g3 rfl
  rw[zL h]at g2
  exact⟨b,g1,g2,g4⟩
def y6:List Str:=[Str.nil,⟨[98,111,120]⟩,⟨[114,111,117,110,100]⟩,⟨[111,118,97,108]⟩,⟨[100,105,97,109,111,110,100]⟩,⟨[110,111,116,101]⟩,⟨[103,114,111,117,112]⟩]
def qi:List Str:=[Str.nil,⟨[117,112]⟩,⟨[114,105,103,104,116]⟩,⟨[100,111,119,110]⟩,⟨[108,101,102,116]⟩]
def yq (w:List UInt8)(v:Str):List (List UInt8):=if v=Str.nil then []else [w,v.b]
def QL (l:List Int):List (List UInt8):=l.map Go.Lib.itoa
def jd (b:Box):List Int:=[b.X,b.Y,b.W_,b.H]
def yT (l:List zJ):List Int:=l.flatMap fun p=>[p.X,p.Y]
def vh (y:yg):List (List UInt8):=[y.Node.b,(gx qi y.Side).b,Go.Lib.itoa y.At]
structure jK (n:zl):Prop where
 id:zO n.Id=true
 k1:1≤n.Kind
 k2:n.Kind≤6
 zero:n.Kind=6→n.Box=qb
 box:∀v∈jd n.Box,v.natAbs<10000000
 cls:n.Class=Str.nil∨zO n.Class=true
 par:n.Parent=Str.nil∨zO n.Parent=true
 text:n.Text.b.length≤1000
structure Qv (y:yg):Prop where
 node:zO y.Node=true
 s1:1≤y.Side
 s2:y.Side≤4
 at_:y.At.natAbs<10000000
structure jJ (x:zA):Prop where
 id:zO x.Id=true
 from_:Qv x.From
 to_:Qv x.To
 few:x.Bends.length≤50
 bends:∀v∈yT x.Bends,v.natAbs<10000000
 cls:x.Class=Str.nil∨zO x.Class=true
 text:x.Text.b.length≤1000
theorem Y3 {s:Str}(h:zO s=true):s.b.length≤40:=by
 unfold zO at h
 simp only[Bool.and_eq_true,decide_eq_true_eq]at h
 exact h.1
theorem zsE {s:Str}(h:zO s=true):jP s.b:=by
 have key:∀c∈s.b,nameC c=true:=fun c hm=>by
  unfold zO at h
  simp only[Bool.and_eq_true,decide_eq_true_eq]at h
  obtain⟨_,h2⟩:=h
  cases hb:s.b with
  | nil=>rw[hb]at hm;cases hm
  | cons a l=>
   rw[hb]at h2 hm
   simp only[Bool.and_eq_true]at h2
   rcases List.mem_cons.1 hm with rfl | hm
   ·
    unfold nameC;rw[h2.1];rfl
   ·
    exact List.all_eq_true.1 h2.2 c hm
 exact⟨fun e=>zcr h (by cases s;simp only at e;rw[e];rfl),fun hm=>absurd (key _ hm) (by decide),fun hm=>absurd (key _ hm) (by decide),fun hm=>absurd (key _ hm) (by decide)⟩
theorem zkG (n:Int):jP (Go.Lib.itoa n):=by
 have key:∀c:UInt8,c=32∨c=34∨c=10→c∉Go.Lib.itoa n:=fun c hc hm=>by
  rcases zgH hm with h | h
  ·
   rcases hc with rfl | rfl | rfl<;>exact absurd h (by decide)
  ·
   rcases hc with rfl | rfl | rfl<;>exact absurd h (by decide)
 exact⟨zrT n,key _ (.inl rfl),key _ (.inr (.inl rfl)),key _ (.inr (.inr rfl))⟩
theorem zib {w:List UInt8}(h:(!w.isEmpty&&!w.contains 32&&!w.contains 34&&!w.contains 10)=true):jP w:=by
 simp only[Bool.and_eq_true,Bool.not_eq_true',List.contains_eq_mem,decide_eq_false_iff_not]at h
 obtain⟨⟨⟨h1,h2⟩,h3⟩,h4⟩:=h
 exact⟨fun e=>(by rw[e]at h1;cases h1),h2,h3,h4⟩
theorem zeg {k:Int}(h1:1≤k)(h2:k≤6):k=1∨k=2∨k=3∨k=4∨k=5∨k=6:=by omega
theorem zmW {k:Int}(h1:1≤k)(h2:k≤4):k=1∨k=2∨k=3∨k=4:=by omega
theorem zkR {k:Int}(h1:1≤k)(h2:k≤6):jP (gx y6 k).b∧(gx y6 k).b.length≤7:=by
 rcases zeg h1 h2 with rfl | rfl | rfl | rfl | rfl | rfl<;>exact⟨zib (by decide),by decide⟩
theorem ze4 {k:Int}(h1:1≤k)(h2:k≤4):jP (gx qi k).b∧(gx qi k).b.length≤5:=by
 rcases zmW h1 h2 with rfl | rfl | rfl | rfl<;>exact⟨zib (by decide),by decide⟩
theorem JN {n:Int}(h:n.natAbs<10000000):(Go.Lib.itoa n).length≤8:=zrS (k:=7) (by decide) (by omega)
theorem YH:∀(l:List zJ),(yT l).length=2*l.length
 | []=>rfl
 | p::l=>by
  have:=YH l
  unfold yT at this⊢
  rw[List.flatMap_cons,List.length_append,this,List.length_cons,List.length_cons,List.length_cons,List.length_nil];omega
theorem ziZ {s:Str}(h:je s=0):s=Str.nil∨zO s=true:=by
 unfold je at h
 split at h
 ·
  assumption
 ·
  cases h
theorem jk.nodeT {d:Doc}(h:jk d){n:zl}(hn:n∈d.Nodes):jK n:=by
 obtain⟨i,hi,rfl⟩:=List.getElem_of_mem hn
 have h0:=h.node i hi
 obtain⟨a1,a2,a3,a4⟩:=zaY h0
 have hz:=yU.1 h0
 have h4:=hz (if d.Nodes[i].Kind=6 then(if d.Nodes[i].Box=qb then 0 else 2)else jl d.Nodes[i].Box) (by simp)
 have h5:=hz (ym d.Nodes[i].Text) (by simp)
 have h6:=hz (je d.Nodes[i].Class) (by simp)
 have hzero:d.Nodes[i].Kind=6→d.Nodes[i].Box=qb:=fun hk=>by
  rw[if_pos hk]at h4
  split at h4
  ·
   assumption
  ·
   cases h4
 refine⟨a1,a3.1,a3.2,hzero,fun v hv=>?_,ziZ h6,?_,(zfi.1 h5).1⟩
 ·
  by_cases hk:d.Nodes[i].Kind=6
  ·
   rw[hzero hk]at hv
   unfold jd qb at hv
   simp only[List.mem_cons,List.mem_nil_iff,or_false,or_self]at hv
   subst hv;decide
  ·
   have hb:=a4 hk
   unfold okB at hb
   unfold jd at hv
   simp only[List.mem_cons,List.mem_nil_iff,or_false]at hv
   omega
 ·
  by_cases hp:d.Nodes[i].Parent=Str.nil
  ·
   exact .inl hp
  ·
   obtain⟨g,hg,hid,_⟩:=h.tree _ (List.getElem_mem hi) hp
   obtain⟨j,hj,rfl⟩:=List.getElem_of_mem hg
   rw[←hid]
   exact .inr (zaY (h.node j hj)).1
theorem jk.endT {d:Doc}(h:jk d){y:yg}(he:qw d.Nodes y=0):Qv y:=by
 unfold qw at he
 split at he
 ·
  cases he
 ·
  rename_i hn
  split at he
  ·
   cases he
  ·
   split at he
   ·
    rename_i hs
    obtain⟨h1,h2⟩:=zex hn
    have hm:=qZ h1
    refine⟨?_,hs.1.1,hs.1.2,by omega⟩
    rw[←h2];exact(h.nodeT hm).id
   ·
    cases he
theorem jk.edgeT {d:Doc}(h:jk d){x:zA}(hx:x∈d.Edges):jJ x:=by
 obtain⟨i,hi,rfl⟩:=List.getElem_of_mem hx
 have hz:=yU.1 (h.edge i hi)
 have h1:=hz (if zO d.Edges[i].Id=true then 0 else 5) (by simp)
 have h3:=hz (qw d.Nodes d.Edges[i].From) (by simp)
 have h4:=hz (qw d.Nodes d.Edges[i].To) (by simp)
 have h5:=hz (if 50<d.Edges[i].Bends.length then 4 else 0) (by simp)
 have h6:=hz (vq d.Edges[i].Bends) (by simp)
 have h7:=hz (ym d.Edges[i].Text) (by simp)
 have h8:=hz (je d.Edges[i].Class) (by simp)
 refine⟨?_,h.endT h3,h.endT h4,?_,fun v hv=>?_,ziZ h8,(zfi.1 h7).1⟩
 ·
  split at h1
  ·
   assumption
  ·
   cases h1
 ·
  split at h5
  ·
   cases h5
  ·
   omega
 ·
  have hp:=(ztg.1 h6).2
  obtain⟨p,hp1,hp2⟩:=List.mem_flatMap.1 hv
  have:=hp p hp1
  unfold okP at this
  simp only[List.mem_cons,List.mem_nil_iff,or_false]at hp2
  omega
def Jk (c:UInt8):Bool:=decide (c.toNat<33) || decide (126<c.toNat) || decide (c.toNat=34)
def zaf (s:Str):Bool:=!decide (s=Str.nil)&&decide (s.b.length≤40)&&!s.b.any Jk
theorem zv5 (c:UInt8):(((decide ((c.toNat:Int)<33)) || (decide ((126:Int)<(c.toNat:Int)))) || (decide ((c.toNat:Int)=34)))=Jk c:=by
 unfold Jk
 rw[Bool.eq_iff_iff]
 simp only[Bool.or_eq_true,decide_eq_true_eq]
 omega
theorem zrM (s:Str):zbM s=some (zaf s):=by
 unfold zbM zaf
 by_cases h1:s=Str.nil
 ·
  simp[h1]
 ·
  by_cases h2:s.b.length≤40
  ·
   rw[decide_eq_false h1,decide_eq_false (p:=(40:Int)<(s.b.length:Int)) (by omega),Bool.or_self,cond_false,zmo Jk (Res.ab false) (by omega) (fun i hi=>by
    unfold zfV
    rw[zf hi,zf (fun _=>hi),zf (fun _=>hi)]
    simp only
    rw[zv5]
    cases Jk (gx s.b i)<;>rfl),decide_eq_true h2]
   cases s.b.any Jk<;>rfl
  ·
   rw[decide_eq_false h1,decide_eq_true (p:=(40:Int)<(s.b.length:Int)) (by omega),Bool.or_true,cond_true,decide_eq_false h2];rfl
def zbc (r:zz):Int:=if((!decide (r.Class=Str.nil)&&!zO r.Class) || !zO r.Prop_)=true then 5 else if zaf r.Value=true then 0 else 2
def vt (l:List zz):Int:=if 100<l.length then 4 else zK (l.map zbc)
theorem zc6 (l:List zz):Jv l=some (vt l):=by
 unfold Jv vt
 by_cases h:100<l.length
 ·
  rw[if_pos h,decide_eq_true (p:=(100:Int)<(l.length:Int)) (by omega),cond_true]
 ·
  rw[if_neg h,decide_eq_false (p:=(100:Int)<(l.length:Int)) (by omega),cond_false,jF zbc (fun e=>Res.ab e) (by omega) (fun i hi=>by
   unfold zfS
   rw[zf hi,zw,zkD,zkD]
   unfold zbc
   rw[zrM]
   cases decide ((gx l i).Class=Str.nil)<;>cases zO (gx l i).Class<;>cases zO (gx l i).Prop_<;>cases zaf (gx l i).Value<;>rfl)]
  by_cases c:zK (l.map zbc)=0
  ·
   rw[if_pos c,c];rfl
  ·
   rw[if_neg c];rfl
abbrev yx:List UInt8:=[99,108,97,115,115]
abbrev wIn:List UInt8:=[105,110]
abbrev zby:List UInt8:=[108,111,99,107,101,100]
abbrev wBy:List UInt8:=[98,121]
abbrev QT:List UInt8:=[101,100,103,101]
abbrev vB:List UInt8:=[115,116,121,108,101]
def q9 (b:Bool):List (List UInt8):=bif b then [zby]else []
def Qq (n:zl):List (List UInt8):=if n.Kind=6 then []else QL (jd n.Box)
def jq (n:zl):List (List UInt8):=(gx y6 n.Kind).b::n.Id.b::(Qq n++(yq yx n.Class++(yq wIn n.Parent++q9 n.Locked)))
def jR (l:List zJ):List (List UInt8):=if l=[]then []else wBy::QL (yT l)
def jn (x:zA):List (List UInt8):=QT::x.Id.b::(vh x.From++(vh x.To++(jR x.Bends++yq yx x.Class)))
def qT (s:Str):List UInt8:=if s=Str.nil then [42]else s.b
def jv (r:zz):List (List UInt8):=[vB,qT r.Class,r.Prop_.b,r.Value.b]
def yD (r:zz):List UInt8:=yI 32 (jv r)
def yH (n:zl):List UInt8:=q8 (jq n) n.Text
def yB (x:zA):List UInt8:=q8 (jn x) x.Text
def qr (d:Doc)(l:List zz):List UInt8:=yb (l.map yD)++(yb (d.Nodes.map yH)++yb (d.Edges.map yB))
theorem zbb (r:zz):yD r=q8 (jv r) Str.nil:=by
 unfold yD q8 qB
 rw[if_pos rfl,List.append_nil]
structure vF (r:zz):Prop where
 cls:r.Class=Str.nil∨zO r.Class=true
 prop:zO r.Prop_=true
 val:zaf r.Value=true
structure zbC (d:Doc) (l:List zz):Prop where
 rl:l.length≤100
 nl:d.Nodes.length≤500
 el:d.Edges.length≤1000
 rule:∀r∈l,vF r
 node:∀n∈d.Nodes,jK n
 edge:∀x∈d.Edges,jJ x
theorem znD {s:Str}(h:zaf s=true):jP s.b∧s.b.length≤40:=by
 unfold zaf at h
 simp only[Bool.and_eq_true,Bool.not_eq_true',decide_eq_true_eq,decide_eq_false_iff_not]at h
 obtain⟨⟨h1,h2⟩,h3⟩:=h
 have key:∀c∈s.b,Jk c=false:=fun c hm=>by
  cases hc:Jk c with
  | false=>rfl
  | true=>exact absurd (List.any_eq_true.2 ⟨c,hm,hc⟩) (by rw[h3];decide)
 exact⟨⟨fun e=>h1 (by cases s;simp only at e;rw[e];rfl),fun hm=>absurd (key _ hm) (by decide),fun hm=>absurd (key _ hm) (by decide),fun hm=>absurd (key _ hm) (by decide)⟩,h2⟩
def qX (ws:List (List UInt8)):Prop:=∀w∈ws,jP w∧w.length≤40
theorem zbh {a b:List (List UInt8)}(ha:qX a)(hb:qX b):qX (a++b):=fun w hw=>(List.mem_append.1 hw).elim (ha w) (hb w)
theorem jG {a:List UInt8}{b:List (List UInt8)}(ha:jP a∧a.length≤40)(hb:qX b):qX (a::b):=fun w hw=>by
 rcases List.mem_cons.1 hw with rfl | hw
 ·
  exact ha
 ·
  exact hb w hw
theorem QP:qX []:=fun w hw=>by cases hw
theorem zbi {s:Str}(h:zO s=true):jP s.b∧s.b.length≤40:=⟨zsE h,Y3 h⟩
theorem Ys {w:List UInt8}(h:(!w.isEmpty&&!w.contains 32&&!w.contains 34&&!w.contains 10)=true)(hl:w.length≤40):jP w∧w.length≤40:=⟨zib h,hl⟩
theorem zhH {w:List UInt8}{v:Str}(hw:jP w∧w.length≤40)(h:v=Str.nil∨zO v=true):qX (yq w v):=by
 unfold yq
 split
 ·
  exact QP
 ·
  rename_i hn
  exact jG hw (jG (zbi (h.resolve_left hn)) QP)
theorem ze3 {l:List Int}(h:∀v∈l,v.natAbs<10000000):qX (QL l):=fun w hw=>by
 obtain⟨n,hn,rfl⟩:=List.mem_map.1 hw
 have:=JN (h n hn)
 exact⟨zkG n,by omega⟩
theorem jK.words {n:zl}(h:jK n):qX (jq n):=by
 have hk:=zkR h.k1 h.k2
 refine jG ⟨hk.1,by omega⟩ (jG (zbi h.id) (zbh ?_ (zbh (zhH (Ys (by decide) (by decide)) h.cls) (zbh (zhH (Ys (by decide) (by decide)) h.par) ?_))))
 ·
  unfold Qq
  split
  ·
   exact QP
  ·
   exact ze3 h.box
 ·
  unfold q9
  cases n.Locked
  ·
   exact QP
  ·
   exact jG (Ys (by decide) (by decide)) QP
theorem Qv.words {y:yg}(h:Qv y):qX (vh y):=by
 have hk:=ze4 h.s1 h.s2
 have:=JN h.at_
 exact jG (zbi h.node) (jG ⟨hk.1,by omega⟩ (jG ⟨zkG _,by omega⟩ QP))
theorem jJ.words {x:zA}(h:jJ x):qX (jn x):=by
 refine jG (Ys (by decide) (by decide)) (jG (zbi h.id) (zbh h.from_.words (zbh h.to_.words (zbh ?_ (zhH (Ys (by decide) (by decide)) h.cls)))))
 unfold jR
 split
 ·
  exact QP
 ·
  exact jG (Ys (by decide) (by decide)) (ze3 h.bends)
theorem vF.words {r:zz}(h:vF r):qX (jv r):=by
 refine jG (Ys (by decide) (by decide)) (jG ?_ (jG (zbi h.prop) (jG (znD h.val) QP)))
 unfold qT
 split
 ·
  exact Ys (by decide) (by decide)
 ·
  rename_i hn
  exact zbi (h.cls.resolve_left hn)
theorem qX.word {ws:List (List UInt8)}(h:qX ws):∀w∈ws,jP w:=fun w hw=>(h w hw).1
theorem qX.join {ws:List (List UInt8)}(h:qX ws):(yI 32 ws).length≤ws.length*41:=zea 32 ws 40 fun w hw=>(h w hw).2
theorem zeC (w:List UInt8)(v:Str):(yq w v).length≤2:=by unfold yq;split<;>simp
theorem zlQ (n:zl):(Qq n).length≤4:=by unfold Qq QL jd;split<;>simp
theorem zsb (b:Bool):(q9 b).length≤1:=by unfold q9;cases b<;>simp
theorem ziH (l:List zJ):(jR l).length≤2*l.length+1:=by
 unfold jR QL
 split
 ·
  simp
 ·
  rw[List.length_cons,List.length_map,YH];omega
theorem zsP (n:zl):(jq n).length≤11:=by
 have h1:=zlQ n
 have h2:=zeC yx n.Class
 have h3:=zeC wIn n.Parent
 have h4:=zsb n.Locked
 unfold jq
 simp only[List.length_cons,List.length_append];omega
theorem zp7 {x:zA}(h:x.Bends.length≤50):(jn x).length≤111:=by
 have h1:=ziH x.Bends
 have h2:=zeC yx x.Class
 unfold jn vh
 simp only[List.length_cons,List.length_append,List.length_nil];omega
theorem zcs {n:zl}(h:jK n):(yH n).length≤7000:=by
 have h1:=h.words.join
 have h2:=zsP n
 have h3:=zg5 h.text
 unfold yH q8
 rw[List.length_append];omega
theorem zds {x:zA}(h:jJ x):(yB x).length≤7000:=by
 have h1:=h.words.join
 have h2:=zp7 h.few
 have h3:=zg5 h.text
 unfold yB q8
 rw[List.length_append];omega
theorem zcL {r:zz}(h:vF r):(yD r).length≤7000:=by
 have h1:=h.words.join
 have h2:(jv r).length=4:=rfl
 unfold yD;omega
theorem zaV {α:Type}{f:α→List UInt8}{l:List α}(h:∀x∈l,(f x).length≤7000):(yb (l.map f)).length≤l.length*7001:=by
 have:=znq (n:=7000) (l:=l.map f) (fun y hy=>by
  obtain⟨x,hx,rfl⟩:=List.mem_map.1 hy
  exact h x hx)
 simpa using this
theorem zjo {d:Doc}{l:List zz}(h:zbC d l):(qr d l).length≤20000000:=by
 have h1:=zaV (f:=yD) (l:=l) (fun r hr=>zcL (h.rule r hr))
 have h2:=zaV (f:=yH) (l:=d.Nodes) (fun n hn=>zcs (h.node n hn))
 have h3:=zaV (f:=yB) (l:=d.Edges) (fun x hx=>zds (h.edge x hx))
 have a:=h.rl
 have b:=h.nl
 have c:=h.el
 unfold qr
 rw[List.length_append,List.length_append];omega
theorem zht {l:List zz}(h:vt l=0):l.length≤100∧∀r∈l,vF r:=by
 unfold vt at h
 split at h
 ·
  cases h
 ·
  refine⟨by omega,fun r hr=>?_⟩
  have h1:=yU.1 h (zbc r) (List.mem_map.2 ⟨r,hr,rfl⟩)
  unfold zbc at h1
  split at h1
  ·
   cases h1
  ·
   rename_i hc
   split at h1
   ·
    rename_i hv
    simp only[Bool.or_eq_true,Bool.and_eq_true,Bool.not_eq_true',not_or,not_and,decide_eq_false_iff_not,Bool.not_eq_false]at hc
    refine⟨?_,hc.2,hv⟩
    by_cases hn:r.Class=Str.nil
    ·
     exact .inl hn
    ·
     exact .inr (hc.1 hn)
   ·
    cases h1
theorem zp1 {d:Doc}{l:List zz}(h:jk d)(hl:vt l=0):zbC d l:=
 ⟨(zht hl).1,h.nl,h.el,(zht hl).2,fun _ hn=>h.nodeT hn,fun _ hx=>h.edgeT hx⟩
theorem zfr (w:List Str)(v:Str)(hw:(w.length:Int)≤9223372036854775807):J7 w v=some (decide (v∈w)):=by
 unfold J7 QQ
 obtain⟨e,h1,h2⟩:=J4 (n:=(w.length:Int)) (step:=zbo w v) (fin:=fun s=>Res.nx s) (s0:=()) (fun i _=>∀j:Nat,j<i→∀hj:j<w.length,v≠w[j])
  (fun e=>(e=Res.nx ()∧v∉w)∨∃k:Int,0≤k∧e=Res.ab k∧v∈w) hw (fun j hj=>by omega) (fun i s hi hI=>by
   have hi':i<w.length:=by omega
   unfold zbo
   rw[zf ⟨by omega,by omega⟩,zL hi']
   by_cases e:v=w[i]
   ·
    exact .inr ⟨_,by rw[decide_eq_true e,cond_true],.inr ⟨(i:Int),by omega,rfl,e▸List.getElem_mem hi'⟩⟩
   ·
    refine .inl ⟨(),by rw[decide_eq_false e,cond_false],fun j hj hjl=>?_⟩
    by_cases hji:j=i
    ·
     subst hji;exact e
    ·
     exact hI j (by omega) hjl)
  (fun s hI=>.inl ⟨rfl,fun hm=>by
   obtain⟨j,hj,he⟩:=List.getElem_of_mem hm
   exact hI j (by omega) hj he.symm⟩)
 rw[h1]
 rcases h2 with⟨rfl,hn⟩ | ⟨k,h0,rfl,hm⟩
 ·
  rw[yy,Option.bind_some,decide_eq_false hn];rfl
 ·
  rw[zdg,Option.bind_some,decide_eq_true hm,decide_eq_true h0]
theorem zgL (s:Str)(i:Nat)(hi:i<s.b.length):gx s.b (i:Int)=s.b[i]:=zL hi
theorem u8n (x:UInt8)(k:Nat)(hk:k<256):decide ((⟨(x.toNat:Int)⟩:KI .u8).n=(⟨(k:Int)⟩:KI .u8).n)=decide (x=UInt8.ofNat k):=by
 rw[decide_eq_decide]
 show((x.toNat:Int)=(k:Int))↔_
 constructor
 ·
  intro h
  apply UInt8.toNat_inj.1
  rw[UInt8.toNat_ofNat'];omega
 ·
  intro h;rw[h,UInt8.toNat_ofNat'];omega
theorem zru:∀(l:List UInt8) (h:0<l.length),l[0]=l.headD 0
 | a::l,_=>rfl
theorem zrG (c:UInt8):strings_IndexByte (⟨[34,92,110]⟩:Str) (⟨(c.toNat:Int)⟩:KI .u8)=some (if c=34 then 0 else if c=92 then 1 else if c=110 then 2 else -1):=by
 unfold strings_IndexByte
 rw[zf (by decide)]
 congr 1
 unfold zd7
 have e:((⟨(c.toNat:Int)⟩:KI .u8).n.toNat.toUInt8)=c:=by
  apply UInt8.toNat_inj.1
  simp
 rw[e]
 simp only[Go.Lib.indexByte,beq_iff_eq]
 by_cases h1:c=34
 ·
  subst h1;rfl
 ·
  by_cases h2:c=92
  ·
   subst h2;rfl
  ·
   by_cases h3:c=110
   ·
    subst h3;rfl
   ·
    rw[if_neg (Ne.symm h1),if_neg (Ne.symm h2),if_neg (Ne.symm h3),if_neg h1,if_neg h2,if_neg h3];rfl
def zwA (s:Str)(out:List (KI .u8))(i:Nat):Res Unit (Str×Bool):=match qV (s.b.drop i)with
 | none=>if(s.b.drop i).length=0 then .nx ()else .ab (Str.nil,false)
 | some (v,r)=>.ab (⟨(jy out).b++v⟩,r.isEmpty&&s.b.headD 0==34)
theorem znc (a b:List (KI .u8)):(jy (a++b)).b=(jy a).b++(jy b).b:=by simp[jy]
theorem znd (c:UInt8):(jy [(⟨(c.toNat:Int)⟩:KI .u8)]).b=[c]:=by
 simp only[jy,List.map_cons,List.map_nil]
 congr 1
 simp
theorem zoy (s:Str)(hs:s.b.length≤1000000000):∀(n i:Nat) (out:List (KI .u8)),s.b.length - i≤n→1≤i→i≤s.b.length→out.length≤i→
  ∃r,loop (Qf s) (out,(i:Int))=some r∧(match qV (s.b.drop i)with
   | none=>r = .nx ()∨r = .ab (Str.nil,false)
   | some (v,t)=>r = .ab (⟨(jy out).b++v⟩,t.isEmpty&&s.b.headD 0==34)):=by
 intro n
 induction n with
 | zero=>
  intro i out hn h1 hi ho
  obtain rfl:i=s.b.length:=by omega
  refine⟨.nx (),QI (by
   unfold Qf
   rw[decide_eq_false (by omega),cond_false]),?_⟩
  rw[List.drop_length,znz];exact .inl rfl
 | succ n ih=>
  intro i out hn h1 hi ho
  rcases Nat.eq_or_lt_of_le hi with rfl | hlt
  ·
   refine⟨.nx (),QI (by
    unfold Qf
    rw[decide_eq_false (by omega),cond_false]),?_⟩
   rw[List.drop_length,znz];exact .inl rfl
  ·
   have hd:s.b.drop i=s.b[i]::s.b.drop (i+1):=List.drop_eq_getElem_cons hlt
   have e0:Qf s (out,(i:Int))=yc (σ:=(Int×(KI .u8))) (ρ:=(zN ((List (KI .u8))×Int) (Res Unit (Str×Bool)))) (
     if s.b[i]=34 then some (Res.ab (zN.done (Res.ab (jy out,(s.b.drop (i+1)).isEmpty&&s.b.headD 0==34))))
     else if s.b[i]=10 then some (Res.ab (zN.done (Res.ab (Str.nil,false))))
     else if s.b[i]=92 then(match s.b.drop (i+1)with
      | []=>some (Res.ab (zN.done (Res.ab (Str.nil,false))))
      | c::_=>if c=34 then some (Res.nx (((i+1:Nat):Int),(⟨((34:UInt8).toNat:Int)⟩:KI .u8)))else if c=92 then some (Res.nx (((i+1:Nat):Int),(⟨((92:UInt8).toNat:Int)⟩:KI .u8)))else if c=110 then some (Res.nx (((i+1:Nat):Int),(⟨((10:UInt8).toNat:Int)⟩:KI .u8)))else some (Res.ab (zN.done (Res.ab (Str.nil,false)))))
     else some (Res.nx ((i:Int),(⟨(s.b[i].toNat:Int)⟩:KI .u8)))) (fun j=>zg (qd (out.length+[j.2].length)) <| bnd (out++[j.2]) fun b1=>bnd (W (j.1+1)) fun i2=>some (zN.again (b1,i2))):=by
    unfold Qf
    simp only
    rw[decide_eq_true (by omega),cond_true,zf ⟨by omega,by omega⟩,zw,zgL s i hlt]
    congr 1
    have u34:decide ((⟨(s.b[i].toNat:Int)⟩:KI .u8).n=(⟨34⟩:KI .u8).n)=decide (s.b[i]=34):=u8n s.b[i] 34 (by decide)
    have u10:decide ((⟨(s.b[i].toNat:Int)⟩:KI .u8).n=(⟨10⟩:KI .u8).n)=decide (s.b[i]=10):=u8n s.b[i] 10 (by decide)
    have u92:decide ((⟨(s.b[i].toNat:Int)⟩:KI .u8).n=(⟨92⟩:KI .u8).n)=decide (s.b[i]=92):=u8n s.b[i] 92 (by decide)
    by_cases c1:s.b[i]=34
    ·
     rw[if_pos c1]
     rw[show decide ((⟨(s.b[i].toNat:Int)⟩:KI .u8).n=(⟨34⟩:KI .u8).n)=true from u34.trans (decide_eq_true c1),cond_true]
     have h0:0<s.b.length:=by omega
     rw[zf (fun _=>⟨by omega,by omega⟩)]
     have g0:gx s.b 0=s.b.headD 0:=by
      have:=zgL s 0 h0
      rw[show((0:Nat):Int)=0 from rfl]at this
      rw[this]
      exact zru s.b h0
     have hw:W ((s.b.length:Int) - 1)=(s.b.length:Int) - 1:=Wk (by omega) (by omega)
     rw[g0,hw]
     have e1:decide ((i:Int)=(s.b.length:Int) - 1)=(s.b.drop (i+1)).isEmpty:=by
      rw[Bool.eq_iff_iff,decide_eq_true_eq,List.isEmpty_iff,List.drop_eq_nil_iff];omega
     have e2:=u8n (s.b.headD 0) 34 (by decide)
     rw[e1]
     rw[show decide ((⟨((s.b.headD 0).toNat:Int)⟩:KI .u8).n=(⟨34⟩:KI .u8).n)=(s.b.headD 0==34)from e2.trans (by rw[Bool.eq_iff_iff,decide_eq_true_eq,beq_iff_eq];rfl)]
    ·
     rw[if_neg c1]
     rw[show decide ((⟨(s.b[i].toNat:Int)⟩:KI .u8).n=(⟨34⟩:KI .u8).n)=false from u34.trans (decide_eq_false c1),cond_false]
     by_cases c2:s.b[i]=10
     ·
      rw[if_pos c2,show decide ((⟨(s.b[i].toNat:Int)⟩:KI .u8).n=(⟨10⟩:KI .u8).n)=true from u10.trans (decide_eq_true c2),cond_true]
     ·
      rw[if_neg c2,show decide ((⟨(s.b[i].toNat:Int)⟩:KI .u8).n=(⟨10⟩:KI .u8).n)=false from u10.trans (decide_eq_false c2),cond_false]
      by_cases c3:s.b[i]=92
      ·
       rw[if_pos c3,show decide ((⟨(s.b[i].toNat:Int)⟩:KI .u8).n=(⟨92⟩:KI .u8).n)=true from u92.trans (decide_eq_true c3),cond_true]
       have hw:W ((i:Int)+1)=((i+1:Nat):Int):=by rw[Wk (by omega) (by omega)];omega
       rw[hw,zw]
       by_cases hl:i+1=s.b.length
       ·
        rw[decide_eq_true (by omega),cond_true,List.drop_eq_nil_of_le (by omega)]
       ·
        have hl2:i+1<s.b.length:=by omega
        rw[decide_eq_false (by omega),cond_false,zf ⟨by omega,by omega⟩,zgL s (i+1) hl2,zrG,Option.bind_some,List.drop_eq_getElem_cons hl2]
        simp only
        by_cases d1:s.b[i+1]=34
        ·
         rw[if_pos d1,if_pos d1,decide_eq_false (by decide),cond_false,zf ⟨by decide,by decide⟩,zw];rfl
        ·
         rw[if_neg d1,if_neg d1]
         by_cases d2:s.b[i+1]=92
         ·
          rw[if_pos d2,if_pos d2,decide_eq_false (by decide),cond_false,zf ⟨by decide,by decide⟩,zw];rfl
         ·
          rw[if_neg d2,if_neg d2]
          by_cases d3:s.b[i+1]=110
          ·
           rw[if_pos d3,if_pos d3,decide_eq_false (by decide),cond_false,zf ⟨by decide,by decide⟩,zw];rfl
          ·
           rw[if_neg d3,if_neg d3];rfl
      ·
       rw[if_neg c3,show decide ((⟨(s.b[i].toNat:Int)⟩:KI .u8).n=(⟨92⟩:KI .u8).n)=false from u92.trans (decide_eq_false c3),cond_false]
   have go:∀(c:UInt8) (j:Nat),j+1≤s.b.length→(zg (qd (out.length+[(⟨(c.toNat:Int)⟩:KI .u8)].length)) <| bnd (out++[(⟨(c.toNat:Int)⟩:KI .u8)]) fun b1=>bnd (W ((j:Int)+1)) fun i2=>(some (zN.again (b1,i2)):Option (zN ((List (KI .u8))×Int) (Res Unit (Str×Bool)))))=some (zN.again (out++[(⟨(c.toNat:Int)⟩:KI .u8)],((j+1:Nat):Int))):=by
    intro c j hj
    rw[zf (by rw[qI,List.length_singleton];omega),zw,zw,Wk (by omega) (by omega)]
    rfl
   rw[hd,zbx]
   by_cases c1:s.b[i]=34
   ·
    rw[if_pos c1]at e0⊢
    exact⟨_,QI e0,by simp⟩
   ·
    rw[if_neg c1]at e0⊢
    by_cases c2:s.b[i]=10
    ·
     rw[if_pos c2]at e0⊢
     exact⟨_,QI e0,.inr rfl⟩
    ·
     rw[if_neg c2]at e0⊢
     by_cases c3:s.b[i]=92
     ·
      rw[if_pos c3]at e0⊢
      have step:∀(c:UInt8) (r:List UInt8),i+2≤s.b.length→s.b.drop (i+2)=r→Qf s (out,(i:Int))=some (zN.again (out++[(⟨(c.toNat:Int)⟩:KI .u8)],((i+1+1:Nat):Int)))→
        ∃x,loop (Qf s) (out,(i:Int))=some x∧(match(qV r).map (fun y=>(c::y.1,y.2))with
         | none=>x = .nx ()∨x = .ab (Str.nil,false)
         | some (v,t)=>x = .ab (⟨(jy out).b++v⟩,t.isEmpty&&s.b.headD 0==34)):=by
       intro c r hlen hr he
       obtain⟨x,h1,h2⟩:=ih (i+2) (out++[(⟨(c.toNat:Int)⟩:KI .u8)]) (by omega) (by omega) hlen (by rw[List.length_append,List.length_singleton];omega)
       refine⟨x,(zaT he).trans h1,?_⟩
       rw[hr]at h2
       cases hu:qV r with
       | none=>rw[hu]at h2;exact h2
       | some y=>
        obtain⟨v,t⟩:=y
        rw[hu]at h2
        simp only at h2
        rw[znc,znd]at h2
        simpa using h2
      cases hm:s.b.drop (i+1)with
      | nil=>
       rw[hm]at e0
       exact⟨_,QI e0,.inr rfl⟩
      | cons c r=>
       rw[hm]at e0
       simp only at e0⊢
       have hlen:i+2≤s.b.length:=by
        have:=congrArg List.length hm
        rw[List.length_drop,List.length_cons]at this;omega
       have hr:s.b.drop (i+2)=r:=by
        have:=congrArg List.tail hm
        rw[List.tail_drop]at this
        exact this
       by_cases d1:c=34
       ·
        rw[if_pos d1]at e0⊢
        exact step 34 r hlen hr (e0.trans (go 34 (i+1) hlen))
       ·
        rw[if_neg d1]at e0⊢
        by_cases d2:c=92
        ·
         rw[if_pos d2]at e0⊢
         exact step 92 r hlen hr (e0.trans (go 92 (i+1) hlen))
        ·
         rw[if_neg d2]at e0⊢
         by_cases d3:c=110
         ·
          rw[if_pos d3]at e0⊢
          exact step 10 r hlen hr (e0.trans (go 10 (i+1) hlen))
         ·
          rw[if_neg d3]at e0⊢
          exact⟨_,QI e0,.inr rfl⟩
     ·
      rw[if_neg c3]at e0⊢
      obtain⟨x,h1,h2⟩:=ih (i+1) (out++[(⟨(s.b[i].toNat:Int)⟩:KI .u8)]) (by omega) (by omega) (by omega) (by rw[List.length_append,List.length_singleton];omega)
      refine⟨x,(zaT (e0.trans (go s.b[i] i hlt))).trans h1,?_⟩
      cases hu:qV (s.b.drop (i+1))with
      | none=>rw[hu]at h2;exact h2
      | some y=>
       obtain⟨v,t⟩:=y
       rw[hu]at h2
       simp only at h2
       rw[znc,znd]at h2
       simpa using h2
theorem zox (s:Str)(hs:s.b.length≤1000000000):zbW s=some (zfm s):=by
 unfold zbW zfm
 cases hb:s.b with
 | nil=>
  have e0:Qf s (([]:List (KI .u8)),1)=some (zN.done (Res.nx ())):=by
   unfold Qf
   rw[decide_eq_false (by rw[hb];simp),cond_false]
  rw[QI e0];rfl
 | cons q l=>
  obtain⟨x,h1,h2⟩:=zoy s hs s.b.length 1 [] (by omega) (Nat.le_refl 1) (by rw[hb];simp) (by simp)
  rw[show((1:Nat):Int)=1 from rfl]at h1
  rw[h1]
  rw[hb,List.drop_succ_cons,List.drop_zero]at h2
  simp only
  cases hu:qV l with
  | none=>
   rw[hu]at h2
   rcases h2 with rfl | rfl<;>rfl
  | some y=>
   obtain⟨v,t⟩:=y
   rw[hu]at h2
   simp only at h2
   rw[h2];rfl
theorem zkP {k:Int}(h1:1≤k)(h2:k≤6):inR y6 k:=⟨by omega,by show k<7;omega⟩
theorem ziK {n:zl}(h:jK n):∀v∈jd n.Box,InI v:=fun v hv=>by have:=h.box v hv;unfold InI;omega
theorem zuB {k:Int}(h1:1≤k)(h2:k≤4):inR qi k:=⟨by omega,by show k<5;omega⟩
theorem zoG {y:yg}(h:Qv y):InI y.At:=by have:=h.at_;unfold InI;omega
def vg (y:yg):List UInt8:=y.Node.b++(32::((gx qi y.Side).b++(32::Go.Lib.itoa y.At)))
theorem zf6 {y:yg}(h:Qv y):(vg y).length≤60:=by
 have h1:=Y3 h.node
 have h2:=(ze4 h.s1 h.s2).2
 have h3:=JN h.at_
 unfold vg
 simp only[List.length_append,List.length_cons];omega
theorem zi3 {x:zA}(h:jJ x):∀v∈yT x.Bends,InI v:=fun v hv=>by have:=h.bends v hv;unfold InI;omega
theorem zpx {l:List zJ}(h:l≠[]):yT l≠[]:=by
 cases l with
 | nil=>exact absurd rfl h
 | cons p l=>unfold yT;simp
theorem zc9 {y:yg}(h:Qv y):YL y=some ⟨vg y⟩:=by
 have h1:=Y3 h.node
 have h2:=(ze4 h.s1 h.s2).2
 have h3:=JN h.at_
 unfold YL
 rw[zf (by simp only[List.length_cons,List.length_nil];omega),show zaB=some qi from rfl,Option.bind_some,zf (zuB h.s1 h.s2),zf (by simp only[List.length_append,List.length_cons,List.length_nil];omega),zf (by simp only[List.length_append,List.length_cons,List.length_nil];omega),
  zbF (zoG h),Option.bind_some,zf (by simp only[yf,List.length_append,List.length_cons,List.length_nil];omega)]
 unfold vg
 simp[yf]
theorem zih {l:List zJ}(hl:l.length≤100000):JA l=some (yT l):=by
 unfold JA
 obtain⟨s,h1,h2⟩:=QO (n:=(l.length:Int)) (step:=zdv l) (s0:=([]:List Int)) (fun i s=>s=yT (l.take i)) (by omega) rfl (fun i s hi hI=>by
  have hi':i<l.length:=by omega
  refine⟨_,?_,rfl⟩
  have hc:=YH (l.take i)
  rw[List.length_take]at hc
  unfold zdv
  rw[zf ⟨by omega,by omega⟩,zw,zL hi',hI,zf (by rw[qI];simp only[List.length_cons,List.length_nil];omega),List.take_succ_eq_append_getElem hi']
  unfold yT
  rw[List.flatMap_append];rfl)
 rw[h1,h2];simp
def zbP (s:Str):Str:=match s.b with
 | []=>s
 | c::l=>if c=45 then⟨l⟩else s
theorem zou (s:Str):zcZ s ⟨[45]⟩=some (zbP s):=by
 unfold zcZ zfh zfg zbP
 obtain⟨b⟩:=s
 cases b with
 | nil=>rw[zf (fun h=>absurd (of_decide_eq_true h) (by decide))];rfl
 | cons c l=>
  have h1:decide ((([45]:List UInt8).length:Int)≤(((c::l):List UInt8).length:Int))=true:=decide_eq_true (by simp only[List.length_cons,List.length_nil];omega)
  have hs:y3 (c::l:List UInt8).length 0 (([45]:List UInt8).length:Int):=⟨by omega,by simp,by simp only[List.length_cons,List.length_nil];omega⟩
  have e1:seg (c::l:List UInt8) 0 (([45]:List UInt8).length:Int)=[c]:=rfl
  rw[zf (fun _=>hs)]
  simp only[Option.bind_some]
  rw[h1,e1,Bool.true_and]
  by_cases hc:c=45
  ·
   subst hc
   have hs2:y3 (45::l:List UInt8).length (([45]:List UInt8).length:Int) ((45::l:List UInt8).length:Int):=⟨by omega,by simp only[List.length_cons,List.length_nil];omega,by omega⟩
   have e2:seg (45::l:List UInt8) (([45]:List UInt8).length:Int) ((45::l:List UInt8).length:Int)=l:=by
    unfold seg
    simp
   rw[decide_eq_true rfl,cond_true,zf hs2,e2,if_pos rfl];rfl
  ·
   have:¬(⟨[c]⟩:Str)=⟨[45]⟩:=fun e=>by
    injection e with e
    injection e with e
    exact hc e
   rw[decide_eq_false this,cond_false,if_neg hc];rfl
theorem zpX {n:Int}(h:n.natAbs<10000000):(zbP (yf n)).b.length≤7:=by
 unfold zbP yf Go.Lib.itoa
 by_cases hn:n<0
 ·
  rw[if_pos hn]
  show(Go.Lib.decDigits n.natAbs).length≤7
  rw[Go.Lib.decDigits_length]
  exact zet (by decide) (by omega)
 ·
  rw[if_neg hn]
  have hd:(Go.Lib.decDigits n.toNat).length≤7:=by
   rw[Go.Lib.decDigits_length]
   exact zet (by decide) (by omega)
  cases hb:Go.Lib.decDigits n.toNat with
  | nil=>simp
  | cons c l=>
   rw[hb]at hd
   simp only
   split
   ·
    simp only[List.length_cons]at hd;show l.length≤7;omega
   ·
    exact hd
theorem zin {n:Int}(h:n.natAbs<10000000):JB (yf n)=some (n,true):=by
 have hl:=JN h
 unfold JB
 have ha:zfd (yf n)=some (n,⟨false⟩):=by
  unfold zfd
  rw[zf (by show(Go.Lib.itoa n).length≤_;omega),zoH (by omega)]
 rw[zou,Option.bind_some,ha,Option.bind_some]
 have hd:=zpX h
 simp only[decide_eq_true (show((zbP (yf n)).b.length:Int)≤7 by omega),Bool.not_false,Bool.and_self,vk]
 rw[zbF (by unfold InI;omega),Option.bind_some]
 simp
theorem zok {ns:List Int}(h:∀n∈ns,n.natAbs<10000000)(hl:ns.length≤100000000):zbT (ns.map yf)=some (ns,true):=by
 unfold zbT
 obtain⟨e,h1,h2⟩:=J4 (n:=((ns.map yf).length:Int)) (step:=zdD (ns.map yf)) (fin:=fun s=>Res.nx s) (s0:=([]:List Int)) (fun i s=>s=ns.take i)
  (fun e=>e=Res.nx ns) (by rw[List.length_map];omega) (by simp) (fun i s hi hI=>by
   have hi':i<(ns.map yf).length:=by omega
   have hi2:i<ns.length:=by rw[List.length_map]at hi';exact hi'
   unfold zdD
   rw[zf ⟨by omega,by omega⟩,zL hi',List.getElem_map,zin (h _ (List.getElem_mem hi2)),Option.bind_some]
   refine .inl ⟨s++[ns[i]],?_,?_⟩
   ·
    simp only[Bool.not_true,cond_false]
    rw[zf (by rw[qI,List.length_singleton,hI,List.length_take];omega)]
   ·
    rw[hI,List.take_succ_eq_append_getElem hi2])
  (fun s hI=>by rw[hI];simp)
 rw[h1,h2];rfl
theorem zdl (p:zJ)(l:List zJ):yT (p::l)=p.X::p.Y::yT l:=rfl
theorem zpy (l:List zJ)(p:zJ):yT (l++[p])=yT l++[p.X,p.Y]:=by
 unfold yT;rw[List.flatMap_append];rfl
theorem zis (l:List Int)(hl:l.length≤100000000):∀(k:Nat) (a:List zJ) (i:Nat),l.length - i=2*k→i≤l.length→yT a=l.take i→i=2*a.length→∃r,loop (zaA l) (a,(i:Int))=some r∧yT r=l
 | 0,a,i,h1,h2,h3,_=>by
  refine⟨a,QI ?_,?_⟩
  ·
   unfold zaA
   rw[decide_eq_false (by show ¬((i:Int)<(l.length:Int));omega),cond_false]
  ·
   rw[h3,List.take_of_length_le (by omega)]
 | k+1,a,i,h1,h2,h3,h4=>by
  have hi:i<l.length:=by omega
  have hi2:i+1<l.length:=by omega
  have hst:zaA l (a,(i:Int))=some (zN.again (a++[(⟨l[i],l[i+1]⟩:zJ)],((i+2:Nat):Int))):=by
   unfold zaA
   simp only
   have hw:W ((i:Int)+1)=((i+1:Nat):Int):=by rw[Wk (by omega) (by omega)];omega
   have hw2:W ((i:Int)+2)=((i+2:Nat):Int):=by rw[Wk (by omega) (by omega)];omega
   rw[decide_eq_true (by omega),cond_true,zf ⟨by omega,by omega⟩,hw,zf ⟨by omega,by omega⟩,zf (by rw[qI,List.length_singleton];omega),zw,zw,hw2,zL hi,zL hi2]
  obtain⟨r,r1,r2⟩:=zis l hl k (a++[(⟨l[i],l[i+1]⟩:zJ)]) (i+2) (by omega) (by omega) (by
   rw[zpy,h3,show i+2=(i+1)+1 from rfl,List.take_succ_eq_append_getElem hi2,List.take_succ_eq_append_getElem hi,List.append_assoc];rfl) (by rw[List.length_append,List.length_singleton];omega)
  exact⟨r,(zaT hst).trans r1,r2⟩
theorem zi4:∀{a b:List zJ},yT a=yT b→a=b
 | [],[],_=>rfl
 | [],q::b,h=>by rw[zdl]at h;cases h
 | p::a,[],h=>by rw[zdl]at h;cases h
 | p::a,q::b,h=>by
  rw[zdl,zdl]at h
  injection h with h1 h
  injection h with h2 h
  rw[zi4 h]
  cases p;cases q
  simp only at h1 h2
  rw[h1,h2]
theorem zog {p:List zJ}(hp:p≠[])(hl:p.length≤1000):zbR (yT p)=some (p,true):=by
 have hc:=YH p
 unfold zbR
 have hpl:=List.length_pos_iff.2 hp
 have ht:((yT p).length:Int).tmod 2=(((yT p).length % 2:Nat):Int):=by rw[Int.tmod_eq_emod_of_nonneg (by omega)];omega
 have:(decide ((((yT p).length:Int).tmod 2)=1) || decide (((yT p).length:Int)=0))=false:=by
  rw[Bool.or_eq_false_iff,decide_eq_false_iff_not,decide_eq_false_iff_not,ht];omega
 obtain⟨r,r1,r2⟩:=zis (yT p) (by omega) p.length [] 0 (by omega) (by omega) rfl rfl
 rw[show((0:Nat):Int)=0 from rfl]at r1
 rw[this,cond_false,r1,Option.bind_some,zi4 r2]
theorem zoa (l:List Str)(v:Str)(hl:(l.length:Int)≤9223372036854775807):∃k,QQ l v=some k∧((k = -1∧v∉l)∨∃(i:Nat) (hi:i<l.length),k=(i:Int)∧l[i]=v):=by
 unfold QQ
 obtain⟨e,h1,h2⟩:=J4 (n:=(l.length:Int)) (step:=zbo l v) (fin:=fun s=>Res.nx s) (s0:=()) (fun i _=>∀j:Nat,j<i→∀hj:j<l.length,v≠l[j])
  (fun e=>(e=Res.nx ()∧v∉l)∨∃(i:Nat) (hi:i<l.length),e=Res.ab (i:Int)∧l[i]=v) hl (fun j hj=>by omega) (fun i s hi hI=>by
   have hi':i<l.length:=by omega
   unfold zbo
   rw[zf ⟨by omega,by omega⟩,zL hi']
   by_cases e:v=l[i]
   ·
    exact .inr ⟨_,by rw[decide_eq_true e,cond_true],.inr ⟨i,hi',rfl,e.symm⟩⟩
   ·
    refine .inl ⟨(),by rw[decide_eq_false e,cond_false],fun j hj hjl=>?_⟩
    by_cases hji:j=i
    ·
     subst hji;exact e
    ·
     exact hI j (by omega) hjl)
  (fun s hI=>.inl ⟨rfl,fun hm=>by
   obtain⟨j,hj,he⟩:=List.getElem_of_mem hm
   exact hI j (by omega) hj he.symm⟩)
 rw[h1]
 rcases h2 with⟨rfl,hn⟩ | ⟨i,hi,rfl,hm⟩
 ·
  exact⟨_,rfl,.inl ⟨rfl,hn⟩⟩
 ·
  exact⟨_,rfl,.inr ⟨i,hi,rfl,hm⟩⟩
theorem zik {l:List Str}(hn:l.Nodup)(hl:(l.length:Int)≤9223372036854775807){k:Int}(hk:inR l k):QQ l (gx l k)=some k:=by
 obtain⟨x,h1,h2⟩:=zoa l (gx l k) hl
 rw[h1]
 rcases h2 with⟨_,h⟩ | ⟨i,hi,rfl,h⟩
 ·
  exact absurd (qZ hk) h
 ·
  rw[zki hk,List.getElem_inj hn]at h
  have:=hk.1
  congr 1;omega
theorem ze0 {α:Type}(l:List α)(k:Nat):seg l (k:Int) (l.length:Int)=l.drop k:=by
 unfold seg
 simp
theorem zuc {α:Type}(l:List α)(k:Nat):seg l 0 (k:Int)=l.take k:=by
 unfold seg
 simp
theorem zaa (s:Str)(l:List Str):vJ ⟨s::l⟩=some (s,⟨l⟩):=by
 unfold vJ
 have h1:¬(((s::l).length:Nat):Int)=0:=by rw[List.length_cons];omega
 rw[decide_eq_false h1,cond_false,zf ⟨by omega,by rw[List.length_cons];omega⟩,zf ⟨by omega,by rw[List.length_cons];omega,by omega⟩,zw,zw]
 have:seg (s::l) 1 (((s::l).length:Nat):Int)=l:=ze0 (s::l) 1
 rw[this];rfl
def opt (w:Str):List Str→Str×List Str
 | a::b::r=>if a=w then(b,r)else(Str.nil,a::b::r)
 | l=>(Str.nil,l)
theorem zg2 (l:List Str)(w:Str):Qy ⟨l⟩ w=some ((opt w l).1,⟨(opt w l).2⟩):=by
 unfold Qy
 match l with
 | []=>rw[zf (fun h=>absurd (of_decide_eq_false h) (by decide))];rfl
 | [a]=>rw[zf (fun h=>absurd (of_decide_eq_false h) (fun hn=>hn (by show((1:Nat):Int)<2;decide)))];rfl
 | a::b::r=>
  have h2:¬(((a::b::r).length:Nat):Int)<2:=by rw[List.length_cons,List.length_cons];omega
  have hg:gx (a::b::r) 0=a:=rfl
  rw[zf (fun _=>⟨by omega,by rw[List.length_cons];omega⟩),decide_eq_false h2,Bool.false_or,hg,opt]
  by_cases h:a=w
  ·
   rw[decide_eq_true h,if_pos h,Bool.not_true,cond_false,zaa,Option.bind_some,zaa,Option.bind_some]
  ·
   rw[decide_eq_false h,if_neg h];rfl
theorem zg1 {w:Str}{v:Str}{r:List Str}(h:∀a,r.head?=some a→a≠w):opt w ((yq w.b v).map Str.mk++r)=(v,r):=by
 unfold yq
 split
 ·
  rename_i hv
  rw[hv]
  show opt w r=_
  match r,h with
  | [],_=>rfl
  | [a],_=>rfl
  | a::b::r,h=>rw[opt,if_neg (h a rfl)]
 ·
  show opt w (w::v::r)=_
  rw[opt,if_pos rfl]
theorem zlD {ns:List Int}(h:∀n∈ns,n.natAbs<10000000)(hl:ns.length≤100000000)(r:List Str){k:Int}(hk:k=(ns.length:Int)):zav ⟨ns.map yf++r⟩ k=some (ns,true,⟨r⟩):=by
 unfold zav
 have hlen:(ns.map yf++r).length=ns.length+r.length:=by rw[List.length_append,List.length_map]
 subst hk
 rw[decide_eq_false (show ¬(((ns.map yf++r).length:Nat):Int)<(ns.length:Int)by omega),cond_false,zf ⟨by omega,by omega,by rw[hlen];omega⟩,zuc,List.take_left' (by rw[List.length_map]),zok h hl,Option.bind_some,
  zf ⟨by omega,by rw[hlen];omega,by omega⟩,zw,zw,ze0,List.drop_left' (by rw[List.length_map])]
theorem zr5:y6.Nodup:=by decide
theorem zuC:qi.Nodup:=by decide
theorem zda:YM=some y6:=rfl
theorem zop:zaB=some qi:=rfl
theorem zit {y:yg}(h:Qv y):JC ((vh y).map Str.mk)=some (y,true):=by
 show JC [y.Node,gx qi y.Side,yf y.At]=_
 unfold JC
 have h3:(!decide ((([y.Node,gx qi y.Side,yf y.At]:List Str).length:Int)=3))=false:=by simp
 have n0:inR [y.Node,gx qi y.Side,yf y.At] 0:=⟨by decide,by simp⟩
 have n1:inR [y.Node,gx qi y.Side,yf y.At] 1:=⟨by decide,by simp⟩
 have n2:inR [y.Node,gx qi y.Side,yf y.At] 2:=⟨by decide,by simp⟩
 have g0:gx [y.Node,gx qi y.Side,yf y.At] 0=y.Node:=rfl
 have g1:gx [y.Node,gx qi y.Side,yf y.At] 1=gx qi y.Side:=rfl
 have g2:gx [y.Node,gx qi y.Side,yf y.At] 2=yf y.At:=rfl
 have s1:=h.s1
 have s2:=h.s2
 have hz0:¬y.Node=Str.nil:=zcr h.node
 have hz1:¬gx qi y.Side=Str.nil:=fun e=>(ze4 s1 s2).1.ne (by rw[e];rfl)
 have hin:inR qi y.Side:=⟨by omega,by show y.Side<5;omega⟩
 rw[zw,zf (fun _=>n0),zf (fun _=>n1),h3,Bool.false_or,g0,g1,decide_eq_false hz0,decide_eq_false hz1,Bool.or_self,cond_false,zf n0,zw,zop,Option.bind_some,zf n1,
  zik zuC (by decide) hin,Option.bind_some,zw,zf n2,g2,zin h.at_,Option.bind_some,zw]
 have:decide ((0:Int)<y.Side)=true:=decide_eq_true (by omega)
 show some ((⟨y.Node,y.Side,y.At⟩:yg),true&&decide ((0:Int)<y.Side))=_
 rw[this];rfl
theorem zii {s sep:Str}{h r:List UInt8}{q:Bool}(hc:jB s sep=(⟨h⟩,⟨r⟩,q))(hs:s.b.length≤4294967280)(hh:h.length≤s.b.length)(hr:r.length≤s.b.length):strings_Cut s sep=some (⟨h⟩,⟨r⟩,q):=by
 unfold strings_Cut
 rw[hc]
 exact zf ⟨by omega,by show h.length≤_;omega,by show r.length≤_;omega⟩
theorem zbp {ws:List (List UInt8)}{t:Str}(h0:ws≠[])(h:∀w∈ws,jP w)(hl:(q8 ws t).length≤100000000):Q3 ⟨q8 ws t⟩=some (ws.map Str.mk,t,!decide (t=Str.nil),true):=by
 have hc:=zr9 (t:=t) h
 have hjl:(yI 32 ws).length+(qB t).length=(q8 ws t).length:=by unfold q8;rw[List.length_append]
 have hql:(if t=Str.nil then []else yw t.b++[34]).length≤(qB t).length:=by
  unfold qB
  split
  ·
   exact Nat.le_refl _
  ·
   unfold j7;simp only[List.length_cons,List.length_append];omega
 have hs:strings_Split ⟨yI 32 ws⟩ ⟨[32]⟩=some (ws.map Str.mk):=by
  unfold strings_Split
  rw[znb h0 (fun w hw=>(h w hw).b32)]
  exact zf ⟨by show(((yI 32 ws).length:Nat):Int)<_;omega,by simp⟩
 have hn:¬Str.nil∈ws.map Str.mk:=fun hm=>by
  obtain⟨w,hw,e⟩:=List.mem_map.1 hm
  exact(h w hw).ne (congrArg Str.b e)
 have hcl:=zfQ 32 ws h0 (fun w hw=>(h w hw).b32)
 have hcc:(yI 32 ws).count 32≤(yI 32 ws).length:=List.count_le_length
 have hcn:J7 (ws.map Str.mk) Str.nil=some false:=by
  rw[zfr _ _ (by rw[List.length_map];omega),decide_eq_false hn]
 unfold Q3
 rw[zii hc (by show(q8 ws t).length≤_;omega) (by show _≤(q8 ws t).length;omega) (by show _≤(q8 ws t).length;omega),Option.bind_some]
 simp only
 by_cases ht:t=Str.nil
 ·
  subst ht
  rw[decide_eq_true rfl,Bool.not_true,cond_false,yy,hs,Option.bind_some,hcn];rfl
 ·
  have hq:(⟨(⟨[34]⟩:Str).b++(yw t.b++[34])⟩:Str)=j7 t:=rfl
  rw[decide_eq_false ht,Bool.not_false,cond_true,if_neg ht]
  rw[if_neg ht]at hql
  rw[zf (by show((([34]:List UInt8).length:Nat):Int)+(((yw t.b++[34]).length:Nat):Int)≤_;rw[List.length_singleton];omega)]
  rw[hq,zox (j7 t) (by rw[←hq];show([34]++(yw t.b++[34])).length≤_;rw[List.length_append,List.length_singleton];omega),zv3,Option.bind_some]
  simp only
  rw[Bool.not_true,cond_false,yy,hs,Option.bind_some,hcn];rfl
theorem zmb {r:zz}(h:vF r):zat ((jv r).map Str.mk)=some (r,true):=by
 unfold zat
 show bnd _ _=_
 have e:(jv r).map Str.mk=[⟨vB⟩,⟨qT r.Class⟩,r.Prop_,r.Value]:=rfl
 have g1:gx [(⟨vB⟩:Str),⟨qT r.Class⟩,r.Prop_,r.Value] 1=⟨qT r.Class⟩:=rfl
 have g2:gx [(⟨vB⟩:Str),⟨qT r.Class⟩,r.Prop_,r.Value] 2=r.Prop_:=rfl
 have g3:gx [(⟨vB⟩:Str),⟨qT r.Class⟩,r.Prop_,r.Value] 3=r.Value:=rfl
 rw[zw,e,decide_eq_true (show((([(⟨vB⟩:Str),⟨qT r.Class⟩,r.Prop_,r.Value]:List Str).length:Nat):Int)=4 from rfl),Bool.not_true,cond_false,zf ⟨by decide,by simp⟩,zf ⟨by decide,by simp⟩,zf ⟨by decide,by simp⟩,zw,g1,g2,g3]
 by_cases hc:r.Class=Str.nil
 ·
  have hs:qT r.Class=[42]:=by unfold qT;rw[if_pos hc]
  rw[show decide ((⟨⟨qT r.Class⟩,r.Prop_,r.Value⟩:zz).Class=(⟨[42]⟩:Str))=true from decide_eq_true (by rw[hs]),cond_true,Option.bind_some]
  cases r
  simp only at hc
  rw[hc]
 ·
  have hs:qT r.Class=r.Class.b:=by unfold qT;rw[if_neg hc]
  have hn:=h.cls.resolve_left hc
  have hne:¬(⟨qT r.Class⟩:Str)=⟨[42]⟩:=fun e=>by
   rw[hs]at e
   have e:r.Class=⟨[42]⟩:=e
   rw[e]at hn
   exact absurd hn (by decide)
  rw[show decide ((⟨⟨qT r.Class⟩,r.Prop_,r.Value⟩:zz).Class=(⟨[42]⟩:Str))=false from decide_eq_false hne,cond_false,Option.bind_some,hs]
noncomputable def zlv (m:zl)(w:yQ):Option (zl×Bool):=
  Option.bind (Qy w (⟨[99,108,97,115,115]⟩:Str)) fun r6=>
  bnd ({ m with Class:=r6.1 }) fun n4=>
  Option.bind (Qy r6.2 (⟨[105,110]⟩:Str)) fun r7=>
  bnd ({ n4 with Parent:=r7.1 }) fun n5=>
  zg ((decide (0<(r7.2.l.length:Int)))=true→inR r7.2.l 0) <|
  Option.bind (α:=(zl×yQ)) (
   bif(decide (0<(r7.2.l.length:Int)))&&(decide ((gx r7.2.l 0)=(⟨[108,111,99,107,101,100]⟩:Str)))then(
    bnd ({ n5 with Locked:=true }) fun n6=>
    Option.bind (vJ r7.2) fun r8=>
    some (n6,r8.2))
   else(
    some (n5,r7.2))) fun j_24=>
  some (j_24.1,decide ((j_24.2.l.length:Int)=0))
theorem zsO (id:Str)(k:Int)(b:Box)(t c p:Str)(lk:Bool):zlv ⟨id,k,b,t,Str.nil,Str.nil,false⟩ ⟨(yq yx c++(yq wIn p++q9 lk)).map Str.mk⟩=some (⟨id,k,b,t,c,p,lk⟩,true):=by
 unfold zlv
 have h2:∀a,((q9 lk).map Str.mk).head?=some a→a≠⟨wIn⟩∧a≠⟨yx⟩:=by
  intro a ha
  cases lk with
  | false=>cases ha
  | true=>
   have ha:some (⟨zby⟩:Str)=some a:=ha
   injection ha with ha
   rw[←ha]
   exact⟨fun e=>absurd (congrArg Str.b e) (by decide),fun e=>absurd (congrArg Str.b e) (by decide)⟩
 have h1:∀a,((yq wIn p++q9 lk).map Str.mk).head?=some a→a≠⟨yx⟩:=by
  intro a ha
  unfold yq at ha
  split at ha
  ·
   exact(h2 a ha).2
  ·
   have ha:some (⟨wIn⟩:Str)=some a:=ha
   injection ha with ha
   rw[←ha]
   exact fun e=>absurd (congrArg Str.b e) (by decide)
 have o1:opt ⟨yx⟩ ((yq yx c++(yq wIn p++q9 lk)).map Str.mk)=(c,(yq wIn p++q9 lk).map Str.mk):=by
  rw[List.map_append]
  exact zg1 (w:=⟨yx⟩) h1
 have o2:opt ⟨wIn⟩ ((yq wIn p++q9 lk).map Str.mk)=(p,(q9 lk).map Str.mk):=by
  rw[List.map_append]
  exact zg1 (w:=⟨wIn⟩) (fun a ha=>(h2 a ha).1)
 rw[zg2,o1,Option.bind_some,zw]
 simp only
 rw[zg2,o2,Option.bind_some,zw]
 cases lk with
 | false=>
  have e:(q9 false).map Str.mk=([]:List Str):=rfl
  simp only
  rw[e,zf (fun h=>absurd (of_decide_eq_true h) (by decide))];rfl
 | true=>
  have e:(q9 true).map Str.mk=[(⟨zby⟩:Str)]:=rfl
  have hg:gx [(⟨zby⟩:Str)] 0=⟨zby⟩:=rfl
  have hl:(0:Int)<((([(⟨zby⟩:Str)].length:Nat)):Int):=by rw[List.length_cons];omega
  simp only
  rw[e,zf (fun _=>⟨by omega,hl⟩),decide_eq_true hl,Bool.true_and,hg,decide_eq_true rfl,cond_true,zw,zaa,Option.bind_some,Option.bind_some]
  rfl
theorem zma {n:zl}(h:jK n):zas ((jq n).map Str.mk) n.Text=some (n,true):=by
 have k1:=h.k1
 have k2:=h.k2
 have hin:inR y6 n.Kind:=⟨by omega,by show n.Kind<7;omega⟩
 have e:(jq n).map Str.mk=gx y6 n.Kind::n.Id::((Qq n).map Str.mk++(yq yx n.Class++(yq wIn n.Parent++q9 n.Locked)).map Str.mk):=by
  unfold jq
  rw[List.map_cons,List.map_cons,List.map_append]
 have hi:¬n.Id=Str.nil:=zcr h.id
 unfold zas
 rw[e,zw,zw,zda,Option.bind_some,zaa,Option.bind_some]
 simp only
 rw[zik zr5 (by decide) hin,Option.bind_some,zw,zaa,Option.bind_some,zw]
 simp only
 rw[decide_eq_false hi,Bool.or_false,decide_eq_false (show ¬n.Kind<1 by omega),cond_false]
 have hr:=zsO n.Id n.Kind n.Box n.Text n.Class n.Parent n.Locked
 have hp:Qq n=if n.Kind=6 then []else QL (jd n.Box):=rfl
 by_cases h6:n.Kind=6
 ·
  rw[hp,if_pos h6,decide_eq_true h6,Bool.not_true,cond_false,yy]
  have hz:=h.zero h6
  rw[hz]at hr
  refine Eq.trans hr ?_
  rw[←hz]
 ·
  rw[hp,if_neg h6,decide_eq_false h6,Bool.not_false,cond_true,show(QL (jd n.Box)).map Str.mk=(jd n.Box).map yf from List.map_map,zlD (k:=4) h.box (by show(4:Nat)≤_;decide) _ rfl,Option.bind_some]
  simp only
  have hb:(jd n.Box).length=4:=rfl
  rw[Bool.not_true,cond_false,zf ⟨by decide,by rw[hb];decide⟩,zf ⟨by decide,by rw[hb];decide⟩,zf ⟨by decide,by rw[hb];decide⟩,zf ⟨by decide,by rw[hb];decide⟩,zw,yy]
  exact hr
noncomputable def zjr (m:zA)(w:yQ):Option (zA×Bool):=
 Option.bind (Qy w (⟨[99,108,97,115,115]⟩:Str)) fun r7=>
 bnd ({ m with Class:=r7.1 }) fun x5=>
 some (x5,decide ((r7.2.l.length:Int)=0))
theorem zp6 (i:Str)(f t:yg)(p:List zJ)(s c:Str):zjr ⟨i,f,t,p,s,Str.nil⟩ ⟨(yq yx c).map Str.mk⟩=some (⟨i,f,t,p,s,c⟩,true):=by
 unfold zjr
 have o1:opt ⟨yx⟩ ((yq yx c).map Str.mk)=(c,[]):=by
  have:=zg1 (w:=⟨yx⟩) (v:=c) (r:=[]) (fun a ha=>by cases ha)
  rw[List.append_nil]at this
  exact this
 rw[zg2,o1];rfl
theorem zsk (s:Str)(l:List Str)(hl:l.length≤100000000):∃m:Nat,m≤l.length∧loop (zar (s,⟨l⟩)) 0=some (m:Int)∧(∀(j:Nat) (hj:j<l.length),j<m→l[j]≠⟨yx⟩)∧(∀hm:m<l.length,l[m]=⟨yx⟩):=by
 obtain⟨r,h1,h2⟩:=zek (body:=zar (s,⟨l⟩)) (s0:=(0:Int)) (fun i=>0≤i∧i.toNat≤l.length∧∀(j:Nat) (hj:j<l.length),j<i.toNat→l[j]≠⟨yx⟩) (fun i=>l.length - i.toNat)
  (fun r=>0≤r∧r.toNat≤l.length∧(∀(j:Nat) (hj:j<l.length),j<r.toNat→l[j]≠⟨yx⟩)∧∀hm:r.toNat<l.length,l[r.toNat]=⟨yx⟩) ⟨Int.le_refl 0,by simp,fun j _ hj=>by simp at hj⟩ (fun i hI=>by
   obtain⟨i1,i2,i3⟩:=hI
   unfold zar
   have hlw:((s,(⟨l⟩:yQ)):Str×yQ).2.l=l:=rfl
   rw[hlw,zf (fun h=>⟨i1,of_decide_eq_true h⟩)]
   by_cases c:i<(l.length:Int)
   ·
    have hi:i.toNat<l.length:=by omega
    have hg:gx l i=l[i.toNat]:=zki ⟨i1,c⟩
    rw[decide_eq_true c,Bool.true_and,hg]
    by_cases d:l[i.toNat]=⟨yx⟩
    ·
     rw[decide_eq_true d,Bool.not_true,cond_false]
     exact .inr ⟨i,rfl,i1,i2,i3,fun _=>d⟩
    ·
     rw[decide_eq_false d,Bool.not_false,cond_true,zw,Wk (by omega) (by omega)]
     refine .inl ⟨i+1,rfl,⟨by omega,by omega,fun j hj hji=>?_⟩,by omega⟩
     by_cases e:j=i.toNat
     ·
      subst e;exact d
     ·
      exact i3 j hj (by omega)
   ·
    rw[decide_eq_false c,Bool.false_and,cond_false]
    exact .inr ⟨i,rfl,i1,i2,i3,fun hm=>by omega⟩)
 refine⟨r.toNat,h2.2.1,?_,h2.2.2.1,h2.2.2.2⟩
 rw[h1];congr 1;have:=h2.1;omega
theorem zrO (n:Int):yf n≠⟨yx⟩:=fun e=>by
 have e:Go.Lib.itoa n=yx:=congrArg Str.b e
 have hm:(99:UInt8)∈Go.Lib.itoa n:=by rw[e];decide
 rcases zgH hm with h | h
 ·
  exact absurd h (by decide)
 ·
  exact absurd h (by decide)
theorem zsl {s:Str}{ns:List Int}{c:Str}(hl:ns.length≤1000000):loop (zar (s,⟨ns.map yf++(yq yx c).map Str.mk⟩)) 0=some (ns.length:Int):=by
 have ho:(yq yx c).length≤2:=zeC yx c
 have hlen:(ns.map yf++(yq yx c).map Str.mk).length=ns.length+(yq yx c).length:=by rw[List.length_append,List.length_map,List.length_map]
 obtain⟨m,m1,m2,m3,m4⟩:=zsk s (ns.map yf++(yq yx c).map Str.mk) (by omega)
 rw[m2]
 congr 2
 rcases Nat.lt_trichotomy m ns.length with h | h | h
 ·
  exfalso
  have h4:=m4 (by omega)
  rw[List.getElem_append_left (by rw[List.length_map];exact h),List.getElem_map]at h4
  exact zrO _ h4
 ·
  exact h
 ·
  exfalso
  have hlt:ns.length<(ns.map yf++(yq yx c).map Str.mk).length:=by omega
  refine m3 ns.length hlt h ?_
  rw[List.getElem_append_right (by rw[List.length_map];exact Nat.le_refl _)]
  have hpos:0<(yq yx c).length:=by omega
  by_cases hc:c=Str.nil
  ·
   unfold yq at hpos
   rw[if_pos hc]at hpos
   exact absurd hpos (by decide)
  ·
   have ew:(yq yx c).map Str.mk=[⟨yx⟩,⟨c.b⟩]:=by unfold yq;rw[if_neg hc];rfl
   simp only[ew,List.length_map,Nat.sub_self,List.getElem_cons_zero]
theorem zl9 {x:zA}(h:jJ x):zaq ((jn x).map Str.mk) x.Text=some (x,true):=by
 have hi:¬x.Id=Str.nil:=zcr h.id
 have e:(jn x).map Str.mk=⟨QT⟩::x.Id::x.From.Node::gx qi x.From.Side::yf x.From.At::x.To.Node::gx qi x.To.Side::yf x.To.At::((jR x.Bends).map Str.mk++(yq yx x.Class).map Str.mk):=by
  unfold jn vh
  simp only[List.map_cons,List.cons_append,List.nil_append,List.map_append];rfl
 have hfr:=zp6 x.Id x.From x.To x.Bends x.Text x.Class
 rw[e]
 generalize hR:(jR x.Bends).map Str.mk++(yq yx x.Class).map Str.mk=R
 unfold zaq
 generalize hL:x.From.Node::gx qi x.From.Side::yf x.From.At::x.To.Node::gx qi x.To.Side::yf x.To.At::R=L
 have hl2:L.length=R.length+6:=by rw[←hL];simp only[List.length_cons]
 have s1:seg L 0 3=(vh x.From).map Str.mk:=by rw[←hL];rfl
 have s2:seg L 3 6=(vh x.To).map Str.mk:=by rw[←hL];rfl
 have s3:seg L 6 ((L.length:Nat):Int)=R:=by rw[←hL];exact ze0 _ 6
 have hsg:seg ((⟨QT⟩:Str)::x.Id::L) 1 ((((⟨QT⟩:Str)::x.Id::L).length:Nat):Int)=x.Id::L:=ze0 _ 1
 rw[zw,zf ⟨by omega,by rw[List.length_cons];omega,by omega⟩,zw,hsg,zaa,Option.bind_some,zw]
 simp only
 rw[decide_eq_false hi,Bool.false_or,decide_eq_false (show ¬((L.length:Nat):Int)<6 by omega),cond_false,zf ⟨by omega,by omega,by omega⟩,s1,zit h.from_,Option.bind_some,
  zf ⟨by omega,by omega,by omega⟩,s2,zit h.to_,Option.bind_some,zw,zf ⟨by omega,by omega,by omega⟩,s3,zw,zw]
 simp only
 rw[Bool.not_true,Bool.or_self,cond_false]
 by_cases hb:x.Bends=[]
 ·
  have hR2:R=(yq yx x.Class).map Str.mk:=by rw[←hR];unfold jR;rw[if_pos hb];rfl
  have hg:(decide (0<((R.length:Nat):Int))&&decide (gx R 0=(⟨[98,121]⟩:Str)))=false:=by
   rw[hR2]
   unfold yq
   split
   ·
    rfl
   ·
    rw[Bool.and_eq_false_iff]
    exact .inr (decide_eq_false fun e=>by
     have e:(⟨yx⟩:Str)=⟨[98,121]⟩:=e
     exact absurd (congrArg Str.b e) (by decide))
  rw[zf (fun h=>⟨by omega,of_decide_eq_true h⟩),hg,cond_false,yy,hR2]
  rw[hb]at hfr
  refine Eq.trans hfr ?_
  rw[←hb]
 ·
  have hR2:R=⟨wBy⟩::((yT x.Bends).map yf++(yq yx x.Class).map Str.mk):=by
   rw[←hR];unfold jR QL;rw[if_neg hb,List.map_cons,List.map_map];rfl
  have hcl:=YH x.Bends
  have hfew:=h.few
  have hlp:(0:Int)<(((⟨wBy⟩::((yT x.Bends).map yf++(yq yx x.Class).map Str.mk):List Str).length:Nat):Int):=by rw[List.length_cons];omega
  have hg:gx (⟨wBy⟩::((yT x.Bends).map yf++(yq yx x.Class).map Str.mk)) 0=⟨wBy⟩:=rfl
  rw[hR2,zf (fun _=>⟨by omega,hlp⟩),decide_eq_true hlp,Bool.true_and,hg,decide_eq_true rfl,cond_true,zaa,Option.bind_some,zsl (by omega),Option.bind_some]
  simp only
  rw[zlD h.bends (by omega) _ rfl,Option.bind_some]
  simp only
  rw[Bool.not_true,cond_false,zog hb (by omega),Option.bind_some,zw]
  simp only
  rw[Bool.not_true,cond_false,yy]
  exact hfr
def spB:List (List UInt8)→List UInt8
 | []=>[]
 | w::l=>32::(w++spB l)
theorem zhU:∀(a b:List (List UInt8)),spB (a++b)=spB a++spB b
 | [],_=>rfl
 | w::a,b=>by rw[List.cons_append,spB,spB,zhU a b];simp
theorem zci:∀(w:List UInt8) (l:List (List UInt8)),yI 32 (w::l)=w++spB l
 | w,[]=>by simp[yI,spB]
 | w,a::l=>by rw[yI,zci a l,spB]
theorem zhV:∀{ws:List (List UInt8)},qX ws→(spB ws).length≤ws.length*41
 | [],_=>by simp[spB]
 | w::l,h=>by
  have h1:=(h w (by simp)).2
  have h2:=zhV (ws:=l) (fun x hx=>h x (by simp[hx]))
  rw[spB,List.length_cons,List.length_append,List.length_cons];omega
theorem zhW (w:List UInt8)(c:Str):spB (yq w c)=if c=Str.nil then []else(32::(w++[32]))++c.b:=by
 unfold yq
 split
 ·
  rfl
 ·
  simp[spB]
theorem zfc {w:List UInt8}{c:Str}(hw:w.length≤40)(hc:c.b.length≤40):(spB (yq w c)).length≤90:=by
 rw[zhW]
 split
 ·
  simp
 ·
  simp only[List.length_append,List.length_cons,List.length_nil];omega
theorem zu7 (b:Bool):spB (q9 b)=if b=true then [32,108,111,99,107,101,100]else []:=by cases b<;>rfl
theorem zm6 (b:Bool):(spB (q9 b)).length≤7:=by cases b<;>decide
theorem zm7:∀{l:List Int},l≠[]→spB (QL l)=32::jr l
 | [],h=>absurd rfl h
 | n::l,_=>by
  unfold QL jr
  rw[List.map_cons,zci,spB]
theorem ziA {c s l:Str}(h:s.b.length+l.b.length+c.b.length≤1000000000):(bif !decide (c=Str.nil)then(
    zg ((l.b.length:Int)+c.b.length≤9223372036854775807) <|
    zg ((s.b.length:Int)+(⟨l.b++c.b⟩:Str).b.length≤9223372036854775807) <|
    bnd ((⟨s.b++(⟨l.b++c.b⟩:Str).b⟩:Str)) fun s1=>some s1)
   else(some s))=some (⟨s.b++(if c=Str.nil then []else l.b++c.b)⟩:Str):=by
  by_cases hc:c=Str.nil
  · rw[decide_eq_true hc,if_pos hc,List.append_nil];rfl
  · rw[decide_eq_false hc,if_neg hc,Bool.not_false,cond_true,zf (by omega),zf (by simp only[List.length_append];omega),zw]
theorem zoA {b:Bool}{s l:Str}(h:s.b.length+l.b.length≤1000000000):(bif b then(
    zg ((s.b.length:Int)+l.b.length≤9223372036854775807) <|
    bnd ((⟨s.b++l.b⟩:Str)) fun s1=>some s1)
   else(some s))=some (⟨s.b++(if b=true then l.b else [])⟩:Str):=by
  cases b with
  | false=>rw[cond_false,if_neg (by decide),List.append_nil]
  | true=>rw[cond_true,if_pos rfl,zf (by omega),zw]
theorem zoB {t s:Str}{q:Str→Option Str}(hq:q t=some (j7 t))(h:s.b.length+2*t.b.length≤1000000000):(bif !decide (t=Str.nil)then(
    Option.bind (q t) fun r1=>
    zg (((⟨[32]⟩:Str).b.length:Int)+r1.b.length≤9223372036854775807) <|
    zg ((s.b.length:Int)+(⟨(⟨[32]⟩:Str).b++r1.b⟩:Str).b.length≤9223372036854775807) <|
    bnd ((⟨s.b++(⟨(⟨[32]⟩:Str).b++r1.b⟩:Str).b⟩:Str)) fun s4=>some s4)
   else(some s))=some (⟨s.b++qB t⟩:Str):=by
  have hl:=zlU t
  unfold qB
  by_cases hc:t=Str.nil
  · rw[decide_eq_true hc,if_pos hc,List.append_nil];rfl
  · rw[decide_eq_false hc,if_neg hc,Bool.not_false,cond_true,hq,Option.bind_some,zf (by simp only[List.length_cons,List.length_nil];omega),zf (by simp only[List.length_append,List.length_cons,List.length_nil];omega),zw]
    rfl
theorem zoj {t:Str}(h:t.b.length≤1000):zbS t=some (j7 t):=by unfold zbS;exact zf (by omega)
def Jh (c p:Str)(lk:Bool)(t:Str):List UInt8:=spB (yq yx c)++(spB (yq wIn p)++(spB (q9 lk)++qB t))
theorem znl {c p t:Str}{lk:Bool}(hc:c.b.length≤40)(hp:p.b.length≤40)(ht:t.b.length≤1000):(Jh c p lk t).length≤2300:=by
 have h1:=zfc (w:=yx) (by decide) hc
 have h2:=zfc (w:=wIn) (by decide) hp
 have h3:=zm6 lk
 have h4:=zg5 ht
 unfold Jh
 simp only[List.length_append];omega
theorem znm {c p t:Str}{lk:Bool}(hc:c.b.length≤40)(hp:p.b.length≤40)(ht:t.b.length≤1000):zau c p lk t=some ⟨Jh c p lk t⟩:=by
 have h1:=zfc (w:=yx) (by decide) hc
 have h2:=zfc (w:=wIn) (by decide) hp
 have h3:=zm6 lk
 unfold zau
 rw[ziA (by show 0+7+_≤_;omega),Option.bind_some]
 rw[show(⟨Str.nil.b++(if c=Str.nil then []else(⟨[32,99,108,97,115,115,32]⟩:Str).b++c.b)⟩:Str)=⟨spB (yq yx c)⟩by rw[zhW];rfl]
 rw[ziA (by show(spB (yq yx c)).length+4+_≤_;omega),Option.bind_some]
 rw[show(if p=Str.nil then []else(⟨[32,105,110,32]⟩:Str).b++p.b)=spB (yq wIn p)by rw[zhW];rfl]
 rw[zoA (by show(spB (yq yx c)++spB (yq wIn p)).length+7≤_;rw[List.length_append];omega),Option.bind_some]
 rw[show(if lk=true then(⟨[32,108,111,99,107,101,100]⟩:Str).b else [])=spB (q9 lk)by rw[zu7]]
 rw[zoB (q:=zbS) (zoj ht) (by simp only[List.length_append];omega),Option.bind_some]
 unfold Jh
 simp only[List.append_assoc]
theorem zlt (n:zl):yH n=(gx y6 n.Kind).b++(32::(n.Id.b++(spB (Qq n)++Jh n.Class n.Parent n.Locked n.Text))):=by
 unfold yH q8 jq Jh
 rw[zci,spB]
 simp only[zhU,List.append_assoc,List.cons_append]
theorem zjp (x:zA):yB x=QT++(32::(x.Id.b++(spB (vh x.From)++(spB (vh x.To)++(spB (jR x.Bends)++Jh x.Class Str.nil false x.Text))))):=by
 unfold yB q8 jn Jh
 rw[zci,spB]
 simp only[zhU,List.append_assoc,List.cons_append,yq,q9,spB,cond_false,if_true,List.nil_append]
theorem ztb {n:zl}(h:jK n):(spB (Qq n)).length≤200:=by
 have hs:qX (Qq n):=by
  unfold Qq
  split
  ·
   exact QP
  ·
   exact ze3 h.box
 have h1:=zhV hs
 have h2:=zlQ n
 omega
theorem zdj {s:Str}(h:s=Str.nil∨zO s=true):s.b.length≤40:=by
 rcases h with rfl | h
 ·
  decide
 ·
  exact Y3 h
theorem zsL {n:zl}(h:jK n):zbN n=some ⟨yH n⟩:=by
 have hk:=(zkR h.k1 h.k2).2
 have hid:=Y3 h.id
 have hp:=ztb h
 have hc:=zdj h.cls
 have hpa:=zdj h.par
 have ht:=znl (lk:=n.Locked) hc hpa h.text
 unfold zbN
 rw[show YM=some y6 from rfl,Option.bind_some,zf (zkP h.k1 h.k2),zf (by simp only[List.length_cons,List.length_nil];omega),zf (by simp only[List.length_append,List.length_cons,List.length_nil];omega),zw,znm hc hpa h.text]
 rw[zlt]
 unfold Qq at hp⊢
 by_cases h6:n.Kind=6
 ·
  rw[decide_eq_true h6,Bool.not_true,cond_false,Option.bind_some,Option.bind_some,if_pos h6,zf (by simp only[List.length_append,List.length_cons,List.length_nil];omega)]
  simp[spB]
 ·
  have hn:=zdb (l:=jd n.Box) (by show(4:Nat)≤_;decide) (ziK h)
  have hsp:=zm7 (l:=jd n.Box) (by unfold jd;simp)
  rw[if_neg h6,hsp]at hp⊢
  rw[List.length_cons]at hp
  rw[decide_eq_false h6,Bool.not_false,cond_true,show Qe [n.Box.X,n.Box.Y,n.Box.W_,n.Box.H]=_ from hn,Option.bind_some,zf (by simp only[List.length_cons,List.length_nil];omega),zf (by simp only[List.length_append,List.length_cons,List.length_nil];omega),zw,
   Option.bind_some,Option.bind_some,zf (by simp only[List.length_append,List.length_cons,List.length_nil];omega)]
  simp
theorem zm5 (y:yg):spB (vh y)=32::vg y:=by unfold vh vg;simp[spB]
theorem zoQ {x:zA}(h:jJ x):(spB (jR x.Bends)).length≤5000:=by
 have hs:qX (jR x.Bends):=by
  unfold jR
  split
  ·
   exact QP
  ·
   exact jG (Ys (by decide) (by decide)) (ze3 h.bends)
 have h1:=zhV hs
 have h2:=ziH x.Bends
 have h3:=h.few
 omega
theorem zp3 {x:zA}(h:jJ x):zbL x=some ⟨yB x⟩:=by
 have hid:=Y3 h.id
 have hf:=zf6 h.from_
 have ht:=zf6 h.to_
 have hb:=zoQ h
 have hc:=zdj h.cls
 have htl:=znl (p:=Str.nil) (lk:=false) hc (by decide) h.text
 have hfew:=h.few
 unfold zbL
 rw[zf (by simp only[List.length_cons,List.length_nil];omega),zf (by simp only[List.length_append,List.length_cons,List.length_nil];omega),zc9 h.from_,Option.bind_some,zf (by simp only[List.length_append,List.length_cons,List.length_nil];omega),
  zf (by simp only[List.length_append,List.length_cons,List.length_nil];omega),zc9 h.to_,Option.bind_some,zf (by simp only[List.length_append,List.length_cons,List.length_nil];omega),zw,znm (p:=Str.nil) hc (by decide) h.text]
 rw[zjp,zm5,zm5]
 by_cases hn:x.Bends=[]
 ·
  rw[decide_eq_false (by rw[hn];decide),cond_false,Option.bind_some,Option.bind_some,zf (by simp only[List.length_append,List.length_cons,List.length_nil];omega),hn]
  simp[jR,spB]
 ·
  have hl:=List.length_pos_iff.2 hn
  have hcl:=YH x.Bends
  have hnum:=zdb (l:=yT x.Bends) (by omega) (zi3 h)
  have hsb:spB (jR x.Bends)=32::98::121::32::jr (yT x.Bends):=by
   unfold jR
   rw[if_neg hn,spB,zm7 (zpx hn)];rfl
  rw[hsb]at hb⊢
  simp only[List.length_cons]at hb
  rw[decide_eq_true (by omega),cond_true,zih (by omega),Option.bind_some,hnum,Option.bind_some,zf (by simp only[List.length_cons,List.length_nil];omega),zf (by simp only[List.length_append,List.length_cons,List.length_nil];omega),zw,Option.bind_some,Option.bind_some,
   zf (by simp only[List.length_append,List.length_cons,List.length_nil];omega)]
  simp
theorem zmx (r:zz):yD r=[115,116,121,108,101,32]++(qT r.Class++(32::(r.Prop_.b++(32::r.Value.b)))):=by
 unfold yD jv
 rw[zci]
 simp[spB]
theorem zvb {r:zz}(h:vF r):(qT r.Class).length≤40:=by
 have:=zdj h.cls
 unfold qT
 split
 ·
  decide
 ·
  exact this
theorem ztO {r:zz}(h:vF r):zbO r=some ⟨yD r⟩:=by
 have h1:=zvb h
 have h2:=Y3 h.prop
 have h3:=(znD h.val).2
 have hs:(bif decide (r.Class=Str.nil)then(bnd ((⟨[42]⟩:Str)) fun class1=>some class1)else(some r.Class))=some ⟨qT r.Class⟩:=by
  unfold qT
  by_cases hc:r.Class=Str.nil
  ·
   rw[decide_eq_true hc,if_pos hc];rfl
  ·
   rw[decide_eq_false hc,if_neg hc];rfl
 unfold zbO
 rw[hs,Option.bind_some,zf (by simp only[List.length_append,List.length_cons,List.length_nil];omega),zf (by simp only[List.length_append,List.length_cons,List.length_nil];omega),zf (by simp only[List.length_append,List.length_cons,List.length_nil];omega),
  zf (by simp only[List.length_append,List.length_cons,List.length_nil];omega),zf (by simp only[List.length_append,List.length_cons,List.length_nil];omega),zmx]
 simp
theorem zgO {α:Type}[Inhabited α]{l:List α}(f:α→List UInt8){step:Int→Str→Option Str}{s0:Str}(hl:∀x∈l,(f x).length≤7000)(hN:s0.b.length+l.length*7001≤100000000)
  (hf:∀(i:Nat) (hi:i<l.length) (s:Str),s.b.length≤100000000→step (i:Int) s=some ⟨s.b++(f l[i]++[10])⟩):yV (l.length:Int) step s0=some ⟨s0.b++yb (l.map f)⟩:=by
 obtain⟨s,h1,h2⟩:=QO (n:=(l.length:Int)) (step:=step) (s0:=s0) (fun i s=>s=⟨s0.b++yb ((l.take i).map f)⟩) (by omega) (by cases s0;simp[yb]) (fun i s hi hI=>by
  have hi':i<l.length:=by omega
  have hlen:=zaV (f:=f) (l:=l.take i) (fun x hx=>hl x (List.mem_of_mem_take hx))
  rw[List.length_take]at hlen
  have hm:min i l.length*7001≤l.length*7001:=Nat.mul_le_mul_right _ (by omega)
  refine⟨_,hf i hi' s ?_,?_⟩
  ·
   rw[hI]
   show(s0.b++yb ((l.take i).map f)).length≤_
   rw[List.length_append];omega
  ·
   rw[hI,List.take_succ_eq_append_getElem hi',List.map_append,zfj,List.append_assoc];rfl)
 rw[h1,h2];simp
theorem zfw (c t:Str)(h:c.b.length+t.b.length≤70368744177664):zbq c t=some ⟨c.b++t.b⟩:=by unfold zbq;exact zf h
theorem zoi {d:Doc}{l:List zz}(h:zbC d l)(hc:jE d=some 0)(hr:vt l=0):Qx d l=some (if 1048576<(qr d l).length then(Str.nil,4)else(⟨qr d l⟩,0)):=by
 have a1:=h.rl
 have a2:=h.nl
 have a3:=h.el
 have hbl:=zjo h
 have l1:=zgO (l:=l) yD (step:=zdo l) (s0:=⟨[]⟩) (fun r hr=>zcL (h.rule r hr)) (by show 0+_≤_;omega) (fun i hi s hs=>by
  have hx:=h.rule _ (List.getElem_mem hi)
  have hle:=zcL hx
  unfold zdo
  rw[zf ⟨by omega,by omega⟩,zw,zL hi,ztO hx,Option.bind_some,zf (by simp only[List.length_cons,List.length_nil];omega),zfw _ _ (by simp only[List.length_append,List.length_cons,List.length_nil];omega),Option.bind_some])
 have b1:=zaV (f:=yD) (l:=l) (fun r hr=>zcL (h.rule r hr))
 have b2:=zaV (f:=yH) (l:=d.Nodes) (fun n hn=>zcs (h.node n hn))
 have l2:=zgO (l:=d.Nodes) yH (step:=zdp d) (s0:=⟨yb (l.map yD)⟩) (fun n hn=>zcs (h.node n hn)) (by show(yb (l.map yD)).length+_≤_;omega) (fun i hi s hs=>by
  have hx:=h.node _ (List.getElem_mem hi)
  have hle:=zcs hx
  unfold zdp
  rw[zf ⟨by omega,by omega⟩,zw,zL hi,zsL hx,Option.bind_some,zf (by simp only[List.length_cons,List.length_nil];omega),zfw _ _ (by simp only[List.length_append,List.length_cons,List.length_nil];omega),Option.bind_some])
 have l3:=zgO (l:=d.Edges) yB (step:=zdq d) (s0:=⟨yb (l.map yD)++yb (d.Nodes.map yH)⟩) (fun x hx=>zds (h.edge x hx)) (by show(yb (l.map yD)++yb (d.Nodes.map yH)).length+_≤_;rw[List.length_append];omega) (fun i hi s hs=>by
  have hx:=h.edge _ (List.getElem_mem hi)
  have hle:=zds hx
  unfold zdq
  rw[zf ⟨by omega,by omega⟩,zw,zL hi,zp3 hx,Option.bind_some,zf (by simp only[List.length_cons,List.length_nil];omega),zfw _ _ (by simp only[List.length_append,List.length_cons,List.length_nil];omega),Option.bind_some])
 have e:qr d l=yb (l.map yD)++yb (d.Nodes.map yH)++yb (d.Edges.map yB):=by unfold qr;rw[List.append_assoc]
 have hlen:zfe ⟨qr d l⟩=some (((qr d l).length:Int),⟨qr d l⟩):=by unfold zfe;exact zf (by show(qr d l).length≤_;omega)
 have hstr:zff ⟨qr d l⟩=some ⟨qr d l⟩:=by unfold zff;exact zf (by show(qr d l).length≤_;omega)
 unfold Qx
 rw[hc,Option.bind_some,zc6,hr]
 simp only[decide_true,Bool.not_true,cond_false,Option.bind_some]
 rw[zw,l1,Option.bind_some,show(⟨(⟨[]⟩:Str).b++yb (l.map yD)⟩:Str)=⟨yb (l.map yD)⟩from rfl,l2,Option.bind_some,l3,Option.bind_some,←e,hlen,Option.bind_some]
 simp only
 by_cases c:1048576<(qr d l).length
 ·
  rw[decide_eq_true (by omega),cond_true,if_pos c]
 ·
  rw[decide_eq_false (by omega),cond_false,if_neg c,hstr,Option.bind_some]
theorem zfs {a m:List UInt8}(h:10∉a)(hl:a.length+m.length+1≤4294967280):strings_Cut ⟨a++10::m⟩ ⟨[10]⟩=some (⟨a⟩,⟨m⟩,true):=
 zii (zpD h) (by show(a++10::m).length≤_;simp only[List.length_append,List.length_cons];omega) (by show a.length≤(a++10::m).length;simp only[List.length_append,List.length_cons];omega)
  (by show m.length≤(a++10::m).length;simp only[List.length_append,List.length_cons];omega)
theorem zgM {a m:List UInt8}:¬(⟨a++10::m⟩:Str)=Str.nil:=fun e=>by
 have e:a++10::m=[]:=congrArg Str.b e
 simp at e
theorem zaQ {α:Type}{f:α→List UInt8}{x:α}{R:List UInt8}{N:Nat}(h:(f x++10::R).length≤N):(f x).length+R.length+1≤N:=by
 simp only[List.length_append,List.length_cons]at h;omega
theorem zve {r:zz}(h:vF r){acc:List zz}{at_:Nat}{R:List UInt8}(hl:(yD r++10::R).length≤100000000)(ha:acc.length≤100000000)(hat:at_≤100000000):
  jT (⟨yD r++10::R⟩,acc,(at_:Int),⟨[],[]⟩)=some (zN.again (⟨R⟩,acc++[r],((at_+1:Nat):Int),⟨[],[]⟩)):=by
 have hw:=h.words.word
 have hll:=zaQ hl
 have h10:10∉yD r:=by rw[zbb];exact zaP hw
 have hsp:=zbp (t:=Str.nil) (by unfold jv;simp) hw (by rw[←zbb];omega)
 rw[←zbb]at hsp
 have hg:gx ((jv r).map Str.mk) 0=⟨vB⟩:=rfl
 unfold jT
 simp only
 rw[decide_eq_false zgM,Bool.not_false,cond_true,zfs h10 (by omega),Option.bind_some,hsp,Option.bind_some,zw]
 simp only[Bool.and_self,decide_true,Bool.not_true,Bool.false_and,Bool.not_false,cond_false]
 rw[zf ⟨by decide,by rw[List.length_map];unfold jv;rw[List.length_cons];omega⟩,hg,decide_eq_true rfl,cond_true,zmb h,Option.bind_some,zw,zf (by rw[qI,List.length_singleton];omega),Option.bind_some]
 simp only[List.length_nil,Int.ofNat_zero,decide_true,Bool.and_self,Bool.not_true,cond_false]
 rw[zw,Wk (by omega) (by omega)];rfl
theorem zkQ {k:Int}(h1:1≤k)(h2:k≤6):gx y6 k≠⟨vB⟩∧gx y6 k≠⟨QT⟩:=by
 rcases zeg h1 h2 with rfl | rfl | rfl | rfl | rfl | rfl<;>exact⟨by decide,by decide⟩
theorem zvd {n:zl}(h:jK n){rules:List zz}{acc:List zl}{at_:Nat}{R:List UInt8}(hl:(yH n++10::R).length≤100000000)(ha:acc.length≤100000000)(hat:at_≤100000000):
  jT (⟨yH n++10::R⟩,rules,(at_:Int),⟨acc,[]⟩)=some (zN.again (⟨R⟩,rules,((at_+1:Nat):Int),⟨acc++[n],[]⟩)):=by
 have hw:=h.words.word
 have hll:=zaQ hl
 have h10:10∉yH n:=zaP hw
 have hsp:=zbp (t:=n.Text) (by unfold jq;simp) hw (by show(yH n).length≤_;omega)
 have hg:gx ((jq n).map Str.mk) 0=gx y6 n.Kind:=rfl
 obtain⟨k1,k2⟩:=zkQ h.k1 h.k2
 have hq:(!((!decide (n.Text=Str.nil))&&decide (n.Text=Str.nil)))=true:=by cases decide (n.Text=Str.nil)<;>rfl
 unfold jT
 simp only
 rw[decide_eq_false zgM,Bool.not_false,cond_true,zfs h10 (by omega),Option.bind_some,show Q3 ⟨yH n⟩=_ from hsp,Option.bind_some,zw]
 simp only[Bool.and_self,hq,Bool.not_true,cond_false]
 rw[zf ⟨by decide,by rw[List.length_map];unfold jq;rw[List.length_cons];omega⟩,hg,decide_eq_false k1,cond_false,zf ⟨by decide,by rw[List.length_map];unfold jq;rw[List.length_cons];omega⟩,decide_eq_false k2,cond_false,zma h,Option.bind_some,zw,zf (by rw[qI,List.length_singleton];omega),Option.bind_some]
 simp only[List.length_nil,Int.ofNat_zero,decide_true,Bool.and_self,Bool.not_true,cond_false]
 rw[zw,Wk (by omega) (by omega)];rfl
theorem zvc {x:zA}(h:jJ x){rules:List zz}{ns:List zl}{acc:List zA}{at_:Nat}{R:List UInt8}(hl:(yB x++10::R).length≤100000000)(ha:acc.length≤100000000)(hat:at_≤100000000):
  jT (⟨yB x++10::R⟩,rules,(at_:Int),⟨ns,acc⟩)=some (zN.again (⟨R⟩,rules,((at_+1:Nat):Int),⟨ns,acc++[x]⟩)):=by
 have hw:=h.words.word
 have hll:=zaQ hl
 have h10:10∉yB x:=zaP hw
 have hsp:=zbp (t:=x.Text) (by unfold jn;simp) hw (by show(yB x).length≤_;omega)
 have hg:gx ((jn x).map Str.mk) 0=⟨QT⟩:=rfl
 have hne:¬(⟨QT⟩:Str)=⟨vB⟩:=by decide
 have hq:(!((!decide (x.Text=Str.nil))&&decide (x.Text=Str.nil)))=true:=by cases decide (x.Text=Str.nil)<;>rfl
 unfold jT
 simp only
 rw[decide_eq_false zgM,Bool.not_false,cond_true,zfs h10 (by omega),Option.bind_some,show Q3 ⟨yB x⟩=_ from hsp,Option.bind_some,zw]
 simp only[Bool.and_self,hq,Bool.not_true,cond_false]
 rw[zf ⟨by decide,by rw[List.length_map];unfold jn;rw[List.length_cons];omega⟩,hg,decide_eq_false hne,cond_false,zf ⟨by decide,by rw[List.length_map];unfold jn;rw[List.length_cons];omega⟩,decide_eq_true rfl,cond_true,zl9 h,Option.bind_some,zf (by rw[qI,List.length_singleton];omega),Option.bind_some]
 simp only[Bool.not_true,cond_false]
 rw[zw,Wk (by omega) (by omega)];rfl
theorem zk8:∀(l acc:List zz) (at_:Nat) (R:List UInt8),(∀r∈l,vF r)→(yb (l.map yD)++R).length≤50000000→acc.length+l.length≤50000000→at_+l.length≤50000000→
  loop jT (⟨yb (l.map yD)++R⟩,acc,(at_:Int),⟨[],[]⟩)=loop jT (⟨R⟩,acc++l,((at_+l.length:Nat):Int),⟨[],[]⟩)
 | [],acc,at_,R,_,_,_,_=>by rw[List.append_nil];rfl
 | r::l,acc,at_,R,h,h1,h2,h3=>by
  have e:yb ((r::l).map yD)++R=yD r++10::(yb (l.map yD)++R):=by rw[List.map_cons,yb,List.append_assoc,List.cons_append]
  rw[e]at h1
  have h1':=zaQ h1
  simp only[List.length_cons]at h2 h3
  rw[e,zaT (zve (h r (by simp)) (by omega) (by omega) (by omega)),zk8 l (acc++[r]) (at_+1) R (fun x hx=>h x (by simp[hx])) (by omega) (by rw[List.length_append,List.length_singleton];omega) (by omega),List.append_assoc,List.singleton_append,show at_+1+l.length=at_+(r::l).length by rw[List.length_cons];omega]
theorem zk7 (rules:List zz):∀(l acc:List zl) (at_:Nat) (R:List UInt8),(∀n∈l,jK n)→(yb (l.map yH)++R).length≤50000000→acc.length+l.length≤50000000→at_+l.length≤50000000→
  loop jT (⟨yb (l.map yH)++R⟩,rules,(at_:Int),⟨acc,[]⟩)=loop jT (⟨R⟩,rules,((at_+l.length:Nat):Int),⟨acc++l,[]⟩)
 | [],acc,at_,R,_,_,_,_=>by rw[List.append_nil];rfl
 | r::l,acc,at_,R,h,h1,h2,h3=>by
  have e:yb ((r::l).map yH)++R=yH r++10::(yb (l.map yH)++R):=by rw[List.map_cons,yb,List.append_assoc,List.cons_append]
  rw[e]at h1
  have h1':=zaQ h1
  simp only[List.length_cons]at h2 h3
  rw[e,zaT (zvd (h r (by simp)) (by omega) (by omega) (by omega)),zk7 rules l (acc++[r]) (at_+1) R (fun x hx=>h x (by simp[hx])) (by omega) (by rw[List.length_append,List.length_singleton];omega) (by omega),List.append_assoc,List.singleton_append,show at_+1+l.length=at_+(r::l).length by rw[List.length_cons];omega]
theorem zk6 (rules:List zz)(ns:List zl):∀(l acc:List zA) (at_:Nat),(∀x∈l,jJ x)→(yb (l.map yB)).length≤50000000→acc.length+l.length≤50000000→at_+l.length≤50000000→
  loop jT (⟨yb (l.map yB)⟩,rules,(at_:Int),⟨ns,acc⟩)=some (Res.nx (rules,⟨ns,acc++l⟩))
 | [],acc,at_,_,_,_,_=>by
  rw[List.append_nil]
  refine QI ?_
  unfold jT
  rw[show(⟨yb (([]:List zA).map yB)⟩:Str)=Str.nil from rfl,decide_eq_true rfl,Bool.not_true,cond_false]
 | r::l,acc,at_,h,h1,h2,h3=>by
  have e:yb ((r::l).map yB)=yB r++10::(yb (l.map yB)):=by rw[List.map_cons,yb]
  rw[e]at h1
  have h1':=zaQ h1
  simp only[List.length_cons]at h2 h3
  rw[e,zaT (zvc (h r (by simp)) (by omega) (by omega) (by omega)),zk6 rules ns l (acc++[r]) (at_+1) (fun x hx=>h x (by simp[hx])) (by omega) (by rw[List.length_append,List.length_singleton];omega) (by omega),List.append_assoc,List.singleton_append]
theorem zoe {d:Doc}{l:List zz}(h:zbC d l)(hc:jE d=some 0)(hr:vt l=0)(hl:(qr d l).length≤1048576):zbK ⟨qr d l⟩=some (d,l,0,0):=by
 have a1:=h.rl
 have a2:=h.nl
 have a3:=h.el
 have hp:loop jT (⟨qr d l⟩,([]:List zz),0,(⟨([]:List zl),([]:List zA)⟩:Doc))=some (Res.nx (l,d)):=by
  have e:qr d l=yb (l.map yD)++(yb (d.Nodes.map yH)++yb (d.Edges.map yB)):=rfl
  have h1:(yb (l.map yD)++(yb (d.Nodes.map yH)++yb (d.Edges.map yB))).length≤1048576:=hl
  have h2:(yb (d.Nodes.map yH)++yb (d.Edges.map yB)).length≤1048576:=by rw[List.length_append]at h1;omega
  have h3:(yb (d.Edges.map yB)).length≤1048576:=by rw[List.length_append]at h2;omega
  have s1:=zk8 l [] 0 (yb (d.Nodes.map yH)++yb (d.Edges.map yB)) h.rule (by omega) (by simp;omega) (by omega)
  have s2:=zk7 l d.Nodes [] (0+l.length) (yb (d.Edges.map yB)) h.node (by omega) (by simp;omega) (by omega)
  have s3:=zk6 l d.Nodes d.Edges [] (0+l.length+d.Nodes.length) h.edge (by omega) (by simp;omega) (by omega)
  rw[List.nil_append]at s1 s2 s3
  rw[e]
  exact(s1.trans s2).trans s3
 unfold zbK
 rw[zw,decide_eq_false (show ¬(1048576:Int)<(((qr d l).length:Nat):Int)by omega),cond_false,hp,yy]
 cases d with
 | mk ns es=>
  simp only
  rw[hc,Option.bind_some,zc6,hr]
  simp only[decide_true,Bool.not_true,cond_false,Option.bind_some]
  rw[zw]
theorem zcK {n:Nat}{O:Type}{step:Int→Unit→Option (Res Unit O)}{fin:Unit→O}(hn:n≤1000000)(h:∀i:Nat,i<n→step (i:Int) ()=some (Res.nx ())):z7 (n:Int) step fin ()=some (fin ()):=by
 obtain⟨e,h1,h2⟩:=J4 (n:=(n:Int)) (step:=step) (fin:=fin) (s0:=()) (fun _ _=>True) (fun e=>e=fin ()) (by omega) trivial (fun i s hi _=>.inl ⟨(),h i (by omega),trivial⟩) (fun s _=>rfl)
 rw[h1,h2]
structure Plain (d:Doc):Prop where
 nl:d.Nodes.length≤500
 el:d.Edges.length≤1000
 node:∀(i:Nat) (h:i<d.Nodes.length),vQ d.Nodes[i] (decide (d.Nodes[i].Id∈(d.Nodes.take i).map (·.Id)))=0
 par:∀n∈d.Nodes,n.Parent=Str.nil
 kind:∀n∈d.Nodes,n.Kind≠6
 edge:∀(i:Nat) (h:i<d.Edges.length),Qd d.Nodes d.Edges[i] (decide (d.Edges[i].Id∈d.Nodes.map (·.Id)++(d.Edges.take i).map (·.Id)))=0
theorem Plain.check {d:Doc}(h:Plain d):jE d=some 0:=by
 obtain⟨hl,hel,hnode,hpar,hkind,hedge⟩:=h
 unfold jE
 have:(decide (500<(d.Nodes.length:Int)) || decide (1000<(d.Edges.length:Int)))=false:=by simp;omega
 rw[this,cond_false,zw]
 let nE:Nat→Int:=fun i=>vQ (gx d.Nodes (i:Int)) (decide ((gx d.Nodes (i:Int)).Id∈(d.Nodes.take i).map (·.Id)))
 have k0:(GMap.nil:GMap Str Bool)=knM ((d.Nodes.take 0).map (·.Id)):=by simp[knM,GMap.nil]
 rw[k0]
 have p1:=vz (n:=d.Nodes.length) (step:=za1 d) (fin:=fun s=>(Res.nx s:Res (GMap Str Bool) Int)) (fun k=>knM ((d.Nodes.take k).map (·.Id))) nE (fun e=>Res.ab e) (by omega) (fun i hi _=>by
  unfold za1
  rw[zf ⟨by omega,by omega⟩,zw,zeh,ziV,Option.bind_some]
  show(bif !decide (nE i=0)then _ else _)=_
  by_cases h:nE i=0
  ·
   rw[decide_eq_true h,if_pos h,zei,List.take_succ_eq_append_getElem hi,List.map_append,zL hi];rfl
  ·
   rw[decide_eq_false h,if_neg h];rfl)
 have h1:zK ((List.range d.Nodes.length).map nE)=0:=yU.2 fun e he=>by
  obtain⟨i,hi,rfl⟩:=List.mem_map.1 he
  have hi':=List.mem_range.1 hi
  show vQ (gx d.Nodes (i:Int)) (decide ((gx d.Nodes (i:Int)).Id∈(d.Nodes.take i).map (·.Id)))=0
  rw[zL hi'];exact hnode i hi'
 rw[p1,if_pos h1,yy,List.take_length]
 have hd:(d.Nodes.map (·.Id)).Nodup:=zgW fun i h=>of_decide_eq_false (zaY (hnode i h)).2.1
 have ha:∀n∈d.Nodes,Ym (yA d) n=some (0,true):=fun n hn=>by
  unfold Ym
  rw[QI (e:=Res.nx 0) (by unfold zcx;simp only;rw[decide_eq_true (hpar n hn)];rfl),yy]
 have hg:Y7 (yA d)=some 0:=by
  unfold Y7
  have hv:(yA d).d=d:=rfl
  rw[hv,zcK (by omega) (fun i hi=>by
   have hin:inR d.Nodes (i:Int):=⟨by omega,by omega⟩
   unfold zcA
   rw[hv,zf hin,zw,hpar _ (qZ hin),decide_eq_true rfl,Bool.not_true,zf (fun h=>by cases h),Bool.false_and,cond_false]),yy,
   zcK (by omega) (fun i hi=>by
   have hin:inR d.Nodes (i:Int):=⟨by omega,by omega⟩
   unfold zcB
   rw[hv,zf hin,zw,ha _ (qZ hin),Option.bind_some];rfl),yy,
   zcK (by omega) (fun i hi=>by
   have hin:inR d.Nodes (i:Int):=⟨by omega,by omega⟩
   unfold zcC
   rw[hv,zf hin,zw,ha _ (qZ hin),Option.bind_some];rfl),yy,
   zcK (by omega) (fun i hi=>by
   have hin:inR d.Nodes (i:Int):=⟨by omega,by omega⟩
   unfold zcD
   rw[hv,zf hin,zw,decide_eq_false (hkind _ (qZ hin)),Bool.false_and,cond_false]),yy]
 rw[znE hl hd,Option.bind_some,Option.bind_some,hg,Option.bind_some,decide_eq_true rfl,Bool.not_true,cond_false]
 let eE:Nat→Int:=fun i=>Qd d.Nodes (gx d.Edges (i:Int)) (decide ((gx d.Edges (i:Int)).Id∈d.Nodes.map (·.Id)++(d.Edges.take i).map (·.Id)))
 have k1:knM (d.Nodes.map (·.Id))=knM (d.Nodes.map (·.Id)++(d.Edges.take 0).map (·.Id)):=by simp
 rw[k1]
 have p2:=vz (n:=d.Edges.length) (step:=za2 d (yA d)) (fin:=fun s=>(Res.nx s:Res (GMap Str Bool) Int)) (fun k=>knM (d.Nodes.map (·.Id)++(d.Edges.take k).map (·.Id))) eE (fun e=>Res.ab e) (by omega) (fun i hi _=>by
  unfold za2
  rw[zf ⟨by omega,by omega⟩,zw,zeh,ziU,Option.bind_some]
  show(bif !decide (eE i=0)then _ else _)=_
  by_cases h:eE i=0
  ·
   rw[decide_eq_true h,if_pos h,zei,List.take_succ_eq_append_getElem hi,List.map_append,zL hi,List.append_assoc];rfl
  ·
   rw[decide_eq_false h,if_neg h];rfl)
 have h2:zK ((List.range d.Edges.length).map eE)=0:=yU.2 fun e he=>by
  obtain⟨i,hi,rfl⟩:=List.mem_map.1 he
  have hi':=List.mem_range.1 hi
  show Qd d.Nodes (gx d.Edges (i:Int)) (decide ((gx d.Edges (i:Int)).Id∈d.Nodes.map (·.Id)++(d.Edges.take i).map (·.Id)))=0
  rw[zL hi'];exact hedge i hi'
 rw[p2,if_pos h2,yy,zcK (by omega) (fun i hi=>by
  have hin:inR d.Nodes (i:Int):=⟨by omega,by omega⟩
  have hb:JZ (yA d) (i:Int)=some ((gx d.Nodes (i:Int)).Box,0):=by
   unfold JZ
   refine zgi 1 fun N hN=>?_
   obtain⟨N,rfl⟩:∃q,N=q+1:=⟨N - 1,by omega⟩
   show vp (jW vp N) (yA d,(i:Int))=_
   unfold vp
   have hv:(yA d).d=d:=rfl
   simp only
   rw[hv,zw,zf hin,zw,decide_eq_false (hkind _ (qZ hin)),Bool.not_false,cond_true]
  unfold zcu
  rw[hb,Option.bind_some];rfl),yy]
theorem jk.plain {d:Doc}(h:jk d)(hk:∀n∈d.Nodes,n.Kind≠6):Plain d:=by
 refine⟨h.nl,h.el,h.node,fun n hn=>?_,hk,h.edge⟩
 refine Classical.byContradiction fun hp=>?_
 obtain⟨g,hg,h1,h2⟩:=h.tree n hn hp
 have hm:par d.Nodes n∈d.Nodes:=by
  unfold par
  exact qZ (Y4 ⟨g,hg,h1⟩).1
 exact hk _ hm h2
theorem Plain.nodes {d:Doc}(h:Plain d)(k:Nat):Plain ⟨d.Nodes.take k,[]⟩:=by
 have hl:=h.nl
 refine⟨by show(d.Nodes.take k).length≤500;rw[List.length_take];omega,by show 0≤1000;omega,fun i hi=>?_,fun n hn=>h.par n (List.mem_of_mem_take hn),fun n hn=>h.kind n (List.mem_of_mem_take hn),fun i hi=>by cases hi⟩
 have hi1:i<(d.Nodes.take k).length:=hi
 rw[List.length_take]at hi1
 have hi':i<d.Nodes.length:=by omega
 have e1:(d.Nodes.take k)[i]'hi=d.Nodes[i]:=by rw[List.getElem_take]
 have e2:(d.Nodes.take k).take i=d.Nodes.take i:=by rw[List.take_take,Nat.min_eq_left (by omega)]
 show vQ ((d.Nodes.take k)[i]'hi) (decide (((d.Nodes.take k)[i]'hi).Id∈((d.Nodes.take k).take i).map (·.Id)))=0
 rw[e1,e2]
 exact h.node i hi'
theorem Plain.edges {d:Doc}(h:Plain d)(k:Nat):Plain ⟨d.Nodes,d.Edges.take k⟩:=by
 have hl:=h.el
 refine⟨h.nl,by show(d.Edges.take k).length≤1000;rw[List.length_take];omega,h.node,h.par,h.kind,fun i hi=>?_⟩
 have hi1:i<(d.Edges.take k).length:=hi
 rw[List.length_take]at hi1
 have hi':i<d.Edges.length:=by omega
 have e1:(d.Edges.take k)[i]'hi=d.Edges[i]:=by rw[List.getElem_take]
 have e2:(d.Edges.take k).take i=d.Edges.take i:=by rw[List.take_take,Nat.min_eq_left (by omega)]
 show Qd d.Nodes ((d.Edges.take k)[i]'hi) (decide (((d.Edges.take k)[i]'hi).Id∈d.Nodes.map (·.Id)++((d.Edges.take k).take i).map (·.Id)))=0
 rw[e1,e2]
 exact h.edge i hi'
end Go.DB
