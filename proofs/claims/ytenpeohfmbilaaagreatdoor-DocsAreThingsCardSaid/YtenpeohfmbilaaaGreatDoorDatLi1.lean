/- A part of the proof. -/
import Derived.Test.YtenpeohfmbilaaaGreatDoorDatTy
set_option maxRecDepth 100000
set_option linter.unusedVariables false
namespace Go.DB
open Go Go.RowKit
noncomputable def utf8_ValidString (s:Str):Option Bool:=some (YA s)
noncomputable def strconv_Itoa (n:Int):Option Str:=need ((yC n).b.length≤1000000) (some (yC n))
noncomputable def QC (s:Str):Option (Int×Q0):=need (s.b.length≤4294967281) (some (qE s))
noncomputable def strings_Split (s sep:Str):Option (List Str):=need ((s.b.length:Int)<4294967281∧sep.b≠[]) (some (zae s sep))
noncomputable def vU (s:Str):Option (List Str):=need (s.b.length≤1000000000) (some (j9 s))
noncomputable def zaf (s cs:Str):Option Str:=need ((cs.b.length:Int)<4294967281∧cs.b.all (fun b=>decide (b.toNat<128))=true) (some (trimS s cs))
noncomputable def strings_Compare (s sep:Str):Option Int:=some (zgn s sep)
noncomputable def strings_Join (l:List Str)(sep:Str):Option Str:=need (l.length≤1000000000∧(zaV l sep).b.length≤1000000000) (some (zaV l sep))
noncomputable def zc5 (m1:zh)(c0_1:zh):Option Bool:=
 some (decide (m1.Id=c0_1.Id))
noncomputable def zhS (f1:(zh→Option Bool))(s1:(List zh))(i:Int)(s:Unit):Option (Res Unit (Res Unit Int)):=
 need (inR s1 i) <|
 Option.bind (f1 (gx s1 i)) fun r1=>
 bif r1 then(
  some (Res.ab (Res.ab i)))
 else(
  some (Res.nx ()))
noncomputable def zbw (s1:(List zh))(f1:(zh→Option Bool)):Option Int:=
 ye (σ:=Unit) (ρ:=Int) (
  zZ (s1.length:Int) (zhS f1 s1) (fun s=>Res.nx s) ()) fun j_1=>
 some (-1)
noncomputable def zdd (s1:(List zh))(f1:(zh→Option Bool)):Option Bool:=
 Option.bind (zbw s1 f1) fun r1=>
 some (decide (0≤r1))
noncomputable def zfj (s1:Str)(i:Int)(s:Unit):Option (Res Unit (Res Unit Bool)):=
 need (inR s1.b i) <|
 bnd ((⟨((gx s1.b i).toNat:Int)⟩:KI .u8)) fun c1=>
 bif(!((decide ((⟨97⟩:KI .u8).n≤c1.n))&&(decide (c1.n≤(⟨122⟩:KI .u8).n))))&&((decide (i=0)) || ((!((decide ((⟨48⟩:KI .u8).n≤c1.n))&&(decide (c1.n≤(⟨57⟩:KI .u8).n))))&&(!decide (c1.n=(⟨45⟩:KI .u8).n))))then(
  some (Res.ab (Res.ab false)))
 else(
  some (Res.nx ()))
noncomputable def QR (s1:Str):Option Bool:=
 ye (σ:=Unit) (ρ:=Bool) (
  zZ (s1.b.length:Int) (zfj s1) (fun s=>Res.nx s) ()) fun j_1=>
 some ((!decide (s1=Str.nil))&&(decide ((s1.b.length:Int)≤40)))
noncomputable def qF (is1:Bool)(e1:Int):Option Int:=
 bif is1 then(
  some e1)
 else(
  some 0)
noncomputable def vz (n1:Int)(low1:Int)(high1:Int):Option Bool:=
 some ((decide (low1≤n1))&&(decide (n1≤high1)))
noncomputable def zhv (l1:(List Int))(i:Int)(s:Unit):Option (Res Unit (Res Unit Int)):=
 need (inR l1 i) <|
 bnd (gx l1 i) fun e1=>
 bif !decide (e1=0)then(
  some (Res.ab (Res.ab e1)))
 else(
  some (Res.nx ()))
noncomputable def jU (l1:(List Int)):Option Int:=
 ye (σ:=Unit) (ρ:=Int) (
  zZ (l1.length:Int) (zhv l1) (fun s=>Res.nx s) ()) fun j_1=>
 some 0
noncomputable def zbe (p1:zz):Option Int:=
 Option.bind (vz p1.X (-1000000) 1000000) fun r1=>
 Option.bind (gd (!(!r1)) (vz p1.Y (-1000000) 1000000)) fun r2=>
 Option.bind (qF ((!r1) || (!r2)) 3) fun r3=>
 some r3
noncomputable def Y9 (b1:Box):Option Int:=
 Option.bind (zbe (⟨b1.X,b1.Y⟩:zz)) fun r1=>
 Option.bind (vz b1.W_ 1 20000) fun r2=>
 Option.bind (gd (!(!r2)) (vz b1.H 1 20000)) fun r3=>
 Option.bind (qF ((!r2) || (!r3)) 3) fun r4=>
 Option.bind (jU [r1,r4]) fun r5=>
 some r5
noncomputable def zhx (s1:Str)(i:Int)(s:Bool):Option Bool:=
 need (s=false→inR s1.b i) <|
 need (s=false→(decide ((⟨((gx s1.b i).toNat:Int)⟩:KI .u8).n<(⟨32⟩:KI .u8).n))=true→inR s1.b i) <|
 need ((s || ((decide ((⟨((gx s1.b i).toNat:Int)⟩:KI .u8).n<(⟨32⟩:KI .u8).n))&&(!decide ((⟨((gx s1.b i).toNat:Int)⟩:KI .u8).n=(⟨10⟩:KI .u8).n))))=false→inR s1.b i) <|
 bnd ((s || ((decide ((⟨((gx s1.b i).toNat:Int)⟩:KI .u8).n<(⟨32⟩:KI .u8).n))&&(!decide ((⟨((gx s1.b i).toNat:Int)⟩:KI .u8).n=(⟨10⟩:KI .u8).n)))) || (decide ((⟨((gx s1.b i).toNat:Int)⟩:KI .u8).n=(⟨127⟩:KI .u8).n))) fun bad2=>
 some bad2
noncomputable def Jf (s1:Str):Option Int:=
 Option.bind (utf8_ValidString s1) fun r1=>
 bnd (!r1) fun bad1=>
 Option.bind (α:=Bool) (
  y7 (s1.b.length:Int) (zhx s1) bad1) fun j_3=>
 Option.bind (qF (decide (1000<(s1.b.length:Int))) 4) fun r2=>
 Option.bind (qF j_3 2) fun r3=>
 Option.bind (jU [r2,r3]) fun r4=>
 some r4
noncomputable def J3 (s1:Str):Option Int:=
 Option.bind (gd ((!decide (s1=Str.nil))) (QR s1)) fun r1=>
 Option.bind (qF ((!decide (s1=Str.nil))&&(!r1)) 5) fun r2=>
 some r2
noncomputable def zc4 (d1:Doc)(i1:Int):Option Int:=
 need (inR d1.Nodes i1) <|
 bnd (gx d1.Nodes i1) fun v1=>
 need (J8 d1.Nodes.length 0 i1) <|
 Option.bind (zdd (seg d1.Nodes 0 i1) (fun x0=>zc5 x0 v1)) fun twice1=>
 Option.bind (QR v1.Id) fun r1=>
 Option.bind (qF (!r1) 5) fun r2=>
 Option.bind (qF twice1 6) fun r3=>
 Option.bind (vz v1.Kind 1 6) fun r4=>
 Option.bind (qF (!r4) 1) fun r5=>
 Option.bind (jU [r2,r3,r5]) fun e1=>
 bif !decide (e1=0)then(
  some e1)
 else(
  Option.bind (qF (!decide (v1.Box=(⟨(0:Int),(0:Int),(0:Int),(0:Int)⟩:Box))) 2) fun box1=>
  Option.bind (α:=Int) (
   bif !decide (v1.Kind=6)then(
    Option.bind (Y9 v1.Box) fun box2=>
    some box2)
   else(
    some box1)) fun j_13=>
  Option.bind (Jf v1.Text) fun r6=>
  Option.bind (J3 v1.Class) fun r7=>
  Option.bind (jU [j_13,r6,r7]) fun r8=>
  some r8)
noncomputable def zcR (n1:zh)(c0_1:Str):Option Bool:=
 some (decide (n1.Id=c0_1))
noncomputable def Yu (d1:Doc)(id1:Str):Option Int:=
 Option.bind (zbw d1.Nodes (fun x0=>zcR x0 id1)) fun r1=>
 some r1
noncomputable def zfn (d1:Doc)(n1:zh)(s2_:(Int×Str)):Option (zL (Int×Str) (Res Int (Int×Bool))):=
 bif !decide (s2_.2=Str.nil)then(
  bnd (W (s2_.1+1)) fun many1=>
  bif(decide (s2_.2=n1.Id)) || (decide ((d1.Nodes.length:Int)<many1))then(
   some (zL.done (Res.ab (many1,decide (s2_.2=n1.Id)))))
  else(
   Option.bind (Yu d1 s2_.2) fun r1=>
   need (inR d1.Nodes r1) <|
   bnd ((gx d1.Nodes r1).Parent) fun id1=>
   some (zL.again (many1,id1))))
 else(
  some (zL.done (Res.nx s2_.1)))
noncomputable def Yv (d1:Doc)(n1:zh):Option (Int×Bool):=
 ye (σ:=Int) (ρ:=(Int×Bool)) (
  loop (zfn d1 n1) (0,n1.Parent)) fun j_1=>
 some (j_1,false)
noncomputable def zhA (d1:Doc)(id1:Str)(i:Int)(s:(List zh)):Option (List zh):=
 need (inR d1.Nodes i) <|
 bnd (gx d1.Nodes i) fun v1=>
 bif decide (v1.Parent=id1)then(
  need (qX (s.length+[v1].length)) <|
  some (s++[v1]))
 else(
  some s)
noncomputable def zbl (d1:Doc)(id1:Str):Option (List zh):=
 Option.bind (α:=(List zh)) (
  y7 (d1.Nodes.length:Int) (zhA d1 id1) ([]:List zh)) fun j_1=>
 some j_1
noncomputable def zfs (d1:Doc)(i:Int)(s:Unit):Option (Res Unit (Res Unit Int)):=
 need (inR d1.Nodes i) <|
 bnd (gx d1.Nodes i) fun v1=>
 Option.bind (Yu d1 v1.Parent) fun k1=>
 need ((!decide (v1.Parent=Str.nil))=true→(decide (k1<0))=false→inR d1.Nodes k1) <|
 bif(!decide (v1.Parent=Str.nil))&&((decide (k1<0)) || (!decide (((gx d1.Nodes k1).Kind)=6)))then(
  some (Res.ab (Res.ab 10)))
 else(
  some (Res.nx ()))
noncomputable def zft (d1:Doc)(i:Int)(s:Unit):Option (Res Unit (Res Unit Int)):=
 need (inR d1.Nodes i) <|
 bnd (gx d1.Nodes i) fun v2=>
 Option.bind (Yv d1 v2) fun r1=>
 bif r1.2 then(
  some (Res.ab (Res.ab 13)))
 else(
  some (Res.nx ()))
noncomputable def zfu (d1:Doc)(i:Int)(s:Unit):Option (Res Unit (Res Unit Int)):=
 need (inR d1.Nodes i) <|
 bnd (gx d1.Nodes i) fun v3=>
 Option.bind (Yv d1 v3) fun r2=>
 bif decide (8<r2.1)then(
  some (Res.ab (Res.ab 4)))
 else(
  some (Res.nx ()))
noncomputable def zfv (d1:Doc)(i:Int)(s:Unit):Option (Res Unit (Res Unit Int)):=
 need (inR d1.Nodes i) <|
 bnd (gx d1.Nodes i) fun v4=>
 Option.bind (gd ((decide (v4.Kind=6))) (zbl d1 v4.Id)) fun r3=>
 bif(decide (v4.Kind=6))&&(decide ((r3.length:Int)=0))then(
  some (Res.ab (Res.ab 9)))
 else(
  some (Res.nx ()))
noncomputable def zbm (d1:Doc):Option Int:=
 ye (σ:=Unit) (ρ:=Int) (
  zZ (d1.Nodes.length:Int) (zfs d1) (fun s=>Res.nx s) ()) fun j_1=>
 ye (σ:=Unit) (ρ:=Int) (
  zZ (d1.Nodes.length:Int) (zft d1) (fun s=>Res.nx s) ()) fun j_10=>
 ye (σ:=Unit) (ρ:=Int) (
  zZ (d1.Nodes.length:Int) (zfu d1) (fun s=>Res.nx s) ()) fun j_18=>
 ye (σ:=Unit) (ρ:=Int) (
  zZ (d1.Nodes.length:Int) (zfv d1) (fun s=>Res.nx s) ()) fun j_26=>
 some 0
noncomputable def zc1 (y1:zu)(c0_1:zu):Option Bool:=
 some (decide (y1.Id=c0_1.Id))
noncomputable def zhR (f1:(zu→Option Bool))(s1:(List zu))(i:Int)(s:Unit):Option (Res Unit (Res Unit Int)):=
 need (inR s1 i) <|
 Option.bind (f1 (gx s1 i)) fun r1=>
 bif r1 then(
  some (Res.ab (Res.ab i)))
 else(
  some (Res.nx ()))
noncomputable def zdi (s1:(List zu))(f1:(zu→Option Bool)):Option Int:=
 ye (σ:=Unit) (ρ:=Int) (
  zZ (s1.length:Int) (zhR f1 s1) (fun s=>Res.nx s) ()) fun j_1=>
 some (-1)
noncomputable def zdc (s1:(List zu))(f1:(zu→Option Bool)):Option Bool:=
 Option.bind (zdi s1 f1) fun r1=>
 some (decide (0≤r1))
noncomputable def zcU (side1:Int)(at1:Int):Option Int:=
 Option.bind (vz side1 1 4) fun r1=>
 Option.bind (gd (!(!r1)) (vz at1 0 1000)) fun r2=>
 Option.bind (qF ((!r1) || (!r2)) 3) fun r3=>
 some r3
noncomputable def zhw (l1:(List zz))(i:Int)(s:Unit):Option (Res Unit (Res Unit Int)):=
 need (inR l1 i) <|
 bnd (gx l1 i) fun v1=>
 Option.bind (zbe v1) fun e1=>
 bif !decide (e1=0)then(
  some (Res.ab (Res.ab e1)))
 else(
  some (Res.nx ()))
noncomputable def zbf (l1:(List zz)):Option Int:=
 bif decide (1000<(l1.length:Int))then(
  some 4)
 else(
  ye (σ:=Unit) (ρ:=Int) (
   zZ (l1.length:Int) (zhw l1) (fun s=>Res.nx s) ()) fun j_2=>
  some 0)
noncomputable def zfo (d1:Doc)(v2:(List zO))(i:Int)(s:Unit):Option (Res Unit (Res Unit Int)):=
 need (inR v2 i) <|
 bnd (gx v2 i) fun v3=>
 Option.bind (Yu d1 v3.Node) fun k1=>
 bif decide (k1<0)then(
  some (Res.ab (Res.ab 10)))
 else(
  need (inR d1.Nodes k1) <|
  Option.bind (qF (decide (((gx d1.Nodes k1).Kind)=6)) 1) fun r6=>
  Option.bind (zcU v3.Side v3.At) fun r7=>
  Option.bind (jU [r6,r7]) fun e2=>
  bif !decide (e2=0)then(
   some (Res.ab (Res.ab e2)))
  else(
   some (Res.nx ())))
noncomputable def zc0 (d1:Doc)(i1:Int):Option Int:=
 need (inR d1.Edges i1) <|
 bnd (gx d1.Edges i1) fun v1=>
 Option.bind (Yu d1 v1.Id) fun r1=>
 need ((decide (0≤r1))=false→J8 d1.Edges.length 0 i1) <|
 Option.bind (gd (!(decide (0≤r1))) (zdc (seg d1.Edges 0 i1) (fun x0=>zc1 x0 v1))) fun r2=>
 Option.bind (QR v1.Id) fun r3=>
 Option.bind (qF (!r3) 5) fun r4=>
 Option.bind (qF ((decide (0≤r1)) || r2) 6) fun r5=>
 Option.bind (jU [r4,r5]) fun e1=>
 bif !decide (e1=0)then(
  some e1)
 else(
  bnd ([v1.From,v1.To]) fun v2=>
  ye (σ:=Unit) (ρ:=Int) (
   zZ (v2.length:Int) (zfo d1 v2) (fun s=>Res.nx s) ()) fun j_12=>
  bif decide (50<(v1.Bends.length:Int))then(
   some 4)
  else(
   Option.bind (zbf v1.Bends) fun r8=>
   Option.bind (Jf v1.Text) fun r9=>
   Option.bind (J3 v1.Class) fun r10=>
   Option.bind (jU [r8,r9,r10]) fun r11=>
   some r11))
noncomputable def zfg (l1:(List Box))(i:Int)(s:(Int×Int×Int×Int)):Option (Int×Int×Int×Int):=
 need (inR l1 i) <|
 bnd (gx l1 i) fun v3=>
 bnd (min s.1 v3.X) fun x2=>
 bnd (min s.2.1 v3.Y) fun y2=>
 bnd (max s.2.2.1 (W (v3.X+v3.W_))) fun r2=>
 bnd (max s.2.2.2 (W (v3.Y+v3.H))) fun d2=>
 some (x2,y2,r2,d2)
noncomputable def zbc (l1:(List Box)):Option (Box×Int):=
 bnd ((⟨(0:Int),(0:Int),(0:Int),(0:Int)⟩:Box)) fun v1=>
 bif decide ((l1.length:Int)=0)then(
  bnd ((⟨(0:Int),(0:Int),(0:Int),(0:Int)⟩:Box)) fun v2=>
  some (v2,9))
 else(
  need (inR l1 0) <|
  need (inR l1 0) <|
  need (inR l1 0) <|
  need (inR l1 0) <|
  bnd ((gx l1 0).X) fun x1=>
  bnd ((gx l1 0).Y) fun y1=>
  bnd ((gx l1 0).X) fun r1=>
  bnd ((gx l1 0).Y) fun d1=>
  Option.bind (α:=(Int×Int×Int×Int)) (
   y7 (l1.length:Int) (zfg l1) (x1,y1,r1,d1)) fun j_12=>
  bif(decide (20000<(W (j_12.2.2.1 - j_12.1)))) || (decide (20000<(W (j_12.2.2.2 - j_12.2.1))))then(
   bnd ((⟨(0:Int),(0:Int),(0:Int),(0:Int)⟩:Box)) fun v4=>
   some (v4,4))
  else(
   bnd ((⟨j_12.1,j_12.2.1,W (j_12.2.2.1 - j_12.1),W (j_12.2.2.2 - j_12.2.1)⟩:Box)) fun v5=>
   some (v5,0)))
noncomputable def zba (self:(Doc×Str)→Option (Box×Int))(x:(Doc×Str))(r2:(List zh))(i:Int)(s:(List Box)):Option (Res (List Box) (Res (List Box) (Box×Int))):=
 need (inR r2 i) <|
 bnd (gx r2 i) fun v3=>
 Option.bind (self (x.1,v3.Id)) fun r3=>
 bif !decide (r3.2=0)then(
  bnd ((⟨(0:Int),(0:Int),(0:Int),(0:Int)⟩:Box)) fun v4=>
  some (Res.ab (Res.ab (v4,r3.2))))
 else(
  need (qX (s.length+[r3.1].length)) <|
  some (Res.nx (s++[r3.1])))
noncomputable def QA (self:(Doc×Str)→Option (Box×Int))(x:(Doc×Str)):Option (Box×Int):=
 bnd ((⟨(0:Int),(0:Int),(0:Int),(0:Int)⟩:Box)) fun v1=>
 Option.bind (Yu x.1 x.2) fun r1=>
 need (inR x.1.Nodes r1) <|
 bnd (gx x.1.Nodes r1) fun v2=>
 bif !decide (v2.Kind=6)then(
  some (v2.Box,0))
 else(
  Option.bind (zbl x.1 x.2) fun r2=>
  ye (σ:=(List Box)) (ρ:=(Box×Int)) (
   zZ (r2.length:Int) (zba self x r2) (fun s=>Res.nx s) ([]:List Box)) fun j_7=>
  Option.bind (zbc j_7) fun r4=>
  bif !decide (r4.2=0)then(
   bnd ((⟨(0:Int),(0:Int),(0:Int),(0:Int)⟩:Box)) fun v5=>
   some (v5,r4.2))
  else(
   bnd ((⟨W (r4.1.X - 10),W (r4.1.Y - 10),W (r4.1.W_+20),W (r4.1.H+20)⟩:Box)) fun v6=>
   Option.bind (Y9 v6) fun r5=>
   some (v6,r5)))
noncomputable def zcK (d1:Doc)(id1:Str):Option (Box×Int):=JI QA (d1,id1)
noncomputable def zfc (d1:Doc)(i:Int)(s:Unit):Option (Res Unit (Res Unit Int)):=
 Option.bind (zc4 d1 i) fun e1=>
 bif !decide (e1=0)then(
  some (Res.ab (Res.ab e1)))
 else(
  some (Res.nx ()))
noncomputable def zfd (d1:Doc)(i:Int)(s:Unit):Option (Res Unit (Res Unit Int)):=
 Option.bind (zc0 d1 i) fun e3=>
 bif !decide (e3=0)then(
  some (Res.ab (Res.ab e3)))
 else(
  some (Res.nx ()))
noncomputable def zfe (d1:Doc)(i:Int)(s:Unit):Option (Res Unit (Res Unit Int)):=
 need (inR d1.Nodes i) <|
 bnd (gx d1.Nodes i) fun v1=>
 Option.bind (zcK d1 v1.Id) fun r1=>
 bif !decide (r1.2=0)then(
  some (Res.ab (Res.ab r1.2)))
 else(
  some (Res.nx ()))
noncomputable def Ja (d1:Doc):Option Int:=
 bif(decide (500<(d1.Nodes.length:Int))) || (decide (1000<(d1.Edges.length:Int)))then(
  some 4)
 else(
  ye (σ:=Unit) (ρ:=Int) (
   zZ (d1.Nodes.length:Int) (zfc d1) (fun s=>Res.nx s) ()) fun j_2=>
  Option.bind (zbm d1) fun e2=>
  bif !decide (e2=0)then(
   some e2)
  else(
   ye (σ:=Unit) (ρ:=Int) (
    zZ (d1.Edges.length:Int) (zfd d1) (fun s=>Res.nx s) ()) fun j_10=>
   ye (σ:=Unit) (ρ:=Int) (
    zZ (d1.Nodes.length:Int) (zfe d1) (fun s=>Res.nx s) ()) fun j_16=>
   some 0))
noncomputable def QP (s1:Str):Option Bool:=
 need (((!decide (s1=Str.nil))&&(decide ((s1.b.length:Int)≤40)))=true→inR s1.b 0) <|
 need (((!decide (s1=Str.nil))&&(decide ((s1.b.length:Int)≤40)))=true→(decide ((⟨97⟩:KI .u8).n≤(⟨((gx s1.b 0).toNat:Int)⟩:KI .u8).n))=true→inR s1.b 0) <|
 Option.bind (gd ((((!decide (s1=Str.nil))&&(decide ((s1.b.length:Int)≤40)))&&((decide ((⟨97⟩:KI .u8).n≤(⟨((gx s1.b 0).toNat:Int)⟩:KI .u8).n))&&(decide ((⟨((gx s1.b 0).toNat:Int)⟩:KI .u8).n≤(⟨122⟩:KI .u8).n))))) (zaf s1 (⟨[97,98,99,100,101,102,103,104,105,106,107,108,109,110,111,112,113,114,115,116,117,118,119,120,121,122,48,49,50,51,52,53,54,55,56,57,45]⟩:Str))) fun r1=>
 some ((((!decide (s1=Str.nil))&&(decide ((s1.b.length:Int)≤40)))&&((decide ((⟨97⟩:KI .u8).n≤(⟨((gx s1.b 0).toNat:Int)⟩:KI .u8).n))&&(decide ((⟨((gx s1.b 0).toNat:Int)⟩:KI .u8).n≤(⟨122⟩:KI .u8).n))))&&(decide (r1=Str.nil)))
noncomputable def YS (n1:Int):Option Bool:=
 some ((decide (n1<(-1000000))) || (decide (1000000<n1)))
noncomputable def YR (b1:Box):Option Int:=
 Option.bind (YS b1.X) fun r1=>
 Option.bind (gd (!r1) (YS b1.Y)) fun r2=>
 bif((((r1 || r2) || (decide (b1.W_<1))) || (decide (20000<b1.W_))) || (decide (b1.H<1))) || (decide (20000<b1.H))then(
  some 3)
 else(
  some 0)
noncomputable def zhL (s1:Str)(i:Int)(s:Unit):Option (Res Unit (Res Unit Int)):=
 need (inR s1.b i) <|
 need ((decide ((⟨((gx s1.b i).toNat:Int)⟩:KI .u8).n<(⟨32⟩:KI .u8).n))=true→inR s1.b i) <|
 need (((decide ((⟨((gx s1.b i).toNat:Int)⟩:KI .u8).n<(⟨32⟩:KI .u8).n))&&(!decide ((⟨((gx s1.b i).toNat:Int)⟩:KI .u8).n=(⟨10⟩:KI .u8).n)))=false→inR s1.b i) <|
 bif((decide ((⟨((gx s1.b i).toNat:Int)⟩:KI .u8).n<(⟨32⟩:KI .u8).n))&&(!decide ((⟨((gx s1.b i).toNat:Int)⟩:KI .u8).n=(⟨10⟩:KI .u8).n))) || (decide ((⟨((gx s1.b i).toNat:Int)⟩:KI .u8).n=(⟨127⟩:KI .u8).n))then(
  some (Res.ab (Res.ab 2)))
 else(
  some (Res.nx ()))
noncomputable def Yx (s1:Str):Option Int:=
 bif decide (1000<(s1.b.length:Int))then(
  some 4)
 else(
  Option.bind (utf8_ValidString s1) fun r1=>
  bif !r1 then(
   some 2)
  else(
   ye (σ:=Unit) (ρ:=Int) (
    zZ (s1.b.length:Int) (zhL s1) (fun s=>Res.nx s) ()) fun j_4=>
   some 0))
noncomputable def zcC (n1:zh)(twice1:Bool):Option Int:=
 Option.bind (QP n1.Id) fun r1=>
 bif !r1 then(
  some 5)
 else(
  bif twice1 then(
   some 6)
  else(
   bif(decide (n1.Kind<1)) || (decide (6<n1.Kind))then(
    some 1)
   else(
    bif(decide (n1.Kind=6))&&(!decide (n1.Box=(⟨(0:Int),(0:Int),(0:Int),(0:Int)⟩:Box)))then(
     some 2)
    else(
     ye (σ:=Unit) (ρ:=Int) (
      bif !decide (n1.Kind=6)then(
       Option.bind (YR n1.Box) fun e1=>
       bif !decide (e1=0)then(
        some (Res.ab e1))
       else(
        some (Res.nx ())))
      else(
       some (Res.nx ()))) fun j_6=>
     Option.bind (Yx n1.Text) fun e2=>
     bif !decide (e2=0)then(
      some e2)
     else(
      Option.bind (gd ((!decide (n1.Class=Str.nil))) (QP n1.Class)) fun r2=>
      bif(!decide (n1.Class=Str.nil))&&(!r2)then(
       some 5)
      else(
       some 0))))))
noncomputable def zeW (d1:Doc)(i:Int)(s:((GMap Str Int)×(GMap Str (List Int)))):Option ((GMap Str Int)×(GMap Str (List Int))):=
 need (inR d1.Nodes i) <|
 bnd (gx d1.Nodes i) fun v1=>
 bnd (s.1.set v1.Id i) fun c3=>
 bif !decide (v1.Parent=Str.nil)then(
  need (qX ((s.2.getD v1.Parent ([]:(List Int))).length+[i].length)) <|
  some (c3,s.2.set v1.Parent ((s.2.getD v1.Parent ([]:(List Int)))++[i])))
 else(
  some (c3,s.2))
noncomputable def zcD (d1:Doc):Option (Option yw):=
 bnd ((GMap.nil:(GMap Str Int))) fun c1=>
 bnd ((GMap.nil:(GMap Str (List Int)))) fun c2=>
 Option.bind (α:=((GMap Str Int)×(GMap Str (List Int)))) (
  y7 (d1.Nodes.length:Int) (zeW d1) (c1,c2)) fun j_3=>
 some (some (⟨d1,j_3.1,j_3.2⟩:yw))
noncomputable def zcH (v1:yw)(id1:Str):Option zh:=
 bnd ((⟨Str.nil,(0:Int),(⟨(0:Int),(0:Int),(0:Int),(0:Int)⟩:Box),Str.nil,Str.nil,Str.nil,false⟩:zh)) fun v2=>
 need (inR v1.d.Nodes (v1.number.getD id1 (0:Int))) <|
 bnd (gx v1.d.Nodes (v1.number.getD id1 (0:Int))) fun v3=>
 some v3
noncomputable def zeX (n1:zh)(v1:yw)(s2_:(Int×zh)):Option (zL (Int×zh) (Res Int (Int×Bool))):=
 bif !decide (s2_.2.Parent=Str.nil)then(
  bnd (W (s2_.1+1)) fun many1=>
  bif(decide (s2_.2.Parent=n1.Id)) || (decide ((v1.d.Nodes.length:Int)<many1))then(
   some (zL.done (Res.ab (many1,!decide (s2_.2.Parent=n1.Id)))))
  else(
   Option.bind (zcH v1 s2_.2.Parent) fun r1=>
   some (zL.again (many1,r1))))
 else(
  some (zL.done (Res.nx s2_.1)))
noncomputable def J1 (v1:yw)(n1:zh):Option (Int×Bool):=
 ye (σ:=Int) (ρ:=(Int×Bool)) (
  loop (zeX n1 v1) (0,n1)) fun j_1=>
 some (j_1,true)
noncomputable def zeY (v1:yw)(i:Int)(s:Unit):Option (Res Unit (Res Unit Int)):=
 need (inR v1.d.Nodes i) <|
 bnd (gx v1.d.Nodes i) fun v2=>
 need ((!decide (v2.Parent=Str.nil))=true→(!(v1.number.has v2.Parent))=false→inR v1.d.Nodes (v1.number.getD v2.Parent (0:Int))) <|
 bif(!decide (v2.Parent=Str.nil))&&((!(v1.number.has v2.Parent)) || (!decide (((gx v1.d.Nodes (v1.number.getD v2.Parent (0:Int))).Kind)=6)))then(
  some (Res.ab (Res.ab 10)))
 else(
  some (Res.nx ()))
noncomputable def zeZ (v1:yw)(i:Int)(s:Unit):Option (Res Unit (Res Unit Int)):=
 need (inR v1.d.Nodes i) <|
 bnd (gx v1.d.Nodes i) fun v3=>
 Option.bind (J1 v1 v3) fun r1=>
 bif !r1.2 then(
  some (Res.ab (Res.ab 13)))
 else(
  some (Res.nx ()))
noncomputable def ze0 (v1:yw)(i:Int)(s:Unit):Option (Res Unit (Res Unit Int)):=
 need (inR v1.d.Nodes i) <|
 bnd (gx v1.d.Nodes i) fun v4=>
 Option.bind (J1 v1 v4) fun r2=>
 bif decide (8<r2.1)then(
  some (Res.ab (Res.ab 4)))
 else(
  some (Res.nx ()))
noncomputable def ze1 (v1:yw)(i:Int)(s:Unit):Option (Res Unit (Res Unit Int)):=
 need (inR v1.d.Nodes i) <|
 bnd (gx v1.d.Nodes i) fun v5=>
 bif(decide (v5.Kind=6))&&(decide (((v1.members.getD v5.Id ([]:(List Int))).length:Int)=0))then(
  some (Res.ab (Res.ab 9)))
 else(
  some (Res.nx ()))
noncomputable def za8 (v1:yw):Option Int:=
 ye (σ:=Unit) (ρ:=Int) (
  zZ (v1.d.Nodes.length:Int) (zeY v1) (fun s=>Res.nx s) ()) fun j_1=>
 ye (σ:=Unit) (ρ:=Int) (
  zZ (v1.d.Nodes.length:Int) (zeZ v1) (fun s=>Res.nx s) ()) fun j_9=>
 ye (σ:=Unit) (ρ:=Int) (
  zZ (v1.d.Nodes.length:Int) (ze0 v1) (fun s=>Res.nx s) ()) fun j_17=>
 ye (σ:=Unit) (ρ:=Int) (
  zZ (v1.d.Nodes.length:Int) (ze1 v1) (fun s=>Res.nx s) ()) fun j_25=>
 some 0
noncomputable def zcG (v1:yw)(x1:zO):Option Int:=
 bif !(v1.number.has x1.Node)then(
  some 10)
 else(
  need (inR v1.d.Nodes (v1.number.getD x1.Node (0:Int))) <|
  bif decide (((gx v1.d.Nodes (v1.number.getD x1.Node (0:Int))).Kind)=6)then(
   some 1)
  else(
   bif(((decide (x1.Side<1)) || (decide (4<x1.Side))) || (decide (x1.At<0))) || (decide (1000<x1.At))then(
    some 3)
   else(
    some 0)))
noncomputable def zcd (p1:zz):Option Int:=
 Option.bind (YS p1.X) fun r1=>
 Option.bind (gd (!r1) (YS p1.Y)) fun r2=>
 bif r1 || r2 then(
  some 3)
 else(
  some 0)
noncomputable def zgV (l1:(List zz))(i:Int)(s:Unit):Option (Res Unit (Res Unit Int)):=
 need (inR l1 i) <|
 bnd (gx l1 i) fun v1=>
 Option.bind (zcd v1) fun e1=>
 bif !decide (e1=0)then(
  some (Res.ab (Res.ab e1)))
 else(
  some (Res.nx ()))
noncomputable def zcg (l1:(List zz)):Option Int:=
 ye (σ:=Unit) (ρ:=Int) (
  zZ (l1.length:Int) (zgV l1) (fun s=>Res.nx s) ()) fun j_1=>
 some 0
noncomputable def zce (l1:(List zz)):Option Int:=
 bif decide (1000<(l1.length:Int))then(
  some 4)
 else(
  Option.bind (zcg l1) fun r1=>
  some r1)
noncomputable def zhr (v1:yw)(v2:(List zO))(i:Int)(s:Unit):Option (Res Unit (Res Unit Int)):=
 need (inR v2 i) <|
 bnd (gx v2 i) fun v3=>
 Option.bind (zcG v1 v3) fun e1=>
 bif !decide (e1=0)then(
  some (Res.ab (Res.ab e1)))
 else(
  some (Res.nx ()))
noncomputable def zcF (v1:yw)(x1:zu)(twice1:Bool):Option Int:=
 Option.bind (QP x1.Id) fun r1=>
 bif !r1 then(
  some 5)
 else(
  bif twice1 then(
   some 6)
  else(
   bnd ([x1.From,x1.To]) fun v2=>
   ye (σ:=Unit) (ρ:=Int) (
    zZ (v2.length:Int) (zhr v1 v2) (fun s=>Res.nx s) ()) fun j_5=>
   bif decide (50<(x1.Bends.length:Int))then(
    some 4)
   else(
    Option.bind (zce x1.Bends) fun e2=>
    bif !decide (e2=0)then(
     some e2)
    else(
     Option.bind (Yx x1.Text) fun e3=>
     bif !decide (e3=0)then(
      some e3)
     else(
      Option.bind (gd ((!decide (x1.Class=Str.nil))) (QP x1.Class)) fun r2=>
      bif(!decide (x1.Class=Str.nil))&&(!r2)then(
       some 5)
      else(
       some 0))))))
noncomputable def zgU (l1:(List Box))(i:Int)(s:Unit):Option (Res Unit (Res Unit Int)):=
 need (inR l1 i) <|
 bnd (gx l1 i) fun v1=>
 Option.bind (YR v1) fun e1=>
 bif !decide (e1=0)then(
  some (Res.ab (Res.ab e1)))
 else(
  some (Res.nx ()))
noncomputable def zcf (l1:(List Box)):Option Int:=
 ye (σ:=Unit) (ρ:=Int) (
  zZ (l1.length:Int) (zgU l1) (fun s=>Res.nx s) ()) fun j_1=>
 some 0
noncomputable def zei (l1:(List Box))(i:Int)(s:Box):Option Box:=
 need (inR l1 i) <|
 bnd (gx l1 i) fun v6=>
 bnd (min s.X v6.X) fun x1=>
 bnd (min s.Y v6.Y) fun y1=>
 bnd ((⟨x1,y1,W ((max (W (s.X+s.W_)) (W (v6.X+v6.W_))) - x1),W ((max (W (s.Y+s.H)) (W (v6.Y+v6.H))) - y1)⟩:Box)) fun v7=>
 some v7
noncomputable def zaN (l1:(List Box)):Option (Box×Int):=
 bnd ((⟨(0:Int),(0:Int),(0:Int),(0:Int)⟩:Box)) fun v1=>
 bif decide (1000<(l1.length:Int))then(
  bnd ((⟨(0:Int),(0:Int),(0:Int),(0:Int)⟩:Box)) fun v2=>
  some (v2,4))
 else(
  Option.bind (zcf l1) fun e1=>
  bif !decide (e1=0)then(
   bnd ((⟨(0:Int),(0:Int),(0:Int),(0:Int)⟩:Box)) fun v3=>
   some (v3,e1))
  else(
   bif decide ((l1.length:Int)=0)then(
    bnd ((⟨(0:Int),(0:Int),(0:Int),(0:Int)⟩:Box)) fun v4=>
    some (v4,9))
   else(
    need (inR l1 0) <|
    bnd (gx l1 0) fun v5=>
    Option.bind (α:=Box) (
     y7 (l1.length:Int) (zei l1) v5) fun j_11=>
    bif(decide (20000<j_11.W_)) || (decide (20000<j_11.H))then(
     bnd ((⟨(0:Int),(0:Int),(0:Int),(0:Int)⟩:Box)) fun v8=>
     some (v8,4))
    else(
     some (j_11,0)))))
noncomputable def zaM (b1:Box)(n1:Int):Option (Box×Int):=
 bnd ((⟨(0:Int),(0:Int),(0:Int),(0:Int)⟩:Box)) fun v1=>
 Option.bind (YR b1) fun e1=>
 bif !decide (e1=0)then(
  bnd ((⟨(0:Int),(0:Int),(0:Int),(0:Int)⟩:Box)) fun v2=>
  some (v2,e1))
 else(
  bif(decide (n1<(-20000))) || (decide (20000<n1))then(
   bnd ((⟨(0:Int),(0:Int),(0:Int),(0:Int)⟩:Box)) fun v3=>
   some (v3,3))
  else(
   bnd ((⟨W (b1.X - n1),W (b1.Y - n1),W (b1.W_+(W (2*n1))),W (b1.H+(W (2*n1)))⟩:Box)) fun v4=>
   bif(decide (v4.W_<1)) || (decide (v4.H<1))then(
    bnd ((⟨(0:Int),(0:Int),(0:Int),(0:Int)⟩:Box)) fun v5=>
    some (v5,9))
   else(
    Option.bind (YR v4) fun e2=>
    bif !decide (e2=0)then(
     bnd ((⟨(0:Int),(0:Int),(0:Int),(0:Int)⟩:Box)) fun v6=>
     some (v6,e2))
    else(
     some (v4,0)))))
noncomputable def za7 (self:(yw×Int)→Option (Box×Int))(x:(yw×Int))(v4:(List Int))(i:Int)(s:(List Box)):Option (Res (List Box) (Res (List Box) (Box×Int))):=
 need (inR v4 i) <|
 Option.bind (self (x.1,(gx v4 i))) fun r1=>
 bif !decide (r1.2=0)then(
  bnd ((⟨(0:Int),(0:Int),(0:Int),(0:Int)⟩:Box)) fun v5=>
  some (Res.ab (Res.ab (v5,r1.2))))
 else(
  need (qX (s.length+[r1.1].length)) <|
  some (Res.nx (s++[r1.1])))
noncomputable def Qy (self:(yw×Int)→Option (Box×Int))(x:(yw×Int)):Option (Box×Int):=
 bnd ((⟨(0:Int),(0:Int),(0:Int),(0:Int)⟩:Box)) fun v2=>
 need (inR x.1.d.Nodes x.2) <|
 bnd (gx x.1.d.Nodes x.2) fun v3=>
 bif !decide (v3.Kind=6)then(
  some (v3.Box,0))
 else(
  bnd (x.1.members.getD v3.Id ([]:(List Int))) fun v4=>
  ye (σ:=(List Box)) (ρ:=(Box×Int)) (
   zZ (v4.length:Int) (za7 self x v4) (fun s=>Res.nx s) ([]:List Box)) fun j_6=>
  Option.bind (zaN j_6) fun r2=>
  bif !decide (r2.2=0)then(
   bnd ((⟨(0:Int),(0:Int),(0:Int),(0:Int)⟩:Box)) fun v6=>
   some (v6,r2.2))
  else(
   Option.bind (zaM r2.1 10) fun r3=>
   some (r3.1,r3.2)))
noncomputable def zcE (v1:yw)(i1:Int):Option (Box×Int):=JI Qy (v1,i1)
noncomputable def zeS (d1:Doc)(i:Int)(s:(GMap Str Bool)):Option (Res (GMap Str Bool) (Res (GMap Str Bool) Int)):=
 need (inR d1.Nodes i) <|
 bnd (gx d1.Nodes i) fun v1=>
 Option.bind (zcC v1 (s.getD v1.Id false)) fun e1=>
 bif !decide (e1=0)then(
  some (Res.ab (Res.ab e1)))
 else(
  some (Res.nx (s.set v1.Id true)))
noncomputable def zeT (d1:Doc)(p1:yw)(i:Int)(s:(GMap Str Bool)):Option (Res (GMap Str Bool) (Res (GMap Str Bool) Int)):=
 need (inR d1.Edges i) <|
 bnd (gx d1.Edges i) fun v3=>
 Option.bind (zcF p1 v3 (s.getD v3.Id false)) fun e3=>
 bif !decide (e3=0)then(
  some (Res.ab (Res.ab e3)))
 else(
  some (Res.nx (s.set v3.Id true)))
noncomputable def zeU (p1:yw)(i:Int)(s:Unit):Option (Res Unit (Res Unit Int)):=
 Option.bind (zcE p1 i) fun r1=>
 bif !decide (r1.2=0)then(
  some (Res.ab (Res.ab r1.2)))
 else(
  some (Res.nx ()))
noncomputable def Ys (d1:Doc):Option Int:=
 bif(decide (500<(d1.Nodes.length:Int))) || (decide (1000<(d1.Edges.length:Int)))then(
  some 4)
 else(
  bnd ((GMap.nil:(GMap Str Bool))) fun known1=>
  ye (σ:=(GMap Str Bool)) (ρ:=Int) (
   zZ (d1.Nodes.length:Int) (zeS d1) (fun s=>Res.nx s) known1) fun j_3=>
  Option.bind (zcD d1) fun v2=>
  Option.bind v2 fun p1=>
  Option.bind (za8 p1) fun e2=>
  bif !decide (e2=0)then(
   some e2)
  else(
   ye (σ:=(GMap Str Bool)) (ρ:=Int) (
    zZ (d1.Edges.length:Int) (zeT d1 p1) (fun s=>Res.nx s) j_3) fun j_15=>
   ye (σ:=Unit) (ρ:=Int) (
    zZ (d1.Nodes.length:Int) (zeU p1) (fun s=>Res.nx s) ()) fun j_23=>
   some 0))
noncomputable def zbT:Option (List Str):=
 some [Str.nil,(⟨[98,111,120]⟩:Str),(⟨[114,111,117,110,100]⟩:Str),(⟨[111,118,97,108]⟩:Str),(⟨[100,105,97,109,111,110,100]⟩:Str),(⟨[110,111,116,101]⟩:Str),(⟨[103,114,111,117,112]⟩:Str)]
noncomputable def zdO (l1:(List Int))(i:Int)(s:(List Str)):Option (List Str):=
 need (inR l1 i) <|
 Option.bind (strconv_Itoa (gx l1 i)) fun r1=>
 need (qX (s.length+[r1].length)) <|
 some (s++[r1])
noncomputable def YK (l1:(List Int)):Option Str:=
 Option.bind (α:=(List Str)) (
  y7 (l1.length:Int) (zdO l1) ([]:List Str)) fun j_1=>
 Option.bind (strings_Join j_1 (⟨[32]⟩:Str)) fun r2=>
 some r2
noncomputable def zaD:Option (List Str):=
 some [Str.nil,(⟨[117,112]⟩:Str),(⟨[114,105,103,104,116]⟩:Str),(⟨[100,111,119,110]⟩:Str),(⟨[108,101,102,116]⟩:Str)]
noncomputable def zaA (x1:zO):Option Str:=
 need ((x1.Node.b.length:Int)+(⟨[32]⟩:Str).b.length≤9223372036854775807) <|
 Option.bind (zaD) fun r1=>
 need (inR r1 x1.Side) <|
 need (((⟨x1.Node.b++(⟨[32]⟩:Str).b⟩:Str).b.length:Int)+(gx r1 x1.Side).b.length≤9223372036854775807) <|
 need (((⟨(⟨x1.Node.b++(⟨[32]⟩:Str).b⟩:Str).b++(gx r1 x1.Side).b⟩:Str).b.length:Int)+(⟨[32]⟩:Str).b.length≤9223372036854775807) <|
 Option.bind (strconv_Itoa x1.At) fun r2=>
 need (((⟨(⟨(⟨x1.Node.b++(⟨[32]⟩:Str).b⟩:Str).b++(gx r1 x1.Side).b⟩:Str).b++(⟨[32]⟩:Str).b⟩:Str).b.length:Int)+r2.b.length≤9223372036854775807) <|
 some (⟨(⟨(⟨(⟨x1.Node.b++(⟨[32]⟩:Str).b⟩:Str).b++(gx r1 x1.Side).b⟩:Str).b++(⟨[32]⟩:Str).b⟩:Str).b++r2.b⟩:Str)
noncomputable def zdN (l1:(List zz))(i:Int)(s:(List Int)):Option (List Int):=
 need (inR l1 i) <|
 bnd (gx l1 i) fun v1=>
 need (qX (s.length+[v1.X,v1.Y].length)) <|
 some (s++[v1.X,v1.Y])
noncomputable def zay (l1:(List zz)):Option (List Int):=
 Option.bind (α:=(List Int)) (
  y7 (l1.length:Int) (zdN l1) ([]:List Int)) fun j_1=>
 some j_1
def zad (x:zU):Prop:=True
instance:Inhabited { x:zU // zad x }:=⟨⟨default,by unfold zad;decide⟩⟩
def Qp (x y:{ x:zU // zad x }):Int:=zQ x.1.Field.b y.1.Field.b
noncomputable def zfM (l:List zU):Option (List zU):=need ((l.length:Int)<4611686018427387904∧∀x∈l,zad x) (some (qm Qp l))
noncomputable def zhV (l:List zv):Option (List zv):=need ((l.length:Int)<4611686018427387904∧(l.map fun x=>x.Id).Nodup) (some (zfY (fun x=>x.Id) l))
noncomputable def zgB  (k:Str)(e:Str)(s:zv):Option zv:=
 need (zfA (s.Attrs.length+[(⟨k,e⟩:zU)].length)) <|
 some ({ s with Attrs:=s.Attrs++[(⟨k,e⟩:zU)] })
noncomputable def zdU  (k:Str)(e:(GMap Str Str))(s:(List zv)):Option (List zv):=
 za3 e zgB (⟨k,([]:List zU)⟩:zv) fun j_4=>
 Option.bind (zfM j_4.Attrs) fun r1=>
 need (zfA (s.length+[{ j_4 with Attrs:=r1 }].length)) <|
 some (s++[{ j_4 with Attrs:=r1 }])
noncomputable def zb4 (t1:(GMap Str (GMap Str Str))):Option (List zv):=
 za3 t1 zdU ([]:List zv) fun j_1=>
 Option.bind (zhV j_1) fun r2=>
 some r2
noncomputable def zdQ  (k:Str)(e:Str)(s:(GMap Str Str)):Option (GMap Str Str):=
 bif !decide (e=Str.nil)then(
  some (s.set k e))
 else(
  some s)
noncomputable def zbV (d1:Doc)(i:Int)(s:(GMap Str (GMap Str Str))):Option (GMap Str (GMap Str Str)):=
 need (inR d1.Nodes i) <|
 bnd (gx d1.Nodes i) fun v1=>
 Option.bind (zbT) fun r1=>
 need (inR r1 v1.Kind) <|
 Option.bind (strconv_Itoa i) fun r2=>
 bnd (((GMap.nil:(GMap Str Str)).set (⟨[107,105,110,100]⟩:Str) (gx r1 v1.Kind)).set (⟨[122]⟩:Str) r2) fun f1=>
 Option.bind (α:=(GMap Str Str)) (
  bif !decide (v1.Kind=6)then(
   Option.bind (YK [v1.Box.X,v1.Box.Y,v1.Box.W_,v1.Box.H]) fun r3=>
   some (f1.set (⟨[112,108,97,99,101]⟩:Str) r3))
  else(
   some f1)) fun j_14=>
 Option.bind (α:=(GMap Str Str)) (
  YX ((((GMap.nil:(GMap Str Str)).set (⟨[116,101,120,116]⟩:Str) v1.Text).set (⟨[99,108,97,115,115]⟩:Str) v1.Class).set (⟨[112,97,114,101,110,116]⟩:Str) v1.Parent) zdQ j_14) fun j_17=>
 Option.bind (α:=(GMap Str Str)) (
  bif v1.Locked then(
   some (j_17.set (⟨[108,111,99,107,101,100]⟩:Str) (⟨[121,101,115]⟩:Str)))
  else(
   some j_17)) fun j_21=>
 some (s.set v1.Id j_21)
noncomputable def zdR  (k:Str)(e:Str)(s:(GMap Str Str)):Option (GMap Str Str):=
 bif !decide (e=Str.nil)then(
  some (s.set k e))
 else(
  some s)
noncomputable def zbW (d1:Doc)(i:Int)(s:(GMap Str (GMap Str Str))):Option (GMap Str (GMap Str Str)):=
 need (inR d1.Edges i) <|
 bnd (gx d1.Edges i) fun v2=>
 Option.bind (zaA v2.From) fun r4=>
 Option.bind (zaA v2.To) fun r5=>
 Option.bind (strconv_Itoa i) fun r6=>
 bnd (((((GMap.nil:(GMap Str Str)).set (⟨[107,105,110,100]⟩:Str) (⟨[101,100,103,101]⟩:Str)).set (⟨[102,114,111,109]⟩:Str) r4).set (⟨[116,111]⟩:Str) r5).set (⟨[122]⟩:Str) r6) fun f2=>
 Option.bind (α:=(GMap Str Str)) (
  bif decide (0<(v2.Bends.length:Int))then(
   Option.bind (zay v2.Bends) fun r7=>
   Option.bind (YK r7) fun r8=>
   some (f2.set (⟨[98,101,110,100,115]⟩:Str) r8))
  else(
   some f2)) fun j_33=>
 Option.bind (α:=(GMap Str Str)) (
  YX (((GMap.nil:(GMap Str Str)).set (⟨[116,101,120,116]⟩:Str) v2.Text).set (⟨[99,108,97,115,115]⟩:Str) v2.Class) zdR j_33) fun j_37=>
 some (s.set v2.Id j_37)
noncomputable def JB (d1:Doc):Option ((List zv)×Int):=
 Option.bind (Ys d1) fun e1=>
 bif !decide (e1=0)then(
  some (([]:(List zv)),e1))
 else(
  bnd ((GMap.nil:(GMap Str (GMap Str Str)))) fun t1=>
  Option.bind (α:=(GMap Str (GMap Str Str))) (
   y7 (d1.Nodes.length:Int) (zbV d1) t1) fun j_4=>
  Option.bind (α:=(GMap Str (GMap Str Str))) (
   y7 (d1.Edges.length:Int) (zbW d1) j_4) fun j_23=>
  Option.bind (zb4 j_23) fun r9=>
  some (r9,0))
noncomputable def Yf (s1:Str):Option Bool:=
 need (((!decide (s1=Str.nil))&&(decide ((s1.b.length:Int)≤40)))=true→inR s1.b 0) <|
 need ((((!decide (s1=Str.nil))&&(decide ((s1.b.length:Int)≤40)))&&(decide ((⟨97⟩:KI .u8).n≤(⟨((gx s1.b 0).toNat:Int)⟩:KI .u8).n)))=true→inR s1.b 0) <|
 Option.bind (gd (((((!decide (s1=Str.nil))&&(decide ((s1.b.length:Int)≤40)))&&(decide ((⟨97⟩:KI .u8).n≤(⟨((gx s1.b 0).toNat:Int)⟩:KI .u8).n)))&&(decide ((⟨((gx s1.b 0).toNat:Int)⟩:KI .u8).n≤(⟨122⟩:KI .u8).n)))) (zaf s1 (⟨[97,98,99,100,101,102,103,104,105,106,107,108,109,110,111,112,113,114,115,116,117,118,119,120,121,122,48,49,50,51,52,53,54,55,56,57,45]⟩:Str))) fun r1=>
 some (((((!decide (s1=Str.nil))&&(decide ((s1.b.length:Int)≤40)))&&(decide ((⟨97⟩:KI .u8).n≤(⟨((gx s1.b 0).toNat:Int)⟩:KI .u8).n)))&&(decide ((⟨((gx s1.b 0).toNat:Int)⟩:KI .u8).n≤(⟨122⟩:KI .u8).n)))&&(decide (r1=Str.nil)))
noncomputable def Jx (x1:Int):Option Bool:=
 some (!decide (x1=x1))
noncomputable def Ya (x1:Int)(y1:Int):Option Int:=
 Option.bind (Jx x1) fun xNaN1=>
 Option.bind (Jx y1) fun yNaN1=>
 bif xNaN1 then(
  bif yNaN1 then(
   some 0)
  else(
   some (-1)))
 else(
  bif yNaN1 then(
   some 1)
  else(
   bif decide (x1<y1)then(
    some (-1))
   else(
    bif decide (y1<x1)then(
     some 1)
    else(
     some 0))))
noncomputable def Jw (vals1:(List Int))(i:Int)(s:Unit):Option (Res Unit (Res Unit Int)):=
 need (inR vals1 i) <|
 bnd (gx vals1 i) fun val1=>
 bif !decide (val1=0)then(
  some (Res.ab (Res.ab val1)))
 else(
  some (Res.nx ()))
noncomputable def zbL (vals1:(List Int)):Option Int:=
 ye (σ:=Unit) (ρ:=Int) (
  zZ (vals1.length:Int) (Jw vals1) (fun s=>Res.nx s) ()) fun j_1=>
 some 0
noncomputable def zbZ (a1:DOp)(b1:DOp):Option Int:=
 Option.bind (strings_Compare a1.Stamp.Site b1.Stamp.Site) fun r1=>
 Option.bind (Ya a1.Stamp.No b1.Stamp.No) fun r2=>
 Option.bind (zbL [r1,r2]) fun r3=>
 some r3
noncomputable def zbX (x1:DOp):Option Int:=
 bif(decide (x1.Kind<1)) || (decide (3<x1.Kind))then(
  some 1)
 else(
  bnd (decide (x1.Kind=1)) fun set1=>
  bnd (decide (x1.Kind=3)) fun undo1=>
  bnd ((!decide (x1.Of=0))&&(!undo1)) fun v1=>
  Option.bind (α:=Bool) (
   bif v1 then(
    some v1)
   else(
    bnd ((!decide (x1.Id=Str.nil))&&undo1) fun v2=>
    bif v2 then(
     some v2)
    else(
     bnd (((!decide (x1.Field=Str.nil)) || (!decide (x1.Value=Str.nil)))&&(!set1)) fun v3=>
     some v3))) fun j_5=>
  bif j_5 then(
   some 2)
  else(
   Option.bind (gd ((!undo1)) (Yf x1.Id)) fun r1=>
   bnd ((!undo1)&&(!r1)) fun v4=>
   Option.bind (α:=Bool) (
    bif v4 then(
     some v4)
    else(
     Option.bind (gd (set1) (Yf x1.Field)) fun r2=>
     bnd (set1&&(!r2)) fun v5=>
     some v5)) fun j_13=>
   bif j_13 then(
    some 5)
   else(
    ye (σ:=Unit) (ρ:=Int) (
     bif set1 then(
      Option.bind (Yx x1.Value) fun e1=>
      bif !decide (e1=0)then(
       some (Res.ab e1))
      else(
       some (Res.nx ())))
     else(
      some (Res.nx ()))) fun j_18=>
    bif undo1&&((decide (x1.Of<1)) || (decide ((W (x1.Stamp.No - 1))<x1.Of)))then(
     some 10)
    else(
     some 0))))
noncomputable def zdM (l1:(List DOp))(i:Int)(s:Unit):Option (Res Unit (Res Unit Int)):=
 need (inR l1 i) <|
 bnd (gx l1 i) fun v1=>
 bnd ((⟨(⟨(0:Int),Str.nil,(0:Int)⟩:Stamp),(0:Int),Str.nil,Str.nil,Str.nil,(0:Int)⟩:DOp)) fun v2=>
 need ((decide (0<i))=true→inR l1 (W (i - 1))) <|
 Option.bind (α:=DOp) (
  bif(decide (0<i))&&(decide ((((gx l1 (W (i - 1))).Stamp).Site)=v1.Stamp.Site))then(
   need (inR l1 (W (i - 1))) <|
   bnd (gx l1 (W (i - 1))) fun v3=>
   some v3)
  else(
   some v2)) fun j_10=>
 Option.bind (Yf v1.Stamp.Site) fun r1=>
 bif !r1 then(
  some (Res.ab (Res.ab 5)))
 else(
  need ((decide (0<i))=true→inR l1 (W (i - 1))) <|
  Option.bind (gd ((decide (0<i))) (zbZ (gx l1 (W (i - 1))) v1)) fun r2=>
  bif(decide (0<i))&&(decide (0≤r2))then(
   some (Res.ab (Res.ab 7)))
  else(
   bnd (!decide (v1.Stamp.No=(W (j_10.Stamp.No+1)))) fun v4=>
   Option.bind (α:=Bool) (
    bif v4 then(
     some v4)
    else(
     bnd ((decide (v1.Stamp.Time<1)) || (decide (1000000000<v1.Stamp.Time))) fun v5=>
     some v5)) fun j_20=>
   bif j_20 then(
    some (Res.ab (Res.ab 3)))
   else(
    bif decide (v1.Stamp.Time≤j_10.Stamp.Time)then(
     some (Res.ab (Res.ab 7)))
    else(
     Option.bind (zbX v1) fun e1=>
     bif !decide (e1=0)then(
      some (Res.ab (Res.ab e1)))
     else(
      some (Res.nx ()))))))
noncomputable def zax (l1:(List DOp)):Option Int:=
 bif decide (2000<(l1.length:Int))then(
  some 4)
 else(
  ye (σ:=Unit) (ρ:=Int) (
   zZ (l1.length:Int) (zdM l1) (fun s=>Res.nx s) ()) fun j_2=>
  some 0)
noncomputable def zcr:Option Bool:=
 Option.bind (zax ([]:(List DOp))) fun r1=>
 Option.bind (gd ((decide (r1=0))) (zax [(⟨(⟨(0:Int),Str.nil,(0:Int)⟩:Stamp),(0:Int),Str.nil,Str.nil,Str.nil,(0:Int)⟩:DOp)])) fun r2=>
 some ((decide (r1=0))&&(decide (r2=5)))
noncomputable def zcO (kind1:Int):Option Str:=
 Option.bind (vU (⟨[98,111,120,32,114,111,117,110,100,32,111,118,97,108,32,100,105,97,109,111,110,100,32,110,111,116,101,32,103,114,111,117,112]⟩:Str)) fun r1=>
 need (inR r1 (W (kind1 - 1))) <|
 some (gx r1 (W (kind1 - 1)))
noncomputable def zfr (l1:(List Int))(i:Int)(s:(List Str)):Option (List Str):=
 need (inR l1 i) <|
 Option.bind (strconv_Itoa (gx l1 i)) fun r1=>
 need (qX (s.length+[r1].length)) <|
 some (s++[r1])
noncomputable def J4 (l1:(List Int)):Option Str:=
 Option.bind (α:=(List Str)) (
  y7 (l1.length:Int) (zfr l1) ([]:List Str)) fun j_1=>
 Option.bind (strings_Join j_1 (⟨[32]⟩:Str)) fun r2=>
 some r2
noncomputable def vS (id1:Str)(f1:Str)(v1:Str)(c0_1:(GMap Str (GMap Str Str))):Option (GMap Str (GMap Str Str)):=
 bif !decide (v1=Str.nil)then(
  need (c0_1.has id1=true) <|
  some (c0_1.set id1 ((c0_1.getD id1 GMap.nil).set f1 v1)))
 else(
  some c0_1)
noncomputable def zcW (side1:Int):Option Str:=
 Option.bind (vU (⟨[117,112,32,114,105,103,104,116,32,100,111,119,110,32,108,101,102,116]⟩:Str)) fun r1=>
 need (inR r1 (W (side1 - 1))) <|
 some (gx r1 (W (side1 - 1)))
noncomputable def zbb (x1:zO):Option Str:=
 need ((x1.Node.b.length:Int)+(⟨[32]⟩:Str).b.length≤9223372036854775807) <|
 Option.bind (zcW x1.Side) fun r1=>
 need (((⟨x1.Node.b++(⟨[32]⟩:Str).b⟩:Str).b.length:Int)+r1.b.length≤9223372036854775807) <|
 need (((⟨(⟨x1.Node.b++(⟨[32]⟩:Str).b⟩:Str).b++r1.b⟩:Str).b.length:Int)+(⟨[32]⟩:Str).b.length≤9223372036854775807) <|
 Option.bind (strconv_Itoa x1.At) fun r2=>
 need (((⟨(⟨(⟨x1.Node.b++(⟨[32]⟩:Str).b⟩:Str).b++r1.b⟩:Str).b++(⟨[32]⟩:Str).b⟩:Str).b.length:Int)+r2.b.length≤9223372036854775807) <|
 some (⟨(⟨(⟨(⟨x1.Node.b++(⟨[32]⟩:Str).b⟩:Str).b++r1.b⟩:Str).b++(⟨[32]⟩:Str).b⟩:Str).b++r2.b⟩:Str)
noncomputable def zfm (m1:(GMap Str (GMap Str Str)))(v2:(List Str))(id1:Str)(i:Int)(s:zv):Option zv:=
 need (inR v2 i) <|
 bnd (gx v2 i) fun f1=>
 need (zfA (s.Attrs.length+[(⟨f1,(m1.getD id1 (GMap.nil:(GMap Str Str))).getD f1 Str.nil⟩:zU)].length)) <|
 some ({ s with Attrs:=s.Attrs++[(⟨f1,(m1.getD id1 (GMap.nil:(GMap Str Str))).getD f1 Str.nil⟩:zU)] })
noncomputable def zhz (m1:(GMap Str (GMap Str Str)))(v1:(List Str))(i:Int)(s:(List zv)):Option (List zv):=
 need (inR v1 i) <|
 bnd (gx v1 i) fun id1=>
 need ((m1.getD id1 (GMap.nil:(GMap Str Str))).size≤8796093022208∧∃l,zD (m1.getD id1 (GMap.nil:(GMap Str Str))) l) <|
 bnd (ql (m1.getD id1 (GMap.nil:(GMap Str Str)))) fun v2=>
 Option.bind (α:=zv) (
  y7 (v2.length:Int) (zfm m1 v2 id1) (⟨id1,([]:List zU)⟩:zv)) fun j_11=>
 need (zfA (s.length+[{ j_11 with Attrs:=j_11.Attrs }].length)) <|
 some (s++[{ j_11 with Attrs:=j_11.Attrs }])
noncomputable def zcZ (m1:(GMap Str (GMap Str Str))):Option (List zv):=
 need (m1.size≤8796093022208∧∃l,zD m1 l) <|
 bnd (ql m1) fun v1=>
 Option.bind (α:=(List zv)) (
  y7 (v1.length:Int) (zhz m1 v1) ([]:List zv)) fun j_3=>
 some j_3
noncomputable def zcM (d1:Doc)(i:Int)(s:(GMap Str (GMap Str Str))):Option (GMap Str (GMap Str Str)):=
 need (inR d1.Nodes i) <|
 bnd (gx d1.Nodes i) fun v1=>
 Option.bind (zcO v1.Kind) fun r1=>
 Option.bind (strconv_Itoa i) fun r2=>
 bnd (s.set v1.Id (((GMap.nil:(GMap Str Str)).set (⟨[107,105,110,100]⟩:Str) r1).set (⟨[122]⟩:Str) r2)) fun c2=>
 Option.bind (α:=(GMap Str (GMap Str Str))) (
  bif !decide (v1.Kind=6)then(
   Option.bind (J4 [v1.Box.X,v1.Box.Y,v1.Box.W_,v1.Box.H]) fun r3=>
   Option.bind (vS v1.Id (⟨[112,108,97,99,101]⟩:Str) r3 c2) fun r4=>
   some r4)
  else(
   some c2)) fun j_11=>
 Option.bind (vS v1.Id (⟨[116,101,120,116]⟩:Str) v1.Text j_11) fun r5=>
 Option.bind (vS v1.Id (⟨[99,108,97,115,115]⟩:Str) v1.Class r5) fun r6=>
 Option.bind (vS v1.Id (⟨[112,97,114,101,110,116]⟩:Str) v1.Parent r6) fun r7=>
 bif v1.Locked then(
  Option.bind (vS v1.Id (⟨[108,111,99,107,101,100]⟩:Str) (⟨[121,101,115]⟩:Str) r7) fun r8=>
  some r8)
 else(
  some r7)
noncomputable def zff (v2:zu)(i:Int)(s:(List Int)):Option (List Int):=
 need (inR v2.Bends i) <|
 bnd (gx v2.Bends i) fun v3=>
 need (qX (s.length+[v3.X,v3.Y].length)) <|
 some (s++[v3.X,v3.Y])
noncomputable def zcN (d1:Doc)(i:Int)(s:(GMap Str (GMap Str Str))):Option (GMap Str (GMap Str Str)):=
 need (inR d1.Edges i) <|
 bnd (gx d1.Edges i) fun v2=>
 Option.bind (strconv_Itoa i) fun r9=>
 Option.bind (zbb v2.From) fun r10=>
 Option.bind (zbb v2.To) fun r11=>
 bnd (s.set v2.Id (((((GMap.nil:(GMap Str Str)).set (⟨[107,105,110,100]⟩:Str) (⟨[101,100,103,101]⟩:Str)).set (⟨[122]⟩:Str) r9).set (⟨[102,114,111,109]⟩:Str) r10).set (⟨[116,111]⟩:Str) r11)) fun c3=>
 Option.bind (α:=(List Int)) (
  y7 (v2.Bends.length:Int) (zff v2) ([]:List Int)) fun j_30=>
 Option.bind (J4 j_30) fun r12=>
 Option.bind (vS v2.Id (⟨[98,101,110,100,115]⟩:Str) r12 c3) fun r13=>
 Option.bind (vS v2.Id (⟨[116,101,120,116]⟩:Str) v2.Text r13) fun r14=>
 Option.bind (vS v2.Id (⟨[99,108,97,115,115]⟩:Str) v2.Class r14) fun r15=>
 some r15
noncomputable def zcL (d1:Doc):Option (List zv):=
 bnd ((GMap.nil:(GMap Str (GMap Str Str)))) fun c1=>
 Option.bind (α:=(GMap Str (GMap Str Str))) (
  y7 (d1.Nodes.length:Int) (zcM d1) c1) fun j_2=>
 Option.bind (α:=(GMap Str (GMap Str Str))) (
  y7 (d1.Edges.length:Int) (zcN d1) j_2) fun j_20=>
 Option.bind (zcZ j_20) fun r16=>
 some r16
noncomputable def zaX (c0_1:Doc):Option (List zv):=
 Option.bind (zcL c0_1) fun r1=>
 some r1
noncomputable def zhN (eq1:(zv→zv→Option Bool))(s1_1:(List zv))(s2_1:(List zv))(i:Int)(s:Unit):Option (Res Unit (Res Unit Bool)):=
 need (inR s1_1 i) <|
 bnd (gx s1_1 i) fun v1=>
 need (inR s2_1 i) <|
 bnd (gx s2_1 i) fun v2=>
 Option.bind (eq1 v1 v2) fun r1=>
 bif !r1 then(
  some (Res.ab (Res.ab false)))
 else(
  some (Res.nx ()))
noncomputable def zfL (s1_1:(List zv))(s2_1:(List zv))(eq1:(zv→zv→Option Bool)):Option Bool:=
 bif !decide ((s1_1.length:Int)=(s2_1.length:Int))then(
  some false)
 else(
  ye (σ:=Unit) (ρ:=Bool) (
   zZ (s1_1.length:Int) (zhN eq1 s1_1 s2_1) (fun s=>Res.nx s) ()) fun j_2=>
  some true)
noncomputable def zhO (s1_1:(List zU))(s2_1:(List zU))(i:Int)(s:Unit):Option (Res Unit (Res Unit Bool)):=
 need (inR s1_1 i) <|
 need (inR s2_1 i) <|
 bif !decide ((gx s1_1 i)=(gx s2_1 i))then(
  some (Res.ab (Res.ab false)))
 else(
  some (Res.nx ()))
noncomputable def zdf (s1_1:(List zU))(s2_1:(List zU)):Option Bool:=
 bif !decide ((s1_1.length:Int)=(s2_1.length:Int))then(
  some false)
 else(
  ye (σ:=Unit) (ρ:=Bool) (
   zZ (s1_1.length:Int) (zhO s1_1 s2_1) (fun s=>Res.nx s) ()) fun j_2=>
  some true)
noncomputable def zbi (x1:zv)(y1:zv):Option Bool:=
 Option.bind (gd ((decide (x1.Id=y1.Id))) (zdf x1.Attrs y1.Attrs)) fun r1=>
 some ((decide (x1.Id=y1.Id))&&r1)
noncomputable def zbh (a1:(List zv))(b1:(List zv)):Option Bool:=
 Option.bind (zfL a1 b1 zbi) fun r1=>
 some r1
noncomputable def JT (l1:(List zv))(e1:Int)(want1:Int)(right1:(Option (List zv))):Option Bool:=
 bif !decide (want1=0)then(
  some ((decide ((l1.length:Int)=0))&&(decide (e1=want1))))
 else(
  Option.bind (gd ((decide (e1=0))) (right1)) fun r1=>
  Option.bind (gd ((decide (e1=0))) (zbh l1 r1)) fun r2=>
  some ((decide (e1=0))&&r2))
noncomputable def zbQ (v1:zv)(i:Int)(s:Unit):Option (Res Unit (Res Unit (Res Unit Int))):=
 need (inR v1.Attrs i) <|
 bnd (gx v1.Attrs i) fun v2=>
 Option.bind (Yf v2.Field) fun r2=>
 bif !r2 then(
  some (Res.ab (Res.ab (Res.ab 5))))
 else(
  need ((decide (0<i))=true→inR v1.Attrs (W (i - 1))) <|
  bif(decide (0<i))&&(Op.bytesLess v2.Field.b ((gx v1.Attrs (W (i - 1))).Field).b || v2.Field.b==((gx v1.Attrs (W (i - 1))).Field).b)then(
   some (Res.ab (Res.ab (Res.ab 7))))
  else(
   Option.bind (Yx v2.Value) fun e1=>
   bif !decide (e1=0)then(
    some (Res.ab (Res.ab (Res.ab e1))))
   else(
    some (Res.nx ()))))
noncomputable def zdL (l1:(List zv))(i:Int)(s:Unit):Option (Res Unit (Res Unit Int)):=
 need (inR l1 i) <|
 bnd (gx l1 i) fun v1=>
 Option.bind (Yf v1.Id) fun r1=>
 bif !r1 then(
  some (Res.ab (Res.ab 5)))
 else(
  need ((decide (0<i))=true→inR l1 (W (i - 1))) <|
  bif(decide (0<i))&&(Op.bytesLess v1.Id.b ((gx l1 (W (i - 1))).Id).b || v1.Id.b==((gx l1 (W (i - 1))).Id).b)then(
   some (Res.ab (Res.ab 7)))
  else(
   bif decide ((v1.Attrs.length:Int)=0)then(
    some (Res.ab (Res.ab 9)))
   else(
    bif decide (20<(v1.Attrs.length:Int))then(
     some (Res.ab (Res.ab 4)))
    else(
     zZ (v1.Attrs.length:Int) (zbQ v1) (fun s=>Res.nx s) ()))))
noncomputable def zbP (l1:(List zv)):Option Int:=
 bif decide (2000<(l1.length:Int))then(
  some 4)
 else(
  ye (σ:=Unit) (ρ:=Int) (
   zZ (l1.length:Int) (zdL l1) (fun s=>Res.nx s) ()) fun j_2=>
  some 0)
noncomputable def zdT (v1:zv)(i:Int)(s:(GMap Str (GMap Str Str))):Option (GMap Str (GMap Str Str)):=
 need (inR v1.Attrs i) <|
 bnd (gx v1.Attrs i) fun v2=>
 need (s.has v1.Id=true) <|
 some (s.set v1.Id ((s.getD v1.Id GMap.nil).set v2.Field v2.Value))
noncomputable def zdS (l1:(List zv))(i:Int)(s:(GMap Str (GMap Str Str))):Option (GMap Str (GMap Str Str)):=
 need (inR l1 i) <|
 bnd (gx l1 i) fun v1=>
 bnd (s.set v1.Id (GMap.nil:(GMap Str Str))) fun t2=>
 y7 (v1.Attrs.length:Int) (zdT v1) t2
noncomputable def zb3 (l1:(List zv)):Option (GMap Str (GMap Str Str)):=
 bnd ((GMap.nil:(GMap Str (GMap Str Str)))) fun t1=>
 Option.bind (α:=(GMap Str (GMap Str Str))) (
  y7 (l1.length:Int) (zdS l1) t1) fun j_2=>
 some j_2
noncomputable def zfW (s1:Str)(prefix1:Str):Option Bool:=
 need ((decide ((prefix1.b.length:Int)≤(s1.b.length:Int)))=true→J8 s1.b.length 0 (prefix1.b.length:Int)) <|
 some ((decide ((prefix1.b.length:Int)≤(s1.b.length:Int)))&&(decide ((⟨seg s1.b 0 (prefix1.b.length:Int)⟩:Str)=prefix1)))
noncomputable def zfX (s1:Str)(prefix1:Str):Option Str:=
 Option.bind (zfW s1 prefix1) fun r1=>
 bif r1 then(
  need (J8 s1.b.length (prefix1.b.length:Int) (s1.b.length:Int)) <|
  some (⟨seg s1.b (prefix1.b.length:Int) (s1.b.length:Int)⟩:Str))
 else(
  some s1)
noncomputable def zbC (s1:Str)(prefix1:Str):Option Str:=
 Option.bind (zfX s1 prefix1) fun r1=>
 some r1
noncomputable def Qd (s1:Str):Option (Int×Bool):=
 Option.bind (zbC s1 (⟨[45]⟩:Str)) fun digits1=>
 Option.bind (QC s1) fun r1=>
 Option.bind (gd (((!r1.2.is)&&(decide ((digits1.b.length:Int)≤7)))) (strconv_Itoa r1.1)) fun r2=>
 some (r1.1,((!r1.2.is)&&(decide ((digits1.b.length:Int)≤7)))&&(decide (r2=s1)))
noncomputable def zbx (s1:(List Str))(v1:Str)(i:Int)(s:Unit):Option (Res Unit (Res Unit Int)):=
 need (inR s1 i) <|
 bif decide (v1=(gx s1 i))then(
  some (Res.ab (Res.ab i)))
 else(
  some (Res.nx ()))
noncomputable def jB (s1:(List Str))(v1:Str):Option Int:=
 ye (σ:=Unit) (ρ:=Int) (
  zZ (s1.length:Int) (zbx s1 v1) (fun s=>Res.nx s) ()) fun j_1=>
 some (-1)
noncomputable def JA (w1:(List Str)):Option (zO×Bool):=
 bnd ((⟨Str.nil,(0:Int),(0:Int)⟩:zO)) fun x1=>
 need ((!decide ((w1.length:Int)=3))=false→inR w1 0) <|
 need (((!decide ((w1.length:Int)=3)) || (decide ((gx w1 0)=Str.nil)))=false→inR w1 1) <|
 bif((!decide ((w1.length:Int)=3)) || (decide ((gx w1 0)=Str.nil))) || (decide ((gx w1 1)=Str.nil))then(
  some (x1,false))
 else(
  need (inR w1 0) <|
  bnd (gx w1 0) fun v1=>
  Option.bind (zaD) fun r1=>
  need (inR w1 1) <|
  Option.bind (jB r1 (gx w1 1)) fun r2=>
  bnd ({ { x1 with Node:=v1 }with Side:=r2 }) fun x2=>
  need (inR w1 2) <|
  Option.bind (Qd (gx w1 2)) fun r3=>
  bnd ({ x2 with At:=r3.1 }) fun x3=>
  some (x3,r3.2&&(decide (0<x3.Side))))
noncomputable def zdP (w1:(List Str))(i:Int)(s:(List Int)):Option (Res (List Int) (Res (List Int) ((List Int)×Bool))):=
 need (inR w1 i) <|
 Option.bind (Qd (gx w1 i)) fun r1=>
 bif !r1.2 then(
  some (Res.ab (Res.ab (([]:(List Int)),false))))
 else(
  need (qX (s.length+[r1.1].length)) <|
  some (Res.nx (s++[r1.1])))
noncomputable def zaC (w1:(List Str)):Option ((List Int)×Bool):=
 ye (σ:=(List Int)) (ρ:=((List Int)×Bool)) (
  zZ (w1.length:Int) (zdP w1) (fun s=>Res.nx s) ([]:List Int)) fun j_1=>
 some (j_1,true)
noncomputable def zaB (l1:(List Int))(s3_:((List zz)×Int)):Option (zL ((List zz)×Int) (List zz)):=
 bif decide (s3_.2<(l1.length:Int))then(
  need (inR l1 s3_.2) <|
  need (inR l1 (W (s3_.2+1))) <|
  need (qX (s3_.1.length+[(⟨gx l1 s3_.2,gx l1 (W (s3_.2+1))⟩:zz)].length)) <|
  bnd (s3_.1++[(⟨gx l1 s3_.2,gx l1 (W (s3_.2+1))⟩:zz)]) fun out1=>
  bnd (W (s3_.2+2)) fun i1=>
  some (zL.again (out1,i1)))
 else(
  some (zL.done s3_.1))
noncomputable def zbU (l1:(List Int)):Option ((List zz)×Bool):=
 bif(decide (((l1.length:Int).tmod 2)=1)) || (decide ((l1.length:Int)=0))then(
  some (([]:(List zz)),false))
 else(
  Option.bind (α:=(List zz)) (
   loop (zaB l1) (([]:List zz),0)) fun j_2=>
  some (j_2,true))
noncomputable def zbv (s1:(List Str))(v1:Str):Option Bool:=
 Option.bind (jB s1 v1) fun r1=>
 some (decide (0≤r1))
noncomputable def zgy (f1:(GMap Str Str))(needed1:(List Str))(i:Int)(s:Unit):Option (Res Unit (Res Unit Bool)):=
 need (inR needed1 i) <|
 bif !(f1.has (gx needed1 i))then(
  some (Res.ab (Res.ab false)))
 else(
  some (Res.nx ()))
noncomputable def zgz (needed1:(List Str))(others1:(List Str))(k:Str)(e:Str)(s:Unit):Option (Res Unit (Res Unit Bool)):=
 Option.bind (zbv needed1 k) fun r1=>
 Option.bind (gd ((!r1)) (zbv others1 k)) fun r2=>
 bif(!r1)&&(!r2)then(
  some (Res.ab (Res.ab false)))
 else(
  some (Res.nx ()))
noncomputable def zgA (f1:(GMap Str Str))(v1:(List Str))(i:Int)(s:Unit):Option (Res Unit (Res Unit Bool)):=
 need (inR v1 i) <|
 bif(f1.has (gx v1 i))&&(decide ((f1.getD (gx v1 i) Str.nil)=Str.nil))then(
  some (Res.ab (Res.ab false)))
 else(
  some (Res.nx ()))
noncomputable def YL (f1:(GMap Str Str))(needed1:(List Str))(others1:(List Str)):Option Bool:=
 ye (σ:=Unit) (ρ:=Bool) (
  zZ (needed1.length:Int) (zgy f1 needed1) (fun s=>Res.nx s) ()) fun j_1=>
 ye (σ:=Unit) (ρ:=Bool) (
  YY f1 (zgz needed1 others1) (fun s=>Res.nx s) ()) fun j_7=>
 bnd ([(⟨[116,101,120,116]⟩:Str),(⟨[99,108,97,115,115]⟩:Str),(⟨[112,97,114,101,110,116]⟩:Str)]) fun v1=>
 ye (σ:=Unit) (ρ:=Bool) (
  zZ (v1.length:Int) (zgA f1 v1) (fun s=>Res.nx s) ()) fun j_14=>
 some true
noncomputable def zb1 (x1:zu)(f1:(GMap Str Str)):Option (Bool×zu):=
 Option.bind (strings_Split (f1.getD (⟨[102,114,111,109]⟩:Str) Str.nil) (⟨[32]⟩:Str)) fun r1=>
 Option.bind (JA r1) fun r2=>
 bnd ({ x1 with From:=r2.1 }) fun x2=>
 Option.bind (strings_Split (f1.getD (⟨[116,111]⟩:Str) Str.nil) (⟨[32]⟩:Str)) fun r3=>
 Option.bind (JA r3) fun r4=>
 bnd ({ x2 with To:=r4.1 }) fun x3=>
 ye (σ:=zu) (ρ:=(Bool×zu)) (
  bif f1.has (⟨[98,101,110,100,115]⟩:Str)then(
   Option.bind (strings_Split (f1.getD (⟨[98,101,110,100,115]⟩:Str) Str.nil) (⟨[32]⟩:Str)) fun r5=>
   Option.bind (zaC r5) fun r6=>
   bif !r6.2 then(
    some (Res.ab (false,x3)))
   else(
    Option.bind (zbU r6.1) fun r7=>
    bnd ({ x3 with Bends:=r7.1 }) fun c1=>
    bif !r7.2 then(
     some (Res.ab (false,c1)))
    else(
     some (Res.nx c1))))
  else(
   some (Res.nx x3))) fun j_7=>
 Option.bind (gd ((r2.2&&r4.2)) (YL f1 [(⟨[107,105,110,100]⟩:Str),(⟨[102,114,111,109]⟩:Str),(⟨[116,111]⟩:Str),(⟨[122]⟩:Str)] [(⟨[98,101,110,100,115]⟩:Str),(⟨[116,101,120,116]⟩:Str),(⟨[99,108,97,115,115]⟩:Str)])) fun r8=>
 some ((r2.2&&r4.2)&&r8,j_7)
noncomputable def zb2 (n1:zh)(f1:(GMap Str Str)):Option (Bool×zh):=
 bif decide (n1.Kind<1)then(
  some (false,n1))
 else(
  bnd ([(⟨[107,105,110,100]⟩:Str),(⟨[122]⟩:Str)]) fun needed1=>
  ye (σ:=((List Str)×zh)) (ρ:=(Bool×zh)) (
   bif !decide (n1.Kind=6)then(
    need (qX (needed1.length+[(⟨[112,108,97,99,101]⟩:Str)].length)) <|
    Option.bind (strings_Split (f1.getD (⟨[112,108,97,99,101]⟩:Str) Str.nil) (⟨[32]⟩:Str)) fun r1=>
    Option.bind (zaC r1) fun r2=>
    bif(!r2.2) || (!decide ((r2.1.length:Int)=4))then(
     some (Res.ab (false,n1)))
    else(
     need (inR r2.1 0) <|
     need (inR r2.1 1) <|
     need (inR r2.1 2) <|
     need (inR r2.1 3) <|
     bnd ((⟨gx r2.1 0,gx r2.1 1,gx r2.1 2,gx r2.1 3⟩:Box)) fun v1=>
     some (Res.nx (needed1++[(⟨[112,108,97,99,101]⟩:Str)],{ n1 with Box:=v1 }))))
   else(
    some (Res.nx (needed1,n1)))) fun j_3=>
  bnd (f1.has (⟨[108,111,99,107,101,100]⟩:Str)) fun has1=>
  bnd ({ j_3.2 with Locked:=has1 }) fun c1=>
  Option.bind (gd (((!has1) || (decide ((f1.getD (⟨[108,111,99,107,101,100]⟩:Str) Str.nil)=(⟨[121,101,115]⟩:Str))))) (YL f1 j_3.1 [(⟨[116,101,120,116]⟩:Str),(⟨[99,108,97,115,115]⟩:Str),(⟨[112,97,114,101,110,116]⟩:Str),(⟨[108,111,99,107,101,100]⟩:Str)])) fun r3=>
  some (((!has1) || (decide ((f1.getD (⟨[108,111,99,107,101,100]⟩:Str) Str.nil)=(⟨[121,101,115]⟩:Str))))&&r3,c1))
noncomputable def zb0 (id1:Str)(f1:(GMap Str Str)):Option (zf×Bool):=
 Option.bind (Qd (f1.getD (⟨[122]⟩:Str) Str.nil)) fun r1=>
 bif((!r1.2) || (decide ((({ (⟨(0:Int),(none:(Option zh)),(none:(Option zu))⟩:zf)with z:=r1.1 }).z)<0))) || (decide (1000000<(({ (⟨(0:Int),(none:(Option zh)),(none:(Option zu))⟩:zf)with z:=r1.1 }).z)))then(
  some ({ (⟨(0:Int),(none:(Option zh)),(none:(Option zu))⟩:zf)with z:=r1.1 },false))
 else(
  bif decide ((f1.getD (⟨[107,105,110,100]⟩:Str) Str.nil)=(⟨[101,100,103,101]⟩:Str))then(
   bnd ((⟨id1,(⟨Str.nil,(0:Int),(0:Int)⟩:zO),(⟨Str.nil,(0:Int),(0:Int)⟩:zO),([]:(List zz)),f1.getD (⟨[116,101,120,116]⟩:Str) Str.nil,f1.getD (⟨[99,108,97,115,115]⟩:Str) Str.nil⟩:zu)) fun v1=>
   Option.bind (zb1 v1 f1) fun ok1=>
   some ({ { (⟨(0:Int),(none:(Option zh)),(none:(Option zu))⟩:zf)with z:=r1.1 }with edge:=(some ok1.2) },ok1.1))
  else(
   Option.bind (zbT) fun r2=>
   Option.bind (jB r2 (f1.getD (⟨[107,105,110,100]⟩:Str) Str.nil)) fun r3=>
   bnd ((⟨id1,r3,(⟨(0:Int),(0:Int),(0:Int),(0:Int)⟩:Box),f1.getD (⟨[116,101,120,116]⟩:Str) Str.nil,f1.getD (⟨[99,108,97,115,115]⟩:Str) Str.nil,f1.getD (⟨[112,97,114,101,110,116]⟩:Str) Str.nil,false⟩:zh)) fun v2=>
   Option.bind (zb2 v2 f1) fun ok2=>
   some ({ { (⟨(0:Int),(none:(Option zh)),(none:(Option zu))⟩:zf)with z:=r1.1 }with node:=(some ok2.2) },ok2.1)))
noncomputable def zbz (a1:Int)(cmp1:(zf→zf→Option Int))(s5_:(Int×(List zf))):Option (zL (Int×(List zf)) (List zf)):=
 need ((decide (a1<s5_.1))=true→inR s5_.2 s5_.1) <|
 need ((decide (a1<s5_.1))=true→inR s5_.2 (W (s5_.1 - 1))) <|
 Option.bind (gd ((decide (a1<s5_.1))) (cmp1 (gx s5_.2 s5_.1) (gx s5_.2 (W (s5_.1 - 1))))) fun r1=>
 bif(decide (a1<s5_.1))&&(decide (r1<0))then(
  need (inR s5_.2 (W (s5_.1 - 1))) <|
  bnd (gx s5_.2 (W (s5_.1 - 1))) fun v1=>
  need (inR s5_.2 s5_.1) <|
  bnd (gx s5_.2 s5_.1) fun v2=>
  need (inR s5_.2 s5_.1) <|
  need (inR (s5_.2.set s5_.1.toNat v1) (W (s5_.1 - 1))) <|
  bnd ((s5_.2.set s5_.1.toNat v1).set (W (s5_.1 - 1)).toNat v2) fun data2=>
  bnd (W (s5_.1 - 1)) fun j1=>
  some (zL.again (j1,data2)))
 else(
  some (zL.done s5_.2))
noncomputable def zdl (a1:Int)(b1:Int)(cmp1:(zf→zf→Option Int))(s2_:(Int×(List zf))):Option (zL (Int×(List zf)) (List zf)):=
 bif decide (s2_.1<b1)then(
  Option.bind (α:=(List zf)) (
   loop (zbz a1 cmp1) (s2_.1,s2_.2)) fun j_4=>
  bnd (W (s2_.1+1)) fun i2=>
  some (zL.again (i2,j_4)))
 else(
  some (zL.done s2_.2))
noncomputable def zby (data1:(List zf))(a1:Int)(b1:Int)(cmp1:(zf→zf→Option Int)):Option (List zf):=
 bnd (W (a1+1)) fun i1=>
 loop (zdl a1 b1 cmp1) (i1,data1)
noncomputable def zfQ (a1:Int)(b1:Int)(n1:Int)(s1_:(Int×(List zf))):Option (zL (Int×(List zf)) (List zf)):=
 bif decide (s1_.1<n1)then(
  need (inR s1_.2 (W (b1+s1_.1))) <|
  bnd (gx s1_.2 (W (b1+s1_.1))) fun v1=>
  need (inR s1_.2 (W (a1+s1_.1))) <|
  bnd (gx s1_.2 (W (a1+s1_.1))) fun v2=>
  need (inR s1_.2 (W (a1+s1_.1))) <|
  need (inR (s1_.2.set (W (a1+s1_.1)).toNat v1) (W (b1+s1_.1))) <|
  bnd ((s1_.2.set (W (a1+s1_.1)).toNat v1).set (W (b1+s1_.1)).toNat v2) fun data2=>
  bnd (W (s1_.1+1)) fun i1=>
  some (zL.again (i1,data2)))
 else(
  some (zL.done s1_.2))
noncomputable def zac (data1:(List zf))(a1:Int)(b1:Int)(n1:Int)(cmp1:(zf→zf→Option Int)):Option (List zf):=
 loop (zfQ a1 b1 n1) (0,data1)
noncomputable def zfN (m1:Int)(cmp1:(zf→zf→Option Int))(s4_:(Int×Int×(List zf))):Option (zL (Int×Int×(List zf)) (Int×(List zf))):=
 bif !decide (s4_.1=s4_.2.1)then(
  bif decide (s4_.2.1<s4_.1)then(
   Option.bind (zac s4_.2.2 (W (m1 - s4_.1)) m1 s4_.2.1 cmp1) fun r1=>
   bnd (W (s4_.1 - s4_.2.1)) fun i2=>
   some (zL.again (i2,s4_.2.1,r1)))
  else(
   Option.bind (zac s4_.2.2 (W (m1 - s4_.1)) (W ((W (m1+s4_.2.1)) - s4_.1)) s4_.1 cmp1) fun r2=>
   bnd (W (s4_.2.1 - s4_.1)) fun j2=>
   some (zL.again (s4_.1,j2,r2))))
 else(
  some (zL.done (s4_.1,s4_.2.2)))
noncomputable def zbA (data1:(List zf))(a1:Int)(m1:Int)(b1:Int)(cmp1:(zf→zf→Option Int)):Option (List zf):=
 bnd (W (m1 - a1)) fun i1=>
 bnd (W (b1 - m1)) fun j1=>
 Option.bind (α:=(Int×(List zf))) (
  loop (zfN m1 cmp1) (i1,j1,data1)) fun j_3=>
 Option.bind (zac j_3.2 (W (m1 - j_3.1)) m1 j_3.1 cmp1) fun r3=>
 some r3
noncomputable def zdo (x:((List zf)×Int×Int×Int×(zf→zf→Option Int)))(s4_:(Int×Int)):Option (zL (Int×Int) Int):=
 bif decide (s4_.1<s4_.2)then(
  bnd (W ((KI.of .u64 (W (s4_.1+s4_.2))).shr 1).n) fun h1=>
  need (inR x.1 h1) <|
  need (inR x.1 x.2.1) <|
  Option.bind (x.2.2.2.2 (gx x.1 h1) (gx x.1 x.2.1)) fun r1=>
  bif decide (r1<0)then(
   bnd (W (h1+1)) fun i1=>
   some (zL.again (i1,s4_.2)))
  else(
   some (zL.again (s4_.1,h1))))
 else(
  some (zL.done s4_.1))
noncomputable def zdp (j_3:Int)(s13_:(Int×(List zf))):Option (zL (Int×(List zf)) (List zf)):=
 bif decide (s13_.1<(W (j_3 - 1)))then(
  need (inR s13_.2 (W (s13_.1+1))) <|
  bnd (gx s13_.2 (W (s13_.1+1))) fun v1=>
  need (inR s13_.2 s13_.1) <|
  bnd (gx s13_.2 s13_.1) fun v2=>
  need (inR s13_.2 s13_.1) <|
  need (inR (s13_.2.set s13_.1.toNat v1) (W (s13_.1+1))) <|
  bnd ((s13_.2.set s13_.1.toNat v1).set (W (s13_.1+1)).toNat v2) fun data2=>
  bnd (W (s13_.1+1)) fun k1=>
  some (zL.again (k1,data2)))
 else(
  some (zL.done s13_.2))
noncomputable def zdq (x:((List zf)×Int×Int×Int×(zf→zf→Option Int)))(s26_:(Int×Int)):Option (zL (Int×Int) Int):=
 bif decide (s26_.1<s26_.2)then(
  bnd (W ((KI.of .u64 (W (s26_.1+s26_.2))).shr 1).n) fun h2=>
  need (inR x.1 x.2.2.1) <|
  need (inR x.1 h2) <|
  Option.bind (x.2.2.2.2 (gx x.1 x.2.2.1) (gx x.1 h2)) fun r2=>
  bif !(decide (r2<0))then(
   bnd (W (h2+1)) fun i2=>
   some (zL.again (i2,s26_.2)))
  else(
   some (zL.again (s26_.1,h2))))
 else(
  some (zL.done s26_.1))
noncomputable def zdr (j_25:Int)(s35_:(Int×(List zf))):Option (zL (Int×(List zf)) (List zf)):=
 bif decide (j_25<s35_.1)then(
  need (inR s35_.2 (W (s35_.1 - 1))) <|
  bnd (gx s35_.2 (W (s35_.1 - 1))) fun v3=>
  need (inR s35_.2 s35_.1) <|
  bnd (gx s35_.2 s35_.1) fun v4=>
  need (inR s35_.2 s35_.1) <|
  need (inR (s35_.2.set s35_.1.toNat v3) (W (s35_.1 - 1))) <|
  bnd ((s35_.2.set s35_.1.toNat v3).set (W (s35_.1 - 1)).toNat v4) fun data3=>
  bnd (W (s35_.1 - 1)) fun k2=>
  some (zL.again (k2,data3)))
 else(
  some (zL.done s35_.2))
noncomputable def zds (x:((List zf)×Int×Int×Int×(zf→zf→Option Int)))(n1:Int)(s51_:(Int×Int)):Option (zL (Int×Int) Int):=
 bif decide (s51_.1<s51_.2)then(
  bnd (W ((KI.of .u64 (W (s51_.1+s51_.2))).shr 1).n) fun c1=>
  need (inR x.1 (W ((W (n1 - 1)) - c1))) <|
  need (inR x.1 c1) <|
  Option.bind (x.2.2.2.2 (gx x.1 (W ((W (n1 - 1)) - c1))) (gx x.1 c1)) fun r3=>
  bif !(decide (r3<0))then(
   bnd (W (c1+1)) fun start2=>
   some (zL.again (start2,s51_.2)))
  else(
   some (zL.again (s51_.1,c1))))
 else(
  some (zL.done s51_.1))
noncomputable def jj (self:((List zf)×Int×Int×Int×(zf→zf→Option Int))→Option (List zf))(x:((List zf)×Int×Int×Int×(zf→zf→Option Int))):Option (List zf):=
 ye (σ:=Unit) (ρ:=(List zf)) (
  bif decide ((W (x.2.2.1 - x.2.1))=1)then(
   Option.bind (α:=Int) (
    loop (zdo x) (x.2.2.1,x.2.2.2.1)) fun j_3=>
   Option.bind (α:=(List zf)) (
    loop (zdp j_3) (x.2.1,x.1)) fun j_12=>
   some (Res.ab j_12))
  else(
   some (Res.nx ()))) fun j_1=>
 ye (σ:=Unit) (ρ:=(List zf)) (
  bif decide ((W (x.2.2.2.1 - x.2.2.1))=1)then(
   Option.bind (α:=Int) (
    loop (zdq x) (x.2.1,x.2.2.1)) fun j_25=>
   Option.bind (α:=(List zf)) (
    loop (zdr j_25) (x.2.2.1,x.1)) fun j_34=>
   some (Res.ab j_34))
  else(
   some (Res.nx ()))) fun j_23=>
 bnd (W ((KI.of .u64 (W (x.2.1+x.2.2.2.1))).shr 1).n) fun mid1=>
 bnd (W (mid1+x.2.2.1)) fun n1=>
 Option.bind (α:=(Int×Int)) (
  bif decide (mid1<x.2.2.1)then(
   bnd (W (n1 - x.2.2.2.1)) fun start1=>
   some (start1,mid1))
  else(
   some (x.2.1,x.2.2.1))) fun j_47=>
 Option.bind (α:=Int) (
  loop (zds x n1) (j_47.1,j_47.2)) fun j_50=>
 bnd (W (n1 - j_50)) fun end1=>
 Option.bind (α:=(List zf)) (
  bif(decide (j_50<x.2.2.1))&&(decide (x.2.2.1<end1))then(
   Option.bind (zbA x.1 j_50 x.2.2.1 end1 x.2.2.2.2) fun r4=>
   some r4)
  else(
   some x.1)) fun j_60=>
 Option.bind (α:=(List zf)) (
  bif(decide (x.2.1<j_50))&&(decide (j_50<mid1))then(
   Option.bind (self (j_60,x.2.1,j_50,mid1,x.2.2.2.2)) fun r5=>
   some r5)
  else(
   some j_60)) fun j_63=>
 bif(decide (mid1<end1))&&(decide (end1<x.2.2.2.1))then(
  Option.bind (self (j_63,mid1,end1,x.2.2.2.1,x.2.2.2.2)) fun r6=>
  some r6)
 else(
  some j_63)
noncomputable def zfR (data1:(List zf))(a1:Int)(m1:Int)(b1:Int)(cmp1:(zf→zf→Option Int)):Option (List zf):=JI jj (data1,a1,m1,b1,cmp1)
noncomputable def zdm (n1:Int)(cmp1:(zf→zf→Option Int))(s2_:(Int×Int×(List zf))):Option (zL (Int×Int×(List zf)) (Int×(List zf))):=
 bif decide (s2_.2.1≤n1)then(
  Option.bind (zby s2_.2.2 s2_.1 s2_.2.1 cmp1) fun r1=>
  bnd (W (s2_.2.1+20)) fun b1=>
  some (zL.again (s2_.2.1,b1,r1)))
 else(
  some (zL.done (s2_.1,s2_.2.2)))
noncomputable def zdn (n1:Int)(s7_:(Int×(List zf)))(cmp1:(zf→zf→Option Int))(s11_:(Int×Int×(List zf))):Option (zL (Int×Int×(List zf)) (Int×(List zf))):=
 bif decide (s11_.2.1≤n1)then(
  Option.bind (zfR s11_.2.2 s11_.1 (W (s11_.1+s7_.1)) s11_.2.1 cmp1) fun r3=>
  bnd (W (s11_.2.1+(W (2*s7_.1)))) fun b3=>
  some (zL.again (s11_.2.1,b3,r3)))
 else(
  some (zL.done (s11_.1,s11_.2.2)))
noncomputable def zfP (n1:Int)(cmp1:(zf→zf→Option Int))(s7_:(Int×(List zf))):Option (zL (Int×(List zf)) (List zf)):=
 bif decide (s7_.1<n1)then(
  bnd (W (2*s7_.1)) fun b2=>
  Option.bind (α:=(Int×(List zf))) (
   loop (zdn n1 s7_ cmp1) (0,b2,s7_.2)) fun j_10=>
  bnd (W (j_10.1+s7_.1)) fun m1=>
  Option.bind (α:=(List zf)) (
   bif decide (m1<n1)then(
    Option.bind (zfR j_10.2 j_10.1 m1 n1 cmp1) fun r4=>
    some r4)
   else(
    some j_10.2)) fun j_16=>
  bnd (W (s7_.1*2)) fun blockSize1=>
  some (zL.again (blockSize1,j_16)))
 else(
  some (zL.done s7_.2))
noncomputable def zfO (data1:(List zf))(n1:Int)(cmp1:(zf→zf→Option Int)):Option (List zf):=
 Option.bind (α:=(Int×(List zf))) (
  loop (zdm n1 cmp1) (0,20,data1)) fun j_1=>
 Option.bind (zby j_1.2 j_1.1 n1 cmp1) fun r2=>
 loop (zfP n1 cmp1) (20,r2)
noncomputable def zdk (x1:(List zf))(cmp1:(zf→zf→Option Int)):Option (List zf):=
 Option.bind (zfO x1 (x1.length:Int) cmp1) fun r1=>
 some r1
noncomputable def zaz (a1:zf)(b1:zf):Option Int:=
 Option.bind (Ya a1.z b1.z) fun r1=>
 some r1
noncomputable def zbR (l1:(List zv))(t1:(GMap Str (GMap Str Str)))(i:Int)(s:(List zf)):Option (Res (List zf) (Res (List zf) (Doc×Int))):=
 need (inR l1 i) <|
 bnd (gx l1 i) fun v3=>
 Option.bind (zb0 v3.Id (t1.getD v3.Id (GMap.nil:(GMap Str Str)))) fun r1=>
 bif !r1.2 then(
  bnd ((⟨([]:(List zh)),([]:(List zu))⟩:Doc)) fun v4=>
  some (Res.ab (Res.ab (v4,8))))
 else(
  need (qX (s.length+[r1.1].length)) <|
  some (Res.nx (s++[r1.1])))
noncomputable def zbS (r2:(List zf))(i:Int)(s:Doc):Option Doc:=
 need (inR r2 i) <|
 bnd (gx r2 i) fun v5=>
 bif v5.node.isSome then(
  Option.bind v5.node fun p1=>
  need (qX (s.Nodes.length+[p1].length)) <|
  some ({ s with Nodes:=s.Nodes++[p1],Edges:=s.Edges }))
 else(
  Option.bind v5.edge fun p2=>
  need (qX (s.Edges.length+[p2].length)) <|
  some ({ s with Nodes:=s.Nodes,Edges:=s.Edges++[p2] }))
noncomputable def QK (l1:(List zv)):Option (Doc×Int):=
 bnd ((⟨([]:(List zh)),([]:(List zu))⟩:Doc)) fun v1=>
 Option.bind (zbP l1) fun e1=>
 bif !decide (e1=0)then(
  bnd ((⟨([]:(List zh)),([]:(List zu))⟩:Doc)) fun v2=>
  some (v2,e1))
 else(
  Option.bind (zb3 l1) fun t1=>
  ye (σ:=(List zf)) (ρ:=(Doc×Int)) (
   zZ (l1.length:Int) (zbR l1 t1) (fun s=>Res.nx s) ([]:List zf)) fun j_6=>
  Option.bind (zdk j_6 zaz) fun r2=>
  Option.bind (α:=Doc) (
   y7 (r2.length:Int) (zbS r2) (⟨([]:List zh),([]:List zu)⟩:Doc)) fun j_17=>
  Option.bind (Ys ({ j_17 with Nodes:=j_17.Nodes,Edges:=j_17.Edges })) fun e2=>
  bif !decide (e2=0)then(
   bnd ((⟨([]:(List zh)),([]:(List zu))⟩:Doc)) fun v6=>
   some (v6,e2))
  else(
   bnd ({ j_17 with Nodes:=j_17.Nodes,Edges:=j_17.Edges }) fun v7=>
   some (v7,0)))
noncomputable def zhP (s1_1:(List zh))(s2_1:(List zh))(i:Int)(s:Unit):Option (Res Unit (Res Unit Bool)):=
 need (inR s1_1 i) <|
 need (inR s2_1 i) <|
 bif !decide ((gx s1_1 i)=(gx s2_1 i))then(
  some (Res.ab (Res.ab false)))
 else(
  some (Res.nx ()))
noncomputable def zdg (s1_1:(List zh))(s2_1:(List zh)):Option Bool:=
 bif !decide ((s1_1.length:Int)=(s2_1.length:Int))then(
  some false)
 else(
  ye (σ:=Unit) (ρ:=Bool) (
   zZ (s1_1.length:Int) (zhP s1_1 s2_1) (fun s=>Res.nx s) ()) fun j_2=>
  some true)
noncomputable def zfK (eq1:(zu→zu→Option Bool))(s1_1:(List zu))(s2_1:(List zu))(i:Int)(s:Unit):Option (Res Unit (Res Unit Bool)):=
 need (inR s1_1 i) <|
 bnd (gx s1_1 i) fun v1=>
 need (inR s2_1 i) <|
 bnd (gx s2_1 i) fun v2=>
 Option.bind (eq1 v1 v2) fun r1=>
 bif !r1 then(
  some (Res.ab (Res.ab false)))
 else(
  some (Res.nx ()))
noncomputable def zde (s1_1:(List zu))(s2_1:(List zu))(eq1:(zu→zu→Option Bool)):Option Bool:=
 bif !decide ((s1_1.length:Int)=(s2_1.length:Int))then(
  some false)
 else(
  ye (σ:=Unit) (ρ:=Bool) (
   zZ (s1_1.length:Int) (zfK eq1 s1_1 s2_1) (fun s=>Res.nx s) ()) fun j_2=>
  some true)
noncomputable def zhQ (s1_1:(List zz))(s2_1:(List zz))(i:Int)(s:Unit):Option (Res Unit (Res Unit Bool)):=
 need (inR s1_1 i) <|
 need (inR s2_1 i) <|
 bif !decide ((gx s1_1 i)=(gx s2_1 i))then(
  some (Res.ab (Res.ab false)))
 else(
  some (Res.nx ()))
noncomputable def zdh (s1_1:(List zz))(s2_1:(List zz)):Option Bool:=
 bif !decide ((s1_1.length:Int)=(s2_1.length:Int))then(
  some false)
 else(
  ye (σ:=Unit) (ρ:=Bool) (
   zZ (s1_1.length:Int) (zhQ s1_1 s2_1) (fun s=>Res.nx s) ()) fun j_2=>
  some true)
noncomputable def Je (x1:zu)(y1:zu):Option Bool:=
 Option.bind (gd ((((decide (x1.Id=y1.Id))&&(decide (x1.From=y1.From)))&&(decide (x1.To=y1.To)))) (zdh x1.Bends y1.Bends)) fun r1=>
 some ((((((decide (x1.Id=y1.Id))&&(decide (x1.From=y1.From)))&&(decide (x1.To=y1.To)))&&r1)&&(decide (x1.Text=y1.Text)))&&(decide (x1.Class=y1.Class)))
noncomputable def J2 (a1:Doc)(b1:Doc):Option Bool:=
 Option.bind (zdg a1.Nodes b1.Nodes) fun r1=>
 Option.bind (gd (r1) (zde a1.Edges b1.Edges Je)) fun r2=>
 some (r1&&r2)
noncomputable def zcY (v1:zv)(i:Int)(s:Unit):Option (Res Unit (Res Unit (Res Unit Int))):=
 need (inR v1.Attrs i) <|
 bnd (gx v1.Attrs i) fun v2=>
 Option.bind (QR v2.Field) fun r6=>
 Option.bind (qF (!r6) 5) fun r7=>
 need ((decide (0<i))=true→inR v1.Attrs (W ((max i 1) - 1))) <|
 Option.bind (qF ((decide (0<i))&&(Op.bytesLess v2.Field.b ((gx v1.Attrs (W ((max i 1) - 1))).Field).b || v2.Field.b==((gx v1.Attrs (W ((max i 1) - 1))).Field).b)) 7) fun r8=>
 Option.bind (Jf v2.Value) fun r9=>
 Option.bind (jU [r7,r8,r9]) fun e2=>
 bif !decide (e2=0)then(
  some (Res.ab (Res.ab (Res.ab e2))))
 else(
  some (Res.nx ()))
noncomputable def zfl (l1:(List zv))(i:Int)(s:Unit):Option (Res Unit (Res Unit Int)):=
 need (inR l1 i) <|
 bnd (gx l1 i) fun v1=>
 Option.bind (QR v1.Id) fun r1=>
 Option.bind (qF (!r1) 5) fun r2=>
 need ((decide (0<i))=true→inR l1 (W ((max i 1) - 1))) <|
 Option.bind (qF ((decide (0<i))&&(Op.bytesLess v1.Id.b ((gx l1 (W ((max i 1) - 1))).Id).b || v1.Id.b==((gx l1 (W ((max i 1) - 1))).Id).b)) 7) fun r3=>
 Option.bind (qF (decide ((v1.Attrs.length:Int)=0)) 9) fun r4=>
 Option.bind (qF (decide (20<(v1.Attrs.length:Int))) 4) fun r5=>
 Option.bind (jU [r2,r3,r4,r5]) fun e1=>
 bif !decide (e1=0)then(
  some (Res.ab (Res.ab e1)))
 else(
  zZ (v1.Attrs.length:Int) (zcY v1) (fun s=>Res.nx s) ())
noncomputable def zbk (l1:(List zv)):Option Int:=
 bif decide (2000<(l1.length:Int))then(
  some 4)
 else(
  ye (σ:=Unit) (ρ:=Int) (
   zZ (l1.length:Int) (zfl l1) (fun s=>Res.nx s) ()) fun j_2=>
  some 0)
noncomputable def zfi (v1:zv)(i:Int)(s:(GMap Str (GMap Str Str))):Option (GMap Str (GMap Str Str)):=
 need (inR v1.Attrs i) <|
 bnd (gx v1.Attrs i) fun v2=>
 need (s.has v1.Id=true) <|
 some (s.set v1.Id ((s.getD v1.Id GMap.nil).set v2.Field v2.Value))
noncomputable def zfh (l1:(List zv))(i:Int)(s:(GMap Str (GMap Str Str))):Option (GMap Str (GMap Str Str)):=
 need (inR l1 i) <|
 bnd (gx l1 i) fun v1=>
 bnd (s.set v1.Id (GMap.nil:(GMap Str Str))) fun m2=>
 y7 (v1.Attrs.length:Int) (zfi v1) m2
noncomputable def zcP (l1:(List zv)):Option (GMap Str (GMap Str Str)):=
 bnd ((GMap.nil:(GMap Str (GMap Str Str)))) fun m1=>
 Option.bind (α:=(GMap Str (GMap Str Str))) (
  y7 (l1.length:Int) (zfh l1) m1) fun j_2=>
 some j_2
noncomputable def vg (m1:(GMap Str Str))(f1:Str):Option (Str×Bool×(GMap Str Str)):=
 bnd (m1.del f1) fun c1=>
 some (m1.getD f1 Str.nil,m1.has f1,c1)
noncomputable def zcV (r1:(List Str))(i:Int)(s:(List Int)):Option (Res (List Int) (Res (List Int) ((List Int)×Bool))):=
 need (inR r1 i) <|
 bnd (gx r1 i) fun w1=>
 Option.bind (QC w1) fun r2=>
 Option.bind (gd (!r2.2.is) (strconv_Itoa r2.1)) fun r3=>
 Option.bind (gd (!(r2.2.is || (!decide (r3=w1)))) (zbC w1 (⟨[45]⟩:Str))) fun r4=>
 bif(r2.2.is || (!decide (r3=w1))) || (decide (7<(r4.b.length:Int)))then(
  some (Res.ab (Res.ab (([]:(List Int)),false))))
 else(
  need (qX (s.length+[r2.1].length)) <|
  some (Res.nx (s++[r2.1])))
noncomputable def Jd (s1:Str):Option ((List Int)×Bool):=
 Option.bind (strings_Split s1 (⟨[32]⟩:Str)) fun r1=>
 ye (σ:=(List Int)) (ρ:=((List Int)×Bool)) (
  zZ (r1.length:Int) (zcV r1) (fun s=>Res.nx s) ([]:List Int)) fun j_2=>
 some (j_2,true)
noncomputable def zbg (s1:Str):Option (zO×Bool):=
 bnd ((⟨Str.nil,(0:Int),(0:Int)⟩:zO)) fun v1=>
 Option.bind (strings_Split s1 (⟨[32]⟩:Str)) fun w1=>
 bif !decide ((w1.length:Int)=3)then(
  bnd ((⟨Str.nil,(0:Int),(0:Int)⟩:zO)) fun v2=>
  some (v2,false))
 else(
  Option.bind (vU (⟨[117,112,32,114,105,103,104,116,32,100,111,119,110,32,108,101,102,116]⟩:Str)) fun r1=>
  need (inR w1 1) <|
  Option.bind (jB r1 (gx w1 1)) fun r2=>
  bnd (W (r2+1)) fun k1=>
  need (inR w1 2) <|
  Option.bind (Jd (gx w1 2)) fun r3=>
  need (((decide (k1=0)) || (!r3.2))=false→inR w1 0) <|
  bif((decide (k1=0)) || (!r3.2)) || (decide ((gx w1 0)=Str.nil))then(
   bnd ((⟨Str.nil,(0:Int),(0:Int)⟩:zO)) fun v3=>
   some (v3,false))
  else(
   need (inR w1 0) <|
   need (inR r3.1 0) <|
   bnd ((⟨gx w1 0,k1,gx r3.1 0⟩:zO)) fun v4=>
   some (v4,true)))
noncomputable def zbd (l1:(List Int))(s2_:((List zz)×Int)):Option (zL ((List zz)×Int) (List zz)):=
 bif decide (s2_.2<(l1.length:Int))then(
  need (inR l1 (W (s2_.2 - 1))) <|
  need (inR l1 s2_.2) <|
  need (qX (s2_.1.length+[(⟨gx l1 (W (s2_.2 - 1)),gx l1 s2_.2⟩:zz)].length)) <|
  bnd (s2_.1++[(⟨gx l1 (W (s2_.2 - 1)),gx l1 s2_.2⟩:zz)]) fun out1=>
  bnd (W (s2_.2+2)) fun i1=>
  some (zL.again (out1,i1)))
 else(
  some (zL.done s2_.1))
noncomputable def zcT (l1:(List Int)):Option (List zz):=
 Option.bind (α:=(List zz)) (
  loop (zbd l1) (([]:List zz),1)) fun j_1=>
 some j_1
noncomputable def zc6 (m1:(GMap Str Str)):Option (zu×Bool×(GMap Str Str)):=
 bnd ((⟨Str.nil,(⟨Str.nil,(0:Int),(0:Int)⟩:zO),(⟨Str.nil,(0:Int),(0:Int)⟩:zO),([]:(List zz)),Str.nil,Str.nil⟩:zu)) fun v1=>
 Option.bind (vg m1 (⟨[102,114,111,109]⟩:Str)) fun r1=>
 Option.bind (vg r1.2.2 (⟨[116,111]⟩:Str)) fun r2=>
 Option.bind (vg r2.2.2 (⟨[98,101,110,100,115]⟩:Str)) fun r3=>
 bnd ((⟨Str.nil,(⟨Str.nil,(0:Int),(0:Int)⟩:zO),(⟨Str.nil,(0:Int),(0:Int)⟩:zO),([]:(List zz)),Str.nil,Str.nil⟩:zu)) fun x1=>
 Option.bind (zbg r1.1) fun r4=>
 bnd ({ x1 with From:=r4.1 }) fun x2=>
 Option.bind (zbg r2.1) fun r5=>
 bnd ({ x2 with To:=r5.1 }) fun x3=>
 ye (σ:=zu) (ρ:=(zu×Bool×(GMap Str Str))) (
  bif r3.2.1 then(
   Option.bind (Jd r3.1) fun r6=>
   bif(!r6.2) || (!decide (((r6.1.length:Int).tmod 2)=0))then(
    some (Res.ab (x3,false,r3.2.2)))
   else(
    Option.bind (zcT r6.1) fun r7=>
    some (Res.nx ({ x3 with Bends:=r7 }))))
  else(
   some (Res.nx x3))) fun j_10=>
 need ((r4.2&&r5.2)=true→r3.2.2.size≤9223372036854775807) <|
 some (j_10,(r4.2&&r5.2)&&(decide (r3.2.2.size=0)),r3.2.2)
noncomputable def zc7 (kind1:Str)(m1:(GMap Str Str)):Option (zh×Bool×(GMap Str Str)):=
 bnd ((⟨Str.nil,(0:Int),(⟨(0:Int),(0:Int),(0:Int),(0:Int)⟩:Box),Str.nil,Str.nil,Str.nil,false⟩:zh)) fun v1=>
 Option.bind (vU (⟨[98,111,120,32,114,111,117,110,100,32,111,118,97,108,32,100,105,97,109,111,110,100,32,110,111,116,101,32,103,114,111,117,112]⟩:Str)) fun r1=>
 Option.bind (jB r1 kind1) fun r2=>
 bnd ((⟨Str.nil,W (r2+1),(⟨(0:Int),(0:Int),(0:Int),(0:Int)⟩:Box),Str.nil,Str.nil,Str.nil,false⟩:zh)) fun v2=>
 Option.bind (vg m1 (⟨[112,108,97,99,101]⟩:Str)) fun r3=>
 bif(decide (v2.Kind=0)) || (decide (r3.2.1=(decide (v2.Kind=6))))then(
  some (v2,false,r3.2.2))
 else(
  ye (σ:=zh) (ρ:=(zh×Bool×(GMap Str Str))) (
   bif r3.2.1 then(
    Option.bind (Jd r3.1) fun r4=>
    bif(!r4.2) || (!decide ((r4.1.length:Int)=4))then(
     some (Res.ab (v2,false,r3.2.2)))
    else(
     need (inR r4.1 0) <|
     need (inR r4.1 1) <|
     need (inR r4.1 2) <|
     need (inR r4.1 3) <|
     bnd ((⟨gx r4.1 0,gx r4.1 1,gx r4.1 2,gx r4.1 3⟩:Box)) fun v3=>
     some (Res.nx ({ v2 with Box:=v3 }))))
   else(
    some (Res.nx v2))) fun j_7=>
  Option.bind (vg r3.2.2 (⟨[112,97,114,101,110,116]⟩:Str)) fun r5=>
  Option.bind (vg r5.2.2 (⟨[108,111,99,107,101,100]⟩:Str)) fun r6=>
  bnd ({ { j_7 with Parent:=r5.1 }with Locked:=r6.2.1 }) fun v4=>
  need (((!(r5.2.1&&(decide (r5.1=Str.nil))))&&(!(r6.2.1&&(!decide (r6.1=(⟨[121,101,115]⟩:Str))))))=true→r6.2.2.size≤9223372036854775807) <|
  some (v4,((!(r5.2.1&&(decide (r5.1=Str.nil))))&&(!(r6.2.1&&(!decide (r6.1=(⟨[121,101,115]⟩:Str))))))&&(decide (r6.2.2.size=0)),r6.2.2))
noncomputable def zhU (l:List yt):Option (List yt):=need ((l.length:Int)<4611686018427387904∧(∀x∈l,0≤x.z∧x.z≤1000000)∧(l.map fun x=>(x.z,x.id)).Nodup) (some (JP je (fun x=>(x.z,x.id)) l))
noncomputable def zfq (r1:(List yt))(i:Int)(s:(List zh)):Option (List zh):=
 need (inR r1 i) <|
 bnd (gx r1 i) fun v1=>
 need (qX (s.length+[v1.x].length)) <|
 some (s++[v1.x])
noncomputable def zc3 (l1:(List yt)):Option ((List zh)×(List yt)):=
 Option.bind (zhU l1) fun r1=>
 Option.bind (α:=(List zh)) (
  y7 (r1.length:Int) (zfq r1) ([]:List zh)) fun j_2=>
 some (j_2,r1)
noncomputable def zhT (l:List yu):Option (List yu):=need ((l.length:Int)<4611686018427387904∧(∀x∈l,0≤x.z∧x.z≤1000000)∧(l.map fun x=>(x.z,x.id)).Nodup) (some (JP je (fun x=>(x.z,x.id)) l))
noncomputable def zfp (r1:(List yu))(i:Int)(s:(List zu)):Option (List zu):=
 need (inR r1 i) <|
 bnd (gx r1 i) fun v1=>
 need (qX (s.length+[v1.x].length)) <|
 some (s++[v1.x])
noncomputable def zc2 (l1:(List yu)):Option ((List zu)×(List yu)):=
 Option.bind (zhT l1) fun r1=>
 Option.bind (α:=(List zu)) (
  y7 (r1.length:Int) (zfp r1) ([]:List zu)) fun j_2=>
 some (j_2,r1)
noncomputable def zcX (l1:(List zv))(i:Int)(s:((List yt)×(List yu))):Option (Res ((List yt)×(List yu)) (Res ((List yt)×(List yu)) (Doc×Int))):=
 need (inR l1 i) <|
 bnd (gx l1 i) fun v2=>
 Option.bind (zcP [v2]) fun r1=>
 need (r1.has v2.Id=true) <|
 bnd (r1.getD v2.Id GMap.nil) fun m1=>
 Option.bind (vg m1 (⟨[107,105,110,100]⟩:Str)) fun r2=>
 Option.bind (vg r2.2.2 (⟨[122]⟩:Str)) fun r3=>
 Option.bind (Jd r3.1) fun r4=>
 Option.bind (vg r3.2.2 (⟨[116,101,120,116]⟩:Str)) fun r5=>
 Option.bind (vg r5.2.2 (⟨[99,108,97,115,115]⟩:Str)) fun r6=>
 need (((!r4.2) || (!decide ((r4.1.length:Int)=1)))=false→inR r4.1 0) <|
 Option.bind (gd (!((!r4.2) || (!decide ((r4.1.length:Int)=1)))) (vz (gx r4.1 0) 0 1000000)) fun r7=>
 bif((((!r4.2) || (!decide ((r4.1.length:Int)=1))) || (!r7)) || (r5.2.1&&(decide (r5.1=Str.nil)))) || (r6.2.1&&(decide (r6.1=Str.nil)))then(
  bnd ((⟨([]:(List zh)),([]:(List zu))⟩:Doc)) fun v3=>
  some (Res.ab (Res.ab (v3,8))))
 else(
  bif decide (r2.1=(⟨[101,100,103,101]⟩:Str))then(
   Option.bind (zc6 r6.2.2) fun r8=>
   bif !r8.2.1 then(
    bnd ((⟨([]:(List zh)),([]:(List zu))⟩:Doc)) fun v4=>
    some (Res.ab (Res.ab (v4,8))))
   else(
    need (inR r4.1 0) <|
    need (qX (s.2.length+[(⟨gx r4.1 0,v2.Id,{ { { r8.1 with Id:=v2.Id }with Text:=r5.1 }with Class:=r6.1 }⟩:yu)].length)) <|
    bnd (s.2++[(⟨gx r4.1 0,v2.Id,{ { { r8.1 with Id:=v2.Id }with Text:=r5.1 }with Class:=r6.1 }⟩:yu)]) fun edges1=>
    some (Res.nx (s.1,edges1))))
  else(
   Option.bind (zc7 r2.1 r6.2.2) fun r9=>
   bif !r9.2.1 then(
    bnd ((⟨([]:(List zh)),([]:(List zu))⟩:Doc)) fun v5=>
    some (Res.ab (Res.ab (v5,8))))
   else(
    need (inR r4.1 0) <|
    need (qX (s.1.length+[(⟨gx r4.1 0,v2.Id,{ { { r9.1 with Id:=v2.Id }with Text:=r5.1 }with Class:=r6.1 }⟩:yt)].length)) <|
    some (Res.nx (s.1++[(⟨gx r4.1 0,v2.Id,{ { { r9.1 with Id:=v2.Id }with Text:=r5.1 }with Class:=r6.1 }⟩:yt)],s.2)))))
noncomputable def zbj (l1:(List zv)):Option (Doc×Int):=
 bnd ((⟨([]:(List zh)),([]:(List zu))⟩:Doc)) fun v1=>
 ye (σ:=((List yt)×(List yu))) (ρ:=(Doc×Int)) (
  zZ (l1.length:Int) (zcX l1) (fun s=>Res.nx s) (([]:List yt),([]:List yu))) fun j_2=>
 Option.bind (zc3 j_2.1) fun r10=>
 Option.bind (zc2 j_2.2) fun r11=>
 bnd ((⟨r10.1,r11.1⟩:Doc)) fun v6=>
 Option.bind (Ja v6) fun e1=>
 bif !decide (e1=0)then(
  bnd ((⟨([]:(List zh)),([]:(List zu))⟩:Doc)) fun v7=>
  some (v7,e1))
 else(
  some (v6,0))
noncomputable def JS (d1:Doc)(e1:Int)(want1:Int)(right1:Doc):Option Bool:=
 bif !decide (want1=0)then(
  some (((decide ((d1.Nodes.length:Int)=0))&&(decide ((d1.Edges.length:Int)=0)))&&(decide (e1=want1))))
 else(
  Option.bind (gd ((decide (e1=0))) (J2 d1 right1)) fun r1=>
  some ((decide (e1=0))&&r1))
noncomputable def zey (d1:Doc)(l1:(List zv)):Option Bool:=
 Option.bind (Ja d1) fun own1=>
 Option.bind (JB d1) fun r1=>
 Option.bind (zcr) fun r2=>
 Option.bind (gd (!(!r2)) (JT r1.1 r1.2 own1 (zaX d1))) fun r3=>
 bif(!r2) || (!r3)then(
  some false)
 else(
  ye (σ:=Unit) (ρ:=Bool) (
   bif decide (own1=0)then(
    Option.bind (QK r1.1) fun r4=>
    Option.bind (gd (!(!decide (r4.2=0))) (J2 r4.1 d1)) fun r5=>
    bif(!decide (r4.2=0)) || (!r5)then(
     some (Res.ab false))
    else(
     some (Res.nx ())))
   else(
    some (Res.nx ()))) fun j_6=>
  Option.bind (QK l1) fun r6=>
  Option.bind (zbk l1) fun want1=>
  bnd ((⟨([]:(List zh)),([]:(List zu))⟩:Doc)) fun right1=>
  Option.bind (α:=(Int×Doc)) (
   bif decide (want1=0)then(
    Option.bind (zbj l1) fun r7=>
    some (r7.2,r7.1))
   else(
    some (want1,right1))) fun j_14=>
  Option.bind (JS r6.1 r6.2 j_14.1 j_14.2) fun r8=>
  some r8)
end Go.DB
