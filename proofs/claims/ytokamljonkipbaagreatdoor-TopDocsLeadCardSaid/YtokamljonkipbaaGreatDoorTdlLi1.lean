/- A part of the proof. -/
import Derived.Test.YtokamljonkipbaaGreatDoorTdlTy
set_option maxRecDepth 100000
set_option linter.unusedVariables false
namespace Go.DB
open Go Go.RowKit
noncomputable def zff (c:Str):Option Str:=zg (c.b.length≤70368744177664) (some c)
noncomputable def zfe (c:Str):Option (Int×Str):=zg (c.b.length≤70368744177664) (some ((c.b.length:Int),c))
noncomputable def zbq (c s:Str):Option Str:=zg (c.b.length+s.b.length≤70368744177664) (some ⟨c.b++s.b⟩)
noncomputable def zbS (s:Str):Option Str:=zg (s.b.length≤4294967296) (some (j7 s))
noncomputable def strings_Join (l:List Str)(sep:Str):Option Str:=zg (l.length≤1000000000∧(zaO l sep).b.length≤1000000000) (some (zaO l sep))
noncomputable def strconv_Itoa (n:Int):Option Str:=zg ((yf n).b.length≤1000000) (some (yf n))
noncomputable def QR (s cs:Str):Option Str:=zg ((cs.b.length:Int)<4294967281∧cs.b.all (fun b=>decide (b.toNat<128))=true) (some (trimS s cs))
noncomputable def utf8_ValidString (s:Str):Option Bool:=some (Yy s)
noncomputable def zfd (s:Str):Option (Int×Yz):=zg (s.b.length≤4294967281) (some (zbH s))
noncomputable def strings_Split (s sep:Str):Option (List Str):=zg ((s.b.length:Int)<4294967281∧sep.b≠[]) (some (Jf s sep))
noncomputable def strings_IndexByte (s:Str)(c:KI .u8):Option Int:=zg ((s.b.length:Int)<4611686018427387904) (some (zd7 s c))
noncomputable def strings_Cut (s sep:Str):Option (Str×Str×Bool):=zg ((s.b.length:Int)<4294967281∧(jB s sep).1.b.length≤4294967281∧(jB s sep).2.1.b.length≤4294967281) (some (jB s sep))
noncomputable def slices_Sort_string (l:List Str):Option (List Str):=zg ((l.length:Int)<4611686018427387904) (some (jb l))
noncomputable def ze9 (n:Int):Option (List zu):=zg (0≤n∧n≤1073741824) (some [])
noncomputable def QM (s1:Str):Option Bool:=
 zg (((!decide (s1=Str.nil))&&(decide ((s1.b.length:Int)≤40)))=true→inR s1.b 0) <|
 zg (((!decide (s1=Str.nil))&&(decide ((s1.b.length:Int)≤40)))=true→(decide ((⟨97⟩:KI .u8).n≤(⟨((gx s1.b 0).toNat:Int)⟩:KI .u8).n))=true→inR s1.b 0) <|
 Option.bind (gd ((((!decide (s1=Str.nil))&&(decide ((s1.b.length:Int)≤40)))&&((decide ((⟨97⟩:KI .u8).n≤(⟨((gx s1.b 0).toNat:Int)⟩:KI .u8).n))&&(decide ((⟨((gx s1.b 0).toNat:Int)⟩:KI .u8).n≤(⟨122⟩:KI .u8).n))))) (QR s1 (⟨[97,98,99,100,101,102,103,104,105,106,107,108,109,110,111,112,113,114,115,116,117,118,119,120,121,122,48,49,50,51,52,53,54,55,56,57,45]⟩:Str))) fun r1=>
 some ((((!decide (s1=Str.nil))&&(decide ((s1.b.length:Int)≤40)))&&((decide ((⟨97⟩:KI .u8).n≤(⟨((gx s1.b 0).toNat:Int)⟩:KI .u8).n))&&(decide ((⟨((gx s1.b 0).toNat:Int)⟩:KI .u8).n≤(⟨122⟩:KI .u8).n))))&&(decide (r1=Str.nil)))
noncomputable def YS (n1:Int):Option Bool:=
 some ((decide (n1<(-1000000))) || (decide (1000000<n1)))
noncomputable def YR (b1:Box):Option Int:=
 Option.bind (YS b1.X) fun r1=>
 Option.bind (gd (!r1) (YS b1.Y)) fun r2=>
 bif((((r1 || r2) || (decide (b1.W_<1))) || (decide (20000<b1.W_))) || (decide (b1.H<1))) || (decide (20000<b1.H))then(
  some 3)
 else(
  some 0)
noncomputable def zhG (s1:Str)(i:Int)(s:Unit):Option (Res Unit (Res Unit Int)):=
 zg (inR s1.b i) <|
 zg ((decide ((⟨((gx s1.b i).toNat:Int)⟩:KI .u8).n<(⟨32⟩:KI .u8).n))=true→inR s1.b i) <|
 zg (((decide ((⟨((gx s1.b i).toNat:Int)⟩:KI .u8).n<(⟨32⟩:KI .u8).n))&&(!decide ((⟨((gx s1.b i).toNat:Int)⟩:KI .u8).n=(⟨10⟩:KI .u8).n)))=false→inR s1.b i) <|
 bif((decide ((⟨((gx s1.b i).toNat:Int)⟩:KI .u8).n<(⟨32⟩:KI .u8).n))&&(!decide ((⟨((gx s1.b i).toNat:Int)⟩:KI .u8).n=(⟨10⟩:KI .u8).n))) || (decide ((⟨((gx s1.b i).toNat:Int)⟩:KI .u8).n=(⟨127⟩:KI .u8).n))then(
  some (Res.ab (Res.ab 2)))
 else(
  some (Res.nx ()))
noncomputable def Yr (s1:Str):Option Int:=
 bif decide (1000<(s1.b.length:Int))then(
  some 4)
 else(
  Option.bind (utf8_ValidString s1) fun r1=>
  bif !r1 then(
   some 2)
  else(
   yc (σ:=Unit) (ρ:=Int) (
    z7 (s1.b.length:Int) (zhG s1) (fun s=>Res.nx s) ()) fun j_4=>
   some 0))
noncomputable def zcv (n1:zl)(twice1:Bool):Option Int:=
 Option.bind (QM n1.Id) fun r1=>
 bif !r1 then(
  some 5)
 else(
  bif twice1 then(
   some 6)
  else(
   bif(decide (n1.Kind<1)) || (decide (6<n1.Kind))then(
    some 1)
   else(
    bif(decide (n1.Kind=6))&&(!decide (n1.Box=(⟨(0:Int),(0:Int),(0:Int),(0:Int)⟩:Box)))then(
     some 2)
    else(
     yc (σ:=Unit) (ρ:=Int) (
      bif !decide (n1.Kind=6)then(
       Option.bind (YR n1.Box) fun e1=>
       bif !decide (e1=0)then(
        some (Res.ab e1))
       else(
        some (Res.nx ())))
      else(
       some (Res.nx ()))) fun j_6=>
     Option.bind (Yr n1.Text) fun e2=>
     bif !decide (e2=0)then(
      some e2)
     else(
      Option.bind (gd ((!decide (n1.Class=Str.nil))) (QM n1.Class)) fun r2=>
      bif(!decide (n1.Class=Str.nil))&&(!r2)then(
       some 5)
      else(
       some 0))))))
noncomputable def zeG (d1:Doc)(i:Int)(s:((GMap Str Int)×(GMap Str (List Int)))):Option ((GMap Str Int)×(GMap Str (List Int))):=
 zg (inR d1.Nodes i) <|
 bnd (gx d1.Nodes i) fun v1=>
 bnd (s.1.set v1.Id i) fun c3=>
 bif !decide (v1.Parent=Str.nil)then(
  zg (qd ((s.2.getD v1.Parent ([]:(List Int))).length+[i].length)) <|
  some (c3,s.2.set v1.Parent ((s.2.getD v1.Parent ([]:(List Int)))++[i])))
 else(
  some (c3,s.2))
noncomputable def zcw (d1:Doc):Option (Option yr):=
 bnd ((GMap.nil:(GMap Str Int))) fun c1=>
 bnd ((GMap.nil:(GMap Str (List Int)))) fun c2=>
 Option.bind (α:=((GMap Str Int)×(GMap Str (List Int)))) (
  yV (d1.Nodes.length:Int) (zeG d1) (c1,c2)) fun j_3=>
 some (some (⟨d1,j_3.1,j_3.2⟩:yr))
noncomputable def zcE (v1:yr)(id1:Str):Option zl:=
 bnd ((⟨Str.nil,(0:Int),(⟨(0:Int),(0:Int),(0:Int),(0:Int)⟩:Box),Str.nil,Str.nil,Str.nil,false⟩:zl)) fun v2=>
 zg (inR v1.d.Nodes (v1.number.getD id1 (0:Int))) <|
 bnd (gx v1.d.Nodes (v1.number.getD id1 (0:Int))) fun v3=>
 some v3
noncomputable def zcx (n1:zl)(v1:yr)(s2_:(Int×zl)):Option (zN (Int×zl) (Res Int (Int×Bool))):=
 bif !decide (s2_.2.Parent=Str.nil)then(
  bnd (W (s2_.1+1)) fun many1=>
  bif(decide (s2_.2.Parent=n1.Id)) || (decide ((v1.d.Nodes.length:Int)<many1))then(
   some (zN.done (Res.ab (many1,!decide (s2_.2.Parent=n1.Id)))))
  else(
   Option.bind (zcE v1 s2_.2.Parent) fun r1=>
   some (zN.again (many1,r1))))
 else(
  some (zN.done (Res.nx s2_.1)))
noncomputable def Ym (v1:yr)(n1:zl):Option (Int×Bool):=
 yc (σ:=Int) (ρ:=(Int×Bool)) (
  loop (zcx n1 v1) (0,n1)) fun j_1=>
 some (j_1,true)
noncomputable def zcA (v1:yr)(i:Int)(s:Unit):Option (Res Unit (Res Unit Int)):=
 zg (inR v1.d.Nodes i) <|
 bnd (gx v1.d.Nodes i) fun v2=>
 zg ((!decide (v2.Parent=Str.nil))=true→(!(v1.number.has v2.Parent))=false→inR v1.d.Nodes (v1.number.getD v2.Parent (0:Int))) <|
 bif(!decide (v2.Parent=Str.nil))&&((!(v1.number.has v2.Parent)) || (!decide (((gx v1.d.Nodes (v1.number.getD v2.Parent (0:Int))).Kind)=6)))then(
  some (Res.ab (Res.ab 10)))
 else(
  some (Res.nx ()))
noncomputable def zcB (v1:yr)(i:Int)(s:Unit):Option (Res Unit (Res Unit Int)):=
 zg (inR v1.d.Nodes i) <|
 bnd (gx v1.d.Nodes i) fun v3=>
 Option.bind (Ym v1 v3) fun r1=>
 bif !r1.2 then(
  some (Res.ab (Res.ab 13)))
 else(
  some (Res.nx ()))
noncomputable def zcC (v1:yr)(i:Int)(s:Unit):Option (Res Unit (Res Unit Int)):=
 zg (inR v1.d.Nodes i) <|
 bnd (gx v1.d.Nodes i) fun v4=>
 Option.bind (Ym v1 v4) fun r2=>
 bif decide (8<r2.1)then(
  some (Res.ab (Res.ab 4)))
 else(
  some (Res.nx ()))
noncomputable def zcD (v1:yr)(i:Int)(s:Unit):Option (Res Unit (Res Unit Int)):=
 zg (inR v1.d.Nodes i) <|
 bnd (gx v1.d.Nodes i) fun v5=>
 bif(decide (v5.Kind=6))&&(decide (((v1.members.getD v5.Id ([]:(List Int))).length:Int)=0))then(
  some (Res.ab (Res.ab 9)))
 else(
  some (Res.nx ()))
noncomputable def Y7 (v1:yr):Option Int:=
 yc (σ:=Unit) (ρ:=Int) (
  z7 (v1.d.Nodes.length:Int) (zcA v1) (fun s=>Res.nx s) ()) fun j_1=>
 yc (σ:=Unit) (ρ:=Int) (
  z7 (v1.d.Nodes.length:Int) (zcB v1) (fun s=>Res.nx s) ()) fun j_9=>
 yc (σ:=Unit) (ρ:=Int) (
  z7 (v1.d.Nodes.length:Int) (zcC v1) (fun s=>Res.nx s) ()) fun j_17=>
 yc (σ:=Unit) (ρ:=Int) (
  z7 (v1.d.Nodes.length:Int) (zcD v1) (fun s=>Res.nx s) ()) fun j_25=>
 some 0
noncomputable def zcz (v1:yr)(x1:yg):Option Int:=
 bif !(v1.number.has x1.Node)then(
  some 10)
 else(
  zg (inR v1.d.Nodes (v1.number.getD x1.Node (0:Int))) <|
  bif decide (((gx v1.d.Nodes (v1.number.getD x1.Node (0:Int))).Kind)=6)then(
   some 1)
  else(
   bif(((decide (x1.Side<1)) || (decide (4<x1.Side))) || (decide (x1.At<0))) || (decide (1000<x1.At))then(
    some 3)
   else(
    some 0)))
noncomputable def zb6 (p1:zJ):Option Int:=
 Option.bind (YS p1.X) fun r1=>
 Option.bind (gd (!r1) (YS p1.Y)) fun r2=>
 bif r1 || r2 then(
  some 3)
 else(
  some 0)
noncomputable def zgk (l1:(List zJ))(i:Int)(s:Unit):Option (Res Unit (Res Unit Int)):=
 zg (inR l1 i) <|
 bnd (gx l1 i) fun v1=>
 Option.bind (zb6 v1) fun e1=>
 bif !decide (e1=0)then(
  some (Res.ab (Res.ab e1)))
 else(
  some (Res.nx ()))
noncomputable def zb9 (l1:(List zJ)):Option Int:=
 yc (σ:=Unit) (ρ:=Int) (
  z7 (l1.length:Int) (zgk l1) (fun s=>Res.nx s) ()) fun j_1=>
 some 0
noncomputable def zb7 (l1:(List zJ)):Option Int:=
 bif decide (1000<(l1.length:Int))then(
  some 4)
 else(
  Option.bind (zb9 l1) fun r1=>
  some r1)
noncomputable def zg3 (v1:yr)(v2:(List yg))(i:Int)(s:Unit):Option (Res Unit (Res Unit Int)):=
 zg (inR v2 i) <|
 bnd (gx v2 i) fun v3=>
 Option.bind (zcz v1 v3) fun e1=>
 bif !decide (e1=0)then(
  some (Res.ab (Res.ab e1)))
 else(
  some (Res.nx ()))
noncomputable def zcy (v1:yr)(x1:zA)(twice1:Bool):Option Int:=
 Option.bind (QM x1.Id) fun r1=>
 bif !r1 then(
  some 5)
 else(
  bif twice1 then(
   some 6)
  else(
   bnd ([x1.From,x1.To]) fun v2=>
   yc (σ:=Unit) (ρ:=Int) (
    z7 (v2.length:Int) (zg3 v1 v2) (fun s=>Res.nx s) ()) fun j_5=>
   bif decide (50<(x1.Bends.length:Int))then(
    some 4)
   else(
    Option.bind (zb7 x1.Bends) fun e2=>
    bif !decide (e2=0)then(
     some e2)
    else(
     Option.bind (Yr x1.Text) fun e3=>
     bif !decide (e3=0)then(
      some e3)
     else(
      Option.bind (gd ((!decide (x1.Class=Str.nil))) (QM x1.Class)) fun r2=>
      bif(!decide (x1.Class=Str.nil))&&(!r2)then(
       some 5)
      else(
       some 0))))))
noncomputable def zgj (l1:(List Box))(i:Int)(s:Unit):Option (Res Unit (Res Unit Int)):=
 zg (inR l1 i) <|
 bnd (gx l1 i) fun v1=>
 Option.bind (YR v1) fun e1=>
 bif !decide (e1=0)then(
  some (Res.ab (Res.ab e1)))
 else(
  some (Res.nx ()))
noncomputable def zb8 (l1:(List Box)):Option Int:=
 yc (σ:=Unit) (ρ:=Int) (
  z7 (l1.length:Int) (zgj l1) (fun s=>Res.nx s) ()) fun j_1=>
 some 0
noncomputable def zd1 (l1:(List Box))(i:Int)(s:Box):Option Box:=
 zg (inR l1 i) <|
 bnd (gx l1 i) fun v6=>
 bnd (min s.X v6.X) fun x1=>
 bnd (min s.Y v6.Y) fun y1=>
 bnd ((⟨x1,y1,W ((max (W (s.X+s.W_)) (W (v6.X+v6.W_))) - x1),W ((max (W (s.Y+s.H)) (W (v6.Y+v6.H))) - y1)⟩:Box)) fun v7=>
 some v7
noncomputable def zaK (l1:(List Box)):Option (Box×Int):=
 bnd ((⟨(0:Int),(0:Int),(0:Int),(0:Int)⟩:Box)) fun v1=>
 bif decide (1000<(l1.length:Int))then(
  bnd ((⟨(0:Int),(0:Int),(0:Int),(0:Int)⟩:Box)) fun v2=>
  some (v2,4))
 else(
  Option.bind (zb8 l1) fun e1=>
  bif !decide (e1=0)then(
   bnd ((⟨(0:Int),(0:Int),(0:Int),(0:Int)⟩:Box)) fun v3=>
   some (v3,e1))
  else(
   bif decide ((l1.length:Int)=0)then(
    bnd ((⟨(0:Int),(0:Int),(0:Int),(0:Int)⟩:Box)) fun v4=>
    some (v4,9))
   else(
    zg (inR l1 0) <|
    bnd (gx l1 0) fun v5=>
    Option.bind (α:=Box) (
     yV (l1.length:Int) (zd1 l1) v5) fun j_11=>
    bif(decide (20000<j_11.W_)) || (decide (20000<j_11.H))then(
     bnd ((⟨(0:Int),(0:Int),(0:Int),(0:Int)⟩:Box)) fun v8=>
     some (v8,4))
    else(
     some (j_11,0)))))
noncomputable def zaJ (b1:Box)(n1:Int):Option (Box×Int):=
 bnd ((⟨(0:Int),(0:Int),(0:Int),(0:Int)⟩:Box)) fun v1=>
 Option.bind (YR b1) fun e1=>
 bif !decide (e1=0)then(
  bnd ((⟨(0:Int),(0:Int),(0:Int),(0:Int)⟩:Box)) fun v2=>
  some (v2,e1))
 else(
  bif(decide (n1<(-20000))) || (decide (20000<n1))then(
   bnd ((⟨(0:Int),(0:Int),(0:Int),(0:Int)⟩:Box)) fun v3=>
   some (v3,3))
  else(
   bnd ((⟨W (b1.X - n1),W (b1.Y - n1),W (b1.W_+(W (2*n1))),W (b1.H+(W (2*n1)))⟩:Box)) fun v4=>
   bif(decide (v4.W_<1)) || (decide (v4.H<1))then(
    bnd ((⟨(0:Int),(0:Int),(0:Int),(0:Int)⟩:Box)) fun v5=>
    some (v5,9))
   else(
    Option.bind (YR v4) fun e2=>
    bif !decide (e2=0)then(
     bnd ((⟨(0:Int),(0:Int),(0:Int),(0:Int)⟩:Box)) fun v6=>
     some (v6,e2))
    else(
     some (v4,0)))))
noncomputable def za3 (self:(yr×Int)→Option (Box×Int))(x:(yr×Int))(v4:(List Int))(i:Int)(s:(List Box)):Option (Res (List Box) (Res (List Box) (Box×Int))):=
 zg (inR v4 i) <|
 Option.bind (self (x.1,(gx v4 i))) fun r1=>
 bif !decide (r1.2=0)then(
  bnd ((⟨(0:Int),(0:Int),(0:Int),(0:Int)⟩:Box)) fun v5=>
  some (Res.ab (Res.ab (v5,r1.2))))
 else(
  zg (qd (s.length+[r1.1].length)) <|
  some (Res.nx (s++[r1.1])))
noncomputable def vp (self:(yr×Int)→Option (Box×Int))(x:(yr×Int)):Option (Box×Int):=
 bnd ((⟨(0:Int),(0:Int),(0:Int),(0:Int)⟩:Box)) fun v2=>
 zg (inR x.1.d.Nodes x.2) <|
 bnd (gx x.1.d.Nodes x.2) fun v3=>
 bif !decide (v3.Kind=6)then(
  some (v3.Box,0))
 else(
  bnd (x.1.members.getD v3.Id ([]:(List Int))) fun v4=>
  yc (σ:=(List Box)) (ρ:=(Box×Int)) (
   z7 (v4.length:Int) (za3 self x v4) (fun s=>Res.nx s) ([]:List Box)) fun j_6=>
  Option.bind (zaK j_6) fun r2=>
  bif !decide (r2.2=0)then(
   bnd ((⟨(0:Int),(0:Int),(0:Int),(0:Int)⟩:Box)) fun v6=>
   some (v6,r2.2))
  else(
   Option.bind (zaJ r2.1 10) fun r3=>
   some (r3.1,r3.2)))
noncomputable def JZ (v1:yr)(i1:Int):Option (Box×Int):=zaF vp (v1,i1)
noncomputable def za1 (d1:Doc)(i:Int)(s:(GMap Str Bool)):Option (Res (GMap Str Bool) (Res (GMap Str Bool) Int)):=
 zg (inR d1.Nodes i) <|
 bnd (gx d1.Nodes i) fun v1=>
 Option.bind (zcv v1 (s.getD v1.Id false)) fun e1=>
 bif !decide (e1=0)then(
  some (Res.ab (Res.ab e1)))
 else(
  some (Res.nx (s.set v1.Id true)))
noncomputable def za2 (d1:Doc)(p1:yr)(i:Int)(s:(GMap Str Bool)):Option (Res (GMap Str Bool) (Res (GMap Str Bool) Int)):=
 zg (inR d1.Edges i) <|
 bnd (gx d1.Edges i) fun v3=>
 Option.bind (zcy p1 v3 (s.getD v3.Id false)) fun e3=>
 bif !decide (e3=0)then(
  some (Res.ab (Res.ab e3)))
 else(
  some (Res.nx (s.set v3.Id true)))
noncomputable def zcu (p1:yr)(i:Int)(s:Unit):Option (Res Unit (Res Unit Int)):=
 Option.bind (JZ p1 i) fun r1=>
 bif !decide (r1.2=0)then(
  some (Res.ab (Res.ab r1.2)))
 else(
  some (Res.nx ()))
noncomputable def jE (d1:Doc):Option Int:=
 bif(decide (500<(d1.Nodes.length:Int))) || (decide (1000<(d1.Edges.length:Int)))then(
  some 4)
 else(
  bnd ((GMap.nil:(GMap Str Bool))) fun known1=>
  yc (σ:=(GMap Str Bool)) (ρ:=Int) (
   z7 (d1.Nodes.length:Int) (za1 d1) (fun s=>Res.nx s) known1) fun j_3=>
  Option.bind (zcw d1) fun v2=>
  Option.bind v2 fun p1=>
  Option.bind (Y7 p1) fun e2=>
  bif !decide (e2=0)then(
   some e2)
  else(
   yc (σ:=(GMap Str Bool)) (ρ:=Int) (
    z7 (d1.Edges.length:Int) (za2 d1 p1) (fun s=>Res.nx s) j_3) fun j_15=>
   yc (σ:=Unit) (ρ:=Int) (
    z7 (d1.Nodes.length:Int) (zcu p1) (fun s=>Res.nx s) ()) fun j_23=>
   some 0))
noncomputable def zap (s1:Str):Option Bool:=
 zg (((!decide (s1=Str.nil))&&(decide ((s1.b.length:Int)≤40)))=true→inR s1.b 0) <|
 zg ((((!decide (s1=Str.nil))&&(decide ((s1.b.length:Int)≤40)))&&(decide ((⟨97⟩:KI .u8).n≤(⟨((gx s1.b 0).toNat:Int)⟩:KI .u8).n)))=true→inR s1.b 0) <|
 Option.bind (gd (((((!decide (s1=Str.nil))&&(decide ((s1.b.length:Int)≤40)))&&(decide ((⟨97⟩:KI .u8).n≤(⟨((gx s1.b 0).toNat:Int)⟩:KI .u8).n)))&&(decide ((⟨((gx s1.b 0).toNat:Int)⟩:KI .u8).n≤(⟨122⟩:KI .u8).n)))) (QR s1 (⟨[97,98,99,100,101,102,103,104,105,106,107,108,109,110,111,112,113,114,115,116,117,118,119,120,121,122,48,49,50,51,52,53,54,55,56,57,45]⟩:Str))) fun r1=>
 some (((((!decide (s1=Str.nil))&&(decide ((s1.b.length:Int)≤40)))&&(decide ((⟨97⟩:KI .u8).n≤(⟨((gx s1.b 0).toNat:Int)⟩:KI .u8).n)))&&(decide ((⟨((gx s1.b 0).toNat:Int)⟩:KI .u8).n≤(⟨122⟩:KI .u8).n)))&&(decide (r1=Str.nil)))
noncomputable def zfV (s1:Str)(i:Int)(s:Unit):Option (Res Unit (Res Unit Bool)):=
 zg (inR s1.b i) <|
 zg ((decide ((⟨((gx s1.b i).toNat:Int)⟩:KI .u8).n<(⟨33⟩:KI .u8).n))=false→inR s1.b i) <|
 zg (((decide ((⟨((gx s1.b i).toNat:Int)⟩:KI .u8).n<(⟨33⟩:KI .u8).n)) || (decide ((⟨126⟩:KI .u8).n<(⟨((gx s1.b i).toNat:Int)⟩:KI .u8).n)))=false→inR s1.b i) <|
 bif((decide ((⟨((gx s1.b i).toNat:Int)⟩:KI .u8).n<(⟨33⟩:KI .u8).n)) || (decide ((⟨126⟩:KI .u8).n<(⟨((gx s1.b i).toNat:Int)⟩:KI .u8).n))) || (decide ((⟨((gx s1.b i).toNat:Int)⟩:KI .u8).n=(⟨34⟩:KI .u8).n))then(
  some (Res.ab (Res.ab false)))
 else(
  some (Res.nx ()))
noncomputable def zbM (s1:Str):Option Bool:=
 bif(decide (s1=Str.nil)) || (decide (40<(s1.b.length:Int)))then(
  some false)
 else(
  yc (σ:=Unit) (ρ:=Bool) (
   z7 (s1.b.length:Int) (zfV s1) (fun s=>Res.nx s) ()) fun j_2=>
  some true)
noncomputable def zfS (l1:(List zz))(i:Int)(s:Unit):Option (Res Unit (Res Unit Int)):=
 zg (inR l1 i) <|
 bnd (gx l1 i) fun v1=>
 Option.bind (gd ((!decide (v1.Class=Str.nil))) (zap v1.Class)) fun r1=>
 bnd ((!decide (v1.Class=Str.nil))&&(!r1)) fun v2=>
 Option.bind (α:=Bool) (
  bif v2 then(
   some v2)
  else(
   Option.bind (zap v1.Prop_) fun r2=>
   bnd (!r2) fun v3=>
   some v3)) fun j_10=>
 bif j_10 then(
  some (Res.ab (Res.ab 5)))
 else(
  Option.bind (zbM v1.Value) fun r3=>
  bif !r3 then(
   some (Res.ab (Res.ab 2)))
  else(
   some (Res.nx ())))
noncomputable def Jv (l1:(List zz)):Option Int:=
 bif decide (100<(l1.length:Int))then(
  some 4)
 else(
  yc (σ:=Unit) (ρ:=Int) (
   z7 (l1.length:Int) (zfS l1) (fun s=>Res.nx s) ()) fun j_2=>
  some 0)
noncomputable def zbO (r1:zz):Option Str:=
 Option.bind (α:=Str) (
  bif decide (r1.Class=Str.nil)then(
   bnd ((⟨[42]⟩:Str)) fun class1=>
   some class1)
  else(
   some r1.Class)) fun j_1=>
 zg (((⟨[115,116,121,108,101,32]⟩:Str).b.length:Int)+j_1.b.length≤9223372036854775807) <|
 zg (((⟨(⟨[115,116,121,108,101,32]⟩:Str).b++j_1.b⟩:Str).b.length:Int)+(⟨[32]⟩:Str).b.length≤9223372036854775807) <|
 zg (((⟨(⟨(⟨[115,116,121,108,101,32]⟩:Str).b++j_1.b⟩:Str).b++(⟨[32]⟩:Str).b⟩:Str).b.length:Int)+r1.Prop_.b.length≤9223372036854775807) <|
 zg (((⟨(⟨(⟨(⟨[115,116,121,108,101,32]⟩:Str).b++j_1.b⟩:Str).b++(⟨[32]⟩:Str).b⟩:Str).b++r1.Prop_.b⟩:Str).b.length:Int)+(⟨[32]⟩:Str).b.length≤9223372036854775807) <|
 zg (((⟨(⟨(⟨(⟨(⟨[115,116,121,108,101,32]⟩:Str).b++j_1.b⟩:Str).b++(⟨[32]⟩:Str).b⟩:Str).b++r1.Prop_.b⟩:Str).b++(⟨[32]⟩:Str).b⟩:Str).b.length:Int)+r1.Value.b.length≤9223372036854775807) <|
 some (⟨(⟨(⟨(⟨(⟨(⟨[115,116,121,108,101,32]⟩:Str).b++j_1.b⟩:Str).b++(⟨[32]⟩:Str).b⟩:Str).b++r1.Prop_.b⟩:Str).b++(⟨[32]⟩:Str).b⟩:Str).b++r1.Value.b⟩:Str)
noncomputable def YM:Option (List Str):=
 some [Str.nil,(⟨[98,111,120]⟩:Str),(⟨[114,111,117,110,100]⟩:Str),(⟨[111,118,97,108]⟩:Str),(⟨[100,105,97,109,111,110,100]⟩:Str),(⟨[110,111,116,101]⟩:Str),(⟨[103,114,111,117,112]⟩:Str)]
noncomputable def zdB (l1:(List Int))(i:Int)(s:(List Str)):Option (List Str):=
 zg (inR l1 i) <|
 Option.bind (strconv_Itoa (gx l1 i)) fun r1=>
 zg (qd (s.length+[r1].length)) <|
 some (s++[r1])
noncomputable def Qe (l1:(List Int)):Option Str:=
 Option.bind (α:=(List Str)) (
  yV (l1.length:Int) (zdB l1) ([]:List Str)) fun j_1=>
 Option.bind (strings_Join j_1 (⟨[32]⟩:Str)) fun r2=>
 some r2
noncomputable def zau (class1:Str)(parent1:Str)(locked1:Bool)(text1:Str):Option Str:=
 Option.bind (α:=Str) (
  bif !decide (class1=Str.nil)then(
   zg (((⟨[32,99,108,97,115,115,32]⟩:Str).b.length:Int)+class1.b.length≤9223372036854775807) <|
   zg ((Str.nil.b.length:Int)+(⟨(⟨[32,99,108,97,115,115,32]⟩:Str).b++class1.b⟩:Str).b.length≤9223372036854775807) <|
   bnd ((⟨Str.nil.b++(⟨(⟨[32,99,108,97,115,115,32]⟩:Str).b++class1.b⟩:Str).b⟩:Str)) fun s1=>
   some s1)
  else(
   some Str.nil)) fun j_1=>
 Option.bind (α:=Str) (
  bif !decide (parent1=Str.nil)then(
   zg (((⟨[32,105,110,32]⟩:Str).b.length:Int)+parent1.b.length≤9223372036854775807) <|
   zg ((j_1.b.length:Int)+(⟨(⟨[32,105,110,32]⟩:Str).b++parent1.b⟩:Str).b.length≤9223372036854775807) <|
   bnd ((⟨j_1.b++(⟨(⟨[32,105,110,32]⟩:Str).b++parent1.b⟩:Str).b⟩:Str)) fun s2=>
   some s2)
  else(
   some j_1)) fun j_6=>
 Option.bind (α:=Str) (
  bif locked1 then(
   zg ((j_6.b.length:Int)+(⟨[32,108,111,99,107,101,100]⟩:Str).b.length≤9223372036854775807) <|
   bnd ((⟨j_6.b++(⟨[32,108,111,99,107,101,100]⟩:Str).b⟩:Str)) fun s3=>
   some s3)
  else(
   some j_6)) fun j_11=>
 Option.bind (α:=Str) (
  bif !decide (text1=Str.nil)then(
   Option.bind (zbS text1) fun r1=>
   zg (((⟨[32]⟩:Str).b.length:Int)+r1.b.length≤9223372036854775807) <|
   zg ((j_11.b.length:Int)+(⟨(⟨[32]⟩:Str).b++r1.b⟩:Str).b.length≤9223372036854775807) <|
   bnd ((⟨j_11.b++(⟨(⟨[32]⟩:Str).b++r1.b⟩:Str).b⟩:Str)) fun s4=>
   some s4)
  else(
   some j_11)) fun j_15=>
 some j_15
noncomputable def zbN (n1:zl):Option Str:=
 Option.bind (YM) fun r1=>
 zg (inR r1 n1.Kind) <|
 zg (((gx r1 n1.Kind).b.length:Int)+(⟨[32]⟩:Str).b.length≤9223372036854775807) <|
 zg (((⟨(gx r1 n1.Kind).b++(⟨[32]⟩:Str).b⟩:Str).b.length:Int)+n1.Id.b.length≤9223372036854775807) <|
 bnd ((⟨(⟨(gx r1 n1.Kind).b++(⟨[32]⟩:Str).b⟩:Str).b++n1.Id.b⟩:Str)) fun s1=>
 Option.bind (α:=Str) (
  bif !decide (n1.Kind=6)then(
   Option.bind (Qe [n1.Box.X,n1.Box.Y,n1.Box.W_,n1.Box.H]) fun r2=>
   zg (((⟨[32]⟩:Str).b.length:Int)+r2.b.length≤9223372036854775807) <|
   zg ((s1.b.length:Int)+(⟨(⟨[32]⟩:Str).b++r2.b⟩:Str).b.length≤9223372036854775807) <|
   bnd ((⟨s1.b++(⟨(⟨[32]⟩:Str).b++r2.b⟩:Str).b⟩:Str)) fun s2=>
   some s2)
  else(
   some s1)) fun j_6=>
 Option.bind (zau n1.Class n1.Parent n1.Locked n1.Text) fun r3=>
 zg ((j_6.b.length:Int)+r3.b.length≤9223372036854775807) <|
 some (⟨j_6.b++r3.b⟩:Str)
noncomputable def zaB:Option (List Str):=
 some [Str.nil,(⟨[117,112]⟩:Str),(⟨[114,105,103,104,116]⟩:Str),(⟨[100,111,119,110]⟩:Str),(⟨[108,101,102,116]⟩:Str)]
noncomputable def YL (x1:yg):Option Str:=
 zg ((x1.Node.b.length:Int)+(⟨[32]⟩:Str).b.length≤9223372036854775807) <|
 Option.bind (zaB) fun r1=>
 zg (inR r1 x1.Side) <|
 zg (((⟨x1.Node.b++(⟨[32]⟩:Str).b⟩:Str).b.length:Int)+(gx r1 x1.Side).b.length≤9223372036854775807) <|
 zg (((⟨(⟨x1.Node.b++(⟨[32]⟩:Str).b⟩:Str).b++(gx r1 x1.Side).b⟩:Str).b.length:Int)+(⟨[32]⟩:Str).b.length≤9223372036854775807) <|
 Option.bind (strconv_Itoa x1.At) fun r2=>
 zg (((⟨(⟨(⟨x1.Node.b++(⟨[32]⟩:Str).b⟩:Str).b++(gx r1 x1.Side).b⟩:Str).b++(⟨[32]⟩:Str).b⟩:Str).b.length:Int)+r2.b.length≤9223372036854775807) <|
 some (⟨(⟨(⟨(⟨x1.Node.b++(⟨[32]⟩:Str).b⟩:Str).b++(gx r1 x1.Side).b⟩:Str).b++(⟨[32]⟩:Str).b⟩:Str).b++r2.b⟩:Str)
noncomputable def zdv (l1:(List zJ))(i:Int)(s:(List Int)):Option (List Int):=
 zg (inR l1 i) <|
 bnd (gx l1 i) fun v1=>
 zg (qd (s.length+[v1.X,v1.Y].length)) <|
 some (s++[v1.X,v1.Y])
noncomputable def JA (l1:(List zJ)):Option (List Int):=
 Option.bind (α:=(List Int)) (
  yV (l1.length:Int) (zdv l1) ([]:List Int)) fun j_1=>
 some j_1
noncomputable def zbL (x1:zA):Option Str:=
 zg (((⟨[101,100,103,101,32]⟩:Str).b.length:Int)+x1.Id.b.length≤9223372036854775807) <|
 zg (((⟨(⟨[101,100,103,101,32]⟩:Str).b++x1.Id.b⟩:Str).b.length:Int)+(⟨[32]⟩:Str).b.length≤9223372036854775807) <|
 Option.bind (YL x1.From) fun r1=>
 zg (((⟨(⟨(⟨[101,100,103,101,32]⟩:Str).b++x1.Id.b⟩:Str).b++(⟨[32]⟩:Str).b⟩:Str).b.length:Int)+r1.b.length≤9223372036854775807) <|
 zg (((⟨(⟨(⟨(⟨[101,100,103,101,32]⟩:Str).b++x1.Id.b⟩:Str).b++(⟨[32]⟩:Str).b⟩:Str).b++r1.b⟩:Str).b.length:Int)+(⟨[32]⟩:Str).b.length≤9223372036854775807) <|
 Option.bind (YL x1.To) fun r2=>
 zg (((⟨(⟨(⟨(⟨(⟨[101,100,103,101,32]⟩:Str).b++x1.Id.b⟩:Str).b++(⟨[32]⟩:Str).b⟩:Str).b++r1.b⟩:Str).b++(⟨[32]⟩:Str).b⟩:Str).b.length:Int)+r2.b.length≤9223372036854775807) <|
 bnd ((⟨(⟨(⟨(⟨(⟨(⟨[101,100,103,101,32]⟩:Str).b++x1.Id.b⟩:Str).b++(⟨[32]⟩:Str).b⟩:Str).b++r1.b⟩:Str).b++(⟨[32]⟩:Str).b⟩:Str).b++r2.b⟩:Str)) fun s1=>
 Option.bind (α:=Str) (
  bif decide (0<(x1.Bends.length:Int))then(
   Option.bind (JA x1.Bends) fun r3=>
   Option.bind (Qe r3) fun r4=>
   zg (((⟨[32,98,121,32]⟩:Str).b.length:Int)+r4.b.length≤9223372036854775807) <|
   zg ((s1.b.length:Int)+(⟨(⟨[32,98,121,32]⟩:Str).b++r4.b⟩:Str).b.length≤9223372036854775807) <|
   bnd ((⟨s1.b++(⟨(⟨[32,98,121,32]⟩:Str).b++r4.b⟩:Str).b⟩:Str)) fun s2=>
   some s2)
  else(
   some s1)) fun j_9=>
 Option.bind (zau x1.Class Str.nil false x1.Text) fun r5=>
 zg ((j_9.b.length:Int)+r5.b.length≤9223372036854775807) <|
 some (⟨j_9.b++r5.b⟩:Str)
noncomputable def zdo (l1:(List zz))(i:Int)(s:Str):Option Str:=
 zg (inR l1 i) <|
 bnd (gx l1 i) fun v1=>
 Option.bind (zbO v1) fun r1=>
 zg ((r1.b.length:Int)+(⟨[10]⟩:Str).b.length≤9223372036854775807) <|
 Option.bind (zbq s (⟨r1.b++(⟨[10]⟩:Str).b⟩:Str)) fun r2=>
 some r2
noncomputable def zdp (d1:Doc)(i:Int)(s:Str):Option Str:=
 zg (inR d1.Nodes i) <|
 bnd (gx d1.Nodes i) fun v2=>
 Option.bind (zbN v2) fun r3=>
 zg ((r3.b.length:Int)+(⟨[10]⟩:Str).b.length≤9223372036854775807) <|
 Option.bind (zbq s (⟨r3.b++(⟨[10]⟩:Str).b⟩:Str)) fun r4=>
 some r4
noncomputable def zdq (d1:Doc)(i:Int)(s:Str):Option Str:=
 zg (inR d1.Edges i) <|
 bnd (gx d1.Edges i) fun v3=>
 Option.bind (zbL v3) fun r5=>
 zg ((r5.b.length:Int)+(⟨[10]⟩:Str).b.length≤9223372036854775807) <|
 Option.bind (zbq s (⟨r5.b++(⟨[10]⟩:Str).b⟩:Str)) fun r6=>
 some r6
noncomputable def Qx (d1:Doc)(l1:(List zz)):Option (Str×Int):=
 Option.bind (jE d1) fun e1=>
 bif !decide (e1=0)then(
  some (Str.nil,e1))
 else(
  Option.bind (Jv l1) fun e2=>
  bif !decide (e2=0)then(
   some (Str.nil,e2))
  else(
   bnd ((⟨[]⟩:Str)) fun b1=>
   Option.bind (α:=Str) (
    yV (l1.length:Int) (zdo l1) b1) fun j_6=>
   Option.bind (α:=Str) (
    yV (d1.Nodes.length:Int) (zdp d1) j_6) fun j_15=>
   Option.bind (α:=Str) (
    yV (d1.Edges.length:Int) (zdq d1) j_15) fun j_24=>
   Option.bind (zfe j_24) fun r7=>
   bif decide (1048576<r7.1)then(
    some (Str.nil,4))
   else(
    Option.bind (zff r7.2) fun r8=>
    some (r8,0))))
noncomputable def Qf (s1:Str)(s2_:((List (KI .u8))×Int)):Option (zN ((List (KI .u8))×Int) (Res Unit (Str×Bool))):=
 bif decide (s2_.2<(s1.b.length:Int))then(
  zg (inR s1.b s2_.2) <|
  bnd ((⟨((gx s1.b s2_.2).toNat:Int)⟩:KI .u8)) fun c1=>
  yc (σ:=(Int×(KI .u8))) (ρ:=(zN ((List (KI .u8))×Int) (Res Unit (Str×Bool)))) (
   bif decide (c1.n=(⟨34⟩:KI .u8).n)then(
    zg ((decide (s2_.2=(W ((s1.b.length:Int) - 1))))=true→inR s1.b 0) <|
    some (Res.ab (zN.done (Res.ab (jy s2_.1,(decide (s2_.2=(W ((s1.b.length:Int) - 1))))&&(decide ((⟨((gx s1.b 0).toNat:Int)⟩:KI .u8).n=(⟨34⟩:KI .u8).n)))))))
   else(
    bif decide (c1.n=(⟨10⟩:KI .u8).n)then(
     some (Res.ab (zN.done (Res.ab (Str.nil,false)))))
    else(
     bif decide (c1.n=(⟨92⟩:KI .u8).n)then(
      bnd (W (s2_.2+1)) fun i1=>
      bif decide (i1=(s1.b.length:Int))then(
       some (Res.ab (zN.done (Res.ab (Str.nil,false)))))
      else(
       zg (inR s1.b i1) <|
       Option.bind (strings_IndexByte (⟨[34,92,110]⟩:Str) (⟨((gx s1.b i1).toNat:Int)⟩:KI .u8)) fun k1=>
       bif decide (k1<0)then(
        some (Res.ab (zN.done (Res.ab (Str.nil,false)))))
       else(
        zg (inR (⟨[34,92,10]⟩:Str).b k1) <|
        bnd ((⟨((gx (⟨[34,92,10]⟩:Str).b k1).toNat:Int)⟩:KI .u8)) fun c2=>
        some (Res.nx (i1,c2)))))
     else(
      some (Res.nx (s2_.2,c1)))))) fun j_6=>
  zg (qd (s2_.1.length+[j_6.2].length)) <|
  bnd (s2_.1++[j_6.2]) fun b1=>
  bnd (W (j_6.1+1)) fun i2=>
  some (zN.again (b1,i2)))
 else(
  some (zN.done (Res.nx ())))
noncomputable def zbW (s1:Str):Option (Str×Bool):=
 yc (σ:=Unit) (ρ:=(Str×Bool)) (
  loop (Qf s1) (([]:List (KI .u8)),1)) fun j_1=>
 some (Str.nil,false)
noncomputable def zbo (s1:(List Str))(v1:Str)(i:Int)(s:Unit):Option (Res Unit (Res Unit Int)):=
 zg (inR s1 i) <|
 bif decide (v1=(gx s1 i))then(
  some (Res.ab (Res.ab i)))
 else(
  some (Res.nx ()))
noncomputable def QQ (s1:(List Str))(v1:Str):Option Int:=
 yc (σ:=Unit) (ρ:=Int) (
  z7 (s1.length:Int) (zbo s1 v1) (fun s=>Res.nx s) ()) fun j_1=>
 some (-1)
noncomputable def J7 (s1:(List Str))(v1:Str):Option Bool:=
 Option.bind (QQ s1 v1) fun r1=>
 some (decide (0≤r1))
noncomputable def Q3 (line1:Str):Option ((List Str)×Str×Bool×Bool):=
 Option.bind (strings_Cut line1 (⟨[32,34]⟩:Str)) fun r1=>
 yc (σ:=Str) (ρ:=((List Str)×Str×Bool×Bool)) (
  bif r1.2.2 then(
   zg (((⟨[34]⟩:Str).b.length:Int)+r1.2.1.b.length≤9223372036854775807) <|
   Option.bind (zbW (⟨(⟨[34]⟩:Str).b++r1.2.1.b⟩:Str)) fun r2=>
   bif !r2.2 then(
    some (Res.ab (([]:(List Str)),Str.nil,false,false)))
   else(
    some (Res.nx r2.1)))
  else(
   some (Res.nx Str.nil))) fun j_2=>
 Option.bind (strings_Split r1.1 (⟨[32]⟩:Str)) fun words1=>
 Option.bind (J7 words1 Str.nil) fun r3=>
 some (words1,j_2,r1.2.2,!r3)
noncomputable def zat (l1:(List Str)):Option (zz×Bool):=
 bnd ((⟨Str.nil,Str.nil,Str.nil⟩:zz)) fun r1=>
 bif !decide ((l1.length:Int)=4)then(
  some (r1,false))
 else(
  zg (inR l1 1) <|
  zg (inR l1 2) <|
  zg (inR l1 3) <|
  bnd ((⟨gx l1 1,gx l1 2,gx l1 3⟩:zz)) fun v1=>
  Option.bind (α:=zz) (
   bif decide (v1.Class=(⟨[42]⟩:Str))then(
    some ({ v1 with Class:=Str.nil }))
   else(
    some v1)) fun j_7=>
  some (j_7,true))
noncomputable def vJ (w1:yQ):Option (Str×yQ):=
 bif decide ((w1.l.length:Int)=0)then(
  some (Str.nil,w1))
 else(
  zg (inR w1.l 0) <|
  zg (y3 w1.l.length 1 (w1.l.length:Int)) <|
  bnd (seg w1.l 1 (w1.l.length:Int)) fun v1=>
  bnd ({ w1 with l:=v1 }) fun c1=>
  some (gx w1.l 0,c1))
noncomputable def zfg (s1:Str)(prefix1:Str):Option Bool:=
 zg ((decide ((prefix1.b.length:Int)≤(s1.b.length:Int)))=true→y3 s1.b.length 0 (prefix1.b.length:Int)) <|
 some ((decide ((prefix1.b.length:Int)≤(s1.b.length:Int)))&&(decide ((⟨seg s1.b 0 (prefix1.b.length:Int)⟩:Str)=prefix1)))
noncomputable def zfh (s1:Str)(prefix1:Str):Option Str:=
 Option.bind (zfg s1 prefix1) fun r1=>
 bif r1 then(
  zg (y3 s1.b.length (prefix1.b.length:Int) (s1.b.length:Int)) <|
  some (⟨seg s1.b (prefix1.b.length:Int) (s1.b.length:Int)⟩:Str))
 else(
  some s1)
noncomputable def zcZ (s1:Str)(prefix1:Str):Option Str:=
 Option.bind (zfh s1 prefix1) fun r1=>
 some r1
noncomputable def JB (s1:Str):Option (Int×Bool):=
 Option.bind (zcZ s1 (⟨[45]⟩:Str)) fun digits1=>
 Option.bind (zfd s1) fun r1=>
 Option.bind (gd (((!r1.2.is)&&(decide ((digits1.b.length:Int)≤7)))) (strconv_Itoa r1.1)) fun r2=>
 some (r1.1,((!r1.2.is)&&(decide ((digits1.b.length:Int)≤7)))&&(decide (r2=s1)))
noncomputable def JC (w1:(List Str)):Option (yg×Bool):=
 bnd ((⟨Str.nil,(0:Int),(0:Int)⟩:yg)) fun x1=>
 zg ((!decide ((w1.length:Int)=3))=false→inR w1 0) <|
 zg (((!decide ((w1.length:Int)=3)) || (decide ((gx w1 0)=Str.nil)))=false→inR w1 1) <|
 bif((!decide ((w1.length:Int)=3)) || (decide ((gx w1 0)=Str.nil))) || (decide ((gx w1 1)=Str.nil))then(
  some (x1,false))
 else(
  zg (inR w1 0) <|
  bnd (gx w1 0) fun v1=>
  Option.bind (zaB) fun r1=>
  zg (inR w1 1) <|
  Option.bind (QQ r1 (gx w1 1)) fun r2=>
  bnd ({ { x1 with Node:=v1 }with Side:=r2 }) fun x2=>
  zg (inR w1 2) <|
  Option.bind (JB (gx w1 2)) fun r3=>
  bnd ({ x2 with At:=r3.1 }) fun x3=>
  some (x3,r3.2&&(decide (0<x3.Side))))
noncomputable def zdD (w1:(List Str))(i:Int)(s:(List Int)):Option (Res (List Int) (Res (List Int) ((List Int)×Bool))):=
 zg (inR w1 i) <|
 Option.bind (JB (gx w1 i)) fun r1=>
 bif !r1.2 then(
  some (Res.ab (Res.ab (([]:(List Int)),false))))
 else(
  zg (qd (s.length+[r1.1].length)) <|
  some (Res.nx (s++[r1.1])))
noncomputable def zbT (w1:(List Str)):Option ((List Int)×Bool):=
 yc (σ:=(List Int)) (ρ:=((List Int)×Bool)) (
  z7 (w1.length:Int) (zdD w1) (fun s=>Res.nx s) ([]:List Int)) fun j_1=>
 some (j_1,true)
noncomputable def zav (w1:yQ)(many1:Int):Option ((List Int)×Bool×yQ):=
 bif decide ((w1.l.length:Int)<many1)then(
  some (([]:(List Int)),false,w1))
 else(
  zg (y3 w1.l.length 0 many1) <|
  Option.bind (zbT (seg w1.l 0 many1)) fun r1=>
  zg (y3 w1.l.length many1 (w1.l.length:Int)) <|
  bnd (seg w1.l many1 (w1.l.length:Int)) fun v1=>
  bnd ({ w1 with l:=v1 }) fun c1=>
  some (r1.1,r1.2,c1))
noncomputable def zaA (l1:(List Int))(s3_:((List zJ)×Int)):Option (zN ((List zJ)×Int) (List zJ)):=
 bif decide (s3_.2<(l1.length:Int))then(
  zg (inR l1 s3_.2) <|
  zg (inR l1 (W (s3_.2+1))) <|
  zg (qd (s3_.1.length+[(⟨gx l1 s3_.2,gx l1 (W (s3_.2+1))⟩:zJ)].length)) <|
  bnd (s3_.1++[(⟨gx l1 s3_.2,gx l1 (W (s3_.2+1))⟩:zJ)]) fun out1=>
  bnd (W (s3_.2+2)) fun i1=>
  some (zN.again (out1,i1)))
 else(
  some (zN.done s3_.1))
noncomputable def zbR (l1:(List Int)):Option ((List zJ)×Bool):=
 bif(decide (((l1.length:Int).tmod 2)=1)) || (decide ((l1.length:Int)=0))then(
  some (([]:(List zJ)),false))
 else(
  Option.bind (α:=(List zJ)) (
   loop (zaA l1) (([]:List zJ),0)) fun j_2=>
  some (j_2,true))
noncomputable def Qy (w1:yQ)(word1:Str):Option (Str×yQ):=
 zg ((decide ((w1.l.length:Int)<2))=false→inR w1.l 0) <|
 bif(decide ((w1.l.length:Int)<2)) || (!decide ((gx w1.l 0)=word1))then(
  some (Str.nil,w1))
 else(
  Option.bind (vJ w1) fun r1=>
  Option.bind (vJ r1.2) fun r2=>
  some (r2.1,r2.2))
noncomputable def zar (r4:(Str×yQ))(s21_:Int):Option (zN Int Int):=
 zg ((decide (s21_<(r4.2.l.length:Int)))=true→inR r4.2.l s21_) <|
 bif(decide (s21_<(r4.2.l.length:Int)))&&(!decide ((gx r4.2.l s21_)=(⟨[99,108,97,115,115]⟩:Str)))then(
  bnd (W (s21_+1)) fun many1=>
  some (zN.again many1))
 else(
  some (zN.done s21_))
noncomputable def zaq (l1:(List Str))(text1:Str):Option (zA×Bool):=
 bnd ((⟨Str.nil,(⟨Str.nil,(0:Int),(0:Int)⟩:yg),(⟨Str.nil,(0:Int),(0:Int)⟩:yg),([]:(List zJ)),Str.nil,Str.nil⟩:zA)) fun x1=>
 zg (y3 l1.length 1 (l1.length:Int)) <|
 bnd ((⟨seg l1 1 (l1.length:Int)⟩:yQ)) fun v1=>
 Option.bind (vJ v1) fun r1=>
 bnd ({ { x1 with Id:=r1.1 }with Text:=text1 }) fun x2=>
 bif(decide (x2.Id=Str.nil)) || (decide ((r1.2.l.length:Int)<6))then(
  some (x2,false))
 else(
  zg (y3 r1.2.l.length 0 3) <|
  Option.bind (JC (seg r1.2.l 0 3)) fun r2=>
  zg (y3 r1.2.l.length 3 6) <|
  Option.bind (JC (seg r1.2.l 3 6)) fun r3=>
  bnd ({ { x2 with From:=r2.1 }with To:=r3.1 }) fun x3=>
  zg (y3 r1.2.l.length 6 (r1.2.l.length:Int)) <|
  bnd (seg r1.2.l 6 (r1.2.l.length:Int)) fun v2=>
  bnd ({ r1.2 with l:=v2 }) fun w1=>
  bif(!r2.2) || (!r3.2)then(
   some (x3,false))
  else(
   zg ((decide (0<(w1.l.length:Int)))=true→inR w1.l 0) <|
   yc (σ:=(zA×yQ)) (ρ:=(zA×Bool)) (
    bif(decide (0<(w1.l.length:Int)))&&(decide ((gx w1.l 0)=(⟨[98,121]⟩:Str)))then(
     Option.bind (vJ w1) fun r4=>
     Option.bind (α:=Int) (
      loop (zar r4) 0) fun j_20=>
     Option.bind (zav r4.2 j_20) fun r5=>
     bif !r5.2.1 then(
      some (Res.ab (x3,false)))
     else(
      Option.bind (zbR r5.1) fun r6=>
      bnd ({ x3 with Bends:=r6.1 }) fun x4=>
      bif !r6.2 then(
       some (Res.ab (x4,false)))
      else(
       some (Res.nx (x4,r5.2.2)))))
    else(
     some (Res.nx (x3,w1)))) fun j_17=>
   Option.bind (Qy j_17.2 (⟨[99,108,97,115,115]⟩:Str)) fun r7=>
   bnd ({ j_17.1 with Class:=r7.1 }) fun x5=>
   some (x5,decide ((r7.2.l.length:Int)=0))))
noncomputable def zas (l1:(List Str))(text1:Str):Option (zl×Bool):=
 bnd ((⟨Str.nil,(0:Int),(⟨(0:Int),(0:Int),(0:Int),(0:Int)⟩:Box),Str.nil,Str.nil,Str.nil,false⟩:zl)) fun n1=>
 bnd ((⟨l1⟩:yQ)) fun v1=>
 Option.bind (YM) fun r1=>
 Option.bind (vJ v1) fun r2=>
 Option.bind (QQ r1 r2.1) fun r3=>
 bnd ({ n1 with Kind:=r3 }) fun n2=>
 Option.bind (vJ r2.2) fun r4=>
 bnd ({ { n2 with Id:=r4.1 }with Text:=text1 }) fun n3=>
 bif(decide (n3.Kind<1)) || (decide (n3.Id=Str.nil))then(
  some (n3,false))
 else(
  yc (σ:=(zl×yQ)) (ρ:=(zl×Bool)) (
   bif !decide (n3.Kind=6)then(
    Option.bind (zav r4.2 4) fun r5=>
    bif !r5.2.1 then(
     some (Res.ab (n3,false)))
    else(
     zg (inR r5.1 0) <|
     zg (inR r5.1 1) <|
     zg (inR r5.1 2) <|
     zg (inR r5.1 3) <|
     bnd ((⟨gx r5.1 0,gx r5.1 1,gx r5.1 2,gx r5.1 3⟩:Box)) fun v2=>
     some (Res.nx ({ n3 with Box:=v2 },r5.2.2))))
   else(
    some (Res.nx (n3,r4.2)))) fun j_10=>
  Option.bind (Qy j_10.2 (⟨[99,108,97,115,115]⟩:Str)) fun r6=>
  bnd ({ j_10.1 with Class:=r6.1 }) fun n4=>
  Option.bind (Qy r6.2 (⟨[105,110]⟩:Str)) fun r7=>
  bnd ({ n4 with Parent:=r7.1 }) fun n5=>
  zg ((decide (0<(r7.2.l.length:Int)))=true→inR r7.2.l 0) <|
  Option.bind (α:=(zl×yQ)) (
   bif(decide (0<(r7.2.l.length:Int)))&&(decide ((gx r7.2.l 0)=(⟨[108,111,99,107,101,100]⟩:Str)))then(
    bnd ({ n5 with Locked:=true }) fun n6=>
    Option.bind (vJ r7.2) fun r8=>
    some (n6,r8.2))
   else(
    some (n5,r7.2))) fun j_24=>
  some (j_24.1,decide ((j_24.2.l.length:Int)=0)))
noncomputable def jT  (s5_:(Str×(List zz)×Int×Doc)):Option (zN (Str×(List zz)×Int×Doc) (Res ((List zz)×Doc) (Doc×(List zz)×Int×Int))):=
 bif !decide (s5_.1=Str.nil)then(
  Option.bind (strings_Cut s5_.1 (⟨[10]⟩:Str)) fun r1=>
  Option.bind (Q3 r1.1) fun r2=>
  bnd ((r2.2.2.2&&r1.2.2)&&(!(r2.2.2.1&&(decide (r2.2.1=Str.nil))))) fun ok1=>
  Option.bind (α:=((List zz)×Bool×Doc)) (
   bif !ok1 then(
    some (s5_.2.1,ok1,{ s5_.2.2.2 with Nodes:=s5_.2.2.2.Nodes,Edges:=s5_.2.2.2.Edges }))
   else(
    zg (inR r2.1 0) <|
    bif decide ((gx r2.1 0)=(⟨[115,116,121,108,101]⟩:Str))then(
     Option.bind (zat r2.1) fun r3=>
     bnd (((r3.2&&(!r2.2.2.1))&&(decide ((s5_.2.2.2.Nodes.length:Int)=0)))&&(decide ((s5_.2.2.2.Edges.length:Int)=0))) fun ok2=>
     zg (qd (s5_.2.1.length+[r3.1].length)) <|
     some (s5_.2.1++[r3.1],ok2,{ s5_.2.2.2 with Nodes:=s5_.2.2.2.Nodes,Edges:=s5_.2.2.2.Edges }))
    else(
     zg (inR r2.1 0) <|
     bif decide ((gx r2.1 0)=(⟨[101,100,103,101]⟩:Str))then(
      Option.bind (zaq r2.1 r2.2.1) fun r4=>
      zg (qd (s5_.2.2.2.Edges.length+[r4.1].length)) <|
      some (s5_.2.1,r4.2,{ s5_.2.2.2 with Nodes:=s5_.2.2.2.Nodes,Edges:=s5_.2.2.2.Edges++[r4.1] }))
     else(
      Option.bind (zas r2.1 r2.2.1) fun r5=>
      bnd (r5.2&&(decide ((s5_.2.2.2.Edges.length:Int)=0))) fun ok3=>
      zg (qd (s5_.2.2.2.Nodes.length+[r5.1].length)) <|
      some (s5_.2.1,ok3,{ s5_.2.2.2 with Nodes:=s5_.2.2.2.Nodes++[r5.1],Edges:=s5_.2.2.2.Edges }))))) fun j_10=>
  bif !j_10.2.1 then(
   bnd ((⟨([]:(List zl)),([]:(List zA))⟩:Doc)) fun v3=>
   some (zN.done (Res.ab (v3,([]:(List zz)),s5_.2.2.1,8))))
  else(
   bnd (W (s5_.2.2.1+1)) fun at1=>
   some (zN.again (r1.2.1,j_10.1,at1,{ j_10.2.2 with Nodes:=j_10.2.2.Nodes,Edges:=j_10.2.2.Edges }))))
 else(
  some (zN.done (Res.nx (s5_.2.1,{ s5_.2.2.2 with Nodes:=s5_.2.2.2.Nodes,Edges:=s5_.2.2.2.Edges }))))
noncomputable def zbK (text1:Str):Option (Doc×(List zz)×Int×Int):=
 bnd ((⟨([]:(List zl)),([]:(List zA))⟩:Doc)) fun v1=>
 bif decide (1048576<(text1.b.length:Int))then(
  bnd ((⟨([]:(List zl)),([]:(List zA))⟩:Doc)) fun v2=>
  some (v2,([]:(List zz)),0,4))
 else(
  yc (σ:=((List zz)×Doc)) (ρ:=(Doc×(List zz)×Int×Int)) (
   loop jT (text1,([]:List zz),0,(⟨([]:List zl),([]:List zA)⟩:Doc))) fun j_4=>
  Option.bind (jE ({ j_4.2 with Nodes:=j_4.2.Nodes,Edges:=j_4.2.Edges })) fun e1=>
  bif !decide (e1=0)then(
   bnd ((⟨([]:(List zl)),([]:(List zA))⟩:Doc)) fun v4=>
   some (v4,([]:(List zz)),0,e1))
  else(
   Option.bind (Jv j_4.1) fun e2=>
   bif !decide (e2=0)then(
    bnd ((⟨([]:(List zl)),([]:(List zA))⟩:Doc)) fun v5=>
    some (v5,([]:(List zz)),0,e2))
   else(
    bnd ({ j_4.2 with Nodes:=j_4.2.Nodes,Edges:=j_4.2.Edges }) fun v6=>
    some (v6,j_4.1,0,0))))
def J8 (x:zR):Prop:=True
instance:Inhabited { x:zR // J8 x }:=⟨⟨default,by unfold J8;decide⟩⟩
def vX (x y:{ x:zR // J8 x }):Int:=zH x.1.Field.b y.1.Field.b
noncomputable def zfa (l:List zR):Option (List zR):=zg ((l.length:Int)<4611686018427387904∧∀x∈l,J8 x) (some (y9 vX l))
noncomputable def zhS (l:List zu):Option (List zu):=zg ((l.length:Int)<4611686018427387904∧(l.map fun x=>x.Id).Nodup) (some (zfn (fun x=>x.Id) l))
noncomputable def zf4  (k:Str)(e:Str)(s:zu):Option zu:=
 zg (zmw (s.Attrs.length+[(⟨k,e⟩:zR)].length)) <|
 some ({ s with Attrs:=s.Attrs++[(⟨k,e⟩:zR)] })
noncomputable def zdJ  (k:Str)(e:(GMap Str Str))(s:(List zu)):Option (List zu):=
 zaX e zf4 (⟨k,([]:List zR)⟩:zu) fun j_4=>
 Option.bind (zfa j_4.Attrs) fun r1=>
 zg (zmw (s.length+[{ j_4 with Attrs:=r1 }].length)) <|
 some (s++[{ j_4 with Attrs:=r1 }])
noncomputable def zaC (t1:(GMap Str (GMap Str Str))):Option (List zu):=
 zaX t1 zdJ ([]:List zu) fun j_1=>
 Option.bind (zhS j_1) fun r2=>
 some r2
noncomputable def zdE  (k:Str)(e:Str)(s:(GMap Str Str)):Option (GMap Str Str):=
 bif !decide (e=Str.nil)then(
  some (s.set k e))
 else(
  some s)
noncomputable def zbU (d1:Doc)(i:Int)(s:(GMap Str (GMap Str Str))):Option (GMap Str (GMap Str Str)):=
 zg (inR d1.Nodes i) <|
 bnd (gx d1.Nodes i) fun v1=>
 Option.bind (YM) fun r1=>
 zg (inR r1 v1.Kind) <|
 Option.bind (strconv_Itoa i) fun r2=>
 bnd (((GMap.nil:(GMap Str Str)).set (⟨[107,105,110,100]⟩:Str) (gx r1 v1.Kind)).set (⟨[122]⟩:Str) r2) fun f1=>
 Option.bind (α:=(GMap Str Str)) (
  bif !decide (v1.Kind=6)then(
   Option.bind (Qe [v1.Box.X,v1.Box.Y,v1.Box.W_,v1.Box.H]) fun r3=>
   some (f1.set (⟨[112,108,97,99,101]⟩:Str) r3))
  else(
   some f1)) fun j_14=>
 Option.bind (α:=(GMap Str Str)) (
  QJ ((((GMap.nil:(GMap Str Str)).set (⟨[116,101,120,116]⟩:Str) v1.Text).set (⟨[99,108,97,115,115]⟩:Str) v1.Class).set (⟨[112,97,114,101,110,116]⟩:Str) v1.Parent) zdE j_14) fun j_17=>
 Option.bind (α:=(GMap Str Str)) (
  bif v1.Locked then(
   some (j_17.set (⟨[108,111,99,107,101,100]⟩:Str) (⟨[121,101,115]⟩:Str)))
  else(
   some j_17)) fun j_21=>
 some (s.set v1.Id j_21)
noncomputable def zdF  (k:Str)(e:Str)(s:(GMap Str Str)):Option (GMap Str Str):=
 bif !decide (e=Str.nil)then(
  some (s.set k e))
 else(
  some s)
noncomputable def zbV (d1:Doc)(i:Int)(s:(GMap Str (GMap Str Str))):Option (GMap Str (GMap Str Str)):=
 zg (inR d1.Edges i) <|
 bnd (gx d1.Edges i) fun v2=>
 Option.bind (YL v2.From) fun r4=>
 Option.bind (YL v2.To) fun r5=>
 Option.bind (strconv_Itoa i) fun r6=>
 bnd (((((GMap.nil:(GMap Str Str)).set (⟨[107,105,110,100]⟩:Str) (⟨[101,100,103,101]⟩:Str)).set (⟨[102,114,111,109]⟩:Str) r4).set (⟨[116,111]⟩:Str) r5).set (⟨[122]⟩:Str) r6) fun f2=>
 Option.bind (α:=(GMap Str Str)) (
  bif decide (0<(v2.Bends.length:Int))then(
   Option.bind (JA v2.Bends) fun r7=>
   Option.bind (Qe r7) fun r8=>
   some (f2.set (⟨[98,101,110,100,115]⟩:Str) r8))
  else(
   some f2)) fun j_33=>
 Option.bind (α:=(GMap Str Str)) (
  QJ (((GMap.nil:(GMap Str Str)).set (⟨[116,101,120,116]⟩:Str) v2.Text).set (⟨[99,108,97,115,115]⟩:Str) v2.Class) zdF j_33) fun j_37=>
 some (s.set v2.Id j_37)
noncomputable def YN (d1:Doc):Option ((List zu)×Int):=
 Option.bind (jE d1) fun e1=>
 bif !decide (e1=0)then(
  some (([]:(List zu)),e1))
 else(
  bnd ((GMap.nil:(GMap Str (GMap Str Str)))) fun t1=>
  Option.bind (α:=(GMap Str (GMap Str Str))) (
   yV (d1.Nodes.length:Int) (zbU d1) t1) fun j_4=>
  Option.bind (α:=(GMap Str (GMap Str Str))) (
   yV (d1.Edges.length:Int) (zbV d1) j_4) fun j_23=>
  Option.bind (zaC j_23) fun r9=>
  some (r9,0))
noncomputable def zhO (s1_1:(List zz))(s2_1:(List zz))(i:Int)(s:Unit):Option (Res Unit (Res Unit Bool)):=
 zg (inR s1_1 i) <|
 zg (inR s2_1 i) <|
 bif !decide ((gx s1_1 i)=(gx s2_1 i))then(
  some (Res.ab (Res.ab false)))
 else(
  some (Res.nx ()))
noncomputable def zcX (s1_1:(List zz))(s2_1:(List zz)):Option Bool:=
 bif !decide ((s1_1.length:Int)=(s2_1.length:Int))then(
  some false)
 else(
  yc (σ:=Unit) (ρ:=Bool) (
   z7 (s1_1.length:Int) (zhO s1_1 s2_1) (fun s=>Res.nx s) ()) fun j_2=>
  some true)
noncomputable def YO (s1:Str):Option Bool:=
 zg (((!decide (s1=Str.nil))&&(decide ((s1.b.length:Int)≤40)))=true→inR s1.b 0) <|
 zg ((((!decide (s1=Str.nil))&&(decide ((s1.b.length:Int)≤40)))&&(decide ((⟨97⟩:KI .u8).n≤(⟨((gx s1.b 0).toNat:Int)⟩:KI .u8).n)))=true→inR s1.b 0) <|
 Option.bind (gd (((((!decide (s1=Str.nil))&&(decide ((s1.b.length:Int)≤40)))&&(decide ((⟨97⟩:KI .u8).n≤(⟨((gx s1.b 0).toNat:Int)⟩:KI .u8).n)))&&(decide ((⟨((gx s1.b 0).toNat:Int)⟩:KI .u8).n≤(⟨122⟩:KI .u8).n)))) (QR s1 (⟨[97,98,99,100,101,102,103,104,105,106,107,108,109,110,111,112,113,114,115,116,117,118,119,120,121,122,48,49,50,51,52,53,54,55,56,57,45]⟩:Str))) fun r1=>
 some (((((!decide (s1=Str.nil))&&(decide ((s1.b.length:Int)≤40)))&&(decide ((⟨97⟩:KI .u8).n≤(⟨((gx s1.b 0).toNat:Int)⟩:KI .u8).n)))&&(decide ((⟨((gx s1.b 0).toNat:Int)⟩:KI .u8).n≤(⟨122⟩:KI .u8).n)))&&(decide (r1=Str.nil)))
noncomputable def zbQ (v1:zu)(i:Int)(s:Unit):Option (Res Unit (Res Unit (Res Unit Int))):=
 zg (inR v1.Attrs i) <|
 bnd (gx v1.Attrs i) fun v2=>
 Option.bind (YO v2.Field) fun r2=>
 bif !r2 then(
  some (Res.ab (Res.ab (Res.ab 5))))
 else(
  zg ((decide (0<i))=true→inR v1.Attrs (W (i - 1))) <|
  bif(decide (0<i))&&(Op.bytesLess v2.Field.b ((gx v1.Attrs (W (i - 1))).Field).b || v2.Field.b==((gx v1.Attrs (W (i - 1))).Field).b)then(
   some (Res.ab (Res.ab (Res.ab 7))))
  else(
   Option.bind (Yr v2.Value) fun e1=>
   bif !decide (e1=0)then(
    some (Res.ab (Res.ab (Res.ab e1))))
   else(
    some (Res.nx ()))))
noncomputable def zdu (l1:(List zu))(i:Int)(s:Unit):Option (Res Unit (Res Unit Int)):=
 zg (inR l1 i) <|
 bnd (gx l1 i) fun v1=>
 Option.bind (YO v1.Id) fun r1=>
 bif !r1 then(
  some (Res.ab (Res.ab 5)))
 else(
  zg ((decide (0<i))=true→inR l1 (W (i - 1))) <|
  bif(decide (0<i))&&(Op.bytesLess v1.Id.b ((gx l1 (W (i - 1))).Id).b || v1.Id.b==((gx l1 (W (i - 1))).Id).b)then(
   some (Res.ab (Res.ab 7)))
  else(
   bif decide ((v1.Attrs.length:Int)=0)then(
    some (Res.ab (Res.ab 9)))
   else(
    bif decide (20<(v1.Attrs.length:Int))then(
     some (Res.ab (Res.ab 4)))
    else(
     z7 (v1.Attrs.length:Int) (zbQ v1) (fun s=>Res.nx s) ()))))
noncomputable def Q6 (l1:(List zu)):Option Int:=
 bif decide (2000<(l1.length:Int))then(
  some 4)
 else(
  yc (σ:=Unit) (ρ:=Int) (
   z7 (l1.length:Int) (zdu l1) (fun s=>Res.nx s) ()) fun j_2=>
  some 0)
noncomputable def zdI (v1:zu)(i:Int)(s:(GMap Str (GMap Str Str))):Option (GMap Str (GMap Str Str)):=
 zg (inR v1.Attrs i) <|
 bnd (gx v1.Attrs i) fun v2=>
 zg (s.has v1.Id=true) <|
 some (s.set v1.Id ((s.getD v1.Id GMap.nil).set v2.Field v2.Value))
noncomputable def zdH (l1:(List zu))(i:Int)(s:(GMap Str (GMap Str Str))):Option (GMap Str (GMap Str Str)):=
 zg (inR l1 i) <|
 bnd (gx l1 i) fun v1=>
 bnd (s.set v1.Id (GMap.nil:(GMap Str Str))) fun t2=>
 yV (v1.Attrs.length:Int) (zdI v1) t2
noncomputable def JD (l1:(List zu)):Option (GMap Str (GMap Str Str)):=
 bnd ((GMap.nil:(GMap Str (GMap Str Str)))) fun t1=>
 Option.bind (α:=(GMap Str (GMap Str Str))) (
  yV (l1.length:Int) (zdH l1) t1) fun j_2=>
 some j_2
noncomputable def Jd (slices1:(List (List zu)))(i:Int)(s:Int):Option Int:=
 zg (inR slices1 i) <|
 bnd (W (s+((gx slices1 i).length:Int))) fun size1=>
 bif decide (size1<0)then(
  none)
 else(
  some size1)
noncomputable def Je (slices1:(List (List zu)))(i:Int)(s:(List zu)):Option (List zu):=
 zg (inR slices1 i) <|
 zg (qd (s.length+(gx slices1 i).length)) <|
 some (s++(gx slices1 i))
noncomputable def zcV (slices1:(List (List zu))):Option (List zu):=
 Option.bind (α:=Int) (
  yV (slices1.length:Int) (Jd slices1) 0) fun j_1=>
 Option.bind (ze9 j_1) fun newslice1=>
 Option.bind (α:=(List zu)) (
  yV (slices1.length:Int) (Je slices1) newslice1) fun j_9=>
 some j_9
noncomputable def zcU (s1:(List Str))(s3_:Int)(s11_:(Int×Int×(List Str))):Option (zN (Int×Int×(List Str)) (Int×(List Str))):=
 zg (y3 s11_.2.2.length s3_ (s1.length:Int)) <|
 bif decide (s11_.2.1<((s1.length:Int) - s3_))then(
  Option.bind (α:=(Int×(List Str))) (
   zg (y3 s11_.2.2.length s3_ (s1.length:Int)) <|
   zg (0≤s11_.2.1∧s11_.2.1<(s1.length:Int) - s3_) <|
   zg (inR s11_.2.2 (s3_+s11_.2.1)) <|
   zg (y3 s11_.2.2.length s3_ (s1.length:Int)) <|
   zg (0≤(W (s11_.2.1 - 1))∧(W (s11_.2.1 - 1))<(s1.length:Int) - s3_) <|
   zg (inR s11_.2.2 (s3_+(W (s11_.2.1 - 1)))) <|
   bif !decide ((gx s11_.2.2 (s3_+s11_.2.1))=(gx s11_.2.2 (s3_+(W (s11_.2.1 - 1)))))then(
    zg (y3 s11_.2.2.length s3_ (s1.length:Int)) <|
    zg (0≤s11_.2.1∧s11_.2.1<(s1.length:Int) - s3_) <|
    zg (inR s11_.2.2 (s3_+s11_.2.1)) <|
    bnd (gx s11_.2.2 (s3_+s11_.2.1)) fun v1=>
    zg (inR s11_.2.2 s11_.1) <|
    bnd (s11_.2.2.set s11_.1.toNat v1) fun s2=>
    bnd (W (s11_.1+1)) fun k1=>
    some (k1,s2))
   else(
    some (s11_.1,s11_.2.2))) fun j_14=>
  bnd (W (s11_.2.1+1)) fun k2_1=>
  some (zN.again (j_14.1,k2_1,j_14.2)))
 else(
  some (zN.done (s11_.1,s11_.2.2)))
noncomputable def ze7 (s1:(List Str))(s3_:Int):Option (zN Int (Res Unit (List Str))):=
 bif decide (s3_<(s1.length:Int))then(
  yc (σ:=Unit) (ρ:=(zN Int (Res Unit (List Str)))) (
   zg (inR s1 s3_) <|
   zg (inR s1 (W (s3_ - 1))) <|
   bif decide ((gx s1 s3_)=(gx s1 (W (s3_ - 1))))then(
    zg (y3 s1.length s3_ (s1.length:Int)) <|
    Option.bind (α:=(Int×(List Str))) (
     loop (zcU s1 s3_) (s3_,1,s1)) fun j_10=>
    zg (y3 j_10.2.length j_10.1 (j_10.2.length:Int)) <|
    bnd (j_10.2.take j_10.1.toNat++List.replicate (j_10.2.length - j_10.1.toNat) Str.nil) fun s3=>
    zg (y3 s3.length 0 j_10.1) <|
    bnd (seg s3 0 j_10.1) fun v2=>
    some (Res.ab (zN.done (Res.ab v2))))
   else(
    some (Res.nx ()))) fun j_5=>
  bnd (W (s3_+1)) fun k2=>
  some (zN.again k2))
 else(
  some (zN.done (Res.nx ())))
noncomputable def zcT (s1:(List Str)):Option (List Str):=
 bif decide ((s1.length:Int)<2)then(
  some s1)
 else(
  yc (σ:=Unit) (ρ:=(List Str)) (
   loop (ze7 s1) 1) fun j_2=>
  some s1)
noncomputable def zbk (x1:(List zu))(cmp1:(zu→Str→Option Int))(target1:Str)(s3_:(Int×Int)):Option (zN (Int×Int) Int):=
 bif decide (s3_.1<s3_.2)then(
  bnd (W ((KI.of .u64 (W (s3_.1+s3_.2))).shr 1).n) fun h1=>
  zg (inR x1 h1) <|
  Option.bind (cmp1 (gx x1 h1) target1) fun r1=>
  bif decide (r1<0)then(
   bnd (W (h1+1)) fun i1=>
   some (zN.again (i1,s3_.2)))
  else(
   some (zN.again (s3_.1,h1))))
 else(
  some (zN.done s3_.1))
noncomputable def zbj (x1:(List zu))(target1:Str)(cmp1:(zu→Str→Option Int)):Option (Int×Bool):=
 bnd ((x1.length:Int)) fun n1=>
 Option.bind (α:=Int) (
  loop (zbk x1 cmp1 target1) (0,n1)) fun j_2=>
 zg ((decide (j_2<n1))=true→inR x1 j_2) <|
 Option.bind (gd ((decide (j_2<n1))) (cmp1 (gx x1 j_2) target1)) fun r2=>
 some (j_2,(decide (j_2<n1))&&(decide (r2=0)))
noncomputable def strings_Compare (s sep:Str):Option Int:=some (zfN s sep)
noncomputable def QC (x1:zu)(id1:Str):Option Int:=
 Option.bind (strings_Compare x1.Id id1) fun r1=>
 some r1
noncomputable def YK (v1:(List (List zu)))(i:Int)(s:Unit):Option (Res Unit (Res Unit ((List DOp)×Int))):=
 zg (inR v1 i) <|
 Option.bind (Q6 (gx v1 i)) fun e1=>
 bif !decide (e1=0)then(
  some (Res.ab (Res.ab (([]:(List DOp)),e1))))
 else(
  some (Res.nx ()))
noncomputable def zdw (r1:(List zu))(i:Int)(s:(List Str)):Option (List Str):=
 zg (inR r1 i) <|
 bnd (gx r1 i) fun v2=>
 zg (qd (s.length+[v2.Id].length)) <|
 some (s++[v2.Id])
noncomputable def zdy (id1:Str)(now1:(GMap Str (GMap Str Str)))(k:Str)(e:Str)(s:Bool):Option Bool:=
 bif !((now1.getD id1 (GMap.nil:(GMap Str Str))).has k)then(
  some true)
 else(
  some s)
noncomputable def zaz (v3:(List zR))(id1:Str)(j_32:((List DOp)×(GMap Str Str)))(i:Int)(s:(List DOp)):Option (List DOp):=
 zg (inR v3 i) <|
 bnd (gx v3 i) fun v4=>
 bif(!(j_32.2.has v4.Field)) || (!decide ((j_32.2.getD v4.Field Str.nil)=v4.Value))then(
  zg (qd (s.length+[(⟨(⟨(0:Int),Str.nil,(0:Int)⟩:Stamp),1,id1,v4.Field,v4.Value,(0:Int)⟩:DOp)].length)) <|
  some (s++[(⟨(⟨(0:Int),Str.nil,(0:Int)⟩:Stamp),1,id1,v4.Field,v4.Value,(0:Int)⟩:DOp)]))
 else(
  some s)
noncomputable def zdx (b1:(List zu))(r3:(List Str))(now1:(GMap Str (GMap Str Str)))(old1:(GMap Str (GMap Str Str)))(i:Int)(s:(List DOp)):Option (List DOp):=
 zg (inR r3 i) <|
 bnd (gx r3 i) fun id1=>
 bnd (old1.getD id1 (GMap.nil:(GMap Str Str))) fun was1=>
 Option.bind (α:=Bool) (
  QJ was1 (zdy id1 now1) false) fun j_28=>
 Option.bind (α:=((List DOp)×(GMap Str Str))) (
  bif j_28 then(
   zg (qd (s.length+[(⟨(⟨(0:Int),Str.nil,(0:Int)⟩:Stamp),2,id1,Str.nil,Str.nil,(0:Int)⟩:DOp)].length)) <|
   bnd (s++[(⟨(⟨(0:Int),Str.nil,(0:Int)⟩:Stamp),2,id1,Str.nil,Str.nil,(0:Int)⟩:DOp)]) fun out1=>
   bnd ((GMap.nil:(GMap Str Str))) fun was2=>
   some (out1,was2))
  else(
   some (s,was1))) fun j_32=>
 Option.bind (zbj b1 id1 QC) fun r4=>
 bif !r4.2 then(
  some j_32.1)
 else(
  zg (inR b1 r4.1) <|
  bnd ((gx b1 r4.1).Attrs) fun v3=>
  yV (v3.length:Int) (zaz v3 id1 j_32) j_32.1)
noncomputable def zay (a1:(List zu))(b1:(List zu)):Option ((List DOp)×Int):=
 bnd ([a1,b1]) fun v1=>
 yc (σ:=Unit) (ρ:=((List DOp)×Int)) (
  z7 (v1.length:Int) (YK v1) (fun s=>Res.nx s) ()) fun j_2=>
 Option.bind (JD a1) fun old1=>
 Option.bind (JD b1) fun now1=>
 Option.bind (zcV [a1,b1]) fun r1=>
 Option.bind (α:=(List Str)) (
  yV (r1.length:Int) (zdw r1) ([]:List Str)) fun j_12=>
 Option.bind (slices_Sort_string j_12) fun r2=>
 Option.bind (zcT r2) fun r3=>
 Option.bind (α:=(List DOp)) (
  yV (r3.length:Int) (zdx b1 r3 now1 old1) ([]:List DOp)) fun j_21=>
 some (j_21,0)
noncomputable def zbX (t1:(GMap Str (GMap Str Str)))(x1:DOp):Option (GMap Str (GMap Str Str)):=
 bif decide (x1.Kind=2)then(
  bnd (t1.del x1.Id) fun c1=>
  some c1)
 else(
  Option.bind (α:=(GMap Str (GMap Str Str))) (
   bif !t1.has x1.Id then(
    some (t1.set x1.Id (GMap.nil:(GMap Str Str))))
   else(
    some t1)) fun j_3=>
  zg (j_3.has x1.Id=true) <|
  some (j_3.set x1.Id ((j_3.getD x1.Id GMap.nil).set x1.Field x1.Value)))
noncomputable def zdt (ops1:(List DOp))(i:Int)(s:(GMap Str (GMap Str Str))):Option (Res (GMap Str (GMap Str Str)) (Res (GMap Str (GMap Str Str)) ((List zu)×Int))):=
 zg (inR ops1 i) <|
 bnd (gx ops1 i) fun v1=>
 bnd (decide (v1.Kind=1)) fun set1=>
 bif(!set1)&&(!decide (v1.Kind=2))then(
  some (Res.ab (Res.ab (([]:(List zu)),1))))
 else(
  Option.bind (YO v1.Id) fun r1=>
  bnd (!r1) fun v2=>
  Option.bind (α:=Bool) (
   bif v2 then(
    some v2)
   else(
    Option.bind (gd (set1) (YO v1.Field)) fun r2=>
    bnd (set1&&(!r2)) fun v3=>
    some v3)) fun j_14=>
  bif j_14 then(
   some (Res.ab (Res.ab (([]:(List zu)),5))))
  else(
   yc (σ:=Unit) (ρ:=(Res (GMap Str (GMap Str Str)) (Res (GMap Str (GMap Str Str)) ((List zu)×Int)))) (
    bif set1 then(
     Option.bind (Yr v1.Value) fun e2=>
     bif !decide (e2=0)then(
      some (Res.ab (Res.ab (Res.ab (([]:(List zu)),e2)))))
     else(
      some (Res.nx ())))
    else(
     bif !s.has v1.Id then(
      some (Res.ab (Res.ab (Res.ab (([]:(List zu)),10)))))
     else(
      some (Res.nx ())))) fun j_19=>
   Option.bind (zbX s v1) fun r3=>
   some (Res.nx r3)))
noncomputable def zax (l1:(List zu))(ops1:(List DOp)):Option ((List zu)×Int):=
 Option.bind (Q6 l1) fun e1=>
 bif !decide (e1=0)then(
  some (([]:(List zu)),e1))
 else(
  Option.bind (JD l1) fun t1=>
  yc (σ:=(GMap Str (GMap Str Str))) (ρ:=((List zu)×Int)) (
   z7 (ops1.length:Int) (zdt ops1) (fun s=>Res.nx s) t1) fun j_4=>
  Option.bind (zaC j_4) fun out1=>
  Option.bind (Q6 out1) fun e3=>
  bif !decide (e3=0)then(
   some (([]:(List zu)),e3))
  else(
   some (out1,0)))
noncomputable def zhM (eq1:(zu→zu→Option Bool))(s1_1:(List zu))(s2_1:(List zu))(i:Int)(s:Unit):Option (Res Unit (Res Unit Bool)):=
 zg (inR s1_1 i) <|
 bnd (gx s1_1 i) fun v1=>
 zg (inR s2_1 i) <|
 bnd (gx s2_1 i) fun v2=>
 Option.bind (eq1 v1 v2) fun r1=>
 bif !r1 then(
  some (Res.ab (Res.ab false)))
 else(
  some (Res.nx ()))
noncomputable def ze8 (s1_1:(List zu))(s2_1:(List zu))(eq1:(zu→zu→Option Bool)):Option Bool:=
 bif !decide ((s1_1.length:Int)=(s2_1.length:Int))then(
  some false)
 else(
  yc (σ:=Unit) (ρ:=Bool) (
   z7 (s1_1.length:Int) (zhM eq1 s1_1 s2_1) (fun s=>Res.nx s) ()) fun j_2=>
  some true)
noncomputable def zhN (s1_1:(List zR))(s2_1:(List zR))(i:Int)(s:Unit):Option (Res Unit (Res Unit Bool)):=
 zg (inR s1_1 i) <|
 zg (inR s2_1 i) <|
 bif !decide ((gx s1_1 i)=(gx s2_1 i))then(
  some (Res.ab (Res.ab false)))
 else(
  some (Res.nx ()))
noncomputable def zcW (s1_1:(List zR))(s2_1:(List zR)):Option Bool:=
 bif !decide ((s1_1.length:Int)=(s2_1.length:Int))then(
  some false)
 else(
  yc (σ:=Unit) (ρ:=Bool) (
   z7 (s1_1.length:Int) (zhN s1_1 s2_1) (fun s=>Res.nx s) ()) fun j_2=>
  some true)
noncomputable def zbu (x1:zu)(y1:zu):Option Bool:=
 Option.bind (gd ((decide (x1.Id=y1.Id))) (zcW x1.Attrs y1.Attrs)) fun r1=>
 some ((decide (x1.Id=y1.Id))&&r1)
noncomputable def zbt (a1:(List zu))(b1:(List zu)):Option Bool:=
 Option.bind (ze8 a1 b1 zbu) fun r1=>
 some r1
noncomputable def zhQ (f1:(zl→Option Bool))(s1:(List zl))(i:Int)(s:Unit):Option (Res Unit (Res Unit Int)):=
 zg (inR s1 i) <|
 Option.bind (f1 (gx s1 i)) fun r1=>
 bif r1 then(
  some (Res.ab (Res.ab i)))
 else(
  some (Res.nx ()))
noncomputable def zbn (s1:(List zl))(f1:(zl→Option Bool)):Option Int:=
 yc (σ:=Unit) (ρ:=Int) (
  z7 (s1.length:Int) (zhQ f1 s1) (fun s=>Res.nx s) ()) fun j_1=>
 some (-1)
noncomputable def zbm (s1:(List zl))(f1:(zl→Option Bool)):Option Bool:=
 Option.bind (zbn s1 f1) fun r1=>
 some (decide (0≤r1))
noncomputable def zc1 (n1:zl):Option Bool:=
 some (decide (n1.Kind=6))
noncomputable def J9 (s1:Str)(suffix1:Str):Option Bool:=
 zg ((decide ((suffix1.b.length:Int)≤(s1.b.length:Int)))=true→y3 s1.b.length (W ((s1.b.length:Int) - (suffix1.b.length:Int))) (s1.b.length:Int)) <|
 some ((decide ((suffix1.b.length:Int)≤(s1.b.length:Int)))&&(decide ((⟨seg s1.b (W ((s1.b.length:Int) - (suffix1.b.length:Int))) (s1.b.length:Int)⟩:Str)=suffix1)))
noncomputable def zc0 (s1:Str)(suffix1:Str):Option Str:=
 Option.bind (J9 s1 suffix1) fun r1=>
 bif r1 then(
  zg (y3 s1.b.length 0 (W ((s1.b.length:Int) - (suffix1.b.length:Int)))) <|
  some (⟨seg s1.b 0 (W ((s1.b.length:Int) - (suffix1.b.length:Int)))⟩:Str))
 else(
  some s1)
noncomputable def Jg (s1:Str)(suffix1:Str):Option Str:=
 Option.bind (zc0 s1 suffix1) fun r1=>
 some r1
noncomputable def zcR (s1:(List zl)):Option (List zl):=
 QK s1 (
  some ([]:List zl)) (
  zg (qd (([]:(List zl)).length+s1.length)) <|
  bnd (([]:(List zl))++s1) fun v1=>
  some v1)
noncomputable def zcQ (s1:(List zA)):Option (List zA):=
 QK s1 (
  some ([]:List zA)) (
  zg (qd (([]:(List zA)).length+s1.length)) <|
  bnd (([]:(List zA))++s1) fun v1=>
  some v1)
noncomputable def zcS (s1:(List zJ)):Option (List zJ):=
 QK s1 (
  some ([]:List zJ)) (
  zg (qd (([]:(List zJ)).length+s1.length)) <|
  bnd (([]:(List zJ))++s1) fun v1=>
  some v1)
noncomputable def zdr  (i:Int)(s:(List zA)):Option (List zA):=
 zg (inR s i) <|
 Option.bind (zcS ((gx s i).Bends)) fun r3=>
 zg (inR s i) <|
 some (s.set i.toNat { gx s i with Bends:=r3 })
noncomputable def Qc (d1:Doc):Option Doc:=
 bnd ((⟨([]:(List zl)),([]:(List zA))⟩:Doc)) fun v1=>
 Option.bind (zcR d1.Nodes) fun r1=>
 Option.bind (zcQ d1.Edges) fun r2=>
 Option.bind (α:=(List zA)) (
  yV (r2.length:Int) zdr r2) fun j_4=>
 some ({ d1 with Nodes:=r1,Edges:=j_4 })
noncomputable def zhK (l:List yh)(i j:Int):Option (List yh×List yh):=zg (l.length≤1073741824∧0≤i∧i<l.length∧j=l.length) (some (seg l i j,l))
noncomputable def Q2 (k1:zY)(s1:yh):Option zY:=
 zg (qd (k1.past.length+[k1.now].length)) <|
 bnd (k1.past++[k1.now]) fun c1=>
 Option.bind (α:=zY) (
  bif decide (50<((k1.past++[k1.now]).length:Int))then(
   zg (y3 c1.length 1 (c1.length:Int)) <|
   Option.bind (zhK c1 1 (c1.length:Int)) fun r1=>
   some ({ k1 with past:=r1.1 }))
  else(
   some ({ k1 with past:=c1 }))) fun j_3=>
 some ({ { { j_3 with now:=s1 }with next:=([]:(List yh)) }with past:=j_3.past })
noncomputable def zdn (k1:zY)(d1:Doc)(e1:Int):Option (Str×Int×zY):=
 Option.bind (α:=zY) (
  bif decide (e1=0)then(
   Option.bind (Q2 ({ k1 with past:=k1.past }) (⟨d1,k1.now.rules⟩:yh)) fun r1=>
   some ({ r1 with past:=r1.past }))
  else(
   some ({ k1 with past:=k1.past }))) fun j_1=>
 some (Str.nil,e1,{ j_1 with past:=j_1.past })
noncomputable def YI (k1:zY)(d1:Doc):Option (Str×Int×zY):=
 Option.bind (jE d1) fun r1=>
 Option.bind (zdn ({ k1 with past:=k1.past }) d1 r1) fun r2=>
 some (r2.1,r2.2.1,{ r2.2.2 with past:=r2.2.2.past })
noncomputable def Q1 (k1:zY)(w1:(List Str))(text1:Str):Option (Str×Int×zY):=
 Option.bind (Qc k1.now.doc) fun r1=>
 zg (inR w1 0) <|
 bif decide ((gx w1 0)=(⟨[101,100,103,101]⟩:Str))then(
  Option.bind (zaq w1 text1) fun r2=>
  bif !r2.2 then(
   some (Str.nil,8,{ k1 with past:=k1.past }))
  else(
   zg (qd (r1.Edges.length+[r2.1].length)) <|
   Option.bind (YI ({ k1 with past:=k1.past }) ({ r1 with Nodes:=r1.Nodes,Edges:=r1.Edges++[r2.1] })) fun r3=>
   some (r3.1,r3.2.1,{ r3.2.2 with past:=r3.2.2.past })))
 else(
  Option.bind (zas w1 text1) fun r4=>
  bif(!r4.2) || (decide (r4.1.Kind=6))then(
   some (Str.nil,8,{ k1 with past:=k1.past }))
  else(
   zg (qd (r1.Nodes.length+[r4.1].length)) <|
   Option.bind (YI ({ k1 with past:=k1.past }) ({ r1 with Nodes:=r1.Nodes++[r4.1],Edges:=r1.Edges })) fun r5=>
   some (r5.1,r5.2.1,{ r5.2.2 with past:=r5.2.2.past })))
noncomputable def zbl (s1:(List zz)):Option (List zz):=
 QK s1 (
  some ([]:List zz)) (
  zg (qd (([]:(List zz)).length+s1.length)) <|
  bnd (([]:(List zz))++s1) fun v1=>
  some v1)
noncomputable def Jw (k1:zY)(w1:(List Str)):Option (Str×Int×zY):=
 zg (inR w1 0) <|
 bif decide ((gx w1 0)=(⟨[115,116,121,108,101]⟩:Str))then(
  Option.bind (zat w1) fun r1=>
  bif !r1.2 then(
   some (Str.nil,8,{ k1 with past:=k1.past }))
  else(
   Option.bind (zbl k1.now.rules) fun r2=>
   zg (qd (r2.length+[r1.1].length)) <|
   Option.bind (Jv (r2++[r1.1])) fun e1=>
   bif !decide (e1=0)then(
    some (Str.nil,e1,{ k1 with past:=k1.past }))
   else(
    Option.bind (Q2 ({ k1 with past:=k1.past }) (⟨k1.now.doc,r2++[r1.1]⟩:yh)) fun r3=>
    some (Str.nil,0,{ r3 with past:=r3.past }))))
 else(
  none)
noncomputable def vI (k1:zY)(line1:Str):Option (Str×Int×zY):=
 Option.bind (Q3 line1) fun r1=>
 bif !r1.2.2.2 then(
  some (Str.nil,8,{ k1 with past:=k1.past }))
 else(
  Option.bind (YM) fun r2=>
  zg (y3 r2.length 1 (r2.length:Int)) <|
  zg (inR r1.1 0) <|
  Option.bind (J7 (seg r2 1 (r2.length:Int)) (gx r1.1 0)) fun isKind1=>
  zg (isKind1=false→inR r1.1 0) <|
  bif isKind1 || (decide ((gx r1.1 0)=(⟨[101,100,103,101]⟩:Str)))then(
   bif r1.2.2.1&&(decide (r1.2.1=Str.nil))then(
    some (Str.nil,8,{ k1 with past:=k1.past }))
   else(
    Option.bind (Q1 ({ k1 with past:=k1.past }) r1.1 r1.2.1) fun r3=>
    some (r3.1,r3.2.1,{ r3.2.2 with past:=r3.2.2.past })))
  else(
   zg (inR r1.1 0) <|
   bif decide ((gx r1.1 0)=(⟨[116,101,120,116]⟩:Str))then(
    bif(!r1.2.2.1) || (!decide ((r1.1.length:Int)=2))then(
     some (Str.nil,8,{ k1 with past:=k1.past }))
    else(
     none))
   else(
    bif r1.2.2.1 then(
     some (Str.nil,8,{ k1 with past:=k1.past }))
    else(
     zg (inR r1.1 0) <|
     bnd (gx r1.1 0) fun v1=>
     bnd (decide (v1=(⟨[109,111,118,101]⟩:Str))) fun v2=>
     Option.bind (α:=Bool) (
      bif v2 then(
       some v2)
      else(
       bnd (decide (v1=(⟨[97,108,105,103,110]⟩:Str))) fun v3=>
       bif v3 then(
        some v3)
       else(
        bnd (decide (v1=(⟨[115,112,114,101,97,100]⟩:Str))) fun v4=>
        bif v4 then(
         some v4)
        else(
         bnd (decide (v1=(⟨[115,110,97,112]⟩:Str))) fun v5=>
         bif v5 then(
          some v5)
         else(
          bnd (decide (v1=(⟨[106,111,105,110]⟩:Str))) fun v6=>
          bif v6 then(
           some v6)
          else(
           bnd (decide (v1=(⟨[102,114,111,110,116]⟩:Str))) fun v7=>
           bif v7 then(
            some v7)
           else(
            bnd (decide (v1=(⟨[98,97,99,107]⟩:Str))) fun v8=>
            bif v8 then(
             some v8)
            else(
             bnd (decide (v1=(⟨[100,101,108,101,116,101]⟩:Str))) fun v9=>
             bif v9 then(
              some v9)
             else(
              bnd (decide (v1=(⟨[99,111,112,121]⟩:Str))) fun v10=>
              some v10))))))))) fun j_18=>
     bif j_18 then(
      bif decide ((r1.1.length:Int)<2)then(
       some (Str.nil,8,{ k1 with past:=k1.past }))
      else(
       none))
     else(
      bnd (decide (v1=(⟨[99,108,97,115,115]⟩:Str))) fun v11=>
      Option.bind (α:=Bool) (
       bif v11 then(
        some v11)
       else(
        bnd (decide (v1=(⟨[108,111,99,107]⟩:Str))) fun v12=>
        bif v12 then(
         some v12)
        else(
         bnd (decide (v1=(⟨[102,114,101,101]⟩:Str))) fun v13=>
         bif v13 then(
          some v13)
         else(
          bnd (decide (v1=(⟨[112,97,114,116]⟩:Str))) fun v14=>
          bif v14 then(
           some v14)
          else(
           bnd (decide (v1=(⟨[115,104,111,119]⟩:Str))) fun v15=>
           some v15))))) fun j_38=>
      bif j_38 then(
       bif decide ((r1.1.length:Int)<2)then(
        some (Str.nil,8,{ k1 with past:=k1.past }))
       else(
        none))
      else(
       Option.bind (Jw ({ k1 with past:=k1.past }) r1.1) fun r4=>
       some (r4.1,r4.2.1,{ r4.2.2 with past:=r4.2.2.past })))))))
noncomputable def zbJ (k1:zY):Option Doc:=
 bnd ((⟨([]:(List zl)),([]:(List zA))⟩:Doc)) fun v1=>
 Option.bind (Qc k1.now.doc) fun r1=>
 some r1
noncomputable def zc2 (r12:(List Str))(i:Int)(s:zY):Option (Res zY (Res zY Bool)):=
 zg (inR r12 i) <|
 bnd (gx r12 i) fun s1=>
 bif decide (s1=Str.nil)then(
  some (Res.nx ({ s with past:=s.past })))
 else(
  Option.bind (vI ({ s with past:=s.past }) s1) fun r13=>
  bif !decide (r13.2.1=0)then(
   some (Res.ab (Res.ab false)))
  else(
   some (Res.nx ({ r13.2.2 with past:=r13.2.2.past }))))
noncomputable def zbs (d1:Doc)(old1:Doc)(l1:(List zz)):Option Bool:=
 Option.bind (Qx d1 l1) fun r1=>
 bif !decide (r1.2=0)then(
  some (decide (r1.1=Str.nil)))
 else(
  Option.bind (zbK r1.1) fun r2=>
  Option.bind (YN d1) fun r3=>
  Option.bind (gd (!((!decide (r2.2.2.2=0)) || (!decide (r3.2=0)))) (zcX r2.2.1 l1)) fun r4=>
  bif((!decide (r2.2.2.2=0)) || (!decide (r3.2=0))) || (!r4)then(
   some false)
  else(
   Option.bind (Qx r2.1 r2.2.1) fun r5=>
   bif(!decide (r5.2=0)) || (!decide (r5.1=r1.1))then(
    some false)
   else(
    Option.bind (YN old1) fun r6=>
    yc (σ:=Unit) (ρ:=Bool) (
     bif decide (r6.2=0)then(
      Option.bind (zay r6.1 r3.1) fun r7=>
      Option.bind (zax r6.1 r7.1) fun r8=>
      Option.bind (gd (!((!decide (r7.2=0)) || (!decide (r8.2=0)))) (zbt r8.1 r3.1)) fun r9=>
      bif((!decide (r7.2=0)) || (!decide (r8.2=0))) || (!r9)then(
       some (Res.ab false))
      else(
       some (Res.nx ())))
     else(
      some (Res.nx ()))) fun j_10=>
    Option.bind (zbm d1.Nodes zc1) fun r10=>
    bif r10 then(
     some true)
    else(
     Option.bind (Jg r1.1 (⟨[10]⟩:Str)) fun r11=>
     Option.bind (strings_Split r11 (⟨[10]⟩:Str)) fun r12=>
     yc (σ:=zY) (ρ:=Bool) (
      z7 (r12.length:Int) (zc2 r12) (fun s=>Res.nx s) (⟨(⟨(⟨([]:(List zl)),([]:(List zA))⟩:Doc),([]:(List zz))⟩:yh),([]:List yh),([]:(List yh))⟩:zY)) fun j_20=>
     Option.bind (zbJ ({ j_20 with past:=j_20.past })) fun r14=>
     Option.bind (Qx r14 l1) fun r15=>
     some ((decide (r15.2=0))&&(decide (r15.1=r1.1)))))))
end Go.DB
