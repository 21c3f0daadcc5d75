/- A part of the proof. -/
import Derived.Test.YtmfcdppbnbfpjaaGreatDoorRerTy
set_option maxRecDepth 100000
set_option linter.unusedVariables false
namespace Go.DB
open Go Go.RowKit
noncomputable def zeW (s cs:Str):Option Str:=zl ((cs.b.length:Int)<4294967281∧cs.b.all (fun b=>decide (b.toNat<128))=true) (some (trimS s cs))
noncomputable def utf8_ValidString (s:Str):Option Bool:=some (zad s)
noncomputable def slices_Compact_int (l:List Int):Option (List Int):=zl ((l.length:Int)<4611686018427387904) (some (jR l))
noncomputable def slices_Sort_int (l:List Int):Option (List Int):=zl ((l.length:Int)<4611686018427387904) (some (jY l))
noncomputable def QN (s1:Str):Option Bool:=
 zl (((!decide (s1=Str.nil))&&(decide ((s1.b.length:Int)≤40)))=true→inR s1.b 0) <|
 zl (((!decide (s1=Str.nil))&&(decide ((s1.b.length:Int)≤40)))=true→(decide ((⟨97⟩:KI .u8).n≤(⟨((gx s1.b 0).toNat:Int)⟩:KI .u8).n))=true→inR s1.b 0) <|
 Option.bind (gd ((((!decide (s1=Str.nil))&&(decide ((s1.b.length:Int)≤40)))&&((decide ((⟨97⟩:KI .u8).n≤(⟨((gx s1.b 0).toNat:Int)⟩:KI .u8).n))&&(decide ((⟨((gx s1.b 0).toNat:Int)⟩:KI .u8).n≤(⟨122⟩:KI .u8).n))))) (zeW s1 (⟨[97,98,99,100,101,102,103,104,105,106,107,108,109,110,111,112,113,114,115,116,117,118,119,120,121,122,48,49,50,51,52,53,54,55,56,57,45]⟩:Str))) fun r1=>
 some ((((!decide (s1=Str.nil))&&(decide ((s1.b.length:Int)≤40)))&&((decide ((⟨97⟩:KI .u8).n≤(⟨((gx s1.b 0).toNat:Int)⟩:KI .u8).n))&&(decide ((⟨((gx s1.b 0).toNat:Int)⟩:KI .u8).n≤(⟨122⟩:KI .u8).n))))&&(decide (r1=Str.nil)))
noncomputable def YO (n1:Int):Option Bool:=
 some ((decide (n1<(-1000000))) || (decide (1000000<n1)))
noncomputable def QE (b1:Box):Option Int:=
 Option.bind (YO b1.X) fun r1=>
 Option.bind (gd (!r1) (YO b1.Y)) fun r2=>
 bif((((r1 || r2) || (decide (b1.W_<1))) || (decide (20000<b1.W_))) || (decide (b1.H<1))) || (decide (20000<b1.H))then(
  some 3)
 else(
  some 0)
noncomputable def zhe (s1:Str)(i:Int)(s:Unit):Option (Res Unit (Res Unit Int)):=
 zl (inR s1.b i) <|
 zl ((decide ((⟨((gx s1.b i).toNat:Int)⟩:KI .u8).n<(⟨32⟩:KI .u8).n))=true→inR s1.b i) <|
 zl (((decide ((⟨((gx s1.b i).toNat:Int)⟩:KI .u8).n<(⟨32⟩:KI .u8).n))&&(!decide ((⟨((gx s1.b i).toNat:Int)⟩:KI .u8).n=(⟨10⟩:KI .u8).n)))=false→inR s1.b i) <|
 bif((decide ((⟨((gx s1.b i).toNat:Int)⟩:KI .u8).n<(⟨32⟩:KI .u8).n))&&(!decide ((⟨((gx s1.b i).toNat:Int)⟩:KI .u8).n=(⟨10⟩:KI .u8).n))) || (decide ((⟨((gx s1.b i).toNat:Int)⟩:KI .u8).n=(⟨127⟩:KI .u8).n))then(
  some (Res.ab (Res.ab 2)))
 else(
  some (Res.nx ()))
noncomputable def zaa (s1:Str):Option Int:=
 bif decide (1000<(s1.b.length:Int))then(
  some 4)
 else(
  Option.bind (utf8_ValidString s1) fun r1=>
  bif !r1 then(
   some 2)
  else(
   yg (σ:=Unit) (ρ:=Int) (
    ya (s1.b.length:Int) (zhe s1) (fun s=>Res.nx s) ()) fun j_4=>
   some 0))
noncomputable def zb8 (n1:zm)(twice1:Bool):Option Int:=
 Option.bind (QN n1.Id) fun r1=>
 bif !r1 then(
  some 5)
 else(
  bif twice1 then(
   some 6)
  else(
   bif(decide (n1.Kind<1)) || (decide (6<n1.Kind))then(
    some 1)
   else(
    bif(decide (n1.Kind=6))&&(!decide (n1.Box=(⟨(0:Int),(0:Int),(0:Int),(0:Int)⟩:Box)))then(
     some 2)
    else(
     yg (σ:=Unit) (ρ:=Int) (
      bif !decide (n1.Kind=6)then(
       Option.bind (QE n1.Box) fun e1=>
       bif !decide (e1=0)then(
        some (Res.ab e1))
       else(
        some (Res.nx ())))
      else(
       some (Res.nx ()))) fun j_6=>
     Option.bind (zaa n1.Text) fun e2=>
     bif !decide (e2=0)then(
      some e2)
     else(
      Option.bind (gd ((!decide (n1.Class=Str.nil))) (QN n1.Class)) fun r2=>
      bif(!decide (n1.Class=Str.nil))&&(!r2)then(
       some 5)
      else(
       some 0))))))
noncomputable def zd5 (d1:Doc)(i:Int)(s:((GMap Str Int)×(GMap Str (List Int)))):Option ((GMap Str Int)×(GMap Str (List Int))):=
 zl (inR d1.Nodes i) <|
 bnd (gx d1.Nodes i) fun v1=>
 bnd (s.1.set v1.Id i) fun c3=>
 bif !decide (v1.Parent=Str.nil)then(
  zl (y9 ((s.2.getD v1.Parent ([]:(List Int))).length+[i].length)) <|
  some (c3,s.2.set v1.Parent ((s.2.getD v1.Parent ([]:(List Int)))++[i])))
 else(
  some (c3,s.2))
noncomputable def zb9 (d1:Doc):Option (Option yk):=
 bnd ((GMap.nil:(GMap Str Int))) fun c1=>
 bnd ((GMap.nil:(GMap Str (List Int)))) fun c2=>
 Option.bind (α:=((GMap Str Int)×(GMap Str (List Int)))) (
  yS (d1.Nodes.length:Int) (zd5 d1) (c1,c2)) fun j_3=>
 some (some (⟨d1,j_3.1,j_3.2⟩:yk))
noncomputable def zcc (v1:yk)(id1:Str):Option zm:=
 bnd ((⟨Str.nil,(0:Int),(⟨(0:Int),(0:Int),(0:Int),(0:Int)⟩:Box),Str.nil,Str.nil,Str.nil,false⟩:zm)) fun v2=>
 zl (inR v1.d.Nodes (v1.number.getD id1 (0:Int))) <|
 bnd (gx v1.d.Nodes (v1.number.getD id1 (0:Int))) fun v3=>
 some v3
noncomputable def zd6 (n1:zm)(v1:yk)(s2_:(Int×zm)):Option (zI (Int×zm) (Res Int (Int×Bool))):=
 bif !decide (s2_.2.Parent=Str.nil)then(
  bnd (W (s2_.1+1)) fun many1=>
  bif(decide (s2_.2.Parent=n1.Id)) || (decide ((v1.d.Nodes.length:Int)<many1))then(
   some (zI.done (Res.ab (many1,!decide (s2_.2.Parent=n1.Id)))))
  else(
   Option.bind (zcc v1 s2_.2.Parent) fun r1=>
   some (zI.again (many1,r1))))
 else(
  some (zI.done (Res.nx s2_.1)))
noncomputable def JJ (v1:yk)(n1:zm):Option (Int×Bool):=
 yg (σ:=Int) (ρ:=(Int×Bool)) (
  loop (zd6 n1 v1) (0,n1)) fun j_1=>
 some (j_1,true)
noncomputable def zd7 (v1:yk)(i:Int)(s:Unit):Option (Res Unit (Res Unit Int)):=
 zl (inR v1.d.Nodes i) <|
 bnd (gx v1.d.Nodes i) fun v2=>
 zl ((!decide (v2.Parent=Str.nil))=true→(!(v1.number.has v2.Parent))=false→inR v1.d.Nodes (v1.number.getD v2.Parent (0:Int))) <|
 bif(!decide (v2.Parent=Str.nil))&&((!(v1.number.has v2.Parent)) || (!decide (((gx v1.d.Nodes (v1.number.getD v2.Parent (0:Int))).Kind)=6)))then(
  some (Res.ab (Res.ab 10)))
 else(
  some (Res.nx ()))
noncomputable def zd8 (v1:yk)(i:Int)(s:Unit):Option (Res Unit (Res Unit Int)):=
 zl (inR v1.d.Nodes i) <|
 bnd (gx v1.d.Nodes i) fun v3=>
 Option.bind (JJ v1 v3) fun r1=>
 bif !r1.2 then(
  some (Res.ab (Res.ab 13)))
 else(
  some (Res.nx ()))
noncomputable def zd9 (v1:yk)(i:Int)(s:Unit):Option (Res Unit (Res Unit Int)):=
 zl (inR v1.d.Nodes i) <|
 bnd (gx v1.d.Nodes i) fun v4=>
 Option.bind (JJ v1 v4) fun r2=>
 bif decide (8<r2.1)then(
  some (Res.ab (Res.ab 4)))
 else(
  some (Res.nx ()))
noncomputable def zea (v1:yk)(i:Int)(s:Unit):Option (Res Unit (Res Unit Int)):=
 zl (inR v1.d.Nodes i) <|
 bnd (gx v1.d.Nodes i) fun v5=>
 bif(decide (v5.Kind=6))&&(decide (((v1.members.getD v5.Id ([]:(List Int))).length:Int)=0))then(
  some (Res.ab (Res.ab 9)))
 else(
  some (Res.nx ()))
noncomputable def QO (v1:yk):Option Int:=
 yg (σ:=Unit) (ρ:=Int) (
  ya (v1.d.Nodes.length:Int) (zd7 v1) (fun s=>Res.nx s) ()) fun j_1=>
 yg (σ:=Unit) (ρ:=Int) (
  ya (v1.d.Nodes.length:Int) (zd8 v1) (fun s=>Res.nx s) ()) fun j_9=>
 yg (σ:=Unit) (ρ:=Int) (
  ya (v1.d.Nodes.length:Int) (zd9 v1) (fun s=>Res.nx s) ()) fun j_17=>
 yg (σ:=Unit) (ρ:=Int) (
  ya (v1.d.Nodes.length:Int) (zea v1) (fun s=>Res.nx s) ()) fun j_25=>
 some 0
noncomputable def zcb (v1:yk)(x1:yx):Option Int:=
 bif !(v1.number.has x1.Node)then(
  some 10)
 else(
  zl (inR v1.d.Nodes (v1.number.getD x1.Node (0:Int))) <|
  bif decide (((gx v1.d.Nodes (v1.number.getD x1.Node (0:Int))).Kind)=6)then(
   some 1)
  else(
   bif(((decide (x1.Side<1)) || (decide (4<x1.Side))) || (decide (x1.At<0))) || (decide (1000<x1.At))then(
    some 3)
   else(
    some 0)))
noncomputable def YN (p1:zd):Option Int:=
 Option.bind (YO p1.X) fun r1=>
 Option.bind (gd (!r1) (YO p1.Y)) fun r2=>
 bif r1 || r2 then(
  some 3)
 else(
  some 0)
noncomputable def zf0 (l1:(List zd))(i:Int)(s:Unit):Option (Res Unit (Res Unit Int)):=
 zl (inR l1 i) <|
 bnd (gx l1 i) fun v1=>
 Option.bind (YN v1) fun e1=>
 bif !decide (e1=0)then(
  some (Res.ab (Res.ab e1)))
 else(
  some (Res.nx ()))
noncomputable def zbR (l1:(List zd)):Option Int:=
 yg (σ:=Unit) (ρ:=Int) (
  ya (l1.length:Int) (zf0 l1) (fun s=>Res.nx s) ()) fun j_1=>
 some 0
noncomputable def zbP (l1:(List zd)):Option Int:=
 bif decide (1000<(l1.length:Int))then(
  some 4)
 else(
  Option.bind (zbR l1) fun r1=>
  some r1)
noncomputable def zgz (v1:yk)(v2:(List yx))(i:Int)(s:Unit):Option (Res Unit (Res Unit Int)):=
 zl (inR v2 i) <|
 bnd (gx v2 i) fun v3=>
 Option.bind (zcb v1 v3) fun e1=>
 bif !decide (e1=0)then(
  some (Res.ab (Res.ab e1)))
 else(
  some (Res.nx ()))
noncomputable def zca (v1:yk)(x1:zJ)(twice1:Bool):Option Int:=
 Option.bind (QN x1.Id) fun r1=>
 bif !r1 then(
  some 5)
 else(
  bif twice1 then(
   some 6)
  else(
   bnd ([x1.From,x1.To]) fun v2=>
   yg (σ:=Unit) (ρ:=Int) (
    ya (v2.length:Int) (zgz v1 v2) (fun s=>Res.nx s) ()) fun j_5=>
   bif decide (50<(x1.Bends.length:Int))then(
    some 4)
   else(
    Option.bind (zbP x1.Bends) fun e2=>
    bif !decide (e2=0)then(
     some e2)
    else(
     Option.bind (zaa x1.Text) fun e3=>
     bif !decide (e3=0)then(
      some e3)
     else(
      Option.bind (gd ((!decide (x1.Class=Str.nil))) (QN x1.Class)) fun r2=>
      bif(!decide (x1.Class=Str.nil))&&(!r2)then(
       some 5)
      else(
       some 0))))))
noncomputable def zfZ (l1:(List Box))(i:Int)(s:Unit):Option (Res Unit (Res Unit Int)):=
 zl (inR l1 i) <|
 bnd (gx l1 i) fun v1=>
 Option.bind (QE v1) fun e1=>
 bif !decide (e1=0)then(
  some (Res.ab (Res.ab e1)))
 else(
  some (Res.nx ()))
noncomputable def zbQ (l1:(List Box)):Option Int:=
 yg (σ:=Unit) (ρ:=Int) (
  ya (l1.length:Int) (zfZ l1) (fun s=>Res.nx s) ()) fun j_1=>
 some 0
noncomputable def zdu (l1:(List Box))(i:Int)(s:Box):Option Box:=
 zl (inR l1 i) <|
 bnd (gx l1 i) fun v6=>
 bnd (min s.X v6.X) fun x1=>
 bnd (min s.Y v6.Y) fun y1=>
 bnd ((⟨x1,y1,W ((max (W (s.X+s.W_)) (W (v6.X+v6.W_))) - x1),W ((max (W (s.Y+s.H)) (W (v6.Y+v6.H))) - y1)⟩:Box)) fun v7=>
 some v7
noncomputable def zay (l1:(List Box)):Option (Box×Int):=
 bnd ((⟨(0:Int),(0:Int),(0:Int),(0:Int)⟩:Box)) fun v1=>
 bif decide (1000<(l1.length:Int))then(
  bnd ((⟨(0:Int),(0:Int),(0:Int),(0:Int)⟩:Box)) fun v2=>
  some (v2,4))
 else(
  Option.bind (zbQ l1) fun e1=>
  bif !decide (e1=0)then(
   bnd ((⟨(0:Int),(0:Int),(0:Int),(0:Int)⟩:Box)) fun v3=>
   some (v3,e1))
  else(
   bif decide ((l1.length:Int)=0)then(
    bnd ((⟨(0:Int),(0:Int),(0:Int),(0:Int)⟩:Box)) fun v4=>
    some (v4,9))
   else(
    zl (inR l1 0) <|
    bnd (gx l1 0) fun v5=>
    Option.bind (α:=Box) (
     yS (l1.length:Int) (zdu l1) v5) fun j_11=>
    bif(decide (20000<j_11.W_)) || (decide (20000<j_11.H))then(
     bnd ((⟨(0:Int),(0:Int),(0:Int),(0:Int)⟩:Box)) fun v8=>
     some (v8,4))
    else(
     some (j_11,0)))))
noncomputable def zax (b1:Box)(n1:Int):Option (Box×Int):=
 bnd ((⟨(0:Int),(0:Int),(0:Int),(0:Int)⟩:Box)) fun v1=>
 Option.bind (QE b1) fun e1=>
 bif !decide (e1=0)then(
  bnd ((⟨(0:Int),(0:Int),(0:Int),(0:Int)⟩:Box)) fun v2=>
  some (v2,e1))
 else(
  bif(decide (n1<(-20000))) || (decide (20000<n1))then(
   bnd ((⟨(0:Int),(0:Int),(0:Int),(0:Int)⟩:Box)) fun v3=>
   some (v3,3))
  else(
   bnd ((⟨W (b1.X - n1),W (b1.Y - n1),W (b1.W_+(W (2*n1))),W (b1.H+(W (2*n1)))⟩:Box)) fun v4=>
   bif(decide (v4.W_<1)) || (decide (v4.H<1))then(
    bnd ((⟨(0:Int),(0:Int),(0:Int),(0:Int)⟩:Box)) fun v5=>
    some (v5,9))
   else(
    Option.bind (QE v4) fun e2=>
    bif !decide (e2=0)then(
     bnd ((⟨(0:Int),(0:Int),(0:Int),(0:Int)⟩:Box)) fun v6=>
     some (v6,e2))
    else(
     some (v4,0)))))
noncomputable def Qm (self:(yk×Int)→Option (Box×Int))(x:(yk×Int))(v4:(List Int))(i:Int)(s:(List Box)):Option (Res (List Box) (Res (List Box) (Box×Int))):=
 zl (inR v4 i) <|
 Option.bind (self (x.1,(gx v4 i))) fun r1=>
 bif !decide (r1.2=0)then(
  bnd ((⟨(0:Int),(0:Int),(0:Int),(0:Int)⟩:Box)) fun v5=>
  some (Res.ab (Res.ab (v5,r1.2))))
 else(
  zl (y9 (s.length+[r1.1].length)) <|
  some (Res.nx (s++[r1.1])))
noncomputable def jo (self:(yk×Int)→Option (Box×Int))(x:(yk×Int)):Option (Box×Int):=
 bnd ((⟨(0:Int),(0:Int),(0:Int),(0:Int)⟩:Box)) fun v2=>
 zl (inR x.1.d.Nodes x.2) <|
 bnd (gx x.1.d.Nodes x.2) fun v3=>
 bif !decide (v3.Kind=6)then(
  some (v3.Box,0))
 else(
  bnd (x.1.members.getD v3.Id ([]:(List Int))) fun v4=>
  yg (σ:=(List Box)) (ρ:=(Box×Int)) (
   ya (v4.length:Int) (Qm self x v4) (fun s=>Res.nx s) ([]:List Box)) fun j_6=>
  Option.bind (zay j_6) fun r2=>
  bif !decide (r2.2=0)then(
   bnd ((⟨(0:Int),(0:Int),(0:Int),(0:Int)⟩:Box)) fun v6=>
   some (v6,r2.2))
  else(
   Option.bind (zax r2.1 10) fun r3=>
   some (r3.1,r3.2)))
noncomputable def YU (v1:yk)(i1:Int):Option (Box×Int):=Yg jo (v1,i1)
noncomputable def YT (d1:Doc)(i:Int)(s:(GMap Str Bool)):Option (Res (GMap Str Bool) (Res (GMap Str Bool) Int)):=
 zl (inR d1.Nodes i) <|
 bnd (gx d1.Nodes i) fun v1=>
 Option.bind (zb8 v1 (s.getD v1.Id false)) fun e1=>
 bif !decide (e1=0)then(
  some (Res.ab (Res.ab e1)))
 else(
  some (Res.nx (s.set v1.Id true)))
noncomputable def zaL (d1:Doc)(p1:yk)(i:Int)(s:(GMap Str Bool)):Option (Res (GMap Str Bool) (Res (GMap Str Bool) Int)):=
 zl (inR d1.Edges i) <|
 bnd (gx d1.Edges i) fun v3=>
 Option.bind (zca p1 v3 (s.getD v3.Id false)) fun e3=>
 bif !decide (e3=0)then(
  some (Res.ab (Res.ab e3)))
 else(
  some (Res.nx (s.set v3.Id true)))
noncomputable def zaM (p1:yk)(i:Int)(s:Unit):Option (Res Unit (Res Unit Int)):=
 Option.bind (YU p1 i) fun r1=>
 bif !decide (r1.2=0)then(
  some (Res.ab (Res.ab r1.2)))
 else(
  some (Res.nx ()))
noncomputable def vO (d1:Doc):Option Int:=
 bif(decide (500<(d1.Nodes.length:Int))) || (decide (1000<(d1.Edges.length:Int)))then(
  some 4)
 else(
  bnd ((GMap.nil:(GMap Str Bool))) fun known1=>
  yg (σ:=(GMap Str Bool)) (ρ:=Int) (
   ya (d1.Nodes.length:Int) (YT d1) (fun s=>Res.nx s) known1) fun j_3=>
  Option.bind (zb9 d1) fun v2=>
  Option.bind v2 fun p1=>
  Option.bind (QO p1) fun e2=>
  bif !decide (e2=0)then(
   some e2)
  else(
   yg (σ:=(GMap Str Bool)) (ρ:=Int) (
    ya (d1.Edges.length:Int) (zaL d1 p1) (fun s=>Res.nx s) j_3) fun j_15=>
   yg (σ:=Unit) (ρ:=Int) (
    ya (d1.Nodes.length:Int) (zaM p1) (fun s=>Res.nx s) ()) fun j_23=>
   some 0))
noncomputable def zeR (kind1:Int):Option Bool:=
 some ((decide (1≤kind1))&&(decide (kind1≤5)))
noncomputable def Jd (n1:Int)(limit1:Int):Option Int:=
 bif decide (n1<limit1)then(
  some 1)
 else(
  bif decide (n1=limit1)then(
   some 0)
  else(
   some (-1)))
noncomputable def zbh (n1:Int):Option Int:=
 some (max n1 (W (-n1)))
noncomputable def zbg (kind1:Int)(b1:Box)(p1:zd):Option Int:=
 bnd (W (p1.X - b1.X)) fun x1=>
 bnd (W (p1.Y - b1.Y)) fun y1=>
 bif(((decide (x1<0)) || (decide (b1.W_<x1))) || (decide (y1<0))) || (decide (b1.H<y1))then(
  some (-1))
 else(
  bnd (W ((W (2*x1)) - b1.W_)) fun u1=>
  bnd (W ((W (2*y1)) - b1.H)) fun v1=>
  Option.bind (α:=Int) (
   bif(((decide (x1=0)) || (decide (x1=b1.W_))) || (decide (y1=0))) || (decide (y1=b1.H))then(
    some 0)
   else(
    some 1)) fun j_6=>
  yg (σ:=Unit) (ρ:=Int) (
   bif decide (kind1=3)then(
    Option.bind (Jd (W ((W ((W ((W (u1*u1))*b1.H))*b1.H))+(W ((W ((W (v1*v1))*b1.W_))*b1.W_)))) (W ((W ((W (b1.W_*b1.W_))*b1.H))*b1.H))) fun r1=>
    some (Res.ab r1))
   else(
    bif decide (kind1=4)then(
     Option.bind (zbh u1) fun r2=>
     Option.bind (zbh v1) fun r3=>
     Option.bind (Jd (W ((W (r2*b1.H))+(W (r3*b1.W_)))) (W (b1.W_*b1.H))) fun r4=>
     some (Res.ab r4))
    else(
     bif decide (kind1=2)then(
      Option.bind (α:=(Int×Int×Int×Int)) (
       bif decide (b1.W_<b1.H)then(
        some (v1,u1,b1.H,b1.W_))
       else(
        some (u1,v1,b1.W_,b1.H))) fun j_16=>
      Option.bind (zbh j_16.1) fun r5=>
      bnd (max (W (r5 - (W (j_16.2.2.1 - j_16.2.2.2)))) 0) fun m1=>
      Option.bind (Jd (W ((W (m1*m1))+(W (j_16.2.1*j_16.2.1)))) (W (j_16.2.2.2*j_16.2.2.2))) fun r6=>
      some (Res.ab r6))
     else(
      bif decide (kind1=5)then(
       bnd ((min b1.W_ b1.H).tdiv 4) fun n1=>
       bif decide (n1=0)then(
        some (Res.ab j_6))
       else(
        bnd (W ((W ((W (x1 - b1.W_))+n1)) - y1)) fun k1=>
        bif decide (0<k1)then(
         some (Res.ab (-1)))
        else(
         bif decide (k1=0)then(
          some (Res.ab 0))
         else(
          some (Res.nx ())))))
      else(
       some (Res.nx ())))))) fun j_8=>
  some j_6)
noncomputable def vz (p1:zd)(c0_1:Int)(c1_1:Box):Option Bool:=
 Option.bind (zbg c0_1 c1_1 p1) fun r1=>
 some (decide (0≤r1))
noncomputable def zbd (n1:Int)(c0_1:(zd→Option Bool))(c1_1:zd):Option Bool:=
 Option.bind (c0_1 (⟨c1_1.X,n1⟩:zd)) fun r1=>
 some r1
noncomputable def zbf (j_1:Int)(to1:Int)(holds1:(Int→Option Bool))(s3_:Int):Option (zI Int (Int×Bool)):=
 Option.bind (holds1 s3_) fun r1=>
 bif r1 then(
  some (zI.done (s3_,true)))
 else(
  bif decide (s3_=to1)then(
   some (zI.done (0,false)))
  else(
   bnd (W (s3_+j_1)) fun n1=>
   some (zI.again n1)))
noncomputable def Jc (from1:Int)(to1:Int)(holds1:(Int→Option Bool)):Option (Int×Bool):=
 Option.bind (α:=Int) (
  bif decide (to1<from1)then(
   some (-1))
  else(
   some 1)) fun j_1=>
 loop (zbf j_1 to1 holds1) from1
noncomputable def zbe (n1:Int)(c0_1:(zd→Option Bool))(c1_1:zd):Option Bool:=
 Option.bind (c0_1 (⟨n1,c1_1.Y⟩:zd)) fun r1=>
 some r1
noncomputable def zcK (kind1:Int)(b1:Box)(side1:Int)(at1:Int):Option (zd×Int):=
 bnd ((⟨(0:Int),(0:Int)⟩:zd)) fun v1=>
 Option.bind (zeR kind1) fun r1=>
 bif !r1 then(
  bnd ((⟨(0:Int),(0:Int)⟩:zd)) fun v2=>
  some (v2,1))
 else(
  Option.bind (QE b1) fun e1=>
  bif !decide (e1=0)then(
   bnd ((⟨(0:Int),(0:Int)⟩:zd)) fun v3=>
   some (v3,e1))
  else(
   bif(((decide (side1<1)) || (decide (4<side1))) || (decide (at1<0))) || (decide (1000<at1))then(
    bnd ((⟨(0:Int),(0:Int)⟩:zd)) fun v4=>
    some (v4,3))
   else(
    bnd ((⟨W (b1.X+((W (b1.W_*at1)).tdiv 1000)),W (b1.Y+((W (b1.H*at1)).tdiv 1000))⟩:zd)) fun v5=>
    bif(decide (side1=1)) || (decide (side1=3))then(
     bnd (W (b1.Y+b1.H)) fun to1=>
     Option.bind (α:=(Int×Int)) (
      bif decide (side1=3)then(
       some (to1,b1.Y))
      else(
       some (b1.Y,to1))) fun j_13=>
     Option.bind (Jc j_13.1 j_13.2 (fun x0=>zbd x0 (fun x0=>vz x0 kind1 b1) v5)) fun r2=>
     Option.bind (α:=Int) (
      bif !r2.2 then(
       some (W (b1.Y+(b1.H.tdiv 2))))
      else(
       some r2.1)) fun j_16=>
     bnd ((⟨v5.X,j_16⟩:zd)) fun v6=>
     some (v6,0))
    else(
     bnd (W (b1.X+b1.W_)) fun to2=>
     Option.bind (α:=(Int×Int)) (
      bif decide (side1=2)then(
       some (to2,b1.X))
      else(
       some (b1.X,to2))) fun j_20=>
     Option.bind (Jc j_20.1 j_20.2 (fun x0=>zbe x0 (fun x0=>vz x0 kind1 b1) v5)) fun r3=>
     Option.bind (α:=Int) (
      bif !r3.2 then(
       some (W (b1.X+(b1.W_.tdiv 2))))
      else(
       some r3.1)) fun j_23=>
     bnd ((⟨j_23,v5.Y⟩:zd)) fun v7=>
     some (v7,0)))))
noncomputable def JZ (x1:yx)(c0_1:(GMap Str zm)):Option zd:=
 bnd ((⟨(0:Int),(0:Int)⟩:zd)) fun v1=>
 bnd (c0_1.getD x1.Node (⟨Str.nil,(0:Int),(⟨(0:Int),(0:Int),(0:Int),(0:Int)⟩:Box),Str.nil,Str.nil,Str.nil,false⟩:zm)) fun v2=>
 Option.bind (zcK v2.Kind v2.Box x1.Side x1.At) fun r1=>
 some r1.1
noncomputable def zcM (s1:(List zm)):Option (List zm):=
 QM s1 (
  some ([]:List zm)) (
  zl (y9 (([]:(List zm)).length+s1.length)) <|
  bnd (([]:(List zm))++s1) fun v1=>
  some v1)
noncomputable def zcL (s1:(List zJ)):Option (List zJ):=
 QM s1 (
  some ([]:List zJ)) (
  zl (y9 (([]:(List zJ)).length+s1.length)) <|
  bnd (([]:(List zJ))++s1) fun v1=>
  some v1)
noncomputable def zeH (side1:Int):Option Bool:=
 some ((decide (1≤side1))&&(decide (side1≤4)))
noncomputable def J6 (side1:Int):Option zd:=
 bnd ((⟨(0:Int),(0:Int)⟩:zd)) fun v1=>
 zl (0≤side1∧side1<(4+1:Nat)) <|
 bnd (gx (⟨[(⟨(0:Int),(0:Int)⟩:zd),(⟨(0:Int),(-1)⟩:zd),(⟨1,(0:Int)⟩:zd),(⟨(0:Int),1⟩:zd),(⟨(-1),(0:Int)⟩:zd)]⟩:(Arr 4 zd)).l side1) fun v2=>
 some v2
noncomputable def zcA (p1:zd)(d1:zd)(n1:Int):Option zd:=
 bnd ((⟨(0:Int),(0:Int)⟩:zd)) fun v1=>
 bnd ((⟨W (p1.X+(W (n1*d1.X))),W (p1.Y+(W (n1*d1.Y)))⟩:zd)) fun v2=>
 some v2
noncomputable def J0 (t1:zA):Option (zd×zd):=
 bnd ((⟨(0:Int),(0:Int)⟩:zd)) fun start1=>
 bnd ((⟨(0:Int),(0:Int)⟩:zd)) fun end1=>
 Option.bind (J6 t1.FromSide) fun r1=>
 Option.bind (zcA t1.From r1 t1.Clear) fun r2=>
 Option.bind (J6 t1.ToSide) fun r3=>
 Option.bind (zcA t1.To r3 t1.Clear) fun r4=>
 some (r2,r4)
noncomputable def zgS (v1:(List qT))(i:Int)(s:Unit):Option (Res Unit (Res Unit Int)):=
 zl (inR v1 i) <|
 bnd (gx v1 i) fun v2=>
 Option.bind (YN v2.p) fun e1=>
 bif !decide (e1=0)then(
  some (Res.ab (Res.ab e1)))
 else(
  Option.bind (zeH v2.side) fun r1=>
  bif !r1 then(
   some (Res.ab (Res.ab 3)))
  else(
   some (Res.nx ())))
noncomputable def zgT (t1:zA)(i:Int)(s:Unit):Option (Res Unit (Res Unit Int)):=
 zl (inR t1.Walls i) <|
 bnd (gx t1.Walls i) fun v3=>
 Option.bind (QE v3) fun e2=>
 bif !decide (e2=0)then(
  some (Res.ab (Res.ab e2)))
 else(
  some (Res.nx ()))
noncomputable def JY (t1:zA):Option Int:=
 bnd ([(⟨t1.From,t1.FromSide⟩:qT),(⟨t1.To,t1.ToSide⟩:qT)]) fun v1=>
 yg (σ:=Unit) (ρ:=Int) (
  ya (v1.length:Int) (zgS v1) (fun s=>Res.nx s) ()) fun j_2=>
 bif decide (100<(t1.Walls.length:Int))then(
  some 4)
 else(
  yg (σ:=Unit) (ρ:=Int) (
   ya (t1.Walls.length:Int) (zgT t1) (fun s=>Res.nx s) ()) fun j_13=>
  bif(decide (t1.Clear<1)) || (decide (200<t1.Clear))then(
   some 3)
  else(
   Option.bind (J0 t1) fun r2=>
   Option.bind (YN r2.1) fun e3=>
   bif !decide (e3=0)then(
    some e3)
   else(
    Option.bind (YN r2.2) fun r3=>
    some r3)))
noncomputable def zg5 (t1:zA)(i:Int)(s:(List zV)):Option (List zV):=
 zl (inR t1.Walls i) <|
 bnd (gx t1.Walls i) fun v1=>
 zl (y9 (s.length+[(⟨W (v1.X - t1.Clear),W (v1.Y - t1.Clear),W ((W (v1.X+v1.W_))+t1.Clear),W ((W (v1.Y+v1.H))+t1.Clear)⟩:zV)].length)) <|
 some (s++[(⟨W (v1.X - t1.Clear),W (v1.Y - t1.Clear),W ((W (v1.X+v1.W_))+t1.Clear),W ((W (v1.Y+v1.H))+t1.Clear)⟩:zV)])
noncomputable def J7 (t1:zA):Option (List zV):=
 Option.bind (α:=(List zV)) (
  yS (t1.Walls.length:Int) (zg5 t1) ([]:List zV)) fun j_1=>
 some j_1
noncomputable def Qr (z1:zV)(c0_1:zd)(c1_1:zd):Option Bool:=
 some ((((decide (z1.left<(max c0_1.X c1_1.X)))&&(decide ((min c0_1.X c1_1.X)<z1.right)))&&(decide (z1.top<(max c0_1.Y c1_1.Y))))&&(decide ((min c0_1.Y c1_1.Y)<z1.bottom)))
noncomputable def zeT (f1:(zV→Option Bool))(s1:(List zV))(i:Int)(s:Unit):Option (Res Unit (Res Unit Int)):=
 zl (inR s1 i) <|
 Option.bind (f1 (gx s1 i)) fun r1=>
 bif r1 then(
  some (Res.ab (Res.ab i)))
 else(
  some (Res.nx ()))
noncomputable def zab (s1:(List zV))(f1:(zV→Option Bool)):Option Int:=
 yg (σ:=Unit) (ρ:=Int) (
  ya (s1.length:Int) (zeT f1 s1) (fun s=>Res.nx s) ()) fun j_1=>
 some (-1)
noncomputable def zcQ (s1:(List zV))(f1:(zV→Option Bool)):Option Bool:=
 Option.bind (zab s1 f1) fun r1=>
 some (decide (0≤r1))
noncomputable def YB (l1:(List zV))(a1:zd)(b1:zd):Option Bool:=
 Option.bind (zcQ l1 (fun x0=>Qr x0 a1 b1)) fun r1=>
 some (!r1)
noncomputable def J1 (n1:Int)(s8_:((List Int)×Int)):Option (zI ((List Int)×Int) (List Int)):=
 bif decide (s8_.2≤(W (n1+1)))then(
  Option.bind (α:=(List Int)) (
   bif(decide ((-1000000)≤s8_.2))&&(decide (s8_.2≤1000000))then(
    zl (y9 (s8_.1.length+[s8_.2].length)) <|
    some (s8_.1++[s8_.2]))
   else(
    some s8_.1)) fun j_10=>
  bnd (W (s8_.2+1)) fun k2=>
  some (zI.again (j_10,k2)))
 else(
  some (zI.done s8_.1))
noncomputable def zgX (at1:(List Int))(i:Int)(s:(List Int)):Option (List Int):=
 zl (inR at1 i) <|
 bnd (gx at1 i) fun n1=>
 bnd (W (n1 - 1)) fun k1=>
 loop (J1 n1) (s,k1)
noncomputable def vR (l1:(List Int))(at1:(List Int)):Option (List Int):=
 Option.bind (α:=(List Int)) (
  yS (at1.length:Int) (zgX at1) l1) fun j_1=>
 some j_1
noncomputable def zgY (r2:(List zV))(i:Int)(s:((List Int)×(List Int))):Option ((List Int)×(List Int)):=
 zl (inR r2 i) <|
 bnd (gx r2 i) fun v1=>
 Option.bind (vR s.1 [v1.left,v1.right]) fun xs2=>
 Option.bind (vR s.2 [v1.top,v1.bottom]) fun ys2=>
 some (xs2,ys2)
noncomputable def zcB (t1:zA):Option ((List Int)×(List Int)):=
 Option.bind (J0 t1) fun r1=>
 Option.bind (vR ([]:List Int) [r1.1.X,r1.2.X]) fun xs1=>
 Option.bind (vR ([]:List Int) [r1.1.Y,r1.2.Y]) fun ys1=>
 Option.bind (J7 t1) fun r2=>
 Option.bind (α:=((List Int)×(List Int))) (
  yS (r2.length:Int) (zgY r2) (xs1,ys1)) fun j_5=>
 Option.bind (slices_Sort_int j_5.1) fun r3=>
 Option.bind (slices_Sort_int j_5.2) fun r4=>
 Option.bind (slices_Compact_int r3) fun xs3=>
 Option.bind (slices_Compact_int r4) fun ys3=>
 some (xs3,ys3)
noncomputable def zbH (x1:Int):Option Bool:=
 some (!decide (x1=x1))
noncomputable def zbG (x1:Int)(y1:Int):Option Bool:=
 Option.bind (zbH x1) fun r1=>
 Option.bind (gd (r1) (zbH y1)) fun r2=>
 some ((r1&&(!r2)) || (decide (x1<y1)))
noncomputable def Jg (x1:Int):Option Bool:=
 some (!decide (x1=x1))
noncomputable def zeS (x1:(List Int))(target1:Int)(s3_:(Int×Int)):Option (zI (Int×Int) Int):=
 bif decide (s3_.1<s3_.2)then(
  bnd (W ((KI.of .u64 (W (s3_.1+s3_.2))).shr 1).n) fun h1=>
  zl (inR x1 h1) <|
  Option.bind (zbG (gx x1 h1) target1) fun r1=>
  bif r1 then(
   bnd (W (h1+1)) fun i1=>
   some (zI.again (i1,s3_.2)))
  else(
   some (zI.again (s3_.1,h1))))
 else(
  some (zI.done s3_.1))
noncomputable def vW (x1:(List Int))(target1:Int):Option (Int×Bool):=
 bnd ((x1.length:Int)) fun n1=>
 Option.bind (α:=Int) (
  loop (zeS x1 target1) (0,n1)) fun j_2=>
 zl ((decide (j_2<n1))=true→inR x1 j_2) <|
 zl ((decide (j_2<n1))=true→(decide ((gx x1 j_2)=target1))=false→inR x1 j_2) <|
 Option.bind (gd ((decide (j_2<n1))&&!(decide ((gx x1 j_2)=target1))) (Jg (gx x1 j_2))) fun r2=>
 Option.bind (gd ((decide (j_2<n1))&&!(decide ((gx x1 j_2)=target1))&&r2) (Jg target1)) fun r3=>
 some (j_2,(decide (j_2<n1))&&((decide ((gx x1 j_2)=target1)) || (r2&&r3)))
noncomputable def Qs (l1:(List Int))(low1:Int)(high1:Int):Option ((Arr 1 Int)×(Arr 1 Int)):=
 bnd ((⟨List.replicate 2 (0:Int)⟩:(Arr 1 Int))) fun lines1=>
 bnd ((⟨List.replicate 2 (0:Int)⟩:(Arr 1 Int))) fun stretches1=>
 Option.bind (vW l1 (W (low1+1))) fun r1=>
 Option.bind (vW l1 high1) fun r2=>
 bnd ((⟨[r1.1,r2.1]⟩:(Arr 1 Int))) fun v1=>
 bnd ((⟨[max (W (r1.1 - 1)) 0,r2.1]⟩:(Arr 1 Int))) fun v2=>
 some (v1,v2)
noncomputable def zcC (h1:Int)(w1:Int)(i:Int)(s:((List Bool)×(List Bool))):Option ((List Bool)×(List Bool)):=
 zl (0<w1) <|
 bnd (decide ((i.tmod w1)<(W (w1 - 1)))) fun v4=>
 zl (0<w1) <|
 bnd (decide ((i.tdiv w1)<(W (h1 - 1)))) fun v5=>
 zl (inR s.2 i) <|
 zl (inR s.1 i) <|
 some (s.1.set i.toNat v5,s.2.set i.toNat v4)
noncomputable def zcD (r4:((Arr 1 Int)×(Arr 1 Int)))(w1:Int)(s33_:(Int×(List Bool)))(s37_:(Int×(List Bool))):Option (zI (Int×(List Bool)) (List Bool)):=
 bif decide (s37_.1<(gx r4.2.l 1))then(
  zl (inR s37_.2 (W ((W (s33_.1*w1))+s37_.1))) <|
  bnd (s37_.2.set (W ((W (s33_.1*w1))+s37_.1)).toNat false) fun c3=>
  bnd (W (s37_.1+1)) fun x2=>
  some (zI.again (x2,c3)))
 else(
  some (zI.done s37_.2))
noncomputable def J2 (r3:((Arr 1 Int)×(Arr 1 Int)))(r4:((Arr 1 Int)×(Arr 1 Int)))(w1:Int)(s33_:(Int×(List Bool))):Option (zI (Int×(List Bool)) (List Bool)):=
 bif decide (s33_.1<(gx r3.1.l 1))then(
  Option.bind (α:=(List Bool)) (
   bnd (gx r4.2.l 0) fun x1=>
   loop (zcD r4 w1 s33_) (x1,s33_.2)) fun j_35=>
  bnd (W (s33_.1+1)) fun y2=>
  some (zI.again (y2,j_35)))
 else(
  some (zI.done s33_.2))
noncomputable def zcE (r3:((Arr 1 Int)×(Arr 1 Int)))(w1:Int)(s44_:(Int×(List Bool)))(s48_:(Int×(List Bool))):Option (zI (Int×(List Bool)) (List Bool)):=
 bif decide (s48_.1<(gx r3.2.l 1))then(
  zl (inR s48_.2 (W ((W (s48_.1*w1))+s44_.1))) <|
  bnd (s48_.2.set (W ((W (s48_.1*w1))+s44_.1)).toNat false) fun c4=>
  bnd (W (s48_.1+1)) fun y4=>
  some (zI.again (y4,c4)))
 else(
  some (zI.done s48_.2))
noncomputable def J3 (r3:((Arr 1 Int)×(Arr 1 Int)))(r4:((Arr 1 Int)×(Arr 1 Int)))(w1:Int)(j_32:(List Bool))(s44_:(Int×(List Bool))):Option (zI (Int×(List Bool)) ((List Bool)×(List Bool))):=
 bif decide (s44_.1<(gx r4.1.l 1))then(
  Option.bind (α:=(List Bool)) (
   bnd (gx r3.2.l 0) fun y3=>
   loop (zcE r3 w1 s44_) (y3,s44_.2)) fun j_46=>
  bnd (W (s44_.1+1)) fun x4=>
  some (zI.again (x4,j_46)))
 else(
  some (zI.done (s44_.2,j_32)))
noncomputable def zgZ (r2:(List zV))(s1:yd)(w1:Int)(i:Int)(s:((List Bool)×(List Bool))):Option ((List Bool)×(List Bool)):=
 zl (inR r2 i) <|
 bnd (gx r2 i) fun v6=>
 Option.bind (Qs s1.ys v6.top v6.bottom) fun r3=>
 Option.bind (Qs s1.xs v6.left v6.right) fun r4=>
 bnd (gx r3.1.l 0) fun y1=>
 Option.bind (α:=(List Bool)) (
  loop (J2 r3 r4 w1) (y1,s.2)) fun j_32=>
 bnd (gx r4.1.l 0) fun x3=>
 loop (J3 r3 r4 w1 j_32) (x3,s.1)
noncomputable def za9 (t1:zA):Option (Option yd):=
 bnd ((⟨([]:(List Int)),([]:(List Int)),([]:(List Bool)),([]:(List Bool))⟩:yd)) fun v1=>
 Option.bind (zcB t1) fun r1=>
 bnd ({ { v1 with xs:=r1.1 }with ys:=r1.2 }) fun s1=>
 bnd ((s1.xs.length:Int)) fun w1=>
 bnd ((s1.ys.length:Int)) fun h1=>
 bnd (W (w1*h1)) fun v2=>
 zl (0≤v2∧v2≤v2∧v2≤1073741824) <|
 bnd (W (w1*h1)) fun v3=>
 zl (0≤v3∧v3≤v3∧v3≤1073741824) <|
 bnd (List.replicate v3.toNat false) fun c1=>
 bnd (List.replicate v2.toNat false) fun c2=>
 Option.bind (α:=((List Bool)×(List Bool))) (
  yS ((List.replicate v2.toNat false).length:Int) (zcC h1 w1) (c1,c2)) fun j_12=>
 Option.bind (J7 t1) fun r2=>
 Option.bind (α:=((List Bool)×(List Bool))) (
  yS (r2.length:Int) (zgZ r2 s1 w1) (j_12.1,j_12.2)) fun j_23=>
 some (some ({ s1 with across:=j_23.2,down:=j_23.1 }))
noncomputable def zbb (s1:yd)(p1:zd)(side1:Int):Option zt:=
 bnd ((⟨(0:Int),(0:Int),(0:Int)⟩:zt)) fun v1=>
 Option.bind (vW s1.xs p1.X) fun r1=>
 Option.bind (vW s1.ys p1.Y) fun r2=>
 bnd ((⟨r1.1,r2.1,side1⟩:zt)) fun v2=>
 some v2
noncomputable def YA (side1:Int):Option Int:=
 some (W (((W (side1+1)).tmod 4)+1))
noncomputable def J5 (s1:yd)(p1:zt):Option Int:=
 some (W ((W ((W ((W ((W (p1.y*(s1.xs.length:Int)))+p1.x))*4))+p1.side)) - 1))
noncomputable def zeK (q1:(List zF))(x1:zF):Option (List zF):=
 zl (y9 (q1.length+[x1].length)) <|
 some (q1++[x1])
noncomputable def Ja (q1:(List zF)):Option Int:=
 some (q1.length:Int)
noncomputable def Qt (q1:(List zF))(i1:Int)(j1:Int):Option Bool:=
 zl (inR q1 i1) <|
 zl (inR q1 j1) <|
 bif !decide (((gx q1 i1).bends)=((gx q1 j1).bends))then(
  zl (inR q1 i1) <|
  zl (inR q1 j1) <|
  some (decide (((gx q1 i1).bends)<((gx q1 j1).bends))))
 else(
  zl (inR q1 i1) <|
  zl (inR q1 j1) <|
  some (decide (((gx q1 i1).long)<((gx q1 j1).long))))
noncomputable def J4 (q1:(List zF))(i1:Int)(j1:Int):Option (List zF):=
 zl (inR q1 j1) <|
 bnd (gx q1 j1) fun v1=>
 zl (inR q1 i1) <|
 bnd (gx q1 i1) fun v2=>
 zl (inR q1 i1) <|
 zl (inR (q1.set i1.toNat v1) j1) <|
 some ((q1.set i1.toNat v1).set j1.toNat v2)
noncomputable def zdB  (s1_:(Int×(List zF))):Option (zI (Int×(List zF)) (List zF)):=
 bnd ((W (s1_.1 - 1)).tdiv 2) fun i1=>
 Option.bind (gd (!(decide (i1=s1_.1))) (Qt s1_.2 s1_.1 i1)) fun r1=>
 bif(decide (i1=s1_.1)) || (!r1)then(
  some (zI.done s1_.2))
 else(
  Option.bind (J4 s1_.2 i1 s1_.1) fun r2=>
  some (zI.again (i1,r2)))
noncomputable def zbV (h1:(List zF))(j1:Int):Option (List zF):=
 loop zdB (j1,h1)
noncomputable def zbT (h1:(List zF))(x1:zF):Option (List zF):=
 Option.bind (zeK h1 x1) fun r1=>
 Option.bind (Ja r1) fun r2=>
 Option.bind (zbV r1 (W (r2 - 1))) fun r3=>
 some r3
noncomputable def Qu (r1:zF)(by1:Int)(c0_1:(Option yd))(c1_1:(List Bool))(c2_1:(List zF))(c3_1:(List Int))(c4_1:(List zF)):Option ((List Bool)×(List zF)×(List Int)×(List zF)):=
 Option.bind c0_1 fun p1=>
 Option.bind (J5 p1 r1.spot) fun k1=>
 zl (inR c1_1 k1) <|
 zl ((gx c1_1 k1)=true→inR c2_1 k1) <|
 zl ((gx c1_1 k1)=true→(decide (((gx c2_1 k1).bends)<r1.bends))=false→inR c2_1 k1) <|
 zl ((gx c1_1 k1)=true→(decide (((gx c2_1 k1).bends)<r1.bends))=false→(decide (((gx c2_1 k1).bends)=r1.bends))=true→inR c2_1 k1) <|
 bif(gx c1_1 k1)&&((decide (((gx c2_1 k1).bends)<r1.bends)) || ((decide (((gx c2_1 k1).bends)=r1.bends))&&(decide (((gx c2_1 k1).long)≤r1.long))))then(
  some (c1_1,c2_1,c3_1,c4_1))
 else(
  zl (inR c2_1 k1) <|
  zl (inR c3_1 k1) <|
  zl (inR c1_1 k1) <|
  bnd (c1_1.set k1.toNat true) fun c1=>
  bnd (c2_1.set k1.toNat r1) fun c2=>
  bnd (c3_1.set k1.toNat by1) fun c3=>
  Option.bind (zbT c4_1 r1) fun r2=>
  some (c1,c2,c3,r2))
noncomputable def zdA (n1:Int)(s2_:(Int×(List zF))):Option (zI (Int×(List zF)) (Int×(List zF))):=
 bnd (W ((W (2*s2_.1))+1)) fun j1_1=>
 bif(decide (n1≤j1_1)) || (decide (j1_1<0))then(
  some (zI.done (s2_.1,s2_.2)))
 else(
  bnd (W (j1_1+1)) fun j2_1=>
  Option.bind (gd ((decide (j2_1<n1))) (Qt s2_.2 j2_1 j1_1)) fun r1=>
  Option.bind (α:=Int) (
   bif(decide (j2_1<n1))&&r1 then(
    some j2_1)
   else(
    some j1_1)) fun j_7=>
  Option.bind (Qt s2_.2 j_7 s2_.1) fun r2=>
  bif !r2 then(
   some (zI.done (s2_.1,s2_.2)))
  else(
   Option.bind (J4 s2_.2 s2_.1 j_7) fun r3=>
   some (zI.again (j_7,r3))))
noncomputable def zbU (h1:(List zF))(i0_1:Int)(n1:Int):Option (Bool×(List zF)):=
 Option.bind (α:=(Int×(List zF))) (
  loop (zdA n1) (i0_1,h1)) fun j_1=>
 some (decide (i0_1<j_1.1),j_1.2)
noncomputable def zeJ (q1:(List zF)):Option (zF×(List zF)):=
 zl (inR q1 (W ((q1.length:Int) - 1))) <|
 bnd (gx q1 (W ((q1.length:Int) - 1))) fun v1=>
 zl (vy q1.length 0 (W ((q1.length:Int) - 1))) <|
 bnd (seg q1 0 (W ((q1.length:Int) - 1))) fun c1=>
 some (v1,c1)
noncomputable def zbS (h1:(List zF)):Option (zF×(List zF)):=
 Option.bind (Ja h1) fun r1=>
 bnd (W (r1 - 1)) fun n1=>
 Option.bind (J4 h1 0 n1) fun r2=>
 Option.bind (zbU r2 0 n1) fun r3=>
 Option.bind (zeJ r3.2) fun r4=>
 some (r4.1,r4.2)
noncomputable def zeU  (s2_:(Int×Int×(List zt))):Option (zI (Int×Int×(List zt)) (List zt)):=
 bif decide (s2_.1<s2_.2.1)then(
  zl (inR s2_.2.2 s2_.2.1) <|
  bnd (gx s2_.2.2 s2_.2.1) fun v1=>
  zl (inR s2_.2.2 s2_.1) <|
  bnd (gx s2_.2.2 s2_.1) fun v2=>
  zl (inR s2_.2.2 s2_.1) <|
  zl (inR (s2_.2.2.set s2_.1.toNat v1) s2_.2.1) <|
  bnd ((s2_.2.2.set s2_.1.toNat v1).set s2_.2.1.toNat v2) fun s2=>
  bnd (W (s2_.1+1)) fun i1=>
  bnd (W (s2_.2.1 - 1)) fun j2=>
  some (zI.again (i1,j2,s2)))
 else(
  some (zI.done s2_.2.2))
noncomputable def zcU (s1:(List zt)):Option (List zt):=
 bnd (W ((s1.length:Int) - 1)) fun j1=>
 loop zeU (0,j1,s1)
noncomputable def zba (s1:yd)(p1:zt)(side1:Int):Option (zt×Int×Bool):=
 bnd ((⟨(0:Int),(0:Int),(0:Int)⟩:zt)) fun q1=>
 Option.bind (J6 side1) fun r1=>
 bnd ((⟨W (p1.x+r1.X),W (p1.y+r1.Y),side1⟩:zt)) fun v1=>
 bif(((decide (v1.x<0)) || (decide ((s1.xs.length:Int)≤v1.x))) || (decide (v1.y<0))) || (decide ((s1.ys.length:Int)≤v1.y))then(
  some (v1,0,false))
 else(
  bnd (W ((W ((min p1.y v1.y)*(s1.xs.length:Int)))+(min p1.x v1.x))) fun at1=>
  bif !decide (r1.X=0)then(
   zl (inR s1.xs v1.x) <|
   zl (inR s1.xs p1.x) <|
   zl (inR s1.xs p1.x) <|
   zl (inR s1.xs v1.x) <|
   zl (inR s1.across at1) <|
   some (v1,max (W ((gx s1.xs v1.x) - (gx s1.xs p1.x))) (W ((gx s1.xs p1.x) - (gx s1.xs v1.x))),gx s1.across at1))
  else(
   zl (inR s1.ys v1.y) <|
   zl (inR s1.ys p1.y) <|
   zl (inR s1.ys p1.y) <|
   zl (inR s1.ys v1.y) <|
   zl (inR s1.down at1) <|
   some (v1,max (W ((gx s1.ys v1.y) - (gx s1.ys p1.y))) (W ((gx s1.ys p1.y) - (gx s1.ys v1.y))),gx s1.down at1)))
noncomputable def QV (s16_:((List zF)×(List Int)×(List Bool)×(List zF)×(List Bool)))(s28_:(Int×(List zt))):Option (zI (Int×(List zt)) (List zt)):=
 bif decide (0≤s28_.1)then(
  zl (inR s16_.1 s28_.1) <|
  zl (y9 (s28_.2.length+[(gx s16_.1 s28_.1).spot].length)) <|
  bnd (s28_.2++[(gx s16_.1 s28_.1).spot]) fun way1=>
  zl (inR s16_.2.1 s28_.1) <|
  bnd (gx s16_.2.1 s28_.1) fun k2=>
  some (zI.again (k2,way1)))
 else(
  some (zI.done s28_.2))
noncomputable def zcH (k1:Int)(r3:(zF×(List zF)))(s1:yd)(done2:(List Bool))(s40_:(Int×(List zF)×(List Int)×(List Bool)×(List zF))):Option (zI (Int×(List zF)×(List Int)×(List Bool)×(List zF)) (zI ((List zF)×(List Int)×(List Bool)×(List zF)×(List Bool)) (Res Unit ((List zt)×Bool)))):=
 bif decide (s40_.1≤4)then(
  Option.bind (α:=((List zF)×(List Int)×(List Bool)×(List zF))) (
   Option.bind (YA r3.1.spot.side) fun r7=>
   bif decide (s40_.1=r7)then(
    some (s40_.2.1,s40_.2.2.1,s40_.2.2.2.1,s40_.2.2.2.2))
   else(
    Option.bind (zba s1 r3.1.spot s40_.1) fun r8=>
    bif !r8.2.2 then(
     some (s40_.2.1,s40_.2.2.1,s40_.2.2.2.1,s40_.2.2.2.2))
    else(
     Option.bind (α:=Int) (
      bif !decide (s40_.1=r3.1.spot.side)then(
       bnd (W (r3.1.bends+1)) fun bends1=>
       some bends1)
      else(
       some r3.1.bends)) fun j_47=>
     Option.bind (Qu (⟨r8.1,j_47,W (r3.1.long+r8.2.1)⟩:zF) k1 (some s1) s40_.2.2.2.1 s40_.2.1 s40_.2.2.1 s40_.2.2.2.2) fun r9=>
     some (r9.2.1,r9.2.2.1,r9.1,r9.2.2.2)))) fun j_42=>
  bnd (W (s40_.1+1)) fun side1=>
  some (zI.again (side1,j_42.1,j_42.2.1,j_42.2.2.1,j_42.2.2.2)))
 else(
  some (zI.done (zI.again (s40_.2.1,s40_.2.2.1,s40_.2.2.2.1,s40_.2.2.2.2,done2))))
noncomputable def zcG (s1:yd)(to1:zt)(s16_:((List zF)×(List Int)×(List Bool)×(List zF)×(List Bool))):Option (zI ((List zF)×(List Int)×(List Bool)×(List zF)×(List Bool)) (Res Unit ((List zt)×Bool))):=
 Option.bind (Ja s16_.2.2.2.1) fun r2=>
 bif decide (0<r2)then(
  Option.bind (zbS s16_.2.2.2.1) fun r3=>
  Option.bind (J5 s1 r3.1.spot) fun k1=>
  zl (inR s16_.2.2.2.2 k1) <|
  bif gx s16_.2.2.2.2 k1 then(
   some (zI.again (s16_.1,s16_.2.1,s16_.2.2.1,r3.2,s16_.2.2.2.2)))
  else(
   zl (inR s16_.2.2.2.2 k1) <|
   bnd (s16_.2.2.2.2.set k1.toNat true) fun done2=>
   yg (σ:=Unit) (ρ:=(zI ((List zF)×(List Int)×(List Bool)×(List zF)×(List Bool)) (Res Unit ((List zt)×Bool)))) (
    bif decide (r3.1.spot=to1)then(
     Option.bind (α:=(List zt)) (
      loop (QV s16_) (k1,([]:List zt))) fun j_27=>
     Option.bind (zcU j_27) fun r4=>
     some (Res.ab (zI.done (Res.ab (r4,true)))))
    else(
     some (Res.nx ()))) fun j_25=>
   Option.bind (gd (((decide (r3.1.spot.x=to1.x))&&(decide (r3.1.spot.y=to1.y)))) (YA to1.side)) fun r5=>
   Option.bind (α:=((List zF)×(List Int)×(List Bool)×(List zF))) (
    bif((decide (r3.1.spot.x=to1.x))&&(decide (r3.1.spot.y=to1.y)))&&(!decide (r3.1.spot.side=r5))then(
     Option.bind (Qu (⟨to1,W (r3.1.bends+1),r3.1.long⟩:zF) k1 (some s1) s16_.2.2.1 s16_.1 s16_.2.1 r3.2) fun r6=>
     some (r6.2.1,r6.2.2.1,r6.1,r6.2.2.2))
    else(
     some (s16_.1,s16_.2.1,s16_.2.2.1,r3.2))) fun j_37=>
   loop (zcH k1 r3 s1 done2) (1,j_37.1,j_37.2.1,j_37.2.2.1,j_37.2.2.2)))
 else(
  some (zI.done (Res.nx ())))
noncomputable def zcF (s1:yd)(from1:zt)(to1:zt):Option ((List zt)×Bool):=
 bnd (W ((W ((s1.xs.length:Int)*(s1.ys.length:Int)))*4)) fun v1=>
 zl (0≤v1∧v1≤v1∧v1≤1073741824) <|
 bnd (((List.replicate v1.toNat (⟨(⟨(0:Int),(0:Int),(0:Int)⟩:zt),(0:Int),(0:Int)⟩:zF)).length:Int)) fun v2=>
 zl (0≤v2∧v2≤v2∧v2≤1073741824) <|
 bnd (List.replicate v1.toNat (⟨(⟨(0:Int),(0:Int),(0:Int)⟩:zt),(0:Int),(0:Int)⟩:zF)) fun c1=>
 bnd ((c1.length:Int)) fun v3=>
 zl (0≤v3∧v3≤v3∧v3≤1073741824) <|
 bnd (List.replicate v2.toNat (0:Int)) fun c2=>
 bnd ((c1.length:Int)) fun v4=>
 zl (0≤v4∧v4≤v4∧v4≤1073741824) <|
 bnd (List.replicate v4.toNat false) fun done1=>
 bnd (List.replicate v3.toNat false) fun c3=>
 Option.bind (Qu (⟨from1,(0:Int),(0:Int)⟩:zF) (-1) (some s1) c3 c1 c2 ([]:(List zF))) fun r1=>
 yg (σ:=Unit) (ρ:=((List zt)×Bool)) (
  loop (zcG s1 to1) (r1.2.1,r1.2.2.1,r1.1,r1.2.2.2,done1)) fun j_15=>
 some (([]:(List zt)),false)
noncomputable def zcz (p1:yd)(r7:((List zt)×Bool))(s17_:((List zd)×Int)):Option (zI ((List zd)×Int) (List zd)):=
 bif decide (s17_.2<(r7.1.length:Int))then(
  Option.bind (α:=(List zd)) (
   zl (inR r7.1 s17_.2) <|
   zl (inR r7.1 (W (s17_.2 - 1))) <|
   bif !decide (((gx r7.1 s17_.2).side)=((gx r7.1 (W (s17_.2 - 1))).side))then(
    zl (inR r7.1 (W (s17_.2 - 1))) <|
    zl (inR p1.xs ((gx r7.1 (W (s17_.2 - 1))).x)) <|
    zl (inR r7.1 (W (s17_.2 - 1))) <|
    zl (inR p1.ys ((gx r7.1 (W (s17_.2 - 1))).y)) <|
    zl (y9 (s17_.1.length+[(⟨gx p1.xs ((gx r7.1 (W (s17_.2 - 1))).x),gx p1.ys ((gx r7.1 (W (s17_.2 - 1))).y)⟩:zd)].length)) <|
    some (s17_.1++[(⟨gx p1.xs ((gx r7.1 (W (s17_.2 - 1))).x),gx p1.ys ((gx r7.1 (W (s17_.2 - 1))).y)⟩:zd)]))
   else(
    some s17_.1)) fun j_19=>
  bnd (W (s17_.2+1)) fun i1=>
  some (zI.again (j_19,i1)))
 else(
  some (zI.done s17_.1))
noncomputable def Y9 (t1:zA):Option ((List zd)×Int):=
 Option.bind (JY t1) fun e1=>
 bif !decide (e1=0)then(
  some (([]:(List zd)),e1))
 else(
  Option.bind (J0 t1) fun r1=>
  Option.bind (J7 t1) fun walls1=>
  Option.bind (YB walls1 r1.1 r1.1) fun r2=>
  Option.bind (gd (!(!r2)) (YB walls1 r1.2 r1.2)) fun r3=>
  bif(!r2) || (!r3)then(
   some (([]:(List zd)),10))
  else(
   Option.bind (za9 t1) fun s1=>
   Option.bind s1 fun p1=>
   Option.bind (zbb p1 r1.1 t1.FromSide) fun r4=>
   Option.bind (YA t1.ToSide) fun r5=>
   Option.bind (zbb p1 r1.2 r5) fun r6=>
   Option.bind (zcF p1 r4 r6) fun r7=>
   bif !r7.2 then(
    some (([]:(List zd)),10))
   else(
    bnd ([t1.From]) fun l1=>
    Option.bind (α:=(List zd)) (
     loop (zcz p1 r7) (l1,1)) fun j_16=>
    zl (y9 (j_16.length+[t1.To].length)) <|
    some (j_16++[t1.To],0))))
noncomputable def zbk (s1:(List zd)):Option (List zd):=
 QM s1 (
  some ([]:List zd)) (
  zl (y9 (([]:(List zd)).length+s1.length)) <|
  bnd (([]:(List zd))++s1) fun v1=>
  some v1)
noncomputable def zcy (d1:Doc)(i:Int)(s:((List Box)×(GMap Str zm))):Option ((List Box)×(GMap Str zm)):=
 zl (inR d1.Nodes i) <|
 bnd (gx d1.Nodes i) fun v4=>
 bnd (s.2.set v4.Id v4) fun c2=>
 bif !decide (v4.Kind=6)then(
  zl (y9 (s.1.length+[v4.Box].length)) <|
  some (s.1++[v4.Box],c2))
 else(
  some (s.1,c2))
noncomputable def za8 (j_8:((List Box)×(GMap Str zm)))(clear1:Int)(i:Int)(s:(List zJ)):Option (List zJ):=
 zl (inR s i) <|
 bnd (gx s i) fun v6=>
 Option.bind ((fun x0=>JZ x0 j_8.2) v6.From) fun r3=>
 Option.bind ((fun x0=>JZ x0 j_8.2) v6.To) fun r4=>
 Option.bind (Y9 (⟨r3,v6.From.Side,r4,v6.To.Side,j_8.1,clear1⟩:zA)) fun r5=>
 Option.bind (α:=(List zd)) (
  bif(decide (r5.2=0))&&(decide ((W ((r5.1.length:Int) - 2))≤50))then(
   zl (vy r5.1.length 1 (W ((r5.1.length:Int) - 1))) <|
   some (seg r5.1 1 (W ((r5.1.length:Int) - 1))))
  else(
   some v6.Bends)) fun j_30=>
 Option.bind (zbk j_30) fun r6=>
 zl (inR s i) <|
 some (s.set i.toNat { gx s i with Bends:=r6 })
noncomputable def zeG (d1:Doc)(clear1:Int):Option (Doc×Int):=
 bnd ((⟨([]:(List zm)),([]:(List zJ))⟩:Doc)) fun v1=>
 Option.bind (vO d1) fun e1=>
 bif !decide (e1=0)then(
  bnd ((⟨([]:(List zm)),([]:(List zJ))⟩:Doc)) fun v2=>
  some (v2,e1))
 else(
  bif(decide (clear1<1)) || (decide (200<clear1))then(
   bnd ((⟨([]:(List zm)),([]:(List zJ))⟩:Doc)) fun v3=>
   some (v3,3))
  else(
   bnd ((GMap.nil:(GMap Str zm))) fun c1=>
   Option.bind (α:=((List Box)×(GMap Str zm))) (
    yS (d1.Nodes.length:Int) (zcy d1) (([]:List Box),c1)) fun j_8=>
   bif decide (100<(j_8.1.length:Int))then(
    bnd ((⟨([]:(List zm)),([]:(List zJ))⟩:Doc)) fun v5=>
    some (v5,4))
   else(
    Option.bind (zcM d1.Nodes) fun r1=>
    Option.bind (zcL d1.Edges) fun r2=>
    Option.bind (α:=(List zJ)) (
     yS (r2.length:Int) (za8 j_8 clear1) r2) fun j_21=>
    bnd ({ { d1 with Nodes:=r1 }with Edges:=j_21 }) fun v7=>
    some (v7,0))))
noncomputable def zcv (m1:zm)(c0_1:zm):Option Bool:=
 some (decide (m1.Id=c0_1.Id))
noncomputable def zhq (f1:(zm→Option Bool))(s1:(List zm))(i:Int)(s:Unit):Option (Res Unit (Res Unit Int)):=
 zl (inR s1 i) <|
 Option.bind (f1 (gx s1 i)) fun r1=>
 bif r1 then(
  some (Res.ab (Res.ab i)))
 else(
  some (Res.nx ()))
noncomputable def zbm (s1:(List zm))(f1:(zm→Option Bool)):Option Int:=
 yg (σ:=Unit) (ρ:=Int) (
  ya (s1.length:Int) (zhq f1 s1) (fun s=>Res.nx s) ()) fun j_1=>
 some (-1)
noncomputable def zcP (s1:(List zm))(f1:(zm→Option Bool)):Option Bool:=
 Option.bind (zbm s1 f1) fun r1=>
 some (decide (0≤r1))
noncomputable def zen (s1:Str)(i:Int)(s:Unit):Option (Res Unit (Res Unit Bool)):=
 zl (inR s1.b i) <|
 bnd ((⟨((gx s1.b i).toNat:Int)⟩:KI .u8)) fun c1=>
 bif(!((decide ((⟨97⟩:KI .u8).n≤c1.n))&&(decide (c1.n≤(⟨122⟩:KI .u8).n))))&&((decide (i=0)) || ((!((decide ((⟨48⟩:KI .u8).n≤c1.n))&&(decide (c1.n≤(⟨57⟩:KI .u8).n))))&&(!decide (c1.n=(⟨45⟩:KI .u8).n))))then(
  some (Res.ab (Res.ab false)))
 else(
  some (Res.nx ()))
noncomputable def Y2 (s1:Str):Option Bool:=
 yg (σ:=Unit) (ρ:=Bool) (
  ya (s1.b.length:Int) (zen s1) (fun s=>Res.nx s) ()) fun j_1=>
 some ((!decide (s1=Str.nil))&&(decide ((s1.b.length:Int)≤40)))
noncomputable def qH (is1:Bool)(e1:Int):Option Int:=
 bif is1 then(
  some e1)
 else(
  some 0)
noncomputable def q6 (n1:Int)(low1:Int)(high1:Int):Option Bool:=
 some ((decide (low1≤n1))&&(decide (n1≤high1)))
noncomputable def zgG (l1:(List Int))(i:Int)(s:Unit):Option (Res Unit (Res Unit Int)):=
 zl (inR l1 i) <|
 bnd (gx l1 i) fun e1=>
 bif !decide (e1=0)then(
  some (Res.ab (Res.ab e1)))
 else(
  some (Res.nx ()))
noncomputable def q5 (l1:(List Int)):Option Int:=
 yg (σ:=Unit) (ρ:=Int) (
  ya (l1.length:Int) (zgG l1) (fun s=>Res.nx s) ()) fun j_1=>
 some 0
noncomputable def QS (p1:zd):Option Int:=
 Option.bind (q6 p1.X (-1000000) 1000000) fun r1=>
 Option.bind (gd (!(!r1)) (q6 p1.Y (-1000000) 1000000)) fun r2=>
 Option.bind (qH ((!r1) || (!r2)) 3) fun r3=>
 some r3
noncomputable def Yu (b1:Box):Option Int:=
 Option.bind (QS (⟨b1.X,b1.Y⟩:zd)) fun r1=>
 Option.bind (q6 b1.W_ 1 20000) fun r2=>
 Option.bind (gd (!(!r2)) (q6 b1.H 1 20000)) fun r3=>
 Option.bind (qH ((!r2) || (!r3)) 3) fun r4=>
 Option.bind (q5 [r1,r4]) fun r5=>
 some r5
noncomputable def zgK (s1:Str)(i:Int)(s:Bool):Option Bool:=
 zl (s=false→inR s1.b i) <|
 zl (s=false→(decide ((⟨((gx s1.b i).toNat:Int)⟩:KI .u8).n<(⟨32⟩:KI .u8).n))=true→inR s1.b i) <|
 zl ((s || ((decide ((⟨((gx s1.b i).toNat:Int)⟩:KI .u8).n<(⟨32⟩:KI .u8).n))&&(!decide ((⟨((gx s1.b i).toNat:Int)⟩:KI .u8).n=(⟨10⟩:KI .u8).n))))=false→inR s1.b i) <|
 bnd ((s || ((decide ((⟨((gx s1.b i).toNat:Int)⟩:KI .u8).n<(⟨32⟩:KI .u8).n))&&(!decide ((⟨((gx s1.b i).toNat:Int)⟩:KI .u8).n=(⟨10⟩:KI .u8).n)))) || (decide ((⟨((gx s1.b i).toNat:Int)⟩:KI .u8).n=(⟨127⟩:KI .u8).n))) fun bad2=>
 some bad2
noncomputable def JR (s1:Str):Option Int:=
 Option.bind (utf8_ValidString s1) fun r1=>
 bnd (!r1) fun bad1=>
 Option.bind (α:=Bool) (
  yS (s1.b.length:Int) (zgK s1) bad1) fun j_3=>
 Option.bind (qH (decide (1000<(s1.b.length:Int))) 4) fun r2=>
 Option.bind (qH j_3 2) fun r3=>
 Option.bind (q5 [r2,r3]) fun r4=>
 some r4
noncomputable def JT (s1:Str):Option Int:=
 Option.bind (gd ((!decide (s1=Str.nil))) (Y2 s1)) fun r1=>
 Option.bind (qH ((!decide (s1=Str.nil))&&(!r1)) 5) fun r2=>
 some r2
noncomputable def zcu (d1:Doc)(i1:Int):Option Int:=
 zl (inR d1.Nodes i1) <|
 bnd (gx d1.Nodes i1) fun v1=>
 zl (vy d1.Nodes.length 0 i1) <|
 Option.bind (zcP (seg d1.Nodes 0 i1) (fun x0=>zcv x0 v1)) fun twice1=>
 Option.bind (Y2 v1.Id) fun r1=>
 Option.bind (qH (!r1) 5) fun r2=>
 Option.bind (qH twice1 6) fun r3=>
 Option.bind (q6 v1.Kind 1 6) fun r4=>
 Option.bind (qH (!r4) 1) fun r5=>
 Option.bind (q5 [r2,r3,r5]) fun e1=>
 bif !decide (e1=0)then(
  some e1)
 else(
  Option.bind (qH (!decide (v1.Box=(⟨(0:Int),(0:Int),(0:Int),(0:Int)⟩:Box))) 2) fun box1=>
  Option.bind (α:=Int) (
   bif !decide (v1.Kind=6)then(
    Option.bind (Yu v1.Box) fun box2=>
    some box2)
   else(
    some box1)) fun j_13=>
  Option.bind (JR v1.Text) fun r6=>
  Option.bind (JT v1.Class) fun r7=>
  Option.bind (q5 [j_13,r6,r7]) fun r8=>
  some r8)
noncomputable def zcn (n1:zm)(c0_1:Str):Option Bool:=
 some (decide (n1.Id=c0_1))
noncomputable def QR (d1:Doc)(id1:Str):Option Int:=
 Option.bind (zbm d1.Nodes (fun x0=>zcn x0 id1)) fun r1=>
 some r1
noncomputable def zer (d1:Doc)(n1:zm)(s2_:(Int×Str)):Option (zI (Int×Str) (Res Int (Int×Bool))):=
 bif !decide (s2_.2=Str.nil)then(
  bnd (W (s2_.1+1)) fun many1=>
  bif(decide (s2_.2=n1.Id)) || (decide ((d1.Nodes.length:Int)<many1))then(
   some (zI.done (Res.ab (many1,decide (s2_.2=n1.Id)))))
  else(
   Option.bind (QR d1 s2_.2) fun r1=>
   zl (inR d1.Nodes r1) <|
   bnd ((gx d1.Nodes r1).Parent) fun id1=>
   some (zI.again (many1,id1))))
 else(
  some (zI.done (Res.nx s2_.1)))
noncomputable def Yy (d1:Doc)(n1:zm):Option (Int×Bool):=
 yg (σ:=Int) (ρ:=(Int×Bool)) (
  loop (zer d1 n1) (0,n1.Parent)) fun j_1=>
 some (j_1,false)
noncomputable def zgN (d1:Doc)(id1:Str)(i:Int)(s:(List zm)):Option (List zm):=
 zl (inR d1.Nodes i) <|
 bnd (gx d1.Nodes i) fun v1=>
 bif decide (v1.Parent=id1)then(
  zl (y9 (s.length+[v1].length)) <|
  some (s++[v1]))
 else(
  some s)
noncomputable def za4 (d1:Doc)(id1:Str):Option (List zm):=
 Option.bind (α:=(List zm)) (
  yS (d1.Nodes.length:Int) (zgN d1 id1) ([]:List zm)) fun j_1=>
 some j_1
noncomputable def zeu (d1:Doc)(i:Int)(s:Unit):Option (Res Unit (Res Unit Int)):=
 zl (inR d1.Nodes i) <|
 bnd (gx d1.Nodes i) fun v1=>
 Option.bind (QR d1 v1.Parent) fun k1=>
 zl ((!decide (v1.Parent=Str.nil))=true→(decide (k1<0))=false→inR d1.Nodes k1) <|
 bif(!decide (v1.Parent=Str.nil))&&((decide (k1<0)) || (!decide (((gx d1.Nodes k1).Kind)=6)))then(
  some (Res.ab (Res.ab 10)))
 else(
  some (Res.nx ()))
noncomputable def zev (d1:Doc)(i:Int)(s:Unit):Option (Res Unit (Res Unit Int)):=
 zl (inR d1.Nodes i) <|
 bnd (gx d1.Nodes i) fun v2=>
 Option.bind (Yy d1 v2) fun r1=>
 bif r1.2 then(
  some (Res.ab (Res.ab 13)))
 else(
  some (Res.nx ()))
noncomputable def zew (d1:Doc)(i:Int)(s:Unit):Option (Res Unit (Res Unit Int)):=
 zl (inR d1.Nodes i) <|
 bnd (gx d1.Nodes i) fun v3=>
 Option.bind (Yy d1 v3) fun r2=>
 bif decide (8<r2.1)then(
  some (Res.ab (Res.ab 4)))
 else(
  some (Res.nx ()))
noncomputable def zex (d1:Doc)(i:Int)(s:Unit):Option (Res Unit (Res Unit Int)):=
 zl (inR d1.Nodes i) <|
 bnd (gx d1.Nodes i) fun v4=>
 Option.bind (gd ((decide (v4.Kind=6))) (za4 d1 v4.Id)) fun r3=>
 bif(decide (v4.Kind=6))&&(decide ((r3.length:Int)=0))then(
  some (Res.ab (Res.ab 9)))
 else(
  some (Res.nx ()))
noncomputable def za5 (d1:Doc):Option Int:=
 yg (σ:=Unit) (ρ:=Int) (
  ya (d1.Nodes.length:Int) (zeu d1) (fun s=>Res.nx s) ()) fun j_1=>
 yg (σ:=Unit) (ρ:=Int) (
  ya (d1.Nodes.length:Int) (zev d1) (fun s=>Res.nx s) ()) fun j_10=>
 yg (σ:=Unit) (ρ:=Int) (
  ya (d1.Nodes.length:Int) (zew d1) (fun s=>Res.nx s) ()) fun j_18=>
 yg (σ:=Unit) (ρ:=Int) (
  ya (d1.Nodes.length:Int) (zex d1) (fun s=>Res.nx s) ()) fun j_26=>
 some 0
noncomputable def zct (y1:zJ)(c0_1:zJ):Option Bool:=
 some (decide (y1.Id=c0_1.Id))
noncomputable def zhp (f1:(zJ→Option Bool))(s1:(List zJ))(i:Int)(s:Unit):Option (Res Unit (Res Unit Int)):=
 zl (inR s1 i) <|
 Option.bind (f1 (gx s1 i)) fun r1=>
 bif r1 then(
  some (Res.ab (Res.ab i)))
 else(
  some (Res.nx ()))
noncomputable def zcT (s1:(List zJ))(f1:(zJ→Option Bool)):Option Int:=
 yg (σ:=Unit) (ρ:=Int) (
  ya (s1.length:Int) (zhp f1 s1) (fun s=>Res.nx s) ()) fun j_1=>
 some (-1)
noncomputable def zcO (s1:(List zJ))(f1:(zJ→Option Bool)):Option Bool:=
 Option.bind (zcT s1 f1) fun r1=>
 some (decide (0≤r1))
noncomputable def zco (side1:Int)(at1:Int):Option Int:=
 Option.bind (q6 side1 1 4) fun r1=>
 Option.bind (gd (!(!r1)) (q6 at1 0 1000)) fun r2=>
 Option.bind (qH ((!r1) || (!r2)) 3) fun r3=>
 some r3
noncomputable def zgI (l1:(List zd))(i:Int)(s:Unit):Option (Res Unit (Res Unit Int)):=
 zl (inR l1 i) <|
 bnd (gx l1 i) fun v1=>
 Option.bind (QS v1) fun e1=>
 bif !decide (e1=0)then(
  some (Res.ab (Res.ab e1)))
 else(
  some (Res.nx ()))
noncomputable def zaW (l1:(List zd)):Option Int:=
 bif decide (1000<(l1.length:Int))then(
  some 4)
 else(
  yg (σ:=Unit) (ρ:=Int) (
   ya (l1.length:Int) (zgI l1) (fun s=>Res.nx s) ()) fun j_2=>
  some 0)
noncomputable def zet (d1:Doc)(v2:(List yx))(i:Int)(s:Unit):Option (Res Unit (Res Unit Int)):=
 zl (inR v2 i) <|
 bnd (gx v2 i) fun v3=>
 Option.bind (QR d1 v3.Node) fun k1=>
 bif decide (k1<0)then(
  some (Res.ab (Res.ab 10)))
 else(
  zl (inR d1.Nodes k1) <|
  Option.bind (qH (decide (((gx d1.Nodes k1).Kind)=6)) 1) fun r6=>
  Option.bind (zco v3.Side v3.At) fun r7=>
  Option.bind (q5 [r6,r7]) fun e2=>
  bif !decide (e2=0)then(
   some (Res.ab (Res.ab e2)))
  else(
   some (Res.nx ())))
noncomputable def zcs (d1:Doc)(i1:Int):Option Int:=
 zl (inR d1.Edges i1) <|
 bnd (gx d1.Edges i1) fun v1=>
 Option.bind (QR d1 v1.Id) fun r1=>
 zl ((decide (0≤r1))=false→vy d1.Edges.length 0 i1) <|
 Option.bind (gd (!(decide (0≤r1))) (zcO (seg d1.Edges 0 i1) (fun x0=>zct x0 v1))) fun r2=>
 Option.bind (Y2 v1.Id) fun r3=>
 Option.bind (qH (!r3) 5) fun r4=>
 Option.bind (qH ((decide (0≤r1)) || r2) 6) fun r5=>
 Option.bind (q5 [r4,r5]) fun e1=>
 bif !decide (e1=0)then(
  some e1)
 else(
  bnd ([v1.From,v1.To]) fun v2=>
  yg (σ:=Unit) (ρ:=Int) (
   ya (v2.length:Int) (zet d1 v2) (fun s=>Res.nx s) ()) fun j_12=>
  bif decide (50<(v1.Bends.length:Int))then(
   some 4)
  else(
   Option.bind (zaW v1.Bends) fun r8=>
   Option.bind (JR v1.Text) fun r9=>
   Option.bind (JT v1.Class) fun r10=>
   Option.bind (q5 [r8,r9,r10]) fun r11=>
   some r11))
noncomputable def zel (l1:(List Box))(i:Int)(s:(Int×Int×Int×Int)):Option (Int×Int×Int×Int):=
 zl (inR l1 i) <|
 bnd (gx l1 i) fun v3=>
 bnd (min s.1 v3.X) fun x2=>
 bnd (min s.2.1 v3.Y) fun y2=>
 bnd (max s.2.2.1 (W (v3.X+v3.W_))) fun r2=>
 bnd (max s.2.2.2 (W (v3.Y+v3.H))) fun d2=>
 some (x2,y2,r2,d2)
noncomputable def zaT (l1:(List Box)):Option (Box×Int):=
 bnd ((⟨(0:Int),(0:Int),(0:Int),(0:Int)⟩:Box)) fun v1=>
 bif decide ((l1.length:Int)=0)then(
  bnd ((⟨(0:Int),(0:Int),(0:Int),(0:Int)⟩:Box)) fun v2=>
  some (v2,9))
 else(
  zl (inR l1 0) <|
  zl (inR l1 0) <|
  zl (inR l1 0) <|
  zl (inR l1 0) <|
  bnd ((gx l1 0).X) fun x1=>
  bnd ((gx l1 0).Y) fun y1=>
  bnd ((gx l1 0).X) fun r1=>
  bnd ((gx l1 0).Y) fun d1=>
  Option.bind (α:=(Int×Int×Int×Int)) (
   yS (l1.length:Int) (zel l1) (x1,y1,r1,d1)) fun j_12=>
  bif(decide (20000<(W (j_12.2.2.1 - j_12.1)))) || (decide (20000<(W (j_12.2.2.2 - j_12.2.1))))then(
   bnd ((⟨(0:Int),(0:Int),(0:Int),(0:Int)⟩:Box)) fun v4=>
   some (v4,4))
  else(
   bnd ((⟨j_12.1,j_12.2.1,W (j_12.2.2.1 - j_12.1),W (j_12.2.2.2 - j_12.2.1)⟩:Box)) fun v5=>
   some (v5,0)))
noncomputable def zaP (self:(Doc×Str)→Option (Box×Int))(x:(Doc×Str))(r2:(List zm))(i:Int)(s:(List Box)):Option (Res (List Box) (Res (List Box) (Box×Int))):=
 zl (inR r2 i) <|
 bnd (gx r2 i) fun v3=>
 Option.bind (self (x.1,v3.Id)) fun r3=>
 bif !decide (r3.2=0)then(
  bnd ((⟨(0:Int),(0:Int),(0:Int),(0:Int)⟩:Box)) fun v4=>
  some (Res.ab (Res.ab (v4,r3.2))))
 else(
  zl (y9 (s.length+[r3.1].length)) <|
  some (Res.nx (s++[r3.1])))
noncomputable def Qo (self:(Doc×Str)→Option (Box×Int))(x:(Doc×Str)):Option (Box×Int):=
 bnd ((⟨(0:Int),(0:Int),(0:Int),(0:Int)⟩:Box)) fun v1=>
 Option.bind (QR x.1 x.2) fun r1=>
 zl (inR x.1.Nodes r1) <|
 bnd (gx x.1.Nodes r1) fun v2=>
 bif !decide (v2.Kind=6)then(
  some (v2.Box,0))
 else(
  Option.bind (za4 x.1 x.2) fun r2=>
  yg (σ:=(List Box)) (ρ:=(Box×Int)) (
   ya (r2.length:Int) (zaP self x r2) (fun s=>Res.nx s) ([]:List Box)) fun j_7=>
  Option.bind (zaT j_7) fun r4=>
  bif !decide (r4.2=0)then(
   bnd ((⟨(0:Int),(0:Int),(0:Int),(0:Int)⟩:Box)) fun v5=>
   some (v5,r4.2))
  else(
   bnd ((⟨W (r4.1.X - 10),W (r4.1.Y - 10),W (r4.1.W_+20),W (r4.1.H+20)⟩:Box)) fun v6=>
   Option.bind (Yu v6) fun r5=>
   some (v6,r5)))
noncomputable def zcf (d1:Doc)(id1:Str):Option (Box×Int):=Yg Qo (d1,id1)
noncomputable def zef (d1:Doc)(i:Int)(s:Unit):Option (Res Unit (Res Unit Int)):=
 Option.bind (zcu d1 i) fun e1=>
 bif !decide (e1=0)then(
  some (Res.ab (Res.ab e1)))
 else(
  some (Res.nx ()))
noncomputable def zeg (d1:Doc)(i:Int)(s:Unit):Option (Res Unit (Res Unit Int)):=
 Option.bind (zcs d1 i) fun e3=>
 bif !decide (e3=0)then(
  some (Res.ab (Res.ab e3)))
 else(
  some (Res.nx ()))
noncomputable def zeh (d1:Doc)(i:Int)(s:Unit):Option (Res Unit (Res Unit Int)):=
 zl (inR d1.Nodes i) <|
 bnd (gx d1.Nodes i) fun v1=>
 Option.bind (zcf d1 v1.Id) fun r1=>
 bif !decide (r1.2=0)then(
  some (Res.ab (Res.ab r1.2)))
 else(
  some (Res.nx ()))
noncomputable def zch (d1:Doc):Option Int:=
 bif(decide (500<(d1.Nodes.length:Int))) || (decide (1000<(d1.Edges.length:Int)))then(
  some 4)
 else(
  yg (σ:=Unit) (ρ:=Int) (
   ya (d1.Nodes.length:Int) (zef d1) (fun s=>Res.nx s) ()) fun j_2=>
  Option.bind (za5 d1) fun e2=>
  bif !decide (e2=0)then(
   some e2)
  else(
   yg (σ:=Unit) (ρ:=Int) (
    ya (d1.Edges.length:Int) (zeg d1) (fun s=>Res.nx s) ()) fun j_10=>
   yg (σ:=Unit) (ρ:=Int) (
    ya (d1.Nodes.length:Int) (zeh d1) (fun s=>Res.nx s) ()) fun j_16=>
   some 0))
noncomputable def zaF:Option Bool:=
 bnd ((⟨(⟨(0:Int),(0:Int)⟩:zd),2,(⟨9,(0:Int)⟩:zd),4,([]:(List Box)),1⟩:zA)) fun v1=>
 Option.bind (JY v1) fun r1=>
 Option.bind (gd ((decide (r1=0))) (JY (⟨(⟨(0:Int),(0:Int)⟩:zd),(0:Int),(⟨(0:Int),(0:Int)⟩:zd),(0:Int),([]:(List Box)),(0:Int)⟩:zA))) fun r2=>
 some ((decide (r1=0))&&(decide (r2=3)))
noncomputable def zhl (s1_1:(List zm))(s2_1:(List zm))(i:Int)(s:Unit):Option (Res Unit (Res Unit Bool)):=
 zl (inR s1_1 i) <|
 zl (inR s2_1 i) <|
 bif !decide ((gx s1_1 i)=(gx s2_1 i))then(
  some (Res.ab (Res.ab false)))
 else(
  some (Res.nx ()))
noncomputable def zbl (s1_1:(List zm))(s2_1:(List zm)):Option Bool:=
 bif !decide ((s1_1.length:Int)=(s2_1.length:Int))then(
  some false)
 else(
  yg (σ:=Unit) (ρ:=Bool) (
   ya (s1_1.length:Int) (zhl s1_1 s2_1) (fun s=>Res.nx s) ()) fun j_2=>
  some true)
noncomputable def zhk (eq1:(zJ→zJ→Option Bool))(s1_1:(List zJ))(s2_1:(List zJ))(i:Int)(s:Unit):Option (Res Unit (Res Unit Bool)):=
 zl (inR s1_1 i) <|
 bnd (gx s1_1 i) fun v1=>
 zl (inR s2_1 i) <|
 bnd (gx s2_1 i) fun v2=>
 Option.bind (eq1 v1 v2) fun r1=>
 bif !r1 then(
  some (Res.ab (Res.ab false)))
 else(
  some (Res.nx ()))
noncomputable def zcR (s1_1:(List zJ))(s2_1:(List zJ))(eq1:(zJ→zJ→Option Bool)):Option Bool:=
 bif !decide ((s1_1.length:Int)=(s2_1.length:Int))then(
  some false)
 else(
  yg (σ:=Unit) (ρ:=Bool) (
   ya (s1_1.length:Int) (zhk eq1 s1_1 s2_1) (fun s=>Res.nx s) ()) fun j_2=>
  some true)
noncomputable def zhm (s1_1:(List zd))(s2_1:(List zd))(i:Int)(s:Unit):Option (Res Unit (Res Unit Bool)):=
 zl (inR s1_1 i) <|
 zl (inR s2_1 i) <|
 bif !decide ((gx s1_1 i)=(gx s2_1 i))then(
  some (Res.ab (Res.ab false)))
 else(
  some (Res.nx ()))
noncomputable def YD (s1_1:(List zd))(s2_1:(List zd)):Option Bool:=
 bif !decide ((s1_1.length:Int)=(s2_1.length:Int))then(
  some false)
 else(
  yg (σ:=Unit) (ρ:=Bool) (
   ya (s1_1.length:Int) (zhm s1_1 s2_1) (fun s=>Res.nx s) ()) fun j_2=>
  some true)
noncomputable def JQ (x1:zJ)(y1:zJ):Option Bool:=
 Option.bind (gd ((((decide (x1.Id=y1.Id))&&(decide (x1.From=y1.From)))&&(decide (x1.To=y1.To)))) (YD x1.Bends y1.Bends)) fun r1=>
 some ((((((decide (x1.Id=y1.Id))&&(decide (x1.From=y1.From)))&&(decide (x1.To=y1.To)))&&r1)&&(decide (x1.Text=y1.Text)))&&(decide (x1.Class=y1.Class)))
noncomputable def JP (a1:Doc)(b1:Doc):Option Bool:=
 Option.bind (zbl a1.Nodes b1.Nodes) fun r1=>
 Option.bind (gd (r1) (zcR a1.Edges b1.Edges JQ)) fun r2=>
 some (r1&&r2)
noncomputable def zb4 (d1:Doc)(e1:Int)(want1:Int)(right1:Doc):Option Bool:=
 bif !decide (want1=0)then(
  some (((decide ((d1.Nodes.length:Int)=0))&&(decide ((d1.Edges.length:Int)=0)))&&(decide (e1=want1))))
 else(
  Option.bind (gd ((decide (e1=0))) (JP d1 right1)) fun r1=>
  some ((decide (e1=0))&&r1))
noncomputable def YY (a1:Int)(b1:Int):Option Int:=
 zl (0<b1) <|
 bnd (a1.tdiv b1) fun q1=>
 Option.bind (α:=Int) (
  bif decide (a1<(W (q1*b1)))then(
   bnd (W (q1 - 1)) fun q2=>
   some q2)
  else(
   some q1)) fun j_3=>
 some j_3
noncomputable def za1 (n1:Int):Option Int:=
 some (min (max n1 (-1)) 1)
noncomputable def QQ (n1:Int)(most1:Int):Option Int:=
 Option.bind (za1 (W (most1 - n1))) fun r1=>
 some r1
noncomputable def jX (n1:Int):Option Int:=
 some (max n1 (W (-n1)))
noncomputable def Yx (kind1:Int)(b1:Box)(p1:zd):Option Int:=
 bnd (W ((W (2*(W (p1.X - b1.X)))) - b1.W_)) fun u1=>
 bnd (W ((W (2*(W (p1.Y - b1.Y)))) - b1.H)) fun v1=>
 Option.bind (jX u1) fun r1=>
 Option.bind (gd (!(decide (b1.W_<r1))) (jX v1)) fun r2=>
 bif(decide (b1.W_<r1)) || (decide (b1.H<r2))then(
  some (-1))
 else(
  Option.bind (jX u1) fun r3=>
  Option.bind (gd (!(decide (r3=b1.W_))) (jX v1)) fun r4=>
  Option.bind (α:=Int) (
   bif(decide (r3=b1.W_)) || (decide (r4=b1.H))then(
    some 0)
   else(
    some 1)) fun j_8=>
  yg (σ:=Unit) (ρ:=Int) (
   bif decide (kind1=3)then(
    Option.bind (QQ (W ((W ((W ((W (u1*u1))*b1.H))*b1.H))+(W ((W ((W (v1*v1))*b1.W_))*b1.W_)))) (W ((W ((W (b1.W_*b1.W_))*b1.H))*b1.H))) fun r5=>
    some (Res.ab r5))
   else(
    bif decide (kind1=4)then(
     Option.bind (jX u1) fun r6=>
     Option.bind (jX v1) fun r7=>
     Option.bind (QQ (W ((W (r6*b1.H))+(W (r7*b1.W_)))) (W (b1.W_*b1.H))) fun r8=>
     some (Res.ab r8))
    else(
     bif decide (kind1=2)then(
      Option.bind (α:=(Int×Int×Int×Int)) (
       bif decide (b1.W_<b1.H)then(
        some (v1,u1,b1.H,b1.W_))
       else(
        some (u1,v1,b1.W_,b1.H))) fun j_18=>
      Option.bind (jX j_18.1) fun r9=>
      bnd (max (W (r9 - (W (j_18.2.2.1 - j_18.2.2.2)))) 0) fun s1=>
      Option.bind (QQ (W ((W (s1*s1))+(W (j_18.2.1*j_18.2.1)))) (W (j_18.2.2.2*j_18.2.2.2))) fun r10=>
      some (Res.ab r10))
     else(
      bif decide (kind1=5)then(
       bnd ((min b1.W_ b1.H).tdiv 4) fun n1=>
       bnd (W ((W ((W ((W (p1.X - b1.X)) - b1.W_))+n1)) - (W (p1.Y - b1.Y)))) fun d1=>
       bif(decide (0<d1))&&(decide (0<n1))then(
        some (Res.ab (-1)))
       else(
        bif(decide (d1=0))&&(decide (0<n1))then(
         some (Res.ab 0))
        else(
         some (Res.nx ()))))
      else(
       some (Res.nx ())))))) fun j_10=>
  some j_8)
noncomputable def zaX (b1:Box)(x1:Int)(kind1:Int)(s8_:Int):Option (zI Int (Res Unit zd)):=
 bif decide (s8_≤(W (b1.Y+b1.H)))then(
  bnd ((⟨x1,s8_⟩:zd)) fun v2=>
  Option.bind (Yx kind1 b1 v2) fun r3=>
  bif decide (0≤r3)then(
   some (zI.done (Res.ab v2)))
  else(
   bnd (W (s8_+1)) fun k1=>
   some (zI.again k1)))
 else(
  some (zI.done (Res.nx ())))
noncomputable def zaY (b1:Box)(x1:Int)(kind1:Int)(s16_:Int):Option (zI Int (Res Unit zd)):=
 bif decide (b1.Y≤s16_)then(
  bnd ((⟨x1,s16_⟩:zd)) fun v3=>
  Option.bind (Yx kind1 b1 v3) fun r4=>
  bif decide (0≤r4)then(
   some (zI.done (Res.ab v3)))
  else(
   bnd (W (s16_ - 1)) fun k3=>
   some (zI.again k3)))
 else(
  some (zI.done (Res.nx ())))
noncomputable def zaZ (b1:Box)(y1:Int)(kind1:Int)(s23_:Int):Option (zI Int (Res Unit zd)):=
 bif decide (s23_≤(W (b1.X+b1.W_)))then(
  bnd ((⟨s23_,y1⟩:zd)) fun v4=>
  Option.bind (Yx kind1 b1 v4) fun r5=>
  bif decide (0≤r5)then(
   some (zI.done (Res.ab v4)))
  else(
   bnd (W (s23_+1)) fun k4=>
   some (zI.again k4)))
 else(
  some (zI.done (Res.nx ())))
noncomputable def za0 (b1:Box)(y1:Int)(kind1:Int)(s30_:Int):Option (zI Int (Res Unit zd)):=
 bif decide (b1.X≤s30_)then(
  bnd ((⟨s30_,y1⟩:zd)) fun v5=>
  Option.bind (Yx kind1 b1 v5) fun r6=>
  bif decide (0≤r6)then(
   some (zI.done (Res.ab v5)))
  else(
   bnd (W (s30_ - 1)) fun k6=>
   some (zI.again k6)))
 else(
  some (zI.done (Res.nx ())))
noncomputable def zcp (kind1:Int)(b1:Box)(side1:Int)(at1:Int):Option zd:=
 bnd ((⟨(0:Int),(0:Int)⟩:zd)) fun v1=>
 Option.bind (YY (W (b1.W_*at1)) 1000) fun r1=>
 Option.bind (YY (W (b1.H*at1)) 1000) fun r2=>
 bnd (W (b1.X+r1)) fun x1=>
 bnd (W (b1.Y+r2)) fun y1=>
 yg (σ:=Unit) (ρ:=zd) (
  bif decide (side1=1)then(
   loop (zaX b1 x1 kind1) b1.Y)
  else(
   bif decide (side1=3)then(
    bnd (W (b1.Y+b1.H)) fun k2=>
    loop (zaY b1 x1 kind1) k2)
   else(
    bif decide (side1=4)then(
     loop (zaZ b1 y1 kind1) b1.X)
    else(
     bnd (W (b1.X+b1.W_)) fun k5=>
     loop (za0 b1 y1 kind1) k5)))) fun j_6=>
 bif(decide (side1=1)) || (decide (side1=3))then(
  Option.bind (YY b1.H 2) fun r7=>
  bnd ((⟨x1,W (b1.Y+r7)⟩:zd)) fun v6=>
  some v6)
 else(
  Option.bind (YY b1.W_ 2) fun r8=>
  bnd ((⟨W (b1.X+r8),y1⟩:zd)) fun v7=>
  some v7)
noncomputable def QT (d1:Doc)(x1:yx):Option zd:=
 bnd ((⟨(0:Int),(0:Int)⟩:zd)) fun v1=>
 Option.bind (QR d1 x1.Node) fun r1=>
 zl (inR d1.Nodes r1) <|
 bnd (gx d1.Nodes r1) fun v2=>
 Option.bind (zcp v2.Kind v2.Box x1.Side x1.At) fun r2=>
 some r2
noncomputable def zep (d1:Doc)(i:Int)(s:zA):Option zA:=
 zl (inR d1.Nodes i) <|
 bnd (gx d1.Nodes i) fun v2=>
 bif !decide (v2.Kind=6)then(
  zl (y9 (s.Walls.length+[v2.Box].length)) <|
  some ({ s with Walls:=s.Walls++[v2.Box] }))
 else(
  some ({ s with Walls:=s.Walls }))
noncomputable def zcq (d1:Doc)(x1:zJ)(clear1:Int):Option zA:=
 bnd ((⟨(⟨(0:Int),(0:Int)⟩:zd),(0:Int),(⟨(0:Int),(0:Int)⟩:zd),(0:Int),([]:(List Box)),(0:Int)⟩:zA)) fun v1=>
 Option.bind (QT d1 x1.From) fun r1=>
 Option.bind (QT d1 x1.To) fun r2=>
 Option.bind (α:=zA) (
  yS (d1.Nodes.length:Int) (zep d1) (⟨r1,x1.From.Side,r2,x1.To.Side,([]:List Box),clear1⟩:zA)) fun j_4=>
 bnd ({ j_4 with Walls:=j_4.Walls }) fun v3=>
 some v3
noncomputable def zcm (d1:Doc)(x1:zJ):Option (List zd):=
 Option.bind (QT d1 x1.From) fun r1=>
 zl (y9 ([r1].length+x1.Bends.length)) <|
 bnd ([r1]++x1.Bends) fun l1=>
 Option.bind (QT d1 x1.To) fun r2=>
 zl (y9 (l1.length+[r2].length)) <|
 some (l1++[r2])
noncomputable def zcw (side1:Int):Option Int:=
 Option.bind (q6 side1 1 4) fun r1=>
 Option.bind (qH (!r1) 3) fun r2=>
 some r2
noncomputable def zgF (l1:(List Box))(i:Int)(s:Unit):Option (Res Unit (Res Unit Int)):=
 zl (inR l1 i) <|
 bnd (gx l1 i) fun v1=>
 Option.bind (Yu v1) fun e1=>
 bif !decide (e1=0)then(
  some (Res.ab (Res.ab e1)))
 else(
  some (Res.nx ()))
noncomputable def zcg (l1:(List Box)):Option Int:=
 bif decide (1000<(l1.length:Int))then(
  some 4)
 else(
  yg (σ:=Unit) (ρ:=Int) (
   ya (l1.length:Int) (zgF l1) (fun s=>Res.nx s) ()) fun j_2=>
  some 0)
noncomputable def Qq (side1:Int):Option zd:=
 bnd ((⟨(0:Int),(0:Int)⟩:zd)) fun v1=>
 bif decide (side1=1)then(
  bnd ((⟨(0:Int),(-1)⟩:zd)) fun v2=>
  some v2)
 else(
  bif decide (side1=2)then(
   bnd ((⟨1,(0:Int)⟩:zd)) fun v3=>
   some v3)
  else(
   bif decide (side1=3)then(
    bnd ((⟨(0:Int),1⟩:zd)) fun v4=>
    some v4)
   else(
    bnd ((⟨(-1),(0:Int)⟩:zd)) fun v5=>
    some v5)))
noncomputable def Y4 (p1:zd)(way1:zd)(n1:Int):Option zd:=
 bnd ((⟨(0:Int),(0:Int)⟩:zd)) fun v1=>
 bnd ((⟨W (p1.X+(W (n1*way1.X))),W (p1.Y+(W (n1*way1.Y)))⟩:zd)) fun v2=>
 some v2
noncomputable def YZ (t1:zA):Option (zd×zd):=
 bnd ((⟨(0:Int),(0:Int)⟩:zd)) fun v1=>
 bnd ((⟨(0:Int),(0:Int)⟩:zd)) fun v2=>
 Option.bind (Qq t1.FromSide) fun r1=>
 Option.bind (Y4 t1.From r1 t1.Clear) fun r2=>
 Option.bind (Qq t1.ToSide) fun r3=>
 Option.bind (Y4 t1.To r3 t1.Clear) fun r4=>
 some (r2,r4)
noncomputable def Y3 (t1:zA):Option Int:=
 Option.bind (QS t1.From) fun r1=>
 Option.bind (zcw t1.FromSide) fun r2=>
 Option.bind (QS t1.To) fun r3=>
 Option.bind (zcw t1.ToSide) fun r4=>
 Option.bind (qH (decide (100<(t1.Walls.length:Int))) 4) fun r5=>
 Option.bind (q5 [r1,r2,r3,r4,r5]) fun e1=>
 bif !decide (e1=0)then(
  some e1)
 else(
  Option.bind (zcg t1.Walls) fun e2=>
  bif !decide (e2=0)then(
   some e2)
  else(
   Option.bind (q6 t1.Clear 1 200) fun r6=>
   bif !r6 then(
    some 3)
   else(
    Option.bind (YZ t1) fun r7=>
    Option.bind (QS r7.1) fun r8=>
    Option.bind (QS r7.2) fun r9=>
    Option.bind (q5 [r8,r9]) fun r10=>
    some r10)))
noncomputable def za3 (v1:(List Int))(i:Int)(s:(List Int)):Option (List Int):=
 zl (inR v1 i) <|
 bnd (gx v1 i) fun k1=>
 Option.bind (q6 k1 (-1000000) 1000000) fun r1=>
 bif r1 then(
  zl (y9 (s.length+[k1].length)) <|
  some (s++[k1]))
 else(
  some s)
noncomputable def zgL (l1:(List Int))(i:Int)(s:(List Int)):Option (List Int):=
 zl (inR l1 i) <|
 bnd (gx l1 i) fun n1=>
 bnd ([W (n1 - 1),n1,W (n1+1)]) fun v1=>
 yS (v1.length:Int) (za3 v1) s
noncomputable def JU (l1:(List Int)):Option (List Int):=
 Option.bind (α:=(List Int)) (
  yS (l1.length:Int) (zgL l1) ([]:List Int)) fun j_1=>
 Option.bind (slices_Sort_int j_1) fun r2=>
 Option.bind (slices_Compact_int r2) fun r3=>
 some r3
noncomputable def zgM (t1:zA)(i:Int)(s:((List Int)×(List Int))):Option ((List Int)×(List Int)):=
 zl (inR t1.Walls i) <|
 bnd (gx t1.Walls i) fun v1=>
 zl (y9 (s.1.length+[W (v1.X - t1.Clear),W ((W (v1.X+v1.W_))+t1.Clear)].length)) <|
 bnd (s.1++[W (v1.X - t1.Clear),W ((W (v1.X+v1.W_))+t1.Clear)]) fun xs2=>
 zl (y9 (s.2.length+[W (v1.Y - t1.Clear),W ((W (v1.Y+v1.H))+t1.Clear)].length)) <|
 some (xs2,s.2++[W (v1.Y - t1.Clear),W ((W (v1.Y+v1.H))+t1.Clear)])
noncomputable def za2 (t1:zA):Option ((List Int)×(List Int)):=
 Option.bind (YZ t1) fun r1=>
 bnd ([r1.1.X,r1.2.X]) fun xs1=>
 bnd ([r1.1.Y,r1.2.Y]) fun ys1=>
 Option.bind (α:=((List Int)×(List Int))) (
  yS (t1.Walls.length:Int) (zgM t1) (xs1,ys1)) fun j_4=>
 Option.bind (JU j_4.1) fun xs3=>
 Option.bind (JU j_4.2) fun ys2=>
 some (xs3,ys2)
noncomputable def Yv (s1:zQ)(c0_1:(List Int))(c1_1:(List Int)):Option zd:=
 bnd ((⟨(0:Int),(0:Int)⟩:zd)) fun v1=>
 zl (inR c0_1 s1.x) <|
 zl (inR c1_1 s1.y) <|
 bnd ((⟨gx c0_1 s1.x,gx c1_1 s1.y⟩:zd)) fun v2=>
 some v2
noncomputable def YX (p1:zd)(way1:Int)(c0_1:(List Int))(c1_1:(List Int)):Option zQ:=
 bnd ((⟨(0:Int),(0:Int),(0:Int)⟩:zQ)) fun v1=>
 Option.bind (vW c0_1 p1.X) fun r1=>
 Option.bind (vW c1_1 p1.Y) fun r2=>
 bnd ((⟨r1.1,r2.1,way1⟩:zQ)) fun v2=>
 some v2
noncomputable def JS (w1:Box)(c0_1:zA)(c1_1:zd)(c2_1:zd):Option Bool:=
 some ((((decide ((W (w1.X - c0_1.Clear))<(max c1_1.X c2_1.X)))&&(decide ((min c1_1.X c2_1.X)<(W ((W (w1.X+w1.W_))+c0_1.Clear)))))&&(decide ((W (w1.Y - c0_1.Clear))<(max c1_1.Y c2_1.Y))))&&(decide ((min c1_1.Y c2_1.Y)<(W ((W (w1.Y+w1.H))+c0_1.Clear)))))
noncomputable def zho (f1:(Box→Option Bool))(s1:(List Box))(i:Int)(s:Unit):Option (Res Unit (Res Unit Int)):=
 zl (inR s1 i) <|
 Option.bind (f1 (gx s1 i)) fun r1=>
 bif r1 then(
  some (Res.ab (Res.ab i)))
 else(
  some (Res.nx ()))
noncomputable def zcS (s1:(List Box))(f1:(Box→Option Bool)):Option Int:=
 yg (σ:=Unit) (ρ:=Int) (
  ya (s1.length:Int) (zho f1 s1) (fun s=>Res.nx s) ()) fun j_1=>
 some (-1)
noncomputable def zcN (s1:(List Box))(f1:(Box→Option Bool)):Option Bool:=
 Option.bind (zcS s1 f1) fun r1=>
 some (decide (0≤r1))
noncomputable def Qp (t1:zA)(a1:zd)(b1:zd):Option Bool:=
 Option.bind (zcN t1.Walls (fun x0=>JS x0 t1 a1 b1)) fun r1=>
 some r1
noncomputable def Yw (a1:zd)(b1:zd):Option Int:=
 Option.bind (jX (W (a1.X - b1.X))) fun r1=>
 Option.bind (jX (W (a1.Y - b1.Y))) fun r2=>
 some (W (r1+r2))
noncomputable def zaR (r1:((List Int)×(List Int)))(t1:zA)(v1:zQ)(s16_:((List zQ)×Int×(GMap zQ Int))):Option (zI ((List zQ)×Int×(GMap zQ Int)) (zI ((List zQ)×(GMap zQ Int)) (GMap zQ Int))):=
 bif decide (s16_.2.1≤4)then(
  Option.bind (α:=((List zQ)×(GMap zQ Int))) (
   Option.bind (Qq s16_.2.1) fun r6=>
   bif((decide (s16_.2.1=(W ((v1.way.tmod 4)+1)))) || (decide (s16_.2.1=(W (((W (v1.way+2)).tmod 4)+1))))) || (decide (s16_.2.1=v1.way))then(
    bnd ((⟨W (v1.x+r6.X),W (v1.y+r6.Y),s16_.2.1⟩:zQ)) fun v2=>
    Option.bind (q6 v2.x 0 (W ((r1.1.length:Int) - 1))) fun r7=>
    Option.bind (gd (!(!r7)) (q6 v2.y 0 (W ((r1.2.length:Int) - 1)))) fun r8=>
    Option.bind (gd (!((!r7) || (!r8))) ((fun x0=>Yv x0 r1.1 r1.2) v1)) fun r9=>
    Option.bind (gd (!((!r7) || (!r8))) ((fun x0=>Yv x0 r1.1 r1.2) v2)) fun r10=>
    Option.bind (gd (!((!r7) || (!r8))) (Qp t1 r9 r10)) fun r11=>
    bif((!r7) || (!r8)) || r11 then(
     some (s16_.1,s16_.2.2))
    else(
     Option.bind ((fun x0=>Yv x0 r1.1 r1.2) v1) fun r12=>
     Option.bind ((fun x0=>Yv x0 r1.1 r1.2) v2) fun r13=>
     Option.bind (Yw r12 r13) fun r14=>
     bnd (W ((s16_.2.2.getD v1 (0:Int))+r14)) fun c1=>
     Option.bind (α:=Int) (
      bif !decide (s16_.2.1=v1.way)then(
       bnd (W (c1+1099511627776)) fun c2=>
       some c2)
      else(
       some c1)) fun j_32=>
     bif(!(s16_.2.2.has v2)) || (decide (j_32<(s16_.2.2.getD v2 (0:Int))))then(
      bnd (s16_.2.2.set v2 j_32) fun cost2=>
      zl (y9 (s16_.1.length+[v2].length)) <|
      some (s16_.1++[v2],cost2))
     else(
      some (s16_.1,s16_.2.2))))
   else(
    some (s16_.1,s16_.2.2))) fun j_18=>
  bnd (W (s16_.2.1+1)) fun side1=>
  some (zI.again (j_18.1,side1,j_18.2)))
 else(
  some (zI.done (zI.again (s16_.1,s16_.2.2))))
noncomputable def zaQ (r1:((List Int)×(List Int)))(t1:zA)(s10_:((List zQ)×(GMap zQ Int))):Option (zI ((List zQ)×(GMap zQ Int)) (GMap zQ Int)):=
 bif decide (0<(s10_.1.length:Int))then(
  zl (inR s10_.1 0) <|
  bnd (gx s10_.1 0) fun v1=>
  zl (vy s10_.1.length 1 (s10_.1.length:Int)) <|
  bnd (seg s10_.1 1 (s10_.1.length:Int)) fun queue2=>
  loop (zaR r1 t1 v1) (queue2,1,s10_.2))
 else(
  some (zI.done s10_.2))
noncomputable def zaS (r1:((List Int)×(List Int)))(r2:(zd×zd))(t1:zA)(j_9:(GMap zQ Int))(s40_:(Int×Int)):Option (zI (Int×Int) Int):=
 bif decide (s40_.2≤4)then(
  Option.bind (α:=Int) (
   Option.bind ((fun x0 x1=>YX x0 x1 r1.1 r1.2) r2.2 s40_.2) fun r15=>
   bnd (j_9.getD r15 (0:Int)) fun c3=>
   bif(!(j_9.has r15)) || (decide (s40_.2=t1.ToSide))then(
    some s40_.1)
   else(
    Option.bind (Qq s40_.2) fun r16=>
    Option.bind (Qq t1.ToSide) fun r17=>
    Option.bind (Y4 (⟨(0:Int),(0:Int)⟩:zd) r17 (-1)) fun r18=>
    Option.bind (α:=Int) (
     bif !decide (r16=r18)then(
      bnd (W (c3+1099511627776)) fun c4=>
      some c4)
     else(
      some c3)) fun j_49=>
    bif(decide (s40_.1<0)) || (decide (j_49<s40_.1))then(
     some j_49)
    else(
     some s40_.1))) fun j_42=>
  bnd (W (s40_.2+1)) fun side2=>
  some (zI.again (j_42,side2)))
 else(
  some (zI.done s40_.1))
noncomputable def JM (t1:zA):Option (Int×Int×Bool):=
 Option.bind (za2 t1) fun r1=>
 Option.bind (YZ t1) fun r2=>
 Option.bind (Qp t1 r2.1 r2.1) fun r3=>
 Option.bind (gd (!r3) (Qp t1 r2.2 r2.2)) fun r4=>
 bif r3 || r4 then(
  some (0,0,false))
 else(
  Option.bind ((fun x0 x1=>YX x0 x1 r1.1 r1.2) r2.1 t1.FromSide) fun r5=>
  bnd ((GMap.nil:(GMap zQ Int)).set r5 0) fun cost1=>
  bnd ([r5]) fun queue1=>
  Option.bind (α:=(GMap zQ Int)) (
   loop (zaQ r1 t1) (queue1,cost1)) fun j_9=>
  Option.bind (α:=Int) (
   loop (zaS r1 r2 t1 j_9) ((-1),1)) fun j_39=>
  bif decide (j_39<0)then(
   some (0,0,false))
  else(
   some (j_39.tdiv 1099511627776,W ((j_39.tmod 1099511627776)+(W (2*t1.Clear))),true)))
noncomputable def zem (l1:(List zd))(s2_:Int):Option (zI Int (Res Unit Bool)):=
 bif decide (s2_<(l1.length:Int))then(
  zl (inR l1 s2_) <|
  zl (inR l1 (W (s2_ - 1))) <|
  zl (inR l1 s2_) <|
  zl (inR l1 (W (s2_ - 1))) <|
  bif decide ((decide (((gx l1 s2_).X)=((gx l1 (W (s2_ - 1))).X)))=(decide (((gx l1 s2_).Y)=((gx l1 (W (s2_ - 1))).Y))))then(
   some (zI.done (Res.ab false)))
  else(
   bnd (W (s2_+1)) fun i1=>
   some (zI.again i1)))
 else(
  some (zI.done (Res.nx ())))
noncomputable def zcj (l1:(List zd)):Option Bool:=
 yg (σ:=Unit) (ρ:=Bool) (
  loop (zem l1) 1) fun j_1=>
 some (decide (1<(l1.length:Int)))
noncomputable def Y5 (a1:zd)(b1:zd):Option zd:=
 bnd ((⟨(0:Int),(0:Int)⟩:zd)) fun v1=>
 Option.bind (za1 (W (b1.X - a1.X))) fun r1=>
 Option.bind (za1 (W (b1.Y - a1.Y))) fun r2=>
 bnd ((⟨r1,r2⟩:zd)) fun v2=>
 some v2
noncomputable def zeq (l1:(List zd))(i:Int)(s:(List zd)):Option (List zd):=
 zl (inR l1 i) <|
 bnd (gx l1 i) fun v1=>
 zl (((decide (0<i))&&(decide ((W (i+1))<(l1.length:Int))))=true→inR l1 (W (i - 1))) <|
 Option.bind (gd (((decide (0<i))&&(decide ((W (i+1))<(l1.length:Int))))) (Y5 (gx l1 (W (i - 1))) v1)) fun r1=>
 zl (((decide (0<i))&&(decide ((W (i+1))<(l1.length:Int))))=true→inR l1 (W (i+1))) <|
 Option.bind (gd (((decide (0<i))&&(decide ((W (i+1))<(l1.length:Int))))) (Y5 v1 (gx l1 (W (i+1))))) fun r2=>
 bif((decide (0<i))&&(decide ((W (i+1))<(l1.length:Int))))&&(decide (r1=r2))then(
  some s)
 else(
  zl (y9 (s.length+[v1].length)) <|
  some (s++[v1]))
noncomputable def zcr (l1:(List zd)):Option (List zd):=
 Option.bind (α:=(List zd)) (
  yS (l1.length:Int) (zeq l1) ([]:List zd)) fun j_1=>
 some j_1
noncomputable def Y0 (l1:(List zd))(n1:Int)(s9_:Int):Option (zI Int (Res Unit Bool)):=
 bif decide ((W (s9_+1))<n1)then(
  zl (inR l1 (W (s9_ - 1))) <|
  zl (inR l1 s9_) <|
  zl (inR l1 s9_) <|
  zl (inR l1 (W (s9_+1))) <|
  bif decide ((decide (((gx l1 (W (s9_ - 1))).X)=((gx l1 s9_).X)))=(decide (((gx l1 s9_).X)=((gx l1 (W (s9_+1))).X))))then(
   some (zI.done (Res.ab false)))
  else(
   bnd (W (s9_+1)) fun i1=>
   some (zI.again i1)))
 else(
  some (zI.done (Res.nx ())))
noncomputable def zck (v1:(List zd))(r11:((List Int)×(List Int)))(i:Int)(s:Unit):Option (Res Unit (Res Unit Bool)):=
 zl (inR v1 i) <|
 bnd (gx v1 i) fun v2=>
 Option.bind (vW r11.1 v2.X) fun r12=>
 Option.bind (vW r11.2 v2.Y) fun r13=>
 bif(!r12.2) || (!r13.2)then(
  some (Res.ab (Res.ab false)))
 else(
  some (Res.nx ()))
noncomputable def Y1 (m1:(List zd))(n1:Int)(t1:zA)(r14:(zd×zd))(s53_:Int):Option (zI Int (Res Unit Bool)):=
 bif decide (s53_<n1)then(
  zl (inR ((m1.set (0:Int).toNat r14.1).set (W (n1 - 1)).toNat r14.2) (W (s53_ - 1))) <|
  zl (inR ((m1.set (0:Int).toNat r14.1).set (W (n1 - 1)).toNat r14.2) s53_) <|
  Option.bind (Qp t1 (gx ((m1.set (0:Int).toNat r14.1).set (W (n1 - 1)).toNat r14.2) (W (s53_ - 1))) (gx ((m1.set (0:Int).toNat r14.1).set (W (n1 - 1)).toNat r14.2) s53_)) fun r15=>
  bif r15 then(
   some (zI.done (Res.ab false)))
  else(
   bnd (W (s53_+1)) fun i2=>
   some (zI.again i2)))
 else(
  some (zI.done (Res.nx ())))
noncomputable def JN (t1:zA)(l1:(List zd)):Option Bool:=
 bnd ((l1.length:Int)) fun n1=>
 Option.bind (zcj l1) fun r1=>
 zl ((!r1)=false→inR l1 0) <|
 zl (((!r1) || (!decide ((gx l1 0)=t1.From)))=false→inR l1 (W (n1 - 1))) <|
 Option.bind (gd (!(((!r1) || (!decide ((gx l1 0)=t1.From))) || (!decide ((gx l1 (W (n1 - 1)))=t1.To)))) (zcr l1)) fun r2=>
 Option.bind (gd (!(((!r1) || (!decide ((gx l1 0)=t1.From))) || (!decide ((gx l1 (W (n1 - 1)))=t1.To)))) (YD r2 l1)) fun r3=>
 bif(((!r1) || (!decide ((gx l1 0)=t1.From))) || (!decide ((gx l1 (W (n1 - 1)))=t1.To))) || (!r3)then(
  some false)
 else(
  yg (σ:=Unit) (ρ:=Bool) (
   loop (Y0 l1 n1) 1) fun j_8=>
  Option.bind (Qq t1.ToSide) fun r4=>
  zl (inR l1 0) <|
  zl (inR l1 1) <|
  Option.bind (Y5 (gx l1 0) (gx l1 1)) fun r5=>
  Option.bind (Qq t1.FromSide) fun r6=>
  zl ((!decide (r5=r6))=false→inR l1 (W (n1 - 1))) <|
  zl ((!decide (r5=r6))=false→inR l1 (W (n1 - 2))) <|
  Option.bind (gd (!(!decide (r5=r6))) (Y5 (gx l1 (W (n1 - 1))) (gx l1 (W (n1 - 2))))) fun r7=>
  bif(!decide (r5=r6)) || (!decide (r7=r4))then(
   some false)
  else(
   zl ((decide (n1=2))=true→inR l1 0) <|
   zl ((decide (n1=2))=true→inR l1 1) <|
   Option.bind (gd ((decide (n1=2))) (Yw (gx l1 0) (gx l1 1))) fun r8=>
   zl (((decide (n1=2))&&(decide (r8<(W (2*t1.Clear)))))=false→inR l1 0) <|
   zl (((decide (n1=2))&&(decide (r8<(W (2*t1.Clear)))))=false→inR l1 1) <|
   Option.bind (gd (!((decide (n1=2))&&(decide (r8<(W (2*t1.Clear)))))) (Yw (gx l1 0) (gx l1 1))) fun r9=>
   zl ((((decide (n1=2))&&(decide (r8<(W (2*t1.Clear))))) || (decide (r9<t1.Clear)))=false→inR l1 (W (n1 - 2))) <|
   zl ((((decide (n1=2))&&(decide (r8<(W (2*t1.Clear))))) || (decide (r9<t1.Clear)))=false→inR l1 (W (n1 - 1))) <|
   Option.bind (gd (!(((decide (n1=2))&&(decide (r8<(W (2*t1.Clear))))) || (decide (r9<t1.Clear)))) (Yw (gx l1 (W (n1 - 2))) (gx l1 (W (n1 - 1))))) fun r10=>
   bif(((decide (n1=2))&&(decide (r8<(W (2*t1.Clear))))) || (decide (r9<t1.Clear))) || (decide (r10<t1.Clear))then(
    some false)
   else(
    Option.bind (za2 t1) fun r11=>
    zl (vy l1.length 1 (W (n1 - 1))) <|
    bnd (seg l1 1 (W (n1 - 1))) fun v1=>
    yg (σ:=Unit) (ρ:=Bool) (
     ya (v1.length:Int) (zck v1 r11) (fun s=>Res.nx s) ()) fun j_39=>
    Option.bind (zbk l1) fun m1=>
    Option.bind (YZ t1) fun r14=>
    zl (inR m1 0) <|
    zl (inR (m1.set (0:Int).toNat r14.1) (W (n1 - 1))) <|
    yg (σ:=Unit) (ρ:=Bool) (
     loop (Y1 m1 n1 t1 r14) 1) fun j_52=>
    some true)))
noncomputable def zce (l1:(List zd))(s2_:(Int×Int)):Option (zI (Int×Int) Int):=
 bif decide ((W (s2_.2+1))<(l1.length:Int))then(
  Option.bind (α:=Int) (
   zl (inR l1 (W (s2_.2 - 1))) <|
   zl (inR l1 s2_.2) <|
   zl (inR l1 s2_.2) <|
   zl (inR l1 (W (s2_.2+1))) <|
   bif !decide ((decide (((gx l1 (W (s2_.2 - 1))).X)=((gx l1 s2_.2).X)))=(decide (((gx l1 s2_.2).X)=((gx l1 (W (s2_.2+1))).X))))then(
    bnd (W (s2_.1+1)) fun n1=>
    some n1)
   else(
    some s2_.1)) fun j_4=>
  bnd (W (s2_.2+1)) fun i1=>
  some (zI.again (j_4,i1)))
 else(
  some (zI.done s2_.1))
noncomputable def JL (l1:(List zd)):Option Int:=
 Option.bind (α:=Int) (
  loop (zce l1) (0,1)) fun j_1=>
 some j_1
noncomputable def zcl (l1:(List zd))(s2_:(Int×Int)):Option (zI (Int×Int) Int):=
 bif decide (s2_.2<(l1.length:Int))then(
  zl (inR l1 (W (s2_.2 - 1))) <|
  zl (inR l1 s2_.2) <|
  Option.bind (Yw (gx l1 (W (s2_.2 - 1))) (gx l1 s2_.2)) fun r1=>
  bnd (W (s2_.1+r1)) fun n1=>
  bnd (W (s2_.2+1)) fun i1=>
  some (zI.again (n1,i1)))
 else(
  some (zI.done s2_.1))
noncomputable def JO (l1:(List zd)):Option Int:=
 Option.bind (α:=Int) (
  loop (zcl l1) (0,1)) fun j_1=>
 some j_1
noncomputable def zb2 (d1:Doc)(i:Int)(s:Int):Option Int:=
 zl (inR d1.Nodes i) <|
 bnd (gx d1.Nodes i) fun v1=>
 bif !decide (v1.Kind=6)then(
  bnd (W (s+1)) fun many1=>
  some many1)
 else(
  some s)
noncomputable def zb3 (d1:Doc)(r1:(Doc×Int))(clear1:Int)(i:Int)(s:Unit):Option (Res Unit (Res Unit Bool)):=
 zl (inR d1.Edges i) <|
 bnd (gx d1.Edges i) fun v2=>
 Option.bind (zcq d1 v2 clear1) fun r10=>
 zl (inR r1.1.Edges i) <|
 bnd (gx r1.1.Edges i) fun v3=>
 Option.bind (zcm r1.1 v3) fun l1=>
 Option.bind (Y3 r10) fun r11=>
 Option.bind (α:=(Int×Int×Bool)) (
  bif decide (r11=0)then(
   Option.bind (JM r10) fun r12=>
   some (r12.1,r12.2.1,r12.2.2))
  else(
   some (0,0,false))) fun j_33=>
 yg (σ:=Unit) (ρ:=(Res Unit (Res Unit Bool))) (
  bif(!j_33.2.2) || (decide (50<j_33.1))then(
   Option.bind (YD v3.Bends v2.Bends) fun r13=>
   bif !r13 then(
    some (Res.ab (Res.ab (Res.ab false))))
   else(
    some (Res.nx ())))
  else(
   Option.bind (JN r10 l1) fun r14=>
   Option.bind (gd (!(!r14)) (JL l1)) fun r15=>
   Option.bind (gd (!((!r14) || (!decide (r15=j_33.1)))) (JO l1)) fun r16=>
   bif((!r14) || (!decide (r15=j_33.1))) || (!decide (r16=j_33.2.1))then(
    some (Res.ab (Res.ab (Res.ab false))))
   else(
    some (Res.nx ())))) fun j_36=>
 Option.bind (JP (⟨([]:(List zm)),[v2]⟩:Doc) (⟨([]:(List zm)),[{ v3 with Bends:=v2.Bends }]⟩:Doc)) fun r17=>
 bif !r17 then(
  some (Res.ab (Res.ab false)))
 else(
  some (Res.nx ()))
noncomputable def zdH (d1:Doc)(clear1:Int):Option Bool:=
 Option.bind (zeG d1 clear1) fun r1=>
 Option.bind (α:=Int) (
  yS (d1.Nodes.length:Int) (zb2 d1) 0) fun j_2=>
 Option.bind (zch d1) fun r2=>
 Option.bind (q6 clear1 1 200) fun r3=>
 Option.bind (qH (!r3) 3) fun r4=>
 Option.bind (qH (decide (100<j_2)) 4) fun r5=>
 Option.bind (q5 [r2,r4,r5]) fun want1=>
 Option.bind (zaF) fun r6=>
 bif((!r6) || (!decide (want1=0))) || (!decide (r1.2=0))then(
  Option.bind (zaF) fun r7=>
  Option.bind (gd (r7) (zb4 r1.1 r1.2 want1 d1)) fun r8=>
  some (r7&&r8))
 else(
  bif(decide (6<j_2)) || (decide (6<(d1.Edges.length:Int)))then(
   some true)
  else(
   Option.bind (zbl r1.1.Nodes d1.Nodes) fun r9=>
   bif(!r9) || (!decide ((r1.1.Edges.length:Int)=(d1.Edges.length:Int)))then(
    some false)
   else(
    yg (σ:=Unit) (ρ:=Bool) (
     ya (d1.Edges.length:Int) (zb3 d1 r1 clear1) (fun s=>Res.nx s) ()) fun j_22=>
    Option.bind (vO r1.1) fun r18=>
    some (decide (r18=0)))))
end Go.DB
