/- A part of the proof. -/
import Derived.Test.YtmfcdppbnbfpjaaGreatDoorRerG1
set_option linter.unusedSimpArgs false
set_option linter.unusedVariables false
namespace Go.DB
open Go Go.RowKit
theorem YK (x:List Int)(v:Int)(hx:x.length≤1000000)(hs:x.Pairwise (· < ·)):∃(i:Nat) (b:Bool),vW x v=some ((i:Int),b)∧i≤x.length∧(∀j:Nat,j<i→gx x (j:Int)<v)∧(∀j:Nat,i≤j→j<x.length→v≤gx x (j:Int))∧
  (b=true↔v∈x)∧(v∈x→i<x.length∧gx x (i:Int)=v):=by
 have mono:∀a b:Nat,a<b→b<x.length→gx x (a:Int)<gx x (b:Int):=fun a b h1 h2=>by
  rw[zS (by omega),zS h2]
  exact List.pairwise_iff_getElem.1 hs a b (by omega) h2 h1
 unfold vW
 simp only[zG]
 obtain⟨e,he,s,rfl,hs,hlo,hhi⟩:=ve (body:=zeS x v) (s0:=((0:Int),(x.length:Int))) (fun st=>∃i j:Nat,st=((i:Int),(j:Int))∧i≤j∧j≤x.length∧(∀k:Nat,k<i→gx x (k:Int)<v)∧∀k:Nat,j≤k→k<x.length→v≤gx x (k:Int)) (fun st=>(st.2 - st.1).toNat)
  (fun e=>∃s:Nat,e=(s:Int)∧s≤x.length∧(∀k:Nat,k<s→gx x (k:Int)<v)∧∀k:Nat,s≤k→k<x.length→v≤gx x (k:Int))
  ⟨0,x.length,by simp,Nat.zero_le _,Nat.le_refl _,fun k h=>by omega,fun k h1 h2=>by omega⟩ (fun st hI=>by
  obtain⟨i,j,rfl,h1,h2,hlo,hhi⟩:=hI
  unfold zeS
  by_cases c:i<j
  ·
   have d:decide ((i:Int)<(j:Int))=true:=by rw[decide_eq_true_eq];omega
   simp only[d,cond_true,zG]
   rw[zn1 (by omega),zo ⟨by omega,by omega⟩]
   have hless:zbG (gx x (((i+j) / 2:Nat):Int)) v=some (decide (gx x (((i+j) / 2:Nat):Int)<v)):=by
    unfold zbG zbH;simp
   rw[hless]
   simp only[zq]
   left
   by_cases cv:gx x (((i+j) / 2:Nat):Int)<v
   ·
    rw[decide_eq_true cv]
    refine⟨_,rfl,⟨(i+j) / 2+1,j,by rw[Wk (by omega) (by omega)];simp,by omega,h2,fun k hk=>?_,hhi⟩,by simp only;rw[Wk (by omega) (by omega)];omega⟩
    by_cases e:k=(i+j) / 2
    ·
     rw[e];exact cv
    ·
     exact Int.lt_trans (mono k ((i+j) / 2) (by omega) (by omega)) cv
   ·
    rw[decide_eq_false cv]
    refine⟨_,rfl,⟨i,(i+j) / 2,rfl,by omega,by omega,hlo,fun k hk hk2=>?_⟩,by simp only;omega⟩
    by_cases e:k=(i+j) / 2
    ·
     rw[e];omega
    ·
     have:=mono ((i+j) / 2) k (by omega) hk2
     omega
  ·
   right
   have d:decide ((i:Int)<(j:Int))=false:=by rw[decide_eq_false_iff_not];omega
   obtain rfl:i=j:=by omega
   exact⟨(i:Int),by simp only[d,cond_false],i,rfl,by omega,hlo,hhi⟩)
 rw[he]
 simp only[zq]
 have hR:decide ((s:Int)<(x.length:Int))=true→inR x (s:Int):=fun h=>⟨by omega,by simpa using h⟩
 rw[zo hR,zo (fun h _=>hR h)]
 have hv:v∈x→s<x.length∧gx x (s:Int)=v:=fun hm=>by
  obtain⟨k,hk,rfl⟩:=List.mem_iff_getElem.1 hm
  rw[←zS hk]at hlo hhi⊢
  have h1:s≤k:=by
   rcases Nat.lt_or_ge k s with h | h
   ·
    have:=hlo k h;omega
   ·
    exact h
  have h2:=hhi s (Nat.le_refl _) (by omega)
  refine⟨by omega,?_⟩
  by_cases e:s=k
  ·
   rw[e]
  ·
   have:=mono s k (by omega) hk;omega
 have nan:∀y,Jg y=some false:=fun y=>by unfold Jg;simp
 have fin:(Option.bind (gd ((decide ((s:Int)<(x.length:Int)))&&!(decide ((gx x (s:Int))=v))) (Jg (gx x (s:Int)))) fun r2=>
   Option.bind (gd ((decide ((s:Int)<(x.length:Int)))&&!(decide ((gx x (s:Int))=v))&&r2) (Jg v)) fun r3=>
   some ((s:Int),(decide ((s:Int)<(x.length:Int)))&&((decide ((gx x (s:Int))=v)) || (r2&&r3))))=some ((s:Int),decide ((s:Int)<(x.length:Int))&&decide ((gx x (s:Int))=v)):=by
  rw[nan,nan]
  have g1:∀b,gd b (some false)=some false:=fun b=>by cases b<;>rfl
  rw[g1,zq,g1,zq]
  simp
 rw[fin]
 refine⟨s,_,rfl,hs,hlo,hhi,?_,hv⟩
 rw[Bool.and_eq_true,decide_eq_true_eq,decide_eq_true_eq]
 constructor
 ·
  rintro⟨h1,h2⟩
  rw[←h2]
  exact qQ ⟨by omega,h1⟩
 ·
  intro hm
  obtain⟨h1,h2⟩:=hv hm
  exact⟨by omega,h2⟩
theorem jj (at_:List Int):(yr at_).Pairwise (· < ·):=(zig (zkZ _)).1
theorem zdx {at_:List Int}{v:Int}:v∈yr at_↔∃n∈at_,v∈qt n:=by
 unfold yr
 rw[(zig (zkZ _)).2,zrj,List.mem_flatMap]
theorem zda {n v:Int}:v∈qt n↔ -1000000≤v∧v≤1000000∧n - 1≤v∧v≤n+1:=by
 unfold qt in1
 simp only[List.mem_append]
 constructor
 ·
  intro h
  rcases h with(h | h) | h<;>(split at h<;>simp at h<;>omega)
 ·
  rintro⟨h1,h2,h3,h4⟩
  have:v=n - 1∨v=n∨v=n+1:=by omega
  rcases this with rfl | rfl | rfl
  ·
   left;left;rw[if_pos ⟨h1,h2⟩];simp
  ·
   left;right;rw[if_pos ⟨h1,h2⟩];simp
  ·
   right;rw[if_pos ⟨h1,h2⟩];simp
theorem zf1 {x:List Int}(hs:x.Pairwise (· < ·)){a b:Nat}(h1:a<b)(h2:b<x.length):gx x (a:Int)<gx x (b:Int):=by
 rw[zS (by omega),zS h2]
 exact List.pairwise_iff_getElem.1 hs a b (by omega) h2 h1
def inZ (z:zV)(a b:zd):Prop:=z.left<max a.X b.X∧min a.X b.X<z.right∧z.top<max a.Y b.Y∧min a.Y b.Y<z.bottom
instance (z:zV) (a b:zd):Decidable (inZ z a b):=by unfold inZ;infer_instance
def z8 (t:zA)(a b:zd):Bool:=(t.Walls.map (zn t)).any (fun z=>decide (inZ z a b))
theorem ziT {t:zA}(h:yw t)(a b:zd):YB (t.Walls.map (zn t)) a b=some (!z8 t a b):=by
 have hf:=h.few
 have hp:∀z,Qr z a b=some (decide (inZ z a b)):=fun z=>by
  unfold Qr
  congr 1
  rw[Bool.eq_iff_iff,decide_eq_true_eq]
  unfold inZ
  simp only[Bool.and_eq_true,decide_eq_true_eq]
  constructor
  ·
   rintro⟨⟨⟨h1,h2⟩,h3⟩,h4⟩;exact⟨h1,h2,h3,h4⟩
  ·
   rintro⟨h1,h2,h3,h4⟩;exact⟨⟨⟨h1,h2⟩,h3⟩,h4⟩
 unfold YB
 have hi:zab (t.Walls.map (zn t)) (fun x0=>Qr x0 a b)=some (match(t.Walls.map (zn t)).findIdx? (fun z=>decide (inZ z a b))with | some i=>(i:Int) | none=> -1):=by
  unfold zab
  rw[zcx (fun z=>decide (inZ z a b)) (by rw[List.length_map];omega) (fun i h=>by
   unfold zeT
   rw[zo ⟨by omega,by omega⟩,zS h]
   show Option.bind (Qr (t.Walls.map (zn t))[i] a b) _=_
   rw[hp]
   simp only[zq]
   cases decide (inZ ((t.Walls.map (zn t))[i]) a b)<;>rfl)]
  cases(t.Walls.map (zn t)).findIdx? (fun z=>decide (inZ z a b))<;>rfl
 unfold zcQ
 rw[hi]
 exact congrArg (fun b:Bool=>some (!b)) (zbY (l:=t.Walls.map (zn t)) (p:=fun z=>decide (inZ z a b)))
theorem zdc {t:zA}(h:yw t)(a b:zd):Qp t a b=some (z8 t a b)∧YB (t.Walls.map (zn t)) a b=some (!z8 t a b):=by
 have hf:=h.few
 have hp:∀w,JS w t a b=some (decide (inZ (zn t w) a b)):=fun w=>by
  unfold JS
  congr 1
  rw[Bool.eq_iff_iff,decide_eq_true_eq]
  unfold inZ zn
  simp only[Bool.and_eq_true,decide_eq_true_eq]
  constructor
  ·
   rintro⟨⟨⟨h1,h2⟩,h3⟩,h4⟩;exact⟨h1,h2,h3,h4⟩
  ·
   rintro⟨h1,h2,h3,h4⟩;exact⟨⟨⟨h1,h2⟩,h3⟩,h4⟩
 have h1:Qp t a b=some (z8 t a b):=by
  unfold Qp
  rw[zhM t.Walls _ (fun w=>decide (inZ (zn t w) a b)) (by omega) (fun x _=>hp x)]
  unfold z8
  rw[List.any_map];rfl
 obtain⟨r,h2,h3⟩:=znO h a b
 rw[h1]at h2
 rw[Option.some.inj h2]
 exact⟨h1.trans h2,h3⟩
theorem Qb {t:zA}{a b:zd}:z8 t a b=true↔∃w∈t.Walls,inZ (zn t w) a b:=by
 unfold z8
 simp[List.any_eq_true]
section
theorem JE {w h x y:Nat}(hx:x<w)(hy:y<h):y*w+x<w*h:=by
 have:=Nat.mul_le_mul_right w (show y+1≤h by omega)
 rw[Nat.add_mul,Nat.mul_comm h w]at this;omega
theorem zom {w x y x' y':Nat}(hx:x<w)(hx':x'<w)(h:y*w+x=y'*w+x'):x=x'∧y=y':=by
 have h1:(y*w+x) / w=y:=by rw[Nat.add_comm,Nat.add_mul_div_right _ _ (by omega),Nat.div_eq_of_lt hx];omega
 have h2:(y'*w+x') / w=y':=by rw[Nat.add_comm,Nat.add_mul_div_right _ _ (by omega),Nat.div_eq_of_lt hx'];omega
 rw[h]at h1
 have:y=y':=by omega
 subst this
 exact⟨by omega,rfl⟩
structure Is2 (w h:Nat) (A:List Bool) (f:Nat→Nat→Bool):Prop where
 len:A.length=w*h
 val:∀x y,x<w→y<h→gx A ((y*w+x:Nat):Int)=f x y
theorem Is2.congr {w h:Nat}{A:List Bool}{f g:Nat→Nat→Bool}(hA:Is2 w h A f)(he:∀x y,x<w→y<h→f x y=g x y):Is2 w h A g:=⟨hA.len,fun x y hx hy=>(hA.val x y hx hy).trans (he x y hx hy)⟩
theorem Is2.set {w h:Nat}{A:List Bool}{f:Nat→Nat→Bool}(hA:Is2 w h A f){x0 y0:Nat}(hx:x0<w)(hy:y0<h)(v:Bool):Is2 w h (A.set (y0*w+x0) v) (fun x y=>if x=x0∧y=y0 then v else f x y):=by
 refine⟨by rw[List.length_set];exact hA.len,fun x y hx' hy'=>?_⟩
 rw[jS (by rw[hA.len];exact JE hx hy)]
 by_cases c:x=x0∧y=y0
 ·
  rw[if_pos c,if_pos (by rw[c.1,c.2])]
 ·
  rw[if_neg c,if_neg (fun e=>c (zom hx' hx e)),hA.val x y hx' hy']
theorem zgt {w h:Nat}(hw:w≤1000)(hh:h≤1000):w*h≤1000000:=Nat.mul_le_mul hw hh
theorem zgh {w h x y:Nat}(hw:w≤1000)(hh:h≤1000)(hx:x<w)(hy:y<h):W ((W ((y:Int)*(w:Int)))+(x:Int))=((y*w+x:Nat):Int):=by
 have h1:=JE hx hy
 have h2:=zgt hw hh
 have e:(y:Int)*(w:Int)=((y*w:Nat):Int):=by simp
 rw[e,Wk (n:=((y*w:Nat):Int)) (by omega) (by omega),Wk (by omega) (by omega)]
 omega
theorem zlT {w h:Nat}(hw:w≤1000)(hh:h≤1000){r4:Arr 1 Int×Arr 1 Int}{u0 u1 y:Nat}(e1:gx r4.2.l 1=(u1:Int))(h01:u0≤u1)(h1w:u1≤w)(hy:y<h){A0:List Bool}(s33:Int×List Bool)(hs:s33.1=(y:Int)){f:Nat→Nat→Bool}(hA:Is2 w h A0 f):
  ∃A,loop (zcD r4 (w:Int) s33) ((u0:Int),A0)=some A∧Is2 w h A (fun x' y'=>if y'=y∧u0≤x'∧x'<u1 then false else f x' y'):=by
 refine ve (body:=zcD r4 (w:Int) s33) (s0:=((u0:Int),A0)) (fun st=>∃(x:Nat) (A:List Bool),st=((x:Int),A)∧u0≤x∧x≤u1∧Is2 w h A (fun x' y'=>if y'=y∧u0≤x'∧x'<x then false else f x' y')) (fun st=>(u1 - st.1).toNat) _
  ⟨u0,A0,rfl,Nat.le_refl _,h01,hA.congr (fun x' y' _ _=>by rw[if_neg (by omega)])⟩ ?_
 rintro st ⟨x,A,rfl,h1,h2,hI⟩
 unfold zcD
 simp only[e1,hs]
 by_cases c:x<u1
 ·
  left
  have hlt:=JE (show x<w by omega) hy
  rw[decide_eq_true (by omega),cond_true,zgh hw hh (by omega) hy,zo ⟨by omega,by rw[hI.len];omega⟩,zG,zG,Wk (by omega) (by omega),Int.toNat_natCast]
  refine⟨_,rfl,⟨x+1,_,rfl,by omega,by omega,(hI.set (show x<w by omega) hy false).congr (fun x' y' _ _=>?_)⟩,by simp only;omega⟩
  by_cases cc:x'=x∧y'=y
  ·
   rw[if_pos cc,if_pos (by omega)]
  ·
   rw[if_neg cc]
   by_cases c3:y'=y∧u0≤x'∧x'<x
   ·
    rw[if_pos c3,if_pos (by omega)]
   ·
    rw[if_neg c3,if_neg (by omega)]
 ·
  right
  obtain rfl:x=u1:=by omega
  exact⟨A,by rw[decide_eq_false (by omega),cond_false],hI⟩
theorem zlQ {w h:Nat}(hw:w≤1000)(hh:h≤1000){r3 r4:Arr 1 Int×Arr 1 Int}{u0 u1 y0 y1:Nat}(e0:gx r4.2.l 0=(u0:Int))(e1:gx r4.2.l 1=(u1:Int))(e2:gx r3.1.l 1=(y1:Int))(h01:u0≤u1)(h1w:u1≤w)(k01:y0≤y1)(k1:y1≤h){A0:List Bool}{f:Nat→Nat→Bool}(hA:Is2 w h A0 f):
  ∃A,loop (J2 r3 r4 (w:Int)) ((y0:Int),A0)=some A∧Is2 w h A (fun x' y'=>if(y0≤y'∧y'<y1)∧u0≤x'∧x'<u1 then false else f x' y'):=by
 refine ve (body:=J2 r3 r4 (w:Int)) (s0:=((y0:Int),A0)) (fun st=>∃(y:Nat) (A:List Bool),st=((y:Int),A)∧y0≤y∧y≤y1∧Is2 w h A (fun x' y'=>if(y0≤y'∧y'<y)∧u0≤x'∧x'<u1 then false else f x' y')) (fun st=>(y1 - st.1).toNat) _
  ⟨y0,A0,rfl,Nat.le_refl _,k01,hA.congr (fun x' y' _ _=>by rw[if_neg (by omega)])⟩ ?_
 rintro st ⟨y,A,rfl,h1,h2,hI⟩
 unfold J2
 simp only[e2]
 by_cases c:y<y1
 ·
  left
  obtain⟨A',g1,g2⟩:=zlT hw hh e1 h01 h1w (show y<h by omega) ((y:Int),A) rfl hI
  rw[decide_eq_true (by omega),cond_true,zG,e0,g1,zq,zG,Wk (by omega) (by omega)]
  refine⟨_,rfl,⟨y+1,_,rfl,by omega,by omega,g2.congr (fun x' y' _ _=>?_)⟩,by simp only;omega⟩
  by_cases cc:y'=y∧u0≤x'∧x'<u1
  ·
   rw[if_pos cc,if_pos (by omega)]
  ·
   rw[if_neg cc]
   by_cases c3:(y0≤y'∧y'<y)∧u0≤x'∧x'<u1
   ·
    rw[if_pos c3,if_pos (by omega)]
   ·
    rw[if_neg c3,if_neg (by omega)]
 ·
  right
  obtain rfl:y=y1:=by omega
  exact⟨A,by rw[decide_eq_false (by omega),cond_false],hI⟩
theorem zlV {w h:Nat}(hw:w≤1000)(hh:h≤1000){r3:Arr 1 Int×Arr 1 Int}{y0 y1 x:Nat}(e1:gx r3.2.l 1=(y1:Int))(h01:y0≤y1)(h1w:y1≤h)(hx:x<w){A0:List Bool}(s44:Int×List Bool)(hs:s44.1=(x:Int)){f:Nat→Nat→Bool}(hA:Is2 w h A0 f):
  ∃A,loop (zcE r3 (w:Int) s44) ((y0:Int),A0)=some A∧Is2 w h A (fun x' y'=>if x'=x∧y0≤y'∧y'<y1 then false else f x' y'):=by
 refine ve (body:=zcE r3 (w:Int) s44) (s0:=((y0:Int),A0)) (fun st=>∃(y:Nat) (A:List Bool),st=((y:Int),A)∧y0≤y∧y≤y1∧Is2 w h A (fun x' y'=>if x'=x∧y0≤y'∧y'<y then false else f x' y')) (fun st=>(y1 - st.1).toNat) _
  ⟨y0,A0,rfl,Nat.le_refl _,h01,hA.congr (fun x' y' _ _=>by rw[if_neg (by omega)])⟩ ?_
 rintro st ⟨y,A,rfl,h1,h2,hI⟩
 unfold zcE
 simp only[e1,hs]
 by_cases c:y<y1
 ·
  left
  have hlt:=JE hx (show y<h by omega)
  rw[decide_eq_true (by omega),cond_true,zgh hw hh hx (by omega),zo ⟨by omega,by rw[hI.len];omega⟩,zG,zG,Wk (by omega) (by omega),Int.toNat_natCast]
  refine⟨_,rfl,⟨y+1,_,rfl,by omega,by omega,(hI.set hx (show y<h by omega) false).congr (fun x' y' _ _=>?_)⟩,by simp only;omega⟩
  by_cases cc:x'=x∧y'=y
  ·
   rw[if_pos cc,if_pos (by omega)]
  ·
   rw[if_neg cc]
   by_cases c3:x'=x∧y0≤y'∧y'<y
   ·
    rw[if_pos c3,if_pos (by omega)]
   ·
    rw[if_neg c3,if_neg (by omega)]
 ·
  right
  obtain rfl:y=y1:=by omega
  exact⟨A,by rw[decide_eq_false (by omega),cond_false],hI⟩
theorem zlU {w h:Nat}(hw:w≤1000)(hh:h≤1000){r3 r4:Arr 1 Int×Arr 1 Int}{y0 y1 x0 x1:Nat}(e0:gx r3.2.l 0=(y0:Int))(e1:gx r3.2.l 1=(y1:Int))(e2:gx r4.1.l 1=(x1:Int))(h01:y0≤y1)(h1w:y1≤h)(k01:x0≤x1)(k1:x1≤w){A0:List Bool}(j:List Bool){f:Nat→Nat→Bool}(hA:Is2 w h A0 f):
  ∃A,loop (J3 r3 r4 (w:Int) j) ((x0:Int),A0)=some (A,j)∧Is2 w h A (fun x' y'=>if(x0≤x'∧x'<x1)∧y0≤y'∧y'<y1 then false else f x' y'):=by
 obtain⟨e,he,A,rfl,hA'⟩:=ve (body:=J3 r3 r4 (w:Int) j) (s0:=((x0:Int),A0)) (fun st=>∃(x:Nat) (A:List Bool),st=((x:Int),A)∧x0≤x∧x≤x1∧Is2 w h A (fun x' y'=>if(x0≤x'∧x'<x)∧y0≤y'∧y'<y1 then false else f x' y')) (fun st=>(x1 - st.1).toNat)
  (fun e=>∃A,e=(A,j)∧Is2 w h A (fun x' y'=>if(x0≤x'∧x'<x1)∧y0≤y'∧y'<y1 then false else f x' y'))
  ⟨x0,A0,rfl,Nat.le_refl _,k01,hA.congr (fun x' y' _ _=>by rw[if_neg (by omega)])⟩ (by
  rintro st ⟨x,A,rfl,h1,h2,hI⟩
  unfold J3
  simp only[e2]
  by_cases c:x<x1
  ·
   left
   obtain⟨A',g1,g2⟩:=zlV hw hh e1 h01 h1w (show x<w by omega) ((x:Int),A) rfl hI
   rw[decide_eq_true (by omega),cond_true,zG,e0,g1,zq,zG,Wk (by omega) (by omega)]
   refine⟨_,rfl,⟨x+1,_,rfl,by omega,by omega,g2.congr (fun x' y' _ _=>?_)⟩,by simp only;omega⟩
   by_cases cc:x'=x∧y0≤y'∧y'<y1
   ·
    rw[if_pos cc,if_pos (by omega)]
   ·
    rw[if_neg cc]
    by_cases c3:(x0≤x'∧x'<x)∧y0≤y'∧y'<y1
    ·
     rw[if_pos c3,if_pos (by omega)]
    ·
     rw[if_neg c3,if_neg (by omega)]
  ·
   right
   obtain rfl:x=x1:=by omega
   exact⟨(A,j),by rw[decide_eq_false (by omega),cond_false],A,rfl,hI⟩)
 exact⟨A,he,hA'⟩
theorem zkY {l:List Int}(hl:l.length≤1000)(hs:l.Pairwise (· < ·)){low high:Int}(h1:nrI low)(h2:low<high):∃a b:Nat,Qs l low high=some (⟨[(a:Int),(b:Int)]⟩,⟨[((a - 1:Nat):Int),(b:Int)]⟩)∧a≤b∧b≤l.length∧
  (∀k:Nat,k<l.length→((a≤k∧k<b)↔low<gx l (k:Int)∧gx l (k:Int)<high))∧∀k:Nat,k+1<l.length→((a - 1≤k∧k<b)↔low<gx l ((k+1:Nat):Int)∧gx l (k:Int)<high):=by
 obtain⟨a,fa,e1,a1,a2,a3,_,_⟩:=YK l (low+1) (by omega) hs
 obtain⟨b,fb,e2,b1,b2,b3,_,_⟩:=YK l high (by omega) hs
 unfold nrI at h1
 have hab:a≤b:=by
  rcases Nat.lt_or_ge b a with h | h
  ·
   have:=a2 b h
   have:=b3 b (Nat.le_refl _) (by omega)
   omega
  ·
   exact h
 refine⟨a,b,?_,hab,b1,fun k hk=>?_,fun k hk=>?_⟩
 ·
  unfold Qs
  simp only[zG]
  rw[Wk (n:=low+1) (by omega) (by omega),e1,e2]
  simp only[zq]
  rw[Wk (by omega) (by omega),show max ((a:Int) - 1) 0=((a - 1:Nat):Int)by omega]
 ·
  constructor
  ·
   rintro⟨c1,c2⟩
   have:=a3 k c1 hk;have:=b2 k c2;omega
  ·
   rintro⟨c1,c2⟩
   refine⟨Classical.byContradiction fun hn=>?_,Classical.byContradiction fun hn=>?_⟩
   ·
    have:=a2 k (by omega);omega
   ·
    have:=b3 k (by omega) hk;omega
 ·
  constructor
  ·
   rintro⟨c1,c2⟩
   have:=a3 (k+1) (by omega) hk;have:=b2 k c2;omega
  ·
   rintro⟨c1,c2⟩
   refine⟨Classical.byContradiction fun hn=>?_,Classical.byContradiction fun hn=>?_⟩
   ·
    have:=a2 (k+1) (by omega);omega
   ·
    have:=b3 k (by omega) (by omega);omega
section
variable (X Y:List Int)
def acr (z:zV)(x y:Nat):Prop:=(z.left<gx X ((x+1:Nat):Int)∧gx X (x:Int)<z.right)∧z.top<gx Y (y:Int)∧gx Y (y:Int)<z.bottom
def dwn (z:zV)(x y:Nat):Prop:=(z.left<gx X (x:Int)∧gx X (x:Int)<z.right)∧z.top<gx Y ((y+1:Nat):Int)∧gx Y (y:Int)<z.bottom
instance (z:zV) (x y:Nat):Decidable (acr X Y z x y):=by unfold acr;infer_instance
instance (z:zV) (x y:Nat):Decidable (dwn X Y z x y):=by unfold dwn;infer_instance
def Q5 (zs:List zV)(x y:Nat):Bool:=decide (x+1<X.length)&&!zs.any (fun z=>decide (acr X Y z x y))
def Q8 (zs:List zV)(x y:Nat):Bool:=decide (y+1<Y.length)&&!zs.any (fun z=>decide (dwn X Y z x y))
end
theorem zlt {X Y:List Int}(hX:X.length≤1000)(hY:Y.length≤1000)(sX:X.Pairwise (· < ·))(sY:Y.Pairwise (· < ·)){s1:yd}(eX:s1.xs=X)(eY:s1.ys=Y):∀(zs done:List zV) (D A:List Bool),(∀z∈zs,nrI z.left∧nrI z.top∧z.left<z.right∧z.top<z.bottom)→
  Is2 X.length Y.length D (Q8 X Y done)→Is2 X.length Y.length A (Q5 X Y done)→
  ∃D' A',lgo (fun(v6:zV) (s:List Bool×List Bool)=>Option.bind (Qs s1.ys v6.top v6.bottom) fun r3=>Option.bind (Qs s1.xs v6.left v6.right) fun r4=>bnd (gx r3.1.l 0) fun y1=>
   Option.bind (α:=(List Bool)) (loop (J2 r3 r4 (X.length:Int)) (y1,s.2)) fun j_32=>bnd (gx r4.1.l 0) fun x3=>loop (J3 r3 r4 (X.length:Int) j_32) (x3,s.1)) zs (D,A)=some (D',A')∧
   Is2 X.length Y.length D' (Q8 X Y (done++zs))∧Is2 X.length Y.length A' (Q5 X Y (done++zs))
 | [],done,D,A,_,hD,hA=>⟨D,A,by simp[lgo],by simpa using hD,by simpa using hA⟩
 | z::zs,done,D,A,hz,hD,hA=>by
  obtain⟨n1,n2,n3,n4⟩:=hz z (by simp)
  obtain⟨y0,y1,r3,h1,h2,h3,h4⟩:=zkY hY sY n2 n4
  obtain⟨x0,x1,r4,g1,g2,g3,g4⟩:=zkY hX sX n1 n3
  obtain⟨A',k1,k2⟩:=zlQ hX hY (r3:=(⟨[(y0:Int),(y1:Int)]⟩,⟨[((y0 - 1:Nat):Int),(y1:Int)]⟩)) (r4:=(⟨[(x0:Int),(x1:Int)]⟩,⟨[((x0 - 1:Nat):Int),(x1:Int)]⟩)) (u0:=x0 - 1) (u1:=x1) (y0:=y0) (y1:=y1) rfl rfl rfl (by omega) g2 h1 h2 hA
  obtain⟨D',m1,m2⟩:=zlU hX hY (r3:=(⟨[(y0:Int),(y1:Int)]⟩,⟨[((y0 - 1:Nat):Int),(y1:Int)]⟩)) (r4:=(⟨[(x0:Int),(x1:Int)]⟩,⟨[((x0 - 1:Nat):Int),(x1:Int)]⟩)) (y0:=y0 - 1) (y1:=y1) (x0:=x0) (x1:=x1) rfl rfl rfl (by omega) h2 g1 g2 A' hD
  have hd:Is2 X.length Y.length D' (Q8 X Y (done++[z])):=m2.congr (fun x y hx hy=>by
   unfold Q8
   by_cases cy:y+1<Y.length
   ·
    rw[List.any_append,List.any_cons,List.any_nil,Bool.or_false]
    have e:((x0≤x∧x<x1)∧y0 - 1≤y∧y<y1)↔dwn X Y z x y:=by
     unfold dwn;rw[g3 x hx,h4 y cy]
    by_cases c:dwn X Y z x y
    ·
     rw[if_pos (e.2 c),decide_eq_true c];simp
    ·
     rw[if_neg (fun h=>c (e.1 h)),decide_eq_false c];simp
   ·
    simp[cy])
  have ha:Is2 X.length Y.length A' (Q5 X Y (done++[z])):=k2.congr (fun x y hx hy=>by
   unfold Q5
   by_cases cx:x+1<X.length
   ·
    rw[List.any_append,List.any_cons,List.any_nil,Bool.or_false]
    have e:((y0≤y∧y<y1)∧x0 - 1≤x∧x<x1)↔acr X Y z x y:=by
     unfold acr;rw[h3 y hy,g4 x cx];exact And.comm
    by_cases c:acr X Y z x y
    ·
     rw[if_pos (e.2 c),decide_eq_true c];simp
    ·
     rw[if_neg (fun h=>c (e.1 h)),decide_eq_false c];simp
   ·
    simp[cx])
  obtain⟨D2,A2,e1,e2,e3⟩:=zlt hX hY sX sY eX eY zs (done++[z]) D' A' (fun z' hz'=>hz z' (by simp[hz'])) hd ha
  refine⟨D2,A2,?_,by simpa using e2,by simpa using e3⟩
  rw[eX,eY]at e1
  rw[lgo,eX,eY,r3,zq,r4,zq]
  simp only[zG]
  rw[show gx (⟨[(y0:Int),(y1:Int)]⟩:Arr 1 Int).l 0=(y0:Int)from rfl,k1,zq,show gx (⟨[(x0:Int),(x1:Int)]⟩:Arr 1 Int).l 0=(x0:Int)from rfl,m1]
  exact e1
theorem zne {w h:Nat}(hw:w≤1000)(hh:h≤1000):∃D A,yS (((List.replicate (w*h) false).length:Nat):Int) (zcC (h:Int) (w:Int)) (List.replicate (w*h) false,List.replicate (w*h) false)=some (D,A)∧
  Is2 w h D (fun x y=>decide (y+1<h))∧Is2 w h A (fun x y=>decide (x+1<w)):=by
 have hm:=zgt hw hh
 obtain⟨⟨D,A⟩,h1,h2,h3,h4⟩:=Y7 (n:=(((List.replicate (w*h) false).length:Nat):Int)) (step:=zcC (h:Int) (w:Int)) (s0:=(List.replicate (w*h) false,List.replicate (w*h) false))
  (fun i s=>s.1.length=w*h∧s.2.length=w*h∧∀k:Nat,k<i→k<w*h→gx s.1 (k:Int)=decide (k / w+1<h)∧gx s.2 (k:Int)=decide (k % w+1<w)) (by rw[List.length_replicate];omega) ⟨by simp,by simp,fun k hk=>by omega⟩ (fun i s hi ⟨i1,i2,i3⟩=>by
   rw[List.length_replicate]at hi
   have hi':i<w*h:=by omega
   have hw0:0<w:=by
    rcases Nat.eq_zero_or_pos w with e | e
    ·
     rw[e]at hi';simp at hi'
    ·
     exact e
   have hd:i / w<h:=by rw[Nat.div_lt_iff_lt_mul hw0,Nat.mul_comm];exact hi'
   have hmd:i % w<w:=Nat.mod_lt _ hw0
   unfold zcC
   have t1:(i:Int).tmod (w:Int)=((i % w:Nat):Int):=by rw[Int.tmod_eq_emod_of_nonneg (by omega)];exact(Int.natCast_emod i w).symm
   have t2:(i:Int).tdiv (w:Int)=((i / w:Nat):Int):=by rw[Int.tdiv_eq_ediv_of_nonneg (by omega)];exact(Int.natCast_ediv i w).symm
   rw[zo (by omega),t1,t2,zG,zo (by omega),zG,Wk (n:=(w:Int) - 1) (by omega) (by omega),Wk (n:=(h:Int) - 1) (by omega) (by omega),zo ⟨by omega,by omega⟩,zo ⟨by omega,by omega⟩,Int.toNat_natCast]
   refine⟨_,rfl,by simpa using i1,by simpa using i2,fun k hk hk2=>?_⟩
   simp only
   rw[jS (by omega),jS (by omega)]
   by_cases e:k=i
   ·
    subst e
    rw[if_pos rfl,if_pos rfl]
    exact⟨by rw[decide_eq_decide];omega,by rw[decide_eq_decide];omega⟩
   ·
    rw[if_neg e,if_neg e];exact i3 k (by omega) hk2)
 rw[List.length_replicate]at h4
 refine⟨D,A,h1,⟨h2,fun x y hx hy=>?_⟩,⟨h3,fun x y hx hy=>?_⟩⟩
 ·
  have hlt:=JE hx hy
  rw[(h4 (y*w+x) (by omega) hlt).1,decide_eq_decide,Nat.add_comm (y*w),Nat.add_mul_div_right _ _ (by omega),Nat.div_eq_of_lt hx]
  omega
 ·
  have hlt:=JE hx hy
  rw[(h4 (y*w+x) (by omega) hlt).2,decide_eq_decide,Nat.add_comm (y*w),Nat.add_mul_mod_self_right,Nat.mod_eq_of_lt hx]
theorem zlo {t:zA}(h:yw t){w:Box}(hw:w∈t.Walls):(zn t w).left<(zn t w).right∧(zn t w).top<(zn t w).bottom:=by
 have hb:=h.walls w hw
 have c1:=h.c1;have c2:=h.c2
 unfold okB at hb
 unfold zn
 simp only
 rw[Wk (n:=w.X - t.Clear) (by omega) (by omega),Wk (n:=w.Y - t.Clear) (by omega) (by omega),Wk (n:=w.X+w.W_) (by omega) (by omega),Wk (n:=w.Y+w.H) (by omega) (by omega),Wk (n:=w.X+w.W_+t.Clear) (by omega) (by omega),Wk (n:=w.Y+w.H+t.Clear) (by omega) (by omega)]
 omega
theorem zoY {t:zA}(h:yw t):∃D A,za9 t=some (some ⟨yr (xv t),yr (yv t),A,D⟩)∧
  Is2 (yr (xv t)).length (yr (yv t)).length D (Q8 (yr (xv t)) (yr (yv t)) (t.Walls.map (zn t)))∧Is2 (yr (xv t)).length (yr (yv t)).length A (Q5 (yr (xv t)) (yr (yv t)) (t.Walls.map (zn t))):=by
 have hf:=h.few
 have hX:(yr (xv t)).length≤1000:=by have:=zdw (xv t);rw[ze3]at this;omega
 have hY:(yr (yv t)).length≤1000:=by have:=zdw (yv t);rw[ze4]at this;omega
 have hm:=zgt hX hY
 have hN:((yr (xv t)).length:Int)*((yr (yv t)).length:Int)=(((yr (xv t)).length*(yr (yv t)).length:Nat):Int):=by simp
 unfold za9
 rw[zov h]
 simp only[zG,zq]
 rw[hN,Wk (by omega) (by omega),zo ⟨by omega,by omega,by omega⟩,zo ⟨by omega,by omega,by omega⟩,Int.toNat_natCast]
 obtain⟨D,A,e1,e2,e3⟩:=zne hX hY
 rw[e1,zq,zhJ h,zq]
 rw[Y8 (fun(v6:zV) (s:List Bool×List Bool)=>Option.bind (Qs (yr (yv t)) v6.top v6.bottom) fun r3=>Option.bind (Qs (yr (xv t)) v6.left v6.right) fun r4=>bnd (gx r3.1.l 0) fun y1=>
   Option.bind (α:=(List Bool)) (loop (J2 r3 r4 ((yr (xv t)).length:Int)) (y1,s.2)) fun j_32=>bnd (gx r4.1.l 0) fun x3=>loop (J3 r3 r4 ((yr (xv t)).length:Int) j_32) (x3,s.1)) (by rw[List.length_map];omega) (fun i s hi=>by
  unfold zgZ
  rw[zo hi];rfl)]
 obtain⟨D',A',f1,f2,f3⟩:=zlt hX hY (jj _) (jj _) (s1:=⟨yr (xv t),yr (yv t),[],[]⟩) rfl rfl (t.Walls.map (zn t)) [] D A (fun z hz=>by
  obtain⟨w,hw,rfl⟩:=List.mem_map.1 hz
  obtain⟨a1,a2,_,_⟩:=zbr h hw
  exact⟨a1,a2,zlo h hw⟩) (e2.congr (fun x y _ _=>by unfold Q8;simp)) (e3.congr (fun x y _ _=>by unfold Q5;simp))
 simp only at f1⊢
 rw[f1,zq]
 exact⟨D',A',rfl,by simpa using f2,by simpa using f3⟩
end
noncomputable def XL (t:zA):List Int:=yr (xv t)
noncomputable def YL (t:zA):List Int:=yr (yv t)
noncomputable def ptS (t:zA)(p:zt):zd:=⟨gx (XL t) p.x,gx (YL t) p.y⟩
def sd (p:zt)(side:Int):zt:=⟨p.x+(tow side).X,p.y+(tow side).Y,side⟩
noncomputable def nxT (t:zA)(p:zt)(side:Int):Option (zt×Int):=
 if(0≤(sd p side).x∧(sd p side).x<(XL t).length∧0≤(sd p side).y∧(sd p side).y<(YL t).length)∧z8 t (ptS t p) (ptS t (sd p side))=false then some (sd p side,yy (ptS t p) (ptS t (sd p side)))else none
theorem YH {t:zA}(h:yw t):(XL t).length≤1000:=by have:=zdw (xv t);rw[ze3]at this;have:=h.few;unfold XL;omega
theorem YI {t:zA}(h:yw t):(YL t).length≤1000:=by have:=zdw (yv t);rw[ze4]at this;have:=h.few;unfold YL;omega
theorem vH {at_:List Int}{k:Int}(hk:inR (yr at_) k): -1000000≤gx (yr at_) k∧gx (yr at_) k≤1000000:=by
 obtain⟨n,_,h⟩:=zdx.1 (qQ hk)
 have:=zda.1 h
 omega
theorem ju {x:List Int}(hs:x.Pairwise (· < ·)){a b:Int}(h0:0≤a)(h1:a<b)(h2:b<x.length):gx x a<gx x b:=by
 obtain⟨n,rfl⟩:=Int.eq_ofNat_of_zero_le h0
 obtain⟨m,rfl⟩:=Int.eq_ofNat_of_zero_le (show 0≤b by omega)
 exact zf1 hs (by omega) (by omega)
theorem zjS {t:zA}{p:zt}(hx:inR (XL t) p.x)(hy:inR (YL t) p.y):okP (ptS t p):=by
 have h1:=vH hx
 have h2:=vH hy
 unfold okP ptS
 exact⟨h1.1,h1.2,h2.1,h2.2⟩
theorem zqM {t:zA}(h:yw t){s:yd}(eX:s.xs=XL t)(eY:s.ys=YL t)(p:zt)(side:Int)(q:zt)(l:Int)(hp:InS s p)(h1:1≤side)(h4:side≤4)(hn:nxT t p side=some (q,l)):
  InS s q∧q.side=side∧0<l∧l≤2000000:=by
 obtain⟨x0,x1,y0,y1,s1,s4⟩:=hp
 rw[eX]at x1
 rw[eY]at y1
 unfold nxT at hn
 split at hn
 ·
  rename_i hc
  obtain⟨⟨c1,c2,c3,c4⟩,_⟩:=hc
  simp only[Option.some.injEq,Prod.mk.injEq]at hn
  obtain⟨rfl,rfl⟩:=hn
  have bx:=vH (at_:=xv t) (k:=p.x) ⟨x0,x1⟩
  have by_:=vH (at_:=yv t) (k:=p.y) ⟨y0,y1⟩
  have bx':=vH (at_:=xv t) (k:=(sd p side).x) ⟨c1,c2⟩
  have by':=vH (at_:=yv t) (k:=(sd p side).y) ⟨c3,c4⟩
  refine⟨⟨c1,by rw[eX];exact c2,c3,by rw[eY];exact c4,h1,h4⟩,rfl,?_⟩
  have hs:side=1∨side=2∨side=3∨side=4:=by omega
  have sx:=jj (xv t)
  have sy:=jj (yv t)
  unfold yy ptS XL YL
  unfold XL at c2 x1
  unfold YL at c4 y1
  rcases hs with rfl | rfl | rfl | rfl
  ·
   have e1:(sd p 1).x=p.x:=by simp[sd,tow]
   have e2:(sd p 1).y=p.y - 1:=by simp[sd,tow];omega
   rw[e1]at bx' c1 c2
   rw[e2]at by' c3 c4
   rw[e1,e2]
   have:=ju sy (a:=p.y - 1) (b:=p.y) (by omega) (by omega) y1
   simp only;omega
  ·
   have e1:(sd p 2).x=p.x+1:=by simp[sd,tow]
   have e2:(sd p 2).y=p.y:=by simp[sd,tow]
   rw[e1]at bx' c1 c2
   rw[e2]at by' c3 c4
   rw[e1,e2]
   have:=ju sx (a:=p.x) (b:=p.x+1) (by omega) (by omega) c2
   simp only;omega
  ·
   have e1:(sd p 3).x=p.x:=by simp[sd,tow]
   have e2:(sd p 3).y=p.y+1:=by simp[sd,tow]
   rw[e1]at bx' c1 c2
   rw[e2]at by' c3 c4
   rw[e1,e2]
   have:=ju sy (a:=p.y) (b:=p.y+1) (by omega) (by omega) c4
   simp only;omega
  ·
   have e1:(sd p 4).x=p.x - 1:=by simp[sd,tow];omega
   have e2:(sd p 4).y=p.y:=by simp[sd,tow]
   rw[e1]at bx' c1 c2
   rw[e2]at by' c3 c4
   rw[e1,e2]
   have:=ju sx (a:=p.x - 1) (b:=p.x) (by omega) (by omega) x1
   simp only;omega
 ·
  cases hn
theorem zmd {t:zA}{x y:Nat}(hx:x+1<(XL t).length)(z:zV)(a b:zd)(hab:(a=⟨gx (XL t) (x:Int),gx (YL t) (y:Int)⟩∧b=⟨gx (XL t) ((x+1:Nat):Int),gx (YL t) (y:Int)⟩)∨(b=⟨gx (XL t) (x:Int),gx (YL t) (y:Int)⟩∧a=⟨gx (XL t) ((x+1:Nat):Int),gx (YL t) (y:Int)⟩)):
  inZ z a b↔acr (XL t) (YL t) z x y:=by
 have:=zf1 (jj (xv t)) (show x<x+1 by omega) hx
 unfold XL YL at *
 unfold inZ acr
 rcases hab with⟨rfl,rfl⟩ | ⟨rfl,rfl⟩<;>simp only<;>omega
theorem zmN {t:zA}{x y:Nat}(hy:y+1<(YL t).length)(z:zV)(a b:zd)(hab:(a=⟨gx (XL t) (x:Int),gx (YL t) (y:Int)⟩∧b=⟨gx (XL t) (x:Int),gx (YL t) ((y+1:Nat):Int)⟩)∨(b=⟨gx (XL t) (x:Int),gx (YL t) (y:Int)⟩∧a=⟨gx (XL t) (x:Int),gx (YL t) ((y+1:Nat):Int)⟩)):
  inZ z a b↔dwn (XL t) (YL t) z x y:=by
 have:=zf1 (jj (yv t)) (show y<y+1 by omega) hy
 unfold XL YL at *
 unfold inZ dwn
 rcases hab with⟨rfl,rfl⟩ | ⟨rfl,rfl⟩<;>simp only<;>omega
theorem zme {t:zA}{x y:Nat}(hx:x+1<(XL t).length){a b:zd}(hab:(a=⟨gx (XL t) (x:Int),gx (YL t) (y:Int)⟩∧b=⟨gx (XL t) ((x+1:Nat):Int),gx (YL t) (y:Int)⟩)∨(b=⟨gx (XL t) (x:Int),gx (YL t) (y:Int)⟩∧a=⟨gx (XL t) ((x+1:Nat):Int),gx (YL t) (y:Int)⟩)):
  Q5 (XL t) (YL t) (t.Walls.map (zn t)) x y=!z8 t a b:=by
 unfold Q5 z8
 rw[decide_eq_true hx,Bool.true_and]
 have e:(fun z=>decide (acr (XL t) (YL t) z x y))=(fun z=>decide (inZ z a b)):=funext fun z=>by rw[decide_eq_decide];exact(zmd hx z a b hab).symm
 rw[e]
theorem zmO {t:zA}{x y:Nat}(hy:y+1<(YL t).length){a b:zd}(hab:(a=⟨gx (XL t) (x:Int),gx (YL t) (y:Int)⟩∧b=⟨gx (XL t) (x:Int),gx (YL t) ((y+1:Nat):Int)⟩)∨(b=⟨gx (XL t) (x:Int),gx (YL t) (y:Int)⟩∧a=⟨gx (XL t) (x:Int),gx (YL t) ((y+1:Nat):Int)⟩)):
  Q8 (XL t) (YL t) (t.Walls.map (zn t)) x y=!z8 t a b:=by
 unfold Q8 z8
 rw[decide_eq_true hy,Bool.true_and]
 have e:(fun z=>decide (dwn (XL t) (YL t) z x y))=(fun z=>decide (inZ z a b)):=funext fun z=>by rw[decide_eq_decide];exact(zmN hy z a b hab).symm
 rw[e]
theorem zoZ {t:zA}(h:yw t){A D:List Bool}(hD:Is2 (XL t).length (YL t).length D (Q8 (XL t) (YL t) (t.Walls.map (zn t))))(hA:Is2 (XL t).length (YL t).length A (Q5 (XL t) (YL t) (t.Walls.map (zn t))))(p:zt)(side:Int)
  (hp:InS ⟨XL t,YL t,A,D⟩ p) (h1:1≤side) (h4:side≤4):
  ∃r,zba ⟨XL t,YL t,A,D⟩ p side=some r∧((r.2.2=true∧nxT t p side=some (r.1,r.2.1))∨(r.2.2=false∧nxT t p side=none)):=by
 obtain⟨x0,x1,y0,y1,s1,s4⟩:=hp
 have hX:=YH h
 have hY:=YI h
 simp only at x1 y1
 have tb: -10≤(tow side).X∧(tow side).X≤10∧ -10≤(tow side).Y∧(tow side).Y≤10:=by rcases vX side with h | h | h | h<;>rw[h]<;>decide
 have hsd:(⟨W (p.x+(tow side).X),W (p.y+(tow side).Y),side⟩:zt)=sd p side:=by
  rw[Wk (by omega) (by omega),Wk (by omega) (by omega)];rfl
 unfold zba
 rw[zG,zhx h1 h4,zq,zG,hsd]
 simp only
 by_cases c:0≤(sd p side).x∧(sd p side).x<(XL t).length∧0≤(sd p side).y∧(sd p side).y<(YL t).length
 ·
  have hc:((((decide ((sd p side).x<0)) || (decide (((XL t).length:Int)≤(sd p side).x))) || (decide ((sd p side).y<0))) || (decide (((YL t).length:Int)≤(sd p side).y)))=false:=by
   simp only[Bool.or_eq_false_iff,decide_eq_false_iff_not];omega
  rw[hc,cond_false,zG]
  obtain⟨c1,c2,c3,c4⟩:=c
  obtain⟨a,ha⟩:=Int.eq_ofNat_of_zero_le x0
  obtain⟨b,hb⟩:=Int.eq_ofNat_of_zero_le y0
  obtain⟨a',ha'⟩:=Int.eq_ofNat_of_zero_le c1
  obtain⟨b',hb'⟩:=Int.eq_ofNat_of_zero_le c3
  have bx:=vH (at_:=xv t) (k:=p.x) ⟨x0,x1⟩
  have by_:=vH (at_:=yv t) (k:=p.y) ⟨y0,y1⟩
  have bx':=vH (at_:=xv t) (k:=(sd p side).x) ⟨c1,c2⟩
  have by':=vH (at_:=yv t) (k:=(sd p side).y) ⟨c3,c4⟩
  change -1000000≤gx (XL t) p.x∧gx (XL t) p.x≤1000000 at bx
  change -1000000≤gx (YL t) p.y∧gx (YL t) p.y≤1000000 at by_
  change -1000000≤gx (XL t) (sd p side).x∧gx (XL t) (sd p side).x≤1000000 at bx'
  change -1000000≤gx (YL t) (sd p side).y∧gx (YL t) (sd p side).y≤1000000 at by'
  have hat:W ((W ((min p.y (sd p side).y)*((XL t).length:Int)))+(min p.x (sd p side).x))=((min b b'*(XL t).length+min a a':Nat):Int):=by
   rw[ha,hb,ha',hb',show min (b:Int) (b':Int)=((min b b':Nat):Int)by omega,show min (a:Int) (a':Int)=((min a a':Nat):Int)by omega]
   exact zgh hX hY (by omega) (by omega)
  have hlt:=JE (w:=(XL t).length) (h:=(YL t).length) (x:=min a a') (y:=min b b') (by omega) (by omega)
  rw[hat]
  by_cases cx:(tow side).X=0
  ·
   rw[decide_eq_true cx]
   have ex:(sd p side).x=p.x:=by simp[sd,cx]
   simp only[Bool.not_true,cond_false]
   rw[zo ⟨c3,c4⟩,zo ⟨y0,y1⟩,zo ⟨y0,y1⟩,zo ⟨c3,c4⟩,zo ⟨by omega,by rw[hD.len];omega⟩,Wk (by omega) (by omega),Wk (by omega) (by omega)]
   have ey:(b':Int)=b+1∨(b':Int)=b - 1:=by
    have:(sd p side).y=p.y+(tow side).Y:=rfl
    rcases vX side with e | e | e | e<;>rw[e]at cx this<;>simp only at cx this<;>omega
   have haa:a'=a:=by omega
   have hblk:gx D ((min b b'*(XL t).length+min a a':Nat):Int)=!z8 t (ptS t p) (ptS t (sd p side)):=by
    rw[hD.val _ _ (by omega) (by omega)]
    refine zmO (by omega) ?_
    unfold ptS
    rw[ha,hb,ha',hb',haa,Nat.min_self]
    rcases ey with ey | ey
    ·
     left;refine⟨by rw[Nat.min_eq_left (by omega)],by rw[Nat.min_eq_left (by omega),show b'=b+1 by omega]⟩
    ·
     right;refine⟨by rw[Nat.min_eq_right (by omega)],by rw[Nat.min_eq_right (by omega),show b'+1=b by omega]⟩
   have hlen:max (gx (YL t) (sd p side).y - gx (YL t) p.y) (gx (YL t) p.y - gx (YL t) (sd p side).y)=yy (ptS t p) (ptS t (sd p side)):=by
    unfold yy ptS
    rw[ex];simp only;omega
   rw[hblk,hlen]
   unfold nxT
   refine⟨_,rfl,?_⟩
   cases hz:z8 t (ptS t p) (ptS t (sd p side))with
   | false=>left;exact⟨rfl,by rw[if_pos ⟨⟨c1,c2,c3,c4⟩,rfl⟩]⟩
   | true=>right;exact⟨rfl,by rw[if_neg (fun hh=>by cases hh.2)]⟩
  ·
   rw[decide_eq_false cx]
   have cy:(tow side).Y=0:=by
    rcases vX side with e | e | e | e<;>rw[e]at cx⊢ <;>simp at cx⊢
   have ey:(sd p side).y=p.y:=by simp[sd,cy]
   simp only[Bool.not_false,cond_true]
   rw[zo ⟨c1,c2⟩,zo ⟨x0,x1⟩,zo ⟨x0,x1⟩,zo ⟨c1,c2⟩,zo ⟨by omega,by rw[hA.len];omega⟩,Wk (by omega) (by omega),Wk (by omega) (by omega)]
   have ex:(a':Int)=a+1∨(a':Int)=a - 1:=by
    have:(sd p side).x=p.x+(tow side).X:=rfl
    rcases vX side with e | e | e | e<;>rw[e]at cx this<;>first | exact absurd rfl cx | (simp only at this;omega)
   have hbb:b'=b:=by omega
   have hblk:gx A ((min b b'*(XL t).length+min a a':Nat):Int)=!z8 t (ptS t p) (ptS t (sd p side)):=by
    rw[hA.val _ _ (by omega) (by omega)]
    refine zme (by omega) ?_
    unfold ptS
    rw[ha,hb,ha',hb',hbb,Nat.min_self]
    rcases ex with ex | ex
    ·
     left;refine⟨by rw[Nat.min_eq_left (by omega)],by rw[Nat.min_eq_left (by omega),show a'=a+1 by omega]⟩
    ·
     right;refine⟨by rw[Nat.min_eq_right (by omega)],by rw[Nat.min_eq_right (by omega),show a'+1=a by omega]⟩
   have hlen:max (gx (XL t) (sd p side).x - gx (XL t) p.x) (gx (XL t) p.x - gx (XL t) (sd p side).x)=yy (ptS t p) (ptS t (sd p side)):=by
    unfold yy ptS
    rw[ey];simp only;omega
   rw[hblk,hlen]
   unfold nxT
   refine⟨_,rfl,?_⟩
   cases hz:z8 t (ptS t p) (ptS t (sd p side))with
   | false=>left;exact⟨rfl,by rw[if_pos ⟨⟨c1,c2,c3,c4⟩,rfl⟩]⟩
   | true=>right;exact⟨rfl,by rw[if_neg (fun hh=>by cases hh.2)]⟩
 ·
  have hc:((((decide ((sd p side).x<0)) || (decide (((XL t).length:Int)≤(sd p side).x))) || (decide ((sd p side).y<0))) || (decide (((YL t).length:Int)≤(sd p side).y)))=true:=by
   simp only[Bool.or_eq_true,decide_eq_true_eq];omega
  rw[hc,cond_true]
  refine⟨_,rfl,.inr ⟨rfl,?_⟩⟩
  unfold nxT
  rw[if_neg (fun hh=>c hh.1)]
theorem zeL {t:zA}(h:yw t):∃s,za9 t=some (some s)∧s.xs=XL t∧s.ys=YL t∧Sea s (nxT t):=by
 obtain⟨D,A,e,hD,hA⟩:=zoY h
 exact⟨_,e,rfl,rfl,⟨YH h,YI h,fun p side hp h1 h4=>zoZ h hD hA p side hp h1 h4,fun p side q l hp h1 h4 hn=>zqM h rfl rfl p side q l hp h1 h4 hn⟩⟩
def Yo (l:List zd)(i:Nat):Bool:=decide (i=0) || decide (l.length≤i+1) || !decide (qo (gx l ((i:Int) - 1)) (gx l i)=qo (gx l i) (gx l ((i:Int)+1)))
def jx (l:List zd):Nat→List zd
 | 0=>[]
 | i+1=>if Yo l i=true then jx l i++[gx l (i:Int)]else jx l i
theorem zhv (l:List zd):∀i:Nat,(jx l i).length≤i
 | 0=>by simp[jx]
 | i+1=>by
  have:=zhv l i
  unfold jx
  split<;>simp<;>omega
def Qg (l:List zd)(i:Nat):Prop:=decide ((gx l ((i:Int) - 1)).X=(gx l (i:Int)).X)=decide ((gx l (i:Int)).X=(gx l ((i:Int)+1)).X)
instance (l:List zd):DecidablePred (Qg l):=fun i=>by unfold Qg;infer_instance
def vv (p:zd):zd:=⟨-p.X, -p.Y⟩
theorem zlc {p q r:zd}(h1:¬decide (q.X=p.X)=decide (q.Y=p.Y))(h2:¬decide (r.X=q.X)=decide (r.Y=q.Y)):(qo p q=qo q r∨qo p q=vv (qo q r))↔decide (p.X=q.X)=decide (q.X=r.X):=by
 rw[decide_eq_decide]at *
 unfold qo vv sg
 simp only[zd.mk.injEq]
 omega
theorem zqL {p q r:zd}(h1:¬decide (q.X=p.X)=decide (q.Y=p.Y))(h2:¬decide (r.X=q.X)=decide (r.Y=q.Y))(h:qo p q=qo q r):decide (p.X=q.X)=decide (q.X=r.X):=(zlc h1 h2).1 (.inl h)
theorem zrT (a b:zd):qo b a=vv (qo a b):=by
 unfold qo vv sg
 simp only[zd.mk.injEq]
 omega
theorem opp_opp (p:zd):vv (vv p)=p:=by unfold vv;simp
theorem zk7 (s:Int): -10≤(tow s).X∧(tow s).X≤10∧ -10≤(tow s).Y∧(tow s).Y≤10:=by rcases vX s with h | h | h | h<;>rw[h]<;>decide
theorem zgp {ρ:Type}{body:Int→Option (zI Int (Res Unit ρ))}(a n:Nat)(bad:Nat→Prop)(e:ρ)(hbad:∀i:Nat,a≤i→i<n→bad i→body (i:Int)=some (.done (.ab e)))
  (hgood:∀i:Nat,a≤i→i<n→¬bad i→body (i:Int)=some (.again ((i:Int)+1))) (hf:body (n:Int)=some (.done (.nx ()))):
  ∀(k i:Nat),i+k=n→a≤i→((∃j,i≤j∧j<n∧bad j)→loop body (i:Int)=some (.ab e))∧((¬∃j,i≤j∧j<n∧bad j)→loop body (i:Int)=some (.nx ()))
 | 0,i,hk,ha=>by
  obtain rfl:i=n:=by omega
  exact⟨fun⟨j,h1,h2,_⟩=>by omega,fun _=>JF hf⟩
 | k+1,i,hk,ha=>by
  by_cases hb:bad i
  ·
   exact⟨fun _=>JF (hbad i ha (by omega) hb),fun h=>absurd ⟨i,Nat.le_refl _,by omega,hb⟩ h⟩
  ·
   have ih:=zgp a n bad e hbad hgood hf k (i+1) (by omega) (by omega)
   have hl:loop body (i:Int)=loop body ((i+1:Nat):Int):=vc (hgood i ha (by omega) hb)
   rw[hl]
   refine⟨fun⟨j,h1,h2,h3⟩=>ih.1 ⟨j,?_,h2,h3⟩,fun h=>ih.2 fun⟨j,h1,h2,h3⟩=>h ⟨j,by omega,h2,h3⟩⟩
   rcases Nat.lt_or_eq_of_le h1 with h4 | h4
   ·
    exact h4
   ·
    subst h4;exact absurd h3 hb
theorem zk5 {l:List zd}(h:∀i,i<l.length→Yo l i=true):∀m,m≤l.length→jx l m=l.take m
 | 0,_=>by simp[jx]
 | m+1,hm=>by
  rw[jx,if_pos (h m (by omega)),zk5 h m (by omega),zS (by omega),List.take_succ_eq_append_getElem (by omega)]
theorem zrA {l:List zd}(h:JK l=0)(hn:¬∃i,1≤i∧i<l.length - 1∧Qg l i):jx l l.length=l:=by
 have hbad:=(YR.1 (YV.1 h).2).2
 rw[zk5 (fun i hi=>?_) _ (Nat.le_refl _)]
 ·
  simp
 ·
  unfold Yo
  by_cases c1:i=0
  ·
   simp[c1]
  ·
   by_cases c2:l.length≤i+1
   ·
    simp[c2]
   ·
    have b1:=hbad i (by omega) (by omega)
    have b2:=hbad (i+1) (by omega) (by omega)
    unfold YJ at b1 b2
    have e:((i+1:Nat):Int) - 1=(i:Int):=by omega
    have e':((i+1:Nat):Int)=(i:Int)+1:=by omega
    rw[e,e']at b2
    have:¬qo (gx l ((i:Int) - 1)) (gx l (i:Int))=qo (gx l (i:Int)) (gx l ((i:Int)+1)):=fun hw=>hn ⟨i,by omega,by omega,zqL b1 b2 hw⟩
    simp[this]
def qs (t:zA)(l:List zd):List zd:=(l.set 0 (yf t)).set (l.length - 1) (yi t)
structure zal (t:zA) (l:List zd):Prop where
 path:JK l=0
 first:gx l 0=t.From
 last:gx l ((l.length:Int) - 1)=t.To
 turns:∀i:Nat,1≤i→i<l.length - 1→¬Qg l i
 out:qo (gx l 0) (gx l 1)=tow t.FromSide
 in_:qo (gx l ((l.length:Int) - 2)) (gx l ((l.length:Int) - 1))=vv (tow t.ToSide)
 c1:t.Clear≤yy (gx l 0) (gx l 1)
 c2:t.Clear≤yy (gx l ((l.length:Int) - 2)) (gx l ((l.length:Int) - 1))
 c3:l.length=2→2*t.Clear≤yy (gx l 0) (gx l 1)
 marks:∀i:Nat,1≤i→i<l.length - 1→(gx l (i:Int)).X∈XL t∧(gx l (i:Int)).Y∈YL t
 free:∀i:Nat,1≤i→i<l.length→z8 t (gx (qs t l) ((i:Int) - 1)) (gx (qs t l) (i:Int))=false
def Rch (nx:zt→Int→Option (zt×Int))(fr tq q:zt)(b n:Int):Prop:=
 (∃l,Tr nx fr tq l q b n)∨∃l b' n',Tr nx fr tq l tq b' n'∧(b'<b∨(b'=b∧n'≤n))
theorem Rch.step {nx:zt→Int→Option (zt×Int)}{fr tq p q:zt}{b n b' n':Int}(h:Rch nx fr tq p b n)(hE:Edge nx tq p q b' n')(hb:0≤b')(hn:0≤n'):Rch nx fr tq q (b+b') (n+n'):=by
 rcases h with⟨l,h⟩ | ⟨l,b1,n1,h,hle⟩
 ·
  by_cases c:p=tq
  ·
   subst c
   exact .inr ⟨l,b,n,h,by omega⟩
  ·
   exact .inl ⟨_,.snoc h c hE⟩
 ·
  exact .inr ⟨l,b1,n1,h,by omega⟩
theorem Rch.to_ {nx:zt→Int→Option (zt×Int)}{fr tq:zt}{b n:Int}(h:Rch nx fr tq tq b n):∃l b' n',Tr nx fr tq l tq b' n'∧(b'<b∨(b'=b∧n'≤n)):=by
 rcases h with⟨l,h⟩ | h
 ·
  exact⟨l,b,n,h,by omega⟩
 ·
  exact h
def OnN (t:zA)(p:zt):Prop:=0≤p.x∧p.x<(XL t).length∧0≤p.y∧p.y<(YL t).length
theorem zi2 {x:List Int}(hs:x.Pairwise (· < ·)){a b:Int}(h0:0≤a)(h1:a≤b)(h2:b<x.length):gx x a≤gx x b:=by
 by_cases e:a=b
 ·
  rw[e];exact Int.le_refl _
 ·
  exact Int.le_of_lt (ju hs h0 (by omega) h2)
theorem zh1 {s:Int}(h1:1≤s)(h4:s≤4):s≠yq s:=by unfold yq;omega
theorem ziA (a b:zd):0≤yy a b:=by unfold yy;omega
theorem zhw {a b:Int}(a1:1≤a)(a4:a≤4)(b1:1≤b)(b4:b≤4)(h:tow a=tow b):a=b:=by
 have ha:a=1∨a=2∨a=3∨a=4:=by omega
 have hb:b=1∨b=2∨b=3∨b=4:=by omega
 rcases ha with rfl | rfl | rfl | rfl<;>rcases hb with rfl | rfl | rfl | rfl<;>first | rfl | (simp[tow]at h)
theorem zd1 {s:Int}(h1:1≤s)(h4:s≤4):vv (tow s)=tow (yq s):=by
 have hs:s=1∨s=2∨s=3∨s=4:=by omega
 rcases hs with rfl | rfl | rfl | rfl<;>rfl
theorem zbE {s:Int}(h1:1≤s)(h4:s≤4):1≤yq s∧yq s≤4:=by unfold yq;omega
theorem zbD {s:Int}(h1:1≤s)(h4:s≤4):yq (yq s)=s:=by unfold yq;omega
structure vB (t:zA) (fr tq:zt):Prop where
 fs:fr.side=t.FromSide
 ts:tq.side=yq t.ToSide
 fo:OnN t fr
 eo:OnN t tq
 fp:ptS t fr=yf t
 ep:ptS t tq=yi t
theorem zol {t:zA}{l:List zd}(hn:2≤l.length):gx (qs t l) 0=yf t∧gx (qs t l) ((l.length - 1:Nat):Int)=yi t∧∀i:Nat,1≤i→i<l.length - 1→gx (qs t l) (i:Int)=gx l (i:Int):=by
 unfold qs
 refine⟨?_,?_,fun i h1 h2=>?_⟩
 ·
  rw[show(0:Int)=((0:Nat):Int)from rfl,jS (by simp;omega),if_neg (by omega),jS (by omega),if_pos rfl]
 ·
  rw[jS (by simp;omega),if_pos rfl]
 ·
  rw[jS (by simp;omega),if_neg (by omega),jS (by omega),if_neg (by omega)]
theorem zl9 {l:List zd}(h:JK l=0):zcr l=some (jx l l.length):=by
 obtain⟨h1,h2⟩:=YV.1 h
 have hl:=(Yr.1 h1).1
 unfold zcr
 obtain⟨s,hs,hI⟩:=Y7 (n:=(l.length:Int)) (step:=zeq l) (s0:=([]:List zd)) (fun i s=>s=jx l i) (by omega) rfl (fun i s hi hI=>by
  subst hI
  have ht:=zhv l i
  have hi':i<l.length:=by omega
  refine⟨jx l (i+1),?_,rfl⟩
  unfold zeq
  have e3:W ((i:Int)+1)=(i:Int)+1:=Wk (by omega) (by omega)
  have e2:W ((i:Int) - 1)=(i:Int) - 1:=Wk (by omega) (by omega)
  rw[zo ⟨by omega,hi⟩]
  simp only[zG,e2,e3]
  have hroom:y9 ((jx l i).length+[gx l (i:Int)].length):=by rw[jd];simp;omega
  by_cases c1:0<i
  ·
   by_cases c2:i+1<l.length
   ·
    have g1:inR l ((i:Int) - 1):=⟨by omega,by omega⟩
    have g2:inR l (i:Int):=⟨by omega,by omega⟩
    have g3:inR l ((i:Int)+1):=⟨by omega,by omega⟩
    have d1:decide ((0:Int)<(i:Int))=true:=by simp;omega
    have d2:decide ((i:Int)+1<(l.length:Int))=true:=by simp;omega
    simp only[d1,d2,Bool.and_self,qC]
    rw[zo (fun _=>g1),ze2 (vM h1 g1) (vM h1 g2)]
    simp only[zq]
    rw[zo (fun _=>g3),ze2 (vM h1 g2) (vM h1 g3)]
    simp only[zq,Bool.true_and]
    rw[zo hroom]
    have hk:Yo l i=!decide (qo (gx l ((i:Int) - 1)) (gx l i)=qo (gx l i) (gx l ((i:Int)+1))):=by
     unfold Yo
     have c1:¬i=0:=by omega
     have c2:¬l.length≤i+1:=by omega
     simp[c1,c2]
    simp only[jx,hk]
    by_cases hw:qo (gx l ((i:Int) - 1)) (gx l i)=qo (gx l i) (gx l ((i:Int)+1))<;>simp[hw]
   ·
    have d2:decide ((i:Int)+1<(l.length:Int))=false:=by simp;omega
    have hk:Yo l i=true:=by
     have:l.length≤i+1:=by omega
     unfold Yo
     simp[this]
    simp only[d2,Bool.and_false,Jz,zq,Bool.false_and,cond_false]
    rw[zo (by simp),zo (by simp),zo hroom]
    simp[jx,hk]
  ·
   have d1:decide ((0:Int)<(i:Int))=false:=by simp;omega
   have hk:Yo l i=true:=by
    have:i=0:=by omega
    unfold Yo
    simp[this]
   simp only[d1,Bool.false_and,Jz,zq,cond_false]
   rw[zo (by simp),zo (by simp),zo hroom]
   simp[jx,hk])
 rw[hs]
 simp only[Int.toNat_natCast]at hI
 rw[hI];rfl
theorem zoD {l:List zd}(hl:l.length≤1000)(h2:2≤l.length):((∃i,1≤i∧i<l.length - 1∧Qg l i)→loop (Y0 l (l.length:Int)) 1=some (Res.ab false))∧((¬∃i,1≤i∧i<l.length - 1∧Qg l i)→loop (Y0 l (l.length:Int)) 1=some (Res.nx ())):=by
 have key:∀i:Nat,1≤i→i<l.length - 1→Y0 l (l.length:Int) (i:Int)=some (if Qg l i then .done (.ab false)else .again ((i:Int)+1)):=fun i a b=>by
  unfold Y0
  rw[Wk (n:=(i:Int) - 1) (by omega) (by omega),Wk (n:=(i:Int)+1) (by omega) (by omega)]
  have d:decide ((i:Int)+1<(l.length:Int))=true:=by rw[decide_eq_true_eq];omega
  simp only[d,cond_true,zG]
  rw[zo ⟨by omega,by omega⟩,zo ⟨by omega,by omega⟩,zo ⟨by omega,by omega⟩,zo ⟨by omega,by omega⟩]
  by_cases c:Qg l i
  ·
   have:decide (decide ((gx l ((i:Int) - 1)).X=(gx l (i:Int)).X)=decide ((gx l (i:Int)).X=(gx l ((i:Int)+1)).X))=true:=decide_eq_true c
   simp only[this,cond_true,if_pos c]
  ·
   have:decide (decide ((gx l ((i:Int) - 1)).X=(gx l (i:Int)).X)=decide ((gx l (i:Int)).X=(gx l ((i:Int)+1)).X))=false:=decide_eq_false c
   simp only[this,cond_false,if_neg c]
 have:=zgp (body:=Y0 l (l.length:Int)) 1 (l.length - 1) (Qg l) false (fun i a b c=>by rw[key i a b,if_pos c]) (fun i a b c=>by rw[key i a b,if_neg c]) (by
  unfold Y0
  rw[Wk (n:=((l.length - 1:Nat):Int)+1) (by omega) (by omega)]
  have d:decide (((l.length - 1:Nat):Int)+1<(l.length:Int))=false:=by rw[decide_eq_false_iff_not];omega
  simp only[d,cond_false]) (l.length - 2) 1 (by omega) (Nat.le_refl _)
 exact this
theorem zrS {t:zA}(h:yw t)(way:List zd)(hw:1≤way.length∧way.length≤1000):
  ((∃j,1≤j∧j<way.length∧z8 t (gx (qs t way) ((j:Int) - 1)) (gx (qs t way) (j:Int))=true)→loop (Y1 way (way.length:Int) t (yf t,yi t)) 1=some (Res.ab false))∧
  ((¬∃j,1≤j∧j<way.length∧z8 t (gx (qs t way) ((j:Int) - 1)) (gx (qs t way) (j:Int))=true)→loop (Y1 way (way.length:Int) t (yf t,yi t)) 1=some (Res.nx ())):=by
 have hin:(way.set (0:Int).toNat (yf t)).set (W ((way.length:Int) - 1)).toNat (yi t)=qs t way:=by
  unfold qs
  rw[Wk (by omega) (by omega),show((way.length:Int) - 1).toNat=way.length - 1 by omega];rfl
 have hl:(qs t way).length=way.length:=by simp[qs]
 have key:∀i:Nat,1≤i→i<way.length→Y1 way (way.length:Int) t (yf t,yi t) (i:Int)=some (if z8 t (gx (qs t way) ((i:Int) - 1)) (gx (qs t way) (i:Int))=true then .done (.ab false)else .again ((i:Int)+1)):=fun i a b=>by
  unfold Y1
  have d:decide ((i:Int)<(way.length:Int))=true:=by rw[decide_eq_true_eq];omega
  simp only[d,cond_true]
  rw[hin,Wk (n:=(i:Int) - 1) (by omega) (by omega),zo ⟨by omega,by rw[hl];omega⟩,zo ⟨by omega,by rw[hl];omega⟩,(zdc h _ _).1,zq,zG,Wk (by omega) (by omega)]
  cases z8 t (gx (qs t way) ((i:Int) - 1)) (gx (qs t way) (i:Int))<;>rfl
 exact zgp (body:=Y1 way (way.length:Int) t (yf t,yi t)) 1 way.length (fun i=>z8 t (gx (qs t way) ((i:Int) - 1)) (gx (qs t way) (i:Int))=true) false (fun i a b c=>by rw[key i a b,if_pos c]) (fun i a b c=>by rw[key i a b,if_neg c]) (by
  unfold Y1
  have d:decide ((way.length:Int)<(way.length:Int))=false:=by simp
  simp only[d,cond_false]) (way.length - 1) 1 (by omega) (Nat.le_refl _)
theorem zoK {t:zA}(h:yw t)(v:List zd)(hv:v.length≤1000):ya (v.length:Int) (zck v (XL t,YL t)) (fun s=>(Res.nx s:Res Unit Bool)) ()=some (if v.any (fun p=>!(decide (p.X∈XL t)&&decide (p.Y∈YL t)))=true then Res.ab false else Res.nx ()):=by
 have hX:=YH h
 have hY:=YI h
 rw[zgQ (fun p:zd=>!(decide (p.X∈XL t)&&decide (p.Y∈YL t))) (Res.ab false) (by omega) (fun i hi=>by
  unfold zck
  rw[zo hi]
  simp only[zG]
  obtain⟨a,b,e1,_,_,_,e2,_⟩:=YK (XL t) (gx v i).X (by omega) (jj _)
  obtain⟨a',b',e1',_,_,_,e2',_⟩:=YK (YL t) (gx v i).Y (by omega) (jj _)
  rw[e1,e1']
  simp only[zq]
  have h1:b=decide ((gx v i).X∈XL t):=by rw[Bool.eq_iff_iff,decide_eq_true_eq];exact e2
  have h2:b'=decide ((gx v i).Y∈YL t):=by rw[Bool.eq_iff_iff,decide_eq_true_eq];exact e2'
  rw[h1,h2]
  cases decide ((gx v i).X∈XL t)<;>cases decide ((gx v i).Y∈YL t)<;>rfl)]
theorem zlL {t:zA}{l:List zd}(ht:yw t)(hl:qB l=0):∃b,JN t l=some b∧(b=true↔zal t l):=by
  have hll:=(Yr.1 hl).1
  have c1:=ht.c1;have c2:=ht.c2
  have hR:=zlK (l:=l) (by omega)
  unfold JN
  rw[hR]
  simp only[zq,zG]
  cases hp:vI l with
  | false =>
    simp only[Bool.not_false,Bool.true_or,Bool.not_true,Jz,zq,cond_true]
    refine⟨false,?_,?_⟩
    · rw[zo (fun h=>by cases h),zo (fun h=>by cases h)]
    · refine⟨fun h=>(by cases h),fun h=>?_⟩
      have:=(YV.1 h.path).2
      rw[hp]at this;cases this
  | true =>
    have hpe:JK l=0:=YV.2 ⟨hl,hp⟩
    obtain⟨hn,hbad⟩:=YR.1 hp
    have en1:W ((l.length:Int) - 1)=(l.length:Int) - 1:=Wk (by omega) (by omega)
    have en2:W ((l.length:Int) - 2)=(l.length:Int) - 2:=Wk (by omega) (by omega)
    have g0:inR l 0:=⟨by omega,by omega⟩
    have g1:inR l 1:=⟨by omega,by omega⟩
    have gm:inR l ((l.length:Int) - 1):=⟨by omega,by omega⟩
    have gk:inR l ((l.length:Int) - 2):=⟨by omega,by omega⟩
    have o0:=vM hl g0;have o1:=vM hl g1;have om:=vM hl gm;have ok:=vM hl gk
    have n0:∀(p:Prop) (m:Option Bool),zl (p→inR l 0) m=m:=fun p m=>zo (fun _=>g0)
    have n1:∀(p:Prop) (m:Option Bool),zl (p→inR l 1) m=m:=fun p m=>zo (fun _=>g1)
    have nm:∀(p:Prop) (m:Option Bool),zl (p→inR l ((l.length:Int) - 1)) m=m:=fun p m=>zo (fun _=>gm)
    have nk:∀(p:Prop) (m:Option Bool),zl (p→inR l ((l.length:Int) - 2)) m=m:=fun p m=>zo (fun _=>gk)
    have m0:∀m:Option Bool,zl (inR l 0) m=m:=fun m=>zo g0
    have m1:∀m:Option Bool,zl (inR l 1) m=m:=fun m=>zo g1
    simp only[en1,en2,n0,n1,nm,nk,m0,m1,decide_true,Bool.not_true,Bool.false_or]
    cases cF:decide (gx l 0=t.From)with
    | false=>exact⟨false,by simp,fun h=>(by cases h),fun h=>absurd h.first (of_decide_eq_false cF)⟩
    | true=>
    cases cT:decide (gx l ((l.length:Int) - 1)=t.To)with
    | false=>exact⟨false,by simp,fun h=>(by cases h),fun h=>absurd h.last (of_decide_eq_false cT)⟩
    | true=>
    rw[zl9 hpe]
    simp only[Bool.not_true,Bool.not_false,Bool.or_self,qC,zq,cond_false,Bool.false_or]
    rw[zc1 _ _ (by have:=zhv l l.length;omega)]
    simp only[zq]
    obtain⟨q1,q2⟩:=zoD hll hn
    by_cases cf:∃i,1≤i∧i<l.length - 1∧Qg l i
    · rw[q1 cf]
      simp only[zan]
      refine⟨false,?_,fun h=>(by cases h),fun h=>?_⟩
      · cases decide (jx l l.length=l)<;>rfl
      · obtain⟨i,a,b,c⟩:=cf
        exact absurd c (h.turns i a b)
    · rw[q2 cf,zrA hpe cf]
      have hs1:=jI.1 ht.fs
      have hs2:=jI.1 ht.ts
      simp only[qd,decide_true,Bool.not_true,cond_false,zq]
      rw[zee ht.from_ ht.to_ (by omega) (by omega),J8,J8,ze2 o0 o1]
      simp only[zq]
      cases ca:decide (qo (gx l 0) (gx l 1)=tow t.FromSide)with
      | false=>exact⟨false,by simp,fun h=>(by cases h),fun h=>absurd h.out (of_decide_eq_false ca)⟩
      | true=>
      simp only[Bool.not_true,Bool.not_false,qC,zq,Bool.false_or]
      rw[ze2 om ok]
      simp only[zq]
      have hback:decide (qo (gx l ((l.length:Int) - 1)) (gx l ((l.length:Int) - 2))=tow t.ToSide)=decide (qo (gx l ((l.length:Int) - 2)) (gx l ((l.length:Int) - 1))=vv (tow t.ToSide)):=by
        rw[zrT (gx l ((l.length:Int) - 2)) (gx l ((l.length:Int) - 1)),decide_eq_decide]
        exact⟨fun h=>by rw[←h,opp_opp],fun h=>by rw[h,opp_opp]⟩
      rw[hback]
      cases cb:decide (qo (gx l ((l.length:Int) - 2)) (gx l ((l.length:Int) - 1))=vv (tow t.ToSide))with
      | false=>exact⟨false,by simp,fun h=>(by cases h),fun h=>absurd h.in_ (of_decide_eq_false cb)⟩
      | true=>
      simp only[Bool.not_true,cond_false]
      rw[zc2 o0 o1,zc2 ok om]
      have hW:W (2*t.Clear)=2*t.Clear:=Wk (by omega) (by omega)
      rw[hW,zhL hll,ziY ht]
      simp only[zq,m0]
      have gs:inR (l.set (0:Int).toNat (yf t)) ((l.length:Int) - 1):=⟨by omega,by simp;omega⟩
      have hss:vy l.length 1 ((l.length:Int) - 1):=⟨by omega,by omega,by omega⟩
      have ns:∀m:Option Bool,zl (inR (l.set (0:Int).toNat (yf t)) ((l.length:Int) - 1)) m=m:=fun m=>zo gs
      have nss:∀m:Option Bool,zl (vy l.length 1 ((l.length:Int) - 1)) m=m:=fun m=>zo hss
      simp only[ns,nss]
      have hsl:(seg l 1 ((l.length:Int) - 1)).length≤1000:=by unfold seg;simp;omega
      have hm:=zoK ht (seg l 1 ((l.length:Int) - 1)) hsl
      obtain⟨w1,w2⟩:=zrS ht l ⟨by omega,hll⟩
      change ya _ (zck _ (yr (xv t),yr (yv t))) _ _=_ at hm
      rw[hm]
      have mk:(seg l 1 ((l.length:Int) - 1)).any (fun p=>!(decide (p.X∈XL t)&&decide (p.Y∈YL t)))=true↔¬∀i:Nat,1≤i→i<l.length - 1→(gx l (i:Int)).X∈XL t∧(gx l (i:Int)).Y∈YL t:=by
        rw[List.any_eq_true]
        constructor
        · rintro⟨p,hp,hb⟩ hall
          obtain⟨k,hk,rfl⟩:=List.mem_iff_getElem.1 hp
          unfold seg at hk
          simp at hk
          have e:(seg l 1 ((l.length:Int) - 1))[k]=gx l ((k+1:Nat):Int):=by
            rw[zS (by omega)]
            simp[seg,Nat.add_comm]
          have:=hall (k+1) (by omega) (by omega)
          rw[e,decide_eq_true this.1,decide_eq_true this.2]at hb
          cases hb
        · intro hn'
          obtain⟨i,hi⟩:=Classical.not_forall.1 hn'
          obtain⟨h1,hi⟩:=Classical.not_imp.1 hi
          obtain⟨h2,h3⟩:=Classical.not_imp.1 hi
          refine⟨gx l (i:Int),?_,by
            simp only[Bool.not_eq_true',Bool.and_eq_false_iff,decide_eq_false_iff_not]
            by_cases hx:(gx l (i:Int)).X∈XL t
            · exact .inr (fun hy=>h3 ⟨hx,hy⟩)
            · exact .inl hx⟩
          rw[List.mem_iff_getElem]
          refine⟨i - 1,by unfold seg;simp;omega,?_⟩
          rw[zS (by omega)]
          simp only[seg,List.getElem_drop,List.getElem_take]
          congr 1
          have:(1:Int).toNat=1:=rfl
          omega
      have fin:∀(P:Prop),(zal t l↔P)→∀x:Option Bool,(∃b,x=some b∧(b=true↔P))→∃b,x=some b∧(b=true↔zal t l):=fun P h x ⟨b,h1,h2⟩=>⟨b,h1,h2.trans h.symm⟩
      have cFe:=of_decide_eq_true cF;have cTe:=of_decide_eq_true cT;have cae:=of_decide_eq_true ca;have cbe:=of_decide_eq_true cb
      refine fin (t.Clear≤yy (gx l 0) (gx l 1)∧t.Clear≤yy (gx l ((l.length:Int) - 2)) (gx l ((l.length:Int) - 1))∧(l.length=2→2*t.Clear≤yy (gx l 0) (gx l 1))∧(∀i:Nat,1≤i→i<l.length - 1→(gx l (i:Int)).X∈XL t∧(gx l (i:Int)).Y∈YL t)∧∀i:Nat,1≤i→i<l.length→z8 t (gx (qs t l) ((i:Int) - 1)) (gx (qs t l) (i:Int))=false)
        ⟨fun h=>⟨h.c1,h.c2,h.c3,h.marks,h.free⟩,fun⟨a,b,c,d,e⟩=>⟨hpe,cFe,cTe,fun i h1 h2 h3=>cf ⟨i,h1,h2,h3⟩,cae,cbe,a,b,c,d,e⟩⟩ _ ?_
      by_cases hA:yy (gx l 0) (gx l 1)<t.Clear
      · refine⟨false,?_,fun h=>(by cases h),fun h=>by have:=h.1;omega⟩
        by_cases a1:(l.length:Int)=2<;>by_cases a2:yy (gx l 0) (gx l 1)<2*t.Clear<;>simp[a1,a2,hA]
      · by_cases hB:yy (gx l ((l.length:Int) - 2)) (gx l ((l.length:Int) - 1))<t.Clear
        · refine⟨false,?_,fun h=>(by cases h),fun h=>by have:=h.2.1;omega⟩
          by_cases a1:(l.length:Int)=2<;>by_cases a2:yy (gx l 0) (gx l 1)<2*t.Clear
          · simp[a1,a2]
          · rw[decide_eq_true a1,qC,zq,decide_eq_false a2]
            simp only[Bool.and_false,Bool.not_false,qC,zq,Bool.false_or]
            rw[decide_eq_false hA]
            simp only[Bool.not_false,qC,zq,Bool.false_or]
            rw[decide_eq_true hB];rfl
          · simp[a1,a2,hA,hB]
          · simp[a1,a2,hA,hB]
        · by_cases hC:(l.length:Int)=2∧yy (gx l 0) (gx l 1)<2*t.Clear
          · refine⟨false,?_,fun h=>(by cases h),fun h=>by have:=h.2.2.1 (by omega);omega⟩
            simp[hC.1,hC.2]
          · have hcond:(decide ((l.length:Int)=2)&&decide (yy (gx l 0) (gx l 1)<2*t.Clear))=false:=by
              rw[Bool.eq_false_iff];simpa using hC
            have gg:∀m:Option Int,gd true m=m:=fun m=>rfl
            by_cases hM:∀i:Nat,1≤i→i<l.length - 1→(gx l (i:Int)).X∈XL t∧(gx l (i:Int)).Y∈YL t
            · by_cases hF:∃j,1≤j∧j<l.length∧z8 t (gx (qs t l) ((j:Int) - 1)) (gx (qs t l) (j:Int))=true
              · refine⟨false,?_,fun h=>(by cases h),fun h=>by
                  obtain⟨j,a,b,c⟩:=hF
                  rw[h.2.2.2.2 j a b]at c;cases c⟩
                rw[if_neg (fun h=>mk.1 h hM),w1 hF]
                cases h2:decide ((l.length:Int)=2)<;>cases h3:decide (yy (gx l 0) (gx l 1)<2*t.Clear)<;>simp[h2,h3,hA,hB]at hcond⊢
              · refine⟨true,?_,fun _=>⟨by omega,by omega,fun h=>by
                    have:¬yy (gx l 0) (gx l 1)<2*t.Clear:=fun hh=>hC ⟨by omega,hh⟩
                    omega,hM,fun i a b=>by
                    cases hz:z8 t (gx (qs t l) ((i:Int) - 1)) (gx (qs t l) (i:Int))with
                    | false=>rfl
                    | true=>exact absurd ⟨i,a,b,hz⟩ hF⟩,fun _=>rfl⟩
                rw[if_neg (fun h=>mk.1 h hM),w2 hF]
                cases h2:decide ((l.length:Int)=2)<;>cases h3:decide (yy (gx l 0) (gx l 1)<2*t.Clear)<;>simp[h2,h3,hA,hB]at hcond⊢
            · refine⟨false,?_,fun h=>(by cases h),fun h=>absurd h.2.2.2.1 hM⟩
              rw[if_pos (mk.2 hM)]
              cases h2:decide ((l.length:Int)=2)<;>cases h3:decide (yy (gx l 0) (gx l 1)<2*t.Clear)<;>simp[h2,h3,hA,hB]at hcond⊢
noncomputable def cor (t:zA):List zt→List zd
 | a::b::r=>(if b.side=a.side then []else [ptS t a])++cor t (b::r)
 | _=>[]
theorem zfz (t:zA)(a b:zt):∀l:List zt,cor t (l++[a,b])=cor t (l++[a])++(if b.side=a.side then []else [ptS t a])
 | []=>by simp[cor]
 | [x]=>by simp[cor]
 | x::y::l=>by
  have ih:=zfz t a b (y::l)
  simp only[List.cons_append,cor]at ih⊢
  rw[ih,List.append_assoc]
theorem Tr.last {nx:zt→Int→Option (zt×Int)}{fr tq q:zt}{l:List zt}{b n:Int}(h:Tr nx fr tq l q b n):∃l0,l=l0++[q]:=by
 cases h with
 | one=>exact⟨[],rfl⟩
 | snoc _ _ _=>exact⟨_,rfl⟩
theorem Tr.cor {t:zA}{nx:zt→Int→Option (zt×Int)}{fr tq p q:zt}{l:List zt}{b n:Int}(h:Tr nx fr tq l p b n):cor t (l++[q])=cor t l++(if q.side=p.side then []else [ptS t p]):=by
 obtain⟨l0,rfl⟩:=h.last
 have:=zfz t p q l0
 simpa using this
theorem Tr.all {s:yd}{nx:zt→Int→Option (zt×Int)}(hS:Sea s nx){fr tq q:zt}(hf:InS s fr)(ht:InS s tq){l:List zt}{b n:Int}(h:Tr nx fr tq l q b n):InS s q∧∀p∈l,InS s p:=by
 induction h with
 | one=>exact⟨hf,fun p hp=>by rw[List.mem_singleton.1 hp];exact hf⟩
 | snoc _ _ hE ih=>
  have hq:=zfE hS ih.1 ht hE
  refine⟨hq,fun p hp=>?_⟩
  rcases List.mem_append.1 hp with hp | hp
  ·
   exact ih.2 p hp
  ·
   rw[List.mem_singleton.1 hp];exact hq
theorem zmk {t:zA}{s:yd}(eX:s.xs=XL t)(eY:s.ys=YL t){way:List zt}(hw:∀p∈way,InS s p)(h1:1≤way.length)(hl:way.length≤10000000)(ok:Bool):loop (zcz s (way,ok)) ([t.From],1)=some ([t.From]++cor t way):=by
 have hcl:∀l:List zt,(cor t l).length≤l.length:=by
  intro l
  induction l with
  | nil=>simp[cor]
  | cons a r ih=>
   cases r with
   | nil=>simp[cor]
   | cons b r=>
    simp only[cor,List.length_append,List.length_cons]at ih⊢
    split<;>simp<;>omega
 obtain⟨e,he,rfl⟩:=ve (body:=zcz s (way,ok)) (s0:=([t.From],(1:Int))) (fun st=>∃i:Nat,st=([t.From]++cor t (way.take i),(i:Int))∧1≤i∧i≤way.length) (fun st=>(way.length - st.2).toNat) (fun e=>e=[t.From]++cor t way)
  ⟨1,by
   cases way with
   | nil=>simp at h1
   | cons a r=>simp[cor],Nat.le_refl _,h1⟩ (by
  rintro st ⟨i,rfl,i1,i2⟩
  unfold zcz
  simp only
  by_cases c:i=way.length
  ·
   right
   subst c
   exact⟨_,by rw[decide_eq_false (by omega),cond_false],by rw[List.take_length]⟩
  ·
   left
   have e1:gx way (i:Int)=way[i]:=zS (by omega)
   have e2:gx way ((i:Int) - 1)=way[i - 1]:=by rw[show(i:Int) - 1=((i - 1:Nat):Int)by omega];exact zS (by omega)
   have hp:=hw way[i - 1] (List.getElem_mem _)
   have hx:inR s.xs (way[i - 1]).x:=⟨hp.x0,hp.x1⟩
   have hy:inR s.ys (way[i - 1]).y:=⟨hp.y0,hp.y1⟩
   have hr:inR way (i:Int):=⟨by omega,by omega⟩
   have hr1:inR way ((i:Int) - 1):=⟨by omega,by omega⟩
   have hcor:cor t (way.take (i+1))=cor t (way.take i)++(if(way[i]).side=(way[i - 1]).side then []else [ptS t way[i - 1]]):=by
    have t1:way.take (i+1)=way.take (i - 1)++[way[i - 1],way[i]]:=by
     rw[List.take_succ_eq_append_getElem (by omega)]
     have:way.take i=way.take (i - 1)++[way[i - 1]]:=by
      have:=List.take_succ_eq_append_getElem (l:=way) (i:=i - 1) (by omega)
      rw[show i - 1+1=i by omega]at this
      exact this
     rw[this,List.append_assoc];rfl
    have t2:way.take i=way.take (i - 1)++[way[i - 1]]:=by
     have:=List.take_succ_eq_append_getElem (l:=way) (i:=i - 1) (by omega)
     rw[show i - 1+1=i by omega]at this
     exact this
    rw[t1,t2,zfz]
   have hroom:=hcl (way.take i)
   rw[List.length_take]at hroom
   rw[decide_eq_true (show((i:Nat):Int)<(way.length:Int)by omega),cond_true,zo hr,Wk (n:=(i:Int) - 1) (by omega) (by omega),zo hr1,e1,e2]
   by_cases cs:(way[i]).side=(way[i - 1]).side
   ·
    rw[decide_eq_true cs]
    simp only[Bool.not_true,cond_false,zq,zG]
    rw[Wk (by omega) (by omega)]
    exact⟨_,rfl,⟨i+1,by rw[hcor,if_pos cs,List.append_nil];simp,by omega,by omega⟩,by simp only;omega⟩
   ·
    rw[decide_eq_false cs]
    simp only[Bool.not_false,cond_true]
    rw[zo hr1,zo hx,zo hr1,zo hy,zo (by rw[jd];simp;omega),zq,zG,Wk (by omega) (by omega)]
    refine⟨_,rfl,⟨i+1,?_,by omega,by omega⟩,by simp only;omega⟩
    rw[hcor,if_neg cs]
    simp[ptS,eX,eY])
 exact he
inductive Cs (t:zA):List zd→zd→Int→Int→Prop
 | nil:Cs t [] (yf t) t.FromSide 0
 | snoc {C:List zd} {o c:zd} {s s' n e:Int}:Cs t C o s n→c.X=o.X+e*(tow s).X→c.Y=o.Y+e*(tow s).Y→0≤e→(C≠[]→0<e)→z8 t o c=false→c.X∈XL t→c.Y∈YL t→s'≠s→s'≠yq s→1≤s'→s'≤4→Cs t (C++[c]) c s' (n+e)
theorem zmp {t:zA}(h:yw t){a b c:zd}{s k l:Int}(h1:b.X=a.X+k*(tow s).X)(h2:b.Y=a.Y+k*(tow s).Y)(h3:c.X=b.X+l*(tow s).X)(h4:c.Y=b.Y+l*(tow s).Y)(hk:0≤k)(hl:0≤l)
  (f1:z8 t a b=false) (f2:z8 t b c=false):z8 t a c=false:=by
 rw[Bool.eq_false_iff]
 intro hx
 obtain⟨w,hw,hz⟩:=Qb.1 hx
 have hlt:=zlo h hw
 have:inZ (zn t w) a b∨inZ (zn t w) b c:=by
  unfold inZ at hz⊢
  rcases vX s with e | e | e | e<;>rw[e]at h1 h2 h3 h4<;>simp only at h1 h2 h3 h4<;>omega
 rcases this with hz | hz
 ·
  rw[Qb.2 ⟨w,hw,hz⟩]at f1;cases f1
 ·
  rw[Qb.2 ⟨w,hw,hz⟩]at f2;cases f2
theorem zmo {t:zA}{a b:zd}(f:z8 t a b=false):z8 t b b=false:=by
 rw[Bool.eq_false_iff]
 intro hx
 obtain⟨w,hw,hz⟩:=Qb.1 hx
 have:inZ (zn t w) a b:=by unfold inZ at hz⊢;omega
 rw[Qb.2 ⟨w,hw,this⟩]at f;cases f
theorem zrF {t:zA}(h:yw t){s:yd}(hS:Sea s (nxT t))(eX:s.xs=XL t)(eY:s.ys=YL t){fr tq:zt}(hE:vB t fr tq)(hf:InS s fr)(ht:InS s tq)(hfree:z8 t (yf t) (yf t)=false){l:List zt}{q:zt}{b n:Int}(htr:Tr (nxT t) fr tq l q b n):
  ∃o m k,Cs t (cor t l) o q.side m∧((cor t l).length:Int)=b∧(ptS t q).X=o.X+k*(tow q.side).X∧(ptS t q).Y=o.Y+k*(tow q.side).Y∧0≤k∧(cor t l≠[]→0<k∨q=tq)∧z8 t o (ptS t q)=false∧n=m+k:=by
 induction htr with
 | one=>exact⟨yf t,0,0,by rw[hE.fs];exact .nil,rfl,by rw[hE.fp];simp,by rw[hE.fp];simp,Int.le_refl _,fun hn=>absurd rfl hn,by rw[hE.fp];exact hfree,rfl⟩
 | @snoc l p b n q b' n' htr hne hEd ih=>
  obtain⟨o,m,k,i1,i2,i3,i4,i5,i6,i7,i8⟩:=ih
  have hp:=(htr.all hS hf ht).1
  have hmx:(ptS t p).X∈XL t:=qQ ⟨hp.x0,by rw[←eX];exact hp.x1⟩
  have hmy:(ptS t p).Y∈YL t:=qQ ⟨hp.y0,by rw[←eY];exact hp.y1⟩
  have hk:cor t l≠[]→0<k:=fun hn=>(i6 hn).resolve_right hne
  rw[htr.cor]
  rcases hEd with⟨side,s1,s4,hb,hn,hbb⟩ | ⟨rfl,hx,hy,hs,rfl,rfl⟩
  ·
   obtain⟨g1,g2,g3,g4⟩:=hS.ok p side q n' hp s1 s4 hn
   have hnx:=hn
   unfold nxT at hnx
   split at hnx
   ·
    rename_i hc
    obtain⟨hon,hblk⟩:=hc
    simp only[Option.some.injEq,Prod.mk.injEq]at hnx
    obtain⟨hq,hfar⟩:=hnx
    subst hq
    have hpo:OnN t p:=⟨hp.x0,by rw[←eX];exact hp.x1,hp.y0,by rw[←eY];exact hp.y1⟩
    have hline:(ptS t (sd p side)).X=(ptS t p).X+n'*(tow side).X∧(ptS t (sd p side)).Y=(ptS t p).Y+n'*(tow side).Y:=by
     have sx:=jj (xv t);have sy:=jj (yv t)
     change (XL t).Pairwise (· < ·)at sx
     change (YL t).Pairwise (· < ·)at sy
     obtain⟨p1,p2,p3,p4⟩:=hpo
     obtain⟨o1,o2,o3,o4⟩:=hon
     rw[←hfar]
     unfold yy ptS sd at *
     simp only at *
     rcases vX side with c | c | c | c<;>rw[c]at o1 o2 o3 o4⊢ <;>simp only[Int.mul_zero,Int.add_zero]at o1 o2 o3 o4⊢
     ·
      have:=ju sy (a:=p.y + -1) (b:=p.y) o3 (by omega) p4
      refine⟨?_,?_⟩<;>first | trivial | omega
     ·
      have:=ju sx (a:=p.x) (b:=p.x+1) p1 (by omega) o2
      refine⟨?_,?_⟩<;>first | trivial | omega
     ·
      have:=ju sy (a:=p.y) (b:=p.y+1) p3 (by omega) o4
      refine⟨?_,?_⟩<;>first | trivial | omega
     ·
      have:=ju sx (a:=p.x + -1) (b:=p.x) o1 (by omega) p2
      refine⟨?_,?_⟩<;>first | trivial | omega
    have hsd:(sd p side).side=side:=rfl
    by_cases cs:side=p.side
    ·
     subst cs
     rw[if_pos hsd,List.append_nil,hbb,if_pos rfl,Int.add_zero]
     refine⟨o,m,k+n',i1,i2,?_,?_,by omega,fun hn=>.inl (by have:=hk hn;omega),?_,by omega⟩
     ·
      rw[hline.1,i3,hsd,Int.add_mul];omega
     ·
      rw[hline.2,i4,hsd,Int.add_mul];omega
     ·
      exact zmp h i3 i4 hline.1 hline.2 i5 (by omega) i7 hblk
    ·
     rw[if_neg (by rw[hsd];exact cs),hbb,if_neg cs]
     refine⟨ptS t p,m+k,n',.snoc i1 i3 i4 i5 hk i7 hmx hmy cs hb s1 s4,by rw[List.length_append,List.length_singleton];omega,hline.1,hline.2,by omega,fun _=>.inl g3,hblk,by omega⟩
   ·
    cases hnx
  ·
   have hside:q.side≠p.side:=fun e=>hne (by cases p;cases q;simp_all)
   have hpt:ptS t q=ptS t p:=by unfold ptS;rw[hx,hy]
   rw[if_neg hside]
   refine⟨ptS t p,m+k,0,.snoc i1 i3 i4 i5 hk i7 hmx hmy hside (fun e=>hs (by rw[e,zbD hp.s1 hp.s4])) ht.s1 ht.s4,by rw[List.length_append,List.length_singleton];omega,by rw[hpt];simp,by rw[hpt];simp,Int.le_refl _,fun _=>.inr rfl,by rw[hpt];exact zmo i7,by omega⟩
theorem jF {A:List zd}{c:zd}{i:Nat}(h:i<A.length):gx (A++[c]) (i:Int)=gx A (i:Int):=by
 rw[zS (by simp;omega),zS h,List.getElem_append_left h]
theorem Qh {A:List zd}{c:zd}:gx (A++[c]) (A.length:Int)=c:=by
 rw[zS (by simp)];simp
theorem QF {A:List zd}{c:zd}{i:Nat}(h1:1≤i)(h:i≤A.length):gx (A++[c]) ((i:Int) - 1)=gx A ((i:Int) - 1):=by
 rw[show(i:Int) - 1=((i - 1:Nat):Int)by omega]
 exact jF (by omega)
theorem zgm {A:List zd}{c:zd}:∀i:Nat,i≤A.length→qR (A++[c]) i=qR A i
 | 0,_=>rfl
 | i+1,h=>by
  rw[qR,qR,zgm i (by omega)]
  by_cases e:i=0
  ·
   simp[e]
  ·
   rw[if_neg e,if_neg e,QF (by omega) (by omega),jF (by omega)]
theorem zbo {a b:zd}{s e:Int}(h0:0<e)(h1:b.X=a.X+e*(tow s).X)(h2:b.Y=a.Y+e*(tow s).Y):qo a b=tow s∧yy a b=e∧¬decide (b.X=a.X)=decide (b.Y=a.Y):=by
 rw[decide_eq_decide]
 unfold qo sg yy
 rcases vX s with c | c | c | c<;>rw[c]at h1 h2⊢ <;>simp only at h1 h2<;>(simp only[zd.mk.injEq];omega)
structure zc8 (t:zA) (A:List zd) (σ:Nat→Int) (o:zd) (s m:Int):Prop where
 ne:1≤A.length
 first:gx A 0=t.From
 ok:∀p∈A,okP p
 leg:∀i:Nat,1≤i→i<A.length→∃e,0<e∧(gx A (i:Int)).X=(gx A ((i:Int) - 1)).X+e*(tow (σ i)).X∧(gx A (i:Int)).Y=(gx A ((i:Int) - 1)).Y+e*(tow (σ i)).Y
 sd:∀i:Nat,1≤i→i≤A.length→1≤σ i∧σ i≤4
 perp:∀i:Nat,1≤i→i<A.length→σ (i+1)≠σ i∧σ (i+1)≠yq (σ i)
 s1:σ 1=t.FromSide
 sl:σ A.length=s
 c1:1<A.length→t.Clear≤yy (gx A 0) (gx A 1)
 marks:∀i:Nat,1≤i→i<A.length→(gx A (i:Int)).X∈XL t∧(gx A (i:Int)).Y∈YL t
 free:∀i:Nat,1≤i→i<A.length→z8 t (if i=1 then yf t else gx A ((i:Int) - 1)) (gx A (i:Int))=false
 len:qR A A.length=m+(if A.length=1 then 0 else t.Clear)
 lo:o=if A.length=1 then yf t else gx A ((A.length:Int) - 1)
theorem zc8.from_ {t:zA}{A:List zd}{σ:Nat→Int}{o:zd}{s m:Int}(h:zc8 t A σ o s m){c:zd}{e:Int}(hx:c.X=o.X+e*(tow s).X)(hy:c.Y=o.Y+e*(tow s).Y):
  c.X=(gx A ((A.length:Int) - 1)).X+(e+if A.length=1 then t.Clear else 0)*(tow s).X∧c.Y=(gx A ((A.length:Int) - 1)).Y+(e+if A.length=1 then t.Clear else 0)*(tow s).Y:=by
 have hl:=h.lo
 by_cases c1:A.length=1
 ·
  rw[if_pos c1]at hl
  have hs:s=t.FromSide:=by rw[←h.sl,c1,h.s1]
  rw[if_pos c1,show(A.length:Int) - 1=0 by omega,h.first,hx,hy,hl,hs]
  unfold yf Ju
  rcases vX t.FromSide with c | c | c | c<;>rw[c]<;>simp only<;>omega
 ·
  rw[if_neg c1]at hl
  rw[if_neg c1,←hl,Int.add_zero]
  exact⟨hx,hy⟩
theorem zou {t:zA}(h:yw t){C:List zd}{o:zd}{s m:Int}(hc:Cs t C o s m):∃σ,zc8 t (t.From::C) σ o s m:=by
 have hcl:=h.c1
 induction hc with
 | nil=>
  have hs1:=jI.1 h.fs
  exact⟨fun _=>t.FromSide,⟨by simp,rfl,fun p hp=>by rw[List.mem_singleton.1 hp];exact h.from_,fun i a b=>by simp at b;omega,fun i _ _=>hs1,fun i a b=>by simp at b;omega,rfl,rfl,fun hh=>by simp at hh,fun i a b=>by simp at b;omega,fun i a b=>by simp at b;omega,by simp[qR],by simp⟩⟩
 | @snoc C o c s s' m e hcs hx hy he hpos hb mx my n1 n2 s1 s4 ih=>
  obtain⟨σ,L⟩:=ih
  have hlen:(t.From::(C++[c])).length=(t.From::C).length+1:=by simp
  have hA:t.From::(C++[c])=(t.From::C)++[c]:=rfl
  generalize hAe:t.From::C=A at *
  have hC:C=[]↔A.length=1:=by rw[←hAe];cases C<;>simp
  obtain⟨fx,fy⟩:=L.from_ hx hy
  have hpos2:0<e+if A.length=1 then t.Clear else 0:=by
   by_cases c1:A.length=1
   ·
    rw[if_pos c1];omega
   ·
    rw[if_neg c1];have:=hpos (fun hh=>c1 (hC.1 hh));omega
  generalize hE:(e+if A.length=1 then t.Clear else 0)=E at *
  have hw:=zbo hpos2 fx fy
  have hne:=L.ne
  rw[hA]
  have hl2:(A++[c]).length=A.length+1:=by simp
  obtain⟨τ,σe,σl⟩:∃τ:Nat→Int,(∀i:Nat,i≤A.length→τ i=σ i)∧τ (A.length+1)=s':=⟨fun j=>if j=A.length+1 then s' else σ j,fun i hi=>if_neg (by omega),if_pos rfl⟩
  have okc:okP c:=by
   obtain⟨k,hk⟩:=List.mem_iff_getElem.1 mx
   obtain⟨k',hk'⟩:=List.mem_iff_getElem.1 my
   obtain⟨k,hk,ek⟩:=List.mem_iff_getElem.1 mx
   obtain⟨k',hk',ek'⟩:=List.mem_iff_getElem.1 my
   have h1:=vH (at_:=xv t) (k:=(k:Int)) ⟨by omega,by exact_mod_cast hk⟩
   have h2:=vH (at_:=yv t) (k:=(k':Int)) ⟨by omega,by exact_mod_cast hk'⟩
   change -1000000≤gx (XL t) (k:Int)∧gx (XL t) (k:Int)≤1000000 at h1
   change -1000000≤gx (YL t) (k':Int)∧gx (YL t) (k':Int)≤1000000 at h2
   rw[zS hk]at h1
   rw[zS hk']at h2
   rw[ek]at h1
   rw[ek']at h2
   unfold okP
   exact⟨h1.1,h1.2,h2.1,h2.2⟩
  refine⟨τ,?_⟩
  refine⟨by omega,?_,?_,fun i a b=>?_,fun i a b=>?_,fun i a b=>?_,?_,?_,fun hh=>?_,fun i a b=>?_,fun i a b=>?_,?_,?_⟩
  ·
   rw[show(0:Int)=((0:Nat):Int)from rfl,jF (by omega)];exact L.first
  ·
   intro p hp
   rcases List.mem_append.1 hp with hp | hp
   ·
    exact L.ok p hp
   ·
    rw[List.mem_singleton.1 hp];exact okc
  ·
   rw[hl2]at b
   rw[σe i (by omega)]
   by_cases ci:i<A.length
   ·
    rw[jF ci,QF a (by omega)];exact L.leg i a ci
   ·
    obtain rfl:i=A.length:=by omega
    rw[Qh,QF a (Nat.le_refl _),L.sl]
    exact⟨E,hpos2,fx,fy⟩
  ·
   rw[hl2]at b
   by_cases ci:i≤A.length
   ·
    rw[σe i ci];exact L.sd i a ci
   ·
    rw[show i=A.length+1 by omega,σl];exact⟨s1,s4⟩
  ·
   rw[hl2]at b
   by_cases ci:i<A.length
   ·
    rw[σe i (by omega),σe (i+1) (by omega)];exact L.perp i a ci
   ·
    obtain rfl:i=A.length:=by omega
    rw[σe A.length (Nat.le_refl _),L.sl,σl]
    exact⟨n1,n2⟩
  ·
   rw[σe 1 (by omega)];exact L.s1
  ·
   rw[hl2];exact σl
  ·
   by_cases ci:1<A.length
   ·
    rw[show(0:Int)=((0:Nat):Int)from rfl,show(1:Int)=((1:Nat):Int)from rfl,jF (by omega),jF ci];exact L.c1 ci
   ·
    have c1:A.length=1:=by omega
    have e0:gx (A++[c]) 0=gx A 0:=by rw[show(0:Int)=((0:Nat):Int)from rfl,jF (by omega)]
    have e1:gx (A++[c]) 1=c:=by
     have:=Qh (A:=A) (c:=c)
     rw[c1]at this;exact this
    rw[show(A.length:Int) - 1=0 by omega]at hw
    rw[e0,e1,hw.2.1,←hE,if_pos c1];omega
  ·
   rw[hl2]at b
   by_cases ci:i<A.length
   ·
    rw[jF ci];exact L.marks i a ci
   ·
    obtain rfl:i=A.length:=by omega
    rw[Qh];exact⟨mx,my⟩
  ·
   rw[hl2]at b
   by_cases ci:i<A.length
   ·
    rw[jF ci,QF a (by omega)];exact L.free i a ci
   ·
    obtain rfl:i=A.length:=by omega
    rw[Qh,QF a (Nat.le_refl _),←L.lo];exact hb
  ·
   rw[hl2,zje (by omega),zgm A.length (Nat.le_refl _),L.len,QF hne (Nat.le_refl _),Qh,hw.2.1,if_neg (show ¬A.length+1=1 by omega),←hE]
   split<;>omega
  ·
   rw[hl2,if_neg (by omega),show((A.length+1:Nat):Int) - 1=(A.length:Int)by omega,Qh]
theorem zrU {t:zA}(h:yw t){A:List zd}{σ:Nat→Int}{o:zd}{m k:Int}(L:zc8 t A σ o (yq t.ToSide) m)(hx:(yi t).X=o.X+k*(tow (yq t.ToSide)).X)(hy:(yi t).Y=o.Y+k*(tow (yq t.ToSide)).Y)(hk:0≤k)(hb:z8 t o (yi t)=false)(hlen:A.length≤999):
  zal t (A++[t.To])∧qR (A++[t.To]) (A++[t.To]).length=m+k+2*t.Clear:=by
 have hcl:=h.c1
 have hs2:=jI.1 h.ts
 have hne:=L.ne
 obtain⟨fx,fy⟩:=L.from_ hx hy
 have hto:t.To.X=(yi t).X+t.Clear*(tow (yq t.ToSide)).X∧t.To.Y=(yi t).Y+t.Clear*(tow (yq t.ToSide)).Y:=by
  rw[←zd1 hs2.1 hs2.2]
  unfold yi Ju vv
  rcases vX t.ToSide with c | c | c | c<;>rw[c]<;>simp only<;>omega
 have hE:∃E,E=k+(if A.length=1 then t.Clear else 0)+t.Clear:=⟨_,rfl⟩
 obtain⟨E,hE⟩:=hE
 have hE0:0<E:=by rw[hE];split<;>omega
 have gX:t.To.X=(gx A ((A.length:Int) - 1)).X+E*(tow (yq t.ToSide)).X:=by rw[hto.1,fx,hE,Int.add_mul _ t.Clear];omega
 have gY:t.To.Y=(gx A ((A.length:Int) - 1)).Y+E*(tow (yq t.ToSide)).Y:=by rw[hto.2,fy,hE,Int.add_mul _ t.Clear];omega
 have hw:=zbo hE0 gX gY
 have hl2:(A++[t.To]).length=A.length+1:=by simp
 have legs:∀i:Nat,1≤i→i<A.length+1→∃e,0<e∧(gx (A++[t.To]) (i:Int)).X=(gx (A++[t.To]) ((i:Int) - 1)).X+e*(tow (σ i)).X∧(gx (A++[t.To]) (i:Int)).Y=(gx (A++[t.To]) ((i:Int) - 1)).Y+e*(tow (σ i)).Y:=fun i a b=>by
  by_cases ci:i<A.length
  ·
   rw[jF ci,QF a (by omega)];exact L.leg i a ci
  ·
   obtain rfl:i=A.length:=by omega
   rw[Qh,QF a (Nat.le_refl _),L.sl]
   exact⟨E,hE0,gX,gY⟩
 have hpath:JK (A++[t.To])=0:=YV.2 ⟨Yr.2 ⟨by rw[hl2];omega,fun p hp=>by
   rcases List.mem_append.1 hp with hp | hp
   ·
    exact L.ok p hp
   ·
    rw[List.mem_singleton.1 hp];exact h.to_⟩,YR.2 ⟨by rw[hl2];omega,fun i a b=>by
   obtain⟨e,e0,ex,ey⟩:=legs i a (by rw[hl2]at b;exact b)
   exact(zbo e0 ex ey).2.2⟩⟩
 have e0:gx (A++[t.To]) 0=gx A 0:=by rw[show(0:Int)=((0:Nat):Int)from rfl,jF (by omega)]
 have eN:gx (A++[t.To]) (((A++[t.To]).length:Int) - 1)=t.To:=by
  rw[hl2,show((A.length+1:Nat):Int) - 1=(A.length:Int)by omega];exact Qh
 have eM:gx (A++[t.To]) (((A++[t.To]).length:Int) - 2)=gx A ((A.length:Int) - 1):=by
  rw[hl2,show((A.length+1:Nat):Int) - 2=(A.length:Int) - 1 by omega];exact QF hne (Nat.le_refl _)
 obtain⟨i0,i1,i2⟩:=zol (t:=t) (l:=A++[t.To]) (by rw[hl2];omega)
 refine⟨⟨hpath,by rw[e0];exact L.first,eN,fun i a b hf=>?_,?_,?_,?_,?_,fun c2=>?_,fun i a b=>?_,fun i a b=>?_⟩,?_⟩
 ·
  rw[hl2]at b
  obtain⟨p1,p2⟩:=L.perp i a (by omega)
  obtain⟨e,z0,ex,ey⟩:=legs i a (by omega)
  obtain⟨e',z0',ex',ey'⟩:=legs (i+1) (by omega) (by omega)
  rw[show(((i+1:Nat):Int) - 1)=(i:Int)by omega,show((i+1:Nat):Int)=(i:Int)+1 by omega]at ex' ey'
  obtain⟨w1,_,w3⟩:=zbo z0 ex ey
  obtain⟨w1',_,w3'⟩:=zbo z0' ex' ey'
  have hsi:=L.sd i a (by omega)
  have hsj:=L.sd (i+1) (by omega) (by omega)
  rcases(zlc w3 w3').2 hf with hh | hh
  ·
   rw[w1,w1']at hh
   exact p1 (zhw hsj.1 hsj.2 hsi.1 hsi.2 hh.symm)
  ·
   rw[w1,w1']at hh
   have hbk:=zbE hsj.1 hsj.2
   rw[zd1 hsj.1 hsj.2]at hh
   have:=zhw hsi.1 hsi.2 hbk.1 hbk.2 hh
   exact p2 (by rw[this,zbD hsj.1 hsj.2])
 ·
  obtain⟨e,z0,ex,ey⟩:=legs 1 (Nat.le_refl _) (by omega)
  rw[L.s1]at ex ey
  exact(zbo z0 ex ey).1
 ·
  rw[eN,eM,zd1 hs2.1 hs2.2];exact hw.1
 ·
  by_cases ci:1<A.length
  ·
   rw[e0,show(1:Int)=((1:Nat):Int)from rfl,jF ci];exact L.c1 ci
  ·
   have c1:A.length=1:=by omega
   have e1:gx (A++[t.To]) 1=t.To:=by
    have:=Qh (A:=A) (c:=t.To)
    rw[c1]at this;exact this
   rw[show(A.length:Int) - 1=0 by omega]at hw
   rw[e0,e1,hw.2.1,hE,if_pos c1];omega
 ·
  rw[eN,eM,hw.2.1,hE];split<;>omega
 ·
  have c1:A.length=1:=by omega
  have e1:gx (A++[t.To]) 1=t.To:=by
   have:=Qh (A:=A) (c:=t.To)
   rw[c1]at this;exact this
  rw[show(A.length:Int) - 1=0 by omega]at hw
  rw[e0,e1,hw.2.1,hE,if_pos c1];omega
 ·
  rw[hl2]at b
  rw[jF (by omega)];exact L.marks i a (by omega)
 ·
  rw[hl2]at b i1 i2
  by_cases ci:i<A.length
  ·
   rw[i2 i a (by omega),jF ci]
   have hf:=L.free i a ci
   by_cases c1:i=1
   ·
    rw[if_pos c1]at hf
    rw[show(i:Int) - 1=0 by omega,i0];exact hf
   ·
    rw[if_neg c1]at hf
    rw[show(i:Int) - 1=((i - 1:Nat):Int)by omega,i2 (i - 1) (by omega) (by omega),jF (by omega),show((i - 1:Nat):Int)=(i:Int) - 1 by omega];exact hf
  ·
   obtain rfl:i=A.length:=by omega
   rw[show A.length+1 - 1=A.length by omega]at i1 i2
   rw[i1]
   have hlo:=L.lo
   by_cases c1:A.length=1
   ·
    rw[if_pos c1]at hlo
    rw[show(A.length:Int) - 1=0 by omega,i0,←hlo];exact hb
   ·
    rw[if_neg c1]at hlo
    rw[show(A.length:Int) - 1=((A.length - 1:Nat):Int)by omega,i2 (A.length - 1) (by omega) (by omega),jF (by omega),show((A.length - 1:Nat):Int)=(A.length:Int) - 1 by omega,←hlo];exact hb
 ·
  rw[hl2,zje (by omega),zgm A.length (Nat.le_refl _),L.len,QF hne (Nat.le_refl _),Qh,hw.2.1,hE]
  split<;>omega
theorem zaE {at_:List Int}{v:Int}(h:v∈at_)(h1: -1000000≤v)(h2:v≤1000000):v∈yr at_:=zdx.2 ⟨v,h,zda.2 ⟨h1,h2,by omega,by omega⟩⟩
theorem zk1 {t:zA}(h:yw t){s:yd}(eX:s.xs=XL t)(eY:s.ys=YL t){p:zd}(hx:p.X∈XL t)(hy:p.Y∈YL t)(side:Int):∃q,zbb s p side=some q∧OnN t q∧ptS t q=p∧q.side=side:=by
 obtain⟨a,ab,e1,_,_,_,_,g1⟩:=YK (XL t) p.X (by have:=YH h;omega) (jj _)
 obtain⟨b,bb,e2,_,_,_,_,g2⟩:=YK (YL t) p.Y (by have:=YI h;omega) (jj _)
 obtain⟨a1,a2⟩:=g1 hx
 obtain⟨b1,b2⟩:=g2 hy
 unfold zbb
 simp only[zG]
 rw[eX,eY,e1,e2]
 exact⟨⟨(a:Int),(b:Int),side⟩,rfl,⟨by simp,by simp only;omega,by simp,by simp only;omega⟩,by unfold ptS;simp only;rw[a2,b2],rfl⟩
structure zbw (t:zA) (fr tq:zt) (way:List zt) (b n:Int):Prop where
 tr:Tr (nxT t) fr tq way tq b n
 least:∀l' b' n',Tr (nxT t) fr tq l' tq b' n'→b<b'∨(b=b'∧n≤n')
 cs:∃o m k,Cs t (cor t way) o tq.side m∧((cor t way).length:Int)=b∧(yi t).X=o.X+k*(tow tq.side).X∧(yi t).Y=o.Y+k*(tow tq.side).Y∧0≤k∧z8 t o (yi t)=false∧n=m+k
theorem zl6 {t:zA}(h:yw t)(hc:QZ t=0)(hwl:(t.Walls.length:Int)≤9223372036854775807):∃fr tq,vB t fr tq∧∃r,Y9 t=some r∧
    ((r=([],10)∧(z8 t (yf t) (yf t)=true∨z8 t (yi t) (yi t)=true∨∀l b n,¬Tr (nxT t) fr tq l tq b n))∨
     (z8 t (yf t) (yf t)=false∧z8 t (yi t) (yi t)=false∧∃way b n,zbw t fr tq way b n∧r=(t.From::cor t way++[t.To],0))):=by
  have hs1:=jI.1 h.fs
  have hs2:=jI.1 h.ts
  have hb:=zbE hs2.1 hs2.2
  have hst:=h.start;have hen:=h.end_
  unfold okP at hst hen
  obtain⟨s,hs,eX,eY,hS⟩:=zeL h
  have m1:(yf t).X∈XL t:=zaE (by unfold xv;simp) (by omega) (by omega)
  have m2:(yf t).Y∈YL t:=zaE (by unfold yv;simp) (by omega) (by omega)
  have m3:(yi t).X∈XL t:=zaE (by unfold xv;simp) (by omega) (by omega)
  have m4:(yi t).Y∈YL t:=zaE (by unfold yv;simp) (by omega) (by omega)
  obtain⟨fr,f1,f2,f3,f4⟩:=zk1 h eX eY m1 m2 t.FromSide
  obtain⟨tq,g1,g2,g3,g4⟩:=zk1 h eX eY m3 m4 (yq t.ToSide)
  have hE:vB t fr tq:=⟨f4,g4,f2,g2,f3,g3⟩
  have inF:InS s fr:=⟨f2.1,by rw[eX];exact f2.2.1,f2.2.2.1,by rw[eY];exact f2.2.2.2,by rw[f4];exact hs1.1,by rw[f4];exact hs1.2⟩
  have inT:InS s tq:=⟨g2.1,by rw[eX];exact g2.2.1,g2.2.2.1,by rw[eY];exact g2.2.2.2,by rw[g4];exact hb.1,by rw[g4];exact hb.2⟩
  refine⟨fr,tq,hE,?_⟩
  have c1:=h.c1;have c2:=h.c2
  unfold Y9
  rw[zeF hwl,zq,hc]
  simp only[decide_true,Bool.not_true,cond_false]
  rw[zfG h.from_ h.to_ h.fs h.ts (by omega) (by omega),zq,zhJ h,zq,ziT h,zq,ziT h]
  cases b1:z8 t (yf t) (yf t)with
  | true=>exact⟨_,by simp,.inl ⟨rfl,.inl rfl⟩⟩
  | false=>
  cases b2:z8 t (yi t) (yi t)with
  | true=>exact⟨_,by simp,.inl ⟨rfl,.inr (.inl rfl)⟩⟩
  | false=>
  simp only[Bool.not_false,Bool.not_true,qC,zq,Bool.or_self,cond_false]
  rw[hs,zq,zq,f1,zq,zfo hs2.1 hs2.2,zq,g1,zq]
  obtain⟨e,he,hg⟩:=zng hS inF inT
  rw[he,zq]
  rcases hg with⟨rfl,hn⟩ | ⟨way,b,n,rfl,htr,hwlen,hmin⟩
  · exact⟨_,rfl,.inl ⟨rfl,.inr (.inr hn)⟩⟩
  · simp only[Bool.not_true,cond_false,zG]
    obtain⟨l0,hl0⟩:=htr.last
    have hall:=(htr.all hS inF inT).2
    rw[zmk eX eY hall (by rw[hl0];simp) (by omega) true,zq]
    have hcl:(cor t way).length≤way.length:=by
      have:∀l:List zt,(cor t l).length≤l.length:=by
        intro l
        induction l with
        | nil=>simp[cor]
        | cons a r ih =>
          cases r with
          | nil=>simp[cor]
          | cons b r =>
            simp only[cor,List.length_append,List.length_cons]at ih⊢
            split<;>simp<;>omega
      exact this way
    rw[zo (by rw[jd];simp;omega)]
    obtain⟨o,m,k,i1,i2,i3,i4,i5,_,i7,i8⟩:=zrF h hS eX eY hE inF inT b1 htr
    rw[g3]at i3 i4 i7
    exact⟨_,rfl,.inr ⟨trivial,trivial,way,b,n,⟨htr,hmin,o,m,k,i1,i2,i3,i4,i5,i7,i8⟩,by simp⟩⟩
theorem zbw.right {t:zA}(h:yw t){fr tq:zt}(hE:vB t fr tq){way:List zt}{b n:Int}(hF:zbw t fr tq way b n)(hb:b≤998):zal t (t.From::cor t way++[t.To])∧((t.From::cor t way++[t.To]).length:Int)=b+2∧
  qR (t.From::cor t way++[t.To]) (t.From::cor t way++[t.To]).length=n+2*t.Clear:=by
 obtain⟨o,m,k,i1,i2,i3,i4,i5,i7,i8⟩:=hF.cs
 rw[hE.ts]at i1 i3 i4
 obtain⟨σ,L⟩:=zou h i1
 obtain⟨w1,w2⟩:=zrU h L i3 i4 i5 i7 (by simp;omega)
 refine⟨w1,by simp;omega,?_⟩
 rw[w2];omega
end Go.DB
namespace Go.DB.Lev
section
inductive Dir
 | no | ea | so | we
 deriving DecidableEq
abbrev Pos:=Int×Int
def dx:Dir→Int
 | .ea=>1
 | .we=> -1
 | _=>0
def dy:Dir→Int
 | .no=> -1
 | .so=>1
 | _=>0
def opp:Dir→Dir
 | .no=>.so
 | .so=>.no
 | .we=>.ea
 | .ea=>.we
def perp (a b:Dir):Prop:=a≠b∧a≠opp b
def mv (p:Pos)(d:Dir)(k:Int):Pos:=(p.1+k*dx d,p.2+k*dy d)
theorem opp_opp (d:Dir):opp (opp d)=d:=by cases d<;>rfl
theorem perp_symm {a b:Dir}(h:perp a b):perp b a:=by
 revert h;unfold perp;cases a<;>cases b<;>decide
theorem perp_opp {a b:Dir}(h:perp a b):perp (opp a) b:=by
 revert h;unfold perp;cases a<;>cases b<;>decide
theorem perp_opp' {a b:Dir}(h:perp a b):perp a (opp b):=by
 revert h;unfold perp;cases a<;>cases b<;>decide
theorem perp_two {a b c:Dir}(h:perp a b)(h':perp a c):b=c∨b=opp c:=by
 revert h h';unfold perp;cases a<;>cases b<;>cases c<;>decide
theorem mv_mv (p:Pos)(d:Dir)(a b:Int):mv (mv p d a) d b=mv p d (a+b):=by
 unfold mv;cases d<;>simp[dx,dy]<;>omega
theorem mv_opp (p:Pos)(d:Dir)(k:Int):mv p (opp d) k=mv p d (-k):=by
 unfold mv;cases d<;>simp[dx,dy,opp]
theorem mv_zero (p:Pos)(d:Dir):mv p d 0=p:=by
 unfold mv;simp
theorem mv_comm (p:Pos)(d e:Dir)(a b:Int):mv (mv p d a) e b=mv (mv p e b) d a:=by
 unfold mv;simp only[Prod.mk.injEq];omega
theorem mv_back {p q:Pos}{d:Dir}{k:Int}(h:q=mv p d k):p=mv q (opp d) k:=by
 rw[h,mv_opp,mv_mv]
 rw[show k + -k=0 by omega,mv_zero]
structure Net where
 fr:Pos→Dir→Prop
 sym:∀p d,fr p d→fr (mv p d 1) (opp d)
 cor:Pos→Dir→Dir→Prop
 cell:∀u a e,perp a e→fr u a→fr u e→cor u a e∨(fr (mv u a 1) e∧fr (mv u e 1) a)
 s:Pos
 g:Dir
inductive Net.R (N:Net):Nat→Pos→Dir→Prop
 | ini (n:Nat):Net.R N n N.s N.g
 | go {n:Nat} {p:Pos} {d:Dir}:Net.R N n p d→N.fr p d→Net.R N n (mv p d 1) d
 | tn {n:Nat} {p:Pos} {d e:Dir}:Net.R N n p d→perp d e→N.fr p e→Net.R N (n+1) (mv p e 1) e
theorem Net.R.mono {N:Net}{n:Nat}{p:Pos}{d:Dir}(h:N.R n p d):∀{m:Nat},n≤m→N.R m p d:=by
 induction h with
 | ini n=>exact fun _=>.ini _
 | go _ f ih=>exact fun h=>.go (ih h) f
 | tn _ p f ih=>
  intro m h
  obtain⟨k,rfl⟩:∃k,m=k+1:=⟨m - 1,by omega⟩
  exact .tn (ih (by omega)) p f
def Net.Fr (N:Net)(p:Pos)(d:Dir)(k:Nat):Prop:=∀t:Nat,t<k→N.fr (mv p d t) d
theorem Net.Fr.one {N:Net}{p:Pos}{d:Dir}{k:Nat}(h:N.Fr p d k)(hk:0<k):N.fr p d:=by
 have:=h 0 hk
 rwa [show((0:Nat):Int)=0 from rfl,mv_zero]at this
theorem Net.Fr.sub {N:Net}{p:Pos}{d:Dir}{k:Nat}(h:N.Fr p d k)(a:Nat){b:Nat}(hb:a+b≤k):N.Fr (mv p d a) d b:=fun t ht=>by
 rw[mv_mv]
 have:=h (a+t) (by omega)
 rwa [show((a+t:Nat):Int)=(a:Int)+t by omega]at this
theorem Net.Fr.back {N:Net}{p q:Pos}{d:Dir}{k:Nat}(h:N.Fr p d k)(hq:q=mv p d k):N.Fr q (opp d) k:=fun t ht=>by
 have h1:=N.sym _ _ (h (k - 1 - t) (by omega))
 rw[mv_mv]at h1
 rw[hq,mv_opp,mv_mv,show(k:Int) + -(t:Int)=((k - 1 - t:Nat):Int)+1 by omega]
 exact h1
theorem Net.R.run {N:Net}{n:Nat}{p:Pos}{d:Dir}(h:N.R n p d):∀{k:Nat},N.Fr p d k→N.R n (mv p d k) d
 | 0,_=>by rw[show((0:Nat):Int)=0 from rfl,mv_zero];exact h
 | k+1,f=>by
  have h1:=Net.R.run h (k:=k) (fun t ht=>f t (by omega))
  have h2:=Net.R.go h1 (f k (by omega))
  rwa [mv_mv]at h2
theorem Net.R.turn {N:Net}{n:Nat}{p:Pos}{d e:Dir}(h:N.R n p d)(hp:perp d e){k:Nat}(hk:0<k)(f:N.Fr p e k):N.R (n+1) (mv p e k) e:=by
 have h1:=Net.R.tn h hp (f.one hk)
 have h2:=h1.run (f.sub 1 (b:=k - 1) (by omega))
 rw[mv_mv,show(1:Int)+((k - 1:Nat):Int)=(k:Int)by omega]at h2
 exact h2
theorem Net.R.entry {N:Net}{n:Nat}{q:Pos}{d:Dir}(h:N.R n q d):
  (d=N.g∧∃k:Nat,q=mv N.s d k∧N.Fr N.s d k)∨∃(m:Nat) (r:Pos) (e:Dir) (k:Nat),n=m+1∧N.R m r e∧perp e d∧0<k∧q=mv r d k∧N.Fr r d k:=by
 induction h with
 | ini n=>exact .inl ⟨rfl,0,by rw[show((0:Nat):Int)=0 from rfl,mv_zero],fun t ht=>by omega⟩
 | go _ f ih=>
  rcases ih with⟨e,k,h1,h2⟩ | ⟨m,r,e,k,h0,h1,h2,h3,h4,h5⟩
  ·
   refine .inl ⟨e,k+1,by rw[h1,mv_mv];rfl,fun t ht=>?_⟩
   by_cases c:t=k
   ·
    subst c;rw[←h1];exact f
   ·
    exact h2 t (by omega)
  ·
   refine .inr ⟨m,r,e,k+1,h0,h1,h2,by omega,by rw[h4,mv_mv];rfl,fun t ht=>?_⟩
   by_cases c:t=k
   ·
    subst c;rw[←h4];exact f
   ·
    exact h5 t (by omega)
 | tn h0 hp f _ => exact .inr ⟨_, _, _, 1, rfl, h0, hp, by omega, rfl, fun t ht => by
   obtain rfl:t=0:=by omega
   rw[show((0:Nat):Int)=0 from rfl,mv_zero];exact f⟩
theorem Net.R.prior {N:Net}{n:Nat}{q:Pos}{d:Dir}(h:N.R n q d):
  (q=N.s∧d=N.g)∨(∃p:Pos,q=mv p d 1∧N.fr p d∧N.R n p d)∨∃(m:Nat) (p:Pos) (e:Dir),n=m+1∧q=mv p d 1∧N.fr p d∧N.R m p e∧perp e d:=by
 cases h with
 | ini n=>exact .inl ⟨rfl,rfl⟩
 | go h f=>exact .inr (.inl ⟨_,rfl,f,h⟩)
 | tn h p f=>exact .inr (.inr ⟨_,_,_,rfl,rfl,f,h,p⟩)
def Net.Ex (N:Net)(n:Nat)(p:Pos)(d:Dir):Prop:=N.R n p d∧∀m,m<n→¬N.R m p d
theorem Net.Ex.uniq {N:Net}{n m:Nat}{p:Pos}{d:Dir}(h:N.Ex n p d)(h':N.Ex m p d):n=m:=by
 rcases Nat.lt_trichotomy n m with c | c | c
 ·
  exact absurd h.1 (h'.2 n c)
 ·
  exact c
 ·
  exact absurd h'.1 (h.2 m c)
theorem Net.least {N:Net}{n:Nat}{p:Pos}{d:Dir}(h:N.R n p d):∃m,m≤n∧N.Ex m p d:=by
 induction n using Nat.strongRecOn with
 | _ n ih=>
  by_cases c:∃m,m<n∧N.R m p d
  ·
   obtain⟨m,h1,h2⟩:=c
   obtain⟨k,k1,k2⟩:=ih m h1 h2
   exact⟨k,by omega,k2⟩
  ·
   exact⟨n,Nat.le_refl _,h,fun m hm hr=>c ⟨m,hm,hr⟩⟩
structure Net.Chain (N:Net) (K:Nat) (q:Nat→Pos) (d:Nat→Dir):Prop where
 ex:∀j,j≤K→N.Ex j (q j) (d j)
 st:∀j,j<K→∃k:Nat,0<k∧q (j+1)=mv (q j) (d (j+1)) k∧N.Fr (q j) (d (j+1)) k
 pp:∀j,j<K→perp (d j) (d (j+1))
theorem Net.chain (N:Net):∀(K:Nat) (p:Pos) (e:Dir),N.Ex K p e→∃q d,N.Chain K q d∧q K=p∧d K=e
 | 0,p,e,h=>by
  refine⟨fun _=>p,fun _=>e,⟨fun j hj=>?_,fun j hj=>by omega,fun j hj=>by omega⟩,rfl,rfl⟩
  obtain rfl:j=0:=by omega
  exact h
 | K+1,p,e,h=>by
  rcases h.1.entry with⟨h0,k,h1,h2⟩ | ⟨m,r,f,k,h0,h1,h2,h3,h4,h5⟩
  ·
   exact absurd (by rw[h1,h0];exact(Net.R.ini 0).run (by rw[←h0];exact h2)) (h.2 0 (by omega))
  ·
   obtain rfl:m=K:=by omega
   have hx:N.Ex m r f:=⟨h1,fun j hj hr=>h.2 (j+1) (by omega) (by rw[h4];exact hr.turn h2 h3 h5)⟩
   obtain⟨q,d,hc,hq,hd⟩:=Net.chain N m r f hx
   refine⟨fun j=>if j=m+1 then p else q j,fun j=>if j=m+1 then e else d j,⟨fun j hj=>?_,fun j hj=>?_,fun j hj=>?_⟩,if_pos rfl,if_pos rfl⟩
   ·
    by_cases c:j=m+1
    ·
     subst c;simp only[if_pos];exact h
    ·
     simp only[if_neg c];exact hc.ex j (by omega)
   ·
    by_cases c:j=m
    ·
     subst c
     simp only[if_pos,if_neg (show ¬j=j+1 by omega)]
     rw[hq]
     exact⟨k,h3,h4,h5⟩
    ·
     simp only[if_neg (show ¬j=m+1 by omega),if_neg (show ¬j+1=m+1 by omega)]
     exact hc.st j (by omega)
   ·
    by_cases c:j=m
    ·
     subst c
     simp only[if_pos,if_neg (show ¬j=j+1 by omega)]
     rw[hd];exact h2
    ·
     simp only[if_neg (show ¬j=m+1 by omega),if_neg (show ¬j+1=m+1 by omega)]
     exact hc.pp j (by omega)
theorem dir_cases {a b c:Dir}(h:perp a b)(h':perp c b):a=c∨a=opp c:=perp_two (perp_symm h) (perp_symm h')
def Net.X (N:Net)(q:Nat→Pos)(d:Nat→Dir)(j m:Nat):Prop:=N.Ex m (q j) (opp (d (j+1)))
variable {N:Net} {K:Nat} {q:Nat→Pos} {d:Nat→Dir}
theorem Net.Chain.no (hc:N.Chain K q d){j m:Nat}(hj:j≤K)(h:N.R m (q j) (d j))(hm:m<j):False:=(hc.ex j hj).2 m hm h
theorem Net.Chain.back (hc:N.Chain K q d){j m:Nat}(hX:N.X q d j (m+1))(hm:m+1<j)(hj:j+2≤K):N.X q d (j+1) m:=by
 obtain⟨k',hk',hq',hf'⟩:=hc.st j (by omega)
 obtain⟨k2,hk2,hq2,hf2⟩:=hc.st (j+1) (by omega)
 have hp2:=hc.pp (j+1) (by omega)
 rcases hX.1.entry with⟨h0,k,h1,h2⟩ | ⟨n,r,e,k,h0,h1,h2,h3,h4,h5⟩
 ·
  exfalso
  refine hX.2 0 (by omega) ?_
  rw[h1,h0]
  exact(Net.R.ini 0).run (by rw[←h0];exact h2)
 ·
  obtain rfl:n=m:=by omega
  have hr:r=mv (q j) (d (j+1)) k:=by
   have:=mv_back h4
   rwa [opp_opp]at this
  have hf5:=h5.back h4
  rw[opp_opp]at hf5
  rcases Nat.lt_trichotomy k' k with c | c | c
  ·
   -- the bend comes first
   exfalso
   have e1:q (j+1)=mv r (opp (d (j+1))) ((k - k':Nat):Int):=by
    rw[hr,hq',mv_opp,mv_mv];congr 1;omega
   have h6:N.R (n+1) (q (j+1)) (opp (d (j+1))):=by
    rw[e1];exact h1.turn h2 (by omega) (fun t ht=>h5 t (by omega))
   have h7:=h6.turn (perp_opp hp2) hk2 hf2
   rw[←hq2]at h7
   exact hc.no (by omega) h7 (by omega)
  ·
   have e1:r=q (j+1):=by rw[hr,hq',c]
   subst e1
   rcases dir_cases (b:=opp (d (j+1))) h2 (perp_symm (perp_opp hp2))with e | e
   ·
    exfalso
    subst e
    have h7:=h1.run hf2
    rw[←hq2]at h7
    exact hc.no (by omega) h7 (by omega)
   ·
    subst e
    refine⟨h1,fun m' hm' hr'=>hX.2 (m'+1) (by omega) ?_⟩
    rw[h4];exact hr'.turn h2 h3 h5
  ·
   exfalso
   have e1:q (j+1)=mv r (d (j+1)) ((k' - k:Nat):Int):=by
    rw[hr,hq',mv_mv];congr 1;omega
   have h6:N.R (n+1) (q (j+1)) (d (j+1)):=by
    rw[e1]
    refine h1.turn (by have:=perp_opp' h2;rwa [opp_opp]at this) (by omega) ?_
    rw[hr];exact hf'.sub k (by omega)
   exact hc.no (by omega) h6 (by omega)
theorem Net.Chain.ends (hc:N.Chain K q d){j:Nat}(hX:N.X q d j 0)(hj:j+2≤K):N.Ex (j+1) (mv N.s (opp N.g) 1) (opp N.g):=by
 obtain⟨k',hk',hq',hf'⟩:=hc.st j (by omega)
 obtain⟨k2,hk2,hq2,hf2⟩:=hc.st (j+1) (by omega)
 have hp2:=hc.pp (j+1) (by omega)
 rcases hX.1.entry with⟨h0,k,h1,h2⟩ | ⟨n,r,e,k,h0,_⟩
 ·
  rw[h0]at h1 h2
  have hd:d (j+1)=opp N.g:=by rw[←h0,opp_opp]
  have hqs:N.s=mv (q j) (d (j+1)) k:=by rw[hd];exact mv_back h1
  by_cases c:k'≤k
  ·
   exfalso
   have e1:q (j+1)=mv N.s N.g ((k - k':Nat):Int):=by
    rw[hq',hd,mv_opp,h1,mv_mv];congr 1;omega
   have h6:N.R 0 (q (j+1)) N.g:=by
    rw[e1];exact(Net.R.ini 0).run (fun t ht=>h2 t (by omega))
   have h7:=h6.turn (by have:=perp_opp hp2;rwa [h0]at this) hk2 hf2
   rw[←hq2]at h7
   exact hc.no (by omega) h7 (by omega)
  ·
   have e2:mv N.s (opp N.g) 1=mv (q j) (d (j+1)) ((k+1:Nat):Int):=by
    rw[hqs,hd,mv_mv];rfl
   refine⟨?_,fun m hm hr=>?_⟩
   ·
    rw[e2]
    have:=(hc.ex j (by omega)).1.turn (hc.pp j (by omega)) (k:=k+1) (by omega) (fun t ht=>hf' t (by omega))
    rwa [hd]at this⊢
   ·
    have h6:=Net.R.run (k:=k' - (k+1)) hr (by rw[e2,←hd];exact hf'.sub (k+1) (by omega))
    rw[e2,←hd,mv_mv,show((k+1:Nat):Int)+((k' - (k+1):Nat):Int)=k' by omega,←hq']at h6
    exact hc.no (by omega) h6 (by omega)
 ·
  omega
theorem Net.Chain.ends_one (hc:N.Chain K q d){j i:Nat}(hj:N.X q d j 0)(hi:N.X q d i 0)(hjK:j+2≤K)(hiK:i+2≤K):j=i:=by
 have:=(hc.ends hj hjK).uniq (hc.ends hi hiK)
 omega
theorem Net.Chain.backs (hc:N.Chain K q d){j m:Nat}(hX:N.X q d j m)(hm:m<j):∀t:Nat,t≤m→j+t+1≤K→N.X q d (j+t) (m - t)
 | 0,_,_=>hX
 | t+1,h1,h2=>by
  have h3:=Net.Chain.backs hc hX hm t (by omega) (by omega)
  rw[show m - t=(m - (t+1))+1 by omega]at h3
  exact hc.back (j:=j+t) h3 (by omega) (by omega)
theorem Net.Chain.turns (hc:N.Chain K q d){j m:Nat}(hX:N.X q d j m)(h4:4≤m)(hm:m+4≤j)(hj:j+2≤K)(hB:N.fr (mv (q j) (opp (d j)) 1) (d (j+1)))(hD:N.fr (mv (q j) (d (j+1)) 1) (opp (d j)))(hA:N.fr (q j) (opp (d j))):False:=by
 obtain⟨k',hk',hq',hf'⟩:=hc.st j (by omega)
 obtain⟨k2,hk2,hq2,hf2⟩:=hc.st (j+1) (by omega)
 have hp1:=hc.pp j (by omega)
 have hp2:=hc.pp (j+1) (by omega)
 have hAD:=hf'.one hk'
 have hX1:=hc.back (m:=m - 1) (by rw[show m - 1+1=m by omega];exact hX) (by omega) hj
 unfold Net.X at hX hX1
 have exj:=hc.ex j (by omega)
 have ex1:=hc.ex (j+1) (by omega)
 have ex2:=hc.ex (j+2) (by omega)
 generalize d (j+2)=e2 at *
 generalize q (j+2)=q2 at *
 generalize hA':q j=A at *
 generalize hdj:d j=b at *
 generalize hde:d (j+1)=e at *
 have hBC:mv (mv A (opp b) 1) e 1=mv (mv A e 1) (opp b) 1:=mv_comm _ _ _ _ _
 have frBA:N.fr (mv A (opp b) 1) b:=by have:=N.sym _ _ hA;rwa [opp_opp]at this
 have frCB:N.fr (mv (mv A e 1) (opp b) 1) (opp e):=by have:=N.sym _ _ hB;rwa [hBC]at this
 have frCD:N.fr (mv (mv A e 1) (opp b) 1) b:=by have:=N.sym _ _ hD;rwa [opp_opp]at this
 have mBA:mv (mv A (opp b) 1) b 1=A:=by rw[mv_opp,mv_mv];exact mv_zero _ _
 have mCD:mv (mv (mv A e 1) (opp b) 1) b 1=mv A e 1:=by rw[mv_opp _ b,mv_mv];exact mv_zero _ _
 have mCB:mv (mv (mv A e 1) (opp b) 1) (opp e) 1=mv A (opp b) 1:=by rw[←hBC,mv_opp _ e,mv_mv];exact mv_zero _ _
 have atA:∀n,n<j→¬N.R n A b:=exj.2
 have atD:∀n,n<j+1→¬N.R n (mv A e 1) e:=fun n hn hr=>by
  have h1:=Net.R.run (k:=k' - 1) hr (hf'.sub 1 (by omega))
  rw[mv_mv,show(1:Int)+((k' - 1:Nat):Int)=k' by omega,←hq']at h1
  exact ex1.2 n hn h1
 have r1:N.R (m+1) (mv A (opp b) 1) (opp b):=hX.1.tn (perp_symm (perp_opp (perp_opp' hp1))) hA
 have r2:N.R (m+2) (mv (mv A e 1) (opp b) 1) e:=by have:=r1.tn (perp_opp hp1) hB;rwa [hBC]at this
 have r3:N.R (m+3) (mv A e 1) b:=by have:=r2.tn (perp_symm hp1) frCD;rwa [mCD]at this
 by_cases c:1<k'
 ·
  have h1:=r3.turn (perp_symm (perp_symm hp1)) (k:=k' - 1) (by omega) (hf'.sub 1 (by omega))
  rw[mv_mv,show(1:Int)+((k' - 1:Nat):Int)=k' by omega,←hq']at h1
  exact ex1.2 (m+4) (by omega) h1
 ·
  obtain rfl:k'=1:=by omega
  have hq1:q (j+1)=mv A e 1:=hq'
  rcases perp_two hp2 (perp_symm hp1)with h | h
  ·
   subst h
   rw[hq1]at hf2 hq2
   have h1:=r3.run hf2
   rw[←hq2]at h1
   exact ex2.2 (m+3) (by omega) h1
  ·
   subst h
   rw[opp_opp,hq1]at hX1
   have upB:∀n,n+1<j→¬N.R n (mv A (opp b) 1) (opp e):=fun n hn hr=>by
    have:=hr.tn (perp_opp (perp_symm hp1)) frBA
    rw[mBA]at this
    exact atA _ hn this
   have upC:∀n,n+1<j→¬N.R n (mv (mv A e 1) (opp b) 1) (opp e):=fun n hn hr=>by
    have:=hr.go frCB
    rw[mCB]at this
    exact upB n hn this
   rcases hX1.1.prior with⟨h1,h2⟩ | ⟨p,h1,h2,h3⟩ | ⟨n,p,f,h0,h1,h2,h3,h5⟩
   ·
    exact hX1.2 0 (by omega) (by rw[h1,h2];exact .ini 0)
   ·
    obtain rfl:p=mv (mv A e 1) (opp b) 1:=mv_back h1
    have:=h3.tn (perp_opp' (perp_symm (perp_symm hp1))) frCB
    rw[mCB]at this
    exact upB _ (by omega) this
   ·
    obtain rfl:p=mv (mv A e 1) (opp b) 1:=mv_back h1
    rcases dir_cases h5 (perp_symm hp1)with h | h
    ·
     subst h
     rcases h3.prior with⟨h6,h7⟩ | ⟨p,h6,h7,h8⟩ | ⟨n2,p,f2,h60,h6,h7,h8,h9⟩
     ·
      have:=(Net.R.ini (N:=N) 0)
      rw[←h6,←h7]at this
      have:=this.tn (perp_symm hp1) frCD
      rw[mCD]at this
      exact hX1.2 1 (by omega) this
     ·
      obtain rfl:p=mv A (opp b) 1:=by
       have:=mv_back h6
       rw[mCB]at this;exact this
      have:=h8.tn (perp_symm hp1) frBA
      rw[mBA]at this
      exact atA _ (by omega) this
     ·
      obtain rfl:p=mv A (opp b) 1:=by
       have:=mv_back h6
       rw[mCB]at this;exact this
      rcases dir_cases h9 hp1 with h | h
      ·
       subst h
       have:=h8.go frBA
       rw[mBA]at this
       exact atA _ (by omega) this
      ·
       subst h
       rcases h8.prior with⟨i1,i2⟩ | ⟨p,i1,i2,i3⟩ | ⟨n3,p,f3,i0,i1,i2,i3,i4⟩
       ·
        have:=(Net.R.ini (N:=N) 0)
        rw[←i1,←i2]at this
        have:=this.tn (perp_opp hp1) hB
        rw[hBC]at this
        have:=this.tn (perp_symm hp1) frCD
        rw[mCD]at this
        exact hX1.2 2 (by omega) this
       ·
        obtain rfl:p=A:=by
         have:=mv_back i1
         rw[opp_opp,mBA]at this;exact this
        exact atD _ (by omega) (i3.tn (perp_opp hp1) hAD)
       ·
        obtain rfl:p=A:=by
         have:=mv_back i1
         rw[opp_opp,mBA]at this;exact this
        rcases dir_cases i4 (perp_opp' (perp_symm hp1))with h | h
        ·
         subst h
         exact atD _ (by omega) (i3.go hAD)
        ·
         subst h
         exact hX.2 _ (by omega) i3
    ·
     subst h
     exact upC _ (by omega) h3
def Net.RR (N:Net)(q:Nat→Pos)(d:Nat→Dir)(j:Nat):Prop:=∃m,m<j∧N.R m (q j) (opp (d (j+1)))
theorem Net.strip {a e:Dir}(hae:perp a e){p:Pos}{n:Nat}(hf:N.Fr p a n)(h0:N.fr p e)(hno:∀t:Nat,t<n→¬N.cor (mv p a t) a e):
  ∀t:Nat,t≤n→N.fr (mv p a t) e∧(∀s:Nat,s<t→N.fr (mv (mv p a s) e 1) a)
 | 0,_=>⟨by rw[show((0:Nat):Int)=0 from rfl,mv_zero];exact h0,fun s hs=>by omega⟩
 | t+1,ht=>by
  obtain⟨h1,h2⟩:=Net.strip hae hf h0 hno t (by omega)
  have h3:=(N.cell _ a e hae (hf t (by omega)) h1).resolve_left (hno t (by omega))
  rw[mv_mv]at h3
  refine⟨h3.1,fun s hs=>?_⟩
  by_cases c:s=t
  ·
   subst c;exact h3.2
  ·
   exact h2 s (by omega)
theorem Net.Chain.row (hc:N.Chain K q d){i:Nat}(h3:3≤i)(hi:i+2≤K)(hno:∀u,N.Ex i u (d i)→¬N.cor u (opp (d i)) (d (i+1)))
  {n k:Nat} (hq:q (i+1)=mv (q i) (d (i+1)) n) (hf:N.Fr (q i) (d (i+1)) n) (hk:k<n) (hR:N.R i (mv (q i) (d (i+1)) k) (d i)):
  (N.fr (mv (q i) (d (i+1)) k) (opp (d i))∧N.fr (mv (mv (q i) (d (i+1)) k) (opp (d i)) 1) (d (i+1))∧N.fr (mv (mv (q i) (d (i+1)) k) (d (i+1)) 1) (opp (d i)))∧
  (N.R i (mv (q i) (d (i+1)) ((k+1:Nat):Int)) (d i)∨N.RR q d i∨N.RR q d (i+1)):=by
 have hp1:=hc.pp i (by omega)
 have hp2:=hc.pp (i+1) (by omega)
 obtain⟨k2,hk2,hq2,hf2⟩:=hc.st (i+1) (by omega)
 have ex1:=hc.ex (i+1) (by omega)
 have ex2:=hc.ex (i+2) (by omega)
 unfold Net.RR
 have hRi:=fun m (hm:m<i) (hr:N.R m (q i) (opp (d (i+1))))=>(⟨m,hm,hr⟩:∃m,m<i∧N.R m (q i) (opp (d (i+1))))
 generalize hA:q i=A at *
 generalize hb:d i=b at *
 generalize he:d (i+1)=e at *
 have hex:∀m,m<i→¬N.R m (mv A e k) b:=fun m hm hr=>by
  have h1:=hr.turn hp1 (k:=n - k) (by omega) (hf.sub k (by omega))
  rw[mv_mv,show(k:Int)+((n - k:Nat):Int)=n by omega,←hq]at h1
  exact ex1.2 (m+1) (by omega) h1
 rcases hR.entry with⟨g0,t,g1,g2⟩ | ⟨m,r,e',w,m0,hr,hpe,hw,hpk,hfw⟩
 ·
  exact absurd (by rw[g1,g0];exact(Net.R.ini 0).run (by rw[←g0];exact g2)) (hex 0 (by omega))
 obtain rfl:i=m+1:=m0
 have hfb:N.Fr (mv A e k) (opp b) w:=hfw.back hpk
 have hrr:r=mv (mv A e k) (opp b) w:=mv_back hpk
 have hst:=Net.strip (perp_opp hp1) hfb (hf k hk) (fun t ht hcor=>by
  refine hno _ ⟨?_,fun m' hm' hr'=>?_⟩ hcor
  ·
   have h1:=hr.turn (k:=w - t) hpe (by omega) (fun s hs=>hfw s (by omega))
   have:mv r b ((w - t:Nat):Int)=mv (mv A e k) (opp b) t:=by
    rw[hrr,mv_opp,mv_opp,mv_mv];congr 1;omega
   rwa [this]at h1
  ·
   have h1:=hr'.run (k:=t) (by
    have:=(hfb.sub 0 (b:=t) (by omega)).back rfl
    rw[opp_opp]at this
    have e0:mv (mv A e k) (opp b) ((0:Nat):Int)=mv A e k:=mv_zero _ _
    rw[e0]at this
    exact this)
   rw[mv_opp,mv_mv,show -(t:Int)+t=0 by omega,mv_zero]at h1
   exact hex m' hm' h1)
 obtain⟨hre,hrow⟩:=hst w (Nat.le_refl _)
 rw[←hrr]at hre
 have hcell:N.fr (mv A e k) (opp b)∧N.fr (mv (mv A e k) (opp b) 1) e∧N.fr (mv (mv A e k) e 1) (opp b):=by
  refine⟨hfb.one hw,(hst 1 hw).1,?_⟩
  have:=hrow 0 hw
  rwa [show((0:Nat):Int)=0 from rfl,mv_zero]at this
 refine⟨hcell,?_⟩
 have hP:mv (mv A e k) e 1=mv A e ((k+1:Nat):Int):=by rw[mv_mv];rfl
 generalize hPd:mv A e ((k+1:Nat):Int)=P at *
 have hrowF:N.Fr P (opp b) w:=fun t ht=>by
  have:=hrow t ht
  rwa [mv_comm,hP]at this
 have hwP:mv r e 1=mv P (opp b) w:=by rw[hrr,mv_comm,hP]
 have hPw:P=mv (mv r e 1) b w:=by
  have:=mv_back hwP
  rwa [opp_opp]at this
 have hrowB:N.Fr (mv r e 1) b w:=by
  have:=hrowF.back hwP
  rwa [opp_opp]at this
 have hexr:∀m',m'<m→¬N.R m' r e':=fun m' hm' hr'=>by
  have h1:=hr'.turn hpe hw hfw
  rw[←hpk]at h1
  exact hex (m'+1) (by omega) h1
 rcases dir_cases hpe (perp_symm hp1)with h | h
 ·
  subst h
  have h1:=(hr.go hre).turn hpe hw hrowB
  rw[←hPw]at h1
  exact .inl h1
 ·
  subst h
  have hfwe:N.fr (mv r e 1) (opp e):=N.sym _ _ hre
  have hrw:r=mv (mv r e 1) (opp e) 1:=by rw[mv_opp,mv_mv];exact(mv_zero _ _).symm
  rcases hr.prior with⟨i1,i2⟩ | ⟨p,i1,i2,i3⟩ | ⟨n2,p,f,n0,i1,i2,i3,i4⟩
  ·
   have h1:N.R 0 r (opp e):=by rw[i1,i2];exact .ini 0
   exact absurd h1 (hexr 0 (by omega))
  ·
   obtain rfl:p=mv r e 1:=by
    have:=mv_back i1
    rwa [opp_opp]at this
   have h1:=i3.turn hpe hw hrowB
   rw[←hPw]at h1
   exact .inl h1
  ·
   obtain rfl:p=mv r e 1:=by
    have:=mv_back i1
    rwa [opp_opp]at this
   obtain rfl:m=n2+1:=n0
   rcases dir_cases i4 (perp_opp' hp1)with h | h
   ·
    subst h
    have h1:=i3.run hrowB
    rw[←hPw]at h1
    exact .inl (h1.mono (by omega))
   ·
    subst h
    rcases i3.entry with⟨g0,t,g1,g2⟩ | ⟨n3,r2,f2,w2,n30,j1,j2,j3,j4,j5⟩
    ·
     have h1:N.R 0 (mv r e 1) (opp b):=by
      rw[g1,g0];exact(Net.R.ini 0).run (by rw[←g0];exact g2)
     have h2:=h1.tn i4 hfwe
     rw[←hrw]at h2
     exact absurd h2 (hexr 1 (by omega))
    ·
     obtain rfl:n2=n3+1:=n30
     have hr2:r2=mv (mv r e 1) b w2:=by
      have:=mv_back j4
      rwa [opp_opp]at this
     rcases Nat.lt_trichotomy w2 w with c | c | c
     ·
      have h1:=j1.turn (e:=b) (by have:=perp_opp' j2;rwa [opp_opp]at this) (k:=w - w2) (by omega) (by rw[hr2];exact hrowB.sub w2 (by omega))
      rw[hr2,mv_mv,show(w2:Int)+((w - w2:Nat):Int)=w by omega,←hPw]at h1
      exact .inl (h1.mono (by omega))
     ·
      have e1:r2=P:=by rw[hr2,hPw,c]
      subst e1
      rcases dir_cases j2 (perp_symm (perp_opp hp1))with h | h
      ·
       subst h
       have h1:=j1.run (k:=n - (k+1)) (by rw[←hPd];exact hf.sub (k+1) (by omega))
       rw[←hPd,mv_mv,show((k+1:Nat):Int)+((n - (k+1):Nat):Int)=n by omega,←hq]at h1
       exact absurd h1 (ex1.2 _ (by omega))
      ·
       subst h
       refine .inr (.inl (hRi n3 (by omega) ?_))
       have h1:=j1.run (k:=k+1) (by
        have:=(hf.sub 0 (b:=k+1) (by omega)).back (q:=r2) (by
         rw[show((0:Nat):Int)=0 from rfl,mv_zero];exact hPd.symm)
        exact this)
       rw[←hPd,mv_opp,mv_mv,show((k+1:Nat):Int) + -((k+1:Nat):Int)=0 by omega,mv_zero]at h1
       exact h1
     ·
      have h1:=j1.turn j2 (k:=w2 - w) (by omega) (fun t ht=>j5 t (by omega))
      have e1:mv r2 (opp b) ((w2 - w:Nat):Int)=P:=by
       rw[hr2,hPw,mv_opp,mv_mv];congr 1;omega
      rw[e1]at h1
      by_cases c2:k+1=n
      ·
       have e2:P=q (n3+1+1+1+1):=by rw[hq,←hPd,c2]
       rcases perp_two hp2 (perp_symm hp1)with h | h
       ·
        refine .inr (.inr ⟨n3+1,by omega,?_⟩)
        rw[h,←e2];exact h1
       ·
        exfalso
        have h2:=h1.run (k:=k2) (by rw[e2,←h];exact hf2)
        rw[e2,←h,←hq2]at h2
        exact ex2.2 (n3+1) (by omega) h2
      ·
       have h2:=h1.turn (perp_opp hp1) (k:=n - (k+1)) (by omega) (by rw[←hPd];exact hf.sub (k+1) (by omega))
       rw[←hPd,mv_mv,show((k+1:Nat):Int)+((n - (k+1):Nat):Int)=n by omega,←hq]at h2
       exact absurd h2 (ex1.2 _ (by omega))
theorem Net.Chain.plain (hc:N.Chain K q d){i:Nat}(h3:3≤i)(hi:i+2≤K)(hno:∀u,N.Ex i u (d i)→¬N.cor u (opp (d i)) (d (i+1))):
  (N.fr (q i) (opp (d i))∧N.fr (mv (q i) (opp (d i)) 1) (d (i+1))∧N.fr (mv (q i) (d (i+1)) 1) (opp (d i)))∧(N.RR q d i∨N.RR q d (i+1)):=by
 obtain⟨n,hn,hq,hf⟩:=hc.st i (by omega)
 have e0:mv (q i) (d (i+1)) ((0:Nat):Int)=q i:=mv_zero _ _
 have h0:=hc.row h3 hi hno hq hf (k:=0) hn (by rw[e0];exact(hc.ex i (by omega)).1)
 rw[e0]at h0
 refine⟨h0.1,?_⟩
 have key:∀k:Nat,k≤n→N.R i (mv (q i) (d (i+1)) k) (d i)∨N.RR q d i∨N.RR q d (i+1):=by
  intro k
  induction k with
  | zero=>intro _;rw[e0];exact .inl (hc.ex i (by omega)).1
  | succ k ih=>
   intro hk
   rcases ih (by omega)with h | h
   ·
    exact(hc.row h3 hi hno hq hf (by omega) h).2
   ·
    exact .inr h
 rcases key n (Nat.le_refl _)with h | h
 ·
  rw[←hq]at h
  obtain⟨k2,hk2,hq2,hf2⟩:=hc.st (i+1) (by omega)
  rcases perp_two (hc.pp (i+1) (by omega)) (perp_symm (hc.pp i (by omega)))with e | e
  ·
   exfalso
   have h1:=h.run (by rw[←e];exact hf2)
   rw[←e,←hq2]at h1
   exact(hc.ex (i+2) (by omega)).2 i (by omega) h1
  ·
   exact .inr ⟨i,by omega,by rw[e,opp_opp];exact h⟩
 ·
  exact h
theorem least_of {P:Nat→Prop}{n:Nat}(h:P n):∃m,P m∧∀k,P k→m≤k:=by
 induction n using Nat.strongRecOn with
 | _ n ih=>
  by_cases c:∃m,m<n∧P m
  ·
   obtain⟨m,h1,h2⟩:=c
   exact ih m h1 h2
  ·
   exact⟨n,h,fun k hk=>Nat.le_of_not_lt fun hlt=>c ⟨k,hlt,hk⟩⟩
theorem windows (P:Nat→Prop):∃w1 w2 w3:Nat,∀i,P i→(w1≤i∧i<w1+4)∨(w2≤i∧i<w2+4)∨(w3≤i∧i<w3+4)∨∃a b c,P a∧P b∧P c∧a+4≤b∧b+4≤c∧c+4≤i:=by
 by_cases h1:∃n,P n
 ·
  obtain⟨_,h1⟩:=h1
  obtain⟨w1,a1,a2⟩:=least_of h1
  by_cases h2:∃n,P n∧w1+4≤n
  ·
   obtain⟨_,h2⟩:=h2
   obtain⟨w2,b1,b2⟩:=least_of (P:=fun n=>P n∧w1+4≤n) h2
   by_cases h3:∃n,P n∧w2+4≤n
   ·
    obtain⟨_,h3⟩:=h3
    obtain⟨w3,c1,c2⟩:=least_of (P:=fun n=>P n∧w2+4≤n) h3
    refine⟨w1,w2,w3,fun i hi=>?_⟩
    have e1:=a2 i hi
    by_cases q1:i<w1+4
    ·
     exact .inl ⟨e1,q1⟩
    ·
     have e2:=b2 i ⟨hi,by omega⟩
     by_cases q2:i<w2+4
     ·
      exact .inr (.inl ⟨e2,q2⟩)
     ·
      have e3:=c2 i ⟨hi,by omega⟩
      by_cases q3:i<w3+4
      ·
       exact .inr (.inr (.inl ⟨e3,q3⟩))
      ·
       exact .inr (.inr (.inr ⟨w1,w2,w3,a1,b1.1,c1.1,b1.2,c1.2,by omega⟩))
   ·
    refine⟨w1,w2,0,fun i hi=>?_⟩
    have e1:=a2 i hi
    by_cases q1:i<w1+4
    ·
     exact .inl ⟨e1,q1⟩
    ·
     have e2:=b2 i ⟨hi,by omega⟩
     by_cases q2:i<w2+4
     ·
      exact .inr (.inl ⟨e2,q2⟩)
     ·
      exact absurd ⟨i,hi,by omega⟩ h3
  ·
   refine⟨w1,0,0,fun i hi=>?_⟩
   have e1:=a2 i hi
   by_cases q1:i<w1+4
   ·
    exact .inl ⟨e1,q1⟩
   ·
    exact absurd ⟨i,hi,by omega⟩ h2
 ·
  exact⟨0,0,0,fun i hi=>absurd ⟨i,hi⟩ h1⟩
theorem php:∀(n N:Nat) (f:Nat→Nat),(∀i,i<n→f i<N)→(∀i j,i<n→j<n→f i=f j→i=j)→n≤N
 | 0,_,_,_,_=>Nat.zero_le _
 | n+1,0,f,h,_=>by have:=h 0 (by omega);omega
 | n+1,N+1,f,h,hi=>by
  have:=php n N (fun i=>if f i=N then f n else f i) (fun i hin=>by
   have h1:=h i (by omega)
   have h2:=h n (by omega)
   have h3:f i≠f n:=fun e=>by have:=hi i n (by omega) (by omega) e;omega
   show(if f i=N then f n else f i)<N
   split<;>omega) (fun i j hin hjn e=>by
   have hin':f i≠f n:=fun e=>by have:=hi i n (by omega) (by omega) e;omega
   have hjn':f j≠f n:=fun e=>by have:=hi j n (by omega) (by omega) e;omega
   have e:(if f i=N then f n else f i)=(if f j=N then f n else f j):=e
   refine hi i j (by omega) (by omega) ?_
   split at e<;>split at e<;>omega)
  omega
theorem Net.Chain.two (hc:N.Chain K q d){i i':Nat}(h3:3≤i)(hii:i+4≤i')(hi:i'+6≤K)(hno:∀u,N.Ex i u (d i)→¬N.cor u (opp (d i)) (d (i+1)))(hno':∀u,N.Ex i' u (d i')→¬N.cor u (opp (d i')) (d (i'+1))):
  ∃z,i≤z∧z≤i'+3∧N.X q d z 0:=by
 obtain⟨_,h1⟩:=hc.plain h3 (by omega) hno
 obtain⟨⟨c1,c2,c3⟩,_⟩:=hc.plain (by omega) (by omega) hno'
 obtain⟨j,m,hj1,hj2,hm,hX⟩:∃j m,i≤j∧j≤i+1∧m<j∧N.X q d j m:=by
  rcases h1 with⟨m,h1,h2⟩ | ⟨m,h1,h2⟩
  ·
   obtain⟨m',hm',hX⟩:=Net.least h2
   exact⟨i,m',Nat.le_refl _,by omega,by omega,hX⟩
  ·
   obtain⟨m',hm',hX⟩:=Net.least h2
   exact⟨i+1,m',by omega,Nat.le_refl _,by omega,hX⟩
 by_cases c:i' - j+4≤m
 ·
  exfalso
  have h2:=hc.backs hX hm (i' - j) (by omega) (by omega)
  rw[show j+(i' - j)=i' by omega]at h2
  exact hc.turns h2 (by omega) (by omega) (by omega) c2 c3 c1
 ·
  have h2:=hc.backs hX hm m (Nat.le_refl _) (by omega)
  rw[Nat.sub_self]at h2
  exact⟨j+m,by omega,by omega,h2⟩
theorem Net.bound (N:Net)(T:Nat)(tag:Pos→Dir→Dir→Nat)(ht:∀u a e,N.cor u a e→tag u a e<T)(hi:∀u a e u' a' e',N.cor u a e→N.cor u' a' e'→tag u a e=tag u' a' e'→u=u'∧a=a')
  {n:Nat} {p:Pos} {e:Dir} (h:N.R n p e):∃m,m≤n∧m≤T+20∧N.Ex m p e:=by
 classical
 obtain⟨K,hK,hx⟩:=Net.least h
 refine⟨K,hK,?_,hx⟩
 obtain⟨q,d,hc,_,_⟩:=N.chain K p e hx
 let B:Nat→Prop:=fun i=>3≤i∧i+6≤K∧∀u,N.Ex i u (d i)→¬N.cor u (opp (d i)) (d (i+1))
 obtain⟨w1,w2,w3,hw⟩:=windows B
 have hw':∀i,B i→(w1≤i∧i<w1+4)∨(w2≤i∧i<w2+4)∨(w3≤i∧i<w3+4):=fun i hb=>by
  rcases hw i hb with h | h | h | ⟨a,b,c,ha,hb',hcc,h1,h2,h3⟩
  ·
   exact .inl h
  ·
   exact .inr (.inl h)
  ·
   exact .inr (.inr h)
  ·
   exfalso
   obtain⟨z,z1,z2,z3⟩:=hc.two ha.1 h1 hb'.2.1 ha.2.2 hb'.2.2
   obtain⟨y,y1,y2,y3⟩:=hc.two hcc.1 h3 hb.2.1 hcc.2.2 hb.2.2
   have:=hb'.2.1
   have:=hb.2.1
   have:=hc.ends_one z3 y3 (by omega) (by omega)
   omega
 have hcor:∀i,3≤i→i+6≤K→¬B i→∃u,N.Ex i u (d i)∧N.cor u (opp (d i)) (d (i+1)):=fun i h1 h2 h3=>by
  refine Classical.byContradiction fun hh=>h3 ⟨h1,h2,fun u hu hcc=>hh ⟨u,hu,hcc⟩⟩
 let U:Nat→Pos:=fun i=>if hh:∃u,N.Ex i u (d i)∧N.cor u (opp (d i)) (d (i+1))then Classical.choose hh else(0,0)
 have hU:∀i,3≤i→i+6≤K→¬B i→N.Ex i (U i) (d i)∧N.cor (U i) (opp (d i)) (d (i+1)):=fun i h1 h2 h3=>by
  have hh:=hcor i h1 h2 h3
  show N.Ex i (if hh:_ then _ else _) (d i)∧N.cor (if hh:_ then _ else _) _ _
  rw[dif_pos hh];exact Classical.choose_spec hh
 let f:Nat→Nat:=fun x=>if B (x+3)then(if w1≤x+3∧x+3<w1+4 then T+(x+3 - w1)else if w2≤x+3∧x+3<w2+4 then T+4+(x+3 - w2)else T+8+(x+3 - w3))else tag (U (x+3)) (opp (d (x+3))) (d (x+3+1))
 by_cases hK9:K≤8
 ·
  omega
 have hf:=php (K - 8) (T+12) f (fun x hx=>by
  show(if B (x+3)then _ else _)<_
  by_cases hb:B (x+3)
  ·
   rw[if_pos hb]
   have:=hw' _ hb
   split
   ·
    omega
   ·
    split
    ·
     omega
    ·
     omega
  ·
   rw[if_neg hb]
   have:=ht _ _ _ (hU (x+3) (by omega) (by omega) hb).2
   omega) (fun x y hx hy e=>by
  have e:(if B (x+3)then _ else _)=(if B (y+3)then _ else _):=e
  by_cases hb:B (x+3)
  ·
   by_cases hb':B (y+3)
   ·
    rw[if_pos hb,if_pos hb']at e
    have:=hw' _ hb
    have:=hw' _ hb'
    split at e<;>split at e<;>(try split at e)<;>(try split at e)<;>omega
   ·
    rw[if_pos hb,if_neg hb']at e
    have:=ht _ _ _ (hU (y+3) (by omega) (by omega) hb').2
    split at e<;>(try split at e)<;>omega
  ·
   by_cases hb':B (y+3)
   ·
    rw[if_neg hb,if_pos hb']at e
    have:=ht _ _ _ (hU (x+3) (by omega) (by omega) hb).2
    split at e<;>(try split at e)<;>omega
   ·
    rw[if_neg hb,if_neg hb']at e
    obtain⟨a1,a2⟩:=hU (x+3) (by omega) (by omega) hb
    obtain⟨b1,b2⟩:=hU (y+3) (by omega) (by omega) hb'
    obtain⟨e1,e2⟩:=hi _ _ _ _ _ _ a2 b2 e
    have e3:d (x+3)=d (y+3):=by rw[←opp_opp (d (x+3)),e2,opp_opp]
    rw[e1,e3]at a1
    have:=a1.uniq b1
    omega)
 omega
end
end Go.DB.Lev
namespace Go.DB
open Go Go.RowKit
def sdO:Lev.Dir→Int
 | .no=>1
 | .ea=>2
 | .so=>3
 | .we=>4
noncomputable def drO (s:Int):Lev.Dir:=if s=1 then .no else if s=2 then .ea else if s=3 then .so else .we
theorem zkA (d:Lev.Dir):1≤sdO d∧sdO d≤4:=by cases d<;>decide
theorem Jb {s:Int}(h1:1≤s)(h4:s≤4):sdO (drO s)=s:=by
 have:s=1∨s=2∨s=3∨s=4:=by omega
 rcases this with rfl | rfl | rfl | rfl<;>rfl
theorem zk6 (d:Lev.Dir):tow (sdO d)=⟨Lev.dx d,Lev.dy d⟩:=by cases d<;>rfl
theorem zh0 (d:Lev.Dir):yq (sdO d)=sdO (Lev.opp d):=by cases d<;>rfl
theorem zkB {d e:Lev.Dir}(h:sdO d=sdO e):d=e:=by cases d<;>cases e<;>first | rfl | (simp[sdO]at h)
noncomputable def ptP (t:zA)(u:Lev.Pos):zd:=⟨gx (XL t) u.1,gx (YL t) u.2⟩
def OnP (t:zA)(u:Lev.Pos):Prop:=0≤u.1∧u.1<(XL t).length∧0≤u.2∧u.2<(YL t).length
def FrP (t:zA)(u:Lev.Pos)(d:Lev.Dir):Prop:=OnP t u∧OnP t (Lev.mv u d 1)∧z8 t (ptP t u) (ptP t (Lev.mv u d 1))=false
def zde (z:zV)(a e:Lev.Dir):Int:=if Lev.dx a+Lev.dx e=1 then z.left else z.right
def zdf (z:zV)(a e:Lev.Dir):Int:=if Lev.dy a+Lev.dy e=1 then z.top else z.bottom
def zcZ (t:zA)(u:Lev.Pos)(a e:Lev.Dir):Prop:=OnP t u∧Lev.perp a e∧∃j:Nat,∃h:j<t.Walls.length,ptP t u=⟨zde (zn t t.Walls[j]) a e,zdf (zn t t.Walls[j]) a e⟩
theorem zmn (t:zA)(a b:zd):z8 t a b=z8 t b a:=by
 rw[Bool.eq_iff_iff,Qb,Qb]
 have:∀z,inZ z a b↔inZ z b a:=fun z=>by unfold inZ;omega
 simp only[this]
theorem zjH {x:List Int}(hs:x.Pairwise (· < ·)){a v:Int}(h0:0≤a)(h1:a+1<x.length)(hv:v∈x)(g1:gx x a<v)(g2:v<gx x (a+1)):False:=by
 obtain⟨k,hk,rfl⟩:=List.mem_iff_getElem.1 hv
 rw[←zS hk]at g1 g2
 have c1:a<(k:Int):=Classical.byContradiction fun hn=>by have:=zi2 hs (a:=(k:Int)) (b:=a) (by omega) (by omega) (by omega);omega
 have c2:(k:Int)<a+1:=Classical.byContradiction fun hn=>by have:=zi2 hs (a:=a+1) (b:=(k:Int)) (by omega) (by omega) (by omega);omega
 omega
theorem zr1 {t:zA}{w:Box}(hw:w∈t.Walls):(∀v,v=(zn t w).left∨v=(zn t w).right→ -1000000≤v→v≤1000000→v∈XL t)∧∀v,v=(zn t w).top∨v=(zn t w).bottom→ -1000000≤v→v≤1000000→v∈YL t:=by
 refine⟨fun v hv h1 h2=>zaE ?_ h1 h2,fun v hv h1 h2=>zaE ?_ h1 h2⟩
 ·
  unfold xv
  refine List.mem_append_right _ (List.mem_flatMap.2 ⟨w,hw,?_⟩)
  rcases hv with rfl | rfl<;>simp
 ·
  unfold yv
  refine List.mem_append_right _ (List.mem_flatMap.2 ⟨w,hw,?_⟩)
  rcases hv with rfl | rfl<;>simp
theorem zq5 {x:List Int}(hs:x.Pairwise (· < ·))(hb:∀v∈x, -1000000≤v∧v≤1000000){a v:Int}(h0:0≤a)(h1:a+1<x.length)(hv: -1000000≤v→v≤1000000→v∈x)(g1:gx x a≤v)(g2:v<gx x (a+1)):v=gx x a:=by
 have b1:=hb _ (qQ (show inR x a from⟨h0,by omega⟩))
 have b2:=hb _ (qQ (show inR x (a+1)from⟨by omega,h1⟩))
 exact Classical.byContradiction fun hn=>zjH hs h0 h1 (hv (by omega) (by omega)) (by omega) g2
theorem zq4 {x:List Int}(hs:x.Pairwise (· < ·))(hb:∀v∈x, -1000000≤v∧v≤1000000){a v:Int}(h0:0≤a)(h1:a+1<x.length)(hv: -1000000≤v→v≤1000000→v∈x)(g1:gx x a<v)(g2:v≤gx x (a+1)):v=gx x (a+1):=by
 have b1:=hb _ (qQ (show inR x a from⟨h0,by omega⟩))
 have b2:=hb _ (qQ (show inR x (a+1)from⟨by omega,h1⟩))
 exact Classical.byContradiction fun hn=>zjH hs h0 h1 (hv (by omega) (by omega)) g1 (by omega)
theorem zma (t:zA):∀v∈XL t, -1000000≤v∧v≤1000000:=fun v hv=>by
 obtain⟨n,_,h⟩:=zdx.1 hv
 have:=zda.1 h
 omega
theorem zmb (t:zA):∀v∈YL t, -1000000≤v∧v≤1000000:=fun v hv=>by
 obtain⟨n,_,h⟩:=zdx.1 hv
 have:=zda.1 h
 omega
theorem zpq {x0 x1 y0 y1 l r t b p q:Int}(hp:(p=1∧x0<x1)∨(p = -1∧x1<x0))(hq:(q=1∧y0<y1)∨(q = -1∧y1<y0))
  (hl:((x0≤l∧l<x1)∨(x1<l∧l≤x0))→l=x0) (hr:((x0≤r∧r<x1)∨(x1<r∧r≤x0))→r=x0) (ht:((y0≤t∧t<y1)∨(y1<t∧t≤y0))→t=y0) (hb:((y0≤b∧b<y1)∨(y1<b∧b≤y0))→b=y0)
  (n1:¬(l<max x0 x1∧min x0 x1<r∧t<y0∧y0<b)) (n2:¬(l<x0∧x0<r∧t<max y0 y1∧min y0 y1<b))
  (hz:(l<max x0 x1∧min x0 x1<r∧t<y1∧y1<b)∨(l<x1∧x1<r∧t<max y0 y1∧min y0 y1<b)):x0=(if p=1 then l else r)∧y0=if q=1 then t else b:=by
 rcases hp with⟨rfl,hp⟩ | ⟨rfl,hp⟩<;>rcases hq with⟨rfl,hq⟩ | ⟨rfl,hq⟩<;>simp only[if_true,show ¬((-1:Int)=1)by decide,if_false]<;>omega
theorem zdU {x:List Int}(hs:x.Pairwise (· < ·))(hb:∀v∈x, -1000000≤v∧v≤1000000){a p v:Int}(h0:0≤a)(h1:a<x.length)(h2:0≤a+p)(h3:a+p<x.length)(hp:p=1∨p = -1)(hv: -1000000≤v→v≤1000000→v∈x):
  (((gx x a≤v∧v<gx x (a+p))∨(gx x (a+p)<v∧v≤gx x a))→v=gx x a)∧((p=1∧gx x a<gx x (a+p))∨(p = -1∧gx x (a+p)<gx x a)):=by
 rcases hp with rfl | rfl
 ·
  have hl:=ju hs h0 (show a<a+1 by omega) h3
  refine⟨fun h=>?_,.inl ⟨rfl,hl⟩⟩
  rcases h with⟨g1,g2⟩ | ⟨g1,g2⟩
  ·
   exact zq5 hs hb h0 h3 hv g1 g2
  ·
   omega
 ·
  have hl:=ju hs h2 (show a + -1<a by omega) h1
  refine⟨fun h=>?_,.inr ⟨rfl,hl⟩⟩
  have e:a + -1+1=a:=by omega
  rcases h with⟨g1,g2⟩ | ⟨g1,g2⟩
  ·
   omega
  ·
   have:=zq4 hs hb (a:=a + -1) h2 (by omega) hv g1 (by rw[e];exact g2)
   rwa [e]at this
theorem zh8 {t:zA}{w:Box}(hw:w∈t.Walls){x y p q:Int}(hp:p=1∨p = -1)(hq:q=1∨q = -1)(x0:0≤x)(x1:x<(XL t).length)(x2:0≤x+p)(x3:x+p<(XL t).length)(y0:0≤y)(y1:y<(YL t).length)(y2:0≤y+q)(y3:y+q<(YL t).length)
  (f1:z8 t ⟨gx (XL t) x,gx (YL t) y⟩ ⟨gx (XL t) (x+p),gx (YL t) y⟩=false) (f2:z8 t ⟨gx (XL t) x,gx (YL t) y⟩ ⟨gx (XL t) x,gx (YL t) (y+q)⟩=false)
  (hz:inZ (zn t w) ⟨gx (XL t) x,gx (YL t) (y+q)⟩ ⟨gx (XL t) (x+p),gx (YL t) (y+q)⟩∨inZ (zn t w) ⟨gx (XL t) (x+p),gx (YL t) y⟩ ⟨gx (XL t) (x+p),gx (YL t) (y+q)⟩):
  gx (XL t) x=(if p=1 then(zn t w).left else(zn t w).right)∧gx (YL t) y=if q=1 then(zn t w).top else(zn t w).bottom:=by
 have sx:=jj (xv t);have sy:=jj (yv t)
 change (XL t).Pairwise (· < ·)at sx
 change (YL t).Pairwise (· < ·)at sy
 have bx:=zma t;have by_:=zmb t
 obtain⟨zx,zy⟩:=zr1 hw
 have n1:¬inZ (zn t w) ⟨gx (XL t) x,gx (YL t) y⟩ ⟨gx (XL t) (x+p),gx (YL t) y⟩:=fun h=>by rw[Qb.2 ⟨w,hw,h⟩]at f1;cases f1
 have n2:¬inZ (zn t w) ⟨gx (XL t) x,gx (YL t) y⟩ ⟨gx (XL t) x,gx (YL t) (y+q)⟩:=fun h=>by rw[Qb.2 ⟨w,hw,h⟩]at f2;cases f2
 obtain⟨hl,hpp⟩:=zdU sx bx x0 x1 x2 x3 hp (zx _ (.inl rfl))
 obtain⟨hr,_⟩:=zdU sx bx x0 x1 x2 x3 hp (zx _ (.inr rfl))
 obtain⟨ht,hqq⟩:=zdU sy by_ y0 y1 y2 y3 hq (zy _ (.inl rfl))
 obtain⟨hb,_⟩:=zdU sy by_ y0 y1 y2 y3 hq (zy _ (.inr rfl))
 unfold inZ at n1 n2 hz
 simp only at n1 n2 hz
 refine zpq hpp hqq hl hr ht hb (by omega) (by omega) ?_
 rcases hz with hz | hz
 ·
  left;omega
 ·
  right;omega
section
theorem ziS {t:zA}{x y q:Int}{d:Lev.Dir}(h0:Lev.dx d=0)(h1:Lev.dy d=q):FrP t (x,y) d↔OnP t (x,y)∧OnP t (x,y+q)∧z8 t ⟨gx (XL t) x,gx (YL t) y⟩ ⟨gx (XL t) x,gx (YL t) (y+q)⟩=false:=by
 unfold FrP Lev.mv ptP
 rw[h0,h1]
 simp only[Int.one_mul,Int.mul_zero,Int.add_zero]
theorem ziR {t:zA}{x y p:Int}{d:Lev.Dir}(h0:Lev.dy d=0)(h1:Lev.dx d=p):FrP t (x,y) d↔OnP t (x,y)∧OnP t (x+p,y)∧z8 t ⟨gx (XL t) x,gx (YL t) y⟩ ⟨gx (XL t) (x+p),gx (YL t) y⟩=false:=by
 unfold FrP Lev.mv ptP
 rw[h0,h1]
 simp only[Int.one_mul,Int.mul_zero,Int.add_zero]
theorem zjA {x y q:Int}{d:Lev.Dir}(h0:Lev.dx d=0)(h1:Lev.dy d=q):Lev.mv (x,y) d 1=(x,y+q):=by
 unfold Lev.mv;rw[h0,h1];simp
theorem zjz {x y p:Int}{d:Lev.Dir}(h0:Lev.dy d=0)(h1:Lev.dx d=p):Lev.mv (x,y) d 1=(x+p,y):=by
 unfold Lev.mv;rw[h0,h1];simp
theorem zh7 {t:zA}{x y p q:Int}{v e:Lev.Dir}(v0:Lev.dx v=0)(v1:Lev.dy v=q)(e0:Lev.dy e=0)(e1:Lev.dx e=p)(hp:p=1∨p = -1)(hq:q=1∨q = -1)(hv:FrP t (x,y) v)(he:FrP t (x,y) e):
  (∃j:Nat,∃h:j<t.Walls.length,gx (XL t) x=(if p=1 then(zn t t.Walls[j]).left else(zn t t.Walls[j]).right)∧gx (YL t) y=if q=1 then(zn t t.Walls[j]).top else(zn t t.Walls[j]).bottom)∨(FrP t (x,y+q) e∧FrP t (x+p,y) v):=by
 obtain⟨o0,o1,f2⟩:=(ziS v0 v1).1 hv
 obtain⟨_,o2,f1⟩:=(ziR e0 e1).1 he
 rw[ziR e0 e1,ziS v0 v1]
 unfold OnP at o0 o1 o2⊢
 simp only at o0 o1 o2⊢
 by_cases c1:z8 t ⟨gx (XL t) x,gx (YL t) (y+q)⟩ ⟨gx (XL t) (x+p),gx (YL t) (y+q)⟩=false
 ·
  by_cases c2:z8 t ⟨gx (XL t) (x+p),gx (YL t) y⟩ ⟨gx (XL t) (x+p),gx (YL t) (y+q)⟩=false
  ·
   right
   exact⟨⟨by omega,by omega,c1⟩,⟨by omega,by omega,c2⟩⟩
  ·
   left
   obtain⟨w,hw,hz⟩:=Qb.1 (by simpa using c2)
   obtain⟨j,hj,rfl⟩:=List.mem_iff_getElem.1 hw
   exact⟨j,hj,zh8 hw hp hq o0.1 o0.2.1 o2.1 o2.2.1 o0.2.2.1 o0.2.2.2 o1.2.2.1 o1.2.2.2 f1 f2 (.inr hz)⟩
 ·
  left
  obtain⟨w,hw,hz⟩:=Qb.1 (by simpa using c1)
  obtain⟨j,hj,rfl⟩:=List.mem_iff_getElem.1 hw
  exact⟨j,hj,zh8 hw hp hq o0.1 o0.2.1 o2.1 o2.2.1 o0.2.2.1 o0.2.2.2 o1.2.2.1 o1.2.2.2 f1 f2 (.inl hz)⟩
theorem zmy {t:zA}(u:Lev.Pos)(a e:Lev.Dir)(hp:Lev.perp a e)(ha:FrP t u a)(he:FrP t u e):zcZ t u a e∨(FrP t (Lev.mv u a 1) e∧FrP t (Lev.mv u e 1) a):=by
 obtain⟨x,y⟩:=u
 have hpp:(Lev.dx a=0∧Lev.dy e=0∧(Lev.dx e=1∨Lev.dx e = -1)∧(Lev.dy a=1∨Lev.dy a = -1))∨(Lev.dy a=0∧Lev.dx e=0∧(Lev.dx a=1∨Lev.dx a = -1)∧(Lev.dy e=1∨Lev.dy e = -1)):=by
  revert hp;unfold Lev.perp;cases a<;>cases e<;>decide
 rcases hpp with⟨h1,h2,h3,h4⟩ | ⟨h1,h2,h3,h4⟩
 ·
  rw[zjA h1 rfl,zjz h2 rfl]
  rcases zh7 h1 rfl h2 rfl h3 h4 ha he with⟨j,hj,g1,g2⟩ | ⟨g1,g2⟩
  ·
   left
   refine⟨ha.1,hp,j,hj,?_⟩
   unfold ptP zde zdf
   rw[h1,h2,Int.zero_add,Int.add_zero]
   simp only[g1,g2]
  ·
   exact .inr ⟨g1,g2⟩
 ·
  rw[zjz h1 rfl,zjA h2 rfl]
  rcases zh7 h2 rfl h1 rfl h3 h4 he ha with⟨j,hj,g1,g2⟩ | ⟨g1,g2⟩
  ·
   left
   refine⟨ha.1,hp,j,hj,?_⟩
   unfold ptP zde zdf
   rw[h1,h2,Int.add_zero,Int.zero_add]
   simp only[g1,g2]
  ·
   exact .inr ⟨g2,g1⟩
noncomputable def Ql (t:zA)(fr:zt):Lev.Net where
 fr:=FrP t
 sym:=fun u d h=>by
  obtain⟨h1,h2,h3⟩:=h
  have e:Lev.mv (Lev.mv u d 1) (Lev.opp d) 1=u:=by
   rw[Lev.mv_opp,Lev.mv_mv,show(1:Int) + -1=0 by omega,Lev.mv_zero]
  exact⟨h2,by rw[e];exact h1,by rw[e,zmn];exact h3⟩
 cor:=zcZ t
 cell:=zmy
 s:=(fr.x,fr.y)
 g:=drO t.FromSide
def code (a e:Lev.Dir):Nat:=(if Lev.dx a=0 then 0 else 4)+(if Lev.dx a+Lev.dx e=1 then 0 else 2)+(if Lev.dy a+Lev.dy e=1 then 0 else 1)
theorem zfy (a e:Lev.Dir):code a e<8:=by cases a<;>cases e<;>decide
theorem zmE {a e a' e':Lev.Dir}(h:Lev.perp a e)(h':Lev.perp a' e')(hc:code a e=code a' e'):a=a'∧e=e':=by
 revert h h' hc;unfold Lev.perp;cases a<;>cases e<;>cases a'<;>cases e'<;>decide
open Classical in
noncomputable def zhs (t:zA)(u:Lev.Pos)(a e:Lev.Dir):Nat:=if h:zcZ t u a e then 8*h.2.2.choose+code a e else 0
theorem zht {t:zA}{u:Lev.Pos}{a e:Lev.Dir}(h:zcZ t u a e):∃j:Nat,∃hj:j<t.Walls.length,zhs t u a e=8*j+code a e∧ptP t u=⟨zde (zn t t.Walls[j]) a e,zdf (zn t t.Walls[j]) a e⟩:=by
 obtain⟨hj,hp⟩:=h.2.2.choose_spec
 exact⟨h.2.2.choose,hj,by unfold zhs;rw[dif_pos h],hp⟩
theorem zpo {t:zA}{u u':Lev.Pos}(h:OnP t u)(h':OnP t u')(he:ptP t u=ptP t u'):u=u':=by
 have sx:=jj (xv t);have sy:=jj (yv t)
 change (XL t).Pairwise (· < ·)at sx
 change (YL t).Pairwise (· < ·)at sy
 obtain⟨x,y⟩:=u
 obtain⟨x',y'⟩:=u'
 unfold ptP at he
 unfold OnP at h h'
 simp only[zd.mk.injEq]at he h h'
 have e1:x=x':=by
  rcases Int.lt_trichotomy x x' with c | c | c
  ·
   have:=ju sx h.1 c h'.2.1;omega
  ·
   exact c
  ·
   have:=ju sx h'.1 c h.2.1;omega
 have e2:y=y':=by
  rcases Int.lt_trichotomy y y' with c | c | c
  ·
   have:=ju sy h.2.2.1 c h'.2.2.2;omega
  ·
   exact c
  ·
   have:=ju sy h'.2.2.1 c h.2.2.2;omega
 rw[e1,e2]
theorem zjC {t:zA}(h:yw t){fr:zt}{n:Nat}{u:Lev.Pos}{d:Lev.Dir}(hr:(Ql t fr).R n u d):∃m,m≤820∧(Ql t fr).R m u d:=by
 have hf:=h.few
 obtain⟨m,_,h2,h3⟩:=Lev.Net.bound (Ql t fr) 800 (zhs t) (fun u a e hc=>by
  obtain⟨j,hj,h1,_⟩:=zht hc
  have:=zfy a e
  omega) (fun u a e u' a' e' hc hc' he=>by
  obtain⟨j,hj,h1,h2⟩:=zht hc
  obtain⟨j',hj',h1',h2'⟩:=zht hc'
  have c1:=zfy a e;have c2:=zfy a' e'
  have ej:j=j':=by omega
  obtain⟨ea,ee⟩:=zmE hc.2.1 hc'.2.1 (by omega)
  subst ej ea ee
  exact⟨zpo hc.1 hc'.1 (h2.trans h2'.symm),rfl⟩) hr
 exact⟨m,by omega,h3.1⟩
theorem zrG {t:zA}{s:yd}(hS:Sea s (nxT t))(eX:s.xs=XL t)(eY:s.ys=YL t){fr tq:zt}(hE:vB t fr tq)(hf:InS s fr)(ht:InS s tq){l:List zt}{q:zt}{b n:Int}(htr:Tr (nxT t) fr tq l q b n):
  0≤b∧((Ql t fr).R b.toNat (q.x,q.y) (drO q.side)∨(q=tq∧∃p,InS s p∧p.x=tq.x∧p.y=tq.y∧p.side≠yq tq.side∧∃b1:Nat,(Ql t fr).R b1 (p.x,p.y) (drO p.side))):=by
 induction htr with
 | one=>
  refine⟨Int.le_refl _,.inl ?_⟩
  rw[hE.fs]
  exact .ini 0
 | @snoc l p b n q b' n' htr hne hEd ih=>
  obtain⟨b0,ih⟩:=ih
  have hp:=(htr.all hS hf ht).1
  have ihn:=ih.resolve_right (fun hh=>hne hh.1)
  clear ih
  rcases hEd with⟨side,s1,s4,hb,hn,rfl⟩ | ⟨rfl,hx,hy,hs,rfl,rfl⟩
  ·
   unfold nxT at hn
   split at hn
   ·
    rename_i hc
    obtain⟨hon,hblk⟩:=hc
    simp only[Option.some.injEq,Prod.mk.injEq]at hn
    obtain⟨rfl,_⟩:=hn
    have hd:=zk6 (drO side)
    rw[Jb s1 s4]at hd
    have hmv:Lev.mv (p.x,p.y) (drO side) 1=((sd p side).x,(sd p side).y):=by
     unfold Lev.mv sd
     rw[hd];simp
    have hfr:FrP t (p.x,p.y) (drO side):=by
     refine⟨⟨hp.x0,by rw[←eX];exact hp.x1,hp.y0,by rw[←eY];exact hp.y1⟩,by rw[hmv];exact hon,?_⟩
     rw[hmv];exact hblk
    by_cases cs:side=p.side
    ·
     rw[if_pos cs,Int.add_zero]
     refine⟨b0,.inl ?_⟩
     have:=Lev.Net.R.go (N:=Ql t fr) ihn (by rw[←cs];exact hfr)
     rw[←cs,hmv]at this
     exact this
    ·
     rw[if_neg cs]
     refine⟨by omega,.inl ?_⟩
     have hperp:Lev.perp (drO p.side) (drO side):=by
      refine⟨fun e=>cs ?_,fun e=>hb ?_⟩
      ·
       rw[←Jb s1 s4,←e,Jb hp.s1 hp.s4]
      ·
       have:=zh0 (drO side)
       rw[Jb s1 s4,←e,Jb hp.s1 hp.s4]at this
       rw[←this,zbD s1 s4]
     have:=Lev.Net.R.tn (N:=Ql t fr) ihn hperp hfr
     rw[hmv,show b.toNat+1=(b+1).toNat by omega]at this
     exact this
   ·
    cases hn
  ·
   exact⟨by omega,.inr ⟨rfl,p,hp,hx,hy,hs,_,ihn⟩⟩
theorem zjD {t:zA}{fr tq:zt}(hE:vB t fr tq)(hs1:1≤t.FromSide∧t.FromSide≤4){n:Nat}{u:Lev.Pos}{d:Lev.Dir}(hr:(Ql t fr).R n u d):∃b m,b≤(n:Int)∧Rch (nxT t) fr tq ⟨u.1,u.2,sdO d⟩ b m:=by
 have edge:∀{u:Lev.Pos} {d:Lev.Dir} (x:Lev.Dir),FrP t u d→nxT t ⟨u.1,u.2,sdO x⟩ (sdO d)=some (⟨(Lev.mv u d 1).1,(Lev.mv u d 1).2,sdO d⟩,yy (ptP t u) (ptP t (Lev.mv u d 1))):=by
  intro u d x h
  have hsd:sd ⟨u.1,u.2,sdO x⟩ (sdO d)=⟨(Lev.mv u d 1).1,(Lev.mv u d 1).2,sdO d⟩:=by
   unfold sd Lev.mv
   rw[zk6];simp
  unfold nxT
  rw[hsd,if_pos ⟨h.2.1,h.2.2⟩];rfl
 induction hr with
 | ini n=>
  refine⟨0,0,by omega,?_⟩
  have:(⟨(Ql t fr).s.1,(Ql t fr).s.2,sdO (Ql t fr).g⟩:zt)=fr:=by
   show(⟨fr.x,fr.y,sdO (drO t.FromSide)⟩:zt)=fr
   rw[Jb hs1.1 hs1.2,←hE.fs]
  rw[this]
  exact .inl ⟨_,.one⟩
 | @go n u d h f ih=>
  obtain⟨b,m,hb,hr⟩:=ih
  have hi:=zkA d
  refine⟨b+0,m+_,by omega,hr.step (.inl ⟨sdO d,hi.1,hi.2,zh1 hi.1 hi.2,edge d f,by simp⟩) (Int.le_refl _) (ziA _ _)⟩
 | @tn n u d e h hp f ih=>
  obtain⟨b,m,hb,hr⟩:=ih
  have hi:=zkA e
  refine⟨b+1,m+_,by omega,hr.step (.inl ⟨sdO e,hi.1,hi.2,?_,edge d f,?_⟩) (by omega) (ziA _ _)⟩
  ·
   rw[zh0]
   intro hh
   exact(Lev.perp_symm hp).2 (zkB hh)
  ·
   rw[if_neg]
   intro hh
   exact hp.1 (zkB hh).symm
theorem znd {t:zA}(h:yw t){fr tq:zt}(hE:vB t fr tq){way:List zt}{b n:Int}(hF:zbw t fr tq way b n):b≤998:=by
 have hs1:=jI.1 h.fs
 have hs2:=jI.1 h.ts
 have hbk:=zbE hs2.1 hs2.2
 obtain⟨s,_,eX,eY,hS⟩:=zeL h
 have inF:InS s fr:=⟨hE.fo.1,by rw[eX];exact hE.fo.2.1,hE.fo.2.2.1,by rw[eY];exact hE.fo.2.2.2,by rw[hE.fs];exact hs1.1,by rw[hE.fs];exact hs1.2⟩
 have inT:InS s tq:=⟨hE.eo.1,by rw[eX];exact hE.eo.2.1,hE.eo.2.2.1,by rw[eY];exact hE.eo.2.2.2,by rw[hE.ts];exact hbk.1,by rw[hE.ts];exact hbk.2⟩
 obtain⟨b0,hN⟩:=zrG hS eX eY hE inF inT hF.tr
 have fin:∀b' n',Rch (nxT t) fr tq tq b' n'→b'≤821→b≤998:=fun b' n' hr hb=>by
  obtain⟨l,b1,n1,htr,hle⟩:=hr.to_
  have:=hF.least _ _ _ htr
  omega
 rcases hN with hr | ⟨_,p,hp,hx,hy,hs,b1,hr⟩
 ·
  obtain⟨m,hm,hr⟩:=zjC h hr
  obtain⟨b',n',hb',hr'⟩:=zjD (tq:=tq) hE hs1 hr
  rw[Jb inT.s1 inT.s4]at hr'
  exact fin b' n' hr' (by omega)
 ·
  obtain⟨m,hm,hr⟩:=zjC h hr
  obtain⟨b',n',hb',hr'⟩:=zjD (tq:=tq) hE hs1 hr
  rw[Jb hp.s1 hp.s4]at hr'
  exact fin (b'+1) (n'+0) (hr'.step (.inr ⟨rfl,hx,hy,hs,rfl,rfl⟩) (by omega) (Int.le_refl _)) (by omega)
end
end Go.DB
namespace Go.DB.Fifo
section
structure G (S:Type) where
 nx:S→Int→Option (S×Int)
 par:S→Bool
 all:List S
 M:Int
 att:S→Int→Prop
variable {S:Type} [DecidableEq S]
def put (f:S→Option Int)(k:S)(v:Int):S→Option Int:=fun x=>if x=k then some v else f x
def val (f:S→Option Int)(s:S):Int:=(f s).getD 0
def look (N:G S)(s:S)(k:Int)(st:List S×(S→Option Int)):List S×(S→Option Int):=
 match N.nx s k with
 | none=>st
 | some (n,d)=>if st.2 n=none∨val st.2 s+d<val st.2 n then(st.1++[n],put st.2 n (val st.2 s+d))else st
structure Ok (N:G S):Prop where
 m0:0≤N.M
 nx:∀s k n d,s∈N.all→N.nx s k=some (n,d)→n∈N.all∧N.par n=!N.par s∧0≤d∧d≤N.M∧∀c,N.att s c→N.att n (c+d)
omit [DecidableEq S]in
theorem countP_mono {p q:S→Bool}:∀{l:List S},(∀x∈l,p x=true→q x=true)→l.countP p≤l.countP q
 | [],_=>by simp
 | a::l,h=>by
  have ih:=countP_mono (p:=p) (q:=q) (l:=l) (fun x hx=>h x (List.mem_cons_of_mem _ hx))
  have ha:=h a (List.mem_cons_self ..)
  rw[List.countP_cons,List.countP_cons]
  cases e:p a with
  | false=>simp;omega
  | true=>rw[ha e];simp;omega
omit [DecidableEq S]in
theorem countP_more {p q:S→Bool}{s:S}:∀{l:List S},(∀x∈l,p x=true→q x=true)→s∈l→p s=false→q s=true→l.countP p+1≤l.countP q
 | [],_,h,_,_=>by cases h
 | a::l,h,hs,h1,h2=>by
  have ha:=h a (List.mem_cons_self ..)
  have hl:∀x∈l,p x=true→q x=true:=fun x hx=>h x (List.mem_cons_of_mem _ hx)
  rw[List.countP_cons,List.countP_cons]
  by_cases e:s∈l
  ·
   have ih:=countP_more hl e h1 h2
   cases e:p a with
   | false=>simp;omega
   | true=>rw[ha e];simp;omega
  ·
   have:s=a:=by
    rcases List.mem_cons.1 hs with h | h
    ·
     exact h
    ·
     exact absurd h e
   subst this
   have:=countP_mono hl
   rw[h1,h2];simp;omega
omit [DecidableEq S]in
theorem sum_mono {g g':S→Nat}:∀{l:List S},(∀x∈l,g' x≤g x)→(l.map g').sum≤(l.map g).sum
 | [],_=>by simp
 | a::l,h=>by
  have ih:=sum_mono (g:=g) (g':=g') (l:=l) (fun x hx=>h x (List.mem_cons_of_mem _ hx))
  have:=h a (List.mem_cons_self ..)
  simp only[List.map_cons,List.sum_cons];omega
omit [DecidableEq S]in
theorem sum_less {g g':S→Nat}{s:S}:∀{l:List S},(∀x∈l,g' x≤g x)→s∈l→g' s<g s→(l.map g').sum+1≤(l.map g).sum
 | [],_,h,_=>by cases h
 | a::l,h,hs,h1=>by
  have hl:∀x∈l,g' x≤g x:=fun x hx=>h x (List.mem_cons_of_mem _ hx)
  have ha:=h a (List.mem_cons_self ..)
  simp only[List.map_cons,List.sum_cons]
  by_cases e:s∈l
  ·
   have ih:=sum_less hl e h1
   omega
  ·
   have:s=a:=by
    rcases List.mem_cons.1 hs with h | h
    ·
     exact h
    ·
     exact absurd h e
   subst this
   have:=sum_mono hl
   omega
def seen (N:G S)(f:S→Option Int):Nat:=N.all.countP fun s=>(f s).isSome
structure Good (N:G S) (f:S→Option Int):Prop where
 at_:∀s c,f s=some c→s∈N.all∧0≤c∧c≤((seen N f:Int) - 1)*N.M∧N.att s c
def Le (f' f:S→Option Int):Prop:=∀s c,f s=some c→∃c',f' s=some c'∧c'≤c
def Rlx (N:G S)(f:S→Option Int)(s:S)(k:Int):Prop:=∀n d,N.nx s k=some (n,d)→∃c,f n=some c∧c≤val f s+d
def phi (N:G S)(f:S→Option Int):Nat:=(N.all.map fun s=>match f s with
 | none=>(N.all.length*N.M).toNat+1
 | some c=>c.toNat).sum
omit [DecidableEq S]in
theorem Le.refl (f:S→Option Int):Le f f:=fun s c h=>⟨c,h,Int.le_refl _⟩
omit [DecidableEq S]in
theorem Le.trans {f g h:S→Option Int}(a:Le f g)(b:Le g h):Le f h:=fun s c e=>by
 obtain⟨c1,e1,h1⟩:=b s c e
 obtain⟨c2,e2,h2⟩:=a s c1 e1
 exact⟨c2,e2,by omega⟩
omit [DecidableEq S]in
theorem Le.some {f' f:S→Option Int}(a:Le f' f){s:S}(h:f s≠none):f' s≠none:=by
 cases e:f s with
 | none=>exact absurd e h
 | some c=>
  obtain⟨c',h',_⟩:=a s c e
  rw[h'];simp
omit [DecidableEq S]in
theorem Rlx.mono {N:G S}{f' f:S→Option Int}(a:Le f' f){s:S}{k:Int}(hs:f' s=f s)(h:Rlx N f s k):Rlx N f' s k:=fun n d hn=>by
 obtain⟨c,e,h1⟩:=h n d hn
 obtain⟨c',e',h2⟩:=a n c e
 exact⟨c',e',by unfold val at *;rw[hs];omega⟩
structure Stp (N:G S) (s:S) (ks:List Int) (q:List S) (f:S→Option Int) (P:List S) (f':S→Option Int):Prop where
 len:P.length≤ks.length
 good:Good N f'
 le:Le f' f
 par:∀x,N.par x=N.par s→f' x=f x
 ch:∀x,f' x≠f x→x∈P
 new:∀x∈P,N.par x=!N.par s∧f' x≠none
 phi:phi N f'+P.length≤phi N f
 rlx:∀k∈ks,Rlx N f' s k
 same:(∀k∈ks,Rlx N f s k)→P=[]∧f'=f
theorem look_ok {N:G S}(hN:Ok N){s:S}{k:Int}{q:List S}{f:S→Option Int}(hg:Good N f)(hs:f s≠none):∃P f',look N s k (q,f)=(q++P,f')∧Stp N s [k] q f P f':=by
 have hm:=hN.m0
 cases hc:f s with
 | none=>exact absurd hc hs
 | some cs=>
 obtain⟨g1,g2,g3,g4⟩:=hg.at_ s cs hc
 have hv:val f s=cs:=by unfold val;rw[hc];rfl
 unfold look
 cases hn:N.nx s k with
 | none => exact ⟨[], f, by simp, ⟨by simp, hg, Le.refl _, fun _ _ => rfl, fun x h => absurd rfl h, by simp, by simp, (fun k' hk n d h => by
   simp at hk;subst hk;rw[hn]at h;cases h),fun _=>⟨rfl,rfl⟩⟩⟩
 | some nd=>
  obtain⟨n,d⟩:=nd
  obtain⟨n1,n2,n3,n4,n5⟩:=hN.nx s k n d g1 hn
  have hns:n≠s:=fun e=>by rw[e]at n2;cases h:N.par s<;>rw[h]at n2<;>cases n2
  simp only
  by_cases c:f n=none∨val f s+d<val f n
  ·
   rw[if_pos c]
   have hle:Le (put f n (val f s+d)) f:=fun x cx hx=>by
    unfold put
    by_cases e:x=n
    ·
     rw[if_pos e]
     refine⟨_,rfl,?_⟩
     rcases c with c | c
     ·
      rw[←e,hx]at c;cases c
     ·
      have:val f n=cx:=by unfold val;rw[←e,hx];rfl
      omega
    ·
     rw[if_neg e];exact⟨cx,hx,Int.le_refl _⟩
   have hat:put f n (val f s+d) n=some (val f s+d):=by unfold put;rw[if_pos rfl]
   have hother:∀x,x≠n→put f n (val f s+d) x=f x:=fun x hx=>by unfold put;rw[if_neg hx]
   have hmono:∀x∈N.all,(f x).isSome=true→(put f n (val f s+d) x).isSome=true:=fun x _ hx=>by
    by_cases e:x=n
    ·
     rw[e,hat];rfl
    ·
     rw[hother x e];exact hx
   have hs1:seen N f≤seen N (put f n (val f s+d)):=countP_mono hmono
   have hmul:∀a b:Nat,a≤b→((a:Int) - 1)*N.M≤((b:Int) - 1)*N.M:=fun a b h=>Int.mul_le_mul_of_nonneg_right (by omega) hm
   have hnew:val f s+d≤((seen N (put f n (val f s+d)):Int) - 1)*N.M:=by
    by_cases e:f n=none
    ·
     have h2:seen N f+1≤seen N (put f n (val f s+d)):=countP_more hmono n1 (by rw[e];rfl) (by rw[hat];rfl)
     have h3:=hmul _ _ h2
     have h4:(((seen N f+1:Nat):Int) - 1)*N.M=((seen N f:Int) - 1)*N.M+N.M:=by
      rw[show((seen N f+1:Nat):Int) - 1=((seen N f:Int) - 1)+1 by omega,Int.add_mul,Int.one_mul]
     omega
    ·
     have c:=c.resolve_left e
     cases e2:f n with
     | none=>exact absurd e2 e
     | some cn=>
      have:=(hg.at_ n cn e2).2.2.1
      have hvn:val f n=cn:=by unfold val;rw[e2];rfl
      have:=hmul _ _ hs1
      omega
   refine⟨[n],_,rfl,⟨by simp,⟨fun x cx hx=>?_⟩,hle,fun x hx=>?_,fun x hx=>?_,fun x hx=>?_,?_,fun k' hk n' d' h=>?_,fun h=>?_⟩⟩
   ·
    by_cases e:x=n
    ·
     rw[e,hat]at hx
     simp at hx;subst hx;subst e
     refine⟨n1,by omega,hnew,?_⟩
     rw[hv];exact n5 _ g4
    ·
     rw[hother x e]at hx
     obtain⟨h1,h2,h3,h4⟩:=hg.at_ x cx hx
     have:=hmul _ _ hs1
     exact⟨h1,h2,by omega,h4⟩
   ·
    refine hother x fun e=>?_
    rw[e,n2]at hx
    cases h:N.par s<;>rw[h]at hx<;>cases hx
   ·
    rw[List.mem_singleton]
    exact Classical.byContradiction fun e=>hx (hother x e)
   ·
    rw[List.mem_singleton]at hx
    subst hx
    exact⟨n2,by rw[hat];simp⟩
   ·
    unfold phi
    rw[List.length_singleton]
    refine sum_less (s:=n) (fun x hx=>?_) n1 ?_
    ·
     by_cases e:x=n
     ·
      subst e
      rw[hat]
      simp only
      cases e2:f x with
      | none=>
       simp only
       have hsl:seen N (put f x (val f s+d))≤N.all.length:=List.countP_le_length
       have hx2:=hmul _ _ hsl
       have:((N.all.length:Int) - 1)*N.M=(N.all.length:Int)*N.M - N.M:=by rw[Int.sub_mul,Int.one_mul]
       omega
      | some cn=>
       have hvn:val f x=cn:=by unfold val;rw[e2];rfl
       simp only
       rcases c with c | c
       ·
        rw[e2]at c;cases c
       ·
        omega
     ·
      rw[hother x e]
      exact Nat.le_refl _
    ·
     rw[hat]
     simp only
     cases e2:f n with
     | none=>
      simp only
      have hsl:seen N (put f n (val f s+d))≤N.all.length:=List.countP_le_length
      have hx2:=hmul _ _ hsl
      have:((N.all.length:Int) - 1)*N.M=(N.all.length:Int)*N.M - N.M:=by rw[Int.sub_mul,Int.one_mul]
      omega
     | some cn=>
      have hvn:val f n=cn:=by unfold val;rw[e2];rfl
      have:=(hg.at_ n cn e2).2.1
      simp only
      rcases c with c | c
      ·
       rw[e2]at c;cases c
      ·
       omega
   ·
    simp at hk;subst hk
    rw[hn]at h
    simp only[Option.some.injEq,Prod.mk.injEq]at h
    obtain⟨rfl,rfl⟩:=h
    refine⟨_,hat,?_⟩
    have:val (put f n (val f s+d)) s=val f s:=by
     have:=hother s (fun e=>hns e.symm)
     rw[val,this];rfl
    omega
   ·
    obtain⟨cn,h1,h2⟩:=h k (List.mem_singleton.2 rfl) n d hn
    rcases c with c | c
    ·
     rw[h1]at c;cases c
    ·
     have hvn:val f n=cn:=by unfold val;rw[h1];rfl
     omega
  ·
   rw[if_neg c]
   refine⟨[],f,by simp,⟨by simp,hg,Le.refl _,fun _ _=>rfl,fun x h=>absurd rfl h,by simp,by simp,fun k' hk n' d' h=>?_,fun _=>⟨rfl,rfl⟩⟩⟩
   simp at hk;subst hk
   rw[hn]at h
   simp only[Option.some.injEq,Prod.mk.injEq]at h
   obtain⟨rfl,rfl⟩:=h
   cases e:f n with
   | none=>exact absurd (.inl e) c
   | some cn=>
    have hvn:val f n=cn:=by unfold val;rw[e];rfl
    refine⟨cn,rfl,?_⟩
    have:¬val f s+d<val f n:=fun h=>c (.inr h)
    omega
omit [DecidableEq S]in
theorem Stp.snoc {N:G S}{s:S}{k:Int}{ks:List Int}{q P P':List S}{f f' f'':S→Option Int}(a:Stp N s ks q f P f')(b:Stp N s [k] (q++P) f' P' f''):Stp N s (ks++[k]) q f (P++P') f'':=by
 refine⟨?_,b.good,b.le.trans a.le,fun x hx=>(b.par x hx).trans (a.par x hx),fun x hx=>?_,fun x hx=>?_,?_,fun k' hk=>?_,fun h=>?_⟩
 ·
  have:=a.len;have:=b.len;simp at *;omega
 ·
  rw[List.mem_append]
  by_cases e:f'' x=f' x
  ·
   exact .inl (a.ch x fun e2=>hx (e.trans e2))
  ·
   exact .inr (b.ch x e)
 ·
  rcases List.mem_append.1 hx with h | h
  ·
   exact⟨(a.new x h).1,b.le.some (a.new x h).2⟩
  ·
   exact b.new x h
 ·
  have:=a.phi;have:=b.phi;rw[List.length_append];omega
 ·
  rcases List.mem_append.1 hk with h | h
  ·
   exact(a.rlx k' h).mono b.le (b.par s rfl)
  ·
   exact b.rlx k' h
 ·
  obtain⟨h1,h2⟩:=a.same fun k' hk=>h k' (List.mem_append_left _ hk)
  obtain⟨h3,h4⟩:=b.same fun k' hk=>by rw[h2];exact h k' (List.mem_append_right _ hk)
  exact⟨by rw[h1,h3];rfl,h4.trans h2⟩
def AllR (N:G S)(f:S→Option Int)(s:S):Prop:=∀k∈[(1:Int),2,3,4],Rlx N f s k
open Classical in
noncomputable def done (N:G S)(i:Bool)(f:S→Option Int):Nat:=N.all.countP fun s=>decide (N.par s=i∧f s≠none∧AllR N f s)
structure Inv (N:G S) (i:Bool) (A B:List S) (f:S→Option Int):Prop where
 good:Good N f
 a:∀x∈A,N.par x=i∧f x≠none
 b:∀x∈B,N.par x=!i∧f x≠none
 rq:∀x,f x≠none→AllR N f x∨x∈A∨x∈B
 bl:B.length≤4*done N i f
 al:A.length≤4*N.all.length
def J (N:G S)(st:List S×(S→Option Int)):Prop:=∃i A B,st.1=A++B∧Inv N i A B st.2
omit [DecidableEq S]in
theorem Inv.swap {N:G S}{i:Bool}{B:List S}{f:S→Option Int}(h:Inv N i [] B f):Inv N (!i) B [] f:=by
 refine⟨h.good,h.b,by simp,fun x hx=>?_,by simp,?_⟩
 ·
  rcases h.rq x hx with h | h | h
  ·
   exact .inl h
  ·
   cases h
  ·
   exact .inr (.inl h)
 ·
  have:=h.bl
  have h2:done N i f≤N.all.length:=List.countP_le_length
  omega
omit [DecidableEq S]in
theorem Inv.len {N:G S}{i:Bool}{A B:List S}{f:S→Option Int}(h:Inv N i A B f):(A++B).length≤8*N.all.length:=by
 have:=h.bl;have:=h.al
 have h2:done N i f≤N.all.length:=List.countP_le_length
 rw[List.length_append];omega
omit [DecidableEq S]in
theorem J.len {N:G S}{st:List S×(S→Option Int)}(h:J N st):st.1.length≤8*N.all.length:=by
 obtain⟨i,A,B,e,h⟩:=h
 rw[e];exact h.len
omit [DecidableEq S]in
theorem J.head {N:G S}{s:S}{q:List S}{f:S→Option Int}(h:J N (s::q,f)):∃i A B,q=A++B∧Inv N i (s::A) B f:=by
 obtain⟨i,A,B,e,h⟩:=h
 cases A with
 | nil=>
  simp at e
  have:=h.swap
  rw[←e]at this
  exact⟨!i,q,[],by simp,this⟩
 | cons a A=>
  simp at e
  obtain⟨rfl,rfl⟩:=e
  exact⟨i,A,B,rfl,h⟩
omit [DecidableEq S]in
theorem J.step {N:G S}{s:S}{q P:List S}{f f':S→Option Int}(h:J N (s::q,f))(hs:Stp N s [1,2,3,4] q f P f'):J N (q++P,f')∧2*phi N f'+(q++P).length<2*phi N f+(s::q).length:=by
 obtain⟨i,A,B,rfl,hI⟩:=h.head
 obtain⟨si,sn⟩:=hI.a s (List.mem_cons_self ..)
 constructor
 ·
  refine⟨i,A,B++P,by simp,⟨hs.good,fun x hx=>?_,fun x hx=>?_,fun x hx=>?_,?_,?_⟩⟩
  ·
   obtain⟨h1,h2⟩:=hI.a x (List.mem_cons_of_mem _ hx)
   exact⟨h1,hs.le.some h2⟩
  ·
   rcases List.mem_append.1 hx with h | h
   ·
    exact⟨(hI.b x h).1,hs.le.some (hI.b x h).2⟩
   ·
    have:=hs.new x h
    rw[si]at this;exact this
  ·
   by_cases e:f' x=f x
   ·
    have hr:=hI.rq x (by rw[←e];exact hx)
    rcases hr with h | h | h
    ·
     exact .inl fun k hk=>(h k hk).mono hs.le e
    ·
     rcases List.mem_cons.1 h with h | h
     ·
      subst h;exact .inl hs.rlx
     ·
      exact .inr (.inl h)
    ·
     exact .inr (.inr (List.mem_append_left _ h))
   ·
    exact .inr (.inr (List.mem_append_right _ (hs.ch x e)))
  ·
   have hmono:∀x∈N.all,N.par x=i∧f x≠none∧AllR N f x→N.par x=i∧f' x≠none∧AllR N f' x:=fun x _ ⟨h1,h2,h3⟩=>by
    have e:=hs.par x (by rw[h1,si])
    exact⟨h1,by rw[e];exact h2,fun k hk=>(h3 k hk).mono hs.le e⟩
   by_cases hr:AllR N f s
   ·
    obtain⟨h1,h2⟩:=hs.same hr
    rw[h1,h2,List.append_nil];exact hI.bl
   ·
    have hin:s∈N.all:=by
     cases hc:f s with
     | none=>exact absurd hc sn
     | some c=>exact(hI.good.at_ s c hc).1
    have h1:done N i f+1≤done N i f':=by
     unfold done
     refine countP_more (fun x hx h=>?_) hin ?_ ?_
     ·
      simp only[decide_eq_true_eq]at h⊢;exact hmono x hx h
     ·
      simp only[decide_eq_false_iff_not];exact fun h=>hr h.2.2
     ·
      simp only[decide_eq_true_eq];exact⟨si,hs.le.some sn,hs.rlx⟩
    have:=hI.bl
    have:=hs.len
    rw[List.length_append];simp at *;omega
  ·
   have:=hI.al;simp at this;omega
 ·
  have:=hs.phi
  simp only[List.length_append,List.length_cons];omega
end
end Go.DB.Fifo
namespace Go.DB
open Go Go.RowKit
def spR (s:zQ):zt:=⟨s.x,s.y,s.way⟩
def stR (p:zt):zQ:=⟨p.x,p.y,p.side⟩
theorem zk0 (p:zt):spR (stR p)=p:=rfl
noncomputable def nxR (t:zA)(s:zQ)(k:Int):Option (zQ×Int):=
 if k=yq s.way∨k<1∨4<k then none else(nxT t (spR s) k).map fun r=>(stR r.1,r.2+if k=s.way then 0 else 1099511627776)
noncomputable def j9 (t:zA):List zQ:=(List.range (XL t).length).flatMap fun(x:Nat)=>(List.range (YL t).length).flatMap fun(y:Nat)=>[⟨(x:Int),(y:Int),1⟩,⟨(x:Int),(y:Int),2⟩,⟨(x:Int),(y:Int),3⟩,⟨(x:Int),(y:Int),4⟩]
theorem zbC {t:zA}{s:zQ}:s∈j9 t↔OnN t (spR s)∧1≤s.way∧s.way≤4:=by
 unfold j9 OnN spR
 simp only[List.mem_flatMap,List.mem_range]
 constructor
 ·
  rintro⟨x,hx,y,hy,h⟩
  simp only[List.mem_cons,List.not_mem_nil,or_false]at h
  rcases h with rfl | rfl | rfl | rfl<;>refine⟨⟨?_,?_,?_,?_⟩,?_,?_⟩<;>simp only<;>omega
 ·
  rintro⟨⟨h1,h2,h3,h4⟩,h5,h6⟩
  refine⟨s.x.toNat,by omega,s.y.toNat,by omega,?_⟩
  have e1:((s.x.toNat:Nat):Int)=s.x:=by omega
  have e2:((s.y.toNat:Nat):Int)=s.y:=by omega
  rw[e1,e2]
  obtain⟨x,y,w⟩:=s
  simp only at h5 h6⊢
  have:w=1∨w=2∨w=3∨w=4:=by omega
  rcases this with rfl | rfl | rfl | rfl<;>simp
theorem zfU {α β:Type}{f:α→List β}{m:Nat}:∀{l:List α},(∀x∈l,(f x).length=m)→(l.flatMap f).length=l.length*m
 | [],_=>by simp
 | a::l,h=>by
  rw[List.flatMap_cons,List.length_append,h a (List.mem_cons_self ..),zfU (fun x hx=>h x (List.mem_cons_of_mem _ hx)),List.length_cons,Nat.add_mul];omega
theorem zhW {t:zA}(h:yw t):(j9 t).length≤4000000:=by
 have h1:(j9 t).length=(XL t).length*((YL t).length*4):=by
  unfold j9
  rw[zfU (m:=(YL t).length*4) (fun x _=>by rw[zfU (m:=4) (fun y _=>rfl),List.length_range]),List.length_range]
 have:=YH h;have:=YI h
 have:=Nat.mul_le_mul (YH h) (Nat.mul_le_mul_right 4 (YI h))
 omega
def zlu (t:zA)(fr tq:zt)(s:zQ)(c:Int):Prop:=∃b n,0≤b∧0≤n∧c=b*1099511627776+n∧Rch (nxT t) fr tq (spR s) b n
noncomputable def qA (t:zA)(fr tq:zt):Fifo.G zQ where
 nx:=nxR t
 par:=fun s=>decide ((s.x+s.y) % 2=0)
 all:=j9 t
 M:=1099513627776
 att:=zlu t fr tq
theorem zgc {t:zA}{s:yd}(eX:s.xs=XL t)(eY:s.ys=YL t){p:zt}(h:OnN t p)(h1:1≤p.side)(h4:p.side≤4):InS s p:=
 ⟨h.1,by rw[eX];exact h.2.1,h.2.2.1,by rw[eY];exact h.2.2.2,h1,h4⟩
theorem zo5 {t:zA}(h:yw t){s n:zQ}{k d:Int}(hs:s∈j9 t)(hn:nxR t s k=some (n,d)):1≤k∧k≤4∧k≠yq s.way∧n=stR (sd (spR s) k)∧n∈j9 t∧
  ∃l,0<l∧l≤2000000∧nxT t (spR s) k=some (spR n,l)∧d=l+if k=s.way then 0 else 1099511627776:=by
 unfold nxR at hn
 by_cases c:k=yq s.way∨k<1∨4<k
 ·
  rw[if_pos c]at hn;cases hn
 ·
  rw[if_neg c]at hn
  have c1:1≤k:=by omega
  have c4:k≤4:=by omega
  obtain⟨⟨q,l⟩,h1,h2⟩:=Option.map_eq_some_iff.1 hn
  simp only[Prod.mk.injEq]at h2
  obtain⟨rfl,rfl⟩:=h2
  obtain⟨ss,_,eX,eY,hS⟩:=zeL h
  obtain⟨m1,m2,m3⟩:=zbC.1 hs
  obtain⟨g1,g2,g3,g4⟩:=hS.ok (spR s) k q l (zgc eX eY m1 m2 m3) c1 c4 h1
  have hq:q=sd (spR s) k:=by
   unfold nxT at h1
   split at h1
   ·
    simp only[Option.some.injEq,Prod.mk.injEq]at h1;exact h1.1.symm
   ·
    cases h1
  refine⟨c1,c4,fun e=>c (.inl e),by rw[hq],zbC.2 ⟨?_,?_,?_⟩,l,g3,g4,h1,rfl⟩
  ·
   exact⟨g1.x0,by rw[←eX];exact g1.x1,g1.y0,by rw[←eY];exact g1.y1⟩
  ·
   exact g1.s1
  ·
   exact g1.s4
theorem zoX {t:zA}(h:yw t)(fr tq:zt):Fifo.Ok (qA t fr tq):=by
 refine⟨by unfold qA;simp only;omega,fun s k n d hs hn=>?_⟩
 obtain⟨k1,k4,kb,hnq,hna,l,l0,l1,hnx,hd⟩:=zo5 h hs hn
 refine⟨hna,?_,?_,?_,?_⟩
 ·
  have e1:n.x=s.x+(tow k).X:=by rw[hnq];rfl
  have e2:n.y=s.y+(tow k).Y:=by rw[hnq];rfl
  show decide ((n.x+n.y) % 2=0)=!decide ((s.x+s.y) % 2=0)
  rw[←decide_not,decide_eq_decide]
  rcases vX k with c | c | c | c<;>rw[c]at e1 e2<;>simp only at e1 e2<;>omega
 ·
  rw[hd];split<;>omega
 ·
  rw[hd];show _≤(1099513627776:Int);split<;>omega
 ·
  rintro c ⟨b,m,b0,m0,rfl,hr⟩
  by_cases e:k=s.way
  ·
   refine⟨b,m+l,b0,by omega,by rw[hd,if_pos e];omega,?_⟩
   have:=hr.step (q:=spR n) (b':=0) (n':=l) (.inl ⟨k,k1,k4,kb,hnx,(if_pos e).symm⟩) (by omega) (by omega)
   rw[Int.add_zero]at this;exact this
  ·
   refine⟨b+1,m+l,by omega,by omega,by rw[hd,if_neg e];omega,?_⟩
   exact hr.step (.inl ⟨k,k1,k4,kb,hnx,(if_neg e).symm⟩) (by omega) (by omega)
theorem zq3 {w k:Int}(w1:1≤w)(w4:w≤4)(k1:1≤k)(k4:k≤4):(((decide (k=(W ((w.tmod 4)+1)))) || (decide (k=(W (((W (w+2)).tmod 4)+1))))) || (decide (k=w)))=!decide (k=yq w):=by
 rw[Wk (n:=w+2) (by omega) (by omega),Int.tmod_eq_emod_of_nonneg (by omega),Int.tmod_eq_emod_of_nonneg (by omega),Wk (by omega) (by omega),Wk (by omega) (by omega),Bool.eq_iff_iff]
 simp only[Bool.or_eq_true,decide_eq_true_eq,Bool.not_eq_true',decide_eq_false_iff_not]
 unfold yq
 omega
theorem ziW {t:zA}(h:yw t){fr tq:zt}{f:zQ→Option Int}(hg:Fifo.Good (qA t fr tq) f)(s:zQ):0≤Fifo.val f s∧Fifo.val f s≤4500000000000000000:=by
 unfold Fifo.val
 cases e:f s with
 | none=>simp
 | some c=>
  obtain⟨_,h1,h2,_⟩:=hg.at_ s c e
  have h3:Fifo.seen (qA t fr tq) f≤(j9 t).length:=List.countP_le_length
  have h4:=zhW h
  change c≤((Fifo.seen (qA t fr tq) f:Int) - 1)*(1099513627776:Int)at h2
  simp only[Option.getD_some]
  omega
theorem zoA {t:zA}(h:yw t){fr tq:zt}{f:GMap zQ Int}(hg:Fifo.Good (qA t fr tq) f.f){v:zQ}(hv:v∈j9 t){k:Int}(k1:1≤k)(k4:k≤4){q:List zQ}(hq:q.length≤1000000000):
  zaR (XL t,YL t) t v (q,k,f)=some (.again ((Fifo.look (qA t fr tq) v k (q,f.f)).1,k+1,⟨(Fifo.look (qA t fr tq) v k (q,f.f)).2⟩)):=by
 obtain⟨m1,m2,m3⟩:=zbC.1 hv
 have hX:=YH h;have hY:=YI h
 have pt:∀s:zQ,OnN t (spR s)→Yv s (XL t) (YL t)=some (ptS t (spR s)):=fun s hs=>by
  unfold Yv
  rw[zG,zo ⟨hs.1,hs.2.1⟩,zo ⟨hs.2.2.1,hs.2.2.2⟩];rfl
 have tb:=zk7 k
 have hvx:0≤v.x∧v.x<(XL t).length∧0≤v.y∧v.y<(YL t).length:=m1
 have w1:W (v.x+(tow k).X)=(sd (spR v) k).x:=Wk (by omega) (by omega)
 have w2:W (v.y+(tow k).Y)=(sd (spR v) k).y:=Wk (by omega) (by omega)
 have e2:(⟨(sd (spR v) k).x,(sd (spR v) k).y,k⟩:zQ)=stR (sd (spR v) k):=rfl
 have lnone:(qA t fr tq).nx v k=none→Fifo.look (qA t fr tq) v k (q,f.f)=(q,f.f):=fun hn=>by unfold Fifo.look;rw[hn]
 unfold zaR
 simp only[zG]
 rw[decide_eq_true k4,cond_true,J8,zq,zq3 m2 m3 k1 k4,w1,w2,e2]
 have ek:W (k+1)=k+1:=Wk (by omega) (by omega)
 rw[ek]
 by_cases cb:k=yq v.way
 ·
  have hl:=lnone (by show nxR t v k=none;unfold nxR;rw[if_pos (.inl cb)])
  rw[hl,decide_eq_true cb]
  simp
 ·
  rw[decide_eq_false cb]
  simp only[Bool.not_false,cond_true]
  rw[Qz,zq,Qz,Wk (n:=((XL t).length:Int) - 1) (by omega) (by omega),Wk (n:=((YL t).length:Int) - 1) (by omega) (by omega)]
  by_cases c:0≤(sd (spR v) k).x∧(sd (spR v) k).x<(XL t).length∧0≤(sd (spR v) k).y∧(sd (spR v) k).y<(YL t).length
  ·
   have o2:OnN t (spR (stR (sd (spR v) k))):=c
   have ok1:okP (ptS t (spR v)):=zjS ⟨m1.1,m1.2.1⟩ ⟨m1.2.2.1,m1.2.2.2⟩
   have ok2:okP (ptS t (sd (spR v) k)):=zjS ⟨c.1,c.2.1⟩ ⟨c.2.2.1,c.2.2.2⟩
   have hfar:=zfL ok1 ok2
   have d1:decide (0≤(sd (spR v) k).x∧(sd (spR v) k).x≤((XL t).length:Int) - 1)=true:=by
    rw[decide_eq_true_eq];omega
   have d2:decide (0≤(sd (spR v) k).y∧(sd (spR v) k).y≤((YL t).length:Int) - 1)=true:=by
    rw[decide_eq_true_eq];omega
   rw[d1,d2]
   simp only[Bool.not_true,Bool.not_false,qC,zq,Bool.or_false,Bool.false_or]
   rw[pt v m1,pt _ o2,zq,zq,(zdc h _ _).1,zq,zk0]
   cases hb:z8 t (ptS t (spR v)) (ptS t (sd (spR v) k))with
   | true=>
    have hl:=lnone (by
     show nxR t v k=none
     have hn0:nxT t (spR v) k=none:=by unfold nxT;rw[if_neg (fun hh=>by rw[hb]at hh;cases hh.2)]
     unfold nxR;rw[if_neg (by omega),hn0];rfl)
    rw[hl];rfl
   | false=>
    have hn:(qA t fr tq).nx v k=some (stR (sd (spR v) k),yy (ptS t (spR v)) (ptS t (sd (spR v) k))+if k=v.way then 0 else 1099511627776):=by
     show nxR t v k=_
     unfold nxR
     rw[if_neg (by omega),show nxT t (spR v) k=some (sd (spR v) k,yy (ptS t (spR v)) (ptS t (sd (spR v) k)))by unfold nxT;rw[if_pos ⟨c,hb⟩]];rfl
    obtain⟨g0,g1⟩:=ziW h hg v
    have hgv:f.getD v 0=Fifo.val f.f v:=rfl
    simp only[cond_false,zq]
    rw[zc2 ok1 ok2,zq,hgv,Wk (n:=Fifo.val f.f v+_) (by omega) (by omega)]
    have hc2:∀K:Int→Option ((List zQ)×(GMap zQ Int)),Option.bind (bif !decide (k=v.way)then some (W (Fifo.val f.f v+yy (ptS t (spR v)) (ptS t (sd (spR v) k))+1099511627776))else some (Fifo.val f.f v+yy (ptS t (spR v)) (ptS t (sd (spR v) k)))) K=K (Fifo.val f.f v+(yy (ptS t (spR v)) (ptS t (sd (spR v) k))+if k=v.way then 0 else 1099511627776)):=fun K=>by
     by_cases e:k=v.way
     ·
      rw[decide_eq_true e,if_pos e,Int.add_zero];rfl
     ·
      rw[decide_eq_false e,if_neg e,Wk (by omega) (by omega),←Int.add_assoc];rfl
    rw[hc2]
    unfold Fifo.look
    rw[hn]
    simp only
    generalize Fifo.val f.f v+(yy (ptS t (spR v)) (ptS t (sd (spR v) k))+if k=v.way then 0 else 1099511627776)=C
    generalize stR (sd (spR v) k)=n
    have hcond:((!(f.has n)) || (decide (C<(f.getD n (0:Int)))))=decide (f.f n=none∨C<Fifo.val f.f n):=by
     unfold GMap.has GMap.getD Fifo.val
     cases f.f n<;>simp
    rw[hcond]
    by_cases e:f.f n=none∨C<Fifo.val f.f n
    ·
     rw[decide_eq_true e,if_pos e,cond_true,zo (by rw[jd];simp;omega)];rfl
    ·
     rw[decide_eq_false e,if_neg e];rfl
  ·
   have hl:=lnone (by show nxR t v k=none;unfold nxR;rw[if_neg (by omega),show nxT t (spR v) k=none by unfold nxT;rw[if_neg (fun hh=>c hh.1)]];rfl)
   rw[hl]
   by_cases c1:0≤(sd (spR v) k).x∧(sd (spR v) k).x≤((XL t).length:Int) - 1
   ·
    have d1:decide (0≤(sd (spR v) k).x∧(sd (spR v) k).x≤((XL t).length:Int) - 1)=true:=decide_eq_true c1
    have d2:decide (0≤(sd (spR v) k).y∧(sd (spR v) k).y≤((YL t).length:Int) - 1)=false:=by
     rw[decide_eq_false_iff_not];omega
    rw[d1,d2];rfl
   ·
    have d1:decide (0≤(sd (spR v) k).x∧(sd (spR v) k).x≤((XL t).length:Int) - 1)=false:=decide_eq_false c1
    rw[d1];rfl
theorem zdN {t:zA}(h:yw t){fr tq:zt}{f:GMap zQ Int}(hg:Fifo.Good (qA t fr tq) f.f){v:zQ}(hv:f.f v≠none){k:Int}(k1:1≤k)(k4:k≤4){q:List zQ}(hq:q.length≤1000000000):
  ∃P f',zaR (XL t,YL t) t v (q,k,f)=some (.again (q++P,k+1,⟨f'⟩))∧Fifo.Stp (qA t fr tq) v [k] q f.f P f':=by
 obtain⟨P,f',e,hs⟩:=Fifo.look_ok (zoX h fr tq) (k:=k) (q:=q) hg hv
 have hva:v∈j9 t:=by
  cases hc:f.f v with
  | none=>exact absurd hc hv
  | some c=>exact(hg.at_ v c hc).1
 refine⟨P,f',?_,hs⟩
 rw[zoA h hg hva k1 k4 hq,e]
theorem zoC {t:zA}(h:yw t){fr tq:zt}{f:GMap zQ Int}(hg:Fifo.Good (qA t fr tq) f.f){v:zQ}(hv:f.f v≠none){q:List zQ}(hq:q.length≤900000000):
  ∃P f',loop (zaR (XL t,YL t) t v) (q,1,f)=some (zI.again (q++P,⟨f'⟩))∧Fifo.Stp (qA t fr tq) v [1,2,3,4] q f.f P f':=by
 obtain⟨P1,f1,e1,s1⟩:=zdN h hg hv (k:=1) (by omega) (by omega) (q:=q) (by omega)
 have l1:=s1.len
 obtain⟨P2,f2,e2,s2⟩:=zdN h (f:=⟨f1⟩) s1.good (s1.le.some hv) (k:=2) (by omega) (by omega) (q:=q++P1) (by simp at *;omega)
 have s12:=s1.snoc s2
 have l2:=s12.len
 rw[List.append_assoc]at e2
 obtain⟨P3,f3,e3,s3⟩:=zdN h (f:=⟨f2⟩) s12.good (s12.le.some hv) (k:=3) (by omega) (by omega) (q:=q++(P1++P2)) (by simp at *;omega)
 have s13:=s12.snoc s3
 have l3:=s13.len
 rw[List.append_assoc]at e3
 obtain⟨P4,f4,e4,s4⟩:=zdN h (f:=⟨f3⟩) s13.good (s13.le.some hv) (k:=4) (by omega) (by omega) (q:=q++(P1++P2++P3)) (by simp at *;omega)
 have s14:=s13.snoc s4
 rw[show q++(P1++P2++P3)++P4=q++(P1++P2++P3++P4)by simp]at e4
 refine⟨_,f4,?_,s14⟩
 rw[vc e1]
 show loop _ (q++P1,2,_)=_
 rw[vc e2]
 show loop _ (q++(P1++P2),3,_)=_
 rw[vc e3]
 show loop _ (q++(P1++P2++P3),4,_)=_
 rw[vc e4]
 exact JF rfl
structure zag (t:zA) (fr tq:zt) (f:zQ→Option Int):Prop where
 good:Fifo.Good (qA t fr tq) f
 rlx:∀s,f s≠none→Fifo.AllR (qA t fr tq) f s
 first:∃c,f (stR fr)=some c∧c≤0
theorem zmJ {t:zA}(h:yw t){fr tq:zt}(hE:vB t fr tq):∃f:GMap zQ Int,loop (zaQ (XL t,YL t) t) ([stR fr],(GMap.nil:(GMap zQ Int)).set (stR fr) 0)=some f∧zag t fr tq f.f:=by
 have hs1:=jI.1 h.fs
 have hin:stR fr∈j9 t:=zbC.2 ⟨hE.fo,by show 1≤fr.side∧fr.side≤4;rw[hE.fs];exact hs1⟩
 have hall:=zhW h
 have h0:∀x c,((GMap.nil:(GMap zQ Int)).set (stR fr) 0).f x=some c→x=stR fr∧c=0:=fun x c hx=>by
  unfold GMap.set GMap.nil at hx
  simp only at hx
  by_cases e:x=stR fr
  ·
   rw[if_pos e]at hx;simp at hx;exact⟨e,hx.symm⟩
  ·
   rw[if_neg e]at hx;cases hx
 have h1:((GMap.nil:(GMap zQ Int)).set (stR fr) 0).f (stR fr)=some 0:=by unfold GMap.set;simp
 have hg0:Fifo.Good (qA t fr tq) ((GMap.nil:(GMap zQ Int)).set (stR fr) 0).f:=⟨fun x c hx=>by
  obtain⟨rfl,rfl⟩:=h0 x c hx
  refine⟨hin,Int.le_refl _,?_,0,0,by omega,by omega,by omega,.inl ⟨_,.one⟩⟩
  have:0<Fifo.seen (qA t fr tq) ((GMap.nil:(GMap zQ Int)).set (stR fr) 0).f:=List.countP_pos_iff.2 ⟨stR fr,hin,by rw[h1];rfl⟩
  show(0:Int)≤(_ - 1)*(1099513627776:Int)
  omega⟩
 refine ve (body:=zaQ (XL t,YL t) t) (fun st=>Fifo.J (qA t fr tq) (st.1,st.2.f)∧∃c,st.2.f (stR fr)=some c∧c≤0) (fun st=>2*Fifo.phi (qA t fr tq) st.2.f+st.1.length) (fun e=>zag t fr tq e.f) ⟨⟨(qA t fr tq).par (stR fr),[stR fr],[],rfl,hg0,?_,?_,?_,?_,?_⟩,0,h1,Int.le_refl _⟩ ?_
 ·
  intro x hx
  rw[List.mem_singleton]at hx
  subst hx
  exact⟨rfl,by simp only;rw[h1];simp⟩
 ·
  intro x hx;cases hx
 ·
  intro x hx
  simp only at hx
  cases e:((GMap.nil:(GMap zQ Int)).set (stR fr) 0).f x with
  | none=>exact absurd e hx
  | some c=>exact .inr (.inl (by rw[(h0 x c e).1];simp))
 ·
  exact Nat.zero_le _
 ·
  have:0<(j9 t).length:=List.length_pos_of_mem hin
  show 1≤4*(j9 t).length
  omega
 ·
  rintro⟨q,f⟩ ⟨hJ,c0,hc0,hc1⟩
  simp only at hJ hc0
  cases q with
  | nil=>
   right
   refine⟨f,rfl,?_⟩
   obtain⟨i,A,B,e,hI⟩:=hJ
   simp only at e hI
   have e1:A=[]∧B=[]:=by
    have:=e.symm
    rwa [List.append_eq_nil_iff]at this
   obtain⟨rfl,rfl⟩:=e1
   refine⟨hI.good,fun s hs=>?_,c0,hc0,hc1⟩
   rcases hI.rq s hs with h | h | h
   ·
    exact h
   ·
    cases h
   ·
    cases h
  | cons s q=>
   left
   have hl:=hJ.len
   have hall':(qA t fr tq).all.length≤4000000:=hall
   simp only[List.length_cons]at hl
   obtain⟨i,A,B,_,hI⟩:=hJ.head
   obtain⟨_,hs⟩:=hI.a s (List.mem_cons_self ..)
   obtain⟨P,f',e,hst⟩:=zoC h (f:=f) hI.good hs (q:=q) (by omega)
   obtain⟨j1,j2⟩:=hJ.step hst
   obtain⟨c',g1,g2⟩:=hst.le _ _ hc0
   refine⟨(q++P,⟨f'⟩),?_,⟨j1,c',g1,by omega⟩,j2⟩
   unfold zaQ
   simp only[zG]
   have d0:decide ((0:Int)<((s::q).length:Int))=true:=by rw[decide_eq_true_eq,List.length_cons];omega
   have sg':seg (s::q) 1 ((s::q).length:Int)=q:=by
    unfold seg
    rw[Int.toNat_natCast,List.take_length];rfl
   have l1:((s::q).length:Int)=(q.length:Int)+1:=by simp
   rw[d0,cond_true,zo ⟨by omega,by rw[l1];omega⟩,zo ⟨by omega,by rw[l1];omega,Int.le_refl _⟩,sg']
   exact e
theorem zi1 {x:List Int}(hs:x.Pairwise (· < ·)){a b:Int}(h0:0≤a)(h1:a<x.length)(h2:0≤b)(h3:b<x.length)(h:gx x a=gx x b):a=b:=by
 rcases Int.lt_trichotomy a b with c | c | c
 ·
  have:=ju hs h0 c h3;omega
 ·
  exact c
 ·
  have:=ju hs h2 c h1;omega
theorem zk2 {t:zA}(h:yw t){p:zt}(hp:OnN t p)(side:Int):YX (ptS t p) side (XL t) (YL t)=some ⟨p.x,p.y,side⟩:=by
 have sx:=jj (xv t);have sy:=jj (yv t)
 change (XL t).Pairwise (· < ·)at sx
 change (YL t).Pairwise (· < ·)at sy
 obtain⟨p1,p2,p3,p4⟩:=hp
 obtain⟨a,ab,e1,_,_,_,_,g1⟩:=YK (XL t) (gx (XL t) p.x) (by have:=YH h;omega) sx
 obtain⟨b,bb,e2,_,_,_,_,g2⟩:=YK (YL t) (gx (YL t) p.y) (by have:=YI h;omega) sy
 obtain⟨a1,a2⟩:=g1 (qQ ⟨p1,p2⟩)
 obtain⟨b1,b2⟩:=g2 (qQ ⟨p3,p4⟩)
 unfold YX ptS
 simp only[zG]
 rw[e1,e2]
 simp only[zq]
 rw[zi1 sx (by omega) (by omega) p1 p2 a2,zi1 sy (by omega) (by omega) p3 p4 b2]
def bst (x:Int)(o:Option Int):Int:=match o with
 | none=>x
 | some c=>if x<0∨c<x then c else x
theorem zfp:∀(l:List (Option Int)) (x:Int),(∀c,some c∈l→0≤c)→
  (x<0→(l.foldl bst x<0∧∀c,some c∉l)∨(0≤l.foldl bst x∧some (l.foldl bst x)∈l∧∀c,some c∈l→l.foldl bst x≤c))∧
  (0≤x→0≤l.foldl bst x∧l.foldl bst x≤x∧(l.foldl bst x=x∨some (l.foldl bst x)∈l)∧∀c,some c∈l→l.foldl bst x≤c)
 | [],x,_=>⟨fun h=>.inl ⟨h,by simp⟩,fun h=>⟨h,Int.le_refl _,.inl rfl,by simp⟩⟩
 | none::l,x,hc=>by
  obtain⟨h1,h2⟩:=zfp l x (fun c h=>hc c (List.mem_cons_of_mem _ h))
  have e:(none::l).foldl bst x=l.foldl bst x:=rfl
  have m:∀c:Int,some c∈(none::l:List (Option Int))↔some c∈l:=fun c=>by simp
  simp only[e,m]
  exact⟨h1,h2⟩
 | some c::l,x,hc=>by
  have c0:=hc c (List.mem_cons_self ..)
  have e:(some c::l).foldl bst x=l.foldl bst (bst x (some c)):=rfl
  obtain⟨_,h2⟩:=zfp l (bst x (some c)) (fun c h=>hc c (List.mem_cons_of_mem _ h))
  have hb:bst x (some c)=if x<0∨c<x then c else x:=rfl
  have m:∀d:Int,some d∈(some c::l:List (Option Int))↔d=c∨some d∈l:=fun d=>by simp
  simp only[e,m]
  generalize l.foldl bst (bst x (some c))=r at *
  constructor
  ·
   intro hx
   rw[if_pos (.inl hx)]at hb
   obtain⟨g1,g2,g3,g4⟩:=h2 (by omega)
   refine .inr ⟨g1,?_,fun d hd=>?_⟩
   ·
    rcases g3 with g | g
    ·
     exact .inl (by omega)
    ·
     exact .inr g
   ·
    rcases hd with rfl | hd
    ·
     omega
    ·
     exact g4 d hd
  ·
   intro hx
   have hb':0≤bst x (some c)∧bst x (some c)≤x∧bst x (some c)≤c∧(bst x (some c)=x∨bst x (some c)=c):=by
    rw[hb];split<;>omega
   obtain⟨g1,g2,g3,g4⟩:=h2 hb'.1
   refine⟨g1,by omega,?_,fun d hd=>?_⟩
   ·
    rcases g3 with g | g
    ·
     rcases hb'.2.2.2 with k | k
     ·
      exact .inl (by omega)
     ·
      exact .inr (.inl (by omega))
    ·
     exact .inr (.inr g)
   ·
    rcases hd with rfl | hd
    ·
     omega
    ·
     exact g4 d hd
def yZ (t:zA)(tq:zt)(f:zQ→Option Int)(side:Int):Option Int:=
 if side=t.ToSide then none else(f ⟨tq.x,tq.y,side⟩).map fun c=>c+if side=yq t.ToSide then 0 else 1099511627776
theorem zc7 {t:zA}(h:yw t){fr tq:zt}(hE:vB t fr tq){f:GMap zQ Int}(hg:Fifo.Good (qA t fr tq) f.f)(best:Int){k:Int}(k1:1≤k)(k4:k≤4):
  zaS (XL t,YL t) (yf t,yi t) t f (best,k)=some (.again (bst best (yZ t tq f.f k),k+1)):=by
 have hs2:=jI.1 h.ts
 have hb:=zbE hs2.1 hs2.2
 unfold zaS
 simp only[zG]
 rw[decide_eq_true k4,cond_true,←hE.ep,zk2 h hE.eo,zq,Wk (n:=k+1) (by omega) (by omega)]
 unfold yZ
 by_cases c1:k=t.ToSide
 ·
  rw[decide_eq_true c1,if_pos c1,Bool.or_true];rfl
 ·
  rw[decide_eq_false c1,if_neg c1,Bool.or_false]
  obtain⟨g0,g1⟩:=ziW h hg ⟨tq.x,tq.y,k⟩
  unfold Fifo.val at g0 g1
  unfold GMap.has GMap.getD
  cases e:f.f ⟨tq.x,tq.y,k⟩with
  | none=>rfl
  | some c=>
   rw[e]at g0 g1
   simp only[Option.getD_some]at g0 g1
   have hst:Y4 (⟨(0:Int),(0:Int)⟩:zd) (tow t.ToSide) (-1)=some (tow (yq t.ToSide)):=by
    rw[←zd1 hs2.1 hs2.2]
    unfold Y4 vv
    have:=zk7 t.ToSide
    simp only[zG]
    rw[Wk (n:=(-1)*(tow t.ToSide).X) (by omega) (by omega),Wk (n:=(-1)*(tow t.ToSide).Y) (by omega) (by omega),Wk (by omega) (by omega),Wk (by omega) (by omega)]
    simp only[Option.some.injEq,zd.mk.injEq]
    omega
   simp only[Option.isSome_some,Bool.not_true,cond_false,Option.getD_some,Option.map_some]
   rw[J8,J8,zq,zq,hst,zq]
   have hd:decide (tow k=tow (yq t.ToSide))=decide (k=yq t.ToSide):=by
    rw[decide_eq_decide]
    exact⟨fun e=>zhw k1 k4 hb.1 hb.2 e,fun e=>by rw[e]⟩
   rw[hd]
   by_cases c2:k=yq t.ToSide
   ·
    rw[decide_eq_true c2,if_pos c2]
    simp only[Bool.not_true,cond_false,zq,Int.add_zero]
    unfold bst
    simp only
    by_cases c3:best<0∨c<best
    ·
     have:(decide (best<0) || decide (c<best))=true:=by simpa using c3
     rw[this,if_pos c3];rfl
    ·
     have:(decide (best<0) || decide (c<best))=false:=by
      rw[Bool.eq_false_iff];simpa using c3
     rw[this,if_neg c3];rfl
   ·
    rw[decide_eq_false c2,if_neg c2]
    simp only[Bool.not_false,cond_true,zq]
    rw[Wk (n:=c+1099511627776) (by omega) (by omega)]
    unfold bst
    simp only
    by_cases c3:best<0∨c+1099511627776<best
    ·
     have:(decide (best<0) || decide (c+1099511627776<best))=true:=by simpa using c3
     rw[this,if_pos c3];rfl
    ·
     have:(decide (best<0) || decide (c+1099511627776<best))=false:=by
      rw[Bool.eq_false_iff];simpa using c3
     rw[this,if_neg c3];rfl
theorem zrH {t:zA}{s:yd}(hS:Sea s (nxT t)){fr tq q:zt}(hf:InS s fr)(ht:InS s tq){l:List zt}{b n:Int}(h:Tr (nxT t) fr tq l q b n):0≤b∧0≤n:=by
 induction h with
 | one=>omega
 | @snoc l p b n q b' n' htr hne hEd ih=>
  have:=zfD hS (htr.all hS hf ht).1 hEd
  omega
theorem zag.le {t:zA}(h:yw t){fr tq:zt}(hE:vB t fr tq){f:zQ→Option Int}(hc:zag t fr tq f){l:List zt}{q:zt}{b n:Int}(htr:Tr (nxT t) fr tq l q b n):
  (∃c,f (stR q)=some c∧c≤b*1099511627776+n)∨(q=tq∧∃p:zt,p.x=tq.x∧p.y=tq.y∧p.side≠yq tq.side∧∃c,f (stR p)=some c∧c+1099511627776≤b*1099511627776+n):=by
 induction htr with
 | one=>
  obtain⟨c,h1,h2⟩:=hc.first
  exact .inl ⟨c,h1,by omega⟩
 | @snoc l p b n q b' n' htr hne hEd ih=>
  obtain⟨c,h1,h2⟩:=ih.resolve_right (fun hh=>hne hh.1)
  rcases hEd with⟨side,s1,s4,hb,hn,rfl⟩ | ⟨rfl,hx,hy,hs,rfl,rfl⟩
  ·
   left
   have hnx:(qA t fr tq).nx (stR p) side=some (stR q,n'+if side=p.side then 0 else 1099511627776):=by
    show nxR t (stR p) side=_
    unfold nxR
    rw[if_neg (by show ¬(side=yq p.side∨side<1∨4<side);omega),zk0,hn];rfl
   obtain⟨c',g1,g2⟩:=hc.rlx (stR p) (by rw[h1];simp) side (by
    have:side=1∨side=2∨side=3∨side=4:=by omega
    simp;omega) _ _ hnx
   refine⟨c',g1,?_⟩
   have hv:Fifo.val f (stR p)=c:=by unfold Fifo.val;rw[h1];rfl
   rw[hv]at g2
   split at g2<;>split<;>omega
  ·
   right
   exact⟨rfl,p,hx,hy,hs,c,h1,by omega⟩
theorem zag.cand {t:zA}(h:yw t){fr tq:zt}(hE:vB t fr tq){f:zQ→Option Int}(hc:zag t fr tq f){side c:Int}(h1:yZ t tq f side=some c):
  ∃b n,0≤b∧0≤n∧c=b*1099511627776+n∧Rch (nxT t) fr tq tq b n:=by
 have hs2:=jI.1 h.ts
 unfold yZ at h1
 by_cases c1:side=t.ToSide
 ·
  rw[if_pos c1]at h1;cases h1
 ·
  rw[if_neg c1]at h1
  obtain⟨c',e,h2⟩:=Option.map_eq_some_iff.1 h1
  obtain⟨_,_,_,b,n,b0,n0,hbn,hr⟩:=hc.good.at_ _ _ e
  by_cases c2:side=yq t.ToSide
  ·
   rw[if_pos c2,Int.add_zero]at h2
   refine⟨b,n,b0,n0,by omega,?_⟩
   have:spR ⟨tq.x,tq.y,side⟩=tq:=by
    rw[c2,←hE.ts];rfl
   rw[←this];rw[this]at hr⊢;exact hr
  ·
   rw[if_neg c2]at h2
   refine⟨b+1,n,by omega,n0,by omega,?_⟩
   have:=hr.step (q:=tq) (b':=1) (n':=0) (.inr ⟨rfl,rfl,rfl,by rw[hE.ts,zbD hs2.1 hs2.2];exact c1,rfl,rfl⟩) (by omega) (by omega)
   rw[Int.add_zero]at this
   exact this
theorem zly {t:zA}(h:yw t){fr tq:zt}(hE:vB t fr tq):∃r,JM t=some r∧
  ((z8 t (yf t) (yf t)=true∨z8 t (yi t) (yi t)=true∨∀l b n,¬Tr (nxT t) fr tq l tq b n)→r=(0,0,false))∧
  (z8 t (yf t) (yf t)=false→z8 t (yi t) (yi t)=false→∀way b n,zbw t fr tq way b n→n<1099511627776→r=(b,n+2*t.Clear,true)):=by
 have c1:=h.c1;have c2:=h.c2
 have hs1:=jI.1 h.fs
 have hs2:=jI.1 h.ts
 have hbk:=zbE hs2.1 hs2.2
 unfold JM
 rw[ziY h,zq,zee h.from_ h.to_ (by omega) (by omega),zq,(zdc h _ _).1,zq,(zdc h _ _).1]
 change ∃r,(Option.bind (gd (!z8 t (yf t) (yf t)) (some (z8 t (yi t) (yi t)))) fun r4=>bif z8 t (yf t) (yf t) || r4 then some ((0:Int),(0:Int),false)else _)=some r∧_
 cases b1:z8 t (yf t) (yf t)with
 | true=>exact⟨_,rfl,fun _=>rfl,fun h=>by cases h⟩
 | false=>
 cases b2:z8 t (yi t) (yi t)with
 | true=>exact⟨_,rfl,fun _=>rfl,fun _ h=>by cases h⟩
 | false=>
 simp only[Bool.not_false,qC,zq,Bool.or_self,cond_false,zG]
 have hfr:YX (yf t) t.FromSide (yr (xv t)) (yr (yv t))=some (stR fr):=by
  have:=zk2 h hE.fo t.FromSide
  rw[hE.fp,←hE.fs]at this
  rw[←hE.fs];exact this
 rw[hfr,zq]
 obtain⟨f,hf,hC⟩:=zmJ h hE
 change loop (zaQ (yr (xv t),yr (yv t)) t) _=_ at hf
 rw[hf,zq]
 have hL:loop (zaS (XL t,YL t) (yf t,yi t) t f) (-1,1)=some ([yZ t tq f.f 1,yZ t tq f.f 2,yZ t tq f.f 3,yZ t tq f.f 4].foldl bst (-1)):=by
  rw[vc (zc7 h hE hC.good (-1) (k:=1) (by omega) (by omega))]
  show loop _ (_,2)=_
  rw[vc (zc7 h hE hC.good _ (k:=2) (by omega) (by omega))]
  show loop _ (_,3)=_
  rw[vc (zc7 h hE hC.good _ (k:=3) (by omega) (by omega))]
  show loop _ (_,4)=_
  rw[vc (zc7 h hE hC.good _ (k:=4) (by omega) (by omega))]
  exact JF rfl
 change loop (zaS (yr (xv t),yr (yv t)) (yf t,yi t) t f) (-1,1)=_ at hL
 rw[hL,zq]
 have hcs:∀c,some c∈[yZ t tq f.f 1,yZ t tq f.f 2,yZ t tq f.f 3,yZ t tq f.f 4]→∃side,yZ t tq f.f side=some c:=fun c hc=>by
  simp only[List.mem_cons,List.not_mem_nil,or_false]at hc
  rcases hc with e | e | e | e<;>exact⟨_,e.symm⟩
 have hcm:∀side c,1≤side→side≤4→yZ t tq f.f side=some c→some c∈[yZ t tq f.f 1,yZ t tq f.f 2,yZ t tq f.f 3,yZ t tq f.f 4]:=fun side c a b e=>by
  have:side=1∨side=2∨side=3∨side=4:=by omega
  rcases this with rfl | rfl | rfl | rfl<;>simp[e]
 have hpos:∀c,some c∈[yZ t tq f.f 1,yZ t tq f.f 2,yZ t tq f.f 3,yZ t tq f.f 4]→0≤c:=fun c hc=>by
  obtain⟨side,e⟩:=hcs c hc
  obtain⟨b,n,b0,n0,e,_⟩:=hC.cand h hE e
  omega
 have hfold:=(zfp _ (-1) hpos).1 (by omega)
 generalize [yZ t tq f.f 1,yZ t tq f.f 2,yZ t tq f.f 3,yZ t tq f.f 4].foldl bst (-1)=best at *
 obtain⟨s,_,eX,eY,hS⟩:=zeL h
 have inF:InS s fr:=zgc eX eY hE.fo (by rw[hE.fs];exact hs1.1) (by rw[hE.fs];exact hs1.2)
 have inT:InS s tq:=zgc eX eY hE.eo (by rw[hE.ts];exact hbk.1) (by rw[hE.ts];exact hbk.2)
 have up:∀l b n,Tr (nxT t) fr tq l tq b n→∃c,some c∈[yZ t tq f.f 1,yZ t tq f.f 2,yZ t tq f.f 3,yZ t tq f.f 4]∧c≤b*1099511627776+n:=fun l b n htr=>by
  rcases hC.le h hE htr with⟨c,e,hle⟩ | ⟨_,p,px,py,ps,c,e,hle⟩
  ·
   refine⟨c,hcm (yq t.ToSide) c hbk.1 hbk.2 ?_,hle⟩
   unfold yZ
   have:(⟨tq.x,tq.y,yq t.ToSide⟩:zQ)=stR tq:=by rw[←hE.ts];rfl
   rw[if_neg (zh1 hs2.1 hs2.2).symm,if_pos rfl,this,e];simp
  ·
   have hin:=(hC.good.at_ _ _ e).1
   obtain⟨_,p1,p4⟩:=zbC.1 hin
   have hp:(⟨tq.x,tq.y,p.side⟩:zQ)=stR p:=by rw[←px,←py];rfl
   rw[hE.ts,zbD hs2.1 hs2.2]at ps
   by_cases c2:p.side=yq t.ToSide
   ·
    refine⟨c,hcm p.side c p1 p4 ?_,by omega⟩
    unfold yZ
    rw[if_neg ps,if_pos c2,hp,e];simp
   ·
    refine⟨c+1099511627776,hcm p.side _ p1 p4 ?_,hle⟩
    unfold yZ
    rw[if_neg ps,if_neg c2,hp,e];simp
 rcases hfold with⟨f1,f2⟩ | ⟨f1,f2,f3⟩
 ·
  rw[decide_eq_true f1]
  refine⟨_,rfl,fun _=>rfl,fun _ _ way b n hF _=>?_⟩
  obtain⟨c,hc,_⟩:=up _ _ _ hF.tr
  exact absurd hc (f2 c)
 ·
  rw[decide_eq_false (by omega:¬best<0)]
  obtain⟨side,e⟩:=hcs _ f2
  obtain⟨b1,n1,hb1,hn1,e1,hr⟩:=hC.cand h hE e
  obtain⟨l',b',n',htr',hle'⟩:=hr.to_
  refine⟨_,rfl,fun hno=>?_,fun _ _ way b n hF hn=>?_⟩
  ·
   rcases hno with hh | hh | hh
   ·
    cases hh
   ·
    cases hh
   ·
    exact absurd htr' (hh _ _ _)
  ·
   obtain⟨c,hc,hcle⟩:=up _ _ _ hF.tr
   have hb:=f3 c hc
   have hl:=hF.least _ _ _ htr'
   obtain⟨nn1,nn2⟩:=zrH hS inF inT hF.tr
   have hbest:best=b*1099511627776+n:=by omega
   have e3:best.tdiv 1099511627776=b:=by
    rw[Int.tdiv_eq_ediv_of_nonneg (by omega)];omega
   have e4:best.tmod 1099511627776=n:=by
    rw[Int.tmod_eq_emod_of_nonneg (by omega)];omega
   rw[e3,e4,Wk (n:=2*t.Clear) (by omega) (by omega),Wk (by omega) (by omega)]
theorem zlv {t:zA}{l:List zd}(hw:zal t l):JL l=some ((l.length:Int) - 2):=by
 obtain⟨h1,h2⟩:=YV.1 hw.path
 have hl:=(Yr.1 h1).1
 have h1l:=(YR.1 h2).1
 obtain⟨e,he,hp⟩:=zjm (body:=zce l) (fun i=>((i:Int) - 1,(i:Int))) (fun e=>e=(l.length:Int) - 2) 1 (l.length - 1) (by omega) (fun i a b=>by
  left
  have hf:=hw.turns i a b
  unfold Qg at hf
  have hf':decide ((decide (((gx l ((i:Int) - 1)).X)=((gx l (i:Int)).X)))=(decide (((gx l (i:Int)).X)=((gx l ((i:Int)+1)).X))))=false:=by
   rw[decide_eq_false_iff_not];exact hf
  unfold zce
  rw[Wk (n:=(i:Int)+1) (by omega) (by omega),Wk (n:=(i:Int) - 1) (by omega) (by omega),decide_eq_true (show(i:Int)+1<(l.length:Int)by omega)]
  simp only[cond_true,zG]
  rw[zo ⟨by omega,by omega⟩,zo ⟨by omega,by omega⟩,zo ⟨by omega,by omega⟩,zo ⟨by omega,by omega⟩,hf']
  simp only[Bool.not_false,cond_true,zq]
  rw[Wk (by omega) (by omega),show(i:Int) - 1+1=((i+1:Nat):Int) - 1 by omega,show(i:Int)+1=((i+1:Nat):Int)by omega]) ⟨_,by
   unfold zce
   rw[Wk (n:=((l.length - 1:Nat):Int)+1) (by omega) (by omega),decide_eq_false (show ¬((l.length - 1:Nat):Int)+1<(l.length:Int)by omega)];rfl,by omega⟩
 unfold JL
 rw[show((0:Int),(1:Int))=((((1:Nat):Int) - 1),((1:Nat):Int))from rfl,he,hp];rfl
theorem zlD {l:List zm}(h:l.length≤1073741824):zcM l=some l:=by
 unfold zcM
 rw[zo (by simpa [jd]using h),zG,List.nil_append]
 exact zjG fun e=>by rw[e]
theorem zlC {l:List zJ}(h:l.length≤1073741824):zcL l=some l:=by
 unfold zcL
 rw[zo (by simpa [jd]using h),zG,List.nil_append]
 exact zjG fun e=>by rw[e]
theorem zhN {l:List zm}(hl:(l.length:Int)≤9223372036854775807):zbl l l=some true:=by
 unfold zbl
 simp only[decide_true,Bool.not_true,cond_false]
 rw[zkj rfl hl (fun i hi=>by
  unfold zhl
  rw[zo ⟨by omega,by omega⟩,zo ⟨by omega,by omega⟩,zS hi]
  simp)]
 simp
theorem zl7 {d:Doc}(hn:(d.Nodes.length:Int)≤9223372036854775807)(he:(d.Edges.length:Int)≤9223372036854775807)(hb:∀x∈d.Edges,(x.Bends.length:Int)≤9223372036854775807):JP d d=some true:=by
 unfold JP
 rw[zhN hn,Option.bind_some,qC]
 have:zcR d.Edges d.Edges JQ=some true:=by
  unfold zcR
  simp only[decide_true,Bool.not_true,cond_false]
  rw[zgQ (fun _=>false) (Res.ab false) he (fun i hi=>by
   unfold zhk
   have hs:JQ (gx d.Edges i) (gx d.Edges i)=some true:=by
    unfold JQ
    rw[zc1 _ _ (hb _ (qQ hi))]
    simp
   rw[zo hi,zG,zo hi,zG,hs];rfl)]
  simp
 rw[this];rfl
theorem zfC {w:Int}(hw:w≠0)(r:Doc):zb4 ⟨[],[]⟩ w w r=some true:=by
 unfold zb4
 rw[decide_eq_false hw];simp
theorem zqc {α:Type}[Inhabited α]{l:List α}{step:Int→List α→Option (List α)}(g:Nat→α→α)(hl:(l.length:Int)≤9223372036854775807)
  (h:∀(i:Nat) (s:List α),i<l.length→s.length=l.length→gx s (i:Int)=gx l (i:Int)→step i s=some (s.set i (g i (gx l (i:Int))))):
  ∃L,yS (l.length:Int) step l=some L∧L.length=l.length∧∀i:Nat,i<l.length→gx L (i:Int)=g i (gx l (i:Int)):=by
 obtain⟨s,h1,h2,h3⟩:=Y7 (n:=(l.length:Int)) (step:=step) (s0:=l) (fun k s=>s.length=l.length∧∀j:Nat,j<l.length→gx s (j:Int)=if j<k then g j (gx l (j:Int))else gx l (j:Int)) hl ⟨rfl,fun j hj=>by rw[if_neg (by omega)]⟩ (fun i s hi hI=>by
  obtain⟨i1,i2⟩:=hI
  have hi':i<l.length:=by omega
  refine⟨_,h i s hi' i1 (by rw[i2 i hi',if_neg (by omega)]),by simpa using i1,fun j hj=>?_⟩
  rw[zS (by simpa [i1]using hj),List.getElem_set]
  by_cases e:i=j
  ·
   subst e;rw[if_pos rfl,if_pos (by omega)]
  ·
   rw[if_neg e]
   have:=i2 j hj
   rw[zS (by omega)]at this
   rw[this]
   by_cases c:j<i
   ·
    rw[if_pos c,if_pos (by omega)]
   ·
    rw[if_neg c,if_neg (by omega)])
 exact⟨s,h1,h2,fun i hi=>by rw[h3 i hi,if_pos (by omega)]⟩
theorem zni {α β:Type}{b:(α→Option β)→α→Option β}{a a':α}(h:∀n,qw b n a=qw b n a'):Yg b a=Yg b a':=by
 have e:(∃r N,∀n,N≤n→qw b n a=some r)↔(∃r N,∀n,N≤n→qw b n a'=some r):=by simp only[h]
 unfold Yg
 by_cases hx:∃r N,∀n,N≤n→qw b n a=some r
 ·
  have hx':=e.1 hx
  rw[dif_pos hx,dif_pos hx']
  obtain⟨N,hN⟩:=hx.choose_spec
  obtain⟨M,hM⟩:=hx'.choose_spec
  have h1:=hN (max N M) (Nat.le_max_left _ _)
  rw[h,hM (max N M) (Nat.le_max_right _ _)]at h1
  exact h1.symm
 ·
  rw[dif_neg hx,dif_neg (fun hh=>hx (e.2 hh))]
theorem zmq {self:yk×Int→Option (Box×Int)}{x x':yk×Int}(hd:x.1.d.Nodes=x'.1.d.Nodes)(hm:x.1.members=x'.1.members)(h2:x.2=x'.2)(hL:∀v,Qm self x v=Qm self x' v):
  jo self x=jo self x':=by
 unfold jo
 rw[hd,hm,h2]
 simp only[hL]
theorem zh3 {N:List zm}{E E':List zJ}:∀(k:Nat) (c:Int),qw jo k (yp ⟨N,E⟩,c)=qw jo k (yp ⟨N,E'⟩,c)
 | 0,c=>rfl
 | k+1,c=>by
  have ih:=zh3 (N:=N) (E:=E) (E':=E') k
  have hL:∀v,Qm (qw jo k) (yp ⟨N,E⟩,c) v=Qm (qw jo k) (yp ⟨N,E'⟩,c) v:=fun v=>by
   funext i s
   unfold Qm
   simp only[ih]
  exact zmq rfl rfl rfl hL
theorem zmr {N:List zm}{E E':List zJ}(c:Int):YU (yp ⟨N,E⟩) c=YU (yp ⟨N,E'⟩) c:=by
 unfold YU
 exact zni fun n=>zh3 n c
theorem znX {N:List zm}{E E':List zJ}:QO (yp ⟨N,E⟩)=QO (yp ⟨N,E'⟩):=rfl
theorem znY {d:Doc}(hR:vF d)(hc:vO d=some 0):QO (yp d)=some 0:=by
 have hl:=hR.nl;have hel:=hR.el
 unfold vO at hc
 have:(decide (500<(d.Nodes.length:Int)) || decide (1000<(d.Edges.length:Int)))=false:=by simp;omega
 rw[this,cond_false,zG]at hc
 let nE:Nat→Int:=fun i=>vL (gx d.Nodes (i:Int)) (decide ((gx d.Nodes (i:Int)).Id∈(d.Nodes.take i).map (·.Id)))
 have k0:(GMap.nil:GMap Str Bool)=knM ((d.Nodes.take 0).map (·.Id)):=by simp[knM,GMap.nil]
 rw[k0]at hc
 have p1:=vx (n:=d.Nodes.length) (step:=YT d) (fin:=fun s=>(Res.nx s:Res (GMap Str Bool) Int)) (fun k=>knM ((d.Nodes.take k).map (·.Id))) nE (fun e=>Res.ab e) (by omega) (fun i hi _=>by
  unfold YT
  rw[zo ⟨by omega,by omega⟩,zG,zb0,zfu,Option.bind_some]
  show(bif !decide (nE i=0)then _ else _)=_
  by_cases h:nE i=0
  ·
   rw[decide_eq_true h,if_pos h,zb1,List.take_succ_eq_append_getElem hi,List.map_append,zS hi];rfl
  ·
   rw[decide_eq_false h,if_neg h];rfl)
 have h1:zP ((List.range d.Nodes.length).map nE)=0:=qi.2 fun e he=>by
  obtain⟨i,hi,rfl⟩:=List.mem_map.1 he
  have hi:i<d.Nodes.length:=by simpa using hi
  show vL (gx d.Nodes (i:Int)) _=0
  rw[zS hi]
  exact hR.node i hi
 rw[p1,if_pos h1,qd,zhD hl hR.hd,Option.bind_some,Option.bind_some]at hc
 obtain⟨e,t1,_,_⟩:=zlb hl (fun n hn=>hR.hid hn)
 rw[t1,Option.bind_some]at hc
 by_cases he:e=0
 ·
  rw[t1,he]
 ·
  rw[decide_eq_false he]at hc
  exact absurd (Option.some.inj hc) he
theorem zlA {N:List zm}{E0 E:List zJ}(hR:vF ⟨N,E0⟩)(hc:vO ⟨N,E0⟩=some 0)(hlen:E.length=E0.length)(hid:∀i:Nat,i<E.length→(gx E (i:Int)).Id=(gx E0 (i:Int)).Id)(he:∀i:Nat,i<E.length→qU N (gx E (i:Int)) false=0):
  vO ⟨N,E⟩=some 0:=by
 have hl:=hR.nl;have hel:=hR.el
 simp only at hl hel
 have hg:QO (yp ⟨N,E⟩)=some 0:=by rw[znX (E':=E0)];exact znY hR hc
 have hd:(N.map (·.Id)).Nodup:=hR.hd
 unfold vO
 have:(decide (500<(N.length:Int)) || decide (1000<(E.length:Int)))=false:=by simp;omega
 simp only
 rw[this,cond_false,zG]
 let nE:Nat→Int:=fun i=>vL (gx N (i:Int)) (decide ((gx N (i:Int)).Id∈(N.take i).map (·.Id)))
 have k0:(GMap.nil:GMap Str Bool)=knM ((N.take 0).map (·.Id)):=by simp[knM,GMap.nil]
 rw[k0]
 have p1:=vx (n:=N.length) (step:=YT ⟨N,E⟩) (fin:=fun s=>(Res.nx s:Res (GMap Str Bool) Int)) (fun k=>knM ((N.take k).map (·.Id))) nE (fun e=>Res.ab e) (by omega) (fun i hi _=>by
  unfold YT
  simp only
  rw[zo ⟨by omega,by omega⟩,zG,zb0,zfu,Option.bind_some]
  show(bif !decide (nE i=0)then _ else _)=_
  by_cases h:nE i=0
  ·
   rw[decide_eq_true h,if_pos h,zb1,List.take_succ_eq_append_getElem hi,List.map_append,zS hi];rfl
  ·
   rw[decide_eq_false h,if_neg h];rfl)
 have h1:zP ((List.range N.length).map nE)=0:=qi.2 fun e he=>by
  obtain⟨i,hi,rfl⟩:=List.mem_map.1 he
  have hi:i<N.length:=by simpa using hi
  show vL (gx N (i:Int)) _=0
  rw[zS hi]
  exact hR.node i hi
 rw[p1,if_pos h1,qd,List.take_length,zhD (d:=⟨N,E⟩) hl hd,Option.bind_some,Option.bind_some,hg,Option.bind_some,decide_eq_true (rfl:(0:Int)=0),Bool.not_true,cond_false]
 have hids:∀i:Nat,(E.take i).map (·.Id)=(E0.take i).map (·.Id):=fun i=>by
  refine List.ext_getElem (by simp[hlen]) fun j a1 a2=>?_
  simp only[List.length_map,List.length_take]at a1 a2
  simp only[List.getElem_map,List.getElem_take]
  have:=hid j (by omega)
  rw[zS (by omega),zS (by omega)]at this
  exact this
 let eE:Nat→Int:=fun i=>qU N (gx E (i:Int)) (decide ((gx E (i:Int)).Id∈N.map (·.Id)++(E.take i).map (·.Id)))
 have k1:knM (N.map (·.Id))=knM (N.map (·.Id)++(E.take 0).map (·.Id)):=by simp
 rw[k1]
 have p2:=vx (n:=E.length) (step:=zaL ⟨N,E⟩ (yp ⟨N,E⟩)) (fin:=fun s=>(Res.nx s:Res (GMap Str Bool) Int)) (fun k=>knM (N.map (·.Id)++(E.take k).map (·.Id))) eE (fun e=>Res.ab e) (by omega) (fun i hi _=>by
  unfold zaL
  simp only
  rw[zo ⟨by omega,by omega⟩,zG,zb0,zh9,Option.bind_some]
  show(bif !decide (eE i=0)then _ else _)=_
  by_cases h:eE i=0
  ·
   rw[decide_eq_true h,if_pos h,zb1,List.take_succ_eq_append_getElem hi,List.map_append,zS hi,List.append_assoc];rfl
  ·
   rw[decide_eq_false h,if_neg h];rfl)
 have h2:zP ((List.range E.length).map eE)=0:=qi.2 fun e hm=>by
  obtain⟨i,hi,rfl⟩:=List.mem_map.1 hm
  have hi:i<E.length:=by simpa using hi
  have htw:decide ((gx E (i:Int)).Id∈N.map (·.Id)++(E.take i).map (·.Id))=false:=by
   have h0:=hR.edge i (by simp only;omega)
   simp only at h0
   rw[hid i hi,hids i,zS (by omega)]
   cases ht:decide (E0[i].Id∈N.map (·.Id)++(E0.take i).map (·.Id))with
   | false=>rfl
   | true=>
    rw[ht]at h0
    unfold qU at h0
    have:=qi.1 h0 (if true=true then 6 else 0) (by simp)
    simp at this
  show qU N (gx E (i:Int)) _=0
  rw[htw];exact he i hi
 rw[p2,if_pos h2,qd]
 have p3:=vx (n:=N.length) (step:=zaM (yp ⟨N,E⟩)) (fin:=fun s=>(Res.nx s:Res Unit Int)) (fun _=>()) (fun _=>0) (fun e=>Res.ab e) (by omega) (fun i hi _=>by
  unfold zaM
  obtain⟨b,g1,_,_⟩:=hR.box i hi
  rw[zmr (E':=E0),g1,Option.bind_some];rfl)
 have h3:zP ((List.range N.length).map fun _=>(0:Int))=0:=qi.2 fun e he=>by
  obtain⟨i,_,rfl⟩:=List.mem_map.1 he
  rfl
 rw[p3,if_pos h3];rfl
def wl (N:List zm):List Box:=(N.filter (fun n=>!decide (n.Kind=6))).map (·.Box)
theorem zrV (N:List zm)(n:zm):wl (N++[n])=if n.Kind=6 then wl N else wl N++[n.Box]:=by
 unfold wl
 rw[List.filter_append,List.map_append]
 by_cases h:n.Kind=6<;>simp[h]
theorem zhE (N:List zm):(wl N).length≤N.length:=by
 unfold wl;rw[List.length_map];exact List.length_filter_le _ _
theorem zbq {N:List zm}{k:Nat}(hk:k<N.length):wl (N.take (k+1))=if(gx N (k:Int)).Kind=6 then wl (N.take k)else wl (N.take k)++[(gx N (k:Int)).Box]:=by
 rw[List.take_succ_eq_append_getElem hk,zrV,zS hk]
def zc5 (N:List zm)(c:GMap Str zm):Prop:=∀n∈N,c.f n.Id=some n
theorem zlN {d:Doc}(hl:d.Nodes.length≤500)(hd:(d.Nodes.map (·.Id)).Nodup):∃c,zc5 d.Nodes c∧yS (d.Nodes.length:Int) (zcy d) (([]:List Box),(GMap.nil:GMap Str zm))=some (wl d.Nodes,c):=by
 obtain⟨s,h1,h2,h3⟩:=Y7 (n:=(d.Nodes.length:Int)) (step:=zcy d) (s0:=(([]:List Box),(GMap.nil:GMap Str zm))) (fun k s=>s.1=wl (d.Nodes.take k)∧∀j:Nat,j<k→s.2.f (gx d.Nodes (j:Int)).Id=some (gx d.Nodes (j:Int))) (by omega) ⟨by simp[wl],fun j hj=>by omega⟩ (fun k s hk hI=>by
  obtain⟨i1,i2⟩:=hI
  have hk':k<d.Nodes.length:=by omega
  have hin:inR d.Nodes (k:Int):=⟨by omega,by omega⟩
  have hmap:∀j:Nat,j<k+1→(s.2.set (gx d.Nodes (k:Int)).Id (gx d.Nodes (k:Int))).f (gx d.Nodes (j:Int)).Id=some (gx d.Nodes (j:Int)):=fun j hj=>by
   unfold GMap.set
   simp only
   by_cases e:j=k
   ·
    subst e;rw[if_pos rfl]
   ·
    rw[if_neg,i2 j (by omega)]
    intro hid
    rw[zS (by omega),zS hk']at hid
    rw[List.nodup_iff_pairwise_ne,List.pairwise_iff_getElem]at hd
    have:=hd j k (by simp;omega) (by simpa using hk') (by omega)
    simp only[List.getElem_map]at this
    exact this hid
  have hlen:=zhE (d.Nodes.take k)
  rw[List.length_take]at hlen
  unfold zcy
  rw[zo hin,zG,zG]
  by_cases h6:(gx d.Nodes (k:Int)).Kind=6
  ·
   rw[decide_eq_true h6,Bool.not_true,cond_false]
   exact⟨_,rfl,by rw[zbq hk',if_pos h6];exact i1,hmap⟩
  ·
   rw[decide_eq_false h6,Bool.not_false,cond_true,zo (by rw[jd,i1];simp;omega)]
   exact⟨_,rfl,by rw[zbq hk',if_neg h6,i1],hmap⟩)
 simp only[Int.toNat_natCast,List.take_length]at h2 h3
 refine⟨s.2,fun n hn=>?_,by rw[h1,←h2]⟩
 obtain⟨i,hi,rfl⟩:=List.mem_iff_getElem.1 hn
 have:=h3 i hi
 rw[zS hi]at this
 exact this
theorem zoG {d:Doc}(hl:(d.Nodes.length:Int)≤9223372036854775807):yS (d.Nodes.length:Int) (zb2 d) 0=some ((wl d.Nodes).length:Int):=by
 obtain⟨s,h1,h2⟩:=Y7 (n:=(d.Nodes.length:Int)) (step:=zb2 d) (s0:=(0:Int)) (fun k s=>s=((wl (d.Nodes.take k)).length:Int)) hl (by simp[wl]) (fun k s hk hI=>by
  subst hI
  have hk':k<d.Nodes.length:=by omega
  have hlen:=zhE (d.Nodes.take k)
  rw[List.length_take]at hlen
  unfold zb2
  rw[zo ⟨by omega,by omega⟩,zG]
  by_cases h6:(gx d.Nodes (k:Int)).Kind=6
  ·
   rw[decide_eq_true h6,Bool.not_true,cond_false]
   exact⟨_,rfl,by rw[zbq hk',if_pos h6]⟩
  ·
   rw[decide_eq_false h6,Bool.not_false,cond_true,zG,Wk (by omega) (by omega)]
   exact⟨_,rfl,by rw[zbq hk',if_neg h6];simp⟩)
 simp only[Int.toNat_natCast,List.take_length]at h2
 rw[h1,h2]
theorem zmT {l:List zm}{y:yx}(h:qv l y=0):¬yn l y.Node<0∧(gx l (yn l y.Node)).Kind≠6∧(1≤y.Side∧y.Side≤4)∧0≤y.At∧y.At≤1000:=by
 unfold qv at h
 by_cases h1:yn l y.Node<0
 ·
  rw[if_pos h1]at h;cases h
 ·
  rw[if_neg h1]at h
  by_cases h2:(gx l (yn l y.Node)).Kind=6
  ·
   rw[if_pos h2]at h;cases h
  ·
   rw[if_neg h2]at h
   by_cases h3:(1≤y.Side∧y.Side≤4)∧0≤y.At∧y.At≤1000
   ·
    exact⟨h1,h2,h3⟩
   ·
    rw[if_neg h3]at h;cases h
theorem zjR {N:List zm}{E0:List zJ}(hR:vF ⟨N,E0⟩){y:yx}(he:qv N y=0):∃p,(∀E,QT ⟨N,E⟩ y=some p)∧∀c:GMap Str zm,zc5 N c→JZ y c=some p:=by
 obtain⟨h1,h2,h3,h4,h5⟩:=zmT he
 obtain⟨g1,g2⟩:=zdW h1
 have hl:=hR.nl
 simp only at hl
 have hn:gx N (yn N y.Node)∈N:=qQ g1
 obtain⟨k1,k2,k3⟩:=hR.at (n:=gx N (yn N y.Node)) hn
 obtain⟨p,p1,p2,_⟩:=zpm (k3 h2) (k:=(gx N (yn N y.Node)).Kind) (by omega) h3.1 h3.2 h4 h5
 refine⟨p,fun E=>?_,fun c hc=>?_⟩
 ·
  unfold QT
  rw[Jl (d:=⟨N,E⟩) (by simp only;omega)]
  simp only[zG,zq]
  rw[zo g1,p2];rfl
 ·
  unfold JZ
  have hg:c.getD y.Node (⟨Str.nil,(0:Int),(⟨(0:Int),(0:Int),(0:Int),(0:Int)⟩:Box),Str.nil,Str.nil,Str.nil,false⟩:zm)=gx N (yn N y.Node):=by
   unfold GMap.getD
   have:=hc _ hn
   rw[g2]at this
   rw[this];rfl
  simp only[zG]
  rw[hg,p1];rfl
theorem zl8 {N:List zm}{E0:List zJ}(hl:N.length≤500){x:zJ}{p q:zd}(hp:∀E,QT ⟨N,E⟩ x.From=some p)(hq:∀E,QT ⟨N,E⟩ x.To=some q)(clear:Int):
  zcq ⟨N,E0⟩ x clear=some ⟨p,x.From.Side,q,x.To.Side,wl N,clear⟩:=by
 unfold zcq
 simp only[zG]
 rw[hp,hq,zq,zq]
 obtain⟨s,h1,h2⟩:=Y7 (n:=(N.length:Int)) (step:=zep ⟨N,E0⟩) (s0:=(⟨p,x.From.Side,q,x.To.Side,([]:List Box),clear⟩:zA)) (fun k s=>s=⟨p,x.From.Side,q,x.To.Side,wl (N.take k),clear⟩) (by omega) (by simp[wl]) (fun k s hk hI=>by
  subst hI
  have hk':k<N.length:=by omega
  have hlen:=zhE (N.take k)
  rw[List.length_take]at hlen
  unfold zep
  simp only
  rw[zo ⟨by omega,by omega⟩,zG]
  by_cases h6:(gx N (k:Int)).Kind=6
  ·
   rw[decide_eq_true h6,Bool.not_true,cond_false]
   exact⟨_,rfl,by rw[zbq hk',if_pos h6]⟩
  ·
   rw[decide_eq_false h6,Bool.not_false,cond_true,zo (by rw[jd];simp;omega)]
   exact⟨_,rfl,by rw[zbq hk',if_neg h6]⟩)
 simp only[Int.toNat_natCast,List.take_length]at h2
 rw[h1,zq,h2]
theorem zmR {l:List zm}{x:zJ}(h:qU l x false=0):qv l x.From=0∧qv l x.To=0∧x.Bends.length≤50:=by
 unfold qU at h
 have h:=qi.1 h
 refine⟨h _ (by simp),h (qv l x.To) (by simp),?_⟩
 have:=h (if 50<x.Bends.length then 4 else 0) (by simp)
 by_cases c:50<x.Bends.length
 ·
  rw[if_pos c]at this;cases this
 ·
  omega
theorem zmQ {l:List zm}{x:zJ}(h:qU l x false=0){B:List zd}(hB:B.length≤50)(hp:qB B=0):qU l { x with Bends:=B } false=0:=by
 unfold qU at h⊢
 have h:=qi.1 h
 refine qi.2 fun e he=>?_
 simp only[List.mem_cons,List.not_mem_nil,or_false]at he
 rcases he with rfl | rfl | rfl | rfl | rfl | rfl | rfl | rfl
 ·
  exact h (if qm x.Id=true then 0 else 5) (by simp)
 ·
  rfl
 ·
  exact h _ (by simp)
 ·
  exact h (qv l x.To) (by simp)
 ·
  rw[if_neg (by omega)]
 ·
  exact hp
 ·
  exact h (qI x.Text) (by simp)
 ·
  exact h (jQ x.Class) (by simp)
theorem zqN {α:Type}{a b:α}{C:List α}:seg (a::C++[b]) 1 (((a::C++[b]).length:Int) - 1)=C:=by
 unfold seg
 have:(((a::C++[b]).length:Int) - 1).toNat=C.length+1:=by simp
 rw[this]
 simp
theorem zmS {N:List zm}{E0:List zJ}(hR:vF ⟨N,E0⟩){clear:Int}(hw:(wl N).length≤100){x:zJ}(hx:qU N x false=0):∃B:List zd,
  (∀c,zc5 N c→∀(i:Nat) (s:List zJ),i<s.length→gx s (i:Int)=x→za8 (wl N,c) clear (i:Int) s=some (s.set i { x with Bends:=B }))∧
  qU N { x with Bends:=B } false=0∧
  ∀(E:List zJ) (i:Nat),i<E0.length→gx E0 (i:Int)=x→i<E.length→gx E (i:Int) = { x with Bends:=B }→zb3 ⟨N,E0⟩ (⟨N,E⟩,0) clear (i:Int) ()=some (Res.nx ()):=by
 obtain⟨e1,e2,e3⟩:=zmR hx
 obtain⟨p,p1,p2⟩:=zjR hR e1
 obtain⟨q,q1,q2⟩:=zjR hR e2
 have hl:=hR.nl
 simp only at hl
 have hpts:qB x.Bends=0:=by
  unfold qU at hx
  exact qi.1 hx (qB x.Bends) (by simp)
 generalize ht:(⟨p,x.From.Side,q,x.To.Side,wl N,clear⟩:zA)=t
 have htw:t.Walls=wl N:=by rw[←ht]
 have hwl:(t.Walls.length:Int)≤9223372036854775807:=by rw[htw];omega
 have step:∀(r:List zd×Int) (B:List zd),Y9 t=some r→B.length≤1000→(∀k:List zd→Option (List zJ),Option.bind (bif(decide (r.2=0))&&(decide ((W ((r.1.length:Int) - 2))≤50))then(zl (vy r.1.length 1 (W ((r.1.length:Int) - 1))) (some (seg r.1 1 (W ((r.1.length:Int) - 1)))))else some x.Bends) k=k B)→
   ∀c,zc5 N c→∀(i:Nat) (s:List zJ),i<s.length→gx s (i:Int)=x→za8 (wl N,c) clear (i:Int) s=some (s.set i { x with Bends:=B }):=fun r B hr hB hk c hc i s hi hg=>by
  unfold za8
  simp only
  rw[zo ⟨by omega,by omega⟩,zG,hg,p2 c hc,q2 c hc,zq,zq,ht,hr,zq,hk,zhL hB,zq,zo ⟨by omega,by omega⟩]
  simp
 have hSame:JP (⟨([]:(List zm)),[x]⟩:Doc) (⟨([]:(List zm)),[x]⟩:Doc)=some true:=zl7 (by simp) (by simp) (fun z hz=>by simp at hz;subst hz;omega)
 have law:∀(B:List zd) (j:Int×Int×Bool),B.length≤1000→(Option.bind (Y3 t) fun r11=>bif decide (r11=0)then(Option.bind (JM t) fun r12=>some (r12.1,r12.2.1,r12.2.2))else some ((0:Int),(0:Int),false))=some j→
   ((bif(!j.2.2) || (decide (50<j.1))then(Option.bind (YD B x.Bends) fun r13=>bif !r13 then some (Res.ab (Res.ab (Res.ab false)))else some (Res.nx ()))
    else(Option.bind (JN t (p::B++[q])) fun r14=>Option.bind (gd (!(!r14)) (JL (p::B++[q]))) fun r15=>Option.bind (gd (!((!r14) || (!decide (r15=j.1)))) (JO (p::B++[q]))) fun r16=>
     bif((!r14) || (!decide (r15=j.1))) || (!decide (r16=j.2.1))then some (Res.ab (Res.ab (Res.ab false)))else some (Res.nx ())):Option (Res Unit (Res Unit (Res Unit Bool))))=some (Res.nx ()))→
   ∀(E:List zJ) (i:Nat),i<E0.length→gx E0 (i:Int)=x→i<E.length→gx E (i:Int) = { x with Bends:=B }→zb3 ⟨N,E0⟩ (⟨N,E⟩,0) clear (i:Int) ()=some (Res.nx ()):=fun B j hB hj hv E i hi hg hi' hg'=>by
  unfold zb3
  simp only
  rw[zo ⟨by omega,by omega⟩,zG,hg,zl8 hl p1 q1,zq,ht,zo ⟨by omega,by omega⟩,zG,hg']
  have hline:zcm (⟨N,E⟩:Doc) { x with Bends:=B } = some (p::B++[q]):=by
   unfold zcm
   simp only
   rw[p1,q1,zq,zo (by rw[jd];simp;omega),zG,zq,zo (by rw[jd];simp;omega)]
   simp
  rw[hline,zq]
  cases hte:Y3 t with
  | none=>rw[hte]at hj;cases hj
  | some v=>
   rw[hte,zq]at hj
   rw[zq,hj,zq,hv,qd,hSame];rfl
 by_cases hc:QZ t=0
 ·
  have h:=zrz hc
  obtain⟨fr,to_,hE,r,hr,hcase⟩:=zl6 h hc hwl
  obtain⟨rc,hrc,k1,k2⟩:=zly h hE
  have hj:(Option.bind (Y3 t) fun r11=>bif decide (r11=0)then(Option.bind (JM t) fun r12=>some (r12.1,r12.2.1,r12.2.2))else some ((0:Int),(0:Int),false))=some rc:=by
   rw[zhT hwl,zq,decide_eq_true hc,cond_true,hrc];rfl
  have stay:∀j:Int×Int×Bool,(j.2.2=false∨50<j.1)→((bif(!j.2.2) || (decide (50<j.1))then(Option.bind (YD x.Bends x.Bends) fun r13=>bif !r13 then some (Res.ab (Res.ab (Res.ab false)))else some (Res.nx ()))
    else(Option.bind (JN t (p::x.Bends++[q])) fun r14=>Option.bind (gd (!(!r14)) (JL (p::x.Bends++[q]))) fun r15=>Option.bind (gd (!((!r14) || (!decide (r15=j.1)))) (JO (p::x.Bends++[q]))) fun r16=>
     bif((!r14) || (!decide (r15=j.1))) || (!decide (r16=j.2.1))then some (Res.ab (Res.ab (Res.ab false)))else some (Res.nx ())):Option (Res Unit (Res Unit (Res Unit Bool))))=some (Res.nx ())):=fun j hj=>by
   have:((!j.2.2) || (decide (50<j.1)))=true:=by rcases hj with h | h<;>simp[h]
   rw[this,cond_true,zc1 _ _ (by omega),zq,decide_eq_true rfl];rfl
  rcases hcase with⟨rfl,hno⟩ | ⟨b1,b2,way,b,n,hF,rfl⟩
  ·
   have hrc0:=k1 hno
   subst hrc0
   exact⟨x.Bends,step _ _ hr (by omega) (fun k=>by simp),hx,law x.Bends _ (by omega) hj (stay _ (.inl rfl))⟩
  ·
   have hfb:=znd h hE hF
   obtain⟨hW,hlen,hlu⟩:=hF.right h hE hfb
   have e2':=k2 b1 b2 way b n hF
   have hp:=hW.path
   have hpt:=(YV.1 hp).1
   have hub:=zgl hpt _ (Nat.le_refl _)
   have hll:=(Yr.1 hpt).1
   have h1l:=(YR.1 (YV.1 hp).2).1
   have c1:=h.c1
   have e2':=e2' (by omega)
   subst e2'
   have hFrom:t.From=p:=by rw[←ht]
   have hTo:t.To=q:=by rw[←ht]
   rw[hFrom,hTo]at hW hlen hlu hr hp hpt hub hll h1l
   have hcl:(cor t way).length=b:=by simp at hlen;omega
   have hWn:W (((p::cor t way++[q]).length:Int) - 2)=b:=by rw[Wk (by omega) (by omega)];omega
   have hW1:W (((p::cor t way++[q]).length:Int) - 1)=((p::cor t way++[q]).length:Int) - 1:=Wk (by omega) (by omega)
   by_cases h50:50<b
   ·
    refine⟨x.Bends,step _ _ hr (by omega) (fun k=>?_),hx,law x.Bends _ (by omega) hj (stay _ (.inr h50))⟩
    simp only
    rw[hWn,decide_eq_false (by omega:¬b≤50),Bool.and_false];rfl
   ·
    have hcp:qB (cor t way)=0:=Yr.2 ⟨by omega,fun z hz=>(Yr.1 hpt).2 z (by simp[hz])⟩
    refine⟨cor t way,step _ _ hr (by omega) (fun k=>?_),zmQ hx (by omega) hcp,law (cor t way) _ (by omega) hj ?_⟩
    ·
     simp only[decide_true,Bool.true_and]
     rw[hWn,decide_eq_true (by omega:b≤50),cond_true,hW1,zo ⟨by omega,by omega,by omega⟩,zqN];rfl
    ·
     obtain⟨iw,hiw,iwi⟩:=zlL h hpt
     have:=iwi.2 hW
     subst this
     simp only
     rw[decide_eq_false h50,Bool.not_true,Bool.or_self,cond_false,hiw,zq,zlv hW,zlW hpt (by omega),hlu,show((p::cor t way++[q]).length:Int) - 2=b by omega]
     simp
 ·
  have hr:Y9 t=some ([],QZ t):=by
   unfold Y9
   rw[zeF hwl,zq]
   simp[hc]
  refine⟨x.Bends,step _ _ hr (by omega) (fun k=>by simp[hc]),hx,law x.Bends (0,0,false) (by omega) (by rw[zhT hwl,zq,decide_eq_false hc];rfl) ?_⟩
  simp only
  rw[Bool.not_false,Bool.true_or,cond_true,zc1 _ _ (by omega),zq,decide_eq_true rfl];rfl
theorem zl4 (d:Doc)(clear:Int)(hf:zT d):zdH d clear=some true:=by
 obtain⟨e,c1,c2,c3⟩:=zlB hf
 have hnl:(d.Nodes.length:Int)≤9223372036854775807:=by have:=hf.1.1;omega
 have hin:q6 clear 1 200=some (decide (1≤clear∧clear≤200)):=Qz _ _ _
 have hbad:(decide (clear<1) || decide (200<clear))=!decide (1≤clear∧clear≤200):=by
  rw[Bool.eq_iff_iff];simp only[Bool.or_eq_true,decide_eq_true_eq,Bool.not_eq_true',decide_eq_false_iff_not];omega
 have hF:∀a b c:Int,q5 [a,b,c]=some (zP [a,b,c]):=fun a b c=>Qa (by simp)
 unfold zdH zeG
 rw[c1,c2,zoG hnl,hin,hbad]
 simp only[zG,zq,jD,hF,zqv]
 by_cases he:e=0
 ·
  have hR:=c3 he
  subst he
  have hl:=hR.nl;have hel:=hR.el
  simp only[decide_true,Bool.not_true,cond_false]
  by_cases hc:1≤clear∧clear≤200
  ·
   rw[decide_eq_true hc]
   simp only[Bool.not_true,cond_false,Bool.false_eq_true,if_false]
   obtain⟨c,k1,k2⟩:=zlN hl hR.hd
   rw[k2,zq]
   by_cases hm:100<(wl d.Nodes).length
   ·
    have hm':decide (100<((wl d.Nodes).length:Int))=true:=by rw[decide_eq_true_eq];omega
    simp only[hm',cond_true,zq,if_true,vq,zdp]
    have:=zfC (w:=4) (by decide) d
    simp[this]
   ·
    have hm':decide (100<((wl d.Nodes).length:Int))=false:=by rw[decide_eq_false_iff_not];omega
    simp only[hm',cond_false,Bool.false_eq_true,if_false]
    rw[zlD (by omega),zlC (by omega),zq,zq]
    have hedge:∀i:Nat,i<d.Edges.length→qU d.Nodes (gx d.Edges (i:Int)) false=0:=fun i hi=>by
     have h0:=hR.edge i hi
     rw[zS hi]
     cases ht:decide (d.Edges[i].Id∈d.Nodes.map (·.Id)++(d.Edges.take i).map (·.Id))with
     | false=>rw[ht]at h0;exact h0
     | true=>
      rw[ht]at h0
      unfold qU at h0
      have:=qi.1 h0 (if true=true then 6 else 0) (by simp)
      simp at this
    have hR':vF ⟨d.Nodes,d.Edges⟩:=hR
    have hway:=fun(i:Nat) (hi:i<d.Edges.length)=>zmS hR' (clear:=clear) (by omega) (hedge i hi)
    obtain⟨f,hf2⟩:∃f:Nat→List zd,∀i:Nat,∀hi:i<d.Edges.length,f i=(hway i hi).choose:=⟨fun i=>if hi:i<d.Edges.length then(hway i hi).choose else [],fun i hi=>dif_pos hi⟩
    have hspec:=fun(i:Nat) (hi:i<d.Edges.length)=>by
     have:=(hway i hi).choose_spec
     rw[←hf2 i hi]at this
     exact this
    obtain⟨E,g1,g2,g3⟩:=zqc (l:=d.Edges) (step:=za8 (wl d.Nodes,c) clear) (fun i x=>{ x with Bends:=f i }) (by omega) (fun i s hi hs hg=>(hspec i hi).1 c k1 i s (by omega) hg)
    rw[g1,zq,zq]
    have hw0:zP [(0:Int),0,0]=0:=by simp
    rw[hw0]
    simp only[decide_true,Bool.not_true,Bool.or_self,cond_false]
    have hcheck:vO ⟨d.Nodes,E⟩=some 0:=zlA hR' c1 g2 (fun i hi=>by rw[g3 i (by omega)]) (fun i hi=>by rw[g3 i (by omega)];exact(hspec i (by omega)).2.1)
    by_cases hfew:(decide ((6:Int)<((wl d.Nodes).length:Int)) || decide ((6:Int)<(d.Edges.length:Int)))=true
    ·
     rw[hfew];rfl
    ·
     rw[Bool.eq_false_iff.2 hfew,cond_false,zhN hnl,zq,decide_eq_true (by omega),Bool.not_true,Bool.or_self,cond_false]
     rw[zgQ (l:=d.Edges) (fun _=>false) (Res.ab false) (by omega) (fun i hi=>by
      obtain⟨k,rfl⟩:∃k:Nat,i=(k:Int):=⟨i.toNat,by have:=hi.1;omega⟩
      have hk:k<d.Edges.length:=by have:=hi.2;omega
      rw[show(⟨d.Nodes,d.Edges⟩:Doc)=d from rfl]at hspec
      rw[(hspec k hk).2.2 E k hk rfl (by omega) (g3 k hk)];rfl)]
     simp[hcheck]
  ·
   rw[decide_eq_false hc]
   simp only[Bool.not_false,cond_true,zq,if_true,vq,zdp]
   have:=zfC (w:=3) (by decide) d
   simp[this]
 ·
  simp only[decide_eq_false he,Bool.not_false,cond_true,zq,vq,if_neg he]
  have:=zfC he d
  simp[this]
end Go.DB
