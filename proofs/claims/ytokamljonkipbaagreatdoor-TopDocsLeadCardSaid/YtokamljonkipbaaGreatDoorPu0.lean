/- A part of the proof. -/
import Derived.Test.YtokamljonkipbaaGreatDoorTdlK2
set_option linter.unusedSimpArgs false
set_option linter.unusedVariables false
namespace Go.DB
open Go Go.RowKit
theorem Wk {n:Int}(h1: -9223372036854775808≤n)(h2:n≤9223372036854775807):W n=n:=ziy ⟨h1,h2⟩
theorem zw {α β:Type}(e:α)(k:α→Option β):bnd e k=k e:=rfl
@[simp] theorem vk {α:Type}[Inhabited α](m:Option α):gd true m=m:=rfl
@[simp] theorem zkf {α:Type}[Inhabited α](m:Option α):gd false m=some default:=rfl
@[simp] theorem yy {σ ρ:Type}(s:σ)(k:σ→Option ρ):yc (some (.nx s)) k=k s:=rfl
@[simp] theorem zdg {σ ρ:Type}(r:ρ)(k:σ→Option ρ):yc (some (.ab r)) k=some r:=rfl
@[simp] theorem vH {α β:Type}(a:α)(k:α→Option β):Option.bind (some a) k=k a:=rfl
theorem zf {β:Type}{c:Prop}{k:Option β}(h:c):zg c k=k:=zsG h
theorem qI {n:Nat}:qd n↔n≤1073741824:=Iff.rfl
theorem zL {α:Type}[Inhabited α]{l:List α}{i:Nat}(h:i<l.length):gx l (i:Int)=l[i]:=by simp[gx,h]
theorem qZ {α:Type}[Inhabited α]{l:List α}{k:Int}(h:inR l k):gx l k∈l:=by
 obtain⟨h0,h1⟩:=h
 have:k.toNat<l.length:=by omega
 unfold gx
 rw[List.getElem?_eq_getElem this]
 exact List.getElem_mem this
theorem zki {α:Type}[Inhabited α]{l:List α}{k:Int}(h:inR l k):gx l k=l[k.toNat]'(by have:=h.1;have:=h.2;omega):=by
 obtain⟨h0,h1⟩:=h
 have:k.toNat<l.length:=by omega
 unfold gx
 rw[List.getElem?_eq_getElem this];rfl
theorem zaT {σ ρ:Type}{body:σ→Option (zN σ ρ)}{s s':σ}(h:body s=some (.again s')):loop body s=loop body s':=by rw[Yj,h]
theorem QI {σ ρ:Type}{body:σ→Option (zN σ ρ)}{s:σ}{e:ρ}(h:body s=some (.done e)):loop body s=some e:=by rw[Yj,h]
def Qr {σ O:Type}(step:Int→σ→Option (Res σ O))(fin:σ→O):Nat→Int→σ→Option O
 | 0,_,s=>some (fin s)
 | k+1,i,s=>match step i s with
  | none=>none
  | some (.nx s')=>Qr step fin k (i+1) s'
  | some (.ab e)=>some e
def rgo {σ:Type}(step:Int→σ→Option σ):Nat→Int→σ→Option σ
 | 0,_,s=>some s
 | k+1,i,s=>match step i s with
  | none=>none
  | some s'=>rgo step k (i+1) s'
theorem zhm {σ O:Type}{n:Int}{step:Int→σ→Option (Res σ O)}{fin:σ→O}{s:σ}(hn:n≤9223372036854775807):z7 n step fin s=Qr step fin n.toNat 0 s:=by
 have key:∀(k:Nat) (i:Int) (s:σ),0≤i→(n - i).toNat=k→
   loop (fun p:Int×σ=>bif decide (p.1<n)then YF (step p.1 p.2) (fun s'=>some (.again (W (p.1+1),s')))else some (.done (fin p.2))) (i,s)=Qr step fin k i s:=by
  intro k
  induction k with
  | zero=>
   intro i s h0 hk
   rw[Yj]
   have:¬i<n:=by omega
   simp[this,Qr]
  | succ k ih=>
   intro i s h0 hk
   rw[Yj]
   have:i<n:=by omega
   simp only[this,decide_true,cond_true,Qr]
   cases step i s with
   | none=>rfl
   | some x=>
    cases x with
    | ab e=>rfl
    | nx s'=>
     show loop _ (W (i+1),s')=_
     rw[Wk (by omega) (by omega)]
     exact ih (i+1) s' (by omega) (by omega)
 rw[zmq]
 exact key _ 0 s (Int.le_refl _) (by simp)
theorem za9 {σ:Type}{n:Int}{step:Int→σ→Option σ}{s:σ}(hn:n≤9223372036854775807):yV n step s=rgo step n.toNat 0 s:=by
 have key:∀(k:Nat) (i:Int) (s:σ),0≤i→(n - i).toNat=k→
   loop (fun p:Int×σ=>bif decide (p.1<n)then(step p.1 p.2).bind (fun s'=>some (.again (W (p.1+1),s')))else some (.done p.2)) (i,s)=rgo step k i s:=by
  intro k
  induction k with
  | zero=>
   intro i s h0 hk
   rw[Yj]
   have:¬i<n:=by omega
   simp[this,rgo]
  | succ k ih=>
   intro i s h0 hk
   rw[Yj]
   have:i<n:=by omega
   simp only[this,decide_true,cond_true,rgo]
   cases step i s with
   | none=>rfl
   | some s'=>
    show loop _ (W (i+1),s')=_
    rw[Wk (by omega) (by omega)]
    exact ih (i+1) s' (by omega) (by omega)
 unfold yV
 exact key _ 0 s (Int.le_refl _) (by simp)
theorem J4 {σ O:Type}{n:Int}{step:Int→σ→Option (Res σ O)}{fin:σ→O}{s0:σ}(I:Nat→σ→Prop)(post:O→Prop)(hn:n≤9223372036854775807)(h0:I 0 s0)
  (hs:∀(i:Nat) s,(i:Int)<n→I i s→(∃s',step i s=some (.nx s')∧I (i+1) s')∨∃e,step i s=some (.ab e)∧post e)
  (hf:∀s,I n.toNat s→post (fin s)):∃e,z7 n step fin s0=some e∧post e:=by
 rw[zhm hn]
 have key:∀(k i:Nat) (s:σ),i+k=n.toNat→I i s→∃e,Qr step fin k (i:Int) s=some e∧post e:=by
  intro k
  induction k with
  | zero=>intro i s hk hI;exact⟨_,rfl,hf s (by rw[←hk];exact hI)⟩
  | succ k ih=>
   intro i s hk hI
   simp only[Qr]
   rcases hs i s (by omega) hI with⟨s',h1,h2⟩ | ⟨e,h1,h2⟩
   ·
    rw[h1]
    have:=ih (i+1) s' (by omega) h2
    simpa using this
   ·
    rw[h1];exact⟨e,rfl,h2⟩
 exact key n.toNat 0 s0 (by omega) h0
theorem QO {σ:Type}{n:Int}{step:Int→σ→Option σ}{s0:σ}(I:Nat→σ→Prop)(hn:n≤9223372036854775807)(h0:I 0 s0)
  (hs:∀(i:Nat) s,(i:Int)<n→I i s→∃s',step i s=some s'∧I (i+1) s'):∃s,yV n step s0=some s∧I n.toNat s:=by
 rw[za9 hn]
 have key:∀(k i:Nat) (s:σ),i+k=n.toNat→I i s→∃e,rgo step k (i:Int) s=some e∧I n.toNat e:=by
  intro k
  induction k with
  | zero=>intro i s hk hI;exact⟨_,rfl,by rw[←hk];exact hI⟩
  | succ k ih=>
   intro i s hk hI
   simp only[rgo]
   obtain⟨s',h1,h2⟩:=hs i s (by omega) hI
   rw[h1]
   have:=ih (i+1) s' (by omega) h2
   simpa using this
 exact key n.toNat 0 s0 (by omega) h0
theorem ztE {σ τ:Type}{n:Int}{step:Int→σ→Option σ}{step':Int→τ→Option τ}{s0:σ}{t0:τ}(I:Nat→σ→τ→Prop)(hn:n≤9223372036854775807)(h0:I 0 s0 t0)
  (hs:∀(i:Nat) s t,(i:Int)<n→I i s t→∃s' t',step i s=some s'∧step' i t=some t'∧I (i+1) s' t'):∃s t,yV n step s0=some s∧yV n step' t0=some t∧I n.toNat s t:=by
 rw[za9 hn,za9 hn]
 have key:∀(k i:Nat) (s:σ) (t:τ),i+k=n.toNat→I i s t→∃s' t',rgo step k (i:Int) s=some s'∧rgo step' k (i:Int) t=some t'∧I n.toNat s' t':=by
  intro k
  induction k with
  | zero=>intro i s t hk hI;exact⟨_,_,rfl,rfl,by rw[←hk];exact hI⟩
  | succ k ih=>
   intro i s t hk hI
   simp only[rgo]
   obtain⟨s',t',h1,h2,h3⟩:=hs i s t (by omega) hI
   rw[h1,h2]
   have:=ih (i+1) s' t' (by omega) h3
   simpa using this
 exact key n.toNat 0 s0 t0 (by omega) h0
theorem zek {σ ρ:Type}{body:σ→Option (zN σ ρ)}{s0:σ}(I:σ→Prop)(μ:σ→Nat)(post:ρ→Prop)(h0:I s0)
  (hs:∀s,I s→(∃s',body s=some (.again s')∧I s'∧μ s'<μ s)∨∃e,body s=some (.done e)∧post e):∃e,loop body s0=some e∧post e:=by
 have key:∀(k:Nat) (s:σ),μ s=k→I s→∃e,loop body s=some e∧post e:=by
  intro k
  induction k using Nat.strongRecOn with
  | _ k ih=>
   intro s hk hI
   rw[Yj]
   rcases hs s hI with⟨s',h1,h2,h3⟩ | ⟨e,h1,h2⟩
   ·
    rw[h1];exact ih _ (hk▸h3) s' rfl h2
   ·
    rw[h1];exact⟨e,rfl,h2⟩
 exact key _ s0 rfl h0
theorem zsi {σ τ ρ ρ':Type}{body:σ→Option (zN σ ρ)}{body':τ→Option (zN τ ρ')}{s0:σ}{t0:τ}(R:σ→τ→Prop)(μ:σ→Nat)(post:ρ→ρ'→Prop)(h0:R s0 t0)
  (hs:∀s t,R s t→(∃s' t',body s=some (.again s')∧body' t=some (.again t')∧R s' t'∧μ s'<μ s)∨∃e e',body s=some (.done e)∧body' t=some (.done e')∧post e e'):
  ∃e e',loop body s0=some e∧loop body' t0=some e'∧post e e':=by
 have key:∀(k:Nat) (s:σ) (t:τ),μ s=k→R s t→∃e e',loop body s=some e∧loop body' t=some e'∧post e e':=by
  intro k
  induction k using Nat.strongRecOn with
  | _ k ih=>
   intro s t hk hI
   rw[Yj,Yj]
   rcases hs s t hI with⟨s',t',h1,h2,h3,h4⟩ | ⟨e,e',h1,h2,h3⟩
   ·
    rw[h1,h2];exact ih _ (hk▸h4) s' t' rfl h3
   ·
    rw[h1,h2];exact⟨e,e',rfl,rfl,h3⟩
 exact key _ s0 t0 rfl h0
def q7 {α σ O:Type}(f:α→σ→Option (Res σ O))(fin:σ→O):List α→σ→Option O
 | [],s=>some (fin s)
 | x::l,s=>match f x s with
  | none=>none
  | some (.nx s')=>q7 f fin l s'
  | some (.ab e)=>some e
def lgo {α σ:Type}(f:α→σ→Option σ):List α→σ→Option σ
 | [],s=>some s
 | x::l,s=>match f x s with
  | none=>none
  | some s'=>lgo f l s'
theorem zcJ {α σ O:Type}[Inhabited α]{l:List α}{step:Int→σ→Option (Res σ O)}{fin:σ→O}{s:σ}(f:α→σ→Option (Res σ O))(hl:(l.length:Int)≤9223372036854775807)
  (hf:∀i s,inR l i→step i s=f (gx l i) s):z7 (l.length:Int) step fin s=q7 f fin l s:=by
 rw[zhm hl]
 have key:∀(k i:Nat) (s:σ),i+k=l.length→Qr step fin k (i:Int) s=q7 f fin (l.drop i) s:=by
  intro k
  induction k with
  | zero=>intro i s hk;rw[List.drop_eq_nil_of_le (by omega)];rfl
  | succ k ih=>
   intro i s hk
   have hi:i<l.length:=by omega
   rw[List.drop_eq_getElem_cons hi,Qr,q7,hf i s ⟨by omega,by omega⟩,zL hi]
   cases f l[i] s with
   | none=>rfl
   | some x=>
    cases x with
    | ab e=>rfl
    | nx s'=>have:=ih (i+1) s' (by omega);simpa using this
 have:=key l.length 0 s (by omega)
 simpa using this
theorem ztF {α σ:Type}[Inhabited α]{l:List α}{step:Int→σ→Option σ}{s:σ}(f:α→σ→Option σ)(hl:(l.length:Int)≤9223372036854775807)
  (hf:∀i s,inR l i→step i s=f (gx l i) s):yV (l.length:Int) step s=lgo f l s:=by
 rw[za9 hl]
 have key:∀(k i:Nat) (s:σ),i+k=l.length→rgo step k (i:Int) s=lgo f (l.drop i) s:=by
  intro k
  induction k with
  | zero=>intro i s hk;rw[List.drop_eq_nil_of_le (by omega)];rfl
  | succ k ih=>
   intro i s hk
   have hi:i<l.length:=by omega
   rw[List.drop_eq_getElem_cons hi,rgo,lgo,hf i s ⟨by omega,by omega⟩,zL hi]
   cases f l[i] s with
   | none=>rfl
   | some s'=>have:=ih (i+1) s' (by omega);simpa using this
 have:=key l.length 0 s (by omega)
 simpa using this
theorem zkZ {α σ:Type}{f:α→σ→Option σ}{g:σ→α→σ}:∀{l:List α} {s:σ},(∀x∈l,∀s,f x s=some (g s x))→lgo f l s=some (l.foldl g s)
 | [],s,_=>rfl
 | x::l,s,h=>by
  rw[lgo,h x (by simp)]
  exact zkZ (fun y hy s=>h y (by simp[hy]) s)
theorem ztC {α σ:Type}[Inhabited α]{l:List α}{step:Int→σ→Option σ}{s:σ}(g:σ→α→σ)(hl:(l.length:Int)≤9223372036854775807)
  (hf:∀i s,inR l i→step i s=some (g s (gx l i))):yV (l.length:Int) step s=some (l.foldl g s):=by
 rw[ztF (fun x s=>some (g s x)) hl hf]
 exact zkZ (fun _ _ _=>rfl)
def zK:List Int→Int
 | []=>0
 | e::l=>if e=0 then zK l else e
@[simp] theorem zj1:zK []=0:=rfl
@[simp] theorem vM {e:Int}{l:List Int}:zK (e::l)=if e=0 then zK l else e:=rfl
theorem yU:∀{l:List Int},zK l=0↔∀e∈l,e=0
 | []=>by simp
 | e::l=>by
  by_cases h:e=0
  ·
   simp[h,yU]
  ·
   simp[h]
theorem jF {α O:Type}[Inhabited α]{l:List α}{step:Int→Unit→Option (Res Unit O)}{fin:Unit→O}(err:α→Int)(mk:Int→O)(hl:(l.length:Int)≤9223372036854775807)
  (hf:∀i,inR l i→step i ()=some (if err (gx l i)=0 then .nx ()else .ab (mk (err (gx l i))))):
  z7 (l.length:Int) step fin ()=some (if zK (l.map err)=0 then fin ()else mk (zK (l.map err))):=by
 rw[zcJ (fun x _=>some (if err x=0 then .nx ()else .ab (mk (err x)))) hl (fun i _ hi=>hf i hi)]
 clear hf hl
 induction l with
 | nil=>rfl
 | cons x l ih=>
  rw[q7]
  by_cases h:err x=0
  ·
   simp only[h,if_true,List.map_cons,vM]
   exact ih
  ·
   simp[h]
theorem zmo {α O:Type}[Inhabited α]{l:List α}{step:Int→Unit→Option (Res Unit O)}{fin:Unit→O}(bad:α→Bool)(o:O)(hl:(l.length:Int)≤9223372036854775807)
  (hf:∀i,inR l i→step i ()=some (if bad (gx l i)=true then .ab o else .nx ())):
  z7 (l.length:Int) step fin ()=some (if l.any bad=true then o else fin ()):=by
 rw[zcJ (fun x _=>some (if bad x=true then .ab o else .nx ())) hl (fun i _ hi=>hf i hi)]
 clear hf hl
 induction l with
 | nil=>rfl
 | cons x l ih=>
  rw[q7]
  by_cases h:bad x=true
  ·
   simp[h]
  ·
   simp only[h,List.any_cons]
   simpa using ih
end Go.DB
