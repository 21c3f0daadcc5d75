/- A part of the proof. -/
import Derived.Orders
import Derived.Below
import Derived.Shelf.Unicode.DecodeSlow
import Derived.Lib.LaidTab
import Derived.Lib.ItoaNum
import Derived.IntWalk
import Derived.KernelRfl
set_option linter.unusedSimpArgs false
set_option linter.unusedVariables false
namespace Go.DB
universe uR
theorem o {α:Sort uR}{a:α}:a=a:=rfl
open Go Go.RowKit
abbrev zh:=Nat→Prop
structure zx (M:zh) (w w':World):Prop where
 os:w'.os=w.os
 tape:w'.tape=w.tape
 output:w'.output=w.output
 size:w.heap.size≤w'.heap.size
 block:∀k,k<w.heap.size→¬M k→w'.heap[k]?=w.heap[k]?
abbrev zaG:Nat:=1
abbrev JH:Nat:=2
abbrev JI:Nat:=0
abbrev vi:Nat:=3
abbrev zaI:Nat:=4
abbrev zaH:Nat:=5
def zrl (bs:List Nat)(c:Nat→Nat→Option Value):Prop:=((∀i,i<256→c zaG i=some (.int .u8 (Go.Lib.firstT i)))∧(∀i,i<16→c JH (2*i)=some (.int .u8 (Go.Lib.accLo i))∧c JH (2*i+1)=some (.int .u8 (Go.Lib.accHi i))))∧(∃m,c JI 0=some (.int .i64 m))∧((∀i,i<20→c vi i=some (.int .u64 (Go.Lib.pow10Tab.getD i 0)))∧c vi 20=none)∧((∃tp pe,c zaI 0=some (.iface tp pe))∧∃tp pe,c zaH 0=some (.iface tp pe))
def vD (M:zh)(w:World):Prop:=∃bs:List Nat,(∀b∈bs,¬M b∧b<w.heap.size)∧zrl bs (fun b j=>if b∈bs then w.cell? ⟨b,j,none⟩else none)
theorem vD.law {M M':zh}{w w':World}(hk:zx M w w')(hm:∀k,M' k→M k∨w.heap.size≤k)(h:vD M w):vD M' w':=by
 obtain⟨bs,h1,h2⟩:=h
 refine⟨bs,fun b hb=>⟨fun hM=>(hm b hM).elim (h1 b hb).1 (by have:=(h1 b hb).2;omega),Nat.lt_of_lt_of_le (h1 b hb).2 hk.size⟩,?_⟩
 have e:(fun b j=>if b∈bs then w'.cell? ⟨b,j,none⟩else none)=(fun b j=>if b∈bs then w.cell? ⟨b,j,none⟩else none):=by
  funext b j
  by_cases hb:b∈bs
  ·
   rw[if_pos hb,if_pos hb]
   exact World.cell?_of_block (w:=w) (hk.block b (h1 b hb).2 (h1 b hb).1)
  ·
   rw[if_neg hb,if_neg hb]
 rw[e];exact h2
structure Low (M:zh) (w:World):Prop where
 lt:∀k,M k→k<w.heap.size
 glob:vD M w
instance {M:zh} {w:World}:CoeFun (Low M w) (fun _=>∀k,M k→k<w.heap.size):=⟨Low.lt⟩
instance {M:zh} {w:World}:Coe (Low M w) (∀k,M k→k<w.heap.size):=⟨Low.lt⟩
theorem Low.next {M M':zh}{w w':World}(h:Low M w)(hk:zx M w w')(hm:∀k,M' k→M k∨w.heap.size≤k)(hl:∀k,M' k→k<w'.heap.size):Low M' w':=⟨hl,h.glob.law hk hm⟩
theorem Low.less {M M':zh}{w:World}(h:Low M w)(hm:∀k,M' k→M k):Low M' w:=
 ⟨fun k hk=>h.lt k (hm k hk),h.glob.law ⟨rfl,rfl,rfl,Nat.le_refl _,fun _ _ _=>rfl⟩ (fun k hk=>.inl (hm k hk))⟩
theorem Low.ext {M:zh}{w w':World}(h:Low M w)(hk:zx (fun _=>False) w w'):Low M w':=
 ⟨fun k hk'=>Nat.lt_of_lt_of_le (h.lt k hk') hk.size,h.glob.law ⟨hk.os,hk.tape,hk.output,hk.size,fun k h1 _=>hk.block k h1 (fun f=>f)⟩ (fun k hk=>.inl hk)⟩
theorem Ju {bs:List Nat}{w:World}{b j:Nat}{v:Value}(h:(if b∈bs then w.cell? ⟨b,j,none⟩else none)=some v):w.cell? ⟨b,j,none⟩=some v:=by
 split at h
 ·
  exact h
 ·
  cases h
theorem vD.tabs {M:zh}{w:World}(h:vD M w):Go.Lib.Utf8Tabs zaG JH w:=by
 obtain⟨bs,_,h2⟩:=h
 exact⟨fun i hi=>Ju (h2.1.1 i hi),fun i hi=>⟨Ju (h2.1.2 i hi).1,Ju (h2.1.2 i hi).2⟩⟩
theorem vD.maxLen {M:zh}{w:World}(h:vD M w):∃m,w.cell? ⟨JI,0,none⟩=some (.int .i64 m):=by
 obtain⟨bs,_,h2⟩:=h
 obtain⟨m,hm⟩:=h2.2.1
 exact⟨m,Ju hm⟩
theorem zvI {P:Program}{w:World}{g:Nat}{nm:String}{k:IntKind}{zs:List Int}(hg:P.globalNamed nm=some g)(hz:0<zs.length)(h:∀i,i<zs.length→w.cell? ⟨g,i,none⟩=some (.int k (zs.getD i 0)))(he:w.cell? ⟨g,zs.length,none⟩=none):Go.Lib.TabIs P w nm k zs:=by
 unfold Go.Lib.TabIs World.var?
 rw[hg]
 have h0:=h 0 hz
 unfold World.cell? at h h0 he
 simp only[Option.bind_some]
 cases hb:w.heap[g]? with
 | none=>rw[hb]at h0;cases h0
 | some o=>
  cases o with
  | cells cs t fr=>
   simp only[hb,Option.isSome_none,Bool.false_eq_true,if_false]at h he⊢
   have hsz:cs.size=zs.length:=by
    have h1:=Array.getElem?_eq_none_iff.1 he
    have h2:=(Array.getElem?_eq_some_iff.1 (h (zs.length - 1) (by omega))).1
    omega
   congr 1
   apply Array.ext
   ·
    rw[hsz];simp
   ·
    intro i h1 h2
    have:=(Array.getElem?_eq_some_iff.1 (h i (by omega))).2
    rw[this]
    have hi:i<zs.length:=by omega
    simp[List.getD,hi]
  | _=>rw[hb]at h0;cases h0
theorem vD.pow {M:zh}{w:World}(h:vD M w){P:Program}(hg:P.globalNamed "internal/strconv.uint64pow10" = some vi):Go.Lib.TabIs P w "internal/strconv.uint64pow10" .u64 Go.Lib.pow10Tab:=by
 obtain⟨bs,_,h2⟩:=h
 have h3:=h2.2.2.1
 refine zvI hg (by rw[Go.Lib.pow10Tab_length];decide) (fun i hi=>Ju (h3.1 i (by rw[Go.Lib.pow10Tab_length]at hi;exact hi))) ?_
 have hm:vi∈bs:=Classical.byContradiction fun hn=>by
  have:=h3.1 0 (by decide)
  simp only[if_neg hn]at this
  cases this
 have:=h3.2
 simp only[if_pos hm]at this
 rw[Go.Lib.pow10Tab_length]
 exact this
theorem vD.errs {M:zh}{w:World}(h:vD M w):(∃tp pe,w.cell? ⟨zaI,0,none⟩=some (.iface tp pe))∧∃tp pe,w.cell? ⟨zaH,0,none⟩=some (.iface tp pe):=by
 obtain⟨bs,_,h2⟩:=h
 obtain⟨⟨a,b,h3⟩,c,d,h4⟩:=h2.2.2.2
 exact⟨⟨a,b,Ju h3⟩,c,d,Ju h4⟩
theorem zlR {w:World}(h:∃P,P.globalNamed "internal/strconv.uint64pow10" = some vi∧Go.Lib.TabIs P w "internal/strconv.uint64pow10" .u64 Go.Lib.pow10Tab)(i:Nat)(hi:i<20):w.cell? ⟨vi,i,none⟩=some (.int .u64 (Go.Lib.pow10Tab.getD i 0)):=by
 obtain⟨P,hg,ht⟩:=h
 exact ht.cell hg i (by rw[Go.Lib.pow10Tab_length];exact hi)
theorem ztd {w:World}(h:∃P,P.globalNamed "internal/strconv.uint64pow10" = some vi∧Go.Lib.TabIs P w "internal/strconv.uint64pow10" .u64 Go.Lib.pow10Tab):w.cell? ⟨vi,20,none⟩=none:=by
 obtain⟨P,hg,ht⟩:=h
 unfold Go.Lib.TabIs World.var? at ht
 rw[hg]at ht
 simp only[Option.bind_some]at ht
 unfold World.cell?
 cases hb:w.heap[vi]? with
 | none=>rfl
 | some o=>
  rw[hb]at ht
  cases o with
  | cells cs t fr=>
   simp only[Option.some.injEq]at ht
   subst ht
   simp[Go.Lib.pow10Tab]
  | _=>rfl
theorem there {w:World}{b j:Nat}{v:Value}(h:w.cell? ⟨b,j,none⟩=some v):b<w.heap.size:=by
 unfold World.cell? at h
 rcases Nat.lt_or_ge b w.heap.size with h' | h'
 ·
  exact h'
 ·
  simp[Array.getElem?_eq_none h']at h
theorem Low.start {M:zh}{w:World}(h:∀k,¬M k)(ht:Go.Lib.Utf8Tabs zaG JH w)(hx:∃m,w.cell? ⟨JI,0,none⟩=some (.int .i64 m))(hpw:∃P,P.globalNamed "internal/strconv.uint64pow10" = some vi∧Go.Lib.TabIs P w "internal/strconv.uint64pow10" .u64 Go.Lib.pow10Tab)(her:(∃tp pe,w.cell? ⟨zaI,0,none⟩=some (.iface tp pe))∧∃tp pe,w.cell? ⟨zaH,0,none⟩=some (.iface tp pe)):Low M w:=by
 refine⟨fun k hk=>(h k hk).elim,[zaG,JH,JI,vi,zaI,zaH],fun b hb=>⟨h b,?_⟩,⟨⟨fun i hi=>(if_pos (by simp)).trans (ht.1 i hi),fun i hi=>⟨(if_pos (by simp)).trans (ht.2 i hi).1,(if_pos (by simp)).trans (ht.2 i hi).2⟩⟩,hx.imp (fun m h=>(if_pos (by simp)).trans h),⟨fun i hi=>(if_pos (by simp)).trans (zlR hpw i hi),(if_pos (by simp)).trans (ztd hpw)⟩,⟨her.1.imp (fun _ h=>h.imp (fun _ h=>(if_pos (by simp)).trans h)),her.2.imp (fun _ h=>h.imp (fun _ h=>(if_pos (by simp)).trans h))⟩⟩⟩
 simp only[List.mem_cons,List.mem_nil_iff,or_false]at hb
 rcases hb with rfl | rfl | rfl | rfl | rfl | rfl
 ·
  exact there (ht.1 0 (by decide))
 ·
  exact there (ht.2 0 (by decide)).1
 ·
  exact there hx.choose_spec
 ·
  exact there (zlR hpw 0 (by decide))
 ·
  exact there her.1.choose_spec.choose_spec
 ·
  exact there her.2.choose_spec.choose_spec
end Go.DB
namespace Go.DB
open Go Go.RowKit
def NoM:zh:=fun _=>False
abbrev Ext (w w':World):Prop:=zx NoM w w'
theorem zx.refl (M:zh)(w:World):zx M w w:=⟨rfl,rfl,rfl,Nat.le_refl _,fun _ _ _=>rfl⟩
theorem zx.trans {M:zh}{a b c:World}(h:zx M a b)(k:zx M b c):zx M a c:=
 ⟨k.os.trans h.os,k.tape.trans h.tape,k.output.trans h.output,Nat.le_trans h.size k.size,
  fun i hi hm=>(k.block i (Nat.lt_of_lt_of_le hi h.size) hm).trans (h.block i hi hm)⟩
theorem Ext.keeps {M:zh}{a b:World}(h:Ext a b):zx M a b:=⟨h.os,h.tape,h.output,h.size,fun k hk _=>h.block k hk (fun f=>f)⟩
theorem zx.mono {M M':zh}{a b:World}(h:zx M a b)(hm:∀k,k<a.heap.size→M k→M' k):zx M' a b:=
 ⟨h.os,h.tape,h.output,h.size,fun k hk hn=>h.block k hk (fun x=>hn (hm k hk x))⟩
theorem Ext.below {w w':World}(h:Ext w w'){B:Nat}(hB:B≤w.heap.size):Below B w w':=
 ⟨h.os,h.tape,h.output,h.size,fun k hk=>h.block k (by omega) (fun f=>f)⟩
theorem Ext.of_below {w w':World}(h:Below w.heap.size w w'):Ext w w':=
 ⟨h.os,h.tape,h.output,h.size,fun k hk _=>h.block k hk⟩
theorem Ext.drew (w:World):Ext w { w with drawn:=w.drawn+1 }:=⟨rfl,rfl,rfl,Nat.le_refl _,fun _ _ _=>rfl⟩
theorem Ext.alloc (w:World)(o:Obj):Ext w (w.alloc o):=Ext.of_below ((Below.refl _ w).alloc (Nat.le_refl _) o)
structure zF where
 p:zh→Value→World→Prop
 law:∀M M' v w w',zx M w w'→(∀k,M' k→M k∨w.heap.size≤k)→p M v w→p M' v w'
theorem zF.ext (S:zF){M:zh}{v:Value}{w w':World}(h:Ext w w')(hp:S.p M v w):S.p M v w':=
 S.law M M v w w' h.keeps (fun _ h=>.inl h) hp
structure Ent where
 c:Prop
 s:zF
def Ent.holds (e:Ent)(M:zh)(v:Value)(w:World):Prop:=(e.c→e.s.p M v w)∧(¬e.c→v=undef)
theorem Ent.holds_ext {e:Ent}{M:zh}{v:Value}{w w':World}(h:Ext w w')(hp:e.holds M v w):e.holds M v w':=
 ⟨fun hc=>e.s.ext h (hp.1 hc),hp.2⟩
theorem Ent.holds_law {e:Ent}{M M':zh}{v:Value}{w w':World}(h:zx M w w')(hm:∀k,M' k→M k∨w.heap.size≤k)(hp:e.holds M v w):e.holds M' v w':=
 ⟨fun hc=>e.s.law _ _ _ _ _ h hm (hp.1 hc),hp.2⟩
abbrev zq:=List (Nat×Ent)
def zD:zq→Nat→Option Ent
 | [],_=>none
 | (k,e)::r,t=>bif Nat.beq k t then some e else zD r t
structure zd where
 p:zh→zh→Value→World→Prop
 inM:∀M D v w,p M D v w→∀k,D k→M k
 law:∀M M' D v w w',zx M w w'→(∀k,M' k→M k∨w.heap.size≤k)→(∀k,D k→M' k∧w'.heap[k]?=w.heap[k]?)→p M D v w→p M' D v w'
abbrev zo:=List (Nat×Option zd)
def zk:zo→Nat→Option zd
 | [],_=>none
 | (k,c)::r,t=>bif Nat.beq k t then c else zk r t
def yj:zo→Nat→Bool
 | [],_=>false
 | (k,_)::r,t=>Nat.beq k t || yj r t
def Act.val (a:Act)(t:Nat):Value:=(a.tmps[t]?).getD undef
def vw (ts:List Nat)(M:zh)(L:zq)(a:Act)(w:World):Prop:=
 ∀t∈ts,∀e,zD L t=some e→∃v,a.tmps[t]?=some v∧e.holds M v w
def zag (f:Nat→Option zd)(D:Nat→zh):Prop:=
 ∀t t' c c',f t=some c→f t'=some c'→t≠t'→∀k,D t k→¬D t' k
structure Jo (ts:List Nat) (M:zh) (D:Nat→zh) (B:zo) (a:Act) (w:World):Prop where
 has:∀t∈ts,∀c,zk B t=some c→c.p M (D t) (Act.val a t) w
 apart:∀t∈ts,∀t'∈ts,∀c c',zk B t=some c→zk B t'=some c'→t≠t'→∀k,D t k→¬D t' k
structure Fr where
 w0:World
 Mf:zh
 M0:zh
structure vG (n:Nat) (F:Fr) (L:zq) (B:zo) (M:zh) (D:Nat→zh) (a:Act) (w:World):Prop where
 size:a.tmps.size=n
 defers:a.defers=[]
 keeps:zx F.M0 F.w0 w
 mf0:∀k,F.Mf k→k<F.w0.heap.size
 mlow:∀k,F.Mf k→M k∨F.M0 k
 mhigh:∀k,M k→F.Mf k∨F.w0.heap.size≤k
 msub:Low M w
 has:∀t e,zD L t=some e→∃v,a.tmps[t]?=some v∧e.holds M v w
 hasB:∀t c,zk B t=some c→c.p M (D t) (Act.val a t) w
 own:∀t c,zk B t=some c→∀k,D t k→F.M0 k∨F.w0.heap.size≤k
 apart:zag (zk B) D
def Sat (n:Nat)(F:Fr)(L:zq)(B:zo)(a:Act)(w:World):Prop:=∃M D,vG n F L B M D a w
def zP (P:Program)(o:Oper)(a:Act)(w:World)(R:Value→World→Prop):Prop:=
 o.wp P a w (fun a' w'=>∃v,a'=a.put o.dst v∧R v w') (fun _ _ _=>False)
theorem zP.wp {P:Program}{o:Oper}{a:Act}{w:World}{R:Value→World→Prop}{K:Act→World→Prop}{Q:Exit→Act→World→Prop}
  (h:zP P o a w R) (hk:∀v w',R v w'→K (a.put o.dst v) w'):o.wp P a w K Q:=by
 have h1:o.wp P a w (fun a' w'=>∃v,a'=a.put o.dst v∧R v w') Q:=by
  unfold zP Oper.wp at *
  generalize (execOp a.eval o).run P w=r at *
  cases r with
  | ok n w'=>
   cases n<;>simp only[Oper.upon]at h⊢ <;>first
    | exact h
    | exact Calls.mono h (fun e w'' he => by
      cases e with
      | returned v=>exact he
      | panicked c=>exact he.elim
      | outgrown=>obtain⟨_,_,hf⟩:=he;exact hf.elim)
  | halt x w'=>cases x<;>simp only[Oper.upon]at h⊢ <;>first | exact h | exact h.elim
 exact Oper.wp_mono (fun a' w' ⟨v,ha,hr⟩=>ha▸hk v w' hr) h1
theorem zP.mono {P:Program}{o:Oper}{a:Act}{w:World}{R R':Value→World→Prop}(h:zP P o a w R)(hr:∀v w',R v w'→R' v w'):
  zP P o a w R':=Oper.wp_mono (fun _ _ ⟨v,ha,hv⟩=>⟨v,ha,hr _ _ hv⟩) h
abbrev Aux:=List Nat×List Nat
abbrev yL:=List (Nat×Option zd)
def qE (xs:List Nat)(B:zo)(D:Nat→zh):zh:=fun k=>∃t∈xs,∃c,zk B t=some c∧D t k
def Leaves (o:Oper)(B:zo)(D:Nat→zh)(xs:List Nat)(E:Ent)(Ws:yL)(M:zh)(a:Act)(w:World)(v:Value)(w':World):Prop:=
 match Ws with
 | []=>Ext w w'∧E.holds M v w'
 | W :: Ws => ∃ M' D', zx (qE xs B D) w w' ∧ (∀ k, M k → M' k ∨ qE xs B D k) ∧ (∀ k, M' k → M k ∨ w.heap.size ≤ k) ∧ (∀ k, M' k → k < w'.heap.size) ∧ E.holds M' v w' ∧
   (∀t c,zk (W::Ws) t=some c→c.p M' (D' t) (Act.val (a.put o.dst v) t) w'∧∀k,D' t k→qE xs B D k∨w.heap.size≤k)∧zag (zk (W::Ws)) D'
def ze (P:Program)(ops:Array Oper)(n:Nat)(o:Oper)(L:zq)(B:zo)(x:Aux)(E:Ent)(Ws:yL):Prop:=
 ∀(M:zh) (D:Nat→zh) (a:Act) (w:World),a.tmps.size=n→Low M w→vw (o.looksAt ops++x.1) M L a w→Jo (x.1++x.2) M D B a w→
  if Region.wanted o (yielded ops a.tmps)then zP P o a w (Leaves o B D x.2 E Ws M a w)else Ws=[]∧E.holds M undef w
def j6 (d:Option Tmp)(e:Ent)(L:zq):zq:=
 match d with
 | some t=>(t,e)::L
 | none=>L
def Qz (d:Option Tmp)(B:zo):zo:=
 match d with
 | some t=>bif yj B t then(t,none)::B else B
 | none=>B
def vr (d:Option Tmp)(Ws:yL)(B:zo):zo:=
 match Ws with
 | []=>Qz d B
 | W::Ws=>(W::Ws)++Qz d B
def ye:Aux:=([],[])
def zy (P:Program)(ops:Array Oper)(n:Nat):List Oper→List Aux→zq→zo→(zq→zo→Prop)→Prop
 | [],_,L,B,K=>K L B
 | o::rest,aux,L,B,K=>∃E Ws,Ws.map (·.1)=(aux.headD ye).2∧ze P ops n o L B (aux.headD ye) E Ws∧zy P ops n rest aux.tail (j6 o.dst E L) (vr o.dst Ws B) K
def JV (ms:List Nat)(o:Oper):Nat:=
 o.after.toList.foldl (fun s e=>bif Region.binds .any e then s ||| 2 ^ e.on ||| ms.getD e.on 0 else s) 0
def Yk:List Nat→List Oper→List Nat
 | ms,[]=>ms
 | ms,o::os=>Yk (ms++[JV ms o]) os
def jD (ops:List Oper):List Nat:=Yk [] ops
def QB:Nat→List Oper→Bool
 | _,[]=>true
 | i,o::os=>o.after.toList.all (fun e=>!Region.binds .any e || Nat.blt e.on i)&&QB (i+1) os
def vT (ops:Array Oper)(o:Oper)(x:Aux):List Nat:=
 (o.looksAt ops).map (2 * ·)++x.1.map (2 * ·)++x.1.map (2 * · + 1)++x.2.map (2 * ·)
def qA (o:Oper)(x:Aux):List Nat:=
 o.dst.toList.map (2 * ·)++o.dst.toList.map (2 * · + 1)++x.2.map (2 * · + 1)
def meets (xs ys:List Nat):Bool:=xs.any fun x=>ys.any (Nat.beq x)
def zeH (ops:Array Oper)(ms:List Nat)(i j:Nat)(x y:Oper)(ax ay:Aux):Bool:=
 !(meets (qA x ax) (qA y ay) || meets (qA x ax) (vT ops y ay) || meets (qA y ay) (vT ops x ax)) || (ms.getD j 0).testBit i
def zeJ (ops:Array Oper)(ms:List Nat)(i:Nat)(x:Oper)(ax:Aux):Nat→List Oper→List Aux→Bool
 | _,[],_=>true
 | j,y::ys,aux=>zeH ops ms i j x y ax (aux.headD ye)&&zeJ ops ms i x ax (j+1) ys aux.tail
def zeI (ops:Array Oper)(ms:List Nat):Nat→List Oper→List Aux→Bool
 | _,[],_=>true
 | i,x::xs,aux=>zeJ ops ms i x (aux.headD ye) (i+1) xs aux.tail&&zeI ops ms (i+1) xs aux.tail
def wfR (ops:Array Oper)(aux:List Aux):Bool:=QB 0 ops.toList&&zeI ops (jD ops.toList) 0 ops.toList aux
theorem zlc (ms:List Nat):∀(es:List Edge) (s k:Nat),
  (es.foldl (fun s e=>bif Region.binds .any e then s ||| 2 ^ e.on ||| ms.getD e.on 0 else s) s).testBit k=true→
  s.testBit k=true∨∃e∈es,Region.binds .any e=true∧(e.on=k∨(ms.getD e.on 0).testBit k=true)
 | [],s,k,h=>.inl h
 | e::es,s,k,h=>by
  simp only[List.foldl_cons]at h
  rcases zlc ms es _ k h with h1 | ⟨e',he',h2⟩
  ·
   cases hb:Region.binds .any e with
   | false=>rw[hb]at h1;exact .inl h1
   | true=>
    rw[hb]at h1
    simp only[cond_true,Nat.testBit_or,Bool.or_eq_true]at h1
    rcases h1 with(h1 | h1) | h1
    ·
     exact .inl h1
    ·
     rw[Nat.testBit_two_pow]at h1
     exact .inr ⟨e,List.mem_cons_self,hb,.inl (by simpa using h1)⟩
    ·
     exact .inr ⟨e,List.mem_cons_self,hb,.inr h1⟩
  ·
   exact .inr ⟨e',List.mem_cons_of_mem _ he',h2⟩
theorem zst {ms:List Nat}{o:Oper}{k:Nat}(h:(JV ms o).testBit k=true):
  ∃e∈o.after,Region.binds .any e=true∧(e.on=k∨(ms.getD e.on 0).testBit k=true):=by
 rcases zlc ms _ 0 k h with h1 | ⟨e,he,h2⟩
 ·
  simp at h1
 ·
  exact⟨e,Array.mem_toList_iff.1 he,h2⟩
theorem zle (ms:List Nat)(os:List Oper):∃r,Yk ms os=ms++r:=by
 induction os generalizing ms with
 | nil=>exact⟨[],by simp[Yk]⟩
 | cons o os ih=>
  obtain⟨r,hr⟩:=ih (ms++[JV ms o])
  exact⟨JV ms o::r,by rw[Yk,hr];simp⟩
theorem zld:∀(os:List Oper) (ms:List Nat) (i:Nat) (o:Oper),os[i]?=some o→
  ∃pre,(∃r,Yk ms os=pre++r)∧pre.length=ms.length+i∧(Yk ms os).getD (ms.length+i) 0=JV pre o
 | [],_,_,_,h=>by simp at h
 | x::os,ms,0,o,h=>by
  simp at h;subst h
  refine⟨ms,zle _ _,rfl,?_⟩
  obtain⟨r,hr⟩:=zle (ms++[JV ms x]) os
  rw[Yk,hr]
  simp
 | x::os,ms,i+1,o,h=>by
  obtain⟨pre,hp,hl,he⟩:=zld os (ms++[JV ms x]) i o (by simpa using h)
  refine⟨pre,hp,by simp at hl;omega,?_⟩
  simp only[List.length_append,List.length_singleton]at he
  rw[Yk,←he]
  congr 1
  omega
theorem zlf {ops:List Oper}{i k:Nat}{o:Oper}(ho:ops[i]?=some o)(h:((jD ops).getD i 0).testBit k=true):
  ∃e∈o.after,Region.binds .any e=true∧(e.on=k∨((jD ops).getD e.on 0).testBit k=true):=by
 obtain⟨pre,⟨r,hr⟩,hl,he⟩:=zld ops [] i o ho
 simp only[List.length_nil,Nat.zero_add]at he hl
 rw[jD,he]at h
 obtain⟨e,hm,hb,h1⟩:=zst h
 refine⟨e,hm,hb,h1.imp id (fun h2=>?_)⟩
 rw[jD,hr]
 by_cases hlt:e.on<pre.length
 ·
  rw[List.getD_eq_getElem?_getD,List.getElem?_append_left hlt,←List.getD_eq_getElem?_getD];exact h2
 ·
  rw[List.getD_eq_getElem?_getD,List.getElem?_eq_none (by omega)]at h2;simp at h2
theorem zf1:∀(os:List Oper) (b i:Nat) (o:Oper),QB b os=true→os[i]?=some o→∀e∈o.after,Region.binds .any e=true→e.on<b+i
 | [],_,_,_,_,h=>by simp at h
 | x::os,b,0,o,hk,h=>by
  simp at h;subst h
  simp only[QB,Bool.and_eq_true,List.all_eq_true]at hk
  intro e he hb
  have h1:=hk.1 e (Array.mem_toList_iff.2 he)
  rw[hb,Bool.not_true,Bool.false_or,Nat.blt_eq]at h1
  exact h1
 | x::os,b,i+1,o,hk,h=>by
  simp only[QB,Bool.and_eq_true]at hk
  intro e he hb
  have h1:=zf1 os (b+1) i o hk.2 (by simpa using h) e he hb
  omega
theorem JJ (aux:List Aux):aux.headD ye=(aux[0]?).getD ye:=by cases aux<;>rfl
theorem Yu (aux:List Aux)(i:Nat):aux.tail[i]?=aux[i+1]?:=by cases aux<;>simp
theorem zs8 {ops:Array Oper}{ms:List Nat}{i:Nat}{x:Oper}{ax:Aux}(ys:List Oper):∀(aux:List Aux) (b j:Nat) (y:Oper),
  zeJ ops ms i x ax b ys aux=true→ys[j]?=some y→zeH ops ms i (b+j) x y ax ((aux[j]?).getD ye)=true:=by
 induction ys with
 | nil=>intro aux b j y _ h;simp at h
 | cons z ys ih=>
  intro aux b j y hk h
  simp only[zeJ,Bool.and_eq_true]at hk
  cases j with
  | zero=>
   simp at h;subst h
   rw[←JJ];exact hk.1
  | succ j=>
   have:=ih aux.tail (b+1) j y hk.2 (by simpa using h)
   rw[Yu]at this
   rwa [show b+(j+1)=b+1+j by omega]
theorem zs7 {ops:Array Oper}{ms:List Nat}(os:List Oper):∀(aux:List Aux) (b i j:Nat) (x y:Oper),
  zeI ops ms b os aux=true→os[i]?=some x→os[j]?=some y→i<j→zeH ops ms (b+i) (b+j) x y ((aux[i]?).getD ye) ((aux[j]?).getD ye)=true:=by
 induction os with
 | nil=>intro aux b i j x y _ h;simp at h
 | cons z os ih=>
  intro aux b i j x y hk hx hy h
  simp only[zeI,Bool.and_eq_true]at hk
  obtain⟨j,rfl⟩:∃j',j=j'+1:=⟨j - 1,by omega⟩
  have hy':os[j]?=some y:=by simpa using hy
  cases i with
  | zero=>
   have hx':z=x:=by simpa using hx
   subst hx'
   have:=zs8 os aux.tail (b+1) j y hk.1 hy'
   rw[Yu,JJ]at this
   rwa [show b+(j+1)=b+1+j by omega]
  | succ i=>
   have:=ih aux.tail (b+1) i j x y hk.2 (by simpa using hx) hy' (by omega)
   rw[Yu,Yu]at this
   rwa [show b+(i+1)=b+1+i by omega,show b+(j+1)=b+1+j by omega]
theorem zem {xs ys:List Nat}{t:Nat}(h1:t∈xs)(h2:t∈ys):meets xs ys=true:=by
 simp only[meets,List.any_eq_true]
 exact⟨t,h1,t,h2,by simp⟩
theorem Jm {ops:Array Oper}{aux:List Aux}(h:wfR ops aux=true){i j:Nat}{x y:Oper}(hx:ops[i]?=some x)(hy:ops[j]?=some y)(hij:i<j)
  (t:Nat) (ht:(t∈qA x ((aux[i]?).getD ye)∧(t∈qA y ((aux[j]?).getD ye)∨t∈vT ops y ((aux[j]?).getD ye)))∨
   (t∈qA y ((aux[j]?).getD ye)∧(t∈qA x ((aux[i]?).getD ye)∨t∈vT ops x ((aux[i]?).getD ye)))):
  ((jD ops.toList).getD j 0).testBit i=true:=by
 simp only[wfR,Bool.and_eq_true]at h
 have hp:=zs7 ops.toList aux 0 i j x y h.2 (by simpa using hx) (by simpa using hy) hij
 simp only[Nat.zero_add,zeH,Bool.or_eq_true,Bool.not_eq_true',Bool.or_eq_false_iff]at hp
 rcases hp with⟨⟨h1,h2⟩,h3⟩ | hp
 ·
  rcases ht with⟨ha,hb | hb⟩ | ⟨ha,hb | hb⟩
  ·
   rw[zem ha hb]at h1;cases h1
  ·
   rw[zem ha hb]at h2;cases h2
  ·
   rw[zem hb ha]at h1;cases h1
  ·
   rw[zem ha hb]at h3;cases h3
 ·
  exact hp
def y8 (ops:Array Oper)(Es:List Ent)(L:zq)(p:Nat→Bool):Nat→Nat→Option Ent
 | 0,t=>zD L t
 | i+1,t=>if p i=true∧(ops[i]?).bind (·.dst)=some t then Es[i]? else y8 ops Es L p i t
def yW (ops:Array Oper)(Ws:List yL)(i t:Nat):Prop:=
 (ops[i]?).bind (·.dst)=some t∨∃W,Ws[i]?=some W∧t∈W.map (·.1)
def newB (Ws:List yL)(i t:Nat):Option zd:=
 match Ws[i]? with
 | some W=>zk W t
 | none=>none
open Classical in
noncomputable def yu (ops:Array Oper)(Ws:List yL)(B:zo)(p:Nat→Bool):Nat→Nat→Option zd
 | 0,t=>zk B t
 | i+1,t=>if p i=true∧yW ops Ws i t then newB Ws i t else yu ops Ws B p i t
theorem JR {ops:Array Oper}{Es:List Ent}{L:zq}{p q:Nat→Bool}{t:Nat}:∀n,
  (∀j,j<n→(ops[j]?).bind (·.dst)=some t→p j=q j)→y8 ops Es L p n t=y8 ops Es L q n t
 | 0,_=>rfl
 | n+1,h=>by
  simp only[y8]
  rw[JR n (fun j hj=>h j (by omega))]
  by_cases hd:(ops[n]?).bind (·.dst)=some t
  ·
   rw[h n (by omega) hd]
  ·
   simp[hd]
theorem JS {ops:Array Oper}{Es:List Ent}{L:zq}{p:Nat→Bool}{t i:Nat}:∀n,i≤n→
  (∀j,i≤j→j<n→(ops[j]?).bind (·.dst)=some t→p j=false)→y8 ops Es L p n t=y8 ops Es L p i t
 | 0,h,_=>by rw[show i=0 by omega]
 | n+1,h,hj=>by
  by_cases he:i=n+1
  ·
   rw[he]
  ·
   simp only[y8]
   rw[if_neg,JS n (by omega) (fun j h1 h2=>hj j h1 (by omega))]
   rintro⟨h1,h2⟩
   rw[hj n (by omega) (by omega) h2]at h1
   cases h1
theorem Y0 {ops:Array Oper}{Ws:List yL}{B:zo}{p q:Nat→Bool}{t:Nat}:∀n,
  (∀j,j<n→yW ops Ws j t→p j=q j)→yu ops Ws B p n t=yu ops Ws B q n t
 | 0,_=>rfl
 | n+1,h=>by
  simp only[yu]
  rw[Y0 n (fun j hj=>h j (by omega))]
  by_cases hd:yW ops Ws n t
  ·
   rw[h n (by omega) hd]
  ·
   simp[hd]
theorem QH {ops:Array Oper}{Ws:List yL}{B:zo}{p:Nat→Bool}{t i:Nat}:∀n,i≤n→
  (∀j,i≤j→j<n→yW ops Ws j t→p j=false)→yu ops Ws B p n t=yu ops Ws B p i t
 | 0,h,_=>by rw[show i=0 by omega]
 | n+1,h,hj=>by
  by_cases he:i=n+1
  ·
   rw[he]
  ·
   simp only[yu]
   rw[if_neg,QH n (by omega) (fun j h1 h2=>hj j h1 (by omega))]
   rintro⟨h1,h2⟩
   rw[hj n (by omega) (by omega) h2]at h1
   cases h1
def Lat (ops:Array Oper)(Es:List Ent)(L:zq):Nat→zq
 | 0=>L
 | i+1=>match ops[i]?,Es[i]? with
  | some o,some e=>j6 o.dst e (Lat ops Es L i)
  | _,_=>Lat ops Es L i
def BAt (ops:Array Oper)(Ws:List yL)(B:zo):Nat→zo
 | 0=>B
 | i+1=>match ops[i]?,Ws[i]? with
  | some o,some W=>vr o.dst W (BAt ops Ws B i)
  | _,_=>BAt ops Ws B i
theorem yp {d t:Nat}(h:d≠t):Nat.beq d t=false:=by
 cases hx:Nat.beq d t with
 | false=>rfl
 | true=>exact absurd (Nat.eq_of_beq_eq_true hx) h
theorem zcm {ops:Array Oper}{Es:List Ent}{L:zq}(hl:Es.length=ops.size):∀i t,i≤ops.size→
  zD (Lat ops Es L i) t=y8 ops Es L (fun _=>true) i t
 | 0,_,_=>rfl
 | i+1,t,hi=>by
  have hlt:i<ops.size:=by omega
  have hlt':i<Es.length:=by omega
  simp only[Lat,y8,Array.getElem?_eq_getElem hlt,List.getElem?_eq_getElem hlt',Option.bind_some,true_and]
  rw[←zcm hl i t (by omega)]
  cases hd:ops[i].dst with
  | none=>simp[j6]
  | some d=>
   by_cases he:d=t
   ·
    subst he;simp[j6,zD]
   ·
    simp[j6,zD,he,yp he]
theorem zk4 {B:zo}{t:Nat}(h:yj B t=false):zk B t=none:=by
 induction B with
 | nil=>rfl
 | cons x B ih=>
  simp only[yj,Bool.or_eq_false_iff]at h
  simp only[zk,h.1,cond_false]
  exact ih h.2
theorem zk3 {B:zo}{d:Option Nat}{t:Nat}:zk (Qz d B) t=if d=some t then none else zk B t:=by
 cases d with
 | none=>simp[Qz]
 | some d=>
  simp only[Qz]
  by_cases he:d=t
  ·
   subst he
   cases hk:yj B d with
   | true=>simp[zk]
   | false=>rw[cond_false,zk4 hk];simp
  ·
   cases hk:yj B d with
   | true=>simp[zk,yp he,he]
   | false=>simp[he]
theorem zsd {B B':zo}{t:Nat}:zk (B++B') t=if t∈B.map (·.1)then zk B t else zk B' t:=by
 induction B with
 | nil=>rfl
 | cons x B ih=>
  obtain⟨k,c⟩:=x
  simp only[List.cons_append,zk,List.map_cons,List.mem_cons]
  by_cases he:k=t
  ·
   subst he;simp
  ·
   rw[yp he,cond_false,ih]
   simp only[show ¬t=k from fun e=>he e.symm,false_or,cond_false]
theorem zgP {B:zo}{t:Nat}(h:t∉B.map (·.1)):zk B t=none:=by
 induction B with
 | nil=>rfl
 | cons x B ih=>
  obtain⟨k,c⟩:=x
  simp only[List.map_cons,List.mem_cons,not_or]at h
  simp only[zk,yp (Ne.symm h.1),cond_false]
  exact ih h.2
theorem zse {B:zo}{d:Option Nat}{W:yL}{t:Nat}:
  zk (vr d W B) t=if t∈W.map (·.1)then zk W t else if d=some t then none else zk B t:=by
 cases W with
 | nil=>exact zk3
 | cons x W=>rw[vr,zsd,zk3]
theorem zaR {ops:Array Oper}{Ws:List yL}{B:zo}(hl:Ws.length=ops.size):∀i t,i≤ops.size→
  zk (BAt ops Ws B i) t=yu ops Ws B (fun _=>true) i t
 | 0,_,_=>rfl
 | i+1,t,hi=>by
  have hlt:i<ops.size:=by omega
  have hlt':i<Ws.length:=by omega
  have ih:=zaR (B:=B) hl i t (by omega)
  have ho:ops[i]?=some ops[i]:=Array.getElem?_eq_getElem hlt
  have hw:Ws[i]?=some Ws[i]:=List.getElem?_eq_getElem hlt'
  simp only[BAt,ho,hw,yu]
  rw[←ih,zse]
  generalize BAt ops Ws B i=B'
  have key:yW ops Ws i t↔(ops[i].dst=some t∨t∈Ws[i].map (·.1)):=by simp only[yW,ho,hw,Option.bind_some,Option.some.injEq,exists_eq_left']
  by_cases hm:t∈Ws[i].map (·.1)
  ·
   rw[if_pos hm,if_pos ⟨rfl,key.2 (.inr hm)⟩];simp[newB,hw]
  ·
   rw[if_neg hm]
   by_cases hd:ops[i].dst=some t
   ·
    rw[if_pos hd,if_pos ⟨rfl,key.2 (.inl hd)⟩];simp[newB,hw,zgP hm]
   ·
    rw[if_neg hd,if_neg (fun h=>(key.1 h.2).elim hd hm)]
theorem zpn {P:Program}{ops:Array Oper}{n:Nat}{K:zq→zo→Prop}:∀(rest:List Oper) (aux:List Aux) (L:zq) (B:zo),zy P ops n rest aux L B K→
  ∃(Es:List Ent) (Ws:List yL),Es.length=rest.length∧Ws.length=rest.length∧K (Lat rest.toArray Es L rest.length) (BAt rest.toArray Ws B rest.length)∧
   ∀i o,rest[i]?=some o→∃E W,Es[i]?=some E∧Ws[i]?=some W∧W.map (·.1)=((aux[i]?).getD ye).2∧
    ze P ops n o (Lat rest.toArray Es L i) (BAt rest.toArray Ws B i) ((aux[i]?).getD ye) E W:=by
 intro rest
 induction rest with
 | nil=>intro aux L B h;exact⟨[],[],rfl,rfl,h,fun i o h=>by simp at h⟩
 | cons o rest ih=>
  intro aux L B h
  obtain⟨E,W,hw,hs,hc⟩:=h
  obtain⟨Es,Ws,hl,hl',hk,hall⟩:=ih _ _ _ hc
  have shift:∀i,i≤rest.length→Lat (o::rest).toArray (E::Es) L (i+1)=Lat rest.toArray Es (j6 o.dst E L) i:=by
   intro i
   induction i with
   | zero=>intro _;simp[Lat]
   | succ i ih2=>
    intro hi
    rw[Lat,ih2 (by omega),Lat]
    simp
  have shiftB:∀i,i≤rest.length→BAt (o::rest).toArray (W::Ws) B (i+1)=BAt rest.toArray Ws (vr o.dst W B) i:=by
   intro i
   induction i with
   | zero=>intro _;simp[BAt]
   | succ i ih2=>
    intro hi
    rw[BAt,ih2 (by omega),BAt]
    simp
  refine⟨E::Es,W::Ws,by simp[hl],by simp[hl'],?_,?_⟩
  ·
   rw[List.length_cons,shift _ (Nat.le_refl _),shiftB _ (Nat.le_refl _)];exact hk
  ·
   intro i o' ho
   cases i with
   | zero=>
    simp at ho;subst ho
    exact⟨E,W,rfl,rfl,by rw[hw,JJ],by rw[←JJ];exact hs⟩
   | succ i=>
    have ho':rest[i]?=some o':=by simpa using ho
    obtain⟨E',W',h1,h1',h2,h3⟩:=hall i o' ho'
    have hi:i≤rest.length:=by have:=(List.getElem?_eq_some_iff.1 ho').1;omega
    refine⟨E',W',by simpa using h1,by simpa using h1',by rw[←Yu];exact h2,?_⟩
    rw[shift i hi,shiftB i hi,←Yu]
    exact h3
end Go.DB
namespace Go.DB
open Go Go.RowKit
def Q4 (n:Nat):List Oper→Bool
 | []=>true
 | o::os=>(match o.dst with | some d=>Nat.blt d n | none=>true)&&Q4 n os
theorem zfZ {n:Nat}:∀(os:List Oper) (i:Nat) (o:Oper) (d:Nat),Q4 n os=true→os[i]?=some o→o.dst=some d→d<n
 | [],_,_,_,_,h,_=>by simp at h
 | x::os,0,o,d,hk,h,hd=>by
  simp at h;subst h
  simp only[Q4,hd,Bool.and_eq_true,Nat.blt_eq]at hk
  exact hk.1
 | x::os,i+1,o,d,hk,h,hd=>by
  simp only[Q4,Bool.and_eq_true]at hk
  exact zfZ os i o d hk.2 (by simpa using h) hd
section
variable {P:Program} {ops:Array Oper} {Q:Exit→Act→World→Prop} {n:Nat} {F:Fr} {L:zq} {B:zo} {Es:List Ent} {Ws:List yL} {aux:List Aux}
def on (listed:Array Bool)(j:Nat):Bool:=listed.getD j false
structure zod (ops:Array Oper) (Es:List Ent) (Ws:List yL) (L:zq) (B:zo) (n:Nat) (F:Fr) (listed:Array Bool) (M:zh) (D:Nat→zh) (a:Act) (w:World):Prop where
 lsize:listed.size=ops.size
 closed:∀j,on listed j=true→∀i,((jD ops.toList).getD j 0).testBit i=true→on listed i=true
 size:a.tmps.size=n
 defers:a.defers=[]
 keeps:zx F.M0 F.w0 w
 mf0:∀k,F.Mf k→k<F.w0.heap.size
 mlow:∀k,F.Mf k→M k∨F.M0 k
 mhigh:∀k,M k→F.Mf k∨F.w0.heap.size≤k
 msub:Low M w
 has:∀t e,y8 ops Es L (on listed) ops.size t=some e→∃v,a.tmps[t]?=some v∧e.holds M v w
 hasB:∀t c,yu ops Ws B (on listed) ops.size t=some c→c.p M (D t) (Act.val a t) w
 own:∀t c,yu ops Ws B (on listed) ops.size t=some c→∀k,D t k→F.M0 k∨F.w0.heap.size≤k
 apart:zag (yu ops Ws B (on listed) ops.size) D
def Mid (ops:Array Oper)(Es:List Ent)(Ws:List yL)(L:zq)(B:zo)(n:Nat)(F:Fr)(listed:Array Bool)(a:Act)(w:World):Prop:=
 ∃M D,zod ops Es Ws L B n F listed M D a w
def Each (P:Program)(ops:Array Oper)(n:Nat)(Es:List Ent)(Ws:List yL)(L:zq)(B:zo)(aux:List Aux):Prop:=
 ∀i o,ops[i]?=some o→∃E W,Es[i]?=some E∧Ws[i]?=some W∧W.map (·.1)=((aux[i]?).getD ye).2∧
  ze P ops n o (Lat ops Es L i) (BAt ops Ws B i) ((aux[i]?).getD ye) E W
theorem zgZ {listed:Array Bool}{i j:Nat}(h:i<listed.size):on (listed.setIfInBounds i true) j=(on listed j || (i==j)):=by
 unfold on
 by_cases hij:i=j
 ·
  subst hij;simp[h]
 ·
  rw[Array.getD_eq_getD_getElem?,Array.getElem?_setIfInBounds_ne hij,←Array.getD_eq_getD_getElem?]
  simp[hij]
theorem zg7 {listed:Array Bool}{i:Nat}(h:i∈Region.ready .any ops listed):
  i<listed.size∧on listed i=false∧∃o,ops[i]?=some o∧∀e∈o.after,Region.binds .any e=true→on listed e.on=true:=by
 obtain⟨h0,o,ho,hall⟩:=mem_ready.1 h
 have hlt:i<listed.size:=by
  rcases Nat.lt_or_ge i listed.size with h' | h'
  ·
   exact h'
  ·
   simp[h']at h0
 refine⟨hlt,?_,o,ho,hall⟩
 unfold on
 rw[Array.getD_eq_getD_getElem?,Array.getElem?_eq_getElem hlt]at *
 exact h0
theorem za4 {a:Act}{d:Option Nat}{t:Nat}{v:Value}(h:d≠some t):(a.put d v).tmps[t]?=a.tmps[t]?:=by
 cases d with
 | none=>rfl
 | some d=>
  have hne:d≠t:=fun e=>h (by rw[e])
  simp[Act.put,Array.getElem?_setIfInBounds_ne hne]
theorem zeN {a:Act}{d:Option Nat}{v:Value}:(a.put d v).tmps.size=a.tmps.size:=by
 cases d<;>simp[Act.put]
theorem zeM {a:Act}{d:Option Nat}{v:Value}:(a.put d v).defers=a.defers:=by
 cases d<;>simp[Act.put]
theorem zlh {o:Oper}{x:Aux}{t:Nat}(h:t∈x.1):2*t+1∈vT ops o x:=by
 simp only[vT,List.mem_append,List.mem_map]
 exact .inl (.inr ⟨t,h,rfl⟩)
theorem zeo {o:Oper}{x:Aux}{t:Nat}(h:t∈o.looksAt ops++x.1):2*t∈vT ops o x:=by
 simp only[vT,List.mem_append,List.mem_map]
 rcases List.mem_append.1 h with h | h
 ·
  exact .inl (.inl (.inl ⟨t,h,rfl⟩))
 ·
  exact .inl (.inl (.inr ⟨t,h,rfl⟩))
theorem Y1 {o:Oper}{x:Aux}{t:Nat}(h:o.dst=some t):2*t∈qA o x:=by
 simp only[qA,List.mem_append,List.mem_map]
 exact .inl (.inl ⟨t,by simp[h],rfl⟩)
theorem zsx {o:Oper}{x:Aux}{t:Nat}(h:o.dst=some t):2*t+1∈qA o x:=by
 simp only[qA,List.mem_append,List.mem_map]
 exact .inl (.inr ⟨t,by simp[h],rfl⟩)
theorem zep {o:Oper}{x:Aux}{t:Nat}(h:t∈x.2):2*t+1∈qA o x:=by
 simp only[qA,List.mem_append,List.mem_map]
 exact .inr ⟨t,h,rfl⟩
theorem Each.touch (hall:Each P ops n Es Ws L B aux){j t:Nat}(h:yW ops Ws j t)(hlt:j<ops.size):
  ∃o,ops[j]?=some o∧2*t+1∈qA o ((aux[j]?).getD ye):=by
 obtain⟨E,W,_,hW,hm,_⟩:=hall j _ (Array.getElem?_eq_getElem hlt)
 refine⟨_,Array.getElem?_eq_getElem hlt,?_⟩
 rcases h with h | ⟨W',h,hmem⟩
 ·
  rw[Array.getElem?_eq_getElem hlt,Option.bind_some]at h
  exact zsx h
 ·
  rw[hW]at h
  obtain rfl:W=W':=by simpa using h
  exact zep (by rw[←hm];exact hmem)
theorem zeL {a:Act}{d:Option Nat}{t:Nat}{v:Value}(h:d=some t)(hlt:t<a.tmps.size):(a.put d v).tmps[t]?=some v:=by
 subst h;simp[Act.put,hlt]
theorem Mid.step {listed:Array Bool}{a:Act}{w:World}{i:Nat}(hwf:wfR ops aux=true)(hds:Q4 n ops.toList=true)
  (hl:Es.length=ops.size) (hl':Ws.length=ops.size) (hall:Each P ops n Es Ws L B aux)
  (h:Mid ops Es Ws L B n F listed a w) (hi:i∈Region.ready .any ops listed):
  wpOp P ops Q i (Mid ops Es Ws L B n F (listed.setIfInBounds i true)) a w:=by
 obtain⟨M,D,h⟩:=h
 obtain⟨hlt,hoff,o,ho,hedges⟩:=zg7 hi
 have hisz:i<ops.size:=by rw[←h.lsize];exact hlt
 obtain⟨E,W,hE,hW,hWm,hstep⟩:=hall i o ho
 generalize hxx:(aux[i]?).getD ye=xx at hstep hWm
 obtain⟨xr,xs⟩:=xx
 have ahead:∀k,((jD ops.toList).getD i 0).testBit k=true→on listed k=true:=by
  intro k hk
  obtain⟨e,he,hb,h1⟩:=zlf (ops:=ops.toList) (by simpa using ho) hk
  have h2:=hedges e he hb
  rcases h1 with rfl | h1
  ·
   exact h2
  ·
   exact h.closed _ h2 _ h1
 have behind:∀j,((jD ops.toList).getD j 0).testBit i=true→on listed j=false:=by
  intro j hj
  cases hon:on listed j with
  | false=>rfl
  | true=>
   have:=h.closed j hon i hj
   rw[this]at hoff;cases hoff
 have same:∀t,t∈o.looksAt ops++xr→y8 ops Es L (on listed) ops.size t=zD (Lat ops Es L i) t:=by
  intro t ht
  rw[zcm hl i t (by omega)]
  rw[JS (i:=i) ops.size (by omega)]
  ·
   refine JR i (fun j hj hd=>?_)
   obtain⟨oj,hoj,hdj⟩:=Option.bind_eq_some_iff.1 hd
   exact ahead j (Jm hwf hoj ho hj _ (.inl ⟨Y1 hdj,.inr (zeo (by rw[hxx];exact ht))⟩))
  ·
   intro j h1 h2 hd
   obtain⟨oj,hoj,hdj⟩:=Option.bind_eq_some_iff.1 hd
   by_cases hji:i=j
   ·
    subst hji;exact hoff
   ·
    exact behind j (Jm hwf ho hoj (by omega) _ (.inr ⟨Y1 hdj,.inr (zeo (by rw[hxx];exact ht))⟩))
 have sameB:∀t,t∈xr++xs→yu ops Ws B (on listed) ops.size t=zk (BAt ops Ws B i) t:=by
  intro t ht
  have hn:2*t+1∈qA o ((aux[i]?).getD ye)∨2*t+1∈vT ops o ((aux[i]?).getD ye):=by
   rw[hxx]
   rcases List.mem_append.1 ht with ht | ht
   ·
    exact .inr (zlh ht)
   ·
    exact .inl (zep ht)
  rw[zaR hl' i t (by omega)]
  rw[QH (i:=i) ops.size (by omega)]
  ·
   refine Y0 i (fun j hj hd=>?_)
   obtain⟨oj,hoj,hdj⟩:=hall.touch hd (by omega)
   exact ahead j (Jm hwf hoj ho hj _ (.inl ⟨hdj,hn⟩))
  ·
   intro j h1 h2 hd
   obtain⟨oj,hoj,hdj⟩:=hall.touch hd h2
   by_cases hji:i=j
   ·
    subst hji;exact hoff
   ·
    exact behind j (Jm hwf ho hoj (by omega) _ (.inr ⟨hdj,hn⟩))
 have sat:vw (o.looksAt ops++xr) M (Lat ops Es L i) a w:=fun t ht e he=>h.has t e (by rw[same t ht];exact he)
 have satB:Jo (xr++xs) M D (BAt ops Ws B i) a w:=⟨fun t ht c hc=>h.hasB t c (by rw[sameB t ht];exact hc),
  fun t ht t' ht' c c' hc hc'=>h.apart t t' c c' (by rw[sameB t ht];exact hc) (by rw[sameB t' ht'];exact hc')⟩
 have hs:=hstep M D a w h.size h.msub sat satB
 have hon:∀j,on (listed.setIfInBounds i true) j=(on listed j || (i==j)):=fun j=>zgZ hlt
 have hself:on (listed.setIfInBounds i true) i=true:=by rw[hon];simp
 have lookD:∀t,o.dst=some t→y8 ops Es L (on (listed.setIfInBounds i true)) ops.size t=some E:=by
  intro t hd
  rw[JS (i:=i+1) ops.size (by omega)]
  ·
   simp only[y8]
   rw[if_pos ⟨hself,by simp[ho,hd]⟩,hE]
  ·
   intro j h1 h2 hdj'
   obtain⟨oj,hoj,hdj⟩:=Option.bind_eq_some_iff.1 hdj'
   rw[hon,behind j (Jm hwf ho hoj (by omega) _ (.inl ⟨Y1 hd,.inl (Y1 hdj)⟩))]
   simp;omega
 have lookO:∀t,o.dst≠some t→y8 ops Es L (on (listed.setIfInBounds i true)) ops.size t=y8 ops Es L (on listed) ops.size t:=by
  intro t hd
  refine JR ops.size (fun j _ hdj=>?_)
  rw[hon]
  by_cases hij:i=j
  ·
   subst hij;simp[ho]at hdj;exact absurd hdj hd
  ·
   simp[hij]
 have lookBT:∀t,yW ops Ws i t→yu ops Ws B (on (listed.setIfInBounds i true)) ops.size t=newB Ws i t:=by
  intro t hd
  rw[QH (i:=i+1) ops.size (by omega)]
  ·
   simp only[yu]
   rw[if_pos ⟨hself,hd⟩]
  ·
   intro j h1 h2 hdj'
   obtain⟨oj,hoj,hdj⟩:=hall.touch hdj' h2
   obtain⟨oi,hoi,hdi⟩:=hall.touch hd hisz
   rw[hon,behind j (Jm hwf hoi hoj (by omega) _ (.inl ⟨hdi,.inl hdj⟩))]
   simp;omega
 have lookBO:∀t,¬yW ops Ws i t→yu ops Ws B (on (listed.setIfInBounds i true)) ops.size t=yu ops Ws B (on listed) ops.size t:=by
  intro t hd
  refine Y0 ops.size (fun j _ hdj=>?_)
  rw[hon]
  by_cases hij:i=j
  ·
   subst hij;exact absurd hdj hd
  ·
   simp[hij]
 have closed':∀j,on (listed.setIfInBounds i true) j=true→∀k,((jD ops.toList).getD j 0).testBit k=true→on (listed.setIfInBounds i true) k=true:=by
  intro j hj k hk
  rw[hon]at hj⊢
  simp only[Bool.or_eq_true,beq_iff_eq]at hj⊢
  rcases hj with hj | rfl
  ·
   exact .inl (h.closed j hj k hk)
  ·
   exact .inl (ahead k hk)
 have dlt:∀t,o.dst=some t→t<a.tmps.size:=by
  intro t hd
  rw[h.size];exact zfZ ops.toList i o t hds (by simpa using ho) hd
 have after:∀v w',Leaves o (BAt ops Ws B i) D xs E W M a w v w'→Mid ops Es Ws L B n F (listed.setIfInBounds i true) (a.put o.dst v) w':=by
  intro v w' hv
  have hWx:W.map (·.1)=xs:=hWm
  have touchI:∀t,yW ops Ws i t↔(o.dst=some t∨t∈xs):=by
   intro t
   simp only[yW,ho,hW,Option.bind_some,Option.some.injEq,exists_eq_left',hWx]
  have newI:∀t,newB Ws i t=zk W t:=by intro t;simp[newB,hW]
  have notouch:∀t c,yu ops Ws B (on (listed.setIfInBounds i true)) ops.size t=some c→t∉xs→¬yW ops Ws i t∧o.dst≠some t:=by
   intro t c hc hne
   have h1:¬yW ops Ws i t:=by
    intro ht
    rw[lookBT t ht,newI,zgP (by rw[hWx];exact hne)]at hc
    cases hc
   exact⟨h1,fun hd=>h1 ((touchI t).2 (.inl hd))⟩
  have valO:∀t,o.dst≠some t→Act.val (a.put o.dst v) t=Act.val a t:=by
   intro t hd;unfold Act.val;rw[za4 hd]
  cases W with
  | nil=>
   obtain⟨hx,hv⟩:=hv
   have hxs:xs=[]:=by rw[←hWx];rfl
   have nt:∀t c,yu ops Ws B (on (listed.setIfInBounds i true)) ops.size t=some c→¬yW ops Ws i t∧o.dst≠some t:=fun t c hc=>notouch t c hc (by rw[hxs];simp)
   refine⟨M,D,by simpa using h.lsize,closed',by rw[zeN];exact h.size,by rw[zeM];exact h.defers,h.keeps.trans hx.keeps,h.mf0,h.mlow,h.mhigh,
    h.msub.ext hx,?_,?_,?_,?_⟩
   ·
    intro t e he
    by_cases hd:o.dst=some t
    ·
     rw[lookD t hd]at he
     obtain rfl:E=e:=by simpa using he
     exact⟨v,zeL hd (dlt t hd),hv⟩
    ·
     rw[lookO t hd]at he
     obtain⟨v',h1,h2⟩:=h.has t e he
     exact⟨v',by rw[za4 hd];exact h1,Ent.holds_ext hx h2⟩
   ·
    intro t c hc
    obtain⟨h1,hd⟩:=nt t c hc
    rw[lookBO t h1]at hc
    rw[valO t hd]
    have h3:=h.hasB t c hc
    refine c.law M M (D t) _ w w' hx.keeps (fun _ h=>.inl h) (fun m hm=>?_) h3
    have hM:=c.inM _ _ _ _ h3 m hm
    exact⟨hM,hx.block m (h.msub m hM) (fun f=>f)⟩
   ·
    intro t c hc
    obtain⟨h1,_⟩:=nt t c hc
    rw[lookBO t h1]at hc
    exact h.own t c hc
   ·
    intro t t' c c' hc hc' hne
    obtain⟨h1,_⟩:=nt t c hc
    obtain⟨h1',_⟩:=nt t' c' hc'
    rw[lookBO t h1]at hc
    rw[lookBO t' h1']at hc'
    exact h.apart t t' c c' hc hc' hne
  | cons W1 Wr=>
   generalize hWW:W1::Wr=W at hv hWx newI hW
   have hv:∃M' D',zx (qE xs (BAt ops Ws B i) D) w w'∧(∀k,M k→M' k∨qE xs (BAt ops Ws B i) D k)∧(∀k,M' k→M k∨w.heap.size≤k)∧(∀k,M' k→k<w'.heap.size)∧E.holds M' v w'∧
     (∀t c,zk W t=some c→c.p M' (D' t) (Act.val (a.put o.dst v) t) w'∧∀k,D' t k→qE xs (BAt ops Ws B i) D k∨w.heap.size≤k)∧zag (zk W) D':=by
    subst hWW;exact hv
   obtain⟨M',D',hk,hml,hmh,hms,hv,hC,hap⟩:=hv
   have mine:∀k,qE xs (BAt ops Ws B i) D k→M k∧(F.M0 k∨F.w0.heap.size≤k)∧∃t∈xs,∃c,yu ops Ws B (on listed) ops.size t=some c∧D t k:=by
    rintro k ⟨t,ht,c,hc,hb⟩
    rw[←sameB t (List.mem_append_right _ ht)]at hc
    exact⟨c.inM _ _ _ _ (h.hasB t c hc) k hb,h.own t c hc k hb,t,ht,c,hc,hb⟩
   have hkM:zx M w w':=hk.mono (fun k _ hm=>(mine k hm).1)
   have other:∀t c,t∉xs→yu ops Ws B (on (listed.setIfInBounds i true)) ops.size t=some c→
     yu ops Ws B (on listed) ops.size t=some c∧o.dst≠some t:=by
    intro t c hne hc
    obtain⟨h1,hd⟩:=notouch t c hc hne
    exact⟨by rw[←lookBO t h1];exact hc,hd⟩
   have hTT:∀t,t∈xs→yu ops Ws B (on (listed.setIfInBounds i true)) ops.size t=zk W t:=by
    intro t ht
    rw[lookBT t ((touchI t).2 (.inr ht)),newI]
   have free:∀t c,t∉xs→yu ops Ws B (on listed) ops.size t=some c→∀k,D t k→¬qE xs (BAt ops Ws B i) D k:=by
    intro t c hne hc k hk hm
    obtain⟨_,_,t1,ht1,c1,hc1,hb1⟩:=mine k hm
    exact h.apart t t1 c c1 hc hc1 (fun e=>hne (e▸ht1)) k hk hb1
   have fresh:∀t c,yu ops Ws B (on listed) ops.size t=some c→∀k,D t k→k<w.heap.size:=fun t c hc k hk=>h.msub k (c.inM _ _ _ _ (h.hasB t c hc) k hk)
   let D2:Nat→zh:=fun t=>if t∈xs then D' t else D t
   have D2x:∀t,t∈xs→D2 t=D' t:=fun t ht=>if_pos ht
   have D2n:∀t,t∉xs→D2 t=D t:=fun t ht=>if_neg ht
   refine⟨M',D2,by simpa using h.lsize,closed',by rw[zeN];exact h.size,by rw[zeM];exact h.defers,?_,h.mf0,?_,?_,h.msub.next hkM hmh hms,?_,?_,?_,?_⟩
   ·
    refine⟨hk.os.trans h.keeps.os,hk.tape.trans h.keeps.tape,hk.output.trans h.keeps.output,Nat.le_trans h.keeps.size hk.size,fun k hlt hn=>?_⟩
    rw[hk.block k (Nat.lt_of_lt_of_le hlt h.keeps.size) (fun hm=>?_),h.keeps.block k hlt hn]
    rcases(mine k hm).2.1 with h1 | h1
    ·
     exact hn h1
    ·
     omega
   ·
    intro k hk'
    rcases h.mlow k hk' with h1 | h1
    ·
     rcases hml k h1 with h2 | h2
     ·
      exact .inl h2
     ·
      rcases(mine k h2).2.1 with h3 | h3
      ·
       exact .inr h3
      ·
       have:=h.mf0 k hk'
       omega
    ·
     exact .inr h1
   ·
    intro k hk'
    rcases hmh k hk' with h1 | h1
    ·
     exact h.mhigh k h1
    ·
     exact .inr (Nat.le_trans h.keeps.size h1)
   ·
    intro t e he
    by_cases hd:o.dst=some t
    ·
     rw[lookD t hd]at he
     obtain rfl:E=e:=by simpa using he
     exact⟨v,zeL hd (dlt t hd),hv⟩
    ·
     rw[lookO t hd]at he
     obtain⟨v',h1,h2⟩:=h.has t e he
     exact⟨v',by rw[za4 hd];exact h1,Ent.holds_law hkM hmh h2⟩
   ·
    intro t c hc
    by_cases ht:t∈xs
    ·
     rw[hTT t ht]at hc
     rw[D2x t ht]
     exact(hC t c hc).1
    ·
     obtain⟨hc',hd⟩:=other t c ht hc
     rw[D2n t ht,valO t hd]
     have h3:=h.hasB t c hc'
     refine c.law M M' (D t) _ w w' hkM hmh (fun m hm=>?_) h3
     have hM:=c.inM _ _ _ _ h3 m hm
     have hnm:=free t c ht hc' m hm
     exact⟨(hml m hM).resolve_right hnm,hk.block m (h.msub m hM) hnm⟩
   ·
    intro t c hc
    by_cases ht:t∈xs
    ·
     rw[hTT t ht]at hc
     rw[D2x t ht]
     intro k hk'
     rcases(hC t c hc).2 k hk' with h1 | h1
     ·
      exact(mine k h1).2.1
     ·
      exact .inr (Nat.le_trans h.keeps.size h1)
    ·
     obtain⟨hc',hd⟩:=other t c ht hc
     rw[D2n t ht]
     exact h.own t c hc'
   ·
    -- two keys, one block?
    have cross:∀t t' c c',t∈xs→t'∉xs→yu ops Ws B (on (listed.setIfInBounds i true)) ops.size t=some c→yu ops Ws B (on (listed.setIfInBounds i true)) ops.size t'=some c'→
      ∀k,D' t k→¬D t' k:=by
     intro t t' c c' ht ht' hc hc' k hk1 hk2
     rw[hTT t ht]at hc
     obtain⟨hc1,_⟩:=other t' c' ht' hc'
     rcases(hC t c hc).2 k hk1 with h1 | h1
     ·
      exact free t' c' ht' hc1 k hk2 h1
     ·
      have:=fresh t' c' hc1 k hk2
      omega
    intro t t' c c' hc hc' hne k hk1 hk2
    by_cases ht:t∈xs<;>by_cases ht':t'∈xs
    ·
     rw[D2x t ht]at hk1
     rw[D2x t' ht']at hk2
     rw[hTT t ht]at hc
     rw[hTT t' ht']at hc'
     exact hap t t' c c' hc hc' hne k hk1 hk2
    ·
     rw[D2x t ht]at hk1
     rw[D2n t' ht']at hk2
     exact cross t t' c c' ht ht' hc hc' k hk1 hk2
    ·
     rw[D2n t ht]at hk1
     rw[D2x t' ht']at hk2
     exact cross t' t c' c ht' ht hc' hc k hk2 hk1
    ·
     rw[D2n t ht]at hk1
     rw[D2n t' ht']at hk2
     obtain⟨h1,_⟩:=other t c ht hc
     obtain⟨h2,_⟩:=other t' c' ht' hc'
     exact h.apart t t' c c' h1 h2 hne k hk1 hk2
 unfold wpOp
 rw[ho]
 dsimp only
 split at hs
 ·
  rename_i hw
  rw[if_pos hw]
  exact .inl (hs.wp after)
 ·
  rename_i hw
  rw[if_neg hw]
  obtain⟨rfl,hs⟩:=hs
  exact after undef w ⟨zx.refl _ _,hs⟩
def zak (ops:Array Oper):Array Bool→List Nat→Prop
 | listed,[]=>∀j,j<ops.size→on listed j=true
 | listed,i::l=>i∈Region.ready .any ops listed∧zak ops (listed.setIfInBounds i true) l
theorem znG (hwf:wfR ops aux=true)(hds:Q4 n ops.toList=true)
  (hl:Es.length=ops.size) (hl':Ws.length=ops.size) (hall:Each P ops n Es Ws L B aux)
  (hq:∀a w,Sat n F (Lat ops Es L ops.size) (BAt ops Ws B ops.size) a w→Q .normal a w):
  ∀(l:List Nat) (listed:Array Bool) (a:Act) (w:World),Mid ops Es Ws L B n F listed a w→zak ops listed l→wpOps P ops Q l a w:=by
 intro l
 induction l with
 | nil=>
  intro listed a w h hlg
  simp only[wpOps]
  obtain⟨M,D,h⟩:=h
  have e1:∀t,zD (Lat ops Es L ops.size) t=y8 ops Es L (on listed) ops.size t:=by
   intro t
   rw[zcm hl _ _ (Nat.le_refl _)]
   exact(JR _ (fun j hj _=>hlg j hj)).symm
  have e2:zk (BAt ops Ws B ops.size)=yu ops Ws B (on listed) ops.size:=by
   funext t
   rw[zaR hl' _ _ (Nat.le_refl _)]
   exact(Y0 _ (fun j hj _=>hlg j hj)).symm
  exact hq a w ⟨M,D,h.size,h.defers,h.keeps,h.mf0,h.mlow,h.mhigh,h.msub,fun t e he=>h.has t e (by rw[←e1];exact he),
   fun t c hc=>h.hasB t c (by rw[←e2];exact hc),fun t c hc=>h.own t c (by rw[←e2];exact hc),by rw[e2];exact h.apart⟩
 | cons i l ih=>
  intro listed a w h hlg
  rw[wpOps_cons]
  exact wpOp_mono (fun a w hm=>ih _ a w hm hlg.2) (h.step hwf hds hl hl' hall hlg.1)
theorem zkY (hedge:QB 0 ops.toList=true):∀(m k:Nat) (listed:Array Bool),k+m=ops.size→listed.size=ops.size→
  (∀j,on listed j=decide (j<k))→zak ops listed (List.range' k m):=by
 intro m
 induction m with
 | zero=>
  intro k listed hk hs hon j hj
  rw[hon];simp;omega
 | succ m ih=>
  intro k listed hk hs hon
  rw[List.range'_succ]
  have hkl:k<ops.size:=by omega
  refine⟨?_,ih (k+1) _ (by omega) (by simpa using hs) ?_⟩
  ·
   rw[mem_ready]
   refine⟨?_,ops[k],Array.getElem?_eq_getElem hkl,?_⟩
   ·
    have:=hon k
    unfold on at this
    rw[Array.getD_eq_getD_getElem?,Array.getElem?_eq_getElem (by omega)]at this⊢
    simpa using this
   ·
    intro e he hb
    have:=zf1 ops.toList 0 k ops[k] hedge (by simp[hkl]) e he hb
    exact(hon e.on).trans (by simp;omega)
  ·
   intro j
   rw[zgZ (by omega),hon]
   by_cases h1:j<k
   ·
    simp[h1];omega
   ·
    by_cases h2:k=j
    ·
     subst h2;simp
    ·
     rw[decide_eq_false h1,decide_eq_false (by omega),Bool.false_or]
     simpa using h2
theorem ztu {listed:Array Bool}(hedge:QB 0 ops.toList=true)(hs:listed.size=ops.size)(h:Region.ready .any ops listed=[]):
  ∀j,j<ops.size→on listed j=true:=by
 intro j
 induction j using Nat.strongRecOn with
 | _ j ih=>
  intro hj
  cases hon:on listed j with
  | true=>rfl
  | false=>
   have:j∈Region.ready .any ops listed:=by
    rw[mem_ready]
    refine⟨?_,ops[j],Array.getElem?_eq_getElem hj,?_⟩
    ·
     unfold on at hon
     rw[Array.getD_eq_getD_getElem?,Array.getElem?_eq_getElem (by omega)]at hon⊢
     simpa using hon
    ·
     intro e he hb
     have:=zf1 ops.toList 0 j ops[j] hedge (by simp[hj]) e he hb
     exact ih e.on (by omega) (by omega)
   rw[h]at this;cases this
theorem zi5:∀(l:List Bool) (i:Nat),l[i]?=some false→(l.set i true).count true=l.count true+1
 | [],_,h=>by simp at h
 | b::l,0,h=>by simp at h;subst h;simp
 | b::l,i+1,h=>by
  have:=zi5 l i (by simpa using h)
  cases b<;>simp[this]
theorem zkX (hedge:QB 0 ops.toList=true):∀(fuel t:Nat) (listed:Array Bool),listed.size=ops.size→listed.toList.count true+fuel=ops.size→
  zak ops listed (Region.linearise.go .any ops fuel t listed []):=by
 intro fuel
 induction fuel with
 | zero=>
  intro t listed hs hc
  simp only[Region.linearise.go,List.reverse_nil]
  intro j hj
  have h1:listed.toList.count true=listed.toList.length:=by rw[Array.length_toList];omega
  rw[List.count_eq_length]at h1
  unfold on
  rw[Array.getD_eq_getD_getElem?,Array.getElem?_eq_getElem (by omega)]
  exact(h1 _ (by simp)).symm
 | succ fuel ih=>
  intro t listed hs hc
  simp only[Region.linearise.go]
  change zak ops listed (match(Region.ready .any ops listed)[t % (Region.ready .any ops listed).length]? with
   | some i=>Region.linearise.go .any ops fuel (t / (Region.ready .any ops listed).length) (listed.setIfInBounds i true) [i]
   | none=>[].reverse)
  cases hi:(Region.ready .any ops listed)[t % (Region.ready .any ops listed).length]? with
  | none=>
   have hnil:Region.ready .any ops listed=[]:=by
    cases hr:Region.ready .any ops listed with
    | nil=>rfl
    | cons x xs=>
     rw[hr]at hi
     have hlt:t % (x::xs).length<(x::xs).length:=Nat.mod_lt _ (by simp)
     simp at hi
     simp at hlt
     omega
   exact ztu hedge hs hnil
  | some i=>
   have hm:=List.mem_of_getElem? hi
   obtain⟨hlt,hoff,_⟩:=zg7 hm
   simp only[]
   rw[linearise_go_acc,List.reverse_singleton,List.singleton_append]
   refine⟨hm,ih _ _ (by simpa using hs) ?_⟩
   rw[Array.toList_setIfInBounds,zi5]
   ·
    omega
   ·
    unfold on at hoff
    rw[Array.getD_eq_getD_getElem?,Array.getElem?_eq_getElem hlt]at hoff
    simpa [hlt]using hoff
theorem zmm (m:Nat):((Array.replicate m false).toList.count true)=0:=by
 simp[List.count_replicate]
def J3 (n:Nat)(ops:Array Oper)(aux:List Aux):Bool:=wfR ops aux&&Q4 n ops.toList
theorem ztw {id:Nat}{draw:Bool}(aux:List Aux)(hm:P.follows .mixedOrders=true)(hok:J3 n ops aux=true)
  (hch:zy P ops n ops.toList aux L B (fun L' B'=>∀a w,Sat n F L' B' a w→Q .normal a w)) {a:Act} {w:World} (hs:Sat n F L B a w):
  (Code.region id ops draw).wp P Q a w:=by
 simp only[J3,Bool.and_eq_true]at hok
 obtain⟨hwf,hds⟩:=hok
 have hedge:QB 0 ops.toList=true:=by simp only[wfR,Bool.and_eq_true]at hwf;exact hwf.1
 obtain⟨Es,Ws,hl,hl',hk,hall⟩:=zpn _ _ _ _ hch
 simp only[Array.length_toList,Array.toArray_toList]at hl hl' hk hall
 have hall':Each P ops n Es Ws L B aux:=fun i o ho=>hall i o (by simpa using ho)
 have on0:∀j,on (Array.replicate ops.size false) j=false:=by
  intro j
  unfold on
  rw[Array.getD_eq_getD_getElem?,Array.getElem?_replicate]
  split<;>rfl
 have skip0:∀t m,y8 ops Es L (on (Array.replicate ops.size false)) m t=zD L t:=by
  intro t m
  exact JS (i:=0) m (Nat.zero_le _) (fun j _ _ _=>on0 j)
 have skipB0:yu ops Ws B (on (Array.replicate ops.size false)) ops.size=zk B:=by
  funext t
  exact QH (i:=0) ops.size (Nat.zero_le _) (fun j _ _ _=>on0 j)
 have mid:∀w',Ext w w'→Mid ops Es Ws L B n F (Array.replicate ops.size false) a w':=by
  intro w' hx
  obtain⟨M,D,hs⟩:=hs
  refine⟨M,D,by simp,fun j hj=>absurd ((on0 j).symm.trans hj) (by simp),hs.size,hs.defers,hs.keeps.trans hx.keeps,hs.mf0,hs.mlow,hs.mhigh,
   hs.msub.ext hx,fun t e he=>?_,fun t c hc=>?_,fun t c hc=>hs.own t c (by rw[←skipB0];exact hc),by rw[skipB0];exact hs.apart⟩
  ·
   rw[skip0]at he
   obtain⟨v,h1,h2⟩:=hs.has t e he
   exact⟨v,h1,Ent.holds_ext hx h2⟩
  ·
   rw[skipB0]at hc
   have h2:=hs.hasB t c hc
   refine c.law M M (D t) _ w w' hx.keeps (fun _ h=>.inl h) (fun m hm=>?_) h2
   have hM:=c.inM _ _ _ _ h2 m hm
   exact⟨hM,hx.block m (hs.msub m hM) (fun f=>f)⟩
 cases draw with
 | false=>
  refine wp_region ?_
  rw[List.range_eq_range']
  exact znG hwf hds hl hl' hall' hk _ _ _ _ (mid w (zx.refl _ _)) (zkY hedge _ 0 _ (by simp) (by simp) (by intro j;rw[on0];simp))
 | true=>
  refine wp_region_draw fun t=>?_
  have hsch:Region.schedule (P.follows .mixedOrders) ops t=Region.linearise .any ops t:=by
   simp[Region.schedule,hm]
  rw[hsch]
  exact znG hwf hds hl hl' hall' hk _ _ _ _ (mid _ (Ext.drew w)) (zkX hedge _ _ _ (by simp) (by rw[zmm];simp))
end
end Go.DB
namespace Go.DB
open Go Go.RowKit
def mkv (agg:Bool)(cs:List Value):Value:=
 match agg with
 | true=>.agg cs.toArray
 | false=>cs.headD undef
def jf:Value→Bool
 | .agg _ | .tuple _=>false
 | _=>true
class Rep (α:Type) where
 sz:Nat
 agg:Bool
 cells:zh→α→List Value→World→Prop
 len:∀{M x cs w},cells M x cs w→cs.length=sz
 pos:0<sz
 flat:∀{M x cs w},cells M x cs w→(mkv agg cs).cells=cs.toArray
 plain:∀{M x cs w},cells M x cs w→∀c∈cs,jf c=true
 law:∀{M M' x cs w w'},zx M w w'→(∀k,M' k→M k∨w.heap.size≤k)→cells M x cs w→cells M' x cs w'
def rep {α:Type}[Rep α](x:α):zF where
 p:=fun M v w=>∃cs,Rep.cells M x cs w∧v=mkv (Rep.agg α) cs
 law:=fun _ _ _ _ _ hk hm ⟨cs,h,hv⟩=>⟨cs,Rep.law hk hm h,hv⟩
def InI (n:Int):Prop:= -9223372036854775808≤n∧n≤9223372036854775807
instance (n:Int):Decidable (InI n):=by unfold InI;infer_instance
instance:Rep Int where
 sz:=1
 agg:=false
 cells:=fun _ n cs _=>cs=[.int .i64 n]∧InI n
 len:=fun h=>by rw[h.1];rfl
 pos:=by decide
 flat:=fun h=>by rw[h.1];rfl
 plain:=fun h c hc=>by rw[h.1]at hc;simp at hc;rw[hc];rfl
 law:=fun _ _ h=>h
instance:Rep Bool where
 sz:=1
 agg:=false
 cells:=fun _ b cs _=>cs=[.bool b]
 len:=fun h=>by rw[h];rfl
 pos:=by decide
 flat:=fun h=>by rw[h];rfl
 plain:=fun h c hc=>by rw[h]at hc;simp at hc;rw[hc];rfl
 law:=fun _ _ h=>h
instance {α β:Type} [Rep α] [Rep β]:Rep (α×β) where
 sz:=Rep.sz α+Rep.sz β
 agg:=true
 cells:=fun M x cs w=>∃c1 c2,cs=c1++c2∧Rep.cells M x.1 c1 w∧Rep.cells M x.2 c2 w
 len:=fun⟨c1,c2,h,h1,h2⟩=>by rw[h,List.length_append,Rep.len h1,Rep.len h2]
 pos:=Nat.lt_of_lt_of_le (Rep.pos (α:=α)) (Nat.le_add_right _ _)
 flat:=fun _=>rfl
 plain:=fun⟨c1,c2,h,h1,h2⟩ c hc=>by
  rw[h]at hc
  rcases List.mem_append.1 hc with hc | hc
  ·
   exact Rep.plain h1 c hc
  ·
   exact Rep.plain h2 c hc
 law:=fun hk hm ⟨c1,c2,h,h1,h2⟩=>⟨c1,c2,h,Rep.law hk hm h1,Rep.law hk hm h2⟩
@[reducible] def Rep.via {α β:Type}[Rep β](f:α→β):Rep α where
 sz:=Rep.sz β
 agg:=true
 cells:=fun M x cs w=>Rep.cells M (f x) cs w
 len:=fun h=>Rep.len h
 pos:=Rep.pos (α:=β)
 flat:=fun _=>rfl
 plain:=fun h=>Rep.plain h
 law:=fun hk hm h=>Rep.law hk hm h
theorem yz {n:Int}{M:zh}{v:Value}{w:World}:(rep n).p M v w↔v = .int .i64 n∧InI n:=by
 constructor
 ·
  rintro⟨cs,⟨h,hi⟩,hv⟩;subst h;exact⟨hv,hi⟩
 ·
  rintro⟨h,hi⟩;exact⟨[.int .i64 n],⟨rfl,hi⟩,h⟩
theorem yS {b:Bool}{M:zh}{v:Value}{w:World}:(rep b).p M v w↔v = .bool b:=by
 constructor
 ·
  rintro⟨cs,h,hv⟩;subst h;exact hv
 ·
  intro h;exact⟨[.bool b],rfl,h⟩
def ref {α:Type}[Rep α](x:α):zF where
 p:=fun M v w=>∃b off cs,v = .pointer (some ⟨b,off,none⟩)∧¬M b∧b<w.heap.size∧Rep.cells M x cs w∧
  ∀j,j<Rep.sz α→w.cell? ⟨b,off+j,none⟩=cs[j]?
 law:=fun _ _ _ w w' hk hm ⟨b,off,cs,hv,hM,hb,hc,hr⟩=>
  ⟨b,off,cs,hv,fun h=>(hm b h).elim hM (by omega),Nat.lt_of_lt_of_le hb hk.size,Rep.law hk hm hc,fun j hj=>by
   rw[←hr j hj];exact World.cell?_of_block (w:=w) (hk.block b hb hM)⟩
def j9 {α:Type}[Rep α](M:zh)(l:List α)(a:Option Addr)(w:World):Prop:=
 match a with
 | none=>l=[]
 | some ad => ∀ i (h : i < l.length), ad.spot = none ∧ ¬ M ad.block ∧ ad.block < w.heap.size ∧
   ∃cs,Rep.cells M l[i] cs w∧∀j,j<Rep.sz α→w.cell? ⟨ad.block,ad.off+i*Rep.sz α+j,none⟩=cs[j]?
theorem j9.law {α:Type}[Rep α]{M M':zh}{l:List α}{a:Option Addr}{w w':World}(hk:zx M w w')(hm:∀k,M' k→M k∨w.heap.size≤k)
  (h:j9 M l a w):j9 M' l a w':=by
 cases a with
 | none=>exact h
 | some ad=>
  intro i hi
  obtain⟨h1,h2,h3,cs,hc,hr⟩:=h i hi
  exact⟨h1,fun h=>(hm _ h).elim h2 (by omega),Nat.lt_of_lt_of_le h3 hk.size,cs,Rep.law hk hm hc,fun j hj=>by rw[←hr j hj];exact World.cell?_of_block (w:=w) (hk.block _ h3 h2)⟩
instance {α:Type} [Rep α]:Rep (List α) where
 sz:=1
 agg:=false
 cells:=fun M l cs w=>∃a cap,cs=[.slice a l.length cap]∧l.length≤cap∧cap≤9223372036854775807∧j9 M l a w
 len:=fun⟨a,cap,h,_⟩=>by rw[h];rfl
 pos:=by decide
 flat:=fun⟨a,cap,h,_⟩=>by rw[h];rfl
 plain:=fun⟨a,cap,h,_⟩ c hc=>by rw[h]at hc;simp at hc;rw[hc];rfl
 law:=fun hk hm ⟨a,cap,h,h1,h2,h3⟩=>⟨a,cap,h,h1,h2,h3.law hk hm⟩
theorem Yq {α:Type}[Rep α]{l:List α}{M:zh}{v:Value}{w:World}:(rep l).p M v w↔
  ∃a cap,v = .slice a l.length cap∧l.length≤cap∧cap≤9223372036854775807∧j9 M l a w:=by
 constructor
 ·
  rintro⟨cs,⟨a,cap,h,h1⟩,hv⟩;subst h;exact⟨a,cap,hv,h1⟩
 ·
  rintro⟨a,cap,hv,h1⟩;exact⟨[.slice a l.length cap],⟨a,cap,rfl,h1⟩,hv⟩
def tup (Ss:List zF):zF where
 p:=fun M v w=>∃vs:List Value,v = .tuple vs.toArray∧vs.length=Ss.length∧∀(i:Nat) (S:zF) (u:Value),Ss[i]?=some S→vs[i]?=some u→S.p M u w
 law:=fun M M' _ _ _ hk hm ⟨vs,hv,hl,h⟩=>⟨vs,hv,hl,fun i S u h1 h2=>S.law M M' u _ _ hk hm (h i S u h1 h2)⟩
def qK (M:zh)(w:World):List zF→List Value→Prop
 | [],[]=>True
 | S::Ss,v::vs=>S.p M v w∧qK M w Ss vs
 | _,_=>False
theorem qK.law {M M':zh}{w w':World}(hk:zx M w w')(hm:∀k,M' k→M k∨w.heap.size≤k):∀(Ss:List zF) (vs:List Value),qK M w Ss vs→qK M' w' Ss vs
 | [],[],h=>h
 | S::Ss,v::vs,h=>⟨S.law _ _ _ _ _ hk hm h.1,qK.law hk hm Ss vs h.2⟩
 | [],_::_,h=>h.elim
 | _::_,[],h=>h.elim
theorem qK.length {M:zh}{w:World}:∀(Ss:List zF) (vs:List Value),qK M w Ss vs→vs.length=Ss.length
 | [],[],_=>rfl
 | _::Ss,_::vs,h=>by simp[qK.length Ss vs h.2]
 | [],_::_,h=>h.elim
 | _::_,[],h=>h.elim
def z8 (P:Program)(f:Nat):Prop:=∃fn,P.funcs[f]?=some fn∧(fn.name=="runtime.NumGoroutine")=false∧fn.body.isNone=false
def Jn (P:Program)(f:Nat)(vs:List Value)(M:zh)(w:World)(S:zF):Prop:=
 Calls P f vs.toArray w fun e w'=>Ext w w'∧∃v,e = .returned v∧S.p M v w'
structure zr (P:Program) (f:Nat) (Ss:List zF) (S:zF):Prop where
 ok:z8 P f
 calls:∀(M:zh) (w:World) (vs:List Value),Low M w→qK M w Ss vs→Jn P f vs M w S
def fnv (P:Program){ι:Type}(pre:ι→Prop)(Ss:ι→List zF)(S:ι→zF):zF where
 p:=fun M v w=>∃(f:Nat) (caps:List Value),v = .func (.func f) #[] caps.toArray∧z8 P f∧
  ∀i,pre i→∀(M':zh) (w':World) (vs:List Value),zx M w w'→(∀k,M' k→M k∨w.heap.size≤k)→Low M' w'→
   qK M' w' (Ss i) vs→Jn P f (vs++caps) M' w' (S i)
 law:=fun _ _ _ _ _ hk hm ⟨f,caps,hv,hf,h⟩=>⟨f,caps,hv,hf,fun i hi M2 w2 vs hk2 hm2 hs ha=>by
  refine h i hi M2 w2 vs ?_ ?_ hs ha
  ·
   refine⟨hk2.os.trans hk.os,hk2.tape.trans hk.tape,hk2.output.trans hk.output,Nat.le_trans hk.size hk2.size,fun k hlt hn=>?_⟩
   rw[hk2.block k (Nat.lt_of_lt_of_le hlt hk.size) (fun h=>(hm k h).elim hn (by omega)),hk.block k hlt hn]
  ·
   intro k h
   rcases hm2 k h with h1 | h1
   ·
    exact hm k h1
   ·
    exact .inr (Nat.le_trans hk.size h1)⟩
theorem Act.eval_tmp {a:Act}{t:Nat}{v:Value}(h:a.tmps[t]?=some v):a.eval (.tmp t)=v:=by
 simp[Act.eval,h]
def zU (ops:Array Oper)(g:Option (Nat×Bool))(L:zq)(G:Prop):Prop:=
 (g=none∧G=True)∨∃j want t c,∃b:Bool,g=some (j,want)∧(ops[j]?).bind (·.dst)=some t∧zD L t=some ⟨c,rep b⟩∧G=(c∧b=want)
theorem zU.none {ops:Array Oper}{L:zq}:zU ops Option.none L True:=.inl ⟨rfl,rfl⟩
theorem zU.at {ops:Array Oper}{L:zq}{j:Nat}{want:Bool}{t:Nat}{c:Prop}{b:Bool}(h1:(ops[j]?).bind (·.dst)=some t)
  (h2:zD L t=some ⟨c,rep b⟩):zU ops (some (j,want)) L (c∧b=want):=.inr ⟨j,want,t,c,b,rfl,h1,h2,rfl⟩
def Opd (L:zq)(G:Prop)(x:Operand)(S:zF):Prop:=
 match x with
 | .tmp t=>∃c,zD L t=some ⟨c,S⟩∧(G→c)
 | .const v=>∀M w,S.p M v w
 | .func f=>∀M w,S.p M (.func (.func f) #[] #[]) w
 | _=>False
theorem Opd.tmp {L:zq}{G c:Prop}{t:Nat}{S:zF}(h:zD L t=some ⟨c,S⟩)(hc:G→c):Opd L G (.tmp t) S:=⟨c,h,hc⟩
theorem Opd.int {L:zq}{G:Prop}{n:Int}(h:InI n):Opd L G (.const (.int .i64 n)) (rep n):=fun _ _=>yz.2 ⟨rfl,h⟩
theorem Opd.bool {L:zq}{G:Prop}{b:Bool}:Opd L G (.const (.bool b)) (rep b):=fun _ _=>yS.2 rfl
theorem Opd.get {L:zq}{G:Prop}{x:Operand}{S:zF}(h:Opd L G x S){ts:List Nat}{M:zh}{a:Act}{w:World}
  (hs:vw ts M L a w) (hx:∀t,x = .tmp t→t∈ts) (hG:G):S.p M (a.eval x) w:=by
 cases x with
 | tmp t=>
  obtain⟨c,hl,hc⟩:=h
  obtain⟨v,hv,he⟩:=hs t (hx t rfl) _ hl
  rw[Act.eval_tmp hv];exact he.1 (hc hG)
 | const v=>exact h M w
 | global g=>exact h.elim
 | func f=>exact h M w
inductive jL (L:zq) (G:Prop):List Operand→List zF→Prop
 | nil:jL L G [] []
 | cons {x S xs Ss}:Opd L G x S→jL L G xs Ss→jL L G (x::xs) (S::Ss)
theorem jL.get {L:zq}{G:Prop}{xs:List Operand}{Ss:List zF}(h:jL L G xs Ss){ts:List Nat}{M:zh}{a:Act}{w:World}
  (hs:vw ts M L a w) (hx:∀x∈xs,∀t,x = .tmp t→t∈ts) (hG:G):qK M w Ss (xs.map a.eval):=by
 induction h with
 | nil=>trivial
 | cons h1 _ ih=>exact⟨h1.get hs (hx _ List.mem_cons_self) hG,ih (fun x hm=>hx x (List.mem_cons_of_mem _ hm))⟩
section
variable {P:Program} {ops:Array Oper} {fs:Nat} {L:zq} {B:zo} {G:Prop}
theorem zB {o:Oper}{xr:List Nat}{t:Nat}(h:(.tmp t:Operand)∈o.op.operands):t∈o.looksAt ops++xr:=
 List.mem_append_left _ (List.mem_append_left _ (List.mem_filterMap.2 ⟨.tmp t,by simpa using h,rfl⟩))
theorem ze.of {o:Oper}{S:zF}{xr:List Nat}(hg:zU ops o.guard L G)
  (h:∀(M:zh) (D:Nat→zh) (a:Act) (w:World),Low M w→vw (o.looksAt ops++xr) M L a w→Jo xr M D B a w→G→zP P o a w (fun v w'=>Ext w w'∧S.p M v w')):
  ze P ops fs o L B (xr,[]) ⟨G,S⟩ []:=by
 intro M D a w _ hm hs hsB
 simp only[List.append_nil]at hsB
 rcases hg with⟨hn,rfl⟩ | ⟨j,want,t,c,b,hgd,ht,hl,rfl⟩
 ·
  have hw:Region.wanted o (yielded ops a.tmps)=true:=by simp[Region.wanted,hn]
  rw[if_pos hw]
  exact(h M D a w hm hs hsB trivial).mono fun v w' ⟨h1,h2⟩=>⟨h1,fun _=>h2,fun hf=>(hf trivial).elim⟩
 ·
  have htl:t∈o.looksAt ops++xr:=by
   unfold Oper.looksAt
   exact List.mem_append_left _ (List.mem_append_right _ (by simp[hgd,ht]))
  obtain⟨v,hv,he⟩:=hs t htl _ hl
  by_cases hc:c
  ·
   have hvb:v = .bool b:=yS.1 (he.1 hc)
   have hw:Region.wanted o (yielded ops a.tmps)=(b==want):=by
    simp[Region.wanted,hgd,yielded,ht,hv,hvb]
   rw[hw]
   by_cases hb:b=want
   ·
    rw[if_pos (by simp[hb])]
    exact(h M D a w hm hs hsB ⟨hc,hb⟩).mono fun v w' ⟨h1,h2⟩=>⟨h1,fun _=>h2,fun hf=>(hf ⟨hc,hb⟩).elim⟩
   ·
    rw[if_neg (by simpa using hb)]
    exact⟨rfl,fun hf=>absurd hf.2 hb,fun _=>rfl⟩
  ·
   have hvu:v=undef:=he.2 hc
   have hw:Region.wanted o (yielded ops a.tmps)=false:=by
    simp[Region.wanted,hgd,yielded,ht,hv,hvu,undef]
   rw[hw,if_neg (by simp)]
   exact⟨rfl,fun hf=>absurd hf.1 hc,fun _=>rfl⟩
theorem zP.value {o:Oper}{a:Act}{w w':World}{v:Value}{R:Value→World→Prop}(hr:(execOp a.eval o).run P w = .ok (.value v) w')(h:R v w'):zP P o a w R:=by
 unfold zP Oper.wp;rw[hr];exact⟨v,rfl,h⟩
theorem ze.pure {o:Oper}{S:zF}{xr:List Nat}(hg:zU ops o.guard L G)
  (h:∀(M:zh) (a:Act) (w:World),Low M w→vw (o.looksAt ops++xr) M L a w→G→∃v,(execOp a.eval o).run P w = .ok (.value v) w∧S.p M v w):
  ze P ops fs o L B (xr,[]) ⟨G,S⟩ []:=
 .of hg fun M D a w hm hs _ hG=>let ⟨_,hr,hv⟩:=h M a w hm hs hG;zP.value hr ⟨zx.refl _ _,hv⟩
variable {d:Option Tmp} {ty:TypeId} {pos:String} {after:Array Edge} {g:Option (Nat×Bool)} {xr:List Nat}
theorem ze.move {x:Operand}{S:zF}(hg:zU ops g L G)(hx:Opd L G x S):ze P ops fs ⟨d,.move x,ty,pos,after,g⟩ L B (xr,[]) ⟨G,S⟩ []:=
 .pure hg fun M a w _ hs hG=>⟨a.eval x,rfl,hx.get hs (fun t ht=>zB (by simp[Op.operands,ht])) hG⟩
theorem ze.assign {x:Operand}{S:zF}(hg:zU ops g L G)(hx:Opd L G x S):ze P ops fs ⟨d,.assign x,ty,pos,after,g⟩ L B (xr,[]) ⟨G,S⟩ []:=
 .pure hg fun M a w _ hs hG=>⟨a.eval x,rfl,hx.get hs (fun t ht=>zB (by simp[Op.operands,ht])) hG⟩
theorem zjQ {ρ:Operand→Value}{c x y:Operand}{b:Bool}{w:World}(hc:ρ c = .bool b):
  (execOp ρ ⟨d,.pick c x y,ty,pos,after,g⟩).run P w = .ok (.value (if b then ρ x else ρ y)) w:=by
 simp only[execOp,hc];rfl
theorem ze.pickAnd {c x:Operand}{b1 b2:Bool}(hg:zU ops g L G)(hc:Opd L G c (rep b1))(hx:Opd L (G∧b1=true) x (rep b2)):
  ze P ops fs ⟨d,.pick c x (.const (.bool false)),ty,pos,after,g⟩ L B (xr,[]) ⟨G,rep (b1&&b2)⟩ []:=
 .pure hg fun M a w _ hs hG=>by
  have h1:=yS.1 (hc.get hs (fun t ht=>zB (by simp[Op.operands,ht])) hG)
  refine⟨_,zjQ h1,yS.2 ?_⟩
  cases b1 with
  | true=>simpa using yS.1 (hx.get hs (fun t ht=>zB (by simp[Op.operands,ht])) ⟨hG,rfl⟩)
  | false=>rfl
theorem ze.pickOr {c x:Operand}{b1 b2:Bool}(hg:zU ops g L G)(hc:Opd L G c (rep b1))(hx:Opd L (G∧b1=false) x (rep b2)):
  ze P ops fs ⟨d,.pick c (.const (.bool true)) x,ty,pos,after,g⟩ L B (xr,[]) ⟨G,rep (b1 || b2)⟩ []:=
 .pure hg fun M a w _ hs hG=>by
  have h1:=yS.1 (hc.get hs (fun t ht=>zB (by simp[Op.operands,ht])) hG)
  refine⟨_,zjQ h1,yS.2 ?_⟩
  cases b1 with
  | false=>simpa using yS.1 (hx.get hs (fun t ht=>zB (by simp[Op.operands,ht])) ⟨hG,rfl⟩)
  | true=>rfl
theorem zqD {ρ:Operand→Value}{x:Operand}{T:TypeId}{b:Bool}{w:World}(hx:ρ x = .bool b):
  (execOp ρ ⟨d,.unOp .not T x,ty,pos,after,g⟩).run P w = .ok (.value (.bool !b)) w:=by
 simp only[execOp,hx];rfl
theorem ze.not {x:Operand}{T:TypeId}{b:Bool}(hg:zU ops g L G)(hx:Opd L G x (rep b)):ze P ops fs ⟨d,.unOp .not T x,ty,pos,after,g⟩ L B (xr,[]) ⟨G,rep (!b)⟩ []:=
 .pure hg fun M a w _ hs hG=>⟨_,zqD (yS.1 (hx.get hs (fun t ht=>zB (by simp[Op.operands,ht])) hG)),yS.2 rfl⟩
def W (n:Int):Int:=IntKind.i64.wrap n
theorem ziy {n:Int}(h:InI n):W n=n:=IntWalk.i64_in n h
theorem zdd (n:Int):InI (W n):=by
 unfold W InI;rw[IntKind.wrap_i64];omega
theorem zqt {ρ:Operand→Value}{op:BinOp}{x y:Operand}{T T':TypeId}{m n:Int}{v:Value}{w:World}(hx:ρ x = .int .i64 m)(hy:ρ y = .int .i64 n)
  (hv:(binOp op T (.int .i64 m) (.int .i64 n)).run P w = .ok v w):
  (execOp ρ ⟨d,.binOp op T x y T',ty,pos,after,g⟩).run P w = .ok (.value v) w:=by
 have hgd:eqGuard op T x y (.int .i64 m) (.int .i64 n)=Pure.pure ():=by
  unfold eqGuard;cases op<;>rfl
 simp only[execOp,hx,hy,hgd]
 generalize binOp op T (.int .i64 m) (.int .i64 n)=s at *
 simp[go_sem,hv]
theorem ze.bin {op:BinOp}{x y:Operand}{T T':TypeId}{m n:Int}{S:zF}(hg:zU ops g L G)(hx:Opd L G x (rep m))(hy:Opd L G y (rep n))
  (h:G→InI m→InI n→∃v,(∀w,(binOp op T (.int .i64 m) (.int .i64 n)).run P w = .ok v w)∧∀M w,S.p M v w):
  ze P ops fs ⟨d,.binOp op T x y T',ty,pos,after,g⟩ L B (xr,[]) ⟨G,S⟩ []:=
 .pure hg fun M a w _ hs hG=>by
  obtain⟨h1,i1⟩:=yz.1 (hx.get hs (fun t ht=>zB (by simp[Op.operands,ht])) hG)
  obtain⟨h2,i2⟩:=yz.1 (hy.get hs (fun t ht=>zB (by simp[Op.operands,ht])) hG)
  obtain⟨v,hv,hS⟩:=h hG i1 i2
  exact⟨v,zqt h1 h2 (hv w),hS M w⟩
theorem ze.addW {x y:Operand}{T T':TypeId}{m n:Int}(hg:zU ops g L G)(hx:Opd L G x (rep m))(hy:Opd L G y (rep n)):
  ze P ops fs ⟨d,.binOp .add T x y T',ty,pos,after,g⟩ L B (xr,[]) ⟨G,rep (W (m+n))⟩ []:=
 .bin hg hx hy fun _ _ _=>⟨_,fun _=>rfl,fun _ _=>yz.2 ⟨rfl,zdd _⟩⟩
theorem ze.subW {x y:Operand}{T T':TypeId}{m n:Int}(hg:zU ops g L G)(hx:Opd L G x (rep m))(hy:Opd L G y (rep n)):
  ze P ops fs ⟨d,.binOp .sub T x y T',ty,pos,after,g⟩ L B (xr,[]) ⟨G,rep (W (m - n))⟩ []:=
 .bin hg hx hy fun _ _ _=>⟨_,fun _=>rfl,fun _ _=>yz.2 ⟨rfl,zdd _⟩⟩
theorem ze.mulW {x y:Operand}{T T':TypeId}{m n:Int}(hg:zU ops g L G)(hx:Opd L G x (rep m))(hy:Opd L G y (rep n)):
  ze P ops fs ⟨d,.binOp .mul T x y T',ty,pos,after,g⟩ L B (xr,[]) ⟨G,rep (W (m*n))⟩ []:=
 .bin hg hx hy fun _ _ _=>⟨_,fun _=>rfl,fun _ _=>yz.2 ⟨rfl,zdd _⟩⟩
theorem zno {m n:Int}(h1:InI m)(h0:0<n):InI (m.tdiv n):=by
 unfold InI at *
 rcases Int.le_total 0 m with h | h
 ·
  have a:=Int.tdiv_nonneg h (Int.le_of_lt h0)
  have b:=Int.natAbs_tdiv_le_natAbs m n
  omega
 ·
  obtain⟨k,rfl⟩:∃k,m = -k:=⟨-m,by omega⟩
  rw[Int.neg_tdiv]
  have a:=Int.tdiv_nonneg (show 0≤k by omega) (Int.le_of_lt h0)
  have b:=Int.natAbs_tdiv_le_natAbs k n
  omega
theorem zvP {m n:Int}(h1:InI m):InI (m.tmod n):=by
 unfold InI at *
 rcases Int.le_total 0 m with h | h
 ·
  have a:=Int.tmod_nonneg n h
  have b:=Int.natAbs_tmod m n
  have c:=Nat.mod_le m.natAbs n.natAbs
  omega
 ·
  obtain⟨k,rfl⟩:∃k,m = -k:=⟨-m,by omega⟩
  rw[Int.neg_tmod]
  have a:=Int.tmod_nonneg n (show 0≤k by omega)
  have b:=Int.natAbs_tmod k n
  have c:=Nat.mod_le k.natAbs n.natAbs
  omega
theorem ze.quo {x y:Operand}{T T':TypeId}{m n:Int}(hg:zU ops g L G)(hx:Opd L G x (rep m))(hy:Opd L G y (rep n))(hb:G→0<n):
  ze P ops fs ⟨d,.binOp .quo T x y T',ty,pos,after,g⟩ L B (xr,[]) ⟨G,rep (m.tdiv n)⟩ []:=
 .bin hg hx hy fun hG h1 h2=>⟨.int .i64 (m.tdiv n),fun w=>by
  have hn:¬n=0:=by have:=hb hG;omega
  simp only[binOp,Op.intDiv,hn,ne_eq,not_true_eq_false,if_false]
  rw[show IntKind.i64.wrap (m.tdiv n)=m.tdiv n from ziy (zno h1 (hb hG))];rfl,fun _ _=>yz.2 ⟨rfl,zno h1 (hb hG)⟩⟩
theorem ze.rem {x y:Operand}{T T':TypeId}{m n:Int}(hg:zU ops g L G)(hx:Opd L G x (rep m))(hy:Opd L G y (rep n))(hb:G→0<n):
  ze P ops fs ⟨d,.binOp .rem T x y T',ty,pos,after,g⟩ L B (xr,[]) ⟨G,rep (m.tmod n)⟩ []:=
 .bin hg hx hy fun hG h1 h2=>⟨.int .i64 (m.tmod n),fun w=>by
  have hn:¬n=0:=by have:=hb hG;omega
  simp only[binOp,Op.intDiv,hn,ne_eq,not_true_eq_false,if_false];rfl,fun _ _=>yz.2 ⟨rfl,zvP h1⟩⟩
theorem ze.eqI {x y:Operand}{T T':TypeId}{m n:Int}(hg:zU ops g L G)(hx:Opd L G x (rep m))(hy:Opd L G y (rep n)):
  ze P ops fs ⟨d,.binOp .eql T x y T',ty,pos,after,g⟩ L B (xr,[]) ⟨G,rep (decide (m=n))⟩ []:=
 .bin hg hx hy fun _ _ _=>⟨_,fun _=>rfl,fun _ _=>yS.2 rfl⟩
theorem ze.neI {x y:Operand}{T T':TypeId}{m n:Int}(hg:zU ops g L G)(hx:Opd L G x (rep m))(hy:Opd L G y (rep n)):
  ze P ops fs ⟨d,.binOp .neq T x y T',ty,pos,after,g⟩ L B (xr,[]) ⟨G,rep (!decide (m=n))⟩ []:=
 .bin hg hx hy fun _ _ _=>⟨_,fun _=>rfl,fun _ _=>yS.2 rfl⟩
theorem ze.lt {x y:Operand}{T T':TypeId}{m n:Int}(hg:zU ops g L G)(hx:Opd L G x (rep m))(hy:Opd L G y (rep n)):
  ze P ops fs ⟨d,.binOp .lss T x y T',ty,pos,after,g⟩ L B (xr,[]) ⟨G,rep (decide (m<n))⟩ []:=
 .bin hg hx hy fun _ _ _=>⟨_,fun _=>rfl,fun _ _=>yS.2 rfl⟩
theorem ze.le {x y:Operand}{T T':TypeId}{m n:Int}(hg:zU ops g L G)(hx:Opd L G x (rep m))(hy:Opd L G y (rep n)):
  ze P ops fs ⟨d,.binOp .leq T x y T',ty,pos,after,g⟩ L B (xr,[]) ⟨G,rep (decide (m≤n))⟩ []:=
 .bin hg hx hy fun _ _ _=>⟨_,fun _=>rfl,fun _ _=>yS.2 rfl⟩
theorem ze.gt {x y:Operand}{T T':TypeId}{m n:Int}(hg:zU ops g L G)(hx:Opd L G x (rep m))(hy:Opd L G y (rep n)):
  ze P ops fs ⟨d,.binOp .gtr T x y T',ty,pos,after,g⟩ L B (xr,[]) ⟨G,rep (decide (n<m))⟩ []:=
 .bin hg hx hy fun _ _ _=>⟨_,fun _=>rfl,fun _ _=>yS.2 rfl⟩
theorem ze.ge {x y:Operand}{T T':TypeId}{m n:Int}(hg:zU ops g L G)(hx:Opd L G x (rep m))(hy:Opd L G y (rep n)):
  ze P ops fs ⟨d,.binOp .geq T x y T',ty,pos,after,g⟩ L B (xr,[]) ⟨G,rep (decide (n≤m))⟩ []:=
 .bin hg hx hy fun _ _ _=>⟨_,fun _=>rfl,fun _ _=>yS.2 rfl⟩
theorem zqC {ρ:Operand→Value}{x y:Operand}{ts:Array TypeId}{m n:Int}{w:World}(hx:ρ x = .int .i64 m)(hy:ρ y = .int .i64 n):
  (execOp ρ ⟨d,.call { callee:=.builtin .min,args:=#[x,y],argTypes:=ts },ty,pos,after,g⟩).run P w = .ok (.value (.int .i64 (min m n))) w:=by
 have h:(if n<m then n else m)=min m n:=by rw[Int.min_def];split<;>split<;>omega
 rw[←h]
 simp[execOp,resolve,invoke,builtin,Builtin.min_,Builtin.min2,hx,hy,go_sem]
theorem zqB {ρ:Operand→Value}{x y:Operand}{ts:Array TypeId}{m n:Int}{w:World}(hx:ρ x = .int .i64 m)(hy:ρ y = .int .i64 n):
  (execOp ρ ⟨d,.call { callee:=.builtin .max,args:=#[x,y],argTypes:=ts },ty,pos,after,g⟩).run P w = .ok (.value (.int .i64 (max m n))) w:=by
 have h:(if m<n then n else m)=max m n:=by rw[Int.max_def];split<;>split<;>omega
 rw[←h]
 simp[execOp,resolve,invoke,builtin,Builtin.max_,Builtin.max2,hx,hy,go_sem]
theorem zsz {m n:Int}(h1:InI m)(h2:InI n):InI (min m n):=by unfold InI at *;omega
theorem zsu {m n:Int}(h1:InI m)(h2:InI n):InI (max m n):=by unfold InI at *;omega
theorem qM {c:Call}{x:Operand}(h:x∈c.args):x∈(Op.call c).operands:=by
 simp only[Op.operands,Call.operands]
 exact Array.mem_append.2 (.inr h)
theorem ze.min2 {x y:Operand}{ts:Array TypeId}{m n:Int}(hg:zU ops g L G)(hx:Opd L G x (rep m))(hy:Opd L G y (rep n)):
  ze P ops fs ⟨d,.call { callee:=.builtin .min,args:=#[x,y],argTypes:=ts },ty,pos,after,g⟩ L B (xr,[]) ⟨G,rep (min m n)⟩ []:=
 .pure hg fun M a w _ hs hG=>by
  obtain⟨h1,i1⟩:=yz.1 (hx.get hs (fun t ht=>zB (qM (by simp[ht]))) hG)
  obtain⟨h2,i2⟩:=yz.1 (hy.get hs (fun t ht=>zB (qM (by simp[ht]))) hG)
  exact⟨_,zqC h1 h2,yz.2 ⟨rfl,zsz i1 i2⟩⟩
theorem ze.max2 {x y:Operand}{ts:Array TypeId}{m n:Int}(hg:zU ops g L G)(hx:Opd L G x (rep m))(hy:Opd L G y (rep n)):
  ze P ops fs ⟨d,.call { callee:=.builtin .max,args:=#[x,y],argTypes:=ts },ty,pos,after,g⟩ L B (xr,[]) ⟨G,rep (max m n)⟩ []:=
 .pure hg fun M a w _ hs hG=>by
  obtain⟨h1,i1⟩:=yz.1 (hx.get hs (fun t ht=>zB (qM (by simp[ht]))) hG)
  obtain⟨h2,i2⟩:=yz.1 (hy.get hs (fun t ht=>zB (qM (by simp[ht]))) hG)
  exact⟨_,zqB h1 h2,yz.2 ⟨rfl,zsu i1 i2⟩⟩
end
attribute [irreducible] W
end Go.DB
namespace Go.DB
open Go Go.RowKit
structure Ty (P:Program) (T:TypeId) (α:Type) [Rep α]:Prop where
 agg:∃d,P.underlying T=some d∧(match d with | .struct _ | .array _ _=>true | _=>false)=Rep.agg α
 size:(P.info? T).map (·.size)=some (Rep.sz α)
def yn (P:Program)(S f off:Nat):Prop:=
 ∃fs fd,P.underlying S=some (.struct fs)∧fs[f]?=some fd∧fd.offset=off∧(P.info? fd.type).map (fun i=>Nat.blt 0 i.size)=some true
theorem zhI {P:Program}{t:Nat}(h:(P.info? t).map (fun i=>Nat.blt 0 i.size)=some true):∃i,P.info? t=some i∧i.size≠0:=by
 obtain⟨i,hi,hb⟩:=Option.map_eq_some_iff.1 h
 refine⟨i,hi,fun e=>?_⟩
 rw[e]at hb;cases hb
def yK (P:Program)(T E:Nat):Prop:=P.underlying T=some (.slice E)
def zj (α β:Type)[Rep α][Rep β](off:Nat)(proj:α→β):Prop:=
 off+Rep.sz β≤Rep.sz α∧∀(M:zh) (x:α) (cs:List Value) (w:World),Rep.cells M x cs w→∃fcs,Rep.cells M (proj x) fcs w∧∀j,j<Rep.sz β→fcs[j]?=cs[off+j]?
theorem zj.self {α:Type}[Rep α]:zj α α 0 id:=⟨by simp,fun _ _ cs _ h=>⟨cs,h,fun j _=>by rw[Nat.zero_add]⟩⟩
theorem zj.fst {α β γ:Type}[Rep α][Rep β][Rep γ]{off:Nat}{f:α→γ}(h:zj α γ off f):zj (α×β) γ off (fun x=>f x.1):=by
 refine⟨Nat.le_trans h.1 (Nat.le_add_right _ _),?_⟩
 rintro M x cs w ⟨c1,c2,rfl,h1,h2⟩
 obtain⟨fcs,hf,hj⟩:=h.2 M x.1 c1 w h1
 refine⟨fcs,hf,fun j hlt=>?_⟩
 rw[hj j hlt,List.getElem?_append_left]
 have:=h.1
 rw[Rep.len h1];omega
theorem zj.snd {α β γ:Type}[Rep α][Rep β][Rep γ]{off:Nat}{f:β→γ}(h:zj β γ off f):zj (α×β) γ (Rep.sz α+off) (fun x=>f x.2):=by
 refine⟨by have:=h.1;show _≤Rep.sz α+Rep.sz β;omega,?_⟩
 rintro M x cs w ⟨c1,c2,rfl,h1,h2⟩
 obtain⟨fcs,hf,hj⟩:=h.2 M x.2 c2 w h2
 refine⟨fcs,hf,fun j hlt=>?_⟩
 rw[hj j hlt,List.getElem?_append_right (by rw[Rep.len h1];omega),Rep.len h1]
 congr 1;omega
theorem qF (b off j:Nat):(⟨b,off,none⟩:Addr).add j=⟨b,off+j,none⟩:=by
 unfold Addr.add
 by_cases h:j=0
 ·
  subst h;simp
 ·
  simp[h]
theorem zmC {P:Program}{w:World}{b off:Nat}:∀(n i:Nat) (acc:Array Value) (cs:List Value),cs.length=n→
  (∀j,j<n→w.cell? ⟨b,off+i+j,none⟩=cs[j]?)→(loadCellsFrom ⟨b,off,none⟩ i n acc).run P w = .ok (acc++cs.toArray) w
 | 0,i,acc,cs,hl,_=>by
  have:cs=[]:=List.length_eq_zero_iff.1 hl
  subst this
  simp[loadCellsFrom,go_sem]
 | n+1,i,acc,cs,hl,h=>by
  match cs,hl with
  | c::cs,hl=>
   have h0:=h 0 (by omega)
   simp at h0
   have ih:=zmC (P:=P) (w:=w) (b:=b) (off:=off) n (i+1) (acc.push c) cs (by simpa using hl) (fun j hj=>by
    have:=h (j+1) (by omega)
    rw[show off+(i+1)+j=off+i+(j+1)by omega,this];simp)
   simp only[loadCellsFrom,qF]
   have hload:(load ⟨b,off+i,none⟩).run P w = .ok c w:=by simp[load,Sem.run,h0]
   rw[Sem.run_bind,hload]
   simp only[Result.andThen]
   rw[ih]
   simp
theorem zcM {P:Program}{T:TypeId}{α:Type}[Rep α](hT:Ty P T α){M:zh}{x:α}{w:World}{b off:Nat}{cs:List Value}
  (hc:Rep.cells M x cs w) (hr:∀j,j<Rep.sz α→w.cell? ⟨b,off+j,none⟩=cs[j]?):
  (Instr.loadAt T (.pointer (some ⟨b,off,none⟩))).run P w = .ok (mkv (Rep.agg α) cs) w:=by
 obtain⟨⟨d,hu,hd⟩,hsz⟩:=hT
 obtain⟨i,hi,hsize⟩:=Option.map_eq_some_iff.1 hsz
 have hlen:=Rep.len hc
 have hagg:(isAgg T).run P w = .ok (Rep.agg α) w:=by
  rw[←hd]
  cases d<;>simp[isAgg,underlying,hu,go_sem]
 cases ha:Rep.agg α with
 | true=>
  have hl:=zmC (P:=P) (w:=w) (b:=b) (off:=off) (Rep.sz α) 0 #[] cs hlen (fun j hj=>by simpa using hr j hj)
  rw[ha]at hagg
  have hs:(sizeOf T).run P w = .ok (Rep.sz α) w:=by simp[sizeOf,typeInfo,hi,hsize,go_sem]
  simp only[Instr.loadAt,Instr.sureAddr,loadVar,loadCells,Sem.run_bind,hagg,Sem.run_pure,Result.andThen,if_true,hs,hl,mkv]
  simp
 | false=>
  have hfl:=Rep.flat hc
  rw[ha]at hfl hagg
  have h1:cs.length≠0:=by rw[hlen];exact Nat.ne_of_gt (Rep.pos (α:=α))
  match cs,h1 with
  | c::cs,_=>
   have h0:=hr 0 (Rep.pos (α:=α))
   simp at h0
   have hload:(load ⟨b,off,none⟩).run P w = .ok c w:=by simp[load,Sem.run,h0]
   simp only[Instr.loadAt,Instr.sureAddr,loadVar,Sem.run_bind,hagg,Sem.run_pure,Result.andThen,mkv]
   simp[hload]
section
variable {P:Program} {ops:Array Oper} {fs:Nat} {L:zq} {B:zo} {G:Prop}
variable {d:Option Tmp} {ty:TypeId} {pos:String} {after:Array Edge} {g:Option (Nat×Bool)} {xr:List Nat}
theorem ze.load {T:TypeId}{x:Operand}{α:Type}[Rep α]{y:α}(hg:zU ops g L G)(hT:Ty P T α)(hx:Opd L G x (ref y)):
  ze P ops fs ⟨d,.load T x,ty,pos,after,g⟩ L B (xr,[]) ⟨G,rep y⟩ []:=
 .pure hg fun M a w _ hs hG=>by
  obtain⟨b,off,cs,hv,_,_,hc,hr⟩:=hx.get hs (fun t ht=>zB (by simp[Op.operands,ht])) hG
  refine⟨mkv (Rep.agg α) cs,?_,cs,hc,rfl⟩
  simp only[execOp,hv,Sem.run_bind,zcM hT hc hr,Result.andThen,Sem.run_pure]
theorem ze.fieldAddr {S f off:Nat}{x:Operand}{α β:Type}[Rep α][Rep β]{proj:α→β}{y:α}(hg:zU ops g L G)(hF:yn P S f off)(hH:zj α β off proj)
  (hx:Opd L G x (ref y)):ze P ops fs ⟨d,.fieldAddr S x f,ty,pos,after,g⟩ L B (xr,[]) ⟨G,ref (proj y)⟩ []:=
 .pure hg fun M a w _ hs hG=>by
  obtain⟨b,o,cs,hv,hM,hb,hc,hr⟩:=hx.get hs (fun t ht=>zB (by simp[Op.operands,ht])) hG
  obtain⟨fds,fd,hu,hf,hoff,hsz0⟩:=hF
  obtain⟨i,hi,hne⟩:=zhI hsz0
  obtain⟨fcs,hfc,hj⟩:=hH.2 M y cs w hc
  refine⟨.pointer (some ⟨b,o+off,none⟩),?_,b,o+off,fcs,rfl,hM,hb,hfc,fun j hlt=>?_⟩
  ·
   have hsz:(sizeOf fd.type).run P w = .ok i.size w:=by simp[sizeOf,typeInfo,hi,go_sem]
   have hpl:(fieldPlace ⟨b,o,none⟩ fd).run P w = .ok ⟨b,o+off,none⟩ w:=by
    unfold fieldPlace
    rw[Sem.run_bind,hsz]
    simp only[Result.andThen,hne,if_false,Sem.run_pure,qF,hoff]
   have hun:(underlying S).run P w = .ok (.struct fds) w:=by simp[underlying,hu,go_sem]
   simp only[execOp,hv,Instr.fieldAt,Instr.sureAddr,Sem.run_bind,hun,hf,Result.andThen,Sem.run_pure,hpl]
  ·
   have:=hr (off+j) (by have:=hH.1;omega)
   rw[hj j hlt,←this]
   congr 2;omega
def gx {α:Type}[Inhabited α](l:List α)(i:Int):α:=(l[i.toNat]?).getD default
theorem ze.indexAddr {T E:Nat}{x i:Operand}{α:Type}[Rep α][Inhabited α]{l:List α}{k:Int}(hg:zU ops g L G)(hT:yK P T E)(hE:Ty P E α)
  (hx:Opd L G x (rep l)) (hi:Opd L G i (rep k)) (hb:G→0≤k∧k<l.length):
  ze P ops fs ⟨d,.indexAddr T x i,ty,pos,after,g⟩ L B (xr,[]) ⟨G,ref (gx l k)⟩ []:=
 .pure hg fun M a w _ hs hG=>by
  obtain⟨ad,cap,hv,hcap,_,hl⟩:=Yq.1 (hx.get hs (fun t ht=>zB (by simp[Op.operands,ht])) hG)
  obtain⟨hk,_⟩:=yz.1 (hi.get hs (fun t ht=>zB (by simp[Op.operands,ht])) hG)
  obtain⟨h0,h1⟩:=hb hG
  cases ad with
  | none=>rw[j9]at hl;subst hl;simp at h1;omega
  | some ad=>
   have hlt:k.toNat<l.length:=by omega
   obtain⟨hsp,hM,hb,cs,hc,hr⟩:=hl k.toNat hlt
   have hgx:gx l k=l[k.toNat]:=by simp[gx,List.getElem?_eq_getElem hlt]
   rw[hgx]
   obtain⟨blk,off,sp⟩:=ad
   simp only at hsp hM hb hr
   subst hsp
   refine⟨.pointer (some ⟨blk,off+k.toNat*Rep.sz α,none⟩),?_,blk,_,cs,rfl,hM,hb,hc,hr⟩
   obtain⟨ti,hti,hsize⟩:=Option.map_eq_some_iff.1 hE.size
   have hsz:(sizeOf E).run P w = .ok (Rep.sz α) w:=by simp[sizeOf,typeInfo,hti,hsize,go_sem]
   have hun:(underlying T).run P w = .ok (.slice E) w:=by simp[underlying,show P.underlying T=_ from hT,go_sem]
   simp only[execOp,hv,hk,Instr.indexAt,asIntOf,Sem.run_bind,hun,Result.andThen,Sem.run_pure]
   rw[if_pos ⟨h0,h1⟩]
   simp only[Sem.run_bind,hsz,Result.andThen,Sem.run_pure,qF]
theorem zdN {ρ:Operand→Value}{x:Operand}{T E:Nat}{o:Option Addr}{n cap:Nat}{w:World}(hT:yK P T E)(hx:ρ x = .slice o n cap):
  (execOp ρ ⟨d,.call { callee:=.builtin .len,args:=#[x],argTypes:=#[T] },ty,pos,after,g⟩).run P w = .ok (.value (.int .i64 n)) w:=by
 have hun:(underlying T).run P w = .ok (.slice E) w:=by simp[underlying,show P.underlying T=_ from hT,go_sem]
 simp only[execOp,resolve,invoke,builtin,Builtin.len_,Array.map]
 simp[go_sem,hun,hx,goInt]
theorem ze.len {x:Operand}{T E:Nat}{α:Type}[Rep α]{l:List α}(hg:zU ops g L G)(hT:yK P T E)(hx:Opd L G x (rep l)):
  ze P ops fs ⟨d,.call { callee:=.builtin .len,args:=#[x],argTypes:=#[T] },ty,pos,after,g⟩ L B (xr,[]) ⟨G,rep (l.length:Int)⟩ []:=
 .pure hg fun M a w _ hs hG=>by
  obtain⟨ad,cap,hv,hcap,hc2,_⟩:=Yq.1 (hx.get hs (fun t ht=>zB (qM (by simp[ht]))) hG)
  exact⟨_,zdN hT hv,yz.2 ⟨rfl,by unfold InI;omega⟩⟩
theorem ziS (w:World)(cs:Array Value)(T:TypeId)(j:Nat):(w.alloc (.cells cs T)).cell? ⟨w.heap.size,j,none⟩=cs[j]?:=by
 unfold World.cell?
 show(match(w.heap.push (.cells cs T))[w.heap.size]? with | some (.cells c _ _)=>_ | _=>_)=_
 rw[Array.getElem?_push_size]
 rfl
theorem jw (w:World)(o:Obj):(w.alloc o).heap.size=w.heap.size+1:=by
 show(w.heap.push o).size=_
 rw[Array.size_push]
theorem zgd {ρ:Operand→Value}{T:TypeId}{x:Operand}{cs:Array Value}{w:World}(hx:(ρ x).cells=cs):
  (execOp ρ ⟨d,.box T x,ty,pos,after,g⟩).run P w = .ok (.value (.pointer (some ⟨w.heap.size,0,none⟩))) (w.alloc (.cells cs T)):=by
 subst hx;rfl
theorem ze.box {T:TypeId}{x:Operand}{α:Type}[Rep α]{y:α}(hg:zU ops g L G)(hx:Opd L G x (rep y)):
  ze P ops fs ⟨d,.box T x,ty,pos,after,g⟩ L B (xr,[]) ⟨G,ref y⟩ []:=
 .of hg fun M D a w hm hs _ hG=>by
  obtain⟨cs,hc,hv⟩:=hx.get hs (fun t ht=>zB (by simp[Op.operands,ht])) hG
  have hcs:(a.eval x).cells=cs.toArray:=by rw[hv];exact Rep.flat hc
  refine zP.value (zgd hcs) ⟨Ext.alloc _ _,w.heap.size,0,cs,rfl,fun h=>absurd (hm _ h) (by omega),by rw[jw];omega,Rep.law (Ext.alloc _ _).keeps (fun _ h=>.inl h) hc,fun j _=>?_⟩
  rw[Nat.zero_add,ziS,List.getElem?_toArray]
theorem zqy {ρ:Operand→Value}{x:Operand}{i:Nat}{vs:Array Value}{v:Value}{w:World}(hx:ρ x = .tuple vs)(hi:vs[i]?=some v):
  (execOp ρ ⟨d,.extract x i,ty,pos,after,g⟩).run P w = .ok (.value v) w:=by
 simp only[execOp,hx,Instr.extract,hi];rfl
theorem ze.extract {x:Operand}{i:Nat}{Ss:List zF}{S:zF}(hg:zU ops g L G)(hx:Opd L G x (tup Ss))(hi:Ss[i]?=some S):
  ze P ops fs ⟨d,.extract x i,ty,pos,after,g⟩ L B (xr,[]) ⟨G,S⟩ []:=
 .pure hg fun M a w _ hs hG=>by
  obtain⟨vs,hv,hl,hall⟩:=hx.get hs (fun t ht=>zB (by simp[Op.operands,ht])) hG
  have hlt:i<vs.length:=by rw[hl];exact(List.getElem?_eq_some_iff.1 hi).1
  exact⟨vs[i],zqy hv (by simp[hlt]),hall i S _ hi (List.getElem?_eq_getElem hlt)⟩
theorem zmz {f:Nat}(hf:z8 P f)(vs:Array Value)(w:World):(callFunc f vs).run P w = .ok (.enter f vs) w:=by
 obtain⟨fn,h1,h2,h3⟩:=hf
 unfold callFunc
 rw[Sem.run_bind,show Sem.run P program w = .ok P w from rfl]
 simp only[Result.andThen,h1,h2,h3]
 rfl
theorem zP.enter {o:Oper}{a:Act}{w:World}{f:Nat}{vs:List Value}{M:zh}{S:zF}(hr:(execOp a.eval o).run P w = .ok (.enter f vs.toArray) w)
  (h:Jn P f vs M w S):zP P o a w (fun v w'=>Ext w w'∧S.p M v w'):=by
 unfold zP Oper.wp
 rw[hr]
 refine Calls.mono h fun e w' ⟨hx,v,he,hv⟩=>?_
 subst he
 exact⟨v,rfl,hx,hv⟩
theorem zdM {ρ:Operand→Value}{x:Operand}{xs:Array Operand}{ts:Array TypeId}{f:Nat}{caps:Array Value}{w:World}(hf:z8 P f)(hx:ρ x = .func (.func f) #[] caps):
  (execOp ρ ⟨d,.call { callee:=.value x,args:=xs,argTypes:=ts },ty,pos,after,g⟩).run P w = .ok (.enter f (xs.map ρ++caps)) w:=by
 have h:=zmz hf (xs.map ρ++caps) w
 simp only[execOp,resolve,hx,Deferred.ofValue]
 rw[Sem.run_bind]
 simp only[Sem.run_pure,Result.andThen,invoke,Array.empty_append]
 exact h
theorem ze.call {f:Nat}{xs:Array Operand}{ts:Array TypeId}{Ss:List zF}{S:zF}(hg:zU ops g L G)(hspec:zr P f Ss S)(hx:jL L G xs.toList Ss):
  ze P ops fs ⟨d,.call { callee:=.value (.func f),args:=xs,argTypes:=ts },ty,pos,after,g⟩ L B (xr,[]) ⟨G,S⟩ []:=
 .of hg fun M D a w hm hs _ hG=>by
  have ha:=hx.get hs (fun x hxm t ht=>zB (qM (by subst ht;simpa using hxm))) hG
  refine zP.enter (vs:=xs.toList.map a.eval) ?_ (hspec.calls M w _ hm ha)
  rw[show(xs.toList.map a.eval).toArray=xs.map a.eval++#[]by rw[Array.append_empty,←List.map_toArray]]
  exact zdM hspec.ok rfl
theorem ze.callIf {f:Nat}{pre:Prop}{xs:Array Operand}{ts:Array TypeId}{Ss:List zF}{S:zF}(hg:zU ops g L G)(hf:z8 P f)(hspec:pre→zr P f Ss S)(hx:jL L G xs.toList Ss)(hp:G→pre):
  ze P ops fs ⟨d,.call { callee:=.value (.func f),args:=xs,argTypes:=ts },ty,pos,after,g⟩ L B (xr,[]) ⟨G,S⟩ []:=
 .of hg fun M D a w hm hs _ hG=>by
  have ha:=hx.get hs (fun x hxm t ht=>zB (qM (by subst ht;simpa using hxm))) hG
  refine zP.enter (vs:=xs.toList.map a.eval) ?_ ((hspec (hp hG)).calls M w _ hm ha)
  rw[show(xs.toList.map a.eval).toArray=xs.map a.eval++#[]by rw[Array.append_empty,←List.map_toArray]]
  exact zdM hf rfl
theorem ze.callV {t:Nat}{xs:Array Operand}{ts:Array TypeId}{ι:Type}{pre:ι→Prop}{Ss:ι→List zF}{S:ι→zF}(i:ι)(hg:zU ops g L G)
  (hf:Opd L G (.tmp t) (fnv P pre Ss S)) (hp:G→pre i) (hx:jL L G xs.toList (Ss i)):
  ze P ops fs ⟨d,.call { callee:=.value (.tmp t),args:=xs,argTypes:=ts },ty,pos,after,g⟩ L B (xr,[]) ⟨G,S i⟩ []:=
 .of hg fun M D a w hm hs _ hG=>by
  have ha:=hx.get hs (fun x hxm t ht=>zB (qM (by subst ht;simpa using hxm))) hG
  obtain⟨f,caps,hv,hok,hcall⟩:=hf.get hs (fun t' ht=>zB (by cases ht;simp[Op.operands,Call.operands])) hG
  refine zP.enter (vs:=xs.toList.map a.eval++caps) ?_ (hcall i (hp hG) M w _ (zx.refl _ _) (fun _ h=>.inl h) hm ha)
  rw[show(xs.toList.map a.eval++caps).toArray=xs.map a.eval++caps.toArray by simp]
  exact zdM hok hv
theorem Opd.func {f:Nat}{ι:Type}{pre:ι→Prop}{Ss:ι→List zF}{S:ι→zF}(hf:z8 P f)(hspec:∀i,pre i→zr P f (Ss i) (S i)):Opd L G (.func f) (fnv P pre Ss S):=
 fun _ _=>⟨f,[],rfl,hf,fun i hi _ _ vs _ _ hsz hall=>by rw[List.append_nil];exact(hspec i hi).calls _ _ _ hsz hall⟩
end
section
variable {P:Program} {ops:Array Oper} {n:Nat} {L:zq} {B:zo} {K:zq→zo→Prop} {rest:List Oper}
theorem zy.nil {aux:List Aux}(h:K L B):zy P ops n [] aux L B K:=h
theorem zy.cons {d:Nat}{op:Op}{ty:TypeId}{pos:String}{after:Array Edge}{g:Option (Nat×Bool)}{E:Ent}
  (h:ze P ops n ⟨some d,op,ty,pos,after,g⟩ L B ([],[]) E []) (hB:yj B d=false) (k:zy P ops n rest [] ((d,E)::L) B K):
  zy P ops n (⟨some d,op,ty,pos,after,g⟩::rest) [] L B K:=
 ⟨E,[],rfl,h,by simpa [vr,Qz,hB,j6]using k⟩
theorem zy.consA {d:Nat}{op:Op}{ty:TypeId}{pos:String}{after:Array Edge}{g:Option (Nat×Bool)}{E:Ent}{xr:List Nat}{aux:List Aux}
  (h:ze P ops n ⟨some d,op,ty,pos,after,g⟩ L B (xr,[]) E []) (hB:yj B d=false) (k:zy P ops n rest aux ((d,E)::L) B K):
  zy P ops n (⟨some d,op,ty,pos,after,g⟩::rest) ((xr,[])::aux) L B K:=
 ⟨E,[],rfl,h,by simpa [vr,Qz,hB,j6]using k⟩
theorem zy.consW {d:Nat}{op:Op}{ty:TypeId}{pos:String}{after:Array Edge}{g:Option (Nat×Bool)}{E:Ent}{xr xs:List Nat}{aux:List Aux}{W:Nat×Option zd}{Ws:yL}
  (h:ze P ops n ⟨some d,op,ty,pos,after,g⟩ L B (xr,xs) E (W::Ws)) (hx:(W::Ws).map (·.1)=xs) (hB:yj B d=false) (k:zy P ops n rest aux ((d,E)::L) (W::(Ws++B)) K):
  zy P ops n (⟨some d,op,ty,pos,after,g⟩::rest) ((xr,xs)::aux) L B K:=
 ⟨E,W::Ws,hx,h,by simpa [vr,Qz,hB,j6]using k⟩
theorem zy.consWD {d:Nat}{op:Op}{ty:TypeId}{pos:String}{after:Array Edge}{g:Option (Nat×Bool)}{E:Ent}{xr xs:List Nat}{aux:List Aux}{W:Nat×Option zd}{Ws:yL}
  (h:ze P ops n ⟨some d,op,ty,pos,after,g⟩ L B (xr,xs) E (W::Ws)) (hx:(W::Ws).map (·.1)=xs) (hB:yj B d=true) (k:zy P ops n rest aux ((d,E)::L) (W::(Ws++(d,none)::B)) K):
  zy P ops n (⟨some d,op,ty,pos,after,g⟩::rest) ((xr,xs)::aux) L B K:=
 ⟨E,W::Ws,hx,h,by simpa [vr,Qz,hB,j6]using k⟩
theorem zy.consN {op:Op}{ty:TypeId}{pos:String}{after:Array Edge}{g:Option (Nat×Bool)}{E:Ent}{xr xs:List Nat}{aux:List Aux}{W:Nat×Option zd}{Ws:yL}
  (h:ze P ops n ⟨none,op,ty,pos,after,g⟩ L B (xr,xs) E (W::Ws)) (hx:(W::Ws).map (·.1)=xs) (k:zy P ops n rest aux L (W::(Ws++B)) K):
  zy P ops n (⟨none,op,ty,pos,after,g⟩::rest) ((xr,xs)::aux) L B K:=
 ⟨E,W::Ws,hx,h,by simpa [vr,Qz,j6]using k⟩
end
section
variable {P:Program} {Q:Exit→Act→World→Prop} {n:Nat} {F:Fr} {L:zq} {B:zo}
def Cod (P:Program)(c:Code)(Q:Exit→Act→World→Prop)(n:Nat)(F:Fr)(L:zq)(B:zo):Prop:=∀a w,Sat n F L B a w→c.wp P Q a w
def zb (Q:Exit→Act→World→Prop)(e:Exit)(n:Nat)(F:Fr)(L:zq)(B:zo):Prop:=∀a w,Sat n F L B a w→Q e a w
theorem Cod.seq {x y:Code}(h:Cod P x (Exit.then (y.wp P Q) Q) n F L B):Cod P (.seq x y) Q n F L B:=fun a w hs=>wp_seq (h a w hs)
theorem Cod.skip (h:zb Q .normal n F L B):Cod P .skip Q n F L B:=fun a w hs=>wp_skip (h a w hs)
theorem Cod.ret (h:zb Q .ret n F L B):Cod P .ret Q n F L B:=fun a w hs=>wp_ret (h a w hs)
theorem Cod.exit {id:Nat}(h:zb Q (.exit id) n F L B):Cod P (.exit id) Q n F L B:=fun a w hs=>wp_exit (h a w hs)
theorem Cod.block {id:Nat}{c:Code}(h:Cod P c (Exit.inBlock id Q) n F L B):Cod P (.block id c) Q n F L B:=fun a w hs=>wp_block (h a w hs)
theorem Cod.region {id:Nat}{l:List Oper}{draw:Bool}(aux:List Aux)(hm:P.follows .mixedOrders=true)(hok:J3 n l.toArray aux=true)
  (h:zy P l.toArray n l aux L B (fun L' B'=>zb Q .normal n F L' B')):Cod P (.region id l.toArray draw) Q n F L B:=
 fun _ _ hs=>ztw aux hm hok h hs
theorem Cod.cond {t:Nat}{x y:Code}{c:Prop}{b:Bool}(hl:zD L t=some ⟨c,rep b⟩)(hc:c)
  (h1:b=true→Cod P x Q n F L B) (h2:b=false→Cod P y Q n F L B):Cod P (.cond (.tmp t) x y) Q n F L B:=by
 intro a w hs
 obtain⟨M,D,hs1⟩:=id hs
 obtain⟨v,hv,he⟩:=hs1.has t _ hl
 have hvb:v = .bool b:=yS.1 (he.1 hc)
 have hev:a.eval (.tmp t) = .bool b:=by rw[Act.eval_tmp hv,hvb]
 cases b with
 | true=>exact wp_cond_true hev (h1 rfl a w hs)
 | false=>exact wp_cond_false hev (h2 rfl a w hs)
theorem zb.then {y:Code}(h:Cod P y Q n F L B):zb (Exit.then (y.wp P Q) Q) .normal n F L B:=h
theorem zb.thenRet {K:Act→World→Prop}(h:zb Q .ret n F L B):zb (Exit.then K Q) .ret n F L B:=h
theorem zb.thenExit {K:Act→World→Prop}{id:Nat}(h:zb Q (.exit id) n F L B):zb (Exit.then K Q) (.exit id) n F L B:=h
theorem zb.blkNormal {id:Nat}(h:zb Q .normal n F L B):zb (Exit.inBlock id Q) .normal n F L B:=h
theorem zb.blkRet {id:Nat}(h:zb Q .ret n F L B):zb (Exit.inBlock id Q) .ret n F L B:=h
theorem zb.blkExit {id:Nat}(h:zb Q .normal n F L B):zb (Exit.inBlock id Q) (.exit id) n F L B:=fun a w hs=>by
 show(if id=id then _ else _);rw[if_pos rfl];exact h a w hs
def Sub (L L':zq):Prop:=∀t e,zD L' t=some e→zD L t=some e
def zi (B B':zo):Prop:=∀t c,zk B' t=some c→zk B t=some c
theorem Sat.weaken {L':zq}{B':zo}{a:Act}{w:World}(hs:Sat n F L B a w)(h:Sub L L')(hB:zi B B'):Sat n F L' B' a w:=by
 obtain⟨M,D,hs⟩:=hs
 exact⟨M,D,hs.size,hs.defers,hs.keeps,hs.mf0,hs.mlow,hs.mhigh,hs.msub,fun t e he=>hs.has t e (h t e he),fun t c hc=>hs.hasB t c (hB t c hc),
  fun t c hc=>hs.own t c (hB t c hc),fun t t' c c' h1 h2=>hs.apart t t' c c' (hB t c h1) (hB t' c' h2)⟩
theorem Sub.nil:Sub L []:=fun _ _ h=>by cases h
theorem Sub.cons {L':zq}{t:Nat}{e:Ent}(h1:zD L t=some e)(h2:Sub L L'):Sub L ((t,e)::L'):=by
 intro t' e' h
 simp only[zD]at h
 by_cases hne:t=t'
 ·
  subst hne
  simp at h;subst h;exact h1
 ·
  rw[yp hne,cond_false]at h;exact h2 t' e' h
theorem Sub.k {L':zq}{e:Ent}(t:Nat)(h1:zD L t=some e)(h2:Sub L L'):Sub L ((t,e)::L'):=.cons h1 h2
theorem zi.nil:zi B []:=fun _ _ h=>by cases h
theorem zi.cons {B':zo}{t:Nat}{c:zd}(h1:zk B t=some c)(h2:zi B B'):zi B ((t,some c)::B'):=by
 intro t' e' h
 simp only[zk]at h
 by_cases hne:t=t'
 ·
  subst hne
  simp at h;subst h;exact h1
 ·
  rw[yp hne,cond_false]at h;exact h2 t' e' h
theorem zi.k {B':zo}{c:zd}(t:Nat)(h1:zk B t=some c)(h2:zi B B'):zi B ((t,some c)::B'):=.cons h1 h2
theorem Cod.weaken {c:Code}{L':zq}{B':zo}(h:Sub L L')(hB:zi B B')(k:Cod P c Q n F L' B'):Cod P c Q n F L B:=
 fun a w hs=>k a w (hs.weaken h hB)
theorem Cod.loop {c:Code}{ι:Type}(Ls:ι→zq)(Bs:ι→zo)(μ:ι→Nat)(i0:ι)(h0:Sub L (Ls i0))(hB0:zi B (Bs i0))
  (round:∀i,Cod P c (Exit.then (fun a w=>∃j,μ j<μ i∧Sat n F (Ls j) (Bs j) a w) Q) n F (Ls i) (Bs i)):Cod P (.loop c) Q n F L B:=by
 intro a w hs b k cs
 have key:∀m i a w,μ i=m→Sat n F (Ls i) (Bs i) a w→
   ∃e a' w',Q e a' w'∧Arrives P (lone (b.at a (.code c::.inLoop c::k)) cs w) b k cs e a' w':=by
  intro m
  induction m using Nat.strongRecOn with
  | _ m ih=>
   intro i a w hm hI
   obtain⟨e,a₁,w₁,hq,harr⟩:=round i a w hI b (.inLoop c::k) cs
   cases e with
   | normal=>
    obtain⟨j,hlt,hI₁⟩:=hq
    obtain⟨e₂,a₂,w₂,hq₂,harr₂⟩:=ih (μ j) (hm▸hlt) j a₁ w₁ rfl hI₁
    exact⟨e₂,a₂,w₂,hq₂,.of_steps (Steps.trans harr (.one step_inLoop)) harr₂⟩
   | exit id=>exact⟨_,a₁,w₁,hq,.pass (x:=.inLoop c) rfl (fun _ _=>.inl (by simp)) harr⟩
   | goto l=>exact⟨_,a₁,w₁,hq,.pass (x:=.inLoop c) rfl (fun _ _=>.inl (by simp)) harr⟩
   | ret=>exact⟨_,a₁,w₁,hq,.pass (x:=.inLoop c) rfl (fun _ _=>.inl (by simp)) harr⟩
   | panic ch=>exact⟨_,a₁,w₁,hq,.pass (x:=.inLoop c) rfl (fun _ _=>.inl (by simp)) harr⟩
   | outgrown=>exact⟨_,a₁,w₁,hq,.pass (x:=.inLoop c) rfl (fun _ _=>.inl (by simp)) harr⟩
 obtain⟨e,a',w',hq,harr⟩:=key _ i0 a w rfl (hs.weaken h0 hB0)
 exact⟨e,a',w',hq,.of_steps (.one step_loop) harr⟩
end
end Go.DB
namespace Go.DB
open Go Go.RowKit
def Jt:Nat→List zF→zq
 | _,[]=>[]
 | k,S::Ss=>(k,⟨True,S⟩)::Jt (k+1) Ss
theorem ziC {M:zh}{w:World}:∀(Ss:List zF) (vs:List Value) (k t:Nat) (e:Ent),qK M w Ss vs→zD (Jt k Ss) t=some e→
  ∃v,k≤t∧vs[t - k]?=some v∧e.holds M v w
 | [],_,_,_,_,_,h=>by cases h
 | S::Ss,[],_,_,_,ha,_=>ha.elim
 | S::Ss,v::vs,k,t,e,ha,h=>by
  simp only[Jt,zD]at h
  by_cases hk:k=t
  ·
   subst hk
   simp at h;subst h
   exact⟨v,Nat.le_refl _,by simp,fun _=>ha.1,fun hf=>(hf trivial).elim⟩
  ·
   rw[yp hk,cond_false]at h
   obtain⟨u,h1,h2,h3⟩:=ziC Ss vs (k+1) t e ha.2 h
   refine⟨u,by omega,?_,h3⟩
   rw[show t - k=(t - (k+1))+1 by omega];simpa using h2
def ji (F:Fr)(S:zF)(an:List Value)(outs:List (Option zd))(e:Ending)(w':World):Prop:=
 ∃(v:Value) (M':zh) (D':Nat→zh),e = .returned v∧zx F.M0 F.w0 w'∧(∀k,F.Mf k→M' k∨F.M0 k)∧(∀k,M' k→F.Mf k∨F.w0.heap.size≤k)∧(∀k,M' k→k<w'.heap.size)∧S.p M' v w'∧
  (∀(i:Nat) (c:zd),outs[i]?=some (some c)→c.p M' (D' i) (((an++[v])[i]?).getD undef) w'∧∀k,D' i k→F.M0 k∨F.w0.heap.size≤k)∧
  (∀(i j:Nat) (c c':zd),outs[i]?=some (some c)→outs[j]?=some (some c')→i≠j→∀k,D' i k→¬D' j k)
def vE (F:Fr)(S:zF):Ending→World→Prop:=ji F S [] []
abbrev jh:=List (Value×zd)
structure zdc (M:zh) (D:Nat→zh) (w:World) (Os:jh):Prop where
 has:∀(i:Nat) (s:Value) (c:zd),Os[i]?=some (s,c)→c.p M (D i) s w
 apart:∀(i j:Nat) (x y:Value×zd),Os[i]?=some x→Os[j]?=some y→i≠j→∀k,D i k→¬D j k
def DU (D:Nat→zh)(n:Nat):zh:=fun k=>∃i,i<n∧D i k
structure zS (P:Program) (f:Nat) (Ss:List zF) (Os:jh) (S:zF) (outs:List (Option zd)):Prop where
 ok:z8 P f
 calls:∀(M:zh) (D:Nat→zh) (w:World) (vs:List Value),Low M w→qK M w Ss vs→zdc M D w Os→
  Calls P f vs.toArray w (ji ⟨w,M,DU D Os.length⟩ S (Os.map (·.1)) outs)
def zd.at (s:Value)(C:zd):zd where
 p:=fun M D _ w=>C.p M D s w
 inM:=fun M D _ w h=>C.inM M D s w h
 law:=fun M M' D _ w w' hk hm hD h=>C.law M M' D s w w' hk hm hD h
def za0:Nat→jh→zo
 | _,[]=>[]
 | k,(s,c)::Os=>(k,some (zd.at s c))::za0 (k+1) Os
theorem zlL:∀(Os:jh) (k t:Nat) (c:zd),zk (za0 k Os) t=some c→k≤t∧∃s C,Os[t - k]?=some (s,C)∧c=zd.at s C
 | [],_,_,_,h=>by cases h
 | (s,C)::Os,k,t,c,h=>by
  simp only[za0,zk]at h
  by_cases hk:k=t
  ·
   subst hk
   simp at h;subst h
   exact⟨Nat.le_refl _,s,C,by simp,rfl⟩
  ·
   rw[yp hk,cond_false]at h
   obtain⟨h1,s',C',h2,h3⟩:=zlL Os (k+1) t c h
   refine⟨by omega,s',C',?_,h3⟩
   rw[show t - k=(t - (k+1))+1 by omega];simpa using h2
theorem zS.intro {P:Program}{f n:Nat}{fn:Func}{c:Code}{Ss:List zF}{Os:jh}{S:zF}{outs:List (Option zd)}(ok:z8 P f)(hf:P.funcs[f]?=some fn)(hb:fn.body=some c)(hn:fn.ntmps=n)
  (hle:Nat.ble Ss.length n=true) (h:∀F,Cod P c (bodyPost P fn (ji F S (Os.map (·.1)) outs)) n F (Jt 0 Ss) (za0 n Os)):zS P f Ss Os S outs:=by
 refine⟨ok,fun M D w vs hM ha hO=>?_⟩
 have hl:=ha.length
 have hle':Ss.length≤n:=Nat.le_of_ble_eq_true hle
 have keys:∀t c,zk (za0 n Os) t=some c→n≤t∧∃s C,Os[t - n]?=some (s,C)∧c=zd.at s C:=fun t c h=>zlL Os n t c h
 refine calls_of_wp hf hb (h ⟨w,M,DU D Os.length⟩ _ _ ⟨M,fun t=>D (t - n),?_,rfl,zx.refl _ _,hM,fun _ h=>.inl h,fun _ h=>.inl h,hM,?_,?_,?_,?_⟩)
 ·
  simp[hn,hl];omega
 ·
  intro t e he
  obtain⟨v,_,h2,h3⟩:=ziC Ss vs 0 t e ha he
  refine⟨v,?_,h3⟩
  simp at h2
  have hlt:t<vs.length:=(List.getElem?_eq_some_iff.1 h2).1
  rw[Array.getElem?_append_left (by simpa using hlt)]
  simpa using h2
 ·
  intro t c hc
  obtain⟨_,s,C,h1,rfl⟩:=keys t c hc
  have:=hO.has _ _ _ h1
  exact this
 ·
  intro t c hc k hk
  obtain⟨_,s,C,h1,rfl⟩:=keys t c hc
  exact .inl ⟨_,(List.getElem?_eq_some_iff.1 h1).1,hk⟩
 ·
  intro t t' c c' hc hc' hne
  obtain⟨hge,s,C,h1,rfl⟩:=keys t c hc
  obtain⟨hge',s',C',h1',rfl⟩:=keys t' c' hc'
  exact hO.apart _ _ _ _ h1 h1' (by omega)
theorem zS.pure {P:Program}{f:Nat}{Ss:List zF}{S:zF}(h:zS P f Ss [] S []):zr P f Ss S:=
 ⟨h.ok,fun M w vs hM ha=>Calls.mono (h.calls M (fun _=>NoM) w vs hM ha ⟨fun i s c h=>by simp at h,fun i j x y h=>by simp at h⟩) fun e w' ⟨v,M',D',he,hk,hml,hmh,hms,hS,_,_⟩=>by
  have no:∀k,¬DU (fun _=>NoM) ([]:jh).length k:=fun k ⟨i,hi,_⟩=>by simp at hi
  refine⟨⟨hk.os,hk.tape,hk.output,hk.size,fun k hlt _=>hk.block k hlt (no k)⟩,v,he,S.law M' M v w' w' (zx.refl _ _) (fun k h=>.inl ((hml k h).resolve_right (no k))) hS⟩⟩
theorem zr.intro {P:Program}{f n:Nat}{fn:Func}{c:Code}{Ss:List zF}{S:zF}(ok:z8 P f)(hf:P.funcs[f]?=some fn)(hb:fn.body=some c)(hn:fn.ntmps=n)
  (hle:Nat.ble Ss.length n=true) (h:∀F,Cod P c (bodyPost P fn (vE F S)) n F (Jt 0 Ss) []):zr P f Ss S:=
 (zS.intro (Os:=[]) ok hf hb hn hle h).pure
def zC (T:TypeId){α:Type}[Rep α](y:α):zd where
 p:=fun M D v w=>∃m cs,v = .pointer (some ⟨m,0,none⟩)∧(∀k,D k↔k=m)∧M m∧w.heap[m]?=some (.cells cs.toArray T (0,0))∧Rep.cells M y cs w
 inM:=fun M D v w ⟨m,cs,hv,hD,hM,_⟩ k hk=>(hD k).1 hk▸hM
 law:=fun M M' D v w w' hk hm hown ⟨m,cs,hv,hD,hM,hh,hc⟩=>by
  obtain⟨h1,h2⟩:=hown m ((hD m).2 rfl)
  exact⟨m,cs,hv,hD,h1,by rw[h2];exact hh,Rep.law hk hm hc⟩
structure Raw where
 v:Value
instance:Rep Raw where
 sz:=1
 agg:=false
 cells:=fun _ x cs _=>cs=[x.v]∧jf x.v=true∧x.v.cells=#[x.v]
 len:=fun h=>by rw[h.1];rfl
 pos:=by decide
 flat:=fun h=>by rw[h.1];exact h.2.2
 plain:=fun h c hc=>by rw[h.1]at hc;simp at hc;rw[hc];exact h.2.1
 law:=fun _ _ h=>h
abbrev isV (s:Value):zF:=rep (⟨s⟩:Raw)
theorem ya {s:Value}{M:zh}{v:Value}{w:World}:(isV s).p M v w↔v=s∧jf s=true∧s.cells=#[s]:=by
 constructor
 ·
  rintro⟨cs,⟨h,hi⟩,hv⟩;subst h;exact⟨hv,hi⟩
 ·
  rintro⟨h,hi⟩;exact⟨[s],⟨rfl,hi⟩,h⟩
abbrev ptr (m off:Nat):Value:=.pointer (some ⟨m,off,none⟩)
theorem zgE {m off:Nat}{M:zh}{w:World}:(isV (ptr m off)).p M (ptr m off) w:=ya.2 ⟨rfl,rfl,rfl⟩
abbrev yG (m:Nat)(T:TypeId){α:Type}[Rep α](y:α):zd:=zd.at (ptr m 0) (zC T y)
def zV:zF:=⟨fun _ _ _=>True,fun _ _ _ _ _ _ _ _=>trivial⟩
theorem cell_of_heap {w:World}{m j:Nat}{cs:Array Value}{T:TypeId}{fz:Nat×Nat}(h:w.heap[m]?=some (.cells cs T fz)):w.cell? ⟨m,j,none⟩=cs[j]?:=by
 simp[World.cell?,h]
def yZ (P:Program)(T:TypeId){α:Type}[Rep α](z:α):Prop:=
 ∃cs,(P.info? T).bind (·.zero)=some (mkv (Rep.agg α) cs)∧∀(M:zh) (w:World),Rep.cells M z cs w
def zm (α β:Type)[Rep α][Rep β](off:Nat)(set:α→β→α):Prop:=
 off+Rep.sz β≤Rep.sz α∧∀(M:zh) (x:α) (z:β) (cs zs:List Value) (w:World),Rep.cells M x cs w→Rep.cells M z zs w→Rep.cells M (set x z) (cs.take off++zs++cs.drop (off+Rep.sz β)) w
theorem zm.self {α:Type}[Rep α]:zm α α 0 (fun _ z=>z):=⟨by simp,fun M x z cs zs w h1 h2=>by
 rw[List.take_zero,List.nil_append,List.drop_eq_nil_of_le (by rw[Rep.len h1];omega),List.append_nil];exact h2⟩
theorem zm.fst {α β γ:Type}[Rep α][Rep β][Rep γ]{off:Nat}{f:α→γ→α}(h:zm α γ off f):zm (α×β) γ off (fun x z=>(f x.1 z,x.2)):=by
 refine⟨Nat.le_trans h.1 (Nat.le_add_right _ _),?_⟩
 rintro M x z cs zs w ⟨c1,c2,rfl,h1,h2⟩ hz
 refine⟨c1.take off++zs++c1.drop (off+Rep.sz γ),c2,?_,h.2 M x.1 z c1 zs w h1 hz,h2⟩
 have:=h.1
 rw[List.take_append_of_le_length (by rw[Rep.len h1];omega),List.drop_append_of_le_length (by rw[Rep.len h1];omega)]
 simp
theorem zm.snd {α β γ:Type}[Rep α][Rep β][Rep γ]{off:Nat}{f:β→γ→β}(h:zm β γ off f):zm (α×β) γ (Rep.sz α+off) (fun x z=>(x.1,f x.2 z)):=by
 refine⟨by have:=h.1;show _≤Rep.sz α+Rep.sz β;omega,?_⟩
 rintro M x z cs zs w ⟨c1,c2,rfl,h1,h2⟩ hz
 refine⟨c1,c2.take off++zs++c2.drop (off+Rep.sz γ),?_,h1,h.2 M x.2 z c2 zs w h2 hz⟩
 have hl:=Rep.len h1
 rw[←hl,List.take_length_add_append,show c1.length+off+Rep.sz γ=c1.length+(off+Rep.sz γ)by omega,List.drop_length_add_append]
 simp
section
variable {P:Program} {ops:Array Oper} {fs:Nat} {L:zq} {B:zo} {G:Prop}
variable {d:Option Tmp} {ty:TypeId} {pos:String} {after:Array Edge} {xr:List Nat}
theorem zqs {ρ:Operand→Value}{T:TypeId}{z:Value}{i:TypeInfo}{g:Option (Nat×Bool)}{w:World}(hi:P.info? T=some i)(hz:i.zero=some z):
  (execOp ρ ⟨d,.alloc T,ty,pos,after,g⟩).run P w = .ok (.value (.pointer (some ⟨w.heap.size,0,none⟩))) (w.alloc (.cells z.cells T)):=by
 have h1:(zeroValue T).run P w = .ok z w:=by simp[zeroValue,typeInfo,hi,hz,go_sem]
 simp only[execOp,Instr.alloc]
 rw[Sem.run_bind,Sem.run_bind,h1]
 rfl
theorem ztk {a:Act}{t:Nat}{v:Value}(h:t<a.tmps.size):(a.put (some t) v).tmps[t]?=some v:=by simp[Act.put,h]
theorem qJ {a:Act}{t:Nat}{v:Value}(h:t<a.tmps.size):Act.val (a.put (some t) v) t=v:=by unfold Act.val;rw[ztk h];rfl
theorem zae {a:Act}{t:Nat}{v:Value}:Act.val (a.put none v) t=Act.val a t:=rfl
theorem Leaves.one {o:Oper}{D:Nat→zh}{E:Ent}{M:zh}{a:Act}{w:World}{v:Value}{w':World}{t:Nat}{C:zd}(M' Dt:zh)(hx:Ext w w')
  (h1:∀k,M k→M' k) (h2:∀k,M' k→M k∨w.heap.size≤k) (h3:∀k,M' k→k<w'.heap.size) (h4:E.holds M' v w') (h5:C.p M' Dt (Act.val (a.put o.dst v) t) w') (h6:∀k,Dt k→w.heap.size≤k):
  Leaves o B D [t] E [(t,some C)] M a w v w':=by
 refine⟨M',fun _=>Dt,hx.keeps,fun k h=>.inl (h1 k h),h2,h3,h4,fun t' c hc=>?_,fun t1 t2 c1 c2 hc1 hc2 hne=>?_⟩
 ·
  simp only[zk]at hc
  by_cases he:t=t'
  ·
   subst he;simp at hc;subst hc
   exact⟨h5,fun k hk=>.inr (h6 k hk)⟩
  ·
   rw[yp he]at hc;cases hc
 ·
  simp only[zk]at hc1 hc2
  by_cases he:t=t1
  ·
   by_cases he2:t=t2
   ·
    exact absurd (he.symm.trans he2) hne
   ·
    rw[yp he2]at hc2;cases hc2
  ·
   rw[yp he]at hc1;cases hc1
theorem Leaves.turn {o:Oper}{D:Nat→zh}{E:Ent}{M:zh}{a:Act}{w:World}{v:Value}{w':World}{t:Nat}{C C0:zd}(hl:zk B t=some C0)
  (hk:zx (D t) w w') (h3:∀k,M k→k<w'.heap.size) (h4:E.holds M v w') (h5:C.p M (D t) (Act.val (a.put o.dst v) t) w'):
  Leaves o B D [t] E [(t,some C)] M a w v w':=by
 have hm:∀k,D t k→qE [t] B D k:=fun k hk=>⟨t,by simp,C0,hl,hk⟩
 refine⟨M,D,hk.mono (fun k _ h=>hm k h),fun k h=>.inl h,fun k h=>.inl h,h3,h4,fun t' c hc=>?_,fun t1 t2 c1 c2 hc1 hc2 hne=>?_⟩
 ·
  simp only[zk]at hc
  by_cases he:t=t'
  ·
   subst he;simp at hc;subst hc
   exact⟨h5,fun k hk=>.inl (hm k hk)⟩
  ·
   rw[yp he]at hc;cases hc
 ·
  simp only[zk]at hc1 hc2
  by_cases he:t=t1
  ·
   by_cases he2:t=t2
   ·
    exact absurd (he.symm.trans he2) hne
   ·
    rw[yp he2]at hc2;cases hc2
  ·
   rw[yp he]at hc1;cases hc1
theorem ze.alloc {T d:Nat}{α:Type}[Rep α]{z:α}(hz:yZ P T z)(hd:Nat.blt d fs=true):
  ze P ops fs ⟨some d,.alloc T,ty,pos,after,none⟩ L B ([],[d]) ⟨True,zV⟩ [(d,some (zC T z))]:=by
 intro M D a w hsz hm _ _
 obtain⟨cs,hiz,hc⟩:=hz
 obtain⟨i,hi,hzv⟩:=Option.bind_eq_some_iff.1 hiz
 have hw:Region.wanted (⟨some d,.alloc T,ty,pos,after,none⟩:Oper) (yielded ops a.tmps)=true:=rfl
 rw[if_pos hw]
 have hcs:(mkv (Rep.agg α) cs).cells=cs.toArray:=Rep.flat (hc M w)
 refine zP.value (zqs hi hzv) (.one (fun k=>M k∨k=w.heap.size) (fun k=>k=w.heap.size) (Ext.alloc _ _) (fun k h=>.inl h) (fun k h=>?_) (fun k h=>?_) ⟨fun _=>trivial,fun hf=>(hf trivial).elim⟩ ?_ ?_)
 ·
  rcases h with h | h
  ·
   exact .inl h
  ·
   exact .inr (by omega)
 ·
  rw[jw]
  rcases h with h | h
  ·
   have:=hm k h;omega
  ·
   omega
 ·
  rw[qJ (by rw[hsz];exact Nat.le_of_ble_eq_true hd)]
  refine⟨w.heap.size,cs,rfl,fun k=>Iff.rfl,.inr rfl,?_,hc _ _⟩
  rw[hcs]
  show(w.heap.push _)[w.heap.size]?=_
  rw[Array.getElem?_push_size]
 ·
  intro k hk
  omega
theorem zhw {m off:Nat}{T:TypeId}{q:Nat×Nat}:∀(vs pre mid rest:List Value) (w:World) (j:Nat),mid.length=vs.length→(∀c∈vs,jf c=true)→pre.length=off+j→
  (q.2≤q.1∨(pre++mid++rest).length≤q.1)→w.heap[m]?=some (.cells (pre++mid++rest).toArray T q)→
  ∃w',(storeCells ⟨m,off,none⟩ vs j).run P w = .ok () w'∧w'.heap[m]?=some (.cells (pre++vs++rest).toArray T q)∧
   w'.os=w.os∧w'.tape=w.tape∧w'.output=w.output∧w'.heap.size=w.heap.size∧∀k,k≠m→w'.heap[k]?=w.heap[k]?
 | [],pre,mid,rest,w,j,hl,_,_,hq,hh=>by
  have:mid=[]:=List.length_eq_zero_iff.1 hl
  subst this
  exact⟨w,rfl,hh,rfl,rfl,rfl,rfl,fun _ _=>rfl⟩
 | v::vs,pre,mid,rest,w,j,hl,hp,hj,hq,hh=>by
  match mid,hl,hq,hh with
  | r::mid,hl,hq,hh=>
   have hcell:w.cell? ⟨m,off+j,none⟩=some r:=by rw[cell_of_heap hh,←hj];simp
   have hfz:w.frozen? ⟨m,off+j,none⟩=false:=by
    simp only[List.length_append,List.length_cons]at hq
    simp[World.frozen?,hh];omega
   have hv:=hp v List.mem_cons_self
   have hst:(store ⟨m,off+j,none⟩ v).run P w = .ok () (w.setCell ⟨m,off+j,none⟩ v):=by
    unfold store
    cases v<;>first | (simp[jf]at hv;done) | simp[Sem.run,hcell,hfz]
   have hheap:(w.setCell ⟨m,off+j,none⟩ v).heap[m]?=some (.cells ((pre++[v])++mid++rest).toArray T q):=by
    simp[World.setCell,Array.getElem?_modify,hh,←hj]
   obtain⟨w',h1,h2,h3,h4,h5,h6,h7⟩:=zhw vs (pre++[v]) mid rest (w.setCell ⟨m,off+j,none⟩ v) (j+1) (by simpa using hl) (fun c hc=>hp c (List.mem_cons_of_mem _ hc)) (show(pre++[v]).length=off+(j+1)by rw[List.length_append,hj];rfl) (by simp only[List.length_append,List.length_cons,List.length_nil]at hq⊢;omega) hheap
   refine⟨w',?_,by simpa using h2,h3.trans rfl,h4.trans rfl,h5.trans rfl,h6.trans (by simp[World.setCell]),fun k hk=>?_⟩
   ·
    simp only[storeCells,qF]
    rw[Sem.run_bind,hst]
    simp only[Result.andThen]
    exact h1
   ·
    rw[h7 k hk]
    simp only[World.setCell,Array.getElem?_modify]
    rw[if_neg (Ne.symm hk)]
def qk (w:World)(b:Nat)(l:List Value)(T:TypeId)(s:Nat):Prop:=∃q:Nat×Nat,(q.2≤q.1∨(s=1∧l.length≤q.1))∧w.heap[b]?=some (.cells l.toArray T q)
theorem qk.re {s:Nat}{w:World}{b:Nat}{l l':List Value}{T:TypeId}(h:qk w b l T s)(e:l=l'):qk w b l' T s:=e▸h
theorem qk.of {s:Nat}{w:World}{b:Nat}{l:List Value}{T:TypeId}(h:w.heap[b]?=some (.cells l.toArray T (0,0))):qk w b l T s:=⟨_,.inl (Nat.le_refl _),h⟩
theorem qk.to {s:Nat}{w w':World}{b:Nat}{l:List Value}{T:TypeId}(h:qk w b l T s)(e:w'.heap[b]?=w.heap[b]?):qk w' b l T s:=by unfold qk;rw[e];exact h
theorem qk.cell {s:Nat}{w:World}{b j:Nat}{l:List Value}{T:TypeId}(h:qk w b l T s):w.cell? ⟨b,j,none⟩=l.toArray[j]?:=by obtain⟨q,_,h⟩:=h;exact cell_of_heap h
theorem zmI {s m off:Nat}{T:TypeId}(vs pre mid rest:List Value)(w:World)(j:Nat)(hl:mid.length=vs.length)(hp:∀c∈vs,jf c=true)(hj:pre.length=off+j)(hh:qk w m (pre++mid++rest) T s):
  ∃w',(storeCells ⟨m,off,none⟩ vs j).run P w = .ok () w'∧qk w' m (pre++vs++rest) T s∧
   w'.os=w.os∧w'.tape=w.tape∧w'.output=w.output∧w'.heap.size=w.heap.size∧∀k,k≠m→w'.heap[k]?=w.heap[k]?:=by
 obtain⟨q,hq,hh⟩:=hh
 obtain⟨w',h1,h2,h3⟩:=zhw (P:=P) (m:=m) (off:=off) (T:=T) (q:=q) vs pre mid rest w j hl hp hj (hq.imp id And.right) hh
 exact⟨w',h1,⟨q,by simp only[List.length_append]at hq⊢;omega,h2⟩,h3⟩
theorem zmH {T:TypeId}{α:Type}[Rep α](hT:Ty P T α){m off:Nat}{cs pre mid rest:List Value}{w:World}(hl:cs.length=Rep.sz α)(hold:mid.length=Rep.sz α)(hpre:pre.length=off)
  (hp:∀c∈cs,jf c=true) (hf:(mkv (Rep.agg α) cs).cells=cs.toArray) {T':TypeId} {q:Nat×Nat} (hq:q.2≤q.1∨(pre++mid++rest).length≤q.1) (hh:w.heap[m]?=some (.cells (pre++mid++rest).toArray T' q)):
  ∃w',(Instr.storeAt T (.pointer (some ⟨m,off,none⟩)) (mkv (Rep.agg α) cs)).run P w = .ok () w'∧w'.heap[m]?=some (.cells (pre++cs++rest).toArray T' q)∧
   w'.os=w.os∧w'.tape=w.tape∧w'.output=w.output∧w'.heap.size=w.heap.size∧∀k,k≠m→w'.heap[k]?=w.heap[k]?:=by
 obtain⟨w',h1,h2⟩:=zhw (P:=P) (m:=m) (off:=off) (T:=T') cs pre mid rest w 0 (by rw[hl,hold]) hp (by omega) hq hh
 refine⟨w',?_,h2⟩
 obtain⟨i,hi,hsize⟩:=Option.map_eq_some_iff.1 hT.size
 have hs:(sizeOf T).run P w = .ok (Rep.sz α) w:=by simp[sizeOf,typeInfo,hi,hsize,go_sem]
 simp only[Instr.storeAt,Instr.sureAddr,storeVar,hf]
 rw[Sem.run_bind]
 simp only[Sem.run_pure,Result.andThen]
 rw[Sem.run_bind,hs]
 simp only[Result.andThen]
 rw[if_neg (by simp[hl])]
 exact h1
theorem Ja {T:TypeId}{α:Type}[Rep α](hT:Ty P T α){m off:Nat}{cs pre mid rest:List Value}{w:World}(hl:cs.length=Rep.sz α)(hold:mid.length=Rep.sz α)(hpre:pre.length=off)
  (hp:∀c∈cs,jf c=true) (hf:(mkv (Rep.agg α) cs).cells=cs.toArray) {T':TypeId} (hh:w.heap[m]?=some (.cells (pre++mid++rest).toArray T' (0,0))):
  ∃w',(Instr.storeAt T (.pointer (some ⟨m,off,none⟩)) (mkv (Rep.agg α) cs)).run P w = .ok () w'∧w'.heap[m]?=some (.cells (pre++cs++rest).toArray T' (0,0))∧
   w'.os=w.os∧w'.tape=w.tape∧w'.output=w.output∧w'.heap.size=w.heap.size∧∀k,k≠m→w'.heap[k]?=w.heap[k]?:=
 zmH hT hl hold hpre hp hf (.inl (Nat.le_refl _)) hh
theorem zt4 {s:Nat}{T:TypeId}{α:Type}[Rep α](hT:Ty P T α){m off:Nat}{cs pre mid rest:List Value}{w:World}(hl:cs.length=Rep.sz α)(hold:mid.length=Rep.sz α)(hpre:pre.length=off)
  (hp:∀c∈cs,jf c=true) (hf:(mkv (Rep.agg α) cs).cells=cs.toArray) {T':TypeId} (hh:qk w m (pre++mid++rest) T' s):
  ∃w',(Instr.storeAt T (.pointer (some ⟨m,off,none⟩)) (mkv (Rep.agg α) cs)).run P w = .ok () w'∧qk w' m (pre++cs++rest) T' s∧
   w'.os=w.os∧w'.tape=w.tape∧w'.output=w.output∧w'.heap.size=w.heap.size∧∀k,k≠m→w'.heap[k]?=w.heap[k]?:=by
 obtain⟨q,hq,hh⟩:=hh
 obtain⟨w',h1,h2,h3⟩:=zmH (P:=P) hT hl hold hpre hp hf (hq.imp id And.right) hh
 exact⟨w',h1,⟨q,by simp only[List.length_append]at hq⊢;omega,h2⟩,h3⟩
theorem Q7 {T:Nat}{x y:Operand}{ρ:Operand→Value}{g:Option (Nat×Bool)}{w w':World}(h:(Instr.storeAt T (ρ x) (ρ y)).run P w = .ok () w'):
  (execOp ρ ⟨none,.store T x y,ty,pos,after,g⟩).run P w = .ok .skip w':=by
 simp only[execOp]
 rw[Sem.run_bind,h]
 rfl
theorem zP.skip {o:Oper}{a:Act}{w w':World}{R:Value→World→Prop}(hr:(execOp a.eval o).run P w = .ok .skip w')(hd:o.dst=none)(h:R undef w'):zP P o a w R:=by
 unfold zP Oper.wp;rw[hr];exact⟨undef,by rw[hd],h⟩
theorem ze.store {T T' t:Nat}{x:Operand}{α:Type}[Rep α]{y y0:α}(hT:Ty P T α)(hl:zk B t=some (zC T' y0))(ht:Nat.blt t fs=true)(hx:Opd L True x (rep y)):
  ze P ops fs ⟨none,.store T (.tmp t) x,ty,pos,after,none⟩ L B ([t],[t]) ⟨True,zV⟩ [(t,some (zC T' y))]:=by
 intro M D a w hsz hm hs hsB
 have hw:Region.wanted (⟨none,.store T (.tmp t) x,ty,pos,after,none⟩:Oper) (yielded ops a.tmps)=true:=rfl
 rw[if_pos hw]
 obtain⟨m,old,hvm,hD,hM,hh,hold⟩:=hsB.has t (by simp) _ hl
 obtain⟨cs,hc,hxv⟩:=hx.get hs (fun t ht=>zB (by simp[Op.operands,ht])) trivial
 have hat:a.eval (.tmp t) = .pointer (some ⟨m,0,none⟩):=by
  have hlt:t<a.tmps.size:=by rw[hsz];exact Nat.le_of_ble_eq_true ht
  rw[Act.eval_tmp (v:=Act.val a t) (by unfold Act.val;simp[hlt]),hvm]
 obtain⟨w',h1,h2,h3,h4,h5,h6,h7⟩:=Ja (w:=w) (m:=m) (pre:=[]) (rest:=[]) hT (Rep.len hc) (Rep.len hold) rfl (Rep.plain hc) (Rep.flat hc) (by simpa using hh)
 have hkeep:zx (D t) w w':=⟨h3,h4,h5,by omega,fun k _ hn=>h7 k (fun e=>hn ((hD k).2 e))⟩
 have hkM:zx M w w':=⟨h3,h4,h5,by omega,fun k _ hn=>h7 k (fun e=>hn (e▸hM))⟩
 refine zP.skip (w':=w') (Q7 (by rw[hat,hxv];exact h1)) rfl (.turn hl hkeep (fun k h=>by rw[h6];exact hm k h) ⟨fun _=>trivial,fun hf=>(hf trivial).elim⟩ ?_)
 rw[zae]
 exact⟨m,cs,hvm,hD,hM,by simpa using h2,Rep.law hkM (fun _ h=>.inl h) hc⟩
theorem ze.storeAt {T T' m off g:Nat}{p x:Operand}{α β:Type}[Rep α][Rep β]{y0:α}{z:β}{set:α→β→α}(hT:Ty P T β)(hl:zk B g=some (yG m T' y0))(hp:Opd L True p (isV (ptr m off)))
  (hF:zm α β off set) (hx:Opd L True x (rep z)):
  ze P ops fs ⟨none,.store T p x,ty,pos,after,none⟩ L B ([g],[g]) ⟨True,zV⟩ [(g,some (yG m T' (set y0 z)))]:=by
 intro M D a w hsz hm hs hsB
 have hw:Region.wanted (⟨none,.store T p x,ty,pos,after,none⟩:Oper) (yielded ops a.tmps)=true:=rfl
 rw[if_pos hw]
 obtain⟨m',old,hvm,hD,hM,hh,hold⟩:=hsB.has g (by simp) _ hl
 obtain rfl:m=m':=by simp[ptr]at hvm;exact hvm
 obtain⟨zs,hz,hxv⟩:=hx.get hs (fun t ht=>zB (by simp[Op.operands,ht])) trivial
 have hat:a.eval p=ptr m off:=(ya.1 (hp.get hs (fun t ht=>zB (by simp[Op.operands,ht])) trivial)).1
 have hlo:=Rep.len hold
 have hle:=hF.1
 have hsplit:old=old.take off++(old.drop off).take (Rep.sz β)++old.drop (off+Rep.sz β):=by
  rw[←List.drop_drop,List.append_assoc,List.take_append_drop,List.take_append_drop]
 obtain⟨w',h1,h2,h3,h4,h5,h6,h7⟩:=Ja (w:=w) (m:=m) (off:=off) (cs:=zs) (pre:=old.take off) (mid:=(old.drop off).take (Rep.sz β)) (rest:=old.drop (off+Rep.sz β)) hT (Rep.len hz)
  (by rw[List.length_take,List.length_drop];omega) (by rw[List.length_take];omega) (Rep.plain hz) (Rep.flat hz) (by rw[←hsplit];exact hh)
 have hkeep:zx (D g) w w':=⟨h3,h4,h5,by omega,fun k _ hn=>h7 k (fun e=>hn ((hD k).2 e))⟩
 have hkM:zx M w w':=⟨h3,h4,h5,by omega,fun k _ hn=>h7 k (fun e=>hn (e▸hM))⟩
 refine zP.skip (w':=w') (Q7 (by rw[hat,hxv];exact h1)) rfl (.turn hl hkeep (fun k h=>by rw[h6];exact hm k h) ⟨fun _=>trivial,fun hf=>(hf trivial).elim⟩ ?_)
 exact⟨m,_,rfl,hD,hM,h2,hF.2 M y0 z old zs w' (Rep.law hkM (fun _ h=>.inl h) hold) (Rep.law hkM (fun _ h=>.inl h) hz)⟩
theorem ze.fieldPtr {S f off m o:Nat}{x:Operand}{g:Option (Nat×Bool)}(hg:zU ops g L G)(hF:yn P S f off)(hx:Opd L G x (isV (ptr m o))):
  ze P ops fs ⟨d,.fieldAddr S x f,ty,pos,after,g⟩ L B (xr,[]) ⟨G,isV (ptr m (o+off))⟩ []:=
 .pure hg fun M a w _ hs hG=>by
  have hv:a.eval x=ptr m o:=(ya.1 (hx.get hs (fun t ht=>zB (by simp[Op.operands,ht])) hG)).1
  obtain⟨fds,fd,hu,hf,hoff,hsz0⟩:=hF
  obtain⟨i,hi,hne⟩:=zhI hsz0
  refine⟨.pointer (some ⟨m,o+off,none⟩),?_,zgE⟩
  have hsz:(sizeOf fd.type).run P w = .ok i.size w:=by simp[sizeOf,typeInfo,hi,go_sem]
  have hpl:(fieldPlace ⟨m,o,none⟩ fd).run P w = .ok ⟨m,o+off,none⟩ w:=by
   unfold fieldPlace
   rw[Sem.run_bind,hsz]
   simp only[Result.andThen,hne,if_false,Sem.run_pure,qF,hoff]
  have hun:(underlying S).run P w = .ok (.struct fds) w:=by simp[underlying,hu,go_sem]
  simp only[execOp,hv,ptr,Instr.fieldAt,Instr.sureAddr,Sem.run_bind,hun,hf,Result.andThen,Sem.run_pure,hpl]
theorem ze.loadAt {T T' m off k:Nat}{x:Operand}{α β:Type}[Rep α][Rep β]{proj:α→β}{y:α}{g:Option (Nat×Bool)}(hg:zU ops g L G)(hT:Ty P T β)
  (hl:zk B k=some (yG m T' y)) (hx:Opd L G x (isV (ptr m off))) (hH:zj α β off proj):
  ze P ops fs ⟨d,.load T x,ty,pos,after,g⟩ L B ([k],[]) ⟨G,rep (proj y)⟩ []:=by
 refine .of hg fun M D a w _ hs hsB hG=>?_
 obtain⟨m',cs,hvm,hD,hM,hh,hc⟩:=hsB.has k (by simp) _ hl
 obtain rfl:m=m':=by simp[ptr]at hvm;exact hvm
 have hat:a.eval x=ptr m off:=(ya.1 (hx.get hs (fun t ht=>zB (by simp[Op.operands,ht])) hG)).1
 obtain⟨fcs,hf,hj⟩:=hH.2 M y cs w hc
 refine zP.value (v:=mkv (Rep.agg β) fcs) (w':=w) ?_ ⟨zx.refl _ _,fcs,hf,rfl⟩
 have:=zcM (P:=P) hT hf (b:=m) (off:=off) (fun j hjl=>by rw[cell_of_heap hh,hj j hjl];simp)
 simp only[execOp,hat,ptr,Sem.run_bind,this,Result.andThen,Sem.run_pure]
theorem zj.id {α:Type}[Rep α]:zj α α 0 (fun x=>x):=zj.self
end
section
variable {P:Program} {Q:Exit→Act→World→Prop} {n:Nat} {F:Fr} {L:zq} {B:zo}
theorem vG.rekey {M:zh}{D:Nat→zh}{a:Act}{w:World}{L':zq}{t g:Nat}{C C':zd}(h:vG n F L B M D a w)(hl:zk B t=some C)(hg:zk B g=none)
  (hC:C'.p M (D t) (Act.val a g) w) (hL:∀t' e,zD L' t'=some e→∃v,a.tmps[t']?=some v∧e.holds M v w):
  vG n F L' ((g,some C')::(t,none)::B) M (fun k=>if k=g then D t else D k) a w:=by
 have hgt:g≠t:=fun e=>by subst e;rw[hg]at hl;cases hl
 have cases':∀t' c,zk ((g,some C')::(t,none)::B) t'=some c→(t'=g∧c=C')∨(t'≠g∧t'≠t∧zk B t'=some c):=by
  intro t' c hc
  simp only[zk]at hc
  by_cases h1:g=t'
  ·
   subst h1;simp at hc;exact .inl ⟨rfl,hc.symm⟩
  ·
   rw[yp h1,cond_false]at hc
   by_cases h2:t=t'
   ·
    subst h2;simp at hc
   ·
    rw[yp h2,cond_false]at hc
    exact .inr ⟨Ne.symm h1,Ne.symm h2,hc⟩
 refine⟨h.size,h.defers,h.keeps,h.mf0,h.mlow,h.mhigh,h.msub,hL,fun t' c hc=>?_,fun t' c hc=>?_,fun t1 t2 c1 c2 h1 h2 hne k hk1 hk2=>?_⟩
 ·
  rcases cases' t' c hc with⟨rfl,rfl⟩ | ⟨h1,_,h3⟩
  ·
   simp only[if_true];exact hC
  ·
   simp only[if_neg h1];exact h.hasB t' c h3
 ·
  rcases cases' t' c hc with⟨rfl,rfl⟩ | ⟨h1,_,h3⟩
  ·
   simp only[if_true];exact h.own t _ hl
  ·
   simp only[if_neg h1];exact h.own t' c h3
 ·
  rcases cases' t1 c1 h1 with⟨rfl,rfl⟩ | ⟨a1,a2,a3⟩<;>rcases cases' t2 c2 h2 with⟨rfl,rfl⟩ | ⟨b1,b2,b3⟩
  ·
   exact hne rfl
  ·
   simp only[if_true,if_neg b1]at hk1 hk2
   exact h.apart t t2 _ _ hl b3 (Ne.symm b2) k hk1 hk2
  ·
   simp only[if_true,if_neg a1]at hk1 hk2
   exact h.apart t1 t _ _ a3 hl a2 k hk1 hk2
  ·
   simp only[if_neg a1,if_neg b1]at hk1 hk2
   exact h.apart t1 t2 _ _ a3 b3 hne k hk1 hk2
theorem Cod.nameBox {c:Code}{t g T:Nat}{α:Type}[Rep α]{y:α}(hl:zk B t=some (zC T y))(hg:zk B g=none)
  (k:∀m,Cod P c Q n F ((t,⟨True,isV (ptr m 0)⟩)::L) ((g,some (yG m T y))::(t,none)::B)):Cod P c Q n F L B:=by
 intro a w hs
 obtain⟨M,D,h⟩:=id hs
 obtain⟨m,cs,hvm,hD,hM,hh,hc⟩:=h.hasB t _ hl
 refine k m a w ⟨M,_,h.rekey hl hg ⟨m,cs,rfl,hD,hM,hh,hc⟩ fun t' e he=>?_⟩
 simp only[zD]at he
 by_cases hne:t=t'
 ·
  subst hne
  simp at he;subst he
  have hv:a.tmps[t]?=some (ptr m 0):=by
   unfold Act.val at hvm
   cases hv:a.tmps[t]? with
   | none=>rw[hv]at hvm;simp[undef]at hvm
   | some v=>rw[hv]at hvm;simpa using hvm
  exact⟨_,hv,fun _=>zgE,fun hf=>(hf trivial).elim⟩
 ·
  rw[yp hne,cond_false]at he;exact h.has t' e he
theorem vG.free {M:zh}{D:Nat→zh}{a:Act}{w:World}{L':zq}{B':zo}{t:Nat}{C:zd}(h:vG n F L B M D a w)(hl:zk B t=some C)(hB:zi B B')(hn:yj B' t=false)
  (hL:∀t' e,zD L' t'=some e→∃v,a.tmps[t']?=some v∧e.holds (fun k=>M k∧¬D t k) v w):vG n F L' B' (fun k=>M k∧¬D t k) D a w:=by
 have hlow:∀k,(M k∧¬D t k)→M k∨w.heap.size≤k:=fun k h=>.inl h.1
 refine⟨h.size,h.defers,h.keeps,h.mf0,fun k hk=>?_,fun k hk=>h.mhigh k hk.1,h.msub.less (fun k hk=>hk.1),hL,fun t' c' hc'=>?_,fun t' c' hc'=>h.own t' c' (hB t' c' hc'),
  fun t1 t2 c1 c2 h1 h2=>h.apart t1 t2 c1 c2 (hB t1 c1 h1) (hB t2 c2 h2)⟩
 ·
  rcases h.mlow k hk with h1 | h1
  ·
   by_cases h2:D t k
   ·
    rcases h.own t _ hl k h2 with h3 | h3
    ·
     exact .inr h3
    ·
     have:=h.mf0 k hk;omega
   ·
    exact .inl ⟨h1,h2⟩
  ·
   exact .inr h1
 ·
  have hne:t'≠t:=fun e=>by subst e;rw[zk4 hn]at hc';cases hc'
  have h2:=h.hasB t' c' (hB t' c' hc')
  exact c'.law M _ _ _ w w (zx.refl M w) hlow (fun m' hm'=>⟨⟨c'.inM _ _ _ _ h2 m' hm',fun hd=>h.apart t' t c' _ (hB t' c' hc') hl hne m' hm' hd⟩,rfl⟩) h2
theorem zi2 {M:zh}{D:zh}{v:Value}{w:World}{T:TypeId}{α:Type}[Rep α]{y:α}(h:(zC T y).p M D v w)(hms:∀k,M k→k<w.heap.size):(ref y).p (fun k=>M k∧¬D k) v w:=by
 obtain⟨m,cs,hvm,hD,hM,hh,hc⟩:=h
 exact⟨m,0,cs,hvm,fun hf=>hf.2 ((hD m).2 rfl),hms m hM,Rep.law (zx.refl M w) (fun k h=>.inl h.1) hc,fun j _=>by rw[cell_of_heap hh];simp⟩
theorem Cod.freeze {c:Code}{t T:Nat}{α:Type}[Rep α]{y:α}{B':zo}(hl:zk B t=some (zC T y))(ht:Nat.blt t n=true)(hB:zi B B')(hn:yj B' t=false)
  (k:Cod P c Q n F ((t,⟨True,ref y⟩)::L) B'):Cod P c Q n F L B:=by
 intro a w hs
 obtain⟨M,D,h⟩:=id hs
 have hC:=h.hasB t _ hl
 refine k a w ⟨_,D,h.free hl hB hn fun t' e he=>?_⟩
 have hlow:∀k,(M k∧¬D t k)→M k∨w.heap.size≤k:=fun k h=>.inl h.1
 simp only[zD]at he
 by_cases hne:t=t'
 ·
  subst hne
  simp at he;subst he
  have hlt:t<a.tmps.size:=by rw[h.size];exact Nat.le_of_ble_eq_true ht
  exact⟨Act.val a t,by unfold Act.val;simp[hlt],fun _=>zi2 hC h.msub,fun hf=>(hf trivial).elim⟩
 ·
  rw[yp hne,cond_false]at he
  obtain⟨v',h1,h2⟩:=h.has t' e he
  exact⟨v',h1,Ent.holds_law (zx.refl M w) hlow h2⟩
def QV (L:zq)(s:Value)(ts:List Nat):Prop:=∀t∈ts,∃c,c∧zD L t=some ⟨c,isV s⟩
theorem QV.nil {s:Value}:QV L s []:=fun _ h=>by cases h
theorem QV.cons {s:Value}{t:Nat}{ts:List Nat}{c:Prop}(h:zD L t=some ⟨c,isV s⟩)(hc:c)(h2:QV L s ts):QV L s (t::ts):=fun t' h'=>by
 rcases List.mem_cons.1 h' with rfl | h'
 ·
  exact⟨c,hc,h⟩
 ·
  exact h2 t' h'
def JG (S:zF):List Nat→zq→zq
 | [],L=>L
 | t::ts,L=>(t,⟨True,S⟩)::JG S ts L
theorem zk5 {S:zF}{t:Nat}{e:Ent}:∀{ts:List Nat},zD (JG S ts L) t=some e→(t∈ts∧e=⟨True,S⟩)∨zD L t=some e
 | [],h=>.inr h
 | t'::ts,h=>by
  simp only[JG,zD]at h
  by_cases he:t'=t
  ·
   subst he;simp at h;exact .inl ⟨by simp,h.symm⟩
  ·
   rw[yp he,cond_false]at h
   rcases zk5 h with⟨h1,h2⟩ | h1
   ·
    exact .inl ⟨List.mem_cons_of_mem _ h1,h2⟩
   ·
    exact .inr h1
theorem Cod.freezeAt {c:Code}{g:Nat}{s:Value}{C:zd}{S:zF}{ts:List Nat}{B':zo}(hl:zk B g=some (zd.at s C))(hts:QV L s ts)(hB:zi B B')(hn:yj B' g=false)
  (hS:∀(M D:zh) (w:World),C.p M D s w→(∀k,M k→k<w.heap.size)→S.p (fun k=>M k∧¬D k) s w) (k:Cod P c Q n F (JG S ts L) B'):Cod P c Q n F L B:=by
 intro a w hs
 obtain⟨M,D,h⟩:=id hs
 have hC:C.p M (D g) s w:=h.hasB g _ hl
 refine k a w ⟨_,D,h.free hl hB hn fun t' e he=>?_⟩
 have hlow:∀k,(M k∧¬D g k)→M k∨w.heap.size≤k:=fun k h=>.inl h.1
 rcases zk5 he with⟨h1,rfl⟩ | h1
 ·
  obtain⟨c,hc,hl'⟩:=hts t' h1
  obtain⟨v,hv,he'⟩:=h.has t' _ hl'
  obtain⟨rfl,_⟩:=ya.1 (he'.1 hc)
  exact⟨v,hv,fun _=>hS M (D g) w hC h.msub,fun hf=>(hf trivial).elim⟩
 ·
  obtain⟨v',h1,h2⟩:=h.has t' e h1
  exact⟨v',h1,Ent.holds_law (zx.refl M w) hlow h2⟩
end
end Go.DB
namespace Go.DB
open Go Go.RowKit
def ju (tmps:Array Value):ResultVar→Sem Value
 | .tmp t=>pure (tmps.getD t undef)
 | .cell a t=>do loadVar t (←asAddr (tmps.getD a undef))
theorem zmn {P:Program}{fn:Func}{r:ResultVar}{tmps:Array Value}{w:World}{v:Value}(h:fn.results=#[r])(h1:(ju tmps r).run P w = .ok v w):
  (results fn tmps).run P w = .ok v w:=by
 have:results fn tmps=(do let vs←(#[r]:Array ResultVar).mapM (ju tmps);pure (if h:vs.size=1 then vs[0]else .tuple vs)):=by
  unfold results;rw[h];rfl
 rw[this]
 simp[go_sem,h1]
theorem ztA {P:Program}{fn:Func}{r1 r2:ResultVar}{tmps:Array Value}{w:World}{v1 v2:Value}(h:fn.results=#[r1,r2])(h1:(ju tmps r1).run P w = .ok v1 w)
  (h2:(ju tmps r2).run P w = .ok v2 w):(results fn tmps).run P w = .ok (.tuple #[v1,v2]) w:=by
 have:results fn tmps=(do let vs←(#[r1,r2]:Array ResultVar).mapM (ju tmps);pure (if h:vs.size=1 then vs[0]else .tuple vs)):=by
  unfold results;rw[h];rfl
 rw[this]
 simp[go_sem,h1,h2]
def Imp (S S':zF):Prop:=∀M v w,S.p M v w→S'.p M v w
theorem Imp.refl {S:zF}:Imp S S:=fun _ _ _ h=>h
def zt (P:Program)(L:zq)(B:zo)(r:ResultVar)(S:zF):Prop:=
 match r with
 | .tmp t=>∃c S',zD L t=some ⟨c,S'⟩∧c∧Imp S' S
 | .cell t T=>∃(α:Type) (_:Rep α) (y:α),Ty P T α∧Imp (rep y) S∧((∃c,zD L t=some ⟨c,ref y⟩∧c)∨∃c m g T',zD L t=some ⟨c,isV (ptr m 0)⟩∧c∧zk B g=some (yG m T' y))
theorem zt.tmp {P:Program}{L:zq}{B:zo}{t:Nat}{S S':zF}{c:Prop}(h:zD L t=some ⟨c,S'⟩)(hc:c)(hi:Imp S' S):zt P L B (.tmp t) S:=⟨c,S',h,hc,hi⟩
theorem zt.cellR {P:Program}{L:zq}{B:zo}{t T:Nat}{S:zF}{c:Prop}{α:Type}[Rep α]{y:α}(hT:Ty P T α)(h:zD L t=some ⟨c,ref y⟩)(hc:c)(hi:Imp (rep y) S):zt P L B (.cell t T) S:=
 ⟨α,_,y,hT,hi,.inl ⟨c,h,hc⟩⟩
inductive jM (B:zo) (rs:Array ResultVar):List Value→List Nat→List (Option zd)→Prop
 | nil {an}:jM B rs an [] []
 | skip {s an k ks outs}:jM B rs an ks outs→jM B rs (s::an) (k::ks) (none::outs)
 | held {s an k ks outs c}:zk B k=some (zd.at s c)→jM B rs an ks outs→jM B rs (s::an) (k::ks) (some c::outs)
 | res {k c}:rs=#[.tmp k]→zk B k=some c→jM B rs [] [k] [some c]
section
variable {P:Program} {fn:Func} {n:Nat} {F:Fr} {L:zq} {B:zo}
theorem zt.get {r:ResultVar}{S:zF}(h:zt P L B r S){M:zh}{D:Nat→zh}{a:Act}{w:World}(hs:vG n F L B M D a w):
  ∃v,(ju a.tmps r).run P w = .ok v w∧S.p M v w∧∀t,r = .tmp t→v=Act.val a t:=by
 cases r with
 | tmp t=>
  obtain⟨c,S',hl,hc,hi⟩:=h
  obtain⟨v,hv,he⟩:=hs.has t _ hl
  exact⟨v,by simp[ju,hv,go_sem],hi _ _ _ (he.1 hc),fun t' ht=>by cases ht;unfold Act.val;rw[hv];rfl⟩
 | cell t T=>
  obtain⟨α,_,y,hT,hi,hwhere⟩:=h
  have key:∀b off cs,a.tmps[t]?=some (.pointer (some ⟨b,off,none⟩))→Rep.cells M y cs w→(∀j,j<Rep.sz α→w.cell? ⟨b,off+j,none⟩=cs[j]?)→
    ∃v,(ju a.tmps (.cell t T)).run P w = .ok v w∧S.p M v w∧∀t',(ResultVar.cell t T) = .tmp t'→v=Act.val a t':=by
   intro b off cs hv hc hr
   refine⟨mkv (Rep.agg α) cs,?_,hi _ _ _ ⟨cs,hc,rfl⟩,fun t' ht=>by cases ht⟩
   have h1:=zcM (P:=P) hT hc hr
   simp only[Instr.loadAt,Instr.sureAddr]at h1
   rw[Sem.run_bind]at h1
   simp only[Sem.run_pure,Result.andThen]at h1
   simp only[ju,Array.getD_eq_getD_getElem?,hv,Option.getD_some,asAddr]
   rw[Sem.run_bind]
   simp only[Sem.run_pure,Result.andThen]
   exact h1
  rcases hwhere with⟨c,hl,hc⟩ | ⟨c,m,g,T',hl,hc,hB⟩
  ·
   obtain⟨v,hv,he⟩:=hs.has t _ hl
   obtain⟨b,off,cs,hvp,_,_,hcs,hr⟩:=he.1 hc
   exact key b off cs (by rw[hv,hvp]) hcs hr
  ·
   obtain⟨v,hv,he⟩:=hs.has t _ hl
   obtain⟨rfl,_⟩:=ya.1 (he.1 hc)
   obtain⟨m',cs,hvm,hD,hM,hh,hcs⟩:=hs.hasB g _ hB
   obtain rfl:m=m':=by simp[ptr]at hvm;exact hvm
   exact key m 0 cs hv hcs (fun j _=>by rw[cell_of_heap hh];simp)
theorem jM.at:∀{an:List Value} {ks:List Nat} {outs:List (Option zd)} {rs:Array ResultVar},jM B rs an ks outs→∀(i:Nat) (c:zd),outs[i]?=some (some c)→
  ∃k,ks[i]?=some k∧((∃s,an[i]?=some s∧zk B k=some (zd.at s c))∨(i=an.length∧rs=#[.tmp k]∧zk B k=some c))
 | _,_,_,_,.nil,i,c,h=>by simp at h
 | _,_,_,_,.skip (s:=s) (an:=an) (k:=k) h0,0,c,h=>by simp at h
 | _,_,_,_,.skip (s:=s) (an:=an) (k:=k) h0,i+1,c,h=>by
  obtain⟨k',h1,h2⟩:=jM.at h0 i c (by simpa using h)
  refine⟨k',by simpa using h1,?_⟩
  rcases h2 with⟨s',h3,h4⟩ | ⟨h3,h4,h5⟩
  ·
   exact .inl ⟨s',by simpa using h3,h4⟩
  ·
   exact .inr ⟨by simp[h3],h4,h5⟩
 | _,_,_,_,.held (s:=s) (an:=an) (k:=k) h1 h0,0,c,h=>by
  simp at h;subst h
  exact⟨k,rfl,.inl ⟨s,rfl,h1⟩⟩
 | _,_,_,_,.held (s:=s) (an:=an) (k:=k) hk h0,i+1,c,h=>by
  obtain⟨k',h1,h2⟩:=jM.at h0 i c (by simpa using h)
  refine⟨k',by simpa using h1,?_⟩
  rcases h2 with⟨s',h3,h4⟩ | ⟨h3,h4,h5⟩
  ·
   exact .inl ⟨s',by simpa using h3,h4⟩
  ·
   exact .inr ⟨by simp[h3],h4,h5⟩
 | _,_,_,_,.res (k:=k) h1 h2,0,c,h=>by
  simp at h;subst h
  exact⟨k,rfl,.inr ⟨rfl,h1,h2⟩⟩
 | _,_,_,_,.res h1 h2,i+1,c,h=>by simp at h
theorem zgV {α:Type}{l:List α}{i j:Nat}{x:α}(h:l.Nodup)(hi:l[i]?=some x)(hj:l[j]?=some x):i=j:=by
 obtain⟨a1,a2⟩:=List.getElem?_eq_some_iff.1 hi
 obtain⟨b1,b2⟩:=List.getElem?_eq_some_iff.1 hj
 have hp:=List.pairwise_iff_getElem.1 h
 rcases Nat.lt_trichotomy i j with h1 | h1 | h1
 ·
  exact absurd (a2.trans b2.symm) (hp i j a1 b1 h1)
 ·
  exact h1
 ·
  exact absurd (b2.trans a2.symm) (hp j i b1 a1 h1)
theorem vE.mk {a:Act}{w:World}{M:zh}{D:Nat→zh}{S:zF}{v:Value}{an:List Value}{ks:List Nat}{outs:List (Option zd)}{rs:Array ResultVar}
  (hs:vG n F L B M D a w) (hv:S.p M v w) (ho:jM B rs an ks outs) (hnd:ks.Nodup) (hr:∀k,rs=#[.tmp k]→v=Act.val a k):ji F S an outs (.returned v) w:=by
 refine⟨v,M,fun i=>D ((ks[i]?).getD 0),rfl,hs.keeps,hs.mlow,hs.mhigh,hs.msub,hv,fun i c hc=>?_,fun i j c c' hi hj hne k hk1 hk2=>?_⟩
 ·
  obtain⟨k,hk,h⟩:=ho.at i c hc
  simp only[hk,Option.getD_some]
  rcases h with⟨s,hs1,hl⟩ | ⟨rfl,hrs,hl⟩
  ·
   have hlt:i<an.length:=(List.getElem?_eq_some_iff.1 hs1).1
   rw[List.getElem?_append_left hlt,hs1,Option.getD_some]
   exact⟨hs.hasB k _ hl,hs.own k _ hl⟩
  ·
   simp only[List.getElem?_concat_length,Option.getD_some]
   rw[hr k hrs]
   exact⟨hs.hasB k _ hl,hs.own k _ hl⟩
 ·
  obtain⟨k1,hk1',h1⟩:=ho.at i c hi
  obtain⟨k2,hk2',h2⟩:=ho.at j c' hj
  simp only[hk1',hk2',Option.getD_some]at hk1 hk2
  have hne':k1≠k2:=by
   intro e
   subst e
   obtain⟨a1,a2⟩:=List.getElem?_eq_some_iff.1 hk1'
   obtain⟨b1,b2⟩:=List.getElem?_eq_some_iff.1 hk2'
   exact hne (zgV hnd hk1' hk2')
  have l1:∃c1,zk B k1=some c1:=by rcases h1 with⟨s,_,h⟩ | ⟨_,_,h⟩<;>exact⟨_,h⟩
  have l2:∃c1,zk B k2=some c1:=by rcases h2 with⟨s,_,h⟩ | ⟨_,_,h⟩<;>exact⟨_,h⟩
  obtain⟨c1,l1⟩:=l1
  obtain⟨c2,l2⟩:=l2
  exact hs.apart k1 k2 c1 c2 l1 l2 hne' k hk1 hk2
theorem zb.ret1O {e:Exit}(he:e = .ret∨e = .normal){r:ResultVar}{S:zF}{an:List Value}{outs:List (Option zd)}(ks:List Nat)(hr:fn.results=#[r])(hnd:ks.Nodup)(ho:jM B #[r] an ks outs)(h:zt P L B r S):
  zb (bodyPost P fn (ji F S an outs)) e n F L B:=by
 rintro a w ⟨M,D,hs⟩
 obtain⟨v,h1,h2,h3⟩:=h.get hs
 have:a.defers=[]∧∃v,(results fn a.tmps).run P w = .ok v w∧ji F S an outs (.returned v) w:=⟨hs.defers,v,zmn hr h1,vE.mk hs h2 ho hnd (fun k hk=>h3 k (by simpa using hk))⟩
 rcases he with rfl | rfl<;>exact this
theorem zb.ret0O {e:Exit}(he:e = .ret∨e = .normal){an:List Value}{outs:List (Option zd)}(ks:List Nat)(hr:fn.results=#[])(hnd:ks.Nodup)(ho:jM B #[] an ks outs):
  zb (bodyPost P fn (ji F zV an outs)) e n F L B:=by
 rintro a w ⟨M,D,hs⟩
 have h1:(results fn a.tmps).run P w = .ok (.tuple #[]) w:=by
  have:results fn a.tmps=(do let vs←(#[]:Array ResultVar).mapM (ju a.tmps);pure (if h:vs.size=1 then vs[0]else .tuple vs)):=by
   unfold results;rw[hr];rfl
  rw[this]
  simp[go_sem]
 have:a.defers=[]∧∃v,(results fn a.tmps).run P w = .ok v w∧ji F zV an outs (.returned v) w:=⟨hs.defers,_,h1,vE.mk hs trivial ho hnd (fun k hk=>by simp at hk)⟩
 rcases he with rfl | rfl<;>exact this
theorem zb.ret2O {e:Exit}(he:e = .ret∨e = .normal){r1 r2:ResultVar}{S1 S2:zF}{an:List Value}{outs:List (Option zd)}(ks:List Nat)(hr:fn.results=#[r1,r2])(hnd:ks.Nodup)(ho:jM B #[r1,r2] an ks outs)(h1:zt P L B r1 S1)(h2:zt P L B r2 S2):
  zb (bodyPost P fn (ji F (tup [S1,S2]) an outs)) e n F L B:=by
 rintro a w ⟨M,D,hs⟩
 obtain⟨v1,h1,h1',_⟩:=h1.get hs
 obtain⟨v2,h2,h2',_⟩:=h2.get hs
 have:a.defers=[]∧∃v,(results fn a.tmps).run P w = .ok v w∧ji F (tup [S1,S2]) an outs (.returned v) w:=⟨hs.defers,_,ztA hr h1 h2,vE.mk hs ⟨[v1,v2],rfl,rfl,fun i S u hi hu=>by
  match i with
  | 0=>simp at hi hu;subst hi hu;exact h1'
  | 1=>simp at hi hu;subst hi hu;exact h2'
  | i+2=>simp at hi⟩ ho hnd (fun k hk=>by simp at hk)⟩
 rcases he with rfl | rfl<;>exact this
theorem zb.ret1 {e:Exit}(he:e = .ret∨e = .normal){r:ResultVar}{S:zF}(hr:fn.results=#[r])(h:zt P L B r S):zb (bodyPost P fn (vE F S)) e n F L B:=zb.ret1O he [] hr .nil .nil h
theorem zb.ret2 {e:Exit}(he:e = .ret∨e = .normal){r1 r2:ResultVar}{S1 S2:zF}(hr:fn.results=#[r1,r2])(h1:zt P L B r1 S1)(h2:zt P L B r2 S2):
  zb (bodyPost P fn (vE F (tup [S1,S2]))) e n F L B:=zb.ret2O he [] hr .nil .nil h1 h2
end
theorem zkb (off:Nat):∀(vs z p q:List Value) (k:Nat),z.length=vs.length→p.length=off+k→
  ((vs.zipIdx k).foldl (fun(cs:Array Value) (x:Value×Nat)=>cs.setIfInBounds (off+x.2) x.1) (p++z++q).toArray)=(p++vs++q).toArray
 | [],z,p,q,k,hz,_=>by
  have:z=[]:=List.length_eq_zero_iff.1 hz
  subst this;rfl
 | v::vs,z,p,q,k,hz,hp=>by
  match z,hz with
  | x::z,hz=>
   have h1:(p++x::z++q).toArray.setIfInBounds (off+k) v=((p++[v])++z++q).toArray:=by
    rw[List.setIfInBounds_toArray,←hp]
    simp
   simp only[List.zipIdx_cons,List.foldl_cons]
   rw[h1,zkb off vs z (p++[v]) q (k+1) (by simpa using hz) (by simp[hp];omega)]
   simp
theorem zqF {place:Nat→Option (Nat×Nat)}{i size:Nat}{v:Value}{cs z p q:List Value}{rest:List (Nat×Value)}(hpl:place i=some (p.length,size))(hv:v.cells=cs.toArray)
  (hc:cs.length=size) (hz:z.length=size):Instr.fill place (p++z++q).toArray ((i,v)::rest)=Instr.fill place (p++cs++q).toArray rest:=by
 rw[Instr.fill,hpl]
 simp only[hv]
 rw[if_neg (by simp[hc];omega)]
 congr 1
 have:=zkb p.length cs z p q 0 (by omega) (by simp)
 rw[←this,←Array.foldl_toList,Array.toList_zipIdx]
def zM {α:Type}[Rep α](M:zh)(w:World):List α→List Value→Prop
 | [],cs=>cs=[]
 | x::xs,cs=>∃c r,cs=c++r∧Rep.cells M x c w∧zM M w xs r
theorem zM.len {α:Type}[Rep α]{M:zh}{w:World}:∀(xs:List α) (cs:List Value),zM M w xs cs→cs.length=xs.length*Rep.sz α
 | [],_,h=>by rw[h];simp
 | x::xs,_,⟨c,r,h,h1,h2⟩=>by rw[h,List.length_append,Rep.len h1,zM.len xs r h2,List.length_cons,Nat.add_mul,Nat.one_mul];omega
theorem zM.at {α:Type}[Rep α]{M:zh}{w:World}:∀(xs:List α) (cs:List Value) (i:Nat) (h:i<xs.length),zM M w xs cs→
  ∃c,Rep.cells M xs[i] c w∧∀j,j<Rep.sz α→cs[i*Rep.sz α+j]?=c[j]?
 | _::xs,_,0,h,⟨c,r,hc,h1,h2⟩=>⟨c,h1,fun j hj=>by rw[hc,Nat.zero_mul,Nat.zero_add,List.getElem?_append_left (by rw[Rep.len h1];exact hj)]⟩
 | _::xs,_,i+1,h,⟨c,r,hc,h1,h2⟩=>by
  obtain⟨c',h3,h4⟩:=zM.at xs r i (by simpa using h) h2
  refine⟨c',h3,fun j hj=>?_⟩
  rw[←h4 j hj,hc,List.getElem?_append_right (by rw[Rep.len h1,Nat.add_mul];omega),Rep.len h1]
  congr 1
  rw[Nat.add_mul];omega
theorem zM.law {α:Type}[Rep α]{M M':zh}{w w':World}(hk:zx M w w')(hm:∀k,M' k→M k∨w.heap.size≤k):∀(xs:List α) (cs:List Value),zM M w xs cs→zM M' w' xs cs
 | [],_,h=>h
 | _::xs,_,⟨c,r,h,h1,h2⟩=>⟨c,r,h,Rep.law hk hm h1,zM.law hk hm xs r h2⟩
theorem zjY {α:Type}[Rep α]{M:zh}{w:World}:∀(xs:List α) (vs:List Value) (k:Nat) (p z:List Value),qK M w (xs.map rep) vs→p.length=k*Rep.sz α→z.length=xs.length*Rep.sz α→
  ∃cs,Instr.fill (fun i=>some (i*Rep.sz α,Rep.sz α)) (p++z).toArray ((List.range' k xs.length).zip vs)=some (p++cs).toArray∧zM M w xs cs
 | [],[],k,p,z,_,_,hz=>by
  have:z=[]:=List.length_eq_zero_iff.1 (by simpa using hz)
  subst this
  exact⟨[],rfl,rfl⟩
 | [],_::_,_,_,_,h,_,_=>h.elim
 | _::_,[],_,_,_,h,_,_=>h.elim
 | x::xs,v::vs,k,p,z,h,hp,hz=>by
  obtain⟨⟨c,hc,hv⟩,hrest⟩:=h
  have hfl:v.cells=c.toArray:=by rw[hv];exact Rep.flat hc
  have hlen:=Rep.len hc
  have hz':z.length=Rep.sz α+xs.length*Rep.sz α:=by rw[hz,List.length_cons,Nat.add_mul,Nat.one_mul];omega
  obtain⟨cs,h1,h2⟩:=zjY xs vs (k+1) (p++c) (z.drop (Rep.sz α)) hrest (by rw[List.length_append,hp,hlen,Nat.add_mul,Nat.one_mul]) (by rw[List.length_drop,hz'];omega)
  refine⟨c++cs,?_,c,cs,rfl,hc,h2⟩
  rw[List.length_cons,List.range'_succ,List.zip_cons_cons]
  have hsplit:p++z=p++z.take (Rep.sz α)++z.drop (Rep.sz α):=by rw[List.append_assoc,List.take_append_drop]
  rw[hsplit,zqF (size:=Rep.sz α) (by rw[hp]) hfl hlen (by rw[List.length_take,hz'];omega),h1,List.append_assoc]
section
variable {P:Program} {ops:Array Oper} {fs:Nat} {L:zq} {B:zo} {G:Prop}
variable {d:Option Tmp} {ty:TypeId} {pos:String} {after:Array Edge} {g:Option (Nat×Bool)} {xr:List Nat}
def yY (P:Program)(E:Nat):Prop:=((P.info? E).bind (·.zero)).isSome=true
theorem zjN {ρ:Operand→Value}{T E n:Nat}{α:Type}[Rep α]{parts:Array (Nat×Operand)}{M:zh}{xs:List α}{w:World}(hT:yK P T E)(hE:Ty P E α)(hz:yY P E)
  (hn:xs.length=n) (hsmall:n*Rep.sz α≤16777216) (hidx:parts.toList.map (·.1)=List.range' 0 n) (ha:qK M w (xs.map rep) (parts.toList.map (fun p=>ρ p.2))):
  ∃cs,(execOp ρ ⟨d,.buildSlice T n parts,ty,pos,after,g⟩).run P w = .ok (.value (.slice (some ⟨w.heap.size,0,none⟩) n n)) (w.alloc (.cells cs.toArray E))∧zM M w xs cs:=by
 obtain⟨i,hi,hsize⟩:=Option.map_eq_some_iff.1 hE.size
 obtain⟨z,hz⟩:=Option.isSome_iff_exists.1 hz
 obtain⟨i',hi',hz⟩:=Option.bind_eq_some_iff.1 hz
 obtain rfl:i=i':=by rw[hi]at hi';simpa using hi'
 have hs:(sizeOf E).run P w = .ok (Rep.sz α) w:=by simp[sizeOf,typeInfo,hi,hsize,go_sem]
 have hzv:(zeroValue E).run P w = .ok z w:=by simp[zeroValue,typeInfo,hi,hz,go_sem]
 have hun:(underlying T).run P w = .ok (.slice E) w:=by simp[underlying,show P.underlying T=_ from hT,go_sem]
 have hparts:(parts.map fun(i,x)=>(i,ρ x)).toList=(List.range' 0 xs.length).zip (parts.toList.map (fun p=>ρ p.2)):=by
  rw[hn,←hidx,Array.toList_map,List.zip_map']
 have tailRun:∀zs:Array Value,∃cs,Instr.fill (fun i=>some (i*Rep.sz α,Rep.sz α)) ((Array.range (n*Rep.sz α)).map (fun k=>zs[k % zs.size]!)) (parts.map fun(i,x)=>(i,ρ x)).toList=some cs.toArray∧zM M w xs cs:=by
  intro zs
  obtain⟨cs,h1,h2⟩:=zjY xs _ 0 [] ((List.range (n*Rep.sz α)).map (fun k=>zs[k % zs.size]!)) ha (by simp) (by simp[hn])
  refine⟨cs,?_,h2⟩
  rw[hparts]
  rw[List.nil_append,List.nil_append]at h1
  rw[←h1,←List.map_toArray,List.toArray_range]
 by_cases h0:n*Rep.sz α=0
 ·
  obtain⟨cs,h1,h2⟩:=tailRun #[]
  refine⟨cs,?_,h2⟩
  simp only[execOp,Instr.buildSlice]
  rw[Sem.run_bind,Sem.run_bind,hun]
  simp only[Result.andThen]
  rw[Sem.run_bind,hs]
  simp only[Result.andThen]
  rw[if_neg (by omega),if_pos h0,Sem.run_bind]
  simp only[Sem.run_pure,Result.andThen]
  rw[h1]
  rfl
 ·
  obtain⟨cs,h1,h2⟩:=tailRun z.cells
  refine⟨cs,?_,h2⟩
  simp only[execOp,Instr.buildSlice]
  rw[Sem.run_bind,Sem.run_bind,hun]
  simp only[Result.andThen]
  rw[Sem.run_bind,hs]
  simp only[Result.andThen]
  rw[if_neg (by omega),if_neg h0,Sem.run_bind,hzv]
  simp only[Result.andThen]
  rw[Sem.run_bind]
  simp only[Sem.run_pure,Result.andThen]
  rw[h1]
  rfl
theorem ze.buildSlice {T E n:Nat}{α:Type}[Rep α]{parts:Array (Nat×Operand)}{xs:List α}(hg:zU ops g L G)(hT:yK P T E)(hE:Ty P E α)(hz:yY P E)
  (hx:jL L G (parts.toList.map (·.2)) (xs.map rep)) (hidx:parts.toList.map (·.1)=List.range' 0 n) (hsmall:n*Rep.sz α≤16777216):
  ze P ops fs ⟨d,.buildSlice T n parts,ty,pos,after,g⟩ L B (xr,[]) ⟨G,rep xs⟩ []:=
 .of hg fun M D a w hm hs _ hG=>by
  have ha:=hx.get hs (fun x hxm t ht=>zB (by
   subst ht
   obtain⟨p,hp,he⟩:=List.mem_map.1 hxm
   simp only[Op.operands]
   rw[List.mem_toArray]
   exact List.mem_map.2 ⟨p,hp,he⟩)) hG
  rw[List.map_map]at ha
  have hn:xs.length=n:=by
   have h1:=ha.length
   have h2:=congrArg List.length hidx
   simp only[List.length_map,List.length_range']at h1 h2
   omega
  obtain⟨cs,hrun,hel⟩:=zjN (P:=P) (d:=d) (ty:=ty) (pos:=pos) (after:=after) (g:=g) hT hE hz hn hsmall hidx ha
  refine zP.value hrun ⟨Ext.alloc _ _,Yq.2 ⟨_,n,by rw[hn],by omega,?_,?_⟩⟩
  ·
   have:Rep.sz α≠0:=Nat.ne_of_gt (Rep.pos (α:=α))
   have:n*1≤n*Rep.sz α:=Nat.mul_le_mul_left n (by omega)
   omega
  ·
   intro i hi
   obtain⟨c,hc,hj⟩:=hel.at xs cs i hi
   refine⟨rfl,fun h=>absurd (hm _ h) (by simp),by rw[jw];simp,c,Rep.law (Ext.alloc _ _).keeps (fun _ h=>.inl h) hc,fun j hjl=>?_⟩
   rw[show(0:Nat)+i*Rep.sz α+j=i*Rep.sz α+j by omega,ziS,List.getElem?_toArray,hj j hjl]
def jI (P:Program)(T:Nat)(zero:List Value)(places:List (Nat×Nat)):Prop:=
 (P.info? T).bind (·.zero)=some (.agg zero.toArray)∧∃fields,P.underlying T=some (.struct fields)∧
  fields.toList.map (fun f=>(f.offset,(P.info? f.type).map (·.size)))=places.map (fun p=>(p.1,some p.2))
theorem zmG {w:World}:∀(l:List Field) (places:List (Nat×Nat)),l.map (fun f=>(f.offset,(P.info? f.type).map (·.size)))=places.map (fun p=>(p.1,some p.2))→
  (l.mapM (m:=Sem) fun f=>do Pure.pure (f.offset,←sizeOf f.type)).run P w = .ok places w
 | [],[],_=>rfl
 | [],_::_,h=>by cases h
 | _::_,[],h=>by cases h
 | f::l,p::places,h=>by
  simp only[List.map_cons,List.cons.injEq,Prod.mk.injEq]at h
  obtain⟨⟨h1,h2⟩,h3⟩:=h
  obtain⟨i,hi,hs⟩:=Option.map_eq_some_iff.1 h2
  have hsz:(sizeOf f.type).run P w = .ok p.2 w:=by simp[sizeOf,typeInfo,hi,hs,go_sem]
  rw[List.mapM_cons,Sem.run_bind,Sem.run_bind,hsz]
  simp only[Result.andThen,Sem.run_pure]
  rw[Sem.run_bind,zmG l places h3]
  simp only[Result.andThen,Sem.run_pure,h1]
theorem zjM {ρ:Operand→Value}{T:Nat}{parts:Array (Nat×Operand)}{zero cs:List Value}{places:List (Nat×Nat)}{w:World}(hb:jI P T zero places)
  (hf:Instr.fill (places.toArray[·]?) zero.toArray (parts.toList.map (fun p=>(p.1,ρ p.2)))=some cs.toArray):
  (execOp ρ ⟨d,.build T parts,ty,pos,after,g⟩).run P w = .ok (.value (.agg cs.toArray)) w:=by
 obtain⟨hz0,fields,hu,hpl0⟩:=hb
 obtain⟨i,hi,hzv⟩:=Option.bind_eq_some_iff.1 hz0
 have hz:(zeroValue T).run P w = .ok (.agg zero.toArray) w:=by simp[zeroValue,typeInfo,hi,hzv,go_sem]
 have hpl:(fields.mapM (m:=Sem) fun f=>do Pure.pure (f.offset,←sizeOf f.type)).run P w = .ok places.toArray w:=by
  rw[Array.mapM_eq_mapM_toList,←bind_pure_comp,Sem.run_bind,zmG _ _ hpl0]
  rfl
 have hun:(underlying T).run P w = .ok (.struct fields) w:=by simp[underlying,hu,go_sem]
 have hparts:(parts.map fun(i,x)=>(i,ρ x)).toList=parts.toList.map (fun p=>(p.1,ρ p.2)):=by rw[Array.toList_map]
 simp only[execOp,Instr.build]
 rw[Sem.run_bind,Sem.run_bind,hz]
 simp only[Result.andThen]
 rw[Sem.run_bind,hun]
 simp only[Result.andThen]
 rw[Sem.run_bind,hpl]
 simp only[Result.andThen]
 rw[hparts,show(Value.agg zero.toArray).cells=zero.toArray from rfl,hf]
 rfl
theorem ze.build {T:Nat}{α:Type}[Rep α]{parts:Array (Nat×Operand)}{y:α}{zero:List Value}{places:List (Nat×Nat)}{Ss:List zF}(hg:zU ops g L G)(hb:jI P T zero places)
  (hx:jL L G (parts.toList.map (·.2)) Ss) (hagg:Rep.agg α=true)
  (hf:∀M w vs,qK M w Ss vs→∃cs,Instr.fill (places.toArray[·]?) zero.toArray ((parts.toList.map (·.1)).zip vs)=some cs.toArray∧Rep.cells M y cs w):
  ze P ops fs ⟨d,.build T parts,ty,pos,after,g⟩ L B (xr,[]) ⟨G,rep y⟩ []:=
 .pure hg fun M a w _ hs hG=>by
  have ha:=hx.get hs (fun x hxm t ht=>zB (by
   subst ht
   obtain⟨p,hp,he⟩:=List.mem_map.1 hxm
   simp only[Op.operands]
   rw[List.mem_toArray]
   exact List.mem_map.2 ⟨p,hp,he⟩)) hG
  obtain⟨cs,h1,h2⟩:=hf M w _ ha
  refine⟨.agg cs.toArray,zjM hb ?_,cs,h2,by rw[hagg];rfl⟩
  rw[←h1,List.map_map,List.zip_map']
  rfl
end
end Go.DB
namespace Go.DB
open Go Go.RowKit
theorem zsh {L L':zq}{t:Nat}{e:Ent}(h:zD (L++L') t=some e):zD L t=some e∨zD L' t=some e:=by
 induction L with
 | nil=>exact .inr h
 | cons x L ih=>
  obtain⟨k,e'⟩:=x
  simp only[List.cons_append,zD]at h⊢
  cases hb:Nat.beq k t with
  | true=>rw[hb]at h;exact .inl h
  | false=>rw[hb]at h;exact ih h
theorem zsc {B B':zo}{t:Nat}{c:zd}(h:zk (B++B') t=some c):zk B t=some c∨zk B' t=some c:=by
 induction B with
 | nil=>exact .inr h
 | cons x B ih=>
  obtain⟨k,e'⟩:=x
  simp only[List.cons_append,zk]at h⊢
  cases hb:Nat.beq k t with
  | true=>rw[hb]at h;exact .inl h
  | false=>rw[hb]at h;exact ih h
theorem Sub.append {L L1 L2:zq}(h1:Sub L L1)(h2:Sub L L2):Sub L (L1++L2):=fun t e h=>(zsh h).elim (h1 t e) (h2 t e)
theorem zi.append {B B1 B2:zo}(h1:zi B B1)(h2:zi B B2):zi B (B1++B2):=fun t c h=>(zsc h).elim (h1 t c) (h2 t c)
section
variable {P:Program} {Q:Exit→Act→World→Prop} {n:Nat} {F:Fr} {L:zq} {B:zo}
end
section
variable {P:Program} {ops:Array Oper} {fs:Nat} {L:zq} {B:zo} {G:Prop}
variable {d:Option Tmp} {ty:TypeId} {pos:String} {after:Array Edge} {g:Option (Nat×Bool)} {xr:List Nat}
def EqAt (P:Program)(T:Nat)(α:Type)[Rep α][DecidableEq α]:Prop:=
 ∀(M:zh) (w:World) (p q:Operand) (x y:α) (v u:Value),(rep x).p M v w→(rep y).p M u w→
  (do eqGuard .eql T p q v u;binOp .eql T v u:Sem Value).run P w = .ok (.bool (decide (x=y))) w∧
  (do eqGuard .neq T p q v u;binOp .neq T v u:Sem Value).run P w = .ok (.bool (!decide (x=y))) w
theorem ze.eqS {x y:Operand}{T T':TypeId}{α:Type}[Rep α][DecidableEq α]{m n:α}(hg:zU ops g L G)(hE:EqAt P T α)(hx:Opd L G x (rep m))(hy:Opd L G y (rep n)):
  ze P ops fs ⟨d,.binOp .eql T x y T',ty,pos,after,g⟩ L B (xr,[]) ⟨G,rep (decide (m=n))⟩ []:=
 .pure hg fun M a w _ hs hG=>by
  have h1:=hx.get hs (fun t ht=>zB (by simp[Op.operands,ht])) hG
  have h2:=hy.get hs (fun t ht=>zB (by simp[Op.operands,ht])) hG
  refine⟨_,?_,yS.2 rfl⟩
  simp only[execOp]
  rw[Sem.run_bind,(hE M w x y m n _ _ h1 h2).1]
  rfl
theorem ze.neS {x y:Operand}{T T':TypeId}{α:Type}[Rep α][DecidableEq α]{m n:α}(hg:zU ops g L G)(hE:EqAt P T α)(hx:Opd L G x (rep m))(hy:Opd L G y (rep n)):
  ze P ops fs ⟨d,.binOp .neq T x y T',ty,pos,after,g⟩ L B (xr,[]) ⟨G,rep (!decide (m=n))⟩ []:=
 .pure hg fun M a w _ hs hG=>by
  have h1:=hx.get hs (fun t ht=>zB (by simp[Op.operands,ht])) hG
  have h2:=hy.get hs (fun t ht=>zB (by simp[Op.operands,ht])) hG
  refine⟨_,?_,yS.2 rfl⟩
  simp only[execOp]
  rw[Sem.run_bind,(hE M w x y m n _ _ h1 h2).2]
  rfl
theorem zt1 (k:Nat){T:Nat}{kd kx:IntKind}{x y:Int}{w:World}(hT:P.underlying T=some (.int kd)):(Op.equalIn (k+1) T (.int kx x) (.int kx y)).run P w = .ok (x==y) w:=by
 simp[Op.equalIn,underlying,hT,go_sem]
theorem Opd.const {α:Type}[Rep α]{x:α}{v:Value}(h:∀M w,(rep x).p M v w):Opd L G (.const v) (rep x):=h
end
end Go.DB
