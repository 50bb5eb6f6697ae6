/- Three colours find the rings. Which rules may take nothing: both answers are the same. Each state comes to its rule's end: both answers are the same. A search with a pile. Rings of free edges: both answers are the same. Rings of calls: both answers are the same. Words 1 to 3: both answers are the same. Words 2: both answers are the same. Words 1: both answers are the same. Words 1: both answers are the same. Words 3: both answers are the same. Edges: both answers are the same. Edges with acts. Edges: both answers are the same. Which nets may be: both answers are the same. Empty, Great. An abstract machine, part V: from a contract by abstract values, seeing no object, to a call from the world in which a statement begins. Nets that are handed in, as they stand in memory. Great. The law package's own small function wakes, run by the evaluator, strings.Join known, returns true. law.NetChecks. law.NetChecks, whatever the net's size. The document's text of a net. Words for NetTells: what is copied; a variable that is nil as an empty row. Slices that are copied. Guards that are copied. A state's edges, copied. Find, Kind. What is the same: texts, numbers, rules, guards. -/
import Derived.RowKit3
import Derived.ReadAgain
import Derived.OpenShut
import Derived.DataElems
import Derived.WalkKit
import Derived.ProofKit
import Derived.Deep.DeepHandedRow
import Derived.Lib.LaidTab
import Derived.Test.YtfkjfjalecikkaaGreatDoorDG
set_option linter.defProp false
open Go.IntKind (wrap)
noncomputable section
open List (length map range replicate)
set_option maxRecDepth 100000
namespace Go.Proofs.YtfkjfjalecikkaaGreatDoor
open Go.Am
section
variable{g:List lXC}
theorem Rp.head{a b:Nat}(h:Rp g a b):Edg g a b\/ ∃c,Edg g a c/\Rp g c b:=by
 induction h with
 |one e=>exact .inl e
 |step h e ih=>
  rcases ih with h1|⟨c,h1,h2⟩
  ·exact .inr ⟨_,h1,.one e⟩
  ·exact .inr ⟨c,h1,.step h2 e⟩
theorem Rp.closed{D:Nat->Prop}(hc: ∀v,D v-> ∀c,Edg g v c->D c){a b:Nat}(ha:D a)(h:Rp g a b):D b:=by
 induction h with
 |one e=>exact hc _ ha _ e
 |step _ e ih=>exact hc _ ih _ e
theorem yD{v c:Nat}(h:Edg g v c):v<g.length:=by
 unfold Edg at h;by_cases hv:v<g.length
 ·exact hv
 ·simp[ae,af5 (show g.length<=v by omega)]at h;cases h
def aew{v c:Nat}(h:Edg g v c): ∃p,p<(ae g v).length/\ae (ae g v) p=c:=bP h
end
structure DI(g:List lXC)(w:Sk):Prop where
 col: ∀v,v<g.length->ae w.2.1 v=0\/ae w.2.1 v=1\/ae w.2.1 v=2
 op: ∀v,v<g.length->ae w.2.1 v=1-> ∃j,j<w.1/\(ae w.2.2 j).1=v
 on: ∀j,j<w.1->ae w.2.1 (ae w.2.2 j).1=1
 inj: ∀j j',j<w.1->j'<w.1->(ae w.2.2 j).1=(ae w.2.2 j').1->j=j'
 nE: ∀j,j+1<w.1->Edg g (ae w.2.2 j).1 (ae w.2.2<|j+1).1
 seen: ∀j,j<w.1-> ∀p,p<(ae w.2.2 j).2->ae w.2.1 (ae (ae g (ae w.2.2 j).1) p)=2\/(j+1<w.1/\ae (ae g (ae w.2.2 j).1) p=(ae w.2.2<|j+1).1)
 done: ∀v,v<g.length->ae w.2.1 v=2->(∀c,Edg g v c->ae w.2.1 c=2)/\ ¬Rp g v v
theorem fm{w:Sk}(h:w.1<=w.2.2.length)(hk:0<w.1)(q j:Nat):(ae (lq w q) j).1=(ae w.2.2 j).1:=by grind[fE,Gy]
theorem im{w:Sk}(h:w.1<=w.2.2.length)(q:Nat)(x:Nat×Nat){j:Nat}(hj:j<w.1):ae (List.take w.1 (lq w q)++ [x]) j=ae (lq w q) j:=by grind[ae,nS]
theorem mA{w:Sk}(h:w.1<=w.2.2.length)(q:Nat)(x:Nat×Nat):ae (List.take w.1 (lq w q)++ [x]) w.1=x:=by grind[ae,nS]
def aaU{g:List lXC}(hg:jm g){w:Sk}(hw:SR g w)(h:DI g w)(hk:0<w.1)(hh:kG g w=false):DI g (gD g w)/\ ∀v,v<g.length->ae w.2.1 v≠0->ae (gD g w).2.1 v≠0:=by
 have hs:=hw.sk hg hk;have hkl:=hw.kl;have hlen:=hw.len;have pass: ∀p,p<eE g w->p<(jd g w).length->ae w.2.1 (j0 g w p)=2:=λp hp hpl=>by
  by_cases hq:p<(ae w.2.2<|w.1-1).2
  ·rcases h.seen (w.1-1) oaa p hq with h1|⟨h1,_⟩
   ·exact h1
   ·omega
  ·have hgo:=Md (show(ae w.2.2<|w.1-1).2<=p by omega) hp;unfold An at hgo;simp only[afv,afP,beq_eq_false_iff_ne]at hgo;have ht:j0 g w p<g.length:=hg.wf _ (ai hs.node) _ (ai hpl);rcases h.col _ ht with h1|h1|h1
   ·exact absurd h1 hgo.2
   ·exact absurd h1 hgo.1
   ·exact h1
 cases ha:OC g w with
 |true=>
  obtain⟨h1,h2⟩:=sa ha;have hh0:=hh;unfold kG at hh;rw[ha,agj]at hh;unfold An at h2;rw[hh,agx,agj,aga]at h2;have h0:ae w.2.1 (j0 g w<|eE g w)=0:=eq_of_beq h2;have hto:j0 g w (eE g w)<g.length:=hg.wf _ (ai hs.node) _ (ai h1);have hedge:Edg g (ae w.2.2<|w.1-1).1 (j0 g w<|eE g w):=ai h1;have hsx:gD g w=(w.1+1,List.set w.2.1 (j0 g w<|eE g w) 1,List.take w.1 (lq w<|eE g w+1)++ [(j0 g w (eE g w),0)]):=by unfold gD;rw[ha,afN]
  have hpassq: ∀p,p<eE g w->ae w.2.1 (j0 g w p)=2:=λp hp=>pass p hp oaa;generalize htt:j0 g w (eE g w)=t at*;have hci: ∀v,ae (List.set w.2.1 t (1:Int)) v=if v=t then 1 else ae w.2.1 v:=λv=>il _ _ _ _ oaa
  have ne2: ∀v,ae w.2.1 v=2->ae (List.set w.2.1 t (1:Int)) v=2:=λv hv=>by rw[hci,if_neg (λe=>by rw[e,h0]at hv;cases hv)];exact hv
  rw[hsx];refine⟨⟨λv hv=> ?_,λv hv hv1=> ?_,λj hj=> ?_,λj j' hj hj' e=> ?_,λj hj=> ?_,λj hj p hp=> ?_,λv hv hv2=> ?_⟩,λv hv hv0=> ?_⟩
  ·simp only[hci];split
   ·exact .inr (.inl rfl)
   ·exact h.col v hv
  ·simp only[hci]at hv1⊢;by_cases e:v=t
   ·exact⟨w.1,ag3 _,by rw[mA hkl,e]⟩
   ·rw[if_neg e]at hv1;obtain⟨j,hj,hjv⟩:=h.op v hv hv1;exact⟨j,by omega,by rw[im hkl _ _ hj,fm hkl hk];exact hjv⟩
  ·simp only at hj⊢;by_cases hjw:j<w.1
   ·rw[im hkl _ _ hjw,fm hkl hk,hci];split
    ·rfl
    ·exact h.on j hjw
   ·obtain rfl:j=w.1:=by omega
    rw[mA hkl,hci,if_pos rfl]
  ·simp only at hj hj' e;by_cases hjw:j<w.1
   ·by_cases hjw':j'<w.1
    ·rw[im hkl _ _ hjw,im hkl _ _ hjw',fm hkl hk,fm hkl hk]at e;exact h.inj j j' hjw hjw' e
    ·obtain rfl:j'=w.1:=by omega
     rw[im hkl _ _ hjw,mA hkl,fm hkl hk]at e;have:=h.on j hjw;rw[e,h0]at this;cases this
   ·obtain rfl:j=w.1:=by omega
    by_cases hjw':j'<w.1
    ·rw[im hkl _ _ hjw',mA hkl,fm hkl hk]at e;have:=h.on j' hjw';rw[<-e,h0]at this;cases this
    ·omega
  ·simp only at hj⊢;by_cases hjw:j+1<w.1
   ·rw[im hkl _ _ hjw,im hkl _ _ (show j<w.1 by omega),fm hkl hk,fm hkl hk];exact h.nE j hjw
   ·obtain rfl:j=w.1-1:=by omega
    rw[im hkl _ _ (show w.1-1<w.1 by omega),fm hkl hk,show w.1-1+1=w.1 by omega,mA hkl];exact hedge
  ·simp only at hj hp⊢;by_cases hjw:j<w.1
   ·rw[im hkl _ _ hjw]at hp⊢;rw[fm hkl hk];by_cases hj1:j=w.1-1
    ·subst hj1;rw[fE hkl hk]at hp;simp only at hp;by_cases hpq:p<eE g w
     ·exact .inl (ne2 _<|hpassq p hpq)
     ·right;obtain rfl:p=eE g w:=by omega
      refine⟨by omega,?_⟩;rw[show w.1-1+1=w.1 by omega,mA hkl];exact htt
    ·rw[Gy hj1]at hp;rcases h.seen j hjw p hp with h3|⟨h3,h4⟩
     ·exact .inl (ne2 _ h3)
     ·exact .inr ⟨by omega,by rw[im hkl _ _ h3,fm hkl hk];exact h4⟩
   ·obtain rfl:j=w.1:=by omega
    rw[mA hkl]at hp;exact absurd hp (Nat.not_lt_zero _)
  ·simp only[hci]at hv2⊢;have hvt:v≠t:=λe=>by rw[if_pos e]at hv2;cases hv2
   rw[if_neg hvt]at hv2;obtain⟨h3,h4⟩:=h.done v hv hv2;exact⟨λc hc=>by have:=ne2 c (h3 c hc);rw[hci]at this;exact this,h4⟩
  ·simp only[hci];split
   ·decide
   ·exact hv0
 |false=>
  have hql:=vQ (h:=(hw.node _<|show w.1-1<w.1 by omega).2);have hqe:eE g w=(jd g w).length:=by have:=afE ha;omega
  have hsx:gD g w=(w.1-1,List.set w.2.1 (ae w.2.2<|w.1-1).1 2,lq w (eE g w)):=by unfold gD;rw[ha,afY]
  have hu1:=h.on (w.1-1) oaa;have hun:=hs.node;have hall: ∀c,Edg g (ae w.2.2<|w.1-1).1 c->ae w.2.1 c=2:=λc hc=>by obtain⟨p,hp,rfl⟩:=aew hc;exact pass p (by rw[hqe];exact hp) hp
  have hinj:=λj hj(e:(ae w.2.2 j).1=(ae w.2.2<|w.1-1).1)=>h.inj j (w.1-1) hj oaa e;generalize huu:(ae w.2.2<|w.1-1).1=u at*;have hci: ∀v,ae (List.set w.2.1 u (2:Int)) v=if v=u then 2 else ae w.2.1 v:=λv=>il _ _ _ _ oaa
  have ne2: ∀v,ae w.2.1 v=2->ae (List.set w.2.1 u (2:Int)) v=2:=λv hv=>by
   rw[hci];split
   ·rfl
   ·exact hv
  have hnr: ¬Rp g u u:=λhr=>by
   have cl: ∀v,ae w.2.1 v=2/\v<g.length-> ∀c,Edg g v c->ae w.2.1 c=2/\c<g.length:=λv hv c hc=>⟨(h.done v hv.2 hv.1).1 c hc,nH hg.wf hc⟩;have hu2:ae w.2.1 u=2/\u<g.length:=by
    rcases hr.head with h3|⟨c,h3,h4⟩
    ·exact⟨hall u h3,hun⟩
    ·exact Rp.closed (D:=λv=>ae w.2.1 v=2/\v<g.length) cl ⟨hall c h3,nH hg.wf h3⟩ h4
   rw[hu1]at hu2;exact absurd hu2.1 oaE
  rw[hsx];refine⟨⟨λv hv=> ?_,λv hv hv1=> ?_,λj hj=> ?_,λj j' hj hj' e=> ?_,λj hj=> ?_,λj hj p hp=> ?_,λv hv hv2=> ?_⟩,λv hv hv0=> ?_⟩
  ·simp only[hci];split
   ·exact .inr (.inr rfl)
   ·exact h.col v hv
  ·simp only[hci]at hv1⊢;by_cases e:v=u
   ·rw[if_pos e]at hv1;cases hv1
   ·rw[if_neg e]at hv1;obtain⟨j,hj,hjv⟩:=h.op v hv hv1;have:j≠w.1-1:=λe2=>by subst e2;exact e (hjv.symm.trans huu)
    exact⟨j,by omega,by rw[fm hkl hk];exact hjv⟩
  ·simp only at hj⊢;rw[fm hkl hk,hci,if_neg (λe=>by have:=hinj j oaa e;omega)];exact h.on j oaa
  ·simp only at hj hj' e;rw[fm hkl hk,fm hkl hk]at e;exact h.inj j j' oaa oaa e
  ·simp only at hj⊢;rw[fm hkl hk,fm hkl hk];exact h.nE j oaa
  ·simp only at hj hp⊢;rw[Gy oaa]at hp;rw[fm hkl hk,fm hkl hk];rcases h.seen j oaa p hp with h3|⟨h3,h4⟩
   ·exact .inl (ne2 _ h3)
   ·by_cases hj2:j+1<w.1-1
    ·exact .inr ⟨hj2,h4⟩
    ·left;rw[h4,show j+1=w.1-1 by omega,huu,hci,if_pos rfl]
  ·simp only at hv2⊢;by_cases e:v=u
   ·subst e;exact⟨λc hc=>ne2 c (hall c hc),hnr⟩
   ·rw[hci,if_neg e]at hv2;obtain⟨h3,h4⟩:=h.done v hv hv2;exact⟨λc hc=>ne2 c (h3 c hc),h4⟩
  ·simp only[hci];split
   ·decide
   ·exact hv0
def aex{g:List lXC}{w:Sk}(hg:jm g)(hw:SR g w)(h:DI g w)(hk:0<w.1)(hh:kG g w=true): ∃i,Rp g i i:=by
 unfold kG at hh;simp only[afv]at hh;have h1:=(sa hh.1).1;have hs:=hw.sk hg hk;have hto:j0 g w (eE g w)<g.length:=hg.wf _ (ai hs.node) _ (ai h1);have hedge:Edg g (ae w.2.2<|w.1-1).1 (j0 g w<|eE g w):=ai h1;obtain⟨j,hj,hjt⟩:=h.op _ hto (eq_of_beq hh.2);have path: ∀d,j+d<w.1->d=0\/Rp g (ae w.2.2 j).1 (ae w.2.2<|j+d).1:=λd=>by
  induction d with
  |zero=>exact λ_=> .inl rfl
  |succ d ih=>
   intro hd;right;have e:=h.nE (j+d) oaa;rcases ih oaa with rfl|h3
   ·exact .one e
   ·exact .step h3 e
 rw[<-hjt]at hedge;refine⟨(ae w.2.2 j).1,?_⟩;rcases path (w.1-1-j) oaa with h3|h3
 ·rw[show w.1-1=j by omega]at hedge;exact .one hedge
 ·rw[show j+(w.1-1-j)=w.1-1 by omega]at h3;exact .step h3 hedge
structure DO(g:List lXC)(y:lXA):Prop where
 len:y.length=g.length
 col: ∀v,v<g.length->ae y v=0\/ae y v=2
 done: ∀v,v<g.length->ae y v=2->(∀c,Edg g v c->ae y c=2)/\ ¬Rp g v v
section
variable{g:List lXC}
theorem di_0{i0:Nat}(hx0:i0<g.length){y:lXA}(h:DO g y)(h0:ae y i0=0):DI g (1,List.set y i0 1,[(i0,0)]):=by
 have hci: ∀v,ae (List.set y i0 (1:Int)) v=if v=i0 then 1 else ae y v:=(by grind[il,h.len])
 have ne2: ∀v,ae y v=2->ae (List.set y i0 (1:Int)) v=2:=oay;refine⟨λv hv=> ?_,λv hv hv1=> ?_,λj hj=> ?_,λj j' hj hj' _=> ?_,λj hj=> ?_,λj hj p hp=> ?_,λv hv hv2=> ?_⟩
 ·simp only[hci];split
  ·exact .inr (.inl rfl)
  ·exact(h.col v hv).imp id .inr
 ·simp only[hci]at hv1;by_cases e:v=i0
  ·exact⟨0,ag3 _,e.symm⟩
  ·rw[if_neg e]at hv1;rcases h.col v hv with h3|h3<;>rw[h3]at hv1<;>cases hv1
 ·grind[ae]
 ·simp only at hj hj';omega
 ·simp only at hj;omega
 ·obtain rfl:j=0:=by simp only at hj;omega
  exact absurd hp (Nat.not_lt_zero _)
 ·simp only[hci]at hv2;have hvt:v≠i0:=λe=>by rw[if_pos e]at hv2;cases hv2
  rw[if_neg hvt]at hv2;obtain⟨h3,h4⟩:=h.done v hv hv2;simp_all
theorem Wb(hg:jm g){i0:Nat}(hx0:i0<g.length){y:lXA}(h:DO g y)(h0:ae y i0=0):(sc g i0 y (j5 g i0 y)=true-> ∃i,Rp g i i)/\(sc g i0 y (j5 g i0 y)=false->DO g (j5 g i0 y).2.1/\(∀v,v<g.length->ae y v=2->ae (j5 g i0 y).2.1 v=2)/\ae (j5 g i0 y).2.1 i0=2):=by
 obtain⟨ex,sr⟩:=I9 hg hx0 h.len;obtain⟨hend,hlt⟩:=fR ex;have inv: ∀k,k<=dL (gO g i0 y) (db g i0 y)->DI g (db g i0 y k)/\(∀v,v<g.length->ae y v≠0->ae (db g i0 y k).2.1 v≠0)/\ae (db g i0 y k).2.1 i0≠0:=λk=>by
  induction k with
  |zero=>
   intro _;have hci: ∀v,ae (List.set y i0 (1:Int)) v=if v=i0 then 1 else ae y v:=λv=>il _ _ _ _ (by rw[h.len];exact hx0)
   refine⟨di_0 hx0 h h0,λv hv hv0=> ?_,?_⟩
   ·show ae (List.set y i0 1) v≠0;rw[hci];split
    ·decide
    ·exact hv0
   ·show ae (List.set y i0 1) i0≠0;rw[hci,if_pos rfl];decide
  |succ k ih=>intro hk;obtain⟨h1,h2,h3⟩:=ih oaa;obtain⟨h4,h5⟩:=VZ (hlt k oaa);obtain⟨h6,h7⟩:=aaU hg (sr k oaa) h1 h4 h5;exact⟨h6,λv hv hv0=>h7 v hv (h2 v hv hv0),h7 i0 hx0 h3⟩
 obtain⟨hdi,hnz,hi0⟩:=inv _ (afG _);have hsr:=sr _ (afG _);have hE:db g i0 y (dL (gO g i0 y)<|db g i0 y)=j5 g i0 y:=rfl;rw[hE]at hend hdi hnz hi0 hsr;constructor
 ·intro hh;have hk:0<(j5 g i0 y).1:=by have:=afL hh;omega
  refine aex hg hsr hdi hk ?_;unfold gO at hend;rw[show decide ((((j5 g i0 y).1:Nat):Int)>0)=true from afH oaa]at hend;exact hend
 ·intro hh;have hk:(j5 g i0 y).1=0:=by have:=afE hh;omega
  have hcol: ∀v,v<g.length->ae (j5 g i0 y).2.1 v=0\/ae (j5 g i0 y).2.1 v=2:=λv hv=>by
   rcases hdi.col v hv with h1|h1|h1
   ·exact .inl h1
   ·obtain⟨j,hj,_⟩:=hdi.op v hv h1;omega
   ·exact .inr h1
  exact⟨⟨hsr.len,hcol,hdi.done⟩,λv hv hv2=>(hcol v hv).resolve_left (hnz v hv<|by rw[hv2];decide),(hcol i0 hx0).resolve_left hi0⟩
theorem ac30(hg:jm g)(i:Nat)(hi:i<=g.length)(hn: ∀j,j<i->lU g j=false):DO g (dc g i)/\ ∀v,v<i->ae (dc g i) v=2:=by
 induction i with
 |zero=>
  have e: ∀v,ae (replicate (length<|map bH g) (0:Int)) v=0:=λv=>by unfold ae;rw[age];split<;>rfl
  exact⟨⟨by show(replicate _ (0:Int)).length=_;simp,λv _=> .inl (e v),λv _ h2=>by rw[show ae (dc g 0) v=0 from e v]at h2;cases h2⟩,λv hv=>by omega⟩
 |succ i ih=>
  obtain⟨h1,h2⟩:=ih oaa λj hj=>hn j oaa;have hi2:i<g.length:=by omega
  have ht:=hn i oaa;unfold lU at ht;show DO g (tt g i<|dc g i)/\ ∀v,v<i+1->ae (tt g i<|dc g i) v=2;unfold tt;cases hc:ae (dc g i) i !=0 with
  |true=>
   rw[afN];refine⟨h1,λv hv=> ?_⟩;by_cases e:v=i
   ·subst e;exact(h1.col v hi2).resolve_left (by simpa using hc)
   ·exact h2 v oaa
  |false=>grind[Wb]
theorem aey(hg:jm g):r30 g=iy g:=by
 show cz g.length (lU g)=iy g;cases h:cz g.length (lU g)with
 |true=>obtain⟨h1,h2,h3⟩:=iJ h;obtain⟨h4,_⟩:=ac30 hg _ (ahb h1) h3;unfold lU at h2;simp only[afv,afP,ago]at h2;exact(aH.2<|(Wb hg h1 h4 h2.1).1 h2.2).symm
 |false=>
  obtain⟨h4,h5⟩:=ac30 hg _ (afG _) (bL.1 h);have: ¬ ∃i,Rp g i i:=λ⟨i,hr⟩=>by
   have hi:i<g.length:=by rcases hr.head with h6|⟨c,h6,_⟩<;>exact yD h6
   exact(h4.done i hi<|h5 i hi).2 hr
  grind[iy,aH]
end
def Ja:gf:=λg hg=>by grind[aev,aey]
theorem um(n:Net)(hf:bW n):aQ pg 10 [.ag (aY n)] [] [] (I<|r10 n) []:=aaP n Ja hf
def tw(R:Nat)(a b:lXB):Prop:= ∀i,i<R->ae a i=true->ae b i=true
section
variable{R:Nat}{st:Nat->Bool×lXB->Bool×lXB}{F:lXB->Nat->Bool}(hst: ∀i y,st i y=bif !(ae y.2 i)then(bif F y.2 i then(true,List.set y.2 i true)else(y.1,y.2))else(y.1,y.2))
def vd(st:Nat->Bool×lXB->Bool×lXB)(w:lXB)(k:Nat):Bool×lXB:=Nat.rec (motive:=λ_=>Bool×lXB) (false,w) (λj a=>st j a) k
 include hst
theorem Wc(w:lXB)(k:Nat):(vd st w k).2.length=w.length:=by
 induction k with
 |zero=>rfl
 |succ k ih=>grind[vd]
theorem Mn(w:lXB)(k:Nat)(h:(vd st w k).1=false):(vd st w k).2=w/\ ∀i,i<k->ae w i=true\/F w i=false:=by
 induction k with
 |zero=>exact⟨rfl,λi hi=>by omega⟩
 |succ k ih=>grind[vd]
theorem Gz(w c:lXB)(hw:w.length=R)(hs:tw R w c)(hF: ∀e,tw R e c-> ∀i,i<R->F e i=true->ae c i=true)(k:Nat)(hk:k<=R):tw R (vd st w k).2 c:=by
 induction k with
 |zero=>exact hs
 |succ k ih=>
  have ih:=ih oaa;have e:vd st w (k+1)=st k (vd st w k):=rfl;rw[e,hst];cases h1:ae (vd st w k).2 k with
  |true=>exact ih
  |false=>
   cases h4:F (vd st w k).2 k with
   |false=>exact ih
   |true=>
    simp only[agx,afN];intro i hi hgi;rw[il _ _ _ _ (by rw[Wc hst,hw];omega)]at hgi;by_cases hik:i=k
    ·grind
    ·rw[if_neg hik]at hgi;exact ih i hi hgi
end
def Rp.mono{g g':List lXC}(h: ∀a b,Edg g a b->Edg g' a b){a b:Nat}(r:Rp g a b):Rp g' a b:=by
 induction r with
 |one e=>exact .one (h _ _ e)
 |step _ e ih=>exact .step ih (h _ _ e)
def Wd{n:Net}{a b:lXB}(hs:tw n.rules.length a b){e:Edge}(he:e.op=2->0<=e.n/\e.n<(n.rules.length:Int))(h:okT a e=true):okT b e=true:=by
 unfold okT at h⊢;cases h1:e.op==1 with
 |true=>rw[h1]at h;cases h
 |false=>
  rw[h1]at h;cases h2:e.op==2 with
  |true=>rw[h2]at h;have hn:=he (eq_of_beq h2);exact hs e.n.toNat oaa h
  |false=>rfl
def aaV{n:Net}(hn:cc n){a b:lXB}(hs:tw n.rules.length a b){x y:Nat}(h:Rp (gA (okT a) n) x y):Rp (gA (okT b) n) x y:=h.mono λi c e=>by have hi:=yD e;rw[pY]at hi;obtain⟨d,hd,h1,h2⟩:=pX.1 e;exact pX.2 ⟨d,hd,Wd hs (hn.call _ (ai hi) _ hd) h1,h2⟩
noncomputable def Fe(n:Net)(e:lXB)(i:Nat):Bool:=dec (Rp (gA (okT e) n) (ae n.rules i).start.toNat (ae n.rules i).stop.toNat)
def Mo{n:Net}(hn:cc n){a b:lXB}(hs:tw n.rules.length a b)(i:Nat)(h:Fe n a i=true):Fe n b i=true:=aH.2 (aaV hn hs<|aH.1 h)
theorem We{n:Net}(hn:cc n)(e:lXB){i:Nat}(hi:i<n.rules.length):aB (lR n e (ae n.rules i).start) (ae n.rules i).stop=Fe n e i:=by have:=hn.stop _ (ai hi);exact Bh (by rw[pY];omega)
theorem Wg{n:Net}(hn:cc n)(hne: ∀r∈n.rules,r.start≠r.stop)(e:lXB){i:Nat}(hi:i<n.rules.length):aB (dE (okT e) n (ae n.rules i).start.toNat) (ae n.rules i).stop=Fe n e i:=by have h1:=hn.stop _ (ai hi);have h2:=hn.start _ (ai hi);have h3:=hne _ (ai hi);refine(x9 oaa).trans ?_;unfold Fe;congr 1;grind
def ClE(n:Net)(c:lXB):Prop:= ∀i,i<n.rules.length->Fe n c i=true->ae c i=true
def Mp(n:Net)(c:lXB):tw n.rules.length (replicate (length<|map aw n.rules) false) c:=λi _ h=>by grind[ae]
def OE{n:Net}(hn:cc n):ClE n (r24 n)/\ ∀c,ClE n c->tw n.rules.length (r24 n) c:=by
 have hst: ∀w:Bool×lXB,∀i y,yn n w i y=bif !(ae y.2 i)then(bif (λ(_:lXB) i=>aB (lR n w.2 (ae n.rules i).start) (ae n.rules i).stop) y.2 i then(true,List.set y.2 i true)else(y.1,y.2))else(y.1,y.2):=λw i y=>rfl;have hac: ∀w k,cO n w k=vd (yn n w) w.2 k:=λw k=>rfl;obtain⟨ex,len⟩:=Vg n;obtain⟨hend,_⟩:=fR ex;constructor
 ·have he:(nR n).1=false:=by grind[mL,nR]
  cases hK:dL (mL n) (dS n)with
  |zero=>unfold nR at he;rw[hK]at he;cases he
  |succ K=>
   have hE:nR n=cO n (dS n K) n.rules.length:=by unfold nR;rw[hK];rfl
   rw[hE,hac]at he;obtain⟨h1,h2⟩:=Mn (F:=λ(_:lXB) i=>aB (lR n (dS n K).2 (ae n.rules i).start) (ae n.rules i).stop) (hst<|dS n K) _ _ he;intro i hi hF;grind[r24,We]
 ·intro c hc;have key: ∀k,tw n.rules.length (dS n k).2 c:=λk=>by
   induction k with
   |zero=>exact Mp n c
   |succ k ih=>show tw n.rules.length (cO n (dS n k) n.rules.length).2 c;rw[hac];exact Gz (F:=λ(_:lXB) i=>aB (lR n (dS n k).2 (ae n.rules i).start) (ae n.rules i).stop) (hst<|dS n k) _ c (Bt n k) ih (λe _ i hi hF=>by rw[We hn _ hi]at hF;exact hc i hi<|Mo hn ih i hF) _ (afG _)
  exact key _
def OF{n:Net}(hn:cc n)(hne: ∀r∈n.rules,r.start≠r.stop):ClE n (r25 n)/\ ∀c,ClE n c->tw n.rules.length (r25 n) c:=by
 have hst: ∀w:Bool×lXB,∀i y,yb n w i y=bif !(ae y.2 i)then(bif (λ(e:lXB) i=>aB (dE (okT e) n (ae n.rules i).start.toNat) (ae n.rules i).stop) y.2 i then(true,List.set y.2 i true)else(y.1,y.2))else(y.1,y.2):=λw i y=>rfl;have hac: ∀w k,cx n w k=vd (yb n w) w.2 k:=λw k=>rfl;obtain⟨ex,len⟩:=TT n;obtain⟨hend,_⟩:=fR ex;constructor
 ·have he:(nL n).1=false:=by grind[mK,nL]
  cases hK:dL (mK n) (ep n)with
  |zero=>unfold nL at he;rw[hK]at he;cases he
  |succ K=>
   have hE:nL n=cx n (ep n K) n.rules.length:=by unfold nL;rw[hK];rfl
   rw[hE,hac]at he;obtain⟨h1,h2⟩:=Mn (F:=λ(e:lXB) i=>aB (dE (okT e) n (ae n.rules i).start.toNat) (ae n.rules i).stop) (hst<|ep n K) _ _ he;intro i hi hF;grind[r25,Wg]
 ·intro c hc;have key: ∀k,tw n.rules.length (ep n k).2 c:=λk=>by
   induction k with
   |zero=>exact Mp n c
   |succ k ih=>show tw n.rules.length (cx n (ep n k) n.rules.length).2 c;rw[hac];exact Gz (F:=λ(e:lXB) i=>aB (dE (okT e) n (ae n.rules i).start.toNat) (ae n.rules i).stop) (hst<|ep n k) _ c (Bm n k) ih (λe hse i hi hF=>by rw[Wg hn hne _ hi]at hF;exact hc i hi<|Mo hn hse i hF) _ (afG _)
  exact key _
def aaW{n:Net}(hn:cc n)(hne: ∀r∈n.rules,r.start≠r.stop):r24 n=r25 n:=by
 obtain⟨a1,a2⟩:=OE hn;obtain⟨b1,b2⟩:=OF hn hne;have h1:=a2 _ b1;have h2:=b2 _ a1;refine af8 λi=> ?_;have l1:=DT n;have l2:=vN n;by_cases hi:i<n.rules.length
 ·rw[eL oaa,eL oaa];congr 1;cases e1:ae (r24 n) i with
  |true=>exact(h1 i hi e1).symm
  |false=>
   cases e2:ae (r25 n) i with
   |true=>rw[h2 i hi e2]at e1;cases e1
   |false=>rfl
 simp_all
structure Own(n:Net):Prop where
 aI: ∀s∈n.aa,0<=s.aI/\s.aI<(n.rules.length:Int)
 stop: ∀i,i<n.rules.length->(aB n.aa (ae n.rules i).stop).aI=(i:Nat)
 to: ∀s∈n.aa,∀e∈s.ah,(aB n.aa e.to).aI=s.aI
 ne: ∀r∈n.rules,r.start≠r.stop
theorem Bz{n:Net}{s r:Int}(h:r67 n s r=true):(aB n.aa s).aI=r:=by grind[r67]
theorem ownOf{n:Net}(h2:r32 n=true)(h3:r33 n=true):Own n where
 aI:=λs hs=>by
  obtain⟨i,hi,rfl⟩:=bP hs
  exact(nP h3 hi).1
 stop:=λi hi=>Bz (yj h2 hi).2
 to:=λs hs e he=>by
  obtain⟨i,hi,rfl⟩:=bP hs
  obtain⟨k,hk,rfl⟩:=bP he
  have h:=(nP h3 hi).2 k hk
  grind[r68,Bz]
 ne:=(by grind[bP,bL,vH,r32,lL])
theorem Jb(n:Net)(i4:Nat)(y:lXB)(k v:Nat)(hk:k<=y.length):ae (du n i4 y k) v=if v<k then(ae (List.set y (ae n.rules i4).stop.toNat true) v||ae (fH n (ae n.rules i4).stop) v)else ae (List.set y (ae n.rules i4).stop.toNat true) v:=by
 induction k generalizing v with
 |zero=>rw[if_neg (Nat.not_lt_zero _)];rfl
 |succ k ih=>
  show ae (yr n i4 y k<|du n i4 y k) v=_;have hl:k<(du n i4 y k).length:=by rw[DN];omega
  have e:yr n i4 y k (du n i4 y k)=List.set (du n i4 y k) k (ae (du n i4 y k) k||ae (fH n (ae n.rules i4).stop) k):=by grind[yr]
  grind[il]
theorem Jc{n:Net}(hn:cc n)(k v:Nat)(hk:k<=n.rules.length)(hv:v<n.aa.length):ae (eD n k) v=true↔ ∃i,i<k/\(v=(ae n.rules i).stop.toNat\/Rp (gN n) (ae n.rules i).stop.toNat v):=by
 induction k with
 |zero=>
  constructor
  ·intro h;have h:ae (replicate (length<|map aj n.aa) false) v=true:=h;grind[ae]
  ·rintro⟨i,hi,_⟩;omega
 |succ k ih=>
  have ih:=ih oaa;have hst:=hn.stop _ (ai<|show k<n.rules.length by omega);have hl:=oJ n k;show ae (du n k (eD n k)<|length<|fH n (ae n.rules k).stop) v=true↔_;rw[Jb _ _ _ _ _ (by rw[lT,hl];exact afG _),lT,if_pos hv,agX,il _ _ _ _ (by rw[hl];omega)];have hfb:ae (fH n (ae n.rules k).stop) v=true↔Rp (gN n) (ae n.rules k).stop.toNat v:=by grind[fH,Bh,lS,aH]
  grind
theorem aez(l:lXB):r65 l=cz l.length (λi=> !(ae l i)):=by have e:rR l=λi=> !(ae l i):=(by grind[rR]);unfold r65 r90 DM;grind
theorem Rp.cons{g:List lXC}{a b c:Nat}(e:Edg g a b)(r:Rp g b c):Rp g a c:=(Rp.one e).trans r
section
variable{n:Net}
theorem D0(hn:cc n){a b:Nat}:Rp (gN n) a b↔Rp (gA okF n) b a:=by
 have he: ∀x y,Edg (gN n) x y↔Edg (gA okF n) y x:=λx y=>by
  rw[Bv hn.to,pX];constructor
  ·rintro⟨_,e,h1,h2⟩;exact⟨e,h1,rfl,h2⟩
  ·rintro⟨e,h1,_,h2⟩;refine⟨?_,e,h1,h2⟩;by_cases hy:y<n.aa.length
   ·exact hy
   simp_all[ae,default,instInhabitedState.default]
 constructor
 ·intro h;induction h with
  |one e=>exact .one ((he _ _).1 e)
  |step _ e ih=>exact Rp.cons ((he _ _).1 e) ih
 ·intro h;induction h with
  |one e=>exact .one ((he _ _).2 e)
  |step _ e ih=>exact Rp.cons ((he _ _).2 e) ih
theorem aaX(ho:Own n)(hn:cc n){a b:Nat}(h:Rp (gA okF n) a b):(ae n.aa b).aI=(ae n.aa a).aI:=by
 have one: ∀x y,Edg (gA okF n) x y->(ae n.aa y).aI=(ae n.aa x).aI:=λx y e=>by have hx:=yD e;rw[pY]at hx;obtain⟨d,hd,_,h2⟩:=pX.1 e;have:=ho.to _ (ai hx) d hd;rw[<-this,<-h2];rfl
 induction h with
 |one e=>exact one _ _ e
 |step _ e ih=>exact(one _ _ e).trans ih
theorem OG(hn:cc n)(ho:Own n):oI n=false↔ ∀v,v<n.aa.length->((aB n.rules (ae n.aa v).aI).stop.toNat=v\/Rp (gA okF n) v (aB n.rules (ae n.aa v).aI).stop.toNat):=by
 unfold oI;rw[bL];have key: ∀v,v<n.aa.length->(uk n v=false↔((aB n.rules (ae n.aa v).aI).stop.toNat=v\/Rp (gA okF n) v (aB n.rules (ae n.aa v).aI).stop.toNat)):=λv hv=>by have hr:=ho.aI _ (ai hv);have hs:=hn.stop _ (lP<|.inr hr);have e:aB (kS n ((v:Nat):Int)) (aB n.rules (ae n.aa v).aI).stop=dec ((aB n.rules (ae n.aa v).aI).stop.toNat=v\/Rp (gA okF n) v (aB n.rules (ae n.aa v).aI).stop.toNat):=x9 oaa;grind[uk,aH]
 simp_all
theorem aeA(hn:cc n)(ho:Own n):r29 n= !(oI n):=by
 have hl:=oJ n n.rules.length;have h1:r29 n=true↔ ∀v,v<n.aa.length->ae (eD n n.rules.length) v=true:=by grind[r29,aez,bL]
 have h3:r29 n=true↔oI n=false:=by
  rw[h1,OG hn ho];refine forall_congr' λv=> ?_;refine imp_congr_right λhv=> ?_;rw[Jc hn _ _ (afG _) hv];have hr:=ho.aI _ (ai hv);constructor
  ·rintro⟨i,hi,h⟩;have hsi:=ho.stop i hi;have hri:(ae n.aa v).aI=(i:Nat):=by
    rcases h with h|h
    ·rw[h];exact hsi
    ·have:=aaX ho hn ((D0 hn).1 h);rw[<-this];exact hsi
   have hg:aB n.rules (ae n.aa v).aI=ae n.rules i:=by rw[hri];rfl
   grind[D0]
  ·intro h;refine⟨(ae n.aa v).aI.toNat,by omega,?_⟩;exact h.imp (λe=>e.symm) (D0 hn).2
 grind
theorem Jd(h:r24 n=r25 n):vP n=vO n:=by unfold vP vO;congr 1;funext i;unfold yz yk;rw[h]
end
structure FM(N:Nat)(y z:fI)(l:lXA):Prop where
 len:z.2.1.length=y.2.1.length
 up: ∀v:Nat,ae y.2.1 v=true->ae z.2.1 v=true
 all: ∀x∈l,ae z.2.1 x.toNat=true
 dn: ∀v:Nat,ae z.2.1 v=true->ae y.2.1 v=true\/((v:Nat):Int)∈l
 le:y.1<=z.1
 kt:z.1<=z.2.2.length
 old: ∀j,j<y.1->ae z.2.2 j=ae y.2.2 j
 new: ∀j,y.1<=j->j<z.1->ae z.2.2 j∈l
 on: ∀v:Nat,ae z.2.1 v=true->ae y.2.1 v=true\/ ∃j,j<z.1/\ae z.2.2 j=((v:Nat):Int)
theorem FM.refl{N:Nat}{y:fI}(h:y.1<=y.2.2.length):FM N y y []:=⟨rfl,λ_ h=>h,λx h=>by simp at h,λ_ h=> .inl h,afG _,h,λ_ _=>rfl,λj h1 h2=>by omega,λ_ h=> .inl h⟩
def FM.push{N:Nat}{y:fI}(hl:y.2.1.length=N)(hk:y.1<=y.2.2.length){x:Int}(h0:0<=x/\x<(N:Int)):FM N y (gj y x) [x]:=by
 unfold gj;cases hx:ae y.2.1 x.toNat with
 |true=>
  refine⟨rfl,λ_ h=>h,λz hz=> ?_,λ_ h=> .inl h,afG _,hk,λ_ _=>rfl,λj h1 h2=> ?_,λ_ h=> .inl h⟩
  ·rw[agO.1 hz];exact hx
  grind
 |false=>
  simp only[agx,afN];have hci: ∀v,ae (List.set y.2.1 x.toNat true) v=if v=x.toNat then true else ae y.2.1 v:=λv=>il _ _ _ _ oaa
  have hpl: ∀j,j<y.1->ae (List.take y.1 y.2.2++ [x]) j=ae y.2.2 j:=(by grind[ae]);have hpa:ae (List.take y.1 y.2.2++ [x]) y.1=x:=by grind[ae]
  refine⟨af3,λv h=> ?_,λz hz=> ?_,λv h=> ?_,Nat.le_succ _,?_,hpl,λj h1 h2=> ?_,λv h=> ?_⟩
  ·simp_all
  ·simp_all
  ·grind
  ·simp_all
  ·grind
  grind
theorem FM.trans{N:Nat}{a b c:fI}{l m:lXA}(h:FM N a b l)(k:FM N b c m):FM N a c (l++m) where
 len:=k.len.trans h.len
 up:=λv hv=>k.up v (h.up v hv)
 all:=λx hx=>(agn.1 hx).elim (λhx=>k.up _<|h.all x hx) (k.all x)
 dn:=λv hv=>(k.dn v hv).elim (λhv=>(h.dn v hv).imp id λhm=>ag6 _ hm) λhm=> .inr (List.mem_append_right _ hm)
 le:=agr h.le k.le
 kt:=k.kt
 old:=λj hj=>(k.old j<|agz hj h.le).trans (h.old j hj)
 new:=λj h1 h2=>by
  by_cases hj:j<b.1
  ·rw[k.old j hj];exact ag6 _ (h.new j h1 hj)
  ·exact List.mem_append_right _ (k.new j oaa h2)
 on:=λv hv=>(k.on v hv).elim (λhv=>(h.on v hv).imp id λ⟨j,hj,e⟩=>⟨j,agz hj k.le,(k.old j hj).trans e⟩) λhh=> .inr hh
def FM.fold{N:Nat}: ∀(l:lXA){y:fI},y.2.1.length=N->y.1<=y.2.2.length->(∀x∈l,0<=x/\x<(N:Int))->FM N y (l.foldl gj y) l
 |[],_,_,hk,_=>FM.refl hk
 |x::l,y,hl,hk,hr=>by have h1:=FM.push hl hk (hr x ag4);exact h1.trans (FM.fold l (h1.len.trans hl) h1.kt λz hz=>hr z<|af9 _ hz)
structure PI(g:List lXC)(i0:Nat)(w:fI):Prop where
 len:w.2.1.length=g.length
 kt:w.1<=w.2.2.length
 pl: ∀j,j<w.1-> ∃v:Nat,ae w.2.2 j=((v:Nat):Int)/\v<g.length/\(v=i0\/Rp g i0 v)
 mrk: ∀v,ae w.2.1 v=true->Rp g i0 v/\v≠i0
 cl: ∀v,v<g.length->(v=i0\/ae w.2.1 v=true)->(∃j,j<w.1/\ae w.2.2 j=((v:Nat):Int))\/ ∀c,Edg g v c->ae w.2.1 c=true
section
variable{g:List lXC}
theorem pi_0{i0:Nat}(h:i0<g.length):PI g i0 (1,replicate g.length false,[(i0:Int)]):=by
 have e: ∀v,ae (replicate g.length false) v=false:=λv=>by unfold ae;rw[age];split<;>rfl
 refine⟨by simp,afG _,λj hj=> ?_,λv hv=> ?_,λv hv hh=> ?_⟩
 ·obtain rfl:j=0:=by simp only at hj;omega
  exact⟨i0,rfl,h,.inl rfl⟩
 ·simp only[e]at hv;cases hv
 ·rcases hh with rfl|hh
  ·exact .inl ⟨0,ag3 _,rfl⟩
  ·simp only[e]at hh;cases hh
theorem aaY(hw:Wf g){i0:Nat}{w:fI}(h:PI g i0 w)(hk:0<w.1){l:lXA}(hl: ∀x:Int,x∈l↔0<=x/\Edg g (ae w.2.2<|w.1-1).toNat x.toNat)(hn:(i0:Int)∉l):PI g i0 (l.foldl gj (w.1-1,w.2.1,w.2.2)):=by
 obtain⟨s,hs1,hs2,hs3⟩:=h.pl (w.1-1) oaa;rw[hs1,ag0]at hl;have hr: ∀x∈l,0<=x/\x<(g.length:Int):=λx hx=>by obtain⟨h1,h2⟩:=(hl x).1 hx;have:=nH hw h2;omega
 have hf:=FM.fold l (y:=(w.1-1,w.2.1,w.2.2)) h.len (by have:=h.kt;simp only;omega) hr;generalize l.foldl gj (w.1-1,w.2.1,w.2.2)=z at hf;have reach: ∀v:Nat,((v:Nat):Int)∈l->Rp g i0 v:=λv hv=>by
  have:=((hl _).1 hv).2;rw[ag0]at this;rcases hs3 with rfl|h3
  ·exact .one this
  ·exact .step h3 this
 refine⟨hf.len.trans h.len,hf.kt,λj hj=> ?_,λv hv=> ?_,λv hv hh=> ?_⟩
 ·by_cases hjw:j<w.1-1
  ·rw[hf.old j hjw];exact h.pl j oaa
  ·have hm:=hf.new j (by simp only;omega) hj;obtain⟨h1,h2⟩:=hr _ hm;refine⟨(ae z.2.2 j).toNat,by omega,by omega,.inr (reach _ ?_)⟩;rw[show(((ae z.2.2 j).toNat:Nat):Int)=ae z.2.2 j by omega];exact hm
 ·rcases hf.dn v hv with h1|h1
  ·exact h.mrk v h1
  ·exact⟨reach v h1,λe=>hn (e▸h1)⟩
 ·have succ: ∀c,Edg g s c->ae z.2.1 c=true:=λc hc=>by have:=hf.all ((c:Nat):Int) ((hl _).2 ⟨by omega,by rw[ag0];exact hc⟩);rwa[ag0]at this
  have oldc:(v=i0\/ae w.2.1 v=true)->(∃j,j<z.1/\ae z.2.2 j=((v:Nat):Int))\/ ∀c,Edg g v c->ae z.2.1 c=true:=λhh=>by
   rcases h.cl v hv hh with⟨j,hj,e⟩|h1
   ·by_cases hjw:j<w.1-1
    ·exact .inl ⟨j,agz hjw hf.le,(hf.old j hjw).trans e⟩
    ·right;obtain rfl:j=w.1-1:=by omega
     rw[hs1]at e;obtain rfl:s=v:=by omega
     exact succ
   ·exact .inr λc hc=>hf.up c (h1 c hc)
  rcases hh with hh|hh
  ·exact oldc (.inl hh)
  ·rcases hf.on v hh with h1|h1
   ·exact oldc (.inr h1)
   ·exact .inl h1
theorem aeB(hw:Wf g){i0:Nat}(hi:i0<g.length){w:fI}(h:PI g i0 w)(hk:w.1=0): ¬Rp g i0 i0:=λhr=>by
 have cl: ∀v,v<g.length->(v=i0\/ae w.2.1 v=true)-> ∀c,Edg g v c->ae w.2.1 c=true:=λv hv hh=>by
  rcases h.cl v hv hh with⟨j,hj,_⟩|h1
  ·omega
  ·exact h1
 have:ae w.2.1 i0=true/\i0<g.length:=by
  rcases hr.head with h1|⟨c,h1,h2⟩
  ·exact⟨cl i0 hi (.inl rfl) _ h1,hi⟩
  ·exact Rp.closed (D:=λv=>ae w.2.1 v=true/\v<g.length) (λv hv c hc=>⟨cl v hv.2 (.inr hv.1) c hc,nH hw hc⟩) ⟨cl i0 hi (.inl rfl) c h1,nH hw h1⟩ h2
 exact(h.mrk i0 this.1).2 rfl
theorem aeC{i0:Nat}{w:fI}(h:PI g i0 w)(hk:0<w.1){l:lXA}(hl: ∀x:Int,x∈l↔0<=x/\Edg g (ae w.2.2<|w.1-1).toNat x.toNat)(hm:(i0:Int)∈l):Rp g i0 i0:=by
 obtain⟨s,hs1,_,hs3⟩:=h.pl (w.1-1) oaa;have e:=((hl _).1 hm).2;rw[hs1,ag0,ag0]at e;rcases hs3 with rfl|h3
 ·exact .one e
 ·exact .step h3 e
theorem search(hw:Wf g){i0:Nat}(hi:i0<g.length){T:fI->lXA}{it:Nat->fI}{t:fI->Bool}(h0:it 0=(1,replicate g.length false,[(i0:Int)]))(hs: ∀k,PI g i0 (it k)->0<(it k).1->it (k+1)=(T<|it k).foldl gj ((it k).1-1,(it k).2.1,(it k).2.2))(hT: ∀w,PI g i0 w->0<w.1-> ∀x:Int,x∈T w↔0<=x/\Edg g (ae w.2.2<|w.1-1).toNat x.toNat)(ht: ∀w,PI g i0 w->(t w=true↔(0<w.1->(i0:Int)∈T w)))(ex: ∃k,t (it k)=true):0<(it<|dL t it).1↔Rp g i0 i0:=by
 obtain⟨hend,hlt⟩:=fR ex;have nt: ∀k,PI g i0 (it k)->t (it k)=false->0<(it k).1/\(i0:Int)∉T (it k):=λk h1 h2=>by
  have h3: ¬(0<(it k).1->(i0:Int)∈T (it k)):=λh=>by rw[(ht _ h1).2 h]at h2;cases h2
  exact⟨Decidable.byContradiction λh=>h3 λh4=>absurd h4 h,λh=>h3 λ_=>h⟩
 have inv: ∀k,k<=dL t it->PI g i0 (it k):=λk=>by
  induction k with
  |zero=>intro _;rw[h0];exact pi_0 hi
  |succ k ih=>intro hk;have h1:=ih oaa;obtain⟨h2,h3⟩:=nt k h1 (hlt k oaa);rw[hs k h1 h2];exact aaY hw h1 h2 (hT _ h1 h2) h3
 have hp:=inv _ (afG _);constructor
 ·exact λh=>aeC hp h (hT _ hp h) ((ht _ hp).1 hend h)
 ·exact λh=>Decidable.byContradiction λhn=>aeB hw hi hp oaa h
end
noncomputable def gE(n:Net)(emp:lXB):List lXC:=n.aa.map λs=>(s.ah.flatMap<|tgE n emp).map Int.toNat
theorem yE(n:Net)(emp:lXB):(gE n emp).length=n.aa.length:=afK _
theorem Wh(n:Net):jt n=gE n (r24 n):=by simp_all[jt,yw,gE]
theorem Wi{n:Net}{emp:lXB}{a c:Nat}:Edg (gE n emp) a c↔ ∃x∈(ae n.aa a).ah.flatMap (tgE n emp),x.toNat=c:=by
 have e:ae (gE n emp) a=((ae n.aa a).ah.flatMap<|tgE n emp).map Int.toNat:=by unfold gE ae;rw[afM];cases n.aa[a]? <;>rfl
 unfold Edg;rw[e,agl]
def D1{n:Net}(hn:cc n)(emp:lXB){a:Nat}(ha:a<n.aa.length): ∀x∈(ae n.aa a).ah.flatMap (tgE n emp),0<=x/\x<(n.aa.length:Int):=λx hx=>by obtain⟨e,he,hx⟩:=List.mem_flatMap.1 hx;exact vM hn emp (s:=((a:Nat):Int)) he x hx
def gE_wf{n:Net}(hn:cc n)(emp:lXB):Wf (gE n emp):=λR hR c hc=>by obtain⟨a,ha,rfl⟩:=bP hR;rw[yE]at ha⊢;obtain⟨x,hx,rfl⟩:=Wi.1 (show Edg (gE n emp) a c from hc);have:=D1 hn emp ha x hx;omega
def gE_T{n:Net}(hn:cc n)(emp:lXB){a:Nat}(ha:a<n.aa.length)(x:Int):x∈(ae n.aa a).ah.flatMap (tgE n emp)↔0<=x/\Edg (gE n emp) a x.toNat:=by
 rw[Wi];constructor
 ·intro h;exact⟨(D1 hn emp ha x h).1,x,h,rfl⟩
 ·rintro⟨h0,y,hy,e⟩;have:=(D1 hn emp ha y hy).1;grind
def tz{α:Type}[Inhabited α](l:List α)(f:α->lXA)(y:fI){ac:Nat->fI}(h0:ac 0=y)(hs: ∀i,i<l.length->ac (i+1)=(f<|ae l i).foldl gj (ac i)):ac l.length=(l.flatMap f).foldl gj y:=by
 have key: ∀i,i<=l.length->ac i=((range i).flatMap λk=>f<|ae l k).foldl gj y:=λi=>by
  induction i with
  |zero=>intro _;rw[h0];rfl
  |succ i ih=>grind[List.range_succ]
 grind[kT]
theorem GA(n:Net)(emp:lXB)(i0:Nat)(w:fI)(i:Nat):nM n emp i0 w i=true↔(i0:Int)∈tgE n emp (ae (aB n.aa<|ae w.2.2<|w.1-1).ah i):=by unfold nM tgE;grind
theorem aeD{n:Net}(hn:cc n)(emp:lXB):r35 n emp=iy (gE n emp):=by
 have one: ∀i0,i0<n.aa.length->(rJ n emp i0=true↔Rp (gE n emp) i0 i0):=λi0 hi=>by
  have hs:=search (g:=gE n emp) (gE_wf hn emp) (i0:=i0) (by rw[yE];exact hi) (T:=λw=>(aB n.aa<|ae w.2.2<|w.1-1).ah.flatMap<|tgE n emp) (it:=dM n emp i0) (t:=jY n emp i0) (by
    show(1,replicate (length<|map aj n.aa) false,[(i0:Int)])=_;rw[yE,afK]) (λk _ _=>by
    exact tz (aB n.aa<|ae (dM n emp i0 k).2.2<|(dM n emp i0 k).1-1).ah (tgE n emp) _ (ac:=bf n emp i0<|dM n emp i0 k) rfl λi _=>Dx n emp i0 _ i _) (λw hp hk x=>by
    obtain⟨s,h1,h2,_⟩:=hp.pl (w.1-1) oaa;rw[yE]at h2;rw[h1,ag0];exact gE_T hn emp h2 x) (λw hp=>by
    unfold jY;by_cases hk:0<w.1
    ·rw[show decide (((w.1:Nat):Int)>0)=true from afH oaa,afN];unfold Dy;rw[ff];constructor
     ·grind[ai,GA]
     ·intro h;obtain⟨e,he,hx⟩:=List.mem_flatMap.1 (h hk);obtain⟨i,h1,rfl⟩:=bP he;exact⟨i,h1,(GA n emp i0 w i).2 hx⟩
    simp_all) (T5 hn emp i0 hi).1
  rw[<-hs];show decide ((((LC n emp i0).1:Nat):Int)>0)=true↔0<(LC n emp i0).1;rw[aha];omega
 show cz n.aa.length (rJ n emp)=iy (gE n emp);have h:cz n.aa.length (rJ n emp)=true↔iy (gE n emp)=true:=by
  rw[ff];unfold iy;rw[aH];constructor
  ·grind
  ·rintro⟨i,h⟩;have hi:i<n.aa.length:=by grind[yE,h.head,yD]
   exact⟨i,hi,(one i hi).2 h⟩
 simp_all
theorem aaZ{n:Net}(hn:cc n)(h:r24 n=r25 n):iy (jt n)=r35 n (r25 n):=by rw[Wh,h,aeD hn]
noncomputable def clR(n:Net)(r:Int):lXA:=n.aa.flatMap λs=>bif s.aI !=r then []else s.ah.flatMap tgC
noncomputable def gK(n:Net):List lXC:=(range n.rules.length).map λr=>(clR n ((r:Nat):Int)).map Int.toNat
theorem yF(n:Net):(gK n).length=n.rules.length:=by simp[gK]
theorem aa0{e:Edge}{x:Int}:x∈tgC e↔e.op=2/\x=e.n:=by unfold tgC;grind
section
variable{n:Net}
theorem oK{r x:Int}:x∈clR n r↔ ∃s∈n.aa,s.aI=r/\ ∃e∈s.ah,e.op=2/\x=e.n:=by grind[clR,aa0]
theorem D2(hn:cc n){r x:Int}(h:x∈clR n r):0<=x/\x<(n.rules.length:Int):=by obtain⟨s,hs,_,e,he,h1,rfl⟩:=oK.1 h;exact hn.call s hs e he h1
theorem yG{a c:Nat}(ha:a<n.rules.length):Edg (gK n) a c↔ ∃x∈clR n ((a:Nat):Int),x.toNat=c:=by grind[ae,gK,Edg]
theorem gK_wf(hn:cc n):Wf (gK n):=λR hR c hc=>by obtain⟨a,ha,rfl⟩:=bP hR;rw[yF]at ha⊢;obtain⟨x,hx,rfl⟩:=(yG ha).1 (show Edg (gK n) a c from hc);have:=D2 hn hx;omega
theorem gK_T(hn:cc n){a:Nat}(ha:a<n.rules.length)(x:Int):x∈clR n ((a:Nat):Int)↔0<=x/\Edg (gK n) a x.toNat:=by
 rw[yG ha];constructor
 ·intro h;exact⟨(D2 hn h).1,x,h,rfl⟩
 ·rintro⟨h0,y,hy,e⟩;have:=(D2 hn hy).1;grind
end
section
variable(n:Net)(i0:Nat)(w:fI)(i:Nat)
theorem OH(y:fI):cB n i0 w i y (ae n.aa i).ah.length=((ae n.aa i).ah.flatMap tgC).foldl gj y:=tz (ae n.aa i).ah tgC y (ac:=cB n i0 w i y) rfl λk _=>Bo n i0 w i y k _
theorem OI(y:fI):DE n i0 w i y=((λs:State=>bif s.aI !=ae w.2.2 (w.1-1)then []else s.ah.flatMap tgC)<|ae n.aa i).foldl gj y:=by unfold DE;simp only[OH];grind
theorem GB:pc n i0 w i=true↔(ae n.aa i).aI=ae w.2.2 (w.1-1)/\ ∃e∈(ae n.aa i).ah,e.op=2/\(i0:Int)=e.n:=by
 unfold pc DD;rw[afv,ff];refine and_congr oaf ?_;constructor
 ·grind[rK,ai]
 ·rintro⟨e,he,h1,h2⟩;obtain⟨k,hk,rfl⟩:=bP he;refine⟨k,hk,?_⟩;grind[rK]
end
theorem acv{n:Net}(hn:cc n){i0:Nat}(hi:i0<n.rules.length):uj n i0 (Gn n i0)=true↔Rp (gK n) i0 i0:=by
 have hs:=search (g:=gK n) (gK_wf hn) (i0:=i0) (by rw[yF];exact hi) (T:=λw=>clR n<|ae w.2.2<|w.1-1) (it:=dZ n i0) (t:=jZ n i0) (by
   show(1,replicate (length<|map aw n.rules) false,[(i0:Int)])=_;rw[yF,afK]) (λk _ _=>by
   exact tz n.aa (λs:State=>bif s.aI !=ae (dZ n i0 k).2.2 ((dZ n i0 k).1-1)then []else s.ah.flatMap tgC) _ (ac:=dt n i0<|dZ n i0 k) rfl λi _=>OI n i0 _ i _) (λw hp hk x=>by
   obtain⟨s,h1,h2,_⟩:=hp.pl (w.1-1) oaa;grind[yF,gK_T]) (λw hp=>by
   unfold jZ;by_cases hk:0<w.1
   ·rw[show decide (((w.1:Nat):Int)>0)=true from afH oaa,afN];unfold DF;rw[ff];constructor
    ·grind[GB,oK,ai]
    ·intro h;obtain⟨s,hs,h3,h4⟩:=oK.1 (h hk);obtain⟨i,h1,rfl⟩:=bP hs;exact⟨i,h1,(GB n i0 w i).2 ⟨h3,h4⟩⟩
   simp_all) (Uz hn i0 hi).1
 rw[<-hs];show decide ((((Gn n i0).1:Nat):Int)>0)=true↔0<(Gn n i0).1;rw[aha];omega
def acw(n:Net):Prop:= ∀s∈n.aa,∀e∈s.ah,e.op=2->(aB n.rules e.n).bR=(aB n.rules s.aI).bR
theorem OJ{n:Net}(hr: ∀s∈n.aa,0<=s.aI/\s.aI<(n.rules.length:Int)){a c:Nat}:Edg (ga n) a c↔ ∃s∈n.aa,s.aI.toNat=a/\ ∃e∈s.ah,e.op=2/\(aB n.rules e.n).bR=true/\e.n.toNat=c:=by
 have e:ae (ga n) a=(ae (pd n) a).map Int.toNat:=by unfold ga ae;rw[afM];cases (pd n)[a]? <;>rfl
 have ht: ∀(x:Int)(d:Edge),x∈tgL n d↔d.op=2/\(aB n.rules d.n).bR=true/\x=d.n:=λx d=>by unfold tgL;grind
 grind[Edg,tp]
theorem aa1{n:Net}(hn:cc n)(hr: ∀s∈n.aa,0<=s.aI/\s.aI<(n.rules.length:Int))(hx:acw n):iy (ga n)=r36 n:=by
 have hed: ∀a c,Edg (ga n) a c↔a<n.rules.length/\(ae n.rules a).bR=true/\(ae n.rules c).bR=true/\Edg (gK n) a c:=λa c=>by
  rw[OJ hr];constructor
  ·rintro⟨s,hs,h1,d,hd,h3,h4,rfl⟩;have hrs:=hr s hs;have hlx:=hx s hs d hd h3;have ha:a<n.rules.length:=by omega
   have e1:aB n.rules s.aI=ae n.rules a:=by rw[<-h1];rfl
   refine⟨ha,by rw[<-e1,<-hlx];exact h4,h4,(yG ha).2 ⟨d.n,oK.2 ⟨s,hs,by omega,d,hd,h3,rfl⟩,rfl⟩⟩
  ·rintro⟨ha,h1,h2,h3⟩;obtain⟨x,hx2,rfl⟩:=(yG ha).1 h3;obtain⟨s,hs,h4,d,hd,h5,rfl⟩:=oK.1 hx2;exact⟨s,hs,by omega,d,hd,h5,h2,rfl⟩
 have hgo: ∀a c,Rp (gK n) a c->a<n.rules.length->(ae n.rules a).bR=true->Rp (ga n) a c/\(ae n.rules c).bR=true:=λa c h=>by
  have one: ∀a c,a<n.rules.length->(ae n.rules a).bR=true->Edg (gK n) a c->Edg (ga n) a c/\(ae n.rules c).bR=true:=λa c ha hl e=>by obtain⟨x,hx2,rfl⟩:=(yG ha).1 e;obtain⟨s,hs,h4,d,hd,h5,rfl⟩:=oK.1 hx2;have hlx:=hx s hs d hd h5;rw[h4]at hlx;have h6:(ae n.rules d.n.toNat).bR=true:=hlx.trans hl;simp_all
  induction h with
  |one e=>intro ha hl;obtain⟨h1,h2⟩:=one _ _ ha hl e;exact⟨.one h1,h2⟩
  |step _ e ih=>intro ha hl;obtain⟨h1,h2⟩:=ih ha hl;have hb:=yD e;rw[yF]at hb;obtain⟨h3,h4⟩:=one _ _ hb h2 e;exact⟨.step h1 h3,h4⟩
 have h:cz n.rules.length (nN n)=true↔iy (ga n)=true:=by
  rw[ff];unfold iy;rw[aH];constructor
  ·grind[nN,acv]
  ·rintro⟨i,h⟩;have h1:i<n.rules.length/\(ae n.rules i).bR=true:=by grind[h.head]
   refine⟨i,h1.1,?_⟩;unfold nN;rw[agS,h1.2,agj];exact(acv hn h1.1).2 (h.mono λa b e=>((hed a b).1 e).2.2.2)
 show iy (ga n)=cz n.rules.length (nN n);simp_all
theorem mB(n:Net)(s r:Int):r62 n s r=r67 n s r:=rfl
theorem nU(g:G):r81 g=r93 g:=rfl
def mR(x:Int):Prop:= -2147483648<=x/\x<=2147483647
def aeE{s:List (Int×Int)}(h: ∀r∈s,mR r.1/\mR r.2){i:Nat}(hi:i<s.length):ru s i=o8 s i:=by unfold ru o8;have h1:=(h _<|ai hi).1;have h2:=(h _<|ai<|show i-1<s.length by omega).2;grind[mR,wrap_i64]
def aeF{s:List (Int×Int)}(h: ∀r∈s,mR r.1/\mR r.2):r64 s=r91 s:=by
 have e:C6 s=my s:=by
  have: ∀i,i<s.length->ru s i=o8 s i:=λi hi=>aeE h hi;cases e2:my s with
  |true=>obtain⟨i,hi,ht⟩:=ff.1 e2;exact ff.2 ⟨i,hi,(this i hi).trans ht⟩
  |false=>exact bL.2 λi hi=>(this i hi).trans (bL.1 e2 i hi)
 unfold r64 r91;rw[e]
theorem lexOf{n:Net}(h3:r33 n=true):acw n:=λs hs e he h=>by obtain⟨i,hi,rfl⟩:=bP hs;obtain⟨k,hk,rfl⟩:=bP he;have h68:=(nP h3 hi).2 k hk;grind[r68]
section
variable(n:Net)
def X27(r:bJ)(i:Nat):Bool:= !(r67 n r.start i)||(!(r67 n r.stop i)||((r.start==r.stop)||(decide ((length (map aD (aB n.aa r.stop).ah):Int)>0)||((!r.bR&&(r.ft||(r.lazy||r.mode !=0)))||((r.bR&&r.left)||(decide (r.mode<0)||(decide (r.mode>=(length (map aU n.bx):Int))||(bif r.bR&& !r.ft then(decide (r.type<1)||decide (r.type>(length (map aU n.types):Int)))else r.type !=0))))))))
theorem Je(i:Nat):lN n i=(X27 n (ae n.rules i) i||((ae n.rules i).bR&&(!(ae n.rules i).ft&&dec ((ae n.rules i).type∈ck n i)))):=by unfold lN X27;simp only[mB];grind
theorem Wj(i:Nat):lL n i=(X27 n (ae n.rules i) i||((ae n.rules i).bR&&(!(ae n.rules i).ft&&rz n i))):=by unfold lL X27;grind
theorem GC(i:Nat)(x:Int):x∈ck n i↔ ∃j,j<i/\(ae n.rules j).bR=true/\(ae n.rules j).ft=false/\x=(ae n.rules j).type:=by
 induction i with
 |zero=>exact⟨λh=>absurd (show x∈([]:lXA)from h) oaf,λ⟨j,hj,_⟩=>by omega⟩
 |succ i ih=>
  show x∈Dh n i (ck n i)↔_;have e:x∈Dh n i (ck n i)↔x∈ck n i\/((ae n.rules i).bR=true/\(ae n.rules i).ft=false/\x=(ae n.rules i).type):=by unfold Dh;grind
  grind
theorem aeG:r27 n=r32 n:=by
 have h:(∀i,i<n.rules.length->lN n i=false)↔ ∀i,i<n.rules.length->lL n i=false:=by
  constructor
  ·intro h i hi;have h1:=h i hi;rw[Je]at h1;rw[Wj];simp only[afU]at h1⊢;refine⟨h1.1,?_⟩;cases hl:(ae n.rules i).bR with
   |false=>rfl
   |true=>
    cases hf:(ae n.rules i).ft with
    |true=>rfl
    |false=>
     rw[agx,agj,agj];refine bL.2 λj hj=> ?_;unfold ud;refine beq_eq_false_iff_ne.2 λe=> ?_;have hx:=h1.1;unfold X27 at hx;rw[hl,hf]at hx;simp only[agx,agP,afN,afU,af0]at hx;have hge:1<=(ae n.rules i).type:=by have:=hx.2.2.2.2.2.2.2.2.1;omega
     have hj1:=h j oaa;rw[Je]at hj1;simp only[afU]at hj1;cases hlj:((ae n.rules j).bR&& !(ae n.rules j).ft)with
     |false=>grind[X27]
     |true=>simp only[afv,afP]at hlj;have hm:=h1.2;rw[hl,hf,agx,agj,agj]at hm;have:dec ((ae n.rules i).type∈ck n i)=true:=(by grind[aH,GC]);rw[this]at hm;cases hm
  ·intro h i hi;have h1:=h i hi;rw[Wj]at h1;rw[Je];simp only[afU]at h1⊢;refine⟨h1.1,?_⟩;cases hl:(ae n.rules i).bR with
   |false=>rfl
   |true=>
    cases hf:(ae n.rules i).ft with
    |true=>rfl
    |false=>
     rw[agx,agj,agj];have hm:=h1.2;rw[hl,hf,agx,agj,agj]at hm;cases hd:dec ((ae n.rules i).type∈ck n i)with
     |false=>rfl
     |true=>obtain⟨j,hj,_,_,e⟩:=(GC n i _).1 (aH.1 hd);have:=bL.1 hm j hj;grind[ud]
 show(!cz n.rules.length (lN n))= !cz n.rules.length (lL n);congr 1;cases e1:cz n.rules.length (lL n)with
 |false=>grind[bL]
 |true=>
  cases e2:cz n.rules.length (lN n)with
  |true=>rfl
  |false=>grind[bL]
end
theorem beqS{a b:ByteArray}:cp (Array.toList<|ByteArray.data a) (Array.toList<|ByteArray.data b)=true↔a=b:=by
 rw[oh,agQ];constructor
 ·intro h;cases a;simp_all
 ·intro h;rw[h]
theorem beqE{a:ByteArray}:cp (Array.toList<|ByteArray.data a) []=true↔a.size=0:=by
 rw[oh,agQ];constructor
 ·intro h;have:=afQ length h;simpa using this
 simp_all
section
variable(l:lXD)
def NmOk:Prop:= ∀i,i<l.length->(0<(ae l i).size/\(ae l i).size<=40)/\ ∀j,j<i->ae l j≠ae l i
theorem Wk(i:Nat)(x:ByteArray):x∈gz l i↔ ∃j,j<i/\x=ae l j:=by
 induction i with
 |zero=>exact⟨λh=>absurd (show x∈([]:lXD)from h) oaf,λ⟨j,hj,_⟩=>by omega⟩
 |succ i ih=>grind[SY,gz]
theorem Mq:r60 l=true↔NmOk l:=by unfold r60 Dg;rw[afP,bL];refine forall_congr' λi=>imp_congr_right λhi=> ?_;grind[xW,beqE,aH,Wk]
theorem BA(f:Bool)(i:Nat):oH l f i=false↔ ∀j,j<i->ae l j≠ae l i:=by grind[oH,bL,xV,beqS]
theorem aa2:r66 l false=true↔NmOk l:=by unfold r66 rv;rw[afP,bL];refine forall_congr' λi=>imp_congr_right λhi=> ?_;grind[mI,BA]
theorem aeH:r60 l=r66 l false:=by grind[Mq,aa2]
theorem tA(i:Nat):ae (List.drop 1 l) i=ae l (i+1):=by grind[ae]
theorem Wl:r66 l true=true↔(0<l.length->(ae l 0).size=0)/\NmOk (List.drop 1 l):=by
 unfold r66 rv;rw[afP,bL];have e0:mI l true 0=false↔(ae l 0).size=0:=by grind[mI,beqE]
 have es: ∀i,mI l true (i+1)=false↔(0<(ae l<|i+1).size/\(ae l<|i+1).size<=40)/\ ∀j,j<i+1->ae l j≠ae l (i+1):=(by grind[mI,BA]);constructor
 ·intro h;refine⟨λhl=>e0.1 (h 0 hl),λi hi=> ?_⟩;grind[tA]
 ·rintro⟨h0,h⟩ i hi;cases i with
  |zero=>exact e0.2 (h0 hi)
  |succ i=>
   obtain⟨h1,h2⟩:=h i (by rw[ag2];omega);rw[tA]at h1 h2;refine(es i).2 ⟨h1,λj hj=> ?_⟩;cases j with
   |zero=>grind
   |succ j=>grind[tA]
theorem aeI:r61 l=(!(decide<|(length (map aU l):Int)<1)&&(!(decide<|(length (map aU l):Int)>20)&&r66 l true)):=by grind[r61,Wl,Mq,beqE]
end
theorem Wm(n:Net):vL n=vK n:=by unfold vL vK;congr 1;grind[xY,xX]
def le_not(x y:Int):decide (x<=y)= !(decide<|x>y):=by grind
theorem Wn(n:Net):r26 n=r31 n:=by grind[r26,r31,Wm,aeH,aeI]
theorem Wo(n:Net)(i k:Nat)(x:Int):x∈cC n i k↔ ∃j,j<k/\x=(ae (ae n.aa i).ah j).n:=by
 induction k with
 |zero=>exact⟨λh=>absurd (show x∈([]:lXA)from h) oaf,λ⟨j,hj,_⟩=>by omega⟩
 |succ k ih=>
  show x∈Dk n i k (cC n i k)↔_;have e:x∈Dk n i k (cC n i k)↔x∈cC n i k\/x=(ae (ae n.aa i).ah k).n:=by
   unfold Dk;cases hd:dec ((ae (ae n.aa i).ah k).n∈cC n i k)with
   |true=>grind[aH]
   |false=>simp_all
  grind
theorem kH(g:G):r92 g=true↔g.op=0/\g.n=0/\cp (Array.toList<|ByteArray.data g.name) []=true/\((g.kids.length:Nat):Int)=0:=by grind[r92]
theorem GD{p:Prop}:dec p=false↔ ¬p:=by rw[<-Bool.not_eq_true,aH]
section
variable(n:Net)(i k:Nat)(e:Edge)
theorem ed0(he:ae (ae n.aa i).ah k=e)(hset:r64 e.set=r91 e.set)(h0:e.op=0):eQ n i k=false↔r68 n (ae n.aa i) i e=true/\(e.op=4->e.n∉cC n i k):=by unfold eQ r68;rw[he,hset,h0,mB];generalize ae n.aa i=s;simp only[show((0:Int) !=3)=true from rfl,show((0:Int)==0)=true from rfl,show((0:Int)==1)=false from rfl,show((0:Int)==2)=false from rfl,show((0:Int)==4)=false from rfl,show((0:Int)==5)=false from rfl,show((0:Int)==6)=false from rfl,show((0:Int)==7)=false from rfl,show decide ((0:Int)<0)=false from rfl,show decide (wrap .i64 0>=8)=false from rfl,afN,afY,afU,afv,afP,aga,agS,GD,kH,r77,nU,af0,afK,ago,agQ];grind
theorem ed1(he:ae (ae n.aa i).ah k=e)(hset:r64 e.set=r91 e.set)(h0:e.op=1):eQ n i k=false↔r68 n (ae n.aa i) i e=true/\(e.op=4->e.n∉cC n i k):=by unfold eQ r68;rw[he,hset,h0,mB];generalize ae n.aa i=s;simp only[show((1:Int) !=3)=true from rfl,show((1:Int)==0)=false from rfl,show((1:Int)==1)=true from rfl,show((1:Int)==2)=false from rfl,show((1:Int)==4)=false from rfl,show((1:Int)==5)=false from rfl,show((1:Int)==6)=false from rfl,show((1:Int)==7)=false from rfl,show decide ((1:Int)<0)=false from rfl,show decide (wrap .i64 1>=8)=false from rfl,afN,afY,afU,afv,afP,aga,agS,GD,kH,r78,nU,af0,afK,ago,agQ];grind
theorem ed2(he:ae (ae n.aa i).ah k=e)(hset:r64 e.set=r91 e.set)(h0:e.op=2):eQ n i k=false↔r68 n (ae n.aa i) i e=true/\(e.op=4->e.n∉cC n i k):=by unfold eQ r68;rw[he,hset,h0,mB];generalize ae n.aa i=s;simp only[show((2:Int) !=3)=true from rfl,show((2:Int)==0)=false from rfl,show((2:Int)==1)=false from rfl,show((2:Int)==2)=true from rfl,show((2:Int)==4)=false from rfl,show((2:Int)==5)=false from rfl,show((2:Int)==6)=false from rfl,show((2:Int)==7)=false from rfl,show decide ((2:Int)<0)=false from rfl,show decide (wrap .i64 2>=8)=false from rfl,afN,afY,afU,afv,afP,aga,agS,GD,kH,r79,nU,af0,afK,ago,agQ];grind
theorem ed3(he:ae (ae n.aa i).ah k=e)(hset:r64 e.set=r91 e.set)(h0:e.op=3):eQ n i k=false↔r68 n (ae n.aa i) i e=true/\(e.op=4->e.n∉cC n i k):=by unfold eQ r68;rw[he,hset,h0,mB];generalize ae n.aa i=s;simp only[show((3:Int) !=3)=false from rfl,show((3:Int)==0)=false from rfl,show((3:Int)==1)=false from rfl,show((3:Int)==2)=false from rfl,show((3:Int)==4)=false from rfl,show((3:Int)==5)=false from rfl,show((3:Int)==6)=false from rfl,show((3:Int)==7)=false from rfl,show decide ((3:Int)<0)=false from rfl,show decide (wrap .i64 3>=8)=false from rfl,afN,afY,afU,afv,afP,aga,agS,GD,kH,r80,nU,af0,afK,ago,agQ];grind
theorem ed4(he:ae (ae n.aa i).ah k=e)(hset:r64 e.set=r91 e.set)(h0:e.op=4):eQ n i k=false↔r68 n (ae n.aa i) i e=true/\(e.op=4->e.n∉cC n i k):=by unfold eQ r68;rw[he,hset,h0,mB];generalize ae n.aa i=s;simp only[show((4:Int) !=3)=true from rfl,show((4:Int)==0)=false from rfl,show((4:Int)==1)=false from rfl,show((4:Int)==2)=false from rfl,show((4:Int)==4)=true from rfl,show((4:Int)==5)=false from rfl,show((4:Int)==6)=false from rfl,show((4:Int)==7)=false from rfl,show decide ((4:Int)<0)=false from rfl,show decide (wrap .i64 4>=8)=false from rfl,afN,afY,afU,afv,afP,aga,agS,GD,kH,r83,nU,af0,afK,ago,agQ];grind
theorem ed5(he:ae (ae n.aa i).ah k=e)(hset:r64 e.set=r91 e.set)(h0:e.op=5):eQ n i k=false↔r68 n (ae n.aa i) i e=true/\(e.op=4->e.n∉cC n i k):=by unfold eQ r68;rw[he,hset,h0,mB];generalize ae n.aa i=s;simp only[show((5:Int) !=3)=true from rfl,show((5:Int)==0)=false from rfl,show((5:Int)==1)=false from rfl,show((5:Int)==2)=false from rfl,show((5:Int)==4)=false from rfl,show((5:Int)==5)=true from rfl,show((5:Int)==6)=false from rfl,show((5:Int)==7)=false from rfl,show decide ((5:Int)<0)=false from rfl,show decide (wrap .i64 5>=8)=false from rfl,afN,afY,afU,afv,afP,aga,agS,GD,kH,r84,nU,af0,afK,ago,agQ];grind
theorem ed6(he:ae (ae n.aa i).ah k=e)(hset:r64 e.set=r91 e.set)(h0:e.op=6):eQ n i k=false↔r68 n (ae n.aa i) i e=true/\(e.op=4->e.n∉cC n i k):=by unfold eQ r68;rw[he,hset,h0,mB];generalize ae n.aa i=s;simp only[show((6:Int) !=3)=true from rfl,show((6:Int)==0)=false from rfl,show((6:Int)==1)=false from rfl,show((6:Int)==2)=false from rfl,show((6:Int)==4)=false from rfl,show((6:Int)==5)=false from rfl,show((6:Int)==6)=true from rfl,show((6:Int)==7)=false from rfl,show decide ((6:Int)<0)=false from rfl,show decide (wrap .i64 6>=8)=false from rfl,afN,afY,afU,afv,afP,aga,agS,GD,kH,r85,nU,af0,afK,ago,agQ];grind
end
theorem OK(n:Net)(s:State)(i:Int)(e:Edge):Db n s i e=e.ct.any λa=> !(r89 n a):=jI (λa=> !(r95 n a)) e.ct
section
variable(n:Net)(i k:Nat)(e:Edge)
theorem ed7(he:ae (ae n.aa i).ah k=e)(hset:r64 e.set=r91 e.set)(h0:e.op=7):eQ n i k=false↔r68 n (ae n.aa i) i e=true/\(e.op=4->e.n∉cC n i k):=by unfold eQ r68;rw[he,hset,h0,mB,OK];generalize ae n.aa i=s;simp only[show((7:Int) !=3)=true from rfl,show((7:Int)==0)=false from rfl,show((7:Int)==1)=false from rfl,show((7:Int)==2)=false from rfl,show((7:Int)==4)=false from rfl,show((7:Int)==5)=false from rfl,show((7:Int)==6)=false from rfl,show((7:Int)==7)=true from rfl,show decide ((7:Int)<0)=false from rfl,show decide (wrap .i64 7>=8)=false from rfl,afN,afY,afU,afv,afP,aga,agS,GD,kH,r86,nU,af0,afK,ago,agQ];grind
theorem edX(he:ae (ae n.aa i).ah k=e)(h8: -128<=e.op/\e.op<=127)(h0:e.op<0\/8<=e.op):eQ n i k=false↔r68 n (ae n.aa i) i e=true/\(e.op=4->e.n∉cC n i k):=by
 have hw:wrap .i64 e.op=e.op:=wrap_i64 oaa oaa;have ne: ∀j:Int,0<=j->j<8->(e.op==j)=false:=λj h1 h2=>beq_eq_false_iff_ne.2 oaa;constructor
 ·grind[eQ]
 simp_all[r68]
end
structure tB(n:Net):Prop where
 op: ∀s∈n.aa,∀e∈s.ah,-128<=e.op/\e.op<=127
 set: ∀s∈n.aa,∀e∈s.ah,∀r∈e.set,mR r.1/\mR r.2
theorem aa3{n:Net}(hx:tB n){i k:Nat}(hi:i<n.aa.length)(hk:k<(ae n.aa i).ah.length):eQ n i k=false↔r68 n (ae n.aa i) i (ae (ae n.aa i).ah k)=true/\((ae (ae n.aa i).ah k).op=4->(ae (ae n.aa i).ah k).n∉cC n i k):=by
 have h8:=hx.op _ (ai hi) _ (ai hk);have hs:=aeF (hx.set _ (ai hi) _<|ai hk);by_cases h:(ae (ae n.aa i).ah k).op<0\/8<=(ae (ae n.aa i).ah k).op
 ·exact edX n i k _ rfl h8 h
 ·have:(ae (ae n.aa i).ah k).op=0\/(ae (ae n.aa i).ah k).op=1\/(ae (ae n.aa i).ah k).op=2\/(ae (ae n.aa i).ah k).op=3\/(ae (ae n.aa i).ah k).op=4\/(ae (ae n.aa i).ah k).op=5\/(ae (ae n.aa i).ah k).op=6\/(ae (ae n.aa i).ah k).op=7:=by omega
  grind[ed0,ed1,ed2,ed3,ed4,ed5,ed6,ed7]
theorem st_eq{n:Net}(hx:tB n){i:Nat}(hi:i<n.aa.length):kE n i=kD n i:=by
 have h:kE n i=false↔kD n i=false:=by
  unfold kE kD;rw[bL,bL];refine forall_congr' λk=>imp_congr_right λhk=> ?_;have h4:vJ n i k=false↔((ae (ae n.aa i).ah k).op=4->(ae (ae n.aa i).ah k).n∉cC n i k):=by
   unfold vJ;rw[bL,Wo];constructor
   ·grind[rA]
   ·intro h j hj;unfold rA;grind
  show eQ n i k=false↔_;grind[aa3,rB]
 simp_all
theorem aeJ{n:Net}(hx:tB n):r28 n=r33 n:=by
 have key: ∀i,i<n.aa.length->pb n i=nF n i:=(by grind[pb,nF,st_eq]);show(!cz n.aa.length (pb n))= !cz n.aa.length (nF n);congr 1;cases e1:cz n.aa.length (nF n)with
 |false=>grind[bL]
 |true=>grind[ff]
theorem aeK{n:Net}(hx:tB n):r10 n=r11 n:=by
 unfold r10 r11;rw[Wn,aeG,aeJ hx];cases h1:r31 n with
 |false=>rfl
 |true=>
  cases h2:r32 n with
  |false=>rfl
  |true=>
   cases h3:r33 n with
   |false=>rfl
   |true=>have hn:=UO h2 h3;have ho:=ownOf h2 h3;have he:=aaW hn ho.ne;rw[aeA hn ho,Jd he,aaZ hn he,aa1 hn ho.aI (lexOf h3)];simp only[Bool.not_true,agS,afY]
section
variable(n:Net)
def i11:bC:=⟨11,[eM n],I (r11 n),bW n⟩
def g11:(i11 n).bu pg:=bI λhp=>LR n hp
def i10:bC:=⟨10,[eM n],I (r10 n),bW n⟩
def g10:(i10 n).bu pg:=bI λhp=>um n hp
def r8:AV:=(bif (r10 n) !=0 then .v (.slice none 0 0)else .sl 1 (map az<|r24 n))
end
end Go.Proofs.YtfkjfjalecikkaaGreatDoor
namespace Go.Am
open Go.ChangeShapes Go.WideShapes Go.RowKit
def uo(W W':World):Prop:=W'.os=W.os/\W'.output=W.output/\W.heap.size<=W'.heap.size/\ ∀i,i<W.heap.size->W'.heap[i]? =W.heap[i]?
def uo.frame{W W':World}(h:uo W W')(may:MemPlace->Prop):W.keptBut W' may:=by obtain⟨h1,h2,h3,h4⟩:=h;refine⟨h1,h2,λi hi=> ?_⟩;grind
theorem uo.frozen{W W':World}(h:uo W W')(a:Addr)(ha:a.block<W.heap.size):W'.frozen? a=W.frozen? a:=by simp only[World.frozen?,h.2.2.2 a.block ha]
def sd(W:World)(h: ∀a x,qg a=some x->W.cell? a=some x):Mem:=⟨λa=>W.cell? a,h⟩
theorem _root_.Go.Am.lX.qg{W:World}(h:lX W): ∀a x,qg a=some x->W.cell? a=some x:=by
 rintro⟨b,off,spot⟩ x hx;cases spot with
 |some s=>cases hx
 |none=>
  simp only[Am.qg]at hx;split at hx
  ·rename_i cs hl;obtain⟨t,fr,e⟩:=h b cs hl;simpa [World.cell?,e]using hx
  ·cases hx
def OL(W:World)(hT:lX W):Inv (sd W hT.qg) (λ_=>none) [] W:=⟨λ_ _ h=>h,λo X h=>by simp at h,λo o' b C C' h=>by obtain⟨X,h,_⟩:=h;simp at h,λo b C h=>by simp at h,λo h=>by simp at h,hT⟩
def Ao{P:Program}{f:FuncId}{args:lXF}{r:Value}(h:aQ P f args [] [] (.v r) [])(W:World)(hT:lX W){vs:List Value}(hv:au (sd W hT.qg) (λ_=>none) args vs):Calls P f vs.toArray W λe W'=>e= .returned r/\uo W W':=by
 refine(h.2 _ _ W vs (OL W hT) hv).mono λe W'⟨m',γ',r',ob',⟨h1,h2⟩,h3,h4,_,_⟩=> ?_;subst h1;have hn: ∀k,¬InG (λ_=>none:Gam) k:=λk⟨o,C,hk⟩=>by simp at hk
 refine⟨?_,h4.os,h4.output,h4.size,λi hi=>h4.blk i hi (hn i)⟩;cases e with
 |returned v=>simp only[l9,Rep]at h3;rw[h3]
 |panicked c=>exact h3.elim
 |outgrown=>exact h3.elim
section
variable{H:Type}{enc:TypeId×Value->H}{P:Program}
theorem D3{f:Func}{s:ChangeSpec}{apart fresh handsOn again:Bool}{W W':World}{args:Array Value}{v:Value}{ds gs:List (DataW H)}{before pa pv:List MemPlace}(hW:DataW.Whole enc P f.params.toList s.vars apart W args.toList ds gs before)(hres: ∀(b:Nat)(sp:Nat->Bool)(hd:Bool),DataW.TrodAll enc P W' b sp hd f.resultTypes.toList (v.resultList f.resultTypes.size) (s.fn H<|ds++gs).results [])(hargs: ∀sp:Nat->Bool,(∀p∈before,sp p.block=true)->DataW.TrodAll enc P W' 0 sp true f.params.toList args.toList (s.fn H<|ds++gs).args pa)(hvars: ∀sp:Nat->Bool,(∀p∈before,sp p.block=true)->DataW.TrodVars enc P W' sp s.vars (s.fn H<|ds++gs).vars pv)(hps:before=pa++pv)(hk:uo W W')(hok: ∀(j:Nat)(t:TypeId)(r:Value),f.resultTypes[j]? =some t->(v.resultList f.resultTypes.size)[j]? =some r->Value.okWide P W' .any 0 t r):s.post enc P f apart fresh handsOn again W args v W':=by
 have hlt:=hW.lt;have hold: ∀p∈before,(λb=>decide<|b<W.heap.size) p.block=true:=λp hp=>by simpa using hlt p hp
 refine⟨ds,gs,before,[],pa,pv,hW,hres _ _ _,hargs _ hold,hvars _ hold,hk.frame _,λ_=> ?_⟩
 ·obtain⟨_,_,_,_,_,hz,hn⟩:=hW;refine⟨hok,_,_,([]++pa)++pv,⟨[]++pa,pv,trodAll_append (hargs _<|λ_ _=>rfl) (hres _ _ _),hvars _ (λ_ _=>rfl),rfl,?_,?_⟩,?_⟩
  ·intro b off hp;have hp':MemPlace.cell b off∈before:=by rw[hps];simpa using hp
   rw[hk.frozen _ (by simpa [MemPlace.block]using hlt _ hp')];exact hz b off hp'
  ·intro ha;have:=hn ha;rw[hps]at this;simpa using this
  ·intro p hp _;rw[hps];simpa using hp
def Mr(P:Program):Bool:=(range P.types.size).all λt=>
 match P.underlying t with
 |some (.pointer e)=>decide (e<P.types.size)
 |some (.slice e)=>decide (e<P.types.size)&&decide (0<P.cellsOf e)
 |some (.array n e)=>decide (e<P.types.size)&&decide (P.cellsOf t=n*P.cellsOf e)
 |some (.struct fs)=>(fs.toList.all λf=>decide<|f.type<P.types.size)&&decide (P.cellsOf t=(fs.toList.map λf=>P.cellsOf f.type).sum)&&
   (range fs.toList.length).all λj=>(fs.toList[j]?).all λf=>decide (f.offset=((fs.toList.take j).map λf=>P.cellsOf f.type).sum)
 |some (.map _ e)=>decide (e<P.types.size)
 |_=>true
theorem Ms{P:Program}(h:Mr P=true):Kids P (λt=>t<P.types.size)/\ ∀t e,t<P.types.size->P.underlying t=some (.slice e)->0<P.cellsOf e:=by
 have look: ∀t,t<P.types.size->_:=λt ht=>af2.1 h t (ahd.2 ht);refine⟨⟨λ{t e} ht hu=> ?_,λ{t e} ht hu=> ?_,λ{t e n} ht hu=> ?_,λ{t fs} ht hu=> ?_,λ{t k e} ht hu=> ?_⟩,λt e ht hu=> ?_⟩
 ·grind
 ·grind
 ·grind
 ·grind
 ·grind
 grind
theorem se(hP:Mr P=true){W W':World}(hk:uo W W'): ∀{ts:List TypeId}{vs:List Value}{ds:List (DataW H)}{ps:List MemPlace},(∀t∈ts,t<P.types.size)->DataW.TrodAll enc P W 0 (λ_=>true) true ts vs ds ps->(∀p∈ps,p.block<W.heap.size)-> ∀sp:Nat->Bool,(∀p∈ps,sp p.block=true)->DataW.TrodAll enc P W' 0 sp true ts vs ds ps
 |[],_,_,_,_,h,_,_,_=>by obtain⟨rfl,rfl,rfl⟩:=trodAll_nil h;exact trodAll_mk0
 |t::ts,_,_,_,hts,h,hlt,sp,hsp=>by
  obtain⟨v,vs1,d,ds1,p,q,rfl,rfl,rfl,⟨n,h1⟩,h2⟩:=trodAll_cons h;have hc:=DataW.trod_carry (w':=W') n t _ _ h1 (λx hx=>by
   have hb:=hlt x (ag6 _ hx);cases x with
   |cell b off=>show W'.cell? _=W.cell? _;simp only[World.cell?,hk.2.2.2 b hb]
   |map b=>exact hk.2.2.2 b hb)
  exact trodAll_cons_mk ⟨n,DataW.trod_respare (Ms hP).1 (Ms hP).2 n t _ _ (hts t<|ag4 ..) hc (λx hx=>hsp x<|ag6 _ hx)⟩
   (se hP hk (λu hu=>hts u<|af9 _ hu) h2 (λx hx=>hlt x<|List.mem_append_right _ hx) sp<|λx hx=>hsp x<|List.mem_append_right _ hx)
theorem OM{f:Func}{s:ChangeSpec}{apart fresh handsOn again:Bool}{W W':World}{args:Array Value}{ds gs:List (DataW H)}{before:List MemPlace}{tb:TypeId}(hW:DataW.Whole enc P f.params.toList s.vars apart W args.toList ds gs before)(hk:uo W W')(hP:Mr P=true)(hts:f.params.toList.all (λt=>decide<|t<P.types.size)=true)(hv:s.vars=[])(hr:f.resultTypes= #[tb])(hb:P.underlying tb=some .bool)(h1:(s.fn H ds).results=[.lit (.bool true)])(h2:(s.fn H ds).args=ds)(h3:(s.fn H ds).vars=[]):s.post enc P f apart fresh handsOn again W args (.bool true) W':=by
 have hW':=hW;have hlt:=hW.lt;obtain⟨p,q,hA,hV,rfl,_,_⟩:=hW;rw[hv]at hV;obtain⟨rfl,rfl⟩:=trodVars_none hV;have hts': ∀t∈f.params.toList,t<P.types.size:=λt ht=>by simpa using af2.1 hts t ht
 refine D3 (pa:=p) (pv:=[]) hW' ?_ ?_ ?_ rfl hk ?_
 ·intro b sp hd;rw[hr];simp only[agG,h1];exact trodAll_cons_mk (shut_bool hb _) trodAll_mk0
 ·intro sp hsp;simp only[agG,h2];exact se hP hk hts' hA (λx hx=>hlt x<|by simpa using hx) sp (λx hx=>hsp x<|by simpa using hx)
 ·intro sp hsp;rw[hv];simp only[agG,h3];rfl
 ·exact ok_one (by rw[hr]) rfl (okWide_bool_mk hb _)
end
end Go.Am
namespace Go.Proofs.YtfkjfjalecikkaaGreatDoor
open Go.ChangeShapes Go.WideShapes Go.ChangeAt Go.RowKit Go.Am
section
variable{P:Program}{H:Type}{enc:TypeId×Value->H}{W:World}{hW: ∀a x,qg a=some x->W.cell? a=some x}{base:Nat}{v:Value}{d:DataW H}{p:List MemPlace}{α β:Type}
theorem ON{a:Addr}{n:Nat}{cs:List Value}(h:W.cells? 0 a n=some cs):cs.length=n/\ ∀j,j<n->W.cell? (a.add j)=cs[j]? :=by simp only[World.cells?,af7,agL]at h;exact⟨by simpa using mapM_some_length h,λj hj=>mapM_some_get h j j (by simp[hj])⟩
theorem aa4{f:α->lXF}{S:Nat}{Q:α->Prop}{a:Addr}{len cap:Nat}(hlc:len<=cap)(hS:0<S)(hf: ∀x,(f x).length=S)(each: ∀i,i<len-> ∃(x:α)(cs:List Value),Q x/\au (sd W hW) (λ_=>none) (f x) cs/\cs.length=S/\ ∀j,j<S->W.cell? ((a.add<|i*S).add j)=cs[j]?):∃l:List α,l.length=len/\(∀x∈l,Q x)/\Rep (sd W hW) (λ_=>none) (.sl S<|l.map f) (.slice (some a) len cap):=by
 have hall: ∀k,k<=len-> ∃l:List α,l.length=k/\(∀x∈l,Q x)/\ ∀i x,l[i]? =some x-> ∃cs:List Value,au (sd W hW) (λ_=>none) (f x) cs/\cs.length=S/\ ∀j,j<S->W.cell? ((a.add<|i*S).add j)=cs[j]? :=by
  intro k;induction k with
  |zero=>intro _;exact⟨[],rfl,by simp,by simp⟩
  |succ k ih=>
   intro hk;obtain⟨l,h1,h2,h3⟩:=ih oaa;obtain⟨x,cs,hq,hx⟩:=each k oaa;refine⟨l++ [x],by simp[h1],λy hy=> ?_,λi u hu=> ?_⟩
   ·rcases agn.1 hy with hy|hy
    ·exact h2 y hy
    ·simp at hy;subst hy;exact hq
   ·by_cases hi:i<l.length
    ·rw[afO hi]at hu;exact h3 i u hu
    ·rw[agb oaa]at hu;have hil:i=l.length:=by have:=(afF.1 hu).1;simp at this;omega
     subst hil;simp at hu;subst hu;rw[h1];exact⟨cs,hx⟩
 obtain⟨l,hll,hq,hlc2⟩:=hall len (afG _);refine⟨l,hll,hq,?_⟩;simp only[Rep];refine⟨some a,len,cap,rfl,by simp;omega,hlc,?_⟩;by_cases h0:len=0
 ·left;have:l=[]:=agk oaa;rw[this];rfl
 ·right;obtain⟨x0,hx0⟩: ∃x,l[0]? =some x:=⟨_,afR oaa⟩;obtain⟨cs0,hr0,hl0,hc0⟩:=hlc2 0 x0 hx0;obtain⟨ab,ao,spot⟩:=a;have hspot:spot=none:=by have h1:=hc0 0 hS;rw[afR oaa]at h1;simpa [Addr.add]using World.cell?_spot h1
  subst hspot;refine⟨ab,ao,rfl,gX λi r hr=> ?_⟩;rw[afM]at hr;cases hti:l[i]? with
  |none=>rw[hti]at hr;cases hr
  |some x=>
   rw[hti]at hr;simp only[afV,afD]at hr;subst hr;obtain⟨cs,h1,h2,h3⟩:=hlc2 i x hti;refine⟨hf x,eF λj c hcj=> ?_⟩;have hj:j<S:=by have:=(afF.1 hcj).1;rw[hf]at this;exact this
   obtain⟨y,hy,hry⟩:=bX h1 j c hcj;have:=h3 j hj;rw[Addr.add_lit,Addr.add_lit,hy]at this;exact⟨y,this,hry⟩
def Rd(P:Program)(enc:TypeId×Value->H)(W:World)(hW: ∀a x,qg a=some x->W.cell? a=some x)(n:Nat)(f:α->lXF)(Q:α->Prop)(T:TypeId):Prop:=∀cs x,DataW.trod enc P W 0 (λ_=>true) true n T cs=some x->(∀w∈x.1.weights P T,w<=reachBytes)-> ∃a,Q a/\au (sd W hW) (λ_=>none) (f a) cs
theorem nV{e:TypeId}: ∀{l:List (DataW H)}{y:DataW H},y∈l-> ∀w∈y.weights P e,w∈DataW.weightsAll P e l
 |z::l,y,hy,w,hw=>by
  simp only[DataW.weightsAll,agn];rcases agc.1 hy with rfl|hy
  ·exact .inl hw
  ·exact .inr (nV hy w hw)
theorem gq: ∀{ts:List TypeId}{l:List (DataW H)}{i:Nat}{t:TypeId}{y:DataW H},ts[i]? =some t->l[i]? =some y-> ∀w∈y.weights P t,w∈DataW.weightsEach P ts l
 |t::ts,z::l,0,_,_,ht,hy,w,hw=>by grind[DataW.weightsEach]
 |t::ts,z::l,i+1,_,_,ht,hy,w,hw=>by simp only[DataW.weightsEach,agn];exact .inr (gq (i:=i) (by simpa using ht) (by simpa using hy) w hw)
 |[],_,_,_,_,ht,_,_,_=>by simp at ht
 |_::_,[],_,_,_,_,hy,_,_=>by simp at hy
section
variable{n:Nat}{T:TypeId}
theorem gF{k:IntKind}(ht:P.underlying T=some (.int k)):Rd P enc W hW n (λz=>[.v (.int k z)]) (λz=>(Lit.int k z).wf=true) T:=λcs x h _=>by grind[DataW.trod_int,au,Rep]
theorem vR(ht:P.underlying T=some .bool):Rd P enc W hW n (λb=>[B b]) (λ_=>True) T:=λcs x h _=>by grind[DataW.trod_bool,au,Rep]
theorem yH(ht:P.underlying T=some .string):Rd P enc W hW n aU (λs=>s.size<=9223372036854775807) T:=λcs x h _=>by obtain⟨z,rfl,_,hz⟩:=DataW.trod_string ht h;exact⟨z,hz,by simp[aU,au,Rep]⟩
end
theorem mC{n:Nat}{f:α->lXF}{Q:α->Prop}{T e:TypeId}{S by':Nat}(ht:P.underlying T=some (.slice e))(hc:P.cellsOf e=S)(hb:P.bytesOf e=by')(hS:0<S)(hf: ∀x,(f x).length=S)(hr: ∀m,m<n->Rd P enc W hW m f Q e):Rd P enc W hW n (λ(l:List α)=>[.sl S (l.map f)]) (λ(l:List α)=>l.length<=9223372036854775807/\l.length*by'<=140737488351232/\ ∀x∈l,Q x) T:=λcs x h hw=>by
 rcases DataW.trod_slice ht h with⟨hcs,_⟩|⟨a,len,cap,elems,rest,m,hm,hcs,hx,_,hl,hmx,hlen,hel,_,_⟩
 ·subst hcs;exact⟨[],by simp,by grind[au,Rep]⟩
 ·subst hcs hx;simp only[DataW.weights,ht,agc,agn]at hw;have h0:=hw _ (.inl rfl);simp only[afK,hlen]at h0;obtain⟨l,h1,h2,h3⟩:=aa4 (S:=S) (f:=f) (Q:=Q) (hW:=hW) (a:=a) hl hS hf λi hi=>by have h1:=hel i hi;rw[hc,afR oaa]at h1;simp only[Option.bind_eq_some_iff]at h1;obtain⟨cs,h2,h3⟩:=h1;obtain⟨hcl,hcell⟩:=ON h2;obtain⟨z,q1,q2⟩:=hr m oaa cs _ h3 λw hw'=>hw w (by grind[nV,List.mem_map_of_mem,List.getElem_mem]);exact⟨z,cs,q1,q2,hcl,hcell⟩
  have:cap<=9223372036854775807:=hmx;grind[reachBytes,au]
theorem wx{n:Nat}{T:TypeId}{fs:Array Field}{cs:List Value}{x:DataW H×List MemPlace}(ht:P.underlying T=some (.struct fs))(h:DataW.trod enc P W 0 (λ_=>true) true n T cs=some x)(hw: ∀w∈x.1.weights P T,w<=reachBytes):∃m,m<n/\cs.length=P.cellsOf T/\ ∀(i:Nat)(fd:Field),fs[i]? =some fd-> ∃y,DataW.trod enc P W 0 (λ_=>true) true m fd.type ((cs.drop fd.offset).take<|P.cellsOf fd.type)=some y/\ ∀w∈y.1.weights P fd.type,w<=reachBytes:=by
 obtain⟨ys,m,hm,hx,hl,hys,hfl⟩:=DataW.trod_struct ht h;subst hx;refine⟨m,by omega,hl,λi fd hfd=> ?_⟩;have hi:i<ys.length:=by rw[hys];exact(agT.1 hfd).1
 have:=hfl i fd hfd;rw[afR hi]at this;refine⟨_,this,λw hw'=>hw w ?_⟩;simp only[DataW.weights,ht];exact gq (i:=i) (t:=fd.type) (by simp[hfd]) (by simp[hi]) w hw'
theorem fld{m:Nat}{f:α->lXF}{Q:α->Prop}{t:TypeId}{cs:List Value}{o s:Nat}{fd:Field}{y:DataW H×List MemPlace}(hr:Rd P enc W hW m f Q t)(ho:fd.offset=o)(hs:P.cellsOf fd.type=s)(hT:fd.type=t)(h:DataW.trod enc P W 0 (λ_=>true) true m fd.type ((cs.drop fd.offset).take<|P.cellsOf fd.type)=some y)(hw: ∀w∈y.1.weights P fd.type,w<=reachBytes): ∃a,Q a/\au (sd W hW) (λ_=>none) (f a) ((cs.drop o).take s):=by rw[ho,hs]at h;rw[hT]at h hw;exact hr _ _ h hw
theorem glue{m:Mem}{g:Gam}{l1 l2:lXF}{cs:List Value}{o s t:Nat}(h1:au m g l1 ((cs.drop o).take s))(h2:au m g l2 ((cs.drop<|o+s).take t)):au m g (l1++l2) ((cs.drop o).take<|s+t):=by grind[List.drop_drop,cu]
theorem whole{m:Mem}{g:Gam}{l:lXF}{cs:List Value}{s:Nat}(hs:cs.length=s)(h:au m g l ((cs.drop 0).take s)):au m g l cs:=by grind
end
section
variable{H:Type}{enc:TypeId×Value->H}{W:World}{hW: ∀a x,qg a=some x->W.cell? a=some x}
theorem u2:Tryz.prog.underlying 2=some (.int .i64):=by kernel_rfl
theorem u3:Tryz.prog.underlying 3=some (.int .i64):=by kernel_rfl
theorem u4:Tryz.prog.underlying 4=some (.bool):=by kernel_rfl
theorem u9:Tryz.prog.underlying 9=some (.string):=by kernel_rfl
theorem u21:Tryz.prog.underlying 21=some (.int .i32):=by kernel_rfl
theorem u22:Tryz.prog.underlying 22=some (.slice 9):=by kernel_rfl
theorem u23:Tryz.prog.underlying 23=some (.slice 51):=by kernel_rfl
theorem u24:Tryz.prog.underlying 24=some (.slice 40):=by kernel_rfl
theorem u26:Tryz.prog.underlying 26=some (.struct #[⟨ "Types",22,0,false, "", "",0⟩,⟨ "Channels",22,1,false, "", "",24⟩,⟨ "Modes",22,2,false, "", "",48⟩,⟨ "Rules",23,3,false, "", "",72⟩,⟨ "States",24,4,false, "", "",96⟩]):=by kernel_rfl
theorem u38:Tryz.prog.underlying 38=some (.slice 49):=by kernel_rfl
theorem u40:Tryz.prog.underlying 40=some (.struct #[⟨ "Rule",3,0,false, "", "",0⟩,⟨ "Edges",38,1,false, "", "",8⟩]):=by kernel_rfl
theorem u41:Tryz.prog.underlying 41=some (.int .i8):=by kernel_rfl
theorem u43:Tryz.prog.underlying 43=some (.slice 89):=by kernel_rfl
theorem u44:Tryz.prog.underlying 44=some (.slice 46):=by kernel_rfl
theorem u46:Tryz.prog.underlying 46=some (.struct #[⟨ "Op",41,0,false, "", "",0⟩,⟨ "N",2,1,false, "", "",8⟩,⟨ "Name",9,2,false, "", "",16⟩,⟨ "Kids",44,3,false, "", "",32⟩]):=by kernel_rfl
theorem u47:Tryz.prog.underlying 47=some (.slice 92):=by kernel_rfl
theorem u49:Tryz.prog.underlying 49=some (.struct #[⟨ "Op",41,0,false, "", "",0⟩,⟨ "Set",43,1,false, "", "",8⟩,⟨ "N",3,2,false, "", "",32⟩,⟨ "Level",3,3,false, "", "",40⟩,⟨ "G",46,4,false, "", "",48⟩,⟨ "Acts",47,8,false, "", "",104⟩,⟨ "To",3,9,false, "", "",128⟩]):=by kernel_rfl
theorem u51:Tryz.prog.underlying 51=some (.struct #[⟨ "Name",9,0,false, "", "",0⟩,⟨ "Lexer",4,1,false, "", "",16⟩,⟨ "Frag",4,2,false, "", "",17⟩,⟨ "Lazy",4,3,false, "", "",18⟩,⟨ "Left",4,4,false, "", "",19⟩,⟨ "Mode",3,5,false, "", "",24⟩,⟨ "Type",3,6,false, "", "",32⟩,⟨ "Start",3,7,false, "", "",40⟩,⟨ "Stop",3,8,false, "", "",48⟩]):=by kernel_rfl
theorem u89:Tryz.prog.underlying 89=some (.struct #[⟨ "Lo",21,0,false, "", "",0⟩,⟨ "Hi",21,1,false, "", "",4⟩]):=by kernel_rfl
theorem u92:Tryz.prog.underlying 92=some (.struct #[⟨ "Op",41,0,false, "", "",0⟩,⟨ "N",3,1,false, "", "",8⟩]):=by kernel_rfl
theorem w32{z:Int}(h:(Lit.int .i32 z).wf=true):mR z:=by
 have h:IntKind.i32.min<=z/\z<=IntKind.i32.max:=by simpa [Lit.wf]using h
 rwa[show IntKind.i32.min= -2147483648 from rfl,show IntKind.i32.max=2147483647 from rfl]at h
theorem w8{z:Int}(h:(Lit.int .i8 z).wf=true): -128<=z/\z<=127:=by
 have h:IntKind.i8.min<=z/\z<=IntKind.i8.max:=by simpa [Lit.wf]using h
 rwa[show IntKind.i8.min= -128 from rfl,show IntKind.i8.max=127 from rfl]at h
theorem aeL: ∀g:G,(gC g).length=4
 | .mk .. =>by simp[gC]
theorem GF: ∀{l:List G},(∀u∈l,dh u)->xO l
 |[],_=>by simp[xO]
 |a::l,h=>by simp only[xO];exact⟨h a oaf,GF λu hu=>h u (by simp[hu])⟩
mutual
def j6:G->Prop
 | .mk _ _ _ l=>l.length*56<=140737488351232/\qc l
def qc:List G->Prop
 |[]=>True
 |g::l=>j6 g/\qc l
end
theorem BB: ∀{l:List G},(∀u∈l,j6 u)->qc l
 |[],_=>by simp[qc]
 |a::l,h=>by simp only[qc];exact⟨h a oaf,BB λu hu=>h u (by simp[hu])⟩
structure j7(e:Edge):Prop where
 fit:gh e
 set: ∀r∈e.set,mR r.1/\mR r.2
 setB:e.set.length*8<=140737488351232
 actB:e.ct.length*16<=140737488351232
 gB:j6 e.g
structure fh(n:Net):Prop where
 types:n.types.length<=9223372036854775807
 eP:n.bp.length<=9223372036854775807
 bx:n.bx.length<=9223372036854775807
 rules:n.rules.length*56<=140737488351232
 aa:n.aa.length*32<=140737488351232
 ah: ∀s∈n.aa,s.ah.length*136<=140737488351232/\ ∀e∈s.ah,j7 e
theorem Wp{n:Nat}:Rd Tryz.prog enc W hW n aJ (λr=>mR r.1/\mR r.2) 89:=λcs x h hw=>by obtain⟨m,hm,hl,hf⟩:=wx u89 h hw;obtain⟨y0,h0,w0⟩:=hf 0 _ rfl;obtain⟨a0,q0,r0⟩:=fld (o:=0) (s:=1) (t:=21) (gF<|u21) rfl oab rfl h0 w0;obtain⟨y1,h1,w1⟩:=hf 1 _ rfl;obtain⟨a1,q1,r1⟩:=fld (o:=1) (s:=1) (t:=21) (gF<|u21) rfl oab rfl h1 w1;have hl:cs.length=2:=hl.trans oab;exact⟨(a0,a1),⟨w32 q0,w32 q1⟩,whole hl (glue r0 r1)⟩
theorem aeM{n:Nat}:Rd Tryz.prog enc W hW n cw (λ_=>True) 92:=λcs x h hw=>by obtain⟨m,hm,hl,hf⟩:=wx u92 h hw;obtain⟨y0,h0,w0⟩:=hf 0 _ rfl;obtain⟨a0,q0,r0⟩:=fld (o:=0) (s:=1) (t:=41) (gF<|u41) rfl oab rfl h0 w0;obtain⟨y1,h1,w1⟩:=hf 1 _ rfl;obtain⟨a1,q1,r1⟩:=fld (o:=1) (s:=1) (t:=3) (gF<|u3) rfl oab rfl h1 w1;have hl:cs.length=2:=hl.trans oab;exact⟨(a0,a1),trivial,whole hl (glue r0 r1)⟩
theorem aa5{n:Nat}:Rd Tryz.prog enc W hW n aw (λ_=>True) 51:=λcs x h hw=>by obtain⟨m,hm,hl,hf⟩:=wx u51 h hw;obtain⟨y0,h0,w0⟩:=hf 0 _ rfl;obtain⟨a0,q0,r0⟩:=fld (o:=0) (s:=1) (t:=9) (yH<|u9) rfl oab rfl h0 w0;obtain⟨y1,h1,w1⟩:=hf 1 _ rfl;obtain⟨a1,q1,r1⟩:=fld (o:=1) (s:=1) (t:=4) (vR<|u4) rfl oab rfl h1 w1;obtain⟨y2,h2,w2⟩:=hf 2 _ rfl;obtain⟨a2,q2,r2⟩:=fld (o:=2) (s:=1) (t:=4) (vR<|u4) rfl oab rfl h2 w2;obtain⟨y3,h3,w3⟩:=hf 3 _ rfl;obtain⟨a3,q3,r3⟩:=fld (o:=3) (s:=1) (t:=4) (vR<|u4) rfl oab rfl h3 w3;obtain⟨y4,h4,w4⟩:=hf 4 _ rfl;obtain⟨a4,q4,r4⟩:=fld (o:=4) (s:=1) (t:=4) (vR<|u4) rfl oab rfl h4 w4;obtain⟨y5,h5,w5⟩:=hf 5 _ rfl;obtain⟨a5,q5,r5⟩:=fld (o:=5) (s:=1) (t:=3) (gF<|u3) rfl oab rfl h5 w5;obtain⟨y6,h6,w6⟩:=hf 6 _ rfl;obtain⟨a6,q6,r6⟩:=fld (o:=6) (s:=1) (t:=3) (gF<|u3) rfl oab rfl h6 w6;obtain⟨y7,h7,w7⟩:=hf 7 _ rfl;obtain⟨a7,q7,r7⟩:=fld (o:=7) (s:=1) (t:=3) (gF<|u3) rfl oab rfl h7 w7;obtain⟨y8,h8,w8⟩:=hf 8 _ rfl;obtain⟨a8,q8,r8⟩:=fld (o:=8) (s:=1) (t:=3) (gF<|u3) rfl oab rfl h8 w8;have hl:cs.length=9:=hl.trans oab;exact⟨⟨a0,a1,a2,a3,a4,a5,a6,a7,a8⟩,trivial,whole hl (glue (glue (glue (glue (glue (glue (glue (glue r0 r1) r2) r3) r4) r5) r6) r7) r8)⟩
theorem Wq: ∀{n:Nat},Rd Tryz.prog enc W hW n gC (λg=>dh g/\j6 g) 46:=by
 intro n;induction n using Nat.strongRecOn with
 |ind n ih=>
 intro cs x h hw;obtain⟨m,hm,hl,hf⟩:=wx u46 h hw;obtain⟨y0,h0,w0⟩:=hf 0 _ rfl;obtain⟨a0,q0,r0⟩:=fld (o:=0) (s:=1) (t:=41) (gF<|u41) rfl oab rfl h0 w0;obtain⟨y1,h1,w1⟩:=hf 1 _ rfl;obtain⟨a1,q1,r1⟩:=fld (o:=1) (s:=1) (t:=2) (gF<|u2) rfl oab rfl h1 w1;obtain⟨y2,h2,w2⟩:=hf 2 _ rfl;obtain⟨a2,q2,r2⟩:=fld (o:=2) (s:=1) (t:=9) (yH<|u9) rfl oab rfl h2 w2;obtain⟨y3,h3,w3⟩:=hf 3 _ rfl;obtain⟨a3,q3,r3⟩:=fld (o:=3) (s:=1) (t:=44) (mC (S:=4) (by':=56) (u44) oab oab oaa aeL<|λk hk=>ih k oaa) rfl oab rfl h3 w3;have hl:cs.length=4:=hl.trans oab;refine⟨.mk a0 a1 a2 a3,?_,?_⟩
 ·simp only[dh,j6];exact⟨⟨w8 q0,q2,q3.1,GF λu hu=>(q3.2.2 u hu).1⟩,q3.2.1,BB λu hu=>(q3.2.2 u hu).2⟩
 ·simp only[gC,Cz];exact whole hl (glue (glue (glue r0 r1) r2) r3)
theorem aa6{n:Nat}:Rd Tryz.prog enc W hW n aD j7 49:=λcs x h hw=>by obtain⟨m,hm,hl,hf⟩:=wx u49 h hw;obtain⟨y0,h0,w0⟩:=hf 0 _ rfl;obtain⟨a0,q0,r0⟩:=fld (o:=0) (s:=1) (t:=41) (gF<|u41) rfl oab rfl h0 w0;obtain⟨y1,h1,w1⟩:=hf 1 _ rfl;obtain⟨a1,q1,r1⟩:=fld (o:=1) (s:=1) (t:=43) (mC (S:=2) (by':=8) (u43) oab oab oaa (λ_=>rfl)<|λ_ _=>Wp) rfl oab rfl h1 w1;obtain⟨y2,h2,w2⟩:=hf 2 _ rfl;obtain⟨a2,q2,r2⟩:=fld (o:=2) (s:=1) (t:=3) (gF<|u3) rfl oab rfl h2 w2;obtain⟨y3,h3,w3⟩:=hf 3 _ rfl;obtain⟨a3,q3,r3⟩:=fld (o:=3) (s:=1) (t:=3) (gF<|u3) rfl oab rfl h3 w3;obtain⟨y4,h4,w4⟩:=hf 4 _ rfl;obtain⟨a4,q4,r4⟩:=fld (o:=4) (s:=4) (t:=46) Wq rfl oab rfl h4 w4;obtain⟨y5,h5,w5⟩:=hf 5 _ rfl;obtain⟨a5,q5,r5⟩:=fld (o:=8) (s:=1) (t:=47) (mC (S:=2) (by':=16) (u47) oab oab oaa (λ_=>rfl)<|λ_ _=>aeM) rfl oab rfl h5 w5;obtain⟨y6,h6,w6⟩:=hf 6 _ rfl;obtain⟨a6,q6,r6⟩:=fld (o:=9) (s:=1) (t:=3) (gF<|u3) rfl oab rfl h6 w6;have hl:cs.length=10:=hl.trans oab;have r4:au (sd W hW) (λ_=>none) [I8 a4.op,I a4.n,S a4.name,.sl 4 (a4.kids.map gC)] _:=(show gC a4=_ from by rw[<-CB])▸r4;exact⟨⟨a0,a1,a2,a3,a4,a5,a6⟩,⟨⟨q4.1,w8 q0,q1.1,q5.1⟩,q1.2.2,q1.2.1,q5.2.1,q4.2⟩,whole hl (glue (glue (glue (glue (glue (glue r0 r1) r2) r3) r4) r5) r6)⟩
theorem Wr{n:Nat}:Rd Tryz.prog enc W hW n aj (λs=>s.ah.length*136<=140737488351232/\ ∀e∈s.ah,j7 e) 40:=λcs x h hw=>by obtain⟨m,hm,hl,hf⟩:=wx u40 h hw;obtain⟨y0,h0,w0⟩:=hf 0 _ rfl;obtain⟨a0,q0,r0⟩:=fld (o:=0) (s:=1) (t:=3) (gF<|u3) rfl oab rfl h0 w0;obtain⟨y1,h1,w1⟩:=hf 1 _ rfl;obtain⟨a1,q1,r1⟩:=fld (o:=1) (s:=1) (t:=38) (mC (S:=10) (by':=136) (u38) oab oab oaa (λ_=>rfl)<|λ_ _=>aa6) rfl oab rfl h1 w1;have hl:cs.length=2:=hl.trans oab;exact⟨⟨a0,a1⟩,q1.2,whole hl (glue r0 r1)⟩
theorem aeN{n:Nat}:Rd Tryz.prog enc W hW n aY fh 26:=λcs x h hw=>by obtain⟨m,hm,hl,hf⟩:=wx u26 h hw;obtain⟨y0,h0,w0⟩:=hf 0 _ rfl;obtain⟨a0,q0,r0⟩:=fld (o:=0) (s:=1) (t:=22) (mC (S:=1) (by':=16) (u22) oab oab oaa (λ_=>rfl)<|λ_ _=>yH u9) rfl oab rfl h0 w0;obtain⟨y1,h1,w1⟩:=hf 1 _ rfl;obtain⟨a1,q1,r1⟩:=fld (o:=1) (s:=1) (t:=22) (mC (S:=1) (by':=16) (u22) oab oab oaa (λ_=>rfl)<|λ_ _=>yH u9) rfl oab rfl h1 w1;obtain⟨y2,h2,w2⟩:=hf 2 _ rfl;obtain⟨a2,q2,r2⟩:=fld (o:=2) (s:=1) (t:=22) (mC (S:=1) (by':=16) (u22) oab oab oaa (λ_=>rfl)<|λ_ _=>yH u9) rfl oab rfl h2 w2;obtain⟨y3,h3,w3⟩:=hf 3 _ rfl;obtain⟨a3,q3,r3⟩:=fld (o:=3) (s:=1) (t:=23) (mC (S:=9) (by':=56) (u23) oab oab oaa (λ_=>rfl)<|λ_ _=>aa5) rfl oab rfl h3 w3;obtain⟨y4,h4,w4⟩:=hf 4 _ rfl;obtain⟨a4,q4,r4⟩:=fld (o:=4) (s:=1) (t:=24) (mC (S:=2) (by':=32) (u24) oab oab oaa (λ_=>rfl)<|λ_ _=>Wr) rfl oab rfl h4 w4;have hl:cs.length=5:=hl.trans oab;exact⟨⟨a0,a1,a2,a3,a4⟩,⟨q0.1,q1.1,q2.1,q3.2.1,q4.2.1,q4.2.2⟩,whole hl (glue (glue (glue (glue r0 r1) r2) r3) r4)⟩
theorem Mt{v:Value}{base:Nat}{d:DataW H}{p:List MemPlace}(hval:Value.okWide Tryz.prog W .any base 26 v)(h:DataW.Trod enc Tryz.prog W 0 (λ_=>true) true 26 v d p)(hw: ∀w∈d.weights Tryz.prog 26,w<=reachBytes):∃n:Net,fh n/\Rep (sd W hW) (λ_=>none) (.ag<|aY n) v:=by obtain⟨cs,rfl,_⟩:=okWide_struct u26 hval;obtain⟨fuel,hf⟩:=h;obtain⟨n,h1,h2⟩:=aeN (hW:=hW) _ _ hf hw;grind[Rep,Value.cells]
end
def c6_0:Code:=bn 0 (aG 6)
def Ws(n:Net)(i0:Nat)(y0:Int):Int:=(wrap .i64<|y0+((1+length (map aD (ae n.aa i0).ah):Nat):Int))
def je(n:Net)(kk:Nat):Int:=Nat.rec (motive:=λ_=>Int) 0 (λj a=>Ws n j a) kk
def wrapR(z:Int): -9223372036854775808<=IntKind.i64.wrap z/\IntKind.i64.wrap z<=9223372036854775807:=by grind[wrap,IntKind.signed,IntKind.bits]
def le6(n:Net)(i:Nat): -9223372036854775808<=je n i/\je n i<=9223372036854775807:=by
 cases i with
 |zero=>exact⟨by show _<=(0:Int);omega,by show(0:Int)<=_;omega⟩
 |succ i=>exact wrapR _
abbrev Wt(n:Net)(i0:Nat)(y0:Int):Am.Loc:=[(1,.pf (aY n)),(3,I y0),(7,I (length (zA n):Int)),(8,I (i0:Int))]
abbrev L6_0(n:Net)(i0:Nat):Am.Loc:=Wt n i0 (je n i0)
abbrev O6_0(n:Net)(i0:Nat):lXE:=[]
abbrev acx(n:Net):Am.Loc:=[(1,.pf (aY n)),(3,I (je n<|length n.aa))]
abbrev acy(n:Net):lXE:=[]
def Wu(n:Net):KB:=noK 0 (L6_0 n) (O6_0 n) (.exit 0) (acx n) (acy n) (True)
abbrev W6_0(n:Net)(i0:Nat):List bG:=[nxW (false) (L6_0 n<|i0+1) (O6_0 n<|i0+1) (Wt n (i0+1)<|wrap .i64<|(je n i0)+((1+length (zp i0 n):Nat):Int)) zI (O6_0 n<|i0+1)]
def aa7(n:Net)(hf:fh n):ca pg 30 0 0 (.loop c6_0) (Wu n):=
 noB (W6_0 n) (λi0=>(.r [.k,bT]<|.yes<|.r [bT]<|.r [.row (aj<|ae n.aa i0),.int ((1+length (map aD (ae n.aa i0).ah):Nat):Int),.int (wrap .i64<|(je n i0)+((1+length (map aD (ae n.aa i0).ah):Nat):Int)),bT]<|zc i0)) (range 0) zF (length n.aa)
 (λ_ i0(hx0:i0<(length n.aa))=>have hr:=hf.rules;have hs:=hf.aa;have hq:=le6 n i0;have he:=(hf.ah _<|ai hx0).1;have lem:=aF aD (ae n.aa i0).ah;have l1:=aF aj (n.aa);have hb:(zq i0 n)=true:=afH oaa;
 bq (an (a1 a0)<|an hb<|an a0<|an (ac (fD<|wrap .i64<|(je n i0)+((1+length (map aD (ae n.aa i0).ah):Nat):Int))<|ac (dwo ((1+length (map aD (ae n.aa i0).ah):Nat):Int))<|ac (rwa aj n.aa i0) a0)<|an (ac (dwo ((i0+1:Nat):Int)) a0)<|lf (wy (W6_0 n i0) 0) 0<|nxP (Wt n<|i0+1) (λ_=>O6_0 n<|i0+1) rfl<|show je n (i0+1)=(wrap .i64<|(je n i0)+((1+length (map aD (ae n.aa i0).ah):Nat):Int))from rfl)
 oab)
 (λ_=>have hr:=hf.rules;have hs:=hf.aa;have l1:=aF aj (n.aa);have hb:(zQ n)=false:=afI oaa;
 bq (an (a1 a0)<|an hb<|lx (.exit 0) (acx n) (range 0) (acy n) 0)
 oab)
def r6(n:Net):Bool:=((decide<|(je n<|length n.aa)>1200)||decide ((length (map aw n.rules):Int)>60))
def Ap:cy [0] (aG 6)=[(0,.loop c6_0)]:=by kernel_rfl
theorem Wv(n:Net)(hf:fh n):aQ pg 6 [.ag (aY n)] [] [] (B<|r6 n) []:=
 aV 6 (.r [bT]<|.r [bT]<|.r [bT]<|.no<|.a (.r (.k::uFF 4 [bT]) .nil)<|.r (.k::uTT 4 [.k,bT]) .nil)
 (an a0<|an a0<|an a0<|an (kbT (Wu n) trivial)<|an (rfl:false=false)<|aO (λ(h0:(decide<|(je n<|length n.aa)>1200)=true)=>(an (aN 3<|ac (n2 h0)<|a1 a0)<|bE<|show r6 n=true from(orT h0)))<|λh0=>(an (aN 4<|ac (ak h0)<|a1 a0)<|bE<|show r6 n=(decide<|(length (map aw n.rules):Int)>60)from(orF h0 rfl))) (hk:=(bc (l:=[(0,Wu n)]) Ap (aE (aa7 n hf) rfl aP) rfl))
theorem GG{α:Type}[Inhabited α]{l:List α}{x:α}(h:x∈l): ∃j,j<l.length/\ae l j=x:=by obtain⟨j,hj,e⟩:=List.mem_iff_getElem.1 h;exact⟨j,hj,by simp[ae,hj,e]⟩
def sum6(n:Net)(hf:fh n)(h4:n.aa.length<=4000)(i:Nat)(hi:i<=n.aa.length):(i:Int)<=je n i/\je n i<=(i:Int)*1100000000000/\ ∀j,j<i->((ae n.aa j).ah.length:Int)<=je n i:=by
 induction i with
 |zero=>exact⟨Int.le_refl _,Int.le_refl _,λj hj=>by omega⟩
 |succ i ih=>
  obtain⟨h1,h2,h3⟩:=ih oaa;have he:=(hf.ah _<|ai<|show i<n.aa.length by omega).1;have e:je n (i+1)=je n i+(1+((ae n.aa i).ah.length:Int)):=by show Ws n i (je n i)=_;unfold Ws;rw[aF,wrap_i64 oaa oaa];omega
  refine⟨by omega,by omega,λj hj=> ?_⟩;rcases Nat.lt_or_ge j i with h|h
  ·have:=h3 j h;omega
  ·have:j=i:=by omega
   subst this;omega
def Mu{n:Net}(hf:fh n)(h4:n.aa.length<=4000)(h6:r6 n=false):bW n:=by unfold r6 at h6;simp only[afU,af0,aF]at h6;obtain⟨-,-,h3⟩:=sum6 n hf h4 _ (afG _);refine⟨hf.types,hf.eP,hf.bx,by omega,by omega,λs hs=> ?_,λs hs e he=>((hf.ah s hs).2 e he).fit⟩;grind[GG]
def fitX{n:Net}(hf:fh n):tB n:=⟨λs hs e he=>((hf.ah s hs).2 e he).fit.op,λs hs e he=>((hf.ah s hs).2 e he).set⟩
def fitH{n:Net}(hf:fh n)(h6:r6 n=false):mP n:=by unfold r6 at h6;simp only[afU,af0,aF]at h6;exact⟨hf.types,hf.eP,hf.bx,by omega⟩
def OO:runJ 3000 60 7 [] .e 0 ⟨0,[],[]⟩= .ret (.v<|.bool true) .e 0 ⟨0,[],[]⟩:=by kernel_rfl
def BC:aQ pg 7 [] [] [] (.v<|.bool true) []:=Hz (Kc _ _) OO rfl
def c10y{n:Net}(hf:bW n)(hx:tB n):aQ pg 10 [.ag (aY n)] [] [] (I<|r11 n) []:=by grind[um,aeK]
def i6(n:Net):bC:=⟨6,[eM n],B (r6 n),fh n⟩
def g6(n:Net):(i6 n).bu pg:=bI λhp=>Wv n hp
def i7:bC:=⟨7,[],B true,True⟩
def g7:(i7).bu pg:=bI λhp=>BC
def i10y(n:Net):bC:=⟨10,[eM n],I (r11 n),bW n/\tB n⟩
def OP(n:Net):(i10y n).bu pg:=bI λhp=>(c10y hp.1 hp.2)
def i11y(n:Net):bC:=⟨11,[eM n],I (r11 n),bW n⟩
def g11y(n:Net):(i11y n).bu pg:=bI λhp=>LR n hp
def k31h{n:Net}(h:mP n/\r31 n=false):aQ pg 31 [.ag (aY n)] [] [] (B false) []:=by grind[K6]
def k26h{n:Net}(h:mP n/\r31 n=false):aQ pg 26 [.pf (aY n)] [] [] (B false) []:=by grind[K9,Wn]
def i31h(n:Net):bC:=⟨31,[eM n],B false,mP n/\r31 n=false⟩
def g31h(n:Net):(i31h n).bu pg:=bI λhp=>k31h hp
def i26h(n:Net):bC:=⟨26,[.pf (aY n)],B false,mP n/\r31 n=false⟩
def g26h(n:Net):(i26h n).bu pg:=bI λhp=>k26h hp
def r11h(n:Net):Int:=110
def Ww(n:Net)(hh:mP n)(hA:r31 n=false):aQ pg 11 [.ag (aY n)] [] [] (I<|r11h n) []:=
 aV 11 (.r [bT] zBw)
 (an a0<|an (aN 6<|cA (g31h n) ⟨hh,hA⟩ a0)<|an a0<|iE<|show r11h n=110 from rfl) (hc:=(aK (.cons (g31h n) rfl bB.nil) aC))
def r10h(n:Net):Int:=110
section
variable(n:Net)
def Wx(hh:mP n)(hA:r31 n=false):aQ pg 10 [.ag (aY n)] [] [] (I<|r10h n) []:=
 aV 10 (.r [bT] zBw)
 (an a0<|an (aN 6<|cA (g26h n) ⟨hh,hA⟩ a0)<|an a0<|iE<|show r10h n=110 from rfl) (hc:=(aK (.cons (g26h n) rfl bB.nil) aC))
def i11q:bC:=⟨11,[eM n],I 110,mP n/\r31 n=false⟩
def g11q:(i11q n).bu pg:=bI λhp=>(Ww n hp.1 hp.2)
def i10q:bC:=⟨10,[eM n],I 110,mP n/\r31 n=false⟩
def g10q:(i10q n).bu pg:=bI λhp=>(Wx n hp.1 hp.2)
end
def k6{n:Net}{b:Bool}(hm:fh n)(h:r6 n=b):aQ pg 6 [.ag (aY n)] [] [] (B b) []:=by grind[Wv]
def acz{n:Net}(h:4000<n.aa.length):r31 n=false:=by unfold r31;grind
def GH{e:Edge}(fo:OkE e):(r45 e).size<=60000100:=by have h:=vI fo _ (afG _);have z1:=bj fo.to;have z2:=bj fo.n;have z3:=bj fo.level;have l:=fo.len;unfold r45;generalize(Edge.op e==1)=b1;generalize(Edge.op e==2)=b2;generalize(Edge.op e==3)=b3;generalize(Edge.op e==4)=b4;generalize(Edge.op e==5)=b5;generalize(Edge.op e==6)=b6;generalize(Edge.op e==7)=b7;cases b1<;>cases b2<;>cases b3<;>cases b4<;>cases b5<;>cases b6<;>cases b7<;>simp only[afN,afY,agf,lJ,afX,af6]<;>omega
structure OkN(n:Net):Prop where
 rules:n.rules.length<=60
 aa:n.aa.length<=1200
 ah: ∀s∈n.aa,s.ah.length<=1200
 nE: ∀s∈n.aa,∀e∈s.ah,OkE e
 own: ∀s∈n.aa,0<=s.aI/\s.aI<(n.rules.length:Int)
 aI: ∀r∈n.rules,r.name.size<=1000000/\Nn r.start/\Nn r.stop
def i45(e:Edge):bC:=⟨45,[.ag (aD e)],S (r45 e),OkE e⟩
def g45(e:Edge):(i45 e).bu pg:=bI λhp=>adx e hp
def D4:Code:=bn 0 (aG 18)
def D5:Code:=bn 2 D4
def Wy:Code:=bn 4 D5
def sf(n:Net)(i0:Nat)(y0:ByteArray)(i2:Nat)(y2:ByteArray)(i4:Nat)(y4:ByteArray):ByteArray:=(y4++((⟨⟨[32]⟩⟩)++(r45<|ae (ae n.aa i2).ah i4)))
def eR(n:Net)(i0:Nat)(y0:ByteArray)(i2:Nat)(y2:ByteArray)(kk:Nat):ByteArray:=Nat.rec (motive:=λ_=>ByteArray) (y2++(aA (i2:Int))) (λj a=>sf n i0 y0 i2 y2 j a) kk
def vS{n:Net}(ok:OkN n)(i0:Nat)(y0:ByteArray)(i2:Nat)(h2:i2<n.aa.length)(y2:ByteArray): ∀j,j<=(ae n.aa i2).ah.length->(eR n i0 y0 i2 y2 j).size<=y2.size+21+60000102*j
 |0,_=>by have hs:=ok.aa;have z:=bj (x:=(i2:Int)) ⟨by omega,by omega⟩;show(_++_:ByteArray).size<=_;simp only[agf,lJ,afX,af6];omega
 |j+1,hj=>by have ih:=vS ok i0 y0 i2 h2 y2 j oaa;have z:=GH (ok.nE _ (ai h2) _<|ai<|show j<_ by omega);show(sf n i0 y0 i2 y2 j<|eR n i0 y0 i2 y2 j).size<=_;unfold sf;simp only[agf,lJ,afX,af6];omega
section
variable(n:Net)(i0:Nat)
abbrev D6(y0:ByteArray)(i2:Nat)(y2:ByteArray)(i4:Nat)(y4:ByteArray):Am.Loc:=[(1,.pf (aY n)),(3,S y4),(4,I (i0:Int)),(5,.pt 0 0),(6,I (i2:Int)),(7,I (i4:Int))]
abbrev Wz(y0:ByteArray)(i2:Nat)(y2:ByteArray)(i4:Nat):Am.Loc:=D6 n i0 y0 i2 y2 i4 (eR n i0 y0 i2 y2 i4)
abbrev D7(y0:ByteArray)(i2:Nat)(y2:ByteArray)(i4:Nat):lXE:=(zCd i0 n)
abbrev Mv(y0:ByteArray)(i2:Nat)(y2:ByteArray):Am.Loc:=[(1,.pf (aY n)),(3,S (eR n i0 y0 i2 y2<|length<|zAD i2 n)),(4,I (i0:Int)),(5,.pt 0 0),(6,I (i2:Int))]
abbrev Mw(y0:ByteArray)(i2:Nat)(y2:ByteArray):lXE:=(zCd i0 n)
section
variable(y0:ByteArray)(i2:Nat)(y2:ByteArray)
def D8:KB:=noK 4 (Wz n i0 y0 i2 y2) (D7 n i0 y0 i2 y2) (.exit 4) (Mv n i0 y0 i2 y2) (Mw n i0 y0 i2 y2) (True)
abbrev WA(i4:Nat):List bG:=[nxW (false) (Wz n i0 y0 i2 y2<|i4+1) (D7 n i0 y0 i2 y2<|i4+1) (D6 n i0 y0 i2 y2 (i4+1)<|(eR n i0 y0 i2 y2 i4)++((⟨⟨[32]⟩⟩)++(r45<|ae (zAD i2 n) i4))) zAT (D7 n i0 y0 i2 y2<|i4+1)]
end
end
abbrev zCz(n:Net):=((r11 n) !=0)
section
variable(n:Net)(i0:Nat)(y0:ByteArray)
theorem OQ(i2:Nat)(y2:ByteArray)(hf:bW n)(hA:(zCz n)=false)(ok:OkN n)(hx0:i0<(length n.rules))(hy0:(y0).size<=6000000000000000)(hx2:i2<(length n.aa))(hy2:(y2).size<=6200000000000000):ca pg 95 0 4 (.loop Wy) (D8 n i0 y0 i2 y2):=
 noB (WA n i0 y0 i2 y2) (λi4=>(.r [.row (aj<|ae n.aa i2),.k,bT]<|.yes<|.r [.row (aj<|ae n.aa i2),.row (aD<|ae (ae n.aa i2).ah i4),.int 0,.val (.string<|(⟨⟨[32]⟩⟩)++(r45<|ae (ae n.aa i2).ah i4)),.val (.string<|(eR n i0 y0 i2 y2 i4)++((⟨⟨[32]⟩⟩)++(r45<|ae (ae n.aa i2).ah i4))),bT]<|.r (zi i4)<|.pick 0)) (range 1) (.r [.row (aj<|ae n.aa i2),.k,bT]<|.no<|.pick 0) (length (ae n.aa i2).ah)
 (λ_ i4(hx4:i4<(length (ae n.aa i2).ah))=>have okr:=ok.rules;have oks:=ok.aa;have hru:=ok.aI _ (ai hx0);have ru1:=hru.1;have ru2:=hru.2.1;have ru3:=hru.2.2;have z1:=bj ru2;have z2:=bj ru3;have z3:=bj (x:=(i0:Int)) ⟨by omega,by omega⟩;have z4:=bj (x:=(i2:Int)) ⟨by omega,by omega⟩;have oke:=ok.ah _ (ai hx2);have zz4:=vS ok i0 y0 i2 hx2 y2 i4 oaa;have z5:=GH (ok.nE _ (ai hx2) _<|ai hx4);have l1:=aF aD ((ae n.aa i2).ah);have hb:(decide<|(i4:Int)<(length (map aD (ae n.aa i2).ah):Int))=true:=afH oaa;
 bq (an (a1<|ac (rwa aj n.aa i2) a0)<|an hb<|an (ac (cT (.tmp 79) (.tmp 90) (eR n i0 y0 i2 y2 i4)<|(⟨⟨[32]⟩⟩)++(r45<|ae (ae n.aa i2).ah i4))<|ac (cT (.const<|.string ⟨⟨[32]⟩⟩) (.tmp 89) (⟨⟨[32]⟩⟩)<|r45<|ae (ae n.aa i2).ah i4)<|cA (g45<|ae (ae n.aa i2).ah i4) (ok.nE _ (ai oaa) _<|ai oaa)<|ac (rwa aD (ae n.aa i2).ah i4)<|ac (rwa aj n.aa i2) a0)<|an (ac (dwo ((i4+1:Nat):Int)) a0)<|lf (wy (WA n i0 y0 i2 y2 i4) 0) 1<|nxP (D6 n i0 y0 i2 y2<|i4+1) (λ_=>D7 n i0 y0 i2 y2<|i4+1) rfl<|show eR n i0 y0 i2 y2 (i4+1)=((eR n i0 y0 i2 y2 i4)++((⟨⟨[32]⟩⟩)++(r45<|ae (ae n.aa i2).ah i4)))from rfl)
 oab)
 (λ_=>have okr:=ok.rules;have oks:=ok.aa;have hru:=ok.aI _ (ai hx0);have ru1:=hru.1;have ru2:=hru.2.1;have ru3:=hru.2.2;have z1:=bj ru2;have z2:=bj ru3;have z3:=bj (x:=(i0:Int)) ⟨by omega,by omega⟩;have z4:=bj (x:=(i2:Int)) ⟨by omega,by omega⟩;have oke:=ok.ah _ (ai hx2);have l1:=aF aD ((ae n.aa i2).ah);have hb:(zCg i2 n)=false:=afI oaa;
 bq (an (a1<|ac (rwa aj n.aa i2) a0)<|an hb<|lx (.exit 4) (Mv n i0 y0 i2 y2) (range 1) (Mw n i0 y0 i2 y2) 1)
 oab) (hc:=λ_ i4 hx4=>(aK (.cons (g45<|ae (ae n.aa i2).ah i4) rfl bB.nil) aC))
def sg(i2:Nat)(y2:ByteArray):ByteArray:=(bif (ae n.aa i2).aI !=(i0:Int)then y2 else(bif (i2:Int)==(ae n.rules i0).stop then y2 else((eR n i0 y0 i2 y2<|length (ae n.aa i2).ah)++(⟨⟨[10]⟩⟩))))
def di(kk:Nat):ByteArray:=Nat.rec (motive:=λ_=>ByteArray) (y0++(((((((((⟨⟨[114,117,108,101,32]⟩⟩)++(aA (i0:Int)))++(⟨⟨[32]⟩⟩))++(ae n.rules i0).name)++(⟨⟨[32]⟩⟩))++(aA (ae n.rules i0).start))++(⟨⟨[32]⟩⟩))++(aA (ae n.rules i0).stop))++(⟨⟨[10]⟩⟩))) (λj a=>sg n i0 y0 j a) kk
end
def vT{n:Net}(ok:OkN n)(i0:Nat)(h0:i0<n.rules.length)(y0:ByteArray): ∀k,k<=n.aa.length->(di n i0 y0 k).size<=y0.size+1000200+73000000000*k
 |0,_=>by have hr:=ok.rules;have h:=ok.aI _ (ai h0);have z1:=bj h.2.1;have z2:=bj h.2.2;have z:=bj (x:=(i0:Int)) ⟨by omega,by omega⟩;show(_++_:ByteArray).size<=_;simp only[agf,lJ,afX,af6];omega
 |k+1,hk=>by have ih:=vT ok i0 h0 y0 k oaa;have z:=vS ok i0 y0 k oaa (di n i0 y0 k) _ (afG _);have he:=ok.ah _ (ai<|show k<_ by omega);show(sg n i0 y0 k<|di n i0 y0 k).size<=_;unfold sg;generalize((ae n.aa k).aI !=((i0:Int)))=b1;generalize((((k:Nat):Int))==(ae n.rules i0).stop)=b2;cases b1<;>cases b2<;>simp only[afN,afY,Bool.or_true,Bool.or_false,Bool.true_or,Bool.false_or,agf,lJ,afX,af6]<;>omega
section
variable(n:Net)(i0:Nat)
abbrev oL(y0:ByteArray)(i2:Nat)(y2:ByteArray):Am.Loc:=[(1,.pf (aY n)),(3,S y2),(4,I (i0:Int)),(5,.pt 0 0),(6,I (i2:Int))]
abbrev Jf(y0:ByteArray)(i2:Nat):Am.Loc:=oL n i0 y0 i2 (di n i0 y0 i2)
abbrev nW(y0:ByteArray)(i2:Nat):lXE:=(zCd i0 n)
abbrev Mx(y0:ByteArray):Am.Loc:=[(1,.pf (aY n)),(3,S (di n i0 y0<|length n.aa)),(4,I (i0:Int))]
abbrev My(y0:ByteArray):lXE:=(zCd i0 n)
def D9(y0:ByteArray):KB:=noK 2 (Jf n i0 y0) (nW n i0 y0) (.exit 2) (Mx n i0 y0) (My n i0 y0) (True)
abbrev Ea(y0:ByteArray)(i2:Nat):List bG:=[nxW (false) (Jf n i0 y0<|i2+1) (nW n i0 y0<|i2+1) (oL n i0 y0 (i2+1)<|di n i0 y0 i2) zAT (nW n i0 y0<|i2+1),nxW (false) (Jf n i0 y0<|i2+1) (nW n i0 y0<|i2+1) (oL n i0 y0 (i2+1)<|(eR n i0 y0 i2 (di n i0 y0 i2)<|length<|zAD i2 n)++(⟨⟨[10]⟩⟩)) zAT (nW n i0 y0<|i2+1)]
end
def yI:cy [4] D5=[(4,.loop Wy)]:=by kernel_rfl
section
variable(n:Net)(i0:Nat)(y0:ByteArray)
theorem OR(hf:bW n)(hA:(zCz n)=false)(ok:OkN n)(hx0:i0<(length n.rules))(hy0:(y0).size<=6000000000000000):ca pg 95 0 2 (.loop D5) (D9 n i0 y0):=
 noB (Ea n i0 y0) (λi2=>(.r [.k,bT]<|.yes<|.a (.r (.row (aj<|ae n.aa i2)::.k::uFF 4 [bT])<|.r (zb i2)<|.pick 0)<|.r (.row (aj<|ae n.aa i2)::.k::uTT 4 [.k,bT])<|.br (.r (zb i2)<|.pick 0)<|.r [.int 0,.val (.string<|(di n i0 y0 i2)++(aA (i2:Int))),bT]<|.r [bT]<|.no<|.r [.val (.string<|(eR n i0 y0 i2 (di n i0 y0 i2)<|length (ae n.aa i2).ah)++(⟨⟨[10]⟩⟩)),bT]<|.r (zb i2)<|.pick 1)) (range 1) zF (length n.aa)
 (λ_ i2(hx2:i2<(length n.aa))=>have okr:=ok.rules;have oks:=ok.aa;have hru:=ok.aI _ (ai hx0);have ru1:=hru.1;have ru2:=hru.2.1;have ru3:=hru.2.2;have z1:=bj ru2;have z2:=bj ru3;have z3:=bj (x:=(i0:Int)) ⟨by omega,by omega⟩;have z4:=bj (x:=(i2:Int)) ⟨by omega,by omega⟩;have oke:=ok.ah _ (ai hx2);have zz2:=vT ok i0 hx0 y0 i2 oaa;have zz5:=vS ok i0 y0 i2 hx2 (di n i0 y0 i2) _ (afG _);have l1:=aF aj (n.aa);have hb:(decide<|(i2:Int)<(length (map aj n.aa):Int))=true:=afH oaa;
 bq (an (a1 a0)<|an hb<|aO (λ(h1:((ae n.aa i2).aI !=(i0:Int))=true)=>(an (aN 3<|ac (n2 h1)<|a1<|ac (rwa aj n.aa i2) a0)<|an (ac (dwo ((i2+1:Nat):Int)) a0)<|lf (wy (Ea n i0 y0 i2) 0) 1<|nxP (oL n i0 y0<|i2+1) (λ_=>nW n i0 y0<|i2+1) rfl<|show di n i0 y0 (i2+1)=_ from(cdT h1 rfl)))<|λh1=>(an (aN 4<|ac (ak h1)<|a1<|ac (rwa aj n.aa i2) a0)<|brP (λ(h2:((i2:Int)==(ae n.rules i0).stop)=true)=>(an (ac (dwo ((i2+1:Nat):Int)) a0)<|lf (wy (Ea n i0 y0 i2) 0) 1<|nxP (oL n i0 y0<|i2+1) (λ_=>nW n i0 y0<|i2+1) rfl<|show di n i0 y0 (i2+1)=_ from(cdF h1<|cdT h2 rfl)))<|λh2=>(an (ac (cT (.tmp 64) (.tmp 66) (di n i0 y0 i2)<|aA (i2:Int))<|cA (g44 (i2:Int)) ⟨by omega,by omega⟩ a0)<|an a0<|an (kbT (D8 n i0 y0 i2<|di n i0 y0 i2) trivial)<|an (rfl:false=false)<|an (ac (cT (.tmp 92) (.const<|.string ⟨⟨[10]⟩⟩) (eR n i0 y0 i2 (di n i0 y0 i2)<|length (ae n.aa i2).ah)<|⟨⟨[10]⟩⟩) a0)<|an (ac (dwo ((i2+1:Nat):Int)) a0)<|lf (wy (Ea n i0 y0 i2) 1) 1<|nxP (oL n i0 y0<|i2+1) (λ_=>nW n i0 y0<|i2+1) rfl<|show di n i0 y0 (i2+1)=_ from(cdF h1<|cdF h2 rfl))))
 oab)
 (λ_=>have okr:=ok.rules;have oks:=ok.aa;have hru:=ok.aI _ (ai hx0);have ru1:=hru.1;have ru2:=hru.2.1;have ru3:=hru.2.2;have z1:=bj ru2;have z2:=bj ru3;have z3:=bj (x:=(i0:Int)) ⟨by omega,by omega⟩;have l1:=aF aj (n.aa);have hb:(zQ n)=false:=afI oaa;
 bq (an (a1 a0)<|an hb<|lx (.exit 2) (Mx n i0 y0) (range 1) (My n i0 y0) 1)
 oab) (hc:=λ_ i2 hx2=>(aK (.cons (g44 (i2:Int)) rfl bB.nil) aC)) (hk:=λ_ i2 hx2=>(bc (l:=[(4,D8 n i0 y0 i2 (di n i0 y0 i2))]) yI (aE (OQ n i0 y0 i2 (di n i0 y0 i2) hf hA ok hx0 hy0 hx2<|by have:=vT ok i0 hx0 y0 i2 oaa;have:=ok.aa;omega) rfl aP) rfl))
def Eb:ByteArray:=(di n i0 y0<|length n.aa)
end
def eS(n:Net)(kk:Nat):ByteArray:=Nat.rec (motive:=λ_=>ByteArray) (⟨⟨[]⟩⟩) (λj a=>Eb n j a) kk
def Ec{n:Net}(ok:OkN n): ∀i,i<=n.rules.length->(eS n i).size<=100000000000000*i
 |0,_=>af7 _
 |i+1,hi=>by have ih:=Ec ok i oaa;have z:=vT ok i oaa (eS n i) _ (afG _);have hs:=ok.aa;show(Eb n i<|eS n i).size<=_;unfold Eb;omega
abbrev Ed(n:Net)(i0:Nat)(y0:ByteArray):Am.Loc:=[(1,.pf (aY n)),(3,S y0),(4,I (i0:Int))]
abbrev WB(n:Net)(i0:Nat):Am.Loc:=Ed n i0 (eS n i0)
abbrev Ee(n:Net)(i0:Nat):lXE:=[]
abbrev Mz(n:Net):Am.Loc:=[(3,S (eS n<|length n.rules))]
abbrev MA(n:Net):lXE:=[]
def Ef(n:Net):KB:=noK 0 (WB n) (Ee n) (.exit 0) (Mz n) (MA n) (True)
abbrev WC(n:Net)(i0:Nat):List bG:=[nxW (false) (WB n<|i0+1) (Ee n<|i0+1) (Ed n (i0+1)<|di n i0 (eS n i0)<|length n.aa) zI (Ee n<|i0+1)]
def yJ:cy [2] D4=[(2,.loop D5)]:=by kernel_rfl
def OS(n:Net)(hf:bW n)(hA:(zCz n)=false)(ok:OkN n):ca pg 95 0 0 (.loop D4) (Ef n):=
 noB (WC n) (λi0=>(.r [.k,bT]<|.yes<|.r (zCV i0 n)<|.r [.int 0,.val (.string<|(⟨⟨[114,117,108,101,32]⟩⟩)++(aA (i0:Int))),.val (.string<|((⟨⟨[114,117,108,101,32]⟩⟩)++(aA (i0:Int)))++(⟨⟨[32]⟩⟩)),.val (.string<|(((⟨⟨[114,117,108,101,32]⟩⟩)++(aA (i0:Int)))++(⟨⟨[32]⟩⟩))++(ae n.rules i0).name),.val (.string<|((((⟨⟨[114,117,108,101,32]⟩⟩)++(aA (i0:Int)))++(⟨⟨[32]⟩⟩))++(ae n.rules i0).name)++(⟨⟨[32]⟩⟩)),.int 1,.val (.string<|(((((⟨⟨[114,117,108,101,32]⟩⟩)++(aA (i0:Int)))++(⟨⟨[32]⟩⟩))++(ae n.rules i0).name)++(⟨⟨[32]⟩⟩))++(aA (ae n.rules i0).start)),.val (.string<|((((((⟨⟨[114,117,108,101,32]⟩⟩)++(aA (i0:Int)))++(⟨⟨[32]⟩⟩))++(ae n.rules i0).name)++(⟨⟨[32]⟩⟩))++(aA (ae n.rules i0).start))++(⟨⟨[32]⟩⟩)),.int 2,.val (.string<|(((((((⟨⟨[114,117,108,101,32]⟩⟩)++(aA (i0:Int)))++(⟨⟨[32]⟩⟩))++(ae n.rules i0).name)++(⟨⟨[32]⟩⟩))++(aA (ae n.rules i0).start))++(⟨⟨[32]⟩⟩))++(aA (ae n.rules i0).stop)),.val (.string<|((((((((⟨⟨[114,117,108,101,32]⟩⟩)++(aA (i0:Int)))++(⟨⟨[32]⟩⟩))++(ae n.rules i0).name)++(⟨⟨[32]⟩⟩))++(aA (ae n.rules i0).start))++(⟨⟨[32]⟩⟩))++(aA (ae n.rules i0).stop))++(⟨⟨[10]⟩⟩)),.val (.string<|(eS n i0)++(((((((((⟨⟨[114,117,108,101,32]⟩⟩)++(aA (i0:Int)))++(⟨⟨[32]⟩⟩))++(ae n.rules i0).name)++(⟨⟨[32]⟩⟩))++(aA (ae n.rules i0).start))++(⟨⟨[32]⟩⟩))++(aA (ae n.rules i0).stop))++(⟨⟨[10]⟩⟩))),bT]<|.r [bT]<|.no<|zc i0)) (range 0) zF (length n.rules)
 (λ_ i0(hx0:i0<(length n.rules))=>have okr:=ok.rules;have oks:=ok.aa;have hru:=ok.aI _ (ai hx0);have ru1:=hru.1;have ru2:=hru.2.1;have ru3:=hru.2.2;have z1:=bj ru2;have z2:=bj ru3;have z3:=bj (x:=(i0:Int)) ⟨by omega,by omega⟩;have zz0:=Ec ok i0 oaa;have l1:=aF aw (n.rules);have hb:(zAH i0 n)=true:=afH oaa;
 bq (an (a1 a0)<|an hb<|an (ac (rwa aw n.rules i0) a0)<|an (ac (cT (.tmp 23) (.tmp 41) (eS n i0)<|((((((((⟨⟨[114,117,108,101,32]⟩⟩)++(aA (i0:Int)))++(⟨⟨[32]⟩⟩))++(ae n.rules i0).name)++(⟨⟨[32]⟩⟩))++(aA (ae n.rules i0).start))++(⟨⟨[32]⟩⟩))++(aA (ae n.rules i0).stop))++(⟨⟨[10]⟩⟩))<|ac (cT (.tmp 40) (.const<|.string ⟨⟨[10]⟩⟩) ((((((((⟨⟨[114,117,108,101,32]⟩⟩)++(aA (i0:Int)))++(⟨⟨[32]⟩⟩))++(ae n.rules i0).name)++(⟨⟨[32]⟩⟩))++(aA (ae n.rules i0).start))++(⟨⟨[32]⟩⟩))++(aA (ae n.rules i0).stop))<|⟨⟨[10]⟩⟩)<|ac (cT (.tmp 36) (.tmp 39) (((((((⟨⟨[114,117,108,101,32]⟩⟩)++(aA (i0:Int)))++(⟨⟨[32]⟩⟩))++(ae n.rules i0).name)++(⟨⟨[32]⟩⟩))++(aA (ae n.rules i0).start))++(⟨⟨[32]⟩⟩))<|aA (ae n.rules i0).stop)<|cA (g44 (ae n.rules i0).stop) ⟨by omega,by omega⟩<|ac (cT (.tmp 35) (.const<|.string ⟨⟨[32]⟩⟩) ((((((⟨⟨[114,117,108,101,32]⟩⟩)++(aA (i0:Int)))++(⟨⟨[32]⟩⟩))++(ae n.rules i0).name)++(⟨⟨[32]⟩⟩))++(aA (ae n.rules i0).start))<|⟨⟨[32]⟩⟩)<|ac (cT (.tmp 31) (.tmp 34) (((((⟨⟨[114,117,108,101,32]⟩⟩)++(aA (i0:Int)))++(⟨⟨[32]⟩⟩))++(ae n.rules i0).name)++(⟨⟨[32]⟩⟩))<|aA (ae n.rules i0).start)<|cA (g44 (ae n.rules i0).start) ⟨by omega,by omega⟩<|ac (cT (.tmp 30) (.const<|.string ⟨⟨[32]⟩⟩) ((((⟨⟨[114,117,108,101,32]⟩⟩)++(aA (i0:Int)))++(⟨⟨[32]⟩⟩))++(ae n.rules i0).name)<|⟨⟨[32]⟩⟩)<|ac (cT (.tmp 27) (.tmp 29) (((⟨⟨[114,117,108,101,32]⟩⟩)++(aA (i0:Int)))++(⟨⟨[32]⟩⟩)) (ae n.rules i0).name)<|ac (cT (.tmp 26) (.const<|.string ⟨⟨[32]⟩⟩) ((⟨⟨[114,117,108,101,32]⟩⟩)++(aA (i0:Int)))<|⟨⟨[32]⟩⟩)<|ac (cT (.const<|.string ⟨⟨[114,117,108,101,32]⟩⟩) (.tmp 25) (⟨⟨[114,117,108,101,32]⟩⟩)<|aA (i0:Int))<|cA (g44 (i0:Int)) ⟨by omega,by omega⟩ a0)<|an a0<|an (kbT (D9 n i0<|eS n i0) trivial)<|an (rfl:false=false)<|an (ac (dwo ((i0+1:Nat):Int)) a0)<|lf (wy (WC n i0) 0) 1<|nxP (Ed n<|i0+1) (λ_=>Ee n<|i0+1) rfl<|show eS n (i0+1)=(di n i0 (eS n i0)<|length n.aa)from rfl)
 oab)
 (λ_=>have okr:=ok.rules;have oks:=ok.aa;have l1:=aF aw (n.rules);have hb:(zP n)=false:=afI oaa;
 bq (an (a1 a0)<|an hb<|lx (.exit 0) (Mz n) (range 0) (MA n) 0)
 oab) (hc:=λ_ i0 hx0=>(aK (.cons (g44 (i0:Int)) rfl<|.cons (g44 (ae n.rules i0).start) rfl<|.cons (g44 (ae n.rules i0).stop) rfl bB.nil) aC)) (hk:=λ_ i0 hx0=>(bc (l:=[(2,D9 n i0 (eS n i0))]) yJ (aE (OR n i0 (eS n i0) hf hA ok hx0<|by have:=Ec ok i0 oaa;have:=ok.rules;omega) rfl aP) rfl))
def Jg(n:Net):ByteArray:=(eS n<|length n.rules)
def tC:cy [0] (aG 18)=[(0,.loop D4)]:=by kernel_rfl
def aeO(n:Net)(hf:bW n)(hA:(zCz n)=false)(ok:OkN n):aQ pg 18 [.ag (aY n)] [] [] (S<|Jg n) []:=
 aV 18 (.r [bT]<|.r [.int 0,.k,bT]<|.no<|.r [bT]<|.r [bT]<|.no zD)
 (an a0<|an (a1<|cA (g11y n) hf a0)<|an (show(zCz n)=false from hA)<|an a0<|an a0<|an (kbT (Ef n) trivial)<|an (rfl:false=false)<|an a0<|sE<|show Jg n=(eS n<|length n.rules)from rfl) (hc:=(aK (.cons (g11y n) rfl bB.nil) aC)) (hk:=(bc (l:=[(0,Ef n)]) tC (aE (OS n hf hA ok) rfl aP) rfl))
end Go.Proofs.YtfkjfjalecikkaaGreatDoor
namespace Go.Am
def ofE{r:AV}{a b:lXE}(h:a=b):(r=r)/\(a.map some=b.map some):=⟨rfl,h▸rfl⟩
section
variable{α:Type}{f:α->lXF}
theorem WD(h: ∀x,(f x).all AV.one=true)(l:List α):eu (l.map f)=true:=by simp only[eu,List.all_map,af2];exact λx _=>h x
theorem apsG(src:List α)(B:Nat)(h: ∀x,(f x).all AV.one=true)(hB:B≠0:=by decide)(h2:src.length*B<=140737488355328:=by omega):((true&&true&&true&&Nat.ble 0 0)&&true&&(true&&true&&eu (src.map f)&&Nat.ble ((0+(src.map f).length)*B) 140737488355328&&Nat.ble (0+(src.map f).length) 9223372036854775807&&true))=true:=by have h3:src.length<=140737488355328:=agr (Nat.le_mul_of_pos_right _<|Nat.pos_of_ne_zero hB) h2;rw[WD h,afK,agR,agt h2,agt (show src.length<=9223372036854775807 by omega)];rfl
end
section
variable{K:Nat}{Tb T:TypeId}{S:Nat}{cs cs':lXF}{xs:lXE}
theorem qd{L:Loc}(hc: ∀m γ,γ (xs.length+1)=some none-> ∀vs,au m γ cs vs->au m γ cs' vs):dF K L (.box Tb cs::xs) L (.box Tb cs'::xs++ [.row T S []]):=by
 refine⟨λm γ w hi=> ?_⟩;have hn:γ (xs.length+1)=none:=by
  cases hg:γ (xs.length+1)with
  |none=>rfl
  |some g=>exact absurd (hi.len (xs.length+1) oav) (Nat.lt_irrefl _)
 let γ':Gam:=λo=>if o=xs.length+1 then some none else γ o
 have hne: ∀o,o≠xs.length+1->γ' o=γ o:=λo ho=>by simp only[γ',if_neg ho]
 have heq:γ' (xs.length+1)=some none:=by simp only[γ',if_pos]
 have hle:Le m γ [] m γ':=⟨λ_ _ h=>h,λo g hg _=>by
  by_cases ho:o=xs.length+1
  ·rw[ho,hn]at hg;cases hg
  ·rw[hne o ho];exact hg⟩
 have hback: ∀o b C,γ' o=some (some (b,C))->γ o=some (some (b,C))/\o≠xs.length+1:=λo b C hg=>by
  by_cases ho:o=xs.length+1
  ·rw[ho,heq]at hg;cases hg
  ·rw[hne o ho]at hg;exact⟨hg,ho⟩
 have hobj: ∀o Y,(Ob.box Tb cs'::xs++ [Ob.row T S []])[o]? =some Y->(o=0/\Y= .box Tb cs')\/(o≠0/\(Ob.box Tb cs::xs)[o]? =some Y)\/(o=xs.length+1/\Y= .row T S []):=λo Y hY=>by
  cases o with
  |zero=>simp at hY;exact .inl ⟨rfl,hY.symm⟩
  |succ o=>
   simp only[agC,agY]at hY⊢;by_cases h1:o<xs.length
   ·rw[afO h1]at hY;exact .inr (.inl ⟨by omega,hY⟩)
   ·rw[agb oaa]at hY;cases h2:o-xs.length with
    |zero=>rw[h2]at hY;simp at hY;exact .inr (.inr ⟨by omega,hY.symm⟩)
    |succ k=>rw[h2]at hY;simp at hY
 refine⟨m,γ',⟨λ_ _ h=>h,λ_ _ h=> .inl h,λq _⟨o,C,h⟩=>⟨o,C,(hback o q C h).1⟩,rfl,rfl,rfl,afG _,λ_ _ _=>rfl⟩,⟨hi.mem,λo Y hY=> ?_,λo o' b C C' l1 l2 h1 h2=> ?_,λo b C h=>hi.dom o b C (hback o b C h).1,λo h=> ?_,hi.tab⟩,λo g _ hg=>hle.gam o g hg rfl,λk⟨o,C,h⟩=>⟨o,C,(hback o k C h).1⟩,λa hl t av' e=>⟨(hl t av' e).1,n8 hle (hl t av' e).2⟩⟩
 ·rcases hobj o Y hY with⟨rfl,rfl⟩|⟨_,h2⟩|⟨rfl,rfl⟩
  ·obtain⟨b,ys,g1,g2,g3,g4⟩:=hi.obj 0 (.box Tb cs) rfl;exact⟨b,ys,hle.gam 0 _ g1 rfl,g2,hc m γ' heq _ (fK hle g3),g4⟩
  ·exact dU (hi.obj o Y h2) hle (λ_ _ _=>rfl) (λ_ _ _ _ h=>h)
  ·exact .inl ⟨heq,rfl⟩
 ·have hlv: ∀o b C,γ' o=some (some (b,C))->live (Ob.box Tb cs'::xs++ [Ob.row T S []]) o->live (.box Tb cs::xs) o:=by
   rintro o b C hg ⟨Y,hY,hne⟩;rcases hobj o Y hY with⟨rfl,rfl⟩|⟨_,h2⟩|⟨h1,_⟩
   ·exact⟨.box Tb cs,rfl,by simp⟩
   ·exact⟨Y,h2,hne⟩
   ·exact absurd h1 (hback o b C hg).2
  exact hi.sep o o' b C C' (hlv o b C h1 l1) (hlv o' b C' h2 l2) (hback o b C h1).1 (hback o' b C' h2).1
 ·by_cases ho:o=xs.length+1
  ·simp[ho]
  ·rw[hne o ho]at h;have:=hi.len o h;simp at this⊢;omega
end
end Go.Am
namespace Go.Proofs.YtfkjfjalecikkaaGreatDoor
open Go.Am
def Jh(r:Int×Int):(aJ r).all AV.one=true:=rfl
def WE(r:Int×Int):(cw r).all AV.one=true:=rfl
abbrev zBf:GT:=(.r [bT]<|.r [.k,bT] zD)
def OT(x:Int×Int)(l:List (Int×Int))(hl:(x::l).length*8<=140737488351232):aQ pg 74 [.sl 2 (map aJ (x::l))] [] [] (.sr 1 2 0<|0+length (map aJ (x::l))) [.dead,.row 89 2 (map aJ (x::l))]:=gn (fn:=Tryz.f74) (callf:=base) (pu:=c7) (lf:=3000) (l:=[]) (t:=zBf) aC mixed Tryz.func74 oab (show Tryz.f74.body=some (aG 74) by kernel_rfl) (nbl rfl) (bt _) rfl oak (bq (an a0<|an (a1 a0)<|an (ac (apsG (f:=aJ) (x::l) 8 Jh) a0)<|ofE (r:= .sr 1 2 0<|0+length (map aJ (x::l))) (rfl:([.dead,.row 89 2 (map aJ (x::l))]:lXE)=[.dead,.row 89 2 (map aJ (x::l))])) oab)
def OU(a:Addr)(c:Nat):aQ pg 74 [.v (.slice (some a) 0 c)] [] [] (.sr 1 2 0 0) [.dead,.row 89 2 []]:=gn (fn:=Tryz.f74) (callf:=base) (pu:=c7) (lf:=3000) (l:=[]) (t:=zBf) aC mixed Tryz.func74 oab (show Tryz.f74.body=some (aG 74) by kernel_rfl) (nbl rfl) (bt _) rfl oak (bq (an a0<|an (a1 a0)<|an (a1 a0)<|ofE (r:= .sr 1 2 0 0) (rfl:([.dead,.row 89 2 []]:lXE)=[.dead,.row 89 2 []])) oab)
def OV(c:Nat):aQ pg 74 [.v (.slice none 0 c)] [] [] (.v<|.slice none 0 0) []:=gn (fn:=Tryz.f74) (callf:=base) (pu:=c7) (lf:=3000) (l:=[]) (t:=zBf) aC mixed Tryz.func74 oab (show Tryz.f74.body=some (aG 74) by kernel_rfl) (nbl rfl) (bt _) rfl oak (bq (an a0<|an (a1 a0)<|an a0<|ofE (r:= .v<|.slice none 0 0) (rfl:([]:lXE)=[])) oab)
def OW(x:Int×Int)(l:List (Int×Int))(hl:(x::l).length*16<=140737488351232):aQ pg 75 [.sl 2 (map cw (x::l))] [] [] (.sr 1 2 0<|0+length (map cw (x::l))) [.dead,.row 92 2 (map cw (x::l))]:=gn (fn:=Tryz.f75) (callf:=base) (pu:=c7) (lf:=3000) (l:=[]) (t:=zBf) aC mixed Tryz.func75 oab (show Tryz.f75.body=some (aG 75) by kernel_rfl) (nbl rfl) (bt _) rfl oak (bq (an a0<|an (a1 a0)<|an (ac (apsG (f:=cw) (x::l) 16 WE) a0)<|ofE (r:= .sr 1 2 0<|0+length (map cw (x::l))) (rfl:([.dead,.row 92 2 (map cw (x::l))]:lXE)=[.dead,.row 92 2 (map cw (x::l))])) oab)
def OX(a:Addr)(c:Nat):aQ pg 75 [.v (.slice (some a) 0 c)] [] [] (.sr 1 2 0 0) [.dead,.row 92 2 []]:=gn (fn:=Tryz.f75) (callf:=base) (pu:=c7) (lf:=3000) (l:=[]) (t:=zBf) aC mixed Tryz.func75 oab (show Tryz.f75.body=some (aG 75) by kernel_rfl) (nbl rfl) (bt _) rfl oak (bq (an a0<|an (a1 a0)<|an (a1 a0)<|ofE (r:= .sr 1 2 0 0) (rfl:([.dead,.row 92 2 []]:lXE)=[.dead,.row 92 2 []])) oab)
def OY(c:Nat):aQ pg 75 [.v (.slice none 0 c)] [] [] (.v<|.slice none 0 0) []:=gn (fn:=Tryz.f75) (callf:=base) (pu:=c7) (lf:=3000) (l:=[]) (t:=zBf) aC mixed Tryz.func75 oab (show Tryz.f75.body=some (aG 75) by kernel_rfl) (nbl rfl) (bt _) rfl oak (bq (an a0<|an (a1 a0)<|an a0<|ofE (r:= .v<|.slice none 0 0) (rfl:([]:lXE)=[])) oab)
def aa8(l:List (Int×Int))(hl:l.length*8<=140737488351232):aQ pg 74 [.sl 2 (l.map aJ)] [] [] (.sl 2<|l.map aJ) []:=by
 cases l with
 |cons x l=>exact fM (o:=1) (OT x l hl) rfl oaa (aW kx _)
 |nil=>
  refine AU ⟨_,Tryz.func74,by kernel_rfl,by kernel_rfl⟩ λm γ vs h=> ?_;simp only[au,Rep]at h;obtain⟨x,r,rfl,⟨a,len,cap,rfl,h1,_,_⟩,rfl⟩:=h;cases h1;cases a with
  |none=>exact⟨[.v (.slice none 0 cap)],⟨_,_,rfl,rfl,rfl⟩,sG (OV cap) λm γ x h=>Fl x h⟩
  |some a=>exact⟨[.v (.slice (some a) 0 cap)],⟨_,_,rfl,rfl,rfl⟩,fM (o:=1) (OU a cap) rfl rfl rfl⟩
def aa9(l:List (Int×Int))(hl:l.length*16<=140737488351232):aQ pg 75 [.sl 2 (l.map cw)] [] [] (.sl 2<|l.map cw) []:=by
 cases l with
 |cons x l=>exact fM (o:=1) (OW x l hl) rfl oaa (aW oy _)
 |nil=>
  refine AU ⟨_,Tryz.func75,by kernel_rfl,by kernel_rfl⟩ λm γ vs h=> ?_;simp only[au,Rep]at h;obtain⟨x,r,rfl,⟨a,len,cap,rfl,h1,_,_⟩,rfl⟩:=h;cases h1;cases a with
  |none=>exact⟨[.v (.slice none 0 cap)],⟨_,_,rfl,rfl,rfl⟩,sG (OY cap) λm γ x h=>Fl x h⟩
  |some a=>exact⟨[.v (.slice (some a) 0 cap)],⟨_,_,rfl,rfl,rfl⟩,fM (o:=1) (OX a cap) rfl rfl rfl⟩
def apTG{rows:List lXF}{l:List G}(e:rows=l.map gC)(k:Nat)(x:G):rows.take k++ [gCC x]=(l.take k++ [x]).map gC:=by rw[CB];exact apT e k x
def WG{m:Mem}{γ:Gam}{o S:Nat}{x:Value}(h:γ o=some none)(hx:Rep m γ (.v<|.slice none 0 0) x):Rep m γ (.sr o S 0 0) x:=by simp only[Rep]at hx⊢;exact .inl ⟨h,⟨none,hx⟩,trivial,trivial⟩
def i76(g:G):bC:=⟨76,[.ag (gCC g)],.ag (gCC g),True⟩
def gd76{g:G}(h:aQ pg 76 [.ag (gCC g)] [] [] (.ag<|gCC g) []):(i76 g).bu pg:=bI λ_=>h
def WH:Code:=bn 0 (aG 76)
abbrev acA(g:G)(i0:Nat):Am.Loc:=[(1,.pt 0 0),(2,.pt 1 0),(9,.sl 4 (zDe g)),(10,I (length (zDe g):Int)),(11,I (i0:Int))]
abbrev acB(g:G)(i0:Nat):lXE:=[.box 46 [I8 g.op,I g.n,S g.name,.sr 2 4 0 i0],.box 46 [I8 0,I 0,S ByteArray.empty,.v (.slice none 0 0)],.row 46 4 (map gC<|List.take i0 g.kids)]
abbrev WI(g:G):Am.Loc:=[(1,.pt 0 0),(2,.pt 1 0)]
section
variable(g:G)
abbrev WJ:lXE:=[.box 46 [I8 g.op,I g.n,S g.name,.sr 2 4 0 (length g.kids)],.box 46 [I8 0,I 0,S ByteArray.empty,.v (.slice none 0 0)],.row 46 4 (map gC<|List.take (length g.kids) g.kids)]
def WK:KB:=noK 0 (acA g) (acB g) (.exit 0) (WI g) (WJ g) (True)
abbrev acC(i0:Nat):List bG:=[nxW (false) (acA g<|i0+1) (acB g<|i0+1) [(1,.pt 0 0),(2,.pt 1 0),(9,.sl 4 (zDe g)),(10,I (length (zDe g):Int)),(11,I ↑(i0+1))] [0,1,4] [.box 46 [I8 g.op,I g.n,S g.name,.sr 2 4 0 (i0+1)],.box 46 [I8 0,I 0,S ByteArray.empty,.v (.slice none 0 0)],.row 46 4 (map gC<|List.take i0 (List.take i0 g.kids)++ [(ae g.kids i0)])]]
theorem WL(lb:g.kids.length*56<=140737488351232)(hK: ∀u∈G.kids g,aQ pg 76 [.ag (gCC u)] [] [] (.ag<|gCC u) []):ca pg 24 0 0 (.loop WH) (WK g):=
 noB (acC g) (λi0=>(.r [.k,bT]<|.yes<|.r [.row (gCC<|ae g.kids i0),bT]<|.r [.int 0,bT]<|zc i0)) (range 3) zF (length g.kids)
 (λ_ i0(hx0:i0<(length g.kids))=>have l1:=aF gC (g.kids);have hb:(zAz g i0)=true:=afH oaa;
 bq (an (a1 a0)<|an hb<|an (ac (gU g.kids i0) a0)<|an (ac (apo i0 56<|rl gC<|List.take i0 g.kids)<|cA (gd76<|hK _<|ai hx0) trivial a0)<|an (ac (dwo ((i0+1:Nat):Int)) a0)<|lfE (wy (acC g i0) 0) 5 ⟨rfl,rfl,afQ (λz=>([.box 46 [I8 g.op,I g.n,S g.name,.sr 2 4 0 (i0+1)],.box 46 [I8 0,I 0,S ByteArray.empty,.v (.slice none 0 0)],.row 46 4 (map gC z)]:lXE)) (by rw[List.take_take,Nat.min_self];exact(fg (l:=G.kids g) oaa).symm)⟩<|bo (rfl:(.box 46 [I8 g.op,I g.n,S g.name,.sr 2 4 0 (i0+1)]:Ob)= .box 46 [I8 g.op,I g.n,S g.name,.sr 2 4 0 (i0+1)])<|bo (rfl:(.box 46 [I8 0,I 0,S ByteArray.empty,.v (.slice none 0 0)]:Ob)= .box 46 [I8 0,I 0,S ByteArray.empty,.v (.slice none 0 0)])<|bo (afQ (λz=>Ob.row 46 4 z)<|apTG (rl gC<|List.take i0 g.kids) i0<|ae g.kids i0) eC)
 oab)
 (λ_=>have l1:=aF gC (g.kids);have hb:(zAF g)=false:=afI oaa;
 bq (an (a1 a0)<|an hb<|lx (.exit 0) (WI g) (range 3) (WJ g) 3)
 oab) (hc:=λ_ i0 hx0=>(aK (.cons (gd76<|hK _<|ai hx0) rfl bB.nil) aC))
def vU:KB:={WK g with ob0:=[.box 46 [I8 g.op,I g.n,S g.name,.v (.slice none 0 0)],.box 46 [I8 0,I 0,S ByteArray.empty,.v (.slice none 0 0)]]}
theorem OZ(lb:g.kids.length*56<=140737488351232)(hK: ∀u∈G.kids g,aQ pg 76 [.ag (gCC u)] [] [] (.ag<|gCC u) []):ca pg 24 0 0 (.loop WH) (vU g):=iK (WL g lb hK) (qd (xs:=[.box 46 [I8 0,I 0,S ByteArray.empty,.v (.slice none 0 0)]])<|λm γ h vs hv=>by simp only[au]at hv⊢;obtain⟨x0,r0,rfl,h0,x1,r1,rfl,h1,x2,r2,rfl,h2,x3,r3,rfl,h3,rfl⟩:=hv;exact⟨x0,_,rfl,h0,x1,_,rfl,h1,x2,_,rfl,h2,x3,_,rfl,WG h h3,rfl⟩) (dF.refl _ _) rfl (dF.refl _ _) rfl
end
def ve:cy [0] (aG 76)=[(0,.loop WH)]:=by kernel_rfl
abbrev zv(g:G):lXE:=[.box 46 [I8 g.op,I g.n,S g.name,.sr 2 4 0 (length g.kids)],.box 46 [I8 g.op,I g.n,S g.name,.sr 2 4 0 (length g.kids)],.row 46 4 (map gC<|List.take (length g.kids) g.kids)]
def aba(g:G)(lb:g.kids.length*56<=140737488351232)(hK: ∀u∈G.kids g,aQ pg 76 [.ag (gCC u)] [] [] (.ag<|gCC u) []):aQ pg 76 [.ag (gCC g)] [] [] (.ag [I8 g.op,I g.n,S g.name,.sr 2 4 0 (length g.kids)]) (zv g):=gn (fn:=Tryz.f76) (callf:=base) (pu:=c7) (lf:=3000) (l:=[(0,vU g)]) (t:=(.r [bT] zBR)) aC mixed Tryz.func76 oab (show Tryz.f76.body=some (aG 76) by kernel_rfl) (nbl rfl) (bc (l:=[(0,vU g)]) ve (aE (OZ g lb hK) rfl aP) rfl) rfl oak (bq (an a0<|an a0<|an a0<|an a0<|an (kbT (vU g) trivial)<|an (rfl:false=false)<|an a0<|ofE (r:= .ag [I8 g.op,I g.n,S g.name,.sr 2 4 0 (length g.kids)]) (rfl:((zv g):lXE)=(zv g))) oab)
theorem j6.len{g:G}(h:j6 g):g.kids.length*56<=140737488351232:=by obtain⟨o,n,s,l⟩:=g;simp only[j6]at h;exact h.1
def yK: ∀{l:List G},qc l-> ∀u∈l,j6 u
 |[],_,u,hu=>by simp at hu
 |g::l,h,u,hu=>by
  simp only[qc]at h;rcases agc.1 hu with rfl|hu
  ·exact h.1
  ·exact yK h.2 u hu
theorem j6.kids{g:G}(h:j6 g): ∀u∈g.kids,j6 u:=by obtain⟨o,n,s,l⟩:=g;simp only[j6]at h;exact yK h.2
def GI: ∀g:G,j6 g->aQ pg 76 [.ag (gCC g)] [] [] (.ag<|gCC g) []:=G.xN λo n s l ih hf=>by have h:=aba (.mk o n s l) hf.len λu hu=>ih u hu (hf.kids u hu);unfold zv at h;rw[agv]at h;exact qM (lD h (o:=2) rfl (.inl ⟨_,_,_,rfl⟩) (Frz.ag<|fk.cons (Frz.same _)<|fk.cons (Frz.same _)<|fk.cons (Frz.same _)<|fk.cons (Frz.sr0 rfl<|by rw[afK]) fk.nil) (afK ..) qN) (aR 0 _<|by simp[AV.pure])
section
variable(l:List (Int×Int))
def i74:bC:=⟨74,[.sl 2 (l.map aJ)],.sl 2 (l.map aJ),l.length*8<=140737488351232⟩
def g74:(i74 l).bu pg:=bI λhp=>aa8 l hp
def i75:bC:=⟨75,[.sl 2 (l.map cw)],.sl 2 (l.map cw),l.length*16<=140737488351232⟩
def g75:(i75 l).bu pg:=bI λhp=>aa9 l hp
end
def i76h(g:G):bC:=⟨76,[.ag (gCC g)],.ag (gCC g),j6 g⟩
def g76h(g:G):(i76h g).bu pg:=bI λhp=>GI g hp
section
variable(e:Edge)
def r56:AV:= .ag (aD e)
theorem abb(fe:j7 e):aQ pg 56 [.ag (aD e)] [] [] (r56 e) []:=
 have l1:=fe.setB;have l2:=fe.actB;aV 56 (.r [bT]<|.r [.int 0,.int 1,.int 2,bT] zD)
 (an a0<|an (cA (g76h e.g) fe.gB<|cA (g75 e.ct) (by assumption)<|cA (g74 e.set) (by assumption) a0)<|an a0<|vE<|show r56 e=(.ag<|aD e)from rfl) (hc:=(aK (.cons (g74 e.set) rfl<|.cons (g75 e.ct) rfl<|.cons (g76h e.g) rfl bB.nil) aC)) (hu:=(aR 0 _<|by simp[r56,AV.pure]))
def i56:bC:=⟨56,[.ag (aD e)],.ag (aD e),j7 e⟩
def g56:(i56 e).bu pg:=bI λhp=>abb e hp
end
def WM:Code:=bn 0 (aG 21)
section
variable(n:Net)(s:Int)
abbrev zCf:=(aB n.aa s).ah
abbrev acD(i0:Nat):Am.Loc:=[(5,.pt 0 0),(22,.sl 10 (map aD<|zCf n s)),(23,I (length (map aD<|zCf n s):Int)),(24,I (i0:Int))]
abbrev acE(i0:Nat):lXE:=[.box 38 [.sr 1 10 0 i0],.row 49 10 (map aD<|List.take i0<|zCf n s)]
end
abbrev WN(n:Net)(s:Int):Am.Loc:=[(5,.pt 0 0)]
section
variable(n:Net)(s:Int)
abbrev zn:lXE:=[.box 38 [.sr 1 10 0 (length<|zCf n s)],.row 49 10 (map aD<|List.take (length<|zCf n s)<|zCf n s)]
abbrev WO:lXE:=(zn n s)
def WQ:KB:=noK 0 (acD n s) (acE n s) (.exit 0) (WN n s) (WO n s) (True)
abbrev acF(i0:Nat):List bG:=[nxW (false) (acD n s<|i0+1) (acE n s<|i0+1) [(5,.pt 0 0),(22,.sl 10 (map aD<|zCf n s)),(23,I (length (map aD<|zCf n s):Int)),(24,I ↑(i0+1))] [0,3] [.box 38 [.sr 1 10 0 (i0+1)],.row 49 10 (map aD<|List.take i0 (List.take i0<|zCf n s)++ [(ae (zCf n s) i0)])]]
theorem WR(l0:length n.aa<=9223372036854775807)(h0:(zCX s)=true)(h1:(zr n s)=true)(lb:(aB n.aa s).ah.length*136<=140737488351232)(fe: ∀e∈State.ah (aB n.aa s),j7 e):ca pg 35 0 0 (.loop WM) (WQ n s):=
 noB (acF n s) (λi0=>(.r [.k,bT]<|.yes<|.r [.row (aD<|ae (aB n.aa s).ah i0),bT]<|.r [.int 0,bT]<|zc i0)) (range 2) zF (length (aB n.aa s).ah)
 (λ_ i0(hx0:i0<(length (aB n.aa s).ah))=>have g0:=afL h0;have g1:=afL h1;have l1:=aF aD ((aB n.aa s).ah);have hb:(decide<|(i0:Int)<(length (map aD (aB n.aa s).ah):Int))=true:=afH oaa;
 bq (an (a1 a0)<|an hb<|an (ac (rwa aD (aB n.aa s).ah i0) a0)<|an (ac (apo i0 136<|rl aD<|List.take i0 (aB n.aa s).ah)<|cA (g56<|ae (aB n.aa s).ah i0) (fe _<|ai oaa) a0)<|an (ac (dwo ((i0+1:Nat):Int)) a0)<|lfE (wy (acF n s i0) 0) 4 ⟨rfl,rfl,afQ (λz=>([.box 38 [.sr 1 10 0 (i0+1)],.row 49 10 (map aD z)]:lXE)) (by rw[List.take_take,Nat.min_self];exact(fg (l:=State.ah<|aB n.aa s) oaa).symm)⟩<|bo (rfl:(.box 38 [.sr 1 10 0 (i0+1)]:Ob)= .box 38 [.sr 1 10 0 (i0+1)])<|bo (afQ (λz=>Ob.row 49 10 z)<|apT (f:=aD) (rl aD<|List.take i0 (aB n.aa s).ah) i0<|ae (aB n.aa s).ah i0) eC)
 oab)
 (λ_=>have g0:=afL h0;have g1:=afL h1;have l1:=aF aD ((aB n.aa s).ah);have hb:(decide<|(((length (aB n.aa s).ah):Nat):Int)<(length (map aD (aB n.aa s).ah):Int))=false:=afI oaa;
 bq (an (a1 a0)<|an hb<|lx (.exit 0) (WN n s) (range 2) (WO n s) 2)
 oab) (hc:=λ_ i0 hx0=>(aK (.cons (g56<|ae (aB n.aa s).ah i0) rfl bB.nil) aC))
end
abbrev zBK:lXE:=[.box 38 [.v (.slice none 0 0)]]
def vV(n:Net)(s:Int):KB:={WQ n s with ob0:=zBK}
def O4(n:Net)(s:Int)(l0:length n.aa<=9223372036854775807)(h0:(decide<|s>=0)=true)(h1:(decide<|s<(length (map aj n.aa):Int))=true)(lb:(aB n.aa s).ah.length*136<=140737488351232)(fe: ∀e∈State.ah (aB n.aa s),j7 e):ca pg 35 0 0 (.loop WM) (vV n s):=have g0:=afL h0;have g1:=afL h1;iK (WR n s l0 h0 h1 lb fe) (qd (xs:=[])<|λm γ h vs hv=>by simp only[au]at hv⊢;obtain⟨x0,r0,rfl,h0,rfl⟩:=hv;exact⟨x0,_,rfl,WG h h0,rfl⟩) (dF.refl _ _) rfl (dF.refl _ _) rfl
def vf:cy [0] (aG 21)=[(0,.loop WM)]:=by kernel_rfl
abbrev zBt:List Gi:=(.k::uTT 5 [.k,bT])
section
variable(n:Net)(s:Int)
theorem O5(l0:length n.aa<=9223372036854775807)(h0:(zCX s)=true)(h1:(zr n s)=true)(lb:(aB n.aa s).ah.length*136<=140737488351232)(fe: ∀e∈State.ah (aB n.aa s),j7 e):aQ pg 21 [.ag (aY n),I s] [] [] (.fn (.func 57) [] [.pt 0 0]) (zn n s):=have g0:=afL h0;have g1:=afL h1;gn (fn:=Tryz.f21) (callf:=base) (pu:=c7) (lf:=3000) (l:=[(0,vV n s)]) (t:=(.r [bT]<|.r [bT]<|.r zBt<|.yes<|.r [.cq (s).toNat (aj<|aB n.aa s),bT]<|.no zD)) aC mixed Tryz.func21 oab (show Tryz.f21.body=some (aG 21) by kernel_rfl) (nbl rfl) (bc (l:=[(0,vV n s)]) vf (aE (O4 n s l0 h0 h1 lb fe) rfl aP) rfl) rfl oak (bq (an a0<|an a0<|an (aN 5<|ac h0<|a1 a0)<|an h1<|have l1:=aF aj (n.aa);an (ac (rwz aj n.aa s) a0)<|an (kbT (vV n s) trivial)<|an (rfl:false=false)<|an a0<|ofE (r:= .fn (.func 57) [] [.pt 0 0]) (rfl:((zn n s):lXE)=(zn n s))) oab)
theorem O6(l0:length n.aa<=9223372036854775807)(h0:(zCX s)=false):aQ pg 21 [.ag (aY n),I s] [] [] (.fn (.func 57) [] [.pt 0 0]) zBK:=gn (fn:=Tryz.f21) (callf:=base) (pu:=c7) (lf:=3000) (l:=[]) (t:=(.r [bT]<|.r [bT]<|.r zBq zD)) aC mixed Tryz.func21 oab (show Tryz.f21.body=some (aG 21) by kernel_rfl) (nbl rfl) (bt _) rfl oak (bq (an a0<|an a0<|an (aN 4<|ac (ak h0)<|a1 a0)<|an a0<|ofE (r:= .fn (.func 57) [] [.pt 0 0]) (rfl:(zBK:lXE)=zBK)) oab)
theorem O7(l0:length n.aa<=9223372036854775807)(h0:(zCX s)=true)(h1:(zr n s)=false):aQ pg 21 [.ag (aY n),I s] [] [] (.fn (.func 57) [] [.pt 0 0]) zBK:=gn (fn:=Tryz.f21) (callf:=base) (pu:=c7) (lf:=3000) (l:=[]) (t:=(.r [bT]<|.r [bT]<|.r zBt<|.no zD)) aC mixed Tryz.func21 oab (show Tryz.f21.body=some (aG 21) by kernel_rfl) (nbl rfl) (bt _) rfl oak (bq (an a0<|an a0<|an (aN 5<|ac h0<|a1 a0)<|an h1<|an a0<|ofE (r:= .fn (.func 57) [] [.pt 0 0]) (rfl:(zBK:lXE)=zBK)) oab)
theorem WS(l0:length n.aa<=9223372036854775807)(h0:(decide<|s>=0)=true)(h1:(decide<|s<(length (map aj n.aa):Int))=true)(lb:(aB n.aa s).ah.length*136<=140737488351232)(fe: ∀e∈State.ah (aB n.aa s),j7 e):aQ pg 21 [eM n,I s] [] [] (.fn (.func 57) [] [.pf [.sl 10 ((aB n.aa s).ah.map aD)]]) []:=by
 have h:=O5 n s l0 h0 h1 lb fe;unfold zn at h;rw[agv]at h;have k:=lD (ob2:=[.box 38 [.sl 10 ((aB n.aa s).ah.map aD)],.dead]) h (o:=1) rfl (.inl ⟨_,_,_,rfl⟩) (Frz.same _) rfl (λi Y Y' e1 e2=>by
  match i with
  |0=>simp at e1 e2;subst e1;subst e2;exact .inr ⟨by omega,.box (fk.cons (Frz.sr0 rfl<|by rw[afK]) fk.nil)⟩
  |1=>simp at e2;exact .inl e2.symm
  |i+2=>simp at e2)
 exact qM (lD k (o:=0) rfl (.inr ⟨_,_,rfl⟩) (Frz.fn<|fk.cons (Frz.pt rfl) fk.nil) (afK ..) qN) (aR 0 _<|by simp[AV.pure])
end
def BD{n:Net}{s:Int}(h:aQ pg 21 [eM n,I s] [] [] (.fn (.func 57) [] [.pt 0 0]) [.box 38 [.v (.slice none 0 0)]]):aQ pg 21 [eM n,I s] [] [] (.fn (.func 57) [] [.pf [.sl 10 (([]:List Edge).map aD)]]) []:=by refine sG (qM (lD h (o:=0) rfl (.inr ⟨_,_,rfl⟩) (Frz.fn<|fk.cons (Frz.pt rfl) fk.nil) (afK ..) qN)<|aR 0 _<|by simp[AV.pure]) λm γ x hx=> ?_;simp only[List.drop_zero,Rep,au,bD]at hx⊢;obtain⟨xs,ys,rfl,h1,x,r,rfl,⟨b,off,rfl,⟨y,h2,rfl⟩,_⟩,rfl⟩:=hx;exact⟨xs,_,rfl,h1,_,_,rfl,⟨b,off,rfl,⟨_,h2,none,0,0,rfl,rfl,afG _,.inl rfl⟩,trivial⟩,rfl⟩
noncomputable def sh(n:Net)(s:Int):List Edge:=bif decide (s>=0)&&decide (s<(length (map aj n.aa):Int))then(aB n.aa s).ah else []
def abc(n:Net)(s:Int)(hf:fh n):aQ pg 21 [eM n,I s] [] [] (.fn (.func 57) [] [.pf [.sl 10 ((sh n s).map aD)]]) []:=by
 have hl:n.aa.length<=9223372036854775807:=by have:=hf.aa;omega
 cases h0:decide (s>=0)with
 |false=>rw[show sh n s=[] by unfold sh;rw[h0];rfl];exact BD (O6 n s hl h0)
 |true=>
  cases h1:decide (s<(length (map aj n.aa):Int))with
  |false=>rw[show sh n s=[] by unfold sh;rw[h0,h1];rfl];exact BD (O7 n s hl h0 h1)
  |true=>have hm:aB n.aa s∈n.aa:=lP (.inr ⟨afL h0,by have:=afL h1;rwa[afK]at this⟩);rw[show sh n s=(aB n.aa s).ah by unfold sh;rw[h0,h1];rfl];exact WS n s hl h0 h1 (hf.ah _ hm).1 (hf.ah _ hm).2
section
variable(r:bJ)(nm:ByteArray)
def r38:Bool:=cp (Array.toList<|ByteArray.data r.name) (Array.toList<|ByteArray.data nm)
def aeP:aQ pg 38 [.ag (aw r),.pf (aU nm)] [] [] (B<|r38 r nm) []:=
 aV 38 (.r [bT] zBP)
 (an a0<|an (a1 a0)<|bE<|show r38 r nm=(cp (Array.toList<|ByteArray.data r.name)<|Array.toList<|ByteArray.data nm)from rfl)
def i38:bC:=⟨38,[.ag (aw r),.pf [S nm]],B (r38 r nm),True⟩
def g38:(i38 r nm).bu pg:=bI λhp=>aeP r nm
end
def acG:Code:=bn 0 (aG 37)
abbrev WT(l:List bJ)(nm:ByteArray)(i0:Nat):Am.Loc:=[(0,.sl 9 (map aw l)),(1,.fn (.func 38) [] [.pf (aU nm)]),(7,I (length (map aw l):Int)),(8,I (i0:Int))]
abbrev WU(l:List bJ)(nm:ByteArray)(i0:Nat):lXE:=[]
section
variable(l:List bJ)(nm:ByteArray)
def mM(i0:Nat):Bool:=(r38 (ae l i0) nm)
def Eg:Bool:=cz (length l) (mM l nm)
end
abbrev WV(l:List bJ)(nm:ByteArray)(i0:Nat):Am.Loc:=[(4,I (i0:Int))]
abbrev WW(l:List bJ)(nm:ByteArray)(i0:Nat):lXE:=[]
abbrev WX(l:List bJ)(nm:ByteArray):Am.Loc:=[]
abbrev WY(l:List bJ)(nm:ByteArray):lXE:=[]
section
variable(l:List bJ)(nm:ByteArray)
def Ji:KB:=anK 0 (length l) (mM l nm) (WT l nm) (WU l nm) .ret (WV l nm) (WW l nm) (.exit 0) (WX l nm) (WY l nm) (True)
abbrev WZ(i0:Nat):List bG:=[htW (mM l nm i0) .ret (WV l nm i0) zI (WW l nm i0),nxW (mM l nm i0) (WT l nm<|i0+1) (WU l nm<|i0+1) (WT l nm<|i0+1) zI (WU l nm<|i0+1)]
def W0(ls:length l<=9223372036854775807):ca pg 19 0 0 (.loop acG) (Ji l nm):=
 anB (WZ l nm) (λi0=>(.r [.k,bT]<|.yes<|.r [bT]<|.r [.row (aw<|ae l i0),.int 0,bT]<|.br zB<|zC i0)) (range 0) zF
 (λ_ i0(hx0:i0<(length l))=>have l1:=aF aw (l);have hb:(decide<|(i0:Int)<(length (map aw l):Int))=true:=afH oaa;
 bq (an (a1 a0)<|an hb<|an a0<|an (cA (g38 (ae l i0) nm) trivial<|ac (rwa aw l i0) a0)<|brP (λ(h1:(r38 (ae l i0) nm)=true)=>(an a0<|lf (wy (WZ l nm i0) 0) 0<|show mM l nm i0=true from h1))<|λh1=>(an (ac (dwo ((i0+1:Nat):Int)) a0)<|lf (wy (WZ l nm i0) 1) 0 ⟨(show mM l nm i0=false from h1),rfl,rfl⟩))
 oab)
 (λ_=>have l1:=aF aw (l);have hb:(decide<|(((length l):Nat):Int)<(length (map aw l):Int))=false:=afI oaa;
 bq (an (a1 a0)<|an hb<|lx (.exit 0) (WX l nm) (range 0) (WY l nm) 0)
 oab) (hc:=λ_ i0 hx0=>(aK (.cons (g38 (ae l i0) nm) rfl bB.nil) aC))
def r37:Int:=(bif Eg l nm then(((gQ (length l)<|mM l nm):Nat):Int)else(-1))
end
def vg:cy [0] (aG 37)=[(0,.loop acG)]:=by kernel_rfl
section
variable(l:List bJ)(nm:ByteArray)
def idx37(ls:length l<=9223372036854775807):aQ pg 37 [.sl 9 (map aw l),.fn (.func 38) [] [.pf (aU nm)]] [] [] (I<|r37 l nm) []:=
 aV 37 zBS
 (an a0<|an a0<|an (kbT (Ji l nm) trivial)<|brP (λ(h0:(Eg l nm)=true)=>(iE<|show r37 l nm=_ from(cdT h0 rfl)))<|λh0=>(an a0<|iE<|show r37 l nm=_ from(cdF h0 rfl))) (hk:=(bc (l:=[(0,Ji l nm)]) vg (aE (W0 l nm ls) rfl aP) rfl))
def i37:bC:=⟨37,[.sl 9 (l.map aw),.fn (.func 38) [] [.pf [S nm]]],I (r37 l nm),l.length<=9223372036854775807⟩
def g37:(i37 l nm).bu pg:=bI λhp=>idx37 l nm hp
end
section
variable(n:Net)(nm:ByteArray)
def r13:AV:= .tu [I (max (r37 n.rules nm) 0),B (decide<|(r37 n.rules nm)>=0)]
abbrev zBe:=(decide<|(r37 n.rules nm)>=0)
def aeQ(ln:length n.rules<=9223372036854775807):aQ pg 13 [.ag (aY n),S nm] [] [] (r13 n nm) []:=
 aV 13 (.r [bT]<|.r [.int 0,bT]<|.r [.val (.int .i64<|max (r37 n.rules nm) 0),.k,bT] .nil)
 (an a0<|an (cA (g37 n.rules nm) ln a0)<|an (a1<|ac (maxA (P:=Tryz.prog) (ts:=⟨[3,3]⟩) (ty:=3) (fl:=⟨[false,true]⟩) (r37 n.rules nm) 0) a0)<|vE<|show r13 n nm=(.tu [I (max (r37 n.rules nm) 0),B (zBe n nm)])from rfl) (hc:=(aK (.cons (g37 n.rules nm) rfl bB.nil) aC))
end
def acH:Code:=bn 0 (aG 14)
abbrev W1(n:Net)(nm:ByteArray)(i0:Nat):Am.Loc:=[(1,S nm),(2,.pf (aY n)),(6,I (i0:Int))]
abbrev W2(n:Net)(nm:ByteArray)(i0:Nat):lXE:=[]
def uq(n:Net)(nm:ByteArray)(i0:Nat):Bool:=(cp (Array.toList<|ByteArray.data (ae n.rules i0).name)<|Array.toList<|ByteArray.data nm)
def vW(n:Net)(nm:ByteArray):Bool:=cz (length n.rules) (uq n nm)
abbrev W3(n:Net)(nm:ByteArray)(i0:Nat):Am.Loc:=[(4,I (i0:Int)),(5,B true)]
abbrev W4(n:Net)(nm:ByteArray)(i0:Nat):lXE:=[]
abbrev W5(n:Net)(nm:ByteArray):Am.Loc:=[]
abbrev W6(n:Net)(nm:ByteArray):lXE:=[]
section
variable(n:Net)(nm:ByteArray)
def Jj:KB:=anK 0 (length n.rules) (uq n nm) (W1 n nm) (W2 n nm) .ret (W3 n nm) (W4 n nm) (.exit 0) (W5 n nm) (W6 n nm) (True)
abbrev W7(i0:Nat):List bG:=[htW (uq n nm i0) .ret (W3 n nm i0) zI (W4 n nm i0),nxW (uq n nm i0) (W1 n nm<|i0+1) (W2 n nm<|i0+1) (W1 n nm<|i0+1) zI (W2 n nm<|i0+1)]
def W8(ln:length n.rules<=9223372036854775807):ca pg 23 0 0 (.loop acH) (Jj n nm):=
 anB (W7 n nm) (λi0=>(.r [.k,bT]<|.yes<|.r [.row (aw<|ae n.rules i0),.k,bT]<|.br zB<|zC i0)) (range 0) zF
 (λ_ i0(hx0:i0<(length n.rules))=>have l1:=aF aw (n.rules);have hb:(zAH i0 n)=true:=afH oaa;
 bq (an (a1 a0)<|an hb<|an (a1<|ac (rwa aw n.rules i0) a0)<|brP (λ(h1:(cp (Array.toList<|ByteArray.data (ae n.rules i0).name)<|Array.toList<|ByteArray.data nm)=true)=>(an a0<|lf (wy (W7 n nm i0) 0) 0<|show uq n nm i0=true from h1))<|λh1=>(an (ac (dwo ((i0+1:Nat):Int)) a0)<|lf (wy (W7 n nm i0) 1) 0 ⟨(show uq n nm i0=false from h1),rfl,rfl⟩))
 oab)
 (λ_=>have l1:=aF aw (n.rules);have hb:(zP n)=false:=afI oaa;
 bq (an (a1 a0)<|an hb<|lx (.exit 0) (W5 n nm) (range 0) (W6 n nm) 0)
 oab)
def r14:AV:=(bif vW n nm then .tu [I (((gQ (length n.rules)<|uq n nm):Nat):Int),B true]else .tu [I 0,B false])
end
def vh:cy [0] (aG 14)=[(0,.loop acH)]:=by kernel_rfl
section
variable(n:Net)
theorem aeR(nm:ByteArray)(ln:length n.rules<=9223372036854775807):aQ pg 14 [.ag (aY n),S nm] [] [] (r14 n nm) []:=
 aV 14 zBS
 (an a0<|an a0<|an (kbT (Jj n nm) trivial)<|brP (λ(h0:(vW n nm)=true)=>(vE<|show r14 n nm=_ from(cdT h0 rfl)))<|λh0=>(an a0<|vE<|show r14 n nm=_ from(cdF h0 rfl))) (hk:=(bc (l:=[(0,Jj n nm)]) vh (aE (W8 n nm ln) rfl aP) rfl)) (hu:=(by unfold r14;cases vW n nm<;>rfl))
section
variable(t:Int)
def r15:ByteArray:=(bif t==0 then⟨⟨[69,79,70]⟩⟩else(bif decide (t<0)then⟨⟨[]⟩⟩else(bif decide (t>(length (map aU n.types):Int))then⟨⟨[]⟩⟩else(aB n.types<|t-1))))
abbrev zAy:GT:=(.r [bT]<|.r [.k,bT]<|.br zD<|.a (.r zBq zD)<|.r zBt<|.br zD<|.r [.int (t-1),.cq ((t-1)).toNat (aU<|aB n.types<|t-1),bT] .nil)
def aeS(lt:length n.types<=9223372036854775807):aQ pg 15 [.ag (aY n),I t] [] [] (S<|r15 n t) []:=
 aV 15 (zAy n t)
 (an a0<|an (a1 a0)<|brP (λ(h0:(t==0)=true)=>(an a0<|sE<|show r15 n t=_ from(cdT h0 rfl)))<|λh0=>have g0:=afT h0;
 (aO (λ(h1:(decide<|t<0)=true)=>(an (aN 4<|ac (n2 h1)<|a1 a0)<|an a0<|sE<|show r15 n t=_ from(cdF h0<|cdT h1 rfl)))<|λh1=>have g1:=afE h1;
 (an (aN 5<|ac (ak h1)<|a1 a0)<|brP (λ(h2:(decide<|t>(length (map aU n.types):Int))=true)=>(an a0<|sE<|show r15 n t=_ from(cdF h0<|cdF h1<|cdT h2 rfl)))<|λh2=>have l1:=aF aU (n.types);have g2:=afE h2;
 (an (ac (rwz aU n.types<|t-1)<|ac (dwo<|t-1) a0)<|sE<|show r15 n t=_ from(cdF h0<|cdF h1<|cdF h2 rfl)))))
def r16:ByteArray:=(bif t==0 then⟨⟨[69,79,70]⟩⟩else(bif decide (t<0)then⟨⟨[]⟩⟩else(bif decide (t>(length (map aU n.types):Int))then⟨⟨[]⟩⟩else(aB n.types<|t-1))))
def aeT(lt:length n.types<=9223372036854775807):aQ pg 16 [.ag (aY n),I t] [] [] (S<|r16 n t) []:=
 aV 16 (zAy n t)
 (an a0<|an (a1 a0)<|brP (λ(h0:(t==0)=true)=>(an a0<|sE<|show r16 n t=_ from(cdT h0 rfl)))<|λh0=>have g0:=afT h0;
 (aO (λ(h1:(decide<|t<0)=true)=>(an (aN 4<|ac (n2 h1)<|a1 a0)<|an a0<|sE<|show r16 n t=_ from(cdF h0<|cdT h1 rfl)))<|λh1=>have g1:=afE h1;
 (an (aN 5<|ac (ak h1)<|a1 a0)<|brP (λ(h2:(decide<|t>(length (map aU n.types):Int))=true)=>(an a0<|sE<|show r16 n t=_ from(cdF h0<|cdF h1<|cdT h2 rfl)))<|λh2=>have l1:=aF aU (n.types);have g2:=afE h2;
 (an (ac (rwz aU n.types<|t-1)<|ac (dwo<|t-1) a0)<|sE<|show r16 n t=_ from(cdF h0<|cdF h1<|cdF h2 rfl)))))
end
end
noncomputable def eqP(a b:Int×Int):Bool:=decide (a.1=b.1)&&(decide (a.2=b.2)&&true)
noncomputable def eqU(a b:bJ):Bool:=(a.name.toList==b.name.toList)&&((a.bR==b.bR)&&((a.ft==b.ft)&&((a.lazy==b.lazy)&&((a.left==b.left)&&(decide (a.mode=b.mode)&&(decide (a.type=b.type)&&(decide (a.start=b.start)&&(decide (a.stop=b.stop)&&true))))))))
theorem aeU{a b:ByteArray}:a.data.toList=b.data.toList↔a=b:=⟨λh=>by obtain⟨⟨x⟩⟩:=a;obtain⟨⟨y⟩⟩:=b;simp only at h;rw[h],λh=>by rw[h]⟩
def vi{b:Bool}{p:Prop}(h:b=true↔p):b=dec p:=ag9.2 (h.trans aH.symm)
theorem si(a b:ByteArray):cp a.data.toList b.data.toList=dec (a=b):=vi (by rw[oh,agQ,aeU])
def vX(a b:Int×Int):eqP a b=dec (a=b):=vi (by obtain⟨a1,a2⟩:=a;obtain⟨b1,b2⟩:=b;simp[eqP])
def MB(a b:bJ):eqU a b=dec (a=b):=vi (by obtain⟨a1,a2,a3,a4,a5,a6,a7,a8,a9⟩:=a;obtain⟨b1,b2,b3,b4,b5,b6,b7,b8,b9⟩:=b;simp[eqU,ByteArray.toList_eq,ByteArray.ext_iff])
def sj{α:Type}[Inhabited α]{f:α->lXF}(a b:List α)(t:Nat->Bool)(ht: ∀i,t i= !(dec<|ae a i=ae b i)):(!((length (map f a):Int) !=(length (map f b):Int))&&(!(cz a.length t)))=dec (a=b):=vi (by
 simp only[afK,afv,afP,bL,ago];constructor
 ·rintro⟨h1,h2⟩;refine List.ext_getElem oaa λi hi hj=> ?_;have h3:=h2 i hi;rw[ht,aga,aH]at h3;simpa [ae,hi,hj]using h3
 ·rintro rfl;exact⟨rfl,λi _=>by rw[ht,aH.2 rfl];rfl⟩)
def acI:Code:=bn 0 (aG 47)
abbrev W9(a b:List (Int×Int))(i0:Nat):Am.Loc:=[(0,.sl 2 (map aJ a)),(1,.sl 2 (map aJ b)),(12,I (length (map aJ a):Int)),(13,I (i0:Int))]
abbrev Xa(a b:List (Int×Int))(i0:Nat):lXE:=[]
def BE(a b:List (Int×Int))(i0:Nat):Bool:=(!(eqP (ae a i0)<|ae b i0))
def MC(a b:List (Int×Int)):Bool:=cz (length a) (BE a b)
abbrev Xb(a b:List (Int×Int))(i0:Nat):Am.Loc:=[(4,B false)]
abbrev Xc(a b:List (Int×Int))(i0:Nat):lXE:=[]
abbrev Xd(a b:List (Int×Int)):Am.Loc:=[]
abbrev Xe(a b:List (Int×Int)):lXE:=[]
section
variable(a b:List (Int×Int))
abbrev zBJ:=((length (map aJ a):Int) !=(length (map aJ b):Int))
def Jk:KB:=anK 0 (length a) (BE a b) (W9 a b) (Xa a b) .ret (Xb a b) (Xc a b) (.exit 0) (Xd a b) (Xe a b) ((zBJ a b)=false)
abbrev Xf(i0:Nat):List bG:=[htW (BE a b i0) .ret (Xb a b i0) zI (Xc a b i0),nxW (BE a b i0) (W9 a b<|i0+1) (Xa a b<|i0+1) (W9 a b<|i0+1) zI (Xa a b<|i0+1)]
def Xg(la:length a<=9223372036854775807)(lb:length b<=9223372036854775807):ca pg 26 0 0 (.loop acI) (Jk a b):=
 anB (Xf a b) (λi0=>(.r [.k,bT]<|.yes<|.r [bT]<|.r [.row (aJ<|ae a i0),.row (aJ<|ae b i0),.k,bT]<|.br zB<|zC i0)) (range 0) zF
 (λ(hp0:(zBJ a b)=false) i0(hx0:i0<(length a))=>have gp0:=cE hp0;have lp0:=aF aJ (a);have l2:=aF aJ (b);have l1:=aF aJ (a);have hb:(decide<|(i0:Int)<(length (map aJ a):Int))=true:=afH oaa;
 bq (an (a1 a0)<|an hb<|an a0<|an (a1<|ac (rwa aJ b i0)<|ac (rwa aJ a i0) a0)<|brP (λ(h1:(!(eqP (ae a i0)<|ae b i0))=true)=>(an a0<|lf (wy (Xf a b i0) 0) 0<|show BE a b i0=true from h1))<|λh1=>(an (ac (dwo ((i0+1:Nat):Int)) a0)<|lf (wy (Xf a b i0) 1) 0 ⟨(show BE a b i0=false from h1),rfl,rfl⟩))
 oab)
 (λ(hp0:(zBJ a b)=false)=>have gp0:=cE hp0;have lp0:=aF aJ (a);have l2:=aF aJ (b);have l1:=aF aJ (a);have hb:(decide<|(((length a):Nat):Int)<(length (map aJ a):Int))=false:=afI oaa;
 bq (an (a1 a0)<|an hb<|lx (.exit 0) (Xd a b) (range 0) (Xe a b) 0)
 oab)
def r47:Bool:=(!((length (map aJ a):Int) !=(length (map aJ b):Int))&&(!(MC a b)))
end
def vj:cy [0] (aG 47)=[(0,.loop acI)]:=by kernel_rfl
section
variable(a b:List (Int×Int))
def abd(la:length a<=9223372036854775807)(lb:length b<=9223372036854775807):aQ pg 47 [.sl 2 (map aJ a),.sl 2 (map aJ b)] [] [] (B<|r47 a b) []:=
 aV 47 zAN
 (an a0<|an (a1 a0)<|brP (λ(h0:(zBJ a b)=true)=>(an a0<|bE<|show r47 a b=false from(aT<|bQ h0)))<|λh0=>(an a0<|an (kbT (Jk a b) h0)<|brP (λ(h1:(MC a b)=true)=>(bE<|show r47 a b=false from(ay (ak h0)<|bQ h1)))<|λh1=>(an a0<|bE<|show r47 a b=true from(ay (ak h0)<|ak h1)))) (hk:=(bc (l:=[(0,Jk a b)]) vj (aE (Xg a b la lb) rfl aP) rfl))
def aeV:r47 a b=dec (a=b):=sj a b _ λi=>afQ not (vX _ _)
def i47:bC:=⟨47,[.sl 2 (a.map aJ),.sl 2 (b.map aJ)],B (dec<|a=b),a.length<=9223372036854775807/\b.length<=9223372036854775807⟩
def g47:(i47 a b).bu pg:=bI λhp=>aeV a b▸abd a b hp.1 hp.2
end
def acJ:Code:=bn 0 (aG 48)
abbrev Xh(a b:List (Int×Int))(i0:Nat):Am.Loc:=[(0,.sl 2 (map cw a)),(1,.sl 2 (map cw b)),(12,I (length (map cw a):Int)),(13,I (i0:Int))]
abbrev Xi(a b:List (Int×Int))(i0:Nat):lXE:=[]
def BF(a b:List (Int×Int))(i0:Nat):Bool:=(!(eqP (ae a i0)<|ae b i0))
def MD(a b:List (Int×Int)):Bool:=cz (length a) (BF a b)
abbrev Xj(a b:List (Int×Int))(i0:Nat):Am.Loc:=[(4,B false)]
abbrev Xk(a b:List (Int×Int))(i0:Nat):lXE:=[]
abbrev Xl(a b:List (Int×Int)):Am.Loc:=[]
abbrev Xm(a b:List (Int×Int)):lXE:=[]
section
variable(a b:List (Int×Int))
abbrev zBV:=((length (map cw a):Int) !=(length (map cw b):Int))
def Jl:KB:=anK 0 (length a) (BF a b) (Xh a b) (Xi a b) .ret (Xj a b) (Xk a b) (.exit 0) (Xl a b) (Xm a b) ((zBV a b)=false)
abbrev Xn(i0:Nat):List bG:=[htW (BF a b i0) .ret (Xj a b i0) zI (Xk a b i0),nxW (BF a b i0) (Xh a b<|i0+1) (Xi a b<|i0+1) (Xh a b<|i0+1) zI (Xi a b<|i0+1)]
def Xo(la:length a<=9223372036854775807)(lb:length b<=9223372036854775807):ca pg 26 0 0 (.loop acJ) (Jl a b):=
 anB (Xn a b) (λi0=>(.r [.k,bT]<|.yes<|.r [bT]<|.r [.row (cw<|ae a i0),.row (cw<|ae b i0),.k,bT]<|.br zB<|zC i0)) (range 0) zF
 (λ(hp0:(zBV a b)=false) i0(hx0:i0<(length a))=>have gp0:=cE hp0;have lp0:=aF cw (a);have l2:=aF cw (b);have l1:=aF cw (a);have hb:(decide<|(i0:Int)<(length (map cw a):Int))=true:=afH oaa;
 bq (an (a1 a0)<|an hb<|an a0<|an (a1<|ac (rwa cw b i0)<|ac (rwa cw a i0) a0)<|brP (λ(h1:(!(eqP (ae a i0)<|ae b i0))=true)=>(an a0<|lf (wy (Xn a b i0) 0) 0<|show BF a b i0=true from h1))<|λh1=>(an (ac (dwo ((i0+1:Nat):Int)) a0)<|lf (wy (Xn a b i0) 1) 0 ⟨(show BF a b i0=false from h1),rfl,rfl⟩))
 oab)
 (λ(hp0:(zBV a b)=false)=>have gp0:=cE hp0;have lp0:=aF cw (a);have l2:=aF cw (b);have l1:=aF cw (a);have hb:(decide<|(((length a):Nat):Int)<(length (map cw a):Int))=false:=afI oaa;
 bq (an (a1 a0)<|an hb<|lx (.exit 0) (Xl a b) (range 0) (Xm a b) 0)
 oab)
def r48:Bool:=(!((length (map cw a):Int) !=(length (map cw b):Int))&&(!(MD a b)))
end
def vk:cy [0] (aG 48)=[(0,.loop acJ)]:=by kernel_rfl
section
variable(a b:List (Int×Int))
def abe(la:length a<=9223372036854775807)(lb:length b<=9223372036854775807):aQ pg 48 [.sl 2 (map cw a),.sl 2 (map cw b)] [] [] (B<|r48 a b) []:=
 aV 48 zAN
 (an a0<|an (a1 a0)<|brP (λ(h0:(zBV a b)=true)=>(an a0<|bE<|show r48 a b=false from(aT<|bQ h0)))<|λh0=>(an a0<|an (kbT (Jl a b) h0)<|brP (λ(h1:(MD a b)=true)=>(bE<|show r48 a b=false from(ay (ak h0)<|bQ h1)))<|λh1=>(an a0<|bE<|show r48 a b=true from(ay (ak h0)<|ak h1)))) (hk:=(bc (l:=[(0,Jl a b)]) vk (aE (Xo a b la lb) rfl aP) rfl))
def aeW:r48 a b=dec (a=b):=sj a b _ λi=>afQ not (vX _ _)
def i48:bC:=⟨48,[.sl 2 (a.map cw),.sl 2 (b.map cw)],B (dec<|a=b),a.length<=9223372036854775807/\b.length<=9223372036854775807⟩
def g48:(i48 a b).bu pg:=bI λhp=>aeW a b▸abe a b hp.1 hp.2
end
def acK:Code:=bn 0 (aG 50)
abbrev Xp(a b:lXD)(i0:Nat):Am.Loc:=[(0,.sl 1 (map aU a)),(1,.sl 1 (map aU b)),(12,I (length (map aU a):Int)),(13,I (i0:Int))]
abbrev Xq(a b:lXD)(i0:Nat):lXE:=[]
def BG(a b:lXD)(i0:Nat):Bool:=(!(cp (Array.toList<|ByteArray.data<|ae a i0)<|Array.toList<|ByteArray.data<|ae b i0))
def ME(a b:lXD):Bool:=cz (length a) (BG a b)
abbrev Xr(a b:lXD)(i0:Nat):Am.Loc:=[(4,B false)]
abbrev Xs(a b:lXD)(i0:Nat):lXE:=[]
abbrev Xt(a b:lXD):Am.Loc:=[]
abbrev Xu(a b:lXD):lXE:=[]
abbrev zm(a b:lXD):=((length (map aU a):Int) !=(length (map aU b):Int))
def Jm(a b:lXD):KB:=anK 0 (length a) (BG a b) (Xp a b) (Xq a b) .ret (Xr a b) (Xs a b) (.exit 0) (Xt a b) (Xu a b) ((zm a b)=false)
abbrev Xv(a b:lXD)(i0:Nat):List bG:=[htW (BG a b i0) .ret (Xr a b i0) zI (Xs a b i0),nxW (BG a b i0) (Xp a b<|i0+1) (Xq a b<|i0+1) (Xp a b<|i0+1) zI (Xq a b<|i0+1)]
abbrev zDd(a:lXD):=(decide<|(((length a):Nat):Int)<(length (map aU a):Int))
def Xw(a b:lXD)(la:length a<=9223372036854775807)(lb:length b<=9223372036854775807):ca pg 26 0 0 (.loop acK) (Jm a b):=
 anB (Xv a b) (λi0=>(.r [.k,bT]<|.yes<|.r [bT]<|.r [.row (aU<|ae a i0),.row (aU<|ae b i0),.k,bT]<|.br zB<|zC i0)) (range 0) zF
 (λ(hp0:(zm a b)=false) i0(hx0:i0<(length a))=>have gp0:=cE hp0;have lp0:=aF aU (a);have l2:=aF aU (b);have l1:=aF aU (a);have hb:(decide<|(i0:Int)<(length (map aU a):Int))=true:=afH oaa;
 bq (an (a1 a0)<|an hb<|an a0<|an (a1<|ac (rwa aU b i0)<|ac (rwa aU a i0) a0)<|brP (λ(h1:(!(cp (Array.toList<|ByteArray.data<|ae a i0)<|Array.toList<|ByteArray.data<|ae b i0))=true)=>(an a0<|lf (wy (Xv a b i0) 0) 0<|show BG a b i0=true from h1))<|λh1=>(an (ac (dwo ((i0+1:Nat):Int)) a0)<|lf (wy (Xv a b i0) 1) 0 ⟨(show BG a b i0=false from h1),rfl,rfl⟩))
 oab)
 (λ(hp0:(zm a b)=false)=>have gp0:=cE hp0;have lp0:=aF aU (a);have l2:=aF aU (b);have l1:=aF aU (a);have hb:(zDd a)=false:=afI oaa;
 bq (an (a1 a0)<|an hb<|lx (.exit 0) (Xt a b) (range 0) (Xu a b) 0)
 oab)
def r50(a b:lXD):Bool:=(!((length (map aU a):Int) !=(length (map aU b):Int))&&(!(ME a b)))
def vl:cy [0] (aG 50)=[(0,.loop acK)]:=by kernel_rfl
section
variable(a b:lXD)
def abf(la:length a<=9223372036854775807)(lb:length b<=9223372036854775807):aQ pg 50 [.sl 1 (map aU a),.sl 1 (map aU b)] [] [] (B<|r50 a b) []:=
 aV 50 zAN
 (an a0<|an (a1 a0)<|brP (λ(h0:(zm a b)=true)=>(an a0<|bE<|show r50 a b=false from(aT<|bQ h0)))<|λh0=>(an a0<|an (kbT (Jm a b) h0)<|brP (λ(h1:(ME a b)=true)=>(bE<|show r50 a b=false from(ay (ak h0)<|bQ h1)))<|λh1=>(an a0<|bE<|show r50 a b=true from(ay (ak h0)<|ak h1)))) (hk:=(bc (l:=[(0,Jm a b)]) vl (aE (Xw a b la lb) rfl aP) rfl))
def aeX:r50 a b=dec (a=b):=sj a b _ λi=>afQ not (si _ _)
def i50:bC:=⟨50,[.sl 1 (a.map aU),.sl 1 (b.map aU)],B (dec<|a=b),a.length<=9223372036854775807/\b.length<=9223372036854775807⟩
def g50:(i50 a b).bu pg:=bI λhp=>aeX a b▸abf a b hp.1 hp.2
end
def acL:Code:=bn 0 (aG 51)
abbrev Xx(a b:List bJ)(i0:Nat):Am.Loc:=[(0,.sl 9 (map aw a)),(1,.sl 9 (map aw b)),(12,I (length (map aw a):Int)),(13,I (i0:Int))]
abbrev Xy(a b:List bJ)(i0:Nat):lXE:=[]
def BH(a b:List bJ)(i0:Nat):Bool:=(!(eqU (ae a i0)<|ae b i0))
def MF(a b:List bJ):Bool:=cz (length a) (BH a b)
abbrev Xz(a b:List bJ)(i0:Nat):Am.Loc:=[(4,B false)]
abbrev XA(a b:List bJ)(i0:Nat):lXE:=[]
abbrev XB(a b:List bJ):Am.Loc:=[]
abbrev XC(a b:List bJ):lXE:=[]
section
variable(a b:List bJ)
abbrev zBG:=((length (map aw a):Int) !=(length (map aw b):Int))
def Jn:KB:=anK 0 (length a) (BH a b) (Xx a b) (Xy a b) .ret (Xz a b) (XA a b) (.exit 0) (XB a b) (XC a b) ((zBG a b)=false)
abbrev XD(i0:Nat):List bG:=[htW (BH a b i0) .ret (Xz a b i0) zI (XA a b i0),nxW (BH a b i0) (Xx a b<|i0+1) (Xy a b<|i0+1) (Xx a b<|i0+1) zI (Xy a b<|i0+1)]
def XE(la:length a<=9223372036854775807)(lb:length b<=9223372036854775807):ca pg 26 0 0 (.loop acL) (Jn a b):=
 anB (XD a b) (λi0=>(.r [.k,bT]<|.yes<|.r [bT]<|.r [.row (aw<|ae a i0),.row (aw<|ae b i0),.k,bT]<|.br zB<|zC i0)) (range 0) zF
 (λ(hp0:(zBG a b)=false) i0(hx0:i0<(length a))=>have gp0:=cE hp0;have lp0:=aF aw (a);have l2:=aF aw (b);have l1:=aF aw (a);have hb:(decide<|(i0:Int)<(length (map aw a):Int))=true:=afH oaa;
 bq (an (a1 a0)<|an hb<|an a0<|an (a1<|ac (rwa aw b i0)<|ac (rwa aw a i0) a0)<|brP (λ(h1:(!(eqU (ae a i0)<|ae b i0))=true)=>(an a0<|lf (wy (XD a b i0) 0) 0<|show BH a b i0=true from h1))<|λh1=>(an (ac (dwo ((i0+1:Nat):Int)) a0)<|lf (wy (XD a b i0) 1) 0 ⟨(show BH a b i0=false from h1),rfl,rfl⟩))
 oab)
 (λ(hp0:(zBG a b)=false)=>have gp0:=cE hp0;have lp0:=aF aw (a);have l2:=aF aw (b);have l1:=aF aw (a);have hb:(decide<|(((length a):Nat):Int)<(length (map aw a):Int))=false:=afI oaa;
 bq (an (a1 a0)<|an hb<|lx (.exit 0) (XB a b) (range 0) (XC a b) 0)
 oab)
def r51:Bool:=(!((length (map aw a):Int) !=(length (map aw b):Int))&&(!(MF a b)))
end
def vm:cy [0] (aG 51)=[(0,.loop acL)]:=by kernel_rfl
section
variable(a b:List bJ)
def abg(la:length a<=9223372036854775807)(lb:length b<=9223372036854775807):aQ pg 51 [.sl 9 (map aw a),.sl 9 (map aw b)] [] [] (B<|r51 a b) []:=
 aV 51 zAN
 (an a0<|an (a1 a0)<|brP (λ(h0:(zBG a b)=true)=>(an a0<|bE<|show r51 a b=false from(aT<|bQ h0)))<|λh0=>(an a0<|an (kbT (Jn a b) h0)<|brP (λ(h1:(MF a b)=true)=>(bE<|show r51 a b=false from(ay (ak h0)<|bQ h1)))<|λh1=>(an a0<|bE<|show r51 a b=true from(ay (ak h0)<|ak h1)))) (hk:=(bc (l:=[(0,Jn a b)]) vm (aE (XE a b la lb) rfl aP) rfl))
def aeY:r51 a b=dec (a=b):=sj a b _ λi=>afQ not (MB _ _)
def i51:bC:=⟨51,[.sl 9 (a.map aw),.sl 9 (b.map aw)],B (dec<|a=b),a.length<=9223372036854775807/\b.length<=9223372036854775807⟩
def g51:(i51 a b).bu pg:=bI λhp=>aeY a b▸abg a b hp.1 hp.2
end
def acM:Code:=bn 0 (aG 55)
abbrev XF(a b:lXD)(i0:Nat):Am.Loc:=[(0,.sl 1 (map aU a)),(1,.sl 1 (map aU b)),(5,I (i0:Int))]
abbrev XG(a b:lXD)(i0:Nat):lXE:=[]
def BI(a b:lXD)(i0:Nat):Bool:=(!(cp (Array.toList<|ByteArray.data<|ae a i0)<|Array.toList<|ByteArray.data<|ae b i0))
def MG(a b:lXD):Bool:=cz (length a) (BI a b)
abbrev XH(a b:lXD)(i0:Nat):Am.Loc:=[(4,B false)]
abbrev XI(a b:lXD)(i0:Nat):lXE:=[]
abbrev XJ(a b:lXD):Am.Loc:=[]
abbrev XK(a b:lXD):lXE:=[]
section
variable(a b:lXD)
def Jo:KB:=anK 0 (length a) (BI a b) (XF a b) (XG a b) .ret (XH a b) (XI a b) (.exit 0) (XJ a b) (XK a b) ((zm a b)=false)
abbrev XL(i0:Nat):List bG:=[htW (BI a b i0) .ret (XH a b i0) zI (XI a b i0),nxW (BI a b i0) (XF a b<|i0+1) (XG a b<|i0+1) (XF a b<|i0+1) zI (XG a b<|i0+1)]
def XM(la:length a<=9223372036854775807)(lb:length b<=9223372036854775807):ca pg 26 0 0 (.loop acM) (Jo a b):=
 anB (XL a b) (λi0=>(.r [.k,bT]<|.yes<|.r [.row (aU<|ae a i0),.row (aU<|ae b i0),.k,bT]<|.br zB<|zC i0)) (range 0) zF
 (λ(hp0:(zm a b)=false) i0(hx0:i0<(length a))=>have gp0:=cE hp0;have lp0:=aF aU (a);have l2:=aF aU (b);have l1:=aF aU (a);have hb:(decide<|(i0:Int)<(length (map aU a):Int))=true:=afH oaa;
 bq (an (a1 a0)<|an hb<|an (a1<|ac (rwa aU b i0)<|ac (rwa aU a i0) a0)<|brP (λ(h1:(!(cp (Array.toList<|ByteArray.data<|ae a i0)<|Array.toList<|ByteArray.data<|ae b i0))=true)=>(an a0<|lf (wy (XL a b i0) 0) 0<|show BI a b i0=true from h1))<|λh1=>(an (ac (dwo ((i0+1:Nat):Int)) a0)<|lf (wy (XL a b i0) 1) 0 ⟨(show BI a b i0=false from h1),rfl,rfl⟩))
 oab)
 (λ(hp0:(zm a b)=false)=>have gp0:=cE hp0;have lp0:=aF aU (a);have l2:=aF aU (b);have l1:=aF aU (a);have hb:(zDd a)=false:=afI oaa;
 bq (an (a1 a0)<|an hb<|lx (.exit 0) (XJ a b) (range 0) (XK a b) 0)
 oab)
def r55:Bool:=(!((length (map aU a):Int) !=(length (map aU b):Int))&&(!(MG a b)))
end
def vn:cy [0] (aG 55)=[(0,.loop acM)]:=by kernel_rfl
section
variable(a b:lXD)
def abh(la:length a<=9223372036854775807)(lb:length b<=9223372036854775807):aQ pg 55 [.sl 1 (map aU a),.sl 1 (map aU b)] [] [] (B<|r55 a b) []:=
 aV 55 zAN
 (an a0<|an (a1 a0)<|brP (λ(h0:(zm a b)=true)=>(an a0<|bE<|show r55 a b=false from(aT<|bQ h0)))<|λh0=>(an a0<|an (kbT (Jo a b) h0)<|brP (λ(h1:(MG a b)=true)=>(bE<|show r55 a b=false from(ay (ak h0)<|bQ h1)))<|λh1=>(an a0<|bE<|show r55 a b=true from(ay (ak h0)<|ak h1)))) (hk:=(bc (l:=[(0,Jo a b)]) vn (aE (XM a b la lb) rfl aP) rfl))
def aeZ:r55 a b=dec (a=b):=sj a b _ λi=>afQ not (si _ _)
def i55:bC:=⟨55,[.sl 1 (a.map aU),.sl 1 (b.map aU)],B (dec<|a=b),a.length<=9223372036854775807/\b.length<=9223372036854775807⟩
def g55:(i55 a b).bu pg:=bI λhp=>aeZ a b▸abh a b hp.1 hp.2
end
def is58(g h:G):bC:=⟨58,[.ag (gCC g),.ag (gCC h)],B (dec<|g=h),True⟩
def gs58{g h:G}(k:aQ pg 58 [.ag (gCC g),.ag (gCC h)] [] [] (B<|dec<|g=h) []):(is58 g h).bu pg:=bI λ_=>k
def is49(g h:G):bC:=⟨49,[.ag (gCC g),.ag (gCC h)],B (dec<|g=h),True⟩
def gs49{g h:G}(k:aQ pg 49 [.ag (gCC g),.ag (gCC h)] [] [] (B<|dec<|g=h) []):(is49 g h).bu pg:=bI λ_=>k
def acN:Code:=bn 0 (aG 58)
abbrev XN(g h:G)(i0:Nat):Am.Loc:=[(2,.pf (gCC g)),(3,.pf (gCC h)),(5,I (i0:Int))]
abbrev XO(g h:G)(i0:Nat):lXE:=[]
def BJ(g h:G)(i0:Nat):Bool:=(!(dec<|(ae g.kids i0)=(ae (G.kids h) i0)))
def Eh(g h:G):Bool:=cz (length g.kids) (BJ g h)
abbrev XP(g h:G)(i0:Nat):Am.Loc:=[(4,B false)]
abbrev XQ(g h:G)(i0:Nat):lXE:=[]
abbrev XR(g h:G):Am.Loc:=[]
abbrev XS(g h:G):lXE:=[]
section
variable(g h:G)
abbrev zAl:=((length (map gC g.kids):Int) !=(length (map gC<|G.kids h):Int))
def Jp:KB:=anK 0 (length g.kids) (BJ g h) (XN g h) (XO g h) .ret (XP g h) (XQ g h) (.exit 0) (XR g h) (XS g h) ((zAl g h)=false)
abbrev XT(i0:Nat):List bG:=[htW (BJ g h i0) .ret (XP g h i0) zI (XQ g h i0),nxW (BJ g h i0) (XN g h<|i0+1) (XO g h<|i0+1) (XN g h<|i0+1) zI (XO g h<|i0+1)]
def XU(la:length g.kids<=9223372036854775807)(lb:length (G.kids h)<=9223372036854775807)(hF: ∀v∈G.kids h,dh v)(hK: ∀u∈G.kids g,∀v,dh v->aQ pg 58 [.ag (gCC u),.ag (gCC v)] [] [] (B<|dec<|u=v) []):ca pg 53 0 0 (.loop acN) (Jp g h):=
 anB (XT g h) (λi0=>(.r [.k,bT]<|.yes<|.r [.row (gCC<|ae g.kids i0),.row (gCC<|ae (G.kids h) i0),.int 0,bT]<|.br zB<|zC i0)) (range 0) zF
 (λ(hp0:(zAl g h)=false) i0(hx0:i0<(length g.kids))=>have gp0:=cE hp0;have lp0:=aF gC (g.kids);have l2:=aF gC ((G.kids h));have l1:=aF gC (g.kids);have hb:(zAz g i0)=true:=afH oaa;
 bq (an (a1 a0)<|an hb<|an (cA (gs58<|hK _ (ai hx0) _<|hF (ae (G.kids h) i0)<|ai oan) trivial<|ac (gU (G.kids h) i0)<|ac (gU g.kids i0) a0)<|brP (λ(h1:(!(dec<|(ae g.kids i0)=(ae (G.kids h) i0)))=true)=>(an a0<|lf (wy (XT g h i0) 0) 0<|show BJ g h i0=true from h1))<|λh1=>(an (ac (dwo ((i0+1:Nat):Int)) a0)<|lf (wy (XT g h i0) 1) 0 ⟨(show BJ g h i0=false from h1),rfl,rfl⟩))
 oab)
 (λ(hp0:(zAl g h)=false)=>have gp0:=cE hp0;have lp0:=aF gC (g.kids);have l2:=aF gC ((G.kids h));have l1:=aF gC (g.kids);have hb:(zAF g)=false:=afI oaa;
 bq (an (a1 a0)<|an hb<|lx (.exit 0) (XR g h) (range 0) (XS g h) 0)
 oab) (hc:=λhp0 i0 hx0=>(aK (.cons (gs58<|hK _ (ai hx0) _<|hF (ae (G.kids h) i0)<|ai oan) rfl bB.nil) aC))
def r58:Bool:=(!(g.op !=(G.op h))&&(!(g.n !=(G.n h))&&(!(!(cp (Array.toList<|ByteArray.data g.name)<|Array.toList<|ByteArray.data<|G.name h))&&(!((length (map gC g.kids):Int) !=(length (map gC<|G.kids h):Int))&&(!(Eh g h))))))
end
def vo:cy [0] (aG 58)=[(0,.loop acN)]:=by kernel_rfl
def ae0(g h:G)(la:length g.kids<=9223372036854775807)(lb:length (G.kids h)<=9223372036854775807)(hF: ∀v∈G.kids h,dh v)(hK: ∀u∈G.kids g,∀v,dh v->aQ pg 58 [.ag (gCC u),.ag (gCC v)] [] [] (B<|dec<|u=v) []):aQ pg 58 [.ag (gCC g),.ag (gCC h)] [] [] (B<|r58 g h) []:=
 aV 58 (.r [bT]<|.a (.r zCt zD)<|.a (.r (.k::uTT 5 (.k::uFF 12 [bT])) zD)<|.a (.r (.k::uTT 5 (.k::uTT 5 (.k::uFF 7 [bT]))) zD)<|.r (.k::uTT 5 (.k::uTT 5 (.k::uTT 7 [.k,bT])))<|.br zD zY)
 (an a0<|aO (λ(h0:(g.op !=(G.op h))=true)=>(an (aN 16<|ac (n2 h0)<|a1 a0)<|an a0<|bE<|show r58 g h=false from(aT<|bQ h0)))<|λh0=>have q0:=(ay (ak h0) rfl:r58 g h=_);
 (aO (λ(h1:(g.n !=(G.n h))=true)=>(an (aN 11<|ac (n2 h1)<|aN 5<|ac (ak h0)<|a1 a0)<|an a0<|bE<|q0.trans<|aT<|bQ h1))<|λh1=>have q1:=q0.trans (ay (ak h1) rfl);
 (aO (λ(h2:(!(cp (Array.toList<|ByteArray.data g.name)<|Array.toList<|ByteArray.data<|G.name h))=true)=>(an (aN 6<|ac (n2 h2)<|aN 5<|ac (ak h1)<|aN 5<|ac (ak h0)<|a1 a0)<|an a0<|bE<|q1.trans<|aT<|bQ h2))<|λh2=>have q2:=q1.trans (ay (ak h2) rfl);
 (an (aN 7<|ac (ak h2)<|aN 5<|ac (ak h1)<|aN 5<|ac (ak h0)<|a1 a0)<|brP (λ(h3:(zAl g h)=true)=>(an a0<|bE<|q2.trans<|aT<|bQ h3))<|λh3=>have q3:=q2.trans (ay (ak h3) rfl);
 (an a0<|an (kbT (Jp g h) h3)<|brP (λ(h4:(Eh g h)=true)=>(bE<|q3.trans<|bQ h4))<|λh4=>(an a0<|bE<|q3.trans<|ak h4)))))) (hk:=(bc (l:=[(0,Jp g h)]) vo (aE (XU g h la lb hF hK) rfl aP) rfl))
def acO:Code:=bn 0 (aG 73)
abbrev XV(a b:List G)(i0:Nat):Am.Loc:=[(1,.sl 4 (map gC b)),(2,.fn (.func 49) [] []),(15,.sl 4 (map gC a)),(16,I (length (map gC a):Int)),(17,I (i0:Int))]
abbrev XW(a b:List G)(i0:Nat):lXE:=[]
def BK(a b:List G)(i0:Nat):Bool:=(!(dec<|(ae a i0)=(ae b i0)))
def MH(a b:List G):Bool:=cz (length a) (BK a b)
abbrev XX(a b:List G)(i0:Nat):Am.Loc:=[(6,B false)]
abbrev XY(a b:List G)(i0:Nat):lXE:=[]
abbrev XZ(a b:List G):Am.Loc:=[]
abbrev X0(a b:List G):lXE:=[]
section
variable(a b:List G)
abbrev zBN:=((length (map gC a):Int) !=(length (map gC b):Int))
def Jq:KB:=anK 0 (length a) (BK a b) (XV a b) (XW a b) .ret (XX a b) (XY a b) (.exit 0) (XZ a b) (X0 a b) ((zBN a b)=false)
abbrev X1(i0:Nat):List bG:=[htW (BK a b i0) .ret (XX a b i0) zI (XY a b i0),nxW (BK a b i0) (XV a b<|i0+1) (XW a b<|i0+1) (XV a b<|i0+1) zI (XW a b<|i0+1)]
def X2(la:length a<=9223372036854775807)(lb:length b<=9223372036854775807)(hF: ∀v∈b,dh v)(hK: ∀u∈a,∀v,dh v->aQ pg 49 [.ag (gCC u),.ag (gCC v)] [] [] (B<|dec<|u=v) []):ca pg 32 0 0 (.loop acO) (Jq a b):=
 anB (X1 a b) (λi0=>(.r [.k,bT]<|.yes<|.r [.row (gCC<|ae a i0),bT]<|.r [.row (gCC<|ae b i0),bT]<|.r [.int 0,bT]<|.br zB<|zC i0)) (range 0) zF
 (λ(hp0:(zBN a b)=false) i0(hx0:i0<(length a))=>have gp0:=cE hp0;have lp0:=aF gC (a);have l2:=aF gC (b);have l1:=aF gC (a);have hb:(decide<|(i0:Int)<(length (map gC a):Int))=true:=afH oaa;
 bq (an (a1 a0)<|an hb<|an (ac (gU a i0) a0)<|an (ac (gU b i0) a0)<|an (cA (gs49<|hK _ (ai hx0) _<|hF (ae b i0)<|ai oan) trivial a0)<|brP (λ(h1:(!(dec<|(ae a i0)=(ae b i0)))=true)=>(an a0<|lf (wy (X1 a b i0) 0) 2<|show BK a b i0=true from h1))<|λh1=>(an (ac (dwo ((i0+1:Nat):Int)) a0)<|lf (wy (X1 a b i0) 1) 2 ⟨(show BK a b i0=false from h1),rfl,rfl⟩))
 oab)
 (λ(hp0:(zBN a b)=false)=>have gp0:=cE hp0;have lp0:=aF gC (a);have l2:=aF gC (b);have l1:=aF gC (a);have hb:(decide<|(((length a):Nat):Int)<(length (map gC a):Int))=false:=afI oaa;
 bq (an (a1 a0)<|an hb<|lx (.exit 0) (XZ a b) (range 0) (X0 a b) 0)
 oab) (hc:=λhp0 i0 hx0=>(aK (.cons (gs49<|hK _ (ai hx0) _<|hF (ae b i0)<|ai oan) rfl bB.nil) aC))
def r73:Bool:=(!((length (map gC a):Int) !=(length (map gC b):Int))&&(!(MH a b)))
end
def vp:cy [0] (aG 73)=[(0,.loop acO)]:=by kernel_rfl
section
variable(a b:List G)
def eq73(la:length a<=9223372036854775807)(lb:length b<=9223372036854775807)(hF: ∀v∈b,dh v)(hK: ∀u∈a,∀v,dh v->aQ pg 49 [.ag (gCC u),.ag (gCC v)] [] [] (B<|dec<|u=v) []):aQ pg 73 [.sl 4 (map gC a),.sl 4 (map gC b),.fn (.func 49) [] []] [] [] (B<|r73 a b) []:=
 aV 73 zAN
 (an a0<|an (a1 a0)<|brP (λ(h0:(zBN a b)=true)=>(an a0<|bE<|show r73 a b=false from(aT<|bQ h0)))<|λh0=>(an a0<|an (kbT (Jq a b) h0)<|brP (λ(h1:(MH a b)=true)=>(bE<|show r73 a b=false from(ay (ak h0)<|bQ h1)))<|λh1=>(an a0<|bE<|show r73 a b=true from(ay (ak h0)<|ak h1)))) (hk:=(bc (l:=[(0,Jq a b)]) vp (aE (X2 a b la lb hF hK) rfl aP) rfl))
def ae1:r73 a b=dec (a=b):=sj a b _ λi=>rfl
def is73:bC:=⟨73,[.sl 4 (a.map gC),.sl 4 (b.map gC),.fn (.func 49) [] []],B (dec<|a=b),True⟩
end
def gs73{a b:List G}(la:length a<=9223372036854775807)(lb:length b<=9223372036854775807)(hF: ∀v∈b,dh v)(hK: ∀u∈a,∀v,dh v->aQ pg 49 [.ag (gCC u),.ag (gCC v)] [] [] (B<|dec<|u=v) []):(is73 a b).bu pg:=bI λ_=>ae1 a b▸eq73 a b la lb hF hK
def r49(g h:G):Bool:=((g.op==(G.op h))&&((g.n==(G.n h))&&((cp (Array.toList<|ByteArray.data g.name)<|Array.toList<|ByteArray.data<|G.name h)&&dec (G.kids g=G.kids h))))
def ae2(g h:G)(la:length g.kids<=9223372036854775807)(lb:length (G.kids h)<=9223372036854775807)(hF: ∀v∈G.kids h,dh v)(hK: ∀u∈G.kids g,∀v,dh v->aQ pg 49 [.ag (gCC u),.ag (gCC v)] [] [] (B<|dec<|u=v) []):aQ pg 49 [.ag (gCC g),.ag (gCC h)] [] [] (B<|r49 g h) []:=
 aV 49 (.r [bT]<|.a (.a (.a (.r (.k::uTT 5 (.k::uTT 5 (.k::uTT 5 [.int 0,bT]))) .nil)<|.r (.k::uTT 5 (.k::uTT 5 (.k::uFF 5 [bT]))) .nil)<|.r (.k::uTT 5 (.k::uFF 10 [bT])) .nil)<|.r (.k::uFF 15 [bT]) .nil)
 (an a0<|aO (λ(h0:(g.op==(G.op h))=true)=>(aO (λ(h1:(g.n==(G.n h))=true)=>(aO (λ(h2:(cp (Array.toList<|ByteArray.data g.name)<|Array.toList<|ByteArray.data<|G.name h)=true)=>(an (cA (gs73 la lb hF hK) trivial<|aN 4<|ac h2<|aN 5<|ac h1<|aN 5<|ac h0<|a1 a0)<|bE<|show r49 g h=(dec<|G.kids g=G.kids h)from(ay h0<|ay h1<|ay h2 rfl)))<|λh2=>(an (aN 4<|ac (ak h2)<|aN 5<|ac h1<|aN 5<|ac h0<|a1 a0)<|bE<|show r49 g h=false from(ay h0<|ay h1<|aT h2))))<|λh1=>(an (aN 9<|ac (ak h1)<|aN 5<|ac h0<|a1 a0)<|bE<|show r49 g h=false from(ay h0<|aT h1))))<|λh0=>(an (aN 14<|ac (ak h0)<|a1 a0)<|bE<|show r49 g h=false from(aT h0))) (hc:=(aK (.cons (gs73 la lb hF hK) rfl bB.nil) aC))
theorem guE{o n o' n':Int}{s s':ByteArray}{l l':List G}:(G.mk o n s l=G.mk o' n' s' l')↔(o=o'/\n=n'/\s=s'/\l=l'):=⟨λh=>by cases h;exact⟨rfl,rfl,rfl,rfl⟩,λ⟨h1,h2,h3,h4⟩=>by rw[h1,h2,h3,h4]⟩
theorem ae3(g h:G):r58 g h=dec (g=h):=vi (by have e:(!((length (map gC g.kids):Int) !=(length (map gC<|G.kids h):Int))&&(!(Eh g h)))=dec (g.kids=h.kids):=sj g.kids h.kids _ λi=>rfl;unfold r58;rw[e,si];obtain⟨o,n,s,l⟩:=g;obtain⟨o',n',s',l'⟩:=h;simp only[G.op,G.n,G.name,G.kids,afv,afP,aga,ago,aH,guE])
theorem ae4(g h:G):r49 g h=dec (g=h):=vi (by unfold r49;simp only[si];obtain⟨o,n,s,l⟩:=g;obtain⟨o',n',s',l'⟩:=h;simp only[G.op,G.n,G.name,G.kids,afv,afP,aga,agQ,aH,guE])
def Jr: ∀g:G,dh g-> ∀h,dh h->aQ pg 58 [.ag (gCC g),.ag (gCC h)] [] [] (B<|dec<|g=h) []:=G.xN λo n s l ih hf h hh=>by have k:=ae0 (.mk o n s l) h hf.len hh.len hh.kids λu hu v hv=>ih u hu (hf.kids u hu) v hv;rw[ae3]at k;exact k
def gd58(g h:G):(bC.mk 58 [.ag (gCC g),.ag (gCC h)] (B<|dec<|g=h)<|dh g/\dh h).bu pg:=bI λhp=>Jr g hp.1 h hp.2
def Js: ∀g:G,dh g-> ∀h,dh h->aQ pg 49 [.ag (gCC g),.ag (gCC h)] [] [] (B<|dec<|g=h) []:=G.xN λo n s l ih hf h hh=>by have k:=ae2 (.mk o n s l) h hf.len hh.len hh.kids λu hu v hv=>ih u hu (hf.kids u hu) v hv;rw[ae4]at k;exact k
def gd49(g h:G):(bC.mk 49 [.ag (gCC g),.ag (gCC h)] (B<|dec<|g=h)<|dh g/\dh h).bu pg:=bI λhp=>Js g hp.1 h hp.2
end Go.Proofs.YtfkjfjalecikkaaGreatDoor
end
