/- Three colours find the rings. Which rules may take nothing: both answers are the same. Each state comes to its rule's end: both answers are the same. A search with a pile. Rings of free edges: both answers are the same. Rings of calls: both answers are the same. Words 1 to 3: both answers are the same. Words 2: both answers are the same. Words 1: both answers are the same. Words 1: both answers are the same. Words 3: both answers are the same. Edges: both answers are the same. Edges with acts. Edges: both answers are the same. Which nets may be: both answers are the same. Empty, Great. An abstract machine, part V: from a contract by abstract values, seeing no object, to a call from the world in which a statement begins. Nets that are handed in, as they stand in memory. Great. The law package's own small function wakes, run by the evaluator, strings.Join known, returns true. law.NetChecks. law.NetChecks, whatever the net's size. walk.deep. walk.deep ends. law.NetEnds, walked. law.NetEnds. The world of the witness: the settled one, the three tables holding what the program's text lays. -/
import Derived.RowKit3
import Derived.ReadAgain
import Derived.OpenShut
import Derived.DataElems
import Derived.WalkKit
import Derived.ProofKit
import Derived.Deep.DeepHandedRow
import Derived.Lib.LaidTab
import Derived.Test.YtfkjfjalecikkaaGreatDoorRows
import Derived.Test.YtfkjfjalecikkaaGreatDoorDG
noncomputable section
open List (length map range replicate)
set_option maxRecDepth 100000
namespace Go.Proofs.YtfkjfjalecikkaaGreatDoor
open Go.Am
theorem Rp.head {g:List (List Nat)} {a b:Nat} (h:Rp g a b):Edg g a b\/ ∃c,Edg g a c/\Rp g c b:=by
 induction h with
 |one e=>exact .inl e
 |step h e ih=>
  rcases ih with h1|⟨c,h1,h2⟩
  ·exact .inr ⟨_,h1,.one e⟩
  ·exact .inr ⟨c,h1,.step h2 e⟩
theorem Rp.closed {g:List (List Nat)} {D:Nat->Prop} (hc: ∀v,D v-> ∀c,Edg g v c->D c) {a b:Nat} (ha:D a) (h:Rp g a b):D b:=by
 induction h with
 |one e=>exact hc _ ha _ e
 |step _ e ih=>exact hc _ ih _ e
theorem BJ {g:List (List Nat)} {v c:Nat} (h:Edg g v c):v<g.length:=by
 unfold Edg at h
 by_cases hv:v<g.length
 ·exact hv
 ·simp [ae,List.getElem?_eq_none (show g.length<=v by omega)] at h
  cases h
theorem aaf {g:List (List Nat)} {v c:Nat} (h:Edg g v c): ∃p,p<(ae g v).length/\ae (ae g v) p=c:=b8 h
structure DI (g:List (List Nat)) (w:Sk):Prop where
 col: ∀v,v<g.length->ae w.2.1 v=0\/ae w.2.1 v=1\/ae w.2.1 v=2
 op: ∀v,v<g.length->ae w.2.1 v=1-> ∃j,j<w.1/\(ae w.2.2 j).1=v
 on: ∀j,j<w.1->ae w.2.1 (ae w.2.2 j).1=1
 inj: ∀j j',j<w.1->j' <w.1->(ae w.2.2 j).1=(ae w.2.2 j').1->j=j'
 Ow: ∀j,j+1<w.1->Edg g (ae w.2.2 j).1 (ae w.2.2 (j+1)).1
 seen: ∀j,j<w.1-> ∀p,p<(ae w.2.2 j).2->ae w.2.1 (ae (ae g (ae w.2.2 j).1) p)=2\/(j+1<w.1/\ae (ae g (ae w.2.2 j).1) p=(ae w.2.2 (j+1)).1)
 done: ∀v,v<g.length->ae w.2.1 v=2->(∀c,Edg g v c->ae w.2.1 c=2)/\ ¬Rp g v v
theorem eX {w:Sk} (h:w.1<=w.2.2.length) (hk:0<w.1) (q j:Nat):(ae (lq w q) j).1=(ae w.2.2 j).1:=by
 by_cases hj:j=w.1-1
 ·subst hj;rw [fg h hk]
 ·rw [I3 hj]
theorem gG {w:Sk} (h:w.1<=w.2.2.length) (q:Nat) (x:Nat×Nat) {j:Nat} (hj:j<w.1):ae (List.take w.1 (lq w q)++ [x]) j=ae (lq w q) j:=by
 unfold ae
 rw [List.getElem?_append_left oaD,List.getElem?_take_of_lt hj]
theorem lO {w:Sk} (h:w.1<=w.2.2.length) (q:Nat) (x:Nat×Nat):ae (List.take w.1 (lq w q)++ [x]) w.1=x:=by
 unfold ae
 rw [List.getElem?_append_right oaD,List.length_take,lN,show w.1-min w.1 w.2.2.length=0 by omega]
 rfl
theorem Wr {g:List (List Nat)} (hg:fC g) {w:Sk} (hw:SR g w) (h:DI g w) (hk:0<w.1) (hh:jU g w=false):DI g (fX g w)/\ ∀v,v<g.length->ae w.2.1 v≠0->ae (fX g w).2.1 v≠0:=by
 have hs:=hw.sk hg hk
 have hkl:=hw.kl
 have hlen:=hw.len
 have pass: ∀p,p<dP g w->p<(gP g w).length->ae w.2.1 (jz g w p)=2:=fun p hp hpl=>by
  by_cases hq:p<(ae w.2.2 (w.1-1)).2
  ·rcases h.seen (w.1-1) oab p hq with h1|⟨h1,_⟩
   ·exact h1
   ·omega
  ·have hgo:=MS (show (ae w.2.2 (w.1-1)).2<=p by omega) hp
   unfold tP at hgo
   simp only [Bool.and_eq_true,Bool.not_eq_true',beq_eq_false_iff_ne] at hgo
   have ht:jz g w p<g.length:=hg.wf _ (ay hs.node) _ (ay hpl)
   rcases h.col _ ht with h1|h1|h1
   ·exact absurd h1 hgo.2
   ·exact absurd h1 hgo.1
   ·exact h1
 cases ha:OO g w with
 |true=>
  obtain ⟨h1,h2⟩:=sm ha
  have hh0:=hh
  unfold jU at hh
  rw [ha,Bool.true_and] at hh
  unfold tP at h2
  rw [hh,Bool.not_false,Bool.true_and,Bool.not_eq_false'] at h2
  have h0:ae w.2.1 (jz g w (dP g w))=0:=eq_of_beq h2
  have hto:jz g w (dP g w)<g.length:=hg.wf _ (ay hs.node) _ (ay h1)
  have hedge:Edg g (ae w.2.2 (w.1-1)).1 (jz g w (dP g w)):=ay h1
  have hsx:fX g w=(w.1+1,List.set w.2.1 (jz g w (dP g w)) 1,List.take w.1 (lq w (dP g w+1))++ [(jz g w (dP g w),0)]):=by unfold fX;rw [ha,cond_true]
  have hpassq: ∀p,p<dP g w->ae w.2.1 (jz g w p)=2:=fun p hp=>pass p hp oab
  generalize htt:jz g w (dP g w)=t at*
  have hci: ∀v,ae (List.set w.2.1 t (1:Int)) v=if v=t then 1 else ae w.2.1 v:=fun v=>fx _ _ _ _ oab
  have ne2: ∀v,ae w.2.1 v=2->ae (List.set w.2.1 t (1:Int)) v=2:=fun v hv=>by
   rw [hci,if_neg (fun e=>by rw [e,h0] at hv;cases hv)];exact hv
  rw [hsx]
  refine ⟨⟨fun v hv=> ?_,fun v hv hv1=> ?_,fun j hj=> ?_,fun j j' hj hj' e=> ?_,fun j hj=> ?_,fun j hj p hp=> ?_,fun v hv hv2=> ?_⟩,fun v hv hv0=> ?_⟩
  ·simp only [hci]
   split
   ·exact .inr (.inl rfl)
   ·exact h.col v hv
  ·simp only [hci] at hv1⊢
   by_cases e:v=t
   ·exact ⟨w.1,Nat.lt_succ_self _,by rw [lO hkl,e]⟩
   ·rw [if_neg e] at hv1
    obtain ⟨j,hj,hjv⟩:=h.op v hv hv1
    exact ⟨j,by omega,by rw [gG hkl _ _ hj,eX hkl hk];exact hjv⟩
  ·simp only at hj⊢
   by_cases hjw:j<w.1
   ·rw [gG hkl _ _ hjw,eX hkl hk,hci]
    split
    ·rfl
    ·exact h.on j hjw
   ·obtain rfl:j=w.1:=by omega
    rw [lO hkl,hci,if_pos rfl]
  ·simp only at hj hj' e
   by_cases hjw:j<w.1
   ·by_cases hjw' :j' <w.1
    ·rw [gG hkl _ _ hjw,gG hkl _ _ hjw',eX hkl hk,eX hkl hk] at e
     exact h.inj j j' hjw hjw' e
    ·obtain rfl:j' =w.1:=by omega
     rw [gG hkl _ _ hjw,lO hkl,eX hkl hk] at e
     have:=h.on j hjw
     rw [e,h0] at this;cases this
   ·obtain rfl:j=w.1:=by omega
    by_cases hjw' :j' <w.1
    ·rw [gG hkl _ _ hjw',lO hkl,eX hkl hk] at e
     have:=h.on j' hjw'
     rw [<-e,h0] at this;cases this
    ·omega
  ·simp only at hj⊢
   by_cases hjw:j+1<w.1
   ·rw [gG hkl _ _ hjw,gG hkl _ _ (show j<w.1 by omega),eX hkl hk,eX hkl hk]
    exact h.Ow j hjw
   ·obtain rfl:j=w.1-1:=by omega
    rw [gG hkl _ _ (show w.1-1<w.1 by omega),eX hkl hk,show w.1-1+1=w.1 by omega,lO hkl]
    exact hedge
  ·simp only at hj hp⊢
   by_cases hjw:j<w.1
   ·rw [gG hkl _ _ hjw] at hp⊢
    rw [eX hkl hk]
    by_cases hj1:j=w.1-1
    ·subst hj1
     rw [fg hkl hk] at hp
     simp only at hp
     by_cases hpq:p<dP g w
     ·exact .inl (ne2 _ (hpassq p hpq))
     ·right
      obtain rfl:p=dP g w:=by omega
      refine ⟨by omega,?_⟩
      rw [show w.1-1+1=w.1 by omega,lO hkl]
      exact htt
    ·rw [I3 hj1] at hp
     rcases h.seen j hjw p hp with h3|⟨h3,h4⟩
     ·exact .inl (ne2 _ h3)
     ·exact .inr ⟨by omega,by rw [gG hkl _ _ h3,eX hkl hk];exact h4⟩
   ·obtain rfl:j=w.1:=by omega
    rw [lO hkl] at hp
    exact absurd hp (Nat.not_lt_zero _)
  ·simp only [hci] at hv2⊢
   have hvt:v≠t:=fun e=>by rw [if_pos e] at hv2;cases hv2
   rw [if_neg hvt] at hv2
   obtain ⟨h3,h4⟩:=h.done v hv hv2
   exact ⟨fun c hc=>by have:=ne2 c (h3 c hc);rw [hci] at this;exact this,h4⟩
  ·simp only [hci]
   split
   ·decide
   ·exact hv0
 |false=>
  have hql:=wG (h:=(hw.node _ (show w.1-1<w.1 by omega)).2)
  have hqe:dP g w=(gP g w).length:=by have:=of_decide_eq_false ha;omega
  have hsx:fX g w=(w.1-1,List.set w.2.1 (ae w.2.2 (w.1-1)).1 2,lq w (dP g w)):=by unfold fX;rw [ha,cond_false]
  have hu1:=h.on (w.1-1) oab
  have hun:=hs.node
  have hall: ∀c,Edg g (ae w.2.2 (w.1-1)).1 c->ae w.2.1 c=2:=fun c hc=>by
   obtain ⟨p,hp,rfl⟩:=aaf hc
   exact pass p (by rw [hqe];exact hp) hp
  have hinj:=fun j hj (e:(ae w.2.2 j).1=(ae w.2.2 (w.1-1)).1)=>h.inj j (w.1-1) hj oab e
  generalize huu:(ae w.2.2 (w.1-1)).1=u at*
  have hci: ∀v,ae (List.set w.2.1 u (2:Int)) v=if v=u then 2 else ae w.2.1 v:=fun v=>fx _ _ _ _ oab
  have ne2: ∀v,ae w.2.1 v=2->ae (List.set w.2.1 u (2:Int)) v=2:=fun v hv=>by
   rw [hci]
   split
   ·rfl
   ·exact hv
  have hnr: ¬Rp g u u:=fun hr=>by
   have cl: ∀v,ae w.2.1 v=2/\v<g.length-> ∀c,Edg g v c->ae w.2.1 c=2/\c<g.length:=fun v hv c hc=>⟨(h.done v hv.2 hv.1).1 c hc,mU hg.wf hc⟩
   have hu2:ae w.2.1 u=2/\u<g.length:=by
    rcases hr.head with h3|⟨c,h3,h4⟩
    ·exact ⟨hall u h3,hun⟩
    ·exact Rp.closed (D:=fun v=>ae w.2.1 v=2/\v<g.length) cl ⟨hall c h3,mU hg.wf h3⟩ h4
   rw [hu1] at hu2
   exact absurd hu2.1 (by decide)
  rw [hsx]
  refine ⟨⟨fun v hv=> ?_,fun v hv hv1=> ?_,fun j hj=> ?_,fun j j' hj hj' e=> ?_,fun j hj=> ?_,fun j hj p hp=> ?_,fun v hv hv2=> ?_⟩,fun v hv hv0=> ?_⟩
  ·simp only [hci]
   split
   ·exact .inr (.inr rfl)
   ·exact h.col v hv
  ·simp only [hci] at hv1⊢
   by_cases e:v=u
   ·rw [if_pos e] at hv1;cases hv1
   ·rw [if_neg e] at hv1
    obtain ⟨j,hj,hjv⟩:=h.op v hv hv1
    have:j≠w.1-1:=fun e2=>by subst e2;exact e (hjv.symm.trans huu)
    exact ⟨j,by omega,by rw [eX hkl hk];exact hjv⟩
  ·simp only at hj⊢
   rw [eX hkl hk,hci,if_neg (fun e=>by have:=hinj j oab e;omega)]
   exact h.on j oab
  ·simp only at hj hj' e
   rw [eX hkl hk,eX hkl hk] at e
   exact h.inj j j' oab oab e
  ·simp only at hj⊢
   rw [eX hkl hk,eX hkl hk]
   exact h.Ow j oab
  ·simp only at hj hp⊢
   rw [I3 oab] at hp
   rw [eX hkl hk,eX hkl hk]
   rcases h.seen j oab p hp with h3|⟨h3,h4⟩
   ·exact .inl (ne2 _ h3)
   ·by_cases hj2:j+1<w.1-1
    ·exact .inr ⟨hj2,h4⟩
    ·left
     rw [h4,show j+1=w.1-1 by omega,huu,hci,if_pos rfl]
  ·simp only at hv2⊢
   by_cases e:v=u
   ·subst e
    exact ⟨fun c hc=>ne2 c (hall c hc),hnr⟩
   ·rw [hci,if_neg e] at hv2
    obtain ⟨h3,h4⟩:=h.done v hv hv2
    exact ⟨fun c hc=>ne2 c (h3 c hc),h4⟩
  ·simp only [hci]
   split
   ·decide
   ·exact hv0
theorem aag {g:List (List Nat)} {w:Sk} (hg:fC g) (hw:SR g w) (h:DI g w) (hk:0<w.1) (hh:jU g w=true): ∃i,Rp g i i:=by
 unfold jU at hh
 simp only [Bool.and_eq_true] at hh
 have h1:=(sm hh.1).1
 have hs:=hw.sk hg hk
 have hto:jz g w (dP g w)<g.length:=hg.wf _ (ay hs.node) _ (ay h1)
 have hedge:Edg g (ae w.2.2 (w.1-1)).1 (jz g w (dP g w)):=ay h1
 obtain ⟨j,hj,hjt⟩:=h.op _ hto (eq_of_beq hh.2)
 have path: ∀d,j+d<w.1->d=0\/Rp g (ae w.2.2 j).1 (ae w.2.2 (j+d)).1:=fun d=>by
  induction d with
  |zero=>exact fun _=> .inl rfl
  |succ d ih=>
   intro hd
   right
   have e:=h.Ow (j+d) oab
   rcases ih oab with rfl|h3
   ·exact .one e
   ·exact .step h3 e
 rw [<-hjt] at hedge
 refine ⟨(ae w.2.2 j).1,?_⟩
 rcases path (w.1-1-j) oab with h3|h3
 ·rw [show w.1-1=j by omega] at hedge
  exact .one hedge
 ·rw [show j+(w.1-1-j)=w.1-1 by omega] at h3
  exact .step h3 hedge
structure DO (g:List (List Nat)) (y:List Int):Prop where
 len:y.length=g.length
 col: ∀v,v<g.length->ae y v=0\/ae y v=2
 done: ∀v,v<g.length->ae y v=2->(∀c,Edg g v c->ae y c=2)/\ ¬Rp g v v
theorem di_0 {g:List (List Nat)} {i0:Nat} (hx0:i0<g.length) {y:List Int} (h:DO g y) (h0:ae y i0=0):DI g (1,List.set y i0 1,[(i0,0)]):=by
 have hci: ∀v,ae (List.set y i0 (1:Int)) v=if v=i0 then 1 else ae y v:=fun v=>fx _ _ _ _ (by rw [h.len];exact hx0)
 have ne2: ∀v,ae y v=2->ae (List.set y i0 (1:Int)) v=2:=fun v hv=>by
  rw [hci,if_neg (fun e=>by rw [e,h0] at hv;cases hv)];exact hv
 refine ⟨fun v hv=> ?_,fun v hv hv1=> ?_,fun j hj=> ?_,fun j j' hj hj' _=> ?_,fun j hj=> ?_,fun j hj p hp=> ?_,fun v hv hv2=> ?_⟩
 ·simp only [hci]
  split
  ·exact .inr (.inl rfl)
  ·exact (h.col v hv).imp id .inr
 ·simp only [hci] at hv1
  by_cases e:v=i0
  ·exact ⟨0,Nat.lt_succ_self _,e.symm⟩
  ·rw [if_neg e] at hv1
   rcases h.col v hv with h3|h3<;>rw [h3] at hv1<;>cases hv1
 ·obtain rfl:j=0:=by simp only at hj;omega
  show ae (List.set y i0 1) i0=1
  rw [hci,if_pos rfl]
 ·simp only at hj hj';omega
 ·simp only at hj;omega
 ·obtain rfl:j=0:=by simp only at hj;omega
  exact absurd hp (Nat.not_lt_zero _)
 ·simp only [hci] at hv2
  have hvt:v≠i0:=fun e=>by rw [if_pos e] at hv2;cases hv2
  rw [if_neg hvt] at hv2
  obtain ⟨h3,h4⟩:=h.done v hv hv2
  exact ⟨fun c hc=>ne2 c (h3 c hc),h4⟩
theorem T0 {g:List (List Nat)} (hg:fC g) {i0:Nat} (hx0:i0<g.length) {y:List Int} (h:DO g y) (h0:ae y i0=0):(oy g i0 y (fQ g i0 y)=true-> ∃i,Rp g i i)/\(oy g i0 y (fQ g i0 y)=false->DO g (fQ g i0 y).2.1/\(∀v,v<g.length->ae y v=2->ae (fQ g i0 y).2.1 v=2)/\ae (fQ g i0 y).2.1 i0=2):=by
 obtain ⟨ex,sr⟩:=Lw hg hx0 h.len
 obtain ⟨hend,hlt⟩:=fW ex
 have inv: ∀k,k<=dA (fD g i0 y) (cL g i0 y)->DI g (cL g i0 y k)/\(∀v,v<g.length->ae y v≠0->ae (cL g i0 y k).2.1 v≠0)/\ae (cL g i0 y k).2.1 i0≠0:=fun k=>by
  induction k with
  |zero=>
   intro _
   have hci: ∀v,ae (List.set y i0 (1:Int)) v=if v=i0 then 1 else ae y v:=fun v=>fx _ _ _ _ (by rw [h.len];exact hx0)
   refine ⟨di_0 hx0 h h0,fun v hv hv0=> ?_,?_⟩
   ·show ae (List.set y i0 1) v≠0
    rw [hci]
    split
    ·decide
    ·exact hv0
   ·show ae (List.set y i0 1) i0≠0
    rw [hci,if_pos rfl];decide
  |succ k ih=>
   intro hk
   obtain ⟨h1,h2,h3⟩:=ih oab
   obtain ⟨h4,h5⟩:=TU (hlt k oab)
   obtain ⟨h6,h7⟩:=Wr hg (sr k oab) h1 h4 h5
   exact ⟨h6,fun v hv hv0=>h7 v hv (h2 v hv hv0),h7 i0 hx0 h3⟩
 obtain ⟨hdi,hnz,hi0⟩:=inv _ (Nat.le_refl _)
 have hsr:=sr _ (Nat.le_refl _)
 have hE:cL g i0 y (dA (fD g i0 y) (cL g i0 y))=fQ g i0 y:=rfl
 rw [hE] at hend hdi hnz hi0 hsr
 constructor
 ·intro hh
  have hk:0<(fQ g i0 y).1:=by have:=of_decide_eq_true hh;omega
  refine aag hg hsr hdi hk ?_
  unfold fD at hend
  rw [show decide ((((fQ g i0 y).1:Nat):Int)>0)=true from decide_eq_true oab] at hend
  exact hend
 ·intro hh
  have hk:(fQ g i0 y).1=0:=by have:=of_decide_eq_false hh;omega
  have hcol: ∀v,v<g.length->ae (fQ g i0 y).2.1 v=0\/ae (fQ g i0 y).2.1 v=2:=fun v hv=>by
   rcases hdi.col v hv with h1|h1|h1
   ·exact .inl h1
   ·obtain ⟨j,hj,_⟩:=hdi.op v hv h1;omega
   ·exact .inr h1
  exact ⟨⟨hsr.len,hcol,hdi.done⟩,fun v hv hv2=>(hcol v hv).resolve_left (hnz v hv (by rw [hv2];decide)),(hcol i0 hx0).resolve_left hi0⟩
theorem ac30 {g:List (List Nat)} (hg:fC g) (i:Nat) (hi:i<=g.length) (hn: ∀j,j<i->jA g j=false):DO g (cP g i)/\ ∀v,v<i->ae (cP g i) v=2:=by
 induction i with
 |zero=>
  have e: ∀v,ae (replicate (length (map bn g)) (0:Int)) v=0:=fun v=>by
   unfold ae
   rw [List.getElem?_replicate]
   split<;>rfl
  exact ⟨⟨by show (replicate _ (0:Int)).length=_;simp,fun v _=> .inl (e v),fun v _ h2=>by rw [show ae (cP g 0) v=0 from e v] at h2;cases h2⟩,fun v hv=>by omega⟩
 |succ i ih=>
  obtain ⟨h1,h2⟩:=ih oab fun j hj=>hn j oab
  have hi2:i<g.length:=by omega
  have ht:=hn i oab
  unfold jA at ht
  show DO g (tR g i (cP g i))/\ ∀v,v<i+1->ae (tR g i (cP g i)) v=2
  unfold tR
  cases hc:ae (cP g i) i !=0 with
  |true=>
   rw [cond_true]
   refine ⟨h1,fun v hv=> ?_⟩
   by_cases e:v=i
   ·subst e
    exact (h1.col v hi2).resolve_left oaG
   ·exact h2 v oab
  |false=>
   rw [hc,Bool.not_false,Bool.true_and] at ht
   rw [cond_false]
   obtain ⟨h3,h4,h5⟩:=(T0 hg hi2 h1 oaG).2 ht
   refine ⟨h3,fun v hv=> ?_⟩
   by_cases e:v=i
   ·subst e;exact h5
   ·exact h4 v oab (h2 v oab)
theorem aah {g:List (List Nat)} (hg:fC g):r30 g=fO g:=by
 show cX g.length (jA g)=fO g
 cases h:cX g.length (jA g) with
 |true=>
  obtain ⟨h1,h2,h3⟩:=gY h
  obtain ⟨h4,_⟩:=ac30 hg _ (Nat.le_of_lt h1) h3
  unfold jA at h2
  simp only [Bool.and_eq_true,Bool.not_eq_true',bne_eq_false_iff_eq] at h2
  exact (aP.2 ((T0 hg h1 h4 h2.1).1 h2.2)).symm
 |false=>
  obtain ⟨h4,h5⟩:=ac30 hg _ (Nat.le_refl _) (bL.1 h)
  have: ¬ ∃i,Rp g i i:=fun ⟨i,hr⟩=>by
   have hi:i<g.length:=by
    rcases hr.head with h6|⟨c,h6,_⟩<;>exact BJ h6
   exact (h4.done i hi (h5 i hi)).2 hr
  cases hf:fO g with
  |true=>exact absurd (aP.1 hf) this
  |false=>rfl
theorem Ly:dH:=fun g hg=>by
 have:=aae g hg
 rw [aah hg] at this
 exact this
theorem u7 (n:Net) (hf:bp n):bg pg 10 [.ag (aW n)] [] [] (I (r10 n)) []:=Wg n Ly hf
def tT (R:Nat) (a b:List Bool):Prop:= ∀i,i<R->ae a i=true->ae b i=true
section
variable {R:Nat} {st:Nat->Bool×List Bool->Bool×List Bool} {F:List Bool->Nat->Bool} (hst: ∀i y,st i y=bif !(ae y.2 i) then (bif F y.2 i then (true,List.set y.2 i true) else (y.1,y.2)) else (y.1,y.2))
def nk (st:Nat->Bool×List Bool->Bool×List Bool) (w:List Bool) (k:Nat):Bool×List Bool:=Nat.rec (motive:=fun _=>Bool×List Bool) (false,w) (fun j a=>st j a) k
 include hst
theorem T1 (w:List Bool) (k:Nat):(nk st w k).2.length=w.length:=by
 induction k with
 |zero=>rfl
 |succ k ih=>
  show (st k (nk st w k)).2.length=_
  rw [hst]
  cases ae (nk st w k).2 k<;>cases F (nk st w k).2 k<;>simp [ih]
theorem MT (w:List Bool) (k:Nat) (h:(nk st w k).1=false):(nk st w k).2=w/\ ∀i,i<k->ae w i=true\/F w i=false:=by
 induction k with
 |zero=>exact ⟨rfl,fun i hi=>by omega⟩
 |succ k ih=>
  have e:nk st w (k+1)=st k (nk st w k):=rfl
  rw [e,hst] at h⊢
  cases h1:ae (nk st w k).2 k with
  |true=>
   rw [h1] at h
   simp only [Bool.not_true,cond_false] at h⊢
   obtain ⟨h2,h3⟩:=ih h
   refine ⟨h2,fun i hi=> ?_⟩
   by_cases hik:i=k
   ·subst hik;rw [h2] at h1;exact .inl h1
   ·exact h3 i oab
  |false=>
   rw [h1] at h
   simp only [Bool.not_false,cond_true] at h⊢
   cases h4:F (nk st w k).2 k with
   |true=>rw [h4] at h;cases h
   |false=>
    rw [h4] at h
    simp only [cond_false] at h⊢
    obtain ⟨h2,h3⟩:=ih h
    refine ⟨h2,fun i hi=> ?_⟩
    by_cases hik:i=k
    ·subst hik;rw [h2] at h4;exact .inr h4
    ·exact h3 i oab
theorem I4 (w c:List Bool) (hw:w.length=R) (hs:tT R w c) (hF: ∀e,tT R e c-> ∀i,i<R->F e i=true->ae c i=true) (k:Nat) (hk:k<=R):tT R (nk st w k).2 c:=by
 induction k with
 |zero=>exact hs
 |succ k ih=>
  have ih:=ih oab
  have e:nk st w (k+1)=st k (nk st w k):=rfl
  rw [e,hst]
  cases h1:ae (nk st w k).2 k with
  |true=>exact ih
  |false=>
   cases h4:F (nk st w k).2 k with
   |false=>exact ih
   |true=>
    simp only [Bool.not_false,cond_true]
    intro i hi hgi
    rw [fx _ _ _ _ (by rw [T1 hst,hw];omega)] at hgi
    by_cases hik:i=k
    ·subst hik;exact hF _ ih i oab h4
    ·rw [if_neg hik] at hgi;exact ih i hi hgi
end
theorem Rp.mono {g g' :List (List Nat)} (h: ∀a b,Edg g a b->Edg g' a b) {a b:Nat} (r:Rp g a b):Rp g' a b:=by
 induction r with
 |one e=>exact .one (h _ _ e)
 |step _ e ih=>exact .step ih (h _ _ e)
theorem T2 {n:Net} {a b:List Bool} (hs:tT n.rules.length a b) {e:Edge} (he:e.op=2->0<=e.n/\e.n<(n.rules.length:Int)) (h:okT a e=true):okT b e=true:=by
 unfold okT at h⊢
 cases h1:e.op==1 with
 |true=>rw [h1] at h;cases h
 |false=>
  rw [h1] at h
  cases h2:e.op==2 with
  |true=>
   rw [h2] at h
   have hn:=he (eq_of_beq h2)
   exact hs e.n.toNat oab h
  |false=>rfl
theorem Ws {n:Net} (hn:bt n) {a b:List Bool} (hs:tT n.rules.length a b) {x y:Nat} (h:Rp (gA (okT a) n) x y):Rp (gA (okT b) n) x y:=h.mono fun i c e=>by
 have hi:=BJ e
 rw [pe] at hi
 obtain ⟨d,hd,h1,h2⟩:=mX.1 e
 exact mX.2 ⟨d,hd,T2 hs (hn.call _ (ay hi) _ hd) h1,h2⟩
noncomputable def Fe (n:Net) (e:List Bool) (i:Nat):Bool:=dec (Rp (gA (okT e) n) (ae n.rules i).start.toNat (ae n.rules i).stop.toNat)
theorem MU {n:Net} (hn:bt n) {a b:List Bool} (hs:tT n.rules.length a b) (i:Nat) (h:Fe n a i=true):Fe n b i=true:=aP.2 (Ws hn hs (aP.1 h))
theorem T3 {n:Net} (hn:bt n) (e:List Bool) {i:Nat} (hi:i<n.rules.length):aq (kQ n e (ae n.rules i).start) (ae n.rules i).stop=Fe n e i:=by
 have:=hn.stop _ (ay hi)
 exact Du (by rw [pe];omega)
theorem T4 {n:Net} (hn:bt n) (hne: ∀r∈n.rules,r.start≠r.stop) (e:List Bool) {i:Nat} (hi:i<n.rules.length):aq (dz (okT e) n (ae n.rules i).start.toNat) (ae n.rules i).stop=Fe n e i:=by
 have h1:=hn.stop _ (ay hi)
 have h2:=hn.start _ (ay hi)
 have h3:=hne _ (ay hi)
 refine (At oab).trans ?_
 unfold Fe
 congr 1
 refine propext ⟨fun h=>h.resolve_left oab,.inr⟩
def ClE (n:Net) (c:List Bool):Prop:= ∀i,i<n.rules.length->Fe n c i=true->ae c i=true
theorem MV (n:Net) (c:List Bool):tT n.rules.length (replicate (length (map aE n.rules)) false) c:=fun i _ h=>by
 unfold ae at h
 rw [List.getElem?_replicate] at h
 split at h<;>cases h
theorem OQ {n:Net} (hn:bt n):ClE n (r24 n)/\ ∀c,ClE n c->tT n.rules.length (r24 n) c:=by
 have hst: ∀w:Bool×List Bool,∀i y,ng n w i y=bif !(ae y.2 i) then (bif (fun (_:List Bool) i=>aq (kQ n w.2 (ae n.rules i).start) (ae n.rules i).stop) y.2 i then (true,List.set y.2 i true) else (y.1,y.2)) else (y.1,y.2):=fun w i y=>rfl
 have hac: ∀w k,cj n w k=nk (ng n w) w.2 k:=fun w k=>rfl
 obtain ⟨ex,len⟩:=S8 n
 obtain ⟨hend,_⟩:=fW ex
 constructor
 ·have he:(iR n).1=false:=by
   have:jy n (iR n)=true:=hend
   simpa [jy] using this
  cases hK:dA (jy n) (da n) with
  |zero=>
   unfold iR at he
   rw [hK] at he;cases he
  |succ K=>
   have hE:iR n=cj n (da n K) n.rules.length:=by unfold iR;rw [hK];rfl
   rw [hE,hac] at he
   obtain ⟨h1,h2⟩:=MT (F:=fun (_:List Bool) i=>aq (kQ n (da n K).2 (ae n.rules i).start) (ae n.rules i).stop) (hst (da n K)) _ _ he
   intro i hi hF
   show ae (iR n).2 i=true
   have hr:r24 n=(da n K).2:=by unfold r24;rw [hE,hac,h1]
   rw [hr] at hF
   rw [hE,hac,h1]
   rcases h2 i hi with h3|h3
   ·exact h3
   ·rw [T3 hn _ hi,hF] at h3;cases h3
 ·intro c hc
  have key: ∀k,tT n.rules.length (da n k).2 c:=fun k=>by
   induction k with
   |zero=>exact MV n c
   |succ k ih=>
    show tT n.rules.length (cj n (da n k) n.rules.length).2 c
    rw [hac]
    exact I4 (F:=fun (_:List Bool) i=>aq (kQ n (da n k).2 (ae n.rules i).start) (ae n.rules i).stop) (hst (da n k)) _ c (DP n k) ih (fun e _ i hi hF=>by
     rw [T3 hn _ hi] at hF
     exact hc i hi (MU hn ih i hF)) _ (Nat.le_refl _)
  exact key _
theorem OR {n:Net} (hn:bt n) (hne: ∀r∈n.rules,r.start≠r.stop):ClE n (r25 n)/\ ∀c,ClE n c->tT n.rules.length (r25 n) c:=by
 have hst: ∀w:Bool×List Bool,∀i y,mZ n w i y=bif !(ae y.2 i) then (bif (fun (e:List Bool) i=>aq (dz (okT e) n (ae n.rules i).start.toNat) (ae n.rules i).stop) y.2 i then (true,List.set y.2 i true) else (y.1,y.2)) else (y.1,y.2):=fun w i y=>rfl
 have hac: ∀w k,bX n w k=nk (mZ n w) w.2 k:=fun w k=>rfl
 obtain ⟨ex,len⟩:=R8 n
 obtain ⟨hend,_⟩:=fW ex
 constructor
 ·have he:(iQ n).1=false:=by
   have:jx n (iQ n)=true:=hend
   simpa [jx] using this
  cases hK:dA (jx n) (dm n) with
  |zero=>
   unfold iQ at he
   rw [hK] at he;cases he
  |succ K=>
   have hE:iQ n=bX n (dm n K) n.rules.length:=by unfold iQ;rw [hK];rfl
   rw [hE,hac] at he
   obtain ⟨h1,h2⟩:=MT (F:=fun (e:List Bool) i=>aq (dz (okT e) n (ae n.rules i).start.toNat) (ae n.rules i).stop) (hst (dm n K)) _ _ he
   intro i hi hF
   show ae (iQ n).2 i=true
   have hr:r25 n=(dm n K).2:=by unfold r25;rw [hE,hac,h1]
   rw [hr] at hF
   rw [hE,hac,h1]
   rcases h2 i hi with h3|h3
   ·exact h3
   ·rw [T4 hn hne _ hi,hF] at h3;cases h3
 ·intro c hc
  have key: ∀k,tT n.rules.length (dm n k).2 c:=fun k=>by
   induction k with
   |zero=>exact MV n c
   |succ k ih=>
    show tT n.rules.length (bX n (dm n k) n.rules.length).2 c
    rw [hac]
    exact I4 (F:=fun (e:List Bool) i=>aq (dz (okT e) n (ae n.rules i).start.toNat) (ae n.rules i).stop) (hst (dm n k)) _ c (Dz n k) ih (fun e hse i hi hF=>by
     rw [T4 hn hne _ hi] at hF
     exact hc i hi (MU hn hse i hF)) _ (Nat.le_refl _)
  exact key _
theorem MW {n:Net} (hn:bt n) (hne: ∀r∈n.rules,r.start≠r.stop):r24 n=r25 n:=by
 obtain ⟨a1,a2⟩:=OQ hn
 obtain ⟨b1,b2⟩:=OR hn hne
 have h1:=a2 _ b1
 have h2:=b2 _ a1
 refine List.ext_getElem? fun i=> ?_
 have l1:=Gz n
 have l2:=eW n
 by_cases hi:i<n.rules.length
 ·rw [eM oab,eM oab]
  congr 1
  cases e1:ae (r24 n) i with
  |true=>exact (h1 i hi e1).symm
  |false=>
   cases e2:ae (r25 n) i with
   |true=>rw [h2 i hi e2] at e1;cases e1
   |false=>rfl
 ·rw [List.getElem?_eq_none oab,List.getElem?_eq_none oab]
structure Own (n:Net):Prop where
 aI: ∀s∈n.aa,0<=s.aI/\s.aI<(n.rules.length:Int)
 stop: ∀i,i<n.rules.length->(aq n.aa (ae n.rules i).stop).aI=(i:Nat)
 to: ∀s∈n.aa,∀e∈s.ai,(aq n.aa e.to).aI=s.aI
 ne: ∀r∈n.rules,r.start≠r.stop
theorem D3 {n:Net} {s r:Int} (h:r67 n s r=true):(aq n.aa s).aI=r:=by
 unfold r67 at h
 simp only [Bool.and_eq_true] at h
 exact eq_of_beq h.2.2
theorem T5 {n:Net} (h2:r32 n=true) (h3:r33 n=true):Own n where
 aI:=fun s hs=>by
  obtain ⟨i,hi,rfl⟩:=b8 hs
  exact (tH h3 hi).1
 stop:=fun i hi=>D3 (K5 h2 hi).2
 to:=fun s hs e he=>by
  obtain ⟨i,hi,rfl⟩:=b8 hs
  obtain ⟨k,hk,rfl⟩:=b8 he
  have h:=(tH h3 hi).2 k hk
  unfold r68 at h
  simp only [Bool.and_eq_true,Bool.not_not] at h
  exact D3 h.1
 ne:=fun r hr=>by
  obtain ⟨i,hi,rfl⟩:=b8 hr
  have:=bL.1 (show ry n=false by simpa [r32] using h2) i hi
  unfold ju at this
  simp only [Bool.or_eq_false_iff,beq_eq_false_iff_ne] at this
  exact this.2.2.1
theorem Lz (n:Net) (i4:Nat) (y:List Bool) (k v:Nat) (hk:k<=y.length):ae (db n i4 y k) v=if v<k then (ae (List.set y (ae n.rules i4).stop.toNat true) v||ae (eE n (ae n.rules i4).stop) v) else ae (List.set y (ae n.rules i4).stop.toNat true) v:=by
 induction k generalizing v with
 |zero=>rw [if_neg (Nat.not_lt_zero _)];rfl
 |succ k ih=>
  show ae (tL n i4 y k (db n i4 y k)) v=_
  have hl:k<(db n i4 y k).length:=by rw [Gs];omega
  have e:tL n i4 y k (db n i4 y k)=List.set (db n i4 y k) k (ae (db n i4 y k) k||ae (eE n (ae n.rules i4).stop) k):=by
   unfold tL
   cases ae (db n i4 y k) k<;>rfl
  rw [e,fx _ _ _ _ hl]
  by_cases hv:v=k
  ·subst hv
   rw [if_pos rfl,if_pos (Nat.lt_succ_self _),ih v oab,if_neg (Nat.lt_irrefl _)]
  ·rw [if_neg hv,ih v oab]
   by_cases hv2:v<k
   ·rw [if_pos hv2,if_pos oab]
   ·rw [if_neg hv2,if_neg oab]
theorem LA {n:Net} (hn:bt n) (k v:Nat) (hk:k<=n.rules.length) (hv:v<n.aa.length):ae (dO n k) v=true↔ ∃i,i<k/\(v=(ae n.rules i).stop.toNat\/Rp (gj n) (ae n.rules i).stop.toNat v):=by
 induction k with
 |zero=>
  constructor
  ·intro h
   have h:ae (replicate (length (map ak n.aa)) false) v=true:=h
   unfold ae at h
   rw [List.getElem?_replicate] at h
   split at h<;>cases h
  ·rintro ⟨i,hi,_⟩;omega
 |succ k ih=>
  have ih:=ih oab
  have hst:=hn.stop _ (ay (show k<n.rules.length by omega))
  have hl:=nP n k
  show ae (db n k (dO n k) (length (eE n (ae n.rules k).stop))) v=true↔_
  rw [Lz _ _ _ _ _ (by rw [kS,hl];exact Nat.le_refl _),kS,if_pos hv,Bool.or_eq_true,fx _ _ _ _ (by rw [hl];omega)]
  have hfb:ae (eE n (ae n.rules k).stop) v=true↔Rp (gj n) (ae n.rules k).stop.toNat v:=by
   unfold eE
   rw [Du (by rw [kR];exact hv)]
   exact aP
  rw [hfb]
  constructor
  ·rintro (h|h)
   ·split at h
    ·rename_i e;exact ⟨k,Nat.lt_succ_self _,.inl e⟩
    ·obtain ⟨i,hi,h⟩:=ih.1 h;exact ⟨i,by omega,h⟩
   ·exact ⟨k,Nat.lt_succ_self _,.inr h⟩
  ·rintro ⟨i,hi,h⟩
   by_cases e:i=k
   ·subst e
    rcases h with h|h
    ·left;rw [if_pos h]
    ·exact .inr h
   ·left
    split
    ·rfl
    ·exact ih.2 ⟨i,by omega,h⟩
theorem aai (l:List Bool):r65 l=cX l.length (fun i=> !(ae l i)):=by
 have e:l6 l=fun i=> !(ae l i):=funext fun i=>by
  unfold l6
  cases ae l i<;>rfl
 unfold r65 r90 wF
 rw [e]
 cases cX l.length (fun i=> !(ae l i)) with
 |true=>exact decide_eq_true (by simp only [cond_true];omega)
 |false=>rfl
theorem Rp.cons {g:List (List Nat)} {a b c:Nat} (e:Edg g a b) (r:Rp g b c):Rp g a c:=(Rp.one e).trans r
theorem GN {n:Net} (hn:bt n) {a b:Nat}:Rp (gj n) a b↔Rp (gA okF n) b a:=by
 have he: ∀x y,Edg (gj n) x y↔Edg (gA okF n) y x:=fun x y=>by
  rw [DV hn.to,mX]
  constructor
  ·rintro ⟨_,e,h1,h2⟩;exact ⟨e,h1,rfl,h2⟩
  ·rintro ⟨e,h1,_,h2⟩
   refine ⟨?_,e,h1,h2⟩
   by_cases hy:y<n.aa.length
   ·exact hy
   ·rw [show ae n.aa y=default by simp [ae,List.getElem?_eq_none (show n.aa.length<=y by omega)]] at h1
    simp [default,instInhabitedState.default] at h1
 constructor
 ·intro h
  induction h with
  |one e=>exact .one ((he _ _).1 e)
  |step _ e ih=>exact Rp.cons ((he _ _).1 e) ih
 ·intro h
  induction h with
  |one e=>exact .one ((he _ _).2 e)
  |step _ e ih=>exact Rp.cons ((he _ _).2 e) ih
theorem Wt {n:Net} (ho:Own n) (hn:bt n) {a b:Nat} (h:Rp (gA okF n) a b):(ae n.aa b).aI=(ae n.aa a).aI:=by
 have one: ∀x y,Edg (gA okF n) x y->(ae n.aa y).aI=(ae n.aa x).aI:=fun x y e=>by
  have hx:=BJ e
  rw [pe] at hx
  obtain ⟨d,hd,_,h2⟩:=mX.1 e
  have:=ho.to _ (ay hx) d hd
  rw [<-this,<-h2];rfl
 induction h with
 |one e=>exact one _ _ e
 |step _ e ih=>exact (one _ _ e).trans ih
theorem D4 {n:Net} (hn:bt n) (ho:Own n):fU n=false↔ ∀v,v<n.aa.length->((aq n.rules (ae n.aa v).aI).stop.toNat=v\/Rp (gA okF n) v (aq n.rules (ae n.aa v).aI).stop.toNat):=by
 unfold fU
 rw [bL]
 have key: ∀v,v<n.aa.length->(ov n v=false↔((aq n.rules (ae n.aa v).aI).stop.toNat=v\/Rp (gA okF n) v (aq n.rules (ae n.aa v).aI).stop.toNat)):=fun v hv=>by
  have hr:=ho.aI _ (ay hv)
  have hs:=hn.stop _ (fN (.inr hr))
  have e:aq (kh n ((v:Nat):Int)) (aq n.rules (ae n.aa v).aI).stop=dec ((aq n.rules (ae n.aa v).aI).stop.toNat=v\/Rp (gA okF n) v (aq n.rules (ae n.aa v).aI).stop.toNat):=At oab
  unfold ov
  rw [e,Bool.not_eq_false']
  exact aP
 exact ⟨fun h v hv=>(key v hv).1 (h v hv),fun h v hv=>(key v hv).2 (h v hv)⟩
theorem aaj {n:Net} (hn:bt n) (ho:Own n):r29 n= !(fU n):=by
 have hl:=nP n n.rules.length
 have h1:r29 n=true↔ ∀v,v<n.aa.length->ae (dO n n.rules.length) v=true:=by
  unfold r29
  rw [aai,Bool.not_eq_true',bL,hl]
  exact ⟨fun h v hv=>by simpa using h v hv,fun h v hv=>by simpa using h v hv⟩
 have h3:r29 n=true↔fU n=false:=by
  rw [h1,D4 hn ho]
  refine forall_congr' fun v=> ?_
  refine imp_congr_right fun hv=> ?_
  rw [LA hn _ _ (Nat.le_refl _) hv]
  have hr:=ho.aI _ (ay hv)
  constructor
  ·rintro ⟨i,hi,h⟩
   have hsi:=ho.stop i hi
   have hri:(ae n.aa v).aI=(i:Nat):=by
    rcases h with h|h
    ·rw [h];exact hsi
    ·have:=Wt ho hn ((GN hn).1 h)
     rw [<-this];exact hsi
   have hg:aq n.rules (ae n.aa v).aI=ae n.rules i:=by rw [hri];rfl
   rw [hg]
   exact h.imp (fun e=>e.symm) (GN hn).1
  ·intro h
   refine ⟨(ae n.aa v).aI.toNat,by omega,?_⟩
   exact h.imp (fun e=>e.symm) (GN hn).2
 cases e1:r29 n with
 |true=>rw [h3.1 e1];rfl
 |false=>
  cases e2:fU n with
  |true=>rfl
  |false=>rw [h3.2 e2] at e1;cases e1
theorem LB {n:Net} (h:r24 n=r25 n):sj n=lM n:=by
 unfold sj lM
 congr 1
 funext i
 unfold si rT
 rw [h]
structure FM (N:Nat) (y z:eO) (l:List Int):Prop where
 len:z.2.1.length=y.2.1.length
 up: ∀v:Nat,ae y.2.1 v=true->ae z.2.1 v=true
 all: ∀x∈l,ae z.2.1 x.toNat=true
 dn: ∀v:Nat,ae z.2.1 v=true->ae y.2.1 v=true\/((v:Nat):Int)∈l
 le:y.1<=z.1
 kt:z.1<=z.2.2.length
 old: ∀j,j<y.1->ae z.2.2 j=ae y.2.2 j
 new: ∀j,y.1<=j->j<z.1->ae z.2.2 j∈l
 on: ∀v:Nat,ae z.2.1 v=true->ae y.2.1 v=true\/ ∃j,j<z.1/\ae z.2.2 j=((v:Nat):Int)
theorem FM.refl {N:Nat} {y:eO} (h:y.1<=y.2.2.length):FM N y y []:=⟨rfl,fun _ h=>h,fun x h=>by simp at h,fun _ h=> .inl h,Nat.le_refl _,h,fun _ _=>rfl,fun j h1 h2=>by omega,fun _ h=> .inl h⟩
theorem FM.push {N:Nat} {y:eO} (hl:y.2.1.length=N) (hk:y.1<=y.2.2.length) {x:Int} (h0:0<=x/\x<(N:Int)):FM N y (fi y x) [x]:=by
 unfold fi
 cases hx:ae y.2.1 x.toNat with
 |true=>
  refine ⟨rfl,fun _ h=>h,fun z hz=> ?_,fun _ h=> .inl h,Nat.le_refl _,hk,fun _ _=>rfl,fun j h1 h2=> ?_,fun _ h=> .inl h⟩
  ·rw [List.mem_singleton.1 hz];exact hx
  ·simp only [Bool.not_true,cond_false] at h2;omega
 |false=>
  simp only [Bool.not_false,cond_true]
  have hci: ∀v,ae (List.set y.2.1 x.toNat true) v=if v=x.toNat then true else ae y.2.1 v:=fun v=>fx _ _ _ _ oab
  have hpl: ∀j,j<y.1->ae (List.take y.1 y.2.2++ [x]) j=ae y.2.2 j:=fun j hj=>by
   unfold ae
   rw [List.getElem?_append_left (by rw [List.length_take];omega),List.getElem?_take_of_lt hj]
  have hpa:ae (List.take y.1 y.2.2++ [x]) y.1=x:=by
   unfold ae
   rw [List.getElem?_append_right (by rw [List.length_take];omega),List.length_take,show y.1-min y.1 y.2.2.length=0 by omega]
   rfl
  refine ⟨List.length_set,fun v h=> ?_,fun z hz=> ?_,fun v h=> ?_,Nat.le_succ _,?_,hpl,fun j h1 h2=> ?_,fun v h=> ?_⟩
  ·simp only [hci];split<;>first|rfl|exact h
  ·rw [List.mem_singleton.1 hz];simp only [hci,if_true]
  ·simp only [hci] at h
   split at h
   ·rename_i e;right;rw [e];simp;omega
   ·exact .inl h
  ·simp only [List.length_append,List.length_take,List.length_cons,List.length_nil];omega
  ·obtain rfl:j=y.1:=by simp only at h2;omega
   rw [hpa];simp
  ·simp only [hci] at h
   split at h
   ·rename_i e;right;exact ⟨y.1,Nat.lt_succ_self _,by rw [hpa,e];omega⟩
   ·exact .inl h
theorem FM.trans {N:Nat} {a b c:eO} {l m:List Int} (h:FM N a b l) (k:FM N b c m):FM N a c (l++m) where
 len:=k.len.trans h.len
 up:=fun v hv=>k.up v (h.up v hv)
 all:=fun x hx=>(List.mem_append.1 hx).elim (fun hx=>k.up _ (h.all x hx)) (k.all x)
 dn:=fun v hv=>(k.dn v hv).elim (fun hv=>(h.dn v hv).imp id fun hm=>List.mem_append_left _ hm) fun hm=> .inr (List.mem_append_right _ hm)
 le:=Nat.le_trans h.le k.le
 kt:=k.kt
 old:=fun j hj=>(k.old j (Nat.lt_of_lt_of_le hj h.le)).trans (h.old j hj)
 new:=fun j h1 h2=>by
  by_cases hj:j<b.1
  ·rw [k.old j hj];exact List.mem_append_left _ (h.new j h1 hj)
  ·exact List.mem_append_right _ (k.new j oab h2)
 on:=fun v hv=>(k.on v hv).elim (fun hv=>(h.on v hv).imp id fun ⟨j,hj,e⟩=>⟨j,Nat.lt_of_lt_of_le hj k.le,(k.old j hj).trans e⟩) fun hh=> .inr hh
theorem FM.fold {N:Nat}: ∀(l:List Int) {y:eO},y.2.1.length=N->y.1<=y.2.2.length->(∀x∈l,0<=x/\x<(N:Int))->FM N y (l.foldl fi y) l
 |[],_,_,hk,_=>FM.refl hk
 |x::l,y,hl,hk,hr=>by
  have h1:=FM.push hl hk (hr x List.mem_cons_self)
  exact h1.trans (FM.fold l (h1.len.trans hl) h1.kt fun z hz=>hr z (List.mem_cons_of_mem _ hz))
structure PI (g:List (List Nat)) (i0:Nat) (w:eO):Prop where
 len:w.2.1.length=g.length
 kt:w.1<=w.2.2.length
 pl: ∀j,j<w.1-> ∃v:Nat,ae w.2.2 j=((v:Nat):Int)/\v<g.length/\(v=i0\/Rp g i0 v)
 mrk: ∀v,ae w.2.1 v=true->Rp g i0 v/\v≠i0
 cl: ∀v,v<g.length->(v=i0\/ae w.2.1 v=true)->(∃j,j<w.1/\ae w.2.2 j=((v:Nat):Int))\/ ∀c,Edg g v c->ae w.2.1 c=true
theorem pi_0 {g:List (List Nat)} {i0:Nat} (h:i0<g.length):PI g i0 (1,replicate g.length false,[(i0:Int)]):=by
 have e: ∀v,ae (replicate g.length false) v=false:=fun v=>by
  unfold ae
  rw [List.getElem?_replicate]
  split<;>rfl
 refine ⟨by simp,Nat.le_refl _,fun j hj=> ?_,fun v hv=> ?_,fun v hv hh=> ?_⟩
 ·obtain rfl:j=0:=by simp only at hj;omega
  exact ⟨i0,rfl,h,.inl rfl⟩
 ·simp only [e] at hv;cases hv
 ·rcases hh with rfl|hh
  ·exact .inl ⟨0,Nat.lt_succ_self _,rfl⟩
  ·simp only [e] at hh;cases hh
theorem Wu {g:List (List Nat)} (hw:Wf g) {i0:Nat} {w:eO} (h:PI g i0 w) (hk:0<w.1) {l:List Int} (hl: ∀x:Int,x∈l↔0<=x/\Edg g (ae w.2.2 (w.1-1)).toNat x.toNat) (hn:(i0:Int)∉l):PI g i0 (l.foldl fi (w.1-1,w.2.1,w.2.2)):=by
 obtain ⟨s,hs1,hs2,hs3⟩:=h.pl (w.1-1) oab
 rw [hs1,Int.toNat_natCast] at hl
 have hr: ∀x∈l,0<=x/\x<(g.length:Int):=fun x hx=>by
  obtain ⟨h1,h2⟩:=(hl x).1 hx
  have:=mU hw h2
  omega
 have hf:=FM.fold l (y:=(w.1-1,w.2.1,w.2.2)) h.len (by have:=h.kt;simp only;omega) hr
 generalize l.foldl fi (w.1-1,w.2.1,w.2.2)=z at hf
 have reach: ∀v:Nat,((v:Nat):Int)∈l->Rp g i0 v:=fun v hv=>by
  have:=((hl _).1 hv).2
  rw [Int.toNat_natCast] at this
  rcases hs3 with rfl|h3
  ·exact .one this
  ·exact .step h3 this
 refine ⟨hf.len.trans h.len,hf.kt,fun j hj=> ?_,fun v hv=> ?_,fun v hv hh=> ?_⟩
 ·by_cases hjw:j<w.1-1
  ·rw [hf.old j hjw];exact h.pl j oab
  ·have hm:=hf.new j (by simp only;omega) hj
   obtain ⟨h1,h2⟩:=hr _ hm
   refine ⟨(ae z.2.2 j).toNat,by omega,by omega,.inr (reach _ ?_)⟩
   rw [show (((ae z.2.2 j).toNat:Nat):Int)=ae z.2.2 j by omega]
   exact hm
 ·rcases hf.dn v hv with h1|h1
  ·exact h.mrk v h1
  ·exact ⟨reach v h1,fun e=>hn (e▸h1)⟩
 ·have succ: ∀c,Edg g s c->ae z.2.1 c=true:=fun c hc=>by
   have:=hf.all ((c:Nat):Int) ((hl _).2 ⟨by omega,by rw [Int.toNat_natCast];exact hc⟩)
   rwa [Int.toNat_natCast] at this
  have oldc:(v=i0\/ae w.2.1 v=true)->(∃j,j<z.1/\ae z.2.2 j=((v:Nat):Int))\/ ∀c,Edg g v c->ae z.2.1 c=true:=fun hh=>by
   rcases h.cl v hv hh with ⟨j,hj,e⟩|h1
   ·by_cases hjw:j<w.1-1
    ·exact .inl ⟨j,Nat.lt_of_lt_of_le hjw hf.le,(hf.old j hjw).trans e⟩
    ·right
     obtain rfl:j=w.1-1:=by omega
     rw [hs1] at e
     obtain rfl:s=v:=by omega
     exact succ
   ·exact .inr fun c hc=>hf.up c (h1 c hc)
  rcases hh with hh|hh
  ·exact oldc (.inl hh)
  ·rcases hf.on v hh with h1|h1
   ·exact oldc (.inr h1)
   ·exact .inl h1
theorem aak {g:List (List Nat)} (hw:Wf g) {i0:Nat} (hi:i0<g.length) {w:eO} (h:PI g i0 w) (hk:w.1=0): ¬Rp g i0 i0:=fun hr=>by
 have cl: ∀v,v<g.length->(v=i0\/ae w.2.1 v=true)-> ∀c,Edg g v c->ae w.2.1 c=true:=fun v hv hh=>by
  rcases h.cl v hv hh with ⟨j,hj,_⟩|h1
  ·omega
  ·exact h1
 have:ae w.2.1 i0=true/\i0<g.length:=by
  rcases hr.head with h1|⟨c,h1,h2⟩
  ·exact ⟨cl i0 hi (.inl rfl) _ h1,hi⟩
  ·exact Rp.closed (D:=fun v=>ae w.2.1 v=true/\v<g.length) (fun v hv c hc=>⟨cl v hv.2 (.inr hv.1) c hc,mU hw hc⟩) ⟨cl i0 hi (.inl rfl) c h1,mU hw h1⟩ h2
 exact (h.mrk i0 this.1).2 rfl
theorem aal {g:List (List Nat)} {i0:Nat} {w:eO} (h:PI g i0 w) (hk:0<w.1) {l:List Int} (hl: ∀x:Int,x∈l↔0<=x/\Edg g (ae w.2.2 (w.1-1)).toNat x.toNat) (hm:(i0:Int)∈l):Rp g i0 i0:=by
 obtain ⟨s,hs1,_,hs3⟩:=h.pl (w.1-1) oab
 have e:=((hl _).1 hm).2
 rw [hs1,Int.toNat_natCast,Int.toNat_natCast] at e
 rcases hs3 with rfl|h3
 ·exact .one e
 ·exact .step h3 e
theorem search {g:List (List Nat)} (hw:Wf g) {i0:Nat} (hi:i0<g.length) {T:eO->List Int} {it:Nat->eO} {t:eO->Bool} (h0:it 0=(1,replicate g.length false,[(i0:Int)])) (hs: ∀k,PI g i0 (it k)->0<(it k).1->it (k+1)=(T (it k)).foldl fi ((it k).1-1,(it k).2.1,(it k).2.2))
  (hT: ∀w,PI g i0 w->0<w.1-> ∀x:Int,x∈T w↔0<=x/\Edg g (ae w.2.2 (w.1-1)).toNat x.toNat) (ht: ∀w,PI g i0 w->(t w=true↔(0<w.1->(i0:Int)∈T w))) (ex: ∃k,t (it k)=true):0<(it (dA t it)).1↔Rp g i0 i0:=by
 obtain ⟨hend,hlt⟩:=fW ex
 have nt: ∀k,PI g i0 (it k)->t (it k)=false->0<(it k).1/\(i0:Int)∉T (it k):=fun k h1 h2=>by
  have h3: ¬(0<(it k).1->(i0:Int)∈T (it k)):=fun h=>by rw [(ht _ h1).2 h] at h2;cases h2
  exact ⟨Decidable.byContradiction fun h=>h3 fun h4=>absurd h4 h,fun h=>h3 fun _=>h⟩
 have inv: ∀k,k<=dA t it->PI g i0 (it k):=fun k=>by
  induction k with
  |zero=>intro _;rw [h0];exact pi_0 hi
  |succ k ih=>
   intro hk
   have h1:=ih oab
   obtain ⟨h2,h3⟩:=nt k h1 (hlt k oab)
   rw [hs k h1 h2]
   exact Wu hw h1 h2 (hT _ h1 h2) h3
 have hp:=inv _ (Nat.le_refl _)
 constructor
 ·exact fun h=>aal hp h (hT _ hp h) ((ht _ hp).1 hend h)
 ·exact fun h=>Decidable.byContradiction fun hn=>aak hw hi hp oab h
noncomputable def gE (n:Net) (emp:List Bool):List (List Nat):=n.aa.map fun s=>(s.ai.flatMap (tgE n emp)).map Int.toNat
theorem BK (n:Net) (emp:List Bool):(gE n emp).length=n.aa.length:=List.length_map _
theorem T6 (n:Net):iF n=gE n (r24 n):=by
 unfold iF Bv gE
 rw [List.map_map];rfl
theorem T7 {n:Net} {emp:List Bool} {a c:Nat}:Edg (gE n emp) a c↔ ∃x∈(ae n.aa a).ai.flatMap (tgE n emp),x.toNat=c:=by
 have e:ae (gE n emp) a=((ae n.aa a).ai.flatMap (tgE n emp)).map Int.toNat:=by
  unfold gE ae
  rw [List.getElem?_map]
  cases n.aa[a]? <;>rfl
 unfold Edg
 rw [e,List.mem_map]
theorem GO {n:Net} (hn:bt n) (emp:List Bool) {a:Nat} (ha:a<n.aa.length): ∀x∈(ae n.aa a).ai.flatMap (tgE n emp),0<=x/\x<(n.aa.length:Int):=fun x hx=>by
 obtain ⟨e,he,hx⟩:=List.mem_flatMap.1 hx
 exact rQ hn emp (s:=((a:Nat):Int)) he x hx
theorem gE_wf {n:Net} (hn:bt n) (emp:List Bool):Wf (gE n emp):=fun R hR c hc=>by
 obtain ⟨a,ha,rfl⟩:=b8 hR
 rw [BK] at ha⊢
 obtain ⟨x,hx,rfl⟩:=T7.1 (show Edg (gE n emp) a c from hc)
 have:=GO hn emp ha x hx
 omega
theorem gE_T {n:Net} (hn:bt n) (emp:List Bool) {a:Nat} (ha:a<n.aa.length) (x:Int):x∈(ae n.aa a).ai.flatMap (tgE n emp)↔0<=x/\Edg (gE n emp) a x.toNat:=by
 rw [T7]
 constructor
 ·intro h;exact ⟨(GO hn emp ha x h).1,x,h,rfl⟩
 ·rintro ⟨h0,y,hy,e⟩
  have:=(GO hn emp ha y hy).1
  obtain rfl:y=x:=by omega
  exact hy
theorem nR {α:Type} [Inhabited α] (l:List α) (f:α->List Int) (y:eO) {ac:Nat->eO} (h0:ac 0=y) (hs: ∀i,i<l.length->ac (i+1)=(f (ae l i)).foldl fi (ac i)):ac l.length=(l.flatMap f).foldl fi y:=by
 have key: ∀i,i<=l.length->ac i=((range i).flatMap fun k=>f (ae l k)).foldl fi y:=fun i=>by
  induction i with
  |zero=>intro _;rw [h0];rfl
  |succ i ih=>
   intro hi
   rw [hs i oab,ih oab,List.range_succ,List.flatMap_append,List.foldl_append]
   simp
 rw [key _ (Nat.le_refl _),kj]
theorem I5 (n:Net) (emp:List Bool) (i0:Nat) (w:eO) (i:Nat):kO n emp i0 w i=true↔(i0:Int)∈tgE n emp (ae (aq n.aa (ae w.2.2 (w.1-1))).ai i):=by
 unfold kO tgE
 generalize ae (aq n.aa (ae w.2.2 (w.1-1))).ai i=e
 have key: ∀a b:Int,(a==b)=true↔b=a:=fun a b=>by rw [beq_iff_eq];exact eq_comm
 cases h1:e.op==1 with
 |true=>simp only [Bool.not_true,Bool.false_and,cond_true,List.not_mem_nil,Bool.false_eq_true]
 |false=>
  cases h2:e.op==2 with
  |true=>
   cases h3:aq emp e.n with
   |true=>simp only [Bool.not_false,Bool.not_true,Bool.true_and,cond_true,cond_false,Bool.or_eq_true,key,List.mem_cons,List.not_mem_nil,or_false]
   |false=>simp only [Bool.not_false,Bool.not_true,Bool.true_and,Bool.false_and,cond_true,cond_false,Bool.or_false,key,List.mem_cons,List.not_mem_nil,or_false]
  |false=>simp only [Bool.not_false,Bool.true_and,cond_false,key,List.mem_cons,List.not_mem_nil,or_false]
theorem T8 {n:Net} (hn:bt n) (emp:List Bool):r35 n emp=fO (gE n emp):=by
 have one: ∀i0,i0<n.aa.length->(lY n emp i0=true↔Rp (gE n emp) i0 i0):=fun i0 hi=>by
  have hs:=search (g:=gE n emp) (gE_wf hn emp) (i0:=i0) (by rw [BK];exact hi) (T:=fun w=>(aq n.aa (ae w.2.2 (w.1-1))).ai.flatMap (tgE n emp)) (it:=dh n emp i0) (t:=iC n emp i0) (by
    show (1,replicate (length (map ak n.aa)) false,[(i0:Int)])=_
    rw [BK,List.length_map]) (fun k _ _=>by
    exact nR (aq n.aa (ae (dh n emp i0 k).2.2 ((dh n emp i0 k).1-1))).ai (tgE n emp) _ (ac:=aJ n emp i0 (dh n emp i0 k)) rfl fun i _=>FT n emp i0 _ i _) (fun w hp hk x=>by
    obtain ⟨s,h1,h2,_⟩:=hp.pl (w.1-1) oab
    rw [BK] at h2
    rw [h1,Int.toNat_natCast]
    exact gE_T hn emp h2 x) (fun w hp=>by
    unfold iC
    by_cases hk:0<w.1
    ·rw [show decide (((w.1:Nat):Int)>0)=true from decide_eq_true oab,cond_true]
     unfold wA
     rw [ee]
     constructor
     ·rintro ⟨i,h1,h2⟩ _
      exact List.mem_flatMap.2 ⟨_,ay h1,(I5 n emp i0 w i).1 h2⟩
     ·intro h
      obtain ⟨e,he,hx⟩:=List.mem_flatMap.1 (h hk)
      obtain ⟨i,h1,rfl⟩:=b8 he
      exact ⟨i,h1,(I5 n emp i0 w i).2 hx⟩
    ·rw [show decide (((w.1:Nat):Int)>0)=false from decide_eq_false oab,cond_false]
     exact ⟨fun _ h=>absurd h hk,fun _=>rfl⟩) (Sg hn emp i0 hi).1
  rw [<-hs]
  show decide ((((rR n emp i0).1:Nat):Int)>0)=true↔0<(rR n emp i0).1
  rw [decide_eq_true_eq]
  omega
 show cX n.aa.length (lY n emp)=fO (gE n emp)
 have h:cX n.aa.length (lY n emp)=true↔fO (gE n emp)=true:=by
  rw [ee]
  unfold fO
  rw [aP]
  constructor
  ·rintro ⟨i,hi,h⟩;exact ⟨i,(one i hi).1 h⟩
  ·rintro ⟨i,h⟩
   have hi:i<n.aa.length:=by
    rw [<-BK n emp]
    rcases h.head with h6|⟨c,h6,_⟩<;>exact BJ h6
   exact ⟨i,hi,(one i hi).2 h⟩
 cases e1:cX n.aa.length (lY n emp) with
 |true=>exact (h.1 e1).symm
 |false=>
  cases e2:fO (gE n emp) with
  |true=>rw [h.2 e2] at e1;cases e1
  |false=>rfl
theorem Wv {n:Net} (hn:bt n) (h:r24 n=r25 n):fO (iF n)=r35 n (r25 n):=by rw [T6,h,T8 hn]
noncomputable def clR (n:Net) (r:Int):List Int:=n.aa.flatMap fun s=>bif s.aI !=r then [] else s.ai.flatMap tgC
noncomputable def gK (n:Net):List (List Nat):=(range n.rules.length).map fun r=>(clR n ((r:Nat):Int)).map Int.toNat
theorem BL (n:Net):(gK n).length=n.rules.length:=by simp [gK]
theorem MX {e:Edge} {x:Int}:x∈tgC e↔e.op=2/\x=e.n:=by
 unfold tgC
 cases h:e.op !=2 with
 |true=>simp only [cond_true,List.not_mem_nil,false_iff,not_and];intro h2;simp [h2] at h
 |false=>simp only [cond_false,List.mem_singleton];exact ⟨fun h3=>⟨by simpa using h,h3⟩,fun h3=>h3.2⟩
theorem nS {n:Net} {r x:Int}:x∈clR n r↔ ∃s∈n.aa,s.aI=r/\ ∃e∈s.ai,e.op=2/\x=e.n:=by
 unfold clR
 rw [List.mem_flatMap]
 constructor
 ·rintro ⟨s,hs,h⟩
  cases h1:s.aI !=r with
  |true=>rw [h1] at h;simp at h
  |false=>
   rw [h1,cond_false] at h
   obtain ⟨e,he,h2⟩:=List.mem_flatMap.1 h
   exact ⟨s,hs,by simpa using h1,e,he,MX.1 h2⟩
 ·rintro ⟨s,hs,h1,e,he,h2⟩
  refine ⟨s,hs,?_⟩
  rw [show (s.aI !=r)=false by simp [h1],cond_false]
  exact List.mem_flatMap.2 ⟨e,he,MX.2 h2⟩
theorem GP {n:Net} (hn:bt n) {r x:Int} (h:x∈clR n r):0<=x/\x<(n.rules.length:Int):=by
 obtain ⟨s,hs,_,e,he,h1,rfl⟩:=nS.1 h
 exact hn.call s hs e he h1
theorem BM {n:Net} {a c:Nat} (ha:a<n.rules.length):Edg (gK n) a c↔ ∃x∈clR n ((a:Nat):Int),x.toNat=c:=by
 have e:ae (gK n) a=(clR n ((a:Nat):Int)).map Int.toNat:=by
  unfold gK ae
  rw [List.getElem?_map,List.getElem?_range ha];rfl
 unfold Edg
 rw [e,List.mem_map]
theorem gK_wf {n:Net} (hn:bt n):Wf (gK n):=fun R hR c hc=>by
 obtain ⟨a,ha,rfl⟩:=b8 hR
 rw [BL] at ha⊢
 obtain ⟨x,hx,rfl⟩:=(BM ha).1 (show Edg (gK n) a c from hc)
 have:=GP hn hx
 omega
theorem gK_T {n:Net} (hn:bt n) {a:Nat} (ha:a<n.rules.length) (x:Int):x∈clR n ((a:Nat):Int)↔0<=x/\Edg (gK n) a x.toNat:=by
 rw [BM ha]
 constructor
 ·intro h;exact ⟨(GP hn h).1,x,h,rfl⟩
 ·rintro ⟨h0,y,hy,e⟩
  have:=(GP hn hy).1
  obtain rfl:y=x:=by omega
  exact hy
theorem OS (n:Net) (i0:Nat) (w:eO) (i:Nat) (y:eO):bY n i0 w i y (ae n.aa i).ai.length=((ae n.aa i).ai.flatMap tgC).foldl fi y:=
 nR (ae n.aa i).ai tgC y (ac:=bY n i0 w i y) rfl fun k _=>DF n i0 w i y k _
theorem OT (n:Net) (i0:Nat) (w:eO) (i:Nat) (y:eO):AR n i0 w i y=((fun s:State=>bif s.aI !=ae w.2.2 (w.1-1) then [] else s.ai.flatMap tgC) (ae n.aa i)).foldl fi y:=by
 unfold AR
 simp only [OS]
 cases (ae n.aa i).aI !=ae w.2.2 (w.1-1)<;>rfl
theorem I6 (n:Net) (i0:Nat) (w:eO) (i:Nat):lZ n i0 w i=true↔(ae n.aa i).aI=ae w.2.2 (w.1-1)/\ ∃e∈(ae n.aa i).ai,e.op=2/\(i0:Int)=e.n:=by
 unfold lZ wB
 rw [Bool.and_eq_true,ee]
 refine and_congr oai ?_
 constructor
 ·rintro ⟨k,hk,h⟩
  unfold nc at h
  simp only [Bool.and_eq_true,Bool.not_eq_true',bne_eq_false_iff_eq,beq_iff_eq] at h
  exact ⟨_,ay hk,h.1,h.2.symm⟩
 ·rintro ⟨e,he,h1,h2⟩
  obtain ⟨k,hk,rfl⟩:=b8 he
  refine ⟨k,hk,?_⟩
  unfold nc
  simp only [Bool.and_eq_true,Bool.not_eq_true',bne_eq_false_iff_eq,beq_iff_eq]
  exact ⟨h1,h2.symm⟩
theorem XI {n:Net} (hn:bt n) {i0:Nat} (hi:i0<n.rules.length):rS n i0 (ou n i0)=true↔Rp (gK n) i0 i0:=by
 have hs:=search (g:=gK n) (gK_wf hn) (i0:=i0) (by rw [BL];exact hi) (T:=fun w=>clR n (ae w.2.2 (w.1-1))) (it:=dt n i0) (t:=iD n i0) (by
   show (1,replicate (length (map aE n.rules)) false,[(i0:Int)])=_
   rw [BL,List.length_map]) (fun k _ _=>by
   exact nR n.aa (fun s:State=>bif s.aI !=ae (dt n i0 k).2.2 ((dt n i0 k).1-1) then [] else s.ai.flatMap tgC) _ (ac:=ck n i0 (dt n i0 k)) rfl fun i _=>OT n i0 _ i _) (fun w hp hk x=>by
   obtain ⟨s,h1,h2,_⟩:=hp.pl (w.1-1) oab
   rw [BL] at h2
   simp only [h1,Int.toNat_natCast]
   exact gK_T hn h2 x) (fun w hp=>by
   unfold iD
   by_cases hk:0<w.1
   ·rw [show decide (((w.1:Nat):Int)>0)=true from decide_eq_true oab,cond_true]
    unfold wC
    rw [ee]
    constructor
    ·rintro ⟨i,h1,h2⟩ _
     obtain ⟨h3,e,he,h4⟩:=(I6 n i0 w i).1 h2
     exact nS.2 ⟨_,ay h1,h3,e,he,h4⟩
    ·intro h
     obtain ⟨s,hs,h3,h4⟩:=nS.1 (h hk)
     obtain ⟨i,h1,rfl⟩:=b8 hs
     exact ⟨i,h1,(I6 n i0 w i).2 ⟨h3,h4⟩⟩
   ·rw [show decide (((w.1:Nat):Int)>0)=false from decide_eq_false oab,cond_false]
    exact ⟨fun _ h=>absurd h hk,fun _=>rfl⟩) (Sw hn i0 hi).1
 rw [<-hs]
 show decide ((((ou n i0).1:Nat):Int)>0)=true↔0<(ou n i0).1
 rw [decide_eq_true_eq]
 omega
def XJ (n:Net):Prop:= ∀s∈n.aa,∀e∈s.ai,e.op=2->(aq n.rules e.n).bO=(aq n.rules s.aI).bO
theorem OU {n:Net} (hr: ∀s∈n.aa,0<=s.aI/\s.aI<(n.rules.length:Int)) {a c:Nat}:Edg (fj n) a c↔ ∃s∈n.aa,s.aI.toNat=a/\ ∃e∈s.ai,e.op=2/\(aq n.rules e.n).bO=true/\e.n.toNat=c:=by
 have e:ae (fj n) a=(ae (ox n) a).map Int.toNat:=by
  unfold fj ae
  rw [List.getElem?_map]
  cases (ox n)[a]? <;>rfl
 have ht: ∀(x:Int) (d:Edge),x∈tgL n d↔d.op=2/\(aq n.rules d.n).bO=true/\x=d.n:=fun x d=>by
  unfold tgL
  cases h1:d.op==2 with
  |true=>
   have h1:=eq_of_beq h1
   cases h2:(aq n.rules d.n).bO<;>simp [h1]
  |false=>
   have h1:d.op≠2:=by simpa using h1
   simp [h1]
 unfold Edg
 rw [e,List.mem_map]
 constructor
 ·rintro ⟨x,hx,rfl⟩
  obtain ⟨s,hs,h1,d,hd,h2⟩:=(nQ hr a x).1 hx
  obtain ⟨h3,h4,rfl⟩:=(ht _ _).1 h2
  exact ⟨s,hs,h1,d,hd,h3,h4,rfl⟩
 ·rintro ⟨s,hs,h1,d,hd,h3,h4,rfl⟩
  exact ⟨d.n,(nQ hr a _).2 ⟨s,hs,h1,d,hd,(ht _ _).2 ⟨h3,h4,rfl⟩⟩,rfl⟩
theorem Ww {n:Net} (hn:bt n) (hr: ∀s∈n.aa,0<=s.aI/\s.aI<(n.rules.length:Int)) (hx:XJ n):fO (fj n)=r36 n:=by
 have hed: ∀a c,Edg (fj n) a c↔a<n.rules.length/\(ae n.rules a).bO=true/\(ae n.rules c).bO=true/\Edg (gK n) a c:=fun a c=>by
  rw [OU hr]
  constructor
  ·rintro ⟨s,hs,h1,d,hd,h3,h4,rfl⟩
   have hrs:=hr s hs
   have hlx:=hx s hs d hd h3
   have ha:a<n.rules.length:=by omega
   have e1:aq n.rules s.aI=ae n.rules a:=by rw [<-h1];rfl
   refine ⟨ha,by rw [<-e1,<-hlx];exact h4,h4,(BM ha).2 ⟨d.n,nS.2 ⟨s,hs,by omega,d,hd,h3,rfl⟩,rfl⟩⟩
  ·rintro ⟨ha,h1,h2,h3⟩
   obtain ⟨x,hx2,rfl⟩:=(BM ha).1 h3
   obtain ⟨s,hs,h4,d,hd,h5,rfl⟩:=nS.1 hx2
   exact ⟨s,hs,by omega,d,hd,h5,h2,rfl⟩
 have hgo: ∀a c,Rp (gK n) a c->a<n.rules.length->(ae n.rules a).bO=true->Rp (fj n) a c/\(ae n.rules c).bO=true:=fun a c h=>by
  have one: ∀a c,a<n.rules.length->(ae n.rules a).bO=true->Edg (gK n) a c->Edg (fj n) a c/\(ae n.rules c).bO=true:=fun a c ha hl e=>by
   obtain ⟨x,hx2,rfl⟩:=(BM ha).1 e
   obtain ⟨s,hs,h4,d,hd,h5,rfl⟩:=nS.1 hx2
   have hlx:=hx s hs d hd h5
   rw [h4] at hlx
   have h6:(ae n.rules d.n.toNat).bO=true:=hlx.trans hl
   exact ⟨(hed _ _).2 ⟨ha,hl,h6,e⟩,h6⟩
  induction h with
  |one e=>intro ha hl;obtain ⟨h1,h2⟩:=one _ _ ha hl e;exact ⟨.one h1,h2⟩
  |step _ e ih=>
   intro ha hl
   obtain ⟨h1,h2⟩:=ih ha hl
   have hb:=BJ e
   rw [BL] at hb
   obtain ⟨h3,h4⟩:=one _ _ hb h2 e
   exact ⟨.step h1 h3,h4⟩
 have h:cX n.rules.length (jT n)=true↔fO (fj n)=true:=by
  rw [ee]
  unfold fO
  rw [aP]
  constructor
  ·rintro ⟨i,hi,h⟩
   unfold jT at h
   simp only [Bool.and_eq_true,Bool.not_not] at h
   exact ⟨i,(hgo i i ((XI hn hi).1 h.2) hi h.1).1⟩
  ·rintro ⟨i,h⟩
   have h1:i<n.rules.length/\(ae n.rules i).bO=true:=by
    rcases h.head with h6|⟨c,h6,_⟩<;>exact ⟨((hed _ _).1 h6).1,((hed _ _).1 h6).2.1⟩
   refine ⟨i,h1.1,?_⟩
   unfold jT
   rw [Bool.not_not,h1.2,Bool.true_and]
   exact (XI hn h1.1).2 (h.mono fun a b e=>((hed a b).1 e).2.2.2)
 show fO (fj n)=cX n.rules.length (jT n)
 cases e1:cX n.rules.length (jT n) with
 |true=>exact h.1 e1
 |false=>
  cases e2:fO (fj n) with
  |true=>rw [h.2 e2] at e1;cases e1
  |false=>rfl
theorem lP (n:Net) (s r:Int):r62 n s r=r67 n s r:=rfl
theorem np (g:G):r81 g=r93 g:=rfl
def vQ (x:Int):Prop:= -2147483648<=x/\x<=2147483647
theorem aam {s:List (Int×Int)} (h: ∀r∈s,vQ r.1/\vQ r.2) {i:Nat} (hi:i<s.length):mN s i=mO s i:=by
 unfold mN mO
 have h1:=(h _ (ay hi)).1
 have h2:=(h _ (ay (show i-1<s.length by omega))).2
 unfold vQ at h1 h2
 have e1:IntKind.wrap IntKind.i64 (ae s i).1=(ae s i).1:=wrap_i64 oab oab
 have e2:IntKind.wrap IntKind.i64 (ae s (i-1)).2=(ae s (i-1)).2:=wrap_i64 oab oab
 have e3:IntKind.wrap IntKind.i64 ((ae s (i-1)).2+1)=(ae s (i-1)).2+1:=wrap_i64 oab oab
 have e4:IntKind.wrap IntKind.i64 ((ae s (i-1)).2+2)=(ae s (i-1)).2+2:=wrap_i64 oab oab
 rw [e1,e2,e3,e4]
 congr 2
 exact decide_eq_decide.2 oab
theorem aan {s:List (Int×Int)} (h: ∀r∈s,vQ r.1/\vQ r.2):r64 s=r91 s:=by
 have e:wm s=rq s:=by
  have: ∀i,i<s.length->mN s i=mO s i:=fun i hi=>aam h hi
  cases e2:rq s with
  |true=>
   obtain ⟨i,hi,ht⟩:=ee.1 e2
   exact ee.2 ⟨i,hi,(this i hi).trans ht⟩
  |false=>exact bL.2 fun i hi=>(this i hi).trans (bL.1 e2 i hi)
 unfold r64 r91
 rw [e]
theorem lexOf {n:Net} (h3:r33 n=true):XJ n:=fun s hs e he h=>by
 obtain ⟨i,hi,rfl⟩:=b8 hs
 obtain ⟨k,hk,rfl⟩:=b8 he
 have h68:=(tH h3 hi).2 k hk
 unfold r68 at h68
 rw [h] at h68
 simp only [show ((2:Int) !=3)=true from rfl,show ((2:Int)==1)=false from rfl,show ((2:Int)==2)=true from rfl,cond_true,cond_false,Bool.and_eq_true,Bool.not_eq_true',Bool.not_eq_false',beq_iff_eq] at h68
 exact h68.2.2.2.2.2.2.2.2.1
def X27 (n:Net) (r:ca) (i:Nat):Bool:= !(r67 n r.start i)||(!(r67 n r.stop i)||((r.start==r.stop)||(decide ((length (map aV (aq n.aa r.stop).ai):Int)>0)||((!r.bO&&(r.eU||(r.lazy||r.mode !=0)))||((r.bO&&r.left)||(decide (r.mode<0)||(decide (r.mode>=(length (map bH n.cz):Int))||(bif r.bO&& !r.eU then (decide (r.type<1)||decide (r.type>(length (map bH n.types):Int))) else r.type !=0))))))))
theorem LC (n:Net) (i:Nat):jv n i=(X27 n (ae n.rules i) i||((ae n.rules i).bO&&(!(ae n.rules i).eU&&dec ((ae n.rules i).type∈bQ n i)))):=by
 unfold jv X27
 simp only [lP]
 generalize ae n.rules i=r
 generalize dec (r.type∈bQ n i)=a
 cases r.bO<;>cases r.eU<;>simp only [Bool.not_true,Bool.not_false,cond_true,cond_false,Bool.true_and,Bool.false_and,Bool.true_or,Bool.false_or,Bool.or_true,Bool.or_false,Bool.and_true,Bool.and_false,Bool.or_assoc]
theorem T9 (n:Net) (i:Nat):ju n i=(X27 n (ae n.rules i) i||((ae n.rules i).bO&&(!(ae n.rules i).eU&&lL n i))):=by
 unfold ju X27
 generalize lL n i=a
 generalize ae n.rules i=r
 cases r.bO<;>cases r.eU<;>simp only [Bool.not_true,Bool.not_false,cond_true,cond_false,Bool.true_and,Bool.false_and,Bool.true_or,Bool.false_or,Bool.or_true,Bool.or_false,Bool.and_true,Bool.and_false,Bool.or_assoc]
theorem I7 (n:Net) (i:Nat) (x:Int):x∈bQ n i↔ ∃j,j<i/\(ae n.rules j).bO=true/\(ae n.rules j).eU=false/\x=(ae n.rules j).type:=by
 induction i with
 |zero=>exact ⟨fun h=>absurd (show x∈([]:List Int) from h) oai,fun ⟨j,hj,_⟩=>by omega⟩
 |succ i ih=>
  show x∈Fy n i (bQ n i)↔_
  have e:x∈Fy n i (bQ n i)↔x∈bQ n i\/((ae n.rules i).bO=true/\(ae n.rules i).eU=false/\x=(ae n.rules i).type):=by
   unfold Fy
   cases (ae n.rules i).bO<;>cases (ae n.rules i).eU<;>simp
  rw [e,ih]
  constructor
  ·rintro (⟨j,h1,h2⟩|h)
   ·exact ⟨j,by omega,h2⟩
   ·exact ⟨i,by omega,h⟩
  ·rintro ⟨j,h1,h2⟩
   by_cases hj:j=i
   ·subst hj;exact .inr h2
   ·exact .inl ⟨j,by omega,h2⟩
theorem aao (n:Net):r27 n=r32 n:=by
 have h:(∀i,i<n.rules.length->jv n i=false)↔ ∀i,i<n.rules.length->ju n i=false:=by
  constructor
  ·intro h i hi
   have h1:=h i hi
   rw [LC] at h1
   rw [T9]
   simp only [Bool.or_eq_false_iff] at h1⊢
   refine ⟨h1.1,?_⟩
   cases hl:(ae n.rules i).bO with
   |false=>rfl
   |true=>
    cases hf:(ae n.rules i).eU with
    |true=>rfl
    |false=>
     rw [Bool.not_false,Bool.true_and,Bool.true_and]
     refine bL.2 fun j hj=> ?_
     unfold oi
     refine beq_eq_false_iff_ne.2 fun e=> ?_
     have hx:=h1.1
     unfold X27 at hx
     rw [hl,hf] at hx
     simp only [Bool.not_false,Bool.and_self,cond_true,Bool.or_eq_false_iff,decide_eq_false_iff_not] at hx
     have hge:1<=(ae n.rules i).type:=by have:=hx.2.2.2.2.2.2.2.2.1;omega
     have hj1:=h j oab
     rw [LC] at hj1
     simp only [Bool.or_eq_false_iff] at hj1
     cases hlj:((ae n.rules j).bO&& !(ae n.rules j).eU) with
     |false=>
      have hy:=hj1.1
      unfold X27 at hy
      rw [hlj] at hy
      simp only [cond_false,Bool.or_eq_false_iff,bne_eq_false_iff_eq] at hy
      have:=hy.2.2.2.2.2.2.2.2
      omega
     |true=>
      simp only [Bool.and_eq_true,Bool.not_eq_true'] at hlj
      have hm:=h1.2
      rw [hl,hf,Bool.not_false,Bool.true_and,Bool.true_and] at hm
      have:dec ((ae n.rules i).type∈bQ n i)=true:=aP.2 ((I7 n i _).2 ⟨j,hj,hlj.1,hlj.2,e.symm⟩)
      rw [this] at hm;cases hm
  ·intro h i hi
   have h1:=h i hi
   rw [T9] at h1
   rw [LC]
   simp only [Bool.or_eq_false_iff] at h1⊢
   refine ⟨h1.1,?_⟩
   cases hl:(ae n.rules i).bO with
   |false=>rfl
   |true=>
    cases hf:(ae n.rules i).eU with
    |true=>rfl
    |false=>
     rw [Bool.not_false,Bool.true_and,Bool.true_and]
     have hm:=h1.2
     rw [hl,hf,Bool.not_false,Bool.true_and,Bool.true_and] at hm
     cases hd:dec ((ae n.rules i).type∈bQ n i) with
     |false=>rfl
     |true=>
      obtain ⟨j,hj,_,_,e⟩:=(I7 n i _).1 (aP.1 hd)
      have:=bL.1 hm j hj
      unfold oi at this
      rw [e] at this
      simp at this
 show (!cX n.rules.length (jv n))= !cX n.rules.length (ju n)
 congr 1
 cases e1:cX n.rules.length (ju n) with
 |false=>exact bL.2 (h.2 (bL.1 e1))
 |true=>
  cases e2:cX n.rules.length (jv n) with
  |true=>rfl
  |false=>rw [bL.2 (h.1 (bL.1 e2))] at e1;cases e1
theorem beqS {a b:ByteArray}:cG (Array.toList (ByteArray.data a)) (Array.toList (ByteArray.data b))=true↔a=b:=by
 rw [vY,beq_iff_eq]
 constructor
 ·intro h
  cases a;cases b
  exact congrArg ByteArray.mk (Array.toList_inj.1 h)
 ·intro h;rw [h]
theorem beqE {a:ByteArray}:cG (Array.toList (ByteArray.data a)) []=true↔a.size=0:=by
 rw [vY,beq_iff_eq]
 constructor
 ·intro h
  have:=congrArg length h
  simpa using this
 ·intro h
  refine List.eq_nil_of_length_eq_zero ?_
  simpa using h
def NmOk (l:List ByteArray):Prop:= ∀i,i<l.length->(0<(ae l i).size/\(ae l i).size<=40)/\ ∀j,j<i->ae l j≠ae l i
theorem Ua (l:List ByteArray) (i:Nat) (x:ByteArray):x∈fE l i↔ ∃j,j<i/\x=ae l j:=by
 induction i with
 |zero=>exact ⟨fun h=>absurd (show x∈([]:List ByteArray) from h) oai,fun ⟨j,hj,_⟩=>by omega⟩
 |succ i ih=>
  show x∈KE l i (fE l i)↔_
  unfold KE
  rw [List.mem_append,ih,List.mem_singleton]
  constructor
  ·rintro (⟨j,h1,h2⟩|h)
   ·exact ⟨j,by omega,h2⟩
   ·exact ⟨i,by omega,h⟩
  ·rintro ⟨j,h1,h2⟩
   by_cases hj:j=i
   ·subst hj;exact .inr h2
   ·exact .inl ⟨j,by omega,h2⟩
theorem MY (l:List ByteArray):r60 l=true↔NmOk l:=by
 unfold r60 wu
 rw [Bool.not_eq_true',bL]
 refine forall_congr' fun i=>imp_congr_right fun hi=> ?_
 unfold rA
 simp only [Bool.or_eq_false_iff,decide_eq_false_iff_not]
 have e1:cG (Array.toList (ByteArray.data (ae l i))) []=false↔0<(ae l i).size:=by
  rw [<-Bool.not_eq_true,beqE];omega
 have e2:dec (ae l i∈fE l i)=false↔ ∀j,j<i->ae l j≠ae l i:=by
  rw [<-Bool.not_eq_true,aP,Ua]
  exact ⟨fun h j hj e=>h ⟨j,hj,e.symm⟩,fun h ⟨j,hj,e⟩=>h j hj e.symm⟩
 rw [e1,e2]
 constructor
 ·rintro ⟨h1,h2,h3⟩;exact ⟨⟨h1,by omega⟩,h3⟩
 ·rintro ⟨⟨h1,h2⟩,h3⟩;exact ⟨h1,by omega,h3⟩
theorem D5 (l:List ByteArray) (f:Bool) (i:Nat):lK l f i=false↔ ∀j,j<i->ae l j≠ae l i:=by
 unfold lK
 rw [bL]
 refine forall_congr' fun j=>imp_congr_right fun _=> ?_
 unfold rr
 rw [<-Bool.not_eq_true,beqS]
theorem Wx (l:List ByteArray):r66 l false=true↔NmOk l:=by
 unfold r66 ru
 rw [Bool.not_eq_true',bL]
 refine forall_congr' fun i=>imp_congr_right fun hi=> ?_
 unfold kK
 simp only [cond_false,Bool.or_eq_false_iff,decide_eq_false_iff_not,D5]
 constructor
 ·rintro ⟨h1,h2,h3⟩;exact ⟨⟨by omega,by omega⟩,h3⟩
 ·rintro ⟨⟨h1,h2⟩,h3⟩;exact ⟨by omega,by omega,h3⟩
theorem Ub (l:List ByteArray):r60 l=r66 l false:=by
 have h:r60 l=true↔r66 l false=true:=(MY l).trans (Wx l).symm
 cases e1:r66 l false with
 |true=>exact h.2 e1
 |false=>
  cases e2:r60 l with
  |true=>rw [h.1 e2] at e1;cases e1
  |false=>rfl
theorem nT (l:List ByteArray) (i:Nat):ae (List.drop 1 l) i=ae l (i+1):=by
 unfold ae
 rw [List.getElem?_drop,Nat.add_comm]
theorem Uc (l:List ByteArray):r66 l true=true↔(0<l.length->(ae l 0).size=0)/\NmOk (List.drop 1 l):=by
 unfold r66 ru
 rw [Bool.not_eq_true',bL]
 have e0:kK l true 0=false↔(ae l 0).size=0:=by
  unfold kK
  simp only [cond_true,show ((((0:Nat):Int))==0)=true from rfl,Bool.not_eq_false',beqE]
 have es: ∀i,kK l true (i+1)=false↔(0<(ae l (i+1)).size/\(ae l (i+1)).size<=40)/\ ∀j,j<i+1->ae l j≠ae l (i+1):=fun i=>by
  unfold kK
  simp only [cond_true,show ((((i+1:Nat):Int))==0)=false from beq_eq_false_iff_ne.2 oab,cond_false,Bool.or_eq_false_iff,decide_eq_false_iff_not,D5]
  constructor
  ·rintro ⟨h1,h2,h3⟩;exact ⟨⟨by omega,by omega⟩,h3⟩
  ·rintro ⟨⟨h1,h2⟩,h3⟩;exact ⟨by omega,by omega,h3⟩
 constructor
 ·intro h
  refine ⟨fun hl=>e0.1 (h 0 hl),fun i hi=> ?_⟩
  rw [List.length_drop] at hi
  obtain ⟨h1,h2⟩:=(es i).1 (h (i+1) oab)
  rw [nT]
  exact ⟨h1,fun j hj=>by rw [nT];exact h2 (j+1) oab⟩
 ·rintro ⟨h0,h⟩ i hi
  cases i with
  |zero=>exact e0.2 (h0 hi)
  |succ i=>
   obtain ⟨h1,h2⟩:=h i (by rw [List.length_drop];omega)
   rw [nT] at h1 h2
   refine (es i).2 ⟨h1,fun j hj=> ?_⟩
   cases j with
   |zero=>
    intro e
    have:=h0 oab
    rw [e] at this
    omega
   |succ j=>
    have:=h2 j oab
    rw [nT] at this
    exact this
theorem Ud (l:List ByteArray):r61 l=(!(decide ((length (map bH l):Int)<1))&&(!(decide ((length (map bH l):Int)>20))&&r66 l true)):=by
 have h:r61 l=true↔(!(decide ((length (map bH l):Int)<1))&&(!(decide ((length (map bH l):Int)>20))&&r66 l true))=true:=by
  unfold r61
  simp only [Bool.and_eq_true,decide_eq_true_eq,Bool.not_eq_true',decide_eq_false_iff_not,Uc,MY,beqE]
  rw [List.length_map]
  constructor
  ·rintro ⟨h1,h2,h3,h4⟩;exact ⟨by omega,by omega,fun _=>h3,h4⟩
  ·rintro ⟨h1,h2,h3,h4⟩;exact ⟨by omega,by omega,h3 oab,h4⟩
 cases e1:(!(decide ((length (map bH l):Int)<1))&&(!(decide ((length (map bH l):Int)>20))&&r66 l true)) with
 |true=>exact h.2 e1
 |false=>
  cases e2:r61 l with
  |true=>rw [h.1 e2] at e1;cases e1
  |false=>rfl
theorem Ue (n:Net):rE n=rC n:=by
 unfold rE rC
 congr 1
 funext i
 unfold rD rB
 exact Bool.and_left_comm _ _ _
theorem LD (x y:Int):decide (x<=y)= !(decide (x>y)):=by
 rw [<-decide_not]
 exact decide_eq_decide.2 oab
theorem Uf (n:Net):r26 n=r31 n:=by
 have h:r26 n=true↔r31 n=true:=by
  unfold r26 r31
  rw [Ue,LD,LD,LD,Ub,Ub,Ud,Ud]
  simp only [Bool.and_eq_true]
  constructor
  ·rintro ⟨a,b,c,d,e,⟨f1,f2,f3⟩,⟨g1,g2,g3⟩,k⟩
   exact ⟨b,f1,f2,g1,g2,c,d,a,e,f3,g3,k⟩
  ·rintro ⟨b,f1,f2,g1,g2,c,d,a,e,f3,g3,k⟩
   exact ⟨a,b,c,d,e,⟨f1,f2,f3⟩,⟨g1,g2,g3⟩,k⟩
 cases e1:r31 n with
 |true=>exact h.2 e1
 |false=>
  cases e2:r26 n with
  |true=>rw [h.1 e2] at e1;cases e1
  |false=>rfl
theorem Ug (n:Net) (i k:Nat) (x:Int):x∈cC n i k↔ ∃j,j<k/\x=(ae (ae n.aa i).ai j).n:=by
 induction k with
 |zero=>exact ⟨fun h=>absurd (show x∈([]:List Int) from h) oai,fun ⟨j,hj,_⟩=>by omega⟩
 |succ k ih=>
  show x∈FD n i k (cC n i k)↔_
  have e:x∈FD n i k (cC n i k)↔x∈cC n i k\/x=(ae (ae n.aa i).ai k).n:=by
   unfold FD
   cases hd:dec ((ae (ae n.aa i).ai k).n∈cC n i k) with
   |true=>
    rw [cond_true]
    exact ⟨.inl,fun h=>h.elim id fun e=>e▸aP.1 hd⟩
   |false=>rw [cond_false,List.mem_append,List.mem_singleton]
  rw [e,ih]
  constructor
  ·rintro (⟨j,h1,h2⟩|h)
   ·exact ⟨j,by omega,h2⟩
   ·exact ⟨k,by omega,h⟩
  ·rintro ⟨j,h1,h2⟩
   by_cases hj:j=k
   ·subst hj;exact .inr h2
   ·exact .inl ⟨j,by omega,h2⟩
theorem jV (g:G):r92 g=true↔g.op=0/\g.n=0/\cG (Array.toList (ByteArray.data g.name)) []=true/\((g.kids.length:Nat):Int)=0:=by
 unfold r92
 simp only [Bool.and_eq_true,beq_iff_eq,List.length_map]
theorem I9 {p:Prop}:dec p=false↔ ¬p:=by rw [<-Bool.not_eq_true,aP]
theorem ed0 (n:Net) (i k:Nat) (e:Edge) (he:ae (ae n.aa i).ai k=e) (hset:r64 e.set=r91 e.set) (h0:e.op=0):dS n i k=false↔r68 n (ae n.aa i) i e=true/\(e.op=4->e.n∉cC n i k):=by
 unfold dS r68
 rw [he,hset,h0,lP]
 generalize ae n.aa i=s
 simp only [show ((0:Int) !=3)=true from rfl,show ((0:Int)==0)=true from rfl,show ((0:Int)==1)=false from rfl,show ((0:Int)==2)=false from rfl,show ((0:Int)==4)=false from rfl,show ((0:Int)==5)=false from rfl,show ((0:Int)==6)=false from rfl,show ((0:Int)==7)=false from rfl,show decide ((0:Int)<0)=false from rfl,show decide (IntKind.wrap IntKind.i64 0>=8)=false from rfl,cond_true,cond_false,Bool.or_eq_false_iff,Bool.and_eq_true,Bool.not_eq_true',Bool.not_eq_false',Bool.not_not,I9,jV,r77,np,decide_eq_false_iff_not,List.length_map,bne_eq_false_iff_eq,beq_iff_eq]
 grind
theorem ed1 (n:Net) (i k:Nat) (e:Edge) (he:ae (ae n.aa i).ai k=e) (hset:r64 e.set=r91 e.set) (h0:e.op=1):dS n i k=false↔r68 n (ae n.aa i) i e=true/\(e.op=4->e.n∉cC n i k):=by
 unfold dS r68
 rw [he,hset,h0,lP]
 generalize ae n.aa i=s
 simp only [show ((1:Int) !=3)=true from rfl,show ((1:Int)==0)=false from rfl,show ((1:Int)==1)=true from rfl,show ((1:Int)==2)=false from rfl,show ((1:Int)==4)=false from rfl,show ((1:Int)==5)=false from rfl,show ((1:Int)==6)=false from rfl,show ((1:Int)==7)=false from rfl,show decide ((1:Int)<0)=false from rfl,show decide (IntKind.wrap IntKind.i64 1>=8)=false from rfl,cond_true,cond_false,Bool.or_eq_false_iff,Bool.and_eq_true,Bool.not_eq_true',Bool.not_eq_false',Bool.not_not,I9,jV,r78,np,decide_eq_false_iff_not,List.length_map,bne_eq_false_iff_eq,beq_iff_eq]
 grind
theorem ed2 (n:Net) (i k:Nat) (e:Edge) (he:ae (ae n.aa i).ai k=e) (hset:r64 e.set=r91 e.set) (h0:e.op=2):dS n i k=false↔r68 n (ae n.aa i) i e=true/\(e.op=4->e.n∉cC n i k):=by
 unfold dS r68
 rw [he,hset,h0,lP]
 generalize ae n.aa i=s
 simp only [show ((2:Int) !=3)=true from rfl,show ((2:Int)==0)=false from rfl,show ((2:Int)==1)=false from rfl,show ((2:Int)==2)=true from rfl,show ((2:Int)==4)=false from rfl,show ((2:Int)==5)=false from rfl,show ((2:Int)==6)=false from rfl,show ((2:Int)==7)=false from rfl,show decide ((2:Int)<0)=false from rfl,show decide (IntKind.wrap IntKind.i64 2>=8)=false from rfl,cond_true,cond_false,Bool.or_eq_false_iff,Bool.and_eq_true,Bool.not_eq_true',Bool.not_eq_false',Bool.not_not,I9,jV,r79,np,decide_eq_false_iff_not,List.length_map,bne_eq_false_iff_eq,beq_iff_eq]
 grind
theorem ed3 (n:Net) (i k:Nat) (e:Edge) (he:ae (ae n.aa i).ai k=e) (hset:r64 e.set=r91 e.set) (h0:e.op=3):dS n i k=false↔r68 n (ae n.aa i) i e=true/\(e.op=4->e.n∉cC n i k):=by
 unfold dS r68
 rw [he,hset,h0,lP]
 generalize ae n.aa i=s
 simp only [show ((3:Int) !=3)=false from rfl,show ((3:Int)==0)=false from rfl,show ((3:Int)==1)=false from rfl,show ((3:Int)==2)=false from rfl,show ((3:Int)==4)=false from rfl,show ((3:Int)==5)=false from rfl,show ((3:Int)==6)=false from rfl,show ((3:Int)==7)=false from rfl,show decide ((3:Int)<0)=false from rfl,show decide (IntKind.wrap IntKind.i64 3>=8)=false from rfl,cond_true,cond_false,Bool.or_eq_false_iff,Bool.and_eq_true,Bool.not_eq_true',Bool.not_eq_false',Bool.not_not,I9,jV,r80,np,decide_eq_false_iff_not,List.length_map,bne_eq_false_iff_eq,beq_iff_eq]
 grind
theorem ed4 (n:Net) (i k:Nat) (e:Edge) (he:ae (ae n.aa i).ai k=e) (hset:r64 e.set=r91 e.set) (h0:e.op=4):dS n i k=false↔r68 n (ae n.aa i) i e=true/\(e.op=4->e.n∉cC n i k):=by
 unfold dS r68
 rw [he,hset,h0,lP]
 generalize ae n.aa i=s
 simp only [show ((4:Int) !=3)=true from rfl,show ((4:Int)==0)=false from rfl,show ((4:Int)==1)=false from rfl,show ((4:Int)==2)=false from rfl,show ((4:Int)==4)=true from rfl,show ((4:Int)==5)=false from rfl,show ((4:Int)==6)=false from rfl,show ((4:Int)==7)=false from rfl,show decide ((4:Int)<0)=false from rfl,show decide (IntKind.wrap IntKind.i64 4>=8)=false from rfl,cond_true,cond_false,Bool.or_eq_false_iff,Bool.and_eq_true,Bool.not_eq_true',Bool.not_eq_false',Bool.not_not,I9,jV,r83,np,decide_eq_false_iff_not,List.length_map,bne_eq_false_iff_eq,beq_iff_eq]
 grind
theorem ed5 (n:Net) (i k:Nat) (e:Edge) (he:ae (ae n.aa i).ai k=e) (hset:r64 e.set=r91 e.set) (h0:e.op=5):dS n i k=false↔r68 n (ae n.aa i) i e=true/\(e.op=4->e.n∉cC n i k):=by
 unfold dS r68
 rw [he,hset,h0,lP]
 generalize ae n.aa i=s
 simp only [show ((5:Int) !=3)=true from rfl,show ((5:Int)==0)=false from rfl,show ((5:Int)==1)=false from rfl,show ((5:Int)==2)=false from rfl,show ((5:Int)==4)=false from rfl,show ((5:Int)==5)=true from rfl,show ((5:Int)==6)=false from rfl,show ((5:Int)==7)=false from rfl,show decide ((5:Int)<0)=false from rfl,show decide (IntKind.wrap IntKind.i64 5>=8)=false from rfl,cond_true,cond_false,Bool.or_eq_false_iff,Bool.and_eq_true,Bool.not_eq_true',Bool.not_eq_false',Bool.not_not,I9,jV,r84,np,decide_eq_false_iff_not,List.length_map,bne_eq_false_iff_eq,beq_iff_eq]
 grind
theorem ed6 (n:Net) (i k:Nat) (e:Edge) (he:ae (ae n.aa i).ai k=e) (hset:r64 e.set=r91 e.set) (h0:e.op=6):dS n i k=false↔r68 n (ae n.aa i) i e=true/\(e.op=4->e.n∉cC n i k):=by
 unfold dS r68
 rw [he,hset,h0,lP]
 generalize ae n.aa i=s
 simp only [show ((6:Int) !=3)=true from rfl,show ((6:Int)==0)=false from rfl,show ((6:Int)==1)=false from rfl,show ((6:Int)==2)=false from rfl,show ((6:Int)==4)=false from rfl,show ((6:Int)==5)=false from rfl,show ((6:Int)==6)=true from rfl,show ((6:Int)==7)=false from rfl,show decide ((6:Int)<0)=false from rfl,show decide (IntKind.wrap IntKind.i64 6>=8)=false from rfl,cond_true,cond_false,Bool.or_eq_false_iff,Bool.and_eq_true,Bool.not_eq_true',Bool.not_eq_false',Bool.not_not,I9,jV,r85,np,decide_eq_false_iff_not,List.length_map,bne_eq_false_iff_eq,beq_iff_eq]
 grind
theorem OV (n:Net) (s:State) (i:Int) (e:Edge):wo n s i e=e.ea.any fun a=> !(r89 n a):=
 je (fun a=> !(r95 n a)) e.ea
theorem ed7 (n:Net) (i k:Nat) (e:Edge) (he:ae (ae n.aa i).ai k=e) (hset:r64 e.set=r91 e.set) (h0:e.op=7):dS n i k=false↔r68 n (ae n.aa i) i e=true/\(e.op=4->e.n∉cC n i k):=by
 unfold dS r68
 rw [he,hset,h0,lP,OV]
 generalize ae n.aa i=s
 simp only [show ((7:Int) !=3)=true from rfl,show ((7:Int)==0)=false from rfl,show ((7:Int)==1)=false from rfl,show ((7:Int)==2)=false from rfl,show ((7:Int)==4)=false from rfl,show ((7:Int)==5)=false from rfl,show ((7:Int)==6)=false from rfl,show ((7:Int)==7)=true from rfl,show decide ((7:Int)<0)=false from rfl,show decide (IntKind.wrap IntKind.i64 7>=8)=false from rfl,cond_true,cond_false,Bool.or_eq_false_iff,Bool.and_eq_true,Bool.not_eq_true',Bool.not_eq_false',Bool.not_not,I9,jV,r86,np,decide_eq_false_iff_not,List.length_map,bne_eq_false_iff_eq,beq_iff_eq]
 generalize (e.ea.any fun a=> !(r89 n a))=b
 grind
theorem edX (n:Net) (i k:Nat) (e:Edge) (he:ae (ae n.aa i).ai k=e) (h8: -128<=e.op/\e.op<=127) (h0:e.op<0\/8<=e.op):dS n i k=false↔r68 n (ae n.aa i) i e=true/\(e.op=4->e.n∉cC n i k):=by
 have hw:IntKind.wrap IntKind.i64 e.op=e.op:=wrap_i64 oab oab
 have ne: ∀j:Int,0<=j->j<8->(e.op==j)=false:=fun j h1 h2=>beq_eq_false_iff_ne.2 oab
 constructor
 ·intro h
  unfold dS at h
  rw [he,hw] at h
  simp only [Bool.or_eq_false_iff,decide_eq_false_iff_not] at h
  have:=h.2.2.1
  have:=h.2.2.2.1
  omega
 ·rintro ⟨h,_⟩
  unfold r68 at h
  simp only [ne 0 oab oab,ne 1 oab oab,ne 2 oab oab,ne 4 oab oab,ne 5 oab oab,ne 6 oab oab,ne 7 oab oab,show (e.op !=3)=true from by simp [bne,ne 3 oab oab],cond_true,cond_false,Bool.or_self,Bool.and_false] at h
  cases h
structure jB (n:Net):Prop where
 op: ∀s∈n.aa,∀e∈s.ai,-128<=e.op/\e.op<=127
 set: ∀s∈n.aa,∀e∈s.ai,∀r∈e.set,vQ r.1/\vQ r.2
theorem Wy {n:Net} (hx:jB n) {i k:Nat} (hi:i<n.aa.length) (hk:k<(ae n.aa i).ai.length):dS n i k=false↔r68 n (ae n.aa i) i (ae (ae n.aa i).ai k)=true/\((ae (ae n.aa i).ai k).op=4->(ae (ae n.aa i).ai k).n∉cC n i k):=by
 have h8:=hx.op _ (ay hi) _ (ay hk)
 have hs:=aan (hx.set _ (ay hi) _ (ay hk))
 by_cases h:(ae (ae n.aa i).ai k).op<0\/8<=(ae (ae n.aa i).ai k).op
 ·exact edX n i k _ rfl h8 h
 ·have:(ae (ae n.aa i).ai k).op=0\/(ae (ae n.aa i).ai k).op=1\/(ae (ae n.aa i).ai k).op=2\/(ae (ae n.aa i).ai k).op=3\/(ae (ae n.aa i).ai k).op=4\/(ae (ae n.aa i).ai k).op=5\/(ae (ae n.aa i).ai k).op=6\/(ae (ae n.aa i).ai k).op=7:=by omega
  rcases this with h|h|h|h|h|h|h|h
  ·exact ed0 n i k _ rfl hs h
  ·exact ed1 n i k _ rfl hs h
  ·exact ed2 n i k _ rfl hs h
  ·exact ed3 n i k _ rfl hs h
  ·exact ed4 n i k _ rfl hs h
  ·exact ed5 n i k _ rfl hs h
  ·exact ed6 n i k _ rfl hs h
  ·exact ed7 n i k _ rfl hs h
theorem st_eq {n:Net} (hx:jB n) {i:Nat} (hi:i<n.aa.length):ik n i=ij n i:=by
 have h:ik n i=false↔ij n i=false:=by
  unfold ik ij
  rw [bL,bL]
  refine forall_congr' fun k=>imp_congr_right fun hk=> ?_
  have h4:rz n i k=false↔((ae (ae n.aa i).ai k).op=4->(ae (ae n.aa i).ai k).n∉cC n i k):=by
   unfold rz
   rw [bL,Ug]
   constructor
   ·rintro h ho ⟨j,hj,e⟩
    have:=h j hj
    unfold mQ at this
    rw [ho,e] at this
    simp at this
   ·intro h j hj
    unfold mQ
    cases ho:(ae (ae n.aa i).ai k).op==4 with
    |false=>rfl
    |true=>
     rw [Bool.true_and]
     exact beq_eq_false_iff_ne.2 fun e=>h (eq_of_beq ho) ⟨j,hj,e.symm⟩
  show dS n i k=false↔_
  rw [Wy hx hi hk,<-h4]
  unfold mR
  rw [Bool.or_eq_false_iff,Bool.not_eq_false']
 cases e1:ij n i with
 |false=>exact h.2 e1
 |true=>
  cases e2:ik n i with
  |true=>rfl
  |false=>rw [h.1 e2] at e1;cases e1
theorem aap {n:Net} (hx:jB n):r28 n=r33 n:=by
 have key: ∀i,i<n.aa.length->lW n i=kL n i:=fun i hi=>by
  unfold lW kL
  rw [st_eq hx hi]
 show (!cX n.aa.length (lW n))= !cX n.aa.length (kL n)
 congr 1
 cases e1:cX n.aa.length (kL n) with
 |false=>exact bL.2 fun i hi=>(key i hi).trans (bL.1 e1 i hi)
 |true=>
  obtain ⟨i,hi,h⟩:=ee.1 e1
  exact ee.2 ⟨i,hi,(key i hi).trans h⟩
theorem LF {n:Net} (hx:jB n):r10 n=r11 n:=by
 unfold r10 r11
 rw [Uf,aao,aap hx]
 cases h1:r31 n with
 |false=>rfl
 |true=>
  cases h2:r32 n with
  |false=>rfl
  |true=>
   cases h3:r33 n with
   |false=>rfl
   |true=>
    have hn:=K6 h2 h3
    have ho:=T5 h2 h3
    have he:=MW hn ho.ne
    rw [aaj hn ho,LB he,Wv hn he,Ww hn ho.aI (lexOf h3)]
    simp only [Bool.not_true,Bool.not_not,cond_false]
theorem LG {n:Net} (h:((r11 n) !=0)=false):bt n:=by
 have h:r11 n=0:=by simpa using h
 unfold r11 at h
 cases h1:r31 n with
 |false=>rw [h1] at h;cases h
 |true=>
  cases h2:r32 n with
  |false=>rw [h1,h2] at h;cases h
  |true=>
   cases h3:r33 n with
   |false=>rw [h1,h2,h3] at h;cases h
   |true=>exact K6 h2 h3
theorem aaq {n:Net} (hx:jB n) (h:((r10 n) !=0)=false):bt n:=LG (by rw [<-LF hx];exact h)
def i11 (n:Net):cc:=⟨11,[gL n],I (r11 n),bp n⟩
theorem g11 (n:Net):(i11 n).b7 pg:=fun hp=>⟨ML n hp,by simp [i11,ah,AV.pure],by simp [i11,AV.pure,ah]⟩
def i10 (n:Net):cc:=⟨10,[gL n],I (r10 n),bp n⟩
theorem g10 (n:Net):(i10 n).b7 pg:=fun hp=>⟨u7 n hp,by simp [i10,ah,AV.pure],by simp [i10,AV.pure,ah]⟩
def i24x (n:Net):cc:=⟨24,[.pf (aW n)],.sl 1 ((r24 n).map aA),bt n/\bp n⟩
theorem g24x (n:Net):(i24x n).b7 pg:=fun hp=>⟨ow n hp.1 hp.2,by simp [i24x,ah,AV.pure],by simp [i24x,AV.pure,ah]⟩
def r8 (n:Net):AV:=(bif (r10 n) !=0 then .v (.slice none 0 0) else .sl 1 (map aA (r24 n)))
abbrev zBk:GT:=(.r [.int 1,bT] .nil)
theorem aar (n:Net) (hf:bp n) (hx:jB n):bg pg 8 [.ag (aW n)] [] [] (r8 n) []:=
 bD (fn:=Tryz.f8) (callf:=(bI [i10 n,i24x n] base)) (pu:=aK) (lf:=3000) (l:=[]) (t:=(.r [bT] (.r [.int 0,.k,bT] (.br zF zBk)))) (bo (.cons (g10 n) rfl (.cons (g24x n) rfl cr.nil)) aw) mixed Tryz.func8 oaa (show Tryz.f8.body=some (aH 8) by kernel_rfl) (Nat.le_of_ble_eq_true rfl) (az _) (by unfold r8;cases (r10 n) !=0<;>simp [AV.und,dj bR]) (bc
 (an a0
 (an (a1 (cA (g10 n) hf a0))
 (brP (fun (h0:((r10 n) !=0)=true)=>
 (an a0
 (vE (show r8 n=(.v (.slice none 0 0)) from (cdT h0 rfl))))) (fun h0=>
 (an (cA (g24x n) ⟨aaq hx h0,hf⟩ a0)
 (vE (show r8 n=(.sl 1 (map aA (r24 n))) from (cdF h0 rfl))))))))
 oaa)
end Go.Proofs.YtfkjfjalecikkaaGreatDoor
namespace Go.Am
open Go.ChangeShapes Go.WideShapes Go.RowKit
def va (W W' :World):Prop:=W'.os=W.os/\W'.output=W.output/\W.heap.size<=W'.heap.size/\ ∀i,i<W.heap.size->W'.heap[i]? =W.heap[i]?
theorem va.frame {W W' :World} (h:va W W') (may:MemPlace->Prop):W.keptBut W' may:=by
 obtain ⟨h1,h2,h3,h4⟩:=h
 refine ⟨h1,h2,fun i hi=> ?_⟩
 rw [h4 i hi]
 split
 ·rename_i c t fr c' t' fr' e1 e2
  rw [e1] at e2;cases e2
  exact ⟨rfl,rfl,rfl,fun _ _=>rfl⟩
 ·rename_i es cl es' cl' e1 e2
  rw [e1] at e2;cases e2
  exact .inr ⟨rfl,rfl⟩
 ·rfl
theorem va.frozen {W W' :World} (h:va W W') (a:Addr) (ha:a.block<W.heap.size):W'.frozen? a=W.frozen? a:=by
 simp only [World.frozen?,h.2.2.2 a.block ha]
def sn (W:World) (h: ∀a x,B3 a=some x->W.cell? a=some x):Mem:=⟨fun a=>W.cell? a,h⟩
theorem OW (W:World) (hW: ∀a x,B3 a=some x->W.cell? a=some x):Inv (sn W hW) (fun _=>none) [] W:=
 ⟨fun _ _ h=>h,fun o X h=>by simp at h,fun o o' b C C' h=>by obtain ⟨X,h,_⟩:=h;simp at h,fun o b C h=>by simp at h,fun o h=>by simp at h⟩
theorem Cp {P:Program} {f:FuncId} {args:List AV} {r:Value} (h:bg P f args [] [] (.v r) []) (W:World) (hW: ∀a x,B3 a=some x->W.cell? a=some x) {vs:List Value} (hv:aB (sn W hW) (fun _=>none) args vs):
  Calls P f vs.toArray W fun e W' =>e= .returned r/\va W W' :=by
 refine (h.2 _ _ W vs (OW W hW) hv).mono fun e W' ⟨m',γ',r',ob',⟨h1,h2⟩,h3,h4,_,_⟩=> ?_
 subst h1
 have hn: ∀k,¬InG (fun _=>none:Gam) k:=fun k ⟨o,C,hk⟩=>by simp at hk
 refine ⟨?_,h4.os,h4.output,h4.size,fun i hi=>h4.blk i hi (hn i)⟩
 cases e with
 |returned v=>simp only [mg,Rep] at h3;rw [h3]
 |panicked c=>exact h3.elim
 |outgrown=>exact h3.elim
section
variable {H:Type} {enc:TypeId×Value->H} {P:Program}
theorem GQ {f:Func} {s:ChangeSpec} {apart fresh handsOn again:Bool} {W W' :World} {args:Array Value} {v:Value} {ds gs:List (DataW H)} {before pa pv:List MemPlace}
  (hW:DataW.Whole enc P f.params.toList s.vars apart W args.toList ds gs before)
  (hres: ∀(b:Nat) (sp:Nat->Bool) (hd:Bool),DataW.TrodAll enc P W' b sp hd f.resultTypes.toList (v.resultList f.resultTypes.size) (s.fn H (ds++gs)).results [])
  (hargs: ∀sp:Nat->Bool,(∀p∈before,sp p.block=true)->DataW.TrodAll enc P W' 0 sp true f.params.toList args.toList (s.fn H (ds++gs)).args pa)
  (hvars: ∀sp:Nat->Bool,(∀p∈before,sp p.block=true)->DataW.TrodVars enc P W' sp s.vars (s.fn H (ds++gs)).vars pv)
  (hps:before=pa++pv) (hk:va W W')
  (hok: ∀(j:Nat) (t:TypeId) (r:Value),f.resultTypes[j]? =some t->(v.resultList f.resultTypes.size)[j]? =some r->Value.okWide P W' .any 0 t r):
  s.post enc P f apart fresh handsOn again W args v W' :=by
 have hlt:=hW.lt
 have hold: ∀p∈before,(fun b=>decide (b<W.heap.size)) p.block=true:=fun p hp=>by simpa using hlt p hp
 refine ⟨ds,gs,before,[],pa,pv,hW,hres _ _ _,hargs _ hold,hvars _ hold,hk.frame _,fun _=> ?_⟩
 ·obtain ⟨_,_,_,_,_,hz,hn⟩:=hW
  refine ⟨hok,_,_,([]++pa)++pv,⟨[]++pa,pv,trodAll_append (hargs _ (fun _ _=>rfl)) (hres _ _ _),hvars _ (fun _ _=>rfl),rfl,?_,?_⟩,?_⟩
  ·intro b off hp
   have hp' :MemPlace.cell b off∈before:=by rw [hps];simpa using hp
   rw [hk.frozen _ (by simpa [MemPlace.block] using hlt _ hp')]
   exact hz b off hp'
  ·intro ha
   have:=hn ha
   rw [hps] at this
   simpa using this
  ·intro p hp _
   rw [hps]
   simpa using hp
def MZ (P:Program):Bool:=(range P.types.size).all fun t=>
 match P.underlying t with
 |some (.pointer e)=>decide (e<P.types.size)
 |some (.slice e)=>decide (e<P.types.size)&&decide (0<P.cellsOf e)
 |some (.array n e)=>decide (e<P.types.size)&&decide (P.cellsOf t=n*P.cellsOf e)
 |some (.struct fs)=>(fs.toList.all fun f=>decide (f.type<P.types.size))&&decide (P.cellsOf t=(fs.toList.map fun f=>P.cellsOf f.type).sum)&&
   (range fs.toList.length).all fun j=>(fs.toList[j]?).all fun f=>decide (f.offset=((fs.toList.take j).map fun f=>P.cellsOf f.type).sum)
 |some (.map _ e)=>decide (e<P.types.size)
 |_=>true
theorem M4 {P:Program} (h:MZ P=true):Kids P (fun t=>t<P.types.size)/\ ∀t e,t<P.types.size->P.underlying t=some (.slice e)->0<P.cellsOf e:=by
 have look: ∀t,t<P.types.size->_:=fun t ht=>List.all_eq_true.1 h t (List.mem_range.2 ht)
 refine ⟨⟨fun {t e} ht hu=> ?_,fun {t e} ht hu=> ?_,fun {t e n} ht hu=> ?_,fun {t fs} ht hu=> ?_,fun {t k e} ht hu=> ?_⟩,fun t e ht hu=> ?_⟩
 ·have:=look t ht;rw [hu] at this;simpa using this
 ·have:=look t ht;rw [hu] at this;simp only [Bool.and_eq_true,decide_eq_true_eq] at this;exact this.1
 ·have:=look t ht;rw [hu] at this;simpa only [Bool.and_eq_true,decide_eq_true_eq] using this
 ·have:=look t ht;rw [hu] at this
  simp only [Bool.and_eq_true,decide_eq_true_eq,List.all_eq_true,List.mem_range] at this
  obtain ⟨⟨h1,h2⟩,h3⟩:=this
  refine ⟨h1,h2,fun j f hj=> ?_⟩
  obtain ⟨hlt,_⟩:=List.getElem?_eq_some_iff.1 hj
  have:=h3 j hlt
  rw [hj] at this
  simpa using this
 ·have:=look t ht;rw [hu] at this;simpa using this
 ·have:=look t ht;rw [hu] at this;simp only [Bool.and_eq_true,decide_eq_true_eq] at this;exact this.2
theorem so (hP:MZ P=true) {W W' :World} (hk:va W W'): ∀{ts:List TypeId} {vs:List Value} {ds:List (DataW H)} {ps:List MemPlace},(∀t∈ts,t<P.types.size)->
  DataW.TrodAll enc P W 0 (fun _=>true) true ts vs ds ps->(∀p∈ps,p.block<W.heap.size)-> ∀sp:Nat->Bool,(∀p∈ps,sp p.block=true)->DataW.TrodAll enc P W' 0 sp true ts vs ds ps
 |[],_,_,_,_,h,_,_,_=>by
  obtain ⟨rfl,rfl,rfl⟩:=trodAll_nil h
  exact trodAll_mk0
 |t::ts,_,_,_,hts,h,hlt,sp,hsp=>by
  obtain ⟨v,vs1,d,ds1,p,q,rfl,rfl,rfl,⟨n,h1⟩,h2⟩:=trodAll_cons h
  have hc:=DataW.trod_carry (w' :=W') n t _ _ h1 (fun x hx=>by
   have hb:=hlt x (List.mem_append_left _ hx)
   cases x with
   |cell b off=>show W'.cell? _=W.cell? _;simp only [World.cell?,hk.2.2.2 b hb]
   |map b=>exact hk.2.2.2 b hb)
  exact trodAll_cons_mk ⟨n,DataW.trod_respare (M4 hP).1 (M4 hP).2 n t _ _ (hts t (List.mem_cons_self ..)) hc (fun x hx=>hsp x (List.mem_append_left _ hx))⟩
   (so hP hk (fun u hu=>hts u (List.mem_cons_of_mem _ hu)) h2 (fun x hx=>hlt x (List.mem_append_right _ hx)) sp (fun x hx=>hsp x (List.mem_append_right _ hx)))
theorem OX {f:Func} {s:ChangeSpec} {apart fresh handsOn again:Bool} {W W' :World} {args:Array Value} {ds gs:List (DataW H)} {before:List MemPlace} {tb:TypeId}
  (hW:DataW.Whole enc P f.params.toList s.vars apart W args.toList ds gs before) (hk:va W W') (hP:MZ P=true) (hts:f.params.toList.all (fun t=>decide (t<P.types.size))=true)
  (hv:s.vars=[]) (hr:f.resultTypes= #[tb]) (hb:P.underlying tb=some .bool)
  (h1:(s.fn H ds).results=[.lit (.bool true)]) (h2:(s.fn H ds).args=ds) (h3:(s.fn H ds).vars=[]):
  s.post enc P f apart fresh handsOn again W args (.bool true) W' :=by
 have hW' :=hW
 have hlt:=hW.lt
 obtain ⟨p,q,hA,hV,rfl,_,_⟩:=hW
 rw [hv] at hV
 obtain ⟨rfl,rfl⟩:=trodVars_none hV
 have hts' : ∀t∈f.params.toList,t<P.types.size:=fun t ht=>by simpa using List.all_eq_true.1 hts t ht
 refine GQ (pa:=p) (pv:=[]) hW' ?_ ?_ ?_ rfl hk ?_
 ·intro b sp hd
  rw [hr]
  simp only [List.append_nil,h1]
  exact trodAll_cons_mk (shut_bool hb _) trodAll_mk0
 ·intro sp hsp
  simp only [List.append_nil,h2]
  exact so hP hk hts' hA (fun x hx=>hlt x (by simpa using hx)) sp (fun x hx=>hsp x (by simpa using hx))
 ·intro sp hsp
  rw [hv]
  simp only [List.append_nil,h3]
  rfl
 ·exact ok_one (by rw [hr]) rfl (okWide_bool_mk hb _)
end
end Go.Am
namespace Go.Proofs.YtfkjfjalecikkaaGreatDoor
open Go.ChangeShapes Go.WideShapes Go.ChangeAt Go.RowKit Go.Am
section
variable {P:Program} {H:Type} {enc:TypeId×Value->H} {W:World} {hW: ∀a x,B3 a=some x->W.cell? a=some x} {base:Nat} {v:Value} {d:DataW H} {p:List MemPlace} {α β:Type}
theorem OY {a:Addr} {n:Nat} {cs:List Value} (h:W.cells? 0 a n=some cs):cs.length=n/\ ∀j,j<n->W.cell? (a.add j)=cs[j]? :=by
 simp only [World.cells?,Nat.zero_le,if_true] at h
 exact ⟨by simpa using mapM_some_length h,fun j hj=>mapM_some_get h j j (by simp [hj])⟩
theorem Wz {f:α->List AV} {S:Nat} {Q:α->Prop} {a:Addr} {len cap:Nat} (hlc:len<=cap) (hS:0<S) (hf: ∀x,(f x).length=S)
  (each: ∀i,i<len-> ∃(x:α) (cs:List Value),Q x/\aB (sn W hW) (fun _=>none) (f x) cs/\cs.length=S/\ ∀j,j<S->W.cell? ((a.add (i*S)).add j)=cs[j]?):
  ∃l:List α,l.length=len/\(∀x∈l,Q x)/\Rep (sn W hW) (fun _=>none) (.sl S (l.map f)) (.slice (some a) len cap):=by
 have hall: ∀k,k<=len-> ∃l:List α,l.length=k/\(∀x∈l,Q x)/\ ∀i x,l[i]? =some x-> ∃cs:List Value,aB (sn W hW) (fun _=>none) (f x) cs/\cs.length=S/\ ∀j,j<S->W.cell? ((a.add (i*S)).add j)=cs[j]? :=by
  intro k
  induction k with
  |zero=>intro _;exact ⟨[],rfl,by simp,by simp⟩
  |succ k ih=>
   intro hk
   obtain ⟨l,h1,h2,h3⟩:=ih oab
   obtain ⟨x,cs,hq,hx⟩:=each k oab
   refine ⟨l++ [x],by simp [h1],fun y hy=> ?_,fun i u hu=> ?_⟩
   ·rcases List.mem_append.1 hy with hy|hy
    ·exact h2 y hy
    ·simp at hy;subst hy;exact hq
   ·by_cases hi:i<l.length
    ·rw [List.getElem?_append_left hi] at hu;exact h3 i u hu
    ·rw [List.getElem?_append_right oab] at hu
     have hil:i=l.length:=by
      have:=(List.getElem?_eq_some_iff.1 hu).1
      simp at this;omega
     subst hil
     simp at hu
     subst hu
     rw [h1];exact ⟨cs,hx⟩
 obtain ⟨l,hll,hq,hlc2⟩:=hall len (Nat.le_refl _)
 refine ⟨l,hll,hq,?_⟩
 simp only [Rep]
 refine ⟨some a,len,cap,rfl,by simp;omega,hlc,?_⟩
 by_cases h0:len=0
 ·left
  have:l=[]:=List.eq_nil_of_length_eq_zero oab
  rw [this];rfl
 ·right
  obtain ⟨x0,hx0⟩: ∃x,l[0]? =some x:=⟨_,List.getElem?_eq_getElem oab⟩
  obtain ⟨cs0,hr0,hl0,hc0⟩:=hlc2 0 x0 hx0
  obtain ⟨ab,ao,spot⟩:=a
  have hspot:spot=none:=by
   have h1:=hc0 0 hS
   rw [List.getElem?_eq_getElem oab] at h1
   simpa [Addr.add] using World.cell?_spot h1
  subst hspot
  refine ⟨ab,ao,rfl,gp fun i r hr=> ?_⟩
  rw [List.getElem?_map] at hr
  cases hti:l[i]? with
  |none=>rw [hti] at hr;cases hr
  |some x=>
   rw [hti] at hr
   simp only [Option.map_some,Option.some.injEq] at hr
   subst hr
   obtain ⟨cs,h1,h2,h3⟩:=hlc2 i x hti
   refine ⟨hf x,ed fun j c hcj=> ?_⟩
   have hj:j<S:=by have:=(List.getElem?_eq_some_iff.1 hcj).1;rw [hf] at this;exact this
   obtain ⟨y,hy,hry⟩:=b5 h1 j c hcj
   have:=h3 j hj
   rw [Addr.add_lit,Addr.add_lit,hy] at this
   exact ⟨y,this,hry⟩
def Rd (P:Program) (enc:TypeId×Value->H) (W:World) (hW: ∀a x,B3 a=some x->W.cell? a=some x) (n:Nat) (f:α->List AV) (Q:α->Prop) (T:TypeId):Prop:=
 ∀cs x,DataW.trod enc P W 0 (fun _=>true) true n T cs=some x->(∀w∈x.1.weights P T,w<=reachBytes)-> ∃a,Q a/\aB (sn W hW) (fun _=>none) (f a) cs
theorem nq {e:TypeId}: ∀{l:List (DataW H)} {y:DataW H},y∈l-> ∀w∈y.weights P e,w∈DataW.weightsAll P e l
 |z::l,y,hy,w,hw=>by
  simp only [DataW.weightsAll,List.mem_append]
  rcases List.mem_cons.1 hy with rfl|hy
  ·exact .inl hw
  ·exact .inr (nq hy w hw)
theorem iM: ∀{ts:List TypeId} {l:List (DataW H)} {i:Nat} {t:TypeId} {y:DataW H},ts[i]? =some t->l[i]? =some y-> ∀w∈y.weights P t,w∈DataW.weightsEach P ts l
 |t::ts,z::l,0,_,_,ht,hy,w,hw=>by simp at ht hy;subst ht;subst hy;simp only [DataW.weightsEach,List.mem_append];exact .inl hw
 |t::ts,z::l,i+1,_,_,ht,hy,w,hw=>by simp only [DataW.weightsEach,List.mem_append];exact .inr (iM (i:=i) (by simpa using ht) (by simpa using hy) w hw)
 |[],_,_,_,_,ht,_,_,_=>by simp at ht
 |_::_,[],_,_,_,_,hy,_,_=>by simp at hy
theorem fY {n:Nat} {T:TypeId} {k:IntKind} (ht:P.underlying T=some (.int k)):Rd P enc W hW n (fun z=>[.v (.int k z)]) (fun z=>(Lit.int k z).wf=true) T:=fun cs x h _=>by
 obtain ⟨z,rfl,_,hz⟩:=DataW.trod_int ht h
 exact ⟨z,hz,by simp [aB,Rep]⟩
theorem wH {n:Nat} {T:TypeId} (ht:P.underlying T=some .bool):Rd P enc W hW n (fun b=>[B b]) (fun _=>True) T:=fun cs x h _=>by
 obtain ⟨z,rfl,_⟩:=DataW.trod_bool ht h
 exact ⟨z,trivial,by simp [aB,Rep]⟩
theorem BN {n:Nat} {T:TypeId} (ht:P.underlying T=some .string):Rd P enc W hW n bH (fun s=>s.size<=9223372036854775807) T:=fun cs x h _=>by
 obtain ⟨z,rfl,_,hz⟩:=DataW.trod_string ht h
 exact ⟨z,hz,by simp [bH,aB,Rep]⟩
theorem lQ {n:Nat} {f:α->List AV} {Q:α->Prop} {T e:TypeId} {S by' :Nat} (ht:P.underlying T=some (.slice e)) (hc:P.cellsOf e=S) (hb:P.bytesOf e=by') (hS:0<S) (hf: ∀x,(f x).length=S) (hr: ∀m,m<n->Rd P enc W hW m f Q e):
  Rd P enc W hW n (fun (l:List α)=>[.sl S (l.map f)]) (fun (l:List α)=>l.length<=9223372036854775807/\l.length*by' <=140737488351232/\ ∀x∈l,Q x) T:=fun cs x h hw=>by
 rcases DataW.trod_slice ht h with ⟨hcs,_⟩|⟨a,len,cap,elems,rest,m,hm,hcs,hx,_,hl,hmx,hlen,hel,_,_⟩
 ·subst hcs
  exact ⟨[],by simp,by simp only [aB,List.map_nil];exact ⟨_,_,rfl,by simp only [Rep];exact ⟨none,0,0,rfl,rfl,Nat.le_refl _,.inl trivial⟩,rfl⟩⟩
 ·subst hcs hx
  simp only [DataW.weights,ht,List.mem_cons,List.mem_append] at hw
  have h0:=hw _ (.inl rfl)
  simp only [List.length_map,hlen] at h0
  obtain ⟨l,h1,h2,h3⟩:=Wz (S:=S) (f:=f) (Q:=Q) (hW:=hW) (a:=a) hl hS hf fun i hi=>by
   have h1:=hel i hi
   rw [hc,List.getElem?_eq_getElem oab] at h1
   simp only [Option.bind_eq_some_iff] at h1
   obtain ⟨cs,h2,h3⟩:=h1
   obtain ⟨hcl,hcell⟩:=OY h2
   obtain ⟨z,q1,q2⟩:=hr m oab cs _ h3 fun w hw' =>hw w (.inr (.inl (nq (List.mem_map_of_mem (List.getElem_mem _)) w hw')))
   exact ⟨z,cs,q1,q2,hcl,hcell⟩
  have:cap<=9223372036854775807:=hmx
  have h5:len*by' <=140737488351232:=by
   rw [hb,Nat.add_mul] at h0
   have:reachBytes=140737488351232:=rfl
   omega
  refine ⟨l,⟨by omega,by rw [h1];exact h5,h2⟩,?_⟩
  simp only [aB]
  exact ⟨_,_,rfl,h3,rfl⟩
theorem xb {n:Nat} {T:TypeId} {fs:Array Field} {cs:List Value} {x:DataW H×List MemPlace} (ht:P.underlying T=some (.struct fs)) (h:DataW.trod enc P W 0 (fun _=>true) true n T cs=some x) (hw: ∀w∈x.1.weights P T,w<=reachBytes):
  ∃m,m<n/\cs.length=P.cellsOf T/\ ∀(i:Nat) (fd:Field),fs[i]? =some fd-> ∃y,DataW.trod enc P W 0 (fun _=>true) true m fd.type ((cs.drop fd.offset).take (P.cellsOf fd.type))=some y/\ ∀w∈y.1.weights P fd.type,w<=reachBytes:=by
 obtain ⟨ys,m,hm,hx,hl,hys,hfl⟩:=DataW.trod_struct ht h
 subst hx
 refine ⟨m,by omega,hl,fun i fd hfd=> ?_⟩
 have hi:i<ys.length:=by rw [hys];exact (Array.getElem?_eq_some_iff.1 hfd).1
 have:=hfl i fd hfd
 rw [List.getElem?_eq_getElem hi] at this
 refine ⟨_,this,fun w hw' =>hw w ?_⟩
 simp only [DataW.weights,ht]
 exact iM (i:=i) (t:=fd.type) (by simp [hfd]) (by simp [hi]) w hw'
theorem fld {m:Nat} {f:α->List AV} {Q:α->Prop} {t:TypeId} {cs:List Value} {o s:Nat} {fd:Field} {y:DataW H×List MemPlace} (hr:Rd P enc W hW m f Q t) (ho:fd.offset=o) (hs:P.cellsOf fd.type=s) (hT:fd.type=t)
  (h:DataW.trod enc P W 0 (fun _=>true) true m fd.type ((cs.drop fd.offset).take (P.cellsOf fd.type))=some y) (hw: ∀w∈y.1.weights P fd.type,w<=reachBytes): ∃a,Q a/\aB (sn W hW) (fun _=>none) (f a) ((cs.drop o).take s):=by
 rw [ho,hs] at h
 rw [hT] at h hw
 exact hr _ _ h hw
theorem glue {m:Mem} {g:Gam} {l1 l2:List AV} {cs:List Value} {o s t:Nat} (h1:aB m g l1 ((cs.drop o).take s)) (h2:aB m g l2 ((cs.drop (o+s)).take t)):aB m g (l1++l2) ((cs.drop o).take (s+t)):=by
 rw [List.take_add,List.drop_drop]
 exact cE h1 h2
theorem whole {m:Mem} {g:Gam} {l:List AV} {cs:List Value} {s:Nat} (hs:cs.length=s) (h:aB m g l ((cs.drop 0).take s)):aB m g l cs:=by
 rwa [List.drop_zero,List.take_of_length_le oab] at h
end
section
variable {H:Type} {enc:TypeId×Value->H} {W:World} {hW: ∀a x,B3 a=some x->W.cell? a=some x}
theorem u2:Tryz.prog.underlying 2=some (.int .i64):=by kernel_rfl
theorem u3:Tryz.prog.underlying 3=some (.int .i64):=by kernel_rfl
theorem u4:Tryz.prog.underlying 4=some (.bool):=by kernel_rfl
theorem u9:Tryz.prog.underlying 9=some (.string):=by kernel_rfl
theorem u21:Tryz.prog.underlying 21=some (.int .i32):=by kernel_rfl
theorem u22:Tryz.prog.underlying 22=some (.slice 9):=by kernel_rfl
theorem u23:Tryz.prog.underlying 23=some (.slice 51):=by kernel_rfl
theorem u24:Tryz.prog.underlying 24=some (.slice 40):=by kernel_rfl
theorem u26:Tryz.prog.underlying 26=some (.struct #[⟨ "Types",22,0,false, "", "",0⟩,⟨ "Channels",22,1,false, "", "",24⟩,⟨ "Modes",22,2,false, "", "",48⟩,⟨ "Rules",23,3,false, "", "",72⟩,⟨ "States",24,4,false, "", "",96⟩]):=by kernel_rfl
theorem u38:Tryz.prog.underlying 38=some (.slice 49):=by kernel_rfl
theorem u40:Tryz.prog.underlying 40=some (.struct #[⟨ "Rule",3,0,false, "", "",0⟩,⟨ "Edges",38,1,false, "", "",8⟩]):=by kernel_rfl
theorem u41:Tryz.prog.underlying 41=some (.int .i8):=by kernel_rfl
theorem u43:Tryz.prog.underlying 43=some (.slice 89):=by kernel_rfl
theorem u44:Tryz.prog.underlying 44=some (.slice 46):=by kernel_rfl
theorem u46:Tryz.prog.underlying 46=some (.struct #[⟨ "Op",41,0,false, "", "",0⟩,⟨ "N",2,1,false, "", "",8⟩,⟨ "Name",9,2,false, "", "",16⟩,⟨ "Kids",44,3,false, "", "",32⟩]):=by kernel_rfl
theorem u47:Tryz.prog.underlying 47=some (.slice 92):=by kernel_rfl
theorem u49:Tryz.prog.underlying 49=some (.struct #[⟨ "Op",41,0,false, "", "",0⟩,⟨ "Set",43,1,false, "", "",8⟩,⟨ "N",3,2,false, "", "",32⟩,⟨ "Level",3,3,false, "", "",40⟩,⟨ "G",46,4,false, "", "",48⟩,⟨ "Acts",47,8,false, "", "",104⟩,⟨ "To",3,9,false, "", "",128⟩]):=by kernel_rfl
theorem u51:Tryz.prog.underlying 51=some (.struct #[⟨ "Name",9,0,false, "", "",0⟩,⟨ "Lexer",4,1,false, "", "",16⟩,⟨ "Frag",4,2,false, "", "",17⟩,⟨ "Lazy",4,3,false, "", "",18⟩,⟨ "Left",4,4,false, "", "",19⟩,⟨ "Mode",3,5,false, "", "",24⟩,⟨ "Type",3,6,false, "", "",32⟩,⟨ "Start",3,7,false, "", "",40⟩,⟨ "Stop",3,8,false, "", "",48⟩]):=by kernel_rfl
theorem u89:Tryz.prog.underlying 89=some (.struct #[⟨ "Lo",21,0,false, "", "",0⟩,⟨ "Hi",21,1,false, "", "",4⟩]):=by kernel_rfl
theorem u92:Tryz.prog.underlying 92=some (.struct #[⟨ "Op",41,0,false, "", "",0⟩,⟨ "N",3,1,false, "", "",8⟩]):=by kernel_rfl
theorem w32 {z:Int} (h:(Lit.int .i32 z).wf=true):vQ z:=by
 have h:IntKind.i32.min<=z/\z<=IntKind.i32.max:=by simpa [Lit.wf] using h
 rwa [show IntKind.i32.min= -2147483648 from rfl,show IntKind.i32.max=2147483647 from rfl] at h
theorem w8 {z:Int} (h:(Lit.int .i8 z).wf=true): -128<=z/\z<=127:=by
 have h:IntKind.i8.min<=z/\z<=IntKind.i8.max:=by simpa [Lit.wf] using h
 rwa [show IntKind.i8.min= -128 from rfl,show IntKind.i8.max=127 from rfl] at h
theorem aas: ∀g:G,(gC g).length=4
 | .mk .. =>by simp [gC]
theorem Ja: ∀{l:List G},(∀u∈l,eG u)->yf l
 |[],_=>by simp [yf]
 |a::l,h=>by simp only [yf];exact ⟨h a oai,Ja fun u hu=>h u (by simp [hu])⟩
structure Uh (e:Edge):Prop where
 fit:Ck e
 set: ∀r∈e.set,vQ r.1/\vQ r.2
structure gN (n:Net):Prop where
 types:n.types.length<=9223372036854775807
 mP:n.cu.length<=9223372036854775807
 cz:n.cz.length<=9223372036854775807
 rules:n.rules.length*56<=140737488351232
 aa:n.aa.length*32<=140737488351232
 ai: ∀s∈n.aa,s.ai.length*136<=140737488351232/\ ∀e∈s.ai,Uh e
theorem Ui {n:Nat}:Rd Tryz.prog enc W hW n bu (fun r=>vQ r.1/\vQ r.2) 89:=fun cs x h hw=>by
 obtain ⟨m,hm,hl,hf⟩:=xb u89 h hw
 obtain ⟨y0,h0,w0⟩:=hf 0 _ rfl
 obtain ⟨a0,q0,r0⟩:=fld (o:=0) (s:=1) (t:=21) (fY (u21)) rfl oaa rfl h0 w0
 obtain ⟨y1,h1,w1⟩:=hf 1 _ rfl
 obtain ⟨a1,q1,r1⟩:=fld (o:=1) (s:=1) (t:=21) (fY (u21)) rfl oaa rfl h1 w1
 have hl:cs.length=2:=hl.trans oaa
 exact ⟨(a0,a1),⟨w32 q0,w32 q1⟩,whole hl (glue r0 r1)⟩
theorem aat {n:Nat}:Rd Tryz.prog enc W hW n fk (fun _=>True) 92:=fun cs x h hw=>by
 obtain ⟨m,hm,hl,hf⟩:=xb u92 h hw
 obtain ⟨y0,h0,w0⟩:=hf 0 _ rfl
 obtain ⟨a0,q0,r0⟩:=fld (o:=0) (s:=1) (t:=41) (fY (u41)) rfl oaa rfl h0 w0
 obtain ⟨y1,h1,w1⟩:=hf 1 _ rfl
 obtain ⟨a1,q1,r1⟩:=fld (o:=1) (s:=1) (t:=3) (fY (u3)) rfl oaa rfl h1 w1
 have hl:cs.length=2:=hl.trans oaa
 exact ⟨(a0,a1),trivial,whole hl (glue r0 r1)⟩
theorem WA {n:Nat}:Rd Tryz.prog enc W hW n aE (fun _=>True) 51:=fun cs x h hw=>by
 obtain ⟨m,hm,hl,hf⟩:=xb u51 h hw
 obtain ⟨y0,h0,w0⟩:=hf 0 _ rfl
 obtain ⟨a0,q0,r0⟩:=fld (o:=0) (s:=1) (t:=9) (BN (u9)) rfl oaa rfl h0 w0
 obtain ⟨y1,h1,w1⟩:=hf 1 _ rfl
 obtain ⟨a1,q1,r1⟩:=fld (o:=1) (s:=1) (t:=4) (wH (u4)) rfl oaa rfl h1 w1
 obtain ⟨y2,h2,w2⟩:=hf 2 _ rfl
 obtain ⟨a2,q2,r2⟩:=fld (o:=2) (s:=1) (t:=4) (wH (u4)) rfl oaa rfl h2 w2
 obtain ⟨y3,h3,w3⟩:=hf 3 _ rfl
 obtain ⟨a3,q3,r3⟩:=fld (o:=3) (s:=1) (t:=4) (wH (u4)) rfl oaa rfl h3 w3
 obtain ⟨y4,h4,w4⟩:=hf 4 _ rfl
 obtain ⟨a4,q4,r4⟩:=fld (o:=4) (s:=1) (t:=4) (wH (u4)) rfl oaa rfl h4 w4
 obtain ⟨y5,h5,w5⟩:=hf 5 _ rfl
 obtain ⟨a5,q5,r5⟩:=fld (o:=5) (s:=1) (t:=3) (fY (u3)) rfl oaa rfl h5 w5
 obtain ⟨y6,h6,w6⟩:=hf 6 _ rfl
 obtain ⟨a6,q6,r6⟩:=fld (o:=6) (s:=1) (t:=3) (fY (u3)) rfl oaa rfl h6 w6
 obtain ⟨y7,h7,w7⟩:=hf 7 _ rfl
 obtain ⟨a7,q7,r7⟩:=fld (o:=7) (s:=1) (t:=3) (fY (u3)) rfl oaa rfl h7 w7
 obtain ⟨y8,h8,w8⟩:=hf 8 _ rfl
 obtain ⟨a8,q8,r8⟩:=fld (o:=8) (s:=1) (t:=3) (fY (u3)) rfl oaa rfl h8 w8
 have hl:cs.length=9:=hl.trans oaa
 exact ⟨⟨a0,a1,a2,a3,a4,a5,a6,a7,a8⟩,trivial,whole hl (glue (glue (glue (glue (glue (glue (glue (glue r0 r1) r2) r3) r4) r5) r6) r7) r8)⟩
theorem Uj: ∀{n:Nat},Rd Tryz.prog enc W hW n gC eG 46:=by
 intro n
 induction n using Nat.strongRecOn with
 |ind n ih=>
 intro cs x h hw
 obtain ⟨m,hm,hl,hf⟩:=xb u46 h hw
 obtain ⟨y0,h0,w0⟩:=hf 0 _ rfl
 obtain ⟨a0,q0,r0⟩:=fld (o:=0) (s:=1) (t:=41) (fY (u41)) rfl oaa rfl h0 w0
 obtain ⟨y1,h1,w1⟩:=hf 1 _ rfl
 obtain ⟨a1,q1,r1⟩:=fld (o:=1) (s:=1) (t:=2) (fY (u2)) rfl oaa rfl h1 w1
 obtain ⟨y2,h2,w2⟩:=hf 2 _ rfl
 obtain ⟨a2,q2,r2⟩:=fld (o:=2) (s:=1) (t:=9) (BN (u9)) rfl oaa rfl h2 w2
 obtain ⟨y3,h3,w3⟩:=hf 3 _ rfl
 obtain ⟨a3,q3,r3⟩:=fld (o:=3) (s:=1) (t:=44) (lQ (S:=4) (by' :=56) (u44) oaa oaa oab aas (fun k hk=>ih k oab)) rfl oaa rfl h3 w3
 have hl:cs.length=4:=hl.trans oaa
 refine ⟨.mk a0 a1 a2 a3,?_,?_⟩
 ·simp only [eG];exact ⟨w8 q0,q2,q3.1,Ja q3.2.2⟩
 ·simp only [gC,EP];exact whole hl (glue (glue (glue r0 r1) r2) r3)
theorem WB {n:Nat}:Rd Tryz.prog enc W hW n aV Uh 49:=fun cs x h hw=>by
 obtain ⟨m,hm,hl,hf⟩:=xb u49 h hw
 obtain ⟨y0,h0,w0⟩:=hf 0 _ rfl
 obtain ⟨a0,q0,r0⟩:=fld (o:=0) (s:=1) (t:=41) (fY (u41)) rfl oaa rfl h0 w0
 obtain ⟨y1,h1,w1⟩:=hf 1 _ rfl
 obtain ⟨a1,q1,r1⟩:=fld (o:=1) (s:=1) (t:=43) (lQ (S:=2) (by' :=8) (u43) oaa oaa oab (fun _=>rfl) (fun _ _=>Ui)) rfl oaa rfl h1 w1
 obtain ⟨y2,h2,w2⟩:=hf 2 _ rfl
 obtain ⟨a2,q2,r2⟩:=fld (o:=2) (s:=1) (t:=3) (fY (u3)) rfl oaa rfl h2 w2
 obtain ⟨y3,h3,w3⟩:=hf 3 _ rfl
 obtain ⟨a3,q3,r3⟩:=fld (o:=3) (s:=1) (t:=3) (fY (u3)) rfl oaa rfl h3 w3
 obtain ⟨y4,h4,w4⟩:=hf 4 _ rfl
 obtain ⟨a4,q4,r4⟩:=fld (o:=4) (s:=4) (t:=46) Uj rfl oaa rfl h4 w4
 obtain ⟨y5,h5,w5⟩:=hf 5 _ rfl
 obtain ⟨a5,q5,r5⟩:=fld (o:=8) (s:=1) (t:=47) (lQ (S:=2) (by' :=16) (u47) oaa oaa oab (fun _=>rfl) (fun _ _=>aat)) rfl oaa rfl h5 w5
 obtain ⟨y6,h6,w6⟩:=hf 6 _ rfl
 obtain ⟨a6,q6,r6⟩:=fld (o:=9) (s:=1) (t:=3) (fY (u3)) rfl oaa rfl h6 w6
 have hl:cs.length=10:=hl.trans oaa
 have r4:aB (sn W hW) (fun _=>none) [I8 a4.op,I a4.n,S a4.name,.sl 4 (a4.kids.map gC)] _:=(show gC a4=_ from by rw [<-JT])▸r4
 exact ⟨⟨a0,a1,a2,a3,a4,a5,a6⟩,⟨⟨q4,w8 q0,q1.1,q5.1⟩,q1.2.2⟩,whole hl (glue (glue (glue (glue (glue (glue r0 r1) r2) r3) r4) r5) r6)⟩
theorem Uk {n:Nat}:Rd Tryz.prog enc W hW n ak (fun s=>s.ai.length*136<=140737488351232/\ ∀e∈s.ai,Uh e) 40:=fun cs x h hw=>by
 obtain ⟨m,hm,hl,hf⟩:=xb u40 h hw
 obtain ⟨y0,h0,w0⟩:=hf 0 _ rfl
 obtain ⟨a0,q0,r0⟩:=fld (o:=0) (s:=1) (t:=3) (fY (u3)) rfl oaa rfl h0 w0
 obtain ⟨y1,h1,w1⟩:=hf 1 _ rfl
 obtain ⟨a1,q1,r1⟩:=fld (o:=1) (s:=1) (t:=38) (lQ (S:=10) (by' :=136) (u38) oaa oaa oab (fun _=>rfl) (fun _ _=>WB)) rfl oaa rfl h1 w1
 have hl:cs.length=2:=hl.trans oaa
 exact ⟨⟨a0,a1⟩,q1.2,whole hl (glue r0 r1)⟩
theorem aau {n:Nat}:Rd Tryz.prog enc W hW n aW gN 26:=fun cs x h hw=>by
 obtain ⟨m,hm,hl,hf⟩:=xb u26 h hw
 obtain ⟨y0,h0,w0⟩:=hf 0 _ rfl
 obtain ⟨a0,q0,r0⟩:=fld (o:=0) (s:=1) (t:=22) (lQ (S:=1) (by' :=16) (u22) oaa oaa oab (fun _=>rfl) (fun _ _=>BN u9)) rfl oaa rfl h0 w0
 obtain ⟨y1,h1,w1⟩:=hf 1 _ rfl
 obtain ⟨a1,q1,r1⟩:=fld (o:=1) (s:=1) (t:=22) (lQ (S:=1) (by' :=16) (u22) oaa oaa oab (fun _=>rfl) (fun _ _=>BN u9)) rfl oaa rfl h1 w1
 obtain ⟨y2,h2,w2⟩:=hf 2 _ rfl
 obtain ⟨a2,q2,r2⟩:=fld (o:=2) (s:=1) (t:=22) (lQ (S:=1) (by' :=16) (u22) oaa oaa oab (fun _=>rfl) (fun _ _=>BN u9)) rfl oaa rfl h2 w2
 obtain ⟨y3,h3,w3⟩:=hf 3 _ rfl
 obtain ⟨a3,q3,r3⟩:=fld (o:=3) (s:=1) (t:=23) (lQ (S:=9) (by' :=56) (u23) oaa oaa oab (fun _=>rfl) (fun _ _=>WA)) rfl oaa rfl h3 w3
 obtain ⟨y4,h4,w4⟩:=hf 4 _ rfl
 obtain ⟨a4,q4,r4⟩:=fld (o:=4) (s:=1) (t:=24) (lQ (S:=2) (by' :=32) (u24) oaa oaa oab (fun _=>rfl) (fun _ _=>Uk)) rfl oaa rfl h4 w4
 have hl:cs.length=5:=hl.trans oaa
 exact ⟨⟨a0,a1,a2,a3,a4⟩,⟨q0.1,q1.1,q2.1,q3.2.1,q4.2.1,q4.2.2⟩,whole hl (glue (glue (glue (glue r0 r1) r2) r3) r4)⟩
theorem WC {v:Value} {base:Nat} {d:DataW H} {p:List MemPlace} (hval:Value.okWide Tryz.prog W .any base 26 v) (h:DataW.Trod enc Tryz.prog W 0 (fun _=>true) true 26 v d p) (hw: ∀w∈d.weights Tryz.prog 26,w<=reachBytes):
  ∃n:Net,gN n/\Rep (sn W hW) (fun _=>none) (.ag (aW n)) v:=by
 obtain ⟨cs,rfl,_⟩:=okWide_struct u26 hval
 obtain ⟨fuel,hf⟩:=h
 obtain ⟨n,h1,h2⟩:=aau (hW:=hW) _ _ hf hw
 refine ⟨n,h1,?_⟩
 simp only [Rep]
 exact ⟨_,by simp [Value.cells],h2⟩
end
def Ul:Code:=bP 0 (aH 6)
def Um (n:Net) (i0:Nat) (y0:Int):Int:=(IntKind.wrap IntKind.i64 (y0+((1+length (map aV (ae n.aa i0).ai):Nat):Int)))
def iG (n:Net) (kk:Nat):Int:=Nat.rec (motive:=fun _=>Int) 0 (fun j a=>Um n j a) kk
theorem wrapR (z:Int): -9223372036854775808<=IntKind.i64.wrap z/\IntKind.i64.wrap z<=9223372036854775807:=by
 unfold IntKind.wrap IntKind.signed IntKind.bits
 simp only [Bool.true_and,decide_eq_true_eq]
 have e1:(2:Int)^64=18446744073709551616:=rfl
 have e2:(2:Int)^(64-1)=9223372036854775808:=rfl
 rw [e1,e2]
 split<;>omega
theorem le6 (n:Net) (i:Nat): -9223372036854775808<=iG n i/\iG n i<=9223372036854775807:=by
 cases i with
 |zero=>exact ⟨by show _<=(0:Int);omega,by show (0:Int)<=_;omega⟩
 |succ i=>exact wrapR _
def Jb (n:Net) (i0:Nat) (y0:Int):Am.Loc:=[(1,.pf (aW n)),(3,I y0),(7,I (length (zA n):Int)),(8,I (i0:Int))]
def LH (n:Net) (i0:Nat):Am.Loc:=Jb n i0 (iG n i0)
def LI (n:Net) (i0:Nat):List Ob:=[]
def Un (n:Net) (i0:Nat):Bool:=false
def aav (n:Net):Bool:=false
def M5 (n:Net) (i0:Nat):Am.Loc:=[]
def XK (n:Net) (i0:Nat):List Ob:=[]
def BO (n:Net):Am.Loc:=[(1,.pf (aW n)),(3,I (iG n (zH n)))]
def Jc (n:Net):List Ob:=[]
def M6 (n:Net):KB:=⟨LH n 0,LI n 0,aav n,.ret,M5 n (b4 (zH n) (Un n)),XK n (b4 (zH n) (Un n)),.normal,BO n,Jc n,True⟩
def Uo (n:Net) (i0:Nat):List bG:=[nxW (Un n i0) (LH n (i0+1)) (LI n (i0+1)) (Jb n (i0+1) (IntKind.wrap IntKind.i64 ((iG n i0)+((1+length (zd i0 n):Nat):Int)))) zb (LI n (i0+1))]
def G6_0 (n:Net) (i0:Nat):GT:=(.r [.k,bT] (.yes (.r [bT] (.r [.row (ak (ae n.aa i0)),.int ((1+length (map aV (ae n.aa i0).ai):Nat):Int),.int (IntKind.wrap IntKind.i64 ((iG n i0)+((1+length (map aV (ae n.aa i0).ai):Nat):Int))),bT] (.r [.int ↑(i0+1),bT] (.pick 0))))))
theorem vc6_0 (n:Net) (i0:Nat) (hf:gN n) (hx0:i0<(length n.aa)):vcC pg 30 base aK 3000 (kbL []) Ul (bz (LH n i0)) (bw (LI n i0)) 0 (bM (Uo n i0)) (G6_0 n i0):=
 have hr:=hf.rules;have hs:=hf.aa;have hq:=le6 n i0;have he:=(hf.ai _ (ay hx0)).1;have lem:=aU aV (ae n.aa i0).ai;have l1:=aU ak (n.aa);have hb:(zc i0 n)=true:=decide_eq_true oab;
 bc (an (a1 a0)
 (an hb (an a0
 (an (ac (eV (IntKind.wrap IntKind.i64 ((iG n i0)+((1+length (map aV (ae n.aa i0).ai):Nat):Int)))) (ac (dwo ((1+length (map aV (ae n.aa i0).ai):Nat):Int)) (ac (rwa ak n.aa i0) a0)))
 (an (ac (dwo ((i0+1:Nat):Int)) a0)
 (lf (wy (Uo n i0) 0) 0 (nxP (Jb n (i0+1)) (fun _=>LI n (i0+1)) (show Un n i0=false from rfl) (show iG n (i0+1)=(IntKind.wrap IntKind.i64 ((iG n i0)+((1+length (map aV (ae n.aa i0).ai):Nat):Int))) from rfl))))))))
 oaa
theorem vx6_0 (n:Net) (hf:gN n):vcC pg 30 base aK 3000 (kbL []) Ul (bz (LH n (zH n))) (bw (LI n (zH n))) 0 (bM [⟨True,(.exit 0),BO n,range 0,Jc n⟩]) zG:=
 have hr:=hf.rules;have hs:=hf.aa;have l1:=aU ak (n.aa);have hb:(zO n)=false:=decide_eq_false oab;
 bc (an (a1 a0)
 (an hb (lf (wy [⟨True,(.exit 0),BO n,range 0,Jc n⟩] 0) 0 trivial)))
 oaa
theorem WD (n:Net) (i0:Nat):(Uo n i0).all zj=true:=(aF (aR rfl rfl rfl oaJ rfl) bC)
theorem WE (n:Net):bG.cS 0 ⟨True,(.exit 0),BO n,range 0,Jc n⟩=true:=(aR rfl rfl rfl oaJ rfl)
theorem WG (n:Net) (hf:gN n):cQ pg 30 0 0 (.loop Ul) (M6 n):=
 have hr:=hf.rules;have hs:=hf.aa;iZ (fun _=>eB (id:=0) (m:=length n.aa) (t:=Un n) (xr:= .ret) (xn:=(.exit 0)) (Lr:=M5 n) (Lx:=BO n) (obr:=XK n) (obx:=Jc n) (V:=fun i0=>vcC pg 30 base aK 3000 (kbL []) Ul) (LH n) (LI n) 0 (Uo n) (G6_0 n) _ _ (fun i0 hx0=>aL aw mixed (az _)) (aL aw mixed (az _)) (fun e=>by cases e) (fun e=>by cases e) (fun _=>rfl) (fun i0 hx0=>vc6_0 n i0 hf hx0) (fun i0 _=>WD n i0) (fun i0 _=>show∀ww∈Uo n i0,cm _ _ _ _ _ _ ww from (aC bU bB)) (vx6_0 n hf) (WE n)) (fun _=>rfl) rfl (fun h=>h)
def r6 (n:Net):Bool:=((decide ((iG n (length n.aa))>1200))||decide ((length (map aE n.rules):Int)>60))
theorem Cq:dp [0] (aH 6)=[(0,.loop Ul)]:=by kernel_rfl
theorem Up (n:Net) (hf:gN n):bg pg 6 [.ag (aW n)] [] [] (B (r6 n)) []:=
 bD (fn:=Tryz.f6) (callf:=base) (pu:=aK) (lf:=3000) (l:=[(0,M6 n)]) (t:=(.r [bT] (.r [bT] (.r [bT] (.no (.a (.r (.k::uFF 4 [bT]) .nil) (.r (.k::uTT 4 [.k,bT]) .nil))))))) aw mixed Tryz.func6 oaa (show Tryz.f6.body=some (aH 6) by kernel_rfl) (Nat.le_of_ble_eq_true rfl) (bK (l:=[(0,M6 n)]) Cq (aT (WG n hf) rfl bj) rfl) rfl (bc
 (an a0
 (an a0
 (an a0
 (an (kbT (M6 n) trivial) (an (rfl:false=false) (aM (fun (h0:(decide ((iG n (length n.aa))>1200))=true)=>
 (an (aN 3 (ac (n2 h0) (a1 a0)))
 (bE (show r6 n=true from (orT h0))))) (fun h0=>
 (an (aN 4 (ac (au h0) (a1 a0)))
 (bE (show r6 n=(decide ((length (map aE n.rules):Int)>60)) from (orF h0 rfl)))))))))))
 oaa)
theorem Jd {α:Type} [Inhabited α] {l:List α} {x:α} (h:x∈l): ∃j,j<l.length/\ae l j=x:=by
 obtain ⟨j,hj,e⟩:=List.mem_iff_getElem.1 h
 exact ⟨j,hj,by simp [ae,hj,e]⟩
theorem sum6 (n:Net) (hf:gN n) (h4:n.aa.length<=4000) (i:Nat) (hi:i<=n.aa.length):(i:Int)<=iG n i/\iG n i<=(i:Int)*1100000000000/\ ∀j,j<i->((ae n.aa j).ai.length:Int)<=iG n i:=by
 induction i with
 |zero=>exact ⟨Int.le_refl _,Int.le_refl _,fun j hj=>by omega⟩
 |succ i ih=>
  obtain ⟨h1,h2,h3⟩:=ih oab
  have he:=(hf.ai _ (ay (show i<n.aa.length by omega))).1
  have e:iG n (i+1)=iG n i+(1+((ae n.aa i).ai.length:Int)):=by
   show Um n i (iG n i)=_
   unfold Um
   rw [aU,wrap_i64 oab oab]
   omega
  refine ⟨by omega,by omega,fun j hj=> ?_⟩
  rcases Nat.lt_or_ge j i with h|h
  ·have:=h3 j h;omega
  ·have:j=i:=by omega
   subst this;omega
theorem fitOf {n:Net} (hf:gN n) (h4:n.aa.length<=4000) (h6:r6 n=false):bp n:=by
 unfold r6 at h6
 simp only [Bool.or_eq_false_iff,decide_eq_false_iff_not,aU] at h6
 obtain ⟨-,-,h3⟩:=sum6 n hf h4 _ (Nat.le_refl _)
 refine ⟨hf.types,hf.mP,hf.cz,by omega,by omega,fun s hs=> ?_,fun s hs e he=>((hf.ai s hs).2 e he).fit⟩
 obtain ⟨j,hj,rfl⟩:=Jd hs
 have:=h3 j hj
 omega
theorem fitX {n:Net} (hf:gN n):jB n:=⟨fun s hs e he=>((hf.ai s hs).2 e he).fit.op,fun s hs e he=>((hf.ai s hs).2 e he).set⟩
theorem fitH {n:Net} (hf:gN n) (h6:r6 n=false):j9 n:=by
 unfold r6 at h6
 simp only [Bool.or_eq_false_iff,decide_eq_false_iff_not,aU] at h6
 exact ⟨hf.types,hf.mP,hf.cz,by omega⟩
theorem OZ:runJ 3000 60 7 [] .e 0 ⟨0,[],[]⟩= .ret (.v (.bool true)) .e 0 ⟨0,[],[]⟩:=by kernel_rfl
theorem D6:bg pg 7 [] [] [] (.v (.bool true)) []:=JN (Mf _ _) OZ rfl
theorem e8B {n:Net} (hx:jB n) (h:((r11 n) !=0)=false):r8 n= .sl 1 ((r25 n).map aA):=by
 have h0:r11 n=0:=by simpa using h
 have hn:=LG h
 have ho:Own n:=by
  unfold r11 at h0
  cases h1:r31 n with
  |false=>rw [h1] at h0;cases h0
  |true=>
   cases h2:r32 n with
   |false=>rw [h1,h2] at h0;cases h0
   |true=>
    cases h3:r33 n with
    |false=>rw [h1,h2,h3] at h0;cases h0
    |true=>exact T5 h2 h3
 unfold r8
 rw [LF hx,h,MW hn ho.ne];rfl
theorem c10y {n:Net} (hf:bp n) (hx:jB n):bg pg 10 [.ag (aW n)] [] [] (I (r11 n)) []:=by have h:=u7 n hf;rw [LF hx] at h;exact h
theorem c8 {n:Net} (hf:bp n) (hx:jB n) {v:AV} (e:r8 n=v):bg pg 8 [.ag (aW n)] [] [] v []:=by have h:=aar n hf hx;rw [e] at h;exact h
def i6 (n:Net):cc:=⟨6,[gL n],B (r6 n),gN n⟩
theorem g6 (n:Net):(i6 n).b7 pg:=fun hp=>⟨Up n hp,by simp [i6,ah,AV.pure],by simp [i6,AV.pure,ah]⟩
def i7:cc:=⟨7,[],B true,True⟩
theorem g7:(i7).b7 pg:=fun hp=>⟨D6,by simp [i7,ah,AV.pure],by simp [i7,AV.pure,ah]⟩
def i10y (n:Net):cc:=⟨10,[gL n],I (r11 n),bp n/\jB n⟩
theorem g10y (n:Net):(i10y n).b7 pg:=fun hp=>⟨(c10y hp.1 hp.2),by simp [i10y,ah,AV.pure],by simp [i10y,AV.pure,ah]⟩
def Uq (n:Net):cc:=⟨11,[gL n],I (r11 n),bp n⟩
theorem g11y (n:Net):(Uq n).b7 pg:=fun hp=>⟨ML n hp,by simp [Uq,ah,AV.pure],by simp [Uq,AV.pure,ah]⟩
abbrev zCE (n:Net):=((r11 n) !=0)
def i8b (n:Net):cc:=⟨8,[gL n],.sl 1 ((r25 n).map aA),bp n/\jB n/\(zCE n)=false⟩
theorem g8b (n:Net):(i8b n).b7 pg:=fun hp=>⟨(c8 hp.1 hp.2.1 (e8B hp.2.1 hp.2.2)),by simp [i8b,ah,AV.pure],by simp [i8b,AV.pure,ah]⟩
theorem k31h {n:Net} (h:j9 n/\r31 n=false):bg pg 31 [.ag (aW n)] [] [] (B false) []:=by have:=ME n h.1;rw [h.2] at this;exact this
theorem k26h {n:Net} (h:j9 n/\r31 n=false):bg pg 26 [.pf (aW n)] [] [] (B false) []:=by have:=MF n h.1;rw [Uf,h.2] at this;exact this
def i31h (n:Net):cc:=⟨31,[gL n],B false,j9 n/\r31 n=false⟩
theorem g31h (n:Net):(i31h n).b7 pg:=fun hp=>⟨k31h hp,by simp [i31h,ah,AV.pure],by simp [i31h,AV.pure,ah]⟩
def i26h (n:Net):cc:=⟨26,[.pf (aW n)],B false,j9 n/\r31 n=false⟩
theorem g26h (n:Net):(i26h n).b7 pg:=fun hp=>⟨k26h hp,by simp [i26h,ah,AV.pure],by simp [i26h,AV.pure,ah]⟩
def r11h (n:Net):Int:=110
theorem Ur (n:Net) (hh:j9 n) (hA:r31 n=false):bg pg 11 [.ag (aW n)] [] [] (I (r11h n)) []:=
 bD (fn:=Tryz.f11) (callf:=(bI [i31h n] base)) (pu:=aK) (lf:=3000) (l:=[]) (t:=(.r [bT] zBE)) (bo (.cons (g31h n) rfl cr.nil) aw) mixed Tryz.func11 oaa (show Tryz.f11.body=some (aH 11) by kernel_rfl) (Nat.le_of_ble_eq_true rfl) (az _) rfl (bc
 (an a0
 (an (aN 6 (cA (g31h n) ⟨hh,hA⟩ a0))
 (an a0
 (iE (show r11h n=110 from rfl)))))
 oaa)
def r10h (n:Net):Int:=110
theorem Us (n:Net) (hh:j9 n) (hA:r31 n=false):bg pg 10 [.ag (aW n)] [] [] (I (r10h n)) []:=
 bD (fn:=Tryz.f10) (callf:=(bI [i26h n] base)) (pu:=aK) (lf:=3000) (l:=[]) (t:=(.r [bT] zBE)) (bo (.cons (g26h n) rfl cr.nil) aw) mixed Tryz.func10 oaa (show Tryz.f10.body=some (aH 10) by kernel_rfl) (Nat.le_of_ble_eq_true rfl) (az _) rfl (bc
 (an a0
 (an (aN 6 (cA (g26h n) ⟨hh,hA⟩ a0))
 (an a0
 (iE (show r10h n=110 from rfl)))))
 oaa)
def i11q (n:Net):cc:=⟨11,[gL n],I 110,j9 n/\r31 n=false⟩
theorem g11q (n:Net):(i11q n).b7 pg:=fun hp=>⟨(Ur n hp.1 hp.2),by simp [i11q,ah,AV.pure],by simp [i11q,AV.pure,ah]⟩
def i10q (n:Net):cc:=⟨10,[gL n],I 110,j9 n/\r31 n=false⟩
theorem g10q (n:Net):(i10q n).b7 pg:=fun hp=>⟨(Us n hp.1 hp.2),by simp [i10q,ah,AV.pure],by simp [i10q,AV.pure,ah]⟩
theorem k6 {n:Net} {b:Bool} (hm:gN n) (h:r6 n=b):bg pg 6 [.ag (aW n)] [] [] (B b) []:=by have:=Up n hm;rw [h] at this;exact this
def i7q:cc:=⟨7,[],B true,True⟩
theorem g7q:(i7q).b7 pg:=fun hp=>⟨D6,by simp [i7q,ah,AV.pure],by simp [i7q,AV.pure,ah]⟩
def i6t (n:Net):cc:=⟨6,[gL n],B true,gN n/\r6 n=true⟩
theorem g6t (n:Net):(i6t n).b7 pg:=fun hp=>⟨(k6 hp.1 hp.2),by simp [i6t,ah,AV.pure],by simp [i6t,AV.pure,ah]⟩
def i6f (n:Net):cc:=⟨6,[gL n],B false,gN n/\r6 n=false⟩
theorem g6f (n:Net):(i6f n).b7 pg:=fun hp=>⟨(k6 hp.1 hp.2),by simp [i6f,ah,AV.pure],by simp [i6f,AV.pure,ah]⟩
theorem big31 {n:Net} (h:4000<n.aa.length):r31 n=false:=by
 unfold r31
 simp only [aU]
 rw [show decide ((n.aa.length:Int)>4000)=true from decide_eq_true oab]
 simp
structure Rk (n:Net) (emp:List Bool) (ρ:Nat->Nat):Prop where
 step: ∀s,s<n.aa.length-> ∀e∈(ae n.aa s).ai,∀x∈tgE n emp e,(0<=x/\x<(n.aa.length:Int))/\ρ x.toNat<ρ s
 top: ∀s,ρ s<=1000000
structure KI (n:Net) (ρ:Nat->Nat) (k:List Int):Prop where
 len:k.length=n.aa.length
 rng: ∀s,s<n.aa.length->0<=ae k s/\ae k s<=(ρ s:Int)+1
abbrev AtR (n:Net) (ρ:Nat->Nat) (m:Nat) (x:Int):Prop:=(0<=x/\x<(n.aa.length:Int))/\ρ x.toNat<m
structure DOk (n:Net) (emp:List Bool) (ρ:Nat->Nat) (m:Nat) (D:Int->List Int->Int×List Int):Prop where
 ret: ∀x kn,AtR n ρ m x->KI n ρ kn->bg pg 12 [.pf (aW n),I x,I ((m:Nat):Int),.sl 1 (emp.map aA),.sr 0 1 0 (length (map ak n.aa))] [.row 3 1 (kn.map aO)] [] (I (D x kn).1) [.row 3 1 ((D x kn).2.map aO)]
 ki: ∀x kn,AtR n ρ m x->KI n ρ kn->KI n ρ (D x kn).2
 le: ∀x kn,AtR n ρ m x->KI n ρ kn->0<=(D x kn).1/\(D x kn).1<=(ρ x.toNat:Int)
def i12 (n:Net) (emp:List Bool) (ρ:Nat->Nat) (m:Nat) (D:Int->List Int->Int×List Int) (x:Int) (kn:List Int) (xs:List Ob):lU:=⟨12,[.pf (aW n),I x,I (((m+1:Nat):Int)-1),.sl 1 (emp.map aA),.sr 0 1 0 (length (map ak n.aa))],.row 3 1 (kn.map aO)::xs,I (D x kn).1,.row 3 1 ((D x kn).2.map aO)::xs,AtR n ρ m x/\KI n ρ kn⟩
theorem g12 {n:Net} {emp:List Bool} {ρ:Nat->Nat} {m:Nat} {D:Int->List Int->Int×List Int} (hD:DOk n emp ρ m D) (x:Int) (kn:List Int) (xs:List Ob):(i12 n emp ρ m D x kn xs).b7 pg:=fun hp=>by
 have h:=hD.ret x kn hp.1 hp.2
 rw [show ((m:Nat):Int)=((m+1:Nat):Int)-1 by omega] at h
 exact nD rfl (NX h (aY kN _) (aY kN _) rfl xs (by simp [b6,AV.ren,eR,aY bR,b0,fJ,AV.pure,cD _ _ (sM n)]))
def Je:Code:=bP 0 (aH 12)
def BP (n:Net) (emp:List Bool) (ρ:Nat->Nat) (m:Nat) (D:Int->List Int->Int×List Int) (s:Int) (kn:List Int) (i0:Nat) (y0:(Int)×(List Int)):(Int)×(List Int):=(bif (ae (aq n.aa s).ai i0).op==1 then (y0.1,y0.2) else (bif (ae (aq n.aa s).ai i0).op==2 then (bif (aq emp (ae (aq n.aa s).ai i0).n) then ((max (max y0.1 ((D (aq n.rules (ae (aq n.aa s).ai i0).n).start y0.2).1+1)) ((D (ae (aq n.aa s).ai i0).to ((D (aq n.rules (ae (aq n.aa s).ai i0).n).start y0.2).2)).1+1)),(D (ae (aq n.aa s).ai i0).to ((D (aq n.rules (ae (aq n.aa s).ai i0).n).start y0.2).2)).2) else ((max y0.1 ((D (aq n.rules (ae (aq n.aa s).ai i0).n).start y0.2).1+1)),(D (aq n.rules (ae (aq n.aa s).ai i0).n).start y0.2).2)) else ((max y0.1 ((D (ae (aq n.aa s).ai i0).to y0.2).1+1)),(D (ae (aq n.aa s).ai i0).to y0.2).2)))
def aX (n:Net) (emp:List Bool) (ρ:Nat->Nat) (m:Nat) (D:Int->List Int->Int×List Int) (s:Int) (kn:List Int) (kk:Nat):(Int)×(List Int):=Nat.rec (motive:=fun _=>(Int)×(List Int)) (0,kn) (fun j a=>BP n emp ρ m D s kn j a) kk
theorem rk12 {n:Net} {emp:List Bool} {ρ:Nat->Nat} {m:Nat} {s:Int} (hR:Rk n emp ρ) (hs:AtR n ρ (m+1) s) {e:Edge} (he:e∈(aq n.aa s).ai) {x:Int} (hx:x∈tgE n emp e):AtR n ρ m x/\ρ x.toNat<ρ s.toNat:=by
 have h:=hR.step s.toNat oab e he x hx
 exact ⟨⟨h.1,by omega⟩,h.2⟩
theorem tg1 {n:Net} {emp:List Bool} {e:Edge} (h1:(e.op==1)=false) (h2:(e.op==2)=false):e.to∈tgE n emp e:=by simp [tgE,h1,h2]
theorem tg2 {n:Net} {emp:List Bool} {e:Edge} (h1:(e.op==1)=false) (h2:(e.op==2)=true):(aq n.rules e.n).start∈tgE n emp e:=by simp [tgE,h1,h2]
theorem tg3 {n:Net} {emp:List Bool} {e:Edge} (h1:(e.op==1)=false) (h2:(e.op==2)=true) (h3:aq emp e.n=true):e.to∈tgE n emp e:=by simp [tgE,h1,h2,h3]
structure D1 (n:Net) (ρ:Nat->Nat) (D:Int->List Int->Int×List Int) (m b:Nat) (x:Int) (kn:List Int):Prop where
 at' :AtR n ρ m x
 k0:KI n ρ kn
 k1:KI n ρ (D x kn).2
 nn:0<=(D x kn).1/\(D x kn).1+1<=(b:Int)/\b<=1000000
theorem Jf {n:Net} {emp:List Bool} {ρ:Nat->Nat} {m:Nat} {D:Int->List Int->Int×List Int} (hD:DOk n emp ρ m D) {s:Int} (hR:Rk n emp ρ) (hs:AtR n ρ (m+1) s) {e:Edge} (he:e∈(aq n.aa s).ai) {x:Int} (hx:x∈tgE n emp e) {kn:List Int} (hk:KI n ρ kn):D1 n ρ D m (ρ s.toNat) x kn:=by
 obtain ⟨h1,h2⟩:=rk12 hR hs he hx
 have:=hD.le x kn h1 hk
 exact ⟨h1,hk,hD.ki x kn h1 hk,by have:=hR.top s.toNat;omega⟩
theorem ki12 {n:Net} {emp:List Bool} {ρ:Nat->Nat} {m:Nat} {D:Int->List Int->Int×List Int} (hD:DOk n emp ρ m D) {s:Int} (hR:Rk n emp ρ) (hs:AtR n ρ (m+1) s) {kn:List Int} (hk:KI n ρ kn) (i:Nat) (hi:i<=(aq n.aa s).ai.length):KI n ρ (aX n emp ρ m D s kn i).2/\0<=(aX n emp ρ m D s kn i).1/\(aX n emp ρ m D s kn i).1<=(ρ s.toNat:Int):=by
 induction i with
 |zero=>exact ⟨hk,Int.le_refl _,by show (0:Int)<=_;omega⟩
 |succ i ih=>
  obtain ⟨h1,h2,h3⟩:=ih oab
  have he:ae (aq n.aa s).ai i∈(aq n.aa s).ai:=ay oab
  show KI n ρ (BP n emp ρ m D s kn i (aX n emp ρ m D s kn i)).2/\_<=(BP n emp ρ m D s kn i (aX n emp ρ m D s kn i)).1/\(BP n emp ρ m D s kn i (aX n emp ρ m D s kn i)).1<=_
  generalize aX n emp ρ m D s kn i=y at h1 h2 h3⊢
  unfold BP
  generalize ae (aq n.aa s).ai i=e at he⊢
  have one: ∀x,x∈tgE n emp e-> ∀k,KI n ρ k->D1 n ρ D m (ρ s.toNat) x k:=fun x hx k hk=>Jf hD hR hs he hx hk
  cases o1:e.op==1 with
  |true=>exact ⟨h1,h2,h3⟩
  |false=>
   cases o2:e.op==2 with
   |false=>
    have q:=one _ (tg1 o1 o2) _ h1
    simp only [cond_false]
    exact ⟨q.k1,by have:=q.nn;omega,by have:=q.nn;omega⟩
   |true=>
    have q:=one _ (tg2 o1 o2) _ h1
    cases o3:aq emp e.n with
    |false=>
     simp only [cond_false,cond_true]
     exact ⟨q.k1,by have:=q.nn;omega,by have:=q.nn;omega⟩
    |true=>
     have q2:=one _ (tg3 o1 o2 o3) _ q.k1
     simp only [cond_false,cond_true]
     exact ⟨q2.k1,by have:=q.nn;have:=q2.nn;omega,by have:=q.nn;have:=q2.nn;omega⟩
abbrev zAu (n:Net) (s:Int):=(aq n.aa s).ai
def jC (n:Net) (emp:List Bool) (ρ:Nat->Nat) (m:Nat) (D:Int->List Int->Int×List Int) (s:Int) (kn:List Int) (i0:Nat) (y0:(Int)×(List Int)):Am.Loc:=[(0,.pf (aW n)),(1,I s),(2,I ↑(m+1)),(3,.sl 1 (zCR emp)),(4,.sr 0 1 0 (zY n)),(11,I y0.1),(38,.sl 10 (map aV (zAu n s))),(39,I (length (map aV (zAu n s)):Int)),(40,I (i0:Int))]
def jD (n:Net) (emp:List Bool) (ρ:Nat->Nat) (m:Nat) (D:Int->List Int->Int×List Int) (s:Int) (kn:List Int) (i0:Nat) (y0:(Int)×(List Int)):List Ob:=[.row 3 1 (map aO y0.2)]
def oz (n:Net) (emp:List Bool) (ρ:Nat->Nat) (m:Nat) (D:Int->List Int->Int×List Int) (s:Int) (kn:List Int) (i0:Nat):Am.Loc:=jC n emp ρ m D s kn i0 (aX n emp ρ m D s kn i0)
def oA (n:Net) (emp:List Bool) (ρ:Nat->Nat) (m:Nat) (D:Int->List Int->Int×List Int) (s:Int) (kn:List Int) (i0:Nat):List Ob:=jD n emp ρ m D s kn i0 (aX n emp ρ m D s kn i0)
def nr (n:Net) (emp:List Bool) (ρ:Nat->Nat) (m:Nat) (D:Int->List Int->Int×List Int) (s:Int) (kn:List Int) (i0:Nat):Bool:=false
def WH (n:Net) (emp:List Bool) (ρ:Nat->Nat) (m:Nat) (D:Int->List Int->Int×List Int) (s:Int) (kn:List Int):Bool:=false
def GS (n:Net) (emp:List Bool) (ρ:Nat->Nat) (m:Nat) (D:Int->List Int->Int×List Int) (s:Int) (kn:List Int) (i0:Nat):Am.Loc:=[]
def GU (n:Net) (emp:List Bool) (ρ:Nat->Nat) (m:Nat) (D:Int->List Int->Int×List Int) (s:Int) (kn:List Int) (i0:Nat):List Ob:=[]
def pS (n:Net) (emp:List Bool) (ρ:Nat->Nat) (m:Nat) (D:Int->List Int->Int×List Int) (s:Int) (kn:List Int):Am.Loc:=[(1,I s),(4,.sr 0 1 0 (zY n)),(11,I ((aX n emp ρ m D s kn (length (zAu n s))).1))]
def pT (n:Net) (emp:List Bool) (ρ:Nat->Nat) (m:Nat) (D:Int->List Int->Int×List Int) (s:Int) (kn:List Int):List Ob:=[.row 3 1 (map aO ((aX n emp ρ m D s kn (length (zAu n s))).2))]
def GV (n:Net) (emp:List Bool) (ρ:Nat->Nat) (m:Nat) (D:Int->List Int->Int×List Int) (s:Int) (kn:List Int):KB:=⟨oz n emp ρ m D s kn 0,oA n emp ρ m D s kn 0,WH n emp ρ m D s kn,.ret,GS n emp ρ m D s kn (b4 (length (zAu n s)) (nr n emp ρ m D s kn)),GU n emp ρ m D s kn (b4 (length (zAu n s)) (nr n emp ρ m D s kn)),.normal,pS n emp ρ m D s kn,pT n emp ρ m D s kn,True⟩
abbrev za (i0:Nat) (n:Net) (s:Int):=(ae (zAu n s) i0)
abbrev zCV (i0:Nat) (n:Net) (s:Int):=(aq n.rules (za i0 n s).n).start
abbrev zAE (D:Int->List Int->Int×List Int) (emp:List Bool) (i0:Nat) (kn:List Int) (m:Nat) (n:Net) (s:Int) (ρ:Nat->Nat):=(D (zCV i0 n s) ((aX n emp ρ m D s kn i0).2))
def vb (n:Net) (emp:List Bool) (ρ:Nat->Nat) (m:Nat) (D:Int->List Int->Int×List Int) (s:Int) (kn:List Int) (i0:Nat):List bG:=[nxW (nr n emp ρ m D s kn i0) (oz n emp ρ m D s kn (i0+1)) (oA n emp ρ m D s kn (i0+1)) (jC n emp ρ m D s kn (i0+1) ((aX n emp ρ m D s kn i0).1,(aX n emp ρ m D s kn i0).2)) zAO (jD n emp ρ m D s kn (i0+1) ((aX n emp ρ m D s kn i0).1,(aX n emp ρ m D s kn i0).2)),nxW (nr n emp ρ m D s kn i0) (oz n emp ρ m D s kn (i0+1)) (oA n emp ρ m D s kn (i0+1)) (jC n emp ρ m D s kn (i0+1) ((max (max (aX n emp ρ m D s kn i0).1 ((zAE D emp i0 kn m n s ρ).1+1)) ((D (za i0 n s).to ((zAE D emp i0 kn m n s ρ).2)).1+1)),(D (za i0 n s).to ((zAE D emp i0 kn m n s ρ).2)).2)) zAO (jD n emp ρ m D s kn (i0+1) ((max (max (aX n emp ρ m D s kn i0).1 ((zAE D emp i0 kn m n s ρ).1+1)) ((D (za i0 n s).to ((zAE D emp i0 kn m n s ρ).2)).1+1)),(D (za i0 n s).to ((zAE D emp i0 kn m n s ρ).2)).2)),nxW (nr n emp ρ m D s kn i0) (oz n emp ρ m D s kn (i0+1)) (oA n emp ρ m D s kn (i0+1)) (jC n emp ρ m D s kn (i0+1) ((max (aX n emp ρ m D s kn i0).1 ((zAE D emp i0 kn m n s ρ).1+1)),(zAE D emp i0 kn m n s ρ).2)) zAO (jD n emp ρ m D s kn (i0+1) ((max (aX n emp ρ m D s kn i0).1 ((zAE D emp i0 kn m n s ρ).1+1)),(zAE D emp i0 kn m n s ρ).2)),nxW (nr n emp ρ m D s kn i0) (oz n emp ρ m D s kn (i0+1)) (oA n emp ρ m D s kn (i0+1)) (jC n emp ρ m D s kn (i0+1) ((max (aX n emp ρ m D s kn i0).1 ((D (za i0 n s).to ((aX n emp ρ m D s kn i0).2)).1+1)),(D (za i0 n s).to ((aX n emp ρ m D s kn i0).2)).2)) zAO (jD n emp ρ m D s kn (i0+1) ((max (aX n emp ρ m D s kn i0).1 ((D (za i0 n s).to ((aX n emp ρ m D s kn i0).2)).1+1)),(D (za i0 n s).to ((aX n emp ρ m D s kn i0).2)).2))]
def XL (n:Net) (emp:List Bool) (ρ:Nat->Nat) (m:Nat) (D:Int->List Int->Int×List Int) (s:Int) (kn:List Int) (i0:Nat):GT:=(.r [.k,bT] (.yes (.r [.row (aV (ae (aq n.aa s).ai i0)),bT] (.r [.k,bT] (.br (.r [.int ↑(i0+1),bT] (.pick 0)) (.r [bT] (.r [.k,bT] (.br (.r [.cd ((ae (aq n.aa s).ai i0).n).toNat (aE (aq n.rules (ae (aq n.aa s).ai i0).n)),bT] (.r [.cd ((ae (aq n.aa s).ai i0).n).toNat (aA (aq emp (ae (aq n.aa s).ai i0).n)),bT] (.br (.r [bT] (.r [bT] (.more (.r [.k,bT] (.r [bT] (.r [.int (((m+1:Nat):Int)-1),.cd 0 [],bT] (.r [.k,bT] (.no (.r [.int ((D (aq n.rules (ae (aq n.aa s).ai i0).n).start ((aX n emp ρ m D s kn i0).2)).1+1),.val (.int .i64 (max (aX n emp ρ m D s kn i0).1 ((D (aq n.rules (ae (aq n.aa s).ai i0).n).start ((aX n emp ρ m D s kn i0).2)).1+1))),bT] (.r [.int 1,bT] (.r [.k,bT] (.r [bT] (.r [.int (((m+1:Nat):Int)-1),.cd 1 [],bT] (.r [.k,bT] (.no (.r [.int ((D (ae (aq n.aa s).ai i0).to ((D (aq n.rules (ae (aq n.aa s).ai i0).n).start ((aX n emp ρ m D s kn i0).2)).2)).1+1),.val (.int .i64 (max (max (aX n emp ρ m D s kn i0).1 ((D (aq n.rules (ae (aq n.aa s).ai i0).n).start ((aX n emp ρ m D s kn i0).2)).1+1)) ((D (ae (aq n.aa s).ai i0).to ((D (aq n.rules (ae (aq n.aa s).ai i0).n).start ((aX n emp ρ m D s kn i0).2)).2)).1+1))),bT] (.r [.int 2,bT] (.r [.k,bT] (.r [.int ↑(i0+1),bT] (.pick 1)))))))))))))))))))) (.r [bT] (.more (.r [.k,bT] (.r [bT] (.r [.int (((m+1:Nat):Int)-1),.cd 2 [],bT] (.r [.k,bT] (.no (.r [.int ((D (aq n.rules (ae (aq n.aa s).ai i0).n).start ((aX n emp ρ m D s kn i0).2)).1+1),.val (.int .i64 (max (aX n emp ρ m D s kn i0).1 ((D (aq n.rules (ae (aq n.aa s).ai i0).n).start ((aX n emp ρ m D s kn i0).2)).1+1))),bT] (.r [.int 1,bT] (.r [.k,bT] (.r [.int ↑(i0+1),bT] (.pick 2))))))))))))))) (.r [bT] (.more (.r [.k,bT] (.r [bT] (.r [.int (((m+1:Nat):Int)-1),.cd 3 [],bT] (.r [.k,bT] (.no (.r [.int ((D (ae (aq n.aa s).ai i0).to ((aX n emp ρ m D s kn i0).2)).1+1),.val (.int .i64 (max (aX n emp ρ m D s kn i0).1 ((D (ae (aq n.aa s).ai i0).to ((aX n emp ρ m D s kn i0).2)).1+1))),bT] (.r [.int 1,bT] (.r [.k,bT] (.r [.int ↑(i0+1),bT] (.pick 3))))))))))))))))))))
abbrev zE (i0:Nat) (n:Net) (s:Int):List Ob:=[.box 49 (aV (za i0 n s)),.row 3 1 [(aO (za i0 n s).to)],.dead,.row 3 1 [(aO (zCV i0 n s)),(aO (za i0 n s).to)]]
abbrev zAG (i0:Nat) (n:Net) (s:Int):List Ob:=[.box 49 (aV (ae (zAu n s) i0)),.row 3 1 [(aO (ae (zAu n s) i0).to)],.row 3 1 [(aO (aq n.rules (ae (zAu n s) i0).n).start)]]
abbrev zAp (i0:Nat) (n:Net) (s:Int):List Ob:=[.box 49 (aV (ae (zAu n s) i0)),.row 3 1 [(aO (ae (zAu n s) i0).to)]]
theorem aaw (n:Net) (emp:List Bool) (ρ:Nat->Nat) (m:Nat) (D:Int->List Int->Int×List Int) (s:Int) (kn:List Int) (i0:Nat) (hn:bt n) (hf:bp n) (he:length emp=length n.rules) (hR:Rk n emp ρ) (hD:DOk n emp ρ m D) (hmm:m<=2000000) (hs:AtR n ρ (m+1) s) (hk:KI n ρ kn) (hx0:i0<(length (aq n.aa s).ai)):vcC pg 101 (sR [i12 n emp ρ m D (zCV i0 n s) ((aX n emp ρ m D s kn i0).2) (zE i0 n s),i12 n emp ρ m D (za i0 n s).to ((zAE D emp i0 kn m n s ρ).2) (zE i0 n s),i12 n emp ρ m D (zCV i0 n s) ((aX n emp ρ m D s kn i0).2) [.box 49 (aV (za i0 n s)),.row 3 1 [(aO (za i0 n s).to)],.row 3 1 [(aO (zCV i0 n s))]],i12 n emp ρ m D (za i0 n s).to ((aX n emp ρ m D s kn i0).2) [.box 49 (aV (za i0 n s)),.row 3 1 [(aO (za i0 n s).to)]]] base) aK 3000 (kbL []) Je (bz (oz n emp ρ m D s kn i0)) (bw (oA n emp ρ m D s kn i0)) 1 (bM (vb n emp ρ m D s kn i0)) (XL n emp ρ m D s kn i0):=
 have hed0:=hf.ai (aq n.aa s) (fN (.inr hs.1));have hr:=hf.rules;have hsl:=hf.aa;have hs1:=hs.1;have hkl:=hk.len;have hkr:=hk.rng s.toNat oab;have htp:=hR.top s.toNat;have hms:aq n.aa s∈n.aa:=fN (.inr hs.1);have hed:=hf.ai _ hms;have he0:(ae (aq n.aa s).ai i0)∈(aq n.aa s).ai:=ay hx0;have hk0:=ki12 hD hR hs hk i0 (Nat.le_of_lt hx0);have hca:=hn.call _ hms _ he0;have hkk:=hk0.2;have l1:=aU aV ((aq n.aa s).ai);have hb:(decide ((i0:Int)<(length (map aV (aq n.aa s).ai):Int)))=true:=decide_eq_true oab;
 bc (an (a1 a0)
 (an hb (an (ac (rwa aV (aq n.aa s).ai i0) a0)
 (an (a1 a0)
 (brP (fun (h1:((ae (aq n.aa s).ai i0).op==1)=true)=>have g1:=eq_of_beq h1;
 (an (ac (dwo ((i0+1:Nat):Int)) a0)
 (lf (wy (vb n emp ρ m D s kn i0) 0) 2 (nxP (jC n emp ρ m D s kn (i0+1)) (jD n emp ρ m D s kn (i0+1)) (show nr n emp ρ m D s kn i0=false from rfl) (show aX n emp ρ m D s kn (i0+1)=((aX n emp ρ m D s kn i0).1,(aX n emp ρ m D s kn i0).2) from (cdT h1 rfl)))))) (fun h1=>have g1:=ne_of_beq_false h1;
 (an a0
 (an (a1 a0)
 (brP (fun (h2:((ae (aq n.aa s).ai i0).op==2)=true)=>have dg2:=Jf hD hR hs he0 (tg2 oaL h2) hk0.1;have pg2:=dg2.nn;have g2:=eq_of_beq h2;
 (have l2:=aU aE (n.rules);an (ac (rwz aE n.rules (ae (aq n.aa s).ai i0).n) a0)
 (have l3:=aU aA (emp);an (ac (rwz aA emp (ae (aq n.aa s).ai i0).n) a0)
 (brP (fun (h3:((aq emp (ae (aq n.aa s).ai i0).n))=true)=>have dg3:=Jf hD hR hs he0 (tg3 oaL oaL h3) (Jf hD hR hs he0 (tg2 oaL oaL) hk0.1).k1;have pg3:=dg3.nn;
 (an (a1 a0)
 (an a0
 (an (a1 a0)
 (an (a1 a0)
 (an (ac (qU (c:=i12 n emp ρ m D (aq n.rules (ae (aq n.aa s).ai i0).n).start ((aX n emp ρ m D s kn i0).2) (zE i0 n s)) ⟨(show D1 n ρ D m (ρ s.toNat) (aq n.rules (ae (aq n.aa s).ai i0).n).start ((aX n emp ρ m D s kn i0).2) by assumption).at',(show D1 n ρ D m (ρ s.toNat) (aq n.rules (ae (aq n.aa s).ai i0).n).start ((aX n emp ρ m D s kn i0).2) by assumption).k0⟩ rfl) (ac (dwo (((m+1:Nat):Int)-1)) a0))
 (an (a1 a0)
 (an (show (decide (((D (aq n.rules (ae (aq n.aa s).ai i0).n).start ((aX n emp ρ m D s kn i0).2)).1)<0))=false from (decide_eq_false oab)) (an (ac (maxA (P:=Tryz.prog) (ts:=⟨[3,3]⟩) (ty:=3) (fl:=⟨[false,false]⟩) ((aX n emp ρ m D s kn i0).1) ((D (aq n.rules (ae (aq n.aa s).ai i0).n).start ((aX n emp ρ m D s kn i0).2)).1+1)) (ac (dwo ((D (aq n.rules (ae (aq n.aa s).ai i0).n).start ((aX n emp ρ m D s kn i0).2)).1+1)) a0))
 (an (ac (eV (1:Int)) a0)
 (an (a1 a0)
 (an (a1 a0)
 (an (ac (qU (c:=i12 n emp ρ m D (ae (aq n.aa s).ai i0).to ((D (aq n.rules (ae (aq n.aa s).ai i0).n).start ((aX n emp ρ m D s kn i0).2)).2) (zE i0 n s)) ⟨(show D1 n ρ D m (ρ s.toNat) (ae (aq n.aa s).ai i0).to ((D (aq n.rules (ae (aq n.aa s).ai i0).n).start ((aX n emp ρ m D s kn i0).2)).2) by assumption).at',(show D1 n ρ D m (ρ s.toNat) (ae (aq n.aa s).ai i0).to ((D (aq n.rules (ae (aq n.aa s).ai i0).n).start ((aX n emp ρ m D s kn i0).2)).2) by assumption).k0⟩ rfl) (ac (dwo (((m+1:Nat):Int)-1)) a0))
 (an (a1 a0)
 (an (show (decide (((D (ae (aq n.aa s).ai i0).to ((D (aq n.rules (ae (aq n.aa s).ai i0).n).start ((aX n emp ρ m D s kn i0).2)).2)).1)<0))=false from (decide_eq_false oab)) (an (ac (maxA (P:=Tryz.prog) (ts:=⟨[3,3]⟩) (ty:=3) (fl:=⟨[false,false]⟩) (max (aX n emp ρ m D s kn i0).1 ((D (aq n.rules (ae (aq n.aa s).ai i0).n).start ((aX n emp ρ m D s kn i0).2)).1+1)) ((D (ae (aq n.aa s).ai i0).to ((D (aq n.rules (ae (aq n.aa s).ai i0).n).start ((aX n emp ρ m D s kn i0).2)).2)).1+1)) (ac (dwo ((D (ae (aq n.aa s).ai i0).to ((D (aq n.rules (ae (aq n.aa s).ai i0).n).start ((aX n emp ρ m D s kn i0).2)).2)).1+1)) a0))
 (an (ac (eV (2:Int)) a0)
 (an (a1 a0)
 (an (ac (dwo ((i0+1:Nat):Int)) a0)
 (lf (wy (vb n emp ρ m D s kn i0) 1) 5 (nxP (jC n emp ρ m D s kn (i0+1)) (jD n emp ρ m D s kn (i0+1)) (show nr n emp ρ m D s kn i0=false from rfl) (show aX n emp ρ m D s kn (i0+1)=((max (max (aX n emp ρ m D s kn i0).1 ((D (aq n.rules (ae (aq n.aa s).ai i0).n).start ((aX n emp ρ m D s kn i0).2)).1+1)) ((D (ae (aq n.aa s).ai i0).to ((D (aq n.rules (ae (aq n.aa s).ai i0).n).start ((aX n emp ρ m D s kn i0).2)).2)).1+1)),(D (ae (aq n.aa s).ai i0).to ((D (aq n.rules (ae (aq n.aa s).ai i0).n).start ((aX n emp ρ m D s kn i0).2)).2)).2) from (cdF h1 (cdT h2 (cdT h3 rfl))))))))))))))))))))))))) (fun h3=>
 (an a0
 (an (a1 a0)
 (an (a1 a0)
 (an (ac (qU (c:=i12 n emp ρ m D (aq n.rules (ae (aq n.aa s).ai i0).n).start ((aX n emp ρ m D s kn i0).2) (zAG i0 n s)) ⟨(show D1 n ρ D m (ρ s.toNat) (aq n.rules (ae (aq n.aa s).ai i0).n).start ((aX n emp ρ m D s kn i0).2) by assumption).at',(show D1 n ρ D m (ρ s.toNat) (aq n.rules (ae (aq n.aa s).ai i0).n).start ((aX n emp ρ m D s kn i0).2) by assumption).k0⟩ rfl) (ac (dwo (((m+1:Nat):Int)-1)) a0))
 (an (a1 a0)
 (an (show (decide (((D (aq n.rules (ae (aq n.aa s).ai i0).n).start ((aX n emp ρ m D s kn i0).2)).1)<0))=false from (decide_eq_false oab)) (an (ac (maxA (P:=Tryz.prog) (ts:=⟨[3,3]⟩) (ty:=3) (fl:=⟨[false,false]⟩) ((aX n emp ρ m D s kn i0).1) ((D (aq n.rules (ae (aq n.aa s).ai i0).n).start ((aX n emp ρ m D s kn i0).2)).1+1)) (ac (dwo ((D (aq n.rules (ae (aq n.aa s).ai i0).n).start ((aX n emp ρ m D s kn i0).2)).1+1)) a0))
 (an (ac (eV (1:Int)) a0)
 (an (a1 a0)
 (an (ac (dwo ((i0+1:Nat):Int)) a0)
 (lf (wy (vb n emp ρ m D s kn i0) 2) 4 (nxP (jC n emp ρ m D s kn (i0+1)) (jD n emp ρ m D s kn (i0+1)) (show nr n emp ρ m D s kn i0=false from rfl) (show aX n emp ρ m D s kn (i0+1)=((max (aX n emp ρ m D s kn i0).1 ((D (aq n.rules (ae (aq n.aa s).ai i0).n).start ((aX n emp ρ m D s kn i0).2)).1+1)),(D (aq n.rules (ae (aq n.aa s).ai i0).n).start ((aX n emp ρ m D s kn i0).2)).2) from (cdF h1 (cdT h2 (cdF h3 rfl))))))))))))))))))))) (fun h2=>have dg2:=Jf hD hR hs he0 (tg1 oaL h2) hk0.1;have pg2:=dg2.nn;have g2:=ne_of_beq_false h2;
 (an a0
 (an (a1 a0)
 (an (a1 a0)
 (an (ac (qU (c:=i12 n emp ρ m D (ae (aq n.aa s).ai i0).to ((aX n emp ρ m D s kn i0).2) (zAp i0 n s)) ⟨(show D1 n ρ D m (ρ s.toNat) (ae (aq n.aa s).ai i0).to ((aX n emp ρ m D s kn i0).2) by assumption).at',(show D1 n ρ D m (ρ s.toNat) (ae (aq n.aa s).ai i0).to ((aX n emp ρ m D s kn i0).2) by assumption).k0⟩ rfl) (ac (dwo (((m+1:Nat):Int)-1)) a0))
 (an (a1 a0)
 (an (show (decide (((D (ae (aq n.aa s).ai i0).to ((aX n emp ρ m D s kn i0).2)).1)<0))=false from (decide_eq_false oab)) (an (ac (maxA (P:=Tryz.prog) (ts:=⟨[3,3]⟩) (ty:=3) (fl:=⟨[false,false]⟩) ((aX n emp ρ m D s kn i0).1) ((D (ae (aq n.aa s).ai i0).to ((aX n emp ρ m D s kn i0).2)).1+1)) (ac (dwo ((D (ae (aq n.aa s).ai i0).to ((aX n emp ρ m D s kn i0).2)).1+1)) a0))
 (an (ac (eV (1:Int)) a0)
 (an (a1 a0)
 (an (ac (dwo ((i0+1:Nat):Int)) a0)
 (lf (wy (vb n emp ρ m D s kn i0) 3) 3 (nxP (jC n emp ρ m D s kn (i0+1)) (jD n emp ρ m D s kn (i0+1)) (show nr n emp ρ m D s kn i0=false from rfl) (show aX n emp ρ m D s kn (i0+1)=((max (aX n emp ρ m D s kn i0).1 ((D (ae (aq n.aa s).ai i0).to ((aX n emp ρ m D s kn i0).2)).1+1)),(D (ae (aq n.aa s).ai i0).to ((aX n emp ρ m D s kn i0).2)).2) from (cdF h1 (cdF h2 rfl)))))))))))))))))))))))))
 oaa
theorem aax (n:Net) (emp:List Bool) (ρ:Nat->Nat) (m:Nat) (D:Int->List Int->Int×List Int) (s:Int) (kn:List Int) (hn:bt n) (hf:bp n) (he:length emp=length n.rules) (hR:Rk n emp ρ) (hD:DOk n emp ρ m D) (hmm:m<=2000000) (hs:AtR n ρ (m+1) s) (hk:KI n ρ kn):vcC pg 101 base aK 3000 (kbL []) Je (bz (oz n emp ρ m D s kn (length (zAu n s)))) (bw (oA n emp ρ m D s kn (length (zAu n s)))) 1 (bM [⟨True,(.exit 0),pS n emp ρ m D s kn,range 1,pT n emp ρ m D s kn⟩]) zG:=
 have hed0:=hf.ai (aq n.aa s) (fN (.inr hs.1));have hr:=hf.rules;have hsl:=hf.aa;have hs1:=hs.1;have hkl:=hk.len;have hkr:=hk.rng s.toNat oab;have htp:=hR.top s.toNat;have l1:=aU aV ((aq n.aa s).ai);have hb:(decide ((((length (aq n.aa s).ai):Nat):Int)<(length (map aV (aq n.aa s).ai):Int)))=false:=decide_eq_false oab;
 bc (an (a1 a0)
 (an hb (lf (wy [⟨True,(.exit 0),pS n emp ρ m D s kn,range 1,pT n emp ρ m D s kn⟩] 0) 1 trivial)))
 oaa
theorem Ut (n:Net) (emp:List Bool) (ρ:Nat->Nat) (m:Nat) (D:Int->List Int->Int×List Int) (s:Int) (kn:List Int) (i0:Nat):(vb n emp ρ m D s kn i0).all (bG.cS 1)=true:=by refine (aF (aR rfl rfl rfl ?_ ?_) (aF (aR rfl rfl rfl ?_ ?_) (aF (aR rfl rfl rfl ?_ ?_) (aF (aR rfl rfl rfl ?_ ?_) bC))))<;>simp (maxDischargeDepth:=9) [nxW,htW,jC,oz,GS,pS,plS,AV.pure,ah,aj,jD,oA,GU,pT,plO,eC,dG]
theorem Uu (n:Net) (emp:List Bool) (ρ:Nat->Nat) (m:Nat) (D:Int->List Int->Int×List Int) (s:Int) (kn:List Int):bG.cS 1 ⟨True,(.exit 0),pS n emp ρ m D s kn,range 1,pT n emp ρ m D s kn⟩=true:=by refine (aR rfl rfl rfl ?_ ?_)<;>simp (maxDischargeDepth:=9) [nxW,htW,jC,oz,GS,pS,plS,AV.pure,ah,aj,jD,oA,GU,pT,plO,eC,dG]
theorem Uv (n:Net) (emp:List Bool) (ρ:Nat->Nat) (m:Nat) (D:Int->List Int->Int×List Int) (s:Int) (kn:List Int) (hn:bt n) (hf:bp n) (he:length emp=length n.rules) (hR:Rk n emp ρ) (hD:DOk n emp ρ m D) (hmm:m<=2000000) (hs:AtR n ρ (m+1) s) (hk:KI n ρ kn):cQ pg 101 1 0 (.loop Je) (GV n emp ρ m D s kn):=
 have hed0:=hf.ai (aq n.aa s) (fN (.inr hs.1));have hr:=hf.rules;have hsl:=hf.aa;have hs1:=hs.1;have hkl:=hk.len;have hkr:=hk.rng s.toNat oab;have htp:=hR.top s.toNat;iZ (fun _=>eB (id:=0) (m:=length (aq n.aa s).ai) (t:=nr n emp ρ m D s kn) (xr:= .ret) (xn:=(.exit 0)) (Lr:=GS n emp ρ m D s kn) (Lx:=pS n emp ρ m D s kn) (obr:=GU n emp ρ m D s kn) (obx:=pT n emp ρ m D s kn) (V:=fun i0=>vcC pg 101 (sR [i12 n emp ρ m D (aq n.rules (ae (aq n.aa s).ai i0).n).start ((aX n emp ρ m D s kn i0).2) (zE i0 n s),i12 n emp ρ m D (ae (aq n.aa s).ai i0).to ((D (aq n.rules (ae (aq n.aa s).ai i0).n).start ((aX n emp ρ m D s kn i0).2)).2) (zE i0 n s),i12 n emp ρ m D (aq n.rules (ae (aq n.aa s).ai i0).n).start ((aX n emp ρ m D s kn i0).2) (zAG i0 n s),i12 n emp ρ m D (ae (aq n.aa s).ai i0).to ((aX n emp ρ m D s kn i0).2) (zAp i0 n s)] base) aK 3000 (kbL []) Je) (oz n emp ρ m D s kn) (oA n emp ρ m D s kn) 1 (vb n emp ρ m D s kn) (XL n emp ρ m D s kn) _ _ (fun i0 hx0=>aL (C6 (.cons (g12 hD (aq n.rules (ae (aq n.aa s).ai i0).n).start ((aX n emp ρ m D s kn i0).2) (zE i0 n s)) (.cons (g12 hD (ae (aq n.aa s).ai i0).to ((D (aq n.rules (ae (aq n.aa s).ai i0).n).start ((aX n emp ρ m D s kn i0).2)).2) (zE i0 n s)) (.cons (g12 hD (aq n.rules (ae (aq n.aa s).ai i0).n).start ((aX n emp ρ m D s kn i0).2) (zAG i0 n s)) (.cons (g12 hD (ae (aq n.aa s).ai i0).to ((aX n emp ρ m D s kn i0).2) (zAp i0 n s)) uu.nil)))) aw) mixed (az _)) (aL aw mixed (az _)) (fun e=>by cases e) (fun e=>by cases e) (fun _=>rfl) (fun i0 hx0=>aaw n emp ρ m D s kn i0 hn hf he hR hD hmm hs hk hx0) (fun i0 _=>Ut n emp ρ m D s kn i0) (fun i0 _=>show∀ww∈vb n emp ρ m D s kn i0,cm _ _ _ _ _ _ ww from (aC bU (aC bU (aC bU (aC bU bB))))) (aax n emp ρ m D s kn hn hf he hR hD hmm hs hk) (Uu n emp ρ m D s kn)) (fun _=>rfl) rfl (fun h=>h)
def r12 (n:Net) (emp:List Bool) (ρ:Nat->Nat) (m:Nat) (D:Int->List Int->Int×List Int) (s:Int) (kn:List Int):Int×List Int:=(bif decide ((ae kn ((s).toNat))>0) then (((ae kn ((s).toNat))-1),kn) else ((aX n emp ρ m D s kn (length (aq n.aa s).ai)).1,List.set ((aX n emp ρ m D s kn (length (aq n.aa s).ai)).2) ((s).toNat) ((aX n emp ρ m D s kn (length (aq n.aa s).ai)).1+1)))
theorem vR:dp [0] (aH 12)=[(0,.loop Je)]:=by kernel_rfl
theorem aay (n:Net) (emp:List Bool) (ρ:Nat->Nat) (m:Nat) (D:Int->List Int->Int×List Int) (s:Int) (kn:List Int) (hn:bt n) (hf:bp n) (he:length emp=length n.rules) (hR:Rk n emp ρ) (hD:DOk n emp ρ m D) (hmm:m<=2000000) (hs:AtR n ρ (m+1) s) (hk:KI n ρ kn):bg pg 12 [.pf (aW n),I s,I ↑(m+1),.sl 1 (zCR emp),.sr 0 1 0 (zY n)] [.row 3 1 (map aO kn)] [] (I (r12 n emp ρ m D s kn).1) [.row 3 1 (map aO (r12 n emp ρ m D s kn).2)]:=
 have hed0:=hf.ai (aq n.aa s) (fN (.inr hs.1));have hr:=hf.rules;have hsl:=hf.aa;have hs1:=hs.1;have hkl:=hk.len;have hkr:=hk.rng s.toNat oab;have htp:=hR.top s.toNat;have hke:=ki12 hD hR hs hk _ (Nat.le_refl _);have hkn:=hke.1.len;have hkv:=hke.2;Vh (fn:=Tryz.f12) (callf:=base) (pu:=aK) (lf:=3000) (l:=[(0,GV n emp ρ m D s kn)]) (t:=(.r [bT] (.r [.k,bT] (.no (.r [.cd ((s).toNat) [],.at ((s).toNat) 0 (aO (ae kn ((s).toNat))),.k,bT] (.br (.r [.cd ((s).toNat) [],.at ((s).toNat) 0 (aO (ae kn ((s).toNat))),.int ((ae kn ((s).toNat))-1),bT] .nil) (.r [bT] (.r [.cd (s).toNat (ak (aq n.aa s)),bT] (.no (.r [.int ((aX n emp ρ m D s kn (length (aq n.aa s).ai)).1+1),.cd ((s).toNat) [],.at ((s).toNat) 0 (aO (ae ((aX n emp ρ m D s kn (length (aq n.aa s).ai)).2) ((s).toNat))),bT] zF)))))))))) aw mixed Tryz.func12 oaa (show Tryz.f12.body=some (aH 12) by kernel_rfl) (Nat.le_of_ble_eq_true rfl) (bK (l:=[(0,GV n emp ρ m D s kn)]) vR (aT (Uv n emp ρ m D s kn hn hf he hR hD hmm hs hk) rfl bj) rfl) (Nat.le_refl _) rfl (by simp [Ob.und,dj kN]) rfl (bc
 (an a0
 (an (a1 a0)
 (an (show (decide (((m+1:Nat):Int)<=0))=false from (n1F m)) (have l1:=aU ak (n.aa);an (a1 (ac (ato 1 0 ((s).toNat) (rl aO kn)) (ac (ixz s (length (map ak n.aa))) a0)))
 (brP (fun (h0:(decide ((ae kn ((s).toNat))>0))=true)=>have g0:=of_decide_eq_true h0;
 (an (ac (dwo ((ae kn ((s).toNat))-1)) (ac (ato 1 0 ((s).toNat) (rl aO kn)) (ac (ixz s (length (map ak n.aa))) a0)))
 (roI (x:=(r12 n emp ρ m D s kn).1) (r:=(r12 n emp ρ m D s kn).2) (rfl:(.row 3 1 (map aO kn):Ob)= .row 3 1 (map aO kn)) (show (((ae kn ((s).toNat))-1),kn)=r12 n emp ρ m D s kn from ((cdT h0 rfl)).symm)))) (fun h0=>have g0:=of_decide_eq_false h0;
 (an a0
 (an (ac (rwz ak n.aa s) a0)
 (an (kbT (GV n emp ρ m D s kn) trivial) (an (rfl:false=false) (an (ac (sto 1 0 1 ((s).toNat) (rl aO ((aX n emp ρ m D s kn (length (aq n.aa s).ai)).2))) (ac (ixz s (length (map ak n.aa))) (ac (dwo ((aX n emp ρ m D s kn (length (aq n.aa s).ai)).1+1)) a0)))
 (an a0
 (roI (x:=(r12 n emp ρ m D s kn).1) (r:=(r12 n emp ρ m D s kn).2) (congrArg (fun z=>Ob.row 3 1 z) (jr (f:=aO) (rl aO ((aX n emp ρ m D s kn (length (aq n.aa s).ai)).2)) ((s).toNat) ((aX n emp ρ m D s kn (length (aq n.aa s).ai)).1+1))) (show ((aX n emp ρ m D s kn (length (aq n.aa s).ai)).1,List.set ((aX n emp ρ m D s kn (length (aq n.aa s).ai)).2) ((s).toNat) ((aX n emp ρ m D s kn (length (aq n.aa s).ai)).1+1))=r12 n emp ρ m D s kn from ((cdF h0 rfl)).symm))))))))))))))
 oaa)
theorem D7 {α:Type} {p q:α->Bool}: ∀{l:List α},(∀x∈l,p x=true->q x=true)->(∃x∈l,q x=true/\p x=false)->l.countP p<l.countP q
 |[],_,h=>by simp at h
 |a::l,h,⟨x,hx,hq,hp⟩=>by
  have h1:=List.countP_mono_left fun y hy=>h y (List.mem_cons_of_mem a hy)
  have h2:=h a List.mem_cons_self
  rw [List.countP_cons,List.countP_cons]
  rcases List.mem_cons.1 hx with rfl|hx
  ·simp only [hq,hp,if_true];simp;omega
  ·have h3:=D7 (l:=l) (fun y hy=>h y (List.mem_cons_of_mem a hy)) ⟨x,hx,hq,hp⟩
   cases hpa:p a with
   |true=>simp [h2 hpa];omega
   |false=>simp;omega
noncomputable def rkF (n:Net) (emp:List Bool) (s:Nat):Nat:=(range n.aa.length).countP fun c=>dec (Rp (gE n emp) s c)
theorem rk_of {n:Net} {emp:List Bool} (hn:bt n) (hN:n.aa.length<=1000000) (h:r35 n emp=false):Rk n emp (rkF n emp) where
 step:=fun s hs e he x hx=>by
  have h0:=rQ hn emp (s:=((s:Nat):Int)) he x hx
  have hE:Edg (gE n emp) s x.toNat:=((gE_T hn emp hs x).1 (List.mem_flatMap.2 ⟨e,he,hx⟩)).2
  have hno: ¬Rp (gE n emp) x.toNat x.toNat:=fun hr=>nJ.1 (show fO (gE n emp)=false by rw [<-T8 hn];exact h) ⟨_,hr⟩
  refine ⟨h0,D7 (fun c _ hc=>aP.2 ((Rp.one hE).trans (aP.1 hc))) ⟨x.toNat,List.mem_range.2 oab,aP.2 (.one hE),nJ.2 hno⟩⟩
 top:=fun s=>Nat.le_trans (List.countP_le_length) (by rw [List.length_range];exact hN)
noncomputable def M7 (n:Net) (emp:List Bool) (ρ:Nat->Nat):Nat->Int->List Int->Int×List Int
 |0,_,k=>(0,k)
 |m+1,s,k=>r12 n emp ρ m (M7 n emp ρ m) s k
theorem Uw {n:Net} {emp:List Bool} {ρ:Nat->Nat} {m:Nat} {D:Int->List Int->Int×List Int} (hD:DOk n emp ρ m D) (hR:Rk n emp ρ) {s:Int} (hs:AtR n ρ (m+1) s) {kn:List Int} (hk:KI n ρ kn):KI n ρ (r12 n emp ρ m D s kn).2/\0<=(r12 n emp ρ m D s kn).1/\(r12 n emp ρ m D s kn).1<=(ρ s.toNat:Int):=by
 have hr:=hk.rng s.toNat oab
 unfold r12
 cases h:decide (ae kn s.toNat>0) with
 |true=>
  have h:=of_decide_eq_true h
  exact ⟨hk,by simp only [cond_true];omega,by simp only [cond_true];omega⟩
 |false=>
  obtain ⟨h1,h2,h3⟩:=ki12 hD hR hs hk _ (Nat.le_refl _)
  simp only [cond_false]
  refine ⟨⟨by rw [List.length_set];exact h1.len,fun t ht=> ?_⟩,h2,h3⟩
  rw [fx _ _ _ _ (by rw [h1.len];omega)]
  split
  ·rename_i e;subst e;omega
  ·exact h1.rng t ht
theorem M8 {n:Net} {emp:List Bool} {ρ:Nat->Nat} (hn:bt n) (hf:bp n) (he:length emp=length n.rules) (hR:Rk n emp ρ) (hm: ∀s,ρ s<=1000000): ∀m,m<=2000001->DOk n emp ρ m (M7 n emp ρ m)
 |0,_=>⟨fun _ _ h=>absurd h.2 (Nat.not_lt_zero _),fun _ _ h=>absurd h.2 (Nat.not_lt_zero _),fun _ _ h=>absurd h.2 (Nat.not_lt_zero _)⟩
 |m+1,hmm=>by
  have hD:=M8 hn hf he hR hm m oab
  exact ⟨fun x kn h hk=>aay n emp ρ m (M7 n emp ρ m) x kn hn hf he hR hD oab h hk,fun x kn h hk=>(Uw hD hR h hk).1,fun x kn h hk=>(Uw hD hR h hk).2⟩
theorem ki_0 (n:Net) (ρ:Nat->Nat):KI n ρ (replicate (length (map ak n.aa)) 0) where
 len:=by simp
 rng:=fun s hs=>by
  have:ae (replicate (length (map ak n.aa)) (0:Int)) s=0:=by
   unfold ae
   rw [List.getElem?_replicate]
   split<;>rfl
  omega
noncomputable def rk (n:Net):Nat->Nat:=rkF n (r25 n)
noncomputable def dF (n:Net):Int->List Int->Int×List Int:=M7 n (r25 n) (rk n) (length (map ak n.aa)+1)
structure Ends (n:Net):Prop where
 tU:bt n
 own:Own n
 fit:bp n
 ring:r35 n (r25 n)=false
theorem Ux (n:Net) (emp:List Bool) (s:Nat):rkF n emp s<=n.aa.length:=Nat.le_trans List.countP_le_length oai
theorem Uy {n:Net} (h:Ends n):DOk n (r25 n) (rk n) (length (map ak n.aa)+1) (dF n):=by
 have hR:=rk_of h.tU (Nat.le_trans h.fit.aa oab) h.ring
 exact M8 h.tU h.fit (eW n) hR (fun s=>Nat.le_trans (Ux n _ s) (Nat.le_trans h.fit.aa oab)) _ (by have:=h.fit.aa;rw [List.length_map];omega)
def i12b (n:Net) (x:Nat) (kn:List Int):lU:=⟨12,[.pf (aW n),I (x:Nat),I ((length (map ak n.aa)+1:Nat):Int),.sl 1 ((r25 n).map aA),.sr 0 1 0 (length (map ak n.aa))],[.row 3 1 (kn.map aO)],I (dF n x kn).1,[.row 3 1 ((dF n x kn).2.map aO)],x<n.aa.length/\KI n (rk n) kn⟩
theorem at12 {n:Net} {x:Nat} (hx:x<n.aa.length):AtR n (rk n) (length (map ak n.aa)+1) (x:Nat):=⟨by omega,by have:=Ux n (r25 n) x;simp only [List.length_map,Int.toNat_natCast,rk];omega⟩
theorem g12b {n:Net} (h:Ends n) (x:Nat) (kn:List Int):(i12b n x kn).b7 pg:=fun hp=>nD rfl ((Uy h).ret (x:Nat) kn (at12 hp.1) hp.2)
noncomputable def tgA (e:Edge):List Int:=[e.to]
theorem M9 {n:Net} (hn:bt n) {s:Int} {e:Edge} (h:e∈(aq n.aa s).ai): ∀x∈tgA e,0<=x/\x<(n.aa.length:Int):=fun x hx=>by
 rw [List.mem_singleton.1 hx]
 exact hn.to _ (rP h) _ h
def BQ:Code:=bP 0 (aH 4)
def aaz (n:Net) (i0:Nat) (y0:List Int):List Int:=(dF n (i0:Nat) y0).2
def fH (n:Net) (kk:Nat):List Int:=Nat.rec (motive:=fun _=>List Int) (replicate (length (map ak n.aa)) 0) (fun j a=>aaz n j a) kk
theorem ki4 {n:Net} (h:Ends n) (i:Nat) (hi:i<=n.aa.length):KI n (rk n) (fH n i):=by
 induction i with
 |zero=>exact ki_0 n (rk n)
 |succ i ih=>exact (Uy h).ki (i:Nat) _ (at12 oab) (ih oab)
def D8:Code:=bP 2 BQ
def Jg:Code:=bP 4 D8
def BR (n:Net) (i0:Nat) (w2:Nat×(List Bool)×(List Int)) (i4:Nat) (y4:Nat×(List Bool)×(List Int)):Nat×(List Bool)×(List Int):=(bif !(ae y4.2.1 (((ae (aq n.aa (ae w2.2.2 (w2.1-1))).ai i4).to).toNat)) then (y4.1+1,List.set y4.2.1 (((ae (aq n.aa (ae w2.2.2 (w2.1-1))).ai i4).to).toNat) true,List.take y4.1 y4.2.2++ [(ae (aq n.aa (ae w2.2.2 (w2.1-1))).ai i4).to]) else (y4.1,y4.2.1,y4.2.2))
def bS (n:Net) (i0:Nat) (w2:Nat×(List Bool)×(List Int)) (kk:Nat):Nat×(List Bool)×(List Int):=Nat.rec (motive:=fun _=>Nat×(List Bool)×(List Int)) (w2.1-1,w2.2.1,w2.2.2) (fun j a=>BR n i0 w2 j a) kk
theorem LJ (n:Net) (i0:Nat) (w:eO) (i:Nat) (y:eO):BR n i0 w i y=(tgA (ae (aq n.aa (ae w.2.2 (w.1-1))).ai i)).foldl fi y:=by
 unfold BR tgA
 generalize (ae (aq n.aa (ae w.2.2 (w.1-1))).ai i)=e
 obtain ⟨k,inb,todo⟩:=y
 simp only [List.foldl_cons,List.foldl_nil,fi]
theorem Uz {n:Net} (hn:bt n) (i0:Nat) {w:eO} (hw:SI n.aa.length (n.aa.length+1) w) (i:Nat) (hi:i<=(aq n.aa (ae w.2.2 (w.1-1))).ai.length):SI n.aa.length n.aa.length (bS n i0 w i)/\2*cf (bS n i0 w i).2.1+(bS n i0 w i).1<=2*cf w.2.1+(w.1-1):=by
 induction i with
 |zero=>exact ⟨hw.pop,Nat.le_refl _⟩
 |succ i ih=>
  obtain ⟨h1,h2⟩:=ih oab
  show SI _ _ (BR n i0 w i (bS n i0 w i))/\_
  rw [LJ]
  have hst:bS n i0 w (i+1)=BR n i0 w i (bS n i0 w i):=rfl
  rw [hst,LJ]
  obtain ⟨h3,h4⟩:=SI.fold (tgA (ae (aq n.aa (ae w.2.2 (w.1-1))).ai i)) h1 (M9 hn (ay oab))
  exact ⟨h3,by omega⟩
def pU (n:Net) (i0:Nat) (w2:Nat×(List Bool)×(List Int)) (i4:Nat) (y4:Nat×(List Bool)×(List Int)):Am.Loc:=[(1,.pf (aW n)),(3,.sl 1 (zBX n)),(4,.pf (aW n)),(5,.sr 0 1 0 (zY n)),(6,I (i0:Int)),(7,.sr 1 1 0 (zY n)),(8,.sr 2 1 0 y4.1),(41,I (length (zA n):Int)),(42,I (i0:Int)),(83,.sl 10 (map aV (zD n w2))),(84,I (length (map aV (zD n w2)):Int)),(85,I (i4:Int))]
abbrev zBc (i0:Nat) (n:Net):=(map aO ((dF n (i0:Nat) (fH n i0)).2))
def pV (n:Net) (i0:Nat) (w2:Nat×(List Bool)×(List Int)) (i4:Nat) (y4:Nat×(List Bool)×(List Int)):List Ob:=[.row 3 1 (zBc i0 n),.row 4 1 (map aA y4.2.1),.row 3 1 (map aO y4.2.2)]
def vc (n:Net) (i0:Nat) (w2:Nat×(List Bool)×(List Int)) (i4:Nat):Am.Loc:=pU n i0 w2 i4 (bS n i0 w2 i4)
def vd (n:Net) (i0:Nat) (w2:Nat×(List Bool)×(List Int)) (i4:Nat):List Ob:=pV n i0 w2 i4 (bS n i0 w2 i4)
def BS (n:Net) (i0:Nat) (w2:Nat×(List Bool)×(List Int)) (i4:Nat):Bool:=false
def WI (n:Net) (i0:Nat) (w2:Nat×(List Bool)×(List Int)):Bool:=false
def GW (n:Net) (i0:Nat) (w2:Nat×(List Bool)×(List Int)) (i4:Nat):Am.Loc:=[]
def GX (n:Net) (i0:Nat) (w2:Nat×(List Bool)×(List Int)) (i4:Nat):List Ob:=[]
def pW (n:Net) (i0:Nat) (w2:Nat×(List Bool)×(List Int)):Am.Loc:=[(1,.pf (aW n)),(3,.sl 1 (zBX n)),(4,.pf (aW n)),(5,.sr 0 1 0 (zY n)),(6,I (i0:Int)),(7,.sr 1 1 0 (zY n)),(8,.sr 2 1 0 ((bS n i0 w2 (zAP n w2)).1)),(41,I (length (zA n):Int)),(42,I (i0:Int))]
def pX (n:Net) (i0:Nat) (w2:Nat×(List Bool)×(List Int)):List Ob:=[.row 3 1 (zBc i0 n),.row 4 1 (map aA ((bS n i0 w2 (zAP n w2)).2.1)),.row 3 1 (map aO ((bS n i0 w2 (zAP n w2)).2.2))]
def BT (n:Net) (i0:Nat) (w2:Nat×(List Bool)×(List Int)):KB:=⟨vc n i0 w2 0,vd n i0 w2 0,WI n i0 w2,.ret,GW n i0 w2 (b4 (zAP n w2) (BS n i0 w2)),GX n i0 w2 (b4 (zAP n w2) (BS n i0 w2)),.normal,pW n i0 w2,pX n i0 w2,(zAA w2)=true⟩
def D9 (n:Net) (i0:Nat) (w2:Nat×(List Bool)×(List Int)) (i4:Nat):List bG:=[nxW (BS n i0 w2 i4) (vc n i0 w2 (i4+1)) (vd n i0 w2 (i4+1)) (pU n i0 w2 (i4+1) ((bS n i0 w2 i4).1+1,List.set ((bS n i0 w2 i4).2.1) (((ae (zD n w2) i4).to).toNat) true,List.take ((bS n i0 w2 i4).1) ((bS n i0 w2 i4).2.2)++ [(ae (zD n w2) i4).to])) [0,1,4] (pV n i0 w2 (i4+1) ((bS n i0 w2 i4).1+1,List.set ((bS n i0 w2 i4).2.1) (((ae (zD n w2) i4).to).toNat) true,List.take ((bS n i0 w2 i4).1) ((bS n i0 w2 i4).2.2)++ [(ae (zD n w2) i4).to])),nxW (BS n i0 w2 i4) (vc n i0 w2 (i4+1)) (vd n i0 w2 (i4+1)) (pU n i0 w2 (i4+1) ((bS n i0 w2 i4).1,(bS n i0 w2 i4).2.1,(bS n i0 w2 i4).2.2)) zCa (pV n i0 w2 (i4+1) ((bS n i0 w2 i4).1,(bS n i0 w2 i4).2.1,(bS n i0 w2 i4).2.2))]
def XM (n:Net) (i0:Nat) (w2:Nat×(List Bool)×(List Int)) (i4:Nat):GT:=(.r [.k,bT] (.yes (.r [.row (aV (ae (aq n.aa (ae w2.2.2 (w2.1-1))).ai i4)),bT] (.r [.cd (((ae (aq n.aa (ae w2.2.2 (w2.1-1))).ai i4).to).toNat) [],.at (((ae (aq n.aa (ae w2.2.2 (w2.1-1))).ai i4).to).toNat) 0 (aA (ae ((bS n i0 w2 i4).2.1) (((ae (aq n.aa (ae w2.2.2 (w2.1-1))).ai i4).to).toNat))),bT] (.br (.r [.cd (((ae (aq n.aa (ae w2.2.2 (w2.1-1))).ai i4).to).toNat) [],.at (((ae (aq n.aa (ae w2.2.2 (w2.1-1))).ai i4).to).toNat) 0 (aA (ae ((bS n i0 w2 i4).2.1) (((ae (aq n.aa (ae w2.2.2 (w2.1-1))).ai i4).to).toNat))),bT] (.r [bT] (.r [.int ↑(i4+1),bT] (.pick 0)))) (.r [.int ↑(i4+1),bT] (.pick 1)))))))
theorem aaA (n:Net) (i0:Nat) (w2:Nat×(List Bool)×(List Int)) (i4:Nat) (hm:gN n) (hE:Ends n) (hx:jB n) (hA:(zCE n)=false) (hx0:i0<(length n.aa)) (hw2:SI (length n.aa) (length n.aa+1) w2) (hp4:(zAA w2)=true) (hx4:i4<(length (aq n.aa (ae w2.2.2 (w2.1-1))).ai)):vcC pg 122 base aK 3000 (kbL []) Jg (bz (vc n i0 w2 i4)) (bw (vd n i0 w2 i4)) 3 (bM (D9 n i0 w2 i4)) (XM n i0 w2 i4):=
 have hf:=hE.fit;have hn:=hE.tU;have hr:=hf.rules;have hs:=hf.aa;have hrl:=eW n;have gp0:=of_decide_eq_true hp4;have hk2:=hw2.kt;have hl2:=hw2.len;have hb2:=hw2.bd;have hs2:0<w2.1->(0<=ae w2.2.2 (w2.1-1)/\ae w2.2.2 (w2.1-1)<(length n.aa:Int)):=fun h=>hw2.rng _ (ay oab);have he:=hf.ai;have hm4:(aq n.aa (ae w2.2.2 (w2.1-1)))∈Net.aa n:=rP (ay hx4);have hel:=hf.ai _ hm4;have hto:=hn.to _ hm4 _ (ay hx4);have hsi:=(Uz hn i0 hw2 i4 (Nat.le_of_lt hx4)).1;have b1:=hsi.len;have b2:=hsi.kt;have b3:=hsi.bd;have l1:=aU aV ((aq n.aa (ae w2.2.2 (w2.1-1))).ai);have hb:(decide ((i4:Int)<(length (map aV (aq n.aa (ae w2.2.2 (w2.1-1))).ai):Int)))=true:=decide_eq_true oab;
 bc (an (a1 a0)
 (an hb (an (ac (rwa aV (aq n.aa (ae w2.2.2 (w2.1-1))).ai i4) a0)
 (have l2:=aU ak (n.aa);an (ac (ato 1 0 (((ae (aq n.aa (ae w2.2.2 (w2.1-1))).ai i4).to).toNat) (rl aA ((bS n i0 w2 i4).2.1))) (ac (ixz (ae (aq n.aa (ae w2.2.2 (w2.1-1))).ai i4).to (length (map ak n.aa))) a0))
 (brP (fun (h1:(!(ae ((bS n i0 w2 i4).2.1) (((ae (aq n.aa (ae w2.2.2 (w2.1-1))).ai i4).to).toNat)))=true)=>
 (an (ac (sto 1 0 1 (((ae (aq n.aa (ae w2.2.2 (w2.1-1))).ai i4).to).toNat) (rl aA ((bS n i0 w2 i4).2.1))) (ac (ixz (ae (aq n.aa (ae w2.2.2 (w2.1-1))).ai i4).to (length (map ak n.aa))) a0))
 (an (ac (apo ((bS n i0 w2 i4).1) 8 (rl aO ((bS n i0 w2 i4).2.2))) a0)
 (an (ac (dwo ((i4+1:Nat):Int)) a0)
 (lfE (wy (D9 n i0 w2 i4) 0) 5 (nxP (pU n i0 w2 (i4+1)) (pV n i0 w2 (i4+1)) (show BS n i0 w2 i4=false from rfl) (show bS n i0 w2 (i4+1)=((bS n i0 w2 i4).1+1,List.set ((bS n i0 w2 i4).2.1) (((ae (aq n.aa (ae w2.2.2 (w2.1-1))).ai i4).to).toNat) true,List.take ((bS n i0 w2 i4).1) ((bS n i0 w2 i4).2.2)++ [(ae (aq n.aa (ae w2.2.2 (w2.1-1))).ai i4).to]) from (cdT h1 rfl))) (bq (rfl:(.row 3 1 (map aO ((dF n (i0:Nat) (fH n i0)).2)):Ob)= .row 3 1 (map aO ((dF n (i0:Nat) (fH n i0)).2))) (bq (congrArg (fun z=>Ob.row 4 1 z) (jr (f:=aA) (rl aA ((bS n i0 w2 i4).2.1)) (((ae (aq n.aa (ae w2.2.2 (w2.1-1))).ai i4).to).toNat) true)) (bq (congrArg (fun z=>Ob.row 3 1 z) (apT (f:=aO) (rl aO ((bS n i0 w2 i4).2.2)) ((bS n i0 w2 i4).1) (ae (aq n.aa (ae w2.2.2 (w2.1-1))).ai i4).to)) dZ)))))))) (fun h1=>
 (an (ac (dwo ((i4+1:Nat):Int)) a0)
 (lf (wy (D9 n i0 w2 i4) 1) 4 (nxP (pU n i0 w2 (i4+1)) (pV n i0 w2 (i4+1)) (show BS n i0 w2 i4=false from rfl) (show bS n i0 w2 (i4+1)=((bS n i0 w2 i4).1,(bS n i0 w2 i4).2.1,(bS n i0 w2 i4).2.2) from (cdF h1 rfl)))))))))))
 oaa
theorem aaB (n:Net) (i0:Nat) (w2:Nat×(List Bool)×(List Int)) (hm:gN n) (hE:Ends n) (hx:jB n) (hA:(zCE n)=false) (hx0:i0<(length n.aa)) (hw2:SI (length n.aa) (length n.aa+1) w2) (hp4:(zAA w2)=true):vcC pg 122 base aK 3000 (kbL []) Jg (bz (vc n i0 w2 (zAP n w2))) (bw (vd n i0 w2 (zAP n w2))) 3 (bM [⟨True,(.exit 4),pW n i0 w2,range 3,pX n i0 w2⟩]) zG:=
 have hf:=hE.fit;have hn:=hE.tU;have hr:=hf.rules;have hs:=hf.aa;have hrl:=eW n;have gp0:=of_decide_eq_true hp4;have hk2:=hw2.kt;have hl2:=hw2.len;have hb2:=hw2.bd;have hs2:0<w2.1->(0<=ae w2.2.2 (w2.1-1)/\ae w2.2.2 (w2.1-1)<(length n.aa:Int)):=fun h=>hw2.rng _ (ay oab);have l1:=aU aV ((aq n.aa (ae w2.2.2 (w2.1-1))).ai);have hb:(zBR n w2)=false:=decide_eq_false oab;
 bc (an (a1 a0)
 (an hb (lf (wy [⟨True,(.exit 4),pW n i0 w2,range 3,pX n i0 w2⟩] 0) 3 trivial)))
 oaa
theorem UA (n:Net) (i0:Nat) (w2:Nat×(List Bool)×(List Int)) (i4:Nat):(D9 n i0 w2 i4).all zj=true:=by refine (aF (aR rfl rfl rfl ?_ ?_) (aF (aR rfl rfl rfl ?_ ?_) bC))<;>simp (maxDischargeDepth:=9) [nxW,htW,pU,vc,GW,pW,plS,AV.pure,ah,aj,pV,vd,GX,pX,plO,eC,dG]
theorem UB (n:Net) (i0:Nat) (w2:Nat×(List Bool)×(List Int)):bG.cS 0 ⟨True,(.exit 4),pW n i0 w2,range 3,pX n i0 w2⟩=true:=by refine (aR rfl rfl rfl ?_ ?_)<;>simp (maxDischargeDepth:=9) [nxW,htW,pU,vc,GW,pW,plS,AV.pure,ah,aj,pV,vd,GX,pX,plO,eC,dG]
theorem UC (n:Net) (i0:Nat) (w2:Nat×(List Bool)×(List Int)) (hm:gN n) (hE:Ends n) (hx:jB n) (hA:(zCE n)=false) (hx0:i0<(length n.aa)) (hw2:SI (length n.aa) (length n.aa+1) w2):cQ pg 122 0 4 (.loop Jg) (BT n i0 w2):=
 have hf:=hE.fit;have hn:=hE.tU;have hr:=hf.rules;have hs:=hf.aa;have hrl:=eW n;iZ (fun hp4=>eB (id:=4) (m:=length (aq n.aa (ae w2.2.2 (w2.1-1))).ai) (t:=BS n i0 w2) (xr:= .ret) (xn:=(.exit 4)) (Lr:=GW n i0 w2) (Lx:=pW n i0 w2) (obr:=GX n i0 w2) (obx:=pX n i0 w2) (V:=fun i4=>vcC pg 122 base aK 3000 (kbL []) Jg) (vc n i0 w2) (vd n i0 w2) 3 (D9 n i0 w2) (XM n i0 w2) _ _ (fun i4 hx4=>aL aw mixed (az _)) (aL aw mixed (az _)) (fun e=>by cases e) (fun e=>by cases e) (fun _=>rfl) (fun i4 hx4=>aaA n i0 w2 i4 hm hE hx hA hx0 hw2 hp4 hx4) (fun i4 _=>UA n i0 w2 i4) (fun i4 _=>show∀ww∈D9 n i0 w2 i4,cm _ _ _ _ _ _ ww from (aC bU (aC bU bB))) (aaB n i0 w2 hm hE hx hA hx0 hw2 hp4) (UB n i0 w2)) (fun _=>rfl) rfl (fun h=>h)
def pY (n:Net) (i0:Nat) (w2:Nat×(List Bool)×(List Int)):Nat×(List Bool)×(List Int):=((bS n i0 w2 (length (aq n.aa (ae w2.2.2 (w2.1-1))).ai)).1,(bS n i0 w2 (length (aq n.aa (ae w2.2.2 (w2.1-1))).ai)).2.1,(bS n i0 w2 (length (aq n.aa (ae w2.2.2 (w2.1-1))).ai)).2.2)
def cY (n:Net) (i0 kk:Nat):Nat×(List Bool)×(List Int):=Nat.rec (motive:=fun _=>Nat×(List Bool)×(List Int)) (1,List.set (replicate (length (map ak n.aa)) false) i0 true,[(i0:Int)]) (fun _ a=>pY n i0 a) kk
def jE (n:Net) (i0:Nat) (w2:Nat×(List Bool)×(List Int)):Bool:=(!(decide (((w2.1:Nat):Int)>0)))
def XN (n:Net) (i0:Nat) (w2:Nat×(List Bool)×(List Int)):Bool:=false
def gH (n:Net) (i0:Nat):Nat×(List Bool)×(List Int):=cY n i0 (dA (jE n i0) (cY n i0))
theorem inv4 {n:Net} (hn:bt n) (i0:Nat) (hi:i0<n.aa.length): ∀k,SI n.aa.length (n.aa.length+1) (cY n i0 k)
 |0=>⟨by show (List.set (replicate _ _) _ _).length=_;simp,Nat.le_refl _,fun x hx=>by
   have hx:x∈ [(i0:Int)]:=hx
   simp only [List.mem_singleton] at hx
   omega,by
   show 1+cf (List.set (replicate _ _) _ _)<=_
   have:=MK (List.set (replicate (length (map ak n.aa)) false) i0 true)
   simp only [List.length_replicate,List.length_map,List.length_set] at this⊢
   omega⟩
 |k+1=>(Uz hn i0 (inv4 hn i0 hi k) _ (Nat.le_refl _)).1.up (Nat.le_succ _)
theorem UD {n:Net} (hn:bt n) (i0:Nat) (hi:i0<n.aa.length):(∃k,jE n i0 (cY n i0 k)=true)/\ ∀k,k<=dA (jE n i0) (cY n i0)->SI n.aa.length (n.aa.length+1) (cY n i0 k):=by
 refine ⟨?_,fun k _=>inv4 hn i0 hi k⟩
 by_cases h: ∃k,jE n i0 (cY n i0 k)=true
 ·exact h
 ·have h: ∀k,0<(cY n i0 k).1:=fun k=>by
   have hk:jE n i0 (cY n i0 k)≠true:=fun e=>h ⟨k,e⟩
   by_cases h0:0<(cY n i0 k).1
   ·exact h0
   ·refine absurd ?_ hk
    unfold jE
    rw [show decide ((((cY n i0 k).1:Nat):Int)>0)=false from decide_eq_false oab]
    rfl
  have key: ∀k,2*cf (cY n i0 k).2.1+(cY n i0 k).1+k<=2*cf (cY n i0 0).2.1+(cY n i0 0).1:=fun k=>by
   induction k with
   |zero=>exact Nat.le_refl _
   |succ k ih=>
    have h1:=(Uz hn i0 (inv4 hn i0 hi k) _ (Nat.le_refl _)).2
    have h2:=h k
    have h3:cY n i0 (k+1)=bS n i0 (cY n i0 k) (length (aq n.aa (ae (cY n i0 k).2.2 ((cY n i0 k).1-1))).ai):=rfl
    rw [h3]
    omega
  have:=key (2*cf (cY n i0 0).2.1+(cY n i0 0).1+1)
  omega
def BU (n:Net) (i0:Nat) (w2:Nat×(List Bool)×(List Int)):Am.Loc:=[(1,.pf (aW n)),(3,.sl 1 (zBX n)),(4,.pf (aW n)),(5,.sr 0 1 0 (zY n)),(6,I (i0:Int)),(7,.sr 1 1 0 (zY n)),(8,.sr 2 1 0 w2.1),(41,I (length (zA n):Int)),(42,I (i0:Int))]
def LK (n:Net) (i0:Nat) (w2:Nat×(List Bool)×(List Int)):Am.Loc:=[]
def GY (n:Net) (i0:Nat) (w2:Nat×(List Bool)×(List Int)):Am.Loc:=[(1,.pf (aW n)),(3,.sl 1 (zBX n)),(4,.pf (aW n)),(5,.sr 0 1 0 (zY n)),(6,I (i0:Int)),(7,.sr 1 1 0 (zY n)),(41,I (length (zA n):Int)),(42,I (i0:Int))]
def BV (n:Net) (i0:Nat) (w2:Nat×(List Bool)×(List Int)):List Ob:=[.row 3 1 (zBc i0 n),.row 4 1 (map aA w2.2.1),.row 3 1 (map aO w2.2.2)]
def LL (n:Net) (i0:Nat) (w2:Nat×(List Bool)×(List Int)):List Ob:=[]
def GZ (n:Net) (i0:Nat) (w2:Nat×(List Bool)×(List Int)):List Ob:=[.row 3 1 (zBc i0 n),.row 4 1 (map aA w2.2.1),.row 3 1 (map aO w2.2.2)]
def tV (n:Net) (i0:Nat):KB:=⟨BU n i0 (cY n i0 0),BV n i0 (cY n i0 0),false,.ret,LK n i0 (gH n i0),LL n i0 (gH n i0),.normal,GY n i0 (gH n i0),GZ n i0 (gH n i0),(∃k,jE n i0 (cY n i0 k)=true)/\ ∀k,k<=dA (jE n i0) (cY n i0)->SI (zH n) (length n.aa+1) (cY n i0 k)⟩
def Ea (n:Net) (i0:Nat) (w2:Nat×(List Bool)×(List Int)):List bG:=[nxW (jE n i0 w2) (BU n i0 (pY n i0 w2)) (BV n i0 (pY n i0 w2)) (BU n i0 ((bS n i0 w2 (zAP n w2)).1,(bS n i0 w2 (zAP n w2)).2.1,(bS n i0 w2 (zAP n w2)).2.2)) zCa (BV n i0 ((bS n i0 w2 (zAP n w2)).1,(bS n i0 w2 (zAP n w2)).2.1,(bS n i0 w2 (zAP n w2)).2.2)),wxW (jE n i0 w2) (XN n i0 w2) (.exit 2) (GY n i0 w2) zCa (GZ n i0 w2)]
def XO (n:Net) (i0:Nat) (w2:Nat×(List Bool)×(List Int)):GT:=(.r [.k,bT] (.br (.r [.int ((w2.1-1:Nat):Int),.at (w2.1-1) 0 (aO (ae w2.2.2 (w2.1-1))),bT] (.r [.int ((w2.1-1:Nat):Int),bT] (.r [.cd ((ae w2.2.2 (w2.1-1))).toNat (ak (aq n.aa (ae w2.2.2 (w2.1-1)))),bT] (.no (.pick 0))))) (.pick 1)))
theorem aaC (n:Net) (i0:Nat) (w2:Nat×(List Bool)×(List Int)) (hm:gN n) (hE:Ends n) (hx:jB n) (hA:(zCE n)=false) (hx0:i0<(length n.aa)) (hw2:SI (length n.aa) (length n.aa+1) w2):vcC pg 122 base aK 3000 (kbL [(4,BT n i0 w2)]) D8 (bz (BU n i0 w2)) (bw (BV n i0 w2)) 3 (bM (Ea n i0 w2)) (XO n i0 w2):=
 have hf:=hE.fit;have hn:=hE.tU;have hr:=hf.rules;have hs:=hf.aa;have hrl:=eW n;have hk2:=hw2.kt;have hl2:=hw2.len;have hb2:=hw2.bd;have hs2:0<w2.1->(0<=ae w2.2.2 (w2.1-1)/\ae w2.2.2 (w2.1-1)<(length n.aa:Int)):=fun h=>hw2.rng _ (ay oab);bc (an (a1 a0)
 (brP (fun (h0:(zAA w2)=true)=>have g0:=of_decide_eq_true h0;
 (an (ac (ato 1 0 (w2.1-1) (rl aO w2.2.2)) (ac (ixo (w2.1-1) w2.1) (ac (dso w2.1) a0)))
 (an (ac (slo 0 (w2.1-1) w2.1) (ac (dso w2.1) a0))
 (have l1:=aU ak (n.aa);an (ac (rwz ak n.aa (ae w2.2.2 (w2.1-1))) a0)
 (an (kbT (BT n i0 w2) h0) (an (rfl:false=false) (lf (wy (Ea n i0 w2) 0) 3 (nxP (BU n i0) (BV n i0) (show jE n i0 w2=false from (cq h0)) (show (pY n i0 w2)=((bS n i0 w2 (length (aq n.aa (ae w2.2.2 (w2.1-1))).ai)).1,(bS n i0 w2 (length (aq n.aa (ae w2.2.2 (w2.1-1))).ai)).2.1,(bS n i0 w2 (length (aq n.aa (ae w2.2.2 (w2.1-1))).ai)).2.2) from rfl))))))))) (fun h0=>
 (lf (wy (Ea n i0 w2) 1) 3 ⟨show jE n i0 w2=true from (au h0),rfl⟩))))
 oaa
theorem UE (n:Net) (i0:Nat) (w2:Nat×(List Bool)×(List Int)):(Ea n i0 w2).all zj=true:=by refine (aF (aR rfl rfl rfl ?_ ?_) (aF (aR rfl rfl rfl ?_ ?_) bC))<;>simp (maxDischargeDepth:=9) [nxW,whW,wxW,BU,LK,GY,plS,AV.pure,ah,aj,BV,LL,GZ,plO,eC,dG]
theorem G0:dp [4] D8=[(4,.loop Jg)]:=by kernel_rfl
theorem UF (n:Net) (i0:Nat) (hm:gN n) (hE:Ends n) (hx:jB n) (hA:(zCE n)=false) (hx0:i0<(length n.aa)):cQ pg 122 0 2 (.loop D8) (tV n i0):=
 have hf:=hE.fit;have hn:=hE.tU;have hr:=hf.rules;have hs:=hf.aa;have hrl:=eW n;x9 (fun hp2=>sO (id:=2) (t:=jE n i0) (hit:=XN n i0) (it:=cY n i0) (step:=pY n i0) (fun _=>rfl) (I:=fun w2=>SI (length n.aa) (length n.aa+1) w2) (xr:= .ret) (xn:=(.exit 2)) (Lr:=LK n i0) (Lx:=GY n i0) (obr:=LL n i0) (obx:=GZ n i0) (V:=fun w2=>vcC pg 122 base aK 3000 (kbL [(4,BT n i0 w2)]) D8) (BU n i0) (BV n i0) 3 (Ea n i0) (XO n i0) (fun w2 hw2=>aL aw mixed (bK (l:=[(4,BT n i0 w2)]) G0 (aT (UC n i0 w2 hm hE hx hA hx0 hw2) rfl bj) rfl)) (fun e=>by cases e) (fun e=>by cases e) (fun _=>rfl) (fun w2 hw2=>aaC n i0 w2 hm hE hx hA hx0 hw2) (fun w2 _=>UE n i0 w2) (fun w2 _=>show∀ww∈Ea n i0 w2,lF _ _ _ _ _ _ _ _ _ _ ww from (aC nK (aC sN bB))) hp2.1 hp2.2) rfl rfl (fun h=>h)
def BW (n:Net) (i0:Nat) (y0:List Int):List Ob:=[.row 3 1 (map aO y0)]
def ve (n:Net) (i0:Nat):Am.Loc:=[(1,.pf (aW n)),(3,.sl 1 (zBX n)),(4,.pf (aW n)),(5,.sr 0 1 0 (zY n)),(41,I (length (zA n):Int)),(42,I (i0:Int))]
def BX (n:Net) (i0:Nat):List Ob:=BW n i0 (fH n i0)
def sq (n:Net) (i0:Nat):Bool:=(!(ae ((gH n i0).2.1) (((aq n.rules (ae n.aa i0).aI).stop).toNat)))
def wI (n:Net):Bool:=cX (length n.aa) (sq n)
def G3 (n:Net) (i0:Nat):Am.Loc:=[(2,B false)]
def BY (n:Net) (i0:Nat):List Ob:=[]
def tW (n:Net):Am.Loc:=[]
def pZ (n:Net):List Ob:=[.row 3 1 (map aO (fH n (zH n)))]
def BZ (n:Net):KB:=⟨ve n 0,BX n 0,wI n,.ret,G3 n (b4 (zH n) (sq n)),BY n (b4 (zH n) (sq n)),.normal,tW n,pZ n,True⟩
def Eb (n:Net) (i0:Nat):List bG:=[htW (sq n i0) .ret (G3 n i0) zb (BY n i0),nxW (sq n i0) (ve n (i0+1)) (BX n (i0+1)) (ve n (i0+1)) zAO (BW n (i0+1) ((dF n (i0:Nat) (fH n i0)).2))]
def XP (n:Net) (i0:Nat):GT:=(.r [.k,bT] (.yes (.r [bT] (.r [.int ((length (map ak n.aa)+1:Nat):Int),.cd 0 [],.k,bT] (.no (.r [bT] (.r [.at i0 0 (aA (ae (replicate (length (map ak n.aa)) false) i0)),bT] (.r [bT] (.no (.r [.row (ak (ae n.aa i0)),.cd ((ae n.aa i0).aI).toNat (aE (aq n.rules (ae n.aa i0).aI)),.cd (((aq n.rules (ae n.aa i0).aI).stop).toNat) [],.at (((aq n.rules (ae n.aa i0).aI).stop).toNat) 0 (aA (ae ((gH n i0).2.1) (((aq n.rules (ae n.aa i0).aI).stop).toNat))),bT] (.br (.r [bT] (.pick 0)) (.r [.int ↑(i0+1),bT] (.pick 1)))))))))))))
theorem aaD (n:Net) (i0:Nat) (hm:gN n) (hE:Ends n) (hx:jB n) (hA:(zCE n)=false) (hx0:i0<(length n.aa)):vcC pg 122 (sR [i12b n i0 (fH n i0)] base) aK 3000 (kbL [(2,tV n i0)]) BQ (bz (ve n i0)) (bw (BX n i0)) 1 (bM (Eb n i0)) (XP n i0):=
 have hf:=hE.fit;have hn:=hE.tU;have hr:=hf.rules;have hs:=hf.aa;have hrl:=eW n;have hk0:=ki4 hE i0 (Nat.le_of_lt hx0);have hkl:=hk0.len;have hdn:=((Uy hE).le (i0:Nat) _ (at12 hx0) hk0).1;have hru:=hE.own.aI _ (ay hx0);have hsp:=hn.stop _ (fN (.inr hru));have hel2:length (gH n i0).2.1=length n.aa:=((UD hn i0 hx0).2 _ (Nat.le_refl _)).len;have l1:=aU ak (n.aa);have hb:(zc i0 n)=true:=decide_eq_true oab;
 bc (an (a1 a0)
 (an hb (an a0
 (an (a1 (ac (qU (c:=i12b n i0 (fH n i0)) ⟨hx0,hk0⟩ rfl) (ac (dwo ((length (map ak n.aa)+1:Nat):Int)) a0)))
 (an (show (decide (((dF n (i0:Nat) (fH n i0)).1)<0))=false from (decide_eq_false oab)) (an (ac (mko (length (map ak n.aa)) 1) a0)
 (an (ac (sto 1 0 1 i0 (EU (f:=aA) (length (map ak n.aa)) false) (by simp only [List.length_replicate];omega)) (ac (ixo i0 (length (map ak n.aa))) a0))
 (an a0
 (an (Ch (tV n i0) (S:=nm (KB.L0 (tV n i0))) rfl (bq (rfl:(.row 3 1 (map aO ((dF n (i0:Nat) (fH n i0)).2)):Ob)= .row 3 1 (map aO ((dF n (i0:Nat) (fH n i0)).2))) (bq (congrArg (fun z=>Ob.row 4 1 z) (jr (f:=aA) (EU (f:=aA) (length (map ak n.aa)) false) i0 true)) (bq (rfl:(.row 3 1 [(cH i0)]:Ob)= .row 3 1 [(cH i0)]) dZ))) (UD hn i0 hx0)) (an (rfl:false=false) (have l2:=aU aE (n.rules);an (ac (ato 1 0 (((aq n.rules (ae n.aa i0).aI).stop).toNat) (rl aA ((gH n i0).2.1))) (ac (ixz (aq n.rules (ae n.aa i0).aI).stop (length (map ak n.aa))) (ac (rwz aE n.rules (ae n.aa i0).aI) (ac (rwa ak n.aa i0) a0))))
 (brP (fun (h1:(!(ae ((gH n i0).2.1) (((aq n.rules (ae n.aa i0).aI).stop).toNat)))=true)=>
 (an a0
 (lf (wy (Eb n i0) 0) 3 (show sq n i0=true from h1)))) (fun h1=>
 (an (ac (dwo ((i0+1:Nat):Int)) a0)
 (lf (wy (Eb n i0) 1) 3 (nxP (fun _=>ve n (i0+1)) (BW n (i0+1)) (show sq n i0=false from h1) (show fH n (i0+1)=((dF n (i0:Nat) (fH n i0)).2) from rfl)))))))))))))))))
 oaa
theorem aaE (n:Net) (hm:gN n) (hE:Ends n) (hx:jB n) (hA:(zCE n)=false):vcC pg 122 base aK 3000 (kbL []) BQ (bz (ve n (zH n))) (bw (BX n (zH n))) 1 (bM [⟨True,(.exit 0),tW n,range 1,pZ n⟩]) zG:=
 have hf:=hE.fit;have hn:=hE.tU;have hr:=hf.rules;have hs:=hf.aa;have hrl:=eW n;have l1:=aU ak (n.aa);have hb:(zO n)=false:=decide_eq_false oab;
 bc (an (a1 a0)
 (an hb (lf (wy [⟨True,(.exit 0),tW n,range 1,pZ n⟩] 0) 1 trivial)))
 oaa
theorem UG (n:Net) (i0:Nat):(Eb n i0).all zj=true:=by refine (aF (aR rfl rfl rfl ?_ ?_) (aF (aR rfl rfl rfl ?_ ?_) bC))<;>simp (maxDischargeDepth:=9) [nxW,htW,ve,G3,tW,plS,AV.pure,ah,aj,BW,BX,BY,pZ,plO,eC,dG]
theorem UH (n:Net):bG.cS 0 ⟨True,(.exit 0),tW n,range 1,pZ n⟩=true:=(aR rfl rfl rfl rfl (by simp (maxDischargeDepth:=9) [nxW,htW,BW,BX,BY,pZ,plS,plO,eC,dG,AV.pure,ah,aj]))
theorem G4:dp [2] BQ=[(2,.loop D8)]:=by kernel_rfl
theorem UI (n:Net) (hm:gN n) (hE:Ends n) (hx:jB n) (hA:(zCE n)=false):cQ pg 122 0 0 (.loop BQ) (BZ n):=
 have hf:=hE.fit;have hn:=hE.tU;have hr:=hf.rules;have hs:=hf.aa;have hrl:=eW n;bW (fun _=>eB (id:=0) (m:=length n.aa) (t:=sq n) (xr:= .ret) (xn:=(.exit 0)) (Lr:=G3 n) (Lx:=tW n) (obr:=BY n) (obx:=pZ n) (V:=fun i0=>vcC pg 122 (sR [i12b n i0 (fH n i0)] base) aK 3000 (kbL [(2,tV n i0)]) BQ) (ve n) (BX n) 1 (Eb n) (XP n) _ _ (fun i0 hx0=>aL (C6 (.cons (g12b hE i0 (fH n i0)) uu.nil) aw) mixed (bK (l:=[(2,tV n i0)]) G4 (aT (UF n i0 hm hE hx hA hx0) rfl bj) rfl)) (aL aw mixed (az _)) (fun e=>by cases e) (fun e=>by cases e) (fun _=>rfl) (fun i0 hx0=>aaD n i0 hm hE hx hA hx0) (fun i0 _=>UG n i0) (fun i0 _=>show∀ww∈Eb n i0,cm _ _ _ _ _ _ ww from (aC cT (aC bU bB))) (aaE n hm hE hx hA) (UH n)) (fun h=>h) (fun h=>h)
def r4b (n:Net):Bool:=((r6 n)||(!((length (map aA (r25 n)):Int) !=(length (map aE n.rules):Int))&&(!(wI n))))
theorem B0:dp [0] (aH 4)=[(0,.loop BQ)]:=by kernel_rfl
theorem law4b (n:Net) (hm:gN n) (hE:Ends n) (hx:jB n) (hA:(zCE n)=false):bg pg 4 [.ag (aW n)] [] [] (B (r4b n)) []:=
 have hf:=hE.fit;have hn:=hE.tU;have hr:=hf.rules;have hs:=hf.aa;have hrl:=eW n;bD (fn:=Tryz.f4) (callf:=(bI [i6 n,i7,Uq n,i8b n] base)) (pu:=aK) (lf:=3000) (l:=[(0,BZ n)]) (t:=(.r [bT] (.r [.int 0,bT] (.br zBk (.r [.int 2,.k,bT] (.no (.r [.int 3,bT] (.r [.k,bT] (.br zF (.r [bT] (.r [bT] (.r [bT] (.br .nil zBk))))))))))))) (bo (.cons (g6 n) rfl (.cons g7 rfl (.cons (g11y n) rfl (.cons (g8b n) rfl cr.nil)))) aw) mixed Tryz.func4 oaa (show Tryz.f4.body=some (aH 4) by kernel_rfl) (Nat.le_of_ble_eq_true rfl) (bK (l:=[(0,BZ n)]) B0 (aT (UI n hm hE hx hA) rfl bj) rfl) rfl (bc
 (an a0
 (an (cA (g6 n) hm a0)
 (brP (fun (h0:(r6 n)=true)=>
 (an (cA g7 trivial a0)
 (bE (show r4b n=true from (orT h0))))) (fun h0=>have q0:=(orF h0 rfl:r4b n=_);
 (an (a1 (cA (g11y n) hf a0))
 (an (show (zCE n)=false from hA) (an (cA (g8b n) ⟨hf,hx,hA⟩ a0)
 (an (a1 a0)
 (brP (fun (h1:((length (map aA (r25 n)):Int) !=(length (map aE n.rules):Int))=true)=>
 (an a0
 (bE (q0.trans (bf (cq h1)))))) (fun h1=>have q1:=q0.trans (aD (au h1) rfl);have l1:=aU aA ((r25 n));have l2:=aU aE (n.rules);
 (an a0
 (have l3:=aU ak (n.aa);an (ac (mko (length (map ak n.aa)) 8) a0)
 (an a0
 (an (Ch (BZ n) (S:=nm (KB.L0 (BZ n))) rfl (bq (congrArg (fun z=>Ob.row 3 1 z) (EU (f:=aO) (length (map ak n.aa)) 0)) dZ) trivial) (brP (fun (h2:(wI n)=true)=>
 (bE (q1.trans (cq h2)))) (fun h2=>
 (an (cA g7 trivial a0)
 (bE (q1.trans (au h2))))))))))))))))))))
 oaa)
structure PA (n:Net) (i0:Nat) (w:eO):Prop where
 self:ae w.2.1 i0=true
 cl: ∀v,ae w.2.1 v=true->(∃j,j<w.1/\ae w.2.2 j=((v:Nat):Int))\/ ∀c,Edg (gA okF n) v c->ae w.2.1 c=true
theorem pa_0 {n:Net} {i0:Nat} (hi:i0<n.aa.length):PA n i0 (cY n i0 0):=by
 have e: ∀v,ae (cY n i0 0).2.1 v=if v=i0 then true else false:=fun v=>by
  show ae (List.set (replicate (length (map ak n.aa)) false) i0 true) v=_
  rw [fx _ _ _ _ (by simpa using hi)]
  split
  ·rfl
  ·unfold ae
   rw [List.getElem?_replicate]
   split<;>rfl
 refine ⟨by rw [e,if_pos rfl],fun v hv=> .inl ⟨0,Nat.lt_succ_self _,?_⟩⟩
 rw [e] at hv
 split at hv
 ·rename_i h;subst h;rfl
 ·cases hv
theorem WJ {n:Net} (hn:bt n) {i0:Nat} {w:eO} (hw:SI n.aa.length (n.aa.length+1) w) (hk:0<w.1) (h:PA n i0 w):PA n i0 (pY n i0 w):=by
 have hs:pY n i0 w=bS n i0 w (aq n.aa (ae w.2.2 (w.1-1))).ai.length:=rfl
 have hl:=hw.len
 have hkt:=hw.kt
 have hr:=hw.rng _ (ay (show w.1-1<w.2.2.length by omega))
 rw [hs,nR (aq n.aa (ae w.2.2 (w.1-1))).ai tgA (w.1-1,w.2.1,w.2.2) (ac:=bS n i0 w) rfl fun i _=>LJ n i0 w i _]
 have hall: ∀x∈(aq n.aa (ae w.2.2 (w.1-1))).ai.flatMap tgA,0<=x/\x<(n.aa.length:Int):=fun x hx=>by
  obtain ⟨e,he,hx⟩:=List.mem_flatMap.1 hx
  exact M9 hn he x hx
 have hF:=FM.fold (N:=n.aa.length) ((aq n.aa (ae w.2.2 (w.1-1))).ai.flatMap tgA) (y:=(w.1-1,w.2.1,w.2.2)) hl (by show w.1-1<=w.2.2.length;omega) hall
 refine ⟨hF.up _ h.self,fun v hv=> ?_⟩
 rcases hF.on v hv with hv|hv
 ·rcases h.cl v hv with ⟨j,hj,e⟩|hc
  ·by_cases hj' :j<w.1-1
   ·exact .inl ⟨j,Nat.lt_of_lt_of_le hj' hF.le,(hF.old j hj').trans e⟩
   ·obtain rfl:j=w.1-1:=by omega
    refine .inr fun c hc=> ?_
    obtain ⟨d,hd,_,rfl⟩:=mX.1 hc
    refine hF.all d.to (List.mem_flatMap.2 ⟨d,?_,List.mem_singleton.2 rfl⟩)
    have:aq n.aa (ae w.2.2 (w.1-1))=ae n.aa v:=by rw [e];rfl
    rw [this];exact hd
  ·exact .inr fun c hE=>hF.up _ (hc c hE)
 ·exact .inl hv
theorem aaF {n:Net} (hn:bt n) {i0:Nat} (hi:i0<n.aa.length):PA n i0 (gH n i0)/\(gH n i0).1=0:=by
 obtain ⟨hend,hlt⟩:=fW (UD hn i0 hi).1
 have key: ∀k,k<=dA (jE n i0) (cY n i0)->PA n i0 (cY n i0 k):=fun k=>by
  induction k with
  |zero=>exact fun _=>pa_0 hi
  |succ k ih=>
   intro hk
   have h1:=hlt k oab
   refine WJ hn (inv4 hn i0 hi k) ?_ (ih oab)
   unfold jE at h1
   by_cases h0:0<(cY n i0 k).1
   ·exact h0
   ·rw [show decide ((((cY n i0 k).1:Nat):Int)>0)=false from decide_eq_false oab] at h1
    cases h1
 refine ⟨key _ (Nat.le_refl _),?_⟩
 by_cases h0:0<(gH n i0).1
 ·have hend:(!decide ((((gH n i0).1:Nat):Int)>0))=true:=hend
  rw [show decide ((((gH n i0).1:Nat):Int)>0)=true from decide_eq_true oab] at hend
  cases hend
 ·omega
theorem UJ {n:Net} (h:Ends n) (h0:fU n=false):r4b n=true:=by
 have hh:wI n=false:=bL.2 fun i hi=>by
  obtain ⟨hp,hz⟩:=aaF h.tU hi
  have hcl: ∀c,Rp (gA okF n) i c->ae (gH n i).2.1 c=true:=fun c hc=>by
   have one: ∀{v c},ae (gH n i).2.1 v=true->Edg (gA okF n) v c->ae (gH n i).2.1 c=true:=fun hv hE=>by
    rcases hp.cl _ hv with ⟨j,hj,_⟩|hc
    ·omega
    ·exact hc _ hE
   have two: ∀{a c},Rp (gA okF n) a c->ae (gH n i).2.1 a=true->ae (gH n i).2.1 c=true:=fun hr=>by
    induction hr with
    |one e=>exact fun ha=>one ha e
    |step _ e ih=>exact fun ha=>one (ih ha) e
   exact two hc hp.self
  unfold sq
  rcases (D4 h.tU h.own).1 h0 i hi with e|e
  ·rw [e,hp.self];rfl
  ·rw [hcl _ e];rfl
 unfold r4b
 rw [hh]
 simp [eW]
theorem WK {n:Net} (hf:bp n) (h:((r11 n) !=0)=false):Ends n/\fU n=false:=by
 have hn:=LG h
 have h0:r11 n=0:=by simpa using h
 unfold r11 at h0
 cases h1:r31 n with
 |false=>rw [h1] at h0;cases h0
 |true=>
  cases h2:r32 n with
  |false=>rw [h1,h2] at h0;cases h0
  |true=>
   cases h3:r33 n with
   |false=>rw [h1,h2,h3] at h0;cases h0
   |true=>
    cases h4:fU n with
    |true=>rw [h1,h2,h3,h4] at h0;cases h0
    |false=>
     cases h5:lM n with
     |true=>rw [h1,h2,h3,h4,h5] at h0;cases h0
     |false=>
      cases h6:r35 n (r25 n) with
      |true=>rw [h1,h2,h3,h4,h5,h6] at h0;cases h0
      |false=>exact ⟨⟨hn,T5 h2 h3,hf,h6⟩,rfl⟩
theorem r11_v {n:Net} (h:((r11 n) !=0)=true):r11 n=110:=by
 revert h
 unfold r11
 cases r31 n<;>cases r32 n<;>cases r33 n<;>cases fU n<;>cases lM n<;>cases r35 n (r25 n)<;>cases r36 n<;>first|exact fun _=>rfl|exact fun h=>by cases h
def r4a (n:Net):Bool:=((r6 n)||((r11 n)==110))
theorem law4a (n:Net) (hm:gN n) (hf:bp n) (hx:jB n) (hA:(zCE n)=true):bg pg 4 [.ag (aW n)] [] [] (B (r4a n)) []:=
 bD (fn:=Tryz.f4) (callf:=(bI [i6 n,i7q,Uq n,i10y n] base)) (pu:=aK) (lf:=3000) (l:=[]) (t:=(.r [bT] (.r [.int 0,bT] (.br zBk (.r [.int 2,.k,bT] (.yes (.a (.r [.int 3,.k,bT,.int 1,bT] .nil) (.r [.int 3,.k,bF,bT] .nil)))))))) (bo (.cons (g6 n) rfl (.cons g7q rfl (.cons (g11y n) rfl (.cons (g10y n) rfl cr.nil)))) aw) mixed Tryz.func4 oaa (show Tryz.f4.body=some (aH 4) by kernel_rfl) (Nat.le_of_ble_eq_true rfl) (az _) rfl (bc
 (an a0
 (an (cA (g6 n) hm a0)
 (brP (fun (h0:(r6 n)=true)=>
 (an (cA g7q trivial a0)
 (bE (show r4a n=true from (orT h0))))) (fun h0=>
 (an (a1 (cA (g11y n) hf a0))
 (an (show (zCE n)=true from hA) (aM (fun (h1:((r11 n)==110)=true)=>
 (an (cA g7q trivial (ac h1 (a1 (cA (g10y n) ⟨hf,hx⟩ a0))))
 (bE (show r4a n=true from (orF h0 h1))))) (fun h1=>
 (an (ac (au h1) (a1 (cA (g10y n) ⟨hf,hx⟩ a0)))
 (bE (show r4a n=false from (orF h0 h1))))))))))))
 oaa)
def r4g (n:Net):Bool:=true
theorem law4g (n:Net) (hm:gN n) (h6:r6 n=true):bg pg 4 [.ag (aW n)] [] [] (B (r4g n)) []:=
 bD (fn:=Tryz.f4) (callf:=(bI [i6t n,i7q] base)) (pu:=aK) (lf:=3000) (l:=[]) (t:=(.r [bT] (.r [.int 0,bT] zBk))) (bo (.cons (g6t n) rfl (.cons g7q rfl cr.nil)) aw) mixed Tryz.func4 oaa (show Tryz.f4.body=some (aH 4) by kernel_rfl) (Nat.le_of_ble_eq_true rfl) (az _) rfl (bc
 (an a0
 (an (cA (g6t n) ⟨hm,h6⟩ a0)
 (an (cA g7q trivial a0)
 (bE (show r4g n=true from rfl)))))
 oaa)
def r4h (n:Net):Bool:=true
theorem law4h (n:Net) (hm:gN n) (h6:r6 n=false) (hh:j9 n) (hA:r31 n=false):bg pg 4 [.ag (aW n)] [] [] (B (r4h n)) []:=
 bD (fn:=Tryz.f4) (callf:=(bI [i6f n,i11q n,i10q n,i7q] base)) (pu:=aK) (lf:=3000) (l:=[]) (t:=(.r [bT] (.r [.int 0,bT] (.r [.int 1,.k,bT] (.r [.int 2,.k,bT,.int 3,bT] .nil))))) (bo (.cons (g6f n) rfl (.cons (g11q n) rfl (.cons (g10q n) rfl (.cons g7q rfl cr.nil)))) aw) mixed Tryz.func4 oaa (show Tryz.f4.body=some (aH 4) by kernel_rfl) (Nat.le_of_ble_eq_true rfl) (az _) rfl (bc
 (an a0
 (an (cA (g6f n) ⟨hm,h6⟩ a0)
 (an (a1 (cA (g11q n) ⟨hh,hA⟩ a0))
 (an (cA g7q trivial (aN 2 (cA (g10q n) ⟨hh,hA⟩ a0)))
 (bE (show r4h n=true from rfl))))))
 oaa)
theorem UK {n:Net} (h:((r11 n) !=0)=true):r4a n=true:=by unfold r4a;simp [r11_v h]
theorem law4 (n:Net) (hm:gN n) (hf:bp n) (hx:jB n):bg pg 4 [.ag (aW n)] [] [] (B true) []:=by
 cases h:((r11 n) !=0) with
 |true=>have:=law4a n hm hf hx h;rw [UK h] at this;exact this
 |false=>
  obtain ⟨hE,h0⟩:=WK hf h
  have:=law4b n hm hE hx h;rw [UJ hE h0] at this;exact this
theorem UL (n:Net) (hm:gN n):bg pg 4 [.ag (aW n)] [] [] (B true) []:=by
 cases h6:r6 n with
 |true=>exact law4g n hm h6
 |false=>
  by_cases h4:n.aa.length<=4000
  ·exact law4 n hm (fitOf hm h4 h6) (fitX hm)
  ·exact law4h n hm h6 (fitH hm h6) (big31 oab)
open Go.ChangeShapes Go.WideShapes Go.ChangeAt Go.RowKit
theorem own:ownKnob Tryz.prog.godebug=none:=by kernel_rfl
def lay (l:List Value):Obj->Obj
 | .cells _ t frozen=> .cells l.toArray t frozen
 |o=>o
noncomputable def tX (os:Os):World:=
 {World.holding Tryz.prog os ⟨#[],#[],[]⟩ with heap:=(((World.holding Tryz.prog os ⟨#[],#[],[]⟩).heap.modify 0 (lay [.int .u64 1,.int .u64 10,.int .u64 100,.int .u64 1000,.int .u64 10000,.int .u64 100000,.int .u64 1000000,.int .u64 10000000,.int .u64 100000000,.int .u64 1000000000,.int .u64 10000000000,.int .u64 100000000000,.int .u64 1000000000000,.int .u64 10000000000000,.int .u64 100000000000000,.int .u64 1000000000000000,.int .u64 10000000000000000,.int .u64 100000000000000000,.int .u64 1000000000000000000,.int .u64 10000000000000000000])).modify 2 (lay [.int .u8 0,.int .u8 1,.int .u8 28,.int .u8 2,.int .u8 29,.int .u8 14,.int .u8 24,.int .u8 3,.int .u8 30,.int .u8 22,.int .u8 20,.int .u8 15,.int .u8 25,.int .u8 17,.int .u8 4,.int .u8 8,.int .u8 31,.int .u8 27,.int .u8 13,.int .u8 23,.int .u8 21,.int .u8 19,.int .u8 16,.int .u8 7,.int .u8 26,.int .u8 12,.int .u8 18,.int .u8 6,.int .u8 11,.int .u8 5,.int .u8 10,.int .u8 9])).modify 3 (lay [.int .u8 0,.int .u8 1,.int .u8 56,.int .u8 2,.int .u8 57,.int .u8 49,.int .u8 28,.int .u8 3,.int .u8 61,.int .u8 58,.int .u8 42,.int .u8 50,.int .u8 38,.int .u8 29,.int .u8 17,.int .u8 4,.int .u8 62,.int .u8 47,.int .u8 59,.int .u8 36,.int .u8 45,.int .u8 43,.int .u8 51,.int .u8 22,.int .u8 53,.int .u8 39,.int .u8 33,.int .u8 30,.int .u8 24,.int .u8 18,.int .u8 12,.int .u8 5,.int .u8 63,.int .u8 55,.int .u8 48,.int .u8 27,.int .u8 60,.int .u8 41,.int .u8 37,.int .u8 16,.int .u8 46,.int .u8 35,.int .u8 44,.int .u8 21,.int .u8 52,.int .u8 32,.int .u8 23,.int .u8 11,.int .u8 54,.int .u8 26,.int .u8 40,.int .u8 15,.int .u8 34,.int .u8 20,.int .u8 31,.int .u8 10,.int .u8 25,.int .u8 14,.int .u8 19,.int .u8 9,.int .u8 13,.int .u8 8,.int .u8 7,.int .u8 6])}
end Go.Proofs.YtfkjfjalecikkaaGreatDoor
end
