/- An abstract machine, part Ve: a call on memory is the same call on an object that is live; known calls on a store that is written out; loops whose rounds lead to states that are told anew. GRAPHS THAT ARE BUILT: what a piece does not touch is hidden from it; two rows of rows at once; pieces whose objects are told with their numbers. Calls that are known on a store that is written out, and change it. Words of the proofs that find their side conditions by themselves. Words that the texts of law11 lean on. guard.list: the words of numbers, a piece of an array that nobody writes to again. Of guards: names, numbers. Guards, in plain words. Guards: how great, what they hold. Guards: which may be. Guards: which may be; what they hold (net). Of nets: small readers. -/
import Derived.Test.YtfkjfjalecikkaaGreatDoorDC
noncomputable section
open List (length map range replicate)
set_option maxRecDepth 100000
namespace Go.Am
section
variable {P:Program} {f:FuncId} {X:Ob} {A A' :List AV} {r:AV}
theorem WU {R:qd->List Ob->Prop} (hX:(∃T S rows,X= .row T S rows)\/ ∃Tb cells,X= .box Tb cells) (hF:jH 0 X A' A) (h:jY P f A [] [] R) (hp:ah A=true) {m:Mem} {γ:Gam} {w:World} {vs:List Value} (hi:Inv m γ [X] w) (hv:aB m γ A' vs):
  Calls P f vs.toArray w fun e w' => ∃m' γ' r ob',R r ob' /\mg m' γ' e r/\w'.os=w.os/\w'.tape=w.tape/\w'.output=w.output/\w.heap.size<=w'.heap.size/\(∀k,k<w.heap.size->w'.heap[k]? =w.heap[k]?)/\(∀a x,m a=some x->m' a=some x)/\(∀o b C,γ' o=some (some (b,C))->w.heap.size<=b)/\Inv m' γ' ob' w' :=by
 obtain ⟨m2,hm,hi2,ht⟩:=gX hi (o:=0) (X:=X) rfl hX
 have hv2:aB m2 γ A vs:=hF _ _ _ hm _ hv
 obtain ⟨d1,d2⟩:=mq (ob:=[]) (xs:=[.dead]) hi2 rfl
 have hv3:=d2 (.tu A) (.tuple vs.toArray) (aQ 0 _ (by simp [AV.pure,hp])) (by grind [Rep])
 simp only [Rep] at hv3
 obtain ⟨vs',e1,hv4⟩:=hv3
 obtain rfl:vs=vs' :=by simpa using e1
 have hno: ∀k,¬InG (fun o=>if o<([]:List Ob).length then γ o else none) k:=fun k ⟨o,C,h⟩=>by simp at h
 refine (h.2 m2 _ w vs d1 hv4).mono ?_
 rintro e w' ⟨m',γ',r0,o0,h1,h2,h3,h4,h5⟩
 refine ⟨m',γ',r0,o0,h1,h2,h3.os,h3.tape,h3.output,h3.size,fun k hk=>h3.blk k hk (hno k),fun a x ha=>h3.mem a x (hm.le.mem a x ha),fun o b C hg=> ?_,h4⟩
 by_cases hb:w.heap.size<=b
 ·exact hb
 ·exact absurd (h3.gam b oab ⟨o,C,hg⟩) (hno b)
theorem J0 {x:Value} (hX:(∃T S rows,X= .row T S rows)\/ ∃Tb cells,X= .box Tb cells) (hF:jH 0 X A' A) (hp:ah A=true) (h:bg P f A [] [] (.v x) []):bg P f A' [X] [] (.v x) [X]:=by
 refine ⟨h.1,fun m γ w vs hi hv=>(WU hX hF h hp hi hv).mono ?_⟩
 rintro e w' ⟨m',γ',r0,o0,⟨rfl,rfl⟩,h2,k1,k2,k3,k4,k5,k6,k7,h4⟩
 refine ⟨m,γ,_,_,⟨rfl,rfl⟩,?_,⟨fun _ _ h=>h,fun _ _ h=> .inl h,fun _ _ h=>h,k1,k2,k3,k4,fun k hk _=>k5 k hk⟩,⟨fun a y ha=>h4.mem a y (k6 a y ha),fun o Y hY=> ?_,hi.sep,fun o b C hg=>Nat.lt_of_lt_of_le (hi.dom o b C hg) k4,hi.len⟩,fun _ _ _ h=>h⟩
 ·cases e with
  |returned v=>
   have h2' :Rep m' γ' (.v x) v:=h2
   show Rep m γ (.v x) v
   simpa only [Rep] using h2'
  |panicked c=>exact h2.elim
  |outgrown=>exact h2.elim
 ·exact eK (hi.obj o Y hY) ⟨fun _ _ h=>h,fun _ _ h _=>h⟩ (fun b C hg=>k5 b (hi.dom o b C hg)) (fun _ _ _ _ h=>h)
theorem J1 {T S k:Nat} {rows:List (List AV)} (hX:(∃T S rows,X= .row T S rows)\/ ∃Tb cells,X= .box Tb cells) (hF:jH 0 X A' A) (hp:ah A=true) (h:bg P f A [] [] (.sr 0 S 0 k) [.row T S rows]) (hrow: ∀c∈rows.flatten,∃x,c= .v x):bg P f A' [X] [] (.sr 1 S 0 k) [X,.row T S rows]:=by
 refine ⟨h.1,fun m γ w vs hi hv=>(WU hX hF h hp hi hv).mono ?_⟩
 rintro e w' ⟨m',γ',r0,o0,⟨rfl,rfl⟩,h2,k1,k2,k3,k4,k5,k6,k7,h4⟩
 let γ1:Gam:=fun o=>match o with
  |0=>γ 0
  |1=>γ' 0
  |_=>none
 have hkeep: ∀o g,γ o=some g->γ1 o=some g:=fun o g hg=>by
  have:=hi.len o oaz
  have h0:o=0:=by simpa using this
  subst h0;exact hg
 have hle:Le m γ [] m γ1:=⟨fun _ _ h=>h,fun o g hg _=>hkeep o g hg⟩
 refine ⟨m,γ1,_,_,⟨rfl,rfl⟩,?_,⟨fun _ _ h=>h,fun _ _ h=> .inl h,fun j hj ⟨o,C,hg⟩=> ?_,k1,k2,k3,k4,fun k hk _=>k5 k hk⟩,⟨fun a y ha=>h4.mem a y (k6 a y ha),fun o Y hY=> ?_,fun o o' b C C' l1 l2 g1 g2=> ?_,fun o b C hg=> ?_,fun o hg=> ?_⟩,fun o g _ hg=>hkeep o g hg⟩
 ·cases e with
  |returned v=>
   have h2' :Rep m' γ' (.sr 0 S 0 k) v:=h2
   show Rep m γ1 (.sr 1 S 0 k) v
   simp only [Rep] at h2' ⊢
   exact h2'
  |panicked c=>exact h2.elim
  |outgrown=>exact h2.elim
 ·match o,hg with
  |0,hg=>exact ⟨0,C,hg⟩
  |1,hg=>have:=k7 0 j C hg;omega
 ·match o,hY with
  |0,hY=>
   simp at hY
   subst hY
   exact eK (hi.obj 0 _ rfl) hle (fun b C hg=>k5 b (hi.dom 0 b C hg)) (fun _ _ _ _ h=>h)
  |1,hY=>
   simp at hY
   subst hY
   rcases h4.obj 0 _ rfl with ⟨g1,g2⟩|⟨b,C,xs,g1,g2,g3,g4,g5,g6,g7,g8⟩
   ·exact .inl ⟨g1,g2⟩
   ·refine .inr ⟨b,C,xs,g1,g2,g3,g4,g5,g6,CV hrow g7,fun off=> ?_⟩
    cases hm:m ⟨b,off,none⟩ with
    |none=>rfl
    |some y=>
     have:=k6 _ _ hm
     rw [g8] at this;cases this
  |o+2,hY=>simp at hY
 ·match o,o',g1,g2 with
  |0,0,_,_=>rfl
  |1,1,_,_=>rfl
  |0,1,g1,g2=>
   have q1:=hi.dom 0 b C g1
   have q2:=k7 0 b C' g2
   omega
  |1,0,g1,g2=>
   have q1:=hi.dom 0 b C' g2
   have q2:=k7 0 b C g1
   omega
 ·match o,hg with
  |0,hg=>exact Nat.lt_of_lt_of_le (hi.dom 0 b C hg) k4
  |1,hg=>exact h4.dom 0 b C hg
 ·match o,hg with
  |0,_=>simp
  |1,_=>simp
  |o+2,hg=>exact absurd rfl hg
theorem J2 {T S k:Nat} {rows:List (List AV)} (hX:(∃T S rows,X= .row T S rows)\/ ∃Tb cells,X= .box Tb cells) (hF:jH 0 X A' A) (hp:ah A=true) (hXu:X.und 1=true) (h:bg P f A [] [] (.sr 0 S 0 k) [.row T S rows]) (hk:k=rows.length) (hrow: ∀c∈rows.flatten,∃x,c= .v x) (hpr:aj rows=true):bg P f A' [X] [] (.sl S rows) [X]:=by
 have h1:=HM (ob2:=[X,.dead]) (J1 hX hF hp h hrow) (o:=1) (X:= .row T S rows) rfl (.inl ⟨_,_,_,rfl⟩) (Frz.sr0 rfl hk) rfl (fun i Y Y' e1 e2=>by
  match i with
  |0=>
   simp at e1 e2
   subst e1;subst e2
   exact .inr ⟨by omega,.same _⟩
  |1=>simp at e2;exact .inl e2.symm
  |i+2=>simp at e2)
 refine kz (ob' :=[X]) (h1.mono fun e o hh=>⟨hh.1,[.dead],hh.2⟩) (Nat.le_refl _) (by simp [AV.und,eS _ rows hpr]) ?_
 simp [hXu]
end
structure lT where
 f:FuncId
 args:List AV
 ob0:List Ob
 r:AV
 p:Prop
def lT.b7 (P:Program) (c:lT):Prop:=c.p->qB P c.f c.args c.ob0 c.r c.ob0
noncomputable def x8 (T:List lT) (callf:cI):cI:=fun f args O N tm=>match tm.gd with
 | .cd i _::g=>match T[i]? with
  |some c=>cond (Nat.beq f c.f) (.ret c.r O N ((tm.at N).told g (dec c.p&&dec (args=c.args/\xH O N 0=c.ob0)))) (callf f args O N tm)
  |none=>callf f args O N tm
 |_=>callf f args O N tm
inductive ur (P:Program):List lT->Prop
 |nil:ur P []
 |cons {c:lT} {T:List lT} (h:c.b7 P) (t:ur P T):ur P (c::T)
section
variable {P:Program} {n K:Nat}
theorem ur.get: ∀{T:List lT},ur P T-> ∀{i:Nat} {c:lT},T[i]? =some c->c.b7 P
 |[],_,i,c,h=>by simp at h
 |d::T,.cons h t,i,c,e=>by
  cases i with
  |zero=>simp at e;subst e;exact h
  |succ i=>exact t.get (by simpa using e)
theorem C4 {T:List lT} {callf:cI} (h:ur P T) (hcf:ct P callf):ct P (x8 T callf):=fun f args O N tm=>by
 unfold x8
 split
 ·rename_i i r g hg
  split
  ·rename_i c hc
   cases hf:Nat.beq f c.f with
   |false=>exact hcf f args O N tm
   |true=>
    have:=Nat.eq_of_beq_eq_true hf
    subst this
    simp only [cond_true]
    refine ⟨fun r' O1 N1 t1 e=> ?_,fun av O1 N1 t1 e=>by cases e⟩
    cases e
    refine ⟨⟨[_],rfl⟩,fun hok ob hO=> ?_⟩
    simp only [TM.told,TM.at,cx,Bool.and_eq_true] at hok
    have k:=(h.get hc) (aP.1 hok.1.1)
    grind [aP,qA]
  ·exact hcf f args O N tm
 ·exact hcf f args O N tm
theorem qE {c:lT} (hp:c.p) {ob:List Ob} (e:ob=c.ob0):(dec c.p&&dec (c.args=c.args/\ob=c.ob0))=true:=by grind [aP]
noncomputable def WV (P:Program) (rs:List ResultVar) (r:AV) (obs:List Ob):VK:=fun t x M O N=>finV P rs r t x M O N/\(range obs.length).map O.get=obs.map some
theorem Ms {callf:cI} {pu:FuncId->Bool} {lf:Nat} {f:FuncId} {fn:Func} {body:Code} {args:List AV} {r:AV} {obs:List Ob} {l:List (Nat×KB)} {t:GT} (hcf:ct P callf) (hm:P.follows .mixedOrders=true) (hf:P.funcs[f]? =some fn) (hname:(fn.name== "runtime.NumGoroutine")=false) (hb:fn.body=some body) (hn:args.length<=fn.ntmps)
  (hk:HV P fn.ntmps 0 (kbL l) body) (hu:r.und obs.length=true) (ho:obs.all (Ob.und obs.length)=true) (h:vcC P fn.ntmps callf pu lf (kbL l) body (l8 0 args .e) .e 0 (WV P fn.results.toList r obs) t):bg P f args [] [] r obs:=by
 refine jo hf hname hb hn (Nat.zero_le _) hu ho ?_
 refine (aL hcf hm hk).ok h (fa args) bV.nil (.inl rfl) fun {t' x M' O' N' L' ob'} h1 hM hO=> ?_
 obtain ⟨h1,h2⟩:=h1
 obtain ⟨xs,e⟩:=sF rfl h2 hO
 have aux:HW r (lA P M' O' fn.results.toList)-> ∃avs,nU P L' ob' fn.results.toList avs/\(qd.ret (gO avs)= .ret r/\ ∃xs,ob' =obs++xs):=fun h=>by
  cases hr:lA P M' O' fn.results.toList with
  |none=>rw [hr] at h;exact h.elim
  |some avs=>
   rw [hr] at h
   exact ⟨avs,jO hM hO hr,congrArg _ h,xs,e⟩
 cases x with
 |normal=>exact aux h1
 |ret=>exact aux h1
 |_=>exact h1.elim
theorem roE {α:Type} {T S k:Nat} {f:α->List AV} {rows:List (List AV)} {l r:List α} (e:Ob.row T S rows=Ob.row T S (l.map f)) (h:r=l):(AV.sr 0 S 0 k=AV.sr 0 S 0 k)/\([Ob.row T S rows].map some=[Ob.row T S (r.map f)].map some):=⟨rfl,by rw [e,h]⟩
def lF (t hit:Bool) (xr xn:AX) (L1:Loc) (ob1:List Ob) (Lr:Loc) (obr:List Ob) (Lx:Loc) (obx:List Ob) (o:bG):Prop:=
 o.p->(o.x= .normal/\t=false/\o.L=L1/\o.ob=ob1)\/(t=true/\((hit=true/\o.x=xr/\o.L=Lr/\o.ob=obr)\/(hit=false/\o.x=xn/\o.L=Lx/\o.ob=obx)))
def whW (t hit:Bool) (xr:AX) (Lr:Loc) (sel:List Nat) (obr:List Ob):bG:=⟨t=true/\hit=true,xr,Lr,sel,obr⟩
def wxW (t hit:Bool) (xn:AX) (Lx:Loc) (sel:List Nat) (obx:List Ob):bG:=⟨t=true/\hit=false,xn,Lx,sel,obx⟩
theorem nK {t hit:Bool} {xr xn:AX} {L1 La Lr Lx:Loc} {ob1 oba obr obx:List Ob} {sel:List Nat}:lF t hit xr xn L1 ob1 Lr obr Lx obx (nxW t L1 ob1 La sel oba):=fun h=> .inl ⟨rfl,h.1,h.2.1,h.2.2⟩
theorem J3 {t hit:Bool} {xr xn:AX} {L1 Lr Lx:Loc} {ob1 obr obx:List Ob} {sel:List Nat}:lF t hit xr xn L1 ob1 Lr obr Lx obx (whW t hit xr Lr sel obr):=fun h=> .inr ⟨h.1,.inl ⟨h.2,rfl,rfl,rfl⟩⟩
theorem sN {t hit:Bool} {xr xn:AX} {L1 Lr Lx:Loc} {ob1 obr obx:List Ob} {sel:List Nat}:lF t hit xr xn L1 ob1 Lr obr Lx obx (wxW t hit xn Lx sel obx):=fun h=> .inr ⟨h.1,.inr ⟨h.2,rfl,rfl,rfl⟩⟩
theorem x9 {id:Nat} {c:Code} {k:KB} {A B:Prop} {h:Bool} (q:k.p->(h=true->A)/\(h=false->B)) (hh:h=false) (hk:k.hit=false) (hb:B->Piece P n K (.block id c) k.L0 k.ob0 k.x2 k.L2 k.ob2):cQ P n K id c k:=⟨fun _ e=>(by rw [hk] at e;cases e),fun hp _=>hb ((q hp).2 hh)⟩
noncomputable def dA {σ:Type} (t:σ->Bool) (it:Nat->σ):Nat:= @dite Nat (∃k,t (it k)=true) (Classical.propDecidable _) (fun h=>b4 (h.choose+1) fun k=>t (it k)) (fun _=>0)
theorem fW {σ:Type} {t:σ->Bool} {it:Nat->σ} (h: ∃k,t (it k)=true):t (it (dA t it))=true/\ ∀j,j<dA t it->t (it j)=false:=by
 unfold dA
 rw [dif_pos h]
 have:=gY (n:=h.choose+1) (t:=fun k=>t (it k)) (ee.2 ⟨h.choose,by omega,h.choose_spec⟩)
 exact ⟨this.2.1,this.2.2⟩
theorem sO {id:Nat} {c:Code} {σ:Type} {t hit:σ->Bool} {it:Nat->σ} {step:σ->σ} (hit1: ∀k,it (k+1)=step (it k)) {I:σ->Prop} {xr xn:AX} {Lr Lx:σ->Loc} {obr obx:σ->List Ob} {V:σ->VC} (L:σ->Loc) (Bs:σ->List Ob) (k:Nat) (outs:σ->List bG) (g:σ->GT)
  (hv: ∀x,I x->gZ P n K c (V x)) (hxr:xr≠ .normal) (hxn:xn≠ .normal) (hk: ∀x,(Bs x).length=k)
  (h: ∀x,I x->V x (bz (L x)) (bw (Bs x)) k (bM (outs x)) (g x)) (hf: ∀x,I x->(outs x).all (bG.cS K)=true)
  (hq: ∀x,I x-> ∀o∈outs x,o.p->(o.x= .normal/\t x=false/\o.L=L (step x)/\o.ob=Bs (step x))\/(t x=true/\((hit x=true/\o.x=xr/\o.L=Lr x/\o.ob=obr x)\/(hit x=false/\o.x=xn/\o.L=Lx x/\o.ob=obx x))))
  (hterm: ∃k,t (it k)=true) (hI: ∀k,k<=dA t it->I (it k)):
  (hit (it (dA t it))=true->Piece P n K (.block id (.loop c)) (L (it 0)) (Bs (it 0)) (oS id xr) (Lr (it (dA t it))) (obr (it (dA t it))))/\(hit (it (dA t it))=false->Piece P n K (.block id (.loop c)) (L (it 0)) (Bs (it 0)) (oS id xn) (Lx (it (dA t it))) (obx (it (dA t it)))):=by
 obtain ⟨hend,hlt⟩:=fW hterm
 generalize hM:dA t it=M at*
 have go: ∀{df:Option Nat} {Q:dI},jG df (.block id (.loop c))->((hit (it M)=true/\Q (oS id xr) (Lr (it M)) (obr (it M)))\/(hit (it M)=false/\Q (oS id xn) (Lx (it M)) (obx (it M))))->awp df P n K [] (.block id (.loop c)) Q (L (it 0)) (Bs (it 0)):=fun {df Q} hd hQ=>by
  have hd' :jG df c:=hd.imp (fun e=>e) fun e=>by simpa only [Code.inR] using e
  refine dJ (mf (fun i=>L (it i)) (fun i=>Bs (it i)) (fun i=>i<=M) (fun i=>M-i) 0 (Nat.zero_le _) (Sub.refl _) rfl fun i hi=> ?_)
  refine oT (hv _ (hI i hi)) ((hk _).symm▸h _ (hI i hi)) (hf _ (hI i hi)) hd' fun o ho hp=> ?_
  rcases hq _ (hI i hi) o ho hp with ⟨e1,e2,e3,e4⟩|⟨e1,e2⟩
  ·have hne:i≠M:=fun e=>by rw [e,hend] at e2;cases e2
   rw [e1,e3,e4]
   exact ⟨i+1,by omega,by omega,by rw [hit1];exact Sub.refl _,by rw [hit1]⟩
  ·have he:i=M:=by
    by_cases e:i=M
    ·exact e
    ·rw [hlt i oab] at e1;cases e1
   subst he
   have key: ∀x L' ob',x≠ .normal->Q (oS id x) L' ob' ->(match x with| .normal=>False|x=>jf id Q x L' ob'):=fun x L' ob' hx q=>by
    have:=qH (df:=df) (id:=id) (Q:=Q) q
    cases x with
    |normal=>exact absurd rfl hx
    |_=>exact this
   rcases e2 with ⟨h1,h2,h3,h4⟩|⟨h1,h2,h3,h4⟩
   ·rcases hQ with ⟨_,q⟩|⟨q0,_⟩
    ·have:=key o.x o.L o.ob (by rw [h2];exact hxr) (by rw [h2,h3,h4];exact q)
     revert this
     rw [h2]
     cases xr with
     |normal=>exact absurd rfl hxr
     |_=>exact fun q=>q
    ·rw [h1] at q0;cases q0
   ·rcases hQ with ⟨q0,_⟩|⟨_,q⟩
    ·rw [h1] at q0;cases q0
    ·have:=key o.x o.L o.ob (by rw [h2];exact hxn) (by rw [h2,h3,h4];exact q)
     revert this
     rw [h2]
     cases xn with
     |normal=>exact absurd rfl hxn
     |_=>exact fun q=>q
 exact ⟨fun e df Q hd q=>go hd (.inl ⟨e,q⟩),fun e df Q hd q=>go hd (.inr ⟨e,q⟩)⟩
end
section
variable {P:Program} {n K:Nat}
theorem H0 {df:Option Nat} {Q:dI} {c:Code} {L' :Loc} {ob' :List Ob} {x:AX} (hd:jG df c) (hrf:c.rf=false) (hx:eT x=true) (hq:Q x L' ob') {m:Mem} {γ:Gam} {w:World} {a:Act} {ob2 obc obc' :List Ob} {sel kk:List Nat} {Ls Ls' :Loc} {K2:Nat} (hi2:Inv m γ ob2 w) (hs:a.tmps.size=n)
  (hnd:sel.Nodup) (hlen:sel.length=obc.length) (hsel: ∀(i s:Nat) (X:Ob),sel[i]? =some s->obc[i]? =some X->ob2[s]? =some (X.ren (b0 sel ob2.length))/\X≠ .dead)
  (hl' :obc'.length=sel.length) (hkk: ∀k∈kk,k<sel.length) (hK2: ∀o,o<sel.length->kk.contains o=false->o<K2) (hKk: ∀o,o<K->(kk.map (b0 sel ob2.length)).contains o=false)
  (hlS:b9 m (fun i=>γ (b0 sel ob2.length i)) a Ls) (hp:Piece P n K2 c Ls obc x Ls' obc')
  (fin: ∀(m1:Mem) (γ' :Gam) (w1:World) (a1:Act),Trans m γ w m1 γ' w1->Le m γ (kk.map (b0 sel ob2.length)) m1 γ' ->Inv m1 γ' (back ob2 sel kk obc') w1->b9 m1 (fun i=>γ' (b0 sel ob2.length i)) a1 Ls' ->Inv m1 γ' ob' w1/\b9 m1 γ' a1 L'):
  c.wpIn (dV df) 0 P (jF c.rf a.defers K [] n Q m γ w) a w:=by
 have hisel:=nv hi2 hnd hlen hsel
 refine wpIn_mono (hp df (fun x1 L1 ob1=>x1=x/\L1=Ls' /\ob1=obc') hd ⟨rfl,rfl,rfl⟩ m _ w a hisel hlS hs trivial) ?_
 rintro e a1 w1 ⟨m1,γ1,L1,ob1,ax,⟨rfl,rfl,rfl⟩,h2,h3,h4,h5,h6,h7,h8⟩
 obtain ⟨γ',g1,g2,g3,g4⟩:=ky hi2 (kk:=kk) hnd hlen hsel (by rw [hl'];exact Nat.le_refl _) hkk h3 h4 (fun o g ho hg=>by
  by_cases hok:o<sel.length
  ·exact h8 o g ⟨hK2 o hok ho,rfl⟩ hg
  ·exfalso
   have:=hi2.len _ (show γ (b0 sel ob2.length o)≠none by rw [hg];simp)
   rw [jK oab] at this
   omega)
 obtain ⟨f1,f2⟩:=fin m1 γ' w1 a1 g2 g3 g4 (by rw [show (fun i=>γ' (b0 sel ob2.length i))=γ1 from funext g1];exact h5)
 obtain ⟨Ds,d1,d2,_,_⟩:=h7
 have hDs:Ds=[]:=by
  rcases d2 with d2|d2
  ·rw [hrf] at d2;cases d2
  ·exact d2
 subst hDs
 refine ⟨m1,γ',_,_,_,hq,?_,g2,f1,f2,h6,Marks.of_eq (by simpa using d1),fun o g ho hg=>g3.gam o g hg (by simpa using hKk o ho.1)⟩
 cases ax with
 |panic av=>cases hx
 |_=>cases e<;>first|exact h2.elim|exact h2
def bA (hs:List Nat) (v:Nat->Value) (L:Loc):Loc:=L.map fun p=>(p.1,cond (hs.contains p.1) (.v (v p.1)) p.2)
theorem wa (hs:List Nat) (v:Nat->Value) (t:Nat): ∀L:Loc,lk (bA hs v L) t=(lk L t).map fun av=>cond (hs.contains t) (.v (v t)) av
 |[]=>rfl
 |(s,b)::L=>by
  simp only [bA,List.map_cons]
  rw [dk,dk]
  by_cases h:s=t
  ·subst h;simp
  ·rw [if_neg h,if_neg h];exact wa hs v t L
theorem J4 {c:Code} {L L' :Loc} {ob:List Ob} {x:AX} (hs:List Nat) (hrf:c.rf=false) (hx:eT x=true) (u: ∀t av,lk L t=some av->hs.contains t=true\/av.und 0=true) (u' : ∀t av,lk L' t=some av->(hs.contains t=true/\lk L t=some av)\/(hs.contains t=false/\av.und 0=true))
  (h: ∀v:Nat->Value,Piece P n 0 c (bA hs v L) [] x (bA hs v L') []):Piece P n K c L ob x L' ob:=by
 intro df Q hd hq m γ w a hi hl hsz ht
 refine H0 hd hrf hx hq hi hsz (sel:=[]) (kk:=[]) (obc:=[]) (obc' :=[]) (K2:=0) (Ls:=bA hs (fun t=>a.tmps.getD t undef) L) (Ls' :=bA hs (fun t=>a.tmps.getD t undef) L') List.nodup_nil rfl (fun i s X h=>by simp at h) rfl oai (fun o h=>by simp at h) (fun o _=>rfl) (fun t av e=> ?_) (h _) fun m1 γ' w1 a1 g2 g3 g4 g5=>⟨by simpa [back,ej,gW] using g4,fun t av e=> ?_⟩
 ·rw [wa] at e
  cases e1:lk L t with
  |none=>rw [e1] at e;cases e
  |some b=>
   rw [e1] at e
   obtain ⟨q1,q2⟩:=hl t b e1
   refine ⟨q1,?_⟩
   cases h3:hs.contains t with
   |true=>rw [h3] at e;cases e;simp [Rep]
   |false=>
    rw [h3] at e
    cases e
    rcases u t _ e1 with h4|h4
    ·rw [h3] at h4;cases h4
    ·refine (dM b _).2 ?_
     rw [nE (N:=0) (fun _ h=>by cases h) _ h4];exact q2
 ·rcases u' t av e with ⟨h3,e2⟩|⟨h3,h4⟩
  ·obtain ⟨p1,p2⟩:=g5 t (.v (a.tmps.getD t undef)) (by rw [wa,e,h3];rfl)
   obtain ⟨q1,q2⟩:=hl t av e2
   refine ⟨p1,?_⟩
   have p3:a1.tmps.getD t undef=a.tmps.getD t undef:=by simpa [Rep] using p2
   rw [p3]
   exact fm g3 _ _ (AV.ef _) q2
  ·obtain ⟨p1,p2⟩:=g5 t av (by rw [wa,e,h3];rfl)
   refine ⟨p1,?_⟩
   have:=(dM (m:=m1) (γ:=γ') av _).1 p2
   rw [nE (N:=0) (fun _ h=>by cases h) av h4] at this
   exact this
end
theorem bx {α:Type} {p:α->Prop}: ∀x∈([]:List α),p x:=fun x h=>by simp at h
theorem mqc {α:Type} {p:α->Prop} {a:α} {l:List α} (h:p a) (t: ∀x∈l,p x): ∀x∈a::l,p x:=fun x hx=>by
 rcases List.mem_cons.1 hx with rfl|hx
 ·exact h
 ·exact t x hx
theorem bZ {P:Program} {n K:Nat} {c:Code} {L L' :Loc} {ob:List Ob} {x:AX} (hs:List Nat) (hrf:c.rf=false) (hx:eT x=true) (u: ∀p∈L,hs.contains p.1=true\/p.2.pure=true) (u' : ∀p∈L',(hs.contains p.1=true/\lk L p.1=some p.2)\/(hs.contains p.1=false/\p.2.pure=true))
  (h: ∀v:Nat->Value,Piece P n 0 c (bA hs v L) [] x (bA hs v L') []):Piece P n K c L ob x L' ob:=
 J4 hs hrf hx (fun _ _ e=>(u _ (kX e)).imp id fun h=>aQ 0 _ h) (fun _ _ e=>(u' _ (kX e)).imp id fun h=>⟨h.1,aQ 0 _ h.2⟩) h
theorem sP {K:Nat} {L L' :Loc} {ob:List Ob} {Tb:TypeId} {cells:List AV} (hK:K<=ob.length) (hL: ∀p∈L',(lk L p.1=some p.2/\p.2.und ob.length=true)\/(lk L p.1=some (.pt ob.length 0)/\p.2= .pf cells/\(AV.pf cells).und ob.length=true)) (hO:ob.all (Ob.und ob.length)=true):eQ K L (ob++ [.box Tb cells]) L' ob:=by
 refine ⟨fun m γ w hi=> ?_⟩
 have ho:(ob++ [Ob.box Tb cells])[ob.length]? =some (.box Tb cells):=by simp
 obtain ⟨m2,hm,hi2,ht⟩:=gX hi ho (.inr ⟨Tb,cells,rfl⟩)
 have hset:(ob++ [Ob.box Tb cells]).set ob.length .dead=ob++ [.dead]:=by simp
 rw [hset] at hi2
 obtain ⟨d1,d2⟩:=mq hi2 hO
 have hb: ∀o g,(fun o=>if o<ob.length then γ o else none) o=some g->γ o=some g:=fun o g h=>by
  simp only at h
  split at h
  ·exact h
  ·cases h
 refine ⟨m2,_,ht.trans ⟨fun _ _ h=>h,fun _ _ h=> .inl h,fun k _ ⟨o,C,h⟩=>⟨o,C,hb o _ h⟩,rfl,rfl,rfl,Nat.le_refl _,fun _ _ _=>rfl⟩,d1,fun o g h1 h2=>(if_pos (show o<ob.length by omega)).trans h2,fun k ⟨o,C,h⟩=>⟨o,C,hb o _ h⟩,fun a hl t av' e=> ?_⟩
 rcases hL _ (kX e) with ⟨h,hu⟩|⟨h,rfl,hu⟩
 ·obtain ⟨q1,q2⟩:=hl t _ h
  exact ⟨q1,d2 _ _ hu (fm hm.le _ _ (AV.ef _) q2)⟩
 ·obtain ⟨q1,q2⟩:=hl t _ h
  exact ⟨q1,d2 _ _ hu (Frz.pt rfl _ _ _ hm _ q2)⟩
theorem H2 {m:Mem} {γ:Gam} {o j:Nat} {Rs:List (List Value)} {Rj:List Value} {xs:List Value} (h:aB m γ (dw o Rs) xs) (hj:Rs[j]? =some Rj):aB m γ ((vs xs).set j (.sr (o+j) 1 0 Rj.length)) xs:=by
 refine cM (by simp [vs]) fun i c y hc hy=> ?_
 by_cases hij:j=i
 ·subst hij
  have hjl:=(List.getElem?_eq_some_iff.1 hy).1
  rw [List.getElem?_set_self oaA] at hc
  cases hc
  obtain ⟨z,hz,hr⟩:=b5 h j (.sr (o+j) 1 0 Rj.length) (by rw [fB,hj];rfl)
  rw [hy] at hz;cases hz;exact hr
 ·rw [List.getElem?_set_ne hij] at hc
  rw [vs,List.getElem?_map,hy] at hc
  cases hc
  simp [Rep]
theorem C5 {m m1:Mem} {γ γ1:Gam} {o j:Nat} {Rs:List (List Value)} {R' :List Value} {xs ys:List Value} {ks:List Nat} (h:aB m γ (dw o Rs) xs) (hjl:j<Rs.length) (hle:Le m γ ks m1 γ1) (hys:aB m1 γ1 ((vs xs).set j (.sr (o+j) 1 0 R'.length)) ys) (hks: ∀i,i<Rs.length->i≠j->ks.contains (o+i)=false):aB m1 γ1 (dw o (Rs.set j R')) ys:=by
 have hxl:xs.length=Rs.length:=by rw [aZ h,du]
 have hyl:ys.length=Rs.length:=by rw [aZ hys];simp [vs,hxl]
 refine cM (by rw [du,List.length_set,hyl]) fun i c y hc hy=> ?_
 rw [fB] at hc
 by_cases hij:j=i
 ·subst hij
  rw [List.getElem?_set_self hjl] at hc
  cases hc
  obtain ⟨z,hz,hr⟩:=b5 hys j (.sr (o+j) 1 0 R'.length) (List.getElem?_set_self oaA)
  rw [hy] at hz;cases hz;exact hr
 ·rw [List.getElem?_set_ne hij] at hc
  cases hR:Rs[i]? with
  |none=>rw [hR] at hc;cases hc
  |some R=>
   rw [hR] at hc
   cases hc
   have hil:i<Rs.length:=(List.getElem?_eq_some_iff.1 hR).1
   have e1:xs[i]? =some (xs[i]'oab):=List.getElem?_eq_getElem oab
   obtain ⟨z,hz,hr⟩:=b5 hys i (.v (xs[i]'oab)) (by rw [List.getElem?_set_ne hij,vs,List.getElem?_map,e1];rfl)
   rw [hy] at hz;cases hz
   have hr' :y=xs[i]'oab:=by simpa [Rep] using hr
   subst hr'
   obtain ⟨z,hz,hr2⟩:=b5 h i (.sr (o+i) 1 0 R.length) (by rw [fB,hR];rfl)
   rw [e1] at hz;cases hz
   refine fm hle _ _ ?_ hr2
   simp only [AV.free,hks i hil oab,Bool.not_false]
def vn (Ti:TypeId) (o1 o2:Ob) (A B:List (List Value)):List Ob:=(o1::A.map (inner Ti))++(o2::B.map (inner Ti))
theorem dN (Ti:TypeId) (o1 o2:Ob) (A B:List (List Value)) (i:Nat):(vn Ti o1 o2 A B)[i]? =if i=0 then some o1 else if i<A.length+1 then (A[i-1]?).map (inner Ti) else if i=A.length+1 then some o2 else (B[i-(A.length+2)]?).map (inner Ti):=by
 unfold vn
 by_cases h0:i=0
 ·subst h0;simp
 ·rw [if_neg h0]
  by_cases h1:i<A.length+1
  ·rw [if_pos h1,List.getElem?_append_left (by simpa using h1)]
   obtain ⟨k,rfl⟩: ∃k,i=k+1:=⟨i-1,by omega⟩
   simp
  ·rw [if_neg h1,List.getElem?_append_right oat]
   simp only [List.length_cons,List.length_map]
   by_cases h2:i=A.length+1
   ·subst h2;simp
   ·rw [if_neg h2]
    obtain ⟨k,rfl⟩: ∃k,i=A.length+2+k:=⟨i-(A.length+2),by omega⟩
    rw [show A.length+2+k-(A.length+1)=k+1 by omega,show A.length+2+k-(A.length+2)=k by omega,List.getElem?_cons_succ,List.getElem?_map]
theorem qJ (Ti:TypeId) (o1 o2:Ob) (A B:List (List Value)):(vn Ti o1 o2 A B).length=A.length+B.length+2:=by simp [vn];omega
def dU (T:TypeId) (cs:List AV):Ob:= .row T 1 (aG cs)
def shA (n1:Nat):AV->AV
 | .sr 1 S a b=> .sr (n1+1) S a b
 |av=>av
def shL (n1:Nat) (L:Loc):Loc:=L.map fun p=>(p.1,shA n1 p.2)
def mF:AV->Bool
 | .sr 1 _ _ _=>true
 |_=>false
theorem EW {n1:Nat} {f:Nat->Nat} (f0:f 0=0) (f1:f 1=n1+1) (av:AV) (h:(mF av||av.und 1)=true):av.ren f=shA n1 av:=by
 rcases Bool.or_eq_true _ _▸h with h|h
 ·unfold mF at h
  split at h
  ·simp only [AV.ren,shA,f1]
  ·cases h
 ·rw [nE (N:=1) (fun i hi=>by rw [show i=0 by omega];exact f0) av h]
  unfold shA
  split
  ·simp [AV.und] at h
  ·rfl
theorem Mt (n1 t:Nat): ∀L:Loc,lk (shL n1 L) t=(lk L t).map (shA n1)
 |[]=>rfl
 |(s,b)::L=>by
  simp only [shL,List.map_cons]
  rw [dk,dk]
  by_cases h:s=t
  ·rw [if_pos h,if_pos h];rfl
  ·rw [if_neg h,if_neg h];exact Mt n1 t L
theorem J5 {p:AV->Bool} {L:Loc} (hu:L.all (fun q=>p q.2)=true) {t:Nat} {av:AV} (h:lk L t=some av):p av=true:=by
 induction L with
 |nil=>simp [lk] at h
 |cons q L ih=>
  simp only [List.all_cons,Bool.and_eq_true] at hu
  obtain ⟨s,b⟩:=q
  rw [dk] at h
  split at h
  ·cases h;exact hu.1
  ·exact ih hu.2 h
section
variable {P:Program} {n:Nat}
set_option maxHeartbeats 1000000 in
theorem H3 {c:Code} {Ls Ls' :Loc} {T Ti:TypeId} {R1 R2:List (List Value)} {j k:Nat} {A A' B B' :List Value} {x:AX} (hj:R1[j]? =some A) (hk:R2[k]? =some B) (hrf:c.rf=false) (hx:eT x=true)
  (uL:Ls.all (fun p=>mF p.2||p.2.und 1)=true) (uL' :Ls'.all (fun p=>mF p.2||p.2.und 1)=true)
  (h: ∀xs ys:List Value,xs.length=R1.length->ys.length=R2.length->Piece P n 2 c Ls [dU T ((vs xs).set j (.sr 2 1 0 A.length)),dU T ((vs ys).set k (.sr 3 1 0 B.length)),inner Ti A,inner Ti B] x Ls' [dU T ((vs xs).set j (.sr 2 1 0 A'.length)),dU T ((vs ys).set k (.sr 3 1 0 B'.length)),inner Ti A',inner Ti B']):
  Piece P n 0 c (shL R1.length Ls) (cp 0 T Ti R1++cp (R1.length+1) T Ti R2) x (shL R1.length Ls') (cp 0 T Ti (R1.set j A')++cp (R1.length+1) T Ti (R2.set k B')):=by
 intro df Q hd hq m γ w a hi hl hs ht
 have hjl:j<R1.length:=(List.getElem?_eq_some_iff.1 hj).1
 have hkl:k<R2.length:=(List.getElem?_eq_some_iff.1 hk).1
 generalize hn1:R1.length=n1 at*
 have hob:cp 0 T Ti R1++cp (n1+1) T Ti R2=vn Ti (dU T (dw 1 R1)) (dU T (dw (n1+2) R2)) R1 R2:=rfl
 rw [hob] at hi
 obtain ⟨xs,hxs,hre⟩:=fq (o:=0) (hi.obj 0 _ (by rw [dN];rfl)) (by rw [du];omega)
 obtain ⟨ys,hys,hre'⟩:=fq (o:=n1+1) (T:=T) (cs:=dw (n1+2) R2) (hi.obj (n1+1) _ (by rw [dN,if_neg oab,if_neg oab,if_pos (by rw [hn1])];rfl)) (by rw [du];omega)
 have hxl:xs.length=n1:=by rw [aZ hxs,du,hn1]
 have hyl:ys.length=R2.length:=by rw [aZ hys,du]
 let o1:Ob:=dU T ((vs xs).set j (.sr (1+j) 1 0 A.length))
 let o2:Ob:=dU T ((vs ys).set k (.sr (n1+2+k) 1 0 B.length))
 let ob2:=vn Ti o1 o2 R1 R2
 have hlen2:ob2.length=n1+R2.length+2:=by rw [qJ,hn1]
 have hi2:Inv m γ ob2 w:=by
  refine kG hi (by rw [hlen2,qJ,hn1]) fun i Y hY=> ?_
  by_cases hdd:Y= .dead
  ·exact .inl hdd
  ·right
   have hY0:=hY
   rw [dN] at hY
   by_cases h0:i=0
   ·subst h0
    rw [if_pos rfl] at hY
    cases hY
    exact ⟨⟨_,by rw [dN];rfl,by simp [dU]⟩,hre _ (H2 hxs hj)⟩
   ·rw [if_neg h0] at hY
    by_cases h1:i=n1+1
    ·subst h1
     rw [hn1,if_neg oab,if_pos rfl] at hY
     cases hY
     exact ⟨⟨dU T (dw (n1+2) R2),by rw [dN,if_neg oab,if_neg oab,if_pos (by rw [hn1])],by simp [dU]⟩,hre' _ (H2 hys hk)⟩
    ·have e:(vn Ti (dU T (dw 1 R1)) (dU T (dw (n1+2) R2)) R1 R2)[i]? =some Y:=by
      rw [dN,if_neg h0]
      rw [hn1,if_neg h1] at hY⊢
      exact hY
     exact ⟨⟨Y,e,hdd⟩,hi.obj i Y e⟩
 let sel:=[0,n1+1,1+j,n1+2+k]
 have hnd:sel.Nodup:=by simp only [sel,List.nodup_cons,List.mem_cons,List.not_mem_nil,or_false,not_or,not_false_eq_true,List.nodup_nil,and_true];omega
 have f0:b0 sel ob2.length 0=0:=rfl
 have f1:b0 sel ob2.length 1=n1+1:=rfl
 have f2:b0 sel ob2.length 2=1+j:=rfl
 have f3:b0 sel ob2.length 3=n1+2+k:=rfl
 have g0:ob2[0]? =some o1:=by rw [dN];rfl
 have g1:ob2[n1+1]? =some o2:=by rw [dN,if_neg oab,if_neg oab,if_pos (by rw [hn1])]
 have g2:ob2[1+j]? =some (inner Ti A):=by rw [dN,if_neg oab,if_pos oab,show 1+j-1=j by omega,hj];rfl
 have g3:ob2[n1+2+k]? =some (inner Ti B):=by rw [dN,if_neg oab,if_neg oab,if_neg oab,hn1,show n1+2+k-(n1+2)=k by omega,hk];rfl
 refine H0 hd hrf hx hq hi2 hs (sel:=sel) (kk:=[2,3]) (K2:=2) hnd rfl ?_ rfl (by intro q hq;simp only [List.mem_cons,List.not_mem_nil,or_false] at hq;show q<4;omega) ?_ (fun o ho=>by omega) ?_ (h xs ys hxl hyl) ?_
 ·intro i s X h1 h2
  match i,h1,h2 with
  |0,h1,h2=>cases h1;cases h2;exact ⟨g0.trans (by simp only [dU,Ob.ren,dE,eP,lE,AV.ren,f2,o1]),by simp [dU]⟩
  |1,h1,h2=>cases h1;cases h2;exact ⟨g1.trans (by simp only [dU,Ob.ren,dE,eP,lE,AV.ren,f3,o2]),by simp [dU]⟩
  |2,h1,h2=>cases h1;cases h2;exact ⟨g2.trans (by rw [jd]),by simp [inner]⟩
  |3,h1,h2=>cases h1;cases h2;exact ⟨g3.trans (by rw [jd]),by simp [inner]⟩
  |i+4,h1,_=>simp [sel] at h1
 ·intro o ho hc
  have ho:o<4:=ho
  match o,ho,hc with
  |0,_,_=>omega
  |1,_,_=>omega
  |2,_,hc=>simp at hc
  |3,_,hc=>simp at hc
 ·intro t av e
  obtain ⟨q1,q2⟩:=hl t (shA n1 av) (by rw [Mt,e];rfl)
  exact ⟨q1,(dM av _).2 (by rw [EW f0 f1 av (J5 (p:=fun v=>mF v||v.und 1) uL e)];exact q2)⟩
 ·intro m1 γ' w1 a1 t1 le1 i1 l1
  let o1' :Ob:=dU T ((vs xs).set j (.sr (1+j) 1 0 A'.length))
  let o2' :Ob:=dU T ((vs ys).set k (.sr (n1+2+k) 1 0 B'.length))
  generalize hobc:[dU T ((vs xs).set j (.sr 2 1 0 A'.length)),dU T ((vs ys).set k (.sr 3 1 0 B'.length)),inner Ti A',inner Ti B']=obc' at i1
  have hobl:obc'.length=4:=by rw [<-hobc];rfl
  have hback:back ob2 sel [2,3] obc' =vn Ti o1' o2' (R1.set j A') (R2.set k B'):=by
   obtain ⟨sg1,sg2⟩:=lh (ob:=ej ([2,3].map (b0 sel ob2.length)) ob2) (obc:=(obc'.take sel.length).map (Ob.ren (b0 sel ob2.length))) hnd (by rw [List.length_map,List.length_take,hobl];rfl) (fun s hs=>by
    rw [eL,hlen2]
    simp only [sel,List.mem_cons,List.not_mem_nil,or_false] at hs
    omega)
   unfold back
   rw [List.drop_eq_nil_of_le (by rw [hobl];exact Nat.le_refl _),List.map_nil,List.append_nil]
   rw [List.take_of_length_le (show obc'.length<=sel.length by rw [hobl];exact Nat.le_refl _)] at sg1 sg2⊢
   apply List.ext_getElem?
   intro i
   rw [dN,List.length_set,hn1]
   by_cases h0:i=0
   ·subst h0
    refine (sg1 0 0 o1' rfl (by rw [<-hobc];simp only [List.map_cons,List.getElem?_cons_zero,dU,Ob.ren,dE,eP,lE,AV.ren,f2,o1'])).trans ?_
    rw [if_pos rfl]
   ·rw [if_neg h0]
    by_cases h1:i=n1+1
    ·subst h1
     refine (sg1 1 (n1+1) o2' rfl (by rw [<-hobc];simp only [List.map_cons,List.getElem?_cons_succ,List.getElem?_cons_zero,dU,Ob.ren,dE,eP,lE,AV.ren,f3,o2'])).trans ?_
     rw [if_neg oab,if_pos rfl]
    ·rw [if_neg h1]
     by_cases h2:i=1+j
     ·subst h2
      refine (sg1 2 (1+j) (inner Ti A') rfl oaE).trans ?_
      rw [if_pos oab,show 1+j-1=j by omega,List.getElem?_set_self oab];rfl
     ·by_cases h3:i=n1+2+k
      ·subst h3
       refine (sg1 3 (n1+2+k) (inner Ti B') rfl oaE).trans ?_
       rw [if_neg oab,show n1+2+k-(n1+2)=k by omega,List.getElem?_set_self hkl];rfl
      ·rw [sg2 i (by simp only [sel,List.mem_cons,List.not_mem_nil,or_false,not_or];omega),jL]
       simp only [List.map_cons,List.map_nil,ob2]
       rw [dN,if_neg h0,hn1,if_neg h1]
       by_cases h4:i<n1+1
       ·rw [if_pos h4,if_pos h4,List.getElem?_set_ne oab]
        cases R1[i-1]? with
        |none=>rfl
        |some R=>simp only [Option.map_some,oO]
       ·rw [if_neg h4,if_neg h4,List.getElem?_set_ne oab]
        cases R2[i-(n1+2)]? with
        |none=>rfl
        |some R=>simp only [Option.map_some,oO]
  rw [hback] at i1
  obtain ⟨zs,hzs,hre3⟩:=fq (o:=0) (i1.obj 0 _ (by rw [dN];rfl)) oaA
  obtain ⟨us,hus,hre4⟩:=fq (o:=n1+1) (T:=T) (cs:=(vs ys).set k (.sr (n1+2+k) 1 0 B'.length)) (i1.obj (n1+1) _ (by rw [dN,List.length_set,if_neg oab,if_neg oab,if_pos (by rw [hn1])];rfl)) oaA
  simp only [List.map_cons,List.map_nil,f2,f3] at le1
  have c1:=C5 hxs oab le1 hzs (R' :=A') (fun i hi hne=>by simp;omega)
  have c2:=C5 hys hkl le1 hus (R' :=B') (fun i hi hne=>by simp;omega)
  refine ⟨?_,fun t av e=> ?_⟩
  ·show Inv m1 γ' (vn Ti (dU T (dw 1 (R1.set j A'))) (dU T (dw (n1+2) (R2.set k B'))) (R1.set j A') (R2.set k B')) w1
   refine kG i1 (by rw [qJ,qJ]) fun i Y hY=> ?_
   by_cases hdd:Y= .dead
   ·exact .inl hdd
   ·right
    rw [dN] at hY
    by_cases h0:i=0
    ·subst h0
     rw [if_pos rfl] at hY
     cases hY
     exact ⟨⟨_,by rw [dN];rfl,by simp [o1',dU]⟩,hre3 _ c1⟩
    ·rw [if_neg h0,List.length_set,hn1] at hY
     by_cases h1:i=n1+1
     ·subst h1
      rw [if_neg oab,if_pos rfl] at hY
      cases hY
      exact ⟨⟨o2',by rw [dN,List.length_set,if_neg oab,if_neg oab,if_pos (by rw [hn1])],by simp [o2',dU]⟩,hre4 _ c2⟩
     ·have e:(vn Ti o1' o2' (R1.set j A') (R2.set k B'))[i]? =some Y:=by
       rw [dN,if_neg h0,List.length_set,hn1,if_neg h1]
       rw [if_neg h1] at hY
       exact hY
      exact ⟨⟨Y,e,hdd⟩,i1.obj i Y e⟩
  ·rw [Mt] at e
   cases e1:lk Ls' t with
   |none=>rw [e1] at e;cases e
   |some b=>
    rw [e1] at e
    cases e
    obtain ⟨q1,q2⟩:=l1 t b e1
    refine ⟨q1,?_⟩
    rw [<-EW f0 f1 b (J5 (p:=fun v=>mF v||v.und 1) uL' e1)]
    exact (dM b _).1 q2
end
theorem NV {m m' :Mem} {γ γ' :Gam} {o N:Nat} {xs:List Value} (h:aB m γ (replicate N (.v (.slice none 0 0))) xs) (hg: ∀i,i<N->γ' (o+i)=some none):aB m' γ' (dw o (replicate N [])) xs:=by
 refine cM (by rw [aZ h,du];simp) fun i c x hc hx=> ?_
 rw [fB,List.getElem?_replicate] at hc
 split at hc
 ·rename_i hiN
  cases hc
  obtain ⟨y,hy,hr⟩:=b5 h i (.v (.slice none 0 0)) (by rw [List.getElem?_replicate,if_pos hiN])
  rw [hx] at hy;cases hy
  have hxe:x= .slice none 0 0:=by simpa [Rep] using hr
  subst hxe
  simp only [Rep]
  exact .inl ⟨hg i hiN,⟨none,rfl⟩,trivial,rfl⟩
 ·cases hc
theorem Mu {m:Mem} {γ:Gam} {w:World} {o o' :Nat} {T:TypeId} {N:Nat} (h:gI m γ w o (dU T (replicate N (.v (.slice none 0 0))))) (hg: ∀i,i<N->γ (o' +i)=some none):gI m γ w o (dU T (dw o' (replicate N []))):=by
 by_cases hN:N=0
 ·subst hN;exact h
 ·obtain ⟨xs,hxs,hre⟩:=fq h oat
  exact hre _ (NV hxs hg)
theorem NW {P:Program} {n:Nat} {L:Loc} {T:TypeId} (Ti:TypeId) {n1 n2:Nat} (uL:L.all (fun p=>mF p.2||p.2.und 1)=true):
  xW P n 0 L [dU T (replicate n1 (.v (.slice none 0 0))),dU T (replicate n2 (.v (.slice none 0 0)))] (shL n1 L) (cp 0 T Ti (replicate n1 [])++cp (n1+1) T Ti (replicate n2 [])):=by
 refine Mg fun m γ w hi=> ?_
 let f:Nat->Nat:=fun i=>if i=0 then 0 else if i=1 then n1+1 else n1+n2+i
 let γ' :Gam:=fun o=>if o=0 then γ 0 else if o<n1+1 then some none else if o=n1+1 then γ 1 else if o<n1+2+n2 then some none else none
 have f0:f 0=0:=rfl
 have f1:f 1=n1+1:=rfl
 have e1:γ' (n1+1)=γ 1:=by show (if n1+1=0 then _ else if n1+1<n1+1 then _ else if n1+1=n1+1 then _ else _)=_;rw [if_neg oab,if_neg oab,if_pos rfl]
 have hγ:γ=fun i=>γ' (f i):=funext fun i=>by
  match i with
  |0=>rfl
  |1=>exact e1.symm
  |i+2=>
   have h1:γ (i+2)=none:=by
    cases hg:γ (i+2) with
    |none=>rfl
    |some g=>
     have:=hi.len (i+2) oaz
     simp only [List.length_cons,List.length_nil] at this
     omega
   rw [h1]
   simp only [γ',f]
   rw [if_neg (show¬i+2=0 by omega),if_neg (show¬i+2=1 by omega),if_neg oab,if_neg oab,if_neg oab,if_neg oab]
 have nilr: ∀N,(dU T (replicate N (.v (.slice none 0 0)))).ren f=dU T (replicate N (.v (.slice none 0 0))):=fun N=>by
  simp only [dU,Ob.ren,dE]
  rw [show replicate N (AV.v (.slice none 0 0))=vs (replicate N (.slice none 0 0)) by simp [vs],lE]
 have in1: ∀i,i<n1->γ' (1+i)=some none:=fun i hi=>by simp only [γ'];rw [if_neg oab,if_pos oab]
 have in2: ∀i,i<n2->γ' (n1+2+i)=some none:=fun i hi=>by simp only [γ'];rw [if_neg oab,if_neg oab,if_neg oab,if_pos oab]
 have r1:gI m γ' w 0 (dU T (dw 1 (replicate n1 []))):=by
  have h0:=hi.obj 0 _ rfl
  rw [hγ] at h0
  have:=mn.1 h0
  rw [nilr,f0] at this
  exact Mu this in1
 have r2:gI m γ' w (n1+1) (dU T (dw (n1+2) (replicate n2 []))):=by
  have h0:=hi.obj 1 _ rfl
  rw [hγ] at h0
  have:=mn.1 h0
  rw [nilr,f1] at this
  exact Mu this in2
 have hob:cp 0 T Ti (replicate n1 [])++cp (n1+1) T Ti (replicate n2 [])=vn Ti (dU T (dw 1 (replicate n1 []))) (dU T (dw (n1+2) (replicate n2 []))) (replicate n1 []) (replicate n2 []):=rfl
 rw [hob]
 have hget: ∀o Y,(vn Ti (dU T (dw 1 (replicate n1 []))) (dU T (dw (n1+2) (replicate n2 []))) (replicate n1 []) (replicate n2 []))[o]? =some Y->(o=0/\Y=dU T (dw 1 (replicate n1 [])))\/(o=n1+1/\Y=dU T (dw (n1+2) (replicate n2 [])))\/(γ' o=some none/\Y=inner Ti []):=by
  intro o Y hY
  rw [dN,List.length_replicate] at hY
  by_cases h0:o=0
  ·rw [if_pos h0] at hY;cases hY;exact .inl ⟨h0,rfl⟩
  ·rw [if_neg h0] at hY
   by_cases h1:o<n1+1
   ·rw [if_pos h1,List.getElem?_replicate,if_pos oab] at hY
    cases hY
    exact .inr (.inr ⟨by simp only [γ'];rw [if_neg h0,if_pos h1],rfl⟩)
   ·rw [if_neg h1] at hY
    by_cases h2:o=n1+1
    ·rw [if_pos h2] at hY;cases hY;exact .inr (.inl ⟨h2,rfl⟩)
    ·rw [if_neg h2,List.getElem?_replicate] at hY
     split at hY
     ·cases hY
      exact .inr (.inr ⟨by simp only [γ'];rw [if_neg h0,if_neg h1,if_neg h2,if_pos oab],rfl⟩)
     ·cases hY
 have hback: ∀o b C,γ' o=some (some (b,C))->(o=0/\γ 0=some (some (b,C)))\/(o=n1+1/\γ 1=some (some (b,C))):=fun o b C hg=>by
  simp only [γ'] at hg
  split at hg
  ·rename_i h;exact .inl ⟨h,hg⟩
  ·split at hg
   ·cases hg
   ·split at hg
    ·rename_i h;exact .inr ⟨h,hg⟩
    ·split at hg<;>cases hg
 have lv0:live [dU T (replicate n1 (.v (.slice none 0 0))),dU T (replicate n2 (.v (.slice none 0 0)))] 0:=⟨_,rfl,by simp [dU]⟩
 have lv1:live [dU T (replicate n1 (.v (.slice none 0 0))),dU T (replicate n2 (.v (.slice none 0 0)))] 1:=⟨_,rfl,by simp [dU]⟩
 refine ⟨m,γ',⟨fun _ _ h=>h,fun _ _ h=> .inl h,fun q _ ⟨o,C,h⟩=> ?_,rfl,rfl,rfl,Nat.le_refl _,fun _ _ _=>rfl⟩,⟨hi.mem,fun o Y hY=> ?_,fun o o' b C C' _ _ h1 h2=> ?_,fun o b C h=> ?_,fun o h=> ?_⟩,fun o ho=>by omega,fun a hl t av e=> ?_⟩
 ·rcases hback o q C h with ⟨_,h⟩|⟨_,h⟩
  ·exact ⟨0,C,h⟩
  ·exact ⟨1,C,h⟩
 ·rcases hget o Y hY with ⟨rfl,rfl⟩|⟨rfl,rfl⟩|⟨h1,rfl⟩
  ·exact r1
  ·exact r2
  ·exact .inl ⟨h1,rfl⟩
 ·rcases hback o b C h1 with ⟨rfl,g1⟩|⟨rfl,g1⟩<;>rcases hback o' b C' h2 with ⟨rfl,g2⟩|⟨rfl,g2⟩
  ·rfl
  ·exact absurd (hi.sep 0 1 b C C' lv0 lv1 g1 g2) oab
  ·exact absurd (hi.sep 1 0 b C C' lv1 lv0 g1 g2) oab
  ·rfl
 ·rcases hback o b C h with ⟨_,h⟩|⟨_,h⟩
  ·exact hi.dom 0 b C h
  ·exact hi.dom 1 b C h
 ·rw [qJ,List.length_replicate,List.length_replicate]
  simp only [γ'] at h
  split at h
  ·omega
  ·split at h
   ·omega
   ·split at h
    ·omega
    ·split at h
     ·omega
     ·exact absurd rfl h
 ·rw [Mt] at e
  cases e1:lk L t with
  |none=>rw [e1] at e;cases e
  |some b=>
   rw [e1] at e
   cases e
   obtain ⟨q1,q2⟩:=hl t b e1
   refine ⟨q1,?_⟩
   rw [hγ] at q2
   have:=(dM b _).1 q2
   rw [EW f0 f1 b (J5 (p:=fun v=>mF v||v.und 1) uL e1)] at this
   exact this
theorem mG {K:Nat} {L L' :Loc} {base:List Ob} {T Ti:TypeId} {Rs:List (List Value)} (hK:K<=base.length) (ub:base.all (Ob.und base.length)=true)
  (hL: ∀t av',lk L' t=some av' ->(lk L t=some av' /\av'.und base.length=true)\/(lk L t=some (.sr base.length 1 0 Rs.length)/\av' = .sl 1 (aG (iP Rs)))):
  eQ K L (base++cp base.length T Ti Rs) L' base:=⟨fun m γ w hi=>by
 obtain ⟨m',γ',h1,h2,h3,h4,h5⟩:=NR hK ub hL m γ w hi
 exact ⟨m',γ',h1,h2,fun o g ho hg=>(h3 o ho).trans hg,h4,h5⟩⟩
section
variable {σ:Type} (step:Nat->Nat->σ->σ) (len:Nat->Nat)
def inF (i:Nat) (s:σ) (k:Nat):σ:=Nat.rec (motive:=fun _=>σ) s (fun k s=>step i k s) k
def gm (s:σ) (i:Nat):σ:=Nat.rec (motive:=fun _=>σ) s (fun i s=>inF step i s (len i)) i
variable {step len} {P:Program} {n K:Nat}
theorem oU {a d b:Nat} {A C B1 B2 cb E:Code} {S:σ->List Ob} {m:Nat} {I:Nat->Nat->σ->Prop} {La Lb Lc Ld Lf:Nat->Loc} {Le:Nat->Nat->Loc} {Lbx Lx:Loc} {s0:σ}
  (pA: ∀i,i<m-> ∀ob,Piece P n K A (La i) ob .normal (Lb i) ob) (pC: ∀i,i<m-> ∀ob,Piece P n K C (Lb i) ob .normal (Lc i) ob)
  (pB1: ∀i,i<m-> ∀ob,Piece P n K B1 (Lc i) ob .normal (Ld i) ob) (pB2: ∀i,i<m-> ∀ob,Piece P n K B2 (Ld i) ob .normal (Le i 0) ob)
  (pin: ∀i k s,i<m->k<len i->I i k s->Piece P n K cb (Le i k) (S s) .normal (Le i (k+1)) (S (step i k s))/\I i (k+1) (step i k s))
  (pinx: ∀i,i<m-> ∀ob,Piece P n K cb (Le i (len i)) ob (.exit b) (Lf i) ob) (pE: ∀i,i<m-> ∀ob,Piece P n K E (Lf i) ob .normal (La (i+1)) ob)
  (pAx: ∀ob,Piece P n K A (La m) ob .normal Lbx ob) (pCx: ∀ob,Piece P n K C Lbx ob (.exit a) Lx ob)
  (i0:I 0 0 s0) (iN: ∀i s,i<m->I i (len i) s->I (i+1) 0 s):
  Piece P n K (.block a (.loop (.seq A (.seq C (.seq (.block d (.seq B1 (.seq B2 (.block b (.loop cb))))) E))))) (La 0) (S s0) .normal Lx (S (gm step len s0 m)):=by
 have inI: ∀i s,i<m->I i 0 s-> ∀k,k<=len i->I i k (inF step i s k):=fun i s hi h k=>by
  induction k with
  |zero=>exact fun _=>h
  |succ k ih=>exact fun hk=>(pin i k _ hi oab (ih oab)).2
 have outI: ∀i,i<=m->I i 0 (gm step len s0 i):=fun i=>by
  induction i with
  |zero=>exact fun _=>i0
  |succ i ih=>exact fun hi=>iN i _ oab (inI i _ oab (ih oab) _ (Nat.le_refl _))
 have inner: ∀i,i<m->Piece P n K (.block b (.loop cb)) (Le i 0) (S (gm step len s0 i)) .normal (Lf i) (S (gm step len s0 (i+1))):=fun i hi=>by
  refine xY (fun k=>Le i k) (fun k=>S (inF step i (gm step len s0 i) k)) (fun k=>k<=len i) (fun k=>len i-k) 0 (Nat.zero_le _) fun k hk=> ?_
  by_cases hkl:k<len i
  ·exact .inl ⟨k+1,by omega,by omega,(pin i k _ hi hkl (inI i _ hi (outI i oab) k hk)).1⟩
  ·obtain rfl:k=len i:=by omega
   exact .inr (pinx i hi _)
 refine xY (fun i=>La i) (fun i=>S (gm step len s0 i)) (fun i=>i<=m) (fun i=>m-i) 0 (Nat.zero_le _) fun i hi=> ?_
 by_cases him:i<m
 ·exact .inl ⟨i+1,by omega,by omega,dK (pA i him _) (dK (pC i him _) (dK (mz (dK (pB1 i him _) (dK (pB2 i him _) (inner i him)))) (pE i him _)))⟩
 ·obtain rfl:i=m:=by omega
  exact .inr (dK (pAx _) (lD (pCx _) oai))
end
structure gn where
 p:Prop
 x:AX
 L:Loc
 sel:List Nat
 N:Nat
 ob:List Ob
 obR:List Ob
def gn.ends (o:gn) (x:AX) (M:Tri AV) (O:Tri Ob) (N:Nat):Prop:=o.p/\x=o.x/\N=o.N/\(o.L.map fun p=>M.get p.1)=nmS o.sel o.N o.L/\o.sel.map O.get=o.obR.map some
def gn.cS (K:Nat) (o:gn):Prop:=eT o.x=true/\lB o.sel=true/\(range K).all (fun i=>o.sel[i]? ==some i)=true/\o.L.all (fun p=>plS p.2)=true/\o.obR=o.ob.map (Ob.ren (b0 o.sel o.N))
theorem mH {K:Nat} {o:gn} (h1:eT o.x=true) (h2:lB o.sel=true) (h3:(range K).all (fun i=>o.sel[i]? ==some i)=true) (h4:o.L.all (fun p=>plS p.2)=true) (h5:o.obR=o.ob.map (Ob.ren (b0 o.sel o.N))):o.cS K:=⟨h1,h2,h3,h4,h5⟩
theorem sQ {K:Nat}: ∀o∈([]:List gn),o.cS K:=fun o h=>by simp at h
theorem dX {K:Nat} {o:gn} {l:List gn} (h:o.cS K) (t: ∀o∈l,o.cS K): ∀o' ∈o::l,o'.cS K:=fun o' ho=>by
 rcases List.mem_cons.1 ho with rfl|ho
 ·exact h
 ·exact t o' ho
theorem ya {p:gn->Prop}: ∀o∈([]:List gn),p o:=fun o h=>by simp at h
theorem eN {p:gn->Prop} {o:gn} {l:List gn} (h:p o) (t: ∀o∈l,p o): ∀o' ∈o::l,p o' :=fun o' ho=>by
 rcases List.mem_cons.1 ho with rfl|ho
 ·exact h
 ·exact t o' ho
section
variable {xs:List Value} {j:Nat} {c:AV} {rows:List (List AV)} {k:Nat}
theorem atN (e:rows=aG ((vs xs).set j c)) (h:j<xs.length):(dec ((0*1+j*1+0)/1=j)&&(dec ((0*1+j*1+0)%1=0)&&dec (rows[j]? =some [c])))=true:=by
 rw [aP.2 oab,aP.2 oab,aP.2 (by rw [e,aG,List.getElem?_map,List.getElem?_set_self (by simpa [vs] using h)];rfl)]
 rfl
theorem stN (e:rows=aG ((vs xs).set j c)) (h:j<xs.length):((true&&(dec ((0*1+j*1+0)/1=j)&&(dec ((0*1+j*1+0)%1=0)&&dec (rows[j]? =some [c]))))&&Nat.ble (0+1) 1)=true:=by rw [atN e h];rfl
theorem nW (e:rows=aG ((vs xs).set j c)) (c' :AV):rows.set j [c']=aG ((vs xs).set j c'):=by rw [e,NQ,List.set_set]
theorem ew {f:Nat->Nat} {T:TypeId} {o z:Nat} {q:Nat} (h:f o=q):(Ob.row T 1 (aG ((vs xs).set j (.sr o 1 0 z)))).ren f= .row T 1 (aG ((vs xs).set j (.sr q 1 0 z))):=by simp only [Ob.ren,dE,eP,lE,AV.ren,h]
theorem cv {f:Nat->Nat} {T:TypeId} {S:Nat} {r:List (List AV)} (h:aj r=true):(Ob.row T S r).ren f= .row T S r:=by simp only [Ob.ren];rw [gb (N:=0) (fun _ h=>by cases h) r (eS 0 r h)]
end
def Qh (l:List gn):VK:=fun t x M O N=>match t with
 | .pick j=>match l[j]? with
  |some o=>o.ends x M O N
  |none=>False
 |_=>False
theorem lfN (o:gn) (h:o.p) {oba:List Ob} (e:oba=o.obR):o.p/\o.x=o.x/\o.N=o.N/\nmS o.sel o.N o.L=nmS o.sel o.N o.L/\oba.map some=o.obR.map some:=⟨h,rfl,rfl,rfl,congrArg _ e⟩
theorem gn.view {K:Nat} {o:gn} (hf:o.cS K) {x:AX} {M:Tri AV} {O:Tri Ob} {N:Nat} (h:o.ends x M O N) {L1:Loc} {ob1:List Ob} (hM:cw M L1) (hO:bV O N ob1):Mc K L1 ob1 o.L o.ob o.sel/\eT x=true/\x=o.x:=by
 obtain ⟨f1,f2,f3,f4,f5⟩:=hf
 obtain ⟨_,rfl,rfl,h1,h2⟩:=h
 have hl1:ob1.length=o.N:=hO.1
 have h1' :(o.L.map (·.1)).map M.get=l9 (b0 o.sel o.N) o.L:=by
  rw [List.map_map]
  refine h1.trans (List.map_congr_left fun p hp=> ?_)
  rw [ET (List.all_eq_true.1 f4 p hp)]
 have h2' :o.sel.map O.get=(o.ob.map fun X=>X.ren (b0 o.sel o.N)).map some:=by rw [h2,f5]
 refine ⟨⟨iz f2,?_,fun i s X hi hX=> ?_,fun i hi=> ?_,fun t av e=> ?_⟩,f1,rfl⟩
 ·have:=congrArg length h2'
  simpa using this
 ·have e1:(o.sel.map O.get)[i]? =some (O.get s):=by rw [List.getElem?_map,hi];rfl
  rw [h2',List.getElem?_map,List.getElem?_map,hX] at e1
  simp only [Option.map_some,Option.some.injEq] at e1
  exact ⟨_,by rw [<-hO.2];exact e1.symm,by rw [hl1];exact .same _⟩
 ·have:=List.all_eq_true.1 f3 i (List.mem_range.2 hi)
  simpa using this
 ·rw [<-hM t,hl1]
  exact kF h1' t av e
theorem J6 {P:Program} {n K:Nat} {c:Code} {V:VC} (hv:gZ P n K c V) {L L' :Loc} {ob ob' :List Ob} {x:AX} {l:List gn} {t:GT} (h:V (bz L) (bw ob) ob.length (Qh l) t) (hf: ∀o∈l,o.cS K) (hw: ∀o∈l,o.p->o.x=x/\o.L=L' /\o.ob=ob'):Piece P n K c L ob x L' ob' :=by
 intro df Q hd hq
 refine sG (hv.ok h (gD L) (e7 ob) hd fun {t' x' M' O' N' L1 ob1} h1 hM hO=> ?_)
 cases t' with
 |pick j=>
  simp only [Qh] at h1
  split at h1
  ·rename_i o ho
   have hm:=List.mem_of_getElem? ho
   obtain ⟨v,w,rfl⟩:=gn.view (hf o hm) h1 hM hO
   obtain ⟨rfl,rfl,rfl⟩:=hw o hm h1.1
   exact ⟨o.L,o.ob,o.sel,v,w,hq⟩
  ·exact h1.elim
 |_=>exact h1.elim
structure lU where
 f:FuncId
 args:List AV
 ob0:List Ob
 r:AV
 ob1:List Ob
 p:Prop
def lU.b7 (P:Program) (c:lU):Prop:=c.p->qB P c.f c.args c.ob0 c.r c.ob1
noncomputable def sR (T:List lU) (callf:cI):cI:=fun f args O N tm=>match tm.gd with
 | .cd i _::g=>match T[i]? with
  |some c=>cond (Nat.beq f c.f) (.ret c.r (bw c.ob1) c.ob1.length (((tm.at N).told g (dec c.p&&dec (args=c.args/\xH O N 0=c.ob0))).low (LZ 0 (Nat.add N c.ob1.length)))) (callf f args O N tm)
  |none=>callf f args O N tm
 |_=>callf f args O N tm
inductive uu (P:Program):List lU->Prop
 |nil:uu P []
 |cons {c:lU} {T:List lU} (h:c.b7 P) (t:uu P T):uu P (c::T)
section
variable {P:Program}
theorem uu.get: ∀{T:List lU},uu P T-> ∀{i:Nat} {c:lU},T[i]? =some c->c.b7 P
 |[],_,i,c,h=>by simp at h
 |d::T,.cons h t,i,c,e=>by
  cases i with
  |zero=>simp at e;subst e;exact h
  |succ i=>exact t.get (by simpa using e)
theorem C6 {T:List lU} {callf:cI} (h:uu P T) (hcf:ct P callf):ct P (sR T callf):=fun f args O N tm=>by
 unfold sR
 split
 ·rename_i i r g hg
  split
  ·rename_i c hc
   cases hf:Nat.beq f c.f with
   |false=>exact hcf f args O N tm
   |true=>
    have:=Nat.eq_of_beq_eq_true hf
    subst this
    simp only [cond_true]
    refine ⟨fun r' O1 N1 t1 e=> ?_,fun av O1 N1 t1 e=>by cases e⟩
    cases e
    refine ⟨⟨[_],rfl⟩,fun hok ob hO=> ?_⟩
    simp only [TM.told,TM.at,TM.low,cx,Bool.and_eq_true] at hok
    have k:=(h.get hc) (aP.1 hok.1.1)
    obtain ⟨k1,k2⟩:=aP.1 hok.1.2
    rw [qA hO] at k2
    subst k1;subst k2
    refine ⟨c.ob1,e7 _,k,fun i hi=> ?_⟩
    simp only [TM.told,TM.at,TM.low] at hi
    rw [wK,Bool.or_eq_false_iff] at hi
    rcases HD hi.2 with h1|h1
    ·exact absurd h1 (Nat.not_lt_zero _)
    ·have h1:N+c.ob1.length<=i:=by simpa using h1
     rw [(e7 c.ob1).2 i,hO.2 i,List.getElem?_eq_none oab,List.getElem?_eq_none (by have:=hO.1;omega)]
  ·exact hcf f args O N tm
 ·exact hcf f args O N tm
theorem qU {c:lU} (hp:c.p) {ob:List Ob} (e:ob=c.ob0):(dec c.p&&dec (c.args=c.args/\ob=c.ob0))=true:=by rw [aP.2 hp,aP.2 ⟨rfl,e⟩];rfl
theorem NX {f:FuncId} {args:List AV} {T:TypeId} {S:Nat} {R R' :List (List AV)} {r:AV} (h:bg P f args [.row T S R] [] r [.row T S R']) (hR:aj R=true) (hR' :aj R' =true) (hr:r.pure=true) (xs:List Ob) (ha:b6 (b0 [0] (.row T S R::xs:List Ob).length) args=args):bg P f args (.row T S R::xs) [] r (.row T S R' ::xs):=by
 have k:=NF h (sel:=[0]) (ob:= .row T S R::xs) (List.nodup_cons.2 ⟨by simp,List.nodup_nil⟩) ⟨⟨by rw [cv hR];rfl,by simp⟩,trivial⟩ (Nat.le_refl _)
 rw [ha,fJ _ _ hr] at k
 simpa [back,gW,ej,cv hR'] using k
theorem Vh {n0:Nat} {callf:cI} {pu:FuncId->Bool} {lf:Nat} {f:FuncId} {fn:Func} {body:Code} {args:List AV} {ob0:List Ob} {r:AV} {obs:List Ob} {l:List (Nat×KB)} {t:GT} (hcf:ct P callf) (hm:P.follows .mixedOrders=true) (hf:P.funcs[f]? =some fn) (hname:(fn.name== "runtime.NumGoroutine")=false) (hb:fn.body=some body) (hn:args.length<=fn.ntmps)
  (hk:HV P fn.ntmps ob0.length (kbL l) body) (hl:ob0.length<=obs.length) (hu:r.und obs.length=true) (ho:obs.all (Ob.und obs.length)=true) (e0:ob0.length=n0) (h:vcC P fn.ntmps callf pu lf (kbL l) body (l8 0 args .e) (bw ob0) n0 (WV P fn.results.toList r obs) t):bg P f args ob0 [] r obs:=by
 subst e0
 refine jo hf hname hb hn hl hu ho ?_
 refine (aL hcf hm hk).ok h (fa args) (e7 ob0) (.inl rfl) fun {t' x M' O' N' L' ob'} h1 hM hO=> ?_
 obtain ⟨h1,h2⟩:=h1
 obtain ⟨xs,e⟩:=sF rfl h2 hO
 have aux:HW r (lA P M' O' fn.results.toList)-> ∃avs,nU P L' ob' fn.results.toList avs/\(qd.ret (gO avs)= .ret r/\ ∃xs,ob' =obs++xs):=fun h=>by
  cases hr:lA P M' O' fn.results.toList with
  |none=>rw [hr] at h;exact h.elim
  |some avs=>
   rw [hr] at h
   exact ⟨avs,jO hM hO hr,congrArg _ h,xs,e⟩
 cases x with
 |normal=>exact aux h1
 |ret=>exact aux h1
 |_=>exact h1.elim
theorem roI {α:Type} {T S:Nat} {f:α->List AV} {rows:List (List AV)} {x v:Int} {l r:List α} (e:Ob.row T S rows=Ob.row T S (l.map f)) (h:(v,l)=(x,r)):(AV.v (.int .i64 v)=AV.v (.int .i64 x))/\([Ob.row T S rows].map some=[Ob.row T S (r.map f)].map some):=by
 cases h;exact ⟨rfl,by rw [e]⟩
theorem n1F (k:Nat):decide (((k+1:Nat):Int)<=0)=false:=decide_eq_false oab
end
theorem rl {α:Type} (f:α->List AV) (l:List α):l.map f=l.map f:=rfl
section
variable {α:Type} [Inhabited α]
theorem rwz (f:α->List AV) (l:List α) (s:Int) (h0:0<=s:=by omega) (h:s<(((l.map f).length:Nat):Int):=by omega):(dec (s=((s.toNat:Nat):Int))&&dec ((l.map f)[s.toNat]? =some (f (aq l s))))=true:=HT (decide_eq_true h0) (decide_eq_true h)
theorem rwa (f:α->List AV) (l:List α) (i:Nat) (h:i<l.length:=by omega):dec ((l.map f)[i]? =some (f (ae l i)))=true:=qF h
variable {f0:α->List AV} {l:List α} {rows:List (List AV)}
theorem ato (S f z:Nat) (e:rows=l.map f0) (h:z<l.length:=by omega) (hf:f<S:=by decide):(dec ((0*S+z*S+f)/S=z)&&(dec ((0*S+z*S+f)%S=f)&&dec (rows[z]? =some (f0 (ae l z)))))=true:=atL e hf h
theorem sto (S f k z:Nat) (e:rows=l.map f0) (h:z<l.length:=by omega) (hf:f<S:=by decide) (hk:Nat.ble (f+k) S=true:=by rfl):((true&&(dec ((0*S+z*S+f)/S=z)&&(dec ((0*S+z*S+f)%S=f)&&dec (rows[z]? =some (f0 (ae l z))))))&&Nat.ble (f+k) S)=true:=stL e hf h hk
end
theorem apo {α:Type} {f0:α->List AV} {l:List α} {rows:List (List AV)} (k B:Nat) (e:rows=l.map f0) (h1:k<=l.length:=by first|omega|(simp only [List.length_map,List.length_set,List.length_append,List.length_take,List.length_cons,List.length_nil];omega)) (h2:(k+1)*B<=140737488355328:=by omega) (h3:k+1<=9223372036854775807:=by omega):((true&&true&&true&&Nat.ble k rows.length)&&true&&(true&&true&&true&&Nat.ble ((k+1)*B) 140737488355328&&Nat.ble (k+1) 9223372036854775807&&true))=true:=apL e h1 h2 h3
theorem ixo (z n:Nat) (h:z<n:=by omega):(true&&Nat.blt z n)=true:=ixL h
theorem ixz (x:Int) (n:Nat) (h0:0<=x:=by omega) (h:x<(n:Int):=by omega):(true&&(dec (x=((x.toNat:Nat):Int))&&Nat.blt x.toNat n))=true:=ixI h0 h
theorem dwo (z:Int) (h0: -9223372036854775808<=z:=by omega) (h1:z<=9223372036854775807:=by omega):dec (IntKind.i64.wrap z=z)=true:=dwr h0 h1
theorem dso (k:Nat) (h:1<=k:=by omega) (h2:k<=9223372036854775807:=by omega):dec (IntKind.i64.wrap ((k:Int)-1)=((k-1:Nat):Int))=true:=dws h h2
theorem mko (n B:Nat) (h:B*n<=281474976710656:=by omega) (h2:n<=9223372036854775807:=by omega):(true&&true&&Nat.ble n n&&Nat.ble (B*n) 281474976710656&&Nat.ble n maxLen)=true:=mkSl h h2
theorem slo (p q l:Nat) (h1:p<=q:=by omega) (h2:q<=l:=by omega):((Nat.ble p q&&Nat.ble q l)&&true)=true:=slA h1 h2
theorem nxP {σ:Type} {t:Bool} (La:σ->Loc) (Oa:σ->List Ob) {a v:σ} (h:t=false) (e:a=v):t=false/\La v=La a/\Oa v=Oa a:=by rw [e];exact ⟨h,rfl,rfl⟩
end Go.Am
namespace Go.Proofs.YtfkjfjalecikkaaGreatDoor
open Go.Am
attribute [simp] mA sL kJ oP oQ mB sM qG P0
@[simp] theorem pr_range (l:List (Int×Int)):aj (l.map bu)=true:=aY mA l
@[simp] theorem pr_act (l:List (Int×Int)):aj (l.map fk)=true:=aY sL l
@[simp] theorem X2 (l:List ByteArray):aj (l.map bH)=true:=aY kJ l
@[simp] theorem pr_rule (l:List ca):aj (l.map aE)=true:=aY oP l
@[simp] theorem pr_edge (l:List Edge):aj (l.map aV)=true:=aY oQ l
@[simp] theorem pr_state (l:List State):aj (l.map ak)=true:=aY mB l
@[simp] theorem pr_g (l:List G):aj (l.map gC)=true:=aY qG l
@[simp] theorem aaG (n:Net):(gL n).pure=true:=by simp [gL,AV.pure]
@[simp] theorem pl_g (g:G):(gCC g).all plS=true:=by simp [gCC,plS,AV.pure]
@[simp] theorem pl_s (s:State):(ak s).all plS=true:=by simp [ak,plS,AV.pure]
@[simp] theorem pl_r (r:ca):(aE r).all plS=true:=by simp [aE,plS,AV.pure]
theorem rowG {l:List G} {i:Nat} (h:i<l.length):dec ((l.map gC)[i]? =some (gCC (ae l i)))=true:=by rw [JT];exact qF h
theorem iK (l:List G) (i:Nat) (h:i<l.length:=by omega):dec ((l.map gC)[i]? =some (gCC (ae l i)))=true:=rowG h
theorem ixB (s:ByteArray) (i:Nat) (h:i<s.size):dec (IxP Tryz.prog 9 (.string s) (.int .i64 i) (.int .u8 (cO s i)))=true:=aP.2 (ixs s i h)
noncomputable def Mv (id:Nat) (c:Code):Code:=(P5 id c).getD .skip
theorem yb {m:Mem} {γ:Gam}: ∀{cs:List AV} {b off:Nat},bJ m γ cs b off->bN m γ 1 (aG cs) b off
 |[],_,_,_=>by simp [aG,bN]
 |c::cs,b,off,h=>by
  simp only [bJ] at h
  have:=yb h.2
  grind [aG,bN,bJ]
theorem J7 {m:Mem} {γ:Gam} {cs:List AV} {b off:Nat} (h:bJ m γ cs b off) (k:Nat):bJ m γ (cs.take k) b off:=by
 grind [ed,p9]
section
variable {P:Program} {n:Nat} {ops:Array Oper} {l:List Oper} {L:Am.Loc} {ob:List Ob} {kf:List Rec->Am.Loc->List Ob->Prop} {gu:Am.Loc} {dst:Option Nat} {ty:TypeId} {pos:String} {after:Array Go.Edge} {guard:Option (Nat×Bool)}
theorem EX {x:Operand} {t e:TypeId} {N p q:Nat} {k1 k2:IntKind} {cs:List AV} (ht:arK P t=some (N,e,1)) (hx:ba L x=some (.pf cs)) (h1:p<q) (h2:q<=N) (hcs:cs.length=N) (hg:Gd ops L guard gu) (hn: ∀d,dst=some d->d<n)
  (kk:EvK P n ops l (cN L dst (.sl 1 (aG ((cs.drop p).take (q-p)))) []) ob (fun recs=>kf (⟨dst,gu++cg [(x,.pf cs)],.sl 1 (aG ((cs.drop p).take (q-p))),[],.pure⟩::recs))):
  EvK P n ops (⟨dst,.slice t x (some (.const (.int k1 p))) (some (.const (.int k2 q))) none,ty,pos,after,guard⟩::l) L ob kf:=
 cK (o:=⟨dst,.slice t x (some (.const (.int k1 p))) (some (.const (.int k2 q))) none,ty,pos,after,guard⟩) [(x,.pf cs)] ⟨hx,trivial⟩ hg hn (fun m γ w a _ h=>by
  have h5:=h.1
  simp only [Rep] at h5
  obtain ⟨b,off,e1,e2⟩:=h5
  obtain ⟨hu,inf,g1,g2⟩:=qx ht
  have hsz:(sizeOf e).run P w= .ok 1 w:=by simp [sizeOf,typeInfo,g1,g2]
  refine ⟨.slice (some (if N=p then ⟨b,off,none⟩ else Addr.add ⟨b,off,none⟩ (p*1))) (q-p) (N-p),?_,?_⟩
  ·have k:(Instr.sliceBounds false N N (some (.int k1 p)) (some (.int k2 q)) none).run P w= .ok (p,q,N) w:=by
    simp [Instr.sliceBounds,gT w _ _ _ _ (Nat.le_of_lt h1),gT w _ _ _ _ h2]
   have key:(Instr.sliceAt t (.pointer (some ⟨b,off,none⟩)) (some (.int k1 p)) (some (.int k2 q)) none).run P w= .ok (.slice (some (if N=p then ⟨b,off,none⟩ else Addr.add ⟨b,off,none⟩ (p*1))) (q-p) (N-p)) w:=by
    simp only [Instr.sliceAt,Sem.run_bind,run_underlying hu,Result.andThen_ok,Instr.sureAddr,Sem.run_pure,k,hsz]
   simp only [execOp,e1,Option.map_none,Option.map_some]
   simp only [Act.eval,Sem.run_bind,key,Result.andThen_ok,Sem.run_pure]
  ·simp only [Rep]
   refine ⟨_,_,_,rfl,by rw [gf,List.length_take,List.length_drop];omega,by omega,.inr ⟨b,off+p,by rw [if_neg oab];simp [Addr.add],yb (J7 (e8 e2 p) _)⟩⟩) kk
end
def Qi:List AV:=[S ⟨#[105,110,100,101,120]⟩,S ⟨#[99,111,108,117,109,110]⟩,S ⟨#[108,97]⟩,S ⟨#[109,111,100,101]⟩]
def W15:List AV:=replicate 10 (S ⟨#[]⟩)++Qi++ [S ⟨#[]⟩]
def X3:List Oper:=[⟨some 3,.slice 174 (.tmp 1) (some (.const (.int .i8 (10:Nat)))) (some (.const (.int .i8 (14:Nat)))) none,22, "guard.go:51",#[],none⟩,⟨some 0,.assign (.tmp 3),22, "guard.go:51",#[⟨0,.data⟩,⟨0,.phase⟩],none⟩]
theorem tl133:sq2 (sq2 (aH 133))= .seq (.region 2 X3.toArray false) .ret:=by kernel_rfl
theorem Vi:gJ [1] [0] (HN Tryz.prog 4 base aK 3000 [sq1 (aH 133),sq1 (sq2 (aH 133))] (l8 0 [] .e) .e 0 ⟨0,[],[]⟩)=some (.normal,[some (.pt 0 0)],[some (.box 174 W15)],1,[]):=by kernel_rfl
theorem Vj:bg pg 133 [] [] [] (.sl 1 (aG Qi)) []:=by
 refine jo (fn:=Tryz.f133) Tryz.func133 oaa (show Tryz.f133.body=some (PT [sq1 (aH 133),sq1 (sq2 (aH 133))] (sq2 (sq2 (aH 133)))) by kernel_rfl) (Nat.le_of_ble_eq_true rfl) (Nat.le_refl _) rfl rfl ?_
 refine HP aw mixed [(1,.pt 0 0)] [.box 174 W15] Vi rfl rfl rfl rfl (PZ (A:=[.box 174 W15]) (JS 1 _) rfl) ?_
 refine PV (PU (o:=0) (X:= .box 174 W15) (ob2:=[.dead]) (L' :=[(1,.pf W15)]) rfl (.inr ⟨_,_,rfl⟩) rfl oaw (fun t av' h=> ?_)) ?_
 ·rw [dk] at h
  split at h
  ·rename_i e
   cases h
   exact ⟨.pt 0 0,by rw [dk,if_pos e],Frz.pt rfl⟩
  ·simp [lk] at h
 ·rw [tl133]
  refine ia (Jj (.inl rfl) ?_)
  refine EX (N:=15) (p:=10) (q:=14) (cs:=W15) (e:=9) oaa rfl oab oab rfl (by first|exact .none|exact rfl) (by intro d h;cases h;decide) ?_
  refine Cu rfl .none (by intro d h;cases h;decide) ?_
  refine ns (US (L3:=[(0,.sl 1 (aG Qi))]) rfl ?_ ?_)
  ·exact kc 0 rfl kn
  ·refine LN ?_
   exact ⟨[.sl 1 (aG Qi)],by first|exact .tmp rfl .nil,rfl,_,rfl⟩
def vo (c:Int):Bool:=(bif decide (c>=97) then ((decide (c<=122))||((decide (c>=65))&&decide (c<=90))) else ((decide (c>=65))&&decide (c<=90)))
abbrev zu:GT:=(.r [bT] (.a (.a (.r (.k::bT::bT::.k::uFF 6 [bT]) .nil) (.a (.r [.k,bT,bT,.k,bT,bT,.k,bT,bT,bT,.k,bT,bT] .nil) (.r [.k,bT,bT,.k,bT,bT,.k,bT,bF,bF,bT,bT] .nil))) (.a (.r [.k,bF,bF,bT,bT,.k,bT,bT,bT,.k,bT,bT] .nil) (.r [.k,bF,bF,bT,bT,.k,bT,bF,bF,bT,bT] .nil))))
theorem NY (c:Int):bg pg 129 [.v (.int .u8 c)] [] [] (B (vo c)) []:=
 bD (fn:=Tryz.f129) (callf:=base) (pu:=aK) (lf:=3000) (l:=[]) (t:=zu) aw mixed Tryz.func129 oaa (show Tryz.f129.body=some (aH 129) by kernel_rfl) (Nat.le_of_ble_eq_true rfl) (az _) rfl (bc
 (an a0
 (aM (fun (h0:(decide (c>=97))=true)=>have q0:=(cdT h0 rfl:vo c=_);
 (aM (fun (h1:(decide (c<=122))=true)=>
 (an (aN 5 (ac (n2 h1) (aN 2 (ac h0 (a1 a0)))))
 (bE (q0.trans (orT h1))))) (fun h1=>
 (aM (fun (h2:(decide (c>=65))=true)=>
 (an (aN 3 (ac h2 (aN 3 (ac (au h1) (aN 2 (ac h0 (a1 a0)))))))
 (bE (show vo c=(decide (c<=90)) from (cdT h0 (orF h1 (aD h2 rfl))))))) (fun h2=>
 (an (aN 2 (ac (au h2) (aN 3 (ac (au h1) (aN 2 (ac h0 (a1 a0)))))))
 (bE (q0.trans (orF h1 (bf h2)))))))))) (fun h0=>
 (aM (fun (h1:(decide (c>=65))=true)=>
 (an (aN 3 (ac h1 (aN 5 (ac (au h0) (a1 a0)))))
 (bE (show vo c=(decide (c<=90)) from (cdF h0 (aD h1 rfl)))))) (fun h1=>
 (an (aN 2 (ac (au h1) (aN 5 (ac (au h0) (a1 a0)))))
 (bE (show vo c=false from (cdF h0 (bf h1))))))))))
 oaa)
def i129 (c:Int):cc:=⟨129,[.v (.int .u8 c)],B (vo c),True⟩
theorem J8 (c:Int):(i129 c).b7 pg:=fun hp=>(by grind [NY,i129,ah,AV.pure])
def J9 (c:Int):Bool:=((decide (c>=48))&&decide (c<=57))
abbrev zBh:GT:=(.r [bT] (.a (.r [.k,bT,bT,.k,bT] .nil) (.r [.k,bF,bF,bT] .nil)))
theorem Qj (c:Int):bg pg 136 [.v (.int .u8 c)] [] [] (B (J9 c)) []:=
 bD (fn:=Tryz.f136) (callf:=base) (pu:=aK) (lf:=3000) (l:=[]) (t:=zBh) aw mixed Tryz.func136 oaa (show Tryz.f136.body=some (aH 136) by kernel_rfl) (Nat.le_of_ble_eq_true rfl) (az _) rfl (bc
 (an a0
 (aM (fun (h0:(decide (c>=48))=true)=>
 (an (aN 2 (ac h0 (a1 a0)))
 (bE (show J9 c=(decide (c<=57)) from (aD h0 rfl))))) (fun h0=>
 (an (a1 (ac (au h0) (a1 a0)))
 (bE (show J9 c=false from (bf h0)))))))
 oaa)
def i136 (c:Int):cc:=⟨136,[.v (.int .u8 c)],B (J9 c),True⟩
theorem g136 (c:Int):(i136 c).b7 pg:=fun hp=>(by grind [Qj,i136,ah,AV.pure])
def vp (c:Int):Bool:=(bif decide (c>=97) then ((decide (c<=122))||((decide (c>=65))&&decide (c<=90))) else ((decide (c>=65))&&decide (c<=90)))
theorem NZ (c:Int):bg pg 134 [.v (.int .u8 c)] [] [] (B (vp c)) []:=
 bD (fn:=Tryz.f134) (callf:=base) (pu:=aK) (lf:=3000) (l:=[]) (t:=zu) aw mixed Tryz.func134 oaa (show Tryz.f134.body=some (aH 134) by kernel_rfl) (Nat.le_of_ble_eq_true rfl) (az _) rfl (bc
 (an a0
 (aM (fun (h0:(decide (c>=97))=true)=>have q0:=(cdT h0 rfl:vp c=_);
 (aM (fun (h1:(decide (c<=122))=true)=>
 (an (aN 5 (ac (n2 h1) (aN 2 (ac h0 (a1 a0)))))
 (bE (q0.trans (orT h1))))) (fun h1=>
 (aM (fun (h2:(decide (c>=65))=true)=>
 (an (aN 3 (ac h2 (aN 3 (ac (au h1) (aN 2 (ac h0 (a1 a0)))))))
 (bE (show vp c=(decide (c<=90)) from (cdT h0 (orF h1 (aD h2 rfl))))))) (fun h2=>
 (an (aN 2 (ac (au h2) (aN 3 (ac (au h1) (aN 2 (ac h0 (a1 a0)))))))
 (bE (q0.trans (orF h1 (bf h2)))))))))) (fun h0=>
 (aM (fun (h1:(decide (c>=65))=true)=>
 (an (aN 3 (ac h1 (aN 5 (ac (au h0) (a1 a0)))))
 (bE (show vp c=(decide (c<=90)) from (cdF h0 (aD h1 rfl)))))) (fun h1=>
 (an (aN 2 (ac (au h1) (aN 5 (ac (au h0) (a1 a0)))))
 (bE (show vp c=false from (cdF h0 (bf h1))))))))))
 oaa)
def i134 (c:Int):cc:=⟨134,[.v (.int .u8 c)],B (vp c),True⟩
theorem N4 (c:Int):(i134 c).b7 pg:=fun hp=>(by grind [NZ,i134,ah,AV.pure])
def Ka (c:Int):Bool:=((decide (c>=48))&&decide (c<=57))
theorem Qk (c:Int):bg pg 135 [.v (.int .u8 c)] [] [] (B (Ka c)) []:=
 bD (fn:=Tryz.f135) (callf:=base) (pu:=aK) (lf:=3000) (l:=[]) (t:=zBh) aw mixed Tryz.func135 oaa (show Tryz.f135.body=some (aH 135) by kernel_rfl) (Nat.le_of_ble_eq_true rfl) (az _) rfl (bc
 (an a0
 (aM (fun (h0:(decide (c>=48))=true)=>
 (an (aN 2 (ac h0 (a1 a0)))
 (bE (show Ka c=(decide (c<=57)) from (aD h0 rfl))))) (fun h0=>
 (an (a1 (ac (au h0) (a1 a0)))
 (bE (show Ka c=false from (bf h0)))))))
 oaa)
def i135 (c:Int):cc:=⟨135,[.v (.int .u8 c)],B (Ka c),True⟩
theorem g135 (c:Int):(i135 c).b7 pg:=fun hp=>(by grind [Qk,i135,ah,AV.pure])
def H4 (c:Int):Bool:=((vo c)||((J9 c)||c==95))
theorem N5 (c:Int):bg pg 131 [.v (.int .u8 c)] [] [] (B (H4 c)) []:=
 bD (fn:=Tryz.f131) (callf:=(bI [i129 c,i136 c] base)) (pu:=aK) (lf:=3000) (l:=[]) (t:=(.r [bT] (.a (.r (.int 0::uFF 4 [bT]) .nil) (.a (.r [.int 0,bT,bT,.int 1,bF,bF,bT] .nil) (.r [.int 0,bT,bT,.int 1,bT,bT,.k,bT] .nil))))) (bo (.cons (J8 c) rfl (.cons (g136 c) rfl cr.nil)) aw) mixed Tryz.func131 oaa (show Tryz.f131.body=some (aH 131) by kernel_rfl) (Nat.le_of_ble_eq_true rfl) (az _) rfl (bc
 (an a0
 (aM (fun (h0:(vo c)=true)=>
 (an (aN 3 (ac (n2 h0) (cA (J8 c) trivial a0)))
 (bE (show H4 c=true from (orT h0))))) (fun h0=>
 (aM (fun (h1:(J9 c)=true)=>
 (an (a1 (ac (n2 h1) (cA (g136 c) trivial (a1 (ac (au h0) (cA (J8 c) trivial a0))))))
 (bE (show H4 c=true from (orF h0 (orT h1)))))) (fun h1=>
 (an (aN 2 (ac (au h1) (cA (g136 c) trivial (a1 (ac (au h0) (cA (J8 c) trivial a0))))))
 (bE (show H4 c=(c==95) from (orF h0 (orF h1 rfl))))))))))
 oaa)
def i131 (c:Int):cc:=⟨131,[.v (.int .u8 c)],B (H4 c),True⟩
theorem g131 (c:Int):(i131 c).b7 pg:=fun hp=>(by grind [N5,i131,ah,AV.pure])
def yc:Code:=bP 0 (aH 126)
def sS (s:ByteArray) (i0:Nat):Am.Loc:=[(0,S s),(3,I (i0:Int))]
def sT (s:ByteArray) (i0:Nat):List Ob:=[]
def j6 (s:ByteArray) (i0:Nat):Bool:=((!(vp (cO s i0)))&&((!(Ka (cO s i0)))&&((cO s i0) !=95)))
def js (s:ByteArray):Bool:=cX (ByteArray.size s) (j6 s)
def EY (s:ByteArray) (i0:Nat):Am.Loc:=[(2,B false)]
def EZ (s:ByteArray) (i0:Nat):List Ob:=[]
def qK (s:ByteArray):Am.Loc:=[(0,S s)]
def qL (s:ByteArray):List Ob:=[]
abbrev zBz (s:ByteArray):=(ByteArray.size s)
def wb (s:ByteArray):KB:=⟨sS s 0,sT s 0,js s,.ret,EY s (b4 (zBz s) (j6 s)),EZ s (b4 (zBz s) (j6 s)),.normal,qK s,qL s,True⟩
abbrev zb:=(range 0)
def mI (s:ByteArray) (i0:Nat):List bG:=[htW (j6 s i0) .ret (EY s i0) zb (EZ s i0),nxW (j6 s i0) (sS s (i0+1)) (sT s (i0+1)) (sS s (i0+1)) zb (sT s (i0+1))]
def Ql (s:ByteArray) (i0:Nat):GT:=(.r [.k,bT] (.yes (.a (.a (.r (.val (.int .u8 (cO s i0))::.int 0::bT::bT::bT::.val (.int .u8 (cO s i0))::bT::.int 1::uTT 4 [.val (.int .u8 (cO s i0)),bT,.k,bT]) (.br (.r [bT] (.pick 0)) (.r [.int ↑(i0+1),bT] (.pick 1)))) (.r (.val (.int .u8 (cO s i0))::.int 0::bT::bT::bT::.val (.int .u8 (cO s i0))::bT::.int 1::bT::uFF 4 [bT]) (.r [.int ↑(i0+1),bT] (.pick 1)))) (.r (.val (.int .u8 (cO s i0))::.int 0::uFF 9 [bT]) (.r [.int ↑(i0+1),bT] (.pick 1))))))
theorem Vk (s:ByteArray) (i0:Nat) (ls:ByteArray.size s<=9223372036854775807) (hx0:i0<(ByteArray.size s)):vcC pg 50 (bI [i134 (cO s i0),i135 (cO s i0)] base) aK 3000 (kbL []) yc (bz (sS s i0)) (bw (sT s i0)) 0 (bM (mI s i0)) (Ql s i0):=
 have hb:(decide ((i0:Int)<(ByteArray.size s:Int)))=true:=decide_eq_true oab;
 bc (an (a1 a0)
 (an hb (aM (fun (h1:(!(vp (cO s i0)))=true)=>have q0:=(aD h1 rfl:j6 s i0=_);
 (aM (fun (h2:(!(Ka (cO s i0)))=true)=>have q1:=q0.trans (aD h2 rfl);
 (an (aN 2 (ac (ixB s i0 oab) (aN 2 (ac h2 (a1 (cA (g135 (cO s i0)) trivial (a1 (ac (ixB s i0 oab) (aN 2 (ac h1 (cA (N4 (cO s i0)) trivial (ac (ixB s i0 oab) a0))))))))))))
 (brP (fun (h3:((cO s i0) !=95)=true)=>
 (an a0
 (lf (wy (mI s i0) 0) 0 (q1.trans h3)))) (fun h3=>have g3:=fu h3;
 (an (ac (dwo ((i0+1:Nat):Int)) a0)
 (lf (wy (mI s i0) 1) 0 ⟨(q1.trans h3),rfl,rfl⟩)))))) (fun h2=>
 (an (aN 3 (ac (au h2) (a1 (cA (g135 (cO s i0)) trivial (a1 (ac (ixB s i0 oab) (aN 2 (ac h1 (cA (N4 (cO s i0)) trivial (ac (ixB s i0 oab) a0))))))))))
 (an (ac (dwo ((i0+1:Nat):Int)) a0)
 (lf (wy (mI s i0) 1) 0 ⟨(q0.trans (bf h2)),rfl,rfl⟩)))))) (fun h1=>
 (an (aN 8 (ac (au h1) (cA (N4 (cO s i0)) trivial (ac (ixB s i0 oab) a0))))
 (an (ac (dwo ((i0+1:Nat):Int)) a0)
 (lf (wy (mI s i0) 1) 0 ⟨(show j6 s i0=false from (bf h1)),rfl,rfl⟩)))))))
 oaa
abbrev zG:GT:=(.r [.k,bT] (.no (.pick 0)))
abbrev zCS (s:ByteArray):=(decide ((((ByteArray.size s):Nat):Int)<(ByteArray.size s:Int)))
theorem Vl (s:ByteArray) (ls:ByteArray.size s<=9223372036854775807):vcC pg 50 base aK 3000 (kbL []) yc (bz (sS s (zBz s))) (bw (sT s (zBz s))) 0 (bM [⟨True,(.exit 0),qK s,range 0,qL s⟩]) zG:=
 have hb:(zCS s)=false:=decide_eq_false oab;
 bc (an (a1 a0)
 (an hb (lf (wy [⟨True,(.exit 0),qK s,range 0,qL s⟩] 0) 0 trivial)))
 oaa
abbrev zj:=(bG.cS 0)
theorem N6 (s:ByteArray) (i0:Nat):(mI s i0).all zj=true:=oan
theorem N7 (s:ByteArray):bG.cS 0 ⟨True,(.exit 0),qK s,range 0,qL s⟩=true:=oan
theorem N8 (s:ByteArray) (ls:ByteArray.size s<=9223372036854775807):cQ pg 50 0 0 (.loop yc) (wb s):=
 bW (fun _=>eB (id:=0) (m:=ByteArray.size s) (t:=j6 s) (xr:= .ret) (xn:=(.exit 0)) (Lr:=EY s) (Lx:=qK s) (obr:=EZ s) (obx:=qL s) (V:=fun i0=>vcC pg 50 (bI [i134 (cO s i0),i135 (cO s i0)] base) aK 3000 (kbL []) yc) (sS s) (sT s) 0 (mI s) (Ql s) _ _ (fun i0 hx0=>aL (bo (.cons (N4 (cO s i0)) rfl (.cons (g135 (cO s i0)) rfl cr.nil)) aw) mixed (az _)) (aL aw mixed (az _)) (fun e=>by cases e) (fun e=>by cases e) (fun _=>rfl) (fun i0 hx0=>Vk s i0 ls hx0) (fun i0 _=>N6 s i0) (fun i0 _=>show∀ww∈mI s i0,cm _ _ _ _ _ _ ww from (aC cT (aC bU bB))) (Vl s ls) (N7 s)) (fun h=>h) (fun h=>h)
def H5 (s:ByteArray):Bool:=(!(cG (Array.toList (ByteArray.data s)) [])&&(!(decide ((ByteArray.size s:Int)>40))&&(!(!(vp (cO s 0)))&&(!(js s)&&(!(cG (Array.toList (ByteArray.data s)) [116,114,117,101])&&(!(cG (Array.toList (ByteArray.data s)) [102,97,108,115,101])&&(!(cG (Array.toList (ByteArray.data s)) [111,114,97,99,108,101])&&(!(cG (Array.toList (ByteArray.data s)) [105,110,100,101,120])&&(!(cG (Array.toList (ByteArray.data s)) [99,111,108,117,109,110])&&(!(cG (Array.toList (ByteArray.data s)) [108,97])&&(!(cG (Array.toList (ByteArray.data s)) [109,111,100,101]))))))))))))
theorem qM:dp [0] (aH 126)=[(0,.loop yc)]:=by kernel_rfl
abbrev zF:GT:=(.r [bT] .nil)
theorem Vm (s:ByteArray) (ls:ByteArray.size s<=9223372036854775807):bg pg 126 [S s] [] [] (B (H5 s)) []:=
 bD (fn:=Tryz.f126) (callf:=(bI [i134 (cO s 0)] base)) (pu:=aK) (lf:=3000) (l:=[(0,wb s)]) (t:=(.r [bT] (.a (.r (.k::uFF 7 [bT]) zF) (.a (.r (.k::bT::bT::bT::.k::uFF 4 [bT]) zF) (.r [.k,bT,bT,bT,.k,bT,bT,.val (.int .u8 (cO s 0)),bT,.int 0,bT,bT] (.br zF (.r [bT] (.br .nil (.r [bT] (.r [.k,bT] (.br zF (.r [.k,bT] (.br zF (.r [.k,bT] (.br zF (.r [.k,bT] (.br zF (.r [.k,bT] (.br zF (.r [.k,bT] (.br zF (.r [.k,bT] (.br zF zF))))))))))))))))))))))) (bo (.cons (N4 (cO s 0)) rfl cr.nil) aw) mixed Tryz.func126 oaa (show Tryz.f126.body=some (aH 126) by kernel_rfl) (Nat.le_of_ble_eq_true rfl) (bK (l:=[(0,wb s)]) qM (aT (N8 s ls) rfl bj) rfl) rfl (bc
 (an a0
 (aM (fun (h0:(cG (Array.toList (ByteArray.data s)) [])=true)=>
 (an (aN 6 (ac (n2 h0) (a1 a0)))
 (an a0
 (bE (show H5 s=false from (bf (cq h0))))))) (fun h0=>have q0:=(aD (au h0) rfl:H5 s=_);have g0:=size_pos h0;
 (aM (fun (h1:(decide ((ByteArray.size s:Int)>40))=true)=>
 (an (aN 3 (ac (n2 h1) (aN 3 (ac (au h0) (a1 a0)))))
 (an a0
 (bE (q0.trans (bf (cq h1))))))) (fun h1=>have q1:=q0.trans (aD (au h1) rfl);have g1:=of_decide_eq_false h1;
 (an (a1 (cA (N4 (cO s 0)) trivial (a1 (ac (ixB s 0 oab) (a1 (ac (au h1) (aN 3 (ac (au h0) (a1 a0)))))))))
 (brP (fun (h2:(!(vp (cO s 0)))=true)=>
 (an a0
 (bE (q1.trans (bf (cq h2)))))) (fun h2=>have q2:=q1.trans (aD (au h2) rfl);
 (an a0
 (an (kbT (wb s) trivial) (brP (fun (h3:(js s)=true)=>
 (bE (q2.trans (bf (cq h3))))) (fun h3=>have q3:=q2.trans (aD (au h3) rfl);
 (an a0
 (an (a1 a0)
 (brP (fun (h4:(cG (Array.toList (ByteArray.data s)) [116,114,117,101])=true)=>
 (an a0
 (bE (q3.trans (bf (cq h4)))))) (fun h4=>have q4:=q3.trans (aD (au h4) rfl);
 (an (a1 a0)
 (brP (fun (h5:(cG (Array.toList (ByteArray.data s)) [102,97,108,115,101])=true)=>
 (an a0
 (bE (q4.trans (bf (cq h5)))))) (fun h5=>have q5:=q4.trans (aD (au h5) rfl);
 (an (a1 a0)
 (brP (fun (h6:(cG (Array.toList (ByteArray.data s)) [111,114,97,99,108,101])=true)=>
 (an a0
 (bE (q5.trans (bf (cq h6)))))) (fun h6=>have q6:=q5.trans (aD (au h6) rfl);
 (an (a1 a0)
 (brP (fun (h7:(cG (Array.toList (ByteArray.data s)) [105,110,100,101,120])=true)=>
 (an a0
 (bE (q6.trans (bf (cq h7)))))) (fun h7=>have q7:=q6.trans (aD (au h7) rfl);
 (an (a1 a0)
 (brP (fun (h8:(cG (Array.toList (ByteArray.data s)) [99,111,108,117,109,110])=true)=>
 (an a0
 (bE (q7.trans (bf (cq h8)))))) (fun h8=>have q8:=q7.trans (aD (au h8) rfl);
 (an (a1 a0)
 (brP (fun (h9:(cG (Array.toList (ByteArray.data s)) [108,97])=true)=>
 (an a0
 (bE (q8.trans (bf (cq h9)))))) (fun h9=>have q9:=q8.trans (aD (au h9) rfl);
 (an (a1 a0)
 (brP (fun (h10:(cG (Array.toList (ByteArray.data s)) [109,111,100,101])=true)=>
 (an a0
 (bE (q9.trans (cq h10))))) (fun h10=>
 (an a0
 (bE (q9.trans (au h10))))))))))))))))))))))))))))))))))))))
 oaa)
def yd:Code:=bP 0 (aH 130)
def sU (s:ByteArray) (i0:Nat):Am.Loc:=[(0,S s),(1,.fn (.func 131) [] []),(5,I (i0:Int))]
def sV (s:ByteArray) (i0:Nat):List Ob:=[]
def gF (s:ByteArray) (i0:Nat):Bool:=(!(H4 (cO s i0)))
def mJ (s:ByteArray):Bool:=cX (ByteArray.size s) (gF s)
def E0 (s:ByteArray) (i0:Nat):Am.Loc:=[(5,I (i0:Int))]
def E1 (s:ByteArray) (i0:Nat):List Ob:=[]
def qN (s:ByteArray):Am.Loc:=[(5,I (((zBz s):Nat):Int))]
def qO (s:ByteArray):List Ob:=[]
def wc (s:ByteArray):KB:=⟨sU s 0,sV s 0,mJ s,.normal,E0 s (b4 (zBz s) (gF s)),E1 s (b4 (zBz s) (gF s)),.normal,qN s,qO s,True⟩
def sW (s:ByteArray) (i0:Nat):List bG:=[nxW (gF s i0) (sU s (i0+1)) (sV s (i0+1)) (sU s (i0+1)) zb (sV s (i0+1)),htW (gF s i0) (.exit 0) (E0 s i0) zb (E1 s i0)]
def Qm (s:ByteArray) (i0:Nat):GT:=(.r (.k::uTT 4 [.val (.int .u8 (cO s i0)),bT,.int 0,bT]) (.br (.r [.int ↑(i0+1),bT] (.pick 0)) (.pick 1)))
theorem Vn (s:ByteArray) (i0:Nat) (ls:ByteArray.size s<=9223372036854775807) (hx0:i0<(ByteArray.size s)):vcC pg 20 (bI [i131 (cO s i0)] base) aK 3000 (kbL []) yd (bz (sU s i0)) (bw (sV s i0)) 0 (bM (sW s i0)) (Qm s i0):=
 have hb:(decide ((i0:Int)<(ByteArray.size s:Int)))=true:=decide_eq_true oab;
 bc (an (cA (g131 (cO s i0)) trivial (a1 (ac (ixB s i0 oab) (aN 3 (ac hb (a1 a0))))))
 (brP (fun (h1:(H4 (cO s i0))=true)=>
 (an (ac (dwo ((i0+1:Nat):Int)) a0)
 (lf (wy (sW s i0) 0) 0 ⟨(show gF s i0=false from (cq h1)),rfl,rfl⟩))) (fun h1=>
 (lf (wy (sW s i0) 1) 0 (show gF s i0=true from (au h1))))))
 oaa
theorem Vo (s:ByteArray) (ls:ByteArray.size s<=9223372036854775807):vcC pg 20 base aK 3000 (kbL []) yd (bz (sU s (zBz s))) (bw (sV s (zBz s))) 0 (bM [⟨True,(.exit 0),qN s,range 0,qO s⟩]) (.r (.k::uFF 5 [bT]) (.pick 0)):=
 have hb:(zCS s)=false:=decide_eq_false oab;
 bc (an (aN 4 (ac (au hb) (a1 a0)))
 (lf (wy [⟨True,(.exit 0),qN s,range 0,qO s⟩] 0) 0 trivial))
 oaa
theorem N9 (s:ByteArray) (i0:Nat):(sW s i0).all zj=true:=oan
theorem Oc (s:ByteArray):bG.cS 0 ⟨True,(.exit 0),qN s,range 0,qO s⟩=true:=oan
theorem Od (s:ByteArray) (ls:ByteArray.size s<=9223372036854775807):cQ pg 20 0 0 (.loop yd) (wc s):=
 bW (fun _=>eB (id:=0) (m:=ByteArray.size s) (t:=gF s) (xr:=(.exit 0)) (xn:=(.exit 0)) (Lr:=E0 s) (Lx:=qN s) (obr:=E1 s) (obx:=qO s) (V:=fun i0=>vcC pg 20 (bI [i131 (cO s i0)] base) aK 3000 (kbL []) yd) (sU s) (sV s) 0 (sW s) (Qm s) _ _ (fun i0 hx0=>aL (bo (.cons (g131 (cO s i0)) rfl cr.nil) aw) mixed (az _)) (aL aw mixed (az _)) (fun e=>by cases e) (fun e=>by cases e) (fun _=>rfl) (fun i0 hx0=>Vn s i0 ls hx0) (fun i0 _=>N9 s i0) (fun i0 _=>show∀ww∈sW s i0,cm _ _ _ _ _ _ ww from (aC bU (aC cT bB))) (Vo s ls) (Oc s)) (fun h=>h) (fun h=>h)
def H6 (s:ByteArray):Int:=(bif mJ s then (((b4 (ByteArray.size s) (gF s)):Nat):Int) else (((ByteArray.size s):Nat):Int))
theorem qP:dp [0] (aH 130)=[(0,.loop yd)]:=by kernel_rfl
theorem Qn (s:ByteArray) (ls:ByteArray.size s<=9223372036854775807):bg pg 130 [S s,.fn (.func 131) [] []] [] [] (I (H6 s)) []:=
 bD (fn:=Tryz.f130) (callf:=base) (pu:=aK) (lf:=3000) (l:=[(0,wc s)]) (t:=(.r [bT] (.r [bT] (.br zF zF)))) aw mixed Tryz.func130 oaa (show Tryz.f130.body=some (aH 130) by kernel_rfl) (Nat.le_of_ble_eq_true rfl) (bK (l:=[(0,wc s)]) qP (aT (Od s ls) rfl bj) rfl) rfl (bc
 (an a0
 (an a0
 (an (kbT (wc s) trivial) (brP (fun (h0:(mJ s)=true)=>
 (an a0
 (iE (show H6 s=(((b4 (ByteArray.size s) (gF s)):Nat):Int) from (cdT h0 rfl))))) (fun h0=>
 (an a0
 (iE (show H6 s=(((ByteArray.size s):Nat):Int) from (cdF h0 rfl)))))))))
 oaa)
def i126 (s:ByteArray):cc:=⟨126,[S s],B (H5 s),s.size<=9223372036854775807⟩
theorem g126 (s:ByteArray):(i126 s).b7 pg:=fun hp=>(by grind [Vm,i126,ah,AV.pure])
def i130 (s:ByteArray):cc:=⟨130,[S s,.fn (.func 131) [] []],I (H6 s),s.size<=9223372036854775807⟩
theorem g130 (s:ByteArray):(i130 s).b7 pg:=fun hp=>(by grind [Qn,i130,ah,AV.pure])
def i133:cc:=⟨133,[],.sl 1 (aG Qi),True⟩
theorem Oe:i133.b7 pg:=fun _=>⟨Vj,rfl,rfl⟩
def H7 (s:ByteArray):Bool:=(!(cG (Array.toList (ByteArray.data s)) [])&&(!(decide ((ByteArray.size s:Int)>40))&&(!(!(vo (cO s 0)))&&(!(decide ((H6 s)<(ByteArray.size s:Int)))&&(!(cG (Array.toList (ByteArray.data s)) [116,114,117,101])&&(!(cG (Array.toList (ByteArray.data s)) [102,97,108,115,101])&&(!(cG (Array.toList (ByteArray.data s)) [111,114,97,99,108,101])&&(!(cG (Array.toList (ByteArray.data s)) [105,110,100,101,120])&&(!(cG (Array.toList (ByteArray.data s)) [99,111,108,117,109,110])&&(!(cG (Array.toList (ByteArray.data s)) [108,97])&&(!(cG (Array.toList (ByteArray.data s)) [109,111,100,101]))))))))))))
abbrev zCI:List Gi:=(.k::uFF 12 [bT])
theorem Qo (s:ByteArray) (ls:ByteArray.size s<=9223372036854775807):bg pg 125 [S s] [] [] (B (H7 s)) []:=
 bD (fn:=Tryz.f125) (callf:=(bI [i129 (cO s 0),i130 s,i133] base)) (pu:=aK) (lf:=3000) (l:=[]) (t:=(.r [bT] (.a (.r zCI zF) (.a (.r (.k::bT::bT::bT::.k::uFF 9 [bT]) zF) (.a (.r (.k::bT::bT::bT::.k::bT::bT::.val (.int .u8 (cO s 0))::bT::.int 0::bT::uFF 5 [bT]) zF) (.r [.k,bT,bT,bT,.k,bT,bT,.val (.int .u8 (cO s 0)),bT,.int 0,bT,bT,bT,.int 1,bT,bT,bT,.k,bT] (.br zF (.r [bT] (.r [.k,bT] (.br zF (.r [.k,bT] (.br zF (.r [.k,bT] (.br zF (.a (.r [.int 2,.k,.row [S (⟨#[105,110,100,101,120]⟩)],bT,.k,bT] .nil) (.a (.r [.int 2,.k,.row [S (⟨#[105,110,100,101,120]⟩)],bF,.int 1,.k,.row [S (⟨#[99,111,108,117,109,110]⟩)],bT,.k,bT] .nil) (.a (.r [.int 2,.k,.row [S (⟨#[105,110,100,101,120]⟩)],bF,.int 1,.k,.row [S (⟨#[99,111,108,117,109,110]⟩)],bF,.int 2,.k,.row [S (⟨#[108,97]⟩)],bT,.k,bT] .nil) (.a (.r [.int 2,.k,.row [S (⟨#[105,110,100,101,120]⟩)],bF,.int 1,.k,.row [S (⟨#[99,111,108,117,109,110]⟩)],bF,.int 2,.k,.row [S (⟨#[108,97]⟩)],bF,.int 3,.k,.row [S (⟨#[109,111,100,101]⟩)],bT,.k,bT] .nil) (.r [.int 2,.k,.row [S (⟨#[105,110,100,101,120]⟩)],bF,.int 1,.k,.row [S (⟨#[99,111,108,117,109,110]⟩)],bF,.int 2,.k,.row [S (⟨#[108,97]⟩)],bF,.int 3,.k,.row [S (⟨#[109,111,100,101]⟩)],bF,.int 4,.k,.k,bT] .nil))))))))))))))))))) (bo (.cons (J8 (cO s 0)) rfl (.cons (g130 s) rfl (.cons Oe rfl cr.nil))) aw) mixed Tryz.func125 oaa (show Tryz.f125.body=some (aH 125) by kernel_rfl) (Nat.le_of_ble_eq_true rfl) (az _) rfl (bc
 (an a0
 (aM (fun (h0:(cG (Array.toList (ByteArray.data s)) [])=true)=>
 (an (aN 11 (ac (n2 h0) (a1 a0)))
 (an a0
 (bE (show H7 s=false from (bf (cq h0))))))) (fun h0=>have q0:=(aD (au h0) rfl:H7 s=_);have g0:=size_pos h0;
 (aM (fun (h1:(decide ((ByteArray.size s:Int)>40))=true)=>
 (an (aN 8 (ac (n2 h1) (aN 3 (ac (au h0) (a1 a0)))))
 (an a0
 (bE (q0.trans (bf (cq h1))))))) (fun h1=>have q1:=q0.trans (aD (au h1) rfl);have g1:=of_decide_eq_false h1;
 (aM (fun (h2:(!(vo (cO s 0)))=true)=>
 (an (aN 4 (ac (n2 h2) (a1 (cA (J8 (cO s 0)) trivial (a1 (ac (ixB s 0 oab) (a1 (ac (au h1) (aN 3 (ac (au h0) (a1 a0)))))))))))
 (an a0
 (bE (q1.trans (bf (cq h2))))))) (fun h2=>have q2:=q1.trans (aD (au h2) rfl);
 (an (aN 4 (cA (g130 s) ls (a1 (ac (au h2) (a1 (cA (J8 (cO s 0)) trivial (a1 (ac (ixB s 0 oab) (a1 (ac (au h1) (aN 3 (ac (au h0) (a1 a0)))))))))))))
 (brP (fun (h3:(decide ((H6 s)<(ByteArray.size s:Int)))=true)=>
 (an a0
 (bE (q2.trans (bf (cq h3)))))) (fun h3=>have q3:=q2.trans (aD (au h3) rfl);
 (an a0
 (an (a1 a0)
 (brP (fun (h4:(cG (Array.toList (ByteArray.data s)) [116,114,117,101])=true)=>
 (an a0
 (bE (q3.trans (bf (cq h4)))))) (fun h4=>have q4:=q3.trans (aD (au h4) rfl);
 (an (a1 a0)
 (brP (fun (h5:(cG (Array.toList (ByteArray.data s)) [102,97,108,115,101])=true)=>
 (an a0
 (bE (q4.trans (bf (cq h5)))))) (fun h5=>have q5:=q4.trans (aD (au h5) rfl);
 (an (a1 a0)
 (brP (fun (h6:(cG (Array.toList (ByteArray.data s)) [111,114,97,99,108,101])=true)=>
 (an a0
 (bE (q5.trans (bf (cq h6)))))) (fun h6=>have q6:=q5.trans (aD (au h6) rfl);
 (aM (fun (h7:(cG (Array.toList (ByteArray.data s)) [105,110,100,101,120])=true)=>
 (an (aN 3 (ac h7 (ac (eV (some [S (⟨#[105,110,100,101,120]⟩)])) (a1 (ac (pvA [.sl 1 [[S (⟨#[105,110,100,101,120]⟩)],[S (⟨#[99,111,108,117,109,110]⟩)],[S (⟨#[108,97]⟩)],[S (⟨#[109,111,100,101]⟩)]],S s] oam) (ac (pvA [.sl 1 [[S (⟨#[105,110,100,101,120]⟩)],[S (⟨#[99,111,108,117,109,110]⟩)],[S (⟨#[108,97]⟩)],[S (⟨#[109,111,100,101]⟩)]],S s] oam) (cA Oe trivial a0)))))))
 (bE (q6.trans (bf (cq h7)))))) (fun h7=>have q7:=q6.trans (aD (au h7) rfl);
 (aM (fun (h8:(cG (Array.toList (ByteArray.data s)) [99,111,108,117,109,110])=true)=>
 (an (aN 3 (ac h8 (ac (eV (some [S (⟨#[99,111,108,117,109,110]⟩)])) (a1 (ac (eV (1:Int)) (ac (au h7) (ac (eV (some [S (⟨#[105,110,100,101,120]⟩)])) (a1 (ac (pvA [.sl 1 [[S (⟨#[105,110,100,101,120]⟩)],[S (⟨#[99,111,108,117,109,110]⟩)],[S (⟨#[108,97]⟩)],[S (⟨#[109,111,100,101]⟩)]],S s] oam) (ac (pvA [.sl 1 [[S (⟨#[105,110,100,101,120]⟩)],[S (⟨#[99,111,108,117,109,110]⟩)],[S (⟨#[108,97]⟩)],[S (⟨#[109,111,100,101]⟩)]],S s] oam) (cA Oe trivial a0)))))))))))
 (bE (q7.trans (bf (cq h8)))))) (fun h8=>have q8:=q7.trans (aD (au h8) rfl);
 (aM (fun (h9:(cG (Array.toList (ByteArray.data s)) [108,97])=true)=>
 (an (aN 3 (ac h9 (ac (eV (some [S (⟨#[108,97]⟩)])) (a1 (ac (eV (2:Int)) (ac (au h8) (ac (eV (some [S (⟨#[99,111,108,117,109,110]⟩)])) (a1 (ac (eV (1:Int)) (ac (au h7) (ac (eV (some [S (⟨#[105,110,100,101,120]⟩)])) (a1 (ac (pvA [.sl 1 [[S (⟨#[105,110,100,101,120]⟩)],[S (⟨#[99,111,108,117,109,110]⟩)],[S (⟨#[108,97]⟩)],[S (⟨#[109,111,100,101]⟩)]],S s] oam) (ac (pvA [.sl 1 [[S (⟨#[105,110,100,101,120]⟩)],[S (⟨#[99,111,108,117,109,110]⟩)],[S (⟨#[108,97]⟩)],[S (⟨#[109,111,100,101]⟩)]],S s] oam) (cA Oe trivial a0)))))))))))))))
 (bE (q8.trans (bf (cq h9)))))) (fun h9=>have q9:=q8.trans (aD (au h9) rfl);
 (aM (fun (h10:(cG (Array.toList (ByteArray.data s)) [109,111,100,101])=true)=>
 (an (aN 3 (ac h10 (ac (eV (some [S (⟨#[109,111,100,101]⟩)])) (a1 (ac (eV (3:Int)) (ac (au h9) (ac (eV (some [S (⟨#[108,97]⟩)])) (a1 (ac (eV (2:Int)) (ac (au h8) (ac (eV (some [S (⟨#[99,111,108,117,109,110]⟩)])) (a1 (ac (eV (1:Int)) (ac (au h7) (ac (eV (some [S (⟨#[105,110,100,101,120]⟩)])) (a1 (ac (pvA [.sl 1 [[S (⟨#[105,110,100,101,120]⟩)],[S (⟨#[99,111,108,117,109,110]⟩)],[S (⟨#[108,97]⟩)],[S (⟨#[109,111,100,101]⟩)]],S s] oam) (ac (pvA [.sl 1 [[S (⟨#[105,110,100,101,120]⟩)],[S (⟨#[99,111,108,117,109,110]⟩)],[S (⟨#[108,97]⟩)],[S (⟨#[109,111,100,101]⟩)]],S s] oam) (cA Oe trivial a0)))))))))))))))))))
 (bE (q9.trans (cq h10))))) (fun h10=>
 (an (aN 4 (ac (eV (4:Int)) (ac (au h10) (ac (eV (some [S (⟨#[109,111,100,101]⟩)])) (a1 (ac (eV (3:Int)) (ac (au h9) (ac (eV (some [S (⟨#[108,97]⟩)])) (a1 (ac (eV (2:Int)) (ac (au h8) (ac (eV (some [S (⟨#[99,111,108,117,109,110]⟩)])) (a1 (ac (eV (1:Int)) (ac (au h7) (ac (eV (some [S (⟨#[105,110,100,101,120]⟩)])) (a1 (ac (pvA [.sl 1 [[S (⟨#[105,110,100,101,120]⟩)],[S (⟨#[99,111,108,117,109,110]⟩)],[S (⟨#[108,97]⟩)],[S (⟨#[109,111,100,101]⟩)]],S s] oam) (ac (pvA [.sl 1 [[S (⟨#[105,110,100,101,120]⟩)],[S (⟨#[99,111,108,117,109,110]⟩)],[S (⟨#[108,97]⟩)],[S (⟨#[109,111,100,101]⟩)]],S s] oam) (cA Oe trivial a0))))))))))))))))))))
 (bE (q9.trans (au h10))))))))))))))))))))))))))))))))
 oaa)
def i125 (s:ByteArray):cc:=⟨125,[S s],B (H7 s),s.size<=9223372036854775807⟩
theorem g125 (s:ByteArray):(i125 s).b7 pg:=fun hp=>(by grind [Qo,i125,ah,AV.pure])
def eD (g:G):Bool:=(!((length (map gC g.kids):Int) !=0)&&(bif g.op==9 then ((cG (Array.toList (ByteArray.data g.name)) [])&&((decide (g.n<1000000000000000000))&&decide (g.n>(-1000000000000000000)))) else (bif g.op==10 then ((cG (Array.toList (ByteArray.data g.name)) [])&&g.n==0) else (bif g.op==11 then ((cG (Array.toList (ByteArray.data g.name)) [])&&g.n==0) else (bif g.op==12 then ((cG (Array.toList (ByteArray.data g.name)) [])&&g.n==0) else (bif g.op==13 then ((cG (Array.toList (ByteArray.data g.name)) [])&&g.n==0) else ((g.op==14)&&((g.n==0)&&H5 g.name))))))))
abbrev zCW:List Gi:=[.k,bT,bT,bT,.k,bT,bT,bT,.k,bT]
abbrev zf:List Gi:=(.k::uFF 6 [bT])
abbrev zI:GT:=(.a (.a (.r zCW .nil) (.r [.k,bT,bT,bT,.k,bF,bF,bF,bT] .nil)) (.r zf .nil))
abbrev zAS:List Gi:=[.k,bF,bF,bF,bT]
abbrev zAB:GT:=(.a (.r [.k,bT,bT,bT,.int 0,bT] .nil) (.r zAS .nil))
abbrev zAC:List Gi:=[.k,bT,bT,bT,.k,bT]
abbrev zAw:GT:=(.a (.r zAC .nil) (.r zAS .nil))
abbrev zBM (g:G):=(decide (g.n>(-1000000000000000000)))
abbrev zBU (g:G):=(decide (g.n<1000000000000000000))
theorem Of (g:G) (ls:ByteArray.size g.name<=9223372036854775807):bg pg 116 [.ag (gCC g)] [] [] (B (eD g)) []:=
 bD (fn:=Tryz.f116) (callf:=(bI [i126 g.name] base)) (pu:=aK) (lf:=3000) (l:=[]) (t:=(.r [bT] (.r [.k,bT] (.br zF (.r [bT] (.r [.k,bT] (.br zI (.r [.k,bT] (.br zAw (.r [.k,bT] (.br zAw (.r [.k,bT] (.br zAw (.r [.k,bT] (.br zAw (.r [.k,bT] (.br zAB zF))))))))))))))))) (bo (.cons (g126 g.name) rfl cr.nil) aw) mixed Tryz.func116 oaa (show Tryz.f116.body=some (aH 116) by kernel_rfl) (Nat.le_of_ble_eq_true rfl) (az _) rfl (bc
 (an a0
 (an (a1 a0)
 (brP (fun (h0:((length (map gC g.kids):Int) !=0)=true)=>
 (an a0
 (bE (show eD g=false from (bf (cq h0)))))) (fun h0=>have q0:=(aD (au h0) rfl:eD g=_);
 (an a0
 (an (a1 a0)
 (brP (fun (h1:(g.op==9)=true)=>have q1:=q0.trans (cdT h1 rfl);
 (aM (fun (h2:(cG (Array.toList (ByteArray.data g.name)) [])=true)=>
 (aM (fun (h3:(zBU g)=true)=>
 (an (aN 3 (ac h3 (aN 3 (ac h2 (a1 a0)))))
 (bE (show eD g=(zBM g) from (aD (au h0) (cdT h1 (aD h2 (aD h3 rfl)))))))) (fun h3=>
 (an (aN 2 (ac (au h3) (aN 3 (ac h2 (a1 a0)))))
 (bE (q1.trans (aD h2 (bf h3)))))))) (fun h2=>
 (an (aN 5 (ac (au h2) (a1 a0)))
 (bE (q1.trans (bf h2))))))) (fun h1=>have q2:=q0.trans (cdF h1 rfl);
 (an (a1 a0)
 (brP (fun (h2:(g.op==10)=true)=>
 (aM (fun (h3:(cG (Array.toList (ByteArray.data g.name)) [])=true)=>
 (an (aN 3 (ac h3 (a1 a0)))
 (bE (show eD g=(g.n==0) from (aD (au h0) (cdF h1 (cdT h2 (aD h3 rfl)))))))) (fun h3=>
 (an (aN 2 (ac (au h3) (a1 a0)))
 (bE (q2.trans (cdT h2 (bf h3)))))))) (fun h2=>have q3:=q2.trans (cdF h2 rfl);
 (an (a1 a0)
 (brP (fun (h3:(g.op==11)=true)=>
 (aM (fun (h4:(cG (Array.toList (ByteArray.data g.name)) [])=true)=>
 (an (aN 3 (ac h4 (a1 a0)))
 (bE (show eD g=(g.n==0) from (aD (au h0) (cdF h1 (cdF h2 (cdT h3 (aD h4 rfl))))))))) (fun h4=>
 (an (aN 2 (ac (au h4) (a1 a0)))
 (bE (q3.trans (cdT h3 (bf h4)))))))) (fun h3=>have q4:=q3.trans (cdF h3 rfl);
 (an (a1 a0)
 (brP (fun (h4:(g.op==12)=true)=>
 (aM (fun (h5:(cG (Array.toList (ByteArray.data g.name)) [])=true)=>
 (an (aN 3 (ac h5 (a1 a0)))
 (bE (show eD g=(g.n==0) from (aD (au h0) (cdF h1 (cdF h2 (cdF h3 (cdT h4 (aD h5 rfl)))))))))) (fun h5=>
 (an (aN 2 (ac (au h5) (a1 a0)))
 (bE (q4.trans (cdT h4 (bf h5)))))))) (fun h4=>have q5:=q4.trans (cdF h4 rfl);
 (an (a1 a0)
 (brP (fun (h5:(g.op==13)=true)=>
 (aM (fun (h6:(cG (Array.toList (ByteArray.data g.name)) [])=true)=>
 (an (aN 3 (ac h6 (a1 a0)))
 (bE (show eD g=(g.n==0) from (aD (au h0) (cdF h1 (cdF h2 (cdF h3 (cdF h4 (cdT h5 (aD h6 rfl))))))))))) (fun h6=>
 (an (aN 2 (ac (au h6) (a1 a0)))
 (bE (q5.trans (cdT h5 (bf h6)))))))) (fun h5=>have q6:=q5.trans (cdF h5 rfl);
 (an (a1 a0)
 (brP (fun (h6:(g.op==14)=true)=>
 (aM (fun (h7:(g.n==0)=true)=>
 (an (cA (g126 g.name) ls (aN 2 (ac h7 (a1 a0))))
 (bE (show eD g=(H5 g.name) from (aD (au h0) (cdF h1 (cdF h2 (cdF h3 (cdF h4 (cdF h5 (aD h6 (aD h7 rfl)))))))))))) (fun h7=>
 (an (aN 2 (ac (au h7) (a1 a0)))
 (bE (q6.trans (aD h6 (bf h7)))))))) (fun h6=>
 (an a0
 (bE (q6.trans (bf h6)))))))))))))))))))))))))))
 oaa)
def H8 (g:G):Bool:=(!(decide ((length (map gC g.kids):Int)>0))&&(!(decide (g.op<9))&&(!(decide (g.op>14))&&(bif g.op==9 then ((cG (Array.toList (ByteArray.data g.name)) [])&&((decide (g.n<1000000000000000000))&&decide (g.n>(-1000000000000000000)))) else (bif g.op==14 then ((g.n==0)&&H7 g.name) else ((cG (Array.toList (ByteArray.data g.name)) [])&&g.n==0))))))
theorem Og (g:G) (ls:ByteArray.size g.name<=9223372036854775807):bg pg 113 [.ag (gCC g)] [] [] (B (H8 g)) []:=
 bD (fn:=Tryz.f113) (callf:=(bI [i125 g.name] base)) (pu:=aK) (lf:=3000) (l:=[]) (t:=(.r [bT] (.a (.r zf zF) (.a (.r [.k,bT,bT,bT,.k,bF,bF,bF,bT] zF) (.r zCW (.br zF (.r [bT] (.r [.k,bT] (.br zI (.r [.k,bT] (.br zAB zAw))))))))))) (bo (.cons (g125 g.name) rfl cr.nil) aw) mixed Tryz.func113 oaa (show Tryz.f113.body=some (aH 113) by kernel_rfl) (Nat.le_of_ble_eq_true rfl) (az _) rfl (bc
 (an a0
 (aM (fun (h0:(decide ((length (map gC g.kids):Int)>0))=true)=>
 (an (aN 5 (ac (n2 h0) (a1 a0)))
 (an a0
 (bE (show H8 g=false from (bf (cq h0))))))) (fun h0=>have q0:=(aD (au h0) rfl:H8 g=_);
 (aM (fun (h1:(decide (g.op<9))=true)=>
 (an (aN 2 (ac (n2 h1) (aN 3 (ac (au h0) (a1 a0)))))
 (an a0
 (bE (q0.trans (bf (cq h1))))))) (fun h1=>have q1:=q0.trans (aD (au h1) rfl);
 (an (aN 3 (ac (au h1) (aN 3 (ac (au h0) (a1 a0)))))
 (brP (fun (h2:(decide (g.op>14))=true)=>
 (an a0
 (bE (q1.trans (bf (cq h2)))))) (fun h2=>have q2:=q1.trans (aD (au h2) rfl);
 (an a0
 (an (a1 a0)
 (brP (fun (h3:(g.op==9)=true)=>have q3:=q2.trans (cdT h3 rfl);
 (aM (fun (h4:(cG (Array.toList (ByteArray.data g.name)) [])=true)=>
 (aM (fun (h5:(zBU g)=true)=>
 (an (aN 3 (ac h5 (aN 3 (ac h4 (a1 a0)))))
 (bE (show H8 g=(zBM g) from (aD (au h0) (aD (au h1) (aD (au h2) (cdT h3 (aD h4 (aD h5 rfl)))))))))) (fun h5=>
 (an (aN 2 (ac (au h5) (aN 3 (ac h4 (a1 a0)))))
 (bE (q3.trans (aD h4 (bf h5)))))))) (fun h4=>
 (an (aN 5 (ac (au h4) (a1 a0)))
 (bE (q3.trans (bf h4))))))) (fun h3=>have q4:=q2.trans (cdF h3 rfl);
 (an (a1 a0)
 (brP (fun (h4:(g.op==14)=true)=>
 (aM (fun (h5:(g.n==0)=true)=>
 (an (cA (g125 g.name) ls (aN 2 (ac h5 (a1 a0))))
 (bE (show H8 g=(H7 g.name) from (aD (au h0) (aD (au h1) (aD (au h2) (cdF h3 (cdT h4 (aD h5 rfl)))))))))) (fun h5=>
 (an (aN 2 (ac (au h5) (a1 a0)))
 (bE (q4.trans (cdT h4 (bf h5)))))))) (fun h4=>
 (aM (fun (h5:(cG (Array.toList (ByteArray.data g.name)) [])=true)=>
 (an (aN 3 (ac h5 (a1 a0)))
 (bE (show H8 g=(g.n==0) from (aD (au h0) (aD (au h1) (aD (au h2) (cdF h3 (cdF h4 (aD h5 rfl)))))))))) (fun h5=>
 (an (aN 2 (ac (au h5) (a1 a0)))
 (bE (q4.trans (cdF h4 (bf h5))))))))))))))))))))))
 oaa)
mutual
def cW:G->Int
 | .mk _ _ _ l=>hC l 1
def hC:List G->Int->Int
 |[],a=>a
 |g::l,a=>hC l (min (a+cW g) 2147483647)
end
mutual
def dY (o:Int):G->Bool
 | .mk o' _ _ l=>(o' ==o)||j7 o l
def j7 (o:Int):List G->Bool
 |[]=>false
 |g::l=>dY o g||j7 o l
end
theorem ye (o:Int) (l:List G):j7 o l=l.any (dY o):=by
 induction l with
 |nil=>rfl
 |cons g l ih=>simp [j7,ih]
theorem g_cells: ∀g:G,gC g=[I8 g.op,I g.n,S g.name,.sl 4 (g.kids.map gC)]
 | .mk _ _ _ _=>by grind [gC,EP,G.op,G.n,G.name,G.kids]
theorem ay {α:Type} [Inhabited α] {l:List α} {i:Nat} (h:i<l.length):ae l i∈l:=ft h
mutual
theorem G.H9 {C:G->Prop} (h: ∀o n s l,(∀u∈l,C u)->C (.mk o n s l)): ∀g,C g
 | .mk o n s l=>h o n s l (G.ind2 h l)
theorem G.ind2 {C:G->Prop} (h: ∀o n s l,(∀u∈l,C u)->C (.mk o n s l)): ∀(l:List G),∀u∈l,C u
 |[]=>fun u hu=>by simp at hu
 |g::l=>fun u hu=>by
  rcases List.mem_cons.1 hu with e|hu
  ·rw [e];exact G.H9 h g
  ·exact G.ind2 h l u hu
end
mutual
def eG:G->Prop
 | .mk o _ s l=>(-128<=o/\o<=127)/\s.size<=9223372036854775807/\l.length<=9223372036854775807/\yf l
def yf:List G->Prop
 |[]=>True
 |g::l=>eG g/\yf l
end
theorem C7: ∀{l:List G},yf l-> ∀u∈l,eG u
 |[],_,u,hu=>by simp at hu
 |g::l,h,u,hu=>by
  simp only [yf] at h
  rcases List.mem_cons.1 hu with rfl|hu
  ·exact h.1
  ·exact C7 h.2 u hu
theorem eG.kids {g:G} (h:eG g): ∀u∈g.kids,eG u:=by
 obtain ⟨o,n,s,l⟩:=g
 simp only [eG] at h
 exact C7 h.2.2.2
theorem eG.name {g:G} (h:eG g):g.name.size<=9223372036854775807:=by
 obtain ⟨o,n,s,l⟩:=g
 simp only [eG] at h
 exact h.2.1
theorem eG.len {g:G} (h:eG g):g.kids.length<=9223372036854775807:=by
 obtain ⟨o,n,s,l⟩:=g
 simp only [eG] at h
 exact h.2.2.1
theorem eG.op {g:G} (h:eG g): -128<=g.op/\g.op<=127:=by
 obtain ⟨o,n,s,l⟩:=g
 simp only [eG] at h
 exact h.1
theorem je {α:Type} [Inhabited α] (p:α->Bool) (l:List α):cX l.length (fun i=>p (ae l i))=l.any p:=by
 rw [Bool.eq_iff_iff,ee,List.any_eq_true]
 constructor
 ·grind [ft]
 ·rintro ⟨x,hx,hp⟩
  obtain ⟨i,hi,rfl⟩:=List.mem_iff_getElem.1 hx
  exact ⟨i,hi,by simpa [ae,hi] using hp⟩
theorem C8 {α:Type} [Inhabited α] {l:List α} {i:Nat} (h:i<l.length):l.take (i+1)=l.take i++ [ae l i]:=by
 rw [List.take_add_one,eM h];rfl
theorem Vp (s:ByteArray):H7 s=H5 s:=by
 have h2:gF s=j6 s:=by
  grind [gF,j6,H4,vo,vp,J9,Ka]
 have h3:decide (H6 s<(s.size:Int))=js s:=by
  unfold H6
  have e:mJ s=js s:=by unfold mJ js;rw [h2]
  rw [e]
  cases hh:js s with
  |false=>simp
  |true=>
   have:b4 s.size (gF s)<s.size:=(gY (show cX s.size (gF s)=true by rw [h2];exact hh)).1
   simp_all
 grind [H7,H5,vo,vp]
theorem Oh (g:G):H8 g=eD g:=by
 unfold H8 eD
 rw [Vp]
 grind
theorem Ci (g:G) (hf:eG g):bg pg 113 [.ag (gCC g)] [] [] (B (eD g)) []:=by
 grind [Oh,Og,hf.name]
theorem Cj (g:G) (hf:eG g):bg pg 116 [.ag (gCC g)] [] [] (B (eD g)) []:=Of g hf.name
def i113 (g:G):cc:=⟨113,[.ag (gCC g)],B (eD g),eG g⟩
theorem yg (g:G):(i113 g).b7 pg:=fun hp=>(by simp_all [Ci,i113,ah,AV.pure])
def i116 (g:G):cc:=⟨116,[.ag (gCC g)],B (eD g),eG g⟩
theorem yh (g:G):(i116 g).b7 pg:=fun hp=>(by simp_all [Cj,i116,ah,AV.pure])
mutual
noncomputable def cR:G->Bool
 | .mk o n s l=>cG s.data.toList []&&((o==8||n==0)&&(bif o==0||o==1 then l.length==0 else bif o==8 then (l.length==0&&(decide (n<1000000000000000000)&&decide (n> -1000000000000000000))) else
   bif o==2 then (l.length==1&&jt l) else bif o==3||o==4 then (decide (l.length>=2)&&jt l) else bif o==5||(o==6||o==7) then (l.length==2&&(eD (ae l 0)&&eD (ae l 1))) else false))
noncomputable def jt:List G->Bool
 |[]=>true
 |g::l=>cR g&&jt l
end
theorem Ia (l:List G):jt l=l.all cR:=by
 induction l with
 |nil=>rfl
 |cons g l ih=>simp [jt,ih]
def i99 (g:G):cc:=⟨99,[.ag (gCC g)],I (cW g),True⟩
theorem gd99 {g:G} (h:bg pg 99 [.ag (gCC g)] [] [] (I (cW g)) []):(i99 g).b7 pg:=fun _=>⟨h,by simp [i99,ah,AV.pure],rfl⟩
def i104 (g:G):cc:=⟨104,[.ag (gCC g)],I (cW g),True⟩
theorem WW {g:G} (h:bg pg 104 [.ag (gCC g)] [] [] (I (cW g)) []):(i104 g).b7 pg:=fun _=>⟨h,by simp [i104,ah,AV.pure],rfl⟩
def i105 (g:G):cc:=⟨105,[.ag (gCC g)],B (cR g),True⟩
theorem WX {g:G} (h:bg pg 105 [.ag (gCC g)] [] [] (B (cR g)) []):(i105 g).b7 pg:=fun _=>⟨h,by simp [i105,ah,AV.pure],rfl⟩
def i100 (g:G):cc:=⟨100,[.ag (gCC g)],B (cR g),True⟩
theorem WY {g:G} (h:bg pg 100 [.ag (gCC g)] [] [] (B (cR g)) []):(i100 g).b7 pg:=fun _=>⟨h,by simp [i100,ah,AV.pure],rfl⟩
def i94 (g:G) (o:Int):cc:=⟨94,[.ag (gCC g),I8 o],B (dY o g),True⟩
theorem gd94 {g:G} {o:Int} (h:bg pg 94 [.ag (gCC g),I8 o] [] [] (B (dY o g)) []):(i94 g o).b7 pg:=fun _=>⟨h,by simp [i94,ah,AV.pure],rfl⟩
def Ib:Code:=bP 0 (aH 99)
def X4 (g:G) (i0:Nat) (y0:Int):Int:=(min (IntKind.wrap IntKind.i64 (y0+(cW (ae g.kids i0)))) 2147483647)
def iL (g:G) (kk:Nat):Int:=Nat.rec (motive:=fun _=>Int) 1 (fun j a=>X4 g j a) kk
def yi (g:G) (i0:Nat) (y0:Int):Am.Loc:=[(3,I y0),(7,.sl 4 (map gC g.kids)),(8,I (length (map gC g.kids):Int)),(9,I (i0:Int))]
def yj (g:G) (i0:Nat):Am.Loc:=yi g i0 (iL g i0)
def qQ (g:G) (i0:Nat):List Ob:=[.box 46 (gCC g)]
def Ic (g:G) (i0:Nat):Bool:=false
def Vq (g:G):Bool:=false
def E2 (g:G) (i0:Nat):Am.Loc:=[]
def E3 (g:G) (i0:Nat):List Ob:=[]
abbrev zAt (g:G):=(length g.kids)
def oV (g:G):Am.Loc:=[(3,I (iL g (zAt g)))]
def oW (g:G):List Ob:=[.box 46 (gCC g)]
def E4 (g:G):KB:=⟨yj g 0,qQ g 0,Vq g,.ret,E2 g (b4 (zAt g) (Ic g)),E3 g (b4 (zAt g) (Ic g)),.normal,oV g,oW g,True⟩
abbrev zAO:=(range 1)
def Ie (g:G) (i0:Nat):List bG:=[nxW (Ic g i0) (yj g (i0+1)) (qQ g (i0+1)) (yi g (i0+1) (min (IntKind.wrap IntKind.i64 ((iL g i0)+(cW (ae g.kids i0)))) 2147483647)) zAO (qQ g (i0+1))]
def WZ (g:G) (i0:Nat):GT:=(.r [.k,bT] (.yes (.r [.row (gCC (ae g.kids i0)),bT] (.r [.int 0,.int (IntKind.wrap IntKind.i64 ((iL g i0)+(cW (ae g.kids i0)))),.val (.int .i64 (min (IntKind.wrap IntKind.i64 ((iL g i0)+(cW (ae g.kids i0)))) 2147483647)),bT] (.r [.int ↑(i0+1),bT] (.pick 0))))))
abbrev zBj (g:G) (i0:Nat):=(decide ((i0:Int)<(length (map gC g.kids):Int)))
theorem X5 (g:G) (i0:Nat) (ls:length g.kids<=9223372036854775807) (hK: ∀u∈G.kids g,bg pg 99 [.ag (gCC u)] [] [] (I (cW u)) []) (hx0:i0<(length g.kids)):vcC pg 20 (bI [i99 (ae g.kids i0)] base) aK 3000 (kbL []) Ib (bz (yj g i0)) (bw (qQ g i0)) 1 (bM (Ie g i0)) (WZ g i0):=
 have l1:=aU gC (g.kids);have hb:(zBj g i0)=true:=decide_eq_true oab;
 bc (an (a1 a0)
 (an hb (an (ac (iK g.kids i0) a0)
 (an (ac (minA (P:=Tryz.prog) (ts:=⟨[3,3]⟩) (ty:=3) (fl:=⟨[false,true]⟩) (IntKind.wrap IntKind.i64 ((iL g i0)+(cW (ae g.kids i0)))) 2147483647) (ac (eV (IntKind.wrap IntKind.i64 ((iL g i0)+(cW (ae g.kids i0))))) (cA (gd99 (hK _ (ay hx0))) trivial a0)))
 (an (ac (dwo ((i0+1:Nat):Int)) a0)
 (lf (wy (Ie g i0) 0) 2 (nxP (yi g (i0+1)) (fun _=>qQ g (i0+1)) (show Ic g i0=false from rfl) (show iL g (i0+1)=(min (IntKind.wrap IntKind.i64 ((iL g i0)+(cW (ae g.kids i0)))) 2147483647) from rfl))))))))
 oaa
abbrev zAm (g:G):=(decide ((((length g.kids):Nat):Int)<(length (map gC g.kids):Int)))
theorem X6 (g:G) (ls:length g.kids<=9223372036854775807) (hK: ∀u∈G.kids g,bg pg 99 [.ag (gCC u)] [] [] (I (cW u)) []):vcC pg 20 base aK 3000 (kbL []) Ib (bz (yj g (zAt g))) (bw (qQ g (zAt g))) 1 (bM [⟨True,(.exit 0),oV g,range 1,oW g⟩]) zG:=
 have l1:=aU gC (g.kids);have hb:(zAm g)=false:=decide_eq_false oab;
 bc (an (a1 a0)
 (an hb (lf (wy [⟨True,(.exit 0),oV g,range 1,oW g⟩] 0) 1 trivial)))
 oaa
theorem Qp (g:G) (i0:Nat):(Ie g i0).all zj=true:=by refine (aF (aR rfl rfl rfl ?_ ?_) bC)<;>simp (maxDischargeDepth:=9) [nxW,htW,yi,yj,E2,oV,plS,AV.pure,ah,aj,qQ,E3,oW,plO,eC,dG]
theorem Qq (g:G):bG.cS 0 ⟨True,(.exit 0),oV g,range 1,oW g⟩=true:=by refine (aR rfl rfl rfl ?_ ?_)<;>simp (maxDischargeDepth:=9) [nxW,htW,yi,yj,E2,oV,plS,AV.pure,ah,aj,qQ,E3,oW,plO,eC,dG]
theorem Qr (g:G) (ls:length g.kids<=9223372036854775807) (hK: ∀u∈G.kids g,bg pg 99 [.ag (gCC u)] [] [] (I (cW u)) []):cQ pg 20 0 0 (.loop Ib) (E4 g):=
 iZ (fun _=>eB (id:=0) (m:=length g.kids) (t:=Ic g) (xr:= .ret) (xn:=(.exit 0)) (Lr:=E2 g) (Lx:=oV g) (obr:=E3 g) (obx:=oW g) (V:=fun i0=>vcC pg 20 (bI [i99 (ae g.kids i0)] base) aK 3000 (kbL []) Ib) (yj g) (qQ g) 1 (Ie g) (WZ g) _ _ (fun i0 hx0=>aL (bo (.cons (gd99 (hK _ (ay hx0))) rfl cr.nil) aw) mixed (az _)) (aL aw mixed (az _)) (fun e=>by cases e) (fun e=>by cases e) (fun _=>rfl) (fun i0 hx0=>X5 g i0 ls hK hx0) (fun i0 _=>Qp g i0) (fun i0 _=>show∀ww∈Ie g i0,cm _ _ _ _ _ _ ww from (aC bU bB)) (X6 g ls hK) (Qq g)) (fun _=>rfl) rfl (fun h=>h)
def r99 (g:G):Int:=(iL g (length g.kids))
theorem vq:dp [0] (aH 99)=[(0,.loop Ib)]:=by kernel_rfl
abbrev zBG:GT:=(.r [bT] (.r [bT] (.r [bT] (.no zF))))
theorem X7 (g:G) (ls:length g.kids<=9223372036854775807) (hK: ∀u∈G.kids g,bg pg 99 [.ag (gCC u)] [] [] (I (cW u)) []):bg pg 99 [.ag (gCC g)] [] [] (I (r99 g)) []:=
 bD (fn:=Tryz.f99) (callf:=base) (pu:=aK) (lf:=3000) (l:=[(0,E4 g)]) (t:=zBG) aw mixed Tryz.func99 oaa (show Tryz.f99.body=some (aH 99) by kernel_rfl) (Nat.le_of_ble_eq_true rfl) (bK (l:=[(0,E4 g)]) vq (aT (Qr g ls hK) rfl bj) rfl) rfl (bc
 (an a0
 (an a0
 (an a0
 (an (kbT (E4 g) trivial) (an (rfl:false=false) (an a0
 (iE (show r99 g=(iL g (length g.kids)) from rfl))))))))
 oaa)
def yk:Code:=bP 0 (aH 104)
def Vr (g:G) (i0:Nat) (y0:Int):Int:=(min (IntKind.wrap IntKind.i64 (y0+(cW (ae g.kids i0)))) 2147483647)
def fT (g:G) (kk:Nat):Int:=Nat.rec (motive:=fun _=>Int) 1 (fun j a=>Vr g j a) kk
def qR (g:G) (i0:Nat) (y0:Int):Am.Loc:=[(1,.pt 0 0),(3,I y0),(4,I (i0:Int))]
def oX (g:G) (i0:Nat):Am.Loc:=qR g i0 (fT g i0)
def lG (g:G) (i0:Nat):List Ob:=[.box 46 (gCC g)]
def ym (g:G) (i0:Nat):Bool:=false
def Qs (g:G):Bool:=false
def we (g:G) (i0:Nat):Am.Loc:=[]
def wg (g:G) (i0:Nat):List Ob:=[]
def lH (g:G):Am.Loc:=[(3,I (fT g (zAt g)))]
def lI (g:G):List Ob:=[.box 46 (gCC g)]
def wh (g:G):KB:=⟨oX g 0,lG g 0,Qs g,.ret,we g (b4 (zAt g) (ym g)),wg g (b4 (zAt g) (ym g)),.normal,lH g,lI g,True⟩
def yn (g:G) (i0:Nat):List bG:=[nxW (ym g i0) (oX g (i0+1)) (lG g (i0+1)) (qR g (i0+1) (min (IntKind.wrap IntKind.i64 ((fT g i0)+(cW (ae g.kids i0)))) 2147483647)) zAO (lG g (i0+1))]
def Qt (g:G) (i0:Nat):GT:=(.r [.k,bT] (.yes (.r [.row (gCC (ae g.kids i0)),.int 0,.int (IntKind.wrap IntKind.i64 ((fT g i0)+(cW (ae g.kids i0)))),.val (.int .i64 (min (IntKind.wrap IntKind.i64 ((fT g i0)+(cW (ae g.kids i0)))) 2147483647)),bT] (.r [.int ↑(i0+1),bT] (.pick 0)))))
theorem Vs (g:G) (i0:Nat) (ls:length g.kids<=9223372036854775807) (hK: ∀u∈G.kids g,bg pg 104 [.ag (gCC u)] [] [] (I (cW u)) []) (hx0:i0<(length g.kids)):vcC pg 22 (bI [i104 (ae g.kids i0)] base) aK 3000 (kbL []) yk (bz (oX g i0)) (bw (lG g i0)) 1 (bM (yn g i0)) (Qt g i0):=
 have l1:=aU gC (g.kids);have hb:(zBj g i0)=true:=decide_eq_true oab;
 bc (an (a1 a0)
 (an hb (an (ac (minA (P:=Tryz.prog) (ts:=⟨[3,3]⟩) (ty:=3) (fl:=⟨[false,true]⟩) (IntKind.wrap IntKind.i64 ((fT g i0)+(cW (ae g.kids i0)))) 2147483647) (ac (eV (IntKind.wrap IntKind.i64 ((fT g i0)+(cW (ae g.kids i0))))) (cA (WW (hK _ (ay hx0))) trivial (ac (iK g.kids i0) a0))))
 (an (ac (dwo ((i0+1:Nat):Int)) a0)
 (lf (wy (yn g i0) 0) 1 (nxP (qR g (i0+1)) (fun _=>lG g (i0+1)) (show ym g i0=false from rfl) (show fT g (i0+1)=(min (IntKind.wrap IntKind.i64 ((fT g i0)+(cW (ae g.kids i0)))) 2147483647) from rfl)))))))
 oaa
theorem Vt (g:G) (ls:length g.kids<=9223372036854775807) (hK: ∀u∈G.kids g,bg pg 104 [.ag (gCC u)] [] [] (I (cW u)) []):vcC pg 22 base aK 3000 (kbL []) yk (bz (oX g (zAt g))) (bw (lG g (zAt g))) 1 (bM [⟨True,(.exit 0),lH g,range 1,lI g⟩]) zG:=
 have l1:=aU gC (g.kids);have hb:(zAm g)=false:=decide_eq_false oab;
 bc (an (a1 a0)
 (an hb (lf (wy [⟨True,(.exit 0),lH g,range 1,lI g⟩] 0) 1 trivial)))
 oaa
theorem Oj (g:G) (i0:Nat):(yn g i0).all zj=true:=by refine (aF (aR rfl rfl rfl ?_ ?_) bC)<;>simp (maxDischargeDepth:=9) [nxW,htW,qR,oX,we,lH,plS,AV.pure,ah,aj,lG,wg,lI,plO,eC,dG]
theorem Ok (g:G):bG.cS 0 ⟨True,(.exit 0),lH g,range 1,lI g⟩=true:=by refine (aR rfl rfl rfl ?_ ?_)<;>simp (maxDischargeDepth:=9) [nxW,htW,qR,oX,we,lH,plS,AV.pure,ah,aj,lG,wg,lI,plO,eC,dG]
theorem Ol (g:G) (ls:length g.kids<=9223372036854775807) (hK: ∀u∈G.kids g,bg pg 104 [.ag (gCC u)] [] [] (I (cW u)) []):cQ pg 22 0 0 (.loop yk) (wh g):=
 iZ (fun _=>eB (id:=0) (m:=length g.kids) (t:=ym g) (xr:= .ret) (xn:=(.exit 0)) (Lr:=we g) (Lx:=lH g) (obr:=wg g) (obx:=lI g) (V:=fun i0=>vcC pg 22 (bI [i104 (ae g.kids i0)] base) aK 3000 (kbL []) yk) (oX g) (lG g) 1 (yn g) (Qt g) _ _ (fun i0 hx0=>aL (bo (.cons (WW (hK _ (ay hx0))) rfl cr.nil) aw) mixed (az _)) (aL aw mixed (az _)) (fun e=>by cases e) (fun e=>by cases e) (fun _=>rfl) (fun i0 hx0=>Vs g i0 ls hK hx0) (fun i0 _=>Oj g i0) (fun i0 _=>show∀ww∈yn g i0,cm _ _ _ _ _ _ ww from (aC bU bB)) (Vt g ls hK) (Ok g)) (fun _=>rfl) rfl (fun h=>h)
def r104 (g:G):Int:=(fT g (length g.kids))
theorem qS:dp [0] (aH 104)=[(0,.loop yk)]:=by kernel_rfl
theorem Vu (g:G) (ls:length g.kids<=9223372036854775807) (hK: ∀u∈G.kids g,bg pg 104 [.ag (gCC u)] [] [] (I (cW u)) []):bg pg 104 [.ag (gCC g)] [] [] (I (r104 g)) []:=
 bD (fn:=Tryz.f104) (callf:=base) (pu:=aK) (lf:=3000) (l:=[(0,wh g)]) (t:=zBG) aw mixed Tryz.func104 oaa (show Tryz.f104.body=some (aH 104) by kernel_rfl) (Nat.le_of_ble_eq_true rfl) (bK (l:=[(0,wh g)]) qS (aT (Ol g ls hK) rfl bj) rfl) rfl (bc
 (an a0
 (an a0
 (an a0
 (an (kbT (wh g) trivial) (an (rfl:false=false) (an a0
 (iE (show r104 g=(fT g (length g.kids)) from rfl))))))))
 oaa)
def Ig:Code:=bP 0 (aH 94)
def yo (g:G) (o:Int) (i0:Nat):Am.Loc:=[(1,I8 o),(2,.pf (gCC g)),(5,I (i0:Int))]
def C9 (g:G) (o:Int) (i0:Nat):List Ob:=[]
def uv (g:G) (o:Int) (i0:Nat):Bool:=(dY o (ae g.kids i0))
def wi (g:G) (o:Int):Bool:=cX (length g.kids) (uv g o)
def Kb (g:G) (o:Int) (i0:Nat):Am.Loc:=[(4,B true)]
def Kc (g:G) (o:Int) (i0:Nat):List Ob:=[]
def yp (g:G) (o:Int):Am.Loc:=[]
def yq (g:G) (o:Int):List Ob:=[]
def E5 (g:G) (o:Int):KB:=⟨yo g o 0,C9 g o 0,wi g o,.ret,Kb g o (b4 (zAt g) (uv g o)),Kc g o (b4 (zAt g) (uv g o)),.normal,yp g o,yq g o,True⟩
def Da (g:G) (o:Int) (i0:Nat):List bG:=[htW (uv g o i0) .ret (Kb g o i0) zb (Kc g o i0),nxW (uv g o i0) (yo g o (i0+1)) (C9 g o (i0+1)) (yo g o (i0+1)) zb (C9 g o (i0+1))]
def W0 (g:G) (o:Int) (i0:Nat):GT:=(.r [.k,bT] (.yes (.r [.row (gCC (ae g.kids i0)),.int 0,bT] (.br (.r [bT] (.pick 0)) (.r [.int ↑(i0+1),bT] (.pick 1))))))
theorem X8 (g:G) (o:Int) (i0:Nat) (ls:length g.kids<=9223372036854775807) (hK: ∀u∈G.kids g,bg pg 94 [.ag (gCC u),I8 o] [] [] (B (dY o u)) []) (hx0:i0<(length g.kids)):vcC pg 24 (bI [i94 (ae g.kids i0) o] base) aK 3000 (kbL []) Ig (bz (yo g o i0)) (bw (C9 g o i0)) 0 (bM (Da g o i0)) (W0 g o i0):=
 have l1:=aU gC (g.kids);have hb:(zBj g i0)=true:=decide_eq_true oab;
 bc (an (a1 a0)
 (an hb (an (cA (gd94 (hK _ (ay hx0))) trivial (ac (iK g.kids i0) a0))
 (brP (fun (h1:(dY o (ae g.kids i0))=true)=>
 (an a0
 (lf (wy (Da g o i0) 0) 0 (show uv g o i0=true from h1)))) (fun h1=>
 (an (ac (dwo ((i0+1:Nat):Int)) a0)
 (lf (wy (Da g o i0) 1) 0 ⟨(show uv g o i0=false from h1),rfl,rfl⟩)))))))
 oaa
theorem X9 (g:G) (o:Int) (ls:length g.kids<=9223372036854775807) (hK: ∀u∈G.kids g,bg pg 94 [.ag (gCC u),I8 o] [] [] (B (dY o u)) []):vcC pg 24 base aK 3000 (kbL []) Ig (bz (yo g o (zAt g))) (bw (C9 g o (zAt g))) 0 (bM [⟨True,(.exit 0),yp g o,range 0,yq g o⟩]) zG:=
 have l1:=aU gC (g.kids);have hb:(zAm g)=false:=decide_eq_false oab;
 bc (an (a1 a0)
 (an hb (lf (wy [⟨True,(.exit 0),yp g o,range 0,yq g o⟩] 0) 0 trivial)))
 oaa
theorem Qu (g:G) (o:Int) (i0:Nat):(Da g o i0).all zj=true:=(aF oan (aF (aR rfl rfl rfl (by simp_all [nxW,yo,plS,AV.pure]) rfl) bC))
theorem Qv (g:G) (o:Int):bG.cS 0 ⟨True,(.exit 0),yp g o,range 0,yq g o⟩=true:=(aR rfl rfl rfl rfl rfl)
theorem Qw (g:G) (o:Int) (ls:length g.kids<=9223372036854775807) (hK: ∀u∈G.kids g,bg pg 94 [.ag (gCC u),I8 o] [] [] (B (dY o u)) []):cQ pg 24 0 0 (.loop Ig) (E5 g o):=
 bW (fun _=>eB (id:=0) (m:=length g.kids) (t:=uv g o) (xr:= .ret) (xn:=(.exit 0)) (Lr:=Kb g o) (Lx:=yp g o) (obr:=Kc g o) (obx:=yq g o) (V:=fun i0=>vcC pg 24 (bI [i94 (ae g.kids i0) o] base) aK 3000 (kbL []) Ig) (yo g o) (C9 g o) 0 (Da g o) (W0 g o) _ _ (fun i0 hx0=>aL (bo (.cons (gd94 (hK _ (ay hx0))) rfl cr.nil) aw) mixed (az _)) (aL aw mixed (az _)) (fun e=>by cases e) (fun e=>by cases e) (fun _=>rfl) (fun i0 hx0=>X8 g o i0 ls hK hx0) (fun i0 _=>Qu g o i0) (fun i0 _=>show∀ww∈Da g o i0,cm _ _ _ _ _ _ ww from (aC cT (aC bU bB))) (X9 g o ls hK) (Qv g o)) (fun h=>h) (fun h=>h)
def r94 (g:G) (o:Int):Bool:=((g.op==o)||(wi g o))
theorem vr:dp [0] (aH 94)=[(0,.loop Ig)]:=by kernel_rfl
abbrev zCX:GT:=(.r [bT] (.br .nil zF))
theorem Vv (g:G) (o:Int) (ls:length g.kids<=9223372036854775807) (hK: ∀u∈G.kids g,bg pg 94 [.ag (gCC u),I8 o] [] [] (B (dY o u)) []):bg pg 94 [.ag (gCC g),I8 o] [] [] (B (r94 g o)) []:=
 bD (fn:=Tryz.f94) (callf:=base) (pu:=aK) (lf:=3000) (l:=[(0,E5 g o)]) (t:=(.r [bT] (.r [.k,bT] (.br zF zCX)))) aw mixed Tryz.func94 oaa (show Tryz.f94.body=some (aH 94) by kernel_rfl) (Nat.le_of_ble_eq_true rfl) (bK (l:=[(0,E5 g o)]) vr (aT (Qw g o ls hK) rfl bj) rfl) rfl (bc
 (an a0
 (an (a1 a0)
 (brP (fun (h0:(g.op==o)=true)=>
 (an a0
 (bE (show r94 g o=true from (orT h0))))) (fun h0=>
 (an a0
 (an (kbT (E5 g o) trivial) (brP (fun (h1:(wi g o)=true)=>
 (bE (show r94 g o=true from (orF h0 h1)))) (fun h1=>
 (an a0
 (bE (show r94 g o=false from (orF h0 h1))))))))))))
 oaa)
def yr:Code:=bP 0 (aH 115)
abbrev zCQ (l:List G):=(map gC l)
def oY (l:List G) (i0:Nat):Am.Loc:=[(0,.sl 4 (zCQ l)),(3,I (i0:Int))]
def sX (l:List G) (i0:Nat):List Ob:=[]
def mK (l:List G) (i0:Nat):Bool:=(!(cR (ae l i0)))
def qT (l:List G):Bool:=cX (length l) (mK l)
def E6 (l:List G) (i0:Nat):Am.Loc:=[(2,B false)]
def E7 (l:List G) (i0:Nat):List Ob:=[]
def qV (l:List G):Am.Loc:=[]
def qW (l:List G):List Ob:=[]
abbrev zCB (l:List G):=(length l)
def wj (l:List G):KB:=⟨oY l 0,sX l 0,qT l,.ret,E6 l (b4 (zCB l) (mK l)),E7 l (b4 (zCB l) (mK l)),.normal,qV l,qW l,True⟩
def sY (l:List G) (i0:Nat):List bG:=[htW (mK l i0) .ret (E6 l i0) zb (E7 l i0),nxW (mK l i0) (oY l (i0+1)) (sX l (i0+1)) (oY l (i0+1)) zb (sX l (i0+1))]
def Qx (l:List G) (i0:Nat):GT:=(.r [.k,bT] (.yes (.r [.row (gCC (ae l i0)),.int 0,bT] (.br (.r [bT] (.pick 0)) (.r [.int ↑(i0+1),bT] (.pick 1))))))
abbrev zBv (i0:Nat) (l:List G):=(decide ((i0:Int)<(length (map gC l):Int)))
theorem Vw (l:List G) (i0:Nat) (ls:length l<=9223372036854775807) (hK: ∀u∈l,bg pg 105 [.ag (gCC u)] [] [] (B (cR u)) []) (hx0:i0<(length l)):vcC pg 16 (bI [i105 (ae l i0)] base) aK 3000 (kbL []) yr (bz (oY l i0)) (bw (sX l i0)) 0 (bM (sY l i0)) (Qx l i0):=
 have l1:=aU gC (l);have hb:(zBv i0 l)=true:=decide_eq_true oab;
 bc (an (a1 a0)
 (an hb (an (cA (WX (hK _ (ay hx0))) trivial (ac (iK l i0) a0))
 (brP (fun (h1:(!(cR (ae l i0)))=true)=>
 (an a0
 (lf (wy (sY l i0) 0) 0 (show mK l i0=true from h1)))) (fun h1=>
 (an (ac (dwo ((i0+1:Nat):Int)) a0)
 (lf (wy (sY l i0) 1) 0 ⟨(show mK l i0=false from h1),rfl,rfl⟩)))))))
 oaa
abbrev zBC (l:List G):=(decide ((((length l):Nat):Int)<(length (map gC l):Int)))
theorem Vy (l:List G) (ls:length l<=9223372036854775807) (hK: ∀u∈l,bg pg 105 [.ag (gCC u)] [] [] (B (cR u)) []):vcC pg 16 base aK 3000 (kbL []) yr (bz (oY l (zCB l))) (bw (sX l (zCB l))) 0 (bM [⟨True,(.exit 0),qV l,range 0,qW l⟩]) zG:=
 have l1:=aU gC (l);have hb:(zBC l)=false:=decide_eq_false oab;
 bc (an (a1 a0)
 (an hb (lf (wy [⟨True,(.exit 0),qV l,range 0,qW l⟩] 0) 0 trivial)))
 oaa
theorem Om (l:List G) (i0:Nat):(sY l i0).all zj=true:=(aF oan (aF (aR rfl rfl rfl (by simp_all [nxW,oY,plS,AV.pure]) rfl) bC))
theorem On (l:List G):bG.cS 0 ⟨True,(.exit 0),qV l,range 0,qW l⟩=true:=(aR rfl rfl rfl rfl rfl)
theorem Oo (l:List G) (ls:length l<=9223372036854775807) (hK: ∀u∈l,bg pg 105 [.ag (gCC u)] [] [] (B (cR u)) []):cQ pg 16 0 0 (.loop yr) (wj l):=
 bW (fun _=>eB (id:=0) (m:=length l) (t:=mK l) (xr:= .ret) (xn:=(.exit 0)) (Lr:=E6 l) (Lx:=qV l) (obr:=E7 l) (obx:=qW l) (V:=fun i0=>vcC pg 16 (bI [i105 (ae l i0)] base) aK 3000 (kbL []) yr) (oY l) (sX l) 0 (sY l) (Qx l) _ _ (fun i0 hx0=>aL (bo (.cons (WX (hK _ (ay hx0))) rfl cr.nil) aw) mixed (az _)) (aL aw mixed (az _)) (fun e=>by cases e) (fun e=>by cases e) (fun _=>rfl) (fun i0 hx0=>Vw l i0 ls hK hx0) (fun i0 _=>Om l i0) (fun i0 _=>show∀ww∈sY l i0,cm _ _ _ _ _ _ ww from (aC cT (aC bU bB))) (Vy l ls hK) (On l)) (fun h=>h) (fun h=>h)
def Qy (l:List G):Bool:=(!(qT l))
theorem qX:dp [0] (aH 115)=[(0,.loop yr)]:=by kernel_rfl
abbrev zh:GT:=(.r [bT] zCX)
theorem E8 (l:List G) (ls:length l<=9223372036854775807) (hK: ∀u∈l,bg pg 105 [.ag (gCC u)] [] [] (B (cR u)) []):bg pg 115 [.sl 4 (zCQ l)] [] [] (B (Qy l)) []:=
 bD (fn:=Tryz.f115) (callf:=base) (pu:=aK) (lf:=3000) (l:=[(0,wj l)]) (t:=zh) aw mixed Tryz.func115 oaa (show Tryz.f115.body=some (aH 115) by kernel_rfl) (Nat.le_of_ble_eq_true rfl) (bK (l:=[(0,wj l)]) qX (aT (Oo l ls hK) rfl bj) rfl) rfl (bc
 (an a0
 (an a0
 (an (kbT (wj l) trivial) (brP (fun (h0:(qT l)=true)=>
 (bE (show Qy l=false from (cq h0)))) (fun h0=>
 (an a0
 (bE (show Qy l=true from (au h0)))))))))
 oaa)
theorem yt (g:G): ∀(l:List G) (a:Int),hC (l++ [g]) a=min (hC l a+cW g) 2147483647
 |[],a=>by simp [hC]
 |x::l,a=>by simp only [List.cons_append,hC,yt g l]
theorem sZ: ∀(l:List G) (a:Int),(∀u∈l,1<=cW u)->1<=a->a<=2147483647->1<=hC l a/\hC l a<=2147483647
 |[],a,_,h0,h1=>by simp only [hC];exact ⟨h0,h1⟩
 |x::l,a,h,h0,h1=>by
  have:=h x oai
  simp only [hC]
  exact sZ l _ (fun u hu=>h u (by simp [hu])) oab oab
theorem Ih: ∀g:G,1<=cW g/\cW g<=2147483647:=G.H9 (by grind [cW,sZ])
theorem Db (l:List G) (ac:Nat->Int) (h0:ac 0=1) (h1: ∀i,ac (i+1)=min (IntKind.wrap IntKind.i64 (ac i+cW (ae l i))) 2147483647):ac l.length=hC l 1:=by
 have key: ∀k,k<=l.length->ac k=hC (l.take k) 1:=by
  intro k
  induction k with
  |zero=>intro _;rw [h0];simp [hC]
  |succ k ih=>
   intro hk
   have hb:=sZ (l.take k) 1 (fun u _=>(Ih u).1) oab oab
   have hg:=Ih (ae l k)
   rw [h1,ih oab,C8 oab,yt,wrap_i64 oab oab]
 rw [key l.length (Nat.le_refl _),List.take_length]
theorem Ke: ∀g:G,eG g->bg pg 99 [.ag (gCC g)] [] [] (I (cW g)) []:=G.H9 fun o n s l ih hf=>by
 have h:=X7 (.mk o n s l) hf.len fun u hu=>ih u hu (hf.kids u hu)
 have e:r99 (.mk o n s l)=cW (.mk o n s l):=by
  simp only [cW]
  exact Db l (iL (.mk o n s l)) rfl fun i=>rfl
 rw [<-e];exact h
theorem Ii: ∀g:G,eG g->bg pg 104 [.ag (gCC g)] [] [] (I (cW g)) []:=G.H9 fun o n s l ih hf=>by
 have h:=Vu (.mk o n s l) hf.len fun u hu=>ih u hu (hf.kids u hu)
 have e:r104 (.mk o n s l)=cW (.mk o n s l):=by
  simp only [cW]
  exact Db l (fT (.mk o n s l)) rfl fun i=>rfl
 rw [<-e];exact h
theorem Ij (o:Int): ∀g:G,eG g->bg pg 94 [.ag (gCC g),I8 o] [] [] (B (dY o g)) []:=G.H9 fun o' n s l ih hf=>by
 have h:=Vv (.mk o' n s l) o hf.len fun u hu=>ih u hu (hf.kids u hu)
 have e:r94 (.mk o' n s l) o=dY o (.mk o' n s l):=by
  have:wi (.mk o' n s l) o=l.any (dY o):=je (dY o) l
  simp only [r94,dY,ye,this]
  rfl
 rw [<-e];exact h
theorem all_eq (l:List G):Qy l=jt l:=by
 have:qT l=l.any fun g=> !cR g:=je (fun g=> !cR g) l
 grind [Ia,Qy]
def i115 (l:List G):cc:=⟨115,[.sl 4 (l.map gC)],B (jt l),True⟩
theorem Mw {l:List G} (h:bg pg 115 [.sl 4 (l.map gC)] [] [] (B (jt l)) []):(i115 l).b7 pg:=fun _=>⟨h,by simp [i115,ah,AV.pure],rfl⟩
def oZ (g:G):Bool:=(!(!(cG (Array.toList (ByteArray.data g.name)) []))&&(bif g.n !=0 then (!(g.op !=8)&&(((length (map gC g.kids):Int)==0)&&((decide (g.n<1000000000000000000))&&decide (g.n>(-1000000000000000000))))) else (bif g.op==0 then (length (map gC g.kids):Int)==0 else (bif g.op==1 then (length (map gC g.kids):Int)==0 else (bif g.op==8 then (((length (map gC g.kids):Int)==0)&&((decide (g.n<1000000000000000000))&&decide (g.n>(-1000000000000000000)))) else (bif g.op==2 then (((length (map gC g.kids):Int)==1)&&jt g.kids) else (bif g.op==3 then ((decide ((length (map gC g.kids):Int)>=2))&&jt g.kids) else (bif g.op==4 then ((decide ((length (map gC g.kids):Int)>=2))&&jt g.kids) else (bif g.op==5 then (((length (map gC g.kids):Int)==2)&&((eD (ae g.kids 0))&&eD (ae g.kids 1))) else (bif g.op==6 then (((length (map gC g.kids):Int)==2)&&((eD (ae g.kids 0))&&eD (ae g.kids 1))) else ((g.op==7)&&(((length (map gC g.kids):Int)==2)&&((eD (ae g.kids 0))&&eD (ae g.kids 1))))))))))))))
abbrev zAv:List Gi:=(.k::uFF 10 [bT])
abbrev zZ (g:G):GT:=(.a (.a (.r [.k,bT,bT,bT,.row (gCC (ae g.kids 0)),bT,bT,.int 1,bT,bT,bT,.row (gCC (ae g.kids 1)),bT,bT,.int 2,bT] .nil) (.r (.k::bT::bT::bT::.row (gCC (ae g.kids 0))::bT::bT::.int 1::uFF 5 [bT]) .nil)) (.r zAv .nil))
abbrev zAM (g:G):=((length (map gC g.kids):Int)==0)
abbrev zAZ (g:G):=((length (map gC g.kids):Int)==2)
abbrev zAx (g:G):=(decide ((length (map gC g.kids):Int)>=2))
abbrev zBP:GT:=(.r [.k,bT] .nil)
abbrev zBo:List Gi:=(.k::uFF 8 [bT])
abbrev zCL:List Gi:=(.k::bT::bT::bT::.k::uTT 4 [.k,bT,bT])
abbrev zCT:List Gi:=[.k,bT,bT,bT,.k,bT,bF,bF,bF,bT,bT]
theorem Vz (g:G) (ls:length g.kids<=9223372036854775807) (hf: ∀k∈G.kids g,eG k) (hK: ∀u∈G.kids g,bg pg 105 [.ag (gCC u)] [] [] (B (cR u)) []):bg pg 105 [.ag (gCC g)] [] [] (B (oZ g)) []:=
 bD (fn:=Tryz.f105) (callf:=(bI [i115 g.kids,i116 (ae g.kids 0),i116 (ae g.kids 1)] base)) (pu:=aK) (lf:=3000) (l:=[]) (t:=(.r [bT] (.a (.r zBo zF) (.a (.r zCL (.br zF (.r [bT] (.r [.k,bT] (.no (.r [.k,bT] (.no (.r [.k,bT] (.yes zI))))))))) (.r zCT (.r [bT] (.r [.k,bT] (.br zBP (.r [.k,bT] (.br zBP (.r [.k,bT] (.br zI (.r [.k,bT] (.br zAB (.r [.k,bT] (.br zAB (.r [.k,bT] (.br zAB (.r [.k,bT] (.br (zZ g) (.r [.k,bT] (.br (zZ g) (.r [.k,bT] (.br (zZ g) zF)))))))))))))))))))))))) (bo (.cons (Mw oar) rfl (.cons (yh (ae g.kids 0)) rfl (.cons (yh (ae g.kids 1)) rfl cr.nil))) aw) mixed Tryz.func105 oaa (show Tryz.f105.body=some (aH 105) by kernel_rfl) (Nat.le_of_ble_eq_true rfl) (az _) rfl (bc
 (an a0
 (aM (fun (h0:(!(cG (Array.toList (ByteArray.data g.name)) []))=true)=>
 (an (aN 7 (ac (n2 h0) (a1 a0)))
 (an a0
 (bE (show oZ g=false from (bf (cq h0))))))) (fun h0=>have q0:=(aD (au h0) rfl:oZ g=_);
 (aM (fun (h1:(g.n !=0)=true)=>have q1:=q0.trans (cdT h1 rfl);
 (an (aN 4 (ac h1 (aN 4 (ac (au h0) (a1 a0)))))
 (brP (fun (h2:(g.op !=8)=true)=>
 (an a0
 (bE (q1.trans (bf (cq h2)))))) (fun h2=>have q3:=q1.trans (aD (au h2) rfl);
 (an a0
 (an (a1 a0)
 (an (show (g.op==0)=false by rw [fu h2];rfl) (an (a1 a0)
 (an (show (g.op==1)=false by rw [fu h2];rfl) (an (a1 a0)
 (an (show (g.op==8)=true by rw [fu h2];rfl) (aM (fun (h3:(zAM g)=true)=>
 (aM (fun (h4:(zBU g)=true)=>
 (an (aN 3 (ac h4 (aN 3 (ac h3 (a1 a0)))))
 (bE (show oZ g=(zBM g) from (aD (au h0) (cdT h1 (aD (au h2) (aD h3 (aD h4 rfl))))))))) (fun h4=>
 (an (aN 2 (ac (au h4) (aN 3 (ac h3 (a1 a0)))))
 (bE (q3.trans (aD h3 (bf h4)))))))) (fun h3=>
 (an (aN 5 (ac (au h3) (a1 a0)))
 (bE (q3.trans (bf h3))))))))))))))))) (fun h1=>have q2:=q0.trans (cdF h1 rfl);have g1:=fu h1;
 (an (aN 3 (ac (au h1) (aN 4 (ac (au h0) (a1 a0)))))
 (an a0
 (an (a1 a0)
 (brP (fun (h2:(g.op==0)=true)=>
 (an (a1 a0)
 (bE (show oZ g=(zAM g) from (aD (au h0) (cdF h1 (cdT h2 rfl))))))) (fun h2=>have q4:=q2.trans (cdF h2 rfl);have g2:=ne_of_beq_false h2;
 (an (a1 a0)
 (brP (fun (h3:(g.op==1)=true)=>
 (an (a1 a0)
 (bE (show oZ g=(zAM g) from (aD (au h0) (cdF h1 (cdF h2 (cdT h3 rfl)))))))) (fun h3=>have q5:=q4.trans (cdF h3 rfl);have g3:=ne_of_beq_false h3;
 (an (a1 a0)
 (brP (fun (h4:(g.op==8)=true)=>have q6:=q5.trans (cdT h4 rfl);
 (aM (fun (h5:(zAM g)=true)=>
 (aM (fun (h6:(zBU g)=true)=>
 (an (aN 3 (ac h6 (aN 3 (ac h5 (a1 a0)))))
 (bE (show oZ g=(zBM g) from (aD (au h0) (cdF h1 (cdF h2 (cdF h3 (cdT h4 (aD h5 (aD h6 rfl))))))))))) (fun h6=>
 (an (aN 2 (ac (au h6) (aN 3 (ac h5 (a1 a0)))))
 (bE (q6.trans (aD h5 (bf h6)))))))) (fun h5=>
 (an (aN 5 (ac (au h5) (a1 a0)))
 (bE (q6.trans (bf h5))))))) (fun h4=>have q7:=q5.trans (cdF h4 rfl);have g4:=ne_of_beq_false h4;
 (an (a1 a0)
 (brP (fun (h5:(g.op==2)=true)=>
 (aM (fun (h6:((length (map gC g.kids):Int)==1)=true)=>
 (an (cA (Mw oar) trivial (aN 2 (ac h6 (a1 a0))))
 (bE (show oZ g=(jt g.kids) from (aD (au h0) (cdF h1 (cdF h2 (cdF h3 (cdF h4 (cdT h5 (aD h6 rfl))))))))))) (fun h6=>
 (an (aN 2 (ac (au h6) (a1 a0)))
 (bE (q7.trans (cdT h5 (bf h6)))))))) (fun h5=>have q8:=q7.trans (cdF h5 rfl);have g5:=ne_of_beq_false h5;
 (an (a1 a0)
 (brP (fun (h6:(g.op==3)=true)=>
 (aM (fun (h7:(zAx g)=true)=>
 (an (cA (Mw oar) trivial (aN 2 (ac h7 (a1 a0))))
 (bE (show oZ g=(jt g.kids) from (aD (au h0) (cdF h1 (cdF h2 (cdF h3 (cdF h4 (cdF h5 (cdT h6 (aD h7 rfl)))))))))))) (fun h7=>
 (an (aN 2 (ac (au h7) (a1 a0)))
 (bE (q8.trans (cdT h6 (bf h7)))))))) (fun h6=>have q9:=q8.trans (cdF h6 rfl);have g6:=ne_of_beq_false h6;
 (an (a1 a0)
 (brP (fun (h7:(g.op==4)=true)=>
 (aM (fun (h8:(zAx g)=true)=>
 (an (cA (Mw oar) trivial (aN 2 (ac h8 (a1 a0))))
 (bE (show oZ g=(jt g.kids) from (aD (au h0) (cdF h1 (cdF h2 (cdF h3 (cdF h4 (cdF h5 (cdF h6 (cdT h7 (aD h8 rfl))))))))))))) (fun h8=>
 (an (aN 2 (ac (au h8) (a1 a0)))
 (bE (q9.trans (cdT h7 (bf h8)))))))) (fun h7=>have q10:=q9.trans (cdF h7 rfl);have g7:=ne_of_beq_false h7;
 (an (a1 a0)
 (brP (fun (h8:(g.op==5)=true)=>have q11:=q10.trans (cdT h8 rfl);have g8:=eq_of_beq h8;
 (aM (fun (h9:(zAZ g)=true)=>have l1:=aU gC (g.kids);have g9:=eq_of_beq h9;
 (aM (fun (h10:(eD (ae g.kids 0))=true)=>
 (an (cA (yh (ae g.kids 1)) (hf _ (ay oab)) (aN 2 (ac (iK g.kids 1) (aN 2 (ac h10 (cA (yh (ae g.kids 0)) (hf _ (ay oab)) (aN 2 (ac (iK g.kids 0) (aN 2 (ac h9 (a1 a0)))))))))))
 (bE (show oZ g=(eD (ae g.kids 1)) from (aD (au h0) (cdF h1 (cdF h2 (cdF h3 (cdF h4 (cdF h5 (cdF h6 (cdF h7 (cdT h8 (aD h9 (aD h10 rfl))))))))))))))) (fun h10=>
 (an (aN 4 (ac (au h10) (cA (yh (ae g.kids 0)) (hf _ (ay oab)) (aN 2 (ac (iK g.kids 0) (aN 2 (ac h9 (a1 a0))))))))
 (bE (q11.trans (aD h9 (bf h10)))))))) (fun h9=>
 (an (aN 9 (ac (au h9) (a1 a0)))
 (bE (q11.trans (bf h9))))))) (fun h8=>have q12:=q10.trans (cdF h8 rfl);have g8:=ne_of_beq_false h8;
 (an (a1 a0)
 (brP (fun (h9:(g.op==6)=true)=>have q13:=q12.trans (cdT h9 rfl);have g9:=eq_of_beq h9;
 (aM (fun (h10:(zAZ g)=true)=>have l1:=aU gC (g.kids);have g10:=eq_of_beq h10;
 (aM (fun (h11:(eD (ae g.kids 0))=true)=>
 (an (cA (yh (ae g.kids 1)) (hf _ (ay oab)) (aN 2 (ac (iK g.kids 1) (aN 2 (ac h11 (cA (yh (ae g.kids 0)) (hf _ (ay oab)) (aN 2 (ac (iK g.kids 0) (aN 2 (ac h10 (a1 a0)))))))))))
 (bE (show oZ g=(eD (ae g.kids 1)) from (aD (au h0) (cdF h1 (cdF h2 (cdF h3 (cdF h4 (cdF h5 (cdF h6 (cdF h7 (cdF h8 (cdT h9 (aD h10 (aD h11 rfl)))))))))))))))) (fun h11=>
 (an (aN 4 (ac (au h11) (cA (yh (ae g.kids 0)) (hf _ (ay oab)) (aN 2 (ac (iK g.kids 0) (aN 2 (ac h10 (a1 a0))))))))
 (bE (q13.trans (aD h10 (bf h11)))))))) (fun h10=>
 (an (aN 9 (ac (au h10) (a1 a0)))
 (bE (q13.trans (bf h10))))))) (fun h9=>have q14:=q12.trans (cdF h9 rfl);have g9:=ne_of_beq_false h9;
 (an (a1 a0)
 (brP (fun (h10:(g.op==7)=true)=>have q15:=q14.trans (aD h10 rfl);have g10:=eq_of_beq h10;
 (aM (fun (h11:(zAZ g)=true)=>have l1:=aU gC (g.kids);have g11:=eq_of_beq h11;
 (aM (fun (h12:(eD (ae g.kids 0))=true)=>
 (an (cA (yh (ae g.kids 1)) (hf _ (ay oab)) (aN 2 (ac (iK g.kids 1) (aN 2 (ac h12 (cA (yh (ae g.kids 0)) (hf _ (ay oab)) (aN 2 (ac (iK g.kids 0) (aN 2 (ac h11 (a1 a0)))))))))))
 (bE (show oZ g=(eD (ae g.kids 1)) from (aD (au h0) (cdF h1 (cdF h2 (cdF h3 (cdF h4 (cdF h5 (cdF h6 (cdF h7 (cdF h8 (cdF h9 (aD h10 (aD h11 (aD h12 rfl))))))))))))))))) (fun h12=>
 (an (aN 4 (ac (au h12) (cA (yh (ae g.kids 0)) (hf _ (ay oab)) (aN 2 (ac (iK g.kids 0) (aN 2 (ac h11 (a1 a0))))))))
 (bE (q15.trans (aD h11 (bf h12)))))))) (fun h11=>
 (an (aN 9 (ac (au h11) (a1 a0)))
 (bE (q15.trans (bf h11))))))) (fun h10=>
 (an a0
 (bE (q14.trans (bf h10))))))))))))))))))))))))))))))))))))))
 oaa)
def r111 (g:G):Bool:= !(cR g)
abbrev zBw:GT:=(.r [bT] (.r [.int 0,bT] .nil))
theorem Qz (g:G) (hK:bg pg 100 [.ag (gCC g)] [] [] (B (cR g)) []):bg pg 111 [.ag (gCC g)] [] [] (B (r111 g)) []:=
 bD (fn:=Tryz.f111) (callf:=(bI [i100 g] base)) (pu:=aK) (lf:=3000) (l:=[]) (t:=zBw) (bo (.cons (WY hK) rfl cr.nil) aw) mixed Tryz.func111 oaa (show Tryz.f111.body=some (aH 111) by kernel_rfl) (Nat.le_of_ble_eq_true rfl) (az _) rfl (bc
 (an a0
 (an (cA (WY hK) trivial a0)
 (bE (show r111 g=(!(cR g)) from rfl))))
 oaa)
def Ik (l:List G) (j:Nat):cc:=⟨111,[.ag (gCC (ae l j))],B (!cR (ae l j)),j<l.length⟩
theorem Mx (l:List G) (j:Nat) (hK: ∀u∈l,bg pg 100 [.ag (gCC u)] [] [] (B (cR u)) []):(Ik l j).b7 pg:=fun hp=>⟨Qz _ (hK _ (ay hp)),by simp [Ik,ah,AV.pure],rfl⟩
def yu:Code:=bP 0 (aH 114)
def o4 (l:List G) (i0:Nat):Am.Loc:=[(0,.sl 4 (zCQ l)),(1,.fn (.func 111) [] []),(7,I (length (zCQ l):Int)),(8,I (i0:Int))]
def s4 (l:List G) (i0:Nat):List Ob:=[]
def j8 (l:List G) (i0:Nat):Bool:=(!(cR (ae l i0)))
def qY (l:List G):Bool:=cX (length l) (j8 l)
def E9 (l:List G) (i0:Nat):Am.Loc:=[(4,I (i0:Int))]
def Fa (l:List G) (i0:Nat):List Ob:=[]
def qZ (l:List G):Am.Loc:=[]
def re (l:List G):List Ob:=[]
def wk (l:List G):KB:=⟨o4 l 0,s4 l 0,qY l,.ret,E9 l (b4 (zCB l) (j8 l)),Fa l (b4 (zCB l) (j8 l)),.normal,qZ l,re l,True⟩
def s5 (l:List G) (i0:Nat):List bG:=[htW (j8 l i0) .ret (E9 l i0) zb (Fa l i0),nxW (j8 l i0) (o4 l (i0+1)) (s4 l (i0+1)) (o4 l (i0+1)) zb (s4 l (i0+1))]
def QA (l:List G) (i0:Nat):GT:=(.r [.k,bT] (.yes (.r [bT] (.r [.row (gCC (ae l i0)),.int 0,bT] (.br (.r [bT] (.pick 0)) (.r [.int ↑(i0+1),bT] (.pick 1)))))))
theorem VA (l:List G) (i0:Nat) (ls:length l<=9223372036854775807) (hK: ∀u∈l,bg pg 100 [.ag (gCC u)] [] [] (B (cR u)) []) (hx0:i0<(length l)):vcC pg 19 (bI [Ik l i0] base) aK 3000 (kbL []) yu (bz (o4 l i0)) (bw (s4 l i0)) 0 (bM (s5 l i0)) (QA l i0):=
 have l1:=aU gC (l);have hb:(zBv i0 l)=true:=decide_eq_true oab;
 bc (an (a1 a0)
 (an hb (an a0
 (an (cA (Mx l i0 hK) (show i0<length l by omega) (ac (iK l i0) a0))
 (brP (fun (h1:(!(cR (ae l i0)))=true)=>
 (an a0
 (lf (wy (s5 l i0) 0) 0 (show j8 l i0=true from h1)))) (fun h1=>
 (an (ac (dwo ((i0+1:Nat):Int)) a0)
 (lf (wy (s5 l i0) 1) 0 ⟨(show j8 l i0=false from h1),rfl,rfl⟩))))))))
 oaa
theorem VB (l:List G) (ls:length l<=9223372036854775807) (hK: ∀u∈l,bg pg 100 [.ag (gCC u)] [] [] (B (cR u)) []):vcC pg 19 base aK 3000 (kbL []) yu (bz (o4 l (zCB l))) (bw (s4 l (zCB l))) 0 (bM [⟨True,(.exit 0),qZ l,range 0,re l⟩]) zG:=
 have l1:=aU gC (l);have hb:(zBC l)=false:=decide_eq_false oab;
 bc (an (a1 a0)
 (an hb (lf (wy [⟨True,(.exit 0),qZ l,range 0,re l⟩] 0) 0 trivial)))
 oaa
theorem Oq (l:List G) (i0:Nat):(s5 l i0).all zj=true:=(aF oan (aF (aR rfl rfl rfl (by simp_all [nxW,o4,plS,AV.pure,ah]) rfl) bC))
theorem Ot (l:List G):bG.cS 0 ⟨True,(.exit 0),qZ l,range 0,re l⟩=true:=(aR rfl rfl rfl rfl rfl)
theorem Ou (l:List G) (ls:length l<=9223372036854775807) (hK: ∀u∈l,bg pg 100 [.ag (gCC u)] [] [] (B (cR u)) []):cQ pg 19 0 0 (.loop yu) (wk l):=
 bW (fun _=>eB (id:=0) (m:=length l) (t:=j8 l) (xr:= .ret) (xn:=(.exit 0)) (Lr:=E9 l) (Lx:=qZ l) (obr:=Fa l) (obx:=re l) (V:=fun i0=>vcC pg 19 (bI [Ik l i0] base) aK 3000 (kbL []) yu) (o4 l) (s4 l) 0 (s5 l) (QA l) _ _ (fun i0 hx0=>aL (bo (.cons (Mx l i0 hK) rfl cr.nil) aw) mixed (az _)) (aL aw mixed (az _)) (fun e=>by cases e) (fun e=>by cases e) (fun _=>rfl) (fun i0 hx0=>VA l i0 ls hK hx0) (fun i0 _=>Oq l i0) (fun i0 _=>show∀ww∈s5 l i0,cm _ _ _ _ _ _ ww from (aC cT (aC bU bB))) (VB l ls hK) (Ot l)) (fun h=>h) (fun h=>h)
def Il (l:List G):Int:=(bif qY l then (((b4 (length l) (j8 l)):Nat):Int) else (-1))
theorem rh:dp [0] (aH 114)=[(0,.loop yu)]:=by kernel_rfl
theorem QB (l:List G) (ls:length l<=9223372036854775807) (hK: ∀u∈l,bg pg 100 [.ag (gCC u)] [] [] (B (cR u)) []):bg pg 114 [.sl 4 (zCQ l),.fn (.func 111) [] []] [] [] (I (Il l)) []:=
 bD (fn:=Tryz.f114) (callf:=base) (pu:=aK) (lf:=3000) (l:=[(0,wk l)]) (t:=zh) aw mixed Tryz.func114 oaa (show Tryz.f114.body=some (aH 114) by kernel_rfl) (Nat.le_of_ble_eq_true rfl) (bK (l:=[(0,wk l)]) rh (aT (Ou l ls hK) rfl bj) rfl) rfl (bc
 (an a0
 (an a0
 (an (kbT (wk l) trivial) (brP (fun (h0:(qY l)=true)=>
 (iE (show Il l=(((b4 (length l) (j8 l)):Nat):Int) from (cdT h0 rfl)))) (fun h0=>
 (an a0
 (iE (show Il l=(-1) from (cdF h0 rfl)))))))))
 oaa)
def i114 (l:List G):cc:=⟨114,[.sl 4 (l.map gC),.fn (.func 111) [] []],I (Il l),True⟩
theorem W1 {l:List G} (h:bg pg 114 [.sl 4 (l.map gC),.fn (.func 111) [] []] [] [] (I (Il l)) []):(i114 l).b7 pg:=fun _=>⟨h,by simp [i114,ah,AV.pure],rfl⟩
def r101 (l:List G):Bool:=decide ((Il l)>=0)
abbrev zBK:GT:=(.r [bT] (.r [.int 0,.k,bT] .nil))
theorem Im (l:List G) (ls:length l<=9223372036854775807) (hK: ∀u∈l,bg pg 100 [.ag (gCC u)] [] [] (B (cR u)) []):bg pg 101 [.sl 4 (zCQ l),.fn (.func 111) [] []] [] [] (B (r101 l)) []:=
 bD (fn:=Tryz.f101) (callf:=(bI [i114 l] base)) (pu:=aK) (lf:=3000) (l:=[]) (t:=zBK) (bo (.cons (W1 (QB l ls hK)) rfl cr.nil) aw) mixed Tryz.func101 oaa (show Tryz.f101.body=some (aH 101) by kernel_rfl) (Nat.le_of_ble_eq_true rfl) (az _) rfl (bc
 (an a0
 (an (a1 (cA (W1 (QB l ls hK)) trivial a0))
 (bE (show r101 l=(decide ((Il l)>=0)) from rfl))))
 oaa)
theorem VD (l:List G):r101 l= !(jt l):=by
 have h2:qY l=l.any fun g=> !cR g:=je (fun g=> !cR g) l
 grind [Ia,r101,Il]
def i101 (l:List G):cc:=⟨101,[.sl 4 (l.map gC),.fn (.func 111) [] []],B (!(jt l)),True⟩
theorem QC {l:List G} (ls:l.length<=9223372036854775807) (hK: ∀u∈l,bg pg 100 [.ag (gCC u)] [] [] (B (cR u)) []):(i101 l).b7 pg:=fun _=>⟨by have:=Im l ls hK;rw [VD] at this;exact this,by simp [i101,ah,AV.pure],rfl⟩
theorem Ya (op:Int) (h: ¬(5<=op/\op<=7)) (h2:op<=127):bg pg 112 [I8 op] [] [] (.v .nilFunc) []:=by
 have go: ∀(gd:List Gi) {ok:List Bool},qD Tryz.prog Tryz.f112.results.toList 0 (runK Tryz.prog 15 base aK 3000 (kbL []) (aH 112) (l8 0 [I8 op] .e) .e 0 ⟨0,gd,[]⟩)=some (.v .nilFunc,[],ok)->cx ok=true->bg pg 112 [I8 op] [] [] (.v .nilFunc) []:=fun gd ok k hok=>
  ES (fn:=Tryz.f112) (pu:=aK) (lf:=3000) (l:=[]) aw mixed Tryz.func112 oaa (show Tryz.f112.body=some (aH 112) by kernel_rfl) (Nat.le_of_ble_eq_true rfl) (az _) k hok rfl
 by_cases h0:op<0
 ·exact go [bT,bF,bF,bF,bT,bT] oaa (a1 (a1 (a1 (a1 (ac (decide_eq_true h0) a0)))))
 ·by_cases h8:8<=op
  ·have hw:IntKind.wrap IntKind.i64 op=op:=wrap_i64 oab oab
   exact go (bF::uTT 6 []) oaa (a1 (ac (show (decide (IntKind.wrap IntKind.i64 op>=8))=true by rw [hw];exact decide_eq_true h8) (a1 (a1 (a1 (ac (au (decide_eq_false h0)) a0))))))
  ·have:op=0\/op=1\/op=2\/op=3\/op=4:=by omega
   rcases this with rfl|rfl|rfl|rfl|rfl
   ·exact go [] oaa a0
   ·exact go [] oaa a0
   ·exact go [] oaa a0
   ·exact go [] oaa a0
   ·exact go [] oaa a0
theorem QD:bg pg 112 [I8 5] [] [] (.fn (.func 122) [] []) []:=ES (fn:=Tryz.f112) (pu:=aK) (lf:=3000) (l:=[]) (gd:=[]) aw mixed Tryz.func112 oaa oan (Nat.le_of_ble_eq_true rfl) (az _) oan rfl rfl
def QE (op:Int):cc:=⟨112,[I8 op],.fn (.func 122) [] [],op=5⟩
theorem Fb (op:Int):(QE op).b7 pg:=fun hp=>⟨by have:op=5:=hp;subst this;exact QD,rfl,rfl⟩
theorem QF:bg pg 112 [I8 6] [] [] (.fn (.func 123) [] []) []:=ES (fn:=Tryz.f112) (pu:=aK) (lf:=3000) (l:=[]) (gd:=[]) aw mixed Tryz.func112 oaa oan (Nat.le_of_ble_eq_true rfl) (az _) oan rfl rfl
def QG (op:Int):cc:=⟨112,[I8 op],.fn (.func 123) [] [],op=6⟩
theorem Fc (op:Int):(QG op).b7 pg:=fun hp=>⟨by have:op=6:=hp;subst this;exact QF,rfl,rfl⟩
theorem QH:bg pg 112 [I8 7] [] [] (.fn (.func 124) [] []) []:=ES (fn:=Tryz.f112) (pu:=aK) (lf:=3000) (l:=[]) (gd:=[]) aw mixed Tryz.func112 oaa oan (Nat.le_of_ble_eq_true rfl) (az _) oan rfl rfl
def QI (op:Int):cc:=⟨112,[I8 op],.fn (.func 124) [] [],op=7⟩
theorem Ff (op:Int):(QI op).b7 pg:=fun hp=>⟨by have:op=7:=hp;subst this;exact QH,rfl,rfl⟩
def QJ (op:Int):cc:=⟨112,[I8 op],.v .nilFunc,¬(5<=op/\op<=7)/\op<=127⟩
theorem QK (op:Int):(QJ op).b7 pg:=fun hp=>⟨Ya op hp.1 hp.2,rfl,rfl⟩
def rm (g:G):Bool:=(!(!(cG (Array.toList (ByteArray.data g.name)) []))&&(bif g.op !=8 then (!(g.n !=0)&&(bif g.op==0 then (length (map gC g.kids):Int)==0 else (bif g.op==1 then (length (map gC g.kids):Int)==0 else (bif g.op==2 then (((length (map gC g.kids):Int)==1)&& !(!(cR (ae g.kids 0)))) else (bif g.op==3 then ((decide ((length (map gC g.kids):Int)>=2))&& !(!(jt g.kids))) else (bif g.op==4 then ((decide ((length (map gC g.kids):Int)>=2))&& !(!(jt g.kids))) else (bif g.op==5 then (((length (map gC g.kids):Int)==2)&&((eD (ae g.kids 0))&&eD (ae g.kids 1))) else (bif g.op==6 then (((length (map gC g.kids):Int)==2)&&((eD (ae g.kids 0))&&eD (ae g.kids 1))) else ((g.op==7)&&(((length (map gC g.kids):Int)==2)&&((eD (ae g.kids 0))&&eD (ae g.kids 1)))))))))))) else (((length (map gC g.kids):Int)==0)&&((decide (g.n<1000000000000000000))&&decide (g.n>(-1000000000000000000))))))
abbrev zBY:GT:=(.a (.r (.k::uTT 4 [.int 1,bT,bT]) .nil) (.r (.k::uFF 5 [bT]) .nil))
theorem VE (g:G) (ls:length g.kids<=9223372036854775807) (hf: ∀k∈G.kids g,eG k) (ho:G.op g<=127) (hK: ∀u∈G.kids g,bg pg 100 [.ag (gCC u)] [] [] (B (cR u)) []):bg pg 100 [.ag (gCC g)] [] [] (B (rm g)) []:=
 bD (fn:=Tryz.f100) (callf:=(bI [Ik g.kids 0,i101 g.kids,QE g.op,i113 (ae g.kids 0),i113 (ae g.kids 1),QG g.op,QI g.op,QJ g.op] base)) (pu:=aK) (lf:=3000) (l:=[]) (t:=(.r [bT] (.a (.r zBo zF) (.a (.r zCL (.br zF (.r [bT] (.r [bT] (.a (.r zAS zBP) (.r zAC (.br zBP (.r [.k,bT] (.no (.r [.k,bT] (.br (.a (.r (.k::uTT 4 [.row (gCC (ae g.kids 0)),bT,bT,.int 0,bT,bT]) .nil) (.r (.k::uFF 7 [bT]) .nil)) (.a (.r zAS zBY) (.r zAC (.br zBY (.a (.a (.a (.r (.int 2::.k::uTT 4 [.k,bT,bT,bT,.row (gCC (ae g.kids 0)),bT,bT,.int 3,bT,bT,bT,.row (gCC (ae g.kids 1)),bT,bT,.int 4,bT]) .nil) (.r (.int 2::.k::uTT 4 (.k::bT::bT::bT::.row (gCC (ae g.kids 0))::bT::bT::.int 3::uFF 5 [bT])) .nil)) (.r (.int 2::.k::uTT 4 (.k::uFF 10 [bT])) .nil)) (.a (.a (.a (.r (.int 5::.k::uTT 4 [.k,bT,bT,bT,.row (gCC (ae g.kids 0)),bT,bT,.int 3,bT,bT,bT,.row (gCC (ae g.kids 1)),bT,bT,.int 4,bT]) .nil) (.r (.int 5::.k::uTT 4 (.k::bT::bT::bT::.row (gCC (ae g.kids 0))::bT::bT::.int 3::uFF 5 [bT])) .nil)) (.r (.int 5::.k::uTT 4 (.k::uFF 10 [bT])) .nil)) (.a (.a (.a (.r (.int 6::.k::uTT 4 [.k,bT,bT,bT,.row (gCC (ae g.kids 0)),bT,bT,.int 3,bT,bT,bT,.row (gCC (ae g.kids 1)),bT,bT,.int 4,bT]) .nil) (.r (.int 6::.k::uTT 4 (.k::bT::bT::bT::.row (gCC (ae g.kids 0))::bT::bT::.int 3::uFF 5 [bT])) .nil)) (.r (.int 6::.k::uTT 4 (.k::uFF 10 [bT])) .nil)) (.r (.int 7::.k::uFF 14 [bT]) .nil)))))))))))))))))) (.r zCT (.r [bT] (.r [bT] (.r zAC (.no (.r [.k,bT] (.yes zI))))))))))) (bo (.cons (Mx g.kids 0 hK) rfl (.cons (QC ls hK) rfl (.cons (Fb g.op) rfl (.cons (yg (ae g.kids 0)) rfl (.cons (yg (ae g.kids 1)) rfl (.cons (Fc g.op) rfl (.cons (Ff g.op) rfl (.cons (QK g.op) rfl cr.nil)))))))) aw) mixed Tryz.func100 oaa (show Tryz.f100.body=some (aH 100) by kernel_rfl) (Nat.le_of_ble_eq_true rfl) (az _) rfl (bc
 (an a0
 (aM (fun (h0:(!(cG (Array.toList (ByteArray.data g.name)) []))=true)=>
 (an (aN 7 (ac (n2 h0) (a1 a0)))
 (an a0
 (bE (show rm g=false from (bf (cq h0))))))) (fun h0=>have q0:=(aD (au h0) rfl:rm g=_);
 (aM (fun (h1:(g.op !=8)=true)=>have q1:=q0.trans (cdT h1 rfl);have g1:=JY h1;
 (an (aN 4 (ac h1 (aN 4 (ac (au h0) (a1 a0)))))
 (brP (fun (h2:(g.n !=0)=true)=>
 (an a0
 (bE (q1.trans (bf (cq h2)))))) (fun h2=>have q3:=q1.trans (aD (au h2) rfl);have g2:=fu h2;
 (an a0
 (an a0
 (aM (fun (h3:(g.op==0)=true)=>
 (an (aN 2 (ac (n2 h3) (a1 a0)))
 (an (a1 a0)
 (bE (show rm g=(zAM g) from (aD (au h0) (cdT h1 (aD (au h2) (cdT h3 rfl))))))))) (fun h3=>have q4:=q3.trans (cdF h3 rfl);have g3:=ne_of_beq_false h3;
 (an (aN 3 (ac (au h3) (a1 a0)))
 (brP (fun (h4:(g.op==1)=true)=>
 (an (a1 a0)
 (bE (show rm g=(zAM g) from (aD (au h0) (cdT h1 (aD (au h2) (cdF h3 (cdT h4 rfl))))))))) (fun h4=>have q5:=q4.trans (cdF h4 rfl);have g4:=ne_of_beq_false h4;
 (an (a1 a0)
 (an (show (g.op==8)=false by simpa using h1) (an (a1 a0)
 (brP (fun (h5:(g.op==2)=true)=>have g5:=eq_of_beq h5;
 (aM (fun (h6:((length (map gC g.kids):Int)==1)=true)=>have l1:=aU gC (g.kids);have g6:=eq_of_beq h6;
 (an (a1 (cA (Mx g.kids 0 hK) (show 0<length g.kids by omega) (aN 2 (ac (iK g.kids 0) (aN 3 (ac h6 (a1 a0)))))))
 (bE (show rm g=(!(!(cR (ae g.kids 0)))) from (aD (au h0) (cdT h1 (aD (au h2) (cdF h3 (cdF h4 (cdT h5 (aD h6 rfl))))))))))) (fun h6=>
 (an (aN 6 (ac (au h6) (a1 a0)))
 (bE (q5.trans (cdT h5 (bf h6)))))))) (fun h5=>have q6:=q5.trans (cdF h5 rfl);have g5:=ne_of_beq_false h5;
 (aM (fun (h6:(g.op==3)=true)=>
 (an (aN 2 (ac (n2 h6) (a1 a0)))
 (aM (fun (h7:(zAx g)=true)=>
 (an (a1 (cA (QC ls hK) trivial (aN 3 (ac h7 (a1 a0)))))
 (bE (show rm g=(!(!(jt g.kids))) from (aD (au h0) (cdT h1 (aD (au h2) (cdF h3 (cdF h4 (cdF h5 (cdT h6 (aD h7 rfl)))))))))))) (fun h7=>
 (an (aN 4 (ac (au h7) (a1 a0)))
 (bE (q6.trans (cdT h6 (bf h7))))))))) (fun h6=>have q7:=q6.trans (cdF h6 rfl);have g6:=ne_of_beq_false h6;
 (an (aN 3 (ac (au h6) (a1 a0)))
 (brP (fun (h7:(g.op==4)=true)=>
 (aM (fun (h8:(zAx g)=true)=>
 (an (a1 (cA (QC ls hK) trivial (aN 3 (ac h8 (a1 a0)))))
 (bE (show rm g=(!(!(jt g.kids))) from (aD (au h0) (cdT h1 (aD (au h2) (cdF h3 (cdF h4 (cdF h5 (cdF h6 (cdT h7 (aD h8 rfl))))))))))))) (fun h8=>
 (an (aN 4 (ac (au h8) (a1 a0)))
 (bE (q7.trans (cdT h7 (bf h8)))))))) (fun h7=>have q8:=q7.trans (cdF h7 rfl);have g7:=ne_of_beq_false h7;
 (aM (fun (h8:(g.op==5)=true)=>have q9:=q8.trans (cdT h8 rfl);have g8:=eq_of_beq h8;
 (aM (fun (h9:(zAZ g)=true)=>have l1:=aU gC (g.kids);have g9:=eq_of_beq h9;
 (aM (fun (h10:(eD (ae g.kids 0))=true)=>
 (an (cA (yg (ae g.kids 1)) (hf _ (ay oab)) (aN 2 (ac (iK g.kids 1) (aN 2 (ac h10 (cA (yg (ae g.kids 0)) (hf _ (ay oab)) (aN 2 (ac (iK g.kids 0) (aN 2 (ac h9 (aN 6 (cA (Fb g.op) (show g.op=5 by omega) a0))))))))))))
 (bE (show rm g=(eD (ae g.kids 1)) from (aD (au h0) (cdT h1 (aD (au h2) (cdF h3 (cdF h4 (cdF h5 (cdF h6 (cdF h7 (cdT h8 (aD h9 (aD h10 rfl))))))))))))))) (fun h10=>
 (an (aN 4 (ac (au h10) (cA (yg (ae g.kids 0)) (hf _ (ay oab)) (aN 2 (ac (iK g.kids 0) (aN 2 (ac h9 (aN 6 (cA (Fb g.op) (show g.op=5 by omega) a0)))))))))
 (bE (q9.trans (aD h9 (bf h10)))))))) (fun h9=>have l1:=aU gC (g.kids);have g9:=ne_of_beq_false h9;
 (an (aN 9 (ac (au h9) (aN 6 (cA (Fb g.op) (show g.op=5 by omega) a0))))
 (bE (q9.trans (bf h9))))))) (fun h8=>have q10:=q8.trans (cdF h8 rfl);have g8:=ne_of_beq_false h8;
 (aM (fun (h9:(g.op==6)=true)=>have q11:=q10.trans (cdT h9 rfl);have g9:=eq_of_beq h9;
 (aM (fun (h10:(zAZ g)=true)=>have l1:=aU gC (g.kids);have g10:=eq_of_beq h10;
 (aM (fun (h11:(eD (ae g.kids 0))=true)=>
 (an (cA (yg (ae g.kids 1)) (hf _ (ay oab)) (aN 2 (ac (iK g.kids 1) (aN 2 (ac h11 (cA (yg (ae g.kids 0)) (hf _ (ay oab)) (aN 2 (ac (iK g.kids 0) (aN 2 (ac h10 (aN 6 (cA (Fc g.op) (show g.op=6 by omega) a0))))))))))))
 (bE (show rm g=(eD (ae g.kids 1)) from (aD (au h0) (cdT h1 (aD (au h2) (cdF h3 (cdF h4 (cdF h5 (cdF h6 (cdF h7 (cdF h8 (cdT h9 (aD h10 (aD h11 rfl)))))))))))))))) (fun h11=>
 (an (aN 4 (ac (au h11) (cA (yg (ae g.kids 0)) (hf _ (ay oab)) (aN 2 (ac (iK g.kids 0) (aN 2 (ac h10 (aN 6 (cA (Fc g.op) (show g.op=6 by omega) a0)))))))))
 (bE (q11.trans (aD h10 (bf h11)))))))) (fun h10=>have l1:=aU gC (g.kids);have g10:=ne_of_beq_false h10;
 (an (aN 9 (ac (au h10) (aN 6 (cA (Fc g.op) (show g.op=6 by omega) a0))))
 (bE (q11.trans (bf h10))))))) (fun h9=>have q12:=q10.trans (cdF h9 rfl);have g9:=ne_of_beq_false h9;
 (aM (fun (h10:(g.op==7)=true)=>have q13:=q12.trans (aD h10 rfl);have g10:=eq_of_beq h10;
 (aM (fun (h11:(zAZ g)=true)=>have l1:=aU gC (g.kids);have g11:=eq_of_beq h11;
 (aM (fun (h12:(eD (ae g.kids 0))=true)=>
 (an (cA (yg (ae g.kids 1)) (hf _ (ay oab)) (aN 2 (ac (iK g.kids 1) (aN 2 (ac h12 (cA (yg (ae g.kids 0)) (hf _ (ay oab)) (aN 2 (ac (iK g.kids 0) (aN 2 (ac h11 (aN 6 (cA (Ff g.op) (show g.op=7 by omega) a0))))))))))))
 (bE (show rm g=(eD (ae g.kids 1)) from (aD (au h0) (cdT h1 (aD (au h2) (cdF h3 (cdF h4 (cdF h5 (cdF h6 (cdF h7 (cdF h8 (cdF h9 (aD h10 (aD h11 (aD h12 rfl))))))))))))))))) (fun h12=>
 (an (aN 4 (ac (au h12) (cA (yg (ae g.kids 0)) (hf _ (ay oab)) (aN 2 (ac (iK g.kids 0) (aN 2 (ac h11 (aN 6 (cA (Ff g.op) (show g.op=7 by omega) a0)))))))))
 (bE (q13.trans (aD h11 (bf h12)))))))) (fun h11=>have l1:=aU gC (g.kids);have g11:=ne_of_beq_false h11;
 (an (aN 9 (ac (au h11) (aN 6 (cA (Ff g.op) (show g.op=7 by omega) a0))))
 (bE (q13.trans (bf h11))))))) (fun h10=>have g10:=ne_of_beq_false h10;
 (an (aN 15 (cA (QK g.op) (show¬(5<=g.op/\g.op<=7)/\g.op<=127 by omega) a0))
 (bE (q12.trans (bf h10))))))))))))))))))))))))))))))) (fun h1=>have q2:=q0.trans (cdF h1 rfl);
 (an (aN 3 (ac (au h1) (aN 4 (ac (au h0) (a1 a0)))))
 (an a0
 (an a0
 (an (aN 3 (ac (au (show (g.op==0)=false by rw [fu h1];rfl)) (a1 a0)))
 (an (show (g.op==1)=false by rw [fu h1];rfl) (an (a1 a0)
 (an (show (g.op==8)=true by rw [fu h1];rfl) (aM (fun (h2:(zAM g)=true)=>
 (aM (fun (h3:(zBU g)=true)=>
 (an (aN 3 (ac h3 (aN 3 (ac h2 (a1 a0)))))
 (bE (show rm g=(zBM g) from (aD (au h0) (cdF h1 (aD h2 (aD h3 rfl)))))))) (fun h3=>
 (an (aN 2 (ac (au h3) (aN 3 (ac h2 (a1 a0)))))
 (bE (q2.trans (aD h2 (bf h3)))))))) (fun h2=>
 (an (aN 5 (ac (au h2) (a1 a0)))
 (bE (q2.trans (bf h2))))))))))))))))))
 oaa)
theorem nL {n:Nat} (k:Nat) (z:Int) (hz:z=(k:Int)):(((n:Nat):Int)==z)=(n==k):=by
 grind
theorem My {n:Nat}:decide (((n:Nat):Int)>=2)=decide (n>=2):=by grind
theorem VF (g:G):oZ g=cR g:=by
 obtain ⟨o,n,s,l⟩:=g
 simp only [oZ,cR,G.op,G.n,G.name,G.kids,List.length_map,nL 0 0 rfl,nL 1 1 rfl,nL 2 2 rfl,My,bne]
 generalize (n==0)=b
 generalize (l.length==0)=l0
 generalize (l.length==1)=l1
 generalize (l.length==2)=l2
 generalize decide (l.length>=2)=l3
 generalize jt l=c
 generalize (eD (ae l 0)&&eD (ae l 1))=r
 cases cG s.data.toList [] with
 |false=>rfl
 |true=>
  simp only [Bool.true_and]
  by_cases h0:o=0
  ·simp_all
  by_cases h1:o=1
  ·simp_all
  grind
theorem VG (l:List G):(l.length==1&&jt l)=(l.length==1&&cR (ae l 0)):=by
 match l with
 |[]=>rfl
 |[x]=>simp [jt,ae]
 |x::y::l=>simp
theorem QL (g:G):rm g=cR g:=by
 obtain ⟨o,n,s,l⟩:=g
 simp only [rm,cR,G.op,G.n,G.name,G.kids,List.length_map,nL 0 0 rfl,nL 1 1 rfl,nL 2 2 rfl,My,bne,VG]
 grind
theorem Io: ∀g:G,eG g->bg pg 105 [.ag (gCC g)] [] [] (B (cR g)) []:=G.H9 fun o n s l ih hf=>by
 have h:=Vz (.mk o n s l) hf.len hf.kids fun u hu=>ih u hu (hf.kids u hu)
 rw [VF] at h
 exact h
theorem Ip: ∀g:G,eG g->bg pg 100 [.ag (gCC g)] [] [] (B (cR g)) []:=G.H9 fun o n s l ih hf=>by
 have h:=VE (.mk o n s l) hf.len hf.kids hf.op.2 fun u hu=>ih u hu (hf.kids u hu)
 rw [QL] at h
 exact h
def QM (g:G):cc:=⟨105,[.ag (gCC g)],B (cR g),eG g⟩
theorem W2 (g:G):(QM g).b7 pg:=fun hp=>(by simp_all [Io,QM,ah,AV.pure])
def QN (g:G):cc:=⟨100,[.ag (gCC g)],B (cR g),eG g⟩
theorem W3 (g:G):(QN g).b7 pg:=fun hp=>(by simp_all [Ip,QN,ah,AV.pure])
def ic99 (g:G):cc:=⟨99,[.ag (gCC g)],I (cW g),eG g⟩
theorem gc99 (g:G):(ic99 g).b7 pg:=fun hp=>(by simp_all [Ke,ic99,ah,AV.pure])
def QO (g:G):cc:=⟨104,[.ag (gCC g)],I (cW g),eG g⟩
theorem QP (g:G):(QO g).b7 pg:=fun hp=>(by simp_all [Ii,QO,ah,AV.pure])
def r93 (g:G):Int:=(bif decide ((cW g)>64) then 40 else (bif !(cR g) then 40 else 0))
abbrev zBL:GT:=(.r [bT] (.a (.r [.int 0,.k,bF,bF,bF,bT] zF) (.r [.int 0,.k,bT,bT,.int 1,bT,bT] (.br zF zF))))
theorem VH (g:G) (hf:eG g):bg pg 93 [.ag (gCC g)] [] [] (I (r93 g)) []:=
 bD (fn:=Tryz.f93) (callf:=(bI [QO g,QM g] base)) (pu:=aK) (lf:=3000) (l:=[]) (t:=zBL) (bo (.cons (QP g) rfl (.cons (W2 g) rfl cr.nil)) aw) mixed Tryz.func93 oaa (show Tryz.f93.body=some (aH 93) by kernel_rfl) (Nat.le_of_ble_eq_true rfl) (az _) rfl (bc
 (an a0
 (aM (fun (h0:(decide ((cW g)>64))=true)=>
 (an (aN 2 (ac (n2 h0) (a1 (cA (QP g) hf a0))))
 (an a0
 (iE (show r93 g=40 from (cdT h0 rfl)))))) (fun h0=>
 (an (a1 (cA (W2 g) hf (a1 (ac (au h0) (a1 (cA (QP g) hf a0))))))
 (brP (fun (h1:(!(cR g))=true)=>
 (an a0
 (iE (show r93 g=40 from (cdF h0 (cdT h1 rfl)))))) (fun h1=>
 (an a0
 (iE (show r93 g=0 from (cdF h0 (cdF h1 rfl)))))))))))
 oaa)
def r81 (g:G):Int:=(bif decide ((cW g)>64) then 40 else (bif !(cR g) then 40 else 0))
theorem VI (g:G) (hf:eG g):bg pg 81 [.ag (gCC g)] [] [] (I (r81 g)) []:=
 bD (fn:=Tryz.f81) (callf:=(bI [ic99 g,QN g] base)) (pu:=aK) (lf:=3000) (l:=[]) (t:=zBL) (bo (.cons (gc99 g) rfl (.cons (W3 g) rfl cr.nil)) aw) mixed Tryz.func81 oaa (show Tryz.f81.body=some (aH 81) by kernel_rfl) (Nat.le_of_ble_eq_true rfl) (az _) rfl (bc
 (an a0
 (aM (fun (h0:(decide ((cW g)>64))=true)=>
 (an (aN 2 (ac (n2 h0) (a1 (cA (gc99 g) hf a0))))
 (an a0
 (iE (show r81 g=40 from (cdT h0 rfl)))))) (fun h0=>
 (an (a1 (cA (W3 g) hf (a1 (ac (au h0) (a1 (cA (gc99 g) hf a0))))))
 (brP (fun (h1:(!(cR g))=true)=>
 (an a0
 (iE (show r81 g=40 from (cdF h0 (cdT h1 rfl)))))) (fun h1=>
 (an a0
 (iE (show r81 g=0 from (cdF h0 (cdF h1 rfl)))))))))))
 oaa)
def i82 (g:G) (o:Int):cc:=⟨82,[.pf (gCC g),I8 o],B (dY o g),True⟩
theorem gd82 {g:G} {o:Int} (h:bg pg 82 [.pf (gCC g),I8 o] [] [] (B (dY o g)) []):(i82 g o).b7 pg:=fun _=>⟨h,by simp [i82,ah,AV.pure],rfl⟩
def r102 (g:G) (o:Int):Bool:=dY o g
theorem QQ (g:G) (o:Int) (hK:bg pg 82 [.pf (gCC g),I8 o] [] [] (B (dY o g)) []):bg pg 102 [.ag (gCC g),.pf [I8 o]] [] [] (B (r102 g o)) []:=
 bD (fn:=Tryz.f102) (callf:=(bI [i82 g o] base)) (pu:=aK) (lf:=3000) (l:=[]) (t:=zBw) (bo (.cons (gd82 hK) rfl cr.nil) aw) mixed Tryz.func102 oaa (show Tryz.f102.body=some (aH 102) by kernel_rfl) (Nat.le_of_ble_eq_true rfl) (az _) rfl (bc
 (an a0
 (an (cA (gd82 hK) trivial a0)
 (bE (show r102 g o=(dY o g) from rfl))))
 oaa)
def Mz (l:List G) (o:Int) (j:Nat):cc:=⟨102,[.ag (gCC (ae l j)),.pf [I8 o]],B (dY o (ae l j)),j<l.length⟩
theorem W4 (l:List G) (o:Int) (j:Nat) (hK: ∀u∈l,bg pg 82 [.pf (gCC u),I8 o] [] [] (B (dY o u)) []):(Mz l o j).b7 pg:=fun hp=>⟨QQ _ o (hK _ (ay hp)),by simp [Mz,ah,AV.pure],rfl⟩
def rn:Code:=bP 0 (aH 114)
def lJ (l:List G) (o:Int) (i0:Nat):Am.Loc:=[(0,.sl 4 (zCQ l)),(1,.fn (.func 102) [] [.pf [I8 o]]),(7,I (length (zCQ l):Int)),(8,I (i0:Int))]
def nM (l:List G) (o:Int) (i0:Nat):List Ob:=[]
def ig (l:List G) (o:Int) (i0:Nat):Bool:=(dY o (ae l i0))
def nN (l:List G) (o:Int):Bool:=cX (length l) (ig l o)
def yv (l:List G) (o:Int) (i0:Nat):Am.Loc:=[(4,I (i0:Int))]
def yw (l:List G) (o:Int) (i0:Nat):List Ob:=[]
def mL (l:List G) (o:Int):Am.Loc:=[]
def mM (l:List G) (o:Int):List Ob:=[]
def rp (l:List G) (o:Int):KB:=⟨lJ l o 0,nM l o 0,nN l o,.ret,yv l o (b4 (zCB l) (ig l o)),yw l o (b4 (zCB l) (ig l o)),.normal,mL l o,mM l o,True⟩
def nO (l:List G) (o:Int) (i0:Nat):List bG:=[htW (ig l o i0) .ret (yv l o i0) zb (yw l o i0),nxW (ig l o i0) (lJ l o (i0+1)) (nM l o (i0+1)) (lJ l o (i0+1)) zb (nM l o (i0+1))]
def MA (l:List G) (o:Int) (i0:Nat):GT:=(.r [.k,bT] (.yes (.r [bT] (.r [.row (gCC (ae l i0)),.int 0,bT] (.br (.r [bT] (.pick 0)) (.r [.int ↑(i0+1),bT] (.pick 1)))))))
theorem QR (l:List G) (o:Int) (i0:Nat) (ls:length l<=9223372036854775807) (hK: ∀u∈l,bg pg 82 [.pf (gCC u),I8 o] [] [] (B (dY o u)) []) (hx0:i0<(length l)):vcC pg 19 (bI [Mz l o i0] base) aK 3000 (kbL []) rn (bz (lJ l o i0)) (bw (nM l o i0)) 0 (bM (nO l o i0)) (MA l o i0):=
 have l1:=aU gC (l);have hb:(zBv i0 l)=true:=decide_eq_true oab;
 bc (an (a1 a0)
 (an hb (an a0
 (an (cA (W4 l o i0 hK) (show i0<length l by omega) (ac (iK l i0) a0))
 (brP (fun (h1:(dY o (ae l i0))=true)=>
 (an a0
 (lf (wy (nO l o i0) 0) 0 (show ig l o i0=true from h1)))) (fun h1=>
 (an (ac (dwo ((i0+1:Nat):Int)) a0)
 (lf (wy (nO l o i0) 1) 0 ⟨(show ig l o i0=false from h1),rfl,rfl⟩))))))))
 oaa
theorem QS (l:List G) (o:Int) (ls:length l<=9223372036854775807) (hK: ∀u∈l,bg pg 82 [.pf (gCC u),I8 o] [] [] (B (dY o u)) []):vcC pg 19 base aK 3000 (kbL []) rn (bz (lJ l o (zCB l))) (bw (nM l o (zCB l))) 0 (bM [⟨True,(.exit 0),mL l o,range 0,mM l o⟩]) zG:=
 have l1:=aU gC (l);have hb:(zBC l)=false:=decide_eq_false oab;
 bc (an (a1 a0)
 (an hb (lf (wy [⟨True,(.exit 0),mL l o,range 0,mM l o⟩] 0) 0 trivial)))
 oaa
theorem Kf (l:List G) (o:Int) (i0:Nat):(nO l o i0).all zj=true:=(aF oan (aF (aR rfl rfl rfl (by simp_all [nxW,lJ,plS,AV.pure,ah]) rfl) bC))
theorem Kg (l:List G) (o:Int):bG.cS 0 ⟨True,(.exit 0),mL l o,range 0,mM l o⟩=true:=(aR rfl rfl rfl rfl rfl)
theorem Kh (l:List G) (o:Int) (ls:length l<=9223372036854775807) (hK: ∀u∈l,bg pg 82 [.pf (gCC u),I8 o] [] [] (B (dY o u)) []):cQ pg 19 0 0 (.loop rn) (rp l o):=
 bW (fun _=>eB (id:=0) (m:=length l) (t:=ig l o) (xr:= .ret) (xn:=(.exit 0)) (Lr:=yv l o) (Lx:=mL l o) (obr:=yw l o) (obx:=mM l o) (V:=fun i0=>vcC pg 19 (bI [Mz l o i0] base) aK 3000 (kbL []) rn) (lJ l o) (nM l o) 0 (nO l o) (MA l o) _ _ (fun i0 hx0=>aL (bo (.cons (W4 l o i0 hK) rfl cr.nil) aw) mixed (az _)) (aL aw mixed (az _)) (fun e=>by cases e) (fun e=>by cases e) (fun _=>rfl) (fun i0 hx0=>QR l o i0 ls hK hx0) (fun i0 _=>Kf l o i0) (fun i0 _=>show∀ww∈nO l o i0,cm _ _ _ _ _ _ ww from (aC cT (aC bU bB))) (QS l o ls hK) (Kg l o)) (fun h=>h) (fun h=>h)
def uw (l:List G) (o:Int):Int:=(bif nN l o then (((b4 (length l) (ig l o)):Nat):Int) else (-1))
theorem o5:dp [0] (aH 114)=[(0,.loop rn)]:=by kernel_rfl
theorem MB (l:List G) (o:Int) (ls:length l<=9223372036854775807) (hK: ∀u∈l,bg pg 82 [.pf (gCC u),I8 o] [] [] (B (dY o u)) []):bg pg 114 [.sl 4 (zCQ l),.fn (.func 102) [] [.pf [I8 o]]] [] [] (I (uw l o)) []:=
 bD (fn:=Tryz.f114) (callf:=base) (pu:=aK) (lf:=3000) (l:=[(0,rp l o)]) (t:=zh) aw mixed Tryz.func114 oaa (show Tryz.f114.body=some (aH 114) by kernel_rfl) (Nat.le_of_ble_eq_true rfl) (bK (l:=[(0,rp l o)]) o5 (aT (Kh l o ls hK) rfl bj) rfl) rfl (bc
 (an a0
 (an a0
 (an (kbT (rp l o) trivial) (brP (fun (h0:(nN l o)=true)=>
 (iE (show uw l o=(((b4 (length l) (ig l o)):Nat):Int) from (cdT h0 rfl)))) (fun h0=>
 (an a0
 (iE (show uw l o=(-1) from (cdF h0 rfl)))))))))
 oaa)
def QT (l:List G) (o:Int):cc:=⟨114,[.sl 4 (l.map gC),.fn (.func 102) [] [.pf [I8 o]]],I (uw l o),True⟩
theorem QU {l:List G} {o:Int} (h:bg pg 114 [.sl 4 (l.map gC),.fn (.func 102) [] [.pf [I8 o]]] [] [] (I (uw l o)) []):(QT l o).b7 pg:=fun _=>(by simp_all [QT,ah,AV.pure])
def MC (l:List G) (o:Int):Bool:=decide ((uw l o)>=0)
theorem Fg (l:List G) (o:Int) (ls:length l<=9223372036854775807) (hK: ∀u∈l,bg pg 82 [.pf (gCC u),I8 o] [] [] (B (dY o u)) []):bg pg 101 [.sl 4 (zCQ l),.fn (.func 102) [] [.pf [I8 o]]] [] [] (B (MC l o)) []:=
 bD (fn:=Tryz.f101) (callf:=(bI [QT l o] base)) (pu:=aK) (lf:=3000) (l:=[]) (t:=zBK) (bo (.cons (QU (MB l o ls hK)) rfl cr.nil) aw) mixed Tryz.func101 oaa (show Tryz.f101.body=some (aH 101) by kernel_rfl) (Nat.le_of_ble_eq_true rfl) (az _) rfl (bc
 (an a0
 (an (a1 (cA (QU (MB l o ls hK)) trivial a0))
 (bE (show MC l o=(decide ((uw l o)>=0)) from rfl))))
 oaa)
theorem QV (l:List G) (o:Int):MC l o=j7 o l:=by
 have h2:nN l o=l.any (dY o):=je (dY o) l
 grind [MC,uw,ye]
def MD (l:List G) (o:Int):cc:=⟨101,[.sl 4 (l.map gC),.fn (.func 102) [] [.pf [I8 o]]],B (j7 o l),True⟩
theorem Fh {l:List G} {o:Int} (ls:l.length<=9223372036854775807) (hK: ∀u∈l,bg pg 82 [.pf (gCC u),I8 o] [] [] (B (dY o u)) []):(MD l o).b7 pg:=fun _=>⟨by have:=Fg l o ls hK;rw [QV] at this;exact this,by simp [MD,ah,AV.pure],rfl⟩
def r82 (g:G) (o:Int):Bool:=((g.op==o)||j7 o g.kids)
abbrev zBg:GT:=(.r [bT] (.a (.r zf .nil) (.r (.k::uTT 6 [.int 0,bT]) .nil)))
theorem VJ (g:G) (o:Int) (ls:length g.kids<=9223372036854775807) (hK: ∀u∈G.kids g,bg pg 82 [.pf (gCC u),I8 o] [] [] (B (dY o u)) []):bg pg 82 [.pf (gCC g),I8 o] [] [] (B (r82 g o)) []:=
 bD (fn:=Tryz.f82) (callf:=(bI [MD g.kids o] base)) (pu:=aK) (lf:=3000) (l:=[]) (t:=zBg) (bo (.cons (Fh ls hK) rfl cr.nil) aw) mixed Tryz.func82 oaa (show Tryz.f82.body=some (aH 82) by kernel_rfl) (Nat.le_of_ble_eq_true rfl) (az _) rfl (bc
 (an a0
 (aM (fun (h0:(g.op==o)=true)=>
 (an (aN 5 (ac (n2 h0) (a1 a0)))
 (bE (show r82 g o=true from (orT h0))))) (fun h0=>
 (an (cA (Fh ls hK) trivial (aN 5 (ac (au h0) (a1 a0))))
 (bE (show r82 g o=(j7 o g.kids) from (orF h0 rfl)))))))
 oaa)
theorem ux (o:Int): ∀g:G,eG g->bg pg 82 [.pf (gCC g),I8 o] [] [] (B (dY o g)) []:=G.H9 fun o' n s l ih hf=>by
 have h:=VJ (.mk o' n s l) o hf.len fun u hu=>ih u hu (hf.kids u hu)
 have e:r82 (.mk o' n s l) o=dY o (.mk o' n s l):=by simp only [r82,dY];rfl
 rw [<-e];exact h
def r67 (n:Net) (s r:Int):Bool:=((decide (s>=0))&&((decide (s<(length (map ak n.aa):Int)))&&(aq n.aa s).aI==r))
theorem of67 (n:Net) (s r:Int):bg pg 67 [.ag (aW n),I s,I r] [] [] (B (r67 n s r)) []:=
 bD (fn:=Tryz.f67) (callf:=base) (pu:=aK) (lf:=3000) (l:=[]) (t:=(.r [bT] (.a (.a (.r (.k::uTT 5 (.k::uTT 4 (.cd (s).toNat (ak (aq n.aa s))::uTT 4 [.k,bT]))) .nil) (.r (.k::uTT 5 (.k::uFF 8 [bT])) .nil)) (.r (.k::uFF 13 [bT]) .nil)))) aw mixed Tryz.func67 oaa (show Tryz.f67.body=some (aH 67) by kernel_rfl) (Nat.le_of_ble_eq_true rfl) (az _) rfl (bc
 (an a0
 (aM (fun (h0:(decide (s>=0))=true)=>have g0:=of_decide_eq_true h0;
 (aM (fun (h1:(decide (s<(length (map ak n.aa):Int)))=true)=>have l1:=aU ak (n.aa);have g1:=of_decide_eq_true h1;
 (an (aN 5 (ac (rwz ak n.aa s) (aN 3 (ac h1 (aN 5 (ac h0 (a1 a0)))))))
 (bE (show r67 n s r=((aq n.aa s).aI==r) from (aD h0 (aD h1 rfl)))))) (fun h1=>
 (an (aN 7 (ac (au h1) (aN 5 (ac h0 (a1 a0)))))
 (bE (show r67 n s r=false from (aD h0 (bf h1)))))))) (fun h0=>
 (an (aN 12 (ac (au h0) (a1 a0)))
 (bE (show r67 n s r=false from (bf h0)))))))
 oaa)
def r62 (n:Net) (s r:Int):Bool:=((decide (s>=0))&&((decide (s<(length (map ak n.aa):Int)))&&(aq n.aa s).aI==r))
theorem of62 (n:Net) (s r:Int):bg pg 62 [.pf (aW n),I s,I r] [] [] (B (r62 n s r)) []:=
 bD (fn:=Tryz.f62) (callf:=base) (pu:=aK) (lf:=3000) (l:=[]) (t:=(.r [bT] (.a (.a (.r (.k::uTT 7 (.k::uTT 6 (.cd (s).toNat (ak (aq n.aa s))::uTT 4 [.k,bT]))) .nil) (.r (.k::uTT 7 (.k::uFF 10 [bT])) .nil)) (.r (.k::uFF 17 [bT]) .nil)))) aw mixed Tryz.func62 oaa (show Tryz.f62.body=some (aH 62) by kernel_rfl) (Nat.le_of_ble_eq_true rfl) (az _) rfl (bc
 (an a0
 (aM (fun (h0:(decide (s>=0))=true)=>have g0:=of_decide_eq_true h0;
 (aM (fun (h1:(decide (s<(length (map ak n.aa):Int)))=true)=>have l1:=aU ak (n.aa);have g1:=of_decide_eq_true h1;
 (an (aN 5 (ac (rwz ak n.aa s) (aN 5 (ac h1 (aN 7 (ac h0 (a1 a0)))))))
 (bE (show r62 n s r=((aq n.aa s).aI==r) from (aD h0 (aD h1 rfl)))))) (fun h1=>
 (an (aN 9 (ac (au h1) (aN 7 (ac h0 (a1 a0)))))
 (bE (show r62 n s r=false from (aD h0 (bf h1)))))))) (fun h0=>
 (an (aN 16 (ac (au h0) (a1 a0)))
 (bE (show r62 n s r=false from (bf h0)))))))
 oaa)
def r92 (g:G):Bool:=((g.op==0)&&((g.n==0)&&((cG (Array.toList (ByteArray.data g.name)) [])&&(length (map gC g.kids):Int)==0)))
abbrev zBx:GT:=(.r (.k::bT::bT::bT::.k::uFF 7 [bT]) .nil)
theorem Yb (g:G):bg pg 92 [.ag (gCC g)] [] [] (B (r92 g)) []:=
 bD (fn:=Tryz.f92) (callf:=base) (pu:=aK) (lf:=3000) (l:=[]) (t:=(.r [bT] (.a (.a (.a (.r (.k::bT::bT::bT::.k::bT::bT::bT::.k::uTT 4 [.k,bT]) .nil) (.r (.k::bT::bT::bT::.k::bT::bT::bT::.k::uFF 4 [bT]) .nil)) zBx) (.r zAv .nil)))) aw mixed Tryz.func92 oaa (show Tryz.f92.body=some (aH 92) by kernel_rfl) (Nat.le_of_ble_eq_true rfl) (az _) rfl (bc
 (an a0
 (aM (fun (h0:(g.op==0)=true)=>
 (aM (fun (h1:(g.n==0)=true)=>
 (aM (fun (h2:(cG (Array.toList (ByteArray.data g.name)) [])=true)=>
 (an (aN 4 (ac h2 (aN 3 (ac h1 (aN 3 (ac h0 (a1 a0)))))))
 (bE (show r92 g=(zAM g) from (aD h0 (aD h1 (aD h2 rfl))))))) (fun h2=>
 (an (aN 3 (ac (au h2) (aN 3 (ac h1 (aN 3 (ac h0 (a1 a0)))))))
 (bE (show r92 g=false from (aD h0 (aD h1 (bf h2))))))))) (fun h1=>
 (an (aN 6 (ac (au h1) (aN 3 (ac h0 (a1 a0)))))
 (bE (show r92 g=false from (aD h0 (bf h1)))))))) (fun h0=>
 (an (aN 9 (ac (au h0) (a1 a0)))
 (bE (show r92 g=false from (bf h0)))))))
 oaa)
def r95 (n:Net) (a:Int×Int):Bool:=(bif (a).1==2 then ((decide ((a).2>=1))&&decide ((a).2<=(length (map bH n.types):Int))) else (bif (a).1==3 then ((decide ((a).2>=0))&&decide ((a).2<(length (map bH n.cu):Int))) else (bif (a).1==4 then ((decide ((a).2>=0))&&decide ((a).2<(length (map bH n.cz):Int))) else (bif (a).1==5 then ((decide ((a).2>=0))&&decide ((a).2<(length (map bH n.cz):Int))) else (bif (a).1==0 then (a).2==0 else (bif (a).1==1 then (a).2==0 else (((a).1==6)&&(a).2==0)))))))
abbrev zAI:GT:=(.a (.r (.k::uTT 6 [.k,bT]) .nil) (.r zf .nil))
abbrev zBF (a:Int×Int) (n:Net):=(decide ((a).2<(length (map bH n.cz):Int)))
abbrev zCM (a:Int×Int):=(decide ((a).2>=0))
theorem act95 (n:Net) (a:Int×Int):bg pg 95 [.ag (aW n),.ag (fk a)] [] [] (B (r95 n a)) []:=
 bD (fn:=Tryz.f95) (callf:=base) (pu:=aK) (lf:=3000) (l:=[]) (t:=(.r [bT] (.r [.k,bT] (.br zAI (.r [.k,bT] (.br zAI (.a (.r zAS zAI) (.r zAC (.br zAI (.a (.r (.k::uFF 6 [bT,bT,bT,.k,bT]) .nil) (.a (.r [.k,bT,bT,bT,.k,bF,bF,bF,bT,bT,bT,.k,bT] .nil) (.a (.r [.k,bT,bT,bT,.k,bT,bT,bT,.k,bT,bT,bT,.k,bT] .nil) (.r [.k,bT,bT,bT,.k,bT,bT,bT,.k,bF,bF,bF,bT] .nil))))))))))))) aw mixed Tryz.func95 oaa (show Tryz.f95.body=some (aH 95) by kernel_rfl) (Nat.le_of_ble_eq_true rfl) (az _) rfl (bc
 (an a0
 (an (a1 a0)
 (brP (fun (h0:((a).1==2)=true)=>
 (aM (fun (h1:(decide ((a).2>=1))=true)=>
 (an (aN 6 (ac h1 (a1 a0)))
 (bE (show r95 n a=(decide ((a).2<=(length (map bH n.types):Int))) from (cdT h0 (aD h1 rfl)))))) (fun h1=>
 (an (aN 5 (ac (au h1) (a1 a0)))
 (bE (show r95 n a=false from (cdT h0 (bf h1)))))))) (fun h0=>have q0:=(cdF h0 rfl:r95 n a=_);
 (an (a1 a0)
 (brP (fun (h1:((a).1==3)=true)=>
 (aM (fun (h2:(zCM a)=true)=>
 (an (aN 6 (ac h2 (a1 a0)))
 (bE (show r95 n a=(decide ((a).2<(length (map bH n.cu):Int))) from (cdF h0 (cdT h1 (aD h2 rfl))))))) (fun h2=>
 (an (aN 5 (ac (au h2) (a1 a0)))
 (bE (q0.trans (cdT h1 (bf h2)))))))) (fun h1=>have q1:=q0.trans (cdF h1 rfl);
 (aM (fun (h2:((a).1==4)=true)=>
 (an (aN 2 (ac (n2 h2) (a1 a0)))
 (aM (fun (h3:(zCM a)=true)=>
 (an (aN 6 (ac h3 (a1 a0)))
 (bE (show r95 n a=(zBF a n) from (cdF h0 (cdF h1 (cdT h2 (aD h3 rfl)))))))) (fun h3=>
 (an (aN 5 (ac (au h3) (a1 a0)))
 (bE (q1.trans (cdT h2 (bf h3))))))))) (fun h2=>have q2:=q1.trans (cdF h2 rfl);
 (an (aN 3 (ac (au h2) (a1 a0)))
 (brP (fun (h3:((a).1==5)=true)=>
 (aM (fun (h4:(zCM a)=true)=>
 (an (aN 6 (ac h4 (a1 a0)))
 (bE (show r95 n a=(zBF a n) from (cdF h0 (cdF h1 (cdF h2 (cdT h3 (aD h4 rfl))))))))) (fun h4=>
 (an (aN 5 (ac (au h4) (a1 a0)))
 (bE (q2.trans (cdT h3 (bf h4)))))))) (fun h3=>
 (aM (fun (h4:((a).1==0)=true)=>
 (an (aN 9 (ac (n2 h4) (a1 a0)))
 (bE (show r95 n a=((a).2==0) from (cdF h0 (cdF h1 (cdF h2 (cdF h3 (cdT h4 rfl))))))))) (fun h4=>
 (aM (fun (h5:((a).1==1)=true)=>
 (an (aN 6 (ac (n2 h5) (aN 3 (ac (au h4) (a1 a0)))))
 (bE (show r95 n a=((a).2==0) from (cdF h0 (cdF h1 (cdF h2 (cdF h3 (cdF h4 (cdT h5 rfl)))))))))) (fun h5=>
 (aM (fun (h6:((a).1==6)=true)=>
 (an (aN 3 (ac h6 (aN 3 (ac (au h5) (aN 3 (ac (au h4) (a1 a0)))))))
 (bE (show r95 n a=((a).2==0) from (cdF h0 (cdF h1 (cdF h2 (cdF h3 (cdF h4 (cdF h5 (aD h6 rfl))))))))))) (fun h6=>
 (an (aN 2 (ac (au h6) (aN 3 (ac (au h5) (aN 3 (ac (au h4) (a1 a0)))))))
 (bE (q2.trans (cdF h3 (cdF h4 (cdF h5 (bf h6)))))))))))))))))))))))))
 oaa)
def r89 (n:Net) (a:Int×Int):Bool:=(bif (a).1==2 then ((decide ((a).2>=1))&&decide ((a).2<=(length (map bH n.types):Int))) else (bif (a).1==3 then ((decide ((a).2>=0))&&decide ((a).2<(length (map bH n.cu):Int))) else (bif (a).1==4 then ((decide ((a).2>=0))&&decide ((a).2<(length (map bH n.cz):Int))) else (bif (a).1==5 then ((decide ((a).2>=0))&&decide ((a).2<(length (map bH n.cz):Int))) else (bif (a).1==0 then (a).2==0 else (bif (a).1==1 then (a).2==0 else (((a).1==6)&&(a).2==0)))))))
abbrev zw:GT:=(.a (.r (.k::uTT 8 [.k,bT]) .nil) (.r zBo .nil))
theorem act89 (n:Net) (a:Int×Int):bg pg 89 [.pf (aW n),.ag (fk a)] [] [] (B (r89 n a)) []:=
 bD (fn:=Tryz.f89) (callf:=base) (pu:=aK) (lf:=3000) (l:=[]) (t:=(.r [bT] (.r [bT] (.r [.k,bT] (.br zw (.r [.k,bT] (.br zw (.r [.k,bT] (.br zw (.r [.k,bT] (.br zw (.r [.k,bT] (.br zBP (.r [.k,bT] (.br zBP (.r [.k,bT] (.br zBP zF))))))))))))))))) aw mixed Tryz.func89 oaa (show Tryz.f89.body=some (aH 89) by kernel_rfl) (Nat.le_of_ble_eq_true rfl) (az _) rfl (bc
 (an a0
 (an a0
 (an (a1 a0)
 (brP (fun (h0:((a).1==2)=true)=>
 (aM (fun (h1:(decide ((a).2>=1))=true)=>
 (an (aN 8 (ac h1 (a1 a0)))
 (bE (show r89 n a=(decide ((a).2<=(length (map bH n.types):Int))) from (cdT h0 (aD h1 rfl)))))) (fun h1=>
 (an (aN 7 (ac (au h1) (a1 a0)))
 (bE (show r89 n a=false from (cdT h0 (bf h1)))))))) (fun h0=>have q0:=(cdF h0 rfl:r89 n a=_);
 (an (a1 a0)
 (brP (fun (h1:((a).1==3)=true)=>
 (aM (fun (h2:(zCM a)=true)=>
 (an (aN 8 (ac h2 (a1 a0)))
 (bE (show r89 n a=(decide ((a).2<(length (map bH n.cu):Int))) from (cdF h0 (cdT h1 (aD h2 rfl))))))) (fun h2=>
 (an (aN 7 (ac (au h2) (a1 a0)))
 (bE (q0.trans (cdT h1 (bf h2)))))))) (fun h1=>have q1:=q0.trans (cdF h1 rfl);
 (an (a1 a0)
 (brP (fun (h2:((a).1==4)=true)=>
 (aM (fun (h3:(zCM a)=true)=>
 (an (aN 8 (ac h3 (a1 a0)))
 (bE (show r89 n a=(zBF a n) from (cdF h0 (cdF h1 (cdT h2 (aD h3 rfl)))))))) (fun h3=>
 (an (aN 7 (ac (au h3) (a1 a0)))
 (bE (q1.trans (cdT h2 (bf h3)))))))) (fun h2=>have q2:=q1.trans (cdF h2 rfl);
 (an (a1 a0)
 (brP (fun (h3:((a).1==5)=true)=>
 (aM (fun (h4:(zCM a)=true)=>
 (an (aN 8 (ac h4 (a1 a0)))
 (bE (show r89 n a=(zBF a n) from (cdF h0 (cdF h1 (cdF h2 (cdT h3 (aD h4 rfl))))))))) (fun h4=>
 (an (aN 7 (ac (au h4) (a1 a0)))
 (bE (q2.trans (cdT h3 (bf h4)))))))) (fun h3=>
 (an (a1 a0)
 (brP (fun (h4:((a).1==0)=true)=>
 (an (a1 a0)
 (bE (show r89 n a=((a).2==0) from (cdF h0 (cdF h1 (cdF h2 (cdF h3 (cdT h4 rfl))))))))) (fun h4=>
 (an (a1 a0)
 (brP (fun (h5:((a).1==1)=true)=>
 (an (a1 a0)
 (bE (show r89 n a=((a).2==0) from (cdF h0 (cdF h1 (cdF h2 (cdF h3 (cdF h4 (cdT h5 rfl)))))))))) (fun h5=>
 (an (a1 a0)
 (brP (fun (h6:((a).1==6)=true)=>
 (an (a1 a0)
 (bE (show r89 n a=((a).2==0) from (cdF h0 (cdF h1 (cdF h2 (cdF h3 (cdF h4 (cdF h5 (aD h6 rfl))))))))))) (fun h6=>
 (an a0
 (bE (q2.trans (cdF h3 (cdF h4 (cdF h5 (bf h6))))))))))))))))))))))))))))))
 oaa)
def Iq:Code:=bP 0 (aH 64)
def yx (s:List (Int×Int)) (i0:Nat):Am.Loc:=[(0,.sl 2 (map bu s)),(5,.sl 2 (map bu s)),(6,I (length (map bu s):Int)),(7,I (i0:Int))]
def Dc (s:List (Int×Int)) (i0:Nat):List Ob:=[]
def mN (s:List (Int×Int)) (i0:Nat):Bool:=((decide ((((ae s i0)).1)>(((ae s i0)).2)))||((decide ((i0:Int)>0))&&(decide ((IntKind.wrap IntKind.i64 (((ae s i0)).1))<=(IntKind.wrap IntKind.i64 (IntKind.wrap IntKind.i64 (((ae s (i0-1))).2)+1))))))
def wm (s:List (Int×Int)):Bool:=cX (length s) (mN s)
def Ki (s:List (Int×Int)) (i0:Nat):Am.Loc:=[(2,I 2)]
def Kj (s:List (Int×Int)) (i0:Nat):List Ob:=[]
def yy (s:List (Int×Int)):Am.Loc:=[]
def yz (s:List (Int×Int)):List Ob:=[]
def Fi (s:List (Int×Int)):KB:=⟨yx s 0,Dc s 0,wm s,.ret,Ki s (b4 (length s) (mN s)),Kj s (b4 (length s) (mN s)),.normal,yy s,yz s,True⟩
def uy (s:List (Int×Int)) (i0:Nat):List bG:=[htW (mN s i0) .ret (Ki s i0) zb (Kj s i0),nxW (mN s i0) (yx s (i0+1)) (Dc s (i0+1)) (yx s (i0+1)) zb (Dc s (i0+1))]
def W5 (s:List (Int×Int)) (i0:Nat):GT:=(.r [.k,bT] (.yes (.r [.row (bu (ae s i0)),bT] (.a (.r (.k::uFF 16 [bT]) (.r [bT] (.pick 0))) (.a (.r (.k::bT::bT::.k::uTT 7 (.int ((i0-1:Nat):Int)::bT::.row (bu (ae s (i0-1)))::uTT 4 [.int (IntKind.wrap IntKind.i64 (IntKind.wrap IntKind.i64 (((ae s (i0-1))).2)+1)),bT,.k,bT,bT])) (.br (.r [bT] (.pick 0)) (.r [.int ↑(i0+1),bT] (.pick 1)))) (.r (.k::bT::bT::.k::bT::uFF 12 [bT,bT]) (.r [.int ↑(i0+1),bT] (.pick 1))))))))
theorem Yc (s:List (Int×Int)) (i0:Nat) (ls:length s<=9223372036854775807) (hx0:i0<(length s)):vcC pg 36 base aK 3000 (kbL []) Iq (bz (yx s i0)) (bw (Dc s i0)) 0 (bM (uy s i0)) (W5 s i0):=
 have l1:=aU bu (s);have hb:(decide ((i0:Int)<(length (map bu s):Int)))=true:=decide_eq_true oab;
 bc (an (a1 a0)
 (an hb (an (ac (rwa bu s i0) a0)
 (aM (fun (h1:(decide ((((ae s i0)).1)>(((ae s i0)).2)))=true)=>
 (an (aN 15 (ac (n2 h1) (a1 a0)))
 (an a0
 (lf (wy (uy s i0) 0) 1 (show mN s i0=true from (orT h1)))))) (fun h1=>have q0:=(orF h1 rfl:mN s i0=_);have g1:=of_decide_eq_false h1;
 (aM (fun (h2:(decide ((i0:Int)>0))=true)=>have q1:=q0.trans (aD h2 rfl);have g2:=of_decide_eq_true h2;
 (an (aN 3 (ac (eV (IntKind.wrap IntKind.i64 (IntKind.wrap IntKind.i64 (((ae s (i0-1))).2)+1))) (aN 4 (ac (rwa bu s (i0-1)) (a1 (ac (dso i0) (aN 5 (ac h2 (aN 3 (ac (au h1) (a1 a0)))))))))))
 (brP (fun (h3:(decide ((IntKind.wrap IntKind.i64 (((ae s i0)).1))<=(IntKind.wrap IntKind.i64 (IntKind.wrap IntKind.i64 (((ae s (i0-1))).2)+1))))=true)=>
 (an a0
 (lf (wy (uy s i0) 0) 1 (q1.trans h3)))) (fun h3=>have g3:=of_decide_eq_false h3;
 (an (ac (dwo ((i0+1:Nat):Int)) a0)
 (lf (wy (uy s i0) 1) 1 ⟨(q1.trans h3),rfl,rfl⟩)))))) (fun h2=>have g2:=of_decide_eq_false h2;
 (an (aN 12 (ac (au h2) (aN 3 (ac (au h1) (a1 a0)))))
 (an (ac (dwo ((i0+1:Nat):Int)) a0)
 (lf (wy (uy s i0) 1) 1 ⟨(q0.trans (bf h2)),rfl,rfl⟩))))))))))
 oaa
abbrev zCN (s:List (Int×Int)):=(decide ((((length s):Nat):Int)<(length (map bu s):Int)))
theorem Yd (s:List (Int×Int)) (ls:length s<=9223372036854775807):vcC pg 36 base aK 3000 (kbL []) Iq (bz (yx s (length s))) (bw (Dc s (length s))) 0 (bM [⟨True,(.exit 0),yy s,range 0,yz s⟩]) zG:=
 have l1:=aU bu (s);have hb:(zCN s)=false:=decide_eq_false oab;
 bc (an (a1 a0)
 (an hb (lf (wy [⟨True,(.exit 0),yy s,range 0,yz s⟩] 0) 0 trivial)))
 oaa
theorem QW (s:List (Int×Int)) (i0:Nat):(uy s i0).all zj=true:=(aF oan (aF (aR rfl rfl rfl (by simp_all [nxW,yx,plS,AV.pure]) rfl) bC))
theorem QX (s:List (Int×Int)):bG.cS 0 ⟨True,(.exit 0),yy s,range 0,yz s⟩=true:=(aR rfl rfl rfl rfl rfl)
theorem QY (s:List (Int×Int)) (ls:length s<=9223372036854775807):cQ pg 36 0 0 (.loop Iq) (Fi s):=
 bW (fun _=>eB (id:=0) (m:=length s) (t:=mN s) (xr:= .ret) (xn:=(.exit 0)) (Lr:=Ki s) (Lx:=yy s) (obr:=Kj s) (obx:=yz s) (V:=fun i0=>vcC pg 36 base aK 3000 (kbL []) Iq) (yx s) (Dc s) 0 (uy s) (W5 s) _ _ oaq (aL aw mixed (az _)) (fun e=>by cases e) (fun e=>by cases e) (fun _=>rfl) (fun i0 hx0=>Yc s i0 ls hx0) (fun i0 _=>QW s i0) (fun i0 _=>show∀ww∈uy s i0,cm _ _ _ _ _ _ ww from (aC cT (aC bU bB))) (Yd s ls) (QX s)) (fun h=>h) (fun h=>h)
def r64 (s:List (Int×Int)):Int:=(bif wm s then 2 else 0)
theorem vu:dp [0] (aH 64)=[(0,.loop Iq)]:=by kernel_rfl
theorem Ye (s:List (Int×Int)) (ls:length s<=9223372036854775807):bg pg 64 [.sl 2 (map bu s)] [] [] (I (r64 s)) []:=
 bD (fn:=Tryz.f64) (callf:=base) (pu:=aK) (lf:=3000) (l:=[(0,Fi s)]) (t:=zh) aw mixed Tryz.func64 oaa (show Tryz.f64.body=some (aH 64) by kernel_rfl) (Nat.le_of_ble_eq_true rfl) (bK (l:=[(0,Fi s)]) vu (aT (QY s ls) rfl bj) rfl) rfl (bc
 (an a0
 (an a0
 (an (kbT (Fi s) trivial) (brP (fun (h0:(wm s)=true)=>
 (iE (show r64 s=2 from (cdT h0 rfl)))) (fun h0=>
 (an a0
 (iE (show r64 s=0 from (cdF h0 rfl)))))))))
 oaa)
def Ir:Code:=bP 0 (aH 91)
def yA (s:List (Int×Int)) (i0:Nat):Am.Loc:=[(0,.sl 2 (map bu s)),(3,I (i0:Int))]
def Dd (s:List (Int×Int)) (i0:Nat):List Ob:=[]
def mO (s:List (Int×Int)) (i0:Nat):Bool:=((decide ((((ae s i0)).1)>(((ae s i0)).2)))||((decide ((i0:Int)>0))&&(decide ((IntKind.wrap IntKind.i64 (((ae s i0)).1))<(IntKind.wrap IntKind.i64 (IntKind.wrap IntKind.i64 (((ae s (i0-1))).2)+2))))))
def rq (s:List (Int×Int)):Bool:=cX (length s) (mO s)
def Kk (s:List (Int×Int)) (i0:Nat):Am.Loc:=[(2,I 2)]
def Kl (s:List (Int×Int)) (i0:Nat):List Ob:=[]
def yB (s:List (Int×Int)):Am.Loc:=[]
def yC (s:List (Int×Int)):List Ob:=[]
def Fj (s:List (Int×Int)):KB:=⟨yA s 0,Dd s 0,rq s,.ret,Kk s (b4 (length s) (mO s)),Kl s (b4 (length s) (mO s)),.normal,yB s,yC s,True⟩
def uz (s:List (Int×Int)) (i0:Nat):List bG:=[htW (mO s i0) .ret (Kk s i0) zb (Kl s i0),nxW (mO s i0) (yA s (i0+1)) (Dd s (i0+1)) (yA s (i0+1)) zb (Dd s (i0+1))]
def W6 (s:List (Int×Int)) (i0:Nat):GT:=(.r [.k,bT] (.yes (.a (.r (.row (bu (ae s i0))::.row (bu (ae s i0))::.k::uFF 19 [bT]) (.r [bT] (.pick 0))) (.a (.r (.row (bu (ae s i0))::.row (bu (ae s i0))::.k::bT::bT::.k::uTT 4 (.row (bu (ae s i0))::uTT 6 (.int ((i0-1:Nat):Int)::bT::.row (bu (ae s (i0-1)))::uTT 4 [.int (IntKind.wrap IntKind.i64 (IntKind.wrap IntKind.i64 (((ae s (i0-1))).2)+2)),bT,.k,bT,bT]))) (.br (.r [bT] (.pick 0)) (.r [.int ↑(i0+1),bT] (.pick 1)))) (.r (.row (bu (ae s i0))::.row (bu (ae s i0))::.k::bT::bT::.k::bT::uFF 15 [bT,bT]) (.r [.int ↑(i0+1),bT] (.pick 1)))))))
theorem Yf (s:List (Int×Int)) (i0:Nat) (ls:length s<=9223372036854775807) (hx0:i0<(length s)):vcC pg 42 base aK 3000 (kbL []) Ir (bz (yA s i0)) (bw (Dd s i0)) 0 (bM (uz s i0)) (W6 s i0):=
 have l1:=aU bu (s);have hb:(decide ((i0:Int)<(length (map bu s):Int)))=true:=decide_eq_true oab;
 bc (an (a1 a0)
 (an hb (aM (fun (h1:(decide ((((ae s i0)).1)>(((ae s i0)).2)))=true)=>have g1:=of_decide_eq_true h1;
 (an (aN 18 (ac (n2 h1) (a1 (ac (rwa bu s i0) (ac (rwa bu s i0) a0)))))
 (an a0
 (lf (wy (uz s i0) 0) 0 (show mO s i0=true from (orT h1)))))) (fun h1=>have q0:=(orF h1 rfl:mO s i0=_);have g1:=of_decide_eq_false h1;
 (aM (fun (h2:(decide ((i0:Int)>0))=true)=>have q1:=q0.trans (aD h2 rfl);have g2:=of_decide_eq_true h2;
 (an (aN 3 (ac (eV (IntKind.wrap IntKind.i64 (IntKind.wrap IntKind.i64 (((ae s (i0-1))).2)+2))) (aN 4 (ac (rwa bu s (i0-1)) (a1 (ac (dso i0) (aN 6 (ac (rwa bu s i0) (aN 2 (ac h2 (aN 3 (ac (au h1) (a1 (ac (rwa bu s i0) (ac (rwa bu s i0) a0)))))))))))))))
 (brP (fun (h3:(decide ((IntKind.wrap IntKind.i64 (((ae s i0)).1))<(IntKind.wrap IntKind.i64 (IntKind.wrap IntKind.i64 (((ae s (i0-1))).2)+2))))=true)=>
 (an a0
 (lf (wy (uz s i0) 0) 0 (q1.trans h3)))) (fun h3=>have g3:=of_decide_eq_false h3;
 (an (ac (dwo ((i0+1:Nat):Int)) a0)
 (lf (wy (uz s i0) 1) 0 ⟨(q1.trans h3),rfl,rfl⟩)))))) (fun h2=>have g2:=of_decide_eq_false h2;
 (an (aN 15 (ac (au h2) (aN 3 (ac (au h1) (a1 (ac (rwa bu s i0) (ac (rwa bu s i0) a0)))))))
 (an (ac (dwo ((i0+1:Nat):Int)) a0)
 (lf (wy (uz s i0) 1) 0 ⟨(q0.trans (bf h2)),rfl,rfl⟩)))))))))
 oaa
theorem Yg (s:List (Int×Int)) (ls:length s<=9223372036854775807):vcC pg 42 base aK 3000 (kbL []) Ir (bz (yA s (length s))) (bw (Dd s (length s))) 0 (bM [⟨True,(.exit 0),yB s,range 0,yC s⟩]) zG:=
 have l1:=aU bu (s);have hb:(zCN s)=false:=decide_eq_false oab;
 bc (an (a1 a0)
 (an hb (lf (wy [⟨True,(.exit 0),yB s,range 0,yC s⟩] 0) 0 trivial)))
 oaa
theorem QZ (s:List (Int×Int)) (i0:Nat):(uz s i0).all zj=true:=(aF oan (aF (aR rfl rfl rfl (by simp_all [nxW,yA,plS,AV.pure]) rfl) bC))
theorem Q0 (s:List (Int×Int)):bG.cS 0 ⟨True,(.exit 0),yB s,range 0,yC s⟩=true:=(aR rfl rfl rfl rfl rfl)
theorem Q1 (s:List (Int×Int)) (ls:length s<=9223372036854775807):cQ pg 42 0 0 (.loop Ir) (Fj s):=
 bW (fun _=>eB (id:=0) (m:=length s) (t:=mO s) (xr:= .ret) (xn:=(.exit 0)) (Lr:=Kk s) (Lx:=yB s) (obr:=Kl s) (obx:=yC s) (V:=fun i0=>vcC pg 42 base aK 3000 (kbL []) Ir) (yA s) (Dd s) 0 (uz s) (W6 s) _ _ oaq (aL aw mixed (az _)) (fun e=>by cases e) (fun e=>by cases e) (fun _=>rfl) (fun i0 hx0=>Yf s i0 ls hx0) (fun i0 _=>QZ s i0) (fun i0 _=>show∀ww∈uz s i0,cm _ _ _ _ _ _ ww from (aC cT (aC bU bB))) (Yg s ls) (Q0 s)) (fun h=>h) (fun h=>h)
def r91 (s:List (Int×Int)):Int:=(bif rq s then 2 else 0)
theorem vv:dp [0] (aH 91)=[(0,.loop Ir)]:=by kernel_rfl
theorem Yh (s:List (Int×Int)) (ls:length s<=9223372036854775807):bg pg 91 [.sl 2 (map bu s)] [] [] (I (r91 s)) []:=
 bD (fn:=Tryz.f91) (callf:=base) (pu:=aK) (lf:=3000) (l:=[(0,Fj s)]) (t:=zh) aw mixed Tryz.func91 oaa (show Tryz.f91.body=some (aH 91) by kernel_rfl) (Nat.le_of_ble_eq_true rfl) (bK (l:=[(0,Fj s)]) vv (aT (Q1 s ls) rfl bj) rfl) rfl (bc
 (an a0
 (an a0
 (an (kbT (Fj s) trivial) (brP (fun (h0:(rq s)=true)=>
 (iE (show r91 s=2 from (cdT h0 rfl)))) (fun h0=>
 (an a0
 (iE (show r91 s=0 from (cdF h0 rfl)))))))))
 oaa)
def yD:Code:=bP 0 (aH 66)
def Is:Code:=bP 2 yD
abbrev zBp (l:List ByteArray):=(map bH l)
def yE (l:List ByteArray) (first:Bool) (i0 i2:Nat):Am.Loc:=[(0,.sl 1 (zBp l)),(1,B first),(5,I (i0:Int)),(6,I (i2:Int))]
def De (l:List ByteArray) (first:Bool) (i0 i2:Nat):List Ob:=[]
def rr (l:List ByteArray) (first:Bool) (i0 i2:Nat):Bool:=(cG (Array.toList (ByteArray.data (ae l i2))) (Array.toList (ByteArray.data (ae l i0))))
def lK (l:List ByteArray) (first:Bool) (i0:Nat):Bool:=cX (i0) (rr l first i0)
def Km (l:List ByteArray) (first:Bool) (i0 i2:Nat):Am.Loc:=[(4,B false)]
def Kn (l:List ByteArray) (first:Bool) (i0 i2:Nat):List Ob:=[]
def s6 (l:List ByteArray) (first:Bool) (i0:Nat):Am.Loc:=[(0,.sl 1 (zBp l)),(1,B first),(5,I (i0:Int))]
def yF (l:List ByteArray) (first:Bool) (i0:Nat):List Ob:=[]
def s7 (l:List ByteArray) (first:Bool) (i0:Nat):KB:=⟨yE l first i0 0,De l first i0 0,lK l first i0,.ret,Km l first i0 (b4 (i0) (rr l first i0)),Kn l first i0 (b4 (i0) (rr l first i0)),.normal,s6 l first i0,yF l first i0,True⟩
def Df (l:List ByteArray) (first:Bool) (i0 i2:Nat):List bG:=[htW (rr l first i0 i2) .ret (Km l first i0 i2) zb (Kn l first i0 i2),nxW (rr l first i0 i2) (yE l first i0 (i2+1)) (De l first i0 (i2+1)) (yE l first i0 (i2+1)) zb (De l first i0 (i2+1))]
def W7 (l:List ByteArray) (first:Bool) (i0 i2:Nat):GT:=(.r [.k,bT] (.yes (.r [.row (bH (ae l i2)),.row (bH (ae l i0)),.k,bT] (.br (.r [bT] (.pick 0)) (.r [.int ↑(i2+1),bT] (.pick 1))))))
theorem Yi (l:List ByteArray) (first:Bool) (i0 i2:Nat) (ls:length l<=9223372036854775807) (hx0:i0<(length l)) (hx2:i2<i0):vcC pg 50 base aK 3000 (kbL []) Is (bz (yE l first i0 i2)) (bw (De l first i0 i2)) 0 (bM (Df l first i0 i2)) (W7 l first i0 i2):=
 have hb:(decide ((i2:Int)<(i0:Int)))=true:=decide_eq_true oab;
 bc (an (a1 a0)
 (an hb (an (a1 (ac (rwa bH l i0) (ac (rwa bH l i2) a0)))
 (brP (fun (h1:(cG (Array.toList (ByteArray.data (ae l i2))) (Array.toList (ByteArray.data (ae l i0))))=true)=>
 (an a0
 (lf (wy (Df l first i0 i2) 0) 0 (show rr l first i0 i2=true from h1)))) (fun h1=>
 (an (ac (dwo ((i2+1:Nat):Int)) a0)
 (lf (wy (Df l first i0 i2) 1) 0 ⟨(show rr l first i0 i2=false from h1),rfl,rfl⟩)))))))
 oaa
theorem Yj (l:List ByteArray) (first:Bool) (i0:Nat) (ls:length l<=9223372036854775807) (hx0:i0<(length l)):vcC pg 50 base aK 3000 (kbL []) Is (bz (yE l first i0 i0)) (bw (De l first i0 i0)) 0 (bM [⟨True,(.exit 2),s6 l first i0,range 0,yF l first i0⟩]) zG:=
 have hb:(decide ((i0:Int)<(i0:Int)))=false:=decide_eq_false oab;
 bc (an (a1 a0)
 (an hb (lf (wy [⟨True,(.exit 2),s6 l first i0,range 0,yF l first i0⟩] 0) 0 trivial)))
 oaa
theorem Q2 (l:List ByteArray) (first:Bool) (i0 i2:Nat):(Df l first i0 i2).all zj=true:=(aF oan (aF (aR rfl rfl rfl (by simp_all [nxW,yE,plS,AV.pure]) rfl) bC))
theorem Q3 (l:List ByteArray) (first:Bool) (i0:Nat):bG.cS 0 ⟨True,(.exit 2),s6 l first i0,range 0,yF l first i0⟩=true:=(aR rfl rfl rfl (by simp_all [s6,plS,AV.pure]) rfl)
theorem Q4 (l:List ByteArray) (first:Bool) (i0:Nat) (ls:length l<=9223372036854775807) (hx0:i0<(length l)):cQ pg 50 0 2 (.loop Is) (s7 l first i0):=
 bW (fun _=>eB (id:=2) (m:=i0) (t:=rr l first i0) (xr:= .ret) (xn:=(.exit 2)) (Lr:=Km l first i0) (Lx:=s6 l first i0) (obr:=Kn l first i0) (obx:=yF l first i0) (V:=fun i2=>vcC pg 50 base aK 3000 (kbL []) Is) (yE l first i0) (De l first i0) 0 (Df l first i0) (W7 l first i0) _ _ oaq (aL aw mixed (az _)) (fun e=>by cases e) (fun e=>by cases e) (fun _=>rfl) (fun i2 hx2=>Yi l first i0 i2 ls hx0 hx2) (fun i2 _=>Q2 l first i0 i2) (fun i2 _=>show∀ww∈Df l first i0 i2,cm _ _ _ _ _ _ ww from (aC cT (aC bU bB))) (Yj l first i0 ls hx0) (Q3 l first i0)) (fun h=>h) (fun h=>h)
def yG (l:List ByteArray) (first:Bool) (i0:Nat):Am.Loc:=[(0,.sl 1 (zBp l)),(1,B first),(5,I (i0:Int))]
def Dg (l:List ByteArray) (first:Bool) (i0:Nat):List Ob:=[]
def kK (l:List ByteArray) (first:Bool) (i0:Nat):Bool:=(bif first then (bif (i0:Int)==0 then (!(cG (Array.toList (ByteArray.data (ae l 0))) [])) else ((decide ((ByteArray.size (ae l i0):Int)<1))||((decide ((ByteArray.size (ae l i0):Int)>40))||(lK l first i0)))) else ((decide ((ByteArray.size (ae l i0):Int)<1))||((decide ((ByteArray.size (ae l i0):Int)>40))||(lK l first i0))))
def ru (l:List ByteArray) (first:Bool):Bool:=cX (length l) (kK l first)
def Ko (l:List ByteArray) (first:Bool) (i0:Nat):Am.Loc:=[(4,B false)]
def Kp (l:List ByteArray) (first:Bool) (i0:Nat):List Ob:=[]
def yH (l:List ByteArray) (first:Bool):Am.Loc:=[]
def yI (l:List ByteArray) (first:Bool):List Ob:=[]
def Fk (l:List ByteArray) (first:Bool):KB:=⟨yG l first 0,Dg l first 0,ru l first,.ret,Ko l first (b4 (length l) (kK l first)),Kp l first (b4 (length l) (kK l first)),.normal,yH l first,yI l first,True⟩
def jR (l:List ByteArray) (first:Bool) (i0:Nat):List bG:=[htW (kK l first i0) .ret (Ko l first i0) zb (Kp l first i0),nxW (kK l first i0) (yG l first (i0+1)) (Dg l first (i0+1)) (yG l first (i0+1)) zb (Dg l first (i0+1))]
def W8 (l:List ByteArray) (first:Bool) (i0:Nat):GT:=(.r [.k,bT] (.yes (.a (.r [bT,bT,.k,bT] (.br (.r [.row (bH (ae l 0)),.k,bT] (.br (.r [bT] (.pick 0)) (.r [.int ↑(i0+1),bT] (.pick 1)))) (.a (.r (.row (bH (ae l i0))::.k::uFF 6 [bT]) (.r [bT] (.pick 0))) (.r [.row (bH (ae l i0)),.k,bT,bT,bT,.row (bH (ae l i0)),bT,bT,bT,.k,bT] (.br (.r [bT] (.pick 0)) (.r [bT] (.br (.pick 0) (.r [.int ↑(i0+1),bT] (.pick 1))))))))) (.r [bF,bF,bT] (.a (.r (.row (bH (ae l i0))::.k::uFF 6 [bT]) (.r [bT] (.pick 0))) (.r [.row (bH (ae l i0)),.k,bT,bT,bT,.row (bH (ae l i0)),bT,bT,bT,.k,bT] (.br (.r [bT] (.pick 0)) (.r [bT] (.br (.pick 0) (.r [.int ↑(i0+1),bT] (.pick 1)))))))))))
theorem Yk (l:List ByteArray) (first:Bool) (i0:Nat) (ls:length l<=9223372036854775807) (hx0:i0<(length l)):vcC pg 50 base aK 3000 (kbL [(2,s7 l first i0)]) yD (bz (yG l first i0)) (bw (Dg l first i0)) 0 (bM (jR l first i0)) (W8 l first i0):=
 have l1:=aU bH (l);have hb:(decide ((i0:Int)<(length (map bH l):Int)))=true:=decide_eq_true oab;
 bc (an (a1 a0)
 (an hb (aM (fun (h1:(first)=true)=>have q0:=(cdT h1 rfl:kK l first i0=_);
 (an (aN 2 (ac h1 a0))
 (brP (fun (h2:((i0:Int)==0)=true)=>have q2:=q0.trans (cdT h2 rfl);have g2:=eq_of_beq h2;
 (an (a1 (ac (rwa bH l 0) a0))
 (brP (fun (h3:(!(cG (Array.toList (ByteArray.data (ae l 0))) []))=true)=>
 (an a0
 (lf (wy (jR l first i0) 0) 0 (q2.trans h3)))) (fun h3=>
 (an (ac (dwo ((i0+1:Nat):Int)) a0)
 (lf (wy (jR l first i0) 1) 0 ⟨(q2.trans h3),rfl,rfl⟩)))))) (fun h2=>have q3:=q0.trans (cdF h2 rfl);have g2:=ne_of_beq_false h2;
 (aM (fun (h3:(decide ((ByteArray.size (ae l i0):Int)<1))=true)=>have g3:=of_decide_eq_true h3;
 (an (aN 5 (ac (n2 h3) (a1 (ac (rwa bH l i0) a0))))
 (an a0
 (lf (wy (jR l first i0) 0) 0 (q3.trans (orT h3)))))) (fun h3=>have q5:=q3.trans (orF h3 rfl);have g3:=of_decide_eq_false h3;
 (an (aN 4 (ac (rwa bH l i0) (aN 2 (ac (au h3) (a1 (ac (rwa bH l i0) a0))))))
 (brP (fun (h4:(decide ((ByteArray.size (ae l i0):Int)>40))=true)=>
 (an a0
 (lf (wy (jR l first i0) 0) 0 (q5.trans (orT h4))))) (fun h4=>have q7:=q5.trans (orF h4 rfl);have g4:=of_decide_eq_false h4;
 (an a0
 (an (kbT (s7 l first i0) trivial) (brP (fun (h5:(lK l first i0)=true)=>
 (lf (wy (jR l first i0) 0) 0 (q7.trans h5))) (fun h5=>
 (an (ac (dwo ((i0+1:Nat):Int)) a0)
 (lf (wy (jR l first i0) 1) 0 ⟨(q7.trans h5),rfl,rfl⟩))))))))))))))) (fun h1=>have q1:=(cdF h1 rfl:kK l first i0=_);
 (an (a1 (ac (au h1) a0))
 (aM (fun (h2:(decide ((ByteArray.size (ae l i0):Int)<1))=true)=>have g2:=of_decide_eq_true h2;
 (an (aN 5 (ac (n2 h2) (a1 (ac (rwa bH l i0) a0))))
 (an a0
 (lf (wy (jR l first i0) 0) 0 (q1.trans (orT h2)))))) (fun h2=>have q4:=q1.trans (orF h2 rfl);have g2:=of_decide_eq_false h2;
 (an (aN 4 (ac (rwa bH l i0) (aN 2 (ac (au h2) (a1 (ac (rwa bH l i0) a0))))))
 (brP (fun (h3:(decide ((ByteArray.size (ae l i0):Int)>40))=true)=>
 (an a0
 (lf (wy (jR l first i0) 0) 0 (q4.trans (orT h3))))) (fun h3=>have q6:=q4.trans (orF h3 rfl);have g3:=of_decide_eq_false h3;
 (an a0
 (an (kbT (s7 l first i0) trivial) (brP (fun (h4:(lK l first i0)=true)=>
 (lf (wy (jR l first i0) 0) 0 (q6.trans h4))) (fun h4=>
 (an (ac (dwo ((i0+1:Nat):Int)) a0)
 (lf (wy (jR l first i0) 1) 0 ⟨(q6.trans h4),rfl,rfl⟩))))))))))))))))
 oaa
abbrev zCO (l:List ByteArray):=(decide ((((length l):Nat):Int)<(length (map bH l):Int)))
theorem Yl (l:List ByteArray) (first:Bool) (ls:length l<=9223372036854775807):vcC pg 50 base aK 3000 (kbL []) yD (bz (yG l first (length l))) (bw (Dg l first (length l))) 0 (bM [⟨True,(.exit 0),yH l first,range 0,yI l first⟩]) zG:=
 have l1:=aU bH (l);have hb:(zCO l)=false:=decide_eq_false oab;
 bc (an (a1 a0)
 (an hb (lf (wy [⟨True,(.exit 0),yH l first,range 0,yI l first⟩] 0) 0 trivial)))
 oaa
theorem Q5 (l:List ByteArray) (first:Bool) (i0:Nat):(jR l first i0).all zj=true:=(aF oan (aF (aR rfl rfl rfl (by simp_all [nxW,yG,plS,AV.pure]) rfl) bC))
theorem Q6 (l:List ByteArray) (first:Bool):bG.cS 0 ⟨True,(.exit 0),yH l first,range 0,yI l first⟩=true:=(aR rfl rfl rfl rfl rfl)
theorem Fl:dp [2] yD=[(2,.loop Is)]:=by kernel_rfl
theorem Q7 (l:List ByteArray) (first:Bool) (ls:length l<=9223372036854775807):cQ pg 50 0 0 (.loop yD) (Fk l first):=
 bW (fun _=>eB (id:=0) (m:=length l) (t:=kK l first) (xr:= .ret) (xn:=(.exit 0)) (Lr:=Ko l first) (Lx:=yH l first) (obr:=Kp l first) (obx:=yI l first) (V:=fun i0=>vcC pg 50 base aK 3000 (kbL [(2,s7 l first i0)]) yD) (yG l first) (Dg l first) 0 (jR l first) (W8 l first) _ _ (fun i0 hx0=>aL aw mixed (bK (l:=[(2,s7 l first i0)]) Fl (aT (Q4 l first i0 ls hx0) rfl bj) rfl)) (aL aw mixed (az _)) (fun e=>by cases e) (fun e=>by cases e) (fun _=>rfl) (fun i0 hx0=>Yk l first i0 ls hx0) (fun i0 _=>Q5 l first i0) (fun i0 _=>show∀ww∈jR l first i0,cm _ _ _ _ _ _ ww from (aC cT (aC bU bB))) (Yl l first ls) (Q6 l first)) (fun h=>h) (fun h=>h)
def r66 (l:List ByteArray) (first:Bool):Bool:=(!(ru l first))
theorem vw:dp [0] (aH 66)=[(0,.loop yD)]:=by kernel_rfl
theorem VL (l:List ByteArray) (first:Bool) (ls:length l<=9223372036854775807):bg pg 66 [.sl 1 (zBp l),B first] [] [] (B (r66 l first)) []:=
 bD (fn:=Tryz.f66) (callf:=base) (pu:=aK) (lf:=3000) (l:=[(0,Fk l first)]) (t:=zh) aw mixed Tryz.func66 oaa (show Tryz.f66.body=some (aH 66) by kernel_rfl) (Nat.le_of_ble_eq_true rfl) (bK (l:=[(0,Fk l first)]) vw (aT (Q7 l first ls) rfl bj) rfl) rfl (bc
 (an a0
 (an a0
 (an (kbT (Fk l first) trivial) (brP (fun (h0:(ru l first)=true)=>
 (bE (show r66 l first=false from (cq h0)))) (fun h0=>
 (an a0
 (bE (show r66 l first=true from (au h0)))))))))
 oaa)
end Go.Proofs.YtfkjfjalecikkaaGreatDoor
end
