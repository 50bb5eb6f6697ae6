/- An abstract machine, part U: what the program runs is so: trees, regions, code. An abstract machine, part W: what the program runs is so: regions, code, functions, deferred functions. An abstract machine, part Y: what the program runs is so: functions, deferred functions. An abstract machine, part Z: pieces of code, run by the evaluator from a state that is written out to another; loops over such states. An abstract machine, part Fz: an object becomes memory that is never written again; calls told by other values; calls that make objects, known ahead. An abstract machine, part Lp: a function that is one loop between what goes ahead and what is behind, by runs of its pieces. An abstract machine, part Sl: a call that is handed one live variable and reads it: from a run, from the same call on memory; known ahead. An abstract machine, part Fa: all objects that a call made become memory that is never written again. An abstract machine, part St: functions that are handed live objects, by runs of pieces; a call lifted to whatever objects there are. An abstract machine, part Ex: calls known on one store alone; functions that are handed live objects and are one loop. An abstract machine, part Pc: functions by pieces: a state told anew, loops that are left by a return, what is left of a function from a state on. strings.Join (the shelf's layings, in plain words), as a call that is known. An abstract machine, part Ns: ROWS OF ROWS THAT ARE ALL LIVE ('g[i] = append(g[i], x)'): however many. An abstract machine, part Au: what auto.py's theorems lean on. Nets as the machine sees them. An abstract machine, part Kb: KNOWN BLOCKS: code in which some blocks (loops within loops) are told by what they do to a state that is written out. -/
import Derived.Scope
import Derived.Recover
import Derived.RangeFuncIn
import Derived.RangeFuncRecord
import Derived.Shelf.Strings.OnBuilder
import Derived.Test.YtfkjfjalecikkaaGreatDoorRows
import Derived.Test.YtfkjfjalecikkaaGreatDoorDB
set_option linter.defProp false
open Go.IntKind (wrap)
noncomputable section
open List (length map range replicate)
namespace Go.Am
section
variable{α:Type}
theorem gH(v:Option α)(l r:Tri α)(t:Nat):(Tri.n v l r).get t=cond (Nat.beq t 0) v (cond (Nat.beq (t%2) 0) (l.get<|t/2)<|r.get<|t/2):=rfl
theorem jF(t:Nat):(Tri.e:Tri α).get t=none:=rfl
theorem Cs(av:α)(t:Nat):Tri.new av 0 t= .n (some av) .e .e:=rfl
theorem Ct(av:α)(k t:Nat):Tri.new av (k+1) t=cond (Nat.beq t 0) (.n (some av) .e .e) (cond (Nat.beq (t%2) 0) (.n none (Tri.new av k<|t/2) .e)<|.n none .e<|Tri.new av k<|t/2):=rfl
theorem Nf(av:α)(t:Nat):Tri.set av .e t=Tri.new av t t:=rfl
theorem Ng(av:α)(v:Option α)(l r:Tri α)(t:Nat):Tri.set av (.n v l r) t=cond (Nat.beq t 0) (.n (some av) l r) (cond (Nat.beq (t%2) 0) (.n v (Tri.set av l<|t/2) r)<|.n v l<|Tri.set av r<|t/2):=rfl
theorem beq_eq(a b:Nat):Nat.beq a b=decide (a=b):=by grind[afJ,agE]
theorem tV(av:α): ∀(k t s:Nat),t<=k->(Tri.new av k t).get s=if t=s then some av else none
 |0,t,s,h=>by grind[Cs,gH,beq_eq,jF]
 |k+1,t,s,h=>by
  rw[Ct,beq_eq,beq_eq];by_cases ht:t=0
  ·grind[gH,beq_eq,jF]
  ·have ih:=tV av k (t/2) (s/2) oaa;grind[gH,beq_eq,jF]
theorem cn(av:α): ∀(m:Tri α)(t s:Nat),(Tri.set av m t).get s=if t=s then some av else m.get s
 | .e,t,s=>by grind[Nf,tV,jF]
 | .n v l r,t,s=>by
  rw[Ng,beq_eq,beq_eq];by_cases ht:t=0
  ·grind[gH,beq_eq]
  ·simp only[ht,decide_false,afY];by_cases hp:t%2=0
   ·simp only[hp,decide_true,afN];rw[gH,gH,beq_eq,beq_eq,cn av l (t/2) (s/2)];grind
   ·simp only[hp,decide_false,afY];rw[gH,gH,beq_eq,beq_eq,cn av r (t/2) (s/2)];grind
end
theorem sF: ∀(l:lXE)(k:Nat)(O:Tri Ob),(∀i,k<=i->O.get i=none)-> ∀i,(wU k l O).get i=if i<k then O.get i else l[i-k]?
 |[],k,O,h,i=>by grind[wU]
 |X::l,k,O,h,i=>by rw[wU,sF l (k+1) (O.set X k) (by grind[cn]) i,cn];grind
def cm(M:Tri AV)(L:Loc):Prop:= ∀t,M.get t=lk L t
def bK(O:Tri Ob)(N:Nat)(ob:lXE):Prop:=ob.length=N/\ ∀i,O.get i=ob[i]?
theorem bK.nil:bK .e 0 []:=⟨rfl,λi=>by simp[jF]⟩
theorem bK.fun{O:Tri Ob}{N:Nat}{ob:lXE}(h:bK O N ob):O.get=λi=>ob[i]? :=funext h.2
def bK.uniq{O:Tri Ob}{N:Nat}{ob ob':lXE}(h:bK O N ob)(k:bK O N ob'):ob=ob':=by apply af8;intro i;rw[<-h.2,<-k.2]
theorem cm.tev{M:Tri AV}{L:Loc}(h:cm M L):tev M=aX L:=by
 funext x;cases x with
 |tmp t=>exact h t
 |const v=>cases v<;>rfl
 |global g=>rfl
 |func f=>rfl
def cm.up{M:Tri AV}{L:Loc}(h:cm M L)(d:Option Nat)(av:AV):cm (upT M av d) (cN L d av []):=by
 intro t;unfold upT cN vZ;cases d with
 |none=>exact h t
 |some d=>simp only;rw[cn,cH,h]
def bK.app{O:Tri Ob}{N:Nat}{ob:lXE}(h:bK O N ob)(d:Dl):bK (ez O N d) (appN N d) (d.app ob):=by
 obtain⟨rfl,h2⟩:=h;have hset: ∀k X,bK (cond (Nat.blt k ob.length) (O.set X k) O) ob.length (ob.set k X):=by
  intro k X;refine⟨by simp,λi=> ?_⟩;cases hb:Nat.blt k ob.length with
  |true=>
   have hk:k<ob.length:=by simp[Nat.blt]at hb;omega
   simp only[afN];rw[cn,List.getElem?_set,h2];by_cases e:k=i
   ·subst e;simp[hk]
   ·simp[e]
  |false=>
   have hk: ¬k<ob.length:=λhk=>by have:Nat.blt k ob.length=true:=agt hk;rw[hb]at this;cases this
   simp only[afY];rw[h2,List.set_eq_of_length_le oaa]
 have hpush: ∀(O:Tri Ob)(l:lXE)(X:Ob),bK O l.length l->bK (O.set X l.length) (l.length+1) (l++ [X]):=by
  rintro O l X ⟨_,g⟩;refine⟨by simp,λi=> ?_⟩;rw[cn,g];by_cases e:l.length=i
  ·subst e;simp
  ·rw[if_neg e];by_cases hi:i<l.length
   ·rw[afO hi]
   ·rw[agb oaa,af5 oaa];rw[af5 oau]
 cases d with
 |cV=>exact⟨rfl,h2⟩
 |set k X=>exact hset k X
 |push X=>exact hpush O ob X ⟨rfl,h2⟩
 |wP k X=>have h3:=hset k .dead;have h4:=hpush _ (ob.set k .dead) X (by rw[af3];exact h3);rw[af3]at h4;exact h4
def Nh: ∀(l:lXE)(O:Tri Ob)(N:Nat)(ob:lXE),bK O N ob->bK (wU N l O) (N+l.length) (ob++l):=by intro l O N ob h;obtain⟨rfl,h2⟩:=h;refine⟨by simp,λi=> ?_⟩;rw[sF l ob.length O oaq i,h2];grind
theorem cm.nil:cm .e []:=λ_t=>rfl
def AK: ∀(args:lXF)(k:Nat)(M:Tri AV)(L:Loc),cm M L->(∀t,k<=t->lk L t=none)-> ∃L',cm (mq k args M) L'/\ ∀t,lk L' t=if t<k then lk L t else lk (fJ k args) t
 |[],k,M,L,h,hk=>⟨L,h,λt=>by
  by_cases e:t<k
  ·rw[if_pos e]
  ·rw[if_neg e,hk t oaa];rfl⟩
 |av::r,k,M,L,h,hk=>by obtain⟨L',h1,h2⟩:=AK r (k+1) (M.set av k) ((k,av)::L) (λt=>by rw[cn,cH,h]) (by grind[cH]);refine⟨L',h1,λt=> ?_⟩;grind[fJ,cH]
def fw(args:lXF):cm (mq 0 args .e) (fJ 0 args):=by obtain⟨L',h1,h2⟩:=AK args 0 .e [] cm.nil (λt _=>rfl);intro t;rw[h1 t,h2 t,if_neg oaa]
section
variable{P:Program}{n:Nat}{ops:Array Oper}
theorem AL{L gu:Loc}{o:Oper}{ob:lXE}{out:Out}(H:Steps P n ops L gu o ob out):Sub (gu++cg out.2.2.2) L/\(∀d,o.dst=some d->d<n)/\tJ P ops o ⟨o.dst,gu++cg out.2.2.2,out.1,[],out.2.1⟩ ob (out.2.2.1.app ob):=by
 obtain⟨recs,L2,ob2,hev,rfl,rfl⟩:=H (l:=[]) (kf:=λrecs _ ob2=>recs=[⟨o.dst,gu++cg out.2.2.2,out.1,[],out.2.1⟩]/\ob2=out.2.2.1.app ob) (n7 ⟨rfl,rfl⟩);cases hev with
 |cons hus hdst hn hst h=>
  cases h with
  |nil=>exact⟨hus,hn,hst⟩
theorem ot{L:Loc}{o:Oper}{ob ob':lXE}{rc:Rec}(H: ∀kf:List Rec->Loc->lXE->Prop,EvK P n ops [] (upd L rc) ob' (λrecs=>kf (rc::recs))->EvK P n ops [o] L ob kf):Sub rc.us L/\rc.dst=o.dst/\(∀d,o.dst=some d->d<n)/\tJ P ops o rc ob ob':=by
 obtain⟨recs,L2,ob2,hev,h1,h2⟩:=H (λrecs _ ob2=>recs=[rc]/\ob2=ob') (n7 ⟨rfl,rfl⟩);subst h1;subst h2;cases hev with
 |cons hus hdst hn hst h=>
  cases h with
  |nil=>exact⟨hus,hdst,hn,hst⟩
theorem E7{L gu:Loc}{o:Oper}{ob:lXE}(hg:Gx ops L o.guard gu)(hn: ∀d,o.dst=some d->d<n):Sub gu L/\tJ P ops o ⟨o.dst,gu,.v undef,[],.pure⟩ ob ob:=by
 obtain⟨recs,L2,ob2,hev,rfl,rfl⟩:=ZI (P:=P) (l:=[]) (ob:=ob) (kf:=λrecs _ ob2=>recs=[⟨o.dst,gu,.v undef,[],.pure⟩]/\ob2=ob) hg hn (n7 ⟨rfl,rfl⟩);cases hev with
 |cons hus hdst hn hst h=>
  cases h with
  |nil=>exact⟨hus,hst⟩
end
section
variable{l:List Oper}{M:Tri AV}{L gu:Loc}
theorem xe(hM:cm M L){g:Option (Nat×Bool)}(h:gdE l M g= .ok true gu):Gd l.toArray L g gu:=by
 unfold gdE at h;split at h
 ·simp only[GR.ok.injEq,true_and]at h;subst h;exact .none
 ·rename_i j want;split at h
  ·rename_i q hq;split at h
   ·rename_i t ht;rw[hM t]at h;split at h
    ·rename_i b hb;simp only[GR.ok.injEq]at h;obtain⟨h1,rfl⟩:=h;have e:b=want:=by cases b<;>cases want<;>simp_all
     subst e;exact .some (by simp[hq,ht]) hb
    ·simp at h
    ·cases h
   ·cases h
  ·cases h
theorem AM(hM:cm M L){g:Option (Nat×Bool)}(h:gdE l M g= .ok false gu):Gx l.toArray L g gu:=by
 unfold gdE at h;split at h
 ·simp at h
 ·rename_i j want;split at h
  ·rename_i q hq;split at h
   ·rename_i t ht;rw[hM t]at h;split at h
    ·rename_i b hb;simp only[GR.ok.injEq]at h;obtain⟨h1,rfl⟩:=h;exact .some (by simp[hq,ht]) hb (by cases b<;>cases want<;>simp_all)
    ·rename_i hb;simp only[GR.ok.injEq,true_and]at h;subst h;exact .und (by simp[hq,ht]) hb
    ·cases h
   ·cases h
  ·cases h
end
def AN{n:Nat}{d:Option Nat}(h:Cj n d=true): ∀e,d=some e->e<n:=by rintro e rfl;simp[Cj,Nat.blt]at h;omega
def jj{t:TM}{k i:Nat}(h:tb (t.low k).lo i=false):tb t.lo i=false/\tb k i=false:=by have h':tb (Nat.lor t.lo k) i=false:=h;grind[lY]
def kp{a b:TM}{i:Nat}(h:tb (a.meet b).lo i=false):tb a.lo i=false/\tb b.lo i=false:=by have h':tb (Nat.lor a.lo b.lo) i=false:=h;grind[lY]
def ac6{t N i:Nat}(h:Nat.beq (Nat.mod t<|Nat.pow 2 N) 0=true)(hi:i<N):tb t i=false:=by have h1:t%2^N=0:=afJ h;have h2:=Nat.testBit_mod_two_pow t N i;grind[JL]
def E8{N k i:Nat}(h:tb (JX N k) i=false):i<N\/N+k<=i:=by rw[JL]at h;have h':((2^k-1)<<<N).testBit i=false:=h;grind
section
variable{O:Tri Ob}{k:Nat}{ob:lXE}
theorem xf(h:bK O k ob)(N:Nat):E1 O N k 0=ob.map (Ob.ren<|bU [] N):=by
 have hf:bU [] N=shf N:=by funext i;simp[bU,shf]
 have key: ∀(j i:Nat),i+j=k->E1 O N j i=(ob.drop i).map (Ob.ren<|bU [] N):=by
  intro j;induction j with
  |zero=>intro i hi;rw[List.drop_of_length_le (by rw[h.1];omega)];rfl
  |succ j ih=>
   intro i hi;have hlt:i<ob.length:=by rw[h.1];omega
   have hd:ob.drop i=ob[i]::ob.drop (i+1):=List.drop_eq_getElem_cons hlt;have hg:O.get i=some ob[i]:=by rw[h.2,afR hlt]
   show(match O.get i with|some X=>X.ren (shf N)|none=> .dead)::E1 O N j (Nat.succ i)=_;grind
 rw[key k 0 oaa,List.drop_zero]
theorem nr(h:bK O k ob):oW O k 0=ob:=by
 have key: ∀(j i:Nat),i+j=k->oW O j i=ob.drop i:=by
  intro j;induction j with
  |zero=>intro i hi;rw[List.drop_of_length_le (by rw[h.1];omega)];rfl
  |succ j ih=>
   intro i hi;have hlt:i<ob.length:=by rw[h.1];omega
   have hd:ob.drop i=ob[i]::ob.drop (i+1):=List.drop_eq_getElem_cons hlt;have hg:O.get i=some ob[i]:=by rw[h.2,afR hlt]
   show(match O.get i with|some X=>X|none=> .dead)::oW O j (Nat.succ i)=_;rw[hd,hg,ih (i+1) oaa]
 rw[key k 0 oaa,List.drop_zero]
end
def ZT{P:Program}{f:FuncId}{args:lXF}{r r':AV}{O:Tri Ob}{N:Nat}{ob1:lXE}(h:P0 f r O N=some r')(hO:bK O N ob1)(ha:aQ P f args [] [] r ob1):aQ P f args [] [] r' []/\r'.pure=true:=by grind[P0,frzF]
def E9{O:Tri Ob}{N:Nat}{d:Dl}{i:Nat}(h:tb (tmD N d) i=false):(ez O N d).get i=O.get i:=by
 have hs: ∀(b:Bool)(k:Nat)(X:Ob),k≠i->(cond b (O.set X k) O).get i=O.get i:=by grind[cn]
 cases d with
 |cV=>rfl
 |set k X=>exact hs _ k X (iA h)
 |push X=>show(O.set X N).get i=_;rw[cn,if_neg (iA h)]
 |wP k X=>have h':tb (Nat.lor (bit k)<|bit N) i=false:=h;rw[lY,afU]at h';show((cond (Nat.blt k N) (O.set .dead k) O).set X N).get i=_;grind[cn,iA]
def Cu(P:Program)(f:FuncId)(args:lXF)(ob:lXE)(av:AV)(ob':lXE):Prop:=kL P f args ob [] λe o=>e= .panic av/\o=ob'
def Kept(O O':Tri Ob)(tm tm':TM):Prop:=(∀i,tb tm'.lo i=false->tb tm.lo i=false)/\ ∀i,tb tm'.lo i=false->O'.get i=O.get i
theorem Kept.refl(O:Tri Ob)(tm:TM):Kept O O tm tm:=⟨λ_ h=>h,λ_ _=>rfl⟩
def cr:lXB->Bool
 |[]=>true
 |b::l=>b&&cr l
def tW: ∀{l r:lXB},cr (l++r)=true->cr r=true
 |[],_,h=>h
 |b::l,r,h=>by simp only[agC,cr,afv]at h;exact tW h.2
def Ext(t t':TM):Prop:= ∃l,t'.ok=l++t.ok
theorem Ext.refl(t:TM):Ext t t:=⟨[],rfl⟩
theorem Ext.trans{a b c:TM}(h:Ext a b)(k:Ext b c):Ext a c:=by obtain⟨l,h⟩:=h;obtain⟨r,k⟩:=k;exact⟨r++l,by rw[k,h,agJ]⟩
theorem Ext.ok{a b:TM}(h:Ext a b)(k:cr b.ok=true):cr a.ok=true:=by obtain⟨l,h⟩:=h;rw[h]at k;exact tW k
theorem J3(tm:TM)(p:Bool):(tm.z8 p).lo=tm.lo:=by obtain⟨a,g,o⟩:=tm;cases g<;>rfl
def xg(tm:TM)(p:Bool):Ext tm (tm.z8 p):=by
 obtain⟨a,g,o⟩:=tm;cases g with
 |nil=>exact⟨[],rfl⟩
 |cons=>exact⟨[p],rfl⟩
def P4{tm:TM}{p:Bool}(h:cr (tm.z8 p).ok=true):cr tm.ok=true:=(xg tm p).ok h
def Fa{tm:TM}{p s:Bool}(h:tm.syn p s=true)(k:cr (tm.z8 p).ok=true):p=true:=by
 obtain⟨a,g,o⟩:=tm;cases g with
 |nil=>exact h
 |cons=>grind[TM.z8,cr]
def AO{tm:TM}{p:Bool}(h:tm.syn p false=true):p=true:=by
 obtain⟨a,g,o⟩:=tm;cases g with
 |nil=>exact h
 |cons=>cases h
theorem P5{t u:TM}{p s:Bool}:(t.take u).syn p s=u.syn p s:=by obtain⟨a,g,o⟩:=t;obtain⟨a',g',o'⟩:=u;cases g'<;>rfl
theorem Kept.trans{O O1 O2:Tri Ob}{a b c:TM}(h:Kept O O1 a b)(k:Kept O1 O2 b c):Kept O O2 a c:=⟨λi hi=>h.1 i (k.1 i hi),λi hi=>(k.2 i hi).trans (h.2 i<|k.1 i hi)⟩
def abD(P:Program)(o:Nat)(args:lXF)(ob:lXE)(r:AV)(ob1:lXE):Prop:=
 ∀m γ w vs l C,Inv m γ ob w->γ o=some (some (l,C))->au m γ args vs-> ∃fn tmps assign body,(Instr.yield l vs.toArray).run P w= .ok (.round l fn tmps assign body) w/\
  RoundIn (dx none) 0 P l fn tmps assign body w λe w'=> ∃v m' γ',e= .returned v/\Rep m' γ' r v/\Trans m γ w m' γ' w'/\Inv m' γ' ob1 w'/\Le m γ [] m' γ'
def ly(P:Program)(f:FuncId)(args:lXF)(ob:lXE)(r:AV)(ob1:lXE):Prop:=(f<dm->aQ P f args ob [] r ob1)/\ ∀o,f=dm+o->abD P o args ob r ob1
def ly.of{P:Program}{f:FuncId}{args:lXF}{ob:lXE}{r:AV}{ob1:lXE}(hf:f<dm)(h:aQ P f args ob [] r ob1):ly P f args ob r ob1:=⟨λ_=>h,oay⟩
def b0(P:Program)(callf:cd):Prop:= ∀f args O N tm,
 (∀r O1 N1 t1,callf f args O N tm= .ret r O1 N1 t1->Ext tm t1/\(cr t1.ok=true-> ∀ob,bK O N ob-> ∃ob1,bK O1 N1 ob1/\ly P f args ob r ob1/\ ∀i,tb t1.lo i=false->O1.get i=O.get i))/\
 (∀av O1 N1 t1,callf f args O N tm= .pan av O1 N1 t1->f<dm/\Ext tm t1/\(cr t1.ok=true-> ∀ob,bK O N ob-> ∃ob1,bK O1 N1 ob1/\Cu P f args ob av ob1/\ ∀i,tb t1.lo i=false->O1.get i=O.get i))
def tX(P:Program)(ops:Array Oper)(o:Oper)(L:Loc)(ob:lXE)(av:AV)(ob':lXE):Prop:=
 ∀(m:Mem)(γ:Gam)(w:World)(a:Act)(K:Act->World->Prop)(Q:Exit->Act->World->Prop),Inv m γ ob w->bS m γ a L->
  (∀m' γ' w' v,Trans m γ w m' γ' w' ->Le m γ [] m' γ' ->Inv m' γ' ob' w' ->Rep m' γ' av v->Q (.panic [{v,recovered:=false}]) a w')->
  Region.wanted o (yielded ops a.tmps)=true/\o.wp P a w K Q
def J4{ops:Array Oper}{L gu:Loc}{o:Oper}(hg:Gd ops L o.guard gu){m:Mem}{γ:Gam}{a:Act}(hl:bS m γ a L):Region.wanted o (yielded ops a.tmps)=true:=by
 unfold Region.wanted;generalize o.guard=g at hg;cases hg with
 |none=>rfl
 |some hj hl'=>grind[pq]
def xi{m m':Mem}{γ γ':Gam}{a:Act}{L:Loc}(h:bS m γ a L)(hle:Le m γ [] m' γ'):bS m' γ' a L:=λt av e=>⟨(h t av e).1,fj hle av _ (AV.ei av) (h t av e).2⟩
def AP{m:Mem}{γ:Gam}{a:Act}{L:Loc}(hl:bS m γ a L): ∀{xs:List (Operand×AV)},dV L xs->gZ m γ a xs
 |[],_=>trivial
 |(_,_)::_,h=>⟨mV hl h.1,AP hl h.2⟩
section
variable{P:Program}{n:Nat}{callf:cd}{pu:FuncId->Bool}{ops:Array Oper}
theorem P6{L gu:Loc}{ob ob1:lXE}{av:AV}{x:Operand}{f:FuncId}{fs cs avs:lXF}{args:List Operand}{xs:List (Operand×AV)}{ts:Array TypeId}{dst:Option Nat}{ty:TypeId}{pos:String}{after:Array Edge}{guard:Option (Nat×Bool)}(hg:Gd ops L guard gu)(hx:aX L x=some (.fn (.func f) fs cs))(ha:EvA L args avs xs)(hc:Cu P f (fs++(avs++cs)) ob av ob1):tX P ops ⟨dst,.call ⟨.value x,args.toArray,ts⟩,ty,pos,after,guard⟩ L ob av ob1:=by
 intro m γ w a K Q hi hl hq;refine⟨J4 (o:=⟨dst,.call ⟨.value x,args.toArray,ts⟩,ty,pos,after,guard⟩) hg hl,?_⟩;have h1:=mV hl hx;simp only[Rep]at h1;obtain⟨us,vs,e,r1,r2⟩:=h1;obtain⟨⟨fn,hf,hname,hb⟩,hc⟩:=hc;have hxs:gZ m γ a xs:=AP hl (jy ha);unfold Oper.wp;rw[qz hf hname hb (first:=us) (cap:=vs) e,Oper.upon_enter];refine(hc m γ w (us++args.map a.eval++vs) hi ?_).mono ?_
 ·grind[cu,jN]
 ·rintro e w' ⟨m',γ',r',ob',⟨rfl,rfl⟩,h2,h3,h4,h5⟩;cases e with
  |returned v=>exact h2.elim
  |panicked chain=>obtain⟨v,rfl,hv⟩:=h2;exact hq m' γ' w' v h3 ⟨h3.mem,λo g hg hk=>h5 o g hk hg⟩ h4 hv
  |outgrown=>exact h2.elim
theorem ac7{L gu:Loc}{ob:lXE}{t:TypeId}{y:AV}{x:Operand}{dst:Option Nat}{ty:TypeId}{pos:String}{after:Array Edge}{guard:Option (Nat×Bool)}(hg:Gd ops L guard gu)(hx:aX L x=some (.ifc t y)):tX P ops ⟨dst,.panic x,ty,pos,after,guard⟩ L ob (.ifc t y) ob:=by
 intro m γ w a K Q hi hl hq;refine⟨J4 (o:=⟨dst,.panic x,ty,pos,after,guard⟩) hg hl,?_⟩;have h1:=mV hl hx;have h2:=h1;simp only[Rep]at h1;obtain⟨z,e,_⟩:=h1;unfold Oper.wp;have:(execOp a.eval ⟨dst,.panic x,ty,pos,after,guard⟩).run P w= .halt (.panic<|.iface t z) w:=by simp only[execOp,e,Sem.run_bind];rfl
 grind[Oper.upon_panic,Trans.refl,Le.refl]
theorem Nj{a:Act}{x:Operand}{args:List Operand}{ts:Array TypeId}{dst:Option Nat}{ty:TypeId}{pos:String}{after:Array Edge}{guard:Option (Nat×Bool)}{l:Nat}(hx:a.eval x= .func (.yield l) #[] #[])(w:World):(execOp a.eval ⟨dst,.call ⟨.value x,args.toArray,ts⟩,ty,pos,after,guard⟩).run P w=(Instr.yield l (args.map a.eval).toArray).run P w:=by grind[execOp,resolve,Deferred.ofValue,invoke]
theorem ZU{L gu:Loc}{ob ob1:lXE}{r:AV}{x:Operand}{o lo:Nat}{avs:lXF}{args:List Operand}{xs:List (Operand×AV)}{ts:Array TypeId}{dst:Option Nat}{ty:TypeId}{pos:String}{after:Array Edge}{guard:Option (Nat×Bool)}(hg:Gd ops L guard gu)(hx:aX L x=some (.yl o))(ha:EvA L args avs xs)(hc:abD P o avs ob r ob1)(hpre: ∀i,tb lo i=false->ob1[i]? =ob[i]?):Sub (gu++cg ((x,.yl o)::xs)) L/\tJ P ops ⟨dst,.call ⟨.value x,args.toArray,ts⟩,ty,pos,after,guard⟩ ⟨dst,gu++cg ((x,.yl o)::xs),r,[],.yl lo⟩ ob ob1:=by have hall:dV L ((x,.yl o)::xs):=⟨hx,jy ha⟩;have hkeep:=eH (mb hg) (ef hall);refine⟨e7 hkeep,hpre,λm γ w a K Q hi hl hK=> ?_⟩;have hw:=iC (o:=⟨dst,.call ⟨.value x,args.toArray,ts⟩,ty,pos,after,guard⟩) hg hkeep hl (λp hp=>by simp[hp]);simp only[hw,agL];have hxs:=hC hkeep hl hall (λp hp=>by simp[hp]);obtain⟨h1,h2⟩:=hxs;simp only[Rep]at h1;obtain⟨l,C,g1,e⟩:=h1;refine .inr ⟨rfl,λro=>⟨λ_ _=>trivial,?_⟩⟩;have hs:Oper.semAt (dx ro).round a.eval ⟨dst,.call ⟨.value x,args.toArray,ts⟩,ty,pos,after,guard⟩=execOp a.eval ⟨dst,.call ⟨.value x,args.toArray,ts⟩,ty,pos,after,guard⟩:=Oper.semAt_eq _ _ _ (λc hc=>by cases hc);obtain⟨fn,tmps,aS,bd,y1,y2⟩:=hc m γ w (args.map a.eval) l C hi g1 (jN ha h2);rw[hs,Nj e,y1,Oper.uponIn_round];refine⟨λh=>oah,Ps (y2.mono ?_)⟩;rintro e2 w2 ⟨v,m2,γ2,rfl,k1,k2,k3,k4⟩;exact hK m2 γ2 w2 v k2 k4 k3 k1
end
section
variable(P:Program)(n:Nat)(ops:Array Oper)
def SOk(o:Oper)(L:Loc)(ob:lXE)(O:Tri Ob)(tm:TM):SR->Prop
 | .fail=>True
 | .val rc M' O' N' tm'=>cr tm'.ok=true-> ∃ob',bK O' N' ob'/\cm M' (upd L rc)/\Sub rc.us L/\rc.dst=o.dst/\(∀d,o.dst=some d->d<n)/\tJ P ops o rc ob ob'/\rc.ks=[]/\Kept O O' tm tm'
 | .pan av O' N' tm'=>cr tm'.ok=true-> ∃ob',bK O' N' ob'/\tX P ops o L ob av ob'/\Kept O O' tm tm'
def ROk(l:List Oper)(L:Loc)(ob:lXE)(O:Tri Ob)(tm:TM):RR->Prop
 | .fail=>True
 | .ok recs M2 O2 N2 tm2=>cr tm2.ok=true-> ∃L2 ob2,cm M2 L2/\bK O2 N2 ob2/\Ev P n ops l recs L ob L2 ob2/\(∀rc∈recs,rc.ks=[])/\Kept O O2 tm tm2
 | .pan av M2 O2 N2 tm2=>cr tm2.ok=true-> ∃l1 o l2 recs L1 ob1 ob2,l=l1++o::l2/\Ev P n ops l1 recs L ob L1 ob1/\(∀rc∈recs,rc.ks=[])/\cm M2 L1/\bK O2 N2 ob2/\tX P ops o L1 ob1 av ob2/\Kept O O2 tm tm2
end
section
variable{P:Program}{n:Nat}{callf:cd}{pu:FuncId->Bool}
section
variable{ops:Array Oper}{M:Tri AV}{L gu:Loc}{O:Tri Ob}{N:Nat}{ob:lXE}
theorem dA(hM:cm M L)(hO:bK O N ob){o:Oper}(hg:Gd ops L o.guard gu)(hn: ∀d,o.dst=some d->d<n)(tm:TM):SOk P n ops o L ob O tm (ia M o.dst gu O N tm upT ez<|exec P (tev M) o O.get N):=by
 rw[hM.tev,hO.fun,<-hO.1];cases hx:exec P (aX L) o (λi=>ob[i]?) ob.length with
 |none=>trivial
 |some out=>obtain⟨dst,op,ty,pos,after,guard⟩:=o;obtain⟨k1,k2,k3⟩:=AL (Hs hg hn hx);obtain⟨r,kd,d,xs⟩:=out;have hO':bK O ob.length ob:=hO.1▸hO;have hra:=hO'.app d;refine λ_=>⟨_,hra,?_,k1,rfl,hn,k3,rfl,λi hi=>(jj hi).1,λi hi=>E9 (jj hi).2⟩;exact hM.up dst r
theorem vF(hM:cm M L)(hO:bK O N ob){o:Oper}(hg:Gd ops L o.guard gu)(hn: ∀d,o.dst=some d->d<n)(tm:TM):SOk P n ops o L ob O tm (Hk M o.dst gu O N tm upT ez (exec P (tev M) o O.get N)<|EX P (tev M) o.op O.get N):=by
 cases hc:EX P (tev M) o.op O.get N with
 |none=>exact dA hM hO hg hn tm
 |some q=>
  obtain⟨p,out⟩:=q;have h1:=dA (P:=P) (n:=n) hM hO hg hn tm;cases p with
  |false=>obtain⟨r,kd,d,xs⟩:=out;intro hok;simp[TM.low,TM.asks,cr]at hok
  |true=>rw[Nb hc]at h1;obtain⟨r,kd,d,xs⟩:=out;intro hok;simp only[TM.low,TM.asks,cr,agj]at hok;exact h1 hok
theorem xj(hM:cm M L)(hO:bK O N ob){o:Oper}(hg:Gd ops L o.guard gu)(hn: ∀d,o.dst=some d->d<n)(tm:TM)(g:Gi)(r:List Gi){y:SR}(hy:SOk P n ops o L ob O tm y):SOk P n ops o L ob O tm (nq M o.dst gu O N tm r upT ez y<|wT P (tev M) o.op O.get g):=by
 cases hc:wT P (tev M) o.op O.get g with
 |none=>exact hy
 |some q=>
  obtain⟨p,out⟩:=q;have h1:=dA (P:=P) (n:=n) hM hO hg hn tm;cases p with
  |false=>obtain⟨r,kd,d,xs⟩:=out;intro hok;simp[TM.low,TM.told,cr]at hok
  |true=>rw[Hi hc]at h1;obtain⟨r,kd,d,xs⟩:=out;intro hok;simp only[TM.low,TM.told,cr,agj]at hok;exact h1 hok
theorem P7(hM:cm M L)(hO:bK O N ob){o:Oper}{out:Out}(hn: ∀d,o.dst=some d->d<n)(tm:TM)(hS:Steps P n ops L gu o ob out):SOk P n ops o L ob O tm (ia M o.dst gu O N tm upT ez<|some out):=by obtain⟨dst,op,ty,pos,after,guard⟩:=o;obtain⟨k1,k2,k3⟩:=AL hS;obtain⟨r,kd,d,xs⟩:=out;obtain rfl:=hO.1;have hra:=hO.app d;refine λ_=>⟨_,hra,?_,k1,rfl,hn,k3,rfl,λi hi=>(jj hi).1,λi hi=>E9 (jj hi).2⟩;exact hM.up dst r
theorem vG(hM:cm M L)(hO:bK O N ob){o:Oper}(hg:Gd ops L o.guard gu)(hn: ∀d,o.dst=some d->d<n)(tm:TM)(g:Gi)(r:List Gi){y:SR}(hy:SOk P n ops o L ob O tm y):SOk P n ops o L ob O tm (nq M o.dst gu O N tm r upT ez y<|E0 P (tev M) o.type o.op O.get g):=by
 cases hc:E0 P (tev M) o.type o.op O.get g with
 |none=>exact hy
 |some q=>
  obtain⟨p,out⟩:=q;cases p with
  |false=>obtain⟨r,kd,d,xs⟩:=out;intro hok;simp[TM.low,TM.told,cr]at hok
  |true=>
   rw[hM.tev,hO.fun]at hc;have hS:Steps P n ops L gu o ob out:=by obtain⟨dst,op,ty,pos,after,guard⟩:=o;exact Ht hg hn hc
   have h1:=P7 (P:=P) (n:=n) hM hO hn tm hS;obtain⟨r,kd,d,xs⟩:=out;intro hok;simp only[TM.low,TM.told,cr,agj]at hok;exact h1 hok
end
theorem P8(hcf:b0 P callf){ops:Array Oper}{M:Tri AV}{L gu:Loc}{O:Tri Ob}{N:Nat}{ob:lXE}(hM:cm M L)(hO:bK O N ob){x:Operand}{args:List Operand}{ts:Array TypeId}{dst:Option Nat}{ty:TypeId}{pos:String}{after:Array Edge}{guard:Option (Nat×Bool)}(hg:Gd ops L guard gu)(hn: ∀d,dst=some d->d<n)(tm:TM):SOk P n ops ⟨dst,.call ⟨.value x,args.toArray,ts⟩,ty,pos,after,guard⟩ L ob O tm (JY P callf pu dst gu x args M O N tm):=by
 unfold JY;rw[hM.tev];split
 ·rename_i o avs xs hx ha;have hA:=jE ha;cases hcall:callf (dm+o) avs O N tm with
  |fail=>trivial
  |ret r O1 N1 t1=>
   refine λhok=> ?_;obtain⟨ob1,h1,h2,h3⟩:=((hcf _ _ O N tm).1 _ _ _ _ hcall).2 hok ob hO;have hpre: ∀i,tb t1.lo i=false->ob1[i]? =ob[i]? :=λi hi=>by rw[<-h1.2,<-hO.2];exact h3 i hi
   obtain⟨k1,k2⟩:=ZU (dst:=dst) (ty:=ty) (pos:=pos) (after:=after) (ts:=ts) hg hx hA (h2.2 o rfl) hpre;exact⟨ob1,h1,hM.up dst r,k1,rfl,hn,k2,rfl,λi hi=>(kp hi).1,λi hi=>h3 i (kp hi).2⟩
  |pan av O1 N1 t1=>exact absurd ((hcf _ _ O N tm).2 _ _ _ _ hcall).1 (Nat.not_lt.2<|Nat.le_add_right _ _)
 ·rename_i f fs cs avs xs hx ha;have hA:=jE ha;cases hfy:Nat.blt f dm with
  |false=>trivial
  |true=>
  have hfb:f<dm:=nbl hfy;simp only[Bool.not_true,afY];cases hesc:wN P f with
  |true=>
   simp only[afN];unfold escE;split
   ·rename_i y av;refine λ_=> ?_;obtain⟨k1,k2,k3,k4⟩:=ot (P:=P) (n:=n) (ops:=ops) (L:=L) (o:=⟨dst,.call ⟨.value x,#[y],ts⟩,ty,pos,after,guard⟩) (ob:=ob) (ob':=ob) (rc:=⟨dst,gu++cg ((x,.fn (.func f) [] [])::xs),av,[],.pure⟩)
     (λkf kk=>Hc hesc hx hA hg hn kk)
    exact⟨ob,hO,hM.up dst av,k1,k2,k3,k4,rfl,Kept.refl _ _⟩
   ·trivial
  |false=>
  simp only[afY];have hD:SOk P n ops ⟨dst,.call ⟨.value x,args.toArray,ts⟩,ty,pos,after,guard⟩ L ob O tm (pz (callf f (fs++(avs++cs)) O N tm) (λr kd=>⟨dst,gu++cg ((x,.fn (.func f) fs cs)::xs),r,[],kd⟩) (λr=>upT M r dst) O N tm):=by
   cases hcall:callf f (fs++(avs++cs)) O N tm with
   |fail=>trivial
   |ret r O1 N1 t1=>
    simp only[pz];cases hdr:Nat.beq (Nat.mod t1.lo<|Nat.pow 2 N) 0&&t1.syn (r.und N) false with
    |true=>
     simp only[afv]at hdr;refine λhok=> ?_;obtain⟨ob1,h1,h2,h3⟩:=((hcf f _ O N tm).1 _ _ _ _ hcall).2 hok ob hO;obtain rfl:=hO.1;have hpre: ∀i,i<ob.length->ob1[i]? =ob[i]? :=λi hi=>by rw[<-h1.2,<-hO.2];exact h3 i (ac6 hdr.1 hi)
     have happ: ∃xs,ob1=ob++xs:=by
      refine⟨ob1.drop ob.length,?_⟩;apply af8;intro i;by_cases hi:i<ob.length
      ·rw[afO hi];exact hpre i hi
      ·rw[agb oaa,agN];congr 1;omega
     obtain⟨k1,k2,k3,k4⟩:=ot (P:=P) (n:=n) (ops:=ops) (L:=L) (o:=⟨dst,.call ⟨.value x,args.toArray,ts⟩,ty,pos,after,guard⟩) (ob:=ob) (ob':=ob) (rc:=⟨dst,gu++cg ((x,.fn (.func f) fs cs)::xs),r,[],.from ob.length⟩)
      (λkf kk=>ko ob.length (λ_ _=>rfl) (λkf kk=>wG hx hA (wD ((h2.1 hfb).mono λe o⟨g1,g2⟩=>⟨g1,by rw[g2];exact happ⟩)<|AO hdr.2) hg hn kk) kk)
     exact⟨ob,hO,hM.up dst r,k1,k2,k3,⟨rfl,rfl,k4.2⟩,rfl,Kept.refl _ _⟩
    |false=>
    refine λhok=> ?_;obtain⟨ob1,h1,h2,h3⟩:=((hcf f _ O N tm).1 _ _ _ _ hcall).2 hok ob hO;have hpre: ∀i,tb t1.lo i=false->ob1[i]? =ob[i]? :=λi hi=>by rw[<-h1.2,<-hO.2];exact h3 i hi
    obtain⟨k1,k2,k3,k4⟩:=ot (P:=P) (n:=n) (ops:=ops) (L:=L) (o:=⟨dst,.call ⟨.value x,args.toArray,ts⟩,ty,pos,after,guard⟩) (ob:=ob) (ob':=ob1) (rc:=⟨dst,gu++cg ((x,.fn (.func f) fs cs)::xs),r,[],.chg t1.lo⟩)
     (λkf kk=>PH t1.lo hpre (λkf kk=>wG hx hA (h2.1 hfb) hg hn kk) kk)
    exact⟨ob1,h1,hM.up dst r,k1,k2,k3,k4,rfl,λi hi=>(kp hi).1,λi hi=>h3 i (kp hi).2⟩
   |pan av O1 N1 t1=>refine λhok=> ?_;obtain⟨ob1,h1,h2,h3⟩:=((hcf f _ O N tm).2 _ _ _ _ hcall).2.2 hok ob hO;exact⟨ob1,h1,P6 hg hx hA h2,λi hi=>(kp hi).1,λi hi=>h3 i (kp hi).2⟩
  generalize hq:tm.z8 (aq avs&&aq fs&&aq cs)=tq;have hlo:tq.lo=tm.lo:=by rw[<-hq,J3]
  cases hv:tm.syn (aq avs&&aq fs&&aq cs) (jQ avs&&jQ fs&&jQ cs)with
  |false=>
   simp only[afY];cases hp:pu f with
   |true=>trivial
   |false=>exact hD
  |true=>
   simp only[afN];have hvv:cr tq.ok=true->(aq avs=true/\aq fs=true)/\aq cs=true:=λh=>by have:=Fa hv (by rw[hq];exact h);simpa only[afv]using this
   cases hcall:callf f (fs++(avs++cs)) .e 0 tq with
   |fail=>trivial
   |pan av O1 N1 t1=>exact hD
   |ret r O1 N1 t1=>
    simp only[Hj];cases hk:Nat.beq N1 0&&t1.syn r.pure r.PZ with
    |true=>
     simp only[afv]at hk;have hN:=afJ hk.1;subst hN;refine λhok=> ?_;have hkk:r.pure=true:=Fa (tm:=tm.take t1) (by rw[P5];exact hk.2) hok;replace hok:cr t1.ok=true:=P4 (tm:=tm.take t1) hok;have hv:=hvv (((hcf f _ .e 0 tq).1 _ _ _ _ hcall).1.ok hok);obtain⟨ob1,h1,h2,_⟩:=((hcf f _ .e 0 tq).1 _ _ _ _ hcall).2 hok [] bK.nil;have:ob1=[]:=agk h1.1;subst this;obtain⟨k1,k2,k3,k4⟩:=ot (P:=P) (n:=n) (ops:=ops) (L:=L) (o:=⟨dst,.call ⟨.value x,args.toArray,ts⟩,ty,pos,after,guard⟩) (ob:=ob) (ob':=ob) (rc:=⟨dst,gu++cg ((x,.fn (.func f) fs cs)::xs),r,[],.pure⟩)
      (λkf kk=>EP hx hA (h2.1 hfb) hv.1.1 hv.1.2 hv.2 hkk hg hn kk)
     exact⟨ob,hO,hM.up dst r,k1,k2,k3,k4,rfl,λi hi=>by rw[J3]at hi;exact hi,λ_ _=>rfl⟩
    |false=>
     simp only[afY];cases hfr:P0 f r O1 N1 with
     |some r'=>
     refine λhok=> ?_;have hv:=hvv (((hcf f _ .e 0 tq).1 _ _ _ _ hcall).1.ok hok);obtain⟨ob1,h1,h2,_⟩:=((hcf f _ .e 0 tq).1 _ _ _ _ hcall).2 hok [] bK.nil;obtain⟨ha',hp'⟩:=ZT hfr h1 (h2.1 hfb);obtain⟨k1,k2,k3,k4⟩:=ot (P:=P) (n:=n) (ops:=ops) (L:=L) (o:=⟨dst,.call ⟨.value x,args.toArray,ts⟩,ty,pos,after,guard⟩) (ob:=ob) (ob':=ob) (rc:=⟨dst,gu++cg ((x,.fn (.func f) fs cs)::xs),r',[],.pure⟩)
      (λkf kk=>EP hx hA ha' hv.1.1 hv.1.2 hv.2 hp' hg hn kk)
     exact⟨ob,hO,hM.up dst r',k1,k2,k3,k4,rfl,Kept.refl _ _⟩
     |none=>
     refine λhok=> ?_;have hv:=hvv (((hcf f _ .e 0 tq).1 _ _ _ _ hcall).1.ok hok);obtain⟨ob1,h1,h2,_⟩:=((hcf f _ .e 0 tq).1 _ _ _ _ hcall).2 hok [] bK.nil;have hp:aq (fs++(avs++cs))=true:=mg hv.1.2 (mg hv.1.1 hv.2);have hpush:=MY (h2.1 hfb) hp ob;obtain rfl:=hO.1;have hf:bU [] ob.length=shf ob.length:=by funext i;simp[bU,shf]
     have hrel:=Nh (E1 O1 ob.length N1 0) O ob.length ob hO;rw[xf h1]at hrel;have hl:(ob1.map<|Ob.ren<|bU [] ob.length).length=N1:=by rw[afK];exact h1.1
     rw[hl]at hrel;rw[hf]at hpush;obtain⟨k1,k2,k3,k4⟩:=ot (P:=P) (n:=n) (ops:=ops) (L:=L) (o:=⟨dst,.call ⟨.value x,args.toArray,ts⟩,ty,pos,after,guard⟩) (ob:=ob) (ob':=ob++ob1.map (Ob.ren<|shf ob.length)) (rc:=⟨dst,gu++cg ((x,.fn (.func f) fs cs)::xs),r.ren (shf ob.length),[],.from ob.length⟩)
      (λkf kk=>ko ob.length (λi hi=>afO hi) (λkf kk=>wG hx hA hpush hg hn kk) kk)
     refine⟨_,by rw[xf h1,hf];rw[hf]at hrel;exact hrel,hM.up dst _,k1,k2,k3,k4,rfl,λi hi=>(jj hi).1,λi hi=> ?_⟩;rw[xf h1];rw[hrel.2,hO.2];rcases E8 (jj hi).2 with h|h
     ·rw[afO h]
     ·rw[af5 (by rw[afS,hl];exact h),af5 oaa]
 ·trivial
theorem Cv(hcf:b0 P callf){ops:Array Oper}{M:Tri AV}{L gu:Loc}{O:Tri Ob}{N:Nat}{ob:lXE}(hM:cm M L)(hO:bK O N ob)(o:Oper)(tm:TM)(hg:Gd ops L o.guard gu)(hn: ∀d,o.dst=some d->d<n):SOk P n ops o L ob O tm (Aa P callf pu o gu M O N tm):=by
 unfold Aa;obtain⟨dst,op,ty,pos,after,guard⟩:=o;split
 ·rename_i c hop;simp only at hop;subst hop;obtain⟨callee,args,ts⟩:=c;split
  ·rename_i x hc;simp only at hc;subst hc;have:=P8 (pu:=pu) hcf (P:=P) (n:=n) (ops:=ops) hM hO (x:=x) (args:=args.toList) (ts:=ts) (dst:=dst) (ty:=ty) (pos:=pos) (after:=after) (guard:=guard) hg hn tm;simpa using this
  ·split
   ·exact dA hM hO hg hn tm
   ·exact vG hM hO hg hn tm _ _ (vF hM hO hg hn tm)
 ·split
  ·exact dA hM hO hg hn tm
  ·exact xj hM hO hg hn tm _ _ (vF hM hO hg hn tm)
 ·split
  ·exact dA hM hO hg hn tm
  ·exact vG hM hO hg hn tm _ _ (vF hM hO hg hn tm)
 ·split
  ·exact dA hM hO hg hn tm
  ·exact xj hM hO hg hn tm _ _ (dA hM hO hg hn tm)
 ·split
  ·exact dA hM hO hg hn tm
  ·exact xj hM hO hg hn tm _ _ (dA hM hO hg hn tm)
 ·split
  ·exact dA hM hO hg hn tm
  ·exact vF hM hO hg hn tm
 ·rename_i x hop;simp only at hop;subst hop;unfold panE;rw[hM.tev];split
  ·rename_i t y hx;exact λ_=>⟨ob,hO,ac7 hg hx,Kept.refl _ _⟩
  ·trivial
 ·split
  ·exact dA hM hO hg hn tm
  ·rename_i g r hgd';refine vG hM hO hg hn tm _ _ ?_;unfold cmpR;split
   ·rename_i d b xs hx;have hb:=dA (P:=P) (n:=n) hM hO hg hn tm;rw[hx]at hb;intro hok;simp only[TM.told,cr,afv]at hok;have hbd:b=d:=by have:=hok.1;cases b<;>cases d<;>simp_all
    subst hbd;obtain⟨ob',q1,q2,q3,q4,q5,q6,q7,q8⟩:=hb hok.2;exact⟨ob',q1,q2,q3,q4,q5,q6,q7,λi h=>h,λi _=>rfl⟩
   ·rename_i z k m xs hx;have hb:=dA (P:=P) (n:=n) hM hO hg hn tm;rw[hx]at hb;intro hok;simp only[TM.told,cr,afv]at hok;have hbd:=aH.1 hok.1;subst hbd;obtain⟨ob',q1,q2,q3,q4,q5,q6,q7,q8⟩:=hb hok.2;exact⟨ob',q1,q2,q3,q4,q5,q6,q7,λi h=>h,λi _=>rfl⟩
   ·rename_i b xs hx;have hb:=dA (P:=P) (n:=n) hM hO hg hn tm;rw[hx]at hb;intro hok;simp only[TM.told,cr,agj]at hok;obtain⟨ob',q1,q2,q3,q4,q5,q6,q7,q8⟩:=hb hok;exact⟨ob',q1,q2,q3,q4,q5,q6,q7,λi h=>h,λi _=>rfl⟩
   ·exact dA hM hO hg hn tm
 ·split
  ·exact dA hM hO hg hn tm
  ·exact vG hM hO hg hn tm _ _ (dA hM hO hg hn tm)
theorem Fb(hcf:b0 P callf){all:List Oper}{M:Tri AV}{L:Loc}{O:Tri Ob}{N:Nat}{ob:lXE}(hM:cm M L)(hO:bK O N ob)(o:Oper)(tm:TM):SOk P n all.toArray o L ob O tm (wV P n callf pu all o M O N tm):=by
 unfold wV;cases hd:Cj n o.dst with
 |false=>trivial
 |true=>
  have hn:=AN hd;simp only[afN];split
  ·grind[Cv,xe]
  ·rename_i gu hgd;obtain⟨k1,k2⟩:=E7 (P:=P) (n:=n) (ob:=ob) (AM hM hgd) hn;exact λ_=>⟨ob,hO,hM.up _ _,k1,rfl,hn,k2,rfl,Kept.refl _ _⟩
  ·trivial
theorem tY(all:List Oper)(o:Oper)(l:List Oper)(M:Tri AV)(O:Tri Ob)(N:Nat)(tm:TM):fL P n callf pu all (o::l) M O N tm=JZ M (fL P n callf pu all l) (mm P n callf pu all o M O N tm):=rfl
theorem qL(hcf:b0 P callf){o:Oper}{M:Tri AV}{O:Tri Ob}{N:Nat}{tm:TM}:∀gu,(∀{rc M' O' N' tm'},Aa P callf pu o gu M O N tm= .val rc M' O' N' tm' ->Ext tm tm')/\(∀{av O' N' tm'},Aa P callf pu o gu M O N tm= .pan av O' N' tm' ->Ext tm tm'):=by
 have hex: ∀(gu:Loc)(x:Option Out),(∀{rc M' O' N' tm'},ia M o.dst gu O N tm upT ez x= .val rc M' O' N' tm' ->Ext tm tm')/\(∀{av O' N' tm'},ia M o.dst gu O N tm upT ez x= .pan av O' N' tm' ->Ext tm tm'):=by
  intro gu x;cases x with
  |none=>exact⟨λh=>oah,λh=>oah⟩
  |some out=>obtain⟨r,kd,d,xs⟩:=out;exact⟨λh=>oaG,λh=>oah⟩
 have hck: ∀(gu:Loc)(x:Option Out)(y:Option (Bool×Out)),(∀{rc M' O' N' tm'},Hk M o.dst gu O N tm upT ez x y= .val rc M' O' N' tm' ->Ext tm tm')/\(∀{av O' N' tm'},Hk M o.dst gu O N tm upT ez x y= .pan av O' N' tm' ->Ext tm tm'):=by
  intro gu x y;cases y with
  |none=>exact hex gu x
  |some q=>obtain⟨p,r,kd,d,xs⟩:=q;exact⟨λh=>(by cases h;exact⟨[p],rfl⟩),λh=>oah⟩
 have hhi: ∀(gu:Loc)(r:List Gi)(y:SR)(q:Option (Bool×Out)),((∀{rc M' O' N' tm'},y= .val rc M' O' N' tm' ->Ext tm tm')/\(∀{av O' N' tm'},y= .pan av O' N' tm' ->Ext tm tm'))->(∀{rc M' O' N' tm'},nq M o.dst gu O N tm r upT ez y q= .val rc M' O' N' tm' ->Ext tm tm')/\(∀{av O' N' tm'},nq M o.dst gu O N tm r upT ez y q= .pan av O' N' tm' ->Ext tm tm'):=by
  intro gu r y q hy;cases q with
  |none=>exact hy
  |some q=>obtain⟨p,r,kd,d,xs⟩:=q;exact⟨λh=>(by cases h;exact⟨[p],rfl⟩),λh=>oah⟩
 have key: ∀gu,(∀{rc M' O' N' tm'},Aa P callf pu o gu M O N tm= .val rc M' O' N' tm' ->Ext tm tm')/\(∀{av O' N' tm'},Aa P callf pu o gu M O N tm= .pan av O' N' tm' ->Ext tm tm'):=by
  intro gu;unfold Aa;split
  ·split
   ·unfold JY;split
    ·rename_i o avs xs _ _;cases hcall:callf (dm+o) avs O N tm with
     |fail=>exact⟨λh=>oah,λh=>oah⟩
     |ret r O1 N1 t1=>exact⟨λh=>(by cases h;exact((hcf _ _ O N tm).1 _ _ _ _ hcall).1),λh=>oah⟩
     |pan av O1 N1 t1=>exact⟨λh=>oah,λh=>(by cases h;exact((hcf _ _ O N tm).2 _ _ _ _ hcall).2.1)⟩
    ·rename_i f fs cs avs xs _ _;cases Nat.blt f dm with
     |false=>exact⟨λh=>oah,λh=>oah⟩
     |true=>
     simp only[Bool.not_true,afY];cases wN P f with
     |true=>
      simp only[afN];unfold escE;split
      ·exact⟨λh=>oaG,λh=>oah⟩
      ·exact⟨λh=>oah,λh=>oah⟩
     |false=>
     simp only[afY];have hD: ∀x0:Operand,(∀{rc M' O' N' tm'},pz (callf f (fs++(avs++cs)) O N tm) (λr kd=>(⟨o.dst,gu++cg ((x0,.fn (.func f) fs cs)::xs),r,[],kd⟩:Rec)) (λr=>upT M r o.dst) O N tm= .val rc M' O' N' tm' ->Ext tm tm')/\(∀{av O' N' tm'},pz (callf f (fs++(avs++cs)) O N tm) (λr kd=>(⟨o.dst,gu++cg ((x0,.fn (.func f) fs cs)::xs),r,[],kd⟩:Rec)) (λr=>upT M r o.dst) O N tm= .pan av O' N' tm' ->Ext tm tm'):=by
      intro x0;cases hcall:callf f (fs++(avs++cs)) O N tm with
      |fail=>exact⟨λh=>oah,λh=>oah⟩
      |ret r O1 N1 t1=>
       simp only[pz];cases Nat.beq (Nat.mod t1.lo<|Nat.pow 2 N) 0&&t1.syn (r.und N) false with
       |true=>exact⟨λh=>(by cases h;exact((hcf f _ O N tm).1 _ _ _ _ hcall).1),λh=>oah⟩
       |false=>exact⟨λh=>(by cases h;exact((hcf f _ O N tm).1 _ _ _ _ hcall).1),λh=>oah⟩
      |pan av O1 N1 t1=>exact⟨λh=>oah,λh=>(by cases h;exact((hcf f _ O N tm).2 _ _ _ _ hcall).2.1)⟩
     cases tm.syn (aq avs&&aq fs&&aq cs) (jQ avs&&jQ fs&&jQ cs)with
     |false=>
      simp only[afY];cases pu f with
      |true=>exact⟨λh=>oah,λh=>oah⟩
      |false=>exact hD _
     |true=>
      simp only[afN];cases hcall:callf f (fs++(avs++cs)) .e 0 (tm.z8<|aq avs&&aq fs&&aq cs)with
      |fail=>exact⟨λh=>oah,λh=>oah⟩
      |pan av O1 N1 t1=>exact hD _
      |ret r O1 N1 t1=>
       have he:=(xg tm _).trans ((hcf f _ .e 0<|tm.z8 _).1 _ _ _ _ hcall).1;simp only[Hj];cases Nat.beq N1 0&&t1.syn r.pure r.PZ with
       |true=>exact⟨λh=>(by cases h;exact he.trans<|xg (tm.take t1) _),λh=>oah⟩
       |false=>
        simp only[afY];cases P0 f r O1 N1 with
        |some r'=>exact⟨λh=>(by cases h;exact he),λh=>oah⟩
        |none=>exact⟨λh=>(by cases h;exact he),λh=>oah⟩
    ·exact⟨λh=>oah,λh=>oah⟩
   ·split
    ·exact hex gu _
    ·exact hhi gu _ _ _ (hck gu _ _)
  ·split
   ·exact hex gu _
   ·exact hhi gu _ _ _ (hck gu _ _)
  ·split
   ·exact hex gu _
   ·exact hhi gu _ _ _ (hck gu _ _)
  ·split
   ·exact hex gu _
   ·exact hhi gu _ _ _ (hex gu _)
  ·split
   ·exact hex gu _
   ·exact hhi gu _ _ _ (hex gu _)
  ·split
   ·exact hex gu _
   ·exact hck gu _ _
  ·unfold panE;split
   ·exact⟨λh=>oah,λh=>oaG⟩
   ·exact⟨λh=>oah,λh=>oah⟩
  ·split
   ·exact hex gu _
   ·refine hhi gu _ _ _ ?_;unfold cmpR;split
    ·exact⟨λh=>(by cases h;exact⟨[_],rfl⟩),λh=>oah⟩
    ·exact⟨λh=>(by cases h;exact⟨[_],rfl⟩),λh=>oah⟩
    ·exact⟨λh=>(by cases h;exact⟨[_],rfl⟩),λh=>oah⟩
    ·exact hex gu _
  ·split
   ·exact hex gu _
   ·exact hhi gu _ _ _ (hex gu _)
 exact key
theorem AQ(hcf:b0 P callf){all:List Oper}{o:Oper}{M:Tri AV}{O:Tri Ob}{N:Nat}{tm:TM}:(∀{rc M' O' N' tm'},wV P n callf pu all o M O N tm= .val rc M' O' N' tm' ->Ext tm tm')/\(∀{av O' N' tm'},wV P n callf pu all o M O N tm= .pan av O' N' tm' ->Ext tm tm'):=by
 unfold wV;cases Cj n o.dst with
 |false=>simp_all
 |true=>
  simp only[afN];split
  ·exact qL hcf _
  ·grind[Ext.refl]
  simp_all
theorem Fc{M:Tri AV}{L:Loc}(hM:cm M L){t:Nat}{av:AV}(h:M.get t=some av):cm (M.set av t) L:=λs=>by
 rw[cn];split
 ·rename_i e;first|rw[<-hM s,<-h,e]|rw[<-hM s,<-h,<-e]
 ·exact hM s
theorem Cw{all:List Oper}{M:Tri AV}{L:Loc}(hM:cm M L){j:Nat}{want w:Bool}{gu:Loc}(h:gdE all M (some (j,want))= .ok w gu):cm (E2 M (cond want w<|!w) gu) L:=by
 unfold gdE at h;dsimp only at h;split at h
 ·split at h
  ·split at h
   ·rename_i b hb;cases h;have:cond want (cond want b<|!b) (!cond want b (!b))=b:=by cases want<;>cases b<;>rfl
    rw[this];exact Fc hM hb
   ·cases h;exact hM
   ·cases h
  ·cases h
 ·cases h
theorem xk{tm t:TM}{r:List Gi}{w:Bool}(h:Ext (tm.told r w) t):Ext tm t:=Ext.trans ⟨[w],rfl⟩ h
theorem Hu(hcf:b0 P callf){all:List Oper}{o:Oper}{M:Tri AV}{O:Tri Ob}{N:Nat}{tm:TM}:(∀{rc M' O' N' tm'},mm P n callf pu all o M O N tm= .val rc M' O' N' tm' ->Ext tm tm')/\(∀{av O' N' tm'},mm P n callf pu all o M O N tm= .pan av O' N' tm' ->Ext tm tm'):=by
 unfold mm;split
 ·exact AQ hcf
 ·split
  ·rename_i want _ d r _;unfold stepG;cases Cj n o.dst with
   |false=>simp_all
   |true=>
    simp only[afN];split
    ·rename_i w gu _;cases d with
     |true=>exact⟨λh=>xk ((qL hcf gu).1 h),λh=>xk ((qL hcf gu).2 h)⟩
     |false=>grind[xk,Ext.refl]
    simp_all
  ·exact AQ hcf
theorem Nk(hcf:b0 P callf){all:List Oper}{M:Tri AV}{L:Loc}{O:Tri Ob}{N:Nat}{ob:lXE}(hM:cm M L)(hO:bK O N ob)(o:Oper)(tm:TM):SOk P n all.toArray o L ob O tm (mm P n callf pu all o M O N tm):=by
 unfold mm;split
 ·exact Fb hcf hM hO o tm
 ·rename_i j want hog;split
  ·rename_i d r _;unfold stepG;cases hd:Cj n o.dst with
   |false=>trivial
   |true=>
    have hn:=AN hd;simp only[afN];split
    ·rename_i w gu hgd;cases d with
     |true=>
      simp only[afN];have he:=qL (pu:=pu) hcf (o:=o) (M:=E2 M want gu) (O:=O) (N:=N) (tm:=tm.told r w) gu;have hw: ∀{tm':TM},Ext (tm.told r w) tm' ->cr tm'.ok=true->w=true:=λe hok=>by have:=e.ok hok;simp_all[TM.told,cr]
      cases hres:Aa P callf pu o gu (E2 M want gu) O N (tm.told r w)with
      |fail=>trivial
      |val rc M' O' N' tm'=>
       intro hok;obtain rfl:=hw (he.1 hres) hok;have hl:cm (E2 M want gu) L:=by grind[Cw]
       have:=Cv (pu:=pu) (n:=n) (ops:=all.toArray) hcf hl hO o (tm.told r true) (xe hM hgd) hn;rw[hres]at this;exact this hok
      |pan av O' N' tm'=>
       intro hok;obtain rfl:=hw (he.2 hres) hok;have hl:cm (E2 M want gu) L:=by grind[Cw]
       have:=Cv (pu:=pu) (n:=n) (ops:=all.toArray) hcf hl hO o (tm.told r true) (xe hM hgd) hn;rw[hres]at this;exact this hok
     |false=>
      simp only[afY];intro hok;simp only[TM.told,cr,afv,afP]at hok;obtain⟨rfl,_⟩:=hok;obtain⟨k1,k2⟩:=E7 (P:=P) (n:=n) (ob:=ob) (AM hM hgd) hn;have hl:cm (E2 M (!want) gu) L:=by grind[Cw]
      exact⟨ob,hO,hl.up _ _,k1,rfl,hn,k2,rfl,Kept.refl _ _⟩
    ·trivial
  ·exact Fb hcf hM hO o tm
theorem pF(hcf:b0 P callf)(all:List Oper): ∀(l:List Oper){M:Tri AV}{O:Tri Ob}{N:Nat}{tm:TM},(∀{recs M' O' N' tm'},fL P n callf pu all l M O N tm= .ok recs M' O' N' tm' ->Ext tm tm')/\(∀{av M' O' N' tm'},fL P n callf pu all l M O N tm= .pan av M' O' N' tm' ->Ext tm tm')
 |[],M,O,N,tm=>⟨λh=>oaG,λh=>oah⟩
 |o::l,M,O,N,tm=>by
  rw[tY];have hs:=Hu (pu:=pu) (n:=n) hcf (all:=all) (o:=o) (M:=M) (O:=O) (N:=N) (tm:=tm);cases hst:mm P n callf pu all o M O N tm with
  |fail=>exact⟨λh=>oah,λh=>oah⟩
  |pan av O1 N1 t1=>exact⟨λh=>oah,λh=>(by cases h;exact hs.2 hst)⟩
  |val rc M1 O1 N1 t1=>
   have h1:=hs.1 hst;have ih:=pF hcf all l (M:=M1) (O:=O1) (N:=N1) (tm:=t1);simp only[JZ];cases hr:fL P n callf pu all l M1 O1 N1 t1 with
   |fail=>exact⟨λh=>oah,λh=>oah⟩
   |ok recs M2 O2 N2 t2=>exact⟨λh=>(by cases h;exact h1.trans<|ih.1 hr),λh=>oah⟩
   |pan av M2 O2 N2 t2=>exact⟨λh=>oah,λh=>(by cases h;exact h1.trans<|ih.2 hr)⟩
theorem lA(hcf:b0 P callf)(all:List Oper): ∀(l:List Oper){M:Tri AV}{L:Loc}{O:Tri Ob}{N:Nat}{ob:lXE}(_hM:cm M L)(_hO:bK O N ob)(tm:TM),ROk P n all.toArray l L ob O tm (fL P n callf pu all l M O N tm)
 |[],M,L,O,N,ob,hM,hO,tm=>λ_=>⟨L,ob,hM,hO,.nil _ _,by simp,Kept.refl _ _⟩
 |o::l,M,L,O,N,ob,hM,hO,tm=>by
  rw[tY];have hs:=Nk (pu:=pu) (n:=n) hcf (all:=all) hM hO o tm;cases hst:mm P n callf pu all o M O N tm with
  |fail=>trivial
  |pan av O1 N1 t1=>rw[hst]at hs;intro hok;obtain⟨ob1,h1,h2,h3⟩:=hs hok;exact⟨[],o,l,[],L,ob,ob1,rfl,.nil _ _,by simp,hM,h1,h2,h3⟩
  |val rc M1 O1 N1 t1=>
   rw[hst]at hs;have hext:=pF (pu:=pu) (n:=n) hcf all l (M:=M1) (O:=O1) (N:=N1) (tm:=t1);simp only[JZ];cases hr:fL P n callf pu all l M1 O1 N1 t1 with
   |fail=>trivial
   |ok recs M2 O2 N2 t2=>
    intro hok;obtain⟨ob1,h1,h2,h3,h4,h5,h6,h7,h8⟩:=hs ((hext.1 hr).ok hok);have ih:=lA hcf all l h2 h1 t1;rw[hr]at ih;obtain⟨L2,ob2,g1,g2,g3,g4,g5⟩:=ih hok;exact⟨L2,ob2,g1,g2,.cons h3 h4 h5 h6 g3,λr hrc=>by
     rcases agc.1 hrc with e|e
     ·subst e;exact h7
     ·exact g4 r e,h8.trans g5⟩
   |pan av M2 O2 N2 t2=>
    intro hok;obtain⟨ob1,h1,h2,h3,h4,h5,h6,h7,h8⟩:=hs ((hext.2 hr).ok hok);have ih:=lA hcf all l h2 h1 t1;rw[hr]at ih;obtain⟨l1,o',l2,recs,L1,oba,obb,g0,g1,g2,g3,g4,g5,g6⟩:=ih hok;exact⟨o::l1,o',l2,rc::recs,L1,oba,obb,by rw[g0];rfl,.cons h3 h4 h5 h6 g1,λr hrc=>by
     rcases agc.1 hrc with e|e
     ·subst e;exact h7
     ·exact g2 r e,g3,g4,g5,h8.trans g6⟩
theorem oY{ops:Array Oper}{l:List Oper}{recs:List Rec}{L L2:Loc}{ob ob2:lXE}(hev:Ev P n ops l recs L ob L2 ob2)(hks: ∀rc∈recs,rc.ks=[])(l2:List Oper){ro:Option Nat}(hd:ro=none\/l.all Oper.still=true):∀{m:Mem}{γ:Gam}{w:World}{a:Act}{Q:Exit->Act->World->Prop},Inv m γ ob w->bS m γ a L->a.tmps.size=n->(∀m' γ' w' a',Trans m γ w m' γ' w' ->Inv m' γ' ob2 w' ->bS m' γ' a' L2->a'.tmps.size=n->a'.defers=a.defers->Le m γ [] m' γ' ->wpListIn (dx ro) 0 P ops Q l2 a' w')->wpListIn (dx ro) 0 P ops Q (l++l2) a w:=by
 induction hev with
 |nil L ob=>intro m γ w a Q hi hl hs hq;exact hq m γ w a (Trans.refl _ _ _) hi hl hs rfl (Le.refl _ _ _)
 |cons hus hdst hn hst h ih=>
  intro m γ w a Q hi hl hs hq;have hk:=hks _ (ag4 ..);have hd1:ro=none\/Oper.still _=true:=hd.imp (λh=>h) λe=>by simp only[agZ,afv]at e;exact e.1
  have hd2:ro=none\/List.all _ Oper.still=true:=hd.imp (λh=>h) λe=>by simp only[agZ,afv]at e;exact e.2
  show wpListIn (dx ro) 0 P ops Q (_::(_++l2)) a w;unfold wpListIn;refine qk hd1 (hst.step m γ w a _ Q hi (hl.sub hus) λm' γ' w' x ht hle hi' hx=> ?_);have hle0:Le m γ [] m' γ':=by rw[hk]at hle;exact hle
  exact ih (λrc hrc=>hks rc<|af9 _ hrc) hd2 hi' (l6 hl hle hdst (λe he=>by rw[hs];exact hn e he) hx) (by rw[qj];exact hs)
   λm2 γ2 w2 a2 ht2 hi2 hl2 hs2 hd2 hk2=>hq m2 γ2 w2 a2 (ht.trans ht2) hi2 hl2 hs2 (hd2.trans<|lZ _ _ _)
    ⟨λb x h=>hk2.mem b x (hle0.mem b x h),λo g hg hc=>hk2.gam o g (hle0.gam o g hg hc) hc⟩
def jk(df:Option Nat)(c:Code):Prop:=df=none\/c.inR=true
def Runs(P:Program)(n:Nat)(c:Code)(M:Tri AV)(O:Tri Ob)(N:Nat)(tm:TM)(x:AX)(M':Tri AV)(O':Tri Ob)(N':Nat)(tm':TM):Prop:=
 Kept O O' tm tm'/\ ∀L ob,cm M L->bK O N ob->(∃L' ob',cm M' L'/\bK O' N' ob')/\
  ∀df K Q,jk df c->(∀L' ob',cm M' L' ->bK O' N' ob' ->Q x L' ob')->awp df P n K [] c Q L ob
def P9{K:Nat}{m m':Mem}{γ γ':Gam}(h:Le m γ [] m' γ'): ∀o g,kept K [] o->γ o=some g->γ' o=some g:=λo g ho hg=>h.gam o g hg ho.2
theorem Nl(hcf:b0 P callf)(hm:P.follows .mixedOrders=true)(id:Nat)(ops:Array Oper)(draw:Bool){M:Tri AV}{O:Tri Ob}{N:Nat}{tm:TM}{x:AX}{M':Tri AV}{O':Tri Ob}{N':Nat}{tm':TM}(hr:Ck ops.toList draw (fL P n callf pu ops.toList ops.toList M O N tm)= .ok x M' O' N' tm')(hok0:cr tm'.ok=true)(hex: ∃L ob,cm M L/\bK O N ob):Runs P n (.region id ops draw) M O N tm x M' O' N' tm':=by
 have hops:ops=ops.toList.toArray:=by simp
 have base: ∀L ob,cm M L->bK O N ob->Kept O O' tm tm'/\(∃L' ob',cm M' L'/\bK O' N' ob')/\ ∀df K Q,jk df (.region id ops draw)->(∀L' ob',cm M' L' ->bK O' N' ob' ->Q x L' ob')->awp df P n K [] (.region id ops draw) Q L ob:=by
  intro L ob hM hO;have hok:=lA (pu:=pu) (n:=n) hcf ops.toList ops.toList hM hO tm;cases hrun:fL P n callf pu ops.toList ops.toList M O N tm with
  |fail=>rw[hrun]at hr;cases hr
  |ok recs M2 O2 N2 t2=>
   rw[hrun]at hr hok;have key:x= .normal/\M'=M2/\O'=O2/\N'=N2/\tm'=t2/\(draw=true->pn ops.toList recs=true):=by
    cases draw with
    |false=>grind[Ck]
    |true=>simp only[Ck]at hr;grind
   obtain⟨rfl,rfl,rfl,rfl,rfl,hd⟩:=key;obtain⟨L2,ob2,g1,g2,g3,g4,g5⟩:=hok hok0;refine⟨g5,⟨L2,ob2,g1,g2⟩,λdf K Q hdo hq=> ?_⟩;intro m γ w a hi hl hs hdf;cases draw with
   |false=>rw[hops];refine wpIn_region_lit ?_;have:=oY g3 g4 [] hdo (Q:=jx false a.defers K [] n Q m γ w) hi hl hs (λm' γ' w' a' ht hi' hl' hs' hd' hk'=>⟨m',γ',L2,ob2,.normal,hq L2 ob2 g1 g2,trivial,ht,hi',hl',hs',.of_eq hd',P9 hk'⟩);simpa [Code.rf]using this
   |true=>rw[hops];exact G0 hm hdo g3 (hd rfl) hi hl hs λm' γ' w' a' ht hi' hl' hs' hd' hk'=>⟨m',γ',L2,ob2,.normal,hq L2 ob2 g1 g2,trivial,ht,hi',hl',hs',.of_eq hd',oaq⟩
  |pan av M2 O2 N2 t2=>
   rw[hrun]at hr hok;cases draw with
   |true=>cases hr
   |false=>
    simp only[Ck,agx,afN,RX.ok.injEq]at hr;obtain⟨rfl,rfl,rfl,rfl,rfl⟩:=hr;obtain⟨l1,o,l2,recs,L1,oba,obb,g0,g1,g2,g3,g4,g5,g6⟩:=hok hok0;refine⟨g6,⟨L1,obb,g3,g4⟩,λdf K Q hdo hq=> ?_⟩;intro m γ w a hi hl hs hdf;rw[hops];refine wpIn_region_lit ?_;have hst:df=none\/(l1++o::l2).all Oper.still=true:=hdo.imp (λh=>h) λe=>by rw[<-g0];exact e
    have hst1:df=none\/l1.all Oper.still=true:=oay;have hst2:df=none\/Oper.still o=true:=oay;have hgo:wpListIn (dx df) 0 P ops.toList.toArray (jx false a.defers K [] n Q m γ w) (l1++o::l2) a w:=by refine oY g1 g2 (o::l2) hst1 (Q:=jx false a.defers K [] n Q m γ w) hi hl hs (λm' γ' w' a' ht hi' hl' hs' hd' hk'=> ?_);obtain⟨hw,hwp⟩:=g5 m' γ' w' a' (wpListIn (dx df) 0 P ops.toList.toArray (jx false a.defers K [] n Q m γ w) l2) (jx false a.defers K [] n Q m γ w) hi' hl' (λm2 γ2 w2 v ht2 hle2 hi2 hv=>⟨m2,γ2,L1,obb,.panic av,hq L1 obb g3 g4,⟨v,rfl,hv⟩,ht.trans ht2,hi2,xi hl' hle2,hs',.of_eq hd',λq g ho hg=>hle2.gam q g (hk'.gam q g hg ho.2) ho.2⟩);grind[wpListIn,pk]
    rw[<-g0]at hgo;exact hgo
 obtain⟨L0,ob0,hM0,hO0⟩:=hex;exact⟨(base L0 ob0 hM0 hO0).1,λL ob hM hO=>(base L ob hM hO).2⟩
def jmp(P:Program)(c:Code)(Q:Exit->Act->World->Prop):Nat->Exit->Act->World->Prop
 |0,.goto _,_,_=>False
 |k+1,.goto l,a,w=> ∃rest,findLabel c l=some rest/\rest.wp P (jmp P c Q k) a w
 |_,e,a,w=>Q e a w
theorem Cx{c:Code}{Q:Exit->Act->World->Prop}{a:Act}{w:World}(k:Nat)(first:c.wp P (jmp P c Q k) a w):(Code.scope c).wp P Q a w:=by
 intro b items cs;have hg: ∀l rest,findLabel c l=some rest->gotoIn l (.inScope c::items)=some (.code rest:: .inScope c::items):=λl rest hf=>by simp[gotoIn,hf]
 have key: ∀(k:Nat)(r:Code)(a:Act)(w:World),r.wp P (jmp P c Q k) a w-> ∃e a' w',Q e a' w'/\Arrives P (lone (b.at a (.code r:: .inScope c::items)) cs w) b items cs e a' w':=by
  intro k;induction k with
  |zero=>
   intro r a w hr;obtain⟨e,a₁,w₁,hq,harr⟩:=hr b (.inScope c::items) cs;cases e with
   |normal=>exact⟨.normal,a₁,w₁,hq,Steps.trans harr (.one step_inScope)⟩
   |exit id=>exact⟨.exit id,a₁,w₁,hq,λk' hk=>harr k' (by simp[exitTo,hk])⟩
   |goto l'=>exact hq.elim
   |ret=>exact⟨_,a₁,w₁,hq,harr⟩
   |panic ch=>exact⟨_,a₁,w₁,hq,harr⟩
   |outgrown=>exact⟨_,a₁,w₁,hq,harr⟩
  |succ k ih=>
   intro r a w hr;obtain⟨e,a₁,w₁,hq,harr⟩:=hr b (.inScope c::items) cs;cases e with
   |normal=>exact⟨.normal,a₁,w₁,hq,Steps.trans harr (.one step_inScope)⟩
   |exit id=>exact⟨.exit id,a₁,w₁,hq,λk' hk=>harr k' (by simp[exitTo,hk])⟩
   |goto l'=>obtain⟨rest,hf,hrest⟩:=hq;obtain⟨e₂,a₂,w₂,hq₂,harr₂⟩:=ih rest a₁ w₁ hrest;exact⟨e₂,a₂,w₂,hq₂,.of_steps (harr _<|hg l' rest hf) harr₂⟩
   |ret=>exact⟨_,a₁,w₁,hq,harr⟩
   |panic ch=>exact⟨_,a₁,w₁,hq,harr⟩
   |outgrown=>exact⟨_,a₁,w₁,hq,harr⟩
 obtain⟨e,a',w',hq,harr⟩:=key k c a w first
 exact⟨e,a',w',hq,.of_steps (.one step_scope) harr⟩
def No(P:Program)(n K:Nat)(kk:lXC)(c:Code)(Q:dy):Nat->dy
 |0,.goto _,_,_=>False
 |k+1,.goto l,L,ob=> ∃rest,findLabel c l=some rest/\(!rest.rf||c.rf)=true/\awp none P n K kk rest (No P n K kk c Q k) L ob
 |_,x,L,ob=>Q x L ob
section
variable{K:Nat}{kk:lXC}{c:Code}{Q:dy}
theorem ZV{k:Nat}{x:AX}{L:Loc}{ob:lXE}(hx: ∀l,x≠ .goto l)(h:Q x L ob):No P n K kk c Q k x L ob:=by
 cases x with
 |goto l=>exact absurd rfl (hx l)
 |_=>cases k<;>exact h
theorem AR{L:Loc}{ob:lXE}(k:Nat)(h:awp none P n K kk c (No P n K kk c Q k) L ob):awp none P n K kk (.scope c) Q L ob:=by
 intro m γ w a hi hl hs _;refine wpIn_wide.2 (Cx k ?_);have key: ∀(k:Nat)(r:Code),(!r.rf||c.rf)=true-> ∀(L:Loc)(ob:lXE),awp none P n K kk r (No P n K kk c Q k) L ob-> ∀m1 γ1 w1 a1,Trans m γ w m1 γ1 w1->(∀o g,kept K kk o->γ o=some g->γ1 o=some g)->Marks c.rf a.defers w a1.defers γ1 w1->Inv m1 γ1 ob w1->bS m1 γ1 a1 L->a1.tmps.size=n->
   r.wp P (jmp P c (jx c.rf a.defers K kk n Q m γ w) k) a1 w1:=by
  intro k;induction k with
  |zero=>
   intro r hrf L ob hr m1 γ1 w1 a1 ht hk hm hi hl hs;refine wp_mono (wpIn_wide.1<|hr m1 γ1 w1 a1 hi hl hs trivial) ?_;rintro e a2 w2 hp;have hp':=jx.trans (rf:=c.rf) (rf1:=c.rf) (rf2:=r.rf) (ds0:=a.defers) ht hk hm (λe=>e) (λe=>by rw[e]at hrf;simpa using hrf) hp;obtain⟨m2,γ2,L2,ob2,ax,h1,h2,h3⟩:=hp';cases e with
   |goto l=>cases ax<;>first|exact h2.elim|exact h1.elim
   |normal=>cases ax<;>first|exact h2.elim|exact⟨m2,γ2,L2,ob2,_,h1,h2,h3⟩
   |ret=>cases ax<;>first|exact h2.elim|exact⟨m2,γ2,L2,ob2,_,h1,h2,h3⟩
   |exit=>cases ax<;>first|exact h2.elim|exact⟨m2,γ2,L2,ob2,_,h1,h2,h3⟩
   |panic=>cases ax<;>first|exact h2.elim|exact⟨m2,γ2,L2,ob2,_,h1,h2,h3⟩
   |outgrown=>cases ax<;>exact h2.elim
  |succ k ih=>
   intro r hrf L ob hr m1 γ1 w1 a1 ht hk hm hi hl hs;refine wp_mono (wpIn_wide.1<|hr m1 γ1 w1 a1 hi hl hs trivial) ?_;rintro e a2 w2 hp;have hp':=jx.trans (rf:=c.rf) (rf1:=c.rf) (rf2:=r.rf) (ds0:=a.defers) ht hk hm (λe=>e) (λe=>by rw[e]at hrf;simpa using hrf) hp;obtain⟨m2,γ2,L2,ob2,ax,h1,h2,h3⟩:=hp';cases e with
   |goto l=>
    cases ax<;>first|exact h2.elim|skip
    obtain⟨rest,q1,q2,q3⟩:=h1;obtain⟨h3,h4,h5,h6,h7,h8⟩:=h3;simp only[oS]at h2;subst h2;exact⟨rest,q1,oay⟩
   |normal=>cases ax<;>first|exact h2.elim|exact⟨m2,γ2,L2,ob2,_,h1,h2,h3⟩
   |ret=>cases ax<;>first|exact h2.elim|exact⟨m2,γ2,L2,ob2,_,h1,h2,h3⟩
   |exit=>cases ax<;>first|exact h2.elim|exact⟨m2,γ2,L2,ob2,_,h1,h2,h3⟩
   |panic=>cases ax<;>first|exact h2.elim|exact⟨m2,γ2,L2,ob2,_,h1,h2,h3⟩
   |outgrown=>cases ax<;>exact h2.elim
 exact key k c (by cases c.rf<;>rfl) L ob h m γ w a (Trans.refl _ _ _) (λ_ _ _ h=>h) (Marks.none _ _ _ _ _) hi hl hs
end
def mG(P:Program)(n:Nat)(c:Code)(M:Tri AV)(O:Tri Ob)(N:Nat)(tm:TM)(x:AX)(M':Tri AV)(O':Tri Ob)(N':Nat)(tm':TM):Prop:=Ext tm tm'/\(cr tm'.ok=true->(∃L ob,cm M L/\bK O N ob)->Runs P n c M O N tm x M' O' N' tm')
section
variable{c:Code}{M:Tri AV}{O:Tri Ob}{N:Nat}{tm:TM}{x:AX}
theorem ou{M':Tri AV}{O':Tri Ob}{N':Nat}{tm':TM}(h:Runs P n c M O N tm x M' O' N' tm')(hex: ∃L ob,cm M L/\bK O N ob): ∃L ob,cm M' L/\bK O' N' ob:=by obtain⟨L,ob,h1,h2⟩:=hex;exact(h.2 L ob h1 h2).1
theorem jR(h: ∀df K Q L ob,Q x L ob->awp df P n K [] c Q L ob):Runs P n c M O N tm x M O N tm:=⟨Kept.refl _ _,oay⟩
end
theorem pG(step:Tri AV->Tri Ob->Nat->TM->RX)(k:Nat)(M:Tri AV)(O:Tri Ob)(N:Nat)(tm:TM):wW step (k+1) M O N tm=qK (wW step k) (step M O N tm):=rfl
theorem Qa(hcf:b0 P callf)(ops:List Oper)(draw:Bool){M:Tri AV}{O:Tri Ob}{N:Nat}{tm:TM}{x:AX}{M':Tri AV}{O':Tri Ob}{N':Nat}{tm':TM}(h:Ck ops draw (fL P n callf pu ops ops M O N tm)= .ok x M' O' N' tm'):Ext tm tm':=by
 have hext:=pF (pu:=pu) (n:=n) hcf ops ops (M:=M) (O:=O) (N:=N) (tm:=tm);cases hr:fL P n callf pu ops ops M O N tm with
 |fail=>rw[hr]at h;cases h
 |ok recs M2 O2 N2 t2=>
  rw[hr]at h;cases draw with
  |false=>cases h;exact hext.1 hr
  |true=>grind[Ck]
 |pan av M2 O2 N2 t2=>
  rw[hr]at h;cases draw with
  |false=>cases h;exact hext.2 hr
  |true=>cases h
theorem ZW{c:Code}{step:Tri AV->Tri Ob->Nat->TM->RX}(hstep: ∀{M O N tm x M' O' N' tm'},step M O N tm= .ok x M' O' N' tm' ->mG P n c M O N tm x M' O' N' tm'){x:AX}{M':Tri AV}{O':Tri Ob}{N':Nat}{tm':TM}: ∀(lf:Nat){M:Tri AV}{O:Tri Ob}{N:Nat}{tm:TM},wW step lf M O N tm= .ok x M' O' N' tm' ->mG P n (.loop c) M O N tm x M' O' N' tm':=by
 have ext: ∀(lf:Nat){M:Tri AV}{O:Tri Ob}{N:Nat}{tm:TM},wW step lf M O N tm= .ok x M' O' N' tm' ->Ext tm tm':=by
  intro lf;induction lf with
  |zero=>intro M O N tm h;cases h
  |succ k ih=>
   intro M O N tm h;rw[pG]at h;cases hs:step M O N tm with
   |fail=>rw[hs]at h;cases h
   |ok x1 M1 O1 N1 t1=>
    rw[hs]at h;have he:=(hstep hs).1;cases x1 with
    |normal=>exact he.trans (ih h)
    |_=>cases h;exact he
 have first: ∀(lf:Nat){M:Tri AV}{O:Tri Ob}{N:Nat}{tm:TM},wW step lf M O N tm= .ok x M' O' N' tm' ->cr tm'.ok=true->(∃L ob,cm M L/\bK O N ob)->Kept O O' tm tm'/\ ∃L' ob',cm M' L'/\bK O' N' ob':=by
  intro lf;induction lf with
  |zero=>intro M O N tm h _;cases h
  |succ k ih=>
   intro M O N tm h hok hex;rw[pG]at h;cases hs:step M O N tm with
   |fail=>rw[hs]at h;cases h
   |ok x1 M1 O1 N1 t1=>
    rw[hs]at h;cases x1 with
    |normal=>simp only[qK]at h;have hr:=(hstep hs).2 ((ext k h).ok hok) hex;obtain⟨k1,k2⟩:=ih h hok (ou hr hex);exact⟨hr.1.trans k1,k2⟩
    |_=>simp only[qK,RX.ok.injEq]at h;obtain⟨rfl,rfl,rfl,rfl,rfl⟩:=h;have hr:=(hstep hs).2 hok hex;exact⟨hr.1,ou hr hex⟩
 intro lf M O N tm h;refine⟨ext lf h,λhok hex=> ?_⟩;refine⟨(first lf h hok hex).1,λL ob hM hO=>⟨(first lf h hok ⟨L,ob,hM,hO⟩).2,λdf K Q hdo hq=> ?_⟩⟩;refine mW (ι:=Nat×Loc×lXE) (λi=>i.2.1) (λi=>i.2.2) (λi=> ∃M O N tm,cm M i.2.1/\bK O N i.2.2/\wW step i.1 M O N tm= .ok x M' O' N' tm') (λi=>i.1) (lf,L,ob) ⟨M,O,N,tm,hM,hO,h⟩ (Sub.refl _) rfl ?_;rintro⟨k,Li,obi⟩ ⟨Mi,Oi,Ni,ti,hMi,hOi,hi⟩;cases k with
 |zero=>cases hi
 |succ k=>
  rw[pG]at hi;cases hs:step Mi Oi Ni ti with
  |fail=>rw[hs]at hi;cases hi
  |ok x1 M1 O1 N1 t1=>
   rw[hs]at hi;cases x1 with
   |normal=>simp only[qK]at hi;have hr:=(hstep hs).2 ((ext k hi).ok hok) ⟨Li,obi,hMi,hOi⟩;refine((hr.2 Li obi hMi hOi).2 df K _ hdo) λL' ob' hM' hO'=> ?_;exact⟨(k,L',ob'),⟨M1,O1,N1,t1,hM',hO',hi⟩,ag3 k,Sub.refl _,rfl⟩
   |_=>simp only[qK,RX.ok.injEq]at hi;obtain⟨rfl,rfl,rfl,rfl,rfl⟩:=hi;have hr:=(hstep hs).2 hok ⟨Li,obi,hMi,hOi⟩;exact((hr.2 Li obi hMi hOi).2 df K _ hdo) λL' ob' hM' hO'=>hq L' ob' hM' hO'
section
variable{m:Mem}{γ:Gam}{ob:lXE}{w:World}
theorem Hv(hi:Inv m γ ob w)(O:Obj):Inv m γ ob (w.alloc O):=⟨sz hi O,λo X hX=>dU (hi.obj o X hX) (Le.refl _ _ _) (λb C hb=>alloc_old w O<|hi.dom o b C hb) (λ_ _ _ _ h=>h),hi.sep,λo b C h=>by rw[World.size_alloc];exact Nat.lt_succ_of_lt (hi.dom o b C h),hi.len,hi.tab.old λk hk=>alloc_old w O hk⟩
theorem Hw(hi:Inv m γ ob w){o l C:Nat}{Z:Ob}(ho:ob[o]? =some Z)(hZ:Z≠ .dead)(hg:γ o=some (some (l,C))){r:Loop}(hr:w.heap[l]? =some (.loop r))(r':Loop){X:Ob}(hX:gP m γ (w.putObj l<|.loop r') o X):Inv m γ (ob.set o X) (w.putObj l<|.loop r')/\Trans m γ w m γ (w.putObj l<|.loop r'):=by
 have hoth: ∀k,k≠l->(w.putObj l<|.loop r').heap[k]? =w.heap[k]? :=λk hk=>World.putObj_heap_other hk;have hlo:live ob o:=⟨Z,ho,hZ⟩;have hlt:=(afF.1 ho).1;have hlv: ∀i,live (ob.set o X) i->live ob i:=by
  rintro i ⟨Y,hY,hne⟩;by_cases hio:i=o
  ·rw[hio];exact hlo
  ·rw[af1 (Ne.symm hio)]at hY;exact⟨Y,hY,hne⟩
 refine⟨⟨λa x hx=> ?_,λi Y hY=> ?_,λi j b C1 C2 l1 l2=>hi.sep i j b C1 C2 (hlv i l1) (hlv j l2),λi b C1 h=>by rw[World.putObj_size];exact hi.dom i b C1 h,λi h=>by rw[af3];exact hi.len i h,hi.tab.of_eq λg cs hgg=>hoth g λe=>by subst e;obtain⟨t,fr,q⟩:=hi.tab _ cs hgg;rw[hr]at q;cases q⟩,⟨λ_ _ h=>h,λ_ _ h=> .inl h,λ_ _ h=>h,rfl,rfl,rfl,by rw[World.putObj_size];exact afG _,λk _ hn=>hoth k λe=>hn ⟨o,C,e▸hg⟩⟩⟩
 ·have hc:=hi.mem a x hx;have hne:a.block≠l:=by intro e;unfold World.cell? at hc;rw[e,hr]at hc;simp at hc
  unfold World.cell? at hc⊢;rw[hoth _ hne];exact hc
 ·by_cases hio:i=o
  ·subst hio;rw[agi hlt]at hY;cases hY;exact hX
  ·rw[af1 (Ne.symm hio)]at hY;by_cases hYd:Y= .dead
   ·subst hYd;trivial
   ·exact dU (hi.obj i Y hY) (Le.refl _ _ _) (λb C1 hb=>hoth b λe=>hio<|hi.sep i o b C1 C ⟨Y,hY,hYd⟩ hlo hb<|e▸hg) (λ_ _ _ _ h=>h)
end
theorem Np{K:Nat}{g:Operand}{ps:Array Tmp}{a b:Code}{Q:dy}{L:Loc}{ob ob1:lXE}{f:FuncId}{cs vs:lXF}{ts:lXC}{r:AV}{k':ej}{ts':lXC}{vs':lXF}(hg:aX L g=some (.fn (.func f) [] cs))(hlen:ts.length=vs.length)(hts: ∀(i t:Nat)(c:AV),ts[i]? =some t->vs[i]? =some c->t<n/\lk L t=some c)(hc:aQ P f (.yl ob.length::cs) (ob++ [.lp false ⟨n,ps,a,b,none⟩ ts vs]) [] r ob1)(h1:ob1[ob.length]? =some (.lp false k' ts' vs')){x:AX}(hx:J0 k'.jump=some x)(hq:Q x L (ob1.set ob.length .dead)):awp none P n K [] (.rangeFunc g ps a b) Q L ob:=by
 intro m γ w act hi hl hs _;obtain⟨⟨fn0,hf0,hname,hb0⟩,hc⟩:=hc;have hgr:=mV hl hg;simp only[Rep,au]at hgr;obtain⟨xs0,ys,eg,rfl,rc⟩:=hgr;refine wpIn_rangeFunc (F:=dx none) λfn _=> ?_;have e2: ¬fn0.name= "runtime.NumGoroutine" :=by simpa using hname
 have e3: ¬fn0.body=none:=by intro e;simp[e]at hb0
 let rec0:Loop:={state:= .ready,pending:=none,fn:=fn,tmps:=act.tmps,params:=ps,assign:=a,body:=b,defers:=w.heap.size};let w0:=w.alloc (.deferred<|some []);let w1:=w0.alloc (.loop rec0);have hs0:w0.heap.size=w.heap.size+1:=World.size_alloc _ _;have hs1:w1.heap.size=w.heap.size+2:=by show(w0.alloc _).heap.size=_;rw[World.size_alloc,hs0]
 have hi0:Inv m γ ob w0:=Hv hi _;have hg1:dT γ ob.length w0.heap.size 0 ob.length=some (some (w.heap.size+1,0)):=by simp[dT,hs0]
 have hle1:Le m γ [] m (dT γ ob.length w0.heap.size 0):=fS hi0 _ _;have hl1:w1.heap[w.heap.size+1]? =some (.loop rec0):=by have:=World.alloc_heap_new w0 (.loop rec0);rwa[hs0]at this
 have hD1:w1.heap[w.heap.size]? =some (.deferred<|some []):=by rw[show w1.heap[w.heap.size]? =w0.heap[w.heap.size]? from alloc_old w0 _ (by rw[hs0];exact ag3 _)];exact World.alloc_heap_new w _
 have hob:gP m (dT γ ob.length w0.heap.size 0) w1 ob.length (.lp false ⟨n,ps,a,b,none⟩ ts vs):=by
  refine⟨w.heap.size+1,rec0,ts.map (λt=>act.tmps.getD t undef),hg1,hl1,⟨rfl,rfl,rfl,rfl,rfl,hs⟩,?_,λi t x h1 h2=> ?_,λoff=>jD hi oaf off⟩
  ·refine cF (by simp[hlen]) λi c x hci hxi=> ?_;rw[afM]at hxi;cases hti:ts[i]? with
   |none=>rw[hti]at hxi;cases hxi
   |some t=>rw[hti]at hxi;simp only[afV,afD]at hxi;subst hxi;exact n8 hle1 (hl t c (hts i t c hti hci).2).2
  ·rw[afM,h1]at h2;simp only[afV,afD]at h2;obtain⟨c,hci⟩: ∃c,vs[i]? =some c:=⟨_,afR (by have:=(afF.1 h1).1;omega)⟩;exact⟨(hts i t c h1 hci).1,h2⟩
 obtain⟨hi1,ht1⟩:=n9 hi0 (.loop rec0) 0 (.lp false ⟨n,ps,a,b,none⟩ ts vs) hob;have hv:au m (dT γ ob.length w0.heap.size 0) (.yl ob.length::cs) (.func (.yield<|w.heap.size+1) #[] #[]::ys):=by simp only[au,Rep];exact⟨_,_,rfl,⟨_,_,hg1,rfl⟩,fK hle1 rc⟩
 refine⟨w.heap.size+1,[mark w.heap.size],w1,{target:= .fn (.func f) ys.toArray,args:= #[.func (.yield<|w.heap.size+1) #[] #[]]},w1,f,(.func (.yield<|w.heap.size+1) #[] #[]::ys).toArray,w1,?_,?_,λ_ _=>trivial,?_,λh=>oah,?_⟩
 ·exact run_enterLoop_outer _ _ _ _ _
 ·simp only[resolve,eg];simp[go_sem]
 ·simp[invoke,callFunc,hf0,e2,e3]
 ·refine wb.2 ((hc m _ w1 _ hi1 hv).mono ?_);rintro e w3 ⟨m3,γ3,r3,ob3,⟨rfl,rfl⟩,p2,p3,p4,p5⟩;cases e with
  |panicked chain=>exact p2.elim
  |outgrown=>exact p2.elim
  |returned v=>
   have hg3:γ3 ob.length=some (some (w.heap.size+1,0)):=p5 _ _ rfl hg1;obtain⟨l3,r3,xs3,q1,q2,⟨q3,q4,_⟩,_⟩:=p4.obj ob.length _ h1;rw[hg3]at q1;cases q1;have hnb:r3.state≠ .busy:=by rw[q3];unfold ej.state;cases k'.jump<;>simp
   refine⟨k'.jump,w3.putObj (w.heap.size+1) (.loop {r3 with state:= .exhausted}),?_,?_⟩
   ·exact(run_endLoop (P:=P) (w:=w3) q2 hnb).trans (by rw[q4])
   ·obtain⟨hi4,ht4⟩:=Hw p4 h1 oaf hg3 q2 {r3 with state:= .exhausted} (X:= .dead) trivial;have hin1: ∀j,InG (dT γ ob.length w0.heap.size 0) j->InG γ j\/j=w.heap.size+1:=by
     rintro j ⟨o,C,ho⟩;unfold dT at ho;split at ho
     ·simp at ho;right;omega
     ·exact .inl ⟨o,C,ho⟩
    have ht0:Trans m γ w m γ w0:=⟨λ_ _ h=>h,λ_ _ h=> .inl h,λ_ _ h=>h,rfl,rfl,rfl,by rw[hs0];exact Nat.le_succ _,λj hj _=>alloc_old w _ hj⟩;have htall:=((ht0.trans ht1).trans p3).trans ht4;have hDn: ¬InG (dT γ ob.length w0.heap.size 0) w.heap.size:=λh=>by
     rcases hin1 _ h with⟨o,C,ho⟩|h
     ·exact absurd (hi.dom o _ C ho) (Nat.lt_irrefl _)
     ·omega
    have hD3:w3.heap[w.heap.size]? =some (.deferred<|some []):=(p3.blk _ (by rw[hs1];omega) hDn).trans hD1;have hkeep: ∀o g,γ o=some g->γ3 o=some g:=λo g ho=>p5 o g rfl (hle1.gam o g ho rfl);have fin: ∀e,oS m3 γ3 e x->jx (Code.rangeFunc g ps a b).rf act.defers K [] n Q m γ w e {act with defers:=[mark w.heap.size]++act.defers} (w3.putObj (w.heap.size+1)<|.loop {r3 with state:= .exhausted}):=by intro e hex;refine⟨m3,γ3,L,ob3.set ob.length .dead,x,hq,hex,htall,hi4,xi hl ⟨htall.mem,λo g ho _=>hkeep o g ho⟩,hs,⟨[w.heap.size],rfl,.inl rfl,ahe.2 ⟨by simp,agU⟩,λD hD=> ?_⟩,λo g _ ho=>hkeep o g ho⟩;simp only[agc,agI,or_false]at hD;subst hD;refine⟨afG _,?_,(World.putObj_heap_other oaa).trans hD3,λh=>hDn (p3.gam _ (by rw[hs1];omega) h)⟩;rw[World.putObj_size];have:=p3.size;rw[hs1]at this;omega
    generalize hjj:k'.jump=j at hx;cases j with
    |none=>simp only[J0,afD]at hx;subst hx;exact fin .normal trivial
    |some c=>
     cases c<;>simp only[J0,afD]at hx<;>first|exact absurd hx oaf|skip
     ·subst hx;exact wpIn_exit (fin _ rfl)
     ·subst hx;exact wpIn_ret (fin _ trivial)
theorem Qb(hcf:b0 P callf){g:Operand}{ps:Array Tmp}{a b:Code}{M:Tri AV}{O:Tri Ob}{N:Nat}{tm:TM}{x:AX}{M':Tri AV}{O':Tri Ob}{N':Nat}{tm':TM}(h:rngR n callf g ps a b M O N tm= .ok x M' O' N' tm'):mG P n (.rangeFunc g ps a b) M O N tm x M' O' N' tm':=by
 unfold rngR at h;split at h
 rotate_left;·cases h
 rename_i f cs hg;generalize hl:((M.all 0 1 []).filter λp=>match M.get p.1 with
   |some _=>Nat.blt p.1 n
   |none=>false)=l at h
 simp only at h;cases hb:Nat.blt f dm&&(a.inR&&b.inR)with
 |false=>rw[hb]at h;cases h
 |true=>
  rw[hb]at h;simp only[afv]at hb;have hfb:f<dm:=nbl hb.1;simp only[afN]at h;generalize hvs:(l.map λp=>match M.get p.1 with
   |some av=>av
   |none=>AV.any)=vs at h
  cases hcall:callf f (.yl N::cs) (O.set (.lp false ⟨n,ps,a,b,none⟩ (l.map (·.1)) vs) N) (N+1) (tm.at (N+1))with
  |fail=>rw[hcall]at h;cases h
  |pan av O1 N1 t1=>rw[hcall]at h;cases h
  |ret r O1 N1 t1=>
   rw[hcall]at h;simp only[rngE]at h;split at h
   rotate_left;·cases h
   rename_i k' ts' vs' ho;split at h
   rotate_left;·cases h
   rename_i x hx;cases h;obtain⟨hext,hret⟩:=(hcf _ _ _ _ _).1 _ _ _ _ hcall;refine⟨hext,λhok hex=> ?_⟩;have base: ∀L ob,cm M L->bK O N ob-> ∃ob1,bK O1 N' ob1/\ob1[ob.length]? =some (.lp false k' ts' vs')/\(∀i,tb t1.lo i=false->O1.get i=(O.set (.lp false ⟨n,ps,a,b,none⟩ (l.map (·.1)) vs) N).get i)/\ ∀K Q,Q x L (ob1.set ob.length .dead)->awp none P n K [] (.rangeFunc g ps a b) Q L ob:=by
    intro L ob hM hO;obtain rfl:=hO.1;have hpush: ∀X:Ob,bK (O.set X ob.length) (ob.length+1) (ob++ [X]):=λX=>hO.app (.push X);obtain⟨ob1,h1,h2,h3⟩:=hret hok _ (hpush _);have hk1:ob1[ob.length]? =some (.lp false k' ts' vs'):=by rw[<-h1.2];exact ho
    refine⟨ob1,h1,hk1,h3,λK Q hq=> ?_⟩;refine Np (by rw[<-hM.tev];exact hg) (by rw[<-hvs];simp) (λi t c e1 e2=> ?_) (h2.1 hfb) hk1 hx hq;rw[afM]at e1;rw[<-hvs,afM]at e2;cases hli:l[i]? with
    |none=>rw[hli]at e1;cases e1
    |some p=>
     rw[hli]at e1 e2;simp only[afV,afD]at e1 e2;subst e1;have hm:p∈l:=agm hli;rw[<-hl]at hm;have hp:=(List.mem_filter.1 hm).2;cases hMp:M.get p.1 with
     |none=>rw[hMp]at hp;cases hp
     |some av=>rw[hMp]at hp e2;simp only at hp e2;subst e2;exact⟨nbl hp,by rw[<-hM p.1];exact hMp⟩
   have hset: ∀ob ob1:lXE,bK O1 N' ob1->ob1[ob.length]? =some (.lp false k' ts' vs')->bK (O1.set .dead ob.length) N' (ob1.set ob.length .dead):=by
    intro ob ob1 h1 h2;have hlt:=(afF.1 h2).1;refine⟨by rw[af3];exact h1.1,λi=> ?_⟩;rw[cn,List.getElem?_set,h1.2];by_cases e:ob.length=i
    ·subst e;simp[hlt]
    ·simp[e]
   obtain⟨L0,ob0,hM0,hO0⟩:=hex;obtain⟨ob1,h1,h2,h3,h4⟩:=base L0 ob0 hM0 hO0;obtain rfl:=hO0.1;refine⟨⟨λi hi=>(kp (jj hi).1).1,λi hi=> ?_⟩,λL ob hM hO=> ?_⟩
   ·have i1:=iA (jj hi).2;have i2:=(kp (jj hi).1).2;rw[cn,if_neg i1,h3 i i2,cn,if_neg i1]
   ·obtain⟨ob2,g1,g2,g3,g4⟩:=base L ob hM hO;have hN:=hO.1;refine⟨⟨L,ob2.set ob.length .dead,hM,?_⟩,λdf K Q hd hq=> ?_⟩
    ·rw[<-hN];exact hset ob ob2 g1 g2
    ·obtain rfl:df=none:=hd.resolve_right (λe=>by cases e);exact g4 K Q (hq L (ob2.set ob.length .dead) hM<|by rw[<-hN];exact hset ob ob2 g1 g2)
section
variable(run:Code->Tri AV->Tri Ob->Nat->TM->RX)(c:Code)
theorem Ff(x:RX):pD run c 0 x=noGo x:=rfl
theorem Fg(k:Nat)(x:RX):pD run c (k+1) x=P1 run c (pD run c k) x:=rfl
end
section
variable{run:Code->Tri AV->Tri Ob->Nat->TM->RX}
theorem Qc(hrun: ∀{c:Code}{M:Tri AV}{O:Tri Ob}{N:Nat}{tm:TM}{x:AX}{M':Tri AV}{O':Tri Ob}{N':Nat}{tm':TM},run c M O N tm= .ok x M' O' N' tm' ->mG P n c M O N tm x M' O' N' tm'){c:Code}{x:AX}{M':Tri AV}{O':Tri Ob}{N':Nat}{tm':TM}: ∀(k:Nat){r:Code}{M:Tri AV}{O:Tri Ob}{N:Nat}{tm:TM}{y:RX},(∀{x' M1 O1 N1 t1},y= .ok x' M1 O1 N1 t1->mG P n r M O N tm x' M1 O1 N1 t1)->pD run c k y= .ok x M' O' N' tm' ->Ext tm tm'/\(cr tm'.ok=true->(∃L ob,cm M L/\bK O N ob)->Kept O O' tm tm'/\ ∀L ob,cm M L->bK O N ob->(∃L' ob',cm M' L'/\bK O' N' ob')/\ ∀K Q,(∀L' ob',cm M' L' ->bK O' N' ob' ->Q x L' ob')->awp none P n K [] r (No P n K [] c Q k) L ob):=by
 have fin: ∀(k:Nat){r:Code}{M:Tri AV}{O:Tri Ob}{N:Nat}{tm:TM},(∀l,x≠ .goto l)->mG P n r M O N tm x M' O' N' tm' ->Ext tm tm'/\(cr tm'.ok=true->(∃L ob,cm M L/\bK O N ob)->Kept O O' tm tm'/\ ∀L ob,cm M L->bK O N ob->(∃L' ob',cm M' L'/\bK O' N' ob')/\ ∀K Q,(∀L' ob',cm M' L' ->bK O' N' ob' ->Q x L' ob')->awp none P n K [] r (No P n K [] c Q k) L ob):=by intro k r M O N tm hx hr;refine⟨hr.1,λhok hex=>⟨(hr.2 hok hex).1,λL ob hM hO=>⟨((hr.2 hok hex).2 L ob hM hO).1,λK Q hq=> ?_⟩⟩⟩;exact((hr.2 hok hex).2 L ob hM hO).2 none K _ (.inl rfl) (by grind[ZV])
 intro k;induction k with
 |zero=>
  intro r M O N tm y hy h;rw[Ff]at h;cases y with
  |fail=>cases h
  |ok x1 M1 O1 N1 t1=>
   cases x1 with
   |goto l=>cases h
   |_=>cases h;exact fin 0 oaf (hy rfl)
 |succ k ih=>
  intro r M O N tm y hy h;rw[Fg]at h;cases y with
  |fail=>cases h
  |ok x1 M1 O1 N1 t1=>
   cases x1 with
   |goto l=>
    simp only[P1]at h;split at h
    rotate_left;·cases h
    rename_i rest hf;cases hc: !rest.rf||c.rf with
    |false=>rw[hc]at h;cases h
    |true=>rw[hc]at h;simp only[afN]at h;obtain⟨e1,k1⟩:=hy rfl;obtain⟨e2,k2⟩:=ih (r:=rest) (M:=M1) (O:=O1) (N:=N1) (tm:=t1) (λh=>hrun h) h;refine⟨e1.trans e2,λhok hex=> ?_⟩;have r1:=k1 (e2.ok hok) hex;have r2:=k2 hok (ou r1 hex);refine⟨r1.1.trans r2.1,λL ob hM hO=> ?_⟩;obtain⟨⟨L1,ob1,a1,a2⟩,a3⟩:=r1.2 L ob hM hO;refine⟨(r2.2 L1 ob1 a1 a2).1,λK Q hq=>a3 none K _ (.inl rfl) λL' ob' hM' hO'=> ?_⟩;exact⟨rest,hf,hc,(r2.2 L' ob' hM' hO').2 K Q hq⟩
   |_=>cases h;exact fin (k+1) oaf (hy rfl)
theorem Qd(hrun: ∀{c:Code}{M:Tri AV}{O:Tri Ob}{N:Nat}{tm:TM}{x:AX}{M':Tri AV}{O':Tri Ob}{N':Nat}{tm':TM},run c M O N tm= .ok x M' O' N' tm' ->mG P n c M O N tm x M' O' N' tm'){c:Code}(k:Nat){x:AX}{M M':Tri AV}{O O':Tri Ob}{N N':Nat}{tm tm':TM}{y:RX}(hy: ∀{x' M1 O1 N1 t1},y= .ok x' M1 O1 N1 t1->mG P n c M O N tm x' M1 O1 N1 t1)(h:pD run c k y= .ok x M' O' N' tm'):mG P n (.scope c) M O N tm x M' O' N' tm':=by obtain⟨e1,k1⟩:=Qc hrun (r:=c) k hy h;refine⟨e1,λhok hex=> ?_⟩;have h1:=k1 hok hex;refine⟨h1.1,λL ob hM hO=>⟨(h1.2 L ob hM hO).1,λdf K Q hd hq=> ?_⟩⟩;obtain rfl:df=none:=hd.resolve_right (λe=>by cases e);exact AR k ((h1.2 L ob hM hO).2 K Q hq)
end
theorem jA{run:Code->Tri AV->Tri Ob->Nat->TM->RX}(hrun: ∀{c:Code}{M:Tri AV}{O:Tri Ob}{N:Nat}{tm:TM}{x:AX}{M':Tri AV}{O':Tri Ob}{N':Nat}{tm':TM},run c M O N tm= .ok x M' O' N' tm' ->mG P n c M O N tm x M' O' N' tm')(hcf:b0 P callf)(hm:P.follows .mixedOrders=true)(lf:Nat): ∀(c:Code){M:Tri AV}{O:Tri Ob}{N:Nat}{tm:TM}{x:AX}{M':Tri AV}{O':Tri Ob}{N':Nat}{tm':TM},wY run P n callf pu lf c M O N tm= .ok x M' O' N' tm' ->mG P n c M O N tm x M' O' N' tm'
 | .skip,M,O,N,tm,x,M',O',N',tm',h=>by cases h;exact⟨Ext.refl _,(by grind[jR,EF])⟩
 | .label l,M,O,N,tm,x,M',O',N',tm',h=>by cases h;exact⟨Ext.refl _,(by grind[jR,MW])⟩
 | .ret,M,O,N,tm,x,M',O',N',tm',h=>by cases h;exact⟨Ext.refl _,(by grind[jR,JM])⟩
 | .exit id,M,O,N,tm,x,M',O',N',tm',h=>by cases h;exact⟨Ext.refl _,(by grind[jR,Py])⟩
 | .region id ops draw,M,O,N,tm,x,M',O',N',tm',h=>⟨Qa hcf ops.toList draw h,Nl hcf hm id ops draw h⟩
 | .seq a b,M,O,N,tm,x,M',O',N',tm',h=>by
  replace h:qK (wY run P n callf pu lf b) (wY run P n callf pu lf a M O N tm)= .ok x M' O' N' tm':=h;cases ha:wY run P n callf pu lf a M O N tm with
  |fail=>rw[ha]at h;cases h
  |ok x1 M1 O1 N1 t1=>
   rw[ha]at h;obtain⟨e1,k1⟩:=jA hrun hcf hm lf a ha;cases x1 with
   |normal=>obtain⟨e2,k2⟩:=jA hrun hcf hm lf b h;refine⟨e1.trans e2,λhok hex=> ?_⟩;have h1:=k1 (e2.ok hok) hex;have h2:=k2 hok (ou h1 hex);refine⟨h1.1.trans h2.1,λL ob hM hO=> ?_⟩;obtain⟨⟨L1,ob1,q1,q2⟩,q3⟩:=h1.2 L ob hM hO;exact⟨(h2.2 L1 ob1 q1 q2).1,λdf K Q hd hq=>iR (q3 df K _ (hd.imp (λh=>h) oal) λL' ob' hM' hO'=>(h2.2 L' ob' hM' hO').2 df K Q (hd.imp (λh=>h) oal) hq)⟩
   |_=>cases h;refine⟨e1,λhok hex=> ?_⟩;have h1:=k1 hok hex;exact⟨h1.1,λL ob hM hO=>⟨(h1.2 L ob hM hO).1,λdf K Q hd hq=>iR ((h1.2 L ob hM hO).2 df K _ (hd.imp (λh=>h) oal) λL' ob' hM' hO'=>hq L' ob' hM' hO')⟩⟩
 | .cond c a b,M,O,N,tm,x,M',O',N',tm',h=>by
  replace h:wX (wY run P n callf pu lf a) (wY run P n callf pu lf b) M O N tm (tev M c)= .ok x M' O' N' tm':=h;have hev: ∀L,cm M L->aX L c=tev M c:=λL hM=>by rw[hM.tev]
  unfold wX at h;split at h
  ·rename_i hc;obtain⟨e1,k1⟩:=jA hrun hcf hm lf a h;refine⟨e1,λhok hex=> ?_⟩;have h1:=k1 hok hex;exact⟨h1.1,λL ob hM hO=>⟨(h1.2 L ob hM hO).1,λdf K Q hd hq=>fp ((hev L hM).trans hc) (λ_=>(h1.2 L ob hM hO).2 df K Q (hd.imp (λh=>h) oal) hq) (λe=>by cases e)⟩⟩
  ·rename_i hc;obtain⟨e1,k1⟩:=jA hrun hcf hm lf b h;refine⟨e1,λhok hex=> ?_⟩;have h1:=k1 hok hex;exact⟨h1.1,λL ob hM hO=>⟨(h1.2 L ob hM hO).1,λdf K Q hd hq=>fp ((hev L hM).trans hc) (λe=>by cases e) (λ_=>(h1.2 L ob hM hO).2 df K Q (hd.imp (λh=>h) oal) hq)⟩⟩
  ·cases h
 | .block id c,M,O,N,tm,x,M',O',N',tm',h=>by
  replace h:pB id (wY run P n callf pu lf c M O N tm)= .ok x M' O' N' tm':=h;cases hc:wY run P n callf pu lf c M O N tm with
  |fail=>rw[hc]at h;cases h
  |ok x1 M1 O1 N1 t1=>
   rw[hc]at h;obtain⟨e1,k1⟩:=jA hrun hcf hm lf c hc;cases x1 with
   |exit j=>
    simp only[pB]at h;cases hj:Nat.beq j id with
    |true=>rw[hj]at h;have:=afJ hj;subst this;simp only[afN,RX.ok.injEq]at h;obtain⟨rfl,rfl,rfl,rfl,rfl⟩:=h;refine⟨e1,λhok hex=> ?_⟩;have h1:=k1 hok hex;exact⟨h1.1,λL ob hM hO=>⟨(h1.2 L ob hM hO).1,λdf K Q hd hq=>dN ((h1.2 L ob hM hO).2 df K _ (hd.imp (λh=>h) λe=>e)<|by grind[jJ])⟩⟩
    |false=>rw[hj]at h;have hne:=agE hj;simp only[afY,RX.ok.injEq]at h;obtain⟨rfl,rfl,rfl,rfl,rfl⟩:=h;refine⟨e1,λhok hex=> ?_⟩;have h1:=k1 hok hex;exact⟨h1.1,λL ob hM hO=>⟨(h1.2 L ob hM hO).1,λdf K Q hd hq=>dN ((h1.2 L ob hM hO).2 df K _ (hd.imp (λh=>h) λe=>e)<|by grind[jJ])⟩⟩
   |_=>cases h;refine⟨e1,λhok hex=> ?_⟩;have h1:=k1 hok hex;exact⟨h1.1,λL ob hM hO=>⟨(h1.2 L ob hM hO).1,λdf K Q hd hq=>dN ((h1.2 L ob hM hO).2 df K _ (hd.imp (λh=>h) λe=>e) λL' ob' hM' hO'=>hq L' ob' hM' hO')⟩⟩
 | .loop c,M,O,N,tm,x,M',O',N',tm',h=>ZW (λh=>jA hrun hcf hm lf c h) lf h
 | .scope c,M,O,N,tm,x,M',O',N',tm',h=>by replace h:pD run c lf (wY run P n callf pu lf c M O N tm)= .ok x M' O' N' tm':=h;exact Qd hrun lf (λh=>jA hrun hcf hm lf c h) h
 | .goto l,M,O,N,tm,x,M',O',N',tm',h=>by cases h;exact⟨Ext.refl _,(by grind[jR,Pz])⟩
 | .rangeFunc _ _ _ _,M,O,N,tm,x,M',O',N',tm',h=>Qb hcf h
 | .refuse _,M,O,N,tm,x,M',O',N',tm',h=>by cases h
theorem jS(hcf:b0 P callf)(hm:P.follows .mixedOrders=true)(lf:Nat)(c:Code){M:Tri AV}{O:Tri Ob}{N:Nat}{tm:TM}{x:AX}{M':Tri AV}{O':Tri Ob}{N':Nat}{tm':TM}(h:dJ P n callf pu lf c M O N tm= .ok x M' O' N' tm'):mG P n c M O N tm x M' O' N' tm':=jA (by grind[jA]) hcf hm lf c h
end
section
variable{P:Program}{callf:cd}{pu:FuncId->Bool}
theorem kq{M:Tri AV}{L:Loc}{O:Tri Ob}{N:Nat}{ob:lXE}(hM:cm M L)(hO:bK O N ob): ∀{rs:List ResultVar}{avs:lXF},mn P M O rs=some avs->oP P L ob rs avs
 |[],avs,h=>by simp only[mn,afD]at h;subst h;exact .nil
 | .tmp t::rs,avs,h=>by
  simp only[mn]at h;split at h
  ·rename_i av aS h1 h2;cases h;exact .tmp ((hM t).symm.trans h1) (kq hM hO h2)
  ·cases h
 | .cell t ty::rs,avs,h=>by
  simp only[mn]at h;split at h
  ·rename_i o off g k aS h1 h2 h3;have h1':=(hM t).symm.trans h1;split at h
   ·rename_i cells ho;have ho':=(hO.2 o).symm.trans ho;split at h
    ·cases hb:Nat.ble (off+k) cells.length with
     |false=>rw[hb]at h;cases h
     |true=>rw[hb]at h;cases h;exact .agg h2 h1' ho' (nbl hb) (kq hM hO h3)
    ·split at h
     ·rename_i c hc;cases h;exact .one h2 h1' ho' hc (kq hM hO h3)
     ·cases h
   ·cases h
  ·cases h
def Le.all{m m1 m2:Mem}{γ γ1 γ2:Gam}(h:Le m γ [] m1 γ1)(k:Le m1 γ1 [] m2 γ2):Le m γ [] m2 γ2:=⟨λb x e=>k.mem b x (h.mem b x e),λo g hg hc=>k.gam o g (h.gam o g hg hc) hc⟩
theorem ZX{f:FuncId}{args:lXF}{ob:lXE}{M:Tri AV}{O O0:Tri Ob}{N:Nat}{tm tm0:TM}{rs:List ResultVar}(h0:bK O0 ob.length ob)(hA: ∀avs,mn P M O rs=some avs-> ∃ob1,bK O N ob1/\aQ P f args ob [] (iw avs) ob1)(hk:Kept O0 O tm0 tm){r:AV}{O1:Tri Ob}{N1:Nat}{t1:TM}(h:Cl P ob.length rs M O N tm= .ret r O1 N1 t1): ∃ob1,bK O1 N1 ob1/\aQ P f args ob [] r ob1/\ ∀i,tb t1.lo i=false->O1.get i=O0.get i:=by
 unfold Cl at h;split at h
 ·rename_i avs hr;obtain⟨ob1,h1,h2⟩:=hA avs hr;unfold J1 at h;cases hc:Nat.beq ob.length 0&&(!Nat.beq N 0&&tm.syn ((iw avs).und 0) false)with
  |false=>rw[hc]at h;cases h;exact⟨ob1,h1,h2,hk.2⟩
  |true=>rw[hc]at h;simp only[afv]at hc;cases h;have:ob=[]:=agk (afJ hc.1);subst this;exact⟨[],bK.nil,lh (h2.mono λe o⟨g1,g2⟩=>⟨g1,o,by simp⟩) (afG _) (AO hc.2.2) rfl,λi _=>by rw[h0.2];simp[jF]⟩
 ·cases h
section
variable{N0:Nat}{M:Tri AV}{O:Tri Ob}{N:Nat}{tm:TM}{rs:List ResultVar}
theorem Qe{r:AV}{O1:Tri Ob}{N1:Nat}{t1:TM}(h:Cl P N0 rs M O N tm= .ret r O1 N1 t1):t1.ok=tm.ok:=by
 unfold Cl at h;split at h
 ·rename_i avs _;unfold J1 at h;cases hc:Nat.beq N0 0&&(!Nat.beq N 0&&tm.syn ((iw avs).und 0) false)<;>(rw[hc]at h;cases h;rfl)
 ·cases h
theorem Fh{av:AV}{O1:Tri Ob}{N1:Nat}{t1:TM}(h:Cl P N0 rs M O N tm= .pan av O1 N1 t1):False:=by grind[Cl,J1]
end
theorem Marks.out{rf:Bool}{ds0 ds:List Deferred}{w0:World}{γ:Gam}{w:World}(h:Marks rf ds0 w0 ds γ w)(hr:rf=false):ds=ds0:=by obtain⟨Ds,h1,h2,_⟩:=h;simp_all
theorem ZY(hcf:b0 P callf)(hm:P.follows .mixedOrders=true)(lf:Nat){f:FuncId}{fn:Func}(hf:P.funcs[f]? =some fn)(hname:(fn.name== "runtime.NumGoroutine")=false){c a b:Code}{all l:List Oper}{x:Operand}(hb:fn.body=some c)(hsp:P3 c=some (a,all,l,x,b))(harf:a.rf=false)(hbrf:b.rf=false){args:lXF}(hn:args.length<=fn.ntmps){O:Tri Ob}{N:Nat}{tm:TM}{res:CR}(h:runD P pu lf callf fn.ntmps N fn.results.toList all l x b (dJ P fn.ntmps callf pu lf a (mq 0 args .e) O N<|tm.at N)=res):(∀r O1 N1 t1,res= .ret r O1 N1 t1->Ext tm t1/\(cr t1.ok=true-> ∀ob,bK O N ob-> ∃ob1,bK O1 N1 ob1/\aQ P f args ob [] r ob1/\ ∀i,tb t1.lo i=false->O1.get i=O.get i))/\(∀av O1 N1 tm,res= .pan av O1 N1 tm->False):=by grind[runD]
def Hx:List Tmp->lXF->Loc->Loc
 |t::ts,av::avs,L=>Hx ts avs ((t,av)::L)
 |_,_,L=>L
def xq:lXC->lXF->Loc
 |t::ts,av::avs=>(t,av)::xq ts avs
 |_,_=>[]
theorem AS{M:Tri AV}{L:Loc}(h:cm M L)(t:Nat)(av:AV):cm (M.set av t) ((t,av)::L):=λs=>by rw[cn,cH,h]
def xu: ∀(ts:List Tmp)(avs:lXF){M:Tri AV}{L:Loc},cm M L->cm (J2 ts avs M) (Hx ts avs L)
 |t::ts,av::avs,_,_,h=>xu ts avs (AS h t av)
 |[],_,_,_,h=>h
 |_::_,[],_,_,h=>h
def Fi: ∀(ts:lXC)(cs:lXF),cm (lpT ts cs) (xq ts cs)
 |t::ts,av::avs=>AS (Fi ts avs) t av
 |[],_=>cm.nil
 |_::_,[]=>cm.nil
theorem Fj: ∀(ts:lXC)(cs:lXF){t:Nat}{av:AV},lk (xq ts cs) t=some av-> ∃i:Nat,ts[i]? =some t/\cs[i]? =some av
 |s::ts,c::cs,t,av,h=>by
  simp only[xq]at h;rw[cH]at h;split at h
  ·rename_i e;cases h;exact⟨0,by rw[e];rfl,rfl⟩
  ·obtain⟨i,h1,h2⟩:=Fj ts cs h;exact⟨i+1,h1,h2⟩
 |[],_,_,_,h=>by simp[xq,lk]at h
 |_::_,[],_,_,h=>by simp[xq,lk]at h
theorem xv{m:Mem}{γ:Gam}{n:Nat}: ∀(ts:List Tmp)(avs:lXF)(vs:List Value)(tmps:Array Value){L:Loc},bS m γ {tmps:=tmps,defers:=[]} L->tmps.size=n->ts.all (λt=>Nat.blt t n)=true->au m γ avs vs->bS m γ {tmps:=(ts.zip vs).foldl (λtmps p=>tmps.setIfInBounds p.1 p.2) tmps,defers:=[]} (Hx ts avs L)/\((ts.zip vs).foldl (λtmps p=>tmps.setIfInBounds p.1 p.2) tmps).size=n
 |[],avs,vs,tmps,L,h,hs,_,_=>by cases avs<;>exact⟨h,hs⟩
 |t::ts,[],vs,tmps,L,h,hs,_,hv=>by simp only[au]at hv;subst hv;exact⟨h,hs⟩
 |t::ts,av::avs,vs,tmps,L,h,hs,hn,hv=>by simp only[au]at hv;obtain⟨x,r,rfl,hx,hr⟩:=hv;simp only[agZ,afv]at hn;have ht:t<n:=nbl hn.1;have hp:=l6 (rc:=⟨some t,[],av,[],.pure⟩) (d:=some t) h (Le.refl m γ []) rfl (λe he=>by cases he;simpa [hs]using ht) hx;exact xv ts avs r (tmps.setIfInBounds t x) hp (by simpa using hs) hn.2 hr
theorem ej.AT{k:ej}(h:k.free=true):k.jump=none:=by
 unfold ej.free at h;cases hj:k.jump with
 |none=>rfl
 |some c=>rw[hj]at h;cases h
theorem ej.pH{k:ej}(h:k.free=true)(b:Bool):k.state b=cond b .busy .ready:=by unfold ej.state;rw[ej.AT h]
theorem ej.Nq{k:ej}(h:k.free=true)(j:Option Code):(k.left j).jump=j:=by
 cases j with
 |none=>exact ej.AT h
 |some c=>rfl
theorem ej.Hy{k:ej}(h:k.free=true)(j:Option Code):(k.left j).state false=if j.isNone then .ready else .done:=by
 cases j with
 |none=>exact(ej.pH h false).trans rfl
 |some c=>rfl
theorem ej.Ns(k:ej)(j:Option Code):(k.left j).n=k.n/\(k.left j).ps=k.ps/\(k.left j).assign=k.assign/\(k.left j).body=k.body:=by cases j<;>exact⟨rfl,rfl,rfl,rfl⟩
theorem Cy{P:Program}{l:Nat}{R:Ending->World->Prop}{x:AX}{j:Option Code}(hj:P2 x=some j){m:Mem}{γ:Gam}{e:Exit}(h:oS m γ e x){a:Act}{w:World}(k: ∃v w',(Instr.endRound l j).run P w= .ok v w'/\R (.returned v) w'):roundPost P l R e a w:=by
 cases x<;>simp only[P2,afD]at hj<;>first|exact absurd hj oaf|skip
 all_goals subst hj
 all_goals cases e<;>first|exact h.elim|skip
 ·exact k
 ·exact k
 ·simp only[oS]at h;subst h;exact k
theorem y_ok(hcf:b0 P callf)(hm:P.follows .mixedOrders=true)(lf:Nat){f:FuncId}(hf:dm<=f)(args:lXF)(O:Tri Ob)(N:Nat)(tm:TM):(∀r O1 N1 t1,Nc P pu lf callf (f-dm) args O N tm= .ret r O1 N1 t1->Ext tm t1/\(cr t1.ok=true-> ∀ob,bK O N ob-> ∃ob1,bK O1 N1 ob1/\ly P f args ob r ob1/\ ∀i,tb t1.lo i=false->O1.get i=O.get i))/\ (∀av O1 N1 t1,Nc P pu lf callf (f-dm) args O N tm= .pan av O1 N1 t1->f<dm/\Ext tm t1/\(cr t1.ok=true-> ∀ob,bK O N ob-> ∃ob1,bK O1 N1 ob1/\Cu P f args ob av ob1/\ ∀i,tb t1.lo i=false->O1.get i=O.get i)):=by
 generalize ho:f-dm=o;have hfo:f=dm+o:=by rw[<-ho];exact(Nat.add_sub_of_le hf).symm
 have hnone:(∀r O1 N1 t1,CR.fail= .ret r O1 N1 t1->Ext tm t1/\(cr t1.ok=true-> ∀ob,bK O N ob-> ∃ob1,bK O1 N1 ob1/\ly P f args ob r ob1/\ ∀i,tb t1.lo i=false->O1.get i=O.get i))/\
  (∀av O1 N1 t1,CR.fail= .pan av O1 N1 t1->f<dm/\Ext tm t1/\(cr t1.ok=true-> ∀ob,bK O N ob-> ∃ob1,bK O1 N1 ob1/\Cu P f args ob av ob1/\ ∀i,tb t1.lo i=false->O1.get i=O.get i)):=⟨λ_ _ _ _ e=>oao,λ_ _ _ _ e=>oao⟩
 unfold Nc;split
 rotate_left;·exact hnone
 rename_i k ts cs hO0;cases hc:Nat.beq args.length k.ps.size&&(k.ps.toList.all (λt=>Nat.blt t k.n)&&(k.assign.inR&&k.body.inR))with
 |false=>exact hnone
 |true=>
 simp only[afv]at hc;obtain⟨hc1,hc2,hc3,hc4⟩:=hc;have hc1:=afJ hc1;simp only[afN];cases hra:dJ P k.n callf pu lf k.assign (J2 k.ps.toList args<|lpT ts cs) O N (tm.at N)with
 |fail=>exact hnone
 |ok xa M1 O1 N1 t1=>
 cases xa<;>first|exact hnone|skip
 simp only[rndA,rndB];split
 rotate_left;·exact hnone
 rename_i k1 ts1 cs1 hO1;cases hf1:k1.free with
 |false=>exact hnone
 |true=>
 simp only[afN];cases hrb:dJ P k.n callf pu lf k.body M1 (O1.set (.lp true k1 ts1 cs1) o) N1 (t1.low<|bit o)with
 |fail=>exact hnone
 |ok xb M2 O2 N2 t2=>
 simp only[rndE];split
 rotate_left;·exact hnone
 rename_i j hj;split
 rotate_left;·exact hnone
 rename_i k2 ts2 cs2 hO2;cases hf2:k2.free with
 |false=>exact hnone
 |true=>
 simp only[afN];obtain⟨ea,ka⟩:=jS hcf hm lf k.assign hra;obtain⟨eb,kb⟩:=jS hcf hm lf k.body hrb;have e1:Ext tm t1:=ea;have e2:Ext t1 t2:=eb;refine⟨λr Or Nr tr e=> ?_,λav Or Nr tr e=>oao⟩;cases e;refine⟨e1.trans e2,λhok0 ob hO=> ?_⟩;have hok:cr t2.ok=true:=hok0;obtain rfl:=hO.1;have hM0:=xu k.ps.toList args (Fi ts cs);have ra:=ka (e2.ok hok) ⟨_,ob,hM0,hO⟩;obtain⟨⟨L1,ob1,a1,a2⟩,a3⟩:=ra.2 _ ob hM0 hO;have hk1:ob1[o]? =some (.lp false k1 ts1 cs1):=by rw[<-a2.2];exact hO1
 have hlt1:=(afF.1 hk1).1;have hset: ∀(O':Tri Ob)(N':Nat)(ob':lXE)(X:Ob),bK O' N' ob' ->o<ob'.length->bK (O'.set X o) N' (ob'.set o X):=by
  intro O' N' ob' X h1 h2;refine⟨by rw[af3];exact h1.1,λi=> ?_⟩;rw[cn,List.getElem?_set,h1.2];by_cases e:o=i
  ·subst e;simp[h2]
  ·simp[e]
 have hOb:=hset O1 N1 ob1 (.lp true k1 ts1 cs1) a2 hlt1;have rb:=kb hok ⟨L1,_,a1,hOb⟩;obtain⟨⟨L2,ob2,b1,b2⟩,b3⟩:=rb.2 L1 _ a1 hOb;have hk2:ob2[o]? =some (.lp true k2 ts2 cs2):=by rw[<-b2.2];exact hO2
 have hlt2:=(afF.1 hk2).1;have hk0:ob[o]? =some (.lp false k ts cs):=by rw[<-hO.2];exact hO0
 refine⟨ob2.set o (.lp false (k2.left j) ts2 cs2),hset O2 _ ob2 _ b2 hlt2,⟨λh=>absurd h (Nat.not_lt.2 hf),λo' ho'=> ?_⟩,λi hi=> ?_⟩
 rotate_left
 ·have i1:=iA (jj hi).2;have i2:=(jj hi).1;have i3:=(jj<|rb.1.1 i i2).1;rw[cn,if_neg i1,rb.1.2 i i2,cn,if_neg i1];exact ra.1.2 i i3
 have:o'=o:=Nat.add_left_cancel (ho'.symm.trans hfo);subst this;intro m γ w vs l C hi hg hv;obtain⟨b,rr,xs,g1,g2,⟨s1,s2,s3,s4,s5,s6⟩,g4,g5,_⟩:=hi.obj _ _ hk0;rw[hg]at g1;cases g1;have hvl:=aZ hv;refine⟨rr.fn,_,rr.assign,rr.body,run_yield g2 (by rw[s3];simp;omega),roundIn_of_wpIn trivial ?_⟩;have hbase:bS m γ {tmps:=rr.tmps,defers:=[]} (xq ts cs):=by intro t av h;obtain⟨i,h1,h2⟩:=Fj ts cs h;obtain⟨x,hx,hr⟩:=bX g4 i av h2;obtain⟨h3,h4⟩:=g5 i t x h1 hx;exact⟨by rw[s6];exact h3,by rw[h4];exact hr⟩
 obtain⟨hl0,hs0⟩:=xv k.ps.toList args vs rr.tmps hbase s6 hc2 hv;have hfold:(rr.params.zip vs.toArray).foldl (λtmps (t,a)=>tmps.setIfInBounds t a) rr.tmps=(k.ps.toList.zip vs).foldl (λtmps p=>tmps.setIfInBounds p.1 p.2) rr.tmps:=by rw[s3,<-Array.foldl_toList,Array.toList_zip]
 rw[hfold,s4,s5];show k.assign.wpIn (dx<|some l) 0 P _ _ _;refine wpIn_mono (a3 (some l) ob.length (λx L ob'=>x= .normal/\cm M1 L/\ob'=ob1) (.inr hc3) (λL' ob' h1 h2=>⟨rfl,h1,h2.uniq a2⟩) m γ w {tmps:=_,defers:=[]} hi hl0 hs0 trivial) ?_;rintro e a1' w1 ⟨m1,γ1,L1',ob1',ax,⟨rfl,hM1,rfl⟩,p2,p3,p4,p5,p6,p7,p8⟩;have hlo:o'<ob.length:=(afF.1 hk0).1;have hg1:γ1 o'=some (some (l,0)):=p8 _ _ ⟨hlo,rfl⟩ hg;obtain⟨l1,r1,xs1,q1,q2,⟨q3,q4,q5⟩,q6,q7,q8⟩:=p4.obj _ _ hk1;rw[hg1]at q1;cases q1;cases e<;>first|exact p2.elim|skip
 obtain⟨hi2,ht2⟩:=Hw p4 hk1 oaf hg1 q2 {r1 with state:= .busy} (X:= .lp true k1 ts1 cs1)
  ⟨l,{r1 with state:= .busy},xs1,hg1,World.putObj_heap_same (agT.1 q2).1,⟨(ej.pH hf1 true).symm,q4,q5⟩,q6,q7,q8⟩
 refine⟨_,run_beginRound q2 (q3.trans<|ej.pH hf1 false),?_⟩;refine wpIn_mono (b3 (some l) ob.length (λx L ob'=>x=xb/\ob'=ob2) (.inr hc4) (λL' ob' h1 h2=>⟨rfl,h2.uniq b2⟩) m1 γ1 _ a1' hi2 (λt av e=>p5 t av<|by rw[<-hM1 t,a1 t];exact e) p6 trivial) ?_;rintro e a2' w2 ⟨m2,γ2,L2',ob2',ax,⟨rfl,rfl⟩,u2,u3,u4,u5,u6,u7,u8⟩;have hg2:γ2 o'=some (some (l,0)):=u8 _ _ ⟨hlo,rfl⟩ hg1;obtain⟨l2,r2,xs2,v1,v2,⟨v3,v4,v5⟩,v6,v7,v8⟩:=u4.obj _ _ hk2;rw[hg2]at v1;cases v1;obtain⟨lr1,lr2,lr3,lr4⟩:=ej.Ns k2 j;obtain⟨hi3,ht3⟩:=Hw u4 hk2 oaf hg2 v2 {r2 with state:=if j.isNone then .ready else .done,pending:=j} (X:= .lp false (k2.left j) ts2 cs2)
  ⟨l,{r2 with state:=if j.isNone then .ready else .done,pending:=j},xs2,hg2,World.putObj_heap_same (agT.1 v2).1,⟨(ej.Hy hf2 j).symm,(ej.Nq hf2 j).symm,by rw[lr1,lr2,lr3,lr4];exact v5⟩,v6,by rw[lr1];exact v7,v8⟩
 refine Cy hj u2 ⟨_,_,run_endRound j v2,_,m2,γ2,rfl,by simp[Rep],((p3.trans ht2).trans u3).trans ht3,hi3,((p3.trans ht2).trans u3).mem,λoo g hgo _=> ?_⟩;have hol:=hi.len oo (by rw[hgo];simp);exact u8 oo g ⟨hol,rfl⟩ (p8 oo g ⟨hol,rfl⟩ hgo)
theorem fW{f:FuncId}(hf:Nat.blt f dm=true){args:lXF}{ob:lXE}{r:AV}{ob1:lXE}(h:aQ P f args ob [] r ob1):ly P f args ob r ob1:=ly.of (nbl hf) h
def ac8(lf k:Nat)(f:FuncId)(args:lXF)(O:Tri Ob)(N:Nat)(tm:TM):E3 P pu lf (k+1) f args O N tm=(cond (!Nat.blt f dm) (Nc P pu lf (E3 P pu lf k) (f-dm) args O N tm)<|match P.funcs[f]? with
   |some fn=>match fn.body with
    |some c=>cond (Nat.ble args.length fn.ntmps&& !(fn.name== "runtime.NumGoroutine")) (oq P pu lf (E3 P pu lf k) fn c args O N tm) .fail
    |none=> .fail
   |none=> .fail):=rfl
def dC(P:Program)(f:FuncId)(args:lXF)(O:Tri Ob)(N:Nat)(tm:TM):(∀r O1 N1 t1,CR.fail= .ret r O1 N1 t1->Ext tm t1/\(cr t1.ok=true-> ∀ob,bK O N ob-> ∃ob1,bK O1 N1 ob1/\ly P f args ob r ob1/\ ∀i,tb t1.lo i=false->O1.get i=O.get i))/\ (∀av O1 N1 t1,CR.fail= .pan av O1 N1 t1->f<dm/\Ext tm t1/\(cr t1.ok=true-> ∀ob,bK O N ob-> ∃ob1,bK O1 N1 ob1/\Cu P f args ob av ob1/\ ∀i,tb t1.lo i=false->O1.get i=O.get i)):=oaq
theorem fn_ok{callf:cd}(hcf:b0 P callf)(hm:P.follows .mixedOrders=true)(pu:FuncId->Bool)(lf:Nat){f:FuncId}(hY:f<dm){fn:Func}(hf:P.funcs[f]? =some fn){c:Code}(hb:fn.body=some c)(hname:(fn.name== "runtime.NumGoroutine")=false){args:lXF}(hn:args.length<=fn.ntmps)(O:Tri Ob)(N:Nat)(tm:TM):(∀r O1 N1 t1,oq P pu lf callf fn c args O N tm= .ret r O1 N1 t1->Ext tm t1/\(cr t1.ok=true-> ∀ob,bK O N ob-> ∃ob1,bK O1 N1 ob1/\ly P f args ob r ob1/\ ∀i,tb t1.lo i=false->O1.get i=O.get i))/\ (∀av O1 N1 t1,oq P pu lf callf fn c args O N tm= .pan av O1 N1 t1->f<dm/\Ext tm t1/\(cr t1.ok=true-> ∀ob,bK O N ob-> ∃ob1,bK O1 N1 ob1/\Cu P f args ob av ob1/\ ∀i,tb t1.lo i=false->O1.get i=O.get i)):=by
 unfold oq;split
 ·rename_i hsp;cases hrun:dJ P fn.ntmps callf pu lf c (mq 0 args .e) O N (tm.at N)with
  |fail=>exact dC P f args O N tm
  |ok x M O1 N1 t1=>
   obtain⟨e1,k1⟩:=jS hcf hm lf c hrun;have hA:(x= .normal\/x= .ret)-> ∀r Or Nr tr,Cl P N fn.results.toList M O1 N1 t1= .ret r Or Nr tr->Ext tm tr/\(cr tr.ok=true-> ∀ob,bK O N ob-> ∃ob1,bK Or Nr ob1/\ly P f args ob r ob1/\ ∀i,tb tr.lo i=false->Or.get i=O.get i):=by
    intro hx r Or Nr tr e;have eok:=Qe e;refine⟨⟨e1.choose,by rw[eok];exact e1.choose_spec⟩,λhok0 ob hO=> ?_⟩;have hok:cr t1.ok=true:=by rw[<-eok];exact hok0
    have hNlen:=hO.1;subst hNlen;have hr:=k1 hok ⟨fJ 0 args,ob,fw args,hO⟩;obtain⟨⟨L1,ob1,a1,a2⟩,a3⟩:=hr.2 (fJ 0 args) ob (fw args) hO;obtain⟨ob3,z1,z2,z3⟩:=ZX (P:=P) (f:=f) (args:=args) (O0:=O) (tm0:=tm.at ob.length) hO (λavs hres=>⟨ob1,a2,kM hf hname hb hn (a3 none ob.length _ (.inl rfl) λL' ob' hM' hO'=>by
     have hv:=kq hM' hO' hres;have eq:=hO'.uniq a2;rcases hx with rfl|rfl
     ·exact⟨avs,hv,rfl,eq⟩
     ·exact⟨avs,hv,rfl,eq⟩)⟩) hr.1 e
    exact⟨ob3,z1,ly.of hY z2,z3⟩
   cases x with
   |normal=>exact⟨hA (.inl rfl),λav Or Nr tr e=>(Fh e).elim⟩
   |ret=>exact⟨hA (.inr rfl),λav Or Nr tr e=>(Fh e).elim⟩
   |panic av0=>refine⟨λr Or Nr tr e=>oao,λav Or Nr tr e=> ?_⟩;cases e;refine⟨hY,e1,λhok ob hO=> ?_⟩;have hNlen:=hO.1;subst hNlen;have hr:=k1 hok ⟨fJ 0 args,ob,fw args,hO⟩;obtain⟨⟨L1,ob1,a1,a2⟩,a3⟩:=hr.2 (fJ 0 args) ob (fw args) hO;exact⟨ob1,a2,kM hf hname hb hn (a3 none ob.length _ (.inl rfl) λL' ob' hM' hO'=>⟨rfl,hO'.uniq a2⟩),hr.1.2⟩
   |exit j=>exact dC P f args O N tm
   |goto j=>exact dC P f args O N tm
 ·rename_i a all l x b hsp;cases hrf:a.rf||b.rf with
  |true=>exact dC P f args O N tm
  |false=>simp only[afU]at hrf;obtain⟨g1,g2⟩:=ZY (pu:=pu) hcf hm lf hf hname hb hsp hrf.1 hrf.2 hn (O:=O) (N:=N) (tm:=tm) rfl;refine⟨λr O1 N1 t1 e=> ?_,λav O1 N1 tm e=>(g2 av O1 N1 tm e).elim⟩;obtain⟨q1,q2⟩:=g1 r O1 N1 t1 e;refine⟨q1,λhok ob hO=> ?_⟩;obtain⟨ob1,z1,z2,z3⟩:=q2 hok ob hO;exact⟨ob1,z1,ly.of hY z2,z3⟩
noncomputable def xw(P:Program)(pu:FuncId->Bool)(lf:Nat)(callf:cd):cd:=λf args O N tm=>cond (!Nat.blt f dm) (Nc P pu lf callf (f-dm) args O N tm)<|match P.funcs[f]? with
 |some fn=>match fn.body with
  |some c=>cond (Nat.ble args.length fn.ntmps&& !(fn.name== "runtime.NumGoroutine")) (oq P pu lf callf fn c args O N tm) .fail
  |none=> .fail
 |none=> .fail
theorem ov{callf:cd}(hcf:b0 P callf)(hm:P.follows .mixedOrders=true)(pu:FuncId->Bool)(lf:Nat):b0 P (xw P pu lf callf):=λf args O N tm=>by
 unfold xw;cases hY:Nat.blt f dm with
 |false=>have hf:dm<=f:=(by grind[Nat.blt,agt]);simp only[agx,afN];exact y_ok hcf hm lf hf args O N tm
 |true=>
 simp only[Bool.not_true,afY];have hfy:f<dm:=nbl hY;split
 rotate_left;·exact dC P f args O N tm
 rename_i fn hf;split
 rotate_left;·exact dC P f args O N tm
 rename_i c hb;cases hc:Nat.ble args.length fn.ntmps&& !(fn.name== "runtime.NumGoroutine")with
 |false=>exact dC P f args O N tm
 |true=>simp only[afv,afP]at hc;simp only[afN];exact fn_ok hcf hm pu lf hfy hf hb hc.2 (nbl hc.1) O N tm
def Fk(hm:P.follows .mixedOrders=true)(pu:FuncId->Bool)(lf:Nat): ∀k,b0 P (E3 P pu lf k)
 |0=>λf args O N tm=>dC P f args O N tm
 |k+1=>λf args O N tm=>ov (Fk hm pu lf k) hm pu lf f args O N tm
theorem Hz{callf:cd}(hcf:b0 P callf){f:FuncId}{args:lXF}{r:AV}{tm t1:TM}(h:callf f args .e 0 tm= .ret r .e 0 t1)(hok:cr t1.ok=true)(hY:Nat.blt f dm=true:=by rfl):aQ P f args [] [] r []:=by obtain⟨ob1,h1,h2,_⟩:=((hcf f args .e 0 tm).1 _ _ _ _ h).2 hok [] bK.nil;have:ob1=[]:=agk h1.1;rw[this]at h2;exact h2.1 (nbl hY)
end
noncomputable def dX:Loc->Tri AV
 |[]=> .e
 |(t,av)::L=>(dX L).set av t
theorem ib: ∀L:Loc,cm (dX L) L
 |[]=>cm.nil
 |(t,av)::L=>λs=>by rw[dX,cn,cH,ib L s]
noncomputable def dq(ob:lXE):Tri Ob:=wU 0 ob .e
theorem en(ob:lXE):bK (dq ob) ob.length ob:=⟨rfl,λi=>by rw[dq,sF ob 0 .e (λj _=>rfl) i,if_neg oaa,Nat.sub_zero]⟩
def eA:AX->Bool
 | .panic av=>av.pure
 |_=>true
def ZZ{m:Mem}{γ1 γ2:Gam}{av:AV}{x:Value}(hp:av.pure=true)(h:Rep m γ1 av x):Rep m γ2 av x:=by
 let γ3:Gam:=λk=>if k%2=0 then γ1 (k/2)else γ2 (k/2)
 have e1:(λk=>γ3<|2*k)=γ1:=by funext k;show(if 2*k%2=0 then γ1 (2*k/2)else _)=_;rw[if_pos oaa,show 2*k/2=k by omega]
 have e2:(λk=>γ3<|2*k+1)=γ2:=by funext k;show(if (2*k+1)%2=0 then _ else γ2 ((2*k+1)/2))=_;rw[if_neg oaa,show(2*k+1)/2=k by omega]
 rw[<-e1]at h;rw[<-e2];have k:=(dk av x).1 h;rw[cR _ _ hp]at k;exact(dk (f:=λk=>2*k+1) av x).2 (by rw[cR _ _ hp];exact k)
def kr{m m':Mem}{γ γ':Gam}{e:Exit}{ax:AX}(hp:eA ax=true)(hm: ∀a x,m a=some x->m' a=some x)(h:oS m γ e ax):oS m' γ' e ax:=by
 cases ax with
 |panic av=>
  cases e with
  |panic ch=>obtain⟨v,h1,h2⟩:=h;have h3:Rep m' γ av v:=fj (ks:=[]) ⟨hm,λ_ _ hg _=>hg⟩ av v (AV.ei av) h2;exact⟨v,h1,ZZ hp h3⟩
  |_=>exact h.elim
 |_=>cases e<;>first|exact h.elim|exact h
section
variable{df:Option Nat}{P:Program}{n K:Nat}
def Piece(P:Program)(n K:Nat)(c:Code)(L:Loc)(ob:lXE)(x:AX)(L':Loc)(ob':lXE):Prop:= ∀(df:Option Nat)(Q:dy),jk df c->Q x L' ob' ->awp df P n K [] c Q L ob
noncomputable def iq(J5 sel:lXC):RX->Option (AX×List (Option AV)×List (Option Ob)×Nat×lXB)
 | .ok x M O N t=>some (x,J5.map M.get,sel.map O.get,N,t.ok)
 | .fail=>none
def mO(f:Nat->Nat)(l:Loc):List (Option AV):=l.map λp=>some (p.2.ren f)
def mr:lXC->Bool
 |[]=>true
 |a::l=> !l.contains a&&mr l
theorem ja: ∀{l:lXC},mr l=true->l.Nodup
 |[],_=>agU
 |a::l,h=>by simp only[mr,afv,afP]at h;exact ahe.2 ⟨by simpa using h.1,ja h.2⟩
theorem lB{M:Tri AV}{f:Nat->Nat}: ∀{l:Loc},(l.map (·.1)).map M.get=mO f l-> ∀t av,lk l t=some av->M.get t=some (av.ren f)
 |[],_,t,av,h=>by simp[lk]at h
 |(s,bv)::l,e,t,av,h=>by
  simp only[mO,afZ,List.cons.injEq]at e;rw[cH]at h;by_cases hs:s=t
  ·simp_all
  ·rw[if_neg hs]at h;exact lB e.2 t av h
theorem cI{a b:Code}{L L1 L2:Loc}{ob ob1 ob2:lXE}{x:AX}(h:Piece P n K a L ob .normal L1 ob1)(k:Piece P n K b L1 ob1 x L2 ob2):Piece P n K (.seq a b) L ob x L2 ob2:=λdf Q hd hq=>iR (h df _ (hd.imp (λe=>e) oal)<|k df Q (hd.imp (λe=>e) oal) hq)
theorem Z0{f:FuncId}{args:lXF}{r:AV}(h:aQ P f args [] [] r [])(hp:aq args=true)(hr:r.pure=true)(ob:lXE):aQ P f args ob [] r ob:=by
 refine⟨h.1,λm γ w vs hi hv=> ?_⟩;have hget: ∀(i s:Nat)(X:Ob),([]:lXC)[i]? =some s->([]:lXE)[i]? =some X->ob[s]? =some (X.ren<|bU [] ob.length)/\X≠ .dead:=λi s X e=>by simp at e
 refine(h.2 m _ w vs (od hi agU rfl hget)<|(cv _ _).2<|by rw[cL _ _ hp];exact hv).mono ?_;rintro e w' ⟨m',γc,r',obc',⟨rfl,rfl⟩,h2,h3,h4,h5⟩;obtain⟨γ',g1,g2,g3,g4⟩:=lg hi (kk:=[]) agU rfl hget (afG _) oaf h3 h4 h5;rw[EM]at g4;refine⟨m',γ',_,ob,⟨rfl,rfl⟩,?_,g2,g4,λo g hk hg=>g3.gam o g hg hk⟩;cases e with
 |returned v=>have h2':Rep m' γc r v:=h2;rw[<-show(λk=>γ'<|bU [] ob.length k)=γc from funext g1,dk,cR _ _ hr]at h2';exact h2'
 |panicked c=>exact h2.elim
 |outgrown=>exact h2.elim
end
def Frz(o:Nat)(X:Ob)(av av':AV):Prop:= ∀m γ m',FrzM m γ o X m' -> ∀x,Rep m γ av x->Rep m' γ av' x
def fk(o:Nat)(X:Ob)(cs cs':lXF):Prop:= ∀m γ m',FrzM m γ o X m' -> ∀xs,au m γ cs xs->au m' γ cs' xs
section
variable{o:Nat}{X:Ob}
theorem Frz.same(av:AV):Frz o X av av:=λ_m _γ _m' h x hr=>fj h.le av x (AV.ei _) hr
theorem fk.nil:fk o X [] []:=λ_ _ _ _ _ h=>by simpa only[au]using h
theorem fk.cons{c c':AV}{cs cs':lXF}(h:Frz o X c c')(k:fk o X cs cs'):fk o X (c::cs) (c'::cs'):=λm γ m' hm xs hr=>by simp only[au]at hr⊢;obtain⟨x,r,rfl,h1,h2⟩:=hr;exact⟨x,r,rfl,h m γ m' hm x h1,k m γ m' hm r h2⟩
theorem fk.same(cs:lXF):fk o X cs cs:=λ_m _γ _m' h xs hr=>dQ h.le cs xs (dj _) hr
theorem Frz.tu{cs cs':lXF}(h:fk o X cs cs'):Frz o X (.tu cs) (.tu cs'):=λm γ m' hm x hr=>by simp only[Rep]at hr⊢;obtain⟨xs,h1,h2⟩:=hr;exact⟨xs,h1,h m γ m' hm xs h2⟩
theorem Frz.ag{cs cs':lXF}(h:fk o X cs cs'):Frz o X (.ag cs) (.ag cs'):=λm γ m' hm x hr=>by simp only[Rep]at hr⊢;obtain⟨xs,h1,h2⟩:=hr;exact⟨xs,h1,h m γ m' hm xs h2⟩
theorem Frz.sr{T S lo len:Nat}{rows:List lXF}(hX:X= .row T S rows)(h:lo+len<=rows.length):Frz o X (.sr o S lo len) (.sl S<|(rows.drop lo).take len):=λm γ m' hm x hr=>by
 simp only[Rep]at hr⊢;have hl:((rows.drop lo).take len).length=len:=by simp;omega
 rcases hr with⟨_,⟨a,rfl⟩,rfl,rfl⟩|⟨b,C,cap,g1,g2,g3,g4,g5⟩
 ·grind
 ·rcases g5 with rfl|⟨rfl,_,a,rfl⟩
  ·refine⟨_,_,_,rfl,hl.symm,g3,?_⟩;rcases hm.row T S rows hX with⟨h1,_⟩|⟨b',C',h1,_,h3⟩
   ·rw[g1]at h1;cases h1
   ·rw[g1]at h1;cases h1;refine .inr ⟨b,lo*S,rfl,jw ?_ len⟩;have:=jv h3 lo;rwa[agR]at this
  grind
theorem Frz.sr0{T S n:Nat}{rows:List lXF}(hX:X= .row T S rows)(h:n=rows.length):Frz o X (.sr o S 0 n) (.sl S rows):=by have:=Frz.sr (o:=o) (lo:=0) (len:=n) hX oaa;rwa[List.drop_zero,agd oaa]at this
theorem Frz.pt{Tb:TypeId}{cells:lXF}{off:Nat}(hX:X= .box Tb cells):Frz o X (.pt o off) (.pf<|cells.drop off):=λm γ m' hm x hr=>by simp only[Rep]at hr⊢;obtain⟨b,C,g1,rfl⟩:=hr;obtain⟨b',h1,h2⟩:=hm.box Tb cells hX;rw[g1]at h1;cases h1;exact⟨b,off,rfl,by have:=fv h2 off;rwa[agR]at this⟩
end
inductive xx(o:Nat)(X:Ob):Ob->Ob->Prop
 |same (Y:Ob):xx o X Y Y
 |box {T:TypeId} {cs cs':lXF} (h:fk o X cs cs'):xx o X (.box T cs) (.box T cs')
 |any (Y:Ob):xx o X Y .dead
def lC{m:Mem}{γ:Gam}{ob ob2:lXE}{w:World}(hi:Inv m γ ob w)(hl:ob2.length=ob.length)(h: ∀(i:Nat)(Y:Ob),ob2[i]? =some Y->Y= .dead\/(live ob i/\gP m γ w i Y)):Inv m γ ob2 w:=by
 have hlv: ∀q,live ob2 q->live ob q:=by
  rintro q ⟨Y,hY,hne⟩;rcases h q Y hY with rfl|h1
  ·exact absurd rfl hne
  ·exact h1.1
 refine⟨hi.mem,λq Y hY=> ?_,λq q' b C C' l1 l2=>hi.sep q q' b C C' (hlv q l1) (hlv q' l2),hi.dom,λq hq=>by rw[hl];exact hi.len q hq,hi.tab⟩;rcases h q Y hY with rfl|h1
 ·trivial
 ·exact h1.2
section
variable{P:Program}{f:FuncId}{args:lXF}{ob ob1 ob2:lXE}{kk:lXC}{r r':AV}
theorem lD(h:aQ P f args ob kk r ob1){o:Nat}{X:Ob}(ho:ob1[o]? =some X)(hX:(∃T S rows,X= .row T S rows)\/ ∃Tb cells,X= .box Tb cells)(hr:Frz o X r r')(hl:ob2.length=ob1.length)(hob: ∀i Y Y',ob1[i]? =some Y->ob2[i]? =some Y' ->Y' = .dead\/(i≠o/\xx o X Y Y')):aQ P f args ob kk r' ob2:=by
 refine⟨h.1,λm γ w vs hi hv=>(h.2 m γ w vs hi hv).mono ?_⟩;rintro e w' ⟨m',γ',r0,o0,⟨rfl,rfl⟩,h2,h3,h4,h5⟩;obtain⟨m2,hm,hi2,ht⟩:=iH h4 ho hX;have e1:l9 m2 γ' e (.ret r'):=by
  cases e with
  |returned v=>exact hr _ _ _ hm v h2
  |panicked c=>exact h2.elim
  |outgrown=>exact h2.elim
 refine⟨m2,γ',_,ob2,⟨rfl,rfl⟩,e1,h3.trans ht,lC hi2 (by rw[hl,af3]) λi Y' hY'=> ?_,h5⟩;have hlt:=(afF.1 hY').1;obtain⟨Y,hY⟩: ∃Y,o0[i]? =some Y:=⟨_,afR oaa⟩;by_cases hd:Y' = .dead
 ·exact .inl hd
 rcases hob i Y Y' hY hY' with h6|⟨hne,h6⟩
 ·exact .inl h6
 ·have hset:(o0.set o Ob.dead)[i]? =some Y:=by rw[af1 (Ne.symm hne)];exact hY
  cases h6 with
  |same=>exact .inr ⟨⟨_,hset,hd⟩,hi2.obj i _ hset⟩
  |any=>exact .inl rfl
  |box hcs=>refine .inr ⟨⟨_,hset,by simp⟩,?_⟩;obtain⟨b,cs,g1,g2,g3,g4⟩:=hi2.obj i _ hset;obtain⟨b',cs',g1',g2',g3',_⟩:=h4.obj i _ hY;rw[g1]at g1';cases g1';rw[g2]at g2';cases g2';exact⟨b,cs,g1,g2,hcs _ _ _ hm _ g3',g4⟩
theorem qM(h:aQ P f args [] [] r ob1)(hr:r.und 0=true):aQ P f args [] [] r []:=lh (h.mono λe o hh=>⟨hh.1,ob1,by rw[hh.2];rfl⟩) (afG _) hr rfl
theorem sG(h:aQ P f args ob kk r ob1)(hr: ∀m γ x,Rep m γ r x->Rep m γ r' x):aQ P f args ob kk r' ob1:=by
 refine⟨h.1,λm γ w vs hi hv=>(h.2 m γ w vs hi hv).mono ?_⟩;rintro e w' ⟨m',γ',r0,o0,⟨rfl,rfl⟩,h2,h3,h4,h5⟩;refine⟨m',γ',_,_,⟨rfl,rfl⟩,?_,h3,h4,h5⟩;cases e with
 |returned v=>exact hr _ _ _ h2
 |panicked c=>exact h2.elim
 |outgrown=>exact h2.elim
theorem Fl{m:Mem}{γ:Gam}{S:Nat}{a:Option Addr}{cap:Nat}(x:Value)(h:Rep m γ (.v<|.slice a 0 cap) x):Rep m γ (.sl S []) x:=by simp only[Rep]at h⊢;exact⟨a,0,cap,h,by simp,af7 _,by simp⟩
theorem AU(hf: ∃fn,P.funcs[f]? =some fn/\(fn.name== "runtime.NumGoroutine")=false/\fn.body.isNone=false)(h: ∀m γ vs,au m γ args vs-> ∃args',au m γ args' vs/\aQ P f args' ob kk r ob1):aQ P f args ob kk r ob1:=⟨hf,λm γ w vs hi hv=>by obtain⟨args',h1,h2⟩:=h m γ vs hv;exact h2.2 m γ w vs hi h1⟩
noncomputable def outC:CR->Option (AV×List (Option Ob)×lXB)
 | .ret r O N t=>some (r,(range N).map O.get,t.ok)
 |_=>none
theorem qN{ob:lXE}{o:Nat}{X:Ob}: ∀i Y Y',ob[i]? =some Y->(ob.map λ_=>Ob.dead)[i]? =some Y' ->Y' = .dead\/(i≠o/\xx o X Y Y'):=by simp_all
theorem fM{T S n o:Nat}{rows:List lXF}(h:aQ P f args [] [] (.sr o S 0 n) ob1)(ho:ob1[o]? =some (.row T S rows))(hn:n=rows.length)(hp:aM rows=true):aQ P f args [] [] (.sl S rows) []:=qM (lD h ho (.inl ⟨_,_,_,rfl⟩) (Frz.sr0 rfl hn) (afK ..) qN) (by simp[AV.und,bO 0 rows hp])
end
def Qf:List Code->Code->Code
 |[],r=>r
 |h::hs,r=> .seq h (Qf hs r)
section
variable{P:Program}{n:Nat}{callf:cd}{pu:FuncId->Bool}{lf:Nat}
noncomputable def Fm(P:Program)(n:Nat)(callf:cd)(pu:FuncId->Bool)(lf:Nat):List Code->Tri AV->Tri Ob->Nat->TM->RX
 |[],M,O,N,tm=> .ok .normal M O N tm
 |h::hs,M,O,N,tm=>qK (Fm P n callf pu lf hs) (dJ P n callf pu lf h M O N tm)
theorem J6(hcf:b0 P callf)(hm:P.follows .mixedOrders=true): ∀(hs:List Code){M M':Tri AV}{O O':Tri Ob}{N N':Nat}{tm tm':TM},Fm P n callf pu lf hs M O N tm= .ok .normal M' O' N' tm' ->Ext tm tm'/\(cr tm'.ok=true-> ∀L ob,cm M L->bK O N ob-> ∀(K:Nat)(Q:dy)(rest:Code),(∀L' ob',cm M' L' ->bK O' N' ob' ->awp none P n K [] rest Q L' ob')->awp none P n K [] (Qf hs rest) Q L ob)
 |[],M,M',O,O',N,N',tm,tm',h=>by cases h;exact⟨Ext.refl _,λ_ L ob hM hO K Q rest hq=>hq L ob hM hO⟩
 |c::hs,M,M',O,O',N,N',tm,tm',h=>by
  replace h:qK (Fm P n callf pu lf hs) (dJ P n callf pu lf c M O N tm)= .ok .normal M' O' N' tm':=h;cases hc:dJ P n callf pu lf c M O N tm with
  |fail=>rw[hc]at h;cases h
  |ok x M1 O1 N1 t1=>
   rw[hc]at h;cases x with
   |normal=>obtain⟨e1,k1⟩:=jS hcf hm lf c hc;obtain⟨e2,k2⟩:=J6 hcf hm hs (show Fm P n callf pu lf hs M1 O1 N1 t1=_ from h);refine⟨e1.trans e2,λhok L ob hM hO K Q rest hq=> ?_⟩;have h1:=k1 (e2.ok hok) ⟨L,ob,hM,hO⟩;exact iR ((h1.2 L ob hM hO).2 none K _ (.inl rfl) λL1 ob1 hM1 hO1=>k2 hok L1 ob1 hM1 hO1 K Q rest hq)
   |_=>simp[qK]at h
noncomputable def lastR(P:Program)(n:Nat)(callf:cd)(pu:FuncId->Bool)(lf id:Nat)(B:Code):RX->RX
 | .ok .normal _ _ _ _=> .fail
 |r=>qK (dJ P n callf pu lf B) (pB id r)
noncomputable def qO(P:Program)(rs:List ResultVar)(k:Nat):RX->Option (AV×List (Option Ob)×lXB)
 | .ok .normal M O _ t=>match mn P M O rs with
  |some avs=>some (iw avs,(range k).map O.get,t.ok)
  |none=>none
 | .ok .ret M O _ t=>match mn P M O rs with
  |some avs=>some (iw avs,(range k).map O.get,t.ok)
  |none=>none
 |_=>none
theorem sH{k:Nat}{O:Tri Ob}{obs:lXE}(hl:obs.length=k)(h:(range k).map O.get=obs.map some){N:Nat}{ob:lXE}(hO:bK O N ob): ∃xs,ob=obs++xs:=by
 have hp: ∀i,i<k->ob[i]? =obs[i]? :=λi hi=>by
  have h3:((range k).map O.get)[i]? =some (O.get i):=by simp[hi]
  rw[h,afM]at h3;cases ho:obs[i]? with
  |none=>rw[ho]at h3;cases h3
  |some X=>rw[ho]at h3;simp at h3;rw[<-hO.2];exact h3.symm
 refine⟨ob.drop k,?_⟩;conv=>lhs;rw[<-ags k ob]
 congr 1;apply af8;grind
theorem Z1{df:Option Nat}{K:Nat}{c:Code}{Q:dy}{L L':Loc}{ob ob2:lXE}{o:Nat}{X:Ob}(ho:ob[o]? =some X)(hX:(∃T S rows,X= .row T S rows)\/ ∃Tb cells,X= .box Tb cells)(hl:ob2.length=ob.length)(hob: ∀i Y Y',ob[i]? =some Y->ob2[i]? =some Y' ->Y' = .dead\/(i≠o/\xx o X Y Y'))(hL: ∀t av',lk L' t=some av' -> ∃av,lk L t=some av/\Frz o X av av')(h:awp df P n K [] c Q L' ob2):awp df P n K [] c Q L ob:=by
 intro m γ w a hi hlc hs hd;obtain⟨m2,hm,hi2,ht⟩:=iH hi ho hX;have hinv:Inv m2 γ ob2 w:=lC hi2 (by rw[hl,af3]) λi Y' hY'=>by
  have hlt:=(afF.1 hY').1;obtain⟨Y,hY⟩: ∃Y,ob[i]? =some Y:=⟨_,afR oaa⟩;by_cases hd:Y' = .dead
  ·exact .inl hd
  rcases hob i Y Y' hY hY' with h6|⟨hne,h6⟩
  ·exact .inl h6
  ·have hset:(ob.set o Ob.dead)[i]? =some Y:=by rw[af1 (Ne.symm hne)];exact hY
   cases h6 with
   |same=>exact .inr ⟨⟨_,hset,hd⟩,hi2.obj i _ hset⟩
   |any=>exact .inl rfl
   |box hcs=>refine .inr ⟨⟨_,hset,by simp⟩,?_⟩;obtain⟨b,cs,g1,g2,g3,g4⟩:=hi2.obj i _ hset;obtain⟨b',cs',g1',g2',g3',_⟩:=hi.obj i _ hY;rw[g1]at g1';cases g1';rw[g2]at g2';cases g2';exact⟨b,cs,g1,g2,hcs _ _ _ hm _ g3',g4⟩
 have hrl:bS m2 γ a L':=λt av' e=>by obtain⟨av,h1,h2⟩:=hL t av' e;exact⟨(hlc t av h1).1,h2 _ _ _ hm _ (hlc t av h1).2⟩
 refine wpIn_mono (h m2 γ w a hinv hrl hs hd) ?_;rintro e a1 w1 ⟨m1,γ1,L1,ob1,ax,h1,h2,h3,h4,h5,h6,h7,h8⟩;exact⟨m1,γ1,L1,ob1,ax,h1,h2,ht.trans h3,h4,h5,h6,h7,h8⟩
end
section
variable{P:Program}{f:FuncId}{Tb:TypeId}{cs ds rest:lXF}{r:AV}
theorem AW{m m':Mem}{γ γ':Gam}: ∀{cs:lXF}{xs:List Value},(∀c∈cs,∃x,c= .v x)->au m γ cs xs->au m' γ' cs xs
 |[],xs,_,h=>by simpa only[au]using h
 |c::cs,xs,hv,h=>by simp only[au]at h⊢;obtain⟨x,r,rfl,h1,h2⟩:=h;obtain⟨y,rfl⟩:=hv c oaf;exact⟨x,r,rfl,by simpa only[Rep]using h1,AW (λc hc=>hv c<|af9 _ hc) h2⟩
end
inductive Told:Ob->Ob->Prop
 |same (X:Ob):Told X X
 |dead (X:Ob):Told X .dead
 |row {T S k:Nat} {rows:List lXF} (h:k<=rows.length):Told (.row T S rows) (.row T S<|rows.take k)
def Nt{m:Mem}{γ:Gam}{w:World}{o:Nat}{X Y:Ob}(h:Told X Y)(hx:gP m γ w o X):gP m γ w o Y:=by
 cases h with
 |same=>exact hx
 |dead=>trivial
 |row hk=>
  rename_i T S k rows;rcases hx with⟨g1,g2⟩|⟨b,C,cs,g1,g2,g3,g4,g5,g6,g7,g8⟩
  ·exact .inl ⟨g1,by rw[g2];simp⟩
  ·have hl:(rows.take k).length=k:=by simp;omega
   refine .inr ⟨b,C,cs,g1,g2,g3,by omega,g5,λr hr=>g6 r (agy hr),?_,g8⟩;have:=dG g7 (k*S);grind[oc,agu]
def AY{X Y:Ob}(h:Told X Y)(hy:Y≠ .dead):X≠ .dead:=by
 cases h with
 |same=>exact hy
 |dead=>exact absurd rfl hy
 |row=>simp
structure J7(K:Nat)(L':Loc)(ob':lXE)(L:Loc)(ob:lXE)(sel:lXC):Prop where
 nodup:sel.Nodup
 len:sel.length=ob.length
 obs: ∀(i s:Nat)(X:Ob),sel[i]? =some s->ob[i]? =some X-> ∃Y,ob'[s]? =some Y/\Told Y (X.ren<|bU sel ob'.length)
 same: ∀i,i<K->sel[i]? =some i
 J5: ∀t av,lk L t=some av->lk L' t=some (av.ren<|bU sel ob'.length)
def Fo{m:Mem}{γ:Gam}{w:World}{ob obc:lXE}(hi:Inv m γ ob w){sel:lXC}(hn:sel.Nodup)(hl:sel.length=obc.length)(hsel: ∀(i s:Nat)(X:Ob),sel[i]? =some s->obc[i]? =some X-> ∃Y,ob[s]? =some Y/\Told Y (X.ren<|bU sel ob.length)):Inv m (λk=>γ<|bU sel ob.length k) obc w:=by
 have key: ∀(i:Nat)(X:Ob),obc[i]? =some X-> ∃s:Nat,sel[i]? =some s/\ ∃Y,ob[s]? =some Y/\Told Y (X.ren<|bU sel ob.length):=by
  intro i X hX;have hi':i<sel.length:=by have:=(afF.1 hX).1;omega
  have h1:sel[i]? =some sel[i]:=afR hi';exact⟨_,h1,hsel i _ X h1 hX⟩
 refine⟨hi.mem,λo X hX=> ?_,λo o' b C C' h1 h2 h3 h4=> ?_,λo b C h=>hi.dom _ b C h,λo h=> ?_,hi.tab⟩
 ·obtain⟨s,g1,Y,g2,g3⟩:=key o X hX;refine ng.2 ?_;rw[eI g1];exact Nt g3 (hi.obj s _ g2)
 ·obtain⟨X,hX,hXd⟩:=h1;obtain⟨Z,hZ,hZd⟩:=h2;obtain⟨s,g1,Y,g2,g3⟩:=key o X hX;obtain⟨t,k1,V,k2,k3⟩:=key o' Z hZ;rw[eI g1]at h3;rw[eI k1]at h4;have dd: ∀{Z:Ob},Z≠ .dead->Z.ren (bU sel ob.length)≠ .dead:=by intro Z hZ;cases Z<;>simp_all[Ob.ren]
  have e:=hi.sep s t b C C' ⟨_,g2,AY g3 (dd hXd)⟩ ⟨_,k2,AY k3 (dd hZd)⟩ h3 h4;subst e;have o1:=(afF.1 g1).1;have o2:=(afF.1 k1).1;rcases Nat.lt_trichotomy o o' with h|h|h
  ·have:=agW.1 hn o o' o1 o2 h;rw[(afF.1 g1).2,(afF.1 k1).2]at this;exact absurd rfl this
  ·exact h
  ·have:=agW.1 hn o' o o2 o1 h;rw[(afF.1 g1).2,(afF.1 k1).2]at this;exact absurd rfl this
 ·by_cases h1:o<sel.length
  ·omega
  ·have h2:=hi.len _ h;rw[kj oaa]at h2;omega
section
variable{df:Option Nat}{P:Program}{n K:Nat}
theorem sI{c:Code}{Q:dy}{L0:Loc}{ob0:lXE}(h:awp df P n K [] c (λx L' ob'=> ∃L ob sel,J7 K L' ob' L ob sel/\eA x=true/\Q x L ob) L0 ob0):awp df P n K [] c Q L0 ob0:=by
 intro m γ w a hi hl hs hd;refine wpIn_mono (h m γ w a hi hl hs hd) ?_;rintro e a1 w1 ⟨m1,γ1,L1,ob1,ax,⟨L,ob,sel,hv,hp,hq⟩,h2,h3,h4,h5,h6,h7,h8⟩;refine⟨m1,λk=>γ1 (bU sel ob1.length k),L,ob,ax,hq,?_,⟨h3.mem,h3.new,λk hk⟨o,C,ho⟩=>h3.gam k hk ⟨_,C,ho⟩,h3.os,h3.tape,h3.output,h3.size,h3.blk⟩,Fo h4 hv.nodup hv.len hv.obs,?_,h6,h7.gam (λk⟨o,C,ho⟩=>⟨_,C,ho⟩),λo g ho hg=> ?_⟩
 ·exact kr hp (λ_ _ h=>h) h2
 ·intro t av e1;obtain⟨q1,q2⟩:=h5 t _ (hv.J5 t av e1);exact⟨q1,(dk av _).2 q2⟩
 ·show γ1 (bU sel ob1.length o)=some g;rw[eI (hv.same o ho.1)];exact h8 o g ho hg
def oZ(f:Nat->Nat):List (Option Ob)->lXE->Prop
 |[],[]=>True
 |some Y::SO,X::obs=>Told Y (X.ren f)/\oZ f SO obs
 |_,_=>False
theorem sJ{f:Nat->Nat}: ∀{SO:List (Option Ob)}{obs:lXE},oZ f SO obs->SO.length=obs.length/\ ∀(i:Nat)(X:Ob),obs[i]? =some X-> ∃Y,SO[i]? =some (some Y)/\Told Y (X.ren f)
 |[],[],_=>⟨rfl,λi X h=>by simp at h⟩
 |some Y::SO,X::obs,h=>by
  obtain⟨k1,k2⟩:=sJ h.2;refine⟨by simp[k1],λi Z hZ=> ?_⟩;cases i with
  |zero=>simp at hZ;subst hZ;exact⟨Y,rfl,h.1⟩
  |succ i=>simpa using k2 i Z (by simpa using hZ)
 |none::_,_::_,h=>h.elim
 |none::_,[],h=>h.elim
 |some _::_,[],h=>h.elim
 |[],_::_,h=>h.elim
theorem AZ{f:FuncId}{argsC:lXF}{obc obc':lXE}{r:AV}(h:aQ P f argsC obc [] r obc'){sel:lXC}{ob:lXE}(hn:sel.Nodup)(hsel:JR ob (bU sel ob.length) sel obc)(hlen:sel.length<=obc'.length):aQ P f (bV (bU sel ob.length) argsC) ob [] (r.ren<|bU sel ob.length) (back ob sel [] obc'):=by
 obtain⟨hl,hget⟩:=sB hsel;refine⟨h.1,λm γ w vs hi hv=>(h.2 m _ w vs (od hi hn hl hget)<|(cv _ _).2 hv).mono ?_⟩;rintro e w' ⟨m',γc,r',o',⟨rfl,rfl⟩,h2,h3,h4,h5⟩;obtain⟨γ',g1,g2,g3,g4⟩:=lg hi (kk:=[]) hn hl hget hlen oaf h3 h4 h5;refine⟨m',γ',_,_,⟨rfl,rfl⟩,?_,g2,g4,λo g hk hg=>g3.gam o g hg hk⟩;cases e with
 |returned v=>have h2':Rep m' γc r v:=h2;rw[<-show(λk=>γ'<|bU sel ob.length k)=γc from funext g1]at h2';exact(dk _ _).1 h2'
 |panicked c=>exact h2.elim
 |outgrown=>exact h2.elim
end
section
variable{P:Program}
theorem Fp{callf:cd}(hcf:b0 P callf){f:FuncId}{tm:TM}{args:lXF}{ob obs:lXE}{r:AV}{ok:lXB}(h:outC (callf f args (dq ob) ob.length tm)=some (r,obs.map some,ok))(hok:cr ok=true):ly P f args ob r obs:=by
 cases hc:callf f args (dq ob) ob.length tm with
 |fail=>rw[hc]at h;cases h
 |pan av O N t=>rw[hc]at h;cases h
 |ret r1 O N t=>
  rw[hc]at h;simp only[outC,afD,afW]at h;obtain⟨rfl,h2,rfl⟩:=h;obtain⟨ob1,k1,k2,_⟩:=((hcf f args (dq ob) ob.length tm).1 _ _ _ _ hc).2 hok ob (en ob);have:ob1=obs:=by
   have hl:obs.length=N:=by have:=afQ length h2;simpa using this.symm
   apply af8;intro i;rw[<-k1.2];by_cases hi:i<N
   ·have h3:((range N).map O.get)[i]? =some (O.get i):=by simp[hi]
    rw[h2,afM]at h3;cases ho:obs[i]? with
    |none=>rw[ho]at h3;cases h3
    |some X=>rw[ho]at h3;simp at h3;exact h3.symm
   ·rw[k1.2,af5 (by rw[k1.1];omega),af5 oaa]
  rw[<-this];exact k2
variable{n:Nat}{callf:cd}{pu:FuncId->Bool}{lf:Nat}
end
section
variable{P:Program}{n K:Nat}{callf:cd}{pu:FuncId->Bool}{lf:Nat}
theorem A0{f:Nat->Nat}{Z:List (Option Ob)}{Z':lXE}(hz:oZ f Z Z'): ∀{A A':lXE},A'.map (Ob.ren f)=A->oZ f (A.map some++Z) (A'++Z')
 |[],[],_=>hz
 |a::A,a'::A',h=>by simp only[afZ,List.cons.injEq]at h;obtain⟨h1,h2⟩:=h;exact⟨h1▸ .same _,A0 hz h2⟩
 |[],_::_,h=>by cases h
 |_::_,[],h=>by cases h
theorem Nu{f:Nat->Nat}{A A':lXE}(h:A'.map (Ob.ren f)=A):oZ f (A.map some) A':=by have:=A0 (f:=f) (Z:=[]) (Z':=[]) trivial h;simpa using this
def xy(P:Program)(n K:Nat)(L:Loc)(ob:lXE)(L':Loc)(ob':lXE):Prop:= ∀(df:Option Nat)(c:Code)(Q:dy),awp df P n K [] c Q L' ob' ->awp df P n K [] c Q L ob
theorem xy.trans{L L1 L2:Loc}{ob ob1 ob2:lXE}(h:xy P n K L ob L1 ob1)(k:xy P n K L1 ob1 L2 ob2):xy P n K L ob L2 ob2:=λdf c Q q=>h df c Q (k df c Q q)
def pI{c:Code}{L L1 L2:Loc}{ob ob1 ob2:lXE}{x:AX}(h:xy P n K L ob L1 ob1)(k:Piece P n K c L1 ob1 x L2 ob2):Piece P n K c L ob x L2 ob2:=λdf Q hd hq=>h df c Q (k df Q hd hq)
theorem Nv{L' L:Loc}{ob' ob:lXE}{sel:lXC}(hv:J7 K L' ob' L ob sel):xy P n K L' ob' L ob:=by
 intro df c Q h m γ w a hi hl hs hd;have hi2:=Fo hi hv.nodup hv.len hv.obs;have hl2:bS m (λk=>γ<|bU sel ob'.length k) a L:=λt av e=>by obtain⟨q1,q2⟩:=hl t _ (hv.J5 t av e);exact⟨q1,(dk av _).2 q2⟩
 refine wpIn_mono (h m _ w a hi2 hl2 hs hd) ?_;rintro e a1 w1 ⟨m1,γ1,L1,ob1,ax,h1,h2,h3,h4,h5,h6,h7,h8⟩;refine⟨m1,γ1,L1,ob1,ax,h1,h2,⟨h3.mem,λa x hx=> ?_,λk hk hg=> ?_,h3.os,h3.tape,h3.output,h3.size,λk hk hn=>h3.blk k hk λ⟨o,C,ho⟩=>hn ⟨_,C,ho⟩⟩,h4,h5,h6,h7,λo g ho hg=>h8 o g ho (by show γ (bU sel ob'.length o)=some g;rw[eI (hv.same o ho.1)];exact hg)⟩
 ·rcases h3.new a x hx with h|h|⟨o,C,ho⟩
  ·exact .inl h
  ·exact .inr (.inl h)
  ·exact .inr (.inr ⟨_,C,ho⟩)
 ·obtain⟨o,C,ho⟩:=h3.gam k hk hg;exact⟨_,C,ho⟩
def Qg{L L':Loc}{ob ob2:lXE}{o:Nat}{X:Ob}(ho:ob[o]? =some X)(hX:(∃T S rows,X= .row T S rows)\/ ∃Tb cells,X= .box Tb cells)(hl:ob2.length=ob.length)(hob: ∀i Y Y',ob[i]? =some Y->ob2[i]? =some Y' ->Y' = .dead\/(i≠o/\xx o X Y Y'))(hL: ∀t av',lk L' t=some av' -> ∃av,lk L t=some av/\Frz o X av av'):xy P n K L ob L' ob2:=λ_ _ _ h=>Z1 ho hX hl hob hL h
def Fin(P:Program)(fn:Func)(K:Nat)(R:qp->lXE->Prop)(c:Code)(L:Loc)(ob:lXE):Prop:=awp none P fn.ntmps K [] c (JN P fn R) L ob
variable{fn:Func}{R:qp->lXE->Prop}
def Nw{a b:Code}{L L1:Loc}{ob ob1:lXE}(h:Piece P fn.ntmps K a L ob .normal L1 ob1)(k:Fin P fn K R b L1 ob1):Fin P fn K R (.seq a b) L ob:=iR (h none _ (.inl rfl) k)
def Qh{c:Code}{L L1:Loc}{ob ob1:lXE}(h:xy P fn.ntmps K L ob L1 ob1)(k:Fin P fn K R c L1 ob1):Fin P fn K R c L ob:=h none c _ k
theorem A2{df:Option Nat}{ι:Type}{c:Code}{Q:dy}(hd:jk df c)(L:ι->Loc)(B:ι->lXE)(I:ι->Prop)(μ:ι->Nat)(round: ∀x,I x->(∃y,I y/\μ y<μ x/\Piece P n K c (L x) (B x) .normal (L y) (B y))\/awp df P n K [] c (EE (λ_ _=>False) Q) (L x) (B x))(x:ι)(hx:I x):awp df P n K [] (.loop c) Q (L x) (B x):=by
 refine mW L B I μ x hx (Sub.refl _) rfl λy hy=> ?_;rcases round y hy with⟨z,h1,h2,h3⟩|h
 ·exact h3 df _ hd ⟨z,h1,h2,Sub.refl _,rfl⟩
 ·refine wc h λax L' ob' q=> ?_;cases ax with
  |normal=>exact q.elim
  |_=>exact q
section
variable{id:Nat}{c:Code}
theorem pJ{ι:Type}{L':Loc}{ob':lXE}(L:ι->Loc)(Bs:ι->lXE)(I:ι->Prop)(μ:ι->Nat)(x:ι)(hx:I x)(round: ∀x,I x->(∃y,I y/\μ y<μ x/\Piece P n K c (L x) (Bs x) .normal (L y) (Bs y))\/Piece P n K c (L x) (Bs x) (.exit id) L' ob'):Piece P n K (.block id<|.loop c) (L x) (Bs x) .normal L' ob':=by
 intro df Q hd hq;have hd':jk df c:=hd.imp (λe=>e) λe=>by simpa only[Code.inR]using e
 exact dN (A2 hd' L Bs I μ (λy hy=>(round y hy).imp (λe=>e) λk=>k df _ hd'<|EO (Q:=Q) hq) x hx)
section
variable{L L':Loc}{ob ob':lXE}
theorem ku(h:Piece P n K c L ob .normal L' ob'):Piece P n K (.block id c) L ob .normal L' ob':=λdf _ hd hq=>dN (h df _ (hd.imp (λe=>e) λe=>by simpa only[Code.inR]using e) hq)
theorem qP(h:Piece P n K c L ob (.exit id) L' ob'):Piece P n K (.block id c) L ob .normal L' ob':=λdf Q hd hq=>dN (h df _ (hd.imp (λe=>e) λe=>by simpa only[Code.inR]using e)<|EO (Q:=Q) hq)
end
end
theorem iI{a b:Code}{L L':Loc}{ob ob':lXE}{x:AX}(h:Piece P n K a L ob x L' ob')(hx:x≠ .normal):Piece P n K (.seq a b) L ob x L' ob':=λdf Q hd hq=>iR (h df _ (hd.imp (λe=>e) λe=>by simp only[Code.inR,afv]at e;exact e.1)<|by
 cases x with
 |normal=>exact absurd rfl hx
 |_=>exact hq)
theorem Fq{rest:Code}(hcf:b0 P callf)(hm:P.follows .mixedOrders=true){hs:List Code}{args:lXF}{ob:lXE}(L':Loc)(ob':lXE){sel:lXC}{gd:List Gi}{ok:lXB}{N' lo:Nat}{SL:List (Option AV)}{SO:List (Option Ob)}(h:iq (L'.map (·.1)) sel (Fm P fn.ntmps callf pu lf hs (mq 0 args .e) (dq ob) ob.length ⟨lo,gd,[]⟩)=some (.normal,SL,SO,N',ok))(hok:cr ok=true)(hn:mr sel=true)(hK:(range K).all (λi=>sel[i]? ==some i)=true)(h2:mO (bU sel N') L'=SL)(h3:oZ (bU sel N') SO ob')(k:Fin P fn K R rest L' ob'):Fin P fn K R (Qf hs rest) (fJ 0 args) ob:=by
 cases hr:Fm P fn.ntmps callf pu lf hs (mq 0 args .e) (dq ob) ob.length ⟨lo,gd,[]⟩with
 |fail=>rw[hr]at h;cases h
 |ok x1 M1 O1 N1 t1=>
  rw[hr]at h;simp only[iq,afD,afW]at h;obtain⟨rfl,q2,q3,rfl,rfl⟩:=h;refine(J6 hcf hm hs hr).2 hok (fJ 0 args) ob (fw args) (en ob) K _ _ λL1 ob1 hM hO=> ?_;have hl1:ob1.length=N1:=hO.1;rw[<-q3]at h3;obtain⟨t1,t2⟩:=sJ h3;exact Nv ⟨ja hn,by simpa using t1,λi s X hi hX=>by
   obtain⟨Y,k1,k2⟩:=t2 i X hX;rw[afM,hi]at k1;simp only[afV,afD]at k1;exact⟨Y,by rw[<-hO.2];exact k1,by rw[hl1];exact k2⟩,λi hi=>by
   have:=af2.1 hK i (ahd.2 hi);simpa using this,λt av e=>by
   rw[<-hM t,hl1];exact lB (q2.trans h2.symm) t av e⟩ none _ _ k
def jT{f:FuncId}{c:Code}{args:lXF}{ob ob':lXE}{r:AV}(hf:P.funcs[f]? =some fn)(hname:(fn.name== "runtime.NumGoroutine")=false)(hb:fn.body=some c)(hn:args.length<=fn.ntmps)(hl:ob.length<=ob'.length)(hr:r.und ob'.length=true)(hbl:ob'.all (Ob.und ob'.length)=true)(h:Fin P fn ob.length (λe o=>e= .ret r/\ ∃xs,o=ob'++xs) c (fJ 0 args) ob):aQ P f args ob [] r ob':=EN hf hname hb hn hl hr hbl h
end
end Go.Am
namespace Go.Proofs
open Go.Shelf Go.RowKit
def Tryz.tZ:Go.Shelf.Ren:=⟨λ|156=>41|165=>70|166=>42|169=>43|240=>71|241=>97|276=>98|277=>110|n=>n,λ|31=>22|9=>9|3=>3|4=>4|0=>0|20=>20|72=>80|76=>83|70=>77|37=>78|75=>82|127=>121|164=>140|5=>5|80=>85|n=>n,λ|n=>n⟩
def Tryz.J8:Go.Proofs.Lays.n156 Tryz.prog Tryz.tZ:={
 mixed:=by kernel_rfl
 f156:=Tryz.func41.trans (afQ some oab)
 f165:=Tryz.func70.trans (afQ some oab)
 f166:=Tryz.func42.trans (afQ some oab)
 f169:=Tryz.func43.trans (afQ some oab)
 f240:=Tryz.func71.trans (afQ some oab)
 f241:=Tryz.func97.trans (afQ some oab)
 f276:=Tryz.func98.trans (afQ some oab)
 f277:=Tryz.func110.trans (afQ some oab)
 t0:=Tryz.underlying0
 a0:=Tryz.isAgg0
 z0:=Tryz.sizeOf0
 v0:=Tryz.zeroValue0
 t3:=Tryz.underlying3
 a3:=Tryz.isAgg3
 z3:=Tryz.sizeOf3
 v3:=Tryz.zeroValue3
 t4:=Tryz.underlying4
 a4:=Tryz.isAgg4
 z4:=Tryz.sizeOf4
 v4:=Tryz.zeroValue4
 t9:=Tryz.underlying9
 a9:=Tryz.isAgg9
 z9:=Tryz.sizeOf9
 v9:=Tryz.zeroValue9
 t20:=Tryz.underlying20
 a20:=Tryz.isAgg20
 z20:=Tryz.sizeOf20
 v20:=Tryz.zeroValue20
 t31:=Tryz.underlying22
 a31:=Tryz.isAgg22
 z31:=Tryz.sizeOf22
 v31:=Tryz.zeroValue22
 t37:=Tryz.underlying78
 a37:=Tryz.isAgg78
 z37:=Tryz.sizeOf78
 v37:=Tryz.zeroValue78
 t70:=Tryz.underlying77
 a70:=Tryz.isAgg77
 z70:=Tryz.sizeOf77
 v70:=Tryz.zeroValue77
 t72:=Tryz.underlying80
 a72:=Tryz.isAgg80
 z72:=Tryz.sizeOf80
 v72:=Tryz.zeroValue80
 t75:=Tryz.underlying82
 a75:=Tryz.isAgg82
 z75:=Tryz.sizeOf82
 v75:=Tryz.zeroValue82
 t76:=Tryz.underlying83
 a76:=Tryz.isAgg83
 z76:=Tryz.sizeOf83
 v76:=Tryz.zeroValue83
 t127:=Tryz.underlying121
 a127:=Tryz.isAgg121
 z127:=Tryz.sizeOf121
 v127:=Tryz.zeroValue121
 t164:=Tryz.underlying140
 a164:=Tryz.isAgg140
 z164:=Tryz.sizeOf140
 v164:=Tryz.zeroValue140}
theorem Tryz.kv:Builder.Extra Tryz.prog Tryz.tZ:={
 sizeBuilder:=by kernel_rfl
 liesBuilder:=by kernel_rfl
 t5:=Tryz.underlying5
 a5:=Tryz.isAgg5
 z5:=Tryz.sizeOf5
 v5:=Tryz.zeroValue5
 infoByte:=by kernel_rfl
 cellsByte:=by kernel_rfl
 sizeByte:=by kernel_rfl
 neB5:=by decide}
def Tryz.strings_Join_none(a:Option Addr)(c:Nat)(sep:ByteArray)(w:World):Calls Tryz.prog 41 #[.slice a 0 c,.string sep] w λe w'=>e= .returned (.string ⟨#[]⟩)/\w'=w:=Any.strings_Join_none Tryz.J8 Tryz.kv a c sep w
def Tryz.strings_Join(bk o c:Nat)(xs:lXD)(sep:ByteArray)(w:World)(hcells: ∀(j:Nat) x,xs[j]? =some x->w.cell? ⟨bk,o+j,none⟩=some (.string x))(hbk:bk<w.heap.size)(hN:xs.length<=140737488355328)(hcap:xs.length<=c)(hlen:(Lib.join (xs.map (·.data.toList)) sep.data.toList).length<=140737488355328):Calls Tryz.prog 41 #[.slice (some ⟨bk,o,none⟩) xs.length c,.string sep] w λe w'=>e= .returned (.string ⟨(Lib.join (xs.map (·.data.toList)) sep.data.toList).toArray⟩)/\Below w.heap.size w w':=Any.strings_Join Tryz.J8 Tryz.kv bk o c xs sep w hcells hbk hN hcap hlen
end Go.Proofs
namespace Go.Proofs.YtfkjfjalecikkaaGreatDoor
open Go.Am Go.RowKit
section
variable{m:Mem}{γ:Gam}{ob:lXE}{w w':World}
theorem A3(hi:Inv m γ ob w)(h:Below w.heap.size w w'):Inv m γ ob w'/\Trans m γ w m γ w':=by have hb: ∀k,k<w.heap.size->w'.heap[k]? =w.heap[k]? :=h.block;refine⟨⟨λa x ha=> ?_,λo X hX=>dU (hi.obj o X hX) (Le.refl _ _ _) (λb C hg=>hb b<|hi.dom o b C hg) (λ_ _ _ _ h=>h),hi.sep,λo b C hg=>agz (hi.dom o b C hg) h.size,hi.len,hi.tab.old hb⟩,⟨λ_ _ h=>h,λ_ _ h=> .inl h,λ_ _ h=>h,h.os,h.tape,h.output,h.size,λk hk _=>hb k hk⟩⟩;have h1:=hi.mem a x ha;have h2:=World.block_lt_of_cell? w a h1;rw[<-h1];simp only[World.cell?,hb _ h2]
def sK(xs:lXD):List lXF:=xs.map λx=>[.v (.string x)]
def dO(xs:lXD)(sep:ByteArray):ByteArray:=⟨(Lib.join (xs.map (·.data.toList)) sep.data.toList).toArray⟩
theorem Nx(xs:lXD):(sK xs).flatten=xs.map λx=>AV.v (.string x):=by
 induction xs with
 |nil=>rfl
 |cons x r ih=>grind[sK]
theorem Qi{xs:lXD}{vs:List Value}(h:au m γ (xs.map λx=>AV.v<|.string x) vs):vs=xs.map Value.string:=by
 induction xs generalizing vs with
 |nil=>simpa [au]using h
 |cons x r ih=>grind[au,Rep]
theorem Ny{xs:lXD}{b off:Nat}(h:bM m γ 1 (sK xs) b off): ∀(j:Nat) x,xs[j]? =some x->m ⟨b,off+j,none⟩=some (.string x):=by
 induction xs generalizing off with
 |nil=>intro j x e;simp at e
 |cons y r ih=>grind[sK,bM,bD,Rep]
theorem lE(hi:Inv m γ ob w){e:Ending}{r:ByteArray}(he:e= .returned (.string r)/\Below w.heap.size w w'):∃m' γ' r0 ob',(r0=qp.ret (.v<|.string r)/\ob'=ob)/\l9 m' γ' e r0/\Trans m γ w m' γ' w'/\Inv m' γ' ob' w'/\(∀o g,([]:lXC).contains o=false->γ o=some g->γ' o=some g):=by obtain⟨rfl,hb⟩:=he;obtain⟨h1,h2⟩:=A3 hi hb;grind[l9,Rep]
theorem J9: ∃fn,Tryz.prog.funcs[41]? =some fn/\(fn.name== "runtime.NumGoroutine")=false/\fn.body.isNone=false:=⟨_,Tryz.func41,by kernel_rfl,by kernel_rfl⟩
theorem join_nil(sep:ByteArray):dO [] sep=⟨#[]⟩:=by simp[dO,Lib.join]
section
variable(xs:lXD)(sep:ByteArray)
theorem Ka(hl:(dO xs sep).data.size<=140737488355328)(hn:xs.length<=140737488355328):aQ Tryz.prog 41 [.sl 1 (sK xs),.v (.string sep)] ob [] (.v<|.string<|dO xs sep) ob:=by
 refine⟨J9,λm γ w vs hi hv=> ?_⟩;simp only[au,Rep]at hv;obtain⟨x,r,rfl,⟨a,len,cap,rfl,h1,h2,h3⟩,y,r2,rfl,rfl,rfl⟩:=hv;rcases h3 with h3|⟨b,off,rfl,h3⟩
 ·have:xs=[]:=by simpa [sK]using h3
  subst this;subst h1;refine(Tryz.strings_Join_none a cap sep w).mono λe w'⟨he,hw⟩=> ?_;subst hw;exact lE hi ⟨by rw[he,join_nil],Below.refl _ _⟩
 ·have hlen:len=xs.length:=by rw[h1];simp[sK]
  subst hlen;cases xs with
  |nil=>refine(Tryz.strings_Join_none _ cap sep w).mono λe w'⟨he,hw⟩=> ?_;subst hw;exact lE hi ⟨by rw[he,join_nil],Below.refl _ _⟩
  |cons x r=>have hc:=Ny h3;refine(Tryz.strings_Join b off cap (x::r) sep w (λj x e=>hi.mem _ _<|hc j x e) ?_ hn h2 (by simpa [dO]using hl)).mono λe w' he=>lE hi he;have:=World.block_lt_of_cell? w _ (hi.mem _ _<|hc 0 x rfl);simpa using this
theorem Kb{o:Nat}{T:TypeId}(ho:ob[o]? =some (.row T 1<|sK xs))(hl:(dO xs sep).data.size<=140737488355328)(hn:xs.length<=140737488355328):aQ Tryz.prog 41 [.sr o 1 0 xs.length,.v (.string sep)] ob [] (.v<|.string<|dO xs sep) ob:=by
 refine⟨J9,λm γ w vs hi hv=> ?_⟩;simp only[au,Rep]at hv;obtain⟨x,r,rfl,h1,y,r2,rfl,rfl,rfl⟩:=hv;rcases h1 with⟨h1,⟨a,rfl⟩,_,h2⟩|⟨b,C,cap,h1,h2,h3,h4,rfl|⟨_,h5,_⟩⟩
 ·have:xs=[]:=List.length_eq_zero_iff.1 h2;subst this;refine(Tryz.strings_Join_none a 0 sep w).mono λe w'⟨he,hw⟩=> ?_;subst hw;exact lE hi ⟨by rw[he,join_nil],Below.refl _ _⟩
 ·rcases hi.obj o _ ho with⟨g1,_⟩|⟨b',C',cs,g1,g2,g3,g4,g5,g6,g7,g8⟩
  ·rw[h1]at g1;cases g1
  ·rw[h1]at g1;cases g1;rw[Nx]at g7;have g9:=Qi g7;refine(Tryz.strings_Join b (0*1) cap xs sep w (λj x e=> ?_) (hi.dom o b C h1) hn h3<|by simpa [dO]using hl).mono λe w' he=>lE hi he
   rw[Nat.zero_mul,agR,g2.cell];have hj:j<xs.length:=(afF.1 e).1;have h6:(cs.toList.take<|(sK xs).length*1)[j]? =some (.string x):=by rw[g9,afM,e];rfl
   rw[agp]at h6;split at h6
   ·simpa using h6
   ·cases h6
 ·exact absurd rfl h5
end
def strOf:List lXF->Option lXD
 |[]=>some []
 |[.v (.string x)]::r=>match strOf r with
  |some l=>some (x::l)
  |none=>none
 |_=>none
theorem xz: ∀{rows:List lXF}{xs:lXD},strOf rows=some xs->rows=sK xs
 |[],xs,h=>by cases h;rfl
 |c::rows,xs,h=>by
  unfold strOf at h;split at h
  ·rename_i heq;cases heq
  ·rename_i x r heq;cases heq;split at h
   ·rename_i l hl;cases h;rw[xz hl];rfl
   ·cases h
  ·cases h
noncomputable def Fs(rows:List lXF)(sep:ByteArray)(O:Tri Ob)(N:Nat)(tm:TM):CR:=match strOf rows with
 |some xs=>cond (Nat.ble (dO xs sep).data.size 140737488355328&&Nat.ble xs.length 140737488355328) (.ret (.v<|.string<|dO xs sep) O N<|tm.at N) .fail
 |none=> .fail
noncomputable def abE(args:lXF)(O:Tri Ob)(N:Nat)(tm:TM):CR:=match args with
 |[.sl S rows,.v (.string sep)]=>cond (Nat.beq S 1) (Fs rows sep O N tm) .fail
 |[.sr o S lo n,.v (.string sep)]=>match O.get o with
  |some (.row _ S2 rows)=>cond (Nat.beq S 1&&Nat.beq lo 0&&Nat.beq n rows.length&&Nat.beq S2 1) (Fs rows sep O N tm) .fail
  |_=> .fail
 |_=> .fail
noncomputable def HA(callf:cd):cd:=λf args O N tm=>cond (Nat.beq f 41) (abE args O N tm) (callf f args O N tm)
theorem Ft{rows:List lXF}{sep:ByteArray}{args:lXF}{O:Tri Ob}{N:Nat}{tm:TM}(h: ∀xs,rows=sK xs->(dO xs sep).data.size<=140737488355328->xs.length<=140737488355328-> ∀ob,bK O N ob->aQ Tryz.prog 41 args ob [] (.v<|.string<|dO xs sep) ob):(∀r O1 N1 t1,Fs rows sep O N tm= .ret r O1 N1 t1->Ext tm t1/\(cr t1.ok=true-> ∀ob,bK O N ob-> ∃ob1,bK O1 N1 ob1/\ly Tryz.prog 41 args ob r ob1/\ ∀i,tb t1.lo i=false->O1.get i=O.get i))/\ (∀av O1 N1 t1,Fs rows sep O N tm= .pan av O1 N1 t1->41<dm/\Ext tm t1/\(cr t1.ok=true-> ∀ob,bK O N ob-> ∃ob1,bK O1 N1 ob1/\Cu Tryz.prog 41 args ob av ob1/\ ∀i,tb t1.lo i=false->O1.get i=O.get i)):=by
 unfold Fs;split
 ·rename_i xs hxs;cases hc:(Nat.ble (dO xs sep).data.size 140737488355328&&Nat.ble xs.length 140737488355328)with
  |false=>exact dC _ _ args O N tm
  |true=>simp only[afv]at hc;refine⟨λr' O1 N1 t1 e=> ?_,λav O1 N1 t1 e=>by cases e⟩;cases e;exact⟨⟨[],rfl⟩,λhok ob hO=>⟨ob,hO,fW oaI (by grind[xz,nbl]),λi hi=>rfl⟩⟩
 ·exact dC _ _ args O N tm
theorem Nz{callf:cd}(hcf:b0 Tryz.prog callf):b0 Tryz.prog (HA callf):=λf args O N tm=>by
 unfold HA;cases hf:Nat.beq f 41 with
 |false=>exact hcf f args O N tm
 |true=>
  have:=afJ hf;subst this;simp only[afN];unfold abE;split
  ·rename_i S rows sep;cases hS:Nat.beq S 1 with
   |false=>exact dC _ _ _ O N tm
   |true=>have:=afJ hS;subst this;exact Ft (by grind[Ka])
  ·rename_i o S lo n sep;split
   ·rename_i T S' rows ho;cases hS:(Nat.beq S 1&&Nat.beq lo 0&&Nat.beq n rows.length&&Nat.beq S' 1)with
    |false=>exact dC _ _ _ O N tm
    |true=>
     simp only[afv]at hS;obtain⟨⟨⟨k1,k2⟩,k3⟩,k4⟩:=hS;have e1:=afJ k1;have e2:=afJ k2;have e3:=afJ k3;have e4:=afJ k4;subst e1;subst e2;subst e3;subst e4;exact Ft λxs e h1 h2 ob hO=>by
      subst e;have ho':ob[o]? =some (.row T 1<|sK xs):=by rw[<-hO.2];exact ho
      simp_all[sK,Kb]
   ·exact dC _ _ _ O N tm
  ·exact dC _ _ _ O N tm
theorem mixed:Tryz.prog.follows .mixedOrders=true:=by kernel_rfl
noncomputable def runJ(lf k:Nat):cd:=Nat.rec (motive:=λ_=>cd) (λ_ _ _ _ _=> .fail) (λ_ callf=>HA<|xw Tryz.prog (λ_=>false) lf callf) k
def Kc(lf:Nat): ∀k,b0 Tryz.prog (runJ lf k)
 |0=>λf args O N tm=>dC _ f args O N tm
 |k+1=>Nz (ov (Kc lf k) mixed _ lf)
end
end Go.Proofs.YtfkjfjalecikkaaGreatDoor
namespace Go.Am
section
variable{f:Nat->Nat}{N:Nat}
mutual
theorem ow (hf: ∀i,i<N->f i=i): ∀av:AV,av.und N=true->av.ren f=av
 | .any,_=>by simp[AV.ren]
 | .v _,_=>by simp[AV.ren]
 | .sl _ rows,h=>by simp only[AV.und]at h;simp[AV.ren,gI hf rows h]
 | .ag cs,h=>by simp only[AV.und]at h;simp[AV.ren,ed hf cs h]
 | .tu cs,h=>by simp only[AV.und]at h;simp[AV.ren,ed hf cs h]
 | .pt o _,h=>by simp_all[AV.und,AV.ren]
 | .pf cs,h=>by simp only[AV.und]at h;simp[AV.ren,ed hf cs h]
 | .sr o _ _ _,h=>by simp_all[AV.und,AV.ren]
 | .fn _ fs cs,h=>by simp only[AV.und,afv]at h;simp[AV.ren,ed hf fs h.1,ed hf cs h.2]
 | .ifc _ y,h=>by simp only[AV.und]at h;simp[AV.ren,ow hf y h]
 | .mp o,h=>by simp_all[AV.und,AV.ren]
 | .yl o,h=>by simp_all[AV.und,AV.ren]
 | .cl _ rows,h=>by simp only[AV.und]at h;simp[AV.ren,gI hf rows h]
theorem ed (hf: ∀i,i<N->f i=i): ∀cs:lXF,bN N cs=true->bV f cs=cs
 |[],_=>by simp[bV]
 |c::cs,h=>by simp only[bN,afv]at h;simp[bV,ow hf c h.1,ed hf cs h.2]
theorem gI (hf: ∀i,i<N->f i=i): ∀rows:List lXF,cM N rows=true->cP f rows=rows
 |[],_=>by simp[cP]
 |r::rs,h=>by simp only[cM,afv]at h;simp[cP,ed hf r h.1,gI hf rs h.2]
end
theorem sL(hf: ∀i,i<N->f i=i): ∀X:Ob,X.und N=true->X.ren f=X
 | .dead,_=>rfl
 | .box _ cs,h=>by grind[Ob.und,Ob.ren,ed]
 | .row _ _ rows,h=>by grind[Ob.und,Ob.ren,gI]
 | .mp _ vals,h=>by grind[Ob.und,Ob.ren,ed]
 | .lp _ _ _ cs,h=>by grind[Ob.und,Ob.ren,ed]
end
section
variable(cs:lXF)
def aL:List lXF:=cs.map λc=>[c]
theorem xA:(aL cs).flatten=cs:=by
 induction cs with
 |nil=>rfl
 |cons c cs ih=>grind[aL]
theorem gJ:(aL cs).length=cs.length:=by simp[aL]
theorem NA: ∀r∈aL cs,r.length=1:=by intro r hr;obtain⟨c,_,rfl⟩:=agl.1 hr;rfl
theorem NB(j:Nat)(c:AV):(aL cs).set j [c]=aL (cs.set j c):=by simp[aL,List.map_set]
end
theorem dK(f:Nat->Nat)(cs:lXF):cP f (aL cs)=aL (bV f cs):=by
 induction cs with
 |nil=>rfl
 |cons c cs ih=>grind[aL,cP,bV]
def vs(xs:List Value):lXF:=xs.map .v
theorem mu(f:Nat->Nat)(xs:List Value):bV f (vs xs)=vs xs:=by
 induction xs with
 |nil=>rfl
 |cons x xs ih=>grind[vs,bV,AV.ren]
def dB(o:Nat):List (List Value)->lXF
 |[]=>[]
 |R::Rs=> .sr o 1 0 R.length::dB (o+1) Rs
theorem dv: ∀(o:Nat)(Rs:List (List Value)),(dB o Rs).length=Rs.length
 |_,[]=>rfl
 |o,R::Rs=>by simp[dB,dv (o+1) Rs]
theorem fX: ∀(o:Nat)(Rs:List (List Value))(i:Nat),(dB o Rs)[i]? =(Rs[i]?).map λR=> .sr (o+i) 1 0 R.length
 |_,[],i=>by simp[dB]
 |o,R::Rs,0=>by simp[dB]
 |o,R::Rs,i+1=>by simp only[dB,agY];rw[fX (o+1) Rs i,show o+1+i=o+(i+1) by omega]
def inner(Ti:TypeId)(R:List Value):Ob:= .row Ti 1 (aL<|vs R)
theorem jG(f:Nat->Nat)(Ti:TypeId)(R:List Value):(inner Ti R).ren f=inner Ti R:=by grind[inner,Ob.ren,dK,mu]
section
variable(o:Nat)(T Ti:TypeId)(Rs:List (List Value))
def cj:lXE:= .row T 1 (aL<|dB (o+1) Rs)::Rs.map (inner Ti)
theorem sM:(cj o T Ti Rs).length=Rs.length+1:=by simp[cj]
end
def kg(o:Nat)(T Ti:TypeId)(j:Nat)(xs:List Value)(R:List Value):lXE:=[.row T 1 (aL<|(vs xs).set j<|.sr (o+1) 1 0 R.length),inner Ti R]
theorem Fu{f:Nat->Nat}{N:Nat}(hf: ∀i,i<N->f i=i){L:Loc}(hu:L.all (λp=>p.2.und N)=true){t:Nat}{av:AV}(h:lk L t=some av):av.ren f=av:=by
 induction L with
 |nil=>simp[lk]at h
 |cons p L ih=>grind[cH,ow]
def fN{m:Mem}{γ:Gam}{w:World}{o:Nat}{T:TypeId}{cs:lXF}(h:gP m γ w o (.row T 1<|aL cs))(h0:0<cs.length):∃xs,au m γ cs xs/\ ∀cs',au m γ cs' xs->gP m γ w o (.row T 1<|aL cs'):=by
 rcases h with⟨_,h2⟩|⟨b,C,vals,h1,h2,h3,h4,h5,h6,h7,h8⟩
 ·have:=afQ length h2;simp[aL]at this;rw[this]at h0;simp at h0
 ·rw[xA]at h7;refine⟨_,h7,λcs' h=> .inr ⟨b,C,vals,h1,h2,h3,?_,h5,NA cs',?_,h8⟩⟩
  ·have e1:=aZ h;have e2:=aZ h7;rw[gJ]at h4⊢;omega
  ·have e1:=aZ h;have e2:=aZ h7;rw[xA,gJ];rw[gJ]at h;rw[show cs'.length=cs.length by omega];exact h
theorem fi(f:Nat->Nat): ∀(cs:lXF)(j:Nat)(c:AV),bV f (cs.set j c)=(bV f cs).set j (c.ren f)
 |[],_,_=>rfl
 |_::_,0,_=>rfl
 |x::cs,j+1,c=>by simp only[List.set_cons_succ,bV,fi f cs j c]
theorem HB(ks:lXC)(R:List Value):(aL<|vs R).map (λr=>r.map<|e8 ks)=aL (vs R):=by
 induction R with
 |nil=>rfl
 |cons x R ih=>simp only[aL,vs,afZ,agA]at ih⊢;rw[ih];rfl
theorem pK(ks:lXC)(Ti:TypeId)(R:List Value):mc ks (inner Ti R)=inner Ti R:=by simp only[inner,mc,HB]
theorem ox(k j i:Nat):(range (k+1)++ [k+1+j])[i]? =if i<k+1 then some i else if i=k+1 then some (k+1+j)else none:=by grind
theorem cY{A:lXE}{X:Ob}{B:lXE}{i:Nat}:(A++X::B)[i]? =if i<A.length then A[i]? else if i=A.length then some X else B[i-(A.length+1)]? :=by grind
section
variable{P:Program}{n K:Nat}
set_option maxHeartbeats 1000000 in
theorem xB {c:Code} {L L':Loc} {base base':lXE} {T Ti:TypeId} {Rs:List (List Value)} {j:Nat} {Rj R':List Value} {x:AX} (hj:Rs[j]? =some Rj) (hb:base'.length=base.length) (hK:K<=base.length+1) (hrf:c.rf=false) (hx:eA x=true)
  (uL:L.all (λp=>p.2.und<|base.length+1)=true) (uL':L'.all (λp=>p.2.und<|base.length+1)=true) (ub:base.all (Ob.und<|base.length+1)=true) (ub':base'.all (Ob.und<|base.length+1)=true) (nd: ∀X∈base,X≠ .dead)
  (h: ∀xs:List Value,xs.length=Rs.length->Piece P n (base.length+1) c L (base++kg base.length T Ti j xs Rj) x L' (base'++kg base.length T Ti j xs R')):
  Piece P n K c L (base++cj base.length T Ti Rs) x L' (base'++cj base.length T Ti (Rs.set j R')):=by
 intro df Q hd hq m γ w a hi hl hs ht;have hjl:j<Rs.length:=(afF.1 hj).1;generalize hk:base.length=k at*;have hout:(base++cj k T Ti Rs)[k]? =some (.row T 1<|aL<|dB (k+1) Rs):=by rw[cj,cY,hk];simp
 obtain⟨xs,hxs,hre⟩:=fN (hi.obj k _ hout) (by rw[dv];omega);have hxl:xs.length=Rs.length:=by rw[aZ hxs,dv]
 have hxr: ∀(i:Nat) R x,Rs[i]? =some R->xs[i]? =some x->Rep m γ (.sr (k+1+i) 1 0 R.length) x:=λi R x hR hx=>by obtain⟨y,hy,hr⟩:=bX hxs i (.sr (k+1+i) 1 0 R.length) (by rw[fX,hR];rfl);rw[hx]at hy;cases hy;exact hr
 have hcell:au m γ ((vs xs).set j<|.sr (k+1+j) 1 0 Rj.length) xs:=by
  refine cF (by simp[vs]) λi c y hc hy=> ?_;by_cases hij:j=i
  ·subst hij;rw[agi oaz]at hc;cases hc;exact hxr j Rj y hj hy
  ·rw[af1 hij]at hc;rw[vs,afM,hy]at hc;cases hc;simp[Rep]
 let out2:Ob:= .row T 1 (aL<|(vs xs).set j<|.sr (k+1+j) 1 0 Rj.length);let ob2:lXE:=base++out2::Rs.map (inner Ti);have hlen2:ob2.length=k+1+Rs.length:=by simp[ob2,hk];omega
 have hlen1:(base++cj k T Ti Rs).length=k+1+Rs.length:=by simp[cj,hk];omega
 have hi2:Inv m γ ob2 w:=by
  refine lC hi (by rw[hlen2,hlen1]) λi Y hY=> ?_;by_cases hd:Y= .dead
  ·exact .inl hd
  ·right;by_cases hik:i=k
   ·subst hik;rw[cY,hk]at hY;simp at hY;subst hY;exact⟨⟨_,hout,by simp⟩,hre _ hcell⟩
   ·have e:(base++cj k T Ti Rs)[i]? =some Y:=by rw[<-hY];simp only[cj,ob2];rw[cY,cY,hk,if_neg hik,if_neg hik]
    exact⟨⟨Y,e,hd⟩,hi.obj i Y e⟩
 let sel:=range (k+1)++ [k+1+j];have hsl:sel.length=k+2:=by simp[sel]
 have hnd:sel.Nodup:=by refine List.nodup_append.2 ⟨List.nodup_range,by simp,λa ha b hb e=> ?_⟩;simp at ha hb;omega
 have fid: ∀i,i<k+1->bU sel ob2.length i=i:=λi hi=>eI (by simp only[sel];rw[ox,if_pos hi]);have f1:bU sel ob2.length (k+1)=k+1+j:=eI (by simp only[sel];rw[ox,if_neg oaa,if_pos rfl]);have hsel: ∀(i s:Nat)(X:Ob),sel[i]? =some s->(base++kg k T Ti j xs Rj)[i]? =some X->ob2[s]? =some (X.ren<|bU sel ob2.length)/\X≠ .dead:=by
  intro i s X h1 h2;simp only[sel]at h1;rw[ox]at h1;rw[kg,cY,hk]at h2;by_cases hik:i<k
  ·rw[if_pos oaa]at h1;rw[if_pos hik]at h2;cases h1;have hX:=agm h2;refine⟨?_,nd X hX⟩;rw[sL fid X (af2.1 ub X hX)];simp only[ob2];rw[cY,hk,if_pos hik];exact h2
  ·rw[if_neg hik]at h2;by_cases hie:i=k
   ·subst hie;rw[if_pos oaa]at h1;rw[if_pos rfl]at h2;cases h1;cases h2;refine⟨?_,by simp⟩;have e2:ob2[i]? =some out2:=by simp only[ob2];rw[cY,hk,if_neg oaa,if_pos rfl]
    rw[e2];simp only[Ob.ren,dK,fi,mu,AV.ren,f1,out2]
   ·rw[if_neg oaa]at h1;rw[if_neg hie]at h2;split at h1
    ·rename_i h3;subst h3;cases h1;simp at h2;subst h2;refine⟨?_,by simp[inner]⟩;rw[jG];simp only[ob2];rw[cY,hk,if_neg oaa,if_neg oaa,show k+1+j-(k+1)=j by omega,afM,hj];rfl
    ·cases h1
 have hisel:=od hi2 hnd (by rw[hsl];simp[kg,hk]) hsel;have hlS:bS m (λi=>γ<|bU sel ob2.length i) a L:=λt av e=>by obtain⟨q1,q2⟩:=hl t av e;refine⟨q1,(dk av _).2 ?_⟩;rw[Fu fid uL e];exact q2
 refine wpIn_mono (h xs hxl df (λx1 L1 ob1=>x1=x/\L1=L'/\ob1=base'++kg k T Ti j xs R') hd ⟨rfl,rfl,rfl⟩ m _ w a hisel hlS hs ht) ?_;rintro e a1 w1 ⟨m1,γ1,L1,ob1,ax,⟨rfl,rfl,rfl⟩,h2,h3,h4,h5,h6,h7,h8⟩;have hl1:(base'++kg k T Ti j xs R').length=k+2:=by simp[kg,hb]
 obtain⟨γ',g1,g2,g3,g4⟩:=lg hi2 (kk:=[k+1]) hnd (by rw[hsl];simp[kg,hk]) hsel (by rw[hsl,hl1];exact afG _) (by rw[hsl];simp) h3 h4 (λo g ho hg=>by
  by_cases hok:o<k+1
  ·exact h8 o g ⟨hok,rfl⟩ hg
  ·have ho2:o≠k+1:=by intro e;subst e;simp at ho
   exfalso;have:=hi2.len _ (show γ (bU sel ob2.length o)≠none by rw[hg];simp);rw[kj (by rw[hsl];omega)]at this;omega)
 let out3:Ob:= .row T 1 (aL<|(vs xs).set j<|.sr (k+1+j) 1 0 R'.length);have hs1: ∀s∈sel,s<(dW ([k+1].map<|bU sel ob2.length) ob2).length:=by
  intro s hs;rw[e9,hlen2];rcases agn.1 hs with hs|hs
  ·have:=ahd.1 hs;omega
  ·simp at hs;omega
 have hback:back ob2 sel [k+1] (base'++kg k T Ti j xs R')=base'++out3::(Rs.set j R').map (inner Ti):=by
  obtain⟨sg1,sg2⟩:=me (ob:=dW ([k+1].map<|bU sel ob2.length) ob2) (obc:=((base'++kg k T Ti j xs R').take sel.length).map<|Ob.ren<|bU sel ob2.length) hnd (by rw[afK,agh,hl1,hsl];simp) hs1;have hlen3:(gv (dW ([k+1].map<|bU sel ob2.length) ob2) sel<|((base'++kg k T Ti j xs R').take sel.length).map<|Ob.ren<|bU sel ob2.length).length=k+1+Rs.length:=by rw[iS,e9,hlen2]
  unfold back;rw[List.drop_eq_nil_of_le (by rw[hl1,hsl];exact afG _),agA,agG];have hlen4:(base'++out3::(Rs.set j R').map (inner Ti)).length=k+1+Rs.length:=by simp[hb];omega
  have htk:(base'++kg k T Ti j xs R').take sel.length=base'++kg k T Ti j xs R':=agd (by rw[hl1,hsl];exact afG _);rw[htk]at sg1 sg2⊢;have hget3: ∀i,(base'++kg k T Ti j xs R')[i]? =if i<k then base'[i]? else if i=k then some (.row T 1<|aL<|(vs xs).set j<|.sr (k+1) 1 0 R'.length)else [inner Ti R'][i-(k+1)]? :=λi=>by rw[kg,cY,hb]
  apply af8;intro i;rw[cY,hb];by_cases hik:i<k
  ·rw[if_pos hik];have e1:base'[i]? =some (base'[i]'oaa):=afR oaa;have hX:=agm e1;refine(sg1 i i ((base'[i]'oaa).ren<|bU sel ob2.length) (by simp only[sel];rw[ox,if_pos oaa])<|by rw[afM,hget3,if_pos hik,e1];rfl).trans ?_;rw[sL fid _ (af2.1 ub' _ hX),e1]
  ·rw[if_neg hik];by_cases hie:i=k
   ·rw[if_pos hie];subst hie;refine(sg1 i i out3 (by simp only[sel];rw[ox,if_pos oaa]) ?_);rw[afM,hget3,if_neg hik,if_pos rfl];simp only[afV,Ob.ren,dK,fi,mu,AV.ren,f1,out3]
   ·rw[if_neg hie];by_cases hij:i=k+1+j
    ·subst hij;refine(sg1 (k+1) (k+1+j) (inner Ti R') (by simp only[sel];rw[ox,if_neg oaa,if_pos rfl]) ?_).trans ?_
     ·rw[afM,hget3,if_neg oaa,if_neg oaa];simp[jG]
     ·rw[show k+1+j-(k+1)=j by omega,afM,agi hjl];rfl
    ·rw[sg2 i (by
      intro hm;rcases agn.1 hm with hm|hm
      ·have:=ahd.1 hm;omega
      ·simp at hm;exact hij hm)]
     rw[km];simp only[afZ,agA,ob2];rw[cY,hk,if_neg hik,if_neg hie,afM,afM,af1 oaa];cases Rs[i-(k+1)]? with
     |none=>rfl
     |some R=>simp only[afV,pK]
 rw[hback]at g4;have hout3:(base'++out3::(Rs.set j R').map (inner Ti))[k]? =some out3:=by rw[cY,hb];simp
 obtain⟨ys,hys,hre3⟩:=fN (g4.obj k _ hout3) oaz;have hyl:ys.length=Rs.length:=by rw[aZ hys];simp[vs,hxl]
 have hcell3:au m1 γ' (dB (k+1)<|Rs.set j R') ys:=by
  refine cF (by rw[dv,af3,hyl]) λi c y hc hy=> ?_;rw[fX]at hc;by_cases hij:j=i
  ·subst hij;rw[agi hjl]at hc;cases hc;obtain⟨z,hz,hr⟩:=bX hys j (.sr (k+1+j) 1 0 R'.length) (agi oaz);rw[hy]at hz;cases hz;exact hr
  ·rw[af1 hij]at hc;cases hR:Rs[i]? with
   |none=>rw[hR]at hc;cases hc
   |some R=>
    rw[hR]at hc;cases hc;have hil:i<Rs.length:=(afF.1 hR).1;have e1:xs[i]? =some (xs[i]'oaa):=afR oaa;obtain⟨z,hz,hr⟩:=bX hys i (.v<|xs[i]'oaa) (by rw[af1 hij,vs,afM,e1];rfl);rw[hy]at hz;cases hz;have hr':y=xs[i]'oaa:=by simpa [Rep]using hr
    subst hr';refine fj g3 _ _ ?_ (hxr i R _ hR e1);simp only[afZ,agA,f1,AV.free];simp;omega
 have hfin:Inv m1 γ' (base'++cj k T Ti (Rs.set j R')) w1:=by
  refine lC g4 (by simp[cj]) λi Y hY=> ?_;by_cases hd:Y= .dead
  ·exact .inl hd
  ·right;by_cases hik:i=k
   ·subst hik;rw[cj,cY,hb]at hY;simp at hY;subst hY;exact⟨⟨_,hout3,by simp[out3]⟩,hre3 _ hcell3⟩
   ·have e:(base'++out3::(Rs.set j R').map (inner Ti))[i]? =some Y:=by rw[<-hY];simp only[cj];rw[cY,cY,hb,if_neg hik,if_neg hik]
    exact⟨⟨Y,e,hd⟩,g4.obj i Y e⟩
 obtain⟨Ds,d1,d2,_,_⟩:=h7;have hDs:Ds=[]:=by
  rcases d2 with d2|d2
  ·rw[hrf]at d2;cases d2
  ·exact d2
 subst hDs;refine⟨m1,γ',_,_,_,hq,?_,g2,hfin,λt av e1=> ?_,h6,Marks.of_eq (by simpa using d1),λo g ho hg=> ?_⟩
 ·exact kr hx (λ_ _ h=>h) h2
 ·obtain⟨q1,q2⟩:=h5 t av e1;refine⟨q1,?_⟩;have q3:=(dk (m:=m1) (γ:=γ') (f:=bU sel ob2.length) av _).1 (by rw[show(λi=>γ'<|bU sel ob2.length i)=γ1 from funext g1];exact q2);rw[Fu fid uL' e1]at q3;exact q3
 ·refine g3.gam o g hg ?_;have:=ho.1;simp only[afZ,agA,f1];simp;omega
theorem Ke{L L':Loc}{ob ob':lXE}(h: ∀m γ w,Inv m γ ob w-> ∃m' γ',Trans m γ w m' γ' w/\Inv m' γ' ob' w/\(∀o,o<K->γ' o=γ o)/\(∀a,bS m γ a L->bS m' γ' a L')):xy P n K L ob L' ob':=by intro df c Q hq m γ w a hi hl hs hd;obtain⟨m',γ',t1,i1,g1,l1⟩:=h m γ w hi;refine wpIn_mono (hq m' γ' w a i1 (l1 a hl) hs hd) ?_;rintro e a1 w1 ⟨m1,γ1,L1,ob1,ax,h1,h2,h3,h4,h5,h6,h7,h8⟩;exact⟨m1,γ1,L1,ob1,ax,h1,h2,t1.trans h3,h4,h5,h6,h7,λo g ho hg=>h8 o g ho (by rw[g1 o ho.1];exact hg)⟩
theorem xC{L:Loc}{base:lXE}{T:TypeId}(Ti:TypeId){N:Nat}(hK:K<=base.length+1):xy P n K L (base++ [.row T 1 (aL<|replicate N<|.v<|.slice none 0 0)]) L (base++cj base.length T Ti (replicate N [])):=by
 refine Ke λm γ w hi=> ?_;generalize hk:base.length=k at*;let γ':Gam:=λo=>if o<k+1 then γ o else if o<k+1+N then some none else none
 have hlen:(base++ [Ob.row T 1 (aL<|replicate N<|.v<|.slice none 0 0)]).length=k+1:=by simp[hk]
 have hnone: ∀o,¬o<k+1->γ o=none:=λo ho=>by
  cases hg:γ o with
  |none=>rfl
  |some g=>have:=hi.len o oav;rw[hlen]at this;omega
 have hle:Le m γ [] m γ':=⟨λ_ _ h=>h,λo g hg _=>by
  by_cases ho:o<k+1
  ·simp only[γ',if_pos ho];exact hg
  ·rw[hnone o ho]at hg;cases hg⟩
 have hback: ∀o b C,γ' o=some (some (b,C))->γ o=some (some (b,C))/\o<k+1:=λo b C hg=>by
  by_cases ho:o<k+1
  ·simp only[γ',if_pos ho]at hg;exact⟨hg,ho⟩
  ·simp only[γ',if_neg ho]at hg;split at hg<;>cases hg
 have hout:(base++ [Ob.row T 1 (aL<|replicate N<|.v<|.slice none 0 0)])[k]? =some (.row T 1<|aL<|replicate N<|.v<|.slice none 0 0):=by rw[cY,hk];simp
 have hnest: ∀o Y,(base++cj k T Ti (replicate N []))[o]? =some Y->(o<k/\base[o]? =some Y)\/(o=k/\Y= .row T 1 (aL<|dB (k+1)<|replicate N []))\/(k<o/\o<k+1+N/\Y=inner Ti []):=by
  intro o Y hY;rw[cj,cY,hk]at hY;split at hY
  ·exact .inl ⟨by assumption,hY⟩
  ·split at hY
   ·cases hY;exact .inr (.inl ⟨by assumption,rfl⟩)
   ·rw[afM,age]at hY;split at hY
    ·cases hY;exact .inr (.inr ⟨by omega,by omega,rfl⟩)
    ·cases hY
 have hrow:gP m γ' w k (.row T 1<|aL<|dB (k+1)<|replicate N []):=by
  have h0:=dU (hi.obj k _ hout) hle (λ_ _ _=>rfl) (λ_ _ _ _ h=>h);by_cases hN:N=0
  ·subst hN;exact h0
  ·obtain⟨xs,hxs,hre⟩:=fN h0 oau;refine hre _ (cF (by rw[aZ hxs,dv];simp) λi c x hc hx=> ?_);rw[fX,age]at hc;split at hc
   ·rename_i hiN;cases hc;obtain⟨y,hy,hr⟩:=bX hxs i (.v<|.slice none 0 0) (by rw[age,if_pos hiN]);rw[hx]at hy;cases hy;have hxe:x= .slice none 0 0:=by simpa [Rep]using hr
    subst hxe;simp only[Rep];exact .inl ⟨by simp only[γ'];rw[if_neg oaa,if_pos oaa],⟨none,rfl⟩,trivial,rfl⟩
   ·cases hc
 refine⟨m,γ',⟨λ_ _ h=>h,λ_ _ h=> .inl h,λq _⟨o,C,h⟩=>⟨o,C,(hback o q C h).1⟩,rfl,rfl,rfl,afG _,λ_ _ _=>rfl⟩,⟨hi.mem,λo Y hY=> ?_,λo o' b C C' l1 l2 h1 h2=> ?_,λo b C h=>hi.dom o b C (hback o b C h).1,λo h=> ?_,hi.tab⟩,λo ho=> ?_,λa hl t av e=>⟨(hl t av e).1,n8 hle (hl t av e).2⟩⟩
 ·rcases hnest o Y hY with⟨h1,h2⟩|⟨rfl,rfl⟩|⟨h1,h2,rfl⟩
  ·refine dU (hi.obj o Y ?_) hle (λ_ _ _=>rfl) (λ_ _ _ _ h=>h);rw[cY,hk,if_pos h1];exact h2
  ·exact hrow
  ·exact .inl ⟨by simp only[γ'];rw[if_neg oaa,if_pos h2],rfl⟩
 ·have hlv: ∀o b C,γ' o=some (some (b,C))->live (base++cj k T Ti (replicate N [])) o->live (base++ [Ob.row T 1 (aL<|replicate N<|.v<|.slice none 0 0)]) o:=by
   rintro o b C hg ⟨Y,hY,hne⟩;have ho:=(hback o b C hg).2;rcases hnest o Y hY with⟨h1,h2⟩|⟨rfl,rfl⟩|⟨h1,h2,rfl⟩
   ·exact⟨Y,by rw[cY,hk,if_pos h1];exact h2,hne⟩
   ·exact⟨_,hout,by simp⟩
   ·omega
  exact hi.sep o o' b C C' (hlv o b C h1 l1) (hlv o' b C' h2 l2) (hback o b C h1).1 (hback o' b C' h2).1
 ·rw[afS,sM,hk,ag5];by_cases h1:o<k+1
  ·omega
  ·simp only[γ',if_neg h1]at h;split at h
   ·omega
   ·exact absurd rfl h
 ·simp only[γ'];rw[if_pos oaa]
def ix(Rs:List (List Value)):lXF:=Rs.map λR=> .sl 1 (aL<|vs R)
theorem Qj{m:Mem}{γ:Gam}{o:Nat}{cs:lXF}(h:(γ o=some none/\aL cs=[])\/ ∃b C,γ o=some (some (b,C))/\(aL cs).length<=C/\bM m γ 1 (aL cs) b 0){x:Value}(hx:Rep m γ (.sr o 1 0 cs.length) x):Rep m γ (.sl 1<|aL cs) x:=by grind[Rep,gJ]
theorem A4{m:Mem}{γ:Gam}: ∀{cs cs':lXF}{b off:Nat},cs'.length=cs.length->(∀(i:Nat)(c c':AV)(x:Value),cs[i]? =some c->cs'[i]? =some c' ->Rep m γ c x->Rep m γ c' x)->bM m γ 1 (aL cs) b off->bM m γ 1 (aL cs') b off
 |[],[],_,_,_,_,h=>h
 |[],_::_,_,_,hl,_,_=>by simp at hl
 |_::_,[],_,_,hl,_,_=>by simp at hl
 |c::cs,c'::cs',b,off,hl,hc,h=>by simp only[aL,afZ,bM,bD]at h⊢;obtain⟨h1,⟨⟨x,h2,h3⟩,_⟩,h4⟩:=h;exact⟨rfl,⟨⟨x,h2,hc 0 c c' x rfl rfl h3⟩,trivial⟩,A4 (cs:=cs) (cs':=cs') oaL (λi d d' y e1 e2=>hc (i+1) d d' y (by simpa using e1)<|by simpa using e2) h4⟩
theorem NC{L L':Loc}{base:lXE}{T Ti:TypeId}{Rs:List (List Value)}(hK:K<=base.length)(ub:base.all (Ob.und base.length)=true)(hL: ∀t av',lk L' t=some av' ->(lk L t=some av'/\av'.und base.length=true)\/(lk L t=some (.sr base.length 1 0 Rs.length)/\av' = .sl 1 (aL<|ix Rs)))(m:Mem)(γ:Gam)(w:World)(hi:Inv m γ (base++cj base.length T Ti Rs) w):∃m' γ',Trans m γ w m' γ' w/\Inv m' γ' base w/\(∀o,o<K->γ' o=γ o)/\(∀k,InG γ' k->InG γ k)/\(∀a,bS m γ a L->bS m' γ' a L'):=by
 obtain⟨m',hf,hi',ht⟩:=kO hi base.length (Rs.length+1);obtain⟨ys,hys⟩:=wL (K:=base.length) (obs:=base++cj base.length T Ti Rs) (ob:=base) oaf (Rs.length+1);rw[hys]at hi';obtain⟨d1,d2⟩:=nh hi' ub;have hout:(base++cj base.length T Ti Rs)[base.length]? =some (.row T 1<|aL<|dB (base.length+1) Rs):=by rw[cj,cY];simp
 have hin: ∀i R,Rs[i]? =some R->(base++cj base.length T Ti Rs)[base.length+1+i]? =some (inner Ti R):=λi R h=>by rw[cj,cY,if_neg oaa,if_neg oaa,show base.length+1+i-(base.length+1)=i by omega,afM,h];rfl
 refine⟨m',λo=>if o<base.length then γ o else none,⟨ht.mem,ht.new,λq hq⟨o,C,h⟩=> ?_,rfl,rfl,rfl,afG _,λ_ _ _=>rfl⟩,d1,λo ho=>by simp;omega,λq⟨o,C,h⟩=> ?_,λa hl t av' e=> ?_⟩
 ·simp only at h;split at h
  ·exact⟨o,C,h⟩
  ·cases h
 ·simp only at h;split at h
  ·exact⟨o,C,h⟩
  ·cases h
 ·rcases hL t av' e with⟨h1,h2⟩|⟨h1,rfl⟩
  ·obtain⟨q1,q2⟩:=hl t _ h1;exact⟨q1,d2 _ _ h2 (n8 hf.le q2)⟩
  ·obtain⟨q1,q2⟩:=hl t _ h1;refine⟨q1,d2 _ _ (aR _ _ ?_) ?_⟩
   ·simp only[AV.pure];clear hL hin hout hf hi' hys hi d1 d2 h1 q1 q2 e;induction Rs with
    |nil=>rfl
    |cons R Rs ih=>
     have hp:aM (aL<|vs R)=true:=by
      induction R with
      |nil=>rfl
      |cons x R ih=>simp only[aL,vs,afZ,aM,aq,AV.pure,agP,agj]at ih⊢;exact ih
     simp only[aL,ix,afZ,aM,aq,AV.pure,Bool.and_true,afv]at ih hp⊢;exact⟨hp,ih⟩
   ·have hx:=n8 hf.le q2;have h0:=hf.row base.length T 1 _ (afG _) oaa hout;have hx1:Rep m' γ (.sl 1<|aL<|dB (base.length+1) Rs) (a.tmps.getD t undef):=Qj h0 (by rw[dv];exact hx);simp only[Rep]at hx1⊢;obtain⟨ad,len,cap,e1,e2,e3,e4⟩:=hx1;refine⟨ad,len,cap,e1,by rw[e2,gJ,gJ,dv];simp[ix],e3,?_⟩;rcases e4 with e4|⟨b,off,e5,e6⟩
    ·left;have:=afQ length e4;rw[gJ,dv]at this;have hRs:Rs=[]:=List.length_eq_zero_iff.1 (by simpa using this);subst hRs;rfl
    ·right;refine⟨b,off,e5,A4 (by rw[dv];simp[ix]) (λi c c' x hc hc' hr=> ?_) e6⟩;rw[fX]at hc;cases hR:Rs[i]? with
     |none=>rw[hR]at hc;cases hc
     |some R=>rw[hR]at hc;cases hc;rw[ix,afM,hR]at hc';cases hc';have hil:i<Rs.length:=(afF.1 hR).1;refine Qj (hf.row (base.length+1+i) Ti 1 _ oaa oaa<|hin i R hR) ?_;rw[show(vs R).length=R.length by simp[vs]];exact hr
end
section
variable{P:Program}
end
def ac{b:Bool}{l:lXB}(h:b=true)(k:cr l=true):cr (b::l)=true:=by simp only[cr,h,k,agP]
def ak{b:Bool}(h:b=false):(!b)=true:=by rw[h];rfl
section
variable{α:Type}[Inhabited α]
def aB(l:List α)(s:Int):α:=(l[s.toNat]?).getD default
def ae(l:List α)(i:Nat):α:=(l[i]?).getD default
section
variable{l:List α}
theorem eL{i:Nat}(h:i<l.length):l[i]? =some (ae l i):=by simp[ae,h]
theorem Qk{s:Int}(h0:0<=s)(h:s<l.length):l[s.toNat]? =some (aB l s):=by simp_all[aB]
theorem Fv{f:α->lXF}{s:Int}(h0:decide (s>=0)=true)(h:decide (s<(((l.map f).length:Nat):Int))=true):(dec (s=((s.toNat:Nat):Int))&&dec ((l.map f)[s.toNat]? =some (f<|aB l s)))=true:=by grind[aH,Qk]
theorem qQ{f:α->lXF}{i:Nat}(h:i<l.length):dec ((l.map f)[i]? =some (f<|ae l i))=true:=aH.2 (by rw[afM,eL h];rfl)
end
end
section
variable{P:Program}{fn:Func}{callf:cd}{pu:FuncId->Bool}{lf:Nat}
end
def Ql{f:Nat->Nat}{N:Nat}(hf: ∀i,i<N->f i=i){A:lXE}(h:A.all (Ob.und N)=true):oZ f (A.map some) A:=Nu (by
 induction A with
 |nil=>rfl
 |cons X A ih=>grind[sL])
theorem bw{α:Type}{f:α->lXF}(hf: ∀x,aq (f x)=true)(N:Nat)(l:List α):cM N (l.map f)=true:=by
 induction l with
 |nil=>rfl
 |cons x l ih=>grind[cM,bA]
theorem aW{α:Type}{f:α->lXF}(hf: ∀x,aq (f x)=true)(l:List α):aM (l.map f)=true:=by
 induction l with
 |nil=>rfl
 |cons x l ih=>grind[aM]
def HC(k N:Nat): ∀i,i<k->bU (range k) N i=i:=λi hi=>eI (by rw[List.getElem?_range hi])
def dr(s:ByteArray)(i:Nat):Int:=((s[i]?).getD 0).toNat
end Go.Am
namespace Go.Proofs.YtfkjfjalecikkaaGreatDoor
open Go.Am
noncomputable def aG(f:Nat):Code:=match Tryz.prog.funcs[f]? with
 |some fn=>match fn.body with
  |some c=>c
  |none=> .skip
 |none=> .skip
def sq1:Code->Code
 | .seq a _=>a
 |c=>c
def sq2:Code->Code
 | .seq _ b=>b
 |c=>c
def inn:Code->Code
 | .block _ (.loop c)=>c
 |c=>c
abbrev I(z:Int):AV:= .v (.int .i64 z)
abbrev I8(z:Int):AV:= .v (.int .i8 z)
abbrev I32(z:Int):AV:= .v (.int .i32 z)
abbrev B(b:Bool):AV:= .v (.bool b)
abbrev S(s:ByteArray):AV:= .v (.string s)
def c7:FuncId->Bool:=λ_=>false
noncomputable abbrev pg:=Tryz.prog
noncomputable def base:cd:=E3 Tryz.prog (λ_=>false) 3000 60
def aC:b0 Tryz.prog base:=Fk mixed _ _ _
inductive G where
 |mk (op n:Int) (name:ByteArray) (kids:List G)
 deriving Inhabited
mutual
def gC:G->lXF
 | .mk op n s l=>[I8 op,I n,S s,.sl 4 (gR l)]
def gR:List G->List lXF
 |[]=>[]
 |g::l=>gC g::gR l
end
theorem Cz: ∀l:List G,gR l=l.map gC
 |[]=>by simp[gR]
 |g::l=>by simp[gR,Cz l]
mutual
theorem qR: ∀g:G,aq (gC g)=true
 | .mk op n s l=>by simp[gC,aq,AV.pure,Kf l]
theorem Kf: ∀l:List G,aM (gR l)=true
 |[]=>by simp[gR,aM]
 |g::l=>by simp[gR,aM,qR g,Kf l]
end
def G.op:G->Int
 | .mk o _ _ _=>o
def G.n:G->Int
 | .mk _ n _ _=>n
def G.name:G->ByteArray
 | .mk _ _ s _=>s
def G.kids:G->List G
 | .mk _ _ _ l=>l
def gCC(g:G):lXF:=[I8 g.op,I g.n,S g.name,.sl 4 (g.kids.map gC)]
theorem CB:gCC=gC:=funext λg=>by obtain⟨o,n,s,l⟩:=g;grind[gCC,gC,Cz,G.op,G.n,G.name,G.kids]
def Qm(g:G):aq (gCC g)=true:=by rw[CB];exact qR g
structure Edge where
 op:Int
 set:List (Int×Int)
 n:Int
 level:Int
 g:G
 ct:List (Int×Int)
 to:Int
 deriving Inhabited
structure State where
 aI:Int
 ah:List Edge
 deriving Inhabited
structure bJ where
 name:ByteArray
 bR:Bool
 ft:Bool
 lazy:Bool
 left:Bool
 mode:Int
 type:Int
 start:Int
 stop:Int
 deriving Inhabited
structure Net where
 types:lXD
 bp:lXD
 bx:lXD
 rules:List bJ
 aa:List State
 deriving Inhabited
def aJ(r:Int×Int):lXF:=[I32 r.1,I32 r.2]
def cw(a:Int×Int):lXF:=[I8 a.1,I a.2]
def aD(e:Edge):lXF:=[I8 e.op,.sl 2 (e.set.map aJ),I e.n,I e.level,I8 e.g.op,I e.g.n,S e.g.name,.sl 4 (e.g.kids.map gC),.sl 2 (e.ct.map cw),I e.to]
def aj(s:State):lXF:=[I s.aI,.sl 10 (s.ah.map aD)]
def aU(s:ByteArray):lXF:=[S s]
def aw(r:bJ):lXF:=[S r.name,B r.bR,B r.ft,B r.lazy,B r.left,I r.mode,I r.type,I r.start,I r.stop]
def aY(n:Net):lXF:=[.sl 1 (n.types.map aU),.sl 1 (n.bp.map aU),.sl 1 (n.bx.map aU),.sl 9 (n.rules.map aw),.sl 2 (n.aa.map aj)]
theorem kx(r:Int×Int):aq (aJ r)=true:=rfl
theorem oy(r:Int×Int):aq (cw r)=true:=rfl
theorem fY(r:ByteArray):aq (aU r)=true:=rfl
theorem pL(r:bJ):aq (aw r)=true:=rfl
theorem pM(e:Edge):aq (aD e)=true:=by simp[aD,aq,AV.pure,aW kx,aW oy,aW qR]
theorem ns(s:State):aq (aj s)=true:=by simp[aj,aq,AV.pure,aW pM]
def A5(n:Net):aq (aY n)=true:=by grind[aY,aq,AV.pure,aW,fY,pL,ns]
def eM(n:Net):AV:= .ag (aY n)
def und9:ey Tryz.prog (underlying 9)=some .string:=by kernel_rfl
def ixs(s:ByteArray)(i:Nat)(h:i<s.size):IxP Tryz.prog 9 (.string s) (.int .i64 i) (.int .u8<|dr s i):=by
 have hs:s[i]? =some s[i]:=by simp[h]
 unfold IxP Instr.index;refine(iZ<|show ey Tryz.prog (asIntOf<|.int .i64 (i:Int))=some (IntKind.i64,(i:Int))from rfl).trans ?_;refine(iZ und9).trans ?_;simp[hs,dr];rfl
def size_pos{s:ByteArray}(h:cp (Array.toList<|ByteArray.data s) []=false):0<s.size:=by
 cases hl:Array.toList (ByteArray.data s)with
 |nil=>rw[hl]at h;cases h
 |cons a l=>have:=afQ length hl;simp at this;omega
end Go.Proofs.YtfkjfjalecikkaaGreatDoor
namespace Go.Am
structure KB where
 L0:Loc
 ob0:lXE
 hit:Bool
 x1:AX
 L1:Loc
 ob1:lXE
 x2:AX
 L2:Loc
 ob2:lXE
 p:Prop:=True
abbrev KBs:=Nat->Option KB
def Kg(a b c:Nat):Nat:=JX 0 (Nat.add a<|Nat.add b c)
section
variable(k:KB)(M:Tri AV)(O:Tri Ob)(N:Nat)
noncomputable def A6:Bool:=dec (k.L0.map (λp=>M.get p.1)=k.L0.map (λp=>some p.2))&&dec (oW O N 0=k.ob0)&&dec k.p
noncomputable def Qn(tm:TM):RX:=match tm.gd with
 | .b true::r=> .ok k.x1 (dX k.L1) (dq k.ob1) k.ob1.length (((tm.told r<|A6 k M O N).asks k.hit).low<|Kg k.ob0.length k.ob1.length k.ob2.length)
 | .b false::r=> .ok k.x2 (dX k.L2) (dq k.ob2) k.ob2.length (((tm.told r<|A6 k M O N).asks<|!k.hit).low<|Kg k.ob0.length k.ob1.length k.ob2.length)
 |_=> .fail
end
noncomputable def kbR(id:Nat)(M:Tri AV)(O:Tri Ob)(N:Nat)(tm:TM)(a:RX):Option KB->RX
 |some k=>Qn k M O N tm
 |none=>pB id a
noncomputable def Qo(M:Tri AV)(v:Bool):Operand->Tri AV
 | .tmp t=>M.set (.v<|.bool v) t
 |_=>M
noncomputable def Kh(x:Operand)(a b:Tri AV->Tri Ob->Nat->TM->RX)(M:Tri AV)(O:Tri Ob)(N:Nat)(tm:TM):Option AV->RX
 |some (.v<|.bool v)=>match tm.gd with
  | .b true::r=>a (Qo M true x) O N (tm.told r v)
  | .b false::r=>b (Qo M false x) O N (tm.told r<|!v)
  |_=>wX a b M O N tm (some<|.v<|.bool v)
 |_=> .fail
noncomputable def runK(P:Program)(n:Nat)(callf:cd)(pu:FuncId->Bool)(lf:Nat)(kb:KBs)(c:Code):Tri AV->Tri Ob->Nat->TM->RX:=
 Code.rec (motive:=λ_=>Tri AV->Tri Ob->Nat->TM->RX)
  (λM O N tm=> .ok .normal M O N tm)
  (λ_ ops draw M O N tm=>Ck ops.toList draw<|fL P n callf pu ops.toList ops.toList M O N tm)
  (λ_ _ a b M O N tm=>qK b<|a M O N tm)
  (λx _ _ a b M O N tm=>Kh x a b M O N tm<|tev M x)
  (λid _ a M O N tm=>kbR id M O N tm (a M O N tm)<|kb id)
  (λc _ M O N tm=>dJ P n callf pu lf (.loop c) M O N tm)
  (λg ps a b _ _ M O N tm=>dJ P n callf pu lf (.rangeFunc g ps a b) M O N tm)
  (λid M O N tm=> .ok (.exit id) M O N tm)
  (λc _ M O N tm=>dJ P n callf pu lf (.scope c) M O N tm)
  (λ_ M O N tm=> .ok .normal M O N tm)
  (λ_ _ _ _ _=> .fail)
  (λM O N tm=> .ok .ret M O N tm)
  (λ_ _ _ _ _=> .fail) c
section
variable{P:Program}{n K:Nat}{callf:cd}{pu:FuncId->Bool}{lf:Nat}
section
variable(P:Program)(n K:Nat)(c:Code)
section
variable(M:Tri AV)(O:Tri Ob)(N:Nat)
def Qp(x:AX)(M':Tri AV)(O':Tri Ob)(N':Nat):Prop:=
 ∀L ob,cm M L->bK O N ob->(∃L' ob',cm M' L'/\bK O' N' ob')/\
  ∀df Q,jk df c->(∀L' ob',cm M' L' ->bK O' N' ob' ->Q x L' ob')->awp df P n K [] c Q L ob
def ac9(tm:TM)(x:AX)(M':Tri AV)(O':Tri Ob)(N':Nat)(tm':TM):Prop:=Ext tm tm'/\(cr tm'.ok=true->(∃L ob,cm M L/\bK O N ob)->Qp P n K c M O N x M' O' N')
end
def fZ(run:Tri AV->Tri Ob->Nat->TM->RX):Prop:= ∀{M:Tri AV}{O:Tri Ob}{N:Nat}{tm:TM}{x:AX}{M':Tri AV}{O':Tri Ob}{N':Nat}{tm':TM},run M O N tm= .ok x M' O' N' tm' ->ac9 P n K c M O N tm x M' O' N' tm'
end
theorem da(hcf:b0 P callf)(hm:P.follows .mixedOrders=true)(c:Code):fZ P n K c (dJ P n callf pu lf c):=λh=>by obtain⟨e,k⟩:=jS hcf hm lf c h;exact⟨e,λhok hex L ob hM hO=>⟨((k hok hex).2 L ob hM hO).1,λdf Q hd hq=>((k hok hex).2 L ob hM hO).2 df K Q hd hq⟩⟩
def pN(P:Program)(n K:Nat)(kb:KBs):Code->Prop
 | .seq a b=>pN P n K kb a/\pN P n K kb b
 | .cond _ a b=>pN P n K kb a/\pN P n K kb b
 | .block id c=>match kb id with
  |some k=>(k.p->k.hit=true->Piece P n K (.block id c) k.L0 k.ob0 k.x1 k.L1 k.ob1)/\(k.p->k.hit=false->Piece P n K (.block id c) k.L0 k.ob0 k.x2 k.L2 k.ob2)
  |none=>pN P n K kb c
 | .loop c=>pN P n K kb c
 | .scope c=>pN P n K kb c
 |_=>True
theorem HD{M:Tri AV}{L:Loc}(hM:cm M L): ∀{l:Loc},l.map (λp=>M.get p.1)=l.map (λp=>some p.2)->Sub l L
 |[],_=>Sub.nil L
 |(t,av)::l,h=>by simp only[afZ,List.cons.injEq]at h;exact Sub.cons (by rw[<-hM t];exact h.1) (HD hM h.2)
theorem Qq{id:Nat}{c:Code}{k:KB}(hk:(k.p->k.hit=true->Piece P n K (.block id c) k.L0 k.ob0 k.x1 k.L1 k.ob1)/\(k.p->k.hit=false->Piece P n K (.block id c) k.L0 k.ob0 k.x2 k.L2 k.ob2)):fZ P n K (.block id c) (Qn k):=by
 intro M O N tm x M' O' N' tm' h;have fin: ∀{y:AX}{L1:Loc}{ob1:lXE},(k.p->Piece P n K (.block id c) k.L0 k.ob0 y L1 ob1)->A6 k M O N=true->Qp P n K (.block id c) M O N y (dX L1) (dq ob1) ob1.length:=λ{y L1 ob1} hp ha L ob hM hO=>by simp only[A6,afv]at ha;have h1:=HD hM (aH.1 ha.1.1);have h2:=aH.1 ha.1.2;have h3:=aH.1 ha.2;rw[nr hO]at h2;subst h2;exact⟨⟨L1,ob1,ib _,en _⟩,λdf Q hd hq=>we h1 (hp h3 df Q hd<|hq _ _ (ib _)<|en _)⟩
 obtain⟨lo,gd,ok⟩:=tm;simp only[Qn]at h;split at h
 ·cases h;refine⟨⟨[_,_],rfl⟩,λhok _=> ?_⟩;grind[TM.low,TM.asks,TM.told,cr]
 ·cases h;refine⟨⟨[_,_],rfl⟩,λhok _=> ?_⟩;grind[TM.low,TM.asks,TM.told,cr]
 ·cases h
theorem HE{c:Code}{M:Tri AV}{O:Tri Ob}{N:Nat}{x:AX}{M':Tri AV}{O':Tri Ob}{N':Nat}(h:Qp P n K c M O N x M' O' N')(hex: ∃L ob,cm M L/\bK O N ob): ∃L ob,cm M' L/\bK O' N' ob:=by obtain⟨L,ob,h1,h2⟩:=hex;exact(h L ob h1 h2).1
theorem ND{a b:Code}{ra rb:Tri AV->Tri Ob->Nat->TM->RX}(ha:fZ P n K a ra)(hb:fZ P n K b rb):fZ P n K (.seq a b) (λM O N tm=>qK rb<|ra M O N tm):=by
 intro M O N tm x M' O' N' tm' h;cases hr:ra M O N tm with
 |fail=>simp only[hr]at h;cases h
 |ok x1 M1 O1 N1 t1=>
  simp only[hr]at h;obtain⟨e1,k1⟩:=ha hr;cases x1 with
  |normal=>obtain⟨e2,k2⟩:=hb h;refine⟨e1.trans e2,λhok hex L ob hM hO=> ?_⟩;have h1:=k1 (e2.ok hok) hex;have h2:=k2 hok (HE h1 hex);obtain⟨⟨L1,ob1,q1,q2⟩,q3⟩:=h1 L ob hM hO;exact⟨(h2 L1 ob1 q1 q2).1,λdf Q hd hq=>iR (q3 df _ (hd.imp (λh=>h) oal) λL' ob' hM' hO'=>(h2 L' ob' hM' hO').2 df Q (hd.imp (λh=>h) oal) hq)⟩
  |_=>cases h;refine⟨e1,λhok hex L ob hM hO=> ?_⟩;have h1:=k1 hok hex;exact⟨(h1 L ob hM hO).1,λdf Q hd hq=>iR ((h1 L ob hM hO).2 df _ (hd.imp (λh=>h) oal) λL' ob' hM' hO'=>hq L' ob' hM' hO')⟩
theorem CC{id:Nat}{c:Code}{ra:Tri AV->Tri Ob->Nat->TM->RX}(ha:fZ P n K c ra):fZ P n K (.block id c) (λM O N tm=>pB id<|ra M O N tm):=by
 intro M O N tm x M' O' N' tm' h;cases hc:ra M O N tm with
 |fail=>simp only[hc]at h;cases h
 |ok x1 M1 O1 N1 t1=>
  simp only[hc]at h;obtain⟨e1,k1⟩:=ha hc;cases x1 with
  |exit j=>
   simp only[pB]at h;cases hj:Nat.beq j id with
   |true=>rw[hj]at h;have:=afJ hj;subst this;simp only[afN,RX.ok.injEq]at h;obtain⟨rfl,rfl,rfl,rfl,rfl⟩:=h;refine⟨e1,λhok hex L ob hM hO=> ?_⟩;have h1:=k1 hok hex;exact⟨(h1 L ob hM hO).1,λdf Q hd hq=>dN ((h1 L ob hM hO).2 df _ (hd.imp (λh=>h) λe=>e)<|by grind[jJ])⟩
   |false=>rw[hj]at h;have hne:=agE hj;simp only[afY,RX.ok.injEq]at h;obtain⟨rfl,rfl,rfl,rfl,rfl⟩:=h;refine⟨e1,λhok hex L ob hM hO=> ?_⟩;have h1:=k1 hok hex;exact⟨(h1 L ob hM hO).1,λdf Q hd hq=>dN ((h1 L ob hM hO).2 df _ (hd.imp (λh=>h) λe=>e)<|by grind[jJ])⟩
  |_=>cases h;refine⟨e1,λhok hex L ob hM hO=> ?_⟩;have h1:=k1 hok hex;exact⟨(h1 L ob hM hO).1,λdf Q hd hq=>dN ((h1 L ob hM hO).2 df _ (hd.imp (λh=>h) λe=>e) λL' ob' hM' hO'=>hq L' ob' hM' hO')⟩
theorem HF{x:Operand}{a b:Code}{ra rb:Tri AV->Tri Ob->Nat->TM->RX}(ha:fZ P n K a ra)(hb:fZ P n K b rb):fZ P n K (.cond x a b) (λM O N tm=>wX ra rb M O N tm<|tev M x):=by
 intro M O N tm y M' O' N' tm' h;have hev: ∀L,cm M L->aX L x=tev M x:=λL hM=>by rw[hM.tev]
 replace h:wX ra rb M O N tm (tev M x)= .ok y M' O' N' tm':=h;unfold wX at h;split at h
 ·rename_i hc;obtain⟨e1,k1⟩:=ha h;refine⟨e1,λhok hex L ob hM hO=> ?_⟩;have h1:=k1 hok hex;exact⟨(h1 L ob hM hO).1,λdf Q hd hq=>fp ((hev L hM).trans hc) (λ_=>(h1 L ob hM hO).2 df Q (hd.imp (λh=>h) oal) hq) (λe=>by cases e)⟩
 ·rename_i hc;obtain⟨e1,k1⟩:=hb h;refine⟨e1,λhok hex L ob hM hO=> ?_⟩;have h1:=k1 hok hex;exact⟨(h1 L ob hM hO).1,λdf Q hd hq=>fp ((hev L hM).trans hc) (λe=>by cases e) (λ_=>(h1 L ob hM hO).2 df Q (hd.imp (λh=>h) oal) hq)⟩
 ·cases h
theorem oz{M:Tri AV}{L:Loc}(hM:cm M L){x:Operand}{v:Bool}(h:tev M x=some (.v<|.bool v)):cm (Qo M v x) L:=by
 cases x with
 |tmp t=>exact Fc hM h
 |_=>exact hM
theorem Fw{x:Operand}{a b:Code}{ra rb:Tri AV->Tri Ob->Nat->TM->RX}(ha:fZ P n K a ra)(hb:fZ P n K b rb):fZ P n K (.cond x a b) (λM O N tm=>Kh x ra rb M O N tm<|tev M x):=by
 intro M O N tm y M' O' N' tm' h;have hev: ∀L,cm M L->aX L x=tev M x:=λL hM=>by rw[hM.tev]
 replace h:Kh x ra rb M O N tm (tev M x)= .ok y M' O' N' tm':=h;unfold Kh at h;split at h
 ·rename_i v hc;split at h
  ·rename_i r hg;obtain⟨e1,k1⟩:=ha h;have e0:Ext tm (tm.told r v):=⟨[v],rfl⟩;refine⟨e0.trans e1,λhok hex L ob hM hO=> ?_⟩;have hv:cr (tm.told r v).ok=true:=e1.ok hok;obtain rfl:v=true:=by simp_all[TM.told,cr]
   have hM':=oz hM hc;have h1:=k1 hok ⟨L,ob,hM',hO⟩;exact⟨(h1 L ob hM' hO).1,λdf Q hd hq=>fp ((hev L hM).trans hc) (λ_=>(h1 L ob hM' hO).2 df Q (hd.imp (λh=>h) oal) hq) (λe=>by cases e)⟩
  ·rename_i r hg;obtain⟨e1,k1⟩:=hb h;have e0:Ext tm (tm.told r<|!v):=⟨[!v],rfl⟩;refine⟨e0.trans e1,λhok hex L ob hM hO=> ?_⟩;have hv:cr (tm.told r<|!v).ok=true:=e1.ok hok;obtain rfl:v=false:=by simp_all[TM.told,cr]
   have hM':=oz hM hc;have h1:=k1 hok ⟨L,ob,hM',hO⟩;exact⟨(h1 L ob hM' hO).1,λdf Q hd hq=>fp ((hev L hM).trans hc) (λe=>by cases e) (λ_=>(h1 L ob hM' hO).2 df Q (hd.imp (λh=>h) oal) hq)⟩
  ·rw[<-hc]at h;exact HF (x:=x) ha hb h
 ·cases h
theorem oA(hcf:b0 P callf)(hm:P.follows .mixedOrders=true){kb:KBs}: ∀(c:Code),pN P n K kb c->fZ P n K c (runK P n callf pu lf kb c)
 | .skip,_=>λh=>da (pu:=pu) (lf:=lf) hcf hm .skip h
 | .label l,_=>λh=>da (pu:=pu) (lf:=lf) hcf hm (.label l) h
 | .ret,_=>λh=>da (pu:=pu) (lf:=lf) hcf hm .ret h
 | .exit id,_=>λh=>da (pu:=pu) (lf:=lf) hcf hm (.exit id) h
 | .region id ops draw,_=>λh=>da (pu:=pu) (lf:=lf) hcf hm (.region id ops draw) h
 | .loop c,_=>λh=>da (pu:=pu) (lf:=lf) hcf hm (.loop c) h
 | .scope c,_=>λh=>da (pu:=pu) (lf:=lf) hcf hm (.scope c) h
 | .goto _,_=>λh=>by cases h
 | .rangeFunc g ps a b,_=>λh=>da (pu:=pu) (lf:=lf) hcf hm (.rangeFunc g ps a b) h
 | .refuse _,_=>λh=>by cases h
 | .seq a b,hk=>λh=>ND (oA hcf hm a hk.1) (oA hcf hm b hk.2) h
 | .cond x a b,hk=>λh=>Fw (x:=x) (oA hcf hm a hk.1) (oA hcf hm b hk.2) h
 | .block id c,hk=>λh=>by
  have h':=show kbR id _ _ _ _ (runK P n callf pu lf kb c _ _ _ _) (kb id)= .ok _ _ _ _ _ from h;simp only[pN]at hk;cases hi:kb id with
  |none=>rw[hi]at h' hk;exact CC (oA hcf hm c hk) h'
  |some k=>rw[hi]at h' hk;exact Qq hk h'
structure qS(P:Program)(n K:Nat)(kb:KBs)(c:Code):Prop where
 ok:pN P n K kb c
def orC(a b:Option Code):Option Code:=match a with
 |some c=>some c
 |none=>b
noncomputable def Qr(id:Nat)(c:Code):Option Code:=
 Code.rec (motive:=λ_=>Option Code) none (λ_ _ _=>none) (λ_ _ a b=>orC a b) (λ_ _ _ a b=>orC a b)
  (λj c a=>cond (Nat.beq j id) (some c) a) (λ_ a=>a) (λ_ _ _ _ a b=>orC a b) (λ_=>none) (λ_ a=>a) (λ_=>none) (λ_=>none) none (λ_=>none) c
noncomputable def bn(id:Nat)(c:Code):Code:=match Qr id c with
 |some (.loop b)=>b
 |_=> .skip
noncomputable def cy(ids:lXC)(c:Code):List (Nat×Code):=
 Code.rec (motive:=λ_=>List<|Nat×Code) [] (λ_ _ _=>[]) (λ_ _ a b=>a++b) (λ_ _ _ a b=>a++b)
  (λj c a=>cond (ids.any<|Nat.beq j) [(j,c)] a) (λ_ a=>a) (λ_ _ _ _ _ _=>[]) (λ_=>[]) (λ_ a=>a) (λ_=>[]) (λ_=>[]) [] (λ_=>[]) c
def ca(P:Program)(n K id:Nat)(c:Code)(k:KB):Prop:=(k.p->k.hit=true->Piece P n K (.block id c) k.L0 k.ob0 k.x1 k.L1 k.ob1)/\(k.p->k.hit=false->Piece P n K (.block id c) k.L0 k.ob0 k.x2 k.L2 k.ob2)
def kbL:List (Nat×KB)->KBs
 |[],_=>none
 |(i,k)::l,j=>cond (Nat.beq j i) (some k) (kbL l j)
theorem Ki: ∀(l:List (Nat×KB))(j:Nat),(kbL l j).isSome=(l.map (·.1)).any (Nat.beq j)
 |[],_=>rfl
 |(i,k)::l,j=>by
  simp only[kbL,afZ,List.any_cons];cases Nat.beq j i with
  |true=>rfl
  |false=>simpa using Ki l j
def o3(P:Program)(n K:Nat)(l:List (Nat×KB)):List (Nat×Code)->Prop
 |[]=>True
 |(id,c)::r=>(match kbL l id with
  |some k=>ca P n K id c k
  |none=>True)/\o3 P n K l r
def aP{l:List (Nat×KB)}:o3 P n K l []:=trivial
theorem aE{l:List (Nat×KB)}{id:Nat}{c:Code}{r:List (Nat×Code)}{k:KB}(h:ca P n K id c k)(hk:kbL l id=some k)(t:o3 P n K l r):o3 P n K l ((id,c)::r):=⟨by rw[hk];exact h,t⟩
def oB{l:List (Nat×KB)}: ∀{a b:List (Nat×Code)},o3 P n K l (a++b)->o3 P n K l a/\o3 P n K l b
 |[],_,h=>⟨trivial,h⟩
 |(_,_)::_,_,h=>⟨⟨h.1,(oB h.2).1⟩,(oB h.2).2⟩
theorem ky{l:List (Nat×KB)}: ∀c:Code,o3 P n K l (cy (l.map (·.1)) c)->pN P n K (kbL l) c
 | .skip,_=>trivial
 | .label _,_=>trivial
 | .ret,_=>trivial
 | .exit _,_=>trivial
 | .region _ _ _,_=>trivial
 | .loop c,h=>ky (l:=l) c h
 | .scope c,h=>ky (l:=l) c h
 | .goto _,_=>trivial
 | .rangeFunc _ _ _ _,_=>trivial
 | .refuse _,_=>trivial
 | .seq a b,h=>by have:=oB (a:=cy (l.map (·.1)) a) (b:=cy (l.map (·.1)) b) h;exact⟨ky a this.1,ky b this.2⟩
 | .cond _ a b,h=>by have:=oB (a:=cy (l.map (·.1)) a) (b:=cy (l.map (·.1)) b) h;exact⟨ky a this.1,ky b this.2⟩
 | .block id c,h=>by
  replace h:o3 P n K l (cond ((l.map (·.1)).any<|Nat.beq id) [(id,c)] (cy (l.map (·.1)) c)):=h;rw[<-Ki]at h;simp only[pN];cases hi:kbL l id with
  |none=>rw[hi]at h;exact ky c h
  |some k=>rw[hi]at h;replace h:=h.1;rw[hi]at h;exact h
theorem bc{l:List (Nat×KB)}{ids:lXC}{c:Code}{B:List (Nat×Code)}(h:cy ids c=B)(k:o3 P n K l B)(hi:l.map (·.1)=ids):qS P n K (kbL l) c:=⟨ky c (by rw[hi,h];exact k)⟩
def gL: ∀c:Code,pN P n K (kbL []) c
 | .skip=>trivial
 | .label _=>trivial
 | .ret=>trivial
 | .exit _=>trivial
 | .region _ _ _=>trivial
 | .loop c=>gL c
 | .scope c=>gL c
 | .goto _=>trivial
 | .rangeFunc _ _ _ _=>trivial
 | .refuse _=>trivial
 | .seq a b=>⟨gL a,gL b⟩
 | .cond _ a b=>⟨gL a,gL b⟩
 | .block _ c=>gL c
def bt(c:Code):qS P n K (kbL []) c:=⟨gL c⟩
def c8(hcf:b0 P callf)(hm:P.follows .mixedOrders=true){kb:KBs}{c:Code}(h:qS P n K kb c):fZ P n K c (runK P n callf pu lf kb c):=oA hcf hm c h.ok
theorem eB{lo:Nat}{c:Code}{run:Tri AV->Tri Ob->Nat->TM->RX}(hr:fZ P n K c run){L L':Loc}{ob ob':lXE}{x:AX}{sel:lXC}{gd:List Gi}{ok:lXB}{N':Nat}{SL:List (Option AV)}{SO:List (Option Ob)}(h:iq (L'.map (·.1)) sel (run (dX L) (dq ob) ob.length ⟨lo,gd,[]⟩)=some (x,SL,SO,N',ok))(hok:cr ok=true)(hx:eA x=true)(hn:mr sel=true)(hK:(range K).all (λi=>sel[i]? ==some i)=true)(h2:mO (bU sel N') L'=SL)(h3:oZ (bU sel N') SO ob'):Piece P n K c L ob x L' ob':=by
 intro df Q hdo hq;cases hc:run (dX L) (dq ob) ob.length ⟨lo,gd,[]⟩with
 |fail=>rw[hc]at h;cases h
 |ok x1 M1 O1 N1 t1=>
  rw[hc]at h;simp only[iq,afD,afW]at h;obtain⟨rfl,q2,q3,rfl,rfl⟩:=h;have hrun:=(hr hc).2 hok ⟨L,ob,ib L,en ob⟩;refine sI (((hrun L ob (ib L)<|en ob).2 df _ hdo) λL1 ob1 hM hO=> ?_);have hl1:ob1.length=N1:=hO.1;rw[<-q3]at h3;obtain⟨t1,t2⟩:=sJ h3;refine⟨L',ob',sel,⟨ja hn,by simpa using t1,λi s X hi hX=> ?_,λi hi=> ?_,λt av e=> ?_⟩,hx,hq⟩
  ·obtain⟨Y,k1,k2⟩:=t2 i X hX;rw[afM,hi]at k1;simp only[afV,afD]at k1;exact⟨Y,by rw[<-hO.2];exact k1,by rw[hl1];exact k2⟩
  ·simp_all
  ·rw[<-hM t,hl1];grind[lB]
theorem xD{lo:Nat}{fn:Func}{R:qp->lXE->Prop}{c:Code}{run:Tri AV->Tri Ob->Nat->TM->RX}(hr:fZ P fn.ntmps K c run){L:Loc}{ob obs:lXE}{M:Tri AV}{O:Tri Ob}{N:Nat}(hM:cm M L)(hO:bK O N ob){r:AV}{gd:List Gi}{SO:List (Option Ob)}{ok:lXB}(h:qO P fn.results.toList obs.length (run M O N ⟨lo,gd,[]⟩)=some (r,SO,ok))(hok:cr ok=true)(h3:obs.map some=SO)(hR: ∀xs,R (.ret r) (obs++xs)):Fin P fn K R c L ob:=by
 cases hc:run M O N ⟨lo,gd,[]⟩with
 |fail=>rw[hc]at h;simp[qO]at h
 |ok x3 M3 O3 N3 t3=>
  rw[hc]at h;obtain⟨e3,hrun3⟩:=hr hc;have aux: ∀avs,mn P M3 O3 fn.results.toList=some avs->iw avs=r->(range obs.length).map O3.get=SO->t3.ok=ok-> ∀L3 ob3,cm M3 L3->bK O3 N3 ob3-> ∃avs,oP P L3 ob3 fn.results.toList avs/\R (.ret<|iw avs) ob3:=λavs ha hb hc _ L3 ob3 hM3 hO3=>by obtain⟨xs,e⟩:=sH rfl (hc.trans h3.symm) hO3;exact⟨avs,kq hM3 hO3 ha,by rw[hb,e];exact hR xs⟩
  have fin:ok=t3.ok/\ ∀L3 ob3,cm M3 L3->bK O3 N3 ob3->JN P fn R x3 L3 ob3:=by
   cases x3 with
   |normal=>
    simp only[qO]at h;split at h
    ·rename_i avs ha;simp only[afD,afW]at h;exact⟨h.2.2.symm,aux avs ha h.1 h.2.1 h.2.2⟩
    ·cases h
   |ret=>
    simp only[qO]at h;split at h
    ·rename_i avs ha;simp only[afD,afW]at h;exact⟨h.2.2.symm,aux avs ha h.1 h.2.1 h.2.2⟩
    ·cases h
   |_=>simp[qO]at h
  obtain⟨rfl,k3⟩:=fin;exact(((hrun3 hok ⟨L,ob,hM,hO⟩) _ _ hM hO).2 none _<|.inl rfl) λL3 ob3 hM3 hO3=>k3 L3 ob3 hM3 hO3
def CD{f:FuncId}{fn:Func}{body:Code}{args:lXF}{r:AV}{l:List (Nat×KB)}{gd:List Gi}{ok:lXB}(hcf:b0 P callf)(hm:P.follows .mixedOrders=true)(hf:P.funcs[f]? =some fn)(hname:(fn.name== "runtime.NumGoroutine")=false)(hb:fn.body=some body)(hn:args.length<=fn.ntmps)(hk:qS P fn.ntmps 0 (kbL l) body)(h:qO P fn.results.toList 0 (runK P fn.ntmps callf pu lf (kbL l) body (mq 0 args .e) .e 0 ⟨0,gd,[]⟩)=some (r,[],ok))(hok:cr ok=true)(hu:r.und 0=true):aQ P f args [] [] r []:=jT hf hname hb hn (afG _) hu rfl (xD (obs:=[]) (c8 hcf hm hk) (fw args) bK.nil h hok rfl λxs=>⟨rfl,xs,rfl⟩)
def lF(id:Nat):AX->AX
 | .exit j=>cond (Nat.beq j id) .normal (.exit j)
 |x=>x
theorem qT{df:Option Nat}{id:Nat}{x:AX}{Q:dy}{L:Loc}{ob:lXE}(h:Q (lF id x) L ob):jJ id Q x L ob:=by
 cases x with
 |exit j=>grind[lF,jJ,afJ,agE]
 |_=>exact h
theorem gM{id:Nat}{c:Code}{ι:Type}{xr:AX}{Lr:Loc}{obr:lXE}(L:ι->Loc)(Bs:ι->lXE)(I:ι->Prop)(μ:ι->Nat)(x:ι)(hx:I x)(hne:xr≠ .normal)(round: ∀x,I x->(∃y,I y/\μ y<μ x/\Piece P n K c (L x) (Bs x) .normal (L y) (Bs y))\/Piece P n K c (L x) (Bs x) xr Lr obr):Piece P n K (.block id<|.loop c) (L x) (Bs x) (lF id xr) Lr obr:=by
 intro df Q hd hq;have hd':jk df c:=hd.imp (λe=>e) λe=>by simpa only[Code.inR]using e
 refine dN (A2 hd' L Bs I μ (λy hy=>(round y hy).imp (λe=>e) λk=>k df _ hd' ?_) x hx);have:=qT (df:=df) (id:=id) (x:=xr) (Q:=Q) hq;cases xr with
 |normal=>exact absurd rfl hne
 |_=>exact this
def cz(n:Nat)(t:Nat->Bool):Bool:=(range n).any t
theorem ff{n:Nat}{t:Nat->Bool}:cz n t=true↔ ∃i,i<n/\t i=true:=by simp[cz]
theorem bL{n:Nat}{t:Nat->Bool}:cz n t=false↔ ∀i,i<n->t i=false:=by simp[cz]
abbrev bT:Gi:= .b true
abbrev bF:Gi:= .b false
def uTT(n:Nat)(l:List Gi):List Gi:=Nat.rec l (λ_ r=>bT::r) n
def uFF(n:Nat)(l:List Gi):List Gi:=Nat.rec l (λ_ r=>bF::r) n
def nm(L:Loc):List (Option AV):=L.map λp=>some p.2
def a0:cr []=true:=rfl
theorem a1{l:lXB}(h:cr l=true):cr (true::l)=true:=h
theorem kbT(k:KB)(hp:k.p):(dec (nm k.L0=nm k.L0)&&dec (k.ob0=k.ob0)&&dec k.p)=true:=by grind[aH]
def fD{α:Type}(x:α):dec (x=x)=true:=aH.2 rfl
def dwr{z:Int}(h0: -9223372036854775808<=z)(h1:z<=9223372036854775807):dec (IntKind.i64.wrap z=z)=true:=aH.2 (wrap_i64 h0 h1)
def ir{α:Type}[Inhabited α](f:α->lXF){l:List α}{i:Nat}(h:i<l.length):dec ((l.map f)[i]? =some (f<|ae l i))=true:=qQ h
theorem pvA(l:lXF)(h:aq l=true):(aq l&&true&&true)=true:=by rw[h];rfl
open Classical in
noncomputable def inv{α:Type}[Inhabited α](f:α->lXF)(c:lXF):α:=if h: ∃x,f x=c then h.choose else default
theorem fO{α:Type}[Inhabited α]{l:List α}{i:Nat}(h:i<l.length):ae l i∈l:=agm (eL h)
theorem aN(k:Nat){l:lXB}(h:cr l=true):cr (replicate k true++l)=true:=by
 induction k with
 |zero=>exact h
 |succ k ih=>exact ih
theorem n2{x:Bool}(h:x=true):(!!x)=true:=by rw[h];rfl
theorem n3{x:Bool}(h:x=false):(!!!x)=true:=by rw[h];rfl
theorem n4{x:Bool}(h:x=true):(!!!!x)=true:=by rw[h];rfl
section
variable{ts:Array TypeId}{ty:TypeId}{fl:Array Bool}(a b:Int)
theorem minA:dec (AI P .min ts ty fl [.int .i64 a,.int .i64 b]<|.int .i64<|min a b)=true:=by
 have e:(if b<a then b else a)=min a b:=by omega
 refine aH.2 ?_;unfold AI;simp only[invoke,builtin,Builtin.min_,Builtin.min2,List.foldlM,e];rfl
theorem maxA:dec (AI P .max ts ty fl [.int .i64 a,.int .i64 b]<|.int .i64<|max a b)=true:=by
 have e:(if a<b then b else a)=max a b:=by omega
 refine aH.2 ?_;unfold AI;simp only[invoke,builtin,Builtin.max_,Builtin.max2,List.foldlM,e];rfl
end
theorem nu(b:Bool):b=true\/b=false:=by cases b<;>simp
theorem bQ{x:Bool}(h:x=true):(!x)=false:=by rw[h];rfl
theorem orT{x y:Bool}(h:x=true):(x||y)=true:=by rw[h];rfl
theorem orF{x y v:Bool}(h:x=false)(k:y=v):(x||y)=v:=by rw[h,k];rfl
theorem ay{x y v:Bool}(h:x=true)(k:y=v):(x&&y)=v:=by rw[h,k];rfl
theorem aT{x y:Bool}(h:x=false):(x&&y)=false:=by rw[h];rfl
theorem cdT{α:Type}{x:Bool}{a b v:α}(h:x=true)(k:a=v):(bif x then a else b)=v:=by rw[h,k];rfl
theorem cdF{α:Type}{x:Bool}{a b v:α}(h:x=false)(k:b=v):(bif x then a else b)=v:=by rw[h,k];rfl
def o4{i n:Nat}(h:i<n)(hn:n<=9223372036854775807):dec (IntKind.i64.wrap ((i+1:Nat):Int)=((i+1:Nat):Int))=true:=aH.2 (wrap_i64 oaa oaa)
def gQ(n:Nat)(t:Nat->Bool):Nat:=((range n).find? t).getD n
theorem iJ{n:Nat}{t:Nat->Bool}(h:cz n t=true):gQ n t<n/\t (gQ n t)=true/\ ∀j,j<gQ n t->t j=false:=by
 obtain⟨j,hj,ht⟩:=ff.1 h;unfold gQ;cases hf:(range n).find? t with
 |none=>simp_all
 |some x=>simp_all
end
end Go.Am
end
