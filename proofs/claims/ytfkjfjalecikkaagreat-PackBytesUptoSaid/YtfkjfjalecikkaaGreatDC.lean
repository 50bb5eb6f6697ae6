/- An abstract machine, part U: what the program runs is so: trees, regions, code. An abstract machine, part W: what the program runs is so: regions, code, functions, deferred functions. An abstract machine, part Y: what the program runs is so: functions, deferred functions. An abstract machine, part Z: pieces of code, run by the evaluator from a state that is written out to another; loops over such states. An abstract machine, part Fz: an object becomes memory that is never written again; calls told by other values; calls that make objects, known ahead. An abstract machine, part Lp: a function that is one loop between what goes ahead and what is behind, by runs of its pieces. An abstract machine, part Sl: a call that is handed one live variable and reads it: from a run, from the same call on memory; known ahead. An abstract machine, part Fa: all objects that a call made become memory that is never written again. An abstract machine, part St: functions that are handed live objects, by runs of pieces; a call lifted to whatever objects there are. An abstract machine, part Ex: calls known on one store alone; functions that are handed live objects and are one loop. An abstract machine, part Pc: functions by pieces: a state told anew, loops that are left by a return, what is left of a function from a state on. The program follows the mixed orders. An abstract machine, part Ns: ROWS OF ROWS THAT ARE ALL LIVE ('g[i] = append(g[i], x)'): however many. An abstract machine, part Au: what auto.py's theorems lean on. Nets as the machine sees them. An abstract machine, part Kb: KNOWN BLOCKS: code in which some blocks (loops within loops) are told by what they do to a state that is written out. An abstract machine, part Vc: WHAT MUST BE TRUE for code to end as is told, as one statement: what is common to several ways is run once. -/
import Derived.Scope
import Derived.Recover
import Derived.RangeFuncIn
import Derived.RangeFuncRecord
import Derived.Test.YtfkjfjalecikkaaGreatRows
import Derived.Test.YtfkjfjalecikkaaGreatDB
set_option linter.defProp false
open Go.IntKind (wrap)
noncomputable section
open List (length map range replicate)
namespace Go.Am
section
variable{α:Type}
theorem hJ(v:Option α)(l r:Tri α)(t:Nat):(Tri.n v l r).get t=cond (Nat.beq t 0) v (cond (Nat.beq (t%2) 0) (l.get<|t/2)<|r.get<|t/2):=rfl
theorem jW(t:Nat):(Tri.e:Tri α).get t=none:=rfl
theorem Dg(av:α)(t:Nat):Tri.new av 0 t= .n (some av) .e .e:=rfl
theorem Dh(av:α)(k t:Nat):Tri.new av (k+1) t=cond (Nat.beq t 0) (.n (some av) .e .e) (cond (Nat.beq (t%2) 0) (.n none (Tri.new av k<|t/2) .e)<|.n none .e<|Tri.new av k<|t/2):=rfl
theorem QS(av:α)(t:Nat):Tri.set av .e t=Tri.new av t t:=rfl
theorem QT(av:α)(v:Option α)(l r:Tri α)(t:Nat):Tri.set av (.n v l r) t=cond (Nat.beq t 0) (.n (some av) l r) (cond (Nat.beq (t%2) 0) (.n v (Tri.set av l<|t/2) r)<|.n v l<|Tri.set av r<|t/2):=rfl
theorem beq_eq(a b:Nat):Nat.beq a b=decide (a=b):=by grind[afV,agD]
theorem tV(av:α): ∀(k t s:Nat),t<=k->(Tri.new av k t).get s=if t=s then some av else none
 |0,t,s,h=>by grind[Dg,hJ,beq_eq,jW]
 |k+1,t,s,h=>by
  rw[Dh,beq_eq,beq_eq];by_cases ht:t=0
  ·grind[hJ,beq_eq,jW]
  ·have ih:=tV av k (t/2) (s/2) oaa;grind[hJ,beq_eq,jW]
theorem dF(av:α): ∀(m:Tri α)(t s:Nat),(Tri.set av m t).get s=if t=s then some av else m.get s
 | .e,t,s=>by grind[QS,tV,jW]
 | .n v l r,t,s=>by
  rw[QT,beq_eq,beq_eq];by_cases ht:t=0
  ·grind[hJ,beq_eq]
  ·simp only[ht,decide_false,af8];by_cases hp:t%2=0
   ·simp only[hp,decide_true,af2];rw[hJ,hJ,beq_eq,beq_eq,dF av l (t/2) (s/2)];grind
   ·simp only[hp,decide_false,af8];rw[hJ,hJ,beq_eq,beq_eq,dF av r (t/2) (s/2)];grind
end
theorem sT: ∀(l:lXE)(k:Nat)(O:Tri Ob),(∀i,k<=i->O.get i=none)-> ∀i,(wK k l O).get i=if i<k then O.get i else l[i-k]?
 |[],k,O,h,i=>by grind[wK]
 |X::l,k,O,h,i=>by rw[wK,sT l (k+1) (O.set X k) (by grind[dF]) i,dF];grind
def cJ(M:Tri AV)(L:Loc):Prop:= ∀t,M.get t=lk L t
def bX(O:Tri Ob)(N:Nat)(ob:lXE):Prop:=ob.length=N/\ ∀i,O.get i=ob[i]?
theorem bX.nil:bX .e 0 []:=⟨rfl,λi=>by simp[jW]⟩
theorem bX.fun{O:Tri Ob}{N:Nat}{ob:lXE}(h:bX O N ob):O.get=λi=>ob[i]? :=funext h.2
def bX.uniq{O:Tri Ob}{N:Nat}{ob ob':lXE}(h:bX O N ob)(k:bX O N ob'):ob=ob':=by apply agd;intro i;rw[<-h.2,<-k.2]
theorem cJ.tev{M:Tri AV}{L:Loc}(h:cJ M L):tev M=aZ L:=by
 funext x;cases x with
 |tmp t=>exact h t
 |const v=>cases v<;>rfl
 |global g=>rfl
 |func f=>rfl
def cJ.up{M:Tri AV}{L:Loc}(h:cJ M L)(d:Option Nat)(av:AV):cJ (upT M av d) (c7 L d av []):=by
 intro t;unfold upT c7 vO;cases d with
 |none=>exact h t
 |some d=>simp only;rw[dF,dP,h]
theorem bX.app{O:Tri Ob}{N:Nat}{ob:lXE}(h:bX O N ob)(d:Dl):bX (fe O N d) (appN N d) (d.app ob):=by
 obtain⟨rfl,h2⟩:=h;have hset: ∀k X,bX (cond (Nat.blt k ob.length) (O.set X k) O) ob.length (ob.set k X):=by
  intro k X;refine⟨by simp,λi=> ?_⟩;cases hb:Nat.blt k ob.length with
  |true=>
   have hk:k<ob.length:=by simp[Nat.blt]at hb;omega
   simp only[af2];rw[dF,List.getElem?_set,h2];by_cases e:k=i
   ·subst e;simp[hk]
   ·simp[e]
  |false=>
   have hk: ¬k<ob.length:=λhk=>by have:Nat.blt k ob.length=true:=agN hk;rw[hb]at this;cases this
   simp only[af8];rw[h2,List.set_eq_of_length_le oaa]
 have hpush: ∀(O:Tri Ob)(l:lXE)(X:Ob),bX O l.length l->bX (O.set X l.length) (l.length+1) (l++ [X]):=by
  rintro O l X ⟨_,g⟩;refine⟨by simp,λi=> ?_⟩;rw[dF,g];by_cases e:l.length=i
  ·subst e;simp
  ·rw[if_neg e];by_cases hi:i<l.length
   ·rw[afZ hi]
   ·rw[agl oaa,agh oaa];rw[agh oaA]
 cases d with
 |dp=>exact⟨rfl,h2⟩
 |set k X=>exact hset k X
 |push X=>exact hpush O ob X ⟨rfl,h2⟩
 |wE k X=>have h3:=hset k .dead;have h4:=hpush _ (ob.set k .dead) X (by rw[age];exact h3);rw[age]at h4;exact h4
def QU: ∀(l:lXE)(O:Tri Ob)(N:Nat)(ob:lXE),bX O N ob->bX (wK N l O) (N+l.length) (ob++l):=by intro l O N ob h;obtain⟨rfl,h2⟩:=h;refine⟨by simp,λi=> ?_⟩;rw[sT l ob.length O oaz i,h2];grind
theorem cJ.nil:cJ .e []:=λ_t=>rfl
def BE: ∀(args:lXF)(k:Nat)(M:Tri AV)(L:Loc),cJ M L->(∀t,k<=t->lk L t=none)-> ∃L',cJ (jC k args M) L'/\ ∀t,lk L' t=if t<k then lk L t else lk (fi k args) t
 |[],k,M,L,h,hk=>⟨L,h,λt=>by
  by_cases e:t<k
  ·rw[if_pos e]
  ·rw[if_neg e,hk t oaa];rfl⟩
 |av::r,k,M,L,h,hk=>by obtain⟨L',h1,h2⟩:=BE r (k+1) (M.set av k) ((k,av)::L) (λt=>by rw[dF,dP,h]) (by grind[dP]);refine⟨L',h1,λt=> ?_⟩;grind[fi,dP]
def eM(args:lXF):cJ (jC 0 args .e) (fi 0 args):=by obtain⟨L',h1,h2⟩:=BE args 0 .e [] cJ.nil (λt _=>rfl);intro t;rw[h1 t,h2 t,if_neg oaa]
section
variable{P:Program}{n:Nat}{ops:Array Oper}
theorem BF{L gu:Loc}{o:Oper}{ob:lXE}{out:Out}(H:Steps P n ops L gu o ob out):Sub (gu++cm out.2.2.2) L/\(∀d,o.dst=some d->d<n)/\jH P ops o ⟨o.dst,gu++cm out.2.2.2,out.1,[],out.2.1⟩ ob (out.2.2.1.app ob):=by
 obtain⟨recs,L2,ob2,hev,rfl,rfl⟩:=H (l:=[]) (kf:=λrecs _ ob2=>recs=[⟨o.dst,gu++cm out.2.2.2,out.1,[],out.2.1⟩]/\ob2=out.2.2.1.app ob) (ou ⟨rfl,rfl⟩);cases hev with
 |cons hus hdst hn hst h=>
  cases h with
  |nil=>exact⟨hus,hn,hst⟩
theorem oB{L:Loc}{o:Oper}{ob ob':lXE}{rc:Rec}(H: ∀kf:List Rec->Loc->lXE->Prop,EvK P n ops [] (upd L rc) ob' (λrecs=>kf (rc::recs))->EvK P n ops [o] L ob kf):Sub rc.us L/\rc.dst=o.dst/\(∀d,o.dst=some d->d<n)/\jH P ops o rc ob ob':=by
 obtain⟨recs,L2,ob2,hev,h1,h2⟩:=H (λrecs _ ob2=>recs=[rc]/\ob2=ob') (ou ⟨rfl,rfl⟩);subst h1;subst h2;cases hev with
 |cons hus hdst hn hst h=>
  cases h with
  |nil=>exact⟨hus,hdst,hn,hst⟩
theorem FF{L gu:Loc}{o:Oper}{ob:lXE}(hg:Gx ops L o.guard gu)(hn: ∀d,o.dst=some d->d<n):Sub gu L/\jH P ops o ⟨o.dst,gu,.v undef,[],.pure⟩ ob ob:=by
 obtain⟨recs,L2,ob2,hev,rfl,rfl⟩:=aak (P:=P) (l:=[]) (ob:=ob) (kf:=λrecs _ ob2=>recs=[⟨o.dst,gu,.v undef,[],.pure⟩]/\ob2=ob) hg hn (ou ⟨rfl,rfl⟩);cases hev with
 |cons hus hdst hn hst h=>
  cases h with
  |nil=>exact⟨hus,hst⟩
end
section
variable{l:List Oper}{M:Tri AV}{L gu:Loc}
theorem wX(hM:cJ M L){g:Option (Nat×Bool)}(h:gdE l M g= .ok true gu):Gd l.toArray L g gu:=by
 unfold gdE at h;split at h
 ·simp only[GR.ok.injEq,true_and]at h;subst h;exact .none
 ·rename_i j want;split at h
  ·rename_i q hq;split at h
   ·rename_i t ht;rw[hM t]at h;split at h
    ·rename_i b hb;simp only[GR.ok.injEq]at h;obtain⟨h1,rfl⟩:=h;have e:b=want:=by cases b<;>cases want<;>simp_all
     subst e;exact .some (by simp[hq,ht]) hb
    ·simp at h
    ·cases h
   ·cases h
  ·cases h
theorem BG(hM:cJ M L){g:Option (Nat×Bool)}(h:gdE l M g= .ok false gu):Gx l.toArray L g gu:=by
 unfold gdE at h;split at h
 ·simp at h
 ·rename_i j want;split at h
  ·rename_i q hq;split at h
   ·rename_i t ht;rw[hM t]at h;split at h
    ·rename_i b hb;simp only[GR.ok.injEq]at h;obtain⟨h1,rfl⟩:=h;exact .some (by simp[hq,ht]) hb (by cases b<;>cases want<;>simp_all)
    ·rename_i hb;simp only[GR.ok.injEq,true_and]at h;subst h;exact .und (by simp[hq,ht]) hb
    ·cases h
   ·cases h
  ·cases h
end
def BH{n:Nat}{d:Option Nat}(h:Fy n d=true): ∀e,d=some e->e<n:=by rintro e rfl;simp[Fy,Nat.blt]at h;omega
def sU{t:TM}{k i:Nat}(h:tb (t.low k).lo i=false):tb t.lo i=false/\tb k i=false:=by have h':tb (Nat.lor t.lo k) i=false:=h;grind[nk]
def oC{a b:TM}{i:Nat}(h:tb (a.meet b).lo i=false):tb a.lo i=false/\tb b.lo i=false:=by have h':tb (Nat.lor a.lo b.lo) i=false:=h;grind[nk]
def ac1{t N i:Nat}(h:Nat.beq (Nat.mod t<|Nat.pow 2 N) 0=true)(hi:i<N):tb t i=false:=by have h1:t%2^N=0:=afV h;have h2:=Nat.testBit_mod_two_pow t N i;grind[LH]
def S1{N k i:Nat}(h:tb (SW N k) i=false):i<N\/N+k<=i:=by rw[LH]at h;have h':((2^k-1)<<<N).testBit i=false:=h;grind
section
variable{O:Tri Ob}{k:Nat}{ob:lXE}
theorem wY(h:bX O k ob)(N:Nat):Fz O N k 0=ob.map (Ob.ren<|bM [] N):=by
 have hf:bM [] N=shf N:=by funext i;simp[bM,shf]
 have key: ∀(j i:Nat),i+j=k->Fz O N j i=(ob.drop i).map (Ob.ren<|bM [] N):=by
  intro j;induction j with
  |zero=>intro i hi;rw[List.drop_of_length_le (by rw[h.1];omega)];rfl
  |succ j ih=>
   intro i hi;have hlt:i<ob.length:=by rw[h.1];omega
   have hd:ob.drop i=ob[i]::ob.drop (i+1):=List.drop_eq_getElem_cons hlt;have hg:O.get i=some ob[i]:=by rw[h.2,af0 hlt]
   show(match O.get i with|some X=>X.ren (shf N)|none=> .dead)::Fz O N j (Nat.succ i)=_;grind
 rw[key k 0 oaa,List.drop_zero]
theorem qN(h:bX O k ob):wL O k 0=ob:=by
 have key: ∀(j i:Nat),i+j=k->wL O j i=ob.drop i:=by
  intro j;induction j with
  |zero=>intro i hi;rw[List.drop_of_length_le (by rw[h.1];omega)];rfl
  |succ j ih=>
   intro i hi;have hlt:i<ob.length:=by rw[h.1];omega
   have hd:ob.drop i=ob[i]::ob.drop (i+1):=List.drop_eq_getElem_cons hlt;have hg:O.get i=some ob[i]:=by rw[h.2,af0 hlt]
   show(match O.get i with|some X=>X|none=> .dead)::wL O j (Nat.succ i)=_;rw[hd,hg,ih (i+1) oaa]
 rw[key k 0 oaa,List.drop_zero]
end
def aau{P:Program}{f:FuncId}{args:lXF}{r r':AV}{O:Tri Ob}{N:Nat}{ob1:lXE}(h:SX f r O N=some r')(hO:bX O N ob1)(ha:aY P f args [] [] r ob1):aY P f args [] [] r' []/\r'.pure=true:=by grind[SX,frzF]
def FG{O:Tri Ob}{N:Nat}{d:Dl}{i:Nat}(h:tb (tmD N d) i=false):(fe O N d).get i=O.get i:=by
 have hs: ∀(b:Bool)(k:Nat)(X:Ob),k≠i->(cond b (O.set X k) O).get i=O.get i:=by grind[dF]
 cases d with
 |dp=>rfl
 |set k X=>exact hs _ k X (j5 h)
 |push X=>show(O.set X N).get i=_;rw[dF,if_neg (j5 h)]
 |wE k X=>have h':tb (Nat.lor (bit k)<|bit N) i=false:=h;rw[nk,af4]at h';show((cond (Nat.blt k N) (O.set .dead k) O).set X N).get i=_;grind[dF,j5]
def S3(P:Program)(f:FuncId)(args:lXF)(ob:lXE)(av:AV)(ob':lXE):Prop:=lu P f args ob [] λe o=>e= .panic av/\o=ob'
def Kept(O O':Tri Ob)(tm tm':TM):Prop:=(∀i,tb tm'.lo i=false->tb tm.lo i=false)/\ ∀i,tb tm'.lo i=false->O'.get i=O.get i
theorem Kept.refl(O:Tri Ob)(tm:TM):Kept O O tm tm:=⟨λ_ h=>h,λ_ _=>rfl⟩
def cF:lXB->Bool
 |[]=>true
 |b::l=>b&&cF l
def tW: ∀{l r:lXB},cF (l++r)=true->cF r=true
 |[],_,h=>h
 |b::l,r,h=>by simp only[agR,cF,afJ]at h;exact tW h.2
def Ext(t t':TM):Prop:= ∃l,t'.ok=l++t.ok
theorem Ext.refl(t:TM):Ext t t:=⟨[],rfl⟩
def Ext.trans{a b c:TM}(h:Ext a b)(k:Ext b c):Ext a c:=by obtain⟨l,h⟩:=h;obtain⟨r,k⟩:=k;exact⟨r++l,by rw[k,h,ag1]⟩
theorem Ext.ok{a b:TM}(h:Ext a b)(k:cF b.ok=true):cF a.ok=true:=by obtain⟨l,h⟩:=h;rw[h]at k;exact tW k
theorem LX(tm:TM)(p:Bool):(tm.AZ p).lo=tm.lo:=by obtain⟨a,g,o⟩:=tm;cases g<;>rfl
def wZ(tm:TM)(p:Bool):Ext tm (tm.AZ p):=by
 obtain⟨a,g,o⟩:=tm;cases g with
 |nil=>exact⟨[],rfl⟩
 |cons=>exact⟨[p],rfl⟩
def S4{tm:TM}{p:Bool}(h:cF (tm.AZ p).ok=true):cF tm.ok=true:=(wZ tm p).ok h
def FH{tm:TM}{p s:Bool}(h:tm.syn p s=true)(k:cF (tm.AZ p).ok=true):p=true:=by
 obtain⟨a,g,o⟩:=tm;cases g with
 |nil=>exact h
 |cons=>grind[TM.AZ,cF]
def BI{tm:TM}{p:Bool}(h:tm.syn p false=true):p=true:=by
 obtain⟨a,g,o⟩:=tm;cases g with
 |nil=>exact h
 |cons=>cases h
theorem S5{t u:TM}{p s:Bool}:(t.take u).syn p s=u.syn p s:=by obtain⟨a,g,o⟩:=t;obtain⟨a',g',o'⟩:=u;cases g'<;>rfl
def Kept.trans{O O1 O2:Tri Ob}{a b c:TM}(h:Kept O O1 a b)(k:Kept O1 O2 b c):Kept O O2 a c:=⟨λi hi=>h.1 i (k.1 i hi),λi hi=>(k.2 i hi).trans (h.2 i<|k.1 i hi)⟩
def ab0(P:Program)(o:Nat)(args:lXF)(ob:lXE)(r:AV)(ob1:lXE):Prop:=
 ∀m γ w vs l C,Inv m γ ob w->γ o=some (some (l,C))->aB m γ args vs-> ∃fn tmps assign body,(Instr.yield l vs.toArray).run P w= .ok (.round l fn tmps assign body) w/\
  RoundIn (eJ none) 0 P l fn tmps assign body w λe w'=> ∃v m' γ',e= .returned v/\Rep m' γ' r v/\Trans m γ w m' γ' w'/\Inv m' γ' ob1 w'/\Le m γ [] m' γ'
def qO(P:Program)(f:FuncId)(args:lXF)(ob:lXE)(r:AV)(ob1:lXE):Prop:=(f<dQ->aY P f args ob [] r ob1)/\ ∀o,f=dQ+o->ab0 P o args ob r ob1
def qO.of{P:Program}{f:FuncId}{args:lXF}{ob:lXE}{r:AV}{ob1:lXE}(hf:f<dQ)(h:aY P f args ob [] r ob1):qO P f args ob r ob1:=⟨λ_=>h,oaI⟩
def cw(P:Program)(callf:c9):Prop:= ∀f args O N tm,
 (∀r O1 N1 t1,callf f args O N tm= .ret r O1 N1 t1->Ext tm t1/\(cF t1.ok=true-> ∀ob,bX O N ob-> ∃ob1,bX O1 N1 ob1/\qO P f args ob r ob1/\ ∀i,tb t1.lo i=false->O1.get i=O.get i))/\
 (∀av O1 N1 t1,callf f args O N tm= .pan av O1 N1 t1->f<dQ/\Ext tm t1/\(cF t1.ok=true-> ∀ob,bX O N ob-> ∃ob1,bX O1 N1 ob1/\S3 P f args ob av ob1/\ ∀i,tb t1.lo i=false->O1.get i=O.get i))
def LY(P:Program)(ops:Array Oper)(o:Oper)(L:Loc)(ob:lXE)(av:AV)(ob':lXE):Prop:=
 ∀(m:Mem)(γ:Gam)(w:World)(a:Act)(K:Act->World->Prop)(Q:Exit->Act->World->Prop),Inv m γ ob w->b9 m γ a L->
  (∀m' γ' w' v,Trans m γ w m' γ' w' ->Le m γ [] m' γ' ->Inv m' γ' ob' w' ->Rep m' γ' av v->Q (.panic [{v,recovered:=false}]) a w')->
  Region.wanted o (yielded ops a.tmps)=true/\o.wp P a w K Q
def LZ{ops:Array Oper}{L gu:Loc}{o:Oper}(hg:Gd ops L o.guard gu){m:Mem}{γ:Gam}{a:Act}(hl:b9 m γ a L):Region.wanted o (yielded ops a.tmps)=true:=by
 unfold Region.wanted;generalize o.guard=g at hg;cases hg with
 |none=>rfl
 |some hj hl'=>grind[pN]
def w9{m m':Mem}{γ γ':Gam}{a:Act}{L:Loc}(h:b9 m γ a L)(hle:Le m γ [] m' γ'):b9 m' γ' a L:=λt av e=>⟨(h t av e).1,gg hle av _ (AV.eX av) (h t av e).2⟩
def BJ{m:Mem}{γ:Gam}{a:Act}{L:Loc}(hl:b9 m γ a L): ∀{xs:List (Operand×AV)},eZ L xs->iw m γ a xs
 |[],_=>trivial
 |(_,_)::_,h=>⟨nr hl h.1,BJ hl h.2⟩
section
variable{P:Program}{n:Nat}{callf:c9}{pu:FuncId->Bool}{ops:Array Oper}
theorem S6{L gu:Loc}{ob ob1:lXE}{av:AV}{x:Operand}{f:FuncId}{fs cs avs:lXF}{args:List Operand}{xs:List (Operand×AV)}{ts:Array TypeId}{dst:Option Nat}{ty:TypeId}{pos:String}{after:Array Edge}{guard:Option (Nat×Bool)}(hg:Gd ops L guard gu)(hx:aZ L x=some (.fn (.func f) fs cs))(ha:EvA L args avs xs)(hc:S3 P f (fs++(avs++cs)) ob av ob1):LY P ops ⟨dst,.call ⟨.value x,args.toArray,ts⟩,ty,pos,after,guard⟩ L ob av ob1:=by
 intro m γ w a K Q hi hl hq;refine⟨LZ (o:=⟨dst,.call ⟨.value x,args.toArray,ts⟩,ty,pos,after,guard⟩) hg hl,?_⟩;have h1:=nr hl hx;simp only[Rep]at h1;obtain⟨us,vs,e,r1,r2⟩:=h1;obtain⟨⟨fn,hf,hname,hb⟩,hc⟩:=hc;have hxs:iw m γ a xs:=BJ hl (mv ha);unfold Oper.wp;rw[we hf hname hb (first:=us) (cap:=vs) e,Oper.upon_enter];refine(hc m γ w (us++args.map a.eval++vs) hi ?_).mono ?_
 ·grind[cL,lL]
 ·rintro e w' ⟨m',γ',r',ob',⟨rfl,rfl⟩,h2,h3,h4,h5⟩;cases e with
  |returned v=>exact h2.elim
  |panicked chain=>obtain⟨v,rfl,hv⟩:=h2;exact hq m' γ' w' v h3 ⟨h3.mem,λo g hg hk=>h5 o g hk hg⟩ h4 hv
  |outgrown=>exact h2.elim
theorem ac2{L gu:Loc}{ob:lXE}{t:TypeId}{y:AV}{x:Operand}{dst:Option Nat}{ty:TypeId}{pos:String}{after:Array Edge}{guard:Option (Nat×Bool)}(hg:Gd ops L guard gu)(hx:aZ L x=some (.ifc t y)):LY P ops ⟨dst,.panic x,ty,pos,after,guard⟩ L ob (.ifc t y) ob:=by
 intro m γ w a K Q hi hl hq;refine⟨LZ (o:=⟨dst,.panic x,ty,pos,after,guard⟩) hg hl,?_⟩;have h1:=nr hl hx;have h2:=h1;simp only[Rep]at h1;obtain⟨z,e,_⟩:=h1;unfold Oper.wp;have:(execOp a.eval ⟨dst,.panic x,ty,pos,after,guard⟩).run P w= .halt (.panic<|.iface t z) w:=by simp only[execOp,e,Sem.run_bind];rfl
 grind[Oper.upon_panic,Trans.refl,Le.refl]
theorem QV{a:Act}{x:Operand}{args:List Operand}{ts:Array TypeId}{dst:Option Nat}{ty:TypeId}{pos:String}{after:Array Edge}{guard:Option (Nat×Bool)}{l:Nat}(hx:a.eval x= .func (.yield l) #[] #[])(w:World):(execOp a.eval ⟨dst,.call ⟨.value x,args.toArray,ts⟩,ty,pos,after,guard⟩).run P w=(Instr.yield l (args.map a.eval).toArray).run P w:=by grind[execOp,resolve,Deferred.ofValue,invoke]
theorem aav{L gu:Loc}{ob ob1:lXE}{r:AV}{x:Operand}{o lo:Nat}{avs:lXF}{args:List Operand}{xs:List (Operand×AV)}{ts:Array TypeId}{dst:Option Nat}{ty:TypeId}{pos:String}{after:Array Edge}{guard:Option (Nat×Bool)}(hg:Gd ops L guard gu)(hx:aZ L x=some (.yl o))(ha:EvA L args avs xs)(hc:ab0 P o avs ob r ob1)(hpre: ∀i,tb lo i=false->ob1[i]? =ob[i]?):Sub (gu++cm ((x,.yl o)::xs)) L/\jH P ops ⟨dst,.call ⟨.value x,args.toArray,ts⟩,ty,pos,after,guard⟩ ⟨dst,gu++cm ((x,.yl o)::xs),r,[],.yl lo⟩ ob ob1:=by have hall:eZ L ((x,.yl o)::xs):=⟨hx,mv ha⟩;have hkeep:=e7 (mq hg) (fA hall);refine⟨fT hkeep,hpre,λm γ w a K Q hi hl hK=> ?_⟩;have hw:=iT (o:=⟨dst,.call ⟨.value x,args.toArray,ts⟩,ty,pos,after,guard⟩) hg hkeep hl (λp hp=>by simp[hp]);simp only[hw,agX];have hxs:=jo hkeep hl hall (λp hp=>by simp[hp]);obtain⟨h1,h2⟩:=hxs;simp only[Rep]at h1;obtain⟨l,C,g1,e⟩:=h1;refine .inr ⟨rfl,λro=>⟨λ_ _=>trivial,?_⟩⟩;have hs:Oper.semAt (eJ ro).round a.eval ⟨dst,.call ⟨.value x,args.toArray,ts⟩,ty,pos,after,guard⟩=execOp a.eval ⟨dst,.call ⟨.value x,args.toArray,ts⟩,ty,pos,after,guard⟩:=Oper.semAt_eq _ _ _ (λc hc=>by cases hc);obtain⟨fn,tmps,aS,bd,y1,y2⟩:=hc m γ w (args.map a.eval) l C hi g1 (lL ha h2);rw[hs,QV e,y1,Oper.uponIn_round];refine⟨λh=>oap,Sj (y2.mono ?_)⟩;rintro e2 w2 ⟨v,m2,γ2,rfl,k1,k2,k3,k4⟩;exact hK m2 γ2 w2 v k2 k4 k3 k1
end
section
variable(P:Program)(n:Nat)(ops:Array Oper)
def SOk(o:Oper)(L:Loc)(ob:lXE)(O:Tri Ob)(tm:TM):SR->Prop
 | .fail=>True
 | .val rc M' O' N' tm'=>cF tm'.ok=true-> ∃ob',bX O' N' ob'/\cJ M' (upd L rc)/\Sub rc.us L/\rc.dst=o.dst/\(∀d,o.dst=some d->d<n)/\jH P ops o rc ob ob'/\rc.ks=[]/\Kept O O' tm tm'
 | .pan av O' N' tm'=>cF tm'.ok=true-> ∃ob',bX O' N' ob'/\LY P ops o L ob av ob'/\Kept O O' tm tm'
def ROk(l:List Oper)(L:Loc)(ob:lXE)(O:Tri Ob)(tm:TM):RR->Prop
 | .fail=>True
 | .ok recs M2 O2 N2 tm2=>cF tm2.ok=true-> ∃L2 ob2,cJ M2 L2/\bX O2 N2 ob2/\Ev P n ops l recs L ob L2 ob2/\(∀rc∈recs,rc.ks=[])/\Kept O O2 tm tm2
 | .pan av M2 O2 N2 tm2=>cF tm2.ok=true-> ∃l1 o l2 recs L1 ob1 ob2,l=l1++o::l2/\Ev P n ops l1 recs L ob L1 ob1/\(∀rc∈recs,rc.ks=[])/\cJ M2 L1/\bX O2 N2 ob2/\LY P ops o L1 ob1 av ob2/\Kept O O2 tm tm2
end
section
variable{P:Program}{n:Nat}{callf:c9}{pu:FuncId->Bool}
section
variable{ops:Array Oper}{M:Tri AV}{L gu:Loc}{O:Tri Ob}{N:Nat}{ob:lXE}
theorem dW(hM:cJ M L)(hO:bX O N ob){o:Oper}(hg:Gd ops L o.guard gu)(hn: ∀d,o.dst=some d->d<n)(tm:TM):SOk P n ops o L ob O tm (iA M o.dst gu O N tm upT fe<|exec P (tev M) o O.get N):=by
 rw[hM.tev,hO.fun,<-hO.1];cases hx:exec P (aZ L) o (λi=>ob[i]?) ob.length with
 |none=>trivial
 |some out=>obtain⟨dst,op,ty,pos,after,guard⟩:=o;obtain⟨k1,k2,k3⟩:=BF (Ja hg hn hx);obtain⟨r,kd,d,xs⟩:=out;have hO':bX O ob.length ob:=hO.1▸hO;have hra:=hO'.app d;refine λ_=>⟨_,hra,?_,k1,rfl,hn,k3,rfl,λi hi=>(sU hi).1,λi hi=>FG (sU hi).2⟩;exact hM.up dst r
theorem vi(hM:cJ M L)(hO:bX O N ob){o:Oper}(hg:Gd ops L o.guard gu)(hn: ∀d,o.dst=some d->d<n)(tm:TM):SOk P n ops o L ob O tm (I0 M o.dst gu O N tm upT fe (exec P (tev M) o O.get N)<|Fv P (tev M) o.op O.get N):=by
 cases hc:Fv P (tev M) o.op O.get N with
 |none=>exact dW hM hO hg hn tm
 |some q=>
  obtain⟨p,out⟩:=q;have h1:=dW (P:=P) (n:=n) hM hO hg hn tm;cases p with
  |false=>obtain⟨r,kd,d,xs⟩:=out;intro hok;simp[TM.low,TM.asks,cF]at hok
  |true=>rw[QP hc]at h1;obtain⟨r,kd,d,xs⟩:=out;intro hok;simp only[TM.low,TM.asks,cF,ags]at hok;exact h1 hok
theorem xb(hM:cJ M L)(hO:bX O N ob){o:Oper}(hg:Gd ops L o.guard gu)(hn: ∀d,o.dst=some d->d<n)(tm:TM)(g:Gi)(r:List Gi){y:SR}(hy:SOk P n ops o L ob O tm y):SOk P n ops o L ob O tm (pw M o.dst gu O N tm r upT fe y<|wJ P (tev M) o.op O.get g):=by
 cases hc:wJ P (tev M) o.op O.get g with
 |none=>exact hy
 |some q=>
  obtain⟨p,out⟩:=q;have h1:=dW (P:=P) (n:=n) hM hO hg hn tm;cases p with
  |false=>obtain⟨r,kd,d,xs⟩:=out;intro hok;simp[TM.low,TM.told,cF]at hok
  |true=>rw[IX hc]at h1;obtain⟨r,kd,d,xs⟩:=out;intro hok;simp only[TM.low,TM.told,cF,ags]at hok;exact h1 hok
theorem S7(hM:cJ M L)(hO:bX O N ob){o:Oper}{out:Out}(hn: ∀d,o.dst=some d->d<n)(tm:TM)(hS:Steps P n ops L gu o ob out):SOk P n ops o L ob O tm (iA M o.dst gu O N tm upT fe<|some out):=by obtain⟨dst,op,ty,pos,after,guard⟩:=o;obtain⟨k1,k2,k3⟩:=BF hS;obtain⟨r,kd,d,xs⟩:=out;obtain rfl:=hO.1;have hra:=hO.app d;refine λ_=>⟨_,hra,?_,k1,rfl,hn,k3,rfl,λi hi=>(sU hi).1,λi hi=>FG (sU hi).2⟩;exact hM.up dst r
theorem Di(hM:cJ M L)(hO:bX O N ob){o:Oper}(hg:Gd ops L o.guard gu)(hn: ∀d,o.dst=some d->d<n)(tm:TM)(g:Gi)(r:List Gi){y:SR}(hy:SOk P n ops o L ob O tm y):SOk P n ops o L ob O tm (pw M o.dst gu O N tm r upT fe y<|IY P (tev M) o.type o.op O.get g):=by
 cases hc:IY P (tev M) o.type o.op O.get g with
 |none=>exact hy
 |some q=>
  obtain⟨p,out⟩:=q;cases p with
  |false=>obtain⟨r,kd,d,xs⟩:=out;intro hok;simp[TM.low,TM.told,cF]at hok
  |true=>
   rw[hM.tev,hO.fun]at hc;have hS:Steps P n ops L gu o ob out:=by obtain⟨dst,op,ty,pos,after,guard⟩:=o;exact Jb hg hn hc
   have h1:=S7 (P:=P) (n:=n) hM hO hn tm hS;obtain⟨r,kd,d,xs⟩:=out;intro hok;simp only[TM.low,TM.told,cF,ags]at hok;exact h1 hok
end
theorem S8(hcf:cw P callf){ops:Array Oper}{M:Tri AV}{L gu:Loc}{O:Tri Ob}{N:Nat}{ob:lXE}(hM:cJ M L)(hO:bX O N ob){x:Operand}{args:List Operand}{ts:Array TypeId}{dst:Option Nat}{ty:TypeId}{pos:String}{after:Array Edge}{guard:Option (Nat×Bool)}(hg:Gd ops L guard gu)(hn: ∀d,dst=some d->d<n)(tm:TM):SOk P n ops ⟨dst,.call ⟨.value x,args.toArray,ts⟩,ty,pos,after,guard⟩ L ob O tm (LU P callf pu dst gu x args M O N tm):=by
 unfold LU;rw[hM.tev];split
 ·rename_i o avs xs hx ha;have hA:=lS ha;cases hcall:callf (dQ+o) avs O N tm with
  |fail=>trivial
  |ret r O1 N1 t1=>
   refine λhok=> ?_;obtain⟨ob1,h1,h2,h3⟩:=((hcf _ _ O N tm).1 _ _ _ _ hcall).2 hok ob hO;have hpre: ∀i,tb t1.lo i=false->ob1[i]? =ob[i]? :=λi hi=>by rw[<-h1.2,<-hO.2];exact h3 i hi
   obtain⟨k1,k2⟩:=aav (dst:=dst) (ty:=ty) (pos:=pos) (after:=after) (ts:=ts) hg hx hA (h2.2 o rfl) hpre;exact⟨ob1,h1,hM.up dst r,k1,rfl,hn,k2,rfl,λi hi=>(oC hi).1,λi hi=>h3 i (oC hi).2⟩
  |pan av O1 N1 t1=>exact absurd ((hcf _ _ O N tm).2 _ _ _ _ hcall).1 (Nat.not_lt.2<|Nat.le_add_right _ _)
 ·rename_i f fs cs avs xs hx ha;have hA:=lS ha;cases hfy:Nat.blt f dQ with
  |false=>trivial
  |true=>
  have hfb:f<dQ:=nbl hfy;simp only[Bool.not_true,af8];cases hesc:wC P f with
  |true=>
   simp only[af2];unfold escE;split
   ·rename_i y av;refine λ_=> ?_;obtain⟨k1,k2,k3,k4⟩:=oB (P:=P) (n:=n) (ops:=ops) (L:=L) (o:=⟨dst,.call ⟨.value x,#[y],ts⟩,ty,pos,after,guard⟩) (ob:=ob) (ob':=ob) (rc:=⟨dst,gu++cm ((x,.fn (.func f) [] [])::xs),av,[],.pure⟩)
     (λkf kk=>IQ hesc hx hA hg hn kk)
    exact⟨ob,hO,hM.up dst av,k1,k2,k3,k4,rfl,Kept.refl _ _⟩
   ·trivial
  |false=>
  simp only[af8];have hD:SOk P n ops ⟨dst,.call ⟨.value x,args.toArray,ts⟩,ty,pos,after,guard⟩ L ob O tm (pR (callf f (fs++(avs++cs)) O N tm) (λr kd=>⟨dst,gu++cm ((x,.fn (.func f) fs cs)::xs),r,[],kd⟩) (λr=>upT M r dst) O N tm):=by
   cases hcall:callf f (fs++(avs++cs)) O N tm with
   |fail=>trivial
   |ret r O1 N1 t1=>
    simp only[pR];cases hdr:Nat.beq (Nat.mod t1.lo<|Nat.pow 2 N) 0&&t1.syn (r.und N) false with
    |true=>
     simp only[afJ]at hdr;refine λhok=> ?_;obtain⟨ob1,h1,h2,h3⟩:=((hcf f _ O N tm).1 _ _ _ _ hcall).2 hok ob hO;obtain rfl:=hO.1;have hpre: ∀i,i<ob.length->ob1[i]? =ob[i]? :=λi hi=>by rw[<-h1.2,<-hO.2];exact h3 i (ac1 hdr.1 hi)
     have happ: ∃xs,ob1=ob++xs:=by
      refine⟨ob1.drop ob.length,?_⟩;apply agd;intro i;by_cases hi:i<ob.length
      ·rw[afZ hi];exact hpre i hi
      ·rw[agl oaa,ag6];congr 1;omega
     obtain⟨k1,k2,k3,k4⟩:=oB (P:=P) (n:=n) (ops:=ops) (L:=L) (o:=⟨dst,.call ⟨.value x,args.toArray,ts⟩,ty,pos,after,guard⟩) (ob:=ob) (ob':=ob) (rc:=⟨dst,gu++cm ((x,.fn (.func f) fs cs)::xs),r,[],.from ob.length⟩)
      (λkf kk=>jR ob.length (λ_ _=>rfl) (λkf kk=>wi hx hA (wh ((h2.1 hfb).mono λe o⟨g1,g2⟩=>⟨g1,by rw[g2];exact happ⟩)<|BI hdr.2) hg hn kk) kk)
     exact⟨ob,hO,hM.up dst r,k1,k2,k3,⟨rfl,rfl,k4.2⟩,rfl,Kept.refl _ _⟩
    |false=>
    refine λhok=> ?_;obtain⟨ob1,h1,h2,h3⟩:=((hcf f _ O N tm).1 _ _ _ _ hcall).2 hok ob hO;have hpre: ∀i,tb t1.lo i=false->ob1[i]? =ob[i]? :=λi hi=>by rw[<-h1.2,<-hO.2];exact h3 i hi
    obtain⟨k1,k2,k3,k4⟩:=oB (P:=P) (n:=n) (ops:=ops) (L:=L) (o:=⟨dst,.call ⟨.value x,args.toArray,ts⟩,ty,pos,after,guard⟩) (ob:=ob) (ob':=ob1) (rc:=⟨dst,gu++cm ((x,.fn (.func f) fs cs)::xs),r,[],.chg t1.lo⟩)
     (λkf kk=>SA t1.lo hpre (λkf kk=>wi hx hA (h2.1 hfb) hg hn kk) kk)
    exact⟨ob1,h1,hM.up dst r,k1,k2,k3,k4,rfl,λi hi=>(oC hi).1,λi hi=>h3 i (oC hi).2⟩
   |pan av O1 N1 t1=>refine λhok=> ?_;obtain⟨ob1,h1,h2,h3⟩:=((hcf f _ O N tm).2 _ _ _ _ hcall).2.2 hok ob hO;exact⟨ob1,h1,S6 hg hx hA h2,λi hi=>(oC hi).1,λi hi=>h3 i (oC hi).2⟩
  generalize hq:tm.AZ (aj avs&&aj fs&&aj cs)=tq;have hlo:tq.lo=tm.lo:=by rw[<-hq,LX]
  cases hv:tm.syn (aj avs&&aj fs&&aj cs) (ko avs&&ko fs&&ko cs)with
  |false=>
   simp only[af8];cases hp:pu f with
   |true=>trivial
   |false=>exact hD
  |true=>
   simp only[af2];have hvv:cF tq.ok=true->(aj avs=true/\aj fs=true)/\aj cs=true:=λh=>by have:=FH hv (by rw[hq];exact h);simpa only[afJ]using this
   cases hcall:callf f (fs++(avs++cs)) .e 0 tq with
   |fail=>trivial
   |pan av O1 N1 t1=>exact hD
   |ret r O1 N1 t1=>
    simp only[IZ];cases hk:Nat.beq N1 0&&t1.syn r.pure r.SV with
    |true=>
     simp only[afJ]at hk;have hN:=afV hk.1;subst hN;refine λhok=> ?_;have hkk:r.pure=true:=FH (tm:=tm.take t1) (by rw[S5];exact hk.2) hok;replace hok:cF t1.ok=true:=S4 (tm:=tm.take t1) hok;have hv:=hvv (((hcf f _ .e 0 tq).1 _ _ _ _ hcall).1.ok hok);obtain⟨ob1,h1,h2,_⟩:=((hcf f _ .e 0 tq).1 _ _ _ _ hcall).2 hok [] bX.nil;have:ob1=[]:=agp h1.1;subst this;obtain⟨k1,k2,k3,k4⟩:=oB (P:=P) (n:=n) (ops:=ops) (L:=L) (o:=⟨dst,.call ⟨.value x,args.toArray,ts⟩,ty,pos,after,guard⟩) (ob:=ob) (ob':=ob) (rc:=⟨dst,gu++cm ((x,.fn (.func f) fs cs)::xs),r,[],.pure⟩)
      (λkf kk=>Fk hx hA (h2.1 hfb) hv.1.1 hv.1.2 hv.2 hkk hg hn kk)
     exact⟨ob,hO,hM.up dst r,k1,k2,k3,k4,rfl,λi hi=>by rw[LX]at hi;exact hi,λ_ _=>rfl⟩
    |false=>
     simp only[af8];cases hfr:SX f r O1 N1 with
     |some r'=>
     refine λhok=> ?_;have hv:=hvv (((hcf f _ .e 0 tq).1 _ _ _ _ hcall).1.ok hok);obtain⟨ob1,h1,h2,_⟩:=((hcf f _ .e 0 tq).1 _ _ _ _ hcall).2 hok [] bX.nil;obtain⟨ha',hp'⟩:=aau hfr h1 (h2.1 hfb);obtain⟨k1,k2,k3,k4⟩:=oB (P:=P) (n:=n) (ops:=ops) (L:=L) (o:=⟨dst,.call ⟨.value x,args.toArray,ts⟩,ty,pos,after,guard⟩) (ob:=ob) (ob':=ob) (rc:=⟨dst,gu++cm ((x,.fn (.func f) fs cs)::xs),r',[],.pure⟩)
      (λkf kk=>Fk hx hA ha' hv.1.1 hv.1.2 hv.2 hp' hg hn kk)
     exact⟨ob,hO,hM.up dst r',k1,k2,k3,k4,rfl,Kept.refl _ _⟩
     |none=>
     refine λhok=> ?_;have hv:=hvv (((hcf f _ .e 0 tq).1 _ _ _ _ hcall).1.ok hok);obtain⟨ob1,h1,h2,_⟩:=((hcf f _ .e 0 tq).1 _ _ _ _ hcall).2 hok [] bX.nil;have hp:aj (fs++(avs++cs))=true:=mz hv.1.2 (mz hv.1.1 hv.2);have hpush:=QE (h2.1 hfb) hp ob;obtain rfl:=hO.1;have hf:bM [] ob.length=shf ob.length:=by funext i;simp[bM,shf]
     have hrel:=QU (Fz O1 ob.length N1 0) O ob.length ob hO;rw[wY h1]at hrel;have hl:(ob1.map<|Ob.ren<|bM [] ob.length).length=N1:=by rw[afW];exact h1.1
     rw[hl]at hrel;rw[hf]at hpush;obtain⟨k1,k2,k3,k4⟩:=oB (P:=P) (n:=n) (ops:=ops) (L:=L) (o:=⟨dst,.call ⟨.value x,args.toArray,ts⟩,ty,pos,after,guard⟩) (ob:=ob) (ob':=ob++ob1.map (Ob.ren<|shf ob.length)) (rc:=⟨dst,gu++cm ((x,.fn (.func f) fs cs)::xs),r.ren (shf ob.length),[],.from ob.length⟩)
      (λkf kk=>jR ob.length (λi hi=>afZ hi) (λkf kk=>wi hx hA hpush hg hn kk) kk)
     refine⟨_,by rw[wY h1,hf];rw[hf]at hrel;exact hrel,hM.up dst _,k1,k2,k3,k4,rfl,λi hi=>(sU hi).1,λi hi=> ?_⟩;rw[wY h1];rw[hrel.2,hO.2];rcases S1 (sU hi).2 with h|h
     ·rw[afZ h]
     ·rw[agh (by rw[afQ,hl];exact h),agh oaa]
 ·trivial
theorem Dj(hcf:cw P callf){ops:Array Oper}{M:Tri AV}{L gu:Loc}{O:Tri Ob}{N:Nat}{ob:lXE}(hM:cJ M L)(hO:bX O N ob)(o:Oper)(tm:TM)(hg:Gd ops L o.guard gu)(hn: ∀d,o.dst=some d->d<n):SOk P n ops o L ob O tm (A0 P callf pu o gu M O N tm):=by
 unfold A0;obtain⟨dst,op,ty,pos,after,guard⟩:=o;split
 ·rename_i c hop;simp only at hop;subst hop;obtain⟨callee,args,ts⟩:=c;split
  ·rename_i x hc;simp only at hc;subst hc;have:=S8 (pu:=pu) hcf (P:=P) (n:=n) (ops:=ops) hM hO (x:=x) (args:=args.toList) (ts:=ts) (dst:=dst) (ty:=ty) (pos:=pos) (after:=after) (guard:=guard) hg hn tm;simpa using this
  ·split
   ·exact dW hM hO hg hn tm
   ·exact Di hM hO hg hn tm _ _ (vi hM hO hg hn tm)
 ·split
  ·exact dW hM hO hg hn tm
  ·exact xb hM hO hg hn tm _ _ (vi hM hO hg hn tm)
 ·split
  ·exact dW hM hO hg hn tm
  ·exact Di hM hO hg hn tm _ _ (vi hM hO hg hn tm)
 ·split
  ·exact dW hM hO hg hn tm
  ·exact xb hM hO hg hn tm _ _ (dW hM hO hg hn tm)
 ·split
  ·exact dW hM hO hg hn tm
  ·exact xb hM hO hg hn tm _ _ (dW hM hO hg hn tm)
 ·split
  ·exact dW hM hO hg hn tm
  ·exact vi hM hO hg hn tm
 ·rename_i x hop;simp only at hop;subst hop;unfold panE;rw[hM.tev];split
  ·rename_i t y hx;exact λ_=>⟨ob,hO,ac2 hg hx,Kept.refl _ _⟩
  ·trivial
 ·split
  ·exact dW hM hO hg hn tm
  ·rename_i g r hgd';unfold cmpR;split
   ·rename_i d b xs hx;have hb:=dW (P:=P) (n:=n) hM hO hg hn tm;rw[hx]at hb;intro hok;simp only[TM.told,cF,afJ]at hok;have hbd:b=d:=by grind
    subst hbd;obtain⟨ob',q1,q2,q3,q4,q5,q6,q7,q8⟩:=hb hok.2;exact⟨ob',q1,q2,q3,q4,q5,q6,q7,λi h=>h,λi _=>rfl⟩
   ·rename_i z k m xs hx;have hb:=dW (P:=P) (n:=n) hM hO hg hn tm;rw[hx]at hb;intro hok;simp only[TM.told,cF,afJ]at hok;have hbd:=aR.1 hok.1;subst hbd;obtain⟨ob',q1,q2,q3,q4,q5,q6,q7,q8⟩:=hb hok.2;exact⟨ob',q1,q2,q3,q4,q5,q6,q7,λi h=>h,λi _=>rfl⟩
   ·rename_i b xs hx;have hb:=dW (P:=P) (n:=n) hM hO hg hn tm;rw[hx]at hb;intro hok;simp only[TM.told,cF,ags]at hok;obtain⟨ob',q1,q2,q3,q4,q5,q6,q7,q8⟩:=hb hok;exact⟨ob',q1,q2,q3,q4,q5,q6,q7,λi h=>h,λi _=>rfl⟩
   ·exact dW hM hO hg hn tm
 ·split
  ·exact dW hM hO hg hn tm
  ·exact Di hM hO hg hn tm _ _ (dW hM hO hg hn tm)
theorem FJ(hcf:cw P callf){all:List Oper}{M:Tri AV}{L:Loc}{O:Tri Ob}{N:Nat}{ob:lXE}(hM:cJ M L)(hO:bX O N ob)(o:Oper)(tm:TM):SOk P n all.toArray o L ob O tm (wM P n callf pu all o M O N tm):=by
 unfold wM;cases hd:Fy n o.dst with
 |false=>trivial
 |true=>
  have hn:=BH hd;simp only[af2];split
  ·grind[Dj,wX]
  ·rename_i gu hgd;obtain⟨k1,k2⟩:=FF (P:=P) (n:=n) (ob:=ob) (BG hM hgd) hn;exact λ_=>⟨ob,hO,hM.up _ _,k1,rfl,hn,k2,rfl,Kept.refl _ _⟩
  ·trivial
theorem tX(all:List Oper)(o:Oper)(l:List Oper)(M:Tri AV)(O:Tri Ob)(N:Nat)(tm:TM):fX P n callf pu all (o::l) M O N tm=LV M (fX P n callf pu all l) (mF P n callf pu all o M O N tm):=rfl
theorem qP(hcf:cw P callf){o:Oper}{M:Tri AV}{O:Tri Ob}{N:Nat}{tm:TM}:∀gu,(∀{rc M' O' N' tm'},A0 P callf pu o gu M O N tm= .val rc M' O' N' tm' ->Ext tm tm')/\(∀{av O' N' tm'},A0 P callf pu o gu M O N tm= .pan av O' N' tm' ->Ext tm tm'):=by
 have hex: ∀(gu:Loc)(x:Option Out),(∀{rc M' O' N' tm'},iA M o.dst gu O N tm upT fe x= .val rc M' O' N' tm' ->Ext tm tm')/\(∀{av O' N' tm'},iA M o.dst gu O N tm upT fe x= .pan av O' N' tm' ->Ext tm tm'):=by
  intro gu x;cases x with
  |none=>exact⟨λh=>oap,λh=>oap⟩
  |some out=>obtain⟨r,kd,d,xs⟩:=out;exact⟨λh=>(by cases h;exact Ext.refl _),λh=>oap⟩
 have hck: ∀(gu:Loc)(x:Option Out)(y:Option (Bool×Out)),(∀{rc M' O' N' tm'},I0 M o.dst gu O N tm upT fe x y= .val rc M' O' N' tm' ->Ext tm tm')/\(∀{av O' N' tm'},I0 M o.dst gu O N tm upT fe x y= .pan av O' N' tm' ->Ext tm tm'):=by
  intro gu x y;cases y with
  |none=>exact hex gu x
  |some q=>obtain⟨p,r,kd,d,xs⟩:=q;exact⟨λh=>(by cases h;exact⟨[p],rfl⟩),λh=>oap⟩
 have hhi: ∀(gu:Loc)(r:List Gi)(y:SR)(q:Option (Bool×Out)),((∀{rc M' O' N' tm'},y= .val rc M' O' N' tm' ->Ext tm tm')/\(∀{av O' N' tm'},y= .pan av O' N' tm' ->Ext tm tm'))->(∀{rc M' O' N' tm'},pw M o.dst gu O N tm r upT fe y q= .val rc M' O' N' tm' ->Ext tm tm')/\(∀{av O' N' tm'},pw M o.dst gu O N tm r upT fe y q= .pan av O' N' tm' ->Ext tm tm'):=by
  intro gu r y q hy;cases q with
  |none=>exact hy
  |some q=>obtain⟨p,r,kd,d,xs⟩:=q;exact⟨λh=>(by cases h;exact⟨[p],rfl⟩),λh=>oap⟩
 have key: ∀gu,(∀{rc M' O' N' tm'},A0 P callf pu o gu M O N tm= .val rc M' O' N' tm' ->Ext tm tm')/\(∀{av O' N' tm'},A0 P callf pu o gu M O N tm= .pan av O' N' tm' ->Ext tm tm'):=by
  intro gu;unfold A0;split
  ·split
   ·unfold LU;split
    ·rename_i o avs xs _ _;cases hcall:callf (dQ+o) avs O N tm with
     |fail=>exact⟨λh=>oap,λh=>oap⟩
     |ret r O1 N1 t1=>exact⟨λh=>(by cases h;exact((hcf _ _ O N tm).1 _ _ _ _ hcall).1),λh=>oap⟩
     |pan av O1 N1 t1=>exact⟨λh=>oap,λh=>(by cases h;exact((hcf _ _ O N tm).2 _ _ _ _ hcall).2.1)⟩
    ·rename_i f fs cs avs xs _ _;cases Nat.blt f dQ with
     |false=>simp_all
     |true=>
     simp only[Bool.not_true,af8];cases wC P f with
     |true=>simp only[af2];unfold escE;grind[Ext.refl]
     |false=>
     simp only[af8];have hD: ∀x0:Operand,(∀{rc M' O' N' tm'},pR (callf f (fs++(avs++cs)) O N tm) (λr kd=>(⟨o.dst,gu++cm ((x0,.fn (.func f) fs cs)::xs),r,[],kd⟩:Rec)) (λr=>upT M r o.dst) O N tm= .val rc M' O' N' tm' ->Ext tm tm')/\(∀{av O' N' tm'},pR (callf f (fs++(avs++cs)) O N tm) (λr kd=>(⟨o.dst,gu++cm ((x0,.fn (.func f) fs cs)::xs),r,[],kd⟩:Rec)) (λr=>upT M r o.dst) O N tm= .pan av O' N' tm' ->Ext tm tm'):=by
      intro x0;cases hcall:callf f (fs++(avs++cs)) O N tm with
      |fail=>exact⟨λh=>oap,λh=>oap⟩
      |ret r O1 N1 t1=>
       simp only[pR];cases Nat.beq (Nat.mod t1.lo<|Nat.pow 2 N) 0&&t1.syn (r.und N) false with
       |true=>exact⟨λh=>(by cases h;exact((hcf f _ O N tm).1 _ _ _ _ hcall).1),λh=>oap⟩
       |false=>exact⟨λh=>(by cases h;exact((hcf f _ O N tm).1 _ _ _ _ hcall).1),λh=>oap⟩
      |pan av O1 N1 t1=>exact⟨λh=>oap,λh=>(by cases h;exact((hcf f _ O N tm).2 _ _ _ _ hcall).2.1)⟩
     cases tm.syn (aj avs&&aj fs&&aj cs) (ko avs&&ko fs&&ko cs)with
     |false=>
      simp only[af8];cases pu f with
      |true=>grind
      |false=>exact hD _
     |true=>
      simp only[af2];cases hcall:callf f (fs++(avs++cs)) .e 0 (tm.AZ<|aj avs&&aj fs&&aj cs)with
      |fail=>exact⟨λh=>oap,λh=>oap⟩
      |pan av O1 N1 t1=>exact hD _
      |ret r O1 N1 t1=>
       have he:=(wZ tm _).trans ((hcf f _ .e 0<|tm.AZ _).1 _ _ _ _ hcall).1;simp only[IZ];cases Nat.beq N1 0&&t1.syn r.pure r.SV with
       |true=>exact⟨λh=>(by cases h;exact he.trans<|wZ (tm.take t1) _),λh=>oap⟩
       |false=>
        simp only[af8];cases SX f r O1 N1 with
        |some r'=>exact⟨λh=>(by cases h;exact he),λh=>oap⟩
        |none=>exact⟨λh=>(by cases h;exact he),λh=>oap⟩
    simp_all
   grind
  ·grind
  ·grind
  ·grind
  ·grind
  ·grind
  ·grind[panE,Ext.refl]
  ·split
   ·exact hex gu _
   ·unfold cmpR;split
    ·exact⟨λh=>(by cases h;exact⟨[_],rfl⟩),λh=>oap⟩
    ·exact⟨λh=>(by cases h;exact⟨[_],rfl⟩),λh=>oap⟩
    ·exact⟨λh=>(by cases h;exact⟨[_],rfl⟩),λh=>oap⟩
    ·exact hex gu _
  grind
 exact key
theorem BK(hcf:cw P callf){all:List Oper}{o:Oper}{M:Tri AV}{O:Tri Ob}{N:Nat}{tm:TM}:(∀{rc M' O' N' tm'},wM P n callf pu all o M O N tm= .val rc M' O' N' tm' ->Ext tm tm')/\(∀{av O' N' tm'},wM P n callf pu all o M O N tm= .pan av O' N' tm' ->Ext tm tm'):=by
 unfold wM;cases Fy n o.dst with
 |false=>simp_all
 |true=>
  simp only[af2];split
  ·exact qP hcf _
  ·grind[Ext.refl]
  simp_all
theorem FK{M:Tri AV}{L:Loc}(hM:cJ M L){t:Nat}{av:AV}(h:M.get t=some av):cJ (M.set av t) L:=λs=>by
 rw[dF];split
 ·rename_i e;first|rw[<-hM s,<-h,e]|rw[<-hM s,<-h,<-e]
 ·exact hM s
theorem Dk{all:List Oper}{M:Tri AV}{L:Loc}(hM:cJ M L){j:Nat}{want w:Bool}{gu:Loc}(h:gdE all M (some (j,want))= .ok w gu):cJ (FA M (cond want w<|!w) gu) L:=by
 unfold gdE at h;dsimp only at h;split at h
 ·split at h
  ·split at h
   ·rename_i b hb;cases h;have:cond want (cond want b<|!b) (!cond want b (!b))=b:=by cases want<;>cases b<;>rfl
    rw[this];exact FK hM hb
   ·cases h;exact hM
   ·cases h
  ·cases h
 ·cases h
theorem xc{tm t:TM}{r:List Gi}{w:Bool}(h:Ext (tm.told r w) t):Ext tm t:=Ext.trans ⟨[w],rfl⟩ h
theorem Jc(hcf:cw P callf){all:List Oper}{o:Oper}{M:Tri AV}{O:Tri Ob}{N:Nat}{tm:TM}:(∀{rc M' O' N' tm'},mF P n callf pu all o M O N tm= .val rc M' O' N' tm' ->Ext tm tm')/\(∀{av O' N' tm'},mF P n callf pu all o M O N tm= .pan av O' N' tm' ->Ext tm tm'):=by
 unfold mF;split
 ·exact BK hcf
 ·split
  ·rename_i want _ d r _;unfold stepG;cases Fy n o.dst with
   |false=>simp_all
   |true=>
    simp only[af2];split
    ·rename_i w gu _;cases d with
     |true=>exact⟨λh=>xc ((qP hcf gu).1 h),λh=>xc ((qP hcf gu).2 h)⟩
     |false=>grind[xc,Ext.refl]
    simp_all
  ·exact BK hcf
theorem QW(hcf:cw P callf){all:List Oper}{M:Tri AV}{L:Loc}{O:Tri Ob}{N:Nat}{ob:lXE}(hM:cJ M L)(hO:bX O N ob)(o:Oper)(tm:TM):SOk P n all.toArray o L ob O tm (mF P n callf pu all o M O N tm):=by
 unfold mF;split
 ·exact FJ hcf hM hO o tm
 ·rename_i j want hog;split
  ·rename_i d r _;unfold stepG;cases hd:Fy n o.dst with
   |false=>trivial
   |true=>
    have hn:=BH hd;simp only[af2];split
    ·rename_i w gu hgd;cases d with
     |true=>
      simp only[af2];have he:=qP (pu:=pu) hcf (o:=o) (M:=FA M want gu) (O:=O) (N:=N) (tm:=tm.told r w) gu;have hw: ∀{tm':TM},Ext (tm.told r w) tm' ->cF tm'.ok=true->w=true:=λe hok=>by have:=e.ok hok;simp_all[TM.told,cF]
      cases hres:A0 P callf pu o gu (FA M want gu) O N (tm.told r w)with
      |fail=>trivial
      |val rc M' O' N' tm'=>
       intro hok;obtain rfl:=hw (he.1 hres) hok;have hl:cJ (FA M want gu) L:=by grind[Dk]
       have:=Dj (pu:=pu) (n:=n) (ops:=all.toArray) hcf hl hO o (tm.told r true) (wX hM hgd) hn;rw[hres]at this;exact this hok
      |pan av O' N' tm'=>
       intro hok;obtain rfl:=hw (he.2 hres) hok;have hl:cJ (FA M want gu) L:=by grind[Dk]
       have:=Dj (pu:=pu) (n:=n) (ops:=all.toArray) hcf hl hO o (tm.told r true) (wX hM hgd) hn;rw[hres]at this;exact this hok
     |false=>
      simp only[af8];intro hok;simp only[TM.told,cF,afJ,af3]at hok;obtain⟨rfl,_⟩:=hok;obtain⟨k1,k2⟩:=FF (P:=P) (n:=n) (ob:=ob) (BG hM hgd) hn;have hl:cJ (FA M (!want) gu) L:=by grind[Dk]
      exact⟨ob,hO,hl.up _ _,k1,rfl,hn,k2,rfl,Kept.refl _ _⟩
    ·trivial
  ·exact FJ hcf hM hO o tm
theorem kp(hcf:cw P callf)(all:List Oper): ∀(l:List Oper){M:Tri AV}{O:Tri Ob}{N:Nat}{tm:TM},(∀{recs M' O' N' tm'},fX P n callf pu all l M O N tm= .ok recs M' O' N' tm' ->Ext tm tm')/\(∀{av M' O' N' tm'},fX P n callf pu all l M O N tm= .pan av M' O' N' tm' ->Ext tm tm')
 |[],M,O,N,tm=>⟨λh=>(by cases h;exact Ext.refl _),λh=>oap⟩
 |o::l,M,O,N,tm=>by
  rw[tX];have hs:=Jc (pu:=pu) (n:=n) hcf (all:=all) (o:=o) (M:=M) (O:=O) (N:=N) (tm:=tm);cases hst:mF P n callf pu all o M O N tm with
  |fail=>exact⟨λh=>oap,λh=>oap⟩
  |pan av O1 N1 t1=>exact⟨λh=>oap,λh=>(by cases h;exact hs.2 hst)⟩
  |val rc M1 O1 N1 t1=>
   have h1:=hs.1 hst;have ih:=kp hcf all l (M:=M1) (O:=O1) (N:=N1) (tm:=t1);simp only[LV];cases hr:fX P n callf pu all l M1 O1 N1 t1 with
   |fail=>exact⟨λh=>oap,λh=>oap⟩
   |ok recs M2 O2 N2 t2=>exact⟨λh=>(by cases h;exact h1.trans<|ih.1 hr),λh=>oap⟩
   |pan av M2 O2 N2 t2=>exact⟨λh=>oap,λh=>(by cases h;exact h1.trans<|ih.2 hr)⟩
theorem jX(hcf:cw P callf)(all:List Oper): ∀(l:List Oper){M:Tri AV}{L:Loc}{O:Tri Ob}{N:Nat}{ob:lXE}(_hM:cJ M L)(_hO:bX O N ob)(tm:TM),ROk P n all.toArray l L ob O tm (fX P n callf pu all l M O N tm)
 |[],M,L,O,N,ob,hM,hO,tm=>λ_=>⟨L,ob,hM,hO,.nil _ _,by simp,Kept.refl _ _⟩
 |o::l,M,L,O,N,ob,hM,hO,tm=>by
  rw[tX];have hs:=QW (pu:=pu) (n:=n) hcf (all:=all) hM hO o tm;cases hst:mF P n callf pu all o M O N tm with
  |fail=>trivial
  |pan av O1 N1 t1=>rw[hst]at hs;intro hok;obtain⟨ob1,h1,h2,h3⟩:=hs hok;exact⟨[],o,l,[],L,ob,ob1,rfl,.nil _ _,by simp,hM,h1,h2,h3⟩
  |val rc M1 O1 N1 t1=>
   rw[hst]at hs;have hext:=kp (pu:=pu) (n:=n) hcf all l (M:=M1) (O:=O1) (N:=N1) (tm:=t1);simp only[LV];cases hr:fX P n callf pu all l M1 O1 N1 t1 with
   |fail=>trivial
   |ok recs M2 O2 N2 t2=>
    intro hok;obtain⟨ob1,h1,h2,h3,h4,h5,h6,h7,h8⟩:=hs ((hext.1 hr).ok hok);have ih:=jX hcf all l h2 h1 t1;rw[hr]at ih;obtain⟨L2,ob2,g1,g2,g3,g4,g5⟩:=ih hok;exact⟨L2,ob2,g1,g2,.cons h3 h4 h5 h6 g3,λr hrc=>by
     rcases agq.1 hrc with e|e
     ·subst e;exact h7
     ·exact g4 r e,h8.trans g5⟩
   |pan av M2 O2 N2 t2=>
    intro hok;obtain⟨ob1,h1,h2,h3,h4,h5,h6,h7,h8⟩:=hs ((hext.2 hr).ok hok);have ih:=jX hcf all l h2 h1 t1;rw[hr]at ih;obtain⟨l1,o',l2,recs,L1,oba,obb,g0,g1,g2,g3,g4,g5,g6⟩:=ih hok;exact⟨o::l1,o',l2,rc::recs,L1,oba,obb,by rw[g0];rfl,.cons h3 h4 h5 h6 g1,λr hrc=>by
     rcases agq.1 hrc with e|e
     ·subst e;exact h7
     ·exact g2 r e,g3,g4,g5,h8.trans g6⟩
section
variable{ops:Array Oper}
theorem FL{kd:Kd}(hk:kd.ID=false){o:Oper}{a:Act}{w:World}{K:Act->World->Prop}{Q:Exit->Act->World->Prop}
  (h:if Region.wanted o (yielded ops a.tmps)then o.wp P a w K Q\/(kd.ID=true/\ ∀ro,o.wpIn (eJ ro) 0 P a w K Q)else K (a.put o.dst undef) w):
  if Region.wanted o (yielded ops a.tmps)then o.wp P a w K Q\/(o.asks P a w/\LetsOut Q)else K (a.put o.dst undef) w:=by
 split
 ·rename_i hw;rw[if_pos hw]at h;rcases h with h|h
  ·exact .inl h
  ·rw[hk]at h;cases h.1
 ·rename_i hw;rw[if_neg hw]at h;exact h
section
variable{l:List Oper}{recs:List Rec}{L L2:Loc}{ob ob2:lXE}
theorem py(hev:Ev P n ops l recs L ob L2 ob2)(hks: ∀rc∈recs,rc.ks=[])(l2:List Oper){ro:Option Nat}(hd:ro=none\/l.all Oper.still=true):∀{m:Mem}{γ:Gam}{w:World}{a:Act}{Q:Exit->Act->World->Prop},Inv m γ ob w->b9 m γ a L->a.tmps.size=n->(∀m' γ' w' a',Trans m γ w m' γ' w' ->Inv m' γ' ob2 w' ->b9 m' γ' a' L2->a'.tmps.size=n->a'.defers=a.defers->Le m γ [] m' γ' ->wpListIn (eJ ro) 0 P ops Q l2 a' w')->wpListIn (eJ ro) 0 P ops Q (l++l2) a w:=by
 induction hev with
 |nil L ob=>intro m γ w a Q hi hl hs hq;exact hq m γ w a (Trans.refl _ _ _) hi hl hs rfl (Le.refl _ _ _)
 |cons hus hdst hn hst h ih=>
  intro m γ w a Q hi hl hs hq;have hk:=hks _ (ag7 ..);have hd1:ro=none\/Oper.still _=true:=hd.imp (λh=>h) λe=>by simp only[aha,afJ]at e;exact e.1
  have hd2:ro=none\/List.all _ Oper.still=true:=hd.imp (λh=>h) λe=>by simp only[aha,afJ]at e;exact e.2
  show wpListIn (eJ ro) 0 P ops Q (_::(_++l2)) a w;unfold wpListIn;refine vR hd1 (hst.step m γ w a _ Q hi (hl.sub hus) λm' γ' w' x ht hle hi' hx=> ?_);have hle0:Le m γ [] m' γ':=by rw[hk]at hle;exact hle
  exact ih (λrc hrc=>hks rc<|agf _ hrc) hd2 hi' (j7 hl hle hdst (λe he=>by rw[hs];exact hn e he) hx) (by rw[nn];exact hs)
   λm2 γ2 w2 a2 ht2 hi2 hl2 hs2 hd2 hk2=>hq m2 γ2 w2 a2 (ht.trans ht2) hi2 hl2 hs2 (hd2.trans<|j6 _ _ _)
    ⟨λb x h=>hk2.mem b x (hle0.mem b x h),λo g hg hc=>hk2.gam o g (hle0.gam o g hg hc) hc⟩
theorem qQ(hev:Ev P n ops l recs L ob L2 ob2)(hks: ∀rc∈recs,rc.ks=[])(hyl: ∀rc∈recs,rc.kind.ID=false)(l2:List Oper):∀{m:Mem}{γ:Gam}{w:World}{a:Act}{Q:Exit->Act->World->Prop},Inv m γ ob w->b9 m γ a L->a.tmps.size=n->(∀m' γ' w' a',Trans m γ w m' γ' w' ->Inv m' γ' ob2 w' ->b9 m' γ' a' L2->a'.tmps.size=n->a'.defers=a.defers->Le m γ [] m' γ' ->wpList P ops Q l2 a' w')->wpList P ops Q (l++l2) a w:=by
 induction hev with
 |nil L ob=>intro m γ w a Q hi hl hs hq;exact hq m γ w a (Trans.refl _ _ _) hi hl hs rfl (Le.refl _ _ _)
 |cons hus hdst hn hst h ih=>
  intro m γ w a Q hi hl hs hq;have hk:=hks _ (ag7 ..);show wpList P ops Q (_::(_++l2)) a w;unfold wpList;refine FL (hyl _<|ag7 ..) (hst.step m γ w a _ Q hi (hl.sub hus) λm' γ' w' x ht hle hi' hx=> ?_);have hle0:Le m γ [] m' γ':=by rw[hk]at hle;exact hle
  exact ih (λrc hrc=>hks rc<|agf _ hrc) (λrc hrc=>hyl rc<|agf _ hrc) hi' (j7 hl hle hdst (λe he=>by rw[hs];exact hn e he) hx) (by rw[nn];exact hs)
   λm2 γ2 w2 a2 ht2 hi2 hl2 hs2 hd2 hk2=>hq m2 γ2 w2 a2 (ht.trans ht2) hi2 hl2 hs2 (hd2.trans<|j6 _ _ _)
    ⟨λb x h=>hk2.mem b x (hle0.mem b x h),λo g hg hc=>hk2.gam o g (hle0.gam o g hg hc) hc⟩
end
end
def kL(df:Option Nat)(c:Code):Prop:=df=none\/c.inR=true
def Runs(P:Program)(n:Nat)(c:Code)(M:Tri AV)(O:Tri Ob)(N:Nat)(tm:TM)(x:AX)(M':Tri AV)(O':Tri Ob)(N':Nat)(tm':TM):Prop:=
 Kept O O' tm tm'/\ ∀L ob,cJ M L->bX O N ob->(∃L' ob',cJ M' L'/\bX O' N' ob')/\
  ∀df K Q,kL df c->(∀L' ob',cJ M' L' ->bX O' N' ob' ->Q x L' ob')->awp df P n K [] c Q L ob
def S9{K:Nat}{m m':Mem}{γ γ':Gam}(h:Le m γ [] m' γ'): ∀o g,kept K [] o->γ o=some g->γ' o=some g:=λo g ho hg=>h.gam o g hg ho.2
theorem QX(hcf:cw P callf)(hm:P.follows .mixedOrders=true)(id:Nat)(ops:Array Oper)(draw:Bool){M:Tri AV}{O:Tri Ob}{N:Nat}{tm:TM}{x:AX}{M':Tri AV}{O':Tri Ob}{N':Nat}{tm':TM}(hr:C8 ops.toList draw (fX P n callf pu ops.toList ops.toList M O N tm)= .ok x M' O' N' tm')(hok0:cF tm'.ok=true)(hex: ∃L ob,cJ M L/\bX O N ob):Runs P n (.region id ops draw) M O N tm x M' O' N' tm':=by
 have hops:ops=ops.toList.toArray:=by simp
 have base: ∀L ob,cJ M L->bX O N ob->Kept O O' tm tm'/\(∃L' ob',cJ M' L'/\bX O' N' ob')/\ ∀df K Q,kL df (.region id ops draw)->(∀L' ob',cJ M' L' ->bX O' N' ob' ->Q x L' ob')->awp df P n K [] (.region id ops draw) Q L ob:=by
  intro L ob hM hO;have hok:=jX (pu:=pu) (n:=n) hcf ops.toList ops.toList hM hO tm;cases hrun:fX P n callf pu ops.toList ops.toList M O N tm with
  |fail=>rw[hrun]at hr;cases hr
  |ok recs M2 O2 N2 t2=>
   rw[hrun]at hr hok;have key:x= .normal/\M'=M2/\O'=O2/\N'=N2/\tm'=t2/\(draw=true->CO ops.toList recs=true):=by
    cases draw with
    |false=>grind[C8]
    |true=>simp only[C8]at hr;grind
   obtain⟨rfl,rfl,rfl,rfl,rfl,hd⟩:=key;obtain⟨L2,ob2,g1,g2,g3,g4,g5⟩:=hok hok0;refine⟨g5,⟨L2,ob2,g1,g2⟩,λdf K Q hdo hq=> ?_⟩;intro m γ w a hi hl hs hdf;cases draw with
   |false=>rw[hops];refine wpIn_region_lit ?_;have:=py g3 g4 [] hdo (Q:=kK false a.defers K [] n Q m γ w) hi hl hs (λm' γ' w' a' ht hi' hl' hs' hd' hk'=>⟨m',γ',L2,ob2,.normal,hq L2 ob2 g1 g2,trivial,ht,hi',hl',hs',.of_eq hd',S9 hk'⟩);simpa [Code.rf]using this
   |true=>rw[hops];exact IF hm hdo g3 (hd rfl) hi hl hs λm' γ' w' a' ht hi' hl' hs' hd' hk'=>⟨m',γ',L2,ob2,.normal,hq L2 ob2 g1 g2,trivial,ht,hi',hl',hs',.of_eq hd',oaz⟩
  |pan av M2 O2 N2 t2=>
   rw[hrun]at hr hok;cases draw with
   |true=>cases hr
   |false=>
    simp only[C8,agJ,af2,RX.ok.injEq]at hr;obtain⟨rfl,rfl,rfl,rfl,rfl⟩:=hr;obtain⟨l1,o,l2,recs,L1,oba,obb,g0,g1,g2,g3,g4,g5,g6⟩:=hok hok0;refine⟨g6,⟨L1,obb,g3,g4⟩,λdf K Q hdo hq=> ?_⟩;intro m γ w a hi hl hs hdf;rw[hops];refine wpIn_region_lit ?_;have hst:df=none\/(l1++o::l2).all Oper.still=true:=hdo.imp (λh=>h) λe=>by rw[<-g0];exact e
    have hst1:df=none\/l1.all Oper.still=true:=oaI;have hst2:df=none\/Oper.still o=true:=oaI;have hgo:wpListIn (eJ df) 0 P ops.toList.toArray (kK false a.defers K [] n Q m γ w) (l1++o::l2) a w:=by refine py g1 g2 (o::l2) hst1 (Q:=kK false a.defers K [] n Q m γ w) hi hl hs (λm' γ' w' a' ht hi' hl' hs' hd' hk'=> ?_);obtain⟨hw,hwp⟩:=g5 m' γ' w' a' (wpListIn (eJ df) 0 P ops.toList.toArray (kK false a.defers K [] n Q m γ w) l2) (kK false a.defers K [] n Q m γ w) hi' hl' (λm2 γ2 w2 v ht2 hle2 hi2 hv=>⟨m2,γ2,L1,obb,.panic av,hq L1 obb g3 g4,⟨v,rfl,hv⟩,ht.trans ht2,hi2,w9 hl' hle2,hs',.of_eq hd',λq g ho hg=>hle2.gam q g (hk'.gam q g hg ho.2) ho.2⟩);grind[wpListIn,vQ]
    rw[<-g0]at hgo;exact hgo
 obtain⟨L0,ob0,hM0,hO0⟩:=hex;exact⟨(base L0 ob0 hM0 hO0).1,λL ob hM hO=>(base L ob hM hO).2⟩
def jmp(P:Program)(c:Code)(Q:Exit->Act->World->Prop):Nat->Exit->Act->World->Prop
 |0,.goto _,_,_=>False
 |k+1,.goto l,a,w=> ∃rest,findLabel c l=some rest/\rest.wp P (jmp P c Q k) a w
 |_,e,a,w=>Q e a w
theorem Dm{c:Code}{Q:Exit->Act->World->Prop}{a:Act}{w:World}(k:Nat)(first:c.wp P (jmp P c Q k) a w):(Code.scope c).wp P Q a w:=by
 intro b items cs;have hg: ∀l rest,findLabel c l=some rest->gotoIn l (.inScope c::items)=some (.code rest:: .inScope c::items):=λl rest hf=>by simp[gotoIn,hf]
 have key: ∀(k:Nat)(r:Code)(a:Act)(w:World),r.wp P (jmp P c Q k) a w-> ∃e a' w',Q e a' w'/\Arrives P (lone (b.at a (.code r:: .inScope c::items)) cs w) b items cs e a' w':=by
  intro k;induction k with
  |zero=>
   intro r a w hr;obtain⟨e,a₁,w₁,hq,harr⟩:=hr b (.inScope c::items) cs;cases e with
   |normal=>exact⟨.normal,a₁,w₁,hq,Steps.trans harr (.one step_inScope)⟩
   |exit id=>exact⟨.exit id,a₁,w₁,hq,λk' hk=>harr k' (by simp[exitTo,hk])⟩
   |goto l'=>exact hq.elim
   |ret=>exact⟨_,a₁,w₁,hq,harr⟩
   |panic ch=>exact⟨_,a₁,w₁,hq,harr⟩
   |outgrown=>exact⟨_,a₁,w₁,hq,harr⟩
  |succ k ih=>
   intro r a w hr;obtain⟨e,a₁,w₁,hq,harr⟩:=hr b (.inScope c::items) cs;cases e with
   |normal=>exact⟨.normal,a₁,w₁,hq,Steps.trans harr (.one step_inScope)⟩
   |exit id=>exact⟨.exit id,a₁,w₁,hq,λk' hk=>harr k' (by simp[exitTo,hk])⟩
   |goto l'=>obtain⟨rest,hf,hrest⟩:=hq;obtain⟨e₂,a₂,w₂,hq₂,harr₂⟩:=ih rest a₁ w₁ hrest;exact⟨e₂,a₂,w₂,hq₂,.of_steps (harr _<|hg l' rest hf) harr₂⟩
   |ret=>exact⟨_,a₁,w₁,hq,harr⟩
   |panic ch=>exact⟨_,a₁,w₁,hq,harr⟩
   |outgrown=>exact⟨_,a₁,w₁,hq,harr⟩
 obtain⟨e,a',w',hq,harr⟩:=key k c a w first
 exact⟨e,a',w',hq,.of_steps (.one step_scope) harr⟩
def QY(P:Program)(n K:Nat)(kk:lXC)(c:Code)(Q:ep):Nat->ep
 |0,.goto _,_,_=>False
 |k+1,.goto l,L,ob=> ∃rest,findLabel c l=some rest/\(!rest.rf||c.rf)=true/\awp none P n K kk rest (QY P n K kk c Q k) L ob
 |_,x,L,ob=>Q x L ob
section
variable{K:Nat}{kk:lXC}{c:Code}{Q:ep}
theorem aaw{k:Nat}{x:AX}{L:Loc}{ob:lXE}(hx: ∀l,x≠ .goto l)(h:Q x L ob):QY P n K kk c Q k x L ob:=by
 cases x with
 |goto l=>exact absurd rfl (hx l)
 |_=>cases k<;>exact h
theorem BL{L:Loc}{ob:lXE}(k:Nat)(h:awp none P n K kk c (QY P n K kk c Q k) L ob):awp none P n K kk (.scope c) Q L ob:=by
 intro m γ w a hi hl hs _;refine wpIn_wide.2 (Dm k ?_);have key: ∀(k:Nat)(r:Code),(!r.rf||c.rf)=true-> ∀(L:Loc)(ob:lXE),awp none P n K kk r (QY P n K kk c Q k) L ob-> ∀m1 γ1 w1 a1,Trans m γ w m1 γ1 w1->(∀o g,kept K kk o->γ o=some g->γ1 o=some g)->Marks c.rf a.defers w a1.defers γ1 w1->Inv m1 γ1 ob w1->b9 m1 γ1 a1 L->a1.tmps.size=n->
   r.wp P (jmp P c (kK c.rf a.defers K kk n Q m γ w) k) a1 w1:=by
  intro k;induction k with
  |zero=>
   intro r hrf L ob hr m1 γ1 w1 a1 ht hk hm hi hl hs;refine wp_mono (wpIn_wide.1<|hr m1 γ1 w1 a1 hi hl hs trivial) ?_;rintro e a2 w2 hp;have hp':=kK.trans (rf:=c.rf) (rf1:=c.rf) (rf2:=r.rf) (ds0:=a.defers) ht hk hm (λe=>e) (λe=>by rw[e]at hrf;simpa using hrf) hp;obtain⟨m2,γ2,L2,ob2,ax,h1,h2,h3⟩:=hp';cases e with
   |goto l=>cases ax<;>first|exact h2.elim|exact h1.elim
   |normal=>cases ax<;>first|exact h2.elim|exact⟨m2,γ2,L2,ob2,_,h1,h2,h3⟩
   |ret=>cases ax<;>first|exact h2.elim|exact⟨m2,γ2,L2,ob2,_,h1,h2,h3⟩
   |exit=>cases ax<;>first|exact h2.elim|exact⟨m2,γ2,L2,ob2,_,h1,h2,h3⟩
   |panic=>cases ax<;>first|exact h2.elim|exact⟨m2,γ2,L2,ob2,_,h1,h2,h3⟩
   |outgrown=>cases ax<;>exact h2.elim
  |succ k ih=>
   intro r hrf L ob hr m1 γ1 w1 a1 ht hk hm hi hl hs;refine wp_mono (wpIn_wide.1<|hr m1 γ1 w1 a1 hi hl hs trivial) ?_;rintro e a2 w2 hp;have hp':=kK.trans (rf:=c.rf) (rf1:=c.rf) (rf2:=r.rf) (ds0:=a.defers) ht hk hm (λe=>e) (λe=>by rw[e]at hrf;simpa using hrf) hp;obtain⟨m2,γ2,L2,ob2,ax,h1,h2,h3⟩:=hp';cases e with
   |goto l=>
    cases ax<;>first|exact h2.elim|skip
    obtain⟨rest,q1,q2,q3⟩:=h1;obtain⟨h3,h4,h5,h6,h7,h8⟩:=h3;simp only[E7]at h2;subst h2;exact⟨rest,q1,oaI⟩
   |normal=>cases ax<;>first|exact h2.elim|exact⟨m2,γ2,L2,ob2,_,h1,h2,h3⟩
   |ret=>cases ax<;>first|exact h2.elim|exact⟨m2,γ2,L2,ob2,_,h1,h2,h3⟩
   |exit=>cases ax<;>first|exact h2.elim|exact⟨m2,γ2,L2,ob2,_,h1,h2,h3⟩
   |panic=>cases ax<;>first|exact h2.elim|exact⟨m2,γ2,L2,ob2,_,h1,h2,h3⟩
   |outgrown=>cases ax<;>exact h2.elim
 exact key k c (by cases c.rf<;>rfl) L ob h m γ w a (Trans.refl _ _ _) (λ_ _ _ h=>h) (Marks.none _ _ _ _ _) hi hl hs
end
def mY(P:Program)(n:Nat)(c:Code)(M:Tri AV)(O:Tri Ob)(N:Nat)(tm:TM)(x:AX)(M':Tri AV)(O':Tri Ob)(N':Nat)(tm':TM):Prop:=Ext tm tm'/\(cF tm'.ok=true->(∃L ob,cJ M L/\bX O N ob)->Runs P n c M O N tm x M' O' N' tm')
section
variable{c:Code}{M:Tri AV}{O:Tri Ob}{N:Nat}{tm:TM}{x:AX}
theorem oD{M':Tri AV}{O':Tri Ob}{N':Nat}{tm':TM}(h:Runs P n c M O N tm x M' O' N' tm')(hex: ∃L ob,cJ M L/\bX O N ob): ∃L ob,cJ M' L/\bX O' N' ob:=by obtain⟨L,ob,h1,h2⟩:=hex;exact(h.2 L ob h1 h2).1
theorem kq(h: ∀df K Q L ob,Q x L ob->awp df P n K [] c Q L ob):Runs P n c M O N tm x M O N tm:=⟨Kept.refl _ _,oaI⟩
end
theorem pU(step:Tri AV->Tri Ob->Nat->TM->RX)(k:Nat)(M:Tri AV)(O:Tri Ob)(N:Nat)(tm:TM):wN step (k+1) M O N tm=qM (wN step k) (step M O N tm):=rfl
theorem Ta(hcf:cw P callf)(ops:List Oper)(draw:Bool){M:Tri AV}{O:Tri Ob}{N:Nat}{tm:TM}{x:AX}{M':Tri AV}{O':Tri Ob}{N':Nat}{tm':TM}(h:C8 ops draw (fX P n callf pu ops ops M O N tm)= .ok x M' O' N' tm'):Ext tm tm':=by
 have hext:=kp (pu:=pu) (n:=n) hcf ops ops (M:=M) (O:=O) (N:=N) (tm:=tm);cases hr:fX P n callf pu ops ops M O N tm with
 |fail=>rw[hr]at h;cases h
 |ok recs M2 O2 N2 t2=>
  rw[hr]at h;cases draw with
  |false=>cases h;exact hext.1 hr
  |true=>grind[C8]
 |pan av M2 O2 N2 t2=>
  rw[hr]at h;cases draw with
  |false=>cases h;exact hext.2 hr
  |true=>cases h
theorem aax{c:Code}{step:Tri AV->Tri Ob->Nat->TM->RX}(hstep: ∀{M O N tm x M' O' N' tm'},step M O N tm= .ok x M' O' N' tm' ->mY P n c M O N tm x M' O' N' tm'){x:AX}{M':Tri AV}{O':Tri Ob}{N':Nat}{tm':TM}: ∀(lf:Nat){M:Tri AV}{O:Tri Ob}{N:Nat}{tm:TM},wN step lf M O N tm= .ok x M' O' N' tm' ->mY P n (.loop c) M O N tm x M' O' N' tm':=by
 have ext: ∀(lf:Nat){M:Tri AV}{O:Tri Ob}{N:Nat}{tm:TM},wN step lf M O N tm= .ok x M' O' N' tm' ->Ext tm tm':=by
  intro lf;induction lf with
  |zero=>intro M O N tm h;cases h
  |succ k ih=>
   intro M O N tm h;rw[pU]at h;cases hs:step M O N tm with
   |fail=>rw[hs]at h;cases h
   |ok x1 M1 O1 N1 t1=>
    rw[hs]at h;have he:=(hstep hs).1;cases x1 with
    |normal=>exact he.trans (ih h)
    |_=>cases h;exact he
 have first: ∀(lf:Nat){M:Tri AV}{O:Tri Ob}{N:Nat}{tm:TM},wN step lf M O N tm= .ok x M' O' N' tm' ->cF tm'.ok=true->(∃L ob,cJ M L/\bX O N ob)->Kept O O' tm tm'/\ ∃L' ob',cJ M' L'/\bX O' N' ob':=by
  intro lf;induction lf with
  |zero=>intro M O N tm h _;cases h
  |succ k ih=>
   intro M O N tm h hok hex;rw[pU]at h;cases hs:step M O N tm with
   |fail=>rw[hs]at h;cases h
   |ok x1 M1 O1 N1 t1=>
    rw[hs]at h;cases x1 with
    |normal=>simp only[qM]at h;have hr:=(hstep hs).2 ((ext k h).ok hok) hex;obtain⟨k1,k2⟩:=ih h hok (oD hr hex);exact⟨hr.1.trans k1,k2⟩
    |_=>simp only[qM,RX.ok.injEq]at h;obtain⟨rfl,rfl,rfl,rfl,rfl⟩:=h;have hr:=(hstep hs).2 hok hex;exact⟨hr.1,oD hr hex⟩
 intro lf M O N tm h;refine⟨ext lf h,λhok hex=> ?_⟩;refine⟨(first lf h hok hex).1,λL ob hM hO=>⟨(first lf h hok ⟨L,ob,hM,hO⟩).2,λdf K Q hdo hq=> ?_⟩⟩;refine ns (ι:=Nat×Loc×lXE) (λi=>i.2.1) (λi=>i.2.2) (λi=> ∃M O N tm,cJ M i.2.1/\bX O N i.2.2/\wN step i.1 M O N tm= .ok x M' O' N' tm') (λi=>i.1) (lf,L,ob) ⟨M,O,N,tm,hM,hO,h⟩ (Sub.refl _) rfl ?_;rintro⟨k,Li,obi⟩ ⟨Mi,Oi,Ni,ti,hMi,hOi,hi⟩;cases k with
 |zero=>cases hi
 |succ k=>
  rw[pU]at hi;cases hs:step Mi Oi Ni ti with
  |fail=>rw[hs]at hi;cases hi
  |ok x1 M1 O1 N1 t1=>
   rw[hs]at hi;cases x1 with
   |normal=>simp only[qM]at hi;have hr:=(hstep hs).2 ((ext k hi).ok hok) ⟨Li,obi,hMi,hOi⟩;refine((hr.2 Li obi hMi hOi).2 df K _ hdo) λL' ob' hM' hO'=> ?_;exact⟨(k,L',ob'),⟨M1,O1,N1,t1,hM',hO',hi⟩,ahc k,Sub.refl _,rfl⟩
   |_=>simp only[qM,RX.ok.injEq]at hi;obtain⟨rfl,rfl,rfl,rfl,rfl⟩:=hi;have hr:=(hstep hs).2 hok ⟨Li,obi,hMi,hOi⟩;exact((hr.2 Li obi hMi hOi).2 df K _ hdo) λL' ob' hM' hO'=>hq L' ob' hM' hO'
theorem Tc(hcf:cw P callf){g:Operand}{ps:Array Tmp}{a b:Code}{M:Tri AV}{O:Tri Ob}{N:Nat}{tm:TM}{x:AX}{M':Tri AV}{O':Tri Ob}{N':Nat}{tm':TM}(h:rngR n callf g ps a b M O N tm= .ok x M' O' N' tm'):mY P n (.rangeFunc g ps a b) M O N tm x M' O' N' tm':=by simp only[rngR]at h;cases h
section
variable(run:Code->Tri AV->Tri Ob->Nat->TM->RX)(c:Code)
theorem FN(x:RX):pT run c 0 x=noGo x:=rfl
theorem FO(k:Nat)(x:RX):pT run c (k+1) x=SY run c (pT run c k) x:=rfl
end
section
variable{run:Code->Tri AV->Tri Ob->Nat->TM->RX}
theorem Td(hrun: ∀{c:Code}{M:Tri AV}{O:Tri Ob}{N:Nat}{tm:TM}{x:AX}{M':Tri AV}{O':Tri Ob}{N':Nat}{tm':TM},run c M O N tm= .ok x M' O' N' tm' ->mY P n c M O N tm x M' O' N' tm'){c:Code}{x:AX}{M':Tri AV}{O':Tri Ob}{N':Nat}{tm':TM}: ∀(k:Nat){r:Code}{M:Tri AV}{O:Tri Ob}{N:Nat}{tm:TM}{y:RX},(∀{x' M1 O1 N1 t1},y= .ok x' M1 O1 N1 t1->mY P n r M O N tm x' M1 O1 N1 t1)->pT run c k y= .ok x M' O' N' tm' ->Ext tm tm'/\(cF tm'.ok=true->(∃L ob,cJ M L/\bX O N ob)->Kept O O' tm tm'/\ ∀L ob,cJ M L->bX O N ob->(∃L' ob',cJ M' L'/\bX O' N' ob')/\ ∀K Q,(∀L' ob',cJ M' L' ->bX O' N' ob' ->Q x L' ob')->awp none P n K [] r (QY P n K [] c Q k) L ob):=by
 have fin: ∀(k:Nat){r:Code}{M:Tri AV}{O:Tri Ob}{N:Nat}{tm:TM},(∀l,x≠ .goto l)->mY P n r M O N tm x M' O' N' tm' ->Ext tm tm'/\(cF tm'.ok=true->(∃L ob,cJ M L/\bX O N ob)->Kept O O' tm tm'/\ ∀L ob,cJ M L->bX O N ob->(∃L' ob',cJ M' L'/\bX O' N' ob')/\ ∀K Q,(∀L' ob',cJ M' L' ->bX O' N' ob' ->Q x L' ob')->awp none P n K [] r (QY P n K [] c Q k) L ob):=by intro k r M O N tm hx hr;refine⟨hr.1,λhok hex=>⟨(hr.2 hok hex).1,λL ob hM hO=>⟨((hr.2 hok hex).2 L ob hM hO).1,λK Q hq=> ?_⟩⟩⟩;exact((hr.2 hok hex).2 L ob hM hO).2 none K _ (.inl rfl) (by grind[aaw])
 intro k;induction k with
 |zero=>
  intro r M O N tm y hy h;rw[FN]at h;cases y with
  |fail=>cases h
  |ok x1 M1 O1 N1 t1=>
   cases x1 with
   |goto l=>cases h
   |_=>cases h;exact fin 0 oaj (hy rfl)
 |succ k ih=>
  intro r M O N tm y hy h;rw[FO]at h;cases y with
  |fail=>cases h
  |ok x1 M1 O1 N1 t1=>
   cases x1 with
   |goto l=>
    simp only[SY]at h;split at h
    rotate_left;·cases h
    rename_i rest hf;cases hc: !rest.rf||c.rf with
    |false=>rw[hc]at h;cases h
    |true=>rw[hc]at h;simp only[af2]at h;obtain⟨e1,k1⟩:=hy rfl;obtain⟨e2,k2⟩:=ih (r:=rest) (M:=M1) (O:=O1) (N:=N1) (tm:=t1) (λh=>hrun h) h;refine⟨e1.trans e2,λhok hex=> ?_⟩;have r1:=k1 (e2.ok hok) hex;have r2:=k2 hok (oD r1 hex);refine⟨r1.1.trans r2.1,λL ob hM hO=> ?_⟩;obtain⟨⟨L1,ob1,a1,a2⟩,a3⟩:=r1.2 L ob hM hO;refine⟨(r2.2 L1 ob1 a1 a2).1,λK Q hq=>a3 none K _ (.inl rfl) λL' ob' hM' hO'=> ?_⟩;exact⟨rest,hf,hc,(r2.2 L' ob' hM' hO').2 K Q hq⟩
   |_=>cases h;exact fin (k+1) oaj (hy rfl)
theorem Te(hrun: ∀{c:Code}{M:Tri AV}{O:Tri Ob}{N:Nat}{tm:TM}{x:AX}{M':Tri AV}{O':Tri Ob}{N':Nat}{tm':TM},run c M O N tm= .ok x M' O' N' tm' ->mY P n c M O N tm x M' O' N' tm'){c:Code}(k:Nat){x:AX}{M M':Tri AV}{O O':Tri Ob}{N N':Nat}{tm tm':TM}{y:RX}(hy: ∀{x' M1 O1 N1 t1},y= .ok x' M1 O1 N1 t1->mY P n c M O N tm x' M1 O1 N1 t1)(h:pT run c k y= .ok x M' O' N' tm'):mY P n (.scope c) M O N tm x M' O' N' tm':=by obtain⟨e1,k1⟩:=Td hrun (r:=c) k hy h;refine⟨e1,λhok hex=> ?_⟩;have h1:=k1 hok hex;refine⟨h1.1,λL ob hM hO=>⟨(h1.2 L ob hM hO).1,λdf K Q hd hq=> ?_⟩⟩;obtain rfl:df=none:=hd.resolve_right (λe=>by cases e);exact BL k ((h1.2 L ob hM hO).2 K Q hq)
end
theorem jT{run:Code->Tri AV->Tri Ob->Nat->TM->RX}(hrun: ∀{c:Code}{M:Tri AV}{O:Tri Ob}{N:Nat}{tm:TM}{x:AX}{M':Tri AV}{O':Tri Ob}{N':Nat}{tm':TM},run c M O N tm= .ok x M' O' N' tm' ->mY P n c M O N tm x M' O' N' tm')(hcf:cw P callf)(hm:P.follows .mixedOrders=true)(lf:Nat): ∀(c:Code){M:Tri AV}{O:Tri Ob}{N:Nat}{tm:TM}{x:AX}{M':Tri AV}{O':Tri Ob}{N':Nat}{tm':TM},wP run P n callf pu lf c M O N tm= .ok x M' O' N' tm' ->mY P n c M O N tm x M' O' N' tm'
 | .skip,M,O,N,tm,x,M',O',N',tm',h=>by cases h;exact⟨Ext.refl _,(by grind[kq,E9])⟩
 | .label l,M,O,N,tm,x,M',O',N',tm',h=>by cases h;exact⟨Ext.refl _,(by grind[kq,QC])⟩
 | .ret,M,O,N,tm,x,M',O',N',tm',h=>by cases h;exact⟨Ext.refl _,(by grind[kq,LI])⟩
 | .exit id,M,O,N,tm,x,M',O',N',tm',h=>by cases h;exact⟨Ext.refl _,(by grind[kq,Sq])⟩
 | .region id ops draw,M,O,N,tm,x,M',O',N',tm',h=>⟨Ta hcf ops.toList draw h,QX hcf hm id ops draw h⟩
 | .seq a b,M,O,N,tm,x,M',O',N',tm',h=>by
  replace h:qM (wP run P n callf pu lf b) (wP run P n callf pu lf a M O N tm)= .ok x M' O' N' tm':=h;cases ha:wP run P n callf pu lf a M O N tm with
  |fail=>rw[ha]at h;cases h
  |ok x1 M1 O1 N1 t1=>
   rw[ha]at h;obtain⟨e1,k1⟩:=jT hrun hcf hm lf a ha;cases x1 with
   |normal=>obtain⟨e2,k2⟩:=jT hrun hcf hm lf b h;refine⟨e1.trans e2,λhok hex=> ?_⟩;have h1:=k1 (e2.ok hok) hex;have h2:=k2 hok (oD h1 hex);refine⟨h1.1.trans h2.1,λL ob hM hO=> ?_⟩;obtain⟨⟨L1,ob1,q1,q2⟩,q3⟩:=h1.2 L ob hM hO;exact⟨(h2.2 L1 ob1 q1 q2).1,λdf K Q hd hq=>jg (q3 df K _ (hd.imp (λh=>h) oan) λL' ob' hM' hO'=>(h2.2 L' ob' hM' hO').2 df K Q (hd.imp (λh=>h) oan) hq)⟩
   |_=>cases h;refine⟨e1,λhok hex=> ?_⟩;have h1:=k1 hok hex;exact⟨h1.1,λL ob hM hO=>⟨(h1.2 L ob hM hO).1,λdf K Q hd hq=>jg ((h1.2 L ob hM hO).2 df K _ (hd.imp (λh=>h) oan) λL' ob' hM' hO'=>hq L' ob' hM' hO')⟩⟩
 | .cond c a b,M,O,N,tm,x,M',O',N',tm',h=>by
  replace h:wO (wP run P n callf pu lf a) (wP run P n callf pu lf b) M O N tm (tev M c)= .ok x M' O' N' tm':=h;have hev: ∀L,cJ M L->aZ L c=tev M c:=λL hM=>by rw[hM.tev]
  unfold wO at h;split at h
  ·rename_i hc;obtain⟨e1,k1⟩:=jT hrun hcf hm lf a h;refine⟨e1,λhok hex=> ?_⟩;have h1:=k1 hok hex;exact⟨h1.1,λL ob hM hO=>⟨(h1.2 L ob hM hO).1,λdf K Q hd hq=>fM ((hev L hM).trans hc) (λ_=>(h1.2 L ob hM hO).2 df K Q (hd.imp (λh=>h) oan) hq) (λe=>by cases e)⟩⟩
  ·rename_i hc;obtain⟨e1,k1⟩:=jT hrun hcf hm lf b h;refine⟨e1,λhok hex=> ?_⟩;have h1:=k1 hok hex;exact⟨h1.1,λL ob hM hO=>⟨(h1.2 L ob hM hO).1,λdf K Q hd hq=>fM ((hev L hM).trans hc) (λe=>by cases e) (λ_=>(h1.2 L ob hM hO).2 df K Q (hd.imp (λh=>h) oan) hq)⟩⟩
  ·cases h
 | .block id c,M,O,N,tm,x,M',O',N',tm',h=>by
  replace h:pS id (wP run P n callf pu lf c M O N tm)= .ok x M' O' N' tm':=h;cases hc:wP run P n callf pu lf c M O N tm with
  |fail=>rw[hc]at h;cases h
  |ok x1 M1 O1 N1 t1=>
   rw[hc]at h;obtain⟨e1,k1⟩:=jT hrun hcf hm lf c hc;cases x1 with
   |exit j=>
    simp only[pS]at h;cases hj:Nat.beq j id with
    |true=>rw[hj]at h;have:=afV hj;subst this;simp only[af2,RX.ok.injEq]at h;obtain⟨rfl,rfl,rfl,rfl,rfl⟩:=h;refine⟨e1,λhok hex=> ?_⟩;have h1:=k1 hok hex;exact⟨h1.1,λL ob hM hO=>⟨(h1.2 L ob hM hO).1,λdf K Q hd hq=>et ((h1.2 L ob hM hO).2 df K _ (hd.imp (λh=>h) λe=>e)<|by grind[j8])⟩⟩
    |false=>rw[hj]at h;have hne:=agD hj;simp only[af8,RX.ok.injEq]at h;obtain⟨rfl,rfl,rfl,rfl,rfl⟩:=h;refine⟨e1,λhok hex=> ?_⟩;have h1:=k1 hok hex;exact⟨h1.1,λL ob hM hO=>⟨(h1.2 L ob hM hO).1,λdf K Q hd hq=>et ((h1.2 L ob hM hO).2 df K _ (hd.imp (λh=>h) λe=>e)<|by grind[j8])⟩⟩
   |_=>cases h;refine⟨e1,λhok hex=> ?_⟩;have h1:=k1 hok hex;exact⟨h1.1,λL ob hM hO=>⟨(h1.2 L ob hM hO).1,λdf K Q hd hq=>et ((h1.2 L ob hM hO).2 df K _ (hd.imp (λh=>h) λe=>e) λL' ob' hM' hO'=>hq L' ob' hM' hO')⟩⟩
 | .loop c,M,O,N,tm,x,M',O',N',tm',h=>aax (λh=>jT hrun hcf hm lf c h) lf h
 | .scope c,M,O,N,tm,x,M',O',N',tm',h=>by replace h:pT run c lf (wP run P n callf pu lf c M O N tm)= .ok x M' O' N' tm':=h;exact Te hrun lf (λh=>jT hrun hcf hm lf c h) h
 | .goto l,M,O,N,tm,x,M',O',N',tm',h=>by cases h;exact⟨Ext.refl _,(by grind[kq,Sr])⟩
 | .rangeFunc _ _ _ _,M,O,N,tm,x,M',O',N',tm',h=>Tc hcf h
 | .refuse _,M,O,N,tm,x,M',O',N',tm',h=>by cases h
theorem iX(hcf:cw P callf)(hm:P.follows .mixedOrders=true)(lf:Nat)(c:Code){M:Tri AV}{O:Tri Ob}{N:Nat}{tm:TM}{x:AX}{M':Tri AV}{O':Tri Ob}{N':Nat}{tm':TM}(h:ew P n callf pu lf c M O N tm= .ok x M' O' N' tm'):mY P n c M O N tm x M' O' N' tm':=jT (by grind[jT]) hcf hm lf c h
end
section
variable{P:Program}{callf:c9}{pu:FuncId->Bool}
theorem kQ{M:Tri AV}{L:Loc}{O:Tri Ob}{N:Nat}{ob:lXE}(hM:cJ M L)(hO:bX O N ob): ∀{rs:List ResultVar}{avs:lXF},nh P M O rs=some avs->nu P L ob rs avs
 |[],avs,h=>by simp only[nh,afM]at h;subst h;exact .nil
 | .tmp t::rs,avs,h=>by
  simp only[nh]at h;split at h
  ·rename_i av aS h1 h2;cases h;exact .tmp ((hM t).symm.trans h1) (kQ hM hO h2)
  ·cases h
 | .cell t ty::rs,avs,h=>by
  simp only[nh]at h;split at h
  ·rename_i o off g k aS h1 h2 h3;have h1':=(hM t).symm.trans h1;split at h
   ·rename_i cells ho;have ho':=(hO.2 o).symm.trans ho;split at h
    ·cases hb:Nat.ble (off+k) cells.length with
     |false=>rw[hb]at h;cases h
     |true=>rw[hb]at h;cases h;exact .agg h2 h1' ho' (nbl hb) (kQ hM hO h3)
    ·split at h
     ·rename_i c hc;cases h;exact .one h2 h1' ho' hc (kQ hM hO h3)
     ·cases h
   ·cases h
  ·cases h
def pV{m m':Mem}{γ γ':Gam}{ob:lXE}{w w':World}(hi:Inv m γ ob w)(ht:Trans m γ w m' γ' w')(hk: ∀o g,kept ob.length [] o->γ o=some g->γ' o=some g):Le m γ [] m' γ':=⟨ht.mem,λo g hg _=>hk o g ⟨hi.len o oaL,rfl⟩ hg⟩
def Le.all{m m1 m2:Mem}{γ γ1 γ2:Gam}(h:Le m γ [] m1 γ1)(k:Le m1 γ1 [] m2 γ2):Le m γ [] m2 γ2:=⟨λb x e=>k.mem b x (h.mem b x e),λo g hg hc=>k.gam o g (h.gam o g hg hc) hc⟩
theorem L4{f:FuncId}{args:lXF}{ob:lXE}{M:Tri AV}{O O0:Tri Ob}{N:Nat}{tm tm0:TM}{rs:List ResultVar}(h0:bX O0 ob.length ob)(hA: ∀avs,nh P M O rs=some avs-> ∃ob1,bX O N ob1/\aY P f args ob [] (fO avs) ob1)(hk:Kept O0 O tm0 tm){r:AV}{O1:Tri Ob}{N1:Nat}{t1:TM}(h:A2 P ob.length rs M O N tm= .ret r O1 N1 t1): ∃ob1,bX O1 N1 ob1/\aY P f args ob [] r ob1/\ ∀i,tb t1.lo i=false->O1.get i=O0.get i:=by
 unfold A2 at h;split at h
 ·rename_i avs hr;obtain⟨ob1,h1,h2⟩:=hA avs hr;unfold LW at h;cases hc:Nat.beq ob.length 0&&(!Nat.beq N 0&&tm.syn ((fO avs).und 0) false)with
  |false=>rw[hc]at h;cases h;exact⟨ob1,h1,h2,hk.2⟩
  |true=>rw[hc]at h;simp only[afJ]at hc;cases h;have:ob=[]:=agp (afV hc.1);subst this;exact⟨[],bX.nil,lP (h2.mono λe o⟨g1,g2⟩=>⟨g1,o,by simp⟩) (afP _) (BI hc.2.2) rfl,λi _=>by rw[h0.2];simp[jW]⟩
 ·cases h
section
variable{N0:Nat}{M:Tri AV}{O:Tri Ob}{N:Nat}{tm:TM}{rs:List ResultVar}
theorem FP{r:AV}{O1:Tri Ob}{N1:Nat}{t1:TM}(h:A2 P N0 rs M O N tm= .ret r O1 N1 t1):t1.ok=tm.ok:=by
 unfold A2 at h;split at h
 ·rename_i avs _;unfold LW at h;cases hc:Nat.beq N0 0&&(!Nat.beq N 0&&tm.syn ((fO avs).und 0) false)<;>(rw[hc]at h;cases h;rfl)
 ·cases h
theorem xd{av:AV}{O1:Tri Ob}{N1:Nat}{t1:TM}(h:A2 P N0 rs M O N tm= .pan av O1 N1 t1):False:=by grind[A2,LW]
end
theorem Marks.out{rf:Bool}{ds0 ds:List Deferred}{w0:World}{γ:Gam}{w:World}(h:Marks rf ds0 w0 ds γ w)(hr:rf=false):ds=ds0:=by obtain⟨Ds,h1,h2,_⟩:=h;simp_all
theorem BM{recs:List Rec}(h:SZ recs=true): ∀rc∈recs,rc.kind.ID=false:=by intro rc hrc;have:=agc.1 h rc hrc;simpa using this
def DOk(P:Program)(g:FuncId)(args:lXF)(pan:Option AV)(ob ob':lXE):Prop:=
 ∀(m:Mem)(γ:Gam)(w:World)(vs:List Value)(u:FrameMode),Inv m γ ob w->aB m γ args vs->
  (match pan with
   |none=>u= .returning
   |some av=> ∃v,u= .panicking [{v,recovered:=false}]/\Rep m γ av v)->
  CallsD P g vs.toArray u w λe u' w'=>(∃v,e= .returned v)/\settle u' = .returning/\ ∃m' γ',Trans m γ w m' γ' w'/\Inv m' γ' ob' w'/\Le m γ [] m' γ'
theorem jY{ops:Array Oper}{Q:Exit->Act->List Frame->World->Prop}{cs:List Frame}(hQ: ∀a w,¬Q .outgrown a cs w): ∀(l:lXC)(a:Act)(w:World),wpOps P ops (λe a w=>Q e a cs w) l a w->wpOpsS P ops Q l a cs w
 |[],a,w,h=>h
 |i::l,a,w,h=>by
  unfold wpOps at h;unfold wpOpsS;split at h
  ·rename_i ho;simp only[ho];exact jY hQ l a w h
  ·rename_i o ho;simp only[ho];split at h
   ·rename_i hw;rw[if_pos hw];have hup:=h.resolve_right (λ⟨_,a0,w0,hq⟩=>hQ a0 w0 hq);unfold Oper.wp at hup;cases hr:(execOp a.eval o).run P w with
    |ok x w'=>
     rw[hr]at hup;cases x<;>simp only[Oper.upon]at hup⊢ <;>first
      |exact hup.elim
      |exact jY hQ l _ _ hup
      |(refine hup.mono λe w2 h2=> ?_
        cases e with
        |returned v=>exact jY hQ l _ _ h2
        |panicked chain=>exact h2
        |outgrown=>exact h2)
      |exact hup.mono λv w2 h2=>jY hQ l _ _ h2
    |halt x w'=>
     rw[hr]at hup;cases x<;>simp only[Oper.upon]at hup⊢ <;>first
      |exact hup.elim
      |exact hup
   ·rename_i hw;rw[if_neg hw];exact jY hQ l _ _ h
theorem FQ{c:Code}{d:Option Nat}{all l:List Oper}{b:Code}(h:I1 c=some (d,all,l,b)):∃id ts ty pos af,all=⟨d,.call ⟨.builtin .recover,#[],ts⟩,ty,pos,af,none⟩::l/\c= .seq (.region id all.toArray false) b:=by
 unfold I1 at h;split at h
 ·rename_i id d' ts ty pos af l' b';simp only[afM,af7]at h;obtain⟨rfl,rfl,rfl,rfl⟩:=h;exact⟨id,ts,ty,pos,af,rfl,rfl⟩
 ·cases h
theorem ac3(hcf:cw P callf)(hm:P.follows .mixedOrders=true)(lf:Nat){g:FuncId}{args:lXF}{pan:Option AV}{O O':Tri Ob}{N N':Nat}{tm tm':TM}(h:wQ P pu lf callf g args pan O N tm= .ok O' N' tm'):Ext tm tm'/\(cF tm'.ok=true-> ∀ob,bX O N ob-> ∃ob',bX O' N' ob'/\DOk P g args pan ob ob'/\Kept O O' tm tm'):=by
 unfold wQ at h;split at h
 rotate_left;·cases h
 rename_i fn hf;split at h
 rotate_left;·cases h
 rename_i c hb;split at h
 rotate_left;·cases h
 rename_i d all l b hsp;obtain⟨id,ts,ty,pos,af,rfl,rfl⟩:=FQ hsp;cases hc:Nat.ble args.length fn.ntmps&&Nat.blt d fn.ntmps&&fn.results.toList.isEmpty&& !(fn.name== "runtime.NumGoroutine")with
 |false=>rw[hc]at h;cases h
 |true=>
  rw[hc]at h;simp only[afJ,af3]at hc;obtain⟨⟨⟨c1,c2⟩,c3⟩,c4⟩:=hc;have c1:=nbl c1;have c2:d<fn.ntmps:=by simp[Nat.blt]at c2;omega
  have c3:fn.results.toList=[]:=by simpa using c3
  simp only[af2]at h;have hM1:cJ ((jC 0 args .e).set (FB pan) d) (c7 (fi 0 args) (some d) (FB pan) []):=(eM args).up (some d) _;unfold recR at h;split at h
  rotate_left;·cases h
  rename_i recs M2 O2 N2 t2 hro;have hro':fX P fn.ntmps callf pu (⟨some d,.call ⟨.builtin .recover,#[],ts⟩,ty,pos,af,none⟩::l) l ((jC 0 args .e).set (FB pan) d) O N tm= .ok recs M2 O2 N2 t2:=hro;cases hny:SZ recs with
  |false=>rw[hny]at h;cases h
  |true=>
  rw[hny]at h;simp only[af2]at h;cases hbrf:b.rf with
  |true=>rw[hbrf]at h;cases h
  |false=>
  rw[hbrf]at h;simp only[af8]at h;have hbr: ∃x2 M3,(x2= .normal\/x2= .ret)/\ew P fn.ntmps callf pu lf b M2 O2 N2 t2= .ok x2 M3 O' N' tm':=by
   unfold abY at h;split at h
   ·rename_i M3 O3 N3 t3 hx;cases h;exact⟨_,M3,.inl rfl,hx⟩
   ·rename_i M3 O3 N3 t3 hx;cases h;exact⟨_,M3,.inr rfl,hx⟩
   ·cases h
  obtain⟨x2,M3,hx2,hrb⟩:=hbr;obtain⟨e2,k2⟩:=iX hcf hm lf b hrb;have e1:=(kp (pu:=pu) (n:=fn.ntmps) hcf (⟨some d,.call ⟨.builtin .recover,#[],ts⟩,ty,pos,af,none⟩::l) l).1 hro';refine⟨e1.trans e2,λhok ob hO=> ?_⟩;have hrun:=jX (pu:=pu) (n:=fn.ntmps) hcf (⟨some d,.call ⟨.builtin .recover,#[],ts⟩,ty,pos,af,none⟩::l) l hM1 hO tm;rw[hro']at hrun;obtain⟨L2,ob2,g1,g2,g3,g4,g5⟩:=hrun (e2.ok hok);have hb2:=k2 hok ⟨L2,ob2,g1,g2⟩;obtain⟨⟨L3,ob3,q1,q2⟩,q3⟩:=hb2.2 L2 ob2 g1 g2;refine⟨ob3,q2,?_,g5.trans hb2.1⟩;intro m γ w vs u hi hv hu;have hlen:=aX hv;refine callsD_of_wpS hf hb λc₀ cs hmode=> ?_;have hrec: ∃v u' ,Rep m γ (FB pan) v/\settle u' = .returning/\((recoverD (c₀::cs)=some (v,{c₀ with mode:=u' }::cs))\/(recoverD (c₀::cs)=none/\v= .nilIface/\u'=c₀.mode)):=by
   cases pan with
   |none=>simp only at hu;subst hu;exact⟨.nilIface,.returning,by simp[FB,Rep],rfl,.inr ⟨by simp[recoverD,hmode],rfl,hmode.symm⟩⟩
   |some av=>obtain⟨v,rfl,hv⟩:=hu;exact⟨v,.panicking [{v,recovered:=true}],hv,rfl,.inl (by simp[recoverD,hmode])⟩
  obtain⟨v,u',hrv,hset,hrec⟩:=hrec;refine wpS_seq (wpS_region ?_);rw[List.range_eq_range',ag9,agb,List.range'_succ];unfold wpOpsS;simp only[List.getElem?_toArray,agP,Region.wanted,agX];have hex:(execOp ({tmps:=vs.toArray++Array.replicate (fn.ntmps-vs.toArray.size) undef,defers:=[]}:Act).eval ⟨some d,.call ⟨.builtin .recover,#[],ts⟩,ty,pos,af,none⟩).run P w= .ok .recover w:=by simp[execOp,resolve,invoke,builtin]
  simp only[hex];have hstart:=nw hv c1;have hL1:b9 m γ (({tmps:=vs.toArray++Array.replicate (fn.ntmps-vs.toArray.size) undef,defers:=[]}:Act).put (some d) v) (c7 (fi 0 args) (some d) (FB pan) []):=by have:=j7 (rc:=⟨some d,[],(FB pan),[],.pure⟩) (d:=some d) hstart (Le.refl m γ []) rfl (λe he=>by cases he;simp;omega) hrv;exact this
  have key: ∀cs',(∃uu,cs'={c₀ with mode:=uu}::cs/\settle uu= .returning)->wpOpsS P (⟨some d,.call ⟨.builtin .recover,#[],ts⟩,ty,pos,af,none⟩::l).toArray (Exit.thenS (b.wpS P (bodyPostS P fn c₀ cs λe u' w'=>(∃v,e= .returned v)/\settle u' = .returning/\ ∃m' γ',Trans m γ w m' γ' w'/\Inv m' γ' ob3 w'/\Le m γ [] m' γ')) (bodyPostS P fn c₀ cs λe u' w'=>(∃v,e= .returned v)/\settle u' = .returning/\ ∃m' γ',Trans m γ w m' γ' w'/\Inv m' γ' ob3 w'/\Le m γ [] m' γ'))
    (List.range' (0+1) l.length) (({tmps:=vs.toArray++Array.replicate (fn.ntmps-vs.toArray.size) undef,defers:=[]}:Act).put (some d) v) cs' w:=by
   rintro cs' ⟨uu,rfl,huu⟩;refine jY (λa w hq=> ?_) _ _ _ ?_
   ·obtain⟨_,⟨v,hv⟩,_⟩:=hq;cases hv
   rw[wpOps_eq_wpList l (0+1) (λj=>by simp[Nat.add_comm])];have happ:=qQ g3 g4 (BM hny) [] (Q:=λe a w'=>Exit.thenS (b.wpS P (bodyPostS P fn c₀ cs λe u' w'=>(∃v,e= .returned v)/\settle u' = .returning/\ ∃m' γ',Trans m γ w m' γ' w'/\Inv m' γ' ob3 w'/\Le m γ [] m' γ')) (bodyPostS P fn c₀ cs λe u' w'=>(∃v,e= .returned v)/\settle u' = .returning/\ ∃m' γ',Trans m γ w m' γ' w'/\Inv m' γ' ob3 w'/\Le m γ [] m' γ') e a ({c₀ with mode:=uu}::cs) w')
    hi hL1 (by rw[nn];simp;omega) (λm1 γ1 w1 a1 ht1 hi1 hl1 hs1 hd1 hk1=> ?_)
   ·simpa using happ
   refine wpS_of_wp (c:=b) ?_;have hd1':a1.defers=[]:=hd1.trans (by rw[j6]);refine wp_mono (wpIn_wide.1<|q3 none ob2.length (λx L ob=>(x= .normal\/x= .ret)/\ob=ob3) (.inl rfl) (λL' ob' _ hO'=>⟨hx2,hO'.uniq q2⟩) m1 γ1 w1 a1 hi1 hl1 hs1 trivial) ?_;rintro e a2 w2 ⟨m2,γ2,Lx,obx,ax,⟨hax,rfl⟩,p2,p3,p4,p5,p6,p7,p8⟩;have hle:=hk1.all (pV hi1 p3 p8);have hfin:a2.defers=[]/\ ∃u',{c₀ with mode:=uu}::cs={c₀ with mode:=u' }::cs/\ ∃v,(results fn a2.tmps).run P w2= .ok v w2/\(∃v',Ending.returned v= .returned v')/\settle u' = .returning/\ ∃m' γ',Trans m γ w m' γ' w2/\Inv m' γ' obx w2/\Le m γ [] m' γ':=by obtain⟨rv,r1,_⟩:=nv (P:=P) (fn:=fn) (avs:=[]) p4 p5 (by rw[c3];exact .nil);exact⟨(p7.out hbrf).trans hd1',uu,rfl,rv,r1,⟨rv,rfl⟩,huu,m2,γ2,ht1.trans p3,p4,hle⟩
   rcases hax with rfl|rfl
   ·cases e<;>first|exact p2.elim|exact hfin
   ·cases e<;>first|exact p2.elim|exact hfin
  rcases hrec with hr|⟨hr,rfl,rfl⟩
  ·rw[hr];exact key _ ⟨u',rfl,hset⟩
  ·rw[hr];exact key _ ⟨c₀.mode,rfl,hset⟩
theorem nJ: ∀{ops l:List Oper}{x:Operand},lU ops=some (l,x)-> ∃ts ty pos after,ops=l++ [⟨none,.defer ⟨.value x,#[],ts⟩,ty,pos,after,none⟩]
 |[],l,x,h=>by simp[lU]at h
 |o::ops,l,x,h=>by
  unfold lU at h;split at h
  ·cases h
  ·rename_i x' ts ty pos after heq;simp only[ahg]at heq;obtain⟨rfl,rfl⟩:=heq;simp only[afM,af7]at h;obtain⟨rfl,rfl⟩:=h;exact⟨ts,ty,pos,after,rfl⟩
  ·rename_i o' l' hne heq;simp only[ahg]at heq;obtain⟨rfl,rfl⟩:=heq;split at h
   ·rename_i l2 x2 hl;simp only[afM,af7]at h;obtain⟨rfl,rfl⟩:=h;obtain⟨ts,ty,pos,after,e⟩:=nJ hl;exact⟨ts,ty,pos,after,by rw[e];rfl⟩
   ·cases h
theorem FR{c a b:Code}{all l:List Oper}{x:Operand}(h:C9 c=some (a,all,l,x,b)): ∃id ts ty pos after,c= .seq a (.seq (.region id all.toArray false) b)/\all=l++ [⟨none,.defer ⟨.value x,#[],ts⟩,ty,pos,after,none⟩]:=by
 unfold C9 at h;split at h
 ·rename_i a' id ops b';split at h
  ·rename_i l' x' hl;simp only[afM,af7]at h;obtain⟨rfl,rfl,rfl,rfl,rfl⟩:=h;obtain⟨ts,ty,pos,after,e⟩:=nJ hl;exact⟨id,ts,ty,pos,after,by simp,e⟩
  ·cases h
 ·cases h
theorem QZ{x:Operand}{ts:Array TypeId}{ty:TypeId}{pos:String}{after:Array Edge}{a:Act}{g:FuncId}{us cs:List Value}(hx:a.eval x= .func (.func g) us.toArray cs.toArray)(w:World):(execOp a.eval ⟨none,.defer ⟨.value x,#[],ts⟩,ty,pos,after,none⟩).run P w= .ok (.defer {target:= .fn (.func g) cs.toArray,args:=us.toArray}) w:=by simp[execOp,resolve,hx,Deferred.ofValue]
theorem Jd{g:FuncId}{fn:Func}(hf:P.funcs[g]? =some fn)(hname:(fn.name== "runtime.NumGoroutine")=false)(hb:fn.body.isNone=false)(us cs:List Value)(w:World):(invoke (.fn (.func g) cs.toArray) us.toArray).run P w= .ok (.enter g (us++cs).toArray) w:=by
 have h1: ¬fn.name= "runtime.NumGoroutine" :=by simpa using hname
 have h2: ¬fn.body=none:=by intro e;simp[e]at hb
 simp[invoke,callFunc,hf,h1,h2]
theorem FT{lf:Nat}{g:FuncId}{args:lXF}{pan:Option AV}{O O':Tri Ob}{N N':Nat}{tm tm':TM}(h:wQ P pu lf callf g args pan O N tm= .ok O' N' tm'): ∃fn,P.funcs[g]? =some fn/\(fn.name== "runtime.NumGoroutine")=false/\fn.body.isNone=false:=by
 unfold wQ at h;split at h
 rotate_left;·cases h
 rename_i fn hf;split at h
 rotate_left;·cases h
 rename_i c hb;split at h
 rotate_left;·cases h
 rename_i d all l b hsp;cases hc:Nat.ble args.length fn.ntmps&&Nat.blt d fn.ntmps&&fn.results.toList.isEmpty&& !(fn.name== "runtime.NumGoroutine")with
 |false=>rw[hc]at h;cases h
 |true=>simp only[afJ,af3]at hc;exact⟨fn,hf,hc.2,by simp[hb]⟩
theorem aay(hcf:cw P callf)(hm:P.follows .mixedOrders=true)(lf:Nat){f:FuncId}{fn:Func}(hf:P.funcs[f]? =some fn)(hname:(fn.name== "runtime.NumGoroutine")=false){c a b:Code}{all l:List Oper}{x:Operand}(hb:fn.body=some c)(hsp:C9 c=some (a,all,l,x,b))(harf:a.rf=false)(hbrf:b.rf=false){args:lXF}(hn:args.length<=fn.ntmps){O:Tri Ob}{N:Nat}{tm:TM}{res:CR}(h:runD P pu lf callf fn.ntmps N fn.results.toList all l x b (ew P fn.ntmps callf pu lf a (jC 0 args .e) O N<|tm.at N)=res):(∀r O1 N1 t1,res= .ret r O1 N1 t1->Ext tm t1/\(cF t1.ok=true-> ∀ob,bX O N ob-> ∃ob1,bX O1 N1 ob1/\aY P f args ob [] r ob1/\ ∀i,tb t1.lo i=false->O1.get i=O.get i))/\(∀av O1 N1 tm,res= .pan av O1 N1 tm->False):=by
 obtain⟨id,ts,ty,pos,after,rfl,hall⟩:=FR hsp;cases hra:ew P fn.ntmps callf pu lf a (jC 0 args .e) O N (tm.at N)with
 |fail=>rw[hra]at h;subst h;exact⟨λ_ _ _ _ e=>oao,λ_ _ _ _ e=>oao⟩
 |ok xa M1 O1 N1 t1=>
  rw[hra]at h;cases xa with
  |normal=>
   simp only[runD]at h;obtain⟨ea,ka⟩:=iX hcf hm lf a hra;split at h
   ·rename_i recs M2 O2 N2 t2 hro;have hro':fX P fn.ntmps callf pu all l M1 O1 N1 t1= .ok recs M2 O2 N2 t2:=hro;have el:=(kp (pu:=pu) (n:=fn.ntmps) hcf all l).1 hro';cases hny:SZ recs with
    |false=>rw[hny]at h;subst h;exact⟨λ_ _ _ _ e=>oao,λ_ _ _ _ e=>oao⟩
    |true=>
    rw[hny]at h;simp only[Bool.not_true,af8]at h;split at h
    ·rename_i g fs cs hx0;split at h
     ·rename_i x2 M3 O3 N3 t3 hrb;obtain⟨eb,kb⟩:=iX hcf hm lf b hrb;split at h
      ·rename_i pan hend;unfold S0 at h;split at h
       ·rename_i O4 N4 t4 hd;obtain⟨ed,kd⟩:=ac3 hcf hm lf hd;subst h;refine⟨λr Or Nr tr e=> ?_,λav Or Nr tr e=>xd e⟩;have eok:=FP e;have e4:Ext tm t4:=ea.trans (el.trans<|eb.trans ed);refine⟨⟨e4.choose,by rw[eok];exact e4.choose_spec⟩,λhok0 ob hO=> ?_⟩;have hok:cF t4.ok=true:=by rw[<-eok];exact hok0
        have hNlen:=hO.1;subst hNlen;have ha:=ka ((el.trans<|eb.trans ed).ok hok) ⟨fi 0 args,ob,eM args,hO⟩;obtain⟨⟨L1,ob1,a1,a2⟩,a3⟩:=ha.2 (fi 0 args) ob (eM args) hO;have hl:=jX (pu:=pu) (n:=fn.ntmps) hcf all l a1 a2 t1;rw[hro']at hl;obtain⟨L2,ob2,l1,l2,l3,l4,l5⟩:=hl ((eb.trans ed).ok hok);have hx:=hx0;rw[l1.tev]at hx;have hbr:=kb (ed.ok hok) ⟨L2,ob2,l1,l2⟩;obtain⟨⟨L3,ob3,b1,b2⟩,b3⟩:=hbr.2 L2 ob2 l1 l2;obtain⟨ob4,d1,d2,d3⟩:=kd hok ob3 b2;obtain⟨fg,hfg,hng,hbg⟩:=FT hd;have hA: ∀avs,nh P M3 O4 fn.results.toList=some avs-> ∃ob1,bX O4 N4 ob1/\aY P f args ob [] (fO avs) ob1:=by
         intro avs hres;refine⟨ob4,d1,⟨⟨fn,hf,hname,by simp[hb]⟩,λm γ w vs hi hv=>calls_of_wp_defers hf hb ?_⟩⟩;have hlen:=aX hv;refine wp_seq (wp_mono (wpIn_wide.1<|a3 none ob.length (λx L' ob'=>x= .normal/\cJ M1 L'/\ob'=ob1) (.inl rfl) (λL' ob' h1 h2=>⟨rfl,h1,h2.uniq a2⟩) m γ w _ hi (nw hv hn) oaA trivial) ?_);rintro e a1' w1 ⟨m1,γ1,Lx,obx,ax,⟨rfl,hMx,rfl⟩,p2,p3,p4,p5,p6,p7,p8⟩;have hle1:=pV hi p3 p8;cases e<;>first|exact p2.elim|skip
         show Code.wp _ _ _ _ _;have hlx:=jX (pu:=pu) (n:=fn.ntmps) hcf all l hMx a2 t1;rw[hro']at hlx;obtain⟨L2',ob2',y1,y2,y3,y4,y5⟩:=hlx ((eb.trans ed).ok hok);have e2:=y2.uniq l2;subst e2;refine wp_seq (wp_region_lit ?_);have hgo:=qQ y3 y4 (BM hny) [⟨none,.defer ⟨.value x,#[],ts⟩,ty,pos,after,none⟩] (Q:=Exit.then (b.wp P (bodyPostD P fn λe w'=> ∃m' γ' r ob',(r= .ret (fO avs)/\ob'=ob4)/\mm m' γ' e r/\Trans m γ w m' γ' w'/\Inv m' γ' ob' w'/\(∀o g,([]:lXC).contains o=false->γ o=some g->γ' o=some g))) (bodyPostD P fn λe w'=> ∃m' γ' r ob',(r= .ret (fO avs)/\ob'=ob4)/\mm m' γ' e r/\Trans m γ w m' γ' w'/\Inv m' γ' ob' w'/\(∀o g,([]:lXC).contains o=false->γ o=some g->γ' o=some g)))
          p4 p5 p6 (λm2 γ2 w2 a2' ht2 hi2 hl2 hs2 hd2 hk2=> ?_)
         ·rw[hall];rw[hall]at hgo;exact hgo
         have hx':aZ L2' x=some (.fn (.func g) fs cs):=by rw[<-y1.tev,l1.tev];exact hx
         have hrx:=nr hl2 hx';simp only[Rep]at hrx;obtain⟨us,vcs,ex,r1,r2⟩:=hrx;unfold wpList;rw[if_pos (by simp[Region.wanted])];refine .inl ?_;unfold Oper.wp;rw[QZ ex,Oper.upon_defer];have hdf:({a2' with defers:={target:= .fn (.func g) vcs.toArray,args:=us.toArray}::a2'.defers}:Act).put none undef={a2' with defers:=[{target:= .fn (.func g) vcs.toArray,args:=us.toArray}]}:=by rw[hd2,p7.out harf];rfl
         simp only at hdf⊢;rw[hdf];show Code.wp _ _ _ _ _;refine wp_mono (wpIn_wide.1<|b3 none ob2'.length (λx L' ob'=>x=x2/\cJ M3 L'/\ob'=ob3) (.inl rfl) (λL' ob' h1 h2=>⟨rfl,h1,h2.uniq b2⟩) m2 γ2 w2 {a2' with defers:=[{target:= .fn (.func g) vcs.toArray,args:=us.toArray}]} hi2 (λt av e=>hl2 t av<|by rw[<-y1 t,l1 t];exact e) hs2 trivial) ?_;rintro e a3' w3 ⟨m3,γ3,L3',ob3',ax,⟨rfl,hM3,rfl⟩,q2,q3,q4,q5,q6,q7,q8⟩;have hle3:=pV hi2 q3 q8;have hargs:aB m3 γ3 (fs++cs) (us++vcs):=cL (dR hle3 _ _ (dm _) r1) (dR hle3 _ _ (dm _) r2);have fin: ∀u,(match pan with
           |none=>u=FrameMode.returning
           |some av=> ∃v,u= .panicking [{v,recovered:=false}]/\Rep m3 γ3 av v)->Leaves P fn a3'.tmps (λe w'=> ∃m' γ' r ob',(r= .ret (fO avs)/\ob'=ob4)/\mm m' γ' e r/\Trans m γ w m' γ' w'/\Inv m' γ' ob' w'/\(∀o g,([]:lXC).contains o=false->γ o=some g->γ' o=some g)) a3'.defers u w3:=by
          intro u hu;rw[q7.out hbrf];refine leaves_cons (by cases pan with|none=>simp only at hu;rw[hu];simp|some av=>obtain⟨v,hv,_⟩:=hu;rw[hv];simp) (Jd hfg hng hbg us vcs w3) ?_;refine(d2 m3 γ3 w3 (us++vcs) u q4 hargs hu).mono ?_;rintro e4 u4 w4 ⟨⟨v4,rfl⟩,hset,m4,γ4,ht4,hi4,hle4⟩;simp only[hset];have hl4:=w9 q5 hle4;obtain⟨rv,rr1,rr2⟩:=nv (fn:=fn) hi4 hl4 (kQ hM3 d1 hres);exact⟨rv,rr1,m4,γ4,_,ob4,⟨rfl,rfl⟩,rr2,((p3.trans ht2).trans q3).trans ht4,hi4,λo g _ hg=>hle4.gam o g (hle3.gam o g (hk2.gam o g (hle1.gam o g hg rfl) rfl) rfl) rfl⟩
         cases ax<;>simp only[abZ,afM]at hend<;>first
          |(subst hend;cases e<;>first|exact q2.elim|exact fin _ rfl|(obtain⟨v,rfl,hv⟩:=q2;exact fin _ ⟨v,rfl,hv⟩))
          |cases hend
        exact L4 (O0:=O) (tm0:=tm.at ob.length) hO hA (ha.1.trans<|l5.trans<|hbr.1.trans d3) e
       ·subst h;exact⟨λ_ _ _ _ e=>oao,λ_ _ _ _ e=>oao⟩
      ·subst h;exact⟨λ_ _ _ _ e=>oao,λ_ _ _ _ e=>oao⟩
     ·subst h;exact⟨λ_ _ _ _ e=>oao,λ_ _ _ _ e=>oao⟩
    ·subst h;exact⟨λ_ _ _ _ e=>oao,λ_ _ _ _ e=>oao⟩
   ·subst h;exact⟨λ_ _ _ _ e=>oao,λ_ _ _ _ e=>oao⟩
  |_=>simp only[runD]at h;subst h;exact⟨λ_ _ _ _ e=>oao,λ_ _ _ _ e=>oao⟩
theorem y_ok(hcf:cw P callf)(hm:P.follows .mixedOrders=true)(lf:Nat){f:FuncId}(hf:dQ<=f)(args:lXF)(O:Tri Ob)(N:Nat)(tm:TM):(∀r O1 N1 t1,QQ P pu lf callf (f-dQ) args O N tm= .ret r O1 N1 t1->Ext tm t1/\(cF t1.ok=true-> ∀ob,bX O N ob-> ∃ob1,bX O1 N1 ob1/\qO P f args ob r ob1/\ ∀i,tb t1.lo i=false->O1.get i=O.get i))/\ (∀av O1 N1 t1,QQ P pu lf callf (f-dQ) args O N tm= .pan av O1 N1 t1->f<dQ/\Ext tm t1/\(cF t1.ok=true-> ∀ob,bX O N ob-> ∃ob1,bX O1 N1 ob1/\S3 P f args ob av ob1/\ ∀i,tb t1.lo i=false->O1.get i=O.get i)):=(by grind[QQ])
theorem kR{f:FuncId}(hf:Nat.blt f dQ=true){args:lXF}{ob:lXE}{r:AV}{ob1:lXE}(h:aY P f args ob [] r ob1):qO P f args ob r ob1:=qO.of (nbl hf) h
def ac4(lf k:Nat)(f:FuncId)(args:lXF)(O:Tri Ob)(N:Nat)(tm:TM):BD P pu lf (k+1) f args O N tm=(cond (!Nat.blt f dQ) (QQ P pu lf (BD P pu lf k) (f-dQ) args O N tm)<|match P.funcs[f]? with
   |some fn=>match fn.body with
    |some c=>cond (Nat.ble args.length fn.ntmps&& !(fn.name== "runtime.NumGoroutine")) (oA P pu lf (BD P pu lf k) fn c args O N tm) .fail
    |none=> .fail
   |none=> .fail):=rfl
def hU(P:Program)(f:FuncId)(args:lXF)(O:Tri Ob)(N:Nat)(tm:TM):(∀r O1 N1 t1,CR.fail= .ret r O1 N1 t1->Ext tm t1/\(cF t1.ok=true-> ∀ob,bX O N ob-> ∃ob1,bX O1 N1 ob1/\qO P f args ob r ob1/\ ∀i,tb t1.lo i=false->O1.get i=O.get i))/\ (∀av O1 N1 t1,CR.fail= .pan av O1 N1 t1->f<dQ/\Ext tm t1/\(cF t1.ok=true-> ∀ob,bX O N ob-> ∃ob1,bX O1 N1 ob1/\S3 P f args ob av ob1/\ ∀i,tb t1.lo i=false->O1.get i=O.get i)):=oaz
theorem fn_ok{callf:c9}(hcf:cw P callf)(hm:P.follows .mixedOrders=true)(pu:FuncId->Bool)(lf:Nat){f:FuncId}(hY:f<dQ){fn:Func}(hf:P.funcs[f]? =some fn){c:Code}(hb:fn.body=some c)(hname:(fn.name== "runtime.NumGoroutine")=false){args:lXF}(hn:args.length<=fn.ntmps)(O:Tri Ob)(N:Nat)(tm:TM):(∀r O1 N1 t1,oA P pu lf callf fn c args O N tm= .ret r O1 N1 t1->Ext tm t1/\(cF t1.ok=true-> ∀ob,bX O N ob-> ∃ob1,bX O1 N1 ob1/\qO P f args ob r ob1/\ ∀i,tb t1.lo i=false->O1.get i=O.get i))/\ (∀av O1 N1 t1,oA P pu lf callf fn c args O N tm= .pan av O1 N1 t1->f<dQ/\Ext tm t1/\(cF t1.ok=true-> ∀ob,bX O N ob-> ∃ob1,bX O1 N1 ob1/\S3 P f args ob av ob1/\ ∀i,tb t1.lo i=false->O1.get i=O.get i)):=by
 unfold oA;split
 ·rename_i hsp;cases hrun:ew P fn.ntmps callf pu lf c (jC 0 args .e) O N (tm.at N)with
  |fail=>exact hU P f args O N tm
  |ok x M O1 N1 t1=>
   obtain⟨e1,k1⟩:=iX hcf hm lf c hrun;have hA:(x= .normal\/x= .ret)-> ∀r Or Nr tr,A2 P N fn.results.toList M O1 N1 t1= .ret r Or Nr tr->Ext tm tr/\(cF tr.ok=true-> ∀ob,bX O N ob-> ∃ob1,bX Or Nr ob1/\qO P f args ob r ob1/\ ∀i,tb tr.lo i=false->Or.get i=O.get i):=by
    intro hx r Or Nr tr e;have eok:=FP e;refine⟨⟨e1.choose,by rw[eok];exact e1.choose_spec⟩,λhok0 ob hO=> ?_⟩;have hok:cF t1.ok=true:=by rw[<-eok];exact hok0
    have hNlen:=hO.1;subst hNlen;have hr:=k1 hok ⟨fi 0 args,ob,eM args,hO⟩;obtain⟨⟨L1,ob1,a1,a2⟩,a3⟩:=hr.2 (fi 0 args) ob (eM args) hO;obtain⟨ob3,z1,z2,z3⟩:=L4 (P:=P) (f:=f) (args:=args) (O0:=O) (tm0:=tm.at ob.length) hO (λavs hres=>⟨ob1,a2,ly hf hname hb hn (a3 none ob.length _ (.inl rfl) λL' ob' hM' hO'=>by
     have hv:=kQ hM' hO' hres;have eq:=hO'.uniq a2;rcases hx with rfl|rfl
     ·exact⟨avs,hv,rfl,eq⟩
     ·exact⟨avs,hv,rfl,eq⟩)⟩) hr.1 e
    exact⟨ob3,z1,qO.of hY z2,z3⟩
   cases x with
   |normal=>exact⟨hA (.inl rfl),λav Or Nr tr e=>(xd e).elim⟩
   |ret=>exact⟨hA (.inr rfl),λav Or Nr tr e=>(xd e).elim⟩
   |panic av0=>refine⟨λr Or Nr tr e=>oao,λav Or Nr tr e=> ?_⟩;cases e;refine⟨hY,e1,λhok ob hO=> ?_⟩;have hNlen:=hO.1;subst hNlen;have hr:=k1 hok ⟨fi 0 args,ob,eM args,hO⟩;obtain⟨⟨L1,ob1,a1,a2⟩,a3⟩:=hr.2 (fi 0 args) ob (eM args) hO;exact⟨ob1,a2,ly hf hname hb hn (a3 none ob.length _ (.inl rfl) λL' ob' hM' hO'=>⟨rfl,hO'.uniq a2⟩),hr.1.2⟩
   |exit j=>exact hU P f args O N tm
   |goto j=>exact hU P f args O N tm
 ·rename_i a all l x b hsp;cases hrf:a.rf||b.rf with
  |true=>exact hU P f args O N tm
  |false=>simp only[af4]at hrf;obtain⟨g1,g2⟩:=aay (pu:=pu) hcf hm lf hf hname hb hsp hrf.1 hrf.2 hn (O:=O) (N:=N) (tm:=tm) rfl;refine⟨λr O1 N1 t1 e=> ?_,λav O1 N1 tm e=>(g2 av O1 N1 tm e).elim⟩;obtain⟨q1,q2⟩:=g1 r O1 N1 t1 e;refine⟨q1,λhok ob hO=> ?_⟩;obtain⟨ob1,z1,z2,z3⟩:=q2 hok ob hO;exact⟨ob1,z1,qO.of hY z2,z3⟩
noncomputable def Tf(P:Program)(pu:FuncId->Bool)(lf:Nat)(callf:c9):c9:=λf args O N tm=>cond (!Nat.blt f dQ) (QQ P pu lf callf (f-dQ) args O N tm)<|match P.funcs[f]? with
 |some fn=>match fn.body with
  |some c=>cond (Nat.ble args.length fn.ntmps&& !(fn.name== "runtime.NumGoroutine")) (oA P pu lf callf fn c args O N tm) .fail
  |none=> .fail
 |none=> .fail
theorem Q0{callf:c9}(hcf:cw P callf)(hm:P.follows .mixedOrders=true)(pu:FuncId->Bool)(lf:Nat):cw P (Tf P pu lf callf):=λf args O N tm=>by
 unfold Tf;cases hY:Nat.blt f dQ with
 |false=>have hf:dQ<=f:=(by grind[Nat.blt,agN]);simp only[agJ,af2];exact y_ok hcf hm lf hf args O N tm
 |true=>
 simp only[Bool.not_true,af8];have hfy:f<dQ:=nbl hY;split
 rotate_left;·exact hU P f args O N tm
 rename_i fn hf;split
 rotate_left;·exact hU P f args O N tm
 rename_i c hb;cases hc:Nat.ble args.length fn.ntmps&& !(fn.name== "runtime.NumGoroutine")with
 |false=>exact hU P f args O N tm
 |true=>simp only[afJ,af3]at hc;simp only[af2];exact fn_ok hcf hm pu lf hfy hf hb hc.2 (nbl hc.1) O N tm
def xe(hm:P.follows .mixedOrders=true)(pu:FuncId->Bool)(lf:Nat): ∀k,cw P (BD P pu lf k)
 |0=>λf args O N tm=>hU P f args O N tm
 |k+1=>λf args O N tm=>Q0 (xe hm pu lf k) hm pu lf f args O N tm
theorem Je{callf:c9}(hcf:cw P callf){f:FuncId}{args:lXF}{r:AV}{tm t1:TM}(h:callf f args .e 0 tm= .ret r .e 0 t1)(hok:cF t1.ok=true)(hY:Nat.blt f dQ=true:=by rfl):aY P f args [] [] r []:=by obtain⟨ob1,h1,h2,_⟩:=((hcf f args .e 0 tm).1 _ _ _ _ h).2 hok [] bX.nil;have:ob1=[]:=agp h1.1;rw[this]at h2;exact h2.1 (nbl hY)
end
noncomputable def en:Loc->Tri AV
 |[]=> .e
 |(t,av)::L=>(en L).set av t
theorem iB: ∀L:Loc,cJ (en L) L
 |[]=>cJ.nil
 |(t,av)::L=>λs=>by rw[en,dF,dP,iB L s]
noncomputable def dZ(ob:lXE):Tri Ob:=wK 0 ob .e
theorem fQ(ob:lXE):bX (dZ ob) ob.length ob:=⟨rfl,λi=>by rw[dZ,sT ob 0 .e (λj _=>rfl) i,if_neg oaa,Nat.sub_zero]⟩
def fI:AX->Bool
 | .panic av=>av.pure
 |_=>true
def afL{m:Mem}{γ1 γ2:Gam}{av:AV}{x:Value}(hp:av.pure=true)(h:Rep m γ1 av x):Rep m γ2 av x:=by
 let γ3:Gam:=λk=>if k%2=0 then γ1 (k/2)else γ2 (k/2)
 have e1:(λk=>γ3<|2*k)=γ1:=by funext k;show(if 2*k%2=0 then γ1 (2*k/2)else _)=_;rw[if_pos oaa,show 2*k/2=k by omega]
 have e2:(λk=>γ3<|2*k+1)=γ2:=by funext k;show(if (2*k+1)%2=0 then _ else γ2 ((2*k+1)/2))=_;rw[if_neg oaa,show(2*k+1)/2=k by omega]
 rw[<-e1]at h;rw[<-e2];have k:=(eD av x).1 h;rw[gi _ _ hp]at k;exact(eD (f:=λk=>2*k+1) av x).2 (by rw[gi _ _ hp];exact k)
def afK{m m':Mem}{γ γ':Gam}{e:Exit}{ax:AX}(hp:fI ax=true)(hm: ∀a x,m a=some x->m' a=some x)(h:E7 m γ e ax):E7 m' γ' e ax:=by
 cases ax with
 |panic av=>
  cases e with
  |panic ch=>obtain⟨v,h1,h2⟩:=h;have h3:Rep m' γ av v:=gg (ks:=[]) ⟨hm,λ_ _ hg _=>hg⟩ av v (AV.eX av) h2;exact⟨v,h1,afL hp h3⟩
  |_=>exact h.elim
 |_=>cases e<;>first|exact h.elim|exact h
section
variable{df:Option Nat}{P:Program}{n K:Nat}
def bo(P:Program)(n K:Nat)(c:Code)(L:Loc)(ob:lXE)(x:AX)(L':Loc)(ob':lXE):Prop:= ∀(df:Option Nat)(Q:ep),kL df c->Q x L' ob' ->awp df P n K [] c Q L ob
noncomputable def iM(L5 sel:lXC):RX->Option (AX×List (Option AV)×List (Option Ob)×Nat×lXB)
 | .ok x M O N t=>some (x,L5.map M.get,sel.map O.get,N,t.ok)
 | .fail=>none
def ni(f:Nat->Nat)(l:Loc):List (Option AV):=l.map λp=>some (p.2.ren f)
def mG:lXC->Bool
 |[]=>true
 |a::l=> !l.contains a&&mG l
theorem ju: ∀{l:lXC},mG l=true->l.Nodup
 |[],_=>agW
 |a::l,h=>by simp only[mG,afJ,af3]at h;exact List.nodup_cons.2 ⟨by simpa using h.1,ju h.2⟩
theorem lV{M:Tri AV}{f:Nat->Nat}: ∀{l:Loc},(l.map (·.1)).map M.get=ni f l-> ∀t av,lk l t=some av->M.get t=some (av.ren f)
 |[],_,t,av,h=>by simp[lk]at h
 |(s,bv)::l,e,t,av,h=>by
  simp only[ni,af9,ahg]at e;rw[dP]at h;by_cases hs:s=t
  ·simp_all
  ·rw[if_neg hs]at h;exact lV e.2 t av h
def ey{a b:Code}{L L1 L2:Loc}{ob ob1 ob2:lXE}{x:AX}(h:bo P n K a L ob .normal L1 ob1)(k:bo P n K b L1 ob1 x L2 ob2):bo P n K (.seq a b) L ob x L2 ob2:=λdf Q hd hq=>jg (h df _ (hd.imp (λe=>e) oan)<|k df Q (hd.imp (λe=>e) oan) hq)
theorem L6{f:FuncId}{args:lXF}{r:AV}(h:aY P f args [] [] r [])(hp:aj args=true)(hr:r.pure=true)(ob:lXE):aY P f args ob [] r ob:=by
 refine⟨h.1,λm γ w vs hi hv=> ?_⟩;have hget: ∀(i s:Nat)(X:Ob),([]:lXC)[i]? =some s->([]:lXE)[i]? =some X->ob[s]? =some (X.ren<|bM [] ob.length)/\X≠ .dead:=λi s X e=>by simp at e
 refine(h.2 m _ w vs (ow hi agW rfl hget)<|(cB _ _).2<|by rw[ca _ _ hp];exact hv).mono ?_;rintro e w' ⟨m',γc,r',obc',⟨rfl,rfl⟩,h2,h3,h4,h5⟩;obtain⟨γ',g1,g2,g3,g4⟩:=lO hi (kk:=[]) agW rfl hget (afP _) oaj h3 h4 h5;rw[Fh]at g4;refine⟨m',γ',_,ob,⟨rfl,rfl⟩,?_,g2,g4,λo g hk hg=>g3.gam o g hg hk⟩;cases e with
 |returned v=>have h2':Rep m' γc r v:=h2;rw[<-show(λk=>γ'<|bM [] ob.length k)=γc from funext g1,eD,gi _ _ hr]at h2';exact h2'
 |panicked c=>exact h2.elim
 |outgrown=>exact h2.elim
end
def Frz(o:Nat)(X:Ob)(av av':AV):Prop:= ∀m γ m',FrzM m γ o X m' -> ∀x,Rep m γ av x->Rep m' γ av' x
def jv(o:Nat)(X:Ob)(cs cs':lXF):Prop:= ∀m γ m',FrzM m γ o X m' -> ∀xs,aB m γ cs xs->aB m' γ cs' xs
section
variable{o:Nat}{X:Ob}
theorem Frz.same(av:AV):Frz o X av av:=λ_m _γ _m' h x hr=>gg h.le av x (AV.eX _) hr
theorem jv.nil:jv o X [] []:=λ_ _ _ _ _ h=>by simpa only[aB]using h
theorem jv.cons{c c':AV}{cs cs':lXF}(h:Frz o X c c')(k:jv o X cs cs'):jv o X (c::cs) (c'::cs'):=λm γ m' hm xs hr=>by simp only[aB]at hr⊢;obtain⟨x,r,rfl,h1,h2⟩:=hr;exact⟨x,r,rfl,h m γ m' hm x h1,k m γ m' hm r h2⟩
theorem jv.same(cs:lXF):jv o X cs cs:=λ_m _γ _m' h xs hr=>dR h.le cs xs (dm _) hr
theorem Frz.tu{cs cs':lXF}(h:jv o X cs cs'):Frz o X (.tu cs) (.tu cs'):=λm γ m' hm x hr=>by simp only[Rep]at hr⊢;obtain⟨xs,h1,h2⟩:=hr;exact⟨xs,h1,h m γ m' hm xs h2⟩
theorem Frz.ag{cs cs':lXF}(h:jv o X cs cs'):Frz o X (.ag cs) (.ag cs'):=λm γ m' hm x hr=>by simp only[Rep]at hr⊢;obtain⟨xs,h1,h2⟩:=hr;exact⟨xs,h1,h m γ m' hm xs h2⟩
theorem Frz.sr{T S lo len:Nat}{rows:List lXF}(hX:X= .row T S rows)(h:lo+len<=rows.length):Frz o X (.sr o S lo len) (.sl S<|(rows.drop lo).take len):=λm γ m' hm x hr=>by
 simp only[Rep]at hr⊢;have hl:((rows.drop lo).take len).length=len:=by simp;omega
 rcases hr with⟨_,⟨a,rfl⟩,rfl,rfl⟩|⟨b,C,cap,g1,g2,g3,g4,g5⟩
 ·grind
 ·rcases g5 with rfl|⟨rfl,_,a,rfl⟩
  ·refine⟨_,_,_,rfl,hl.symm,g3,?_⟩;rcases hm.row T S rows hX with⟨h1,_⟩|⟨b',C',h1,_,h3⟩
   ·rw[g1]at h1;cases h1
   ·rw[g1]at h1;cases h1;refine .inr ⟨b,lo*S,rfl,jO ?_ len⟩;have:=jN h3 lo;rwa[ahf]at this
  grind
theorem Frz.sr0{T S n:Nat}{rows:List lXF}(hX:X= .row T S rows)(h:n=rows.length):Frz o X (.sr o S 0 n) (.sl S rows):=by have:=Frz.sr (o:=o) (lo:=0) (len:=n) hX oaa;rwa[List.drop_zero,agv oaa]at this
theorem Frz.pt{Tb:TypeId}{cells:lXF}{off:Nat}(hX:X= .box Tb cells):Frz o X (.pt o off) (.pf<|cells.drop off):=λm γ m' hm x hr=>by simp only[Rep]at hr⊢;obtain⟨b,C,g1,rfl⟩:=hr;obtain⟨b',h1,h2⟩:=hm.box Tb cells hX;rw[g1]at h1;cases h1;exact⟨b,off,rfl,by have:=fS h2 off;rwa[ahf]at this⟩
end
inductive xf(o:Nat)(X:Ob):Ob->Ob->Prop
 |same (Y:Ob):xf o X Y Y
 |box {T:TypeId} {cs cs':lXF} (h:jv o X cs cs'):xf o X (.box T cs) (.box T cs')
 |any (Y:Ob):xf o X Y .dead
def lW{m:Mem}{γ:Gam}{ob ob2:lXE}{w:World}(hi:Inv m γ ob w)(hl:ob2.length=ob.length)(h: ∀(i:Nat)(Y:Ob),ob2[i]? =some Y->Y= .dead\/(live ob i/\iL m γ w i Y)):Inv m γ ob2 w:=by
 have hlv: ∀q,live ob2 q->live ob q:=by rintro q ⟨Y,hY,hne⟩;grind
 refine⟨hi.mem,λq Y hY=> ?_,λq q' b C C' l1 l2=>hi.sep q q' b C C' (hlv q l1) (hlv q' l2),hi.dom,λq hq=>by rw[hl];exact hi.len q hq⟩;rcases h q Y hY with rfl|h1
 ·trivial
 ·exact h1.2
section
variable{P:Program}{f:FuncId}{args:lXF}{ob ob1 ob2:lXE}{kk:lXC}{r r':AV}
theorem nK(h:aY P f args ob kk r ob1){o:Nat}{X:Ob}(ho:ob1[o]? =some X)(hX:(∃T S rows,X= .row T S rows)\/ ∃Tb cells,X= .box Tb cells)(hr:Frz o X r r')(hl:ob2.length=ob1.length)(hob: ∀i Y Y',ob1[i]? =some Y->ob2[i]? =some Y' ->Y' = .dead\/(i≠o/\xf o X Y Y')):aY P f args ob kk r' ob2:=by
 refine⟨h.1,λm γ w vs hi hv=>(h.2 m γ w vs hi hv).mono ?_⟩;rintro e w' ⟨m',γ',r0,o0,⟨rfl,rfl⟩,h2,h3,h4,h5⟩;obtain⟨m2,hm,hi2,ht⟩:=iW h4 ho hX;have e1:mm m2 γ' e (.ret r'):=by
  cases e with
  |returned v=>exact hr _ _ _ hm v h2
  |panicked c=>exact h2.elim
  |outgrown=>exact h2.elim
 refine⟨m2,γ',_,ob2,⟨rfl,rfl⟩,e1,h3.trans ht,lW hi2 (by rw[hl,age]) λi Y' hY'=> ?_,h5⟩;have hlt:=(afR.1 hY').1;obtain⟨Y,hY⟩: ∃Y,o0[i]? =some Y:=⟨_,af0 oaa⟩;by_cases hd:Y' = .dead
 ·exact .inl hd
 rcases hob i Y Y' hY hY' with h6|⟨hne,h6⟩
 ·exact .inl h6
 ·have hset:(o0.set o Ob.dead)[i]? =some Y:=by rw[af5 (Ne.symm hne)];exact hY
  cases h6 with
  |same=>exact .inr ⟨⟨_,hset,hd⟩,hi2.obj i _ hset⟩
  |any=>exact .inl rfl
  |box hcs=>refine .inr ⟨⟨_,hset,by simp⟩,?_⟩;obtain⟨b,cs,g1,g2,g3,g4⟩:=hi2.obj i _ hset;obtain⟨b',cs',g1',g2',g3',_⟩:=h4.obj i _ hY;rw[g1]at g1';cases g1';rw[g2]at g2';cases g2';exact⟨b,cs,g1,g2,hcs _ _ _ hm _ g3',g4⟩
theorem qR(h:aY P f args [] [] r ob1)(hr:r.und 0=true):aY P f args [] [] r []:=lP (h.mono λe o hh=>⟨hh.1,ob1,by rw[hh.2];rfl⟩) (afP _) hr rfl
theorem FU{T S n:Nat}{rows:List lXF}(h:aY P f args [] [] (.sr 0 S 0 n) [.row T S rows])(hn:n=rows.length)(hp:ak rows=true):aY P f args [] [] (.sl S rows) []:=
 qR (nK (ob2:=[.dead]) h (o:=0) rfl (.inl ⟨_,_,_,rfl⟩) (Frz.sr0 rfl hn) rfl<|λi Y Y' _ h2=> .inl<|by
  cases i with
  |zero=>simp at h2;exact h2.symm
  |succ i=>simp at h2) (by simp[AV.und,fa 0 rows hp])
theorem BN(h:aY P f args ob kk r ob1)(hr: ∀m γ x,Rep m γ r x->Rep m γ r' x):aY P f args ob kk r' ob1:=by
 refine⟨h.1,λm γ w vs hi hv=>(h.2 m γ w vs hi hv).mono ?_⟩;rintro e w' ⟨m',γ',r0,o0,⟨rfl,rfl⟩,h2,h3,h4,h5⟩;refine⟨m',γ',_,_,⟨rfl,rfl⟩,?_,h3,h4,h5⟩;cases e with
 |returned v=>exact hr _ _ _ h2
 |panicked c=>exact h2.elim
 |outgrown=>exact h2.elim
theorem Tg{ob:lXE}{o:Nat}{X:Ob}: ∀i Y Y',ob[i]? =some Y->(ob.map λ_=>Ob.dead)[i]? =some Y' ->Y' = .dead\/(i≠o/\xf o X Y Y'):=by simp_all
theorem mH{T S n o:Nat}{rows:List lXF}(h:aY P f args [] [] (.sr o S 0 n) ob1)(ho:ob1[o]? =some (.row T S rows))(hn:n=rows.length)(hp:ak rows=true):aY P f args [] [] (.sl S rows) []:=qR (nK h ho (.inl ⟨_,_,_,rfl⟩) (Frz.sr0 rfl hn) (afW ..) Tg) (by simp[AV.und,fa 0 rows hp])
end
def Th:List Code->Code->Code
 |[],r=>r
 |h::hs,r=> .seq h (Th hs r)
section
variable{P:Program}{n:Nat}{callf:c9}{pu:FuncId->Bool}{lf:Nat}
noncomputable def FV(P:Program)(n:Nat)(callf:c9)(pu:FuncId->Bool)(lf:Nat):List Code->Tri AV->Tri Ob->Nat->TM->RX
 |[],M,O,N,tm=> .ok .normal M O N tm
 |h::hs,M,O,N,tm=>qM (FV P n callf pu lf hs) (ew P n callf pu lf h M O N tm)
theorem L7(hcf:cw P callf)(hm:P.follows .mixedOrders=true): ∀(hs:List Code){M M':Tri AV}{O O':Tri Ob}{N N':Nat}{tm tm':TM},FV P n callf pu lf hs M O N tm= .ok .normal M' O' N' tm' ->Ext tm tm'/\(cF tm'.ok=true-> ∀L ob,cJ M L->bX O N ob-> ∀(K:Nat)(Q:ep)(rest:Code),(∀L' ob',cJ M' L' ->bX O' N' ob' ->awp none P n K [] rest Q L' ob')->awp none P n K [] (Th hs rest) Q L ob)
 |[],M,M',O,O',N,N',tm,tm',h=>by cases h;exact⟨Ext.refl _,λ_ L ob hM hO K Q rest hq=>hq L ob hM hO⟩
 |c::hs,M,M',O,O',N,N',tm,tm',h=>by
  replace h:qM (FV P n callf pu lf hs) (ew P n callf pu lf c M O N tm)= .ok .normal M' O' N' tm':=h;cases hc:ew P n callf pu lf c M O N tm with
  |fail=>rw[hc]at h;cases h
  |ok x M1 O1 N1 t1=>
   rw[hc]at h;cases x with
   |normal=>obtain⟨e1,k1⟩:=iX hcf hm lf c hc;obtain⟨e2,k2⟩:=L7 hcf hm hs (show FV P n callf pu lf hs M1 O1 N1 t1=_ from h);refine⟨e1.trans e2,λhok L ob hM hO K Q rest hq=> ?_⟩;have h1:=k1 (e2.ok hok) ⟨L,ob,hM,hO⟩;exact jg ((h1.2 L ob hM hO).2 none K _ (.inl rfl) λL1 ob1 hM1 hO1=>k2 hok L1 ob1 hM1 hO1 K Q rest hq)
   |_=>simp[qM]at h
noncomputable def lastR(P:Program)(n:Nat)(callf:c9)(pu:FuncId->Bool)(lf id:Nat)(B:Code):RX->RX
 | .ok .normal _ _ _ _=> .fail
 |r=>qM (ew P n callf pu lf B) (pS id r)
noncomputable def mZ(P:Program)(rs:List ResultVar)(k:Nat):RX->Option (AV×List (Option Ob)×lXB)
 | .ok .normal M O _ t=>match nh P M O rs with
  |some avs=>some (fO avs,(range k).map O.get,t.ok)
  |none=>none
 | .ok .ret M O _ t=>match nh P M O rs with
  |some avs=>some (fO avs,(range k).map O.get,t.ok)
  |none=>none
 |_=>none
theorem BO{k:Nat}{O:Tri Ob}{obs:lXE}(hl:obs.length=k)(h:(range k).map O.get=obs.map some){N:Nat}{ob:lXE}(hO:bX O N ob): ∃xs,ob=obs++xs:=by
 have hp: ∀i,i<k->ob[i]? =obs[i]? :=λi hi=>by
  have h3:((range k).map O.get)[i]? =some (O.get i):=by simp[hi]
  rw[h,afY]at h3;cases ho:obs[i]? with
  |none=>rw[ho]at h3;cases h3
  |some X=>rw[ho]at h3;simp at h3;rw[<-hO.2];exact h3.symm
 refine⟨ob.drop k,?_⟩;conv=>lhs;rw[<-agG k ob]
 congr 1;apply agd;grind
theorem aaz{df:Option Nat}{K:Nat}{c:Code}{Q:ep}{L L':Loc}{ob ob2:lXE}{o:Nat}{X:Ob}(ho:ob[o]? =some X)(hX:(∃T S rows,X= .row T S rows)\/ ∃Tb cells,X= .box Tb cells)(hl:ob2.length=ob.length)(hob: ∀i Y Y',ob[i]? =some Y->ob2[i]? =some Y' ->Y' = .dead\/(i≠o/\xf o X Y Y'))(hL: ∀t av',lk L' t=some av' -> ∃av,lk L t=some av/\Frz o X av av')(h:awp df P n K [] c Q L' ob2):awp df P n K [] c Q L ob:=by
 intro m γ w a hi hlc hs hd;obtain⟨m2,hm,hi2,ht⟩:=iW hi ho hX;have hinv:Inv m2 γ ob2 w:=lW hi2 (by rw[hl,age]) λi Y' hY'=>by
  have hlt:=(afR.1 hY').1;obtain⟨Y,hY⟩: ∃Y,ob[i]? =some Y:=⟨_,af0 oaa⟩;by_cases hd:Y' = .dead
  ·exact .inl hd
  rcases hob i Y Y' hY hY' with h6|⟨hne,h6⟩
  ·exact .inl h6
  ·have hset:(ob.set o Ob.dead)[i]? =some Y:=by rw[af5 (Ne.symm hne)];exact hY
   cases h6 with
   |same=>exact .inr ⟨⟨_,hset,hd⟩,hi2.obj i _ hset⟩
   |any=>exact .inl rfl
   |box hcs=>refine .inr ⟨⟨_,hset,by simp⟩,?_⟩;obtain⟨b,cs,g1,g2,g3,g4⟩:=hi2.obj i _ hset;obtain⟨b',cs',g1',g2',g3',_⟩:=hi.obj i _ hY;rw[g1]at g1';cases g1';rw[g2]at g2';cases g2';exact⟨b,cs,g1,g2,hcs _ _ _ hm _ g3',g4⟩
 have hrl:b9 m2 γ a L':=λt av' e=>by obtain⟨av,h1,h2⟩:=hL t av' e;exact⟨(hlc t av h1).1,h2 _ _ _ hm _ (hlc t av h1).2⟩
 refine wpIn_mono (h m2 γ w a hinv hrl hs hd) ?_;rintro e a1 w1 ⟨m1,γ1,L1,ob1,ax,h1,h2,h3,h4,h5,h6,h7,h8⟩;exact⟨m1,γ1,L1,ob1,ax,h1,h2,ht.trans h3,h4,h5,h6,h7,h8⟩
end
section
variable{P:Program}{f:FuncId}{Tb:TypeId}{cs ds rest:lXF}{r:AV}
theorem BP{m m':Mem}{γ γ':Gam}: ∀{cs:lXF}{xs:List Value},(∀c∈cs,∃x,c= .v x)->aB m γ cs xs->aB m' γ' cs xs
 |[],xs,_,h=>by simpa only[aB]using h
 |c::cs,xs,hv,h=>by simp only[aB]at h⊢;obtain⟨x,r,rfl,h1,h2⟩:=h;obtain⟨y,rfl⟩:=hv c oaj;exact⟨x,r,rfl,by simpa only[Rep]using h1,BP (λc hc=>hv c<|agf _ hc) h2⟩
end
inductive Told:Ob->Ob->Prop
 |same (X:Ob):Told X X
 |dead (X:Ob):Told X .dead
 |row {T S k:Nat} {rows:List lXF} (h:k<=rows.length):Told (.row T S rows) (.row T S<|rows.take k)
def Q1{m:Mem}{γ:Gam}{w:World}{o:Nat}{X Y:Ob}(h:Told X Y)(hx:iL m γ w o X):iL m γ w o Y:=by
 cases h with
 |same=>exact hx
 |dead=>trivial
 |row hk=>
  rename_i T S k rows;rcases hx with⟨g1,g2⟩|⟨b,C,cs,g1,g2,g3,g4,g5,g6,g7,g8⟩
  ·exact .inl ⟨g1,by rw[g2];simp⟩
  ·have hl:(rows.take k).length=k:=by simp;omega
   refine .inr ⟨b,C,cs,g1,g2,g3,by omega,g5,λr hr=>g6 r (agC hr),?_,g8⟩;have:=eg g7 (k*S);grind[c8,agB]
def BQ{X Y:Ob}(h:Told X Y)(hy:Y≠ .dead):X≠ .dead:=by
 cases h with
 |same=>exact hy
 |dead=>exact absurd rfl hy
 |row=>simp
structure L8(K:Nat)(L':Loc)(ob':lXE)(L:Loc)(ob:lXE)(sel:lXC):Prop where
 nodup:sel.Nodup
 len:sel.length=ob.length
 obs: ∀(i s:Nat)(X:Ob),sel[i]? =some s->ob[i]? =some X-> ∃Y,ob'[s]? =some Y/\Told Y (X.ren<|bM sel ob'.length)
 same: ∀i,i<K->sel[i]? =some i
 L5: ∀t av,lk L t=some av->lk L' t=some (av.ren<|bM sel ob'.length)
def FW{m:Mem}{γ:Gam}{w:World}{ob obc:lXE}(hi:Inv m γ ob w){sel:lXC}(hn:sel.Nodup)(hl:sel.length=obc.length)(hsel: ∀(i s:Nat)(X:Ob),sel[i]? =some s->obc[i]? =some X-> ∃Y,ob[s]? =some Y/\Told Y (X.ren<|bM sel ob.length)):Inv m (λk=>γ<|bM sel ob.length k) obc w:=by
 have key: ∀(i:Nat)(X:Ob),obc[i]? =some X-> ∃s:Nat,sel[i]? =some s/\ ∃Y,ob[s]? =some Y/\Told Y (X.ren<|bM sel ob.length):=by
  intro i X hX;have hi':i<sel.length:=by grind
  have h1:sel[i]? =some sel[i]:=af0 hi';exact⟨_,h1,hsel i _ X h1 hX⟩
 refine⟨hi.mem,λo X hX=> ?_,λo o' b C C' h1 h2 h3 h4=> ?_,λo b C h=>hi.dom _ b C h,λo h=> ?_⟩
 ·obtain⟨s,g1,Y,g2,g3⟩:=key o X hX;refine nC.2 ?_;rw[e9 g1];exact Q1 g3 (hi.obj s _ g2)
 ·obtain⟨X,hX,hXd⟩:=h1;obtain⟨Z,hZ,hZd⟩:=h2;obtain⟨s,g1,Y,g2,g3⟩:=key o X hX;obtain⟨t,k1,V,k2,k3⟩:=key o' Z hZ;rw[e9 g1]at h3;rw[e9 k1]at h4;have dd: ∀{Z:Ob},Z≠ .dead->Z.ren (bM sel ob.length)≠ .dead:=by intro Z hZ;cases Z<;>simp_all[Ob.ren]
  have e:=hi.sep s t b C C' ⟨_,g2,BQ g3 (dd hXd)⟩ ⟨_,k2,BQ k3 (dd hZd)⟩ h3 h4;grind[List.pairwise_iff_getElem]
 ·by_cases h1:o<sel.length
  ·omega
  ·have h2:=hi.len _ h;grind[kN]
section
variable{df:Option Nat}{P:Program}{n K:Nat}
theorem oE{c:Code}{Q:ep}{L0:Loc}{ob0:lXE}(h:awp df P n K [] c (λx L' ob'=> ∃L ob sel,L8 K L' ob' L ob sel/\fI x=true/\Q x L ob) L0 ob0):awp df P n K [] c Q L0 ob0:=by
 intro m γ w a hi hl hs hd;refine wpIn_mono (h m γ w a hi hl hs hd) ?_;rintro e a1 w1 ⟨m1,γ1,L1,ob1,ax,⟨L,ob,sel,hv,hp,hq⟩,h2,h3,h4,h5,h6,h7,h8⟩;refine⟨m1,λk=>γ1 (bM sel ob1.length k),L,ob,ax,hq,?_,⟨h3.mem,h3.new,λk hk⟨o,C,ho⟩=>h3.gam k hk ⟨_,C,ho⟩,h3.os,h3.tape,h3.output,h3.size,h3.blk⟩,FW h4 hv.nodup hv.len hv.obs,?_,h6,h7.gam (λk⟨o,C,ho⟩=>⟨_,C,ho⟩),λo g ho hg=> ?_⟩
 ·exact afK hp (λ_ _ h=>h) h2
 ·intro t av e1;obtain⟨q1,q2⟩:=h5 t _ (hv.L5 t av e1);exact⟨q1,(eD av _).2 q2⟩
 ·show γ1 (bM sel ob1.length o)=some g;rw[e9 (hv.same o ho.1)];exact h8 o g ho hg
def pz(f:Nat->Nat):List (Option Ob)->lXE->Prop
 |[],[]=>True
 |some Y::SO,X::obs=>Told Y (X.ren f)/\pz f SO obs
 |_,_=>False
theorem sV{f:Nat->Nat}: ∀{SO:List (Option Ob)}{obs:lXE},pz f SO obs->SO.length=obs.length/\ ∀(i:Nat)(X:Ob),obs[i]? =some X-> ∃Y,SO[i]? =some (some Y)/\Told Y (X.ren f)
 |[],[],_=>⟨rfl,λi X h=>by simp at h⟩
 |some Y::SO,X::obs,h=>by
  obtain⟨k1,k2⟩:=sV h.2;refine⟨by simp[k1],λi Z hZ=> ?_⟩;cases i with
  |zero=>simp at hZ;subst hZ;exact⟨Y,rfl,h.1⟩
  |succ i=>simpa using k2 i Z (by simpa using hZ)
 |none::_,_::_,h=>h.elim
 |none::_,[],h=>h.elim
 |some _::_,[],h=>h.elim
 |[],_::_,h=>h.elim
theorem oF{f:FuncId}{argsC:lXF}{obc obc':lXE}{r:AV}(h:aY P f argsC obc [] r obc'){sel:lXC}{ob:lXE}(hn:sel.Nodup)(hsel:LL ob (bM sel ob.length) sel obc)(hlen:sel.length<=obc'.length):aY P f (bt (bM sel ob.length) argsC) ob [] (r.ren<|bM sel ob.length) (back ob sel [] obc'):=by
 obtain⟨hl,hget⟩:=sO hsel;refine⟨h.1,λm γ w vs hi hv=>(h.2 m _ w vs (ow hi hn hl hget)<|(cB _ _).2 hv).mono ?_⟩;rintro e w' ⟨m',γc,r',o',⟨rfl,rfl⟩,h2,h3,h4,h5⟩;obtain⟨γ',g1,g2,g3,g4⟩:=lO hi (kk:=[]) hn hl hget hlen oaj h3 h4 h5;refine⟨m',γ',_,_,⟨rfl,rfl⟩,?_,g2,g4,λo g hk hg=>g3.gam o g hg hk⟩;cases e with
 |returned v=>have h2':Rep m' γc r v:=h2;rw[<-show(λk=>γ'<|bM sel ob.length k)=γc from funext g1]at h2';exact(eD _ _).1 h2'
 |panicked c=>exact h2.elim
 |outgrown=>exact h2.elim
end
section
variable{P:Program}
variable{n:Nat}{callf:c9}{pu:FuncId->Bool}{lf:Nat}
end
section
variable{P:Program}{n K:Nat}{callf:c9}{pu:FuncId->Bool}{lf:Nat}
theorem BR{f:Nat->Nat}{Z:List (Option Ob)}{Z':lXE}(hz:pz f Z Z'): ∀{A A':lXE},A'.map (Ob.ren f)=A->pz f (A.map some++Z) (A'++Z')
 |[],[],_=>hz
 |a::A,a'::A',h=>by simp only[af9,ahg]at h;obtain⟨h1,h2⟩:=h;exact⟨h1▸ .same _,BR hz h2⟩
 |[],_::_,h=>by cases h
 |_::_,[],h=>by cases h
theorem Q2{f:Nat->Nat}{A A':lXE}(h:A'.map (Ob.ren f)=A):pz f (A.map some) A':=by have:=BR (f:=f) (Z:=[]) (Z':=[]) trivial h;simpa using this
def xg(P:Program)(n K:Nat)(L:Loc)(ob:lXE)(L':Loc)(ob':lXE):Prop:= ∀(df:Option Nat)(c:Code)(Q:ep),awp df P n K [] c Q L' ob' ->awp df P n K [] c Q L ob
def xg.trans{L L1 L2:Loc}{ob ob1 ob2:lXE}(h:xg P n K L ob L1 ob1)(k:xg P n K L1 ob1 L2 ob2):xg P n K L ob L2 ob2:=λdf c Q q=>h df c Q (k df c Q q)
def xi{c:Code}{L L1 L2:Loc}{ob ob1 ob2:lXE}{x:AX}(h:xg P n K L ob L1 ob1)(k:bo P n K c L1 ob1 x L2 ob2):bo P n K c L ob x L2 ob2:=λdf Q hd hq=>h df c Q (k df Q hd hq)
theorem Q3{L' L:Loc}{ob' ob:lXE}{sel:lXC}(hv:L8 K L' ob' L ob sel):xg P n K L' ob' L ob:=by
 intro df c Q h m γ w a hi hl hs hd;have hi2:=FW hi hv.nodup hv.len hv.obs;have hl2:b9 m (λk=>γ<|bM sel ob'.length k) a L:=λt av e=>by obtain⟨q1,q2⟩:=hl t _ (hv.L5 t av e);exact⟨q1,(eD av _).2 q2⟩
 refine wpIn_mono (h m _ w a hi2 hl2 hs hd) ?_;rintro e a1 w1 ⟨m1,γ1,L1,ob1,ax,h1,h2,h3,h4,h5,h6,h7,h8⟩;refine⟨m1,γ1,L1,ob1,ax,h1,h2,⟨h3.mem,λa x hx=> ?_,λk hk hg=> ?_,h3.os,h3.tape,h3.output,h3.size,λk hk hn=>h3.blk k hk λ⟨o,C,ho⟩=>hn ⟨_,C,ho⟩⟩,h4,h5,h6,h7,λo g ho hg=>h8 o g ho (by show γ (bM sel ob'.length o)=some g;rw[e9 (hv.same o ho.1)];exact hg)⟩
 ·rcases h3.new a x hx with h|h|⟨o,C,ho⟩
  ·exact .inl h
  ·exact .inr (.inl h)
  ·exact .inr (.inr ⟨_,C,ho⟩)
 ·obtain⟨o,C,ho⟩:=h3.gam k hk hg;exact⟨_,C,ho⟩
def Tj{L L':Loc}{ob ob2:lXE}{o:Nat}{X:Ob}(ho:ob[o]? =some X)(hX:(∃T S rows,X= .row T S rows)\/ ∃Tb cells,X= .box Tb cells)(hl:ob2.length=ob.length)(hob: ∀i Y Y',ob[i]? =some Y->ob2[i]? =some Y' ->Y' = .dead\/(i≠o/\xf o X Y Y'))(hL: ∀t av',lk L' t=some av' -> ∃av,lk L t=some av/\Frz o X av av'):xg P n K L ob L' ob2:=λ_ _ _ h=>aaz ho hX hl hob hL h
def Fin(P:Program)(fn:Func)(K:Nat)(R:sK->lXE->Prop)(c:Code)(L:Loc)(ob:lXE):Prop:=awp none P fn.ntmps K [] c (Bn P fn R) L ob
variable{fn:Func}{R:sK->lXE->Prop}
def Q4{a b:Code}{L L1:Loc}{ob ob1:lXE}(h:bo P fn.ntmps K a L ob .normal L1 ob1)(k:Fin P fn K R b L1 ob1):Fin P fn K R (.seq a b) L ob:=jg (h none _ (.inl rfl) k)
def Tk{c:Code}{L L1:Loc}{ob ob1:lXE}(h:xg P fn.ntmps K L ob L1 ob1)(k:Fin P fn K R c L1 ob1):Fin P fn K R c L ob:=h none c _ k
theorem BS{df:Option Nat}{ι:Type}{c:Code}{Q:ep}(hd:kL df c)(L:ι->Loc)(B:ι->lXE)(I:ι->Prop)(μ:ι->Nat)(round: ∀x,I x->(∃y,I y/\μ y<μ x/\bo P n K c (L x) (B x) .normal (L y) (B y))\/awp df P n K [] c (E8 (λ_ _=>False) Q) (L x) (B x))(x:ι)(hx:I x):awp df P n K [] (.loop c) Q (L x) (B x):=by
 refine ns L B I μ x hx (Sub.refl _) rfl λy hy=> ?_;rcases round y hy with⟨z,h1,h2,h3⟩|h
 ·exact h3 df _ hd ⟨z,h1,h2,Sub.refl _,rfl⟩
 ·refine vS h λax L' ob' q=> ?_;cases ax with
  |normal=>exact q.elim
  |_=>exact q
section
variable{id:Nat}{c:Code}
theorem xj{ι:Type}{L':Loc}{ob':lXE}(L:ι->Loc)(Bs:ι->lXE)(I:ι->Prop)(μ:ι->Nat)(x:ι)(hx:I x)(round: ∀x,I x->(∃y,I y/\μ y<μ x/\bo P n K c (L x) (Bs x) .normal (L y) (Bs y))\/bo P n K c (L x) (Bs x) (.exit id) L' ob'):bo P n K (.block id<|.loop c) (L x) (Bs x) .normal L' ob':=by
 intro df Q hd hq;have hd':kL df c:=hd.imp (λe=>e) λe=>by simpa only[Code.inR]using e
 exact et (BS hd' L Bs I μ (λy hy=>(round y hy).imp (λe=>e) λk=>k df _ hd'<|Fj (Q:=Q) hq) x hx)
section
variable{L L':Loc}{ob ob':lXE}
theorem nL(h:bo P n K c L ob .normal L' ob'):bo P n K (.block id c) L ob .normal L' ob':=λdf _ hd hq=>et (h df _ (hd.imp (λe=>e) λe=>by simpa only[Code.inR]using e) hq)
theorem Dn(h:bo P n K c L ob (.exit id) L' ob'):bo P n K (.block id c) L ob .normal L' ob':=λdf Q hd hq=>et (h df _ (hd.imp (λe=>e) λe=>by simpa only[Code.inR]using e)<|Fj (Q:=Q) hq)
end
end
theorem mI{a b:Code}{L L':Loc}{ob ob':lXE}{x:AX}(h:bo P n K a L ob x L' ob')(hx:x≠ .normal):bo P n K (.seq a b) L ob x L' ob':=λdf Q hd hq=>jg (h df _ (hd.imp (λe=>e) λe=>by simp only[Code.inR,afJ]at e;exact e.1)<|by
 cases x with
 |normal=>exact absurd rfl hx
 |_=>exact hq)
theorem FX{rest:Code}(hcf:cw P callf)(hm:P.follows .mixedOrders=true){hs:List Code}{args:lXF}{ob:lXE}(L':Loc)(ob':lXE){sel:lXC}{gd:List Gi}{ok:lXB}{N' lo:Nat}{SL:List (Option AV)}{SO:List (Option Ob)}(h:iM (L'.map (·.1)) sel (FV P fn.ntmps callf pu lf hs (jC 0 args .e) (dZ ob) ob.length ⟨lo,gd,[]⟩)=some (.normal,SL,SO,N',ok))(hok:cF ok=true)(hn:mG sel=true)(hK:(range K).all (λi=>sel[i]? ==some i)=true)(h2:ni (bM sel N') L'=SL)(h3:pz (bM sel N') SO ob')(k:Fin P fn K R rest L' ob'):Fin P fn K R (Th hs rest) (fi 0 args) ob:=by
 cases hr:FV P fn.ntmps callf pu lf hs (jC 0 args .e) (dZ ob) ob.length ⟨lo,gd,[]⟩with
 |fail=>rw[hr]at h;cases h
 |ok x1 M1 O1 N1 t1=>
  rw[hr]at h;simp only[iM,afM,af7]at h;obtain⟨rfl,q2,q3,rfl,rfl⟩:=h;refine(L7 hcf hm hs hr).2 hok (fi 0 args) ob (eM args) (fQ ob) K _ _ λL1 ob1 hM hO=> ?_;have hl1:ob1.length=N1:=hO.1;rw[<-q3]at h3;obtain⟨t1,t2⟩:=sV h3;exact Q3 ⟨ju hn,by simpa using t1,λi s X hi hX=>by
   obtain⟨Y,k1,k2⟩:=t2 i X hX;rw[afY,hi]at k1;simp only[af6,afM]at k1;exact⟨Y,by rw[<-hO.2];exact k1,by rw[hl1];exact k2⟩,λi hi=>by
   have:=agc.1 hK i (List.mem_range.2 hi);simpa using this,λt av e=>by
   rw[<-hM t,hl1];exact lV (q2.trans h2.symm) t av e⟩ none _ _ k
def kr{f:FuncId}{c:Code}{args:lXF}{ob ob':lXE}{r:AV}(hf:P.funcs[f]? =some fn)(hname:(fn.name== "runtime.NumGoroutine")=false)(hb:fn.body=some c)(hn:args.length<=fn.ntmps)(hl:ob.length<=ob'.length)(hr:r.und ob'.length=true)(hbl:ob'.all (Ob.und ob'.length)=true)(h:Fin P fn ob.length (λe o=>e= .ret r/\ ∃xs,o=ob'++xs) c (fi 0 args) ob):aY P f args ob [] r ob':=Fi hf hname hb hn hl hr hbl h
end
end Go.Am
namespace Go.Proofs.YtfkjfjalecikkaaGreat
open Go.Am
def mixed:Tryz.prog.follows .mixedOrders=true:=by kernel_rfl
end Go.Proofs.YtfkjfjalecikkaaGreat
namespace Go.Am
section
variable{f:Nat->Nat}{N:Nat}
mutual
theorem oG (hf: ∀i,i<N->f i=i): ∀av:AV,av.und N=true->av.ren f=av
 | .any,_=>by simp[AV.ren]
 | .v _,_=>by simp[AV.ren]
 | .sl _ rows,h=>by simp only[AV.und]at h;simp[AV.ren,ia hf rows h]
 | .ag cs,h=>by simp only[AV.und]at h;simp[AV.ren,eK hf cs h]
 | .tu cs,h=>by simp only[AV.und]at h;simp[AV.ren,eK hf cs h]
 | .pt o _,h=>by simp_all[AV.und,AV.ren]
 | .pf cs,h=>by simp only[AV.und]at h;simp[AV.ren,eK hf cs h]
 | .sr o _ _ _,h=>by simp_all[AV.und,AV.ren]
 | .fn _ fs cs,h=>by simp only[AV.und,afJ]at h;simp[AV.ren,eK hf fs h.1,eK hf cs h.2]
 | .ifc _ y,h=>by simp only[AV.und]at h;simp[AV.ren,oG hf y h]
 | .mp o,h=>by simp_all[AV.und,AV.ren]
 | .yl o,h=>by simp_all[AV.und,AV.ren]
 | .cl _ rows,h=>by simp only[AV.und]at h;simp[AV.ren,ia hf rows h]
theorem eK (hf: ∀i,i<N->f i=i): ∀cs:lXF,bx N cs=true->bt f cs=cs
 |[],_=>by simp[bt]
 |c::cs,h=>by simp only[bx,afJ]at h;simp[bt,oG hf c h.1,eK hf cs h.2]
theorem ia (hf: ∀i,i<N->f i=i): ∀rows:List lXF,dw N rows=true->de f rows=rows
 |[],_=>by simp[de]
 |r::rs,h=>by simp only[dw,afJ]at h;simp[de,eK hf r h.1,ia hf rs h.2]
end
theorem sW(hf: ∀i,i<N->f i=i): ∀X:Ob,X.und N=true->X.ren f=X
 | .dead,_=>rfl
 | .box _ cs,h=>by grind[Ob.und,Ob.ren,eK]
 | .row _ _ rows,h=>by grind[Ob.und,Ob.ren,ia]
 | .mp _ vals,h=>by grind[Ob.und,Ob.ren,eK]
 | .lp _ _ _ cs,h=>by grind[Ob.und,Ob.ren,eK]
end
section
variable(cs:lXF)
def aI:List lXF:=cs.map λc=>[c]
theorem xk:(aI cs).flatten=cs:=by
 induction cs with
 |nil=>rfl
 |cons c cs ih=>grind[aI]
theorem ib:(aI cs).length=cs.length:=by simp[aI]
theorem Q5: ∀r∈aI cs,r.length=1:=by intro r hr;obtain⟨c,_,rfl⟩:=agm.1 hr;rfl
theorem Q6(j:Nat)(c:AV):(aI cs).set j [c]=aI (cs.set j c):=by simp[aI,List.map_set]
end
theorem ej(f:Nat->Nat)(cs:lXF):de f (aI cs)=aI (bt f cs):=by
 induction cs with
 |nil=>rfl
 |cons c cs ih=>grind[aI,de,bt]
def vs(xs:List Value):lXF:=xs.map .v
theorem mJ(f:Nat->Nat)(xs:List Value):bt f (vs xs)=vs xs:=by
 induction xs with
 |nil=>rfl
 |cons x xs ih=>grind[vs,bt,AV.ren]
def dX(o:Nat):List (List Value)->lXF
 |[]=>[]
 |R::Rs=> .sr o 1 0 R.length::dX (o+1) Rs
theorem dU: ∀(o:Nat)(Rs:List (List Value)),(dX o Rs).length=Rs.length
 |_,[]=>rfl
 |o,R::Rs=>by simp[dX,dU (o+1) Rs]
theorem gD: ∀(o:Nat)(Rs:List (List Value))(i:Nat),(dX o Rs)[i]? =(Rs[i]?).map λR=> .sr (o+i) 1 0 R.length
 |_,[],i=>by simp[dX]
 |o,R::Rs,0=>by simp[dX]
 |o,R::Rs,i+1=>by simp only[dX,List.getElem?_cons_succ];rw[gD (o+1) Rs i,show o+1+i=o+(i+1) by omega]
def inner(Ti:TypeId)(R:List Value):Ob:= .row Ti 1 (aI<|vs R)
theorem jZ(f:Nat->Nat)(Ti:TypeId)(R:List Value):(inner Ti R).ren f=inner Ti R:=by grind[inner,Ob.ren,ej,mJ]
section
variable(o:Nat)(T Ti:TypeId)(Rs:List (List Value))
def cE:lXE:= .row T 1 (aI<|dX (o+1) Rs)::Rs.map (inner Ti)
theorem sX:(cE o T Ti Rs).length=Rs.length+1:=by simp[cE]
end
def nj(o:Nat)(T Ti:TypeId)(j:Nat)(xs:List Value)(R:List Value):lXE:=[.row T 1 (aI<|(vs xs).set j<|.sr (o+1) 1 0 R.length),inner Ti R]
theorem FY{f:Nat->Nat}{N:Nat}(hf: ∀i,i<N->f i=i){L:Loc}(hu:L.all (λp=>p.2.und N)=true){t:Nat}{av:AV}(h:lk L t=some av):av.ren f=av:=by
 induction L with
 |nil=>simp[lk]at h
 |cons p L ih=>grind[dP,oG]
def gm{m:Mem}{γ:Gam}{w:World}{o:Nat}{T:TypeId}{cs:lXF}(h:iL m γ w o (.row T 1<|aI cs))(h0:0<cs.length):∃xs,aB m γ cs xs/\ ∀cs',aB m γ cs' xs->iL m γ w o (.row T 1<|aI cs'):=by
 rcases h with⟨_,h2⟩|⟨b,C,vals,h1,h2,h3,h4,h5,h6,h7,h8⟩
 ·have:=af1 length h2;simp[aI]at this;rw[this]at h0;simp at h0
 ·rw[xk]at h7;refine⟨_,h7,λcs' h=> .inr ⟨b,C,vals,h1,h2,h3,?_,h5,Q5 cs',?_,h8⟩⟩
  ·have e1:=aX h;have e2:=aX h7;rw[ib]at h4⊢;omega
  ·have e1:=aX h;have e2:=aX h7;rw[xk,ib];rw[ib]at h;rw[show cs'.length=cs.length by omega];exact h
theorem fG(f:Nat->Nat): ∀(cs:lXF)(j:Nat)(c:AV),bt f (cs.set j c)=(bt f cs).set j (c.ren f)
 |[],_,_=>rfl
 |_::_,0,_=>rfl
 |x::cs,j+1,c=>by simp only[List.set_cons_succ,bt,fG f cs j c]
theorem Jf(ks:lXC)(R:List Value):(aI<|vs R).map (λr=>r.map<|jr ks)=aI (vs R):=by
 induction R with
 |nil=>rfl
 |cons x R ih=>simp only[aI,vs,af9,agM]at ih⊢;rw[ih];rfl
theorem pW(ks:lXC)(Ti:TypeId)(R:List Value):mr ks (inner Ti R)=inner Ti R:=by simp only[inner,mr,Jf]
theorem oH(k j i:Nat):(range (k+1)++ [k+1+j])[i]? =if i<k+1 then some i else if i=k+1 then some (k+1+j)else none:=by grind
theorem dy{A:lXE}{X:Ob}{B:lXE}{i:Nat}:(A++X::B)[i]? =if i<A.length then A[i]? else if i=A.length then some X else B[i-(A.length+1)]? :=by grind
section
variable{P:Program}{n K:Nat}
set_option maxHeartbeats 1000000 in
theorem Jg {c:Code} {L L':Loc} {base base':lXE} {T Ti:TypeId} {Rs:List (List Value)} {j:Nat} {Rj R':List Value} {x:AX} (hj:Rs[j]? =some Rj) (hb:base'.length=base.length) (hK:K<=base.length+1) (hrf:c.rf=false) (hx:fI x=true)
  (uL:L.all (λp=>p.2.und<|base.length+1)=true) (uL':L'.all (λp=>p.2.und<|base.length+1)=true) (ub:base.all (Ob.und<|base.length+1)=true) (ub':base'.all (Ob.und<|base.length+1)=true) (nd: ∀X∈base,X≠ .dead)
  (h: ∀xs:List Value,xs.length=Rs.length->bo P n (base.length+1) c L (base++nj base.length T Ti j xs Rj) x L' (base'++nj base.length T Ti j xs R')):
  bo P n K c L (base++cE base.length T Ti Rs) x L' (base'++cE base.length T Ti (Rs.set j R')):=by
 intro df Q hd hq m γ w a hi hl hs ht;have hjl:j<Rs.length:=(afR.1 hj).1;generalize hk:base.length=k at*;have hout:(base++cE k T Ti Rs)[k]? =some (.row T 1<|aI<|dX (k+1) Rs):=by rw[cE,dy,hk];simp
 obtain⟨xs,hxs,hre⟩:=gm (hi.obj k _ hout) (by rw[dU];omega);have hxl:xs.length=Rs.length:=by rw[aX hxs,dU]
 have hxr: ∀(i:Nat) R x,Rs[i]? =some R->xs[i]? =some x->Rep m γ (.sr (k+1+i) 1 0 R.length) x:=λi R x hR hx=>by obtain⟨y,hy,hr⟩:=cd hxs i (.sr (k+1+i) 1 0 R.length) (by rw[gD,hR];rfl);rw[hx]at hy;cases hy;exact hr
 have hcell:aB m γ ((vs xs).set j<|.sr (k+1+j) 1 0 Rj.length) xs:=by
  refine dj (by simp[vs]) λi c y hc hy=> ?_;by_cases hij:j=i
  ·subst hij;rw[agi oaQ]at hc;cases hc;exact hxr j Rj y hj hy
  ·rw[af5 hij]at hc;rw[vs,afY,hy]at hc;cases hc;simp[Rep]
 let out2:Ob:= .row T 1 (aI<|(vs xs).set j<|.sr (k+1+j) 1 0 Rj.length);let ob2:lXE:=base++out2::Rs.map (inner Ti);have hlen2:ob2.length=k+1+Rs.length:=by simp[ob2,hk];omega
 have hlen1:(base++cE k T Ti Rs).length=k+1+Rs.length:=by simp[cE,hk];omega
 have hi2:Inv m γ ob2 w:=by
  refine lW hi (by rw[hlen2,hlen1]) λi Y hY=> ?_;by_cases hd:Y= .dead
  ·exact .inl hd
  ·right;by_cases hik:i=k
   ·subst hik;rw[dy,hk]at hY;simp at hY;subst hY;exact⟨⟨_,hout,by simp⟩,hre _ hcell⟩
   ·have e:(base++cE k T Ti Rs)[i]? =some Y:=by rw[<-hY];simp only[cE,ob2];rw[dy,dy,hk,if_neg hik,if_neg hik]
    exact⟨⟨Y,e,hd⟩,hi.obj i Y e⟩
 let sel:=range (k+1)++ [k+1+j];have hsl:sel.length=k+2:=by simp[sel]
 have hnd:sel.Nodup:=by refine List.nodup_append.2 ⟨List.nodup_range,by simp,λa ha b hb e=> ?_⟩;simp at ha hb;omega
 have fid: ∀i,i<k+1->bM sel ob2.length i=i:=λi hi=>e9 (by simp only[sel];rw[oH,if_pos hi]);have f1:bM sel ob2.length (k+1)=k+1+j:=e9 (by simp only[sel];rw[oH,if_neg oaa,if_pos rfl]);have hsel: ∀(i s:Nat)(X:Ob),sel[i]? =some s->(base++nj k T Ti j xs Rj)[i]? =some X->ob2[s]? =some (X.ren<|bM sel ob2.length)/\X≠ .dead:=by
  intro i s X h1 h2;simp only[sel]at h1;rw[oH]at h1;rw[nj,dy,hk]at h2;by_cases hik:i<k
  ·rw[if_pos oaa]at h1;rw[if_pos hik]at h2;cases h1;have hX:=agy h2;refine⟨?_,nd X hX⟩;rw[sW fid X (agc.1 ub X hX)];simp only[ob2];rw[dy,hk,if_pos hik];exact h2
  ·rw[if_neg hik]at h2;by_cases hie:i=k
   ·subst hie;rw[if_pos oaa]at h1;rw[if_pos rfl]at h2;cases h1;cases h2;refine⟨?_,by simp⟩;have e2:ob2[i]? =some out2:=by simp only[ob2];rw[dy,hk,if_neg oaa,if_pos rfl]
    rw[e2];simp only[Ob.ren,ej,fG,mJ,AV.ren,f1,out2]
   ·rw[if_neg oaa]at h1;rw[if_neg hie]at h2;split at h1
    ·rename_i h3;subst h3;cases h1;simp at h2;subst h2;refine⟨?_,by simp[inner]⟩;rw[jZ];simp only[ob2];rw[dy,hk,if_neg oaa,if_neg oaa,show k+1+j-(k+1)=j by omega,afY,hj];rfl
    ·cases h1
 have hisel:=ow hi2 hnd (by rw[hsl];simp[nj,hk]) hsel;have hlS:b9 m (λi=>γ<|bM sel ob2.length i) a L:=λt av e=>by obtain⟨q1,q2⟩:=hl t av e;refine⟨q1,(eD av _).2 ?_⟩;rw[FY fid uL e];exact q2
 refine wpIn_mono (h xs hxl df (λx1 L1 ob1=>x1=x/\L1=L'/\ob1=base'++nj k T Ti j xs R') hd ⟨rfl,rfl,rfl⟩ m _ w a hisel hlS hs ht) ?_;rintro e a1 w1 ⟨m1,γ1,L1,ob1,ax,⟨rfl,rfl,rfl⟩,h2,h3,h4,h5,h6,h7,h8⟩;have hl1:(base'++nj k T Ti j xs R').length=k+2:=by simp[nj,hb]
 obtain⟨γ',g1,g2,g3,g4⟩:=lO hi2 (kk:=[k+1]) hnd (by rw[hsl];simp[nj,hk]) hsel (by rw[hsl,hl1];exact afP _) (by rw[hsl];simp) h3 h4 (λo g ho hg=>by
  by_cases hok:o<k+1
  ·exact h8 o g ⟨hok,rfl⟩ hg
  ·have ho2:o≠k+1:=by intro e;subst e;simp at ho
   exfalso;have:=hi2.len _ (show γ (bM sel ob2.length o)≠none by rw[hg];simp);rw[kN (by rw[hsl];omega)]at this;omega)
 let out3:Ob:= .row T 1 (aI<|(vs xs).set j<|.sr (k+1+j) 1 0 R'.length);have hs1: ∀s∈sel,s<(eu ([k+1].map<|bM sel ob2.length) ob2).length:=by
  intro s hs;rw[fB,hlen2];rcases agH.1 hs with hs|hs
  ·have:=List.mem_range.1 hs;omega
  ·simp at hs;omega
 have hback:back ob2 sel [k+1] (base'++nj k T Ti j xs R')=base'++out3::(Rs.set j R').map (inner Ti):=by
  obtain⟨sg1,sg2⟩:=mw (ob:=eu ([k+1].map<|bM sel ob2.length) ob2) (obc:=((base'++nj k T Ti j xs R').take sel.length).map<|Ob.ren<|bM sel ob2.length) hnd (by rw[afW,agw,hl1,hsl];simp) hs1;have hlen3:(gH (eu ([k+1].map<|bM sel ob2.length) ob2) sel<|((base'++nj k T Ti j xs R').take sel.length).map<|Ob.ren<|bM sel ob2.length).length=k+1+Rs.length:=by rw[jh,fB,hlen2]
  unfold back;rw[List.drop_eq_nil_of_le (by rw[hl1,hsl];exact afP _),agM,agA];have hlen4:(base'++out3::(Rs.set j R').map (inner Ti)).length=k+1+Rs.length:=by simp[hb];omega
  have htk:(base'++nj k T Ti j xs R').take sel.length=base'++nj k T Ti j xs R':=agv (by rw[hl1,hsl];exact afP _);rw[htk]at sg1 sg2⊢;have hget3: ∀i,(base'++nj k T Ti j xs R')[i]? =if i<k then base'[i]? else if i=k then some (.row T 1<|aI<|(vs xs).set j<|.sr (k+1) 1 0 R'.length)else [inner Ti R'][i-(k+1)]? :=λi=>by rw[nj,dy,hb]
  apply agd;intro i;rw[dy,hb];by_cases hik:i<k
  ·rw[if_pos hik];have e1:base'[i]? =some (base'[i]'oaa):=af0 oaa;have hX:=agy e1;refine(sg1 i i ((base'[i]'oaa).ren<|bM sel ob2.length) (by simp only[sel];rw[oH,if_pos oaa])<|by rw[afY,hget3,if_pos hik,e1];rfl).trans ?_;rw[sW fid _ (agc.1 ub' _ hX),e1]
  ·rw[if_neg hik];by_cases hie:i=k
   ·rw[if_pos hie];subst hie;refine(sg1 i i out3 (by simp only[sel];rw[oH,if_pos oaa]) ?_);rw[afY,hget3,if_neg hik,if_pos rfl];simp only[af6,Ob.ren,ej,fG,mJ,AV.ren,f1,out3]
   ·rw[if_neg hie];by_cases hij:i=k+1+j
    ·subst hij;refine(sg1 (k+1) (k+1+j) (inner Ti R') (by simp only[sel];rw[oH,if_neg oaa,if_pos rfl]) ?_).trans ?_
     ·rw[afY,hget3,if_neg oaa,if_neg oaa];simp[jZ]
     ·rw[show k+1+j-(k+1)=j by omega,afY,agi hjl];rfl
    ·rw[sg2 i (by
      intro hm;rcases agH.1 hm with hm|hm
      ·have:=List.mem_range.1 hm;omega
      ·simp at hm;exact hij hm)]
     rw[kO];simp only[af9,agM,ob2];rw[dy,hk,if_neg hik,if_neg hie,afY,afY,af5 oaa];cases Rs[i-(k+1)]? with
     |none=>rfl
     |some R=>simp only[af6,pW]
 rw[hback]at g4;have hout3:(base'++out3::(Rs.set j R').map (inner Ti))[k]? =some out3:=by rw[dy,hb];simp
 obtain⟨ys,hys,hre3⟩:=gm (g4.obj k _ hout3) oaQ;have hyl:ys.length=Rs.length:=by rw[aX hys];simp[vs,hxl]
 have hcell3:aB m1 γ' (dX (k+1)<|Rs.set j R') ys:=by
  refine dj (by rw[dU,age,hyl]) λi c y hc hy=> ?_;rw[gD]at hc;by_cases hij:j=i
  ·subst hij;rw[agi hjl]at hc;cases hc;obtain⟨z,hz,hr⟩:=cd hys j (.sr (k+1+j) 1 0 R'.length) (agi oaQ);rw[hy]at hz;cases hz;exact hr
  ·rw[af5 hij]at hc;cases hR:Rs[i]? with
   |none=>rw[hR]at hc;cases hc
   |some R=>
    rw[hR]at hc;cases hc;have hil:i<Rs.length:=(afR.1 hR).1;have e1:xs[i]? =some (xs[i]'oaa):=af0 oaa;obtain⟨z,hz,hr⟩:=cd hys i (.v<|xs[i]'oaa) (by rw[af5 hij,vs,afY,e1];rfl);rw[hy]at hz;cases hz;have hr':y=xs[i]'oaa:=by simpa [Rep]using hr
    subst hr';refine gg g3 _ _ ?_ (hxr i R _ hR e1);simp only[af9,agM,f1,AV.free];simp;omega
 have hfin:Inv m1 γ' (base'++cE k T Ti (Rs.set j R')) w1:=by
  refine lW g4 (by simp[cE]) λi Y hY=> ?_;by_cases hd:Y= .dead
  ·exact .inl hd
  ·right;by_cases hik:i=k
   ·subst hik;rw[cE,dy,hb]at hY;simp at hY;subst hY;exact⟨⟨_,hout3,by simp[out3]⟩,hre3 _ hcell3⟩
   ·have e:(base'++out3::(Rs.set j R').map (inner Ti))[i]? =some Y:=by rw[<-hY];simp only[cE];rw[dy,dy,hb,if_neg hik,if_neg hik]
    exact⟨⟨Y,e,hd⟩,g4.obj i Y e⟩
 obtain⟨Ds,d1,d2,_,_⟩:=h7;have hDs:Ds=[]:=by
  rcases d2 with d2|d2
  ·rw[hrf]at d2;cases d2
  ·exact d2
 subst hDs;refine⟨m1,γ',_,_,_,hq,?_,g2,hfin,λt av e1=> ?_,h6,Marks.of_eq (by simpa using d1),λo g ho hg=> ?_⟩
 ·exact afK hx (λ_ _ h=>h) h2
 ·obtain⟨q1,q2⟩:=h5 t av e1;refine⟨q1,?_⟩;have q3:=(eD (m:=m1) (γ:=γ') (f:=bM sel ob2.length) av _).1 (by rw[show(λi=>γ'<|bM sel ob2.length i)=γ1 from funext g1];exact q2);rw[FY fid uL' e1]at q3;exact q3
 ·refine g3.gam o g hg ?_;have:=ho.1;simp only[af9,agM,f1];simp;omega
theorem L9{L L':Loc}{ob ob':lXE}(h: ∀m γ w,Inv m γ ob w-> ∃m' γ',Trans m γ w m' γ' w/\Inv m' γ' ob' w/\(∀o,o<K->γ' o=γ o)/\(∀a,b9 m γ a L->b9 m' γ' a L')):xg P n K L ob L' ob':=by intro df c Q hq m γ w a hi hl hs hd;obtain⟨m',γ',t1,i1,g1,l1⟩:=h m γ w hi;refine wpIn_mono (hq m' γ' w a i1 (l1 a hl) hs hd) ?_;rintro e a1 w1 ⟨m1,γ1,L1,ob1,ax,h1,h2,h3,h4,h5,h6,h7,h8⟩;exact⟨m1,γ1,L1,ob1,ax,h1,h2,t1.trans h3,h4,h5,h6,h7,λo g ho hg=>h8 o g ho (by rw[g1 o ho.1];exact hg)⟩
theorem Jh{L:Loc}{base:lXE}{T:TypeId}(Ti:TypeId){N:Nat}(hK:K<=base.length+1):xg P n K L (base++ [.row T 1 (aI<|replicate N<|.v<|.slice none 0 0)]) L (base++cE base.length T Ti (replicate N [])):=by
 refine L9 λm γ w hi=> ?_;generalize hk:base.length=k at*;let γ':Gam:=λo=>if o<k+1 then γ o else if o<k+1+N then some none else none
 have hlen:(base++ [Ob.row T 1 (aI<|replicate N<|.v<|.slice none 0 0)]).length=k+1:=by simp[hk]
 have hnone: ∀o,¬o<k+1->γ o=none:=λo ho=>by
  cases hg:γ o with
  |none=>rfl
  |some g=>have:=hi.len o oaL;rw[hlen]at this;omega
 have hle:Le m γ [] m γ':=⟨λ_ _ h=>h,λo g hg _=>by
  by_cases ho:o<k+1
  ·simp only[γ',if_pos ho];exact hg
  ·rw[hnone o ho]at hg;cases hg⟩
 have hback: ∀o b C,γ' o=some (some (b,C))->γ o=some (some (b,C))/\o<k+1:=λo b C hg=>by
  by_cases ho:o<k+1
  ·simp only[γ',if_pos ho]at hg;exact⟨hg,ho⟩
  ·simp only[γ',if_neg ho]at hg;split at hg<;>cases hg
 have hout:(base++ [Ob.row T 1 (aI<|replicate N<|.v<|.slice none 0 0)])[k]? =some (.row T 1<|aI<|replicate N<|.v<|.slice none 0 0):=by rw[dy,hk];simp
 have hnest: ∀o Y,(base++cE k T Ti (replicate N []))[o]? =some Y->(o<k/\base[o]? =some Y)\/(o=k/\Y= .row T 1 (aI<|dX (k+1)<|replicate N []))\/(k<o/\o<k+1+N/\Y=inner Ti []):=by
  intro o Y hY;rw[cE,dy,hk]at hY;split at hY
  ·exact .inl ⟨by assumption,hY⟩
  ·split at hY
   ·cases hY;exact .inr (.inl ⟨by assumption,rfl⟩)
   ·rw[afY,ago]at hY;split at hY
    ·cases hY;exact .inr (.inr ⟨by omega,by omega,rfl⟩)
    ·cases hY
 have hrow:iL m γ' w k (.row T 1<|aI<|dX (k+1)<|replicate N []):=by
  have h0:=fP (hi.obj k _ hout) hle (λ_ _ _=>rfl) (λ_ _ _ _ h=>h);by_cases hN:N=0
  ·subst hN;exact h0
  ·obtain⟨xs,hxs,hre⟩:=gm h0 oaA;refine hre _ (dj (by rw[aX hxs,dU];simp) λi c x hc hx=> ?_);rw[gD,ago]at hc;split at hc
   ·rename_i hiN;cases hc;obtain⟨y,hy,hr⟩:=cd hxs i (.v<|.slice none 0 0) (by rw[ago,if_pos hiN]);rw[hx]at hy;cases hy;have hxe:x= .slice none 0 0:=by simpa [Rep]using hr
    subst hxe;simp only[Rep];exact .inl ⟨by simp only[γ'];rw[if_neg oaa,if_pos oaa],⟨none,rfl⟩,trivial,rfl⟩
   ·cases hc
 refine⟨m,γ',⟨λ_ _ h=>h,λ_ _ h=> .inl h,λq _⟨o,C,h⟩=>⟨o,C,(hback o q C h).1⟩,rfl,rfl,rfl,afP _,λ_ _ _=>rfl⟩,⟨hi.mem,λo Y hY=> ?_,λo o' b C C' l1 l2 h1 h2=> ?_,λo b C h=>hi.dom o b C (hback o b C h).1,λo h=> ?_⟩,λo ho=> ?_,λa hl t av e=>⟨(hl t av e).1,vd hle (hl t av e).2⟩⟩
 ·rcases hnest o Y hY with⟨h1,h2⟩|⟨rfl,rfl⟩|⟨h1,h2,rfl⟩
  ·refine fP (hi.obj o Y ?_) hle (λ_ _ _=>rfl) (λ_ _ _ _ h=>h);rw[dy,hk,if_pos h1];exact h2
  ·exact hrow
  ·exact .inl ⟨by simp only[γ'];rw[if_neg oaa,if_pos h2],rfl⟩
 ·have hlv: ∀o b C,γ' o=some (some (b,C))->live (base++cE k T Ti (replicate N [])) o->live (base++ [Ob.row T 1 (aI<|replicate N<|.v<|.slice none 0 0)]) o:=by
   rintro o b C hg ⟨Y,hY,hne⟩;have ho:=(hback o b C hg).2;rcases hnest o Y hY with⟨h1,h2⟩|⟨rfl,rfl⟩|⟨h1,h2,rfl⟩
   ·exact⟨Y,by rw[dy,hk,if_pos h1];exact h2,hne⟩
   ·exact⟨_,hout,by simp⟩
   ·omega
  exact hi.sep o o' b C C' (hlv o b C h1 l1) (hlv o' b C' h2 l2) (hback o b C h1).1 (hback o' b C' h2).1
 ·rw[afQ,sX,hk,agY];by_cases h1:o<k+1
  ·omega
  ·simp only[γ',if_neg h1]at h;split at h
   ·omega
   ·exact absurd rfl h
 ·simp only[γ'];rw[if_pos oaa]
def jI(Rs:List (List Value)):lXF:=Rs.map λR=> .sl 1 (aI<|vs R)
theorem Tl{m:Mem}{γ:Gam}{o:Nat}{cs:lXF}(h:(γ o=some none/\aI cs=[])\/ ∃b C,γ o=some (some (b,C))/\(aI cs).length<=C/\bP m γ 1 (aI cs) b 0){x:Value}(hx:Rep m γ (.sr o 1 0 cs.length) x):Rep m γ (.sl 1<|aI cs) x:=by grind[Rep,ib]
theorem BT{m:Mem}{γ:Gam}: ∀{cs cs':lXF}{b off:Nat},cs'.length=cs.length->(∀(i:Nat)(c c':AV)(x:Value),cs[i]? =some c->cs'[i]? =some c' ->Rep m γ c x->Rep m γ c' x)->bP m γ 1 (aI cs) b off->bP m γ 1 (aI cs') b off
 |[],[],_,_,_,_,h=>h
 |[],_::_,_,_,hl,_,_=>by simp at hl
 |_::_,[],_,_,hl,_,_=>by simp at hl
 |c::cs,c'::cs',b,off,hl,hc,h=>by simp only[aI,af9,bP,bK]at h⊢;obtain⟨h1,⟨⟨x,h2,h3⟩,_⟩,h4⟩:=h;exact⟨rfl,⟨⟨x,h2,hc 0 c c' x rfl rfl h3⟩,trivial⟩,BT (cs:=cs) (cs':=cs') oaZ (λi d d' y e1 e2=>hc (i+1) d d' y (by simpa using e1)<|by simpa using e2) h4⟩
theorem Q7{L L':Loc}{base:lXE}{T Ti:TypeId}{Rs:List (List Value)}(hK:K<=base.length)(ub:base.all (Ob.und base.length)=true)(hL: ∀t av',lk L' t=some av' ->(lk L t=some av'/\av'.und base.length=true)\/(lk L t=some (.sr base.length 1 0 Rs.length)/\av' = .sl 1 (aI<|jI Rs)))(m:Mem)(γ:Gam)(w:World)(hi:Inv m γ (base++cE base.length T Ti Rs) w):∃m' γ',Trans m γ w m' γ' w/\Inv m' γ' base w/\(∀o,o<K->γ' o=γ o)/\(∀k,InG γ' k->InG γ k)/\(∀a,b9 m γ a L->b9 m' γ' a L'):=by
 obtain⟨m',hf,hi',ht⟩:=lA hi base.length (Rs.length+1);obtain⟨ys,hys⟩:=wA (K:=base.length) (obs:=base++cE base.length T Ti Rs) (ob:=base) oaj (Rs.length+1);rw[hys]at hi';obtain⟨d1,d2⟩:=nD hi' ub;have hout:(base++cE base.length T Ti Rs)[base.length]? =some (.row T 1<|aI<|dX (base.length+1) Rs):=by rw[cE,dy];simp
 have hin: ∀i R,Rs[i]? =some R->(base++cE base.length T Ti Rs)[base.length+1+i]? =some (inner Ti R):=λi R h=>by rw[cE,dy,if_neg oaa,if_neg oaa,show base.length+1+i-(base.length+1)=i by omega,afY,h];rfl
 refine⟨m',λo=>if o<base.length then γ o else none,⟨ht.mem,ht.new,λq hq⟨o,C,h⟩=> ?_,rfl,rfl,rfl,afP _,λ_ _ _=>rfl⟩,d1,λo ho=>by simp;omega,λq⟨o,C,h⟩=> ?_,λa hl t av' e=> ?_⟩
 ·simp only at h;split at h
  ·exact⟨o,C,h⟩
  ·cases h
 ·simp only at h;split at h
  ·exact⟨o,C,h⟩
  ·cases h
 ·rcases hL t av' e with⟨h1,h2⟩|⟨h1,rfl⟩
  ·obtain⟨q1,q2⟩:=hl t _ h1;exact⟨q1,d2 _ _ h2 (vd hf.le q2)⟩
  ·obtain⟨q1,q2⟩:=hl t _ h1;refine⟨q1,d2 _ _ (aT _ _ ?_) ?_⟩
   ·simp only[AV.pure];clear hL hin hout hf hi' hys hi d1 d2 h1 q1 q2 e;induction Rs with
    |nil=>rfl
    |cons R Rs ih=>
     have hp:ak (aI<|vs R)=true:=by
      induction R with
      |nil=>rfl
      |cons x R ih=>simp only[aI,vs,af9,ak,aj,AV.pure,agQ,ags]at ih⊢;exact ih
     simp only[aI,jI,af9,ak,aj,AV.pure,Bool.and_true,afJ]at ih hp⊢;exact⟨hp,ih⟩
   ·have hx:=vd hf.le q2;have h0:=hf.row base.length T 1 _ (afP _) oaa hout;have hx1:Rep m' γ (.sl 1<|aI<|dX (base.length+1) Rs) (a.tmps.getD t undef):=Tl h0 (by rw[dU];exact hx);simp only[Rep]at hx1⊢;obtain⟨ad,len,cap,e1,e2,e3,e4⟩:=hx1;refine⟨ad,len,cap,e1,by rw[e2,ib,ib,dU];simp[jI],e3,?_⟩;rcases e4 with e4|⟨b,off,e5,e6⟩
    ·left;have:=af1 length e4;rw[ib,dU]at this;have hRs:Rs=[]:=List.length_eq_zero_iff.1 (by simpa using this);subst hRs;rfl
    ·right;refine⟨b,off,e5,BT (by rw[dU];simp[jI]) (λi c c' x hc hc' hr=> ?_) e6⟩;rw[gD]at hc;cases hR:Rs[i]? with
     |none=>rw[hR]at hc;cases hc
     |some R=>rw[hR]at hc;cases hc;rw[jI,afY,hR]at hc';cases hc';have hil:i<Rs.length:=(afR.1 hR).1;refine Tl (hf.row (base.length+1+i) Ti 1 _ oaa oaa<|hin i R hR) ?_;rw[show(vs R).length=R.length by simp[vs]];exact hr
end
section
variable{P:Program}
end
def ac{b:Bool}{l:lXB}(h:b=true)(k:cF l=true):cF (b::l)=true:=by simp only[cF,h,k,agQ]
def au{b:Bool}(h:b=false):(!b)=true:=by rw[h];rfl
section
variable{α:Type}[Inhabited α]
def aF(l:List α)(s:Int):α:=(l[s.toNat]?).getD default
def ae(l:List α)(i:Nat):α:=(l[i]?).getD default
section
variable{l:List α}
theorem fC{i:Nat}(h:i<l.length):l[i]? =some (ae l i):=by simp[ae,h]
theorem Tm{s:Int}(h0:0<=s)(h:s<l.length):l[s.toNat]? =some (aF l s):=by simp_all[aF]
theorem FZ{f:α->lXF}{s:Int}(h0:decide (s>=0)=true)(h:decide (s<(((l.map f).length:Nat):Int))=true):(dec (s=((s.toNat:Nat):Int))&&dec ((l.map f)[s.toNat]? =some (f<|aF l s)))=true:=by grind[aR,Tm]
theorem qS{f:α->lXF}{i:Nat}(h:i<l.length):dec ((l.map f)[i]? =some (f<|ae l i))=true:=aR.2 (by rw[afY,fC h];rfl)
end
end
section
variable{P:Program}{fn:Func}{callf:c9}{pu:FuncId->Bool}{lf:Nat}
end
def Tn{f:Nat->Nat}{N:Nat}(hf: ∀i,i<N->f i=i){A:lXE}(h:A.all (Ob.und N)=true):pz f (A.map some) A:=Q2 (by
 induction A with
 |nil=>rfl
 |cons X A ih=>grind[sW])
theorem bj{α:Type}{f:α->lXF}(hf: ∀x,aj (f x)=true)(N:Nat)(l:List α):dw N (l.map f)=true:=by
 induction l with
 |nil=>rfl
 |cons x l ih=>grind[dw,ei]
theorem bc{α:Type}{f:α->lXF}(hf: ∀x,aj (f x)=true)(l:List α):ak (l.map f)=true:=by
 induction l with
 |nil=>rfl
 |cons x l ih=>grind[ak]
def Ji(k N:Nat): ∀i,i<k->bM (range k) N i=i:=λi hi=>e9 (by rw[List.getElem?_range hi])
def dh(s:ByteArray)(i:Nat):Int:=((s[i]?).getD 0).toNat
end Go.Am
namespace Go.Proofs.YtfkjfjalecikkaaGreat
open Go.Am
noncomputable def aG(f:Nat):Code:=match Tryz.prog.funcs[f]? with
 |some fn=>match fn.body with
  |some c=>c
  |none=> .skip
 |none=> .skip
def sq1:Code->Code
 | .seq a _=>a
 |c=>c
def sq2:Code->Code
 | .seq _ b=>b
 |c=>c
def inn:Code->Code
 | .block _ (.loop c)=>c
 |c=>c
abbrev I(z:Int):AV:= .v (.int .i64 z)
abbrev I8(z:Int):AV:= .v (.int .i8 z)
abbrev I32(z:Int):AV:= .v (.int .i32 z)
abbrev B(b:Bool):AV:= .v (.bool b)
abbrev S(s:ByteArray):AV:= .v (.string s)
def cU:FuncId->Bool:=λ_=>false
noncomputable abbrev pg:=Tryz.prog
noncomputable def base:c9:=BD Tryz.prog (λ_=>false) 3000 60
def aE:cw Tryz.prog base:=xe mixed _ _ _
inductive G where
 |mk (op n:Int) (name:ByteArray) (kids:List G)
 deriving Inhabited
mutual
def gC:G->lXF
 | .mk op n s l=>[I8 op,I n,S s,.sl 4 (gR l)]
def gR:List G->List lXF
 |[]=>[]
 |g::l=>gC g::gR l
end
theorem Dp: ∀l:List G,gR l=l.map gC
 |[]=>by simp[gR]
 |g::l=>by simp[gR,Dp l]
mutual
theorem qT: ∀g:G,aj (gC g)=true
 | .mk op n s l=>by simp[gC,aj,AV.pure,Ma l]
theorem Ma: ∀l:List G,ak (gR l)=true
 |[]=>by simp[gR,ak]
 |g::l=>by simp[gR,ak,qT g,Ma l]
end
def G.op:G->Int
 | .mk o _ _ _=>o
def G.n:G->Int
 | .mk _ n _ _=>n
def G.name:G->ByteArray
 | .mk _ _ s _=>s
def G.kids:G->List G
 | .mk _ _ _ l=>l
def gCC(g:G):lXF:=[I8 g.op,I g.n,S g.name,.sl 4 (g.kids.map gC)]
theorem Jj:gCC=gC:=funext λg=>by obtain⟨o,n,s,l⟩:=g;grind[gCC,gC,Dp,G.op,G.n,G.name,G.kids]
def F0(g:G):aj (gCC g)=true:=by rw[Jj];exact qT g
structure Edge where
 op:Int
 set:List (Int×Int)
 n:Int
 level:Int
 g:G
 bL:List (Int×Int)
 to:Int
 deriving Inhabited
structure State where
 aH:Int
 ah:List Edge
 deriving Inhabited
structure bI where
 name:ByteArray
 bN:Bool
 eF:Bool
 lazy:Bool
 left:Bool
 mode:Int
 type:Int
 start:Int
 stop:Int
 deriving Inhabited
structure Net where
 types:lXD
 aJ:lXD
 bu:lXD
 rules:List bI
 aa:List State
 deriving Inhabited
def aP(r:Int×Int):lXF:=[I32 r.1,I32 r.2]
def cO(a:Int×Int):lXF:=[I8 a.1,I a.2]
def aQ(e:Edge):lXF:=[I8 e.op,.sl 2 (e.set.map aP),I e.n,I e.level,I8 e.g.op,I e.g.n,S e.g.name,.sl 4 (e.g.kids.map gC),.sl 2 (e.bL.map cO),I e.to]
def aq(s:State):lXF:=[I s.aH,.sl 10 (s.ah.map aQ)]
def a9(s:ByteArray):lXF:=[S s]
def aC(r:bI):lXF:=[S r.name,B r.bN,B r.eF,B r.lazy,B r.left,I r.mode,I r.type,I r.start,I r.stop]
def bA(n:Net):lXF:=[.sl 1 (n.types.map a9),.sl 1 (n.aJ.map a9),.sl 1 (n.bu.map a9),.sl 9 (n.rules.map aC),.sl 2 (n.aa.map aq)]
theorem kS(r:Int×Int):aj (aP r)=true:=rfl
theorem oI(r:Int×Int):aj (cO r)=true:=rfl
theorem lX(r:ByteArray):aj (a9 r)=true:=rfl
theorem mK(r:bI):aj (aC r)=true:=rfl
theorem mL(e:Edge):aj (aQ e)=true:=by simp[aQ,aj,AV.pure,bc kS,bc oI,bc qT]
theorem kT(s:State):aj (aq s)=true:=by simp[aq,aj,AV.pure,bc mL]
def BU(n:Net):aj (bA n)=true:=by grind[bA,aj,AV.pure,bc,lX,mK,kT]
def jD(n:Net):AV:= .ag (bA n)
def und9:eE Tryz.prog (underlying 9)=some .string:=by kernel_rfl
def ixs(s:ByteArray)(i:Nat)(h:i<s.size):IxP Tryz.prog 9 (.string s) (.int .i64 i) (.int .u8<|dh s i):=by
 have hs:s[i]? =some s[i]:=by simp[h]
 unfold IxP Instr.index;refine(kP<|show eE Tryz.prog (asIntOf<|.int .i64 (i:Int))=some (IntKind.i64,(i:Int))from rfl).trans ?_;refine(kP und9).trans ?_;simp[hs,dh];rfl
def size_pos{s:ByteArray}(h:cT (Array.toList<|ByteArray.data s) []=false):0<s.size:=by
 cases hl:Array.toList (ByteArray.data s)with
 |nil=>rw[hl]at h;cases h
 |cons a l=>have:=af1 length hl;simp at this;omega
end Go.Proofs.YtfkjfjalecikkaaGreat
namespace Go.Am
structure KB where
 L0:Loc
 ob0:lXE
 hit:Bool
 x1:AX
 L1:Loc
 ob1:lXE
 x2:AX
 L2:Loc
 ob2:lXE
 p:Prop:=True
abbrev KBs:=Nat->Option KB
def Mb(a b c:Nat):Nat:=SW 0 (Nat.add a<|Nat.add b c)
section
variable(k:KB)(M:Tri AV)(O:Tri Ob)(N:Nat)
noncomputable def BV:Bool:=dec (k.L0.map (λp=>M.get p.1)=k.L0.map (λp=>some p.2))&&dec (wL O N 0=k.ob0)&&dec k.p
noncomputable def To(tm:TM):RX:=match tm.gd with
 | .b true::r=> .ok k.x1 (en k.L1) (dZ k.ob1) k.ob1.length (((tm.told r<|BV k M O N).asks k.hit).low<|Mb k.ob0.length k.ob1.length k.ob2.length)
 | .b false::r=> .ok k.x2 (en k.L2) (dZ k.ob2) k.ob2.length (((tm.told r<|BV k M O N).asks<|!k.hit).low<|Mb k.ob0.length k.ob1.length k.ob2.length)
 |_=> .fail
end
noncomputable def kbR(id:Nat)(M:Tri AV)(O:Tri Ob)(N:Nat)(tm:TM)(a:RX):Option KB->RX
 |some k=>To k M O N tm
 |none=>pS id a
noncomputable def Tp(M:Tri AV)(v:Bool):Operand->Tri AV
 | .tmp t=>M.set (.v<|.bool v) t
 |_=>M
noncomputable def Mc(x:Operand)(a b:Tri AV->Tri Ob->Nat->TM->RX)(M:Tri AV)(O:Tri Ob)(N:Nat)(tm:TM):Option AV->RX
 |some (.v<|.bool v)=>match tm.gd with
  | .b true::r=>a (Tp M true x) O N (tm.told r v)
  | .b false::r=>b (Tp M false x) O N (tm.told r<|!v)
  |_=>wO a b M O N tm (some<|.v<|.bool v)
 |_=> .fail
noncomputable def runK(P:Program)(n:Nat)(callf:c9)(pu:FuncId->Bool)(lf:Nat)(kb:KBs)(c:Code):Tri AV->Tri Ob->Nat->TM->RX:=
 Code.rec (motive:=λ_=>Tri AV->Tri Ob->Nat->TM->RX)
  (λM O N tm=> .ok .normal M O N tm)
  (λ_ ops draw M O N tm=>C8 ops.toList draw<|fX P n callf pu ops.toList ops.toList M O N tm)
  (λ_ _ a b M O N tm=>qM b<|a M O N tm)
  (λx _ _ a b M O N tm=>Mc x a b M O N tm<|tev M x)
  (λid _ a M O N tm=>kbR id M O N tm (a M O N tm)<|kb id)
  (λc _ M O N tm=>ew P n callf pu lf (.loop c) M O N tm)
  (λg ps a b _ _ M O N tm=>ew P n callf pu lf (.rangeFunc g ps a b) M O N tm)
  (λid M O N tm=> .ok (.exit id) M O N tm)
  (λc _ M O N tm=>ew P n callf pu lf (.scope c) M O N tm)
  (λ_ M O N tm=> .ok .normal M O N tm)
  (λ_ _ _ _ _=> .fail)
  (λM O N tm=> .ok .ret M O N tm)
  (λ_ _ _ _ _=> .fail) c
section
variable{P:Program}{n K:Nat}{callf:c9}{pu:FuncId->Bool}{lf:Nat}
section
variable(P:Program)(n K:Nat)(c:Code)
section
variable(M:Tri AV)(O:Tri Ob)(N:Nat)
def Tq(x:AX)(M':Tri AV)(O':Tri Ob)(N':Nat):Prop:=
 ∀L ob,cJ M L->bX O N ob->(∃L' ob',cJ M' L'/\bX O' N' ob')/\
  ∀df Q,kL df c->(∀L' ob',cJ M' L' ->bX O' N' ob' ->Q x L' ob')->awp df P n K [] c Q L ob
def ac5(tm:TM)(x:AX)(M':Tri AV)(O':Tri Ob)(N':Nat)(tm':TM):Prop:=Ext tm tm'/\(cF tm'.ok=true->(∃L ob,cJ M L/\bX O N ob)->Tq P n K c M O N x M' O' N')
end
def gO(run:Tri AV->Tri Ob->Nat->TM->RX):Prop:= ∀{M:Tri AV}{O:Tri Ob}{N:Nat}{tm:TM}{x:AX}{M':Tri AV}{O':Tri Ob}{N':Nat}{tm':TM},run M O N tm= .ok x M' O' N' tm' ->ac5 P n K c M O N tm x M' O' N' tm'
end
theorem dC(hcf:cw P callf)(hm:P.follows .mixedOrders=true)(c:Code):gO P n K c (ew P n callf pu lf c):=λh=>by obtain⟨e,k⟩:=iX hcf hm lf c h;exact⟨e,λhok hex L ob hM hO=>⟨((k hok hex).2 L ob hM hO).1,λdf Q hd hq=>((k hok hex).2 L ob hM hO).2 df K Q hd hq⟩⟩
def pX(P:Program)(n K:Nat)(kb:KBs):Code->Prop
 | .seq a b=>pX P n K kb a/\pX P n K kb b
 | .cond _ a b=>pX P n K kb a/\pX P n K kb b
 | .block id c=>match kb id with
  |some k=>(k.p->k.hit=true->bo P n K (.block id c) k.L0 k.ob0 k.x1 k.L1 k.ob1)/\(k.p->k.hit=false->bo P n K (.block id c) k.L0 k.ob0 k.x2 k.L2 k.ob2)
  |none=>pX P n K kb c
 | .loop c=>pX P n K kb c
 | .scope c=>pX P n K kb c
 |_=>True
theorem Jk{M:Tri AV}{L:Loc}(hM:cJ M L): ∀{l:Loc},l.map (λp=>M.get p.1)=l.map (λp=>some p.2)->Sub l L
 |[],_=>Sub.nil L
 |(t,av)::l,h=>by simp only[af9,ahg]at h;exact Sub.cons (by rw[<-hM t];exact h.1) (Jk hM h.2)
theorem Tr{id:Nat}{c:Code}{k:KB}(hk:(k.p->k.hit=true->bo P n K (.block id c) k.L0 k.ob0 k.x1 k.L1 k.ob1)/\(k.p->k.hit=false->bo P n K (.block id c) k.L0 k.ob0 k.x2 k.L2 k.ob2)):gO P n K (.block id c) (To k):=by
 intro M O N tm x M' O' N' tm' h;have fin: ∀{y:AX}{L1:Loc}{ob1:lXE},(k.p->bo P n K (.block id c) k.L0 k.ob0 y L1 ob1)->BV k M O N=true->Tq P n K (.block id c) M O N y (en L1) (dZ ob1) ob1.length:=λ{y L1 ob1} hp ha L ob hM hO=>by simp only[BV,afJ]at ha;have h1:=Jk hM (aR.1 ha.1.1);have h2:=aR.1 ha.1.2;have h3:=aR.1 ha.2;rw[qN hO]at h2;subst h2;exact⟨⟨L1,ob1,iB _,fQ _⟩,λdf Q hd hq=>vT h1 (hp h3 df Q hd<|hq _ _ (iB _)<|fQ _)⟩
 obtain⟨lo,gd,ok⟩:=tm;simp only[To]at h;split at h
 ·cases h;refine⟨⟨[_,_],rfl⟩,λhok _=> ?_⟩;grind[TM.low,TM.asks,TM.told,cF]
 ·cases h;refine⟨⟨[_,_],rfl⟩,λhok _=> ?_⟩;grind[TM.low,TM.asks,TM.told,cF]
 ·cases h
theorem Jl{c:Code}{M:Tri AV}{O:Tri Ob}{N:Nat}{x:AX}{M':Tri AV}{O':Tri Ob}{N':Nat}(h:Tq P n K c M O N x M' O' N')(hex: ∃L ob,cJ M L/\bX O N ob): ∃L ob,cJ M' L/\bX O' N' ob:=by obtain⟨L,ob,h1,h2⟩:=hex;exact(h L ob h1 h2).1
theorem Q8{a b:Code}{ra rb:Tri AV->Tri Ob->Nat->TM->RX}(ha:gO P n K a ra)(hb:gO P n K b rb):gO P n K (.seq a b) (λM O N tm=>qM rb<|ra M O N tm):=by
 intro M O N tm x M' O' N' tm' h;cases hr:ra M O N tm with
 |fail=>simp only[hr]at h;cases h
 |ok x1 M1 O1 N1 t1=>
  simp only[hr]at h;obtain⟨e1,k1⟩:=ha hr;cases x1 with
  |normal=>obtain⟨e2,k2⟩:=hb h;refine⟨e1.trans e2,λhok hex L ob hM hO=> ?_⟩;have h1:=k1 (e2.ok hok) hex;have h2:=k2 hok (Jl h1 hex);obtain⟨⟨L1,ob1,q1,q2⟩,q3⟩:=h1 L ob hM hO;exact⟨(h2 L1 ob1 q1 q2).1,λdf Q hd hq=>jg (q3 df _ (hd.imp (λh=>h) oan) λL' ob' hM' hO'=>(h2 L' ob' hM' hO').2 df Q (hd.imp (λh=>h) oan) hq)⟩
  |_=>cases h;refine⟨e1,λhok hex L ob hM hO=> ?_⟩;have h1:=k1 hok hex;exact⟨(h1 L ob hM hO).1,λdf Q hd hq=>jg ((h1 L ob hM hO).2 df _ (hd.imp (λh=>h) oan) λL' ob' hM' hO'=>hq L' ob' hM' hO')⟩
theorem Dq{id:Nat}{c:Code}{ra:Tri AV->Tri Ob->Nat->TM->RX}(ha:gO P n K c ra):gO P n K (.block id c) (λM O N tm=>pS id<|ra M O N tm):=by
 intro M O N tm x M' O' N' tm' h;cases hc:ra M O N tm with
 |fail=>simp only[hc]at h;cases h
 |ok x1 M1 O1 N1 t1=>
  simp only[hc]at h;obtain⟨e1,k1⟩:=ha hc;cases x1 with
  |exit j=>
   simp only[pS]at h;cases hj:Nat.beq j id with
   |true=>rw[hj]at h;have:=afV hj;subst this;simp only[af2,RX.ok.injEq]at h;obtain⟨rfl,rfl,rfl,rfl,rfl⟩:=h;refine⟨e1,λhok hex L ob hM hO=> ?_⟩;have h1:=k1 hok hex;exact⟨(h1 L ob hM hO).1,λdf Q hd hq=>et ((h1 L ob hM hO).2 df _ (hd.imp (λh=>h) λe=>e)<|by grind[j8])⟩
   |false=>rw[hj]at h;have hne:=agD hj;simp only[af8,RX.ok.injEq]at h;obtain⟨rfl,rfl,rfl,rfl,rfl⟩:=h;refine⟨e1,λhok hex L ob hM hO=> ?_⟩;have h1:=k1 hok hex;exact⟨(h1 L ob hM hO).1,λdf Q hd hq=>et ((h1 L ob hM hO).2 df _ (hd.imp (λh=>h) λe=>e)<|by grind[j8])⟩
  |_=>cases h;refine⟨e1,λhok hex L ob hM hO=> ?_⟩;have h1:=k1 hok hex;exact⟨(h1 L ob hM hO).1,λdf Q hd hq=>et ((h1 L ob hM hO).2 df _ (hd.imp (λh=>h) λe=>e) λL' ob' hM' hO'=>hq L' ob' hM' hO')⟩
theorem Jm{x:Operand}{a b:Code}{ra rb:Tri AV->Tri Ob->Nat->TM->RX}(ha:gO P n K a ra)(hb:gO P n K b rb):gO P n K (.cond x a b) (λM O N tm=>wO ra rb M O N tm<|tev M x):=by
 intro M O N tm y M' O' N' tm' h;have hev: ∀L,cJ M L->aZ L x=tev M x:=λL hM=>by rw[hM.tev]
 replace h:wO ra rb M O N tm (tev M x)= .ok y M' O' N' tm':=h;unfold wO at h;split at h
 ·rename_i hc;obtain⟨e1,k1⟩:=ha h;refine⟨e1,λhok hex L ob hM hO=> ?_⟩;have h1:=k1 hok hex;exact⟨(h1 L ob hM hO).1,λdf Q hd hq=>fM ((hev L hM).trans hc) (λ_=>(h1 L ob hM hO).2 df Q (hd.imp (λh=>h) oan) hq) (λe=>by cases e)⟩
 ·rename_i hc;obtain⟨e1,k1⟩:=hb h;refine⟨e1,λhok hex L ob hM hO=> ?_⟩;have h1:=k1 hok hex;exact⟨(h1 L ob hM hO).1,λdf Q hd hq=>fM ((hev L hM).trans hc) (λe=>by cases e) (λ_=>(h1 L ob hM hO).2 df Q (hd.imp (λh=>h) oan) hq)⟩
 ·cases h
theorem oJ{M:Tri AV}{L:Loc}(hM:cJ M L){x:Operand}{v:Bool}(h:tev M x=some (.v<|.bool v)):cJ (Tp M v x) L:=by
 cases x with
 |tmp t=>exact FK hM h
 |_=>exact hM
theorem F1{x:Operand}{a b:Code}{ra rb:Tri AV->Tri Ob->Nat->TM->RX}(ha:gO P n K a ra)(hb:gO P n K b rb):gO P n K (.cond x a b) (λM O N tm=>Mc x ra rb M O N tm<|tev M x):=by
 intro M O N tm y M' O' N' tm' h;have hev: ∀L,cJ M L->aZ L x=tev M x:=λL hM=>by rw[hM.tev]
 replace h:Mc x ra rb M O N tm (tev M x)= .ok y M' O' N' tm':=h;unfold Mc at h;split at h
 ·rename_i v hc;split at h
  ·rename_i r hg;obtain⟨e1,k1⟩:=ha h;have e0:Ext tm (tm.told r v):=⟨[v],rfl⟩;refine⟨e0.trans e1,λhok hex L ob hM hO=> ?_⟩;have hv:cF (tm.told r v).ok=true:=e1.ok hok;obtain rfl:v=true:=by simp_all[TM.told,cF]
   have hM':=oJ hM hc;have h1:=k1 hok ⟨L,ob,hM',hO⟩;exact⟨(h1 L ob hM' hO).1,λdf Q hd hq=>fM ((hev L hM).trans hc) (λ_=>(h1 L ob hM' hO).2 df Q (hd.imp (λh=>h) oan) hq) (λe=>by cases e)⟩
  ·rename_i r hg;obtain⟨e1,k1⟩:=hb h;have e0:Ext tm (tm.told r<|!v):=⟨[!v],rfl⟩;refine⟨e0.trans e1,λhok hex L ob hM hO=> ?_⟩;have hv:cF (tm.told r<|!v).ok=true:=e1.ok hok;obtain rfl:v=false:=by simp_all[TM.told,cF]
   have hM':=oJ hM hc;have h1:=k1 hok ⟨L,ob,hM',hO⟩;exact⟨(h1 L ob hM' hO).1,λdf Q hd hq=>fM ((hev L hM).trans hc) (λe=>by cases e) (λ_=>(h1 L ob hM' hO).2 df Q (hd.imp (λh=>h) oan) hq)⟩
  ·rw[<-hc]at h;exact Jm (x:=x) ha hb h
 ·cases h
theorem oK(hcf:cw P callf)(hm:P.follows .mixedOrders=true){kb:KBs}: ∀(c:Code),pX P n K kb c->gO P n K c (runK P n callf pu lf kb c)
 | .skip,_=>λh=>dC (pu:=pu) (lf:=lf) hcf hm .skip h
 | .label l,_=>λh=>dC (pu:=pu) (lf:=lf) hcf hm (.label l) h
 | .ret,_=>λh=>dC (pu:=pu) (lf:=lf) hcf hm .ret h
 | .exit id,_=>λh=>dC (pu:=pu) (lf:=lf) hcf hm (.exit id) h
 | .region id ops draw,_=>λh=>dC (pu:=pu) (lf:=lf) hcf hm (.region id ops draw) h
 | .loop c,_=>λh=>dC (pu:=pu) (lf:=lf) hcf hm (.loop c) h
 | .scope c,_=>λh=>dC (pu:=pu) (lf:=lf) hcf hm (.scope c) h
 | .goto _,_=>λh=>by cases h
 | .rangeFunc g ps a b,_=>λh=>dC (pu:=pu) (lf:=lf) hcf hm (.rangeFunc g ps a b) h
 | .refuse _,_=>λh=>by cases h
 | .seq a b,hk=>λh=>Q8 (oK hcf hm a hk.1) (oK hcf hm b hk.2) h
 | .cond x a b,hk=>λh=>F1 (x:=x) (oK hcf hm a hk.1) (oK hcf hm b hk.2) h
 | .block id c,hk=>λh=>by
  have h':=show kbR id _ _ _ _ (runK P n callf pu lf kb c _ _ _ _) (kb id)= .ok _ _ _ _ _ from h;simp only[pX]at hk;cases hi:kb id with
  |none=>rw[hi]at h' hk;exact Dq (oK hcf hm c hk) h'
  |some k=>rw[hi]at h' hk;exact Tr hk h'
structure qU(P:Program)(n K:Nat)(kb:KBs)(c:Code):Prop where
 ok:pX P n K kb c
def orC(a b:Option Code):Option Code:=match a with
 |some c=>some c
 |none=>b
noncomputable def Ts(id:Nat)(c:Code):Option Code:=
 Code.rec (motive:=λ_=>Option Code) none (λ_ _ _=>none) (λ_ _ a b=>orC a b) (λ_ _ _ a b=>orC a b)
  (λj c a=>cond (Nat.beq j id) (some c) a) (λ_ a=>a) (λ_ _ _ _ a b=>orC a b) (λ_=>none) (λ_ a=>a) (λ_=>none) (λ_=>none) none (λ_=>none) c
noncomputable def bD(id:Nat)(c:Code):Code:=match Ts id c with
 |some (.loop b)=>b
 |_=> .skip
noncomputable def di(ids:lXC)(c:Code):List (Nat×Code):=
 Code.rec (motive:=λ_=>List<|Nat×Code) [] (λ_ _ _=>[]) (λ_ _ a b=>a++b) (λ_ _ _ a b=>a++b)
  (λj c a=>cond (ids.any<|Nat.beq j) [(j,c)] a) (λ_ a=>a) (λ_ _ _ _ _ _=>[]) (λ_=>[]) (λ_ a=>a) (λ_=>[]) (λ_=>[]) [] (λ_=>[]) c
def cx(P:Program)(n K id:Nat)(c:Code)(k:KB):Prop:=(k.p->k.hit=true->bo P n K (.block id c) k.L0 k.ob0 k.x1 k.L1 k.ob1)/\(k.p->k.hit=false->bo P n K (.block id c) k.L0 k.ob0 k.x2 k.L2 k.ob2)
def kbL:List (Nat×KB)->KBs
 |[],_=>none
 |(i,k)::l,j=>cond (Nat.beq j i) (some k) (kbL l j)
theorem Md: ∀(l:List (Nat×KB))(j:Nat),(kbL l j).isSome=(l.map (·.1)).any (Nat.beq j)
 |[],_=>rfl
 |(i,k)::l,j=>by
  simp only[kbL,af9,List.any_cons];cases Nat.beq j i with
  |true=>rfl
  |false=>simpa using Md l j
def pB(P:Program)(n K:Nat)(l:List (Nat×KB)):List (Nat×Code)->Prop
 |[]=>True
 |(id,c)::r=>(match kbL l id with
  |some k=>cx P n K id c k
  |none=>True)/\pB P n K l r
def aU{l:List (Nat×KB)}:pB P n K l []:=trivial
theorem aK{l:List (Nat×KB)}{id:Nat}{c:Code}{r:List (Nat×Code)}{k:KB}(h:cx P n K id c k)(hk:kbL l id=some k)(t:pB P n K l r):pB P n K l ((id,c)::r):=⟨by rw[hk];exact h,t⟩
def oL{l:List (Nat×KB)}: ∀{a b:List (Nat×Code)},pB P n K l (a++b)->pB P n K l a/\pB P n K l b
 |[],_,h=>⟨trivial,h⟩
 |(_,_)::_,_,h=>⟨⟨h.1,(oL h.2).1⟩,(oL h.2).2⟩
theorem kU{l:List (Nat×KB)}: ∀c:Code,pB P n K l (di (l.map (·.1)) c)->pX P n K (kbL l) c
 | .skip,_=>trivial
 | .label _,_=>trivial
 | .ret,_=>trivial
 | .exit _,_=>trivial
 | .region _ _ _,_=>trivial
 | .loop c,h=>kU (l:=l) c h
 | .scope c,h=>kU (l:=l) c h
 | .goto _,_=>trivial
 | .rangeFunc _ _ _ _,_=>trivial
 | .refuse _,_=>trivial
 | .seq a b,h=>by have:=oL (a:=di (l.map (·.1)) a) (b:=di (l.map (·.1)) b) h;exact⟨kU a this.1,kU b this.2⟩
 | .cond _ a b,h=>by have:=oL (a:=di (l.map (·.1)) a) (b:=di (l.map (·.1)) b) h;exact⟨kU a this.1,kU b this.2⟩
 | .block id c,h=>by
  replace h:pB P n K l (cond ((l.map (·.1)).any<|Nat.beq id) [(id,c)] (di (l.map (·.1)) c)):=h;rw[<-Md]at h;simp only[pX];cases hi:kbL l id with
  |none=>rw[hi]at h;exact kU c h
  |some k=>rw[hi]at h;replace h:=h.1;rw[hi]at h;exact h
theorem bw{l:List (Nat×KB)}{ids:lXC}{c:Code}{B:List (Nat×Code)}(h:di ids c=B)(k:pB P n K l B)(hi:l.map (·.1)=ids):qU P n K (kbL l) c:=⟨kU c (by rw[hi,h];exact k)⟩
def ic: ∀c:Code,pX P n K (kbL []) c
 | .skip=>trivial
 | .label _=>trivial
 | .ret=>trivial
 | .exit _=>trivial
 | .region _ _ _=>trivial
 | .loop c=>ic c
 | .scope c=>ic c
 | .goto _=>trivial
 | .rangeFunc _ _ _ _=>trivial
 | .refuse _=>trivial
 | .seq a b=>⟨ic a,ic b⟩
 | .cond _ a b=>⟨ic a,ic b⟩
 | .block _ c=>ic c
def bq(c:Code):qU P n K (kbL []) c:=⟨ic c⟩
def dz(hcf:cw P callf)(hm:P.follows .mixedOrders=true){kb:KBs}{c:Code}(h:qU P n K kb c):gO P n K c (runK P n callf pu lf kb c):=oK hcf hm c h.ok
theorem eU{lo:Nat}{c:Code}{run:Tri AV->Tri Ob->Nat->TM->RX}(hr:gO P n K c run){L L':Loc}{ob ob':lXE}{x:AX}{sel:lXC}{gd:List Gi}{ok:lXB}{N':Nat}{SL:List (Option AV)}{SO:List (Option Ob)}(h:iM (L'.map (·.1)) sel (run (en L) (dZ ob) ob.length ⟨lo,gd,[]⟩)=some (x,SL,SO,N',ok))(hok:cF ok=true)(hx:fI x=true)(hn:mG sel=true)(hK:(range K).all (λi=>sel[i]? ==some i)=true)(h2:ni (bM sel N') L'=SL)(h3:pz (bM sel N') SO ob'):bo P n K c L ob x L' ob':=by
 intro df Q hdo hq;cases hc:run (en L) (dZ ob) ob.length ⟨lo,gd,[]⟩with
 |fail=>rw[hc]at h;cases h
 |ok x1 M1 O1 N1 t1=>
  rw[hc]at h;simp only[iM,afM,af7]at h;obtain⟨rfl,q2,q3,rfl,rfl⟩:=h;have hrun:=(hr hc).2 hok ⟨L,ob,iB L,fQ ob⟩;refine oE (((hrun L ob (iB L)<|fQ ob).2 df _ hdo) λL1 ob1 hM hO=> ?_);have hl1:ob1.length=N1:=hO.1;rw[<-q3]at h3;obtain⟨t1,t2⟩:=sV h3;refine⟨L',ob',sel,⟨ju hn,by simpa using t1,λi s X hi hX=> ?_,λi hi=> ?_,λt av e=> ?_⟩,hx,hq⟩
  ·obtain⟨Y,k1,k2⟩:=t2 i X hX;rw[afY,hi]at k1;simp only[af6,afM]at k1;exact⟨Y,by rw[<-hO.2];exact k1,by rw[hl1];exact k2⟩
  ·simp_all
  ·rw[<-hM t,hl1];grind[lV]
theorem xo{lo:Nat}{fn:Func}{R:sK->lXE->Prop}{c:Code}{run:Tri AV->Tri Ob->Nat->TM->RX}(hr:gO P fn.ntmps K c run){L:Loc}{ob obs:lXE}{M:Tri AV}{O:Tri Ob}{N:Nat}(hM:cJ M L)(hO:bX O N ob){r:AV}{gd:List Gi}{SO:List (Option Ob)}{ok:lXB}(h:mZ P fn.results.toList obs.length (run M O N ⟨lo,gd,[]⟩)=some (r,SO,ok))(hok:cF ok=true)(h3:obs.map some=SO)(hR: ∀xs,R (.ret r) (obs++xs)):Fin P fn K R c L ob:=by
 cases hc:run M O N ⟨lo,gd,[]⟩with
 |fail=>rw[hc]at h;simp[mZ]at h
 |ok x3 M3 O3 N3 t3=>
  rw[hc]at h;obtain⟨e3,hrun3⟩:=hr hc;have aux: ∀avs,nh P M3 O3 fn.results.toList=some avs->fO avs=r->(range obs.length).map O3.get=SO->t3.ok=ok-> ∀L3 ob3,cJ M3 L3->bX O3 N3 ob3-> ∃avs,nu P L3 ob3 fn.results.toList avs/\R (.ret<|fO avs) ob3:=λavs ha hb hc _ L3 ob3 hM3 hO3=>by obtain⟨xs,e⟩:=BO rfl (hc.trans h3.symm) hO3;exact⟨avs,kQ hM3 hO3 ha,by rw[hb,e];exact hR xs⟩
  have fin:ok=t3.ok/\ ∀L3 ob3,cJ M3 L3->bX O3 N3 ob3->Bn P fn R x3 L3 ob3:=by
   cases x3 with
   |normal=>
    simp only[mZ]at h;split at h
    ·rename_i avs ha;simp only[afM,af7]at h;exact⟨h.2.2.symm,aux avs ha h.1 h.2.1 h.2.2⟩
    ·cases h
   |ret=>
    simp only[mZ]at h;split at h
    ·rename_i avs ha;simp only[afM,af7]at h;exact⟨h.2.2.symm,aux avs ha h.1 h.2.1 h.2.2⟩
    ·cases h
   |_=>simp[mZ]at h
  obtain⟨rfl,k3⟩:=fin;exact(((hrun3 hok ⟨L,ob,hM,hO⟩) _ _ hM hO).2 none _<|.inl rfl) λL3 ob3 hM3 hO3=>k3 L3 ob3 hM3 hO3
def Dr{f:FuncId}{fn:Func}{body:Code}{args:lXF}{r:AV}{l:List (Nat×KB)}{gd:List Gi}{ok:lXB}(hcf:cw P callf)(hm:P.follows .mixedOrders=true)(hf:P.funcs[f]? =some fn)(hname:(fn.name== "runtime.NumGoroutine")=false)(hb:fn.body=some body)(hn:args.length<=fn.ntmps)(hk:qU P fn.ntmps 0 (kbL l) body)(h:mZ P fn.results.toList 0 (runK P fn.ntmps callf pu lf (kbL l) body (jC 0 args .e) .e 0 ⟨0,gd,[]⟩)=some (r,[],ok))(hok:cF ok=true)(hu:r.und 0=true):aY P f args [] [] r []:=kr hf hname hb hn (afP _) hu rfl (xo (obs:=[]) (dz hcf hm hk) (eM args) bX.nil h hok rfl λxs=>⟨rfl,xs,rfl⟩)
def lY(id:Nat):AX->AX
 | .exit j=>cond (Nat.beq j id) .normal (.exit j)
 |x=>x
theorem qV{df:Option Nat}{id:Nat}{x:AX}{Q:ep}{L:Loc}{ob:lXE}(h:Q (lY id x) L ob):j8 id Q x L ob:=by
 cases x with
 |exit j=>grind[lY,j8,afV,agD]
 |_=>exact h
theorem ig{id:Nat}{c:Code}{ι:Type}{xr:AX}{Lr:Loc}{obr:lXE}(L:ι->Loc)(Bs:ι->lXE)(I:ι->Prop)(μ:ι->Nat)(x:ι)(hx:I x)(hne:xr≠ .normal)(round: ∀x,I x->(∃y,I y/\μ y<μ x/\bo P n K c (L x) (Bs x) .normal (L y) (Bs y))\/bo P n K c (L x) (Bs x) xr Lr obr):bo P n K (.block id<|.loop c) (L x) (Bs x) (lY id xr) Lr obr:=by
 intro df Q hd hq;have hd':kL df c:=hd.imp (λe=>e) λe=>by simpa only[Code.inR]using e
 refine et (BS hd' L Bs I μ (λy hy=>(round y hy).imp (λe=>e) λk=>k df _ hd' ?_) x hx);have:=qV (df:=df) (id:=id) (x:=xr) (Q:=Q) hq;cases xr with
 |normal=>exact absurd rfl hne
 |_=>exact this
def dA(n:Nat)(t:Nat->Bool):Bool:=(range n).any t
theorem fD{n:Nat}{t:Nat->Bool}:dA n t=true↔ ∃i,i<n/\t i=true:=by simp[dA]
theorem bO{n:Nat}{t:Nat->Bool}:dA n t=false↔ ∀i,i<n->t i=false:=by simp[dA]
abbrev bT:Gi:= .b true
abbrev bF:Gi:= .b false
def uTT(n:Nat)(l:List Gi):List Gi:=Nat.rec l (λ_ r=>bT::r) n
def uFF(n:Nat)(l:List Gi):List Gi:=Nat.rec l (λ_ r=>bF::r) n
def nm(L:Loc):List (Option AV):=L.map λp=>some p.2
def a0:cF []=true:=rfl
def a1{l:lXB}(h:cF l=true):cF (true::l)=true:=h
theorem kbT(k:KB)(hp:k.p):(dec (nm k.L0=nm k.L0)&&dec (k.ob0=k.ob0)&&dec k.p)=true:=by grind[aR]
def bQ{α:Type}(x:α):dec (x=x)=true:=aR.2 rfl
def dwr{z:Int}(h0: -9223372036854775808<=z)(h1:z<=9223372036854775807):dec (IntKind.i64.wrap z=z)=true:=aR.2 (wrap_i64 h0 h1)
def iO{α:Type}[Inhabited α](f:α->lXF){l:List α}{i:Nat}(h:i<l.length):dec ((l.map f)[i]? =some (f<|ae l i))=true:=qS h
theorem pvA(l:lXF)(h:aj l=true):(aj l&&true&&true)=true:=by rw[h];rfl
open Classical in
noncomputable def inv{α:Type}[Inhabited α](f:α->lXF)(c:lXF):α:=if h: ∃x,f x=c then h.choose else default
theorem gn{α:Type}[Inhabited α]{l:List α}{i:Nat}(h:i<l.length):ae l i∈l:=agy (fC h)
theorem aN(k:Nat){l:lXB}(h:cF l=true):cF (replicate k true++l)=true:=by
 induction k with
 |zero=>exact h
 |succ k ih=>exact ih
theorem n2{x:Bool}(h:x=true):(!!x)=true:=by rw[h];rfl
theorem n3{x:Bool}(h:x=false):(!!!x)=true:=by rw[h];rfl
theorem minA{ts:Array TypeId}{ty:TypeId}{fl:Array Bool}(a b:Int):dec (LS P .min ts ty fl [.int .i64 a,.int .i64 b]<|.int .i64<|min a b)=true:=by
 have e:(if b<a then b else a)=min a b:=by omega
 refine aR.2 ?_;unfold LS;simp only[invoke,builtin,Builtin.min_,Builtin.min2,List.foldlM,e];rfl
theorem nM(b:Bool):b=true\/b=false:=by cases b<;>simp
theorem cI{x:Bool}(h:x=true):(!x)=false:=by rw[h];rfl
theorem orT{x y:Bool}(h:x=true):(x||y)=true:=by rw[h];rfl
theorem orF{x y v:Bool}(h:x=false)(k:y=v):(x||y)=v:=by rw[h,k];rfl
theorem aD{x y v:Bool}(h:x=true)(k:y=v):(x&&y)=v:=by rw[h,k];rfl
theorem bg{x y:Bool}(h:x=false):(x&&y)=false:=by rw[h];rfl
theorem cdT{α:Type}{x:Bool}{a b v:α}(h:x=true)(k:a=v):(bif x then a else b)=v:=by rw[h,k];rfl
theorem cdF{α:Type}{x:Bool}{a b v:α}(h:x=false)(k:b=v):(bif x then a else b)=v:=by rw[h,k];rfl
def pD{i n:Nat}(h:i<n)(hn:n<=9223372036854775807):dec (IntKind.i64.wrap ((i+1:Nat):Int)=((i+1:Nat):Int))=true:=aR.2 (wrap_i64 oaa oaa)
def lB(n:Nat)(t:Nat->Bool):Nat:=((range n).find? t).getD n
theorem iY{n:Nat}{t:Nat->Bool}(h:dA n t=true):lB n t<n/\t (lB n t)=true/\ ∀j,j<lB n t->t j=false:=by
 obtain⟨j,hj,ht⟩:=fD.1 h;unfold lB;cases hf:(range n).find? t with
 |none=>simp_all
 |some x=>simp_all
end
inductive GT where
 |nil
 |r (g:List Gi) (k:GT)
 |a (a b:GT)
 |br (a b:GT)
 |yes (a:GT)
 |no (a:GT)
 |more (a:GT)
 |pick (j:Nat)
abbrev VK:=GT->AX->Tri AV->Tri Ob->Nat->Prop
abbrev VC:=Tri AV->Tri Ob->Nat->VK->GT->Prop
def vkR(k:VK)(t:GT):RX->Prop
 | .ok x M O N tm=>cF tm.ok=true/\k t x M O N
 | .fail=>False
noncomputable def gP(run:Tri AV->Tri Ob->Nat->TM->RX):VC:=λM O N k t=>GT.rec (motive:=λ_=>Prop) (vkR k .nil<|run M O N ⟨0,[],[]⟩) (λg r _=>vkR k r<|run M O N ⟨0,g,[]⟩) (λ_ _ a b=>a\/b) (λ_ _ _ _=>False) (λ_ _=>False) (λ_ _=>False) (λ_ _=>False) (λ_=>False) t
def litV(A B:Prop):Bool->Prop
 |true=>A
 |false=>B
def brV(A B:GT->Prop)(A1 B1:Prop)(v:Bool):GT->Prop
 | .br ta tb=>(v=true/\A ta)\/(v=false/\B tb)
 | .yes t=>v=true/\A t
 | .no t=>v=false/\B t
 |_=>litV A1 B1 v
noncomputable def Me(x:Operand)(a b:VC)(M:Tri AV)(O:Tri Ob)(N:Nat)(k:VK)(t:GT):Option AV->Prop
 |some (.v<|.bool v)=>brV (a (Tp M true x) O N k) (b (Tp M false x) O N k) (a M O N k t) (b M O N k t) v t
 |_=>False
noncomputable def kbV(q:KB):VC:=λM O N k t=>BV q M O N=true/\
 brV (λt=>k t q.x1 (en q.L1) (dZ q.ob1) q.ob1.length) (λt=>k t q.x2 (en q.L2) (dZ q.ob2) q.ob2.length) (k t q.x1 (en q.L1) (dZ q.ob1) q.ob1.length) (k t q.x2 (en q.L2) (dZ q.ob2) q.ob2.length) q.hit t
def blkK(id:Nat)(k:VK):VK:=λt x M O N=>k t (lY id x) M O N
def seqK(b:VC)(k:VK):VK:=λt x M O N=>match x with
 | .normal=>b M O N k t
 | .ret=>k t .ret M O N
 | .exit j=>k t (.exit j) M O N
 | .goto l=>k t (.goto l) M O N
 | .panic av=>k t (.panic av) M O N
noncomputable def unrV(a:VC)(k:VK)(j:Nat):Tri AV->Tri Ob->Nat->GT->Prop:=
 Nat.rec (motive:=λ_=>Tri AV->Tri Ob->Nat->GT->Prop) (λ_ _ _ _=>False) (λ_ ih M O N t=>a M O N (λt' x M' O' N'=>match x with
  | .normal=>ih M' O' N' t'
  | .ret=>k t' .ret M' O' N'
  | .exit j=>k t' (.exit j) M' O' N'
  | .goto l=>k t' (.goto l) M' O' N'
  | .panic av=>k t' (.panic av) M' O' N') t) j
noncomputable def ab1(run:Tri AV->Tri Ob->Nat->TM->RX)(a:VC):VC:=λM O N k t=>match t with
 | .more t'=>unrV a k 12 M O N t'
 |t=>gP run M O N k t
def ab2(k:VK):VK:=λt x M O N=>match x with
 | .normal=>k t .normal M O N
 | .ret=>k t .ret M O N
 | .exit j=>k t (.exit j) M O N
 | .goto _=>False
 | .panic av=>k t (.panic av) M O N
noncomputable def Tt(run:Tri AV->Tri Ob->Nat->TM->RX)(a:VC):VC:=λM O N k t=>match t with
 | .more t'=>a M O N (ab2 k) t'
 |t=>gP run M O N k t
noncomputable def Tu(id:Nat)(a:VC):Option KB->VC
 |some q=>kbV q
 |none=>λM O N k t=>a M O N (blkK id k) t
noncomputable def vcC(P:Program)(n:Nat)(callf:c9)(pu:FuncId->Bool)(lf:Nat)(kb:KBs)(c:Code):VC:=
 Code.rec (motive:=λ_=>VC)
  (λM O N k t=>k t .normal M O N)
  (λ_ ops draw=>gP λM O N tm=>C8 ops.toList draw<|fX P n callf pu ops.toList ops.toList M O N tm)
  (λ_ _ a b M O N k t=>a M O N (seqK b k) t)
  (λx _ _ a b M O N k t=>Me x a b M O N k t<|tev M x)
  (λid _ a=>Tu id a<|kb id)
  (λc a=>ab1 (λM O N tm=>ew P n callf pu lf (.loop c) M O N tm) a)
  (λg ps a b _ _=>gP λM O N tm=>ew P n callf pu lf (.rangeFunc g ps a b) M O N tm)
  (λid M O N k t=>k t (.exit id) M O N)
  (λc a=>Tt (λM O N tm=>ew P n callf pu lf (.scope c) M O N tm) a)
  (λ_ M O N k t=>k t .normal M O N)
  (λ_ _ _ _ _ _=>False)
  (λM O N k t=>k t .ret M O N)
  (λ_ _ _ _ _ _=>False) c
section
variable{P:Program}{n K:Nat}{callf:c9}{pu:FuncId->Bool}{lf:Nat}
structure il(P:Program)(n K:Nat)(c:Code)(V:VC):Prop where
 ok: ∀{M:Tri AV}{O:Tri Ob}{N:Nat}{k:VK}{t:GT},V M O N k t-> ∀{L:Loc}{ob:lXE},cJ M L->bX O N ob-> ∀{df:Option Nat}{Q:ep},kL df c->
 (∀{t':GT}{x:AX}{M':Tri AV}{O':Tri Ob}{N':Nat}{L':Loc}{ob':lXE},k t' x M' O' N' ->cJ M' L' ->bX O' N' ob' ->Q x L' ob')->awp df P n K [] c Q L ob
section
variable{c:Code}{run:Tri AV->Tri Ob->Nat->TM->RX}
theorem xp(hr:gO P n K c run){M:Tri AV}{O:Tri Ob}{N:Nat}{k:VK}{t:GT}{g:List Gi}(h:vkR k t (run M O N ⟨0,g,[]⟩)){L:Loc}{ob:lXE}(hM:cJ M L)(hO:bX O N ob){df:Option Nat}{Q:ep}(hd:kL df c)(hq: ∀{t':GT}{x:AX}{M':Tri AV}{O':Tri Ob}{N':Nat}{L':Loc}{ob':lXE},k t' x M' O' N' ->cJ M' L' ->bX O' N' ob' ->Q x L' ob'):awp df P n K [] c Q L ob:=by
 cases hc:run M O N ⟨0,g,[]⟩with
 |fail=>rw[hc]at h;exact h.elim
 |ok x M' O' N' tm=>rw[hc]at h;exact(((hr hc).2 h.1 ⟨L,ob,hM,hO⟩) L ob hM hO).2 df Q hd λL' ob' h1 h2=>hq h.2 h1 h2
theorem qX(hr:gO P n K c run):il P n K c (gP run):=by
 constructor;intro M O N k t h L ob hM hO df Q hd hq;induction t with
 |nil=>exact xp hr h hM hO hd hq
 |r g r _=>exact xp hr h hM hO hd hq
 |a a b ha hb=>exact h.elim ha hb
 |_=>exact h.elim
end
theorem Mf{A B:Prop}{v:Bool}(h:litV A B v):(v=true/\A)\/(v=false/\B):=by
 cases v with
 |true=>exact .inl ⟨rfl,h⟩
 |false=>exact .inr ⟨rfl,h⟩
theorem Tv{x:Operand}{a b:Code}{ra rb:VC}(ha:il P n K a ra)(hb:il P n K b rb):il P n K (.cond x a b) (λM O N k t=>Me x ra rb M O N k t<|tev M x):=by
 constructor;intro M O N k t h L ob hM hO df Q hd hq;have hev:aZ L x=tev M x:=by rw[hM.tev]
 have d1:kL df a:=hd.imp (λh=>h) oan;have d2:kL df b:=hd.imp (λh=>h) oan;replace h:Me x ra rb M O N k t (tev M x):=h;unfold Me at h;split at h
 ·rename_i v hc;cases t with
  |br ta tb=>
   rcases h with⟨rfl,h⟩|⟨rfl,h⟩
   ·exact fM (hev.trans hc) (λ_=>ha.ok h (oJ hM hc) hO d1 hq) (λe=>by cases e)
   ·exact fM (hev.trans hc) (λe=>by cases e) (λ_=>hb.ok h (oJ hM hc) hO d2 hq)
  |yes t=>obtain⟨rfl,h⟩:=h;exact fM (hev.trans hc) (λ_=>ha.ok h (oJ hM hc) hO d1 hq) (λe=>by cases e)
  |no t=>obtain⟨rfl,h⟩:=h;exact fM (hev.trans hc) (λe=>by cases e) (λ_=>hb.ok h (oJ hM hc) hO d2 hq)
  |_=>
   rcases Mf h with⟨rfl,h⟩|⟨rfl,h⟩
   ·exact fM (hev.trans hc) (λ_=>ha.ok h hM hO d1 hq) (λe=>by cases e)
   ·exact fM (hev.trans hc) (λe=>by cases e) (λ_=>hb.ok h hM hO d2 hq)
 ·exact h.elim
theorem ac6{id:Nat}{c:Code}{q:KB}(hk:(q.p->q.hit=true->bo P n K (.block id c) q.L0 q.ob0 q.x1 q.L1 q.ob1)/\(q.p->q.hit=false->bo P n K (.block id c) q.L0 q.ob0 q.x2 q.L2 q.ob2)):il P n K (.block id c) (kbV q):=by
 constructor;intro M O N k t h L ob hM hO df Q hd hq;obtain⟨ha,h⟩:=h;simp only[BV,afJ]at ha;have h1:=Jk hM (aR.1 ha.1.1);have h2:=aR.1 ha.1.2;have h3:=aR.1 ha.2;rw[qN hO]at h2;subst h2;have fin: ∀{y:AX}{L1:Loc}{ob1:lXE}{t':GT},bo P n K (.block id c) q.L0 q.ob0 y L1 ob1->k t' y (en L1) (dZ ob1) ob1.length->awp df P n K [] (.block id c) Q L q.ob0:=λ{y L1 ob1 t'} hp hk=>vT h1 (hp df Q hd<|hq hk (iB _)<|fQ _);cases t with
 |br ta tb=>
  rcases h with⟨e,h⟩|⟨e,h⟩
  ·exact fin (hk.1 h3 e) h
  ·exact fin (hk.2 h3 e) h
 |yes t=>exact fin (hk.1 h3 h.1) h.2
 |no t=>exact fin (hk.2 h3 h.1) h.2
 |_=>
  rcases Mf h with⟨e,h⟩|⟨e,h⟩
  ·exact fin (hk.1 h3 e) h
  ·exact fin (hk.2 h3 e) h
theorem aaA{a b:Code}{ra rb:VC}(ha:il P n K a ra)(hb:il P n K b rb):il P n K (.seq a b) (λM O N k t=>ra M O N (seqK rb k) t):=by
 constructor;intro M O N k t h L ob hM hO df Q hd hq;have d1:kL df a:=hd.imp (λh=>h) oan;have d2:kL df b:=hd.imp (λh=>h) oan;refine jg (ha.ok h hM hO d1 λ{t' x M' O' N' L' ob'} h1 hM' hO'=> ?_);cases x with
 |normal=>exact hb.ok h1 hM' hO' d2 hq
 |_=>exact hq h1 hM' hO'
theorem Q9{id:Nat}{c:Code}{ra:VC}(ha:il P n K c ra):il P n K (.block id c) (λM O N k t=>ra M O N (blkK id k) t):=by constructor;intro M O N k t h L ob hM hO df Q hd hq;refine et (ha.ok h hM hO (hd.imp (λh=>h) λe=>e) λ{t' x M' O' N' L' ob'} h1 hM' hO'=>qV (df:=df)<|hq h1 hM' hO')
def Mg(df:Option Nat)(P:Program)(n K:Nat)(c:Code)(Q:ep):Nat->Loc->lXE->Prop
 |0,_,_=>False
 |j+1,L,ob=>awp df P n K [] c (E8 (Mg df P n K c Q j) Q) L ob
theorem Jn{df:Option Nat}{c:Code}{Q:ep}{j:Nat}{L:Loc}{ob:lXE}(h:Mg df P n K c Q j L ob):awp df P n K [] (.loop c) Q L ob:=by
 refine ns (ι:=Nat×Loc×lXE) (λi=>i.2.1) (λi=>i.2.2) (λi=>Mg df P n K c Q i.1 i.2.1 i.2.2) (λi=>i.1) (j,L,ob) h (Sub.refl _) rfl λi hi=> ?_;obtain⟨j,L,ob⟩:=i;cases j with
 |zero=>exact hi.elim
 |succ j=>
  refine vS hi λx L' ob' q=> ?_;cases x with
  |normal=>exact⟨(j,L',ob'),q,ahc _,Sub.refl _,rfl⟩
  |_=>exact q
theorem Mh{c:Code}{a:VC}(ha:il P n K c a){df:Option Nat}{Q:ep}(hd:kL df c){k:VK}(hq: ∀{t':GT}{x:AX}{M':Tri AV}{O':Tri Ob}{N':Nat}{L':Loc}{ob':lXE},k t' x M' O' N' ->cJ M' L' ->bX O' N' ob' ->Q x L' ob'):∀(j:Nat){M:Tri AV}{O:Tri Ob}{N:Nat}{t:GT}{L:Loc}{ob:lXE},unrV a k j M O N t->cJ M L->bX O N ob->Mg df P n K c Q j L ob
 |0,_,_,_,_,_,_,h,_,_=>h.elim
 |j+1,M,O,N,t,L,ob,h,hM,hO=>by
  refine ha.ok (show a M O N _ t from h) hM hO hd λ{t' x M' O' N' L' ob'} h1 hM' hO'=> ?_;cases x with
  |normal=>exact Mh (k:=k) ha hd (λq q1 q2=>hq q q1 q2) j (show unrV a k j M' O' N' t' from h1) hM' hO'
  |_=>exact hq h1 hM' hO'
section
variable{c:Code}{run:Tri AV->Tri Ob->Nat->TM->RX}{a:VC}
theorem Tw(hr:gO P n K (.loop c) run)(ha:il P n K c a):il P n K (.loop c) (ab1 run a):=by
 constructor;intro M O N k t h L ob hM hO df Q hd hq;have hs:il P n K (.loop c) (gP run):=qX (run:=run) hr;cases t with
 |more t'=>exact Jn (Mh ha (hd.imp (λe=>e) λe=>by simpa only[Code.inR]using e) (k:=k) (λq q1 q2=>hq q q1 q2) 12 (show unrV a k 12 M O N t' from h) hM hO)
 |nil=>exact hs.ok (show gP run M O N k .nil from h) hM hO hd hq
 |r g r=>exact hs.ok (show gP run M O N k (.r g r)from h) hM hO hd hq
 |a a b=>exact hs.ok (show gP run M O N k (.a a b)from h) hM hO hd hq
 |br a b=>exact hs.ok (show gP run M O N k (.br a b)from h) hM hO hd hq
 |yes a=>exact hs.ok (show gP run M O N k (.yes a)from h) hM hO hd hq
 |no a=>exact hs.ok (show gP run M O N k (.no a)from h) hM hO hd hq
 |pick j=>exact hs.ok (show gP run M O N k (.pick j)from h) hM hO hd hq
theorem Ra(hr:gO P n K (.scope c) run)(ha:il P n K c a):il P n K (.scope c) (Tt run a):=by
 constructor;intro M O N k t h L ob hM hO df Q hd hq;have hs:il P n K (.scope c) (gP run):=qX (run:=run) hr;cases t with
 |more t'=>
  have hdf:df=none:=hd.elim id λe=>by simp[Code.inR]at e
  subst hdf;refine BL 0 (ha.ok (show a M O N (ab2 k) t' from h) hM hO (.inl rfl) λ{t2 x M' O' N' L' ob'} h1 hM' hO'=> ?_);cases x with
  |goto l=>exact h1.elim
  |normal=>exact hq (t':=t2) (show k t2 .normal M' O' N' from h1) hM' hO'
  |ret=>exact hq (t':=t2) (show k t2 .ret M' O' N' from h1) hM' hO'
  |exit j=>exact hq (t':=t2) (show k t2 (.exit j) M' O' N' from h1) hM' hO'
  |panic av=>exact hq (t':=t2) (show k t2 (.panic av) M' O' N' from h1) hM' hO'
 |nil=>exact hs.ok (show gP run M O N k .nil from h) hM hO hd hq
 |r g r=>exact hs.ok (show gP run M O N k (.r g r)from h) hM hO hd hq
 |a a b=>exact hs.ok (show gP run M O N k (.a a b)from h) hM hO hd hq
 |br a b=>exact hs.ok (show gP run M O N k (.br a b)from h) hM hO hd hq
 |yes a=>exact hs.ok (show gP run M O N k (.yes a)from h) hM hO hd hq
 |no a=>exact hs.ok (show gP run M O N k (.no a)from h) hM hO hd hq
 |pick j=>exact hs.ok (show gP run M O N k (.pick j)from h) hM hO hd hq
end
theorem nN(hcf:cw P callf)(hm:P.follows .mixedOrders=true){kb:KBs}: ∀(c:Code),pX P n K kb c->il P n K c (vcC P n callf pu lf kb c)
 | .skip,_=>⟨λh _ _ hM hO _ _ _ hq=>E9 (hq h hM hO)⟩
 | .label l,_=>⟨λ{_ _ _ k t} h _ _ hM hO _ _ hd hq=>xp (k:=k) (t:=t) (g:=[]) (dC (pu:=pu) (lf:=lf) hcf hm<|.label l) ⟨rfl,h⟩ hM hO hd hq⟩
 | .ret,_=>⟨λ{_ _ _ k t} h _ _ hM hO _ _ hd hq=>xp (k:=k) (t:=t) (g:=[]) (dC (pu:=pu) (lf:=lf) hcf hm .ret) ⟨rfl,h⟩ hM hO hd hq⟩
 | .exit id,_=>⟨λ{_ _ _ k t} h _ _ hM hO _ _ hd hq=>xp (k:=k) (t:=t) (g:=[]) (dC (pu:=pu) (lf:=lf) hcf hm<|.exit id) ⟨rfl,h⟩ hM hO hd hq⟩
 | .region id ops draw,_=>qX λh=>dC (pu:=pu) (lf:=lf) hcf hm (.region id ops draw) h
 | .loop c,hk=>Tw (λh=>dC (pu:=pu) (lf:=lf) hcf hm (.loop c) h) (nN hcf hm c hk)
 | .scope c,hk=>Ra (λh=>dC (pu:=pu) (lf:=lf) hcf hm (.scope c) h) (nN hcf hm c hk)
 | .goto _,_=>⟨λh=>h.elim⟩
 | .rangeFunc g ps a b,_=>qX λh=>dC (pu:=pu) (lf:=lf) hcf hm (.rangeFunc g ps a b) h
 | .refuse _,_=>⟨λh=>h.elim⟩
 | .seq a b,hk=>aaA (nN hcf hm a hk.1) (nN hcf hm b hk.2)
 | .cond x a b,hk=>Tv (x:=x) (nN hcf hm a hk.1) (nN hcf hm b hk.2)
 | .block id c,hk=>by
  simp only[pX]at hk;show il P n K (.block id c) (Tu id (vcC P n callf pu lf kb c)<|kb id);cases hi:kb id with
  |none=>rw[hi]at hk;exact Q9 (nN hcf hm c hk)
  |some q=>rw[hi]at hk;exact ac6 hk
def gp(hcf:cw P callf)(hm:P.follows .mixedOrders=true){kb:KBs}{c:Code}(h:qU P n K kb c):il P n K c (vcC P n callf pu lf kb c):=nN hcf hm c h.ok
structure cj where
 f:FuncId
 args:lXF
 r:AV
 p:Prop
def cj.bS(P:Program)(c:cj):Prop:=c.p->aY P c.f c.args [] [] c.r []/\aj c.args=true/\c.r.pure=true
noncomputable def nO(T:List cj)(callf:c9):c9:=λf args O N tm=>match tm.gd with
 | .int (.ofNat i)::g=>match T[i]? with
  |some c=>cond (Nat.beq f c.f) (.ret c.r O N<|(tm.at N).told g<|dec c.p&&dec (args=c.args)) (callf f args O N tm)
  |none=>callf f args O N tm
 |_=>callf f args O N tm
inductive cy(P:Program):List cj->Prop
 |nil:cy P []
 |cons {c:cj} {T:List cj} (h:c.bS P) (hY:Nat.blt c.f dQ=true) (t:cy P T):cy P (c::T)
theorem cy.get: ∀{T:List cj},cy P T-> ∀{i:Nat}{c:cj},T[i]? =some c->c.bS P/\Nat.blt c.f dQ=true
 |[],_,i,c,h=>by simp at h
 |d::T,.cons h hY t,i,c,e=>by
  cases i with
  |zero=>simp at e;subst e;exact⟨h,hY⟩
  |succ i=>exact t.get (by simpa using e)
theorem bn{T:List cj}(h:cy P T)(hcf:cw P callf):cw P (nO T callf):=λf args O N tm=>by
 unfold nO;split
 ·rename_i i g hg;split
  ·rename_i c hc;cases hf:Nat.beq f c.f with
   |false=>exact hcf f args O N tm
   |true=>have:=afV hf;subst this;simp only[af2];obtain⟨hgood,hY⟩:=h.get hc;refine⟨λr' O1 N1 t1 e=> ?_,λav O1 N1 t1 e=>by cases e⟩;cases e;refine⟨⟨[_],rfl⟩,λhok ob hO=> ?_⟩;simp only[TM.told,TM.at,cF,afJ]at hok;obtain⟨k1,k2,k3⟩:=hgood (aR.1 hok.1.1);have ha:args=c.args:=aR.1 hok.1.2;grind[kR,L6]
  ·exact hcf f args O N tm
 ·exact hcf f args O N tm
theorem cA{c:cj}(hg:c.bS P)(hp:c.p){l:lXB}(k:cF l=true):cF (c.r.pure::(dec c.p&&dec (c.args=c.args))::(aj c.args&&true&&true)::l)=true:=by obtain⟨_,h2,h3⟩:=hg hp;rw[cF,cF,cF,h3,h2,aR.2 hp,aR.2 (rfl:c.args=c.args),k];rfl
def Mj(r:AV):Option lXF->Prop
 |some avs=>fO avs=r
 |none=>False
noncomputable def finV(P:Program)(rs:List ResultVar)(r:AV):VK:=λ_ x M O _=>match x with
 | .normal=>Mj r (nh P M O rs)
 | .ret=>Mj r (nh P M O rs)
 | .exit _=>False
 | .goto _=>False
 | .panic _=>False
theorem ac7{f:FuncId}{fn:Func}{body:Code}{args:lXF}{r:AV}{l:List (Nat×KB)}{t:GT}(hcf:cw P callf)(hm:P.follows .mixedOrders=true)(hf:P.funcs[f]? =some fn)(hname:(fn.name== "runtime.NumGoroutine")=false)(hb:fn.body=some body)(hn:args.length<=fn.ntmps)(hk:qU P fn.ntmps 0 (kbL l) body)(hu:r.und 0=true)(h:vcC P fn.ntmps callf pu lf (kbL l) body (jC 0 args .e) .e 0 (finV P fn.results.toList r) t):aY P f args [] [] r []:=by
 refine kr hf hname hb hn (afP _) hu rfl ?_;refine(gp hcf hm hk).ok h (eM args) bX.nil (.inl rfl) λ{t' x M' O' N' L' ob'} h1 hM hO=> ?_;have aux:Mj r (nh P M' O' fn.results.toList)-> ∃avs,nu P L' ob' fn.results.toList avs/\(sK.ret (fO avs)= .ret r/\ ∃xs,ob'=[]++xs):=λh=>by
  cases hr:nh P M' O' fn.results.toList with
  |none=>rw[hr]at h;exact h.elim
  |some avs=>rw[hr]at h;exact⟨avs,kQ hM hO hr,af1 _ h,ob',rfl⟩
 cases x with
 |normal=>exact aux h1
 |ret=>exact aux h1
 |_=>exact h1.elim
def Rb(f:Nat->Nat):AV->AV
 | .pt o off=> .pt (f o) off
 | .sr o S lo len=> .sr (f o) S lo len
 | .mp o=> .mp (f o)
 |av=>av
@[simp] def pl1:AV->Bool
 | .pt _ _=>true
 | .sr _ _ _ _=>true
 | .mp _=>true
 |av=>av.pure
def renS(f:Nat->Nat):AV->AV
 | .fn g fs cs=> .fn g (fs.map<|Rb f) (cs.map<|Rb f)
 |av=>Rb f av
def plS:AV->Bool
 | .fn _ fs cs=>fs.all pl1&&cs.all pl1
 |av=>pl1 av
def F2(f:Nat->Nat):Ob->Ob
 | .box T cells=> .box T (cells.map<|renS f)
 |X=>X
def plO:Ob->Bool
 | .dead=>true
 | .box _ cells=>cells.all plS
 | .row _ _ rows=>ak rows
 | .mp _ vals=>aj vals
 | .lp _ _ _ _=>false
theorem Ml{f:Nat->Nat}{av:AV}(h:pl1 av=true):av.ren f=Rb f av:=by cases av<;>first|rfl|(simp only[AV.ren,Rb];done)|exact gi _ _ h
theorem xq{f:Nat->Nat}: ∀{l:lXF},l.all pl1=true->bt f l=l.map (Rb f)
 |[],_=>rfl
 |x::l,h=>by simp only[aha,afJ]at h;simp only[bt,af9,Ml h.1,xq h.2]
theorem Dt{f:Nat->Nat}{av:AV}(h:plS av=true):av.ren f=renS f av:=by
 cases av with
 |fn g fs cs=>simp only[plS,afJ]at h;simp only[AV.ren,renS,xq h.1,xq h.2]
 |_=>exact Ml h
theorem Tx{f:Nat->Nat}{X:Ob}(h:plO X=true):X.ren f=F2 f X:=by
 cases X with
 |dead=>rfl
 |box T cells=>
  simp only[Ob.ren,F2,plO]at*;congr 1;induction cells with
  |nil=>rfl
  |cons c cs ih=>grind[bt,Dt]
 |row T S rows=>simp only[Ob.ren,F2,plO]at*;rw[ia (N:=0) (λ_ h=>by cases h) rows (fa 0 rows h)]
 |mp keys vals=>grind[Ob.ren,F2,plO,ca]
 |lp _ _ _ _=>cases h
structure bf where
 p:Prop
 x:AX
 L:Loc
 sel:lXC
 ob:lXE
def nmS(sel:lXC)(N:Nat)(L:Loc):List (Option AV):=L.map λp=>some (renS (bM sel N) p.2)
def obS(sel:lXC)(N:Nat)(ob:lXE):List (Option Ob):=ob.map λX=>some (F2 (bM sel N) X)
def bf.fJ(K:Nat)(o:bf):Bool:=fI o.x&&(mG o.sel&&((range K).all (λi=>o.sel[i]? ==some i)&&(o.L.all (λp=>plS p.2)&&o.ob.all plO)))
def bf.ends(o:bf)(x:AX)(M:Tri AV)(O:Tri Ob)(N:Nat):Prop:=o.p/\x=o.x/\(o.L.map λp=>M.get p.1)=nmS o.sel N o.L/\o.sel.map O.get=obS o.sel N o.ob
def ku(l:List bf):VK:=λt x M O N=>match t with
 | .pick j=>match l[j]? with
  |some o=>o.ends x M O N
  |none=>False
 |_=>False
theorem bf.view{o:bf}(hf:o.fJ K=true){x:AX}{M:Tri AV}{O:Tri Ob}{N:Nat}(h:o.ends x M O N){L1:Loc}{ob1:lXE}(hM:cJ M L1)(hO:bX O N ob1):L8 K L1 ob1 o.L o.ob o.sel/\fI x=true/\x=o.x:=by
 simp only[bf.fJ,afJ]at hf;obtain⟨f1,f2,f3,f4,f5⟩:=hf;obtain⟨_,rfl,h1,h2⟩:=h;have hl1:ob1.length=N:=hO.1;have h1':(o.L.map (·.1)).map M.get=ni (bM o.sel N) o.L:=by rw[List.map_map];refine h1.trans (agU λp hp=> ?_);grind[Dt]
 have h2':o.sel.map O.get=(o.ob.map λX=>X.ren<|bM o.sel N).map some:=by grind[obS,agU,Tx]
 refine⟨⟨ju f2,?_,λi s X hi hX=> ?_,λi hi=> ?_,λt av e=> ?_⟩,f1,rfl⟩
 ·have:=af1 length h2';simpa using this
 ·have e1:(o.sel.map O.get)[i]? =some (O.get s):=by rw[afY,hi];rfl
  rw[h2',afY,afY,hX]at e1;simp only[af6,afM]at e1;exact⟨_,by rw[<-hO.2];exact e1.symm,by rw[hl1];exact .same _⟩
 ·simp_all
 ·rw[<-hM t,hl1];exact lV h1' t av e
theorem kv{c:Code}{V:VC}(hv:il P n K c V){L:Loc}{ob:lXE}{l:List bf}{t:GT}(h:V (en L) (dZ ob) ob.length (ku l) t)(hf:l.all (bf.fJ K)=true){df:Option Nat}{Q:ep}(hd:kL df c)(hq: ∀o∈l,o.p->Q o.x o.L o.ob):awp df P n K [] c Q L ob:=by
 refine oE (hv.ok h (iB L) (fQ ob) hd λ{t' x M' O' N' L' ob'} h1 hM hO=> ?_);cases t' with
 |pick j=>
  simp only[ku]at h1;split at h1
  ·rename_i o ho;have hm:=agy ho;obtain⟨v,w,rfl⟩:=bf.view (agc.1 hf o hm) h1 hM hO;exact⟨o.L,o.ob,o.sel,v,w,hq o hm h1.1⟩
  ·exact h1.elim
 |_=>exact h1.elim
theorem aaB{c:Code}{V:VC}(hv:il P n K c V){L L':Loc}{ob ob':lXE}{x:AX}{sel:lXC}{t:GT}(h:V (en L) (dZ ob) ob.length (ku [⟨True,x,L',sel,ob'⟩]) t)(hf:bf.fJ K ⟨True,x,L',sel,ob'⟩=true):bo P n K c L ob x L' ob':=λdf Q hd hq=>kv hv h (by simp[hf]) hd λo ho _=>by simp only[agZ]at ho;subst ho;exact hq
theorem anyV{id:Nat}{c:Code}{m:Nat}{t:Nat->Bool}{xr:Nat->AX}{xn:AX}{Lr:Nat->Loc}{Lx:Loc}{obr:Nat->lXE}{obx:lXE}{V:Nat->VC}{Vx:VC}(L:Nat->Loc)(Bs:Nat->lXE)(k:Nat)(outs:Nat->List bf)(g:Nat->GT)(gx:GT)(sx:lXC)(hv: ∀i,i<m->il P n K c (V i))(hvx:il P n K c Vx)(hxr: ∀i,xr i≠ .normal)(hxn:xn≠ .normal)(hk: ∀i,(Bs i).length=k)(h: ∀i,i<m->V i (en<|L i) (dZ<|Bs i) k (ku<|outs i) (g i))(hf: ∀i,i<m->(outs i).all (bf.fJ K)=true)(hq: ∀i,i<m-> ∀o∈outs i,o.p->(o.x= .normal/\t i=false/\o.L=L (i+1)/\o.ob=Bs (i+1))\/(t i=true/\o.x=xr i/\o.L=Lr i/\o.ob=obr i))(hx:Vx (en<|L m) (dZ<|Bs m) k (ku [⟨True,xn,Lx,sx,obx⟩]) gx)(hfx:bf.fJ K ⟨True,xn,Lx,sx,obx⟩=true):(dA m t=true->bo P n K (.block id<|.loop c) (L 0) (Bs 0) (lY id<|xr<|lB m t) (Lr<|lB m t) (obr<|lB m t))/\(dA m t=false->bo P n K (.block id<|.loop c) (L 0) (Bs 0) (lY id xn) Lx obx):=by
 have go: ∀{df:Option Nat}{Q:ep},kL df (.block id<|.loop c)-> ∀M,M<=m->(∀i,i<M->t i=false)->awp df P n K [] c (λx L' ob'=>(x= .normal/\False)\/(x≠ .normal/\Q (lY id x) L' ob')) (L M) (Bs M)->awp df P n K [] (.block id<|.loop c) Q (L 0) (Bs 0):=λ{df Q} hd M hM ht hl=>by
  have hd':kL df c:=hd.imp (λe=>e) λe=>by simpa only[Code.inR]using e
  refine et (ns L Bs (λi=>i<=M) (λi=>M-i) 0 (agn _) (Sub.refl _) rfl λi hi=> ?_);by_cases e:i=M
  ·subst e;refine vS hl λx L' ob' q=> ?_;rcases q with⟨_,q⟩|⟨q1,q2⟩
   ·exact q.elim
   ·have:=qV (df:=df) (id:=id) (Q:=Q) q2;cases x with
    |normal=>exact absurd rfl q1
    |_=>exact this
  ·have hlt:i<m:=by omega
   refine kv (hv i hlt) ((hk i).symm▸h i hlt) (hf i hlt) hd' λo ho hp=> ?_;rcases hq i hlt o ho hp with⟨e1,_,e3,e4⟩|⟨e1,_⟩
   ·rw[e1,e3,e4];exact⟨i+1,by omega,by omega,Sub.refl _,rfl⟩
   ·rw[ht i oaa]at e1;cases e1
 refine⟨λht df Q hd hQ=> ?_,λht df Q hd hQ=> ?_⟩
 ·obtain⟨hj,ht,hlt⟩:=iY ht;have hd':kL df c:=hd.imp (λe=>e) λe=>by simpa only[Code.inR]using e
  refine go hd (lB m t) oaa hlt (kv (hv _ hj) ((hk _).symm▸h _ hj) (hf _ hj) hd' λo ho hp=> ?_);rcases hq _ hj o ho hp with⟨_,e2,_⟩|⟨_,e2,e3,e4⟩
  ·rw[ht]at e2;cases e2
  ·rw[e2,e3,e4];exact .inr ⟨hxr _,hQ⟩
 ·have ht:=bO.1 ht;have hd':kL df c:=hd.imp (λe=>e) λe=>by simpa only[Code.inR]using e
  refine go hd m (afP _) ht (kv hvx ((hk m).symm▸hx) (by rw[aha,hfx];rfl) hd' λo ho _=> ?_);simp only[agZ]at ho;subst ho;exact .inr ⟨hxn,hQ⟩
def nxW(t:Bool)(L1:Loc)(ob1:lXE)(La:Loc)(sel:lXC)(oba:lXE):bf:=⟨t=false/\La=L1/\oba=ob1,.normal,La,sel,oba⟩
def htW(t:Bool)(xr:AX)(Lr:Loc)(sel:lXC)(obr:lXE):bf:=⟨t=true,xr,Lr,sel,obr⟩
def Du(t:Bool)(xr:AX)(L1:Loc)(ob1:lXE)(Lr:Loc)(obr:lXE)(o:bf):Prop:=o.p->(o.x= .normal/\t=false/\o.L=L1/\o.ob=ob1)\/(t=true/\o.x=xr/\o.L=Lr/\o.ob=obr)
def Ty{t:Bool}{xr:AX}{L1 La Lr:Loc}{ob1 oba obr:lXE}{sel:lXC}:Du t xr L1 ob1 Lr obr (nxW t L1 ob1 La sel oba):=λh=> .inl ⟨rfl,h.1,h.2.1,h.2.2⟩
def ac8{t:Bool}{xr:AX}{L1 Lr:Loc}{ob1 obr:lXE}{sel:lXC}:Du t xr L1 ob1 Lr obr (htW t xr Lr sel obr):=λh=> .inr ⟨h,rfl,rfl,rfl⟩
theorem xu{p:bf->Prop}: ∀o∈([]:List bf),p o:=λo h=>by simp at h
def sY{p:bf->Prop}{o:bf}{l:List bf}(h:p o)(t: ∀o∈l,p o): ∀o'∈o::l,p o':=oaz
section
variable{id:Nat}{c:Code}{k:KB}{A B:Prop}
theorem aaC{m:Nat}{t:Nat->Bool}(h:k.p->(dA m t=true->A)/\(dA m t=false->B))(ht: ∀i,t i=false)(hk:k.hit=false)(hb:B->bo P n K (.block id c) k.L0 k.ob0 k.x2 k.L2 k.ob2):cx P n K id c k:=⟨λ_ e=>(by rw[hk]at e;cases e),(by grind[bO])⟩
def F3(h:k.p->(k.hit=true->A)/\(k.hit=false->B))(ha:A->bo P n K (.block id c) k.L0 k.ob0 k.x1 k.L1 k.ob1)(hb:B->bo P n K (.block id c) k.L0 k.ob0 k.x2 k.L2 k.ob2):cx P n K id c k:=⟨λhp e=>ha ((h hp).1 e),λhp e=>hb ((h hp).2 e)⟩
end
theorem bV{K:Nat}{o:bf}(h1:fI o.x=true)(h2:mG o.sel=true)(h3:(range K).all (λi=>o.sel[i]? ==some i)=true)(h4:o.L.all (λp=>plS p.2)=true)(h5:o.ob.all plO=true):bf.fJ K o=true:=by simp only[bf.fJ,h1,h2,h3,h4,h5,agQ]
def qY{K:Nat}:([]:List bf).all (bf.fJ K)=true:=rfl
theorem lZ{K:Nat}{o:bf}{l:List bf}(h:bf.fJ K o=true)(k:l.all (bf.fJ K)=true):(o::l).all (bf.fJ K)=true:=by simp only[aha,h,k,agQ]
theorem joinV{α:Type}{c:Code}{V:VC}(hv:il P n K c V){L:Loc}{ob:lXE}(Lj:α->Loc)(x:α)(vs:List α){sel:lXC}{obj:lXE}{t:GT}(h:V (en L) (dZ ob) ob.length (ku<|vs.map λv=>⟨x=v,.normal,Lj v,sel,obj⟩) t)(hf: ∀v,bf.fJ K ⟨x=v,.normal,Lj v,sel,obj⟩=true):bo P n K c L ob .normal (Lj x) obj:=by intro df Q hd hq;refine kv hv h (by simp only[List.all_map,agc];exact λv _=>hf v) hd λo ho hp=> ?_;obtain⟨v,_,rfl⟩:=agm.1 ho;have hp:x=v:=hp;subst hp;exact hq
def sZ{id:Nat}{c:Code}{L0 L1:Loc}{ob0 ob1:lXE}{p:Prop}(h:p->bo P n K (.block id c) L0 ob0 .normal L1 ob1):cx P n K id c ⟨L0,ob0,false,.ret,[],[],.normal,L1,ob1,p⟩:=⟨λ_ e=>oao,λhp _=>h hp⟩
end
def brP{v:Bool}{A B:Prop}(f:v=true->A)(g:v=false->B):(v=true/\A)\/(v=false/\B):=by grind
def aO{v:Bool}{A B:Prop}(f:v=true->A)(g:v=false->B):A\/B:=by grind
def lf(o:bf)(N:Nat)(h:o.p):o.p/\o.x=o.x/\nmS o.sel N o.L=nmS o.sel N o.L/\obS o.sel N o.ob=obS o.sel N o.ob:=⟨h,rfl,rfl,rfl⟩
abbrev wy(l:List bf)(j:Nat):bf:=l.getD j ⟨False,.normal,[],[],[]⟩
theorem aL{α β:Type}(f:α->β)(l:List α):(map f l).length=l.length:=afW f
def F4{x y:Int}(h:(x !=y)=true):x≠y:=by simpa using h
theorem fY{x y:Int}(h:(x !=y)=false):x=y:=by simpa using h
def an{A B:Prop}(h:A)(k:B):A/\B:=⟨h,k⟩
def bE{x v:Bool}(h:x=v):AV.v (.bool v)=AV.v (.bool x):=by rw[h]
def iE{x v:Int}(h:x=v):AV.v (.int .i64 v)=AV.v (.int .i64 x):=by rw[h]
def vE{x v:AV}(h:x=v):v=x:=h.symm
def bB{A B:Prop}(h:A)(e:A=B):B:=e▸h
end Go.Am
end
