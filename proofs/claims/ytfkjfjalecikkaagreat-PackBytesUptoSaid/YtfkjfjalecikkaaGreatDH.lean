/- Rings of calls: both answers are the same. Words 1 to 3: both answers are the same. Words 2: both answers are the same. Words 1: both answers are the same. Words 1: both answers are the same. Words 3: both answers are the same. Edges: both answers are the same. Edges with acts. Edges: both answers are the same. Rows of bytes that are appended to; a number behind bytes (the document's answer). Texts behind bytes (the document's answer). Guards behind bytes (the document's answer). Edges behind bytes (the document's answer). A net's bytes (the document's answer). Writers: numbers, texts. Lists. Guards behind a writer's bytes. -/
import Derived.Test.YtfkjfjalecikkaaGreatDG
set_option linter.defProp false
open Go.IntKind (wrap)
noncomputable section
open List (length map range replicate)
set_option maxRecDepth 100000
namespace Go.Proofs.YtfkjfjalecikkaaGreat
open Go.Am
noncomputable def clR(n:Net)(r:Int):lXA:=n.aa.flatMap λs=>bif s.aH !=r then []else s.ah.flatMap tgC
noncomputable def gK(n:Net):List lXC:=(range n.rules.length).map λr=>(clR n ((r:Nat):Int)).map Int.toNat
theorem yu(n:Net):(gK n).length=n.rules.length:=by simp[gK]
theorem aby{e:Edge}{x:Int}:x∈tgC e↔e.op=2/\x=e.n:=by unfold tgC;grind
section
variable{n:Net}
theorem oS{r x:Int}:x∈clR n r↔ ∃s∈n.aa,s.aH=r/\ ∃e∈s.ah,e.op=2/\x=e.n:=by grind[clR,aby]
theorem EN(hn:cg n){r x:Int}(h:x∈clR n r):0<=x/\x<(n.rules.length:Int):=by obtain⟨s,hs,_,e,he,h1,rfl⟩:=oS.1 h;exact hn.call s hs e he h1
theorem yv{a c:Nat}(ha:a<n.rules.length):Edg (gK n) a c↔ ∃x∈clR n ((a:Nat):Int),x.toNat=c:=by grind[ae,gK,Edg]
theorem gK_wf(hn:cg n):Wf (gK n):=λR hR c hc=>by obtain⟨a,ha,rfl⟩:=bZ hR;rw[yu]at ha⊢;obtain⟨x,hx,rfl⟩:=(yv ha).1 (show Edg (gK n) a c from hc);have:=EN hn hx;omega
theorem gK_T(hn:cg n){a:Nat}(ha:a<n.rules.length)(x:Int):x∈clR n ((a:Nat):Int)↔0<=x/\Edg (gK n) a x.toNat:=by
 rw[yv ha];constructor
 ·intro h;exact⟨(EN hn h).1,x,h,rfl⟩
 ·rintro⟨h0,y,hy,e⟩;have:=(EN hn hy).1;grind
end
section
variable(n:Net)(i0:Nat)(w:gf)(i:Nat)
theorem RZ(y:gf):cK n i0 w i y (ae n.aa i).ah.length=((ae n.aa i).ah.flatMap tgC).foldl gS y:=tF (ae n.aa i).ah tgC y (ac:=cK n i0 w i y) rfl λk _=>Ci n i0 w i y k _
theorem R0(y:gf):Ep n i0 w i y=((λs:State=>bif s.aH !=ae w.2.2 (w.1-1)then []else s.ah.flatMap tgC)<|ae n.aa i).foldl gS y:=by unfold Ep;simp only[RZ];grind
theorem Ha:pJ n i0 w i=true↔(ae n.aa i).aH=ae w.2.2 (w.1-1)/\ ∃e∈(ae n.aa i).ah,e.op=2/\(i0:Int)=e.n:=by
 unfold pJ Eo;rw[afJ,fD];refine and_congr oaj ?_;constructor
 ·grind[rM,aw]
 ·rintro⟨e,he,h1,h2⟩;obtain⟨k,hk,rfl⟩:=bZ he;refine⟨k,hk,?_⟩;grind[rM]
end
theorem acP{n:Net}(hn:cg n){i0:Nat}(hi:i0<n.rules.length):uj n i0 (GV n i0)=true↔Rp (gK n) i0 i0:=by
 have hs:=search (g:=gK n) (gK_wf hn) (i0:=i0) (by rw[yu];exact hi) (T:=λw=>clR n<|ae w.2.2<|w.1-1) (it:=eH n i0) (t:=kE n i0) (by
   show(1,replicate (length<|map aC n.rules) false,[(i0:Int)])=_;rw[yu,afW]) (λk _ _=>by
   exact tF n.aa (λs:State=>bif s.aH !=ae (eH n i0 k).2.2 ((eH n i0 k).1-1)then []else s.ah.flatMap tgC) _ (ac:=db n i0<|eH n i0 k) rfl λi _=>R0 n i0 _ i _) (λw hp hk x=>by
   obtain⟨s,h1,h2,_⟩:=hp.pl (w.1-1) oaa;grind[yu,gK_T]) (λw hp=>by
   unfold kE;by_cases hk:0<w.1
   ·rw[show decide (((w.1:Nat):Int)>0)=true from afT oaa,af2];unfold Er;rw[fD];constructor
    ·grind[Ha,oS,aw]
    ·intro h;obtain⟨s,hs,h3,h4⟩:=oS.1 (h hk);obtain⟨i,h1,rfl⟩:=bZ hs;exact⟨i,h1,(Ha n i0 w i).2 ⟨h3,h4⟩⟩
   simp_all) (Xf hn i0 hi).1
 rw[<-hs];show decide ((((GV n i0).1:Nat):Int)>0)=true↔0<(GV n i0).1;rw[decide_eq_true_eq];omega
def acQ(n:Net):Prop:= ∀s∈n.aa,∀e∈s.ah,e.op=2->(aF n.rules e.n).bN=(aF n.rules s.aH).bN
theorem R3{n:Net}(hr: ∀s∈n.aa,0<=s.aH/\s.aH<(n.rules.length:Int)){a c:Nat}:Edg (gF n) a c↔ ∃s∈n.aa,s.aH.toNat=a/\ ∃e∈s.ah,e.op=2/\(aF n.rules e.n).bN=true/\e.n.toNat=c:=by
 have e:ae (gF n) a=(ae (pK n) a).map Int.toNat:=by unfold gF ae;rw[afY];cases (pK n)[a]? <;>rfl
 have ht: ∀(x:Int)(d:Edge),x∈tgL n d↔d.op=2/\(aF n.rules d.n).bN=true/\x=d.n:=λx d=>by unfold tgL;grind
 grind[Edg,tC]
theorem abz{n:Net}(hn:cg n)(hr: ∀s∈n.aa,0<=s.aH/\s.aH<(n.rules.length:Int))(hx:acQ n):iS (gF n)=r36 n:=by
 have hed: ∀a c,Edg (gF n) a c↔a<n.rules.length/\(ae n.rules a).bN=true/\(ae n.rules c).bN=true/\Edg (gK n) a c:=λa c=>by
  rw[R3 hr];constructor
  ·rintro⟨s,hs,h1,d,hd,h3,h4,rfl⟩;have hrs:=hr s hs;have hlx:=hx s hs d hd h3;have ha:a<n.rules.length:=by omega
   have e1:aF n.rules s.aH=ae n.rules a:=by rw[<-h1];rfl
   refine⟨ha,by rw[<-e1,<-hlx];exact h4,h4,(yv ha).2 ⟨d.n,oS.2 ⟨s,hs,by omega,d,hd,h3,rfl⟩,rfl⟩⟩
  ·rintro⟨ha,h1,h2,h3⟩;obtain⟨x,hx2,rfl⟩:=(yv ha).1 h3;obtain⟨s,hs,h4,d,hd,h5,rfl⟩:=oS.1 hx2;exact⟨s,hs,by omega,d,hd,h5,h2,rfl⟩
 have hgo: ∀a c,Rp (gK n) a c->a<n.rules.length->(ae n.rules a).bN=true->Rp (gF n) a c/\(ae n.rules c).bN=true:=λa c h=>by
  have one: ∀a c,a<n.rules.length->(ae n.rules a).bN=true->Edg (gK n) a c->Edg (gF n) a c/\(ae n.rules c).bN=true:=λa c ha hl e=>by obtain⟨x,hx2,rfl⟩:=(yv ha).1 e;obtain⟨s,hs,h4,d,hd,h5,rfl⟩:=oS.1 hx2;have hlx:=hx s hs d hd h5;rw[h4]at hlx;have h6:(ae n.rules d.n.toNat).bN=true:=hlx.trans hl;simp_all
  induction h with
  |one e=>intro ha hl;obtain⟨h1,h2⟩:=one _ _ ha hl e;exact⟨.one h1,h2⟩
  |step _ e ih=>intro ha hl;obtain⟨h1,h2⟩:=ih ha hl;have hb:=yr e;rw[yu]at hb;obtain⟨h3,h4⟩:=one _ _ hb h2 e;exact⟨.step h1 h3,h4⟩
 have h:dA n.rules.length (n9 n)=true↔iS (gF n)=true:=by
  rw[fD];unfold iS;rw[aR];constructor
  ·grind[n9,acP]
  ·rintro⟨i,h⟩;have h1:i<n.rules.length/\(ae n.rules i).bN=true:=by grind[h.head]
   refine⟨i,h1.1,?_⟩;unfold n9;rw[ag0,h1.2,ags];exact(acP hn h1.1).2 (h.mono λa b e=>((hed a b).1 e).2.2.2)
 show iS (gF n)=dA n.rules.length (n9 n);simp_all
theorem mR(n:Net)(s r:Int):r62 n s r=r67 n s r:=rfl
theorem oi(g:G):r81 g=r93 g:=rfl
def oX(x:Int):Prop:= -2147483648<=x/\x<=2147483647
def aeC{s:List (Int×Int)}(h: ∀r∈s,oX r.1/\oX r.2){i:Nat}(hi:i<s.length):rr s i=nU s i:=by unfold rr nU;have h1:=(h _<|aw hi).1;have h2:=(h _<|aw<|show i-1<s.length by omega).2;grind[oX,wrap_i64]
def aeD{s:List (Int×Int)}(h: ∀r∈s,oX r.1/\oX r.2):r64 s=r91 s:=by
 have e:DU s=oO s:=by
  have: ∀i,i<s.length->rr s i=nU s i:=λi hi=>aeC h hi;cases e2:oO s with
  |true=>obtain⟨i,hi,ht⟩:=fD.1 e2;exact fD.2 ⟨i,hi,(this i hi).trans ht⟩
  |false=>exact bO.2 λi hi=>(this i hi).trans (bO.1 e2 i hi)
 unfold r64 r91;rw[e]
theorem lexOf{n:Net}(h3:r33 n=true):acQ n:=λs hs e he h=>by obtain⟨i,hi,rfl⟩:=bZ hs;obtain⟨k,hk,rfl⟩:=bZ he;have h68:=(qi h3 hi).2 k hk;grind[r68]
section
variable(n:Net)
def X27(r:bI)(i:Nat):Bool:= !(r67 n r.start i)||(!(r67 n r.stop i)||((r.start==r.stop)||(decide ((length (map aQ (aF n.aa r.stop).ah):Int)>0)||((!r.bN&&(r.eF||(r.lazy||r.mode !=0)))||((r.bN&&r.left)||(decide (r.mode<0)||(decide (r.mode>=(length (map a9 n.bu):Int))||(bif r.bN&& !r.eF then(decide (r.type<1)||decide (r.type>(length (map a9 n.types):Int)))else r.type !=0))))))))
theorem KN(i:Nat):l9 n i=(X27 n (ae n.rules i) i||((ae n.rules i).bN&&(!(ae n.rules i).eF&&dec ((ae n.rules i).type∈cr n i)))):=by unfold l9 X27;simp only[mR];grind
theorem YT(i:Nat):l8 n i=(X27 n (ae n.rules i) i||((ae n.rules i).bN&&(!(ae n.rules i).eF&&ry n i))):=by unfold l8 X27;grind
theorem Hb(i:Nat)(x:Int):x∈cr n i↔ ∃j,j<i/\(ae n.rules j).bN=true/\(ae n.rules j).eF=false/\x=(ae n.rules j).type:=by
 induction i with
 |zero=>exact⟨λh=>absurd (show x∈([]:lXA)from h) oaj,λ⟨j,hj,_⟩=>by omega⟩
 |succ i ih=>
  show x∈D5 n i (cr n i)↔_;have e:x∈D5 n i (cr n i)↔x∈cr n i\/((ae n.rules i).bN=true/\(ae n.rules i).eF=false/\x=(ae n.rules i).type):=by unfold D5;grind
  grind
theorem aeE:r27 n=r32 n:=by
 have h:(∀i,i<n.rules.length->l9 n i=false)↔ ∀i,i<n.rules.length->l8 n i=false:=by
  constructor
  ·intro h i hi;have h1:=h i hi;rw[KN]at h1;rw[YT];simp only[af4]at h1⊢;refine⟨h1.1,?_⟩;cases hl:(ae n.rules i).bN with
   |false=>rfl
   |true=>
    cases hf:(ae n.rules i).eF with
    |true=>rfl
    |false=>
     rw[agJ,ags,ags];refine bO.2 λj hj=> ?_;unfold ud;refine beq_eq_false_iff_ne.2 λe=> ?_;have hx:=h1.1;unfold X27 at hx;rw[hl,hf]at hx;simp only[agJ,agQ,af2,af4,aga]at hx;have hge:1<=(ae n.rules i).type:=by have:=hx.2.2.2.2.2.2.2.2.1;omega
     have hj1:=h j oaa;rw[KN]at hj1;simp only[af4]at hj1;cases hlj:((ae n.rules j).bN&& !(ae n.rules j).eF)with
     |false=>grind[X27]
     |true=>simp only[afJ,af3]at hlj;have hm:=h1.2;rw[hl,hf,agJ,ags,ags]at hm;have:dec ((ae n.rules i).type∈cr n i)=true:=(by grind[aR,Hb]);rw[this]at hm;cases hm
  ·intro h i hi;have h1:=h i hi;rw[YT]at h1;rw[KN];simp only[af4]at h1⊢;refine⟨h1.1,?_⟩;cases hl:(ae n.rules i).bN with
   |false=>rfl
   |true=>
    cases hf:(ae n.rules i).eF with
    |true=>rfl
    |false=>
     rw[agJ,ags,ags];have hm:=h1.2;rw[hl,hf,agJ,ags,ags]at hm;cases hd:dec ((ae n.rules i).type∈cr n i)with
     |false=>rfl
     |true=>obtain⟨j,hj,_,_,e⟩:=(Hb n i _).1 (aR.1 hd);have:=bO.1 hm j hj;grind[ud]
 show(!dA n.rules.length (l9 n))= !dA n.rules.length (l8 n);congr 1;cases e1:dA n.rules.length (l8 n)with
 |false=>grind[bO]
 |true=>
  cases e2:dA n.rules.length (l9 n)with
  |true=>rfl
  |false=>grind[bO]
end
theorem beqS{a b:ByteArray}:cT (Array.toList<|ByteArray.data a) (Array.toList<|ByteArray.data b)=true↔a=b:=by
 rw[qJ,ahd];constructor
 ·intro h;cases a;simp_all
 ·intro h;rw[h]
theorem beqE{a:ByteArray}:cT (Array.toList<|ByteArray.data a) []=true↔a.size=0:=by
 rw[qJ,ahd];constructor
 ·intro h;have:=af1 length h;simpa using this
 simp_all
section
variable(l:lXD)
def NmOk:Prop:= ∀i,i<l.length->(0<(ae l i).size/\(ae l i).size<=40)/\ ∀j,j<i->ae l j≠ae l i
theorem YU(i:Nat)(x:ByteArray):x∈gY l i↔ ∃j,j<i/\x=ae l j:=by
 induction i with
 |zero=>exact⟨λh=>absurd (show x∈([]:lXD)from h) oaj,λ⟨j,hj,_⟩=>by omega⟩
 |succ i ih=>grind[VD,gY]
theorem N9:r60 l=true↔NmOk l:=by unfold r60 D4;rw[af3,bO];refine forall_congr' λi=>imp_congr_right λhi=> ?_;grind[xL,beqE,aR,YU]
theorem Ct(f:Bool)(i:Nat):oP l f i=false↔ ∀j,j<i->ae l j≠ae l i:=by grind[oP,bO,xJ,beqS]
theorem abA:r66 l false=true↔NmOk l:=by unfold r66 vk;rw[af3,bO];refine forall_congr' λi=>imp_congr_right λhi=> ?_;grind[nV,Ct]
theorem aeF:r60 l=r66 l false:=by grind[N9,abA]
theorem tG(i:Nat):ae (List.drop 1 l) i=ae l (i+1):=by grind[ae]
theorem YV:r66 l true=true↔(0<l.length->(ae l 0).size=0)/\NmOk (List.drop 1 l):=by
 unfold r66 vk;rw[af3,bO];have e0:nV l true 0=false↔(ae l 0).size=0:=by grind[nV,beqE]
 have es: ∀i,nV l true (i+1)=false↔(0<(ae l<|i+1).size/\(ae l<|i+1).size<=40)/\ ∀j,j<i+1->ae l j≠ae l (i+1):=(by grind[nV,Ct]);constructor
 ·intro h;refine⟨λhl=>e0.1 (h 0 hl),λi hi=> ?_⟩;grind[tG]
 ·rintro⟨h0,h⟩ i hi;cases i with
  |zero=>exact e0.2 (h0 hi)
  |succ i=>
   obtain⟨h1,h2⟩:=h i (by rw[ag4];omega);rw[tG]at h1 h2;refine(es i).2 ⟨h1,λj hj=> ?_⟩;cases j with
   |zero=>grind
   |succ j=>grind[tG]
theorem aeG:r61 l=(!(decide<|(length (map a9 l):Int)<1)&&(!(decide<|(length (map a9 l):Int)>20)&&r66 l true)):=by grind[r61,YV,N9,beqE]
end
theorem YW(n:Net):vo n=vn n:=by unfold vo vn;congr 1;grind[xN,xM]
def le_not(x y:Int):decide (x<=y)= !(decide<|x>y):=by grind
theorem aeH(n:Net):r26 n=r31 n:=by grind[r26,r31,YW,aeF,aeG]
theorem YX(n:Net)(i k:Nat)(x:Int):x∈cP n i k↔ ∃j,j<k/\x=(ae (ae n.aa i).ah j).n:=by
 induction k with
 |zero=>exact⟨λh=>absurd (show x∈([]:lXA)from h) oaj,λ⟨j,hj,_⟩=>by omega⟩
 |succ k ih=>
  show x∈D8 n i k (cP n i k)↔_;have e:x∈D8 n i k (cP n i k)↔x∈cP n i k\/x=(ae (ae n.aa i).ah k).n:=by
   unfold D8;cases hd:dec ((ae (ae n.aa i).ah k).n∈cP n i k)with
   |true=>grind[aR]
   |false=>simp_all
  grind
theorem kZ(g:G):r92 g=true↔g.op=0/\g.n=0/\cT (Array.toList<|ByteArray.data g.name) []=true/\((g.kids.length:Nat):Int)=0:=by grind[r92]
theorem Hc{p:Prop}:dec p=false↔ ¬p:=by rw[<-Bool.not_eq_true,aR]
section
variable(n:Net)(i k:Nat)(e:Edge)
theorem ed0(he:ae (ae n.aa i).ah k=e)(hset:r64 e.set=r91 e.set)(h0:e.op=0):fh n i k=false↔r68 n (ae n.aa i) i e=true/\(e.op=4->e.n∉cP n i k):=by unfold fh r68;rw[he,hset,h0,mR];generalize ae n.aa i=s;simp only[show((0:Int) !=3)=true from rfl,show((0:Int)==0)=true from rfl,show((0:Int)==1)=false from rfl,show((0:Int)==2)=false from rfl,show((0:Int)==4)=false from rfl,show((0:Int)==5)=false from rfl,show((0:Int)==6)=false from rfl,show((0:Int)==7)=false from rfl,show decide ((0:Int)<0)=false from rfl,show decide (wrap .i64 0>=8)=false from rfl,af2,af8,af4,afJ,af3,agr,ag0,Hc,kZ,r77,oi,aga,afW,agI,ahd];grind
theorem ed1(he:ae (ae n.aa i).ah k=e)(hset:r64 e.set=r91 e.set)(h0:e.op=1):fh n i k=false↔r68 n (ae n.aa i) i e=true/\(e.op=4->e.n∉cP n i k):=by unfold fh r68;rw[he,hset,h0,mR];generalize ae n.aa i=s;simp only[show((1:Int) !=3)=true from rfl,show((1:Int)==0)=false from rfl,show((1:Int)==1)=true from rfl,show((1:Int)==2)=false from rfl,show((1:Int)==4)=false from rfl,show((1:Int)==5)=false from rfl,show((1:Int)==6)=false from rfl,show((1:Int)==7)=false from rfl,show decide ((1:Int)<0)=false from rfl,show decide (wrap .i64 1>=8)=false from rfl,af2,af8,af4,afJ,af3,agr,ag0,Hc,kZ,r78,oi,aga,afW,agI,ahd];grind
theorem ed2(he:ae (ae n.aa i).ah k=e)(hset:r64 e.set=r91 e.set)(h0:e.op=2):fh n i k=false↔r68 n (ae n.aa i) i e=true/\(e.op=4->e.n∉cP n i k):=by unfold fh r68;rw[he,hset,h0,mR];generalize ae n.aa i=s;simp only[show((2:Int) !=3)=true from rfl,show((2:Int)==0)=false from rfl,show((2:Int)==1)=false from rfl,show((2:Int)==2)=true from rfl,show((2:Int)==4)=false from rfl,show((2:Int)==5)=false from rfl,show((2:Int)==6)=false from rfl,show((2:Int)==7)=false from rfl,show decide ((2:Int)<0)=false from rfl,show decide (wrap .i64 2>=8)=false from rfl,af2,af8,af4,afJ,af3,agr,ag0,Hc,kZ,r79,oi,aga,afW,agI,ahd];grind
theorem ed3(he:ae (ae n.aa i).ah k=e)(hset:r64 e.set=r91 e.set)(h0:e.op=3):fh n i k=false↔r68 n (ae n.aa i) i e=true/\(e.op=4->e.n∉cP n i k):=by unfold fh r68;rw[he,hset,h0,mR];generalize ae n.aa i=s;simp only[show((3:Int) !=3)=false from rfl,show((3:Int)==0)=false from rfl,show((3:Int)==1)=false from rfl,show((3:Int)==2)=false from rfl,show((3:Int)==4)=false from rfl,show((3:Int)==5)=false from rfl,show((3:Int)==6)=false from rfl,show((3:Int)==7)=false from rfl,show decide ((3:Int)<0)=false from rfl,show decide (wrap .i64 3>=8)=false from rfl,af2,af8,af4,afJ,af3,agr,ag0,Hc,kZ,r80,oi,aga,afW,agI,ahd];grind
theorem ed4(he:ae (ae n.aa i).ah k=e)(hset:r64 e.set=r91 e.set)(h0:e.op=4):fh n i k=false↔r68 n (ae n.aa i) i e=true/\(e.op=4->e.n∉cP n i k):=by unfold fh r68;rw[he,hset,h0,mR];generalize ae n.aa i=s;simp only[show((4:Int) !=3)=true from rfl,show((4:Int)==0)=false from rfl,show((4:Int)==1)=false from rfl,show((4:Int)==2)=false from rfl,show((4:Int)==4)=true from rfl,show((4:Int)==5)=false from rfl,show((4:Int)==6)=false from rfl,show((4:Int)==7)=false from rfl,show decide ((4:Int)<0)=false from rfl,show decide (wrap .i64 4>=8)=false from rfl,af2,af8,af4,afJ,af3,agr,ag0,Hc,kZ,r83,oi,aga,afW,agI,ahd];grind
theorem ed5(he:ae (ae n.aa i).ah k=e)(hset:r64 e.set=r91 e.set)(h0:e.op=5):fh n i k=false↔r68 n (ae n.aa i) i e=true/\(e.op=4->e.n∉cP n i k):=by unfold fh r68;rw[he,hset,h0,mR];generalize ae n.aa i=s;simp only[show((5:Int) !=3)=true from rfl,show((5:Int)==0)=false from rfl,show((5:Int)==1)=false from rfl,show((5:Int)==2)=false from rfl,show((5:Int)==4)=false from rfl,show((5:Int)==5)=true from rfl,show((5:Int)==6)=false from rfl,show((5:Int)==7)=false from rfl,show decide ((5:Int)<0)=false from rfl,show decide (wrap .i64 5>=8)=false from rfl,af2,af8,af4,afJ,af3,agr,ag0,Hc,kZ,r84,oi,aga,afW,agI,ahd];grind
theorem ed6(he:ae (ae n.aa i).ah k=e)(hset:r64 e.set=r91 e.set)(h0:e.op=6):fh n i k=false↔r68 n (ae n.aa i) i e=true/\(e.op=4->e.n∉cP n i k):=by unfold fh r68;rw[he,hset,h0,mR];generalize ae n.aa i=s;simp only[show((6:Int) !=3)=true from rfl,show((6:Int)==0)=false from rfl,show((6:Int)==1)=false from rfl,show((6:Int)==2)=false from rfl,show((6:Int)==4)=false from rfl,show((6:Int)==5)=false from rfl,show((6:Int)==6)=true from rfl,show((6:Int)==7)=false from rfl,show decide ((6:Int)<0)=false from rfl,show decide (wrap .i64 6>=8)=false from rfl,af2,af8,af4,afJ,af3,agr,ag0,Hc,kZ,r85,oi,aga,afW,agI,ahd];grind
end
theorem R4(n:Net)(s:State)(i:Int)(e:Edge):DZ n s i e=e.bL.any λa=> !(r89 n a):=j0 (λa=> !(r95 n a)) e.bL
section
variable(n:Net)(i k:Nat)(e:Edge)
theorem ed7(he:ae (ae n.aa i).ah k=e)(hset:r64 e.set=r91 e.set)(h0:e.op=7):fh n i k=false↔r68 n (ae n.aa i) i e=true/\(e.op=4->e.n∉cP n i k):=by unfold fh r68;rw[he,hset,h0,mR,R4];generalize ae n.aa i=s;simp only[show((7:Int) !=3)=true from rfl,show((7:Int)==0)=false from rfl,show((7:Int)==1)=false from rfl,show((7:Int)==2)=false from rfl,show((7:Int)==4)=false from rfl,show((7:Int)==5)=false from rfl,show((7:Int)==6)=false from rfl,show((7:Int)==7)=true from rfl,show decide ((7:Int)<0)=false from rfl,show decide (wrap .i64 7>=8)=false from rfl,af2,af8,af4,afJ,af3,agr,ag0,Hc,kZ,r86,oi,aga,afW,agI,ahd];grind
theorem edX(he:ae (ae n.aa i).ah k=e)(h8: -128<=e.op/\e.op<=127)(h0:e.op<0\/8<=e.op):fh n i k=false↔r68 n (ae n.aa i) i e=true/\(e.op=4->e.n∉cP n i k):=by
 have hw:wrap .i64 e.op=e.op:=wrap_i64 oaa oaa;have ne: ∀j:Int,0<=j->j<8->(e.op==j)=false:=λj h1 h2=>beq_eq_false_iff_ne.2 oaa;constructor
 ·grind[fh]
 simp_all[r68]
end
structure YY(n:Net):Prop where
 op: ∀s∈n.aa,∀e∈s.ah,-128<=e.op/\e.op<=127
 set: ∀s∈n.aa,∀e∈s.ah,∀r∈e.set,oX r.1/\oX r.2
theorem abB{n:Net}(hx:YY n){i k:Nat}(hi:i<n.aa.length)(hk:k<(ae n.aa i).ah.length):fh n i k=false↔r68 n (ae n.aa i) i (ae (ae n.aa i).ah k)=true/\((ae (ae n.aa i).ah k).op=4->(ae (ae n.aa i).ah k).n∉cP n i k):=by
 have h8:=hx.op _ (aw hi) _ (aw hk);have hs:=aeD (hx.set _ (aw hi) _<|aw hk);by_cases h:(ae (ae n.aa i).ah k).op<0\/8<=(ae (ae n.aa i).ah k).op
 ·exact edX n i k _ rfl h8 h
 ·have:(ae (ae n.aa i).ah k).op=0\/(ae (ae n.aa i).ah k).op=1\/(ae (ae n.aa i).ah k).op=2\/(ae (ae n.aa i).ah k).op=3\/(ae (ae n.aa i).ah k).op=4\/(ae (ae n.aa i).ah k).op=5\/(ae (ae n.aa i).ah k).op=6\/(ae (ae n.aa i).ah k).op=7:=by omega
  grind[ed0,ed1,ed2,ed3,ed4,ed5,ed6,ed7]
section
variable(s:ByteArray)
def kH:lXA:=s.data.toList.map λb=>((b.toNat:Nat):Int)
def Bh:List lXF:=s.data.toList.map λb=>[.v (.int .u8 b.toNat)]
theorem se:Bh s=(kH s).map u8C:=by simp[Bh,kH,u8C,Function.comp_def]
theorem fq:(kH s).length=s.size:=by simp[kH]
end
def aeI(l:lXA):eR (l.map u8C)=true:=by simp only[eR,List.all_map,agc];intro x _;rfl
def apsA{k l n B:Nat}{new:List lXF}(ho:eR new=true)(h1:k<=l)(h2:(k+n)*B<=140737488355328)(h3:k+n<=9223372036854775807):((true&&true&&true&&Nat.ble k l)&&true&&(true&&true&&eR new&&Nat.ble ((k+n)*B) 140737488355328&&Nat.ble (k+n) 9223372036854775807&&true))=true:=by simp[Nat.ble_eq,h1,h2,h3,ho]
section
variable{l:lXA}{rows:List lXF}(k:Nat)
theorem aps(src:lXA)(B:Nat)(e:rows=l.map u8C)(h1:k<=l.length:=by first|omega|(simp only[afW,age,afQ,agw,agb,agt];omega))(hB:B≠0:=by decide)(h2:(k+src.length)*B<=140737488355328:=by first|omega|(simp only[afQ,agb,agt];omega)):((true&&true&&true&&Nat.ble k rows.length)&&true&&(true&&true&&eR (src.map u8C)&&Nat.ble ((k+(src.map u8C).length)*B) 140737488355328&&Nat.ble (k+(src.map u8C).length) 9223372036854775807&&true))=true:=by
 refine apsA (aeI src) (by rw[e,afW];exact h1) (by rw[afW];exact h2) ?_;rw[afW];rcases Nat.eq_zero_or_pos B with h|h
 ·subst h;exact absurd hB oay
 ·exact agu (Nat.le_mul_of_pos_right _ h) (agu h2 oay)
theorem apsS(s:ByteArray)(B:Nat)(e:rows=l.map u8C)(h1:k<=l.length:=by first|omega|(simp only[afW,age,afQ,agw,agb,agt];omega))(hB:B≠0:=by decide)(h2:(k+s.size)*B<=140737488355328:=by first|omega|(simp only[afQ,agb,agt];omega)):((true&&true&&true&&Nat.ble k rows.length)&&true&&(true&&true&&eR (Bh s)&&Nat.ble ((k+(Bh s).length)*B) 140737488355328&&Nat.ble (k+(Bh s).length) 9223372036854775807&&true))=true:=by rw[se];exact aps k (kH s) B e h1 hB (by rw[fq];exact h2)
end
def EO{f:Int->lXF}{l:lXA}{rows:List lXF}{k:Nat}(e:rows=l.map f)(hk:k=l.length)(s:lXA):rows.take k++s.map f=(l++s).map f:=by rw[e,agv (by rw[afW,hk];exact afP _),ahe]
def apNF{l:lXA}{rows:List lXF}{k:Nat}(e:rows=l.map u8C)(hk:k=l.length)(s:ByteArray):rows.take k++Bh s=(l++kH s).map u8C:=by rw[se];exact EO e hk _
abbrev rB(bs:lXA):Ob:= .row 5 1 (bs.map u8C)
def u6(f:FuncId)(A:lXF)(bs bs':lXA):Prop:=aY pg f (.sr 0 1 0 bs.length::A) [rB bs] [] (.sr 1 1 0 bs'.length) [.dead,rB bs']
def rlift{f:FuncId}{A:lXF}{bs bs':lXA}(h:u6 f A bs bs')(hA:aj A=true){O:lXE}{q k N:Nat}(hq:O[q]? =some (rB bs))(hk:k=bs.length)(hN:N=O.length):aY pg f (.sr q 1 0 k::A) O [] (.sr N 1 0 bs'.length) (O.set q .dead++ [rB bs']):=by
 subst hk;subst hN;have hne: ∀g,(rB bs).ren g=rB bs:=λg=>cv (Gc bs);have hr: ∀g,de g (bs'.map u8C)=bs'.map u8C:=λg=>by have:=cv (T:=5) (S:=1) (f:=g) (Gc bs');simpa [Ob.ren]using this
 have k:=oF h (sel:=[q]) (ob:=O) (List.nodup_cons.2 ⟨by simp,agW⟩) ⟨⟨by rw[hne];exact hq,by simp⟩,trivial⟩ (Nat.le_add_left _ _);simpa [back,gH,eu,bt,AV.ren,bM,Ob.ren,ca _ _ hA,hr]using k
def gT(f:FuncId)(A:lXF)(O:lXE)(q k N:Nat)(bs':lXA)(c:Prop):bH:=⟨f,.sr q 1 0 k::A,O,.sr N 1 0 bs'.length,O.set q .dead++ [rB bs'],c,Nat.lor (bit q) (bit N)⟩
section
variable{f:FuncId}{A:lXF}{O:lXE}{q k N:Nat}{bs bs':lXA}{c:Prop}
theorem gRow(hf:Nat.blt f dQ=true)(hA:aj A=true)(hq:O[q]? =some (rB bs))(hN:N=O.length)(h:c->k=bs.length/\u6 f A bs bs'):(gT f A O q k N bs' c).bS pg:=λhp=>⟨kR hf (rlift (h hp).2 hA hq (h hp).1 hN),λi hi=>by
 have hi:tb (Nat.lor (bit q)<|bit N) i=false:=hi;rw[nk,af4]at hi;have h1:=j5 hi.1;have h2:=j5 hi.2;show(O.set q .dead++ [rB bs'])[i]? =O[i]?;by_cases hl:i<O.length
 ·rw[afZ oaZ,af5 h1]
 ·rw[agh oaA,agh oaa]⟩
theorem eS(h:c->k=bs.length/\u6 f A bs bs')(hf:Nat.blt f dQ=true:=by rfl)(hA:aj A=true:=by simp[aj,AV.pure,ak])(hq:O[q]? =some (rB bs):=by rfl)(hN:N=O.length:=by rfl):(gT f A O q k N bs' c).bS pg:=gRow hf hA hq hN h
end
def qWd(c:bH)(hp:c.p:=by exact⟨rfl,oai,trivial⟩):(dec c.p&&dec (c.args=c.args/\c.ob0=c.ob0))=true:=qW hp rfl
def ai(z:Int):lXA:=dx (wrap .u64 z)
def um(z:Int):0<=wrap .u64 z:=Int.emod_nonneg _ oay
def Oc(x:Int):cj:=⟨16,[.v (.int .u64 x)],.sl 1 ((dx x).map u8C),0<=x⟩
def uo(x:Int):(Oc x).bS pg:=da λhp=>Rk x hp
def YZ(x:Int):cj:=⟨15,[.v (.int .u64 x)],.sl 1 ((dx x).map u8C),0<=x⟩
def Hd(x:Int):(YZ x).bS pg:=da λhp=>Ri x hp
def Cu(bs:lXA)(z:Int):Nat×lXA:=(length bs+length (map u8C<|dx<|wrap .u64 z),bs++(dx<|wrap .u64 z))
def KO(y:Nat×lXA):Am.Loc:=[(4,.sr 1 1 0 y.1)]
abbrev zBA(y:Nat×lXA):lXE:=[.dead,.row 5 1 (map u8C y.2)]
def yw(bs:lXA)(z:Int)(y:Nat×lXA):lXE:=(zBA y)
section
variable(bs:lXA)(z:Int)
def Y0:List ((Nat×lXA)×AX×lXC):=[((length bs+length (map u8C<|dx<|wrap .u64 z),bs++(dx<|wrap .u64 z)),.ret,[0,1])]
def aeJ:List bf:=((Y0 bs z).map λw=>(⟨Cu bs z=w.1,w.2.1,KO w.1,w.2.2,yw bs z w.1⟩:bf))
theorem num27(hL:(bs++ai z).length<=140737488355328):aY pg 27 [.sr 0 1 0 (length bs),I z] [.row 5 1 (map u8C bs)] [] (.sr 1 1 0 (Cu bs z).1) (yw bs z<|Cu bs z):=have hL:bs.length+(dx<|wrap .u64 z).length<=140737488355328:=oaP;cZ (ob0:=[.row 5 1 (map u8C bs)]) (fn:=Tryz.f27) (callf:=(nO [Oc (wrap .u64 z)] base)) (pu:=cU) (lf:=3000) (l:=[]) (t:=(.r [bT]<|.r [.int 0,bT]<|.pick 0)) (bn (.cons (uo<|wrap .u64 z) rfl cy.nil) aE) mixed Tryz.func27 oab (show Tryz.f27.body=some (aG 27) by kernel_rfl) (nbl rfl) (bq _) rfl KO (yw bs z) (Cu bs z) (Y0 bs z) (nbl rfl) rfl (by simp[yw,Ob.und,AV.und,bx,bj cn]) (bB (an a0<|an (ac (aps (length bs) (dx<|wrap .u64 z) 1<|rl u8C bs)<|cA (uo<|wrap .u64 z) (um _) a0)<|lfE (wy (aeJ bs z) 0) 2 rfl<|aW (rfl:(.dead:Ob)= .dead)<|aW (af1 (λz=>Ob.row 5 1 z)<|EO (f:=u8C) (rl u8C bs) (k:=length bs) oad<|dx<|wrap .u64 z) ee) oab) (fa1 (.inr rfl) fa0) (fa1 (bV rfl rfl rfl (by simp[KO,plS,AV.pure])<|by simp[yw,plS,plO,AV.pure,aj,ak]) fa0) rfl
theorem cS(hL:(bs++ai z).length<=140737488355328):u6 27 [I z] bs (bs++ai z):=by
 have h:=num27 bs z hL;have e:Cu bs z=((bs++ai z).length,bs++ai z):=by simp[Cu,ai]
 rw[e]at h;exact h
end
def az(s:ByteArray):lXA:=ai (s.size:Int)++kH s
def Od(bs:lXA)(s:ByteArray):bH:=gT 27 [I (ByteArray.size s:Int)] [.row 5 1 (map u8C bs)] 0 (length bs) 1 (bs++(ai (ByteArray.size s:Int))) ((length bs)=length bs/\(bs++(ai (ByteArray.size s:Int))).length<=140737488355328/\True)
def Oe:Code:=bD 0 (aG 28)
def yx(bs:lXA)(s:ByteArray)(i0:Nat)(y0:Nat×(lXA)):Nat×(lXA):=(y0.1+1,List.take y0.1 y0.2++ [(dh s i0)])
def cR(bs:lXA)(s:ByteArray)(kk:Nat):Nat×(lXA):=Nat.rec (motive:=λ_=>Nat×(lXA)) (length (bs++(ai (ByteArray.size s:Int))),bs++(ai (ByteArray.size s:Int))) (λj a=>yx bs s j a) kk
theorem Of(bs:lXA)(s:ByteArray)(i:Nat):cR bs s i=((bs++ai (s.size:Int)).length+i,(bs++ai (s.size:Int))++(range i).map (dh s)):=by
 induction i with
 |zero=>show(length (bs++ai (s.size:Int)),bs++ai (s.size:Int))=_;simp
 |succ i ih=>show yx bs s i (cR bs s i)=_;rw[ih];simp only[yx,List.range_succ,ahe,af9,agM];rw[agv oaA,ag1];rfl
abbrev yy(bs:lXA)(s:ByteArray)(i0:Nat)(y0:Nat×(lXA)):Am.Loc:=[(0,.sr 1 1 0 y0.1),(1,S s),(5,I (i0:Int))]
abbrev yz(bs:lXA)(s:ByteArray)(i0:Nat)(y0:Nat×(lXA)):lXE:=[.dead,.row 5 1 (map u8C y0.2)]
section
variable(bs:lXA)(s:ByteArray)
abbrev Og(i0:Nat):Am.Loc:=yy bs s i0 (cR bs s i0)
abbrev Oh(i0:Nat):lXE:=yz bs s i0 (cR bs s i0)
abbrev He:Am.Loc:=[(0,.sr 1 1 0 ((cR bs s<|ByteArray.size s).1))]
abbrev Hf:lXE:=[.dead,.row 5 1 (map u8C<|(cR bs s<|ByteArray.size s).2)]
def sf:KB:=noK 0 (Og bs s) (Oh bs s) (.exit 0) (He bs s) (Hf bs s) (True)
abbrev Ok(i0:Nat):List bf:=[nxW (false) (Og bs s<|i0+1) (Oh bs s<|i0+1) (yy bs s (i0+1) ((cR bs s i0).1+1,List.take ((cR bs s i0).1) ((cR bs s i0).2)++ [(dh s i0)])) [0,2] (yz bs s (i0+1) ((cR bs s i0).1+1,List.take ((cR bs s i0).1) ((cR bs s i0).2)++ [(dh s i0)]))]
theorem KP(hL:(bs++az s).length<=140737488355328):cx pg 23 1 0 (.loop Oe) (sf bs s):=
 noB (Ok bs s) (λi0=>(.r [.k,bT]<|.yes<|.r [.val (.int .u8<|dh s i0),bT]<|zU i0)) (range 2) zE (ByteArray.size s)
 (λ_ i0(hx0:i0<(ByteArray.size s))=>have hL2:bs.length+((ai (s.size:Int)).length+s.size)<=140737488355328:=oa2;have ha:=Of bs s i0;have ha1:(cR bs s i0).1=bs.length+(ai (s.size:Int)).length+i0:=oak;have ha2:length (cR bs s i0).2=bs.length+(ai (s.size:Int)).length+i0:=(by rw[ha];simp only[afQ,afW,List.length_range]);have hb:(zDH i0 s)=true:=afT oaa;
 bB (an (a1 a0)<|an hb<|an (ac (apo ((cR bs s i0).1) 1<|rl u8C<|(cR bs s i0).2)<|ac (ixB s i0 oaa) a0)<|an (ac (dwo ((i0+1:Nat):Int)) a0)<|lfE (wy (Ok bs s i0) 0) 3 (nxP (yy bs s<|i0+1) (yz bs s<|i0+1) rfl<|show cR bs s (i0+1)=((cR bs s i0).1+1,List.take ((cR bs s i0).1) ((cR bs s i0).2)++ [(dh s i0)])from rfl)<|aW (rfl:(.dead:Ob)= .dead)<|aW (af1 (λz=>Ob.row 5 1 z)<|apT (f:=u8C) (rl u8C<|(cR bs s i0).2) ((cR bs s i0).1)<|dh s i0) ee)
 oab)
 (λ_=>have hL2:bs.length+((ai (s.size:Int)).length+s.size)<=140737488355328:=oa2;have hb:(zBe s)=false:=afU oaa;
 bB (an (a1 a0)<|an hb<|lx (.exit 0) (He bs s) (range 2) (Hf bs s) 2)
 oab)
def Cv:Nat×lXA:=((cR bs s<|ByteArray.size s).1,(cR bs s<|ByteArray.size s).2)
end
def KQ(y:Nat×lXA):Am.Loc:=[(4,.sr 1 1 0 y.1)]
def yA(bs:lXA)(s:ByteArray)(y:Nat×lXA):lXE:=(zBA y)
def Y1(bs:lXA)(s:ByteArray):List ((Nat×lXA)×AX×lXC):=[(((cR bs s<|ByteArray.size s).1,(cR bs s<|ByteArray.size s).2),.ret,[0,1])]
def aeK(bs:lXA)(s:ByteArray):List bf:=((Y1 bs s).map λw=>(⟨Cv bs s=w.1,w.2.1,KQ w.1,w.2.2,yA bs s w.1⟩:bf))
def oY:di [0] (aG 28)=[(0,.loop Oe)]:=by kernel_rfl
abbrev zCV:GT:=(.r [bT]<|.no zB)
def aeL(bs:lXA)(s:ByteArray)(hL:(bs++az s).length<=140737488355328):aY pg 28 [.sr 0 1 0 (length bs),S s] [.row 5 1 (map u8C bs)] [] (.sr 1 1 0 (Cv bs s).1) (yA bs s<|Cv bs s):=have hL2:bs.length+((ai (s.size:Int)).length+s.size)<=140737488355328:=oa2;cZ (ob0:=[.row 5 1 (map u8C bs)]) (fn:=Tryz.f28) (callf:=(cz [Od bs s] base)) (pu:=cU) (lf:=3000) (l:=[(0,sf bs s)]) (t:=(.r [bT]<|.r [.bG 0 [],bT] zCV)) (bC (.cons (eS λc=>⟨c.1,cS bs (ByteArray.size s:Int) c.2.1⟩) dg.nil) aE) mixed Tryz.func28 oab (show Tryz.f28.body=some (aG 28) by kernel_rfl) (nbl rfl) (bw (l:=[(0,sf bs s)]) oY (aK (KP bs s hL) rfl aU) rfl) rfl KQ (yA bs s) (Cv bs s) (Y1 bs s) (nbl rfl) rfl (by simp[yA,Ob.und,AV.und,bx,bj cn]) (bB (an a0<|an (ac (qWd<|Od bs s) a0)<|an a0<|an (kbT (sf bs s) trivial)<|an (rfl:false=false)<|an a0<|lf (wy (aeK bs s) 0) 2 rfl) oab) (fa1 (.inr rfl) fa0) (fa1 (bV rfl rfl rfl (by simp[KQ,plS,AV.pure])<|by simp[yA,plS,plO,AV.pure,aj,ak]) fa0) rfl
theorem Hg(s:ByteArray):(range s.size).map (dh s)=kH s:=by
 refine agd λi=> ?_;rw[kH,afY,afY];by_cases h:i<s.size
 ·have h2:i<s.data.toList.length:=by simpa using h
  rw[List.getElem?_range h,af0 h2];simp only[af6,dh];congr 3;rw[show s[i]? =some s[i]from getElem?_pos s i h];rfl
 ·rw[agh oaM,agh oaM];rfl
def yB(bs:lXA)(s:ByteArray)(hL:(bs++az s).length<=140737488355328):u6 28 [S s] bs (bs++az s):=by
 have h:=aeL bs s hL;have e:Cv bs s=((bs++az s).length,bs++az s):=by unfold Cv;rw[Of,Hg];simp[az,fq,agO]
 rw[e]at h;exact h
def ay{α:Type}(f:α->lXA)(l:List α):lXA:=ai (l.length:Int)++l.flatMap f
theorem c8{α:Type}[Inhabited α](f:α->lXA)(l:List α){i:Nat}(h:i<l.length):(l.take<|i+1).flatMap f=(l.take i).flatMap f++f (ae l i):=by rw[List.take_succ_eq_append_getElem h,List.flatMap_append];simp only[List.flatMap_cons,List.flatMap_nil,agA];rw[show ae l i=l[i] by simp[ae,h]]
def fL{α:Type}[Inhabited α](f:α->lXA)(l:List α){i:Nat}(h:i<l.length):((l.take i).flatMap f).length+(f<|ae l i).length<=(l.flatMap f).length:=by
 have e:l.flatMap f=(l.take<|i+1).flatMap f++(l.drop<|i+1).flatMap f:=by rw[<-List.flatMap_append,agG]
 rw[e,c8 f l h];simp only[afQ];omega
def Ol(bs:lXA)(l:lXD):bH:=gT 27 [I (length (map a9 l):Int)] [.row 5 1 (map u8C bs)] 0 (length bs) 1 (bs++(ai (length (map a9 l):Int))) ((length bs)=length bs/\(bs++(ai (length (map a9 l):Int))).length<=140737488355328/\True)
def Om:Code:=bD 0 (aG 26)
def yC(bs:lXA)(l:lXD)(i0:Nat)(y0:lXA):lXA:=y0++(az<|ae l i0)
section
variable(bs:lXA)(l:lXD)
def du(kk:Nat):lXA:=Nat.rec (motive:=λ_=>lXA) (bs++(ai (length (map a9 l):Int))) (λj a=>yC bs l j a) kk
theorem On(i:Nat)(hi:i<=l.length):du bs l i=(bs++ai (length (map a9 l):Int))++(l.take i).flatMap az:=by
 induction i with
 |zero=>show bs++ai (length (map a9 l):Int)=_;simp
 |succ i ih=>show yC bs l i (du bs l i)=_;rw[ih oaa,c8 az l oaa];simp[yC]
def Oo(i0:Nat):bH:=gT 28 [S (ae l i0)] [.dead,.row 5 1 (map u8C<|du bs l i0)] 1 (length<|du bs l i0) 2 ((du bs l i0)++(az<|ae l i0)) ((length<|du bs l i0)=length (du bs l i0)/\((du bs l i0)++(az<|ae l i0)).length<=140737488355328/\True)
end
abbrev yD(bs:lXA)(l:lXD)(i0:Nat)(y0:lXA):Am.Loc:=[(0,.sr 1 1 0 (length y0)),(1,.sl 1 (zBq l)),(5,I (i0:Int))]
abbrev yE(bs:lXA)(l:lXD)(i0:Nat)(y0:lXA):lXE:=[.dead,.row 5 1 (map u8C y0)]
section
variable(bs:lXA)(l:lXD)
abbrev Oq(i0:Nat):Am.Loc:=yD bs l i0 (du bs l i0)
abbrev Ot(i0:Nat):lXE:=yE bs l i0 (du bs l i0)
abbrev Hh:Am.Loc:=[(0,.sr 1 1 0 (length<|du bs l<|length l))]
abbrev Hi:lXE:=[.dead,.row 5 1 (map u8C<|du bs l<|length l)]
def sg:KB:=noK 0 (Oq bs l) (Ot bs l) (.exit 0) (Hh bs l) (Hi bs l) (True)
abbrev Ou(i0:Nat):List bf:=[nxW (false) (Oq bs l<|i0+1) (Ot bs l<|i0+1) (yD bs l (i0+1)<|(du bs l i0)++(az<|ae l i0)) [0,2] (yE bs l (i0+1)<|(du bs l i0)++(az<|ae l i0))]
def KR(ll:length l<=9223372036854775807)(hL:(bs++ay az l).length<=140737488355328):cx pg 23 1 0 (.loop Om) (sg bs l):=
 noB (Ou bs l) (λi0=>(.r [.k,bT]<|.yes<|.r [.row (a9<|ae l i0),.bG 0 [],bT]<|zU i0)) (range 2) zE (length l)
 (λ_ i0(hx0:i0<(length l))=>have lml:=aL a9 l;have hL3:bs.length+(ai (length (map a9 l):Int)).length+(List.flatMap az l).length<=140737488355328:=oaf;have ha:=On bs l i0 (agx hx0);have hfl:=fL az l hx0;have ha2:length (du bs l i0)=bs.length+(ai (length (map a9 l):Int)).length+(List.flatMap az<|List.take i0 l).length:=oak;have l1:=aL a9 (l);have hb:(zCX i0 l)=true:=afT oaa;
 bB (an (a1 a0)<|an hb<|an (ac (qWd<|Oo bs l i0)<|ac (rwa a9 l i0) a0)<|an (ac (dwo ((i0+1:Nat):Int)) a0)<|lf (wy (Ou bs l i0) 0) 3<|nxP (yD bs l<|i0+1) (yE bs l<|i0+1) rfl<|show du bs l (i0+1)=((du bs l i0)++(az<|ae l i0))from rfl)
 oab)
 (λ_=>have lml:=aL a9 l;have hL3:bs.length+(ai (length (map a9 l):Int)).length+(List.flatMap az l).length<=140737488355328:=oaf;have l1:=aL a9 (l);have hb:(zBP l)=false:=afU oaa;
 bB (an (a1 a0)<|an hb<|lx (.exit 0) (Hh bs l) (range 2) (Hi bs l) 2)
 oab) (callf:=λi0=>(cz [Oo bs l i0] base)) (hc:=λ_ i0 hx0=>(bC (.cons (eS λc=>⟨c.1,yB (du bs l i0) (ae l i0) c.2.1⟩) dg.nil) aE))
def Cw:Nat×lXA:=(length (du bs l<|length l),(du bs l<|length l))
end
def KS(y:Nat×lXA):Am.Loc:=[(4,.sr 1 1 0 y.1)]
def yF(bs:lXA)(l:lXD)(y:Nat×lXA):lXE:=(zBA y)
def Y2(bs:lXA)(l:lXD):List ((Nat×lXA)×AX×lXC):=[((length (du bs l<|length l),(du bs l<|length l)),.ret,[0,1])]
def aeM(bs:lXA)(l:lXD):List bf:=((Y2 bs l).map λw=>(⟨Cw bs l=w.1,w.2.1,KS w.1,w.2.2,yF bs l w.1⟩:bf))
def oZ:di [0] (aG 26)=[(0,.loop Om)]:=by kernel_rfl
def abC(bs:lXA)(l:lXD)(ll:length l<=9223372036854775807)(hL:(bs++ay az l).length<=140737488355328):aY pg 26 [.sr 0 1 0 (length bs),.sl 1 (zBq l)] [.row 5 1 (map u8C bs)] [] (.sr 1 1 0 (Cw bs l).1) (yF bs l<|Cw bs l):=have lml:=aL a9 l;have hL3:bs.length+(ai (length (map a9 l):Int)).length+(List.flatMap az l).length<=140737488355328:=oaf;cZ (ob0:=[.row 5 1 (map u8C bs)]) (fn:=Tryz.f26) (callf:=(cz [Ol bs l] base)) (pu:=cU) (lf:=3000) (l:=[(0,sg bs l)]) (t:=(.r [bT]<|.r [.bG 0 [],bT] zCV)) (bC (.cons (eS λc=>⟨c.1,cS bs (length (map a9 l):Int) c.2.1⟩) dg.nil) aE) mixed Tryz.func26 oab (show Tryz.f26.body=some (aG 26) by kernel_rfl) (nbl rfl) (bw (l:=[(0,sg bs l)]) oZ (aK (KR bs l ll hL) rfl aU) rfl) rfl KS (yF bs l) (Cw bs l) (Y2 bs l) (nbl rfl) rfl (by simp[yF,Ob.und,AV.und,bx,bj cn]) (bB (an a0<|an (ac (qWd<|Ol bs l) a0)<|an a0<|an (kbT (sg bs l) trivial)<|an (rfl:false=false)<|an a0<|lf (wy (aeM bs l) 0) 2 rfl) oab) (fa1 (.inr rfl) fa0) (fa1 (bV rfl rfl rfl (by simp[KS,plS,AV.pure])<|by simp[yF,plS,plO,AV.pure,aj,ak]) fa0) rfl
def om(bs:lXA)(l:lXD)(ll:length l<=9223372036854775807)(hL:(bs++ay az l).length<=140737488355328):u6 26 [.sl 1 (l.map a9)] bs (bs++ay az l):=by
 have h:=abC bs l ll hL;have e:Cw bs l=((bs++ay az l).length,bs++ay az l):=by unfold Cw;rw[On bs l _ (afP _),agj];simp[ay]
 rw[e]at h;exact h
def cG(z:Int):(ai z).length<=9:=jj _
def zig(n:Int):Int:=bif decide (n>=0)then wrap .u64 (wrap .i64<|2*n)else wrap .u64 (wrap .i64<|wrap .i64 (-2*n)-1)
def opF(g:G):lXA:=bif g.op==8||g.op==9 then dx (zig g.n)else bif g.op==3||g.op==4 then ai ((g.kids.length:Nat):Int)else []
mutual
def aM:G->lXA
 | .mk op n s l=>ai (wrap .i64 op)++opF (.mk op n s l)++vz l
def vz:List G->lXA
 |[]=>[]
 |g::l=>aM g++vz l
end
theorem yG: ∀l:List G,vz l=l.flatMap aM
 |[]=>rfl
 |g::l=>by simp only[vz,List.flatMap_cons,yG l]
theorem fF(g:G):aM g=ai (wrap .i64 g.op)++opF g++g.kids.flatMap aM:=by obtain⟨op,n,s,l⟩:=g;simp only[aM,yG,G.op,G.kids]
def Ov(bs:lXA)(g:G):bH:=gT 27 [I (wrap .i64 g.op)] [.row 5 1 (map u8C bs)] 0 (length bs) 1 (bs++(ai<|wrap .i64 g.op)) ((length bs)=length bs/\(bs++(ai<|wrap .i64 g.op)).length<=140737488355328/\True)
def EP:Code:=oM 0 (aG 61)
section
variable(bs:lXA)(g:G)
def ER:bH:=gT 27 [I (length (map gC g.kids):Int)] [.dead,.row 5 1 (map u8C<|bs++(ai<|wrap .i64 g.op))] 1 (length<|bs++(ai<|wrap .i64 g.op)) 2 ((bs++(ai<|wrap .i64 g.op))++(ai (length (map gC g.kids):Int))) ((length<|bs++(ai<|wrap .i64 g.op))=length (bs++(ai<|wrap .i64 g.op))/\((bs++(ai<|wrap .i64 g.op))++(ai (length (map gC g.kids):Int))).length<=140737488355328/\True)
def jk:Nat×lXA:=(bif g.op==8 then(bif decide (g.n>=0)then(length (bs++(ai<|wrap .i64 g.op))+length (map u8C<|dx<|wrap .u64<|wrap .i64<|2*g.n),(bs++(ai<|wrap .i64 g.op))++(dx<|wrap .u64<|wrap .i64<|2*g.n))else(length (bs++(ai<|wrap .i64 g.op))+length (map u8C<|dx<|wrap .u64<|wrap .i64<|(wrap .i64<|(-2)*g.n)-1),(bs++(ai<|wrap .i64 g.op))++(dx<|wrap .u64<|wrap .i64<|(wrap .i64<|(-2)*g.n)-1)))else(bif g.op==9 then(bif decide (g.n>=0)then(length (bs++(ai<|wrap .i64 g.op))+length (map u8C<|dx<|wrap .u64<|wrap .i64<|2*g.n),(bs++(ai<|wrap .i64 g.op))++(dx<|wrap .u64<|wrap .i64<|2*g.n))else(length (bs++(ai<|wrap .i64 g.op))+length (map u8C<|dx<|wrap .u64<|wrap .i64<|(wrap .i64<|(-2)*g.n)-1),(bs++(ai<|wrap .i64 g.op))++(dx<|wrap .u64<|wrap .i64<|(wrap .i64<|(-2)*g.n)-1)))else(bif g.op==3 then(length ((bs++(ai<|wrap .i64 g.op))++(ai (length (map gC g.kids):Int))),(bs++(ai<|wrap .i64 g.op))++(ai (length (map gC g.kids):Int)))else(bif g.op==4 then(length ((bs++(ai<|wrap .i64 g.op))++(ai (length (map gC g.kids):Int))),(bs++(ai<|wrap .i64 g.op))++(ai (length (map gC g.kids):Int)))else(length (bs++(ai<|wrap .i64 g.op)),bs++(ai<|wrap .i64 g.op))))))
theorem aeN:jk bs g=((bs++ai (wrap .i64 g.op)++opF g).length,bs++ai (wrap .i64 g.op)++opF g):=by unfold jk opF zig;cases g.op==8<;>cases g.op==9<;>cases g.op==3<;>cases g.op==4<;>cases decide (g.n>=0)<;>simp[agO]
end
abbrev zCC(g:G):=(ai<|wrap .i64 g.op)
def Ow(bs:lXA)(g:G):Am.Loc:=[(0,.sr 1 1 0 (length<|bs++(zCC g))),(3,.pf (gCC g)),(12,I8 g.op)]
def Oy(bs:lXA)(g:G):lXE:=[.dead,.row 5 1 (map u8C<|bs++(zCC g))]
def kI(bs:lXA)(g:G)(y:Nat×lXA):Am.Loc:=[(0,.sr 1 1 0 y.1),(3,.pf (gCC g))]
def kJ(bs:lXA)(g:G)(y:Nat×lXA):lXE:=(zBA y)
section
variable(bs:lXA)(g:G)
def si:KB:=⟨Ow bs g,Oy bs g,false,.ret,[],[],.normal,kI bs g (jk bs g),kJ bs g (jk bs g),True⟩
def Hj:List ((Nat×lXA)×lXC):=[((length (bs++(ai<|wrap .i64 g.op))+length (map u8C<|dx<|wrap .u64<|wrap .i64<|2*g.n),(bs++(ai<|wrap .i64 g.op))++(dx<|wrap .u64<|wrap .i64<|2*g.n)),[0,2]),((length (bs++(ai<|wrap .i64 g.op))+length (map u8C<|dx<|wrap .u64<|wrap .i64<|(wrap .i64<|(-2)*g.n)-1),(bs++(ai<|wrap .i64 g.op))++(dx<|wrap .u64<|wrap .i64<|(wrap .i64<|(-2)*g.n)-1)),[0,2]),((length ((bs++(ai<|wrap .i64 g.op))++(ai (length (map gC g.kids):Int))),(bs++(ai<|wrap .i64 g.op))++(ai (length (map gC g.kids):Int))),[0,2]),((length (bs++(ai<|wrap .i64 g.op)),bs++(ai<|wrap .i64 g.op)),[0,1])]
def k9:List bf:=(Hj bs g).map λw=>(⟨jk bs g=w.1,.normal,kI bs g w.1,w.2,kJ bs g w.1⟩:bf)
end
abbrev zCm(g:G):=(wrap .i64<|(wrap .i64<|(-2)*g.n)-1)
abbrev zAS(g:G):GT:=(.r [.k,bT]<|.br (.r [.int (wrap .i64<|2*g.n),.int 0,bT]<|.pick 0)<|.r [.int (wrap .i64<|(-2)*g.n),.int (zCm g),.int 1,bT]<|.pick 1)
def Y3(bs:lXA)(g:G)(ls:length g.kids<=9223372036854775807)(hL:(bs++aM g).length<=140737488355312)(hK: ∀u∈G.kids g,∀bs:lXA,(bs++aM u).length<=140737488355312->u6 61 [.ag (gCC u)] bs (bs++aM u)):vcC pg 57 (cz [ER bs g]<|nO [Oc (wrap .u64<|wrap .i64<|2*g.n),Oc (wrap .u64<|zCm g)] base) cU 3000 (kbL []) (.block 0 EP) (en<|Ow bs g) (dZ<|Oy bs g) 2 (ku<|k9 bs g) (.r [.k,bT]<|.br (zAS g)<|.r [.k,bT]<|.br (zAS g)<|.r [.k,bT]<|.br (.r [.bG 0 [],bT]<|.pick 2)<|.r [.k,bT]<|.br (.r [.bG 0 [],bT]<|.pick 2)<|.pick 3):=
 have hL2:bs.length+(ai<|wrap .i64 g.op).length+(opF g).length+(g.kids.flatMap aM).length<=140737488355312:=oaB;have p1:=jj (wrap .u64<|wrap .i64<|2*g.n);have p2:=jj (wrap .u64<|wrap .i64<|wrap .i64 (-2*g.n)-1);have p3:=cG (length (map gC g.kids):Int);bB (an (a1 a0)<|brP (λ(h0:(g.op==8)=true)=>have g0:=eq_of_beq h0;
 (an (a1 a0)<|brP (λ(h1:(decide<|g.n>=0)=true)=>have g1:=afS h1;
 (an (ac (aps (length<|bs++(ai<|wrap .i64 g.op)) (dx<|wrap .u64<|wrap .i64<|2*g.n) 1<|rl u8C<|bs++(ai<|wrap .i64 g.op))<|cA (uo<|wrap .u64<|wrap .i64<|2*g.n) (um _)<|ac (bQ<|wrap .i64<|2*g.n) a0)<|lfE (wy (k9 bs g) 0) 3 (cdT h0<|cdT h1 rfl)<|aW (rfl:(.dead:Ob)= .dead)<|aW (af1 (λz=>Ob.row 5 1 z)<|EO (f:=u8C) (rl u8C<|bs++(ai<|wrap .i64 g.op)) (k:=length<|bs++(ai<|wrap .i64 g.op)) oad<|dx<|wrap .u64<|wrap .i64<|2*g.n) ee))<|λh1=>have g1:=afN h1;
 (an (ac (aps (length<|bs++(ai<|wrap .i64 g.op)) (dx<|wrap .u64<|wrap .i64<|(wrap .i64<|(-2)*g.n)-1) 1<|rl u8C<|bs++(ai<|wrap .i64 g.op))<|cA (uo<|wrap .u64<|wrap .i64<|(wrap .i64<|(-2)*g.n)-1) (um _)<|ac (bQ<|wrap .i64<|(wrap .i64<|(-2)*g.n)-1)<|ac (bQ<|wrap .i64<|(-2)*g.n) a0)<|lfE (wy (k9 bs g) 1) 3 (cdT h0<|cdF h1 rfl)<|aW (rfl:(.dead:Ob)= .dead)<|aW (af1 (λz=>Ob.row 5 1 z)<|EO (f:=u8C) (rl u8C<|bs++(ai<|wrap .i64 g.op)) (k:=length<|bs++(ai<|wrap .i64 g.op)) oad<|dx<|wrap .u64<|wrap .i64<|(wrap .i64<|(-2)*g.n)-1) ee)))<|λh0=>have g0:=afX h0;
 (an (a1 a0)<|brP (λ(h1:(g.op==9)=true)=>have g1:=eq_of_beq h1;
 (an (a1 a0)<|brP (λ(h2:(decide<|g.n>=0)=true)=>have g2:=afS h2;
 (an (ac (aps (length<|bs++(ai<|wrap .i64 g.op)) (dx<|wrap .u64<|wrap .i64<|2*g.n) 1<|rl u8C<|bs++(ai<|wrap .i64 g.op))<|cA (uo<|wrap .u64<|wrap .i64<|2*g.n) (um _)<|ac (bQ<|wrap .i64<|2*g.n) a0)<|lfE (wy (k9 bs g) 0) 3 (cdF h0<|cdT h1<|cdT h2 rfl)<|aW (rfl:(.dead:Ob)= .dead)<|aW (af1 (λz=>Ob.row 5 1 z)<|EO (f:=u8C) (rl u8C<|bs++(ai<|wrap .i64 g.op)) (k:=length<|bs++(ai<|wrap .i64 g.op)) oad<|dx<|wrap .u64<|wrap .i64<|2*g.n) ee))<|λh2=>have g2:=afN h2;
 (an (ac (aps (length<|bs++(ai<|wrap .i64 g.op)) (dx<|wrap .u64<|wrap .i64<|(wrap .i64<|(-2)*g.n)-1) 1<|rl u8C<|bs++(ai<|wrap .i64 g.op))<|cA (uo<|wrap .u64<|wrap .i64<|(wrap .i64<|(-2)*g.n)-1) (um _)<|ac (bQ<|wrap .i64<|(wrap .i64<|(-2)*g.n)-1)<|ac (bQ<|wrap .i64<|(-2)*g.n) a0)<|lfE (wy (k9 bs g) 1) 3 (cdF h0<|cdT h1<|cdF h2 rfl)<|aW (rfl:(.dead:Ob)= .dead)<|aW (af1 (λz=>Ob.row 5 1 z)<|EO (f:=u8C) (rl u8C<|bs++(ai<|wrap .i64 g.op)) (k:=length<|bs++(ai<|wrap .i64 g.op)) oad<|dx<|wrap .u64<|wrap .i64<|(wrap .i64<|(-2)*g.n)-1) ee)))<|λh1=>have g1:=afX h1;
 (an (a1 a0)<|brP (λ(h2:(g.op==3)=true)=>have g2:=eq_of_beq h2;
 (an (ac (qWd<|ER bs g) a0)<|lf (wy (k9 bs g) 2) 3<|cdF h0<|cdF h1<|cdT h2 rfl))<|λh2=>have g2:=afX h2;
 (an (a1 a0)<|brP (λ(h3:(g.op==4)=true)=>have g3:=eq_of_beq h3;
 (an (ac (qWd<|ER bs g) a0)<|lf (wy (k9 bs g) 2) 3<|cdF h0<|cdF h1<|cdF h2<|cdT h3 rfl))<|λh3=>(lf (wy (k9 bs g) 3) 2<|cdF h0<|cdF h1<|cdF h2<|cdF h3 rfl)))))
 oab
def KT(bs:lXA)(g:G)(ls:length g.kids<=9223372036854775807)(hL:(bs++aM g).length<=140737488355312)(hK: ∀u∈G.kids g,∀bs:lXA,(bs++aM u).length<=140737488355312->u6 61 [.ag (gCC u)] bs (bs++aM u)):cx pg 57 1 0 EP (si bs g):=sZ (λ_=>ab4 (gp (bC (.cons (eS λc=>⟨c.1,cS (bs++(ai<|wrap .i64 g.op)) (length (map gC g.kids):Int) c.2.1⟩) dg.nil)<|bn (.cons (uo<|wrap .u64<|wrap .i64<|2*g.n) rfl<|.cons (uo<|wrap .u64<|wrap .i64<|(wrap .i64<|(-2)*g.n)-1) rfl cy.nil) aE) mixed<|bq _) rfl (kI bs g) (kJ bs g) (jk bs g) (Hj bs g) (Y3 bs g ls hL hK)<|fa1 (bV rfl rfl rfl oaY oaU)<|fa1 (bV rfl rfl rfl oaY oaU)<|fa1 (bV rfl rfl rfl oaY oaU)<|fa1 (bV rfl rfl rfl oaY oaU) fa0)
def Oz:Code:=bD 1 (aG 61)
def yH(bs:lXA)(g:G)(i1:Nat)(y1:Nat×(lXA)):Nat×(lXA):=(length (y1.2++(aM<|ae g.kids i1)),y1.2++(aM<|ae g.kids i1))
section
variable(bs:lXA)(g:G)
def cM(kk:Nat):Nat×(lXA):=Nat.rec (motive:=λ_=>Nat×(lXA)) ((jk bs g).1,(jk bs g).2) (λj a=>yH bs g j a) kk
theorem OA(i:Nat)(hi:i<=g.kids.length):cM bs g i=((bs++ai (wrap .i64 g.op)++opF g++(g.kids.take i).flatMap aM).length,bs++ai (wrap .i64 g.op)++opF g++(g.kids.take i).flatMap aM):=by
 induction i with
 |zero=>show((jk bs g).1,(jk bs g).2)=_;rw[aeN];simp
 |succ i ih=>show yH bs g i (cM bs g i)=_;rw[ih oaa,c8 aM g.kids oaa];simp[yH]
def OB(i1:Nat):bH:=gT 61 [.ag (gCC<|ae g.kids i1)] [.dead,.row 5 1 (map u8C<|(cM bs g i1).2)] 1 ((cM bs g i1).1) 2 (((cM bs g i1).2)++(aM<|ae g.kids i1)) (((cM bs g i1).1)=length ((cM bs g i1).2)/\(((cM bs g i1).2)++(aM<|ae g.kids i1)).length<=140737488355312/\True)
end
abbrev yI(bs:lXA)(g:G)(i1:Nat)(y1:Nat×(lXA)):Am.Loc:=[(0,.sr 1 1 0 y1.1),(3,.pf (gCC g)),(5,I (i1:Int))]
abbrev yJ(bs:lXA)(g:G)(i1:Nat)(y1:Nat×(lXA)):lXE:=[.dead,.row 5 1 (map u8C y1.2)]
section
variable(bs:lXA)(g:G)
abbrev OC(i1:Nat):Am.Loc:=yI bs g i1 (cM bs g i1)
abbrev OD(i1:Nat):lXE:=yJ bs g i1 (cM bs g i1)
abbrev Hk:Am.Loc:=[(0,.sr 1 1 0 ((cM bs g<|length g.kids).1))]
abbrev Hl:lXE:=[.dead,.row 5 1 (map u8C<|(cM bs g<|length g.kids).2)]
def sj:KB:=noK 1 (OC bs g) (OD bs g) (.exit 1) (Hk bs g) (Hl bs g) (True)
abbrev OE(i1:Nat):List bf:=[nxW (false) (OC bs g<|i1+1) (OD bs g<|i1+1) (yI bs g (i1+1) (length (((cM bs g i1).2)++(aM<|ae g.kids i1)),((cM bs g i1).2)++(aM<|ae g.kids i1))) [0,2] (yJ bs g (i1+1) (length (((cM bs g i1).2)++(aM<|ae g.kids i1)),((cM bs g i1).2)++(aM<|ae g.kids i1)))]
end
abbrev zCQ(i1:Nat):GT:=(.r [.int ↑(i1+1),bT]<|.pick 0)
def KU(bs:lXA)(g:G)(ls:length g.kids<=9223372036854775807)(hL:(bs++aM g).length<=140737488355312)(hK: ∀u∈G.kids g,∀bs:lXA,(bs++aM u).length<=140737488355312->u6 61 [.ag (gCC u)] bs (bs++aM u)):cx pg 57 1 1 (.loop Oz) (sj bs g):=
 noB (OE bs g) (λi1=>(.r [.k,bT]<|.yes<|.r [.row (gCC<|ae g.kids i1),.bG 0 [],bT]<|zCQ i1)) (range 2) zE (length g.kids)
 (λ_ i1(hx1:i1<(length g.kids))=>have hL2:bs.length+(ai<|wrap .i64 g.op).length+(opF g).length+(g.kids.flatMap aM).length<=140737488355312:=oaB;have p1:=jj (wrap .u64<|wrap .i64<|2*g.n);have p2:=jj (wrap .u64<|wrap .i64<|wrap .i64 (-2*g.n)-1);have p3:=cG (length (map gC g.kids):Int);have ha:=OA bs g i1 (agx hx1);have hfl:=fL aM g.kids hx1;have ha1:(cM bs g i1).1=length (cM bs g i1).2:=(by rw[ha]);have ha2:length (cM bs g i1).2=bs.length+(ai<|wrap .i64 g.op).length+(opF g).length+(List.flatMap aM<|List.take i1 g.kids).length:=oak;have l1:=aL gC (g.kids);have hb:(decide<|(i1:Int)<(length (map gC g.kids):Int))=true:=afT oaa;
 bB (an (a1 a0)<|an hb<|an (ac (qW (c:=OB bs g i1) ⟨oaC,oai,trivial⟩ rfl)<|ac (iP g.kids i1) a0)<|an (ac (dwo ((i1+1:Nat):Int)) a0)<|lf (wy (OE bs g i1) 0) 3<|nxP (yI bs g<|i1+1) (yJ bs g<|i1+1) rfl<|show cM bs g (i1+1)=(length (((cM bs g i1).2)++(aM<|ae g.kids i1)),((cM bs g i1).2)++(aM<|ae g.kids i1))from rfl)
 oab)
 (λ_=>have hL2:bs.length+(ai<|wrap .i64 g.op).length+(opF g).length+(g.kids.flatMap aM).length<=140737488355312:=oaB;have p1:=jj (wrap .u64<|wrap .i64<|2*g.n);have p2:=jj (wrap .u64<|wrap .i64<|wrap .i64 (-2*g.n)-1);have p3:=cG (length (map gC g.kids):Int);have l1:=aL gC (g.kids);have hb:(zAA g)=false:=afU oaa;
 bB (an (a1 a0)<|an hb<|lx (.exit 1) (Hk bs g) (range 2) (Hl bs g) 2)
 oab) (callf:=λi1=>(cz [OB bs g i1] base)) (hc:=λ_ i1 hx1=>(bC (.cons (eS λc=>⟨c.1,hK _ (aw hx1) ((cM bs g i1).2) c.2.1⟩) dg.nil) aE))
def Cx(bs:lXA)(g:G):Nat×lXA:=((cM bs g<|length g.kids).1,(cM bs g<|length g.kids).2)
def KV(y:Nat×lXA):Am.Loc:=[(4,.sr 1 1 0 y.1)]
def yK(bs:lXA)(g:G)(y:Nat×lXA):lXE:=(zBA y)
def Y4(bs:lXA)(g:G):List ((Nat×lXA)×AX×lXC):=[(((cM bs g<|length g.kids).1,(cM bs g<|length g.kids).2),.ret,[0,1])]
def aeO(bs:lXA)(g:G):List bf:=((Y4 bs g).map λw=>(⟨Cx bs g=w.1,w.2.1,KV w.1,w.2.2,yK bs g w.1⟩:bf))
def o3:di [0,1] (aG 61)=[(0,EP),(1,.loop Oz)]:=by kernel_rfl
def abD(bs:lXA)(g:G)(ls:length g.kids<=9223372036854775807)(hL:(bs++aM g).length<=140737488355312)(hK: ∀u∈G.kids g,∀bs:lXA,(bs++aM u).length<=140737488355312->u6 61 [.ag (gCC u)] bs (bs++aM u)):aY pg 61 [.sr 0 1 0 (length bs),.ag (gCC g)] [.row 5 1 (map u8C bs)] [] (.sr 1 1 0 (Cx bs g).1) (yK bs g<|Cx bs g):=have hL2:bs.length+(ai<|wrap .i64 g.op).length+(opF g).length+(g.kids.flatMap aM).length<=140737488355312:=oaB;have p1:=jj (wrap .u64<|wrap .i64<|2*g.n);have p2:=jj (wrap .u64<|wrap .i64<|wrap .i64 (-2*g.n)-1);have p3:=cG (length (map gC g.kids):Int);cZ (ob0:=[.row 5 1 (map u8C bs)]) (fn:=Tryz.f61) (callf:=(cz [Ov bs g] base)) (pu:=cU) (lf:=3000) (l:=[(0,si bs g),(1,sj bs g)]) (t:=(.r [bT]<|.r [.bG 0 [],bT]<|.r [bT]<|.no zCV)) (bC (.cons (eS λc=>⟨c.1,cS bs (wrap .i64 g.op) c.2.1⟩) dg.nil) aE) mixed Tryz.func61 oab (show Tryz.f61.body=some (aG 61) by kernel_rfl) (nbl rfl) (bw (l:=[(0,si bs g),(1,sj bs g)]) o3 (aK (KT bs g ls hL hK) rfl<|aK (KU bs g ls hL hK) rfl aU) rfl) rfl KV (yK bs g) (Cx bs g) (Y4 bs g) (nbl rfl) rfl (by simp[yK,Ob.und,AV.und,bx,bj cn]) (bB (an a0<|an (ac (qWd<|Ov bs g) a0)<|an a0<|an (kbT (si bs g) trivial)<|an (rfl:false=false)<|an a0<|an (kbT (sj bs g) trivial)<|an (rfl:false=false)<|an a0<|lf (wy (aeO bs g) 0) 2 rfl) oab) (fa1 (.inr rfl) fa0) (fa1 (bV rfl rfl rfl (by simp[KV,plS,AV.pure])<|by simp[yK,plS,plO,AV.pure,aj,ak]) fa0) rfl
def Hm: ∀g:G,dV g-> ∀bs:lXA,(bs++aM g).length<=140737488355312->u6 61 [.ag (gCC g)] bs (bs++aM g):=G.xB λo n s l ih hf bs hL=>by
 have h:=abD bs (.mk o n s l) hf.len hL λu hu=>ih u hu (hf.kids u hu);have e:Cx bs (.mk o n s l)=((bs++aM (.mk o n s l)).length,bs++aM (.mk o n s l)):=by unfold Cx;rw[OA bs _ _ (afP _),agj,fF];simp
 rw[e]at h;exact h
def gJ(r:Int×Int):lXA:=ai (wrap .i64 r.1)++ai (wrap .i64<|wrap .i32<|r.2-r.1)
def dY(a:Int×Int):lXA:=ai (wrap .i64 a.1)++ai a.2
def fv(e:Edge):lXA:=bif e.op==1 then ay gJ e.set else bif e.op==2||e.op==5 then ai e.n++ai e.level else bif e.op==4 then ai e.n else bif e.op==3 then aM e.g else bif e.op==7 then ay dY e.bL else []
def cc(e:Edge):lXA:=ai (wrap .i64 e.op)++ai e.to++fv e
def bl1{e:Edge}(h:(e.op==1)=true):(fv e).length=(ai (length (map aP e.set):Int)).length+(e.set.flatMap gJ).length:=by simp[fv,h,ay]
def bl3{e:Edge}(h:(e.op==3)=true):(fv e).length=(aM e.g).length:=by have:e.op=3:=eq_of_beq h;simp[fv,this]
def bl7{e:Edge}(h:(e.op==7)=true):(fv e).length=(ai (length (map cO e.bL):Int)).length+(e.bL.flatMap dY).length:=by have:e.op=7:=eq_of_beq h;simp[fv,this,ay]
def OF(bs:lXA)(e:Edge):bH:=gT 27 [I (wrap .i64 e.op)] [.row 5 1 (map u8C bs)] 0 (length bs) 1 (bs++(ai<|wrap .i64 e.op)) ((length bs)=length bs/\(bs++(ai<|wrap .i64 e.op)).length<=140737488355328/\True)
def OG(bs:lXA)(e:Edge):bH:=gT 27 [I e.to] [.dead,.row 5 1 (map u8C<|bs++(ai<|wrap .i64 e.op))] 1 (length<|bs++(ai<|wrap .i64 e.op)) 2 ((bs++(ai<|wrap .i64 e.op))++(ai e.to)) ((length<|bs++(ai<|wrap .i64 e.op))=length (bs++(ai<|wrap .i64 e.op))/\((bs++(ai<|wrap .i64 e.op))++(ai e.to)).length<=140737488355328/\True)
def oT:Code:=oM 0 (aG 30)
def OH(bs:lXA)(e:Edge):bH:=gT 27 [I (length (map aP e.set):Int)] [.dead,.dead,.row 5 1 (map u8C<|(bs++(ai<|wrap .i64 e.op))++(ai e.to))] 2 (length<|(bs++(ai<|wrap .i64 e.op))++(ai e.to)) 3 (((bs++(ai<|wrap .i64 e.op))++(ai e.to))++(ai (length (map aP e.set):Int))) ((length<|(bs++(ai<|wrap .i64 e.op))++(ai e.to))=length ((bs++(ai<|wrap .i64 e.op))++(ai e.to))/\(((bs++(ai<|wrap .i64 e.op))++(ai e.to))++(ai (length (map aP e.set):Int))).length<=140737488355328/\True)
def OI:Code:=bD 1 oT
def yL(bs:lXA)(e:Edge)(i1:Nat)(y1:lXA):lXA:=(y1++(ai<|wrap .i64<|((ae e.set i1)).1))++(ai<|wrap .i64<|wrap .i32<|((ae e.set i1)).2-((ae e.set i1)).1)
section
variable(bs:lXA)(e:Edge)
def cC(kk:Nat):lXA:=Nat.rec (motive:=λ_=>lXA) (((bs++(ai<|wrap .i64 e.op))++(ai e.to))++(ai (length (map aP e.set):Int))) (λj a=>yL bs e j a) kk
theorem Y5(i:Nat)(hi:i<=e.set.length):cC bs e i=bs++ai (wrap .i64 e.op)++ai e.to++ai (length (map aP e.set):Int)++(e.set.take i).flatMap gJ:=by
 induction i with
 |zero=>show bs++ai (wrap .i64 e.op)++ai e.to++ai (length (map aP e.set):Int)=_;simp
 |succ i ih=>show yL bs e i (cC bs e i)=_;rw[ih oaa,c8 gJ e.set oaa];simp[yL,gJ]
def OJ(i1:Nat):bH:=gT 27 [I (wrap .i64<|((ae e.set i1)).1)] [.dead,.dead,.dead,.row 5 1 (map u8C<|cC bs e i1)] 3 (length<|cC bs e i1) 4 ((cC bs e i1)++(ai<|wrap .i64<|((ae e.set i1)).1)) ((length<|cC bs e i1)=length (cC bs e i1)/\((cC bs e i1)++(ai<|wrap .i64<|((ae e.set i1)).1)).length<=140737488355328/\True)
def OK(i1:Nat):bH:=gT 27 [I (wrap .i64<|wrap .i32<|((ae e.set i1)).2-((ae e.set i1)).1)] [.dead,.dead,.dead,.dead,.row 5 1 (map u8C<|(cC bs e i1)++(ai<|wrap .i64<|((ae e.set i1)).1))] 4 (length<|(cC bs e i1)++(ai<|wrap .i64<|((ae e.set i1)).1)) 5 (((cC bs e i1)++(ai<|wrap .i64<|((ae e.set i1)).1))++(ai<|wrap .i64<|wrap .i32<|((ae e.set i1)).2-((ae e.set i1)).1)) ((length<|(cC bs e i1)++(ai<|wrap .i64<|((ae e.set i1)).1))=length ((cC bs e i1)++(ai<|wrap .i64<|((ae e.set i1)).1))/\(((cC bs e i1)++(ai<|wrap .i64<|((ae e.set i1)).1))++(ai<|wrap .i64<|wrap .i32<|((ae e.set i1)).2-((ae e.set i1)).1)).length<=140737488355328/\True)
end
abbrev yM(bs:lXA)(e:Edge)(i1:Nat)(y1:lXA):Am.Loc:=[(0,.sr 3 1 0 (length y1)),(3,.pf (aQ e)),(5,I (i1:Int))]
abbrev yN(bs:lXA)(e:Edge)(i1:Nat)(y1:lXA):lXE:=[.dead,.dead,.dead,.row 5 1 (map u8C y1)]
section
variable(bs:lXA)(e:Edge)
abbrev OL(i1:Nat):Am.Loc:=yM bs e i1 (cC bs e i1)
abbrev OM(i1:Nat):lXE:=yN bs e i1 (cC bs e i1)
abbrev Hn:Am.Loc:=[(0,.sr 3 1 0 (length<|cC bs e<|length e.set))]
abbrev Ho:lXE:=[.dead,.dead,.dead,.row 5 1 (map u8C<|cC bs e<|length e.set)]
def sm:KB:=noK 1 (OL bs e) (OM bs e) (.exit 1) (Hn bs e) (Ho bs e) ((e.op==1)=true)
abbrev ON(i1:Nat):List bf:=[nxW (false) (OL bs e<|i1+1) (OM bs e<|i1+1) (yM bs e (i1+1)<|((cC bs e i1)++(ai<|wrap .i64<|((ae e.set i1)).1))++(ai<|wrap .i64<|wrap .i32<|((ae e.set i1)).2-((ae e.set i1)).1)) [0,1,2,5] (yN bs e (i1+1)<|((cC bs e i1)++(ai<|wrap .i64<|((ae e.set i1)).1))++(ai<|wrap .i64<|wrap .i32<|((ae e.set i1)).2-((ae e.set i1)).1))]
theorem KW(lq:length e.set<=9223372036854775807)(la:length e.bL<=9223372036854775807)(hg:dV e.g)(hL:(bs++cc e).length<=140737488355200):cx pg 108 1 1 (.loop OI) (sm bs e):=
 noB (ON bs e) (λi1=>(.r [.k,bT]<|.yes<|.r [.row (aP<|ae e.set i1),.bG 0 [],.row (aP<|ae e.set i1),.row (aP<|ae e.set i1),.int (wrap .i32<|((ae e.set i1)).2-((ae e.set i1)).1),.bG 1 [],bT]<|zCQ i1)) (range 4) zE (length e.set)
 (λ(hp1:(e.op==1)=true) i1(hx1:i1<(length e.set))=>have hL2:bs.length+(ai<|wrap .i64 e.op).length+(ai e.to).length+(fv e).length<=140737488355200:=oau;have p1:=cG e.n;have p2:=cG e.level;have blgp0:=bl1 hp1;have gp0:=eq_of_beq hp1;have ha:=Y5 bs e i1 (agx hx1);have hfl:=fL gJ e.set hx1;have hfe:(gJ<|ae e.set i1).length=(ai<|wrap .i64 (ae e.set i1).1).length+(ai<|wrap .i64<|wrap .i32<|(ae e.set i1).2-(ae e.set i1).1).length:=(by simp only[gJ,afQ]);have ha2:length (cC bs e i1)=bs.length+(ai<|wrap .i64 e.op).length+(ai e.to).length+(ai (length (map aP e.set):Int)).length+(List.flatMap gJ<|List.take i1 e.set).length:=oak;have l1:=aL aP (e.set);have hb:(decide<|(i1:Int)<(length (map aP e.set):Int))=true:=afT oaa;
 bB (an (a1 a0)<|an hb<|an (ac (qWd<|OK bs e i1)<|ac (bQ<|wrap .i32<|((ae e.set i1)).2-((ae e.set i1)).1)<|ac (rwa aP e.set i1)<|ac (rwa aP e.set i1)<|ac (qWd<|OJ bs e i1)<|ac (rwa aP e.set i1) a0)<|an (ac (dwo ((i1+1:Nat):Int)) a0)<|lf (wy (ON bs e i1) 0) 6<|nxP (yM bs e<|i1+1) (yN bs e<|i1+1) rfl<|show cC bs e (i1+1)=(((cC bs e i1)++(ai<|wrap .i64<|((ae e.set i1)).1))++(ai<|wrap .i64<|wrap .i32<|((ae e.set i1)).2-((ae e.set i1)).1))from rfl)
 oab)
 (λ(hp1:(e.op==1)=true)=>have hL2:bs.length+(ai<|wrap .i64 e.op).length+(ai e.to).length+(fv e).length<=140737488355200:=oau;have p1:=cG e.n;have p2:=cG e.level;have blgp0:=bl1 hp1;have gp0:=eq_of_beq hp1;have l1:=aL aP (e.set);have hb:(decide<|(((length e.set):Nat):Int)<(length (map aP e.set):Int))=false:=afU oaa;
 bB (an (a1 a0)<|an hb<|lx (.exit 1) (Hn bs e) (range 4) (Ho bs e) 4)
 oab) (callf:=λi1=>(cz [OJ bs e i1,OK bs e i1] base)) (hc:=λhp1 i1 hx1=>(bC (.cons (eS λc=>⟨c.1,cS (cC bs e i1) (wrap .i64<|((ae e.set i1)).1) c.2.1⟩)<|.cons (eS λc=>⟨c.1,cS ((cC bs e i1)++(ai<|wrap .i64<|((ae e.set i1)).1)) (wrap .i64<|wrap .i32<|((ae e.set i1)).2-((ae e.set i1)).1) c.2.1⟩) dg.nil) aE))
def vA:bH:=gT 27 [I e.n] [.dead,.dead,.row 5 1 (map u8C<|(bs++(ai<|wrap .i64 e.op))++(ai e.to))] 2 (length<|(bs++(ai<|wrap .i64 e.op))++(ai e.to)) 3 (((bs++(ai<|wrap .i64 e.op))++(ai e.to))++(ai e.n)) ((length<|(bs++(ai<|wrap .i64 e.op))++(ai e.to))=length ((bs++(ai<|wrap .i64 e.op))++(ai e.to))/\(((bs++(ai<|wrap .i64 e.op))++(ai e.to))++(ai e.n)).length<=140737488355328/\True)
def ES:bH:=gT 27 [I e.level] [.dead,.dead,.dead,.row 5 1 (map u8C<|((bs++(ai<|wrap .i64 e.op))++(ai e.to))++(ai e.n))] 3 (length<|((bs++(ai<|wrap .i64 e.op))++(ai e.to))++(ai e.n)) 4 ((((bs++(ai<|wrap .i64 e.op))++(ai e.to))++(ai e.n))++(ai e.level)) ((length<|((bs++(ai<|wrap .i64 e.op))++(ai e.to))++(ai e.n))=length (((bs++(ai<|wrap .i64 e.op))++(ai e.to))++(ai e.n))/\((((bs++(ai<|wrap .i64 e.op))++(ai e.to))++(ai e.n))++(ai e.level)).length<=140737488355328/\True)
def OO:bH:=gT 61 [.ag (gCC e.g)] [.dead,.dead,.row 5 1 (map u8C<|(bs++(ai<|wrap .i64 e.op))++(ai e.to))] 2 (length<|(bs++(ai<|wrap .i64 e.op))++(ai e.to)) 3 (((bs++(ai<|wrap .i64 e.op))++(ai e.to))++(aM e.g)) ((length<|(bs++(ai<|wrap .i64 e.op))++(ai e.to))=length ((bs++(ai<|wrap .i64 e.op))++(ai e.to))/\(((bs++(ai<|wrap .i64 e.op))++(ai e.to))++(aM e.g)).length<=140737488355312/\(dV e.g))
def Hp:bH:=gT 27 [I (length (map cO e.bL):Int)] [.dead,.dead,.row 5 1 (map u8C<|(bs++(ai<|wrap .i64 e.op))++(ai e.to))] 2 (length<|(bs++(ai<|wrap .i64 e.op))++(ai e.to)) 3 (((bs++(ai<|wrap .i64 e.op))++(ai e.to))++(ai (length (map cO e.bL):Int))) ((length<|(bs++(ai<|wrap .i64 e.op))++(ai e.to))=length ((bs++(ai<|wrap .i64 e.op))++(ai e.to))/\(((bs++(ai<|wrap .i64 e.op))++(ai e.to))++(ai (length (map cO e.bL):Int))).length<=140737488355328/\True)
end
def OP:Code:=bD 3 oT
def yO(bs:lXA)(e:Edge)(i3:Nat)(y3:lXA):lXA:=(y3++(ai<|wrap .i64<|((ae e.bL i3)).1))++(ai<|((ae e.bL i3)).2)
section
variable(bs:lXA)(e:Edge)
def cD(kk:Nat):lXA:=Nat.rec (motive:=λ_=>lXA) (((bs++(ai<|wrap .i64 e.op))++(ai e.to))++(ai (length (map cO e.bL):Int))) (λj a=>yO bs e j a) kk
theorem Y6(i:Nat)(hi:i<=e.bL.length):cD bs e i=bs++ai (wrap .i64 e.op)++ai e.to++ai (length (map cO e.bL):Int)++(e.bL.take i).flatMap dY:=by
 induction i with
 |zero=>show bs++ai (wrap .i64 e.op)++ai e.to++ai (length (map cO e.bL):Int)=_;simp
 |succ i ih=>show yO bs e i (cD bs e i)=_;rw[ih oaa,c8 dY e.bL oaa];simp[yO,dY]
def Hq(i3:Nat):bH:=gT 27 [I (wrap .i64<|((ae e.bL i3)).1)] [.dead,.dead,.dead,.row 5 1 (map u8C<|cD bs e i3)] 3 (length<|cD bs e i3) 4 ((cD bs e i3)++(ai<|wrap .i64<|((ae e.bL i3)).1)) ((length<|cD bs e i3)=length (cD bs e i3)/\((cD bs e i3)++(ai<|wrap .i64<|((ae e.bL i3)).1)).length<=140737488355328/\True)
def Hr(i3:Nat):bH:=gT 27 [I (((ae e.bL i3)).2)] [.dead,.dead,.dead,.dead,.row 5 1 (map u8C<|(cD bs e i3)++(ai<|wrap .i64<|((ae e.bL i3)).1))] 4 (length<|(cD bs e i3)++(ai<|wrap .i64<|((ae e.bL i3)).1)) 5 (((cD bs e i3)++(ai<|wrap .i64<|((ae e.bL i3)).1))++(ai<|((ae e.bL i3)).2)) ((length<|(cD bs e i3)++(ai<|wrap .i64<|((ae e.bL i3)).1))=length ((cD bs e i3)++(ai<|wrap .i64<|((ae e.bL i3)).1))/\(((cD bs e i3)++(ai<|wrap .i64<|((ae e.bL i3)).1))++(ai<|((ae e.bL i3)).2)).length<=140737488355328/\True)
end
abbrev yP(bs:lXA)(e:Edge)(i3:Nat)(y3:lXA):Am.Loc:=[(0,.sr 3 1 0 (length y3)),(3,.pf (aQ e)),(6,I (i3:Int))]
abbrev yQ(bs:lXA)(e:Edge)(i3:Nat)(y3:lXA):lXE:=[.dead,.dead,.dead,.row 5 1 (map u8C y3)]
section
variable(bs:lXA)(e:Edge)
abbrev OQ(i3:Nat):Am.Loc:=yP bs e i3 (cD bs e i3)
abbrev OR(i3:Nat):lXE:=yQ bs e i3 (cD bs e i3)
abbrev Hs:Am.Loc:=[(0,.sr 3 1 0 (length<|cD bs e<|length e.bL))]
abbrev Ht:lXE:=[.dead,.dead,.dead,.row 5 1 (map u8C<|cD bs e<|length e.bL)]
def sn:KB:=noK 3 (OQ bs e) (OR bs e) (.exit 3) (Hs bs e) (Ht bs e) ((e.op==7)=true)
abbrev OS(i3:Nat):List bf:=[nxW (false) (OQ bs e<|i3+1) (OR bs e<|i3+1) (yP bs e (i3+1)<|((cD bs e i3)++(ai<|wrap .i64<|((ae e.bL i3)).1))++(ai<|((ae e.bL i3)).2)) [0,1,2,5] (yQ bs e (i3+1)<|((cD bs e i3)++(ai<|wrap .i64<|((ae e.bL i3)).1))++(ai<|((ae e.bL i3)).2))]
theorem KX(lq:length e.set<=9223372036854775807)(la:length e.bL<=9223372036854775807)(hg:dV e.g)(hL:(bs++cc e).length<=140737488355200):cx pg 108 1 3 (.loop OP) (sn bs e):=
 noB (OS bs e) (λi3=>(.r [.k,bT]<|.yes<|.r [.row (cO<|ae e.bL i3),.bG 0 [],.row (cO<|ae e.bL i3),.bG 1 [],bT]<|.r [.int ↑(i3+1),bT]<|.pick 0)) (range 4) zE (length e.bL)
 (λ(hp3:(e.op==7)=true) i3(hx3:i3<(length e.bL))=>have hL2:bs.length+(ai<|wrap .i64 e.op).length+(ai e.to).length+(fv e).length<=140737488355200:=oau;have p1:=cG e.n;have p2:=cG e.level;have blgp0:=bl7 hp3;have gp0:=eq_of_beq hp3;have ha:=Y6 bs e i3 (agx hx3);have hfl:=fL dY e.bL hx3;have hfe:(dY<|ae e.bL i3).length=(ai<|wrap .i64 (ae e.bL i3).1).length+(ai<|(ae e.bL i3).2).length:=(by simp only[dY,afQ]);have ha2:length (cD bs e i3)=bs.length+(ai<|wrap .i64 e.op).length+(ai e.to).length+(ai (length (map cO e.bL):Int)).length+(List.flatMap dY<|List.take i3 e.bL).length:=oak;have l1:=aL cO (e.bL);have hb:(decide<|(i3:Int)<(length (map cO e.bL):Int))=true:=afT oaa;
 bB (an (a1 a0)<|an hb<|an (ac (qWd<|Hr bs e i3)<|ac (rwa cO e.bL i3)<|ac (qWd<|Hq bs e i3)<|ac (rwa cO e.bL i3) a0)<|an (ac (dwo ((i3+1:Nat):Int)) a0)<|lf (wy (OS bs e i3) 0) 6<|nxP (yP bs e<|i3+1) (yQ bs e<|i3+1) rfl<|show cD bs e (i3+1)=(((cD bs e i3)++(ai<|wrap .i64<|((ae e.bL i3)).1))++(ai<|((ae e.bL i3)).2))from rfl)
 oab)
 (λ(hp3:(e.op==7)=true)=>have hL2:bs.length+(ai<|wrap .i64 e.op).length+(ai e.to).length+(fv e).length<=140737488355200:=oau;have p1:=cG e.n;have p2:=cG e.level;have blgp0:=bl7 hp3;have gp0:=eq_of_beq hp3;have l1:=aL cO (e.bL);have hb:(zCM e)=false:=afU oaa;
 bB (an (a1 a0)<|an hb<|lx (.exit 3) (Hs bs e) (range 4) (Ht bs e) 4)
 oab) (callf:=λi3=>(cz [Hq bs e i3,Hr bs e i3] base)) (hc:=λhp3 i3 hx3=>(bC (.cons (eS λc=>⟨c.1,cS (cD bs e i3) (wrap .i64<|((ae e.bL i3)).1) c.2.1⟩)<|.cons (eS λc=>⟨c.1,cS ((cD bs e i3)++(ai<|wrap .i64<|((ae e.bL i3)).1)) (((ae e.bL i3)).2) c.2.1⟩) dg.nil) aE))
def jl:Nat×lXA:=(bif e.op==1 then(length (cC bs e<|length e.set),(cC bs e<|length e.set))else(bif e.op==2 then(length ((((bs++(ai<|wrap .i64 e.op))++(ai e.to))++(ai e.n))++(ai e.level)),(((bs++(ai<|wrap .i64 e.op))++(ai e.to))++(ai e.n))++(ai e.level))else(bif e.op==5 then(length ((((bs++(ai<|wrap .i64 e.op))++(ai e.to))++(ai e.n))++(ai e.level)),(((bs++(ai<|wrap .i64 e.op))++(ai e.to))++(ai e.n))++(ai e.level))else(bif e.op==4 then(length (((bs++(ai<|wrap .i64 e.op))++(ai e.to))++(ai e.n)),((bs++(ai<|wrap .i64 e.op))++(ai e.to))++(ai e.n))else(bif e.op==3 then(length (((bs++(ai<|wrap .i64 e.op))++(ai e.to))++(aM e.g)),((bs++(ai<|wrap .i64 e.op))++(ai e.to))++(aM e.g))else(bif e.op==7 then(length (cD bs e<|length e.bL),(cD bs e<|length e.bL))else(length ((bs++(ai<|wrap .i64 e.op))++(ai e.to)),(bs++(ai<|wrap .i64 e.op))++(ai e.to))))))))
theorem aeP:jl bs e=((bs++cc e).length,bs++cc e):=by unfold jl;rw[Y5 bs e _ (afP _),Y6 bs e _ (afP _),agj,agj];simp only[cc,fv,ay,afW];cases e.op==1<;>cases e.op==2<;>cases e.op==5<;>cases e.op==4<;>cases e.op==3<;>cases e.op==7<;>simp
def OT:Am.Loc:=[(0,.sr 2 1 0 (length<|(bs++(ai<|wrap .i64 e.op))++(ai e.to))),(3,.pf (aQ e)),(16,I8 e.op)]
def OU:lXE:=[.dead,.dead,.row 5 1 (map u8C<|(bs++(ai<|wrap .i64 e.op))++(ai e.to))]
end
def iH(bs:lXA)(e:Edge)(y:Nat×lXA):Am.Loc:=[(0,.sr 1 1 0 y.1)]
def iI(bs:lXA)(e:Edge)(y:Nat×lXA):lXE:=(zBA y)
section
variable(bs:lXA)(e:Edge)
def so:KB:=⟨OT bs e,OU bs e,false,.ret,[],[],.normal,iH bs e (jl bs e),iI bs e (jl bs e),True⟩
def Hu:List ((Nat×lXA)×lXC):=[((length (cC bs e<|length e.set),(cC bs e<|length e.set)),[0,3]),((length ((((bs++(ai<|wrap .i64 e.op))++(ai e.to))++(ai e.n))++(ai e.level)),(((bs++(ai<|wrap .i64 e.op))++(ai e.to))++(ai e.n))++(ai e.level)),[0,4]),((length (((bs++(ai<|wrap .i64 e.op))++(ai e.to))++(ai e.n)),((bs++(ai<|wrap .i64 e.op))++(ai e.to))++(ai e.n)),[0,3]),((length (((bs++(ai<|wrap .i64 e.op))++(ai e.to))++(aM e.g)),((bs++(ai<|wrap .i64 e.op))++(ai e.to))++(aM e.g)),[0,3]),((length (cD bs e<|length e.bL),(cD bs e<|length e.bL)),[0,3]),((length ((bs++(ai<|wrap .i64 e.op))++(ai e.to)),(bs++(ai<|wrap .i64 e.op))++(ai e.to)),[0,2])]
def ld:List bf:=(Hu bs e).map λw=>(⟨jl bs e=w.1,.normal,iH bs e w.1,w.2,iI bs e w.1⟩:bf)
end
abbrev zu:GT:=(.r [.bG 0 [],bT] zCw)
abbrev zDG:GT:=(.r [.bG 1 [],.bG 2 [],bT]<|.pick 1)
def Y7(bs:lXA)(e:Edge)(lq:length e.set<=9223372036854775807)(la:length e.bL<=9223372036854775807)(hg:dV e.g)(hL:(bs++cc e).length<=140737488355200):vcC pg 108 (cz [OH bs e,vA bs e,ES bs e,OO bs e,Hp bs e] base) cU 3000 (kbL [(1,sm bs e),(3,sn bs e)]) (.block 0 oT) (en<|OT bs e) (dZ<|OU bs e) 3 (ku<|ld bs e) (.r [.k,bT]<|.br zu<|.r [.k,bT]<|.br zDG<|.r [.k,bT]<|.br zDG<|.r [.k,bT]<|.br (.r [.bG 1 [],bT]<|.pick 2)<|.r [.k,bT]<|.br (.r [.bG 3 [],bT]<|.pick 3)<|.r [.k,bT]<|.br (.r [.bG 4 [],bT]<|.r [bT]<|.no<|.pick 4)<|.pick 5):=
 have hL2:bs.length+(ai<|wrap .i64 e.op).length+(ai e.to).length+(fv e).length<=140737488355200:=oau;have p1:=cG e.n;have p2:=cG e.level;bB (an (a1 a0)<|brP (λ(h0:(e.op==1)=true)=>have blg0:=bl1 h0;have g0:=eq_of_beq h0;
 (an (ac (qWd<|OH bs e) a0)<|an a0<|an (kbT (sm bs e) h0)<|an (rfl:false=false)<|lf (wy (ld bs e) 0) 4<|cdT h0 rfl))<|λh0=>have g0:=afX h0;
 (an (a1 a0)<|brP (λ(h1:(e.op==2)=true)=>have g1:=eq_of_beq h1;
 (an (ac (qWd<|ES bs e)<|ac (qWd<|vA bs e) a0)<|lf (wy (ld bs e) 1) 5<|cdF h0<|cdT h1 rfl))<|λh1=>have g1:=afX h1;
 (an (a1 a0)<|brP (λ(h2:(e.op==5)=true)=>have g2:=eq_of_beq h2;
 (an (ac (qWd<|ES bs e)<|ac (qWd<|vA bs e) a0)<|lf (wy (ld bs e) 1) 5<|cdF h0<|cdF h1<|cdT h2 rfl))<|λh2=>have g2:=afX h2;
 (an (a1 a0)<|brP (λ(h3:(e.op==4)=true)=>have g3:=eq_of_beq h3;
 (an (ac (qWd<|vA bs e) a0)<|lf (wy (ld bs e) 2) 4<|cdF h0<|cdF h1<|cdF h2<|cdT h3 rfl))<|λh3=>have g3:=afX h3;
 (an (a1 a0)<|brP (λ(h4:(e.op==3)=true)=>have blg4:=bl3 h4;have g4:=eq_of_beq h4;
 (an (ac (qW (c:=OO bs e) ⟨rfl,oai,hg⟩ rfl) a0)<|lf (wy (ld bs e) 3) 4<|cdF h0<|cdF h1<|cdF h2<|cdF h3<|cdT h4 rfl))<|λh4=>have g4:=afX h4;
 (an (a1 a0)<|brP (λ(h5:(e.op==7)=true)=>have blg5:=bl7 h5;have g5:=eq_of_beq h5;
 (an (ac (qWd<|Hp bs e) a0)<|an a0<|an (kbT (sn bs e) h5)<|an (rfl:false=false)<|lf (wy (ld bs e) 4) 4<|cdF h0<|cdF h1<|cdF h2<|cdF h3<|cdF h4<|cdT h5 rfl))<|λh5=>(lf (wy (ld bs e) 5) 3<|cdF h0<|cdF h1<|cdF h2<|cdF h3<|cdF h4<|cdF h5 rfl)))))))
 oab
def mS:di [1,3] (.block 0 oT)=[(1,.loop OI),(3,.loop OP)]:=by kernel_rfl
def KY(bs:lXA)(e:Edge)(lq:length e.set<=9223372036854775807)(la:length e.bL<=9223372036854775807)(hg:dV e.g)(hL:(bs++cc e).length<=140737488355200):cx pg 108 1 0 oT (so bs e):=sZ (λ_=>ab4 (gp (bC (.cons (eS λc=>⟨c.1,cS ((bs++(ai<|wrap .i64 e.op))++(ai e.to)) (length (map aP e.set):Int) c.2.1⟩)<|.cons (eS λc=>⟨c.1,cS ((bs++(ai<|wrap .i64 e.op))++(ai e.to)) e.n c.2.1⟩)<|.cons (eS λc=>⟨c.1,cS (((bs++(ai<|wrap .i64 e.op))++(ai e.to))++(ai e.n)) e.level c.2.1⟩)<|.cons (eS λc=>⟨c.1,Hm e.g c.2.2 ((bs++(ai<|wrap .i64 e.op))++(ai e.to)) c.2.1⟩)<|.cons (eS λc=>⟨c.1,cS ((bs++(ai<|wrap .i64 e.op))++(ai e.to)) (length (map cO e.bL):Int) c.2.1⟩) dg.nil) aE) mixed<|bw (l:=[(1,sm bs e),(3,sn bs e)]) mS (aK (KW bs e lq la hg hL) rfl<|aK (KX bs e lq la hg hL) rfl aU) rfl) rfl (iH bs e) (iI bs e) (jl bs e) (Hu bs e) (Y7 bs e lq la hg hL)<|fa1 (bV rfl rfl rfl oaJ oaD)<|fa1 (bV rfl rfl rfl oaJ oaD)<|fa1 (bV rfl rfl rfl oaJ oaD)<|fa1 (bV rfl rfl rfl oaJ oaD)<|fa1 (bV rfl rfl rfl oaJ oaD)<|fa1 (bV rfl rfl rfl oaJ oaD) fa0)
def Cy(bs:lXA)(e:Edge):Nat×lXA:=((jl bs e).1,(jl bs e).2)
def KZ(y:Nat×lXA):Am.Loc:=[(4,.sr 1 1 0 y.1)]
def yR(bs:lXA)(e:Edge)(y:Nat×lXA):lXE:=(zBA y)
def Y8(bs:lXA)(e:Edge):List ((Nat×lXA)×AX×lXC):=[(((jl bs e).1,(jl bs e).2),.ret,[0,1])]
def aeQ(bs:lXA)(e:Edge):List bf:=((Y8 bs e).map λw=>(⟨Cy bs e=w.1,w.2.1,KZ w.1,w.2.2,yR bs e w.1⟩:bf))
def o4:di [0] (aG 30)=[(0,oT)]:=by kernel_rfl
def aeR(bs:lXA)(e:Edge)(lq:length e.set<=9223372036854775807)(la:length e.bL<=9223372036854775807)(hg:dV e.g)(hL:(bs++cc e).length<=140737488355200):aY pg 30 [.sr 0 1 0 (length bs),.ag (aQ e)] [.row 5 1 (map u8C bs)] [] (.sr 1 1 0 (Cy bs e).1) (yR bs e<|Cy bs e):=have hL2:bs.length+(ai<|wrap .i64 e.op).length+(ai e.to).length+(fv e).length<=140737488355200:=oau;have p1:=cG e.n;have p2:=cG e.level;cZ (ob0:=[.row 5 1 (map u8C bs)]) (fn:=Tryz.f30) (callf:=(cz [OF bs e,OG bs e] base)) (pu:=cU) (lf:=3000) (l:=[(0,so bs e)]) (t:=(.r [bT]<|.r [.bG 0 [],.bG 1 [],bT] zCV)) (bC (.cons (eS λc=>⟨c.1,cS bs (wrap .i64 e.op) c.2.1⟩)<|.cons (eS λc=>⟨c.1,cS (bs++(ai<|wrap .i64 e.op)) e.to c.2.1⟩) dg.nil) aE) mixed Tryz.func30 oab (show Tryz.f30.body=some (aG 30) by kernel_rfl) (nbl rfl) (bw (l:=[(0,so bs e)]) o4 (aK (KY bs e lq la hg hL) rfl aU) rfl) rfl KZ (yR bs e) (Cy bs e) (Y8 bs e) (nbl rfl) rfl (by simp[yR,Ob.und,AV.und,bx,bj cn]) (bB (an a0<|an (ac (qWd<|OG bs e)<|ac (qWd<|OF bs e) a0)<|an a0<|an (kbT (so bs e) trivial)<|an (rfl:false=false)<|an a0<|lf (wy (aeQ bs e) 0) 2 rfl) oab) (fa1 (.inr rfl) fa0) (fa1 (bV rfl rfl rfl (by simp[KZ,plS,AV.pure])<|by simp[yR,plS,plO,AV.pure,aj,ak]) fa0) rfl
def cX(r:bI):Int:=(bif r.bN then(bif r.eF then(bif r.lazy then(bif r.left then 15 else 7)else(bif r.left then 11 else 3))else(bif r.lazy then(bif r.left then 13 else 5)else(bif r.left then 9 else 1)))else(bif r.eF then(bif r.lazy then(bif r.left then 14 else 6)else(bif r.left then 10 else 2))else(bif r.lazy then(bif r.left then 12 else 4)else(bif r.left then 8 else 0))))
def abE(r:bI):aY pg 29 [.ag (aC r)] [] [] (.v<| .int .u8 (cX r)) []:=
 aV 29 (.r [bT]<|.r [bT]<|.r [bT]<|.br (.r [.int 1,bT]<|.r [bT]<|.br (.r [.int 3,bT]<|.r [bT]<|.br (.r [.int 7,bT]<|.r [bT]<|.br (.r [.int 15,bT] zF) zF)<|.r [bT]<|.br (.r [.int 11,bT] zF) zF)<|.r [bT]<|.br (.r [.int 5,bT]<|.r [bT]<|.br (.r [.int 13,bT] zF) zF)<|.r [bT]<|.br (.r [.int 9,bT] zF) zF)<|.r [bT]<|.br (.r [.int 2,bT]<|.r [bT]<|.br (.r [.int 6,bT]<|.r [bT]<|.br (.r [.int 14,bT] zF) zF)<|.r [bT]<|.br (.r [.int 10,bT] zF) zF)<|.r [bT]<|.br (.r [.int 4,bT]<|.r [bT]<|.br (.r [.int 12,bT] zF) zF)<|.r [bT]<|.br (.r [.int 8,bT] zF) zF)
 (an a0<|an a0<|an a0<|brP (λ(h0:(r.bN)=true)=>(an (ac (bQ (1:Int)) a0)<|an a0<|brP (λ(h1:(r.eF)=true)=>(an (ac (bQ (3:Int)) a0)<|an a0<|brP (λ(h2:(r.lazy)=true)=>(an (ac (bQ (7:Int)) a0)<|an a0<|brP (λ(h3:(r.left)=true)=>(an (ac (bQ (15:Int)) a0)<|an a0<|af1 (λz=>AV.v<|.int .u8 z) (show cX r=_ from(cdT h0<|cdT h1<|cdT h2<|cdT h3 rfl)).symm))<|λh3=>(an a0<|af1 (λz=>AV.v<|.int .u8 z) (show cX r=_ from(cdT h0<|cdT h1<|cdT h2<|cdF h3 rfl)).symm)))<|λh2=>(an a0<|brP (λ(h3:(r.left)=true)=>(an (ac (bQ (11:Int)) a0)<|an a0<|af1 (λz=>AV.v<|.int .u8 z) (show cX r=_ from(cdT h0<|cdT h1<|cdF h2<|cdT h3 rfl)).symm))<|λh3=>(an a0<|af1 (λz=>AV.v<|.int .u8 z) (show cX r=_ from(cdT h0<|cdT h1<|cdF h2<|cdF h3 rfl)).symm))))<|λh1=>(an a0<|brP (λ(h2:(r.lazy)=true)=>(an (ac (bQ (5:Int)) a0)<|an a0<|brP (λ(h3:(r.left)=true)=>(an (ac (bQ (13:Int)) a0)<|an a0<|af1 (λz=>AV.v<|.int .u8 z) (show cX r=_ from(cdT h0<|cdF h1<|cdT h2<|cdT h3 rfl)).symm))<|λh3=>(an a0<|af1 (λz=>AV.v<|.int .u8 z) (show cX r=_ from(cdT h0<|cdF h1<|cdT h2<|cdF h3 rfl)).symm)))<|λh2=>(an a0<|brP (λ(h3:(r.left)=true)=>(an (ac (bQ (9:Int)) a0)<|an a0<|af1 (λz=>AV.v<|.int .u8 z) (show cX r=_ from(cdT h0<|cdF h1<|cdF h2<|cdT h3 rfl)).symm))<|λh3=>(an a0<|af1 (λz=>AV.v<|.int .u8 z) (show cX r=_ from(cdT h0<|cdF h1<|cdF h2<|cdF h3 rfl)).symm)))))<|λh0=>(an a0<|brP (λ(h1:(r.eF)=true)=>(an (ac (bQ (2:Int)) a0)<|an a0<|brP (λ(h2:(r.lazy)=true)=>(an (ac (bQ (6:Int)) a0)<|an a0<|brP (λ(h3:(r.left)=true)=>(an (ac (bQ (14:Int)) a0)<|an a0<|af1 (λz=>AV.v<|.int .u8 z) (show cX r=_ from(cdF h0<|cdT h1<|cdT h2<|cdT h3 rfl)).symm))<|λh3=>(an a0<|af1 (λz=>AV.v<|.int .u8 z) (show cX r=_ from(cdF h0<|cdT h1<|cdT h2<|cdF h3 rfl)).symm)))<|λh2=>(an a0<|brP (λ(h3:(r.left)=true)=>(an (ac (bQ (10:Int)) a0)<|an a0<|af1 (λz=>AV.v<|.int .u8 z) (show cX r=_ from(cdF h0<|cdT h1<|cdF h2<|cdT h3 rfl)).symm))<|λh3=>(an a0<|af1 (λz=>AV.v<|.int .u8 z) (show cX r=_ from(cdF h0<|cdT h1<|cdF h2<|cdF h3 rfl)).symm))))<|λh1=>(an a0<|brP (λ(h2:(r.lazy)=true)=>(an (ac (bQ (4:Int)) a0)<|an a0<|brP (λ(h3:(r.left)=true)=>(an (ac (bQ (12:Int)) a0)<|an a0<|af1 (λz=>AV.v<|.int .u8 z) (show cX r=_ from(cdF h0<|cdF h1<|cdT h2<|cdT h3 rfl)).symm))<|λh3=>(an a0<|af1 (λz=>AV.v<|.int .u8 z) (show cX r=_ from(cdF h0<|cdF h1<|cdT h2<|cdF h3 rfl)).symm)))<|λh2=>(an a0<|brP (λ(h3:(r.left)=true)=>(an (ac (bQ (8:Int)) a0)<|an a0<|af1 (λz=>AV.v<|.int .u8 z) (show cX r=_ from(cdF h0<|cdF h1<|cdF h2<|cdT h3 rfl)).symm))<|λh3=>(an a0<|af1 (λz=>AV.v<|.int .u8 z) (show cX r=_ from(cdF h0<|cdF h1<|cdF h2<|cdF h3 rfl)).symm)))))
def acR(r:bI):cj:=⟨29,[.ag (aC r)],.v (.int .u8<|cX r),True⟩
def acS(r:bI):(acR r).bS pg:=da λhp=>abE r
def i11y(n:Net):cj:=⟨25,[jD n],I (r11 n),ck n⟩
def g11y(n:Net):(i11y n).bS pg:=da λhp=>abe n hp
noncomputable def cp(r:bI):lXA:=az r.name++ [cX r]++ai r.mode++ai r.type++ai r.start++ai r.stop
noncomputable def bR(s:State):lXA:=ai s.aH++ay cc s.ah
noncomputable def eT(n:Net):lXA:=[80,76,68,49]++ay az n.types++ay az n.aJ++ay az n.bu
noncomputable def dt(n:Net):lXA:=eT n++ay cp n.rules++ay bR n.aa
structure ET(n:Net):Prop where
 fit:ck n
 types:n.types.length<=9223372036854775807
 aJ:n.aJ.length<=9223372036854775807
 bu:n.bu.length<=9223372036854775807
 xK: ∀s∈n.aa,∀e∈s.ah,e.set.length<=9223372036854775807/\e.bL.length<=9223372036854775807/\dV e.g
 all:(dt n).length<=140737488355200
def K0(bs:lXA)(e:Edge)(lq:e.set.length<=9223372036854775807)(la:e.bL.length<=9223372036854775807)(hg:dV e.g)(hL:(bs++cc e).length<=140737488355200):u6 30 [.ag (aQ e)] bs (bs++cc e):=by
 have h:=aeR bs e lq la hg hL;have q:Cy bs e=((bs++cc e).length,bs++cc e):=by unfold Cy;rw[aeP]
 rw[q]at h;exact h
def OV(n:Net):bH:=gT 26 [.sl 1 (map a9 n.types)] [.row 5 1 (map u8C<|[80,76,68,49])] 0 4 1 (([80,76,68,49])++(ay az n.types)) (4=length ([80,76,68,49])/\(([80,76,68,49])++(ay az n.types)).length<=140737488355328/\(length n.types<=9223372036854775807))
def OW(n:Net):bH:=gT 26 [.sl 1 (map a9 n.aJ)] [.dead,.row 5 1 (map u8C<|([80,76,68,49])++(ay az n.types))] 1 (length<|([80,76,68,49])++(ay az n.types)) 2 ((([80,76,68,49])++(ay az n.types))++(ay az n.aJ)) ((length<|([80,76,68,49])++(ay az n.types))=length (([80,76,68,49])++(ay az n.types))/\((([80,76,68,49])++(ay az n.types))++(ay az n.aJ)).length<=140737488355328/\(length n.aJ<=9223372036854775807))
def OX(n:Net):bH:=gT 26 [.sl 1 (map a9 n.bu)] [.dead,.dead,.row 5 1 (map u8C<|(([80,76,68,49])++(ay az n.types))++(ay az n.aJ))] 2 (length<|(([80,76,68,49])++(ay az n.types))++(ay az n.aJ)) 3 (((([80,76,68,49])++(ay az n.types))++(ay az n.aJ))++(ay az n.bu)) ((length<|(([80,76,68,49])++(ay az n.types))++(ay az n.aJ))=length ((([80,76,68,49])++(ay az n.types))++(ay az n.aJ))/\(((([80,76,68,49])++(ay az n.types))++(ay az n.aJ))++(ay az n.bu)).length<=140737488355328/\(length n.bu<=9223372036854775807))
def OY(n:Net):bH:=gT 27 [I (length (map aC n.rules):Int)] [.dead,.dead,.dead,.row 5 1 (map u8C<|((([80,76,68,49])++(ay az n.types))++(ay az n.aJ))++(ay az n.bu))] 3 (length<|((([80,76,68,49])++(ay az n.types))++(ay az n.aJ))++(ay az n.bu)) 4 ((((([80,76,68,49])++(ay az n.types))++(ay az n.aJ))++(ay az n.bu))++(ai (length (map aC n.rules):Int))) ((length<|((([80,76,68,49])++(ay az n.types))++(ay az n.aJ))++(ay az n.bu))=length (((([80,76,68,49])++(ay az n.types))++(ay az n.aJ))++(ay az n.bu))/\((((([80,76,68,49])++(ay az n.types))++(ay az n.aJ))++(ay az n.bu))++(ai (length (map aC n.rules):Int))).length<=140737488355328/\True)
def OZ:Code:=bD 0 (aG 9)
section
variable(n:Net)
def yS(i0:Nat)(y0:lXA):lXA:=(((((y0++(az (ae n.rules i0).name))++ [cX (ae n.rules i0)])++(ai (ae n.rules i0).mode))++(ai (ae n.rules i0).type))++(ai (ae n.rules i0).start))++(ai (ae n.rules i0).stop)
def bp(kk:Nat):lXA:=Nat.rec (motive:=λ_=>lXA) ((((([80,76,68,49])++(ay az n.types))++(ay az n.aJ))++(ay az n.bu))++(ai (length (map aC n.rules):Int))) (λj a=>yS n j a) kk
theorem Y9(i:Nat)(hi:i<=n.rules.length):bp n i=eT n++ai (length (map aC n.rules):Int)++(n.rules.take i).flatMap cp:=by
 induction i with
 |zero=>show eT n++ai (length (map aC n.rules):Int)=_;simp
 |succ i ih=>show yS n i (bp n i)=_;rw[ih oaa,c8 cp n.rules oaa];simp[yS,cp]
section
variable(i0:Nat)
def O5:bH:=gT 28 [S (ae n.rules i0).name] [.dead,.dead,.dead,.dead,.row 5 1 (map u8C<|bp n i0),.box 56 (aC<|ae n.rules i0)] 4 (length<|bp n i0) 6 ((bp n i0)++(az (ae n.rules i0).name)) ((length<|bp n i0)=length (bp n i0)/\((bp n i0)++(az (ae n.rules i0).name)).length<=140737488355328/\True)
def Hv:bH:=gT 27 [I (ae n.rules i0).mode] [.dead,.dead,.dead,.dead,.dead,.box 56 (aC<|ae n.rules i0),.dead,.row 5 1 (map u8C<|((bp n i0)++(az (ae n.rules i0).name))++ [cX (ae n.rules i0)])] 7 (length ((bp n i0)++(az (ae n.rules i0).name))+1) 8 ((((bp n i0)++(az (ae n.rules i0).name))++ [cX (ae n.rules i0)])++(ai (ae n.rules i0).mode)) ((length ((bp n i0)++(az (ae n.rules i0).name))+1)=length (((bp n i0)++(az (ae n.rules i0).name))++ [cX (ae n.rules i0)])/\((((bp n i0)++(az (ae n.rules i0).name))++ [cX (ae n.rules i0)])++(ai (ae n.rules i0).mode)).length<=140737488355328/\True)
def Hw:bH:=gT 27 [I (ae n.rules i0).type] [.dead,.dead,.dead,.dead,.dead,.box 56 (aC<|ae n.rules i0),.dead,.dead,.row 5 1 (map u8C<|(((bp n i0)++(az (ae n.rules i0).name))++ [cX (ae n.rules i0)])++(ai (ae n.rules i0).mode))] 8 (length<|(((bp n i0)++(az (ae n.rules i0).name))++ [cX (ae n.rules i0)])++(ai (ae n.rules i0).mode)) 9 (((((bp n i0)++(az (ae n.rules i0).name))++ [cX (ae n.rules i0)])++(ai (ae n.rules i0).mode))++(ai (ae n.rules i0).type)) ((length<|(((bp n i0)++(az (ae n.rules i0).name))++ [cX (ae n.rules i0)])++(ai (ae n.rules i0).mode))=length ((((bp n i0)++(az (ae n.rules i0).name))++ [cX (ae n.rules i0)])++(ai (ae n.rules i0).mode))/\(((((bp n i0)++(az (ae n.rules i0).name))++ [cX (ae n.rules i0)])++(ai (ae n.rules i0).mode))++(ai (ae n.rules i0).type)).length<=140737488355328/\True)
def Hx:bH:=gT 27 [I (ae n.rules i0).start] [.dead,.dead,.dead,.dead,.dead,.box 56 (aC<|ae n.rules i0),.dead,.dead,.dead,.row 5 1 (map u8C<|((((bp n i0)++(az (ae n.rules i0).name))++ [cX (ae n.rules i0)])++(ai (ae n.rules i0).mode))++(ai (ae n.rules i0).type))] 9 (length<|((((bp n i0)++(az (ae n.rules i0).name))++ [cX (ae n.rules i0)])++(ai (ae n.rules i0).mode))++(ai (ae n.rules i0).type)) 10 ((((((bp n i0)++(az (ae n.rules i0).name))++ [cX (ae n.rules i0)])++(ai (ae n.rules i0).mode))++(ai (ae n.rules i0).type))++(ai (ae n.rules i0).start)) ((length<|((((bp n i0)++(az (ae n.rules i0).name))++ [cX (ae n.rules i0)])++(ai (ae n.rules i0).mode))++(ai (ae n.rules i0).type))=length (((((bp n i0)++(az (ae n.rules i0).name))++ [cX (ae n.rules i0)])++(ai (ae n.rules i0).mode))++(ai (ae n.rules i0).type))/\((((((bp n i0)++(az (ae n.rules i0).name))++ [cX (ae n.rules i0)])++(ai (ae n.rules i0).mode))++(ai (ae n.rules i0).type))++(ai (ae n.rules i0).start)).length<=140737488355328/\True)
def Hy:bH:=gT 27 [I (ae n.rules i0).stop] [.dead,.dead,.dead,.dead,.dead,.box 56 (aC<|ae n.rules i0),.dead,.dead,.dead,.dead,.row 5 1 (map u8C<|(((((bp n i0)++(az (ae n.rules i0).name))++ [cX (ae n.rules i0)])++(ai (ae n.rules i0).mode))++(ai (ae n.rules i0).type))++(ai (ae n.rules i0).start))] 10 (length<|(((((bp n i0)++(az (ae n.rules i0).name))++ [cX (ae n.rules i0)])++(ai (ae n.rules i0).mode))++(ai (ae n.rules i0).type))++(ai (ae n.rules i0).start)) 11 (((((((bp n i0)++(az (ae n.rules i0).name))++ [cX (ae n.rules i0)])++(ai (ae n.rules i0).mode))++(ai (ae n.rules i0).type))++(ai (ae n.rules i0).start))++(ai (ae n.rules i0).stop)) ((length<|(((((bp n i0)++(az (ae n.rules i0).name))++ [cX (ae n.rules i0)])++(ai (ae n.rules i0).mode))++(ai (ae n.rules i0).type))++(ai (ae n.rules i0).start))=length ((((((bp n i0)++(az (ae n.rules i0).name))++ [cX (ae n.rules i0)])++(ai (ae n.rules i0).mode))++(ai (ae n.rules i0).type))++(ai (ae n.rules i0).start))/\(((((((bp n i0)++(az (ae n.rules i0).name))++ [cX (ae n.rules i0)])++(ai (ae n.rules i0).mode))++(ai (ae n.rules i0).type))++(ai (ae n.rules i0).start))++(ai (ae n.rules i0).stop)).length<=140737488355328/\True)
abbrev yT(y0:lXA):Am.Loc:=[(1,.pf (bA n)),(4,.sr 4 1 0 (length y0)),(5,I (i0:Int))]
end
end
abbrev yU(n:Net)(i0:Nat)(y0:lXA):lXE:=[.dead,.dead,.dead,.dead,.row 5 1 (map u8C y0)]
section
variable(n:Net)
abbrev O6(i0:Nat):Am.Loc:=yT n i0 (bp n i0)
abbrev O7(i0:Nat):lXE:=yU n i0 (bp n i0)
abbrev Hz:Am.Loc:=[(1,.pf (bA n)),(4,.sr 4 1 0 (length<|bp n<|length n.rules))]
abbrev HA:lXE:=[.dead,.dead,.dead,.dead,.row 5 1 (map u8C<|bp n<|length n.rules)]
def sq:KB:=noK 0 (O6 n) (O7 n) (.exit 0) (Hz n) (HA n) (True)
abbrev O8(i0:Nat):List bf:=[nxW (false) (O6 n<|i0+1) (O7 n<|i0+1) (yT n (i0+1)<|((((((bp n i0)++(az (zBu i0 n).name))++ [cX (zBu i0 n)])++(ai (zBu i0 n).mode))++(ai (zBu i0 n).type))++(ai (zBu i0 n).start))++(ai (zBu i0 n).stop)) [0,1,2,3,11] (yU n (i0+1)<|((((((bp n i0)++(az (zBu i0 n).name))++ [cX (zBu i0 n)])++(ai (zBu i0 n).mode))++(ai (zBu i0 n).type))++(ai (zBu i0 n).start))++(ai (zBu i0 n).stop))]
abbrev zCd:=((r11 n) !=0)
theorem K1(hB:ET n)(hA:(zCd n)=false):cx pg 102 0 0 (.loop OZ) (sq n):=
 noB (O8 n) (λi0=>(.r [.k,bT]<|.yes<|.r (zBm i0 n)<|.r [.bG 0 [],.int 0,bT]<|.r [.bG 1 [],.bG 2 [],.bG 3 [],.bG 4 [],bT]<|zU i0)) (range 5) zE (length n.rules)
 (λ_ i0(hx0:i0<(length n.rules))=>have hf:=hB.fit;have hr:=hf.rules;have hs:=hf.aa;have lmr:=aL aC n.rules;have lms:=aL aq n.aa;have hall:(eT n).length+(ai (length (map aC n.rules):Int)).length+(n.rules.flatMap cp).length+(ai (length (map aq n.aa):Int)).length+(n.aa.flatMap bR).length<=140737488355200:=oal;have hhd:(eT n).length=4+(ay az n.types).length+(ay az n.aJ).length+(ay az n.bu).length:=oam;have ha:=Y9 n i0 (agx hx0);have hfl:=fL cp n.rules hx0;have hfe:(cp<|ae n.rules i0).length=(az (ae n.rules i0).name).length+1+(ai (ae n.rules i0).mode).length+(ai (ae n.rules i0).type).length+(ai (ae n.rules i0).start).length+(ai (ae n.rules i0).stop).length:=(by simp only[cp,afQ,agb,agt]);have ha2:length (bp n i0)=(eT n).length+(ai (length (map aC n.rules):Int)).length+(List.flatMap cp<|List.take i0 n.rules).length:=oak;have l1:=aL aC (n.rules);have hb:(zAK i0 n)=true:=afT oaa;
 bB (an (a1 a0)<|an hb<|an (ac (rwa aC n.rules i0) a0)<|an (ac (apo (length<|(bp n i0)++(az (ae n.rules i0).name)) 1 (rl u8C<|(bp n i0)++(az (ae n.rules i0).name)) (h2:=oai) (h3:=oai))<|cA (acS<|ae n.rules i0) trivial<|ac (qWd<|O5 n i0) a0)<|an (ac (qWd<|Hy n i0)<|ac (qWd<|Hx n i0)<|ac (qWd<|Hw n i0)<|ac (qW (c:=Hv n i0) ⟨oaC,oai,trivial⟩<|aW (rfl:(.dead:Ob)= .dead)<|aW (rfl:(.dead:Ob)= .dead)<|aW (rfl:(.dead:Ob)= .dead)<|aW (rfl:(.dead:Ob)= .dead)<|aW (rfl:(.dead:Ob)= .dead)<|aW (rfl:(.box 56 (aC<|ae n.rules i0):Ob)= .box 56 (aC<|ae n.rules i0))<|aW (rfl:(.dead:Ob)= .dead)<|aW (af1 (λz=>Ob.row 5 1 z)<|apF (f:=u8C) (rl u8C<|(bp n i0)++(az (ae n.rules i0).name)) (k:=length<|(bp n i0)++(az (ae n.rules i0).name)) oad<|cX<|ae n.rules i0) ee) a0)<|an (ac (dwo ((i0+1:Nat):Int)) a0)<|lf (wy (O8 n i0) 0) 12<|nxP (yT n<|i0+1) (yU n<|i0+1) rfl<|show bp n (i0+1)=(((((((bp n i0)++(az (ae n.rules i0).name))++ [cX (ae n.rules i0)])++(ai (ae n.rules i0).mode))++(ai (ae n.rules i0).type))++(ai (ae n.rules i0).start))++(ai (ae n.rules i0).stop))from rfl)
 oab)
 (λ_=>have hf:=hB.fit;have hr:=hf.rules;have hs:=hf.aa;have lmr:=aL aC n.rules;have lms:=aL aq n.aa;have hall:(eT n).length+(ai (length (map aC n.rules):Int)).length+(n.rules.flatMap cp).length+(ai (length (map aq n.aa):Int)).length+(n.aa.flatMap bR).length<=140737488355200:=oal;have hhd:(eT n).length=4+(ay az n.types).length+(ay az n.aJ).length+(ay az n.bu).length:=oam;have l1:=aL aC (n.rules);have hb:(zP n)=false:=afU oaa;
 bB (an (a1 a0)<|an hb<|lx (.exit 0) (Hz n) (range 5) (HA n) 5)
 oab) (callf:=λi0=>(cz [O5 n i0,Hv n i0,Hw n i0,Hx n i0,Hy n i0]<|nO [acR (ae n.rules i0)] base)) (hc:=λ_ i0 hx0=>(bC (.cons (eS λc=>⟨c.1,yB (bp n i0) (ae n.rules i0).name c.2.1⟩)<|.cons (eS λc=>⟨c.1,cS (((bp n i0)++(az (ae n.rules i0).name))++ [cX (ae n.rules i0)]) (ae n.rules i0).mode c.2.1⟩)<|.cons (eS λc=>⟨c.1,cS ((((bp n i0)++(az (ae n.rules i0).name))++ [cX (ae n.rules i0)])++(ai (ae n.rules i0).mode)) (ae n.rules i0).type c.2.1⟩)<|.cons (eS λc=>⟨c.1,cS (((((bp n i0)++(az (ae n.rules i0).name))++ [cX (ae n.rules i0)])++(ai (ae n.rules i0).mode))++(ai (ae n.rules i0).type)) (ae n.rules i0).start c.2.1⟩)<|.cons (eS λc=>⟨c.1,cS ((((((bp n i0)++(az (ae n.rules i0).name))++ [cX (ae n.rules i0)])++(ai (ae n.rules i0).mode))++(ai (ae n.rules i0).type))++(ai (ae n.rules i0).start)) (ae n.rules i0).stop c.2.1⟩) dg.nil)<|bn (.cons (acS<|ae n.rules i0) rfl cy.nil) aE))
def HB:bH:=gT 27 [I (length (map aq n.aa):Int)] [.dead,.dead,.dead,.dead,.row 5 1 (map u8C<|bp n<|length n.rules)] 4 (length<|bp n<|length n.rules) 5 ((bp n<|length n.rules)++(ai (length (map aq n.aa):Int))) ((length<|bp n<|length n.rules)=length (bp n<|length n.rules)/\((bp n<|length n.rules)++(ai (length (map aq n.aa):Int))).length<=140737488355328/\True)
end
def vB:Code:=bD 2 (aG 9)
def O9:Code:=bD 4 vB
section
variable(n:Net)
def yV(i2:Nat)(y2:lXA)(i4:Nat)(y4:lXA):lXA:=y4++(cc<|ae (ae n.aa i2).ah i4)
def dv(i2:Nat)(y2:lXA)(kk:Nat):lXA:=Nat.rec (motive:=λ_=>lXA) ((y2++(ai (ae n.aa i2).aH))++(ai (length (map aQ (ae n.aa i2).ah):Int))) (λj a=>yV n i2 y2 j a) kk
theorem acT(i2:Nat)(y2:lXA)(i:Nat)(hi:i<=(ae n.aa i2).ah.length):dv n i2 y2 i=y2++ai (ae n.aa i2).aH++ai (length (map aQ (ae n.aa i2).ah):Int)++((ae n.aa i2).ah.take i).flatMap cc:=by
 induction i with
 |zero=>show y2++ai (ae n.aa i2).aH++ai (length (map aQ (ae n.aa i2).ah):Int)=_;simp
 |succ i ih=>show yV n i2 y2 i (dv n i2 y2 i)=_;rw[ih oaa,c8 cc (ae n.aa i2).ah oaa];simp[yV]
def HC(i2 i4:Nat)(y2:lXA):bH:=gT 30 [.ag (aQ<|ae (ae n.aa i2).ah i4)] [.dead,.dead,.dead,.dead,.dead,.dead,.box 45 (aq<|ae n.aa i2),.dead,.row 5 1 (map u8C<|dv n i2 y2 i4)] 8 (length<|dv n i2 y2 i4) 9 ((dv n i2 y2 i4)++(cc<|ae (ae n.aa i2).ah i4)) ((length<|dv n i2 y2 i4)=length (dv n i2 y2 i4)/\((dv n i2 y2 i4)++(cc<|ae (ae n.aa i2).ah i4)).length<=140737488355200/\(length (ae (ae n.aa i2).ah i4).set<=9223372036854775807/\length (ae (ae n.aa i2).ah i4).bL<=9223372036854775807/\dV (ae (ae n.aa i2).ah i4).g))
section
variable(i2:Nat)
abbrev yW(y2:lXA)(i4:Nat)(y4:lXA):Am.Loc:=[(1,.pf (bA n)),(4,.sr 8 1 0 (length y4)),(7,I (i2:Int)),(8,.pt 6 0),(9,I (i4:Int))]
abbrev yX(y2:lXA)(i4:Nat)(y4:lXA):lXE:=[.dead,.dead,.dead,.dead,.dead,.dead,.box 45 (aq<|ae n.aa i2),.dead,.row 5 1 (map u8C y4)]
abbrev Pa(y2:lXA)(i4:Nat):Am.Loc:=yW n i2 y2 i4 (dv n i2 y2 i4)
abbrev Pb(y2:lXA)(i4:Nat):lXE:=yX n i2 y2 i4 (dv n i2 y2 i4)
abbrev HD(y2:lXA):Am.Loc:=[(1,.pf (bA n)),(4,.sr 8 1 0 (length<|dv n i2 y2<|length<|zq i2 n)),(7,I (i2:Int))]
abbrev HE(y2:lXA):lXE:=[.dead,.dead,.dead,.dead,.dead,.dead,.box 45 (aq<|ae n.aa i2),.dead,.row 5 1 (map u8C<|dv n i2 y2<|length<|zq i2 n)]
def yY(y2:lXA):KB:=noK 4 (Pa n i2 y2) (Pb n i2 y2) (.exit 4) (HD n i2 y2) (HE n i2 y2) (True)
abbrev Pc(y2:lXA)(i4:Nat):List bf:=[nxW (false) (Pa n i2 y2<|i4+1) (Pb n i2 y2<|i4+1) (yW n i2 y2 (i4+1)<|(dv n i2 y2 i4)++(cc<|ae (zq i2 n) i4)) [0,1,2,3,4,5,6,7,9] (yX n i2 y2 (i4+1)<|(dv n i2 y2 i4)++(cc<|ae (zq i2 n) i4))]
theorem K3(y2:lXA)(hB:ET n)(hA:(zCd n)=false)(hx2:i2<(length n.aa))(hy2:length y2+(bR<|ae n.aa i2).length<=140737488355200):cx pg 102 0 4 (.loop O9) (yY n i2 y2):=
 noB (Pc n i2 y2) (λi4=>(.r [.k,bT]<|.yes<|.r [.row (aQ<|ae (ae n.aa i2).ah i4),.bG 0 [],bT]<|.r (zj i4)<|.pick 0)) (range 9) zE (length (ae n.aa i2).ah)
 (λ_ i4(hx4:i4<(length (ae n.aa i2).ah))=>have hf:=hB.fit;have hr:=hf.rules;have hs:=hf.aa;have lmr:=aL aC n.rules;have lms:=aL aq n.aa;have hall:(eT n).length+(ai (length (map aC n.rules):Int)).length+(n.rules.flatMap cp).length+(ai (length (map aq n.aa):Int)).length+(n.aa.flatMap bR).length<=140737488355200:=oal;have hhd:(eT n).length=4+(ay az n.types).length+(ay az n.aJ).length+(ay az n.bu).length:=oam;have hed:=hf.ah _ (aw hx2);have hse:(bR<|ae n.aa i2).length=(ai (ae n.aa i2).aH).length+(ai (length (map aQ (ae n.aa i2).ah):Int)).length+(List.flatMap cc (ae n.aa i2).ah).length:=(by simp[bR,ay,agO]);have ha:=acT n i2 y2 i4 (agx hx4);have hfl:=fL cc (ae n.aa i2).ah hx4;have ha2:length (dv n i2 y2 i4)=y2.length+(ai (ae n.aa i2).aH).length+(ai (length (map aQ (ae n.aa i2).ah):Int)).length+(List.flatMap cc<|List.take i4 (ae n.aa i2).ah).length:=oak;have l1:=aL aQ ((ae n.aa i2).ah);have hb:(decide<|(i4:Int)<(length (map aQ (ae n.aa i2).ah):Int))=true:=afT oaa;
 bB (an (a1 a0)<|an hb<|an (ac (qW (c:=HC n i2 i4 y2) ⟨rfl,oai,hB.xK _ (aw hx2) _ (aw hx4)⟩ rfl)<|ac (rwa aQ (ae n.aa i2).ah i4) a0)<|an (ac (dwo ((i4+1:Nat):Int)) a0)<|lf (wy (Pc n i2 y2 i4) 0) 10<|nxP (yW n i2 y2<|i4+1) (yX n i2 y2<|i4+1) rfl<|show dv n i2 y2 (i4+1)=((dv n i2 y2 i4)++(cc<|ae (ae n.aa i2).ah i4))from rfl)
 oab)
 (λ_=>have hf:=hB.fit;have hr:=hf.rules;have hs:=hf.aa;have lmr:=aL aC n.rules;have lms:=aL aq n.aa;have hall:(eT n).length+(ai (length (map aC n.rules):Int)).length+(n.rules.flatMap cp).length+(ai (length (map aq n.aa):Int)).length+(n.aa.flatMap bR).length<=140737488355200:=oal;have hhd:(eT n).length=4+(ay az n.types).length+(ay az n.aJ).length+(ay az n.bu).length:=oam;have hed:=hf.ah _ (aw hx2);have l1:=aL aQ ((ae n.aa i2).ah);have hb:(zBs i2 n)=false:=afU oaa;
 bB (an (a1 a0)<|an hb<|lx (.exit 4) (HD n i2 y2) (range 9) (HE n i2 y2) 9)
 oab) (callf:=λi4=>(cz [HC n i2 i4 y2] base)) (hc:=λ_ i4 hx4=>(bC (.cons (eS λc=>⟨c.1,K0 (dv n i2 y2 i4) (ae (ae n.aa i2).ah i4) c.2.2.1 c.2.2.2.1 c.2.2.2.2 c.2.1⟩) dg.nil) aE))
def yZ(y2:lXA):lXA:=(dv n i2 y2<|length (ae n.aa i2).ah)
end
def cq(kk:Nat):lXA:=Nat.rec (motive:=λ_=>lXA) ((bp n<|length n.rules)++(ai (length (map aq n.aa):Int))) (λj a=>yZ n j a) kk
theorem acU(i:Nat)(hi:i<=n.aa.length):cq n i=eT n++ay cp n.rules++ai (length (map aq n.aa):Int)++(n.aa.take i).flatMap bR:=by
 induction i with
 |zero=>show bp n n.rules.length++ai (length (map aq n.aa):Int)=_;rw[Y9 n _ (afP _),agj];simp[ay]
 |succ i ih=>show yZ n i (cq n i)=_;rw[ih oaa,c8 bR n.aa oaa];simp only[yZ];rw[acT n i _ _ (afP _),agj];simp[bR,ay]
end
def Za{n:Net}(hB:ET n)(i:Nat)(hi:i<n.aa.length):(cq n i).length+(bR<|ae n.aa i).length<=140737488355200:=by have h1:=fL bR n.aa hi;have h2:=hB.all;rw[acU n i oaa];simp only[dt,ay,afQ,afW]at h2⊢;omega
section
variable(n:Net)(i2:Nat)
def HF:bH:=gT 27 [I (ae n.aa i2).aH] [.dead,.dead,.dead,.dead,.dead,.row 5 1 (map u8C<|cq n i2),.box 45 (aq<|ae n.aa i2)] 5 (length<|cq n i2) 7 ((cq n i2)++(ai (ae n.aa i2).aH)) ((length<|cq n i2)=length (cq n i2)/\((cq n i2)++(ai (ae n.aa i2).aH)).length<=140737488355328/\True)
def HG:bH:=gT 27 [I (length (map aQ (ae n.aa i2).ah):Int)] [.dead,.dead,.dead,.dead,.dead,.dead,.box 45 (aq<|ae n.aa i2),.row 5 1 (map u8C<|(cq n i2)++(ai (ae n.aa i2).aH))] 7 (length<|(cq n i2)++(ai (ae n.aa i2).aH)) 8 (((cq n i2)++(ai (ae n.aa i2).aH))++(ai (length (map aQ (ae n.aa i2).ah):Int))) ((length<|(cq n i2)++(ai (ae n.aa i2).aH))=length ((cq n i2)++(ai (ae n.aa i2).aH))/\(((cq n i2)++(ai (ae n.aa i2).aH))++(ai (length (map aQ (ae n.aa i2).ah):Int))).length<=140737488355328/\True)
abbrev y9(y2:lXA):Am.Loc:=[(1,.pf (bA n)),(4,.sr 5 1 0 (length y2)),(7,I (i2:Int))]
end
abbrev z0(n:Net)(i2:Nat)(y2:lXA):lXE:=[.dead,.dead,.dead,.dead,.dead,.row 5 1 (map u8C y2)]
section
variable(n:Net)
abbrev Pd(i2:Nat):Am.Loc:=y9 n i2 (cq n i2)
abbrev Pe(i2:Nat):lXE:=z0 n i2 (cq n i2)
abbrev HH:Am.Loc:=[(4,.sr 5 1 0 (length<|cq n<|length n.aa))]
abbrev HI:lXE:=[.dead,.dead,.dead,.dead,.dead,.row 5 1 (map u8C<|cq n<|length n.aa)]
def ss:KB:=noK 2 (Pd n) (Pe n) (.exit 2) (HH n) (HI n) (True)
abbrev Pf(i2:Nat):List bf:=[nxW (false) (Pd n<|i2+1) (Pe n<|i2+1) (y9 n (i2+1)<|dv n i2 (cq n i2)<|length<|zq i2 n) [0,1,2,3,4,8] (z0 n (i2+1)<|dv n i2 (cq n i2)<|length<|zq i2 n)]
end
def tH:di [4] vB=[(4,.loop O9)]:=by kernel_rfl
def K4(n:Net)(hB:ET n)(hA:(zCd n)=false):cx pg 102 0 2 (.loop vB) (ss n):=
 noB (Pf n) (λi2=>(.r [.k,bT]<|.yes<|.r [.row (aq<|ae n.aa i2),bT]<|.r [.bG 0 [],.bG 1 [],bT]<|.r [bT]<|.no<|.r (zi i2)<|.pick 0)) (range 6) zE (length n.aa)
 (λ_ i2(hx2:i2<(length n.aa))=>have hf:=hB.fit;have hr:=hf.rules;have hs:=hf.aa;have lmr:=aL aC n.rules;have lms:=aL aq n.aa;have hall:(eT n).length+(ai (length (map aC n.rules):Int)).length+(n.rules.flatMap cp).length+(ai (length (map aq n.aa):Int)).length+(n.aa.flatMap bR).length<=140737488355200:=oal;have hhd:(eT n).length=4+(ay az n.types).length+(ay az n.aJ).length+(ay az n.bu).length:=oam;have hl2:=Za hB i2 hx2;have hed:=hf.ah _ (aw hx2);have hse:(bR<|ae n.aa i2).length=(ai (ae n.aa i2).aH).length+(ai (length (map aQ (ae n.aa i2).ah):Int)).length+(List.flatMap cc (ae n.aa i2).ah).length:=(by simp[bR,ay,agO]);have l1:=aL aq (n.aa);have hb:(decide<|(i2:Int)<(length (map aq n.aa):Int))=true:=afT oaa;
 bB (an (a1 a0)<|an hb<|an (ac (rwa aq n.aa i2) a0)<|an (ac (qWd<|HG n i2)<|ac (qWd<|HF n i2) a0)<|an a0<|an (kbT (yY n i2<|cq n i2) trivial)<|an (rfl:false=false)<|an (ac (dwo ((i2+1:Nat):Int)) a0)<|lf (wy (Pf n i2) 0) 9<|nxP (y9 n<|i2+1) (z0 n<|i2+1) rfl<|show cq n (i2+1)=(dv n i2 (cq n i2)<|length (ae n.aa i2).ah)from rfl)
 oab)
 (λ_=>have hf:=hB.fit;have hr:=hf.rules;have hs:=hf.aa;have lmr:=aL aC n.rules;have lms:=aL aq n.aa;have hall:(eT n).length+(ai (length (map aC n.rules):Int)).length+(n.rules.flatMap cp).length+(ai (length (map aq n.aa):Int)).length+(n.aa.flatMap bR).length<=140737488355200:=oal;have hhd:(eT n).length=4+(ay az n.types).length+(ay az n.aJ).length+(ay az n.bu).length:=oam;have l1:=aL aq (n.aa);have hb:(zQ n)=false:=afU oaa;
 bB (an (a1 a0)<|an hb<|lx (.exit 2) (HH n) (range 6) (HI n) 6)
 oab) (callf:=λi2=>(cz [HF n i2,HG n i2] base)) (hc:=λ_ i2 hx2=>(bC (.cons (eS λc=>⟨c.1,cS (cq n i2) (ae n.aa i2).aH c.2.1⟩)<|.cons (eS λc=>⟨c.1,cS ((cq n i2)++(ai (ae n.aa i2).aH)) (length (map aQ (ae n.aa i2).ah):Int) c.2.1⟩) dg.nil) aE)) (hk:=λ_ i2 hx2=>(bw (l:=[(4,yY n i2 (cq n i2))]) tH (aK (K3 n i2 (cq n i2) hB hA hx2<|Za hB i2 hx2) rfl aU) rfl))
def Cz(n:Net):Nat×lXA:=(length (cq n<|length n.aa),(cq n<|length n.aa))
def K5(y:Nat×lXA):Am.Loc:=[(2,.sr 0 1 0 y.1),(3,I 0)]
def z4(n:Net)(y:Nat×lXA):lXE:=[.row 5 1 (map u8C y.2)]
def Zb(n:Net):List ((Nat×lXA)×AX×lXC):=[((length (cq n<|length n.aa),(cq n<|length n.aa)),.ret,[5])]
def aeS(n:Net):List bf:=((Zb n).map λw=>(⟨Cz n=w.1,w.2.1,K5 w.1,w.2.2,z4 n w.1⟩:bf))
def o5:di [0,2] (aG 9)=[(0,.loop OZ),(2,.loop vB)]:=by kernel_rfl
def aeT(n:Net)(hB:ET n)(hA:(zCd n)=false):aY pg 9 [.ag (bA n)] [] [] (.tu [.sr 0 1 0 (Cz n).1,I 0]) (z4 n<|Cz n):=have hf:=hB.fit;have hr:=hf.rules;have hs:=hf.aa;have lmr:=aL aC n.rules;have lms:=aL aq n.aa;have hall:(eT n).length+(ai (length (map aC n.rules):Int)).length+(n.rules.flatMap cp).length+(ai (length (map aq n.aa):Int)).length+(n.aa.flatMap bR).length<=140737488355200:=oal;have hhd:(eT n).length=4+(ay az n.types).length+(ay az n.aJ).length+(ay az n.bu).length:=oam;have hz0:(bp n n.rules.length).length=(eT n).length+(ai (length (map aC n.rules):Int)).length+(n.rules.flatMap cp).length:=(by rw[Y9 n _ (afP _),agj];simp only[afQ]);cZ (ob0:=[]) (fn:=Tryz.f9) (callf:=(cz [OV n,OW n,OX n,OY n,HB n]<|nO [i11y n] base)) (pu:=cU) (lf:=3000) (l:=[(0,sq n),(2,ss n)]) (t:=(.r [bT]<|.r [.int 0,.k,bT]<|.no<|.r [bT]<|.r [.bG 0 [],.bG 1 [],.bG 2 [],bT]<|.r [.bG 3 [],bT]<|.r [bT]<|.no<|.r [.bG 4 [],bT] zCV)) (bC (.cons (eS λc=>⟨c.1,om ([80,76,68,49]) n.types c.2.2 c.2.1⟩)<|.cons (eS λc=>⟨c.1,om (([80,76,68,49])++(ay az n.types)) n.aJ c.2.2 c.2.1⟩)<|.cons (eS λc=>⟨c.1,om ((([80,76,68,49])++(ay az n.types))++(ay az n.aJ)) n.bu c.2.2 c.2.1⟩)<|.cons (eS λc=>⟨c.1,cS (((([80,76,68,49])++(ay az n.types))++(ay az n.aJ))++(ay az n.bu)) (length (map aC n.rules):Int) c.2.1⟩)<|.cons (eS λc=>⟨c.1,cS (bp n<|length n.rules) (length (map aq n.aa):Int) c.2.1⟩) dg.nil)<|bn (.cons (g11y n) rfl cy.nil) aE) mixed Tryz.func9 oab (show Tryz.f9.body=some (aG 9) by kernel_rfl) (nbl rfl) (bw (l:=[(0,sq n),(2,ss n)]) o5 (aK (K1 n hB hA) rfl<|aK (K4 n hB hA) rfl aU) rfl) rfl K5 (z4 n) (Cz n) (Zb n) (nbl rfl) rfl (by simp[z4,Ob.und,AV.und,bx,bj cn]) (bB (an a0<|an (a1<|cA (g11y n) hf a0)<|an (show(zCd n)=false from hA)<|an a0<|an (ac (qW (c:=OX n) ⟨rfl,oai,hB.bu⟩ rfl)<|ac (qW (c:=OW n) ⟨rfl,oai,hB.aJ⟩ rfl)<|ac (qW (c:=OV n) ⟨rfl,oai,hB.types⟩ rfl) a0)<|an (ac (qWd<|OY n) a0)<|an a0<|an (kbT (sq n) trivial)<|an (rfl:false=false)<|an (ac (qWd<|HB n) a0)<|an a0<|an (kbT (ss n) trivial)<|an (rfl:false=false)<|an a0<|lf (wy (aeS n) 0) 6 rfl) oab) (fa1 (.inr rfl) fa0) (fa1 (bV rfl rfl rfl (by simp[K5,plS,AV.pure])<|by simp[z4,plS,plO,AV.pure,aj,ak]) fa0) rfl
def Zc(n:Net):AV:= .tu [.v (.slice none 0 0),I 110]
abbrev zCz:GT:=(.r [bT]<|.r [.int 0,.k,bT]<|.yes zF)
def abF(n:Net)(hf:ck n)(hA:(zCd n)=true):aY pg 9 [.ag (bA n)] [] [] (Zc n) []:=
 aV 9 zCz
 (an a0<|an (a1<|cA (g11y n) hf a0)<|an (show(zCd n)=true from hA)<|an a0<|vE<|show Zc n=(.tu [.v (.slice none 0 0),I 110])from rfl) (hc:=(bn (.cons (g11y n) rfl cy.nil) aE))
def K6(n:Net)(hB:ET n)(hA:((r11 n) !=0)=false):aY pg 9 [.ag (bA n)] [] [] (.tu [.sl 1 ((dt n).map u8C),I 0]) []:=by
 have h:=aeT n hB hA;have e:Cz n=((dt n).length,dt n):=by unfold Cz;rw[acU n _ (afP _),agj];simp[dt,ay]
 rw[e]at h;exact qR (nK (ob2:=[.dead]) h (o:=0) rfl (.inl ⟨_,_,_,rfl⟩) (Frz.tu<|jv.cons (Frz.sr0 rfl oaj)<|jv.cons (Frz.same _) jv.nil) rfl<|λi Y Y' _ h2=> .inl<|by
  cases i with
  |zero=>simp at h2;exact h2.symm
  |succ i=>simp at h2) (by simp[AV.und,bx,bj cn])
section
variable(f:Nat->Nat)
@[simp] theorem rn_rule(r:bI):bt f (aC r)=aC r:=ca _ _ (mK r)
@[simp] theorem rn_state(r:State):bt f (aq r)=aq r:=ca _ _ (kT r)
@[simp] theorem rn_edge(r:Edge):bt f (aQ r)=aQ r:=ca _ _ (mL r)
@[simp] theorem rn_gCC(r:G):bt f (gCC r)=gCC r:=ca _ _ (F0 r)
@[simp] theorem rn_range(r:Int×Int):bt f (aP r)=aP r:=ca _ _ (kS r)
@[simp] theorem rn_act(r:Int×Int):bt f (cO r)=cO r:=ca _ _ (oI r)
end
def wob(bs:lXA):lXE:=[.box 50 [.sr 1 1 0 bs.length],rB bs]
def wob'(bs:lXA):lXE:=[.box 50 [.sr 2 1 0 bs.length],.dead,rB bs]
def ga(f:FuncId)(args:lXF)(bs bs':lXA):Prop:=aY pg f args (wob bs) [] (.tu []) (wob' bs')
def iWr(f:FuncId)(args:lXF)(O:lXE)(p q N:Nat)(bs':lXA)(c:Prop):bH:=⟨f,args,O,.tu [],(O.set p<|.box 50 [.sr N 1 0 bs'.length]).set q .dead++ [rB bs'],c,Nat.lor (bit p) (Nat.lor (bit q)<|bit N)⟩
def acV{O:lXE}{p q N:Nat}{X Y Z:Ob}(hN:N=O.length){i:Nat}(hi:tb (Nat.lor (bit p)<|Nat.lor (bit q)<|bit N) i=false):((O.set p X).set q Y++ [Z])[i]? =O[i]? :=by
 rw[nk,nk,af4,af4]at hi;have h0:=j5 hi.1;have h1:=j5 hi.2.1;have h2:=j5 hi.2.2;by_cases hl:i<O.length
 ·rw[afZ oaZ,af5 h1,af5 h0]
 ·rw[agh oaA,agh oaa]
section
variable{f:FuncId}{args args0:lXF}{O:lXE}{p q k N:Nat}{bs bs':lXA}{c:Prop}
theorem gW2(hf:Nat.blt f dQ=true)(hp:O[p]? =some (.box 50 [.sr q 1 0 k]))(hq:O[q]? =some (rB bs))(hne:p≠q)(hN:N=O.length)(ha:bt (bM [p,q] N) args0=args)(h:c->k=bs.length/\ga f args0 bs bs'):(iWr f args O p q N bs' c).bS pg:=λhc=>⟨kR hf (by
 obtain⟨hk,hw⟩:=h hc;have hr: ∀g(l:lXA),de g (l.map u8C)=l.map u8C:=λg l=>by have:=cv (T:=5) (S:=1) (f:=g) (Gc l);simpa [Ob.ren]using this
 have k:=oF hw (sel:=[p,q]) (ob:=O) (by simp[hne]) (by
  refine⟨⟨?_,by simp⟩,⟨?_,by simp⟩,trivial⟩
  ·rw[hp,hk];simp[Ob.ren,bt,AV.ren,bM]
  ·rw[hq];simp[Ob.ren,hr]) (by simp[wob'])
 rw[<-hN,ha]at k;subst hN;simpa [iWr,wob',back,gH,eu,bt,AV.ren,bM,Ob.ren,hr]using k),λi hi=>acV hN hi⟩
theorem ft(h:c->k=bs.length/\ga f args0 bs bs')(hf:Nat.blt f dQ=true:=by rfl)(hp:O[p]? =some (.box 50 [.sr q 1 0 k]):=by rfl)(hq:O[q]? =some (rB bs):=by rfl)(hne:p≠q:=by decide)(hN:N=O.length:=by rfl)(ha:bt (bM [p,q] N) args0=args:=by simp[bt,AV.ren,bM,eC,gi,AV.pure,aj,ak]):(iWr f args O p q N bs' c).bS pg:=gW2 hf hp hq hne hN ha h
end
def HJ(bs:lXA)(z:Int):Nat×lXA:=(length bs+length (map u8C<|dx<|wrap .u64 z),bs++(dx<|wrap .u64 z))
def Zd(y:Nat×lXA):Am.Loc:=[]
abbrev zL(y:Nat×lXA):lXE:=[.box 50 [.sr 2 1 0 y.1],.dead,.row 5 1 (map u8C y.2)]
def z5(bs:lXA)(z:Int)(y:Nat×lXA):lXE:=(zL y)
section
variable(bs:lXA)
def Ze(z:Int):List ((Nat×lXA)×AX×lXC):=[((length bs+length (map u8C<|dx<|wrap .u64 z),bs++(dx<|wrap .u64 z)),.normal,[0,1,2])]
def aeU(z:Int):List bf:=((Ze bs z).map λw=>(⟨HJ bs z=w.1,w.2.1,Zd w.1,w.2.2,z5 bs z w.1⟩:bf))
abbrev zC:lXE:=[.box 50 [.sr 1 1 0 (length bs)],.row 5 1 (map u8C bs)]
theorem num51(z:Int)(hL:(bs++ai z).length<=140737488355328):aY pg 51 [.pt 0 0,I z] (zC bs) [] (.tu []) (z5 bs z<|HJ bs z):=have hL2:bs.length+(dx<|wrap .u64 z).length<=140737488355328:=oaP;cZ (ob0:=(zC bs)) (fn:=Tryz.f51) (callf:=(nO [YZ (wrap .u64 z)] base)) (pu:=cU) (lf:=3000) (l:=[]) (t:=(.r [.int 0,bT]<|.pick 0)) (bn (.cons (Hd<|wrap .u64 z) rfl cy.nil) aE) mixed Tryz.func51 oab (show Tryz.f51.body=some (aG 51) by kernel_rfl) (nbl rfl) (bq _) rfl Zd (z5 bs z) (HJ bs z) (Ze bs z) (nbl rfl) rfl (by simp[z5,Ob.und,AV.und,bx,bj cn]) (bB (an (ac (aps (length bs) (dx<|wrap .u64 z) 1<|rl u8C bs)<|cA (Hd<|wrap .u64 z) (um _) a0)<|lfE (wy (aeU bs z) 0) 3 rfl<|aW (rfl:(.box 50 [.sr 2 1 0 (length bs+length (map u8C<|dx<|wrap .u64 z))]:Ob)= .box 50 [.sr 2 1 0 (length bs+length (map u8C<|dx<|wrap .u64 z))])<|aW (rfl:(.dead:Ob)= .dead)<|aW (af1 (λz=>Ob.row 5 1 z)<|EO (f:=u8C) (rl u8C bs) (k:=length bs) oad<|dx<|wrap .u64 z) ee) oab) (fa1 (.inl rfl) fa0) (fa1 (bV rfl rfl rfl rfl<|by simp[z5,plS,plO,AV.pure,aj,ak]) fa0) rfl
theorem cN(z:Int)(hL:(bs++ai z).length<=140737488355328):ga 51 [.pt 0 0,I z] bs (bs++ai z):=by
 have h:=num51 bs z hL;have e:HJ bs z=((bs++ai z).length,bs++ai z):=by simp[HJ,ai]
 rw[e]at h;exact h
def Pg(s:ByteArray):bH:=iWr 51 [.pt 0 0,I (ByteArray.size s:Int)] [.box 50 [.sr 1 1 0 (length bs)],.row 5 1 (map u8C bs)] 0 1 2 (bs++(ai (ByteArray.size s:Int))) ((length bs)=length bs/\(bs++(ai (ByteArray.size s:Int))).length<=140737488355328/\True)
def HK(s:ByteArray):Nat×lXA:=(length (bs++(ai (ByteArray.size s:Int)))+length (Bh s),(bs++(ai (ByteArray.size s:Int)))++(kH s))
end
def Zf(y:Nat×lXA):Am.Loc:=[]
def z6(bs:lXA)(s:ByteArray)(y:Nat×lXA):lXE:=(zL y)
section
variable(bs:lXA)(s:ByteArray)
def Zg:List ((Nat×lXA)×AX×lXC):=[((length (bs++(ai (ByteArray.size s:Int)))+length (Bh s),(bs++(ai (ByteArray.size s:Int)))++(kH s)),.normal,[0,1,3])]
def aeV:List bf:=((Zg bs s).map λw=>(⟨HK bs s=w.1,w.2.1,Zf w.1,w.2.2,z6 bs s w.1⟩:bf))
theorem aeW(hL:(bs++az s).length<=140737488355328):aY pg 20 [.pt 0 0,S s] (zC bs) [] (.tu []) (z6 bs s<|HK bs s):=have hL2:bs.length+((ai (s.size:Int)).length+s.size)<=140737488355328:=oa2;cZ (ob0:=(zC bs)) (fn:=Tryz.f20) (callf:=(cz [Pg bs s] base)) (pu:=cU) (lf:=3000) (l:=[]) (t:=(.r [.bG 0 [],bT] zB)) (bC (.cons (ft λc=>⟨c.1,cN bs (ByteArray.size s:Int) c.2.1⟩) dg.nil) aE) mixed Tryz.func20 oab (show Tryz.f20.body=some (aG 20) by kernel_rfl) (nbl rfl) (bq _) rfl Zf (z6 bs s) (HK bs s) (Zg bs s) (nbl rfl) rfl (by simp[z6,Ob.und,AV.und,bx,bj cn]) (bB (an (ac (qWd<|Pg bs s) a0)<|an (ac (apsS (length<|bs++(ai (ByteArray.size s:Int))) s 1<|rl u8C<|bs++(ai (ByteArray.size s:Int))) a0)<|lfE (wy (aeV bs s) 0) 4 rfl<|aW (rfl:(.box 50 [.sr 2 1 0 (length (bs++(ai (ByteArray.size s:Int)))+length (Bh s))]:Ob)= .box 50 [.sr 2 1 0 (length (bs++(ai (ByteArray.size s:Int)))+length (Bh s))])<|aW (rfl:(.dead:Ob)= .dead)<|aW (af1 (λz=>Ob.row 5 1 z)<|apNF (rl u8C<|bs++(ai (ByteArray.size s:Int))) (k:=length<|bs++(ai (ByteArray.size s:Int))) oad s) ee) oab) (fa1 (.inl rfl) fa0) (fa1 (bV rfl rfl rfl rfl<|by simp[z6,plS,plO,AV.pure,aj,ak]) fa0) rfl
theorem mT(hL:(bs++az s).length<=140737488355328):ga 20 [.pt 0 0,S s] bs (bs++az s):=by
 have h:=aeW bs s hL;have e:HK bs s=((bs++az s).length,bs++az s):=by simp[HK,az,se,fq,agO]
 rw[e]at h;exact h
end
def Ph(bs:lXA)(l:List (ByteArray)):bH:=iWr 51 [.pt 0 0,I (length (map a9 l):Int)] [.box 50 [.sr 1 1 0 (length bs)],.row 5 1 (map u8C bs)] 0 1 2 (bs++(ai (length (map a9 l):Int))) ((length bs)=length bs/\(bs++(ai (length (map a9 l):Int))).length<=140737488355328/\True)
def Pj:Code:=bD 0 (aG 19)
def z7(bs:lXA)(l:List (ByteArray))(i0:Nat)(y0:lXA):lXA:=y0++(az<|ae l i0)
section
variable(bs:lXA)(l:List (ByteArray))
def dH(kk:Nat):lXA:=Nat.rec (motive:=λ_=>lXA) (bs++(ai (length (map a9 l):Int))) (λj a=>z7 bs l j a) kk
theorem CB(i:Nat)(hi:i<=l.length):dH bs l i=bs++ai (length (map a9 l):Int)++(l.take i).flatMap az:=by
 induction i with
 |zero=>show bs++ai (length (map a9 l):Int)=_;simp
 |succ i ih=>show z7 bs l i (dH bs l i)=_;rw[ih oaa,c8 az l oaa];simp[z7]
def Pk(i0:Nat):bH:=iWr 20 [.pt 0 0,S (ae l i0)] [.box 50 [.sr 2 1 0 (length<|dH bs l i0)],.dead,.row 5 1 (map u8C<|dH bs l i0)] 0 2 3 ((dH bs l i0)++(az<|ae l i0)) ((length<|dH bs l i0)=length (dH bs l i0)/\((dH bs l i0)++(az<|ae l i0)).length<=140737488355200/\True)
end
abbrev zAP(y0:lXA):lXE:=[.box 50 [.sr 2 1 0 (length y0)],.dead,.row 5 1 (map u8C y0)]
abbrev z8(bs:lXA)(l:List (ByteArray))(i0:Nat)(y0:lXA):lXE:=(zAP y0)
abbrev vC(bs:lXA)(l:List (ByteArray))(i0:Nat):Am.Loc:=[(2,.fn (.func 20) [.pt 0 0] []),(12,.sl 1 (map a9 l)),(13,I (length (map a9 l):Int)),(14,I (i0:Int))]
abbrev Pl(bs:lXA)(l:List (ByteArray))(i0:Nat):lXE:=z8 bs l i0 (dH bs l i0)
abbrev HL(bs:lXA)(l:List (ByteArray)):Am.Loc:=[]
section
variable(bs:lXA)(l:List (ByteArray))
abbrev HM:lXE:=[.box 50 [.sr 2 1 0 (length<|dH bs l<|length l)],.dead,.row 5 1 (map u8C<|dH bs l<|length l)]
def su:KB:=noK 0 (vC bs l) (Pl bs l) (.exit 0) (HL bs l) (HM bs l) (True)
abbrev Pm(i0:Nat):List bf:=[nxW (false) (vC bs l<|i0+1) (Pl bs l<|i0+1) (vC bs l<|i0+1) [0,1,3] (z8 bs l (i0+1)<|(dH bs l i0)++(az<|ae l i0))]
end
abbrev zBV(i0:Nat):GT:=(.r [.bG 0 [],bT]<|zU i0)
section
variable(bs:lXA)(l:List (ByteArray))
def K7(ls:length l<=9223372036854775807)(hL:(bs++ay az l).length<=140737488355200)(hK: ∀x∈l,∀bs:lXA,(bs++az x).length<=140737488355200->ga 20 [.pt 0 0,S x] bs (bs++az x)):cx pg 22 2 0 (.loop Pj) (su bs l):=
 noB (Pm bs l) (λi0=>(.r [.k,bT]<|.yes<|.r [.row (a9<|ae l i0),bT]<|zBV i0)) (range 3) zE (length l)
 (λ_ i0(hx0:i0<(length l))=>have lml:=aL a9 l;have hL3:bs.length+(ai (length (map a9 l):Int)).length+(List.flatMap az l).length<=140737488355200:=oaf;have ha:=CB bs l i0 (agx hx0);have hfl:=fL az l hx0;have ha2:length (dH bs l i0)=bs.length+(ai (length (map a9 l):Int)).length+(List.flatMap az<|List.take i0 l).length:=oak;have l1:=aL a9 (l);have hb:(decide<|(i0:Int)<(length (map a9 l):Int))=true:=afT oaa;
 bB (an (a1 a0)<|an hb<|an (ac (rwa a9 l i0) a0)<|an (ac (qWd<|Pk bs l i0) a0)<|an (ac (dwo ((i0+1:Nat):Int)) a0)<|lf (wy (Pm bs l i0) 0) 4<|nxP (λ_=>vC bs l<|i0+1) (z8 bs l<|i0+1) rfl<|show dH bs l (i0+1)=((dH bs l i0)++(az<|ae l i0))from rfl)
 oab)
 (λ_=>have lml:=aL a9 l;have hL3:bs.length+(ai (length (map a9 l):Int)).length+(List.flatMap az l).length<=140737488355200:=oaf;have l1:=aL a9 (l);have hb:(decide<|(((length l):Nat):Int)<(length (map a9 l):Int))=false:=afU oaa;
 bB (an (a1 a0)<|an hb<|lx (.exit 0) (HL bs l) (range 3) (HM bs l) 3)
 oab) (callf:=λi0=>(cz [Pk bs l i0] base)) (hc:=λ_ i0 hx0=>(bC (.cons (ft λc=>⟨c.1,hK _ (aw hx0) (dH bs l i0) c.2.1⟩) dg.nil) aE))
def HN:Nat×lXA:=(length (dH bs l<|length l),(dH bs l<|length l))
end
def Zh(y:Nat×lXA):Am.Loc:=[]
def z9(bs:lXA)(l:List (ByteArray))(y:Nat×lXA):lXE:=(zL y)
section
variable(bs:lXA)(l:List (ByteArray))
def Zi:List ((Nat×lXA)×AX×lXC):=[((length (dH bs l<|length l),(dH bs l<|length l)),.normal,[0,1,2])]
def aeX:List bf:=((Zi bs l).map λw=>(⟨HN bs l=w.1,w.2.1,Zh w.1,w.2.2,z9 bs l w.1⟩:bf))
end
def o6:di [0] (aG 19)=[(0,.loop Pj)]:=by kernel_rfl
section
variable(bs:lXA)(l:List (ByteArray))
theorem aeY(ls:length l<=9223372036854775807)(hL:(bs++ay az l).length<=140737488355200)(hK: ∀x∈l,∀bs:lXA,(bs++az x).length<=140737488355200->ga 20 [.pt 0 0,S x] bs (bs++az x)):aY pg 19 [.pt 0 0,.sl 1 (map a9 l),.fn (.func 20) [.pt 0 0] []] (zC bs) [] (.tu []) (z9 bs l<|HN bs l):=have lml:=aL a9 l;have hL3:bs.length+(ai (length (map a9 l):Int)).length+(List.flatMap az l).length<=140737488355200:=oaf;cZ (ob0:=(zC bs)) (fn:=Tryz.f19) (callf:=(cz [Ph bs l] base)) (pu:=cU) (lf:=3000) (l:=[(0,su bs l)]) (t:=zu) (bC (.cons (ft λc=>⟨c.1,cN bs (length (map a9 l):Int) c.2.1⟩) dg.nil) aE) mixed Tryz.func19 oab (show Tryz.f19.body=some (aG 19) by kernel_rfl) (nbl rfl) (bw (l:=[(0,su bs l)]) o6 (aK (K7 bs l ls hL hK) rfl aU) rfl) rfl Zh (z9 bs l) (HN bs l) (Zi bs l) (nbl rfl) rfl (by simp[z9,Ob.und,AV.und,bx,bj cn]) (bB (an (ac (qWd<|Ph bs l) a0)<|an a0<|an (kbT (su bs l) trivial)<|an (rfl:false=false)<|lf (wy (aeX bs l) 0) 3 rfl) oab) (fa1 (.inl rfl) fa0) (fa1 (bV rfl rfl rfl rfl<|by simp[z9,plS,plO,AV.pure,aj,ak]) fa0) rfl
theorem qn(ls:length l<=9223372036854775807)(hL:(bs++ay az l).length<=140737488355200)(hK: ∀x∈l,∀bs:lXA,(bs++az x).length<=140737488355200->ga 20 [.pt 0 0,S x] bs (bs++az x)):ga 19 [.pt 0 0,.sl 1 (l.map a9),.fn (.func 20) [.pt 0 0] []] bs (bs++ay az l):=by
 have h:=aeY bs l ls hL hK;have e:HN bs l=((bs++ay az l).length,bs++ay az l):=by unfold HN;rw[CB bs l _ (afP _),agj];simp[ay]
 rw[e]at h;exact h
end
def Pn(bs:lXA)(l:List (bI)):bH:=iWr 51 [.pt 0 0,I (length (map aC l):Int)] [.box 50 [.sr 1 1 0 (length bs)],.row 5 1 (map u8C bs)] 0 1 2 (bs++(ai (length (map aC l):Int))) ((length bs)=length bs/\(bs++(ai (length (map aC l):Int))).length<=140737488355328/\True)
def Po:Code:=bD 0 (aG 21)
def Aa(bs:lXA)(l:List (bI))(i0:Nat)(y0:lXA):lXA:=y0++(cp<|ae l i0)
section
variable(bs:lXA)(l:List (bI))
def dI(kk:Nat):lXA:=Nat.rec (motive:=λ_=>lXA) (bs++(ai (length (map aC l):Int))) (λj a=>Aa bs l j a) kk
theorem CC(i:Nat)(hi:i<=l.length):dI bs l i=bs++ai (length (map aC l):Int)++(l.take i).flatMap cp:=by
 induction i with
 |zero=>show bs++ai (length (map aC l):Int)=_;simp
 |succ i ih=>show Aa bs l i (dI bs l i)=_;rw[ih oaa,c8 cp l oaa];simp[Aa]
def Pp(i0:Nat):bH:=iWr 22 [.pt 0 0,.ag (aC<|ae l i0)] [.box 50 [.sr 2 1 0 (length<|dI bs l i0)],.dead,.row 5 1 (map u8C<|dI bs l i0),.box 56 (aC<|ae l i0)] 0 2 4 ((dI bs l i0)++(cp<|ae l i0)) ((length<|dI bs l i0)=length (dI bs l i0)/\((dI bs l i0)++(cp<|ae l i0)).length<=140737488355200/\True)
end
abbrev Ab(bs:lXA)(l:List (bI))(i0:Nat)(y0:lXA):lXE:=(zAP y0)
abbrev vD(bs:lXA)(l:List (bI))(i0:Nat):Am.Loc:=[(2,.fn (.func 22) [.pt 0 0] []),(12,.sl 9 (map aC l)),(13,I (length (map aC l):Int)),(14,I (i0:Int))]
abbrev Pq(bs:lXA)(l:List (bI))(i0:Nat):lXE:=Ab bs l i0 (dI bs l i0)
abbrev HO(bs:lXA)(l:List (bI)):Am.Loc:=[]
section
variable(bs:lXA)(l:List (bI))
abbrev HP:lXE:=[.box 50 [.sr 2 1 0 (length<|dI bs l<|length l)],.dead,.row 5 1 (map u8C<|dI bs l<|length l)]
def sv:KB:=noK 0 (vD bs l) (Pq bs l) (.exit 0) (HO bs l) (HP bs l) (True)
abbrev Pr(i0:Nat):List bf:=[nxW (false) (vD bs l<|i0+1) (Pq bs l<|i0+1) (vD bs l<|i0+1) [0,1,4] (Ab bs l (i0+1)<|(dI bs l i0)++(cp<|ae l i0))]
def K8(ls:length l<=9223372036854775807)(hL:(bs++ay cp l).length<=140737488355200)(hK: ∀x∈l,∀bs:lXA,(bs++cp x).length<=140737488355200->ga 22 [.pt 0 0,.ag (aC x)] bs (bs++cp x)):cx pg 22 2 0 (.loop Po) (sv bs l):=
 noB (Pr bs l) (λi0=>(.r [.k,bT]<|.yes<|.r [.row (aC<|ae l i0),bT]<|zBV i0)) (range 3) zE (length l)
 (λ_ i0(hx0:i0<(length l))=>have lml:=aL aC l;have hL3:bs.length+(ai (length (map aC l):Int)).length+(List.flatMap cp l).length<=140737488355200:=oaf;have ha:=CC bs l i0 (agx hx0);have hfl:=fL cp l hx0;have ha2:length (dI bs l i0)=bs.length+(ai (length (map aC l):Int)).length+(List.flatMap cp<|List.take i0 l).length:=oak;have l1:=aL aC (l);have hb:(decide<|(i0:Int)<(length (map aC l):Int))=true:=afT oaa;
 bB (an (a1 a0)<|an hb<|an (ac (rwa aC l i0) a0)<|an (ac (qWd<|Pp bs l i0) a0)<|an (ac (dwo ((i0+1:Nat):Int)) a0)<|lf (wy (Pr bs l i0) 0) 5<|nxP (λ_=>vD bs l<|i0+1) (Ab bs l<|i0+1) rfl<|show dI bs l (i0+1)=((dI bs l i0)++(cp<|ae l i0))from rfl)
 oab)
 (λ_=>have lml:=aL aC l;have hL3:bs.length+(ai (length (map aC l):Int)).length+(List.flatMap cp l).length<=140737488355200:=oaf;have l1:=aL aC (l);have hb:(decide<|(((length l):Nat):Int)<(length (map aC l):Int))=false:=afU oaa;
 bB (an (a1 a0)<|an hb<|lx (.exit 0) (HO bs l) (range 3) (HP bs l) 3)
 oab) (callf:=λi0=>(cz [Pp bs l i0] base)) (hc:=λ_ i0 hx0=>(bC (.cons (ft λc=>⟨c.1,hK _ (aw hx0) (dI bs l i0) c.2.1⟩) dg.nil) aE))
def HQ:Nat×lXA:=(length (dI bs l<|length l),(dI bs l<|length l))
end
def Zj(y:Nat×lXA):Am.Loc:=[]
def Ac(bs:lXA)(l:List (bI))(y:Nat×lXA):lXE:=(zL y)
def Zk(bs:lXA)(l:List (bI)):List ((Nat×lXA)×AX×lXC):=[((length (dI bs l<|length l),(dI bs l<|length l)),.normal,[0,1,2])]
def aeZ(bs:lXA)(l:List (bI)):List bf:=((Zk bs l).map λw=>(⟨HQ bs l=w.1,w.2.1,Zj w.1,w.2.2,Ac bs l w.1⟩:bf))
def o7:di [0] (aG 21)=[(0,.loop Po)]:=by kernel_rfl
def ae0(bs:lXA)(l:List (bI))(ls:length l<=9223372036854775807)(hL:(bs++ay cp l).length<=140737488355200)(hK: ∀x∈l,∀bs:lXA,(bs++cp x).length<=140737488355200->ga 22 [.pt 0 0,.ag (aC x)] bs (bs++cp x)):aY pg 21 [.pt 0 0,.sl 9 (map aC l),.fn (.func 22) [.pt 0 0] []] (zC bs) [] (.tu []) (Ac bs l<|HQ bs l):=have lml:=aL aC l;have hL3:bs.length+(ai (length (map aC l):Int)).length+(List.flatMap cp l).length<=140737488355200:=oaf;cZ (ob0:=(zC bs)) (fn:=Tryz.f21) (callf:=(cz [Pn bs l] base)) (pu:=cU) (lf:=3000) (l:=[(0,sv bs l)]) (t:=zu) (bC (.cons (ft λc=>⟨c.1,cN bs (length (map aC l):Int) c.2.1⟩) dg.nil) aE) mixed Tryz.func21 oab (show Tryz.f21.body=some (aG 21) by kernel_rfl) (nbl rfl) (bw (l:=[(0,sv bs l)]) o7 (aK (K8 bs l ls hL hK) rfl aU) rfl) rfl Zj (Ac bs l) (HQ bs l) (Zk bs l) (nbl rfl) rfl (by simp[Ac,Ob.und,AV.und,bx,bj cn]) (bB (an (ac (qWd<|Pn bs l) a0)<|an a0<|an (kbT (sv bs l) trivial)<|an (rfl:false=false)<|lf (wy (aeZ bs l) 0) 3 rfl) oab) (fa1 (.inl rfl) fa0) (fa1 (bV rfl rfl rfl rfl<|by simp[Ac,plS,plO,AV.pure,aj,ak]) fa0) rfl
def K9(bs:lXA)(l:List (bI))(ls:length l<=9223372036854775807)(hL:(bs++ay cp l).length<=140737488355200)(hK: ∀x∈l,∀bs:lXA,(bs++cp x).length<=140737488355200->ga 22 [.pt 0 0,.ag (aC x)] bs (bs++cp x)):ga 21 [.pt 0 0,.sl 9 (l.map aC),.fn (.func 22) [.pt 0 0] []] bs (bs++ay cp l):=by
 have h:=ae0 bs l ls hL hK;have e:HQ bs l=((bs++ay cp l).length,bs++ay cp l):=by unfold HQ;rw[CC bs l _ (afP _),agj];simp[ay]
 rw[e]at h;exact h
def Ps(bs:lXA)(l:List (State)):bH:=iWr 51 [.pt 0 0,I (length (map aq l):Int)] [.box 50 [.sr 1 1 0 (length bs)],.row 5 1 (map u8C bs)] 0 1 2 (bs++(ai (length (map aq l):Int))) ((length bs)=length bs/\(bs++(ai (length (map aq l):Int))).length<=140737488355328/\True)
def Pt:Code:=bD 0 (aG 23)
def Ad(bs:lXA)(l:List (State))(i0:Nat)(y0:lXA):lXA:=y0++(bR<|ae l i0)
section
variable(bs:lXA)(l:List (State))
def dJ(kk:Nat):lXA:=Nat.rec (motive:=λ_=>lXA) (bs++(ai (length (map aq l):Int))) (λj a=>Ad bs l j a) kk
theorem CD(i:Nat)(hi:i<=l.length):dJ bs l i=bs++ai (length (map aq l):Int)++(l.take i).flatMap bR:=by
 induction i with
 |zero=>show bs++ai (length (map aq l):Int)=_;simp
 |succ i ih=>show Ad bs l i (dJ bs l i)=_;rw[ih oaa,c8 bR l oaa];simp[Ad]
def Pu(i0:Nat):bH:=iWr 24 [.pt 0 0,.ag (aq<|ae l i0)] [.box 50 [.sr 2 1 0 (length<|dJ bs l i0)],.dead,.row 5 1 (map u8C<|dJ bs l i0),.box 45 (aq<|ae l i0)] 0 2 4 ((dJ bs l i0)++(bR<|ae l i0)) ((length<|dJ bs l i0)=length (dJ bs l i0)/\((dJ bs l i0)++(bR<|ae l i0)).length<=140737488355200/\True)
end
abbrev Ae(bs:lXA)(l:List (State))(i0:Nat)(y0:lXA):lXE:=(zAP y0)
abbrev vF(bs:lXA)(l:List (State))(i0:Nat):Am.Loc:=[(2,.fn (.func 24) [.pt 0 0] []),(12,.sl 2 (map aq l)),(13,I (length (map aq l):Int)),(14,I (i0:Int))]
abbrev Pv(bs:lXA)(l:List (State))(i0:Nat):lXE:=Ae bs l i0 (dJ bs l i0)
abbrev HR(bs:lXA)(l:List (State)):Am.Loc:=[]
section
variable(bs:lXA)(l:List (State))
abbrev HS:lXE:=[.box 50 [.sr 2 1 0 (length<|dJ bs l<|length l)],.dead,.row 5 1 (map u8C<|dJ bs l<|length l)]
def sw:KB:=noK 0 (vF bs l) (Pv bs l) (.exit 0) (HR bs l) (HS bs l) (True)
abbrev Pw(i0:Nat):List bf:=[nxW (false) (vF bs l<|i0+1) (Pv bs l<|i0+1) (vF bs l<|i0+1) [0,1,4] (Ae bs l (i0+1)<|(dJ bs l i0)++(bR<|ae l i0))]
def Lg(ls:length l<=9223372036854775807)(hL:(bs++ay bR l).length<=140737488355200)(hK: ∀x∈l,∀bs:lXA,(bs++bR x).length<=140737488355200->ga 24 [.pt 0 0,.ag (aq x)] bs (bs++bR x)):cx pg 22 2 0 (.loop Pt) (sw bs l):=
 noB (Pw bs l) (λi0=>(.r [.k,bT]<|.yes<|.r [.row (aq<|ae l i0),bT]<|zBV i0)) (range 3) zE (length l)
 (λ_ i0(hx0:i0<(length l))=>have lml:=aL aq l;have hL3:bs.length+(ai (length (map aq l):Int)).length+(List.flatMap bR l).length<=140737488355200:=oaf;have ha:=CD bs l i0 (agx hx0);have hfl:=fL bR l hx0;have ha2:length (dJ bs l i0)=bs.length+(ai (length (map aq l):Int)).length+(List.flatMap bR<|List.take i0 l).length:=oak;have l1:=aL aq (l);have hb:(decide<|(i0:Int)<(length (map aq l):Int))=true:=afT oaa;
 bB (an (a1 a0)<|an hb<|an (ac (rwa aq l i0) a0)<|an (ac (qWd<|Pu bs l i0) a0)<|an (ac (dwo ((i0+1:Nat):Int)) a0)<|lf (wy (Pw bs l i0) 0) 5<|nxP (λ_=>vF bs l<|i0+1) (Ae bs l<|i0+1) rfl<|show dJ bs l (i0+1)=((dJ bs l i0)++(bR<|ae l i0))from rfl)
 oab)
 (λ_=>have lml:=aL aq l;have hL3:bs.length+(ai (length (map aq l):Int)).length+(List.flatMap bR l).length<=140737488355200:=oaf;have l1:=aL aq (l);have hb:(decide<|(((length l):Nat):Int)<(length (map aq l):Int))=false:=afU oaa;
 bB (an (a1 a0)<|an hb<|lx (.exit 0) (HR bs l) (range 3) (HS bs l) 3)
 oab) (callf:=λi0=>(cz [Pu bs l i0] base)) (hc:=λ_ i0 hx0=>(bC (.cons (ft λc=>⟨c.1,hK _ (aw hx0) (dJ bs l i0) c.2.1⟩) dg.nil) aE))
def HT:Nat×lXA:=(length (dJ bs l<|length l),(dJ bs l<|length l))
end
def Zl(y:Nat×lXA):Am.Loc:=[]
def Af(bs:lXA)(l:List (State))(y:Nat×lXA):lXE:=(zL y)
section
variable(bs:lXA)(l:List (State))
def Zm:List ((Nat×lXA)×AX×lXC):=[((length (dJ bs l<|length l),(dJ bs l<|length l)),.normal,[0,1,2])]
def ae1:List bf:=((Zm bs l).map λw=>(⟨HT bs l=w.1,w.2.1,Zl w.1,w.2.2,Af bs l w.1⟩:bf))
end
def o8:di [0] (aG 23)=[(0,.loop Pt)]:=by kernel_rfl
section
variable(bs:lXA)(l:List (State))
theorem ae2(ls:length l<=9223372036854775807)(hL:(bs++ay bR l).length<=140737488355200)(hK: ∀x∈l,∀bs:lXA,(bs++bR x).length<=140737488355200->ga 24 [.pt 0 0,.ag (aq x)] bs (bs++bR x)):aY pg 23 [.pt 0 0,.sl 2 (map aq l),.fn (.func 24) [.pt 0 0] []] (zC bs) [] (.tu []) (Af bs l<|HT bs l):=have lml:=aL aq l;have hL3:bs.length+(ai (length (map aq l):Int)).length+(List.flatMap bR l).length<=140737488355200:=oaf;cZ (ob0:=(zC bs)) (fn:=Tryz.f23) (callf:=(cz [Ps bs l] base)) (pu:=cU) (lf:=3000) (l:=[(0,sw bs l)]) (t:=zu) (bC (.cons (ft λc=>⟨c.1,cN bs (length (map aq l):Int) c.2.1⟩) dg.nil) aE) mixed Tryz.func23 oab (show Tryz.f23.body=some (aG 23) by kernel_rfl) (nbl rfl) (bw (l:=[(0,sw bs l)]) o8 (aK (Lg bs l ls hL hK) rfl aU) rfl) rfl Zl (Af bs l) (HT bs l) (Zm bs l) (nbl rfl) rfl (by simp[Af,Ob.und,AV.und,bx,bj cn]) (bB (an (ac (qWd<|Ps bs l) a0)<|an a0<|an (kbT (sw bs l) trivial)<|an (rfl:false=false)<|lf (wy (ae1 bs l) 0) 3 rfl) oab) (fa1 (.inl rfl) fa0) (fa1 (bV rfl rfl rfl rfl<|by simp[Af,plS,plO,AV.pure,aj,ak]) fa0) rfl
theorem Lh(ls:length l<=9223372036854775807)(hL:(bs++ay bR l).length<=140737488355200)(hK: ∀x∈l,∀bs:lXA,(bs++bR x).length<=140737488355200->ga 24 [.pt 0 0,.ag (aq x)] bs (bs++bR x)):ga 23 [.pt 0 0,.sl 2 (l.map aq),.fn (.func 24) [.pt 0 0] []] bs (bs++ay bR l):=by
 have h:=ae2 bs l ls hL hK;have e:HT bs l=((bs++ay bR l).length,bs++ay bR l):=by unfold HT;rw[CD bs l _ (afP _),agj];simp[ay]
 rw[e]at h;exact h
end
def Px(bs:lXA)(l:List (Edge)):bH:=iWr 51 [.pt 0 0,I (length (map aQ l):Int)] [.box 50 [.sr 1 1 0 (length bs)],.row 5 1 (map u8C bs)] 0 1 2 (bs++(ai (length (map aQ l):Int))) ((length bs)=length bs/\(bs++(ai (length (map aQ l):Int))).length<=140737488355328/\True)
def Py:Code:=bD 0 (aG 52)
def Ag(bs:lXA)(l:List (Edge))(i0:Nat)(y0:lXA):lXA:=y0++(cc<|ae l i0)
section
variable(bs:lXA)(l:List (Edge))
def dK(kk:Nat):lXA:=Nat.rec (motive:=λ_=>lXA) (bs++(ai (length (map aQ l):Int))) (λj a=>Ag bs l j a) kk
theorem CE(i:Nat)(hi:i<=l.length):dK bs l i=bs++ai (length (map aQ l):Int)++(l.take i).flatMap cc:=by
 induction i with
 |zero=>show bs++ai (length (map aQ l):Int)=_;simp
 |succ i ih=>show Ag bs l i (dK bs l i)=_;rw[ih oaa,c8 cc l oaa];simp[Ag]
def Pz(i0:Nat):bH:=iWr 53 [.pt 0 0,.ag (aQ<|ae l i0)] [.box 50 [.sr 2 1 0 (length<|dK bs l i0)],.dead,.row 5 1 (map u8C<|dK bs l i0),.box 73 (aQ<|ae l i0)] 0 2 4 ((dK bs l i0)++(cc<|ae l i0)) ((length<|dK bs l i0)=length (dK bs l i0)/\((dK bs l i0)++(cc<|ae l i0)).length<=140737488355200/\True)
end
abbrev Ah(bs:lXA)(l:List (Edge))(i0:Nat)(y0:lXA):lXE:=(zAP y0)
abbrev vG(bs:lXA)(l:List (Edge))(i0:Nat):Am.Loc:=[(2,.fn (.func 53) [.pt 0 0] []),(12,.sl 10 (map aQ l)),(13,I (length (map aQ l):Int)),(14,I (i0:Int))]
abbrev PA(bs:lXA)(l:List (Edge))(i0:Nat):lXE:=Ah bs l i0 (dK bs l i0)
abbrev HU(bs:lXA)(l:List (Edge)):Am.Loc:=[]
section
variable(bs:lXA)(l:List (Edge))
abbrev HV:lXE:=[.box 50 [.sr 2 1 0 (length<|dK bs l<|length l)],.dead,.row 5 1 (map u8C<|dK bs l<|length l)]
def sy:KB:=noK 0 (vG bs l) (PA bs l) (.exit 0) (HU bs l) (HV bs l) (True)
abbrev PB(i0:Nat):List bf:=[nxW (false) (vG bs l<|i0+1) (PA bs l<|i0+1) (vG bs l<|i0+1) [0,1,4] (Ah bs l (i0+1)<|(dK bs l i0)++(cc<|ae l i0))]
def Lk(ls:length l<=9223372036854775807)(hL:(bs++ay cc l).length<=140737488355200)(hK: ∀x∈l,∀bs:lXA,(bs++cc x).length<=140737488355200->ga 53 [.pt 0 0,.ag (aQ x)] bs (bs++cc x)):cx pg 22 2 0 (.loop Py) (sy bs l):=
 noB (PB bs l) (λi0=>(.r [.k,bT]<|.yes<|.r [.row (aQ<|ae l i0),bT]<|zBV i0)) (range 3) zE (length l)
 (λ_ i0(hx0:i0<(length l))=>have lml:=aL aQ l;have hL3:bs.length+(ai (length (map aQ l):Int)).length+(List.flatMap cc l).length<=140737488355200:=oaf;have ha:=CE bs l i0 (agx hx0);have hfl:=fL cc l hx0;have ha2:length (dK bs l i0)=bs.length+(ai (length (map aQ l):Int)).length+(List.flatMap cc<|List.take i0 l).length:=oak;have l1:=aL aQ (l);have hb:(decide<|(i0:Int)<(length (map aQ l):Int))=true:=afT oaa;
 bB (an (a1 a0)<|an hb<|an (ac (rwa aQ l i0) a0)<|an (ac (qWd<|Pz bs l i0) a0)<|an (ac (dwo ((i0+1:Nat):Int)) a0)<|lf (wy (PB bs l i0) 0) 5<|nxP (λ_=>vG bs l<|i0+1) (Ah bs l<|i0+1) rfl<|show dK bs l (i0+1)=((dK bs l i0)++(cc<|ae l i0))from rfl)
 oab)
 (λ_=>have lml:=aL aQ l;have hL3:bs.length+(ai (length (map aQ l):Int)).length+(List.flatMap cc l).length<=140737488355200:=oaf;have l1:=aL aQ (l);have hb:(decide<|(((length l):Nat):Int)<(length (map aQ l):Int))=false:=afU oaa;
 bB (an (a1 a0)<|an hb<|lx (.exit 0) (HU bs l) (range 3) (HV bs l) 3)
 oab) (callf:=λi0=>(cz [Pz bs l i0] base)) (hc:=λ_ i0 hx0=>(bC (.cons (ft λc=>⟨c.1,hK _ (aw hx0) (dK bs l i0) c.2.1⟩) dg.nil) aE))
def HW:Nat×lXA:=(length (dK bs l<|length l),(dK bs l<|length l))
end
def Zn(y:Nat×lXA):Am.Loc:=[]
def Ai(bs:lXA)(l:List (Edge))(y:Nat×lXA):lXE:=(zL y)
section
variable(bs:lXA)(l:List (Edge))
def Zo:List ((Nat×lXA)×AX×lXC):=[((length (dK bs l<|length l),(dK bs l<|length l)),.normal,[0,1,2])]
def ae3:List bf:=((Zo bs l).map λw=>(⟨HW bs l=w.1,w.2.1,Zn w.1,w.2.2,Ai bs l w.1⟩:bf))
end
def o9:di [0] (aG 52)=[(0,.loop Py)]:=by kernel_rfl
section
variable(bs:lXA)(l:List (Edge))
theorem ae4(ls:length l<=9223372036854775807)(hL:(bs++ay cc l).length<=140737488355200)(hK: ∀x∈l,∀bs:lXA,(bs++cc x).length<=140737488355200->ga 53 [.pt 0 0,.ag (aQ x)] bs (bs++cc x)):aY pg 52 [.pt 0 0,.sl 10 (map aQ l),.fn (.func 53) [.pt 0 0] []] (zC bs) [] (.tu []) (Ai bs l<|HW bs l):=have lml:=aL aQ l;have hL3:bs.length+(ai (length (map aQ l):Int)).length+(List.flatMap cc l).length<=140737488355200:=oaf;cZ (ob0:=(zC bs)) (fn:=Tryz.f52) (callf:=(cz [Px bs l] base)) (pu:=cU) (lf:=3000) (l:=[(0,sy bs l)]) (t:=zu) (bC (.cons (ft λc=>⟨c.1,cN bs (length (map aQ l):Int) c.2.1⟩) dg.nil) aE) mixed Tryz.func52 oab (show Tryz.f52.body=some (aG 52) by kernel_rfl) (nbl rfl) (bw (l:=[(0,sy bs l)]) o9 (aK (Lk bs l ls hL hK) rfl aU) rfl) rfl Zn (Ai bs l) (HW bs l) (Zo bs l) (nbl rfl) rfl (by simp[Ai,Ob.und,AV.und,bx,bj cn]) (bB (an (ac (qWd<|Px bs l) a0)<|an a0<|an (kbT (sy bs l) trivial)<|an (rfl:false=false)<|lf (wy (ae3 bs l) 0) 3 rfl) oab) (fa1 (.inl rfl) fa0) (fa1 (bV rfl rfl rfl rfl<|by simp[Ai,plS,plO,AV.pure,aj,ak]) fa0) rfl
theorem Ll(ls:length l<=9223372036854775807)(hL:(bs++ay cc l).length<=140737488355200)(hK: ∀x∈l,∀bs:lXA,(bs++cc x).length<=140737488355200->ga 53 [.pt 0 0,.ag (aQ x)] bs (bs++cc x)):ga 52 [.pt 0 0,.sl 10 (l.map aQ),.fn (.func 53) [.pt 0 0] []] bs (bs++ay cc l):=by
 have h:=ae4 bs l ls hL hK;have e:HW bs l=((bs++ay cc l).length,bs++ay cc l):=by unfold HW;rw[CE bs l _ (afP _),agj];simp[ay]
 rw[e]at h;exact h
end
def PC(bs:lXA)(l:List (G)):bH:=iWr 51 [.pt 0 0,I (length (map gC l):Int)] [.box 50 [.sr 1 1 0 (length bs)],.row 5 1 (map u8C bs)] 0 1 2 (bs++(ai (length (map gC l):Int))) ((length bs)=length bs/\(bs++(ai (length (map gC l):Int))).length<=140737488355328/\True)
def PD:Code:=bD 0 (aG 130)
def Aj(bs:lXA)(l:List (G))(i0:Nat)(y0:lXA):lXA:=y0++(aM<|ae l i0)
section
variable(bs:lXA)(l:List (G))
def dL(kk:Nat):lXA:=Nat.rec (motive:=λ_=>lXA) (bs++(ai (length (map gC l):Int))) (λj a=>Aj bs l j a) kk
theorem CF(i:Nat)(hi:i<=l.length):dL bs l i=bs++ai (length (map gC l):Int)++(l.take i).flatMap aM:=by
 induction i with
 |zero=>show bs++ai (length (map gC l):Int)=_;simp
 |succ i ih=>show Aj bs l i (dL bs l i)=_;rw[ih oaa,c8 aM l oaa];simp[Aj]
def PE(i0:Nat):bH:=iWr 115 [.pt 0 0,.ag (gCC<|ae l i0)] [.box 50 [.sr 2 1 0 (length<|dL bs l i0)],.dead,.row 5 1 (map u8C<|dL bs l i0),.box 70 (gCC<|ae l i0)] 0 2 4 ((dL bs l i0)++(aM<|ae l i0)) ((length<|dL bs l i0)=length (dL bs l i0)/\((dL bs l i0)++(aM<|ae l i0)).length<=140737488355312/\True)
end
abbrev Ak(bs:lXA)(l:List (G))(i0:Nat)(y0:lXA):lXE:=(zAP y0)
abbrev vH(bs:lXA)(l:List (G))(i0:Nat):Am.Loc:=[(2,.fn (.func 115) [.pt 0 0] []),(12,.sl 4 (map gC l)),(13,I (length (map gC l):Int)),(14,I (i0:Int))]
abbrev PF(bs:lXA)(l:List (G))(i0:Nat):lXE:=Ak bs l i0 (dL bs l i0)
abbrev HX(bs:lXA)(l:List (G)):Am.Loc:=[]
section
variable(bs:lXA)(l:List (G))
abbrev HY:lXE:=[.box 50 [.sr 2 1 0 (length<|dL bs l<|length l)],.dead,.row 5 1 (map u8C<|dL bs l<|length l)]
def sz:KB:=noK 0 (vH bs l) (PF bs l) (.exit 0) (HX bs l) (HY bs l) (True)
abbrev PG(i0:Nat):List bf:=[nxW (false) (vH bs l<|i0+1) (PF bs l<|i0+1) (vH bs l<|i0+1) [0,1,4] (Ak bs l (i0+1)<|(dL bs l i0)++(aM<|ae l i0))]
def Ln(ls:length l<=9223372036854775807)(hL:(bs++ay aM l).length<=140737488355312)(hK: ∀x∈l,∀bs:lXA,(bs++aM x).length<=140737488355312->ga 115 [.pt 0 0,.ag (gCC x)] bs (bs++aM x)):cx pg 22 2 0 (.loop PD) (sz bs l):=
 noB (PG bs l) (λi0=>(.r [.k,bT]<|.yes<|.r [.row (gCC<|ae l i0),bT]<|zBV i0)) (range 3) zE (length l)
 (λ_ i0(hx0:i0<(length l))=>have lml:=aL gC l;have hL3:bs.length+(ai (length (map gC l):Int)).length+(List.flatMap aM l).length<=140737488355312:=oaf;have ha:=CF bs l i0 (agx hx0);have hfl:=fL aM l hx0;have ha2:length (dL bs l i0)=bs.length+(ai (length (map gC l):Int)).length+(List.flatMap aM<|List.take i0 l).length:=oak;have l1:=aL gC (l);have hb:(decide<|(i0:Int)<(length (map gC l):Int))=true:=afT oaa;
 bB (an (a1 a0)<|an hb<|an (ac (iP l i0) a0)<|an (ac (qWd<|PE bs l i0) a0)<|an (ac (dwo ((i0+1:Nat):Int)) a0)<|lf (wy (PG bs l i0) 0) 5<|nxP (λ_=>vH bs l<|i0+1) (Ak bs l<|i0+1) rfl<|show dL bs l (i0+1)=((dL bs l i0)++(aM<|ae l i0))from rfl)
 oab)
 (λ_=>have lml:=aL gC l;have hL3:bs.length+(ai (length (map gC l):Int)).length+(List.flatMap aM l).length<=140737488355312:=oaf;have l1:=aL gC (l);have hb:(decide<|(((length l):Nat):Int)<(length (map gC l):Int))=false:=afU oaa;
 bB (an (a1 a0)<|an hb<|lx (.exit 0) (HX bs l) (range 3) (HY bs l) 3)
 oab) (callf:=λi0=>(cz [PE bs l i0] base)) (hc:=λ_ i0 hx0=>(bC (.cons (ft λc=>⟨c.1,hK _ (aw hx0) (dL bs l i0) c.2.1⟩) dg.nil) aE))
def HZ:Nat×lXA:=(length (dL bs l<|length l),(dL bs l<|length l))
end
def Zp(y:Nat×lXA):Am.Loc:=[]
def Al(bs:lXA)(l:List (G))(y:Nat×lXA):lXE:=(zL y)
def Zq(bs:lXA)(l:List (G)):List ((Nat×lXA)×AX×lXC):=[((length (dL bs l<|length l),(dL bs l<|length l)),.normal,[0,1,2])]
def ae5(bs:lXA)(l:List (G)):List bf:=((Zq bs l).map λw=>(⟨HZ bs l=w.1,w.2.1,Zp w.1,w.2.2,Al bs l w.1⟩:bf))
def pb:di [0] (aG 130)=[(0,.loop PD)]:=by kernel_rfl
def abG(bs:lXA)(l:List (G))(ls:length l<=9223372036854775807)(hL:(bs++ay aM l).length<=140737488355312)(hK: ∀x∈l,∀bs:lXA,(bs++aM x).length<=140737488355312->ga 115 [.pt 0 0,.ag (gCC x)] bs (bs++aM x)):aY pg 130 [.pt 0 0,.sl 4 (map gC l),.fn (.func 115) [.pt 0 0] []] (zC bs) [] (.tu []) (Al bs l<|HZ bs l):=have lml:=aL gC l;have hL3:bs.length+(ai (length (map gC l):Int)).length+(List.flatMap aM l).length<=140737488355312:=oaf;cZ (ob0:=(zC bs)) (fn:=Tryz.f130) (callf:=(cz [PC bs l] base)) (pu:=cU) (lf:=3000) (l:=[(0,sz bs l)]) (t:=zu) (bC (.cons (ft λc=>⟨c.1,cN bs (length (map gC l):Int) c.2.1⟩) dg.nil) aE) mixed Tryz.func130 oab (show Tryz.f130.body=some (aG 130) by kernel_rfl) (nbl rfl) (bw (l:=[(0,sz bs l)]) pb (aK (Ln bs l ls hL hK) rfl aU) rfl) rfl Zp (Al bs l) (HZ bs l) (Zq bs l) (nbl rfl) rfl (by simp[Al,Ob.und,AV.und,bx,bj cn]) (bB (an (ac (qWd<|PC bs l) a0)<|an a0<|an (kbT (sz bs l) trivial)<|an (rfl:false=false)<|lf (wy (ae5 bs l) 0) 3 rfl) oab) (fa1 (.inl rfl) fa0) (fa1 (bV rfl rfl rfl rfl<|by simp[Al,plS,plO,AV.pure,aj,ak]) fa0) rfl
def H0(bs:lXA)(l:List (G))(ls:length l<=9223372036854775807)(hL:(bs++ay aM l).length<=140737488355312)(hK: ∀x∈l,∀bs:lXA,(bs++aM x).length<=140737488355312->ga 115 [.pt 0 0,.ag (gCC x)] bs (bs++aM x)):ga 130 [.pt 0 0,.sl 4 (l.map gC),.fn (.func 115) [.pt 0 0] []] bs (bs++ay aM l):=by
 have h:=abG bs l ls hL hK;have e:HZ bs l=((bs++ay aM l).length,bs++ay aM l):=by unfold HZ;rw[CF bs l _ (afP _),agj];simp[ay]
 rw[e]at h;exact h
def zag(n:Int):Int:=wrap .u64 (mM .i64 (wrap .i64<|n*2^1)<|Int.fdiv n<|2^63)
def ae6(x:BitVec 64):(x^^^BitVec.ofInt 64 (-1)).toNat=18446744073709551615-x.toNat:=by rw[show BitVec.ofInt 64 (-1)=BitVec.allOnes 64 by decide,BitVec.xor_allOnes,BitVec.toNat_not]
theorem wI(z:Int):wrap .i64 z=if 9223372036854775808<=z%18446744073709551616 then z%18446744073709551616-18446744073709551616 else z%18446744073709551616:=by simp[wrap,IntKind.signed,IntKind.bits]
theorem wU(z:Int):wrap .u64 z=z%18446744073709551616:=by simp[wrap,IntKind.signed,IntKind.bits]
def tN(z:Int):(((BitVec.ofInt 64 z).toNat:Nat):Int)=z%18446744073709551616:=by rw[BitVec.toNat_ofInt,Int.toNat_of_nonneg (Int.emod_nonneg _ oay)];rfl
theorem xor_0(a:Int):((BitVec.ofInt IntKind.i64.bits a^^^BitVec.ofInt IntKind.i64.bits 0).toNat:Int)=a%18446744073709551616:=by
 have:(BitVec.ofInt 64 a^^^BitVec.ofInt 64 0)=BitVec.ofInt 64 a:=by rw[show BitVec.ofInt 64 0=0#64 by decide,BitVec.xor_zero]
 exact(af1 (λb:BitVec 64=>((b.toNat:Nat):Int)) this).trans (tN a)
theorem xor_1(a:Int):((BitVec.ofInt IntKind.i64.bits a^^^BitVec.ofInt IntKind.i64.bits (-1)).toNat:Int)=18446744073709551615-a%18446744073709551616:=by
 have h:=ae6 (BitVec.ofInt 64 a);have h2:=tN a;have h3:=(BitVec.ofInt 64 a).isLt;have:(((BitVec.ofInt 64 a^^^BitVec.ofInt 64 (-1)).toNat:Nat):Int)=18446744073709551615-a%18446744073709551616:=by omega
 exact this
theorem Lo{n:Int}(h: -9223372036854775808<=n/\n<=9223372036854775807):zag n=zig n:=by
 unfold zag zig mM;by_cases h0:0<=n
 ·rw[show Int.fdiv n (2^63)=0 by rw[agS _ oay];omega,afT (show n>=0 from h0),af2];rw[xor_0];simp only[wI,wU];omega
 ·rw[show Int.fdiv n (2^63)= -1 by rw[agS _ oay];omega,afU (show¬n>=0 from h0),af8];rw[xor_1];simp only[wI,wU];omega
def opW(g:G):lXA:=bif g.op==8||g.op==9 then dx (zag g.n)else []
abbrev RN(n:Int):Prop:= -9223372036854775808<=n/\n<=9223372036854775807
section
variable{g:G}
theorem oz8(hn:RN g.n)(h:(g.op==8)=true):(opF g).length=(dx<|wrap .u64<|mM .i64 (wrap .i64<|G.n g*2^1)<|Int.fdiv g.n<|2^63).length:=by have:=Lo hn;unfold zag at this;rw[this];simp only[opF,h,Bool.or_true,Bool.true_or,af2]
theorem oz9(hn:RN g.n)(h:(g.op==9)=true):(opF g).length=(dx<|wrap .u64<|mM .i64 (wrap .i64<|G.n g*2^1)<|Int.fdiv g.n<|2^63).length:=by have:=Lo hn;unfold zag at this;rw[this];simp only[opF,h,Bool.or_true,Bool.true_or,af2]
theorem oz3(h:(g.op==3)=true):(opF g).length=(ai ((g.kids.length:Nat):Int)).length:=by have:g.op=3:=eq_of_beq h;simp[opF,this]
theorem oz4(h:(g.op==4)=true):(opF g).length=(ai ((g.kids.length:Nat):Int)).length:=by have:g.op=4:=eq_of_beq h;simp[opF,this]
theorem Zr(hn:RN g.n):opW g=bif g.op==8||g.op==9 then opF g else []:=by unfold opW opF;rw[Lo hn];cases g.op==8||g.op==9<;>rfl
theorem EU(hn:RN g.n):(opW g).length<=(opF g).length:=by
 rw[Zr hn];cases g.op==8||g.op==9 with
 |true=>exact afP _
 |false=>simp
end
def wT(c:cj)(O:lXE):bH:=⟨c.f,c.args,O,c.r,O,c.p,0⟩
def gwT{c:cj}{O:lXE}(h:c.bS pg)(hY:Nat.blt c.f dQ=true):(wT c O).bS pg:=λhp=>⟨kR hY (L6 (h hp).1 (h hp).2.1 (h hp).2.2 O),λ_ _=>rfl⟩
def cW{c:cj}(hg:c.bS pg)(hp:c.p){l:lXB}(k:cF l=true):cF (c.r.pure::(dec c.p&&dec (c.args=c.args/\([]:lXE)=[]))::(aj c.args&&true&&true)::l)=true:=by obtain⟨_,h2,h3⟩:=hg hp;rw[cF,cF,cF,h3,h2,aR.2 hp,aR.2 (⟨rfl,rfl⟩:c.args=c.args/\([]:lXE)=[]),k];rfl
def PH(bs:lXA)(g:G):bH:=iWr 51 [.pt 0 0,I (wrap .i64 g.op)] [.box 50 [.sr 1 1 0 (length bs)],.row 5 1 (map u8C bs)] 0 1 2 (bs++(ai<|wrap .i64 g.op)) ((length bs)=length bs/\(bs++(ai<|wrap .i64 g.op)).length<=140737488355328/\True)
def EV:Code:=oM 0 (aG 115)
def EW(bs:lXA)(g:G):bH:=iWr 130 [.pt 0 0,.sl 4 (map gC g.kids),.fn (.func 115) [.pt 0 0] []] [.box 50 [.sr 2 1 0 (length<|bs++(ai<|wrap .i64 g.op))],.dead,.row 5 1 (map u8C<|bs++(ai<|wrap .i64 g.op))] 0 2 3 ((bs++(ai<|wrap .i64 g.op))++(ay aM g.kids)) ((length<|bs++(ai<|wrap .i64 g.op))=length (bs++(ai<|wrap .i64 g.op))/\((bs++(ai<|wrap .i64 g.op))++(ay aM g.kids)).length<=140737488355312/\True)
def mU(bs:lXA)(g:G):Bool:=(!(g.op==8)&&(!(g.op==9)&&((g.op==3)||(g.op==4))))
section
variable(bs:lXA)(g:G)
def gU:lXA:=((bs++(ai<|wrap .i64 g.op))++(ay aM g.kids))
def lg:lXA:=(bif g.op==8 then((bs++(ai<|wrap .i64 g.op))++(dx<|wrap .u64<|mM .i64 (wrap .i64<|g.n*2^1)<|Int.fdiv g.n<|2^63))else(bif g.op==9 then((bs++(ai<|wrap .i64 g.op))++(dx<|wrap .u64<|mM .i64 (wrap .i64<|g.n*2^1)<|Int.fdiv g.n<|2^63))else(bs++(ai<|wrap .i64 g.op))))
theorem ae7:lg bs g=bs++ai (wrap .i64 g.op)++opW g:=by unfold lg opW zag;cases g.op==8<;>cases g.op==9<;>simp
theorem ae8:mU bs g=(!(g.op==8||g.op==9)&&(g.op==3||g.op==4)):=by unfold mU;cases g.op==8<;>cases g.op==9<;>cases g.op==3<;>cases g.op==4<;>rfl
theorem abH:gU bs g=bs++ai (wrap .i64 g.op)++ay aM g.kids:=by unfold gU;rfl
end
def PJ(bs:lXA)(g:G):Am.Loc:=[(0,.pt 0 0),(3,.pf (gCC g)),(12,I8 g.op)]
def PK(bs:lXA)(g:G):lXE:=[.box 50 [.sr 2 1 0 (length<|bs++(zCC g))],.dead,.row 5 1 (map u8C<|bs++(zCC g))]
def An(_:lXA):Am.Loc:=[]
def oo(bs:lXA)(g:G)(_:lXA):Am.Loc:=[(0,.pt 0 0),(3,.pf (gCC g))]
def iJ(bs:lXA)(g:G)(y:lXA):lXE:=[.box 50 [.sr 2 1 0 (length y)],.dead,.row 5 1 (map u8C y)]
section
variable(bs:lXA)(g:G)
def sA:KB:=⟨PJ bs g,PK bs g,mU bs g,.ret,An (gU bs g),iJ bs g (gU bs g),.normal,oo bs g (lg bs g),iJ bs g (lg bs g),True⟩
def H2:List ((lXA)×lXC):=[(((bs++(ai<|wrap .i64 g.op))++(ay aM g.kids)),[0,1,3])]
def H3:List ((lXA)×lXC):=[(((bs++(ai<|wrap .i64 g.op))++(dx<|wrap .u64<|mM .i64 (wrap .i64<|g.n*2^1)<|Int.fdiv g.n<|2^63)),[0,1,3]),((bs++(ai<|wrap .i64 g.op)),[0,1,2])]
def oU:List bf:=(H2 bs g).map (λw=>(⟨mU bs g=true/\gU bs g=w.1,.ret,An w.1,w.2,iJ bs g w.1⟩:bf))++(H3 bs g).map (λw=>(⟨mU bs g=false/\lg bs g=w.1,.normal,oo bs g w.1,w.2,iJ bs g w.1⟩:bf))
end
abbrev zCe:GT:=(.r [.bG 1 [],bT]<|.pick 0)
def Zs(bs:lXA)(g:G)(ls:length g.kids<=9223372036854775807)(hn:RN g.n)(hL:(bs++aM g).length<=140737488355312)(hK: ∀x∈G.kids g,∀bs:lXA,(bs++aM x).length<=140737488355312->ga 115 [.pt 0 0,.ag (gCC x)] bs (bs++aM x)):vcC pg 53 (cz [wT (YZ<|wrap .u64<|mM .i64 (wrap .i64<|g.n*2^1)<|Int.fdiv g.n<|2^63) [],EW bs g] base) cU 3000 (kbL []) (.block 0 EV) (en<|PJ bs g) (dZ<|PK bs g) 3 (ku<|oU bs g) (.r [.k,bT]<|.br (.r [.bG 0 [],bT]<|.pick 1)<|.r [.k,bT]<|.br (.r [.bG 0 [],bT]<|.pick 1)<|.r [.k,bT]<|.br zCe<|.r [.k,bT]<|.br zCe<|.pick 2):=
 have hL2:bs.length+(ai<|wrap .i64 g.op).length+(opF g).length+(g.kids.flatMap aM).length<=140737488355312:=oav;have p4:=EU hn;have p5:(ay aM g.kids).length=(ai ((g.kids.length:Nat):Int)).length+(g.kids.flatMap aM).length:=oaS;bB (an (a1 a0)<|brP (λ(h0:(g.op==8)=true)=>have blg0:=oz8 hn h0;have g0:=eq_of_beq h0;
 (an (ac (aps (length<|bs++(ai<|wrap .i64 g.op)) (dx<|wrap .u64<|mM .i64 (wrap .i64<|g.n*2^1)<|Int.fdiv g.n<|2^63) 1<|rl u8C<|bs++(ai<|wrap .i64 g.op))<|cW (Hd<|wrap .u64<|mM .i64 (wrap .i64<|g.n*2^1)<|Int.fdiv g.n<|2^63) (um _) a0)<|lfE (wy (oU bs g) 1) 4 ⟨(bg<|cI h0),(cdT h0 rfl)⟩<|aW (af1 (λz=>Ob.box 50 [.sr 2 1 0 z])<|show length (bs++(ai<|wrap .i64 g.op))+length (map u8C<|dx<|wrap .u64<|mM .i64 (wrap .i64<|g.n*2^1)<|Int.fdiv g.n<|2^63)=length ((bs++(ai<|wrap .i64 g.op))++(dx<|wrap .u64<|mM .i64 (wrap .i64<|g.n*2^1)<|Int.fdiv g.n<|2^63)) by simp[agO,se,fq])<|aW (rfl:(.dead:Ob)= .dead)<|aW (af1 (λz=>Ob.row 5 1 z)<|EO (f:=u8C) (rl u8C<|bs++(ai<|wrap .i64 g.op)) (k:=length<|bs++(ai<|wrap .i64 g.op)) oad<|dx<|wrap .u64<|mM .i64 (wrap .i64<|g.n*2^1)<|Int.fdiv g.n<|2^63) ee))<|λh0=>have g0:=afX h0;
 (an (a1 a0)<|brP (λ(h1:(g.op==9)=true)=>have blg1:=oz9 hn h1;have g1:=eq_of_beq h1;
 (an (ac (aps (length<|bs++(ai<|wrap .i64 g.op)) (dx<|wrap .u64<|mM .i64 (wrap .i64<|g.n*2^1)<|Int.fdiv g.n<|2^63) 1<|rl u8C<|bs++(ai<|wrap .i64 g.op))<|cW (Hd<|wrap .u64<|mM .i64 (wrap .i64<|g.n*2^1)<|Int.fdiv g.n<|2^63) (um _) a0)<|lfE (wy (oU bs g) 1) 4 ⟨(aD (au h0)<|bg<|cI h1),(cdF h0<|cdT h1 rfl)⟩<|aW (af1 (λz=>Ob.box 50 [.sr 2 1 0 z])<|show length (bs++(ai<|wrap .i64 g.op))+length (map u8C<|dx<|wrap .u64<|mM .i64 (wrap .i64<|g.n*2^1)<|Int.fdiv g.n<|2^63)=length ((bs++(ai<|wrap .i64 g.op))++(dx<|wrap .u64<|mM .i64 (wrap .i64<|g.n*2^1)<|Int.fdiv g.n<|2^63)) by simp[agO,se,fq])<|aW (rfl:(.dead:Ob)= .dead)<|aW (af1 (λz=>Ob.row 5 1 z)<|EO (f:=u8C) (rl u8C<|bs++(ai<|wrap .i64 g.op)) (k:=length<|bs++(ai<|wrap .i64 g.op)) oad<|dx<|wrap .u64<|mM .i64 (wrap .i64<|g.n*2^1)<|Int.fdiv g.n<|2^63) ee))<|λh1=>have g1:=afX h1;
 (an (a1 a0)<|brP (λ(h2:(g.op==3)=true)=>have blg2:=oz3 h2;have g2:=eq_of_beq h2;
 (an (ac (qWd<|EW bs g) a0)<|lf (wy (oU bs g) 0) 4 ⟨(aD (au h0)<|aD (au h1)<|orT h2),rfl⟩))<|λh2=>have g2:=afX h2;
 (an (a1 a0)<|brP (λ(h3:(g.op==4)=true)=>have blg3:=oz4 h3;have g3:=eq_of_beq h3;
 (an (ac (qWd<|EW bs g) a0)<|lf (wy (oU bs g) 0) 4 ⟨(aD (au h0)<|aD (au h1)<|orF h2 h3),rfl⟩))<|λh3=>(lf (wy (oU bs g) 2) 3 ⟨(aD (au h0)<|aD (au h1)<|orF h2 h3),(cdF h0<|cdF h1 rfl)⟩)))))
 oab
def Lp(bs:lXA)(g:G)(ls:length g.kids<=9223372036854775807)(hn:RN g.n)(hL:(bs++aM g).length<=140737488355312)(hK: ∀x∈G.kids g,∀bs:lXA,(bs++aM x).length<=140737488355312->ga 115 [.pt 0 0,.ag (gCC x)] bs (bs++aM x)):cx pg 53 2 0 EV (sA bs g):=adg (gp (bC (.cons (gwT (Hd<|wrap .u64<|mM .i64 (wrap .i64<|g.n*2^1)<|Int.fdiv g.n<|2^63) rfl)<|.cons (ft λc=>⟨c.1,H0 (bs++(ai<|wrap .i64 g.op)) g.kids ls c.2.1 hK⟩) dg.nil) aE) mixed<|bq _) rfl An (oo bs g) (iJ bs g) (iJ bs g) (gU bs g) (lg bs g) (H2 bs g) (H3 bs g) (Zs bs g ls hn hL hK) (fa1 (bV rfl rfl rfl rfl oa4) fa0) (fa1 (bV rfl rfl rfl (by simp[oo,plS,AV.pure,aj,ak]) oa4)<|fa1 (bV rfl rfl rfl (by simp[oo,plS,AV.pure,aj,ak]) oa4) fa0)
def PL:Code:=bD 1 (aG 115)
def Ao(bs:lXA)(g:G)(i1:Nat)(y1:lXA):lXA:=y1++(aM<|ae g.kids i1)
section
variable(bs:lXA)(g:G)
def dM(kk:Nat):lXA:=Nat.rec (motive:=λ_=>lXA) (lg bs g) (λj a=>Ao bs g j a) kk
theorem PM(i:Nat)(hi:i<=g.kids.length):dM bs g i=bs++ai (wrap .i64 g.op)++opW g++(g.kids.take i).flatMap aM:=by
 induction i with
 |zero=>show lg bs g=_;rw[ae7];simp
 |succ i ih=>show Ao bs g i (dM bs g i)=_;rw[ih oaa,c8 aM g.kids oaa];simp[Ao]
def PN(i1:Nat):bH:=iWr 115 [.pt 0 0,.ag (gCC<|ae g.kids i1)] [.box 50 [.sr 2 1 0 (length<|dM bs g i1)],.dead,.row 5 1 (map u8C<|dM bs g i1),.box 70 (gCC<|ae g.kids i1)] 0 2 4 ((dM bs g i1)++(aM<|ae g.kids i1)) ((length<|dM bs g i1)=length (dM bs g i1)/\((dM bs g i1)++(aM<|ae g.kids i1)).length<=140737488355312/\True)
end
abbrev Ap(bs:lXA)(g:G)(i1:Nat)(y1:lXA):lXE:=[.box 50 [.sr 2 1 0 (length y1)],.dead,.row 5 1 (map u8C y1)]
abbrev vI(bs:lXA)(g:G)(i1:Nat):Am.Loc:=[(0,.pt 0 0),(43,.sl 4 (map gC g.kids)),(44,I (length (map gC g.kids):Int)),(45,I (i1:Int))]
abbrev PO(bs:lXA)(g:G)(i1:Nat):lXE:=Ap bs g i1 (dM bs g i1)
abbrev H4(bs:lXA)(g:G):Am.Loc:=[]
section
variable(bs:lXA)(g:G)
abbrev H5:lXE:=[.box 50 [.sr 2 1 0 (length<|dM bs g<|length g.kids)],.dead,.row 5 1 (map u8C<|dM bs g<|length g.kids)]
def sB:KB:=noK 1 (vI bs g) (PO bs g) (.exit 1) (H4 bs g) (H5 bs g) (True)
abbrev PQ(i1:Nat):List bf:=[nxW (false) (vI bs g<|i1+1) (PO bs g<|i1+1) (vI bs g<|i1+1) [0,1,4] (Ap bs g (i1+1)<|(dM bs g i1)++(aM<|ae g.kids i1))]
def Lq(ls:length g.kids<=9223372036854775807)(hn:RN g.n)(hL:(bs++aM g).length<=140737488355312)(hK: ∀x∈G.kids g,∀bs:lXA,(bs++aM x).length<=140737488355312->ga 115 [.pt 0 0,.ag (gCC x)] bs (bs++aM x)):cx pg 53 2 1 (.loop PL) (sB bs g):=
 noB (PQ bs g) (λi1=>(.r [.k,bT]<|.yes<|.r [.row (gCC<|ae g.kids i1),bT]<|.r [.bG 0 [],bT]<|zCQ i1)) (range 3) zE (length g.kids)
 (λ_ i1(hx1:i1<(length g.kids))=>have hL2:bs.length+(ai<|wrap .i64 g.op).length+(opF g).length+(g.kids.flatMap aM).length<=140737488355312:=oav;have p4:=EU hn;have p5:(ay aM g.kids).length=(ai ((g.kids.length:Nat):Int)).length+(g.kids.flatMap aM).length:=oaS;have ha:=PM bs g i1 (agx hx1);have hfl:=fL aM g.kids hx1;have ha2:length (dM bs g i1)=bs.length+(ai<|wrap .i64 g.op).length+(opW g).length+(List.flatMap aM<|List.take i1 g.kids).length:=oak;have l1:=aL gC (g.kids);have hb:(decide<|(i1:Int)<(length (map gC g.kids):Int))=true:=afT oaa;
 bB (an (a1 a0)<|an hb<|an (ac (iP g.kids i1) a0)<|an (ac (qWd<|PN bs g i1) a0)<|an (ac (dwo ((i1+1:Nat):Int)) a0)<|lf (wy (PQ bs g i1) 0) 5<|nxP (λ_=>vI bs g<|i1+1) (Ap bs g<|i1+1) rfl<|show dM bs g (i1+1)=((dM bs g i1)++(aM<|ae g.kids i1))from rfl)
 oab)
 (λ_=>have hL2:bs.length+(ai<|wrap .i64 g.op).length+(opF g).length+(g.kids.flatMap aM).length<=140737488355312:=oav;have p4:=EU hn;have p5:(ay aM g.kids).length=(ai ((g.kids.length:Nat):Int)).length+(g.kids.flatMap aM).length:=oaS;have l1:=aL gC (g.kids);have hb:(zAA g)=false:=afU oaa;
 bB (an (a1 a0)<|an hb<|lx (.exit 1) (H4 bs g) (range 3) (H5 bs g) 3)
 oab) (callf:=λi1=>(cz [PN bs g i1] base)) (hc:=λ_ i1 hx1=>(bC (.cons (ft λc=>⟨c.1,hK _ (aw hx1) (dM bs g i1) c.2.1⟩) dg.nil) aE))
def H6:Nat×lXA:=(bif mU bs g then(length (gU bs g),(gU bs g))else(length (dM bs g<|length g.kids),(dM bs g<|length g.kids)))
end
def Zt(y:Nat×lXA):Am.Loc:=[]
def tI(bs:lXA)(g:G)(y:Nat×lXA):lXE:=(zL y)
def Zu(bs:lXA)(g:G):List ((Nat×lXA)×AX×lXC):=[((length (gU bs g),(gU bs g)),.ret,[0,1,2]),((length (dM bs g<|length g.kids),(dM bs g<|length g.kids)),.normal,[0,1,2])]
def Zv(bs:lXA)(g:G):List bf:=((Zu bs g).map λw=>(⟨H6 bs g=w.1,w.2.1,Zt w.1,w.2.2,tI bs g w.1⟩:bf))
def pc:di [0,1] (aG 115)=[(0,EV),(1,.loop PL)]:=by kernel_rfl
def abI(bs:lXA)(g:G)(ls:length g.kids<=9223372036854775807)(hn:RN g.n)(hL:(bs++aM g).length<=140737488355312)(hK: ∀x∈G.kids g,∀bs:lXA,(bs++aM x).length<=140737488355312->ga 115 [.pt 0 0,.ag (gCC x)] bs (bs++aM x)):aY pg 115 [.pt 0 0,.ag (gCC g)] (zC bs) [] (.tu []) (tI bs g<|H6 bs g):=have hL2:bs.length+(ai<|wrap .i64 g.op).length+(opF g).length+(g.kids.flatMap aM).length<=140737488355312:=oav;have p4:=EU hn;have p5:(ay aM g.kids).length=(ai ((g.kids.length:Nat):Int)).length+(g.kids.flatMap aM).length:=oaS;cZ (ob0:=(zC bs)) (fn:=Tryz.f115) (callf:=(cz [PH bs g] base)) (pu:=cU) (lf:=3000) (l:=[(0,sA bs g),(1,sB bs g)]) (t:=(.r [bT]<|.r [.bG 0 [],bT]<|.r [bT]<|.br (.pick 0)<|.r [bT]<|.no<|.pick 1)) (bC (.cons (ft λc=>⟨c.1,cN bs (wrap .i64 g.op) c.2.1⟩) dg.nil) aE) mixed Tryz.func115 oab (show Tryz.f115.body=some (aG 115) by kernel_rfl) (nbl rfl) (bw (l:=[(0,sA bs g),(1,sB bs g)]) pc (aK (Lp bs g ls hn hL hK) rfl<|aK (Lq bs g ls hn hL hK) rfl aU) rfl) rfl Zt (tI bs g) (H6 bs g) (Zu bs g) (nbl rfl) rfl (by simp[tI,Ob.und,AV.und,bx,bj cn]) (bB (an a0<|an (ac (qWd<|PH bs g) a0)<|an a0<|an (kbT (sA bs g) trivial)<|brP (λ(h0:(mU bs g)=true)=>(lf (wy (Zv bs g) 0) 3<|cdT h0 rfl))<|λh0=>(an a0<|an (kbT (sB bs g) trivial)<|an (rfl:false=false)<|lf (wy (Zv bs g) 1) 3<|cdF h0 rfl)) oab) (fa1 (.inr rfl)<|fa1 (.inl rfl) fa0) (fa1 (bV rfl rfl rfl rfl<|by simp[tI,plS,plO,AV.pure,aj,ak])<|fa1 (bV rfl rfl rfl rfl<|by simp[tI,plS,plO,AV.pure,aj,ak]) fa0) rfl
mutual
def u7:G->Prop
 | .mk _ n _ l=>RN n/\Aq l
def Aq:List G->Prop
 |[]=>True
 |g::l=>u7 g/\Aq l
end
def CG: ∀{l:List G},Aq l-> ∀u∈l,u7 u
 |[],_,u,h=>by simp at h
 |g::l,h,u,hu=>by
  simp only[Aq]at h;rcases agq.1 hu with rfl|hu
  ·exact h.1
  ·exact CG h.2 u hu
def H7: ∀g:G,dV g->u7 g-> ∀bs:lXA,(bs++aM g).length<=140737488355312->ga 115 [.pt 0 0,.ag (gCC g)] bs (bs++aM g):=G.xB λo n s l ih hf hn bs hL=>by
 simp only[u7]at hn;have h:=abI bs (.mk o n s l) hf.len hn.1 hL λu hu=>ih u hu (hf.kids u hu) (CG hn.2 u hu);have e:H6 bs (.mk o n s l)=((bs++aM (.mk o n s l)).length,bs++aM (.mk o n s l)):=by unfold H6;rw[PM bs _ _ (afP _),agj,abH,ae8,Zr (show RN (G.n<|.mk o n s l)from hn.1),fF];simp only[opF,ay];cases (G.mk o n s l).op==8<;>cases (G.mk o n s l).op==9<;>cases (G.mk o n s l).op==3<;>cases (G.mk o n s l).op==4<;>simp
 rw[e]at h;exact h
end Go.Proofs.YtfkjfjalecikkaaGreat
end
