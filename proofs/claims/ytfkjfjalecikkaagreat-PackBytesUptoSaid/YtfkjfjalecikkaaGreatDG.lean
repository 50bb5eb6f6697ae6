/- Can each state come to its rule's end? Words 2 and 3 make a net well; graphs of free edges and calls. Which nets may be. Rings (the program's). Three colours find the rings. Which rules may take nothing: both answers are the same. Each state comes to its rule's end: both answers are the same. A search with a pile. Rings of free edges: both answers are the same. -/
import Derived.Test.YtfkjfjalecikkaaGreatDF
set_option linter.defProp false
open Go.IntKind (wrap)
noncomputable section
open List (length map range replicate)
set_option maxRecDepth 100000
namespace Go.Proofs.YtfkjfjalecikkaaGreat
open Go.Am
def acK:Code:=bD 0 (aG 112)
abbrev XZ(l:lXB)(i0:Nat):Am.Loc:=[(0,.sl 1 (map aA l)),(1,B false),(7,I (length (map aA l):Int)),(8,I (i0:Int))]
abbrev X0(l:lXB)(i0:Nat):lXE:=[]
def rS(l:lXB)(i0:Nat):Bool:=(false==(ae l i0))
def Ez(l:lXB):Bool:=dA (length l) (rS l)
abbrev X1(l:lXB)(i0:Nat):Am.Loc:=[(4,I (i0:Int))]
abbrev X2(l:lXB)(i0:Nat):lXE:=[]
abbrev X3(l:lXB):Am.Loc:=[]
abbrev X4(l:lXB):lXE:=[]
def Kx(l:lXB):KB:=anK 0 (length l) (rS l) (XZ l) (X0 l) .ret (X1 l) (X2 l) (.exit 0) (X3 l) (X4 l) (True)
abbrev X5(l:lXB)(i0:Nat):List bf:=[htW (rS l i0) .ret (X1 l i0) zb (X2 l i0),nxW (rS l i0) (XZ l<|i0+1) (X0 l<|i0+1) (XZ l<|i0+1) zb (X0 l<|i0+1)]
def X6(l:lXB)(ls:length l<=9223372036854775807):cx pg 19 0 0 (.loop acK) (Kx l):=
 anB (X5 l) (λi0=>(.r [.k,bT]<|.yes<|.r [bT]<|.r [.row (aA<|ae l i0),.k,bT]<|.br zB<|zD i0)) (range 0) zE
 (λ_ i0(hx0:i0<(length l))=>have l1:=aL aA (l);have hb:(decide<|(i0:Int)<(length (map aA l):Int))=true:=afT oaa;
 bB (an (a1 a0)<|an hb<|an a0<|an (a1<|ac (rwa aA l i0) a0)<|brP (λ(h1:(false==(ae l i0))=true)=>(an a0<|lf (wy (X5 l i0) 0) 0<|show rS l i0=true from h1))<|λh1=>(an (ac (dwo ((i0+1:Nat):Int)) a0)<|lf (wy (X5 l i0) 1) 0 ⟨(show rS l i0=false from h1),rfl,rfl⟩))
 oab)
 (λ_=>have l1:=aL aA (l);have hb:(decide<|(((length l):Nat):Int)<(length (map aA l):Int))=false:=afU oaa;
 bB (an (a1 a0)<|an hb<|lx (.exit 0) (X3 l) (range 0) (X4 l) 0)
 oab)
def r90(l:lXB):Int:=(bif Ez l then(((lB (length l)<|rS l):Nat):Int)else(-1))
def uX:di [0] (aG 112)=[(0,.loop acK)]:=by kernel_rfl
section
variable(l:lXB)
def idx90(ls:length l<=9223372036854775807):aY pg 112 [.sl 1 (map aA l),B false] [] [] (I<|r90 l) []:=
 aV 112 zf
 (an a0<|an a0<|an (kbT (Kx l) trivial)<|brP (λ(h0:(Ez l)=true)=>(iE<|show r90 l=_ from(cdT h0 rfl)))<|λh0=>(an a0<|iE<|show r90 l=_ from(cdF h0 rfl))) (hk:=(bw (l:=[(0,Kx l)]) uX (aK (X6 l ls) rfl aU) rfl))
def i90:cj:=⟨112,[.sl 1 (l.map aA),B false],I (r90 l),l.length<=9223372036854775807⟩
def g90:(i90 l).bS pg:=da λhp=>idx90 l hp
def r65:Bool:=decide ((r90 l)>=0)
def Ky(ls:length l<=9223372036854775807):aY pg 79 [.sl 1 (map aA l),B false] [] [] (B<|r65 l) []:=
 aV 79 zBW
 (an a0<|an (a1<|cA (g90 l) ls a0)<|bE<|show r65 l=(decide<|(r90 l)>=0)from rfl) (hc:=(bn (.cons (g90 l) rfl cy.nil) aE))
def i65(k:Nat):m9:=⟨79,[.sr 0 1 0 k,B false],[.row 4 1 (l.map aA)],B (r65 l),l.length=k/\l.length<=9223372036854775807⟩
theorem g65(k:Nat):(i65 l k).bS pg:=λhp=>by have hp:l.length=k/\l.length<=9223372036854775807:=hp;refine kR rfl (Jp (X:= .row 4 1<|l.map aA) (.inl ⟨_,_,_,rfl⟩) (jv.cons (Frz.sr0 rfl<|by simp[hp.1])<|jv.cons (Frz.same _) jv.nil) ?_ (Ky l hp.2));simp[aj,AV.pure]
end
theorem iF{α:Type}[Inhabited α](G:List α)(j t:Nat)(x:α)(hj:j<G.length):ae (G.set j x) t=if t=j then x else ae G t:=by grind[ae]
section
variable{step:Nat->Nat->List lXA->List lXA}{len:Nat->Nat}{to:Nat->Nat->Nat}{xs:Nat->Nat->lXA}{N m:Nat}
theorem NI(h: ∀i k G,i<m->k<len i->step i k G=G.set (to i k) (ae G (to i k)++xs i k)){i:Nat}(hi:i<m)(G:List lXA)(k:Nat)(hk:k<=len i):(inF step i G k).length=G.length:=by
 induction k with
 |zero=>rfl
 |succ k ih=>grind[inF]
theorem ye(h: ∀i k G,i<m->k<len i->step i k G=G.set (to i k) (ae G (to i k)++xs i k))(G:List lXA)(i:Nat)(hi:i<=m):(im step len G i).length=G.length:=by
 induction i with
 |zero=>rfl
 |succ i ih=>show(inF step i (im step len G i)<|len i).length=_;rw[NI h oaa _ _ (afP _),ih oaa]
theorem abi(h: ∀i k G,i<m->k<len i->step i k G=G.set (to i k) (ae G (to i k)++xs i k))(ht: ∀i k,i<m->k<len i->to i k<N){i:Nat}(hi:i<m)(G:List lXA)(hG:G.length=N)(k:Nat)(hk:k<=len i)(t:Nat)(c:Int):c∈ae (inF step i G k) t↔c∈ae G t\/ ∃q,q<k/\to i q=t/\c∈xs i q:=by
 induction k with
 |zero=>exact⟨.inl,λh=>h.elim id oaa⟩
 |succ k ih=>show c∈ae (step i k<|inF step i G k) t↔_;rw[h i k _ hi oaa,iF _ _ _ _ (by rw[NI h hi G k oaa,hG];exact ht i k hi oaa)];grind
theorem GZ(h: ∀i k G,i<m->k<len i->step i k G=G.set (to i k) (ae G (to i k)++xs i k))(ht: ∀i k,i<m->k<len i->to i k<N)(i:Nat)(hi:i<=m)(t:Nat)(c:Int):c∈ae (im step len (replicate N []) i) t↔ ∃p,p<i/\ ∃q,q<len p/\to p q=t/\c∈xs p q:=by
 induction i with
 |zero=>
  constructor
  ·intro hc;have hc:c∈ae (replicate N ([]:lXA)) t:=hc;unfold ae at hc;rw[ago]at hc;split at hc<;>exact absurd hc (by simp[default])
  ·rintro⟨p,hp,_⟩;omega
 |succ i ih=>show c∈ae (inF step i (im step len (replicate N []) i)<|len i) t↔_;rw[abi h ht oaa _ (by rw[ye h _ i oaa];simp) _ (afP _),ih oaa];grind
end
section
variable(n:Net)
def X7(i k:Nat)(G:List lXA):List lXA:=List.set G (ae (ae n.aa i).ah k).to.toNat (ae G (ae (ae n.aa i).ah k).to.toNat++ [((i:Nat):Int)])
noncomputable def rT:List lXA:=im (X7 n) (λi=>(ae n.aa i).ah.length) (replicate n.aa.length []) n.aa.length
noncomputable def ij:List lXC:=(rT n).map (map Int.toNat)
theorem Cn:(rT n).length=n.aa.length:=by unfold rT;rw[ye (step:=X7 n) (m:=n.aa.length) (to:=λi k=>(ae (ae n.aa i).ah k).to.toNat) (xs:=λi _=>[((i:Nat):Int)]) (λi k G _ _=>rfl) _ _ (afP _)];simp
theorem me:(ij n).length=n.aa.length:=by rw[ij,afW,Cn]
end
theorem tz{n:Net}(hn:rH n)(t:Nat)(c:Int):c∈ae (rT n) t↔ ∃p,p<n.aa.length/\(∃e∈(ae n.aa p).ah,e.to.toNat=t)/\c=(p:Nat):=by unfold rT;rw[GZ (step:=X7 n) (m:=n.aa.length) (to:=λi k=>(ae (ae n.aa i).ah k).to.toNat) (xs:=λi _=>[((i:Nat):Int)]) (λi k G _ _=>rfl) (λi k hi hk=>by have:=hn _ (aw hi) _ (aw hk);omega) _ (afP _)];grind[aw,bZ]
def qk(G:List lXA)(h: ∀R∈G,∀c∈R,0<=c):G.map (λl=>[AV.sl 1 (l.map ba)])=(G.map<|map Int.toNat).map bJ:=by grind[agU,bJ,ba,dk]
theorem Co{n:Net}(hn:rH n)(t c:Nat):Edg (ij n) t c↔c<n.aa.length/\ ∃e∈(ae n.aa c).ah,e.to.toNat=t:=by
 have e:ae (ij n) t=(ae (rT n) t).map Int.toNat:=by unfold ij ae;rw[afY];cases (rT n)[t]? <;>rfl
 unfold Edg;rw[e,agm];constructor
 ·grind[tz]
 ·rintro⟨h1,h2⟩;exact⟨(c:Nat),(tz hn t _).2 ⟨c,h1,h2,rfl⟩,by simp⟩
def X8{n:Net}(hn:rH n):Wf (ij n):=λR hR c hc=>by obtain⟨t,ht,rfl⟩:=bZ hR;rw[me];exact((Co hn t c).1 hc).1
noncomputable def gw(n:Net)(x:Int):lXB:=kC (ij n) x.toNat
theorem mf(n:Net)(x:Int):(gw n x).length=n.aa.length:=by simp[gw,kC,me]
def RO{step:Nat->Nat->List lXA->List lXA}{to:Nat->Nat->Nat}{x:Nat->Nat->Int}{i:Nat}(h: ∀k G,step i k G=G.set (to i k) (ae G (to i k)++ [x i k])){b:Nat}(G:List lXA)(hG: ∀R∈G,R.length<=b)(k:Nat): ∀R∈inF step i G k,R.length<=b+k:=by
 induction k with
 |zero=>exact hG
 |succ k ih=>
  show∀R∈step i k (inF step i G k),_;rw[h];intro R hR;rcases List.mem_or_eq_of_mem_set hR with h2|rfl
  ·have:=ih R h2;omega
  ·rw[afQ];by_cases ht:to i k<(inF step i G k).length
   ·grind[aw]
   ·rw[ae,agh oaa];show 0+1<=_;omega
theorem abj{n:Net}(_hn:cg n)(hf:ck n): ∀R∈rT n,R.length<=1000000000000:=by
 have key: ∀i,i<=n.aa.length-> ∀R∈im (X7 n) (λi=>(ae n.aa i).ah.length) (replicate n.aa.length []) i,R.length<=i*1000000:=λi=>by
  induction i with
  |zero=>intro _ R hR;rw[(List.mem_replicate.1<|show R∈replicate n.aa.length []from hR).2];exact agn _
  |succ i ih=>intro hi R hR;have:R.length<=i*1000000+(ae n.aa i).ah.length:=RO (step:=X7 n) (to:=λi k=>(ae (ae n.aa i).ah k).to.toNat) (x:=λi _=>((i:Nat):Int)) (i:=i) (λk G=>rfl) _ (ih oaa) _ R hR;have he:=hf.ah _ (aw<|show i<n.aa.length by omega);omega
 intro R hR;have:=key _ (afP _) R hR;have:=hf.aa;omega
def rowB{n:Net}(hn:cg n)(hf:ck n): ∀R∈ij n,R.length<=9223372036854775807:=λR hR=>by obtain⟨R',hR',rfl⟩:=agm.1 hR;grind[abj]
def abk{n:Net}(hn:cg n)(hf:ck n)(x:Int)(hx:0<=x/\x<(n.aa.length:Int)):aY pg 78 [.sl 1 ((ij n).map bJ),I x] [] [] (.sl 1<|(gw n x).map aA) []:=by have h:=Wo (ij n) x.toNat (by rw[me];omega) (X8 hn.to) (by rw[me];exact hf.aa) (rowB hn hf);rw[show((x.toNat:Nat):Int)=x by omega]at h;exact h
def i59b(n:Net)(x:Int):cj:=⟨78,[.sl 1 ((ij n).map bJ),I x],.sl 1 ((gw n x).map aA),cg n/\ck n/\0<=x/\x<(n.aa.length:Int)⟩
def g59b(n:Net)(x:Int):(i59b n x).bS pg:=da λhp=>abk hp.1 hp.2.1 x hp.2.2
def jK:Code:=bD 0 (aG 48)
def NJ:Code:=bD 2 jK
theorem X9:jK= .seq (sq1 jK) (.seq (sq1<|sq2 jK)<|.seq (.block 1<|.seq (sq1<|uV<|sq1<|sq2<|sq2 jK)<|.seq (sq1<|sq2<|uV<|sq1<|sq2<|sq2 jK)<|.block 2<|.loop NJ)<|sq2<|sq2<|sq2 jK):=by kernel_rfl
abbrev zAY(i0:Nat)(n:Net):Am.Loc:=[(0,.pf (bA n)),(3,.sr 0 1 0 (length<|zA n)),(22,.sl 2 (zA n)),(23,I (length (zA n):Int)),(24,I (i0:Int))]
abbrev zAx(i0:Nat)(n:Net):Am.Loc:=[(0,.pf (bA n)),(3,.sr 0 1 0 (length<|zA n)),(22,.sl 2 (zA n)),(23,I (length (zA n):Int)),(24,I (i0:Int)),(25,B (decide<|(i0:Int)<(length (zA n):Int)))]
def ad4(n:Net)(i0:Nat)(hn:cg n)(hf:ck n)(hx0:i0<length n.aa)(ob:lXE):bo pg 94 0 (sq1 jK) (zAY i0 n) ob .normal (zAx i0 n) ob:=bW [3] oab rfl oae oac λv=>pvB zAs [] 0 λz=>(an (a1 a0) z)
abbrev zBh(i0:Nat)(n:Net):Am.Loc:=[(0,.pf (bA n)),(3,.sr 0 1 0 (length<|zA n)),(22,.sl 2 (zA n)),(23,I (length (zA n):Int)),(24,I (i0:Int)),(25,B true)]
def ad5(n:Net)(i0:Nat)(hn:cg n)(hf:ck n)(hx0:i0<length n.aa)(ob:lXE):bo pg 94 0 (sq1<|sq2 jK) (zAx i0 n) ob .normal (zBh i0 n) ob:=bW [3] oab rfl oae oac λv=>pvB (.yes<|.pick 0) [] 0 λz=>have hr:=hf.rules;have hs:=hf.aa;have hed:=hf.ah _ (aw hx0);have l1:=aL aq (n.aa);have hb:(zw i0 n)=true:=afT oaa;(an hb z)
abbrev zAZ(i0:Nat)(n:Net):Am.Loc:=[(0,.pf (bA n)),(3,.sr 0 1 0 (length<|zA n)),(4,I (i0:Int)),(5,.pf (zm i0 n)),(22,.sl 2 (zA n)),(23,I (length (zA n):Int)),(24,I (i0:Int)),(25,B true),(26,I (i0:Int)),(27,.pf (zm i0 n)),(28,.ag (zm i0 n))]
section
variable(n:Net)(i0:Nat)
def ad6(hn:cg n)(hf:ck n)(hx0:i0<length n.aa)(ob:lXE):bo pg 94 0 (sq1<|uV<|sq1<|sq2<|sq2 jK) (zBh i0 n) ob .normal (zAZ i0 n) ob:=bW [3] oab rfl oae oac λv=>gq (L:=iR [3] v [(0,.pf (bA n)),(3,.sr 0 1 0 (length<|map aq n.aa)),(22,.sl 2 (map aq n.aa)),(23,I (length (map aq n.aa):Int)),(24,I (i0:Int)),(25,B true)]) (x:= .normal) (L1:=iR [3] v [(0,.pf (bA n)),(3,.sr 0 1 0 (length<|map aq n.aa)),(4,I (i0:Int)),(5,.pt 0 0),(22,.sl 2 (map aq n.aa)),(23,I (length (map aq n.aa):Int)),(24,I (i0:Int)),(25,B true),(26,I (i0:Int)),(27,.pf (aq<|ae n.aa i0)),(28,.ag (aq<|ae n.aa i0))]) (ob1:=[.box 45 (aq<|ae n.aa i0)]) (fH.refl _ _) (pvB (.r (zCk i0 n)<|.pick 0) [0] 1 λz=>have hr:=hf.rules;have hs:=hf.aa;have hed:=hf.ah _ (aw hx0);(an (ac (rwa aq n.aa i0) a0) z)) (s4 (ob:=[]) (Tb:=45) (cells:=(aq<|ae n.aa i0)) (agn _) (L':=iR [3] v [(0,.pf (bA n)),(3,.sr 0 1 0 (length<|map aq n.aa)),(4,I (i0:Int)),(5,.pf (aq<|ae n.aa i0)),(22,.sl 2 (map aq n.aa)),(23,I (length (map aq n.aa):Int)),(24,I (i0:Int)),(25,B true),(26,I (i0:Int)),(27,.pf (aq<|ae n.aa i0)),(28,.ag (aq<|ae n.aa i0))]) oas rfl) rfl
def ad7(hn:cg n)(hf:ck n)(hx0:i0<length n.aa)(ob:lXE):bo pg 94 0 (sq1<|sq2<|uV<|sq1<|sq2<|sq2 jK) (zAZ i0 n) ob .normal [(0,.pf (bA n)),(3,.sr 0 1 0 (length<|zA n)),(4,I (i0:Int)),(22,.sl 2 (zA n)),(23,I (length (zA n):Int)),(24,I (i0:Int)),(30,.sl 10 (zo i0 n)),(31,I (length (zo i0 n):Int)),(32,I 0)] ob:=bW [3] oab rfl oae oac λv=>pvB zB [] 0 λz=>(an a0 z)
def ad8(hn:cg n)(hf:ck n)(hx0:i0<length n.aa)(ob:lXE):bo pg 94 0 NJ [(0,.pf (bA n)),(3,.sr 0 1 0 (length<|zA n)),(4,I (i0:Int)),(22,.sl 2 (zA n)),(23,I (length (zA n):Int)),(24,I (i0:Int)),(30,.sl 10 (zo i0 n)),(31,I (length (zo i0 n):Int)),(32,I (((length<|zG i0 n):Nat):Int))] ob (.exit 2) (zAY i0 n) ob:=bW [3] oab rfl oae oac λv=>pvB zE [] 0 λz=>have hr:=hf.rules;have hs:=hf.aa;have hed:=hf.ah _ (aw hx0);have l1:=aL aQ ((ae n.aa i0).ah);have hb:(zv i0 n)=false:=afU oaa;(an (a1 a0)<|an hb z)
def ad9(hn:cg n)(hf:ck n)(hx0:i0<length n.aa)(ob:lXE):bo pg 94 0 (sq2<|sq2<|sq2 jK) (zAY i0 n) ob .normal [(0,.pf (bA n)),(3,.sr 0 1 0 (length<|zA n)),(22,.sl 2 (zA n)),(23,I (length (zA n):Int)),(24,I ↑(i0+1))] ob:=bW [3] oab rfl oae oac λv=>pvB (zU i0) [] 0 λz=>have hr:=hf.rules;have hs:=hf.aa;have hed:=hf.ah _ (aw hx0);(an (ac (dwo ((i0+1:Nat):Int)) a0) z)
end
abbrev zAw(n:Net):Am.Loc:=[(0,.pf (bA n)),(3,.sr 0 1 0 (length<|zA n)),(22,.sl 2 (zA n)),(23,I (length (zA n):Int)),(24,I ((zBp n):Int)),(25,B (zt n))]
def aea(n:Net)(hn:cg n)(hf:ck n)(ob:lXE):bo pg 94 0 (sq1 jK) [(0,.pf (bA n)),(3,.sr 0 1 0 (length<|zA n)),(22,.sl 2 (zA n)),(23,I (length (zA n):Int)),(24,I ((zBp n):Int))] ob .normal (zAw n) ob:=bW [3] oab rfl oae oac λv=>pvB zAs [] 0 λz=>(an (a1 a0) z)
def aeb(n:Net)(hn:cg n)(hf:ck n)(ob:lXE):bo pg 94 0 (sq1<|sq2 jK) (zAw n) ob (.exit 0) [(0,.pf (bA n)),(3,.sr 0 1 0 (length<|zA n))] ob:=bW [3] oab rfl oae (mqc (.inr ⟨rfl,by simp⟩)<|mqc (.inl ⟨rfl,rfl⟩) bz) λv=>pvB (.no<|.pick 0) [] 0 λz=>have hr:=hf.rules;have hs:=hf.aa;have l1:=aL aq (n.aa);have hb:(zQ n)=false:=afU oaa;(an hb z)
def jU(n:Net)(i0 i2:Nat)(l:lXA):lXA:=l++ [(i0:Int)]
abbrev zAj(i0 i2:Nat)(n:Net):Am.Loc:=[(0,.pf (bA n)),(3,.sr 0 1 0 (length<|zA n)),(4,I (i0:Int)),(22,.sl 2 (zA n)),(23,I (length (zA n):Int)),(24,I (i0:Int)),(30,.sl 10 (zo i0 n)),(31,I (length (zo i0 n):Int)),(32,I ↑(i2+1))]
abbrev zCj(i0 i2:Nat)(n:Net):=(((zAe i0 i2 n).to).toNat)
def rU(n:Net)(i0 i2:Nat)(xs:List Value)(l:lXA):iq:=⟨(jU n i0 i2 l)=(l++ [(i0:Int)]),.normal,(zAj i0 i2 n),[0,3],4,[.row 105 1 (aI<|List.set (vs xs) (zCj i0 i2 n)<|.sr 1 1 0<|length<|l++ [(i0:Int)]),.row 3 1 (map ba<|l++ [(i0:Int)])],[.row 105 1 (aI<|List.set (vs xs) (zCj i0 i2 n)<|.sr 3 1 0<|length<|l++ [(i0:Int)]),.row 3 1 (map ba<|l++ [(i0:Int)])]⟩
abbrev zAn(i0 i2:Nat)(n:Net):Am.Loc:=[(0,.pf (bA n)),(3,.sr 0 1 0 (length<|zA n)),(4,I (i0:Int)),(22,.sl 2 (zA n)),(23,I (length (zA n):Int)),(24,I (i0:Int)),(30,.sl 10 (zo i0 n)),(31,I (length (zo i0 n):Int)),(32,I (i2:Int))]
abbrev zBX(l:lXA):AV:=(.sr 1 1 0<|length l)
section
variable(n:Net)(i0 i2:Nat)(xs:List Value)(l:lXA)
def aec(hn:cg n)(hf:ck n)(hx0:i0<length n.aa)(hx2:i2<length (ae n.aa i0).ah)(hl1:length xs=(length n.aa))(hr1:length l<=i0*1000000+i2):vcC pg 94 base cU 3000 (kbL []) NJ (en<|zAn i0 i2 n) (dZ [.row 105 1 (aI<|List.set (vs xs) (zCj i0 i2 n)<|zBX l),.row 3 1 (map ba l)]) 2 (TF [(rU n i0 i2 xs l)]) (.r [.k,bT]<|.yes<|.r [.row (aQ<|zAe i0 i2 n),bT]<|.r [.bG (zCj i0 i2 n) [],.at (zCj i0 i2 n) 0 [.sr 1 1 0 (length l)],.bG (zCj i0 i2 n) [],.at (zCj i0 i2 n) 0 [.sr 1 1 0 (length l)],bT]<|.r (zi i2)<|.pick 0):=
 have hr:=hf.rules;have hs:=hf.aa;have lms:=aL aq n.aa;have hed:=hf.ah _ (aw hx0);have hto:=hn.to _ (aw hx0) _ (aw hx2);have l1:=aL aQ ((ae n.aa i0).ah);have hb:(zAo i0 i2 n)=true:=afT oaa;
 bB (an (a1 a0)<|an hb<|an (ac (rwa aQ (ae n.aa i0).ah i2) a0)<|an (ac (stN (rfl:(aI<|List.set (vs xs) (((ae (ae n.aa i0).ah i2).to).toNat)<|zBX l)=(aI<|List.set (vs xs) (((ae (ae n.aa i0).ah i2).to).toNat)<|zBX l)) oaa)<|ac (ixI (x:=(ae (ae n.aa i0).ah i2).to) (n:=length<|map aq n.aa) oaa oaa)<|ac (apo (length l) 8<|rl ba l)<|ac (atN (rfl:(aI<|List.set (vs xs) (((ae (ae n.aa i0).ah i2).to).toNat)<|zBX l)=(aI<|List.set (vs xs) (((ae (ae n.aa i0).ah i2).to).toNat)<|zBX l)) oaa)<|ac (ixI (x:=(ae (ae n.aa i0).ah i2).to) (n:=length<|map aq n.aa) oaa oaa) a0)<|an (ac (dwo ((i2+1:Nat):Int)) a0)<|lfN (rU n i0 i2 xs l) (show(jU n i0 i2 l)=(l++ [(i0:Int)])from rfl)<|aW ((af1 (λz=>Ob.row 105 1 z)<|oW (rfl:(aI<|List.set (vs xs) (((ae (ae n.aa i0).ah i2).to).toNat)<|zBX l)=(aI<|List.set (vs xs) (((ae (ae n.aa i0).ah i2).to).toNat)<|zBX l))<|.sr 3 1 0<|length l+1).trans<|af1 (λz=>Ob.row 105 1<|aI<|List.set (vs xs) (((ae (ae n.aa i0).ah i2).to).toNat)<|.sr 3 1 0 z) oaj)<|aW (af1 (λz=>Ob.row 3 1 z)<|apF (f:=ba) (rl ba l) (k:=length l) oad (i0:Int)) ee)
 oab
theorem aed(hn:cg n)(hf:ck n)(hx0:i0<length n.aa)(hx2:i2<length (ae n.aa i0).ah)(hl1:length xs=(length n.aa))(hr1:length l<=i0*1000000+i2):bo pg 94 1 NJ (zAn i0 i2 n) [.row 105 1 (aI<|List.set (vs xs) (zCj i0 i2 n)<|zBX l),.row 3 1 (map ba l)] .normal (zAj i0 i2 n) [.row 105 1 (aI<|List.set (vs xs) (zCj i0 i2 n)<|.sr 1 1 0<|length<|jU n i0 i2 l),.row 3 1 (map ba<|jU n i0 i2 l)]:=Ju (gp aE mixed<|bq _) (aec n i0 i2 xs l hn hf hx0 hx2 hl1 hr1) (eP (o:=(rU n i0 i2 xs l)) (nS rfl rfl rfl (by simp[rU,plS,AV.pure,aj,ak])<|aW ((ff (f:=(bM [0,3] 4)) (o:=1) (q:=3) rfl).symm)<|aW ((cv<|gv _).symm) ee) s5) (fE (o:=(rU n i0 i2 xs l)) (λh=>⟨rfl,rfl,(af1 (λz1=>([.row 105 1 (aI<|List.set (vs xs) (((ae (ae n.aa i0).ah i2).to).toNat)<|.sr 1 1 0<|length z1),.row 3 1 (map ba z1)]:lXE)) h).symm⟩) xw)
end
def Kz(n:Net):KB:=⟨[(0,.pf (bA n)),(3,.sr 0 1 0 (length<|zA n)),(22,.sl 2 (zA n)),(23,I (length (zA n):Int)),(24,I 0)],[.row 105 1 (replicate (length<|zA n) [.v (.slice none 0 0)])],false,.ret,[],[],.normal,[(0,.pf (bA n)),(3,.sl 1 (map bJ<|ij n))],[],True⟩
def Ya(n:Net)(hn:cg n)(hf:ck n):cx pg 94 0 0 (.loop jK) (Kz n):=by
 skip;have hl:=pZ (P:=Tryz.prog) (n:=94) (K:=0) (d:=1) (S:=λG=>[]++cE 0 105 3 (gV G)) (m:=length n.aa) (len:=λi0=>length (ae n.aa i0).ah) (step:=λi0 i2 G=>List.set G (Int.toNat (ae (ae n.aa i0).ah i2).to)<|jU n i0 i2<|ae G<|Int.toNat (ae (ae n.aa i0).ah i2).to) (I:=λi k G=>G.length=length n.aa/\ ∀l∈G,l.length<=i*1000000+k) (s0:=replicate (length<|map aq n.aa) [])
  (λi0 hx ob=>ad4 n i0 hn hf hx ob) (λi0 hx ob=>ad5 n i0 hn hf hx ob) (λi0 hx ob=>ad6 n i0 hn hf hx ob) (λi0 hx ob=>ad7 n i0 hn hf hx ob)
  (λi0 i2 G hx0 hx2 hI=>⟨pin1 (base:=[]) oaR oab rfl (mqc (aT _ _ oag)<|mqc rfl<|mqc (aT _ _ oag)<|mqc (aT _ _ oag)<|mqc (aT _ _ oag)<|mqc (aT _ _ oag)<|mqc (aT _ _ oag)<|mqc (aT _ _ oag)<|mqc (aT _ _ oag) bz) (mqc (aT _ _ oag)<|mqc rfl<|mqc (aT _ _ oag)<|mqc (aT _ _ oag)<|mqc (aT _ _ oag)<|mqc (aT _ _ oag)<|mqc (aT _ _ oag)<|mqc (aT _ _ oag)<|mqc (aT _ _ oag) bz) oaH bz (λxs hxs=>aed n i0 i2 xs (ae G<|Int.toNat (ae (ae n.aa i0).ah i2).to) hn hf hx0 hx2 (hxs.trans hI.1)<|hI.2 _<|aw oaR),vu hI oaa (by have hgl:=(show(jU n i0 i2<|ae G<|Int.toNat (ae (ae n.aa i0).ah i2).to).length<=(ae G<|Int.toNat (ae (ae n.aa i0).ah i2).to).length+1 by unfold jU;rw[afQ];exact afP _);have hgm:=hI.2 _ (aw (i:=(Int.toNat (ae (ae n.aa i0).ah i2).to)) oaR);omega)⟩)
  (λi0 hx ob=>ad8 n i0 hn hf hx ob) (λi0 hx ob=>ad9 n i0 hn hf hx ob) (λob=>aea n hn hf ob) (λob=>aeb n hn hf ob)
  ⟨by simp,vv _⟩ (λi G hi hI=>⟨hI.1,λl hl=>agu (hI.2 l hl) oaX⟩)
 rw[<-X9]at hl;have hG:aI (jI<|gV<|im (λi0 i2 G=>List.set G (Int.toNat (ae (ae n.aa i0).ah i2).to)<|jU n i0 i2<|ae G<|Int.toNat (ae (ae n.aa i0).ah i2).to) (λi0=>length (ae n.aa i0).ah) (replicate (length<|map aq n.aa) [])<|length n.aa)=map bJ (ij n):=by rw[aL];show aI (jI<|gV<|rT n)=_;rw[rN,ij];exact qk _ λR hR c hc=>by obtain⟨t,_,rfl⟩:=bZ hR;obtain⟨p,_,_,rfl⟩:=(tz hn.to t c).1 hc;omega
 have hlen:length (im (λi0 i2 G=>List.set G (Int.toNat (ae (ae n.aa i0).ah i2).to)<|jU n i0 i2<|ae G<|Int.toNat (ae (ae n.aa i0).ah i2).to) (λi0=>length (ae n.aa i0).ah) (replicate (length<|map aq n.aa) [])<|length n.aa)=length (map aq n.aa):=by rw[aL];exact(Cn n)
 exact Ck (base:=[]) hl oaH hG (mqc (.inl ⟨rfl,(aT _ _ oag)⟩)<|mqc (.inr ⟨by rw[hlen];rfl,rfl⟩) bz)
def NK:Code:=bD 4 (aG 48)
def acL:Code:=bD 6 NK
section
variable(n:Net)(i4:Nat)
def yf(y4:lXB)(i6:Nat)(y6:lXB):lXB:=(bif (ae y6 i6)then List.set y6 i6 true else List.set y6 i6<|ae (gw n (ae n.rules i4).stop) i6)
def dT(y4:lXB)(kk:Nat):lXB:=Nat.rec (motive:=λ_=>lXB) (List.set y4 (((ae n.rules i4).stop).toNat) true) (λj a=>yf n i4 y4 j a) kk
theorem EA(y4:lXB)(i:Nat):length (dT n i4 y4 i)=length y4:=by
 induction i with
 |zero=>show(List.set _ _ _).length=_;simp
 |succ i ih=>grind[yf,dT]
abbrev yg(y4:lXB)(i6:Nat)(y6:lXB):lXE:=[.row 4 1 (map aA y6),.box 56 (aC<|ae n.rules i4)]
end
abbrev zCg(i4:Nat)(n:Net):=(gw n (ae n.rules i4).stop)
abbrev yh(n:Net)(i4:Nat)(y4:lXB)(i6:Nat):Am.Loc:=[(3,.sl 1 (map bJ<|ij n)),(8,.sr 0 1 0 (length<|zA n)),(59,.sl 9 (zH n)),(60,I (length (zH n):Int)),(61,I (i4:Int)),(72,.sl 1 (map aA<|zCg i4 n)),(73,I (length (map aA<|zCg i4 n):Int)),(74,I (i6:Int))]
abbrev Yb(n:Net)(i4:Nat)(y4:lXB)(i6:Nat):lXE:=yg n i4 y4 i6 (dT n i4 y4 i6)
abbrev zBb(i4:Nat)(n:Net):Am.Loc:=[(3,.sl 1 (map bJ<|ij n)),(8,.sr 0 1 0 (length<|zA n)),(59,.sl 9 (zH n)),(60,I (length (zH n):Int)),(61,I (i4:Int))]
section
variable(n:Net)(i4:Nat)
abbrev Yc(y4:lXB):Am.Loc:=(zBb i4 n)
section
variable(y4:lXB)
abbrev Yd:lXE:=[.row 4 1 (map aA<|dT n i4 y4<|length<|zCg i4 n),.box 56 (aC<|ae n.rules i4)]
def EB:KB:=noK 6 (yh n i4 y4) (Yb n i4 y4) (.exit 6) (Yc n i4 y4) (Yd n i4 y4) (True)
abbrev Ye(i6:Nat):List bf:=[nxW (false) (yh n i4 y4<|i6+1) (Yb n i4 y4<|i6+1) (yh n i4 y4<|i6+1) zBc (yg n i4 y4 (i6+1)<|List.set (dT n i4 y4 i6) i6 true),nxW (false) (yh n i4 y4<|i6+1) (Yb n i4 y4<|i6+1) (yh n i4 y4<|i6+1) zBc (yg n i4 y4 (i6+1)<|List.set (dT n i4 y4 i6) i6<|ae (zCg i4 n) i6)]
def Yf(hn:cg n)(hf:ck n)(hx4:i4<(length n.rules))(hy4:length y4=length n.aa):cx pg 94 0 6 (.loop acL) (EB n i4 y4):=
 noB (Ye n i4 y4) (λi6=>(.r [.k,bT]<|.yes<|.r [.row (aA<|ae (gw n (ae n.rules i4).stop) i6),bT]<|.a (.r [.at i6 0 (aA<|ae (dT n i4 y4 i6) i6),bF,.at i6 0 (aA<|ae (dT n i4 y4 i6) i6),bT]<|.r (zAy i6)<|.pick 0)<|.r [.at i6 0 (aA<|ae (dT n i4 y4 i6) i6),bT,.at i6 0 (aA<|ae (dT n i4 y4 i6) i6),bT]<|.r (zAy i6)<|.pick 1)) (range 2) zE (length<|gw n (ae n.rules i4).stop)
 (λ_ i6(hx6:i6<(length<|gw n (ae n.rules i4).stop))=>have hr:=hf.rules;have hs:=hf.aa;have hgl:=(EA n i4 y4 i6).trans hy4;have hbl:=mf n (ae n.rules i4).stop;have lbb:=aL aA (gw n (ae n.rules i4).stop);have lms:=aL aq n.aa;have l1:=aL aA ((gw n (ae n.rules i4).stop));have hb:(decide<|(i6:Int)<(length (map aA<|gw n (ae n.rules i4).stop):Int))=true:=afT oaa;
 bB (an (a1 a0)<|an hb<|an (ac (rwa aA (gw n (ae n.rules i4).stop) i6) a0)<|aO (λ(h1:((ae (dT n i4 y4 i6) i6))=true)=>(an (ac (sto 1 0 1 i6<|rl aA<|dT n i4 y4 i6)<|ac (ixo i6<|length<|map aq n.aa)<|ac (n2 h1)<|ac (ato 1 0 i6<|rl aA<|dT n i4 y4 i6)<|ac (ixo i6<|length<|map aq n.aa) a0)<|an (ac (dwo ((i6+1:Nat):Int)) a0)<|lfE (wy (Ye n i4 y4 i6) 0) 2 (nxP (λ_=>yh n i4 y4<|i6+1) (yg n i4 y4<|i6+1) rfl<|show dT n i4 y4 (i6+1)=_ from(cdT h1 rfl))<|aW (af1 (λz=>Ob.row 4 1 z)<|l6 (f:=aA) (rl aA<|dT n i4 y4 i6) i6 true)<|aW (rfl:(.box 56 (aC<|ae n.rules i4):Ob)= .box 56 (aC<|ae n.rules i4)) ee))<|λh1=>(an (ac (sto 1 0 1 i6<|rl aA<|dT n i4 y4 i6)<|ac (ixo i6<|length<|map aq n.aa)<|ac (au h1)<|ac (ato 1 0 i6<|rl aA<|dT n i4 y4 i6)<|ac (ixo i6<|length<|map aq n.aa) a0)<|an (ac (dwo ((i6+1:Nat):Int)) a0)<|lfE (wy (Ye n i4 y4 i6) 1) 2 (nxP (λ_=>yh n i4 y4<|i6+1) (yg n i4 y4<|i6+1) rfl<|show dT n i4 y4 (i6+1)=_ from(cdF h1 rfl))<|aW (af1 (λz=>Ob.row 4 1 z)<|l6 (f:=aA) (rl aA<|dT n i4 y4 i6) i6<|ae (gw n (ae n.rules i4).stop) i6)<|aW (rfl:(.box 56 (aC<|ae n.rules i4):Ob)= .box 56 (aC<|ae n.rules i4)) ee))
 oab)
 (λ_=>have hr:=hf.rules;have hs:=hf.aa;have hbl:=mf n (ae n.rules i4).stop;have l1:=aL aA ((gw n (ae n.rules i4).stop));have hb:(decide<|(((length<|gw n (ae n.rules i4).stop):Nat):Int)<(length (map aA<|gw n (ae n.rules i4).stop):Int))=false:=afU oaa;
 bB (an (a1 a0)<|an hb<|lx (.exit 6) (Yc n i4 y4) (range 2) (Yd n i4 y4) 2)
 oab)
def Yg:lXB:=(dT n i4 y4<|length<|gw n (ae n.rules i4).stop)
end
end
def eV(n:Net)(kk:Nat):lXB:=Nat.rec (motive:=λ_=>lXB) (replicate (length<|map aq n.aa) false) (λj a=>Yg n j a) kk
theorem oR(n:Net)(i:Nat):length (eV n i)=length n.aa:=by
 induction i with
 |zero=>show(replicate _ false).length=_;simp
 |succ i ih=>grind[Yg,eV,EA]
abbrev KA(n:Net)(i4:Nat)(y4:lXB):lXE:=[.row 4 1 (map aA y4)]
section
variable(n:Net)
abbrev NL(i4:Nat):Am.Loc:=(zBb i4 n)
abbrev acM(i4:Nat):lXE:=KA n i4 (eV n i4)
abbrev Yh:Am.Loc:=[(8,.sr 0 1 0 (length<|zA n))]
abbrev Yi:lXE:=[.row 4 1 (map aA<|eV n<|length n.rules)]
def EC:KB:=noK 4 (NL n) (acM n) (.exit 4) (Yh n) (Yi n) (True)
abbrev acN(i4:Nat):List bf:=[nxW (false) (NL n<|i4+1) (acM n<|i4+1) (NL n<|i4+1) zAc (KA n (i4+1)<|dT n i4 (eV n i4)<|length<|zCg i4 n)]
end
def ED:di [6] NK=[(6,.loop acL)]:=by kernel_rfl
def Yj(n:Net)(hn:cg n)(hf:ck n):cx pg 94 0 4 (.loop NK) (EC n):=
 noB (acN n) (λi4=>(.r [.k,bT]<|.yes<|.r [.row (aC<|ae n.rules i4),bT]<|.r [.bG (((ae n.rules i4).stop).toNat) [],.at (((ae n.rules i4).stop).toNat) 0 (aA<|ae (eV n i4)<|((ae n.rules i4).stop).toNat),bT]<|.r [.int 0,bT]<|.no<|.r (zj i4)<|.pick 0)) (range 1) zE (length n.rules)
 (λ_ i4(hx4:i4<(length n.rules))=>have hr:=hf.rules;have hs:=hf.aa;have hgl:=oR n i4;have ht:=hn.stop _ (aw hx4);have hbl:=mf n (ae n.rules i4).stop;have l1:=aL aC (n.rules);have hb:(decide<|(i4:Int)<(length (map aC n.rules):Int))=true:=afT oaa;
 bB (an (a1 a0)<|an hb<|an (ac (rwa aC n.rules i4) a0)<|have l2:=aL aq (n.aa);an (ac (sto 1 0 1 (((ae n.rules i4).stop).toNat)<|rl aA<|eV n i4)<|ac (ixz (ae n.rules i4).stop<|length<|map aq n.aa) a0)<|an (cA (g59b n (ae n.rules i4).stop) ⟨hn,hf,by omega⟩ a0)<|an (F5 (EB n i4<|eV n i4) (S:=nm<|KB.L0<|EB n i4<|eV n i4) rfl (aW (af1 (λz=>Ob.row 4 1 z)<|l6 (f:=aA) (rl aA<|eV n i4) (((ae n.rules i4).stop).toNat) true)<|aW (rfl:(.box 56 (aC<|ae n.rules i4):Ob)= .box 56 (aC<|ae n.rules i4)) ee) trivial)<|an (rfl:false=false)<|an (ac (dwo ((i4+1:Nat):Int)) a0)<|lf (wy (acN n i4) 0) 2<|nxP (λ_=>NL n<|i4+1) (KA n<|i4+1) rfl<|show eV n (i4+1)=(dT n i4 (eV n i4)<|length<|gw n (ae n.rules i4).stop)from rfl)
 oab)
 (λ_=>have hr:=hf.rules;have hs:=hf.aa;have l1:=aL aC (n.rules);have hb:(zP n)=false:=afU oaa;
 bB (an (a1 a0)<|an hb<|lx (.exit 4) (Yh n) (range 1) (Yi n) 1)
 oab) (hc:=λ_ i4 hx4=>(bn (.cons (g59b n (ae n.rules i4).stop) rfl cy.nil) aE)) (hk:=λ_ i4 hx4=>(bw (l:=[(6,EB n i4 (eV n i4))]) ED (aK (Yf n i4 (eV n i4) hn hf hx4<|oR n i4) rfl aU) rfl))
def r29(n:Net):Bool:= !(r65<|eV n<|length n.rules)
def uY:di [0,4] (aG 48)=[(0,.loop jK),(4,.loop NK)]:=by kernel_rfl
def aee(n:Net)(hn:cg n)(hf:ck n):aY pg 48 [.pf (bA n)] [] [] (B<|r29 n) []:=
 have hr:=hf.rules;have hs:=hf.aa;aV 48 (.r [bT]<|.r [bT]<|.r [bT]<|.no<|.r [bT]<|.r [bT]<|.no<|.r [.bG 0 [],bT] .nil)
 (an a0<|have l1:=aL aq (n.aa);an (ac (mko (length<|map aq n.aa) 24) a0)<|an a0<|an (kbT (Kz n) trivial)<|an (rfl:false=false)<|an (ac (mko (length<|map aq n.aa) 1) a0)<|an a0<|an (F5 (EC n) (S:=nm<|KB.L0<|EC n) rfl (aW (af1 (λz=>Ob.row 4 1 z)<|Rc (f:=aA) (length<|map aq n.aa) false) ee) trivial)<|an (rfl:false=false)<|an (ac (qE (c:=i65 (eV n<|length n.rules)<|length<|map aq n.aa) ⟨by rw[oR,afW],by rw[oR];omega⟩ rfl) a0)<|bE<|show r29 n=(!(r65<|eV n<|length n.rules))from rfl) (callf:=(Dw [i65 (eV n<|length n.rules) (length<|map aq n.aa)] base)) (hc:=(B0 (.cons (g65 (eV n<|length n.rules)<|length<|map aq n.aa) tY.nil) aE)) (hk:=(bw (l:=[(0,Kz n),(4,EC n)]) uY (aK (Ya n hn hf) rfl<|aK (Yj n hn hf) rfl aU) rfl))
section
variable{n:Net}
theorem yi{s r:Int}(h:r62 n s r=true):0<=s/\s<(n.aa.length:Int):=by grind[r62]
theorem Yk(h:r27 n=true){i:Nat}(hi:i<n.rules.length):r62 n (ae n.rules i).start i=true/\r62 n (ae n.rules i).stop i=true:=by
 have:=bO.1 (show D6 n=false by simpa [r27]using h) i hi;unfold l9 at this;cases hl:(ae n.rules i).bN with
 |true=>rw[hl]at this;simp only[af2,af4,agr]at this;exact⟨this.1,this.2.1⟩
 |false=>rw[hl]at this;simp only[af8,af4,agr]at this;exact⟨this.1,this.2.1⟩
theorem KC(h:r28 n=true){i:Nat}(hi:i<n.aa.length):(0<=(ae n.aa i).aH/\(ae n.aa i).aH<(n.rules.length:Int))/\ ∀k,k<(ae n.aa i).ah.length->fh n i k=false:=by
 have:=bO.1 (show Eb n=false by simpa [r28]using h) i hi;unfold pI at this;simp only[af4,aga,afW]at this;obtain⟨h1,h2,h3⟩:=this;have h3:kW n i=false:=by
  revert h3;cases ((((ae n.aa i).ah.length:Nat):Int)==0)with
  |true=>intro h3;simp only[af2,af4]at h3;exact h3.2
  |false=>exact λh3=>h3
 exact⟨by omega,λk hk=>bO.1 h3 k hk⟩
theorem aef{i k:Nat}(h:fh n i k=false):0<=(ae (ae n.aa i).ah k).to/\(ae (ae n.aa i).ah k).to<(n.aa.length:Int):=by unfold fh at h;simp only[af4,agr]at h;exact yi h.1
theorem Yl{i k:Nat}(h:fh n i k=false)(h2:(ae (ae n.aa i).ah k).op=2):0<=(ae (ae n.aa i).ah k).n/\(ae (ae n.aa i).ah k).n<(n.rules.length:Int):=by unfold fh at h;rw[h2]at h;simp_all[r79]
theorem well2(h2:r27 n=true)(h3:r28 n=true):cg n where
 to:=λs hs e he=>by
  obtain⟨i,hi,rfl⟩:=bZ hs
  obtain⟨k,hk,rfl⟩:=bZ he
  exact aef ((KC h3 hi).2 k hk)
 call:=λs hs e he h=>by
  obtain⟨i,hi,rfl⟩:=bZ hs
  obtain⟨k,hk,rfl⟩:=bZ he
  simp_all[Yl,KC]
 start:=λr hr=>by
  obtain⟨i,hi,rfl⟩:=bZ hr
  exact yi (Yk h2 hi).1
 stop:=λr hr=>by
  obtain⟨i,hi,rfl⟩:=bZ hr
  exact yi (Yk h2 hi).2
theorem tA(h2:(!r27 n)=false)(h3:(!r28 n)=false):cg n:=well2 (by simpa using h2) (by simpa using h3)
def Ym(h:(!r28 n)=false){i:Nat}(hi:i<n.aa.length):0<=(ae n.aa i).aH/\(ae n.aa i).aH<(n.rules.length:Int):=(KC oaM hi).1
end
section
variable(n:Net)
theorem EE:(r24 n).length=n.rules.length:=by simp[r24,od,Cm]
theorem Bf(hn:cg n)(hf:ck n):aY pg 49 [.pf (bA n)] [] [] (.sl 1<|(r24 n).map aA) []:=mH (o:=0) (T:=4) (Be n hn hf) rfl (by simp[r24,od,Cm]) (bc bY _)
noncomputable def tgL(e:Edge):lXA:=bif e.op==2 then(bif bI.bN (aF n.rules e.n)then [e.n]else [])else []
theorem NM(emp:lXB)(e:Edge):(tgE n emp e).length<=2:=by unfold tgE;grind
theorem NO(e:Edge):(tgL n e).length<=2:=by unfold tgL;grind
noncomputable def yj:List lXA:=n.aa.map λs=>s.ah.flatMap (tgE n<|r24 n)
noncomputable def jL:List lXC:=(yj n).map (map Int.toNat)
noncomputable def stC(i k:Nat)(G:List lXA):List lXA:=List.set G (ae n.aa i).aH.toNat (ae G (ae n.aa i).aH.toNat++tgL n (ae (ae n.aa i).ah k))
noncomputable def pK:List lXA:=im (stC n) (λi=>(ae n.aa i).ah.length) (replicate n.rules.length []) n.aa.length
noncomputable def gF:List lXC:=(pK n).map (map Int.toNat)
theorem tB:(pK n).length=n.rules.length:=by unfold pK;rw[ye (step:=stC n) (m:=n.aa.length) (to:=λi _=>(ae n.aa i).aH.toNat) (xs:=λi k=>tgL n<|ae (ae n.aa i).ah k) (λi k G _ _=>rfl) _ _ (afP _)];simp
end
theorem tC{n:Net}(hr: ∀s∈n.aa,0<=s.aH/\s.aH<(n.rules.length:Int))(t:Nat)(c:Int):c∈ae (pK n) t↔ ∃s∈n.aa,s.aH.toNat=t/\ ∃e∈s.ah,c∈tgL n e:=by unfold pK;rw[GZ (step:=stC n) (m:=n.aa.length) (to:=λi _=>(ae n.aa i).aH.toNat) (xs:=λi k=>tgL n<|ae (ae n.aa i).ah k) (λi k G _ _=>rfl) (by grind[aw]) _ (afP _)];grind[aw,bZ]
theorem rV{α β:Type}{f:Nat->Nat->α->α}{g:Nat->Nat->β->β}{len:Nat->Nat}(a:α)(b:β)(i:Nat):im (λi k(G:α×β)=>(f i k G.1,g i k G.2)) len (a,b) i=(im f len a i,im g len b i):=by
 have inn: ∀i(s:α×β) k,inF (λi k(G:α×β)=>(f i k G.1,g i k G.2)) i s k=(inF f i s.1 k,inF g i s.2 k):=λi s k=>by
  induction k with
  |zero=>rfl
  |succ k ih=>grind[inF]
 induction i with
 |zero=>rfl
 |succ i ih=>grind[im]
noncomputable def iS(g:List lXC):Bool:=dec (∃i,Rp g i i)
structure jF(g:List lXC):Prop where
 wf:Wf g
 len:g.length<=1000000
 row: ∀R∈g,R.length<=2000000000000
def NQ{n:Net}(h:(!r28 n)=false): ∀s∈Net.aa n,0<=s.aH/\s.aH<(length n.rules:Int):=λs hs=>by obtain⟨i,hi,rfl⟩:=bZ hs;exact Ym h hi
def gI:Prop:= ∀g:List lXC,jF g->aY pg 50 [.sl 1 (g.map bJ)] [] [] (B<|iS g) []
def i30(g:List lXC):cj:=⟨50,[.sl 1 (g.map bJ)],B (iS g),jF g⟩
def g30(h30:gI)(g:List lXC):(i30 g).bS pg:=λhp=>⟨h30 g hp,by simp[i30,aj,AV.pure],rfl⟩
section
variable(n:Net)
def i26:cj:=⟨45,[.pf (bA n)],B (r26 n),ck n⟩
def g26:(i26 n).bS pg:=da λhp=>aaZ n hp.h
def i27:cj:=⟨46,[.pf (bA n)],B (r27 n),ck n⟩
def g27:(i27 n).bS pg:=da λhp=>aa0 n hp
def i28:cj:=⟨47,[.pf (bA n)],B (r28 n),ck n⟩
def g28:(i28 n).bS pg:=da λhp=>Wm n hp
def i29:cj:=⟨48,[.pf (bA n)],B (r29 n),cg n/\ck n⟩
def g29:(i29 n).bS pg:=da λhp=>aee n hp.1 hp.2
def i24:cj:=⟨49,[.pf (bA n)],.sl 1 ((r24 n).map aA),cg n/\ck n⟩
def g24:(i24 n).bS pg:=da λhp=>Bf n hp.1 hp.2
end
theorem G0{n:Net}(hn:cg n)(hf:ck n):jF (jL n) where
 wf:=λR hR c hc=>by
  obtain⟨R',hR',rfl⟩:=agm.1 hR
  obtain⟨x,hx,rfl⟩:=agm.1 hc
  obtain⟨s,hs,rfl⟩:=agm.1 hR'
  obtain⟨e,he,hx2⟩:=List.mem_flatMap.1 hx
  obtain⟨i,hi,rfl⟩:=bZ hs
  have he2:e∈(aF n.aa (i:Nat)).ah:=he
  have:=vp hn _ he2 x hx2
  grind[jL,yj]
 len:=by grind[jL,yj,hf.aa]
 row:=λR hR=>by
  obtain⟨R',hR',rfl⟩:=agm.1 hR
  obtain⟨s,hs,rfl⟩:=agm.1 hR'
  rw[afW]
  have key: ∀l:List Edge,(l.flatMap<|tgE n<|r24 n).length<=2*l.length:=λl=>by
   induction l with
   |nil=>exact afP _
   |cons e l ih=>
    grind[NM]
  have:=key s.ah
  have:=hf.ah s hs
  omega
def KD{step:Nat->Nat->List lXA->List lXA}{to:Nat->Nat->Nat}{xs:Nat->Nat->lXA}{i:Nat}(h: ∀k G,step i k G=G.set (to i k) (ae G (to i k)++xs i k))(hx: ∀k,(xs i k).length<=2){b:Nat}(G:List lXA)(hG: ∀R∈G,R.length<=b)(k:Nat): ∀R∈inF step i G k,R.length<=b+2*k:=by
 induction k with
 |zero=>exact hG
 |succ k ih=>
  show∀R∈step i k (inF step i G k),_;rw[h];intro R hR;have hx:=hx k;rcases List.mem_or_eq_of_mem_set hR with h2|rfl
  ·have:=ih R h2;omega
  ·rw[afQ];by_cases ht:to i k<(inF step i G k).length
   ·grind[aw]
   ·rw[ae,agh oaa];show 0+_<=_;omega
theorem Yn{n:Net}(hn:cg n)(hr: ∀s∈n.aa,0<=s.aH/\s.aH<(n.rules.length:Int))(hf:ck n):jF (gF n) where
 wf:=λR hR c hc=>by
  obtain⟨R',hR',rfl⟩:=agm.1 hR
  obtain⟨x,hx,rfl⟩:=agm.1 hc
  obtain⟨t,_,rfl⟩:=bZ hR'
  obtain⟨s,hs,_,e,he,hx⟩:=(tC hr t x).1 hx
  rw[gF,afW,tB]
  unfold tgL at hx
  cases h2:e.op==2 with
  |true=>
   have:=hn.call s hs e he (eq_of_beq h2)
   grind
  |false=>rw[h2]at hx;simp at hx
 len:=by grind[gF,tB,hf.rules]
 row:=λR hR=>by
  obtain⟨R',hR',rfl⟩:=agm.1 hR
  rw[afW]
  have key: ∀i,i<=n.aa.length-> ∀R∈im (stC n) (λi=>(ae n.aa i).ah.length) (replicate n.rules.length []) i,R.length<=i*2000000:=λi=>by
   induction i with
   |zero=>intro _ R hR;rw[(List.mem_replicate.1<|show R∈replicate n.rules.length []from hR).2];exact agn _
   |succ i ih=>
    intro hi R hR
    have:R.length<=i*2000000+2*(ae n.aa i).ah.length:=KD (step:=stC n) (to:=λi _=>(ae n.aa i).aH.toNat) (xs:=λi k=>tgL n<|ae (ae n.aa i).ah k) (i:=i) (λk G=>rfl) (λk=>NO _ _) _ (ih oaa) _ R hR
    have he:=hf.ah _ (aw<|show i<n.aa.length by omega)
    omega
  have:=key _ (afP _) R' hR'
  have:=hf.aa
  omega
def jx:Code:=bD 0 (aG 18)
def NR:Code:=bD 2 jx
theorem Yo:jx= .seq (sq1 jx) (.seq (sq1<|sq2 jx)<|.seq (.block 1<|.seq (sq1<|uV<|sq1<|sq2<|sq2 jx)<|.seq (sq1<|sq2<|uV<|sq1<|sq2<|sq2 jx)<|.block 2<|.loop NR)<|sq2<|sq2<|sq2 jx):=by kernel_rfl
abbrev zk(i0:Nat)(n:Net):Am.Loc:=[(1,.pf (bA n)),(3,.sl 1 (zx n)),(4,.sr 0 1 0 (length<|zA n)),(5,.sr (length n.aa+1) 1 0 (length<|zH n)),(36,.sl 2 (zA n)),(37,I (length (zA n):Int)),(38,I (i0:Int))]
abbrev zAQ(i0:Nat)(n:Net):Am.Loc:=[(1,.pf (bA n)),(3,.sl 1 (zx n)),(4,.sr 0 1 0 (length<|zA n)),(5,.sr (length n.aa+1) 1 0 (length<|zH n)),(36,.sl 2 (zA n)),(37,I (length (zA n):Int)),(38,I (i0:Int)),(39,B (decide<|(i0:Int)<(length (zA n):Int)))]
def aeg(n:Net)(i0:Nat)(h30:gI)(hf:ck n)(hn:cg n/\ ∀s∈Net.aa n,0<=s.aH/\s.aH<(length n.rules:Int))(hx0:i0<length n.aa)(ob:lXE):bo pg 141 0 (sq1 jx) (zk i0 n) ob .normal (zAQ i0 n) ob:=bW [4,5] oab rfl oae oac λv=>pvB zAs [] 0 λz=>(an (a1 a0) z)
abbrev zAk(i0:Nat)(n:Net):Am.Loc:=[(1,.pf (bA n)),(3,.sl 1 (zx n)),(4,.sr 0 1 0 (length<|zA n)),(5,.sr (length n.aa+1) 1 0 (length<|zH n)),(36,.sl 2 (zA n)),(37,I (length (zA n):Int)),(38,I (i0:Int)),(39,B true)]
def aeh(n:Net)(i0:Nat)(h30:gI)(hf:ck n)(hn:cg n/\ ∀s∈Net.aa n,0<=s.aH/\s.aH<(length n.rules:Int))(hx0:i0<length n.aa)(ob:lXE):bo pg 141 0 (sq1<|sq2 jx) (zAQ i0 n) ob .normal (zAk i0 n) ob:=bW [4,5] oab rfl oae oac λv=>pvB (.yes<|.pick 0) [] 0 λz=>have hr:=hf.rules;have hs:=hf.aa;have hed:=hf.ah _ (aw hx0);have l1:=aL aq (n.aa);have hb:(zw i0 n)=true:=afT oaa;(an hb z)
abbrev zAJ(i0:Nat)(n:Net):Am.Loc:=[(1,.pf (bA n)),(3,.sl 1 (zx n)),(4,.sr 0 1 0 (length<|zA n)),(5,.sr (length n.aa+1) 1 0 (length<|zH n)),(6,I (i0:Int)),(7,.pf (zm i0 n)),(36,.sl 2 (zA n)),(37,I (length (zA n):Int)),(38,I (i0:Int)),(39,B true),(40,I (i0:Int)),(41,.pf (zm i0 n)),(42,.ag (zm i0 n))]
section
variable(n:Net)
section
variable(i0:Nat)
def aei(h30:gI)(hf:ck n)(hn:cg n/\ ∀s∈Net.aa n,0<=s.aH/\s.aH<(length n.rules:Int))(hx0:i0<length n.aa)(ob:lXE):bo pg 141 0 (sq1<|uV<|sq1<|sq2<|sq2 jx) (zAk i0 n) ob .normal (zAJ i0 n) ob:=bW [4,5] oab rfl oae oac λv=>gq (L:=iR [4,5] v [(1,.pf (bA n)),(3,.sl 1 (map aA<|r24 n)),(4,.sr 0 1 0 (length<|map aq n.aa)),(5,.sr (length n.aa+1) 1 0 (length<|map aC n.rules)),(36,.sl 2 (map aq n.aa)),(37,I (length (map aq n.aa):Int)),(38,I (i0:Int)),(39,B true)]) (x:= .normal) (L1:=iR [4,5] v [(1,.pf (bA n)),(3,.sl 1 (map aA<|r24 n)),(4,.sr 0 1 0 (length<|map aq n.aa)),(5,.sr (length n.aa+1) 1 0 (length<|map aC n.rules)),(6,I (i0:Int)),(7,.pt 0 0),(36,.sl 2 (map aq n.aa)),(37,I (length (map aq n.aa):Int)),(38,I (i0:Int)),(39,B true),(40,I (i0:Int)),(41,.pf (aq<|ae n.aa i0)),(42,.ag (aq<|ae n.aa i0))]) (ob1:=[.box 45 (aq<|ae n.aa i0)]) (fH.refl _ _) (pvB (.r (zCk i0 n)<|.pick 0) [0] 1 λz=>have hr:=hf.rules;have hs:=hf.aa;have hed:=hf.ah _ (aw hx0);(an (ac (rwa aq n.aa i0) a0) z)) (s4 (ob:=[]) (Tb:=45) (cells:=(aq<|ae n.aa i0)) (agn _) (L':=iR [4,5] v [(1,.pf (bA n)),(3,.sl 1 (map aA<|r24 n)),(4,.sr 0 1 0 (length<|map aq n.aa)),(5,.sr (length n.aa+1) 1 0 (length<|map aC n.rules)),(6,I (i0:Int)),(7,.pf (aq<|ae n.aa i0)),(36,.sl 2 (map aq n.aa)),(37,I (length (map aq n.aa):Int)),(38,I (i0:Int)),(39,B true),(40,I (i0:Int)),(41,.pf (aq<|ae n.aa i0)),(42,.ag (aq<|ae n.aa i0))]) oas rfl) rfl
def aej(h30:gI)(hf:ck n)(hn:cg n/\ ∀s∈Net.aa n,0<=s.aH/\s.aH<(length n.rules:Int))(hx0:i0<length n.aa)(ob:lXE):bo pg 141 0 (sq1<|sq2<|uV<|sq1<|sq2<|sq2 jx) (zAJ i0 n) ob .normal [(1,.pf (bA n)),(3,.sl 1 (zx n)),(4,.sr 0 1 0 (length<|zA n)),(5,.sr (length n.aa+1) 1 0 (length<|zH n)),(6,I (i0:Int)),(7,.pf (zm i0 n)),(36,.sl 2 (zA n)),(37,I (length (zA n):Int)),(38,I (i0:Int)),(44,.sl 10 (zo i0 n)),(45,I (length (zo i0 n):Int)),(46,I 0)] ob:=bW [4,5] oab rfl oae oac λv=>pvB zB [] 0 λz=>(an a0 z)
def aek(h30:gI)(hf:ck n)(hn:cg n/\ ∀s∈Net.aa n,0<=s.aH/\s.aH<(length n.rules:Int))(hx0:i0<length n.aa)(ob:lXE):bo pg 141 0 NR [(1,.pf (bA n)),(3,.sl 1 (zx n)),(4,.sr 0 1 0 (length<|zA n)),(5,.sr (length n.aa+1) 1 0 (length<|zH n)),(6,I (i0:Int)),(7,.pf (zm i0 n)),(36,.sl 2 (zA n)),(37,I (length (zA n):Int)),(38,I (i0:Int)),(44,.sl 10 (zo i0 n)),(45,I (length (zo i0 n):Int)),(46,I (((length<|zG i0 n):Nat):Int))] ob (.exit 2) (zk i0 n) ob:=bW [4,5] oab rfl oae oac λv=>pvB zE [] 0 λz=>have hr:=hf.rules;have hs:=hf.aa;have hed:=hf.ah _ (aw hx0);have l1:=aL aQ ((ae n.aa i0).ah);have hb:(zv i0 n)=false:=afU oaa;(an (a1 a0)<|an hb z)
def ael(h30:gI)(hf:ck n)(hn:cg n/\ ∀s∈Net.aa n,0<=s.aH/\s.aH<(length n.rules:Int))(hx0:i0<length n.aa)(ob:lXE):bo pg 141 0 (sq2<|sq2<|sq2 jx) (zk i0 n) ob .normal [(1,.pf (bA n)),(3,.sl 1 (zx n)),(4,.sr 0 1 0 (length<|zA n)),(5,.sr (length n.aa+1) 1 0 (length<|zH n)),(36,.sl 2 (zA n)),(37,I (length (zA n):Int)),(38,I ↑(i0+1))] ob:=bW [4,5] oab rfl oae oac λv=>pvB (zU i0) [] 0 λz=>have hr:=hf.rules;have hs:=hf.aa;have hed:=hf.ah _ (aw hx0);(an (ac (dwo ((i0+1:Nat):Int)) a0) z)
end
abbrev zAO:Am.Loc:=[(1,.pf (bA n)),(3,.sl 1 (zx n)),(4,.sr 0 1 0 (length<|zA n)),(5,.sr (length n.aa+1) 1 0 (length<|zH n)),(36,.sl 2 (zA n)),(37,I (length (zA n):Int)),(38,I ((zBp n):Int)),(39,B (zt n))]
def aem(h30:gI)(hf:ck n)(hn:cg n/\ ∀s∈Net.aa n,0<=s.aH/\s.aH<(length n.rules:Int))(ob:lXE):bo pg 141 0 (sq1 jx) [(1,.pf (bA n)),(3,.sl 1 (zx n)),(4,.sr 0 1 0 (length<|zA n)),(5,.sr (length n.aa+1) 1 0 (length<|zH n)),(36,.sl 2 (zA n)),(37,I (length (zA n):Int)),(38,I ((zBp n):Int))] ob .normal (zAO n) ob:=bW [4,5] oab rfl oae oac λv=>pvB zAs [] 0 λz=>(an (a1 a0) z)
def aen(h30:gI)(hf:ck n)(hn:cg n/\ ∀s∈Net.aa n,0<=s.aH/\s.aH<(length n.rules:Int))(ob:lXE):bo pg 141 0 (sq1<|sq2 jx) (zAO n) ob (.exit 0) [(1,.pf (bA n)),(3,.sl 1 (zx n)),(4,.sr 0 1 0 (length<|zA n)),(5,.sr (length n.aa+1) 1 0 (length<|zH n))] ob:=bW [4,5] oab rfl oae oac λv=>pvB (.no<|.pick 0) [] 0 λz=>have hr:=hf.rules;have hs:=hf.aa;have l1:=aL aq (n.aa);have hb:(zQ n)=false:=afU oaa;(an hb z)
def dq(i0 i2:Nat)(la:lXA):lXA:=(bif (ae (ae n.aa i0).ah i2).op==1 then la else(bif (ae (ae n.aa i0).ah i2).op==2 then(bif !(aF (r24 n) (ae (ae n.aa i0).ah i2).n)then la++ [(aF n.rules (ae (ae n.aa i0).ah i2).n).start]else List.take (length la+1) (la++ [(aF n.rules (ae (ae n.aa i0).ah i2).n).start])++ [(ae (ae n.aa i0).ah i2).to])else la++ [(ae (ae n.aa i0).ah i2).to]))
def dr(i0 i2:Nat)(lb:lXA):lXA:=(bif (ae (ae n.aa i0).ah i2).op==1 then lb else(bif (ae (ae n.aa i0).ah i2).op==2 then(bif (aF n.rules (ae (ae n.aa i0).ah i2).n).bN then lb++ [(ae (ae n.aa i0).ah i2).n]else lb)else lb))
end
abbrev zM(i0 i2:Nat)(n:Net):Am.Loc:=[(1,.pf (bA n)),(3,.sl 1 (zx n)),(4,.sr 0 1 0 (length<|zA n)),(5,.sr 1 1 0 (length<|zH n)),(6,I (i0:Int)),(7,.pf (zm i0 n)),(36,.sl 2 (zA n)),(37,I (length (zA n):Int)),(38,I (i0:Int)),(44,.sl 10 (zo i0 n)),(45,I (length (zo i0 n):Int)),(46,I ↑(i2+1))]
abbrev za(la:lXA):AV:=(.sr 2 1 0<|length la)
abbrev zh(lb:lXA):AV:=(.sr 3 1 0<|length lb)
abbrev zAp(i0:Nat)(n:Net):=(((ae n.aa i0).aH).toNat)
abbrev zl(i0:Nat)(lb:lXA)(n:Net)(ys:List Value):=(aI<|List.set (vs ys) (zAp i0 n)<|zh lb)
abbrev zAR(i0:Nat)(la lb:lXA)(n:Net)(xs ys:List Value):lXE:=[.row 105 1 (aI<|List.set (vs xs) i0<|za la),.row 105 1 (zl i0 lb n ys),.row 3 1 (map ba la),.row 3 1 (map ba lb)]
def rW(n:Net)(i0 i2:Nat)(xs ys:List Value)(la lb:lXA):iq:=⟨(dq n i0 i2 la)=la/\(dr n i0 i2 lb)=lb,.normal,(zM i0 i2 n),[0,1,2,3],5,(zAR i0 la lb n xs ys),(zAR i0 la lb n xs ys)⟩
abbrev zd(i0 i2:Nat)(n:Net):=(aF n.rules (zAe i0 i2 n).n).start
def rX(n:Net)(i0 i2:Nat)(xs ys:List Value)(la lb:lXA):iq:=⟨(dq n i0 i2 la)=(la++ [(zd i0 i2 n)])/\(dr n i0 i2 lb)=(lb++ [(zAe i0 i2 n).n]),.normal,(zM i0 i2 n),[0,1,5,6],7,[.row 105 1 (aI<|List.set (vs xs) i0<|.sr 2 1 0<|length<|la++ [(zd i0 i2 n)]),.row 105 1 (aI<|List.set (vs ys) (zAp i0 n)<|.sr 3 1 0<|length<|lb++ [(zAe i0 i2 n).n]),.row 3 1 (map ba<|la++ [(zd i0 i2 n)]),.row 3 1 (map ba<|lb++ [(zAe i0 i2 n).n])],[.row 105 1 (aI<|List.set (vs xs) i0<|.sr 5 1 0<|length<|la++ [(zd i0 i2 n)]),.row 105 1 (aI<|List.set (vs ys) (zAp i0 n)<|.sr 6 1 0<|length<|lb++ [(zAe i0 i2 n).n]),.row 3 1 (map ba<|la++ [(zd i0 i2 n)]),.row 3 1 (map ba<|lb++ [(zAe i0 i2 n).n])]⟩
abbrev zAq(i0 i2:Nat)(la:lXA)(n:Net):=(map ba<|List.take (length la+1) (la++ [(zd i0 i2 n)])++ [(zAe i0 i2 n).to])
section
variable(n:Net)(i0 i2:Nat)(xs ys:List Value)(la lb:lXA)
def rY:iq:=⟨(dq n i0 i2 la)=(List.take (length la+1) (la++ [(zd i0 i2 n)])++ [(zAe i0 i2 n).to])/\(dr n i0 i2 lb)=(lb++ [(zAe i0 i2 n).n]),.normal,(zM i0 i2 n),[0,1,7,6],8,[.row 105 1 (aI<|List.set (vs xs) i0<|.sr 2 1 0<|length<|List.take (length la+1) (la++ [(zd i0 i2 n)])++ [(zAe i0 i2 n).to]),.row 105 1 (aI<|List.set (vs ys) (zAp i0 n)<|.sr 3 1 0<|length<|lb++ [(zAe i0 i2 n).n]),.row 3 1 (zAq i0 i2 la n),.row 3 1 (map ba<|lb++ [(zAe i0 i2 n).n])],[.row 105 1 (aI<|List.set (vs xs) i0<|.sr 7 1 0<|length<|List.take (length la+1) (la++ [(zd i0 i2 n)])++ [(zAe i0 i2 n).to]),.row 105 1 (aI<|List.set (vs ys) (zAp i0 n)<|.sr 6 1 0<|length<|lb++ [(zAe i0 i2 n).n]),.row 3 1 (zAq i0 i2 la n),.row 3 1 (map ba<|lb++ [(zAe i0 i2 n).n])]⟩
def rZ:iq:=⟨(dq n i0 i2 la)=(la++ [(zd i0 i2 n)])/\(dr n i0 i2 lb)=lb,.normal,(zM i0 i2 n),[0,1,5,3],6,[.row 105 1 (aI<|List.set (vs xs) i0<|.sr 2 1 0<|length<|la++ [(zd i0 i2 n)]),.row 105 1 (zl i0 lb n ys),.row 3 1 (map ba<|la++ [(zd i0 i2 n)]),.row 3 1 (map ba lb)],[.row 105 1 (aI<|List.set (vs xs) i0<|.sr 5 1 0<|length<|la++ [(zd i0 i2 n)]),.row 105 1 (zl i0 lb n ys),.row 3 1 (map ba<|la++ [(zd i0 i2 n)]),.row 3 1 (map ba lb)]⟩
def r9:iq:=⟨(dq n i0 i2 la)=(List.take (length la+1) (la++ [(zd i0 i2 n)])++ [(zAe i0 i2 n).to])/\(dr n i0 i2 lb)=lb,.normal,(zM i0 i2 n),[0,1,6,3],7,[.row 105 1 (aI<|List.set (vs xs) i0<|.sr 2 1 0<|length<|List.take (length la+1) (la++ [(zd i0 i2 n)])++ [(zAe i0 i2 n).to]),.row 105 1 (zl i0 lb n ys),.row 3 1 (zAq i0 i2 la n),.row 3 1 (map ba lb)],[.row 105 1 (aI<|List.set (vs xs) i0<|.sr 6 1 0<|length<|List.take (length la+1) (la++ [(zd i0 i2 n)])++ [(zAe i0 i2 n).to]),.row 105 1 (zl i0 lb n ys),.row 3 1 (zAq i0 i2 la n),.row 3 1 (map ba lb)]⟩
def sa:iq:=⟨(dq n i0 i2 la)=(la++ [(zAe i0 i2 n).to])/\(dr n i0 i2 lb)=lb,.normal,(zM i0 i2 n),[0,1,5,3],6,[.row 105 1 (aI<|List.set (vs xs) i0<|.sr 2 1 0<|length<|la++ [(zAe i0 i2 n).to]),.row 105 1 (zl i0 lb n ys),.row 3 1 (map ba<|la++ [(zAe i0 i2 n).to]),.row 3 1 (map ba lb)],[.row 105 1 (aI<|List.set (vs xs) i0<|.sr 5 1 0<|length<|la++ [(zAe i0 i2 n).to]),.row 105 1 (zl i0 lb n ys),.row 3 1 (map ba<|la++ [(zAe i0 i2 n).to]),.row 3 1 (map ba lb)]⟩
end
abbrev zAM(i0 i2:Nat)(n:Net):Am.Loc:=[(1,.pf (bA n)),(3,.sl 1 (zx n)),(4,.sr 0 1 0 (length<|zA n)),(5,.sr 1 1 0 (length<|zH n)),(6,I (i0:Int)),(7,.pf (zm i0 n)),(36,.sl 2 (zA n)),(37,I (length (zA n):Int)),(38,I (i0:Int)),(44,.sl 10 (zo i0 n)),(45,I (length (zo i0 n):Int)),(46,I (i2:Int))]
abbrev zAr(la:lXA):AV:=(.sr 5 1 0<|length la+1)
abbrev zCs(la:lXA):lXF:=[.sr 5 1 0 (length la+1)]
section
variable(n:Net)
section
variable(i0 i2:Nat)(xs ys:List Value)(la lb:lXA)
def aeo(h30:gI)(hf:ck n)(hn:cg n/\ ∀s∈Net.aa n,0<=s.aH/\s.aH<(length n.rules:Int))(hx0:i0<length n.aa)(hx2:i2<length (ae n.aa i0).ah)(hl1:length xs=(length n.aa))(hl2:length ys=(length n.rules))(hr1:length la<=2*(i0*1000000+i2))(hr2:length lb<=2*(i0*1000000+i2)):vcC pg 141 base cU 3000 (kbL []) NR (en<|zAM i0 i2 n) (dZ<|zAR i0 la lb n xs ys) 4 (TF [(rW n i0 i2 xs ys la lb),(rX n i0 i2 xs ys la lb),(rY n i0 i2 xs ys la lb),(rZ n i0 i2 xs ys la lb),(r9 n i0 i2 xs ys la lb),(sa n i0 i2 xs ys la lb)]) (.r [.k,bT]<|.yes<|.r [.row (aQ<|zAe i0 i2 n),bT]<|.r [.k,bT]<|.br (.r (zi i2)<|.pick 0)<|.r [.k,bT]<|.br (.r [.at i0 0 [.sr 2 1 0 (length la)],.bG ((zAe i0 i2 n).n).toNat (aC<|aF n.rules (zAe i0 i2 n).n),.at i0 0 [.sr 2 1 0 (length la)],bT]<|.r [.bG ((zAe i0 i2 n).n).toNat (aC<|aF n.rules (zAe i0 i2 n).n),bT]<|.br (.r [.bG (zAp i0 n) [],.at (zAp i0 n) 0 [.sr 3 1 0 (length lb)],.bG (zAp i0 n) [],.at (zAp i0 n) 0 [.sr 3 1 0 (length lb)],bT]<|.r [.bG ((zAe i0 i2 n).n).toNat (aA<|aF (r24 n) (zAe i0 i2 n).n),bT]<|.br (.r (zi i2)<|.pick 1)<|.r [.at i0 0 (zCs la),.at i0 0 (zCs la),bT]<|.r (zi i2)<|.pick 2)<|.r [.bG ((zAe i0 i2 n).n).toNat (aA<|aF (r24 n) (zAe i0 i2 n).n),bT]<|.br (.r (zi i2)<|.pick 3)<|.r [.at i0 0 (zCs la),.at i0 0 (zCs la),bT]<|.r (zi i2)<|.pick 4)<|.r [.at i0 0 [.sr 2 1 0 (length la)],.at i0 0 [.sr 2 1 0 (length la)],bT]<|.r (zi i2)<|.pick 5):=
 have hr:=hf.rules;have hs:=hf.aa;have lms:=aL aq n.aa;have lmr:=aL aC n.rules;have hed:=hf.ah _ (aw hx0);have hto:=hn.1.to _ (aw hx0) _ (aw hx2);have hca:=hn.1.call _ (aw hx0) _ (aw hx2);have hrr:=hn.2 _ (aw hx0);have hrl:=EE n;have l1:=aL aQ ((ae n.aa i0).ah);have hb:(zAo i0 i2 n)=true:=afT oaa;
 bB (an (a1 a0)<|an hb<|an (ac (rwa aQ (ae n.aa i0).ah i2) a0)<|an (a1 a0)<|brP (λ(h1:((ae (ae n.aa i0).ah i2).op==1)=true)=>have g1:=eq_of_beq h1;
 (an (ac (dwo ((i2+1:Nat):Int)) a0)<|lfN (rW n i0 i2 xs ys la lb) ⟨(show(dq n i0 i2 la)=la from(cdT h1 rfl)),(show(dr n i0 i2 lb)=lb from(cdT h1 rfl))⟩<|aW (rfl:(.row 105 1 (aI<|List.set (vs xs) i0<|za la):Ob)= .row 105 1 (aI<|List.set (vs xs) i0<|za la))<|aW (rfl:(.row 105 1 (aI<|List.set (vs ys) (((ae n.aa i0).aH).toNat)<|zh lb):Ob)= .row 105 1 (aI<|List.set (vs ys) (((ae n.aa i0).aH).toNat)<|zh lb))<|aW (rfl:(.row 3 1 (map ba la):Ob)= .row 3 1 (map ba la))<|aW (rfl:(.row 3 1 (map ba lb):Ob)= .row 3 1 (map ba lb)) ee))<|λh1=>have g1:=afX h1;
 (an (a1 a0)<|brP (λ(h2:((ae (ae n.aa i0).ah i2).op==2)=true)=>have g2:=eq_of_beq h2;
 (have l2:=aL aC (n.rules);an (ac (stN (rfl:(aI<|List.set (vs xs) i0<|za la)=(aI<|List.set (vs xs) i0<|za la)) oaa)<|ac (ixL (z:=i0) (n:=length<|map aq n.aa) oaa)<|ac (apo (length la) 8<|rl ba la)<|ac (rwz aC n.rules (ae (ae n.aa i0).ah i2).n)<|ac (atN (rfl:(aI<|List.set (vs xs) i0<|za la)=(aI<|List.set (vs xs) i0<|za la)) oaa)<|ac (ixL (z:=i0) (n:=length<|map aq n.aa) oaa) a0)<|an (ac (rwz aC n.rules (ae (ae n.aa i0).ah i2).n) a0)<|brP (λ(h3:((aF n.rules (ae (ae n.aa i0).ah i2).n).bN)=true)=>(an (ac (stN (rfl:(aI<|List.set (vs ys) (((ae n.aa i0).aH).toNat)<|zh lb)=(aI<|List.set (vs ys) (((ae n.aa i0).aH).toNat)<|zh lb)) oaa)<|ac (ixI (x:=(ae n.aa i0).aH) (n:=length<|map aC n.rules) oaa oaa)<|ac (apo (length lb) 8<|rl ba lb)<|ac (atN (rfl:(aI<|List.set (vs ys) (((ae n.aa i0).aH).toNat)<|zh lb)=(aI<|List.set (vs ys) (((ae n.aa i0).aH).toNat)<|zh lb)) oaa)<|ac (ixI (x:=(ae n.aa i0).aH) (n:=length<|map aC n.rules) oaa oaa) a0)<|have l3:=aL aA ((r24 n));an (ac (rwz aA (r24 n) (ae (ae n.aa i0).ah i2).n) a0)<|brP (λ(h4:(!(aF (r24 n) (ae (ae n.aa i0).ah i2).n))=true)=>(an (ac (dwo ((i2+1:Nat):Int)) a0)<|lfN (rX n i0 i2 xs ys la lb) ⟨(show(dq n i0 i2 la)=(la++ [(aF n.rules (ae (ae n.aa i0).ah i2).n).start])from(cdF h1<|cdT h2<|cdT h4 rfl)),(show(dr n i0 i2 lb)=(lb++ [(ae (ae n.aa i0).ah i2).n])from(cdF h1<|cdT h2<|cdT h3 rfl))⟩<|aW ((af1 (λz=>Ob.row 105 1 z)<|oW (rfl:(aI<|List.set (vs xs) i0<|za la)=(aI<|List.set (vs xs) i0<|za la))<|zAr la).trans<|af1 (λz=>Ob.row 105 1<|aI<|List.set (vs xs) i0<|.sr 5 1 0 z) oaj)<|aW ((af1 (λz=>Ob.row 105 1 z)<|oW (rfl:(aI<|List.set (vs ys) (((ae n.aa i0).aH).toNat)<|zh lb)=(aI<|List.set (vs ys) (((ae n.aa i0).aH).toNat)<|zh lb))<|.sr 6 1 0<|length lb+1).trans<|af1 (λz=>Ob.row 105 1<|aI<|List.set (vs ys) (((ae n.aa i0).aH).toNat)<|.sr 6 1 0 z) oaj)<|aW (af1 (λz=>Ob.row 3 1 z)<|apF (f:=ba) (rl ba la) (k:=length la) oad (aF n.rules (ae (ae n.aa i0).ah i2).n).start)<|aW (af1 (λz=>Ob.row 3 1 z)<|apF (f:=ba) (rl ba lb) (k:=length lb) oad (ae (ae n.aa i0).ah i2).n) ee))<|λh4=>
 (an (ac (stN (oW (rfl:(aI<|List.set (vs xs) i0<|za la)=(aI<|List.set (vs xs) i0<|za la))<|zAr la) oaa)<|ac (ixL (z:=i0) (n:=length<|map aq n.aa) oaa)<|ac (apo (length la+1) 8<|apF (f:=ba) (rl ba la) (k:=length la) oad (aF n.rules (ae (ae n.aa i0).ah i2).n).start)<|ac (atN (oW (rfl:(aI<|List.set (vs xs) i0<|za la)=(aI<|List.set (vs xs) i0<|za la))<|zAr la) oaa)<|ac (ixL (z:=i0) (n:=length<|map aq n.aa) oaa) a0)<|an (ac (dwo ((i2+1:Nat):Int)) a0)<|lfN (rY n i0 i2 xs ys la lb) ⟨(show(dq n i0 i2 la)=(List.take (length la+1) (la++ [(aF n.rules (ae (ae n.aa i0).ah i2).n).start])++ [(ae (ae n.aa i0).ah i2).to])from(cdF h1<|cdT h2<|cdF h4 rfl)),(show(dr n i0 i2 lb)=(lb++ [(ae (ae n.aa i0).ah i2).n])from(cdF h1<|cdT h2<|cdT h3 rfl))⟩<|aW ((af1 (λz=>Ob.row 105 1 z)<|oW (oW (rfl:(aI<|List.set (vs xs) i0<|za la)=(aI<|List.set (vs xs) i0<|za la))<|zAr la)<|.sr 7 1 0<|length la+1+1).trans<|af1 (λz=>Ob.row 105 1<|aI<|List.set (vs xs) i0<|.sr 7 1 0 z) oaj)<|aW ((af1 (λz=>Ob.row 105 1 z)<|oW (rfl:(aI<|List.set (vs ys) (((ae n.aa i0).aH).toNat)<|zh lb)=(aI<|List.set (vs ys) (((ae n.aa i0).aH).toNat)<|zh lb))<|.sr 6 1 0<|length lb+1).trans<|af1 (λz=>Ob.row 105 1<|aI<|List.set (vs ys) (((ae n.aa i0).aH).toNat)<|.sr 6 1 0 z) oaj)<|aW (af1 (λz=>Ob.row 3 1 z)<|apT (f:=ba) (apF (f:=ba) (rl ba la) (k:=length la) oad (aF n.rules (ae (ae n.aa i0).ah i2).n).start) (length la+1) (ae (ae n.aa i0).ah i2).to)<|aW (af1 (λz=>Ob.row 3 1 z)<|apF (f:=ba) (rl ba lb) (k:=length lb) oad (ae (ae n.aa i0).ah i2).n) ee)))<|λh3=>
 (have l3:=aL aA ((r24 n));an (ac (rwz aA (r24 n) (ae (ae n.aa i0).ah i2).n) a0)<|brP (λ(h4:(!(aF (r24 n) (ae (ae n.aa i0).ah i2).n))=true)=>(an (ac (dwo ((i2+1:Nat):Int)) a0)<|lfN (rZ n i0 i2 xs ys la lb) ⟨(show(dq n i0 i2 la)=(la++ [(aF n.rules (ae (ae n.aa i0).ah i2).n).start])from(cdF h1<|cdT h2<|cdT h4 rfl)),(show(dr n i0 i2 lb)=lb from(cdF h1<|cdT h2<|cdF h3 rfl))⟩<|aW ((af1 (λz=>Ob.row 105 1 z)<|oW (rfl:(aI<|List.set (vs xs) i0<|za la)=(aI<|List.set (vs xs) i0<|za la))<|zAr la).trans<|af1 (λz=>Ob.row 105 1<|aI<|List.set (vs xs) i0<|.sr 5 1 0 z) oaj)<|aW (rfl:(.row 105 1 (aI<|List.set (vs ys) (((ae n.aa i0).aH).toNat)<|zh lb):Ob)= .row 105 1 (aI<|List.set (vs ys) (((ae n.aa i0).aH).toNat)<|zh lb))<|aW (af1 (λz=>Ob.row 3 1 z)<|apF (f:=ba) (rl ba la) (k:=length la) oad (aF n.rules (ae (ae n.aa i0).ah i2).n).start)<|aW (rfl:(.row 3 1 (map ba lb):Ob)= .row 3 1 (map ba lb)) ee))<|λh4=>
 (an (ac (stN (oW (rfl:(aI<|List.set (vs xs) i0<|za la)=(aI<|List.set (vs xs) i0<|za la))<|zAr la) oaa)<|ac (ixL (z:=i0) (n:=length<|map aq n.aa) oaa)<|ac (apo (length la+1) 8<|apF (f:=ba) (rl ba la) (k:=length la) oad (aF n.rules (ae (ae n.aa i0).ah i2).n).start)<|ac (atN (oW (rfl:(aI<|List.set (vs xs) i0<|za la)=(aI<|List.set (vs xs) i0<|za la))<|zAr la) oaa)<|ac (ixL (z:=i0) (n:=length<|map aq n.aa) oaa) a0)<|an (ac (dwo ((i2+1:Nat):Int)) a0)<|lfN (r9 n i0 i2 xs ys la lb) ⟨(show(dq n i0 i2 la)=(List.take (length la+1) (la++ [(aF n.rules (ae (ae n.aa i0).ah i2).n).start])++ [(ae (ae n.aa i0).ah i2).to])from(cdF h1<|cdT h2<|cdF h4 rfl)),(show(dr n i0 i2 lb)=lb from(cdF h1<|cdT h2<|cdF h3 rfl))⟩<|aW ((af1 (λz=>Ob.row 105 1 z)<|oW (oW (rfl:(aI<|List.set (vs xs) i0<|za la)=(aI<|List.set (vs xs) i0<|za la))<|zAr la)<|.sr 6 1 0<|length la+1+1).trans<|af1 (λz=>Ob.row 105 1<|aI<|List.set (vs xs) i0<|.sr 6 1 0 z) oaj)<|aW (rfl:(.row 105 1 (aI<|List.set (vs ys) (((ae n.aa i0).aH).toNat)<|zh lb):Ob)= .row 105 1 (aI<|List.set (vs ys) (((ae n.aa i0).aH).toNat)<|zh lb))<|aW (af1 (λz=>Ob.row 3 1 z)<|apT (f:=ba) (apF (f:=ba) (rl ba la) (k:=length la) oad (aF n.rules (ae (ae n.aa i0).ah i2).n).start) (length la+1) (ae (ae n.aa i0).ah i2).to)<|aW (rfl:(.row 3 1 (map ba lb):Ob)= .row 3 1 (map ba lb)) ee))))<|λh2=>have g2:=afX h2;
 (an (ac (stN (rfl:(aI<|List.set (vs xs) i0<|za la)=(aI<|List.set (vs xs) i0<|za la)) oaa)<|ac (ixL (z:=i0) (n:=length<|map aq n.aa) oaa)<|ac (apo (length la) 8<|rl ba la)<|ac (atN (rfl:(aI<|List.set (vs xs) i0<|za la)=(aI<|List.set (vs xs) i0<|za la)) oaa)<|ac (ixL (z:=i0) (n:=length<|map aq n.aa) oaa) a0)<|an (ac (dwo ((i2+1:Nat):Int)) a0)<|lfN (sa n i0 i2 xs ys la lb) ⟨(show(dq n i0 i2 la)=(la++ [(ae (ae n.aa i0).ah i2).to])from(cdF h1<|cdF h2 rfl)),(show(dr n i0 i2 lb)=lb from(cdF h1<|cdF h2 rfl))⟩<|aW ((af1 (λz=>Ob.row 105 1 z)<|oW (rfl:(aI<|List.set (vs xs) i0<|za la)=(aI<|List.set (vs xs) i0<|za la))<|zAr la).trans<|af1 (λz=>Ob.row 105 1<|aI<|List.set (vs xs) i0<|.sr 5 1 0 z) oaj)<|aW (rfl:(.row 105 1 (aI<|List.set (vs ys) (((ae n.aa i0).aH).toNat)<|zh lb):Ob)= .row 105 1 (aI<|List.set (vs ys) (((ae n.aa i0).aH).toNat)<|zh lb))<|aW (af1 (λz=>Ob.row 3 1 z)<|apF (f:=ba) (rl ba la) (k:=length la) oad (ae (ae n.aa i0).ah i2).to)<|aW (rfl:(.row 3 1 (map ba lb):Ob)= .row 3 1 (map ba lb)) ee)))
 oab
theorem aep(h30:gI)(hf:ck n)(hn:cg n/\ ∀s∈Net.aa n,0<=s.aH/\s.aH<(length n.rules:Int))(hx0:i0<length n.aa)(hx2:i2<length (ae n.aa i0).ah)(hl1:length xs=(length n.aa))(hl2:length ys=(length n.rules))(hr1:length la<=2*(i0*1000000+i2))(hr2:length lb<=2*(i0*1000000+i2)):bo pg 141 2 NR (zAM i0 i2 n) (zAR i0 la lb n xs ys) .normal (zM i0 i2 n) [.row 105 1 (aI<|List.set (vs xs) i0<|.sr 2 1 0<|length<|dq n i0 i2 la),.row 105 1 (aI<|List.set (vs ys) (zAp i0 n)<|.sr 3 1 0<|length<|dr n i0 i2 lb),.row 3 1 (map ba<|dq n i0 i2 la),.row 3 1 (map ba<|dr n i0 i2 lb)]:=Ju (gp aE mixed<|bq _) (aeo n i0 i2 xs ys la lb h30 hf hn hx0 hx2 hl1 hl2 hr1 hr2) (eP (o:=(rW n i0 i2 xs ys la lb)) (nS rfl rfl rfl (by simp[rW,plS,AV.pure,aj,ak])<|aW ((ff (f:=(bM [0,1,2,3] 5)) (o:=2) (q:=2) rfl).symm)<|aW ((ff (f:=(bM [0,1,2,3] 5)) (o:=3) (q:=3) rfl).symm)<|aW ((cv<|gv _).symm)<|aW ((cv<|gv _).symm) ee)<|eP (o:=(rX n i0 i2 xs ys la lb)) (nS rfl rfl rfl (by simp[rX,plS,AV.pure,aj,ak])<|aW ((ff (f:=(bM [0,1,5,6] 7)) (o:=2) (q:=5) rfl).symm)<|aW ((ff (f:=(bM [0,1,5,6] 7)) (o:=3) (q:=6) rfl).symm)<|aW ((cv<|gv _).symm)<|aW ((cv<|gv _).symm) ee)<|eP (o:=(rY n i0 i2 xs ys la lb)) (nS rfl rfl rfl (by simp[rY,plS,AV.pure,aj,ak])<|aW ((ff (f:=(bM [0,1,7,6] 8)) (o:=2) (q:=7) rfl).symm)<|aW ((ff (f:=(bM [0,1,7,6] 8)) (o:=3) (q:=6) rfl).symm)<|aW ((cv<|gv _).symm)<|aW ((cv<|gv _).symm) ee)<|eP (o:=(rZ n i0 i2 xs ys la lb)) (nS rfl rfl rfl (by simp[rZ,plS,AV.pure,aj,ak])<|aW ((ff (f:=(bM [0,1,5,3] 6)) (o:=2) (q:=5) rfl).symm)<|aW ((ff (f:=(bM [0,1,5,3] 6)) (o:=3) (q:=3) rfl).symm)<|aW ((cv<|gv _).symm)<|aW ((cv<|gv _).symm) ee)<|eP (o:=(r9 n i0 i2 xs ys la lb)) (nS rfl rfl rfl (by simp[r9,plS,AV.pure,aj,ak])<|aW ((ff (f:=(bM [0,1,6,3] 7)) (o:=2) (q:=6) rfl).symm)<|aW ((ff (f:=(bM [0,1,6,3] 7)) (o:=3) (q:=3) rfl).symm)<|aW ((cv<|gv _).symm)<|aW ((cv<|gv _).symm) ee)<|eP (o:=(sa n i0 i2 xs ys la lb)) (nS rfl rfl rfl (by simp[sa,plS,AV.pure,aj,ak])<|aW ((ff (f:=(bM [0,1,5,3] 6)) (o:=2) (q:=5) rfl).symm)<|aW ((ff (f:=(bM [0,1,5,3] 6)) (o:=3) (q:=3) rfl).symm)<|aW ((cv<|gv _).symm)<|aW ((cv<|gv _).symm) ee) s5) (fE (o:=(rW n i0 i2 xs ys la lb)) (λh=>⟨rfl,rfl,(congr (af1 (λz1 z2=>([.row 105 1 (aI<|List.set (vs xs) i0<|.sr 2 1 0<|length z1),.row 105 1 (aI<|List.set (vs ys) (((ae n.aa i0).aH).toNat)<|.sr 3 1 0<|length z2),.row 3 1 (map ba z1),.row 3 1 (map ba z2)]:lXE)) h.1) h.2).symm⟩)<|fE (o:=(rX n i0 i2 xs ys la lb)) (λh=>⟨rfl,rfl,(congr (af1 (λz1 z2=>([.row 105 1 (aI<|List.set (vs xs) i0<|.sr 2 1 0<|length z1),.row 105 1 (aI<|List.set (vs ys) (((ae n.aa i0).aH).toNat)<|.sr 3 1 0<|length z2),.row 3 1 (map ba z1),.row 3 1 (map ba z2)]:lXE)) h.1) h.2).symm⟩)<|fE (o:=(rY n i0 i2 xs ys la lb)) (λh=>⟨rfl,rfl,(congr (af1 (λz1 z2=>([.row 105 1 (aI<|List.set (vs xs) i0<|.sr 2 1 0<|length z1),.row 105 1 (aI<|List.set (vs ys) (((ae n.aa i0).aH).toNat)<|.sr 3 1 0<|length z2),.row 3 1 (map ba z1),.row 3 1 (map ba z2)]:lXE)) h.1) h.2).symm⟩)<|fE (o:=(rZ n i0 i2 xs ys la lb)) (λh=>⟨rfl,rfl,(congr (af1 (λz1 z2=>([.row 105 1 (aI<|List.set (vs xs) i0<|.sr 2 1 0<|length z1),.row 105 1 (aI<|List.set (vs ys) (((ae n.aa i0).aH).toNat)<|.sr 3 1 0<|length z2),.row 3 1 (map ba z1),.row 3 1 (map ba z2)]:lXE)) h.1) h.2).symm⟩)<|fE (o:=(r9 n i0 i2 xs ys la lb)) (λh=>⟨rfl,rfl,(congr (af1 (λz1 z2=>([.row 105 1 (aI<|List.set (vs xs) i0<|.sr 2 1 0<|length z1),.row 105 1 (aI<|List.set (vs ys) (((ae n.aa i0).aH).toNat)<|.sr 3 1 0<|length z2),.row 3 1 (map ba z1),.row 3 1 (map ba z2)]:lXE)) h.1) h.2).symm⟩)<|fE (o:=(sa n i0 i2 xs ys la lb)) (λh=>⟨rfl,rfl,(congr (af1 (λz1 z2=>([.row 105 1 (aI<|List.set (vs xs) i0<|.sr 2 1 0<|length z1),.row 105 1 (aI<|List.set (vs ys) (((ae n.aa i0).aH).toNat)<|.sr 3 1 0<|length z2),.row 3 1 (map ba z1),.row 3 1 (map ba z2)]:lXE)) h.1) h.2).symm⟩) xw)
end
abbrev zAu:Am.Loc:=[(1,.pf (bA n)),(3,.sl 1 (zx n)),(4,.sr 0 1 0 (length<|zA n)),(5,.sr 1 1 0 (length<|zH n)),(36,.sl 2 (zA n)),(37,I (length (zA n):Int)),(38,I 0)]
abbrev zBO:lXE:=[.row 105 1 (replicate (length<|zA n) [.v (.slice none 0 0)]),.row 105 1 (replicate (length<|zH n) [.v (.slice none 0 0)])]
abbrev zBr:Am.Loc:=[(1,.pf (bA n)),(3,.sl 1 (zx n)),(4,.sl 1 (map bJ<|jL n)),(5,.sl 1 (map bJ<|gF n))]
def abl:KB:=⟨(zAu n),(zBO n),false,.ret,[],[],.normal,(zBr n),[],True⟩
theorem yk(i0 i2:Nat)(l:lXA):dq n i0 i2 l=l++tgE n (r24 n) (ae (ae n.aa i0).ah i2):=by unfold dq tgE;grind
theorem ym(i0 i2:Nat)(l2:lXA):dr n i0 i2 l2=l2++tgL n (ae (ae n.aa i0).ah i2):=by unfold dr tgL;grind
theorem Cp:im (λi0 i2 G=>List.set G i0<|dq n i0 i2<|ae G i0) (λi0=>(ae n.aa i0).ah.length) (replicate n.aa.length []) n.aa.length=yj n:=by rw[yb (tg:=λi k=>tgE n (r24 n)<|ae (ae n.aa i).ah k) (λi k G _ _=>by rw[yk]) _ (afP _),Nat.sub_self,List.replicate_zero,agA];have h1:(λi=>(range (ae n.aa i).ah.length).flatMap λk=>tgE n (r24 n)<|ae (ae n.aa i).ah k)=λi=>(λs:State=>s.ah.flatMap<|tgE n<|r24 n) (ae n.aa i):=funext λi=>lF (ae n.aa i).ah (tgE n<|r24 n);rw[h1,Cl n.aa (λs:State=>s.ah.flatMap<|tgE n<|r24 n)];rfl
theorem Cq:im (λi0 i2 G=>List.set G (Int.toNat (ae n.aa i0).aH)<|dr n i0 i2<|ae G<|Int.toNat (ae n.aa i0).aH) (λi0=>(ae n.aa i0).ah.length) (replicate n.rules.length []) n.aa.length=pK n:=by unfold pK;congr 1;funext i k G;rw[ym];rfl
end
def RP{n:Net}(hn:cg n): ∀R∈yj n,∀c∈R,0<=c/\c<(n.aa.length:Int):=λR hR c hc=>by obtain⟨s,hs,rfl⟩:=agm.1 hR;obtain⟨e,he,hc2⟩:=List.mem_flatMap.1 hc;obtain⟨i,hi,rfl⟩:=bZ hs;have he2:e∈(aF n.aa (i:Nat)).ah:=he;exact vp hn _ he2 c hc2
def RQ{n:Net}(hn:cg n)(hr: ∀s∈n.aa,0<=s.aH/\s.aH<(n.rules.length:Int)): ∀R∈pK n,∀c∈R,0<=c/\c<(n.rules.length:Int):=λR hR c hc=>by
 obtain⟨t,_,rfl⟩:=bZ hR;obtain⟨s,hs,_,e,he,hc⟩:=(tC hr t c).1 hc;unfold tgL at hc;cases h2:e.op==2 with
 |true=>have:=hn.call s hs e he (eq_of_beq h2);grind
 |false=>rw[h2]at hc;simp at hc
def RS(n:Net)(h30:gI)(hf:ck n)(hn:cg n/\ ∀s∈Net.aa n,0<=s.aH/\s.aH<(length n.rules:Int)):cx pg 141 0 0 (.loop jx) (abl n):=by
 skip;have hl:=pZ (P:=Tryz.prog) (n:=141) (K:=0) (d:=1) (S:=λ(G:List lXA×List lXA)=>cE 0 105 3 (gV G.1)++cE (length n.aa+1) 105 3 (gV G.2)) (m:=length n.aa) (len:=λi0=>length (ae n.aa i0).ah) (step:=λi0 i2(G:List lXA×List lXA)=>(List.set G.1 i0 (dq n i0 i2<|ae G.1 i0),List.set G.2 (Int.toNat (ae n.aa i0).aH) (dr n i0 i2<|ae G.2<|Int.toNat (ae n.aa i0).aH))) (I:=λi k G=>(G.1.length=length n.aa/\ ∀l∈G.1,l.length<=2*(i*1000000+k))/\(G.2.length=length n.rules/\ ∀l∈G.2,l.length<=2*(i*1000000+k))) (s0:=(replicate (length<|map aq n.aa) [],replicate (length<|map aC n.rules) []))
  (λi0 hx ob=>aeg n i0 h30 hf hn hx ob) (λi0 hx ob=>aeh n i0 h30 hf hn hx ob) (λi0 hx ob=>aei n i0 h30 hf hn hx ob) (λi0 hx ob=>aej n i0 h30 hf hn hx ob)
  (λi0 i2 G hx0 hx2 hI=>⟨pin2 hI.1.1 (by rw[hI.1.1];exact hx0) oa0 oab rfl (mqc oah<|mqc oah<|mqc rfl<|mqc rfl<|mqc oah<|mqc oah<|mqc oah<|mqc oah<|mqc oah<|mqc oah<|mqc oah<|mqc oah bz) (mqc oah<|mqc oah<|mqc rfl<|mqc rfl<|mqc oah<|mqc oah<|mqc oah<|mqc oah<|mqc oah<|mqc oah<|mqc oah<|mqc oah bz) rfl rfl (λxs ys hxs hys=>aep n i0 i2 xs ys (ae G.1 i0) (ae G.2<|Int.toNat (ae n.aa i0).aH) h30 hf hn hx0 hx2 (hxs.trans hI.1.1) (hys.trans hI.2.1) (hI.1.2 _<|aw<|by rw[hI.1.1];exact hx0)<|hI.2.2 _<|aw oa0),vu hI.1 oaa (by have hgl:=(show(dq n i0 i2<|ae G.1 i0).length<=(ae G.1 i0).length+2 by rw[yk,afQ];exact Nat.add_le_add_left (NM _ _ _) _);have hgm:=hI.1.2 _ (aw (i:=i0)<|by rw[hI.1.1];exact hx0);omega),vu hI.2 oaa (by have hgl:=(show(dr n i0 i2<|ae G.2<|Int.toNat (ae n.aa i0).aH).length<=(ae G.2<|Int.toNat (ae n.aa i0).aH).length+2 by rw[ym,afQ];exact Nat.add_le_add_left (NO _ _) _);have hgm:=hI.2.2 _ (aw (i:=(Int.toNat (ae n.aa i0).aH)) oa0);omega)⟩)
  (λi0 hx ob=>aek n i0 h30 hf hn hx ob) (λi0 hx ob=>ael n i0 h30 hf hn hx ob) (λob=>aem n h30 hf hn ob) (λob=>aen n h30 hf hn ob)
  ⟨⟨by simp,vv _⟩,⟨by simp,vv _⟩⟩ (λi G hi hI=>⟨⟨hI.1.1,λl hl=>agu (hI.1.2 l hl) oaX⟩,⟨hI.2.1,λl hl=>agu (hI.2.2 l hl) oaX⟩⟩)
 rw[<-Yo]at hl;have hG1:aI (jI<|gV (im (λi0 i2(G:List lXA×List lXA)=>(List.set G.1 i0 (dq n i0 i2<|ae G.1 i0),List.set G.2 (Int.toNat (ae n.aa i0).aH) (dr n i0 i2<|ae G.2<|Int.toNat (ae n.aa i0).aH))) (λi0=>length (ae n.aa i0).ah) (replicate (length<|map aq n.aa) [],replicate (length<|map aC n.rules) [])<|length n.aa).1)=map bJ (jL n):=by rw[rV (f:=λi0 i2 G=>List.set G i0<|dq n i0 i2<|ae G i0) (g:=λi0 i2 G=>List.set G (Int.toNat (ae n.aa i0).aH)<|dr n i0 i2<|ae G<|Int.toNat (ae n.aa i0).aH)];simp only[aL];rw[Cp,rN,jL];exact qk _ λR hR c hc=>(RP hn.1 R hR c hc).1
 have hG2:aI (jI<|gV (im (λi0 i2(G:List lXA×List lXA)=>(List.set G.1 i0 (dq n i0 i2<|ae G.1 i0),List.set G.2 (Int.toNat (ae n.aa i0).aH) (dr n i0 i2<|ae G.2<|Int.toNat (ae n.aa i0).aH))) (λi0=>length (ae n.aa i0).ah) (replicate (length<|map aq n.aa) [],replicate (length<|map aC n.rules) [])<|length n.aa).2)=map bJ (gF n):=by rw[rV (f:=λi0 i2 G=>List.set G i0<|dq n i0 i2<|ae G i0) (g:=λi0 i2 G=>List.set G (Int.toNat (ae n.aa i0).aH)<|dr n i0 i2<|ae G<|Int.toNat (ae n.aa i0).aH)];simp only[aL];rw[Cq,rN,gF];exact qk _ λR hR c hc=>(RQ hn.1 hn.2 R hR c hc).1
 have hlen1:length (im (λi0 i2(G:List lXA×List lXA)=>(List.set G.1 i0 (dq n i0 i2<|ae G.1 i0),List.set G.2 (Int.toNat (ae n.aa i0).aH) (dr n i0 i2<|ae G.2<|Int.toNat (ae n.aa i0).aH))) (λi0=>length (ae n.aa i0).ah) (replicate (length<|map aq n.aa) [],replicate (length<|map aC n.rules) [])<|length n.aa).1=length (map aq n.aa):=by rw[rV (f:=λi0 i2 G=>List.set G i0<|dq n i0 i2<|ae G i0) (g:=λi0 i2 G=>List.set G (Int.toNat (ae n.aa i0).aH)<|dr n i0 i2<|ae G<|Int.toNat (ae n.aa i0).aH)];simp only[aL];rw[Cp,yj,afW]
 have hlen2:length (im (λi0 i2(G:List lXA×List lXA)=>(List.set G.1 i0 (dq n i0 i2<|ae G.1 i0),List.set G.2 (Int.toNat (ae n.aa i0).aH) (dr n i0 i2<|ae G.2<|Int.toNat (ae n.aa i0).aH))) (λi0=>length (ae n.aa i0).ah) (replicate (length<|map aq n.aa) [],replicate (length<|map aC n.rules) [])<|length n.aa).2=length (map aC n.rules):=by rw[rV (f:=λi0 i2 G=>List.set G i0<|dq n i0 i2<|ae G i0) (g:=λi0 i2 G=>List.set G (Int.toNat (ae n.aa i0).aH)<|dr n i0 i2<|ae G<|Int.toNat (ae n.aa i0).aH)];simp only[aL];rw[Cq];exact tB n
 exact RL (Lm:=[(1,.pf (bA n)),(3,.sl 1 (map aA<|r24 n)),(4,.sr 0 1 0 (length<|map aq n.aa)),(5,.sl 1 (map bJ<|gF n))]) (aL _ _) hl rfl (mqc oah<|mqc oah<|mqc rfl<|mqc rfl<|mqc oah<|mqc oah<|mqc oah bz) (hlen1.trans<|aL _ _) hG1 hG2 (mqc (.inl ⟨rfl,(aT _ _ oag)⟩)<|mqc (.inl ⟨rfl,(aT _ _ oag)⟩)<|mqc (.inl ⟨rfl,(by simp[AV.und])⟩)<|mqc (.inr ⟨by rw[hlen2];rfl,rfl⟩) bz) (mqc (.inl ⟨rfl,aT _ _ oag⟩)<|mqc (.inl ⟨rfl,aT _ _ oag⟩)<|mqc (.inr ⟨by rw[hlen1];rfl,rfl⟩)<|mqc (.inl ⟨rfl,aT _ _ oag⟩) bz)
def KE(n:Net):KB:=⟨(zAu n),(zBO n),false,.ret,[],[],.normal,(zBr n),[],cg n/\ ∀s∈Net.aa n,0<=s.aH/\s.aH<(length n.rules:Int)⟩
def Yp(n:Net)(h30:gI)(hf:ck n):cx pg 141 0 0 (.loop jx) (KE n):=⟨λ_ e=>oao,λhn _=>(RS n h30 hf hn).2 trivial rfl⟩
def acO:Code:=bD 5 (aG 18)
abbrev Yq(n:Net)(i5:Nat):Am.Loc:=[(3,.sl 1 (zx n)),(4,.sl 1 (map bJ<|jL n)),(5,.sl 1 (map bJ<|gF n)),(114,.sl 9 (zH n)),(115,I (length (zH n):Int)),(116,I (i5:Int))]
abbrev Yr(n:Net)(i5:Nat):lXE:=[]
def yn(n:Net)(i5:Nat):Bool:=((ae n.rules i5).bN&&((!(ae n.rules i5).eF)&&(ae (r24 n) i5)))
def vw(n:Net):Bool:=dA (length n.rules) (yn n)
abbrev Ys(n:Net)(i5:Nat):Am.Loc:=[(2,I 110)]
abbrev Yt(n:Net)(i5:Nat):lXE:=[]
abbrev Yu(n:Net):Am.Loc:=[(4,.sl 1 (map bJ<|jL n)),(5,.sl 1 (map bJ<|gF n))]
abbrev Yv(n:Net):lXE:=[]
def KF(n:Net):KB:=anK 5 (length n.rules) (yn n) (Yq n) (Yr n) .ret (Ys n) (Yt n) (.exit 5) (Yu n) (Yv n) (True)
abbrev G3(n:Net)(i5:Nat):List bf:=[htW (yn n i5) .ret (Ys n i5) zb (Yt n i5),nxW (yn n i5) (Yq n<|i5+1) (Yr n<|i5+1) (Yq n<|i5+1) zb (Yr n<|i5+1)]
abbrev zCP(i5:Nat):GT:=(.r [.int ↑(i5+1),bT]<|.pick 1)
def Yw(n:Net)(h30:gI)(hf:ck n):cx pg 141 0 5 (.loop acO) (KF n):=
 anB (G3 n) (λi5=>(.r [.k,bT]<|.yes<|.r [.row (aC<|ae n.rules i5),bT]<|.a (.a (.r (uTT 6 [.row (aA<|ae (r24 n) i5),bT,bT])<|.br zB<|zCP i5)<|.r (bT::bT::bT::uFF 4 [bT])<|zCP i5)<|.r (uFF 7 [bT])<|zCP i5)) (range 0) zE
 (λ_ i5(hx5:i5<(length n.rules))=>have hr:=hf.rules;have hs:=hf.aa;have hrl:=EE n;have l1:=aL aC (n.rules);have hb:(decide<|(i5:Int)<(length (map aC n.rules):Int))=true:=afT oaa;
 bB (an (a1 a0)<|an hb<|an (ac (rwa aC n.rules i5) a0)<|aO (λ(h1:((ae n.rules i5).bN)=true)=>have q0:=(aD h1 rfl:yn n i5=_);
 (aO (λ(h2:(!(ae n.rules i5).eF)=true)=>have q1:=q0.trans (aD h2 rfl);
 (an (a1<|ac (rwa aA (r24 n) i5)<|aN 2<|ac h2<|aN 2<|ac h1 a0)<|brP (λ(h3:((ae (r24 n) i5))=true)=>(an a0<|lf (wy (G3 n i5) 0) 1<|q1.trans h3))<|λh3=>(an (ac (dwo ((i5+1:Nat):Int)) a0)<|lf (wy (G3 n i5) 1) 1 ⟨(q1.trans h3),rfl,rfl⟩)))<|λh2=>(an (aN 3<|ac (au h2)<|aN 2<|ac h1 a0)<|an (ac (dwo ((i5+1:Nat):Int)) a0)<|lf (wy (G3 n i5) 1) 1 ⟨(q0.trans<|bg h2),rfl,rfl⟩)))<|λh1=>(an (aN 6<|ac (au h1) a0)<|an (ac (dwo ((i5+1:Nat):Int)) a0)<|lf (wy (G3 n i5) 1) 1 ⟨(show yn n i5=false from(bg h1)),rfl,rfl⟩))
 oab)
 (λ_=>have hr:=hf.rules;have hs:=hf.aa;have l1:=aL aC (n.rules);have hb:(zP n)=false:=afU oaa;
 bB (an (a1 a0)<|an hb<|lx (.exit 5) (Yu n) (range 0) (Yv n) 0)
 oab)
def r10(n:Net):Int:=(bif !(r26 n)then 110 else(bif !(r27 n)then 110 else(bif !(r28 n)then 110 else(bif !(r29 n)then 110 else(bif vw n then 110 else(bif iS (jL n)then 110 else(bif iS (gF n)then 110 else 0)))))))
def uZ:di [0,5] (aG 18)=[(0,.loop jx),(5,.loop acO)]:=by kernel_rfl
def abm(n:Net)(h30:gI)(hf:ck n):aY pg 18 [.ag (bA n)] [] [] (I<|r10 n) []:=
 have hr:=hf.rules;have hs:=hf.aa;aV 18 (.r [bT]<|.a zDF<|.a (.r (.int 0::bT::.int 1::bT::uFF 4 [bT]) zF)<|.a (.r [.int 0,bT,.int 1,bT,bT,.int 2,bT,bF,bF,bT] zF)<|.r [.int 0,bT,.int 1,bT,bT,.int 2,bT,bT,.int 3,bT,bT]<|.br zF<|.r [.int 4,bT]<|.r [bT]<|.r [bT]<|.r [bT]<|.no<|.r [bT]<|.br .nil<|.a (.r [.int 5,bF,bF,bT] zF)<|.r [.int 5,bT,bT,.int 6,bT]<|.br zF zF)
 (an a0<|aO (λ(h0:(!(r26 n))=true)=>(an (aN 5<|ac (n2 h0)<|cA (g26 n) hf a0)<|an a0<|iE<|show r10 n=_ from(cdT h0 rfl)))<|λh0=>(aO (λ(h1:(!(r27 n))=true)=>(an (aN 3<|ac (n2 h1)<|a1<|cA (g27 n) hf<|ac (au h0)<|cA (g26 n) hf a0)<|an a0<|iE<|show r10 n=_ from(cdF h0<|cdT h1 rfl)))<|λh1=>(aO (λ(h2:(!(r28 n))=true)=>(an (a1<|ac (n2 h2)<|a1<|cA (g28 n) hf<|ac (au h1)<|a1<|cA (g27 n) hf<|ac (au h0)<|cA (g26 n) hf a0)<|an a0<|iE<|show r10 n=_ from(cdF h0<|cdF h1<|cdT h2 rfl)))<|λh2=>(an (a1<|cA (g29 n) ⟨tA h1 h2,hf⟩<|ac (au h2)<|a1<|cA (g28 n) hf<|ac (au h1)<|a1<|cA (g27 n) hf<|ac (au h0)<|cA (g26 n) hf a0)<|brP (λ(h3:(!(r29 n))=true)=>(an a0<|iE<|show r10 n=_ from(cdF h0<|cdF h1<|cdF h2<|cdT h3 rfl)))<|λh3=>(an (cA (g24 n) ⟨tA h1 h2,hf⟩ a0)<|have l1:=aL aq (n.aa);an (ac (mko (length<|map aq n.aa) 24) a0)<|have l2:=aL aC (n.rules);an (ac (mko (length<|map aC n.rules) 24) a0)<|an a0<|an (kbT (KE n) ⟨tA h1 h2,NQ h2⟩)<|an (rfl:false=false)<|an a0<|an (kbT (KF n) trivial)<|brP (λ(h4:(vw n)=true)=>(iE<|show r10 n=_ from(cdF h0<|cdF h1<|cdF h2<|cdF h3<|cdT h4 rfl)))<|λh4=>
 (aO (λ(h5:(iS<|jL n)=true)=>(an (a1<|ac (n2 h5)<|cA (g30 h30<|jL n) (G0 (tA h1 h2) hf) a0)<|an a0<|iE<|show r10 n=_ from(cdF h0<|cdF h1<|cdF h2<|cdF h3<|cdF h4<|cdT h5 rfl)))<|λh5=>(an (cA (g30 h30<|gF n) (Yn (tA h1 h2) (NQ h2) hf)<|a1<|ac (au h5)<|cA (g30 h30<|jL n) (G0 (tA h1 h2) hf) a0)<|brP (λ(h6:(iS<|gF n)=true)=>(an a0<|iE<|show r10 n=_ from(cdF h0<|cdF h1<|cdF h2<|cdF h3<|cdF h4<|cdF h5<|cdT h6 rfl)))<|λh6=>(an a0<|iE<|show r10 n=_ from(cdF h0<|cdF h1<|cdF h2<|cdF h3<|cdF h4<|cdF h5<|cdF h6 rfl))))))))) (hc:=(bn (.cons (g26 n) rfl<|.cons (g27 n) rfl<|.cons (g28 n) rfl<|.cons (g29 n) rfl<|.cons (g24 n) rfl<|.cons (g30 h30<|jL n) rfl<|.cons (g30 h30<|gF n) rfl cy.nil) aE)) (hk:=(bw (l:=[(0,KE n),(5,KF n)]) uZ (aK (Yp n h30 hf) rfl<|aK (Yw n h30 hf) rfl aU) rfl))
section
variable(x:Nat×Nat)
def skC:lXF:=[I ((x.1:Nat):Int),I ((x.2:Nat):Int)]
def G4:aj (skC x)=true:=rfl
@[simp] theorem pv_st:aj (skC x)=true:=rfl
end
@[simp] theorem pr_st(l:List (Nat×Nat)):ak (l.map skC)=true:=bc G4 l
@[simp] theorem pr_skset(l:List (Nat×Nat))(i:Nat)(x:Nat×Nat):ak ((l.map skC).set i<|skC x)=true:=fU rfl _ (bc G4 l)
@[simp] theorem afI(l:lXA)(i:Nat)(x:Int):ak ((l.map ba).set i<|ba x)=true:=fU rfl _ (bc Ch l)
abbrev Sk:=Nat×lXA×List (Nat×Nat)
def c0(l:lXA):Nat:=l.count 0
structure SR(g:List lXC)(w:Sk):Prop where
 len:w.2.1.length=g.length
 kl:w.1<=w.2.2.length
 node: ∀j,j<w.1->(ae w.2.2 j).1<g.length/\(ae w.2.2 j).2<=(ae g (ae w.2.2 j).1).length
 bd:w.1+c0 w.2.1<=g.length
structure SK(g:List lXC)(k:Nat)(is:lXA)(l:List (Nat×Nat)):Prop where
 len:is.length=g.length
 kl:k<=l.length
 pos:0<k
 kb:k<=1000000
 node:(ae l<|k-1).1<g.length
 row:(ae g (ae l<|k-1).1).length<=2000000000000
 to:(ae l<|k-1).2<(ae g (ae l<|k-1).1).length->ae (ae g (ae l<|k-1).1) (ae l<|k-1).2<g.length
theorem SR.sk{g:List lXC}(hg:jF g){w:Sk}(h:SR g w)(hk:0<w.1):SK g w.1 w.2.1 w.2.2 where
 len:=h.len
 kl:=h.kl
 pos:=hk
 kb:=by have:=h.bd;have:=hg.len;omega
 node:=(h.node _ oaa).1
 row:=hg.row _ (aw (h.node _ oaa).1)
 to:=λhq=>hg.wf _ (aw (h.node _ oaa).1) _ (aw hq)
def lq(w:Sk)(q:Nat):List (Nat×Nat):=List.set w.2.2 (w.1-1) ((ae w.2.2<|w.1-1).1,q)
theorem fZ{w:Sk}(h:w.1<=w.2.2.length)(hk:0<w.1)(q:Nat):ae (lq w q) (w.1-1)=((ae w.2.2<|w.1-1).1,q):=by grind[lq,ae]
theorem Yx{w:Sk}(h:w.1<=w.2.2.length)(hk:0<w.1)(q:Nat):List.set (lq w q) (w.1-1) ((ae (lq w q)<|w.1-1).1,(ae (lq w q)<|w.1-1).2+1)=lq w (q+1):=by grind[fZ,lq,List.set_set]
theorem abn{w:Sk}(h:w.1<=w.2.2.length)(hk:0<w.1):lq w (ae w.2.2<|w.1-1).2=w.2.2:=by unfold lq;refine agd λj=> ?_;grind[fC]
theorem og(w:Sk)(q:Nat):(lq w q).length=w.2.2.length:=age
section
variable(g:List lXC)(w:Sk)
def jy:lXC:=ae g (ae w.2.2<|w.1-1).1
def kF(q:Nat):Nat:=ae (jy g w) q
def Bg(q:Nat):Bool:= !(ae w.2.1 (kF g w q)==1)&& !(ae w.2.1 (kF g w q)==0)
def eI:Nat:=(ae w.2.2<|w.1-1).2+lB ((jy g w).length-(ae w.2.2<|w.1-1).2) λj=> !(Bg g w<|(ae w.2.2<|w.1-1).2+j)
def RT:Bool:=decide (eI g w<(jy g w).length)
def kY:Bool:=RT g w&&(ae w.2.1 (kF g w<|eI g w)==1)
def gZ:Sk:=bif RT g w then(w.1+1,List.set w.2.1 (kF g w<|eI g w) 1,List.take w.1 (lq w<|eI g w+1)++ [(kF g w (eI g w),0)])else(w.1-1,List.set w.2.1 (ae w.2.2<|w.1-1).1 2,lq w (eI g w))
end
theorem Cr{n:Nat}{t:Nat->Bool}(h:dA n t=false):lB n t=n:=by grind[lB,List.find?_eq_none,bO]
theorem NS(n:Nat)(t:Nat->Bool):lB n t<=n:=by
 cases h:dA n t with
 |true=>exact agx (iY h).1
 |false=>exact Nat.le_of_eq (Cr h)
section
variable{g:List lXC}{w:Sk}
theorem NT{q:Nat}(h0:(ae w.2.2<|w.1-1).2<=q)(hq:q<eI g w):Bg g w q=true:=by
 unfold eI at hq;generalize hm:(jy g w).length-(ae w.2.2<|w.1-1).2=m at hq;obtain⟨j,rfl⟩: ∃j,q=(ae w.2.2<|w.1-1).2+j:=⟨q-(ae w.2.2<|w.1-1).2,by omega⟩;by_cases ha:dA m (λj=> !(Bg g w<|(ae w.2.2<|w.1-1).2+j))=true
 ·have:=(iY ha).2.2 j oaa;simpa using this
 grind[bO,NS]
theorem vy(h:(ae w.2.2<|w.1-1).2<=(jy g w).length):eI g w<=(jy g w).length:=by grind[eI,NS]
theorem sb(h:RT g w=true):eI g w<(jy g w).length/\Bg g w (eI g w)=false:=by
 have h:=afS h;refine⟨h,?_⟩;unfold eI at h⊢;generalize hm:(jy g w).length-(ae w.2.2<|w.1-1).2=m at h⊢;have ha:dA m (λj=> !(Bg g w<|(ae w.2.2<|w.1-1).2+j))=true:=by grind[Cr]
 have:=(iY ha).2.1;simpa using this
end
def NU:Code:=bD 0 (aG 50)
def NV:Code:=bD 2 NU
def oh:Code:=oM 3 NV
def sc:Code:=bD 4 oh
theorem G5:oh= .seq (sq1 oh) (.seq (.block 4<|.loop sc)<|sq2<|sq2 oh):=by kernel_rfl
section
variable(g:List lXC)(i0 k:Nat)(is:lXA)(l:List (Nat×Nat))
def p30_9(hg:jF g)(hx0:i0<length g)(hs:SK g k is l)(hb0:(decide<|((k:Nat):Int)>0)=true):bo pg 96 0 (sq1 oh) [(0,.sl 1 (map bJ g)),(3,.sr 0 1 0 (length<|map bJ g)),(5,.sr 1 2 0 k),(12,I (length (map bJ g):Int)),(13,I (i0:Int))] [.row 3 1 (map ba is),.row 137 2 (map skC l)] .normal [(0,.sl 1 (map bJ g)),(3,.sr 0 1 0 (length<|map bJ g)),(5,.sr 1 2 0 k),(6,.pt 1 (0*2+(k-1)*2)),(12,I (length (map bJ g):Int)),(13,I (i0:Int))] [.row 3 1 (map ba is),.row 137 2 (map skC l)]:=pvB (.r [.int ((k-1:Nat):Int),bT]<|.pick 0) [0,1] 2 λz=>have hgl0:=hg.len;have h1:=hs.len;have h2:=hs.kl;have h3:=hs.pos;have h4:=hs.kb;have h5:=hs.node;have h6:=hs.row;have h7:=hs.to;have lms:=aL ba is;have lrn:=aL bJ g;have lst:=aL skC l;have lro:=aL dk (ae g (ae l<|k-1).1);have gb0:=afS hb0;(an (ac (ixo (k-1) k)<|ac (dso k) a0) z)
def p30_g(hg:jF g)(hx0:i0<length g)(hs:SK g k is l)(hb0:(decide<|((((ae l<|k-1)).2:Nat):Int)<(length (map dk<|ae g<|((ae l<|k-1)).1):Int))=true)(hb1:((ae is<|ae (ae g<|((ae l<|k-1)).1)<|((ae l<|k-1)).2)==1)=false)(hb2:((ae is<|ae (ae g<|((ae l<|k-1)).1)<|((ae l<|k-1)).2)==0)=false):bo pg 96 0 sc [(0,.sl 1 (map bJ g)),(3,.sr 0 1 0 (length<|map bJ g)),(5,.sr 1 2 0 k),(6,.pt 1 (0*2+(k-1)*2)),(12,I (length (map bJ g):Int)),(13,I (i0:Int))] [.row 3 1 (map ba is),.row 137 2 (map skC l)] .normal [(0,.sl 1 (map bJ g)),(3,.sr 0 1 0 (length<|map bJ g)),(5,.sr 1 2 0 k),(6,.pt 1 (0*2+(k-1)*2)),(12,I (length (map bJ g):Int)),(13,I (i0:Int))] [.row 3 1 (map ba is),.row 137 2 (map skC<|List.set l (k-1) (((ae l<|k-1)).1,((ae l<|k-1)).2+1))]:=pvB (.r [.at (k-1) 1 (skC<|ae l<|k-1),.at (k-1) 0 (skC<|ae l<|k-1),.row (bJ<|ae g<|((ae l<|k-1)).1),.k,bT]<|.yes<|.r [.at (k-1) 0 (skC<|ae l<|k-1),.row (bJ<|ae g<|((ae l<|k-1)).1),.at (k-1) 1 (skC<|ae l<|k-1),.row (dk<|ae (ae g<|((ae l<|k-1)).1)<|((ae l<|k-1)).2),bT]<|.r [.at (k-1) 1 (skC<|ae l<|k-1),.int ((((ae l<|k-1)).2+1:Nat):Int),.at (k-1) 1 (skC<|ae l<|k-1),bT]<|.r [.at (ae (ae g<|((ae l<|k-1)).1)<|((ae l<|k-1)).2) 0 (ba<|ae is<|ae (ae g<|((ae l<|k-1)).1)<|((ae l<|k-1)).2),bT]<|.r [.k,bT]<|.no<|.r [.k,bT]<|.no<|.pick 0) [0,1] 2 λz=>have hgl0:=hg.len;have h1:=hs.len;have h2:=hs.kl;have h3:=hs.pos;have h4:=hs.kb;have h5:=hs.node;have h6:=hs.row;have h7:=hs.to;have lms:=aL ba is;have lrn:=aL bJ g;have lst:=aL skC l;have lro:=aL dk (ae g (ae l<|k-1).1);have gb0:=afS hb0;have lq0:=aL dk ((ae g<|((ae l<|k-1)).1));(an (a1<|ac (rwa bJ g<|((ae l<|k-1)).1)<|ac (ato 2 0 (k-1)<|rl skC l)<|ac (ato 2 1 (k-1)<|rl skC l) a0)<|an hb0<|an (ac (rwa dk (ae g<|((ae l<|k-1)).1)<|((ae l<|k-1)).2)<|ac (ato 2 1 (k-1)<|rl skC l)<|ac (rwa bJ g<|((ae l<|k-1)).1)<|ac (ato 2 0 (k-1)<|rl skC l) a0)<|an (ac (sto 2 1 1 (k-1)<|rl skC l)<|ac (dwo ((((ae l<|k-1)).2+1:Nat):Int))<|ac (ato 2 1 (k-1)<|rl skC l) a0)<|an (ac (ato 1 0 (ae (ae g<|((ae l<|k-1)).1)<|((ae l<|k-1)).2)<|rl ba is)<|ac (ixo (ae (ae g<|((ae l<|k-1)).1)<|((ae l<|k-1)).2)<|length<|map bJ g) a0)<|an (a1 a0)<|an hb1<|an (a1 a0)<|an hb2<|lfZ z<|aW (rfl:(.row 3 1 (map ba is):Ob)= .row 3 1 (map ba is))<|aW (af1 (λz=>Ob.row 137 2 z)<|l6 (f:=skC) (rl skC l) (k-1) (((ae l<|k-1)).1,((ae l<|k-1)).2+1)) ee)
def p30_d(hg:jF g)(hx0:i0<length g)(hs:SK g k is l)(hb0:(decide<|((((ae l<|k-1)).2:Nat):Int)<(length (map dk<|ae g<|((ae l<|k-1)).1):Int))=false):bo pg 96 0 sc [(0,.sl 1 (map bJ g)),(3,.sr 0 1 0 (length<|map bJ g)),(5,.sr 1 2 0 k),(6,.pt 1 (0*2+(k-1)*2)),(12,I (length (map bJ g):Int)),(13,I (i0:Int))] [.row 3 1 (map ba is),.row 137 2 (map skC l)] (.exit 4) [(0,.sl 1 (map bJ g)),(3,.sr 0 1 0 (length<|map bJ g)),(5,.sr 1 2 0 k),(6,.pt 1 (0*2+(k-1)*2)),(12,I (length (map bJ g):Int)),(13,I (i0:Int))] [.row 3 1 (map ba is),.row 137 2 (map skC l)]:=pvB (.r [.at (k-1) 1 (skC<|ae l<|k-1),.at (k-1) 0 (skC<|ae l<|k-1),.row (bJ<|ae g<|((ae l<|k-1)).1),.k,bT]<|.no<|.pick 0) [0,1] 2 λz=>have hgl0:=hg.len;have h1:=hs.len;have h2:=hs.kl;have h3:=hs.pos;have h4:=hs.kb;have h5:=hs.node;have h6:=hs.row;have h7:=hs.to;have lms:=aL ba is;have lrn:=aL bJ g;have lst:=aL skC l;have lro:=aL dk (ae g (ae l<|k-1).1);have gb0:=afN hb0;have lq0:=aL dk ((ae g<|((ae l<|k-1)).1));(an (a1<|ac (rwa bJ g<|((ae l<|k-1)).1)<|ac (ato 2 0 (k-1)<|rl skC l)<|ac (ato 2 1 (k-1)<|rl skC l) a0)<|an hb0 z)
def p30_r(hg:jF g)(hx0:i0<length g)(hs:SK g k is l)(hb0:(decide<|((((ae l<|k-1)).2:Nat):Int)<(length (map dk<|ae g<|((ae l<|k-1)).1):Int))=true)(hb1:((ae is<|ae (ae g<|((ae l<|k-1)).1)<|((ae l<|k-1)).2)==1)=true):bo pg 96 0 sc [(0,.sl 1 (map bJ g)),(3,.sr 0 1 0 (length<|map bJ g)),(5,.sr 1 2 0 k),(6,.pt 1 (0*2+(k-1)*2)),(12,I (length (map bJ g):Int)),(13,I (i0:Int))] [.row 3 1 (map ba is),.row 137 2 (map skC l)] .ret [(2,B true)] []:=pvB (.r [.at (k-1) 1 (skC<|ae l<|k-1),.at (k-1) 0 (skC<|ae l<|k-1),.row (bJ<|ae g<|((ae l<|k-1)).1),.k,bT]<|.yes<|.r [.at (k-1) 0 (skC<|ae l<|k-1),.row (bJ<|ae g<|((ae l<|k-1)).1),.at (k-1) 1 (skC<|ae l<|k-1),.row (dk<|ae (ae g<|((ae l<|k-1)).1)<|((ae l<|k-1)).2),bT]<|.r [.at (k-1) 1 (skC<|ae l<|k-1),.int ((((ae l<|k-1)).2+1:Nat):Int),.at (k-1) 1 (skC<|ae l<|k-1),bT]<|.r [.at (ae (ae g<|((ae l<|k-1)).1)<|((ae l<|k-1)).2) 0 (ba<|ae is<|ae (ae g<|((ae l<|k-1)).1)<|((ae l<|k-1)).2),bT]<|.r [.k,bT]<|.yes<|.r [bT]<|.pick 0) [] 2 λz=>have hgl0:=hg.len;have h1:=hs.len;have h2:=hs.kl;have h3:=hs.pos;have h4:=hs.kb;have h5:=hs.node;have h6:=hs.row;have h7:=hs.to;have lms:=aL ba is;have lrn:=aL bJ g;have lst:=aL skC l;have lro:=aL dk (ae g (ae l<|k-1).1);have gb0:=afS hb0;have lq0:=aL dk ((ae g<|((ae l<|k-1)).1));(an (a1<|ac (rwa bJ g<|((ae l<|k-1)).1)<|ac (ato 2 0 (k-1)<|rl skC l)<|ac (ato 2 1 (k-1)<|rl skC l) a0)<|an hb0<|an (ac (rwa dk (ae g<|((ae l<|k-1)).1)<|((ae l<|k-1)).2)<|ac (ato 2 1 (k-1)<|rl skC l)<|ac (rwa bJ g<|((ae l<|k-1)).1)<|ac (ato 2 0 (k-1)<|rl skC l) a0)<|an (ac (sto 2 1 1 (k-1)<|rl skC l)<|ac (dwo ((((ae l<|k-1)).2+1:Nat):Int))<|ac (ato 2 1 (k-1)<|rl skC l) a0)<|an (ac (ato 1 0 (ae (ae g<|((ae l<|k-1)).1)<|((ae l<|k-1)).2)<|rl ba is)<|ac (ixo (ae (ae g<|((ae l<|k-1)).1)<|((ae l<|k-1)).2)<|length<|map bJ g) a0)<|an (a1 a0)<|an hb1<|an a0 z)
def p30_c(hg:jF g)(hx0:i0<length g)(hs:SK g k is l)(hb0:(decide<|((((ae l<|k-1)).2:Nat):Int)<(length (map dk<|ae g<|((ae l<|k-1)).1):Int))=true)(hb1:((ae is<|ae (ae g<|((ae l<|k-1)).1)<|((ae l<|k-1)).2)==1)=false)(hb2:((ae is<|ae (ae g<|((ae l<|k-1)).1)<|((ae l<|k-1)).2)==0)=true):bo pg 96 0 sc [(0,.sl 1 (map bJ g)),(3,.sr 0 1 0 (length<|map bJ g)),(5,.sr 1 2 0 k),(6,.pt 1 (0*2+(k-1)*2)),(12,I (length (map bJ g):Int)),(13,I (i0:Int))] [.row 3 1 (map ba is),.row 137 2 (map skC l)] (.exit 3) [(0,.sl 1 (map bJ g)),(3,.sr 0 1 0 (length<|map bJ g)),(5,.sr 1 2 0 (k+1)),(12,I (length (map bJ g):Int)),(13,I (i0:Int))] [.row 3 1 (map ba<|List.set is (ae (ae g<|((ae l<|k-1)).1)<|((ae l<|k-1)).2) 1),.row 137 2 (map skC<|List.take k (List.set l (k-1) (((ae l<|k-1)).1,((ae l<|k-1)).2+1))++ [((ae (ae g<|((ae l<|k-1)).1)<|((ae l<|k-1)).2),0)])]:=pvB (.r [.at (k-1) 1 (skC<|ae l<|k-1),.at (k-1) 0 (skC<|ae l<|k-1),.row (bJ<|ae g<|((ae l<|k-1)).1),.k,bT]<|.yes<|.r [.at (k-1) 0 (skC<|ae l<|k-1),.row (bJ<|ae g<|((ae l<|k-1)).1),.at (k-1) 1 (skC<|ae l<|k-1),.row (dk<|ae (ae g<|((ae l<|k-1)).1)<|((ae l<|k-1)).2),bT]<|.r [.at (k-1) 1 (skC<|ae l<|k-1),.int ((((ae l<|k-1)).2+1:Nat):Int),.at (k-1) 1 (skC<|ae l<|k-1),bT]<|.r [.at (ae (ae g<|((ae l<|k-1)).1)<|((ae l<|k-1)).2) 0 (ba<|ae is<|ae (ae g<|((ae l<|k-1)).1)<|((ae l<|k-1)).2),bT]<|.r [.k,bT]<|.no<|.r [.k,bT]<|.yes<|.r [.at (ae (ae g<|((ae l<|k-1)).1)<|((ae l<|k-1)).2) 0 (ba<|ae is<|ae (ae g<|((ae l<|k-1)).1)<|((ae l<|k-1)).2),bT]<|.r [bT]<|.pick 0) [0,2] 3 λz=>have hgl0:=hg.len;have h1:=hs.len;have h2:=hs.kl;have h3:=hs.pos;have h4:=hs.kb;have h5:=hs.node;have h6:=hs.row;have h7:=hs.to;have lms:=aL ba is;have lrn:=aL bJ g;have lst:=aL skC l;have lro:=aL dk (ae g (ae l<|k-1).1);have gb0:=afS hb0;have lq0:=aL dk ((ae g<|((ae l<|k-1)).1));(an (a1<|ac (rwa bJ g<|((ae l<|k-1)).1)<|ac (ato 2 0 (k-1)<|rl skC l)<|ac (ato 2 1 (k-1)<|rl skC l) a0)<|an hb0<|an (ac (rwa dk (ae g<|((ae l<|k-1)).1)<|((ae l<|k-1)).2)<|ac (ato 2 1 (k-1)<|rl skC l)<|ac (rwa bJ g<|((ae l<|k-1)).1)<|ac (ato 2 0 (k-1)<|rl skC l) a0)<|an (ac (sto 2 1 1 (k-1)<|rl skC l)<|ac (dwo ((((ae l<|k-1)).2+1:Nat):Int))<|ac (ato 2 1 (k-1)<|rl skC l) a0)<|an (ac (ato 1 0 (ae (ae g<|((ae l<|k-1)).1)<|((ae l<|k-1)).2)<|rl ba is)<|ac (ixo (ae (ae g<|((ae l<|k-1)).1)<|((ae l<|k-1)).2)<|length<|map bJ g) a0)<|an (a1 a0)<|an hb1<|an (a1 a0)<|an hb2<|an (ac (sto 1 0 1 (ae (ae g<|((ae l<|k-1)).1)<|((ae l<|k-1)).2)<|rl ba is)<|ac (ixo (ae (ae g<|((ae l<|k-1)).1)<|((ae l<|k-1)).2)<|length<|map bJ g) a0)<|an (ac (apo k 16<|l6 (f:=skC) (rl skC l) (k-1) (((ae l<|k-1)).1,((ae l<|k-1)).2+1)) a0)<|lfZ z<|aW (af1 (λz=>Ob.row 3 1 z)<|l6 (f:=ba) (rl ba is) (ae (ae g<|((ae l<|k-1)).1)<|((ae l<|k-1)).2) 1)<|aW (af1 (λz=>Ob.row 137 2 z)<|apT (f:=skC) (l6 (f:=skC) (rl skC l) (k-1) (((ae l<|k-1)).1,((ae l<|k-1)).2+1)) k ((ae (ae g<|((ae l<|k-1)).1)<|((ae l<|k-1)).2),0)) ee)
def p30_e(hg:jF g)(hx0:i0<length g)(hs:SK g k is l)(hb0:(decide<|((k:Nat):Int)>0)=true):bo pg 96 0 (sq2<|sq2 oh) [(0,.sl 1 (map bJ g)),(3,.sr 0 1 0 (length<|map bJ g)),(5,.sr 1 2 0 k),(6,.pt 1 (0*2+(k-1)*2)),(12,I (length (map bJ g):Int)),(13,I (i0:Int))] [.row 3 1 (map ba is),.row 137 2 (map skC l)] .normal [(0,.sl 1 (map bJ g)),(3,.sr 0 1 0 (length<|map bJ g)),(5,.sr 1 2 0 (k-1)),(12,I (length (map bJ g):Int)),(13,I (i0:Int))] [.row 3 1 (map ba<|List.set is (((ae l<|k-1)).1) 2),.row 137 2 (map skC l)]:=pvB (.r [.at (k-1) 0 (skC<|ae l<|k-1),.at (((ae l<|k-1)).1) 0 (ba<|ae is<|((ae l<|k-1)).1),bT]<|.r [.int ((k-1:Nat):Int),bT]<|.pick 0) [0,1] 2 λz=>have hgl0:=hg.len;have h1:=hs.len;have h2:=hs.kl;have h3:=hs.pos;have h4:=hs.kb;have h5:=hs.node;have h6:=hs.row;have h7:=hs.to;have lms:=aL ba is;have lrn:=aL bJ g;have lst:=aL skC l;have lro:=aL dk (ae g (ae l<|k-1).1);have gb0:=afS hb0;(an (ac (sto 1 0 1 (((ae l<|k-1)).1)<|rl ba is)<|ac (ixo (((ae l<|k-1)).1)<|length<|map bJ g)<|ac (ato 2 0 (k-1)<|rl skC l) a0)<|an (ac (slo 0 (k-1) k)<|ac (dso k) a0)<|lfZ z<|aW (af1 (λz=>Ob.row 3 1 z)<|l6 (f:=ba) (rl ba is) (((ae l<|k-1)).1) 2)<|aW (rfl:(.row 137 2 (map skC l):Ob)= .row 137 2 (map skC l)) ee)
end
section
variable(g:List lXC)
abbrev zBd:=(map bJ g)
def RU(i0 k:Nat):Am.Loc:=[(0,.sl 1 (zBd g)),(3,.sr 0 1 0 (length<|zBd g)),(5,.sr 1 2 0 k),(6,.pt 1 (0*2+(k-1)*2)),(12,I (length (zBd g):Int)),(13,I (i0:Int))]
def LC30(i0 k2:Nat):Am.Loc:=[(0,.sl 1 (zBd g)),(3,.sr 0 1 0 (length<|zBd g)),(5,.sr 1 2 0 k2),(12,I (length (zBd g):Int)),(13,I (i0:Int))]
end
def EF{P:Program}{n K:Nat}{id:Nat}{c:Code}{L L':Am.Loc}{ob ob':lXE}(h:bo P n K c L ob .ret L' ob'):bo P n K (.block id c) L ob .ret L' ob':=λdf _ hd hq=>et (h df _ (hd.imp (λe=>e) λe=>by simpa only[Code.inR]using e) hq)
def SR.skq{g:List lXC}(hg:jF g){w:Sk}(h:SR g w)(hk:0<w.1)(q:Nat):SK g w.1 w.2.1 (lq w q):=by
 have hs:=h.sk hg hk;refine⟨h.len,by rw[og];exact h.kl,hk,hs.kb,?_,?_,?_⟩
 ·rw[fZ h.kl hk];exact hs.node
 ·rw[fZ h.kl hk];exact hs.row
 ·rw[fZ h.kl hk];exact λhq=>hg.wf _ (aw hs.node) _ (aw hq)
section
variable{g:List lXC}{i0:Nat}(hg:jF g)(hx0:i0<length g){w:Sk}(h:SR g w)(hk:0<w.1)
 include hg hx0 h hk
theorem aeq{q:Nat}(h0:(ae w.2.2<|w.1-1).2<=q)(hq:q<eI g w):bo pg 96 0 sc (RU g i0 w.1) [.row 3 1 (map ba w.2.1),.row 137 2 (map skC<|lq w q)] .normal (RU g i0 w.1) [.row 3 1 (map ba w.2.1),.row 137 2 (map skC<|lq w<|q+1)]:=by have hgo:=NT h0 hq;have hql:=vy (h.node _<|show w.1-1<w.1 by omega).2;unfold Bg kF jy at hgo;unfold jy at hql;simp only[afJ,af3]at hgo;have hp:=p30_g g i0 w.1 w.2.1 (lq w q) hg hx0 (h.skq hg hk q) (by rw[fZ h.kl hk];exact afT<|show((q:Nat):Int)<(length (map dk<|ae g (ae w.2.2<|w.1-1).1):Int) by rw[afW];omega) (by rw[fZ h.kl hk];exact hgo.1) (by rw[fZ h.kl hk];exact hgo.2);rw[Yx h.kl hk]at hp;exact hp
theorem KG{xr:AX}{Lr:Am.Loc}{obr:lXE}(hne:xr≠ .normal)(hf:bo pg 96 0 sc (RU g i0 w.1) [.row 3 1 (map ba w.2.1),.row 137 2 (map skC<|lq w<|eI g w)] xr Lr obr):bo pg 96 0 (.block 4<|.loop sc) (RU g i0 w.1) [.row 3 1 (map ba w.2.1),.row 137 2 (map skC w.2.2)] (lY 4 xr) Lr obr:=by
 have:=ig (P:=Tryz.prog) (n:=96) (K:=0) (id:=4) (c:=sc) (xr:=xr) (Lr:=Lr) (obr:=obr) (λ_=>RU g i0 w.1) (λq=>[.row 3 1 (map ba w.2.1),.row 137 2 (map skC<|lq w q)]) (λq=>(ae w.2.2<|w.1-1).2<=q/\q<=eI g w) (λq=>eI g w-q) (ae w.2.2<|w.1-1).2 ⟨afP _,by unfold eI;omega⟩ hne λq hq=>by
  by_cases hql:q<eI g w
  ·exact .inl ⟨q+1,⟨by omega,by omega⟩,by omega,aeq hg hx0 h hk hq.1 hql⟩
  ·obtain rfl:q=eI g w:=by omega
   exact .inr hf
 simp only[abn h.kl hk]at this;exact this
def Yy:bo pg 96 0 (sq1 oh) (LC30 g i0 w.1) [.row 3 1 (map ba w.2.1),.row 137 2 (map skC w.2.2)] .normal (RU g i0 w.1) [.row 3 1 (map ba w.2.1),.row 137 2 (map skC w.2.2)]:=p30_9 g i0 w.1 w.2.1 w.2.2 hg hx0 (h.sk hg hk) (afT oaa)
theorem abo(hh:kY g w=true):bo pg 96 0 (.block 3 oh) (LC30 g i0 w.1) [.row 3 1 (map ba w.2.1),.row 137 2 (map skC w.2.2)] .ret [(2,B true)] []:=by unfold kY at hh;simp only[afJ]at hh;have h1:=(sb hh.1).1;have h2:=hh.2;unfold jy at h1;unfold kF jy at h2;have hp:=KG hg hx0 h hk oaj (p30_r g i0 w.1 w.2.1 (lq w<|eI g w) hg hx0 (h.skq hg hk _) oaK<|by rw[fZ h.kl hk];exact h2);rw[G5];exact EF (ey (Yy hg hx0 h hk)<|mI hp<|by simp[lY])
theorem abp(hh:kY g w=false):bo pg 96 0 (.block 3 oh) (LC30 g i0 w.1) [.row 3 1 (map ba w.2.1),.row 137 2 (map skC w.2.2)] .normal (LC30 g i0 (gZ g w).1) [.row 3 1 (map ba (gZ g w).2.1),.row 137 2 (map skC (gZ g w).2.2)]:=by
 have hql:=vy (h.node _<|show w.1-1<w.1 by omega).2;rw[G5];cases ha:RT g w with
 |true=>obtain⟨h1,h2⟩:=sb ha;unfold kY at hh;rw[ha,ags]at hh;unfold Bg at h2;rw[hh,agJ,ags,agr]at h2;unfold gZ;rw[ha,af2];unfold kF jy at hh h2;unfold jy at h1;have hp:=KG hg hx0 h hk oaj (p30_c g i0 w.1 w.2.1 (lq w<|eI g w) hg hx0 (h.skq hg hk _) oaK (by rw[fZ h.kl hk];exact hh)<|by rw[fZ h.kl hk];exact h2);rw[Yx h.kl hk,fZ h.kl hk]at hp;exact Dn (ey (Yy hg hx0 h hk)<|mI hp<|by simp[lY])
 |false=>unfold gZ;rw[ha,af8];have ha:=afN ha;unfold jy at ha;have hp:=KG hg hx0 h hk oaj (p30_d g i0 w.1 w.2.1 (lq w<|eI g w) hg hx0 (h.skq hg hk _)<|by rw[fZ h.kl hk];exact afU<|show¬((eI g w:Nat):Int)<(length (map dk<|ae g (ae w.2.2<|w.1-1).1):Int) by rw[afW];omega);have he:=p30_e g i0 w.1 w.2.1 (lq w<|eI g w) hg hx0 (h.skq hg hk _) (afT oaa);rw[fZ h.kl hk]at he;exact nL (ey (Yy hg hx0 h hk)<|ey hp he)
end
section
variable(g:List lXC)
def KH(i0:Nat)(y0:lXA)(w2:Nat×(lXA)×(List<|Nat×Nat)):KB:=⟨[(0,.sl 1 (map bJ g)),(3,.sr 0 1 0 (length<|map bJ g)),(5,.sr 1 2 0 w2.1),(12,I (length (map bJ g):Int)),(13,I (i0:Int))],[.row 3 1 (map ba w2.2.1),.row 137 2 (map skC w2.2.2)],kY g w2,.ret,[(2,B true)],[],.normal,[(0,.sl 1 (map bJ g)),(3,.sr 0 1 0 (length<|map bJ g)),(5,.sr 1 2 0 ((gZ g w2).1)),(12,I (length (map bJ g):Int)),(13,I (i0:Int))],[.row 3 1 (map ba<|(gZ g w2).2.1),.row 137 2 (map skC<|(gZ g w2).2.2)],(decide<|((w2.1:Nat):Int)>0)=true⟩
theorem Yz(i0:Nat)(y0:lXA)(w2:Nat×(lXA)×(List<|Nat×Nat))(hg:jF g)(hx0:i0<(length g))(hy0:length y0=length g)(hw2:SR g w2):cx pg 96 0 3 oh (KH g i0 y0 w2):=⟨λhp e=>abo hg hx0 hw2 (by have:=afS hp;omega) e,λhp e=>abp hg hx0 hw2 (by have:=afS hp;omega) e⟩
def yo(i0:Nat)(y0:lXA)(w2:Nat×(lXA)×(List<|Nat×Nat)):Nat×(lXA)×(List<|Nat×Nat):=((gZ g w2).1,(gZ g w2).2.1,(gZ g w2).2.2)
def dD(i0:Nat)(y0:lXA)(kk:Nat):Nat×(lXA)×(List<|Nat×Nat):=Nat.rec (motive:=λ_=>Nat×(lXA)×(List<|Nat×Nat)) (1,List.set y0 i0 1,[(i0,0)]) (λ_ a=>yo g i0 y0 a) kk
def ik(i0:Nat)(y0:lXA)(w2:Nat×(lXA)×(List<|Nat×Nat)):Bool:=(bif decide (((w2.1:Nat):Int)>0)then(kY g w2)else true)
end
def sd(g:List lXC)(i0:Nat)(y0:lXA)(w2:Nat×(lXA)×(List<|Nat×Nat)):Bool:=(decide<|((w2.1:Nat):Int)>0)
def kG(g:List lXC)(i0:Nat)(y0:lXA):Nat×(lXA)×(List<|Nat×Nat):=dD g i0 y0 (eB (ik g i0 y0)<|dD g i0 y0)
section
variable{l:lXA}{c:Nat}{x:Int}
theorem aer(hc:c<l.length)(h:ae l c=0)(hx:x≠0):c0 (l.set c x)+1=c0 l:=by grind[ae,c0]
theorem c0_le(hx:x≠0):c0 (l.set c x)<=c0 l:=by
 induction l generalizing c with
 |nil=>exact afP _
 |cons b l ih=>
  cases c with
  |zero=>grind[c0]
  |succ c=>grind[c0]
theorem c0_lt(hc:c<l.length)(hx:x≠0):c0 (l.set c x)+1<=l.length:=by
 induction l generalizing c with
 |nil=>simp at hc
 |cons b l ih=>grind[c0]
end
theorem G6{w:Sk}{q j:Nat}(hj:j≠w.1-1):ae (lq w q) j=ae w.2.2 j:=by grind[lq,ae]
section
variable{g:List lXC}
theorem abq(hg:jF g){w:Sk}(h:SR g w)(hk:0<w.1)(hh:kY g w=false):SR g (gZ g w)/\2*c0 (gZ g w).2.1+(gZ g w).1+1<=2*c0 w.2.1+w.1:=by
 have hs:=h.sk hg hk;have hql:=vy (h.node _<|show w.1-1<w.1 by omega).2;have hlen:=h.len;have hkl:=h.kl;have hbd:=h.bd;cases ha:RT g w with
 |true=>
  obtain⟨h1,h2⟩:=sb ha;unfold kY at hh;rw[ha,ags]at hh;unfold Bg at h2;rw[hh,agJ,ags,agr]at h2;have hto:kF g w (eI g w)<g.length:=hg.wf _ (aw hs.node) _ (aw h1);have hc:=aer (x:=1) oaa (eq_of_beq h2) oay;unfold gZ;rw[ha,af2];refine⟨⟨by simp only[age];exact hlen,?_,λj hj=> ?_,?_⟩,?_⟩
  ·simp only[afQ,agw,og,agb,agt];omega
  ·simp only at hj⊢;by_cases hjw:j<w.1
   ·have e:ae (List.take w.1 (lq w<|eI g w+1)++ [(kF g w (eI g w),0)]) j=ae (lq w<|eI g w+1) j:=by unfold ae;rw[afZ (by rw[agw,og];omega),List.getElem?_take_of_lt hjw]
    rw[e];by_cases hj1:j=w.1-1
    ·subst hj1;rw[fZ hkl hk];exact⟨hs.node,h1⟩
    ·rw[G6 hj1];exact h.node j hjw
   ·have e:ae (List.take w.1 (lq w<|eI g w+1)++ [(kF g w (eI g w),0)]) j=(kF g w (eI g w),0):=by unfold ae;rw[agl (by rw[agw,og];omega),agw,og,show j-min w.1 w.2.2.length=0 by omega];rfl
    rw[e];exact⟨hto,agn _⟩
  ·simp only;omega
  ·simp only;omega
 |false=>unfold gZ;rw[ha,af8];have hc:=c0_le (l:=w.2.1) (c:=(ae w.2.2<|w.1-1).1) (x:=2) oay;refine⟨⟨by simp only[age];exact hlen,by simp only[og];omega,λj hj=> ?_,by simp only;omega⟩,by simp only;omega⟩;simp only at hj⊢;rw[G6 oaa];exact h.node j oaa
theorem aes{i0:Nat}(hx0:i0<g.length){y0:lXA}(hy:y0.length=g.length):SR g (1,List.set y0 i0 1,[(i0,0)]) where
 len:=by simp only[age];exact hy
 kl:=afP _
 node:=λj hj=>by
  obtain rfl:j=0:=by simp only at hj;omega
  exact⟨hx0,agn _⟩
 bd:=by
  have:=c0_lt (l:=y0) (c:=i0) (x:=1) oaa oay
  simp only
  omega
theorem YA{i0:Nat}{y0:lXA}{w:Sk}(h:ik g i0 y0 w=false):0<w.1/\kY g w=false:=by grind[ik]
theorem KI(hg:jF g){i0:Nat}(hx0:i0<g.length){y0:lXA}(hy:y0.length=g.length):(∃k,ik g i0 y0 (dD g i0 y0 k)=true)/\ ∀k,k<=eB (ik g i0 y0) (dD g i0 y0)->SR g (dD g i0 y0 k):=by
 have stp: ∀k,SR g (dD g i0 y0 k)->ik g i0 y0 (dD g i0 y0 k)=false->SR g (dD g i0 y0<|k+1)/\2*c0 (dD g i0 y0<|k+1).2.1+(dD g i0 y0<|k+1).1+1<=2*c0 (dD g i0 y0 k).2.1+(dD g i0 y0 k).1:=λk h1 h2=>by obtain⟨h3,h4⟩:=YA h2;exact abq hg h1 h3 h4
 have h0:SR g (dD g i0 y0 0):=aes hx0 hy;have ex: ∃k,ik g i0 y0 (dD g i0 y0 k)=true:=by
  by_cases h: ∃k,ik g i0 y0 (dD g i0 y0 k)=true
  ·exact h
  ·have h: ∀k,ik g i0 y0 (dD g i0 y0 k)=false:=λk=>by
    cases e:ik g i0 y0 (dD g i0 y0 k)with
    |true=>exact absurd ⟨k,e⟩ h
    |false=>rfl
   have all: ∀k,SR g (dD g i0 y0 k):=λk=>by
    induction k with
    |zero=>exact h0
    |succ k ih=>exact(stp k ih<|h k).1
   have key: ∀k,2*c0 (dD g i0 y0 k).2.1+(dD g i0 y0 k).1+k<=2*c0 (dD g i0 y0 0).2.1+(dD g i0 y0 0).1:=λk=>by
    induction k with
    |zero=>exact afP _
    |succ k ih=>have:=(stp k (all k)<|h k).2;omega
   have:=key (2*c0 (dD g i0 y0 0).2.1+(dD g i0 y0 0).1+1);omega
 refine⟨ex,λk=> ?_⟩;induction k with
 |zero=>exact λ_=>h0
 |succ k ih=>exact λhk=>(stp k (ih oaa)<|(iZ ex).2 k oaa).1
end
abbrev zBt:=(List<|Nat×Nat)
abbrev NW(g:List lXC)(i0:Nat)(y0:lXA)(w2:Nat×(lXA)×zBt):Am.Loc:=[(0,.sl 1 (zBd g)),(3,.sr 0 1 0 (length<|zBd g)),(5,.sr 1 2 0 w2.1),(12,I (length (zBd g):Int)),(13,I (i0:Int))]
abbrev YB(g:List lXC)(i0:Nat)(y0:lXA)(w2:Nat×(lXA)×zBt):Am.Loc:=[(2,B true)]
abbrev zCU(g:List lXC)(i0:Nat):Am.Loc:=[(0,.sl 1 (zBd g)),(3,.sr 0 1 0 (length<|zBd g)),(12,I (length (zBd g):Int)),(13,I (i0:Int))]
abbrev YC(g:List lXC)(i0:Nat)(y0:lXA)(w2:Nat×(lXA)×zBt):Am.Loc:=(zCU g i0)
abbrev NX(g:List lXC)(i0:Nat)(y0:lXA)(w2:Nat×(lXA)×zBt):lXE:=[.row 3 1 (map ba w2.2.1),.row 137 2 (map skC w2.2.2)]
abbrev YD(g:List lXC)(i0:Nat)(y0:lXA)(w2:Nat×(lXA)×zBt):lXE:=[]
abbrev YE(g:List lXC)(i0:Nat)(y0:lXA)(w2:Nat×(lXA)×zBt):lXE:=[.row 3 1 (map ba w2.2.1),.row 137 2 (map skC w2.2.2)]
section
variable(g:List lXC)(i0:Nat)(y0:lXA)
def EG:KB:=whK 2 (ik g i0 y0) (sd g i0 y0) (dD g i0 y0) (NW g i0 y0) (NX g i0 y0) .ret (YB g i0 y0) (YD g i0 y0) (.exit 2) (YC g i0 y0) (YE g i0 y0) (λw2=>SR g w2)
abbrev NY(w2:Nat×(lXA)×zBt):List bf:=[whW (ik g i0 y0 w2) (sd g i0 y0 w2) .ret (YB g i0 y0 w2) zb (YD g i0 y0 w2),nxW (ik g i0 y0 w2) (NW g i0 y0<|yo g i0 y0 w2) (NX g i0 y0<|yo g i0 y0 w2) (NW g i0 y0 ((gZ g w2).1,(gZ g w2).2.1,(gZ g w2).2.2)) zBc (NX g i0 y0 ((gZ g w2).1,(gZ g w2).2.1,(gZ g w2).2.2)),wxW (ik g i0 y0 w2) (sd g i0 y0 w2) (.exit 2) (YC g i0 y0 w2) zBc (YE g i0 y0 w2)]
end
def EH:di [3] NV=[(3,oh)]:=by kernel_rfl
section
variable(g:List lXC)
def YF(i0:Nat)(y0:lXA)(hg:jF g)(hx0:i0<(length g))(hy0:length y0=length g):cx pg 96 0 2 (.loop NV) (EG g i0 y0):=have hgl0:=hg.len;whB (NY g i0 y0) (λw2=>(.r [.k,bT]<|.br zDE<|.pick 2)) (yo g i0 y0) 2 (λw2(hw2:SR g w2)=>bB (an (a1 a0)<|brP (λ(h0:(decide<|((w2.1:Nat):Int)>0)=true)=>(an (kbT (KH g i0 y0 w2) h0)<|brP (λ(h1:(kY g w2)=true)=>(lf (wy (NY g i0 y0 w2) 0) 0 ⟨show ik g i0 y0 w2=true from(cdT h0 h1),show sd g i0 y0 w2=true from h0⟩))<|λh1=>(lf (wy (NY g i0 y0 w2) 1) 2<|nxP (NW g i0 y0) (NX g i0 y0) (show ik g i0 y0 w2=false from(cdT h0 h1))<|show(yo g i0 y0 w2)=((gZ g w2).1,(gZ g w2).2.1,(gZ g w2).2.2)from rfl)))<|λh0=>(lf (wy (NY g i0 y0 w2) 2) 2 ⟨show ik g i0 y0 w2=true from(cdF h0 rfl),show sd g i0 y0 w2=false from h0⟩)) oab) (hk:=λw2 hw2=>(bw (l:=[(3,KH g i0 y0 w2)]) EH (aK (Yz g i0 y0 w2 hg hx0 hy0 hw2) rfl aU) rfl))
def tD(i0:Nat)(y0:lXA):lXA:=(bif (ae y0 i0) !=0 then y0 else(kG g i0 y0).2.1)
def dE(kk:Nat):lXA:=Nat.rec (motive:=λ_=>lXA) (replicate (length<|map bJ g) 0) (λj a=>tD g j a) kk
theorem EI(hg:jF g)(i:Nat)(hi:i<=g.length):length (dE g i)=length g:=by
 induction i with
 |zero=>show(replicate _ (0:Int)).length=_;simp
 |succ i ih=>
  show length (tD g i<|dE g i)=_;unfold tD;have ih:=ih oaa;cases ae (dE g i) i !=0 with
  |true=>exact ih
  |false=>exact((KI hg oaa ih).2 _<|afP _).len
end
abbrev yp(g:List lXC)(i0:Nat)(y0:lXA):lXE:=[.row 3 1 (map ba y0)]
section
variable(g:List lXC)(i0:Nat)
abbrev yq:Am.Loc:=(zCU g i0)
abbrev YG:lXE:=yp g i0 (dE g i0)
def mg:Bool:=(!((ae (dE g i0) i0) !=0)&&(sd g i0 (dE g i0)<|kG g i0<|dE g i0))
end
def NZ(g:List lXC):Bool:=dA (length g) (mg g)
abbrev YH(g:List lXC)(i0:Nat):Am.Loc:=[(2,B true)]
abbrev YI(g:List lXC)(i0:Nat):lXE:=[]
abbrev YJ(g:List lXC):Am.Loc:=[]
section
variable(g:List lXC)
abbrev YK:lXE:=[.row 3 1 (map ba<|dE g<|length g)]
def EJ:KB:=anK 0 (length g) (mg g) (yq g) (YG g) .ret (YH g) (YI g) (.exit 0) (YJ g) (YK g) (True)
abbrev N5(i0:Nat):List bf:=[nxW (mg g i0) (yq g<|i0+1) (YG g<|i0+1) (yq g<|i0+1) zAc (yp g (i0+1)<|dE g i0),htW (mg g i0) .ret (YH g i0) zb (YI g i0),nxW (mg g i0) (yq g<|i0+1) (YG g<|i0+1) (yq g<|i0+1) zAc (yp g (i0+1)<|(kG g i0<|dE g i0).2.1)]
end
def EK:di [2] NU=[(2,.loop NV)]:=by kernel_rfl
def YL(g:List lXC)(hg:jF g):cx pg 96 0 0 (.loop NU) (EJ g):=
 anB (N5 g) (λi0=>(.r [.k,bT]<|.yes<|.r [bT]<|.more<|.r [.at i0 0 (ba<|ae (dE g i0) i0),.k,bT]<|.br (zU i0)<|.r [.at i0 0 (ba<|ae (dE g i0) i0),bT]<|.r [bT]<|.br (.pick 1)<|.r (zCB i0)<|.pick 2)) (range 1) zE
 (λ_ i0(hx0:i0<(length g))=>have hgl0:=hg.len;have hgl:=hg.len;have hml:=EI g hg i0 (agx hx0);have l1:=aL bJ (g);have hb:(decide<|(i0:Int)<(length (map bJ g):Int))=true:=afT oaa;
 bB (an (a1 a0)<|an hb<|an a0<|an (a1<|ac (ato 1 0 i0<|rl ba<|dE g i0)<|ac (ixo i0<|length<|map bJ g) a0)<|brP (λ(h1:((ae (dE g i0) i0) !=0)=true)=>have g1:=F4 h1;
 (an (ac (dwo ((i0+1:Nat):Int)) a0)<|lf (wy (N5 g i0) 0) 1<|nxP (λ_=>yq g<|i0+1) (yp g<|i0+1) (show mg g i0=false from(bg<|cI h1))<|show dE g (i0+1)=_ from(cdT h1 rfl)))<|λh1=>have g1:=fY h1;
 (an (ac (sto 1 0 1 i0<|rl ba<|dE g i0)<|ac (ixo i0<|length<|map bJ g) a0)<|an a0<|an (F5 (EG g i0<|dE g i0) (S:=nm<|KB.L0<|EG g i0<|dE g i0) rfl (aW (af1 (λz=>Ob.row 3 1 z)<|l6 (f:=ba) (rl ba<|dE g i0) i0 1)<|aW (rfl:(.row 137 2 [[I (i0:Int),I 0]]:Ob)= .row 137 2 [[I (i0:Int),I 0]]) ee)<|KI hg hx0<|show length (dE g i0)=length g by first|exact hy0|exact EI g hg i0 (agx hx0))<|brP (λ(h2:(sd g i0 (dE g i0)<|kG g i0<|dE g i0)=true)=>(lf (wy (N5 g i0) 1) 0<|show mg g i0=true from(aD (au h1) h2)))<|λh2=>(an (ac (dwo ((i0+1:Nat):Int)) a0)<|lf (wy (N5 g i0) 2) 2<|nxP (λ_=>yq g<|i0+1) (yp g<|i0+1) (show mg g i0=false from(aD (au h1) h2))<|show dE g (i0+1)=_ from(cdF h1 rfl))))
 oab)
 (λ_=>have hgl0:=hg.len;have hgl:=hg.len;have l1:=aL bJ (g);have hb:(decide<|(((length g):Nat):Int)<(length (map bJ g):Int))=false:=afU oaa;
 bB (an (a1 a0)<|an hb<|lx (.exit 0) (YJ g) (range 1) (YK g) 1)
 oab) (hk:=λ_ i0 hx0=>(bw (l:=[(2,EG g i0 (dE g i0))]) EK (aK (YF g i0 (dE g i0) hg hx0<|EI g hg i0<|agx hx0) rfl aU) rfl))
def r30(g:List lXC):Bool:=(NZ g)
def u0:di [0] (aG 50)=[(0,.loop NU)]:=by kernel_rfl
theorem aet(g:List lXC)(hg:jF g):aY pg 50 [.sl 1 (zBd g)] [] [] (B<|r30 g) []:=
 have hgl0:=hg.len;aV 50 (.r [bT]<|.more zf)
 (an a0<|have l1:=aL bJ (g);an (ac (mko (length<|map bJ g) 8) a0)<|an a0<|an (F5 (EJ g) (S:=nm<|KB.L0<|EJ g) rfl (aW (af1 (λz=>Ob.row 3 1 z)<|Rc (f:=ba) (length<|map bJ g) 0) ee) trivial)<|brP (λ(h0:(NZ g)=true)=>(bE<|show r30 g=true from h0))<|λh0=>
 (an a0<|bE<|show r30 g=false from h0)) (hk:=(bw (l:=[(0,EJ g)]) u0 (aK (YL g hg) rfl aU) rfl))
section
variable{g:List lXC}
theorem Rp.head{a b:Nat}(h:Rp g a b):Edg g a b\/ ∃c,Edg g a c/\Rp g c b:=by
 induction h with
 |one e=>exact .inl e
 |step h e ih=>
  rcases ih with h1|⟨c,h1,h2⟩
  ·exact .inr ⟨_,h1,.one e⟩
  ·exact .inr ⟨c,h1,.step h2 e⟩
theorem Rp.closed{D:Nat->Prop}(hc: ∀v,D v-> ∀c,Edg g v c->D c){a b:Nat}(ha:D a)(h:Rp g a b):D b:=by
 induction h with
 |one e=>exact hc _ ha _ e
 |step _ e ih=>exact hc _ ih _ e
theorem yr{v c:Nat}(h:Edg g v c):v<g.length:=by
 unfold Edg at h;by_cases hv:v<g.length
 ·exact hv
 ·simp[ae,agh (show g.length<=v by omega)]at h;cases h
def aeu{v c:Nat}(h:Edg g v c): ∃p,p<(ae g v).length/\ae (ae g v) p=c:=bZ h
end
structure DI(g:List lXC)(w:Sk):Prop where
 col: ∀v,v<g.length->ae w.2.1 v=0\/ae w.2.1 v=1\/ae w.2.1 v=2
 op: ∀v,v<g.length->ae w.2.1 v=1-> ∃j,j<w.1/\(ae w.2.2 j).1=v
 on: ∀j,j<w.1->ae w.2.1 (ae w.2.2 j).1=1
 inj: ∀j j',j<w.1->j'<w.1->(ae w.2.2 j).1=(ae w.2.2 j').1->j=j'
 xK: ∀j,j+1<w.1->Edg g (ae w.2.2 j).1 (ae w.2.2<|j+1).1
 seen: ∀j,j<w.1-> ∀p,p<(ae w.2.2 j).2->ae w.2.1 (ae (ae g (ae w.2.2 j).1) p)=2\/(j+1<w.1/\ae (ae g (ae w.2.2 j).1) p=(ae w.2.2<|j+1).1)
 done: ∀v,v<g.length->ae w.2.1 v=2->(∀c,Edg g v c->ae w.2.1 c=2)/\ ¬Rp g v v
theorem fK{w:Sk}(h:w.1<=w.2.2.length)(hk:0<w.1)(q j:Nat):(ae (lq w q) j).1=(ae w.2.2 j).1:=by grind[fZ,G6]
theorem iG{w:Sk}(h:w.1<=w.2.2.length)(q:Nat)(x:Nat×Nat){j:Nat}(hj:j<w.1):ae (List.take w.1 (lq w q)++ [x]) j=ae (lq w q) j:=by grind[ae,og]
theorem mQ{w:Sk}(h:w.1<=w.2.2.length)(q:Nat)(x:Nat×Nat):ae (List.take w.1 (lq w q)++ [x]) w.1=x:=by grind[ae,og]
def abr{g:List lXC}(hg:jF g){w:Sk}(hw:SR g w)(h:DI g w)(hk:0<w.1)(hh:kY g w=false):DI g (gZ g w)/\ ∀v,v<g.length->ae w.2.1 v≠0->ae (gZ g w).2.1 v≠0:=by
 have hs:=hw.sk hg hk;have hkl:=hw.kl;have hlen:=hw.len;have pass: ∀p,p<eI g w->p<(jy g w).length->ae w.2.1 (kF g w p)=2:=λp hp hpl=>by
  by_cases hq:p<(ae w.2.2<|w.1-1).2
  ·rcases h.seen (w.1-1) oaa p hq with h1|⟨h1,_⟩
   ·exact h1
   ·omega
  ·have hgo:=NT (show(ae w.2.2<|w.1-1).2<=p by omega) hp;unfold Bg at hgo;simp only[afJ,af3,beq_eq_false_iff_ne]at hgo;have ht:kF g w p<g.length:=hg.wf _ (aw hs.node) _ (aw hpl);rcases h.col _ ht with h1|h1|h1
   ·exact absurd h1 hgo.2
   ·exact absurd h1 hgo.1
   ·exact h1
 cases ha:RT g w with
 |true=>
  obtain⟨h1,h2⟩:=sb ha;have hh0:=hh;unfold kY at hh;rw[ha,ags]at hh;unfold Bg at h2;rw[hh,agJ,ags,agr]at h2;have h0:ae w.2.1 (kF g w<|eI g w)=0:=eq_of_beq h2;have hto:kF g w (eI g w)<g.length:=hg.wf _ (aw hs.node) _ (aw h1);have hedge:Edg g (ae w.2.2<|w.1-1).1 (kF g w<|eI g w):=aw h1;have hsx:gZ g w=(w.1+1,List.set w.2.1 (kF g w<|eI g w) 1,List.take w.1 (lq w<|eI g w+1)++ [(kF g w (eI g w),0)]):=by unfold gZ;rw[ha,af2]
  have hpassq: ∀p,p<eI g w->ae w.2.1 (kF g w p)=2:=λp hp=>pass p hp oaa;generalize htt:kF g w (eI g w)=t at*;have hci: ∀v,ae (List.set w.2.1 t (1:Int)) v=if v=t then 1 else ae w.2.1 v:=λv=>iF _ _ _ _ oaa
  have ne2: ∀v,ae w.2.1 v=2->ae (List.set w.2.1 t (1:Int)) v=2:=λv hv=>by rw[hci,if_neg (λe=>by rw[e,h0]at hv;cases hv)];exact hv
  rw[hsx];refine⟨⟨λv hv=> ?_,λv hv hv1=> ?_,λj hj=> ?_,λj j' hj hj' e=> ?_,λj hj=> ?_,λj hj p hp=> ?_,λv hv hv2=> ?_⟩,λv hv hv0=> ?_⟩
  ·simp only[hci];split
   ·exact .inr (.inl rfl)
   ·exact h.col v hv
  ·simp only[hci]at hv1⊢;by_cases e:v=t
   ·exact⟨w.1,ahc _,by rw[mQ hkl,e]⟩
   ·rw[if_neg e]at hv1;obtain⟨j,hj,hjv⟩:=h.op v hv hv1;exact⟨j,by omega,by rw[iG hkl _ _ hj,fK hkl hk];exact hjv⟩
  ·simp only at hj⊢;by_cases hjw:j<w.1
   ·rw[iG hkl _ _ hjw,fK hkl hk,hci];split
    ·rfl
    ·exact h.on j hjw
   ·obtain rfl:j=w.1:=by omega
    rw[mQ hkl,hci,if_pos rfl]
  ·simp only at hj hj' e;by_cases hjw:j<w.1
   ·by_cases hjw':j'<w.1
    ·rw[iG hkl _ _ hjw,iG hkl _ _ hjw',fK hkl hk,fK hkl hk]at e;exact h.inj j j' hjw hjw' e
    ·obtain rfl:j'=w.1:=by omega
     rw[iG hkl _ _ hjw,mQ hkl,fK hkl hk]at e;have:=h.on j hjw;rw[e,h0]at this;cases this
   ·obtain rfl:j=w.1:=by omega
    by_cases hjw':j'<w.1
    ·rw[iG hkl _ _ hjw',mQ hkl,fK hkl hk]at e;have:=h.on j' hjw';rw[<-e,h0]at this;cases this
    ·omega
  ·simp only at hj⊢;by_cases hjw:j+1<w.1
   ·rw[iG hkl _ _ hjw,iG hkl _ _ (show j<w.1 by omega),fK hkl hk,fK hkl hk];exact h.xK j hjw
   ·obtain rfl:j=w.1-1:=by omega
    rw[iG hkl _ _ (show w.1-1<w.1 by omega),fK hkl hk,show w.1-1+1=w.1 by omega,mQ hkl];exact hedge
  ·simp only at hj hp⊢;by_cases hjw:j<w.1
   ·rw[iG hkl _ _ hjw]at hp⊢;rw[fK hkl hk];by_cases hj1:j=w.1-1
    ·subst hj1;rw[fZ hkl hk]at hp;simp only at hp;by_cases hpq:p<eI g w
     ·exact .inl (ne2 _<|hpassq p hpq)
     ·right;obtain rfl:p=eI g w:=by omega
      refine⟨by omega,?_⟩;rw[show w.1-1+1=w.1 by omega,mQ hkl];exact htt
    ·rw[G6 hj1]at hp;rcases h.seen j hjw p hp with h3|⟨h3,h4⟩
     ·exact .inl (ne2 _ h3)
     ·exact .inr ⟨by omega,by rw[iG hkl _ _ h3,fK hkl hk];exact h4⟩
   ·obtain rfl:j=w.1:=by omega
    rw[mQ hkl]at hp;exact absurd hp (Nat.not_lt_zero _)
  ·simp only[hci]at hv2⊢;have hvt:v≠t:=λe=>by rw[if_pos e]at hv2;cases hv2
   rw[if_neg hvt]at hv2;obtain⟨h3,h4⟩:=h.done v hv hv2;exact⟨λc hc=>by have:=ne2 c (h3 c hc);rw[hci]at this;exact this,h4⟩
  ·simp only[hci];split
   ·decide
   ·exact hv0
 |false=>
  have hql:=vy (h:=(hw.node _<|show w.1-1<w.1 by omega).2);have hqe:eI g w=(jy g w).length:=by have:=afN ha;omega
  have hsx:gZ g w=(w.1-1,List.set w.2.1 (ae w.2.2<|w.1-1).1 2,lq w (eI g w)):=by unfold gZ;rw[ha,af8]
  have hu1:=h.on (w.1-1) oaa;have hun:=hs.node;have hall: ∀c,Edg g (ae w.2.2<|w.1-1).1 c->ae w.2.1 c=2:=λc hc=>by obtain⟨p,hp,rfl⟩:=aeu hc;exact pass p (by rw[hqe];exact hp) hp
  have hinj:=λj hj(e:(ae w.2.2 j).1=(ae w.2.2<|w.1-1).1)=>h.inj j (w.1-1) hj oaa e;generalize huu:(ae w.2.2<|w.1-1).1=u at*;have hci: ∀v,ae (List.set w.2.1 u (2:Int)) v=if v=u then 2 else ae w.2.1 v:=λv=>iF _ _ _ _ oaa
  have ne2: ∀v,ae w.2.1 v=2->ae (List.set w.2.1 u (2:Int)) v=2:=λv hv=>by
   rw[hci];split
   ·rfl
   ·exact hv
  have hnr: ¬Rp g u u:=λhr=>by
   have cl: ∀v,ae w.2.1 v=2/\v<g.length-> ∀c,Edg g v c->ae w.2.1 c=2/\c<g.length:=λv hv c hc=>⟨(h.done v hv.2 hv.1).1 c hc,nZ hg.wf hc⟩;have hu2:ae w.2.1 u=2/\u<g.length:=by
    rcases hr.head with h3|⟨c,h3,h4⟩
    ·exact⟨hall u h3,hun⟩
    ·exact Rp.closed (D:=λv=>ae w.2.1 v=2/\v<g.length) cl ⟨hall c h3,nZ hg.wf h3⟩ h4
   rw[hu1]at hu2;exact absurd hu2.1 oay
  rw[hsx];refine⟨⟨λv hv=> ?_,λv hv hv1=> ?_,λj hj=> ?_,λj j' hj hj' e=> ?_,λj hj=> ?_,λj hj p hp=> ?_,λv hv hv2=> ?_⟩,λv hv hv0=> ?_⟩
  ·simp only[hci];split
   ·exact .inr (.inr rfl)
   ·exact h.col v hv
  ·simp only[hci]at hv1⊢;by_cases e:v=u
   ·rw[if_pos e]at hv1;cases hv1
   ·rw[if_neg e]at hv1;obtain⟨j,hj,hjv⟩:=h.op v hv hv1;have:j≠w.1-1:=λe2=>by subst e2;exact e (hjv.symm.trans huu)
    exact⟨j,by omega,by rw[fK hkl hk];exact hjv⟩
  ·simp only at hj⊢;rw[fK hkl hk,hci,if_neg (λe=>by have:=hinj j oaa e;omega)];exact h.on j oaa
  ·simp only at hj hj' e;rw[fK hkl hk,fK hkl hk]at e;exact h.inj j j' oaa oaa e
  ·simp only at hj⊢;rw[fK hkl hk,fK hkl hk];exact h.xK j oaa
  ·simp only at hj hp⊢;rw[G6 oaa]at hp;rw[fK hkl hk,fK hkl hk];rcases h.seen j oaa p hp with h3|⟨h3,h4⟩
   ·exact .inl (ne2 _ h3)
   ·by_cases hj2:j+1<w.1-1
    ·exact .inr ⟨hj2,h4⟩
    ·left;rw[h4,show j+1=w.1-1 by omega,huu,hci,if_pos rfl]
  ·simp only at hv2⊢;by_cases e:v=u
   ·subst e;exact⟨λc hc=>ne2 c (hall c hc),hnr⟩
   ·rw[hci,if_neg e]at hv2;obtain⟨h3,h4⟩:=h.done v hv hv2;exact⟨λc hc=>ne2 c (h3 c hc),h4⟩
  ·simp only[hci];split
   ·decide
   ·exact hv0
def aev{g:List lXC}{w:Sk}(hg:jF g)(hw:SR g w)(h:DI g w)(hk:0<w.1)(hh:kY g w=true): ∃i,Rp g i i:=by
 unfold kY at hh;simp only[afJ]at hh;have h1:=(sb hh.1).1;have hs:=hw.sk hg hk;have hto:kF g w (eI g w)<g.length:=hg.wf _ (aw hs.node) _ (aw h1);have hedge:Edg g (ae w.2.2<|w.1-1).1 (kF g w<|eI g w):=aw h1;obtain⟨j,hj,hjt⟩:=h.op _ hto (eq_of_beq hh.2);have path: ∀d,j+d<w.1->d=0\/Rp g (ae w.2.2 j).1 (ae w.2.2<|j+d).1:=λd=>by
  induction d with
  |zero=>exact λ_=> .inl rfl
  |succ d ih=>
   intro hd;right;have e:=h.xK (j+d) oaa;rcases ih oaa with rfl|h3
   ·exact .one e
   ·exact .step h3 e
 rw[<-hjt]at hedge;refine⟨(ae w.2.2 j).1,?_⟩;rcases path (w.1-1-j) oaa with h3|h3
 ·rw[show w.1-1=j by omega]at hedge;exact .one hedge
 ·rw[show j+(w.1-1-j)=w.1-1 by omega]at h3;exact .step h3 hedge
structure DO(g:List lXC)(y:lXA):Prop where
 len:y.length=g.length
 col: ∀v,v<g.length->ae y v=0\/ae y v=2
 done: ∀v,v<g.length->ae y v=2->(∀c,Edg g v c->ae y c=2)/\ ¬Rp g v v
section
variable{g:List lXC}
theorem di_0{i0:Nat}(hx0:i0<g.length){y:lXA}(h:DO g y)(h0:ae y i0=0):DI g (1,List.set y i0 1,[(i0,0)]):=by
 have hci: ∀v,ae (List.set y i0 (1:Int)) v=if v=i0 then 1 else ae y v:=(by grind[iF,h.len])
 have ne2: ∀v,ae y v=2->ae (List.set y i0 (1:Int)) v=2:=oaI;refine⟨λv hv=> ?_,λv hv hv1=> ?_,λj hj=> ?_,λj j' hj hj' _=> ?_,λj hj=> ?_,λj hj p hp=> ?_,λv hv hv2=> ?_⟩
 ·simp only[hci];split
  ·exact .inr (.inl rfl)
  ·exact(h.col v hv).imp id .inr
 ·simp only[hci]at hv1;by_cases e:v=i0
  ·exact⟨0,ahc _,e.symm⟩
  ·rw[if_neg e]at hv1;rcases h.col v hv with h3|h3<;>rw[h3]at hv1<;>cases hv1
 ·grind[ae]
 ·simp only at hj hj';omega
 ·simp only at hj;omega
 ·obtain rfl:j=0:=by simp only at hj;omega
  exact absurd hp (Nat.not_lt_zero _)
 ·simp only[hci]at hv2;have hvt:v≠i0:=λe=>by rw[if_pos e]at hv2;cases hv2
  rw[if_neg hvt]at hv2;obtain⟨h3,h4⟩:=h.done v hv hv2;simp_all
theorem YM(hg:jF g){i0:Nat}(hx0:i0<g.length){y:lXA}(h:DO g y)(h0:ae y i0=0):(sd g i0 y (kG g i0 y)=true-> ∃i,Rp g i i)/\(sd g i0 y (kG g i0 y)=false->DO g (kG g i0 y).2.1/\(∀v,v<g.length->ae y v=2->ae (kG g i0 y).2.1 v=2)/\ae (kG g i0 y).2.1 i0=2):=by
 obtain⟨ex,sr⟩:=KI hg hx0 h.len;obtain⟨hend,hlt⟩:=iZ ex;have inv: ∀k,k<=eB (ik g i0 y) (dD g i0 y)->DI g (dD g i0 y k)/\(∀v,v<g.length->ae y v≠0->ae (dD g i0 y k).2.1 v≠0)/\ae (dD g i0 y k).2.1 i0≠0:=λk=>by
  induction k with
  |zero=>
   intro _;have hci: ∀v,ae (List.set y i0 (1:Int)) v=if v=i0 then 1 else ae y v:=λv=>iF _ _ _ _ (by rw[h.len];exact hx0)
   refine⟨di_0 hx0 h h0,λv hv hv0=> ?_,?_⟩
   ·show ae (List.set y i0 1) v≠0;rw[hci];split
    ·decide
    ·exact hv0
   ·show ae (List.set y i0 1) i0≠0;rw[hci,if_pos rfl];decide
  |succ k ih=>intro hk;obtain⟨h1,h2,h3⟩:=ih oaa;obtain⟨h4,h5⟩:=YA (hlt k oaa);obtain⟨h6,h7⟩:=abr hg (sr k oaa) h1 h4 h5;exact⟨h6,λv hv hv0=>h7 v hv (h2 v hv hv0),h7 i0 hx0 h3⟩
 obtain⟨hdi,hnz,hi0⟩:=inv _ (afP _);have hsr:=sr _ (afP _);have hE:dD g i0 y (eB (ik g i0 y)<|dD g i0 y)=kG g i0 y:=rfl;rw[hE]at hend hdi hnz hi0 hsr;constructor
 ·intro hh;have hk:0<(kG g i0 y).1:=by have:=afS hh;omega
  refine aev hg hsr hdi hk ?_;unfold ik at hend;rw[show decide ((((kG g i0 y).1:Nat):Int)>0)=true from afT oaa]at hend;exact hend
 ·intro hh;have hk:(kG g i0 y).1=0:=by have:=afN hh;omega
  have hcol: ∀v,v<g.length->ae (kG g i0 y).2.1 v=0\/ae (kG g i0 y).2.1 v=2:=λv hv=>by
   rcases hdi.col v hv with h1|h1|h1
   ·exact .inl h1
   ·obtain⟨j,hj,_⟩:=hdi.op v hv h1;omega
   ·exact .inr h1
  exact⟨⟨hsr.len,hcol,hdi.done⟩,λv hv hv2=>(hcol v hv).resolve_left (hnz v hv<|by rw[hv2];decide),(hcol i0 hx0).resolve_left hi0⟩
theorem ac30(hg:jF g)(i:Nat)(hi:i<=g.length)(hn: ∀j,j<i->mg g j=false):DO g (dE g i)/\ ∀v,v<i->ae (dE g i) v=2:=by
 induction i with
 |zero=>
  have e: ∀v,ae (replicate (length<|map bJ g) (0:Int)) v=0:=λv=>by unfold ae;rw[ago];split<;>rfl
  exact⟨⟨by show(replicate _ (0:Int)).length=_;simp,λv _=> .inl (e v),λv _ h2=>by rw[show ae (dE g 0) v=0 from e v]at h2;cases h2⟩,λv hv=>by omega⟩
 |succ i ih=>
  obtain⟨h1,h2⟩:=ih oaa λj hj=>hn j oaa;have hi2:i<g.length:=by omega
  have ht:=hn i oaa;unfold mg at ht;show DO g (tD g i<|dE g i)/\ ∀v,v<i+1->ae (tD g i<|dE g i) v=2;unfold tD;cases hc:ae (dE g i) i !=0 with
  |true=>
   rw[af2];refine⟨h1,λv hv=> ?_⟩;by_cases e:v=i
   ·subst e;exact(h1.col v hi2).resolve_left (by simpa using hc)
   ·exact h2 v oaa
  |false=>grind[YM]
theorem aew(hg:jF g):r30 g=iS g:=by
 show dA g.length (mg g)=iS g;cases h:dA g.length (mg g)with
 |true=>obtain⟨h1,h2,h3⟩:=iY h;obtain⟨h4,_⟩:=ac30 hg _ (agx h1) h3;unfold mg at h2;simp only[afJ,af3,agI]at h2;exact(aR.2<|(YM hg h1 h4 h2.1).1 h2.2).symm
 |false=>
  obtain⟨h4,h5⟩:=ac30 hg _ (afP _) (bO.1 h);have: ¬ ∃i,Rp g i i:=λ⟨i,hr⟩=>by
   have hi:i<g.length:=by rcases hr.head with h6|⟨c,h6,_⟩<;>exact yr h6
   exact(h4.done i hi<|h5 i hi).2 hr
  grind[iS,aR]
end
def KJ:gI:=λg hg=>by grind[aet,aew]
def G7(n:Net)(hf:ck n):aY pg 18 [.ag (bA n)] [] [] (I<|r10 n) []:=abm n KJ hf
def tE(R:Nat)(a b:lXB):Prop:= ∀i,i<R->ae a i=true->ae b i=true
section
variable{R:Nat}{st:Nat->Bool×lXB->Bool×lXB}{F:lXB->Nat->Bool}(hst: ∀i y,st i y=bif !(ae y.2 i)then(bif F y.2 i then(true,List.set y.2 i true)else(y.1,y.2))else(y.1,y.2))
def u5(st:Nat->Bool×lXB->Bool×lXB)(w:lXB)(k:Nat):Bool×lXB:=Nat.rec (motive:=λ_=>Bool×lXB) (false,w) (λj a=>st j a) k
 include hst
theorem YN(w:lXB)(k:Nat):(u5 st w k).2.length=w.length:=by
 induction k with
 |zero=>rfl
 |succ k ih=>grind[u5]
theorem N6(w:lXB)(k:Nat)(h:(u5 st w k).1=false):(u5 st w k).2=w/\ ∀i,i<k->ae w i=true\/F w i=false:=by
 induction k with
 |zero=>exact⟨rfl,λi hi=>by omega⟩
 |succ k ih=>grind[u5]
theorem G8(w c:lXB)(hw:w.length=R)(hs:tE R w c)(hF: ∀e,tE R e c-> ∀i,i<R->F e i=true->ae c i=true)(k:Nat)(hk:k<=R):tE R (u5 st w k).2 c:=by
 induction k with
 |zero=>exact hs
 |succ k ih=>
  have ih:=ih oaa;have e:u5 st w (k+1)=st k (u5 st w k):=rfl;rw[e,hst];cases h1:ae (u5 st w k).2 k with
  |true=>exact ih
  |false=>
   cases h4:F (u5 st w k).2 k with
   |false=>exact ih
   |true=>
    simp only[agJ,af2];intro i hi hgi;rw[iF _ _ _ _ (by rw[YN hst,hw];omega)]at hgi;by_cases hik:i=k
    ·grind
    ·rw[if_neg hik]at hgi;exact ih i hi hgi
end
def Rp.mono{g g':List lXC}(h: ∀a b,Edg g a b->Edg g' a b){a b:Nat}(r:Rp g a b):Rp g' a b:=by
 induction r with
 |one e=>exact .one (h _ _ e)
 |step _ e ih=>exact .step ih (h _ _ e)
def YO{n:Net}{a b:lXB}(hs:tE n.rules.length a b){e:Edge}(he:e.op=2->0<=e.n/\e.n<(n.rules.length:Int))(h:okT a e=true):okT b e=true:=by
 unfold okT at h⊢;cases h1:e.op==1 with
 |true=>rw[h1]at h;cases h
 |false=>
  rw[h1]at h;cases h2:e.op==2 with
  |true=>rw[h2]at h;have hn:=he (eq_of_beq h2);exact hs e.n.toNat oaa h
  |false=>rfl
def abt{n:Net}(hn:cg n){a b:lXB}(hs:tE n.rules.length a b){x y:Nat}(h:Rp (gA (okT a) n) x y):Rp (gA (okT b) n) x y:=h.mono λi c e=>by have hi:=yr e;rw[qe]at hi;obtain⟨d,hd,h1,h2⟩:=qd.1 e;exact qd.2 ⟨d,hd,YO hs (hn.call _ (aw hi) _ hd) h1,h2⟩
noncomputable def Fe(n:Net)(e:lXB)(i:Nat):Bool:=dec (Rp (gA (okT e) n) (ae n.rules i).start.toNat (ae n.rules i).stop.toNat)
def N7{n:Net}(hn:cg n){a b:lXB}(hs:tE n.rules.length a b)(i:Nat)(h:Fe n a i=true):Fe n b i=true:=aR.2 (abt hn hs<|aR.1 h)
theorem YP{n:Net}(hn:cg n)(e:lXB){i:Nat}(hi:i<n.rules.length):aF (mc n e (ae n.rules i).start) (ae n.rules i).stop=Fe n e i:=by have:=hn.stop _ (aw hi);exact Cb (by rw[qe];omega)
theorem YQ{n:Net}(hn:cg n)(hne: ∀r∈n.rules,r.start≠r.stop)(e:lXB){i:Nat}(hi:i<n.rules.length):aF (ef (okT e) n (ae n.rules i).start.toNat) (ae n.rules i).stop=Fe n e i:=by have h1:=hn.stop _ (aw hi);have h2:=hn.start _ (aw hi);have h3:=hne _ (aw hi);refine(xU oaa).trans ?_;unfold Fe;congr 1;grind
def ClE(n:Net)(c:lXB):Prop:= ∀i,i<n.rules.length->Fe n c i=true->ae c i=true
def N8(n:Net)(c:lXB):tE n.rules.length (replicate (length<|map aC n.rules) false) c:=λi _ h=>by grind[ae]
def RV{n:Net}(hn:cg n):ClE n (r24 n)/\ ∀c,ClE n c->tE n.rules.length (r24 n) c:=by
 have hst: ∀w:Bool×lXB,∀i y,yc n w i y=bif !(ae y.2 i)then(bif (λ(_:lXB) i=>aF (mc n w.2 (ae n.rules i).start) (ae n.rules i).stop) y.2 i then(true,List.set y.2 i true)else(y.1,y.2))else(y.1,y.2):=λw i y=>rfl;have hac: ∀w k,cQ n w k=u5 (yc n w) w.2 k:=λw k=>rfl;obtain⟨ex,len⟩:=XU n;obtain⟨hend,_⟩:=iZ ex;constructor
 ·have he:(od n).1=false:=by grind[ng,od]
  cases hK:eB (ng n) (eA n)with
  |zero=>unfold od at he;rw[hK]at he;cases he
  |succ K=>
   have hE:od n=cQ n (eA n K) n.rules.length:=by unfold od;rw[hK];rfl
   rw[hE,hac]at he;obtain⟨h1,h2⟩:=N6 (F:=λ(_:lXB) i=>aF (mc n (eA n K).2 (ae n.rules i).start) (ae n.rules i).stop) (hst<|eA n K) _ _ he;intro i hi hF;grind[r24,YP]
 ·intro c hc;have key: ∀k,tE n.rules.length (eA n k).2 c:=λk=>by
   induction k with
   |zero=>exact N8 n c
   |succ k ih=>show tE n.rules.length (cQ n (eA n k) n.rules.length).2 c;rw[hac];exact G8 (F:=λ(_:lXB) i=>aF (mc n (eA n k).2 (ae n.rules i).start) (ae n.rules i).stop) (hst<|eA n k) _ c (Cm n k) ih (λe _ i hi hF=>by rw[YP hn _ hi]at hF;exact hc i hi<|N7 hn ih i hF) _ (afP _)
  exact key _
def RW{n:Net}(hn:cg n)(hne: ∀r∈n.rules,r.start≠r.stop):ClE n (r25 n)/\ ∀c,ClE n c->tE n.rules.length (r25 n) c:=by
 have hst: ∀w:Bool×lXB,∀i y,xW n w i y=bif !(ae y.2 i)then(bif (λ(e:lXB) i=>aF (ef (okT e) n (ae n.rules i).start.toNat) (ae n.rules i).stop) y.2 i then(true,List.set y.2 i true)else(y.1,y.2))else(y.1,y.2):=λw i y=>rfl;have hac: ∀w k,ct n w k=u5 (xW n w) w.2 k:=λw k=>rfl;obtain⟨ex,len⟩:=Ww n;obtain⟨hend,_⟩:=iZ ex;constructor
 ·have he:(n7 n).1=false:=by grind[nf,n7]
  cases hK:eB (nf n) (eQ n)with
  |zero=>unfold n7 at he;rw[hK]at he;cases he
  |succ K=>
   have hE:n7 n=ct n (eQ n K) n.rules.length:=by unfold n7;rw[hK];rfl
   rw[hE,hac]at he;obtain⟨h1,h2⟩:=N6 (F:=λ(e:lXB) i=>aF (ef (okT e) n (ae n.rules i).start.toNat) (ae n.rules i).stop) (hst<|eQ n K) _ _ he;intro i hi hF;grind[r25,YQ]
 ·intro c hc;have key: ∀k,tE n.rules.length (eQ n k).2 c:=λk=>by
   induction k with
   |zero=>exact N8 n c
   |succ k ih=>show tE n.rules.length (ct n (eQ n k) n.rules.length).2 c;rw[hac];exact G8 (F:=λ(e:lXB) i=>aF (ef (okT e) n (ae n.rules i).start.toNat) (ae n.rules i).stop) (hst<|eQ n k) _ c (Cg n k) ih (λe hse i hi hF=>by rw[YQ hn hne _ hi]at hF;exact hc i hi<|N7 hn hse i hF) _ (afP _)
  exact key _
def abu{n:Net}(hn:cg n)(hne: ∀r∈n.rules,r.start≠r.stop):r24 n=r25 n:=by
 obtain⟨a1,a2⟩:=RV hn;obtain⟨b1,b2⟩:=RW hn hne;have h1:=a2 _ b1;have h2:=b2 _ a1;refine agd λi=> ?_;have l1:=EE n;have l2:=vq n;by_cases hi:i<n.rules.length
 ·rw[fC oaa,fC oaa];congr 1;cases e1:ae (r24 n) i with
  |true=>exact(h1 i hi e1).symm
  |false=>
   cases e2:ae (r25 n) i with
   |true=>rw[h2 i hi e2]at e1;cases e1
   |false=>rfl
 simp_all
structure Own(n:Net):Prop where
 aH: ∀s∈n.aa,0<=s.aH/\s.aH<(n.rules.length:Int)
 stop: ∀i,i<n.rules.length->(aF n.aa (ae n.rules i).stop).aH=(i:Nat)
 to: ∀s∈n.aa,∀e∈s.ah,(aF n.aa e.to).aH=s.aH
 ne: ∀r∈n.rules,r.start≠r.stop
theorem Cs{n:Net}{s r:Int}(h:r67 n s r=true):(aF n.aa s).aH=r:=by grind[r67]
theorem ownOf{n:Net}(h2:r32 n=true)(h3:r33 n=true):Own n where
 aH:=λs hs=>by
  obtain⟨i,hi,rfl⟩:=bZ hs
  exact(qi h3 hi).1
 stop:=λi hi=>Cs (Ko h2 hi).2
 to:=λs hs e he=>by
  obtain⟨i,hi,rfl⟩:=bZ hs
  obtain⟨k,hk,rfl⟩:=bZ he
  have h:=(qi h3 hi).2 k hk
  grind[r68,Cs]
 ne:=(by grind[bZ,bO,vl,r32,l8])
theorem KK(n:Net)(i4:Nat)(y:lXB)(k v:Nat)(hk:k<=y.length):ae (dT n i4 y k) v=if v<k then(ae (List.set y (ae n.rules i4).stop.toNat true) v||ae (gw n (ae n.rules i4).stop) v)else ae (List.set y (ae n.rules i4).stop.toNat true) v:=by
 induction k generalizing v with
 |zero=>rw[if_neg (Nat.not_lt_zero _)];rfl
 |succ k ih=>
  show ae (yf n i4 y k<|dT n i4 y k) v=_;have hl:k<(dT n i4 y k).length:=by rw[EA];omega
  have e:yf n i4 y k (dT n i4 y k)=List.set (dT n i4 y k) k (ae (dT n i4 y k) k||ae (gw n (ae n.rules i4).stop) k):=by grind[yf]
  grind[iF]
theorem KL{n:Net}(hn:cg n)(k v:Nat)(hk:k<=n.rules.length)(hv:v<n.aa.length):ae (eV n k) v=true↔ ∃i,i<k/\(v=(ae n.rules i).stop.toNat\/Rp (ij n) (ae n.rules i).stop.toNat v):=by
 induction k with
 |zero=>
  constructor
  ·intro h;have h:ae (replicate (length<|map aq n.aa) false) v=true:=h;grind[ae]
  ·rintro⟨i,hi,_⟩;omega
 |succ k ih=>
  have ih:=ih oaa;have hst:=hn.stop _ (aw<|show k<n.rules.length by omega);have hl:=oR n k;show ae (dT n k (eV n k)<|length<|gw n (ae n.rules k).stop) v=true↔_;rw[KK _ _ _ _ _ (by rw[mf,hl];exact afP _),mf,if_pos hv,ag3,iF _ _ _ _ (by rw[hl];omega)];have hfb:ae (gw n (ae n.rules k).stop) v=true↔Rp (ij n) (ae n.rules k).stop.toNat v:=by grind[gw,Cb,me,aR]
  grind
theorem aex(l:lXB):r65 l=dA l.length (λi=> !(ae l i)):=by have e:rS l=λi=> !(ae l i):=(by grind[rS]);unfold r65 r90 Ez;grind
theorem Rp.cons{g:List lXC}{a b c:Nat}(e:Edg g a b)(r:Rp g b c):Rp g a c:=(Rp.one e).trans r
section
variable{n:Net}
theorem EL(hn:cg n){a b:Nat}:Rp (ij n) a b↔Rp (gA okF n) b a:=by
 have he: ∀x y,Edg (ij n) x y↔Edg (gA okF n) y x:=λx y=>by
  rw[Co hn.to,qd];constructor
  ·rintro⟨_,e,h1,h2⟩;exact⟨e,h1,rfl,h2⟩
  ·rintro⟨e,h1,_,h2⟩;refine⟨?_,e,h1,h2⟩;by_cases hy:y<n.aa.length
   ·exact hy
   simp_all[ae,default,instInhabitedState.default]
 constructor
 ·intro h;induction h with
  |one e=>exact .one ((he _ _).1 e)
  |step _ e ih=>exact Rp.cons ((he _ _).1 e) ih
 ·intro h;induction h with
  |one e=>exact .one ((he _ _).2 e)
  |step _ e ih=>exact Rp.cons ((he _ _).2 e) ih
theorem abv(ho:Own n)(hn:cg n){a b:Nat}(h:Rp (gA okF n) a b):(ae n.aa b).aH=(ae n.aa a).aH:=by
 have one: ∀x y,Edg (gA okF n) x y->(ae n.aa y).aH=(ae n.aa x).aH:=λx y e=>by have hx:=yr e;rw[qe]at hx;obtain⟨d,hd,_,h2⟩:=qd.1 e;have:=ho.to _ (aw hx) d hd;rw[<-this,<-h2];rfl
 induction h with
 |one e=>exact one _ _ e
 |step _ e ih=>exact(one _ _ e).trans ih
theorem RY(hn:cg n)(ho:Own n):oQ n=false↔ ∀v,v<n.aa.length->((aF n.rules (ae n.aa v).aH).stop.toNat=v\/Rp (gA okF n) v (aF n.rules (ae n.aa v).aH).stop.toNat):=by
 unfold oQ;rw[bO];have key: ∀v,v<n.aa.length->(uk n v=false↔((aF n.rules (ae n.aa v).aH).stop.toNat=v\/Rp (gA okF n) v (aF n.rules (ae n.aa v).aH).stop.toNat)):=λv hv=>by have hr:=ho.aH _ (aw hv);have hs:=hn.stop _ (rK<|.inr hr);have e:aF (lE n ((v:Nat):Int)) (aF n.rules (ae n.aa v).aH).stop=dec ((aF n.rules (ae n.aa v).aH).stop.toNat=v\/Rp (gA okF n) v (aF n.rules (ae n.aa v).aH).stop.toNat):=xU oaa;grind[uk,aR]
 simp_all
theorem aey(hn:cg n)(ho:Own n):r29 n= !(oQ n):=by
 have hl:=oR n n.rules.length;have h1:r29 n=true↔ ∀v,v<n.aa.length->ae (eV n n.rules.length) v=true:=by grind[r29,aex,bO]
 have h3:r29 n=true↔oQ n=false:=by
  rw[h1,RY hn ho];refine forall_congr' λv=> ?_;refine imp_congr_right λhv=> ?_;rw[KL hn _ _ (afP _) hv];have hr:=ho.aH _ (aw hv);constructor
  ·rintro⟨i,hi,h⟩;have hsi:=ho.stop i hi;have hri:(ae n.aa v).aH=(i:Nat):=by
    rcases h with h|h
    ·rw[h];exact hsi
    ·have:=abv ho hn ((EL hn).1 h);rw[<-this];exact hsi
   have hg:aF n.rules (ae n.aa v).aH=ae n.rules i:=by rw[hri];rfl
   grind[EL]
  ·intro h;refine⟨(ae n.aa v).aH.toNat,by omega,?_⟩;exact h.imp (λe=>e.symm) (EL hn).2
 grind
theorem KM(h:r24 n=r25 n):vw n=vr n:=by unfold vw vr;congr 1;funext i;unfold yn x9;rw[h]
end
structure FM(N:Nat)(y z:gf)(l:lXA):Prop where
 len:z.2.1.length=y.2.1.length
 up: ∀v:Nat,ae y.2.1 v=true->ae z.2.1 v=true
 all: ∀x∈l,ae z.2.1 x.toNat=true
 dn: ∀v:Nat,ae z.2.1 v=true->ae y.2.1 v=true\/((v:Nat):Int)∈l
 le:y.1<=z.1
 kt:z.1<=z.2.2.length
 old: ∀j,j<y.1->ae z.2.2 j=ae y.2.2 j
 new: ∀j,y.1<=j->j<z.1->ae z.2.2 j∈l
 on: ∀v:Nat,ae z.2.1 v=true->ae y.2.1 v=true\/ ∃j,j<z.1/\ae z.2.2 j=((v:Nat):Int)
theorem FM.refl{N:Nat}{y:gf}(h:y.1<=y.2.2.length):FM N y y []:=⟨rfl,λ_ h=>h,λx h=>by simp at h,λ_ h=> .inl h,afP _,h,λ_ _=>rfl,λj h1 h2=>by omega,λ_ h=> .inl h⟩
def FM.push{N:Nat}{y:gf}(hl:y.2.1.length=N)(hk:y.1<=y.2.2.length){x:Int}(h0:0<=x/\x<(N:Int)):FM N y (gS y x) [x]:=by
 unfold gS;cases hx:ae y.2.1 x.toNat with
 |true=>
  refine⟨rfl,λ_ h=>h,λz hz=> ?_,λ_ h=> .inl h,afP _,hk,λ_ _=>rfl,λj h1 h2=> ?_,λ_ h=> .inl h⟩
  ·rw[agZ.1 hz];exact hx
  grind
 |false=>
  simp only[agJ,af2];have hci: ∀v,ae (List.set y.2.1 x.toNat true) v=if v=x.toNat then true else ae y.2.1 v:=λv=>iF _ _ _ _ oaa
  have hpl: ∀j,j<y.1->ae (List.take y.1 y.2.2++ [x]) j=ae y.2.2 j:=(by grind[ae]);have hpa:ae (List.take y.1 y.2.2++ [x]) y.1=x:=by grind[ae]
  refine⟨age,λv h=> ?_,λz hz=> ?_,λv h=> ?_,Nat.le_succ _,?_,hpl,λj h1 h2=> ?_,λv h=> ?_⟩
  ·simp_all
  ·simp_all
  ·grind
  ·simp_all
  ·grind
  grind
theorem FM.trans{N:Nat}{a b c:gf}{l m:lXA}(h:FM N a b l)(k:FM N b c m):FM N a c (l++m) where
 len:=k.len.trans h.len
 up:=λv hv=>k.up v (h.up v hv)
 all:=λx hx=>(agH.1 hx).elim (λhx=>k.up _<|h.all x hx) (k.all x)
 dn:=λv hv=>(k.dn v hv).elim (λhv=>(h.dn v hv).imp id λhm=>ag8 _ hm) λhm=> .inr (List.mem_append_right _ hm)
 le:=agu h.le k.le
 kt:=k.kt
 old:=λj hj=>(k.old j<|agL hj h.le).trans (h.old j hj)
 new:=λj h1 h2=>by
  by_cases hj:j<b.1
  ·rw[k.old j hj];exact ag8 _ (h.new j h1 hj)
  ·exact List.mem_append_right _ (k.new j oaa h2)
 on:=λv hv=>(k.on v hv).elim (λhv=>(h.on v hv).imp id λ⟨j,hj,e⟩=>⟨j,agL hj k.le,(k.old j hj).trans e⟩) λhh=> .inr hh
def FM.fold{N:Nat}: ∀(l:lXA){y:gf},y.2.1.length=N->y.1<=y.2.2.length->(∀x∈l,0<=x/\x<(N:Int))->FM N y (l.foldl gS y) l
 |[],_,_,hk,_=>FM.refl hk
 |x::l,y,hl,hk,hr=>by have h1:=FM.push hl hk (hr x ag7);exact h1.trans (FM.fold l (h1.len.trans hl) h1.kt λz hz=>hr z<|agf _ hz)
structure PI(g:List lXC)(i0:Nat)(w:gf):Prop where
 len:w.2.1.length=g.length
 kt:w.1<=w.2.2.length
 pl: ∀j,j<w.1-> ∃v:Nat,ae w.2.2 j=((v:Nat):Int)/\v<g.length/\(v=i0\/Rp g i0 v)
 mrk: ∀v,ae w.2.1 v=true->Rp g i0 v/\v≠i0
 cl: ∀v,v<g.length->(v=i0\/ae w.2.1 v=true)->(∃j,j<w.1/\ae w.2.2 j=((v:Nat):Int))\/ ∀c,Edg g v c->ae w.2.1 c=true
section
variable{g:List lXC}
theorem pi_0{i0:Nat}(h:i0<g.length):PI g i0 (1,replicate g.length false,[(i0:Int)]):=by
 have e: ∀v,ae (replicate g.length false) v=false:=λv=>by unfold ae;rw[ago];split<;>rfl
 refine⟨by simp,afP _,λj hj=> ?_,λv hv=> ?_,λv hv hh=> ?_⟩
 ·obtain rfl:j=0:=by simp only at hj;omega
  exact⟨i0,rfl,h,.inl rfl⟩
 ·simp only[e]at hv;cases hv
 ·rcases hh with rfl|hh
  ·exact .inl ⟨0,ahc _,rfl⟩
  ·simp only[e]at hh;cases hh
theorem abw(hw:Wf g){i0:Nat}{w:gf}(h:PI g i0 w)(hk:0<w.1){l:lXA}(hl: ∀x:Int,x∈l↔0<=x/\Edg g (ae w.2.2<|w.1-1).toNat x.toNat)(hn:(i0:Int)∉l):PI g i0 (l.foldl gS (w.1-1,w.2.1,w.2.2)):=by
 obtain⟨s,hs1,hs2,hs3⟩:=h.pl (w.1-1) oaa;rw[hs1,ag2]at hl;have hr: ∀x∈l,0<=x/\x<(g.length:Int):=λx hx=>by obtain⟨h1,h2⟩:=(hl x).1 hx;have:=nZ hw h2;omega
 have hf:=FM.fold l (y:=(w.1-1,w.2.1,w.2.2)) h.len (by have:=h.kt;simp only;omega) hr;generalize l.foldl gS (w.1-1,w.2.1,w.2.2)=z at hf;have reach: ∀v:Nat,((v:Nat):Int)∈l->Rp g i0 v:=λv hv=>by
  have:=((hl _).1 hv).2;rw[ag2]at this;rcases hs3 with rfl|h3
  ·exact .one this
  ·exact .step h3 this
 refine⟨hf.len.trans h.len,hf.kt,λj hj=> ?_,λv hv=> ?_,λv hv hh=> ?_⟩
 ·by_cases hjw:j<w.1-1
  ·rw[hf.old j hjw];exact h.pl j oaa
  ·have hm:=hf.new j (by simp only;omega) hj;obtain⟨h1,h2⟩:=hr _ hm;refine⟨(ae z.2.2 j).toNat,by omega,by omega,.inr (reach _ ?_)⟩;rw[show(((ae z.2.2 j).toNat:Nat):Int)=ae z.2.2 j by omega];exact hm
 ·rcases hf.dn v hv with h1|h1
  ·exact h.mrk v h1
  ·exact⟨reach v h1,λe=>hn (e▸h1)⟩
 ·have succ: ∀c,Edg g s c->ae z.2.1 c=true:=λc hc=>by have:=hf.all ((c:Nat):Int) ((hl _).2 ⟨by omega,by rw[ag2];exact hc⟩);rwa[ag2]at this
  have oldc:(v=i0\/ae w.2.1 v=true)->(∃j,j<z.1/\ae z.2.2 j=((v:Nat):Int))\/ ∀c,Edg g v c->ae z.2.1 c=true:=λhh=>by
   rcases h.cl v hv hh with⟨j,hj,e⟩|h1
   ·by_cases hjw:j<w.1-1
    ·exact .inl ⟨j,agL hjw hf.le,(hf.old j hjw).trans e⟩
    ·right;obtain rfl:j=w.1-1:=by omega
     rw[hs1]at e;obtain rfl:s=v:=by omega
     exact succ
   ·exact .inr λc hc=>hf.up c (h1 c hc)
  rcases hh with hh|hh
  ·exact oldc (.inl hh)
  ·rcases hf.on v hh with h1|h1
   ·exact oldc (.inr h1)
   ·exact .inl h1
theorem aez(hw:Wf g){i0:Nat}(hi:i0<g.length){w:gf}(h:PI g i0 w)(hk:w.1=0): ¬Rp g i0 i0:=λhr=>by
 have cl: ∀v,v<g.length->(v=i0\/ae w.2.1 v=true)-> ∀c,Edg g v c->ae w.2.1 c=true:=λv hv hh=>by
  rcases h.cl v hv hh with⟨j,hj,_⟩|h1
  ·omega
  ·exact h1
 have:ae w.2.1 i0=true/\i0<g.length:=by
  rcases hr.head with h1|⟨c,h1,h2⟩
  ·exact⟨cl i0 hi (.inl rfl) _ h1,hi⟩
  ·exact Rp.closed (D:=λv=>ae w.2.1 v=true/\v<g.length) (λv hv c hc=>⟨cl v hv.2 (.inr hv.1) c hc,nZ hw hc⟩) ⟨cl i0 hi (.inl rfl) c h1,nZ hw h1⟩ h2
 exact(h.mrk i0 this.1).2 rfl
theorem aeA{i0:Nat}{w:gf}(h:PI g i0 w)(hk:0<w.1){l:lXA}(hl: ∀x:Int,x∈l↔0<=x/\Edg g (ae w.2.2<|w.1-1).toNat x.toNat)(hm:(i0:Int)∈l):Rp g i0 i0:=by
 obtain⟨s,hs1,_,hs3⟩:=h.pl (w.1-1) oaa;have e:=((hl _).1 hm).2;rw[hs1,ag2,ag2]at e;rcases hs3 with rfl|h3
 ·exact .one e
 ·exact .step h3 e
theorem search(hw:Wf g){i0:Nat}(hi:i0<g.length){T:gf->lXA}{it:Nat->gf}{t:gf->Bool}(h0:it 0=(1,replicate g.length false,[(i0:Int)]))(hs: ∀k,PI g i0 (it k)->0<(it k).1->it (k+1)=(T<|it k).foldl gS ((it k).1-1,(it k).2.1,(it k).2.2))(hT: ∀w,PI g i0 w->0<w.1-> ∀x:Int,x∈T w↔0<=x/\Edg g (ae w.2.2<|w.1-1).toNat x.toNat)(ht: ∀w,PI g i0 w->(t w=true↔(0<w.1->(i0:Int)∈T w)))(ex: ∃k,t (it k)=true):0<(it<|eB t it).1↔Rp g i0 i0:=by
 obtain⟨hend,hlt⟩:=iZ ex;have nt: ∀k,PI g i0 (it k)->t (it k)=false->0<(it k).1/\(i0:Int)∉T (it k):=λk h1 h2=>by
  have h3: ¬(0<(it k).1->(i0:Int)∈T (it k)):=λh=>by rw[(ht _ h1).2 h]at h2;cases h2
  exact⟨Decidable.byContradiction λh=>h3 λh4=>absurd h4 h,λh=>h3 λ_=>h⟩
 have inv: ∀k,k<=eB t it->PI g i0 (it k):=λk=>by
  induction k with
  |zero=>intro _;rw[h0];exact pi_0 hi
  |succ k ih=>intro hk;have h1:=ih oaa;obtain⟨h2,h3⟩:=nt k h1 (hlt k oaa);rw[hs k h1 h2];exact abw hw h1 h2 (hT _ h1 h2) h3
 have hp:=inv _ (afP _);constructor
 ·exact λh=>aeA hp h (hT _ hp h) ((ht _ hp).1 hend h)
 ·exact λh=>Decidable.byContradiction λhn=>aez hw hi hp oaa h
end
noncomputable def gE(n:Net)(emp:lXB):List lXC:=n.aa.map λs=>(s.ah.flatMap<|tgE n emp).map Int.toNat
theorem yt(n:Net)(emp:lXB):(gE n emp).length=n.aa.length:=afW _
theorem YR(n:Net):jL n=gE n (r24 n):=by simp_all[jL,yj,gE]
theorem YS{n:Net}{emp:lXB}{a c:Nat}:Edg (gE n emp) a c↔ ∃x∈(ae n.aa a).ah.flatMap (tgE n emp),x.toNat=c:=by
 have e:ae (gE n emp) a=((ae n.aa a).ah.flatMap<|tgE n emp).map Int.toNat:=by unfold gE ae;rw[afY];cases n.aa[a]? <;>rfl
 unfold Edg;rw[e,agm]
def EM{n:Net}(hn:cg n)(emp:lXB){a:Nat}(ha:a<n.aa.length): ∀x∈(ae n.aa a).ah.flatMap (tgE n emp),0<=x/\x<(n.aa.length:Int):=λx hx=>by obtain⟨e,he,hx⟩:=List.mem_flatMap.1 hx;exact vp hn emp (s:=((a:Nat):Int)) he x hx
def gE_wf{n:Net}(hn:cg n)(emp:lXB):Wf (gE n emp):=λR hR c hc=>by obtain⟨a,ha,rfl⟩:=bZ hR;rw[yt]at ha⊢;obtain⟨x,hx,rfl⟩:=YS.1 (show Edg (gE n emp) a c from hc);have:=EM hn emp ha x hx;omega
def gE_T{n:Net}(hn:cg n)(emp:lXB){a:Nat}(ha:a<n.aa.length)(x:Int):x∈(ae n.aa a).ah.flatMap (tgE n emp)↔0<=x/\Edg (gE n emp) a x.toNat:=by
 rw[YS];constructor
 ·intro h;exact⟨(EM hn emp ha x h).1,x,h,rfl⟩
 ·rintro⟨h0,y,hy,e⟩;have:=(EM hn emp ha y hy).1;grind
def tF{α:Type}[Inhabited α](l:List α)(f:α->lXA)(y:gf){ac:Nat->gf}(h0:ac 0=y)(hs: ∀i,i<l.length->ac (i+1)=(f<|ae l i).foldl gS (ac i)):ac l.length=(l.flatMap f).foldl gS y:=by
 have key: ∀i,i<=l.length->ac i=((range i).flatMap λk=>f<|ae l k).foldl gS y:=λi=>by
  induction i with
  |zero=>intro _;rw[h0];rfl
  |succ i ih=>grind[List.range_succ]
 grind[lF]
theorem G9(n:Net)(emp:lXB)(i0:Nat)(w:gf)(i:Nat):n8 n emp i0 w i=true↔(i0:Int)∈tgE n emp (ae (aF n.aa<|ae w.2.2<|w.1-1).ah i):=by unfold n8 tgE;grind
theorem aeB{n:Net}(hn:cg n)(emp:lXB):r35 n emp=iS (gE n emp):=by
 have one: ∀i0,i0<n.aa.length->(rL n emp i0=true↔Rp (gE n emp) i0 i0):=λi0 hi=>by
  have hs:=search (g:=gE n emp) (gE_wf hn emp) (i0:=i0) (by rw[yt];exact hi) (T:=λw=>(aF n.aa<|ae w.2.2<|w.1-1).ah.flatMap<|tgE n emp) (it:=ek n emp i0) (t:=kD n emp i0) (by
    show(1,replicate (length<|map aq n.aa) false,[(i0:Int)])=_;rw[yt,afW]) (λk _ _=>by
    exact tF (aF n.aa<|ae (ek n emp i0 k).2.2<|(ek n emp i0 k).1-1).ah (tgE n emp) _ (ac:=bk n emp i0<|ek n emp i0 k) rfl λi _=>Ei n emp i0 _ i _) (λw hp hk x=>by
    obtain⟨s,h1,h2,_⟩:=hp.pl (w.1-1) oaa;rw[yt]at h2;rw[h1,ag2];exact gE_T hn emp h2 x) (λw hp=>by
    unfold kD;by_cases hk:0<w.1
    ·rw[show decide (((w.1:Nat):Int)>0)=true from afT oaa,af2];unfold Ej;rw[fD];constructor
     ·grind[aw,G9]
     ·intro h;obtain⟨e,he,hx⟩:=List.mem_flatMap.1 (h hk);obtain⟨i,h1,rfl⟩:=bZ he;exact⟨i,h1,(G9 n emp i0 w i).2 hx⟩
    simp_all) (WK hn emp i0 hi).1
  rw[<-hs];show decide ((((Nn n emp i0).1:Nat):Int)>0)=true↔0<(Nn n emp i0).1;rw[decide_eq_true_eq];omega
 show dA n.aa.length (rL n emp)=iS (gE n emp);have h:dA n.aa.length (rL n emp)=true↔iS (gE n emp)=true:=by
  rw[fD];unfold iS;rw[aR];constructor
  ·grind
  ·rintro⟨i,h⟩;have hi:i<n.aa.length:=by grind[yt,h.head,yr]
   exact⟨i,hi,(one i hi).2 h⟩
 simp_all
theorem abx{n:Net}(hn:cg n)(h:r24 n=r25 n):iS (jL n)=r35 n (r25 n):=by rw[YR,h,aeB hn]
end Go.Proofs.YtfkjfjalecikkaaGreat
end
