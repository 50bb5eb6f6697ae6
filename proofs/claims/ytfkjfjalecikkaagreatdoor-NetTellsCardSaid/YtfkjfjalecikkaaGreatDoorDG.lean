/- Which nets may be (the document's answer). Graphs in memory. Which rules may take nothing. Can each state come to its rule's end? Words 2 and 3 make a net well; graphs of free edges and calls. Which nets may be. Rings (the program's). -/
import Derived.Test.YtfkjfjalecikkaaGreatDoorDF
set_option linter.defProp false
open Go.IntKind (wrap)
noncomputable section
open List (length map range replicate)
set_option maxRecDepth 100000
namespace Go.Proofs.YtfkjfjalecikkaaGreatDoor
open Go.Am
theorem bP{α:Type}[Inhabited α]{l:List α}{x:α}(h:x∈l): ∃i,i<l.length/\ae l i=x:=by obtain⟨i,hi,rfl⟩:=List.mem_iff_getElem.1 h;exact⟨i,hi,by simp[ae,hi]⟩
section
variable{n:Net}
theorem nO{s r:Int}(h:r67 n s r=true):0<=s/\s<(n.aa.length:Int):=by grind[r67]
theorem yj(h:r32 n=true){i:Nat}(hi:i<n.rules.length):r67 n (ae n.rules i).start i=true/\r67 n (ae n.rules i).stop i=true:=by grind[bL,vH,r32,lL]
theorem nP(h:r33 n=true){i:Nat}(hi:i<n.aa.length):(0<=(ae n.aa i).aI/\(ae n.aa i).aI<(n.rules.length:Int))/\ ∀k,k<(ae n.aa i).ah.length->r68 n (ae n.aa i) i (ae (ae n.aa i).ah k)=true:=by
 have:=bL.1 (show De n=false by simpa [r33]using h) i hi;unfold nF at this;simp only[afU,af0,afK]at this;obtain⟨h1,h2,h3⟩:=this;have h3:kD n i=false:=by
  revert h3;cases ((((ae n.aa i).ah.length:Nat):Int)==0)with
  |true=>intro h3;simp only[afN,afU]at h3;exact h3.2
  |false=>exact λh3=>h3
 refine⟨by omega,λk hk=> ?_⟩;have:=bL.1 h3 k hk;unfold rB at this;simp only[afU,aga]at this;exact this.1
section
variable{s:State}{i:Int}{e:Edge}
theorem UM(h:r68 n s i e=true):0<=e.to/\e.to<(n.aa.length:Int):=by unfold r68 at h;simp only[afv,agS]at h;exact nO h.1
theorem UN(h:r68 n s i e=true)(h2:e.op=2):0<=e.n/\e.n<(n.rules.length:Int):=by grind[r68]
end
theorem UO(h2:r32 n=true)(h3:r33 n=true):cc n where
 to:=λs hs e he=>by
  obtain⟨i,hi,rfl⟩:=bP hs
  obtain⟨k,hk,rfl⟩:=bP he
  exact UM ((nP h3 hi).2 k hk)
 call:=λs hs e he h=>by
  obtain⟨i,hi,rfl⟩:=bP hs
  obtain⟨k,hk,rfl⟩:=bP he
  exact UN ((nP h3 hi).2 k hk) h
 start:=λr hr=>by
  obtain⟨i,hi,rfl⟩:=bP hr
  exact nO (yj h2 hi).1
 stop:=λr hr=>by
  obtain⟨i,hi,rfl⟩:=bP hr
  exact nO (yj h2 hi).2
theorem Gp(h2:(!r32 n)=false)(h3:(!r33 n)=false):cc n:=UO (by simpa using h2) (by simpa using h3)
def UP(h:(!r33 n)=false){i:Nat}(hi:i<n.aa.length):0<=(ae n.aa i).aI/\(ae n.aa i).aI<(n.rules.length:Int):=(nP oaN hi).1
end
def vN(n:Net):(r25 n).length=n.rules.length:=by simp[r25,nL,Bm]
noncomputable def kS(n:Net)(x:Int):lXB:=dE okF n x.toNat
def IP(n:Net)(x:Int):(kS n x).length=n.aa.length:=pZ _ _ _
def UQ{n:Net}(hn:cc n)(hf:bW n)(x:Int)(hx:0<=x/\x<(n.aa.length:Int)):aQ pg 34 [eM n,I x,B false,.v (.slice none 0 0)] [] [] (.sl 1<|(kS n x).map az) []:=by have h:=ui (v34F hn.to hf.f0) hn.to hf.f0 x.toNat oaa;rw[show((x.toNat:Nat):Int)=x by omega]at h;grind[fM,pZ,kS,aW,bY]
section
variable(n:Net)
def i31:bC:=⟨31,[eM n],B (r31 n),bW n⟩
def g31:(i31 n).bu pg:=bI λhp=>K6 n hp.h
def i32:bC:=⟨32,[eM n],B (r32 n),bW n⟩
def g32:(i32 n).bu pg:=bI λhp=>aar n (agr hp.rules oaa)
def i33:bC:=⟨33,[eM n],B (r33 n),bW n⟩
def g33:(i33 n).bu pg:=bI λhp=>SX n hp
def i25:bC:=⟨25,[eM n],.sl 1 ((r25 n).map az),cc n/\bW n⟩
def g25:(i25 n).bu pg:=bI λhp=>Aj n hp.1 hp.2
def i34f(x:Int):bC:=⟨34,[eM n,I x,B false,.v (.slice none 0 0)],.sl 1 ((kS n x).map az),cc n/\bW n/\0<=x/\x<(n.aa.length:Int)⟩
def g34f(x:Int):(i34f n x).bu pg:=bI λhp=>UQ hp.1 hp.2.1 x hp.2.2
def i35(emp:lXB):bC:=⟨35,[eM n,.sl 1 (emp.map az)],B (r35 n emp),cc n/\bW n/\emp.length=n.rules.length⟩
def g35(emp:lXB):(i35 n emp).bu pg:=bI λhp=>adT n emp hp.1 hp.2.1 hp.2.2
def i36:bC:=⟨36,[eM n],B (r36 n),cc n/\bW n⟩
def g36:(i36 n).bu pg:=bI λhp=>aaG n hp.1 hp.2
end
def acm:Code:=bn 0 (aG 11)
abbrev UR(n:Net)(i0:Nat):Am.Loc:=(zBk i0 n)
abbrev US(n:Net)(i0:Nat):lXE:=[]
def uk(n:Net)(i0:Nat):Bool:=(!(aB (kS n (i0:Int)) (aB n.rules (ae n.aa i0).aI).stop))
def oI(n:Net):Bool:=cz (length n.aa) (uk n)
abbrev UT(n:Net)(i0:Nat):Am.Loc:=[(2,I 110)]
abbrev UU(n:Net)(i0:Nat):lXE:=[]
abbrev UW(n:Net):Am.Loc:=[(1,.pf (aY n))]
abbrev UX(n:Net):lXE:=[]
def IQ(n:Net):KB:=anK 0 (length n.aa) (uk n) (UR n) (US n) .ret (UT n) (UU n) (.exit 0) (UW n) (UX n) ((!(r32 n))=false/\(!(r33 n))=false)
abbrev UY(n:Net)(i0:Nat):List bG:=[htW (uk n i0) .ret (UT n i0) zI (UU n i0),nxW (uk n i0) (UR n<|i0+1) (US n<|i0+1) (UR n<|i0+1) zI (US n<|i0+1)]
def UZ(n:Net)(hf:bW n):ca pg 80 0 0 (.loop acm) (IQ n):=
 anB (UY n) (λi0=>(.r [.k,bT]<|.yes<|.r [.int 0,.row (aj<|ae n.aa i0),.cq ((ae n.aa i0).aI).toNat (aw<|aB n.rules (ae n.aa i0).aI),.cq ((aB n.rules (ae n.aa i0).aI).stop).toNat (az<|aB (kS n (i0:Int)) (aB n.rules (ae n.aa i0).aI).stop),bT]<|.br zB<|zC i0)) (range 0) zF
 (λ(hp0:(!(r32 n))=false/\(!(r33 n))=false) i0(hx0:i0<(length n.aa))=>have hr:=hf.rules;have hs:=hf.aa;have hn:=Gp hp0.1 hp0.2;have hq:=UP hp0.2 hx0;have hst:=hn.stop _ (lP<|.inr hq);have hrl:=IP n (i0:Int);have l1:=aF aj (n.aa);have hb:(zq i0 n)=true:=afH oaa;
 bq (an (a1 a0)<|an hb<|have l2:=aF az ((kS n (i0:Int)));have l3:=aF aw (n.rules);an (ac (rwz az (kS n (i0:Int)) (aB n.rules (ae n.aa i0).aI).stop)<|ac (rwz aw n.rules (ae n.aa i0).aI)<|ac (rwa aj n.aa i0)<|cA (g34f n (i0:Int)) ⟨hn,hf,by omega⟩ a0)<|brP (λ(h1:(!(aB (kS n (i0:Int)) (aB n.rules (ae n.aa i0).aI).stop))=true)=>(an a0<|lf (wy (UY n i0) 0) 0<|show uk n i0=true from h1))<|λh1=>
 (an (ac (dwo ((i0+1:Nat):Int)) a0)<|lf (wy (UY n i0) 1) 0 ⟨(show uk n i0=false from h1),rfl,rfl⟩))
 oab)
 (λ(hp0:(!(r32 n))=false/\(!(r33 n))=false)=>have hr:=hf.rules;have hs:=hf.aa;have l1:=aF aj (n.aa);have hb:(zQ n)=false:=afI oaa;
 bq (an (a1 a0)<|an hb<|lx (.exit 0) (UW n) (range 0) (UX n) 0)
 oab) (hc:=λhp0 i0 hx0=>(aK (.cons (g34f n (i0:Int)) rfl bB.nil) aC))
def acn:Code:=bn 2 (aG 11)
abbrev U0(n:Net)(i2:Nat):Am.Loc:=[(1,.pf (aY n)),(4,.sl 1 (map az<|r25 n)),(5,I (i2:Int))]
abbrev U1(n:Net)(i2:Nat):lXE:=[]
def yk(n:Net)(i2:Nat):Bool:=((ae n.rules i2).bR&&((!(ae n.rules i2).ft)&&(ae (r25 n) i2)))
def vO(n:Net):Bool:=cz (length n.rules) (yk n)
abbrev U2(n:Net)(i2:Nat):Am.Loc:=[(2,I 110)]
abbrev U3(n:Net)(i2:Nat):lXE:=[]
abbrev U4(n:Net):Am.Loc:=[(1,.pf (aY n)),(4,.sl 1 (map az<|r25 n))]
abbrev U5(n:Net):lXE:=[]
def IS(n:Net):KB:=anK 2 (length n.rules) (yk n) (U0 n) (U1 n) .ret (U2 n) (U3 n) (.exit 2) (U4 n) (U5 n) ((!(r32 n))=false/\(!(r33 n))=false)
abbrev Gq(n:Net)(i2:Nat):List bG:=[htW (yk n i2) .ret (U2 n i2) zI (U3 n i2),nxW (yk n i2) (U0 n<|i2+1) (U1 n<|i2+1) (U0 n<|i2+1) zI (U1 n<|i2+1)]
def U6(n:Net)(hf:bW n):ca pg 80 0 2 (.loop acn) (IS n):=
 anB (Gq n) (λi2=>(.r [.k,bT]<|.yes<|.a (.a (.r (.row (aw<|ae n.rules i2)::uTT 4 (.row (aw<|ae n.rules i2)::uTT 6 [.row (az<|ae (r25 n) i2),bT,bT]))<|.br zB<|.r (zb i2)<|.pick 1)<|.r (.row (aw<|ae n.rules i2)::uTT 4 (.row (aw<|ae n.rules i2)::bT::bT::bT::uFF 4 [bT]))<|.r (zb i2)<|.pick 1)<|.r (.row (aw<|ae n.rules i2)::uFF 11 [bT])<|.r (zb i2)<|.pick 1)) (range 0) zF
 (λ(hp2:(!(r32 n))=false/\(!(r33 n))=false) i2(hx2:i2<(length n.rules))=>have hr:=hf.rules;have hs:=hf.aa;have hrl:=vN n;have l1:=aF aw (n.rules);have hb:(decide<|(i2:Int)<(length (map aw n.rules):Int))=true:=afH oaa;
 bq (an (a1 a0)<|an hb<|aO (λ(h1:((ae n.rules i2).bR)=true)=>have q0:=(ay h1 rfl:yk n i2=_);
 (aO (λ(h2:(!(ae n.rules i2).ft)=true)=>have q1:=q0.trans (ay h2 rfl);
 (an (a1<|ac (rwa az (r25 n) i2)<|aN 2<|ac h2<|aN 3<|ac (rwa aw n.rules i2)<|aN 3<|ac h1<|ac (rwa aw n.rules i2) a0)<|brP (λ(h3:((ae (r25 n) i2))=true)=>(an a0<|lf (wy (Gq n i2) 0) 0<|q1.trans h3))<|λh3=>(an (ac (dwo ((i2+1:Nat):Int)) a0)<|lf (wy (Gq n i2) 1) 0 ⟨(q1.trans h3),rfl,rfl⟩)))<|λh2=>(an (aN 3<|ac (ak h2)<|aN 3<|ac (rwa aw n.rules i2)<|aN 3<|ac h1<|ac (rwa aw n.rules i2) a0)<|an (ac (dwo ((i2+1:Nat):Int)) a0)<|lf (wy (Gq n i2) 1) 0 ⟨(q0.trans<|aT h2),rfl,rfl⟩)))<|λh1=>(an (aN 10<|ac (ak h1)<|ac (rwa aw n.rules i2) a0)<|an (ac (dwo ((i2+1:Nat):Int)) a0)<|lf (wy (Gq n i2) 1) 0 ⟨(show yk n i2=false from(aT h1)),rfl,rfl⟩))
 oab)
 (λ(hp2:(!(r32 n))=false/\(!(r33 n))=false)=>have hr:=hf.rules;have hs:=hf.aa;have l1:=aF aw (n.rules);have hb:(zP n)=false:=afI oaa;
 bq (an (a1 a0)<|an hb<|lx (.exit 2) (U4 n) (range 0) (U5 n) 0)
 oab)
def r11(n:Net):Int:=(bif !(r31 n)then 110 else(bif !(r32 n)then 110 else(bif !(r33 n)then 110 else(bif oI n then 110 else(bif vO n then 110 else(bif r35 n (r25 n)then 110 else(bif r36 n then 110 else 0)))))))
def uY:cy [0,2] (aG 11)=[(0,.loop acm),(2,.loop acn)]:=by kernel_rfl
abbrev zBw:GT:=(.r (.int 0::uFF 6 [bT]) zD)
def LR(n:Net)(hf:bW n):aQ pg 11 [.ag (aY n)] [] [] (I<|r11 n) []:=
 aV 11 (.r [bT]<|.a zBw<|.a (.r [.int 0,bT,bT,.int 1,bT,bF,bF,bF,bT] zD)<|.r [.int 0,bT,bT,.int 1,bT,bT,bT,.int 2,bT,bT]<|.br zD<|.r [bT]<|.br .nil<|.r [.int 3,bT]<|.r [bT]<|.br .nil<|.a (.r [.int 4,bF,bF,bT] zD)<|.r [.int 4,bT,bT,.int 5,bT]<|.br zD zD)
 (an a0<|aO (λ(h0:(!(r31 n))=true)=>(an (aN 5<|ac (n2 h0)<|cA (g31 n) hf a0)<|an a0<|iE<|show r11 n=_ from(cdT h0 rfl)))<|λh0=>(aO (λ(h1:(!(r32 n))=true)=>(an (aN 2<|ac (n2 h1)<|a1<|cA (g32 n) hf<|a1<|ac (ak h0)<|cA (g31 n) hf a0)<|an a0<|iE<|show r11 n=_ from(cdF h0<|cdT h1 rfl)))<|λh1=>(an (a1<|cA (g33 n) hf<|a1<|ac (ak h1)<|a1<|cA (g32 n) hf<|a1<|ac (ak h0)<|cA (g31 n) hf a0)<|brP (λ(h2:(!(r33 n))=true)=>(an a0<|iE<|show r11 n=_ from(cdF h0<|cdF h1<|cdT h2 rfl)))<|λh2=>(an a0<|an (kbT (IQ n) ⟨h1,h2⟩)<|brP (λ(h3:(oI n)=true)=>(iE<|show r11 n=_ from(cdF h0<|cdF h1<|cdF h2<|cdT h3 rfl)))<|λh3=>(an (cA (g25 n) ⟨Gp h1 h2,hf⟩ a0)<|an a0<|an (kbT (IS n) ⟨h1,h2⟩)<|brP (λ(h4:(vO n)=true)=>(iE<|show r11 n=_ from(cdF h0<|cdF h1<|cdF h2<|cdF h3<|cdT h4 rfl)))<|λh4=>(aO (λ(h5:(r35 n<|r25 n)=true)=>(an (a1<|ac (n2 h5)<|cA (g35 n<|r25 n) ⟨Gp h1 h2,hf,vN n⟩ a0)<|an a0<|iE<|show r11 n=_ from(cdF h0<|cdF h1<|cdF h2<|cdF h3<|cdF h4<|cdT h5 rfl)))<|λh5=>(an (cA (g36 n) ⟨Gp h1 h2,hf⟩<|a1<|ac (ak h5)<|cA (g35 n<|r25 n) ⟨Gp h1 h2,hf,vN n⟩ a0)<|brP (λ(h6:(r36 n)=true)=>(an a0<|iE<|show r11 n=_ from(cdF h0<|cdF h1<|cdF h2<|cdF h3<|cdF h4<|cdF h5<|cdT h6 rfl)))<|λh6=>(an a0<|iE<|show r11 n=_ from(cdF h0<|cdF h1<|cdF h2<|cdF h3<|cdF h4<|cdF h5<|cdF h6 rfl))))))))) (hc:=(aK (.cons (g31 n) rfl<|.cons (g32 n) rfl<|.cons (g33 n) rfl<|.cons (g25 n) rfl<|.cons (g35 n<|r25 n) rfl<|.cons (g36 n) rfl bB.nil) aC)) (hk:=(bc (l:=[(0,IQ n),(2,IS n)]) uY (aE (UZ n hf) rfl<|aE (U6 n hf) rfl aP) rfl))
def mQ:Code->Code
 | .block _ c=>c
 |c=>c
def iv(x:Int):Value:= .int .i64 x
def gV(G:List lXA):List (List Value):=G.map λl=>l.map iv
theorem lQ(l:lXA):inner 3 (l.map iv)= .row 3 1 (l.map bg):=by unfold inner aL vs;rw[agK,agK];rfl
theorem nQ(G:List lXA):(gV G).length=G.length:=afK _
def IT{G:List lXA}{j:Nat}(hj:j<G.length):(gV G)[j]? =some ((ae G j).map iv):=by grind[gV,eL]
theorem IU(G:List lXA)(j:Nat)(l:lXA):(gV G).set j (l.map iv)=gV (G.set j l):=by rw[gV,gV,List.map_set]
theorem IV(N:Nat):gV (replicate N [])=replicate N []:=by simp[gV]
abbrev oneI(T:TypeId)(o j:Nat)(xs:List Value)(l:lXA):lXE:=[.row T 1 (aL<|(vs xs).set j<|.sr (o+1) 1 0 l.length),.row 3 1 (l.map bg)]
theorem aaH(o j:Nat)(xs:List Value)(l:lXA):kg o 36 3 j xs (l.map iv)=oneI 36 o j xs l:=by grind[kg,lQ]
def pin1{P:Program}{n:Nat}{c:Code}{L L':Am.Loc}{base:lXE}{G:List lXA}{j:Nat}{R':lXA}{x:AX}(hj:j<G.length)(hrf:c.rf=false)(hx:eA x=true)(uL: ∀p∈L,p.2.und (base.length+1)=true)(uL': ∀p∈L',p.2.und (base.length+1)=true)(ub:base.all (Ob.und<|base.length+1)=true)(nd: ∀X∈base,X≠ .dead)(h: ∀xs:List Value,xs.length=G.length->Piece P n (base.length+1) c L (base++oneI 36 base.length j xs (ae G j)) x L' (base++oneI 36 base.length j xs R')):Piece P n 0 c L (base++cj base.length 36 3 (gV G)) x L' (base++cj base.length 36 3 (gV<|G.set j R')):=by rw[<-IU];refine xB (IT hj) rfl (af7 _) hrf hx (af2.2 uL) (af2.2 uL') ub ub nd λxs hxs=> ?_;grind[aaH,nQ]
theorem Bp(N:Nat): ∀(Rs:List (List Value))(o:Nat),o+Rs.length<=N->cM N (aL<|dB o Rs)=true
 |[],_,_=>rfl
 |R::Rs,o,h=>by simp only[afX]at h;have:=Bp N Rs (o+1) oaa;simp only[dB,aL,afZ,cM,bN,AV.und,Bool.and_true,afv,aha]at this⊢;exact⟨by first|omega|simpa using oaa,this⟩
theorem Ot(N:Nat)(Ti:TypeId)(R:List Value):(inner Ti R).und N=true:=by
 have:cM N (aL<|vs R)=true:=by
  induction R with
  |nil=>rfl
  |cons x R ih=>grind[aL,vs,cM,bN,AV.und]
 simpa [inner,Ob.und]using this
def Ou(Rs:List (List Value))(T Ti:TypeId):(cj 0 T Ti Rs).all (Ob.und<|Rs.length+1)=true:=by grind[cj,Ob.und,Bp,Ot]
def pin2{P:Program}{n:Nat}{c:Code}{Ls Ls' L L':Am.Loc}{G1 G2:List lXA}{N1 j k:Nat}{A' B':lXA}{x:AX}(hN:G1.length=N1)(hj:j<G1.length)(hk:k<G2.length)(hrf:c.rf=false)(hx:eA x=true)(uL: ∀p∈Ls,(nz p.2||p.2.und 1)=true)(uL': ∀p∈Ls',(nz p.2||p.2.und 1)=true)(hL:shL N1 Ls=L)(hL':shL N1 Ls'=L')(h: ∀xs ys:List Value,xs.length=G1.length->ys.length=G2.length->Piece P n 2 c Ls [.row 36 1 (aL<|(vs xs).set j<|.sr 2 1 0 (ae G1 j).length),.row 36 1 (aL<|(vs ys).set k<|.sr 3 1 0 (ae G2 k).length),.row 3 1 ((ae G1 j).map bg),.row 3 1 ((ae G2 k).map bg)] x Ls' [.row 36 1 (aL<|(vs xs).set j<|.sr 2 1 0 A'.length),.row 36 1 (aL<|(vs ys).set k<|.sr 3 1 0 B'.length),.row 3 1 (A'.map bg),.row 3 1 (B'.map bg)]):Piece P n 0 c L (cj 0 36 3 (gV G1)++cj (N1+1) 36 3 (gV G2)) x L' (cj 0 36 3 (gV<|G1.set j A')++cj (N1+1) 36 3 (gV<|G2.set k B')):=by
 subst hN;subst hL;subst hL';rw[<-IU,<-IU];have:=FE (T:=36) (Ti:=3) (x:=x) (Ls:=Ls) (Ls':=Ls') (A':=A'.map iv) (B':=B'.map iv) (IT hj) (IT hk) hrf hx (af2.2 uL) (af2.2 uL') λxs ys hxs hys=>by rw[lQ,lQ,lQ,lQ,afK,afK,afK,afK];exact h xs ys (by rw[hxs,nQ]) (by rw[hys,nQ])
 rw[nQ]at this;exact this
theorem rL(N:Nat):replicate N [AV.v (.slice none 0 0)]=aL (replicate N<|.v<|.slice none 0 0):=by simp[aL]
section
variable{P:Program}{n id:Nat}{c:Code}
theorem Bq{base:lXE}{L Lx Lx2:Am.Loc}{N:Nat}{G:List lXA}{g:List lXF}(hp:Piece P n 0 (.block id<|.loop c) L (base++cj base.length 36 3 (gV<|replicate N [])) .normal Lx (base++cj base.length 36 3 (gV G)))(ub:base.all (Ob.und base.length)=true)(hG:aL (ix<|gV G)=g)(hL: ∀p∈Lx2,(lk Lx p.1=some p.2/\p.2.und base.length=true)\/(lk Lx p.1=some (.sr base.length 1 0 G.length)/\p.2= .sl 1 g)):ca P n 0 id (.loop c) ⟨L,base++ [.row 36 1 (replicate N [.v (.slice none 0 0)])],false,.ret,[],[],.normal,Lx2,base,True⟩:=by refine⟨λ_ e=>oao,λ_ _=> ?_⟩;show Piece P n 0 (.block id<|.loop c) L (base++ [.row 36 1 (replicate N [.v (.slice none 0 0)])]) .normal Lx2 base;rw[rL];refine pI (xC 3<|af7 _) ?_;rw[<-IV];refine eO (dF.refl _ _) hp (kA (af7 _) ub λt av e=> ?_) rfl;rw[hG,nQ];exact hL _ (jf e)
theorem Ov{L L1 Lx Lm Lx2:Am.Loc}{N0 N1 N2:Nat}{G1 G2:List lXA}{g1 g2:List lXF}(hN:N0=N1)(hp:Piece P n 0 (.block id<|.loop c) L1 (cj 0 36 3 (gV<|replicate N0 [])++cj (N1+1) 36 3 (gV<|replicate N2 [])) .normal Lx (cj 0 36 3 (gV G1)++cj (N1+1) 36 3 (gV G2)))(hL1:shL N1 L=L1)(uL: ∀p∈L,(nz p.2||p.2.und 1)=true)(h1:G1.length=N1)(hG1:aL (ix<|gV G1)=g1)(hG2:aL (ix<|gV G2)=g2)(hm: ∀p∈Lm,(lk Lx p.1=some p.2/\p.2.und (N1+1)=true)\/(lk Lx p.1=some (.sr (N1+1) 1 0 G2.length)/\p.2= .sl 1 g2))(hx: ∀p∈Lx2,(lk Lm p.1=some p.2/\p.2.und 0=true)\/(lk Lm p.1=some (.sr 0 1 0 G1.length)/\p.2= .sl 1 g1)):ca P n 0 id (.loop c) ⟨L,[.row 36 1 (replicate N0 [.v (.slice none 0 0)]),.row 36 1 (replicate N2 [.v (.slice none 0 0)])],false,.ret,[],[],.normal,Lx2,[],True⟩:=by
 subst hN;refine⟨λ_ e=>oao,λ_ _=> ?_⟩;show Piece P n 0 (.block id<|.loop c) L [.row 36 1 (replicate N0 [.v (.slice none 0 0)]),.row 36 1 (replicate N2 [.v (.slice none 0 0)])] .normal Lx2 [];rw[rL,rL];refine pI (NO 3<|af2.2 uL) ?_;rw[hL1,<-IV,<-IV];have e1:(cj 0 36 3<|gV G1).length=N0+1:=by rw[sM,nQ,h1]
 have t1:dF 0 Lx (cj 0 36 3 (gV G1)++cj (N0+1) 36 3 (gV G2)) Lm (cj 0 36 3<|gV G1):=by rw[<-e1];refine kA (af7 _) (by rw[sM];exact Ou _ _ _) λt av e=> ?_;simp_all[nQ,jf]
 have t2:dF 0 Lm (cj 0 36 3<|gV G1) Lx2 []:=by refine kA (base:=[]) (af7 _) rfl λt av e=> ?_;simp_all[nQ,jf]
 exact eO (dF.refl _ _) hp (t1.trans t2) rfl
end
theorem rM(G:List lXA):aL (ix<|gV G)=G.map λl=>[.sl 1 (l.map bg)]:=by grind[aL,ix,gV,agB,lQ,inner]
section
variable{step:Nat->Nat->List lXA->List lXA}{len:Nat->Nat}{tg:Nat->Nat->lXA}
theorem aaI(i:Nat)(h: ∀k G,k<len i->step i k G=G.set i (ae G i++tg i k))(G:List lXA)(hi:i<G.length)(k:Nat)(hk:k<=len i):inF step i G k=G.set i (ae G i++(range k).flatMap (tg i)):=by
 induction k with
 |zero=>show G=G.set i (ae G i++ []);rw[agG];refine(af8 λj=> ?_);grind[eL]
 |succ k ih=>grind[inF,List.set_set,List.range_succ,ae]
theorem ym{m:Nat}(h: ∀i k G,i<m->k<len i->step i k G=G.set i (ae G i++tg i k))(i:Nat)(hi:i<=m):gT step len (replicate m []) i=(range i).map (λi=>(range<|len i).flatMap<|tg i)++replicate (m-i) []:=by
 induction i with
 |zero=>show replicate m []=_;simp
 |succ i ih=>
  show inF step i (gT step len (replicate m []) i) (len i)=_;rw[ih oaa,aaI i (λk G hk=>h i k G oaa hk) _ oau _ (afG _)];have e1:ae ((range i).map (λi=>(range<|len i).flatMap<|tg i)++replicate (m-i) ([]:lXA)) i=[]:=by grind[ae]
  rw[e1,List.nil_append,List.set_append_right _ _ oaf,List.range_succ,ag7,agJ];congr 1;simp only[afK,List.length_range,Nat.sub_self];rw[show m-i=(m-(i+1))+1 by omega,List.replicate_succ,List.set_cons_zero];rfl
end
theorem kT{α:Type}[Inhabited α](l:List α)(f:α->lXA):(range l.length).flatMap (λk=>f<|ae l k)=l.flatMap f:=by
 have:l=(range l.length).map (ae l):=by
  refine af8 λi=> ?_;rw[afM];by_cases hi:i<l.length
  ·grind[eL]
  simp_all
 grind[List.flatMap_map]
theorem Br{α β:Type}[Inhabited α](l:List α)(f:α->β):(range l.length).map (λk=>f<|ae l k)=l.map f:=by
 refine af8 λi=> ?_;rw[afM,afM];by_cases hi:i<l.length
 ·grind[eL]
 simp_all
def LS{G:List lXA}{N b c j:Nat}{R':lXA}(h:G.length=N/\ ∀l∈G,l.length<=b)(hbc:b<=c)(hR:R'.length<=c):(G.set j R').length=N/\ ∀l∈G.set j R',l.length<=c:=oay
def LU(N:Nat): ∀l∈replicate N ([]:lXA),l.length<=0*1000000+0:=oaq
noncomputable def tgT(emp:lXB)(e:Edge):lXA:=bif okT emp e then [e.to]else []
def aaJ(emp:lXB)(e:Edge)(l:lXA):(l++tgT emp e).length<=l.length+1:=by unfold tgT;cases okT emp e<;>simp
theorem U7(emp:lXB)(l:List Edge)(h: ∀e∈l,0<=e.to):(l.flatMap<|tgT emp).map bg=((l.filter<|okT emp).map λe=>e.to.toNat).map cU:=by
 induction l with
 |nil=>rfl
 |cons e l ih=>
  rw[List.flatMap_cons,ag7,ih λx hx=>h x (af9 _ hx)];have h0:=h e ag4;unfold tgT;cases ho:okT emp e with
  |true=>rw[List.filter_cons_of_pos ho];simp only[afN,afZ,agA,agC,List.nil_append];rw[show bg e.to=cU e.to.toNat by simp only[bg,cU];grind]
  |false=>simp_all
def adU{n:Net}(hn:rG n)(emp:lXB):((range n.aa.length).map λi=>(range (ae n.aa i).ah.length).flatMap λk=>tgT emp<|ae (ae n.aa i).ah k).map (λl=>[AV.sl 1 (l.map bg)])=(gA (okT emp) n).map bH:=by have h1:(λi=>(range (ae n.aa i).ah.length).flatMap λk=>tgT emp<|ae (ae n.aa i).ah k)=λi=>(λs:State=>s.ah.flatMap<|tgT emp) (ae n.aa i):=funext λi=>kT (ae n.aa i).ah (tgT emp);rw[h1,Br n.aa (λs:State=>s.ah.flatMap<|tgT emp),gA,agK,agK];refine agB λs hs=> ?_;simp only[Function.comp,bH];rw[U7 emp s.ah λe he=>(hn s hs e he).1]
def adV{ok:Edge->Bool}{n:Net}(hf:bW n): ∀R∈gA ok n,R.length<=9223372036854775807:=λR hR=>by unfold gA at hR;obtain⟨s,hs,rfl⟩:=agl.1 hR;rw[afK];exact agr (List.length_filter_le _ _) (agr (hf.ah s hs) oaa)
section
variable(n:Net)(emp:lXB)(x:Int)
noncomputable def lR:lXB:=jW (gA (okT emp) n) x.toNat
theorem Ow:(lR n emp x).length=n.aa.length:=by simp[lR,jW,pY]
end
def aaK{n:Net}(hn:cc n)(hf:bW n)(emp:lXB)(x:Int)(hx:0<=x/\x<(n.aa.length:Int)):aQ pg 59 [.sl 1 ((gA (okT emp) n).map bH),I x] [] [] (.sl 1<|(lR n emp x).map az) []:=by have h:=TK (gA (okT emp) n) x.toNat (by rw[pY];omega) (gA_wf hn.to) (by rw[pY];exact hf.aa) (adV hf);rw[show((x.toNat:Nat):Int)=x by omega]at h;exact h
section
variable(n:Net)(emp:lXB)(x:Int)
def i59:bC:=⟨59,[.sl 1 ((gA (okT emp) n).map bH),I x],.sl 1 ((lR n emp x).map az),cc n/\bW n/\0<=x/\x<(n.aa.length:Int)⟩
def g59:(i59 n emp x).bu pg:=bI λhp=>aaK hp.1 hp.2.1 emp x hp.2.2
end
def Gr:Code:=bn 0 (aG 24)
def jr:Code:=bn 2 Gr
def LV:Code:=bn 4 jr
theorem U8:jr= .seq (sq1 jr) (.seq (sq1<|sq2 jr)<|.seq (.block 3<|.seq (sq1<|mQ<|sq1<|sq2<|sq2 jr)<|.seq (sq1<|sq2<|mQ<|sq1<|sq2<|sq2 jr)<|.block 4<|.loop LV)<|sq2<|sq2<|sq2 jr):=by kernel_rfl
abbrev zAG(i2:Nat)(n:Net):Am.Loc:=[(0,.pf (aY n)),(3,.sr 0 1 0 (length<|zE n)),(4,B false),(5,.sr 1 1 0 (length<|zA n)),(28,.sl 2 (zA n)),(29,I (length (zA n):Int)),(30,I (i2:Int))]
abbrev zAq(i2:Nat)(n:Net):Am.Loc:=[(0,.pf (aY n)),(3,.sr 0 1 0 (length<|zE n)),(4,B false),(5,.sr 1 1 0 (length<|zA n)),(28,.sl 2 (zA n)),(29,I (length (zA n):Int)),(30,I (i2:Int)),(31,B (decide<|(i2:Int)<(length (zA n):Int)))]
abbrev zBQ:GT:=(.r [.k,bT]<|.pick 0)
def adW(n:Net)(w0:Bool×(lXB))(i2:Nat)(hn:cc n)(hf:bW n)(hw0:length w0.2=length n.rules)(hx2:i2<length n.aa)(ob:lXE):Piece pg 100 0 (sq1 jr) (zAG i2 n) ob .normal (zAq i2 n) ob:=bz [3,5] oab rfl oad oac λv=>pvB zBQ [] 0 λz=>(an (a1 a0) z)
abbrev zBT(i2:Nat)(n:Net):Am.Loc:=[(0,.pf (aY n)),(3,.sr 0 1 0 (length<|zE n)),(4,B false),(5,.sr 1 1 0 (length<|zA n)),(28,.sl 2 (zA n)),(29,I (length (zA n):Int)),(30,I (i2:Int)),(31,B true)]
def adX(n:Net)(w0:Bool×(lXB))(i2:Nat)(hn:cc n)(hf:bW n)(hw0:length w0.2=length n.rules)(hx2:i2<length n.aa)(ob:lXE):Piece pg 100 0 (sq1<|sq2 jr) (zAq i2 n) ob .normal (zBT i2 n) ob:=bz [3,5] oab rfl oad oac λv=>pvB (.yes<|.pick 0) [] 0 λz=>have hr:=hf.rules;have hs:=hf.aa;have hed:=hf.ah _ (ai hx2);have l1:=aF aj (n.aa);have hb:(decide<|(i2:Int)<(length (map aj n.aa):Int))=true:=afH oaa;(an hb z)
abbrev zAI(i2:Nat)(n:Net):Am.Loc:=[(0,.pf (aY n)),(3,.sr 0 1 0 (length<|zE n)),(4,B false),(5,.sr 1 1 0 (length<|zA n)),(6,I (i2:Int)),(7,.pf (aj<|ae n.aa i2)),(28,.sl 2 (zA n)),(29,I (length (zA n):Int)),(30,I (i2:Int)),(31,B true),(32,I (i2:Int)),(33,.pf (aj<|ae n.aa i2)),(34,.ag (aj<|ae n.aa i2))]
def adY(n:Net)(w0:Bool×(lXB))(i2:Nat)(hn:cc n)(hf:bW n)(hw0:length w0.2=length n.rules)(hx2:i2<length n.aa)(ob:lXE):Piece pg 100 0 (sq1<|mQ<|sq1<|sq2<|sq2 jr) (zBT i2 n) ob .normal (zAI i2 n) ob:=bz [3,5] oab rfl oad oac λv=>eO (L:=fu [3,5] v [(0,.pf (aY n)),(3,.sr 0 1 0 (length<|map aw n.rules)),(4,B false),(5,.sr 1 1 0 (length<|map aj n.aa)),(28,.sl 2 (map aj n.aa)),(29,I (length (map aj n.aa):Int)),(30,I (i2:Int)),(31,B true)]) (x:= .normal) (L1:=fu [3,5] v [(0,.pf (aY n)),(3,.sr 0 1 0 (length<|map aw n.rules)),(4,B false),(5,.sr 1 1 0 (length<|map aj n.aa)),(6,I (i2:Int)),(7,.pt 0 0),(28,.sl 2 (map aj n.aa)),(29,I (length (map aj n.aa):Int)),(30,I (i2:Int)),(31,B true),(32,I (i2:Int)),(33,.pf (aj<|ae n.aa i2)),(34,.ag (aj<|ae n.aa i2))]) (ob1:=[.box 40 (aj<|ae n.aa i2)]) (dF.refl _ _) (pvB (.r [.row (aj<|ae n.aa i2),bT]<|.pick 0) [0] 1 λz=>have hr:=hf.rules;have hs:=hf.aa;have hed:=hf.ah _ (ai hx2);(an (ac (rwa aj n.aa i2) a0) z)) (oE (ob:=[]) (Tb:=40) (cells:=(aj<|ae n.aa i2)) (af7 _) (L':=fu [3,5] v [(0,.pf (aY n)),(3,.sr 0 1 0 (length<|map aw n.rules)),(4,B false),(5,.sr 1 1 0 (length<|map aj n.aa)),(6,I (i2:Int)),(7,.pf (aj<|ae n.aa i2)),(28,.sl 2 (map aj n.aa)),(29,I (length (map aj n.aa):Int)),(30,I (i2:Int)),(31,B true),(32,I (i2:Int)),(33,.pf (aj<|ae n.aa i2)),(34,.ag (aj<|ae n.aa i2))]) oaj rfl) rfl
abbrev zAD(i2:Nat)(n:Net):=(ae n.aa i2).ah
abbrev zCk(i2:Nat)(n:Net):=(map aD<|zAD i2 n)
def adZ(n:Net)(w0:Bool×(lXB))(i2:Nat)(hn:cc n)(hf:bW n)(hw0:length w0.2=length n.rules)(hx2:i2<length n.aa)(ob:lXE):Piece pg 100 0 (sq1<|sq2<|mQ<|sq1<|sq2<|sq2 jr) (zAI i2 n) ob .normal [(0,.pf (aY n)),(3,.sr 0 1 0 (length<|zE n)),(4,B false),(5,.sr 1 1 0 (length<|zA n)),(6,I (i2:Int)),(28,.sl 2 (zA n)),(29,I (length (zA n):Int)),(30,I (i2:Int)),(36,.sl 10 (zCk i2 n)),(37,I (length (zCk i2 n):Int)),(38,I 0)] ob:=bz [3,5] oab rfl oad oac λv=>pvB zB [] 0 λz=>(an a0 z)
abbrev zCg(i2:Nat)(n:Net):=(decide<|(((length (ae n.aa i2).ah):Nat):Int)<(length (map aD (ae n.aa i2).ah):Int))
section
variable(n:Net)
section
variable(w0:Bool×(lXB))(i2:Nat)
def ad0(hn:cc n)(hf:bW n)(hw0:length w0.2=length n.rules)(hx2:i2<length n.aa)(ob:lXE):Piece pg 100 0 LV [(0,.pf (aY n)),(3,.sr 0 1 0 (length<|zE n)),(4,B false),(5,.sr 1 1 0 (length<|zA n)),(6,I (i2:Int)),(28,.sl 2 (zA n)),(29,I (length (zA n):Int)),(30,I (i2:Int)),(36,.sl 10 (zCk i2 n)),(37,I (length (zCk i2 n):Int)),(38,I (((length<|zAD i2 n):Nat):Int))] ob (.exit 4) (zAG i2 n) ob:=bz [3,5] oab rfl oad oac λv=>pvB zF [] 0 λz=>have hr:=hf.rules;have hs:=hf.aa;have hed:=hf.ah _ (ai hx2);have l1:=aF aD ((ae n.aa i2).ah);have hb:(zCg i2 n)=false:=afI oaa;(an (a1 a0)<|an hb z)
def ad1(hn:cc n)(hf:bW n)(hw0:length w0.2=length n.rules)(hx2:i2<length n.aa)(ob:lXE):Piece pg 100 0 (sq2<|sq2<|sq2 jr) (zAG i2 n) ob .normal [(0,.pf (aY n)),(3,.sr 0 1 0 (length<|zE n)),(4,B false),(5,.sr 1 1 0 (length<|zA n)),(28,.sl 2 (zA n)),(29,I (length (zA n):Int)),(30,I ↑(i2+1))] ob:=bz [3,5] oab rfl oad oac λv=>pvB (.r (zb i2)<|.pick 0) [] 0 λz=>have hr:=hf.rules;have hs:=hf.aa;have hed:=hf.ah _ (ai hx2);(an (ac (dwo ((i2+1:Nat):Int)) a0) z)
end
abbrev zg:=(decide<|(((length n.aa):Nat):Int)<(length (zA n):Int))
abbrev zAp:=((length n.aa):Nat)
abbrev zBC:Am.Loc:=[(0,.pf (aY n)),(3,.sr 0 1 0 (length<|zE n)),(4,B false),(5,.sr 1 1 0 (length<|zA n)),(28,.sl 2 (zA n)),(29,I (length (zA n):Int)),(30,I ((zAp n):Int)),(31,B (zg n))]
section
variable(w0:Bool×(lXB))
def ad2(hn:cc n)(hf:bW n)(hw0:length w0.2=length n.rules)(ob:lXE):Piece pg 100 0 (sq1 jr) [(0,.pf (aY n)),(3,.sr 0 1 0 (length<|zE n)),(4,B false),(5,.sr 1 1 0 (length<|zA n)),(28,.sl 2 (zA n)),(29,I (length (zA n):Int)),(30,I ((zAp n):Int))] ob .normal (zBC n) ob:=bz [3,5] oab rfl oad oac λv=>pvB zBQ [] 0 λz=>(an (a1 a0) z)
def ad3(hn:cc n)(hf:bW n)(hw0:length w0.2=length n.rules)(ob:lXE):Piece pg 100 0 (sq1<|sq2 jr) (zBC n) ob (.exit 2) [(0,.pf (aY n)),(3,.sr 0 1 0 (length<|zE n)),(4,B false),(5,.sr 1 1 0 (length<|zA n))] ob:=bz [3,5] oab rfl oad oac λv=>pvB (.no<|.pick 0) [] 0 λz=>have hr:=hf.rules;have hs:=hf.aa;have l1:=aF aj (n.aa);have hb:(zQ n)=false:=afI oaa;(an hb z)
def eY(i2 i4:Nat)(l:lXA):lXA:=(bif (ae (ae n.aa i2).ah i4).op !=1 then(bif (ae (ae n.aa i2).ah i4).op !=2 then l++ [(ae (ae n.aa i2).ah i4).to]else(bif (ae w0.2<|((ae (ae n.aa i2).ah i4).n).toNat)then l++ [(ae (ae n.aa i2).ah i4).to]else l))else l)
end
end
abbrev zO(i2 i4:Nat)(n:Net):Am.Loc:=[(0,.pf (aY n)),(3,.sr 0 1 0 (length<|zE n)),(4,B false),(5,.sr 1 1 0 (length<|zA n)),(6,I (i2:Int)),(28,.sl 2 (zA n)),(29,I (length (zA n):Int)),(30,I (i2:Int)),(36,.sl 10 (zCk i2 n)),(37,I (length (zCk i2 n):Int)),(38,I ↑(i4+1))]
section
variable(i2 i4:Nat)(l:lXA)(n:Net)(w0:Bool×(lXB))(xs:List Value)
abbrev zDN:lXE:=[.row 4 1 (map az w0.2),.row 36 1 (aL<|List.set (vs xs) i2<|.sr 2 1 0<|length<|l++ [(ae (zAD i2 n) i4).to]),.row 3 1 (map bg<|l++ [(ae (zAD i2 n) i4).to])]
abbrev zDO:lXE:=[.row 4 1 (map az w0.2),.row 36 1 (aL<|List.set (vs xs) i2<|.sr 4 1 0<|length<|l++ [(ae (zAD i2 n) i4).to]),.row 3 1 (map bg<|l++ [(ae (zAD i2 n) i4).to])]
end
section
variable(n:Net)(w0:Bool×(lXB))(i2 i4:Nat)(xs:List Value)(l:lXA)
def rN:gy:=⟨(eY n w0 i2 i4 l)=(l++ [(ae (zAD i2 n) i4).to]),.normal,(zO i2 i4 n),[0,1,4],5,(zDN i2 i4 l n w0 xs),(zDO i2 i4 l n w0 xs)⟩
def rO:gy:=⟨(eY n w0 i2 i4 l)=(l++ [(ae (zAD i2 n) i4).to]),.normal,(zO i2 i4 n),[0,1,4],5,(zDN i2 i4 l n w0 xs),(zDO i2 i4 l n w0 xs)⟩
end
abbrev zAR(l:lXA):AV:=(.sr 2 1 0<|length l)
abbrev zf(i2:Nat)(l:lXA)(w0:Bool×(lXB))(xs:List Value):lXE:=[.row 4 1 (map az w0.2),.row 36 1 (aL<|List.set (vs xs) i2<|zAR l),.row 3 1 (map bg l)]
section
variable(n:Net)(w0:Bool×(lXB))(i2 i4:Nat)(xs:List Value)(l:lXA)
def rP:gy:=⟨(eY n w0 i2 i4 l)=l,.normal,(zO i2 i4 n),[0,1,2],4,(zf i2 l w0 xs),(zf i2 l w0 xs)⟩
def rQ:gy:=⟨(eY n w0 i2 i4 l)=l,.normal,(zO i2 i4 n),[0,1,2],4,(zf i2 l w0 xs),(zf i2 l w0 xs)⟩
end
abbrev zAU(i2 i4:Nat)(n:Net):Am.Loc:=[(0,.pf (aY n)),(3,.sr 0 1 0 (length<|zE n)),(4,B false),(5,.sr 1 1 0 (length<|zA n)),(6,I (i2:Int)),(28,.sl 2 (zA n)),(29,I (length (zA n):Int)),(30,I (i2:Int)),(36,.sl 10 (zCk i2 n)),(37,I (length (zCk i2 n):Int)),(38,I (i4:Int))]
section
variable(n:Net)(w0:Bool×(lXB))
section
variable(i2 i4:Nat)(xs:List Value)(l:lXA)
def ad4(hn:cc n)(hf:bW n)(hw0:length w0.2=length n.rules)(hx2:i2<length n.aa)(hx4:i4<length (ae n.aa i2).ah)(hl1:length xs=(length n.aa))(hr1:length l<=i2*1000000+i4):vcC pg 100 base c7 3000 (kbL []) LV (dX<|zAU i2 i4 n) (dq<|zf i2 l w0 xs) 3 (NR [(rN n w0 i2 i4 xs l),(rO n w0 i2 i4 xs l),(rP n w0 i2 i4 xs l),(rQ n w0 i2 i4 xs l)]) (.r [.k,bT]<|.yes<|.r [.row (aD<|ae (zAD i2 n) i4),bT]<|.a (.a (.r (.k::bT::bT::bT::.k::bT::uFF 5 [bT,bT])<|.r [.at i2 0 [.sr 2 1 0 (length l)],.at i2 0 [.sr 2 1 0 (length l)],bT]<|.r (zi i4)<|.pick 0)<|.r (.k::bT::bT::bT::.k::uTT 5 [.cq (((ae (zAD i2 n) i4).n).toNat) [],bT,.at (((ae (zAD i2 n) i4).n).toNat) 0 (az<|ae w0.2<|((ae (zAD i2 n) i4).n).toNat),bT,bT])<|.br (.r [.at i2 0 [.sr 2 1 0 (length l)],.at i2 0 [.sr 2 1 0 (length l)],bT]<|.r (zi i4)<|.pick 1)<|.r (zi i4)<|.pick 2)<|.r zBh<|.r (zi i4)<|.pick 3):=
 have hr:=hf.rules;have hs:=hf.aa;have lms:=aF aj n.aa;have hed:=hf.ah _ (ai hx2);have hca:=hn.call _ (ai hx2) _ (ai hx4);have hlr:length w0.2=length n.rules:=hw0;have l1:=aF aD ((ae n.aa i2).ah);have hb:(decide<|(i4:Int)<(length (map aD (ae n.aa i2).ah):Int))=true:=afH oaa;
 bq (an (a1 a0)<|an hb<|an (ac (rwa aD (ae n.aa i2).ah i4) a0)<|aO (λ(h1:((ae (ae n.aa i2).ah i4).op !=1)=true)=>have g1:=HJ h1;
 (aO (λ(h2:((ae (ae n.aa i2).ah i4).op !=2)=true)=>have g2:=HJ h2;
 (an (aN 5<|ac (n2 h2)<|aN 4<|ac h1<|a1 a0)<|an (ac (stN (rfl:(aL<|List.set (vs xs) i2<|zAR l)=(aL<|List.set (vs xs) i2<|zAR l)) oaa)<|ac (ixL (z:=i2) (n:=length<|map aj n.aa) oaa)<|ac (apo (length l) 8<|rl bg l)<|ac (atN (rfl:(aL<|List.set (vs xs) i2<|zAR l)=(aL<|List.set (vs xs) i2<|zAR l)) oaa)<|ac (ixL (z:=i2) (n:=length<|map aj n.aa) oaa) a0)<|an (ac (dwo ((i4+1:Nat):Int)) a0)<|lfN (rN n w0 i2 i4 xs l) (show(eY n w0 i2 i4 l)=(l++ [(ae (ae n.aa i2).ah i4).to])from(cdT h1<|cdT h2 rfl))<|bo (rfl:(.row 4 1 (map az w0.2):Ob)= .row 4 1 (map az w0.2))<|bo ((afQ (λz=>Ob.row 36 1 z)<|nA (rfl:(aL<|List.set (vs xs) i2<|zAR l)=(aL<|List.set (vs xs) i2<|zAR l))<|.sr 4 1 0<|length l+1).trans<|afQ (λz=>Ob.row 36 1<|aL<|List.set (vs xs) i2<|.sr 4 1 0 z) oaf)<|bo (afQ (λz=>Ob.row 3 1 z)<|apF (f:=bg) (rl bg l) (k:=length l) oae (ae (ae n.aa i2).ah i4).to) eC))<|λh2=>have g2:=cE h2;
 (have l2:=aF aw (n.rules);an (a1<|ac (ato 1 0 (((ae (ae n.aa i2).ah i4).n).toNat)<|rl az w0.2)<|a1<|ac (ixz (ae (ae n.aa i2).ah i4).n<|length<|map aw n.rules)<|aN 3<|ac (ak h2)<|aN 4<|ac h1<|a1 a0)<|brP (λ(h3:((ae w0.2<|((ae (ae n.aa i2).ah i4).n).toNat))=true)=>(an (ac (stN (rfl:(aL<|List.set (vs xs) i2<|zAR l)=(aL<|List.set (vs xs) i2<|zAR l)) oaa)<|ac (ixL (z:=i2) (n:=length<|map aj n.aa) oaa)<|ac (apo (length l) 8<|rl bg l)<|ac (atN (rfl:(aL<|List.set (vs xs) i2<|zAR l)=(aL<|List.set (vs xs) i2<|zAR l)) oaa)<|ac (ixL (z:=i2) (n:=length<|map aj n.aa) oaa) a0)<|an (ac (dwo ((i4+1:Nat):Int)) a0)<|lfN (rO n w0 i2 i4 xs l) (show(eY n w0 i2 i4 l)=(l++ [(ae (ae n.aa i2).ah i4).to])from(cdT h1<|cdF h2<|cdT h3 rfl))<|bo (rfl:(.row 4 1 (map az w0.2):Ob)= .row 4 1 (map az w0.2))<|bo ((afQ (λz=>Ob.row 36 1 z)<|nA (rfl:(aL<|List.set (vs xs) i2<|zAR l)=(aL<|List.set (vs xs) i2<|zAR l))<|.sr 4 1 0<|length l+1).trans<|afQ (λz=>Ob.row 36 1<|aL<|List.set (vs xs) i2<|.sr 4 1 0 z) oaf)<|bo (afQ (λz=>Ob.row 3 1 z)<|apF (f:=bg) (rl bg l) (k:=length l) oae (ae (ae n.aa i2).ah i4).to) eC))<|λh3=>
 (an (ac (dwo ((i4+1:Nat):Int)) a0)<|lfN (rP n w0 i2 i4 xs l) (show(eY n w0 i2 i4 l)=l from(cdT h1<|cdF h2<|cdF h3 rfl))<|bo (rfl:(.row 4 1 (map az w0.2):Ob)= .row 4 1 (map az w0.2))<|bo (rfl:(.row 36 1 (aL<|List.set (vs xs) i2<|zAR l):Ob)= .row 36 1 (aL<|List.set (vs xs) i2<|zAR l))<|bo (rfl:(.row 3 1 (map bg l):Ob)= .row 3 1 (map bg l)) eC))))<|λh1=>have g1:=cE h1;
 (an (aN 9<|ac (ak h1)<|a1 a0)<|an (ac (dwo ((i4+1:Nat):Int)) a0)<|lfN (rQ n w0 i2 i4 xs l) (show(eY n w0 i2 i4 l)=l from(cdF h1 rfl))<|bo (rfl:(.row 4 1 (map az w0.2):Ob)= .row 4 1 (map az w0.2))<|bo (rfl:(.row 36 1 (aL<|List.set (vs xs) i2<|zAR l):Ob)= .row 36 1 (aL<|List.set (vs xs) i2<|zAR l))<|bo (rfl:(.row 3 1 (map bg l):Ob)= .row 3 1 (map bg l)) eC))
 oab
theorem ad5(hn:cc n)(hf:bW n)(hw0:length w0.2=length n.rules)(hx2:i2<length n.aa)(hx4:i4<length (ae n.aa i2).ah)(hl1:length xs=(length n.aa))(hr1:length l<=i2*1000000+i4):Piece pg 100 2 LV (zAU i2 i4 n) (zf i2 l w0 xs) .normal (zO i2 i4 n) [.row 4 1 (map az w0.2),.row 36 1 (aL<|List.set (vs xs) i2<|.sr 2 1 0<|length<|eY n w0 i2 i4 l),.row 3 1 (map bg<|eY n w0 i2 i4 l)]:=CI (gw aC mixed<|bt _) (ad4 n w0 i2 i4 xs l hn hf hw0 hx2 hx4 hl1 hr1) (dR (o:=(rN n w0 i2 i4 xs l)) (mH rfl rfl rfl (by simp_all[rN,plS,AV.pure])<|bo ((cQ oaf).symm)<|bo ((ew (f:=(bU [0,1,4] 5)) (o:=2) (q:=4) rfl).symm)<|bo ((cQ<|jX _).symm) eC)<|dR (o:=(rO n w0 i2 i4 xs l)) (mH rfl rfl rfl (by simp_all[rO,plS,AV.pure])<|bo ((cQ oaf).symm)<|bo ((ew (f:=(bU [0,1,4] 5)) (o:=2) (q:=4) rfl).symm)<|bo ((cQ<|jX _).symm) eC)<|dR (o:=(rP n w0 i2 i4 xs l)) (mH rfl rfl rfl (by simp_all[rP,plS,AV.pure])<|bo ((cQ oaf).symm)<|bo ((ew (f:=(bU [0,1,2] 4)) (o:=2) (q:=2) rfl).symm)<|bo ((cQ<|jX _).symm) eC)<|dR (o:=(rQ n w0 i2 i4 xs l)) (mH rfl rfl rfl (by simp_all[rQ,plS,AV.pure])<|bo ((cQ oaf).symm)<|bo ((ew (f:=(bU [0,1,2] 4)) (o:=2) (q:=2) rfl).symm)<|bo ((cQ<|jX _).symm) eC) oF) (by grind[rN,rO,rP,rQ])
end
def IW:KB:=⟨[(0,.pf (aY n)),(3,.sr 0 1 0 (length<|zE n)),(4,B false),(5,.sr 1 1 0 (length<|zA n)),(28,.sl 2 (zA n)),(29,I (length (zA n):Int)),(30,I 0)],[.row 4 1 (map az w0.2),.row 36 1 (replicate (length<|zA n) [.v (.slice none 0 0)])],false,.ret,[],[],.normal,[(0,.pf (aY n)),(3,.sr 0 1 0 (length<|zE n)),(4,B false),(5,.sl 1 (map bH<|gA (okT w0.2) n))],(zBr w0),True⟩
theorem td(i2 i4:Nat)(l:lXA):eY n w0 i2 i4 l=l++tgT w0.2 (ae (ae n.aa i2).ah i4):=by grind[eY,tgT,okT,ae,aB]
theorem U9(hn:cc n)(hf:bW n)(hw0:length w0.2=length n.rules):ca pg 100 0 2 (.loop jr) (IW n w0):=by
 skip;have hl:=pQ (P:=Tryz.prog) (n:=100) (K:=0) (d:=3) (S:=λG=>(zBr w0)++cj 1 36 3 (gV G)) (m:=length n.aa) (len:=λi2=>length (ae n.aa i2).ah) (step:=λi2 i4 G=>List.set G i2<|eY n w0 i2 i4<|ae G i2) (I:=λi k G=>G.length=length n.aa/\ ∀l∈G,l.length<=i*1000000+k) (s0:=replicate (length<|map aj n.aa) [])
  (λi2 hx ob=>adW n w0 i2 hn hf hw0 hx ob) (λi2 hx ob=>adX n w0 i2 hn hf hw0 hx ob) (λi2 hx ob=>adY n w0 i2 hn hf hw0 hx ob) (λi2 hx ob=>adZ n w0 i2 hn hf hw0 hx ob)
  (λi2 i4 G hx2 hx4 hI=>⟨pin1 (base:=(zBr w0)) (by rw[hI.1];exact hx2) oab rfl (mqc (aR _ _ oag)<|mqc rfl<|mqc (aR _ _ oag)<|mqc rfl<|mqc (aR _ _ oag)<|mqc (aR _ _ oag)<|mqc (aR _ _ oag)<|mqc (aR _ _ oag)<|mqc (aR _ _ oag)<|mqc (aR _ _ oag)<|mqc (aR _ _ oag) ba) (mqc (aR _ _ oag)<|mqc rfl<|mqc (aR _ _ oag)<|mqc rfl<|mqc (aR _ _ oag)<|mqc (aR _ _ oag)<|mqc (aR _ _ oag)<|mqc (aR _ _ oag)<|mqc (aR _ _ oag)<|mqc (aR _ _ oag)<|mqc (aR _ _ oag) ba) oat (mqc oaf ba) (λxs hxs=>ad5 n w0 i2 i4 xs (ae G i2) hn hf hw0 hx2 hx4 (hxs.trans hI.1)<|hI.2 _<|ai<|by rw[hI.1];exact hx2),LS hI oaa (by have hgl:=(show(eY n w0 i2 i4<|ae G i2).length<=(ae G i2).length+1 by rw[td];exact aaJ _ _ _);have hgm:=hI.2 _ (ai (i:=i2)<|by rw[hI.1];exact hx2);omega)⟩)
  (λi2 hx ob=>ad0 n w0 i2 hn hf hw0 hx ob) (λi2 hx ob=>ad1 n w0 i2 hn hf hw0 hx ob) (λob=>ad2 n w0 hn hf hw0 ob) (λob=>ad3 n w0 hn hf hw0 ob)
  ⟨by simp,LU _⟩ (λi G hi hI=>⟨hI.1,λl hl=>agr (hI.2 l hl) oaF⟩)
 rw[<-U8]at hl;have hG:aL (ix<|gV<|gT (λi2 i4 G=>List.set G i2<|eY n w0 i2 i4<|ae G i2) (λi2=>length (ae n.aa i2).ah) (replicate (length<|map aj n.aa) [])<|length n.aa)=map bH (gA (okT w0.2) n):=by rw[aF,ym (tg:=λi k=>tgT w0.2<|ae (ae n.aa i).ah k) (λi k G _ _=>by rw[td]) _ (afG _),Nat.sub_self,List.replicate_zero,agG,rM];exact adU hn.to _
 have hlen:length (gT (λi2 i4 G=>List.set G i2<|eY n w0 i2 i4<|ae G i2) (λi2=>length (ae n.aa i2).ah) (replicate (length<|map aj n.aa) [])<|length n.aa)=length (map aj n.aa):=by rw[aF,ym (tg:=λi k=>tgT w0.2<|ae (ae n.aa i).ah k) (λi k G _ _=>by rw[td]) _ (afG _)];simp
 exact Bq (base:=(zBr w0)) hl oat hG (mqc (.inl ⟨rfl,(aR _ _ oag)⟩)<|mqc (.inl ⟨rfl,rfl⟩)<|mqc (.inl ⟨rfl,(aR _ _ oag)⟩)<|mqc (.inr ⟨by rw[hlen];rfl,rfl⟩) ba)
end
def aco:Code:=bn 6 Gr
section
variable(n:Net)
def yn(w0:Bool×(lXB))(i6:Nat)(y6:Bool×(lXB)):Bool×(lXB):=(bif !(ae y6.2 i6)then(bif (aB (lR n w0.2 (ae n.rules i6).start) (ae n.rules i6).stop)then(true,List.set y6.2 i6 true)else(y6.1,y6.2))else(y6.1,y6.2))
def cO(w0:Bool×(lXB))(kk:Nat):Bool×(lXB):=Nat.rec (motive:=λ_=>Bool×(lXB)) (false,w0.2) (λj a=>yn n w0 j a) kk
theorem Va(w:Bool×(lXB))(i:Nat):length (cO n w i).2=length w.2:=by
 induction i with
 |zero=>rfl
 |succ i ih=>grind[yn,cO]
theorem low24(w:Bool×(lXB))(hw:length w.2=length n.rules)(i:Nat)(hi:i<=n.rules.length):cf (cO n w i).2+(bif (cO n w i).1 then 1 else 0)<=cf w.2:=by
 induction i with
 |zero=>exact afG _
 |succ i ih=>grind[Va,yn,cO,x5]
abbrev tf(w0:Bool×(lXB))(i6:Nat)(y6:Bool×(lXB)):Am.Loc:=[(0,.pf (aY n)),(3,.sr 0 1 0 (length<|zE n)),(4,B y6.1),(5,.sl 1 (map bH<|gA (okT w0.2) n)),(73,.sl 9 (zE n)),(74,I (length (zE n):Int)),(75,I (i6:Int))]
end
abbrev th(n:Net)(w0:Bool×(lXB))(i6:Nat)(y6:Bool×(lXB)):lXE:=[.row 4 1 (map az y6.2)]
section
variable(n:Net)(w0:Bool×(lXB))
abbrev Vb(i6:Nat):Am.Loc:=tf n w0 i6 (cO n w0 i6)
abbrev Vc(i6:Nat):lXE:=th n w0 i6 (cO n w0 i6)
abbrev zCq:=(cO n w0<|length n.rules)
abbrev Vd:Am.Loc:=[(0,.pf (aY n)),(3,.sr 0 1 0 (length<|zE n)),(4,B ((zCq n w0).1))]
abbrev Ve:lXE:=[.row 4 1 (map az<|(zCq n w0).2)]
def IX:KB:=noK 6 (Vb n w0) (Vc n w0) (.exit 6) (Vd n w0) (Ve n w0) (True)
abbrev LW(i6:Nat):List bG:=[nxW (false) (Vb n w0<|i6+1) (Vc n w0<|i6+1) (tf n w0 (i6+1) (true,List.set ((cO n w0 i6).2) i6 true)) zAT (th n w0 (i6+1) (true,List.set ((cO n w0 i6).2) i6 true)),nxW (false) (Vb n w0<|i6+1) (Vc n w0<|i6+1) (tf n w0 (i6+1) ((cO n w0 i6).1,(cO n w0 i6).2)) zAT (th n w0 (i6+1) ((cO n w0 i6).1,(cO n w0 i6).2))]
theorem Vf(hn:cc n)(hf:bW n)(hw0:length w0.2=length n.rules):ca pg 100 0 6 (.loop aco) (IX n w0):=
 noB (LW n w0) (λi6=>(.r [.k,bT]<|.yes<|.r [.row (aw<|ae n.rules i6),bT]<|.a (.r (.at i6 0 (az<|ae ((cO n w0 i6).2) i6)::uTT 4 [.int 0,bT,bT,bT,.cq ((ae n.rules i6).stop).toNat (az<|aB (lR n w0.2 (ae n.rules i6).start) (ae n.rules i6).stop),bT,bT])<|.br (.r [.at i6 0 (az<|ae ((cO n w0 i6).2) i6),bT]<|.r [.int ↑(i6+1),bT]<|.pick 0)<|.r [.int ↑(i6+1),bT]<|.pick 1)<|.r (.at i6 0 (az<|ae ((cO n w0 i6).2) i6)::uFF 8 [bT])<|.r [.int ↑(i6+1),bT]<|.pick 1)) (range 1) zF (length n.rules)
 (λ_ i6(hx6:i6<(length n.rules))=>have hr:=hf.rules;have hs:=hf.aa;have hl:length (cO n w0 i6).2=length n.rules:=(Va n w0 i6).trans hw0;have hs:=hn.start _ (ai hx6);have ht:=hn.stop _ (ai hx6);have hrl:=Ow n w0.2 (ae n.rules i6).start;have l1:=aF aw (n.rules);have hb:(decide<|(i6:Int)<(length (map aw n.rules):Int))=true:=afH oaa;
 bq (an (a1 a0)<|an hb<|an (ac (rwa aw n.rules i6) a0)<|aO (λ(h1:(!(ae ((cO n w0 i6).2) i6))=true)=>(have l2:=aF az ((lR n w0.2 (ae n.rules i6).start));an (a1<|ac (rwz az (lR n w0.2 (ae n.rules i6).start) (ae n.rules i6).stop)<|aN 3<|cA (g59 n w0.2 (ae n.rules i6).start) ⟨hn,hf,by omega⟩<|aN 3<|ac h1<|ac (ato 1 0 i6<|rl az<|(cO n w0 i6).2)<|ac (ixo i6<|length<|map aw n.rules) a0)<|brP (λ(h2:((aB (lR n w0.2 (ae n.rules i6).start) (ae n.rules i6).stop))=true)=>(an (ac (sto 1 0 1 i6<|rl az<|(cO n w0 i6).2)<|ac (ixo i6<|length<|map aw n.rules) a0)<|an (ac (dwo ((i6+1:Nat):Int)) a0)<|lfE (wy (LW n w0 i6) 0) 2 (nxP (tf n w0<|i6+1) (th n w0<|i6+1) rfl<|show cO n w0 (i6+1)=_ from(cdT h1<|cdT h2 rfl))<|bo (afQ (λz=>Ob.row 4 1 z)<|lH (f:=az) (rl az<|(cO n w0 i6).2) i6 true) eC))<|λh2=>
 (an (ac (dwo ((i6+1:Nat):Int)) a0)<|lf (wy (LW n w0 i6) 1) 2<|nxP (tf n w0<|i6+1) (th n w0<|i6+1) rfl<|show cO n w0 (i6+1)=_ from(cdT h1<|cdF h2 rfl))))<|λh1=>(an (aN 7<|ac (ak h1)<|ac (ato 1 0 i6<|rl az<|(cO n w0 i6).2)<|ac (ixo i6<|length<|map aw n.rules) a0)<|an (ac (dwo ((i6+1:Nat):Int)) a0)<|lf (wy (LW n w0 i6) 1) 2<|nxP (tf n w0<|i6+1) (th n w0<|i6+1) rfl<|show cO n w0 (i6+1)=_ from(cdF h1 rfl)))
 oab)
 (λ_=>have hr:=hf.rules;have hs:=hf.aa;have l1:=aF aw (n.rules);have hb:(zP n)=false:=afI oaa;
 bq (an (a1 a0)<|an hb<|lx (.exit 6) (Vd n w0) (range 1) (Ve n w0) 1)
 oab) (hc:=λ_ i6 hx6=>(aK (.cons (g59 n w0.2 (ae n.rules i6).start) rfl bB.nil) aC))
def qa:Bool×(lXB):=((cO n w0<|length n.rules).1,(cO n w0<|length n.rules).2)
end
def dS(n:Net)(kk:Nat):Bool×(lXB):=Nat.rec (motive:=λ_=>Bool×(lXB)) (true,replicate (length<|map aw n.rules) false) (λ_ a=>qa n a) kk
def mL(n:Net)(w0:Bool×(lXB)):Bool:=(!w0.1)
def nR(n:Net):Bool×(lXB):=dS n (dL (mL n)<|dS n)
theorem Bt(n:Net): ∀k,length (dS n k).2=length n.rules
 |0=>by show length (replicate _ false)=_;simp
 |k+1=>by show length (qa n<|dS n k).2=_;unfold qa;rw[Va,Bt n k]
def Vg(n:Net):(∃k,mL n (dS n k)=true)/\ ∀k,k<=dL (mL n) (dS n)->length (dS n k).2=length n.rules:=by
 refine⟨?_,λk _=>Bt n k⟩;by_cases h: ∃k,mL n (dS n k)=true
 ·exact h
 ·have h: ∀k,(dS n k).1=true:=(by grind[mL]);have key: ∀k,cf (dS n k).2+k<=cf (dS n 0).2:=λk=>by
   induction k with
   |zero=>exact afG _
   |succ k ih=>have h1:=low24 n (dS n k) (Bt n k) n.rules.length (afG _);have h2:(cO n (dS n k) n.rules.length).1=true:=h (k+1);have h3:(dS n<|k+1).2=(cO n (dS n k) n.rules.length).2:=rfl;grind
  have:=key (cf (dS n 0).2+1);omega
abbrev LX(n:Net)(w0:Bool×(lXB)):Am.Loc:=[(0,.pf (aY n)),(3,.sr 0 1 0 (length<|zE n)),(4,B w0.1)]
abbrev Vh(n:Net)(w0:Bool×(lXB)):Am.Loc:=[(3,.sr 0 1 0 (length<|zE n))]
abbrev LY(n:Net)(w0:Bool×(lXB)):lXE:=(zBr w0)
abbrev Vi(n:Net)(w0:Bool×(lXB)):lXE:=(zBr w0)
def yp(n:Net):KB:=whK 0 (mL n) (λ_=>false) (dS n) (LX n) (LY n) .ret (λ_=>[]) (λ_=>[]) (.exit 0) (Vh n) (Vi n) (λw0=>length w0.2=length n.rules)
abbrev Vj(n:Net)(w0:Bool×(lXB)):List bG:=[nxW (mL n w0) (LX n<|qa n w0) (LY n<|qa n w0) (LX n ((zCq n w0).1,(zCq n w0).2)) zAT (LY n ((zCq n w0).1,(zCq n w0).2)),wxW (mL n w0) false (.exit 0) (Vh n w0) zAT (Vi n w0)]
def DL:cy [2,6] Gr=[(2,.loop jr),(6,.loop aco)]:=by kernel_rfl
def Vk(n:Net)(hn:cc n)(hf:bW n):ca pg 100 0 0 (.loop Gr) (yp n):=
 have hr:=hf.rules;have hs:=hf.aa;whB (Vj n) (λw0=>(.r [bT]<|.br (.r [bT]<|.r [bT]<|.r [bT]<|.no<|.r [bT]<|.no<|.pick 0)<|.pick 1)) (qa n) 1 (λw0(hw0:length w0.2=length n.rules)=>have hr:=hf.rules;have hs:=hf.aa;bq (an a0<|brP (λ(h0:(w0.1)=true)=>(an a0<|have l1:=aF aj (n.aa);an (ac (mko (length<|map aj n.aa) 24) a0)<|an a0<|an (kbT (IW n w0) trivial)<|an (rfl:false=false)<|an a0<|an (kbT (IX n w0) trivial)<|an (rfl:false=false)<|lf (wy (Vj n w0) 0) 1<|nxP (LX n) (LY n) (show mL n w0=false from(bQ h0))<|show(qa n w0)=((cO n w0<|length n.rules).1,(cO n w0<|length n.rules).2)from rfl))<|λh0=>(lf (wy (Vj n w0) 1) 1 ⟨show mL n w0=true from(ak h0),rfl⟩))
 oab) (hk:=λw0 hw0=>(bc (l:=[(2,IW n w0),(6,IX n w0)]) DL (aE (U9 n w0 hn hf hw0) rfl<|aE (Vf n w0 hn hf hw0) rfl aP) rfl))
def r24(n:Net):lXB:=(nR n).2
def uZ:cy [0] (aG 24)=[(0,.loop Gr)]:=by kernel_rfl
abbrev zAB(n:Net):=(map az<|r24 n)
theorem Ak(n:Net)(hn:cc n)(hf:bW n):aQ pg 24 [.pf (aY n)] [] [] (.sr 0 1 0<|length<|zE n) [.row 4 1 (zAB n)]:=have hr:=hf.rules;have hs:=hf.aa;gn (fn:=Tryz.f24) (callf:=base) (pu:=c7) (lf:=3000) (l:=[(0,yp n)]) (t:=zBR) aC mixed Tryz.func24 oab (show Tryz.f24.body=some (aG 24) by kernel_rfl) (nbl rfl) (bc (l:=[(0,yp n)]) uZ (aE (Vk n hn hf) rfl aP) rfl) rfl oat (bq (an a0<|have l1:=aF aw (n.rules);an (ac (mko (length<|map aw n.rules) 1) a0)<|an a0<|an (FA (yp n) (S:=nm<|KB.L0<|yp n) rfl (bo (afQ (λz=>Ob.row 4 1 z)<|NK (f:=az) (length<|map aw n.rules) false) eC)<|Vg n)<|an (rfl:false=false)<|an a0<|roE (k:=length<|map aw n.rules) (rfl:(.row 4 1 (map az<|(nR n).2):Ob)= .row 4 1 (map az<|(nR n).2))<|show r24 n=((nR n).2)from rfl) oab)
def acp:Code:=bn 0 (aG 90)
abbrev Vl(l:lXB)(i0:Nat):Am.Loc:=[(0,.sl 1 (map az l)),(1,B false),(7,I (length (map az l):Int)),(8,I (i0:Int))]
abbrev Vm(l:lXB)(i0:Nat):lXE:=[]
def rR(l:lXB)(i0:Nat):Bool:=(false==(ae l i0))
def DM(l:lXB):Bool:=cz (length l) (rR l)
abbrev Vn(l:lXB)(i0:Nat):Am.Loc:=[(4,I (i0:Int))]
abbrev Vo(l:lXB)(i0:Nat):lXE:=[]
abbrev Vp(l:lXB):Am.Loc:=[]
abbrev Vq(l:lXB):lXE:=[]
def IY(l:lXB):KB:=anK 0 (length l) (rR l) (Vl l) (Vm l) .ret (Vn l) (Vo l) (.exit 0) (Vp l) (Vq l) (True)
abbrev Vr(l:lXB)(i0:Nat):List bG:=[htW (rR l i0) .ret (Vn l i0) zI (Vo l i0),nxW (rR l i0) (Vl l<|i0+1) (Vm l<|i0+1) (Vl l<|i0+1) zI (Vm l<|i0+1)]
def Vs(l:lXB)(ls:length l<=9223372036854775807):ca pg 19 0 0 (.loop acp) (IY l):=
 anB (Vr l) (λi0=>(.r [.k,bT]<|.yes<|.r [bT]<|.r [.row (az<|ae l i0),.k,bT]<|.br zB<|zC i0)) (range 0) zF
 (λ_ i0(hx0:i0<(length l))=>have l1:=aF az (l);have hb:(decide<|(i0:Int)<(length (map az l):Int))=true:=afH oaa;
 bq (an (a1 a0)<|an hb<|an a0<|an (a1<|ac (rwa az l i0) a0)<|brP (λ(h1:(false==(ae l i0))=true)=>(an a0<|lf (wy (Vr l i0) 0) 0<|show rR l i0=true from h1))<|λh1=>(an (ac (dwo ((i0+1:Nat):Int)) a0)<|lf (wy (Vr l i0) 1) 0 ⟨(show rR l i0=false from h1),rfl,rfl⟩))
 oab)
 (λ_=>have l1:=aF az (l);have hb:(decide<|(((length l):Nat):Int)<(length (map az l):Int))=false:=afI oaa;
 bq (an (a1 a0)<|an hb<|lx (.exit 0) (Vp l) (range 0) (Vq l) 0)
 oab)
def r90(l:lXB):Int:=(bif DM l then(((gQ (length l)<|rR l):Nat):Int)else(-1))
def u0:cy [0] (aG 90)=[(0,.loop acp)]:=by kernel_rfl
section
variable(l:lXB)
def idx90(ls:length l<=9223372036854775807):aQ pg 90 [.sl 1 (map az l),B false] [] [] (I<|r90 l) []:=
 aV 90 zBS
 (an a0<|an a0<|an (kbT (IY l) trivial)<|brP (λ(h0:(DM l)=true)=>(iE<|show r90 l=_ from(cdT h0 rfl)))<|λh0=>(an a0<|iE<|show r90 l=_ from(cdF h0 rfl))) (hk:=(bc (l:=[(0,IY l)]) u0 (aE (Vs l ls) rfl aP) rfl))
def i90:bC:=⟨90,[.sl 1 (l.map az),B false],I (r90 l),l.length<=9223372036854775807⟩
def g90:(i90 l).bu pg:=bI λhp=>idx90 l hp
def r65:Bool:=decide ((r90 l)>=0)
def IZ(ls:length l<=9223372036854775807):aQ pg 65 [.sl 1 (map az l),B false] [] [] (B<|r65 l) []:=
 aV 65 zCC
 (an a0<|an (a1<|cA (g90 l) ls a0)<|bE<|show r65 l=(decide<|(r90 l)>=0)from rfl) (hc:=(aK (.cons (g90 l) rfl bB.nil) aC))
def i65(k:Nat):kz:=⟨65,[.sr 0 1 0 k,B false],[.row 4 1 (l.map az)],B (r65 l),l.length=k/\l.length<=9223372036854775807⟩
theorem g65(k:Nat):(i65 l k).bu pg:=λhp=>by have hp:l.length=k/\l.length<=9223372036854775807:=hp;refine fW rfl (xI (X:= .row 4 1<|l.map az) (.inl ⟨_,_,_,rfl⟩) (fk.cons (Frz.sr0 rfl<|by simp[hp.1])<|fk.cons (Frz.same _) fk.nil) ?_ (IZ l hp.2));simp[aq,AV.pure]
end
theorem il{α:Type}[Inhabited α](G:List α)(j t:Nat)(x:α)(hj:j<G.length):ae (G.set j x) t=if t=j then x else ae G t:=by grind[ae]
section
variable{step:Nat->Nat->List lXA->List lXA}{len:Nat->Nat}{to:Nat->Nat->Nat}{xs:Nat->Nat->lXA}{N m:Nat}
theorem LZ(h: ∀i k G,i<m->k<len i->step i k G=G.set (to i k) (ae G (to i k)++xs i k)){i:Nat}(hi:i<m)(G:List lXA)(k:Nat)(hk:k<=len i):(inF step i G k).length=G.length:=by
 induction k with
 |zero=>rfl
 |succ k ih=>grind[inF]
theorem yq(h: ∀i k G,i<m->k<len i->step i k G=G.set (to i k) (ae G (to i k)++xs i k))(G:List lXA)(i:Nat)(hi:i<=m):(gT step len G i).length=G.length:=by
 induction i with
 |zero=>rfl
 |succ i ih=>show(inF step i (gT step len G i)<|len i).length=_;rw[LZ h oaa _ _ (afG _),ih oaa]
theorem aaL(h: ∀i k G,i<m->k<len i->step i k G=G.set (to i k) (ae G (to i k)++xs i k))(ht: ∀i k,i<m->k<len i->to i k<N){i:Nat}(hi:i<m)(G:List lXA)(hG:G.length=N)(k:Nat)(hk:k<=len i)(t:Nat)(c:Int):c∈ae (inF step i G k) t↔c∈ae G t\/ ∃q,q<k/\to i q=t/\c∈xs i q:=by
 induction k with
 |zero=>exact⟨.inl,λh=>h.elim id oaa⟩
 |succ k ih=>show c∈ae (step i k<|inF step i G k) t↔_;rw[h i k _ hi oaa,il _ _ _ _ (by rw[LZ h hi G k oaa,hG];exact ht i k hi oaa)];grind
theorem Gs(h: ∀i k G,i<m->k<len i->step i k G=G.set (to i k) (ae G (to i k)++xs i k))(ht: ∀i k,i<m->k<len i->to i k<N)(i:Nat)(hi:i<=m)(t:Nat)(c:Int):c∈ae (gT step len (replicate N []) i) t↔ ∃p,p<i/\ ∃q,q<len p/\to p q=t/\c∈xs p q:=by
 induction i with
 |zero=>
  constructor
  ·intro hc;have hc:c∈ae (replicate N ([]:lXA)) t:=hc;unfold ae at hc;rw[age]at hc;split at hc<;>exact absurd hc (by simp[default])
  ·rintro⟨p,hp,_⟩;omega
 |succ i ih=>show c∈ae (inF step i (gT step len (replicate N []) i)<|len i) t↔_;rw[aaL h ht oaa _ (by rw[yq h _ i oaa];simp) _ (afG _),ih oaa];grind
end
section
variable(n:Net)
def Vt(i k:Nat)(G:List lXA):List lXA:=List.set G (ae (ae n.aa i).ah k).to.toNat (ae G (ae (ae n.aa i).ah k).to.toNat++ [((i:Nat):Int)])
noncomputable def rS:List lXA:=gT (Vt n) (λi=>(ae n.aa i).ah.length) (replicate n.aa.length []) n.aa.length
noncomputable def gN:List lXC:=(rS n).map (map Int.toNat)
theorem Bu:(rS n).length=n.aa.length:=by unfold rS;rw[yq (step:=Vt n) (m:=n.aa.length) (to:=λi k=>(ae (ae n.aa i).ah k).to.toNat) (xs:=λi _=>[((i:Nat):Int)]) (λi k G _ _=>rfl) _ _ (afG _)];simp
theorem lS:(gN n).length=n.aa.length:=by rw[gN,afK,Bu]
end
theorem tj{n:Net}(hn:rG n)(t:Nat)(c:Int):c∈ae (rS n) t↔ ∃p,p<n.aa.length/\(∃e∈(ae n.aa p).ah,e.to.toNat=t)/\c=(p:Nat):=by unfold rS;rw[Gs (step:=Vt n) (m:=n.aa.length) (to:=λi k=>(ae (ae n.aa i).ah k).to.toNat) (xs:=λi _=>[((i:Nat):Int)]) (λi k G _ _=>rfl) (λi k hi hk=>by have:=hn _ (ai hi) _ (ai hk);omega) _ (afG _)];grind[ai,bP]
def qb(G:List lXA)(h: ∀R∈G,∀c∈R,0<=c):G.map (λl=>[AV.sl 1 (l.map bg)])=(G.map<|map Int.toNat).map bH:=by grind[agB,bH,bg,cU]
theorem Bv{n:Net}(hn:rG n)(t c:Nat):Edg (gN n) t c↔c<n.aa.length/\ ∃e∈(ae n.aa c).ah,e.to.toNat=t:=by
 have e:ae (gN n) t=(ae (rS n) t).map Int.toNat:=by unfold gN ae;rw[afM];cases (rS n)[t]? <;>rfl
 unfold Edg;rw[e,agl];constructor
 ·grind[tj]
 ·rintro⟨h1,h2⟩;exact⟨(c:Nat),(tj hn t _).2 ⟨c,h1,h2,rfl⟩,by simp⟩
def Vu{n:Net}(hn:rG n):Wf (gN n):=λR hR c hc=>by obtain⟨t,ht,rfl⟩:=bP hR;rw[lS];exact((Bv hn t c).1 hc).1
noncomputable def fH(n:Net)(x:Int):lXB:=jW (gN n) x.toNat
theorem lT(n:Net)(x:Int):(fH n x).length=n.aa.length:=by simp[fH,jW,lS]
def Oy{step:Nat->Nat->List lXA->List lXA}{to:Nat->Nat->Nat}{x:Nat->Nat->Int}{i:Nat}(h: ∀k G,step i k G=G.set (to i k) (ae G (to i k)++ [x i k])){b:Nat}(G:List lXA)(hG: ∀R∈G,R.length<=b)(k:Nat): ∀R∈inF step i G k,R.length<=b+k:=by
 induction k with
 |zero=>exact hG
 |succ k ih=>
  show∀R∈step i k (inF step i G k),_;rw[h];intro R hR;rcases agV hR with h2|rfl
  ·have:=ih R h2;omega
  ·rw[afS];by_cases ht:to i k<(inF step i G k).length
   ·grind[ai]
   ·rw[ae,af5 oaa];show 0+1<=_;omega
theorem aaM{n:Net}(_hn:cc n)(hf:bW n): ∀R∈rS n,R.length<=1000000000000:=by
 have key: ∀i,i<=n.aa.length-> ∀R∈gT (Vt n) (λi=>(ae n.aa i).ah.length) (replicate n.aa.length []) i,R.length<=i*1000000:=λi=>by
  induction i with
  |zero=>intro _ R hR;rw[(List.mem_replicate.1<|show R∈replicate n.aa.length []from hR).2];exact af7 _
  |succ i ih=>intro hi R hR;have:R.length<=i*1000000+(ae n.aa i).ah.length:=Oy (step:=Vt n) (to:=λi k=>(ae (ae n.aa i).ah k).to.toNat) (x:=λi _=>((i:Nat):Int)) (i:=i) (λk G=>rfl) _ (ih oaa) _ R hR;have he:=hf.ah _ (ai<|show i<n.aa.length by omega);omega
 intro R hR;have:=key _ (afG _) R hR;have:=hf.aa;omega
def rowB{n:Net}(hn:cc n)(hf:bW n): ∀R∈gN n,R.length<=9223372036854775807:=λR hR=>by obtain⟨R',hR',rfl⟩:=agl.1 hR;grind[aaM]
def aaN{n:Net}(hn:cc n)(hf:bW n)(x:Int)(hx:0<=x/\x<(n.aa.length:Int)):aQ pg 59 [.sl 1 ((gN n).map bH),I x] [] [] (.sl 1<|(fH n x).map az) []:=by have h:=TK (gN n) x.toNat (by rw[lS];omega) (Vu hn.to) (by rw[lS];exact hf.aa) (rowB hn hf);rw[show((x.toNat:Nat):Int)=x by omega]at h;exact h
def i59b(n:Net)(x:Int):bC:=⟨59,[.sl 1 ((gN n).map bH),I x],.sl 1 ((fH n x).map az),cc n/\bW n/\0<=x/\x<(n.aa.length:Int)⟩
def g59b(n:Net)(x:Int):(i59b n x).bu pg:=bI λhp=>aaN hp.1 hp.2.1 x hp.2.2
def js:Code:=bn 0 (aG 29)
def L4:Code:=bn 2 js
theorem Vv:js= .seq (sq1 js) (.seq (sq1<|sq2 js)<|.seq (.block 1<|.seq (sq1<|mQ<|sq1<|sq2<|sq2 js)<|.seq (sq1<|sq2<|mQ<|sq1<|sq2<|sq2 js)<|.block 2<|.loop L4)<|sq2<|sq2<|sq2 js):=by kernel_rfl
section
variable(i0:Nat)(n:Net)
abbrev zAn:Am.Loc:=[(0,.pf (aY n)),(3,.sr 0 1 0 (length<|zA n)),(22,.sl 2 (zA n)),(23,I (length (zA n):Int)),(24,I (i0:Int))]
abbrev zDa:=(decide<|(i0:Int)<(length (zA n):Int))
abbrev zBX:Am.Loc:=[(0,.pf (aY n)),(3,.sr 0 1 0 (length<|zA n)),(22,.sl 2 (zA n)),(23,I (length (zA n):Int)),(24,I (i0:Int)),(25,B (zDa i0 n))]
end
def ad6(n:Net)(i0:Nat)(hn:cc n)(hf:bW n)(hx0:i0<length n.aa)(ob:lXE):Piece pg 94 0 (sq1 js) (zAn i0 n) ob .normal (zBX i0 n) ob:=bz [3] oab rfl oad oac λv=>pvB zBQ [] 0 λz=>(an (a1 a0) z)
abbrev zCM(i0:Nat)(n:Net):Am.Loc:=[(0,.pf (aY n)),(3,.sr 0 1 0 (length<|zA n)),(22,.sl 2 (zA n)),(23,I (length (zA n):Int)),(24,I (i0:Int)),(25,B true)]
def ad7(n:Net)(i0:Nat)(hn:cc n)(hf:bW n)(hx0:i0<length n.aa)(ob:lXE):Piece pg 94 0 (sq1<|sq2 js) (zBX i0 n) ob .normal (zCM i0 n) ob:=bz [3] oab rfl oad oac λv=>pvB (.yes<|.pick 0) [] 0 λz=>have hr:=hf.rules;have hs:=hf.aa;have hed:=hf.ah _ (ai hx0);have l1:=aF aj (n.aa);have hb:(zq i0 n)=true:=afH oaa;(an hb z)
abbrev zAo(i0:Nat)(n:Net):Am.Loc:=[(0,.pf (aY n)),(3,.sr 0 1 0 (length<|zA n)),(4,I (i0:Int)),(5,.pf (zh i0 n)),(22,.sl 2 (zA n)),(23,I (length (zA n):Int)),(24,I (i0:Int)),(25,B true),(26,I (i0:Int)),(27,.pf (zh i0 n)),(28,.ag (zh i0 n))]
section
variable(n:Net)(i0:Nat)
def ad8(hn:cc n)(hf:bW n)(hx0:i0<length n.aa)(ob:lXE):Piece pg 94 0 (sq1<|mQ<|sq1<|sq2<|sq2 js) (zCM i0 n) ob .normal (zAo i0 n) ob:=bz [3] oab rfl oad oac λv=>eO (L:=fu [3] v [(0,.pf (aY n)),(3,.sr 0 1 0 (length<|map aj n.aa)),(22,.sl 2 (map aj n.aa)),(23,I (length (map aj n.aa):Int)),(24,I (i0:Int)),(25,B true)]) (x:= .normal) (L1:=fu [3] v [(0,.pf (aY n)),(3,.sr 0 1 0 (length<|map aj n.aa)),(4,I (i0:Int)),(5,.pt 0 0),(22,.sl 2 (map aj n.aa)),(23,I (length (map aj n.aa):Int)),(24,I (i0:Int)),(25,B true),(26,I (i0:Int)),(27,.pf (aj<|ae n.aa i0)),(28,.ag (aj<|ae n.aa i0))]) (ob1:=[.box 40 (aj<|ae n.aa i0)]) (dF.refl _ _) (pvB (.r (zCo i0 n)<|.pick 0) [0] 1 λz=>have hr:=hf.rules;have hs:=hf.aa;have hed:=hf.ah _ (ai hx0);(an (ac (rwa aj n.aa i0) a0) z)) (oE (ob:=[]) (Tb:=40) (cells:=(aj<|ae n.aa i0)) (af7 _) (L':=fu [3] v [(0,.pf (aY n)),(3,.sr 0 1 0 (length<|map aj n.aa)),(4,I (i0:Int)),(5,.pf (aj<|ae n.aa i0)),(22,.sl 2 (map aj n.aa)),(23,I (length (map aj n.aa):Int)),(24,I (i0:Int)),(25,B true),(26,I (i0:Int)),(27,.pf (aj<|ae n.aa i0)),(28,.ag (aj<|ae n.aa i0))]) oaj rfl) rfl
def ad9(hn:cc n)(hf:bW n)(hx0:i0<length n.aa)(ob:lXE):Piece pg 94 0 (sq1<|sq2<|mQ<|sq1<|sq2<|sq2 js) (zAo i0 n) ob .normal [(0,.pf (aY n)),(3,.sr 0 1 0 (length<|zA n)),(4,I (i0:Int)),(22,.sl 2 (zA n)),(23,I (length (zA n):Int)),(24,I (i0:Int)),(30,.sl 10 (zp i0 n)),(31,I (length (zp i0 n):Int)),(32,I 0)] ob:=bz [3] oab rfl oad oac λv=>pvB zB [] 0 λz=>(an a0 z)
def aea(hn:cc n)(hf:bW n)(hx0:i0<length n.aa)(ob:lXE):Piece pg 94 0 L4 [(0,.pf (aY n)),(3,.sr 0 1 0 (length<|zA n)),(4,I (i0:Int)),(22,.sl 2 (zA n)),(23,I (length (zA n):Int)),(24,I (i0:Int)),(30,.sl 10 (zp i0 n)),(31,I (length (zp i0 n):Int)),(32,I (((length<|zG i0 n):Nat):Int))] ob (.exit 2) (zAn i0 n) ob:=bz [3] oab rfl oad oac λv=>pvB zF [] 0 λz=>have hr:=hf.rules;have hs:=hf.aa;have hed:=hf.ah _ (ai hx0);have l1:=aF aD ((ae n.aa i0).ah);have hb:(zl i0 n)=false:=afI oaa;(an (a1 a0)<|an hb z)
def aeb(hn:cc n)(hf:bW n)(hx0:i0<length n.aa)(ob:lXE):Piece pg 94 0 (sq2<|sq2<|sq2 js) (zAn i0 n) ob .normal [(0,.pf (aY n)),(3,.sr 0 1 0 (length<|zA n)),(22,.sl 2 (zA n)),(23,I (length (zA n):Int)),(24,I ↑(i0+1))] ob:=bz [3] oab rfl oad oac λv=>pvB (zc i0) [] 0 λz=>have hr:=hf.rules;have hs:=hf.aa;have hed:=hf.ah _ (ai hx0);(an (ac (dwo ((i0+1:Nat):Int)) a0) z)
end
abbrev zBo(n:Net):Am.Loc:=[(0,.pf (aY n)),(3,.sr 0 1 0 (length<|zA n)),(22,.sl 2 (zA n)),(23,I (length (zA n):Int)),(24,I ((zAp n):Int)),(25,B (zg n))]
def aec(n:Net)(hn:cc n)(hf:bW n)(ob:lXE):Piece pg 94 0 (sq1 js) [(0,.pf (aY n)),(3,.sr 0 1 0 (length<|zA n)),(22,.sl 2 (zA n)),(23,I (length (zA n):Int)),(24,I ((zAp n):Int))] ob .normal (zBo n) ob:=bz [3] oab rfl oad oac λv=>pvB zBQ [] 0 λz=>(an (a1 a0) z)
def aed(n:Net)(hn:cc n)(hf:bW n)(ob:lXE):Piece pg 94 0 (sq1<|sq2 js) (zBo n) ob (.exit 0) [(0,.pf (aY n)),(3,.sr 0 1 0 (length<|zA n))] ob:=bz [3] oab rfl oad (mqc (.inr ⟨rfl,by simp⟩)<|mqc (.inl ⟨rfl,rfl⟩) ba) λv=>pvB (.no<|.pick 0) [] 0 λz=>have hr:=hf.rules;have hs:=hf.aa;have l1:=aF aj (n.aa);have hb:(zQ n)=false:=afI oaa;(an hb z)
def jB(n:Net)(i0 i2:Nat)(l:lXA):lXA:=l++ [(i0:Int)]
abbrev zAw(i0 i2:Nat)(n:Net):Am.Loc:=[(0,.pf (aY n)),(3,.sr 0 1 0 (length<|zA n)),(4,I (i0:Int)),(22,.sl 2 (zA n)),(23,I (length (zA n):Int)),(24,I (i0:Int)),(30,.sl 10 (zp i0 n)),(31,I (length (zp i0 n):Int)),(32,I ↑(i2+1))]
abbrev zDV(i0 i2:Nat)(n:Net):=(((zAr i0 i2 n).to).toNat)
def rT(n:Net)(i0 i2:Nat)(xs:List Value)(l:lXA):gy:=⟨(jB n i0 i2 l)=(l++ [(i0:Int)]),.normal,(zAw i0 i2 n),[0,3],4,[.row 36 1 (aL<|List.set (vs xs) (zDV i0 i2 n)<|.sr 1 1 0<|length<|l++ [(i0:Int)]),.row 3 1 (map bg<|l++ [(i0:Int)])],[.row 36 1 (aL<|List.set (vs xs) (zDV i0 i2 n)<|.sr 3 1 0<|length<|l++ [(i0:Int)]),.row 3 1 (map bg<|l++ [(i0:Int)])]⟩
abbrev zBF(i0 i2:Nat)(n:Net):Am.Loc:=[(0,.pf (aY n)),(3,.sr 0 1 0 (length<|zA n)),(4,I (i0:Int)),(22,.sl 2 (zA n)),(23,I (length (zA n):Int)),(24,I (i0:Int)),(30,.sl 10 (zp i0 n)),(31,I (length (zp i0 n):Int)),(32,I (i2:Int))]
abbrev zCD(l:lXA):AV:=(.sr 1 1 0<|length l)
section
variable(n:Net)(i0 i2:Nat)(xs:List Value)(l:lXA)
def aee(hn:cc n)(hf:bW n)(hx0:i0<length n.aa)(hx2:i2<length (ae n.aa i0).ah)(hl1:length xs=(length n.aa))(hr1:length l<=i0*1000000+i2):vcC pg 94 base c7 3000 (kbL []) L4 (dX<|zBF i0 i2 n) (dq [.row 36 1 (aL<|List.set (vs xs) (zDV i0 i2 n)<|zCD l),.row 3 1 (map bg l)]) 2 (NR [(rT n i0 i2 xs l)]) (.r [.k,bT]<|.yes<|.r [.row (aD<|zAr i0 i2 n),bT]<|.r [.cq (zDV i0 i2 n) [],.at (zDV i0 i2 n) 0 [.sr 1 1 0 (length l)],.cq (zDV i0 i2 n) [],.at (zDV i0 i2 n) 0 [.sr 1 1 0 (length l)],bT]<|.r (zb i2)<|.pick 0):=
 have hr:=hf.rules;have hs:=hf.aa;have lms:=aF aj n.aa;have hed:=hf.ah _ (ai hx0);have hto:=hn.to _ (ai hx0) _ (ai hx2);have l1:=aF aD ((ae n.aa i0).ah);have hb:(zAe i0 i2 n)=true:=afH oaa;
 bq (an (a1 a0)<|an hb<|an (ac (rwa aD (ae n.aa i0).ah i2) a0)<|an (ac (stN (rfl:(aL<|List.set (vs xs) (((ae (ae n.aa i0).ah i2).to).toNat)<|zCD l)=(aL<|List.set (vs xs) (((ae (ae n.aa i0).ah i2).to).toNat)<|zCD l)) oaa)<|ac (ixI (x:=(ae (ae n.aa i0).ah i2).to) (n:=length<|map aj n.aa) oaa oaa)<|ac (apo (length l) 8<|rl bg l)<|ac (atN (rfl:(aL<|List.set (vs xs) (((ae (ae n.aa i0).ah i2).to).toNat)<|zCD l)=(aL<|List.set (vs xs) (((ae (ae n.aa i0).ah i2).to).toNat)<|zCD l)) oaa)<|ac (ixI (x:=(ae (ae n.aa i0).ah i2).to) (n:=length<|map aj n.aa) oaa oaa) a0)<|an (ac (dwo ((i2+1:Nat):Int)) a0)<|lfN (rT n i0 i2 xs l) (show(jB n i0 i2 l)=(l++ [(i0:Int)])from rfl)<|bo ((afQ (λz=>Ob.row 36 1 z)<|nA (rfl:(aL<|List.set (vs xs) (((ae (ae n.aa i0).ah i2).to).toNat)<|zCD l)=(aL<|List.set (vs xs) (((ae (ae n.aa i0).ah i2).to).toNat)<|zCD l))<|.sr 3 1 0<|length l+1).trans<|afQ (λz=>Ob.row 36 1<|aL<|List.set (vs xs) (((ae (ae n.aa i0).ah i2).to).toNat)<|.sr 3 1 0 z) oaf)<|bo (afQ (λz=>Ob.row 3 1 z)<|apF (f:=bg) (rl bg l) (k:=length l) oae (i0:Int)) eC)
 oab
theorem aef(hn:cc n)(hf:bW n)(hx0:i0<length n.aa)(hx2:i2<length (ae n.aa i0).ah)(hl1:length xs=(length n.aa))(hr1:length l<=i0*1000000+i2):Piece pg 94 1 L4 (zBF i0 i2 n) [.row 36 1 (aL<|List.set (vs xs) (zDV i0 i2 n)<|zCD l),.row 3 1 (map bg l)] .normal (zAw i0 i2 n) [.row 36 1 (aL<|List.set (vs xs) (zDV i0 i2 n)<|.sr 1 1 0<|length<|jB n i0 i2 l),.row 3 1 (map bg<|jB n i0 i2 l)]:=CI (gw aC mixed<|bt _) (aee n i0 i2 xs l hn hf hx0 hx2 hl1 hr1) (dR (o:=(rT n i0 i2 xs l)) (mH rfl rfl rfl (by simp_all[rT,plS,AV.pure])<|bo ((ew (f:=(bU [0,3] 4)) (o:=1) (q:=3) rfl).symm)<|bo ((cQ<|jX _).symm) eC) oF) (by grind[rT])
end
def I0(n:Net):KB:=⟨[(0,.pf (aY n)),(3,.sr 0 1 0 (length<|zA n)),(22,.sl 2 (zA n)),(23,I (length (zA n):Int)),(24,I 0)],[.row 36 1 (replicate (length<|zA n) [.v (.slice none 0 0)])],false,.ret,[],[],.normal,[(0,.pf (aY n)),(3,.sl 1 (map bH<|gN n))],[],True⟩
def Vw(n:Net)(hn:cc n)(hf:bW n):ca pg 94 0 0 (.loop js) (I0 n):=by
 skip;have hl:=pQ (P:=Tryz.prog) (n:=94) (K:=0) (d:=1) (S:=λG=>[]++cj 0 36 3 (gV G)) (m:=length n.aa) (len:=λi0=>length (ae n.aa i0).ah) (step:=λi0 i2 G=>List.set G (Int.toNat (ae (ae n.aa i0).ah i2).to)<|jB n i0 i2<|ae G<|Int.toNat (ae (ae n.aa i0).ah i2).to) (I:=λi k G=>G.length=length n.aa/\ ∀l∈G,l.length<=i*1000000+k) (s0:=replicate (length<|map aj n.aa) [])
  (λi0 hx ob=>ad6 n i0 hn hf hx ob) (λi0 hx ob=>ad7 n i0 hn hf hx ob) (λi0 hx ob=>ad8 n i0 hn hf hx ob) (λi0 hx ob=>ad9 n i0 hn hf hx ob)
  (λi0 i2 G hx0 hx2 hI=>⟨pin1 (base:=[]) oaA oab rfl (mqc (aR _ _ oag)<|mqc rfl<|mqc (aR _ _ oag)<|mqc (aR _ _ oag)<|mqc (aR _ _ oag)<|mqc (aR _ _ oag)<|mqc (aR _ _ oag)<|mqc (aR _ _ oag)<|mqc (aR _ _ oag) ba) (mqc (aR _ _ oag)<|mqc rfl<|mqc (aR _ _ oag)<|mqc (aR _ _ oag)<|mqc (aR _ _ oag)<|mqc (aR _ _ oag)<|mqc (aR _ _ oag)<|mqc (aR _ _ oag)<|mqc (aR _ _ oag) ba) oat ba (λxs hxs=>aef n i0 i2 xs (ae G<|Int.toNat (ae (ae n.aa i0).ah i2).to) hn hf hx0 hx2 (hxs.trans hI.1)<|hI.2 _<|ai oaA),LS hI oaa (by have hgl:=(show(jB n i0 i2<|ae G<|Int.toNat (ae (ae n.aa i0).ah i2).to).length<=(ae G<|Int.toNat (ae (ae n.aa i0).ah i2).to).length+1 by unfold jB;rw[afS];exact afG _);have hgm:=hI.2 _ (ai (i:=(Int.toNat (ae (ae n.aa i0).ah i2).to)) oaA);omega)⟩)
  (λi0 hx ob=>aea n i0 hn hf hx ob) (λi0 hx ob=>aeb n i0 hn hf hx ob) (λob=>aec n hn hf ob) (λob=>aed n hn hf ob)
  ⟨by simp,LU _⟩ (λi G hi hI=>⟨hI.1,λl hl=>agr (hI.2 l hl) oaF⟩)
 rw[<-Vv]at hl;have hG:aL (ix<|gV<|gT (λi0 i2 G=>List.set G (Int.toNat (ae (ae n.aa i0).ah i2).to)<|jB n i0 i2<|ae G<|Int.toNat (ae (ae n.aa i0).ah i2).to) (λi0=>length (ae n.aa i0).ah) (replicate (length<|map aj n.aa) [])<|length n.aa)=map bH (gN n):=by rw[aF];show aL (ix<|gV<|rS n)=_;rw[rM,gN];exact qb _ λR hR c hc=>by obtain⟨t,_,rfl⟩:=bP hR;obtain⟨p,_,_,rfl⟩:=(tj hn.to t c).1 hc;omega
 have hlen:length (gT (λi0 i2 G=>List.set G (Int.toNat (ae (ae n.aa i0).ah i2).to)<|jB n i0 i2<|ae G<|Int.toNat (ae (ae n.aa i0).ah i2).to) (λi0=>length (ae n.aa i0).ah) (replicate (length<|map aj n.aa) [])<|length n.aa)=length (map aj n.aa):=by rw[aF];exact(Bu n)
 exact Bq (base:=[]) hl oat hG (mqc (.inl ⟨rfl,(aR _ _ oag)⟩)<|mqc (.inr ⟨by rw[hlen];rfl,rfl⟩) ba)
def L6:Code:=bn 4 (aG 29)
def acq:Code:=bn 6 L6
section
variable(n:Net)(i4:Nat)
def yr(y4:lXB)(i6:Nat)(y6:lXB):lXB:=(bif (ae y6 i6)then List.set y6 i6 true else List.set y6 i6<|ae (fH n (ae n.rules i4).stop) i6)
def du(y4:lXB)(kk:Nat):lXB:=Nat.rec (motive:=λ_=>lXB) (List.set y4 (((ae n.rules i4).stop).toNat) true) (λj a=>yr n i4 y4 j a) kk
theorem DN(y4:lXB)(i:Nat):length (du n i4 y4 i)=length y4:=by
 induction i with
 |zero=>show(List.set _ _ _).length=_;simp
 |succ i ih=>grind[yr,du]
abbrev yt(y4:lXB)(i6:Nat)(y6:lXB):lXE:=[.row 4 1 (map az y6),.box 51 (aw<|ae n.rules i4)]
end
abbrev zDS(i4:Nat)(n:Net):=(fH n (ae n.rules i4).stop)
abbrev yu(n:Net)(i4:Nat)(y4:lXB)(i6:Nat):Am.Loc:=[(3,.sl 1 (map bH<|gN n)),(8,.sr 0 1 0 (length<|zA n)),(59,.sl 9 (zE n)),(60,I (length (zE n):Int)),(61,I (i4:Int)),(72,.sl 1 (map az<|zDS i4 n)),(73,I (length (map az<|zDS i4 n):Int)),(74,I (i6:Int))]
abbrev Vy(n:Net)(i4:Nat)(y4:lXB)(i6:Nat):lXE:=yt n i4 y4 i6 (du n i4 y4 i6)
abbrev zCH(i4:Nat)(n:Net):Am.Loc:=[(3,.sl 1 (map bH<|gN n)),(8,.sr 0 1 0 (length<|zA n)),(59,.sl 9 (zE n)),(60,I (length (zE n):Int)),(61,I (i4:Int))]
section
variable(n:Net)(i4:Nat)
abbrev Vz(y4:lXB):Am.Loc:=(zCH i4 n)
section
variable(y4:lXB)
abbrev VA:lXE:=[.row 4 1 (map az<|du n i4 y4<|length<|zDS i4 n),.box 51 (aw<|ae n.rules i4)]
def DP:KB:=noK 6 (yu n i4 y4) (Vy n i4 y4) (.exit 6) (Vz n i4 y4) (VA n i4 y4) (True)
abbrev VB(i6:Nat):List bG:=[nxW (false) (yu n i4 y4<|i6+1) (Vy n i4 y4<|i6+1) (yu n i4 y4<|i6+1) zCI (yt n i4 y4 (i6+1)<|List.set (du n i4 y4 i6) i6 true),nxW (false) (yu n i4 y4<|i6+1) (Vy n i4 y4<|i6+1) (yu n i4 y4<|i6+1) zCI (yt n i4 y4 (i6+1)<|List.set (du n i4 y4 i6) i6<|ae (zDS i4 n) i6)]
def VD(hn:cc n)(hf:bW n)(hx4:i4<(length n.rules))(hy4:length y4=length n.aa):ca pg 94 0 6 (.loop acq) (DP n i4 y4):=
 noB (VB n i4 y4) (λi6=>(.r [.k,bT]<|.yes<|.r [.row (az<|ae (fH n (ae n.rules i4).stop) i6),bT]<|.a (.r [.at i6 0 (az<|ae (du n i4 y4 i6) i6),bF,.at i6 0 (az<|ae (du n i4 y4 i6) i6),bT]<|.r [.int ↑(i6+1),bT]<|.pick 0)<|.r [.at i6 0 (az<|ae (du n i4 y4 i6) i6),bT,.at i6 0 (az<|ae (du n i4 y4 i6) i6),bT]<|.r [.int ↑(i6+1),bT]<|.pick 1)) (range 2) zF (length<|fH n (ae n.rules i4).stop)
 (λ_ i6(hx6:i6<(length<|fH n (ae n.rules i4).stop))=>have hr:=hf.rules;have hs:=hf.aa;have hgl:=(DN n i4 y4 i6).trans hy4;have hbl:=lT n (ae n.rules i4).stop;have lbb:=aF az (fH n (ae n.rules i4).stop);have lms:=aF aj n.aa;have l1:=aF az ((fH n (ae n.rules i4).stop));have hb:(decide<|(i6:Int)<(length (map az<|fH n (ae n.rules i4).stop):Int))=true:=afH oaa;
 bq (an (a1 a0)<|an hb<|an (ac (rwa az (fH n (ae n.rules i4).stop) i6) a0)<|aO (λ(h1:((ae (du n i4 y4 i6) i6))=true)=>(an (ac (sto 1 0 1 i6<|rl az<|du n i4 y4 i6)<|ac (ixo i6<|length<|map aj n.aa)<|ac (n2 h1)<|ac (ato 1 0 i6<|rl az<|du n i4 y4 i6)<|ac (ixo i6<|length<|map aj n.aa) a0)<|an (ac (dwo ((i6+1:Nat):Int)) a0)<|lfE (wy (VB n i4 y4 i6) 0) 2 (nxP (λ_=>yu n i4 y4<|i6+1) (yt n i4 y4<|i6+1) rfl<|show du n i4 y4 (i6+1)=_ from(cdT h1 rfl))<|bo (afQ (λz=>Ob.row 4 1 z)<|lH (f:=az) (rl az<|du n i4 y4 i6) i6 true)<|bo (rfl:(.box 51 (aw<|ae n.rules i4):Ob)= .box 51 (aw<|ae n.rules i4)) eC))<|λh1=>(an (ac (sto 1 0 1 i6<|rl az<|du n i4 y4 i6)<|ac (ixo i6<|length<|map aj n.aa)<|ac (ak h1)<|ac (ato 1 0 i6<|rl az<|du n i4 y4 i6)<|ac (ixo i6<|length<|map aj n.aa) a0)<|an (ac (dwo ((i6+1:Nat):Int)) a0)<|lfE (wy (VB n i4 y4 i6) 1) 2 (nxP (λ_=>yu n i4 y4<|i6+1) (yt n i4 y4<|i6+1) rfl<|show du n i4 y4 (i6+1)=_ from(cdF h1 rfl))<|bo (afQ (λz=>Ob.row 4 1 z)<|lH (f:=az) (rl az<|du n i4 y4 i6) i6<|ae (fH n (ae n.rules i4).stop) i6)<|bo (rfl:(.box 51 (aw<|ae n.rules i4):Ob)= .box 51 (aw<|ae n.rules i4)) eC))
 oab)
 (λ_=>have hr:=hf.rules;have hs:=hf.aa;have hbl:=lT n (ae n.rules i4).stop;have l1:=aF az ((fH n (ae n.rules i4).stop));have hb:(decide<|(((length<|fH n (ae n.rules i4).stop):Nat):Int)<(length (map az<|fH n (ae n.rules i4).stop):Int))=false:=afI oaa;
 bq (an (a1 a0)<|an hb<|lx (.exit 6) (Vz n i4 y4) (range 2) (VA n i4 y4) 2)
 oab)
def VE:lXB:=(du n i4 y4<|length<|fH n (ae n.rules i4).stop)
end
end
def eD(n:Net)(kk:Nat):lXB:=Nat.rec (motive:=λ_=>lXB) (replicate (length<|map aj n.aa) false) (λj a=>VE n j a) kk
theorem oJ(n:Net)(i:Nat):length (eD n i)=length n.aa:=by
 induction i with
 |zero=>show(replicate _ false).length=_;simp
 |succ i ih=>grind[VE,eD,DN]
abbrev I1(n:Net)(i4:Nat)(y4:lXB):lXE:=[.row 4 1 (map az y4)]
section
variable(n:Net)
abbrev L7(i4:Nat):Am.Loc:=(zCH i4 n)
abbrev acr(i4:Nat):lXE:=I1 n i4 (eD n i4)
abbrev VF:Am.Loc:=[(8,.sr 0 1 0 (length<|zA n))]
abbrev VG:lXE:=[.row 4 1 (map az<|eD n<|length n.rules)]
def DQ:KB:=noK 4 (L7 n) (acr n) (.exit 4) (VF n) (VG n) (True)
abbrev acs(i4:Nat):List bG:=[nxW (false) (L7 n<|i4+1) (acr n<|i4+1) (L7 n<|i4+1) zAT (I1 n (i4+1)<|du n i4 (eD n i4)<|length<|zDS i4 n)]
end
def DS:cy [6] L6=[(6,.loop acq)]:=by kernel_rfl
def VH(n:Net)(hn:cc n)(hf:bW n):ca pg 94 0 4 (.loop L6) (DQ n):=
 noB (acs n) (λi4=>(.r [.k,bT]<|.yes<|.r [.row (aw<|ae n.rules i4),bT]<|.r [.cq (((ae n.rules i4).stop).toNat) [],.at (((ae n.rules i4).stop).toNat) 0 (az<|ae (eD n i4)<|((ae n.rules i4).stop).toNat),bT]<|.r [.int 0,bT]<|.no<|.r (zi i4)<|.pick 0)) (range 1) zF (length n.rules)
 (λ_ i4(hx4:i4<(length n.rules))=>have hr:=hf.rules;have hs:=hf.aa;have hgl:=oJ n i4;have ht:=hn.stop _ (ai hx4);have hbl:=lT n (ae n.rules i4).stop;have l1:=aF aw (n.rules);have hb:(decide<|(i4:Int)<(length (map aw n.rules):Int))=true:=afH oaa;
 bq (an (a1 a0)<|an hb<|an (ac (rwa aw n.rules i4) a0)<|have l2:=aF aj (n.aa);an (ac (sto 1 0 1 (((ae n.rules i4).stop).toNat)<|rl az<|eD n i4)<|ac (ixz (ae n.rules i4).stop<|length<|map aj n.aa) a0)<|an (cA (g59b n (ae n.rules i4).stop) ⟨hn,hf,by omega⟩ a0)<|an (FA (DP n i4<|eD n i4) (S:=nm<|KB.L0<|DP n i4<|eD n i4) rfl (bo (afQ (λz=>Ob.row 4 1 z)<|lH (f:=az) (rl az<|eD n i4) (((ae n.rules i4).stop).toNat) true)<|bo (rfl:(.box 51 (aw<|ae n.rules i4):Ob)= .box 51 (aw<|ae n.rules i4)) eC) trivial)<|an (rfl:false=false)<|an (ac (dwo ((i4+1:Nat):Int)) a0)<|lf (wy (acs n i4) 0) 2<|nxP (λ_=>L7 n<|i4+1) (I1 n<|i4+1) rfl<|show eD n (i4+1)=(du n i4 (eD n i4)<|length<|fH n (ae n.rules i4).stop)from rfl)
 oab)
 (λ_=>have hr:=hf.rules;have hs:=hf.aa;have l1:=aF aw (n.rules);have hb:(zP n)=false:=afI oaa;
 bq (an (a1 a0)<|an hb<|lx (.exit 4) (VF n) (range 1) (VG n) 1)
 oab) (hc:=λ_ i4 hx4=>(aK (.cons (g59b n (ae n.rules i4).stop) rfl bB.nil) aC)) (hk:=λ_ i4 hx4=>(bc (l:=[(6,DP n i4 (eD n i4))]) DS (aE (VD n i4 (eD n i4) hn hf hx4<|oJ n i4) rfl aP) rfl))
def r29(n:Net):Bool:= !(r65<|eD n<|length n.rules)
def va:cy [0,4] (aG 29)=[(0,.loop js),(4,.loop L6)]:=by kernel_rfl
abbrev zCl:GT:=(.r [bT]<|.r [bT]<|.no<|.r [bT]<|.r [bT]<|.no<|.r [.cq 0 [],bT] .nil)
def aeg(n:Net)(hn:cc n)(hf:bW n):aQ pg 29 [.pf (aY n)] [] [] (B<|r29 n) []:=
 have hr:=hf.rules;have hs:=hf.aa;aV 29 (.r [bT] zCl)
 (an a0<|have l1:=aF aj (n.aa);an (ac (mko (length<|map aj n.aa) 24) a0)<|an a0<|an (kbT (I0 n) trivial)<|an (rfl:false=false)<|an (ac (mko (length<|map aj n.aa) 1) a0)<|an a0<|an (FA (DQ n) (S:=nm<|KB.L0<|DQ n) rfl (bo (afQ (λz=>Ob.row 4 1 z)<|NK (f:=az) (length<|map aj n.aa) false) eC) trivial)<|an (rfl:false=false)<|an (ac (qE (c:=i65 (eD n<|length n.rules)<|length<|map aj n.aa) ⟨by rw[oJ,afK],by rw[oJ];omega⟩ rfl) a0)<|bE<|show r29 n=(!(r65<|eD n<|length n.rules))from rfl) (callf:=(sP [i65 (eD n<|length n.rules) (length<|map aj n.aa)] base)) (hc:=(oD (.cons (g65 (eD n<|length n.rules)<|length<|map aj n.aa) o7.nil) aC)) (hk:=(bc (l:=[(0,I0 n),(4,DQ n)]) va (aE (Vw n hn hf) rfl<|aE (VH n hn hf) rfl aP) rfl))
section
variable{n:Net}
theorem yv{s r:Int}(h:r62 n s r=true):0<=s/\s<(n.aa.length:Int):=by grind[r62]
theorem VI(h:r27 n=true){i:Nat}(hi:i<n.rules.length):r62 n (ae n.rules i).start i=true/\r62 n (ae n.rules i).stop i=true:=by
 have:=bL.1 (show Di n=false by simpa [r27]using h) i hi;unfold lN at this;cases hl:(ae n.rules i).bR with
 |true=>rw[hl]at this;simp only[afN,afU,aga]at this;exact⟨this.1,this.2.1⟩
 |false=>rw[hl]at this;simp only[afY,afU,aga]at this;exact⟨this.1,this.2.1⟩
theorem I2(h:r28 n=true){i:Nat}(hi:i<n.aa.length):(0<=(ae n.aa i).aI/\(ae n.aa i).aI<(n.rules.length:Int))/\ ∀k,k<(ae n.aa i).ah.length->eQ n i k=false:=by
 have:=bL.1 (show Dp n=false by simpa [r28]using h) i hi;unfold pb at this;simp only[afU,af0,afK]at this;obtain⟨h1,h2,h3⟩:=this;have h3:kE n i=false:=by
  revert h3;cases ((((ae n.aa i).ah.length:Nat):Int)==0)with
  |true=>intro h3;simp only[afN,afU]at h3;exact h3.2
  |false=>exact λh3=>h3
 exact⟨by omega,λk hk=>bL.1 h3 k hk⟩
theorem aeh{i k:Nat}(h:eQ n i k=false):0<=(ae (ae n.aa i).ah k).to/\(ae (ae n.aa i).ah k).to<(n.aa.length:Int):=by unfold eQ at h;simp only[afU,aga]at h;exact yv h.1
theorem VJ{i k:Nat}(h:eQ n i k=false)(h2:(ae (ae n.aa i).ah k).op=2):0<=(ae (ae n.aa i).ah k).n/\(ae (ae n.aa i).ah k).n<(n.rules.length:Int):=by unfold eQ at h;rw[h2]at h;simp_all[r79]
theorem well2(h2:r27 n=true)(h3:r28 n=true):cc n where
 to:=λs hs e he=>by
  obtain⟨i,hi,rfl⟩:=bP hs
  obtain⟨k,hk,rfl⟩:=bP he
  exact aeh ((I2 h3 hi).2 k hk)
 call:=λs hs e he h=>by
  obtain⟨i,hi,rfl⟩:=bP hs
  obtain⟨k,hk,rfl⟩:=bP he
  simp_all[VJ,I2]
 start:=λr hr=>by
  obtain⟨i,hi,rfl⟩:=bP hr
  exact yv (VI h2 hi).1
 stop:=λr hr=>by
  obtain⟨i,hi,rfl⟩:=bP hr
  exact yv (VI h2 hi).2
theorem tk(h2:(!r27 n)=false)(h3:(!r28 n)=false):cc n:=well2 (by simpa using h2) (by simpa using h3)
def VL(h:(!r28 n)=false){i:Nat}(hi:i<n.aa.length):0<=(ae n.aa i).aI/\(ae n.aa i).aI<(n.rules.length:Int):=(I2 oaN hi).1
end
section
variable(n:Net)
theorem DT:(r24 n).length=n.rules.length:=by simp[r24,nR,Bt]
theorem Al(hn:cc n)(hf:bW n):aQ pg 24 [.pf (aY n)] [] [] (.sl 1<|(r24 n).map az) []:=(by grind[fM,Ak,r24,nR,Bt,aW,bY])
noncomputable def tgL(e:Edge):lXA:=bif e.op==2 then(bif bJ.bR (aB n.rules e.n)then [e.n]else [])else []
theorem L8(emp:lXB)(e:Edge):(tgE n emp e).length<=2:=by unfold tgE;grind
theorem L9(e:Edge):(tgL n e).length<=2:=by unfold tgL;grind
noncomputable def yw:List lXA:=n.aa.map λs=>s.ah.flatMap (tgE n<|r24 n)
noncomputable def jt:List lXC:=(yw n).map (map Int.toNat)
noncomputable def stC(i k:Nat)(G:List lXA):List lXA:=List.set G (ae n.aa i).aI.toNat (ae G (ae n.aa i).aI.toNat++tgL n (ae (ae n.aa i).ah k))
noncomputable def pd:List lXA:=gT (stC n) (λi=>(ae n.aa i).ah.length) (replicate n.rules.length []) n.aa.length
noncomputable def ga:List lXC:=(pd n).map (map Int.toNat)
theorem tn:(pd n).length=n.rules.length:=by unfold pd;rw[yq (step:=stC n) (m:=n.aa.length) (to:=λi _=>(ae n.aa i).aI.toNat) (xs:=λi k=>tgL n<|ae (ae n.aa i).ah k) (λi k G _ _=>rfl) _ _ (afG _)];simp
end
theorem tp{n:Net}(hr: ∀s∈n.aa,0<=s.aI/\s.aI<(n.rules.length:Int))(t:Nat)(c:Int):c∈ae (pd n) t↔ ∃s∈n.aa,s.aI.toNat=t/\ ∃e∈s.ah,c∈tgL n e:=by unfold pd;rw[Gs (step:=stC n) (m:=n.aa.length) (to:=λi _=>(ae n.aa i).aI.toNat) (xs:=λi k=>tgL n<|ae (ae n.aa i).ah k) (λi k G _ _=>rfl) (by grind[ai]) _ (afG _)];grind[ai,bP]
theorem rU{α β:Type}{f:Nat->Nat->α->α}{g:Nat->Nat->β->β}{len:Nat->Nat}(a:α)(b:β)(i:Nat):gT (λi k(G:α×β)=>(f i k G.1,g i k G.2)) len (a,b) i=(gT f len a i,gT g len b i):=by
 have inn: ∀i(s:α×β) k,inF (λi k(G:α×β)=>(f i k G.1,g i k G.2)) i s k=(inF f i s.1 k,inF g i s.2 k):=λi s k=>by
  induction k with
  |zero=>rfl
  |succ k ih=>grind[inF]
 induction i with
 |zero=>rfl
 |succ i ih=>grind[gT]
noncomputable def iy(g:List lXC):Bool:=dec (∃i,Rp g i i)
structure jm(g:List lXC):Prop where
 wf:Wf g
 len:g.length<=1000000
 row: ∀R∈g,R.length<=2000000000000
def Ma{n:Net}(h:(!r28 n)=false): ∀s∈Net.aa n,0<=s.aI/\s.aI<(length n.rules:Int):=λs hs=>by obtain⟨i,hi,rfl⟩:=bP hs;exact VL h hi
def gf:Prop:= ∀g:List lXC,jm g->aQ pg 30 [.sl 1 (g.map bH)] [] [] (B<|iy g) []
def i30(g:List lXC):bC:=⟨30,[.sl 1 (g.map bH)],B (iy g),jm g⟩
def g30(h30:gf)(g:List lXC):(i30 g).bu pg:=λhp=>⟨h30 g hp,by simp[i30,aq,AV.pure],rfl⟩
section
variable(n:Net)
def i26:bC:=⟨26,[.pf (aY n)],B (r26 n),bW n⟩
def g26:(i26 n).bu pg:=bI λhp=>K9 n hp.h
def i27:bC:=⟨27,[.pf (aY n)],B (r27 n),bW n⟩
def g27:(i27 n).bu pg:=bI λhp=>aat n hp
def i28:bC:=⟨28,[.pf (aY n)],B (r28 n),bW n⟩
def g28:(i28 n).bu pg:=bI λhp=>TI n hp
def i29:bC:=⟨29,[.pf (aY n)],B (r29 n),cc n/\bW n⟩
def g29:(i29 n).bu pg:=bI λhp=>aeg n hp.1 hp.2
def i24:bC:=⟨24,[.pf (aY n)],.sl 1 ((r24 n).map az),cc n/\bW n⟩
def g24:(i24 n).bu pg:=bI λhp=>Al n hp.1 hp.2
end
theorem Gt{n:Net}(hn:cc n)(hf:bW n):jm (jt n) where
 wf:=λR hR c hc=>by
  obtain⟨R',hR',rfl⟩:=agl.1 hR
  obtain⟨x,hx,rfl⟩:=agl.1 hc
  obtain⟨s,hs,rfl⟩:=agl.1 hR'
  obtain⟨e,he,hx2⟩:=List.mem_flatMap.1 hx
  obtain⟨i,hi,rfl⟩:=bP hs
  have he2:e∈(aB n.aa (i:Nat)).ah:=he
  have:=vM hn _ he2 x hx2
  grind[jt,yw]
 len:=by grind[jt,yw,hf.aa]
 row:=λR hR=>by
  obtain⟨R',hR',rfl⟩:=agl.1 hR
  obtain⟨s,hs,rfl⟩:=agl.1 hR'
  rw[afK]
  have key: ∀l:List Edge,(l.flatMap<|tgE n<|r24 n).length<=2*l.length:=λl=>by
   induction l with
   |nil=>exact afG _
   |cons e l ih=>
    grind[L8]
  have:=key s.ah
  have:=hf.ah s hs
  omega
def I3{step:Nat->Nat->List lXA->List lXA}{to:Nat->Nat->Nat}{xs:Nat->Nat->lXA}{i:Nat}(h: ∀k G,step i k G=G.set (to i k) (ae G (to i k)++xs i k))(hx: ∀k,(xs i k).length<=2){b:Nat}(G:List lXA)(hG: ∀R∈G,R.length<=b)(k:Nat): ∀R∈inF step i G k,R.length<=b+2*k:=by
 induction k with
 |zero=>exact hG
 |succ k ih=>
  show∀R∈step i k (inF step i G k),_;rw[h];intro R hR;have hx:=hx k;rcases agV hR with h2|rfl
  ·have:=ih R h2;omega
  ·rw[afS];by_cases ht:to i k<(inF step i G k).length
   ·grind[ai]
   ·rw[ae,af5 oaa];show 0+_<=_;omega
theorem VM{n:Net}(hn:cc n)(hr: ∀s∈n.aa,0<=s.aI/\s.aI<(n.rules.length:Int))(hf:bW n):jm (ga n) where
 wf:=λR hR c hc=>by
  obtain⟨R',hR',rfl⟩:=agl.1 hR
  obtain⟨x,hx,rfl⟩:=agl.1 hc
  obtain⟨t,_,rfl⟩:=bP hR'
  obtain⟨s,hs,_,e,he,hx⟩:=(tp hr t x).1 hx
  rw[ga,afK,tn]
  unfold tgL at hx
  cases h2:e.op==2 with
  |true=>
   have:=hn.call s hs e he (eq_of_beq h2)
   grind
  |false=>rw[h2]at hx;simp at hx
 len:=by grind[ga,tn,hf.rules]
 row:=λR hR=>by
  obtain⟨R',hR',rfl⟩:=agl.1 hR
  rw[afK]
  have key: ∀i,i<=n.aa.length-> ∀R∈gT (stC n) (λi=>(ae n.aa i).ah.length) (replicate n.rules.length []) i,R.length<=i*2000000:=λi=>by
   induction i with
   |zero=>intro _ R hR;rw[(List.mem_replicate.1<|show R∈replicate n.rules.length []from hR).2];exact af7 _
   |succ i ih=>
    intro hi R hR
    have:R.length<=i*2000000+2*(ae n.aa i).ah.length:=I3 (step:=stC n) (to:=λi _=>(ae n.aa i).aI.toNat) (xs:=λi k=>tgL n<|ae (ae n.aa i).ah k) (i:=i) (λk G=>rfl) (λk=>L9 _ _) _ (ih oaa) _ R hR
    have he:=hf.ah _ (ai<|show i<n.aa.length by omega)
    omega
  have:=key _ (afG _) R' hR'
  have:=hf.aa
  omega
def jc:Code:=bn 0 (aG 10)
def Mb:Code:=bn 2 jc
theorem VN:jc= .seq (sq1 jc) (.seq (sq1<|sq2 jc)<|.seq (.block 1<|.seq (sq1<|mQ<|sq1<|sq2<|sq2 jc)<|.seq (sq1<|sq2<|mQ<|sq1<|sq2<|sq2 jc)<|.block 2<|.loop Mb)<|sq2<|sq2<|sq2 jc):=by kernel_rfl
abbrev zo(i0:Nat)(n:Net):Am.Loc:=[(1,.pf (aY n)),(3,.sl 1 (zAB n)),(4,.sr 0 1 0 (length<|zA n)),(5,.sr (length n.aa+1) 1 0 (length<|zE n)),(36,.sl 2 (zA n)),(37,I (length (zA n):Int)),(38,I (i0:Int))]
abbrev zAg(i0:Nat)(n:Net):Am.Loc:=[(1,.pf (aY n)),(3,.sl 1 (zAB n)),(4,.sr 0 1 0 (length<|zA n)),(5,.sr (length n.aa+1) 1 0 (length<|zE n)),(36,.sl 2 (zA n)),(37,I (length (zA n):Int)),(38,I (i0:Int)),(39,B (zDa i0 n))]
def aei(n:Net)(i0:Nat)(h30:gf)(hf:bW n)(hn:cc n/\ ∀s∈Net.aa n,0<=s.aI/\s.aI<(length n.rules:Int))(hx0:i0<length n.aa)(ob:lXE):Piece pg 141 0 (sq1 jc) (zo i0 n) ob .normal (zAg i0 n) ob:=bz [4,5] oab rfl oad oac λv=>pvB zBQ [] 0 λz=>(an (a1 a0) z)
abbrev zAx(i0:Nat)(n:Net):Am.Loc:=[(1,.pf (aY n)),(3,.sl 1 (zAB n)),(4,.sr 0 1 0 (length<|zA n)),(5,.sr (length n.aa+1) 1 0 (length<|zE n)),(36,.sl 2 (zA n)),(37,I (length (zA n):Int)),(38,I (i0:Int)),(39,B true)]
def aej(n:Net)(i0:Nat)(h30:gf)(hf:bW n)(hn:cc n/\ ∀s∈Net.aa n,0<=s.aI/\s.aI<(length n.rules:Int))(hx0:i0<length n.aa)(ob:lXE):Piece pg 141 0 (sq1<|sq2 jc) (zAg i0 n) ob .normal (zAx i0 n) ob:=bz [4,5] oab rfl oad oac λv=>pvB (.yes<|.pick 0) [] 0 λz=>have hr:=hf.rules;have hs:=hf.aa;have hed:=hf.ah _ (ai hx0);have l1:=aF aj (n.aa);have hb:(zq i0 n)=true:=afH oaa;(an hb z)
abbrev zAO(i0:Nat)(n:Net):Am.Loc:=[(1,.pf (aY n)),(3,.sl 1 (zAB n)),(4,.sr 0 1 0 (length<|zA n)),(5,.sr (length n.aa+1) 1 0 (length<|zE n)),(6,I (i0:Int)),(7,.pf (zh i0 n)),(36,.sl 2 (zA n)),(37,I (length (zA n):Int)),(38,I (i0:Int)),(39,B true),(40,I (i0:Int)),(41,.pf (zh i0 n)),(42,.ag (zh i0 n))]
section
variable(n:Net)
section
variable(i0:Nat)
def aek(h30:gf)(hf:bW n)(hn:cc n/\ ∀s∈Net.aa n,0<=s.aI/\s.aI<(length n.rules:Int))(hx0:i0<length n.aa)(ob:lXE):Piece pg 141 0 (sq1<|mQ<|sq1<|sq2<|sq2 jc) (zAx i0 n) ob .normal (zAO i0 n) ob:=bz [4,5] oab rfl oad oac λv=>eO (L:=fu [4,5] v [(1,.pf (aY n)),(3,.sl 1 (map az<|r24 n)),(4,.sr 0 1 0 (length<|map aj n.aa)),(5,.sr (length n.aa+1) 1 0 (length<|map aw n.rules)),(36,.sl 2 (map aj n.aa)),(37,I (length (map aj n.aa):Int)),(38,I (i0:Int)),(39,B true)]) (x:= .normal) (L1:=fu [4,5] v [(1,.pf (aY n)),(3,.sl 1 (map az<|r24 n)),(4,.sr 0 1 0 (length<|map aj n.aa)),(5,.sr (length n.aa+1) 1 0 (length<|map aw n.rules)),(6,I (i0:Int)),(7,.pt 0 0),(36,.sl 2 (map aj n.aa)),(37,I (length (map aj n.aa):Int)),(38,I (i0:Int)),(39,B true),(40,I (i0:Int)),(41,.pf (aj<|ae n.aa i0)),(42,.ag (aj<|ae n.aa i0))]) (ob1:=[.box 40 (aj<|ae n.aa i0)]) (dF.refl _ _) (pvB (.r (zCo i0 n)<|.pick 0) [0] 1 λz=>have hr:=hf.rules;have hs:=hf.aa;have hed:=hf.ah _ (ai hx0);(an (ac (rwa aj n.aa i0) a0) z)) (oE (ob:=[]) (Tb:=40) (cells:=(aj<|ae n.aa i0)) (af7 _) (L':=fu [4,5] v [(1,.pf (aY n)),(3,.sl 1 (map az<|r24 n)),(4,.sr 0 1 0 (length<|map aj n.aa)),(5,.sr (length n.aa+1) 1 0 (length<|map aw n.rules)),(6,I (i0:Int)),(7,.pf (aj<|ae n.aa i0)),(36,.sl 2 (map aj n.aa)),(37,I (length (map aj n.aa):Int)),(38,I (i0:Int)),(39,B true),(40,I (i0:Int)),(41,.pf (aj<|ae n.aa i0)),(42,.ag (aj<|ae n.aa i0))]) oaj rfl) rfl
def ael(h30:gf)(hf:bW n)(hn:cc n/\ ∀s∈Net.aa n,0<=s.aI/\s.aI<(length n.rules:Int))(hx0:i0<length n.aa)(ob:lXE):Piece pg 141 0 (sq1<|sq2<|mQ<|sq1<|sq2<|sq2 jc) (zAO i0 n) ob .normal [(1,.pf (aY n)),(3,.sl 1 (zAB n)),(4,.sr 0 1 0 (length<|zA n)),(5,.sr (length n.aa+1) 1 0 (length<|zE n)),(6,I (i0:Int)),(7,.pf (zh i0 n)),(36,.sl 2 (zA n)),(37,I (length (zA n):Int)),(38,I (i0:Int)),(44,.sl 10 (zp i0 n)),(45,I (length (zp i0 n):Int)),(46,I 0)] ob:=bz [4,5] oab rfl oad oac λv=>pvB zB [] 0 λz=>(an a0 z)
def aem(h30:gf)(hf:bW n)(hn:cc n/\ ∀s∈Net.aa n,0<=s.aI/\s.aI<(length n.rules:Int))(hx0:i0<length n.aa)(ob:lXE):Piece pg 141 0 Mb [(1,.pf (aY n)),(3,.sl 1 (zAB n)),(4,.sr 0 1 0 (length<|zA n)),(5,.sr (length n.aa+1) 1 0 (length<|zE n)),(6,I (i0:Int)),(7,.pf (zh i0 n)),(36,.sl 2 (zA n)),(37,I (length (zA n):Int)),(38,I (i0:Int)),(44,.sl 10 (zp i0 n)),(45,I (length (zp i0 n):Int)),(46,I (((length<|zG i0 n):Nat):Int))] ob (.exit 2) (zo i0 n) ob:=bz [4,5] oab rfl oad oac λv=>pvB zF [] 0 λz=>have hr:=hf.rules;have hs:=hf.aa;have hed:=hf.ah _ (ai hx0);have l1:=aF aD ((ae n.aa i0).ah);have hb:(zl i0 n)=false:=afI oaa;(an (a1 a0)<|an hb z)
def aen(h30:gf)(hf:bW n)(hn:cc n/\ ∀s∈Net.aa n,0<=s.aI/\s.aI<(length n.rules:Int))(hx0:i0<length n.aa)(ob:lXE):Piece pg 141 0 (sq2<|sq2<|sq2 jc) (zo i0 n) ob .normal [(1,.pf (aY n)),(3,.sl 1 (zAB n)),(4,.sr 0 1 0 (length<|zA n)),(5,.sr (length n.aa+1) 1 0 (length<|zE n)),(36,.sl 2 (zA n)),(37,I (length (zA n):Int)),(38,I ↑(i0+1))] ob:=bz [4,5] oab rfl oad oac λv=>pvB (zc i0) [] 0 λz=>have hr:=hf.rules;have hs:=hf.aa;have hed:=hf.ah _ (ai hx0);(an (ac (dwo ((i0+1:Nat):Int)) a0) z)
end
abbrev zAf:Am.Loc:=[(1,.pf (aY n)),(3,.sl 1 (zAB n)),(4,.sr 0 1 0 (length<|zA n)),(5,.sr (length n.aa+1) 1 0 (length<|zE n)),(36,.sl 2 (zA n)),(37,I (length (zA n):Int)),(38,I ((zAp n):Int)),(39,B (zg n))]
def aeo(h30:gf)(hf:bW n)(hn:cc n/\ ∀s∈Net.aa n,0<=s.aI/\s.aI<(length n.rules:Int))(ob:lXE):Piece pg 141 0 (sq1 jc) [(1,.pf (aY n)),(3,.sl 1 (zAB n)),(4,.sr 0 1 0 (length<|zA n)),(5,.sr (length n.aa+1) 1 0 (length<|zE n)),(36,.sl 2 (zA n)),(37,I (length (zA n):Int)),(38,I ((zAp n):Int))] ob .normal (zAf n) ob:=bz [4,5] oab rfl oad oac λv=>pvB zBQ [] 0 λz=>(an (a1 a0) z)
def aep(h30:gf)(hf:bW n)(hn:cc n/\ ∀s∈Net.aa n,0<=s.aI/\s.aI<(length n.rules:Int))(ob:lXE):Piece pg 141 0 (sq1<|sq2 jc) (zAf n) ob (.exit 0) [(1,.pf (aY n)),(3,.sl 1 (zAB n)),(4,.sr 0 1 0 (length<|zA n)),(5,.sr (length n.aa+1) 1 0 (length<|zE n))] ob:=bz [4,5] oab rfl oad oac λv=>pvB (.no<|.pick 0) [] 0 λz=>have hr:=hf.rules;have hs:=hf.aa;have l1:=aF aj (n.aa);have hb:(zQ n)=false:=afI oaa;(an hb z)
def cW(i0 i2:Nat)(la:lXA):lXA:=(bif (ae (ae n.aa i0).ah i2).op==1 then la else(bif (ae (ae n.aa i0).ah i2).op==2 then(bif !(aB (r24 n) (ae (ae n.aa i0).ah i2).n)then la++ [(aB n.rules (ae (ae n.aa i0).ah i2).n).start]else List.take (length la+1) (la++ [(aB n.rules (ae (ae n.aa i0).ah i2).n).start])++ [(ae (ae n.aa i0).ah i2).to])else la++ [(ae (ae n.aa i0).ah i2).to]))
def cX(i0 i2:Nat)(lb:lXA):lXA:=(bif (ae (ae n.aa i0).ah i2).op==1 then lb else(bif (ae (ae n.aa i0).ah i2).op==2 then(bif (aB n.rules (ae (ae n.aa i0).ah i2).n).bR then lb++ [(ae (ae n.aa i0).ah i2).n]else lb)else lb))
end
abbrev zM(i0 i2:Nat)(n:Net):Am.Loc:=[(1,.pf (aY n)),(3,.sl 1 (zAB n)),(4,.sr 0 1 0 (length<|zA n)),(5,.sr 1 1 0 (length<|zE n)),(6,I (i0:Int)),(7,.pf (zh i0 n)),(36,.sl 2 (zA n)),(37,I (length (zA n):Int)),(38,I (i0:Int)),(44,.sl 10 (zp i0 n)),(45,I (length (zp i0 n):Int)),(46,I ↑(i2+1))]
abbrev za(la:lXA):AV:=(.sr 2 1 0<|length la)
abbrev zd(i0:Nat)(n:Net):=(((zCe i0 n)).toNat)
abbrev zk(lb:lXA):AV:=(.sr 3 1 0<|length lb)
abbrev zCa(i0:Nat)(lb:lXA)(n:Net)(ys:List Value):=(aL<|List.set (vs ys) (zd i0 n)<|zk lb)
abbrev zAL(i0:Nat)(la lb:lXA)(n:Net)(xs ys:List Value):lXE:=[.row 36 1 (aL<|List.set (vs xs) i0<|za la),.row 36 1 (zCa i0 lb n ys),.row 3 1 (map bg la),.row 3 1 (map bg lb)]
def rV(n:Net)(i0 i2:Nat)(xs ys:List Value)(la lb:lXA):gy:=⟨(cW n i0 i2 la)=la/\(cX n i0 i2 lb)=lb,.normal,(zM i0 i2 n),[0,1,2,3],5,(zAL i0 la lb n xs ys),(zAL i0 la lb n xs ys)⟩
abbrev ze(i0 i2:Nat)(n:Net):=(aB n.rules (zAr i0 i2 n).n).start
def rW(n:Net)(i0 i2:Nat)(xs ys:List Value)(la lb:lXA):gy:=⟨(cW n i0 i2 la)=(la++ [(ze i0 i2 n)])/\(cX n i0 i2 lb)=(lb++ [(zAr i0 i2 n).n]),.normal,(zM i0 i2 n),[0,1,5,6],7,[.row 36 1 (aL<|List.set (vs xs) i0<|.sr 2 1 0<|length<|la++ [(ze i0 i2 n)]),.row 36 1 (aL<|List.set (vs ys) (zd i0 n)<|.sr 3 1 0<|length<|lb++ [(zAr i0 i2 n).n]),.row 3 1 (map bg<|la++ [(ze i0 i2 n)]),.row 3 1 (map bg<|lb++ [(zAr i0 i2 n).n])],[.row 36 1 (aL<|List.set (vs xs) i0<|.sr 5 1 0<|length<|la++ [(ze i0 i2 n)]),.row 36 1 (aL<|List.set (vs ys) (zd i0 n)<|.sr 6 1 0<|length<|lb++ [(zAr i0 i2 n).n]),.row 3 1 (map bg<|la++ [(ze i0 i2 n)]),.row 3 1 (map bg<|lb++ [(zAr i0 i2 n).n])]⟩
abbrev zBM(i0 i2:Nat)(la:lXA)(n:Net):=(map bg<|List.take (length la+1) (la++ [(ze i0 i2 n)])++ [(zAr i0 i2 n).to])
section
variable(n:Net)(i0 i2:Nat)(xs ys:List Value)(la lb:lXA)
def rX:gy:=⟨(cW n i0 i2 la)=(List.take (length la+1) (la++ [(ze i0 i2 n)])++ [(zAr i0 i2 n).to])/\(cX n i0 i2 lb)=(lb++ [(zAr i0 i2 n).n]),.normal,(zM i0 i2 n),[0,1,7,6],8,[.row 36 1 (aL<|List.set (vs xs) i0<|.sr 2 1 0<|length<|List.take (length la+1) (la++ [(ze i0 i2 n)])++ [(zAr i0 i2 n).to]),.row 36 1 (aL<|List.set (vs ys) (zd i0 n)<|.sr 3 1 0<|length<|lb++ [(zAr i0 i2 n).n]),.row 3 1 (zBM i0 i2 la n),.row 3 1 (map bg<|lb++ [(zAr i0 i2 n).n])],[.row 36 1 (aL<|List.set (vs xs) i0<|.sr 7 1 0<|length<|List.take (length la+1) (la++ [(ze i0 i2 n)])++ [(zAr i0 i2 n).to]),.row 36 1 (aL<|List.set (vs ys) (zd i0 n)<|.sr 6 1 0<|length<|lb++ [(zAr i0 i2 n).n]),.row 3 1 (zBM i0 i2 la n),.row 3 1 (map bg<|lb++ [(zAr i0 i2 n).n])]⟩
def rY:gy:=⟨(cW n i0 i2 la)=(la++ [(ze i0 i2 n)])/\(cX n i0 i2 lb)=lb,.normal,(zM i0 i2 n),[0,1,5,3],6,[.row 36 1 (aL<|List.set (vs xs) i0<|.sr 2 1 0<|length<|la++ [(ze i0 i2 n)]),.row 36 1 (zCa i0 lb n ys),.row 3 1 (map bg<|la++ [(ze i0 i2 n)]),.row 3 1 (map bg lb)],[.row 36 1 (aL<|List.set (vs xs) i0<|.sr 5 1 0<|length<|la++ [(ze i0 i2 n)]),.row 36 1 (zCa i0 lb n ys),.row 3 1 (map bg<|la++ [(ze i0 i2 n)]),.row 3 1 (map bg lb)]⟩
def rZ:gy:=⟨(cW n i0 i2 la)=(List.take (length la+1) (la++ [(ze i0 i2 n)])++ [(zAr i0 i2 n).to])/\(cX n i0 i2 lb)=lb,.normal,(zM i0 i2 n),[0,1,6,3],7,[.row 36 1 (aL<|List.set (vs xs) i0<|.sr 2 1 0<|length<|List.take (length la+1) (la++ [(ze i0 i2 n)])++ [(zAr i0 i2 n).to]),.row 36 1 (zCa i0 lb n ys),.row 3 1 (zBM i0 i2 la n),.row 3 1 (map bg lb)],[.row 36 1 (aL<|List.set (vs xs) i0<|.sr 6 1 0<|length<|List.take (length la+1) (la++ [(ze i0 i2 n)])++ [(zAr i0 i2 n).to]),.row 36 1 (zCa i0 lb n ys),.row 3 1 (zBM i0 i2 la n),.row 3 1 (map bg lb)]⟩
def r9:gy:=⟨(cW n i0 i2 la)=(la++ [(zAr i0 i2 n).to])/\(cX n i0 i2 lb)=lb,.normal,(zM i0 i2 n),[0,1,5,3],6,[.row 36 1 (aL<|List.set (vs xs) i0<|.sr 2 1 0<|length<|la++ [(zAr i0 i2 n).to]),.row 36 1 (zCa i0 lb n ys),.row 3 1 (map bg<|la++ [(zAr i0 i2 n).to]),.row 3 1 (map bg lb)],[.row 36 1 (aL<|List.set (vs xs) i0<|.sr 5 1 0<|length<|la++ [(zAr i0 i2 n).to]),.row 36 1 (zCa i0 lb n ys),.row 3 1 (map bg<|la++ [(zAr i0 i2 n).to]),.row 3 1 (map bg lb)]⟩
end
abbrev zAb(i0 i2:Nat)(n:Net):Am.Loc:=[(1,.pf (aY n)),(3,.sl 1 (zAB n)),(4,.sr 0 1 0 (length<|zA n)),(5,.sr 1 1 0 (length<|zE n)),(6,I (i0:Int)),(7,.pf (zh i0 n)),(36,.sl 2 (zA n)),(37,I (length (zA n):Int)),(38,I (i0:Int)),(44,.sl 10 (zp i0 n)),(45,I (length (zp i0 n):Int)),(46,I (i2:Int))]
abbrev zBO(la:lXA):AV:=(.sr 5 1 0<|length la+1)
abbrev zDg(la:lXA):lXF:=[.sr 5 1 0 (length la+1)]
section
variable(n:Net)
section
variable(i0 i2:Nat)(xs ys:List Value)(la lb:lXA)
def aeq(h30:gf)(hf:bW n)(hn:cc n/\ ∀s∈Net.aa n,0<=s.aI/\s.aI<(length n.rules:Int))(hx0:i0<length n.aa)(hx2:i2<length (ae n.aa i0).ah)(hl1:length xs=(length n.aa))(hl2:length ys=(length n.rules))(hr1:length la<=2*(i0*1000000+i2))(hr2:length lb<=2*(i0*1000000+i2)):vcC pg 141 base c7 3000 (kbL []) Mb (dX<|zAb i0 i2 n) (dq<|zAL i0 la lb n xs ys) 4 (NR [(rV n i0 i2 xs ys la lb),(rW n i0 i2 xs ys la lb),(rX n i0 i2 xs ys la lb),(rY n i0 i2 xs ys la lb),(rZ n i0 i2 xs ys la lb),(r9 n i0 i2 xs ys la lb)]) (.r [.k,bT]<|.yes<|.r [.row (aD<|zAr i0 i2 n),bT]<|.r [.k,bT]<|.br (.r (zb i2)<|.pick 0)<|.r [.k,bT]<|.br (.r [.at i0 0 [.sr 2 1 0 (length la)],.cq ((zAr i0 i2 n).n).toNat (aw<|aB n.rules (zAr i0 i2 n).n),.at i0 0 [.sr 2 1 0 (length la)],bT]<|.r [.cq ((zAr i0 i2 n).n).toNat (aw<|aB n.rules (zAr i0 i2 n).n),bT]<|.br (.r [.cq (zd i0 n) [],.at (zd i0 n) 0 [.sr 3 1 0 (length lb)],.cq (zd i0 n) [],.at (zd i0 n) 0 [.sr 3 1 0 (length lb)],bT]<|.r [.cq ((zAr i0 i2 n).n).toNat (az<|aB (r24 n) (zAr i0 i2 n).n),bT]<|.br (.r (zb i2)<|.pick 1)<|.r [.at i0 0 (zDg la),.at i0 0 (zDg la),bT]<|.r (zb i2)<|.pick 2)<|.r [.cq ((zAr i0 i2 n).n).toNat (az<|aB (r24 n) (zAr i0 i2 n).n),bT]<|.br (.r (zb i2)<|.pick 3)<|.r [.at i0 0 (zDg la),.at i0 0 (zDg la),bT]<|.r (zb i2)<|.pick 4)<|.r [.at i0 0 [.sr 2 1 0 (length la)],.at i0 0 [.sr 2 1 0 (length la)],bT]<|.r (zb i2)<|.pick 5):=
 have hr:=hf.rules;have hs:=hf.aa;have lms:=aF aj n.aa;have lmr:=aF aw n.rules;have hed:=hf.ah _ (ai hx0);have hto:=hn.1.to _ (ai hx0) _ (ai hx2);have hca:=hn.1.call _ (ai hx0) _ (ai hx2);have hrr:=hn.2 _ (ai hx0);have hrl:=DT n;have l1:=aF aD ((ae n.aa i0).ah);have hb:(zAe i0 i2 n)=true:=afH oaa;
 bq (an (a1 a0)<|an hb<|an (ac (rwa aD (ae n.aa i0).ah i2) a0)<|an (a1 a0)<|brP (λ(h1:((ae (ae n.aa i0).ah i2).op==1)=true)=>have g1:=eq_of_beq h1;
 (an (ac (dwo ((i2+1:Nat):Int)) a0)<|lfN (rV n i0 i2 xs ys la lb) ⟨(show(cW n i0 i2 la)=la from(cdT h1 rfl)),(show(cX n i0 i2 lb)=lb from(cdT h1 rfl))⟩<|bo (rfl:(.row 36 1 (aL<|List.set (vs xs) i0<|za la):Ob)= .row 36 1 (aL<|List.set (vs xs) i0<|za la))<|bo (rfl:(.row 36 1 (aL<|List.set (vs ys) (((ae n.aa i0).aI).toNat)<|zk lb):Ob)= .row 36 1 (aL<|List.set (vs ys) (((ae n.aa i0).aI).toNat)<|zk lb))<|bo (rfl:(.row 3 1 (map bg la):Ob)= .row 3 1 (map bg la))<|bo (rfl:(.row 3 1 (map bg lb):Ob)= .row 3 1 (map bg lb)) eC))<|λh1=>have g1:=afT h1;
 (an (a1 a0)<|brP (λ(h2:((ae (ae n.aa i0).ah i2).op==2)=true)=>have g2:=eq_of_beq h2;
 (have l2:=aF aw (n.rules);an (ac (stN (rfl:(aL<|List.set (vs xs) i0<|za la)=(aL<|List.set (vs xs) i0<|za la)) oaa)<|ac (ixL (z:=i0) (n:=length<|map aj n.aa) oaa)<|ac (apo (length la) 8<|rl bg la)<|ac (rwz aw n.rules (ae (ae n.aa i0).ah i2).n)<|ac (atN (rfl:(aL<|List.set (vs xs) i0<|za la)=(aL<|List.set (vs xs) i0<|za la)) oaa)<|ac (ixL (z:=i0) (n:=length<|map aj n.aa) oaa) a0)<|an (ac (rwz aw n.rules (ae (ae n.aa i0).ah i2).n) a0)<|brP (λ(h3:((aB n.rules (ae (ae n.aa i0).ah i2).n).bR)=true)=>(an (ac (stN (rfl:(aL<|List.set (vs ys) (((ae n.aa i0).aI).toNat)<|zk lb)=(aL<|List.set (vs ys) (((ae n.aa i0).aI).toNat)<|zk lb)) oaa)<|ac (ixI (x:=(ae n.aa i0).aI) (n:=length<|map aw n.rules) oaa oaa)<|ac (apo (length lb) 8<|rl bg lb)<|ac (atN (rfl:(aL<|List.set (vs ys) (((ae n.aa i0).aI).toNat)<|zk lb)=(aL<|List.set (vs ys) (((ae n.aa i0).aI).toNat)<|zk lb)) oaa)<|ac (ixI (x:=(ae n.aa i0).aI) (n:=length<|map aw n.rules) oaa oaa) a0)<|have l3:=aF az ((r24 n));an (ac (rwz az (r24 n) (ae (ae n.aa i0).ah i2).n) a0)<|brP (λ(h4:(!(aB (r24 n) (ae (ae n.aa i0).ah i2).n))=true)=>(an (ac (dwo ((i2+1:Nat):Int)) a0)<|lfN (rW n i0 i2 xs ys la lb) ⟨(show(cW n i0 i2 la)=(la++ [(aB n.rules (ae (ae n.aa i0).ah i2).n).start])from(cdF h1<|cdT h2<|cdT h4 rfl)),(show(cX n i0 i2 lb)=(lb++ [(ae (ae n.aa i0).ah i2).n])from(cdF h1<|cdT h2<|cdT h3 rfl))⟩<|bo ((afQ (λz=>Ob.row 36 1 z)<|nA (rfl:(aL<|List.set (vs xs) i0<|za la)=(aL<|List.set (vs xs) i0<|za la))<|zBO la).trans<|afQ (λz=>Ob.row 36 1<|aL<|List.set (vs xs) i0<|.sr 5 1 0 z) oaf)<|bo ((afQ (λz=>Ob.row 36 1 z)<|nA (rfl:(aL<|List.set (vs ys) (((ae n.aa i0).aI).toNat)<|zk lb)=(aL<|List.set (vs ys) (((ae n.aa i0).aI).toNat)<|zk lb))<|.sr 6 1 0<|length lb+1).trans<|afQ (λz=>Ob.row 36 1<|aL<|List.set (vs ys) (((ae n.aa i0).aI).toNat)<|.sr 6 1 0 z) oaf)<|bo (afQ (λz=>Ob.row 3 1 z)<|apF (f:=bg) (rl bg la) (k:=length la) oae (aB n.rules (ae (ae n.aa i0).ah i2).n).start)<|bo (afQ (λz=>Ob.row 3 1 z)<|apF (f:=bg) (rl bg lb) (k:=length lb) oae (ae (ae n.aa i0).ah i2).n) eC))<|λh4=>
 (an (ac (stN (nA (rfl:(aL<|List.set (vs xs) i0<|za la)=(aL<|List.set (vs xs) i0<|za la))<|zBO la) oaa)<|ac (ixL (z:=i0) (n:=length<|map aj n.aa) oaa)<|ac (apo (length la+1) 8<|apF (f:=bg) (rl bg la) (k:=length la) oae (aB n.rules (ae (ae n.aa i0).ah i2).n).start)<|ac (atN (nA (rfl:(aL<|List.set (vs xs) i0<|za la)=(aL<|List.set (vs xs) i0<|za la))<|zBO la) oaa)<|ac (ixL (z:=i0) (n:=length<|map aj n.aa) oaa) a0)<|an (ac (dwo ((i2+1:Nat):Int)) a0)<|lfN (rX n i0 i2 xs ys la lb) ⟨(show(cW n i0 i2 la)=(List.take (length la+1) (la++ [(aB n.rules (ae (ae n.aa i0).ah i2).n).start])++ [(ae (ae n.aa i0).ah i2).to])from(cdF h1<|cdT h2<|cdF h4 rfl)),(show(cX n i0 i2 lb)=(lb++ [(ae (ae n.aa i0).ah i2).n])from(cdF h1<|cdT h2<|cdT h3 rfl))⟩<|bo ((afQ (λz=>Ob.row 36 1 z)<|nA (nA (rfl:(aL<|List.set (vs xs) i0<|za la)=(aL<|List.set (vs xs) i0<|za la))<|zBO la)<|.sr 7 1 0<|length la+1+1).trans<|afQ (λz=>Ob.row 36 1<|aL<|List.set (vs xs) i0<|.sr 7 1 0 z) oaf)<|bo ((afQ (λz=>Ob.row 36 1 z)<|nA (rfl:(aL<|List.set (vs ys) (((ae n.aa i0).aI).toNat)<|zk lb)=(aL<|List.set (vs ys) (((ae n.aa i0).aI).toNat)<|zk lb))<|.sr 6 1 0<|length lb+1).trans<|afQ (λz=>Ob.row 36 1<|aL<|List.set (vs ys) (((ae n.aa i0).aI).toNat)<|.sr 6 1 0 z) oaf)<|bo (afQ (λz=>Ob.row 3 1 z)<|apT (f:=bg) (apF (f:=bg) (rl bg la) (k:=length la) oae (aB n.rules (ae (ae n.aa i0).ah i2).n).start) (length la+1) (ae (ae n.aa i0).ah i2).to)<|bo (afQ (λz=>Ob.row 3 1 z)<|apF (f:=bg) (rl bg lb) (k:=length lb) oae (ae (ae n.aa i0).ah i2).n) eC)))<|λh3=>
 (have l3:=aF az ((r24 n));an (ac (rwz az (r24 n) (ae (ae n.aa i0).ah i2).n) a0)<|brP (λ(h4:(!(aB (r24 n) (ae (ae n.aa i0).ah i2).n))=true)=>(an (ac (dwo ((i2+1:Nat):Int)) a0)<|lfN (rY n i0 i2 xs ys la lb) ⟨(show(cW n i0 i2 la)=(la++ [(aB n.rules (ae (ae n.aa i0).ah i2).n).start])from(cdF h1<|cdT h2<|cdT h4 rfl)),(show(cX n i0 i2 lb)=lb from(cdF h1<|cdT h2<|cdF h3 rfl))⟩<|bo ((afQ (λz=>Ob.row 36 1 z)<|nA (rfl:(aL<|List.set (vs xs) i0<|za la)=(aL<|List.set (vs xs) i0<|za la))<|zBO la).trans<|afQ (λz=>Ob.row 36 1<|aL<|List.set (vs xs) i0<|.sr 5 1 0 z) oaf)<|bo (rfl:(.row 36 1 (aL<|List.set (vs ys) (((ae n.aa i0).aI).toNat)<|zk lb):Ob)= .row 36 1 (aL<|List.set (vs ys) (((ae n.aa i0).aI).toNat)<|zk lb))<|bo (afQ (λz=>Ob.row 3 1 z)<|apF (f:=bg) (rl bg la) (k:=length la) oae (aB n.rules (ae (ae n.aa i0).ah i2).n).start)<|bo (rfl:(.row 3 1 (map bg lb):Ob)= .row 3 1 (map bg lb)) eC))<|λh4=>
 (an (ac (stN (nA (rfl:(aL<|List.set (vs xs) i0<|za la)=(aL<|List.set (vs xs) i0<|za la))<|zBO la) oaa)<|ac (ixL (z:=i0) (n:=length<|map aj n.aa) oaa)<|ac (apo (length la+1) 8<|apF (f:=bg) (rl bg la) (k:=length la) oae (aB n.rules (ae (ae n.aa i0).ah i2).n).start)<|ac (atN (nA (rfl:(aL<|List.set (vs xs) i0<|za la)=(aL<|List.set (vs xs) i0<|za la))<|zBO la) oaa)<|ac (ixL (z:=i0) (n:=length<|map aj n.aa) oaa) a0)<|an (ac (dwo ((i2+1:Nat):Int)) a0)<|lfN (rZ n i0 i2 xs ys la lb) ⟨(show(cW n i0 i2 la)=(List.take (length la+1) (la++ [(aB n.rules (ae (ae n.aa i0).ah i2).n).start])++ [(ae (ae n.aa i0).ah i2).to])from(cdF h1<|cdT h2<|cdF h4 rfl)),(show(cX n i0 i2 lb)=lb from(cdF h1<|cdT h2<|cdF h3 rfl))⟩<|bo ((afQ (λz=>Ob.row 36 1 z)<|nA (nA (rfl:(aL<|List.set (vs xs) i0<|za la)=(aL<|List.set (vs xs) i0<|za la))<|zBO la)<|.sr 6 1 0<|length la+1+1).trans<|afQ (λz=>Ob.row 36 1<|aL<|List.set (vs xs) i0<|.sr 6 1 0 z) oaf)<|bo (rfl:(.row 36 1 (aL<|List.set (vs ys) (((ae n.aa i0).aI).toNat)<|zk lb):Ob)= .row 36 1 (aL<|List.set (vs ys) (((ae n.aa i0).aI).toNat)<|zk lb))<|bo (afQ (λz=>Ob.row 3 1 z)<|apT (f:=bg) (apF (f:=bg) (rl bg la) (k:=length la) oae (aB n.rules (ae (ae n.aa i0).ah i2).n).start) (length la+1) (ae (ae n.aa i0).ah i2).to)<|bo (rfl:(.row 3 1 (map bg lb):Ob)= .row 3 1 (map bg lb)) eC))))<|λh2=>have g2:=afT h2;
 (an (ac (stN (rfl:(aL<|List.set (vs xs) i0<|za la)=(aL<|List.set (vs xs) i0<|za la)) oaa)<|ac (ixL (z:=i0) (n:=length<|map aj n.aa) oaa)<|ac (apo (length la) 8<|rl bg la)<|ac (atN (rfl:(aL<|List.set (vs xs) i0<|za la)=(aL<|List.set (vs xs) i0<|za la)) oaa)<|ac (ixL (z:=i0) (n:=length<|map aj n.aa) oaa) a0)<|an (ac (dwo ((i2+1:Nat):Int)) a0)<|lfN (r9 n i0 i2 xs ys la lb) ⟨(show(cW n i0 i2 la)=(la++ [(ae (ae n.aa i0).ah i2).to])from(cdF h1<|cdF h2 rfl)),(show(cX n i0 i2 lb)=lb from(cdF h1<|cdF h2 rfl))⟩<|bo ((afQ (λz=>Ob.row 36 1 z)<|nA (rfl:(aL<|List.set (vs xs) i0<|za la)=(aL<|List.set (vs xs) i0<|za la))<|zBO la).trans<|afQ (λz=>Ob.row 36 1<|aL<|List.set (vs xs) i0<|.sr 5 1 0 z) oaf)<|bo (rfl:(.row 36 1 (aL<|List.set (vs ys) (((ae n.aa i0).aI).toNat)<|zk lb):Ob)= .row 36 1 (aL<|List.set (vs ys) (((ae n.aa i0).aI).toNat)<|zk lb))<|bo (afQ (λz=>Ob.row 3 1 z)<|apF (f:=bg) (rl bg la) (k:=length la) oae (ae (ae n.aa i0).ah i2).to)<|bo (rfl:(.row 3 1 (map bg lb):Ob)= .row 3 1 (map bg lb)) eC)))
 oab
theorem aer(h30:gf)(hf:bW n)(hn:cc n/\ ∀s∈Net.aa n,0<=s.aI/\s.aI<(length n.rules:Int))(hx0:i0<length n.aa)(hx2:i2<length (ae n.aa i0).ah)(hl1:length xs=(length n.aa))(hl2:length ys=(length n.rules))(hr1:length la<=2*(i0*1000000+i2))(hr2:length lb<=2*(i0*1000000+i2)):Piece pg 141 2 Mb (zAb i0 i2 n) (zAL i0 la lb n xs ys) .normal (zM i0 i2 n) [.row 36 1 (aL<|List.set (vs xs) i0<|.sr 2 1 0<|length<|cW n i0 i2 la),.row 36 1 (aL<|List.set (vs ys) (zd i0 n)<|.sr 3 1 0<|length<|cX n i0 i2 lb),.row 3 1 (map bg<|cW n i0 i2 la),.row 3 1 (map bg<|cX n i0 i2 lb)]:=CI (gw aC mixed<|bt _) (aeq n i0 i2 xs ys la lb h30 hf hn hx0 hx2 hl1 hl2 hr1 hr2) (dR (o:=(rV n i0 i2 xs ys la lb)) (mH rfl rfl rfl (by simp_all[rV,plS,AV.pure])<|bo ((ew (f:=(bU [0,1,2,3] 5)) (o:=2) (q:=2) rfl).symm)<|bo ((ew (f:=(bU [0,1,2,3] 5)) (o:=3) (q:=3) rfl).symm) oaH)<|dR (o:=(rW n i0 i2 xs ys la lb)) (mH rfl rfl rfl (by simp_all[rW,plS,AV.pure])<|bo ((ew (f:=(bU [0,1,5,6] 7)) (o:=2) (q:=5) rfl).symm)<|bo ((ew (f:=(bU [0,1,5,6] 7)) (o:=3) (q:=6) rfl).symm) oaH)<|dR (o:=(rX n i0 i2 xs ys la lb)) (mH rfl rfl rfl (by simp_all[rX,plS,AV.pure])<|bo ((ew (f:=(bU [0,1,7,6] 8)) (o:=2) (q:=7) rfl).symm)<|bo ((ew (f:=(bU [0,1,7,6] 8)) (o:=3) (q:=6) rfl).symm) oaH)<|dR (o:=(rY n i0 i2 xs ys la lb)) (mH rfl rfl rfl (by simp_all[rY,plS,AV.pure])<|bo ((ew (f:=(bU [0,1,5,3] 6)) (o:=2) (q:=5) rfl).symm)<|bo ((ew (f:=(bU [0,1,5,3] 6)) (o:=3) (q:=3) rfl).symm) oaH)<|dR (o:=(rZ n i0 i2 xs ys la lb)) (mH rfl rfl rfl (by simp_all[rZ,plS,AV.pure])<|bo ((ew (f:=(bU [0,1,6,3] 7)) (o:=2) (q:=6) rfl).symm)<|bo ((ew (f:=(bU [0,1,6,3] 7)) (o:=3) (q:=3) rfl).symm) oaH)<|dR (o:=(r9 n i0 i2 xs ys la lb)) (mH rfl rfl rfl (by simp_all[r9,plS,AV.pure])<|bo ((ew (f:=(bU [0,1,5,3] 6)) (o:=2) (q:=5) rfl).symm)<|bo ((ew (f:=(bU [0,1,5,3] 6)) (o:=3) (q:=3) rfl).symm) oaH) oF) (by simp_all[rV,rW,rX,rY,rZ,r9])
end
abbrev zBU:Am.Loc:=[(1,.pf (aY n)),(3,.sl 1 (zAB n)),(4,.sr 0 1 0 (length<|zA n)),(5,.sr 1 1 0 (length<|zE n)),(36,.sl 2 (zA n)),(37,I (length (zA n):Int)),(38,I 0)]
abbrev zBx:lXE:=[.row 36 1 (replicate (length<|zA n) [.v (.slice none 0 0)]),.row 36 1 (replicate (length<|zE n) [.v (.slice none 0 0)])]
abbrev zCb:Am.Loc:=[(1,.pf (aY n)),(3,.sl 1 (zAB n)),(4,.sl 1 (map bH<|jt n)),(5,.sl 1 (map bH<|ga n))]
def aaO:KB:=⟨(zBU n),(zBx n),false,.ret,[],[],.normal,(zCb n),[],True⟩
theorem yx(i0 i2:Nat)(l:lXA):cW n i0 i2 l=l++tgE n (r24 n) (ae (ae n.aa i0).ah i2):=by unfold cW tgE;grind
theorem yy(i0 i2:Nat)(l2:lXA):cX n i0 i2 l2=l2++tgL n (ae (ae n.aa i0).ah i2):=by unfold cX tgL;grind
theorem Bw:gT (λi0 i2 G=>List.set G i0<|cW n i0 i2<|ae G i0) (λi0=>(ae n.aa i0).ah.length) (replicate n.aa.length []) n.aa.length=yw n:=by rw[ym (tg:=λi k=>tgE n (r24 n)<|ae (ae n.aa i).ah k) (λi k G _ _=>by rw[yx]) _ (afG _),Nat.sub_self,List.replicate_zero,agG];have h1:(λi=>(range (ae n.aa i).ah.length).flatMap λk=>tgE n (r24 n)<|ae (ae n.aa i).ah k)=λi=>(λs:State=>s.ah.flatMap<|tgE n<|r24 n) (ae n.aa i):=funext λi=>kT (ae n.aa i).ah (tgE n<|r24 n);rw[h1,Br n.aa (λs:State=>s.ah.flatMap<|tgE n<|r24 n)];rfl
theorem Bx:gT (λi0 i2 G=>List.set G (Int.toNat (ae n.aa i0).aI)<|cX n i0 i2<|ae G<|Int.toNat (ae n.aa i0).aI) (λi0=>(ae n.aa i0).ah.length) (replicate n.rules.length []) n.aa.length=pd n:=by unfold pd;congr 1;funext i k G;rw[yy];rfl
end
def Oz{n:Net}(hn:cc n): ∀R∈yw n,∀c∈R,0<=c/\c<(n.aa.length:Int):=λR hR c hc=>by obtain⟨s,hs,rfl⟩:=agl.1 hR;obtain⟨e,he,hc2⟩:=List.mem_flatMap.1 hc;obtain⟨i,hi,rfl⟩:=bP hs;have he2:e∈(aB n.aa (i:Nat)).ah:=he;exact vM hn _ he2 c hc2
def OA{n:Net}(hn:cc n)(hr: ∀s∈n.aa,0<=s.aI/\s.aI<(n.rules.length:Int)): ∀R∈pd n,∀c∈R,0<=c/\c<(n.rules.length:Int):=λR hR c hc=>by
 obtain⟨t,_,rfl⟩:=bP hR;obtain⟨s,hs,_,e,he,hc⟩:=(tp hr t c).1 hc;unfold tgL at hc;cases h2:e.op==2 with
 |true=>have:=hn.call s hs e he (eq_of_beq h2);grind
 |false=>rw[h2]at hc;simp at hc
def OB(n:Net)(h30:gf)(hf:bW n)(hn:cc n/\ ∀s∈Net.aa n,0<=s.aI/\s.aI<(length n.rules:Int)):ca pg 141 0 0 (.loop jc) (aaO n):=by
 skip;have hl:=pQ (P:=Tryz.prog) (n:=141) (K:=0) (d:=1) (S:=λ(G:List lXA×List lXA)=>cj 0 36 3 (gV G.1)++cj (length n.aa+1) 36 3 (gV G.2)) (m:=length n.aa) (len:=λi0=>length (ae n.aa i0).ah) (step:=λi0 i2(G:List lXA×List lXA)=>(List.set G.1 i0 (cW n i0 i2<|ae G.1 i0),List.set G.2 (Int.toNat (ae n.aa i0).aI) (cX n i0 i2<|ae G.2<|Int.toNat (ae n.aa i0).aI))) (I:=λi k G=>(G.1.length=length n.aa/\ ∀l∈G.1,l.length<=2*(i*1000000+k))/\(G.2.length=length n.rules/\ ∀l∈G.2,l.length<=2*(i*1000000+k))) (s0:=(replicate (length<|map aj n.aa) [],replicate (length<|map aw n.rules) []))
  (λi0 hx ob=>aei n i0 h30 hf hn hx ob) (λi0 hx ob=>aej n i0 h30 hf hn hx ob) (λi0 hx ob=>aek n i0 h30 hf hn hx ob) (λi0 hx ob=>ael n i0 h30 hf hn hx ob)
  (λi0 i2 G hx0 hx2 hI=>⟨pin2 hI.1.1 (by rw[hI.1.1];exact hx0) (by grind[ai]) oab rfl (mqc oai<|mqc oai<|mqc rfl<|mqc rfl<|mqc oaI<|mqc oai<|mqc oai<|mqc oaI<|mqc oaI<|mqc oai<|by grind[aR,AV.pure]) (mqc oai<|mqc oai<|mqc rfl<|mqc rfl<|mqc oaI<|mqc oai<|mqc oai<|mqc oaI<|mqc oaI<|mqc oai<|by grind[aR,AV.pure]) rfl rfl (λxs ys hxs hys=>aer n i0 i2 xs ys (ae G.1 i0) (ae G.2<|Int.toNat (ae n.aa i0).aI) h30 hf hn hx0 hx2 (hxs.trans hI.1.1) (hys.trans hI.2.1) (by grind[ai])<|by grind[ai]),(by grind[yx,L8,ai]),(by grind[yy,L9,ai])⟩)
  (λi0 hx ob=>aem n i0 h30 hf hn hx ob) (λi0 hx ob=>aen n i0 h30 hf hn hx ob) (λob=>aeo n h30 hf hn ob) (λob=>aep n h30 hf hn ob)
  oaq (λi G hi hI=>⟨⟨hI.1.1,λl hl=>agr (hI.1.2 l hl) oaF⟩,⟨hI.2.1,λl hl=>agr (hI.2.2 l hl) oaF⟩⟩)
 rw[<-VN]at hl;have hG1:aL (ix<|gV (gT (λi0 i2(G:List lXA×List lXA)=>(List.set G.1 i0 (cW n i0 i2<|ae G.1 i0),List.set G.2 (Int.toNat (ae n.aa i0).aI) (cX n i0 i2<|ae G.2<|Int.toNat (ae n.aa i0).aI))) (λi0=>length (ae n.aa i0).ah) (replicate (length<|map aj n.aa) [],replicate (length<|map aw n.rules) [])<|length n.aa).1)=map bH (jt n):=by rw[rU (f:=λi0 i2 G=>List.set G i0<|cW n i0 i2<|ae G i0) (g:=λi0 i2 G=>List.set G (Int.toNat (ae n.aa i0).aI)<|cX n i0 i2<|ae G<|Int.toNat (ae n.aa i0).aI)];simp only[aF];rw[Bw,rM,jt];exact qb _ λR hR c hc=>(Oz hn.1 R hR c hc).1
 have hG2:aL (ix<|gV (gT (λi0 i2(G:List lXA×List lXA)=>(List.set G.1 i0 (cW n i0 i2<|ae G.1 i0),List.set G.2 (Int.toNat (ae n.aa i0).aI) (cX n i0 i2<|ae G.2<|Int.toNat (ae n.aa i0).aI))) (λi0=>length (ae n.aa i0).ah) (replicate (length<|map aj n.aa) [],replicate (length<|map aw n.rules) [])<|length n.aa).2)=map bH (ga n):=by rw[rU (f:=λi0 i2 G=>List.set G i0<|cW n i0 i2<|ae G i0) (g:=λi0 i2 G=>List.set G (Int.toNat (ae n.aa i0).aI)<|cX n i0 i2<|ae G<|Int.toNat (ae n.aa i0).aI)];simp only[aF];rw[Bx,rM,ga];exact qb _ λR hR c hc=>(OA hn.1 hn.2 R hR c hc).1
 have hlen1:length (gT (λi0 i2(G:List lXA×List lXA)=>(List.set G.1 i0 (cW n i0 i2<|ae G.1 i0),List.set G.2 (Int.toNat (ae n.aa i0).aI) (cX n i0 i2<|ae G.2<|Int.toNat (ae n.aa i0).aI))) (λi0=>length (ae n.aa i0).ah) (replicate (length<|map aj n.aa) [],replicate (length<|map aw n.rules) [])<|length n.aa).1=length (map aj n.aa):=by rw[rU (f:=λi0 i2 G=>List.set G i0<|cW n i0 i2<|ae G i0) (g:=λi0 i2 G=>List.set G (Int.toNat (ae n.aa i0).aI)<|cX n i0 i2<|ae G<|Int.toNat (ae n.aa i0).aI)];grind[Bw,yw]
 have hlen2:length (gT (λi0 i2(G:List lXA×List lXA)=>(List.set G.1 i0 (cW n i0 i2<|ae G.1 i0),List.set G.2 (Int.toNat (ae n.aa i0).aI) (cX n i0 i2<|ae G.2<|Int.toNat (ae n.aa i0).aI))) (λi0=>length (ae n.aa i0).ah) (replicate (length<|map aj n.aa) [],replicate (length<|map aw n.rules) [])<|length n.aa).2=length (map aw n.rules):=by rw[rU (f:=λi0 i2 G=>List.set G i0<|cW n i0 i2<|ae G i0) (g:=λi0 i2 G=>List.set G (Int.toNat (ae n.aa i0).aI)<|cX n i0 i2<|ae G<|Int.toNat (ae n.aa i0).aI)];grind[Bx,tn]
 exact Ov (Lm:=[(1,.pf (aY n)),(3,.sl 1 (map az<|r24 n)),(4,.sr 0 1 0 (length<|map aj n.aa)),(5,.sl 1 (map bH<|ga n))]) (aF _ _) hl rfl (mqc oai<|mqc oai<|mqc rfl<|mqc rfl<|mqc oai<|by grind[aR,AV.pure]) (hlen1.trans<|aF _ _) hG1 hG2 (mqc (.inl ⟨rfl,oai⟩)<|mqc (.inl ⟨rfl,oai⟩)<|mqc (.inl ⟨rfl,(by simp[AV.und])⟩)<|mqc (.inr ⟨by rw[hlen2];rfl,rfl⟩) ba) (mqc (.inl ⟨rfl,oai⟩)<|mqc (.inl ⟨rfl,oai⟩)<|mqc (.inr ⟨by rw[hlen1];rfl,rfl⟩)<|mqc (.inl ⟨rfl,oai⟩) ba)
def I4(n:Net):KB:=⟨(zBU n),(zBx n),false,.ret,[],[],.normal,(zCb n),[],cc n/\ ∀s∈Net.aa n,0<=s.aI/\s.aI<(length n.rules:Int)⟩
def VO(n:Net)(h30:gf)(hf:bW n):ca pg 141 0 0 (.loop jc) (I4 n):=⟨λ_ e=>oao,λhn _=>(OB n h30 hf hn).2 trivial rfl⟩
def acu:Code:=bn 5 (aG 10)
abbrev VP(n:Net)(i5:Nat):Am.Loc:=[(3,.sl 1 (zAB n)),(4,.sl 1 (map bH<|jt n)),(5,.sl 1 (map bH<|ga n)),(114,.sl 9 (zE n)),(115,I (length (zE n):Int)),(116,I (i5:Int))]
abbrev VQ(n:Net)(i5:Nat):lXE:=[]
def yz(n:Net)(i5:Nat):Bool:=((ae n.rules i5).bR&&((!(ae n.rules i5).ft)&&(ae (r24 n) i5)))
def vP(n:Net):Bool:=cz (length n.rules) (yz n)
abbrev VR(n:Net)(i5:Nat):Am.Loc:=[(2,I 110)]
abbrev VS(n:Net)(i5:Nat):lXE:=[]
abbrev VT(n:Net):Am.Loc:=[(4,.sl 1 (map bH<|jt n)),(5,.sl 1 (map bH<|ga n))]
abbrev VU(n:Net):lXE:=[]
def I5(n:Net):KB:=anK 5 (length n.rules) (yz n) (VP n) (VQ n) .ret (VR n) (VS n) (.exit 5) (VT n) (VU n) (True)
abbrev Gu(n:Net)(i5:Nat):List bG:=[htW (yz n i5) .ret (VR n i5) zI (VS n i5),nxW (yz n i5) (VP n<|i5+1) (VQ n<|i5+1) (VP n<|i5+1) zI (VQ n<|i5+1)]
abbrev zDF(i5:Nat):GT:=(.r [.int ↑(i5+1),bT]<|.pick 1)
def VV(n:Net)(h30:gf)(hf:bW n):ca pg 141 0 5 (.loop acu) (I5 n):=
 anB (Gu n) (λi5=>(.r [.k,bT]<|.yes<|.r [.row (aw<|ae n.rules i5),bT]<|.a (.a (.r (uTT 6 [.row (az<|ae (r24 n) i5),bT,bT])<|.br zB<|zDF i5)<|.r (bT::bT::bT::uFF 4 [bT])<|zDF i5)<|.r (uFF 7 [bT])<|zDF i5)) (range 0) zF
 (λ_ i5(hx5:i5<(length n.rules))=>have hr:=hf.rules;have hs:=hf.aa;have hrl:=DT n;have l1:=aF aw (n.rules);have hb:(decide<|(i5:Int)<(length (map aw n.rules):Int))=true:=afH oaa;
 bq (an (a1 a0)<|an hb<|an (ac (rwa aw n.rules i5) a0)<|aO (λ(h1:((ae n.rules i5).bR)=true)=>have q0:=(ay h1 rfl:yz n i5=_);
 (aO (λ(h2:(!(ae n.rules i5).ft)=true)=>have q1:=q0.trans (ay h2 rfl);
 (an (a1<|ac (rwa az (r24 n) i5)<|aN 2<|ac h2<|aN 2<|ac h1 a0)<|brP (λ(h3:((ae (r24 n) i5))=true)=>(an a0<|lf (wy (Gu n i5) 0) 1<|q1.trans h3))<|λh3=>(an (ac (dwo ((i5+1:Nat):Int)) a0)<|lf (wy (Gu n i5) 1) 1 ⟨(q1.trans h3),rfl,rfl⟩)))<|λh2=>(an (aN 3<|ac (ak h2)<|aN 2<|ac h1 a0)<|an (ac (dwo ((i5+1:Nat):Int)) a0)<|lf (wy (Gu n i5) 1) 1 ⟨(q0.trans<|aT h2),rfl,rfl⟩)))<|λh1=>(an (aN 6<|ac (ak h1) a0)<|an (ac (dwo ((i5+1:Nat):Int)) a0)<|lf (wy (Gu n i5) 1) 1 ⟨(show yz n i5=false from(aT h1)),rfl,rfl⟩))
 oab)
 (λ_=>have hr:=hf.rules;have hs:=hf.aa;have l1:=aF aw (n.rules);have hb:(zP n)=false:=afI oaa;
 bq (an (a1 a0)<|an hb<|lx (.exit 5) (VT n) (range 0) (VU n) 0)
 oab)
def r10(n:Net):Int:=(bif !(r26 n)then 110 else(bif !(r27 n)then 110 else(bif !(r28 n)then 110 else(bif !(r29 n)then 110 else(bif vP n then 110 else(bif iy (jt n)then 110 else(bif iy (ga n)then 110 else 0)))))))
def vb:cy [0,5] (aG 10)=[(0,.loop jc),(5,.loop acu)]:=by kernel_rfl
def aaP(n:Net)(h30:gf)(hf:bW n):aQ pg 10 [.ag (aY n)] [] [] (I<|r10 n) []:=
 have hr:=hf.rules;have hs:=hf.aa;aV 10 (.r [bT]<|.a zBw<|.a (.r (.int 0::bT::.int 1::bT::uFF 4 [bT]) zD)<|.a (.r [.int 0,bT,.int 1,bT,bT,.int 2,bT,bF,bF,bT] zD)<|.r [.int 0,bT,.int 1,bT,bT,.int 2,bT,bT,.int 3,bT,bT]<|.br zD<|.r [.int 4,bT]<|.r [bT]<|.r [bT]<|.r [bT]<|.no<|.r [bT]<|.br .nil<|.a (.r [.int 5,bF,bF,bT] zD)<|.r [.int 5,bT,bT,.int 6,bT]<|.br zD zD)
 (an a0<|aO (λ(h0:(!(r26 n))=true)=>(an (aN 5<|ac (n2 h0)<|cA (g26 n) hf a0)<|an a0<|iE<|show r10 n=_ from(cdT h0 rfl)))<|λh0=>(aO (λ(h1:(!(r27 n))=true)=>(an (aN 3<|ac (n2 h1)<|a1<|cA (g27 n) hf<|ac (ak h0)<|cA (g26 n) hf a0)<|an a0<|iE<|show r10 n=_ from(cdF h0<|cdT h1 rfl)))<|λh1=>(aO (λ(h2:(!(r28 n))=true)=>(an (a1<|ac (n2 h2)<|a1<|cA (g28 n) hf<|ac (ak h1)<|a1<|cA (g27 n) hf<|ac (ak h0)<|cA (g26 n) hf a0)<|an a0<|iE<|show r10 n=_ from(cdF h0<|cdF h1<|cdT h2 rfl)))<|λh2=>(an (a1<|cA (g29 n) ⟨tk h1 h2,hf⟩<|ac (ak h2)<|a1<|cA (g28 n) hf<|ac (ak h1)<|a1<|cA (g27 n) hf<|ac (ak h0)<|cA (g26 n) hf a0)<|brP (λ(h3:(!(r29 n))=true)=>(an a0<|iE<|show r10 n=_ from(cdF h0<|cdF h1<|cdF h2<|cdT h3 rfl)))<|λh3=>(an (cA (g24 n) ⟨tk h1 h2,hf⟩ a0)<|have l1:=aF aj (n.aa);an (ac (mko (length<|map aj n.aa) 24) a0)<|have l2:=aF aw (n.rules);an (ac (mko (length<|map aw n.rules) 24) a0)<|an a0<|an (kbT (I4 n) ⟨tk h1 h2,Ma h2⟩)<|an (rfl:false=false)<|an a0<|an (kbT (I5 n) trivial)<|brP (λ(h4:(vP n)=true)=>(iE<|show r10 n=_ from(cdF h0<|cdF h1<|cdF h2<|cdF h3<|cdT h4 rfl)))<|λh4=>
 (aO (λ(h5:(iy<|jt n)=true)=>(an (a1<|ac (n2 h5)<|cA (g30 h30<|jt n) (Gt (tk h1 h2) hf) a0)<|an a0<|iE<|show r10 n=_ from(cdF h0<|cdF h1<|cdF h2<|cdF h3<|cdF h4<|cdT h5 rfl)))<|λh5=>(an (cA (g30 h30<|ga n) (VM (tk h1 h2) (Ma h2) hf)<|a1<|ac (ak h5)<|cA (g30 h30<|jt n) (Gt (tk h1 h2) hf) a0)<|brP (λ(h6:(iy<|ga n)=true)=>(an a0<|iE<|show r10 n=_ from(cdF h0<|cdF h1<|cdF h2<|cdF h3<|cdF h4<|cdF h5<|cdT h6 rfl)))<|λh6=>(an a0<|iE<|show r10 n=_ from(cdF h0<|cdF h1<|cdF h2<|cdF h3<|cdF h4<|cdF h5<|cdF h6 rfl))))))))) (hc:=(aK (.cons (g26 n) rfl<|.cons (g27 n) rfl<|.cons (g28 n) rfl<|.cons (g29 n) rfl<|.cons (g24 n) rfl<|.cons (g30 h30<|jt n) rfl<|.cons (g30 h30<|ga n) rfl bB.nil) aC)) (hk:=(bc (l:=[(0,I4 n),(5,I5 n)]) vb (aE (VO n h30 hf) rfl<|aE (VV n h30 hf) rfl aP) rfl))
section
variable(x:Nat×Nat)
def skC:lXF:=[I ((x.1:Nat):Int),I ((x.2:Nat):Int)]
def Gv:aq (skC x)=true:=rfl
@[simp] theorem pv_st:aq (skC x)=true:=rfl
end
@[simp] theorem pr_st(l:List (Nat×Nat)):aM (l.map skC)=true:=aW Gv l
@[simp] theorem pr_skset(l:List (Nat×Nat))(i:Nat)(x:Nat×Nat):aM ((l.map skC).set i<|skC x)=true:=fA rfl _ (aW Gv l)
@[simp] theorem afu(l:lXA)(i:Nat)(x:Int):aM ((l.map bg).set i<|bg x)=true:=fA rfl _ (aW Bn l)
abbrev Sk:=Nat×lXA×List (Nat×Nat)
def c0(l:lXA):Nat:=l.count 0
structure SR(g:List lXC)(w:Sk):Prop where
 len:w.2.1.length=g.length
 kl:w.1<=w.2.2.length
 node: ∀j,j<w.1->(ae w.2.2 j).1<g.length/\(ae w.2.2 j).2<=(ae g (ae w.2.2 j).1).length
 bd:w.1+c0 w.2.1<=g.length
structure SK(g:List lXC)(k:Nat)(is:lXA)(l:List (Nat×Nat)):Prop where
 len:is.length=g.length
 kl:k<=l.length
 pos:0<k
 kb:k<=1000000
 node:(ae l<|k-1).1<g.length
 row:(ae g (ae l<|k-1).1).length<=2000000000000
 to:(ae l<|k-1).2<(ae g (ae l<|k-1).1).length->ae (ae g (ae l<|k-1).1) (ae l<|k-1).2<g.length
theorem SR.sk{g:List lXC}(hg:jm g){w:Sk}(h:SR g w)(hk:0<w.1):SK g w.1 w.2.1 w.2.2 where
 len:=h.len
 kl:=h.kl
 pos:=hk
 kb:=by have:=h.bd;have:=hg.len;omega
 node:=(h.node _ oaa).1
 row:=hg.row _ (ai (h.node _ oaa).1)
 to:=λhq=>hg.wf _ (ai (h.node _ oaa).1) _ (ai hq)
def lq(w:Sk)(q:Nat):List (Nat×Nat):=List.set w.2.2 (w.1-1) ((ae w.2.2<|w.1-1).1,q)
theorem fE{w:Sk}(h:w.1<=w.2.2.length)(hk:0<w.1)(q:Nat):ae (lq w q) (w.1-1)=((ae w.2.2<|w.1-1).1,q):=by grind[lq,ae]
theorem VW{w:Sk}(h:w.1<=w.2.2.length)(hk:0<w.1)(q:Nat):List.set (lq w q) (w.1-1) ((ae (lq w q)<|w.1-1).1,(ae (lq w q)<|w.1-1).2+1)=lq w (q+1):=by grind[fE,lq,List.set_set]
theorem aaQ{w:Sk}(h:w.1<=w.2.2.length)(hk:0<w.1):lq w (ae w.2.2<|w.1-1).2=w.2.2:=by unfold lq;refine af8 λj=> ?_;grind[eL]
theorem nS(w:Sk)(q:Nat):(lq w q).length=w.2.2.length:=af3
section
variable(g:List lXC)(w:Sk)
def jd:lXC:=ae g (ae w.2.2<|w.1-1).1
def j0(q:Nat):Nat:=ae (jd g w) q
def An(q:Nat):Bool:= !(ae w.2.1 (j0 g w q)==1)&& !(ae w.2.1 (j0 g w q)==0)
def eE:Nat:=(ae w.2.2<|w.1-1).2+gQ ((jd g w).length-(ae w.2.2<|w.1-1).2) λj=> !(An g w<|(ae w.2.2<|w.1-1).2+j)
def OC:Bool:=decide (eE g w<(jd g w).length)
def kG:Bool:=OC g w&&(ae w.2.1 (j0 g w<|eE g w)==1)
def gD:Sk:=bif OC g w then(w.1+1,List.set w.2.1 (j0 g w<|eE g w) 1,List.take w.1 (lq w<|eE g w+1)++ [(j0 g w (eE g w),0)])else(w.1-1,List.set w.2.1 (ae w.2.2<|w.1-1).1 2,lq w (eE g w))
end
theorem By{n:Nat}{t:Nat->Bool}(h:cz n t=false):gQ n t=n:=by grind[gQ,List.find?_eq_none,bL]
theorem Mc(n:Nat)(t:Nat->Bool):gQ n t<=n:=by
 cases h:cz n t with
 |true=>exact ahb (iJ h).1
 |false=>exact Nat.le_of_eq (By h)
section
variable{g:List lXC}{w:Sk}
theorem Md{q:Nat}(h0:(ae w.2.2<|w.1-1).2<=q)(hq:q<eE g w):An g w q=true:=by
 unfold eE at hq;generalize hm:(jd g w).length-(ae w.2.2<|w.1-1).2=m at hq;obtain⟨j,rfl⟩: ∃j,q=(ae w.2.2<|w.1-1).2+j:=⟨q-(ae w.2.2<|w.1-1).2,by omega⟩;by_cases ha:cz m (λj=> !(An g w<|(ae w.2.2<|w.1-1).2+j))=true
 ·have:=(iJ ha).2.2 j oaa;simpa using this
 grind[bL,Mc]
theorem vQ(h:(ae w.2.2<|w.1-1).2<=(jd g w).length):eE g w<=(jd g w).length:=by grind[eE,Mc]
theorem sa(h:OC g w=true):eE g w<(jd g w).length/\An g w (eE g w)=false:=by
 have h:=afL h;refine⟨h,?_⟩;unfold eE at h⊢;generalize hm:(jd g w).length-(ae w.2.2<|w.1-1).2=m at h⊢;have ha:cz m (λj=> !(An g w<|(ae w.2.2<|w.1-1).2+j))=true:=by grind[By]
 have:=(iJ ha).2.1;simpa using this
end
def Me:Code:=bn 0 (aG 30)
def Mf:Code:=bn 2 Me
def nT:Code:=kC 3 Mf
def sb:Code:=bn 4 nT
theorem Gw:nT= .seq (sq1 nT) (.seq (.block 4<|.loop sb)<|sq2<|sq2 nT):=by kernel_rfl
section
variable(g:List lXC)(i0 k:Nat)(is:lXA)(l:List (Nat×Nat))
def p30_9(hg:jm g)(hx0:i0<length g)(hs:SK g k is l)(hb0:(decide<|((k:Nat):Int)>0)=true):Piece pg 96 0 (sq1 nT) [(0,.sl 1 (map bH g)),(3,.sr 0 1 0 (length<|map bH g)),(5,.sr 1 2 0 k),(12,I (length (map bH g):Int)),(13,I (i0:Int))] [.row 3 1 (map bg is),.row 114 2 (map skC l)] .normal [(0,.sl 1 (map bH g)),(3,.sr 0 1 0 (length<|map bH g)),(5,.sr 1 2 0 k),(6,.pt 1 (0*2+(k-1)*2)),(12,I (length (map bH g):Int)),(13,I (i0:Int))] [.row 3 1 (map bg is),.row 114 2 (map skC l)]:=pvB (.r [.int ((k-1:Nat):Int),bT]<|.pick 0) [0,1] 2 λz=>have hgl0:=hg.len;have h1:=hs.len;have h2:=hs.kl;have h3:=hs.pos;have h4:=hs.kb;have h5:=hs.node;have h6:=hs.row;have h7:=hs.to;have lms:=aF bg is;have lrn:=aF bH g;have lst:=aF skC l;have lro:=aF cU (ae g (ae l<|k-1).1);have gb0:=afL hb0;(an (ac (ixo (k-1) k)<|ac (dso k) a0) z)
def p30_g(hg:jm g)(hx0:i0<length g)(hs:SK g k is l)(hb0:(decide<|((((ae l<|k-1)).2:Nat):Int)<(length (map cU<|ae g<|((ae l<|k-1)).1):Int))=true)(hb1:((ae is<|ae (ae g<|((ae l<|k-1)).1)<|((ae l<|k-1)).2)==1)=false)(hb2:((ae is<|ae (ae g<|((ae l<|k-1)).1)<|((ae l<|k-1)).2)==0)=false):Piece pg 96 0 sb [(0,.sl 1 (map bH g)),(3,.sr 0 1 0 (length<|map bH g)),(5,.sr 1 2 0 k),(6,.pt 1 (0*2+(k-1)*2)),(12,I (length (map bH g):Int)),(13,I (i0:Int))] [.row 3 1 (map bg is),.row 114 2 (map skC l)] .normal [(0,.sl 1 (map bH g)),(3,.sr 0 1 0 (length<|map bH g)),(5,.sr 1 2 0 k),(6,.pt 1 (0*2+(k-1)*2)),(12,I (length (map bH g):Int)),(13,I (i0:Int))] [.row 3 1 (map bg is),.row 114 2 (map skC<|List.set l (k-1) (((ae l<|k-1)).1,((ae l<|k-1)).2+1))]:=pvB (.r [.at (k-1) 1 (skC<|ae l<|k-1),.at (k-1) 0 (skC<|ae l<|k-1),.row (bH<|ae g<|((ae l<|k-1)).1),.k,bT]<|.yes<|.r [.at (k-1) 0 (skC<|ae l<|k-1),.row (bH<|ae g<|((ae l<|k-1)).1),.at (k-1) 1 (skC<|ae l<|k-1),.row (cU<|ae (ae g<|((ae l<|k-1)).1)<|((ae l<|k-1)).2),bT]<|.r [.at (k-1) 1 (skC<|ae l<|k-1),.int ((((ae l<|k-1)).2+1:Nat):Int),.at (k-1) 1 (skC<|ae l<|k-1),bT]<|.r [.at (ae (ae g<|((ae l<|k-1)).1)<|((ae l<|k-1)).2) 0 (bg<|ae is<|ae (ae g<|((ae l<|k-1)).1)<|((ae l<|k-1)).2),bT]<|.r [.k,bT]<|.no<|.r [.k,bT]<|.no<|.pick 0) [0,1] 2 λz=>have hgl0:=hg.len;have h1:=hs.len;have h2:=hs.kl;have h3:=hs.pos;have h4:=hs.kb;have h5:=hs.node;have h6:=hs.row;have h7:=hs.to;have lms:=aF bg is;have lrn:=aF bH g;have lst:=aF skC l;have lro:=aF cU (ae g (ae l<|k-1).1);have gb0:=afL hb0;have lq0:=aF cU ((ae g<|((ae l<|k-1)).1));(an (a1<|ac (rwa bH g<|((ae l<|k-1)).1)<|ac (ato 2 0 (k-1)<|rl skC l)<|ac (ato 2 1 (k-1)<|rl skC l) a0)<|an hb0<|an (ac (rwa cU (ae g<|((ae l<|k-1)).1)<|((ae l<|k-1)).2)<|ac (ato 2 1 (k-1)<|rl skC l)<|ac (rwa bH g<|((ae l<|k-1)).1)<|ac (ato 2 0 (k-1)<|rl skC l) a0)<|an (ac (sto 2 1 1 (k-1)<|rl skC l)<|ac (dwo ((((ae l<|k-1)).2+1:Nat):Int))<|ac (ato 2 1 (k-1)<|rl skC l) a0)<|an (ac (ato 1 0 (ae (ae g<|((ae l<|k-1)).1)<|((ae l<|k-1)).2)<|rl bg is)<|ac (ixo (ae (ae g<|((ae l<|k-1)).1)<|((ae l<|k-1)).2)<|length<|map bH g) a0)<|an (a1 a0)<|an hb1<|an (a1 a0)<|an hb2<|lfZ z<|bo (rfl:(.row 3 1 (map bg is):Ob)= .row 3 1 (map bg is))<|bo (afQ (λz=>Ob.row 114 2 z)<|lH (f:=skC) (rl skC l) (k-1) (((ae l<|k-1)).1,((ae l<|k-1)).2+1)) eC)
def p30_d(hg:jm g)(hx0:i0<length g)(hs:SK g k is l)(hb0:(decide<|((((ae l<|k-1)).2:Nat):Int)<(length (map cU<|ae g<|((ae l<|k-1)).1):Int))=false):Piece pg 96 0 sb [(0,.sl 1 (map bH g)),(3,.sr 0 1 0 (length<|map bH g)),(5,.sr 1 2 0 k),(6,.pt 1 (0*2+(k-1)*2)),(12,I (length (map bH g):Int)),(13,I (i0:Int))] [.row 3 1 (map bg is),.row 114 2 (map skC l)] (.exit 4) [(0,.sl 1 (map bH g)),(3,.sr 0 1 0 (length<|map bH g)),(5,.sr 1 2 0 k),(6,.pt 1 (0*2+(k-1)*2)),(12,I (length (map bH g):Int)),(13,I (i0:Int))] [.row 3 1 (map bg is),.row 114 2 (map skC l)]:=pvB (.r [.at (k-1) 1 (skC<|ae l<|k-1),.at (k-1) 0 (skC<|ae l<|k-1),.row (bH<|ae g<|((ae l<|k-1)).1),.k,bT]<|.no<|.pick 0) [0,1] 2 λz=>have hgl0:=hg.len;have h1:=hs.len;have h2:=hs.kl;have h3:=hs.pos;have h4:=hs.kb;have h5:=hs.node;have h6:=hs.row;have h7:=hs.to;have lms:=aF bg is;have lrn:=aF bH g;have lst:=aF skC l;have lro:=aF cU (ae g (ae l<|k-1).1);have gb0:=afE hb0;have lq0:=aF cU ((ae g<|((ae l<|k-1)).1));(an (a1<|ac (rwa bH g<|((ae l<|k-1)).1)<|ac (ato 2 0 (k-1)<|rl skC l)<|ac (ato 2 1 (k-1)<|rl skC l) a0)<|an hb0 z)
def p30_r(hg:jm g)(hx0:i0<length g)(hs:SK g k is l)(hb0:(decide<|((((ae l<|k-1)).2:Nat):Int)<(length (map cU<|ae g<|((ae l<|k-1)).1):Int))=true)(hb1:((ae is<|ae (ae g<|((ae l<|k-1)).1)<|((ae l<|k-1)).2)==1)=true):Piece pg 96 0 sb [(0,.sl 1 (map bH g)),(3,.sr 0 1 0 (length<|map bH g)),(5,.sr 1 2 0 k),(6,.pt 1 (0*2+(k-1)*2)),(12,I (length (map bH g):Int)),(13,I (i0:Int))] [.row 3 1 (map bg is),.row 114 2 (map skC l)] .ret [(2,B true)] []:=pvB (.r [.at (k-1) 1 (skC<|ae l<|k-1),.at (k-1) 0 (skC<|ae l<|k-1),.row (bH<|ae g<|((ae l<|k-1)).1),.k,bT]<|.yes<|.r [.at (k-1) 0 (skC<|ae l<|k-1),.row (bH<|ae g<|((ae l<|k-1)).1),.at (k-1) 1 (skC<|ae l<|k-1),.row (cU<|ae (ae g<|((ae l<|k-1)).1)<|((ae l<|k-1)).2),bT]<|.r [.at (k-1) 1 (skC<|ae l<|k-1),.int ((((ae l<|k-1)).2+1:Nat):Int),.at (k-1) 1 (skC<|ae l<|k-1),bT]<|.r [.at (ae (ae g<|((ae l<|k-1)).1)<|((ae l<|k-1)).2) 0 (bg<|ae is<|ae (ae g<|((ae l<|k-1)).1)<|((ae l<|k-1)).2),bT]<|.r [.k,bT]<|.yes<|.r [bT]<|.pick 0) [] 2 λz=>have hgl0:=hg.len;have h1:=hs.len;have h2:=hs.kl;have h3:=hs.pos;have h4:=hs.kb;have h5:=hs.node;have h6:=hs.row;have h7:=hs.to;have lms:=aF bg is;have lrn:=aF bH g;have lst:=aF skC l;have lro:=aF cU (ae g (ae l<|k-1).1);have gb0:=afL hb0;have lq0:=aF cU ((ae g<|((ae l<|k-1)).1));(an (a1<|ac (rwa bH g<|((ae l<|k-1)).1)<|ac (ato 2 0 (k-1)<|rl skC l)<|ac (ato 2 1 (k-1)<|rl skC l) a0)<|an hb0<|an (ac (rwa cU (ae g<|((ae l<|k-1)).1)<|((ae l<|k-1)).2)<|ac (ato 2 1 (k-1)<|rl skC l)<|ac (rwa bH g<|((ae l<|k-1)).1)<|ac (ato 2 0 (k-1)<|rl skC l) a0)<|an (ac (sto 2 1 1 (k-1)<|rl skC l)<|ac (dwo ((((ae l<|k-1)).2+1:Nat):Int))<|ac (ato 2 1 (k-1)<|rl skC l) a0)<|an (ac (ato 1 0 (ae (ae g<|((ae l<|k-1)).1)<|((ae l<|k-1)).2)<|rl bg is)<|ac (ixo (ae (ae g<|((ae l<|k-1)).1)<|((ae l<|k-1)).2)<|length<|map bH g) a0)<|an (a1 a0)<|an hb1<|an a0 z)
def p30_c(hg:jm g)(hx0:i0<length g)(hs:SK g k is l)(hb0:(decide<|((((ae l<|k-1)).2:Nat):Int)<(length (map cU<|ae g<|((ae l<|k-1)).1):Int))=true)(hb1:((ae is<|ae (ae g<|((ae l<|k-1)).1)<|((ae l<|k-1)).2)==1)=false)(hb2:((ae is<|ae (ae g<|((ae l<|k-1)).1)<|((ae l<|k-1)).2)==0)=true):Piece pg 96 0 sb [(0,.sl 1 (map bH g)),(3,.sr 0 1 0 (length<|map bH g)),(5,.sr 1 2 0 k),(6,.pt 1 (0*2+(k-1)*2)),(12,I (length (map bH g):Int)),(13,I (i0:Int))] [.row 3 1 (map bg is),.row 114 2 (map skC l)] (.exit 3) [(0,.sl 1 (map bH g)),(3,.sr 0 1 0 (length<|map bH g)),(5,.sr 1 2 0 (k+1)),(12,I (length (map bH g):Int)),(13,I (i0:Int))] [.row 3 1 (map bg<|List.set is (ae (ae g<|((ae l<|k-1)).1)<|((ae l<|k-1)).2) 1),.row 114 2 (map skC<|List.take k (List.set l (k-1) (((ae l<|k-1)).1,((ae l<|k-1)).2+1))++ [((ae (ae g<|((ae l<|k-1)).1)<|((ae l<|k-1)).2),0)])]:=pvB (.r [.at (k-1) 1 (skC<|ae l<|k-1),.at (k-1) 0 (skC<|ae l<|k-1),.row (bH<|ae g<|((ae l<|k-1)).1),.k,bT]<|.yes<|.r [.at (k-1) 0 (skC<|ae l<|k-1),.row (bH<|ae g<|((ae l<|k-1)).1),.at (k-1) 1 (skC<|ae l<|k-1),.row (cU<|ae (ae g<|((ae l<|k-1)).1)<|((ae l<|k-1)).2),bT]<|.r [.at (k-1) 1 (skC<|ae l<|k-1),.int ((((ae l<|k-1)).2+1:Nat):Int),.at (k-1) 1 (skC<|ae l<|k-1),bT]<|.r [.at (ae (ae g<|((ae l<|k-1)).1)<|((ae l<|k-1)).2) 0 (bg<|ae is<|ae (ae g<|((ae l<|k-1)).1)<|((ae l<|k-1)).2),bT]<|.r [.k,bT]<|.no<|.r [.k,bT]<|.yes<|.r [.at (ae (ae g<|((ae l<|k-1)).1)<|((ae l<|k-1)).2) 0 (bg<|ae is<|ae (ae g<|((ae l<|k-1)).1)<|((ae l<|k-1)).2),bT]<|.r [bT]<|.pick 0) [0,2] 3 λz=>have hgl0:=hg.len;have h1:=hs.len;have h2:=hs.kl;have h3:=hs.pos;have h4:=hs.kb;have h5:=hs.node;have h6:=hs.row;have h7:=hs.to;have lms:=aF bg is;have lrn:=aF bH g;have lst:=aF skC l;have lro:=aF cU (ae g (ae l<|k-1).1);have gb0:=afL hb0;have lq0:=aF cU ((ae g<|((ae l<|k-1)).1));(an (a1<|ac (rwa bH g<|((ae l<|k-1)).1)<|ac (ato 2 0 (k-1)<|rl skC l)<|ac (ato 2 1 (k-1)<|rl skC l) a0)<|an hb0<|an (ac (rwa cU (ae g<|((ae l<|k-1)).1)<|((ae l<|k-1)).2)<|ac (ato 2 1 (k-1)<|rl skC l)<|ac (rwa bH g<|((ae l<|k-1)).1)<|ac (ato 2 0 (k-1)<|rl skC l) a0)<|an (ac (sto 2 1 1 (k-1)<|rl skC l)<|ac (dwo ((((ae l<|k-1)).2+1:Nat):Int))<|ac (ato 2 1 (k-1)<|rl skC l) a0)<|an (ac (ato 1 0 (ae (ae g<|((ae l<|k-1)).1)<|((ae l<|k-1)).2)<|rl bg is)<|ac (ixo (ae (ae g<|((ae l<|k-1)).1)<|((ae l<|k-1)).2)<|length<|map bH g) a0)<|an (a1 a0)<|an hb1<|an (a1 a0)<|an hb2<|an (ac (sto 1 0 1 (ae (ae g<|((ae l<|k-1)).1)<|((ae l<|k-1)).2)<|rl bg is)<|ac (ixo (ae (ae g<|((ae l<|k-1)).1)<|((ae l<|k-1)).2)<|length<|map bH g) a0)<|an (ac (apo k 16<|lH (f:=skC) (rl skC l) (k-1) (((ae l<|k-1)).1,((ae l<|k-1)).2+1)) a0)<|lfZ z<|bo (afQ (λz=>Ob.row 3 1 z)<|lH (f:=bg) (rl bg is) (ae (ae g<|((ae l<|k-1)).1)<|((ae l<|k-1)).2) 1)<|bo (afQ (λz=>Ob.row 114 2 z)<|apT (f:=skC) (lH (f:=skC) (rl skC l) (k-1) (((ae l<|k-1)).1,((ae l<|k-1)).2+1)) k ((ae (ae g<|((ae l<|k-1)).1)<|((ae l<|k-1)).2),0)) eC)
def p30_e(hg:jm g)(hx0:i0<length g)(hs:SK g k is l)(hb0:(decide<|((k:Nat):Int)>0)=true):Piece pg 96 0 (sq2<|sq2 nT) [(0,.sl 1 (map bH g)),(3,.sr 0 1 0 (length<|map bH g)),(5,.sr 1 2 0 k),(6,.pt 1 (0*2+(k-1)*2)),(12,I (length (map bH g):Int)),(13,I (i0:Int))] [.row 3 1 (map bg is),.row 114 2 (map skC l)] .normal [(0,.sl 1 (map bH g)),(3,.sr 0 1 0 (length<|map bH g)),(5,.sr 1 2 0 (k-1)),(12,I (length (map bH g):Int)),(13,I (i0:Int))] [.row 3 1 (map bg<|List.set is (((ae l<|k-1)).1) 2),.row 114 2 (map skC l)]:=pvB (.r [.at (k-1) 0 (skC<|ae l<|k-1),.at (((ae l<|k-1)).1) 0 (bg<|ae is<|((ae l<|k-1)).1),bT]<|.r [.int ((k-1:Nat):Int),bT]<|.pick 0) [0,1] 2 λz=>have hgl0:=hg.len;have h1:=hs.len;have h2:=hs.kl;have h3:=hs.pos;have h4:=hs.kb;have h5:=hs.node;have h6:=hs.row;have h7:=hs.to;have lms:=aF bg is;have lrn:=aF bH g;have lst:=aF skC l;have lro:=aF cU (ae g (ae l<|k-1).1);have gb0:=afL hb0;(an (ac (sto 1 0 1 (((ae l<|k-1)).1)<|rl bg is)<|ac (ixo (((ae l<|k-1)).1)<|length<|map bH g)<|ac (ato 2 0 (k-1)<|rl skC l) a0)<|an (ac (slo 0 (k-1) k)<|ac (dso k) a0)<|lfZ z<|bo (afQ (λz=>Ob.row 3 1 z)<|lH (f:=bg) (rl bg is) (((ae l<|k-1)).1) 2)<|bo (rfl:(.row 114 2 (map skC l):Ob)= .row 114 2 (map skC l)) eC)
end
section
variable(g:List lXC)
abbrev zCJ:=(map bH g)
def OD(i0 k:Nat):Am.Loc:=[(0,.sl 1 (zCJ g)),(3,.sr 0 1 0 (length<|zCJ g)),(5,.sr 1 2 0 k),(6,.pt 1 (0*2+(k-1)*2)),(12,I (length (zCJ g):Int)),(13,I (i0:Int))]
def LC30(i0 k2:Nat):Am.Loc:=[(0,.sl 1 (zCJ g)),(3,.sr 0 1 0 (length<|zCJ g)),(5,.sr 1 2 0 k2),(12,I (length (zCJ g):Int)),(13,I (i0:Int))]
end
theorem DU{P:Program}{n K:Nat}{id:Nat}{c:Code}{L L':Am.Loc}{ob ob':lXE}(h:Piece P n K c L ob .ret L' ob'):Piece P n K (.block id c) L ob .ret L' ob':=λdf _ hd hq=>dN (h df _ (hd.imp (λe=>e) λe=>by simpa only[Code.inR]using e) hq)
def SR.skq{g:List lXC}(hg:jm g){w:Sk}(h:SR g w)(hk:0<w.1)(q:Nat):SK g w.1 w.2.1 (lq w q):=by
 have hs:=h.sk hg hk;refine⟨h.len,by rw[nS];exact h.kl,hk,hs.kb,?_,?_,?_⟩
 ·rw[fE h.kl hk];exact hs.node
 ·rw[fE h.kl hk];exact hs.row
 ·rw[fE h.kl hk];exact λhq=>hg.wf _ (ai hs.node) _ (ai hq)
section
variable{g:List lXC}{i0:Nat}(hg:jm g)(hx0:i0<length g){w:Sk}(h:SR g w)(hk:0<w.1)
 include hg hx0 h hk
theorem aes{q:Nat}(h0:(ae w.2.2<|w.1-1).2<=q)(hq:q<eE g w):Piece pg 96 0 sb (OD g i0 w.1) [.row 3 1 (map bg w.2.1),.row 114 2 (map skC<|lq w q)] .normal (OD g i0 w.1) [.row 3 1 (map bg w.2.1),.row 114 2 (map skC<|lq w<|q+1)]:=by have hgo:=Md h0 hq;have hql:=vQ (h.node _<|show w.1-1<w.1 by omega).2;unfold An j0 jd at hgo;unfold jd at hql;simp only[afv,afP]at hgo;have hp:=p30_g g i0 w.1 w.2.1 (lq w q) hg hx0 (h.skq hg hk q) (by grind[fE,h.kl]) (by rw[fE h.kl hk];exact hgo.1) (by rw[fE h.kl hk];exact hgo.2);rw[VW h.kl hk]at hp;exact hp
theorem I6{xr:AX}{Lr:Am.Loc}{obr:lXE}(hne:xr≠ .normal)(hf:Piece pg 96 0 sb (OD g i0 w.1) [.row 3 1 (map bg w.2.1),.row 114 2 (map skC<|lq w<|eE g w)] xr Lr obr):Piece pg 96 0 (.block 4<|.loop sb) (OD g i0 w.1) [.row 3 1 (map bg w.2.1),.row 114 2 (map skC w.2.2)] (lF 4 xr) Lr obr:=by
 have:=gM (P:=Tryz.prog) (n:=96) (K:=0) (id:=4) (c:=sb) (xr:=xr) (Lr:=Lr) (obr:=obr) (λ_=>OD g i0 w.1) (λq=>[.row 3 1 (map bg w.2.1),.row 114 2 (map skC<|lq w q)]) (λq=>(ae w.2.2<|w.1-1).2<=q/\q<=eE g w) (λq=>eE g w-q) (ae w.2.2<|w.1-1).2 ⟨afG _,by unfold eE;omega⟩ hne λq hq=>by
  by_cases hql:q<eE g w
  ·exact .inl ⟨q+1,⟨by omega,by omega⟩,by omega,aes hg hx0 h hk hq.1 hql⟩
  grind
 grind[aaQ,h.kl]
theorem VX:Piece pg 96 0 (sq1 nT) (LC30 g i0 w.1) [.row 3 1 (map bg w.2.1),.row 114 2 (map skC w.2.2)] .normal (OD g i0 w.1) [.row 3 1 (map bg w.2.1),.row 114 2 (map skC w.2.2)]:=p30_9 g i0 w.1 w.2.1 w.2.2 hg hx0 (h.sk hg hk) (afH oaa)
theorem aaR(hh:kG g w=true):Piece pg 96 0 (.block 3 nT) (LC30 g i0 w.1) [.row 3 1 (map bg w.2.1),.row 114 2 (map skC w.2.2)] .ret [(2,B true)] []:=by unfold kG at hh;simp only[afv]at hh;have h1:=(sa hh.1).1;have h2:=hh.2;unfold jd at h1;unfold j0 jd at h2;have hp:=I6 hg hx0 h hk oaf (p30_r g i0 w.1 w.2.1 (lq w<|eE g w) hg hx0 (h.skq hg hk _) (by grind[fE,h.kl])<|by rw[fE h.kl hk];exact h2);grind[Gw,DU,cI,VX,iI,lF]
theorem aaS(hh:kG g w=false):Piece pg 96 0 (.block 3 nT) (LC30 g i0 w.1) [.row 3 1 (map bg w.2.1),.row 114 2 (map skC w.2.2)] .normal (LC30 g i0 (gD g w).1) [.row 3 1 (map bg (gD g w).2.1),.row 114 2 (map skC (gD g w).2.2)]:=by
 have hql:=vQ (h.node _<|show w.1-1<w.1 by omega).2;rw[Gw];cases ha:OC g w with
 |true=>obtain⟨h1,h2⟩:=sa ha;unfold kG at hh;rw[ha,agj]at hh;unfold An at h2;rw[hh,agx,agj,aga]at h2;unfold gD;rw[ha,afN];unfold j0 jd at hh h2;unfold jd at h1;have hp:=I6 hg hx0 h hk oaf (p30_c g i0 w.1 w.2.1 (lq w<|eE g w) hg hx0 (h.skq hg hk _) (by grind[fE,h.kl]) (by rw[fE h.kl hk];exact hh)<|by rw[fE h.kl hk];exact h2);rw[VW h.kl hk,fE h.kl hk]at hp;exact qP (cI (VX hg hx0 h hk)<|iI hp<|by simp[lF])
 |false=>unfold gD;rw[ha,afY];have ha:=afE ha;unfold jd at ha;have hp:=I6 hg hx0 h hk oaf (p30_d g i0 w.1 w.2.1 (lq w<|eE g w) hg hx0 (h.skq hg hk _)<|by grind[fE,h.kl]);have he:=p30_e g i0 w.1 w.2.1 (lq w<|eE g w) hg hx0 (h.skq hg hk _) (afH oaa);rw[fE h.kl hk]at he;exact ku (cI (VX hg hx0 h hk)<|cI hp he)
end
section
variable(g:List lXC)
def I7(i0:Nat)(y0:lXA)(w2:Nat×(lXA)×(List<|Nat×Nat)):KB:=⟨[(0,.sl 1 (map bH g)),(3,.sr 0 1 0 (length<|map bH g)),(5,.sr 1 2 0 w2.1),(12,I (length (map bH g):Int)),(13,I (i0:Int))],[.row 3 1 (map bg w2.2.1),.row 114 2 (map skC w2.2.2)],kG g w2,.ret,[(2,B true)],[],.normal,[(0,.sl 1 (map bH g)),(3,.sr 0 1 0 (length<|map bH g)),(5,.sr 1 2 0 ((gD g w2).1)),(12,I (length (map bH g):Int)),(13,I (i0:Int))],[.row 3 1 (map bg<|(gD g w2).2.1),.row 114 2 (map skC<|(gD g w2).2.2)],(decide<|((w2.1:Nat):Int)>0)=true⟩
theorem VY(i0:Nat)(y0:lXA)(w2:Nat×(lXA)×(List<|Nat×Nat))(hg:jm g)(hx0:i0<(length g))(hy0:length y0=length g)(hw2:SR g w2):ca pg 96 0 3 nT (I7 g i0 y0 w2):=⟨λhp e=>aaR hg hx0 hw2 (by have:=afL hp;omega) e,λhp e=>aaS hg hx0 hw2 (by have:=afL hp;omega) e⟩
def yA(i0:Nat)(y0:lXA)(w2:Nat×(lXA)×(List<|Nat×Nat)):Nat×(lXA)×(List<|Nat×Nat):=((gD g w2).1,(gD g w2).2.1,(gD g w2).2.2)
def db(i0:Nat)(y0:lXA)(kk:Nat):Nat×(lXA)×(List<|Nat×Nat):=Nat.rec (motive:=λ_=>Nat×(lXA)×(List<|Nat×Nat)) (1,List.set y0 i0 1,[(i0,0)]) (λ_ a=>yA g i0 y0 a) kk
def gO(i0:Nat)(y0:lXA)(w2:Nat×(lXA)×(List<|Nat×Nat)):Bool:=(bif decide (((w2.1:Nat):Int)>0)then(kG g w2)else true)
end
def sc(g:List lXC)(i0:Nat)(y0:lXA)(w2:Nat×(lXA)×(List<|Nat×Nat)):Bool:=(decide<|((w2.1:Nat):Int)>0)
def j5(g:List lXC)(i0:Nat)(y0:lXA):Nat×(lXA)×(List<|Nat×Nat):=db g i0 y0 (dL (gO g i0 y0)<|db g i0 y0)
section
variable{l:lXA}{c:Nat}{x:Int}
theorem aet(hc:c<l.length)(h:ae l c=0)(hx:x≠0):c0 (l.set c x)+1=c0 l:=by grind[ae,c0]
theorem c0_le(hx:x≠0):c0 (l.set c x)<=c0 l:=by
 induction l generalizing c with
 |nil=>exact afG _
 |cons b l ih=>
  cases c with
  |zero=>grind[c0]
  |succ c=>grind[c0]
theorem c0_lt(hc:c<l.length)(hx:x≠0):c0 (l.set c x)+1<=l.length:=by
 induction l generalizing c with
 |nil=>simp at hc
 |cons b l ih=>grind[c0]
end
theorem Gy{w:Sk}{q j:Nat}(hj:j≠w.1-1):ae (lq w q) j=ae w.2.2 j:=by grind[lq,ae]
section
variable{g:List lXC}
theorem aaT(hg:jm g){w:Sk}(h:SR g w)(hk:0<w.1)(hh:kG g w=false):SR g (gD g w)/\2*c0 (gD g w).2.1+(gD g w).1+1<=2*c0 w.2.1+w.1:=by
 have hs:=h.sk hg hk;have hql:=vQ (h.node _<|show w.1-1<w.1 by omega).2;have hlen:=h.len;have hkl:=h.kl;have hbd:=h.bd;cases ha:OC g w with
 |true=>
  obtain⟨h1,h2⟩:=sa ha;unfold kG at hh;rw[ha,agj]at hh;unfold An at h2;rw[hh,agx,agj,aga]at h2;have hto:j0 g w (eE g w)<g.length:=hg.wf _ (ai hs.node) _ (ai h1);have hc:=aet (x:=1) oaa (eq_of_beq h2) oaE;unfold gD;rw[ha,afN];refine⟨⟨by simp only[af3];exact hlen,?_,λj hj=> ?_,?_⟩,?_⟩
  ·simp only[afS,agh,nS,afX,af6];omega
  ·simp only at hj⊢;by_cases hjw:j<w.1
   ·have e:ae (List.take w.1 (lq w<|eE g w+1)++ [(j0 g w (eE g w),0)]) j=ae (lq w<|eE g w+1) j:=by unfold ae;rw[afO (by rw[agh,nS];omega),List.getElem?_take_of_lt hjw]
    rw[e];by_cases hj1:j=w.1-1
    ·subst hj1;rw[fE hkl hk];exact⟨hs.node,h1⟩
    ·rw[Gy hj1];exact h.node j hjw
   ·have e:ae (List.take w.1 (lq w<|eE g w+1)++ [(j0 g w (eE g w),0)]) j=(j0 g w (eE g w),0):=by unfold ae;rw[agb (by rw[agh,nS];omega),agh,nS,show j-min w.1 w.2.2.length=0 by omega];rfl
    rw[e];exact⟨hto,af7 _⟩
  ·simp only;omega
  ·simp only;omega
 |false=>unfold gD;rw[ha,afY];have hc:=c0_le (l:=w.2.1) (c:=(ae w.2.2<|w.1-1).1) (x:=2) oaE;refine⟨⟨by simp only[af3];exact hlen,by simp only[nS];omega,λj hj=> ?_,by simp only;omega⟩,by simp only;omega⟩;simp only at hj⊢;rw[Gy oaa];exact h.node j oaa
theorem aeu{i0:Nat}(hx0:i0<g.length){y0:lXA}(hy:y0.length=g.length):SR g (1,List.set y0 i0 1,[(i0,0)]) where
 len:=by simp only[af3];exact hy
 kl:=afG _
 node:=λj hj=>by
  obtain rfl:j=0:=by simp only at hj;omega
  exact⟨hx0,af7 _⟩
 bd:=by
  have:=c0_lt (l:=y0) (c:=i0) (x:=1) oaa oaE
  simp only
  omega
theorem VZ{i0:Nat}{y0:lXA}{w:Sk}(h:gO g i0 y0 w=false):0<w.1/\kG g w=false:=by grind[gO]
theorem I9(hg:jm g){i0:Nat}(hx0:i0<g.length){y0:lXA}(hy:y0.length=g.length):(∃k,gO g i0 y0 (db g i0 y0 k)=true)/\ ∀k,k<=dL (gO g i0 y0) (db g i0 y0)->SR g (db g i0 y0 k):=by
 have stp: ∀k,SR g (db g i0 y0 k)->gO g i0 y0 (db g i0 y0 k)=false->SR g (db g i0 y0<|k+1)/\2*c0 (db g i0 y0<|k+1).2.1+(db g i0 y0<|k+1).1+1<=2*c0 (db g i0 y0 k).2.1+(db g i0 y0 k).1:=λk h1 h2=>by obtain⟨h3,h4⟩:=VZ h2;exact aaT hg h1 h3 h4
 have h0:SR g (db g i0 y0 0):=aeu hx0 hy;have ex: ∃k,gO g i0 y0 (db g i0 y0 k)=true:=by
  by_cases h: ∃k,gO g i0 y0 (db g i0 y0 k)=true
  ·exact h
  ·have h: ∀k,gO g i0 y0 (db g i0 y0 k)=false:=λk=>by
    cases e:gO g i0 y0 (db g i0 y0 k)with
    |true=>exact absurd ⟨k,e⟩ h
    |false=>rfl
   have all: ∀k,SR g (db g i0 y0 k):=λk=>by
    induction k with
    |zero=>exact h0
    |succ k ih=>exact(stp k ih<|h k).1
   have key: ∀k,2*c0 (db g i0 y0 k).2.1+(db g i0 y0 k).1+k<=2*c0 (db g i0 y0 0).2.1+(db g i0 y0 0).1:=λk=>by
    induction k with
    |zero=>exact afG _
    |succ k ih=>have:=(stp k (all k)<|h k).2;omega
   have:=key (2*c0 (db g i0 y0 0).2.1+(db g i0 y0 0).1+1);omega
 refine⟨ex,λk=> ?_⟩;induction k with
 |zero=>exact λ_=>h0
 |succ k ih=>exact λhk=>(stp k (ih oaa)<|(fR ex).2 k oaa).1
end
abbrev zCh:=(List<|Nat×Nat)
abbrev Mg(g:List lXC)(i0:Nat)(y0:lXA)(w2:Nat×(lXA)×zCh):Am.Loc:=[(0,.sl 1 (zCJ g)),(3,.sr 0 1 0 (length<|zCJ g)),(5,.sr 1 2 0 w2.1),(12,I (length (zCJ g):Int)),(13,I (i0:Int))]
abbrev V0(g:List lXC)(i0:Nat)(y0:lXA)(w2:Nat×(lXA)×zCh):Am.Loc:=[(2,B true)]
abbrev zDJ(g:List lXC)(i0:Nat):Am.Loc:=[(0,.sl 1 (zCJ g)),(3,.sr 0 1 0 (length<|zCJ g)),(12,I (length (zCJ g):Int)),(13,I (i0:Int))]
abbrev V1(g:List lXC)(i0:Nat)(y0:lXA)(w2:Nat×(lXA)×zCh):Am.Loc:=(zDJ g i0)
abbrev Mh(g:List lXC)(i0:Nat)(y0:lXA)(w2:Nat×(lXA)×zCh):lXE:=[.row 3 1 (map bg w2.2.1),.row 114 2 (map skC w2.2.2)]
abbrev V2(g:List lXC)(i0:Nat)(y0:lXA)(w2:Nat×(lXA)×zCh):lXE:=[]
abbrev V3(g:List lXC)(i0:Nat)(y0:lXA)(w2:Nat×(lXA)×zCh):lXE:=[.row 3 1 (map bg w2.2.1),.row 114 2 (map skC w2.2.2)]
section
variable(g:List lXC)(i0:Nat)(y0:lXA)
def DV:KB:=whK 2 (gO g i0 y0) (sc g i0 y0) (db g i0 y0) (Mg g i0 y0) (Mh g i0 y0) .ret (V0 g i0 y0) (V2 g i0 y0) (.exit 2) (V1 g i0 y0) (V3 g i0 y0) (λw2=>SR g w2)
abbrev Mj(w2:Nat×(lXA)×zCh):List bG:=[whW (gO g i0 y0 w2) (sc g i0 y0 w2) .ret (V0 g i0 y0 w2) zI (V2 g i0 y0 w2),nxW (gO g i0 y0 w2) (Mg g i0 y0<|yA g i0 y0 w2) (Mh g i0 y0<|yA g i0 y0 w2) (Mg g i0 y0 ((gD g w2).1,(gD g w2).2.1,(gD g w2).2.2)) zCI (Mh g i0 y0 ((gD g w2).1,(gD g w2).2.1,(gD g w2).2.2)),wxW (gO g i0 y0 w2) (sc g i0 y0 w2) (.exit 2) (V1 g i0 y0 w2) zCI (V3 g i0 y0 w2)]
end
def DW:cy [3] Mf=[(3,nT)]:=by kernel_rfl
section
variable(g:List lXC)
def V4(i0:Nat)(y0:lXA)(hg:jm g)(hx0:i0<(length g))(hy0:length y0=length g):ca pg 96 0 2 (.loop Mf) (DV g i0 y0):=have hgl0:=hg.len;whB (Mj g i0 y0) (λw2=>(.r [.k,bT]<|.br zDt<|.pick 2)) (yA g i0 y0) 2 (λw2(hw2:SR g w2)=>bq (an (a1 a0)<|brP (λ(h0:(decide<|((w2.1:Nat):Int)>0)=true)=>(an (kbT (I7 g i0 y0 w2) h0)<|brP (λ(h1:(kG g w2)=true)=>(lf (wy (Mj g i0 y0 w2) 0) 0 ⟨show gO g i0 y0 w2=true from(cdT h0 h1),show sc g i0 y0 w2=true from h0⟩))<|λh1=>(lf (wy (Mj g i0 y0 w2) 1) 2<|nxP (Mg g i0 y0) (Mh g i0 y0) (show gO g i0 y0 w2=false from(cdT h0 h1))<|show(yA g i0 y0 w2)=((gD g w2).1,(gD g w2).2.1,(gD g w2).2.2)from rfl)))<|λh0=>(lf (wy (Mj g i0 y0 w2) 2) 2 ⟨show gO g i0 y0 w2=true from(cdF h0 rfl),show sc g i0 y0 w2=false from h0⟩)) oab) (hk:=λw2 hw2=>(bc (l:=[(3,I7 g i0 y0 w2)]) DW (aE (VY g i0 y0 w2 hg hx0 hy0 hw2) rfl aP) rfl))
def tt(i0:Nat)(y0:lXA):lXA:=(bif (ae y0 i0) !=0 then y0 else(j5 g i0 y0).2.1)
def dc(kk:Nat):lXA:=Nat.rec (motive:=λ_=>lXA) (replicate (length<|map bH g) 0) (λj a=>tt g j a) kk
theorem DX(hg:jm g)(i:Nat)(hi:i<=g.length):length (dc g i)=length g:=by
 induction i with
 |zero=>show(replicate _ (0:Int)).length=_;simp
 |succ i ih=>
  show length (tt g i<|dc g i)=_;unfold tt;have ih:=ih oaa;cases ae (dc g i) i !=0 with
  |true=>exact ih
  |false=>exact((I9 hg oaa ih).2 _<|afG _).len
end
abbrev yB(g:List lXC)(i0:Nat)(y0:lXA):lXE:=[.row 3 1 (map bg y0)]
section
variable(g:List lXC)(i0:Nat)
abbrev yC:Am.Loc:=(zDJ g i0)
abbrev V5:lXE:=yB g i0 (dc g i0)
def lU:Bool:=(!((ae (dc g i0) i0) !=0)&&(sc g i0 (dc g i0)<|j5 g i0<|dc g i0))
end
def Ml(g:List lXC):Bool:=cz (length g) (lU g)
abbrev V6(g:List lXC)(i0:Nat):Am.Loc:=[(2,B true)]
abbrev V7(g:List lXC)(i0:Nat):lXE:=[]
abbrev V8(g:List lXC):Am.Loc:=[]
section
variable(g:List lXC)
abbrev V9:lXE:=[.row 3 1 (map bg<|dc g<|length g)]
def DY:KB:=anK 0 (length g) (lU g) (yC g) (V5 g) .ret (V6 g) (V7 g) (.exit 0) (V8 g) (V9 g) (True)
abbrev Mm(i0:Nat):List bG:=[nxW (lU g i0) (yC g<|i0+1) (V5 g<|i0+1) (yC g<|i0+1) zAT (yB g (i0+1)<|dc g i0),htW (lU g i0) .ret (V6 g i0) zI (V7 g i0),nxW (lU g i0) (yC g<|i0+1) (V5 g<|i0+1) (yC g<|i0+1) zAT (yB g (i0+1)<|(j5 g i0<|dc g i0).2.1)]
end
def DZ:cy [2] Me=[(2,.loop Mf)]:=by kernel_rfl
def Wa(g:List lXC)(hg:jm g):ca pg 96 0 0 (.loop Me) (DY g):=
 anB (Mm g) (λi0=>(.r [.k,bT]<|.yes<|.r [bT]<|.more<|.r [.at i0 0 (bg<|ae (dc g i0) i0),.k,bT]<|.br (zc i0)<|.r [.at i0 0 (bg<|ae (dc g i0) i0),bT]<|.r [bT]<|.br (.pick 1)<|.r (zBs i0)<|.pick 2)) (range 1) zF
 (λ_ i0(hx0:i0<(length g))=>have hgl0:=hg.len;have hgl:=hg.len;have hml:=DX g hg i0 (ahb hx0);have l1:=aF bH (g);have hb:(decide<|(i0:Int)<(length (map bH g):Int))=true:=afH oaa;
 bq (an (a1 a0)<|an hb<|an a0<|an (a1<|ac (ato 1 0 i0<|rl bg<|dc g i0)<|ac (ixo i0<|length<|map bH g) a0)<|brP (λ(h1:((ae (dc g i0) i0) !=0)=true)=>have g1:=HJ h1;
 (an (ac (dwo ((i0+1:Nat):Int)) a0)<|lf (wy (Mm g i0) 0) 1<|nxP (λ_=>yC g<|i0+1) (yB g<|i0+1) (show lU g i0=false from(aT<|bQ h1))<|show dc g (i0+1)=_ from(cdT h1 rfl)))<|λh1=>have g1:=cE h1;
 (an (ac (sto 1 0 1 i0<|rl bg<|dc g i0)<|ac (ixo i0<|length<|map bH g) a0)<|an a0<|an (FA (DV g i0<|dc g i0) (S:=nm<|KB.L0<|DV g i0<|dc g i0) rfl (bo (afQ (λz=>Ob.row 3 1 z)<|lH (f:=bg) (rl bg<|dc g i0) i0 1)<|bo (rfl:(.row 114 2 [[I (i0:Int),I 0]]:Ob)= .row 114 2 [[I (i0:Int),I 0]]) eC)<|I9 hg hx0<|show length (dc g i0)=length g by first|exact hy0|exact DX g hg i0 (ahb hx0))<|brP (λ(h2:(sc g i0 (dc g i0)<|j5 g i0<|dc g i0)=true)=>(lf (wy (Mm g i0) 1) 0<|show lU g i0=true from(ay (ak h1) h2)))<|λh2=>(an (ac (dwo ((i0+1:Nat):Int)) a0)<|lf (wy (Mm g i0) 2) 2<|nxP (λ_=>yC g<|i0+1) (yB g<|i0+1) (show lU g i0=false from(ay (ak h1) h2))<|show dc g (i0+1)=_ from(cdF h1 rfl))))
 oab)
 (λ_=>have hgl0:=hg.len;have hgl:=hg.len;have l1:=aF bH (g);have hb:(decide<|(((length g):Nat):Int)<(length (map bH g):Int))=false:=afI oaa;
 bq (an (a1 a0)<|an hb<|lx (.exit 0) (V8 g) (range 1) (V9 g) 1)
 oab) (hk:=λ_ i0 hx0=>(bc (l:=[(2,DV g i0 (dc g i0))]) DZ (aE (V4 g i0 (dc g i0) hg hx0<|DX g hg i0<|ahb hx0) rfl aP) rfl))
def r30(g:List lXC):Bool:=(Ml g)
def vc:cy [0] (aG 30)=[(0,.loop Me)]:=by kernel_rfl
theorem aev(g:List lXC)(hg:jm g):aQ pg 30 [.sl 1 (zCJ g)] [] [] (B<|r30 g) []:=
 have hgl0:=hg.len;aV 30 (.r [bT]<|.more zBS)
 (an a0<|have l1:=aF bH (g);an (ac (mko (length<|map bH g) 8) a0)<|an a0<|an (FA (DY g) (S:=nm<|KB.L0<|DY g) rfl (bo (afQ (λz=>Ob.row 3 1 z)<|NK (f:=bg) (length<|map bH g) 0) eC) trivial)<|brP (λ(h0:(Ml g)=true)=>(bE<|show r30 g=true from h0))<|λh0=>
 (an a0<|bE<|show r30 g=false from h0)) (hk:=(bc (l:=[(0,DY g)]) vc (aE (Wa g hg) rfl aP) rfl))
end Go.Proofs.YtfkjfjalecikkaaGreatDoor
end
