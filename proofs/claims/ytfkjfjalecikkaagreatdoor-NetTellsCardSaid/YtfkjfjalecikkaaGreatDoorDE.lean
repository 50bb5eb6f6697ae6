/- Guards: which may be; what they hold (net). Of nets: small readers. Edges (of the document's answer). An edge's text. States (of the document's answer). Names. Rules (net). -/
import Derived.Test.YtfkjfjalecikkaaGreatDoorDD
set_option linter.defProp false
open Go.IntKind (wrap)
noncomputable section
open List (length map range replicate)
set_option maxRecDepth 100000
namespace Go.Proofs.YtfkjfjalecikkaaGreatDoor
open Go.Am
theorem oG{n:Nat}(k:Nat)(z:Int)(hz:z=(k:Int)):(((n:Nat):Int)==z)=(n==k):=by grind
theorem KS{n:Nat}:decide (((n:Nat):Int)>=2)=decide (n>=2):=by grind
theorem aal(g:G):pT g=c9 g:=by
 obtain⟨o,n,s,l⟩:=g;simp only[pT,c9,G.op,G.n,G.name,G.kids,afK,oG 0 0 rfl,oG 1 1 rfl,oG 2 2 rfl,KS,bne];generalize(n==0)=b;generalize(l.length==0)=l0;generalize(l.length==1)=l1;generalize(l.length==2)=l2;generalize decide (l.length>=2)=l3;generalize jV l=c;generalize(eV (ae l 0)&&eV (ae l 1))=r;cases cp s.data.toList []with
 |false=>rfl
 |true=>
  simp only[agj];by_cases h0:o=0
  ·simp_all
  by_cases h1:o=1
  ·simp_all
  grind
theorem aam(l:List G):(l.length==1&&jV l)=(l.length==1&&c9 (ae l 0)):=by
 match l with
 |[]=>rfl
 |[x]=>simp[jV,ae]
 |x::y::l=>simp
theorem Ri(g:G):rq g=c9 g:=by obtain⟨o,n,s,l⟩:=g;simp only[rq,c9,G.op,G.n,G.name,G.kids,afK,oG 0 0 rfl,oG 1 1 rfl,oG 2 2 rfl,KS,bne,aam];grind
theorem FT: ∀g:G,dh g->aQ pg 105 [.ag (gCC g)] [] [] (B<|c9 g) []:=G.xN λo n s l ih hf=>by have h:=aai (.mk o n s l) hf.len hf.kids λu hu=>ih u hu (hf.kids u hu);rw[aal]at h;exact h
theorem FU: ∀g:G,dh g->aQ pg 100 [.ag (gCC g)] [] [] (B<|c9 g) []:=G.xN λo n s l ih hf=>by have h:=aak (.mk o n s l) hf.len hf.kids hf.op.2 λu hu=>ih u hu (hf.kids u hu);rw[Ri]at h;exact h
section
variable(g:G)
def abU:bC:=⟨105,[.ag (gCC g)],B (c9 g),dh g⟩
theorem abV:(abU g).bu pg:=λhp=>(by simp_all[FT,abU,aq,AV.pure])
def abW:bC:=⟨100,[.ag (gCC g)],B (c9 g),dh g⟩
theorem abX:(abW g).bu pg:=λhp=>(by simp_all[FU,abW,aq,AV.pure])
def ic99:bC:=⟨99,[.ag (gCC g)],I (de g),dh g⟩
theorem gc99:(ic99 g).bu pg:=λhp=>(by simp_all[H7,ic99,aq,AV.pure])
def abY:bC:=⟨104,[.ag (gCC g)],I (de g),dh g⟩
theorem Rk:(abY g).bu pg:=λhp=>(by simp_all[FO,abY,aq,AV.pure])
def r93:Int:=(bif decide ((de g)>64)then 40 else(bif !(c9 g)then 40 else 0))
end
abbrev zCE:GT:=(.r [bT]<|.a (.r [.int 0,.k,bF,bF,bF,bT] zD)<|.r [.int 0,.k,bT,bT,.int 1,bT,bT]<|.br zD zD)
def aan(g:G)(hf:dh g):aQ pg 93 [.ag (gCC g)] [] [] (I<|r93 g) []:=
 aV 93 zCE
 (an a0<|aO (λ(h0:(decide<|(de g)>64)=true)=>(an (aN 2<|ac (n2 h0)<|a1<|cA (Rk g) hf a0)<|an a0<|iE<|show r93 g=_ from(cdT h0 rfl)))<|λh0=>(an (a1<|cA (abV g) hf<|a1<|ac (ak h0)<|a1<|cA (Rk g) hf a0)<|brP (λ(h1:(!(c9 g))=true)=>(an a0<|iE<|show r93 g=_ from(cdF h0<|cdT h1 rfl)))<|λh1=>(an a0<|iE<|show r93 g=_ from(cdF h0<|cdF h1 rfl)))) (hc:=(aK (.cons (Rk g) rfl<|.cons (abV g) rfl bB.nil) aC))
def r81(g:G):Int:=(bif decide ((de g)>64)then 40 else(bif !(c9 g)then 40 else 0))
def aao(g:G)(hf:dh g):aQ pg 81 [.ag (gCC g)] [] [] (I<|r81 g) []:=
 aV 81 zCE
 (an a0<|aO (λ(h0:(decide<|(de g)>64)=true)=>(an (aN 2<|ac (n2 h0)<|a1<|cA (gc99 g) hf a0)<|an a0<|iE<|show r81 g=_ from(cdT h0 rfl)))<|λh0=>(an (a1<|cA (abX g) hf<|a1<|ac (ak h0)<|a1<|cA (gc99 g) hf a0)<|brP (λ(h1:(!(c9 g))=true)=>(an a0<|iE<|show r81 g=_ from(cdF h0<|cdT h1 rfl)))<|λh1=>(an a0<|iE<|show r81 g=_ from(cdF h0<|cdF h1 rfl)))) (hc:=(aK (.cons (gc99 g) rfl<|.cons (abX g) rfl bB.nil) aC))
def i82(g:G)(o:Int):bC:=⟨82,[.pf (gCC g),I8 o],B (eW o g),True⟩
def gd82{g:G}{o:Int}(h:aQ pg 82 [.pf (gCC g),I8 o] [] [] (B<|eW o g) []):(i82 g o).bu pg:=λ_=>⟨h,by simp[i82,aq,AV.pure],rfl⟩
def r102(g:G)(o:Int):Bool:=eW o g
def Rl(g:G)(o:Int)(hK:aQ pg 82 [.pf (gCC g),I8 o] [] [] (B<|eW o g) []):aQ pg 102 [.ag (gCC g),.pf [I8 o]] [] [] (B<|r102 g o) []:=
 aV 102 zDH
 (an a0<|an (cA (gd82 hK) trivial a0)<|bE<|show r102 g o=(eW o g)from rfl) (hc:=(aK (.cons (gd82 hK) rfl bB.nil) aC))
section
variable(l:List G)(o:Int)(j:Nat)
def abZ:bC:=⟨102,[.ag (gCC<|ae l j),.pf [I8 o]],B (eW o<|ae l j),j<l.length⟩
theorem ab0(hK: ∀u∈l,aQ pg 82 [.pf (gCC u),I8 o] [] [] (B<|eW o u) []):(abZ l o j).bu pg:=λhp=>⟨Rl _ o (hK _<|ai hp),by simp[abZ,aq,AV.pure],rfl⟩
end
def KT:Code:=bn 0 (aG 114)
abbrev CZ(l:List G)(o:Int)(i0:Nat):Am.Loc:=[(0,.sl 4 (zDj l)),(1,.fn (.func 102) [] [.pf [I8 o]]),(7,I (length (zDj l):Int)),(8,I (i0:Int))]
abbrev C0(l:List G)(o:Int)(i0:Nat):lXE:=[]
def mw(l:List G)(o:Int)(i0:Nat):Bool:=(eW o<|ae l i0)
def sU(l:List G)(o:Int):Bool:=cz (length l) (mw l o)
abbrev FV(l:List G)(o:Int)(i0:Nat):Am.Loc:=[(4,I (i0:Int))]
abbrev FW(l:List G)(o:Int)(i0:Nat):lXE:=[]
abbrev FX(l:List G)(o:Int):Am.Loc:=[]
abbrev FY(l:List G)(o:Int):lXE:=[]
section
variable(l:List G)(o:Int)
def xU:KB:=anK 0 (length l) (mw l o) (CZ l o) (C0 l o) .ret (FV l o) (FW l o) (.exit 0) (FX l o) (FY l o) (True)
abbrev C3(i0:Nat):List bG:=[htW (mw l o i0) .ret (FV l o i0) zI (FW l o i0),nxW (mw l o i0) (CZ l o<|i0+1) (C0 l o<|i0+1) (CZ l o<|i0+1) zI (C0 l o<|i0+1)]
theorem Ib(ls:length l<=9223372036854775807)(hK: ∀u∈l,aQ pg 82 [.pf (gCC u),I8 o] [] [] (B<|eW o u) []):ca pg 19 0 0 (.loop KT) (xU l o):=
 anB (C3 l o) (λi0=>(.r [.k,bT]<|.yes<|.r [bT]<|zDE i0 l)) (range 0) zF
 (λ_ i0(hx0:i0<(length l))=>have l1:=aF gC (l);have hb:(zDG i0 l)=true:=afH oaa;
 bq (an (a1 a0)<|an hb<|an a0<|an (cA (ab0 l o i0 hK) (show i0<length l by omega)<|ac (gU l i0) a0)<|brP (λ(h1:(eW o<|ae l i0)=true)=>(an a0<|lf (wy (C3 l o i0) 0) 0<|show mw l o i0=true from h1))<|λh1=>(an (ac (dwo ((i0+1:Nat):Int)) a0)<|lf (wy (C3 l o i0) 1) 0 ⟨(show mw l o i0=false from h1),rfl,rfl⟩))
 oab)
 (λ_=>have l1:=aF gC (l);have hb:(zBu l)=false:=afI oaa;
 bq (an (a1 a0)<|an hb<|lx (.exit 0) (FX l o) (range 0) (FY l o) 0)
 oab) (hc:=λ_ i0 hx0=>(aK (.cons (ab0 l o i0 hK) rfl bB.nil) aC))
def ua:Int:=(bif sU l o then(((gQ (length l)<|mw l o):Nat):Int)else(-1))
end
def pV:cy [0] (aG 114)=[(0,.loop KT)]:=by kernel_rfl
def KU(l:List G)(o:Int)(ls:length l<=9223372036854775807)(hK: ∀u∈l,aQ pg 82 [.pf (gCC u),I8 o] [] [] (B<|eW o u) []):aQ pg 114 [.sl 4 (zDj l),.fn (.func 102) [] [.pf [I8 o]]] [] [] (I<|ua l o) []:=
 aV 114 zBS
 (an a0<|an a0<|an (kbT (xU l o) trivial)<|brP (λ(h0:(sU l o)=true)=>(iE<|show ua l o=_ from(cdT h0 rfl)))<|λh0=>(an a0<|iE<|show ua l o=_ from(cdF h0 rfl))) (hk:=(bc (l:=[(0,xU l o)]) pV (aE (Ib l o ls hK) rfl aP) rfl))
def ab1(l:List G)(o:Int):bC:=⟨114,[.sl 4 (l.map gC),.fn (.func 102) [] [.pf [I8 o]]],I (ua l o),True⟩
def Rm{l:List G}{o:Int}(h:aQ pg 114 [.sl 4 (l.map gC),.fn (.func 102) [] [.pf [I8 o]]] [] [] (I<|ua l o) []):(ab1 l o).bu pg:=λ_=>(by simp_all[ab1,aq,AV.pure])
section
variable(l:List G)(o:Int)
def KV:Bool:=decide ((ua l o)>=0)
def C4(ls:length l<=9223372036854775807)(hK: ∀u∈l,aQ pg 82 [.pf (gCC u),I8 o] [] [] (B<|eW o u) []):aQ pg 101 [.sl 4 (zDj l),.fn (.func 102) [] [.pf [I8 o]]] [] [] (B<|KV l o) []:=
 aV 101 zCC
 (an a0<|an (a1<|cA (Rm<|KU l o ls hK) trivial a0)<|bE<|show KV l o=(decide<|(ua l o)>=0)from rfl) (hc:=(aK (.cons (Rm<|KU l o ls hK) rfl bB.nil) aC))
theorem Rn:KV l o=kR o l:=by have h2:sU l o=l.any (eW o):=jI (eW o) l;grind[KV,ua,xM]
def ab2:bC:=⟨101,[.sl 4 (l.map gC),.fn (.func 102) [] [.pf [I8 o]]],B (kR o l),True⟩
end
def C5{l:List G}{o:Int}(ls:l.length<=9223372036854775807)(hK: ∀u∈l,aQ pg 82 [.pf (gCC u),I8 o] [] [] (B<|eW o u) []):(ab2 l o).bu pg:=λ_=>⟨by have:=C4 l o ls hK;rw[Rn]at this;exact this,by simp[ab2,aq,AV.pure],rfl⟩
def r82(g:G)(o:Int):Bool:=((g.op==o)||kR o g.kids)
abbrev zCS:GT:=(.r (.k::uTT 6 [.int 0,bT]) .nil)
def aap(g:G)(o:Int)(ls:length g.kids<=9223372036854775807)(hK: ∀u∈G.kids g,aQ pg 82 [.pf (gCC u),I8 o] [] [] (B<|eW o u) []):aQ pg 82 [.pf (gCC g),I8 o] [] [] (B<|r82 g o) []:=
 aV 82 (.r [bT]<|.a (.r zJ .nil) zCS)
 (an a0<|aO (λ(h0:(g.op==o)=true)=>(an (aN 5<|ac (n2 h0)<|a1 a0)<|bE<|show r82 g o=true from(orT h0)))<|λh0=>(an (cA (C5 ls hK) trivial<|aN 5<|ac (ak h0)<|a1 a0)<|bE<|show r82 g o=(kR o g.kids)from(orF h0 rfl))) (hc:=(aK (.cons (C5 ls hK) rfl bB.nil) aC))
def uc(o:Int): ∀g:G,dh g->aQ pg 82 [.pf (gCC g),I8 o] [] [] (B<|eW o g) []:=G.xN λo' n s l ih hf=>by
 have h:=aap (.mk o' n s l) o hf.len λu hu=>ih u hu (hf.kids u hu);have e:r82 (.mk o' n s l) o=eW o (.mk o' n s l):=by simp only[r82,eW];rfl
 rw[<-e];exact h
def r67(n:Net)(s r:Int):Bool:=((decide<|s>=0)&&((decide<|s<(length (map aj n.aa):Int))&&(aB n.aa s).aI==r))
abbrev zr(n:Net)(s:Int):=(decide<|s<(length (map aj n.aa):Int))
abbrev zCX(s:Int):=(decide<|s>=0)
def of67(n:Net)(s r:Int):aQ pg 67 [.ag (aY n),I s,I r] [] [] (B<|r67 n s r) []:=
 aV 67 (.r [bT]<|.a (.a (.r (.k::uTT 5 (.k::uTT 4 (.cq (s).toNat (aj<|aB n.aa s)::uTT 4 [.k,bT]))) .nil)<|.r (.k::uTT 5 (.k::uFF 8 [bT])) .nil)<|.r (.k::uFF 13 [bT]) .nil)
 (an a0<|aO (λ(h0:(zCX s)=true)=>have g0:=afL h0;
 (aO (λ(h1:(zr n s)=true)=>have l1:=aF aj (n.aa);have g1:=afL h1;
 (an (aN 5<|ac (rwz aj n.aa s)<|aN 3<|ac h1<|aN 5<|ac h0<|a1 a0)<|bE<|show r67 n s r=((aB n.aa s).aI==r)from(ay h0<|ay h1 rfl)))<|λh1=>(an (aN 7<|ac (ak h1)<|aN 5<|ac h0<|a1 a0)<|bE<|show r67 n s r=false from(ay h0<|aT h1))))<|λh0=>(an (aN 12<|ac (ak h0)<|a1 a0)<|bE<|show r67 n s r=false from(aT h0)))
def r62(n:Net)(s r:Int):Bool:=((decide<|s>=0)&&((decide<|s<(length (map aj n.aa):Int))&&(aB n.aa s).aI==r))
abbrev zCt:List Gi:=(.k::uFF 17 [bT])
def of62(n:Net)(s r:Int):aQ pg 62 [.pf (aY n),I s,I r] [] [] (B<|r62 n s r) []:=
 aV 62 (.r [bT]<|.a (.a (.r (.k::uTT 7 (.k::uTT 6 (.cq (s).toNat (aj<|aB n.aa s)::uTT 4 [.k,bT]))) .nil)<|.r (.k::uTT 7 (.k::uFF 10 [bT])) .nil)<|.r zCt .nil)
 (an a0<|aO (λ(h0:(zCX s)=true)=>have g0:=afL h0;
 (aO (λ(h1:(zr n s)=true)=>have l1:=aF aj (n.aa);have g1:=afL h1;
 (an (aN 5<|ac (rwz aj n.aa s)<|aN 5<|ac h1<|aN 7<|ac h0<|a1 a0)<|bE<|show r62 n s r=((aB n.aa s).aI==r)from(ay h0<|ay h1 rfl)))<|λh1=>(an (aN 9<|ac (ak h1)<|aN 7<|ac h0<|a1 a0)<|bE<|show r62 n s r=false from(ay h0<|aT h1))))<|λh0=>(an (aN 16<|ac (ak h0)<|a1 a0)<|bE<|show r62 n s r=false from(aT h0)))
def r92(g:G):Bool:=((g.op==0)&&((g.n==0)&&((cp (Array.toList<|ByteArray.data g.name) [])&&(length (map gC g.kids):Int)==0)))
abbrev zDI:GT:=(.r (.k::bT::bT::bT::.k::uFF 7 [bT]) .nil)
def adt(g:G):aQ pg 92 [.ag (gCC g)] [] [] (B<|r92 g) []:=
 aV 92 (.r [bT]<|.a (.a (.a (.r (.k::bT::bT::bT::.k::bT::bT::bT::.k::uTT 4 [.k,bT]) .nil)<|.r (.k::bT::bT::bT::.k::bT::bT::bT::.k::uFF 4 [bT]) .nil) zDI)<|.r zBh .nil)
 (an a0<|aO (λ(h0:(g.op==0)=true)=>(aO (λ(h1:(g.n==0)=true)=>(aO (λ(h2:(cp (Array.toList<|ByteArray.data g.name) [])=true)=>(an (aN 4<|ac h2<|aN 3<|ac h1<|aN 3<|ac h0<|a1 a0)<|bE<|show r92 g=(zAW g)from(ay h0<|ay h1<|ay h2 rfl)))<|λh2=>(an (aN 3<|ac (ak h2)<|aN 3<|ac h1<|aN 3<|ac h0<|a1 a0)<|bE<|show r92 g=false from(ay h0<|ay h1<|aT h2))))<|λh1=>(an (aN 6<|ac (ak h1)<|aN 3<|ac h0<|a1 a0)<|bE<|show r92 g=false from(ay h0<|aT h1))))<|λh0=>(an (aN 9<|ac (ak h0)<|a1 a0)<|bE<|show r92 g=false from(aT h0)))
def r95(n:Net)(a:Int×Int):Bool:=(bif (a).1==2 then((decide<|(a).2>=1)&&decide ((a).2<=(length (map aU n.types):Int)))else(bif (a).1==3 then((decide<|(a).2>=0)&&decide ((a).2<(length (map aU n.bp):Int)))else(bif (a).1==4 then((decide<|(a).2>=0)&&decide ((a).2<(length (map aU n.bx):Int)))else(bif (a).1==5 then((decide<|(a).2>=0)&&decide ((a).2<(length (map aU n.bx):Int)))else(bif (a).1==0 then(a).2==0 else(bif (a).1==1 then(a).2==0 else(((a).1==6)&&(a).2==0)))))))
abbrev zAC:List Gi:=(.k::uTT 6 [.k,bT])
abbrev zBl:GT:=(.a (.r zAC .nil)<|.r zJ .nil)
abbrev zDY(a:Int×Int):=(decide<|(a).2>=0)
def act95(n:Net)(a:Int×Int):aQ pg 95 [.ag (aY n),.ag (cw a)] [] [] (B<|r95 n a) []:=
 aV 95 (.r [bT]<|.r [.k,bT]<|.br zBl<|.r [.k,bT]<|.br zBl<|.a (.r zAm zBl)<|.r zAJ<|.br zBl<|.a (.r (.k::uFF 6 [bT,bT,bT,.k,bT]) .nil)<|.a (.r [.k,bT,bT,bT,.k,bF,bF,bF,bT,bT,bT,.k,bT] .nil)<|.a (.r [.k,bT,bT,bT,.k,bT,bT,bT,.k,bT,bT,bT,.k,bT] .nil)<|.r [.k,bT,bT,bT,.k,bT,bT,bT,.k,bF,bF,bF,bT] .nil)
 (an a0<|an (a1 a0)<|brP (λ(h0:((a).1==2)=true)=>(aO (λ(h1:(decide<|(a).2>=1)=true)=>(an (aN 6<|ac h1<|a1 a0)<|bE<|show r95 n a=_ from(cdT h0<|ay h1 rfl)))<|λh1=>(an (aN 5<|ac (ak h1)<|a1 a0)<|bE<|show r95 n a=_ from(cdT h0<|aT h1))))<|λh0=>(an (a1 a0)<|brP (λ(h1:((a).1==3)=true)=>(aO (λ(h2:(zDY a)=true)=>(an (aN 6<|ac h2<|a1 a0)<|bE<|show r95 n a=_ from(cdF h0<|cdT h1<|ay h2 rfl)))<|λh2=>(an (aN 5<|ac (ak h2)<|a1 a0)<|bE<|show r95 n a=_ from(cdF h0<|cdT h1<|aT h2))))<|λh1=>(aO (λ(h2:((a).1==4)=true)=>(an (aN 2<|ac (n2 h2)<|a1 a0)<|aO (λ(h3:(zDY a)=true)=>(an (aN 6<|ac h3<|a1 a0)<|bE<|show r95 n a=_ from(cdF h0<|cdF h1<|cdT h2<|ay h3 rfl)))<|λh3=>(an (aN 5<|ac (ak h3)<|a1 a0)<|bE<|show r95 n a=_ from(cdF h0<|cdF h1<|cdT h2<|aT h3))))<|λh2=>(an (aN 3<|ac (ak h2)<|a1 a0)<|brP (λ(h3:((a).1==5)=true)=>(aO (λ(h4:(zDY a)=true)=>(an (aN 6<|ac h4<|a1 a0)<|bE<|show r95 n a=_ from(cdF h0<|cdF h1<|cdF h2<|cdT h3<|ay h4 rfl)))<|λh4=>(an (aN 5<|ac (ak h4)<|a1 a0)<|bE<|show r95 n a=_ from(cdF h0<|cdF h1<|cdF h2<|cdT h3<|aT h4))))<|λh3=>(aO (λ(h4:((a).1==0)=true)=>(an (aN 9<|ac (n2 h4)<|a1 a0)<|bE<|show r95 n a=_ from(cdF h0<|cdF h1<|cdF h2<|cdF h3<|cdT h4 rfl)))<|λh4=>(aO (λ(h5:((a).1==1)=true)=>(an (aN 6<|ac (n2 h5)<|aN 3<|ac (ak h4)<|a1 a0)<|bE<|show r95 n a=_ from(cdF h0<|cdF h1<|cdF h2<|cdF h3<|cdF h4<|cdT h5 rfl)))<|λh5=>(aO (λ(h6:((a).1==6)=true)=>(an (aN 3<|ac h6<|aN 3<|ac (ak h5)<|aN 3<|ac (ak h4)<|a1 a0)<|bE<|show r95 n a=_ from(cdF h0<|cdF h1<|cdF h2<|cdF h3<|cdF h4<|cdF h5<|ay h6 rfl)))<|λh6=>(an (aN 2<|ac (ak h6)<|aN 3<|ac (ak h5)<|aN 3<|ac (ak h4)<|a1 a0)<|bE<|show r95 n a=_ from(cdF h0<|cdF h1<|cdF h2<|cdF h3<|cdF h4<|cdF h5<|aT h6)))))))))
def r89(n:Net)(a:Int×Int):Bool:=(bif (a).1==2 then((decide<|(a).2>=1)&&decide ((a).2<=(length (map aU n.types):Int)))else(bif (a).1==3 then((decide<|(a).2>=0)&&decide ((a).2<(length (map aU n.bp):Int)))else(bif (a).1==4 then((decide<|(a).2>=0)&&decide ((a).2<(length (map aU n.bx):Int)))else(bif (a).1==5 then((decide<|(a).2>=0)&&decide ((a).2<(length (map aU n.bx):Int)))else(bif (a).1==0 then(a).2==0 else(bif (a).1==1 then(a).2==0 else(((a).1==6)&&(a).2==0)))))))
abbrev zz:List Gi:=(.k::uTT 8 [.k,bT])
abbrev zCY:GT:=(.a (.r zz .nil)<|.r zu .nil)
def act89(n:Net)(a:Int×Int):aQ pg 89 [.pf (aY n),.ag (cw a)] [] [] (B<|r89 n a) []:=
 aV 89 (.r [bT]<|.r [bT]<|.r [.k,bT]<|.br zCY<|.r [.k,bT]<|.br zCY<|.r [.k,bT]<|.br zCY<|.r [.k,bT]<|.br zCY<|.r [.k,bT]<|.br zBP<|.r [.k,bT]<|.br zBP<|.r [.k,bT]<|.br zBP zD)
 (an a0<|an a0<|an (a1 a0)<|brP (λ(h0:((a).1==2)=true)=>(aO (λ(h1:(decide<|(a).2>=1)=true)=>(an (aN 8<|ac h1<|a1 a0)<|bE<|show r89 n a=_ from(cdT h0<|ay h1 rfl)))<|λh1=>(an (aN 7<|ac (ak h1)<|a1 a0)<|bE<|show r89 n a=_ from(cdT h0<|aT h1))))<|λh0=>(an (a1 a0)<|brP (λ(h1:((a).1==3)=true)=>(aO (λ(h2:(zDY a)=true)=>(an (aN 8<|ac h2<|a1 a0)<|bE<|show r89 n a=_ from(cdF h0<|cdT h1<|ay h2 rfl)))<|λh2=>(an (aN 7<|ac (ak h2)<|a1 a0)<|bE<|show r89 n a=_ from(cdF h0<|cdT h1<|aT h2))))<|λh1=>(an (a1 a0)<|brP (λ(h2:((a).1==4)=true)=>(aO (λ(h3:(zDY a)=true)=>(an (aN 8<|ac h3<|a1 a0)<|bE<|show r89 n a=_ from(cdF h0<|cdF h1<|cdT h2<|ay h3 rfl)))<|λh3=>(an (aN 7<|ac (ak h3)<|a1 a0)<|bE<|show r89 n a=_ from(cdF h0<|cdF h1<|cdT h2<|aT h3))))<|λh2=>(an (a1 a0)<|brP (λ(h3:((a).1==5)=true)=>(aO (λ(h4:(zDY a)=true)=>(an (aN 8<|ac h4<|a1 a0)<|bE<|show r89 n a=_ from(cdF h0<|cdF h1<|cdF h2<|cdT h3<|ay h4 rfl)))<|λh4=>(an (aN 7<|ac (ak h4)<|a1 a0)<|bE<|show r89 n a=_ from(cdF h0<|cdF h1<|cdF h2<|cdT h3<|aT h4))))<|λh3=>(an (a1 a0)<|brP (λ(h4:((a).1==0)=true)=>(an (a1 a0)<|bE<|show r89 n a=_ from(cdF h0<|cdF h1<|cdF h2<|cdF h3<|cdT h4 rfl)))<|λh4=>(an (a1 a0)<|brP (λ(h5:((a).1==1)=true)=>(an (a1 a0)<|bE<|show r89 n a=_ from(cdF h0<|cdF h1<|cdF h2<|cdF h3<|cdF h4<|cdT h5 rfl)))<|λh5=>(an (a1 a0)<|brP (λ(h6:((a).1==6)=true)=>(an (a1 a0)<|bE<|show r89 n a=_ from(cdF h0<|cdF h1<|cdF h2<|cdF h3<|cdF h4<|cdF h5<|ay h6 rfl)))<|λh6=>(an a0<|bE<|show r89 n a=_ from(cdF h0<|cdF h1<|cdF h2<|cdF h3<|cdF h4<|cdF h5<|aT h6)))))))))
def ab3:Code:=bn 0 (aG 64)
abbrev Ro(s:List (Int×Int))(i0:Nat):Am.Loc:=[(0,.sl 2 (map aJ s)),(5,.sl 2 (map aJ s)),(6,I (length (map aJ s):Int)),(7,I (i0:Int))]
abbrev Rq(s:List (Int×Int))(i0:Nat):lXE:=[]
def ru(s:List (Int×Int))(i0:Nat):Bool:=((decide<|(((ae s i0)).1)>(((ae s i0)).2))||((decide<|(i0:Int)>0)&&(decide<|(wrap .i64<|((ae s i0)).1)<=(wrap .i64<|wrap .i64 (((ae s<|i0-1)).2)+1))))
def C6(s:List (Int×Int)):Bool:=cz (length s) (ru s)
abbrev Rr(s:List (Int×Int))(i0:Nat):Am.Loc:=[(2,I 2)]
abbrev Rt(s:List (Int×Int))(i0:Nat):lXE:=[]
abbrev Ru(s:List (Int×Int)):Am.Loc:=[]
abbrev Rv(s:List (Int×Int)):lXE:=[]
section
variable(s:List (Int×Int))
def Ic:KB:=anK 0 (length s) (ru s) (Ro s) (Rq s) .ret (Rr s) (Rt s) (.exit 0) (Ru s) (Rv s) (True)
abbrev FZ(i0:Nat):List bG:=[htW (ru s i0) .ret (Rr s i0) zI (Rt s i0),nxW (ru s i0) (Ro s<|i0+1) (Rq s<|i0+1) (Ro s<|i0+1) zI (Rq s<|i0+1)]
abbrev zDb:=(decide<|(((length s):Nat):Int)<(length (map aJ s):Int))
end
abbrev zDf(i0:Nat):=(decide<|(i0:Int)>0)
def Rw(s:List (Int×Int))(ls:length s<=9223372036854775807):ca pg 36 0 0 (.loop ab3) (Ic s):=
 anB (FZ s) (λi0=>(.r [.k,bT]<|.yes<|.r [.row (aJ<|ae s i0),bT]<|.a (.r (.k::uFF 16 [bT]) zB)<|.a (.r (.k::bT::bT::.k::uTT 7 (.int ((i0-1:Nat):Int)::bT::.row (aJ<|ae s<|i0-1)::uTT 4 [.int (wrap .i64<|wrap .i64 (((ae s<|i0-1)).2)+1),bT,.k,bT,bT]))<|.br zB<|zC i0)<|.r (.k::bT::bT::.k::bT::uFF 12 [bT,bT])<|zC i0)) (range 0) zF
 (λ_ i0(hx0:i0<(length s))=>have l1:=aF aJ (s);have hb:(decide<|(i0:Int)<(length (map aJ s):Int))=true:=afH oaa;
 bq (an (a1 a0)<|an hb<|an (ac (rwa aJ s i0) a0)<|aO (λ(h1:(decide<|(((ae s i0)).1)>(((ae s i0)).2))=true)=>(an (aN 15<|ac (n2 h1)<|a1 a0)<|an a0<|lf (wy (FZ s i0) 0) 1<|show ru s i0=true from(orT h1)))<|λh1=>have q0:=(orF h1 rfl:ru s i0=_);have g1:=afE h1;
 (aO (λ(h2:(zDf i0)=true)=>have q1:=q0.trans (ay h2 rfl);have g2:=afL h2;
 (an (aN 3<|ac (fD<|wrap .i64<|wrap .i64 (((ae s<|i0-1)).2)+1)<|aN 4<|ac (rwa aJ s<|i0-1)<|a1<|ac (dso i0)<|aN 5<|ac h2<|aN 3<|ac (ak h1)<|a1 a0)<|brP (λ(h3:(decide<|(wrap .i64<|((ae s i0)).1)<=(wrap .i64<|wrap .i64 (((ae s<|i0-1)).2)+1))=true)=>(an a0<|lf (wy (FZ s i0) 0) 1<|q1.trans h3))<|λh3=>have g3:=afE h3;
 (an (ac (dwo ((i0+1:Nat):Int)) a0)<|lf (wy (FZ s i0) 1) 1 ⟨(q1.trans h3),rfl,rfl⟩)))<|λh2=>have g2:=afE h2;
 (an (aN 12<|ac (ak h2)<|aN 3<|ac (ak h1)<|a1 a0)<|an (ac (dwo ((i0+1:Nat):Int)) a0)<|lf (wy (FZ s i0) 1) 1 ⟨(q0.trans<|aT h2),rfl,rfl⟩)))
 oab)
 (λ_=>have l1:=aF aJ (s);have hb:(zDb s)=false:=afI oaa;
 bq (an (a1 a0)<|an hb<|lx (.exit 0) (Ru s) (range 0) (Rv s) 0)
 oab)
def r64(s:List (Int×Int)):Int:=(bif C6 s then 2 else 0)
def uH:cy [0] (aG 64)=[(0,.loop ab3)]:=by kernel_rfl
def adu(s:List (Int×Int))(ls:length s<=9223372036854775807):aQ pg 64 [.sl 2 (map aJ s)] [] [] (I<|r64 s) []:=
 aV 64 zBS
 (an a0<|an a0<|an (kbT (Ic s) trivial)<|brP (λ(h0:(C6 s)=true)=>(iE<|show r64 s=_ from(cdT h0 rfl)))<|λh0=>(an a0<|iE<|show r64 s=_ from(cdF h0 rfl))) (hk:=(bc (l:=[(0,Ic s)]) uH (aE (Rw s ls) rfl aP) rfl))
def ab4:Code:=bn 0 (aG 91)
abbrev Rx(s:List (Int×Int))(i0:Nat):Am.Loc:=[(0,.sl 2 (map aJ s)),(3,I (i0:Int))]
abbrev Ry(s:List (Int×Int))(i0:Nat):lXE:=[]
def o8(s:List (Int×Int))(i0:Nat):Bool:=((decide<|(((ae s i0)).1)>(((ae s i0)).2))||((decide<|(i0:Int)>0)&&(decide<|(wrap .i64<|((ae s i0)).1)<(wrap .i64<|wrap .i64 (((ae s<|i0-1)).2)+2))))
def my(s:List (Int×Int)):Bool:=cz (length s) (o8 s)
abbrev Rz(s:List (Int×Int))(i0:Nat):Am.Loc:=[(2,I 2)]
abbrev RA(s:List (Int×Int))(i0:Nat):lXE:=[]
abbrev RB(s:List (Int×Int)):Am.Loc:=[]
abbrev RC(s:List (Int×Int)):lXE:=[]
section
variable(s:List (Int×Int))
def Ie:KB:=anK 0 (length s) (o8 s) (Rx s) (Ry s) .ret (Rz s) (RA s) (.exit 0) (RB s) (RC s) (True)
abbrev F0(i0:Nat):List bG:=[htW (o8 s i0) .ret (Rz s i0) zI (RA s i0),nxW (o8 s i0) (Rx s<|i0+1) (Ry s<|i0+1) (Rx s<|i0+1) zI (Ry s<|i0+1)]
def RD(ls:length s<=9223372036854775807):ca pg 42 0 0 (.loop ab4) (Ie s):=
 anB (F0 s) (λi0=>(.r [.k,bT]<|.yes<|.a (.r (.row (aJ<|ae s i0)::.row (aJ<|ae s i0)::.k::uFF 19 [bT]) zB)<|.a (.r (.row (aJ<|ae s i0)::.row (aJ<|ae s i0)::.k::bT::bT::.k::uTT 4 (.row (aJ<|ae s i0)::uTT 6 (.int ((i0-1:Nat):Int)::bT::.row (aJ<|ae s<|i0-1)::uTT 4 [.int (wrap .i64<|wrap .i64 (((ae s<|i0-1)).2)+2),bT,.k,bT,bT])))<|.br zB<|zC i0)<|.r (.row (aJ<|ae s i0)::.row (aJ<|ae s i0)::.k::bT::bT::.k::bT::uFF 15 [bT,bT])<|zC i0)) (range 0) zF
 (λ_ i0(hx0:i0<(length s))=>have l1:=aF aJ (s);have hb:(decide<|(i0:Int)<(length (map aJ s):Int))=true:=afH oaa;
 bq (an (a1 a0)<|an hb<|aO (λ(h1:(decide<|(((ae s i0)).1)>(((ae s i0)).2))=true)=>have g1:=afL h1;
 (an (aN 18<|ac (n2 h1)<|a1<|ac (rwa aJ s i0)<|ac (rwa aJ s i0) a0)<|an a0<|lf (wy (F0 s i0) 0) 0<|show o8 s i0=true from(orT h1)))<|λh1=>have q0:=(orF h1 rfl:o8 s i0=_);have g1:=afE h1;
 (aO (λ(h2:(zDf i0)=true)=>have q1:=q0.trans (ay h2 rfl);have g2:=afL h2;
 (an (aN 3<|ac (fD<|wrap .i64<|wrap .i64 (((ae s<|i0-1)).2)+2)<|aN 4<|ac (rwa aJ s<|i0-1)<|a1<|ac (dso i0)<|aN 6<|ac (rwa aJ s i0)<|aN 2<|ac h2<|aN 3<|ac (ak h1)<|a1<|ac (rwa aJ s i0)<|ac (rwa aJ s i0) a0)<|brP (λ(h3:(decide<|(wrap .i64<|((ae s i0)).1)<(wrap .i64<|wrap .i64 (((ae s<|i0-1)).2)+2))=true)=>(an a0<|lf (wy (F0 s i0) 0) 0<|q1.trans h3))<|λh3=>have g3:=afE h3;
 (an (ac (dwo ((i0+1:Nat):Int)) a0)<|lf (wy (F0 s i0) 1) 0 ⟨(q1.trans h3),rfl,rfl⟩)))<|λh2=>have g2:=afE h2;
 (an (aN 15<|ac (ak h2)<|aN 3<|ac (ak h1)<|a1<|ac (rwa aJ s i0)<|ac (rwa aJ s i0) a0)<|an (ac (dwo ((i0+1:Nat):Int)) a0)<|lf (wy (F0 s i0) 1) 0 ⟨(q0.trans<|aT h2),rfl,rfl⟩)))
 oab)
 (λ_=>have l1:=aF aJ (s);have hb:(zDb s)=false:=afI oaa;
 bq (an (a1 a0)<|an hb<|lx (.exit 0) (RB s) (range 0) (RC s) 0)
 oab)
def r91:Int:=(bif my s then 2 else 0)
end
def uI:cy [0] (aG 91)=[(0,.loop ab4)]:=by kernel_rfl
def adv(s:List (Int×Int))(ls:length s<=9223372036854775807):aQ pg 91 [.sl 2 (map aJ s)] [] [] (I<|r91 s) []:=
 aV 91 zBS
 (an a0<|an a0<|an (kbT (Ie s) trivial)<|brP (λ(h0:(my s)=true)=>(iE<|show r91 s=_ from(cdT h0 rfl)))<|λh0=>(an a0<|iE<|show r91 s=_ from(cdF h0 rfl))) (hk:=(bc (l:=[(0,Ie s)]) uI (aE (RD s ls) rfl aP) rfl))
def KW:Code:=bn 0 (aG 66)
def ab5:Code:=bn 2 KW
abbrev zCc(l:lXD):=(map aU l)
abbrev RE(l:lXD)(first:Bool)(i0 i2:Nat):Am.Loc:=[(0,.sl 1 (zCc l)),(1,B first),(5,I (i0:Int)),(6,I (i2:Int))]
abbrev RF(l:lXD)(first:Bool)(i0 i2:Nat):lXE:=[]
def xV(l:lXD)(first:Bool)(i0 i2:Nat):Bool:=(cp (Array.toList<|ByteArray.data<|ae l i2)<|Array.toList<|ByteArray.data<|ae l i0)
def oH(l:lXD)(first:Bool)(i0:Nat):Bool:=cz (i0) (xV l first i0)
abbrev RG(l:lXD)(first:Bool)(i0 i2:Nat):Am.Loc:=[(4,B false)]
abbrev RH(l:lXD)(first:Bool)(i0 i2:Nat):lXE:=[]
abbrev RJ(l:lXD)(first:Bool)(i0:Nat):Am.Loc:=[(0,.sl 1 (zCc l)),(1,B first),(5,I (i0:Int))]
abbrev RK(l:lXD)(first:Bool)(i0:Nat):lXE:=[]
def C7(l:lXD)(first:Bool)(i0:Nat):KB:=anK 2 (i0) (xV l first i0) (RE l first i0) (RF l first i0) .ret (RG l first i0) (RH l first i0) (.exit 2) (RJ l first i0) (RK l first i0) (True)
abbrev RL(l:lXD)(first:Bool)(i0 i2:Nat):List bG:=[htW (xV l first i0 i2) .ret (RG l first i0 i2) zI (RH l first i0 i2),nxW (xV l first i0 i2) (RE l first i0<|i2+1) (RF l first i0<|i2+1) (RE l first i0<|i2+1) zI (RF l first i0<|i2+1)]
abbrev zb(i2:Nat):List Gi:=[.int ↑(i2+1),bT]
section
variable(l:lXD)(first:Bool)(i0:Nat)
def RM(ls:length l<=9223372036854775807)(hx0:i0<(length l)):ca pg 50 0 2 (.loop ab5) (C7 l first i0):=
 anB (RL l first i0) (λi2=>(.r [.k,bT]<|.yes<|.r [.row (aU<|ae l i2),.row (aU<|ae l i0),.k,bT]<|.br zB<|.r (zb i2)<|.pick 1)) (range 0) zF
 (λ_ i2(hx2:i2<i0)=>have hb:(decide<|(i2:Int)<(i0:Int))=true:=afH oaa;
 bq (an (a1 a0)<|an hb<|an (a1<|ac (rwa aU l i0)<|ac (rwa aU l i2) a0)<|brP (λ(h1:(cp (Array.toList<|ByteArray.data<|ae l i2)<|Array.toList<|ByteArray.data<|ae l i0)=true)=>(an a0<|lf (wy (RL l first i0 i2) 0) 0<|show xV l first i0 i2=true from h1))<|λh1=>(an (ac (dwo ((i2+1:Nat):Int)) a0)<|lf (wy (RL l first i0 i2) 1) 0 ⟨(show xV l first i0 i2=false from h1),rfl,rfl⟩))
 oab)
 (λ_=>have hb:(decide<|(i0:Int)<(i0:Int))=false:=afI oaa;
 bq (an (a1 a0)<|an hb<|lx (.exit 2) (RJ l first i0) (range 0) (RK l first i0) 0)
 oab)
abbrev RN:Am.Loc:=[(0,.sl 1 (zCc l)),(1,B first),(5,I (i0:Int))]
end
abbrev RO(l:lXD)(first:Bool)(i0:Nat):lXE:=[]
def mI(l:lXD)(first:Bool)(i0:Nat):Bool:=(bif first then(bif (i0:Int)==0 then(!(cp (Array.toList<|ByteArray.data<|ae l 0) []))else((decide<|(ByteArray.size (ae l i0):Int)<1)||((decide<|(ByteArray.size (ae l i0):Int)>40)||(oH l first i0))))else((decide<|(ByteArray.size (ae l i0):Int)<1)||((decide<|(ByteArray.size (ae l i0):Int)>40)||(oH l first i0))))
def rv(l:lXD)(first:Bool):Bool:=cz (length l) (mI l first)
abbrev RP(l:lXD)(first:Bool)(i0:Nat):Am.Loc:=[(4,B false)]
abbrev RQ(l:lXD)(first:Bool)(i0:Nat):lXE:=[]
abbrev RS(l:lXD)(first:Bool):Am.Loc:=[]
abbrev RT(l:lXD)(first:Bool):lXE:=[]
def Ig(l:lXD)(first:Bool):KB:=anK 0 (length l) (mI l first) (RN l first) (RO l first) .ret (RP l first) (RQ l first) (.exit 0) (RS l first) (RT l first) (True)
abbrev nD(l:lXD)(first:Bool)(i0:Nat):List bG:=[htW (mI l first i0) .ret (RP l first i0) zI (RQ l first i0),nxW (mI l first i0) (RN l first (i0+1)) (RO l first (i0+1)) (RN l first (i0+1)) zI (RO l first (i0+1))]
def C8:cy [2] KW=[(2,.loop ab5)]:=by kernel_rfl
abbrev zAu(i0:Nat):GT:=(.r [bT]<|.br (.pick 0)<|zC i0)
abbrev zBc(i0:Nat)(l:lXD):GT:=(.a (.r (.row (aU<|ae l i0)::.k::uFF 6 [bT]) zB)<|.r [.row (aU<|ae l i0),.k,bT,bT,bT,.row (aU<|ae l i0),bT,bT,bT,.k,bT]<|.br zB<|zAu i0)
abbrev zDc(l:lXD):=(decide<|(((length l):Nat):Int)<(length (map aU l):Int))
def RU(l:lXD)(first:Bool)(ls:length l<=9223372036854775807):ca pg 50 0 0 (.loop KW) (Ig l first):=
 anB (nD l first) (λi0=>(.r [.k,bT]<|.yes<|.a (.r [bT,bT,.k,bT]<|.br (.r [.row (aU<|ae l 0),.k,bT]<|.br zB<|zC i0)<|zBc i0 l)<|.r [bF,bF,bT]<|zBc i0 l)) (range 0) zF
 (λ_ i0(hx0:i0<(length l))=>have l1:=aF aU (l);have hb:(decide<|(i0:Int)<(length (map aU l):Int))=true:=afH oaa;
 bq (an (a1 a0)<|an hb<|aO (λ(h1:(first)=true)=>have q0:=(cdT h1 rfl:mI l first i0=_);
 (an (aN 2<|ac h1 a0)<|brP (λ(h2:((i0:Int)==0)=true)=>have q2:=q0.trans (cdT h2 rfl);have g2:=eq_of_beq h2;
 (an (a1<|ac (rwa aU l 0) a0)<|brP (λ(h3:(!(cp (Array.toList<|ByteArray.data<|ae l 0) []))=true)=>(an a0<|lf (wy (nD l first i0) 0) 0<|q2.trans h3))<|λh3=>(an (ac (dwo ((i0+1:Nat):Int)) a0)<|lf (wy (nD l first i0) 1) 0 ⟨(q2.trans h3),rfl,rfl⟩)))<|λh2=>have q3:=q0.trans (cdF h2 rfl);have g2:=afT h2;
 (aO (λ(h3:(decide<|(ByteArray.size (ae l i0):Int)<1)=true)=>have g3:=afL h3;
 (an (aN 5<|ac (n2 h3)<|a1<|ac (rwa aU l i0) a0)<|an a0<|lf (wy (nD l first i0) 0) 0<|q3.trans<|orT h3))<|λh3=>have q5:=q3.trans (orF h3 rfl);have g3:=afE h3;
 (an (aN 4<|ac (rwa aU l i0)<|aN 2<|ac (ak h3)<|a1<|ac (rwa aU l i0) a0)<|brP (λ(h4:(decide<|(ByteArray.size (ae l i0):Int)>40)=true)=>(an a0<|lf (wy (nD l first i0) 0) 0<|q5.trans<|orT h4))<|λh4=>have q7:=q5.trans (orF h4 rfl);have g4:=afE h4;
 (an a0<|an (kbT (C7 l first i0) trivial)<|brP (λ(h5:(oH l first i0)=true)=>(lf (wy (nD l first i0) 0) 0<|q7.trans h5))<|λh5=>(an (ac (dwo ((i0+1:Nat):Int)) a0)<|lf (wy (nD l first i0) 1) 0 ⟨(q7.trans h5),rfl,rfl⟩))))))<|λh1=>have q1:=(cdF h1 rfl:mI l first i0=_);
 (an (a1<|ac (ak h1) a0)<|aO (λ(h2:(decide<|(ByteArray.size (ae l i0):Int)<1)=true)=>have g2:=afL h2;
 (an (aN 5<|ac (n2 h2)<|a1<|ac (rwa aU l i0) a0)<|an a0<|lf (wy (nD l first i0) 0) 0<|q1.trans<|orT h2))<|λh2=>have q4:=q1.trans (orF h2 rfl);have g2:=afE h2;
 (an (aN 4<|ac (rwa aU l i0)<|aN 2<|ac (ak h2)<|a1<|ac (rwa aU l i0) a0)<|brP (λ(h3:(decide<|(ByteArray.size (ae l i0):Int)>40)=true)=>(an a0<|lf (wy (nD l first i0) 0) 0<|q4.trans<|orT h3))<|λh3=>have q6:=q4.trans (orF h3 rfl);have g3:=afE h3;
 (an a0<|an (kbT (C7 l first i0) trivial)<|brP (λ(h4:(oH l first i0)=true)=>(lf (wy (nD l first i0) 0) 0<|q6.trans h4))<|λh4=>(an (ac (dwo ((i0+1:Nat):Int)) a0)<|lf (wy (nD l first i0) 1) 0 ⟨(q6.trans h4),rfl,rfl⟩)))))
 oab)
 (λ_=>have l1:=aF aU (l);have hb:(zDc l)=false:=afI oaa;
 bq (an (a1 a0)<|an hb<|lx (.exit 0) (RS l first) (range 0) (RT l first) 0)
 oab) (hk:=λ_ i0 hx0=>(bc (l:=[(2,C7 l first i0)]) C8 (aE (RM l first i0 ls hx0) rfl aP) rfl))
def r66(l:lXD)(first:Bool):Bool:=(!(rv l first))
def uJ:cy [0] (aG 66)=[(0,.loop KW)]:=by kernel_rfl
def aaq(l:lXD)(first:Bool)(ls:length l<=9223372036854775807):aQ pg 66 [.sl 1 (zCc l),B first] [] [] (B<|r66 l first) []:=
 aV 66 zBS
 (an a0<|an a0<|an (kbT (Ig l first) trivial)<|brP (λ(h0:(rv l first)=true)=>(bE<|show r66 l first=false from(bQ h0)))<|λh0=>(an a0<|bE<|show r66 l first=true from(ak h0))) (hk:=(bc (l:=[(0,Ig l first)]) uJ (aE (RU l first ls) rfl aP) rfl))
section
variable(n:Net)(s r:Int)
def i67:bC:=⟨67,[eM n,I s,I r],B (r67 n s r),True⟩
def g67:(i67 n s r).bu pg:=bI λhp=>of67 n s r
def i62:bC:=⟨62,[.pf (aY n),I s,I r],B (r62 n s r),True⟩
def g62:(i62 n s r).bu pg:=bI λhp=>of62 n s r
end
def i92(g:G):bC:=⟨92,[.ag (gCC g)],B (r92 g),True⟩
def g92(g:G):(i92 g).bu pg:=bI λhp=>adt g
section
variable(n:Net)(a:Int×Int)
def i95:bC:=⟨95,[eM n,.ag (cw a)],B (r95 n a),True⟩
def g95:(i95 n a).bu pg:=bI λhp=>act95 n a
def i89:bC:=⟨89,[.pf (aY n),.ag (cw a)],B (r89 n a),True⟩
def g89:(i89 n a).bu pg:=bI λhp=>act89 n a
end
section
variable(s:List (Int×Int))
def i64:bC:=⟨64,[.sl 2 (s.map aJ)],I (r64 s),s.length<=9223372036854775807⟩
def g64:(i64 s).bu pg:=bI λhp=>adu s hp
def i91:bC:=⟨91,[.sl 2 (s.map aJ)],I (r91 s),s.length<=9223372036854775807⟩
def g91:(i91 s).bu pg:=bI λhp=>adv s hp
end
section
variable(g:G)
def i93:bC:=⟨93,[.ag (gCC g)],I (r93 g),dh g⟩
def g93:(i93 g).bu pg:=bI λhp=>aan g hp
def i81:bC:=⟨81,[.ag (gCC g)],I (r81 g),dh g⟩
def g81:(i81 g).bu pg:=bI λhp=>aao g hp
def i94h(o:Int):bC:=⟨94,[.ag (gCC g),I8 o],B (eW o g),dh g⟩
def Of(o:Int):(i94h g o).bu pg:=bI λhp=>FP o g hp
end
def i66(l:lXD)(f:Bool):bC:=⟨66,[.sl 1 (l.map aU),B f],B (r66 l f),l.length<=9223372036854775807⟩
def g66(l:lXD)(f:Bool):(i66 l f).bu pg:=bI λhp=>aaq l f hp
def Ih{n:Net}{s r:Int}(h:r67 n s r=true):0<=s/\s<((n.aa.length:Nat):Int):=by grind[r67]
def ry{n:Net}{s r:Int}(h:r62 n s r=true):0<=s/\s<((n.aa.length:Nat):Int):=by grind[r62]
def F1{x:Bool}(h:(!x)=false):x=true:=by cases x<;>simp_all
def F2{x c:Int}{p:Prop}[Decidable p](h:(!((x==c)==decide p))=false):x=c↔p:=by grind
structure gh(e:Edge):Prop where
 g:dh e.g
 op: -128<=e.op/\e.op<=127
 set:e.set.length<=9223372036854775807
 ct:e.ct.length<=9223372036854775807
def KX:Code:=bn 0 (aG 32)
def ab6:Code:=bn 2 KX
abbrev zCv(i0 i2:Nat)(n:Net):Am.Loc:=[(1,.pf (aY n)),(3,I (i0:Int)),(4,.pt 0 0),(5,I (i2:Int))]
abbrev RV(n:Net)(i0 i2:Nat):Am.Loc:=(zCv i0 i2 n)
abbrev zCd(i0:Nat)(n:Net):lXE:=[.box 51 (aw<|ae n.rules i0)]
abbrev RW(n:Net)(i0 i2:Nat):lXE:=(zCd i0 n)
def ud(n:Net)(i0 i2:Nat):Bool:=((ae n.rules i2).type==(ae n.rules i0).type)
def rz(n:Net)(i0:Nat):Bool:=cz (i0) (ud n i0)
abbrev RY(n:Net)(i0 i2:Nat):Am.Loc:=[(2,B false)]
abbrev RZ(n:Net)(i0 i2:Nat):lXE:=[]
abbrev zBk(i0:Nat)(n:Net):Am.Loc:=[(1,.pf (aY n)),(3,I (i0:Int))]
section
variable(n:Net)
abbrev R0(i0:Nat):Am.Loc:=(zBk i0 n)
abbrev R3(i0:Nat):lXE:=(zCd i0 n)
def C9(i0:Nat):KB:=anK 2 (i0) (ud n i0) (RV n i0) (RW n i0) .ret (RY n i0) (RZ n i0) (.exit 2) (R0 n i0) (R3 n i0) (True)
abbrev R4(i0 i2:Nat):List bG:=[htW (ud n i0 i2) .ret (RY n i0 i2) zI (RZ n i0 i2),nxW (ud n i0 i2) (RV n i0<|i2+1) (RW n i0<|i2+1) (RV n i0<|i2+1) zAT (RW n i0<|i2+1)]
def R5(i0:Nat)(ln:length n.rules<=9223372036854775807)(hx0:i0<(length n.rules)):ca pg 122 0 2 (.loop ab6) (C9 n i0):=
 anB (R4 n i0) (λi2=>(.r [.k,bT]<|.yes<|.r [.row (aw<|ae n.rules i2),.k,bT]<|.br zB<|.r (zb i2)<|.pick 1)) (range 1) zF
 (λ_ i2(hx2:i2<i0)=>have hb:(decide<|(i2:Int)<(i0:Int))=true:=afH oaa;
 bq (an (a1 a0)<|an hb<|an (a1<|ac (rwa aw n.rules i2) a0)<|brP (λ(h1:((ae n.rules i2).type==(ae n.rules i0).type)=true)=>(an a0<|lf (wy (R4 n i0 i2) 0) 1<|show ud n i0 i2=true from h1))<|λh1=>(an (ac (dwo ((i2+1:Nat):Int)) a0)<|lf (wy (R4 n i0 i2) 1) 1 ⟨(show ud n i0 i2=false from h1),rfl,rfl⟩))
 oab)
 (λ_=>have hb:(decide<|(i0:Int)<(i0:Int))=false:=afI oaa;
 bq (an (a1 a0)<|an hb<|lx (.exit 2) (R0 n i0) (range 1) (R3 n i0) 1)
 oab)
abbrev R6(i0:Nat):Am.Loc:=(zBk i0 n)
end
abbrev R7(n:Net)(i0:Nat):lXE:=[]
def lL(n:Net)(i0:Nat):Bool:=((!(r67 n (ae n.rules i0).start (i0:Int)))||((!(r67 n (ae n.rules i0).stop (i0:Int)))||(((ae n.rules i0).start==(ae n.rules i0).stop)||((decide<|(length (map aD (aB n.aa (ae n.rules i0).stop).ah):Int)>0)||(bif !(ae n.rules i0).bR then((ae n.rules i0).ft||((ae n.rules i0).lazy||(((ae n.rules i0).mode !=0)||(bif (ae n.rules i0).bR then((ae n.rules i0).left||((decide<|(ae n.rules i0).mode<0)||((decide<|(ae n.rules i0).mode>=(length (map aU n.bx):Int))||((ae n.rules i0).type !=0))))else((decide<|(ae n.rules i0).mode<0)||((decide<|(ae n.rules i0).mode>=(length (map aU n.bx):Int))||((ae n.rules i0).type !=0)))))))else(bif (ae n.rules i0).bR then((ae n.rules i0).left||((decide<|(ae n.rules i0).mode<0)||((decide<|(ae n.rules i0).mode>=(length (map aU n.bx):Int))||(bif (ae n.rules i0).ft then((ae n.rules i0).type !=0)else((decide<|(ae n.rules i0).type<1)||((decide<|(ae n.rules i0).type>(length (map aU n.types):Int))||(rz n i0)))))))else((decide<|(ae n.rules i0).mode<0)||((decide<|(ae n.rules i0).mode>=(length (map aU n.bx):Int))||(bif (ae n.rules i0).ft then((ae n.rules i0).type !=0)else((decide<|(ae n.rules i0).type<1)||((decide<|(ae n.rules i0).type>(length (map aU n.types):Int))||(rz n i0))))))))))))
def vH(n:Net):Bool:=cz (length n.rules) (lL n)
abbrev R8(n:Net)(i0:Nat):Am.Loc:=[(2,B false)]
abbrev R9(n:Net)(i0:Nat):lXE:=[]
abbrev Sb(n:Net):Am.Loc:=[]
abbrev Sc(n:Net):lXE:=[]
def Ii(n:Net):KB:=anK 0 (length n.rules) (lL n) (R6 n) (R7 n) .ret (R8 n) (R9 n) (.exit 0) (Sb n) (Sc n) (True)
abbrev dP(n:Net)(i0:Nat):List bG:=[htW (lL n i0) .ret (R8 n i0) zI (R9 n i0),nxW (lL n i0) (R6 n<|i0+1) (R7 n<|i0+1) (R6 n<|i0+1) zI (R7 n<|i0+1)]
def Da:cy [2] KX=[(2,.loop ab6)]:=by kernel_rfl
abbrev zP(n:Net):=(decide<|(((length n.rules):Nat):Int)<(length (map aw n.rules):Int))
section
variable(i0:Nat)(n:Net)
abbrev zj:=(decide<|(ae n.rules i0).mode>=(length (map aU n.bx):Int))
abbrev zAH:=(decide<|(i0:Int)<(length (map aw n.rules):Int))
abbrev zAK:=(decide<|(ae n.rules i0).type>(length (map aU n.types):Int))
abbrev zBW:=(decide<|(ae n.rules i0).mode<0)
abbrev zBd:=(decide<|(length (map aD (aB n.aa (ae n.rules i0).stop).ah):Int)>0)
abbrev zCP:=(decide<|(ae n.rules i0).type<1)
abbrev zCU:=((ae n.rules i0).type !=0)
abbrev zCV:List Gi:=[.row (aw<|ae n.rules i0),bT]
end
abbrev zCj(i0:Nat):GT:=(.r [bT,bT,bT]<|.br (.r [.k,bT]<|.br zB<|zC i0)<|.a (.r zJ zB)<|.r zAC<|.br zB<|zAu i0)
abbrev zDW(i0:Nat)(n:Net):=((ae n.rules i0).start==(ae n.rules i0).stop)
def Sd(n:Net)(ln:length n.rules<=9223372036854775807):ca pg 122 0 0 (.loop KX) (Ii n):=
 anB (dP n) (λi0=>(.r [.k,bT]<|.yes<|.r (zCV i0 n)<|.a (.r (.int 0::uFF 20 [bT]) zB)<|.a (.r (.int 0::uTT 5 (.int 1::bT::uFF 14 [bT])) zB)<|.a (.r (.int 0::uTT 5 (.int 1::uTT 6 (.k::uFF 9 [bT]))) zB)<|.r (.int 0::uTT 5 (.int 1::uTT 6 (.k::uTT 5 (.cq ((ae n.rules i0).stop).toNat (aj<|aB n.aa (ae n.rules i0).stop)::uTT 4 [.k,bT]))))<|.br zB<|.a (.a (.r (bT::bT::bT::bF::bF::bT::bT::bF::bF::bF::bT::uFF 15 [bT]) zB)<|.a (.r (uTT 7 (bF::bF::bF::bT::uFF 15 [bT])) zB)<|.a (.r (uTT 10 (.k::bT::uFF 15 [bT])) zB)<|.a (.a (.r (uTT 10 (.k::uTT 7 (uFF 9 [bT]))) zB)<|.a (.r (uTT 10 (.k::uTT 10 (.k::uFF 6 [bT]))) zB)<|.r (uTT 10 (.k::uTT 10 (.k::uTT 6 [.k,bT])))<|.br zB<|.r [bF,bF,bT]<|.r [.k,bT]<|.br zB<|zC i0)<|.a (.r (uTT 10 (.k::uTT 4 (bF::bF::uTT 4 (.k::uFF 6 [bT])))) zB)<|.r (uTT 10 (.k::uTT 4 (bF::bF::uTT 4 (.k::uTT 6 [.k,bT]))))<|.br zB<|.r [bF,bF,bT]<|.r [.k,bT]<|.br zB<|zC i0)<|.a (.a (.r (uFF 11<|uTT 6<|uFF 9 [bT]) zB)<|.a (.r (uFF 11<|uTT 9 (.k::uFF 6 [bT])) zB)<|.r (uFF 11<|uTT 9 (.k::uTT 6 [.k,bT]))<|.br zB<|zCj i0)<|.a (.r (uFF 11 (bT::bT::bT::bF::bF::uTT 4 (.k::uFF 6 [bT]))) zB)<|.r (uFF 11 (bT::bT::bT::bF::bF::uTT 4 (.k::uTT 6 [.k,bT])))<|.br zB<|zCj i0)) (range 0) zF
 (λ_ i0(hx0:i0<(length n.rules))=>have l1:=aF aw (n.rules);have hb:(zAH i0 n)=true:=afH oaa;
 bq (an (a1 a0)<|an hb<|an (ac (rwa aw n.rules i0) a0)<|aO (λ(h1:(!(r67 n (ae n.rules i0).start (i0:Int)))=true)=>(an (aN 19<|ac (n2 h1)<|cA (g67 n (ae n.rules i0).start (i0:Int)) trivial a0)<|an a0<|lf (wy (dP n i0) 0) 1<|show lL n i0=true from(orT h1)))<|λh1=>have q0:=(orF h1 rfl:lL n i0=_);have g1:=Ih (F1 h1);
 (aO (λ(h2:(!(r67 n (ae n.rules i0).stop (i0:Int)))=true)=>(an (aN 13<|ac (n2 h2)<|a1<|cA (g67 n (ae n.rules i0).stop (i0:Int)) trivial<|aN 4<|ac (ak h1)<|cA (g67 n (ae n.rules i0).start (i0:Int)) trivial a0)<|an a0<|lf (wy (dP n i0) 0) 1<|q0.trans<|orT h2))<|λh2=>have q1:=q0.trans (orF h2 rfl);have g2:=Ih (F1 h2);
 (aO (λ(h3:(zDW i0 n)=true)=>(an (aN 8<|ac (n2 h3)<|aN 5<|ac (ak h2)<|a1<|cA (g67 n (ae n.rules i0).stop (i0:Int)) trivial<|aN 4<|ac (ak h1)<|cA (g67 n (ae n.rules i0).start (i0:Int)) trivial a0)<|an a0<|lf (wy (dP n i0) 0) 1<|q1.trans<|orT h3))<|λh3=>have q2:=q1.trans (orF h3 rfl);
 (have l2:=aF aj (n.aa);an (aN 5<|ac (rwz aj n.aa (ae n.rules i0).stop)<|aN 4<|ac (ak h3)<|aN 5<|ac (ak h2)<|a1<|cA (g67 n (ae n.rules i0).stop (i0:Int)) trivial<|aN 4<|ac (ak h1)<|cA (g67 n (ae n.rules i0).start (i0:Int)) trivial a0)<|brP (λ(h4:(zBd i0 n)=true)=>(an a0<|lf (wy (dP n i0) 0) 1<|q2.trans<|orT h4))<|λh4=>have q3:=q2.trans (orF h4 rfl);have l3:=aF aD ((aB n.aa (ae n.rules i0).stop).ah);have g4:=afE h4;
 (aO (λ(h5:(!(ae n.rules i0).bR)=true)=>have q4:=q3.trans (cdT h5 rfl);
 (aO (λ(h6:((ae n.rules i0).ft)=true)=>(an (aN 22<|ac (n2 h6)<|aN 2<|ac h5 a0)<|an a0<|lf (wy (dP n i0) 0) 1<|q4.trans<|orT h6))<|λh6=>have q6:=q4.trans (orF h6 rfl);
 (aO (λ(h7:((ae n.rules i0).lazy)=true)=>(an (aN 18<|ac (n2 h7)<|aN 3<|ac (ak h6)<|aN 2<|ac h5 a0)<|an a0<|lf (wy (dP n i0) 0) 1<|q6.trans<|orT h7))<|λh7=>have q9:=q6.trans (orF h7 rfl);
 (aO (λ(h8:((ae n.rules i0).mode !=0)=true)=>(an (aN 14<|ac (n2 h8)<|aN 4<|ac (ak h7)<|aN 3<|ac (ak h6)<|aN 2<|ac h5 a0)<|an a0<|lf (wy (dP n i0) 0) 1<|q9.trans<|orT h8))<|λh8=>have q12:=q9.trans (orF h8 rfl);have g8:=cE h8;
 (aO (λ(h9:((ae n.rules i0).bR)=true)=>have q15:=q12.trans (cdT h9 rfl);
 (aO (λ(h10:((ae n.rules i0).left)=true)=>(an (aN 8<|ac (n2 h10)<|aN 2<|ac h9<|aN 2<|ac (ak h8)<|aN 4<|ac (ak h7)<|aN 3<|ac (ak h6)<|aN 2<|ac h5 a0)<|an a0<|lf (wy (dP n i0) 0) 1<|q15.trans<|orT h10))<|λh10=>have q20:=q15.trans (orF h10 rfl);
 (aO (λ(h11:(zBW i0 n)=true)=>(an (aN 5<|ac (n2 h11)<|aN 3<|ac (ak h10)<|aN 2<|ac h9<|aN 2<|ac (ak h8)<|aN 4<|ac (ak h7)<|aN 3<|ac (ak h6)<|aN 2<|ac h5 a0)<|an a0<|lf (wy (dP n i0) 0) 1<|q20.trans<|orT h11))<|λh11=>have q25:=q20.trans (orF h11 rfl);have g11:=afE h11;
 (an (aN 6<|ac (ak h11)<|aN 3<|ac (ak h10)<|aN 2<|ac h9<|aN 2<|ac (ak h8)<|aN 4<|ac (ak h7)<|aN 3<|ac (ak h6)<|aN 2<|ac h5 a0)<|brP (λ(h12:(zj i0 n)=true)=>(an a0<|lf (wy (dP n i0) 0) 1<|q25.trans<|orT h12))<|λh12=>have q29:=q25.trans (orF h12 rfl);have l4:=aF aU (n.bx);have g12:=afE h12;
 (an (a1<|ac (n2 h5) a0)<|an (a1 a0)<|brP (λ(h13:(zCU i0 n)=true)=>(an a0<|lf (wy (dP n i0) 0) 1<|q29.trans h13))<|λh13=>have g13:=cE h13;
 (an (ac (dwo ((i0+1:Nat):Int)) a0)<|lf (wy (dP n i0) 1) 1 ⟨(q29.trans h13),rfl,rfl⟩))))))<|λh9=>have q16:=q12.trans (cdF h9 rfl);
 (aO (λ(h10:(zBW i0 n)=true)=>(an (aN 5<|ac (n2 h10)<|aN 6<|ac (ak h9)<|aN 2<|ac (ak h8)<|aN 4<|ac (ak h7)<|aN 3<|ac (ak h6)<|aN 2<|ac h5 a0)<|an a0<|lf (wy (dP n i0) 0) 1<|q16.trans<|orT h10))<|λh10=>have q21:=q16.trans (orF h10 rfl);have g10:=afE h10;
 (an (aN 6<|ac (ak h10)<|aN 6<|ac (ak h9)<|aN 2<|ac (ak h8)<|aN 4<|ac (ak h7)<|aN 3<|ac (ak h6)<|aN 2<|ac h5 a0)<|brP (λ(h11:(zj i0 n)=true)=>(an a0<|lf (wy (dP n i0) 0) 1<|q21.trans<|orT h11))<|λh11=>have q26:=q21.trans (orF h11 rfl);have l4:=aF aU (n.bx);have g11:=afE h11;
 (an (a1<|ac (n2 h5) a0)<|an (a1 a0)<|brP (λ(h12:(zCU i0 n)=true)=>(an a0<|lf (wy (dP n i0) 0) 1<|q26.trans h12))<|λh12=>have g12:=cE h12;
 (an (ac (dwo ((i0+1:Nat):Int)) a0)<|lf (wy (dP n i0) 1) 1 ⟨(q26.trans h12),rfl,rfl⟩)))))))))<|λh5=>have q5:=q3.trans (cdF h5 rfl);
 (aO (λ(h6:((ae n.rules i0).bR)=true)=>have q7:=q5.trans (cdT h6 rfl);
 (aO (λ(h7:((ae n.rules i0).left)=true)=>(an (aN 8<|ac (n2 h7)<|aN 2<|ac h6<|aN 13<|ac (ak h5) a0)<|an a0<|lf (wy (dP n i0) 0) 1<|q7.trans<|orT h7))<|λh7=>have q10:=q7.trans (orF h7 rfl);
 (aO (λ(h8:(zBW i0 n)=true)=>(an (aN 5<|ac (n2 h8)<|aN 3<|ac (ak h7)<|aN 2<|ac h6<|aN 13<|ac (ak h5) a0)<|an a0<|lf (wy (dP n i0) 0) 1<|q10.trans<|orT h8))<|λh8=>have q13:=q10.trans (orF h8 rfl);have g8:=afE h8;
 (an (aN 6<|ac (ak h8)<|aN 3<|ac (ak h7)<|aN 2<|ac h6<|aN 13<|ac (ak h5) a0)<|brP (λ(h9:(zj i0 n)=true)=>(an a0<|lf (wy (dP n i0) 0) 1<|q13.trans<|orT h9))<|λh9=>have q17:=q13.trans (orF h9 rfl);have l4:=aF aU (n.bx);have g9:=afE h9;
 (an (a1<|ac (ak h5) a0)<|brP (λ(h10:((ae n.rules i0).ft)=true)=>have q22:=q17.trans (cdT h10 rfl);
 (an (a1 a0)<|brP (λ(h11:(zCU i0 n)=true)=>(an a0<|lf (wy (dP n i0) 0) 1<|q22.trans h11))<|λh11=>have g11:=cE h11;
 (an (ac (dwo ((i0+1:Nat):Int)) a0)<|lf (wy (dP n i0) 1) 1 ⟨(q22.trans h11),rfl,rfl⟩)))<|λh10=>have q23:=q17.trans (cdF h10 rfl);
 (aO (λ(h11:(zCP i0 n)=true)=>(an (aN 5<|ac (n2 h11)<|a1 a0)<|an a0<|lf (wy (dP n i0) 0) 1<|q23.trans<|orT h11))<|λh11=>have q27:=q23.trans (orF h11 rfl);have g11:=afE h11;
 (an (aN 6<|ac (ak h11)<|a1 a0)<|brP (λ(h12:(zAK i0 n)=true)=>(an a0<|lf (wy (dP n i0) 0) 1<|q27.trans<|orT h12))<|λh12=>have q30:=q27.trans (orF h12 rfl);have l5:=aF aU (n.types);have g12:=afE h12;
 (an a0<|an (kbT (C9 n i0) trivial)<|brP (λ(h13:(rz n i0)=true)=>(lf (wy (dP n i0) 0) 0<|q30.trans h13))<|λh13=>(an (ac (dwo ((i0+1:Nat):Int)) a0)<|lf (wy (dP n i0) 1) 1 ⟨(q30.trans h13),rfl,rfl⟩)))))))))<|λh6=>have q8:=q5.trans (cdF h6 rfl);
 (aO (λ(h7:(zBW i0 n)=true)=>(an (aN 5<|ac (n2 h7)<|aN 6<|ac (ak h6)<|aN 13<|ac (ak h5) a0)<|an a0<|lf (wy (dP n i0) 0) 1<|q8.trans<|orT h7))<|λh7=>have q11:=q8.trans (orF h7 rfl);have g7:=afE h7;
 (an (aN 6<|ac (ak h7)<|aN 6<|ac (ak h6)<|aN 13<|ac (ak h5) a0)<|brP (λ(h8:(zj i0 n)=true)=>(an a0<|lf (wy (dP n i0) 0) 1<|q11.trans<|orT h8))<|λh8=>have q14:=q11.trans (orF h8 rfl);have l4:=aF aU (n.bx);have g8:=afE h8;
 (an (a1<|ac (ak h5) a0)<|brP (λ(h9:((ae n.rules i0).ft)=true)=>have q18:=q14.trans (cdT h9 rfl);
 (an (a1 a0)<|brP (λ(h10:(zCU i0 n)=true)=>(an a0<|lf (wy (dP n i0) 0) 1<|q18.trans h10))<|λh10=>have g10:=cE h10;
 (an (ac (dwo ((i0+1:Nat):Int)) a0)<|lf (wy (dP n i0) 1) 1 ⟨(q18.trans h10),rfl,rfl⟩)))<|λh9=>have q19:=q14.trans (cdF h9 rfl);
 (aO (λ(h10:(zCP i0 n)=true)=>(an (aN 5<|ac (n2 h10)<|a1 a0)<|an a0<|lf (wy (dP n i0) 0) 1<|q19.trans<|orT h10))<|λh10=>have q24:=q19.trans (orF h10 rfl);have g10:=afE h10;
 (an (aN 6<|ac (ak h10)<|a1 a0)<|brP (λ(h11:(zAK i0 n)=true)=>(an a0<|lf (wy (dP n i0) 0) 1<|q24.trans<|orT h11))<|λh11=>have q28:=q24.trans (orF h11 rfl);have l5:=aF aU (n.types);have g11:=afE h11;
 (an a0<|an (kbT (C9 n i0) trivial)<|brP (λ(h12:(rz n i0)=true)=>(lf (wy (dP n i0) 0) 0<|q28.trans h12))<|λh12=>(an (ac (dwo ((i0+1:Nat):Int)) a0)<|lf (wy (dP n i0) 1) 1 ⟨(q28.trans h12),rfl,rfl⟩)))))))))))))
 oab)
 (λ_=>have l1:=aF aw (n.rules);have hb:(zP n)=false:=afI oaa;
 bq (an (a1 a0)<|an hb<|lx (.exit 0) (Sb n) (range 0) (Sc n) 0)
 oab) (hc:=λ_ i0 hx0=>(aK (.cons (g67 n (ae n.rules i0).start (i0:Int)) rfl<|.cons (g67 n (ae n.rules i0).stop (i0:Int)) rfl bB.nil) aC)) (hk:=λ_ i0 hx0=>(bc (l:=[(2,C9 n i0)]) Da (aE (R5 n i0 ln hx0) rfl aP) rfl))
def r32(n:Net):Bool:=(!(vH n))
def uK:cy [0] (aG 32)=[(0,.loop KX)]:=by kernel_rfl
def aar(n:Net)(ln:length n.rules<=9223372036854775807):aQ pg 32 [.ag (aY n)] [] [] (B<|r32 n) []:=
 aV 32 zBS
 (an a0<|an a0<|an (kbT (Ii n) trivial)<|brP (λ(h0:(vH n)=true)=>(bE<|show r32 n=false from(bQ h0)))<|λh0=>(an a0<|bE<|show r32 n=true from(ak h0))) (hk:=(bc (l:=[(0,Ii n)]) uK (aE (Sd n ln) rfl aP) rfl))
def ab7:Code:=bn 0 (aG 68)
abbrev Se(n:Net)(s:State)(at':Int)(e:Edge)(i0:Nat):Am.Loc:=[(4,.pf (aY n)),(7,.pf (aD e)),(9,.pt 0 0),(12,I (i0:Int))]
abbrev Sf(n:Net)(s:State)(at':Int)(e:Edge)(i0:Nat):lXE:=[.box 51 (aw<|aB n.rules s.aI)]
def Bf(n:Net)(s:State)(at':Int)(e:Edge)(i0:Nat):Bool:=(!(r95 n<|ae e.ct i0))
def Db(n:Net)(s:State)(at':Int)(e:Edge):Bool:=cz (length e.ct) (Bf n s at' e)
abbrev Sg(n:Net)(s:State)(at':Int)(e:Edge)(i0:Nat):Am.Loc:=[(8,B false)]
abbrev Sh(n:Net)(s:State)(at':Int)(e:Edge)(i0:Nat):lXE:=[]
abbrev Si(n:Net)(s:State)(at':Int)(e:Edge):Am.Loc:=[(9,.pt 0 0)]
section
variable(n:Net)(s:State)
abbrev Sj(at':Int)(e:Edge):lXE:=[.box 51 (aw<|aB n.rules s.aI)]
section
variable(at':Int)(e:Edge)
def Ij:KB:=anK 0 (length e.ct) (Bf n s at' e) (Se n s at' e) (Sf n s at' e) .ret (Sg n s at' e) (Sh n s at' e) (.exit 0) (Si n s at' e) (Sj n s at' e) (True)
abbrev Sl(i0:Nat):List bG:=[htW (Bf n s at' e i0) .ret (Sg n s at' e i0) zI (Sh n s at' e i0),nxW (Bf n s at' e i0) (Se n s at' e<|i0+1) (Sf n s at' e<|i0+1) (Se n s at' e<|i0+1) zAT (Sf n s at' e<|i0+1)]
def Sm(he:gh e)(hr:0<=State.aI s/\State.aI s<(length n.rules:Int)):ca pg 262 0 0 (.loop ab7) (Ij n s at' e):=
 anB (Sl n s at' e) (λi0=>(.r [.k,bT]<|.yes<|.r [.row (cw<|ae e.ct i0),.int 0,bT]<|.br zB<|zC i0)) (range 1) zF
 (λ_ i0(hx0:i0<(length e.ct))=>have hr1:=hr.1;have hr2:=hr.2;have la:=he.ct;have ls:=he.set;have l1:=aF cw (e.ct);have hb:(decide<|(i0:Int)<(length (map cw e.ct):Int))=true:=afH oaa;
 bq (an (a1 a0)<|an hb<|an (cA (g95 n<|ae e.ct i0) trivial<|ac (rwa cw e.ct i0) a0)<|brP (λ(h1:(!(r95 n<|ae e.ct i0))=true)=>(an a0<|lf (wy (Sl n s at' e i0) 0) 1<|show Bf n s at' e i0=true from h1))<|λh1=>(an (ac (dwo ((i0+1:Nat):Int)) a0)<|lf (wy (Sl n s at' e i0) 1) 1 ⟨(show Bf n s at' e i0=false from h1),rfl,rfl⟩))
 oab)
 (λ_=>have hr1:=hr.1;have hr2:=hr.2;have la:=he.ct;have ls:=he.set;have l1:=aF cw (e.ct);have hb:(decide<|(((length e.ct):Nat):Int)<(length (map cw e.ct):Int))=false:=afI oaa;
 bq (an (a1 a0)<|an hb<|lx (.exit 0) (Si n s at' e) (range 1) (Sj n s at' e) 1)
 oab) (hc:=λ_ i0 hx0=>(aK (.cons (g95 n<|ae e.ct i0) rfl bB.nil) aC))
def r68:Bool:=(!(!(r67 n e.to s.aI))&&(!((r91 e.set) !=0)&&(!(!((e.op==1)==(decide<|(length (map aJ e.set):Int)>0)))&&(!(!((e.op==7)==(decide<|(length (map cw e.ct):Int)>0)))&&(bif e.op !=3 then(!(!(r92 e.g))&&(!(!((e.op==4)==(at'==(aB n.rules s.aI).start)))&&(bif e.op==1 then(bif !(aB n.rules s.aI).bR then(!(decide<|(((ae e.set 0)).1)<1)&&(!(decide<|(((aB e.set<|(length (map aJ e.set):Int)-1)).2)>(wrap .i32 (length (map aU n.types):Int)))&&(!(e.n !=0)&&(!(e.level !=0)&&e.op==1))))else(!(decide<|(((ae e.set 0)).1)<0)&&(!(decide<|(((aB e.set<|(length (map aJ e.set):Int)-1)).2)>1114111)&&(!(e.n !=0)&&(!(e.level !=0)&&e.op==1)))))else(bif e.op==2 then(!(decide<|e.n<0)&&(!(decide<|e.n>=(length (map aw n.rules):Int))&&(!(!((aB n.rules e.n).bR==(aB n.rules s.aI).bR))&&(!(decide<|e.level<0)&&(!(decide<|e.level>65)&&(bif decide (e.level>0)then(!(e.n !=s.aI)&&(!(!(aB n.rules s.aI).left)))else true))))))else(bif e.op==4 then((decide<|e.n>=1)&&((decide<|e.n<=64)&&e.level==0))else(bif e.op==5 then((aB n.rules s.aI).left&&((decide<|e.n>=1)&&((decide<|e.n<=64)&&((decide<|e.level>=1)&&decide (e.level<=64)))))else(!(e.n !=0)&&(!(e.level !=0)&&(bif e.op==7 then(!(Db n s at' e)&&((aB n.rules s.aI).bR&& !(aB n.rules s.aI).ft))else(bif e.op==6 then(aB n.rules s.aI).left else((e.op==0)||e.op==1)))))))))))else(!(!((e.op==4)==(at'==(aB n.rules s.aI).start)))&&(!(e.n !=0)&&(!(e.level !=0)&&(((r93 e.g)==0)&&((!(eW 14 e.g))&&((aB n.rules s.aI).bR|| !(eW 13 e.g))))))))))))
end
end
def uM:cy [0] (aG 68)=[(0,.loop ab7)]:=by kernel_rfl
abbrev zBE(e:Edge):=(map aJ e.set)
abbrev zX(e:Edge):GT:=(.a (.r (.row (aJ<|ae e.set 0)::.k::uFF 11 [bT]) zD)<|.r (.row (aJ<|ae e.set 0)::.k::uTT 6 (.int ((length (zBE e):Int)-1)::bT::.cq (((length (zBE e):Int)-1)).toNat (aJ<|aB e.set<|(length (zBE e):Int)-1)::uTT 4 [.k,bT]))<|.br zD<|.r [.k,bT]<|.no<|.r [.k,bT]<|.no<|.r [.k,bT]<|.no<|.a (.r zAm zD)<|.r zAJ<|.br zD<|.r [.k,bT]<|.no<|.r [.k,bT]<|.no<|.r [.k,bT]<|.no<|.r zAJ .nil)
abbrev zCw:List Gi:=[.k,.k,.k,bT]
abbrev zDM:GT:=(.r (uFF 12 [bT]) .nil)
def adw(n:Net)(s:State)(at':Int)(e:Edge)(he:gh e)(hr:0<=State.aI s/\State.aI s<(length n.rules:Int)):aQ pg 68 [.ag (aY n),.ag (aj s),I at',.ag (aD e)] [] [] (B<|r68 n s at' e) []:=
 have hr1:=hr.1;have hr2:=hr.2;have la:=he.ct;have ls:=he.set;aV 68 (.r [bT]<|.r [.cq (s.aI).toNat (aw<|aB n.rules s.aI),bT]<|.a (.r (.int 0::uFF 4 [bT]) zD)<|.r [.int 0,bT,bT,bT,.int 1,bT,.k,bT]<|.br zD<|.a (.r (.k::.k::.k::uFF 17 [bT]) zD)<|.a (.r (.k::.k::.k::bT::bT::bT::.k::uTT 4 (.k::bT::.k::uFF 9 [bT])) zD)<|.a (.r (.k::.k::.k::bT::bT::bT::.k::uTT 4 (.k::bT::.k::bT::bT::bT::.k::uTT 4 [.int 2,bT,bT,bT]))<|.br zD<|.r zCw<|.br zD<|.r [.k,bT]<|.br (.r [bT]<|.r [bT]<|.br (.r [bT]<|.r [bT]<|zX e)<|zX e)<|.r [.k,bT]<|.br (.a (.r (.k::uFF 37 [bT]) zD)<|.a (.r (.k::uTT 6 (.k::uFF 31 [bT])) zD)<|.a (.r (.k::uTT 6 (.k::uTT 5 (.cq (e.n).toNat (aw<|aB n.rules e.n)::uTT 5 (.k::uFF 21 [bT])))) zD)<|.a (.r (.k::uTT 6 (.k::uTT 5 (.cq (e.n).toNat (aw<|aB n.rules e.n)::uTT 5 (.k::bT::bT::bT::.k::uFF 18 [bT])))) zD)<|.a (.r (.k::uTT 6 (.k::uTT 5 (.cq (e.n).toNat (aw<|aB n.rules e.n)::uTT 5 (.k::bT::bT::bT::.k::bT::bT::bT::.k::uFF 15 [bT])))) zD)<|.a (.a (.r (.k::uTT 6 (.k::uTT 5 (.cq (e.n).toNat (aw<|aB n.rules e.n)::uTT 5 (.k::bT::bT::bT::.k::bT::bT::bT::.k::bT::bT::bT::.k::uTT 6 [.k,bT,bF,bF,bF,bT,bT,bT])))) zD)<|.r (.k::uTT 6 (.k::uTT 5 (.cq (e.n).toNat (aw<|aB n.rules e.n)::uTT 5 (.k::bT::bT::bT::.k::bT::bT::bT::.k::bT::bT::bT::.k::uTT 6 (.k::uTT 7 [])))))<|.br zD zD)<|.r (.k::uTT 6 (.k::uTT 5 (.cq (e.n).toNat (aw<|aB n.rules e.n)::uTT 5 (.k::bT::bT::bT::.k::bT::bT::bT::.k::bT::bT::bT::.k::bT::uFF 10 [bT,bT])))) zD)<|.r [.k,bT]<|.br zV<|.r [.k,bT]<|.br (.a (.a (.a (.a (.r [bT,bT,bT,.k,bT,bT,bT,.k,bT,bT,bT,.k,bT,bT,bT,.k,bT] .nil)<|.r [bT,bT,bT,.k,bT,bT,bT,.k,bT,bT,bT,.k,bF,bF,bF,bT] .nil)<|.r (bT::bT::bT::.k::bT::bT::bT::.k::uFF 6 [bT]) .nil)<|.r (bT::bT::bT::.k::uFF 9 [bT]) .nil) zDM)<|.a (.r zAm zD)<|.r zAJ<|.br zD<|.r [.k,bT]<|.no<|.r [.k,bT]<|.br (.r [bT]<|.br .nil<|.a (.r (uTT 4 []) .nil)<|.r [bF,bF,bF,bT] .nil)<|.r [.k,bT]<|.br zD<|.a (.r zAm .nil)<|.r zAJ .nil)<|.r (.k::.k::.k::bT::bT::bT::.k::uTT 4 (.k::bT::.k::bT::bT::bT::.k::bT::uFF 4 [bT,bT]))<|.r zCw<|.br zD<|.r [.k,bT]<|.no<|.r [.k,bT]<|.no<|.r [.k,bT]<|.no<|.r [.k,bT]<|.no<|.a (.r zAm zD)<|.r zAJ<|.br zD<|.r [.k,bT]<|.yes<|.a (.a (.a (.r (.int 3::.k::bT::bT::bT::.int 4::uTT 4 (uFF 4 [bT,bT])) .nil)<|.r (.int 3::.k::bT::bT::bT::.int 4::uTT 7 [.int 5,bT,bT,bT]) .nil)<|.r (.int 3::.k::bT::bT::bT::.int 4::bT::uFF 8 [bT]) .nil)<|.r (.int 3::.k::uFF 12 [bT]) .nil)
 (an a0<|have l1:=aF aw (n.rules);an (ac (rwz aw n.rules s.aI) a0)<|aO (λ(h0:(!(r67 n e.to s.aI))=true)=>(an (aN 3<|ac (n2 h0)<|cA (g67 n e.to s.aI) trivial a0)<|an a0<|bE<|show r68 n s at' e=false from(aT<|bQ h0)))<|λh0=>have q0:=(ay (ak h0) rfl:r68 n s at' e=_);have g0:=Ih (F1 h0);
 (an (aN 2<|cA (g91 e.set) he.set<|aN 2<|ac (ak h0)<|cA (g67 n e.to s.aI) trivial a0)<|brP (λ(h1:((r91 e.set) !=0)=true)=>(an a0<|bE<|q0.trans<|aT<|bQ h1))<|λh1=>have q1:=q0.trans (ay (ak h1) rfl);have g1:=cE h1;
 (aO (λ(h2:(!((e.op==1)==(decide<|(length (map aJ e.set):Int)>0)))=true)=>(an (aN 16<|ac (n2 h2)<|aN 3 a0)<|an a0<|bE<|q1.trans<|aT<|bQ h2))<|λh2=>have q2:=q1.trans (ay (ak h2) rfl);have l2:=aF aJ (e.set);have g2:=F2 h2;have g2:=F2 h2;
 (aO (λ(h3:(!((e.op==7)==(decide<|(length (map cw e.ct):Int)>0)))=true)=>(an (aN 8<|ac (n2 h3)<|aN 10<|ac (ak h2)<|aN 3 a0)<|an a0<|bE<|q2.trans<|aT<|bQ h3))<|λh3=>have q3:=q2.trans (ay (ak h3) rfl);have l3:=aF cw (e.ct);have g3:=F2 h3;have g3:=F2 h3;
 (aO (λ(h4:(e.op !=3)=true)=>have q4:=q3.trans (cdT h4 rfl);have g4:=HJ h4;
 (an (aN 2<|cA (g92 e.g) trivial<|aN 2<|ac h4<|aN 4<|ac (ak h3)<|aN 10<|ac (ak h2)<|aN 3 a0)<|brP (λ(h5:(!(r92 e.g))=true)=>(an a0<|bE<|q4.trans<|aT<|bQ h5))<|λh5=>have q6:=q4.trans (ay (ak h5) rfl);
 (an (aN 3 a0)<|brP (λ(h6:(!((e.op==4)==(at'==(aB n.rules s.aI).start)))=true)=>(an a0<|bE<|q6.trans<|aT<|bQ h6))<|λh6=>have q8:=q6.trans (ay (ak h6) rfl);
 (an (a1 a0)<|brP (λ(h7:(e.op==1)=true)=>have q10:=q8.trans (cdT h7 rfl);have g7:=eq_of_beq h7;
 (an a0<|an a0<|brP (λ(h8:(!(aB n.rules s.aI).bR)=true)=>have q13:=q10.trans (cdT h8 rfl);
 (an a0<|an a0<|aO (λ(h9:(decide<|(((ae e.set 0)).1)<1)=true)=>have g9:=afL h9;
 (an (aN 10<|ac (n2 h9)<|a1<|ac (rwa aJ e.set 0) a0)<|an a0<|bE<|q13.trans<|aT<|bQ h9))<|λh9=>have q18:=q13.trans (ay (ak h9) rfl);have g9:=afE h9;
 (an (aN 5<|ac (rwz aJ e.set<|(length (map aJ e.set):Int)-1)<|a1<|ac (dwo<|(length (map aJ e.set):Int)-1)<|aN 5<|ac (ak h9)<|a1<|ac (rwa aJ e.set 0) a0)<|brP (λ(h10:(decide<|(((aB e.set<|(length (map aJ e.set):Int)-1)).2)>(wrap .i32 (length (map aU n.types):Int)))=true)=>(an a0<|bE<|q18.trans<|aT<|bQ h10))<|λh10=>have q23:=q18.trans (ay (ak h10) rfl);
 (an (a1 a0)<|an (show(e.op==2)=false by rw[eq_of_beq h7];rfl)<|an (a1 a0)<|an (show(e.op==4)=false by rw[eq_of_beq h7];rfl)<|an (a1 a0)<|an (show(e.op==5)=false by rw[eq_of_beq h7];rfl)<|aO (λ(h11:(e.n !=0)=true)=>(an (aN 2<|ac (n2 h11)<|a1 a0)<|an a0<|bE<|q23.trans<|aT<|bQ h11))<|λh11=>(an (aN 3<|ac (ak h11)<|a1 a0)<|brP (λ(h12:(e.level !=0)=true)=>(an a0<|bE<|q23.trans<|ay (ak h11)<|aT<|bQ h12))<|λh12=>(an (a1 a0)<|an (show(e.op==3)=false by simpa using h4)<|an (a1 a0)<|an (show(e.op==7)=false by rw[eq_of_beq h7];rfl)<|an (a1 a0)<|an (show(e.op==6)=false by rw[eq_of_beq h7];rfl)<|an (aN 3<|ac (ak<|show(e.op==0)=false by rw[eq_of_beq h7];rfl)<|a1 a0)<|bE<|show r68 n s at' e=(e.op==1)from(ay (ak h0)<|ay (ak h1)<|ay (ak h2)<|ay (ak h3)<|cdT h4<|ay (ak h5)<|ay (ak h6)<|cdT h7<|cdT h8<|ay (ak h9)<|ay (ak h10)<|ay (ak h11)<|ay (ak h12) rfl)))))))<|λh8=>have q14:=q10.trans (cdF h8 rfl);
 (aO (λ(h9:(decide<|(((ae e.set 0)).1)<0)=true)=>have g9:=afL h9;
 (an (aN 10<|ac (n2 h9)<|a1<|ac (rwa aJ e.set 0) a0)<|an a0<|bE<|q14.trans<|aT<|bQ h9))<|λh9=>have q19:=q14.trans (ay (ak h9) rfl);have g9:=afE h9;
 (an (aN 5<|ac (rwz aJ e.set<|(length (map aJ e.set):Int)-1)<|a1<|ac (dwo<|(length (map aJ e.set):Int)-1)<|aN 5<|ac (ak h9)<|a1<|ac (rwa aJ e.set 0) a0)<|brP (λ(h10:(decide<|(((aB e.set<|(length (map aJ e.set):Int)-1)).2)>1114111)=true)=>(an a0<|bE<|q19.trans<|aT<|bQ h10))<|λh10=>have q24:=q19.trans (ay (ak h10) rfl);
 (an (a1 a0)<|an (show(e.op==2)=false by rw[eq_of_beq h7];rfl)<|an (a1 a0)<|an (show(e.op==4)=false by rw[eq_of_beq h7];rfl)<|an (a1 a0)<|an (show(e.op==5)=false by rw[eq_of_beq h7];rfl)<|aO (λ(h11:(e.n !=0)=true)=>(an (aN 2<|ac (n2 h11)<|a1 a0)<|an a0<|bE<|q24.trans<|aT<|bQ h11))<|λh11=>(an (aN 3<|ac (ak h11)<|a1 a0)<|brP (λ(h12:(e.level !=0)=true)=>(an a0<|bE<|q24.trans<|ay (ak h11)<|aT<|bQ h12))<|λh12=>(an (a1 a0)<|an (show(e.op==3)=false by simpa using h4)<|an (a1 a0)<|an (show(e.op==7)=false by rw[eq_of_beq h7];rfl)<|an (a1 a0)<|an (show(e.op==6)=false by rw[eq_of_beq h7];rfl)<|an (aN 3<|ac (ak<|show(e.op==0)=false by rw[eq_of_beq h7];rfl)<|a1 a0)<|bE<|show r68 n s at' e=(e.op==1)from(ay (ak h0)<|ay (ak h1)<|ay (ak h2)<|ay (ak h3)<|cdT h4<|ay (ak h5)<|ay (ak h6)<|cdT h7<|cdF h8<|ay (ak h9)<|ay (ak h10)<|ay (ak h11)<|ay (ak h12) rfl))))))))<|λh7=>have q11:=q8.trans (cdF h7 rfl);have g7:=afT h7;
 (an (a1 a0)<|brP (λ(h8:(e.op==2)=true)=>have q15:=q11.trans (cdT h8 rfl);have g8:=eq_of_beq h8;
 (aO (λ(h9:(decide<|e.n<0)=true)=>(an (aN 36<|ac (n2 h9)<|a1 a0)<|an a0<|bE<|q15.trans<|aT<|bQ h9))<|λh9=>have q20:=q15.trans (ay (ak h9) rfl);have g9:=afE h9;
 (aO (λ(h10:(decide<|e.n>=(length (map aw n.rules):Int))=true)=>(an (aN 30<|ac (n2 h10)<|aN 6<|ac (ak h9)<|a1 a0)<|an a0<|bE<|q20.trans<|aT<|bQ h10))<|λh10=>have q25:=q20.trans (ay (ak h10) rfl);have g10:=afE h10;
 (aO (λ(h11:(!((aB n.rules e.n).bR==(aB n.rules s.aI).bR))=true)=>(an (aN 20<|ac (n2 h11)<|aN 6<|ac (rwz aw n.rules e.n)<|aN 4<|ac (ak h10)<|aN 6<|ac (ak h9)<|a1 a0)<|an a0<|bE<|q25.trans<|aT<|bQ h11))<|λh11=>have q28:=q25.trans (ay (ak h11) rfl);
 (aO (λ(h12:(decide<|e.level<0)=true)=>have g12:=afL h12;
 (an (aN 17<|ac (n2 h12)<|aN 3<|ac (ak h11)<|aN 6<|ac (rwz aw n.rules e.n)<|aN 4<|ac (ak h10)<|aN 6<|ac (ak h9)<|a1 a0)<|an a0<|bE<|q28.trans<|aT<|bQ h12))<|λh12=>have q31:=q28.trans (ay (ak h12) rfl);have g12:=afE h12;
 (aO (λ(h13:(decide<|e.level>65)=true)=>have g13:=afL h13;
 (an (aN 14<|ac (n2 h13)<|aN 3<|ac (ak h12)<|aN 3<|ac (ak h11)<|aN 6<|ac (rwz aw n.rules e.n)<|aN 4<|ac (ak h10)<|aN 6<|ac (ak h9)<|a1 a0)<|an a0<|bE<|q31.trans<|aT<|bQ h13))<|λh13=>have q34:=q31.trans (ay (ak h13) rfl);have g13:=afE h13;
 (aO (λ(h14:(decide<|e.level>0)=true)=>have q36:=q34.trans (cdT h14 rfl);have g14:=afL h14;
 (aO (λ(h15:(e.n !=s.aI)=true)=>(an (aN 4<|ac (n2 h15)<|aN 6<|ac h14<|aN 4<|ac (ak h13)<|aN 3<|ac (ak h12)<|aN 3<|ac (ak h11)<|aN 6<|ac (rwz aw n.rules e.n)<|aN 4<|ac (ak h10)<|aN 6<|ac (ak h9)<|a1 a0)<|an a0<|bE<|q36.trans<|aT<|bQ h15))<|λh15=>have q37:=q36.trans (ay (ak h15) rfl);
 (an (aN 4<|ac (ak h15)<|aN 6<|ac h14<|aN 4<|ac (ak h13)<|aN 3<|ac (ak h12)<|aN 3<|ac (ak h11)<|aN 6<|ac (rwz aw n.rules e.n)<|aN 4<|ac (ak h10)<|aN 6<|ac (ak h9)<|a1 a0)<|brP (λ(h16:(!(aB n.rules s.aI).left)=true)=>(an a0<|bE<|q37.trans<|bQ h16))<|λh16=>(an a0<|bE<|q37.trans<|ak h16))))<|λh14=>have g14:=afE h14;
 (an (aN 10<|ac (ak h14)<|aN 4<|ac (ak h13)<|aN 3<|ac (ak h12)<|aN 3<|ac (ak h11)<|aN 6<|ac (rwz aw n.rules e.n)<|aN 4<|ac (ak h10)<|aN 6<|ac (ak h9)<|a1 a0)<|an a0<|bE<|q34.trans<|cdF h14 rfl))))))))<|λh8=>have q16:=q11.trans (cdF h8 rfl);
 (an (a1 a0)<|brP (λ(h9:(e.op==4)=true)=>have q21:=q16.trans (cdT h9 rfl);
 (aO (λ(h10:(decide<|e.n>=1)=true)=>(aO (λ(h11:(decide<|e.n<=64)=true)=>(an (aN 3<|ac h11<|aN 3<|ac h10<|a1 a0)<|bE<|show r68 n s at' e=(e.level==0)from(ay (ak h0)<|ay (ak h1)<|ay (ak h2)<|ay (ak h3)<|cdT h4<|ay (ak h5)<|ay (ak h6)<|cdF h7<|cdF h8<|cdT h9<|ay h10<|ay h11 rfl)))<|λh11=>(an (aN 2<|ac (ak h11)<|aN 3<|ac h10<|a1 a0)<|bE<|q21.trans<|ay h10<|aT h11)))<|λh10=>(an (aN 5<|ac (ak h10)<|a1 a0)<|bE<|q21.trans<|aT h10)))<|λh9=>have q22:=q16.trans (cdF h9 rfl);
 (an (a1 a0)<|brP (λ(h10:(e.op==5)=true)=>have q26:=q22.trans (cdT h10 rfl);
 (aO (λ(h11:((aB n.rules s.aI).left)=true)=>have q29:=q26.trans (ay h11 rfl);
 (aO (λ(h12:(decide<|e.n>=1)=true)=>have q32:=q29.trans (ay h12 rfl);
 (aO (λ(h13:(decide<|e.n<=64)=true)=>(aO (λ(h14:(decide<|e.level>=1)=true)=>(an (aN 3<|ac h14<|aN 3<|ac h13<|aN 3<|ac h12<|aN 3<|ac h11 a0)<|bE<|show r68 n s at' e=(decide<|e.level<=64)from(ay (ak h0)<|ay (ak h1)<|ay (ak h2)<|ay (ak h3)<|cdT h4<|ay (ak h5)<|ay (ak h6)<|cdF h7<|cdF h8<|cdF h9<|cdT h10<|ay h11<|ay h12<|ay h13<|ay h14 rfl)))<|λh14=>(an (aN 2<|ac (ak h14)<|aN 3<|ac h13<|aN 3<|ac h12<|aN 3<|ac h11 a0)<|bE<|q32.trans<|ay h13<|aT h14)))<|λh13=>(an (aN 5<|ac (ak h13)<|aN 3<|ac h12<|aN 3<|ac h11 a0)<|bE<|q32.trans<|aT h13)))<|λh12=>(an (aN 8<|ac (ak h12)<|aN 3<|ac h11 a0)<|bE<|q29.trans<|aT h12)))<|λh11=>(an (aN 11<|ac (ak h11) a0)<|bE<|q26.trans<|aT h11)))<|λh10=>have q27:=q22.trans (cdF h10 rfl);
 (aO (λ(h11:(e.n !=0)=true)=>(an (aN 2<|ac (n2 h11)<|a1 a0)<|an a0<|bE<|q27.trans<|aT<|bQ h11))<|λh11=>have q30:=q27.trans (ay (ak h11) rfl);
 (an (aN 3<|ac (ak h11)<|a1 a0)<|brP (λ(h12:(e.level !=0)=true)=>(an a0<|bE<|q30.trans<|aT<|bQ h12))<|λh12=>have q33:=q30.trans (ay (ak h12) rfl);
 (an (a1 a0)<|an (show(e.op==3)=false by simpa using h4)<|an (a1 a0)<|brP (λ(h13:(e.op==7)=true)=>have q35:=q33.trans (cdT h13 rfl);
 (an a0<|an (kbT (Ij n s at' e) trivial)<|brP (λ(h14:(Db n s at' e)=true)=>(bE<|q35.trans<|aT<|bQ h14))<|λh14=>(aO (λ(h15:((aB n.rules s.aI).bR)=true)=>(an (aN 2<|ac h15 a0)<|bE<|show r68 n s at' e=(!(aB n.rules s.aI).ft)from(ay (ak h0)<|ay (ak h1)<|ay (ak h2)<|ay (ak h3)<|cdT h4<|ay (ak h5)<|ay (ak h6)<|cdF h7<|cdF h8<|cdF h9<|cdF h10<|ay (ak h11)<|ay (ak h12)<|cdT h13<|ay (ak h14)<|ay h15 rfl)))<|λh15=>(an (aN 2<|ac (ak h15) a0)<|bE<|q35.trans<|ay (ak h14)<|aT h15))))<|λh13=>(an (a1 a0)<|brP (λ(h14:(e.op==6)=true)=>(an a0<|bE<|show r68 n s at' e=(aB n.rules s.aI).left from(ay (ak h0)<|ay (ak h1)<|ay (ak h2)<|ay (ak h3)<|cdT h4<|ay (ak h5)<|ay (ak h6)<|cdF h7<|cdF h8<|cdF h9<|cdF h10<|ay (ak h11)<|ay (ak h12)<|cdF h13<|cdT h14 rfl)))<|λh14=>(aO (λ(h15:(e.op==0)=true)=>(an (aN 2<|ac (n2 h15)<|a1 a0)<|bE<|q33.trans<|cdF h13<|cdF h14<|orT h15))<|λh15=>(an (aN 3<|ac (ak h15)<|a1 a0)<|bE<|show r68 n s at' e=(e.op==1)from(ay (ak h0)<|ay (ak h1)<|ay (ak h2)<|ay (ak h3)<|cdT h4<|ay (ak h5)<|ay (ak h6)<|cdF h7<|cdF h8<|cdF h9<|cdF h10<|ay (ak h11)<|ay (ak h12)<|cdF h13<|cdF h14<|orF h15 rfl))))))))))))))<|λh4=>have q5:=q3.trans (cdF h4 rfl);
 (an (aN 4<|ac (ak h4)<|aN 4<|ac (ak h3)<|aN 10<|ac (ak h2)<|aN 3 a0)<|an (aN 3 a0)<|brP (λ(h5:(!((e.op==4)==(at'==(aB n.rules s.aI).start)))=true)=>(an a0<|bE<|q5.trans<|aT<|bQ h5))<|λh5=>have q7:=q5.trans (ay (ak h5) rfl);
 (an (a1 a0)<|an (show(e.op==1)=false by rw[cE h4];rfl)<|an (a1 a0)<|an (show(e.op==2)=false by rw[cE h4];rfl)<|an (a1 a0)<|an (show(e.op==4)=false by rw[cE h4];rfl)<|an (a1 a0)<|an (show(e.op==5)=false by rw[cE h4];rfl)<|aO (λ(h6:(e.n !=0)=true)=>(an (aN 2<|ac (n2 h6)<|a1 a0)<|an a0<|bE<|q7.trans<|aT<|bQ h6))<|λh6=>have q9:=q7.trans (ay (ak h6) rfl);
 (an (aN 3<|ac (ak h6)<|a1 a0)<|brP (λ(h7:(e.level !=0)=true)=>(an a0<|bE<|q9.trans<|aT<|bQ h7))<|λh7=>have q12:=q9.trans (ay (ak h7) rfl);
 (an (a1 a0)<|an (show(e.op==3)=true by rw[cE h4];rfl)<|aO (λ(h8:((r93 e.g)==0)=true)=>have q17:=q12.trans (ay h8 rfl);
 (aO (λ(h9:(!(eW 14 e.g))=true)=>(aO (λ(h10:((aB n.rules s.aI).bR)=true)=>(an (aN 4<|ac (n2 h10)<|aN 2<|ac h9<|a1<|cA (Of e.g 14) he.g<|aN 2<|ac h8<|a1<|cA (g93 e.g) he.g a0)<|bE<|q17.trans<|ay h9<|orT h10))<|λh10=>(an (aN 2<|cA (Of e.g 13) he.g<|aN 2<|ac (ak h10)<|aN 2<|ac h9<|a1<|cA (Of e.g 14) he.g<|aN 2<|ac h8<|a1<|cA (g93 e.g) he.g a0)<|bE<|show r68 n s at' e=(!(eW 13 e.g))from(ay (ak h0)<|ay (ak h1)<|ay (ak h2)<|ay (ak h3)<|cdF h4<|ay (ak h5)<|ay (ak h6)<|ay (ak h7)<|ay h8<|ay h9<|orF h10 rfl))))<|λh9=>(an (aN 7<|ac (ak h9)<|a1<|cA (Of e.g 14) he.g<|aN 2<|ac h8<|a1<|cA (g93 e.g) he.g a0)<|bE<|q17.trans<|aT h9)))<|λh8=>(an (aN 11<|ac (ak h8)<|a1<|cA (g93 e.g) he.g a0)<|bE<|q12.trans<|aT h8)))))))))) (hc:=(aK (.cons (g67 n e.to s.aI) rfl<|.cons (g91 e.set) rfl<|.cons (g92 e.g) rfl<|.cons (g93 e.g) rfl<|.cons (Of e.g 14) rfl<|.cons (Of e.g 13) rfl bB.nil) aC)) (hk:=(bc (l:=[(0,Ij n s at' e)]) uM (aE (Sm n s at' e he hr) rfl aP) rfl))
abbrev Nn(x:Int):Prop:=0<=x/\x<=9223372036854775807
structure OkE(e:Edge):Prop where
 to:Nn e.to
 n:Nn e.n
 level:Nn e.level
 set: ∀r∈e.set,(0<=r.1/\r.1<=2147483647)/\0<=r.2/\r.2<=2147483647
 len:e.set.length<=1114112
theorem OkE.lo{e:Edge}(h:OkE e){i:Nat}(hi:i<e.set.length):(0<=(ae e.set i).1/\(ae e.set i).1<=2147483647)/\0<=(ae e.set i).2/\(ae e.set i).2<=2147483647:=h.set _ (ai hi)
def bj{x:Int}(h:Nn x):(aA x).size<=21:=NT ⟨by omega,h.2⟩
section
variable(x:Int)
theorem cvI(h0: -2147483648<=x:=by omega)(h1:x<=2147483647:=by omega):dec (PX Tryz.prog 21 3 (.int .i32 x)<|.int .i64 x)=true:=aH.2 (by have e:wrap .i64 x=x:=wrap_i64 oaa oaa;show some (Value.int .i64<|wrap .i64 x)=_;rw[e])
def i44:bC:=⟨44,[I x],S (aA x),0<=x/\x<=9223372036854775807⟩
def g44:(i44 x).bu pg:=bI λhp=>QL x hp
def i39:bC:=⟨39,[I x],S (aA x),0<=x/\x<=9223372036854775807⟩
def g39:(i39 x).bu pg:=bI λhp=>adj x ⟨Int.le_trans oaE hp.1,hp.2⟩
end
def ab8:Code:=bn 0 (aG 45)
def sV(e:Edge)(i0:Nat)(y0:ByteArray):ByteArray:=(bif decide ((i0:Int)>0)then(bif decide ((((ae e.set i0)).2)>(((ae e.set i0)).1))then(((y0++(⟨⟨[44]⟩⟩))++(aA<|((ae e.set i0)).1))++((⟨⟨[45]⟩⟩)++(aA<|((ae e.set i0)).2)))else((y0++(⟨⟨[44]⟩⟩))++(aA<|((ae e.set i0)).1)))else(bif decide ((((ae e.set i0)).2)>(((ae e.set i0)).1))then((y0++(aA<|((ae e.set i0)).1))++((⟨⟨[45]⟩⟩)++(aA<|((ae e.set i0)).2)))else(y0++(aA<|((ae e.set i0)).1))))
def dD(e:Edge)(kk:Nat):ByteArray:=Nat.rec (motive:=λ_=>ByteArray) ((aA e.to)++(⟨⟨[58]⟩⟩)) (λj a=>sV e j a) kk
def vI{e:Edge}(fo:OkE e): ∀i,i<=e.set.length->(dD e i).size<=22+50*i
 |0,_=>by have:=bj fo.to;show(_++_:ByteArray).size<=_;simp only[agf,lJ,afX,af6];omega
 |i+1,hi=>by have ih:=vI fo i oaa;have q0:=fo.lo (i:=i) oaa;have z4:=bj (x:=(ae e.set i).1) ⟨by omega,by omega⟩;have z5:=bj (x:=(ae e.set i).2) ⟨by omega,by omega⟩;show(sV e i<|dD e i).size<=_;unfold sV;generalize dD e i=y at ih;cases decide (((i:Nat):Int)>0)<;>cases decide ((ae e.set i).2>(ae e.set i).1)<;>simp only[afN,afY,agf,lJ,afX,af6]<;>omega
abbrev mz(e:Edge)(i0:Nat)(y0:ByteArray):Am.Loc:=[(1,.pt 0 0),(4,S y0),(5,I (i0:Int))]
section
variable(e:Edge)
abbrev F3(i0:Nat):Am.Loc:=mz e i0 (dD e i0)
abbrev lM(i0:Nat):lXE:=[.box 49 (aD e)]
abbrev Sn:Am.Loc:=[(4,S (dD e<|length e.set))]
abbrev So:lXE:=[.box 49 (aD e)]
def Ik:KB:=noK 0 (F3 e) (lM e) (.exit 0) (Sn e) (So e) (True)
abbrev F4(i0:Nat):List bG:=[nxW (false) (F3 e<|i0+1) (lM e<|i0+1) (mz e (i0+1)<|(((dD e i0)++(⟨⟨[44]⟩⟩))++(aA<|((ae e.set i0)).1))++((⟨⟨[45]⟩⟩)++(aA<|((ae e.set i0)).2))) zAT (lM e<|i0+1),nxW (false) (F3 e<|i0+1) (lM e<|i0+1) (mz e (i0+1)<|((dD e i0)++(⟨⟨[44]⟩⟩))++(aA<|((ae e.set i0)).1)) zAT (lM e<|i0+1),nxW (false) (F3 e<|i0+1) (lM e<|i0+1) (mz e (i0+1)<|((dD e i0)++(aA<|((ae e.set i0)).1))++((⟨⟨[45]⟩⟩)++(aA<|((ae e.set i0)).2))) zAT (lM e<|i0+1),nxW (false) (F3 e<|i0+1) (lM e<|i0+1) (mz e (i0+1)<|(dD e i0)++(aA<|((ae e.set i0)).1)) zAT (lM e<|i0+1)]
abbrev zDB:=(decide<|(((length e.set):Nat):Int)<(length (map aJ e.set):Int))
theorem Sp(fo:OkE e):ca pg 116 0 0 (.loop ab8) (Ik e):=
 noB (F4 e) (λi0=>(.r [.k,bT]<|.yes<|.r [.k,bT]<|.br (.r [.val (.string<|(dD e i0)++(⟨⟨[44]⟩⟩)),bT]<|.r [.row (aJ<|ae e.set i0),.val (.int .i64<|((ae e.set i0)).1),.int 0,.val (.string<|((dD e i0)++(⟨⟨[44]⟩⟩))++(aA<|((ae e.set i0)).1)),bT]<|.r [.row (aJ<|ae e.set i0),.row (aJ<|ae e.set i0),.k,bT]<|.br (.r [.row (aJ<|ae e.set i0),.val (.int .i64<|((ae e.set i0)).2),.int 1,.val (.string<|(⟨⟨[45]⟩⟩)++(aA<|((ae e.set i0)).2)),.val (.string<|(((dD e i0)++(⟨⟨[44]⟩⟩))++(aA<|((ae e.set i0)).1))++((⟨⟨[45]⟩⟩)++(aA<|((ae e.set i0)).2))),bT]<|zc i0)<|zC i0)<|.r [.row (aJ<|ae e.set i0),.val (.int .i64<|((ae e.set i0)).1),.int 0,.val (.string<|(dD e i0)++(aA<|((ae e.set i0)).1)),bT]<|.r [.row (aJ<|ae e.set i0),.row (aJ<|ae e.set i0),.k,bT]<|.br (.r [.row (aJ<|ae e.set i0),.val (.int .i64<|((ae e.set i0)).2),.int 1,.val (.string<|(⟨⟨[45]⟩⟩)++(aA<|((ae e.set i0)).2)),.val (.string<|((dD e i0)++(aA<|((ae e.set i0)).1))++((⟨⟨[45]⟩⟩)++(aA<|((ae e.set i0)).2))),bT]<|.r (zBs i0)<|.pick 2)<|.r (zBs i0)<|.pick 3)) (range 1) zF (length e.set)
 (λ_ i0(hx0:i0<(length e.set))=>have f1:=fo.to;have f2:=fo.n;have f3:=fo.level;have f4:=fo.len;have z1:=bj fo.to;have z2:=bj fo.n;have z3:=bj fo.level;have q0:=fo.lo hx0;have z4:=bj (x:=(ae e.set i0).1) ⟨by omega,by omega⟩;have z5:=bj (x:=(ae e.set i0).2) ⟨by omega,by omega⟩;have hsz:=vI fo i0 oaa;have l1:=aF aJ (e.set);have hb:(decide<|(i0:Int)<(length (map aJ e.set):Int))=true:=afH oaa;
 bq (an (a1 a0)<|an hb<|an (a1 a0)<|brP (λ(h1:(zDf i0)=true)=>have g1:=afL h1;
 (an (ac (cT (.tmp 23) (.const<|.string ⟨⟨[44]⟩⟩) (dD e i0)<|⟨⟨[44]⟩⟩) a0)<|an (ac (cT (.tmp 25) (.tmp 33) ((dD e i0)++(⟨⟨[44]⟩⟩))<|aA<|((ae e.set i0)).1)<|cA (g44<|((ae e.set i0)).1) ⟨by omega,by omega⟩<|ac (cvI<|((ae e.set i0)).1)<|ac (rwa aJ e.set i0) a0)<|an (a1<|ac (rwa aJ e.set i0)<|ac (rwa aJ e.set i0) a0)<|brP (λ(h2:(decide<|(((ae e.set i0)).2)>(((ae e.set i0)).1))=true)=>have g2:=afL h2;
 (an (ac (cT (.tmp 48) (.tmp 57) (((dD e i0)++(⟨⟨[44]⟩⟩))++(aA<|((ae e.set i0)).1))<|(⟨⟨[45]⟩⟩)++(aA<|((ae e.set i0)).2))<|ac (cT (.const<|.string ⟨⟨[45]⟩⟩) (.tmp 56) (⟨⟨[45]⟩⟩)<|aA<|((ae e.set i0)).2)<|cA (g44<|((ae e.set i0)).2) ⟨by omega,by omega⟩<|ac (cvI<|((ae e.set i0)).2)<|ac (rwa aJ e.set i0) a0)<|an (ac (dwo ((i0+1:Nat):Int)) a0)<|lf (wy (F4 e i0) 0) 1<|nxP (mz e<|i0+1) (λ_=>lM e<|i0+1) rfl<|show dD e (i0+1)=_ from(cdT h1<|cdT h2 rfl)))<|λh2=>have g2:=afE h2;
 (an (ac (dwo ((i0+1:Nat):Int)) a0)<|lf (wy (F4 e i0) 1) 1<|nxP (mz e<|i0+1) (λ_=>lM e<|i0+1) rfl<|show dD e (i0+1)=_ from(cdT h1<|cdF h2 rfl))))<|λh1=>have g1:=afE h1;
 (an (ac (cT (.tmp 25) (.tmp 33) (dD e i0)<|aA<|((ae e.set i0)).1)<|cA (g44<|((ae e.set i0)).1) ⟨by omega,by omega⟩<|ac (cvI<|((ae e.set i0)).1)<|ac (rwa aJ e.set i0) a0)<|an (a1<|ac (rwa aJ e.set i0)<|ac (rwa aJ e.set i0) a0)<|brP (λ(h2:(decide<|(((ae e.set i0)).2)>(((ae e.set i0)).1))=true)=>have g2:=afL h2;
 (an (ac (cT (.tmp 48) (.tmp 57) ((dD e i0)++(aA<|((ae e.set i0)).1))<|(⟨⟨[45]⟩⟩)++(aA<|((ae e.set i0)).2))<|ac (cT (.const<|.string ⟨⟨[45]⟩⟩) (.tmp 56) (⟨⟨[45]⟩⟩)<|aA<|((ae e.set i0)).2)<|cA (g44<|((ae e.set i0)).2) ⟨by omega,by omega⟩<|ac (cvI<|((ae e.set i0)).2)<|ac (rwa aJ e.set i0) a0)<|an (ac (dwo ((i0+1:Nat):Int)) a0)<|lf (wy (F4 e i0) 2) 1<|nxP (mz e<|i0+1) (λ_=>lM e<|i0+1) rfl<|show dD e (i0+1)=_ from(cdF h1<|cdT h2 rfl)))<|λh2=>have g2:=afE h2;
 (an (ac (dwo ((i0+1:Nat):Int)) a0)<|lf (wy (F4 e i0) 3) 1<|nxP (mz e<|i0+1) (λ_=>lM e<|i0+1) rfl<|show dD e (i0+1)=_ from(cdF h1<|cdF h2 rfl))))
 oab)
 (λ_=>have f1:=fo.to;have f2:=fo.n;have f3:=fo.level;have f4:=fo.len;have z1:=bj fo.to;have z2:=bj fo.n;have z3:=bj fo.level;have l1:=aF aJ (e.set);have hb:(zDB e)=false:=afI oaa;
 bq (an (a1 a0)<|an hb<|lx (.exit 0) (Sn e) (range 1) (So e) 1)
 oab) (hc:=λ_ i0 hx0=>(aK (.cons (g44<|((ae e.set i0)).1) rfl<|.cons (g44<|((ae e.set i0)).2) rfl bB.nil) aC))
def r45:ByteArray:=(bif e.op==1 then(dD e<|length e.set)else(bif e.op==2 then((((((⟨⟨[64]⟩⟩)++(aA e.n))++(⟨⟨[47]⟩⟩))++(aA e.level))++(⟨⟨[62]⟩⟩))++(aA e.to))else(bif e.op==3 then((⟨⟨[63]⟩⟩)++(aA e.to))else(bif e.op==4 then((((⟨⟨[35]⟩⟩)++(aA e.n))++(⟨⟨[62]⟩⟩))++(aA e.to))else(bif e.op==5 then((((((⟨⟨[43]⟩⟩)++(aA e.n))++(⟨⟨[47]⟩⟩))++(aA e.level))++(⟨⟨[62]⟩⟩))++(aA e.to))else(bif e.op==6 then((⟨⟨[61]⟩⟩)++(aA e.to))else(bif e.op==7 then((⟨⟨[33]⟩⟩)++(aA e.to))else(aA e.to))))))))
end
def uN:cy [0] (aG 45)=[(0,.loop ab8)]:=by kernel_rfl
abbrev zBL(e:Edge):GT:=(.r [.k,bT]<|.br (.r [.val (.string<|(⟨⟨[61]⟩⟩)++(aA e.to)),bT] .nil)<|.r [.k,bT]<|.br (.r [.val (.string<|(⟨⟨[33]⟩⟩)++(aA e.to)),bT] .nil) zD)
abbrev zDk(e:Edge):GT:=(.r [.val (.string<|(⟨⟨[63]⟩⟩)++(aA e.to)),bT] .nil)
def adx(e:Edge)(fo:OkE e):aQ pg 45 [.ag (aD e)] [] [] (S<|r45 e) []:=
 have f1:=fo.to;have f2:=fo.n;have f3:=fo.level;have f4:=fo.len;have z1:=bj fo.to;have z2:=bj fo.n;have z3:=bj fo.level;have hsz:=vI fo _ (afG _);aV 45 (.r [bT]<|.r [.int 0,bT]<|.r [.k,bT]<|.br (.r [.val (.string<|(aA e.to)++(⟨⟨[58]⟩⟩)),bT]<|.r [bT]<|.no zD)<|.r [.k,bT]<|.br (.r [.int 1,.val (.string<|(⟨⟨[64]⟩⟩)++(aA e.n)),.val (.string<|((⟨⟨[64]⟩⟩)++(aA e.n))++(⟨⟨[47]⟩⟩)),.int 2,.val (.string<|(((⟨⟨[64]⟩⟩)++(aA e.n))++(⟨⟨[47]⟩⟩))++(aA e.level)),.val (.string<|((((⟨⟨[64]⟩⟩)++(aA e.n))++(⟨⟨[47]⟩⟩))++(aA e.level))++(⟨⟨[62]⟩⟩)),.val (.string<|(((((⟨⟨[64]⟩⟩)++(aA e.n))++(⟨⟨[47]⟩⟩))++(aA e.level))++(⟨⟨[62]⟩⟩))++(aA e.to)),bT] .nil)<|.r [.k,bT]<|.br (zDk e)<|.r [.k,bT]<|.br (.r [.int 1,.val (.string<|(⟨⟨[35]⟩⟩)++(aA e.n)),.val (.string<|((⟨⟨[35]⟩⟩)++(aA e.n))++(⟨⟨[62]⟩⟩)),.val (.string<|(((⟨⟨[35]⟩⟩)++(aA e.n))++(⟨⟨[62]⟩⟩))++(aA e.to)),bT] .nil)<|.r [.k,bT]<|.br (.r [.int 1,.val (.string<|(⟨⟨[43]⟩⟩)++(aA e.n)),.val (.string<|((⟨⟨[43]⟩⟩)++(aA e.n))++(⟨⟨[47]⟩⟩)),.int 2,.val (.string<|(((⟨⟨[43]⟩⟩)++(aA e.n))++(⟨⟨[47]⟩⟩))++(aA e.level)),.val (.string<|((((⟨⟨[43]⟩⟩)++(aA e.n))++(⟨⟨[47]⟩⟩))++(aA e.level))++(⟨⟨[62]⟩⟩)),.val (.string<|(((((⟨⟨[43]⟩⟩)++(aA e.n))++(⟨⟨[47]⟩⟩))++(aA e.level))++(⟨⟨[62]⟩⟩))++(aA e.to)),bT] .nil)<|zBL e)
 (an a0<|an (cA (g44 e.to) ⟨by omega,by omega⟩ a0)<|an (a1 a0)<|brP (λ(h0:(e.op==1)=true)=>have g0:=eq_of_beq h0;
 (an (ac (cT (.tmp 12) (.const<|.string ⟨⟨[58]⟩⟩) (aA e.to)<|⟨⟨[58]⟩⟩) a0)<|an a0<|an (kbT (Ik e) trivial)<|an (rfl:false=false)<|an a0<|sE<|show r45 e=_ from(cdT h0 rfl)))<|λh0=>have g0:=afT h0;
 (an (a1 a0)<|brP (λ(h1:(e.op==2)=true)=>have g1:=eq_of_beq h1;
 (an (ac (cT (.tmp 72) (.tmp 73) (((((⟨⟨[64]⟩⟩)++(aA e.n))++(⟨⟨[47]⟩⟩))++(aA e.level))++(⟨⟨[62]⟩⟩))<|aA e.to)<|ac (cT (.tmp 71) (.const<|.string ⟨⟨[62]⟩⟩) ((((⟨⟨[64]⟩⟩)++(aA e.n))++(⟨⟨[47]⟩⟩))++(aA e.level))<|⟨⟨[62]⟩⟩)<|ac (cT (.tmp 67) (.tmp 70) (((⟨⟨[64]⟩⟩)++(aA e.n))++(⟨⟨[47]⟩⟩))<|aA e.level)<|cA (g44 e.level) ⟨by omega,by omega⟩<|ac (cT (.tmp 66) (.const<|.string ⟨⟨[47]⟩⟩) ((⟨⟨[64]⟩⟩)++(aA e.n))<|⟨⟨[47]⟩⟩)<|ac (cT (.const<|.string ⟨⟨[64]⟩⟩) (.tmp 65) (⟨⟨[64]⟩⟩)<|aA e.n)<|cA (g44 e.n) ⟨by omega,by omega⟩ a0)<|sE<|show r45 e=_ from(cdF h0<|cdT h1 rfl)))<|λh1=>have g1:=afT h1;
 (an (a1 a0)<|brP (λ(h2:(e.op==3)=true)=>have g2:=eq_of_beq h2;
 (an (ac (cT (.const<|.string ⟨⟨[63]⟩⟩) (.tmp 78) (⟨⟨[63]⟩⟩)<|aA e.to) a0)<|sE<|show r45 e=_ from(cdF h0<|cdF h1<|cdT h2 rfl)))<|λh2=>have g2:=afT h2;
 (an (a1 a0)<|brP (λ(h3:(e.op==4)=true)=>have g3:=eq_of_beq h3;
 (an (ac (cT (.tmp 87) (.tmp 88) (((⟨⟨[35]⟩⟩)++(aA e.n))++(⟨⟨[62]⟩⟩))<|aA e.to)<|ac (cT (.tmp 86) (.const<|.string ⟨⟨[62]⟩⟩) ((⟨⟨[35]⟩⟩)++(aA e.n))<|⟨⟨[62]⟩⟩)<|ac (cT (.const<|.string ⟨⟨[35]⟩⟩) (.tmp 85) (⟨⟨[35]⟩⟩)<|aA e.n)<|cA (g44 e.n) ⟨by omega,by omega⟩ a0)<|sE<|show r45 e=_ from(cdF h0<|cdF h1<|cdF h2<|cdT h3 rfl)))<|λh3=>have g3:=afT h3;
 (an (a1 a0)<|brP (λ(h4:(e.op==5)=true)=>have g4:=eq_of_beq h4;
 (an (ac (cT (.tmp 102) (.tmp 103) (((((⟨⟨[43]⟩⟩)++(aA e.n))++(⟨⟨[47]⟩⟩))++(aA e.level))++(⟨⟨[62]⟩⟩))<|aA e.to)<|ac (cT (.tmp 101) (.const<|.string ⟨⟨[62]⟩⟩) ((((⟨⟨[43]⟩⟩)++(aA e.n))++(⟨⟨[47]⟩⟩))++(aA e.level))<|⟨⟨[62]⟩⟩)<|ac (cT (.tmp 97) (.tmp 100) (((⟨⟨[43]⟩⟩)++(aA e.n))++(⟨⟨[47]⟩⟩))<|aA e.level)<|cA (g44 e.level) ⟨by omega,by omega⟩<|ac (cT (.tmp 96) (.const<|.string ⟨⟨[47]⟩⟩) ((⟨⟨[43]⟩⟩)++(aA e.n))<|⟨⟨[47]⟩⟩)<|ac (cT (.const<|.string ⟨⟨[43]⟩⟩) (.tmp 95) (⟨⟨[43]⟩⟩)<|aA e.n)<|cA (g44 e.n) ⟨by omega,by omega⟩ a0)<|sE<|show r45 e=_ from(cdF h0<|cdF h1<|cdF h2<|cdF h3<|cdT h4 rfl)))<|λh4=>have g4:=afT h4;
 (an (a1 a0)<|brP (λ(h5:(e.op==6)=true)=>have g5:=eq_of_beq h5;
 (an (ac (cT (.const<|.string ⟨⟨[61]⟩⟩) (.tmp 108) (⟨⟨[61]⟩⟩)<|aA e.to) a0)<|sE<|show r45 e=_ from(cdF h0<|cdF h1<|cdF h2<|cdF h3<|cdF h4<|cdT h5 rfl)))<|λh5=>have g5:=afT h5;
 (an (a1 a0)<|brP (λ(h6:(e.op==7)=true)=>have g6:=eq_of_beq h6;
 (an (ac (cT (.const<|.string ⟨⟨[33]⟩⟩) (.tmp 113) (⟨⟨[33]⟩⟩)<|aA e.to) a0)<|sE<|show r45 e=_ from(cdF h0<|cdF h1<|cdF h2<|cdF h3<|cdF h4<|cdF h5<|cdT h6 rfl)))<|λh6=>(an a0<|sE<|show r45 e=_ from(cdF h0<|cdF h1<|cdF h2<|cdF h3<|cdF h4<|cdF h5<|cdF h6 rfl))))))))) (hc:=(aK (.cons (g44 e.to) rfl<|.cons (g44 e.n) rfl<|.cons (g44 e.level) rfl bB.nil) aC)) (hk:=(bc (l:=[(0,Ik e)]) uN (aE (Sp e fo) rfl aP) rfl))
noncomputable def gW(r:Int×Int):ByteArray:=bif decide (r.2>r.1)then aA r.1++(⟨⟨[45]⟩⟩++aA r.2)else aA r.1
section
variable{α:Type}(f:α->ByteArray)
@[simp] theorem pr_sf(l:List α):aM (map (aU∘f) l)=true:=aW (λ_=>rfl) l
@[simp] theorem pr_sf2(l:List α)(i j:Nat):aM (List.take i<|List.take j<|map (aU∘f) l)=true:=fQ _ (fQ _<|pr_sf f l)
end
def Bg{α β:Type}[Inhabited α](f:α->β)(l:List α){i:Nat}(h:i<l.length){x:β}(hx:x=f (ae l i)):List.take i (map f<|List.take i l)++ [x]=map f (List.take (i+1) l):=by rw[agd oau,fg h,hx];simp
def sW{xs:lXD}{sep:ByteArray}{k:Nat}(h: ∀x∈xs,x.size<=k):(dO xs sep).data.size<=xs.length*(k+sep.size):=by
 have hs:sep.data.toList.length=sep.size:=by simp
 have key: ∀r:lXD,(∀x∈r,x.size<=k)->(Lib.joinTail sep.data.toList (r.map (·.data.toList))).length<=r.length*(k+sep.size):=by
  intro r;induction r with
  |nil=>intro _;simp[Lib.joinTail]
  |cons a r ih=>
   intro h;have h1:=h a oaf;have h2:=ih λx hx=>h x (by simp[hx]);have h1:a.data.toList.length<=k:=by simpa using h1
   simp only[Lib.joinTail,afZ,agw,afS,afX]at h2⊢;rw[agD _ 1,Nat.one_mul];omega
 cases xs with
 |nil=>simp[dO,Lib.join_nil]
 |cons a r=>
  have h1:=h a oaf;have h1:a.data.toList.length<=k:=by simpa using h1
  have h2:=key r λx hx=>h x (by simp[hx]);show(Lib.join ((a::r).map (·.data.toList)) sep.data.toList).toArray.size<=_;rw[afZ,Lib.join_cons,ag8,afS,afX,agD _ 1,Nat.one_mul];omega
def F5{e:Edge}(fo:OkE e): ∀x∈map gW e.set,x.size<=50:=by intro x hx;obtain⟨r,hr,rfl⟩:=agl.1 hx;have q:=fo.set r hr;have z4:=bj (x:=r.1) ⟨by omega,by omega⟩;have z5:=bj (x:=r.2) ⟨by omega,by omega⟩;unfold gW;cases decide (r.2>r.1)<;>simp only[afN,afY,agf,lJ,afX,af6]<;>omega
def rngj{e:Edge}(fo:OkE e):(dO (map gW<|List.take (length e.set) e.set) ⟨⟨[44]⟩⟩).data.size<=140737488355328/\(map gW<|List.take (length e.set) e.set).length<=140737488355328:=by rw[agv];have h1:=sW (sep:=⟨⟨[44]⟩⟩) (F5 fo);have h2:=fo.len;rw[afK]at h1⊢;rw[show(⟨⟨[44]⟩⟩:ByteArray).size=1 from rfl]at h1;exact⟨by omega,by omega⟩
def ab9{e:Edge}(fo:OkE e):(dO (map gW<|List.take (length e.set) e.set) ⟨⟨[44]⟩⟩).size<=60000000:=by rw[agv];have h1:=sW (sep:=⟨⟨[44]⟩⟩) (F5 fo);have h2:=fo.len;rw[afK,show(⟨⟨[44]⟩⟩:ByteArray).size=1 from rfl]at h1;show(dO _ _).data.size<=_;omega
def i41(l:lXD)(s:ByteArray):bC:=⟨41,[.sl 1 (l.map aU),S s],S (dO l s),(dO l s).data.size<=140737488355328/\l.length<=140737488355328⟩
def g41(l:lXD)(s:ByteArray):(i41 l s).bu pg:=bI λhp=>Ka (ob:=[]) l s hp.1 hp.2
def Sq:Code:=bn 1 (aG 40)
section
variable(e:Edge)
abbrev F6(i1:Nat):Am.Loc:=[(3,S (aA e.to)),(6,.sr 0 1 0 i1),(34,.sl 2 (zBE e)),(35,I (length (zBE e):Int)),(36,I (i1:Int))]
abbrev Sr(i1:Nat):lXE:=[.row 9 1 (map aU<|map gW<|List.take i1 e.set)]
abbrev Il:Am.Loc:=[(3,S (aA e.to)),(6,.sr 0 1 0 (length e.set))]
abbrev zDl:=(map aU<|map gW<|List.take (length e.set) e.set)
abbrev Ss:lXE:=[.row 9 1 (zDl e)]
def iM:KB:=noK 1 (F6 e) (Sr e) (.exit 1) (Il e) (Ss e) (True)
abbrev zCZ(i1:Nat):Am.Loc:=[(3,S (aA e.to)),(6,.sr 0 1 0 (i1+1)),(34,.sl 2 (zBE e)),(35,I (length (zBE e):Int)),(36,I ↑(i1+1))]
abbrev Su(i1:Nat):List bG:=[nxW (false) (F6 e<|i1+1) (Sr e<|i1+1) (zCZ e i1) [2] [.row 9 1 (map aU<|List.take i1 (map gW<|List.take i1 e.set)++ [((aA<|((ae e.set i1)).1)++((⟨⟨[45]⟩⟩)++(aA<|((ae e.set i1)).2)))])],nxW (false) (F6 e<|i1+1) (Sr e<|i1+1) (zCZ e i1) [2] [.row 9 1 (map aU<|List.take i1 (map gW<|List.take i1 e.set)++ [(aA<|((ae e.set i1)).1)])]]
abbrev zDK(i1:Nat):=(decide<|(((ae e.set i1)).2)>(((ae e.set i1)).1))
theorem Sv(fo:OkE e):ca pg 106 0 1 (.loop Sq) (iM e):=
 noB (Su e) (λi1=>(.r [.k,bT]<|.yes<|.r [.row (aJ<|ae e.set i1),bT]<|.r [.val (.int .i64<|((ae e.set i1)).1),.int 0,bT]<|.r [.k,bT]<|.br (.r [.val (.int .i64<|((ae e.set i1)).2),.int 1,.val (.string<|(⟨⟨[45]⟩⟩)++(aA<|((ae e.set i1)).2)),.val (.string<|(aA<|((ae e.set i1)).1)++((⟨⟨[45]⟩⟩)++(aA<|((ae e.set i1)).2))),bT]<|.r [bT]<|.r [.int ↑(i1+1),bT]<|.pick 0)<|.r [bT]<|.r [.int ↑(i1+1),bT]<|.pick 1)) (range 1) zF (length e.set)
 (λ_ i1(hx1:i1<(length e.set))=>have f1:=fo.to;have f2:=fo.n;have f3:=fo.level;have f4:=fo.len;have z1:=bj fo.to;have z2:=bj fo.n;have z3:=bj fo.level;have q1:=fo.lo hx1;have z4:=bj (x:=(ae e.set i1).1) ⟨by omega,by omega⟩;have z5:=bj (x:=(ae e.set i1).2) ⟨by omega,by omega⟩;have hlen:length (map aU<|map gW<|List.take i1 e.set)=min i1 (length e.set):=oaf;have l1:=aF aJ (e.set);have hb:(decide<|(i1:Int)<(length (map aJ e.set):Int))=true:=afH oaa;
 bq (an (a1 a0)<|an hb<|an (ac (rwa aJ e.set i1) a0)<|an (cA (g39<|((ae e.set i1)).1) ⟨by omega,by omega⟩<|ac (cvI<|((ae e.set i1)).1) a0)<|an (a1 a0)<|brP (λ(h1:(zDK e i1)=true)=>have g1:=afL h1;
 (an (ac (cT (.tmp 49) (.tmp 54) (aA<|((ae e.set i1)).1)<|(⟨⟨[45]⟩⟩)++(aA<|((ae e.set i1)).2))<|ac (cT (.const<|.string ⟨⟨[45]⟩⟩) (.tmp 53) (⟨⟨[45]⟩⟩)<|aA<|((ae e.set i1)).2)<|cA (g39<|((ae e.set i1)).2) ⟨by omega,by omega⟩<|ac (cvI<|((ae e.set i1)).2) a0)<|an (ac (apo i1 16<|rl aU<|map gW<|List.take i1 e.set) a0)<|an (ac (dwo ((i1+1:Nat):Int)) a0)<|lfE (wy (Su e i1) 0) 3 ⟨rfl,rfl,afQ (λz=>([.row 9 1 (map aU z)]:lXE)) (Bg gW _ hx1<|(show gW _=_ from cdT h1 rfl).symm)⟩<|bo (afQ (λz=>Ob.row 9 1 z)<|apT (f:=aU) (rl aU<|map gW<|List.take i1 e.set) i1<|(aA<|((ae e.set i1)).1)++((⟨⟨[45]⟩⟩)++(aA<|((ae e.set i1)).2))) eC))<|λh1=>have g1:=afE h1;
 (an (ac (apo i1 16<|rl aU<|map gW<|List.take i1 e.set) a0)<|an (ac (dwo ((i1+1:Nat):Int)) a0)<|lfE (wy (Su e i1) 1) 3 ⟨rfl,rfl,afQ (λz=>([.row 9 1 (map aU z)]:lXE)) (Bg gW _ hx1<|(show gW _=_ from cdF h1 rfl).symm)⟩<|bo (afQ (λz=>Ob.row 9 1 z)<|apT (f:=aU) (rl aU<|map gW<|List.take i1 e.set) i1<|aA<|((ae e.set i1)).1) eC))
 oab)
 (λ_=>have f1:=fo.to;have f2:=fo.n;have f3:=fo.level;have f4:=fo.len;have z1:=bj fo.to;have z2:=bj fo.n;have z3:=bj fo.level;have l1:=aF aJ (e.set);have hb:(zDB e)=false:=afI oaa;
 bq (an (a1 a0)<|an hb<|lx (.exit 1) (Il e) (range 1) (Ss e) 1)
 oab) (hc:=λ_ i1 hx1=>(aK (.cons (g39<|((ae e.set i1)).1) rfl<|.cons (g39<|((ae e.set i1)).2) rfl bB.nil) aC))
theorem Og(fo:OkE e):ca pg 106 0 1 (.loop Sq) ⟨[(3,S (aA<|Edge.to e)),(6,.v (.slice none 0 0)),(34,.sl 2 (map aJ<|Edge.set e)),(35,I (length (map aJ<|Edge.set e):Int)),(36,I 0)],[],(iM e).hit,(iM e).x1,(iM e).L1,(iM e).ob1,(iM e).x2,[(3,S (aA<|Edge.to e)),(6,.sl 1 (map aU<|map gW<|List.take (length<|Edge.set e)<|Edge.set e))],[],(iM e).p⟩:=
 have f1:=fo.to;have f2:=fo.n;have f3:=fo.level;have f4:=fo.len;have z1:=bj fo.to;have z2:=bj fo.n;have z3:=bj fo.level;iK (Sv e fo) (sN (L:=[(3,S (aA<|Edge.to e)),(6,.v (.slice none 0 0)),(34,.sl 2 (map aJ<|Edge.set e)),(35,I (length (map aJ<|Edge.set e):Int)),(36,I 0)]) (L':=F6 e 0) (ob:=[]) (T:=9) (S:=1) (λa av e=>by
  simp only[F6,cH]at e;split at e
  ·rename_i h;subst h;exact .inl oaw
  ·split at e
   ·rename_i h;subst h;exact .inr ⟨rfl,(agH e).symm⟩
   ·split at e
    ·rename_i h;subst h;exact .inl oaw
    ·split at e
     ·rename_i h;subst h;exact .inl oaw
     ·split at e
      ·rename_i h;subst h;exact .inl oaw
      ·simp[lk]at e)) (dF.refl _ _) rfl (sO (L:=Il e) (L':=[(3,S (aA<|Edge.to e)),(6,.sl 1 (map aU<|map gW<|List.take (length<|Edge.set e)<|Edge.set e))]) (ob:=[]) (k:=length<|Edge.set e) (T:=9) (rows:=(map aU<|map gW<|List.take (length<|Edge.set e)<|Edge.set e)) oaf (af7 _) (λa av e=>by
  simp only[cH]at e;split at e
  ·rename_i h;subst h;exact .inl ⟨by rw[<-e];rfl,by rw[<-agH e];simp[AV.und,bw fY,bA]⟩
  ·split at e
   ·rename_i h;subst h;exact .inr ⟨rfl,(agH e).symm,by simp only[AV.und];exact bw fY _ _⟩
   ·simp[lk]at e) rfl) rfl
def KY:KB:=⟨[(3,S (aA e.to)),(6,.v (.slice none 0 0)),(34,.sl 2 (zBE e)),(35,I (length (zBE e):Int)),(36,I 0)],[],(iM e).hit,(iM e).x1,(iM e).L1,(iM e).ob1,(iM e).x2,[(3,S (aA e.to)),(6,.sl 1 (zDl e))],[],(iM e).p⟩
def r40:ByteArray:=(bif e.op==1 then(((aA e.to)++(⟨⟨[58]⟩⟩))++(dO (map gW<|List.take (length e.set) e.set)<|⟨⟨[44]⟩⟩))else(bif e.op==2 then((((((⟨⟨[64]⟩⟩)++(aA e.n))++(⟨⟨[47]⟩⟩))++(aA e.level))++(⟨⟨[62]⟩⟩))++(aA e.to))else(bif e.op==3 then((⟨⟨[63]⟩⟩)++(aA e.to))else(bif e.op==4 then((((⟨⟨[35]⟩⟩)++(aA e.n))++(⟨⟨[62]⟩⟩))++(aA e.to))else(bif e.op==5 then((((((⟨⟨[43]⟩⟩)++(aA e.n))++(⟨⟨[47]⟩⟩))++(aA e.level))++(⟨⟨[62]⟩⟩))++(aA e.to))else(bif e.op==6 then((⟨⟨[61]⟩⟩)++(aA e.to))else(bif e.op==7 then((⟨⟨[33]⟩⟩)++(aA e.to))else(aA e.to))))))))
end
def uO:cy [1] (aG 40)=[(1,.loop Sq)]:=by kernel_rfl
def ady(e:Edge)(fo:OkE e):aQ pg 40 [.pf (aD e)] [] [] (S<|r40 e) []:=
 have f1:=fo.to;have f2:=fo.n;have f3:=fo.level;have f4:=fo.len;have z1:=bj fo.to;have z2:=bj fo.n;have z3:=bj fo.level;have hsz:=ab9 fo;aV 40 (.r [bT]<|.r [.int 0,.int 1,.int 2,bT]<|.r [bT]<|.r [.k,bT]<|.br (.r [bT]<|.r [bT]<|.no<|.r [.val (.string<|(aA e.to)++(⟨⟨[58]⟩⟩)),.int 3,.val (.string<|((aA e.to)++(⟨⟨[58]⟩⟩))++(dO (map gW<|List.take (length e.set) e.set)<|⟨⟨[44]⟩⟩)),bT] .nil)<|.r [.k,bT]<|.br (.r [.val (.string<|(⟨⟨[64]⟩⟩)++(aA e.n)),.val (.string<|((⟨⟨[64]⟩⟩)++(aA e.n))++(⟨⟨[47]⟩⟩)),.val (.string<|(((⟨⟨[64]⟩⟩)++(aA e.n))++(⟨⟨[47]⟩⟩))++(aA e.level)),.val (.string<|((((⟨⟨[64]⟩⟩)++(aA e.n))++(⟨⟨[47]⟩⟩))++(aA e.level))++(⟨⟨[62]⟩⟩)),.val (.string<|(((((⟨⟨[64]⟩⟩)++(aA e.n))++(⟨⟨[47]⟩⟩))++(aA e.level))++(⟨⟨[62]⟩⟩))++(aA e.to)),bT] .nil)<|.r [.k,bT]<|.br (zDk e)<|.r [.k,bT]<|.br (.r [.val (.string<|(⟨⟨[35]⟩⟩)++(aA e.n)),.val (.string<|((⟨⟨[35]⟩⟩)++(aA e.n))++(⟨⟨[62]⟩⟩)),.val (.string<|(((⟨⟨[35]⟩⟩)++(aA e.n))++(⟨⟨[62]⟩⟩))++(aA e.to)),bT] .nil)<|.r [.k,bT]<|.br (.r [.val (.string<|(⟨⟨[43]⟩⟩)++(aA e.n)),.val (.string<|((⟨⟨[43]⟩⟩)++(aA e.n))++(⟨⟨[47]⟩⟩)),.val (.string<|(((⟨⟨[43]⟩⟩)++(aA e.n))++(⟨⟨[47]⟩⟩))++(aA e.level)),.val (.string<|((((⟨⟨[43]⟩⟩)++(aA e.n))++(⟨⟨[47]⟩⟩))++(aA e.level))++(⟨⟨[62]⟩⟩)),.val (.string<|(((((⟨⟨[43]⟩⟩)++(aA e.n))++(⟨⟨[47]⟩⟩))++(aA e.level))++(⟨⟨[62]⟩⟩))++(aA e.to)),bT] .nil)<|zBL e)
 (an a0<|an (cA (g39 e.level) ⟨by omega,by omega⟩<|cA (g39 e.n) ⟨by omega,by omega⟩<|cA (g39 e.to) ⟨by omega,by omega⟩ a0)<|an a0<|an (a1 a0)<|brP (λ(h0:(e.op==1)=true)=>have g0:=eq_of_beq h0;
 (an a0<|an a0<|an (kbT (KY e) trivial)<|an (rfl:false=false)<|an (ac (cT (.tmp 62) (.tmp 64) ((aA e.to)++(⟨⟨[58]⟩⟩))<|dO (map gW<|List.take (length e.set) e.set)<|⟨⟨[44]⟩⟩)<|cA (g41 (map gW<|List.take (length e.set) e.set)<|⟨⟨[44]⟩⟩) (rngj fo)<|ac (cT (.tmp 61) (.const<|.string ⟨⟨[58]⟩⟩) (aA e.to)<|⟨⟨[58]⟩⟩) a0)<|sE<|show r40 e=_ from(cdT h0 rfl)))<|λh0=>have g0:=afT h0;
 (an (a1 a0)<|brP (λ(h1:(e.op==2)=true)=>have g1:=eq_of_beq h1;
 (an (ac (cT (.tmp 73) (.tmp 74) (((((⟨⟨[64]⟩⟩)++(aA e.n))++(⟨⟨[47]⟩⟩))++(aA e.level))++(⟨⟨[62]⟩⟩))<|aA e.to)<|ac (cT (.tmp 72) (.const<|.string ⟨⟨[62]⟩⟩) ((((⟨⟨[64]⟩⟩)++(aA e.n))++(⟨⟨[47]⟩⟩))++(aA e.level))<|⟨⟨[62]⟩⟩)<|ac (cT (.tmp 70) (.tmp 71) (((⟨⟨[64]⟩⟩)++(aA e.n))++(⟨⟨[47]⟩⟩))<|aA e.level)<|ac (cT (.tmp 69) (.const<|.string ⟨⟨[47]⟩⟩) ((⟨⟨[64]⟩⟩)++(aA e.n))<|⟨⟨[47]⟩⟩)<|ac (cT (.const<|.string ⟨⟨[64]⟩⟩) (.tmp 68) (⟨⟨[64]⟩⟩)<|aA e.n) a0)<|sE<|show r40 e=_ from(cdF h0<|cdT h1 rfl)))<|λh1=>have g1:=afT h1;
 (an (a1 a0)<|brP (λ(h2:(e.op==3)=true)=>have g2:=eq_of_beq h2;
 (an (ac (cT (.const<|.string ⟨⟨[63]⟩⟩) (.tmp 78) (⟨⟨[63]⟩⟩)<|aA e.to) a0)<|sE<|show r40 e=_ from(cdF h0<|cdF h1<|cdT h2 rfl)))<|λh2=>have g2:=afT h2;
 (an (a1 a0)<|brP (λ(h3:(e.op==4)=true)=>have g3:=eq_of_beq h3;
 (an (ac (cT (.tmp 84) (.tmp 85) (((⟨⟨[35]⟩⟩)++(aA e.n))++(⟨⟨[62]⟩⟩))<|aA e.to)<|ac (cT (.tmp 83) (.const<|.string ⟨⟨[62]⟩⟩) ((⟨⟨[35]⟩⟩)++(aA e.n))<|⟨⟨[62]⟩⟩)<|ac (cT (.const<|.string ⟨⟨[35]⟩⟩) (.tmp 82) (⟨⟨[35]⟩⟩)<|aA e.n) a0)<|sE<|show r40 e=_ from(cdF h0<|cdF h1<|cdF h2<|cdT h3 rfl)))<|λh3=>have g3:=afT h3;
 (an (a1 a0)<|brP (λ(h4:(e.op==5)=true)=>have g4:=eq_of_beq h4;
 (an (ac (cT (.tmp 94) (.tmp 95) (((((⟨⟨[43]⟩⟩)++(aA e.n))++(⟨⟨[47]⟩⟩))++(aA e.level))++(⟨⟨[62]⟩⟩))<|aA e.to)<|ac (cT (.tmp 93) (.const<|.string ⟨⟨[62]⟩⟩) ((((⟨⟨[43]⟩⟩)++(aA e.n))++(⟨⟨[47]⟩⟩))++(aA e.level))<|⟨⟨[62]⟩⟩)<|ac (cT (.tmp 91) (.tmp 92) (((⟨⟨[43]⟩⟩)++(aA e.n))++(⟨⟨[47]⟩⟩))<|aA e.level)<|ac (cT (.tmp 90) (.const<|.string ⟨⟨[47]⟩⟩) ((⟨⟨[43]⟩⟩)++(aA e.n))<|⟨⟨[47]⟩⟩)<|ac (cT (.const<|.string ⟨⟨[43]⟩⟩) (.tmp 89) (⟨⟨[43]⟩⟩)<|aA e.n) a0)<|sE<|show r40 e=_ from(cdF h0<|cdF h1<|cdF h2<|cdF h3<|cdT h4 rfl)))<|λh4=>have g4:=afT h4;
 (an (a1 a0)<|brP (λ(h5:(e.op==6)=true)=>have g5:=eq_of_beq h5;
 (an (ac (cT (.const<|.string ⟨⟨[61]⟩⟩) (.tmp 99) (⟨⟨[61]⟩⟩)<|aA e.to) a0)<|sE<|show r40 e=_ from(cdF h0<|cdF h1<|cdF h2<|cdF h3<|cdF h4<|cdT h5 rfl)))<|λh5=>have g5:=afT h5;
 (an (a1 a0)<|brP (λ(h6:(e.op==7)=true)=>have g6:=eq_of_beq h6;
 (an (ac (cT (.const<|.string ⟨⟨[33]⟩⟩) (.tmp 103) (⟨⟨[33]⟩⟩)<|aA e.to) a0)<|sE<|show r40 e=_ from(cdF h0<|cdF h1<|cdF h2<|cdF h3<|cdF h4<|cdF h5<|cdT h6 rfl)))<|λh6=>(an a0<|sE<|show r40 e=_ from(cdF h0<|cdF h1<|cdF h2<|cdF h3<|cdF h4<|cdF h5<|cdF h6 rfl))))))))) (hc:=(aK (.cons (g39 e.to) rfl<|.cons (g39 e.n) rfl<|.cons (g39 e.level) rfl<|.cons (g41 (map gW<|List.take (length e.set) e.set)<|⟨⟨[44]⟩⟩) rfl bB.nil) aC)) (hk:=(bc (l:=[(1,KY e)]) uO (aE (Og e fo) rfl aP) rfl))
structure bW(n:Net):Prop where
 types:n.types.length<=9223372036854775807
 eP:n.bp.length<=9223372036854775807
 bx:n.bx.length<=9223372036854775807
 rules:n.rules.length<=1000000
 aa:n.aa.length<=1000000
 ah: ∀s∈n.aa,s.ah.length<=1000000
 nE: ∀s∈n.aa,∀e∈s.ah,gh e
structure mP(n:Net):Prop where
 types:n.types.length<=9223372036854775807
 eP:n.bp.length<=9223372036854775807
 bx:n.bx.length<=9223372036854775807
 rules:n.rules.length<=1000000
theorem bW.h{n:Net}(h:bW n):mP n:=⟨h.types,h.eP,h.bx,h.rules⟩
section
variable(n:Net)(s:State)(i:Int)(e:Edge)
def i68:bC:=⟨68,[eM n,.ag (aj s),I i,.ag (aD e)],B (r68 n s i e),gh e/\(0<=State.aI s/\State.aI s<(length n.rules:Int))⟩
theorem g68:(i68 n s i e).bu pg:=λhp=>⟨adw n s i e hp.1 hp.2,by simp[i68,aq,AV.pure],rfl⟩
end
def KZ:Code:=bn 0 (aG 33)
def K0:Code:=bn 2 KZ
def aca:Code:=bn 4 K0
abbrev Sw(n:Net)(i0 i2 i4:Nat):Am.Loc:=[(1,.pf (aY n)),(3,I (i0:Int)),(4,.pt 0 0),(5,I (i2:Int)),(6,I (i4:Int))]
abbrev zh(i0:Nat)(n:Net):=(aj<|ae n.aa i0)
abbrev Sx(n:Net)(i0 i2 i4:Nat):lXE:=[.box 40 (zh i0 n)]
def rA(n:Net)(i0 i2 i4:Nat):Bool:=(((ae (ae n.aa i0).ah i2).op==4)&&((ae (ae n.aa i0).ah i4).n==(ae (ae n.aa i0).ah i2).n))
def vJ(n:Net)(i0 i2:Nat):Bool:=cz (i2) (rA n i0 i2)
abbrev Sy(n:Net)(i0 i2 i4:Nat):Am.Loc:=[(2,B false)]
abbrev Sz(n:Net)(i0 i2 i4:Nat):lXE:=[]
abbrev SA(n:Net)(i0 i2:Nat):Am.Loc:=(zCv i0 i2 n)
abbrev SB(n:Net)(i0 i2:Nat):lXE:=[.box 40 (zh i0 n)]
def Im(n:Net)(i0 i2:Nat):KB:=anK 4 (i2) (rA n i0 i2) (Sw n i0 i2) (Sx n i0 i2) .ret (Sy n i0 i2) (Sz n i0 i2) (.exit 4) (SA n i0 i2) (SB n i0 i2) (True)
abbrev K1(n:Net)(i0 i2 i4:Nat):List bG:=[htW (rA n i0 i2 i4) .ret (Sy n i0 i2 i4) zI (Sz n i0 i2 i4),nxW (rA n i0 i2 i4) (Sw n i0 i2<|i4+1) (Sx n i0 i2<|i4+1) (Sw n i0 i2<|i4+1) zAT (Sx n i0 i2<|i4+1)]
abbrev zi(i4:Nat):List Gi:=[.int ↑(i4+1),bT]
abbrev zAY(i0:Nat)(n:Net):=(decide<|(ae n.aa i0).aI>=(length (map aw n.rules):Int))
abbrev zCL(i0:Nat)(n:Net):=(decide<|(ae n.aa i0).aI<0)
section
variable(n:Net)
def SC(i0 i2:Nat)(hf:bW n)(hx0:i0<(length n.aa))(hp2:(zCL i0 n)=false/\(zAY i0 n)=false)(hx2:i2<(length (ae n.aa i0).ah)):ca pg 89 0 4 (.loop aca) (Im n i0 i2):=
 anB (K1 n i0 i2) (λi4=>(.r [.k,bT]<|.yes<|.a (.r (.row (aD<|ae (ae n.aa i0).ah i2)::.k::uTT 4 (.row (aD<|ae (ae n.aa i0).ah i4)::uTT 6 [.row (aD<|ae (ae n.aa i0).ah i2),bT,bT,bT,.k,bT]))<|.br zB<|.r (zi i4)<|.pick 1)<|.r (.row (aD<|ae (ae n.aa i0).ah i2)::.k::uFF 13 [bT])<|.r (zi i4)<|.pick 1)) (range 1) zF
 (λ_ i4(hx4:i4<i2)=>have hr:=hf.rules;have hs:=hf.aa;have he:=hf.ah _ (ai hx0);have hb:(decide<|(i4:Int)<(i2:Int))=true:=afH oaa;
 bq (an (a1 a0)<|an hb<|aO (λ(h1:((ae (ae n.aa i0).ah i2).op==4)=true)=>have g1:=eq_of_beq h1;
 (an (aN 4<|ac (rwa aD (ae n.aa i0).ah i2)<|aN 6<|ac (rwa aD (ae n.aa i0).ah i4)<|aN 3<|ac h1<|a1<|ac (rwa aD (ae n.aa i0).ah i2) a0)<|brP (λ(h2:((ae (ae n.aa i0).ah i4).n==(ae (ae n.aa i0).ah i2).n)=true)=>(an a0<|lf (wy (K1 n i0 i2 i4) 0) 1<|show rA n i0 i2 i4=true from(ay h1 h2)))<|λh2=>(an (ac (dwo ((i4+1:Nat):Int)) a0)<|lf (wy (K1 n i0 i2 i4) 1) 1 ⟨(show rA n i0 i2 i4=false from(ay h1 h2)),rfl,rfl⟩)))<|λh1=>have g1:=afT h1;
 (an (aN 12<|ac (ak h1)<|a1<|ac (rwa aD (ae n.aa i0).ah i2) a0)<|an (ac (dwo ((i4+1:Nat):Int)) a0)<|lf (wy (K1 n i0 i2 i4) 1) 1 ⟨(show rA n i0 i2 i4=false from(aT h1)),rfl,rfl⟩))
 oab)
 (λ_=>have hr:=hf.rules;have hs:=hf.aa;have hb:(decide<|(i2:Int)<(i2:Int))=false:=afI oaa;
 bq (an (a1 a0)<|an hb<|lx (.exit 4) (SA n i0 i2) (range 1) (SB n i0 i2) 1)
 oab)
abbrev SD(i0 i2:Nat):Am.Loc:=(zCv i0 i2 n)
abbrev SE(i0 i2:Nat):lXE:=[.box 40 (zh i0 n)]
def rB(i0 i2:Nat):Bool:=((!(r68 n (ae n.aa i0) (i0:Int)<|ae (ae n.aa i0).ah i2))||(vJ n i0 i2))
def kD(i0:Nat):Bool:=cz (length (ae n.aa i0).ah) (rB n i0)
end
abbrev SF(n:Net)(i0 i2:Nat):Am.Loc:=[(2,B false)]
abbrev SG(n:Net)(i0 i2:Nat):lXE:=[]
abbrev SH(n:Net)(i0:Nat):Am.Loc:=(zBk i0 n)
abbrev SJ(n:Net)(i0:Nat):lXE:=[.box 40 (zh i0 n)]
abbrev zE(n:Net):=(map aw n.rules)
abbrev zG(i0:Nat)(n:Net):=(ae n.aa i0).ah
abbrev zCe(i0:Nat)(n:Net):=(ae n.aa i0).aI
def Dc(n:Net)(i0:Nat):KB:=anK 2 (length<|zG i0 n) (rB n i0) (SD n i0) (SE n i0) .ret (SF n i0) (SG n i0) (.exit 2) (SH n i0) (SJ n i0) ((zCL i0 n)=false/\(decide<|(zCe i0 n)>=(length (zE n):Int))=false)
abbrev K3(n:Net)(i0 i2:Nat):List bG:=[htW (rB n i0 i2) .ret (SF n i0 i2) zI (SG n i0 i2),nxW (rB n i0 i2) (SD n i0<|i2+1) (SE n i0<|i2+1) (SD n i0<|i2+1) zAT (SE n i0<|i2+1)]
def Dd:cy [4] K0=[(4,.loop aca)]:=by kernel_rfl
abbrev zl(i0:Nat)(n:Net):=(decide<|(((length (ae n.aa i0).ah):Nat):Int)<(length (map aD (ae n.aa i0).ah):Int))
abbrev zAe(i0 i2:Nat)(n:Net):=(decide<|(i2:Int)<(length (map aD (ae n.aa i0).ah):Int))
def SM(n:Net)(i0:Nat)(hf:bW n)(hx0:i0<(length n.aa)):ca pg 89 0 2 (.loop K0) (Dc n i0):=
 anB (K3 n i0) (λi2=>(.r [.k,bT]<|.yes<|.r [.row (aD<|ae (ae n.aa i0).ah i2),.int 0,bT]<|.br zB<|.r [bT]<|.br (.pick 0)<|.r (zb i2)<|.pick 1)) (range 1) zF
 (λ(hp2:(zCL i0 n)=false/\(zAY i0 n)=false) i2(hx2:i2<(length (ae n.aa i0).ah))=>have hr:=hf.rules;have hs:=hf.aa;have gp0:=afE hp2.1;have gp1:=afE hp2.2;have lp1:=aF aw (n.rules);have he:=hf.ah _ (ai hx0);have l1:=aF aD ((ae n.aa i0).ah);have hb:(zAe i0 i2 n)=true:=afH oaa;
 bq (an (a1 a0)<|an hb<|an (cA (g68 n (ae n.aa i0) (i0:Int)<|ae (ae n.aa i0).ah i2) ⟨hf.nE _ (ai hx0) _ (ai hx2),(show 0<=State.aI (ae n.aa i0)/\State.aI (ae n.aa i0)<(length n.rules:Int) by omega)⟩<|ac (rwa aD (ae n.aa i0).ah i2) a0)<|brP (λ(h1:(!(r68 n (ae n.aa i0) (i0:Int)<|ae (ae n.aa i0).ah i2))=true)=>(an a0<|lf (wy (K3 n i0 i2) 0) 1<|show rB n i0 i2=true from(orT h1)))<|λh1=>(an a0<|an (kbT (Im n i0 i2) trivial)<|brP (λ(h2:(vJ n i0 i2)=true)=>(lf (wy (K3 n i0 i2) 0) 0<|show rB n i0 i2=true from(orF h1 h2)))<|λh2=>(an (ac (dwo ((i2+1:Nat):Int)) a0)<|lf (wy (K3 n i0 i2) 1) 1 ⟨(show rB n i0 i2=false from(orF h1 h2)),rfl,rfl⟩)))
 oab)
 (λ(hp2:(zCL i0 n)=false/\(zAY i0 n)=false)=>have hr:=hf.rules;have hs:=hf.aa;have gp0:=afE hp2.1;have gp1:=afE hp2.2;have lp1:=aF aw (n.rules);have l1:=aF aD ((ae n.aa i0).ah);have hb:(zl i0 n)=false:=afI oaa;
 bq (an (a1 a0)<|an hb<|lx (.exit 2) (SH n i0) (range 1) (SJ n i0) 1)
 oab) (hc:=λhp2 i2 hx2=>(aK (.cons (g68 n (ae n.aa i0) (i0:Int)<|ae (ae n.aa i0).ah i2) rfl bB.nil) aC)) (hk:=λhp2 i2 hx2=>(bc (l:=[(4,Im n i0 i2)]) Dd (aE (SC n i0 i2 hf hx0 hp2 hx2) rfl aP) rfl))
abbrev SN(n:Net)(i0:Nat):Am.Loc:=(zBk i0 n)
abbrev SP(n:Net)(i0:Nat):lXE:=[]
def nF(n:Net)(i0:Nat):Bool:=((decide<|(ae n.aa i0).aI<0)||((decide<|(ae n.aa i0).aI>=(length (map aw n.rules):Int))||(bif (length (map aD (ae n.aa i0).ah):Int)==0 then(((i0:Int) !=(aB n.rules (ae n.aa i0).aI).stop)||(kD n i0))else(kD n i0))))
def De(n:Net):Bool:=cz (length n.aa) (nF n)
abbrev SQ(n:Net)(i0:Nat):Am.Loc:=[(2,B false)]
abbrev SS(n:Net)(i0:Nat):lXE:=[]
abbrev SU(n:Net):Am.Loc:=[]
abbrev SV(n:Net):lXE:=[]
def Io(n:Net):KB:=anK 0 (length n.aa) (nF n) (SN n) (SP n) .ret (SQ n) (SS n) (.exit 0) (SU n) (SV n) (True)
abbrev ue(n:Net)(i0:Nat):List bG:=[htW (nF n i0) .ret (SQ n i0) zI (SS n i0),nxW (nF n i0) (SN n<|i0+1) (SP n<|i0+1) (SN n<|i0+1) zI (SP n<|i0+1)]
def Df:cy [2] KZ=[(2,.loop K0)]:=by kernel_rfl
abbrev zQ(n:Net):=(decide<|(((length n.aa):Nat):Int)<(length (map aj n.aa):Int))
abbrev zq(i0:Nat)(n:Net):=(decide<|(i0:Int)<(length (map aj n.aa):Int))
abbrev zCo(i0:Nat)(n:Net):List Gi:=[.row (aj<|ae n.aa i0),bT]
def SW(n:Net)(hf:bW n):ca pg 89 0 0 (.loop KZ) (Io n):=
 anB (ue n) (λi0=>(.r [.k,bT]<|.yes<|.r (zCo i0 n)<|.a (.r zJ zB)<|.r zAC<|.br zB<|.a (.r (.k::uTT 6 [.cq ((ae n.aa i0).aI).toNat (aw<|aB n.rules (ae n.aa i0).aI),bT,bT,bT,.k,bT])<|.br zB<|zAu i0)<|.r (.k::uFF 9 [bT])<|zAu i0)) (range 0) zF
 (λ_ i0(hx0:i0<(length n.aa))=>have hr:=hf.rules;have hs:=hf.aa;have l1:=aF aj (n.aa);have hb:(zq i0 n)=true:=afH oaa;
 bq (an (a1 a0)<|an hb<|an (ac (rwa aj n.aa i0) a0)<|aO (λ(h1:(zCL i0 n)=true)=>(an (aN 5<|ac (n2 h1)<|a1 a0)<|an a0<|lf (wy (ue n i0) 0) 1<|show nF n i0=true from(orT h1)))<|λh1=>have q0:=(orF h1 rfl:nF n i0=_);have g1:=afE h1;
 (an (aN 6<|ac (ak h1)<|a1 a0)<|brP (λ(h2:(zAY i0 n)=true)=>(an a0<|lf (wy (ue n i0) 0) 1<|q0.trans<|orT h2))<|λh2=>have q1:=q0.trans (orF h2 rfl);have l2:=aF aw (n.rules);have g2:=afE h2;
 (aO (λ(h3:((length (map aD (ae n.aa i0).ah):Int)==0)=true)=>have q2:=q1.trans (cdT h3 rfl);have l3:=aF aD ((ae n.aa i0).ah);have g3:=eq_of_beq h3;
 (an (aN 4<|ac (rwz aw n.rules (ae n.aa i0).aI)<|aN 5<|ac h3<|a1 a0)<|brP (λ(h4:((i0:Int) !=(aB n.rules (ae n.aa i0).aI).stop)=true)=>(an a0<|lf (wy (ue n i0) 0) 1<|q2.trans<|orT h4))<|λh4=>have q4:=q2.trans (orF h4 rfl);
 (an a0<|an (kbT (Dc n i0) ⟨h1,h2⟩)<|brP (λ(h5:(kD n i0)=true)=>(lf (wy (ue n i0) 0) 0<|q4.trans h5))<|λh5=>(an (ac (dwo ((i0+1:Nat):Int)) a0)<|lf (wy (ue n i0) 1) 1 ⟨(q4.trans h5),rfl,rfl⟩))))<|λh3=>have q3:=q1.trans (cdF h3 rfl);have l3:=aF aD ((ae n.aa i0).ah);have g3:=afT h3;
 (an (aN 8<|ac (ak h3)<|a1 a0)<|an a0<|an (kbT (Dc n i0) ⟨h1,h2⟩)<|brP (λ(h4:(kD n i0)=true)=>(lf (wy (ue n i0) 0) 0<|q3.trans h4))<|λh4=>(an (ac (dwo ((i0+1:Nat):Int)) a0)<|lf (wy (ue n i0) 1) 1 ⟨(q3.trans h4),rfl,rfl⟩)))))
 oab)
 (λ_=>have hr:=hf.rules;have hs:=hf.aa;have l1:=aF aj (n.aa);have hb:(zQ n)=false:=afI oaa;
 bq (an (a1 a0)<|an hb<|lx (.exit 0) (SU n) (range 0) (SV n) 0)
 oab) (hk:=λ_ i0 hx0=>(bc (l:=[(2,Dc n i0)]) Df (aE (SM n i0 hf hx0) rfl aP) rfl))
def r33(n:Net):Bool:=(!(De n))
def uP:cy [0] (aG 33)=[(0,.loop KZ)]:=by kernel_rfl
def SX(n:Net)(hf:bW n):aQ pg 33 [.ag (aY n)] [] [] (B<|r33 n) []:=
 aV 33 zBS
 (an a0<|an a0<|an (kbT (Io n) trivial)<|brP (λ(h0:(De n)=true)=>(bE<|show r33 n=false from(bQ h0)))<|λh0=>(an a0<|bE<|show r33 n=true from(ak h0))) (hk:=(bc (l:=[(0,Io n)]) uP (aE (SW n hf) rfl aP) rfl))
def acb:Code:=bn 0 (aG 60)
def SY(l:lXD)(i0:Nat)(y0:lXD):lXD:=y0++ [(ae l i0)]
def gz(l:lXD)(kk:Nat):lXD:=Nat.rec (motive:=λ_=>lXD) ([]) (λj a=>SY l j a) kk
abbrev adz(l:lXD)(i0:Nat)(y0:lXD):lXE:=[NL y0]
section
variable(l:lXD)(i0:Nat)
abbrev acd:Am.Loc:=[(3,.mp 0),(7,.sl 1 (zCc l)),(8,I (length (zCc l):Int)),(9,I (i0:Int))]
abbrev SZ:lXE:=adz l i0 (gz l i0)
def xW:Bool:=((cp (Array.toList<|ByteArray.data<|ae l i0) [])||((decide<|(ByteArray.size (ae l i0):Int)>40)||(dec<|(ae l i0)∈(gz l i0))))
end
def Dg(l:lXD):Bool:=cz (length l) (xW l)
abbrev S0(l:lXD)(i0:Nat):Am.Loc:=[(2,B false)]
abbrev S1(l:lXD)(i0:Nat):lXE:=[]
abbrev S3(l:lXD):Am.Loc:=[]
section
variable(l:lXD)
abbrev S4:lXE:=[NL (gz l<|length l)]
def Ip:KB:=anK 0 (length l) (xW l) (acd l) (SZ l) .ret (S0 l) (S1 l) (.exit 0) (S3 l) (S4 l) (True)
abbrev F7(i0:Nat):List bG:=[htW (xW l i0) .ret (S0 l i0) zI (S1 l i0),nxW (xW l i0) (acd l<|i0+1) (SZ l<|i0+1) [(3,.mp 0),(7,.sl 1 (zCc l)),(8,I (length (zCc l):Int)),(9,I ↑(i0+1))] zAT [.mp (map Value.string (gz l i0)++ [.string (ae l i0)]) (map tru (gz l i0)++ [.v (.bool true)])]]
theorem S5(ls:length l<=9223372036854775807):ca pg 28 0 0 (.loop acb) (Ip l):=
 anB (F7 l) (λi0=>(.r [.k,bT]<|.yes<|.r [.row (aU<|ae l i0),bT]<|.a (.r zJ zB)<|.a (.r zCu zB)<|.r [.k,bT,bT,bT,.k,bT,bT,bT,.key (kQ (gz l i0)<|ae l i0) (B<|dec<|(ae l i0)∈(gz l i0)),bT]<|.br zB<|.r [.key none .any,bT]<|zC i0)) (range 1) zF
 (λ_ i0(hx0:i0<(length l))=>have l1:=aF aU (l);have hb:(decide<|(i0:Int)<(length (map aU l):Int))=true:=afH oaa;
 bq (an (a1 a0)<|an hb<|an (ac (rwa aU l i0) a0)<|aO (λ(h1:(cp (Array.toList<|ByteArray.data<|ae l i0) [])=true)=>(an (aN 5<|ac (n2 h1)<|a1 a0)<|an a0<|lf (wy (F7 l i0) 0) 1<|show xW l i0=true from(orT h1)))<|λh1=>have q0:=(orF h1 rfl:xW l i0=_);have g1:=size_pos h1;
 (aO (λ(h2:(decide<|(ByteArray.size (ae l i0):Int)>40)=true)=>(an (aN 2<|ac (n2 h2)<|aN 3<|ac (ak h1)<|a1 a0)<|an a0<|lf (wy (F7 l i0) 0) 1<|q0.trans<|orT h2))<|λh2=>have q1:=q0.trans (orF h2 rfl);have g2:=afE h2;
 (an (ac (lkS (ae l i0)<|gz l i0)<|aN 2<|ac (ak h2)<|aN 3<|ac (ak h1)<|a1 a0)<|brP (λ(h3:(dec<|(ae l i0)∈(gz l i0))=true)=>(an a0<|lf (wy (F7 l i0) 0) 1<|q1.trans h3))<|λh3=>(an (ac (nwS h3) a0)<|an (ac (dwo ((i0+1:Nat):Int)) a0)<|lf (wy (F7 l i0) 1) 1 ⟨(q1.trans h3),rfl,(by rw[show SZ l (i0+1)=(λy0:lXD=>([NL y0]:lXE)) (gz l<|i0+1)from rfl,(show gz l (i0+1)=((gz l i0)++ [(ae l i0)])from rfl),(QB (ae l i0)<|gz l i0)])⟩))))
 oab)
 (λ_=>have l1:=aF aU (l);have hb:(zDc l)=false:=afI oaa;
 bq (an (a1 a0)<|an hb<|lx (.exit 0) (S3 l) (range 1) (S4 l) 1)
 oab)
def r60:Bool:=(!(Dg l))
end
def uQ:cy [0] (aG 60)=[(0,.loop acb)]:=by kernel_rfl
section
variable(l:lXD)
theorem F8(ls:length l<=9223372036854775807):aQ pg 60 [.sl 1 (zCc l)] [] [] (B<|r60 l) []:=
 aV 60 (.r [bT] zBS)
 (an a0<|an a0<|an a0<|an (kbT (Ip l) trivial)<|brP (λ(h0:(Dg l)=true)=>(bE<|show r60 l=false from(bQ h0)))<|λh0=>(an a0<|bE<|show r60 l=true from(ak h0))) (hk:=(bc (l:=[(0,Ip l)]) uQ (aE (S5 l ls) rfl aP) rfl))
def i60:bC:=⟨60,[.sl 1 (l.map aU)],B (r60 l),l.length<=9223372036854775807⟩
def g60:(i60 l).bu pg:=bI λhp=>F8 l hp
def i60d:bC:=⟨60,[.sl 1 (List.take ((zCc l).length-1)<|List.drop 1<|zCc l)],B (r60<|l.drop 1),l.length<=9223372036854775807⟩
theorem g60d:(i60d l).bu pg:=λhp=>by
 have e:List.take ((map aU l).length-1) (List.drop 1<|map aU l)=map aU (l.drop 1):=by grind[List.map_drop,agd]
 have hp:l.length<=9223372036854775807:=hp;grind[i60d,F8,aq,AV.pure,adh]
def r61:Bool:=((decide<|(length (map aU l):Int)>0)&&((decide<|(length (map aU l):Int)<=20)&&((cp (Array.toList<|ByteArray.data<|ae l 0) [])&&r60 (List.drop 1 l))))
def aas(ls:length l<=9223372036854775807):aQ pg 61 [.sl 1 (zCc l)] [] [] (B<|r61 l) []:=
 aV 61 (.r [bT]<|.a (.a (.a (.r [.k,bT,bT,bT,.k,bT,bT,.row (aU<|ae l 0),bT,bT,.k,bT,bT,bT,.int 0,bT] .nil)<|.r [.k,bT,bT,bT,.k,bT,bT,.row (aU<|ae l 0),bT,bT,.k,bF,bF,bF,bT] .nil) zDI)<|.r zBh .nil)
 (an a0<|aO (λ(h0:(decide<|(length (map aU l):Int)>0)=true)=>have l1:=aF aU (l);have g0:=afL h0;
 (aO (λ(h1:(decide<|(length (map aU l):Int)<=20)=true)=>have g1:=afL h1;
 (aO (λ(h2:(cp (Array.toList<|ByteArray.data<|ae l 0) [])=true)=>(an (cA (g60d l) ls<|a1<|ac (slo 1 (length<|map aU l)<|length<|map aU l)<|a1<|ac h2<|aN 3<|ac (rwa aU l 0)<|a1<|ac h1<|aN 3<|ac h0<|a1 a0)<|bE<|show r61 l=(r60<|List.drop 1 l)from(ay h0<|ay h1<|ay h2 rfl)))<|λh2=>have g2:=size_pos h2;
 (an (aN 2<|ac (ak h2)<|aN 3<|ac (rwa aU l 0)<|a1<|ac h1<|aN 3<|ac h0<|a1 a0)<|bE<|show r61 l=false from(ay h0<|ay h1<|aT h2))))<|λh1=>(an (aN 6<|ac (ak h1)<|aN 3<|ac h0<|a1 a0)<|bE<|show r61 l=false from(ay h0<|aT h1))))<|λh0=>(an (aN 9<|ac (ak h0)<|a1 a0)<|bE<|show r61 l=false from(aT h0))) (hc:=(aK (.cons (g60d l) rfl bB.nil) aC))
def i61:bC:=⟨61,[.sl 1 (l.map aU)],B (r61 l),l.length<=9223372036854775807⟩
def g61:(i61 l).bu pg:=bI λhp=>aas l hp
end
@[simp] theorem S6(l:List bJ):aM (map (aU∘bJ.name) l)=true:=aW (λ_=>rfl) l
@[simp] theorem aft(l:List bJ)(i j:Nat):aM (List.take i<|List.take j<|map (aU∘bJ.name) l)=true:=fQ _ (fQ _<|S6 l)
def iO{n:Net}{i:Nat}(h:i<n.rules.length):List.take i (map aU<|map bJ.name<|List.take i n.rules)++ [aU (ae n.rules i).name]=map aU (map bJ.name<|List.take (i+1) n.rules):=by grind[agd,fg]
def S7:Code:=bn 0 (aG 31)
abbrev K4(n:Net)(i0:Nat):Am.Loc:=[(1,.pf (aY n)),(3,.sr 0 1 0 i0),(4,I (i0:Int))]
abbrev zCA(i0:Nat)(n:Net):=(map aU<|map bJ.name<|List.take i0 n.rules)
abbrev ace(n:Net)(i0:Nat):lXE:=[.row 9 1 (zCA i0 n)]
def xX(n:Net)(i0:Nat):Bool:=((ae n.rules i0).bR&&((decide<|(i0:Int)>0)&&(!(ae n.rules<|i0-1).bR)))
def vK(n:Net):Bool:=cz (length n.rules) (xX n)
abbrev S8(n:Net)(i0:Nat):Am.Loc:=[(2,B false)]
abbrev S9(n:Net)(i0:Nat):lXE:=[]
section
variable(n:Net)
abbrev Iq:Am.Loc:=[(1,.pf (aY n)),(3,.sr 0 1 0 (length n.rules))]
abbrev zAs:=(map aU<|map bJ.name<|List.take (length n.rules) n.rules)
abbrev Ta:lXE:=[.row 9 1 (zAs n)]
def iP:KB:=anK 0 (length n.rules) (xX n) (K4 n) (ace n) .ret (S8 n) (S9 n) (.exit 0) (Iq n) (Ta n) (True)
abbrev F9(i0:Nat):List bG:=[htW (xX n i0) .ret (S8 n i0) zI (S9 n i0),nxW (xX n i0) (K4 n<|i0+1) (ace n<|i0+1) [(1,.pf (aY n)),(3,.sr 0 1 0 (i0+1)),(4,I ↑(i0+1))] [1] [.row 9 1 ((List.take i0<|zCA i0 n)++ [(aU (ae n.rules i0).name)])]]
def Tc(hf:mP n):ca pg 98 0 0 (.loop S7) (iP n):=
 anB (F9 n) (λi0=>(.r [.k,bT]<|.yes<|.r (zCV i0 n)<|.a (.a (.r (.row (aw<|ae n.rules i0)::bT::bT::.k::uTT 4 (.int ((i0-1:Nat):Int)::bT::.row (aw<|ae n.rules<|i0-1)::uTT 4 []))<|.br zB<|zC i0)<|.r (.row (aw<|ae n.rules i0)::bT::bT::.k::uFF 8 [bT])<|zC i0)<|.r (.row (aw<|ae n.rules i0)::uFF 10 [bT])<|zC i0)) (range 1) zF
 (λ_ i0(hx0:i0<(length n.rules))=>have hr:=hf.rules;have hlen:length (map aU<|map bJ.name<|List.take i0 n.rules)=min i0 (length n.rules):=oaf;have l1:=aF aw (n.rules);have hb:(zAH i0 n)=true:=afH oaa;
 bq (an (a1 a0)<|an hb<|an (ac (apA (k:=i0) (l:=length<|map aU<|map bJ.name<|List.take i0 n.rules) (n:=1) (B:=16) oaa oaa oaa)<|ac (rwa aw n.rules i0) a0)<|aO (λ(h1:((ae n.rules i0).bR)=true)=>have q0:=(ay h1 rfl:xX n i0=_);
 (aO (λ(h2:(zDf i0)=true)=>have q1:=q0.trans (ay h2 rfl);have g2:=afL h2;
 (an (aN 3<|ac (rwa aw n.rules<|i0-1)<|a1<|ac (dso i0)<|aN 3<|ac h2<|aN 2<|ac h1<|ac (rwa aw n.rules i0) a0)<|brP (λ(h3:(!(ae n.rules<|i0-1).bR)=true)=>(an a0<|lf (wy (F9 n i0) 0) 2<|q1.trans h3))<|λh3=>(an (ac (dwo ((i0+1:Nat):Int)) a0)<|lf (wy (F9 n i0) 1) 2 ⟨(q1.trans h3),rfl,afQ (λz=>([.row 9 1 z]:lXE)) (iO hx0)⟩)))<|λh2=>have g2:=afE h2;
 (an (aN 7<|ac (ak h2)<|aN 2<|ac h1<|ac (rwa aw n.rules i0) a0)<|an (ac (dwo ((i0+1:Nat):Int)) a0)<|lf (wy (F9 n i0) 1) 2 ⟨(q0.trans<|aT h2),rfl,afQ (λz=>([.row 9 1 z]:lXE)) (iO hx0)⟩)))<|λh1=>(an (aN 9<|ac (ak h1)<|ac (rwa aw n.rules i0) a0)<|an (ac (dwo ((i0+1:Nat):Int)) a0)<|lf (wy (F9 n i0) 1) 2 ⟨(show xX n i0=false from(aT h1)),rfl,afQ (λz=>([.row 9 1 z]:lXE)) (iO hx0)⟩))
 oab)
 (λ_=>have hr:=hf.rules;have l1:=aF aw (n.rules);have hb:(zP n)=false:=afI oaa;
 bq (an (a1 a0)<|an hb<|lx (.exit 0) (Iq n) (range 1) (Ta n) 1)
 oab)
theorem Oh(hf:mP n):ca pg 98 0 0 (.loop S7) ⟨[(1,.pf (aY n)),(3,.v (.slice none 0 0)),(4,I 0)],[],(iP n).hit,(iP n).x1,(iP n).L1,(iP n).ob1,(iP n).x2,[(1,.pf (aY n)),(3,.sl 1 (map aU<|map bJ.name<|List.take (length n.rules) n.rules))],[],(iP n).p⟩:=
 have hr:=hf.rules;iK (Tc n hf) (sN (L:=[(1,.pf (aY n)),(3,.v (.slice none 0 0)),(4,I 0)]) (L':=K4 n 0) (ob:=[]) (T:=9) (S:=1) (λa av e=>by
  simp only[K4,cH]at e;split at e
  ·rename_i h;subst h;exact .inl oaw
  ·split at e
   ·rename_i h;subst h;exact .inr ⟨rfl,(agH e).symm⟩
   ·split at e
    ·rename_i h;subst h;exact .inl oaw
    ·simp[lk]at e)) (dF.refl _ _) rfl (sO (L:=Iq n) (L':=[(1,.pf (aY n)),(3,.sl 1 (map aU<|map bJ.name<|List.take (length n.rules) n.rules))]) (ob:=[]) (k:=length n.rules) (T:=9) (rows:=(map aU<|map bJ.name<|List.take (length n.rules) n.rules)) oaf (af7 _) (λa av e=>by
  simp only[cH]at e;split at e
  ·rename_i h;subst h;exact .inl ⟨by rw[<-e];rfl,by rw[<-agH e];simp[AV.und,bw fY,bA]⟩
  ·split at e
   ·rename_i h;subst h;exact .inr ⟨rfl,(agH e).symm,by simp only[AV.und];exact bw fY _ _⟩
   ·simp[lk]at e) rfl) rfl
def K5:KB:=⟨[(1,.pf (aY n)),(3,.v (.slice none 0 0)),(4,I 0)],[],(iP n).hit,(iP n).x1,(iP n).L1,(iP n).ob1,(iP n).x2,[(1,.pf (aY n)),(3,.sl 1 (zAs n))],[],(iP n).p⟩
def r31:Bool:=(!(decide<|(length (map aU n.types):Int)>200)&&(!(decide<|(length (map aU n.bp):Int)<1)&&(!(decide<|(length (map aU n.bp):Int)>20)&&(!(decide<|(length (map aU n.bx):Int)<1)&&(!(decide<|(length (map aU n.bx):Int)>20)&&(!(decide<|(length (map aw n.rules):Int)>100)&&(!(decide<|(length (map aj n.aa):Int)>4000)&&(!(vK n)&&((r66 n.types false)&&((r66 n.bp true)&&((r66 n.bx true)&&r66 (map bJ.name<|List.take (length n.rules) n.rules) false)))))))))))
end
def uR:cy [0] (aG 31)=[(0,.loop S7)]:=by kernel_rfl
theorem K6(n:Net)(hf:mP n):aQ pg 31 [.ag (aY n)] [] [] (B<|r31 n) []:=
 have hr:=hf.rules;aV 31 (.r [bT]<|.a (.r (.k::uFF 24 [bT]) zD)<|.a (.r (.k::uTT 4 (.k::uFF 20 [bT])) zD)<|.a (.r (.k::uTT 4 (.k::uTT 4 (.k::uFF 16 [bT]))) zD)<|.a (.r (.k::uTT 4 (.k::uTT 4 (.k::uTT 4 (.k::uFF 12 [bT])))) zD)<|.a (.r (.k::uTT 4 (.k::uTT 4 (.k::uTT 4 (.k::uTT 4 (.k::uFF 8 [bT]))))) zD)<|.a (.r (.k::uTT 4 (.k::uTT 4 (.k::uTT 4 (.k::uTT 4 (.k::uTT 4 (.k::uFF 4 [bT])))))) zD)<|.r (.k::uTT 4 (.k::uTT 4 (.k::uTT 4 (.k::uTT 4 (.k::uTT 4 (.k::uTT 4 [.k,bT]))))))<|.br zD<|.r [bT]<|.r [bT]<|.br .nil<|.a (.a (.a (.r [.int 0,bT,bT,bT,.int 1,bT,bT,bT,.int 2,bT,bT,.int 3,bT] .nil)<|.r [.int 0,bT,bT,bT,.int 1,bT,bT,bT,.int 2,bF,bF,bT] .nil)<|.r (.int 0::bT::bT::bT::.int 1::uFF 5 [bT]) .nil)<|.r (.int 0::uFF 8 [bT]) .nil)
 (an a0<|aO (λ(h0:(decide<|(length (map aU n.types):Int)>200)=true)=>(an (aN 23<|ac (n2 h0)<|a1 a0)<|an a0<|bE<|show r31 n=false from(aT<|bQ h0)))<|λh0=>have q0:=(ay (ak h0) rfl:r31 n=_);have l1:=aF aU (n.types);have g0:=afE h0;
 (aO (λ(h1:(decide<|(length (map aU n.bp):Int)<1)=true)=>(an (aN 19<|ac (n2 h1)<|aN 4<|ac (ak h0)<|a1 a0)<|an a0<|bE<|q0.trans<|aT<|bQ h1))<|λh1=>have q1:=q0.trans (ay (ak h1) rfl);have l2:=aF aU (n.bp);have g1:=afE h1;
 (aO (λ(h2:(decide<|(length (map aU n.bp):Int)>20)=true)=>(an (aN 15<|ac (n2 h2)<|aN 4<|ac (ak h1)<|aN 4<|ac (ak h0)<|a1 a0)<|an a0<|bE<|q1.trans<|aT<|bQ h2))<|λh2=>have q2:=q1.trans (ay (ak h2) rfl);have g2:=afE h2;
 (aO (λ(h3:(decide<|(length (map aU n.bx):Int)<1)=true)=>(an (aN 11<|ac (n2 h3)<|aN 4<|ac (ak h2)<|aN 4<|ac (ak h1)<|aN 4<|ac (ak h0)<|a1 a0)<|an a0<|bE<|q2.trans<|aT<|bQ h3))<|λh3=>have q3:=q2.trans (ay (ak h3) rfl);have l3:=aF aU (n.bx);have g3:=afE h3;
 (aO (λ(h4:(decide<|(length (map aU n.bx):Int)>20)=true)=>(an (aN 7<|ac (n2 h4)<|aN 4<|ac (ak h3)<|aN 4<|ac (ak h2)<|aN 4<|ac (ak h1)<|aN 4<|ac (ak h0)<|a1 a0)<|an a0<|bE<|q3.trans<|aT<|bQ h4))<|λh4=>have q4:=q3.trans (ay (ak h4) rfl);have g4:=afE h4;
 (aO (λ(h5:(decide<|(length (map aw n.rules):Int)>100)=true)=>(an (aN 3<|ac (n2 h5)<|aN 4<|ac (ak h4)<|aN 4<|ac (ak h3)<|aN 4<|ac (ak h2)<|aN 4<|ac (ak h1)<|aN 4<|ac (ak h0)<|a1 a0)<|an a0<|bE<|q4.trans<|aT<|bQ h5))<|λh5=>have q5:=q4.trans (ay (ak h5) rfl);have l4:=aF aw (n.rules);have g5:=afE h5;
 (an (aN 4<|ac (ak h5)<|aN 4<|ac (ak h4)<|aN 4<|ac (ak h3)<|aN 4<|ac (ak h2)<|aN 4<|ac (ak h1)<|aN 4<|ac (ak h0)<|a1 a0)<|brP (λ(h6:(decide<|(length (map aj n.aa):Int)>4000)=true)=>(an a0<|bE<|q5.trans<|aT<|bQ h6))<|λh6=>have q6:=q5.trans (ay (ak h6) rfl);have l5:=aF aj (n.aa);have g6:=afE h6;
 (an a0<|an a0<|an (kbT (K5 n) trivial)<|brP (λ(h7:(vK n)=true)=>(bE<|q6.trans<|aT<|bQ h7))<|λh7=>have q7:=q6.trans (ay (ak h7) rfl);
 (aO (λ(h8:(r66 n.types false)=true)=>have q8:=q7.trans (ay h8 rfl);
 (aO (λ(h9:(r66 n.bp true)=true)=>(aO (λ(h10:(r66 n.bx true)=true)=>(an (cA (g66 (map bJ.name<|List.take (length n.rules) n.rules) false) (show length (map bJ.name<|List.take (length n.rules) n.rules)<=9223372036854775807 by simp;have:=hf.rules;omega)<|a1<|ac h10<|cA (g66 n.bx true) hf.bx<|aN 2<|ac h9<|cA (g66 n.bp true) hf.eP<|aN 2<|ac h8<|cA (g66 n.types false) hf.types a0)<|bE<|show r31 n=(r66 (map bJ.name<|List.take (length n.rules) n.rules) false)from(ay (ak h0)<|ay (ak h1)<|ay (ak h2)<|ay (ak h3)<|ay (ak h4)<|ay (ak h5)<|ay (ak h6)<|ay (ak h7)<|ay h8<|ay h9<|ay h10 rfl)))<|λh10=>(an (a1<|ac (ak h10)<|cA (g66 n.bx true) hf.bx<|aN 2<|ac h9<|cA (g66 n.bp true) hf.eP<|aN 2<|ac h8<|cA (g66 n.types false) hf.types a0)<|bE<|q8.trans<|ay h9<|aT h10)))<|λh9=>(an (aN 4<|ac (ak h9)<|cA (g66 n.bp true) hf.eP<|aN 2<|ac h8<|cA (g66 n.types false) hf.types a0)<|bE<|q8.trans<|aT h9)))<|λh8=>(an (aN 7<|ac (ak h8)<|cA (g66 n.types false) hf.types a0)<|bE<|q7.trans<|aT h8)))))))))) (hc:=(aK (.cons (g66 n.types false) rfl<|.cons (g66 n.bp true) rfl<|.cons (g66 n.bx true) rfl<|.cons (g66 (map bJ.name<|List.take (length n.rules) n.rules) false) rfl bB.nil) aC)) (hk:=(bc (l:=[(0,K5 n)]) uR (aE (Oh n hf) rfl aP) rfl))
def Td:Code:=bn 0 (aG 26)
section
variable(n:Net)(i0:Nat)
abbrev K7:Am.Loc:=[(0,.pf (aY n)),(3,.sr 0 1 0 i0),(9,.sl 9 (zE n)),(10,I (length (zE n):Int)),(11,I (i0:Int))]
abbrev acf:lXE:=[.row 9 1 (zCA i0 n)]
def xY:Bool:=((decide<|(i0:Int)>0)&&((ae n.rules i0).bR&&(!(ae n.rules<|i0-1).bR)))
end
def vL(n:Net):Bool:=cz (length n.rules) (xY n)
abbrev Te(n:Net)(i0:Nat):Am.Loc:=[(2,B false)]
abbrev Tf(n:Net)(i0:Nat):lXE:=[]
section
variable(n:Net)
abbrev Ir:Am.Loc:=[(0,.pf (aY n)),(3,.sr 0 1 0 (length n.rules))]
abbrev Tg:lXE:=[.row 9 1 (zAs n)]
def iQ:KB:=anK 0 (length n.rules) (xY n) (K7 n) (acf n) .ret (Te n) (Tf n) (.exit 0) (Ir n) (Tg n) (True)
abbrev Ga(i0:Nat):List bG:=[htW (xY n i0) .ret (Te n i0) zI (Tf n i0),nxW (xY n i0) (K7 n<|i0+1) (acf n<|i0+1) [(0,.pf (aY n)),(3,.sr 0 1 0 (i0+1)),(9,.sl 9 (zE n)),(10,I (length (zE n):Int)),(11,I ↑(i0+1))] [2] [.row 9 1 ((List.take i0<|zCA i0 n)++ [(aU (ae n.rules i0).name)])]]
def Th(hf:mP n):ca pg 87 0 0 (.loop Td) (iQ n):=
 anB (Ga n) (λi0=>(.r [.k,bT]<|.yes<|.r (zCV i0 n)<|.r [bT]<|.a (.a (.r (.k::uTT 8 (.int ((i0-1:Nat):Int)::bT::.row (aw<|ae n.rules<|i0-1)::uTT 4 []))<|.br zB<|zC i0)<|.r (.k::bT::bT::uFF 10 [bT])<|zC i0)<|.r zCK<|zC i0)) (range 1) zF
 (λ_ i0(hx0:i0<(length n.rules))=>have hr:=hf.rules;have hlen:length (map aU<|map bJ.name<|List.take i0 n.rules)=min i0 (length n.rules):=oaf;have l1:=aF aw (n.rules);have hb:(zAH i0 n)=true:=afH oaa;
 bq (an (a1 a0)<|an hb<|an (ac (rwa aw n.rules i0) a0)<|an (ac (apA (k:=i0) (l:=length<|map aU<|map bJ.name<|List.take i0 n.rules) (n:=1) (B:=16) oaa oaa oaa) a0)<|aO (λ(h1:(zDf i0)=true)=>have q0:=(ay h1 rfl:xY n i0=_);have g1:=afL h1;
 (aO (λ(h2:((ae n.rules i0).bR)=true)=>have q1:=q0.trans (ay h2 rfl);
 (an (aN 3<|ac (rwa aw n.rules<|i0-1)<|a1<|ac (dso i0)<|aN 5<|ac h2<|a1<|ac h1<|a1 a0)<|brP (λ(h3:(!(ae n.rules<|i0-1).bR)=true)=>(an a0<|lf (wy (Ga n i0) 0) 3<|q1.trans h3))<|λh3=>(an (ac (dwo ((i0+1:Nat):Int)) a0)<|lf (wy (Ga n i0) 1) 3 ⟨(q1.trans h3),rfl,afQ (λz=>([.row 9 1 z]:lXE)) (iO hx0)⟩)))<|λh2=>(an (aN 9<|ac (ak h2)<|a1<|ac h1<|a1 a0)<|an (ac (dwo ((i0+1:Nat):Int)) a0)<|lf (wy (Ga n i0) 1) 3 ⟨(q0.trans<|aT h2),rfl,afQ (λz=>([.row 9 1 z]:lXE)) (iO hx0)⟩)))<|λh1=>have g1:=afE h1;
 (an (aN 11<|ac (ak h1)<|a1 a0)<|an (ac (dwo ((i0+1:Nat):Int)) a0)<|lf (wy (Ga n i0) 1) 3 ⟨(show xY n i0=false from(aT h1)),rfl,afQ (λz=>([.row 9 1 z]:lXE)) (iO hx0)⟩))
 oab)
 (λ_=>have hr:=hf.rules;have l1:=aF aw (n.rules);have hb:(zP n)=false:=afI oaa;
 bq (an (a1 a0)<|an hb<|lx (.exit 0) (Ir n) (range 1) (Tg n) 1)
 oab)
theorem Ok(hf:mP n):ca pg 87 0 0 (.loop Td) ⟨[(0,.pf (aY n)),(3,.v (.slice none 0 0)),(9,.sl 9 (map aw n.rules)),(10,I (length (map aw n.rules):Int)),(11,I 0)],[],(iQ n).hit,(iQ n).x1,(iQ n).L1,(iQ n).ob1,(iQ n).x2,[(0,.pf (aY n)),(3,.sl 1 (map aU<|map bJ.name<|List.take (length n.rules) n.rules))],[],(iQ n).p⟩:=
 have hr:=hf.rules;iK (Th n hf) (sN (L:=[(0,.pf (aY n)),(3,.v (.slice none 0 0)),(9,.sl 9 (map aw n.rules)),(10,I (length (map aw n.rules):Int)),(11,I 0)]) (L':=K7 n 0) (ob:=[]) (T:=9) (S:=1) (λa av e=>by
  simp only[K7,cH]at e;split at e
  ·rename_i h;subst h;exact .inl oaw
  ·split at e
   ·rename_i h;subst h;exact .inr ⟨rfl,(agH e).symm⟩
   ·split at e
    ·rename_i h;subst h;exact .inl oaw
    ·split at e
     ·rename_i h;subst h;exact .inl oaw
     ·split at e
      ·rename_i h;subst h;exact .inl oaw
      ·simp[lk]at e)) (dF.refl _ _) rfl (sO (L:=Ir n) (L':=[(0,.pf (aY n)),(3,.sl 1 (map aU<|map bJ.name<|List.take (length n.rules) n.rules))]) (ob:=[]) (k:=length n.rules) (T:=9) (rows:=(map aU<|map bJ.name<|List.take (length n.rules) n.rules)) oaf (af7 _) (λa av e=>by
  simp only[cH]at e;split at e
  ·rename_i h;subst h;exact .inl ⟨by rw[<-e];rfl,by rw[<-agH e];simp[AV.und,bw fY,bA]⟩
  ·split at e
   ·rename_i h;subst h;exact .inr ⟨rfl,(agH e).symm,by simp only[AV.und];exact bw fY _ _⟩
   ·simp[lk]at e) rfl) rfl
def K8:KB:=⟨[(0,.pf (aY n)),(3,.v (.slice none 0 0)),(9,.sl 9 (zE n)),(10,I (length (zE n):Int)),(11,I 0)],[],(iQ n).hit,(iQ n).x1,(iQ n).L1,(iQ n).ob1,(iQ n).x2,[(0,.pf (aY n)),(3,.sl 1 (zAs n))],[],(iQ n).p⟩
def r26:Bool:=(!(vL n)&&((decide<|(length (map aU n.types):Int)<=200)&&((decide<|(length (map aw n.rules):Int)<=100)&&((decide<|(length (map aj n.aa):Int)<=4000)&&((r60 n.types)&&((r61 n.bp)&&((r61 n.bx)&&r60 (map bJ.name<|List.take (length n.rules) n.rules))))))))
end
def uS:cy [0] (aG 26)=[(0,.loop Td)]:=by kernel_rfl
theorem K9(n:Net)(hf:mP n):aQ pg 26 [.pf (aY n)] [] [] (B<|r26 n) []:=
 have hr:=hf.rules;aV 26 (.r [bT]<|.r [bT]<|.r [bT]<|.br .nil<|.a (.a (.a (.a (.a (.a (.r (.k::uTT 6 (.k::uTT 6 (.k::uTT 5 (.int 0::uTT 5 (.int 1::uTT 5 [.int 2,bT,bT,.int 3,bT]))))) .nil)<|.r (.k::uTT 6 (.k::uTT 6 (.k::uTT 5 (.int 0::uTT 5 (.int 1::uTT 5 [.int 2,bF,bF,bT]))))) .nil)<|.r (.k::uTT 6 (.k::uTT 6 (.k::uTT 5 (.int 0::uTT 5 (.int 1::uFF 7 [bT]))))) .nil)<|.r (.k::uTT 6 (.k::uTT 6 (.k::uTT 5 (.int 0::uFF 12 [bT])))) .nil)<|.r (.k::uTT 6 (.k::uTT 6 (.k::uFF 17 [bT]))) .nil)<|.r (.k::uTT 6 (.k::uFF 23 [bT])) .nil)<|.r (.k::uFF 29 [bT]) .nil)
 (an a0<|an a0<|an a0<|an (kbT (K8 n) trivial)<|brP (λ(h0:(vL n)=true)=>(bE<|show r26 n=false from(aT<|bQ h0)))<|λh0=>have q0:=(ay (ak h0) rfl:r26 n=_);
 (aO (λ(h1:(decide<|(length (map aU n.types):Int)<=200)=true)=>have q1:=q0.trans (ay h1 rfl);have l1:=aF aU (n.types);have g1:=afL h1;
 (aO (λ(h2:(decide<|(length (map aw n.rules):Int)<=100)=true)=>have q2:=q1.trans (ay h2 rfl);have l2:=aF aw (n.rules);have g2:=afL h2;
 (aO (λ(h3:(decide<|(length (map aj n.aa):Int)<=4000)=true)=>have q3:=q2.trans (ay h3 rfl);have l3:=aF aj (n.aa);have g3:=afL h3;
 (aO (λ(h4:(r60 n.types)=true)=>have q4:=q3.trans (ay h4 rfl);
 (aO (λ(h5:(r61 n.bp)=true)=>(aO (λ(h6:(r61 n.bx)=true)=>(an (cA (g60<|map bJ.name<|List.take (length n.rules) n.rules) (show length (map bJ.name<|List.take (length n.rules) n.rules)<=9223372036854775807 by simp;have:=hf.rules;omega)<|a1<|ac h6<|cA (g61 n.bx) hf.bx<|aN 4<|ac h5<|cA (g61 n.bp) hf.eP<|aN 4<|ac h4<|cA (g60 n.types) hf.types<|aN 4<|ac h3<|aN 6<|ac h2<|aN 6<|ac h1<|a1 a0)<|bE<|show r26 n=(r60<|map bJ.name<|List.take (length n.rules) n.rules)from(ay (ak h0)<|ay h1<|ay h2<|ay h3<|ay h4<|ay h5<|ay h6 rfl)))<|λh6=>(an (a1<|ac (ak h6)<|cA (g61 n.bx) hf.bx<|aN 4<|ac h5<|cA (g61 n.bp) hf.eP<|aN 4<|ac h4<|cA (g60 n.types) hf.types<|aN 4<|ac h3<|aN 6<|ac h2<|aN 6<|ac h1<|a1 a0)<|bE<|q4.trans<|ay h5<|aT h6)))<|λh5=>(an (aN 6<|ac (ak h5)<|cA (g61 n.bp) hf.eP<|aN 4<|ac h4<|cA (g60 n.types) hf.types<|aN 4<|ac h3<|aN 6<|ac h2<|aN 6<|ac h1<|a1 a0)<|bE<|q4.trans<|aT h5)))<|λh4=>(an (aN 11<|ac (ak h4)<|cA (g60 n.types) hf.types<|aN 4<|ac h3<|aN 6<|ac h2<|aN 6<|ac h1<|a1 a0)<|bE<|q3.trans<|aT h4)))<|λh3=>(an (aN 16<|ac (ak h3)<|aN 6<|ac h2<|aN 6<|ac h1<|a1 a0)<|bE<|q2.trans<|aT h3)))<|λh2=>(an (aN 22<|ac (ak h2)<|aN 6<|ac h1<|a1 a0)<|bE<|q1.trans<|aT h2)))<|λh1=>(an (aN 28<|ac (ak h1)<|a1 a0)<|bE<|q0.trans<|aT h1))) (hc:=(aK (.cons (g60 n.types) rfl<|.cons (g61 n.bp) rfl<|.cons (g61 n.bx) rfl<|.cons (g60<|map bJ.name<|List.take (length n.rules) n.rules) rfl bB.nil) aC)) (hk:=(bc (l:=[(0,K8 n)]) uS (aE (Ok n hf) rfl aP) rfl))
def acg:Code:=bn 0 (aG 27)
def Dh(n:Net)(i0:Nat)(y0:lXA):lXA:=(bif (ae n.rules i0).bR then(bif !(ae n.rules i0).ft then y0++ [(ae n.rules i0).type]else y0)else y0)
def ck(n:Net)(kk:Nat):lXA:=Nat.rec (motive:=λ_=>lXA) ([]) (λj a=>Dh n j a) kk
abbrev nG(n:Net)(i0:Nat)(y0:lXA):lXE:=[pP y0]
section
variable(n:Net)(i0:Nat)
abbrev o9:Am.Loc:=[(0,.pf (aY n)),(3,.mp 0),(11,.sl 9 (zE n)),(12,I (length (zE n):Int)),(13,I (i0:Int))]
abbrev xZ:lXE:=nG n i0 (ck n i0)
def lN:Bool:=(bif (ae n.rules i0).bR then((!(r62 n (ae n.rules i0).start (i0:Int)))||((!(r62 n (ae n.rules i0).stop (i0:Int)))||(((ae n.rules i0).start==(ae n.rules i0).stop)||((decide<|(length (map aD (aB n.aa (ae n.rules i0).stop).ah):Int)>0)||(bif !(ae n.rules i0).bR then((ae n.rules i0).ft||((ae n.rules i0).lazy||(((ae n.rules i0).mode !=0)||((ae n.rules i0).left||((decide<|(ae n.rules i0).mode<0)||((decide<|(ae n.rules i0).mode>=(length (map aU n.bx):Int))||(bif !(!(ae n.rules i0).ft)then(((ae n.rules i0).type !=0)||((!(ae n.rules i0).ft)&&((decide<|(ae n.rules i0).type<1)||((decide<|(ae n.rules i0).type>(length (map aU n.types):Int))||(dec<|(ae n.rules i0).type∈(ck n i0))))))else((!(ae n.rules i0).ft)&&((decide<|(ae n.rules i0).type<1)||((decide<|(ae n.rules i0).type>(length (map aU n.types):Int))||(dec<|(ae n.rules i0).type∈(ck n i0))))))))))))else((ae n.rules i0).left||((decide<|(ae n.rules i0).mode<0)||((decide<|(ae n.rules i0).mode>=(length (map aU n.bx):Int))||(bif !(!(ae n.rules i0).ft)then(((ae n.rules i0).type !=0)||((!(ae n.rules i0).ft)&&((decide<|(ae n.rules i0).type<1)||((decide<|(ae n.rules i0).type>(length (map aU n.types):Int))||(dec<|(ae n.rules i0).type∈(ck n i0))))))else((!(ae n.rules i0).ft)&&((decide<|(ae n.rules i0).type<1)||((decide<|(ae n.rules i0).type>(length (map aU n.types):Int))||(dec<|(ae n.rules i0).type∈(ck n i0))))))))))))))else((!(r62 n (ae n.rules i0).start (i0:Int)))||((!(r62 n (ae n.rules i0).stop (i0:Int)))||(((ae n.rules i0).start==(ae n.rules i0).stop)||((decide<|(length (map aD (aB n.aa (ae n.rules i0).stop).ah):Int)>0)||(bif !(ae n.rules i0).bR then((ae n.rules i0).ft||((ae n.rules i0).lazy||(((ae n.rules i0).mode !=0)||((decide<|(ae n.rules i0).mode<0)||((decide<|(ae n.rules i0).mode>=(length (map aU n.bx):Int))||((ae n.rules i0).type !=0))))))else((decide<|(ae n.rules i0).mode<0)||((decide<|(ae n.rules i0).mode>=(length (map aU n.bx):Int))||((ae n.rules i0).type !=0)))))))))
end
def Di(n:Net):Bool:=cz (length n.rules) (lN n)
abbrev Tj(n:Net)(i0:Nat):Am.Loc:=[(2,B false)]
abbrev Tk(n:Net)(i0:Nat):lXE:=[]
abbrev Tl(n:Net):Am.Loc:=[]
abbrev Tm(n:Net):lXE:=[pP (ck n<|length n.rules)]
def Is(n:Net):KB:=anK 0 (length n.rules) (lN n) (o9 n) (xZ n) .ret (Tj n) (Tk n) (.exit 0) (Tl n) (Tm n) (True)
abbrev cG(n:Net)(i0:Nat):List bG:=[htW (lN n i0) .ret (Tj n i0) zI (Tk n i0),nxW (lN n i0) (o9 n<|i0+1) (xZ n<|i0+1) [(0,.pf (aY n)),(3,.mp 0),(11,.sl 9 (zE n)),(12,I (length (zE n):Int)),(13,I ↑(i0+1))] zAT [.mp (map (Value.int .i64) (ck n i0)++ [.int .i64 (ae n.rules i0).type]) (map tru (ck n i0)++ [.v (.bool true)])],nxW (lN n i0) (o9 n<|i0+1) (xZ n<|i0+1) (o9 n<|i0+1) zAT (nG n (i0+1)<|ck n i0)]
abbrev zCs:List Gi:=(uFF 19 [bT])
section
variable(i0:Nat)
abbrev zN(n:Net):GT:=(.a (.a (.r (bT::bT::bT::.k::bT::uFF 8 (bT::bT::uFF 4 [bT,bT])) zB)<|.a (.r (bT::bT::bT::.k::uTT 9 (.k::bT::bT::uFF 4 [bT,bT])) zB)<|.r (bT::bT::bT::.k::uTT 9 (.k::uTT 6 [.key (kQ (ck n i0) (ae n.rules i0).type) (B<|dec<|(ae n.rules i0).type∈(ck n i0)),bT,bT]))<|.br zB<|.r [bT]<|.yes<|.r [.key none .any,bT]<|zC i0)<|.r zCs<|.r [bT]<|.no<|.r (zBs i0)<|.pick 2)
abbrev zAj:GT:=(.r [bF,bF,bT]<|.a (.r zu zB)<|.r zz<|.br zB<|.r [bT,bT,bT,.k,bT]<|.br zB<|.r zCs<|.r [bT]<|.r (zBs i0)<|.pick 2)
abbrev zBy(n:Net):GT:=(.r [bT,bT,bT]<|.br zB<|.a (.r zu zB)<|.r zz<|.br zB<|.a (.r [bT,bT,bT,.k,bT]<|.br zB<|zN i0 n)<|.r [bF,bF,bF,bT]<|zN i0 n)
abbrev zDQ(n:Net):List Gi:=[.cq ((ae n.rules i0).stop).toNat (aj<|aB n.aa (ae n.rules i0).stop),.k,bT]
end
abbrev zDT:GT:=(.r [bT,bT,bT,bF,bF,bT,bT,bF,bF,bF,bT,bT] zB)
abbrev zDU:GT:=(.r (uTT 7 [bF,bF,bF,bT,bT]) zB)
abbrev zDZ:List Gi:=(uTT 10 [.k,bT,bT])
abbrev zDo:List Gi:=(uFF 11 [bT])
abbrev zDs(i0:Nat)(n:Net):=(!(ae n.rules i0).ft)
def Tn(n:Net)(hf:bW n):ca pg 123 0 0 (.loop acg) (Is n):=
 anB (cG n) (λi0=>(.r [.k,bT]<|.yes<|.r (zCV i0 n)<|.a (.r (uTT 4 [])<|.r [.int 0,bT]<|.br zB<|.r [.int 1,bT]<|.br zB<|.r [.k,bT]<|.br zB<|.r (zDQ i0 n)<|.br zB<|.a (.a zDT<|.a zDU<|.r zDZ<|.br zB<|zBy i0 n)<|.r zDo<|zBy i0 n)<|.r [bF,bF,bF,bT]<|.r [.int 0,bT]<|.br zB<|.r [.int 1,bT]<|.br zB<|.r [.k,bT]<|.br zB<|.r (zDQ i0 n)<|.br zB<|.a (.a zDT<|.a zDU<|.r zDZ<|.br zB<|zAj i0)<|.r zDo<|zAj i0)) (range 1) zF
 (λ_ i0(hx0:i0<(length n.rules))=>have hr:=hf.rules;have l1:=aF aw (n.rules);have hb:(zAH i0 n)=true:=afH oaa;
 bq (an (a1 a0)<|an hb<|an (ac (rwa aw n.rules i0) a0)<|aO (λ(h1:((ae n.rules i0).bR)=true)=>have q0:=(cdT h1 rfl:lN n i0=_);
 (an (aN 2<|ac h1 a0)<|an (cA (g62 n (ae n.rules i0).start (i0:Int)) trivial a0)<|brP (λ(h2:(!(r62 n (ae n.rules i0).start (i0:Int)))=true)=>(an a0<|lf (wy (cG n i0) 0) 2<|q0.trans<|orT h2))<|λh2=>have q2:=q0.trans (orF h2 rfl);have g2:=ry (F1 h2);
 (an (cA (g62 n (ae n.rules i0).stop (i0:Int)) trivial a0)<|brP (λ(h3:(!(r62 n (ae n.rules i0).stop (i0:Int)))=true)=>(an a0<|lf (wy (cG n i0) 0) 2<|q2.trans<|orT h3))<|λh3=>have q4:=q2.trans (orF h3 rfl);have g3:=ry (F1 h3);
 (an (a1 a0)<|brP (λ(h4:(zDW i0 n)=true)=>(an a0<|lf (wy (cG n i0) 0) 2<|q4.trans<|orT h4))<|λh4=>have q6:=q4.trans (orF h4 rfl);
 (have l2:=aF aj (n.aa);an (a1<|ac (rwz aj n.aa (ae n.rules i0).stop) a0)<|brP (λ(h5:(zBd i0 n)=true)=>(an a0<|lf (wy (cG n i0) 0) 2<|q6.trans<|orT h5))<|λh5=>have q8:=q6.trans (orF h5 rfl);have l3:=aF aD ((aB n.aa (ae n.rules i0).stop).ah);have g5:=afE h5;
 (aO (λ(h6:(!(ae n.rules i0).bR)=true)=>have q10:=q8.trans (cdT h6 rfl);
 (aO (λ(h7:((ae n.rules i0).ft)=true)=>(an (aN 7<|ac (n2 h7)<|aN 2<|ac h6 a0)<|an a0<|lf (wy (cG n i0) 0) 2<|q10.trans<|orT h7))<|λh7=>have q14:=q10.trans (orF h7 rfl);
 (aO (λ(h8:((ae n.rules i0).lazy)=true)=>(an (aN 3<|ac (n2 h8)<|aN 3<|ac (ak h7)<|aN 2<|ac h6 a0)<|an a0<|lf (wy (cG n i0) 0) 2<|q14.trans<|orT h8))<|λh8=>have q18:=q14.trans (orF h8 rfl);
 (an (aN 4<|ac (ak h8)<|aN 3<|ac (ak h7)<|aN 2<|ac h6 a0)<|brP (λ(h9:((ae n.rules i0).mode !=0)=true)=>(an a0<|lf (wy (cG n i0) 0) 2<|q18.trans<|orT h9))<|λh9=>have q22:=q18.trans (orF h9 rfl);have g9:=cE h9;
 (an (a1<|ac h1 a0)<|brP (λ(h10:((ae n.rules i0).left)=true)=>(an a0<|lf (wy (cG n i0) 0) 2<|q22.trans<|orT h10))<|λh10=>have q25:=q22.trans (orF h10 rfl);
 (aO (λ(h11:(zBW i0 n)=true)=>(an (aN 7<|ac (n2 h11)<|a1 a0)<|an a0<|lf (wy (cG n i0) 0) 2<|q25.trans<|orT h11))<|λh11=>have q29:=q25.trans (orF h11 rfl);have g11:=afE h11;
 (an (aN 8<|ac (ak h11)<|a1 a0)<|brP (λ(h12:(zj i0 n)=true)=>(an a0<|lf (wy (cG n i0) 0) 2<|q29.trans<|orT h12))<|λh12=>have q33:=q29.trans (orF h12 rfl);have l4:=aF aU (n.bx);have g12:=afE h12;
 (aO (λ(h13:(!(zDs i0 n))=true)=>have q36:=q33.trans (cdT h13 rfl);
 (an (aN 3<|ac h13 a0)<|brP (λ(h14:(zCU i0 n)=true)=>(an a0<|lf (wy (cG n i0) 0) 2<|q36.trans<|orT h14))<|λh14=>have q40:=q36.trans (orF h14 rfl);have g14:=cE h14;
 (aO (λ(h15:(zDs i0 n)=true)=>have q43:=q40.trans (ay h15 rfl);
 (aO (λ(h16:(zCP i0 n)=true)=>(an (aN 14<|ac (n2 h16)<|aN 4<|ac h15 a0)<|an a0<|lf (wy (cG n i0) 0) 2<|q43.trans<|orT h16))<|λh16=>have q45:=q43.trans (orF h16 rfl);have g16:=afE h16;
 (aO (λ(h17:(zAK i0 n)=true)=>(an (aN 4<|ac (n2 h17)<|aN 10<|ac (ak h16)<|aN 4<|ac h15 a0)<|an a0<|lf (wy (cG n i0) 0) 2<|q45.trans<|orT h17))<|λh17=>have q47:=q45.trans (orF h17 rfl);have l5:=aF aU (n.types);have g17:=afE h17;
 (an (a1<|ac (lkI (ae n.rules i0).type<|ck n i0)<|aN 3<|ac (ak h17)<|aN 10<|ac (ak h16)<|aN 4<|ac h15 a0)<|brP (λ(h18:(dec<|(ae n.rules i0).type∈(ck n i0))=true)=>(an a0<|lf (wy (cG n i0) 0) 2<|q47.trans h18))<|λh18=>(an a0<|an h15<|an (ac (nwI h18) a0)<|an (ac (dwo ((i0+1:Nat):Int)) a0)<|lf (wy (cG n i0) 1) 2 ⟨(q47.trans h18),rfl,(by rw[show xZ n (i0+1)=(λy0:lXA=>([pP y0]:lXE)) (ck n<|i0+1)from rfl,(show ck n (i0+1)=((ck n i0)++ [(ae n.rules i0).type])from(cdT h1<|cdT h15 rfl)),(ny (ae n.rules i0).type<|ck n i0)])⟩)))))<|λh15=>(an (aN 18<|ac (ak h15) a0)<|an a0<|an h15<|an (ac (dwo ((i0+1:Nat):Int)) a0)<|lf (wy (cG n i0) 2) 2<|nxP (λ_=>o9 n<|i0+1) (nG n<|i0+1) (q40.trans<|aT h15)<|show ck n (i0+1)=_ from(cdT h1<|cdF h15 rfl)))))<|λh13=>have q37:=q33.trans (cdF h13 rfl);
 (an (aN 2<|ac (ak h13) a0)<|aO (λ(h14:(zDs i0 n)=true)=>have q41:=q37.trans (ay h14 rfl);
 (aO (λ(h15:(zCP i0 n)=true)=>(an (aN 14<|ac (n2 h15)<|aN 4<|ac h14 a0)<|an a0<|lf (wy (cG n i0) 0) 2<|q41.trans<|orT h15))<|λh15=>have q44:=q41.trans (orF h15 rfl);have g15:=afE h15;
 (aO (λ(h16:(zAK i0 n)=true)=>(an (aN 4<|ac (n2 h16)<|aN 10<|ac (ak h15)<|aN 4<|ac h14 a0)<|an a0<|lf (wy (cG n i0) 0) 2<|q44.trans<|orT h16))<|λh16=>have q46:=q44.trans (orF h16 rfl);have l5:=aF aU (n.types);have g16:=afE h16;
 (an (a1<|ac (lkI (ae n.rules i0).type<|ck n i0)<|aN 3<|ac (ak h16)<|aN 10<|ac (ak h15)<|aN 4<|ac h14 a0)<|brP (λ(h17:(dec<|(ae n.rules i0).type∈(ck n i0))=true)=>(an a0<|lf (wy (cG n i0) 0) 2<|q46.trans h17))<|λh17=>(an a0<|an h14<|an (ac (nwI h17) a0)<|an (ac (dwo ((i0+1:Nat):Int)) a0)<|lf (wy (cG n i0) 1) 2 ⟨(q46.trans h17),rfl,(by rw[show xZ n (i0+1)=(λy0:lXA=>([pP y0]:lXE)) (ck n<|i0+1)from rfl,(show ck n (i0+1)=((ck n i0)++ [(ae n.rules i0).type])from(cdT h1<|cdT h14 rfl)),(ny (ae n.rules i0).type<|ck n i0)])⟩)))))<|λh14=>(an (aN 18<|ac (ak h14) a0)<|an a0<|an h14<|an (ac (dwo ((i0+1:Nat):Int)) a0)<|lf (wy (cG n i0) 2) 2<|nxP (λ_=>o9 n<|i0+1) (nG n<|i0+1) (q37.trans<|aT h14)<|show ck n (i0+1)=_ from(cdT h1<|cdF h14 rfl)))))))))))<|λh6=>have q11:=q8.trans (cdF h6 rfl);
 (an (aN 10<|ac (ak h6) a0)<|an (a1<|ac h1 a0)<|brP (λ(h7:((ae n.rules i0).left)=true)=>(an a0<|lf (wy (cG n i0) 0) 2<|q11.trans<|orT h7))<|λh7=>have q15:=q11.trans (orF h7 rfl);
 (aO (λ(h8:(zBW i0 n)=true)=>(an (aN 7<|ac (n2 h8)<|a1 a0)<|an a0<|lf (wy (cG n i0) 0) 2<|q15.trans<|orT h8))<|λh8=>have q19:=q15.trans (orF h8 rfl);have g8:=afE h8;
 (an (aN 8<|ac (ak h8)<|a1 a0)<|brP (λ(h9:(zj i0 n)=true)=>(an a0<|lf (wy (cG n i0) 0) 2<|q19.trans<|orT h9))<|λh9=>have q23:=q19.trans (orF h9 rfl);have l4:=aF aU (n.bx);have g9:=afE h9;
 (aO (λ(h10:(!(zDs i0 n))=true)=>have q26:=q23.trans (cdT h10 rfl);
 (an (aN 3<|ac h10 a0)<|brP (λ(h11:(zCU i0 n)=true)=>(an a0<|lf (wy (cG n i0) 0) 2<|q26.trans<|orT h11))<|λh11=>have q30:=q26.trans (orF h11 rfl);have g11:=cE h11;
 (aO (λ(h12:(zDs i0 n)=true)=>have q34:=q30.trans (ay h12 rfl);
 (aO (λ(h13:(zCP i0 n)=true)=>(an (aN 14<|ac (n2 h13)<|aN 4<|ac h12 a0)<|an a0<|lf (wy (cG n i0) 0) 2<|q34.trans<|orT h13))<|λh13=>have q38:=q34.trans (orF h13 rfl);have g13:=afE h13;
 (aO (λ(h14:(zAK i0 n)=true)=>(an (aN 4<|ac (n2 h14)<|aN 10<|ac (ak h13)<|aN 4<|ac h12 a0)<|an a0<|lf (wy (cG n i0) 0) 2<|q38.trans<|orT h14))<|λh14=>have q42:=q38.trans (orF h14 rfl);have l5:=aF aU (n.types);have g14:=afE h14;
 (an (a1<|ac (lkI (ae n.rules i0).type<|ck n i0)<|aN 3<|ac (ak h14)<|aN 10<|ac (ak h13)<|aN 4<|ac h12 a0)<|brP (λ(h15:(dec<|(ae n.rules i0).type∈(ck n i0))=true)=>(an a0<|lf (wy (cG n i0) 0) 2<|q42.trans h15))<|λh15=>(an a0<|an h12<|an (ac (nwI h15) a0)<|an (ac (dwo ((i0+1:Nat):Int)) a0)<|lf (wy (cG n i0) 1) 2 ⟨(q42.trans h15),rfl,(by rw[show xZ n (i0+1)=(λy0:lXA=>([pP y0]:lXE)) (ck n<|i0+1)from rfl,(show ck n (i0+1)=((ck n i0)++ [(ae n.rules i0).type])from(cdT h1<|cdT h12 rfl)),(ny (ae n.rules i0).type<|ck n i0)])⟩)))))<|λh12=>(an (aN 18<|ac (ak h12) a0)<|an a0<|an h12<|an (ac (dwo ((i0+1:Nat):Int)) a0)<|lf (wy (cG n i0) 2) 2<|nxP (λ_=>o9 n<|i0+1) (nG n<|i0+1) (q30.trans<|aT h12)<|show ck n (i0+1)=_ from(cdT h1<|cdF h12 rfl)))))<|λh10=>have q27:=q23.trans (cdF h10 rfl);
 (an (aN 2<|ac (ak h10) a0)<|aO (λ(h11:(zDs i0 n)=true)=>have q31:=q27.trans (ay h11 rfl);
 (aO (λ(h12:(zCP i0 n)=true)=>(an (aN 14<|ac (n2 h12)<|aN 4<|ac h11 a0)<|an a0<|lf (wy (cG n i0) 0) 2<|q31.trans<|orT h12))<|λh12=>have q35:=q31.trans (orF h12 rfl);have g12:=afE h12;
 (aO (λ(h13:(zAK i0 n)=true)=>(an (aN 4<|ac (n2 h13)<|aN 10<|ac (ak h12)<|aN 4<|ac h11 a0)<|an a0<|lf (wy (cG n i0) 0) 2<|q35.trans<|orT h13))<|λh13=>have q39:=q35.trans (orF h13 rfl);have l5:=aF aU (n.types);have g13:=afE h13;
 (an (a1<|ac (lkI (ae n.rules i0).type<|ck n i0)<|aN 3<|ac (ak h13)<|aN 10<|ac (ak h12)<|aN 4<|ac h11 a0)<|brP (λ(h14:(dec<|(ae n.rules i0).type∈(ck n i0))=true)=>(an a0<|lf (wy (cG n i0) 0) 2<|q39.trans h14))<|λh14=>(an a0<|an h11<|an (ac (nwI h14) a0)<|an (ac (dwo ((i0+1:Nat):Int)) a0)<|lf (wy (cG n i0) 1) 2 ⟨(q39.trans h14),rfl,(by rw[show xZ n (i0+1)=(λy0:lXA=>([pP y0]:lXE)) (ck n<|i0+1)from rfl,(show ck n (i0+1)=((ck n i0)++ [(ae n.rules i0).type])from(cdT h1<|cdT h11 rfl)),(ny (ae n.rules i0).type<|ck n i0)])⟩)))))<|λh11=>(an (aN 18<|ac (ak h11) a0)<|an a0<|an h11<|an (ac (dwo ((i0+1:Nat):Int)) a0)<|lf (wy (cG n i0) 2) 2<|nxP (λ_=>o9 n<|i0+1) (nG n<|i0+1) (q27.trans<|aT h11)<|show ck n (i0+1)=_ from(cdT h1<|cdF h11 rfl)))))))))))))<|λh1=>have q1:=(cdF h1 rfl:lN n i0=_);
 (an (aN 2<|ac (ak h1) a0)<|an (cA (g62 n (ae n.rules i0).start (i0:Int)) trivial a0)<|brP (λ(h2:(!(r62 n (ae n.rules i0).start (i0:Int)))=true)=>(an a0<|lf (wy (cG n i0) 0) 2<|q1.trans<|orT h2))<|λh2=>have q3:=q1.trans (orF h2 rfl);have g2:=ry (F1 h2);
 (an (cA (g62 n (ae n.rules i0).stop (i0:Int)) trivial a0)<|brP (λ(h3:(!(r62 n (ae n.rules i0).stop (i0:Int)))=true)=>(an a0<|lf (wy (cG n i0) 0) 2<|q3.trans<|orT h3))<|λh3=>have q5:=q3.trans (orF h3 rfl);have g3:=ry (F1 h3);
 (an (a1 a0)<|brP (λ(h4:(zDW i0 n)=true)=>(an a0<|lf (wy (cG n i0) 0) 2<|q5.trans<|orT h4))<|λh4=>have q7:=q5.trans (orF h4 rfl);
 (have l2:=aF aj (n.aa);an (a1<|ac (rwz aj n.aa (ae n.rules i0).stop) a0)<|brP (λ(h5:(zBd i0 n)=true)=>(an a0<|lf (wy (cG n i0) 0) 2<|q7.trans<|orT h5))<|λh5=>have q9:=q7.trans (orF h5 rfl);have l3:=aF aD ((aB n.aa (ae n.rules i0).stop).ah);have g5:=afE h5;
 (aO (λ(h6:(!(ae n.rules i0).bR)=true)=>have q12:=q9.trans (cdT h6 rfl);
 (aO (λ(h7:((ae n.rules i0).ft)=true)=>(an (aN 7<|ac (n2 h7)<|aN 2<|ac h6 a0)<|an a0<|lf (wy (cG n i0) 0) 2<|q12.trans<|orT h7))<|λh7=>have q16:=q12.trans (orF h7 rfl);
 (aO (λ(h8:((ae n.rules i0).lazy)=true)=>(an (aN 3<|ac (n2 h8)<|aN 3<|ac (ak h7)<|aN 2<|ac h6 a0)<|an a0<|lf (wy (cG n i0) 0) 2<|q16.trans<|orT h8))<|λh8=>have q20:=q16.trans (orF h8 rfl);
 (an (aN 4<|ac (ak h8)<|aN 3<|ac (ak h7)<|aN 2<|ac h6 a0)<|brP (λ(h9:((ae n.rules i0).mode !=0)=true)=>(an a0<|lf (wy (cG n i0) 0) 2<|q20.trans<|orT h9))<|λh9=>have q24:=q20.trans (orF h9 rfl);have g9:=cE h9;
 (an (a1<|ac (ak h1) a0)<|aO (λ(h10:(zBW i0 n)=true)=>(an (aN 7<|ac (n2 h10)<|a1 a0)<|an a0<|lf (wy (cG n i0) 0) 2<|q24.trans<|orT h10))<|λh10=>have q28:=q24.trans (orF h10 rfl);have g10:=afE h10;
 (an (aN 8<|ac (ak h10)<|a1 a0)<|brP (λ(h11:(zj i0 n)=true)=>(an a0<|lf (wy (cG n i0) 0) 2<|q28.trans<|orT h11))<|λh11=>have q32:=q28.trans (orF h11 rfl);have l4:=aF aU (n.bx);have g11:=afE h11;
 (an (aN 4 a0)<|brP (λ(h12:(zCU i0 n)=true)=>(an a0<|lf (wy (cG n i0) 0) 2<|q32.trans h12))<|λh12=>have g12:=cE h12;
 (an (aN 19 a0)<|an a0<|an (ac (dwo ((i0+1:Nat):Int)) a0)<|lf (wy (cG n i0) 2) 2<|nxP (λ_=>o9 n<|i0+1) (nG n<|i0+1) (q32.trans h12)<|show ck n (i0+1)=_ from(cdF h1 rfl)))))))))<|λh6=>have q13:=q9.trans (cdF h6 rfl);
 (an (aN 10<|ac (ak h6) a0)<|an (a1<|ac (ak h1) a0)<|aO (λ(h7:(zBW i0 n)=true)=>(an (aN 7<|ac (n2 h7)<|a1 a0)<|an a0<|lf (wy (cG n i0) 0) 2<|q13.trans<|orT h7))<|λh7=>have q17:=q13.trans (orF h7 rfl);have g7:=afE h7;
 (an (aN 8<|ac (ak h7)<|a1 a0)<|brP (λ(h8:(zj i0 n)=true)=>(an a0<|lf (wy (cG n i0) 0) 2<|q17.trans<|orT h8))<|λh8=>have q21:=q17.trans (orF h8 rfl);have l4:=aF aU (n.bx);have g8:=afE h8;
 (an (aN 4 a0)<|brP (λ(h9:(zCU i0 n)=true)=>(an a0<|lf (wy (cG n i0) 0) 2<|q21.trans h9))<|λh9=>have g9:=cE h9;
 (an (aN 19 a0)<|an a0<|an (ac (dwo ((i0+1:Nat):Int)) a0)<|lf (wy (cG n i0) 2) 2<|nxP (λ_=>o9 n<|i0+1) (nG n<|i0+1) (q21.trans h9)<|show ck n (i0+1)=_ from(cdF h1 rfl)))))))))))
 oab)
 (λ_=>have hr:=hf.rules;have l1:=aF aw (n.rules);have hb:(zP n)=false:=afI oaa;
 bq (an (a1 a0)<|an hb<|lx (.exit 0) (Tl n) (range 1) (Tm n) 1)
 oab) (hc:=λ_ i0 hx0=>(aK (.cons (g62 n (ae n.rules i0).start (i0:Int)) rfl<|.cons (g62 n (ae n.rules i0).stop (i0:Int)) rfl bB.nil) aC))
def r27(n:Net):Bool:=(!(Di n))
def uT:cy [0] (aG 27)=[(0,.loop acg)]:=by kernel_rfl
def aat(n:Net)(hf:bW n):aQ pg 27 [.pf (aY n)] [] [] (B<|r27 n) []:=
 aV 27 (.r [bT] zBS)
 (an a0<|an a0<|an a0<|an (kbT (Is n) trivial)<|brP (λ(h0:(Di n)=true)=>(bE<|show r27 n=false from(bQ h0)))<|λh0=>(an a0<|bE<|show r27 n=true from(ak h0))) (hk:=(bc (l:=[(0,Is n)]) uT (aE (Tn n hf) rfl aP) rfl))
end Go.Proofs.YtfkjfjalecikkaaGreatDoor
end
