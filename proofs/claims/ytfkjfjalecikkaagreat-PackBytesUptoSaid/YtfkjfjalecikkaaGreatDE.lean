/- Of nets: small readers. Edges (of the document's answer). States (of the document's answer). Names. Rules (net). Kinds of edges (net). States (net). -/
import Derived.Test.YtfkjfjalecikkaaGreatDD
set_option linter.defProp false
open Go.IntKind (wrap)
noncomputable section
open List (length map range replicate)
set_option maxRecDepth 100000
namespace Go.Proofs.YtfkjfjalecikkaaGreat
open Go.Am
section
variable(n:Net)(s r:Int)
def r67:Bool:=((decide<|s>=0)&&((decide<|s<(length (map aq n.aa):Int))&&(aF n.aa s).aH==r))
def of67:aY pg 87 [.ag (bA n),I s,I r] [] [] (B<|r67 n s r) []:=
 aV 87 (.r [bT]<|.a (.a (.r (.k::uTT 5 (.k::uTT 4 (.bG (s).toNat (aq<|aF n.aa s)::uTT 4 [.k,bT]))) .nil)<|.r (.k::uTT 5 (.k::uFF 8 [bT])) .nil)<|.r (.k::uFF 13 [bT]) .nil)
 (an a0<|aO (λ(h0:(decide<|s>=0)=true)=>have g0:=afS h0;
 (aO (λ(h1:(decide<|s<(length (map aq n.aa):Int))=true)=>have l1:=aL aq (n.aa);have g1:=afS h1;
 (an (aN 5<|ac (rwz aq n.aa s)<|aN 3<|ac h1<|aN 5<|ac h0<|a1 a0)<|bE<|show r67 n s r=((aF n.aa s).aH==r)from(aD h0<|aD h1 rfl)))<|λh1=>(an (aN 7<|ac (au h1)<|aN 5<|ac h0<|a1 a0)<|bE<|show r67 n s r=false from(aD h0<|bg h1))))<|λh0=>(an (aN 12<|ac (au h0)<|a1 a0)<|bE<|show r67 n s r=false from(bg h0)))
def r62:Bool:=((decide<|s>=0)&&((decide<|s<(length (map aq n.aa):Int))&&(aF n.aa s).aH==r))
def of62:aY pg 75 [.pf (bA n),I s,I r] [] [] (B<|r62 n s r) []:=
 aV 75 (.r [bT]<|.a (.a (.r (.k::uTT 7 (.k::uTT 6 (.bG (s).toNat (aq<|aF n.aa s)::uTT 4 [.k,bT]))) .nil)<|.r (.k::uTT 7 (.k::uFF 10 [bT])) .nil)<|.r (.k::uFF 17 [bT]) .nil)
 (an a0<|aO (λ(h0:(decide<|s>=0)=true)=>have g0:=afS h0;
 (aO (λ(h1:(decide<|s<(length (map aq n.aa):Int))=true)=>have l1:=aL aq (n.aa);have g1:=afS h1;
 (an (aN 5<|ac (rwz aq n.aa s)<|aN 5<|ac h1<|aN 7<|ac h0<|a1 a0)<|bE<|show r62 n s r=((aF n.aa s).aH==r)from(aD h0<|aD h1 rfl)))<|λh1=>(an (aN 9<|ac (au h1)<|aN 7<|ac h0<|a1 a0)<|bE<|show r62 n s r=false from(aD h0<|bg h1))))<|λh0=>(an (aN 16<|ac (au h0)<|a1 a0)<|bE<|show r62 n s r=false from(bg h0)))
end
def r92(g:G):Bool:=((g.op==0)&&((g.n==0)&&((cT (Array.toList<|ByteArray.data g.name) [])&&(length (map gC g.kids):Int)==0)))
abbrev zCT:GT:=(.r (.k::bT::bT::bT::.k::uFF 7 [bT]) .nil)
def ads(g:G):aY pg 119 [.ag (gCC g)] [] [] (B<|r92 g) []:=
 aV 119 (.r [bT]<|.a (.a (.a (.r (.k::bT::bT::bT::.k::bT::bT::bT::.k::uTT 4 [.k,bT]) .nil)<|.r (.k::bT::bT::bT::.k::bT::bT::bT::.k::uFF 4 [bT]) .nil) zCT)<|.r zBD .nil)
 (an a0<|aO (λ(h0:(g.op==0)=true)=>(aO (λ(h1:(g.n==0)=true)=>(aO (λ(h2:(cT (Array.toList<|ByteArray.data g.name) [])=true)=>(an (aN 4<|ac h2<|aN 3<|ac h1<|aN 3<|ac h0<|a1 a0)<|bE<|show r92 g=(zAH g)from(aD h0<|aD h1<|aD h2 rfl)))<|λh2=>(an (aN 3<|ac (au h2)<|aN 3<|ac h1<|aN 3<|ac h0<|a1 a0)<|bE<|show r92 g=false from(aD h0<|aD h1<|bg h2))))<|λh1=>(an (aN 6<|ac (au h1)<|aN 3<|ac h0<|a1 a0)<|bE<|show r92 g=false from(aD h0<|bg h1))))<|λh0=>(an (aN 9<|ac (au h0)<|a1 a0)<|bE<|show r92 g=false from(bg h0)))
def r95(n:Net)(a:Int×Int):Bool:=(bif (a).1==2 then((decide<|(a).2>=1)&&decide ((a).2<=(length (map a9 n.types):Int)))else(bif (a).1==3 then((decide<|(a).2>=0)&&decide ((a).2<(length (map a9 n.aJ):Int)))else(bif (a).1==4 then((decide<|(a).2>=0)&&decide ((a).2<(length (map a9 n.bu):Int)))else(bif (a).1==5 then((decide<|(a).2>=0)&&decide ((a).2<(length (map a9 n.bu):Int)))else(bif (a).1==0 then(a).2==0 else(bif (a).1==1 then(a).2==0 else(((a).1==6)&&(a).2==0)))))))
abbrev zy:List Gi:=(.k::uTT 6 [.k,bT])
abbrev zBL:GT:=(.a (.r zy .nil)<|.r zJ .nil)
abbrev zCo(a:Int×Int):=(decide<|(a).2>=0)
def act95(n:Net)(a:Int×Int):aY pg 122 [.ag (bA n),.ag (cO a)] [] [] (B<|r95 n a) []:=
 aV 122 (.r [bT]<|.r [.k,bT]<|.br zBL<|.r [.k,bT]<|.br zBL<|.a (.r zAX zBL)<|.r zAD<|.br zBL<|.a (.r (.k::uFF 6 [bT,bT,bT,.k,bT]) .nil)<|.a (.r [.k,bT,bT,bT,.k,bF,bF,bF,bT,bT,bT,.k,bT] .nil)<|.a (.r [.k,bT,bT,bT,.k,bT,bT,bT,.k,bT,bT,bT,.k,bT] .nil)<|.r [.k,bT,bT,bT,.k,bT,bT,bT,.k,bF,bF,bF,bT] .nil)
 (an a0<|an (a1 a0)<|brP (λ(h0:((a).1==2)=true)=>(aO (λ(h1:(decide<|(a).2>=1)=true)=>(an (aN 6<|ac h1<|a1 a0)<|bE<|show r95 n a=_ from(cdT h0<|aD h1 rfl)))<|λh1=>(an (aN 5<|ac (au h1)<|a1 a0)<|bE<|show r95 n a=_ from(cdT h0<|bg h1))))<|λh0=>(an (a1 a0)<|brP (λ(h1:((a).1==3)=true)=>(aO (λ(h2:(zCo a)=true)=>(an (aN 6<|ac h2<|a1 a0)<|bE<|show r95 n a=_ from(cdF h0<|cdT h1<|aD h2 rfl)))<|λh2=>(an (aN 5<|ac (au h2)<|a1 a0)<|bE<|show r95 n a=_ from(cdF h0<|cdT h1<|bg h2))))<|λh1=>(aO (λ(h2:((a).1==4)=true)=>(an (aN 2<|ac (n2 h2)<|a1 a0)<|aO (λ(h3:(zCo a)=true)=>(an (aN 6<|ac h3<|a1 a0)<|bE<|show r95 n a=_ from(cdF h0<|cdF h1<|cdT h2<|aD h3 rfl)))<|λh3=>(an (aN 5<|ac (au h3)<|a1 a0)<|bE<|show r95 n a=_ from(cdF h0<|cdF h1<|cdT h2<|bg h3))))<|λh2=>(an (aN 3<|ac (au h2)<|a1 a0)<|brP (λ(h3:((a).1==5)=true)=>(aO (λ(h4:(zCo a)=true)=>(an (aN 6<|ac h4<|a1 a0)<|bE<|show r95 n a=_ from(cdF h0<|cdF h1<|cdF h2<|cdT h3<|aD h4 rfl)))<|λh4=>(an (aN 5<|ac (au h4)<|a1 a0)<|bE<|show r95 n a=_ from(cdF h0<|cdF h1<|cdF h2<|cdT h3<|bg h4))))<|λh3=>(aO (λ(h4:((a).1==0)=true)=>(an (aN 9<|ac (n2 h4)<|a1 a0)<|bE<|show r95 n a=_ from(cdF h0<|cdF h1<|cdF h2<|cdF h3<|cdT h4 rfl)))<|λh4=>(aO (λ(h5:((a).1==1)=true)=>(an (aN 6<|ac (n2 h5)<|aN 3<|ac (au h4)<|a1 a0)<|bE<|show r95 n a=_ from(cdF h0<|cdF h1<|cdF h2<|cdF h3<|cdF h4<|cdT h5 rfl)))<|λh5=>(aO (λ(h6:((a).1==6)=true)=>(an (aN 3<|ac h6<|aN 3<|ac (au h5)<|aN 3<|ac (au h4)<|a1 a0)<|bE<|show r95 n a=_ from(cdF h0<|cdF h1<|cdF h2<|cdF h3<|cdF h4<|cdF h5<|aD h6 rfl)))<|λh6=>(an (aN 2<|ac (au h6)<|aN 3<|ac (au h5)<|aN 3<|ac (au h4)<|a1 a0)<|bE<|show r95 n a=_ from(cdF h0<|cdF h1<|cdF h2<|cdF h3<|cdF h4<|cdF h5<|bg h6)))))))))
def r89(n:Net)(a:Int×Int):Bool:=(bif (a).1==2 then((decide<|(a).2>=1)&&decide ((a).2<=(length (map a9 n.types):Int)))else(bif (a).1==3 then((decide<|(a).2>=0)&&decide ((a).2<(length (map a9 n.aJ):Int)))else(bif (a).1==4 then((decide<|(a).2>=0)&&decide ((a).2<(length (map a9 n.bu):Int)))else(bif (a).1==5 then((decide<|(a).2>=0)&&decide ((a).2<(length (map a9 n.bu):Int)))else(bif (a).1==0 then(a).2==0 else(bif (a).1==1 then(a).2==0 else(((a).1==6)&&(a).2==0)))))))
abbrev zr:List Gi:=(.k::uTT 8 [.k,bT])
abbrev zBo:GT:=(.a (.r zr .nil)<|.r zn .nil)
def act89(n:Net)(a:Int×Int):aY pg 111 [.pf (bA n),.ag (cO a)] [] [] (B<|r89 n a) []:=
 aV 111 (.r [bT]<|.r [bT]<|.r [.k,bT]<|.br zBo<|.r [.k,bT]<|.br zBo<|.r [.k,bT]<|.br zBo<|.r [.k,bT]<|.br zBo<|.r [.k,bT]<|.br zAz<|.r [.k,bT]<|.br zAz<|.r [.k,bT]<|.br zAz zF)
 (an a0<|an a0<|an (a1 a0)<|brP (λ(h0:((a).1==2)=true)=>(aO (λ(h1:(decide<|(a).2>=1)=true)=>(an (aN 8<|ac h1<|a1 a0)<|bE<|show r89 n a=_ from(cdT h0<|aD h1 rfl)))<|λh1=>(an (aN 7<|ac (au h1)<|a1 a0)<|bE<|show r89 n a=_ from(cdT h0<|bg h1))))<|λh0=>(an (a1 a0)<|brP (λ(h1:((a).1==3)=true)=>(aO (λ(h2:(zCo a)=true)=>(an (aN 8<|ac h2<|a1 a0)<|bE<|show r89 n a=_ from(cdF h0<|cdT h1<|aD h2 rfl)))<|λh2=>(an (aN 7<|ac (au h2)<|a1 a0)<|bE<|show r89 n a=_ from(cdF h0<|cdT h1<|bg h2))))<|λh1=>(an (a1 a0)<|brP (λ(h2:((a).1==4)=true)=>(aO (λ(h3:(zCo a)=true)=>(an (aN 8<|ac h3<|a1 a0)<|bE<|show r89 n a=_ from(cdF h0<|cdF h1<|cdT h2<|aD h3 rfl)))<|λh3=>(an (aN 7<|ac (au h3)<|a1 a0)<|bE<|show r89 n a=_ from(cdF h0<|cdF h1<|cdT h2<|bg h3))))<|λh2=>(an (a1 a0)<|brP (λ(h3:((a).1==5)=true)=>(aO (λ(h4:(zCo a)=true)=>(an (aN 8<|ac h4<|a1 a0)<|bE<|show r89 n a=_ from(cdF h0<|cdF h1<|cdF h2<|cdT h3<|aD h4 rfl)))<|λh4=>(an (aN 7<|ac (au h4)<|a1 a0)<|bE<|show r89 n a=_ from(cdF h0<|cdF h1<|cdF h2<|cdT h3<|bg h4))))<|λh3=>(an (a1 a0)<|brP (λ(h4:((a).1==0)=true)=>(an (a1 a0)<|bE<|show r89 n a=_ from(cdF h0<|cdF h1<|cdF h2<|cdF h3<|cdT h4 rfl)))<|λh4=>(an (a1 a0)<|brP (λ(h5:((a).1==1)=true)=>(an (a1 a0)<|bE<|show r89 n a=_ from(cdF h0<|cdF h1<|cdF h2<|cdF h3<|cdF h4<|cdT h5 rfl)))<|λh5=>(an (a1 a0)<|brP (λ(h6:((a).1==6)=true)=>(an (a1 a0)<|bE<|show r89 n a=_ from(cdF h0<|cdF h1<|cdF h2<|cdF h3<|cdF h4<|cdF h5<|aD h6 rfl)))<|λh6=>(an a0<|bE<|show r89 n a=_ from(cdF h0<|cdF h1<|cdF h2<|cdF h3<|cdF h4<|cdF h5<|bg h6)))))))))
def acr:Code:=bD 0 (aG 77)
abbrev Uo(s:List (Int×Int))(i0:Nat):Am.Loc:=[(0,.sl 2 (map aP s)),(5,.sl 2 (map aP s)),(6,I (length (map aP s):Int)),(7,I (i0:Int))]
abbrev Up(s:List (Int×Int))(i0:Nat):lXE:=[]
def rr(s:List (Int×Int))(i0:Nat):Bool:=((decide<|(((ae s i0)).1)>(((ae s i0)).2))||((decide<|(i0:Int)>0)&&(decide<|(wrap .i64<|((ae s i0)).1)<=(wrap .i64<|wrap .i64 (((ae s<|i0-1)).2)+1))))
def DU(s:List (Int×Int)):Bool:=dA (length s) (rr s)
abbrev Uq(s:List (Int×Int))(i0:Nat):Am.Loc:=[(2,I 2)]
abbrev Ur(s:List (Int×Int))(i0:Nat):lXE:=[]
abbrev Us(s:List (Int×Int)):Am.Loc:=[]
abbrev Ut(s:List (Int×Int)):lXE:=[]
section
variable(s:List (Int×Int))
def JP:KB:=anK 0 (length s) (rr s) (Uo s) (Up s) .ret (Uq s) (Ur s) (.exit 0) (Us s) (Ut s) (True)
abbrev Gz(i0:Nat):List bf:=[htW (rr s i0) .ret (Uq s i0) zb (Ur s i0),nxW (rr s i0) (Uo s<|i0+1) (Up s<|i0+1) (Uo s<|i0+1) zb (Up s<|i0+1)]
abbrev zCq:=(decide<|(((length s):Nat):Int)<(length (map aP s):Int))
def Uu(ls:length s<=9223372036854775807):cx pg 36 0 0 (.loop acr) (JP s):=
 anB (Gz s) (λi0=>(.r [.k,bT]<|.yes<|.r [.row (aP<|ae s i0),bT]<|.a (.r (.k::uFF 16 [bT]) zB)<|.a (.r (.k::bT::bT::.k::uTT 7 (.int ((i0-1:Nat):Int)::bT::.row (aP<|ae s<|i0-1)::uTT 4 [.int (wrap .i64<|wrap .i64 (((ae s<|i0-1)).2)+1),bT,.k,bT,bT]))<|.br zB<|zD i0)<|.r (.k::bT::bT::.k::bT::uFF 12 [bT,bT])<|zD i0)) (range 0) zE
 (λ_ i0(hx0:i0<(length s))=>have l1:=aL aP (s);have hb:(decide<|(i0:Int)<(length (map aP s):Int))=true:=afT oaa;
 bB (an (a1 a0)<|an hb<|an (ac (rwa aP s i0) a0)<|aO (λ(h1:(decide<|(((ae s i0)).1)>(((ae s i0)).2))=true)=>(an (aN 15<|ac (n2 h1)<|a1 a0)<|an a0<|lf (wy (Gz s i0) 0) 1<|show rr s i0=true from(orT h1)))<|λh1=>have q0:=(orF h1 rfl:rr s i0=_);have g1:=afN h1;
 (aO (λ(h2:(decide<|(i0:Int)>0)=true)=>have q1:=q0.trans (aD h2 rfl);have g2:=afS h2;
 (an (aN 3<|ac (bQ<|wrap .i64<|wrap .i64 (((ae s<|i0-1)).2)+1)<|aN 4<|ac (rwa aP s<|i0-1)<|a1<|ac (dso i0)<|aN 5<|ac h2<|aN 3<|ac (au h1)<|a1 a0)<|brP (λ(h3:(decide<|(wrap .i64<|((ae s i0)).1)<=(wrap .i64<|wrap .i64 (((ae s<|i0-1)).2)+1))=true)=>(an a0<|lf (wy (Gz s i0) 0) 1<|q1.trans h3))<|λh3=>have g3:=afN h3;
 (an (ac (dwo ((i0+1:Nat):Int)) a0)<|lf (wy (Gz s i0) 1) 1 ⟨(q1.trans h3),rfl,rfl⟩)))<|λh2=>have g2:=afN h2;
 (an (aN 12<|ac (au h2)<|aN 3<|ac (au h1)<|a1 a0)<|an (ac (dwo ((i0+1:Nat):Int)) a0)<|lf (wy (Gz s i0) 1) 1 ⟨(q0.trans<|bg h2),rfl,rfl⟩)))
 oab)
 (λ_=>have l1:=aL aP (s);have hb:(zCq s)=false:=afU oaa;
 bB (an (a1 a0)<|an hb<|lx (.exit 0) (Us s) (range 0) (Ut s) 0)
 oab)
def r64:Int:=(bif DU s then 2 else 0)
end
def uF:di [0] (aG 77)=[(0,.loop acr)]:=by kernel_rfl
def adt(s:List (Int×Int))(ls:length s<=9223372036854775807):aY pg 77 [.sl 2 (map aP s)] [] [] (I<|r64 s) []:=
 aV 77 zf
 (an a0<|an a0<|an (kbT (JP s) trivial)<|brP (λ(h0:(DU s)=true)=>(iE<|show r64 s=_ from(cdT h0 rfl)))<|λh0=>(an a0<|iE<|show r64 s=_ from(cdF h0 rfl))) (hk:=(bw (l:=[(0,JP s)]) uF (aK (Uu s ls) rfl aU) rfl))
def acs:Code:=bD 0 (aG 118)
abbrev Uv(s:List (Int×Int))(i0:Nat):Am.Loc:=[(0,.sl 2 (map aP s)),(3,I (i0:Int))]
abbrev Uw(s:List (Int×Int))(i0:Nat):lXE:=[]
def nU(s:List (Int×Int))(i0:Nat):Bool:=((decide<|(((ae s i0)).1)>(((ae s i0)).2))||((decide<|(i0:Int)>0)&&(decide<|(wrap .i64<|((ae s i0)).1)<(wrap .i64<|wrap .i64 (((ae s<|i0-1)).2)+2))))
def oO(s:List (Int×Int)):Bool:=dA (length s) (nU s)
abbrev Ux(s:List (Int×Int))(i0:Nat):Am.Loc:=[(2,I 2)]
abbrev Uy(s:List (Int×Int))(i0:Nat):lXE:=[]
abbrev Uz(s:List (Int×Int)):Am.Loc:=[]
abbrev UA(s:List (Int×Int)):lXE:=[]
section
variable(s:List (Int×Int))
def JQ:KB:=anK 0 (length s) (nU s) (Uv s) (Uw s) .ret (Ux s) (Uy s) (.exit 0) (Uz s) (UA s) (True)
abbrev GA(i0:Nat):List bf:=[htW (nU s i0) .ret (Ux s i0) zb (Uy s i0),nxW (nU s i0) (Uv s<|i0+1) (Uw s<|i0+1) (Uv s<|i0+1) zb (Uw s<|i0+1)]
def UB(ls:length s<=9223372036854775807):cx pg 42 0 0 (.loop acs) (JQ s):=
 anB (GA s) (λi0=>(.r [.k,bT]<|.yes<|.a (.r (.row (aP<|ae s i0)::.row (aP<|ae s i0)::.k::uFF 19 [bT]) zB)<|.a (.r (.row (aP<|ae s i0)::.row (aP<|ae s i0)::.k::bT::bT::.k::uTT 4 (.row (aP<|ae s i0)::uTT 6 (.int ((i0-1:Nat):Int)::bT::.row (aP<|ae s<|i0-1)::uTT 4 [.int (wrap .i64<|wrap .i64 (((ae s<|i0-1)).2)+2),bT,.k,bT,bT])))<|.br zB<|zD i0)<|.r (.row (aP<|ae s i0)::.row (aP<|ae s i0)::.k::bT::bT::.k::bT::uFF 15 [bT,bT])<|zD i0)) (range 0) zE
 (λ_ i0(hx0:i0<(length s))=>have l1:=aL aP (s);have hb:(decide<|(i0:Int)<(length (map aP s):Int))=true:=afT oaa;
 bB (an (a1 a0)<|an hb<|aO (λ(h1:(decide<|(((ae s i0)).1)>(((ae s i0)).2))=true)=>have g1:=afS h1;
 (an (aN 18<|ac (n2 h1)<|a1<|ac (rwa aP s i0)<|ac (rwa aP s i0) a0)<|an a0<|lf (wy (GA s i0) 0) 0<|show nU s i0=true from(orT h1)))<|λh1=>have q0:=(orF h1 rfl:nU s i0=_);have g1:=afN h1;
 (aO (λ(h2:(decide<|(i0:Int)>0)=true)=>have q1:=q0.trans (aD h2 rfl);have g2:=afS h2;
 (an (aN 3<|ac (bQ<|wrap .i64<|wrap .i64 (((ae s<|i0-1)).2)+2)<|aN 4<|ac (rwa aP s<|i0-1)<|a1<|ac (dso i0)<|aN 6<|ac (rwa aP s i0)<|aN 2<|ac h2<|aN 3<|ac (au h1)<|a1<|ac (rwa aP s i0)<|ac (rwa aP s i0) a0)<|brP (λ(h3:(decide<|(wrap .i64<|((ae s i0)).1)<(wrap .i64<|wrap .i64 (((ae s<|i0-1)).2)+2))=true)=>(an a0<|lf (wy (GA s i0) 0) 0<|q1.trans h3))<|λh3=>have g3:=afN h3;
 (an (ac (dwo ((i0+1:Nat):Int)) a0)<|lf (wy (GA s i0) 1) 0 ⟨(q1.trans h3),rfl,rfl⟩)))<|λh2=>have g2:=afN h2;
 (an (aN 15<|ac (au h2)<|aN 3<|ac (au h1)<|a1<|ac (rwa aP s i0)<|ac (rwa aP s i0) a0)<|an (ac (dwo ((i0+1:Nat):Int)) a0)<|lf (wy (GA s i0) 1) 0 ⟨(q0.trans<|bg h2),rfl,rfl⟩)))
 oab)
 (λ_=>have l1:=aL aP (s);have hb:(zCq s)=false:=afU oaa;
 bB (an (a1 a0)<|an hb<|lx (.exit 0) (Uz s) (range 0) (UA s) 0)
 oab)
def r91:Int:=(bif oO s then 2 else 0)
end
def uG:di [0] (aG 118)=[(0,.loop acs)]:=by kernel_rfl
def adu(s:List (Int×Int))(ls:length s<=9223372036854775807):aY pg 118 [.sl 2 (map aP s)] [] [] (I<|r91 s) []:=
 aV 118 zf
 (an a0<|an a0<|an (kbT (JQ s) trivial)<|brP (λ(h0:(oO s)=true)=>(iE<|show r91 s=_ from(cdT h0 rfl)))<|λh0=>(an a0<|iE<|show r91 s=_ from(cdF h0 rfl))) (hk:=(bw (l:=[(0,JQ s)]) uG (aK (UB s ls) rfl aU) rfl))
def MQ:Code:=bD 0 (aG 86)
def acu:Code:=bD 2 MQ
abbrev zBq(l:lXD):=(map a9 l)
abbrev UC(l:lXD)(first:Bool)(i0 i2:Nat):Am.Loc:=[(0,.sl 1 (zBq l)),(1,B first),(5,I (i0:Int)),(6,I (i2:Int))]
abbrev UD(l:lXD)(first:Bool)(i0 i2:Nat):lXE:=[]
def xJ(l:lXD)(first:Bool)(i0 i2:Nat):Bool:=(cT (Array.toList<|ByteArray.data<|ae l i2)<|Array.toList<|ByteArray.data<|ae l i0)
def oP(l:lXD)(first:Bool)(i0:Nat):Bool:=dA (i0) (xJ l first i0)
abbrev UE(l:lXD)(first:Bool)(i0 i2:Nat):Am.Loc:=[(4,B false)]
abbrev UF(l:lXD)(first:Bool)(i0 i2:Nat):lXE:=[]
abbrev UG(l:lXD)(first:Bool)(i0:Nat):Am.Loc:=[(0,.sl 1 (zBq l)),(1,B first),(5,I (i0:Int))]
abbrev UH(l:lXD)(first:Bool)(i0:Nat):lXE:=[]
def DV(l:lXD)(first:Bool)(i0:Nat):KB:=anK 2 (i0) (xJ l first i0) (UC l first i0) (UD l first i0) .ret (UE l first i0) (UF l first i0) (.exit 2) (UG l first i0) (UH l first i0) (True)
abbrev UI(l:lXD)(first:Bool)(i0 i2:Nat):List bf:=[htW (xJ l first i0 i2) .ret (UE l first i0 i2) zb (UF l first i0 i2),nxW (xJ l first i0 i2) (UC l first i0<|i2+1) (UD l first i0<|i2+1) (UC l first i0<|i2+1) zb (UD l first i0<|i2+1)]
abbrev zi(i2:Nat):List Gi:=[.int ↑(i2+1),bT]
section
variable(l:lXD)(first:Bool)(i0:Nat)
def UJ(ls:length l<=9223372036854775807)(hx0:i0<(length l)):cx pg 50 0 2 (.loop acu) (DV l first i0):=
 anB (UI l first i0) (λi2=>(.r [.k,bT]<|.yes<|.r [.row (a9<|ae l i2),.row (a9<|ae l i0),.k,bT]<|.br zB<|.r (zi i2)<|.pick 1)) (range 0) zE
 (λ_ i2(hx2:i2<i0)=>have hb:(decide<|(i2:Int)<(i0:Int))=true:=afT oaa;
 bB (an (a1 a0)<|an hb<|an (a1<|ac (rwa a9 l i0)<|ac (rwa a9 l i2) a0)<|brP (λ(h1:(cT (Array.toList<|ByteArray.data<|ae l i2)<|Array.toList<|ByteArray.data<|ae l i0)=true)=>(an a0<|lf (wy (UI l first i0 i2) 0) 0<|show xJ l first i0 i2=true from h1))<|λh1=>(an (ac (dwo ((i2+1:Nat):Int)) a0)<|lf (wy (UI l first i0 i2) 1) 0 ⟨(show xJ l first i0 i2=false from h1),rfl,rfl⟩))
 oab)
 (λ_=>have hb:(decide<|(i0:Int)<(i0:Int))=false:=afU oaa;
 bB (an (a1 a0)<|an hb<|lx (.exit 2) (UG l first i0) (range 0) (UH l first i0) 0)
 oab)
abbrev UK:Am.Loc:=[(0,.sl 1 (zBq l)),(1,B first),(5,I (i0:Int))]
end
abbrev UL(l:lXD)(first:Bool)(i0:Nat):lXE:=[]
def nV(l:lXD)(first:Bool)(i0:Nat):Bool:=(bif first then(bif (i0:Int)==0 then(!(cT (Array.toList<|ByteArray.data<|ae l 0) []))else((decide<|(ByteArray.size (ae l i0):Int)<1)||((decide<|(ByteArray.size (ae l i0):Int)>40)||(oP l first i0))))else((decide<|(ByteArray.size (ae l i0):Int)<1)||((decide<|(ByteArray.size (ae l i0):Int)>40)||(oP l first i0))))
def vk(l:lXD)(first:Bool):Bool:=dA (length l) (nV l first)
abbrev UM(l:lXD)(first:Bool)(i0:Nat):Am.Loc:=[(4,B false)]
abbrev UN(l:lXD)(first:Bool)(i0:Nat):lXE:=[]
abbrev UO(l:lXD)(first:Bool):Am.Loc:=[]
abbrev UP(l:lXD)(first:Bool):lXE:=[]
def JR(l:lXD)(first:Bool):KB:=anK 0 (length l) (nV l first) (UK l first) (UL l first) .ret (UM l first) (UN l first) (.exit 0) (UO l first) (UP l first) (True)
abbrev nW(l:lXD)(first:Bool)(i0:Nat):List bf:=[htW (nV l first i0) .ret (UM l first i0) zb (UN l first i0),nxW (nV l first i0) (UK l first (i0+1)) (UL l first (i0+1)) (UK l first (i0+1)) zb (UL l first (i0+1))]
def DW:di [2] MQ=[(2,.loop acu)]:=by kernel_rfl
abbrev zAf(i0:Nat):GT:=(.r [bT]<|.br (.pick 0)<|zD i0)
abbrev zBB(i0:Nat)(l:lXD):GT:=(.a (.r (.row (a9<|ae l i0)::.k::uFF 6 [bT]) zB)<|.r [.row (a9<|ae l i0),.k,bT,bT,bT,.row (a9<|ae l i0),bT,bT,bT,.k,bT]<|.br zB<|zAf i0)
abbrev zBP(l:lXD):=(decide<|(((length l):Nat):Int)<(length (map a9 l):Int))
abbrev zCX(i0:Nat)(l:lXD):=(decide<|(i0:Int)<(length (map a9 l):Int))
def UQ(l:lXD)(first:Bool)(ls:length l<=9223372036854775807):cx pg 50 0 0 (.loop MQ) (JR l first):=
 anB (nW l first) (λi0=>(.r [.k,bT]<|.yes<|.a (.r [bT,bT,.k,bT]<|.br (.r [.row (a9<|ae l 0),.k,bT]<|.br zB<|zD i0)<|zBB i0 l)<|.r [bF,bF,bT]<|zBB i0 l)) (range 0) zE
 (λ_ i0(hx0:i0<(length l))=>have l1:=aL a9 (l);have hb:(zCX i0 l)=true:=afT oaa;
 bB (an (a1 a0)<|an hb<|aO (λ(h1:(first)=true)=>have q0:=(cdT h1 rfl:nV l first i0=_);
 (an (aN 2<|ac h1 a0)<|brP (λ(h2:((i0:Int)==0)=true)=>have q2:=q0.trans (cdT h2 rfl);have g2:=eq_of_beq h2;
 (an (a1<|ac (rwa a9 l 0) a0)<|brP (λ(h3:(!(cT (Array.toList<|ByteArray.data<|ae l 0) []))=true)=>(an a0<|lf (wy (nW l first i0) 0) 0<|q2.trans h3))<|λh3=>(an (ac (dwo ((i0+1:Nat):Int)) a0)<|lf (wy (nW l first i0) 1) 0 ⟨(q2.trans h3),rfl,rfl⟩)))<|λh2=>have q3:=q0.trans (cdF h2 rfl);have g2:=afX h2;
 (aO (λ(h3:(decide<|(ByteArray.size (ae l i0):Int)<1)=true)=>have g3:=afS h3;
 (an (aN 5<|ac (n2 h3)<|a1<|ac (rwa a9 l i0) a0)<|an a0<|lf (wy (nW l first i0) 0) 0<|q3.trans<|orT h3))<|λh3=>have q5:=q3.trans (orF h3 rfl);have g3:=afN h3;
 (an (aN 4<|ac (rwa a9 l i0)<|aN 2<|ac (au h3)<|a1<|ac (rwa a9 l i0) a0)<|brP (λ(h4:(decide<|(ByteArray.size (ae l i0):Int)>40)=true)=>(an a0<|lf (wy (nW l first i0) 0) 0<|q5.trans<|orT h4))<|λh4=>have q7:=q5.trans (orF h4 rfl);have g4:=afN h4;
 (an a0<|an (kbT (DV l first i0) trivial)<|brP (λ(h5:(oP l first i0)=true)=>(lf (wy (nW l first i0) 0) 0<|q7.trans h5))<|λh5=>(an (ac (dwo ((i0+1:Nat):Int)) a0)<|lf (wy (nW l first i0) 1) 0 ⟨(q7.trans h5),rfl,rfl⟩))))))<|λh1=>have q1:=(cdF h1 rfl:nV l first i0=_);
 (an (a1<|ac (au h1) a0)<|aO (λ(h2:(decide<|(ByteArray.size (ae l i0):Int)<1)=true)=>have g2:=afS h2;
 (an (aN 5<|ac (n2 h2)<|a1<|ac (rwa a9 l i0) a0)<|an a0<|lf (wy (nW l first i0) 0) 0<|q1.trans<|orT h2))<|λh2=>have q4:=q1.trans (orF h2 rfl);have g2:=afN h2;
 (an (aN 4<|ac (rwa a9 l i0)<|aN 2<|ac (au h2)<|a1<|ac (rwa a9 l i0) a0)<|brP (λ(h3:(decide<|(ByteArray.size (ae l i0):Int)>40)=true)=>(an a0<|lf (wy (nW l first i0) 0) 0<|q4.trans<|orT h3))<|λh3=>have q6:=q4.trans (orF h3 rfl);have g3:=afN h3;
 (an a0<|an (kbT (DV l first i0) trivial)<|brP (λ(h4:(oP l first i0)=true)=>(lf (wy (nW l first i0) 0) 0<|q6.trans h4))<|λh4=>(an (ac (dwo ((i0+1:Nat):Int)) a0)<|lf (wy (nW l first i0) 1) 0 ⟨(q6.trans h4),rfl,rfl⟩)))))
 oab)
 (λ_=>have l1:=aL a9 (l);have hb:(zBP l)=false:=afU oaa;
 bB (an (a1 a0)<|an hb<|lx (.exit 0) (UO l first) (range 0) (UP l first) 0)
 oab) (hk:=λ_ i0 hx0=>(bw (l:=[(2,DV l first i0)]) DW (aK (UJ l first i0 ls hx0) rfl aU) rfl))
def r66(l:lXD)(first:Bool):Bool:=(!(vk l first))
def uH:di [0] (aG 86)=[(0,.loop MQ)]:=by kernel_rfl
def aaV(l:lXD)(first:Bool)(ls:length l<=9223372036854775807):aY pg 86 [.sl 1 (zBq l),B first] [] [] (B<|r66 l first) []:=
 aV 86 zf
 (an a0<|an a0<|an (kbT (JR l first) trivial)<|brP (λ(h0:(vk l first)=true)=>(bE<|show r66 l first=false from(cI h0)))<|λh0=>(an a0<|bE<|show r66 l first=true from(au h0))) (hk:=(bw (l:=[(0,JR l first)]) uH (aK (UQ l first ls) rfl aU) rfl))
section
variable(n:Net)(s r:Int)
def i67:cj:=⟨87,[jD n,I s,I r],B (r67 n s r),True⟩
def g67:(i67 n s r).bS pg:=da λhp=>of67 n s r
def i62:cj:=⟨75,[.pf (bA n),I s,I r],B (r62 n s r),True⟩
def g62:(i62 n s r).bS pg:=da λhp=>of62 n s r
end
def i92(g:G):cj:=⟨119,[.ag (gCC g)],B (r92 g),True⟩
def g92(g:G):(i92 g).bS pg:=da λhp=>ads g
section
variable(n:Net)(a:Int×Int)
def i95:cj:=⟨122,[jD n,.ag (cO a)],B (r95 n a),True⟩
def g95:(i95 n a).bS pg:=da λhp=>act95 n a
def i89:cj:=⟨111,[.pf (bA n),.ag (cO a)],B (r89 n a),True⟩
def g89:(i89 n a).bS pg:=da λhp=>act89 n a
end
section
variable(s:List (Int×Int))
def i64:cj:=⟨77,[.sl 2 (s.map aP)],I (r64 s),s.length<=9223372036854775807⟩
def g64:(i64 s).bS pg:=da λhp=>adt s hp
def i91:cj:=⟨118,[.sl 2 (s.map aP)],I (r91 s),s.length<=9223372036854775807⟩
def g91:(i91 s).bS pg:=da λhp=>adu s hp
end
section
variable(g:G)
def i93:cj:=⟨120,[.ag (gCC g)],I (r93 g),dV g⟩
def g93:(i93 g).bS pg:=da λhp=>aaS g hp
def i81:cj:=⟨103,[.ag (gCC g)],I (r81 g),dV g⟩
def g81:(i81 g).bS pg:=da λhp=>aaT g hp
def i94h(o:Int):cj:=⟨121,[.ag (gCC g),I8 o],B (fp o g),dV g⟩
def RA(o:Int):(i94h g o).bS pg:=da λhp=>Gp o g hp
end
def i66(l:lXD)(f:Bool):cj:=⟨86,[.sl 1 (l.map a9),B f],B (r66 l f),l.length<=9223372036854775807⟩
def g66(l:lXD)(f:Bool):(i66 l f).bS pg:=da λhp=>aaV l f hp
def JS{n:Net}{s r:Int}(h:r67 n s r=true):0<=s/\s<((n.aa.length:Nat):Int):=by grind[r67]
def ru{n:Net}{s r:Int}(h:r62 n s r=true):0<=s/\s<((n.aa.length:Nat):Int):=by grind[r62]
def GB{x:Bool}(h:(!x)=false):x=true:=by cases x<;>simp_all
def GC{x c:Int}{p:Prop}[Decidable p](h:(!((x==c)==decide p))=false):x=c↔p:=by grind
structure GD(e:Edge):Prop where
 g:dV e.g
 op: -128<=e.op/\e.op<=127
 set:e.set.length<=9223372036854775807
 bL:e.bL.length<=9223372036854775807
def MR:Code:=bD 0 (aG 55)
def acv:Code:=bD 2 MR
abbrev zCJ(i0 i2:Nat)(n:Net):Am.Loc:=[(1,.pf (bA n)),(3,I (i0:Int)),(4,.pt 0 0),(5,I (i2:Int))]
abbrev UR(n:Net)(i0 i2:Nat):Am.Loc:=(zCJ i0 i2 n)
abbrev zBu(i0:Nat)(n:Net):=(ae n.rules i0)
abbrev US(n:Net)(i0 i2:Nat):lXE:=[.box 56 (aC<|zBu i0 n)]
def ud(n:Net)(i0 i2:Nat):Bool:=((ae n.rules i2).type==(ae n.rules i0).type)
def ry(n:Net)(i0:Nat):Bool:=dA (i0) (ud n i0)
abbrev UT(n:Net)(i0 i2:Nat):Am.Loc:=[(2,B false)]
abbrev UU(n:Net)(i0 i2:Nat):lXE:=[]
abbrev zBG(i0:Nat)(n:Net):Am.Loc:=[(1,.pf (bA n)),(3,I (i0:Int))]
section
variable(n:Net)
abbrev UW(i0:Nat):Am.Loc:=(zBG i0 n)
abbrev UX(i0:Nat):lXE:=[.box 56 (aC<|zBu i0 n)]
def DX(i0:Nat):KB:=anK 2 (i0) (ud n i0) (UR n i0) (US n i0) .ret (UT n i0) (UU n i0) (.exit 2) (UW n i0) (UX n i0) (True)
abbrev UY(i0 i2:Nat):List bf:=[htW (ud n i0 i2) .ret (UT n i0 i2) zb (UU n i0 i2),nxW (ud n i0 i2) (UR n i0<|i2+1) (US n i0<|i2+1) (UR n i0<|i2+1) zAc (US n i0<|i2+1)]
def UZ(i0:Nat)(ln:length n.rules<=9223372036854775807)(hx0:i0<(length n.rules)):cx pg 122 0 2 (.loop acv) (DX n i0):=
 anB (UY n i0) (λi2=>(.r [.k,bT]<|.yes<|.r [.row (aC<|ae n.rules i2),.k,bT]<|.br zB<|.r (zi i2)<|.pick 1)) (range 1) zE
 (λ_ i2(hx2:i2<i0)=>have hb:(decide<|(i2:Int)<(i0:Int))=true:=afT oaa;
 bB (an (a1 a0)<|an hb<|an (a1<|ac (rwa aC n.rules i2) a0)<|brP (λ(h1:((ae n.rules i2).type==(ae n.rules i0).type)=true)=>(an a0<|lf (wy (UY n i0 i2) 0) 1<|show ud n i0 i2=true from h1))<|λh1=>(an (ac (dwo ((i2+1:Nat):Int)) a0)<|lf (wy (UY n i0 i2) 1) 1 ⟨(show ud n i0 i2=false from h1),rfl,rfl⟩))
 oab)
 (λ_=>have hb:(decide<|(i0:Int)<(i0:Int))=false:=afU oaa;
 bB (an (a1 a0)<|an hb<|lx (.exit 2) (UW n i0) (range 1) (UX n i0) 1)
 oab)
abbrev U0(i0:Nat):Am.Loc:=(zBG i0 n)
end
abbrev U1(n:Net)(i0:Nat):lXE:=[]
def l8(n:Net)(i0:Nat):Bool:=((!(r67 n (ae n.rules i0).start (i0:Int)))||((!(r67 n (ae n.rules i0).stop (i0:Int)))||(((ae n.rules i0).start==(ae n.rules i0).stop)||((decide<|(length (map aQ (aF n.aa (ae n.rules i0).stop).ah):Int)>0)||(bif !(ae n.rules i0).bN then((ae n.rules i0).eF||((ae n.rules i0).lazy||(((ae n.rules i0).mode !=0)||(bif (ae n.rules i0).bN then((ae n.rules i0).left||((decide<|(ae n.rules i0).mode<0)||((decide<|(ae n.rules i0).mode>=(length (map a9 n.bu):Int))||((ae n.rules i0).type !=0))))else((decide<|(ae n.rules i0).mode<0)||((decide<|(ae n.rules i0).mode>=(length (map a9 n.bu):Int))||((ae n.rules i0).type !=0)))))))else(bif (ae n.rules i0).bN then((ae n.rules i0).left||((decide<|(ae n.rules i0).mode<0)||((decide<|(ae n.rules i0).mode>=(length (map a9 n.bu):Int))||(bif (ae n.rules i0).eF then((ae n.rules i0).type !=0)else((decide<|(ae n.rules i0).type<1)||((decide<|(ae n.rules i0).type>(length (map a9 n.types):Int))||(ry n i0)))))))else((decide<|(ae n.rules i0).mode<0)||((decide<|(ae n.rules i0).mode>=(length (map a9 n.bu):Int))||(bif (ae n.rules i0).eF then((ae n.rules i0).type !=0)else((decide<|(ae n.rules i0).type<1)||((decide<|(ae n.rules i0).type>(length (map a9 n.types):Int))||(ry n i0))))))))))))
def vl(n:Net):Bool:=dA (length n.rules) (l8 n)
abbrev U2(n:Net)(i0:Nat):Am.Loc:=[(2,B false)]
abbrev U3(n:Net)(i0:Nat):lXE:=[]
abbrev U4(n:Net):Am.Loc:=[]
abbrev U5(n:Net):lXE:=[]
def JT(n:Net):KB:=anK 0 (length n.rules) (l8 n) (U0 n) (U1 n) .ret (U2 n) (U3 n) (.exit 0) (U4 n) (U5 n) (True)
abbrev ez(n:Net)(i0:Nat):List bf:=[htW (l8 n i0) .ret (U2 n i0) zb (U3 n i0),nxW (l8 n i0) (U0 n<|i0+1) (U1 n<|i0+1) (U0 n<|i0+1) zb (U1 n<|i0+1)]
def DY:di [2] MR=[(2,.loop acv)]:=by kernel_rfl
abbrev zP(n:Net):=(decide<|(((length n.rules):Nat):Int)<(length (map aC n.rules):Int))
section
variable(i0:Nat)(n:Net)
abbrev zg:=(decide<|(ae n.rules i0).mode>=(length (map a9 n.bu):Int))
abbrev zAE:=(decide<|(ae n.rules i0).type>(length (map a9 n.types):Int))
abbrev zAK:=(decide<|(i0:Int)<(length (map aC n.rules):Int))
abbrev zAv:=(decide<|(ae n.rules i0).mode<0)
abbrev zBC:=(decide<|(length (map aQ (aF n.aa (ae n.rules i0).stop).ah):Int)>0)
abbrev zBj:=(decide<|(ae n.rules i0).type<1)
abbrev zBl:=((ae n.rules i0).type !=0)
abbrev zBm:List Gi:=[.row (aC<|zBu i0 n),bT]
end
abbrev zBx(i0:Nat):GT:=(.r [bT,bT,bT]<|.br (.r [.k,bT]<|.br zB<|zD i0)<|.a (.r zJ zB)<|.r zy<|.br zB<|zAf i0)
abbrev zCl(i0:Nat)(n:Net):=((ae n.rules i0).start==(ae n.rules i0).stop)
def U6(n:Net)(ln:length n.rules<=9223372036854775807):cx pg 122 0 0 (.loop MR) (JT n):=
 anB (ez n) (λi0=>(.r [.k,bT]<|.yes<|.r (zBm i0 n)<|.a (.r (.int 0::uFF 20 [bT]) zB)<|.a (.r (.int 0::uTT 5 (.int 1::bT::uFF 14 [bT])) zB)<|.a (.r (.int 0::uTT 5 (.int 1::uTT 6 (.k::uFF 9 [bT]))) zB)<|.r (.int 0::uTT 5 (.int 1::uTT 6 (.k::uTT 5 (.bG ((ae n.rules i0).stop).toNat (aq<|aF n.aa (ae n.rules i0).stop)::uTT 4 [.k,bT]))))<|.br zB<|.a (.a (.r (bT::bT::bT::bF::bF::bT::bT::bF::bF::bF::bT::uFF 15 [bT]) zB)<|.a (.r (uTT 7 (bF::bF::bF::bT::uFF 15 [bT])) zB)<|.a (.r (uTT 10 (.k::bT::uFF 15 [bT])) zB)<|.a (.a (.r (uTT 10 (.k::uTT 7 (uFF 9 [bT]))) zB)<|.a (.r (uTT 10 (.k::uTT 10 (.k::uFF 6 [bT]))) zB)<|.r (uTT 10 (.k::uTT 10 (.k::uTT 6 [.k,bT])))<|.br zB<|.r [bF,bF,bT]<|.r [.k,bT]<|.br zB<|zD i0)<|.a (.r (uTT 10 (.k::uTT 4 (bF::bF::uTT 4 (.k::uFF 6 [bT])))) zB)<|.r (uTT 10 (.k::uTT 4 (bF::bF::uTT 4 (.k::uTT 6 [.k,bT]))))<|.br zB<|.r [bF,bF,bT]<|.r [.k,bT]<|.br zB<|zD i0)<|.a (.a (.r (uFF 11<|uTT 6<|uFF 9 [bT]) zB)<|.a (.r (uFF 11<|uTT 9 (.k::uFF 6 [bT])) zB)<|.r (uFF 11<|uTT 9 (.k::uTT 6 [.k,bT]))<|.br zB<|zBx i0)<|.a (.r (uFF 11 (bT::bT::bT::bF::bF::uTT 4 (.k::uFF 6 [bT]))) zB)<|.r (uFF 11 (bT::bT::bT::bF::bF::uTT 4 (.k::uTT 6 [.k,bT])))<|.br zB<|zBx i0)) (range 0) zE
 (λ_ i0(hx0:i0<(length n.rules))=>have l1:=aL aC (n.rules);have hb:(zAK i0 n)=true:=afT oaa;
 bB (an (a1 a0)<|an hb<|an (ac (rwa aC n.rules i0) a0)<|aO (λ(h1:(!(r67 n (ae n.rules i0).start (i0:Int)))=true)=>(an (aN 19<|ac (n2 h1)<|cA (g67 n (ae n.rules i0).start (i0:Int)) trivial a0)<|an a0<|lf (wy (ez n i0) 0) 1<|show l8 n i0=true from(orT h1)))<|λh1=>have q0:=(orF h1 rfl:l8 n i0=_);have g1:=JS (GB h1);
 (aO (λ(h2:(!(r67 n (ae n.rules i0).stop (i0:Int)))=true)=>(an (aN 13<|ac (n2 h2)<|a1<|cA (g67 n (ae n.rules i0).stop (i0:Int)) trivial<|aN 4<|ac (au h1)<|cA (g67 n (ae n.rules i0).start (i0:Int)) trivial a0)<|an a0<|lf (wy (ez n i0) 0) 1<|q0.trans<|orT h2))<|λh2=>have q1:=q0.trans (orF h2 rfl);have g2:=JS (GB h2);
 (aO (λ(h3:(zCl i0 n)=true)=>(an (aN 8<|ac (n2 h3)<|aN 5<|ac (au h2)<|a1<|cA (g67 n (ae n.rules i0).stop (i0:Int)) trivial<|aN 4<|ac (au h1)<|cA (g67 n (ae n.rules i0).start (i0:Int)) trivial a0)<|an a0<|lf (wy (ez n i0) 0) 1<|q1.trans<|orT h3))<|λh3=>have q2:=q1.trans (orF h3 rfl);
 (have l2:=aL aq (n.aa);an (aN 5<|ac (rwz aq n.aa (ae n.rules i0).stop)<|aN 4<|ac (au h3)<|aN 5<|ac (au h2)<|a1<|cA (g67 n (ae n.rules i0).stop (i0:Int)) trivial<|aN 4<|ac (au h1)<|cA (g67 n (ae n.rules i0).start (i0:Int)) trivial a0)<|brP (λ(h4:(zBC i0 n)=true)=>(an a0<|lf (wy (ez n i0) 0) 1<|q2.trans<|orT h4))<|λh4=>have q3:=q2.trans (orF h4 rfl);have l3:=aL aQ ((aF n.aa (ae n.rules i0).stop).ah);have g4:=afN h4;
 (aO (λ(h5:(!(ae n.rules i0).bN)=true)=>have q4:=q3.trans (cdT h5 rfl);
 (aO (λ(h6:((ae n.rules i0).eF)=true)=>(an (aN 22<|ac (n2 h6)<|aN 2<|ac h5 a0)<|an a0<|lf (wy (ez n i0) 0) 1<|q4.trans<|orT h6))<|λh6=>have q6:=q4.trans (orF h6 rfl);
 (aO (λ(h7:((ae n.rules i0).lazy)=true)=>(an (aN 18<|ac (n2 h7)<|aN 3<|ac (au h6)<|aN 2<|ac h5 a0)<|an a0<|lf (wy (ez n i0) 0) 1<|q6.trans<|orT h7))<|λh7=>have q9:=q6.trans (orF h7 rfl);
 (aO (λ(h8:((ae n.rules i0).mode !=0)=true)=>(an (aN 14<|ac (n2 h8)<|aN 4<|ac (au h7)<|aN 3<|ac (au h6)<|aN 2<|ac h5 a0)<|an a0<|lf (wy (ez n i0) 0) 1<|q9.trans<|orT h8))<|λh8=>have q12:=q9.trans (orF h8 rfl);have g8:=fY h8;
 (aO (λ(h9:((ae n.rules i0).bN)=true)=>have q15:=q12.trans (cdT h9 rfl);
 (aO (λ(h10:((ae n.rules i0).left)=true)=>(an (aN 8<|ac (n2 h10)<|aN 2<|ac h9<|aN 2<|ac (au h8)<|aN 4<|ac (au h7)<|aN 3<|ac (au h6)<|aN 2<|ac h5 a0)<|an a0<|lf (wy (ez n i0) 0) 1<|q15.trans<|orT h10))<|λh10=>have q20:=q15.trans (orF h10 rfl);
 (aO (λ(h11:(zAv i0 n)=true)=>(an (aN 5<|ac (n2 h11)<|aN 3<|ac (au h10)<|aN 2<|ac h9<|aN 2<|ac (au h8)<|aN 4<|ac (au h7)<|aN 3<|ac (au h6)<|aN 2<|ac h5 a0)<|an a0<|lf (wy (ez n i0) 0) 1<|q20.trans<|orT h11))<|λh11=>have q25:=q20.trans (orF h11 rfl);have g11:=afN h11;
 (an (aN 6<|ac (au h11)<|aN 3<|ac (au h10)<|aN 2<|ac h9<|aN 2<|ac (au h8)<|aN 4<|ac (au h7)<|aN 3<|ac (au h6)<|aN 2<|ac h5 a0)<|brP (λ(h12:(zg i0 n)=true)=>(an a0<|lf (wy (ez n i0) 0) 1<|q25.trans<|orT h12))<|λh12=>have q29:=q25.trans (orF h12 rfl);have l4:=aL a9 (n.bu);have g12:=afN h12;
 (an (a1<|ac (n2 h5) a0)<|an (a1 a0)<|brP (λ(h13:(zBl i0 n)=true)=>(an a0<|lf (wy (ez n i0) 0) 1<|q29.trans h13))<|λh13=>have g13:=fY h13;
 (an (ac (dwo ((i0+1:Nat):Int)) a0)<|lf (wy (ez n i0) 1) 1 ⟨(q29.trans h13),rfl,rfl⟩))))))<|λh9=>have q16:=q12.trans (cdF h9 rfl);
 (aO (λ(h10:(zAv i0 n)=true)=>(an (aN 5<|ac (n2 h10)<|aN 6<|ac (au h9)<|aN 2<|ac (au h8)<|aN 4<|ac (au h7)<|aN 3<|ac (au h6)<|aN 2<|ac h5 a0)<|an a0<|lf (wy (ez n i0) 0) 1<|q16.trans<|orT h10))<|λh10=>have q21:=q16.trans (orF h10 rfl);have g10:=afN h10;
 (an (aN 6<|ac (au h10)<|aN 6<|ac (au h9)<|aN 2<|ac (au h8)<|aN 4<|ac (au h7)<|aN 3<|ac (au h6)<|aN 2<|ac h5 a0)<|brP (λ(h11:(zg i0 n)=true)=>(an a0<|lf (wy (ez n i0) 0) 1<|q21.trans<|orT h11))<|λh11=>have q26:=q21.trans (orF h11 rfl);have l4:=aL a9 (n.bu);have g11:=afN h11;
 (an (a1<|ac (n2 h5) a0)<|an (a1 a0)<|brP (λ(h12:(zBl i0 n)=true)=>(an a0<|lf (wy (ez n i0) 0) 1<|q26.trans h12))<|λh12=>have g12:=fY h12;
 (an (ac (dwo ((i0+1:Nat):Int)) a0)<|lf (wy (ez n i0) 1) 1 ⟨(q26.trans h12),rfl,rfl⟩)))))))))<|λh5=>have q5:=q3.trans (cdF h5 rfl);
 (aO (λ(h6:((ae n.rules i0).bN)=true)=>have q7:=q5.trans (cdT h6 rfl);
 (aO (λ(h7:((ae n.rules i0).left)=true)=>(an (aN 8<|ac (n2 h7)<|aN 2<|ac h6<|aN 13<|ac (au h5) a0)<|an a0<|lf (wy (ez n i0) 0) 1<|q7.trans<|orT h7))<|λh7=>have q10:=q7.trans (orF h7 rfl);
 (aO (λ(h8:(zAv i0 n)=true)=>(an (aN 5<|ac (n2 h8)<|aN 3<|ac (au h7)<|aN 2<|ac h6<|aN 13<|ac (au h5) a0)<|an a0<|lf (wy (ez n i0) 0) 1<|q10.trans<|orT h8))<|λh8=>have q13:=q10.trans (orF h8 rfl);have g8:=afN h8;
 (an (aN 6<|ac (au h8)<|aN 3<|ac (au h7)<|aN 2<|ac h6<|aN 13<|ac (au h5) a0)<|brP (λ(h9:(zg i0 n)=true)=>(an a0<|lf (wy (ez n i0) 0) 1<|q13.trans<|orT h9))<|λh9=>have q17:=q13.trans (orF h9 rfl);have l4:=aL a9 (n.bu);have g9:=afN h9;
 (an (a1<|ac (au h5) a0)<|brP (λ(h10:((ae n.rules i0).eF)=true)=>have q22:=q17.trans (cdT h10 rfl);
 (an (a1 a0)<|brP (λ(h11:(zBl i0 n)=true)=>(an a0<|lf (wy (ez n i0) 0) 1<|q22.trans h11))<|λh11=>have g11:=fY h11;
 (an (ac (dwo ((i0+1:Nat):Int)) a0)<|lf (wy (ez n i0) 1) 1 ⟨(q22.trans h11),rfl,rfl⟩)))<|λh10=>have q23:=q17.trans (cdF h10 rfl);
 (aO (λ(h11:(zBj i0 n)=true)=>(an (aN 5<|ac (n2 h11)<|a1 a0)<|an a0<|lf (wy (ez n i0) 0) 1<|q23.trans<|orT h11))<|λh11=>have q27:=q23.trans (orF h11 rfl);have g11:=afN h11;
 (an (aN 6<|ac (au h11)<|a1 a0)<|brP (λ(h12:(zAE i0 n)=true)=>(an a0<|lf (wy (ez n i0) 0) 1<|q27.trans<|orT h12))<|λh12=>have q30:=q27.trans (orF h12 rfl);have l5:=aL a9 (n.types);have g12:=afN h12;
 (an a0<|an (kbT (DX n i0) trivial)<|brP (λ(h13:(ry n i0)=true)=>(lf (wy (ez n i0) 0) 0<|q30.trans h13))<|λh13=>(an (ac (dwo ((i0+1:Nat):Int)) a0)<|lf (wy (ez n i0) 1) 1 ⟨(q30.trans h13),rfl,rfl⟩)))))))))<|λh6=>have q8:=q5.trans (cdF h6 rfl);
 (aO (λ(h7:(zAv i0 n)=true)=>(an (aN 5<|ac (n2 h7)<|aN 6<|ac (au h6)<|aN 13<|ac (au h5) a0)<|an a0<|lf (wy (ez n i0) 0) 1<|q8.trans<|orT h7))<|λh7=>have q11:=q8.trans (orF h7 rfl);have g7:=afN h7;
 (an (aN 6<|ac (au h7)<|aN 6<|ac (au h6)<|aN 13<|ac (au h5) a0)<|brP (λ(h8:(zg i0 n)=true)=>(an a0<|lf (wy (ez n i0) 0) 1<|q11.trans<|orT h8))<|λh8=>have q14:=q11.trans (orF h8 rfl);have l4:=aL a9 (n.bu);have g8:=afN h8;
 (an (a1<|ac (au h5) a0)<|brP (λ(h9:((ae n.rules i0).eF)=true)=>have q18:=q14.trans (cdT h9 rfl);
 (an (a1 a0)<|brP (λ(h10:(zBl i0 n)=true)=>(an a0<|lf (wy (ez n i0) 0) 1<|q18.trans h10))<|λh10=>have g10:=fY h10;
 (an (ac (dwo ((i0+1:Nat):Int)) a0)<|lf (wy (ez n i0) 1) 1 ⟨(q18.trans h10),rfl,rfl⟩)))<|λh9=>have q19:=q14.trans (cdF h9 rfl);
 (aO (λ(h10:(zBj i0 n)=true)=>(an (aN 5<|ac (n2 h10)<|a1 a0)<|an a0<|lf (wy (ez n i0) 0) 1<|q19.trans<|orT h10))<|λh10=>have q24:=q19.trans (orF h10 rfl);have g10:=afN h10;
 (an (aN 6<|ac (au h10)<|a1 a0)<|brP (λ(h11:(zAE i0 n)=true)=>(an a0<|lf (wy (ez n i0) 0) 1<|q24.trans<|orT h11))<|λh11=>have q28:=q24.trans (orF h11 rfl);have l5:=aL a9 (n.types);have g11:=afN h11;
 (an a0<|an (kbT (DX n i0) trivial)<|brP (λ(h12:(ry n i0)=true)=>(lf (wy (ez n i0) 0) 0<|q28.trans h12))<|λh12=>(an (ac (dwo ((i0+1:Nat):Int)) a0)<|lf (wy (ez n i0) 1) 1 ⟨(q28.trans h12),rfl,rfl⟩)))))))))))))
 oab)
 (λ_=>have l1:=aL aC (n.rules);have hb:(zP n)=false:=afU oaa;
 bB (an (a1 a0)<|an hb<|lx (.exit 0) (U4 n) (range 0) (U5 n) 0)
 oab) (hc:=λ_ i0 hx0=>(bn (.cons (g67 n (ae n.rules i0).start (i0:Int)) rfl<|.cons (g67 n (ae n.rules i0).stop (i0:Int)) rfl cy.nil) aE)) (hk:=λ_ i0 hx0=>(bw (l:=[(2,DX n i0)]) DY (aK (UZ n i0 ln hx0) rfl aU) rfl))
def r32(n:Net):Bool:=(!(vl n))
def uI:di [0] (aG 55)=[(0,.loop MR)]:=by kernel_rfl
def aaW(n:Net)(ln:length n.rules<=9223372036854775807):aY pg 55 [.ag (bA n)] [] [] (B<|r32 n) []:=
 aV 55 zf
 (an a0<|an a0<|an (kbT (JT n) trivial)<|brP (λ(h0:(vl n)=true)=>(bE<|show r32 n=false from(cI h0)))<|λh0=>(an a0<|bE<|show r32 n=true from(au h0))) (hk:=(bw (l:=[(0,JT n)]) uI (aK (U6 n ln) rfl aU) rfl))
def acw:Code:=bD 0 (aG 88)
abbrev U7(n:Net)(s:State)(at':Int)(e:Edge)(i0:Nat):Am.Loc:=[(4,.pf (bA n)),(7,.pf (aQ e)),(9,.pt 0 0),(12,I (i0:Int))]
abbrev U8(n:Net)(s:State)(at':Int)(e:Edge)(i0:Nat):lXE:=[.box 56 (aC<|aF n.rules s.aH)]
def Ca(n:Net)(s:State)(at':Int)(e:Edge)(i0:Nat):Bool:=(!(r95 n<|ae e.bL i0))
def DZ(n:Net)(s:State)(at':Int)(e:Edge):Bool:=dA (length e.bL) (Ca n s at' e)
abbrev U9(n:Net)(s:State)(at':Int)(e:Edge)(i0:Nat):Am.Loc:=[(8,B false)]
abbrev Va(n:Net)(s:State)(at':Int)(e:Edge)(i0:Nat):lXE:=[]
abbrev Vb(n:Net)(s:State)(at':Int)(e:Edge):Am.Loc:=[(9,.pt 0 0)]
section
variable(n:Net)(s:State)
abbrev Vc(at':Int)(e:Edge):lXE:=[.box 56 (aC<|aF n.rules s.aH)]
def JU(at':Int)(e:Edge):KB:=anK 0 (length e.bL) (Ca n s at' e) (U7 n s at' e) (U8 n s at' e) .ret (U9 n s at' e) (Va n s at' e) (.exit 0) (Vb n s at' e) (Vc n s at' e) (True)
abbrev Vd(at':Int)(e:Edge)(i0:Nat):List bf:=[htW (Ca n s at' e i0) .ret (U9 n s at' e i0) zb (Va n s at' e i0),nxW (Ca n s at' e i0) (U7 n s at' e<|i0+1) (U8 n s at' e<|i0+1) (U7 n s at' e<|i0+1) zAc (U8 n s at' e<|i0+1)]
end
abbrev zCM(e:Edge):=(decide<|(((length e.bL):Nat):Int)<(length (map cO e.bL):Int))
section
variable(n:Net)(s:State)(at':Int)(e:Edge)
def Ve(he:GD e)(hr:0<=State.aH s/\State.aH s<(length n.rules:Int)):cx pg 262 0 0 (.loop acw) (JU n s at' e):=
 anB (Vd n s at' e) (λi0=>(.r [.k,bT]<|.yes<|.r [.row (cO<|ae e.bL i0),.int 0,bT]<|.br zB<|zD i0)) (range 1) zE
 (λ_ i0(hx0:i0<(length e.bL))=>have hr1:=hr.1;have hr2:=hr.2;have la:=he.bL;have ls:=he.set;have l1:=aL cO (e.bL);have hb:(decide<|(i0:Int)<(length (map cO e.bL):Int))=true:=afT oaa;
 bB (an (a1 a0)<|an hb<|an (cA (g95 n<|ae e.bL i0) trivial<|ac (rwa cO e.bL i0) a0)<|brP (λ(h1:(!(r95 n<|ae e.bL i0))=true)=>(an a0<|lf (wy (Vd n s at' e i0) 0) 1<|show Ca n s at' e i0=true from h1))<|λh1=>(an (ac (dwo ((i0+1:Nat):Int)) a0)<|lf (wy (Vd n s at' e i0) 1) 1 ⟨(show Ca n s at' e i0=false from h1),rfl,rfl⟩))
 oab)
 (λ_=>have hr1:=hr.1;have hr2:=hr.2;have la:=he.bL;have ls:=he.set;have l1:=aL cO (e.bL);have hb:(zCM e)=false:=afU oaa;
 bB (an (a1 a0)<|an hb<|lx (.exit 0) (Vb n s at' e) (range 1) (Vc n s at' e) 1)
 oab) (hc:=λ_ i0 hx0=>(bn (.cons (g95 n<|ae e.bL i0) rfl cy.nil) aE))
def r68:Bool:=(!(!(r67 n e.to s.aH))&&(!((r91 e.set) !=0)&&(!(!((e.op==1)==(decide<|(length (map aP e.set):Int)>0)))&&(!(!((e.op==7)==(decide<|(length (map cO e.bL):Int)>0)))&&(bif e.op !=3 then(!(!(r92 e.g))&&(!(!((e.op==4)==(at'==(aF n.rules s.aH).start)))&&(bif e.op==1 then(bif !(aF n.rules s.aH).bN then(!(decide<|(((ae e.set 0)).1)<1)&&(!(decide<|(((aF e.set<|(length (map aP e.set):Int)-1)).2)>(wrap .i32 (length (map a9 n.types):Int)))&&(!(e.n !=0)&&(!(e.level !=0)&&e.op==1))))else(!(decide<|(((ae e.set 0)).1)<0)&&(!(decide<|(((aF e.set<|(length (map aP e.set):Int)-1)).2)>1114111)&&(!(e.n !=0)&&(!(e.level !=0)&&e.op==1)))))else(bif e.op==2 then(!(decide<|e.n<0)&&(!(decide<|e.n>=(length (map aC n.rules):Int))&&(!(!((aF n.rules e.n).bN==(aF n.rules s.aH).bN))&&(!(decide<|e.level<0)&&(!(decide<|e.level>65)&&(bif decide (e.level>0)then(!(e.n !=s.aH)&&(!(!(aF n.rules s.aH).left)))else true))))))else(bif e.op==4 then((decide<|e.n>=1)&&((decide<|e.n<=64)&&e.level==0))else(bif e.op==5 then((aF n.rules s.aH).left&&((decide<|e.n>=1)&&((decide<|e.n<=64)&&((decide<|e.level>=1)&&decide (e.level<=64)))))else(!(e.n !=0)&&(!(e.level !=0)&&(bif e.op==7 then(!(DZ n s at' e)&&((aF n.rules s.aH).bN&& !(aF n.rules s.aH).eF))else(bif e.op==6 then(aF n.rules s.aH).left else((e.op==0)||e.op==1)))))))))))else(!(!((e.op==4)==(at'==(aF n.rules s.aH).start)))&&(!(e.n !=0)&&(!(e.level !=0)&&(((r93 e.g)==0)&&((!(fp 14 e.g))&&((aF n.rules s.aH).bN|| !(fp 13 e.g))))))))))))
end
def uJ:di [0] (aG 88)=[(0,.loop acw)]:=by kernel_rfl
abbrev zCZ(e:Edge):=(map aP e.set)
abbrev zX(e:Edge):GT:=(.a (.r (.row (aP<|ae e.set 0)::.k::uFF 11 [bT]) zF)<|.r (.row (aP<|ae e.set 0)::.k::uTT 6 (.int ((length (zCZ e):Int)-1)::bT::.bG (((length (zCZ e):Int)-1)).toNat (aP<|aF e.set<|(length (zCZ e):Int)-1)::uTT 4 [.k,bT]))<|.br zF<|.r [.k,bT]<|.no<|.r [.k,bT]<|.no<|.r [.k,bT]<|.no<|.a (.r zAX zF)<|.r zAD<|.br zF<|.r [.k,bT]<|.no<|.r [.k,bT]<|.no<|.r [.k,bT]<|.no<|.r zAD .nil)
abbrev zCK:List Gi:=[.k,.k,.k,bT]
abbrev zCY:GT:=(.r (uFF 12 [bT]) .nil)
def adv(n:Net)(s:State)(at':Int)(e:Edge)(he:GD e)(hr:0<=State.aH s/\State.aH s<(length n.rules:Int)):aY pg 88 [.ag (bA n),.ag (aq s),I at',.ag (aQ e)] [] [] (B<|r68 n s at' e) []:=
 have hr1:=hr.1;have hr2:=hr.2;have la:=he.bL;have ls:=he.set;aV 88 (.r [bT]<|.r [.bG (s.aH).toNat (aC<|aF n.rules s.aH),bT]<|.a (.r (.int 0::uFF 4 [bT]) zF)<|.r [.int 0,bT,bT,bT,.int 1,bT,.k,bT]<|.br zF<|.a (.r (.k::.k::.k::uFF 17 [bT]) zF)<|.a (.r (.k::.k::.k::bT::bT::bT::.k::uTT 4 (.k::bT::.k::uFF 9 [bT])) zF)<|.a (.r (.k::.k::.k::bT::bT::bT::.k::uTT 4 (.k::bT::.k::bT::bT::bT::.k::uTT 4 [.int 2,bT,bT,bT]))<|.br zF<|.r zCK<|.br zF<|.r [.k,bT]<|.br (.r [bT]<|.r [bT]<|.br (.r [bT]<|.r [bT]<|zX e)<|zX e)<|.r [.k,bT]<|.br (.a (.r (.k::uFF 37 [bT]) zF)<|.a (.r (.k::uTT 6 (.k::uFF 31 [bT])) zF)<|.a (.r (.k::uTT 6 (.k::uTT 5 (.bG (e.n).toNat (aC<|aF n.rules e.n)::uTT 5 (.k::uFF 21 [bT])))) zF)<|.a (.r (.k::uTT 6 (.k::uTT 5 (.bG (e.n).toNat (aC<|aF n.rules e.n)::uTT 5 (.k::bT::bT::bT::.k::uFF 18 [bT])))) zF)<|.a (.r (.k::uTT 6 (.k::uTT 5 (.bG (e.n).toNat (aC<|aF n.rules e.n)::uTT 5 (.k::bT::bT::bT::.k::bT::bT::bT::.k::uFF 15 [bT])))) zF)<|.a (.a (.r (.k::uTT 6 (.k::uTT 5 (.bG (e.n).toNat (aC<|aF n.rules e.n)::uTT 5 (.k::bT::bT::bT::.k::bT::bT::bT::.k::bT::bT::bT::.k::uTT 6 [.k,bT,bF,bF,bF,bT,bT,bT])))) zF)<|.r (.k::uTT 6 (.k::uTT 5 (.bG (e.n).toNat (aC<|aF n.rules e.n)::uTT 5 (.k::bT::bT::bT::.k::bT::bT::bT::.k::bT::bT::bT::.k::uTT 6 (.k::uTT 7 [])))))<|.br zF zF)<|.r (.k::uTT 6 (.k::uTT 5 (.bG (e.n).toNat (aC<|aF n.rules e.n)::uTT 5 (.k::bT::bT::bT::.k::bT::bT::bT::.k::bT::bT::bT::.k::bT::uFF 10 [bT,bT])))) zF)<|.r [.k,bT]<|.br zV<|.r [.k,bT]<|.br (.a (.a (.a (.a (.r [bT,bT,bT,.k,bT,bT,bT,.k,bT,bT,bT,.k,bT,bT,bT,.k,bT] .nil)<|.r [bT,bT,bT,.k,bT,bT,bT,.k,bT,bT,bT,.k,bF,bF,bF,bT] .nil)<|.r (bT::bT::bT::.k::bT::bT::bT::.k::uFF 6 [bT]) .nil)<|.r (bT::bT::bT::.k::uFF 9 [bT]) .nil) zCY)<|.a (.r zAX zF)<|.r zAD<|.br zF<|.r [.k,bT]<|.no<|.r [.k,bT]<|.br (.r [bT]<|.br .nil<|.a (.r (uTT 4 []) .nil)<|.r [bF,bF,bF,bT] .nil)<|.r [.k,bT]<|.br zF<|.a (.r zAX .nil)<|.r zAD .nil)<|.r (.k::.k::.k::bT::bT::bT::.k::uTT 4 (.k::bT::.k::bT::bT::bT::.k::bT::uFF 4 [bT,bT]))<|.r zCK<|.br zF<|.r [.k,bT]<|.no<|.r [.k,bT]<|.no<|.r [.k,bT]<|.no<|.r [.k,bT]<|.no<|.a (.r zAX zF)<|.r zAD<|.br zF<|.r [.k,bT]<|.yes<|.a (.a (.a (.r (.int 3::.k::bT::bT::bT::.int 4::uTT 4 (uFF 4 [bT,bT])) .nil)<|.r (.int 3::.k::bT::bT::bT::.int 4::uTT 7 [.int 5,bT,bT,bT]) .nil)<|.r (.int 3::.k::bT::bT::bT::.int 4::bT::uFF 8 [bT]) .nil)<|.r (.int 3::.k::uFF 12 [bT]) .nil)
 (an a0<|have l1:=aL aC (n.rules);an (ac (rwz aC n.rules s.aH) a0)<|aO (λ(h0:(!(r67 n e.to s.aH))=true)=>(an (aN 3<|ac (n2 h0)<|cA (g67 n e.to s.aH) trivial a0)<|an a0<|bE<|show r68 n s at' e=false from(bg<|cI h0)))<|λh0=>have q0:=(aD (au h0) rfl:r68 n s at' e=_);have g0:=JS (GB h0);
 (an (aN 2<|cA (g91 e.set) he.set<|aN 2<|ac (au h0)<|cA (g67 n e.to s.aH) trivial a0)<|brP (λ(h1:((r91 e.set) !=0)=true)=>(an a0<|bE<|q0.trans<|bg<|cI h1))<|λh1=>have q1:=q0.trans (aD (au h1) rfl);have g1:=fY h1;
 (aO (λ(h2:(!((e.op==1)==(decide<|(length (map aP e.set):Int)>0)))=true)=>(an (aN 16<|ac (n2 h2)<|aN 3 a0)<|an a0<|bE<|q1.trans<|bg<|cI h2))<|λh2=>have q2:=q1.trans (aD (au h2) rfl);have l2:=aL aP (e.set);have g2:=GC h2;have g2:=GC h2;
 (aO (λ(h3:(!((e.op==7)==(decide<|(length (map cO e.bL):Int)>0)))=true)=>(an (aN 8<|ac (n2 h3)<|aN 10<|ac (au h2)<|aN 3 a0)<|an a0<|bE<|q2.trans<|bg<|cI h3))<|λh3=>have q3:=q2.trans (aD (au h3) rfl);have l3:=aL cO (e.bL);have g3:=GC h3;have g3:=GC h3;
 (aO (λ(h4:(e.op !=3)=true)=>have q4:=q3.trans (cdT h4 rfl);have g4:=F4 h4;
 (an (aN 2<|cA (g92 e.g) trivial<|aN 2<|ac h4<|aN 4<|ac (au h3)<|aN 10<|ac (au h2)<|aN 3 a0)<|brP (λ(h5:(!(r92 e.g))=true)=>(an a0<|bE<|q4.trans<|bg<|cI h5))<|λh5=>have q6:=q4.trans (aD (au h5) rfl);
 (an (aN 3 a0)<|brP (λ(h6:(!((e.op==4)==(at'==(aF n.rules s.aH).start)))=true)=>(an a0<|bE<|q6.trans<|bg<|cI h6))<|λh6=>have q8:=q6.trans (aD (au h6) rfl);
 (an (a1 a0)<|brP (λ(h7:(e.op==1)=true)=>have q10:=q8.trans (cdT h7 rfl);have g7:=eq_of_beq h7;
 (an a0<|an a0<|brP (λ(h8:(!(aF n.rules s.aH).bN)=true)=>have q13:=q10.trans (cdT h8 rfl);
 (an a0<|an a0<|aO (λ(h9:(decide<|(((ae e.set 0)).1)<1)=true)=>have g9:=afS h9;
 (an (aN 10<|ac (n2 h9)<|a1<|ac (rwa aP e.set 0) a0)<|an a0<|bE<|q13.trans<|bg<|cI h9))<|λh9=>have q18:=q13.trans (aD (au h9) rfl);have g9:=afN h9;
 (an (aN 5<|ac (rwz aP e.set<|(length (map aP e.set):Int)-1)<|a1<|ac (dwo<|(length (map aP e.set):Int)-1)<|aN 5<|ac (au h9)<|a1<|ac (rwa aP e.set 0) a0)<|brP (λ(h10:(decide<|(((aF e.set<|(length (map aP e.set):Int)-1)).2)>(wrap .i32 (length (map a9 n.types):Int)))=true)=>(an a0<|bE<|q18.trans<|bg<|cI h10))<|λh10=>have q23:=q18.trans (aD (au h10) rfl);
 (an (a1 a0)<|an (show(e.op==2)=false by rw[eq_of_beq h7];rfl)<|an (a1 a0)<|an (show(e.op==4)=false by rw[eq_of_beq h7];rfl)<|an (a1 a0)<|an (show(e.op==5)=false by rw[eq_of_beq h7];rfl)<|aO (λ(h11:(e.n !=0)=true)=>(an (aN 2<|ac (n2 h11)<|a1 a0)<|an a0<|bE<|q23.trans<|bg<|cI h11))<|λh11=>(an (aN 3<|ac (au h11)<|a1 a0)<|brP (λ(h12:(e.level !=0)=true)=>(an a0<|bE<|q23.trans<|aD (au h11)<|bg<|cI h12))<|λh12=>(an (a1 a0)<|an (show(e.op==3)=false by simpa using h4)<|an (a1 a0)<|an (show(e.op==7)=false by rw[eq_of_beq h7];rfl)<|an (a1 a0)<|an (show(e.op==6)=false by rw[eq_of_beq h7];rfl)<|an (aN 3<|ac (au<|show(e.op==0)=false by rw[eq_of_beq h7];rfl)<|a1 a0)<|bE<|show r68 n s at' e=(e.op==1)from(aD (au h0)<|aD (au h1)<|aD (au h2)<|aD (au h3)<|cdT h4<|aD (au h5)<|aD (au h6)<|cdT h7<|cdT h8<|aD (au h9)<|aD (au h10)<|aD (au h11)<|aD (au h12) rfl)))))))<|λh8=>have q14:=q10.trans (cdF h8 rfl);
 (aO (λ(h9:(decide<|(((ae e.set 0)).1)<0)=true)=>have g9:=afS h9;
 (an (aN 10<|ac (n2 h9)<|a1<|ac (rwa aP e.set 0) a0)<|an a0<|bE<|q14.trans<|bg<|cI h9))<|λh9=>have q19:=q14.trans (aD (au h9) rfl);have g9:=afN h9;
 (an (aN 5<|ac (rwz aP e.set<|(length (map aP e.set):Int)-1)<|a1<|ac (dwo<|(length (map aP e.set):Int)-1)<|aN 5<|ac (au h9)<|a1<|ac (rwa aP e.set 0) a0)<|brP (λ(h10:(decide<|(((aF e.set<|(length (map aP e.set):Int)-1)).2)>1114111)=true)=>(an a0<|bE<|q19.trans<|bg<|cI h10))<|λh10=>have q24:=q19.trans (aD (au h10) rfl);
 (an (a1 a0)<|an (show(e.op==2)=false by rw[eq_of_beq h7];rfl)<|an (a1 a0)<|an (show(e.op==4)=false by rw[eq_of_beq h7];rfl)<|an (a1 a0)<|an (show(e.op==5)=false by rw[eq_of_beq h7];rfl)<|aO (λ(h11:(e.n !=0)=true)=>(an (aN 2<|ac (n2 h11)<|a1 a0)<|an a0<|bE<|q24.trans<|bg<|cI h11))<|λh11=>(an (aN 3<|ac (au h11)<|a1 a0)<|brP (λ(h12:(e.level !=0)=true)=>(an a0<|bE<|q24.trans<|aD (au h11)<|bg<|cI h12))<|λh12=>(an (a1 a0)<|an (show(e.op==3)=false by simpa using h4)<|an (a1 a0)<|an (show(e.op==7)=false by rw[eq_of_beq h7];rfl)<|an (a1 a0)<|an (show(e.op==6)=false by rw[eq_of_beq h7];rfl)<|an (aN 3<|ac (au<|show(e.op==0)=false by rw[eq_of_beq h7];rfl)<|a1 a0)<|bE<|show r68 n s at' e=(e.op==1)from(aD (au h0)<|aD (au h1)<|aD (au h2)<|aD (au h3)<|cdT h4<|aD (au h5)<|aD (au h6)<|cdT h7<|cdF h8<|aD (au h9)<|aD (au h10)<|aD (au h11)<|aD (au h12) rfl))))))))<|λh7=>have q11:=q8.trans (cdF h7 rfl);have g7:=afX h7;
 (an (a1 a0)<|brP (λ(h8:(e.op==2)=true)=>have q15:=q11.trans (cdT h8 rfl);have g8:=eq_of_beq h8;
 (aO (λ(h9:(decide<|e.n<0)=true)=>(an (aN 36<|ac (n2 h9)<|a1 a0)<|an a0<|bE<|q15.trans<|bg<|cI h9))<|λh9=>have q20:=q15.trans (aD (au h9) rfl);have g9:=afN h9;
 (aO (λ(h10:(decide<|e.n>=(length (map aC n.rules):Int))=true)=>(an (aN 30<|ac (n2 h10)<|aN 6<|ac (au h9)<|a1 a0)<|an a0<|bE<|q20.trans<|bg<|cI h10))<|λh10=>have q25:=q20.trans (aD (au h10) rfl);have g10:=afN h10;
 (aO (λ(h11:(!((aF n.rules e.n).bN==(aF n.rules s.aH).bN))=true)=>(an (aN 20<|ac (n2 h11)<|aN 6<|ac (rwz aC n.rules e.n)<|aN 4<|ac (au h10)<|aN 6<|ac (au h9)<|a1 a0)<|an a0<|bE<|q25.trans<|bg<|cI h11))<|λh11=>have q28:=q25.trans (aD (au h11) rfl);
 (aO (λ(h12:(decide<|e.level<0)=true)=>have g12:=afS h12;
 (an (aN 17<|ac (n2 h12)<|aN 3<|ac (au h11)<|aN 6<|ac (rwz aC n.rules e.n)<|aN 4<|ac (au h10)<|aN 6<|ac (au h9)<|a1 a0)<|an a0<|bE<|q28.trans<|bg<|cI h12))<|λh12=>have q31:=q28.trans (aD (au h12) rfl);have g12:=afN h12;
 (aO (λ(h13:(decide<|e.level>65)=true)=>have g13:=afS h13;
 (an (aN 14<|ac (n2 h13)<|aN 3<|ac (au h12)<|aN 3<|ac (au h11)<|aN 6<|ac (rwz aC n.rules e.n)<|aN 4<|ac (au h10)<|aN 6<|ac (au h9)<|a1 a0)<|an a0<|bE<|q31.trans<|bg<|cI h13))<|λh13=>have q34:=q31.trans (aD (au h13) rfl);have g13:=afN h13;
 (aO (λ(h14:(decide<|e.level>0)=true)=>have q36:=q34.trans (cdT h14 rfl);have g14:=afS h14;
 (aO (λ(h15:(e.n !=s.aH)=true)=>(an (aN 4<|ac (n2 h15)<|aN 6<|ac h14<|aN 4<|ac (au h13)<|aN 3<|ac (au h12)<|aN 3<|ac (au h11)<|aN 6<|ac (rwz aC n.rules e.n)<|aN 4<|ac (au h10)<|aN 6<|ac (au h9)<|a1 a0)<|an a0<|bE<|q36.trans<|bg<|cI h15))<|λh15=>have q37:=q36.trans (aD (au h15) rfl);
 (an (aN 4<|ac (au h15)<|aN 6<|ac h14<|aN 4<|ac (au h13)<|aN 3<|ac (au h12)<|aN 3<|ac (au h11)<|aN 6<|ac (rwz aC n.rules e.n)<|aN 4<|ac (au h10)<|aN 6<|ac (au h9)<|a1 a0)<|brP (λ(h16:(!(aF n.rules s.aH).left)=true)=>(an a0<|bE<|q37.trans<|cI h16))<|λh16=>(an a0<|bE<|q37.trans<|au h16))))<|λh14=>have g14:=afN h14;
 (an (aN 10<|ac (au h14)<|aN 4<|ac (au h13)<|aN 3<|ac (au h12)<|aN 3<|ac (au h11)<|aN 6<|ac (rwz aC n.rules e.n)<|aN 4<|ac (au h10)<|aN 6<|ac (au h9)<|a1 a0)<|an a0<|bE<|q34.trans<|cdF h14 rfl))))))))<|λh8=>have q16:=q11.trans (cdF h8 rfl);
 (an (a1 a0)<|brP (λ(h9:(e.op==4)=true)=>have q21:=q16.trans (cdT h9 rfl);
 (aO (λ(h10:(decide<|e.n>=1)=true)=>(aO (λ(h11:(decide<|e.n<=64)=true)=>(an (aN 3<|ac h11<|aN 3<|ac h10<|a1 a0)<|bE<|show r68 n s at' e=(e.level==0)from(aD (au h0)<|aD (au h1)<|aD (au h2)<|aD (au h3)<|cdT h4<|aD (au h5)<|aD (au h6)<|cdF h7<|cdF h8<|cdT h9<|aD h10<|aD h11 rfl)))<|λh11=>(an (aN 2<|ac (au h11)<|aN 3<|ac h10<|a1 a0)<|bE<|q21.trans<|aD h10<|bg h11)))<|λh10=>(an (aN 5<|ac (au h10)<|a1 a0)<|bE<|q21.trans<|bg h10)))<|λh9=>have q22:=q16.trans (cdF h9 rfl);
 (an (a1 a0)<|brP (λ(h10:(e.op==5)=true)=>have q26:=q22.trans (cdT h10 rfl);
 (aO (λ(h11:((aF n.rules s.aH).left)=true)=>have q29:=q26.trans (aD h11 rfl);
 (aO (λ(h12:(decide<|e.n>=1)=true)=>have q32:=q29.trans (aD h12 rfl);
 (aO (λ(h13:(decide<|e.n<=64)=true)=>(aO (λ(h14:(decide<|e.level>=1)=true)=>(an (aN 3<|ac h14<|aN 3<|ac h13<|aN 3<|ac h12<|aN 3<|ac h11 a0)<|bE<|show r68 n s at' e=(decide<|e.level<=64)from(aD (au h0)<|aD (au h1)<|aD (au h2)<|aD (au h3)<|cdT h4<|aD (au h5)<|aD (au h6)<|cdF h7<|cdF h8<|cdF h9<|cdT h10<|aD h11<|aD h12<|aD h13<|aD h14 rfl)))<|λh14=>(an (aN 2<|ac (au h14)<|aN 3<|ac h13<|aN 3<|ac h12<|aN 3<|ac h11 a0)<|bE<|q32.trans<|aD h13<|bg h14)))<|λh13=>(an (aN 5<|ac (au h13)<|aN 3<|ac h12<|aN 3<|ac h11 a0)<|bE<|q32.trans<|bg h13)))<|λh12=>(an (aN 8<|ac (au h12)<|aN 3<|ac h11 a0)<|bE<|q29.trans<|bg h12)))<|λh11=>(an (aN 11<|ac (au h11) a0)<|bE<|q26.trans<|bg h11)))<|λh10=>have q27:=q22.trans (cdF h10 rfl);
 (aO (λ(h11:(e.n !=0)=true)=>(an (aN 2<|ac (n2 h11)<|a1 a0)<|an a0<|bE<|q27.trans<|bg<|cI h11))<|λh11=>have q30:=q27.trans (aD (au h11) rfl);
 (an (aN 3<|ac (au h11)<|a1 a0)<|brP (λ(h12:(e.level !=0)=true)=>(an a0<|bE<|q30.trans<|bg<|cI h12))<|λh12=>have q33:=q30.trans (aD (au h12) rfl);
 (an (a1 a0)<|an (show(e.op==3)=false by simpa using h4)<|an (a1 a0)<|brP (λ(h13:(e.op==7)=true)=>have q35:=q33.trans (cdT h13 rfl);
 (an a0<|an (kbT (JU n s at' e) trivial)<|brP (λ(h14:(DZ n s at' e)=true)=>(bE<|q35.trans<|bg<|cI h14))<|λh14=>(aO (λ(h15:((aF n.rules s.aH).bN)=true)=>(an (aN 2<|ac h15 a0)<|bE<|show r68 n s at' e=(!(aF n.rules s.aH).eF)from(aD (au h0)<|aD (au h1)<|aD (au h2)<|aD (au h3)<|cdT h4<|aD (au h5)<|aD (au h6)<|cdF h7<|cdF h8<|cdF h9<|cdF h10<|aD (au h11)<|aD (au h12)<|cdT h13<|aD (au h14)<|aD h15 rfl)))<|λh15=>(an (aN 2<|ac (au h15) a0)<|bE<|q35.trans<|aD (au h14)<|bg h15))))<|λh13=>(an (a1 a0)<|brP (λ(h14:(e.op==6)=true)=>(an a0<|bE<|show r68 n s at' e=(aF n.rules s.aH).left from(aD (au h0)<|aD (au h1)<|aD (au h2)<|aD (au h3)<|cdT h4<|aD (au h5)<|aD (au h6)<|cdF h7<|cdF h8<|cdF h9<|cdF h10<|aD (au h11)<|aD (au h12)<|cdF h13<|cdT h14 rfl)))<|λh14=>(aO (λ(h15:(e.op==0)=true)=>(an (aN 2<|ac (n2 h15)<|a1 a0)<|bE<|q33.trans<|cdF h13<|cdF h14<|orT h15))<|λh15=>(an (aN 3<|ac (au h15)<|a1 a0)<|bE<|show r68 n s at' e=(e.op==1)from(aD (au h0)<|aD (au h1)<|aD (au h2)<|aD (au h3)<|cdT h4<|aD (au h5)<|aD (au h6)<|cdF h7<|cdF h8<|cdF h9<|cdF h10<|aD (au h11)<|aD (au h12)<|cdF h13<|cdF h14<|orF h15 rfl))))))))))))))<|λh4=>have q5:=q3.trans (cdF h4 rfl);
 (an (aN 4<|ac (au h4)<|aN 4<|ac (au h3)<|aN 10<|ac (au h2)<|aN 3 a0)<|an (aN 3 a0)<|brP (λ(h5:(!((e.op==4)==(at'==(aF n.rules s.aH).start)))=true)=>(an a0<|bE<|q5.trans<|bg<|cI h5))<|λh5=>have q7:=q5.trans (aD (au h5) rfl);
 (an (a1 a0)<|an (show(e.op==1)=false by rw[fY h4];rfl)<|an (a1 a0)<|an (show(e.op==2)=false by rw[fY h4];rfl)<|an (a1 a0)<|an (show(e.op==4)=false by rw[fY h4];rfl)<|an (a1 a0)<|an (show(e.op==5)=false by rw[fY h4];rfl)<|aO (λ(h6:(e.n !=0)=true)=>(an (aN 2<|ac (n2 h6)<|a1 a0)<|an a0<|bE<|q7.trans<|bg<|cI h6))<|λh6=>have q9:=q7.trans (aD (au h6) rfl);
 (an (aN 3<|ac (au h6)<|a1 a0)<|brP (λ(h7:(e.level !=0)=true)=>(an a0<|bE<|q9.trans<|bg<|cI h7))<|λh7=>have q12:=q9.trans (aD (au h7) rfl);
 (an (a1 a0)<|an (show(e.op==3)=true by rw[fY h4];rfl)<|aO (λ(h8:((r93 e.g)==0)=true)=>have q17:=q12.trans (aD h8 rfl);
 (aO (λ(h9:(!(fp 14 e.g))=true)=>(aO (λ(h10:((aF n.rules s.aH).bN)=true)=>(an (aN 4<|ac (n2 h10)<|aN 2<|ac h9<|a1<|cA (RA e.g 14) he.g<|aN 2<|ac h8<|a1<|cA (g93 e.g) he.g a0)<|bE<|q17.trans<|aD h9<|orT h10))<|λh10=>(an (aN 2<|cA (RA e.g 13) he.g<|aN 2<|ac (au h10)<|aN 2<|ac h9<|a1<|cA (RA e.g 14) he.g<|aN 2<|ac h8<|a1<|cA (g93 e.g) he.g a0)<|bE<|show r68 n s at' e=(!(fp 13 e.g))from(aD (au h0)<|aD (au h1)<|aD (au h2)<|aD (au h3)<|cdF h4<|aD (au h5)<|aD (au h6)<|aD (au h7)<|aD h8<|aD h9<|orF h10 rfl))))<|λh9=>(an (aN 7<|ac (au h9)<|a1<|cA (RA e.g 14) he.g<|aN 2<|ac h8<|a1<|cA (g93 e.g) he.g a0)<|bE<|q17.trans<|bg h9)))<|λh8=>(an (aN 11<|ac (au h8)<|a1<|cA (g93 e.g) he.g a0)<|bE<|q12.trans<|bg h8)))))))))) (hc:=(bn (.cons (g67 n e.to s.aH) rfl<|.cons (g91 e.set) rfl<|.cons (g92 e.g) rfl<|.cons (g93 e.g) rfl<|.cons (RA e.g 14) rfl<|.cons (RA e.g 13) rfl cy.nil) aE)) (hk:=(bw (l:=[(0,JU n s at' e)]) uJ (aK (Ve n s at' e he hr) rfl aU) rfl))
structure ck(n:Net):Prop where
 types:n.types.length<=9223372036854775807
 rz:n.aJ.length<=9223372036854775807
 bu:n.bu.length<=9223372036854775807
 rules:n.rules.length<=1000000
 aa:n.aa.length<=1000000
 ah: ∀s∈n.aa,s.ah.length<=1000000
 xK: ∀s∈n.aa,∀e∈s.ah,GD e
structure JV(n:Net):Prop where
 types:n.types.length<=9223372036854775807
 rz:n.aJ.length<=9223372036854775807
 bu:n.bu.length<=9223372036854775807
 rules:n.rules.length<=1000000
theorem ck.h{n:Net}(h:ck n):JV n:=⟨h.types,h.rz,h.bu,h.rules⟩
section
variable(n:Net)(s:State)(i:Int)(e:Edge)
def i68:cj:=⟨88,[jD n,.ag (aq s),I i,.ag (aQ e)],B (r68 n s i e),GD e/\(0<=State.aH s/\State.aH s<(length n.rules:Int))⟩
theorem g68:(i68 n s i e).bS pg:=λhp=>⟨adv n s i e hp.1 hp.2,by simp[i68,aj,AV.pure],rfl⟩
end
def MS:Code:=bD 0 (aG 56)
def MT:Code:=bD 2 MS
def acx:Code:=bD 4 MT
abbrev Vf(n:Net)(i0 i2 i4:Nat):Am.Loc:=[(1,.pf (bA n)),(3,I (i0:Int)),(4,.pt 0 0),(5,I (i2:Int)),(6,I (i4:Int))]
abbrev zm(i0:Nat)(n:Net):=(aq<|ae n.aa i0)
abbrev Vg(n:Net)(i0 i2 i4:Nat):lXE:=[.box 45 (zm i0 n)]
def rA(n:Net)(i0 i2 i4:Nat):Bool:=(((ae (ae n.aa i0).ah i2).op==4)&&((ae (ae n.aa i0).ah i4).n==(ae (ae n.aa i0).ah i2).n))
def vm(n:Net)(i0 i2:Nat):Bool:=dA (i2) (rA n i0 i2)
abbrev Vh(n:Net)(i0 i2 i4:Nat):Am.Loc:=[(2,B false)]
abbrev Vi(n:Net)(i0 i2 i4:Nat):lXE:=[]
abbrev Vj(n:Net)(i0 i2:Nat):Am.Loc:=(zCJ i0 i2 n)
abbrev Vk(n:Net)(i0 i2:Nat):lXE:=[.box 45 (zm i0 n)]
def JW(n:Net)(i0 i2:Nat):KB:=anK 4 (i2) (rA n i0 i2) (Vf n i0 i2) (Vg n i0 i2) .ret (Vh n i0 i2) (Vi n i0 i2) (.exit 4) (Vj n i0 i2) (Vk n i0 i2) (True)
abbrev MU(n:Net)(i0 i2 i4:Nat):List bf:=[htW (rA n i0 i2 i4) .ret (Vh n i0 i2 i4) zb (Vi n i0 i2 i4),nxW (rA n i0 i2 i4) (Vf n i0 i2<|i4+1) (Vg n i0 i2<|i4+1) (Vf n i0 i2<|i4+1) zAc (Vg n i0 i2<|i4+1)]
abbrev zj(i4:Nat):List Gi:=[.int ↑(i4+1),bT]
abbrev zAI(i0:Nat)(n:Net):=(decide<|(ae n.aa i0).aH>=(length (map aC n.rules):Int))
abbrev zBg(i0:Nat)(n:Net):=(decide<|(ae n.aa i0).aH<0)
section
variable(n:Net)
def Vl(i0 i2:Nat)(hf:ck n)(hx0:i0<(length n.aa))(hp2:(zBg i0 n)=false/\(zAI i0 n)=false)(hx2:i2<(length (ae n.aa i0).ah)):cx pg 89 0 4 (.loop acx) (JW n i0 i2):=
 anB (MU n i0 i2) (λi4=>(.r [.k,bT]<|.yes<|.a (.r (.row (aQ<|ae (ae n.aa i0).ah i2)::.k::uTT 4 (.row (aQ<|ae (ae n.aa i0).ah i4)::uTT 6 [.row (aQ<|ae (ae n.aa i0).ah i2),bT,bT,bT,.k,bT]))<|.br zB<|.r (zj i4)<|.pick 1)<|.r (.row (aQ<|ae (ae n.aa i0).ah i2)::.k::uFF 13 [bT])<|.r (zj i4)<|.pick 1)) (range 1) zE
 (λ_ i4(hx4:i4<i2)=>have hr:=hf.rules;have hs:=hf.aa;have he:=hf.ah _ (aw hx0);have hb:(decide<|(i4:Int)<(i2:Int))=true:=afT oaa;
 bB (an (a1 a0)<|an hb<|aO (λ(h1:((ae (ae n.aa i0).ah i2).op==4)=true)=>have g1:=eq_of_beq h1;
 (an (aN 4<|ac (rwa aQ (ae n.aa i0).ah i2)<|aN 6<|ac (rwa aQ (ae n.aa i0).ah i4)<|aN 3<|ac h1<|a1<|ac (rwa aQ (ae n.aa i0).ah i2) a0)<|brP (λ(h2:((ae (ae n.aa i0).ah i4).n==(ae (ae n.aa i0).ah i2).n)=true)=>(an a0<|lf (wy (MU n i0 i2 i4) 0) 1<|show rA n i0 i2 i4=true from(aD h1 h2)))<|λh2=>(an (ac (dwo ((i4+1:Nat):Int)) a0)<|lf (wy (MU n i0 i2 i4) 1) 1 ⟨(show rA n i0 i2 i4=false from(aD h1 h2)),rfl,rfl⟩)))<|λh1=>have g1:=afX h1;
 (an (aN 12<|ac (au h1)<|a1<|ac (rwa aQ (ae n.aa i0).ah i2) a0)<|an (ac (dwo ((i4+1:Nat):Int)) a0)<|lf (wy (MU n i0 i2 i4) 1) 1 ⟨(show rA n i0 i2 i4=false from(bg h1)),rfl,rfl⟩))
 oab)
 (λ_=>have hr:=hf.rules;have hs:=hf.aa;have hb:(decide<|(i2:Int)<(i2:Int))=false:=afU oaa;
 bB (an (a1 a0)<|an hb<|lx (.exit 4) (Vj n i0 i2) (range 1) (Vk n i0 i2) 1)
 oab)
abbrev Vm(i0 i2:Nat):Am.Loc:=(zCJ i0 i2 n)
abbrev Vn(i0 i2:Nat):lXE:=[.box 45 (zm i0 n)]
def rC(i0 i2:Nat):Bool:=((!(r68 n (ae n.aa i0) (i0:Int)<|ae (ae n.aa i0).ah i2))||(vm n i0 i2))
def kV(i0:Nat):Bool:=dA (length (ae n.aa i0).ah) (rC n i0)
end
abbrev Vo(n:Net)(i0 i2:Nat):Am.Loc:=[(2,B false)]
abbrev Vp(n:Net)(i0 i2:Nat):lXE:=[]
abbrev Vq(n:Net)(i0:Nat):Am.Loc:=(zBG i0 n)
abbrev Vr(n:Net)(i0:Nat):lXE:=[.box 45 (zm i0 n)]
abbrev zG(i0:Nat)(n:Net):=(ae n.aa i0).ah
abbrev zH(n:Net):=(map aC n.rules)
def D0(n:Net)(i0:Nat):KB:=anK 2 (length<|zG i0 n) (rC n i0) (Vm n i0) (Vn n i0) .ret (Vo n i0) (Vp n i0) (.exit 2) (Vq n i0) (Vr n i0) ((zBg i0 n)=false/\(decide<|(ae n.aa i0).aH>=(length (zH n):Int))=false)
abbrev MV(n:Net)(i0 i2:Nat):List bf:=[htW (rC n i0 i2) .ret (Vo n i0 i2) zb (Vp n i0 i2),nxW (rC n i0 i2) (Vm n i0<|i2+1) (Vn n i0<|i2+1) (Vm n i0<|i2+1) zAc (Vn n i0<|i2+1)]
def D1:di [4] MT=[(4,.loop acx)]:=by kernel_rfl
abbrev zv(i0:Nat)(n:Net):=(decide<|(((length (ae n.aa i0).ah):Nat):Int)<(length (map aQ (ae n.aa i0).ah):Int))
abbrev zAo(i0 i2:Nat)(n:Net):=(decide<|(i2:Int)<(length (map aQ (ae n.aa i0).ah):Int))
def Vs(n:Net)(i0:Nat)(hf:ck n)(hx0:i0<(length n.aa)):cx pg 89 0 2 (.loop MT) (D0 n i0):=
 anB (MV n i0) (λi2=>(.r [.k,bT]<|.yes<|.r [.row (aQ<|ae (ae n.aa i0).ah i2),.int 0,bT]<|.br zB<|.r [bT]<|.br (.pick 0)<|.r (zi i2)<|.pick 1)) (range 1) zE
 (λ(hp2:(zBg i0 n)=false/\(zAI i0 n)=false) i2(hx2:i2<(length (ae n.aa i0).ah))=>have hr:=hf.rules;have hs:=hf.aa;have gp0:=afN hp2.1;have gp1:=afN hp2.2;have lp1:=aL aC (n.rules);have he:=hf.ah _ (aw hx0);have l1:=aL aQ ((ae n.aa i0).ah);have hb:(zAo i0 i2 n)=true:=afT oaa;
 bB (an (a1 a0)<|an hb<|an (cA (g68 n (ae n.aa i0) (i0:Int)<|ae (ae n.aa i0).ah i2) ⟨hf.xK _ (aw hx0) _ (aw hx2),(show 0<=State.aH (ae n.aa i0)/\State.aH (ae n.aa i0)<(length n.rules:Int) by omega)⟩<|ac (rwa aQ (ae n.aa i0).ah i2) a0)<|brP (λ(h1:(!(r68 n (ae n.aa i0) (i0:Int)<|ae (ae n.aa i0).ah i2))=true)=>(an a0<|lf (wy (MV n i0 i2) 0) 1<|show rC n i0 i2=true from(orT h1)))<|λh1=>(an a0<|an (kbT (JW n i0 i2) trivial)<|brP (λ(h2:(vm n i0 i2)=true)=>(lf (wy (MV n i0 i2) 0) 0<|show rC n i0 i2=true from(orF h1 h2)))<|λh2=>(an (ac (dwo ((i2+1:Nat):Int)) a0)<|lf (wy (MV n i0 i2) 1) 1 ⟨(show rC n i0 i2=false from(orF h1 h2)),rfl,rfl⟩)))
 oab)
 (λ(hp2:(zBg i0 n)=false/\(zAI i0 n)=false)=>have hr:=hf.rules;have hs:=hf.aa;have gp0:=afN hp2.1;have gp1:=afN hp2.2;have lp1:=aL aC (n.rules);have l1:=aL aQ ((ae n.aa i0).ah);have hb:(zv i0 n)=false:=afU oaa;
 bB (an (a1 a0)<|an hb<|lx (.exit 2) (Vq n i0) (range 1) (Vr n i0) 1)
 oab) (hc:=λhp2 i2 hx2=>(bn (.cons (g68 n (ae n.aa i0) (i0:Int)<|ae (ae n.aa i0).ah i2) rfl cy.nil) aE)) (hk:=λhp2 i2 hx2=>(bw (l:=[(4,JW n i0 i2)]) D1 (aK (Vl n i0 i2 hf hx0 hp2 hx2) rfl aU) rfl))
abbrev Vt(n:Net)(i0:Nat):Am.Loc:=(zBG i0 n)
abbrev Vu(n:Net)(i0:Nat):lXE:=[]
def nX(n:Net)(i0:Nat):Bool:=((decide<|(ae n.aa i0).aH<0)||((decide<|(ae n.aa i0).aH>=(length (map aC n.rules):Int))||(bif (length (map aQ (ae n.aa i0).ah):Int)==0 then(((i0:Int) !=(aF n.rules (ae n.aa i0).aH).stop)||(kV n i0))else(kV n i0))))
def D2(n:Net):Bool:=dA (length n.aa) (nX n)
abbrev Vv(n:Net)(i0:Nat):Am.Loc:=[(2,B false)]
abbrev Vw(n:Net)(i0:Nat):lXE:=[]
abbrev Vy(n:Net):Am.Loc:=[]
abbrev Vz(n:Net):lXE:=[]
def JX(n:Net):KB:=anK 0 (length n.aa) (nX n) (Vt n) (Vu n) .ret (Vv n) (Vw n) (.exit 0) (Vy n) (Vz n) (True)
abbrev ue(n:Net)(i0:Nat):List bf:=[htW (nX n i0) .ret (Vv n i0) zb (Vw n i0),nxW (nX n i0) (Vt n<|i0+1) (Vu n<|i0+1) (Vt n<|i0+1) zb (Vu n<|i0+1)]
def D3:di [2] MS=[(2,.loop MT)]:=by kernel_rfl
abbrev zQ(n:Net):=(decide<|(((length n.aa):Nat):Int)<(length (map aq n.aa):Int))
abbrev zw(i0:Nat)(n:Net):=(decide<|(i0:Int)<(length (map aq n.aa):Int))
abbrev zCk(i0:Nat)(n:Net):List Gi:=[.row (aq<|ae n.aa i0),bT]
def VA(n:Net)(hf:ck n):cx pg 89 0 0 (.loop MS) (JX n):=
 anB (ue n) (λi0=>(.r [.k,bT]<|.yes<|.r (zCk i0 n)<|.a (.r zJ zB)<|.r zy<|.br zB<|.a (.r (.k::uTT 6 [.bG ((ae n.aa i0).aH).toNat (aC<|aF n.rules (ae n.aa i0).aH),bT,bT,bT,.k,bT])<|.br zB<|zAf i0)<|.r (.k::uFF 9 [bT])<|zAf i0)) (range 0) zE
 (λ_ i0(hx0:i0<(length n.aa))=>have hr:=hf.rules;have hs:=hf.aa;have l1:=aL aq (n.aa);have hb:(zw i0 n)=true:=afT oaa;
 bB (an (a1 a0)<|an hb<|an (ac (rwa aq n.aa i0) a0)<|aO (λ(h1:(zBg i0 n)=true)=>(an (aN 5<|ac (n2 h1)<|a1 a0)<|an a0<|lf (wy (ue n i0) 0) 1<|show nX n i0=true from(orT h1)))<|λh1=>have q0:=(orF h1 rfl:nX n i0=_);have g1:=afN h1;
 (an (aN 6<|ac (au h1)<|a1 a0)<|brP (λ(h2:(zAI i0 n)=true)=>(an a0<|lf (wy (ue n i0) 0) 1<|q0.trans<|orT h2))<|λh2=>have q1:=q0.trans (orF h2 rfl);have l2:=aL aC (n.rules);have g2:=afN h2;
 (aO (λ(h3:((length (map aQ (ae n.aa i0).ah):Int)==0)=true)=>have q2:=q1.trans (cdT h3 rfl);have l3:=aL aQ ((ae n.aa i0).ah);have g3:=eq_of_beq h3;
 (an (aN 4<|ac (rwz aC n.rules (ae n.aa i0).aH)<|aN 5<|ac h3<|a1 a0)<|brP (λ(h4:((i0:Int) !=(aF n.rules (ae n.aa i0).aH).stop)=true)=>(an a0<|lf (wy (ue n i0) 0) 1<|q2.trans<|orT h4))<|λh4=>have q4:=q2.trans (orF h4 rfl);
 (an a0<|an (kbT (D0 n i0) ⟨h1,h2⟩)<|brP (λ(h5:(kV n i0)=true)=>(lf (wy (ue n i0) 0) 0<|q4.trans h5))<|λh5=>(an (ac (dwo ((i0+1:Nat):Int)) a0)<|lf (wy (ue n i0) 1) 1 ⟨(q4.trans h5),rfl,rfl⟩))))<|λh3=>have q3:=q1.trans (cdF h3 rfl);have l3:=aL aQ ((ae n.aa i0).ah);have g3:=afX h3;
 (an (aN 8<|ac (au h3)<|a1 a0)<|an a0<|an (kbT (D0 n i0) ⟨h1,h2⟩)<|brP (λ(h4:(kV n i0)=true)=>(lf (wy (ue n i0) 0) 0<|q3.trans h4))<|λh4=>(an (ac (dwo ((i0+1:Nat):Int)) a0)<|lf (wy (ue n i0) 1) 1 ⟨(q3.trans h4),rfl,rfl⟩)))))
 oab)
 (λ_=>have hr:=hf.rules;have hs:=hf.aa;have l1:=aL aq (n.aa);have hb:(zQ n)=false:=afU oaa;
 bB (an (a1 a0)<|an hb<|lx (.exit 0) (Vy n) (range 0) (Vz n) 0)
 oab) (hk:=λ_ i0 hx0=>(bw (l:=[(2,D0 n i0)]) D3 (aK (Vs n i0 hf hx0) rfl aU) rfl))
def r33(n:Net):Bool:=(!(D2 n))
def uK:di [0] (aG 56)=[(0,.loop MS)]:=by kernel_rfl
def VB(n:Net)(hf:ck n):aY pg 56 [.ag (bA n)] [] [] (B<|r33 n) []:=
 aV 56 zf
 (an a0<|an a0<|an (kbT (JX n) trivial)<|brP (λ(h0:(D2 n)=true)=>(bE<|show r33 n=false from(cI h0)))<|λh0=>(an a0<|bE<|show r33 n=true from(au h0))) (hk:=(bw (l:=[(0,JX n)]) uK (aK (VA n hf) rfl aU) rfl))
def acy:Code:=bD 0 (aG 73)
def VD(l:lXD)(i0:Nat)(y0:lXD):lXD:=y0++ [(ae l i0)]
def gY(l:lXD)(kk:Nat):lXD:=Nat.rec (motive:=λ_=>lXD) ([]) (λj a=>VD l j a) kk
abbrev adw(l:lXD)(i0:Nat)(y0:lXD):lXE:=[Re y0]
section
variable(l:lXD)(i0:Nat)
abbrev acz:Am.Loc:=[(3,.mp 0),(7,.sl 1 (zBq l)),(8,I (length (zBq l):Int)),(9,I (i0:Int))]
abbrev VE:lXE:=adw l i0 (gY l i0)
def xL:Bool:=((cT (Array.toList<|ByteArray.data<|ae l i0) [])||((decide<|(ByteArray.size (ae l i0):Int)>40)||(dec<|(ae l i0)∈(gY l i0))))
end
def D4(l:lXD):Bool:=dA (length l) (xL l)
abbrev VF(l:lXD)(i0:Nat):Am.Loc:=[(2,B false)]
abbrev VG(l:lXD)(i0:Nat):lXE:=[]
abbrev VH(l:lXD):Am.Loc:=[]
section
variable(l:lXD)
abbrev VI:lXE:=[Re (gY l<|length l)]
def JY:KB:=anK 0 (length l) (xL l) (acz l) (VE l) .ret (VF l) (VG l) (.exit 0) (VH l) (VI l) (True)
abbrev GF(i0:Nat):List bf:=[htW (xL l i0) .ret (VF l i0) zb (VG l i0),nxW (xL l i0) (acz l<|i0+1) (VE l<|i0+1) [(3,.mp 0),(7,.sl 1 (zBq l)),(8,I (length (zBq l):Int)),(9,I ↑(i0+1))] zAc [.mp (map Value.string (gY l i0)++ [.string (ae l i0)]) (map tru (gY l i0)++ [.v (.bool true)])]]
theorem VJ(ls:length l<=9223372036854775807):cx pg 28 0 0 (.loop acy) (JY l):=
 anB (GF l) (λi0=>(.r [.k,bT]<|.yes<|.r [.row (a9<|ae l i0),bT]<|.a (.r zJ zB)<|.a (.r zCI zB)<|.r [.k,bT,bT,bT,.k,bT,bT,bT,.key (lC (gY l i0)<|ae l i0) (B<|dec<|(ae l i0)∈(gY l i0)),bT]<|.br zB<|.r [.key none .any,bT]<|zD i0)) (range 1) zE
 (λ_ i0(hx0:i0<(length l))=>have l1:=aL a9 (l);have hb:(zCX i0 l)=true:=afT oaa;
 bB (an (a1 a0)<|an hb<|an (ac (rwa a9 l i0) a0)<|aO (λ(h1:(cT (Array.toList<|ByteArray.data<|ae l i0) [])=true)=>(an (aN 5<|ac (n2 h1)<|a1 a0)<|an a0<|lf (wy (GF l i0) 0) 1<|show xL l i0=true from(orT h1)))<|λh1=>have q0:=(orF h1 rfl:xL l i0=_);have g1:=size_pos h1;
 (aO (λ(h2:(decide<|(ByteArray.size (ae l i0):Int)>40)=true)=>(an (aN 2<|ac (n2 h2)<|aN 3<|ac (au h1)<|a1 a0)<|an a0<|lf (wy (GF l i0) 0) 1<|q0.trans<|orT h2))<|λh2=>have q1:=q0.trans (orF h2 rfl);have g2:=afN h2;
 (an (ac (lkS (ae l i0)<|gY l i0)<|aN 2<|ac (au h2)<|aN 3<|ac (au h1)<|a1 a0)<|brP (λ(h3:(dec<|(ae l i0)∈(gY l i0))=true)=>(an a0<|lf (wy (GF l i0) 0) 1<|q1.trans h3))<|λh3=>(an (ac (nwS h3) a0)<|an (ac (dwo ((i0+1:Nat):Int)) a0)<|lf (wy (GF l i0) 1) 1 ⟨(q1.trans h3),rfl,(by rw[show VE l (i0+1)=(λy0:lXD=>([Re y0]:lXE)) (gY l<|i0+1)from rfl,(show gY l (i0+1)=((gY l i0)++ [(ae l i0)])from rfl),(TC (ae l i0)<|gY l i0)])⟩))))
 oab)
 (λ_=>have l1:=aL a9 (l);have hb:(zBP l)=false:=afU oaa;
 bB (an (a1 a0)<|an hb<|lx (.exit 0) (VH l) (range 1) (VI l) 1)
 oab)
def r60:Bool:=(!(D4 l))
end
def uM:di [0] (aG 73)=[(0,.loop acy)]:=by kernel_rfl
section
variable(l:lXD)
theorem GG(ls:length l<=9223372036854775807):aY pg 73 [.sl 1 (zBq l)] [] [] (B<|r60 l) []:=
 aV 73 (.r [bT] zf)
 (an a0<|an a0<|an a0<|an (kbT (JY l) trivial)<|brP (λ(h0:(D4 l)=true)=>(bE<|show r60 l=false from(cI h0)))<|λh0=>(an a0<|bE<|show r60 l=true from(au h0))) (hk:=(bw (l:=[(0,JY l)]) uM (aK (VJ l ls) rfl aU) rfl))
def i60:cj:=⟨73,[.sl 1 (l.map a9)],B (r60 l),l.length<=9223372036854775807⟩
def g60:(i60 l).bS pg:=da λhp=>GG l hp
def i60d:cj:=⟨73,[.sl 1 (List.take ((zBq l).length-1)<|List.drop 1<|zBq l)],B (r60<|l.drop 1),l.length<=9223372036854775807⟩
theorem g60d:(i60d l).bS pg:=λhp=>by
 have e:List.take ((map a9 l).length-1) (List.drop 1<|map a9 l)=map a9 (l.drop 1):=by grind[List.map_drop,agv]
 have hp:l.length<=9223372036854775807:=hp;grind[i60d,GG,aj,AV.pure,ade]
def r61:Bool:=((decide<|(length (map a9 l):Int)>0)&&((decide<|(length (map a9 l):Int)<=20)&&((cT (Array.toList<|ByteArray.data<|ae l 0) [])&&r60 (List.drop 1 l))))
def aaX(ls:length l<=9223372036854775807):aY pg 74 [.sl 1 (zBq l)] [] [] (B<|r61 l) []:=
 aV 74 (.r [bT]<|.a (.a (.a (.r [.k,bT,bT,bT,.k,bT,bT,.row (a9<|ae l 0),bT,bT,.k,bT,bT,bT,.int 0,bT] .nil)<|.r [.k,bT,bT,bT,.k,bT,bT,.row (a9<|ae l 0),bT,bT,.k,bF,bF,bF,bT] .nil) zCT)<|.r zBD .nil)
 (an a0<|aO (λ(h0:(decide<|(length (map a9 l):Int)>0)=true)=>have l1:=aL a9 (l);have g0:=afS h0;
 (aO (λ(h1:(decide<|(length (map a9 l):Int)<=20)=true)=>have g1:=afS h1;
 (aO (λ(h2:(cT (Array.toList<|ByteArray.data<|ae l 0) [])=true)=>(an (cA (g60d l) ls<|a1<|ac (slo 1 (length<|map a9 l)<|length<|map a9 l)<|a1<|ac h2<|aN 3<|ac (rwa a9 l 0)<|a1<|ac h1<|aN 3<|ac h0<|a1 a0)<|bE<|show r61 l=(r60<|List.drop 1 l)from(aD h0<|aD h1<|aD h2 rfl)))<|λh2=>have g2:=size_pos h2;
 (an (aN 2<|ac (au h2)<|aN 3<|ac (rwa a9 l 0)<|a1<|ac h1<|aN 3<|ac h0<|a1 a0)<|bE<|show r61 l=false from(aD h0<|aD h1<|bg h2))))<|λh1=>(an (aN 6<|ac (au h1)<|aN 3<|ac h0<|a1 a0)<|bE<|show r61 l=false from(aD h0<|bg h1))))<|λh0=>(an (aN 9<|ac (au h0)<|a1 a0)<|bE<|show r61 l=false from(bg h0))) (hc:=(bn (.cons (g60d l) rfl cy.nil) aE))
def i61:cj:=⟨74,[.sl 1 (l.map a9)],B (r61 l),l.length<=9223372036854775807⟩
def g61:(i61 l).bS pg:=da λhp=>aaX l hp
end
@[simp] theorem VL(l:List bI):ak (map (a9∘bI.name) l)=true:=bc (λ_=>rfl) l
@[simp] theorem afH(l:List bI)(i j:Nat):ak (List.take i<|List.take j<|map (a9∘bI.name) l)=true:=kx _ (kx _<|VL l)
def jd{n:Net}{i:Nat}(h:i<n.rules.length):List.take i (map a9<|map bI.name<|List.take i n.rules)++ [a9 (ae n.rules i).name]=map a9 (map bI.name<|List.take (i+1) n.rules):=by grind[agv,B7]
def VM:Code:=bD 0 (aG 54)
abbrev MW(n:Net)(i0:Nat):Am.Loc:=[(1,.pf (bA n)),(3,.sr 0 1 0 i0),(4,I (i0:Int))]
abbrev zBU(i0:Nat)(n:Net):=(map a9<|map bI.name<|List.take i0 n.rules)
abbrev acA(n:Net)(i0:Nat):lXE:=[.row 9 1 (zBU i0 n)]
def xM(n:Net)(i0:Nat):Bool:=((ae n.rules i0).bN&&((decide<|(i0:Int)>0)&&(!(ae n.rules<|i0-1).bN)))
def vn(n:Net):Bool:=dA (length n.rules) (xM n)
abbrev VN(n:Net)(i0:Nat):Am.Loc:=[(2,B false)]
abbrev VO(n:Net)(i0:Nat):lXE:=[]
section
variable(n:Net)
abbrev JZ:Am.Loc:=[(1,.pf (bA n)),(3,.sr 0 1 0 (length n.rules))]
abbrev zAd:=(map a9<|map bI.name<|List.take (length n.rules) n.rules)
abbrev VP:lXE:=[.row 9 1 (zAd n)]
def je:KB:=anK 0 (length n.rules) (xM n) (MW n) (acA n) .ret (VN n) (VO n) (.exit 0) (JZ n) (VP n) (True)
abbrev GH(i0:Nat):List bf:=[htW (xM n i0) .ret (VN n i0) zb (VO n i0),nxW (xM n i0) (MW n<|i0+1) (acA n<|i0+1) [(1,.pf (bA n)),(3,.sr 0 1 0 (i0+1)),(4,I ↑(i0+1))] [1] [.row 9 1 ((List.take i0<|zBU i0 n)++ [(a9 (zBu i0 n).name)])]]
def VQ(hf:JV n):cx pg 98 0 0 (.loop VM) (je n):=
 anB (GH n) (λi0=>(.r [.k,bT]<|.yes<|.r (zBm i0 n)<|.a (.a (.r (.row (aC<|ae n.rules i0)::bT::bT::.k::uTT 4 (.int ((i0-1:Nat):Int)::bT::.row (aC<|ae n.rules<|i0-1)::uTT 4 []))<|.br zB<|zD i0)<|.r (.row (aC<|ae n.rules i0)::bT::bT::.k::uFF 8 [bT])<|zD i0)<|.r (.row (aC<|ae n.rules i0)::uFF 10 [bT])<|zD i0)) (range 1) zE
 (λ_ i0(hx0:i0<(length n.rules))=>have hr:=hf.rules;have hlen:length (map a9<|map bI.name<|List.take i0 n.rules)=min i0 (length n.rules):=oaj;have l1:=aL aC (n.rules);have hb:(zAK i0 n)=true:=afT oaa;
 bB (an (a1 a0)<|an hb<|an (ac (apA (k:=i0) (l:=length<|map a9<|map bI.name<|List.take i0 n.rules) (n:=1) (B:=16) oaa oaa oaa)<|ac (rwa aC n.rules i0) a0)<|aO (λ(h1:((ae n.rules i0).bN)=true)=>have q0:=(aD h1 rfl:xM n i0=_);
 (aO (λ(h2:(decide<|(i0:Int)>0)=true)=>have q1:=q0.trans (aD h2 rfl);have g2:=afS h2;
 (an (aN 3<|ac (rwa aC n.rules<|i0-1)<|a1<|ac (dso i0)<|aN 3<|ac h2<|aN 2<|ac h1<|ac (rwa aC n.rules i0) a0)<|brP (λ(h3:(!(ae n.rules<|i0-1).bN)=true)=>(an a0<|lf (wy (GH n i0) 0) 2<|q1.trans h3))<|λh3=>(an (ac (dwo ((i0+1:Nat):Int)) a0)<|lf (wy (GH n i0) 1) 2 ⟨(q1.trans h3),rfl,af1 (λz=>([.row 9 1 z]:lXE)) (jd hx0)⟩)))<|λh2=>have g2:=afN h2;
 (an (aN 7<|ac (au h2)<|aN 2<|ac h1<|ac (rwa aC n.rules i0) a0)<|an (ac (dwo ((i0+1:Nat):Int)) a0)<|lf (wy (GH n i0) 1) 2 ⟨(q0.trans<|bg h2),rfl,af1 (λz=>([.row 9 1 z]:lXE)) (jd hx0)⟩)))<|λh1=>(an (aN 9<|ac (au h1)<|ac (rwa aC n.rules i0) a0)<|an (ac (dwo ((i0+1:Nat):Int)) a0)<|lf (wy (GH n i0) 1) 2 ⟨(show xM n i0=false from(bg h1)),rfl,af1 (λz=>([.row 9 1 z]:lXE)) (jd hx0)⟩))
 oab)
 (λ_=>have hr:=hf.rules;have l1:=aL aC (n.rules);have hb:(zP n)=false:=afU oaa;
 bB (an (a1 a0)<|an hb<|lx (.exit 0) (JZ n) (range 1) (VP n) 1)
 oab)
theorem RB(hf:JV n):cx pg 98 0 0 (.loop VM) ⟨[(1,.pf (bA n)),(3,.v (.slice none 0 0)),(4,I 0)],[],(je n).hit,(je n).x1,(je n).L1,(je n).ob1,(je n).x2,[(1,.pf (bA n)),(3,.sl 1 (map a9<|map bI.name<|List.take (length n.rules) n.rules))],[],(je n).p⟩:=
 have hr:=hf.rules;xv (VQ n hf) (BW (L:=[(1,.pf (bA n)),(3,.v (.slice none 0 0)),(4,I 0)]) (L':=MW n 0) (ob:=[]) (T:=9) (S:=1) (λa av e=>by
  simp only[MW,dP]at e;split at e
  ·rename_i h;subst h;exact .inl oa1
  ·split at e
   ·rename_i h;subst h;exact .inr ⟨rfl,(ahh e).symm⟩
   ·split at e
    ·rename_i h;subst h;exact .inl oa1
    ·simp[lk]at e)) (fH.refl _ _) rfl (BX (L:=JZ n) (L':=[(1,.pf (bA n)),(3,.sl 1 (map a9<|map bI.name<|List.take (length n.rules) n.rules))]) (ob:=[]) (k:=length n.rules) (T:=9) (rows:=(map a9<|map bI.name<|List.take (length n.rules) n.rules)) oaj (agn _) (λa av e=>by
  simp only[dP]at e;split at e
  ·rename_i h;subst h;exact .inl ⟨by rw[<-e];rfl,by rw[<-ahh e];simp[AV.und,bj lX,ei]⟩
  ·split at e
   ·rename_i h;subst h;exact .inr ⟨rfl,(ahh e).symm,by simp only[AV.und];exact bj lX _ _⟩
   ·simp[lk]at e) rfl) rfl
def MX:KB:=⟨[(1,.pf (bA n)),(3,.v (.slice none 0 0)),(4,I 0)],[],(je n).hit,(je n).x1,(je n).L1,(je n).ob1,(je n).x2,[(1,.pf (bA n)),(3,.sl 1 (zAd n))],[],(je n).p⟩
def r31:Bool:=(!(decide<|(length (map a9 n.types):Int)>200)&&(!(decide<|(length (map a9 n.aJ):Int)<1)&&(!(decide<|(length (map a9 n.aJ):Int)>20)&&(!(decide<|(length (map a9 n.bu):Int)<1)&&(!(decide<|(length (map a9 n.bu):Int)>20)&&(!(decide<|(length (map aC n.rules):Int)>100)&&(!(decide<|(length (map aq n.aa):Int)>4000)&&(!(vn n)&&((r66 n.types false)&&((r66 n.aJ true)&&((r66 n.bu true)&&r66 (map bI.name<|List.take (length n.rules) n.rules) false)))))))))))
end
def uN:di [0] (aG 54)=[(0,.loop VM)]:=by kernel_rfl
def aaY(n:Net)(hf:JV n):aY pg 54 [.ag (bA n)] [] [] (B<|r31 n) []:=
 have hr:=hf.rules;aV 54 (.r [bT]<|.a (.r (.k::uFF 24 [bT]) zF)<|.a (.r (.k::uTT 4 (.k::uFF 20 [bT])) zF)<|.a (.r (.k::uTT 4 (.k::uTT 4 (.k::uFF 16 [bT]))) zF)<|.a (.r (.k::uTT 4 (.k::uTT 4 (.k::uTT 4 (.k::uFF 12 [bT])))) zF)<|.a (.r (.k::uTT 4 (.k::uTT 4 (.k::uTT 4 (.k::uTT 4 (.k::uFF 8 [bT]))))) zF)<|.a (.r (.k::uTT 4 (.k::uTT 4 (.k::uTT 4 (.k::uTT 4 (.k::uTT 4 (.k::uFF 4 [bT])))))) zF)<|.r (.k::uTT 4 (.k::uTT 4 (.k::uTT 4 (.k::uTT 4 (.k::uTT 4 (.k::uTT 4 [.k,bT]))))))<|.br zF<|.r [bT]<|.r [bT]<|.br .nil<|.a (.a (.a (.r [.int 0,bT,bT,bT,.int 1,bT,bT,bT,.int 2,bT,bT,.int 3,bT] .nil)<|.r [.int 0,bT,bT,bT,.int 1,bT,bT,bT,.int 2,bF,bF,bT] .nil)<|.r (.int 0::bT::bT::bT::.int 1::uFF 5 [bT]) .nil)<|.r (.int 0::uFF 8 [bT]) .nil)
 (an a0<|aO (λ(h0:(decide<|(length (map a9 n.types):Int)>200)=true)=>(an (aN 23<|ac (n2 h0)<|a1 a0)<|an a0<|bE<|show r31 n=false from(bg<|cI h0)))<|λh0=>have q0:=(aD (au h0) rfl:r31 n=_);have l1:=aL a9 (n.types);have g0:=afN h0;
 (aO (λ(h1:(decide<|(length (map a9 n.aJ):Int)<1)=true)=>(an (aN 19<|ac (n2 h1)<|aN 4<|ac (au h0)<|a1 a0)<|an a0<|bE<|q0.trans<|bg<|cI h1))<|λh1=>have q1:=q0.trans (aD (au h1) rfl);have l2:=aL a9 (n.aJ);have g1:=afN h1;
 (aO (λ(h2:(decide<|(length (map a9 n.aJ):Int)>20)=true)=>(an (aN 15<|ac (n2 h2)<|aN 4<|ac (au h1)<|aN 4<|ac (au h0)<|a1 a0)<|an a0<|bE<|q1.trans<|bg<|cI h2))<|λh2=>have q2:=q1.trans (aD (au h2) rfl);have g2:=afN h2;
 (aO (λ(h3:(decide<|(length (map a9 n.bu):Int)<1)=true)=>(an (aN 11<|ac (n2 h3)<|aN 4<|ac (au h2)<|aN 4<|ac (au h1)<|aN 4<|ac (au h0)<|a1 a0)<|an a0<|bE<|q2.trans<|bg<|cI h3))<|λh3=>have q3:=q2.trans (aD (au h3) rfl);have l3:=aL a9 (n.bu);have g3:=afN h3;
 (aO (λ(h4:(decide<|(length (map a9 n.bu):Int)>20)=true)=>(an (aN 7<|ac (n2 h4)<|aN 4<|ac (au h3)<|aN 4<|ac (au h2)<|aN 4<|ac (au h1)<|aN 4<|ac (au h0)<|a1 a0)<|an a0<|bE<|q3.trans<|bg<|cI h4))<|λh4=>have q4:=q3.trans (aD (au h4) rfl);have g4:=afN h4;
 (aO (λ(h5:(decide<|(length (map aC n.rules):Int)>100)=true)=>(an (aN 3<|ac (n2 h5)<|aN 4<|ac (au h4)<|aN 4<|ac (au h3)<|aN 4<|ac (au h2)<|aN 4<|ac (au h1)<|aN 4<|ac (au h0)<|a1 a0)<|an a0<|bE<|q4.trans<|bg<|cI h5))<|λh5=>have q5:=q4.trans (aD (au h5) rfl);have l4:=aL aC (n.rules);have g5:=afN h5;
 (an (aN 4<|ac (au h5)<|aN 4<|ac (au h4)<|aN 4<|ac (au h3)<|aN 4<|ac (au h2)<|aN 4<|ac (au h1)<|aN 4<|ac (au h0)<|a1 a0)<|brP (λ(h6:(decide<|(length (map aq n.aa):Int)>4000)=true)=>(an a0<|bE<|q5.trans<|bg<|cI h6))<|λh6=>have q6:=q5.trans (aD (au h6) rfl);have l5:=aL aq (n.aa);have g6:=afN h6;
 (an a0<|an a0<|an (kbT (MX n) trivial)<|brP (λ(h7:(vn n)=true)=>(bE<|q6.trans<|bg<|cI h7))<|λh7=>have q7:=q6.trans (aD (au h7) rfl);
 (aO (λ(h8:(r66 n.types false)=true)=>have q8:=q7.trans (aD h8 rfl);
 (aO (λ(h9:(r66 n.aJ true)=true)=>(aO (λ(h10:(r66 n.bu true)=true)=>(an (cA (g66 (map bI.name<|List.take (length n.rules) n.rules) false) (show length (map bI.name<|List.take (length n.rules) n.rules)<=9223372036854775807 by simp;have:=hf.rules;omega)<|a1<|ac h10<|cA (g66 n.bu true) hf.bu<|aN 2<|ac h9<|cA (g66 n.aJ true) hf.rz<|aN 2<|ac h8<|cA (g66 n.types false) hf.types a0)<|bE<|show r31 n=(r66 (map bI.name<|List.take (length n.rules) n.rules) false)from(aD (au h0)<|aD (au h1)<|aD (au h2)<|aD (au h3)<|aD (au h4)<|aD (au h5)<|aD (au h6)<|aD (au h7)<|aD h8<|aD h9<|aD h10 rfl)))<|λh10=>(an (a1<|ac (au h10)<|cA (g66 n.bu true) hf.bu<|aN 2<|ac h9<|cA (g66 n.aJ true) hf.rz<|aN 2<|ac h8<|cA (g66 n.types false) hf.types a0)<|bE<|q8.trans<|aD h9<|bg h10)))<|λh9=>(an (aN 4<|ac (au h9)<|cA (g66 n.aJ true) hf.rz<|aN 2<|ac h8<|cA (g66 n.types false) hf.types a0)<|bE<|q8.trans<|bg h9)))<|λh8=>(an (aN 7<|ac (au h8)<|cA (g66 n.types false) hf.types a0)<|bE<|q7.trans<|bg h8)))))))))) (hc:=(bn (.cons (g66 n.types false) rfl<|.cons (g66 n.aJ true) rfl<|.cons (g66 n.bu true) rfl<|.cons (g66 (map bI.name<|List.take (length n.rules) n.rules) false) rfl cy.nil) aE)) (hk:=(bw (l:=[(0,MX n)]) uN (aK (RB n hf) rfl aU) rfl))
def VR:Code:=bD 0 (aG 45)
section
variable(n:Net)(i0:Nat)
abbrev MY:Am.Loc:=[(0,.pf (bA n)),(3,.sr 0 1 0 i0),(9,.sl 9 (zH n)),(10,I (length (zH n):Int)),(11,I (i0:Int))]
abbrev acB:lXE:=[.row 9 1 (zBU i0 n)]
def xN:Bool:=((decide<|(i0:Int)>0)&&((ae n.rules i0).bN&&(!(ae n.rules<|i0-1).bN)))
end
def vo(n:Net):Bool:=dA (length n.rules) (xN n)
abbrev VS(n:Net)(i0:Nat):Am.Loc:=[(2,B false)]
abbrev VT(n:Net)(i0:Nat):lXE:=[]
section
variable(n:Net)
abbrev J0:Am.Loc:=[(0,.pf (bA n)),(3,.sr 0 1 0 (length n.rules))]
abbrev VU:lXE:=[.row 9 1 (zAd n)]
def jf:KB:=anK 0 (length n.rules) (xN n) (MY n) (acB n) .ret (VS n) (VT n) (.exit 0) (J0 n) (VU n) (True)
abbrev GI(i0:Nat):List bf:=[htW (xN n i0) .ret (VS n i0) zb (VT n i0),nxW (xN n i0) (MY n<|i0+1) (acB n<|i0+1) [(0,.pf (bA n)),(3,.sr 0 1 0 (i0+1)),(9,.sl 9 (zH n)),(10,I (length (zH n):Int)),(11,I ↑(i0+1))] [2] [.row 9 1 ((List.take i0<|zBU i0 n)++ [(a9 (zBu i0 n).name)])]]
def VV(hf:JV n):cx pg 87 0 0 (.loop VR) (jf n):=
 anB (GI n) (λi0=>(.r [.k,bT]<|.yes<|.r (zBm i0 n)<|.r [bT]<|.a (.a (.r (.k::uTT 8 (.int ((i0-1:Nat):Int)::bT::.row (aC<|ae n.rules<|i0-1)::uTT 4 []))<|.br zB<|zD i0)<|.r (.k::bT::bT::uFF 10 [bT])<|zD i0)<|.r zBf<|zD i0)) (range 1) zE
 (λ_ i0(hx0:i0<(length n.rules))=>have hr:=hf.rules;have hlen:length (map a9<|map bI.name<|List.take i0 n.rules)=min i0 (length n.rules):=oaj;have l1:=aL aC (n.rules);have hb:(zAK i0 n)=true:=afT oaa;
 bB (an (a1 a0)<|an hb<|an (ac (rwa aC n.rules i0) a0)<|an (ac (apA (k:=i0) (l:=length<|map a9<|map bI.name<|List.take i0 n.rules) (n:=1) (B:=16) oaa oaa oaa) a0)<|aO (λ(h1:(decide<|(i0:Int)>0)=true)=>have q0:=(aD h1 rfl:xN n i0=_);have g1:=afS h1;
 (aO (λ(h2:((ae n.rules i0).bN)=true)=>have q1:=q0.trans (aD h2 rfl);
 (an (aN 3<|ac (rwa aC n.rules<|i0-1)<|a1<|ac (dso i0)<|aN 5<|ac h2<|a1<|ac h1<|a1 a0)<|brP (λ(h3:(!(ae n.rules<|i0-1).bN)=true)=>(an a0<|lf (wy (GI n i0) 0) 3<|q1.trans h3))<|λh3=>(an (ac (dwo ((i0+1:Nat):Int)) a0)<|lf (wy (GI n i0) 1) 3 ⟨(q1.trans h3),rfl,af1 (λz=>([.row 9 1 z]:lXE)) (jd hx0)⟩)))<|λh2=>(an (aN 9<|ac (au h2)<|a1<|ac h1<|a1 a0)<|an (ac (dwo ((i0+1:Nat):Int)) a0)<|lf (wy (GI n i0) 1) 3 ⟨(q0.trans<|bg h2),rfl,af1 (λz=>([.row 9 1 z]:lXE)) (jd hx0)⟩)))<|λh1=>have g1:=afN h1;
 (an (aN 11<|ac (au h1)<|a1 a0)<|an (ac (dwo ((i0+1:Nat):Int)) a0)<|lf (wy (GI n i0) 1) 3 ⟨(show xN n i0=false from(bg h1)),rfl,af1 (λz=>([.row 9 1 z]:lXE)) (jd hx0)⟩))
 oab)
 (λ_=>have hr:=hf.rules;have l1:=aL aC (n.rules);have hb:(zP n)=false:=afU oaa;
 bB (an (a1 a0)<|an hb<|lx (.exit 0) (J0 n) (range 1) (VU n) 1)
 oab)
theorem RC(hf:JV n):cx pg 87 0 0 (.loop VR) ⟨[(0,.pf (bA n)),(3,.v (.slice none 0 0)),(9,.sl 9 (map aC n.rules)),(10,I (length (map aC n.rules):Int)),(11,I 0)],[],(jf n).hit,(jf n).x1,(jf n).L1,(jf n).ob1,(jf n).x2,[(0,.pf (bA n)),(3,.sl 1 (map a9<|map bI.name<|List.take (length n.rules) n.rules))],[],(jf n).p⟩:=
 have hr:=hf.rules;xv (VV n hf) (BW (L:=[(0,.pf (bA n)),(3,.v (.slice none 0 0)),(9,.sl 9 (map aC n.rules)),(10,I (length (map aC n.rules):Int)),(11,I 0)]) (L':=MY n 0) (ob:=[]) (T:=9) (S:=1) (λa av e=>by
  simp only[MY,dP]at e;split at e
  ·rename_i h;subst h;exact .inl oa1
  ·split at e
   ·rename_i h;subst h;exact .inr ⟨rfl,(ahh e).symm⟩
   ·split at e
    ·rename_i h;subst h;exact .inl oa1
    ·split at e
     ·rename_i h;subst h;exact .inl oa1
     ·split at e
      ·rename_i h;subst h;exact .inl oa1
      ·simp[lk]at e)) (fH.refl _ _) rfl (BX (L:=J0 n) (L':=[(0,.pf (bA n)),(3,.sl 1 (map a9<|map bI.name<|List.take (length n.rules) n.rules))]) (ob:=[]) (k:=length n.rules) (T:=9) (rows:=(map a9<|map bI.name<|List.take (length n.rules) n.rules)) oaj (agn _) (λa av e=>by
  simp only[dP]at e;split at e
  ·rename_i h;subst h;exact .inl ⟨by rw[<-e];rfl,by rw[<-ahh e];simp[AV.und,bj lX,ei]⟩
  ·split at e
   ·rename_i h;subst h;exact .inr ⟨rfl,(ahh e).symm,by simp only[AV.und];exact bj lX _ _⟩
   ·simp[lk]at e) rfl) rfl
def MZ:KB:=⟨[(0,.pf (bA n)),(3,.v (.slice none 0 0)),(9,.sl 9 (zH n)),(10,I (length (zH n):Int)),(11,I 0)],[],(jf n).hit,(jf n).x1,(jf n).L1,(jf n).ob1,(jf n).x2,[(0,.pf (bA n)),(3,.sl 1 (zAd n))],[],(jf n).p⟩
def r26:Bool:=(!(vo n)&&((decide<|(length (map a9 n.types):Int)<=200)&&((decide<|(length (map aC n.rules):Int)<=100)&&((decide<|(length (map aq n.aa):Int)<=4000)&&((r60 n.types)&&((r61 n.aJ)&&((r61 n.bu)&&r60 (map bI.name<|List.take (length n.rules) n.rules))))))))
end
def uO:di [0] (aG 45)=[(0,.loop VR)]:=by kernel_rfl
def aaZ(n:Net)(hf:JV n):aY pg 45 [.pf (bA n)] [] [] (B<|r26 n) []:=
 have hr:=hf.rules;aV 45 (.r [bT]<|.r [bT]<|.r [bT]<|.br .nil<|.a (.a (.a (.a (.a (.a (.r (.k::uTT 6 (.k::uTT 6 (.k::uTT 5 (.int 0::uTT 5 (.int 1::uTT 5 [.int 2,bT,bT,.int 3,bT]))))) .nil)<|.r (.k::uTT 6 (.k::uTT 6 (.k::uTT 5 (.int 0::uTT 5 (.int 1::uTT 5 [.int 2,bF,bF,bT]))))) .nil)<|.r (.k::uTT 6 (.k::uTT 6 (.k::uTT 5 (.int 0::uTT 5 (.int 1::uFF 7 [bT]))))) .nil)<|.r (.k::uTT 6 (.k::uTT 6 (.k::uTT 5 (.int 0::uFF 12 [bT])))) .nil)<|.r (.k::uTT 6 (.k::uTT 6 (.k::uFF 17 [bT]))) .nil)<|.r (.k::uTT 6 (.k::uFF 23 [bT])) .nil)<|.r (.k::uFF 29 [bT]) .nil)
 (an a0<|an a0<|an a0<|an (kbT (MZ n) trivial)<|brP (λ(h0:(vo n)=true)=>(bE<|show r26 n=false from(bg<|cI h0)))<|λh0=>have q0:=(aD (au h0) rfl:r26 n=_);
 (aO (λ(h1:(decide<|(length (map a9 n.types):Int)<=200)=true)=>have q1:=q0.trans (aD h1 rfl);have l1:=aL a9 (n.types);have g1:=afS h1;
 (aO (λ(h2:(decide<|(length (map aC n.rules):Int)<=100)=true)=>have q2:=q1.trans (aD h2 rfl);have l2:=aL aC (n.rules);have g2:=afS h2;
 (aO (λ(h3:(decide<|(length (map aq n.aa):Int)<=4000)=true)=>have q3:=q2.trans (aD h3 rfl);have l3:=aL aq (n.aa);have g3:=afS h3;
 (aO (λ(h4:(r60 n.types)=true)=>have q4:=q3.trans (aD h4 rfl);
 (aO (λ(h5:(r61 n.aJ)=true)=>(aO (λ(h6:(r61 n.bu)=true)=>(an (cA (g60<|map bI.name<|List.take (length n.rules) n.rules) (show length (map bI.name<|List.take (length n.rules) n.rules)<=9223372036854775807 by simp;have:=hf.rules;omega)<|a1<|ac h6<|cA (g61 n.bu) hf.bu<|aN 4<|ac h5<|cA (g61 n.aJ) hf.rz<|aN 4<|ac h4<|cA (g60 n.types) hf.types<|aN 4<|ac h3<|aN 6<|ac h2<|aN 6<|ac h1<|a1 a0)<|bE<|show r26 n=(r60<|map bI.name<|List.take (length n.rules) n.rules)from(aD (au h0)<|aD h1<|aD h2<|aD h3<|aD h4<|aD h5<|aD h6 rfl)))<|λh6=>(an (a1<|ac (au h6)<|cA (g61 n.bu) hf.bu<|aN 4<|ac h5<|cA (g61 n.aJ) hf.rz<|aN 4<|ac h4<|cA (g60 n.types) hf.types<|aN 4<|ac h3<|aN 6<|ac h2<|aN 6<|ac h1<|a1 a0)<|bE<|q4.trans<|aD h5<|bg h6)))<|λh5=>(an (aN 6<|ac (au h5)<|cA (g61 n.aJ) hf.rz<|aN 4<|ac h4<|cA (g60 n.types) hf.types<|aN 4<|ac h3<|aN 6<|ac h2<|aN 6<|ac h1<|a1 a0)<|bE<|q4.trans<|bg h5)))<|λh4=>(an (aN 11<|ac (au h4)<|cA (g60 n.types) hf.types<|aN 4<|ac h3<|aN 6<|ac h2<|aN 6<|ac h1<|a1 a0)<|bE<|q3.trans<|bg h4)))<|λh3=>(an (aN 16<|ac (au h3)<|aN 6<|ac h2<|aN 6<|ac h1<|a1 a0)<|bE<|q2.trans<|bg h3)))<|λh2=>(an (aN 22<|ac (au h2)<|aN 6<|ac h1<|a1 a0)<|bE<|q1.trans<|bg h2)))<|λh1=>(an (aN 28<|ac (au h1)<|a1 a0)<|bE<|q0.trans<|bg h1))) (hc:=(bn (.cons (g60 n.types) rfl<|.cons (g61 n.aJ) rfl<|.cons (g61 n.bu) rfl<|.cons (g60<|map bI.name<|List.take (length n.rules) n.rules) rfl cy.nil) aE)) (hk:=(bw (l:=[(0,MZ n)]) uO (aK (RC n hf) rfl aU) rfl))
def acC:Code:=bD 0 (aG 46)
def D5(n:Net)(i0:Nat)(y0:lXA):lXA:=(bif (ae n.rules i0).bN then(bif !(ae n.rules i0).eF then y0++ [(ae n.rules i0).type]else y0)else y0)
def cr(n:Net)(kk:Nat):lXA:=Nat.rec (motive:=λ_=>lXA) ([]) (λj a=>D5 n j a) kk
abbrev nY(n:Net)(i0:Nat)(y0:lXA):lXE:=[pY y0]
section
variable(n:Net)(i0:Nat)
abbrev pH:Am.Loc:=[(0,.pf (bA n)),(3,.mp 0),(11,.sl 9 (zH n)),(12,I (length (zH n):Int)),(13,I (i0:Int))]
abbrev xO:lXE:=nY n i0 (cr n i0)
def l9:Bool:=(bif (ae n.rules i0).bN then((!(r62 n (ae n.rules i0).start (i0:Int)))||((!(r62 n (ae n.rules i0).stop (i0:Int)))||(((ae n.rules i0).start==(ae n.rules i0).stop)||((decide<|(length (map aQ (aF n.aa (ae n.rules i0).stop).ah):Int)>0)||(bif !(ae n.rules i0).bN then((ae n.rules i0).eF||((ae n.rules i0).lazy||(((ae n.rules i0).mode !=0)||((ae n.rules i0).left||((decide<|(ae n.rules i0).mode<0)||((decide<|(ae n.rules i0).mode>=(length (map a9 n.bu):Int))||(bif !(!(ae n.rules i0).eF)then(((ae n.rules i0).type !=0)||((!(ae n.rules i0).eF)&&((decide<|(ae n.rules i0).type<1)||((decide<|(ae n.rules i0).type>(length (map a9 n.types):Int))||(dec<|(ae n.rules i0).type∈(cr n i0))))))else((!(ae n.rules i0).eF)&&((decide<|(ae n.rules i0).type<1)||((decide<|(ae n.rules i0).type>(length (map a9 n.types):Int))||(dec<|(ae n.rules i0).type∈(cr n i0))))))))))))else((ae n.rules i0).left||((decide<|(ae n.rules i0).mode<0)||((decide<|(ae n.rules i0).mode>=(length (map a9 n.bu):Int))||(bif !(!(ae n.rules i0).eF)then(((ae n.rules i0).type !=0)||((!(ae n.rules i0).eF)&&((decide<|(ae n.rules i0).type<1)||((decide<|(ae n.rules i0).type>(length (map a9 n.types):Int))||(dec<|(ae n.rules i0).type∈(cr n i0))))))else((!(ae n.rules i0).eF)&&((decide<|(ae n.rules i0).type<1)||((decide<|(ae n.rules i0).type>(length (map a9 n.types):Int))||(dec<|(ae n.rules i0).type∈(cr n i0))))))))))))))else((!(r62 n (ae n.rules i0).start (i0:Int)))||((!(r62 n (ae n.rules i0).stop (i0:Int)))||(((ae n.rules i0).start==(ae n.rules i0).stop)||((decide<|(length (map aQ (aF n.aa (ae n.rules i0).stop).ah):Int)>0)||(bif !(ae n.rules i0).bN then((ae n.rules i0).eF||((ae n.rules i0).lazy||(((ae n.rules i0).mode !=0)||((decide<|(ae n.rules i0).mode<0)||((decide<|(ae n.rules i0).mode>=(length (map a9 n.bu):Int))||((ae n.rules i0).type !=0))))))else((decide<|(ae n.rules i0).mode<0)||((decide<|(ae n.rules i0).mode>=(length (map a9 n.bu):Int))||((ae n.rules i0).type !=0)))))))))
end
def D6(n:Net):Bool:=dA (length n.rules) (l9 n)
abbrev VW(n:Net)(i0:Nat):Am.Loc:=[(2,B false)]
abbrev VX(n:Net)(i0:Nat):lXE:=[]
abbrev VY(n:Net):Am.Loc:=[]
abbrev VZ(n:Net):lXE:=[pY (cr n<|length n.rules)]
def J1(n:Net):KB:=anK 0 (length n.rules) (l9 n) (pH n) (xO n) .ret (VW n) (VX n) (.exit 0) (VY n) (VZ n) (True)
abbrev cV(n:Net)(i0:Nat):List bf:=[htW (l9 n i0) .ret (VW n i0) zb (VX n i0),nxW (l9 n i0) (pH n<|i0+1) (xO n<|i0+1) [(0,.pf (bA n)),(3,.mp 0),(11,.sl 9 (zH n)),(12,I (length (zH n):Int)),(13,I ↑(i0+1))] zAc [.mp (map (Value.int .i64) (cr n i0)++ [.int .i64 (zBu i0 n).type]) (map tru (cr n i0)++ [.v (.bool true)])],nxW (l9 n i0) (pH n<|i0+1) (xO n<|i0+1) (pH n<|i0+1) zAc (nY n (i0+1)<|cr n i0)]
abbrev zCH:List Gi:=(uFF 19 [bT])
section
variable(i0:Nat)
abbrev zN(n:Net):GT:=(.a (.a (.r (bT::bT::bT::.k::bT::uFF 8 (bT::bT::uFF 4 [bT,bT])) zB)<|.a (.r (bT::bT::bT::.k::uTT 9 (.k::bT::bT::uFF 4 [bT,bT])) zB)<|.r (bT::bT::bT::.k::uTT 9 (.k::uTT 6 [.key (lC (cr n i0) (zBu i0 n).type) (B<|dec<|(zBu i0 n).type∈(cr n i0)),bT,bT]))<|.br zB<|.r [bT]<|.yes<|.r [.key none .any,bT]<|zD i0)<|.r zCH<|.r [bT]<|.no<|.r (zCB i0)<|.pick 2)
abbrev zAU:GT:=(.r [bF,bF,bT]<|.a (.r zn zB)<|.r zr<|.br zB<|.r [bT,bT,bT,.k,bT]<|.br zB<|.r zCH<|.r [bT]<|.r (zCB i0)<|.pick 2)
abbrev zBS(n:Net):GT:=(.r [bT,bT,bT]<|.br zB<|.a (.r zn zB)<|.r zr<|.br zB<|.a (.r [bT,bT,bT,.k,bT]<|.br zB<|zN i0 n)<|.r [bF,bF,bF,bT]<|zN i0 n)
abbrev zCf(n:Net):List Gi:=[.bG ((ae n.rules i0).stop).toNat (aq<|aF n.aa (ae n.rules i0).stop),.k,bT]
end
abbrev zCh:GT:=(.r [bT,bT,bT,bF,bF,bT,bT,bF,bF,bF,bT,bT] zB)
abbrev zCi:GT:=(.r (uTT 7 [bF,bF,bF,bT,bT]) zB)
abbrev zCp:List Gi:=(uTT 10 [.k,bT,bT])
abbrev zCy:List Gi:=(uFF 11 [bT])
abbrev zDC(i0:Nat)(n:Net):=(!(ae n.rules i0).eF)
def V0(n:Net)(hf:ck n):cx pg 123 0 0 (.loop acC) (J1 n):=
 anB (cV n) (λi0=>(.r [.k,bT]<|.yes<|.r (zBm i0 n)<|.a (.r (uTT 4 [])<|.r [.int 0,bT]<|.br zB<|.r [.int 1,bT]<|.br zB<|.r [.k,bT]<|.br zB<|.r (zCf i0 n)<|.br zB<|.a (.a zCh<|.a zCi<|.r zCp<|.br zB<|zBS i0 n)<|.r zCy<|zBS i0 n)<|.r [bF,bF,bF,bT]<|.r [.int 0,bT]<|.br zB<|.r [.int 1,bT]<|.br zB<|.r [.k,bT]<|.br zB<|.r (zCf i0 n)<|.br zB<|.a (.a zCh<|.a zCi<|.r zCp<|.br zB<|zAU i0)<|.r zCy<|zAU i0)) (range 1) zE
 (λ_ i0(hx0:i0<(length n.rules))=>have hr:=hf.rules;have l1:=aL aC (n.rules);have hb:(zAK i0 n)=true:=afT oaa;
 bB (an (a1 a0)<|an hb<|an (ac (rwa aC n.rules i0) a0)<|aO (λ(h1:((ae n.rules i0).bN)=true)=>have q0:=(cdT h1 rfl:l9 n i0=_);
 (an (aN 2<|ac h1 a0)<|an (cA (g62 n (ae n.rules i0).start (i0:Int)) trivial a0)<|brP (λ(h2:(!(r62 n (ae n.rules i0).start (i0:Int)))=true)=>(an a0<|lf (wy (cV n i0) 0) 2<|q0.trans<|orT h2))<|λh2=>have q2:=q0.trans (orF h2 rfl);have g2:=ru (GB h2);
 (an (cA (g62 n (ae n.rules i0).stop (i0:Int)) trivial a0)<|brP (λ(h3:(!(r62 n (ae n.rules i0).stop (i0:Int)))=true)=>(an a0<|lf (wy (cV n i0) 0) 2<|q2.trans<|orT h3))<|λh3=>have q4:=q2.trans (orF h3 rfl);have g3:=ru (GB h3);
 (an (a1 a0)<|brP (λ(h4:(zCl i0 n)=true)=>(an a0<|lf (wy (cV n i0) 0) 2<|q4.trans<|orT h4))<|λh4=>have q6:=q4.trans (orF h4 rfl);
 (have l2:=aL aq (n.aa);an (a1<|ac (rwz aq n.aa (ae n.rules i0).stop) a0)<|brP (λ(h5:(zBC i0 n)=true)=>(an a0<|lf (wy (cV n i0) 0) 2<|q6.trans<|orT h5))<|λh5=>have q8:=q6.trans (orF h5 rfl);have l3:=aL aQ ((aF n.aa (ae n.rules i0).stop).ah);have g5:=afN h5;
 (aO (λ(h6:(!(ae n.rules i0).bN)=true)=>have q10:=q8.trans (cdT h6 rfl);
 (aO (λ(h7:((ae n.rules i0).eF)=true)=>(an (aN 7<|ac (n2 h7)<|aN 2<|ac h6 a0)<|an a0<|lf (wy (cV n i0) 0) 2<|q10.trans<|orT h7))<|λh7=>have q14:=q10.trans (orF h7 rfl);
 (aO (λ(h8:((ae n.rules i0).lazy)=true)=>(an (aN 3<|ac (n2 h8)<|aN 3<|ac (au h7)<|aN 2<|ac h6 a0)<|an a0<|lf (wy (cV n i0) 0) 2<|q14.trans<|orT h8))<|λh8=>have q18:=q14.trans (orF h8 rfl);
 (an (aN 4<|ac (au h8)<|aN 3<|ac (au h7)<|aN 2<|ac h6 a0)<|brP (λ(h9:((ae n.rules i0).mode !=0)=true)=>(an a0<|lf (wy (cV n i0) 0) 2<|q18.trans<|orT h9))<|λh9=>have q22:=q18.trans (orF h9 rfl);have g9:=fY h9;
 (an (a1<|ac h1 a0)<|brP (λ(h10:((ae n.rules i0).left)=true)=>(an a0<|lf (wy (cV n i0) 0) 2<|q22.trans<|orT h10))<|λh10=>have q25:=q22.trans (orF h10 rfl);
 (aO (λ(h11:(zAv i0 n)=true)=>(an (aN 7<|ac (n2 h11)<|a1 a0)<|an a0<|lf (wy (cV n i0) 0) 2<|q25.trans<|orT h11))<|λh11=>have q29:=q25.trans (orF h11 rfl);have g11:=afN h11;
 (an (aN 8<|ac (au h11)<|a1 a0)<|brP (λ(h12:(zg i0 n)=true)=>(an a0<|lf (wy (cV n i0) 0) 2<|q29.trans<|orT h12))<|λh12=>have q33:=q29.trans (orF h12 rfl);have l4:=aL a9 (n.bu);have g12:=afN h12;
 (aO (λ(h13:(!(zDC i0 n))=true)=>have q36:=q33.trans (cdT h13 rfl);
 (an (aN 3<|ac h13 a0)<|brP (λ(h14:(zBl i0 n)=true)=>(an a0<|lf (wy (cV n i0) 0) 2<|q36.trans<|orT h14))<|λh14=>have q40:=q36.trans (orF h14 rfl);have g14:=fY h14;
 (aO (λ(h15:(zDC i0 n)=true)=>have q43:=q40.trans (aD h15 rfl);
 (aO (λ(h16:(zBj i0 n)=true)=>(an (aN 14<|ac (n2 h16)<|aN 4<|ac h15 a0)<|an a0<|lf (wy (cV n i0) 0) 2<|q43.trans<|orT h16))<|λh16=>have q45:=q43.trans (orF h16 rfl);have g16:=afN h16;
 (aO (λ(h17:(zAE i0 n)=true)=>(an (aN 4<|ac (n2 h17)<|aN 10<|ac (au h16)<|aN 4<|ac h15 a0)<|an a0<|lf (wy (cV n i0) 0) 2<|q45.trans<|orT h17))<|λh17=>have q47:=q45.trans (orF h17 rfl);have l5:=aL a9 (n.types);have g17:=afN h17;
 (an (a1<|ac (lkI (ae n.rules i0).type<|cr n i0)<|aN 3<|ac (au h17)<|aN 10<|ac (au h16)<|aN 4<|ac h15 a0)<|brP (λ(h18:(dec<|(ae n.rules i0).type∈(cr n i0))=true)=>(an a0<|lf (wy (cV n i0) 0) 2<|q47.trans h18))<|λh18=>(an a0<|an h15<|an (ac (nwI h18) a0)<|an (ac (dwo ((i0+1:Nat):Int)) a0)<|lf (wy (cV n i0) 1) 2 ⟨(q47.trans h18),rfl,(by rw[show xO n (i0+1)=(λy0:lXA=>([pY y0]:lXE)) (cr n<|i0+1)from rfl,(show cr n (i0+1)=((cr n i0)++ [(ae n.rules i0).type])from(cdT h1<|cdT h15 rfl)),(nP (ae n.rules i0).type<|cr n i0)])⟩)))))<|λh15=>(an (aN 18<|ac (au h15) a0)<|an a0<|an h15<|an (ac (dwo ((i0+1:Nat):Int)) a0)<|lf (wy (cV n i0) 2) 2<|nxP (λ_=>pH n<|i0+1) (nY n<|i0+1) (q40.trans<|bg h15)<|show cr n (i0+1)=_ from(cdT h1<|cdF h15 rfl)))))<|λh13=>have q37:=q33.trans (cdF h13 rfl);
 (an (aN 2<|ac (au h13) a0)<|aO (λ(h14:(zDC i0 n)=true)=>have q41:=q37.trans (aD h14 rfl);
 (aO (λ(h15:(zBj i0 n)=true)=>(an (aN 14<|ac (n2 h15)<|aN 4<|ac h14 a0)<|an a0<|lf (wy (cV n i0) 0) 2<|q41.trans<|orT h15))<|λh15=>have q44:=q41.trans (orF h15 rfl);have g15:=afN h15;
 (aO (λ(h16:(zAE i0 n)=true)=>(an (aN 4<|ac (n2 h16)<|aN 10<|ac (au h15)<|aN 4<|ac h14 a0)<|an a0<|lf (wy (cV n i0) 0) 2<|q44.trans<|orT h16))<|λh16=>have q46:=q44.trans (orF h16 rfl);have l5:=aL a9 (n.types);have g16:=afN h16;
 (an (a1<|ac (lkI (ae n.rules i0).type<|cr n i0)<|aN 3<|ac (au h16)<|aN 10<|ac (au h15)<|aN 4<|ac h14 a0)<|brP (λ(h17:(dec<|(ae n.rules i0).type∈(cr n i0))=true)=>(an a0<|lf (wy (cV n i0) 0) 2<|q46.trans h17))<|λh17=>(an a0<|an h14<|an (ac (nwI h17) a0)<|an (ac (dwo ((i0+1:Nat):Int)) a0)<|lf (wy (cV n i0) 1) 2 ⟨(q46.trans h17),rfl,(by rw[show xO n (i0+1)=(λy0:lXA=>([pY y0]:lXE)) (cr n<|i0+1)from rfl,(show cr n (i0+1)=((cr n i0)++ [(ae n.rules i0).type])from(cdT h1<|cdT h14 rfl)),(nP (ae n.rules i0).type<|cr n i0)])⟩)))))<|λh14=>(an (aN 18<|ac (au h14) a0)<|an a0<|an h14<|an (ac (dwo ((i0+1:Nat):Int)) a0)<|lf (wy (cV n i0) 2) 2<|nxP (λ_=>pH n<|i0+1) (nY n<|i0+1) (q37.trans<|bg h14)<|show cr n (i0+1)=_ from(cdT h1<|cdF h14 rfl)))))))))))<|λh6=>have q11:=q8.trans (cdF h6 rfl);
 (an (aN 10<|ac (au h6) a0)<|an (a1<|ac h1 a0)<|brP (λ(h7:((ae n.rules i0).left)=true)=>(an a0<|lf (wy (cV n i0) 0) 2<|q11.trans<|orT h7))<|λh7=>have q15:=q11.trans (orF h7 rfl);
 (aO (λ(h8:(zAv i0 n)=true)=>(an (aN 7<|ac (n2 h8)<|a1 a0)<|an a0<|lf (wy (cV n i0) 0) 2<|q15.trans<|orT h8))<|λh8=>have q19:=q15.trans (orF h8 rfl);have g8:=afN h8;
 (an (aN 8<|ac (au h8)<|a1 a0)<|brP (λ(h9:(zg i0 n)=true)=>(an a0<|lf (wy (cV n i0) 0) 2<|q19.trans<|orT h9))<|λh9=>have q23:=q19.trans (orF h9 rfl);have l4:=aL a9 (n.bu);have g9:=afN h9;
 (aO (λ(h10:(!(zDC i0 n))=true)=>have q26:=q23.trans (cdT h10 rfl);
 (an (aN 3<|ac h10 a0)<|brP (λ(h11:(zBl i0 n)=true)=>(an a0<|lf (wy (cV n i0) 0) 2<|q26.trans<|orT h11))<|λh11=>have q30:=q26.trans (orF h11 rfl);have g11:=fY h11;
 (aO (λ(h12:(zDC i0 n)=true)=>have q34:=q30.trans (aD h12 rfl);
 (aO (λ(h13:(zBj i0 n)=true)=>(an (aN 14<|ac (n2 h13)<|aN 4<|ac h12 a0)<|an a0<|lf (wy (cV n i0) 0) 2<|q34.trans<|orT h13))<|λh13=>have q38:=q34.trans (orF h13 rfl);have g13:=afN h13;
 (aO (λ(h14:(zAE i0 n)=true)=>(an (aN 4<|ac (n2 h14)<|aN 10<|ac (au h13)<|aN 4<|ac h12 a0)<|an a0<|lf (wy (cV n i0) 0) 2<|q38.trans<|orT h14))<|λh14=>have q42:=q38.trans (orF h14 rfl);have l5:=aL a9 (n.types);have g14:=afN h14;
 (an (a1<|ac (lkI (ae n.rules i0).type<|cr n i0)<|aN 3<|ac (au h14)<|aN 10<|ac (au h13)<|aN 4<|ac h12 a0)<|brP (λ(h15:(dec<|(ae n.rules i0).type∈(cr n i0))=true)=>(an a0<|lf (wy (cV n i0) 0) 2<|q42.trans h15))<|λh15=>(an a0<|an h12<|an (ac (nwI h15) a0)<|an (ac (dwo ((i0+1:Nat):Int)) a0)<|lf (wy (cV n i0) 1) 2 ⟨(q42.trans h15),rfl,(by rw[show xO n (i0+1)=(λy0:lXA=>([pY y0]:lXE)) (cr n<|i0+1)from rfl,(show cr n (i0+1)=((cr n i0)++ [(ae n.rules i0).type])from(cdT h1<|cdT h12 rfl)),(nP (ae n.rules i0).type<|cr n i0)])⟩)))))<|λh12=>(an (aN 18<|ac (au h12) a0)<|an a0<|an h12<|an (ac (dwo ((i0+1:Nat):Int)) a0)<|lf (wy (cV n i0) 2) 2<|nxP (λ_=>pH n<|i0+1) (nY n<|i0+1) (q30.trans<|bg h12)<|show cr n (i0+1)=_ from(cdT h1<|cdF h12 rfl)))))<|λh10=>have q27:=q23.trans (cdF h10 rfl);
 (an (aN 2<|ac (au h10) a0)<|aO (λ(h11:(zDC i0 n)=true)=>have q31:=q27.trans (aD h11 rfl);
 (aO (λ(h12:(zBj i0 n)=true)=>(an (aN 14<|ac (n2 h12)<|aN 4<|ac h11 a0)<|an a0<|lf (wy (cV n i0) 0) 2<|q31.trans<|orT h12))<|λh12=>have q35:=q31.trans (orF h12 rfl);have g12:=afN h12;
 (aO (λ(h13:(zAE i0 n)=true)=>(an (aN 4<|ac (n2 h13)<|aN 10<|ac (au h12)<|aN 4<|ac h11 a0)<|an a0<|lf (wy (cV n i0) 0) 2<|q35.trans<|orT h13))<|λh13=>have q39:=q35.trans (orF h13 rfl);have l5:=aL a9 (n.types);have g13:=afN h13;
 (an (a1<|ac (lkI (ae n.rules i0).type<|cr n i0)<|aN 3<|ac (au h13)<|aN 10<|ac (au h12)<|aN 4<|ac h11 a0)<|brP (λ(h14:(dec<|(ae n.rules i0).type∈(cr n i0))=true)=>(an a0<|lf (wy (cV n i0) 0) 2<|q39.trans h14))<|λh14=>(an a0<|an h11<|an (ac (nwI h14) a0)<|an (ac (dwo ((i0+1:Nat):Int)) a0)<|lf (wy (cV n i0) 1) 2 ⟨(q39.trans h14),rfl,(by rw[show xO n (i0+1)=(λy0:lXA=>([pY y0]:lXE)) (cr n<|i0+1)from rfl,(show cr n (i0+1)=((cr n i0)++ [(ae n.rules i0).type])from(cdT h1<|cdT h11 rfl)),(nP (ae n.rules i0).type<|cr n i0)])⟩)))))<|λh11=>(an (aN 18<|ac (au h11) a0)<|an a0<|an h11<|an (ac (dwo ((i0+1:Nat):Int)) a0)<|lf (wy (cV n i0) 2) 2<|nxP (λ_=>pH n<|i0+1) (nY n<|i0+1) (q27.trans<|bg h11)<|show cr n (i0+1)=_ from(cdT h1<|cdF h11 rfl)))))))))))))<|λh1=>have q1:=(cdF h1 rfl:l9 n i0=_);
 (an (aN 2<|ac (au h1) a0)<|an (cA (g62 n (ae n.rules i0).start (i0:Int)) trivial a0)<|brP (λ(h2:(!(r62 n (ae n.rules i0).start (i0:Int)))=true)=>(an a0<|lf (wy (cV n i0) 0) 2<|q1.trans<|orT h2))<|λh2=>have q3:=q1.trans (orF h2 rfl);have g2:=ru (GB h2);
 (an (cA (g62 n (ae n.rules i0).stop (i0:Int)) trivial a0)<|brP (λ(h3:(!(r62 n (ae n.rules i0).stop (i0:Int)))=true)=>(an a0<|lf (wy (cV n i0) 0) 2<|q3.trans<|orT h3))<|λh3=>have q5:=q3.trans (orF h3 rfl);have g3:=ru (GB h3);
 (an (a1 a0)<|brP (λ(h4:(zCl i0 n)=true)=>(an a0<|lf (wy (cV n i0) 0) 2<|q5.trans<|orT h4))<|λh4=>have q7:=q5.trans (orF h4 rfl);
 (have l2:=aL aq (n.aa);an (a1<|ac (rwz aq n.aa (ae n.rules i0).stop) a0)<|brP (λ(h5:(zBC i0 n)=true)=>(an a0<|lf (wy (cV n i0) 0) 2<|q7.trans<|orT h5))<|λh5=>have q9:=q7.trans (orF h5 rfl);have l3:=aL aQ ((aF n.aa (ae n.rules i0).stop).ah);have g5:=afN h5;
 (aO (λ(h6:(!(ae n.rules i0).bN)=true)=>have q12:=q9.trans (cdT h6 rfl);
 (aO (λ(h7:((ae n.rules i0).eF)=true)=>(an (aN 7<|ac (n2 h7)<|aN 2<|ac h6 a0)<|an a0<|lf (wy (cV n i0) 0) 2<|q12.trans<|orT h7))<|λh7=>have q16:=q12.trans (orF h7 rfl);
 (aO (λ(h8:((ae n.rules i0).lazy)=true)=>(an (aN 3<|ac (n2 h8)<|aN 3<|ac (au h7)<|aN 2<|ac h6 a0)<|an a0<|lf (wy (cV n i0) 0) 2<|q16.trans<|orT h8))<|λh8=>have q20:=q16.trans (orF h8 rfl);
 (an (aN 4<|ac (au h8)<|aN 3<|ac (au h7)<|aN 2<|ac h6 a0)<|brP (λ(h9:((ae n.rules i0).mode !=0)=true)=>(an a0<|lf (wy (cV n i0) 0) 2<|q20.trans<|orT h9))<|λh9=>have q24:=q20.trans (orF h9 rfl);have g9:=fY h9;
 (an (a1<|ac (au h1) a0)<|aO (λ(h10:(zAv i0 n)=true)=>(an (aN 7<|ac (n2 h10)<|a1 a0)<|an a0<|lf (wy (cV n i0) 0) 2<|q24.trans<|orT h10))<|λh10=>have q28:=q24.trans (orF h10 rfl);have g10:=afN h10;
 (an (aN 8<|ac (au h10)<|a1 a0)<|brP (λ(h11:(zg i0 n)=true)=>(an a0<|lf (wy (cV n i0) 0) 2<|q28.trans<|orT h11))<|λh11=>have q32:=q28.trans (orF h11 rfl);have l4:=aL a9 (n.bu);have g11:=afN h11;
 (an (aN 4 a0)<|brP (λ(h12:(zBl i0 n)=true)=>(an a0<|lf (wy (cV n i0) 0) 2<|q32.trans h12))<|λh12=>have g12:=fY h12;
 (an (aN 19 a0)<|an a0<|an (ac (dwo ((i0+1:Nat):Int)) a0)<|lf (wy (cV n i0) 2) 2<|nxP (λ_=>pH n<|i0+1) (nY n<|i0+1) (q32.trans h12)<|show cr n (i0+1)=_ from(cdF h1 rfl)))))))))<|λh6=>have q13:=q9.trans (cdF h6 rfl);
 (an (aN 10<|ac (au h6) a0)<|an (a1<|ac (au h1) a0)<|aO (λ(h7:(zAv i0 n)=true)=>(an (aN 7<|ac (n2 h7)<|a1 a0)<|an a0<|lf (wy (cV n i0) 0) 2<|q13.trans<|orT h7))<|λh7=>have q17:=q13.trans (orF h7 rfl);have g7:=afN h7;
 (an (aN 8<|ac (au h7)<|a1 a0)<|brP (λ(h8:(zg i0 n)=true)=>(an a0<|lf (wy (cV n i0) 0) 2<|q17.trans<|orT h8))<|λh8=>have q21:=q17.trans (orF h8 rfl);have l4:=aL a9 (n.bu);have g8:=afN h8;
 (an (aN 4 a0)<|brP (λ(h9:(zBl i0 n)=true)=>(an a0<|lf (wy (cV n i0) 0) 2<|q21.trans h9))<|λh9=>have g9:=fY h9;
 (an (aN 19 a0)<|an a0<|an (ac (dwo ((i0+1:Nat):Int)) a0)<|lf (wy (cV n i0) 2) 2<|nxP (λ_=>pH n<|i0+1) (nY n<|i0+1) (q21.trans h9)<|show cr n (i0+1)=_ from(cdF h1 rfl)))))))))))
 oab)
 (λ_=>have hr:=hf.rules;have l1:=aL aC (n.rules);have hb:(zP n)=false:=afU oaa;
 bB (an (a1 a0)<|an hb<|lx (.exit 0) (VY n) (range 1) (VZ n) 1)
 oab) (hc:=λ_ i0 hx0=>(bn (.cons (g62 n (ae n.rules i0).start (i0:Int)) rfl<|.cons (g62 n (ae n.rules i0).stop (i0:Int)) rfl cy.nil) aE))
def r27(n:Net):Bool:=(!(D6 n))
def uP:di [0] (aG 46)=[(0,.loop acC)]:=by kernel_rfl
def aa0(n:Net)(hf:ck n):aY pg 46 [.pf (bA n)] [] [] (B<|r27 n) []:=
 aV 46 (.r [bT] zf)
 (an a0<|an a0<|an a0<|an (kbT (J1 n) trivial)<|brP (λ(h0:(D6 n)=true)=>(bE<|show r27 n=false from(cI h0)))<|λh0=>(an a0<|bE<|show r27 n=true from(au h0))) (hk:=(bw (l:=[(0,J1 n)]) uP (aK (V0 n hf) rfl aU) rfl))
def r77(n:Net)(r:bI)(no:Int)(e:Edge):Bool:=((e.n==0)&&e.level==0)
abbrev zR(e:Edge)(n:Net)(no:Int)(r:bI):lXF:=[.pf (bA n),.pf (aC r),I no,.pf (aQ e)]
section
variable(n:Net)(r:bI)(no:Int)(e:Edge)
theorem adx:aY pg 99 [.ag (zR e n no r)] [] [] (B<|r77 n r no e) []:=
 aV 99 (.r [bT] zBL)
 (an a0<|aO (λ(h0:(e.n==0)=true)=>(an (aN 6<|ac h0<|a1 a0)<|bE<|show r77 n r no e=(e.level==0)from(aD h0 rfl)))<|λh0=>(an (aN 5<|ac (au h0)<|a1 a0)<|bE<|show r77 n r no e=false from(bg h0)))
def r79:Bool:=((decide<|e.n>=0)&&((decide<|e.n<(length (map aC n.rules):Int))&&(((aF n.rules e.n).bN==r.bN)&&((decide<|e.level>=0)&&((decide<|e.level<=65)&&((e.level==0)||((e.n==no)&&r.left)))))))
theorem ady(hl:length n.rules<=9223372036854775807):aY pg 101 [.ag (zR e n no r)] [] [] (B<|r79 n r no e) []:=
 aV 101 (.r [bT]<|.a (.a (.a (.a (.a (.a (.r (.k::uTT 12 (.k::uTT 11 (.bG (e.n).toNat (aC<|aF n.rules e.n)::uTT 8 (.k::uTT 6 (.k::uTT 6 (.k::uTT 6 (.k::bT::uFF 15 [bT,bT]))))))) .nil)<|.a (.r (.k::uTT 12 (.k::uTT 11 (.bG (e.n).toNat (aC<|aF n.rules e.n)::uTT 8 (.k::uTT 6 (.k::uTT 6 (.k::uTT 6 (.k::uTT 9 (.k::uTT 9 [])))))))) .nil)<|.r (.k::uTT 12 (.k::uTT 11 (.bG (e.n).toNat (aC<|aF n.rules e.n)::uTT 8 (.k::uTT 6 (.k::uTT 6 (.k::uTT 6 (.k::uTT 9 (.k::bT::uFF 5 [bT,bT,bT])))))))) .nil)<|.r (.k::uTT 12 (.k::uTT 11 (.bG (e.n).toNat (aC<|aF n.rules e.n)::uTT 8 (.k::uTT 6 (.k::uTT 6 (.k::uFF 23 [bT])))))) .nil)<|.r (.k::uTT 12 (.k::uTT 11 (.bG (e.n).toNat (aC<|aF n.rules e.n)::uTT 8 (.k::uTT 6 (.k::uFF 29 [bT]))))) .nil)<|.r (.k::uTT 12 (.k::uTT 11 (.bG (e.n).toNat (aC<|aF n.rules e.n)::uTT 8 (.k::uFF 35 [bT])))) .nil)<|.r (.k::uTT 12 (.k::uFF 54 [bT])) .nil)<|.r (.k::uFF 66 [bT]) .nil)
 (an a0<|aO (λ(h0:(decide<|e.n>=0)=true)=>have q0:=(aD h0 rfl:r79 n r no e=_);have g0:=afS h0;
 (aO (λ(h1:(decide<|e.n<(length (map aC n.rules):Int))=true)=>have q1:=q0.trans (aD h1 rfl);have l1:=aL aC (n.rules);have g1:=afS h1;
 (aO (λ(h2:((aF n.rules e.n).bN==r.bN)=true)=>have q2:=q1.trans (aD h2 rfl);
 (aO (λ(h3:(decide<|e.level>=0)=true)=>have q3:=q2.trans (aD h3 rfl);have g3:=afS h3;
 (aO (λ(h4:(decide<|e.level<=65)=true)=>have q4:=q3.trans (aD h4 rfl);have g4:=afS h4;
 (aO (λ(h5:(e.level==0)=true)=>have g5:=eq_of_beq h5;
 (an (aN 15<|ac (n2 h5)<|aN 7<|ac h4<|aN 6<|ac h3<|aN 6<|ac h2<|aN 9<|ac (rwz aC n.rules e.n)<|aN 10<|ac h1<|aN 12<|ac h0<|a1 a0)<|bE<|q4.trans<|orT h5))<|λh5=>have g5:=afX h5;
 (aO (λ(h6:(e.n==no)=true)=>(an (aN 6<|ac h6<|aN 9<|ac (au h5)<|aN 7<|ac h4<|aN 6<|ac h3<|aN 6<|ac h2<|aN 9<|ac (rwz aC n.rules e.n)<|aN 10<|ac h1<|aN 12<|ac h0<|a1 a0)<|bE<|show r79 n r no e=r.left from(aD h0<|aD h1<|aD h2<|aD h3<|aD h4<|orF h5<|aD h6 rfl)))<|λh6=>(an (aN 6<|ac (au h6)<|aN 9<|ac (au h5)<|aN 7<|ac h4<|aN 6<|ac h3<|aN 6<|ac h2<|aN 9<|ac (rwz aC n.rules e.n)<|aN 10<|ac h1<|aN 12<|ac h0<|a1 a0)<|bE<|q4.trans<|orF h5<|bg h6))))<|λh4=>have g4:=afN h4;
 (an (aN 22<|ac (au h4)<|aN 6<|ac h3<|aN 6<|ac h2<|aN 9<|ac (rwz aC n.rules e.n)<|aN 10<|ac h1<|aN 12<|ac h0<|a1 a0)<|bE<|q3.trans<|bg h4)))<|λh3=>have g3:=afN h3;
 (an (aN 28<|ac (au h3)<|aN 6<|ac h2<|aN 9<|ac (rwz aC n.rules e.n)<|aN 10<|ac h1<|aN 12<|ac h0<|a1 a0)<|bE<|q2.trans<|bg h3)))<|λh2=>(an (aN 34<|ac (au h2)<|aN 9<|ac (rwz aC n.rules e.n)<|aN 10<|ac h1<|aN 12<|ac h0<|a1 a0)<|bE<|q1.trans<|bg h2)))<|λh1=>(an (aN 53<|ac (au h1)<|aN 12<|ac h0<|a1 a0)<|bE<|q0.trans<|bg h1)))<|λh0=>(an (aN 65<|ac (au h0)<|a1 a0)<|bE<|show r79 n r no e=false from(bg h0)))
end
def r83(n:Net)(r:bI)(no:Int)(e:Edge):Bool:=((decide<|e.n>=1)&&((decide<|e.n<=64)&&e.level==0))
theorem adz(n:Net)(r:bI)(no:Int)(e:Edge):aY pg 105 [.ag (zR e n no r)] [] [] (B<|r83 n r no e) []:=
 aV 105 (.r [bT]<|.a (.a (.r (.k::uTT 6 (.k::uTT 6 [.k,bT])) .nil)<|.r (.k::uTT 6 (.k::uFF 6 [bT])) .nil)<|.r zBf .nil)
 (an a0<|aO (λ(h0:(decide<|e.n>=1)=true)=>(aO (λ(h1:(decide<|e.n<=64)=true)=>(an (aN 6<|ac h1<|aN 6<|ac h0<|a1 a0)<|bE<|show r83 n r no e=(e.level==0)from(aD h0<|aD h1 rfl)))<|λh1=>(an (aN 5<|ac (au h1)<|aN 6<|ac h0<|a1 a0)<|bE<|show r83 n r no e=false from(aD h0<|bg h1))))<|λh0=>(an (aN 11<|ac (au h0)<|a1 a0)<|bE<|show r83 n r no e=false from(bg h0)))
def r84(n:Net)(r:bI)(no:Int)(e:Edge):Bool:=(r.left&&((decide<|e.n>=1)&&((decide<|e.n<=64)&&((decide<|e.level>=1)&&decide (e.level<=64)))))
theorem adA(n:Net)(r:bI)(no:Int)(e:Edge):aY pg 106 [.ag (zR e n no r)] [] [] (B<|r84 n r no e) []:=
 aV 106 (.r [bT]<|.a (.a (.a (.a (.r (uTT 6 (.k::uTT 6 (.k::uTT 6 (.k::uTT 6 [.k,bT])))) .nil)<|.r (uTT 6 (.k::uTT 6 (.k::uTT 6 (.k::uFF 6 [bT])))) .nil)<|.r (uTT 6 (.k::uTT 6 (.k::uFF 12 [bT]))) .nil)<|.r (uTT 6 (.k::uFF 18 [bT])) .nil)<|.r (uFF 24 [bT]) .nil)
 (an a0<|aO (λ(h0:(r.left)=true)=>have q0:=(aD h0 rfl:r84 n r no e=_);
 (aO (λ(h1:(decide<|e.n>=1)=true)=>have q1:=q0.trans (aD h1 rfl);
 (aO (λ(h2:(decide<|e.n<=64)=true)=>(aO (λ(h3:(decide<|e.level>=1)=true)=>(an (aN 6<|ac h3<|aN 6<|ac h2<|aN 6<|ac h1<|aN 6<|ac h0 a0)<|bE<|show r84 n r no e=(decide<|e.level<=64)from(aD h0<|aD h1<|aD h2<|aD h3 rfl)))<|λh3=>(an (aN 5<|ac (au h3)<|aN 6<|ac h2<|aN 6<|ac h1<|aN 6<|ac h0 a0)<|bE<|q1.trans<|aD h2<|bg h3)))<|λh2=>(an (aN 11<|ac (au h2)<|aN 6<|ac h1<|aN 6<|ac h0 a0)<|bE<|q1.trans<|bg h2)))<|λh1=>(an (aN 17<|ac (au h1)<|aN 6<|ac h0 a0)<|bE<|q0.trans<|bg h1)))<|λh0=>(an (aN 23<|ac (au h0) a0)<|bE<|show r84 n r no e=false from(bg h0)))
def r85(n:Net)(r:bI)(no:Int)(e:Edge):Bool:=(r.left&&((e.n==0)&&e.level==0))
theorem adB(n:Net)(r:bI)(no:Int)(e:Edge):aY pg 107 [.ag (zR e n no r)] [] [] (B<|r85 n r no e) []:=
 aV 107 (.r [bT]<|.a (.a (.r (uTT 6 (.k::uTT 6 [.k,bT])) .nil)<|.r (uTT 6 (.k::uFF 6 [bT])) .nil) zCY)
 (an a0<|aO (λ(h0:(r.left)=true)=>(aO (λ(h1:(e.n==0)=true)=>(an (aN 6<|ac h1<|aN 6<|ac h0 a0)<|bE<|show r85 n r no e=(e.level==0)from(aD h0<|aD h1 rfl)))<|λh1=>(an (aN 5<|ac (au h1)<|aN 6<|ac h0 a0)<|bE<|show r85 n r no e=false from(aD h0<|bg h1))))<|λh0=>(an (aN 11<|ac (au h0) a0)<|bE<|show r85 n r no e=false from(bg h0)))
def r78(n:Net)(r:bI)(no:Int)(e:Edge):Bool:=(bif r.bN then((e.n==0)&&((e.level==0)&&((decide<|(((ae e.set 0)).1)>=0)&&decide ((((aF e.set<|(length (map aP e.set):Int)-1)).2)<=1114111))))else((e.n==0)&&((e.level==0)&&((decide<|(((ae e.set 0)).1)>=1)&&decide ((((aF e.set<|(length (map aP e.set):Int)-1)).2)<=(wrap .i32 (length (map a9 n.types):Int)))))))
abbrev zT(e:Edge):GT:=(.r [bT]<|.a (.a (.a (.r (.k::uTT 6 (.k::bT::bT::.row (aP<|ae e.set 0)::uTT 4 (.k::uTT 4 (.int ((length (zCZ e):Int)-1)::bT::.bG (((length (zCZ e):Int)-1)).toNat (aP<|aF e.set<|(length (zCZ e):Int)-1)::uTT 4 [.k,bT])))) .nil)<|.r (.k::uTT 6 (.k::bT::bT::.row (aP<|ae e.set 0)::uTT 4 (.k::uFF 9 [bT]))) .nil)<|.r (.k::uTT 6 (.k::uFF 15 [bT])) .nil)<|.r (.k::uFF 21 [bT]) .nil)
theorem adC(n:Net)(r:bI)(no:Int)(e:Edge)(ht:length n.types<=9223372036854775807)(hs:0<length e.set)(hl:length e.set<=9223372036854775807):aY pg 100 [.ag (zR e n no r)] [] [] (B<|r78 n r no e) []:=
 aV 100 (.r [bT]<|.r [bT]<|.r [bT]<|.br (.r [bT]<|zT e)<|zT e)
 (an a0<|an a0<|an a0<|brP (λ(h0:(r.bN)=true)=>(an a0<|an a0<|aO (λ(h1:(e.n==0)=true)=>have g1:=eq_of_beq h1;
 (aO (λ(h2:(e.level==0)=true)=>have g2:=eq_of_beq h2;
 (aO (λ(h3:(decide<|(((ae e.set 0)).1)>=0)=true)=>have g3:=afS h3;
 (have l1:=aL aP (e.set);an (aN 5<|ac (rwz aP e.set<|(length (map aP e.set):Int)-1)<|a1<|ac (dwo<|(length (map aP e.set):Int)-1)<|aN 3<|ac h3<|aN 5<|ac (rwa aP e.set 0)<|a1<|ac h2<|aN 6<|ac h1<|a1 a0)<|bE<|show r78 n r no e=_ from(cdT h0<|aD h1<|aD h2<|aD h3 rfl)))<|λh3=>have g3:=afN h3;
 (an (aN 8<|ac (au h3)<|aN 5<|ac (rwa aP e.set 0)<|a1<|ac h2<|aN 6<|ac h1<|a1 a0)<|bE<|show r78 n r no e=_ from(cdT h0<|aD h1<|aD h2<|bg h3))))<|λh2=>(an (aN 14<|ac (au h2)<|aN 6<|ac h1<|a1 a0)<|bE<|show r78 n r no e=_ from(cdT h0<|aD h1<|bg h2))))<|λh1=>(an (aN 20<|ac (au h1)<|a1 a0)<|bE<|show r78 n r no e=_ from(cdT h0<|bg h1))))<|λh0=>(an a0<|aO (λ(h1:(e.n==0)=true)=>have g1:=eq_of_beq h1;
 (aO (λ(h2:(e.level==0)=true)=>have g2:=eq_of_beq h2;
 (aO (λ(h3:(decide<|(((ae e.set 0)).1)>=1)=true)=>have g3:=afS h3;
 (have l1:=aL aP (e.set);an (aN 5<|ac (rwz aP e.set<|(length (map aP e.set):Int)-1)<|a1<|ac (dwo<|(length (map aP e.set):Int)-1)<|aN 3<|ac h3<|aN 5<|ac (rwa aP e.set 0)<|a1<|ac h2<|aN 6<|ac h1<|a1 a0)<|bE<|show r78 n r no e=_ from(cdF h0<|aD h1<|aD h2<|aD h3 rfl)))<|λh3=>have g3:=afN h3;
 (an (aN 8<|ac (au h3)<|aN 5<|ac (rwa aP e.set 0)<|a1<|ac h2<|aN 6<|ac h1<|a1 a0)<|bE<|show r78 n r no e=_ from(cdF h0<|aD h1<|aD h2<|bg h3))))<|λh2=>(an (aN 14<|ac (au h2)<|aN 6<|ac h1<|a1 a0)<|bE<|show r78 n r no e=_ from(cdF h0<|aD h1<|bg h2))))<|λh1=>(an (aN 20<|ac (au h1)<|a1 a0)<|bE<|show r78 n r no e=_ from(cdF h0<|bg h1))))
section
variable(e:Edge)(o:Int)
def r82e:Bool:=(((G.op e.g)==o)||lD o (G.kids e.g))
def V1(hf:dV e.g):aY pg 104 [.pf [I8 (G.op e.g),I (G.n e.g),S (G.name e.g),.sl 4 (map gC<|G.kids e.g),.sl 2 (map cO e.bL),I e.to],I8 o] [] [] (B<|r82e e o) []:=
 aV 104 zBw
 (an a0<|aO (λ(h0:((G.op e.g)==o)=true)=>(an (aN 5<|ac (n2 h0)<|a1 a0)<|bE<|show r82e e o=true from(orT h0)))<|λh0=>(an (cA (DT hf.len<|λu hu=>uc o u<|hf.kids u hu) trivial<|aN 5<|ac (au h0)<|a1 a0)<|bE<|show r82e e o=(lD o<|G.kids e.g)from(orF h0 rfl))) (hc:=(bn (.cons (DT hf.len<|λu hu=>uc o u<|hf.kids u hu) rfl cy.nil) aE))
theorem aa1:r82e e o=fp o e.g:=by obtain⟨a,b,c,d,g,f,h⟩:=e;obtain⟨o',n,s,l⟩:=g;rfl
def i82e:cj:=⟨104,[.pf ((aQ e).drop 4),I8 o],B (fp o e.g),dV e.g⟩
theorem RD:(i82e e o).bS pg:=λhp=>⟨by have:=V1 e o hp;rw[aa1]at this;exact this,by simp[i82e,aQ,aj,AV.pure],rfl⟩
end
def r80(n:Net)(r:bI)(no:Int)(e:Edge):Bool:=((e.n==0)&&((e.level==0)&&(((r81 e.g)==0)&&((!(fp 14 e.g))&&(r.bN|| !(fp 13 e.g))))))
section
variable(n:Net)
theorem adD(r:bI)(no:Int)(e:Edge)(he:GD e):aY pg 102 [.ag (zR e n no r)] [] [] (B<|r80 n r no e) []:=
 aV 102 (.r [bT]<|.a (.a (.a (.a (.a (.r (.k::uTT 6 (.k::uTT 6 (.int 0::bT::.k::uTT 5 (.int 1::uTT 7 (uFF 6 [bT,bT]))))) .nil)<|.r (.k::uTT 6 (.k::uTT 6 (.int 0::bT::.k::uTT 5 (.int 1::uTT 12 [.int 2,bT,bT,bT])))) .nil)<|.r (.k::uTT 6 (.k::uTT 6 (.int 0::bT::.k::uTT 5 (.int 1::bT::uFF 13 [bT])))) .nil)<|.r (.k::uTT 6 (.k::uTT 6 (.int 0::bT::.k::uFF 19 [bT]))) .nil)<|.r (.k::uTT 6 (.k::uFF 26 [bT])) .nil)<|.r (.k::uFF 32 [bT]) .nil)
 (an a0<|aO (λ(h0:(e.n==0)=true)=>have q0:=(aD h0 rfl:r80 n r no e=_);
 (aO (λ(h1:(e.level==0)=true)=>have q1:=q0.trans (aD h1 rfl);
 (aO (λ(h2:((r81 e.g)==0)=true)=>have q2:=q1.trans (aD h2 rfl);
 (aO (λ(h3:(!(fp 14 e.g))=true)=>(aO (λ(h4:(r.bN)=true)=>(an (aN 6<|ac (n2 h4)<|aN 5<|ac h3<|a1<|cA (RD e 14) he.g<|aN 4<|ac h2<|aN 2<|cA (g81 e.g) he.g<|aN 5<|ac h1<|aN 6<|ac h0<|a1 a0)<|bE<|q2.trans<|aD h3<|orT h4))<|λh4=>(an (aN 2<|cA (RD e 13) he.g<|aN 4<|ac (au h4)<|aN 5<|ac h3<|a1<|cA (RD e 14) he.g<|aN 4<|ac h2<|aN 2<|cA (g81 e.g) he.g<|aN 5<|ac h1<|aN 6<|ac h0<|a1 a0)<|bE<|show r80 n r no e=(!(fp 13 e.g))from(aD h0<|aD h1<|aD h2<|aD h3<|orF h4 rfl))))<|λh3=>(an (aN 12<|ac (au h3)<|a1<|cA (RD e 14) he.g<|aN 4<|ac h2<|aN 2<|cA (g81 e.g) he.g<|aN 5<|ac h1<|aN 6<|ac h0<|a1 a0)<|bE<|q2.trans<|bg h3)))<|λh2=>(an (aN 18<|ac (au h2)<|aN 2<|cA (g81 e.g) he.g<|aN 5<|ac h1<|aN 6<|ac h0<|a1 a0)<|bE<|q1.trans<|bg h2)))<|λh1=>(an (aN 25<|ac (au h1)<|aN 6<|ac h0<|a1 a0)<|bE<|q0.trans<|bg h1)))<|λh0=>(an (aN 31<|ac (au h0)<|a1 a0)<|bE<|show r80 n r no e=false from(bg h0))) (hc:=(bn (.cons (g81 e.g) rfl<|.cons (RD e 14) rfl<|.cons (RD e 13) rfl cy.nil) aE))
def r88(r:bI)(no:Int)(e:Edge)(a:Int×Int):Bool:= !(r89 n a)
section
variable(r:bI)(no:Int)(e:Edge)(a:Int×Int)
theorem act88:aY pg 110 [.ag (cO a),.pf (zR e n no r)] [] [] (B<|r88 n r no e a) []:=
 aV 110 zCS
 (an a0<|an (cA (g89 n a) trivial a0)<|bE<|show r88 n r no e a=(!(r89 n a))from rfl) (hc:=(bn (.cons (g89 n a) rfl cy.nil) aE))
def i88:cj:=⟨110,[.ag (cO a),.pf (zR e n no r)],B (r88 n r no e a),True⟩
theorem g88:(i88 n r no e a).bS pg:=λ_=>(by simp_all[act88,i88,aj,AV.pure])
end
end
def V2:Code:=bD 0 (aG 129)
abbrev J2(n:Net)(r:bI)(no:Int)(e:Edge)(l:List (Int×Int))(i0:Nat):Am.Loc:=[(0,.sl 2 (map cO l)),(1,.fn (.func 110) [] [.pf (zR e n no r)]),(7,I (length (map cO l):Int)),(8,I (i0:Int))]
abbrev J3(n:Net)(r:bI)(no:Int)(e:Edge)(l:List (Int×Int))(i0:Nat):lXE:=[]
section
variable(n:Net)(r:bI)(no:Int)(e:Edge)(l:List (Int×Int))
def qc(i0:Nat):Bool:=(r88 n r no e<|ae l i0)
def xP:Bool:=dA (length l) (qc n r no e l)
end
abbrev M4(n:Net)(r:bI)(no:Int)(e:Edge)(l:List (Int×Int))(i0:Nat):Am.Loc:=[(4,I (i0:Int))]
abbrev M5(n:Net)(r:bI)(no:Int)(e:Edge)(l:List (Int×Int))(i0:Nat):lXE:=[]
abbrev M6(n:Net)(r:bI)(no:Int)(e:Edge)(l:List (Int×Int)):Am.Loc:=[]
abbrev M7(n:Net)(r:bI)(no:Int)(e:Edge)(l:List (Int×Int)):lXE:=[]
section
variable(n:Net)(r:bI)(no:Int)(e:Edge)(l:List (Int×Int))
def D7:KB:=anK 0 (length l) (qc n r no e l) (J2 n r no e l) (J3 n r no e l) .ret (M4 n r no e l) (M5 n r no e l) (.exit 0) (M6 n r no e l) (M7 n r no e l) (True)
abbrev J4(i0:Nat):List bf:=[htW (qc n r no e l i0) .ret (M4 n r no e l i0) zb (M5 n r no e l i0),nxW (qc n r no e l i0) (J2 n r no e l<|i0+1) (J3 n r no e l<|i0+1) (J2 n r no e l<|i0+1) zb (J3 n r no e l<|i0+1)]
end
abbrev zCt(l:List (Int×Int)):=(decide<|(((length l):Nat):Int)<(length (map cO l):Int))
section
variable(n:Net)(r:bI)(no:Int)(e:Edge)(l:List (Int×Int))
def RE(ls:length l<=9223372036854775807):cx pg 19 0 0 (.loop V2) (D7 n r no e l):=
 anB (J4 n r no e l) (λi0=>(.r [.k,bT]<|.yes<|.r [bT]<|.r [.row (cO<|ae l i0),.int 0,bT]<|.br zB<|zD i0)) (range 0) zE
 (λ_ i0(hx0:i0<(length l))=>have l1:=aL cO (l);have hb:(decide<|(i0:Int)<(length (map cO l):Int))=true:=afT oaa;
 bB (an (a1 a0)<|an hb<|an a0<|an (cAk (g88 n r no e<|ae l i0) trivial [.ag (cO<|ae l i0)] [.pf (zR e n no r)] oat oat<|ac (rwa cO l i0) a0)<|brP (λ(h1:(r88 n r no e<|ae l i0)=true)=>(an a0<|lf (wy (J4 n r no e l i0) 0) 0<|show qc n r no e l i0=true from h1))<|λh1=>(an (ac (dwo ((i0+1:Nat):Int)) a0)<|lf (wy (J4 n r no e l i0) 1) 0 ⟨(show qc n r no e l i0=false from h1),rfl,rfl⟩))
 oab)
 (λ_=>have l1:=aL cO (l);have hb:(zCt l)=false:=afU oaa;
 bB (an (a1 a0)<|an hb<|lx (.exit 0) (M6 n r no e l) (range 0) (M7 n r no e l) 0)
 oab) (hc:=λ_ i0 hx0=>(bn (.cons (g88 n r no e<|ae l i0) rfl cy.nil) aE))
def J5:Int:=(bif xP n r no e l then(((lB (length l)<|qc n r no e l):Nat):Int)else(-1))
end
def rD:di [0] (aG 129)=[(0,.loop V2)]:=by kernel_rfl
section
variable(n:Net)(r:bI)
section
variable(no:Int)(e:Edge)(l:List (Int×Int))
theorem adE(ls:length l<=9223372036854775807):aY pg 129 [.sl 2 (map cO l),.fn (.func 110) [] [.pf (zR e n no r)]] [] [] (I<|J5 n r no e l) []:=
 aV 129 zf
 (an a0<|an a0<|an (kbT (D7 n r no e l) trivial)<|brP (λ(h0:(xP n r no e l)=true)=>(iE<|show J5 n r no e l=_ from(cdT h0 rfl)))<|λh0=>(an a0<|iE<|show J5 n r no e l=_ from(cdF h0 rfl))) (hk:=(bw (l:=[(0,D7 n r no e l)]) rD (aK (RE n r no e l ls) rfl aU) rfl))
def i103:cj:=⟨129,[.sl 2 (l.map cO),.fn (.func 110) [] [.pf (zR e n no r)]],I (J5 n r no e l),l.length<=9223372036854775807⟩
theorem g103:(i103 n r no e l).bS pg:=λhp=>(by simp_all[adE,i103,aj,AV.pure])
def r87:Bool:=decide ((J5 n r no e l)>=0)
def J6(ls:length l<=9223372036854775807):aY pg 109 [.sl 2 (map cO l),.fn (.func 110) [] [.pf (zR e n no r)]] [] [] (B<|r87 n r no e l) []:=
 aV 109 zBW
 (an a0<|an (a1<|cA (g103 n r no e l) ls a0)<|bE<|show r87 n r no e l=(decide<|(J5 n r no e l)>=0)from rfl) (hc:=(bn (.cons (g103 n r no e l) rfl cy.nil) aE))
theorem adF:r87 n r no e l=l.any λa=> !(r89 n a):=by have h2:xP n r no e l=l.any λa=> !(r89 n a):=j0 (λa=> !(r89 n a)) l;grind[r87,J5]
def i87:cj:=⟨109,[.sl 2 (l.map cO),.fn (.func 110) [] [.pf (zR e n no r)]],B (l.any λa=> !(r89 n a)),l.length<=9223372036854775807⟩
theorem g87:(i87 n r no e l).bS pg:=λhp=>⟨by have:=J6 n r no e l hp;rw[adF]at this;exact this,by simp[i87,aj,AV.pure],rfl⟩
end
def r86(no:Int)(e:Edge):Bool:=(r.bN&&((!r.eF)&&((e.n==0)&&((e.level==0)&& !(e.bL.any λa=> !(r89 n a))))))
section
variable(no:Int)(e:Edge)
theorem adG(ha:length e.bL<=9223372036854775807):aY pg 108 [.ag (zR e n no r)] [] [] (B<|r86 n r no e) []:=
 aV 108 (.r [bT]<|.a (.a (.a (.a (.r (uTT 12 (.k::uTT 6 (.k::uTT 7 [.int 0,bT,bT]))) .nil)<|.r (uTT 12 (.k::uTT 6 (.k::uFF 8 [bT]))) .nil)<|.r (uTT 12 (.k::uFF 14 [bT])) .nil)<|.r (uTT 6<|uFF 20 [bT]) .nil)<|.r (uFF 26 [bT]) .nil)
 (an a0<|aO (λ(h0:(r.bN)=true)=>have q0:=(aD h0 rfl:r86 n r no e=_);
 (aO (λ(h1:(!r.eF)=true)=>have q1:=q0.trans (aD h1 rfl);
 (aO (λ(h2:(e.n==0)=true)=>(aO (λ(h3:(e.level==0)=true)=>(an (a1<|cA (g87 n r no e e.bL) ha<|aN 6<|ac h3<|aN 6<|ac h2<|aN 6<|ac h1<|aN 5<|ac h0 a0)<|bE<|show r86 n r no e=(!(e.bL.any λa=> !(r89 n a)))from(aD h0<|aD h1<|aD h2<|aD h3 rfl)))<|λh3=>(an (aN 7<|ac (au h3)<|aN 6<|ac h2<|aN 6<|ac h1<|aN 5<|ac h0 a0)<|bE<|q1.trans<|aD h2<|bg h3)))<|λh2=>(an (aN 13<|ac (au h2)<|aN 6<|ac h1<|aN 5<|ac h0 a0)<|bE<|q1.trans<|bg h2)))<|λh1=>(an (aN 19<|ac (au h1)<|aN 5<|ac h0 a0)<|bE<|q0.trans<|bg h1)))<|λh0=>(an (aN 25<|ac (au h0) a0)<|bE<|show r86 n r no e=false from(bg h0))) (hc:=(bn (.cons (g87 n r no e e.bL) rfl cy.nil) aE))
def i77:cj:=⟨99,[.ag (zR e n no r)],B (r77 n r no e),True⟩
theorem g77:(i77 n r no e).bS pg:=λhp=>(by simp_all[adx,i77,aj,AV.pure])
def i78:cj:=⟨100,[.ag (zR e n no r)],B (r78 n r no e),(length n.types<=9223372036854775807)/\(0<length e.set)/\(length e.set<=9223372036854775807)⟩
theorem g78:(i78 n r no e).bS pg:=λhp=>(by simp_all[adC,i78,aj,AV.pure])
def i79:cj:=⟨101,[.ag (zR e n no r)],B (r79 n r no e),(length n.rules<=9223372036854775807)⟩
theorem g79:(i79 n r no e).bS pg:=λhp=>(by simp_all[ady,i79,aj,AV.pure])
def i80:cj:=⟨102,[.ag (zR e n no r)],B (r80 n r no e),(GD e)⟩
theorem g80:(i80 n r no e).bS pg:=λhp=>(by simp_all[adD,i80,aj,AV.pure])
def i83:cj:=⟨105,[.ag (zR e n no r)],B (r83 n r no e),True⟩
theorem g83:(i83 n r no e).bS pg:=λhp=>(by simp_all[adz,i83,aj,AV.pure])
def i84:cj:=⟨106,[.ag (zR e n no r)],B (r84 n r no e),True⟩
theorem g84:(i84 n r no e).bS pg:=λhp=>(by simp_all[adA,i84,aj,AV.pure])
def i85:cj:=⟨107,[.ag (zR e n no r)],B (r85 n r no e),True⟩
theorem g85:(i85 n r no e).bS pg:=λhp=>(by simp_all[adB,i85,aj,AV.pure])
def i86:cj:=⟨108,[.ag (zR e n no r)],B (r86 n r no e),(length e.bL<=9223372036854775807)⟩
theorem g86:(i86 n r no e).bS pg:=λhp=>(by simp_all[adG,i86,aj,AV.pure])
end
end
def r63:AV:= .ag [.fn (.func 99) [] [],.fn (.func 100) [] [],.fn (.func 101) [] [],.fn (.func 102) [] [],.fn (.func 105) [] [],.fn (.func 106) [] [],.fn (.func 107) [] [],.fn (.func 108) [] []]
def aa2:aY pg 76 [] [] [] (r63) []:=
 aV 76 (.r [bT] zF)
 (an a0<|an a0<|vE<|show r63=(.ag [.fn (.func 99) [] [],.fn (.func 100) [] [],.fn (.func 101) [] [],.fn (.func 102) [] [],.fn (.func 105) [] [],.fn (.func 106) [] [],.fn (.func 107) [] [],.fn (.func 108) [] []])from rfl)
def i63:cj:=⟨76,[],.ag [.fn (.func 99) [] [],.fn (.func 100) [] [],.fn (.func 101) [] [],.fn (.func 102) [] [],.fn (.func 105) [] [],.fn (.func 106) [] [],.fn (.func 107) [] [],.fn (.func 108) [] []],True⟩
def g63:i63.bS pg:=λ_=>⟨aa2,rfl,rfl⟩
def M8:Code:=bD 0 (aG 47)
def M9:Code:=bD 2 M8
def D8(n:Net)(i0 i2:Nat)(y2:lXA):lXA:=(bif dec ((ae (ae n.aa i0).ah i2).n∈y2)then y2 else y2++ [(ae (ae n.aa i0).ah i2).n])
def cP(n:Net)(i0 kk:Nat):lXA:=Nat.rec (motive:=λ_=>lXA) ([]) (λj a=>D8 n i0 j a) kk
def acD:Code:=oM 4 M9
def fh(n:Net)(i0 i2:Nat):Bool:=((!(r62 n (ae (ae n.aa i0).ah i2).to (ae n.aa i0).aH))||(((r64 (ae (ae n.aa i0).ah i2).set) !=0)||((decide<|(ae (ae n.aa i0).ah i2).op<0)||((decide<|(wrap .i64 (ae (ae n.aa i0).ah i2).op)>=8)||((!(((ae (ae n.aa i0).ah i2).op==1)==(decide<|(length (map aP (ae (ae n.aa i0).ah i2).set):Int)>0)))||((!(((ae (ae n.aa i0).ah i2).op==7)==(decide<|(length (map cO (ae (ae n.aa i0).ah i2).bL):Int)>0)))||((!(((ae (ae n.aa i0).ah i2).op==4)==((i0:Int)==(aF n.rules (ae n.aa i0).aH).start)))||(bif (ae (ae n.aa i0).ah i2).op !=3 then(((G.op (ae (ae n.aa i0).ah i2).g) !=0)||(((G.n (ae (ae n.aa i0).ah i2).g) !=0)||((!(cT (Array.toList<|ByteArray.data<|G.name (ae (ae n.aa i0).ah i2).g) []))||((decide<|(length (map gC<|G.kids (ae (ae n.aa i0).ah i2).g):Int)>0)||(bif (ae (ae n.aa i0).ah i2).op==0 then(!(r77 n (aF n.rules (ae n.aa i0).aH) (ae n.aa i0).aH<|ae (ae n.aa i0).ah i2))else(bif (ae (ae n.aa i0).ah i2).op==1 then(!(r78 n (aF n.rules (ae n.aa i0).aH) (ae n.aa i0).aH<|ae (ae n.aa i0).ah i2))else(bif (ae (ae n.aa i0).ah i2).op==2 then(!(r79 n (aF n.rules (ae n.aa i0).aH) (ae n.aa i0).aH<|ae (ae n.aa i0).ah i2))else(bif (ae (ae n.aa i0).ah i2).op==4 then((!(r83 n (aF n.rules (ae n.aa i0).aH) (ae n.aa i0).aH<|ae (ae n.aa i0).ah i2))||(dec<|(ae (ae n.aa i0).ah i2).n∈(cP n i0 i2)))else(bif (ae (ae n.aa i0).ah i2).op==5 then(!(r84 n (aF n.rules (ae n.aa i0).aH) (ae n.aa i0).aH<|ae (ae n.aa i0).ah i2))else(bif (ae (ae n.aa i0).ah i2).op==6 then(!(r85 n (aF n.rules (ae n.aa i0).aH) (ae n.aa i0).aH<|ae (ae n.aa i0).ah i2))else(!(r86 n (aF n.rules (ae n.aa i0).aH) (ae n.aa i0).aH<|ae (ae n.aa i0).ah i2))))))))))))else(!(r80 n (aF n.rules (ae n.aa i0).aH) (ae n.aa i0).aH<|ae (ae n.aa i0).ah i2))))))))))
abbrev V3(n:Net)(i0 i2:Nat):Am.Loc:=[(2,B false)]
abbrev V4(n:Net)(i0 i2:Nat):lXE:=[]
abbrev zA(n:Net):=(map aq n.aa)
abbrev zo(i0:Nat)(n:Net):=(map aQ<|zG i0 n)
abbrev zAe(i0 i2:Nat)(n:Net):=(ae (zG i0 n) i2)
abbrev zDD(i0:Nat)(n:Net):=(aC<|aF n.rules (ae n.aa i0).aH)
abbrev zAN(i0 i2:Nat)(n:Net):Am.Loc:=[(0,.pf (bA n)),(3,.pt 0 0),(4,I (i0:Int)),(5,.pt 1 0),(6,.pf (zDD i0 n)),(7,.mp 2),(9,.pf (aQ<|zAe i0 i2 n)),(14,.sl 2 (zA n)),(15,I (length (zA n):Int)),(16,I (i0:Int)),(56,I (length (zo i0 n):Int)),(57,I (i2:Int))]
abbrev V5(n:Net)(i0 i2:Nat):Am.Loc:=(zAN i0 i2 n)
abbrev zAm(i0 i2:Nat)(n:Net):lXE:=[.box 127 [.fn (.func 99) [] [],.fn (.func 100) [] [],.fn (.func 101) [] [],.fn (.func 102) [] [],.fn (.func 105) [] [],.fn (.func 106) [] [],.fn (.func 107) [] [],.fn (.func 108) [] []],.box 45 (zm i0 n),pY (cP n i0 i2)]
section
variable(n:Net)
section
variable(i0 i2:Nat)
abbrev V6:lXE:=(zAm i0 i2 n)
def J7:KB:=⟨(zAN i0 i2 n),(zAm i0 i2 n),fh n i0 i2,.ret,V3 n i0 i2,V4 n i0 i2,.normal,V5 n i0 i2,V6 n i0 i2,True⟩
abbrev fu:List bf:=jhW (fh n i0 i2) .ret (V3 n i0 i2) (V4 n i0 i2) .normal (V5 n i0 i2) (V6 n i0 i2)
theorem V7(hf:ck n)(hx0:i0<(length n.aa))(hx2:i2<(length (ae n.aa i0).ah)):cx pg 201 0 4 acD (J7 n i0 i2):=jhB (.r [.int 0,bT]<|.br zB<|.r [.int 1,.k,bT]<|.br zB<|.a (.r zJ zB)<|.r zy<|.br zB<|.r zCK<|.br zB<|.r zCK<|.br zB<|.r zCK<|.br zB<|.a (.a (.r (.k::uTT 6 (.k::bT::uFF 6 (bT::bT::uFF 6 (bT::bT::uFF 7 [bT,bT])))) zB)<|.a (.r (.k::uTT 6 (.k::uTT 7 (.k::bT::bT::uFF 6 (bT::bT::uFF 7 [bT,bT])))) zB)<|.a (.r (.k::uTT 6 (.k::uTT 7 (.k::uTT 8 (.k::bT::bT::uFF 7 [bT,bT])))) zB)<|.r (.k::uTT 6 (.k::uTT 7 (.k::uTT 8 (.k::uTT 9 [.k,bT,bT]))))<|.br zB<|.a (.r [.bG 0 [],.int 2,bT]<|.br zB<|.r zJ<|.pick 1)<|.a (.r [.bG 1 [],.int 3,bT]<|.br zB<|.r zJ<|.pick 1)<|.a (.r [.bG 2 [],.int 4,bT]<|.br zB<|.r zJ<|.pick 1)<|.a (.r [.bG 4 [],.int 5,bT]<|.br zB<|.r (.k::uTT 6 [.key (lC (cP n i0 i2) (ae (ae n.aa i0).ah i2).n) (B<|dec<|(ae (ae n.aa i0).ah i2).n∈(cP n i0 i2)),bT])<|.br zB<|.pick 1)<|.a (.r [.bG 5 [],.int 6,bT]<|.br zB<|.r zJ<|.pick 1)<|.a (.r [.bG 6 [],.int 7,bT]<|.br zB<|.r zJ<|.pick 1)<|.r [.bG 7 [],.int 8,bT]<|.br zB<|.r zJ<|.pick 1)<|.r (.k::uFF 31 [bT])<|.r [.bG 3 [],.int 9,bT]<|.br zB<|.r zJ<|.pick 1) (λ_=>have hr:=hf.rules;have hs:=hf.aa;have he:GD (ae (ae n.aa i0).ah i2):=hf.xK _ (aw hx0) _ (aw hx2);have ho:=he.op;have hw:wrap .i64 (ae (ae n.aa i0).ah i2).op=Edge.op (ae (ae n.aa i0).ah i2):=wrap_i64 oaa oaa;bB (an (cA (g62 n (ae (ae n.aa i0).ah i2).to (ae n.aa i0).aH) trivial a0)<|brP (λ(h0:(!(r62 n (ae (ae n.aa i0).ah i2).to (ae n.aa i0).aH))=true)=>(an a0<|lf (wy (fu n i0 i2) 0) 3<|orT h0))<|λh0=>have g0:=ru (GB h0);
 (an (a1<|cA (g64 (ae (ae n.aa i0).ah i2).set) he.set a0)<|brP (λ(h1:((r64 (ae (ae n.aa i0).ah i2).set) !=0)=true)=>(an a0<|lf (wy (fu n i0 i2) 0) 3<|orF h0<|orT h1))<|λh1=>have g1:=fY h1;
 (aO (λ(h2:(decide<|(ae (ae n.aa i0).ah i2).op<0)=true)=>(an (aN 5<|ac (n2 h2)<|a1 a0)<|an a0<|lf (wy (fu n i0 i2) 0) 3<|orF h0<|orF h1<|orT h2))<|λh2=>have g2:=afN h2;
 (an (aN 6<|ac (au h2)<|a1 a0)<|brP (λ(h3:(decide<|(wrap .i64 (ae (ae n.aa i0).ah i2).op)>=8)=true)=>(an a0<|lf (wy (fu n i0 i2) 0) 3<|orF h0<|orF h1<|orF h2<|orT h3))<|λh3=>have g3:=afN h3;
 (an (aN 3 a0)<|brP (λ(h4:(!(((ae (ae n.aa i0).ah i2).op==1)==(decide<|(length (map aP (ae (ae n.aa i0).ah i2).set):Int)>0)))=true)=>(an a0<|lf (wy (fu n i0 i2) 0) 3<|orF h0<|orF h1<|orF h2<|orF h3<|orT h4))<|λh4=>have l1:=aL aP ((ae (ae n.aa i0).ah i2).set);have g4:=GC h4;have g4:=GC h4;
 (an (aN 3 a0)<|brP (λ(h5:(!(((ae (ae n.aa i0).ah i2).op==7)==(decide<|(length (map cO (ae (ae n.aa i0).ah i2).bL):Int)>0)))=true)=>(an a0<|lf (wy (fu n i0 i2) 0) 3<|orF h0<|orF h1<|orF h2<|orF h3<|orF h4<|orT h5))<|λh5=>have l2:=aL cO ((ae (ae n.aa i0).ah i2).bL);have g5:=GC h5;have g5:=GC h5;
 (an (aN 3 a0)<|brP (λ(h6:(!(((ae (ae n.aa i0).ah i2).op==4)==((i0:Int)==(aF n.rules (ae n.aa i0).aH).start)))=true)=>(an a0<|lf (wy (fu n i0 i2) 0) 3<|orF h0<|orF h1<|orF h2<|orF h3<|orF h4<|orF h5<|orT h6))<|λh6=>(aO (λ(h7:((ae (ae n.aa i0).ah i2).op !=3)=true)=>have g7:=F4 h7;
 (aO (λ(h8:((G.op (ae (ae n.aa i0).ah i2).g) !=0)=true)=>(an (aN 23<|ac (n2 h8)<|aN 7<|ac h7<|a1 a0)<|an a0<|lf (wy (fu n i0 i2) 0) 3<|orF h0<|orF h1<|orF h2<|orF h3<|orF h4<|orF h5<|orF h6<|cdT h7<|orT h8))<|λh8=>have g8:=fY h8;
 (aO (λ(h9:((G.n (ae (ae n.aa i0).ah i2).g) !=0)=true)=>(an (aN 15<|ac (n2 h9)<|aN 8<|ac (au h8)<|aN 7<|ac h7<|a1 a0)<|an a0<|lf (wy (fu n i0 i2) 0) 3<|orF h0<|orF h1<|orF h2<|orF h3<|orF h4<|orF h5<|orF h6<|cdT h7<|orF h8<|orT h9))<|λh9=>have g9:=fY h9;
 (aO (λ(h10:(!(cT (Array.toList<|ByteArray.data<|G.name (ae (ae n.aa i0).ah i2).g) []))=true)=>(an (aN 7<|ac (n2 h10)<|aN 8<|ac (au h9)<|aN 8<|ac (au h8)<|aN 7<|ac h7<|a1 a0)<|an a0<|lf (wy (fu n i0 i2) 0) 3<|orF h0<|orF h1<|orF h2<|orF h3<|orF h4<|orF h5<|orF h6<|cdT h7<|orF h8<|orF h9<|orT h10))<|λh10=>(an (aN 8<|ac (au h10)<|aN 8<|ac (au h9)<|aN 8<|ac (au h8)<|aN 7<|ac h7<|a1 a0)<|brP (λ(h11:(decide<|(length (map gC<|G.kids (ae (ae n.aa i0).ah i2).g):Int)>0)=true)=>(an a0<|lf (wy (fu n i0 i2) 0) 3<|orF h0<|orF h1<|orF h2<|orF h3<|orF h4<|orF h5<|orF h6<|cdT h7<|orF h8<|orF h9<|orF h10<|orT h11))<|λh11=>have l3:=aL gC ((G.kids (ae (ae n.aa i0).ah i2).g));have g11:=afN h11;
 (aO (λ(h12:((ae (ae n.aa i0).ah i2).op==0)=true)=>have g12:=eq_of_beq h12;
 (an (cA (g77 n (aF n.rules (ae n.aa i0).aH) (ae n.aa i0).aH<|ae (ae n.aa i0).ah i2) trivial<|ac (rzA (y:=(ae (ae n.aa i0).ah i2).op) (z:=0) (len:=8) oaa rfl) a0)<|brP (λ(h13:(!(r77 n (aF n.rules (ae n.aa i0).aH) (ae n.aa i0).aH<|ae (ae n.aa i0).ah i2))=true)=>(an a0<|lf (wy (fu n i0 i2) 0) 3<|orF h0<|orF h1<|orF h2<|orF h3<|orF h4<|orF h5<|orF h6<|cdT h7<|orF h8<|orF h9<|orF h10<|orF h11<|cdT h12 h13))<|λh13=>(an (aN 5<|ac (au<|show((ae (ae n.aa i0).ah i2).op==4)=false by rw[eq_of_beq h12];rfl)<|a1 a0)<|lf (wy (fu n i0 i2) 1) 3<|orF h0<|orF h1<|orF h2<|orF h3<|orF h4<|orF h5<|orF h6<|cdT h7<|orF h8<|orF h9<|orF h10<|orF h11<|cdT h12 h13)))<|λh12=>have g12:=afX h12;
 (aO (λ(h13:((ae (ae n.aa i0).ah i2).op==1)=true)=>have g13:=eq_of_beq h13;
 (an (cA (g78 n (aF n.rules (ae n.aa i0).aH) (ae n.aa i0).aH<|ae (ae n.aa i0).ah i2) ⟨hf.types,(show 0<length (ae (ae n.aa i0).ah i2).set by omega),he.set⟩<|ac (rzA (y:=(ae (ae n.aa i0).ah i2).op) (z:=1) (len:=8) oaa rfl) a0)<|brP (λ(h14:(!(r78 n (aF n.rules (ae n.aa i0).aH) (ae n.aa i0).aH<|ae (ae n.aa i0).ah i2))=true)=>(an a0<|lf (wy (fu n i0 i2) 0) 3<|orF h0<|orF h1<|orF h2<|orF h3<|orF h4<|orF h5<|orF h6<|cdT h7<|orF h8<|orF h9<|orF h10<|orF h11<|cdF h12<|cdT h13 h14))<|λh14=>(an (aN 5<|ac (au<|show((ae (ae n.aa i0).ah i2).op==4)=false by rw[eq_of_beq h13];rfl)<|a1 a0)<|lf (wy (fu n i0 i2) 1) 3<|orF h0<|orF h1<|orF h2<|orF h3<|orF h4<|orF h5<|orF h6<|cdT h7<|orF h8<|orF h9<|orF h10<|orF h11<|cdF h12<|cdT h13 h14)))<|λh13=>have g13:=afX h13;
 (aO (λ(h14:((ae (ae n.aa i0).ah i2).op==2)=true)=>have g14:=eq_of_beq h14;
 (an (cA (g79 n (aF n.rules (ae n.aa i0).aH) (ae n.aa i0).aH<|ae (ae n.aa i0).ah i2) (show length n.rules<=9223372036854775807 by omega)<|ac (rzA (y:=(ae (ae n.aa i0).ah i2).op) (z:=2) (len:=8) oaa rfl) a0)<|brP (λ(h15:(!(r79 n (aF n.rules (ae n.aa i0).aH) (ae n.aa i0).aH<|ae (ae n.aa i0).ah i2))=true)=>(an a0<|lf (wy (fu n i0 i2) 0) 3<|orF h0<|orF h1<|orF h2<|orF h3<|orF h4<|orF h5<|orF h6<|cdT h7<|orF h8<|orF h9<|orF h10<|orF h11<|cdF h12<|cdF h13<|cdT h14 h15))<|λh15=>(an (aN 5<|ac (au<|show((ae (ae n.aa i0).ah i2).op==4)=false by rw[eq_of_beq h14];rfl)<|a1 a0)<|lf (wy (fu n i0 i2) 1) 3<|orF h0<|orF h1<|orF h2<|orF h3<|orF h4<|orF h5<|orF h6<|cdT h7<|orF h8<|orF h9<|orF h10<|orF h11<|cdF h12<|cdF h13<|cdT h14 h15)))<|λh14=>have g14:=afX h14;
 (aO (λ(h15:((ae (ae n.aa i0).ah i2).op==4)=true)=>have g15:=eq_of_beq h15;
 (an (cA (g83 n (aF n.rules (ae n.aa i0).aH) (ae n.aa i0).aH<|ae (ae n.aa i0).ah i2) trivial<|ac (rzA (y:=(ae (ae n.aa i0).ah i2).op) (z:=4) (len:=8) oaa rfl) a0)<|brP (λ(h16:(!(r83 n (aF n.rules (ae n.aa i0).aH) (ae n.aa i0).aH<|ae (ae n.aa i0).ah i2))=true)=>(an a0<|lf (wy (fu n i0 i2) 0) 3<|orF h0<|orF h1<|orF h2<|orF h3<|orF h4<|orF h5<|orF h6<|cdT h7<|orF h8<|orF h9<|orF h10<|orF h11<|cdF h12<|cdF h13<|cdF h14<|cdT h15<|orT h16))<|λh16=>(an (ac (lkI (ae (ae n.aa i0).ah i2).n<|cP n i0 i2)<|aN 5<|ac h15<|a1 a0)<|brP (λ(h17:(dec<|(ae (ae n.aa i0).ah i2).n∈(cP n i0 i2))=true)=>(an a0<|lf (wy (fu n i0 i2) 0) 3<|orF h0<|orF h1<|orF h2<|orF h3<|orF h4<|orF h5<|orF h6<|cdT h7<|orF h8<|orF h9<|orF h10<|orF h11<|cdF h12<|cdF h13<|cdF h14<|cdT h15<|orF h16 h17))<|λh17=>(lf (wy (fu n i0 i2) 1) 3<|orF h0<|orF h1<|orF h2<|orF h3<|orF h4<|orF h5<|orF h6<|cdT h7<|orF h8<|orF h9<|orF h10<|orF h11<|cdF h12<|cdF h13<|cdF h14<|cdT h15<|orF h16 h17))))<|λh15=>have g15:=afX h15;
 (aO (λ(h16:((ae (ae n.aa i0).ah i2).op==5)=true)=>have g16:=eq_of_beq h16;
 (an (cA (g84 n (aF n.rules (ae n.aa i0).aH) (ae n.aa i0).aH<|ae (ae n.aa i0).ah i2) trivial<|ac (rzA (y:=(ae (ae n.aa i0).ah i2).op) (z:=5) (len:=8) oaa rfl) a0)<|brP (λ(h17:(!(r84 n (aF n.rules (ae n.aa i0).aH) (ae n.aa i0).aH<|ae (ae n.aa i0).ah i2))=true)=>(an a0<|lf (wy (fu n i0 i2) 0) 3<|orF h0<|orF h1<|orF h2<|orF h3<|orF h4<|orF h5<|orF h6<|cdT h7<|orF h8<|orF h9<|orF h10<|orF h11<|cdF h12<|cdF h13<|cdF h14<|cdF h15<|cdT h16 h17))<|λh17=>(an (aN 5<|ac (au h15)<|a1 a0)<|lf (wy (fu n i0 i2) 1) 3<|orF h0<|orF h1<|orF h2<|orF h3<|orF h4<|orF h5<|orF h6<|cdT h7<|orF h8<|orF h9<|orF h10<|orF h11<|cdF h12<|cdF h13<|cdF h14<|cdF h15<|cdT h16 h17)))<|λh16=>have g16:=afX h16;
 (aO (λ(h17:((ae (ae n.aa i0).ah i2).op==6)=true)=>have g17:=eq_of_beq h17;
 (an (cA (g85 n (aF n.rules (ae n.aa i0).aH) (ae n.aa i0).aH<|ae (ae n.aa i0).ah i2) trivial<|ac (rzA (y:=(ae (ae n.aa i0).ah i2).op) (z:=6) (len:=8) oaa rfl) a0)<|brP (λ(h18:(!(r85 n (aF n.rules (ae n.aa i0).aH) (ae n.aa i0).aH<|ae (ae n.aa i0).ah i2))=true)=>(an a0<|lf (wy (fu n i0 i2) 0) 3<|orF h0<|orF h1<|orF h2<|orF h3<|orF h4<|orF h5<|orF h6<|cdT h7<|orF h8<|orF h9<|orF h10<|orF h11<|cdF h12<|cdF h13<|cdF h14<|cdF h15<|cdF h16<|cdT h17 h18))<|λh18=>(an (aN 5<|ac (au h15)<|a1 a0)<|lf (wy (fu n i0 i2) 1) 3<|orF h0<|orF h1<|orF h2<|orF h3<|orF h4<|orF h5<|orF h6<|cdT h7<|orF h8<|orF h9<|orF h10<|orF h11<|cdF h12<|cdF h13<|cdF h14<|cdF h15<|cdF h16<|cdT h17 h18)))<|λh17=>have g17:=afX h17;
 (an (cA (g86 n (aF n.rules (ae n.aa i0).aH) (ae n.aa i0).aH<|ae (ae n.aa i0).ah i2) he.bL<|ac (rzA (y:=(ae (ae n.aa i0).ah i2).op) (z:=7) (len:=8) oaa rfl) a0)<|brP (λ(h18:(!(r86 n (aF n.rules (ae n.aa i0).aH) (ae n.aa i0).aH<|ae (ae n.aa i0).ah i2))=true)=>(an a0<|lf (wy (fu n i0 i2) 0) 3<|orF h0<|orF h1<|orF h2<|orF h3<|orF h4<|orF h5<|orF h6<|cdT h7<|orF h8<|orF h9<|orF h10<|orF h11<|cdF h12<|cdF h13<|cdF h14<|cdF h15<|cdF h16<|cdF h17 h18))<|λh18=>(an (aN 5<|ac (au h15)<|a1 a0)<|lf (wy (fu n i0 i2) 1) 3<|orF h0<|orF h1<|orF h2<|orF h3<|orF h4<|orF h5<|orF h6<|cdT h7<|orF h8<|orF h9<|orF h10<|orF h11<|cdF h12<|cdF h13<|cdF h14<|cdF h15<|cdF h16<|cdF h17 h18)))))))))))))<|λh7=>have g7:=fY h7;
 (an (aN 30<|ac (au h7)<|a1 a0)<|an (cA (g80 n (aF n.rules (ae n.aa i0).aH) (ae n.aa i0).aH<|ae (ae n.aa i0).ah i2) he<|ac (rzA (y:=(ae (ae n.aa i0).ah i2).op) (z:=3) (len:=8) oaa rfl) a0)<|brP (λ(h8:(!(r80 n (aF n.rules (ae n.aa i0).aH) (ae n.aa i0).aH<|ae (ae n.aa i0).ah i2))=true)=>(an a0<|lf (wy (fu n i0 i2) 0) 3<|orF h0<|orF h1<|orF h2<|orF h3<|orF h4<|orF h5<|orF h6<|cdF h7 h8))<|λh8=>(an (aN 5<|ac (au<|show((ae (ae n.aa i0).ah i2).op==4)=false by rw[fY h7];rfl)<|a1 a0)<|lf (wy (fu n i0 i2) 1) 3<|orF h0<|orF h1<|orF h2<|orF h3<|orF h4<|orF h5<|orF h6<|cdF h7 h8))))))))))
 oab) (hc:=(bn (.cons (g62 n (ae (ae n.aa i0).ah i2).to (ae n.aa i0).aH) rfl<|.cons (g64 (ae (ae n.aa i0).ah i2).set) rfl<|.cons (g77 n (aF n.rules (ae n.aa i0).aH) (ae n.aa i0).aH<|ae (ae n.aa i0).ah i2) rfl<|.cons (g78 n (aF n.rules (ae n.aa i0).aH) (ae n.aa i0).aH<|ae (ae n.aa i0).ah i2) rfl<|.cons (g79 n (aF n.rules (ae n.aa i0).aH) (ae n.aa i0).aH<|ae (ae n.aa i0).ah i2) rfl<|.cons (g83 n (aF n.rules (ae n.aa i0).aH) (ae n.aa i0).aH<|ae (ae n.aa i0).ah i2) rfl<|.cons (g84 n (aF n.rules (ae n.aa i0).aH) (ae n.aa i0).aH<|ae (ae n.aa i0).ah i2) rfl<|.cons (g85 n (aF n.rules (ae n.aa i0).aH) (ae n.aa i0).aH<|ae (ae n.aa i0).ah i2) rfl<|.cons (g86 n (aF n.rules (ae n.aa i0).aH) (ae n.aa i0).aH<|ae (ae n.aa i0).ah i2) rfl<|.cons (g80 n (aF n.rules (ae n.aa i0).aH) (ae n.aa i0).aH<|ae (ae n.aa i0).ah i2) rfl cy.nil) aE))
end
abbrev adH(i0 i2:Nat)(y2:lXA):lXE:=[.box 127 [.fn (.func 99) [] [],.fn (.func 100) [] [],.fn (.func 101) [] [],.fn (.func 102) [] [],.fn (.func 105) [] [],.fn (.func 106) [] [],.fn (.func 107) [] [],.fn (.func 108) [] []],.box 45 (zm i0 n),pY y2]
abbrev V8(i0 i2:Nat):Am.Loc:=[(0,.pf (bA n)),(3,.pt 0 0),(4,I (i0:Int)),(5,.pt 1 0),(6,.pf (zDD i0 n)),(7,.mp 2),(14,.sl 2 (zA n)),(15,I (length (zA n):Int)),(16,I (i0:Int)),(56,I (length (zo i0 n):Int)),(57,I (i2:Int))]
abbrev GJ(i0 i2:Nat):lXE:=adH n i0 i2 (cP n i0 i2)
def uf(i0 i2:Nat):Bool:=(fh n i0 i2)
def kW(i0:Nat):Bool:=dA (length (ae n.aa i0).ah) (uf n i0)
end
abbrev V9(n:Net)(i0 i2:Nat):Am.Loc:=[(2,B false)]
abbrev Wa(n:Net)(i0 i2:Nat):lXE:=[]
abbrev zCL(i0:Nat)(n:Net):Am.Loc:=[(0,.pf (bA n)),(3,.pt 0 0),(14,.sl 2 (zA n)),(15,I (length (zA n):Int)),(16,I (i0:Int))]
section
variable(n:Net)(i0:Nat)
abbrev Wb:Am.Loc:=(zCL i0 n)
abbrev Wc:lXE:=[.box 127 [.fn (.func 99) [] [],.fn (.func 100) [] [],.fn (.func 101) [] [],.fn (.func 102) [] [],.fn (.func 105) [] [],.fn (.func 106) [] [],.fn (.func 107) [] [],.fn (.func 108) [] []],.box 45 (zm i0 n),pY (cP n i0<|length<|zG i0 n)]
def D9:KB:=anK 2 (length<|zG i0 n) (uf n i0) (V8 n i0) (GJ n i0) .ret (V9 n i0) (Wa n i0) (.exit 2) (Wb n i0) (Wc n i0) (True)
end
abbrev zAT(i0 i2:Nat)(n:Net):Am.Loc:=[(0,.pf (bA n)),(3,.pt 0 0),(4,I (i0:Int)),(5,.pt 1 0),(6,.pf (zDD i0 n)),(7,.mp 2),(14,.sl 2 (zA n)),(15,I (length (zA n):Int)),(16,I (i0:Int)),(56,I (length (zo i0 n):Int)),(57,I ↑(i2+1))]
abbrev Na(n:Net)(i0 i2:Nat):List bf:=[htW (uf n i0 i2) .ret (V9 n i0 i2) zb (Wa n i0 i2),nxW (uf n i0 i2) (V8 n i0<|i2+1) (GJ n i0<|i2+1) (zAT i0 i2 n) (range 3) [.box 127 [.fn (.func 99) [] [],.fn (.func 100) [] [],.fn (.func 101) [] [],.fn (.func 102) [] [],.fn (.func 105) [] [],.fn (.func 106) [] [],.fn (.func 107) [] [],.fn (.func 108) [] []],.box 45 (zm i0 n),.mp (map (Value.int .i64)<|cP n i0 i2) ((map tru<|cP n i0 i2).set (Jo (cP n i0 i2) (zAe i0 i2 n).n)<|.v<|.bool true)],nxW (uf n i0 i2) (V8 n i0<|i2+1) (GJ n i0<|i2+1) (zAT i0 i2 n) (range 3) [.box 127 [.fn (.func 99) [] [],.fn (.func 100) [] [],.fn (.func 101) [] [],.fn (.func 102) [] [],.fn (.func 105) [] [],.fn (.func 106) [] [],.fn (.func 107) [] [],.fn (.func 108) [] []],.box 45 (zm i0 n),.mp (map (Value.int .i64) (cP n i0 i2)++ [.int .i64 (zAe i0 i2 n).n]) (map tru (cP n i0 i2)++ [.v (.bool true)])]]
def Ea:di [4] M9=[(4,acD)]:=by kernel_rfl
def Wd(n:Net)(i0:Nat)(hf:ck n)(hx0:i0<(length n.aa)):cx pg 201 0 2 (.loop M9) (D9 n i0):=
 anB (Na n i0) (λi2=>(.r [.k,bT]<|.yes<|.r [bT]<|.r [.row (aQ<|ae (ae n.aa i0).ah i2),bT]<|.br (.pick 0)<|.a (.r [.key (some<|Jo (cP n i0 i2) (ae (ae n.aa i0).ah i2).n) .any,bT]<|.r (zi i2)<|.pick 1)<|.r [.key none .any,bT]<|.r (zi i2)<|.pick 2)) (range 3) zE
 (λ_ i2(hx2:i2<(length (ae n.aa i0).ah))=>have hr:=hf.rules;have hs:=hf.aa;have he:=hf.ah _ (aw hx0);have l1:=aL aQ ((ae n.aa i0).ah);have hb:(zAo i0 i2 n)=true:=afT oaa;
 bB (an (a1 a0)<|an hb<|an a0<|an (ac (rwa aQ (ae n.aa i0).ah i2) a0)<|an (kbT (J7 n i0 i2) trivial)<|brP (λ(h1:(fh n i0 i2)=true)=>(lf (wy (Na n i0 i2) 0) 0<|show uf n i0 i2=true from h1))<|λh1=>(aO (λ(h2:(dec<|(ae (ae n.aa i0).ah i2).n∈(cP n i0 i2))=true)=>(an (ac (odI h2) a0)<|an (ac (dwo ((i2+1:Nat):Int)) a0)<|lf (wy (Na n i0 i2) 1) 3 ⟨(show uf n i0 i2=false from h1),rfl,(by rw[show GJ n i0 (i2+1)=(λy2:lXA=>([.box 127 [.fn (.func 99) [] [],.fn (.func 100) [] [],.fn (.func 101) [] [],.fn (.func 102) [] [],.fn (.func 105) [] [],.fn (.func 106) [] [],.fn (.func 107) [] [],.fn (.func 108) [] []],.box 45 (aq<|ae n.aa i0),pY y2]:lXE)) (cP n i0<|i2+1)from rfl,(show cP n i0 (i2+1)=(cP n i0 i2)from(cdT h2 rfl)),(TD (Jo (cP n i0 i2) (ae (ae n.aa i0).ah i2).n)<|cP n i0 i2)])⟩))<|λh2=>(an (ac (nwI h2) a0)<|an (ac (dwo ((i2+1:Nat):Int)) a0)<|lf (wy (Na n i0 i2) 2) 3 ⟨(show uf n i0 i2=false from h1),rfl,(by rw[show GJ n i0 (i2+1)=(λy2:lXA=>([.box 127 [.fn (.func 99) [] [],.fn (.func 100) [] [],.fn (.func 101) [] [],.fn (.func 102) [] [],.fn (.func 105) [] [],.fn (.func 106) [] [],.fn (.func 107) [] [],.fn (.func 108) [] []],.box 45 (aq<|ae n.aa i0),pY y2]:lXE)) (cP n i0<|i2+1)from rfl,(show cP n i0 (i2+1)=((cP n i0 i2)++ [(ae (ae n.aa i0).ah i2).n])from(cdF h2 rfl)),(nP (ae (ae n.aa i0).ah i2).n<|cP n i0 i2)])⟩)))
 oab)
 (λ_=>have hr:=hf.rules;have hs:=hf.aa;have l1:=aL aQ ((ae n.aa i0).ah);have hb:(zv i0 n)=false:=afU oaa;
 bB (an (a1 a0)<|an hb<|lx (.exit 2) (Wb n i0) (range 3) (Wc n i0) 3)
 oab) (hk:=λ_ i2 hx2=>(bw (l:=[(4,J7 n i0 i2)]) Ea (aK (V7 n i0 i2 hf hx0 hx2) rfl aU) rfl))
abbrev We(n:Net)(i0:Nat):Am.Loc:=(zCL i0 n)
abbrev zAi:lXE:=[.box 127 [.fn (.func 99) [] [],.fn (.func 100) [] [],.fn (.func 101) [] [],.fn (.func 102) [] [],.fn (.func 105) [] [],.fn (.func 106) [] [],.fn (.func 107) [] [],.fn (.func 108) [] []]]
abbrev Wg(n:Net)(i0:Nat):lXE:=zAi
def pI(n:Net)(i0:Nat):Bool:=((decide<|(ae n.aa i0).aH<0)||((decide<|(ae n.aa i0).aH>=(length (map aC n.rules):Int))||(bif (length (map aQ (ae n.aa i0).ah):Int)==0 then(((i0:Int) !=(aF n.rules (ae n.aa i0).aH).stop)||(kW n i0))else(kW n i0))))
def Eb(n:Net):Bool:=dA (length n.aa) (pI n)
abbrev Wh(n:Net)(i0:Nat):Am.Loc:=[(2,B false)]
abbrev Wi(n:Net)(i0:Nat):lXE:=[]
abbrev Wj(n:Net):Am.Loc:=[]
abbrev Wk(n:Net):lXE:=zAi
def J8(n:Net):KB:=anK 0 (length n.aa) (pI n) (We n) (Wg n) .ret (Wh n) (Wi n) (.exit 0) (Wj n) (Wk n) (True)
abbrev ug(n:Net)(i0:Nat):List bf:=[htW (pI n i0) .ret (Wh n i0) zb (Wi n i0),nxW (pI n i0) (We n<|i0+1) (Wg n<|i0+1) (We n<|i0+1) zAc (Wg n<|i0+1)]
def Ec:di [2] M8=[(2,.loop M9)]:=by kernel_rfl
def Wl(n:Net)(hf:ck n):cx pg 201 0 0 (.loop M8) (J8 n):=
 anB (ug n) (λi0=>(.r [.k,bT]<|.yes<|.r (zCk i0 n)<|.a (.r zn zB)<|.r zr<|.br zB<|.r [.bG ((ae n.aa i0).aH).toNat (aC<|aF n.rules (ae n.aa i0).aH),bT]<|.a (.r zy<|.br zB<|.r [bT]<|zAf i0)<|.r zJ<|.r [bT]<|zAf i0)) (range 1) zE
 (λ_ i0(hx0:i0<(length n.aa))=>have hr:=hf.rules;have hs:=hf.aa;have l1:=aL aq (n.aa);have hb:(zw i0 n)=true:=afT oaa;
 bB (an (a1 a0)<|an hb<|an (ac (rwa aq n.aa i0) a0)<|aO (λ(h1:(zBg i0 n)=true)=>(an (aN 7<|ac (n2 h1)<|a1 a0)<|an a0<|lf (wy (ug n i0) 0) 2<|show pI n i0=true from(orT h1)))<|λh1=>have q0:=(orF h1 rfl:pI n i0=_);have g1:=afN h1;
 (an (aN 8<|ac (au h1)<|a1 a0)<|brP (λ(h2:(zAI i0 n)=true)=>(an a0<|lf (wy (ug n i0) 0) 2<|q0.trans<|orT h2))<|λh2=>have q1:=q0.trans (orF h2 rfl);have l2:=aL aC (n.rules);have g2:=afN h2;
 (an (ac (rwz aC n.rules (ae n.aa i0).aH) a0)<|aO (λ(h3:((length (map aQ (ae n.aa i0).ah):Int)==0)=true)=>have q2:=q1.trans (cdT h3 rfl);have l3:=aL aQ ((ae n.aa i0).ah);have g3:=eq_of_beq h3;
 (an (aN 6<|ac h3<|a1 a0)<|brP (λ(h4:((i0:Int) !=(aF n.rules (ae n.aa i0).aH).stop)=true)=>(an a0<|lf (wy (ug n i0) 0) 2<|q2.trans<|orT h4))<|λh4=>have q4:=q2.trans (orF h4 rfl);
 (an a0<|an a0<|an (kbT (D9 n i0) trivial)<|brP (λ(h5:(kW n i0)=true)=>(lf (wy (ug n i0) 0) 0<|q4.trans h5))<|λh5=>(an (ac (dwo ((i0+1:Nat):Int)) a0)<|lf (wy (ug n i0) 1) 3 ⟨(q4.trans h5),rfl,rfl⟩))))<|λh3=>have q3:=q1.trans (cdF h3 rfl);have l3:=aL aQ ((ae n.aa i0).ah);have g3:=afX h3;
 (an (aN 5<|ac (au h3)<|a1 a0)<|an a0<|an a0<|an (kbT (D9 n i0) trivial)<|brP (λ(h4:(kW n i0)=true)=>(lf (wy (ug n i0) 0) 0<|q3.trans h4))<|λh4=>(an (ac (dwo ((i0+1:Nat):Int)) a0)<|lf (wy (ug n i0) 1) 3 ⟨(q3.trans h4),rfl,rfl⟩)))))
 oab)
 (λ_=>have hr:=hf.rules;have hs:=hf.aa;have l1:=aL aq (n.aa);have hb:(zQ n)=false:=afU oaa;
 bB (an (a1 a0)<|an hb<|lx (.exit 0) (Wj n) (range 1) (Wk n) 1)
 oab) (hk:=λ_ i0 hx0=>(bw (l:=[(2,D9 n i0)]) Ec (aK (Wd n i0 hf hx0) rfl aU) rfl))
def r28(n:Net):Bool:=(!(Eb n))
def uQ:di [0] (aG 47)=[(0,.loop M8)]:=by kernel_rfl
def Wm(n:Net)(hf:ck n):aY pg 47 [.pf (bA n)] [] [] (B<|r28 n) []:=
 aV 47 (.r [bT]<|.r [.int 0,bT] zDB)
 (an a0<|an (cA g63 trivial a0)<|an a0<|an (kbT (J8 n) trivial)<|brP (λ(h0:(Eb n)=true)=>(bE<|show r28 n=false from(cI h0)))<|λh0=>(an a0<|bE<|show r28 n=true from(au h0))) (hc:=(bn (.cons g63 rfl cy.nil) aE)) (hk:=(bw (l:=[(0,J8 n)]) uQ (aK (Wl n hf) rfl aU) rfl))
end Go.Proofs.YtfkjfjalecikkaaGreat
end
