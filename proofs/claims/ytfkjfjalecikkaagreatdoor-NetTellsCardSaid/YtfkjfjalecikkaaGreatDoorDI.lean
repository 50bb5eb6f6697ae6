/- The tied card of NetTells is proved: whatever the input the law returns true, and its arguments read behind the call as they read before. Conditions: those of the card itself (the listed tables as the program's text lays them). What is the same: edges. A round over a state's edges. A walk over a state's edges. strings.Builder. A piece that touches the last object alone. A net's lines. The lines, walked. The lines of all rules. Blocks and loops of functions that append to a row. What the builder holds. A net's text, walked. The two texts are alike. What a net may be when it is sound. Strings of nothing. What the law function calls. law.NetTells, walked. The world of the witness: the settled one, the three tables holding what the program's text lays. Where the row's tables read as they are laid, the known tables stand in the heap. -/
import Derived.Test.YtfkjfjalecikkaaGreatDoorRows
import Derived.WalkKit
import Derived.ProofKit
import Derived.OpenShut
import Derived.Deep.DeepHandedRow
import Derived.Lib.LaidTab
import Derived.ChangeSlices
import Derived.LaidLaws
import Derived.Test.YtfkjfjalecikkaaGreatDoorCards
import Derived.Test.YtfkjfjalecikkaaGreatDoorTie
import Derived.Test.YtfkjfjalecikkaaGreatDoorDH
set_option linter.defProp false
open Go.IntKind (wrap)
noncomputable section
open List (length map range replicate)
set_option maxRecDepth 100000
namespace Go.Proofs.YtfkjfjalecikkaaGreatDoor
open Go.Am
def acP:Code:=bn 0 (aG 22)
abbrev X3(a b:Edge)(i0:Nat):Am.Loc:=[(2,.pf (aD a)),(3,.pf (aD b)),(5,I (i0:Int))]
abbrev X4(a b:Edge)(i0:Nat):lXE:=[]
def BL(a b:Edge)(i0:Nat):Bool:=(!(eqP (ae (Edge.set a) i0)<|ae (Edge.set b) i0))
def Ei(a b:Edge):Bool:=cz (length<|Edge.set a) (BL a b)
abbrev X5(a b:Edge)(i0:Nat):Am.Loc:=[(4,B false)]
abbrev X6(a b:Edge)(i0:Nat):lXE:=[]
abbrev X7(a b:Edge):Am.Loc:=[(2,.pf (aD a)),(3,.pf (aD b))]
abbrev X8(a b:Edge):lXE:=[]
section
variable(a b:Edge)
abbrev zAZ:=((length (map aJ<|Edge.set a):Int) !=(length (map aJ<|Edge.set b):Int))
def Jt:KB:=anK 0 (length<|Edge.set a) (BL a b) (X3 a b) (X4 a b) .ret (X5 a b) (X6 a b) (.exit 0) (X7 a b) (X8 a b) ((zAZ a b)=false)
abbrev X9(i0:Nat):List bG:=[htW (BL a b i0) .ret (X5 a b i0) zI (X6 a b i0),nxW (BL a b i0) (X3 a b<|i0+1) (X4 a b<|i0+1) (X3 a b<|i0+1) zI (X4 a b<|i0+1)]
def Ya(fa:gh a)(fb:gh b):ca pg 95 0 0 (.loop acP) (Jt a b):=
 anB (X9 a b) (λi0=>(.r [.k,bT]<|.yes<|.r [.row (aJ<|ae (Edge.set a) i0),.row (aJ<|ae (Edge.set b) i0),.k,bT]<|.br zB<|zC i0)) (range 0) zF
 (λ(hp0:(zAZ a b)=false) i0(hx0:i0<(length<|Edge.set a))=>have la1:=fa.set;have la2:=fa.ct;have lb1:=fb.set;have lb2:=fb.ct;have gp0:=cE hp0;have lp0:=aF aJ ((Edge.set a));have l2:=aF aJ ((Edge.set b));have l1:=aF aJ ((Edge.set a));have hb:(decide<|(i0:Int)<(length (map aJ<|Edge.set a):Int))=true:=afH oaa;
 bq (an (a1 a0)<|an hb<|an (a1<|ac (rwa aJ (Edge.set b) i0)<|ac (rwa aJ (Edge.set a) i0) a0)<|brP (λ(h1:(!(eqP (ae (Edge.set a) i0)<|ae (Edge.set b) i0))=true)=>(an a0<|lf (wy (X9 a b i0) 0) 0<|show BL a b i0=true from h1))<|λh1=>(an (ac (dwo ((i0+1:Nat):Int)) a0)<|lf (wy (X9 a b i0) 1) 0 ⟨(show BL a b i0=false from h1),rfl,rfl⟩))
 oab)
 (λ(hp0:(zAZ a b)=false)=>have la1:=fa.set;have la2:=fa.ct;have lb1:=fb.set;have lb2:=fb.ct;have gp0:=cE hp0;have lp0:=aF aJ ((Edge.set a));have l2:=aF aJ ((Edge.set b));have l1:=aF aJ ((Edge.set a));have hb:(decide<|(((length<|Edge.set a):Nat):Int)<(length (map aJ<|Edge.set a):Int))=false:=afI oaa;
 bq (an (a1 a0)<|an hb<|lx (.exit 0) (X7 a b) (range 0) (X8 a b) 0)
 oab)
end
def acQ:Code:=bn 2 (aG 22)
abbrev Yb(a b:Edge)(i2:Nat):Am.Loc:=[(2,.pf (aD a)),(3,.pf (aD b)),(6,I (i2:Int))]
abbrev Yc(a b:Edge)(i2:Nat):lXE:=[]
def BM(a b:Edge)(i2:Nat):Bool:=(!(eqP (ae (Edge.ct a) i2)<|ae (Edge.ct b) i2))
def Ej(a b:Edge):Bool:=cz (length<|Edge.ct a) (BM a b)
abbrev Yd(a b:Edge)(i2:Nat):Am.Loc:=[(4,B false)]
abbrev Ye(a b:Edge)(i2:Nat):lXE:=[]
abbrev Yf(a b:Edge):Am.Loc:=[]
abbrev Yg(a b:Edge):lXE:=[]
section
variable(a b:Edge)
abbrev zAc:=((length (map cw<|Edge.ct a):Int) !=(length (map cw<|Edge.ct b):Int))
def Ju:KB:=anK 2 (length<|Edge.ct a) (BM a b) (Yb a b) (Yc a b) .ret (Yd a b) (Ye a b) (.exit 2) (Yf a b) (Yg a b) ((zAc a b)=false)
abbrev Yh(i2:Nat):List bG:=[htW (BM a b i2) .ret (Yd a b i2) zI (Ye a b i2),nxW (BM a b i2) (Yb a b<|i2+1) (Yc a b<|i2+1) (Yb a b<|i2+1) zI (Yc a b<|i2+1)]
def Yi(fa:gh a)(fb:gh b):ca pg 95 0 2 (.loop acQ) (Ju a b):=
 anB (Yh a b) (λi2=>(.r [.k,bT]<|.yes<|.r [.row (cw<|ae (Edge.ct a) i2),.row (cw<|ae (Edge.ct b) i2),.k,bT]<|.br zB<|.r (zb i2)<|.pick 1)) (range 0) zF
 (λ(hp2:(zAc a b)=false) i2(hx2:i2<(length<|Edge.ct a))=>have la1:=fa.set;have la2:=fa.ct;have lb1:=fb.set;have lb2:=fb.ct;have gp0:=cE hp2;have lp0:=aF cw ((Edge.ct a));have l2:=aF cw ((Edge.ct b));have l1:=aF cw ((Edge.ct a));have hb:(decide<|(i2:Int)<(length (map cw<|Edge.ct a):Int))=true:=afH oaa;
 bq (an (a1 a0)<|an hb<|an (a1<|ac (rwa cw (Edge.ct b) i2)<|ac (rwa cw (Edge.ct a) i2) a0)<|brP (λ(h1:(!(eqP (ae (Edge.ct a) i2)<|ae (Edge.ct b) i2))=true)=>(an a0<|lf (wy (Yh a b i2) 0) 0<|show BM a b i2=true from h1))<|λh1=>(an (ac (dwo ((i2+1:Nat):Int)) a0)<|lf (wy (Yh a b i2) 1) 0 ⟨(show BM a b i2=false from h1),rfl,rfl⟩))
 oab)
 (λ(hp2:(zAc a b)=false)=>have la1:=fa.set;have la2:=fa.ct;have lb1:=fb.set;have lb2:=fb.ct;have gp0:=cE hp2;have lp0:=aF cw ((Edge.ct a));have l2:=aF cw ((Edge.ct b));have l1:=aF cw ((Edge.ct a));have hb:(decide<|(((length<|Edge.ct a):Nat):Int)<(length (map cw<|Edge.ct a):Int))=false:=afI oaa;
 bq (an (a1 a0)<|an hb<|lx (.exit 2) (Yf a b) (range 0) (Yg a b) 0)
 oab)
def r22:Bool:=(!((Edge.op a) !=(Edge.op b))&&(!((Edge.n a) !=(Edge.n b))&&(!((Edge.level a) !=(Edge.level b))&&(!((Edge.to a) !=(Edge.to b))&&(!((length (map aJ<|Edge.set a):Int) !=(length (map aJ<|Edge.set b):Int))&&(!((length (map cw<|Edge.ct a):Int) !=(length (map cw<|Edge.ct b):Int))&&(!(!(dec<|(Edge.g a)=(Edge.g b)))&&(!(Ei a b)&&(!(Ej a b))))))))))
end
def vq:cy [0,2] (aG 22)=[(0,.loop acP),(2,.loop acQ)]:=by kernel_rfl
def Yj(a b:Edge)(fa:gh a)(fb:gh b):aQ pg 22 [.ag (aD a),.ag (aD b)] [] [] (B<|r22 a b) []:=
 aV 22 (.r [bT]<|.a (.r (.k::uFF 35 [bT]) zD)<|.a (.r (.k::uTT 5 (.k::uFF 30 [bT])) zD)<|.a (.r (.k::uTT 5 (.k::uTT 5 (.k::uFF 25 [bT]))) zD)<|.a (.r (.k::uTT 5 (.k::uTT 5 (.k::uTT 5 (.k::uFF 20 [bT])))) zD)<|.a (.r (.k::uTT 5 (.k::uTT 5 (.k::uTT 5 (.k::uTT 7 (.k::uFF 13 [bT]))))) zD)<|.a (.r (.k::uTT 5 (.k::uTT 5 (.k::uTT 5 (.k::uTT 7 (.k::uTT 7 (.k::uFF 6 [bT])))))) zD)<|.r (.k::uTT 5 (.k::uTT 5 (.k::uTT 5 (.k::uTT 7 (.k::uTT 7 (.k::uTT 5 [.int 0,bT,bT]))))))<|.br zD<|.r [bT]<|.br .nil zY)
 (an a0<|aO (λ(h0:((Edge.op a) !=(Edge.op b))=true)=>(an (aN 34<|ac (n2 h0)<|a1 a0)<|an a0<|bE<|show r22 a b=false from(aT<|bQ h0)))<|λh0=>have q0:=(ay (ak h0) rfl:r22 a b=_);
 (aO (λ(h1:((Edge.n a) !=(Edge.n b))=true)=>(an (aN 29<|ac (n2 h1)<|aN 5<|ac (ak h0)<|a1 a0)<|an a0<|bE<|q0.trans<|aT<|bQ h1))<|λh1=>have q1:=q0.trans (ay (ak h1) rfl);
 (aO (λ(h2:((Edge.level a) !=(Edge.level b))=true)=>(an (aN 24<|ac (n2 h2)<|aN 5<|ac (ak h1)<|aN 5<|ac (ak h0)<|a1 a0)<|an a0<|bE<|q1.trans<|aT<|bQ h2))<|λh2=>have q2:=q1.trans (ay (ak h2) rfl);
 (aO (λ(h3:((Edge.to a) !=(Edge.to b))=true)=>(an (aN 19<|ac (n2 h3)<|aN 5<|ac (ak h2)<|aN 5<|ac (ak h1)<|aN 5<|ac (ak h0)<|a1 a0)<|an a0<|bE<|q2.trans<|aT<|bQ h3))<|λh3=>have q3:=q2.trans (ay (ak h3) rfl);
 (aO (λ(h4:(zAZ a b)=true)=>(an (aN 12<|ac (n2 h4)<|aN 7<|ac (ak h3)<|aN 5<|ac (ak h2)<|aN 5<|ac (ak h1)<|aN 5<|ac (ak h0)<|a1 a0)<|an a0<|bE<|q3.trans<|aT<|bQ h4))<|λh4=>have q4:=q3.trans (ay (ak h4) rfl);
 (aO (λ(h5:(zAc a b)=true)=>(an (aN 5<|ac (n2 h5)<|aN 7<|ac (ak h4)<|aN 7<|ac (ak h3)<|aN 5<|ac (ak h2)<|aN 5<|ac (ak h1)<|aN 5<|ac (ak h0)<|a1 a0)<|an a0<|bE<|q4.trans<|aT<|bQ h5))<|λh5=>have q5:=q4.trans (ay (ak h5) rfl);
 (an (a1<|cA (gd58 (Edge.g a)<|Edge.g b) ⟨fa.g,fb.g⟩<|aN 4<|ac (ak h5)<|aN 7<|ac (ak h4)<|aN 7<|ac (ak h3)<|aN 5<|ac (ak h2)<|aN 5<|ac (ak h1)<|aN 5<|ac (ak h0)<|a1 a0)<|brP (λ(h6:(!(dec<|(Edge.g a)=(Edge.g b)))=true)=>(an a0<|bE<|q5.trans<|aT<|bQ h6))<|λh6=>have q6:=q5.trans (ay (ak h6) rfl);
 (an a0<|an (kbT (Jt a b) h4)<|brP (λ(h7:(Ei a b)=true)=>(bE<|q6.trans<|aT<|bQ h7))<|λh7=>have q7:=q6.trans (ay (ak h7) rfl);
 (an a0<|an (kbT (Ju a b) h5)<|brP (λ(h8:(Ej a b)=true)=>(bE<|q7.trans<|bQ h8))<|λh8=>(an a0<|bE<|q7.trans<|ak h8)))))))))) (hc:=(aK (.cons (gd58 (Edge.g a)<|Edge.g b) rfl bB.nil) aC)) (hk:=(bc (l:=[(0,Jt a b),(2,Ju a b)]) vq (aE (Ya a b fa fb) rfl<|aE (Yi a b fa fb) rfl aP) rfl))
def r46(a b:Edge):Bool:=(((Edge.op a)==(Edge.op b))&&(((Edge.n a)==(Edge.n b))&&(((Edge.level a)==(Edge.level b))&&(((Edge.to a)==(Edge.to b))&&((dec<|(Edge.set a)=(Edge.set b))&&((dec<|(Edge.ct a)=(Edge.ct b))&&dec ((Edge.g a)=(Edge.g b))))))))
def ae5(a b:Edge)(fa:gh a)(fb:gh b):aQ pg 46 [.ag (aD a),.ag (aD b)] [] [] (B<|r46 a b) []:=
 have la1:=fa.set;have la2:=fa.ct;have lb1:=fb.set;have lb2:=fb.ct;aV 46 (.r [bT]<|.a (.a (.a (.a (.a (.a (.r (.k::uTT 5 (.k::uTT 5 (.k::uTT 5 (.k::uTT 5 (.int 0::uTT 5 (.int 1::uTT 5 [.int 2,bT])))))) .nil)<|.r (.k::uTT 5 (.k::uTT 5 (.k::uTT 5 (.k::uTT 5 (.int 0::uTT 5 (.int 1::uFF 5 [bT])))))) .nil)<|.r (.k::uTT 5 (.k::uTT 5 (.k::uTT 5 (.k::uTT 5 (.int 0::uFF 10 [bT]))))) .nil)<|.r (.k::uTT 5 (.k::uTT 5 (.k::uTT 5 (.k::uFF 15 [bT])))) .nil)<|.r (.k::uTT 5 (.k::uTT 5 (.k::uFF 20 [bT]))) .nil)<|.r (.k::uTT 5 (.k::uFF 25 [bT])) .nil)<|.r (.k::uFF 30 [bT]) .nil)
 (an a0<|aO (λ(h0:((Edge.op a)==(Edge.op b))=true)=>have q0:=(ay h0 rfl:r46 a b=_);
 (aO (λ(h1:((Edge.n a)==(Edge.n b))=true)=>have q1:=q0.trans (ay h1 rfl);
 (aO (λ(h2:((Edge.level a)==(Edge.level b))=true)=>have q2:=q1.trans (ay h2 rfl);
 (aO (λ(h3:((Edge.to a)==(Edge.to b))=true)=>have q3:=q2.trans (ay h3 rfl);
 (aO (λ(h4:(dec<|(Edge.set a)=(Edge.set b))=true)=>(aO (λ(h5:(dec<|(Edge.ct a)=(Edge.ct b))=true)=>(an (cA (gd49 (Edge.g a)<|Edge.g b) ⟨fa.g,fb.g⟩<|aN 4<|ac h5<|cA (g48 (Edge.ct a)<|Edge.ct b) ⟨by omega,by omega⟩<|aN 4<|ac h4<|cA (g47 (Edge.set a)<|Edge.set b) ⟨by omega,by omega⟩<|aN 4<|ac h3<|aN 5<|ac h2<|aN 5<|ac h1<|aN 5<|ac h0<|a1 a0)<|bE<|show r46 a b=(dec<|(Edge.g a)=(Edge.g b))from(ay h0<|ay h1<|ay h2<|ay h3<|ay h4<|ay h5 rfl)))<|λh5=>(an (aN 4<|ac (ak h5)<|cA (g48 (Edge.ct a)<|Edge.ct b) ⟨by omega,by omega⟩<|aN 4<|ac h4<|cA (g47 (Edge.set a)<|Edge.set b) ⟨by omega,by omega⟩<|aN 4<|ac h3<|aN 5<|ac h2<|aN 5<|ac h1<|aN 5<|ac h0<|a1 a0)<|bE<|q3.trans<|ay h4<|aT h5)))<|λh4=>(an (aN 9<|ac (ak h4)<|cA (g47 (Edge.set a)<|Edge.set b) ⟨by omega,by omega⟩<|aN 4<|ac h3<|aN 5<|ac h2<|aN 5<|ac h1<|aN 5<|ac h0<|a1 a0)<|bE<|q3.trans<|aT h4)))<|λh3=>(an (aN 14<|ac (ak h3)<|aN 5<|ac h2<|aN 5<|ac h1<|aN 5<|ac h0<|a1 a0)<|bE<|q2.trans<|aT h3)))<|λh2=>(an (aN 19<|ac (ak h2)<|aN 5<|ac h1<|aN 5<|ac h0<|a1 a0)<|bE<|q1.trans<|aT h2)))<|λh1=>(an (aN 24<|ac (ak h1)<|aN 5<|ac h0<|a1 a0)<|bE<|q0.trans<|aT h1)))<|λh0=>(an (aN 29<|ac (ak h0)<|a1 a0)<|bE<|show r46 a b=false from(aT h0))) (hc:=(aK (.cons (g47 (Edge.set a)<|Edge.set b) rfl<|.cons (g48 (Edge.ct a)<|Edge.ct b) rfl<|.cons (gd49 (Edge.g a)<|Edge.g b) rfl bB.nil) aC))
theorem edE{a b:Edge}:a=b↔(a.op=b.op/\a.n=b.n/\a.level=b.level/\a.to=b.to/\a.set=b.set/\a.ct=b.ct/\a.g=b.g):=⟨λh=>by subst h;exact⟨rfl,rfl,rfl,rfl,rfl,rfl,rfl⟩,λ⟨h1,h2,h3,h4,h5,h6,h7⟩=>by obtain⟨a1,a2,a3,a4,a5,a6,a7⟩:=a;obtain⟨b1,b2,b3,b4,b5,b6,b7⟩:=b;simp only at h1 h2 h3 h4 h5 h6 h7;subst h1 h2 h3 h4 h5 h6 h7;rfl⟩
section
variable(a b:Edge)
theorem Yk:r22 a b=dec (a=b):=vi (by have e1:(!((length (map aJ a.set):Int) !=(length (map aJ b.set):Int))&&(!(Ei a b)))=dec (a.set=b.set):=sj a.set b.set _ λi=>afQ not (vX _ _);have e2:(!((length (map cw a.ct):Int) !=(length (map cw b.ct):Int))&&(!(Ej a b)))=dec (a.ct=b.ct):=sj a.ct b.ct _ λi=>afQ not (vX _ _);have e1':=ag9.1 e1;have e2':=ag9.1 e2;rw[aH]at e1' e2';rw[edE,<-e1',<-e2'];unfold r22;simp only[afv,afP,aga,ago,aH];grind)
theorem ae6:r46 a b=dec (a=b):=vi (by rw[edE];unfold r46;simp only[afv,agQ,aH])
def i46:bC:=⟨46,[.ag (aD a),.ag (aD b)],B (dec<|a=b),gh a/\gh b⟩
def g46:(i46 a b).bu pg:=bI λhp=>ae6 a b▸ae5 a b hp.1 hp.2
end
def acR:Code:=bn 0 (aG 54)
abbrev Yl(a b:List Edge)(i0:Nat):Am.Loc:=[(1,.sl 10 (map aD b)),(2,.fn (.func 46) [] []),(15,.sl 10 (map aD a)),(16,I (length (map aD a):Int)),(17,I (i0:Int))]
abbrev Ym(a b:List Edge)(i0:Nat):lXE:=[]
def BN(a b:List Edge)(i0:Nat):Bool:=(!(dec<|(ae a i0)=(ae b i0)))
def MI(a b:List Edge):Bool:=cz (length a) (BN a b)
abbrev Yn(a b:List Edge)(i0:Nat):Am.Loc:=[(6,B false)]
abbrev Yo(a b:List Edge)(i0:Nat):lXE:=[]
abbrev Yp(a b:List Edge):Am.Loc:=[]
abbrev Yq(a b:List Edge):lXE:=[]
section
variable(a b:List Edge)
abbrev zBH:=((length (map aD a):Int) !=(length (map aD b):Int))
def Jv:KB:=anK 0 (length a) (BN a b) (Yl a b) (Ym a b) .ret (Yn a b) (Yo a b) (.exit 0) (Yp a b) (Yq a b) ((zBH a b)=false)
abbrev Yr(i0:Nat):List bG:=[htW (BN a b i0) .ret (Yn a b i0) zI (Yo a b i0),nxW (BN a b i0) (Yl a b<|i0+1) (Ym a b<|i0+1) (Yl a b<|i0+1) zI (Ym a b<|i0+1)]
def Ys(la:length a<=9223372036854775807)(lb:length b<=9223372036854775807)(fa: ∀e∈a,gh e)(fb: ∀e∈b,gh e):ca pg 32 0 0 (.loop acR) (Jv a b):=
 anB (Yr a b) (λi0=>(.r [.k,bT]<|.yes<|.r [.row (aD<|ae a i0),bT]<|.r [.row (aD<|ae b i0),bT]<|.r [.int 0,bT]<|.br zB<|zC i0)) (range 0) zF
 (λ(hp0:(zBH a b)=false) i0(hx0:i0<(length a))=>have gp0:=cE hp0;have lp0:=aF aD (a);have l2:=aF aD (b);have l1:=aF aD (a);have hb:(decide<|(i0:Int)<(length (map aD a):Int))=true:=afH oaa;
 bq (an (a1 a0)<|an hb<|an (ac (rwa aD a i0) a0)<|an (ac (rwa aD b i0) a0)<|an (cA (g46 (ae a i0)<|ae b i0) ⟨fa _ (ai oaa),fb _ (ai oaa)⟩ a0)<|brP (λ(h1:(!(dec<|(ae a i0)=(ae b i0)))=true)=>(an a0<|lf (wy (Yr a b i0) 0) 2<|show BN a b i0=true from h1))<|λh1=>(an (ac (dwo ((i0+1:Nat):Int)) a0)<|lf (wy (Yr a b i0) 1) 2 ⟨(show BN a b i0=false from h1),rfl,rfl⟩))
 oab)
 (λ(hp0:(zBH a b)=false)=>have gp0:=cE hp0;have lp0:=aF aD (a);have l2:=aF aD (b);have l1:=aF aD (a);have hb:(decide<|(((length a):Nat):Int)<(length (map aD a):Int))=false:=afI oaa;
 bq (an (a1 a0)<|an hb<|lx (.exit 0) (Yp a b) (range 0) (Yq a b) 0)
 oab) (hc:=λhp0 i0 hx0=>(aK (.cons (g46 (ae a i0)<|ae b i0) rfl bB.nil) aC))
def r54:Bool:=(!((length (map aD a):Int) !=(length (map aD b):Int))&&(!(MI a b)))
end
def vr:cy [0] (aG 54)=[(0,.loop acR)]:=by kernel_rfl
def eq54(a b:List Edge)(la:length a<=9223372036854775807)(lb:length b<=9223372036854775807)(fa: ∀e∈a,gh e)(fb: ∀e∈b,gh e):aQ pg 54 [.sl 10 (map aD a),.sl 10 (map aD b),.fn (.func 46) [] []] [] [] (B<|r54 a b) []:=
 aV 54 zAN
 (an a0<|an (a1 a0)<|brP (λ(h0:(zBH a b)=true)=>(an a0<|bE<|show r54 a b=false from(aT<|bQ h0)))<|λh0=>(an a0<|an (kbT (Jv a b) h0)<|brP (λ(h1:(MI a b)=true)=>(bE<|show r54 a b=false from(ay (ak h0)<|bQ h1)))<|λh1=>(an a0<|bE<|show r54 a b=true from(ay (ak h0)<|ak h1)))) (hk:=(bc (l:=[(0,Jv a b)]) vr (aE (Ys a b la lb fa fb) rfl aP) rfl))
def ae7(a b:List Edge):r54 a b=dec (a=b):=sj a b _ λi=>rfl
structure nX(s:State):Prop where
 len:s.ah.length<=9223372036854775807
 nE: ∀e∈s.ah,gh e
theorem stE{a b:State}:a=b↔(a.aI=b.aI/\a.ah=b.ah):=⟨λh=>by subst h;exact⟨rfl,rfl⟩,λ⟨h1,h2⟩=>by obtain⟨a1,a2⟩:=a;obtain⟨b1,b2⟩:=b;simp only at h1 h2;rw[h1,h2]⟩
theorem neE{a b:Net}:a=b↔(a.types=b.types/\a.bp=b.bp/\a.bx=b.bx/\a.rules=b.rules/\a.aa=b.aa):=⟨λh=>by subst h;exact⟨rfl,rfl,rfl,rfl,rfl⟩,λ⟨h1,h2,h3,h4,h5⟩=>by obtain⟨a1,a2,a3,a4,a5⟩:=a;obtain⟨b1,b2,b3,b4,b5⟩:=b;simp only at h1 h2 h3 h4 h5;rw[h1,h2,h3,h4,h5]⟩
def i54(a b:List Edge):bC:=⟨54,[.sl 10 (a.map aD),.sl 10 (b.map aD),.fn (.func 46) [] []],B (dec<|a=b),(a.length<=9223372036854775807/\b.length<=9223372036854775807)/\(∀e∈a,gh e)/\(∀e∈b,gh e)⟩
def g54(a b:List Edge):(i54 a b).bu pg:=bI λhp=>ae7 a b▸eq54 a b hp.1.1 hp.1.2 hp.2.1 hp.2.2
def r53(x y:State):Bool:=(((State.aI x)==(State.aI y))&&dec ((State.ah x)=(State.ah y)))
def ae8(x y:State)(fx:nX x)(fy:nX y):aQ pg 53 [.ag (aj x),.ag (aj y),.pf [.fn (.func 46) [] []]] [] [] (B<|r53 x y) []:=
 aV 53 (.r [bT]<|.a zCS<|.r zJ .nil)
 (an a0<|aO (λ(h0:((State.aI x)==(State.aI y))=true)=>(an (cA (g54 (State.ah x)<|State.ah y) ⟨⟨fx.len,fy.len⟩,fx.nE,fy.nE⟩<|aN 5<|ac h0<|a1 a0)<|bE<|show r53 x y=(dec<|(State.ah x)=(State.ah y))from(ay h0 rfl)))<|λh0=>(an (aN 5<|ac (ak h0)<|a1 a0)<|bE<|show r53 x y=false from(aT h0))) (hc:=(aK (.cons (g54 (State.ah x)<|State.ah y) rfl bB.nil) aC))
def ae9(x y:State):r53 x y=dec (x=y):=vi (by rw[stE];unfold r53;simp only[afv,agQ,aH])
def i53(a b:State):bC:=⟨53,[.ag (aj a),.ag (aj b),.pf [.fn (.func 46) [] []]],B (dec<|a=b),nX a/\nX b⟩
def g53(a b:State):(i53 a b).bu pg:=bI λhp=>ae9 a b▸ae8 a b hp.1 hp.2
def acS:Code:=bn 0 (aG 52)
abbrev Yt(a b:List State)(i0:Nat):Am.Loc:=[(1,.sl 2 (map aj b)),(2,.fn (.func 53) [] [.pf [.fn (.func 46) [] []]]),(15,.sl 2 (map aj a)),(16,I (length (map aj a):Int)),(17,I (i0:Int))]
abbrev Yu(a b:List State)(i0:Nat):lXE:=[]
def BO(a b:List State)(i0:Nat):Bool:=(!(dec<|(ae a i0)=(ae b i0)))
def MJ(a b:List State):Bool:=cz (length a) (BO a b)
abbrev Yv(a b:List State)(i0:Nat):Am.Loc:=[(6,B false)]
abbrev Yw(a b:List State)(i0:Nat):lXE:=[]
abbrev Yx(a b:List State):Am.Loc:=[]
abbrev Yy(a b:List State):lXE:=[]
section
variable(a b:List State)
abbrev zBD:=((length (map aj a):Int) !=(length (map aj b):Int))
def Jw:KB:=anK 0 (length a) (BO a b) (Yt a b) (Yu a b) .ret (Yv a b) (Yw a b) (.exit 0) (Yx a b) (Yy a b) ((zBD a b)=false)
abbrev Yz(i0:Nat):List bG:=[htW (BO a b i0) .ret (Yv a b i0) zI (Yw a b i0),nxW (BO a b i0) (Yt a b<|i0+1) (Yu a b<|i0+1) (Yt a b<|i0+1) zI (Yu a b<|i0+1)]
def YA(la:length a<=9223372036854775807)(lb:length b<=9223372036854775807)(fa: ∀s∈a,nX s)(fb: ∀s∈b,nX s):ca pg 32 0 0 (.loop acS) (Jw a b):=
 anB (Yz a b) (λi0=>(.r [.k,bT]<|.yes<|.r [.row (aj<|ae a i0),bT]<|.r [.row (aj<|ae b i0),bT]<|.r [.int 0,bT]<|.br zB<|zC i0)) (range 0) zF
 (λ(hp0:(zBD a b)=false) i0(hx0:i0<(length a))=>have gp0:=cE hp0;have lp0:=aF aj (a);have l2:=aF aj (b);have l1:=aF aj (a);have hb:(decide<|(i0:Int)<(length (map aj a):Int))=true:=afH oaa;
 bq (an (a1 a0)<|an hb<|an (ac (rwa aj a i0) a0)<|an (ac (rwa aj b i0) a0)<|an (cA (g53 (ae a i0)<|ae b i0) ⟨fa _ (ai oaa),fb _ (ai oaa)⟩ a0)<|brP (λ(h1:(!(dec<|(ae a i0)=(ae b i0)))=true)=>(an a0<|lf (wy (Yz a b i0) 0) 2<|show BO a b i0=true from h1))<|λh1=>(an (ac (dwo ((i0+1:Nat):Int)) a0)<|lf (wy (Yz a b i0) 1) 2 ⟨(show BO a b i0=false from h1),rfl,rfl⟩))
 oab)
 (λ(hp0:(zBD a b)=false)=>have gp0:=cE hp0;have lp0:=aF aj (a);have l2:=aF aj (b);have l1:=aF aj (a);have hb:(decide<|(((length a):Nat):Int)<(length (map aj a):Int))=false:=afI oaa;
 bq (an (a1 a0)<|an hb<|lx (.exit 0) (Yx a b) (range 0) (Yy a b) 0)
 oab) (hc:=λhp0 i0 hx0=>(aK (.cons (g53 (ae a i0)<|ae b i0) rfl bB.nil) aC))
def r52:Bool:=(!((length (map aj a):Int) !=(length (map aj b):Int))&&(!(MJ a b)))
end
def vu:cy [0] (aG 52)=[(0,.loop acS)]:=by kernel_rfl
section
variable(a b:List State)
def eq52(la:length a<=9223372036854775807)(lb:length b<=9223372036854775807)(fa: ∀s∈a,nX s)(fb: ∀s∈b,nX s):aQ pg 52 [.sl 2 (map aj a),.sl 2 (map aj b),.fn (.func 53) [] [.pf [.fn (.func 46) [] []]]] [] [] (B<|r52 a b) []:=
 aV 52 zAN
 (an a0<|an (a1 a0)<|brP (λ(h0:(zBD a b)=true)=>(an a0<|bE<|show r52 a b=false from(aT<|bQ h0)))<|λh0=>(an a0<|an (kbT (Jw a b) h0)<|brP (λ(h1:(MJ a b)=true)=>(bE<|show r52 a b=false from(ay (ak h0)<|bQ h1)))<|λh1=>(an a0<|bE<|show r52 a b=true from(ay (ak h0)<|ak h1)))) (hk:=(bc (l:=[(0,Jw a b)]) vu (aE (YA a b la lb fa fb) rfl aP) rfl))
def afa:r52 a b=dec (a=b):=sj a b _ λi=>rfl
def i52:kz:=⟨52,[.sl 2 (a.map aj),.sl 2 (b.map aj),.fn (.func 53) [] [.pt 0 0]],[.box 60 [.fn (.func 46) [] []]],B (dec<|a=b),(a.length<=9223372036854775807/\b.length<=9223372036854775807)/\(∀s∈a,nX s)/\(∀s∈b,nX s)⟩
def g52:(i52 a b).bu pg:=λhp=>fW rfl (xI (X:= .box 60 [.fn (.func 46) [] []]) (.inr ⟨_,_,rfl⟩) (fk.cons (Frz.same _)<|fk.cons (Frz.same _)<|fk.cons (Frz.fn<|fk.cons (Frz.pt rfl) fk.nil) fk.nil) oaf<|afa a b▸eq52 a b hp.1.1 hp.1.2 hp.2.1 hp.2.2)
end
structure nY(n:Net):Prop where
 types:n.types.length<=9223372036854775807
 eP:n.bp.length<=9223372036854775807
 bx:n.bx.length<=9223372036854775807
 rules:n.rules.length<=9223372036854775807
 aa:n.aa.length<=9223372036854775807
 st: ∀s∈n.aa,nX s
def r19(a b:Net):Bool:=((dec<|(Net.types a)=(Net.types b))&&((dec<|(Net.bp a)=(Net.bp b))&&((dec<|(Net.bx a)=(Net.bx b))&&((dec<|(Net.rules a)=(Net.rules b))&&dec ((Net.aa a)=(Net.aa b))))))
def YB(a b:Net)(fa:nY a)(fb:nY b):aQ pg 19 [.ag (aY a),.ag (aY b)] [] [] (B<|r19 a b) []:=
 have la1:=fa.types;have la2:=fa.eP;have la3:=fa.bx;have la4:=fa.rules;have la5:=fa.aa;have lb1:=fb.types;have lb2:=fb.eP;have lb3:=fb.bx;have lb4:=fb.rules;have lb5:=fb.aa;aV 19 (.r [bT]<|.r [bT]<|.a (.a (.a (.a (.r (.int 0::uTT 5 (.int 1::uTT 5 (.int 2::uTT 5 (.int 3::uTT 6 [.cq 0 [],bT])))) .nil)<|.r (.int 0::uTT 5 (.int 1::uTT 5 (.int 2::uTT 5 (.int 3::uFF 6 [bT])))) .nil)<|.r (.int 0::uTT 5 (.int 1::uTT 5 (.int 2::uFF 11 [bT]))) .nil)<|.r (.int 0::uTT 5 (.int 1::uFF 16 [bT])) .nil)<|.r (.int 0::uFF 21 [bT]) .nil)
 (an a0<|an a0<|aO (λ(h0:(dec<|(Net.types a)=(Net.types b))=true)=>have q0:=(ay h0 rfl:r19 a b=_);
 (aO (λ(h1:(dec<|(Net.bp a)=(Net.bp b))=true)=>have q1:=q0.trans (ay h1 rfl);
 (aO (λ(h2:(dec<|(Net.bx a)=(Net.bx b))=true)=>(aO (λ(h3:(dec<|(Net.rules a)=(Net.rules b))=true)=>(an (ac (qE (c:=i52 (Net.aa a)<|Net.aa b) ⟨⟨by omega,by omega⟩,fa.st,fb.st⟩ rfl)<|aN 5<|ac h3<|cA (g51 (Net.rules a)<|Net.rules b) ⟨by omega,by omega⟩<|aN 4<|ac h2<|cA (g50 (Net.bx a)<|Net.bx b) ⟨by omega,by omega⟩<|aN 4<|ac h1<|cA (g50 (Net.bp a)<|Net.bp b) ⟨by omega,by omega⟩<|aN 4<|ac h0<|cA (g50 (Net.types a)<|Net.types b) ⟨by omega,by omega⟩ a0)<|bE<|show r19 a b=(dec<|(Net.aa a)=(Net.aa b))from(ay h0<|ay h1<|ay h2<|ay h3 rfl)))<|λh3=>(an (aN 5<|ac (ak h3)<|cA (g51 (Net.rules a)<|Net.rules b) ⟨by omega,by omega⟩<|aN 4<|ac h2<|cA (g50 (Net.bx a)<|Net.bx b) ⟨by omega,by omega⟩<|aN 4<|ac h1<|cA (g50 (Net.bp a)<|Net.bp b) ⟨by omega,by omega⟩<|aN 4<|ac h0<|cA (g50 (Net.types a)<|Net.types b) ⟨by omega,by omega⟩ a0)<|bE<|q1.trans<|ay h2<|aT h3)))<|λh2=>(an (aN 10<|ac (ak h2)<|cA (g50 (Net.bx a)<|Net.bx b) ⟨by omega,by omega⟩<|aN 4<|ac h1<|cA (g50 (Net.bp a)<|Net.bp b) ⟨by omega,by omega⟩<|aN 4<|ac h0<|cA (g50 (Net.types a)<|Net.types b) ⟨by omega,by omega⟩ a0)<|bE<|q1.trans<|aT h2)))<|λh1=>(an (aN 15<|ac (ak h1)<|cA (g50 (Net.bp a)<|Net.bp b) ⟨by omega,by omega⟩<|aN 4<|ac h0<|cA (g50 (Net.types a)<|Net.types b) ⟨by omega,by omega⟩ a0)<|bE<|q0.trans<|aT h1)))<|λh0=>(an (aN 20<|ac (ak h0)<|cA (g50 (Net.types a)<|Net.types b) ⟨by omega,by omega⟩ a0)<|bE<|show r19 a b=false from(aT h0))) (callf:=(sP [i52 (Net.aa a) (Net.aa b)]<|kP [i50 (Net.types a) (Net.types b),i50 (Net.bp a) (Net.bp b),i50 (Net.bx a) (Net.bx b),i51 (Net.rules a) (Net.rules b)] base)) (hc:=(oD (.cons (g52 (Net.aa a)<|Net.aa b) o7.nil)<|aK (.cons (g50 (Net.types a)<|Net.types b) rfl<|.cons (g50 (Net.bp a)<|Net.bp b) rfl<|.cons (g50 (Net.bx a)<|Net.bx b) rfl<|.cons (g51 (Net.rules a)<|Net.rules b) rfl bB.nil) aC))
def YC(a b:Net):r19 a b=dec (a=b):=vi (by rw[neE];unfold r19;simp only[afv,agQ,aH])
def i22(a b:Edge):bC:=⟨22,[.ag (aD a),.ag (aD b)],B (dec<|a=b),gh a/\gh b⟩
def g22(a b:Edge):(i22 a b).bu pg:=bI λhp=>Yk a b▸Yj a b hp.1 hp.2
def acT:Code:=bn 0 (aG 20)
abbrev YD(a b:Net)(i0:Nat):Am.Loc:=[(2,.pf (aY a)),(3,.pf (aY b)),(5,I (i0:Int))]
abbrev YE(a b:Net)(i0:Nat):lXE:=[]
def ur(a b:Net)(i0:Nat):Bool:=(!(eqU (ae (Net.rules a) i0)<|ae (Net.rules b) i0))
def Ek(a b:Net):Bool:=cz (length<|Net.rules a) (ur a b)
abbrev YF(a b:Net)(i0:Nat):Am.Loc:=[(4,B false)]
abbrev YG(a b:Net)(i0:Nat):lXE:=[]
abbrev YH(a b:Net):Am.Loc:=[(2,.pf (aY a)),(3,.pf (aY b))]
abbrev YI(a b:Net):lXE:=[]
section
variable(a b:Net)
abbrev zAV:=((length (map aw<|Net.rules a):Int) !=(length (map aw<|Net.rules b):Int))
def Jx:KB:=anK 0 (length<|Net.rules a) (ur a b) (YD a b) (YE a b) .ret (YF a b) (YG a b) (.exit 0) (YH a b) (YI a b) ((zAV a b)=false)
abbrev YJ(i0:Nat):List bG:=[htW (ur a b i0) .ret (YF a b i0) zI (YG a b i0),nxW (ur a b i0) (YD a b<|i0+1) (YE a b<|i0+1) (YD a b<|i0+1) zI (YE a b<|i0+1)]
def YK(fa:nY a)(fb:nY b):ca pg 134 0 0 (.loop acT) (Jx a b):=
 anB (YJ a b) (λi0=>(.r [.k,bT]<|.yes<|.r [.row (aw<|ae (Net.rules a) i0),.row (aw<|ae (Net.rules b) i0),.k,bT]<|.br zB<|zC i0)) (range 0) zF
 (λ(hp0:(zAV a b)=false) i0(hx0:i0<(length<|Net.rules a))=>have la1:=fa.types;have la2:=fa.eP;have la3:=fa.bx;have la4:=fa.rules;have la5:=fa.aa;have lb1:=fb.types;have lb2:=fb.eP;have lb3:=fb.bx;have lb4:=fb.rules;have lb5:=fb.aa;have gp0:=cE hp0;have lp0:=aF aw ((Net.rules a));have l2:=aF aw ((Net.rules b));have l1:=aF aw ((Net.rules a));have hb:(decide<|(i0:Int)<(length (map aw<|Net.rules a):Int))=true:=afH oaa;
 bq (an (a1 a0)<|an hb<|an (a1<|ac (rwa aw (Net.rules b) i0)<|ac (rwa aw (Net.rules a) i0) a0)<|brP (λ(h1:(!(eqU (ae (Net.rules a) i0)<|ae (Net.rules b) i0))=true)=>(an a0<|lf (wy (YJ a b i0) 0) 0<|show ur a b i0=true from h1))<|λh1=>(an (ac (dwo ((i0+1:Nat):Int)) a0)<|lf (wy (YJ a b i0) 1) 0 ⟨(show ur a b i0=false from h1),rfl,rfl⟩))
 oab)
 (λ(hp0:(zAV a b)=false)=>have la1:=fa.types;have la2:=fa.eP;have la3:=fa.bx;have la4:=fa.rules;have la5:=fa.aa;have lb1:=fb.types;have lb2:=fb.eP;have lb3:=fb.bx;have lb4:=fb.rules;have lb5:=fb.aa;have gp0:=cE hp0;have lp0:=aF aw ((Net.rules a));have l2:=aF aw ((Net.rules b));have l1:=aF aw ((Net.rules a));have hb:(decide<|(((length<|Net.rules a):Nat):Int)<(length (map aw<|Net.rules a):Int))=false:=afI oaa;
 bq (an (a1 a0)<|an hb<|lx (.exit 0) (YH a b) (range 0) (YI a b) 0)
 oab)
end
def MK:Code:=bn 2 (aG 20)
def acU:Code:=bn 4 MK
abbrev YL(a b:Net)(i2 i4:Nat):Am.Loc:=[(2,.pf (aY a)),(3,.pf (aY b)),(6,I (i2:Int)),(7,I (i4:Int))]
abbrev YM(a b:Net)(i2 i4:Nat):lXE:=[]
def uu(a b:Net)(i2 i4:Nat):Bool:=(!(dec<|(ae (ae (Net.aa a) i2).ah i4)=(ae (ae (Net.aa b) i2).ah i4)))
def El(a b:Net)(i2:Nat):Bool:=cz (length (ae (Net.aa a) i2).ah) (uu a b i2)
abbrev YN(a b:Net)(i2 i4:Nat):Am.Loc:=[(4,B false)]
abbrev YO(a b:Net)(i2 i4:Nat):lXE:=[]
abbrev YP(a b:Net)(i2:Nat):Am.Loc:=[(2,.pf (aY a)),(3,.pf (aY b)),(6,I (i2:Int))]
abbrev YQ(a b:Net)(i2:Nat):lXE:=[]
section
variable(a b:Net)
abbrev zAA(i2:Nat):=((length (map aD (ae (Net.aa a) i2).ah):Int) !=(length (map aD (ae (Net.aa b) i2).ah):Int))
def Jy(i2:Nat):KB:=anK 4 (length (ae (Net.aa a) i2).ah) (uu a b i2) (YL a b i2) (YM a b i2) .ret (YN a b i2) (YO a b i2) (.exit 4) (YP a b i2) (YQ a b i2) ((zAA a b i2)=false)
abbrev YR(i2 i4:Nat):List bG:=[htW (uu a b i2 i4) .ret (YN a b i2 i4) zI (YO a b i2 i4),nxW (uu a b i2 i4) (YL a b i2<|i4+1) (YM a b i2<|i4+1) (YL a b i2<|i4+1) zI (YM a b i2<|i4+1)]
abbrev zw:=((length (map aj<|Net.aa a):Int) !=(length (map aj<|Net.aa b):Int))
def YS(i2:Nat)(fa:nY a)(fb:nY b)(hp2:(zw a b)=false)(hx2:i2<(length<|Net.aa a)):ca pg 134 0 4 (.loop acU) (Jy a b i2):=
 anB (YR a b i2) (λi4=>(.r [.row (aj<|ae (Net.aa a) i2),.k,bT]<|.yes<|.r [.row (aj<|ae (Net.aa a) i2),.row (aD<|ae (ae (Net.aa a) i2).ah i4),.row (aj<|ae (Net.aa b) i2),.row (aD<|ae (ae (Net.aa b) i2).ah i4),.int 0,bT]<|.br zB<|.r (zi i4)<|.pick 1)) (range 0) (.r [.row (aj<|ae (Net.aa a) i2),.k,bT]<|.no<|.pick 0)
 (λ(hp4:(zAA a b i2)=false) i4(hx4:i4<(length (ae (Net.aa a) i2).ah))=>have la1:=fa.types;have la2:=fa.eP;have la3:=fa.bx;have la4:=fa.rules;have la5:=fa.aa;have lb1:=fb.types;have lb2:=fb.eP;have lb3:=fb.bx;have lb4:=fb.rules;have lb5:=fb.aa;have gp0:=cE hp4;have lp0:=aF aD ((ae (Net.aa a) i2).ah);have l2:=aF aD ((ae (Net.aa b) i2).ah);have hl2:=cE hp2;have hl3:=aF aj (Net.aa a);have hl4:=aF aj (Net.aa b);have hsa:=fa.st (ae a.aa i2) (ai oaa);have hsb:=fb.st (ae b.aa i2) (ai oaa);have hse:=hsa.len;have hsf:=hsb.len;have l1:=aF aD ((ae (Net.aa a) i2).ah);have hb:(decide<|(i4:Int)<(length (map aD (ae (Net.aa a) i2).ah):Int))=true:=afH oaa;
 bq (an (a1<|ac (rwa aj (Net.aa a) i2) a0)<|an hb<|an (cA (g22 (ae (ae (Net.aa a) i2).ah i4)<|ae (ae (Net.aa b) i2).ah i4) ⟨hsa.nE _ (ai oaa),hsb.nE _ (ai oaa)⟩<|ac (rwa aD (ae (Net.aa b) i2).ah i4)<|ac (rwa aj (Net.aa b) i2)<|ac (rwa aD (ae (Net.aa a) i2).ah i4)<|ac (rwa aj (Net.aa a) i2) a0)<|brP (λ(h1:(!(dec<|(ae (ae (Net.aa a) i2).ah i4)=(ae (ae (Net.aa b) i2).ah i4)))=true)=>(an a0<|lf (wy (YR a b i2 i4) 0) 0<|show uu a b i2 i4=true from h1))<|λh1=>(an (ac (dwo ((i4+1:Nat):Int)) a0)<|lf (wy (YR a b i2 i4) 1) 0 ⟨(show uu a b i2 i4=false from h1),rfl,rfl⟩))
 oab)
 (λ(hp4:(zAA a b i2)=false)=>have la1:=fa.types;have la2:=fa.eP;have la3:=fa.bx;have la4:=fa.rules;have la5:=fa.aa;have lb1:=fb.types;have lb2:=fb.eP;have lb3:=fb.bx;have lb4:=fb.rules;have lb5:=fb.aa;have gp0:=cE hp4;have lp0:=aF aD ((ae (Net.aa a) i2).ah);have l2:=aF aD ((ae (Net.aa b) i2).ah);have l1:=aF aD ((ae (Net.aa a) i2).ah);have hb:(decide<|(((length (ae (Net.aa a) i2).ah):Nat):Int)<(length (map aD (ae (Net.aa a) i2).ah):Int))=false:=afI oaa;
 bq (an (a1<|ac (rwa aj (Net.aa a) i2) a0)<|an hb<|lx (.exit 4) (YP a b i2) (range 0) (YQ a b i2) 0)
 oab) (hc:=λhp4 i4 hx4=>(aK (.cons (g22 (ae (ae (Net.aa a) i2).ah i4)<|ae (ae (Net.aa b) i2).ah i4) rfl bB.nil) aC))
abbrev YT(i2:Nat):Am.Loc:=[(2,.pf (aY a)),(3,.pf (aY b)),(6,I (i2:Int))]
end
abbrev YU(a b:Net)(i2:Nat):lXE:=[]
def nZ(a b:Net)(i2:Nat):Bool:=(((ae (Net.aa a) i2).aI !=(ae (Net.aa b) i2).aI)||(((length (map aD (ae (Net.aa a) i2).ah):Int) !=(length (map aD (ae (Net.aa b) i2).ah):Int))||(El a b i2)))
def Em(a b:Net):Bool:=cz (length<|Net.aa a) (nZ a b)
abbrev YV(a b:Net)(i2:Nat):Am.Loc:=[(4,B false)]
abbrev YW(a b:Net)(i2:Nat):lXE:=[]
abbrev YX(a b:Net):Am.Loc:=[]
abbrev YY(a b:Net):lXE:=[]
def Jz(a b:Net):KB:=anK 2 (length<|Net.aa a) (nZ a b) (YT a b) (YU a b) .ret (YV a b) (YW a b) (.exit 2) (YX a b) (YY a b) ((zw a b)=false)
abbrev GJ(a b:Net)(i2:Nat):List bG:=[htW (nZ a b i2) .ret (YV a b i2) zI (YW a b i2),nxW (nZ a b i2) (YT a b<|i2+1) (YU a b<|i2+1) (YT a b<|i2+1) zI (YU a b<|i2+1)]
def En:cy [4] MK=[(4,.loop acU)]:=by kernel_rfl
def YZ(a b:Net)(fa:nY a)(fb:nY b):ca pg 134 0 2 (.loop MK) (Jz a b):=
 anB (GJ a b) (λi2=>(.r [.k,bT]<|.yes<|.a (.r (.row (aj<|ae (Net.aa a) i2)::.row (aj<|ae (Net.aa b) i2)::.k::uFF 15 [bT]) zB)<|.r (.row (aj<|ae (Net.aa a) i2)::.row (aj<|ae (Net.aa b) i2)::.k::uTT 4 (.row (aj<|ae (Net.aa a) i2)::uTT 7 (.row (aj<|ae (Net.aa b) i2)::uTT 4 [.k,bT])))<|.br zB<|.r [bT]<|.br (.pick 0)<|.r (zb i2)<|.pick 1)) (range 0) zF
 (λ(hp2:(zw a b)=false) i2(hx2:i2<(length<|Net.aa a))=>have la1:=fa.types;have la2:=fa.eP;have la3:=fa.bx;have la4:=fa.rules;have la5:=fa.aa;have lb1:=fb.types;have lb2:=fb.eP;have lb3:=fb.bx;have lb4:=fb.rules;have lb5:=fb.aa;have gp0:=cE hp2;have lp0:=aF aj ((Net.aa a));have l2:=aF aj ((Net.aa b));have hl2:=cE hp2;have hl3:=aF aj (Net.aa a);have hl4:=aF aj (Net.aa b);have hsa:=fa.st (ae a.aa i2) (ai oaa);have hsb:=fb.st (ae b.aa i2) (ai oaa);have hse:=hsa.len;have hsf:=hsb.len;have l1:=aF aj ((Net.aa a));have hb:(decide<|(i2:Int)<(length (map aj<|Net.aa a):Int))=true:=afH oaa;
 bq (an (a1 a0)<|an hb<|aO (λ(h1:((ae (Net.aa a) i2).aI !=(ae (Net.aa b) i2).aI)=true)=>(an (aN 14<|ac (n2 h1)<|a1<|ac (rwa aj (Net.aa b) i2)<|ac (rwa aj (Net.aa a) i2) a0)<|an a0<|lf (wy (GJ a b i2) 0) 0<|show nZ a b i2=true from(orT h1)))<|λh1=>have q0:=(orF h1 rfl:nZ a b i2=_);
 (an (aN 5<|ac (rwa aj (Net.aa b) i2)<|aN 7<|ac (rwa aj (Net.aa a) i2)<|aN 3<|ac (ak h1)<|a1<|ac (rwa aj (Net.aa b) i2)<|ac (rwa aj (Net.aa a) i2) a0)<|brP (λ(h2:(zAA a b i2)=true)=>(an a0<|lf (wy (GJ a b i2) 0) 0<|q0.trans<|orT h2))<|λh2=>have q1:=q0.trans (orF h2 rfl);have l2:=aF aD ((ae (Net.aa a) i2).ah);have l3:=aF aD ((ae (Net.aa b) i2).ah);have g2:=cE h2;
 (an a0<|an (kbT (Jy a b i2) h2)<|brP (λ(h3:(El a b i2)=true)=>(lf (wy (GJ a b i2) 0) 0<|q1.trans h3))<|λh3=>(an (ac (dwo ((i2+1:Nat):Int)) a0)<|lf (wy (GJ a b i2) 1) 0 ⟨(q1.trans h3),rfl,rfl⟩))))
 oab)
 (λ(hp2:(zw a b)=false)=>have la1:=fa.types;have la2:=fa.eP;have la3:=fa.bx;have la4:=fa.rules;have la5:=fa.aa;have lb1:=fb.types;have lb2:=fb.eP;have lb3:=fb.bx;have lb4:=fb.rules;have lb5:=fb.aa;have gp0:=cE hp2;have lp0:=aF aj ((Net.aa a));have l2:=aF aj ((Net.aa b));have l1:=aF aj ((Net.aa a));have hb:(decide<|(((length<|Net.aa a):Nat):Int)<(length (map aj<|Net.aa a):Int))=false:=afI oaa;
 bq (an (a1 a0)<|an hb<|lx (.exit 2) (YX a b) (range 0) (YY a b) 0)
 oab) (hk:=λhp2 i2 hx2=>(bc (l:=[(4,Jy a b i2)]) En (aE (YS a b i2 fa fb hp2 hx2) rfl aP) rfl))
def r20(a b:Net):Bool:=(!(!(dec<|(Net.types a)=(Net.types b)))&&(!(!(dec<|(Net.bp a)=(Net.bp b)))&&(!(!(dec<|(Net.bx a)=(Net.bx b)))&&(!((length (map aw<|Net.rules a):Int) !=(length (map aw<|Net.rules b):Int))&&(!((length (map aj<|Net.aa a):Int) !=(length (map aj<|Net.aa b):Int))&&(!(Ek a b)&&(!(Em a b))))))))
def vv:cy [0,2] (aG 20)=[(0,.loop acT),(2,.loop MK)]:=by kernel_rfl
def afb(a b:Net)(fa:nY a)(fb:nY b):aQ pg 20 [.ag (aY a),.ag (aY b)] [] [] (B<|r20 a b) []:=
 have la1:=fa.types;have la2:=fa.eP;have la3:=fa.bx;have la4:=fa.rules;have la5:=fa.aa;have lb1:=fb.types;have lb2:=fb.eP;have lb3:=fb.bx;have lb4:=fb.rules;have lb5:=fb.aa;aV 20 (.r [bT]<|.a (.r (.int 0::uFF 26 [bT]) zD)<|.a (.r (.int 0::uTT 5 (.int 1::bT::uFF 20 [bT])) zD)<|.a (.r (.int 0::uTT 5 (.int 1::uTT 6 (.int 2::bT::uFF 14 [bT]))) zD)<|.a (.r (.int 0::uTT 5 (.int 1::uTT 6 (.int 2::uTT 8 (.k::uFF 7 [bT])))) zD)<|.r (.int 0::uTT 5 (.int 1::uTT 6 (.int 2::uTT 8 (.k::uTT 7 [.k,bT]))))<|.br zD<|.r [bT]<|.br .nil zY)
 (an a0<|aO (λ(h0:(!(dec<|(Net.types a)=(Net.types b)))=true)=>(an (aN 25<|ac (n2 h0)<|cA (g55 (Net.types a)<|Net.types b) ⟨by omega,by omega⟩ a0)<|an a0<|bE<|show r20 a b=false from(aT<|bQ h0)))<|λh0=>have q0:=(ay (ak h0) rfl:r20 a b=_);
 (aO (λ(h1:(!(dec<|(Net.bp a)=(Net.bp b)))=true)=>(an (aN 19<|ac (n2 h1)<|a1<|cA (g55 (Net.bp a)<|Net.bp b) ⟨by omega,by omega⟩<|aN 4<|ac (ak h0)<|cA (g55 (Net.types a)<|Net.types b) ⟨by omega,by omega⟩ a0)<|an a0<|bE<|q0.trans<|aT<|bQ h1))<|λh1=>have q1:=q0.trans (ay (ak h1) rfl);
 (aO (λ(h2:(!(dec<|(Net.bx a)=(Net.bx b)))=true)=>(an (aN 13<|ac (n2 h2)<|a1<|cA (g55 (Net.bx a)<|Net.bx b) ⟨by omega,by omega⟩<|aN 4<|ac (ak h1)<|a1<|cA (g55 (Net.bp a)<|Net.bp b) ⟨by omega,by omega⟩<|aN 4<|ac (ak h0)<|cA (g55 (Net.types a)<|Net.types b) ⟨by omega,by omega⟩ a0)<|an a0<|bE<|q1.trans<|aT<|bQ h2))<|λh2=>have q2:=q1.trans (ay (ak h2) rfl);
 (aO (λ(h3:(zAV a b)=true)=>have l1:=aF aw ((Net.rules a));have l2:=aF aw ((Net.rules b));
 (an (aN 6<|ac (n2 h3)<|aN 7<|ac (ak h2)<|a1<|cA (g55 (Net.bx a)<|Net.bx b) ⟨by omega,by omega⟩<|aN 4<|ac (ak h1)<|a1<|cA (g55 (Net.bp a)<|Net.bp b) ⟨by omega,by omega⟩<|aN 4<|ac (ak h0)<|cA (g55 (Net.types a)<|Net.types b) ⟨by omega,by omega⟩ a0)<|an a0<|bE<|q2.trans<|aT<|bQ h3))<|λh3=>have q3:=q2.trans (ay (ak h3) rfl);have l1:=aF aw ((Net.rules a));have l2:=aF aw ((Net.rules b));have g3:=cE h3;
 (an (aN 7<|ac (ak h3)<|aN 7<|ac (ak h2)<|a1<|cA (g55 (Net.bx a)<|Net.bx b) ⟨by omega,by omega⟩<|aN 4<|ac (ak h1)<|a1<|cA (g55 (Net.bp a)<|Net.bp b) ⟨by omega,by omega⟩<|aN 4<|ac (ak h0)<|cA (g55 (Net.types a)<|Net.types b) ⟨by omega,by omega⟩ a0)<|brP (λ(h4:(zw a b)=true)=>(an a0<|bE<|q3.trans<|aT<|bQ h4))<|λh4=>have q4:=q3.trans (ay (ak h4) rfl);
 (an a0<|an (kbT (Jx a b) h3)<|brP (λ(h5:(Ek a b)=true)=>(bE<|q4.trans<|aT<|bQ h5))<|λh5=>have q5:=q4.trans (ay (ak h5) rfl);
 (an a0<|an (kbT (Jz a b) h4)<|brP (λ(h6:(Em a b)=true)=>(bE<|q5.trans<|bQ h6))<|λh6=>(an a0<|bE<|q5.trans<|ak h6)))))))) (hc:=(aK (.cons (g55 (Net.types a)<|Net.types b) rfl<|.cons (g55 (Net.bp a)<|Net.bp b) rfl<|.cons (g55 (Net.bx a)<|Net.bx b) rfl bB.nil) aC)) (hk:=(bc (l:=[(0,Jx a b),(2,Jz a b)]) vv (aE (YK a b fa fb) rfl<|aE (YZ a b fa fb) rfl aP) rfl))
def afc(a b:Net)(i:Nat):nZ a b i= !(dec<|ae a.aa i=ae b.aa i):=by have e:=ag9.1 (sj (f:=aD) (ae a.aa i).ah (ae b.aa i).ah (uu a b i) λk=>rfl);have h4:El a b i=cz (ae a.aa i).ah.length (uu a b i):=rfl;rw[<-h4,aH]at e;have k:dec (ae a.aa i=ae b.aa i)= !(nZ a b i):=(vi<|by rw[stE,<-e];unfold nZ;simp only[afP,afU,ago,afv]).symm;rw[k,agS]
def afd(a b:Net):r20 a b=dec (a=b):=vi (by have e1:=ag9.1 (sj (f:=aw) a.rules b.rules (ur a b) λi=>afQ not<|MB _ _);have e2:=ag9.1 (sj (f:=aj) a.aa b.aa (nZ a b) λi=>afc a b i);have h1:Ek a b=cz a.rules.length (ur a b):=rfl;have h2:Em a b=cz a.aa.length (nZ a b):=rfl;rw[<-h1,aH]at e1;rw[<-h2,aH]at e2;rw[neE,<-e1,<-e2];unfold r20;simp only[afv,afP,aga,aH];grind)
def yc5:ej:=match kC 0 (aG 5)with
 | .rangeFunc _ ps a b=>⟨134,ps,a,b,none⟩
 |_=>⟨0,#[],.skip,.skip,none⟩
def lp5(l:List Edge)(b:Bool)(j:Option Code):Ob:= .lp b (yc5.left j) [100,12,18,17,11] [.fn (.func 57) [] [.pf [.sl 10 (map aD l)]],.pt 1 0,.pt 3 0,.pt 2 0,.pt 0 0]
def ob5(own:AV)(lv at':Int)(r:Bool):lXE:=[.box 3 [I lv],.box 4 [B r],.box 38 [own],.box 3 [I at']]
def acV{P:Program}{callf:cd}{f:FuncId}{tm:TM}{args:lXF}{ob obs:lXE}{r:AV}{ok:lXB}(hok:cr ok=true)(hcf:b0 P callf)(h:outC (callf f args (dq ob) ob.length tm)=some (r,obs.map some,ok)):ly P f args ob r obs:=Fp hcf h hok
def i22r(e:Edge):bC:=⟨22,[.ag (aD e),.ag (aD e)],B true,gh e⟩
def g22r(e:Edge):(i22r e).bu pg:=bI λhp=>by have h:=Yk e e▸Yj e e hp hp;rwa[aH.2 rfl]at h
def i7w:bC:=⟨7,[],B true,True⟩
def g7w:i7w.bu pg:=bI λ_=>BC
section
variable(l:List Edge)
abbrev zBa:lXF:=[.sl 10 (map aD l)]
def rnd5(lv:Int)(i0:Nat)(hx0:i0<l.length)(lb:l.length<=9223372036854775800)(fe: ∀e∈l,gh e)(hl:(((i0+1:Nat):Int)==lv)=false):ly Tryz.prog 1000004 [I (i0:Int),.ag (aD<|ae l i0)] (ob5 (.sl 10<|l.map aD) lv (i0:Int) false++ [lp5 l false none,.box 49 (aD<|ae l i0)]) (B true) [.box 3 (bg lv),.box 4 (az false),.box 38 (zBa l),.box 3 (bg ((i0+1:Nat):Int)),lp5 l false none,.box 49 (aD<|ae l i0),.box 49 (aD<|ae l i0)]:=acV (tm:=⟨0,(bF::uTT 4 (bF::uTT 4 [.row (aD<|ae l i0),bT,bT,.int 0,bT,.int ↑(i0+1),bF,bT])),[]⟩) (callf:=xw Tryz.prog c7 3000<|kP [i22r (ae l i0)] base) (ac (ak hl)<|ac (dwo ((i0+1:Nat):Int))<|a1<|cA (g22r<|ae l i0) (fe _<|ai hx0)<|aN 2<|ac (rwa aD l i0)<|aN 4<|ac (ak<|show(decide<|(i0:Int)>=(length (map aD l):Int))=false from(afI oap))<|aN 4<|ac (ak<|show((i0:Int) !=(i0:Int))=false from oaf) a0) (ov (aK (.cons (g22r<|ae l i0) rfl bB.nil) aC) mixed _ _) oab
def rnd5x(lv:Int)(i0:Nat)(hx0:i0<l.length)(lb:l.length<=9223372036854775800)(fe: ∀e∈l,gh e)(hl:(((i0+1:Nat):Int)==lv)=true):ly Tryz.prog 1000004 [I (i0:Int),.ag (aD<|ae l i0)] (ob5 (.sl 10<|l.map aD) lv (i0:Int) false++ [lp5 l false none,.box 49 (aD<|ae l i0)]) (B false) [.box 3 (bg lv),.box 4 (az true),.box 38 (zBa l),.box 3 (bg ((i0+1:Nat):Int)),lp5 l false (some .ret),.box 49 (aD<|ae l i0),.box 49 (aD<|ae l i0)]:=acV (tm:=⟨0,(bF::uTT 4 (bF::uTT 4 [.row (aD<|ae l i0),bT,bT,.int 0,bT,.int ↑(i0+1),bT,.int 1,bT])),[]⟩) (callf:=xw Tryz.prog c7 3000<|kP [i22r (ae l i0),i7w] base) (cA g7w trivial<|ac hl<|ac (dwo ((i0+1:Nat):Int))<|a1<|cA (g22r<|ae l i0) (fe _<|ai hx0)<|aN 2<|ac (rwa aD l i0)<|aN 4<|ac (ak<|show(decide<|(i0:Int)>=(length (map aD l):Int))=false from(afI oap))<|aN 4<|ac (ak<|show((i0:Int) !=(i0:Int))=false from oaf) a0) (ov (aK (.cons (g22r<|ae l i0) rfl<|.cons g7w rfl bB.nil) aC) mixed _ _) oab
end
attribute [simp] bg az cU lp5
section
variable(l:List Edge)(lv:Int)(i:Nat)
noncomputable def iYn:jn:=⟨1000004,[I ((i:Nat):Int),.ag (aD<|ae l i)],ob5 (.sl 10<|l.map aD) lv ((i:Nat):Int) false++ [lp5 l false none,.box 49 (aD<|ae l i)],B true,ob5 (.sl 10<|l.map aD) lv ((i+1:Nat):Int) false++ [lp5 l false none,.box 49 (aD<|ae l i),.box 49 (aD<|ae l i)],(i<l.length/\l.length<=9223372036854775800/\(∀e∈l,gh e))/\(((i+1:Nat):Int)==lv)=false⟩
def gYn:(iYn l lv i).bu pg:=λhp=>rnd5 l lv i hp.1.1 hp.1.2.1 hp.1.2.2 hp.2
noncomputable def iYx:jn:=⟨1000004,[I ((i:Nat):Int),.ag (aD<|ae l i)],ob5 (.sl 10<|l.map aD) lv ((i:Nat):Int) false++ [lp5 l false none,.box 49 (aD<|ae l i)],B false,ob5 (.sl 10<|l.map aD) lv ((i+1:Nat):Int) true++ [lp5 l false (some .ret),.box 49 (aD<|ae l i),.box 49 (aD<|ae l i)],(i<l.length/\l.length<=9223372036854775800/\(∀e∈l,gh e))/\(((i+1:Nat):Int)==lv)=true⟩
def gYx:(iYx l lv i).bu pg:=λhp=>rnd5x l lv i hp.1.1 hp.1.2.1 hp.1.2.2 hp.2
end
def acW:Code:=bn 0 (aG 57)
abbrev Y0(l:List Edge)(lv:Int)(i0:Nat):Am.Loc:=[(0,.yl 4),(5,.sl 10 (map aD l)),(6,I (length (map aD l):Int)),(7,I (i0:Int))]
abbrev Y1(l:List Edge)(lv:Int)(i0:Nat):lXE:=[.box 3 (bg lv),.box 4 (az false),.box 38 (zBa l),.box 3 (cU i0),lp5 l false none]
def sn(l:List Edge)(lv:Int)(i0:Nat):Bool:=(((i0+1:Nat):Int)==lv)
def oM(l:List Edge)(lv:Int):Bool:=cz (length l) (sn l lv)
abbrev Y2(l:List Edge)(lv:Int)(i0:Nat):Am.Loc:=[]
abbrev Y3(l:List Edge)(lv:Int)(i0:Nat):lXE:=[.box 3 (bg lv),.box 4 (az true),.box 38 (zBa l),.box 3 (bg ((i0+1:Nat):Int)),lp5 l false (some .ret)]
abbrev Y4(l:List Edge)(lv:Int):Am.Loc:=[]
section
variable(l:List Edge)(lv:Int)
abbrev zAM:lXE:=[.box 3 (bg lv),.box 4 (az false),.box 38 (zBa l),.box 3 (cU<|length l),lp5 l false none]
abbrev Y5:lXE:=(zAM l lv)
def qe:KB:=anK 0 (length l) (sn l lv) (Y0 l lv) (Y1 l lv) .ret (Y2 l lv) (Y3 l lv) (.exit 0) (Y4 l lv) (Y5 l lv) (True)
abbrev Y6(i0:Nat):List bG:=[htW (sn l lv i0) .ret (Y2 l lv i0) (range 5) (Y3 l lv i0),nxW (sn l lv i0) (Y0 l lv<|i0+1) (Y1 l lv<|i0+1) (Y0 l lv<|i0+1) (range 5) (Y1 l lv<|i0+1)]
theorem GK(lb:l.length<=9223372036854775800)(fe: ∀e∈l,j7 e):ca pg 19 5 0 (.loop acW) (qe l lv):=
 anB (Y6 l lv) (λi0=>(.r [.k,bT]<|.yes<|.r [.row (aD<|ae l i0),bT]<|.a (.r [.int 0,.cq 0 [],bT]<|.pick 0)<|.r [.int 0,.cq 1 [],bT]<|zC i0)) (range 5) zF
 (λ_ i0(hx0:i0<(length l))=>have l1:=aF aD (l);have hb:(decide<|(i0:Int)<(length (map aD l):Int))=true:=afH oaa;
 bq (an (a1 a0)<|an hb<|an (ac (rwa aD l i0) a0)<|aO (λ(h1:(((i0+1:Nat):Int)==lv)=true)=>(an (ac (qU (c:=iYx l lv i0) ⟨⟨hx0,lb,λe he=>(fe e he).fit⟩,(by assumption)⟩ rfl)<|cA (g56<|ae l i0) (fe _<|ai oaa) a0)<|lf (wy (Y6 l lv i0) 0) 7<|show sn l lv i0=true from h1))<|λh1=>(an (ac (qU (c:=iYn l lv i0) ⟨⟨hx0,lb,λe he=>(fe e he).fit⟩,(by assumption)⟩ rfl)<|cA (g56<|ae l i0) (fe _<|ai oaa) a0)<|an (ac (dwo ((i0+1:Nat):Int)) a0)<|lf (wy (Y6 l lv i0) 1) 7 ⟨(show sn l lv i0=false from h1),rfl,rfl⟩))
 oab)
 (λ_=>have l1:=aF aD (l);have hb:(decide<|(((length l):Nat):Int)<(length (map aD l):Int))=false:=afI oaa;
 bq (an (a1 a0)<|an hb<|lx (.exit 0) (Y4 l lv) (range 5) (Y5 l lv) 5)
 oab) (callf:=λi0=>(pR [iYx l lv i0,iYn l lv i0]<|kP [i56 (ae l i0)] base)) (hc:=λ_ i0 hx0=>(lI (.cons (gYx l lv i0)<|.cons (gYn l lv i0) nB.nil)<|aK (.cons (g56<|ae l i0) rfl bB.nil) aC))
end
def mN:cy [0] (aG 57)=[(0,.loop acW)]:=by kernel_rfl
section
variable(l:List Edge)(lv:Int)
abbrev zDi:lXE:=[.box 3 (bg lv),.box 4 (az false),.box 38 (zBa l),.box 3 (bg 0),lp5 l false none]
theorem abi(lb:l.length<=9223372036854775800)(fe: ∀e∈l,j7 e)(hl:(oM l lv)=false):aQ pg 57 [.yl 4,.pf (zBa l)] (zDi l lv) [] (.tu []) (zAM l lv):=kB (fn:=Tryz.f57) (callf:=base) (pu:=c7) (lf:=3000) (l:=[(0,qe l lv)]) (t:=(.r [bT]<|.no .nil)) aC mixed Tryz.func57 oab (show Tryz.f57.body=some (aG 57) by kernel_rfl) (nbl rfl) (bc (l:=[(0,qe l lv)]) mN (aE (GK l lv lb fe) rfl aP) rfl) (nbl rfl) rfl oaC rfl (bq (an a0<|an (kbT (qe l lv) trivial)<|an hl<|ofE (r:= .tu []) (rfl:((zAM l lv):lXE)=(zAM l lv))) oab)
abbrev zAQ:lXE:=[.box 3 (bg lv),.box 4 (az true),.box 38 (zBa l),.box 3 (bg (((gQ (length l)<|sn l lv)+1:Nat):Int)),lp5 l false (some .ret)]
theorem abj(lb:l.length<=9223372036854775800)(fe: ∀e∈l,j7 e)(hl:(oM l lv)=true):aQ pg 57 [.yl 4,.pf (zBa l)] (zDi l lv) [] (.tu []) (zAQ l lv):=kB (fn:=Tryz.f57) (callf:=base) (pu:=c7) (lf:=3000) (l:=[(0,qe l lv)]) (t:=(.r [bT]<|.yes .nil)) aC mixed Tryz.func57 oab (show Tryz.f57.body=some (aG 57) by kernel_rfl) (nbl rfl) (bc (l:=[(0,qe l lv)]) mN (aE (GK l lv lb fe) rfl aP) rfl) (nbl rfl) rfl oaC rfl (bq (an a0<|an (kbT (qe l lv) trivial)<|an hl<|ofE (r:= .tu []) (rfl:((zAQ l lv):lXE)=(zAQ l lv))) oab)
end
abbrev zAS(lv:Int):lXE:=[.box 3 (bg lv),.box 4 (az false),.box 38 [.v (.slice none 0 0)],.box 3 (bg 0),lp5 [] false none]
def abk(lv:Int):aQ pg 57 [.yl 4,.pf [.sl 10 []]] (zAS lv) [] (.tu []) (zAS lv):=kB (fn:=Tryz.f57) (callf:=base) (pu:=c7) (lf:=3000) (l:=[]) (t:=(.r [bT]<|.more zBP)) aC mixed Tryz.func57 oab (show Tryz.f57.body=some (aG 57) by kernel_rfl) (nbl rfl) (bt _) (nbl rfl) rfl oaC rfl (bq (an a0<|an (a1 a0)<|ofE (r:= .tu []) (rfl:((zAS lv):lXE)=(zAS lv))) oab)
def u8C(b:Int):lXF:=[.v (.int .u8 b)]
def Y7(b:Int):aq (u8C b)=true:=rfl
@[simp] theorem pr_u8(l:lXA):aM (l.map u8C)=true:=aW Y7 l
section
variable(s:ByteArray)
def cZ:lXA:=s.data.toList.map λb=>((b.toNat:Nat):Int)
def GL:List lXF:=s.data.toList.map λb=>[.v (.int .u8 b.toNat)]
theorem Eo:GL s=(cZ s).map u8C:=by simp[GL,cZ,u8C,Function.comp_def]
theorem j8:(cZ s).length=s.size:=by simp[cZ]
end
def afe(l:lXA):eu (l.map u8C)=true:=by simp only[eu,List.all_map,af2];intro x _;rfl
def apsA{k l n B:Nat}{new:List lXF}(ho:eu new=true)(h1:k<=l)(h2:(k+n)*B<=140737488355328)(h3:k+n<=9223372036854775807):((true&&true&&true&&Nat.ble k l)&&true&&(true&&true&&eu new&&Nat.ble ((k+n)*B) 140737488355328&&Nat.ble (k+n) 9223372036854775807&&true))=true:=by simp[Nat.ble_eq,h1,h2,h3,ho]
section
variable{l:lXA}{rows:List lXF}(k:Nat)
theorem aps(src:lXA)(B:Nat)(e:rows=l.map u8C)(h1:k<=l.length:=by first|omega|(simp only[afK,af3,afS,agh,afX,af6];omega))(hB:B≠0:=by decide)(h2:(k+src.length)*B<=140737488355328:=by first|omega|(simp only[afS,afX,af6];omega)):((true&&true&&true&&Nat.ble k rows.length)&&true&&(true&&true&&eu (src.map u8C)&&Nat.ble ((k+(src.map u8C).length)*B) 140737488355328&&Nat.ble (k+(src.map u8C).length) 9223372036854775807&&true))=true:=by
 refine apsA (afe src) (by rw[e,afK];exact h1) (by rw[afK];exact h2) ?_;rw[afK];rcases Nat.eq_zero_or_pos B with h|h
 ·subst h;exact absurd hB oaE
 ·exact agr (Nat.le_mul_of_pos_right _ h) (agr h2 oaE)
theorem apsS(s:ByteArray)(B:Nat)(e:rows=l.map u8C)(h1:k<=l.length:=by first|omega|(simp only[afK,af3,afS,agh,afX,af6];omega))(hB:B≠0:=by decide)(h2:(k+s.size)*B<=140737488355328:=by first|omega|(simp only[afS,afX,af6];omega)):((true&&true&&true&&Nat.ble k rows.length)&&true&&(true&&true&&eu (GL s)&&Nat.ble ((k+(GL s).length)*B) 140737488355328&&Nat.ble (k+(GL s).length) 9223372036854775807&&true))=true:=by rw[Eo];exact aps k (cZ s) B e h1 hB (by rw[j8];exact h2)
end
def apMF{f:Int->lXF}{l:lXA}{rows:List lXF}{k:Nat}(e:rows=l.map f)(hk:k=l.length)(s:lXA):rows.take k++s.map f=(l++s).map f:=by rw[e,agd (by rw[afK,hk];exact afG _),ag7]
def apNF{l:lXA}{rows:List lXF}{k:Nat}(e:rows=l.map u8C)(hk:k=l.length)(s:ByteArray):rows.take k++GL s=(l++cZ s).map u8C:=by rw[Eo];exact apMF e hk _
abbrev zx(l:lXA):lXE:=[.box 80 [.pt 0 0,.sr 1 1 0 (length l)],.row 5 1 (map u8C l)]
def Y8(l:lXA):aQ pg 71 [.pt 0 0] [.box 80 [.v (.pointer none),.sr 1 1 0 (length l)],.row 5 1 (map u8C l)] [] (.tu []) (zx l):=kB (fn:=Tryz.f71) (callf:=base) (pu:=c7) (lf:=3000) (l:=[]) (t:=(.r [.k,bT] zD)) aC mixed Tryz.func71 oab (show Tryz.f71.body=some (aG 71) by kernel_rfl) (nbl rfl) (bt _) (nbl rfl) rfl oaJ rfl (bq (an (a1 a0)<|an a0<|ofE (r:= .tu []) (rfl:((zx l):lXE)=(zx l))) oab)
def Y9(l:lXA):aQ pg 71 [.pt 0 0] (zx l) [] (.tu []) (zx l):=kB (fn:=Tryz.f71) (callf:=base) (pu:=c7) (lf:=3000) (l:=[]) (t:=(.r [.k,bT] zBP)) aC mixed Tryz.func71 oab (show Tryz.f71.body=some (aG 71) by kernel_rfl) (nbl rfl) (bt _) (nbl rfl) rfl oaJ rfl (bq (an (a1 a0)<|an (a1 a0)<|ofE (r:= .tu []) (rfl:((zx l):lXE)=(zx l))) oab)
def Adr(a:AV):Prop:=a= .v (.pointer none)\/a= .pt 0 0
def abl{a:AV}(ha:Adr a)(l:lXA):aQ pg 71 [.pt 0 0] [.box 80 [a,.sr 1 1 0 (length l)],.row 5 1 (map u8C l)] [] (.tu []) [.box 80 [.pt 0 0,.sr 1 1 0 (length l)],.row 5 1 (map u8C l)]:=by
 rcases ha with rfl|rfl
 ·exact Y8 l
 ·exact Y9 l
def i71(a:AV)(l:lXA):jn:=⟨71,[.pt 0 0],[.box 80 [a,.sr 1 1 0 (length l)],.row 5 1 (map u8C l)],.tu [],[.box 80 [.pt 0 0,.sr 1 1 0 (length l)],.row 5 1 (map u8C l)],Adr a⟩
def g71(a:AV)(l:lXA):(i71 a l).bu pg:=λhp=>fW rfl (abl hp l)
abbrev zDL(l:lXA)(s:ByteArray):lXF:=[.pt 0 0,.sr 2 1 0 (length l+length (GL s))]
def abm(a:AV)(l:lXA)(s:ByteArray)(ha:Adr a)(hb:l.length+s.size<=140737488355328):aQ pg 42 [.pt 0 0,S s] [.box 80 [a,.sr 1 1 0 (length l)],.row 5 1 (map u8C l)] [] (.tu [I (ByteArray.size s:Int),.v .nilIface]) [.box 80 (zDL l s),.dead,.row 5 1 (map u8C<|l++(cZ s))]:=kB (fn:=Tryz.f42) (callf:=(pR [i71 a l] base)) (pu:=c7) (lf:=3000) (l:=[]) (t:=(.r [bT]<|.r [.cq 0 [],bT]<|.r [bT] zD)) (lI (.cons (g71 a l) nB.nil) aC) mixed Tryz.func42 oab (show Tryz.f42.body=some (aG 42) by kernel_rfl) (nbl rfl) (bt _) (nbl rfl) rfl oaJ rfl (bq (an a0<|an (ac (qU (c:=i71 a l) ha rfl) a0)<|an (ac (apsS (length l) s 1<|rl u8C l) a0)<|an a0<|ofE (r:= .tu [I (ByteArray.size s:Int),.v .nilIface])<|bo (rfl:(.box 80 (zDL l s):Ob)= .box 80 (zDL l s))<|bo (rfl:(.dead:Ob)= .dead)<|bo (afQ (λz=>Ob.row 5 1 z)<|apNF (rl u8C l) (k:=length l) oae s) eC) oab)
def so(l:lXA):ByteArray:=⟨(l.map λz=>UInt8.ofNat z.toNat).toArray⟩
def GM: ∀{l:lXA},(∀z∈l,0<=z/\z<256)->Ha (l.map<|Value.int .u8)=some (l.map λz=>UInt8.ofNat z.toNat)
 |[],_=>rfl
 |z::l,h=>by
  obtain⟨k,rfl⟩: ∃k:Nat,z=k:=⟨z.toNat,by have:=h z oaf;omega⟩;have hk:k<256:=by have:=h k oaf;omega
  have ih:=GM λy hy=>h y (af9 _ hy);show cond (Nat.blt k 256) _ none=_;rw[show Nat.blt k 256=true from agt hk,ih];rfl
def O8(l:lXA):gb (l.map u8C).flatten=some (l.map<|Value.int .u8):=by
 induction l with
 |nil=>rfl
 |cons z l ih=>simp only[afZ,agw,u8C,List.singleton_append,gb]at ih⊢;rw[ih]
def ust43{l:lXA}(h0:0<l.length)(h1:l.length<=9223372036854775807)(hu: ∀z∈l,0<=z/\z<256):dec (UstP Tryz.prog 5 5 (length l) (map u8C l)<|l.map λz=>UInt8.ofNat z.toNat)=true:=aH.2 ⟨rfl,by kernel_rfl,by simp,h0,h1,by simp,_,by rw[agd oaf];exact O8 l,GM hu⟩
abbrev zDp(a:AV)(l:lXA):lXE:=[.box 80 [a,.sr 1 1 0 (length l)],.dead]
def Za(a:AV)(l:lXA)(hA:a.und 2=true)(hpos:0<l.length)(hmax:l.length<=9223372036854775807)(hu: ∀z∈l,0<=z/\z<256):aQ pg 43 [.pt 0 0] [.box 80 [a,.sr 1 1 0 (length l)],.row 5 1 (map u8C l)] [] (S<|so l) (zDp a l):=kB (fn:=Tryz.f43) (callf:=base) (pu:=c7) (lf:=3000) (l:=[]) (t:=(.r [bT]<|.r [.k,.str l,bT] .nil)) aC mixed Tryz.func43 oab (show Tryz.f43.body=some (aG 43) by kernel_rfl) (nbl rfl) (bt _) (nbl rfl) rfl (by simp[Ob.und,AV.und,bN,bw,bO,bA,hA]) rfl (bq (an a0<|an (ac (ust43 hpos hmax hu)<|ac (aH.2 hpos) a0)<|ofE (r:=S<|so l) (rfl:((zDp a l):lXE)=(zDp a l))) oab)
section
variable{P:Program}{n K:Nat}
theorem JA{c:Code}{L L' Ls Ls':Am.Loc}{A:lXE}{X X':Ob}{x:AX}(hs:lXC)(hK:K<=A.length)(hrf:c.rf=false)(hx:eA x=true)(hXd:X≠ .dead)(hXr: ∀f,X.ren f=X)(hXr': ∀f,X'.ren f=X')(hA:dW [A.length] (A++ [X])=A++ [X])(u: ∀t avs,lk Ls t=some avs->(hs.contains t=true/\ ∃av,lk L t=some av)\/(hs.contains t=false/\lk L t=some (avs.ren<|bU [A.length]<|A.length+1)))(u': ∀t av,lk L' t=some av->(hs.contains t=true/\lk L t=some av/\av.free [A.length]=true/\ ∃b,lk Ls' t=some b)\/(hs.contains t=false/\ ∃avs,lk Ls' t=some avs/\av=avs.ren (bU [A.length]<|A.length+1)))(h: ∀v:Nat->Value,Piece P n 0 c (fu hs v Ls) [X] x (fu hs v Ls') [X']):Piece P n K c L (A++ [X]) x L' (A++ [X']):=by
 intro df Q hd hq m γ w a hi hl hsz ht;have hlen:(A++ [X]).length=A.length+1:=by simp
 have hf0:bU [A.length] (A++ [X]).length 0=A.length:=rfl;refine xJ hd hrf hx hq hi hsz (sel:=[A.length]) (kk:=[0]) (obc:=[X]) (obc':=[X']) (K2:=0) (Ls:=fu hs (λt=>a.tmps.getD t undef) Ls) (Ls':=fu hs (λt=>a.tmps.getD t undef) Ls') oaf rfl (λi s Y h1 h2=> ?_) rfl oaf (λo h hk=> ?_) (λo ho=> ?_) (λt av e=> ?_) (h _) λm1 γ' w1 a1 g2 g3 g4 g5=>⟨?_,λt av e=> ?_⟩
 ·cases i with
  |zero=>simp only[agM,afD]at h1 h2;subst h1;subst h2;exact⟨by rw[hXr];simp,hXd⟩
  |succ i=>simp at h1
 ·have:o=0:=by simpa using h
  subst this;simp at hk
 ·simp only[afZ,agA,hf0];simp;omega
 ·rw[mv]at e;cases e1:lk Ls t with
  |none=>rw[e1]at e;cases e
  |some b=>
   rw[e1]at e;rcases u t _ e1 with⟨h3,av2,h4⟩|⟨h3,h4⟩
   ·obtain⟨q1,q2⟩:=hl t _ h4;rw[h3]at e;cases e;exact⟨q1,by simp[Rep]⟩
   ·obtain⟨q1,q2⟩:=hl t _ h4;rw[h3]at e;cases e;refine⟨q1,(dk b _).2 ?_⟩;rw[hlen];exact q2
 ·have e:back (A++ [X]) [A.length] [0] [X']=A++ [X']:=by simp only[back,afZ,agA,hf0,hA,afX,af6,List.take_succ_cons,List.take_zero,List.drop_succ_cons,List.drop_zero,hXr',gv];simp
  rw[e]at g4;exact g4
 ·rcases u' t av e with⟨h3,e2,hfr,b,e3⟩|⟨h3,avs,e2,rfl⟩
  ·obtain⟨p1,p2⟩:=g5 t (.v<|a.tmps.getD t undef) (by rw[mv,e3,h3];rfl);obtain⟨q1,q2⟩:=hl t av e2;refine⟨p1,?_⟩;have p3:a1.tmps.getD t undef=a.tmps.getD t undef:=by simpa [Rep]using p2
   rw[p3];exact fj g3 _ _ hfr q2
  ·obtain⟨p1,p2⟩:=g5 t avs (by rw[mv,e2,h3];rfl);refine⟨p1,?_⟩;have:=(dk (m:=m1) (γ:=γ') avs _).1 p2;rw[hlen]at this;exact this
end
def sv(s:ByteArray):Value:= .string s
def gS(G:List lXD):List (List Value):=G.map λl=>l.map sv
theorem GN(l:lXD):inner 9 (l.map sv)= .row 9 1 (l.map aU):=by unfold inner aL vs;rw[agK,agK];rfl
theorem Zb(G:List lXD):(gS G).length=G.length:=afK _
def aff{G:List lXD}{j:Nat}(hj:j<G.length):(gS G)[j]? =some ((ae G j).map sv):=by rw[gS,afM,eL hj];rfl
theorem afg(G:List lXD)(j:Nat)(l:lXD):(gS G).set j (l.map sv)=gS (G.set j l):=by rw[gS,gS,List.map_set]
theorem afh(N:Nat):gS (replicate N [])=replicate N []:=by simp[gS]
section
variable(j:Nat)(xs:List Value)(l:lXD)
abbrev GO:lXE:=[.row 22 1 (aL<|(vs xs).set j<|.sr 1 1 0 l.length),.row 9 1 (l.map aU)]
theorem ML:kg 0 22 9 j xs (l.map sv)=GO j xs l:=by unfold kg;rw[GN,afK]
end
def pinS{P:Program}{n:Nat}{c:Code}{L L':Am.Loc}{G:List lXD}{j:Nat}{R':lXD}{x:AX}(hj:j<G.length)(hrf:c.rf=false)(hx:eA x=true)(uL: ∀p∈L,p.2.und 1=true)(uL': ∀p∈L',p.2.und 1=true)(h: ∀xs:List Value,xs.length=G.length->Piece P n 1 c L (GO j xs<|ae G j) x L' (GO j xs R')):Piece P n 0 c L (cj 0 22 9<|gS G) x L' (cj 0 22 9<|gS<|G.set j R'):=by rw[<-afg];refine xB (base:=[]) (base':=[]) (aff hj) rfl (af7 _) hrf hx (af2.2 uL) (af2.2 uL') rfl rfl (λX h=>by simp at h) λxs hxs=> ?_;show Piece P n 1 c L (kg 0 22 9 j xs _) x L' (kg 0 22 9 j xs _);rw[ML,ML];exact h xs (by rw[hxs,Zb])
theorem Zc(G:List lXD):aL (ix<|gS G)=G.map λl=>[.sl 1 (l.map aU)]:=by unfold aL ix gS;rw[agK,agK];refine agB λl _=> ?_;simp only[Function.comp];have:=GN l;simp only[inner,Ob.row.injEq,true_and]at this;rw[this]
def yL(l:lXD):lXF:=[.sl 1 (l.map aU)]
def Zd{P:Program}{n id:Nat}{c:Code}{L Lx Lx2:Am.Loc}{N:Nat}{G:List lXD}(hp:Piece P n 0 (.block id<|.loop c) L (cj 0 22 9<|gS<|replicate N []) .normal Lx (cj 0 22 9<|gS G))(hL: ∀p∈Lx2,(lk Lx p.1=some p.2/\p.2.und 0=true)\/(lk Lx p.1=some (.sr 0 1 0 G.length)/\p.2= .sl 1 (G.map yL))):ca P n 0 id (.loop c) ⟨L,[.row 22 1 (replicate N [.v (.slice none 0 0)])],false,.ret,[],[],.normal,Lx2,[],True⟩:=by refine⟨λ_ e=>oao,λ_ _=> ?_⟩;show Piece P n 0 (.block id<|.loop c) L [.row 22 1 (replicate N [.v (.slice none 0 0)])] .normal Lx2 [];rw[rL];refine pI (xC (base:=[]) 9<|af7 _) ?_;rw[<-afh];refine eO (dF.refl _ _) hp (kA (base:=[]) (af7 _) rfl λt av e=> ?_) rfl;rw[Zc,Zb];exact hL _ (jf e)
section
variable(n:Net)(k:Nat)
noncomputable def fF:lXD:=aA ((k:Nat):Int)::(ae n.aa k).ah.map r40
noncomputable def kI:ByteArray:=dO (fF n k) ⟨⟨[32]⟩⟩
noncomputable def GP:Bool:=((k:Nat):Int)==(aB n.rules (ae n.aa k).aI).stop
noncomputable def pe(G:List lXD):List lXD:=bif GP n k then G else G.set (ae n.aa k).aI.toNat (ae G (ae n.aa k).aI.toNat++ [kI n k])
noncomputable def bZ:List lXD:=Nat.rec (motive:=λ_=>List<|lXD) (replicate (length<|map aw n.rules) []) (λk G=>pe n k G) k
end
theorem Ze{l:List lXD}{j:Nat}(h:l.length<=j):ae l j=[]:=by unfold ae;rw[af5 h];rfl
theorem dw(n:Net): ∀k,(bZ n k).length=n.rules.length/\ ∀l∈bZ n k,l.length<=k
 |0=>⟨by show(replicate _ _).length=_;simp,λl h=>by have h:l∈replicate _ _:=h;rw[(List.mem_replicate.1 h).2];exact afG _⟩
 |k+1=>by
  obtain⟨h1,h2⟩:=dw n k;show(pe n k<|bZ n k).length=_/\ ∀l∈pe n k (bZ n k),_;unfold pe;cases GP n k with
  |true=>exact⟨h1,λl hl=>Nat.le_succ_of_le (h2 l hl)⟩
  |false=>
   refine⟨by simp only[afY,af3];exact h1,λl hl=> ?_⟩;simp only[afY]at hl;rcases agV hl with h|rfl
   ·exact Nat.le_succ_of_le (h2 l h)
   ·simp only[afS,afX,af6];by_cases hj:(ae n.aa k).aI.toNat<(bZ n k).length
    ·have:=h2 _ (ai hj);omega
    ·rw[Ze (Nat.not_lt.1 hj)];simp
def Zf{e:Edge}(fo:OkE e):(r40 e).size<=60000100:=by have h:=ab9 fo;have z1:=bj fo.to;have z2:=bj fo.n;have z3:=bj fo.level;have l:=fo.len;unfold r40;generalize(Edge.op e==1)=b1;generalize(Edge.op e==2)=b2;generalize(Edge.op e==3)=b3;generalize(Edge.op e==4)=b4;generalize(Edge.op e==5)=b5;generalize(Edge.op e==6)=b6;generalize(Edge.op e==7)=b7;cases b1<;>cases b2<;>cases b3<;>cases b4<;>cases b5<;>cases b6<;>cases b7<;>simp only[afN,afY,agf,lJ,afX,af6]<;>omega
def yM{n:Net}(ok:OkN n){k:Nat}(hk:k<n.aa.length):(∀x∈fF n k,x.size<=60000100)/\(fF n k).length<=1201:=by
 have hs:=ok.aa;have he:=ok.ah _ (ai hk);refine⟨λx hx=> ?_,by simp only[fF,afX,afK];omega⟩;rcases agc.1 hx with rfl|hx
 ·have:=bj (x:=((k:Nat):Int)) ⟨by omega,by omega⟩;omega
 ·obtain⟨e,he,rfl⟩:=agl.1 hx;exact Zf (ok.nE _ (ai hk) _ he)
def BP{n:Net}(ok:OkN n){k:Nat}(hk:k<n.aa.length):(kI n k).data.size<=72100000000:=by obtain⟨h1,h2⟩:=yM ok hk;have h:=sW (sep:=⟨⟨[32]⟩⟩) h1;rw[show(⟨⟨[32]⟩⟩:ByteArray).size=1 from rfl]at h;have:(fF n k).length*(60000100+1)<=1201*(60000100+1):=agu _ h2;show(dO _ _).data.size<=_;omega
def i40(e:Edge):bC:=⟨40,[.pf (aD e)],S (r40 e),OkE e⟩
def g40(e:Edge):(i40 e).bu pg:=bI λhp=>ady e hp
def iz:Code:=bn 0 (aG 17)
theorem Zg:iz= .seq (sq1 iz) (.seq (sq1<|sq2 iz)<|.seq (.block 1<|.seq (sq1<|mQ<|sq1<|sq2<|sq2 iz)<|.seq (sq1<|sq2<|mQ<|sq1<|sq2<|sq2 iz)<|sq2<|sq2<|mQ<|sq1<|sq2<|sq2 iz)<|sq2<|sq2<|sq2 iz):=by kernel_rfl
abbrev zU(i0:Nat)(n:Net):Am.Loc:=[(1,.pf (aY n)),(3,.sr 0 1 0 (length<|zE n)),(21,.sl 2 (zA n)),(22,I (length (zA n):Int)),(23,I (i0:Int))]
abbrev zBY(i0:Nat)(n:Net):Am.Loc:=[(1,.pf (aY n)),(3,.sr 0 1 0 (length<|zE n)),(21,.sl 2 (zA n)),(22,I (length (zA n):Int)),(23,I (i0:Int)),(24,B (zDa i0 n))]
def p17A(n:Net)(i0:Nat)(ok:OkN n)(hx0:i0<length n.aa)(ob:lXE):Piece pg 111 0 (sq1 iz) (zU i0 n) ob .normal (zBY i0 n) ob:=bz [3] oab rfl oad oac λv=>pvB zBQ [] 0 λz=>(an (a1 a0) z)
def p17C(n:Net)(i0:Nat)(ok:OkN n)(hx0:i0<length n.aa)(ob:lXE):Piece pg 111 0 (sq1<|sq2 iz) (zBY i0 n) ob .normal (zU i0 n) ob:=bz [3] oab rfl oad oac λv=>pvB (.yes<|.pick 0) [] 0 λz=>have okr:=ok.rules;have oks:=ok.aa;have l1:=aF aj (n.aa);have hb:(zq i0 n)=true:=afH oaa;(an hb z)
abbrev zR(i0:Nat)(n:Net):Am.Loc:=[(1,.pf (aY n)),(3,.sr 0 1 0 (length<|zE n)),(4,I (i0:Int)),(5,.pf (zh i0 n)),(21,.sl 2 (zA n)),(22,I (length (zA n):Int)),(23,I (i0:Int))]
abbrev zBb(i0:Nat)(n:Net):Am.Loc:=[(1,.pf (aY n)),(3,.sr 0 1 0 (length<|map aw n.rules)),(21,.sl 2 (map aj n.aa)),(22,I (length (map aj n.aa):Int)),(23,I (i0:Int))]
abbrev zCO:=(mQ<|sq1<|sq2<|sq2 iz)
def p17D(n:Net)(i0:Nat)(ok:OkN n)(hx0:i0<length n.aa)(ob:lXE):Piece pg 111 0 (sq1 zCO) (zU i0 n) ob .normal (zR i0 n) ob:=bz [3] oab rfl oad oac λv=>eO (L:=fu [3] v<|zBb i0 n) (x:= .normal) (L1:=fu [3] v [(1,.pf (aY n)),(3,.sr 0 1 0 (length<|map aw n.rules)),(4,I (i0:Int)),(5,.pt 0 0),(21,.sl 2 (map aj n.aa)),(22,I (length (map aj n.aa):Int)),(23,I (i0:Int))]) (ob1:=[.box 40 (aj<|ae n.aa i0)]) (dF.refl _ _) (pvB (.r (zCo i0 n)<|.pick 0) [0] 1 λz=>have okr:=ok.rules;have oks:=ok.aa;(an (ac (rwa aj n.aa i0) a0) z)) (oE (ob:=[]) (Tb:=40) (cells:=(aj<|ae n.aa i0)) (af7 _) (L':=fu [3] v [(1,.pf (aY n)),(3,.sr 0 1 0 (length<|map aw n.rules)),(4,I (i0:Int)),(5,.pf (aj<|ae n.aa i0)),(21,.sl 2 (map aj n.aa)),(22,I (length (map aj n.aa):Int)),(23,I (i0:Int))]) oaj rfl) rfl
abbrev zCB(i0:Nat)(n:Net):=((i0:Int)==(aB n.rules (ae n.aa i0).aI).stop)
abbrev zDR(i0:Nat)(n:Net):List Gi:=[.cq ((ae n.aa i0).aI).toNat (aw<|aB n.rules (ae n.aa i0).aI),.k,bT]
section
variable(n:Net)
def p17E1(i0:Nat)(ok:OkN n)(hx0:i0<length n.aa)(hk:(zCB i0 n)=true)(ob:lXE):Piece pg 111 0 (sq1<|sq2 zCO) (zR i0 n) ob (.exit 1) (zU i0 n) ob:=bz [3] oab rfl oad oac λv=>pvB (.r (zDR i0 n)<|.yes<|.pick 0) [] 0 λz=>have okr:=ok.rules;have oks:=ok.aa;have hown:=ok.own _ (ai hx0);have hb:=hk;(have l1:=aF aw (n.rules);an (a1<|ac (rwz aw n.rules (ae n.aa i0).aI) a0)<|an hb z)
def p17E0(i0:Nat)(ok:OkN n)(hx0:i0<length n.aa)(hk:(zCB i0 n)=false)(ob:lXE):Piece pg 111 0 (sq1<|sq2 zCO) (zR i0 n) ob .normal (zR i0 n) ob:=bz [3] oab rfl oad oac λv=>pvB (.r (zDR i0 n)<|.no<|.pick 0) [] 0 λz=>have okr:=ok.rules;have oks:=ok.aa;have hown:=ok.own _ (ai hx0);have hb:=hk;(have l1:=aF aw (n.rules);an (a1<|ac (rwz aw n.rules (ae n.aa i0).aI) a0)<|an hb z)
def p17N(i0:Nat)(ok:OkN n)(hx0:i0<length n.aa)(ob:lXE):Piece pg 111 0 (sq2<|sq2<|sq2 iz) (zU i0 n) ob .normal [(1,.pf (aY n)),(3,.sr 0 1 0 (length<|zE n)),(21,.sl 2 (zA n)),(22,I (length (zA n):Int)),(23,I ↑(i0+1))] ob:=bz [3] oab rfl oad oac λv=>pvB (zc i0) [] 0 λz=>have okr:=ok.rules;have oks:=ok.aa;(an (ac (dwo ((i0+1:Nat):Int)) a0) z)
abbrev zAP:Am.Loc:=[(1,.pf (aY n)),(3,.sr 0 1 0 (length<|zE n)),(21,.sl 2 (zA n)),(22,I (length (zA n):Int)),(23,I ((zAp n):Int))]
abbrev zBp:Am.Loc:=[(1,.pf (aY n)),(3,.sr 0 1 0 (length<|zE n)),(21,.sl 2 (zA n)),(22,I (length (zA n):Int)),(23,I ((zAp n):Int)),(24,B (zg n))]
def p17Y(ok:OkN n)(ob:lXE):Piece pg 111 0 (sq1 iz) (zAP n) ob .normal (zBp n) ob:=bz [3] oab rfl oad oac λv=>pvB zBQ [] 0 λz=>(an (a1 a0) z)
def p17Z(ok:OkN n)(ob:lXE):Piece pg 111 0 (sq1<|sq2 iz) (zBp n) ob (.exit 0) (zAP n) ob:=bz [3] oab rfl oad oac λv=>pvB (.no<|.pick 0) [] 0 λz=>have okr:=ok.rules;have oks:=ok.aa;have l1:=aF aj (n.aa);have hb:(zQ n)=false:=afI oaa;(an hb z)
end
section
variable(j:Nat)(xs:List Value)(l ws:lXD)
def e41:kz:=⟨41,[.sr 2 1 0 (length ws),S ⟨⟨[32]⟩⟩],GO j xs l++ [.row 9 1 (map aU ws)],S (dO ws ⟨⟨[32]⟩⟩),(dO ws ⟨⟨[32]⟩⟩).data.size<=140737488355328/\ws.length<=140737488355328⟩
def q41:(e41 j xs l ws).bu pg:=λhp=>fW rfl (Kb ws _ rfl hp.1 hp.2)
end
def Zh:Code:=bn 2 (sq2<|sq2<|mQ<|sq1<|sq2<|sq2 iz)
def JB(n:Net)(i0:Nat)(v:Nat->Value)(i2:Nat)(y2:Nat×(lXD)):Nat×(lXD):=(y2.1+1,List.take y2.1 y2.2++ [(r40<|ae (ae n.aa i0).ah i2)])
def et(n:Net)(i0:Nat)(v:Nat->Value)(kk:Nat):Nat×(lXD):=Nat.rec (motive:=λ_=>Nat×(lXD)) (1,[(aA (i0:Int))]) (λj a=>JB n i0 v j a) kk
theorem tD(n:Net)(i0:Nat)(v:Nat->Value): ∀k,k<=(ae n.aa i0).ah.length->et n i0 v k=(k+1,aA (i0:Int)::((ae n.aa i0).ah.take k).map r40)
 |0,_=>rfl
 |k+1,h=>by show JB n i0 v k (et n i0 v k)=_;rw[tD n i0 v k oaa];unfold JB;simp only[afW,true_and];rw[show(ae n.aa i0).ah.take (k+1)=_ from fg oaa,agd (by simp only[afX,afK,agh];omega)];simp
section
variable(n:Net)(i0:Nat)(v:Nat->Value)
theorem JC(k:Nat)(h:k<=(ae n.aa i0).ah.length):(et n i0 v k).1=k+1/\(et n i0 v k).2.length=k+1:=by rw[tD n i0 v k h];simp only[afX,afK,agh,true_and];omega
abbrev Ep(i2:Nat)(y2:Nat×(lXD)):Am.Loc:=[(1,.pf (aY n)),(3,.v (v 3)),(5,.pf (zh i0 n)),(6,.sr 0 1 0 y2.1),(21,.sl 2 (zA n)),(22,I (length (zA n):Int)),(23,I (i0:Int)),(42,I (length (zp i0 n):Int)),(43,I (i2:Int))]
end
abbrev Er(n:Net)(i0:Nat)(v:Nat->Value)(i2:Nat)(y2:Nat×(lXD)):lXE:=[.row 9 1 (map aU y2.2)]
section
variable(n:Net)(i0:Nat)(v:Nat->Value)
abbrev Zi(i2:Nat):Am.Loc:=Ep n i0 v i2 (et n i0 v i2)
abbrev Zj(i2:Nat):lXE:=Er n i0 v i2 (et n i0 v i2)
abbrev JD:Am.Loc:=[(1,.pf (aY n)),(3,.v (v 3)),(5,.pf (zh i0 n)),(6,.sr 0 1 0 ((et n i0 v<|length<|zG i0 n).1)),(21,.sl 2 (zA n)),(22,I (length (zA n):Int)),(23,I (i0:Int))]
abbrev JE:lXE:=[.row 9 1 (map aU<|(et n i0 v<|length<|zG i0 n).2)]
def Zk:KB:=noK 2 (Zi n i0 v) (Zj n i0 v) (.exit 2) (JD n i0 v) (JE n i0 v) (True)
abbrev acX(i2:Nat):List bG:=[nxW (false) (Zi n i0 v<|i2+1) (Zj n i0 v<|i2+1) (Ep n i0 v (i2+1) ((et n i0 v i2).1+1,List.take ((et n i0 v i2).1) ((et n i0 v i2).2)++ [(r40<|zAr i0 i2 n)])) [1] (Er n i0 v (i2+1) ((et n i0 v i2).1+1,List.take ((et n i0 v i2).1) ((et n i0 v i2).2)++ [(r40<|zAr i0 i2 n)]))]
def Zl(ok:OkN n)(hx0:i0<length n.aa):ca pg 111 0 2 (.loop Zh) (Zk n i0 v):=
 noB (acX n i0 v) (λi2=>(.r [.k,bT]<|.yes<|.r [bT]<|.r [.row (aD<|ae (ae n.aa i0).ah i2),.int 0,bT]<|.r (zb i2)<|.pick 0)) (range 1) zF (length (ae n.aa i0).ah)
 (λ_ i2(hx2:i2<(length (ae n.aa i0).ah))=>have okr:=ok.rules;have oks:=ok.aa;have hown:=ok.own _ (ai hx0);have oke:=ok.ah _ (ai hx0);have za2:=JC n i0 v i2 oaa;have l1:=aF aD ((ae n.aa i0).ah);have hb:(zAe i0 i2 n)=true:=afH oaa;
 bq (an (a1 a0)<|an hb<|an a0<|an (ac (apo ((et n i0 v i2).1) 16<|rl aU<|(et n i0 v i2).2)<|cA (g40<|ae (ae n.aa i0).ah i2) (ok.nE _ (ai oaa) _<|ai oaa)<|ac (rwa aD (ae n.aa i0).ah i2) a0)<|an (ac (dwo ((i2+1:Nat):Int)) a0)<|lfE (wy (acX n i0 v i2) 0) 2 (nxP (Ep n i0 v<|i2+1) (Er n i0 v<|i2+1) rfl<|show et n i0 v (i2+1)=((et n i0 v i2).1+1,List.take ((et n i0 v i2).1) ((et n i0 v i2).2)++ [(r40<|ae (ae n.aa i0).ah i2)])from rfl)<|bo (afQ (λz=>Ob.row 9 1 z)<|apT (f:=aU) (rl aU<|(et n i0 v i2).2) ((et n i0 v i2).1)<|r40<|ae (ae n.aa i0).ah i2) eC)
 oab)
 (λ_=>have okr:=ok.rules;have oks:=ok.aa;have hown:=ok.own _ (ai hx0);have oke:=ok.ah _ (ai hx0);have l1:=aF aD ((ae n.aa i0).ah);have hb:(zl i0 n)=false:=afI oaa;
 bq (an (a1 a0)<|an hb<|lx (.exit 2) (JD n i0 v) (range 1) (JE n i0 v) 1)
 oab) (hc:=λ_ i2 hx2=>(aK (.cons (g40<|ae (ae n.aa i0).ah i2) rfl bB.nil) aC))
theorem JF:(et n i0 v<|length (ae n.aa i0).ah)=((fF n i0).length,fF n i0):=by rw[tD n i0 v _ (afG _),agv];simp[fF]
end
abbrev zCN(l:lXD):AV:=(.sr 1 1 0<|length l)
def kw17(n:Net)(i0:Nat)(xs:List Value)(l:lXD):KB:=⟨[(1,.pf (aY n)),(3,.sr 0 1 0 (length<|zE n)),(5,.pf (zh i0 n)),(6,.sr 2 1 0 1),(21,.sl 2 (zA n)),(22,I (length (zA n):Int)),(23,I (i0:Int)),(42,I (length (zp i0 n):Int)),(43,I 0)],[.row 22 1 (aL<|List.set (vs xs) (zd i0 n)<|zCN l),.row 9 1 (zCc l),.row 9 1 [(aU<|aA (i0:Int))]],false,.ret,[],[],.normal,[(1,.pf (aY n)),(3,.sr 0 1 0 (length<|zE n)),(5,.pf (zh i0 n)),(6,.sr 2 1 0 ((fF n i0).length)),(21,.sl 2 (zA n)),(22,I (length (zA n):Int)),(23,I (i0:Int))],[.row 22 1 (aL<|List.set (vs xs) (zd i0 n)<|zCN l),.row 9 1 (zCc l),.row 9 1 (map aU<|fF n i0)],True⟩
theorem Zm(xs:List Value)(j k:Nat):(aL<|(vs xs).set j<|.sr 1 1 0 k).map (λr=>r.map<|e8 [2])=aL ((vs xs).set j<|.sr 1 1 0 k):=by
 unfold aL;rw[agK];refine agB λc hc=> ?_;rcases agV hc with h|rfl
 ·obtain⟨x,_,rfl⟩:=agl.1 h;rfl
 ·rfl
theorem GQ(l:lXD):(l.map aU).map (λr=>r.map<|e8 [2])=l.map aU:=by rw[agK];exact agB λ_ _=>rfl
section
variable(n:Net)(i0:Nat)(xs:List Value)(l:lXD)
theorem kbw17(ok:OkN n)(hx0:i0<length n.aa):ca pg 111 1 2 (.loop Zh) (kw17 n i0 xs l):=by
 refine⟨λ_ e=>oao,λ_ _=> ?_⟩;refine JA (A:=[.row 22 1 (aL<|List.set (vs xs) (((ae n.aa i0).aI).toNat)<|.sr 1 1 0<|length l),.row 9 1 (map aU l)]) (X:= .row 9 1<|map aU [(aA (i0:Int))]) (X':= .row 9 1<|map aU<|fF n i0) (Ls:=[(1,.pf (aY n)),(3,.sr 0 1 0 (length<|map aw n.rules)),(5,.pf (aj<|ae n.aa i0)),(6,.sr 0 1 0 1),(21,.sl 2 (map aj n.aa)),(22,I (length (map aj n.aa):Int)),(23,I (i0:Int)),(42,I (length (map aD (ae n.aa i0).ah):Int)),(43,I 0)]) (Ls':=[(1,.pf (aY n)),(3,.sr 0 1 0 (length<|map aw n.rules)),(5,.pf (aj<|ae n.aa i0)),(6,.sr 0 1 0 ((fF n i0).length)),(21,.sl 2 (map aj n.aa)),(22,I (length (map aj n.aa):Int)),(23,I (i0:Int))]) [3] (show 1<=2 by decide) oab rfl oaf (λg=>cQ oaf) (λg=>cQ oaf) (by
  show [Ob.row 22 1 (map (λr=>map (e8 [2]) r) _),Ob.row 9 1 (map (λr=>map (e8 [2]) r) _),Ob.row 9 1 (map (λr=>map (e8 [2]) r) _)]=_;rw[Zm,GQ,GQ];rfl) (λt a e=>by
  have e:=jf e;simp only[agc,afW,agI,or_false]at e;rcases e with⟨rfl,rfl⟩|⟨rfl,rfl⟩|⟨rfl,rfl⟩|⟨rfl,rfl⟩|⟨rfl,rfl⟩|⟨rfl,rfl⟩|⟨rfl,rfl⟩|⟨rfl,rfl⟩|⟨rfl,rfl⟩
  ·exact(.inr ⟨rfl,by rw[cR _ _ oaf];rfl⟩)
  ·exact(.inl ⟨rfl,_,rfl⟩)
  ·exact(.inr ⟨rfl,by rw[cR _ _ oaf];rfl⟩)
  ·exact(.inr ⟨rfl,rfl⟩)
  ·exact(.inr ⟨rfl,by rw[cR _ _ oaf];rfl⟩)
  ·exact(.inr ⟨rfl,by rw[cR _ _ oaf];rfl⟩)
  ·exact(.inr ⟨rfl,by rw[cR _ _ oaf];rfl⟩)
  ·exact(.inr ⟨rfl,by rw[cR _ _ oaf];rfl⟩)
  ·exact(.inr ⟨rfl,by rw[cR _ _ oaf];rfl⟩)) (λt a e=>by
  have e:(t,a)∈([(1,.pf (aY n)),(3,.sr 0 1 0 (length<|map aw n.rules)),(5,.pf (aj<|ae n.aa i0)),(6,.sr 2 1 0 ((fF n i0).length)),(21,.sl 2 (map aj n.aa)),(22,I (length (map aj n.aa):Int)),(23,I (i0:Int))]:Am.Loc):=jf e;simp only[agc,afW,agI,or_false]at e;rcases e with⟨rfl,rfl⟩|⟨rfl,rfl⟩|⟨rfl,rfl⟩|⟨rfl,rfl⟩|⟨rfl,rfl⟩|⟨rfl,rfl⟩|⟨rfl,rfl⟩
  ·exact(.inr ⟨rfl,_,rfl,(cR _ _ oaf).symm⟩)
  ·exact(.inl ⟨rfl,rfl,rfl,_,rfl⟩)
  ·exact(.inr ⟨rfl,_,rfl,(cR _ _ oaf).symm⟩)
  ·exact(.inr ⟨rfl,_,rfl,rfl⟩)
  ·exact(.inr ⟨rfl,_,rfl,(cR _ _ oaf).symm⟩)
  ·exact(.inr ⟨rfl,_,rfl,(cR _ _ oaf).symm⟩)
  ·exact(.inr ⟨rfl,_,rfl,(cR _ _ oaf).symm⟩)) λv=> ?_
 have k:=(Zl n i0 v ok hx0).2 trivial rfl;have e:=JF n i0 v;simp only[Zk,noK,Zi,Zj,JD,JE,Ep,Er,e]at k;exact k
def Zn:gy:=⟨True,.normal,(zU i0 n),[0,3],4,GO ((zCe i0 n)).toNat xs (l++ [(kI n i0)]),[.row 22 1 (aL<|List.set (vs xs) ((zCe i0 n)).toNat<|.sr 3 1 0<|length<|l++ [(kI n i0)]),.row 9 1 (map aU<|l++ [(kI n i0)])]⟩
theorem vrX17(ok:OkN n)(hx0:i0<length n.aa)(hk:(zCB i0 n)=false)(hl1:length xs=length n.rules)(hr1:length l<=i0):vcC pg 111 (sP [e41 ((zCe i0 n)).toNat xs l (fF n i0)]<|kP [i39 (i0:Int)] base) c7 3000 (kbL [(2,kw17 n i0 xs l)]) (sq2<|sq2 zCO) (dX<|zR i0 n) (dq<|GO ((zCe i0 n)).toNat xs l) 2 (NR [Zn n i0 xs l]) (.r [.int 0,bT]<|.r [bT]<|.no<|.r [.cq (zd i0 n) [],.at (zd i0 n) 0 [.sr 1 1 0 (length l)],.cq 0 [],.cq (zd i0 n) [],.at (zd i0 n) 0 [.sr 1 1 0 (length l)],bT]<|.pick 0):=
 have okr:=ok.rules;have oks:=ok.aa;have hown:=ok.own _ (ai hx0);have lz:=aF aw n.rules;bq (an (cA (g39 (i0:Int)) ⟨by omega,by omega⟩ a0)<|an a0<|an (kbT (kw17 n i0 xs l) trivial)<|an (rfl:false=false)<|an (ac (stN (rfl:(aL<|List.set (vs xs) (((ae n.aa i0).aI).toNat)<|zCN l)=(aL<|List.set (vs xs) (((ae n.aa i0).aI).toNat)<|zCN l)) oaa)<|ac (ixI (x:=(ae n.aa i0).aI) (n:=length<|map aw n.rules) oaa oaa)<|ac (apo (length l) 16<|rl aU l)<|ac (qE (c:=e41 ((ae n.aa i0).aI).toNat xs l<|fF n i0) ⟨by have:=BP ok hx0;exact agr this oaE,by have:=(yM ok hx0).2;omega⟩ rfl)<|ac (atN (rfl:(aL<|List.set (vs xs) (((ae n.aa i0).aI).toNat)<|zCN l)=(aL<|List.set (vs xs) (((ae n.aa i0).aI).toNat)<|zCN l)) oaa)<|ac (ixI (x:=(ae n.aa i0).aI) (n:=length<|map aw n.rules) oaa oaa) a0)<|lfN (Zn n i0 xs l) trivial<|bo ((afQ (λz=>Ob.row 22 1 z)<|nA (rfl:(aL<|List.set (vs xs) (((ae n.aa i0).aI).toNat)<|zCN l)=(aL<|List.set (vs xs) (((ae n.aa i0).aI).toNat)<|zCN l))<|.sr 3 1 0<|length l+1).trans<|afQ (λz=>Ob.row 22 1<|aL<|List.set (vs xs) ((ae n.aa i0).aI).toNat<|.sr 3 1 0 z) (by simp:length l+1=length (l++ [kI n i0])))<|bo (afQ (λz=>Ob.row 9 1 z) (by rw[agd oaf];simp[kI]:List.take (length l) (map aU l)++ [aU (dO (fF n i0) ⟨⟨[32]⟩⟩)]=map aU (l++ [kI n i0]))) eC)
 oab
end
def iu:cy [2] (sq2<|sq2<|mQ<|sq1<|sq2<|sq2 iz)=[(2,.loop Zh)]:=by kernel_rfl
section
variable(n:Net)
theorem prX17(i0:Nat)(xs:List Value)(l:lXD)(ok:OkN n)(hx0:i0<length n.aa)(hk:(zCB i0 n)=false)(hl1:length xs=length n.rules)(hr1:length l<=i0):Piece pg 111 1 (sq2<|sq2 zCO) (zR i0 n) (GO ((zCe i0 n)).toNat xs l) .normal (zU i0 n) (GO ((zCe i0 n)).toNat xs<|l++ [(kI n i0)]):=CI (gw (oD (.cons (q41 ((ae n.aa i0).aI).toNat xs l<|fF n i0) o7.nil)<|aK (.cons (g39 (i0:Int)) rfl bB.nil) aC) mixed<|bc (l:=[(2,kw17 n i0 xs l)]) iu (aE (kbw17 n i0 xs l ok hx0) rfl aP) rfl) (vrX17 n i0 xs l ok hx0 hk hl1 hr1) (dR (o:=Zn n i0 xs l) (mH rfl rfl rfl (by simp[Zn,plS,AV.pure,aq,aM])<|bo (ew (f:=bU [0,3] 4) (o:=1) (q:=3) rfl).symm<|bo (cQ oaf).symm eC) oF) (NQ (o:=Zn n i0 xs l) (λ_=>⟨rfl,rfl,rfl⟩) QE)
abbrev zAX:=(bZ n<|length n.aa)
abbrev zCQ:Am.Loc:=[(1,.pf (aY n)),(3,.sr 0 1 0 (length<|zE n)),(21,.sl 2 (zA n)),(22,I (length (zA n):Int)),(23,I 0)]
theorem abn(ok:OkN n):Piece pg 111 0 (.block 0<|.loop iz) (zCQ n) (cj 0 22 9<|gS<|replicate (length<|zE n) []) .normal (zAP n) (cj 0 22 9<|gS<|zAX n):=by
 rw[Zg];refine pJ (λi0=>((zBb i0 n):Am.Loc)) (λi=>cj 0 22 9<|gS<|bZ n i) (λi=>i<=n.aa.length) (λi=>n.aa.length-i) 0 (af7 _) λi hi=> ?_;by_cases hx:i<n.aa.length
 ·refine .inl ⟨i+1,by omega,by omega,cI (p17A n i ok hx _) (cI (p17C n i ok hx _)<|cI ?_ (p17N n i ok hx _))⟩;show Piece _ _ _ _ _ _ _ _ (cj 0 22 9<|gS<|pe n i<|bZ n i);have hown:=ok.own _ (ai hx);unfold pe GP;cases hk:(((i:Nat):Int)==(aB n.rules (ae n.aa i).aI).stop)
  ·have hj:(ae n.aa i).aI.toNat<(bZ n i).length:=by rw[(dw n i).1];omega
   exact ku (cI (p17D n i ok hx _)<|cI (p17E0 n i ok hx hk _)<|pinS hj oab rfl oaK oaK λxs hxs=>prX17 n i xs _ ok hx hk (by rw[hxs,(dw n i).1])<|(dw n i).2 _<|ai hj)
  ·exact qP (cI (p17D n i ok hx _)<|iI (p17E1 n i ok hx hk _) oaf)
 ·obtain rfl:i=n.aa.length:=by omega
  exact .inr (cI (p17Y n ok _)<|iI (p17Z n ok _) oaf)
theorem O9(ok:OkN n):ca pg 111 0 0 (.loop iz) ⟨[(1,.pf (aY n)),(3,.sr 0 1 0 (length<|map aw n.rules)),(21,.sl 2 (map aj n.aa)),(22,I (length (map aj n.aa):Int)),(23,I 0)],[.row 22 1 (replicate (length<|map aw n.rules) [.v (.slice none 0 0)])],false,.ret,[],[],.normal,[(1,.pf (aY n)),(3,.sl 1 (map yL<|bZ n<|length n.aa))],[],True⟩:=Zd (abn n ok) (mqc (.inl ⟨rfl,aR 0 _ oaf⟩)<|mqc (.inr ⟨by rw[(dw n<|length n.aa).1,<-aF aw n.rules];rfl,rfl⟩) ba)
end
end Go.Proofs.YtfkjfjalecikkaaGreatDoor
namespace Go.Am
section
variable{P:Program}{n K:Nat}
end
section
variable{P:Program}{n K:Nat}
end
structure lV where
 f:FuncId
 args:lXF
 ob0:lXE
 r:AV
 ob1:lXE
 p:Prop
 lo:Nat
def lV.bu(P:Program)(c:lV):Prop:=c.p->ly P c.f c.args c.ob0 c.r c.ob1/\ ∀i,tb c.lo i=false->c.ob1[i]? =c.ob0[i]?
noncomputable def tE(T:List lV)(callf:cd):cd:=λf args O N tm=>match tm.gd with
 | .cq i _::g=>match T[i]? with
  |some c=>cond (Nat.beq f c.f) (.ret c.r (dq c.ob1) c.ob1.length<|((tm.at N).told g<|dec c.p&&dec (args=c.args/\oW O N 0=c.ob0)).low c.lo) (callf f args O N tm)
  |none=>callf f args O N tm
 |_=>callf f args O N tm
inductive ph(P:Program):List lV->Prop
 |nil:ph P []
 |cons {c:lV} {T:List lV} (h:c.bu P) (t:ph P T):ph P (c::T)
section
variable{P:Program}
theorem ph.get: ∀{T:List lV},ph P T-> ∀{i:Nat}{c:lV},T[i]? =some c->c.bu P
 |[],_,i,c,h=>by simp at h
 |d::T,.cons h t,i,c,e=>by
  cases i with
  |zero=>simp at e;subst e;exact h
  |succ i=>exact t.get oaO
theorem oN{T:List lV}{callf:cd}(h:ph P T)(hcf:b0 P callf):b0 P (tE T callf):=λf args O N tm=>by
 unfold tE;split
 ·rename_i i r g hg;split
  ·rename_i c hc;cases hf:Nat.beq f c.f with
   |false=>exact hcf f args O N tm
   |true=>have:=afJ hf;subst this;simp only[afN];refine⟨λr' O1 N1 t1 e=> ?_,λav O1 N1 t1 e=>by cases e⟩;cases e;refine⟨⟨[_],rfl⟩,λhok ob hO=> ?_⟩;simp only[TM.told,TM.at,TM.low,cr,afv]at hok;obtain⟨k,kl⟩:=(h.get hc) (aH.1 hok.1.1);obtain⟨k1,k2⟩:=aH.1 hok.1.2;rw[nr hO]at k2;subst k1;subst k2;refine⟨c.ob1,en _,k,λi hi=> ?_⟩;simp only[TM.told,TM.at,TM.low]at hi;rw[lY,afU]at hi;rw[(en c.ob1).2 i,hO.2 i];exact kl i hi.2
  ·exact hcf f args O N tm
 ·exact hcf f args O N tm
theorem qW{c:lV}(hp:c.p){ob:lXE}(e:ob=c.ob0):(dec c.p&&dec (c.args=c.args/\ob=c.ob0))=true:=by rw[aH.2 hp,aH.2 ⟨rfl,e⟩];rfl
end
end Go.Am
namespace Go.Proofs.YtfkjfjalecikkaaGreatDoor
open Go.Am
def Aq:Nat->AV
 |0=> .v (.pointer none)
 |_+1=> .pt 0 0
def afi(k:Nat):Adr (Aq k):=by cases k<;>simp[Adr,Aq]
def iB(O:lXE)(q N:Nat)(s:ByteArray)(l':lXA)(c:Prop):lV:=⟨42,[.pt 0 0,S s],O,.tu [I ((s.size:Nat):Int),.v .nilIface],(O.set 0<|.box 80 [.pt 0 0,.sr N 1 0 l'.length]).set q .dead++ [.row 5 1 (l'.map u8C)],c,Nat.lor (bit 0) (Nat.lor (bit q)<|bit N)⟩
def lo_wr{O:lXE}{p q N:Nat}{X Y Z:Ob}(hN:N=O.length){i:Nat}(hi:tb (Nat.lor (bit p)<|Nat.lor (bit q)<|bit N) i=false):((O.set p X).set q Y++ [Z])[i]? =O[i]? :=by
 rw[lY,lY,afU,afU]at hi;have h0:=iA hi.1;have h1:=iA hi.2.1;have h2:=iA hi.2.2;by_cases hl:i<O.length
 ·rw[afO oaL,af1 h1,af1 h0]
 ·rw[af5 oau,af5 oaa]
def JG(s:ByteArray):(GL s).length=(cZ s).length:=by rw[Eo,afK]
def gB{a:AV}{O:lXE}{q k N:Nat}{l:lXA}{s:ByteArray}{c:Prop}(h:c->k=l.length/\Adr a/\l.length+s.size<=140737488355328)(hp:O[0]? =some (.box 80 [a,.sr q 1 0 k]):=by rfl)(hq:O[q]? =some (.row 5 1<|l.map u8C):=by rfl)(hne:0≠q:=by decide)(hN:N=O.length:=by rfl):(iB O q N s (l++cZ s) c).bu pg:=λhc=>⟨fW rfl (by
 obtain⟨hk,ha,hb⟩:=h hc;have hr: ∀g(l:lXA),cP g (l.map u8C)=l.map u8C:=λg l=>by have:=cQ (T:=5) (S:=1) (f:=g) (pr_u8 l);simpa [Ob.ren]using this
 have hr2: ∀g(l l':lXA),cP g (l.map u8C++l'.map u8C)=l.map u8C++l'.map u8C:=λg l l'=>by rw[<-ag7];exact hr g _
 have hA: ∀N,AV.ren (bU [0,q] N) a=a:=λN=>by rcases ha with rfl|rfl<;>simp[AV.ren,bU]
 have k:=AZ (abm a l s ha hb) (sel:=[0,q]) (ob:=O) (by simp[hne]) (by
  refine⟨⟨?_,by simp⟩,⟨?_,by simp⟩,trivial⟩
  ·rw[hp,hk];simp[Ob.ren,bV,AV.ren,bU,hA]
  ·rw[hq];simp[Ob.ren,hr]) oaf
 subst hN;simpa [iB,back,gv,dW,bV,AV.ren,bU,Ob.ren,hr,hr2,JG]using k),λi hi=>lo_wr hN hi⟩
noncomputable def gk(n:Net)(i4:Nat):ByteArray:=((((((((⟨⟨[114,117,108,101,32]⟩⟩++(aA (i4:Int)))++(⟨⟨[32]⟩⟩))++(ae n.rules i4).name)++(⟨⟨[32]⟩⟩))++(aA (ae n.rules i4).start))++(⟨⟨[32]⟩⟩))++(aA (ae n.rules i4).stop))++(⟨⟨[10]⟩⟩))
def tF{n:Net}(ok:OkN n){i:Nat}(hi:i<n.rules.length):(gk n i).size<=1000200:=by have hr:=ok.rules;have h:=ok.aI _ (ai hi);have z1:=bj h.2.1;have z2:=bj h.2.2;have z:=bj (x:=((i:Nat):Int)) ⟨by omega,by omega⟩;unfold gk;simp only[agf,lJ,afX,af6];omega
def kU(l:lXD):Nat:=(l.map λs=>s.size+1).sum
theorem yN(a b:lXD):kU (a++b)=kU a+kU b:=by simp[kU]
def Pa(l:lXD)(k:Nat)(h:k<l.length):kU (l.take k)+(ae l k).size+1<=kU l:=by
 have e:=yN (l.take<|k+1) (l.drop<|k+1);rw[ags,fg h,yN]at e;have:kU [ae l k]=(ae l k).size+1:=by simp[kU]
 omega
def j9(G:List lXD):Nat:=(G.map kU).sum
theorem GS(a b:List lXD):j9 (a++b)=j9 a+j9 b:=by simp[j9]
def BQ(G:List lXD)(k:Nat)(h:k<G.length):j9 (G.take k)+kU (ae G k)<=j9 G/\j9 (G.take<|k+1)=j9 (G.take k)+kU (ae G k):=by
 have e:=GS (G.take<|k+1) (G.drop<|k+1);have e2:j9 (G.take<|k+1)=j9 (G.take k)+kU (ae G k):=by rw[fg h,GS];simp[j9]
 rw[ags]at e;omega
def GU(a:ByteArray): ∀(G:List lXD)(j:Nat),j9 (G.set j<|ae G j++ [a])<=j9 G+(a.size+1)
 |[],_=>by simp[j9]
 |l::G,0=>by
  show j9 ((l++ [a])::G)<=_;simp only[j9,afZ,List.sum_cons,yN];have:kU [a]=a.size+1:=by simp[kU]
  omega
 |l::G,j+1=>by have:=GU a G j;show j9 (l::G.set j (ae G j++ [a]))<=_;simp only[j9,afZ,List.sum_cons]at this⊢;omega
def qf{n:Net}(ok:OkN n): ∀k,k<=n.aa.length->j9 (bZ n k)<=72100000001*k
 |0,_=>by show j9 (replicate _ [])<=_;simp[j9,kU]
 |k+1,h=>by
  have ih:=qf ok k oaa;show j9 (pe n k<|bZ n k)<=_;unfold pe;cases GP n k with
  |true=>simp only[afN];omega
  |false=>simp only[afY];have h1:=GU (kI n k) (bZ n k) (ae n.aa k).aI.toNat;have h2:(kI n k).size<=72100000000:=BP ok (show k<_ by omega);omega
noncomputable def uD(n:Net)(k:Nat):lXA:=Nat.rec (motive:=λ_=>lXA) [] (λi a=>(a++cZ (gk n i))++(ae (bZ n<|length n.aa) i).flatMap λl=>cZ<|l++⟨⟨[10]⟩⟩) k
theorem GV(l:lXD):(l.flatMap λl=>cZ<|l++⟨⟨[10]⟩⟩).length=kU l:=by
 induction l with
 |nil=>rfl
 |cons x l ih=>simp only[List.flatMap_cons,afS,ih,kU,afZ,List.sum_cons,j8,agf];rfl
def Et{n:Net}(ok:OkN n): ∀i,i<=n.rules.length->(uD n i).length<=1000200*i+j9 ((bZ n<|length n.aa).take i)
 |0,_=>af7 _
 |i+1,h=>by have ih:=Et ok i oaa;have hh:=tF ok (show i<_ by omega);have ht:=(BQ (bZ n<|length n.aa) i<|by rw[(dw n _).1];omega).2;show((uD n i++cZ (gk n i))++List.flatMap _ _).length<=_;rw[afS,afS,GV,j8,ht];omega
def Zo{n:Net}(ok:OkN n)(i:Nat)(h:i<n.rules.length):(uD n i).length+1000200+kU (ae (bZ n<|length n.aa) i)<=140000000000000:=by have h1:=Et ok i oaa;have h2:=(BQ (bZ n<|length n.aa) i<|by rw[(dw n _).1];omega).1;have h3:=qf ok _ (afG _);have h4:=ok.rules;have h5:=ok.aa;omega
def lxA(o:bG)(N:Nat){oba:lXE}(e:oba.map some=obS o.sel N o.ob)(h:o.p:=by trivial):o.p/\o.x=o.x/\nmS o.sel N o.L=nmS o.sel N o.L/\oba.map some=obS o.sel N o.ob:=⟨h,rfl,rfl,e⟩
theorem abo{k:Nat}(h:0<k):Aq k= .pt 0 0:=by cases k<;>first|omega|rfl
def Pb(l:lXD):aq (yL l)=true:=by simp[yL,aq,AV.pure]
@[simp] theorem pr_rowS(l:List lXD):aM (l.map yL)=true:=aW Pb l
def kl17(n:Net):KB:=⟨(zCQ n),[.row 22 1 (replicate (length<|zE n) [.v (.slice none 0 0)])],false,.ret,[],[],.normal,[(1,.pf (aY n)),(3,.sl 1 (map yL<|zAX n))],[],True⟩
def BR(s:ByteArray): ∀z∈cZ s,0<=z/\z<256:=λz hz=>by simp only[cZ,agl]at hz;obtain⟨b,_,rfl⟩:=hz;have:=b.toNat_lt;omega
def Zp(n:Net): ∀k,∀z∈uD n k,0<=z/\z<256
 |0,_,h=>by cases h
 |k+1,z,h=>by
  rcases agn.1 (show z∈(uD n k++cZ (gk n k))++_ from h)with h|h
  ·rcases agn.1 h with h|h
   ·exact Zp n k z h
   ·exact BR _ z h
  ·obtain⟨l,_,h⟩:=List.mem_flatMap.1 h;exact BR _ z h
def abp(n:Net)(k:Nat)(h:0<k):0<(uD n k).length:=by
 obtain⟨k,rfl⟩: ∃j,k=j+1:=⟨k-1,by omega⟩;show 0<((uD n k++cZ (gk n k))++List.flatMap _ _).length;rw[afS,afS,j8];have:0<(gk n k).size:=by unfold gk;simp only[agf,lJ,afX,af6];omega
 omega
def i43(a:AV)(l:lXA):lV:=⟨43,[.pt 0 0],[.box 80 [a,.sr 1 1 0 (length l)],.row 5 1 (map u8C l)],S (so l),[.box 80 [a,.sr 1 1 0 (length l)],.dead],a.und 2=true/\0<l.length/\l.length<=9223372036854775807/\ ∀z∈l,0<=z/\z<256,Nat.lor (bit 0) (bit 1)⟩
def g43(a:AV)(l:lXA):(i43 a l).bu pg:=λhp=>⟨fW rfl (Za a l hp.1 hp.2.1 hp.2.2.1 hp.2.2.2),λi hi=>by
 dsimp only[i43]at hi;rw[lY,afU]at hi;have h0:=iA hi.1;have h1:=iA hi.2
 match i,h0,h1 with
 |i+2,_,_=>rfl⟩
def yO:Code:=bn 4 (aG 17)
def Zq:Code:=bn 6 yO
def Eu(n:Net)(i4:Nat)(y4:lXA)(i6:Nat)(y6:lXA):lXA:=y6++cZ ((ae (ae (bZ n<|length n.aa) i4) i6)++(⟨⟨[10]⟩⟩))
def dz(n:Net)(i4:Nat)(y4:lXA)(kk:Nat):lXA:=Nat.rec (motive:=λ_=>lXA) (y4++cZ (gk n i4)) (λj a=>Eu n i4 y4 j a) kk
theorem tG(n:Net)(i4:Nat)(y4:lXA): ∀k,k<=(ae (bZ n<|length n.aa) i4).length->dz n i4 y4 k=(y4++cZ (gk n i4))++((ae (bZ n<|length n.aa) i4).take k).flatMap λl=>cZ (l++⟨⟨[10]⟩⟩)
 |0,_=>by show y4++cZ (gk n i4)=_;simp
 |k+1,h=>by show Eu n i4 y4 k (dz n i4 y4 k)=_;rw[tG n i4 y4 k oaa,fg oaa];unfold Eu;simp
section
variable(n:Net)(i4:Nat)
theorem abq(y4:lXA)(k:Nat)(h:k<(ae (bZ n<|length n.aa) i4).length):(dz n i4 y4 k).length+(ae (ae (bZ n<|length n.aa) i4) k).size+1<=y4.length+(gk n i4).size+kU (ae (bZ n<|length n.aa) i4):=by rw[tG n i4 y4 k oaa,afS,afS,GV,j8];have:=Pa (ae (bZ n<|length n.aa) i4) k h;omega
abbrev Ew(y4:lXA)(i6:Nat)(y6:lXA):lXE:=[.box 80 [.pt 0 0,.sr 3 1 0 (length y6)],.dead,.box 51 (aw<|ae n.rules i4),.row 5 1 (map u8C y6)]
abbrev Ex(y4:lXA)(i6:Nat):Am.Loc:=[(3,.sl 1 (map yL<|zAX n)),(8,.pt 0 0),(70,.sl 9 (zE n)),(71,I (length (zE n):Int)),(72,I (i4:Int)),(99,.sl 1 (map aU<|ae (zAX n) i4)),(100,I (length (map aU<|ae (zAX n) i4):Int)),(101,I (i6:Int))]
abbrev Zr(y4:lXA)(i6:Nat):lXE:=Ew n i4 y4 i6 (dz n i4 y4 i6)
end
abbrev zCi(i4:Nat)(n:Net):Am.Loc:=[(3,.sl 1 (map yL<|zAX n)),(8,.pt 0 0),(70,.sl 9 (zE n)),(71,I (length (zE n):Int)),(72,I (i4:Int))]
section
variable(n:Net)(i4:Nat)
abbrev MM(y4:lXA):Am.Loc:=(zCi i4 n)
section
variable(y4:lXA)
abbrev MN:lXE:=[.box 80 [.pt 0 0,.sr 3 1 0 (length<|dz n i4 y4<|length<|ae (zAX n) i4)],.dead,.box 51 (aw<|ae n.rules i4),.row 5 1 (map u8C<|dz n i4 y4<|length<|ae (zAX n) i4)]
def Ey:KB:=noK 6 (Ex n i4 y4) (Zr n i4 y4) (.exit 6) (MM n i4 y4) (MN n i4 y4) (True)
abbrev Zs(i6:Nat):List bG:=[nxW (false) (Ex n i4 y4<|i6+1) (Zr n i4 y4<|i6+1) (Ex n i4 y4<|i6+1) [0,1,2,4] (Ew n i4 y4 (i6+1)<|(dz n i4 y4 i6)++cZ ((ae (ae (zAX n) i4) i6)++(⟨⟨[10]⟩⟩)))]
theorem Pc(hf:bW n)(hX:tB n)(hA:(zCz n)=false)(ok:OkN n)(hne:0<n.rules.length)(hx4:i4<(length n.rules))(hy4:length y4+1000200+kU (ae (bZ n<|length n.aa) i4)<=140000000000000):ca pg 111 0 6 (.loop Zq) (Ey n i4 y4):=
 noB (Zs n i4 y4) (λi6=>(.r [.k,bT]<|.yes<|.r [.row (aU<|ae (ae (bZ n<|length n.aa) i4) i6),bT]<|.r [.val (.string<|(ae (ae (bZ n<|length n.aa) i4) i6)++(⟨⟨[10]⟩⟩)),.cq 0 [],bT]<|.r [.int ↑(i6+1),bT]<|.pick 0)) (range 4) zF (length<|ae (bZ n<|length n.aa) i4)
 (λ_ i6(hx6:i6<(length<|ae (bZ n<|length n.aa) i4))=>have okr:=ok.rules;have oks:=ok.aa;have lli:=(dw n<|length n.aa).1;have ll6:=(dw n<|length n.aa).2 _ (ai<|show i4<(bZ n<|length n.aa).length by omega);have hru:=ok.aI _ (ai hx4);have ru2:=hru.2.1;have ru3:=hru.2.2;have z1:=bj ru2;have z2:=bj ru3;have z3:=bj (x:=(i4:Int)) ⟨by omega,by omega⟩;have zz6:=abq n i4 y4 i6 hx6;have hh:=tF ok hx4;have l1:=aF aU ((ae (bZ n<|length n.aa) i4));have hb:(decide<|(i6:Int)<(length (map aU<|ae (bZ n<|length n.aa) i4):Int))=true:=afH oaa;
 bq (an (a1 a0)<|an hb<|an (ac (rwa aU (ae (bZ n<|length n.aa) i4) i6) a0)<|an (ac (qW (c:=iB [.box 80 [.pt 0 0,.sr 3 1 0 (length<|dz n i4 y4 i6)],.dead,.box 51 (aw<|ae n.rules i4),.row 5 1 (map u8C<|dz n i4 y4 i6)] 3 4 ((ae (ae (bZ n<|length n.aa) i4) i6)++(⟨⟨[10]⟩⟩)) ((dz n i4 y4 i6)++cZ ((ae (ae (bZ n<|length n.aa) i4) i6)++(⟨⟨[10]⟩⟩)))<|(length<|dz n i4 y4 i6)=length (dz n i4 y4 i6)/\Adr (.pt 0 0)/\length (dz n i4 y4 i6)+(ByteArray.size<|(ae (ae (bZ n<|length n.aa) i4) i6)++(⟨⟨[10]⟩⟩))<=140737488355328) ⟨rfl,(.inr rfl),(by simp only[agf,lJ,afX,af6];omega)⟩ rfl)<|ac (cT (.tmp 105) (.const<|.string ⟨⟨[10]⟩⟩) (ae (ae (bZ n<|length n.aa) i4) i6)<|⟨⟨[10]⟩⟩) a0)<|an (ac (dwo ((i6+1:Nat):Int)) a0)<|lf (wy (Zs n i4 y4 i6) 0) 5<|nxP (λ_=>Ex n i4 y4<|i6+1) (Ew n i4 y4<|i6+1) rfl<|show dz n i4 y4 (i6+1)=((dz n i4 y4 i6)++cZ ((ae (ae (bZ n<|length n.aa) i4) i6)++(⟨⟨[10]⟩⟩)))from rfl)
 oab)
 (λ_=>have okr:=ok.rules;have oks:=ok.aa;have lli:=(dw n<|length n.aa).1;have ll6:=(dw n<|length n.aa).2 _ (ai<|show i4<(bZ n<|length n.aa).length by omega);have hru:=ok.aI _ (ai hx4);have ru2:=hru.2.1;have ru3:=hru.2.2;have z1:=bj ru2;have z2:=bj ru3;have z3:=bj (x:=(i4:Int)) ⟨by omega,by omega⟩;have l1:=aF aU ((ae (bZ n<|length n.aa) i4));have hb:(decide<|(((length<|ae (bZ n<|length n.aa) i4):Nat):Int)<(length (map aU<|ae (bZ n<|length n.aa) i4):Int))=false:=afI oaa;
 bq (an (a1 a0)<|an hb<|lx (.exit 6) (MM n i4 y4) (range 4) (MN n i4 y4) 4)
 oab) (callf:=λi6=>(tE [iB [.box 80 [.pt 0 0,.sr 3 1 0 (length<|dz n i4 y4 i6)],.dead,.box 51 (aw<|ae n.rules i4),.row 5 1 (map u8C<|dz n i4 y4 i6)] 3 4 ((ae (ae (bZ n<|length n.aa) i4) i6)++(⟨⟨[10]⟩⟩)) ((dz n i4 y4 i6)++cZ ((ae (ae (bZ n<|length n.aa) i4) i6)++(⟨⟨[10]⟩⟩))) ((length<|dz n i4 y4 i6)=length (dz n i4 y4 i6)/\Adr (.pt 0 0)/\length (dz n i4 y4 i6)+(ByteArray.size<|(ae (ae (bZ n<|length n.aa) i4) i6)++(⟨⟨[10]⟩⟩))<=140737488355328)] base)) (hc:=λ_ i6 hx6=>(oN (.cons (gB (a:= .pt 0 0) λc=>c) ph.nil) aC))
def Ez:lXA:=(dz n i4 y4<|length<|ae (bZ n<|length n.aa) i4)
end
end
def cD(n:Net)(kk:Nat):lXA:=Nat.rec (motive:=λ_=>lXA) ([]) (λj a=>Ez n j a) kk
theorem oO(n:Net): ∀k,k<=n.rules.length->cD n k=uD n k
 |0,_=>rfl
 |k+1,h=>by show Ez n k (cD n k)=_;rw[oO n k oaa];unfold Ez;rw[tG n k _ _ (afG _),agv];rfl
def MO{n:Net}(ok:OkN n)(i:Nat)(h:i<n.rules.length):(cD n i).length+1000200+kU (ae (bZ n<|length n.aa) i)<=140000000000000:=by rw[oO n i oaa];exact Zo ok i h
abbrev EA(n:Net)(i4:Nat)(y4:lXA):lXE:=[.box 80 [(Aq i4),.sr 1 1 0 (length y4)],.row 5 1 (map u8C y4)]
abbrev EB(n:Net)(i4:Nat):Am.Loc:=(zCi i4 n)
abbrev Zt(n:Net)(i4:Nat):lXE:=EA n i4 (cD n i4)
abbrev MP(n:Net):Am.Loc:=[(8,.pt 0 0)]
abbrev MQ(n:Net):lXE:=[.box 80 [.pt 0 0,.sr 1 1 0 (length<|cD n<|length n.rules)],.row 5 1 (map u8C<|cD n<|length n.rules)]
def jC(n:Net):KB:=noK 4 (EB n) (Zt n) (.exit 4) (MP n) (MQ n) (True)
abbrev Zu(n:Net)(i4:Nat):List bG:=[nxW (false) (EB n<|i4+1) (Zt n<|i4+1) (EB n<|i4+1) [0,3] (EA n (i4+1)<|dz n i4 (cD n i4)<|length<|ae (zAX n) i4)]
def yP:cy [6] yO=[(6,.loop Zq)]:=by kernel_rfl
abbrev zCW(i4:Nat)(n:Net):lXE:=[.box 80 [(Aq i4),.sr 1 1 0 (length<|cD n i4)],.row 5 1 (map u8C<|cD n i4),.box 51 (aw<|ae n.rules i4)]
def Pd(n:Net)(hf:bW n)(hX:tB n)(hA:(zCz n)=false)(ok:OkN n)(hne:0<n.rules.length):ca pg 111 0 4 (.loop yO) (jC n):=
 noB (Zu n) (λi4=>(.r [.k,bT]<|.yes<|.r [.row (aw<|ae n.rules i4),bT]<|.r [.int 0,.val (.string<|(⟨⟨[114,117,108,101,32]⟩⟩)++(aA (i4:Int))),.val (.string<|((⟨⟨[114,117,108,101,32]⟩⟩)++(aA (i4:Int)))++(⟨⟨[32]⟩⟩)),.val (.string<|(((⟨⟨[114,117,108,101,32]⟩⟩)++(aA (i4:Int)))++(⟨⟨[32]⟩⟩))++(ae n.rules i4).name),.val (.string<|((((⟨⟨[114,117,108,101,32]⟩⟩)++(aA (i4:Int)))++(⟨⟨[32]⟩⟩))++(ae n.rules i4).name)++(⟨⟨[32]⟩⟩)),.int 1,.val (.string<|(((((⟨⟨[114,117,108,101,32]⟩⟩)++(aA (i4:Int)))++(⟨⟨[32]⟩⟩))++(ae n.rules i4).name)++(⟨⟨[32]⟩⟩))++(aA (ae n.rules i4).start)),.val (.string<|((((((⟨⟨[114,117,108,101,32]⟩⟩)++(aA (i4:Int)))++(⟨⟨[32]⟩⟩))++(ae n.rules i4).name)++(⟨⟨[32]⟩⟩))++(aA (ae n.rules i4).start))++(⟨⟨[32]⟩⟩)),.int 2,.val (.string<|(((((((⟨⟨[114,117,108,101,32]⟩⟩)++(aA (i4:Int)))++(⟨⟨[32]⟩⟩))++(ae n.rules i4).name)++(⟨⟨[32]⟩⟩))++(aA (ae n.rules i4).start))++(⟨⟨[32]⟩⟩))++(aA (ae n.rules i4).stop)),.val (.string<|((((((((⟨⟨[114,117,108,101,32]⟩⟩)++(aA (i4:Int)))++(⟨⟨[32]⟩⟩))++(ae n.rules i4).name)++(⟨⟨[32]⟩⟩))++(aA (ae n.rules i4).start))++(⟨⟨[32]⟩⟩))++(aA (ae n.rules i4).stop))++(⟨⟨[10]⟩⟩)),.cq 0 [],bT]<|.r [.row (yL<|ae (bZ n<|length n.aa) i4),bT]<|.no<|.r (zi i4)<|.pick 0)) (range 2) zF (length n.rules)
 (λ_ i4(hx4:i4<(length n.rules))=>have okr:=ok.rules;have oks:=ok.aa;have lli:=(dw n<|length n.aa).1;have ll6:=(dw n<|length n.aa).2 _ (ai<|show i4<(bZ n<|length n.aa).length by omega);have hru:=ok.aI _ (ai hx4);have ru2:=hru.2.1;have ru3:=hru.2.2;have z1:=bj ru2;have z2:=bj ru3;have z3:=bj (x:=(i4:Int)) ⟨by omega,by omega⟩;have zz4:=MO ok i4 hx4;have l1:=aF aw (n.rules);have hb:(decide<|(i4:Int)<(length (map aw n.rules):Int))=true:=afH oaa;
 bq (an (a1 a0)<|an hb<|an (ac (rwa aw n.rules i4) a0)<|an (ac (qW (c:=iB (zCW i4 n) 1 3 (gk n i4) ((cD n i4)++cZ (gk n i4))<|(length<|cD n i4)=length (cD n i4)/\Adr (Aq i4)/\length (cD n i4)+(ByteArray.size<|gk n i4)<=140737488355328) ⟨rfl,(afi i4),(by have:=tF ok hx4;omega)⟩ rfl)<|ac (cT (.tmp 93) (.const<|.string ⟨⟨[10]⟩⟩) ((((((((⟨⟨[114,117,108,101,32]⟩⟩)++(aA (i4:Int)))++(⟨⟨[32]⟩⟩))++(ae n.rules i4).name)++(⟨⟨[32]⟩⟩))++(aA (ae n.rules i4).start))++(⟨⟨[32]⟩⟩))++(aA (ae n.rules i4).stop))<|⟨⟨[10]⟩⟩)<|ac (cT (.tmp 89) (.tmp 92) (((((((⟨⟨[114,117,108,101,32]⟩⟩)++(aA (i4:Int)))++(⟨⟨[32]⟩⟩))++(ae n.rules i4).name)++(⟨⟨[32]⟩⟩))++(aA (ae n.rules i4).start))++(⟨⟨[32]⟩⟩))<|aA (ae n.rules i4).stop)<|cA (g39 (ae n.rules i4).stop) ⟨by omega,by omega⟩<|ac (cT (.tmp 88) (.const<|.string ⟨⟨[32]⟩⟩) ((((((⟨⟨[114,117,108,101,32]⟩⟩)++(aA (i4:Int)))++(⟨⟨[32]⟩⟩))++(ae n.rules i4).name)++(⟨⟨[32]⟩⟩))++(aA (ae n.rules i4).start))<|⟨⟨[32]⟩⟩)<|ac (cT (.tmp 84) (.tmp 87) (((((⟨⟨[114,117,108,101,32]⟩⟩)++(aA (i4:Int)))++(⟨⟨[32]⟩⟩))++(ae n.rules i4).name)++(⟨⟨[32]⟩⟩))<|aA (ae n.rules i4).start)<|cA (g39 (ae n.rules i4).start) ⟨by omega,by omega⟩<|ac (cT (.tmp 83) (.const<|.string ⟨⟨[32]⟩⟩) ((((⟨⟨[114,117,108,101,32]⟩⟩)++(aA (i4:Int)))++(⟨⟨[32]⟩⟩))++(ae n.rules i4).name)<|⟨⟨[32]⟩⟩)<|ac (cT (.tmp 80) (.tmp 82) (((⟨⟨[114,117,108,101,32]⟩⟩)++(aA (i4:Int)))++(⟨⟨[32]⟩⟩)) (ae n.rules i4).name)<|ac (cT (.tmp 79) (.const<|.string ⟨⟨[32]⟩⟩) ((⟨⟨[114,117,108,101,32]⟩⟩)++(aA (i4:Int)))<|⟨⟨[32]⟩⟩)<|ac (cT (.const<|.string ⟨⟨[114,117,108,101,32]⟩⟩) (.tmp 78) (⟨⟨[114,117,108,101,32]⟩⟩)<|aA (i4:Int))<|cA (g39 (i4:Int)) ⟨by omega,by omega⟩ a0)<|an (ac (rwa yL (bZ n<|length n.aa) i4) a0)<|an (kbT (Ey n i4<|cD n i4) trivial)<|an (rfl:false=false)<|an (ac (dwo ((i4+1:Nat):Int)) a0)<|lf (wy (Zu n i4) 0) 4<|nxP (λ_=>EB n<|i4+1) (EA n<|i4+1) rfl<|show cD n (i4+1)=(dz n i4 (cD n i4)<|length<|ae (bZ n<|length n.aa) i4)from rfl)
 oab)
 (λ_=>have okr:=ok.rules;have oks:=ok.aa;have lli:=(dw n<|length n.aa).1;have l1:=aF aw (n.rules);have hb:(zP n)=false:=afI oaa;
 bq (an (a1 a0)<|an hb<|lxA ⟨True,(.exit 4),MP n,range 2,MQ n⟩ 2 (oba:=[.box 80 [(Aq<|length n.rules),.sr 1 1 0 (length<|cD n<|length n.rules)],.row 5 1 (map u8C<|cD n<|length n.rules)])<|by show [some _,some _]=_;rw[abo hne];rfl)
 oab) (callf:=λi4=>(tE [iB (zCW i4 n) 1 3 (gk n i4) ((cD n i4)++cZ (gk n i4)) ((length<|cD n i4)=length (cD n i4)/\Adr (Aq i4)/\length (cD n i4)+(ByteArray.size<|gk n i4)<=140737488355328)]<|kP [i39 (i4:Int),i39 (ae n.rules i4).start,i39 (ae n.rules i4).stop] base)) (hc:=λ_ i4 hx4=>(oN (.cons (gB (a:=(Aq i4)) λc=>c) ph.nil)<|aK (.cons (g39 (i4:Int)) rfl<|.cons (g39 (ae n.rules i4).start) rfl<|.cons (g39 (ae n.rules i4).stop) rfl bB.nil) aC)) (hk:=λ_ i4 hx4=>(bc (l:=[(6,Ey n i4 (cD n i4))]) yP (aE (Pc n i4 (cD n i4) hf hX hA ok hne hx4<|MO ok i4 hx4) rfl aP) rfl))
def hc17(m:Mem)(γ:Gam)(h:γ 1=some none)(vs:List Value)(hv:au m γ [.v (.pointer none),.v (.slice none 0 0)] vs):au m γ [Aq 0,.sr 1 1 0 0] vs:=by obtain⟨x,r,rfl,h1,h2⟩:=hv;obtain⟨y,r2,rfl,h3,h4⟩:=h2;have h3:y= .slice none 0 0:=h3;exact⟨x,_,rfl,h1,y,r2,rfl,.inl ⟨h,⟨none,h3⟩,rfl,rfl⟩,h4⟩
abbrev zAv:lXE:=[.box 80 [.v (.pointer none),.v (.slice none 0 0)]]
def kz17(n:Net):KB:=⟨[(3,.sl 1 (map yL<|zAX n)),(8,.pt 0 0),(70,.sl 9 (zE n)),(71,I (length (zE n):Int)),(72,I 0)],zAv,(jC n).hit,(jC n).x1,(jC n).L1,(jC n).ob1,(jC n).x2,(jC n).L2,(jC n).ob2,(jC n).p⟩
def kbz17(n:Net)(hf:bW n)(hX:tB n)(hA:((r11 n) !=0)=false)(ok:OkN n)(hne:0<n.rules.length):ca pg 111 0 4 (.loop yO) (kz17 n):=have okr:=ok.rules;have oks:=ok.aa;iK (Pd n hf hX hA ok hne) (qd (xs:=[]) hc17) (dF.refl _ _) rfl (dF.refl _ _) rfl
def p43{n:Net}(ok:OkN n)(hne:0<n.rules.length):(AV.pt 0 0).und 2=true/\0<((cD n<|length n.rules)).length/\((cD n<|length n.rules)).length<=9223372036854775807/\ ∀z∈((cD n<|length n.rules)),0<=z/\z<256:=by rw[oO n _ (afG _)];refine⟨rfl,abp n _ hne,?_,Zp n _⟩;have h1:=Et ok _ (afG _);have h2:=qf ok _ (afG _);rw[agd (by rw[(dw n _).1];exact afG _)]at h1;have h4:=ok.rules;have h5:=ok.aa;omega
def r17b(n:Net):ByteArray:=(so<|cD n<|length n.rules)
def tH:cy [0,4] (aG 17)=[(0,.loop iz),(4,.loop yO)]:=by kernel_rfl
def afj(n:Net)(hf:bW n)(hX:tB n)(hA:(zCz n)=false)(ok:OkN n)(hne:0<n.rules.length):aQ pg 17 [.ag (aY n)] [] [] (S<|r17b n) []:=
 have okr:=ok.rules;have oks:=ok.aa;aV 17 (.r [bT]<|.r [.int 0,.k,bT]<|.no zCl)
 (an a0<|an (a1<|cA (OP n) ⟨hf,hX⟩ a0)<|an (show(zCz n)=false from hA)<|have l1:=aF aw (n.rules);an (ac (mko (length<|map aw n.rules) 24) a0)<|an a0<|an (kbT ((kl17 n)) trivial)<|an (rfl:false=false)<|an a0<|an a0<|an (kbT (kz17 n) trivial)<|an (rfl:false=false)<|an (ac (qW (c:=i43 (.pt 0 0)<|cD n<|length n.rules) (p43 ok hne) rfl) a0)<|sE<|show r17b n=(so<|cD n<|length n.rules)from rfl) (callf:=(tE [i43 (.pt 0 0) (cD n<|length n.rules)]<|kP [i10y n] base)) (hc:=(oN (.cons (g43 _ _) ph.nil)<|aK (.cons (OP n) rfl bB.nil) aC)) (hk:=(bc (l:=[(0,(kl17 n)),(4,kz17 n)]) tH (aE (O9 n ok) rfl<|aE (kbz17 n hf hX hA ok hne) rfl aP) rfl))
abbrev tl(b:ByteArray):List UInt8:=b.data.toList
theorem ke(a b:ByteArray):tl (a++b)=tl a++tl b:=by simp[tl]
theorem n6(a b:lXA):so (a++b)=so a++so b:=baE (by simp[so])
theorem yQ(s:ByteArray):so (cZ s)=s:=baE (by
 simp only[so,cZ,agK];have:((λz:Int=>UInt8.ofNat z.toNat)∘λb:UInt8=>((b.toNat:Nat):Int))=id:=funext λb=>by simp
 first|(rw[this,List.map_id])|(rw[show _=_ from this,List.map_id]))
theorem mD(x:ByteArray)(r:lXD)(sep:ByteArray):tl (dO (x::r) sep)=tl x++r.flatMap λy=>tl sep++tl y:=by show(Lib.join (map _ (x::r)) _)=_;rw[afZ,Lib.join_cons,Lib.joinTail,agK,List.flatMap_def];rfl
theorem JH{xs:lXD}(h:xs≠ [])(x sep:ByteArray):tl (dO (xs++ [x]) sep)=tl (dO xs sep)++(tl sep++tl x):=by obtain⟨a,r,rfl⟩:=List.exists_cons_of_ne_nil h;rw[agC,mD,mD,List.flatMap_append];simp
theorem Pe(x sep:ByteArray):tl (dO [x] sep)=tl x:=by rw[mD];simp
theorem afk(e:Edge)(i:Nat)(y:ByteArray):tl (sV e i y)=tl y++((bif decide (((i:Nat):Int)>0)then [44]else [])++tl (gW<|ae e.set i)):=by unfold sV gW;generalize ae e.set i=r;cases decide (((i:Nat):Int)>0)<;>cases decide (r.2>r.1)<;>simp[ke,agJ]
theorem MR(e:Edge): ∀k,k<=e.set.length->tl (dD e k)=tl (aA e.to++⟨⟨[58]⟩⟩)++tl (dO ((e.set.take k).map gW) ⟨⟨[44]⟩⟩)
 |0,_=>by show tl (aA e.to++⟨⟨[58]⟩⟩)=_;rw[List.take_zero,agA,join_nil];simp[tl]
 |k+1,h=>by
  show tl (sV e k<|dD e k)=_;rw[afk,MR e k oaa,fg oaa,ag7,List.map_singleton];cases k with
  |zero=>rw[List.take_zero,agA,List.nil_append,Pe,join_nil];simp[tl]
  |succ k=>rw[JH (by intro h0;have:=afQ length h0;simp only[afK,agh,af6]at this;omega)];rw[show decide ((((k+1:Nat):Nat):Int)>0)=true from afH oaa];simp[tl]
theorem afl(e:Edge):r40 e=r45 e:=by have h:((aA e.to++⟨⟨[58]⟩⟩)++dO (map gW<|List.take e.set.length e.set) ⟨⟨[44]⟩⟩)=dD e e.set.length:=baE (by show tl _=tl _;rw[MR e _ (afG _),ke (aA e.to++_)]);unfold r40 r45;rw[h]
theorem BS(n:Net)(i0:Nat)(y0:ByteArray)(k:Nat)(y2:ByteArray): ∀j,j<=(ae n.aa k).ah.length->tl (eR n i0 y0 k y2 j)=(tl y2++tl (aA ((k:Nat):Int)))++((ae n.aa k).ah.take j).flatMap λe=>tl ⟨⟨[32]⟩⟩++tl (r40 e)
 |0,_=>by show tl (y2++aA _)=_;rw[ke];simp
 |j+1,h=>by show tl (sf n i0 y0 k y2 j<|eR n i0 y0 k y2 j)=_;unfold sf;rw[fg oaa,List.flatMap_append,ke,BS n i0 y0 k y2 j oaa,ke,<-afl];simp
theorem GW(n:Net)(i0:Nat)(y0:ByteArray)(k:Nat)(y2:ByteArray):eR n i0 y0 k y2 (ae n.aa k).ah.length=y2++kI n k:=baE (by show tl (eR n i0 y0 k y2 _)=tl (y2++kI n k);rw[BS n i0 y0 k y2 _ (afG _),agv,ke,kI,fF,mD,List.flatMap_map,agJ])
def nlS(l:lXD):List UInt8:=l.flatMap λs=>tl (s++⟨⟨[10]⟩⟩)
theorem Zv(l:lXD)(s:ByteArray):nlS (l++ [s])=nlS l++tl (s++⟨⟨[10]⟩⟩):=by simp[nlS]
theorem BT{G:List lXD}{i j:Nat}(hi:i<G.length)(x:lXD):ae (G.set j x) i=if j=i then x else ae G i:=by
 unfold ae;rw[List.getElem?_set];by_cases h:j=i
 ·subst h;simp[hi]
 ·simp[h]
theorem BU{n:Net}(ok:OkN n)(i0:Nat)(h0:i0<n.rules.length)(y0:ByteArray): ∀k,k<=n.aa.length->tl (di n i0 y0 k)=tl (y0++gk n i0)++nlS (ae (bZ n k) i0)
 |0,_=>by show tl (y0++gk n i0)=_++nlS (ae (replicate _ []) i0);rw[show ae (replicate (length<|map aw n.rules) ([]:lXD)) i0=[] by unfold ae;rw[age];split<;>rfl];simp[nlS]
 |k+1,h=>by
  have ih:=BU ok i0 h0 y0 k oaa;have hown:=ok.own _ (ai<|show k<_ by omega);have hl:=(dw n k).1;show tl (sg n i0 y0 k<|di n i0 y0 k)=_++nlS (ae (pe n k<|bZ n k) i0);unfold sg pe GP;by_cases hr:(ae n.aa k).aI=(i0:Int)
  ·have ht:(ae n.aa k).aI.toNat=i0:=by omega
   rw[show((ae n.aa k).aI !=(i0:Int))=false by simp[hr],show aB n.rules (ae n.aa k).aI=ae n.rules i0 by rw[hr];rfl];cases hs:(((k:Nat):Int)==(ae n.rules i0).stop)with
   |true=>simp only[afN,afY];exact ih
   |false=>simp only[afY];rw[ht,BT oaa,if_pos rfl,Zv,ke,GW,ke,ih,ke];simp
  ·have ht:(ae n.aa k).aI.toNat≠i0:=by omega
   rw[show((ae n.aa k).aI !=(i0:Int))=true by simp[hr]];simp only[afN];cases (((k:Nat):Int)==(aB n.rules (ae n.aa k).aI).stop)with
   |true=>exact ih
   |false=>simp only[afY];rw[BT oaa,if_neg ht];exact ih
theorem abr(l:lXD):tl (so<|l.flatMap λl=>cZ<|l++⟨⟨[10]⟩⟩)=nlS l:=by
 induction l with
 |nil=>rfl
 |cons s l ih=>rw[List.flatMap_cons,n6,ke,ih,yQ];rfl
theorem Zw{n:Net}(ok:OkN n): ∀i,i<=n.rules.length->so (uD n i)=eS n i
 |0,_=>rfl
 |i+1,h=>by refine baE ?_;show tl (so<|(uD n i++cZ (gk n i))++List.flatMap _ (ae (bZ n n.aa.length) i))=tl (di n i (eS n i) n.aa.length);rw[BU ok i oaa _ _ (afG _),n6,ke,abr,n6,yQ,Zw ok i oaa]
theorem afm{n:Net}(ok:OkN n):r17b n=Jg n:=by unfold r17b Jg;rw[oO n _ (afG _),Zw ok _ (afG _)]
theorem wrap64{z:Int}(h: -9223372036854775808<=z/\z<=9223372036854775807):IntKind.i64.wrap z=z:=aH.1 (dwo z h.1 h.2)
theorem wrap32{z:Int}(h: -2147483648<=z/\z<=2147483647):IntKind.i32.wrap z=z:=by unfold IntKind.wrap IntKind.signed IntKind.bits;simp only[agj,aha];have e1:(2:Int)^32=4294967296:=rfl;have e2:(2:Int)^(32-1)=2147483648:=rfl;rw[e1,e2];split<;>omega
section
variable{s:List (Int×Int)}(h32: ∀r∈s,mR r.1/\mR r.2)(h91:my s=false)
 include h32 h91
theorem yR(i:Nat)(hi:i<s.length):(ae s i).1<=(ae s i).2/\(0<i->(ae s<|i-1).2+2<=(ae s i).1):=by have h:=bL.1 h91 i hi;have a:=h32 _ (ai hi);simp only[mR]at a;unfold o8 at h;simp only[afU,af0]at h;refine⟨by omega,λhp=> ?_⟩;have b:=h32 _ (ai<|show i-1<s.length by omega);simp only[mR]at b;have h2:=h.2;rw[show decide (((i:Nat):Int)>0)=true from afH oaa,agj,af0,wrap64 (z:=(ae s<|i-1).2) oaa,wrap64 (z:=(ae s i).1) oaa,wrap64 oaa]at h2;omega
theorem sq(i:Nat): ∀k,i+k<s.length->(ae s i).2+2*(k:Int)<=(ae s<|i+k).2
 |0,_=>by simp
 |k+1,h=>by have ih:=sq i k oaa;have h1:=yR h32 h91 (i+(k+1)) h;have h2:=h1.2 oaa;rw[show i+(k+1)-1=i+k by omega]at h2;omega
theorem MS{m:Int}(hm:m<=1114111)(h0:0<s.length)(hlo:0<=(ae s 0).1)(hhi:(ae s<|s.length-1).2<=m):(∀r∈s,(0<=r.1/\r.1<=2147483647)/\0<=r.2/\r.2<=2147483647)/\s.length<=1114112:=by
 have s0:=yR h32 h91 0 h0;have hmm:=sq h32 h91 0 (s.length-1) oaa;rw[agR]at hmm;refine⟨λr hr=> ?_,by omega⟩;obtain⟨i,hi,rfl⟩:=bP hr;have hs:=yR h32 h91 i hi;have h1:=sq h32 h91 i (s.length-1-i) oaa;rw[show i+(s.length-1-i)=s.length-1 by omega]at h1;rcases Nat.eq_zero_or_pos i with rfl|hp
 ·omega
 ·have h2:=sq h32 h91 0 (i-1) oaa;rw[agR]at h2;have:=hs.2 hp;omega
end
section
variable{n:Net}{s:State}{i:Int}{e:Edge}(h:r68 n s i e=true)
 include h
theorem afn(hr:n.rules.length<=1000000):Nn e.n/\Nn e.level:=by
 unfold r68 at h;simp only[afv]at h;obtain⟨-,-,-,-,h5⟩:=h;cases q3:(e.op !=3)with
 |false=>rw[q3]at h5;simp only[afY,afv,afP]at h5;rw[cE h5.2.1,cE h5.2.2.1];exact⟨⟨by omega,by omega⟩,by omega,by omega⟩
 |true=>
  rw[q3]at h5;simp only[afN,afv]at h5;obtain⟨-,-,h5⟩:=h5;cases q1:(e.op==1)with
  |true=>rw[q1]at h5;simp only[afN]at h5;cases ql:(!(aB n.rules s.aI).bR)<;>rw[ql]at h5<;>simp only[afN,afY,afv,afP]at h5<;>rw[cE h5.2.2.1,cE h5.2.2.2.1]<;>exact⟨⟨by omega,by omega⟩,by omega,by omega⟩
  |false=>
   rw[q1]at h5;simp only[afY]at h5;cases q2:(e.op==2)with
   |true=>rw[q2]at h5;simp only[afN,afv,afP,af0,afK]at h5;exact⟨⟨by omega,by omega⟩,by omega,by omega⟩
   |false=>
    rw[q2]at h5;simp only[afY]at h5;cases q4:(e.op==4)with
    |true=>rw[q4]at h5;simp only[afN,afv,aha,agQ]at h5;exact⟨⟨by omega,by omega⟩,by omega,by omega⟩
    |false=>
     rw[q4]at h5;simp only[afY]at h5;cases q5:(e.op==5)with
     |true=>rw[q5]at h5;simp only[afN,afv,aha]at h5;exact⟨⟨by omega,by omega⟩,by omega,by omega⟩
     |false=>rw[q5]at h5;simp only[afY,afv,afP]at h5;rw[cE h5.1,cE h5.2.1];exact⟨⟨by omega,by omega⟩,by omega,by omega⟩
theorem abt(ht:n.types.length<=200)(h32: ∀r∈e.set,mR r.1/\mR r.2):(∀r∈e.set,(0<=r.1/\r.1<=2147483647)/\0<=r.2/\r.2<=2147483647)/\e.set.length<=1114112:=by
 unfold r68 at h;simp only[afv,agS]at h;obtain⟨-,h2,h3,-,h5⟩:=h;have h91:my e.set=false:=by
  cases hh:my e.set with
  |false=>rfl
  |true=>unfold r91 at h2;rw[hh]at h2;exact absurd h2 oaE
 cases q1:(e.op==1)with
 |false=>
  rw[q1]at h3;have:e.set=[]:=by
   cases hs:e.set with
   |nil=>rfl
   |cons a l=>rw[hs]at h3;simp at h3
  rw[this];exact⟨λr hr=>(by cases hr),af7 _⟩
 |true=>
  have hop:e.op=1:=eq_of_beq q1;rw[q1]at h3;have h0:0<e.set.length:=by simp only[afK]at h3;have:=afL (eq_of_beq h3).symm;omega
  rw[show(e.op !=3)=true by rw[hop];rfl]at h5;simp only[afN,afv]at h5;obtain⟨-,-,h5⟩:=h5;rw[q1]at h5;simp only[afN]at h5;have hidx:aB e.set ((length e.set:Int)-1)=ae e.set (e.set.length-1):=by show ae e.set _=_;congr 1;omega
  cases ql:(!(aB n.rules s.aI).bR)with
  |false=>rw[ql]at h5;simp only[afY,afv,afP,af0,afK,hidx]at h5;exact MS h32 h91 (m:=1114111) oaa h0 oaa oaa
  |true=>rw[ql]at h5;simp only[afN,afv,afP,af0,afK,hidx]at h5;rw[wrap32 oaa]at h5;exact MS h32 h91 (m:=(n.types.length:Int)) oaa h0 oaa oaa
end
def r11_0{n:Net}(h:((r11 n) !=0)=false):r31 n=true/\r32 n=true/\r33 n=true:=by have h:=cE h;unfold r11 at h;cases h1:r31 n<;>cases h2:r32 n<;>cases h3:r33 n<;>rw[h1,h2,h3]at h<;>simp only[Bool.not_true,agx,afN,afY]at h<;>first|exact absurd h oaE|exact⟨rfl,rfl,rfl⟩
def afo{l:lXD}(h:r66 l false=true): ∀x∈l,x.size<=40:=λx hx=>by obtain⟨i,hi,rfl⟩:=bP hx;have:=bL.1 (show rv l false=false by simpa [r66]using h) i hi;unfold mI at this;simp only[afY,afU,af0]at this;omega
def Zx{n:Net}(hf:fh n)(h4:n.aa.length<=4000)(h6:r6 n=false)(hA:((r11 n) !=0)=false):OkN n:=by
 obtain⟨h1,h2,h3⟩:=r11_0 hA;have hfn:=Mu hf h4 h6;obtain⟨a1,-,a3⟩:=sum6 n hf h4 _ (afG _);unfold r6 at h6;simp only[afU,af0,aF]at h6;unfold r31 at h1;simp only[afv,afP,af0,afK]at h1;have hnm:=afo h1.2.2.2.2.2.2.2.2.2.2.2;rw[agv]at hnm;refine⟨by omega,by omega,λs hs=> ?_,λs hs e he=> ?_,λs hs=> ?_,λr hr=> ?_⟩
 ·obtain⟨j,hj,rfl⟩:=bP hs;have:=a3 j hj;omega
 ·have hx:=((hf.ah s hs).2 e he).set;obtain⟨i,hi,rfl⟩:=bP hs;obtain⟨k,hk,rfl⟩:=bP he;have h68:=(nP h3 hi).2 k hk;have q:=afn h68 hfn.rules;have w:=abt h68 oaa hx;have t:=UM h68;refine⟨⟨?_,?_⟩,q.1,q.2,w.1,w.2⟩<;>omega
 ·obtain⟨i,hi,rfl⟩:=bP hs;exact(nP h3 hi).1
 ·obtain⟨i,hi,rfl⟩:=bP hr;have a:=nO (yj h2 hi).1;have b:=nO (yj h2 hi).2;have c:=hnm (ae n.rules i).name (agl.2 ⟨_,ai hi,rfl⟩);refine⟨by omega,⟨?_,?_⟩,?_,?_⟩<;>omega
def Pf:aQ pg 43 [.pt 0 0] zAv [] (S<|⟨⟨[]⟩⟩) zAv:=kB (fn:=Tryz.f43) (callf:=base) (pu:=c7) (lf:=3000) (l:=[]) (t:=(.r [bT] zD)) aC mixed Tryz.func43 oab (show Tryz.f43.body=some (aG 43) by kernel_rfl) (nbl rfl) (bt _) (nbl rfl) rfl rfl rfl (bq (an a0<|an (aN 2 a0)<|ofE (r:=S<|⟨⟨[]⟩⟩) (rfl:(zAv:lXE)=zAv)) oab)
def i43e(R:Ob):lV:=⟨43,[.pt 1 0],[R,.box 80 [.v (.pointer none),.v (.slice none 0 0)]],S ⟨⟨[]⟩⟩,[R,.box 80 [.v (.pointer none),.v (.slice none 0 0)]],True,0⟩
def g43e(R:Ob):(i43e R).bu pg:=λ_=>⟨fW rfl (by have k:=AZ Pf (sel:=[1]) (ob:=[R,.box 80 [.v (.pointer none),.v (.slice none 0 0)]]) oaf ⟨⟨rfl,by simp⟩,trivial⟩ (afG _);simpa [i43e,back,gv,dW,bV,AV.ren,bU,Ob.ren]using k),λ_ _=>rfl⟩
def r17e(n:Net):ByteArray:=⟨⟨[]⟩⟩
abbrev zDD(n:Net):Ob:=(.row 22 1<|replicate (length<|map aw n.rules) [.v (.slice none 0 0)])
def abu(n:Net)(hf:bW n)(hX:tB n)(hA:(zCz n)=false)(hR:length n.rules=0)(hS:length n.aa=0):aQ pg 17 [.ag (aY n)] [] [] (S<|r17e n) []:=
 have lz:=aF aw n.rules;aV 17 (.r [bT]<|.r [.int 0,.k,bT]<|.no<|.r [bT]<|.r [bT]<|.more<|.r [.k,bT]<|.no<|.r [bT]<|.r [bT]<|.more<|.r [.k,bT]<|.no<|.r [.cq 0 [],bT] .nil)
 (an a0<|an (a1<|cA (OP n) ⟨hf,hX⟩ a0)<|an (show(zCz n)=false from hA)<|have l1:=aF aw (n.rules);an (ac (mko (length<|map aw n.rules) 24) a0)<|an a0<|an (a1 a0)<|an (show(decide<|(0:Int)<(length (map aj n.aa):Int))=false from(afI<|by rw[afK,hS];decide))<|an a0<|an a0<|an (a1 a0)<|an (show(decide<|(0:Int)<(length (map aw n.rules):Int))=false from(afI<|by rw[afK,hR];decide))<|an (ac (qW (c:=i43e<|zDD n) trivial rfl) a0)<|sE<|show r17e n=(⟨⟨[]⟩⟩)from rfl) (callf:=(tE [i43e (zDD n)]<|kP [i10y n] base)) (hc:=(oN (.cons (g43e _) ph.nil)<|aK (.cons (OP n) rfl bB.nil) aC))
def r17a(n:Net):ByteArray:=⟨⟨[]⟩⟩
abbrev zDq:GT:=(.r [bT]<|.r [.int 0,.k,bT]<|.yes zD)
def abv(n:Net)(hf:bW n)(hX:tB n)(hA:(zCz n)=true):aQ pg 17 [.ag (aY n)] [] [] (S<|r17a n) []:=
 aV 17 zDq
 (an a0<|an (a1<|cA (OP n) ⟨hf,hX⟩ a0)<|an (show(zCz n)=true from hA)<|an a0<|sE<|show r17a n=(⟨⟨[]⟩⟩)from rfl) (hc:=(aK (.cons (OP n) rfl bB.nil) aC))
def r18a(n:Net):ByteArray:=⟨⟨[]⟩⟩
def abw(n:Net)(hf:bW n)(hA:(zCz n)=true):aQ pg 18 [.ag (aY n)] [] [] (S<|r18a n) []:=
 aV 18 zDq
 (an a0<|an (a1<|cA (g11y n) hf a0)<|an (show(zCz n)=true from hA)<|an a0<|sE<|show r18a n=(⟨⟨[]⟩⟩)from rfl) (hc:=(aK (.cons (g11y n) rfl bB.nil) aC))
def r17h(n:Net):ByteArray:=⟨⟨[]⟩⟩
def abx(n:Net)(hh:mP n)(hA:r31 n=false):aQ pg 17 [.ag (aY n)] [] [] (S<|r17h n) []:=
 aV 17 (.r [bT]<|.r [.int 0,.k,bT] zD)
 (an a0<|an (a1<|cA (g10q n) ⟨hh,hA⟩ a0)<|an a0<|sE<|show r17h n=(⟨⟨[]⟩⟩)from rfl) (hc:=(aK (.cons (g10q n) rfl bB.nil) aC))
def r18h(n:Net):ByteArray:=⟨⟨[]⟩⟩
section
variable(n:Net)
def aby(hh:mP n)(hA:r31 n=false):aQ pg 18 [.ag (aY n)] [] [] (S<|r18h n) []:=
 aV 18 (.r [bT]<|.r [.int 0,.k,bT] zD)
 (an a0<|an (a1<|cA (g11q n) ⟨hh,hA⟩ a0)<|an a0<|sE<|show r18h n=(⟨⟨[]⟩⟩)from rfl) (hc:=(aK (.cons (g11q n) rfl bB.nil) aC))
noncomputable def GX:ByteArray:=bif decide (n.aa.length<=4000)&& !((r11 n) !=0)then Jg n else⟨⟨[]⟩⟩
theorem JI(hm:fh n)(h6:r6 n=false):aQ pg 18 [.ag (aY n)] [] [] (S<|GX n) []:=by
 unfold GX;by_cases h4:n.aa.length<=4000
 ·rw[afH h4];cases hA:((r11 n) !=0)with
  |false=>exact aeO n (Mu hm h4 h6) hA (Zx hm h4 h6 hA)
  |true=>exact abw n (Mu hm h4 h6) hA
 ·rw[afI h4];exact aby n (fitH hm h6) (acz oaa)
theorem JJ(hm:fh n)(h6:r6 n=false):aQ pg 17 [.ag (aY n)] [] [] (S<|GX n) []:=by
 unfold GX;by_cases h4:n.aa.length<=4000
 ·rw[afH h4];have hf:=Mu hm h4 h6;cases hA:((r11 n) !=0)with
  |false=>
   have ok:=Zx hm h4 h6 hA;rcases Nat.eq_zero_or_pos n.rules.length with hR|hp
   ·have hS:length n.aa=0:=by
     cases hs:n.aa with
     |nil=>rfl
     |cons s l=>have:=ok.own s (by rw[hs];exact ag4 ..);omega
    have h:=abu n hf (fitX hm) hA hR hS;have e:Jg n=⟨⟨[]⟩⟩:=by unfold Jg;rw[hR];rfl
    rw[e];exact h
   ·rw[show(true&& !false)=true from rfl,afN,<-afm ok];exact afj n hf (fitX hm) hA ok hp
  |true=>exact abv n hf (fitX hm) hA
 ·rw[afI h4];exact abx n (fitH hm h6) (acz oaa)
theorem afp(nm:ByteArray):uq n nm=mM n.rules nm:=funext λ_=>rfl
theorem afq(nm:ByteArray):r14 n nm=r13 n nm:=by
 unfold r13 r14 r37 vW Eg;rw[afp];cases cz (length n.rules) (mM n.rules nm)with
 |true=>simp only[afN];rw[show max (((gQ (length n.rules)<|mM n.rules nm):Nat):Int) 0=(((gQ (length n.rules)<|mM n.rules nm):Nat):Int) by omega,afH (show(((gQ (length n.rules)<|mM n.rules nm):Nat):Int)>=0 by omega)]
 |false=>rfl
end
def BV{n:Net}(h:fh n):nY n:=⟨h.types,h.eP,h.bx,by have:=h.rules;omega,by have:=h.aa;omega,λs hs=>⟨by have:=(h.ah s hs).1;omega,λe he=>((h.ah s hs).2 e he).fit⟩⟩
section
variable(n:Net)
section
variable(nm:ByteArray)
def i13r:bC:=⟨13,[eM n,S nm],.tu [I (max (r37 n.rules nm) 0),B (zBe n nm)],fh n⟩
theorem Pg:(i13r n nm).bu pg:=bI λhp=>aeQ n nm (by have:=hp.rules;omega)
def i14r:bC:=⟨14,[eM n,S nm],.tu [I (max (r37 n.rules nm) 0),B (zBe n nm)],fh n⟩
theorem Ph:(i14r n nm).bu pg:=bI λhp=>by have h:=aeR n nm (by have:=hp.rules;omega);rw[afq]at h;exact h
end
def i15r(t:Int):bC:=⟨15,[eM n,I t],S (r15 n t),fh n⟩
def Pj(t:Int):(i15r n t).bu pg:=bI λhp=>aeS n t hp.types
def i16r(t:Int):bC:=⟨16,[eM n,I t],S (r15 n t),fh n⟩
def Pk(t:Int):(i16r n t).bu pg:=bI λhp=>aeT n t hp.types
def i17r:bC:=⟨17,[eM n],S (GX n),fh n/\r6 n=false⟩
def Pl:(i17r n).bu pg:=bI λhp=>JJ n hp.1 hp.2
def i18r:bC:=⟨18,[eM n],S (GX n),fh n/\r6 n=false⟩
def Pm:(i18r n).bu pg:=bI λhp=>JI n hp.1 hp.2
end
section
variable(a b:Net)
def i19r:bC:=⟨19,[eM a,eM b],B (dec<|a=b),fh a/\fh b⟩
def Pn:(i19r a b).bu pg:=bI λhp=>YC a b▸YB a b (BV hp.1) (BV hp.2)
def i20r:bC:=⟨20,[eM a,eM b],B (dec<|a=b),fh a/\fh b⟩
def Po:(i20r a b).bu pg:=bI λhp=>afd a b▸afb a b (BV hp.1) (BV hp.2)
end
section
variable(n:Net)
def i19s:bC:=⟨19,[eM n,eM n],B true,fh n⟩
theorem Pp:(i19s n).bu pg:=bI λhp=>by have h:=YC n n▸YB n n (BV hp) (BV hp);rwa[aH.2 rfl]at h
def i21r(s:Int)(l:List Edge):bC:=⟨21,[eM n,I s],.fn (.func 57) [] [.pf [.sl 10 (l.map aD)]],fh n/\sh n s=l⟩
theorem Pq(s:Int)(l:List Edge):(i21r n s l).bu pg:=bI λhp=>by have h:=abc n s hp.1;rwa[hp.2]at h
def i6tt:bC:=⟨6,[eM n],B true,fh n/\r6 n=true⟩
def g6tt:(i6tt n).bu pg:=bI λhp=>(k6 hp.1 hp.2)
def i6ff:bC:=⟨6,[eM n],B false,fh n/\r6 n=false⟩
def ss:(i6ff n).bu pg:=bI λhp=>(k6 hp.1 hp.2)
end
def r5g(n m:Net)(nm:ByteArray)(t s lv:Int):Bool:=true
def law5g(n m:Net)(nm:ByteArray)(t s lv:Int)(hm:fh n)(hm2:fh m)(h6:r6 n=true):aQ pg 5 [.ag (aY n),.ag (aY m),S nm,I t,I s,I lv] [] [] (B<|r5g n m nm t s lv) []:=
 aV 5 (.r [bT]<|.r [.int 0,bF,bF,bT]<|.r [.int 1,bT] .nil)
 (an a0<|an (aN 2<|cA (g6tt n) ⟨hm,h6⟩ a0)<|an (cA g7w trivial a0)<|bE<|show r5g n m nm t s lv=true from rfl) (hc:=(aK (.cons (g6tt n) rfl<|.cons g7w rfl bB.nil) aC))
def r5h(n m:Net)(nm:ByteArray)(t s lv:Int):Bool:=true
abbrev zCx:List Gi:=[.int 0,bT,bT,.int 1,bT]
def law5h(n m:Net)(nm:ByteArray)(t s lv:Int)(hm:fh n)(hm2:fh m)(h6:r6 n=false)(h7:r6 m=true):aQ pg 5 [.ag (aY n),.ag (aY m),S nm,I t,I s,I lv] [] [] (B<|r5h n m nm t s lv) []:=
 aV 5 (.r [bT]<|.r zCx<|.r [.int 2,bT] .nil)
 (an a0<|an (cA (g6tt m) ⟨hm2,h7⟩<|aN 2<|cA (ss n) ⟨hm,h6⟩ a0)<|an (cA g7w trivial a0)<|bE<|show r5h n m nm t s lv=true from rfl) (hc:=(aK (.cons (ss n) rfl<|.cons (g6tt m) rfl<|.cons g7w rfl bB.nil) aC))
theorem afr(l:List UInt8):cp l l=true:=by rw[oh];simp
def BW(l:List UInt8):(!(cp l l))=false:=by rw[afr];rfl
section
variable{n:Net}{s:Int}
theorem ownA(h0:(decide<|s>=0)=true)(h1:(decide<|s<(length (map aj n.aa):Int))=true):sh n s=(aB n.aa s).ah:=by unfold sh;rw[h0,h1];rfl
theorem ownB(h0:(decide<|s>=0)=false):sh n s=[]:=by unfold sh;rw[h0];rfl
theorem ownC(h0:(decide<|s>=0)=true)(h1:(decide<|s<(length (map aj n.aa):Int))=false):sh n s=[]:=by unfold sh;rw[h0,h1];rfl
end
def rngP{n K:Nat}{callf:cd}{c:Code}{x:AX}{L L':Am.Loc}{ob ob':lXE}(hc:b0 Tryz.prog callf)(t:GT)(sel:lXC)(N:Nat){A:Prop}(h:EndS x L' sel N ob' ob' ->A)(e:A=vcC pg n callf c7 3000 (kbL []) c (dX L) (dq ob) ob.length (nw [⟨True,x,L',sel,ob'⟩]) t)(hf:bG.fP K ⟨True,x,L',sel,ob'⟩=true):Piece pg n K c L ob x L' ob':=Kp (gw hc mixed<|bt _) (e▸h ⟨trivial,rfl,rfl,rfl⟩) hf
section
variable(l:List Edge)
abbrev L5:Am.Loc:=[(11,.pt 0 0),(12,.pt 1 0),(17,.pt 2 0),(18,.pt 3 0),(100,.fn (.func 57) [] [.pf [.sl 10 (l.map aD)]])]
section
variable(lv:Int)
def i57n:jn:=⟨57,[.yl 4,.pf [.sl 10 (l.map aD)]],ob5 (.sl 10<|l.map aD) lv 0 false++ [lp5 l false none],.tu [],ob5 (.sl 10<|l.map aD) lv ((l.length:Nat):Int) false++ [lp5 l false none],l.length<=9223372036854775800/\(∀e∈l,j7 e)/\oM l lv=false⟩
def g57n:(i57n l lv).bu pg:=λhp=>fW rfl (abi l lv hp.1 hp.2.1 hp.2.2)
def i57x:jn:=⟨57,[.yl 4,.pf [.sl 10 (l.map aD)]],ob5 (.sl 10<|l.map aD) lv 0 false++ [lp5 l false none],.tu [],ob5 (.sl 10<|l.map aD) lv (((gQ (length l)<|sn l lv)+1:Nat):Int) true++ [lp5 l false (some .ret)],l.length<=9223372036854775800/\(∀e∈l,j7 e)/\oM l lv=true⟩
def g57x:(i57x l lv).bu pg:=λhp=>fW rfl (abj l lv hp.1 hp.2.1 hp.2.2)
end
end
def i57e(lv:Int):jn:=⟨57,[.yl 4,.pf [.sl 10 (([]:List Edge).map aD)]],ob5 (.v<|.slice none 0 0) lv 0 false++ [lp5 [] false none],.tu [],ob5 (.v<|.slice none 0 0) lv 0 false++ [lp5 [] false none],True⟩
def g57e(lv:Int):(i57e lv).bu pg:=λ_=>fW rfl (abk lv)
abbrev zDu:Am.Loc:=[(12,.pt 1 0),(17,.pt 2 0),(18,.pt 3 0)]
def kr5(l:List Edge)(lv:Int):KB:=⟨L5 l,ob5 (.sl 10<|l.map aD) lv 0 false,oM l lv,.ret,[(12,.pt 1 0)],ob5 (.sl 10<|l.map aD) lv (((gQ (length l)<|sn l lv)+1:Nat):Int) true,.normal,zDu,ob5 (.sl 10<|l.map aD) lv ((l.length:Nat):Int) false,l.length<=9223372036854775800/\ ∀e∈l,j7 e⟩
def GY(lv:Int):KB:=⟨L5 [],ob5 (.v<|.slice none 0 0) lv 0 false,false,.ret,[],[],.normal,zDu,ob5 (.v<|.slice none 0 0) lv 0 false,True⟩
def krat5(l:List Edge)(lv:Int):ca pg 134 0 0 (kC 0<|aG 5) (kr5 l lv):=by
 refine⟨λhp hh=> ?_,λhp hh=> ?_⟩
 ·refine rngP (callf:=pR [i57x l lv] base) (lI (.cons (g57x l lv) nB.nil) aC) (.r [.cq 0 [],bT]<|.pick 0) (range 4) 5 (λz=>an (ac (qU (c:=i57x l lv) ⟨hp.1,hp.2,hh⟩ rfl) a0) z) oab oax
 ·refine rngP (callf:=pR [i57n l lv] base) (lI (.cons (g57n l lv) nB.nil) aC) (.r [.cq 0 [],bT]<|.pick 0) (range 4) 5 (λz=>an (ac (qU (c:=i57n l lv) ⟨hp.1,hp.2,hh⟩ rfl) a0) z) oab oax
def Zy(lv:Int):ca pg 134 0 0 (kC 0<|aG 5) (GY lv):=by refine⟨λ_ hh=>(by cases hh),λhp hh=> ?_⟩;refine rngP (callf:=pR [i57e lv] base) (lI (.cons (g57e lv) nB.nil) aC) (.r [.cq 0 [],bT]<|.pick 0) (range 4) 5 (λz=>an (ac (qU (c:=i57e lv) trivial rfl) a0) z) oab oax
def r5a(n m:Net)(nm:ByteArray)(t s lv:Int):Bool:=true
def yS:cy [0] (aG 5)=[(0,kC 0 (aG 5))]:=by kernel_rfl
abbrev zt:List Gi:=[.k,bT,bT,bT,.k,bT,bT,bT,.int 4,bT,bT,bT,.int 5,bT,.k,bT,bT,.int 6,bT,bT,.int 7,bT,.k,bT,bT,bT,.int 8,bT,bT,bT,.int 9,bT,.k,bT,bT,bT,.int 10,bT,bT]
abbrev zBZ(n:Net):=(!(cp (Array.toList<|ByteArray.data<|GX n)<|Array.toList<|ByteArray.data<|GX n))
abbrev zBg(n:Net)(t:Int):=(!(cp (Array.toList<|ByteArray.data<|r15 n t)<|Array.toList<|ByteArray.data<|r15 n t))
def law5a(n m:Net)(nm:ByteArray)(t s lv:Int)(hm:fh n)(hm2:fh m)(h6:r6 n=false)(h7:r6 m=false)(q0:(zCX s)=true)(q1:(zr n s)=true):aQ pg 5 [.ag (aY n),.ag (aY m),S nm,I t,I s,I lv] [] [] (B<|r5a n m nm t s lv) []:=
 have hs0:=afL q0;have hs1:=afL q1;have lz:=aF aj n.aa;have hl:=hm.ah _ (lP (l:=n.aa) (s:=s)<|.inr ⟨hs0,by omega⟩);aV 5 (.r [bT]<|.r zCx<|.r [.int 2,bT]<|.r [.int 3,bT]<|.r zt<|.r [bT]<|.r zBt<|.yes<|.r [.cq (s).toNat (aj<|aB n.aa s),bT]<|.r [bT]<|.r [.int 11,bT]<|.r [.k,bT]<|.r [bT]<|.br .nil<|.r [.k,bT,.int 12,bT] .nil)
 (an a0<|an (cA (ss m) ⟨hm2,h7⟩<|aN 2<|cA (ss n) ⟨hm,h6⟩ a0)<|an (cA (Pg n nm) hm a0)<|an (cA (Ph n nm) hm a0)<|an (a1<|cA (Pp n) hm<|aN 2<|ac (ak<|show(!((dec<|n=m)==(dec<|n=m)))=false from oaf)<|aN 2<|cA (Po n m) ⟨hm,hm2⟩<|aN 3<|cA (Pn n m) ⟨hm,hm2⟩<|aN 2<|ac (ak<|show(zBZ n)=false from(BW _))<|aN 2<|cA (Pm n) ⟨hm,h6⟩<|aN 2<|cA (Pl n) ⟨hm,h6⟩<|a1<|ac (ak<|show(zBg n t)=false from(BW _))<|aN 2<|cA (Pk n t) hm<|aN 3<|cA (Pj n t) hm<|aN 2<|ac (ak<|show(!((zBe n nm)==(zBe n nm)))=false from oaf)<|aN 3<|ac (ak<|show((max (r37 n.rules nm) 0) !=(max (r37 n.rules nm) 0))=false from oaf)<|a1 a0)<|an a0<|an (aN 5<|ac (show(zCX s)=true from q0)<|a1 a0)<|an (show(zr n s)=true from q1)<|have l1:=aF aj (n.aa);an (ac (rwz aj n.aa s) a0)<|an a0<|an (cA (Pq n s (aB n.aa s).ah) ⟨hm,ownA q0 q1⟩ a0)<|an (a1 a0)<|an a0<|an (kbT ((kr5 (aB n.aa s).ah lv)) ⟨by have:=hl.1;omega,hl.2⟩)<|brP (λ(h0:(oM (aB n.aa s).ah lv)=true)=>(bE<|show r5a n m nm t s lv=true from rfl))<|λh0=>
 (an (cA g7w trivial<|ac (show((length (aB n.aa s).ah:Int)==(length (map aD (aB n.aa s).ah):Int))=true from oaf)<|a1 a0)<|bE<|show r5a n m nm t s lv=true from rfl)) (hc:=(aK (.cons (ss n) rfl<|.cons (ss m) rfl<|.cons (Pg n nm) rfl<|.cons (Ph n nm) rfl<|.cons (Pj n t) rfl<|.cons (Pk n t) rfl<|.cons (Pl n) rfl<|.cons (Pm n) rfl<|.cons (Pn n m) rfl<|.cons (Po n m) rfl<|.cons (Pp n) rfl<|.cons (Pq n s (aB n.aa s).ah) rfl<|.cons g7w rfl bB.nil) aC)) (hk:=(bc (l:=[(0,(kr5 (aB n.aa s).ah lv))]) yS (aE (krat5 (aB n.aa s).ah lv) rfl aP) rfl))
def r5b(n m:Net)(nm:ByteArray)(t s lv:Int):Bool:=true
def yT:cy [0] (aG 5)=[(0,kC 0 (aG 5))]:=by kernel_rfl
abbrev zCT:GT:=(.r [bT]<|.r [.int 11,bT]<|.r [.k,bT]<|.r [bT]<|.no<|.r [.k,bT,.int 12,bT] .nil)
def law5b(n m:Net)(nm:ByteArray)(t s lv:Int)(hm:fh n)(hm2:fh m)(h6:r6 n=false)(h7:r6 m=false)(q0:(zCX s)=false):aQ pg 5 [.ag (aY n),.ag (aY m),S nm,I t,I s,I lv] [] [] (B<|r5b n m nm t s lv) []:=
 aV 5 (.r [bT]<|.r zCx<|.r [.int 2,bT]<|.r [.int 3,bT]<|.r zt<|.r [bT]<|.r zBq zCT)
 (an a0<|an (cA (ss m) ⟨hm2,h7⟩<|aN 2<|cA (ss n) ⟨hm,h6⟩ a0)<|an (cA (Pg n nm) hm a0)<|an (cA (Ph n nm) hm a0)<|an (a1<|cA (Pp n) hm<|aN 2<|ac (ak<|show(!((dec<|n=m)==(dec<|n=m)))=false from oaf)<|aN 2<|cA (Po n m) ⟨hm,hm2⟩<|aN 3<|cA (Pn n m) ⟨hm,hm2⟩<|aN 2<|ac (ak<|show(zBZ n)=false from(BW _))<|aN 2<|cA (Pm n) ⟨hm,h6⟩<|aN 2<|cA (Pl n) ⟨hm,h6⟩<|a1<|ac (ak<|show(zBg n t)=false from(BW _))<|aN 2<|cA (Pk n t) hm<|aN 3<|cA (Pj n t) hm<|aN 2<|ac (ak<|show(!((zBe n nm)==(zBe n nm)))=false from oaf)<|aN 3<|ac (ak<|show((max (r37 n.rules nm) 0) !=(max (r37 n.rules nm) 0))=false from oaf)<|a1 a0)<|an a0<|an (aN 4<|ac (ak<|show(zCX s)=false from q0)<|a1 a0)<|an a0<|an (cA (Pq n s []) ⟨hm,ownB q0⟩ a0)<|an (a1 a0)<|an a0<|an (kbT ((GY lv)) trivial)<|an (rfl:false=false)<|an (cA g7w trivial<|aN 2 a0)<|bE<|show r5b n m nm t s lv=true from rfl) (hc:=(aK (.cons (ss n) rfl<|.cons (ss m) rfl<|.cons (Pg n nm) rfl<|.cons (Ph n nm) rfl<|.cons (Pj n t) rfl<|.cons (Pk n t) rfl<|.cons (Pl n) rfl<|.cons (Pm n) rfl<|.cons (Pn n m) rfl<|.cons (Po n m) rfl<|.cons (Pp n) rfl<|.cons (Pq n s []) rfl<|.cons g7w rfl bB.nil) aC)) (hk:=(bc (l:=[(0,(GY lv))]) yT (aE (Zy lv) rfl aP) rfl))
def r5c(n m:Net)(nm:ByteArray)(t s lv:Int):Bool:=true
def yU:cy [0] (aG 5)=[(0,kC 0 (aG 5))]:=by kernel_rfl
section
variable(n m:Net)(nm:ByteArray)(t s lv:Int)
def law5c(hm:fh n)(hm2:fh m)(h6:r6 n=false)(h7:r6 m=false)(q0:(zCX s)=true)(q1:(zr n s)=false):aQ pg 5 [.ag (aY n),.ag (aY m),S nm,I t,I s,I lv] [] [] (B<|r5c n m nm t s lv) []:=
 aV 5 (.r [bT]<|.r zCx<|.r [.int 2,bT]<|.r [.int 3,bT]<|.r zt<|.r [bT]<|.r zBt<|.no zCT)
 (an a0<|an (cA (ss m) ⟨hm2,h7⟩<|aN 2<|cA (ss n) ⟨hm,h6⟩ a0)<|an (cA (Pg n nm) hm a0)<|an (cA (Ph n nm) hm a0)<|an (a1<|cA (Pp n) hm<|aN 2<|ac (ak<|show(!((dec<|n=m)==(dec<|n=m)))=false from oaf)<|aN 2<|cA (Po n m) ⟨hm,hm2⟩<|aN 3<|cA (Pn n m) ⟨hm,hm2⟩<|aN 2<|ac (ak<|show(zBZ n)=false from(BW _))<|aN 2<|cA (Pm n) ⟨hm,h6⟩<|aN 2<|cA (Pl n) ⟨hm,h6⟩<|a1<|ac (ak<|show(zBg n t)=false from(BW _))<|aN 2<|cA (Pk n t) hm<|aN 3<|cA (Pj n t) hm<|aN 2<|ac (ak<|show(!((zBe n nm)==(zBe n nm)))=false from oaf)<|aN 3<|ac (ak<|show((max (r37 n.rules nm) 0) !=(max (r37 n.rules nm) 0))=false from oaf)<|a1 a0)<|an a0<|an (aN 5<|ac (show(zCX s)=true from q0)<|a1 a0)<|an (show(zr n s)=false from q1)<|an a0<|an (cA (Pq n s []) ⟨hm,ownC q0 q1⟩ a0)<|an (a1 a0)<|an a0<|an (kbT ((GY lv)) trivial)<|an (rfl:false=false)<|an (cA g7w trivial<|aN 2 a0)<|bE<|show r5c n m nm t s lv=true from rfl) (hc:=(aK (.cons (ss n) rfl<|.cons (ss m) rfl<|.cons (Pg n nm) rfl<|.cons (Ph n nm) rfl<|.cons (Pj n t) rfl<|.cons (Pk n t) rfl<|.cons (Pl n) rfl<|.cons (Pm n) rfl<|.cons (Pn n m) rfl<|.cons (Po n m) rfl<|.cons (Pp n) rfl<|.cons (Pq n s []) rfl<|.cons g7w rfl bB.nil) aC)) (hk:=(bc (l:=[(0,(GY lv))]) yU (aE (Zy lv) rfl aP) rfl))
theorem Zz(hm:fh n)(hm2:fh m):aQ pg 5 [.ag (aY n),.ag (aY m),S nm,I t,I s,I lv] [] [] (B true) []:=by
 cases h6:r6 n with
 |true=>exact law5g n m nm t s lv hm hm2 h6
 |false=>
  cases h7:r6 m with
  |true=>exact law5h n m nm t s lv hm hm2 h6 h7
  |false=>
   cases h0:decide (s>=0)with
   |false=>exact law5b n m nm t s lv hm hm2 h6 h7 h0
   |true=>
    cases h1:decide (s<(length (map aj n.aa):Int))with
    |false=>exact law5c n m nm t s lv hm hm2 h6 h7 h0 h1
    |true=>exact law5a n m nm t s lv hm hm2 h6 h7 h0 h1
end
open Go.ChangeShapes Go.WideShapes Go.ChangeAt Go.RowKit
def own:ownKnob Tryz.prog.godebug=none:=by kernel_rfl
def lay(l:List Value):Obj->Obj
 | .cells _ t frozen=> .cells l.toArray t frozen
 |o=>o
noncomputable def tI(os:Os):World:={World.holding Tryz.prog os ⟨#[],#[],[]⟩with heap:=(((World.holding Tryz.prog os ⟨#[],#[],[]⟩).heap.modify 0<|lay [.int .u64 1,.int .u64 10,.int .u64 100,.int .u64 1000,.int .u64 10000,.int .u64 100000,.int .u64 1000000,.int .u64 10000000,.int .u64 100000000,.int .u64 1000000000,.int .u64 10000000000,.int .u64 100000000000,.int .u64 1000000000000,.int .u64 10000000000000,.int .u64 100000000000000,.int .u64 1000000000000000,.int .u64 10000000000000000,.int .u64 100000000000000000,.int .u64 1000000000000000000,.int .u64 10000000000000000000]).modify 2<|lay [.int .u8 0,.int .u8 1,.int .u8 28,.int .u8 2,.int .u8 29,.int .u8 14,.int .u8 24,.int .u8 3,.int .u8 30,.int .u8 22,.int .u8 20,.int .u8 15,.int .u8 25,.int .u8 17,.int .u8 4,.int .u8 8,.int .u8 31,.int .u8 27,.int .u8 13,.int .u8 23,.int .u8 21,.int .u8 19,.int .u8 16,.int .u8 7,.int .u8 26,.int .u8 12,.int .u8 18,.int .u8 6,.int .u8 11,.int .u8 5,.int .u8 10,.int .u8 9]).modify 3 (lay [.int .u8 0,.int .u8 1,.int .u8 56,.int .u8 2,.int .u8 57,.int .u8 49,.int .u8 28,.int .u8 3,.int .u8 61,.int .u8 58,.int .u8 42,.int .u8 50,.int .u8 38,.int .u8 29,.int .u8 17,.int .u8 4,.int .u8 62,.int .u8 47,.int .u8 59,.int .u8 36,.int .u8 45,.int .u8 43,.int .u8 51,.int .u8 22,.int .u8 53,.int .u8 39,.int .u8 33,.int .u8 30,.int .u8 24,.int .u8 18,.int .u8 12,.int .u8 5,.int .u8 63,.int .u8 55,.int .u8 48,.int .u8 27,.int .u8 60,.int .u8 41,.int .u8 37,.int .u8 16,.int .u8 46,.int .u8 35,.int .u8 44,.int .u8 21,.int .u8 52,.int .u8 32,.int .u8 23,.int .u8 11,.int .u8 54,.int .u8 26,.int .u8 40,.int .u8 15,.int .u8 34,.int .u8 20,.int .u8 31,.int .u8 10,.int .u8 25,.int .u8 14,.int .u8 19,.int .u8 9,.int .u8 13,.int .u8 8,.int .u8 7,.int .u8 6])}
open Go.ChangeShapes Go.WideShapes Go.ChangeAt Go.RowKit Go.Am
section
variable{H:Type}{enc:TypeId×Value->H}{P:Program}{w:World}{base:Nat}{spare:Nat->Bool}{held:Bool}{fuel:Nat}{t e:TypeId}{cs:List Value}{p:List MemPlace}
theorem take_one{cs:List Value}{i:Nat}{v:Value}(h:(cs.drop i).take 1=[v]):cs[i]? =some v:=by
 have:((cs.drop i).take 1)[0]? =some v:=by rw[h];rfl
 rw[agp,if_pos oaa,agN]at this;simpa using this
theorem ZA{n:Nat}{k:IntKind}{zs:lXC}(ht:P.underlying t=some (.array n e))(he:P.underlying e=some (.int k))(hc:P.cellsOf e=1)(hn:zs.length=n)(ht2:P.cellsOf t=n)(h:DataW.trod enc P w base spare held fuel t cs=some (.agg (zs.map λ(z:Nat)=> .lit<|.int k z),p)):cs=zs.map λ(z:Nat)=>Value.int k z:=by
 obtain⟨xs,m,_,hx,hl,hxl,hel⟩:=DataW.trod_array ht h;simp only[afW,DataW.agg.injEq]at hx;refine af8 λi=> ?_;rw[afM];cases hz:zs[i]? with
 |none=>have:=List.getElem?_eq_none_iff.1 hz;rw[af5 oaa];rfl
 |some z=>
  have hi:i<n:=by rw[<-hn];exact(afF.1 hz).1
  have hd:=hel i hi;rw[hc,Nat.mul_one,afR oaa]at hd;obtain⟨u,h1,h2,_⟩:=DataW.trod_int he hd;have h3:(xs.map (·.1))[i]? =some (.lit<|.int k (z:Nat)):=by rw[<-hx.1,afM,hz];rfl
  rw[afM,afR oaa]at h3;simp only[afV,afD]at h3;rw[h2]at h3;simp only[DataW.lit.injEq,Lit.int.injEq,true_and]at h3;rw[afV,<-h3];exact take_one h1
end
def pows:lXC:=[1,10,100,1000,10000,100000,1000000,10000000,100000000,1000000000,10000000000,100000000000,1000000000000,10000000000000,100000000000000,1000000000000000,10000000000000000,100000000000000000,1000000000000000000,10000000000000000000]
set_option maxRecDepth 100000 in
theorem JK {w:World} (h:laidMet Tryz.prog [("math/bits.deBruijn32tab",Rows.laid_math_bits_deBruijn32tab),("math/bits.deBruijn64tab",Rows.laid_math_bits_deBruijn64tab),("internal/strconv.uint64pow10",Rows.laid_internal_strconv_uint64pow10)] w):lX w:=by
 obtain⟨ps,hv,_,_⟩:=h;obtain⟨_,_,_,_,_,_,_,_,_,_,⟨_,_,_,_,_,_,_,_,_,_,⟨g1,t1,c1,f1,p1,q1,b1,b2,b3,b4,_,_⟩,_⟩,_⟩:=hv;have hg1:Tryz.prog.globalNamed "internal/strconv.uint64pow10" =some 0:=by kernel_rfl
 rw[hg1]at b1;cases b1;have ht1:(Tryz.prog.globals[0]?).map (·.type)=some 158:=by kernel_rfl
 rw[ht1]at b2;cases b2;have hl:(Rows.laid_internal_strconv_uint64pow10:DataW Unit)= .agg (pows.map λ(z:Nat)=> .lit<|.int .u64 z):=by kernel_rfl
 rw[hl]at b4;have n1:=ZA (zs:=pows) (n:=20) (e:=123) oab oab oab oab oab b4;intro g cs hg;have hm:=pj hg;rw[show yV=[(0,pows.map λ(n:Nat)=>Value.int .u64 n)]from rfl]at hm;simp only[agO,afW]at hm;obtain⟨rfl,rfl⟩:=hm;simp only[World.var?,hg1,Option.bind_some]at b3;split at b3
 ·rename_i c t fr hb;cases b3;exact⟨t,fr,by rw[hb,<-n1]⟩
 ·cases b3
open Go.ChangeShapes Go.WideShapes Go.ChangeAt Go.RowKit Go.Am
theorem kids:Mr Tryz.prog=true:=by kernel_rfl
set_option maxRecDepth 100000 in
theorem ZB (H:Type) (enc:TypeId×Value->H) (W:World) (base:Nat) (args:Array Value) (ds gs:List (DataW H)) (before:List MemPlace)
  (hval: ∀(j:Nat) t v,Tryz.f5.params[j]? =some t->args[j]? =some v->Value.okWide Tryz.prog W .any base t v)
  (hW:DataW.Whole enc Tryz.prog Tryz.f5.params.toList Rows.netTellsSpec.vars false W args.toList ds gs before)
  (hT:lX W) (hz: ∀w∈DataW.weightsEach Tryz.prog (Tryz.f5.params.toList++ []) (ds++gs),w<=reachBytes):
  Calls Tryz.prog 5 args W λe W'=> ∃v,e= .returned v/\Rows.netTellsSpec.post enc Tryz.prog Tryz.f5 false true false false W args v W':=by
 have hW':=hW;obtain⟨p,q,hA,hV,rfl,hfz,hnd⟩:=hW;have hA':DataW.TrodAll enc Tryz.prog W 0 (λ_=>true) true Tryz.f5.params.toList args.toList ds p:=hA;rw[Tryz.params5]at hA' hval hz;obtain⟨v0,vs0,d0,ds0,p0,q0,hargs,rfl,rfl,h0,r0⟩:=trodAll_cons hA';obtain⟨v1,vs1,d1,ds1,p1,q1,rfl,rfl,rfl,h1,r1⟩:=trodAll_cons r0;obtain⟨v2,vs2,d2,ds2,p2,q2,rfl,rfl,rfl,h2,r2⟩:=trodAll_cons r1;obtain⟨v3,vs3,d3,ds3,p3,q3,rfl,rfl,rfl,h3,r3⟩:=trodAll_cons r2;obtain⟨v4,vs4,d4,ds4,p4,q4,rfl,rfl,rfl,h4,r4⟩:=trodAll_cons r3;obtain⟨v5,vs5,d5,ds5,p5,q5,rfl,rfl,rfl,h5,r5⟩:=trodAll_cons r4;obtain⟨rfl,rfl,rfl⟩:=trodAll_nil r5;obtain rfl:args= #[v0,v1,v2,v3,v4,v5]:=by cases args;simp_all
 obtain⟨t0,ft0,hr0⟩:=Mt (hW:=hT.qg) (hval 0 26 v0 rfl rfl) h0 λw hw=>hz w (gq (i:=0) rfl rfl w hw);obtain⟨t1,ft1,hr1⟩:=Mt (hW:=hT.qg) (hval 1 26 v1 rfl rfl) h1 λw hw=>hz w (gq (i:=1) rfl rfl w hw);obtain⟨s2,rfl,rfl,rfl,hs2⟩:=Go.ChangeMaps.open_string u9 (hval 2 9 v2 rfl rfl) h2;obtain⟨n3,rfl,rfl,rfl,hn3⟩:=open_int u3 (hval 3 3 v3 rfl rfl) h3;obtain⟨n4,rfl,rfl,rfl,hn4⟩:=open_int u3 (hval 4 3 v4 rfl rfl) h4;obtain⟨n5,rfl,rfl,rfl,hn5⟩:=open_int u3 (hval 5 3 v5 rfl rfl) h5;refine(Ao ((λt0 ft0 t1 ft1 s2 _ n3 n4 n5=>Zz t0 t1 s2 n3 n4 n5 ft0 ft1) t0 ft0 t1 ft1 s2 hs2 n3 n4 n5) W hT (vs:=[v0,v1,.string s2,.int .i64 n3,.int .i64 n4,.int .i64 n5]) ⟨_,_,rfl,hr0,_,_,rfl,hr1,_,_,rfl,rfl,_,_,rfl,rfl,_,_,rfl,rfl,_,_,rfl,rfl,rfl⟩).mono λe W'⟨he,hk⟩=> ?_;subst he;exact⟨_,rfl,OM hW' hk kids oab rfl (tb:=4) oab oab rfl rfl rfl⟩
def ZC(os:Os):laidMet Tryz.prog Rows.netTellsRow.laid ((tI os).forCall (λ_ _=>0) ⟨#[],#[.agg #[.slice none 0 0,.slice none 0 0,.slice none 0 0,.slice none 0 0,.slice none 0 0],.agg #[.slice none 0 0,.slice none 0 0,.slice none 0 0,.slice none 0 0,.slice none 0 0],.string ⟨#[]⟩,.int .i64 0,.int .i64 0,.int .i64 0],[]⟩).memory:=laidMet_of_run' 8 oab oab
def reads(os:Os){H:Type}(enc:TypeId×Value->H): ∃places,DataW.whole enc Tryz.prog ((tI os).forCall (λ_ _=>0) ⟨#[],#[.agg #[.slice none 0 0,.slice none 0 0,.slice none 0 0,.slice none 0 0,.slice none 0 0],.agg #[.slice none 0 0,.slice none 0 0,.slice none 0 0,.slice none 0 0,.slice none 0 0],.string ⟨#[]⟩,.int .i64 0,.int .i64 0,.int .i64 0],[]⟩).memory Tryz.f5.params.toList Rows.netTellsSpec.vars false #[.agg #[.slice none 0 0,.slice none 0 0,.slice none 0 0,.slice none 0 0,.slice none 0 0],.agg #[.slice none 0 0,.slice none 0 0,.slice none 0 0,.slice none 0 0,.slice none 0 0],.string ⟨#[]⟩,.int .i64 0,.int .i64 0,.int .i64 0].toList 8=some ([.agg [.nil,.nil,.nil,.nil,.nil],.agg [.nil,.nil,.nil,.nil,.nil],.lit (.string []),.lit (.int .i64 0),.lit (.int .i64 0),.lit (.int .i64 0)],[],places):=⟨[],by kernel_rfl⟩
set_option maxRecDepth 100000 in
theorem lifted (os:Os) (started:os.Started) (H:Type) (enc:TypeId×Value->H) (F:Stop.Interp):
  ReturnsInHanded {} Tryz.checked os 5 .any ((OpenSpec.ofChange Rows.netTellsSpec).preRow enc Tryz.prog Tryz.f5 Rows.netTellsRow.domain false Rows.netTellsRow.laid) (((OpenSpec.ofChange Rows.netTellsSpec).at F).post enc Tryz.prog Tryz.f5 false true false false):=by
 obtain⟨places,hx⟩:=reads os enc;refine returnsInHanded_of_row (C:=Tryz.checked) (s:=OpenSpec.ofChange Rows.netTellsSpec) own started oab Tryz.func5
  (witness_row_at (enc:=enc) (C:=Tryz.checked) false (tI os) #[.agg #[.slice none 0 0,.slice none 0 0,.slice none 0 0,.slice none 0 0,.slice none 0 0],.agg #[.slice none 0 0,.slice none 0 0,.slice none 0 0,.slice none 0 0,.slice none 0 0],.string ⟨#[]⟩,.int .i64 0,.int .i64 0,.int .i64 0] rfl oab oab oab<|OpenSpec.preRow_of_cond 8 hx oab (λk hk=>by cases hk) oab<|ZC os) ?_
 intro W base args ds gs before hval hW _ _ hz hL _ _;exact ZB H enc W base args ds gs before hval hW (JK hL) λw hw=>afL (af2.1 hz w hw)
def said:Rows.NetTellsSaid:=
 OpenClaim.holds_of_cond 5 Tryz.f5 rfl rfl rfl rfl rfl rfl rfl ⟨rfl,rfl,rfl,rfl,rfl⟩ rfl rfl rfl rfl rfl oab Tryz.func5 oab
  (afL oab) (by unfold Func.isWrapper;first|(rw[if_pos (by decide+kernel)];kernel_rfl)|(rw[if_neg (by decide+kernel)];exact⟨rfl,rfl⟩))
  (λos started H enc _ F=>by rw[OpenClaim.pre_eq_preRow];exact lifted os started H enc F)
def plain(f:FuncId)(fn:Func)(hf:Tryz.pinned.checked.prog.funcNamed "pollard/pollardlaw11.NetTells" =some f)(hfn:Tryz.pinned.checked.prog.funcs[f]? =some fn):false=Tryz.pinned.checked.prog.looks []/\ ∀(j:Nat) t,fn.params[j]? =some t->Tryz.pinned.checked.prog.wantsStandIn t=false:=by
 obtain rfl:f=5:=agH ((show Tryz.prog.funcNamed "pollard/pollardlaw11.NetTells" =some 5 by kernel_rfl).symm.trans hf)|>.symm;obtain rfl:fn=Tryz.f5:=(agH<|Tryz.func5.symm.trans hfn).symm;refine⟨by kernel_rfl,λj t ht=> ?_⟩;rw[Tryz.params5]at ht;have hm:t=26\/t=26\/t=9\/t=3\/t=3\/t=3:=by simpa using Array.mem_of_getElem? ht
 rcases hm with rfl|rfl|rfl|rfl|rfl|rfl
 ·exact(show Tryz.prog.wantsStandIn 26=false by kernel_rfl)
 ·exact(show Tryz.prog.wantsStandIn 26=false by kernel_rfl)
 ·exact(show Tryz.prog.wantsStandIn 9=false by kernel_rfl)
 ·exact(show Tryz.prog.wantsStandIn 3=false by kernel_rfl)
 ·exact(show Tryz.prog.wantsStandIn 3=false by kernel_rfl)
 ·exact(show Tryz.prog.wantsStandIn 3=false by kernel_rfl)
def netTells_card:Rows.NetTellsCardSaid:=Claim7.holds_tied_plain_at .later [] _ _ _ _ said (λ_ h=>by cases h) oab (λ_ h=>by cases h) netTells_row_tie rfl ⟨rfl,rfl⟩ oab rfl plain oab
end Go.Proofs.YtfkjfjalecikkaaGreatDoor
end
