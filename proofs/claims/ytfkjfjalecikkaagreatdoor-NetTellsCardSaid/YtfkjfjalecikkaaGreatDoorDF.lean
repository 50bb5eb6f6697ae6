/- Kinds of edges (net). States (net). Graphs: which nodes are come to from one. graph.from. graph.from: the nodes come to from one, by a step at least. ref11.reach: the states that are come to from one. ref11.reach: its loops, the function. Which rules may take nothing (the document's answer). Rings of free edges (the document's answer). Rings of calls (the document's answer). -/
import Derived.Test.YtfkjfjalecikkaaGreatDoorDE
set_option linter.defProp false
open Go.IntKind (wrap)
noncomputable section
open List (length map range replicate)
set_option maxRecDepth 100000
namespace Go.Proofs.YtfkjfjalecikkaaGreatDoor
open Go.Am
def r77(n:Net)(r:bJ)(no:Int)(e:Edge):Bool:=((e.n==0)&&e.level==0)
abbrev zL(e:Edge)(n:Net)(no:Int)(r:bJ):lXF:=[.pf (aY n),.pf (aw r),I no,.pf (aD e)]
section
variable(n:Net)(r:bJ)(no:Int)(e:Edge)
theorem adA:aQ pg 77 [.ag (zL e n no r)] [] [] (B<|r77 n r no e) []:=
 aV 77 (.r [bT] zBl)
 (an a0<|aO (λ(h0:(e.n==0)=true)=>(an (aN 6<|ac h0<|a1 a0)<|bE<|show r77 n r no e=(e.level==0)from(ay h0 rfl)))<|λh0=>(an (aN 5<|ac (ak h0)<|a1 a0)<|bE<|show r77 n r no e=false from(aT h0)))
def r79:Bool:=((decide<|e.n>=0)&&((decide<|e.n<(length (map aw n.rules):Int))&&(((aB n.rules e.n).bR==r.bR)&&((decide<|e.level>=0)&&((decide<|e.level<=65)&&((e.level==0)||((e.n==no)&&r.left)))))))
theorem adB(hl:length n.rules<=9223372036854775807):aQ pg 79 [.ag (zL e n no r)] [] [] (B<|r79 n r no e) []:=
 aV 79 (.r [bT]<|.a (.a (.a (.a (.a (.a (.r (.k::uTT 12 (.k::uTT 11 (.cq (e.n).toNat (aw<|aB n.rules e.n)::uTT 8 (.k::uTT 6 (.k::uTT 6 (.k::uTT 6 (.k::bT::uFF 15 [bT,bT]))))))) .nil)<|.a (.r (.k::uTT 12 (.k::uTT 11 (.cq (e.n).toNat (aw<|aB n.rules e.n)::uTT 8 (.k::uTT 6 (.k::uTT 6 (.k::uTT 6 (.k::uTT 9 (.k::uTT 9 [])))))))) .nil)<|.r (.k::uTT 12 (.k::uTT 11 (.cq (e.n).toNat (aw<|aB n.rules e.n)::uTT 8 (.k::uTT 6 (.k::uTT 6 (.k::uTT 6 (.k::uTT 9 (.k::bT::uFF 5 [bT,bT,bT])))))))) .nil)<|.r (.k::uTT 12 (.k::uTT 11 (.cq (e.n).toNat (aw<|aB n.rules e.n)::uTT 8 (.k::uTT 6 (.k::uTT 6 (.k::uFF 23 [bT])))))) .nil)<|.r (.k::uTT 12 (.k::uTT 11 (.cq (e.n).toNat (aw<|aB n.rules e.n)::uTT 8 (.k::uTT 6 (.k::uFF 29 [bT]))))) .nil)<|.r (.k::uTT 12 (.k::uTT 11 (.cq (e.n).toNat (aw<|aB n.rules e.n)::uTT 8 (.k::uFF 35 [bT])))) .nil)<|.r (.k::uTT 12 (.k::uFF 54 [bT])) .nil)<|.r (.k::uFF 66 [bT]) .nil)
 (an a0<|aO (λ(h0:(decide<|e.n>=0)=true)=>have q0:=(ay h0 rfl:r79 n r no e=_);have g0:=afL h0;
 (aO (λ(h1:(decide<|e.n<(length (map aw n.rules):Int))=true)=>have q1:=q0.trans (ay h1 rfl);have l1:=aF aw (n.rules);have g1:=afL h1;
 (aO (λ(h2:((aB n.rules e.n).bR==r.bR)=true)=>have q2:=q1.trans (ay h2 rfl);
 (aO (λ(h3:(decide<|e.level>=0)=true)=>have q3:=q2.trans (ay h3 rfl);have g3:=afL h3;
 (aO (λ(h4:(decide<|e.level<=65)=true)=>have q4:=q3.trans (ay h4 rfl);have g4:=afL h4;
 (aO (λ(h5:(e.level==0)=true)=>have g5:=eq_of_beq h5;
 (an (aN 15<|ac (n2 h5)<|aN 7<|ac h4<|aN 6<|ac h3<|aN 6<|ac h2<|aN 9<|ac (rwz aw n.rules e.n)<|aN 10<|ac h1<|aN 12<|ac h0<|a1 a0)<|bE<|q4.trans<|orT h5))<|λh5=>have g5:=afT h5;
 (aO (λ(h6:(e.n==no)=true)=>(an (aN 6<|ac h6<|aN 9<|ac (ak h5)<|aN 7<|ac h4<|aN 6<|ac h3<|aN 6<|ac h2<|aN 9<|ac (rwz aw n.rules e.n)<|aN 10<|ac h1<|aN 12<|ac h0<|a1 a0)<|bE<|show r79 n r no e=r.left from(ay h0<|ay h1<|ay h2<|ay h3<|ay h4<|orF h5<|ay h6 rfl)))<|λh6=>(an (aN 6<|ac (ak h6)<|aN 9<|ac (ak h5)<|aN 7<|ac h4<|aN 6<|ac h3<|aN 6<|ac h2<|aN 9<|ac (rwz aw n.rules e.n)<|aN 10<|ac h1<|aN 12<|ac h0<|a1 a0)<|bE<|q4.trans<|orF h5<|aT h6))))<|λh4=>have g4:=afE h4;
 (an (aN 22<|ac (ak h4)<|aN 6<|ac h3<|aN 6<|ac h2<|aN 9<|ac (rwz aw n.rules e.n)<|aN 10<|ac h1<|aN 12<|ac h0<|a1 a0)<|bE<|q3.trans<|aT h4)))<|λh3=>have g3:=afE h3;
 (an (aN 28<|ac (ak h3)<|aN 6<|ac h2<|aN 9<|ac (rwz aw n.rules e.n)<|aN 10<|ac h1<|aN 12<|ac h0<|a1 a0)<|bE<|q2.trans<|aT h3)))<|λh2=>(an (aN 34<|ac (ak h2)<|aN 9<|ac (rwz aw n.rules e.n)<|aN 10<|ac h1<|aN 12<|ac h0<|a1 a0)<|bE<|q1.trans<|aT h2)))<|λh1=>(an (aN 53<|ac (ak h1)<|aN 12<|ac h0<|a1 a0)<|bE<|q0.trans<|aT h1)))<|λh0=>(an (aN 65<|ac (ak h0)<|a1 a0)<|bE<|show r79 n r no e=false from(aT h0)))
end
def r83(n:Net)(r:bJ)(no:Int)(e:Edge):Bool:=((decide<|e.n>=1)&&((decide<|e.n<=64)&&e.level==0))
theorem adC(n:Net)(r:bJ)(no:Int)(e:Edge):aQ pg 83 [.ag (zL e n no r)] [] [] (B<|r83 n r no e) []:=
 aV 83 (.r [bT]<|.a (.a (.r (.k::uTT 6 (.k::uTT 6 [.k,bT])) .nil)<|.r (.k::uTT 6 (.k::uFF 6 [bT])) .nil)<|.r zCK .nil)
 (an a0<|aO (λ(h0:(decide<|e.n>=1)=true)=>(aO (λ(h1:(decide<|e.n<=64)=true)=>(an (aN 6<|ac h1<|aN 6<|ac h0<|a1 a0)<|bE<|show r83 n r no e=(e.level==0)from(ay h0<|ay h1 rfl)))<|λh1=>(an (aN 5<|ac (ak h1)<|aN 6<|ac h0<|a1 a0)<|bE<|show r83 n r no e=false from(ay h0<|aT h1))))<|λh0=>(an (aN 11<|ac (ak h0)<|a1 a0)<|bE<|show r83 n r no e=false from(aT h0)))
def r84(n:Net)(r:bJ)(no:Int)(e:Edge):Bool:=(r.left&&((decide<|e.n>=1)&&((decide<|e.n<=64)&&((decide<|e.level>=1)&&decide (e.level<=64)))))
theorem adD(n:Net)(r:bJ)(no:Int)(e:Edge):aQ pg 84 [.ag (zL e n no r)] [] [] (B<|r84 n r no e) []:=
 aV 84 (.r [bT]<|.a (.a (.a (.a (.r (uTT 6 (.k::uTT 6 (.k::uTT 6 (.k::uTT 6 [.k,bT])))) .nil)<|.r (uTT 6 (.k::uTT 6 (.k::uTT 6 (.k::uFF 6 [bT])))) .nil)<|.r (uTT 6 (.k::uTT 6 (.k::uFF 12 [bT]))) .nil)<|.r (uTT 6 (.k::uFF 18 [bT])) .nil)<|.r (uFF 24 [bT]) .nil)
 (an a0<|aO (λ(h0:(r.left)=true)=>have q0:=(ay h0 rfl:r84 n r no e=_);
 (aO (λ(h1:(decide<|e.n>=1)=true)=>have q1:=q0.trans (ay h1 rfl);
 (aO (λ(h2:(decide<|e.n<=64)=true)=>(aO (λ(h3:(decide<|e.level>=1)=true)=>(an (aN 6<|ac h3<|aN 6<|ac h2<|aN 6<|ac h1<|aN 6<|ac h0 a0)<|bE<|show r84 n r no e=(decide<|e.level<=64)from(ay h0<|ay h1<|ay h2<|ay h3 rfl)))<|λh3=>(an (aN 5<|ac (ak h3)<|aN 6<|ac h2<|aN 6<|ac h1<|aN 6<|ac h0 a0)<|bE<|q1.trans<|ay h2<|aT h3)))<|λh2=>(an (aN 11<|ac (ak h2)<|aN 6<|ac h1<|aN 6<|ac h0 a0)<|bE<|q1.trans<|aT h2)))<|λh1=>(an (aN 17<|ac (ak h1)<|aN 6<|ac h0 a0)<|bE<|q0.trans<|aT h1)))<|λh0=>(an (aN 23<|ac (ak h0) a0)<|bE<|show r84 n r no e=false from(aT h0)))
def r85(n:Net)(r:bJ)(no:Int)(e:Edge):Bool:=(r.left&&((e.n==0)&&e.level==0))
theorem adE(n:Net)(r:bJ)(no:Int)(e:Edge):aQ pg 85 [.ag (zL e n no r)] [] [] (B<|r85 n r no e) []:=
 aV 85 (.r [bT]<|.a (.a (.r (uTT 6 (.k::uTT 6 [.k,bT])) .nil)<|.r (uTT 6 (.k::uFF 6 [bT])) .nil) zDM)
 (an a0<|aO (λ(h0:(r.left)=true)=>(aO (λ(h1:(e.n==0)=true)=>(an (aN 6<|ac h1<|aN 6<|ac h0 a0)<|bE<|show r85 n r no e=(e.level==0)from(ay h0<|ay h1 rfl)))<|λh1=>(an (aN 5<|ac (ak h1)<|aN 6<|ac h0 a0)<|bE<|show r85 n r no e=false from(ay h0<|aT h1))))<|λh0=>(an (aN 11<|ac (ak h0) a0)<|bE<|show r85 n r no e=false from(aT h0)))
def r78(n:Net)(r:bJ)(no:Int)(e:Edge):Bool:=(bif r.bR then((e.n==0)&&((e.level==0)&&((decide<|(((ae e.set 0)).1)>=0)&&decide ((((aB e.set<|(length (map aJ e.set):Int)-1)).2)<=1114111))))else((e.n==0)&&((e.level==0)&&((decide<|(((ae e.set 0)).1)>=1)&&decide ((((aB e.set<|(length (map aJ e.set):Int)-1)).2)<=(wrap .i32 (length (map aU n.types):Int)))))))
abbrev zT(e:Edge):GT:=(.r [bT]<|.a (.a (.a (.r (.k::uTT 6 (.k::bT::bT::.row (aJ<|ae e.set 0)::uTT 4 (.k::uTT 4 (.int ((length (zBE e):Int)-1)::bT::.cq (((length (zBE e):Int)-1)).toNat (aJ<|aB e.set<|(length (zBE e):Int)-1)::uTT 4 [.k,bT])))) .nil)<|.r (.k::uTT 6 (.k::bT::bT::.row (aJ<|ae e.set 0)::uTT 4 (.k::uFF 9 [bT]))) .nil)<|.r (.k::uTT 6 (.k::uFF 15 [bT])) .nil)<|.r (.k::uFF 21 [bT]) .nil)
theorem adF(n:Net)(r:bJ)(no:Int)(e:Edge)(ht:length n.types<=9223372036854775807)(hs:0<length e.set)(hl:length e.set<=9223372036854775807):aQ pg 78 [.ag (zL e n no r)] [] [] (B<|r78 n r no e) []:=
 aV 78 (.r [bT]<|.r [bT]<|.r [bT]<|.br (.r [bT]<|zT e)<|zT e)
 (an a0<|an a0<|an a0<|brP (λ(h0:(r.bR)=true)=>(an a0<|an a0<|aO (λ(h1:(e.n==0)=true)=>have g1:=eq_of_beq h1;
 (aO (λ(h2:(e.level==0)=true)=>have g2:=eq_of_beq h2;
 (aO (λ(h3:(decide<|(((ae e.set 0)).1)>=0)=true)=>have g3:=afL h3;
 (have l1:=aF aJ (e.set);an (aN 5<|ac (rwz aJ e.set<|(length (map aJ e.set):Int)-1)<|a1<|ac (dwo<|(length (map aJ e.set):Int)-1)<|aN 3<|ac h3<|aN 5<|ac (rwa aJ e.set 0)<|a1<|ac h2<|aN 6<|ac h1<|a1 a0)<|bE<|show r78 n r no e=_ from(cdT h0<|ay h1<|ay h2<|ay h3 rfl)))<|λh3=>have g3:=afE h3;
 (an (aN 8<|ac (ak h3)<|aN 5<|ac (rwa aJ e.set 0)<|a1<|ac h2<|aN 6<|ac h1<|a1 a0)<|bE<|show r78 n r no e=_ from(cdT h0<|ay h1<|ay h2<|aT h3))))<|λh2=>(an (aN 14<|ac (ak h2)<|aN 6<|ac h1<|a1 a0)<|bE<|show r78 n r no e=_ from(cdT h0<|ay h1<|aT h2))))<|λh1=>(an (aN 20<|ac (ak h1)<|a1 a0)<|bE<|show r78 n r no e=_ from(cdT h0<|aT h1))))<|λh0=>(an a0<|aO (λ(h1:(e.n==0)=true)=>have g1:=eq_of_beq h1;
 (aO (λ(h2:(e.level==0)=true)=>have g2:=eq_of_beq h2;
 (aO (λ(h3:(decide<|(((ae e.set 0)).1)>=1)=true)=>have g3:=afL h3;
 (have l1:=aF aJ (e.set);an (aN 5<|ac (rwz aJ e.set<|(length (map aJ e.set):Int)-1)<|a1<|ac (dwo<|(length (map aJ e.set):Int)-1)<|aN 3<|ac h3<|aN 5<|ac (rwa aJ e.set 0)<|a1<|ac h2<|aN 6<|ac h1<|a1 a0)<|bE<|show r78 n r no e=_ from(cdF h0<|ay h1<|ay h2<|ay h3 rfl)))<|λh3=>have g3:=afE h3;
 (an (aN 8<|ac (ak h3)<|aN 5<|ac (rwa aJ e.set 0)<|a1<|ac h2<|aN 6<|ac h1<|a1 a0)<|bE<|show r78 n r no e=_ from(cdF h0<|ay h1<|ay h2<|aT h3))))<|λh2=>(an (aN 14<|ac (ak h2)<|aN 6<|ac h1<|a1 a0)<|bE<|show r78 n r no e=_ from(cdF h0<|ay h1<|aT h2))))<|λh1=>(an (aN 20<|ac (ak h1)<|a1 a0)<|bE<|show r78 n r no e=_ from(cdF h0<|aT h1))))
section
variable(e:Edge)(o:Int)
def r82e:Bool:=(((G.op e.g)==o)||kR o (G.kids e.g))
def To(hf:dh e.g):aQ pg 82 [.pf [I8 (G.op e.g),I (G.n e.g),S (G.name e.g),.sl 4 (map gC<|G.kids e.g),.sl 2 (map cw e.ct),I e.to],I8 o] [] [] (B<|r82e e o) []:=
 aV 82 (.r [bT]<|.a (.r zJ .nil) zCS)
 (an a0<|aO (λ(h0:((G.op e.g)==o)=true)=>(an (aN 5<|ac (n2 h0)<|a1 a0)<|bE<|show r82e e o=true from(orT h0)))<|λh0=>(an (cA (C5 hf.len<|λu hu=>uc o u<|hf.kids u hu) trivial<|aN 5<|ac (ak h0)<|a1 a0)<|bE<|show r82e e o=(kR o<|G.kids e.g)from(orF h0 rfl))) (hc:=(aK (.cons (C5 hf.len<|λu hu=>uc o u<|hf.kids u hu) rfl bB.nil) aC))
theorem aau:r82e e o=eW o e.g:=by obtain⟨a,b,c,d,g,f,h⟩:=e;obtain⟨o',n,s,l⟩:=g;rfl
def i82e:bC:=⟨82,[.pf ((aD e).drop 4),I8 o],B (eW o e.g),dh e.g⟩
theorem Ol:(i82e e o).bu pg:=λhp=>⟨by have:=To e o hp;rw[aau]at this;exact this,by simp[i82e,aD,aq,AV.pure],rfl⟩
end
def r80(n:Net)(r:bJ)(no:Int)(e:Edge):Bool:=((e.n==0)&&((e.level==0)&&(((r81 e.g)==0)&&((!(eW 14 e.g))&&(r.bR|| !(eW 13 e.g))))))
section
variable(n:Net)
theorem adG(r:bJ)(no:Int)(e:Edge)(he:gh e):aQ pg 80 [.ag (zL e n no r)] [] [] (B<|r80 n r no e) []:=
 aV 80 (.r [bT]<|.a (.a (.a (.a (.a (.r (.k::uTT 6 (.k::uTT 6 (.int 0::bT::.k::uTT 5 (.int 1::uTT 7 (uFF 6 [bT,bT]))))) .nil)<|.r (.k::uTT 6 (.k::uTT 6 (.int 0::bT::.k::uTT 5 (.int 1::uTT 12 [.int 2,bT,bT,bT])))) .nil)<|.r (.k::uTT 6 (.k::uTT 6 (.int 0::bT::.k::uTT 5 (.int 1::bT::uFF 13 [bT])))) .nil)<|.r (.k::uTT 6 (.k::uTT 6 (.int 0::bT::.k::uFF 19 [bT]))) .nil)<|.r (.k::uTT 6 (.k::uFF 26 [bT])) .nil)<|.r (.k::uFF 32 [bT]) .nil)
 (an a0<|aO (λ(h0:(e.n==0)=true)=>have q0:=(ay h0 rfl:r80 n r no e=_);
 (aO (λ(h1:(e.level==0)=true)=>have q1:=q0.trans (ay h1 rfl);
 (aO (λ(h2:((r81 e.g)==0)=true)=>have q2:=q1.trans (ay h2 rfl);
 (aO (λ(h3:(!(eW 14 e.g))=true)=>(aO (λ(h4:(r.bR)=true)=>(an (aN 6<|ac (n2 h4)<|aN 5<|ac h3<|a1<|cA (Ol e 14) he.g<|aN 4<|ac h2<|aN 2<|cA (g81 e.g) he.g<|aN 5<|ac h1<|aN 6<|ac h0<|a1 a0)<|bE<|q2.trans<|ay h3<|orT h4))<|λh4=>(an (aN 2<|cA (Ol e 13) he.g<|aN 4<|ac (ak h4)<|aN 5<|ac h3<|a1<|cA (Ol e 14) he.g<|aN 4<|ac h2<|aN 2<|cA (g81 e.g) he.g<|aN 5<|ac h1<|aN 6<|ac h0<|a1 a0)<|bE<|show r80 n r no e=(!(eW 13 e.g))from(ay h0<|ay h1<|ay h2<|ay h3<|orF h4 rfl))))<|λh3=>(an (aN 12<|ac (ak h3)<|a1<|cA (Ol e 14) he.g<|aN 4<|ac h2<|aN 2<|cA (g81 e.g) he.g<|aN 5<|ac h1<|aN 6<|ac h0<|a1 a0)<|bE<|q2.trans<|aT h3)))<|λh2=>(an (aN 18<|ac (ak h2)<|aN 2<|cA (g81 e.g) he.g<|aN 5<|ac h1<|aN 6<|ac h0<|a1 a0)<|bE<|q1.trans<|aT h2)))<|λh1=>(an (aN 25<|ac (ak h1)<|aN 6<|ac h0<|a1 a0)<|bE<|q0.trans<|aT h1)))<|λh0=>(an (aN 31<|ac (ak h0)<|a1 a0)<|bE<|show r80 n r no e=false from(aT h0))) (hc:=(aK (.cons (g81 e.g) rfl<|.cons (Ol e 14) rfl<|.cons (Ol e 13) rfl bB.nil) aC))
def r88(r:bJ)(no:Int)(e:Edge)(a:Int×Int):Bool:= !(r89 n a)
section
variable(r:bJ)(no:Int)(e:Edge)(a:Int×Int)
theorem act88:aQ pg 88 [.ag (cw a),.pf (zL e n no r)] [] [] (B<|r88 n r no e a) []:=
 aV 88 zDH
 (an a0<|an (cA (g89 n a) trivial a0)<|bE<|show r88 n r no e a=(!(r89 n a))from rfl) (hc:=(aK (.cons (g89 n a) rfl bB.nil) aC))
def i88:bC:=⟨88,[.ag (cw a),.pf (zL e n no r)],B (r88 n r no e a),True⟩
theorem g88:(i88 n r no e a).bu pg:=λ_=>(by simp_all[act88,i88,aq,AV.pure])
end
end
def Tp:Code:=bn 0 (aG 103)
abbrev It(n:Net)(r:bJ)(no:Int)(e:Edge)(l:List (Int×Int))(i0:Nat):Am.Loc:=[(0,.sl 2 (map cw l)),(1,.fn (.func 88) [] [.pf (zL e n no r)]),(7,I (length (map cw l):Int)),(8,I (i0:Int))]
abbrev Iu(n:Net)(r:bJ)(no:Int)(e:Edge)(l:List (Int×Int))(i0:Nat):lXE:=[]
section
variable(n:Net)(r:bJ)(no:Int)(e:Edge)(l:List (Int×Int))
def pW(i0:Nat):Bool:=(r88 n r no e<|ae l i0)
def x4:Bool:=cz (length l) (pW n r no e l)
end
abbrev Lg(n:Net)(r:bJ)(no:Int)(e:Edge)(l:List (Int×Int))(i0:Nat):Am.Loc:=[(4,I (i0:Int))]
abbrev Lh(n:Net)(r:bJ)(no:Int)(e:Edge)(l:List (Int×Int))(i0:Nat):lXE:=[]
abbrev Lj(n:Net)(r:bJ)(no:Int)(e:Edge)(l:List (Int×Int)):Am.Loc:=[]
abbrev Lk(n:Net)(r:bJ)(no:Int)(e:Edge)(l:List (Int×Int)):lXE:=[]
section
variable(n:Net)(r:bJ)(no:Int)(e:Edge)(l:List (Int×Int))
def Dj:KB:=anK 0 (length l) (pW n r no e l) (It n r no e l) (Iu n r no e l) .ret (Lg n r no e l) (Lh n r no e l) (.exit 0) (Lj n r no e l) (Lk n r no e l) (True)
abbrev Iv(i0:Nat):List bG:=[htW (pW n r no e l i0) .ret (Lg n r no e l i0) zI (Lh n r no e l i0),nxW (pW n r no e l i0) (It n r no e l<|i0+1) (Iu n r no e l<|i0+1) (It n r no e l<|i0+1) zI (Iu n r no e l<|i0+1)]
def Om(ls:length l<=9223372036854775807):ca pg 19 0 0 (.loop Tp) (Dj n r no e l):=
 anB (Iv n r no e l) (λi0=>(.r [.k,bT]<|.yes<|.r [bT]<|.r [.row (cw<|ae l i0),.int 0,bT]<|.br zB<|zC i0)) (range 0) zF
 (λ_ i0(hx0:i0<(length l))=>have l1:=aF cw (l);have hb:(decide<|(i0:Int)<(length (map cw l):Int))=true:=afH oaa;
 bq (an (a1 a0)<|an hb<|an a0<|an (cAk (g88 n r no e<|ae l i0) trivial [.ag (cw<|ae l i0)] [.pf (zL e n no r)] oam oam<|ac (rwa cw l i0) a0)<|brP (λ(h1:(r88 n r no e<|ae l i0)=true)=>(an a0<|lf (wy (Iv n r no e l i0) 0) 0<|show pW n r no e l i0=true from h1))<|λh1=>(an (ac (dwo ((i0+1:Nat):Int)) a0)<|lf (wy (Iv n r no e l i0) 1) 0 ⟨(show pW n r no e l i0=false from h1),rfl,rfl⟩))
 oab)
 (λ_=>have l1:=aF cw (l);have hb:(decide<|(((length l):Nat):Int)<(length (map cw l):Int))=false:=afI oaa;
 bq (an (a1 a0)<|an hb<|lx (.exit 0) (Lj n r no e l) (range 0) (Lk n r no e l) 0)
 oab) (hc:=λ_ i0 hx0=>(aK (.cons (g88 n r no e<|ae l i0) rfl bB.nil) aC))
def Iw:Int:=(bif x4 n r no e l then(((gQ (length l)<|pW n r no e l):Nat):Int)else(-1))
end
def rC:cy [0] (aG 103)=[(0,.loop Tp)]:=by kernel_rfl
section
variable(n:Net)(r:bJ)
section
variable(no:Int)(e:Edge)(l:List (Int×Int))
theorem adH(ls:length l<=9223372036854775807):aQ pg 103 [.sl 2 (map cw l),.fn (.func 88) [] [.pf (zL e n no r)]] [] [] (I<|Iw n r no e l) []:=
 aV 103 zBS
 (an a0<|an a0<|an (kbT (Dj n r no e l) trivial)<|brP (λ(h0:(x4 n r no e l)=true)=>(iE<|show Iw n r no e l=_ from(cdT h0 rfl)))<|λh0=>(an a0<|iE<|show Iw n r no e l=_ from(cdF h0 rfl))) (hk:=(bc (l:=[(0,Dj n r no e l)]) rC (aE (Om n r no e l ls) rfl aP) rfl))
def i103:bC:=⟨103,[.sl 2 (l.map cw),.fn (.func 88) [] [.pf (zL e n no r)]],I (Iw n r no e l),l.length<=9223372036854775807⟩
theorem g103:(i103 n r no e l).bu pg:=λhp=>(by simp_all[adH,i103,aq,AV.pure])
def r87:Bool:=decide ((Iw n r no e l)>=0)
def Ix(ls:length l<=9223372036854775807):aQ pg 87 [.sl 2 (map cw l),.fn (.func 88) [] [.pf (zL e n no r)]] [] [] (B<|r87 n r no e l) []:=
 aV 87 zCC
 (an a0<|an (a1<|cA (g103 n r no e l) ls a0)<|bE<|show r87 n r no e l=(decide<|(Iw n r no e l)>=0)from rfl) (hc:=(aK (.cons (g103 n r no e l) rfl bB.nil) aC))
theorem adI:r87 n r no e l=l.any λa=> !(r89 n a):=by have h2:x4 n r no e l=l.any λa=> !(r89 n a):=jI (λa=> !(r89 n a)) l;grind[r87,Iw]
def i87:bC:=⟨87,[.sl 2 (l.map cw),.fn (.func 88) [] [.pf (zL e n no r)]],B (l.any λa=> !(r89 n a)),l.length<=9223372036854775807⟩
theorem g87:(i87 n r no e l).bu pg:=λhp=>⟨by have:=Ix n r no e l hp;rw[adI]at this;exact this,by simp[i87,aq,AV.pure],rfl⟩
end
def r86(no:Int)(e:Edge):Bool:=(r.bR&&((!r.ft)&&((e.n==0)&&((e.level==0)&& !(e.ct.any λa=> !(r89 n a))))))
section
variable(no:Int)(e:Edge)
theorem adJ(ha:length e.ct<=9223372036854775807):aQ pg 86 [.ag (zL e n no r)] [] [] (B<|r86 n r no e) []:=
 aV 86 (.r [bT]<|.a (.a (.a (.a (.r (uTT 12 (.k::uTT 6 (.k::uTT 7 [.int 0,bT,bT]))) .nil)<|.r (uTT 12 (.k::uTT 6 (.k::uFF 8 [bT]))) .nil)<|.r (uTT 12 (.k::uFF 14 [bT])) .nil)<|.r (uTT 6<|uFF 20 [bT]) .nil)<|.r (uFF 26 [bT]) .nil)
 (an a0<|aO (λ(h0:(r.bR)=true)=>have q0:=(ay h0 rfl:r86 n r no e=_);
 (aO (λ(h1:(!r.ft)=true)=>have q1:=q0.trans (ay h1 rfl);
 (aO (λ(h2:(e.n==0)=true)=>(aO (λ(h3:(e.level==0)=true)=>(an (a1<|cA (g87 n r no e e.ct) ha<|aN 6<|ac h3<|aN 6<|ac h2<|aN 6<|ac h1<|aN 5<|ac h0 a0)<|bE<|show r86 n r no e=(!(e.ct.any λa=> !(r89 n a)))from(ay h0<|ay h1<|ay h2<|ay h3 rfl)))<|λh3=>(an (aN 7<|ac (ak h3)<|aN 6<|ac h2<|aN 6<|ac h1<|aN 5<|ac h0 a0)<|bE<|q1.trans<|ay h2<|aT h3)))<|λh2=>(an (aN 13<|ac (ak h2)<|aN 6<|ac h1<|aN 5<|ac h0 a0)<|bE<|q1.trans<|aT h2)))<|λh1=>(an (aN 19<|ac (ak h1)<|aN 5<|ac h0 a0)<|bE<|q0.trans<|aT h1)))<|λh0=>(an (aN 25<|ac (ak h0) a0)<|bE<|show r86 n r no e=false from(aT h0))) (hc:=(aK (.cons (g87 n r no e e.ct) rfl bB.nil) aC))
def i77:bC:=⟨77,[.ag (zL e n no r)],B (r77 n r no e),True⟩
theorem g77:(i77 n r no e).bu pg:=λhp=>(by simp_all[adA,i77,aq,AV.pure])
def i78:bC:=⟨78,[.ag (zL e n no r)],B (r78 n r no e),(length n.types<=9223372036854775807)/\(0<length e.set)/\(length e.set<=9223372036854775807)⟩
theorem g78:(i78 n r no e).bu pg:=λhp=>(by simp_all[adF,i78,aq,AV.pure])
def i79:bC:=⟨79,[.ag (zL e n no r)],B (r79 n r no e),(length n.rules<=9223372036854775807)⟩
theorem g79:(i79 n r no e).bu pg:=λhp=>(by simp_all[adB,i79,aq,AV.pure])
def i80:bC:=⟨80,[.ag (zL e n no r)],B (r80 n r no e),(gh e)⟩
theorem g80:(i80 n r no e).bu pg:=λhp=>(by simp_all[adG,i80,aq,AV.pure])
def i83:bC:=⟨83,[.ag (zL e n no r)],B (r83 n r no e),True⟩
theorem g83:(i83 n r no e).bu pg:=λhp=>(by simp_all[adC,i83,aq,AV.pure])
def i84:bC:=⟨84,[.ag (zL e n no r)],B (r84 n r no e),True⟩
theorem g84:(i84 n r no e).bu pg:=λhp=>(by simp_all[adD,i84,aq,AV.pure])
def i85:bC:=⟨85,[.ag (zL e n no r)],B (r85 n r no e),True⟩
theorem g85:(i85 n r no e).bu pg:=λhp=>(by simp_all[adE,i85,aq,AV.pure])
def i86:bC:=⟨86,[.ag (zL e n no r)],B (r86 n r no e),(length e.ct<=9223372036854775807)⟩
theorem g86:(i86 n r no e).bu pg:=λhp=>(by simp_all[adJ,i86,aq,AV.pure])
end
end
def r63:AV:= .ag [.fn (.func 77) [] [],.fn (.func 78) [] [],.fn (.func 79) [] [],.fn (.func 80) [] [],.fn (.func 83) [] [],.fn (.func 84) [] [],.fn (.func 85) [] [],.fn (.func 86) [] []]
def aav:aQ pg 63 [] [] [] (r63) []:=
 aV 63 (.r [bT] zD)
 (an a0<|an a0<|vE<|show r63=(.ag [.fn (.func 77) [] [],.fn (.func 78) [] [],.fn (.func 79) [] [],.fn (.func 80) [] [],.fn (.func 83) [] [],.fn (.func 84) [] [],.fn (.func 85) [] [],.fn (.func 86) [] []])from rfl)
def i63:bC:=⟨63,[],.ag [.fn (.func 77) [] [],.fn (.func 78) [] [],.fn (.func 79) [] [],.fn (.func 80) [] [],.fn (.func 83) [] [],.fn (.func 84) [] [],.fn (.func 85) [] [],.fn (.func 86) [] []],True⟩
def g63:i63.bu pg:=λ_=>⟨aav,rfl,rfl⟩
def Ll:Code:=bn 0 (aG 28)
def Ln:Code:=bn 2 Ll
def Dk(n:Net)(i0 i2:Nat)(y2:lXA):lXA:=(bif dec ((ae (ae n.aa i0).ah i2).n∈y2)then y2 else y2++ [(ae (ae n.aa i0).ah i2).n])
def cC(n:Net)(i0 kk:Nat):lXA:=Nat.rec (motive:=λ_=>lXA) ([]) (λj a=>Dk n i0 j a) kk
def ach:Code:=kC 4 Ln
def eQ(n:Net)(i0 i2:Nat):Bool:=((!(r62 n (ae (ae n.aa i0).ah i2).to (ae n.aa i0).aI))||(((r64 (ae (ae n.aa i0).ah i2).set) !=0)||((decide<|(ae (ae n.aa i0).ah i2).op<0)||((decide<|(wrap .i64 (ae (ae n.aa i0).ah i2).op)>=8)||((!(((ae (ae n.aa i0).ah i2).op==1)==(decide<|(length (map aJ (ae (ae n.aa i0).ah i2).set):Int)>0)))||((!(((ae (ae n.aa i0).ah i2).op==7)==(decide<|(length (map cw (ae (ae n.aa i0).ah i2).ct):Int)>0)))||((!(((ae (ae n.aa i0).ah i2).op==4)==((i0:Int)==(aB n.rules (ae n.aa i0).aI).start)))||(bif (ae (ae n.aa i0).ah i2).op !=3 then(((G.op (ae (ae n.aa i0).ah i2).g) !=0)||(((G.n (ae (ae n.aa i0).ah i2).g) !=0)||((!(cp (Array.toList<|ByteArray.data<|G.name (ae (ae n.aa i0).ah i2).g) []))||((decide<|(length (map gC<|G.kids (ae (ae n.aa i0).ah i2).g):Int)>0)||(bif (ae (ae n.aa i0).ah i2).op==0 then(!(r77 n (aB n.rules (ae n.aa i0).aI) (ae n.aa i0).aI<|ae (ae n.aa i0).ah i2))else(bif (ae (ae n.aa i0).ah i2).op==1 then(!(r78 n (aB n.rules (ae n.aa i0).aI) (ae n.aa i0).aI<|ae (ae n.aa i0).ah i2))else(bif (ae (ae n.aa i0).ah i2).op==2 then(!(r79 n (aB n.rules (ae n.aa i0).aI) (ae n.aa i0).aI<|ae (ae n.aa i0).ah i2))else(bif (ae (ae n.aa i0).ah i2).op==4 then((!(r83 n (aB n.rules (ae n.aa i0).aI) (ae n.aa i0).aI<|ae (ae n.aa i0).ah i2))||(dec<|(ae (ae n.aa i0).ah i2).n∈(cC n i0 i2)))else(bif (ae (ae n.aa i0).ah i2).op==5 then(!(r84 n (aB n.rules (ae n.aa i0).aI) (ae n.aa i0).aI<|ae (ae n.aa i0).ah i2))else(bif (ae (ae n.aa i0).ah i2).op==6 then(!(r85 n (aB n.rules (ae n.aa i0).aI) (ae n.aa i0).aI<|ae (ae n.aa i0).ah i2))else(!(r86 n (aB n.rules (ae n.aa i0).aI) (ae n.aa i0).aI<|ae (ae n.aa i0).ah i2))))))))))))else(!(r80 n (aB n.rules (ae n.aa i0).aI) (ae n.aa i0).aI<|ae (ae n.aa i0).ah i2))))))))))
abbrev Tq(n:Net)(i0 i2:Nat):Am.Loc:=[(2,B false)]
abbrev Tr(n:Net)(i0 i2:Nat):lXE:=[]
abbrev zA(n:Net):=(map aj n.aa)
abbrev zp(i0:Nat)(n:Net):=(map aD<|zG i0 n)
abbrev zAr(i0 i2:Nat)(n:Net):=(ae (zG i0 n) i2)
abbrev zAd(i0 i2:Nat)(n:Net):Am.Loc:=[(0,.pf (aY n)),(3,.pt 0 0),(4,I (i0:Int)),(5,.pt 1 0),(6,.pf (aw<|aB n.rules<|zCe i0 n)),(7,.mp 2),(9,.pf (aD<|zAr i0 i2 n)),(14,.sl 2 (zA n)),(15,I (length (zA n):Int)),(16,I (i0:Int)),(56,I (length (zp i0 n):Int)),(57,I (i2:Int))]
abbrev Ts(n:Net)(i0 i2:Nat):Am.Loc:=(zAd i0 i2 n)
abbrev zBI(i0 i2:Nat)(n:Net):lXE:=[.box 106 [.fn (.func 77) [] [],.fn (.func 78) [] [],.fn (.func 79) [] [],.fn (.func 80) [] [],.fn (.func 83) [] [],.fn (.func 84) [] [],.fn (.func 85) [] [],.fn (.func 86) [] []],.box 40 (zh i0 n),pP (cC n i0 i2)]
section
variable(n:Net)
section
variable(i0 i2:Nat)
abbrev Tt:lXE:=(zBI i0 i2 n)
def Iy:KB:=⟨(zAd i0 i2 n),(zBI i0 i2 n),eQ n i0 i2,.ret,Tq n i0 i2,Tr n i0 i2,.normal,Ts n i0 i2,Tt n i0 i2,True⟩
abbrev eX:List bG:=jhW (eQ n i0 i2) .ret (Tq n i0 i2) (Tr n i0 i2) .normal (Ts n i0 i2) (Tt n i0 i2)
theorem Tu(hf:bW n)(hx0:i0<(length n.aa))(hx2:i2<(length (ae n.aa i0).ah)):ca pg 201 0 4 ach (Iy n i0 i2):=jhB (.r [.int 0,bT]<|.br zB<|.r [.int 1,.k,bT]<|.br zB<|.a (.r zJ zB)<|.r zAC<|.br zB<|.r zCw<|.br zB<|.r zCw<|.br zB<|.r zCw<|.br zB<|.a (.a (.r (.k::uTT 6 (.k::bT::uFF 6 (bT::bT::uFF 6 (bT::bT::uFF 7 [bT,bT])))) zB)<|.a (.r (.k::uTT 6 (.k::uTT 7 (.k::bT::bT::uFF 6 (bT::bT::uFF 7 [bT,bT])))) zB)<|.a (.r (.k::uTT 6 (.k::uTT 7 (.k::uTT 8 (.k::bT::bT::uFF 7 [bT,bT])))) zB)<|.r (.k::uTT 6 (.k::uTT 7 (.k::uTT 8 (.k::uTT 9 [.k,bT,bT]))))<|.br zB<|.a (.r [.cq 0 [],.int 2,bT]<|.br zB<|.r zJ<|.pick 1)<|.a (.r [.cq 1 [],.int 3,bT]<|.br zB<|.r zJ<|.pick 1)<|.a (.r [.cq 2 [],.int 4,bT]<|.br zB<|.r zJ<|.pick 1)<|.a (.r [.cq 4 [],.int 5,bT]<|.br zB<|.r (.k::uTT 6 [.key (kQ (cC n i0 i2) (ae (ae n.aa i0).ah i2).n) (B<|dec<|(ae (ae n.aa i0).ah i2).n∈(cC n i0 i2)),bT])<|.br zB<|.pick 1)<|.a (.r [.cq 5 [],.int 6,bT]<|.br zB<|.r zJ<|.pick 1)<|.a (.r [.cq 6 [],.int 7,bT]<|.br zB<|.r zJ<|.pick 1)<|.r [.cq 7 [],.int 8,bT]<|.br zB<|.r zJ<|.pick 1)<|.r (.k::uFF 31 [bT])<|.r [.cq 3 [],.int 9,bT]<|.br zB<|.r zJ<|.pick 1) (λ_=>have hr:=hf.rules;have hs:=hf.aa;have he:gh (ae (ae n.aa i0).ah i2):=hf.nE _ (ai hx0) _ (ai hx2);have ho:=he.op;have hw:wrap .i64 (ae (ae n.aa i0).ah i2).op=Edge.op (ae (ae n.aa i0).ah i2):=wrap_i64 oaa oaa;bq (an (cA (g62 n (ae (ae n.aa i0).ah i2).to (ae n.aa i0).aI) trivial a0)<|brP (λ(h0:(!(r62 n (ae (ae n.aa i0).ah i2).to (ae n.aa i0).aI))=true)=>(an a0<|lf (wy (eX n i0 i2) 0) 3<|orT h0))<|λh0=>have g0:=ry (F1 h0);
 (an (a1<|cA (g64 (ae (ae n.aa i0).ah i2).set) he.set a0)<|brP (λ(h1:((r64 (ae (ae n.aa i0).ah i2).set) !=0)=true)=>(an a0<|lf (wy (eX n i0 i2) 0) 3<|orF h0<|orT h1))<|λh1=>have g1:=cE h1;
 (aO (λ(h2:(decide<|(ae (ae n.aa i0).ah i2).op<0)=true)=>(an (aN 5<|ac (n2 h2)<|a1 a0)<|an a0<|lf (wy (eX n i0 i2) 0) 3<|orF h0<|orF h1<|orT h2))<|λh2=>have g2:=afE h2;
 (an (aN 6<|ac (ak h2)<|a1 a0)<|brP (λ(h3:(decide<|(wrap .i64 (ae (ae n.aa i0).ah i2).op)>=8)=true)=>(an a0<|lf (wy (eX n i0 i2) 0) 3<|orF h0<|orF h1<|orF h2<|orT h3))<|λh3=>have g3:=afE h3;
 (an (aN 3 a0)<|brP (λ(h4:(!(((ae (ae n.aa i0).ah i2).op==1)==(decide<|(length (map aJ (ae (ae n.aa i0).ah i2).set):Int)>0)))=true)=>(an a0<|lf (wy (eX n i0 i2) 0) 3<|orF h0<|orF h1<|orF h2<|orF h3<|orT h4))<|λh4=>have l1:=aF aJ ((ae (ae n.aa i0).ah i2).set);have g4:=F2 h4;have g4:=F2 h4;
 (an (aN 3 a0)<|brP (λ(h5:(!(((ae (ae n.aa i0).ah i2).op==7)==(decide<|(length (map cw (ae (ae n.aa i0).ah i2).ct):Int)>0)))=true)=>(an a0<|lf (wy (eX n i0 i2) 0) 3<|orF h0<|orF h1<|orF h2<|orF h3<|orF h4<|orT h5))<|λh5=>have l2:=aF cw ((ae (ae n.aa i0).ah i2).ct);have g5:=F2 h5;have g5:=F2 h5;
 (an (aN 3 a0)<|brP (λ(h6:(!(((ae (ae n.aa i0).ah i2).op==4)==((i0:Int)==(aB n.rules (ae n.aa i0).aI).start)))=true)=>(an a0<|lf (wy (eX n i0 i2) 0) 3<|orF h0<|orF h1<|orF h2<|orF h3<|orF h4<|orF h5<|orT h6))<|λh6=>(aO (λ(h7:((ae (ae n.aa i0).ah i2).op !=3)=true)=>have g7:=HJ h7;
 (aO (λ(h8:((G.op (ae (ae n.aa i0).ah i2).g) !=0)=true)=>(an (aN 23<|ac (n2 h8)<|aN 7<|ac h7<|a1 a0)<|an a0<|lf (wy (eX n i0 i2) 0) 3<|orF h0<|orF h1<|orF h2<|orF h3<|orF h4<|orF h5<|orF h6<|cdT h7<|orT h8))<|λh8=>have g8:=cE h8;
 (aO (λ(h9:((G.n (ae (ae n.aa i0).ah i2).g) !=0)=true)=>(an (aN 15<|ac (n2 h9)<|aN 8<|ac (ak h8)<|aN 7<|ac h7<|a1 a0)<|an a0<|lf (wy (eX n i0 i2) 0) 3<|orF h0<|orF h1<|orF h2<|orF h3<|orF h4<|orF h5<|orF h6<|cdT h7<|orF h8<|orT h9))<|λh9=>have g9:=cE h9;
 (aO (λ(h10:(!(cp (Array.toList<|ByteArray.data<|G.name (ae (ae n.aa i0).ah i2).g) []))=true)=>(an (aN 7<|ac (n2 h10)<|aN 8<|ac (ak h9)<|aN 8<|ac (ak h8)<|aN 7<|ac h7<|a1 a0)<|an a0<|lf (wy (eX n i0 i2) 0) 3<|orF h0<|orF h1<|orF h2<|orF h3<|orF h4<|orF h5<|orF h6<|cdT h7<|orF h8<|orF h9<|orT h10))<|λh10=>(an (aN 8<|ac (ak h10)<|aN 8<|ac (ak h9)<|aN 8<|ac (ak h8)<|aN 7<|ac h7<|a1 a0)<|brP (λ(h11:(decide<|(length (map gC<|G.kids (ae (ae n.aa i0).ah i2).g):Int)>0)=true)=>(an a0<|lf (wy (eX n i0 i2) 0) 3<|orF h0<|orF h1<|orF h2<|orF h3<|orF h4<|orF h5<|orF h6<|cdT h7<|orF h8<|orF h9<|orF h10<|orT h11))<|λh11=>have l3:=aF gC ((G.kids (ae (ae n.aa i0).ah i2).g));have g11:=afE h11;
 (aO (λ(h12:((ae (ae n.aa i0).ah i2).op==0)=true)=>have g12:=eq_of_beq h12;
 (an (cA (g77 n (aB n.rules (ae n.aa i0).aI) (ae n.aa i0).aI<|ae (ae n.aa i0).ah i2) trivial<|ac (rzA (y:=(ae (ae n.aa i0).ah i2).op) (z:=0) (len:=8) oaa rfl) a0)<|brP (λ(h13:(!(r77 n (aB n.rules (ae n.aa i0).aI) (ae n.aa i0).aI<|ae (ae n.aa i0).ah i2))=true)=>(an a0<|lf (wy (eX n i0 i2) 0) 3<|orF h0<|orF h1<|orF h2<|orF h3<|orF h4<|orF h5<|orF h6<|cdT h7<|orF h8<|orF h9<|orF h10<|orF h11<|cdT h12 h13))<|λh13=>(an (aN 5<|ac (ak<|show((ae (ae n.aa i0).ah i2).op==4)=false by rw[eq_of_beq h12];rfl)<|a1 a0)<|lf (wy (eX n i0 i2) 1) 3<|orF h0<|orF h1<|orF h2<|orF h3<|orF h4<|orF h5<|orF h6<|cdT h7<|orF h8<|orF h9<|orF h10<|orF h11<|cdT h12 h13)))<|λh12=>have g12:=afT h12;
 (aO (λ(h13:((ae (ae n.aa i0).ah i2).op==1)=true)=>have g13:=eq_of_beq h13;
 (an (cA (g78 n (aB n.rules (ae n.aa i0).aI) (ae n.aa i0).aI<|ae (ae n.aa i0).ah i2) ⟨hf.types,(show 0<length (ae (ae n.aa i0).ah i2).set by omega),he.set⟩<|ac (rzA (y:=(ae (ae n.aa i0).ah i2).op) (z:=1) (len:=8) oaa rfl) a0)<|brP (λ(h14:(!(r78 n (aB n.rules (ae n.aa i0).aI) (ae n.aa i0).aI<|ae (ae n.aa i0).ah i2))=true)=>(an a0<|lf (wy (eX n i0 i2) 0) 3<|orF h0<|orF h1<|orF h2<|orF h3<|orF h4<|orF h5<|orF h6<|cdT h7<|orF h8<|orF h9<|orF h10<|orF h11<|cdF h12<|cdT h13 h14))<|λh14=>(an (aN 5<|ac (ak<|show((ae (ae n.aa i0).ah i2).op==4)=false by rw[eq_of_beq h13];rfl)<|a1 a0)<|lf (wy (eX n i0 i2) 1) 3<|orF h0<|orF h1<|orF h2<|orF h3<|orF h4<|orF h5<|orF h6<|cdT h7<|orF h8<|orF h9<|orF h10<|orF h11<|cdF h12<|cdT h13 h14)))<|λh13=>have g13:=afT h13;
 (aO (λ(h14:((ae (ae n.aa i0).ah i2).op==2)=true)=>have g14:=eq_of_beq h14;
 (an (cA (g79 n (aB n.rules (ae n.aa i0).aI) (ae n.aa i0).aI<|ae (ae n.aa i0).ah i2) (show length n.rules<=9223372036854775807 by omega)<|ac (rzA (y:=(ae (ae n.aa i0).ah i2).op) (z:=2) (len:=8) oaa rfl) a0)<|brP (λ(h15:(!(r79 n (aB n.rules (ae n.aa i0).aI) (ae n.aa i0).aI<|ae (ae n.aa i0).ah i2))=true)=>(an a0<|lf (wy (eX n i0 i2) 0) 3<|orF h0<|orF h1<|orF h2<|orF h3<|orF h4<|orF h5<|orF h6<|cdT h7<|orF h8<|orF h9<|orF h10<|orF h11<|cdF h12<|cdF h13<|cdT h14 h15))<|λh15=>(an (aN 5<|ac (ak<|show((ae (ae n.aa i0).ah i2).op==4)=false by rw[eq_of_beq h14];rfl)<|a1 a0)<|lf (wy (eX n i0 i2) 1) 3<|orF h0<|orF h1<|orF h2<|orF h3<|orF h4<|orF h5<|orF h6<|cdT h7<|orF h8<|orF h9<|orF h10<|orF h11<|cdF h12<|cdF h13<|cdT h14 h15)))<|λh14=>have g14:=afT h14;
 (aO (λ(h15:((ae (ae n.aa i0).ah i2).op==4)=true)=>have g15:=eq_of_beq h15;
 (an (cA (g83 n (aB n.rules (ae n.aa i0).aI) (ae n.aa i0).aI<|ae (ae n.aa i0).ah i2) trivial<|ac (rzA (y:=(ae (ae n.aa i0).ah i2).op) (z:=4) (len:=8) oaa rfl) a0)<|brP (λ(h16:(!(r83 n (aB n.rules (ae n.aa i0).aI) (ae n.aa i0).aI<|ae (ae n.aa i0).ah i2))=true)=>(an a0<|lf (wy (eX n i0 i2) 0) 3<|orF h0<|orF h1<|orF h2<|orF h3<|orF h4<|orF h5<|orF h6<|cdT h7<|orF h8<|orF h9<|orF h10<|orF h11<|cdF h12<|cdF h13<|cdF h14<|cdT h15<|orT h16))<|λh16=>(an (ac (lkI (ae (ae n.aa i0).ah i2).n<|cC n i0 i2)<|aN 5<|ac h15<|a1 a0)<|brP (λ(h17:(dec<|(ae (ae n.aa i0).ah i2).n∈(cC n i0 i2))=true)=>(an a0<|lf (wy (eX n i0 i2) 0) 3<|orF h0<|orF h1<|orF h2<|orF h3<|orF h4<|orF h5<|orF h6<|cdT h7<|orF h8<|orF h9<|orF h10<|orF h11<|cdF h12<|cdF h13<|cdF h14<|cdT h15<|orF h16 h17))<|λh17=>(lf (wy (eX n i0 i2) 1) 3<|orF h0<|orF h1<|orF h2<|orF h3<|orF h4<|orF h5<|orF h6<|cdT h7<|orF h8<|orF h9<|orF h10<|orF h11<|cdF h12<|cdF h13<|cdF h14<|cdT h15<|orF h16 h17))))<|λh15=>have g15:=afT h15;
 (aO (λ(h16:((ae (ae n.aa i0).ah i2).op==5)=true)=>have g16:=eq_of_beq h16;
 (an (cA (g84 n (aB n.rules (ae n.aa i0).aI) (ae n.aa i0).aI<|ae (ae n.aa i0).ah i2) trivial<|ac (rzA (y:=(ae (ae n.aa i0).ah i2).op) (z:=5) (len:=8) oaa rfl) a0)<|brP (λ(h17:(!(r84 n (aB n.rules (ae n.aa i0).aI) (ae n.aa i0).aI<|ae (ae n.aa i0).ah i2))=true)=>(an a0<|lf (wy (eX n i0 i2) 0) 3<|orF h0<|orF h1<|orF h2<|orF h3<|orF h4<|orF h5<|orF h6<|cdT h7<|orF h8<|orF h9<|orF h10<|orF h11<|cdF h12<|cdF h13<|cdF h14<|cdF h15<|cdT h16 h17))<|λh17=>(an (aN 5<|ac (ak h15)<|a1 a0)<|lf (wy (eX n i0 i2) 1) 3<|orF h0<|orF h1<|orF h2<|orF h3<|orF h4<|orF h5<|orF h6<|cdT h7<|orF h8<|orF h9<|orF h10<|orF h11<|cdF h12<|cdF h13<|cdF h14<|cdF h15<|cdT h16 h17)))<|λh16=>have g16:=afT h16;
 (aO (λ(h17:((ae (ae n.aa i0).ah i2).op==6)=true)=>have g17:=eq_of_beq h17;
 (an (cA (g85 n (aB n.rules (ae n.aa i0).aI) (ae n.aa i0).aI<|ae (ae n.aa i0).ah i2) trivial<|ac (rzA (y:=(ae (ae n.aa i0).ah i2).op) (z:=6) (len:=8) oaa rfl) a0)<|brP (λ(h18:(!(r85 n (aB n.rules (ae n.aa i0).aI) (ae n.aa i0).aI<|ae (ae n.aa i0).ah i2))=true)=>(an a0<|lf (wy (eX n i0 i2) 0) 3<|orF h0<|orF h1<|orF h2<|orF h3<|orF h4<|orF h5<|orF h6<|cdT h7<|orF h8<|orF h9<|orF h10<|orF h11<|cdF h12<|cdF h13<|cdF h14<|cdF h15<|cdF h16<|cdT h17 h18))<|λh18=>(an (aN 5<|ac (ak h15)<|a1 a0)<|lf (wy (eX n i0 i2) 1) 3<|orF h0<|orF h1<|orF h2<|orF h3<|orF h4<|orF h5<|orF h6<|cdT h7<|orF h8<|orF h9<|orF h10<|orF h11<|cdF h12<|cdF h13<|cdF h14<|cdF h15<|cdF h16<|cdT h17 h18)))<|λh17=>have g17:=afT h17;
 (an (cA (g86 n (aB n.rules (ae n.aa i0).aI) (ae n.aa i0).aI<|ae (ae n.aa i0).ah i2) he.ct<|ac (rzA (y:=(ae (ae n.aa i0).ah i2).op) (z:=7) (len:=8) oaa rfl) a0)<|brP (λ(h18:(!(r86 n (aB n.rules (ae n.aa i0).aI) (ae n.aa i0).aI<|ae (ae n.aa i0).ah i2))=true)=>(an a0<|lf (wy (eX n i0 i2) 0) 3<|orF h0<|orF h1<|orF h2<|orF h3<|orF h4<|orF h5<|orF h6<|cdT h7<|orF h8<|orF h9<|orF h10<|orF h11<|cdF h12<|cdF h13<|cdF h14<|cdF h15<|cdF h16<|cdF h17 h18))<|λh18=>(an (aN 5<|ac (ak h15)<|a1 a0)<|lf (wy (eX n i0 i2) 1) 3<|orF h0<|orF h1<|orF h2<|orF h3<|orF h4<|orF h5<|orF h6<|cdT h7<|orF h8<|orF h9<|orF h10<|orF h11<|cdF h12<|cdF h13<|cdF h14<|cdF h15<|cdF h16<|cdF h17 h18)))))))))))))<|λh7=>have g7:=cE h7;
 (an (aN 30<|ac (ak h7)<|a1 a0)<|an (cA (g80 n (aB n.rules (ae n.aa i0).aI) (ae n.aa i0).aI<|ae (ae n.aa i0).ah i2) he<|ac (rzA (y:=(ae (ae n.aa i0).ah i2).op) (z:=3) (len:=8) oaa rfl) a0)<|brP (λ(h8:(!(r80 n (aB n.rules (ae n.aa i0).aI) (ae n.aa i0).aI<|ae (ae n.aa i0).ah i2))=true)=>(an a0<|lf (wy (eX n i0 i2) 0) 3<|orF h0<|orF h1<|orF h2<|orF h3<|orF h4<|orF h5<|orF h6<|cdF h7 h8))<|λh8=>(an (aN 5<|ac (ak<|show((ae (ae n.aa i0).ah i2).op==4)=false by rw[cE h7];rfl)<|a1 a0)<|lf (wy (eX n i0 i2) 1) 3<|orF h0<|orF h1<|orF h2<|orF h3<|orF h4<|orF h5<|orF h6<|cdF h7 h8))))))))))
 oab) (hc:=(aK (.cons (g62 n (ae (ae n.aa i0).ah i2).to (ae n.aa i0).aI) rfl<|.cons (g64 (ae (ae n.aa i0).ah i2).set) rfl<|.cons (g77 n (aB n.rules (ae n.aa i0).aI) (ae n.aa i0).aI<|ae (ae n.aa i0).ah i2) rfl<|.cons (g78 n (aB n.rules (ae n.aa i0).aI) (ae n.aa i0).aI<|ae (ae n.aa i0).ah i2) rfl<|.cons (g79 n (aB n.rules (ae n.aa i0).aI) (ae n.aa i0).aI<|ae (ae n.aa i0).ah i2) rfl<|.cons (g83 n (aB n.rules (ae n.aa i0).aI) (ae n.aa i0).aI<|ae (ae n.aa i0).ah i2) rfl<|.cons (g84 n (aB n.rules (ae n.aa i0).aI) (ae n.aa i0).aI<|ae (ae n.aa i0).ah i2) rfl<|.cons (g85 n (aB n.rules (ae n.aa i0).aI) (ae n.aa i0).aI<|ae (ae n.aa i0).ah i2) rfl<|.cons (g86 n (aB n.rules (ae n.aa i0).aI) (ae n.aa i0).aI<|ae (ae n.aa i0).ah i2) rfl<|.cons (g80 n (aB n.rules (ae n.aa i0).aI) (ae n.aa i0).aI<|ae (ae n.aa i0).ah i2) rfl bB.nil) aC))
end
abbrev adK(i0 i2:Nat)(y2:lXA):lXE:=[.box 106 [.fn (.func 77) [] [],.fn (.func 78) [] [],.fn (.func 79) [] [],.fn (.func 80) [] [],.fn (.func 83) [] [],.fn (.func 84) [] [],.fn (.func 85) [] [],.fn (.func 86) [] []],.box 40 (zh i0 n),pP y2]
abbrev Tv(i0 i2:Nat):Am.Loc:=[(0,.pf (aY n)),(3,.pt 0 0),(4,I (i0:Int)),(5,.pt 1 0),(6,.pf (aw<|aB n.rules<|zCe i0 n)),(7,.mp 2),(14,.sl 2 (zA n)),(15,I (length (zA n):Int)),(16,I (i0:Int)),(56,I (length (zp i0 n):Int)),(57,I (i2:Int))]
abbrev Gb(i0 i2:Nat):lXE:=adK n i0 i2 (cC n i0 i2)
def uf(i0 i2:Nat):Bool:=(eQ n i0 i2)
def kE(i0:Nat):Bool:=cz (length (ae n.aa i0).ah) (uf n i0)
end
abbrev Tw(n:Net)(i0 i2:Nat):Am.Loc:=[(2,B false)]
abbrev Tx(n:Net)(i0 i2:Nat):lXE:=[]
abbrev zCy(i0:Nat)(n:Net):Am.Loc:=[(0,.pf (aY n)),(3,.pt 0 0),(14,.sl 2 (zA n)),(15,I (length (zA n):Int)),(16,I (i0:Int))]
section
variable(n:Net)(i0:Nat)
abbrev Ty:Am.Loc:=(zCy i0 n)
abbrev Tz:lXE:=[.box 106 [.fn (.func 77) [] [],.fn (.func 78) [] [],.fn (.func 79) [] [],.fn (.func 80) [] [],.fn (.func 83) [] [],.fn (.func 84) [] [],.fn (.func 85) [] [],.fn (.func 86) [] []],.box 40 (zh i0 n),pP (cC n i0<|length<|zG i0 n)]
def Dm:KB:=anK 2 (length<|zG i0 n) (uf n i0) (Tv n i0) (Gb n i0) .ret (Tw n i0) (Tx n i0) (.exit 2) (Ty n i0) (Tz n i0) (True)
end
abbrev zAi(i0 i2:Nat)(n:Net):Am.Loc:=[(0,.pf (aY n)),(3,.pt 0 0),(4,I (i0:Int)),(5,.pt 1 0),(6,.pf (aw<|aB n.rules<|zCe i0 n)),(7,.mp 2),(14,.sl 2 (zA n)),(15,I (length (zA n):Int)),(16,I (i0:Int)),(56,I (length (zp i0 n):Int)),(57,I ↑(i2+1))]
abbrev Lo(n:Net)(i0 i2:Nat):List bG:=[htW (uf n i0 i2) .ret (Tw n i0 i2) zI (Tx n i0 i2),nxW (uf n i0 i2) (Tv n i0<|i2+1) (Gb n i0<|i2+1) (zAi i0 i2 n) (range 3) [.box 106 [.fn (.func 77) [] [],.fn (.func 78) [] [],.fn (.func 79) [] [],.fn (.func 80) [] [],.fn (.func 83) [] [],.fn (.func 84) [] [],.fn (.func 85) [] [],.fn (.func 86) [] []],.box 40 (zh i0 n),.mp (map (Value.int .i64)<|cC n i0 i2) ((map tru<|cC n i0 i2).set (HK (cC n i0 i2) (zAr i0 i2 n).n)<|.v<|.bool true)],nxW (uf n i0 i2) (Tv n i0<|i2+1) (Gb n i0<|i2+1) (zAi i0 i2 n) (range 3) [.box 106 [.fn (.func 77) [] [],.fn (.func 78) [] [],.fn (.func 79) [] [],.fn (.func 80) [] [],.fn (.func 83) [] [],.fn (.func 84) [] [],.fn (.func 85) [] [],.fn (.func 86) [] []],.box 40 (zh i0 n),.mp (map (Value.int .i64) (cC n i0 i2)++ [.int .i64 (zAr i0 i2 n).n]) (map tru (cC n i0 i2)++ [.v (.bool true)])]]
def Dn:cy [4] Ln=[(4,ach)]:=by kernel_rfl
def TA(n:Net)(i0:Nat)(hf:bW n)(hx0:i0<(length n.aa)):ca pg 201 0 2 (.loop Ln) (Dm n i0):=
 anB (Lo n i0) (λi2=>(.r [.k,bT]<|.yes<|.r [bT]<|.r [.row (aD<|ae (ae n.aa i0).ah i2),bT]<|.br (.pick 0)<|.a (.r [.key (some<|HK (cC n i0 i2) (ae (ae n.aa i0).ah i2).n) .any,bT]<|.r (zb i2)<|.pick 1)<|.r [.key none .any,bT]<|.r (zb i2)<|.pick 2)) (range 3) zF
 (λ_ i2(hx2:i2<(length (ae n.aa i0).ah))=>have hr:=hf.rules;have hs:=hf.aa;have he:=hf.ah _ (ai hx0);have l1:=aF aD ((ae n.aa i0).ah);have hb:(zAe i0 i2 n)=true:=afH oaa;
 bq (an (a1 a0)<|an hb<|an a0<|an (ac (rwa aD (ae n.aa i0).ah i2) a0)<|an (kbT (Iy n i0 i2) trivial)<|brP (λ(h1:(eQ n i0 i2)=true)=>(lf (wy (Lo n i0 i2) 0) 0<|show uf n i0 i2=true from h1))<|λh1=>(aO (λ(h2:(dec<|(ae (ae n.aa i0).ah i2).n∈(cC n i0 i2))=true)=>(an (ac (odI h2) a0)<|an (ac (dwo ((i2+1:Nat):Int)) a0)<|lf (wy (Lo n i0 i2) 1) 3 ⟨(show uf n i0 i2=false from h1),rfl,(by rw[show Gb n i0 (i2+1)=(λy2:lXA=>([.box 106 [.fn (.func 77) [] [],.fn (.func 78) [] [],.fn (.func 79) [] [],.fn (.func 80) [] [],.fn (.func 83) [] [],.fn (.func 84) [] [],.fn (.func 85) [] [],.fn (.func 86) [] []],.box 40 (aj<|ae n.aa i0),pP y2]:lXE)) (cC n i0<|i2+1)from rfl,(show cC n i0 (i2+1)=(cC n i0 i2)from(cdT h2 rfl)),(QC (HK (cC n i0 i2) (ae (ae n.aa i0).ah i2).n)<|cC n i0 i2)])⟩))<|λh2=>(an (ac (nwI h2) a0)<|an (ac (dwo ((i2+1:Nat):Int)) a0)<|lf (wy (Lo n i0 i2) 2) 3 ⟨(show uf n i0 i2=false from h1),rfl,(by rw[show Gb n i0 (i2+1)=(λy2:lXA=>([.box 106 [.fn (.func 77) [] [],.fn (.func 78) [] [],.fn (.func 79) [] [],.fn (.func 80) [] [],.fn (.func 83) [] [],.fn (.func 84) [] [],.fn (.func 85) [] [],.fn (.func 86) [] []],.box 40 (aj<|ae n.aa i0),pP y2]:lXE)) (cC n i0<|i2+1)from rfl,(show cC n i0 (i2+1)=((cC n i0 i2)++ [(ae (ae n.aa i0).ah i2).n])from(cdF h2 rfl)),(ny (ae (ae n.aa i0).ah i2).n<|cC n i0 i2)])⟩)))
 oab)
 (λ_=>have hr:=hf.rules;have hs:=hf.aa;have l1:=aF aD ((ae n.aa i0).ah);have hb:(zl i0 n)=false:=afI oaa;
 bq (an (a1 a0)<|an hb<|lx (.exit 2) (Ty n i0) (range 3) (Tz n i0) 3)
 oab) (hk:=λ_ i2 hx2=>(bc (l:=[(4,Iy n i0 i2)]) Dn (aE (Tu n i0 i2 hf hx0 hx2) rfl aP) rfl))
abbrev TB(n:Net)(i0:Nat):Am.Loc:=(zCy i0 n)
abbrev zBB:lXE:=[.box 106 [.fn (.func 77) [] [],.fn (.func 78) [] [],.fn (.func 79) [] [],.fn (.func 80) [] [],.fn (.func 83) [] [],.fn (.func 84) [] [],.fn (.func 85) [] [],.fn (.func 86) [] []]]
abbrev TC(n:Net)(i0:Nat):lXE:=zBB
def pb(n:Net)(i0:Nat):Bool:=((decide<|(ae n.aa i0).aI<0)||((decide<|(ae n.aa i0).aI>=(length (map aw n.rules):Int))||(bif (length (map aD (ae n.aa i0).ah):Int)==0 then(((i0:Int) !=(aB n.rules (ae n.aa i0).aI).stop)||(kE n i0))else(kE n i0))))
def Dp(n:Net):Bool:=cz (length n.aa) (pb n)
abbrev TD(n:Net)(i0:Nat):Am.Loc:=[(2,B false)]
abbrev TE(n:Net)(i0:Nat):lXE:=[]
abbrev TF(n:Net):Am.Loc:=[]
abbrev TG(n:Net):lXE:=zBB
def Iz(n:Net):KB:=anK 0 (length n.aa) (pb n) (TB n) (TC n) .ret (TD n) (TE n) (.exit 0) (TF n) (TG n) (True)
abbrev ug(n:Net)(i0:Nat):List bG:=[htW (pb n i0) .ret (TD n i0) zI (TE n i0),nxW (pb n i0) (TB n<|i0+1) (TC n<|i0+1) (TB n<|i0+1) zAT (TC n<|i0+1)]
def Dq:cy [2] Ll=[(2,.loop Ln)]:=by kernel_rfl
def TH(n:Net)(hf:bW n):ca pg 201 0 0 (.loop Ll) (Iz n):=
 anB (ug n) (λi0=>(.r [.k,bT]<|.yes<|.r (zCo i0 n)<|.a (.r zu zB)<|.r zz<|.br zB<|.r [.cq ((ae n.aa i0).aI).toNat (aw<|aB n.rules (ae n.aa i0).aI),bT]<|.a (.r zAC<|.br zB<|.r [bT]<|zAu i0)<|.r zJ<|.r [bT]<|zAu i0)) (range 1) zF
 (λ_ i0(hx0:i0<(length n.aa))=>have hr:=hf.rules;have hs:=hf.aa;have l1:=aF aj (n.aa);have hb:(zq i0 n)=true:=afH oaa;
 bq (an (a1 a0)<|an hb<|an (ac (rwa aj n.aa i0) a0)<|aO (λ(h1:(zCL i0 n)=true)=>(an (aN 7<|ac (n2 h1)<|a1 a0)<|an a0<|lf (wy (ug n i0) 0) 2<|show pb n i0=true from(orT h1)))<|λh1=>have q0:=(orF h1 rfl:pb n i0=_);have g1:=afE h1;
 (an (aN 8<|ac (ak h1)<|a1 a0)<|brP (λ(h2:(zAY i0 n)=true)=>(an a0<|lf (wy (ug n i0) 0) 2<|q0.trans<|orT h2))<|λh2=>have q1:=q0.trans (orF h2 rfl);have l2:=aF aw (n.rules);have g2:=afE h2;
 (an (ac (rwz aw n.rules (ae n.aa i0).aI) a0)<|aO (λ(h3:((length (map aD (ae n.aa i0).ah):Int)==0)=true)=>have q2:=q1.trans (cdT h3 rfl);have l3:=aF aD ((ae n.aa i0).ah);have g3:=eq_of_beq h3;
 (an (aN 6<|ac h3<|a1 a0)<|brP (λ(h4:((i0:Int) !=(aB n.rules (ae n.aa i0).aI).stop)=true)=>(an a0<|lf (wy (ug n i0) 0) 2<|q2.trans<|orT h4))<|λh4=>have q4:=q2.trans (orF h4 rfl);
 (an a0<|an a0<|an (kbT (Dm n i0) trivial)<|brP (λ(h5:(kE n i0)=true)=>(lf (wy (ug n i0) 0) 0<|q4.trans h5))<|λh5=>(an (ac (dwo ((i0+1:Nat):Int)) a0)<|lf (wy (ug n i0) 1) 3 ⟨(q4.trans h5),rfl,rfl⟩))))<|λh3=>have q3:=q1.trans (cdF h3 rfl);have l3:=aF aD ((ae n.aa i0).ah);have g3:=afT h3;
 (an (aN 5<|ac (ak h3)<|a1 a0)<|an a0<|an a0<|an (kbT (Dm n i0) trivial)<|brP (λ(h4:(kE n i0)=true)=>(lf (wy (ug n i0) 0) 0<|q3.trans h4))<|λh4=>(an (ac (dwo ((i0+1:Nat):Int)) a0)<|lf (wy (ug n i0) 1) 3 ⟨(q3.trans h4),rfl,rfl⟩)))))
 oab)
 (λ_=>have hr:=hf.rules;have hs:=hf.aa;have l1:=aF aj (n.aa);have hb:(zQ n)=false:=afI oaa;
 bq (an (a1 a0)<|an hb<|lx (.exit 0) (TF n) (range 1) (TG n) 1)
 oab) (hk:=λ_ i0 hx0=>(bc (l:=[(2,Dm n i0)]) Dq (aE (TA n i0 hf hx0) rfl aP) rfl))
def r28(n:Net):Bool:=(!(Dp n))
def uU:cy [0] (aG 28)=[(0,.loop Ll)]:=by kernel_rfl
def TI(n:Net)(hf:bW n):aQ pg 28 [.pf (aY n)] [] [] (B<|r28 n) []:=
 aV 28 (.r [bT]<|.r [.int 0,bT] zY)
 (an a0<|an (cA g63 trivial a0)<|an a0<|an (kbT (Iz n) trivial)<|brP (λ(h0:(Dp n)=true)=>(bE<|show r28 n=false from(bQ h0)))<|λh0=>(an a0<|bE<|show r28 n=true from(ak h0))) (hc:=(aK (.cons g63 rfl bB.nil) aC)) (hk:=(bc (l:=[(0,Iz n)]) uU (aE (TH n hf) rfl aP) rfl))
def Edg(g:List lXC)(i k:Nat):Prop:=k∈ae g i
inductive Rp(g:List lXC):Nat->Nat->Prop
 |one {i k:Nat} (h:Edg g i k):Rp g i k
 |step {i j k:Nat} (h:Rp g i j) (e:Edg g j k):Rp g i k
theorem Rp.trans{g:List lXC}{i j k:Nat}(h:Rp g i j)(e:Rp g j k):Rp g i k:=by
 induction e with
 |one e=>exact .step h e
 |step _ e ih=>exact .step ih e
def Wf(g:List lXC):Prop:= ∀R∈g,∀c∈R,c<g.length
def nH{g:List lXC}(hw:Wf g){i c:Nat}(h:Edg g i c):c<g.length:=by
 unfold Edg at h;by_cases hi:i<g.length
 ·exact hw _ (fO hi) c h
 ·simp[ae,af5 (show g.length<=i by omega)]at h;cases h
abbrev St:=lXB×lXC
def mark(x:St)(c:Nat):St:=bif ae x.1 c then x else(x.1.set c true,x.2++ [c])
def marks(x:St)(R:lXC):St:=R.foldl mark x
def cf(l:lXB):Nat:=l.count false
theorem lO{l:lXB}{c:Nat}:ae l c=true↔l[c]? =some true:=by
 unfold ae;cases h:l[c]? with
 |none=>simp_all
 |some b=>simp
theorem x5{l:lXB}{c:Nat}(hc:c<l.length)(h:ae l c=false):cf (l.set c true)+1=cf l:=by grind[ae,cf]
theorem Gc(x:St)(c:Nat):(mark x c).1.length=x.1.length:=by unfold mark;cases ae x.1 c<;>simp
theorem sX(R:lXC): ∀x:St,(marks x R).1.length=x.1.length:=by
 induction R with
 |nil=>intro x;rfl
 |cons c R ih=>grind[marks,Gc]
structure Mk(x y:St)(R:lXC):Prop where
 up: ∀k:Nat,x.1[k]? =some true->y.1[k]? =some true
 dn: ∀k:Nat,y.1[k]? =some true->x.1[k]? =some true\/(k∈R/\k∈y.2)
 sub: ∀c:Nat,c∈x.2->c∈y.2
 new: ∀c:Nat,c∈y.2->c∈x.2\/c∈R
 all: ∀c:Nat,c∈R->y.1[c]? =some true
 le:2*cf y.1+y.2.length<=2*cf x.1+x.2.length
def aaw{x:St}{c:Nat}(hc:c<x.1.length):Mk x (mark x c) [c]:=by
 unfold mark;cases h:ae x.1 c with
 |true=>have:=lO.1 h;exact⟨λk hk=>hk,λk hk=> .inl hk,λc hc=>hc,λc hc=> .inl hc,λd hd=>by simp at hd;subst hd;exact this,afG _⟩
 |false=>
  have hcf:=x5 hc h;refine⟨λk hk=> ?_,λk hk=> ?_,λd hd=> ?_,λd hd=> ?_,λd hd=> ?_,?_⟩
  ·grind
  ·grind
  ·simp_all
  ·simp_all
  ·simp at hd;subst hd;simp[hc]
  grind
theorem Mk.trans{x y z:St}{R S:lXC}(h:Mk x y R)(k:Mk y z S):Mk x z (R++S):=by
 refine⟨λi hi=>k.up i (h.up i hi),λi hi=> ?_,λc hc=>k.sub c (h.sub c hc),λc hc=> ?_,λc hc=> ?_,agr k.le h.le⟩
 ·rcases k.dn i hi with h1|⟨h1,h2⟩
  ·rcases h.dn i h1 with h3|⟨h3,h4⟩
   ·exact .inl h3
   ·exact .inr ⟨ag6 _ h3,k.sub i h4⟩
  simp_all
 ·rcases k.new c hc with h1|h1
  ·rcases h.new c h1 with h2|h2
   ·exact .inl h2
   simp_all
  simp_all
 ·rcases agn.1 hc with h1|h1
  ·exact k.up c (h.all c h1)
  ·exact k.all c h1
def x6: ∀(R:lXC)(x:St),(∀c∈R,c<x.1.length)->Mk x (marks x R) R
 |[],x,_=>⟨λk hk=>hk,λk hk=> .inl hk,λc hc=>hc,λc hc=> .inl hc,λd hd=>by simp at hd,afG _⟩
 |c::R,x,h=>by have h1:=aaw (x:=x) (c:=c) (h c oaf);have h2:=x6 R (mark x c) (by grind[Gc]);exact h1.trans h2
theorem IA(x:St)(R:lXC)(j:Nat)(hj:j<R.length):marks x (R.take<|j+1)=mark (marks x<|R.take j) (ae R j):=by grind[List.take_add_one,eL,marks]
structure FI(g:List lXC)(i:Nat)(x:St):Prop where
 len:x.1.length=g.length
 todo: ∀c∈x.2,c<g.length
 snd: ∀k:Nat,x.1[k]? =some true->Rp g i k
 sndT: ∀c∈x.2,c=i\/Rp g i c
 cls: ∀k:Nat,(k=i\/x.1[k]? =some true)->k∈x.2\/ ∀c,Edg g k c->x.1[c]? =some true
 bd:2*cf x.1+x.2.length<=2*g.length+1
def aax{g:List lXC}{i:Nat}(hi:i<g.length):FI g i (replicate g.length false,[i]):=by
 refine⟨by simp,λc hc=>by simp at hc;omega,λk hk=> ?_,λc hc=>by simp at hc;exact .inl hc,λk hk=> ?_,?_⟩
 ·grind
 ·grind
 ·simp[cf,List.count_replicate]
def TJ{g:List lXC}(hw:Wf g){i v:Nat}{inb:lXB}{t:lXC}(h:FI g i (inb,t++ [v])):FI g i (marks (inb,t)<|ae g v)/\2*cf (marks (inb,t)<|ae g v).1+(marks (inb,t)<|ae g v).2.length<2*cf inb+(t++ [v]).length:=by
 obtain⟨h1,h2,h3,h4,h5,h6⟩:=h;have hR: ∀c∈ae g v,c<inb.length:=λc hc=>by rw[h1];exact nH hw hc
 have hm:=x6 (ae g v) (inb,t) hR;have hv:=h4 v oaf;have hc: ∀c∈ae g v,Rp g i c:=λc hc=>by
  rcases hv with rfl|hv
  ·exact .one hc
  ·exact .step hv hc
 have hlt:2*cf (marks (inb,t)<|ae g v).1+(marks (inb,t)<|ae g v).2.length<2*cf inb+(t++ [v]).length:=by grind[hm.le]
 refine⟨⟨by rw[sX];exact h1,λc hc'=> ?_,λk hk=> ?_,λc hc'=> ?_,λk hk=> ?_,by simp only at h6;omega⟩,hlt⟩
 ·rcases hm.new c hc' with h|h
  ·simp_all
  ·exact nH hw h
 ·rcases hm.dn k hk with h|⟨h,_⟩
  ·exact h3 k h
  ·exact hc k h
 ·rcases hm.new c hc' with h|h
  ·simp_all
  ·exact .inr (hc c h)
 ·by_cases hkv:k=v
  ·subst hkv;exact .inr λc he=>hm.all c he
  ·have hk':(k=i\/inb[k]? =some true)\/k∈(marks (inb,t)<|ae g v).2:=by
    rcases hk with hk|hk
    ·exact .inl (.inl hk)
    ·rcases hm.dn k hk with h|⟨_,h⟩
     ·exact .inl (.inr h)
     ·exact .inr h
   rcases hk' with hk' |hk'
   ·rcases h5 k hk' with h|h
    ·left;simp only[agn,agO]at h;rcases h with h|h
     ·exact hm.sub k h
     ·exact absurd h hkv
    ·exact .inr λc he=>hm.up c (h c he)
   ·exact .inl hk'
noncomputable def jW(g:List lXC)(i:Nat):lXB:=(range g.length).map λk=>dec (Rp g i k)
theorem adL{g:List lXC}(hw:Wf g){i:Nat}{inb:lXB}(h:FI g i (inb,[])):inb=jW g i:=by
 obtain⟨h1,h2,h3,h4,h5,h6⟩:=h;have hcl: ∀k,(k=i\/inb[k]? =some true)-> ∀c,Edg g k c->inb[c]? =some true:=oay;have hall: ∀k,Rp g i k->inb[k]? =some true:=by
  intro k hk;induction hk with
  |one e=>exact hcl _ (.inl rfl) _ e
  |step _ e ih=>exact hcl _ (.inr ih) _ e
 apply af8;intro k;unfold jW;rw[afM];by_cases hk:k<g.length
 ·rw[List.getElem?_range hk];simp only[afV];have hki:k<inb.length:=by simp only at h1;omega
  rw[afR hki];congr 1;grind[aH]
 simp_all
theorem Bh{g:List lXC}{i k:Nat}(hk:k<g.length):ae (jW g i) k=dec (Rp g i k):=by simp[ae,jW,hk]
section
variable{P:Program}{n K:Nat}
theorem IB{a b:Code}{L L1:Am.Loc}{ob ob1:lXE}{id:Nat}(h:Piece P n K a L ob (.exit id) L1 ob1):Piece P n K (.seq a b) L ob (.exit id) L1 ob1:=iI h (λe=>by cases e)
end
def cU(c:Nat):lXF:=[I (c:Nat)]
def az(b:Bool):lXF:=[B b]
def bH(R:lXC):lXF:=[.sl 1 (R.map cU)]
theorem Bi(c:Nat):aq (cU c)=true:=rfl
theorem bY(c:Bool):aq (az c)=true:=rfl
def Bj(R:lXC):aq (bH R)=true:=by simp[bH,aq,AV.pure,aW Bi]
section
variable(f:Nat->Nat)
theorem x7(l:lXC):cP f (l.map cU)=l.map cU:=fU _ _ (aW Bi l)
theorem sY(l:lXB):cP f (l.map az)=l.map az:=fU _ _ (aW bY l)
theorem x8(l:List lXC):cP f (l.map bH)=l.map bH:=fU _ _ (aW Bj l)
end
def at1{α:Type}[Inhabited α](f:α->lXF){l:List α}{j:Nat}(h:j<l.length):(dec ((0+j*1)/1=j)&&(dec ((0+j*1)%1=0)&&dec ((l.map f)[j]? =some (f<|ae l j))))=true:=by grind[qQ,aH]
def Ge{a:Bool}(h:a=true):(a&&true)=true:=by rw[h];rfl
theorem Gf{a b:Nat}(h:a<b):Nat.blt a b=true:=agt h
theorem Bk{a b:Nat}(h:a<=b):Nat.ble a b=true:=agt h
def appA{k m:Nat}(h:k<=m)(h2:k+1<=100000000):(Nat.ble k m&&true&&(Nat.ble ((k+1)*8) 140737488355328&&Nat.ble (k+1) 9223372036854775807&&true))=true:=by grind[Bk]
theorem rD(l:lXB)(c:Nat)(b:Bool):(l.map az).set c [B b]=(l.set c b).map az:=by rw[List.map_set];rfl
theorem aay(t:lXC)(c:Nat):(t.map cU).take t.length++ [[I (c:Nat)]]=(t++ [c]).map cU:=by grind[afK,cU]
def On:Code:=bn 0 (aG 59)
def Oo:Code:=bn 2 (aG 59)
def b59:Code:=match Qr 1 (aG 59)with
 |some c=>c
 |none=> .skip
theorem e59o:On= .seq (sq1 On) (.block 1<|.seq (sq1 b59)<|.seq (sq1<|sq2 b59)<|.seq (sq1<|sq2<|sq2 b59)<|.block 2<|.loop Oo):=by kernel_rfl
def L59(g:List lXC)(n k:Nat):Am.Loc:=[(0,.sl 1 (g.map bH)),(5,.sr 0 1 0 n),(6,.sr 1 1 0 k)]
def O59(x:St):lXE:=[.row 4 1 (x.1.map az),.row 3 1 (x.2.map cU)]
def Oq(g:List lXC)(n k v:Nat):Am.Loc:=[(0,.sl 1 (g.map bH)),(5,.sr 0 1 0 n),(6,.sr 1 1 0 k),(7,I (v:Nat))]
def Ah(g:List lXC)(R:lXC)(n k j:Nat):Am.Loc:=[(0,.sl 1 (g.map bH)),(5,.sr 0 1 0 n),(6,.sr 1 1 0 k),(32,.sl 1 (R.map cU)),(33,I ((R.map cU).length:Nat)),(34,I (j:Nat))]
section
variable{f:Nat->Nat}
theorem Dr(h0:f 0=0){o:Nat}(h1:f 1=o)(g:List lXC)(n k:Nat):mO f (L59 g n k)=[some (.sl 1<|g.map bH),some (.sr 0 1 0 n),some (.sr o 1 0 k)]:=by grind[mO,L59,AV.ren,x8]
theorem Lp(h0:f 0=0){o:Nat}(h1:f 1=o)(g:List lXC)(n k v:Nat):mO f (Oq g n k v)=[some (.sl 1<|g.map bH),some (.sr 0 1 0 n),some (.sr o 1 0 k),some (I (v:Nat))]:=by simp_all[mO,Oq,AV.ren,x8]
theorem Dt(h0:f 0=0){o:Nat}(h1:f 1=o)(g:List lXC)(R:lXC)(n k j:Nat):mO f (Ah g R n k j)=[some (.sl 1<|g.map bH),some (.sr 0 1 0 n),some (.sr o 1 0 k),some (.sl 1<|R.map cU),some (I ((R.map cU).length:Nat)),some (I (j:Nat))]:=by grind[mO,Ah,AV.ren,x8,x7]
theorem uh(x:St):oZ f [some (.row 4 1<|x.1.map az),some (.row 3 1<|x.2.map cU)] (O59 x):=⟨by rw[Ob.ren,sY];exact .same _,by rw[Ob.ren,x7];exact .same _,trivial⟩
end
abbrev rE(c:Code)(L:Am.Loc)(x:St)(gd:List Gi):RX:=runK Tryz.prog 52 base c7 3000 (kbL []) c (dX L) (dq<|O59 x) 2 ⟨2,gd,[]⟩
def in59(g:List lXC)(R:lXC)(n j:Nat)(x:St)(hn:n=x.1.length)(hj:j<R.length)(hR:R.length<=9223372036854775807)(hc:ae R j<x.1.length)(hx:x.2.length<=10000000):Piece pg 52 0 Oo (Ah g R n x.2.length j) (O59 x) .normal (Ah g R n (mark x<|ae R j).2.length<|j+1) (O59<|mark x<|ae R j):=by
 obtain⟨inb,t⟩:=x;subst hn;simp only at hc hx⊢;have h0:(decide<|(j:Int)<(((R.map cU).length:Nat):Int))=true:=afH oap;unfold mark;rcases nu (ae inb<|ae R j)with hb|hb
 ·rw[hb];simp only[afN];refine eB (lo:=2) (c8 aC mixed<|bt _) (sel:=[0,1]) (N':=2) (show iq [0,5,6,32,33,34] [0,1] (rE Oo (Ah g R inb.length t.length j) (inb,t) [bT,bT,.row (cU<|ae R j),.at (ae R j) 0 (az<|ae inb<|ae R j),bF,.int ↑(j+1),bT])=some (.normal,[some (.sl 1<|g.map bH),some (.sr 0 1 0 inb.length),some (.sr 1 1 0 t.length),some (.sl 1<|R.map cU),some (I ((R.map cU).length:Nat)),some (I ↑(j+1))],[some (.row 4 1<|inb.map az),some (.row 3 1<|t.map cU)],2,_) by kernel_rfl)
   (ac (dwr (z:= ↑(j+1)) oaa oaa)<|ac (n2 hb)<|ac (at1 az hc)<|ac (Gf hc)<|ac (ir cU hj)<|a1<|ac h0 a0) rfl rfl rfl (Dt rfl rfl g R _ _ _) (uh (inb,t))
 ·rw[hb];simp only[afY];refine eB (lo:=2) (c8 aC mixed<|bt _) (sel:=[0,2]) (N':=3) (show iq [0,5,6,32,33,34] [0,2] (rE Oo (Ah g R inb.length t.length j) (inb,t) [bT,bT,.row (cU<|ae R j),.at (ae R j) 0 (az<|ae inb<|ae R j),bT,.at (ae R j) 0 (az<|ae inb<|ae R j),.int ↑(j+1),bT])=some (.normal,[some (.sl 1<|g.map bH),some (.sr 0 1 0 inb.length),some (.sr 2 1 0<|t.length+1),some (.sl 1<|R.map cU),some (I ((R.map cU).length:Nat)),some (I ↑(j+1))],[some (.row 4 1<|(inb.map az).set (ae R j) [B true]),some (.row 3 1<|(t.map cU).take t.length++ [[I ((ae R j:Nat):Int)]])],3,_) by kernel_rfl)
   (ac (dwr (z:= ↑(j+1)) oaa oaa)<|ac (appA (k:=t.length) (m:=(t.map cU).length) oaf oaa)<|ac (Ge<|at1 az hc)<|ac (Gf hc)<|ac (ak hb)<|ac (at1 az hc)<|ac (Gf hc)<|ac (ir cU hj)<|a1<|ac h0 a0) rfl rfl rfl ?_ ?_
  ·rw[afS,List.length_singleton];exact Dt rfl rfl g R _ _ _
  ·rw[rD,aay];exact uh (inb.set (ae R j) true,t++ [ae R j])
def aaz(g:List lXC)(R:lXC)(n:Nat)(x:St)(hn:n=x.1.length)(hR:R.length<=9223372036854775807)(hc: ∀c∈R,c<x.1.length)(hb:2*cf x.1+x.2.length<=10000000):Piece pg 52 0 (.block 2<|.loop Oo) (Ah g R n x.2.length 0) (O59 x) .normal (L59 g n (marks x R).2.length) (O59<|marks x R):=by
 refine gM (xr:= .exit 2) (λj=>Ah g R n (marks x<|R.take j).2.length j) (λj=>O59<|marks x<|R.take j) (λj=>j<=R.length) (λj=>R.length-j) 0 (af7 _) (λe=>by cases e) λj hj=> ?_;by_cases hjl:j<R.length
 ·left;have hm:=x6 (R.take j) x λc hc'=>hc c (agy hc');have h:=in59 g R n j (marks x<|R.take j) (by rw[sX];exact hn) hjl hR (by rw[sX];exact hc _<|fO hjl) (by have:=hm.le;omega);rw[<-IA x R j hjl]at h;exact⟨j+1,by omega,by omega,h⟩
 ·right;obtain rfl:j=R.length:=by omega
  simp only[agv];have h0:(decide<|((R.length:Nat):Int)<(((R.map cU).length:Nat):Int))=false:=afI oap;exact eB (lo:=2) (c8 aC mixed<|bt _) (sel:=[0,1]) (N':=2) (show iq [0,5,6] [0,1] (rE Oo (Ah g R n (marks x R).2.length R.length) (marks x R) [bF,bF,bT])=some (.exit 2,[some (.sl 1<|g.map bH),some (.sr 0 1 0 n),some (.sr 1 1 0 (marks x R).2.length)],[some (.row 4 1<|(marks x R).1.map az),some (.row 3 1<|(marks x R).2.map cU)],2,_) by kernel_rfl)
   (a1<|ac (ak h0) a0) rfl rfl rfl (Dr rfl rfl g _ _) (uh _)
abbrev zDv(inb:lXB):Ob:=(.row 4 1<|inb.map az)
def aaA(g:List lXC)(n:Nat)(inb:lXB)(t:lXC)(v:Nat)(hn:n=inb.length)(hv:v<g.length)(hR:(ae g v).length<=9223372036854775807)(hc: ∀c∈ae g v,c<inb.length)(hb:2*cf inb+t.length<=10000000):Piece pg 52 0 On (L59 g n (t++ [v]).length) (O59 (inb,t++ [v])) .normal (L59 g n (marks (inb,t)<|ae g v).2.length) (O59<|marks (inb,t)<|ae g v):=by
 rw[e59o,afS,List.length_singleton];have h0:(decide<|((t.length+1:Nat):Int)>0)=true:=afH oaa;have hw:(dec<|wrap .i64 ((t.length+1:Nat)-1:Int)=(t.length:Nat))=true:=aH.2 (by rw[show((t.length+1:Nat)-1:Int)=(t.length:Nat) by omega];exact wrap_i64 oaa oaa);have hg:ae (t++ [v]) t.length=v:=by simp[ae]
 have hat:=at1 cU (l:=t++ [v]) (j:=t.length) oaf;rw[hg]at hat;refine cI (L1:=L59 g n<|t.length+1) (ob1:=O59 (inb,t++ [v])) ?_ (ku<|cI (L1:=Oq g n (t.length+1) v) (ob1:=O59 (inb,t++ [v])) ?_ (cI (L1:=Oq g n t.length v) (ob1:=O59 (inb,t)) ?_ (cI (L1:=Ah g (ae g v) n t.length 0) (ob1:=O59 (inb,t)) ?_ (aaz g (ae g v) n (inb,t) hn hR hc hb))))
 ·exact eB (lo:=2) (c8 aC mixed<|bt _) (sel:=[0,1]) (N':=2) (show iq [0,5,6] [0,1] (rE (sq1 On) (L59 g n<|t.length+1) (inb,t++ [v]) [bT,bT,bT])=some (.normal,[some (.sl 1<|g.map bH),some (.sr 0 1 0 n),some (.sr 1 1 0<|t.length+1)],[some (zDv inb),some (.row 3 1<|(t++ [v]).map cU)],2,_) by kernel_rfl)
   (a1<|ac h0 a0) rfl rfl rfl (Dr rfl rfl g _ _) (uh (inb,t++ [v]))
 ·exact eB (lo:=2) (c8 aC mixed<|bt _) (sel:=[0,1]) (N':=2) (show iq [0,5,6,7] [0,1] (rE (sq1 b59) (L59 g n<|t.length+1) (inb,t++ [v]) [.int (t.length:Nat),.at t.length 0 (cU v),bT])=some (.normal,[some (.sl 1<|g.map bH),some (.sr 0 1 0 n),some (.sr 1 1 0<|t.length+1),some (I (v:Nat))],[some (zDv inb),some (.row 3 1<|(t++ [v]).map cU)],2,_) by kernel_rfl)
   (ac hat<|ac (Gf<|ag3 t.length)<|ac hw a0) rfl rfl rfl (Lp rfl rfl g _ _ _) (uh (inb,t++ [v]))
 ·refine eB (lo:=2) (c8 aC mixed<|bt _) (sel:=[0,1]) (N':=2) (show iq [0,5,6,7] [0,1] (rE (sq1<|sq2 b59) (Oq g n (t.length+1) v) (inb,t++ [v]) [.int (t.length:Nat),bT])=some (.normal,[some (.sl 1<|g.map bH),some (.sr 0 1 0 n),some (.sr 1 1 0 t.length),some (I (v:Nat))],[some (zDv inb),some (.row 3 1<|(t++ [v]).map cU)],2,_) by kernel_rfl)
   (ac (Ge<|Bk<|Nat.le_succ t.length)<|ac hw a0) rfl rfl rfl (Lp rfl rfl g _ _ _) ⟨by rw[Ob.ren,sY];exact .same _,?_,trivial⟩
  rw[Ob.ren,x7];have:=Told.row (T:=3) (S:=1) (k:=t.length) (rows:=(t++ [v]).map cU) oaf;simp_all
 ·exact eB (lo:=2) (c8 aC mixed<|bt _) (sel:=[0,1]) (N':=2) (show iq [0,5,6,32,33,34] [0,1] (rE (sq1<|sq2<|sq2 b59) (Oq g n t.length v) (inb,t) [.row (bH<|ae g v),bT])=some (.normal,[some (.sl 1<|g.map bH),some (.sr 0 1 0 n),some (.sr 1 1 0 t.length),some (.sl 1<|(ae g v).map cU),some (I (((ae g v).map cU).length:Nat)),some (I ((0:Nat):Int))],[some (zDv inb),some (.row 3 1<|t.map cU)],2,_) by kernel_rfl)
   (ac (ir bH hv) a0) rfl rfl rfl (Dt rfl rfl g _ _ _ _) (uh (inb,t))
def adM:Tryz.f59.body=some (Qf [sq1 (aG 59),sq1 (sq2<|aG 59),sq1 (sq2<|sq2<|aG 59)]<|.seq (.block 0<|.loop On)<|sq2<|sq2<|sq2<|sq2<|aG 59):=by kernel_rfl
def TK(g:List lXC)(i:Nat)(hi:i<g.length)(hw:Wf g)(hN:g.length<=1000000)(hR: ∀R∈g,R.length<=9223372036854775807):aQ pg 59 [.sl 1 (g.map bH),I (i:Nat)] [] [] (.sl 1<|(jW g i).map az) []:=by
 refine fM (o:=0) (n:=g.length) (T:=4) (ob1:=[.row 4 1 ((jW g i).map az)]) ?_ rfl (by simp[jW]) (aW bY _);refine jT (fn:=Tryz.f59) Tryz.func59 oab adM (nbl rfl) (af7 _) rfl oat ?_;have hrep:(replicate (g.map bH).length [B false])=(replicate g.length false).map az:=by simp[az]
 refine Fq aC mixed (L59 g g.length 1) (O59 (replicate g.length false,[i])) (sel:=[0,1]) (show iq [0,5,6] [0,1] (Fm Tryz.prog 52 base c7 3000 [sq1 (aG 59),sq1 (sq2<|aG 59),sq1 (sq2<|sq2<|aG 59)] (mq 0 [.sl 1 (g.map bH),I (i:Nat)] .e) .e 0 ⟨0,[bT],[]⟩)=some (.normal,[some (.sl 1<|g.map bH),some (.sr 0 1 0 (g.map bH).length),some (.sr 1 1 0 1)],[some (.row 4 1<|replicate (g.map bH).length [B false]),some (.row 3 1<|[i].map cU)],2,_) by kernel_rfl)
  (ac (show(Nat.ble (g.map bH).length (g.map bH).length&&Nat.ble (1*(g.map bH).length) 281474976710656&&Nat.ble (g.map bH).length 9223372036854775807)=true by rw[Bk (afG _),Bk (show 1*(g.map bH).length<=281474976710656 by rw[afK];omega),Bk (show(g.map bH).length<=9223372036854775807 by rw[afK];omega)];rfl) a0) rfl rfl ?_ ?_ ?_
 ·rw[afK];exact Dr rfl rfl g _ _
 ·rw[hrep];exact uh (replicate g.length false,[i])
 ·refine Nw (L1:=L59 g g.length 0) (ob1:=O59 (jW g i,[])) (gM (xr:= .exit 0) (λx:St=>L59 g g.length x.2.length) O59 (FI g i) (λx=>2*cf x.1+x.2.length) (replicate g.length false,[i]) (aax hi) (λe=>by cases e) λx hx=> ?_) ?_
  ·obtain⟨inb,todo⟩:=x;rcases List.eq_nil_or_concat todo with rfl|⟨t,v,rfl⟩
   ·right;rw[<-adL hw hx,e59o];refine IB ?_;exact eB (lo:=2) (c8 aC mixed<|bt _) (sel:=[0,1]) (N':=2) (show iq [0,5,6] [0,1] (rE (sq1 On) (L59 g g.length 0) (inb,[]) [bF,bF,bT])=some (.exit 0,[some (.sl 1<|g.map bH),some (.sr 0 1 0 g.length),some (.sr 1 1 0 0)],[some (.row 4 1<|inb.map az),some (.row 3 1 [])],2,_) by kernel_rfl)
     (a1<|ac (show(!decide (((0:Nat):Int)>0))=true from rfl) a0) rfl rfl rfl (Dr rfl rfl g _ _) (uh (inb,[]))
   ·left;rw[List.concat_eq_append]at hx⊢;have hlen:=hx.len;have hbd:=hx.bd;simp only[afS,List.length_singleton]at hlen hbd;have hv:v<g.length:=hx.todo v oaf;obtain⟨k1,k2⟩:=TJ hw hx;exact⟨_,k1,k2,aaA g g.length inb t v hlen.symm hv (hR _<|fO hv) (λc hc=>by rw[hlen];exact nH hw hc) oaa⟩
  ·exact xD (lo:=2) (obs:=[.row 4 1 ((jW g i).map az)]) (c8 aC mixed<|bt _) (ib _) (en _) (show qO Tryz.prog Tryz.f59.results.toList 1 (rE (sq2<|sq2<|sq2<|sq2<|aG 59) (L59 g g.length 0) (jW g i,[]) [bT])=some (.sr 0 1 0 g.length,[some (.row 4 1<|(jW g i).map az)],_) by kernel_rfl) a0 rfl λxs=>⟨rfl,xs,rfl⟩
def IC:Code:=bn 0 (aG 34)
def ID:Code:=bn 2 (aG 34)
def rF:Code:=bn 4 (aG 34)
abbrev Sa:=lXB×Bool
section
variable(n:Net)(f:Bool)(emp:AV)(ag:Bool)
def L34(i k:Nat):Am.Loc:=[(2,B f),(3,emp),(4,.pf (aY n)),(9,.sr 0 1 0 n.aa.length),(10,B ag),(11,I (i:Nat)),(12,I (k:Nat))]
def nI(i:Nat):Am.Loc:=[(2,B f),(3,emp),(4,.pf (aY n)),(9,.sr 0 1 0 n.aa.length),(10,B ag),(11,I (i:Nat))]
def nJ:Am.Loc:=[(2,B f),(3,emp),(4,.pf (aY n)),(9,.sr 0 1 0 n.aa.length),(10,B ag)]
end
def O34(inb:lXB):lXE:=[.row 4 1 (inb.map az)]
section
variable(n:Net)(f:Bool)(emp:AV)
def Lq(x y:Sa)(i:Nat):KB:=⟨L34 n f emp x.2 i 0,O34 x.1,false,.ret,[],[],.normal,nI n f emp y.2 i,O34 y.1,True⟩
def Lt(inb:lXB)(y:Sa):KB:=⟨nI n f emp false 0,O34 inb,false,.ret,[],[],.normal,nJ n f emp y.2,O34 y.1,True⟩
end
def mkA(x:Sa)(c:Nat):Sa:=bif ae x.1 c then x else(x.1.set c true,true)
section
variable(ok:Edge->Bool)
def ee(x:Sa)(e:Edge):Sa:=bif ok e then mkA x e.to.toNat else x
def jb(x:Sa)(l:List Edge):Sa:=l.foldl (ee ok) x
def sZ(n:Net)(x:Sa)(i:Nat):Sa:=bif ae x.1 i then jb ok x (ae n.aa i).ah else x
end
def gi(ok:Edge->Bool)(n:Net)(x:Sa):Nat->Sa
 |0=>x
 |i+1=>sZ ok n (gi ok n x i) i
def gA(ok:Edge->Bool)(n:Net):List lXC:=n.aa.map λs=>(s.ah.filter ok).map λe=>e.to.toNat
def okT(emp:lXB)(e:Edge):Bool:=bif e.op==1 then false else bif e.op==2 then aB emp e.n else true
def okF(_:Edge):Bool:=true
def rG(n:Net):Prop:= ∀s∈n.aa,∀e∈s.ah,0<=e.to/\e.to<(n.aa.length:Int)
structure Am1(x y:Sa):Prop where
 len:y.1.length=x.1.length
 up: ∀k:Nat,x.1[k]? =some true->y.1[k]? =some true
 no:y.2=false->y.1=x.1/\x.2=false
 yes:y.2=true->x.2=true\/cf y.1<cf x.1
 le:cf y.1<=cf x.1
theorem Am1.refl(x:Sa):Am1 x x:=⟨rfl,λ_ h=>h,λh=>⟨rfl,h⟩,λh=> .inl h,afG _⟩
theorem Am1.trans{x y z:Sa}(h:Am1 x y)(k:Am1 y z):Am1 x z:=by
 refine⟨k.len.trans h.len,λi hi=>k.up i (h.up i hi),λe=> ?_,λe=> ?_,agr k.le h.le⟩
 ·obtain⟨k1,k2⟩:=k.no e;obtain⟨h1,h2⟩:=h.no k2;exact⟨k1.trans h1,h2⟩
 ·rcases k.yes e with k1|k1
  ·rcases h.yes k1 with h1|h1
   ·exact .inl h1
   grind[k.le]
  grind[h.le]
def adN{x:Sa}{c:Nat}(hc:c<x.1.length):Am1 x (mkA x c)/\((mkA x c).2=false->ae x.1 c=true)/\(mkA x c).1[c]? =some true/\ ∀k:Nat,(mkA x c).1[k]? =some true->x.1[k]? =some true\/k=c:=by
 unfold mkA;cases h:ae x.1 c with
 |true=>grind[Am1.refl,lO]
 |false=>
  have hcf:=x5 hc h;refine⟨⟨by simp,λk hk=> ?_,λe=>oao,λ_=> .inr ?_,?_⟩,λe=>oao,by simp[hc],λk hk=> ?_⟩
  ·grind
  ·simp only[afY];omega
  ·simp only[afY];omega
  grind
theorem rH(ok:Edge->Bool): ∀(l:List Edge)(x:Sa),(∀e∈l,e.to.toNat<x.1.length)->Am1 x (jb ok x l)/\((jb ok x l).2=false-> ∀e∈l,ok e=true->x.1[e.to.toNat]? =some true)/\ ∀k:Nat,(jb ok x l).1[k]? =some true->x.1[k]? =some true\/ ∃e∈l,ok e=true/\e.to.toNat=k
 |[],x,_=>⟨Am1.refl x,λ_ e he=>by simp at he,λk hk=> .inl hk⟩
 |e::l,x,h=>by
  have hs:Am1 x (ee ok x e)/\((ee ok x e).2=false->ok e=true->ae x.1 e.to.toNat=true)/\ ∀k:Nat,(ee ok x e).1[k]? =some true->x.1[k]? =some true\/(ok e=true/\e.to.toNat=k):=by
   unfold ee;cases hok:ok e with
   |false=>grind[Am1.refl]
   |true=>obtain⟨k1,k2,_,k4⟩:=adN (x:=x) (c:=e.to.toNat) (h e oaf);grind
  obtain⟨a1',a2,a3⟩:=hs;obtain⟨b1,b2,b3⟩:=rH ok l (ee ok x e) (by grind[a1'.len]);show Am1 x (jb ok (ee ok x e) l)/\((jb ok (ee ok x e) l).2=false->_)/\ ∀k:Nat,(jb ok (ee ok x e) l).1[k]? =some true->_;refine⟨a1'.trans b1,λhf d hd hok=> ?_,λk hk=> ?_⟩
  ·obtain⟨c1,c2⟩:=b1.no hf;grind[lO]
  grind
theorem pX{ok:Edge->Bool}{n:Net}{i c:Nat}:Edg (gA ok n) i c↔ ∃e∈(ae n.aa i).ah,ok e=true/\e.to.toNat=c:=by
 unfold Edg gA ae;rw[afM];cases h:n.aa[i]? with
 |none=>have d1:(default:State).ah=[]:=rfl;simp_all[default]
 |some s=>grind
theorem pY(ok:Edge->Bool)(n:Net):(gA ok n).length=n.aa.length:=by simp[gA]
theorem rI{n:Net}(h:rG n)(i:Nat): ∀e∈(ae n.aa i).ah,e.to.toNat<n.aa.length:=λe he=>by
 by_cases hi:i<n.aa.length
 ·have:=h _ (fO hi) e he;omega
 ·have:ae n.aa i=default:=by simp_all[ae]
  rw[this]at he;cases he
def gA_wf{ok:Edge->Bool}{n:Net}(h:rG n):Wf (gA ok n):=by
 intro R hR c hc;rw[pY];obtain⟨i,hi,rfl⟩:=List.mem_iff_getElem.1 hR;have:Edg (gA ok n) i c:=by grind[Edg,ae]
 obtain⟨e,he,_,rfl⟩:=pX.1 this;exact rI h i e he
def Gg{ok:Edge->Bool}{n:Net}(hn:rG n){x:Sa}(hx:x.1.length=n.aa.length){i0:Nat}(hs: ∀k:Nat,x.1[k]? =some true->k=i0\/Rp (gA ok n) i0 k): ∀m:Nat,Am1 x (gi ok n x m)/\((gi ok n x m).2=false-> ∀i,i<m->x.1[i]? =some true-> ∀c,Edg (gA ok n) i c->x.1[c]? =some true)/\ ∀k:Nat,(gi ok n x m).1[k]? =some true->k=i0\/Rp (gA ok n) i0 k
 |0=>⟨Am1.refl x,λ_ i hi=>absurd hi (Nat.not_lt_zero _),hs⟩
 |m+1=>by
  obtain⟨a1',a2,a3⟩:=Gg hn hx hs m;have hlen:(gi ok n x m).1.length=n.aa.length:=a1'.len.trans hx;simp only[gi];generalize hy:gi ok n x m=y at*;unfold sZ;cases hg:ae y.1 m with
  |false=>
   refine⟨a1',λhf i hi hxi c he=> ?_,a3⟩;by_cases him:i=m
   ·subst him;have:=(a1'.no hf).1;grind[lO]
   ·exact a2 hf i oaa hxi c he
  |true=>
   obtain⟨b1,b2,b3⟩:=rH ok (ae n.aa m).ah y λe he=>by rw[hlen];exact rI hn m e he
   simp only[afN];refine⟨a1'.trans b1,λhf i hi hxi c he=> ?_,λk hk=> ?_⟩
   ·obtain⟨c1,c2⟩:=b1.no hf;by_cases him:i=m
    ·subst him;obtain⟨e,h1,h2,rfl⟩:=pX.1 he;have:=b2 hf e h1 h2;rw[(a1'.no c2).1]at this;exact this
    ·exact a2 c2 i oaa hxi c he
   ·rcases b3 k hk with h1|⟨e,h1,h2,rfl⟩
    ·exact a3 k h1
    ·have hm:=a3 m (lO.1 hg);have he:Edg (gA ok n) m e.to.toNat:=pX.2 ⟨e,h1,h2,rfl⟩;rcases hm with rfl|hm
     ·exact .inr (.one he)
     ·exact .inr (.step hm he)
noncomputable def dE(ok:Edge->Bool)(n:Net)(i:Nat):lXB:=(range n.aa.length).map λk=>dec (k=i\/Rp (gA ok n) i k)
structure RI(ok:Edge->Bool)(n:Net)(i:Nat)(x:Sa):Prop where
 len:x.1.length=n.aa.length
 own:x.1[i]? =some true
 snd: ∀k:Nat,x.1[k]? =some true->k=i\/Rp (gA ok n) i k
 cls:x.2=false-> ∀k:Nat,x.1[k]? =some true-> ∀c,Edg (gA ok n) k c->x.1[c]? =some true
section
variable{ok:Edge->Bool}{n:Net}
theorem aaB(hn:rG n){i:Nat}{inb:lXB}(h:RI ok n i (inb,true)):RI ok n i (gi ok n (inb,false) n.aa.length)/\2*cf (gi ok n (inb,false) n.aa.length).1+(gi ok n (inb,false) n.aa.length).2.toNat<2*cf inb+1:=by
 obtain⟨h1,h2,h3,h4⟩:=h;obtain⟨a1',a2,a3⟩:=Gg hn (x:=(inb,false)) h1 h3 n.aa.length;refine⟨⟨a1'.len.trans h1,a1'.up i h2,a3,λhf k hk c he=> ?_⟩,?_⟩
 ·have e:=(a1'.no hf).1;grind
 ·have hle:=a1'.le;cases hp:(gi ok n (inb,false) n.aa.length).2 with
  |false=>grind
  |true=>
   rcases a1'.yes hp with h|h
   ·cases h
   simp_all
theorem adO{i:Nat}{inb:lXB}(h:RI ok n i (inb,false)):inb=dE ok n i:=by
 obtain⟨h1,h2,h3,h4⟩:=h;have hall: ∀k,Rp (gA ok n) i k->inb[k]? =some true:=by
  intro k hk;induction hk with
  |one e=>exact h4 rfl _ h2 _ e
  |step _ e ih=>exact h4 rfl _ ih _ e
 apply af8;intro k;unfold dE;rw[afM];by_cases hk:k<n.aa.length
 ·rw[List.getElem?_range hk];simp only[afV];have hki:k<inb.length:=by simp only at h1;omega
  rw[afR hki];congr 1;grind[aH]
 simp_all
theorem x9{i k:Nat}(hk:k<n.aa.length):ae (dE ok n i) k=dec (k=i\/Rp (gA ok n) i k):=by simp[ae,dE,hk]
end
abbrev eAt(n:Net)(i k:Nat):Edge:=ae (ae n.aa i).ah k
theorem ya(f:Nat->Nat)(n:Net):bV f (aY n)=aY n:=cL _ _ (A5 n)
section
variable{f:Nat->Nat}
theorem fG(x:lXB):oZ f [some (.row 4 1<|x.map az)] (O34 x):=⟨by rw[Ob.ren,sY];exact .same _,trivial⟩
theorem nK(h0:f 0=0)(n:Net)(b:Bool)(emp:AV)(he:emp.pure=true)(ag:Bool)(i k:Nat):mO f (L34 n b emp ag i k)=nm (L34 n b emp ag i k):=by simp_all[mO,nm,L34,AV.ren,ya,cR]
theorem Du(h0:f 0=0)(n:Net)(b:Bool)(emp:AV)(he:emp.pure=true)(ag:Bool)(i:Nat):mO f (nI n b emp ag i)=nm (nI n b emp ag i):=by grind[mO,nm,nI,AV.ren,ya,cR]
theorem Dv(h0:f 0=0)(n:Net)(b:Bool)(emp:AV)(he:emp.pure=true)(ag:Bool):mO f (nJ n b emp ag)=nm (nJ n b emp ag):=by grind[mO,nm,nJ,AV.ren,ya,cR]
end
def mJ{y:Int}{z len:Nat}(h:y=z)(h2:z<len):(dec (y=(z:Int))&&Nat.blt z len)=true:=by rw[aH.2 h,Gf h2];rfl
def TL{α:Type}[Inhabited α](f:α->lXF){l:List α}{s:Int}(h0:0<=s)(h:s<l.length):(dec (s=((s.toNat:Nat):Int))&&dec ((l.map f)[s.toNat]? =some (f<|aB l s)))=true:=Fv (afH oaa) oaq
def in34T(n:Net)(inb emp:lXB)(ag:Bool)(i k:Nat)(hi:i<n.aa.length)(hl:inb.length=n.aa.length)(hk:k<(ae n.aa i).ah.length)(hkm:(ae n.aa i).ah.length<=9223372036854775807)(hto0:0<=(eAt n i k).to/\(eAt n i k).to<(n.aa.length:Int))(hn:((eAt n i k).op==2)=true->0<=(eAt n i k).n/\(eAt n i k).n<(emp.length:Int)):Piece pg 85 0 rF (L34 n true (.sl 1<|emp.map az) ag i k) (O34 inb) .normal (L34 n true (.sl 1<|emp.map az) (ee (okT emp) (inb,ag)<|eAt n i k).2 i<|k+1) (O34 (ee (okT emp) (inb,ag)<|eAt n i k).1):=by
 have h0:(decide<|(↑k:Int)<(↑(length<|map aD (ae n.aa i).ah):Int))=true:=afH oap;have hto:(eAt n i k).to=(Int.toNat (eAt n i k).to:Int):=by omega
 have hlt:Int.toNat (eAt n i k).to<n.aa.length:=by omega
 have hat:Int.toNat (eAt n i k).to<inb.length:=by omega
 rcases nu (Edge.op (eAt n i k)==1)with h1|h1
 ·have hs:ee (okT emp) (inb,ag) (eAt n i k)=(inb,ag):=by unfold ee mkA;simp only[okT,okF,h1,afN,afY]
  rw[hs];exact eB (lo:=1) (c8 aC mixed<|bt _) (sel:=[0]) (N':=2) (show iq [2,3,4,9,10,11,12] [0] (runK Tryz.prog 85 base c7 3000 (kbL []) rF (dX<|L34 n true (.sl 1<|emp.map az) ag i k) (dq<|O34 inb) 1 ⟨1,(.row (aj<|ae n.aa<|i)::bT::bT::.row (aj<|ae n.aa<|i)::.row (aD<|eAt n i k)::uTT 5 (uFF 11 (bT::uFF 5 [bT,.int ((↑(k+1):Int)),bT]))),[]⟩)=some (.normal,nm (L34 n true (.sl 1<|emp.map az) ag i<|k+1),[some (.row 4 1<|inb.map az)],2,_) by kernel_rfl)
   (ac (o4 hk hkm)<|aN 19<|ac h1<|aN 3<|ac (ir aD hk)<|ac (ir aj hi)<|a1<|ac h0<|ac (ir aj hi) a0) rfl rfl rfl (nK rfl n true _ oas _ _ _) (fG inb)
 ·rcases nu (Edge.op (eAt n i k)==2)with h2|h2
  ·have hn0:=(hn h2).1;have hn1:=(hn h2).2;rcases nu ((aB (emp)<|Edge.n<|eAt n i k))with h3|h3
   ·rcases nu ((ae (inb)<|(Int.toNat<|Edge.to<|eAt n i k)))with h4|h4
    ·have hs:ee (okT emp) (inb,ag) (eAt n i k)=(inb,ag):=by unfold ee mkA;simp only[okT,okF,h1,h2,h3,h4,afN,afY]
     rw[hs];exact eB (lo:=1) (c8 aC mixed<|bt _) (sel:=[0]) (N':=2) (show iq [2,3,4,9,10,11,12] [0] (runK Tryz.prog 85 base c7 3000 (kbL []) rF (dX<|L34 n true (.sl 1<|emp.map az) ag i k) (dq<|O34 inb) 1 ⟨1,(.row (aj<|ae n.aa<|i)::bT::bT::.row (aj<|ae n.aa<|i)::.row (aD<|eAt n i k)::bT::bT::bT::bF::uTT 10 (.cq ((Edge.n<|eAt n i k).toNat) (az<|aB (emp)<|Edge.n<|eAt n i k)::uTT 8 [.cq (Int.toNat<|Edge.to<|eAt n i k) ([]),bT,.at ((Int.toNat<|Edge.to<|eAt n i k)) (0) (az<|ae (inb)<|(Int.toNat<|Edge.to<|eAt n i k)),bT,.int ((↑(k+1):Int)),bT])),[]⟩)=some (.normal,nm (L34 n true (.sl 1<|emp.map az) ag i<|k+1),[some (.row 4 1<|inb.map az)],2,_) by kernel_rfl)
      (ac (o4 hk hkm)<|ac h4<|ac (at1 az hat)<|a1<|ac (mJ hto hlt)<|aN 3<|ac (n2 h3)<|aN 4<|ac (TL az hn0 hn1)<|aN 5<|ac h2<|aN 4<|ac (ak h1)<|aN 3<|ac (ir aD hk)<|ac (ir aj hi)<|a1<|ac h0<|ac (ir aj hi) a0) rfl rfl rfl (nK rfl n true _ oas _ _ _) (fG inb)
    ·have hs:ee (okT emp) (inb,ag) (eAt n i k)=((inb.set (Int.toNat<|Edge.to<|eAt n i k) true),true):=by unfold ee mkA;simp only[okT,okF,h1,h2,h3,h4,afN,afY]
     rw[hs];exact eB (lo:=1) (c8 aC mixed<|bt _) (sel:=[0]) (N':=2) (show iq [2,3,4,9,10,11,12] [0] (runK Tryz.prog 85 base c7 3000 (kbL []) rF (dX<|L34 n true (.sl 1<|emp.map az) ag i k) (dq<|O34 inb) 1 ⟨1,(.row (aj<|ae n.aa<|i)::bT::bT::.row (aj<|ae n.aa<|i)::.row (aD<|eAt n i k)::bT::bT::bT::bF::uTT 10 (.cq ((Edge.n<|eAt n i k).toNat) (az<|aB (emp)<|Edge.n<|eAt n i k)::uTT 8 [.cq (Int.toNat<|Edge.to<|eAt n i k) ([]),bT,.at ((Int.toNat<|Edge.to<|eAt n i k)) (0) (az<|ae (inb)<|(Int.toNat<|Edge.to<|eAt n i k)),bF,.cq (Int.toNat<|Edge.to<|eAt n i k) ([]),.at ((Int.toNat<|Edge.to<|eAt n i k)) (0) (az<|ae (inb)<|(Int.toNat<|Edge.to<|eAt n i k)),.int ((↑(k+1):Int)),bT])),[]⟩)=some (.normal,nm (L34 n true (.sl 1<|emp.map az) true i<|k+1),[some (.row 4 1<|(inb.map az).set (Int.toNat<|Edge.to<|eAt n i k) [B true])],2,_) by kernel_rfl)
      (ac (o4 hk hkm)<|ac (Ge<|at1 az hat)<|ac (mJ hto hlt)<|ac (ak h4)<|ac (at1 az hat)<|a1<|ac (mJ hto hlt)<|aN 3<|ac (n2 h3)<|aN 4<|ac (TL az hn0 hn1)<|aN 5<|ac h2<|aN 4<|ac (ak h1)<|aN 3<|ac (ir aD hk)<|ac (ir aj hi)<|a1<|ac h0<|ac (ir aj hi) a0) rfl rfl rfl (nK rfl n true _ oas _ _ _) (by rw[rD];exact fG _)
   ·have hs:ee (okT emp) (inb,ag) (eAt n i k)=(inb,ag):=by unfold ee mkA;simp only[okT,okF,h1,h2,h3,afN,afY]
    rw[hs];exact eB (lo:=1) (c8 aC mixed<|bt _) (sel:=[0]) (N':=2) (show iq [2,3,4,9,10,11,12] [0] (runK Tryz.prog 85 base c7 3000 (kbL []) rF (dX<|L34 n true (.sl 1<|emp.map az) ag i k) (dq<|O34 inb) 1 ⟨1,(.row (aj<|ae n.aa<|i)::bT::bT::.row (aj<|ae n.aa<|i)::.row (aD<|eAt n i k)::bT::bT::bT::bF::uTT 10 (.cq ((Edge.n<|eAt n i k).toNat) (az<|aB (emp)<|Edge.n<|eAt n i k)::uTT 4 (uFF 5 [bT,.int ((↑(k+1):Int)),bT]))),[]⟩)=some (.normal,nm (L34 n true (.sl 1<|emp.map az) ag i<|k+1),[some (.row 4 1<|inb.map az)],2,_) by kernel_rfl)
     (ac (o4 hk hkm)<|aN 5<|ac (n3 h3)<|aN 4<|ac (TL az hn0 hn1)<|aN 5<|ac h2<|aN 4<|ac (ak h1)<|aN 3<|ac (ir aD hk)<|ac (ir aj hi)<|a1<|ac h0<|ac (ir aj hi) a0) rfl rfl rfl (nK rfl n true _ oas _ _ _) (fG inb)
  ·rcases nu ((ae (inb)<|(Int.toNat<|Edge.to<|eAt n i k)))with h3|h3
   ·have hs:ee (okT emp) (inb,ag) (eAt n i k)=(inb,ag):=by unfold ee mkA;simp only[okT,okF,h1,h2,h3,afN,afY]
    rw[hs];exact eB (lo:=1) (c8 aC mixed<|bt _) (sel:=[0]) (N':=2) (show iq [2,3,4,9,10,11,12] [0] (runK Tryz.prog 85 base c7 3000 (kbL []) rF (dX<|L34 n true (.sl 1<|emp.map az) ag i k) (dq<|O34 inb) 1 ⟨1,(.row (aj<|ae n.aa<|i)::bT::bT::.row (aj<|ae n.aa<|i)::.row (aD<|eAt n i k)::bT::bT::bT::bF::uTT 4 (bF::bT::uFF 6 (uTT 6 [.cq (Int.toNat<|Edge.to<|eAt n i k) ([]),bT,.at ((Int.toNat<|Edge.to<|eAt n i k)) (0) (az<|ae (inb)<|(Int.toNat<|Edge.to<|eAt n i k)),bT,.int ((↑(k+1):Int)),bT]))),[]⟩)=some (.normal,nm (L34 n true (.sl 1<|emp.map az) ag i<|k+1),[some (.row 4 1<|inb.map az)],2,_) by kernel_rfl)
     (ac (o4 hk hkm)<|ac h3<|ac (at1 az hat)<|a1<|ac (mJ hto hlt)<|aN 13<|ac (ak h2)<|aN 4<|ac (ak h1)<|aN 3<|ac (ir aD hk)<|ac (ir aj hi)<|a1<|ac h0<|ac (ir aj hi) a0) rfl rfl rfl (nK rfl n true _ oas _ _ _) (fG inb)
   ·have hs:ee (okT emp) (inb,ag) (eAt n i k)=((inb.set (Int.toNat<|Edge.to<|eAt n i k) true),true):=by unfold ee mkA;simp only[okT,okF,h1,h2,h3,afN,afY]
    rw[hs];exact eB (lo:=1) (c8 aC mixed<|bt _) (sel:=[0]) (N':=2) (show iq [2,3,4,9,10,11,12] [0] (runK Tryz.prog 85 base c7 3000 (kbL []) rF (dX<|L34 n true (.sl 1<|emp.map az) ag i k) (dq<|O34 inb) 1 ⟨1,(.row (aj<|ae n.aa<|i)::bT::bT::.row (aj<|ae n.aa<|i)::.row (aD<|eAt n i k)::bT::bT::bT::bF::uTT 4 (bF::bT::uFF 6 (uTT 6 [.cq (Int.toNat<|Edge.to<|eAt n i k) ([]),bT,.at ((Int.toNat<|Edge.to<|eAt n i k)) (0) (az<|ae (inb)<|(Int.toNat<|Edge.to<|eAt n i k)),bF,.cq (Int.toNat<|Edge.to<|eAt n i k) ([]),.at ((Int.toNat<|Edge.to<|eAt n i k)) (0) (az<|ae (inb)<|(Int.toNat<|Edge.to<|eAt n i k)),.int ((↑(k+1):Int)),bT]))),[]⟩)=some (.normal,nm (L34 n true (.sl 1<|emp.map az) true i<|k+1),[some (.row 4 1<|(inb.map az).set (Int.toNat<|Edge.to<|eAt n i k) [B true])],2,_) by kernel_rfl)
     (ac (o4 hk hkm)<|ac (Ge<|at1 az hat)<|ac (mJ hto hlt)<|ac (ak h3)<|ac (at1 az hat)<|a1<|ac (mJ hto hlt)<|aN 13<|ac (ak h2)<|aN 4<|ac (ak h1)<|aN 3<|ac (ir aD hk)<|ac (ir aj hi)<|a1<|ac h0<|ac (ir aj hi) a0) rfl rfl rfl (nK rfl n true _ oas _ _ _) (by rw[rD];exact fG _)
def in34F(n:Net)(inb:lXB)(ag:Bool)(i k:Nat)(hi:i<n.aa.length)(hl:inb.length=n.aa.length)(hk:k<(ae n.aa i).ah.length)(hkm:(ae n.aa i).ah.length<=9223372036854775807)(hto0:0<=(eAt n i k).to/\(eAt n i k).to<(n.aa.length:Int)):Piece pg 85 0 rF (L34 n false (.v<|.slice none 0 0) ag i k) (O34 inb) .normal (L34 n false (.v<|.slice none 0 0) (ee (okF) (inb,ag)<|eAt n i k).2 i<|k+1) (O34 (ee (okF) (inb,ag)<|eAt n i k).1):=by
 have h0:(decide<|(↑k:Int)<(↑(length<|map aD (ae n.aa i).ah):Int))=true:=afH oap;have hto:(eAt n i k).to=(Int.toNat (eAt n i k).to:Int):=by omega
 have hlt:Int.toNat (eAt n i k).to<n.aa.length:=by omega
 have hat:Int.toNat (eAt n i k).to<inb.length:=by omega
 rcases nu ((ae (inb)<|(Int.toNat<|Edge.to<|eAt n i k)))with h1|h1
 ·have hs:ee (okF) (inb,ag) (eAt n i k)=(inb,ag):=by unfold ee mkA;simp only[okT,okF,h1,afN,afY]
  rw[hs];exact eB (lo:=1) (c8 aC mixed<|bt _) (sel:=[0]) (N':=2) (show iq [2,3,4,9,10,11,12] [0] (runK Tryz.prog 85 base c7 3000 (kbL []) rF (dX<|L34 n false (.v<|.slice none 0 0) ag i k) (dq<|O34 inb) 1 ⟨1,(.row (aj<|ae n.aa<|i)::bT::bT::.row (aj<|ae n.aa<|i)::.row (aD<|eAt n i k)::uFF 16 (uTT 4 [.cq (Int.toNat<|Edge.to<|eAt n i k) ([]),bT,.at ((Int.toNat<|Edge.to<|eAt n i k)) (0) (az<|ae (inb)<|(Int.toNat<|Edge.to<|eAt n i k)),bT,.int ((↑(k+1):Int)),bT])),[]⟩)=some (.normal,nm (L34 n false (.v<|.slice none 0 0) ag i<|k+1),[some (.row 4 1<|inb.map az)],2,_) by kernel_rfl)
   (ac (o4 hk hkm)<|ac h1<|ac (at1 az hat)<|a1<|ac (mJ hto hlt)<|aN 20<|ac (ir aD hk)<|ac (ir aj hi)<|a1<|ac h0<|ac (ir aj hi) a0) rfl rfl rfl (nK rfl n false _ oas _ _ _) (fG inb)
 ·have hs:ee (okF) (inb,ag) (eAt n i k)=((inb.set (Int.toNat<|Edge.to<|eAt n i k) true),true):=by unfold ee mkA;simp only[okT,okF,h1,afN,afY]
  rw[hs];exact eB (lo:=1) (c8 aC mixed<|bt _) (sel:=[0]) (N':=2) (show iq [2,3,4,9,10,11,12] [0] (runK Tryz.prog 85 base c7 3000 (kbL []) rF (dX<|L34 n false (.v<|.slice none 0 0) ag i k) (dq<|O34 inb) 1 ⟨1,(.row (aj<|ae n.aa<|i)::bT::bT::.row (aj<|ae n.aa<|i)::.row (aD<|eAt n i k)::uFF 16 (uTT 4 [.cq (Int.toNat<|Edge.to<|eAt n i k) ([]),bT,.at ((Int.toNat<|Edge.to<|eAt n i k)) (0) (az<|ae (inb)<|(Int.toNat<|Edge.to<|eAt n i k)),bF,.cq (Int.toNat<|Edge.to<|eAt n i k) ([]),.at ((Int.toNat<|Edge.to<|eAt n i k)) (0) (az<|ae (inb)<|(Int.toNat<|Edge.to<|eAt n i k)),.int ((↑(k+1):Int)),bT])),[]⟩)=some (.normal,nm (L34 n false (.v<|.slice none 0 0) true i<|k+1),[some (.row 4 1<|(inb.map az).set (Int.toNat<|Edge.to<|eAt n i k) [B true])],2,_) by kernel_rfl)
   (ac (o4 hk hkm)<|ac (Ge<|at1 az hat)<|ac (mJ hto hlt)<|ac (ak h1)<|ac (at1 az hat)<|a1<|ac (mJ hto hlt)<|aN 20<|ac (ir aD hk)<|ac (ir aj hi)<|a1<|ac h0<|ac (ir aj hi) a0) rfl rfl rfl (nK rfl n false _ oas _ _ _) (by rw[rD];exact fG _)
structure Gh(n:Net):Prop where
 rules:n.rules.length<=1000000
 aa:n.aa.length<=1000000
 ah: ∀i,(ae n.aa i).ah.length<=4611686018427387904
def aaC:cy [4] ID=[(4,.loop rF)]:=by kernel_rfl
def aaD:cy [2] IC=[(2,.loop ID)]:=by kernel_rfl
def adP:cy [0] (aG 34)=[(0,.loop IC)]:=by kernel_rfl
structure V34(n:Net)(f:Bool)(emp:AV)(ok:Edge->Bool):Prop where
 pure:emp.pure=true
 round: ∀(x:Sa)(i k:Nat),i<n.aa.length->x.1.length=n.aa.length->k<(ae n.aa i).ah.length->
  Piece pg 85 0 rF (L34 n f emp x.2 i k) (O34 x.1) .normal (L34 n f emp (ee ok x<|eAt n i k).2 i<|k+1) (O34 (ee ok x<|eAt n i k).1)
def v34T{n:Net}(hn:rG n)(hf:Gh n){emp:lXB}(he: ∀s∈n.aa,∀e∈s.ah,e.op=2->0<=e.n/\e.n<(emp.length:Int)):V34 n true (.sl 1<|emp.map az) (okT emp):=⟨by simp[AV.pure,aW bY],λx i k hi hx hk=>by have hm:=fO (l:=(ae n.aa i).ah) hk;exact in34T n x.1 emp x.2 i k hi hx hk (agr (hf.ah i) oaa) (hn _ (fO hi) _ hm) λh=>he _ (fO hi) _ hm (eq_of_beq h)⟩
def v34F{n:Net}(hn:rG n)(hf:Gh n):V34 n false (.v<|.slice none 0 0) okF:=⟨rfl,λx i k hi hx hk=>by have hm:=fO (l:=(ae n.aa i).ah) hk;exact in34F n x.1 x.2 i k hi hx hk (agr (hf.ah i) oaa) (hn _ (fO hi) _ hm)⟩
section
variable{n:Net}{f:Bool}{emp:AV}{ok:Edge->Bool}(V:V34 n f emp ok)(hn:rG n)(hf:Gh n)
theorem IE(x:Sa)(l:List Edge)(k:Nat)(hk:k<l.length):jb ok x (l.take<|k+1)=ee ok (jb ok x<|l.take k) (ae l k):=by grind[List.take_add_one,eL,jb]
theorem Bl(hn:rG n)(x:Sa)(hx:x.1.length=n.aa.length): ∀m,(gi ok n x m).1.length=n.aa.length
 |0=>hx
 |m+1=>by
  have ih:=Bl hn x hx m;simp only[gi];unfold sZ;cases ae (gi ok n x m).1 m with
  |false=>exact ih
  |true=>rw[afN,(rH ok (ae n.aa m).ah (gi ok n x m) λe he=>by rw[ih];exact rI hn m e he).1.len];exact ih
 include V hn
theorem adQ(x:Sa)(i:Nat)(hi:i<n.aa.length)(hx:x.1.length=n.aa.length):ca pg 85 0 4 (.loop rF) (Lq n f emp x (jb ok x (ae n.aa i).ah) i):=by
 refine⟨λ_ e=>oao,λ_ _=> ?_⟩;have hlen: ∀l:List Edge,(∀e∈l,e∈(ae n.aa i).ah)->(jb ok x l).1.length=n.aa.length:=λl hl=>by rw[(rH ok l x λe he=>by rw[hx];exact rI hn i e<|hl e he).1.len];exact hx
 refine gM (xr:= .exit 4) (λk=>L34 n f emp (jb ok x<|(ae n.aa i).ah.take k).2 i k) (λk=>O34 (jb ok x<|(ae n.aa i).ah.take k).1) (λk=>k<=(ae n.aa i).ah.length) (λk=>(ae n.aa i).ah.length-k) 0 (af7 _) (λe=>by cases e) λk hk=> ?_;by_cases hkl:k<(ae n.aa i).ah.length
 ·left;have h:=V.round (jb ok x<|(ae n.aa i).ah.take k) i k hi (hlen _ λe he=>agy he) hkl;rw[<-IE x _ k hkl]at h;grind
 ·right;obtain rfl:k=(ae n.aa i).ah.length:=by omega
  simp only[agv];generalize jb ok x (ae n.aa i).ah=y;have h0:(decide<|((ae n.aa i).ah.length:Int)<(((ae n.aa i).ah.map aD).length:Nat))=false:=oaq;exact eB (lo:=1) (c8 aC mixed<|bt _) (L':=nI n f emp y.2 i) (ob':=O34 y.1) (sel:=[0]) (N':=1) (show iq [2,3,4,9,10,11] [0] (runK Tryz.prog 85 base c7 3000 (kbL []) rF (dX<|L34 n f emp y.2 i (ae n.aa i).ah.length) (dq<|O34 y.1) 1 ⟨1,[.row (aj<|ae n.aa i),bF,bF,bT],[]⟩)=some (.exit 4,nm (nI n f emp y.2 i),[some (.row 4 1<|y.1.map az)],1,_) by kernel_rfl)
   (a1<|ac (ak h0)<|ac (ir aj hi) a0) rfl rfl rfl (Du rfl n f emp V.pure _ _) (fG _)
 include hf
theorem mid34(x:Sa)(i:Nat)(hi:i<n.aa.length)(hx:x.1.length=n.aa.length):Piece pg 85 0 ID (nI n f emp x.2 i) (O34 x.1) .normal (nI n f emp (sZ ok n x i).2<|i+1) (O34 (sZ ok n x i).1):=by
 have h0:(decide<|(i:Int)<((n.aa.map aj).length:Nat))=true:=afH oap;have him:n.aa.length<=9223372036854775807:=agr hf.aa oaa;have hb:=adQ V hn x i hi hx;have hix:i<x.1.length:=by omega
 unfold sZ;rcases nu (ae x.1 i)with h1|h1
 ·rw[h1];simp only[afN];generalize jb ok x (ae n.aa i).ah=y at hb⊢;exact eB (lo:=1) (c8 aC mixed<|bc (l:=[(4,Lq n f emp x y i)]) aaC (aE hb rfl aP) rfl) (L':=nI n f emp y.2<|i+1) (ob':=O34 y.1) (sel:=[0]) (N':=1) (show iq [2,3,4,9,10,11] [0] (runK Tryz.prog 85 base c7 3000 (kbL [(4,Lq n f emp x y i)]) ID (dX<|nI n f emp x.2 i) (dq<|O34 x.1) 1 ⟨1,[bT,bT,.cq i [],.at i 0 (az<|ae x.1 i),bF,bF,.int ↑(i+1),bT],[]⟩)=some (.normal,nm (nI n f emp y.2<|i+1),[some (.row 4 1<|y.1.map az)],1,_) by kernel_rfl)
   (ac (o4 hi him)<|a1<|ac (kbT (Lq n f emp x y i) trivial)<|ac (n2 h1)<|ac (at1 az hix)<|ac (mJ rfl hi)<|a1<|ac h0 a0) rfl rfl rfl (Du rfl n f emp V.pure _ _) (fG _)
 ·rw[h1];simp only[afY];exact eB (lo:=1) (c8 aC mixed<|bt _) (L':=nI n f emp x.2<|i+1) (ob':=O34 x.1) (sel:=[0]) (N':=1) (show iq [2,3,4,9,10,11] [0] (runK Tryz.prog 85 base c7 3000 (kbL []) ID (dX<|nI n f emp x.2 i) (dq<|O34 x.1) 1 ⟨1,[bT,bT,.cq i [],.at i 0 (az<|ae x.1 i),bT,.int ↑(i+1),bT],[]⟩)=some (.normal,nm (nI n f emp x.2<|i+1),[some (.row 4 1<|x.1.map az)],1,_) by kernel_rfl)
   (ac (o4 hi him)<|ac (ak h1)<|ac (at1 az hix)<|ac (mJ rfl hi)<|a1<|ac h0 a0) rfl rfl rfl (Du rfl n f emp V.pure _ _) (fG _)
theorem adR(inb:lXB)(hx:inb.length=n.aa.length):ca pg 85 0 2 (.loop ID) (Lt n f emp inb<|gi ok n (inb,false) n.aa.length):=by
 refine⟨λ_ e=>oao,λ_ _=> ?_⟩;refine gM (xr:= .exit 2) (λi=>nI n f emp (gi ok n (inb,false) i).2 i) (λi=>O34 (gi ok n (inb,false) i).1) (λi=>i<=n.aa.length) (λi=>n.aa.length-i) 0 (af7 _) (λe=>by cases e) λi hi=> ?_;by_cases hil:i<n.aa.length
 ·exact .inl ⟨i+1,by omega,by omega,(by grind[mid34,gi,Bl])⟩
 ·right;obtain rfl:i=n.aa.length:=by omega
  generalize gi ok n (inb,false) n.aa.length=y;have h0:(decide<|(n.aa.length:Int)<((n.aa.map aj).length:Nat))=false:=oaq;exact eB (lo:=1) (c8 aC mixed<|bt _) (L':=nJ n f emp y.2) (ob':=O34 y.1) (sel:=[0]) (N':=1) (show iq [2,3,4,9,10] [0] (runK Tryz.prog 85 base c7 3000 (kbL []) ID (dX<|nI n f emp y.2 n.aa.length) (dq<|O34 y.1) 1 ⟨1,[bF,bF,bT],[]⟩)=some (.exit 2,nm (nJ n f emp y.2),[some (.row 4 1<|y.1.map az)],1,_) by kernel_rfl)
   (a1<|ac (ak h0) a0) rfl rfl rfl (Dv rfl n f emp V.pure _) (fG _)
theorem adS(i:Nat)(inb:lXB)(hx:RI ok n i (inb,true)):Piece pg 85 0 (.block 0<|.loop IC) (nJ n f emp true) (O34 inb) .normal (nJ n f emp false) (O34<|dE ok n i):=by
 refine gM (xr:= .exit 0) (λx:Sa=>nJ n f emp x.2) (λx=>O34 x.1) (RI ok n i) (λx=>2*cf x.1+x.2.toNat) (inb,true) hx (λe=>by cases e) λx h=> ?_;obtain⟨inb,ag⟩:=x;cases ag with
 |true=>
  left;obtain⟨k1,k2⟩:=aaB hn h;refine⟨_,k1,by simpa using k2,?_⟩;have hb:=adR V hn hf inb h.len;generalize gi ok n (inb,false) n.aa.length=y at hb⊢;exact eB (lo:=1) (c8 aC mixed<|bc (l:=[(2,Lt n f emp inb y)]) aaD (aE hb rfl aP) rfl) (L':=nJ n f emp y.2) (ob':=O34 y.1) (sel:=[0]) (N':=1) (show iq [2,3,4,9,10] [0] (runK Tryz.prog 85 base c7 3000 (kbL [(2,Lt n f emp inb y)]) IC (dX<|nJ n f emp true) (dq<|O34 inb) 1 ⟨1,[bT,bF,bT],[]⟩)=some (.normal,nm (nJ n f emp y.2),[some (.row 4 1<|y.1.map az)],1,_) by kernel_rfl)
   (a1<|ac (kbT (Lt n f emp inb y) trivial)<|a1 a0) rfl rfl rfl (Dv rfl n f emp V.pure _) (fG _)
 |false=>
  right;rw[<-adO h];exact eB (lo:=1) (c8 aC mixed<|bt _) (L':=nJ n f emp false) (ob':=O34 inb) (sel:=[0]) (N':=1) (show iq [2,3,4,9,10] [0] (runK Tryz.prog 85 base c7 3000 (kbL []) IC (dX<|nJ n f emp false) (dq<|O34 inb) 1 ⟨1,[bF,bT],[]⟩)=some (.exit 0,nm (nJ n f emp false),[some (zDv inb)],1,_) by kernel_rfl)
   (a1 a0) rfl rfl rfl (Dv rfl n f emp V.pure _) (fG _)
end
def makeT{k:Nat}(h:k<=1000000):(Nat.ble k k&&Nat.ble (1*k) 281474976710656&&Nat.ble k 9223372036854775807)=true:=by grind[Bk]
def Lu(n:Net)(f:Bool)(emp:AV)(i:Nat)(res:lXB):KB:=⟨[(2,B f),(3,emp),(4,.pf (aY n)),(9,.sr 0 1 0 (length<|zA n)),(10,B true)],[.row 4 1 ((replicate (length<|zA n) [B false]).set i [B true])],false,.ret,[],[],.normal,nJ n f emp false,O34 res,True⟩
abbrev zDP(i:Nat)(n:Net):lXE:=[.row 4 1 ((replicate (length<|map aj n.aa) [B false]).set i [B true])]
def ui{n:Net}{f:Bool}{emp:AV}{ok:Edge->Bool}(V:V34 n f emp ok)(hn:rG n)(hf:Gh n)(i:Nat)(hi:i<n.aa.length):aQ pg 34 [eM n,I (i:Nat),B f,emp] [] [] (.sr 0 1 0 n.aa.length) [.row 4 1 ((dE ok n i).map az)]:=by
 refine jT (fn:=Tryz.f34) Tryz.func34 oab (show Tryz.f34.body=some (aG 34) by kernel_rfl) (nbl rfl) (af7 _) rfl oat ?_;have hl:(n.aa.map aj).length=n.aa.length:=afK _;have hr:RI ok n i ((replicate n.aa.length false).set i true,true):=by
  refine⟨by simp,by simp[hi],λk hk=> ?_,λe=>by cases e⟩;simp only at hk;rw[List.getElem?_set]at hk;split at hk
  ·rename_i e;exact .inl e.symm
  ·rw[age]at hk;split at hk<;>simp at hk
 have hlp:=adS V hn hf i _ hr;have ho:((zDP i n):lXE)=O34 ((replicate n.aa.length false).set i true):=by simp[O34,az,List.map_set]
 have hb:ca pg 85 0 0 (.loop IC) (Lu n f emp i<|dE ok n i):=⟨λ_ e=>oao,λ_ _=>by show Piece pg 85 0 (.block 0<|.loop IC) [(2,B f),(3,emp),(4,.pf (aY n)),(9,.sr 0 1 0 (length<|map aj n.aa)),(10,B true)] (zDP i n) .normal (nJ n f emp false) (O34<|dE ok n i);rw[ho,hl];exact hlp⟩;have hs:(dec ((0+i*1)/1=i)&&(dec ((0+i*1)%1=0)&&dec ((replicate (length<|map aj n.aa) [B false])[i]? =some [B false]))&&true)=true:=by rw[aH.2 (show(0+i*1)/1=i by omega),aH.2 (show(0+i*1)%1=0 by omega),aH.2 (by rw[age,if_pos oaa])];rfl
 have hm:(Nat.ble (length<|map aj n.aa) (length<|map aj n.aa)&&Nat.ble (1*length (map aj n.aa)) 281474976710656&&Nat.ble (length<|map aj n.aa) 9223372036854775807)=true:=by exact makeT (by rw[hl];exact hf.aa)
 exact xD (lo:=0) (obs:=[.row 4 1 ((dE ok n i).map az)]) (c8 aC mixed<|bc (l:=[(0,Lu n f emp i (dE ok n i))]) adP (aE hb rfl aP) rfl) (fw _) bK.nil (show qO Tryz.prog Tryz.f34.results.toList 1 (runK Tryz.prog 85 base c7 3000 (kbL [(0,Lu n f emp i (dE ok n i))]) (aG 34) (mq 0 [eM n,I (i:Nat),B f,emp] .e) .e 0 ⟨0,[.cq i [],.at i 0 [B false],bF,bT],[]⟩)=some (.sr 0 1 0 n.aa.length,[some (.row 4 1<|(dE ok n i).map az)],_) by kernel_rfl)
  (a1<|ac (kbT (Lu n f emp i<|dE ok n i) trivial)<|ac hs<|ac (mJ rfl (by omega:i<(n.aa.map aj).length))<|ac hm a0) rfl λxs=>⟨rfl,xs,rfl⟩
@[simp] theorem aaE(l:lXB):aM (l.map az)=true:=aW bY l
@[simp] theorem pr_rowN(l:List lXC):aM (l.map bH)=true:=aW Bj l
@[simp] theorem pr_bools(l:lXB)(i:Nat)(b:Bool):aM ((l.map az).set i<|az b)=true:=by rw[<-List.map_set];exact aaE _
structure cc(n:Net):Prop where
 to:rG n
 call: ∀s∈n.aa,∀e∈s.ah,e.op=2->0<=e.n/\e.n<(n.rules.length:Int)
 start: ∀r∈n.rules,0<=r.start/\r.start<(n.aa.length:Int)
 stop: ∀r∈n.rules,0<=r.stop/\r.stop<(n.aa.length:Int)
theorem bW.f0{n:Net}(h:bW n):Gh n:=⟨h.rules,h.aa,λi=>by
 by_cases hi:i<n.aa.length
 ·exact agr (h.ah _<|ai hi) oaa
 ·have:ae n.aa i=default:=by simp_all[ae]
  rw[this];exact af7 _⟩
theorem pZ(ok:Edge->Bool)(n:Net)(i:Nat):(dE ok n i).length=n.aa.length:=by simp[dE]
def IF(l:lXB): ∀c∈(l.map az).flatten,∃x,c= .v x:=(by grind[az])
section
variable(n:Net)(x:Int)(emp:lXB)
def i34:kz:=⟨34,[eM n,I x,B true,.sr 0 1 0 (length<|map aw n.rules)],[.row 4 1 (emp.map az)],.sl 1 ((dE (okT emp) n x.toNat).map az),(0<=x/\x<(n.aa.length:Int))/\emp.length=n.rules.length⟩
theorem g34(hn:cc n)(hf:bW n):(i34 n x emp).bu pg:=λhp=>by
 have hp:(0<=x/\x<(n.aa.length:Int))/\emp.length=n.rules.length:=hp;have hx:x=((x.toNat:Nat):Int):=by omega
 have hV:V34 n true (.sl 1<|emp.map az) (okT emp):=v34T hn.to hf.f0 (by rw[hp.2];exact hn.call);have h:=ui hV hn.to hf.f0 x.toNat oaa;rw[<-hx]at h;refine fW rfl (HM (X:= .row 4 1<|emp.map az) (.inl ⟨_,_,_,rfl⟩) (fk.cons (Frz.same _)<|by grind[fk.cons,Frz.same,Frz.sr0,fk.nil]) ?_ ?_ h (by simp[dE]) (IF _) (aW bY _))
 ·simp[aq,AV.pure,aW bY]
 ·simp[Ob.und,bw bY]
end
def Lv:Code:=bn 0 (aG 25)
def aci:Code:=bn 2 Lv
section
variable(n:Net)
def yb(w0:Bool×(lXB))(i2:Nat)(y2:Bool×(lXB)):Bool×(lXB):=(bif !(ae y2.2 i2)then(bif (aB (dE (okT y2.2) n ((ae n.rules i2).start).toNat) (ae n.rules i2).stop)then(true,List.set y2.2 i2 true)else(y2.1,y2.2))else(y2.1,y2.2))
def cx(w0:Bool×(lXB))(kk:Nat):Bool×(lXB):=Nat.rec (motive:=λ_=>Bool×(lXB)) (false,w0.2) (λj a=>yb n w0 j a) kk
theorem TN(w:Bool×(lXB))(i:Nat):length (cx n w i).2=length w.2:=by
 induction i with
 |zero=>rfl
 |succ i ih=>grind[yb,cx]
theorem low25(w:Bool×(lXB))(hw:length w.2=length n.rules)(i:Nat)(hi:i<=n.rules.length):cf (cx n w i).2+(bif (cx n w i).1 then 1 else 0)<=cf w.2:=by
 induction i with
 |zero=>exact afG _
 |succ i ih=>grind[TN,yb,cx,x5]
abbrev s7(w0:Bool×(lXB))(i2:Nat)(y2:Bool×(lXB)):Am.Loc:=[(1,.pf (aY n)),(3,.sr 0 1 0 (length<|zE n)),(4,B y2.1),(5,I (i2:Int))]
end
abbrev s8(n:Net)(w0:Bool×(lXB))(i2:Nat)(y2:Bool×(lXB)):lXE:=[.row 4 1 (map az y2.2)]
section
variable(n:Net)(w0:Bool×(lXB))
abbrev TO(i2:Nat):Am.Loc:=s7 n w0 i2 (cx n w0 i2)
abbrev TP(i2:Nat):lXE:=s8 n w0 i2 (cx n w0 i2)
abbrev zCp:=(cx n w0<|length n.rules)
abbrev TQ:Am.Loc:=[(1,.pf (aY n)),(3,.sr 0 1 0 (length<|zE n)),(4,B ((zCp n w0).1))]
abbrev TR:lXE:=[.row 4 1 (map az<|(zCp n w0).2)]
def IG:KB:=noK 2 (TO n w0) (TP n w0) (.exit 2) (TQ n w0) (TR n w0) (True)
abbrev Lw(i2:Nat):List bG:=[nxW (false) (TO n w0<|i2+1) (TP n w0<|i2+1) (s7 n w0 (i2+1) (true,List.set ((cx n w0 i2).2) i2 true)) zAT (s8 n w0 (i2+1) (true,List.set ((cx n w0 i2).2) i2 true)),nxW (false) (TO n w0<|i2+1) (TP n w0<|i2+1) (s7 n w0 (i2+1) ((cx n w0 i2).1,(cx n w0 i2).2)) zAT (s8 n w0 (i2+1) ((cx n w0 i2).1,(cx n w0 i2).2))]
def TS(hn:cc n)(hf:bW n)(hw0:length w0.2=length n.rules):ca pg 46 0 2 (.loop aci) (IG n w0):=
 noB (Lw n w0) (λi2=>(.r [.k,bT]<|.yes<|.a (.r (.at i2 0 (az<|ae ((cx n w0 i2).2) i2)::uTT 5 (.row (aw<|ae n.rules i2)::uTT 4 (.cq 0 []::uTT 4 [.row (aw<|ae n.rules i2),bT,bT,bT,.cq ((ae n.rules i2).stop).toNat (az<|aB (dE (okT<|(cx n w0 i2).2) n ((ae n.rules i2).start).toNat) (ae n.rules i2).stop),bT,bT])))<|.br (.r [.at i2 0 (az<|ae ((cx n w0 i2).2) i2),bT]<|.r [bT]<|.r (zb i2)<|.pick 0)<|.r (zb i2)<|.pick 1)<|.r (.at i2 0 (az<|ae ((cx n w0 i2).2) i2)::uFF 17 [bT])<|.r (zb i2)<|.pick 1)) (range 1) zF (length n.rules)
 (λ_ i2(hx2:i2<(length n.rules))=>have hr:=hf.rules;have hl:length (cx n w0 i2).2=length n.rules:=(TN n w0 i2).trans hw0;have hs:=hn.start _ (ai hx2);have ht:=hn.stop _ (ai hx2);have hrl:=pZ (okT (cx n w0 i2).2) n (ae n.rules i2).start.toNat;have l1:=aF aw (n.rules);have hb:(decide<|(i2:Int)<(length (map aw n.rules):Int))=true:=afH oaa;
 bq (an (a1 a0)<|an hb<|aO (λ(h1:(!(ae ((cx n w0 i2).2) i2))=true)=>(have l2:=aF az ((dE (okT<|(cx n w0 i2).2) n ((ae n.rules i2).start).toNat));an (a1<|ac (rwz az (dE (okT<|(cx n w0 i2).2) n ((ae n.rules i2).start).toNat) (ae n.rules i2).stop)<|aN 3<|ac (rwa aw n.rules i2)<|aN 4<|ac (qE (c:=i34 n (ae n.rules i2).start<|(cx n w0 i2).2) ⟨hs,hl⟩ rfl)<|aN 4<|ac (rwa aw n.rules i2)<|aN 4<|ac h1<|ac (ato 1 0 i2<|rl az<|(cx n w0 i2).2)<|ac (ixo i2<|length<|map aw n.rules) a0)<|brP (λ(h2:((aB (dE (okT<|(cx n w0 i2).2) n ((ae n.rules i2).start).toNat) (ae n.rules i2).stop))=true)=>(an (ac (sto 1 0 1 i2<|rl az<|(cx n w0 i2).2)<|ac (ixo i2<|length<|map aw n.rules) a0)<|an a0<|an (ac (dwo ((i2+1:Nat):Int)) a0)<|lfE (wy (Lw n w0 i2) 0) 1 (nxP (s7 n w0<|i2+1) (s8 n w0<|i2+1) rfl<|show cx n w0 (i2+1)=_ from(cdT h1<|cdT h2 rfl))<|bo (afQ (λz=>Ob.row 4 1 z)<|lH (f:=az) (rl az<|(cx n w0 i2).2) i2 true) eC))<|λh2=>
 (an (ac (dwo ((i2+1:Nat):Int)) a0)<|lf (wy (Lw n w0 i2) 1) 1<|nxP (s7 n w0<|i2+1) (s8 n w0<|i2+1) rfl<|show cx n w0 (i2+1)=_ from(cdT h1<|cdF h2 rfl))))<|λh1=>(an (aN 16<|ac (ak h1)<|ac (ato 1 0 i2<|rl az<|(cx n w0 i2).2)<|ac (ixo i2<|length<|map aw n.rules) a0)<|an (ac (dwo ((i2+1:Nat):Int)) a0)<|lf (wy (Lw n w0 i2) 1) 1<|nxP (s7 n w0<|i2+1) (s8 n w0<|i2+1) rfl<|show cx n w0 (i2+1)=_ from(cdF h1 rfl)))
 oab)
 (λ_=>have hr:=hf.rules;have l1:=aF aw (n.rules);have hb:(zP n)=false:=afI oaa;
 bq (an (a1 a0)<|an hb<|lx (.exit 2) (TQ n w0) (range 1) (TR n w0) 1)
 oab) (callf:=λi2=>(sP [i34 n (ae n.rules i2).start ((cx n w0 i2).2)] base)) (hc:=λ_ i2 hx2=>(oD (.cons (g34 n (ae n.rules i2).start ((cx n w0 i2).2) hn hf) o7.nil) aC))
def p9:Bool×(lXB):=((cx n w0<|length n.rules).1,(cx n w0<|length n.rules).2)
end
def ep(n:Net)(kk:Nat):Bool×(lXB):=Nat.rec (motive:=λ_=>Bool×(lXB)) (true,replicate (length<|map aw n.rules) false) (λ_ a=>p9 n a) kk
def mK(n:Net)(w0:Bool×(lXB)):Bool:=(!w0.1)
def nL(n:Net):Bool×(lXB):=ep n (dL (mK n)<|ep n)
theorem Bm(n:Net): ∀k,length (ep n k).2=length n.rules
 |0=>by show length (replicate _ false)=_;simp
 |k+1=>by show length (p9 n<|ep n k).2=_;unfold p9;rw[TN,Bm n k]
def TT(n:Net):(∃k,mK n (ep n k)=true)/\ ∀k,k<=dL (mK n) (ep n)->length (ep n k).2=length n.rules:=by
 refine⟨?_,λk _=>Bm n k⟩;by_cases h: ∃k,mK n (ep n k)=true
 ·exact h
 ·have h: ∀k,(ep n k).1=true:=(by grind[mK]);have key: ∀k,cf (ep n k).2+k<=cf (ep n 0).2:=λk=>by
   induction k with
   |zero=>exact afG _
   |succ k ih=>have h1:=low25 n (ep n k) (Bm n k) n.rules.length (afG _);have h2:(cx n (ep n k) n.rules.length).1=true:=h (k+1);have h3:(ep n<|k+1).2=(cx n (ep n k) n.rules.length).2:=rfl;grind
  have:=key (cf (ep n 0).2+1);omega
abbrev Ly(n:Net)(w0:Bool×(lXB)):Am.Loc:=[(1,.pf (aY n)),(3,.sr 0 1 0 (length<|zE n)),(4,B w0.1)]
abbrev TU(n:Net)(w0:Bool×(lXB)):Am.Loc:=[(3,.sr 0 1 0 (length<|zE n))]
abbrev zBr(w0:Bool×(lXB)):lXE:=[.row 4 1 (map az w0.2)]
abbrev Lz(n:Net)(w0:Bool×(lXB)):lXE:=(zBr w0)
abbrev TV(n:Net)(w0:Bool×(lXB)):lXE:=(zBr w0)
def yc(n:Net):KB:=whK 0 (mK n) (λ_=>false) (ep n) (Ly n) (Lz n) .ret (λ_=>[]) (λ_=>[]) (.exit 0) (TU n) (TV n) (λw0=>length w0.2=length n.rules)
abbrev TW(n:Net)(w0:Bool×(lXB)):List bG:=[nxW (mK n w0) (Ly n<|p9 n w0) (Lz n<|p9 n w0) (Ly n ((zCp n w0).1,(zCp n w0).2)) zAT (Lz n ((zCp n w0).1,(zCp n w0).2)),wxW (mK n w0) false (.exit 0) (TU n w0) zAT (TV n w0)]
def Dw:cy [2] Lv=[(2,.loop aci)]:=by kernel_rfl
def TX(n:Net)(hn:cc n)(hf:bW n):ca pg 46 0 0 (.loop Lv) (yc n):=have hr:=hf.rules;whB (TW n) (λw0=>(.r [bT]<|.br (.r [bT]<|.r [bT]<|.no<|.pick 0)<|.pick 1)) (p9 n) 1 (λw0(hw0:length w0.2=length n.rules)=>bq (an a0<|brP (λ(h0:(w0.1)=true)=>(an a0<|an a0<|an (kbT (IG n w0) trivial)<|an (rfl:false=false)<|lf (wy (TW n w0) 0) 1<|nxP (Ly n) (Lz n) (show mK n w0=false from(bQ h0))<|show(p9 n w0)=((cx n w0<|length n.rules).1,(cx n w0<|length n.rules).2)from rfl))<|λh0=>(lf (wy (TW n w0) 1) 1 ⟨show mK n w0=true from(ak h0),rfl⟩)) oab) (hk:=λw0 hw0=>(bc (l:=[(2,IG n w0)]) Dw (aE (TS n w0 hn hf hw0) rfl aP) rfl))
def r25(n:Net):lXB:=(nL n).2
def uV:cy [0] (aG 25)=[(0,.loop Lv)]:=by kernel_rfl
def Ai(n:Net)(hn:cc n)(hf:bW n):aQ pg 25 [.ag (aY n)] [] [] (.sr 0 1 0<|length<|zE n) [.row 4 1 (map az<|r25 n)]:=have hr:=hf.rules;gn (fn:=Tryz.f25) (callf:=base) (pu:=c7) (lf:=3000) (l:=[(0,yc n)]) (t:=zBR) aC mixed Tryz.func25 oab (show Tryz.f25.body=some (aG 25) by kernel_rfl) (nbl rfl) (bc (l:=[(0,yc n)]) uV (aE (TX n hn hf) rfl aP) rfl) rfl oat (bq (an a0<|have l1:=aF aw (n.rules);an (ac (mko (length<|map aw n.rules) 1) a0)<|an a0<|an (FA (yc n) (S:=nm<|KB.L0<|yc n) rfl (bo (afQ (λz=>Ob.row 4 1 z)<|NK (f:=az) (length<|map aw n.rules) false) eC)<|TT n)<|an (rfl:false=false)<|an a0<|roE (k:=length<|map aw n.rules) (rfl:(.row 4 1 (map az<|(nL n).2):Ob)= .row 4 1 (map az<|(nL n).2))<|show r25 n=((nL n).2)from rfl) oab)
def Aj(n:Net)(hn:cc n)(hf:bW n):aQ pg 25 [eM n] [] [] (.sl 1<|(r25 n).map az) []:=fM (o:=0) (T:=4) (Ai n hn hf) rfl (by simp[r25,nL,Bm]) (aW bY _)
def bg(z:Int):lXF:=[I z]
def Bn(z:Int):aq (bg z)=true:=rfl
@[simp] theorem jX(l:lXA):aM (l.map bg)=true:=aW Bn l
@[simp] theorem pv_int(z:Int):aq (bg z)=true:=rfl
@[simp] theorem pv_bool(b:Bool):aq (az b)=true:=rfl
@[simp] theorem pv_nat(k:Nat):aq (cU k)=true:=rfl
def fA{b:lXF}(hb:aq b=true): ∀{a:List lXF}(i:Nat),aM a=true->aM (a.set i b)=true
 |[],_,h=>h
 |x::a,0,h=>by grind[aM]
 |x::a,i+1,h=>by simp only[aM,afv,List.set_cons_succ]at h⊢;exact⟨h.1,fA hb i h.2⟩
attribute [simp] fA fQ
@[simp] theorem ZD(l:lXB)(i j:Nat)(b c:Bool):aM (((l.map az).set i<|az b).set j<|az c)=true:=fA rfl _ (fA rfl _<|aW bY l)
abbrev fI:=Nat×lXB×lXA
noncomputable def gj(y:fI)(x:Int):fI:=bif !(ae y.2.1 x.toNat)then(y.1+1,List.set y.2.1 x.toNat true,List.take y.1 y.2.2++ [x])else y
noncomputable def tgE(n:Net)(emp:lXB)(e:Edge):lXA:=bif e.op==1 then []else bif e.op==2 then(aB n.rules e.n).start::(bif aB emp e.n then [e.to]else [])else [e.to]
structure SI(N b:Nat)(y:fI):Prop where
 len:y.2.1.length=N
 kt:y.1<=y.2.2.length
 rng: ∀x∈y.2.2,0<=x/\x<(N:Int)
 bd:y.1+cf y.2.1<=b
def SI.push{N b:Nat}{y:fI}(h:SI N b y){x:Int}(h0:0<=x/\x<(N:Int)):SI N b (gj y x)/\2*cf (gj y x).2.1+(gj y x).1<=2*cf y.2.1+y.1:=by
 unfold gj;cases hx:ae y.2.1 x.toNat with
 |true=>exact⟨h,afG _⟩
 |false=>
  have hl:=h.len;have hc:=x5 (l:=y.2.1) (c:=x.toNat) oaa hx;have hb:=h.bd;have hk:=h.kt;simp only[agx,afN];refine⟨⟨by simp[h.len],by simp;omega,λz hz=> ?_,by simp only;omega⟩,by omega⟩;simp only[agn,agO]at hz;rcases hz with hz|rfl
  ·exact h.rng z (agy hz)
  ·exact h0
def SI.fold{N b:Nat}: ∀(l:lXA){y:fI},SI N b y->(∀x∈l,0<=x/\x<(N:Int))->SI N b (l.foldl gj y)/\2*cf (l.foldl gj y).2.1+(l.foldl gj y).1<=2*cf y.2.1+y.1
 |[],_,h,_=>⟨h,afG _⟩
 |x::l,y,h,hl=>by obtain⟨h1,h2⟩:=h.push (hl x oaf);obtain⟨h3,h4⟩:=SI.fold l h1 λz hz=>hl z (by simp[hz]);grind
def SI.up{N b c:Nat}{y:fI}(h:SI N b y)(hc:b<=c):SI N c y:=⟨h.len,h.kt,h.rng,agr h.bd hc⟩
def TY(l:lXB):cf l<=l.length:=List.count_le_length
def SI.pop{N:Nat}{y:fI}(h:SI N (N+1) y):SI N N (y.1-1,y.2.1,y.2.2):=by have hl:=h.len;have hk:=h.kt;have hb:=h.bd;have hc:=TY y.2.1;exact⟨h.len,by simp only;omega,h.rng,by simp only;omega⟩
def lP{α:Type}[Inhabited α]{l:List α}{s:Int}(h:(default:α)≠aB l s\/(0<=s/\s<(l.length:Int))):aB l s∈l:=by unfold aB at*;grind
def Gj{n:Net}{s:Int}{e:Edge}(h:e∈(aB n.aa s).ah):aB n.aa s∈n.aa:=by
 unfold aB at*;cases hl:n.aa[s.toNat]? with
 |some x=>exact agm hl
 |none=>simp_all[default,instInhabitedState.default]
def vM{n:Net}(hn:cc n)(emp:lXB){s:Int}{e:Edge}(h:e∈(aB n.aa s).ah): ∀x∈tgE n emp e,0<=x/\x<(n.aa.length:Int):=by have hs:=Gj h;have ht:=hn.to _ hs _ h;have hst:e.op=2->0<=(aB n.rules e.n).start/\(aB n.rules e.n).start<(n.aa.length:Int):=λh2=>hn.start _ (lP<|.inr<|hn.call _ hs _ h h2);unfold tgE;grind
def LA:Code:=bn 0 (aG 35)
def LB:Code:=bn 2 LA
def acj:Code:=bn 4 LB
section
variable(n:Net)(emp:lXB)
def yd(i0:Nat)(w2:Nat×(lXB)×(lXA))(i4:Nat)(y4:Nat×(lXB)×(lXA)):Nat×(lXB)×(lXA):=(bif (ae (aB n.aa<|ae w2.2.2<|w2.1-1).ah i4).op==1 then(y4.1,y4.2.1,y4.2.2)else(bif (ae (aB n.aa<|ae w2.2.2<|w2.1-1).ah i4).op==2 then(bif !(ae y4.2.1<|((aB n.rules (ae (aB n.aa<|ae w2.2.2<|w2.1-1).ah i4).n).start).toNat)then(bif !(aB emp (ae (aB n.aa<|ae w2.2.2<|w2.1-1).ah i4).n)then(y4.1+1,List.set y4.2.1 (((aB n.rules (ae (aB n.aa<|ae w2.2.2<|w2.1-1).ah i4).n).start).toNat) true,List.take y4.1 y4.2.2++ [(aB n.rules (ae (aB n.aa<|ae w2.2.2<|w2.1-1).ah i4).n).start])else(bif !(ae (List.set y4.2.1 (((aB n.rules (ae (aB n.aa<|ae w2.2.2<|w2.1-1).ah i4).n).start).toNat) true)<|((ae (aB n.aa<|ae w2.2.2<|w2.1-1).ah i4).to).toNat)then(y4.1+1+1,List.set (List.set y4.2.1 (((aB n.rules (ae (aB n.aa<|ae w2.2.2<|w2.1-1).ah i4).n).start).toNat) true) (((ae (aB n.aa<|ae w2.2.2<|w2.1-1).ah i4).to).toNat) true,List.take (y4.1+1) (List.take y4.1 y4.2.2++ [(aB n.rules (ae (aB n.aa<|ae w2.2.2<|w2.1-1).ah i4).n).start])++ [(ae (aB n.aa<|ae w2.2.2<|w2.1-1).ah i4).to])else(y4.1+1,List.set y4.2.1 (((aB n.rules (ae (aB n.aa<|ae w2.2.2<|w2.1-1).ah i4).n).start).toNat) true,List.take y4.1 y4.2.2++ [(aB n.rules (ae (aB n.aa<|ae w2.2.2<|w2.1-1).ah i4).n).start])))else(bif !(aB emp (ae (aB n.aa<|ae w2.2.2<|w2.1-1).ah i4).n)then(y4.1,y4.2.1,y4.2.2)else(bif !(ae y4.2.1<|((ae (aB n.aa<|ae w2.2.2<|w2.1-1).ah i4).to).toNat)then(y4.1+1,List.set y4.2.1 (((ae (aB n.aa<|ae w2.2.2<|w2.1-1).ah i4).to).toNat) true,List.take y4.1 y4.2.2++ [(ae (aB n.aa<|ae w2.2.2<|w2.1-1).ah i4).to])else(y4.1,y4.2.1,y4.2.2))))else(bif !(ae y4.2.1<|((ae (aB n.aa<|ae w2.2.2<|w2.1-1).ah i4).to).toNat)then(y4.1+1,List.set y4.2.1 (((ae (aB n.aa<|ae w2.2.2<|w2.1-1).ah i4).to).toNat) true,List.take y4.1 y4.2.2++ [(ae (aB n.aa<|ae w2.2.2<|w2.1-1).ah i4).to])else(y4.1,y4.2.1,y4.2.2))))
def bf(i0:Nat)(w2:Nat×(lXB)×(lXA))(kk:Nat):Nat×(lXB)×(lXA):=Nat.rec (motive:=λ_=>Nat×(lXB)×(lXA)) (w2.1-1,w2.2.1,w2.2.2) (λj a=>yd n emp i0 w2 j a) kk
theorem Dx(i0:Nat)(w:fI)(i:Nat)(y:fI):yd n emp i0 w i y=(tgE n emp<|ae (aB n.aa<|ae w.2.2<|w.1-1).ah i).foldl gj y:=by
 unfold yd tgE;generalize(ae (aB n.aa<|ae w.2.2<|w.1-1).ah i)=e;obtain⟨k,inb,todo⟩:=y;cases e.op==1 with
 |true=>rfl
 |false=>
  cases e.op==2 with
  |true=>
   cases he:aB emp e.n with
   |true=>simp only[afN,afY,Bool.not_true,List.foldl_cons,List.foldl_nil,gj];grind
   |false=>rfl
  |false=>rfl
end
def IH{n:Net}(hn:cc n)(emp:lXB)(i0:Nat){w:fI}(hw:SI n.aa.length (n.aa.length+1) w)(i:Nat)(hi:i<=(aB n.aa<|ae w.2.2<|w.1-1).ah.length):SI n.aa.length n.aa.length (bf n emp i0 w i)/\2*cf (bf n emp i0 w i).2.1+(bf n emp i0 w i).1<=2*cf w.2.1+(w.1-1):=by
 induction i with
 |zero=>exact⟨hw.pop,afG _⟩
 |succ i ih=>obtain⟨h1,h2⟩:=ih oaa;show SI _ _ (yd n emp i0 w i<|bf n emp i0 w i)/\_;rw[Dx];have hst:bf n emp i0 w (i+1)=yd n emp i0 w i (bf n emp i0 w i):=rfl;rw[hst,Dx];obtain⟨h3,h4⟩:=SI.fold (tgE n emp<|ae (aB n.aa<|ae w.2.2<|w.1-1).ah i) h1 (vM hn emp<|ai oaa);exact⟨h3,by omega⟩
abbrev zDh(w2:Nat×(lXB)×(lXA)):=(ae w2.2.2<|w2.1-1)
abbrev ij(n:Net)(emp:lXB)(i0:Nat)(w2:Nat×(lXB)×(lXA))(i4:Nat)(y4:Nat×(lXB)×(lXA)):Am.Loc:=[(1,.sl 1 (map az emp)),(2,.pf (aY n)),(5,I (i0:Int)),(6,.sr 0 1 0 (length<|zA n)),(7,.sr 1 1 0 y4.1),(8,I (zDh w2)),(9,I (i4:Int))]
abbrev ik(n:Net)(emp:lXB)(i0:Nat)(w2:Nat×(lXB)×(lXA))(i4:Nat)(y4:Nat×(lXB)×(lXA)):lXE:=[.row 4 1 (map az y4.2.1),.row 3 1 (map bg y4.2.2)]
section
variable(n:Net)(emp:lXB)(i0:Nat)(w2:Nat×(lXB)×(lXA))
abbrev Gk(i4:Nat):Am.Loc:=ij n emp i0 w2 i4 (bf n emp i0 w2 i4)
abbrev Gl(i4:Nat):lXE:=ik n emp i0 w2 i4 (bf n emp i0 w2 i4)
def nM(i4:Nat):Bool:=(!((ae (aB n.aa<|ae w2.2.2<|w2.1-1).ah i4).op==1)&&(bif (ae (aB n.aa<|ae w2.2.2<|w2.1-1).ah i4).op==2 then(((aB n.rules (ae (aB n.aa<|ae w2.2.2<|w2.1-1).ah i4).n).start==(i0:Int))||(!(!(aB emp (ae (aB n.aa<|ae w2.2.2<|w2.1-1).ah i4).n))&&((ae (aB n.aa<|ae w2.2.2<|w2.1-1).ah i4).to==(i0:Int))))else((ae (aB n.aa<|ae w2.2.2<|w2.1-1).ah i4).to==(i0:Int))))
def Dy:Bool:=cz (length (aB n.aa<|ae w2.2.2<|w2.1-1).ah) (nM n emp i0 w2)
end
abbrev TZ(n:Net)(emp:lXB)(i0:Nat)(w2:Nat×(lXB)×(lXA))(i4:Nat):Am.Loc:=[(4,B true)]
abbrev T0(n:Net)(emp:lXB)(i0:Nat)(w2:Nat×(lXB)×(lXA))(i4:Nat):lXE:=[]
abbrev zK(n:Net)(w2:Nat×(lXB)×(lXA)):=(aB n.aa<|zDh w2).ah
abbrev zBz(emp:lXB)(i0:Nat)(n:Net)(w2:Nat×(lXB)×(lXA)):=(bf n emp i0 w2<|length<|zK n w2)
section
variable(n:Net)(emp:lXB)(i0:Nat)(w2:Nat×(lXB)×(lXA))
abbrev T1:Am.Loc:=[(1,.sl 1 (map az emp)),(2,.pf (aY n)),(5,I (i0:Int)),(6,.sr 0 1 0 (length<|zA n)),(7,.sr 1 1 0 ((zBz emp i0 n w2).1))]
abbrev T2:lXE:=[.row 4 1 (map az<|(zBz emp i0 n w2).2.1),.row 3 1 (map bg<|(zBz emp i0 n w2).2.2)]
end
abbrev zCF(w2:Nat×(lXB)×(lXA)):=(decide<|((w2.1:Nat):Int)>0)
def II(n:Net)(emp:lXB)(i0:Nat)(w2:Nat×(lXB)×(lXA)):KB:=anK 4 (length<|zK n w2) (nM n emp i0 w2) (Gk n emp i0 w2) (Gl n emp i0 w2) .ret (TZ n emp i0 w2) (T0 n emp i0 w2) (.exit 4) (T1 n emp i0 w2) (T2 n emp i0 w2) ((zCF w2)=true)
abbrev zBv(i4:Nat)(n:Net)(w2:Nat×(lXB)×(lXA)):=(aB n.rules (ae (zK n w2) i4).n).start
abbrev zCI:=(range 2)
abbrev kF(n:Net)(emp:lXB)(i0:Nat)(w2:Nat×(lXB)×(lXA))(i4:Nat):List bG:=[nxW (nM n emp i0 w2 i4) (Gk n emp i0 w2<|i4+1) (Gl n emp i0 w2<|i4+1) (ij n emp i0 w2 (i4+1) ((bf n emp i0 w2 i4).1,(bf n emp i0 w2 i4).2.1,(bf n emp i0 w2 i4).2.2)) zCI (ik n emp i0 w2 (i4+1) ((bf n emp i0 w2 i4).1,(bf n emp i0 w2 i4).2.1,(bf n emp i0 w2 i4).2.2)),htW (nM n emp i0 w2 i4) .ret (TZ n emp i0 w2 i4) zI (T0 n emp i0 w2 i4),nxW (nM n emp i0 w2 i4) (Gk n emp i0 w2<|i4+1) (Gl n emp i0 w2<|i4+1) (ij n emp i0 w2 (i4+1) ((bf n emp i0 w2 i4).1+1,List.set ((bf n emp i0 w2 i4).2.1) (((zBv i4 n w2)).toNat) true,List.take ((bf n emp i0 w2 i4).1) ((bf n emp i0 w2 i4).2.2)++ [(zBv i4 n w2)])) [0,3] (ik n emp i0 w2 (i4+1) ((bf n emp i0 w2 i4).1+1,List.set ((bf n emp i0 w2 i4).2.1) (((zBv i4 n w2)).toNat) true,List.take ((bf n emp i0 w2 i4).1) ((bf n emp i0 w2 i4).2.2)++ [(zBv i4 n w2)])),nxW (nM n emp i0 w2 i4) (Gk n emp i0 w2<|i4+1) (Gl n emp i0 w2<|i4+1) (ij n emp i0 w2 (i4+1) ((bf n emp i0 w2 i4).1+1+1,List.set (List.set ((bf n emp i0 w2 i4).2.1) (((zBv i4 n w2)).toNat) true) (((ae (zK n w2) i4).to).toNat) true,List.take ((bf n emp i0 w2 i4).1+1) (List.take ((bf n emp i0 w2 i4).1) ((bf n emp i0 w2 i4).2.2)++ [(zBv i4 n w2)])++ [(ae (zK n w2) i4).to])) [0,4] (ik n emp i0 w2 (i4+1) ((bf n emp i0 w2 i4).1+1+1,List.set (List.set ((bf n emp i0 w2 i4).2.1) (((zBv i4 n w2)).toNat) true) (((ae (zK n w2) i4).to).toNat) true,List.take ((bf n emp i0 w2 i4).1+1) (List.take ((bf n emp i0 w2 i4).1) ((bf n emp i0 w2 i4).2.2)++ [(zBv i4 n w2)])++ [(ae (zK n w2) i4).to])),nxW (nM n emp i0 w2 i4) (Gk n emp i0 w2<|i4+1) (Gl n emp i0 w2<|i4+1) (ij n emp i0 w2 (i4+1) ((bf n emp i0 w2 i4).1+1,List.set ((bf n emp i0 w2 i4).2.1) (((ae (zK n w2) i4).to).toNat) true,List.take ((bf n emp i0 w2 i4).1) ((bf n emp i0 w2 i4).2.2)++ [(ae (zK n w2) i4).to])) [0,3] (ik n emp i0 w2 (i4+1) ((bf n emp i0 w2 i4).1+1,List.set ((bf n emp i0 w2 i4).2.1) (((ae (zK n w2) i4).to).toNat) true,List.take ((bf n emp i0 w2 i4).1) ((bf n emp i0 w2 i4).2.2)++ [(ae (zK n w2) i4).to]))]
abbrev zAh(i4:Nat)(n:Net)(w2:Nat×(lXB)×(lXA)):=(ae (aB n.aa<|zDh w2).ah i4)
abbrev zS(emp:lXB)(i4:Nat)(n:Net)(w2:Nat×(lXB)×(lXA)):List Gi:=(.k::uTT 4 [.cq ((zAh i4 n w2).n).toNat (az<|aB emp (zAh i4 n w2).n),bT,bT,bT])
section
variable(emp:lXB)(i0 i4:Nat)(n:Net)(w2:Nat×(lXB)×(lXA))
abbrev zW:List Gi:=[.cq (((zAh i4 n w2).to).toNat) [],.at (((zAh i4 n w2).to).toNat) 0 (az<|ae ((bf n emp i0 w2 i4).2.1)<|((zAh i4 n w2).to).toNat),bT]
abbrev zAa:List Gi:=[.cq (((zAh i4 n w2).to).toNat) [],.at (((zAh i4 n w2).to).toNat) 0 (az<|ae (List.set ((bf n emp i0 w2 i4).2.1) (((aB n.rules (zAh i4 n w2).n).start).toNat) true)<|((zAh i4 n w2).to).toNat),bT]
end
abbrev zCn(i4:Nat)(n:Net)(w2:Nat×(lXB)×(lXA)):=(((aB n.rules (ae (aB n.aa<|zDh w2).ah i4).n).start).toNat)
abbrev zAt(emp:lXB)(i0 i4:Nat)(n:Net)(w2:Nat×(lXB)×(lXA)):List Gi:=[.cq (zCn i4 n w2) [],.at (zCn i4 n w2) 0 (az<|ae ((bf n emp i0 w2 i4).2.1)<|zCn i4 n w2),bT]
abbrev zDC:GT:=(.r [bT]<|.pick 1)
section
variable(n:Net)(emp:lXB)
section
variable(i0:Nat)(w2:Nat×(lXB)×(lXA))
theorem T3(hn:cc n)(hf:bW n)(hm:length emp=length n.rules)(hx0:i0<(length n.aa))(hw2:SI (length n.aa) (length n.aa+1) w2):ca pg 107 0 4 (.loop acj) (II n emp i0 w2):=
 anB (kF n emp i0 w2) (λi4=>(.r [.cq ((ae w2.2.2<|w2.1-1)).toNat (aj<|aB n.aa<|ae w2.2.2<|w2.1-1),.k,bT]<|.yes<|.r [.cq ((ae w2.2.2<|w2.1-1)).toNat (aj<|aB n.aa<|ae w2.2.2<|w2.1-1),.row (aD<|ae (aB n.aa<|ae w2.2.2<|w2.1-1).ah i4),bT]<|.r [.k,bT]<|.br (.r (zi i4)<|.pick 0)<|.r [bT]<|.r [.k,bT]<|.br (.r [.cq ((ae (aB n.aa<|ae w2.2.2<|w2.1-1).ah i4).n).toNat (aw<|aB n.rules (ae (aB n.aa<|ae w2.2.2<|w2.1-1).ah i4).n),bT]<|.r [bT]<|.more<|.r [.k,bT]<|.r [.k,bT]<|.br zDC<|.r (zAt emp i0 i4 n w2)<|.br (.r (zAt emp i0 i4 n w2)<|.r [bT]<|.r (zS emp i4 n w2)<|.br (.r (zi i4)<|.pick 2)<|.r [bT]<|.r [.int 1,bT]<|.r [.k,bT]<|.r [.k,bT]<|.br zDC<|.r (zAa emp i0 i4 n w2)<|.br (.r (zAa emp i0 i4 n w2)<|.r [bT]<|.r (zS emp i4 n w2)<|.no<|.r [bT]<|.r [.int 2,bT]<|.r [.k,bT]<|.r (zi i4)<|.pick 3)<|.r (zS emp i4 n w2)<|.no<|.r [bT]<|.r [.int 2,bT]<|.r [.k,bT]<|.r (zi i4)<|.pick 2)<|.r (zS emp i4 n w2)<|.br (.r (zi i4)<|.pick 0)<|.r [bT]<|.r [.int 1,bT]<|.r [.k,bT]<|.r [.k,bT]<|.br zDC<|.r (zW emp i0 i4 n w2)<|.br (.r (zW emp i0 i4 n w2)<|.r [bT]<|.r (zS emp i4 n w2)<|.no<|.r [bT]<|.r [.int 2,bT]<|.r [.k,bT]<|.r (zi i4)<|.pick 4)<|.r (zS emp i4 n w2)<|.no<|.r [bT]<|.r [.int 2,bT]<|.r [.k,bT]<|.r (zi i4)<|.pick 0)<|.r [bT]<|.more<|.r [.k,bT]<|.r [.k,bT]<|.br zDC<|.r (zW emp i0 i4 n w2)<|.br (.r (zW emp i0 i4 n w2)<|.r [bT]<|.r zJ<|.r (zi i4)<|.pick 4)<|.r zJ<|.r (zi i4)<|.pick 0)) (range 2) (.r [.cq ((ae w2.2.2<|w2.1-1)).toNat (aj<|aB n.aa<|ae w2.2.2<|w2.1-1),.k,bT]<|.no<|.pick 0)
 (λ(hp4:(zCF w2)=true) i4(hx4:i4<(length (aB n.aa<|ae w2.2.2<|w2.1-1).ah))=>have hr:=hf.rules;have hs:=hf.aa;have gp0:=afL hp4;have hk2:=hw2.kt;have hl2:=hw2.len;have hb2:=hw2.bd;have hs2:0<w2.1->(0<=ae w2.2.2 (w2.1-1)/\ae w2.2.2 (w2.1-1)<(length n.aa:Int)):=λh=>hw2.rng _ (ai oaa);have he:=hf.ah;have hm4:(aB n.aa<|ae w2.2.2<|w2.1-1)∈Net.aa n:=Gj (ai hx4);have hel:=hf.ah _ hm4;have hto:=hn.to _ hm4 _ (ai hx4);have hca:=hn.call _ hm4 _ (ai hx4);have hst:=λh=>hn.start _ (lP<|.inr<|hca h);have hsi:=(IH hn emp i0 hw2 i4<|ahb hx4).1;have b1:=hsi.len;have b2:=hsi.kt;have b3:=hsi.bd;have l1:=aF aD ((aB n.aa<|ae w2.2.2<|w2.1-1).ah);have hb:(decide<|(i4:Int)<(length (map aD (aB n.aa<|ae w2.2.2<|w2.1-1).ah):Int))=true:=afH oaa;
 bq (have l2:=aF aj (n.aa);an (a1<|ac (rwz aj n.aa<|ae w2.2.2<|w2.1-1) a0)<|an hb<|an (ac (rwa aD (aB n.aa<|ae w2.2.2<|w2.1-1).ah i4)<|ac (rwz aj n.aa<|ae w2.2.2<|w2.1-1) a0)<|an (a1 a0)<|brP (λ(h1:((ae (aB n.aa<|ae w2.2.2<|w2.1-1).ah i4).op==1)=true)=>have g1:=eq_of_beq h1;
 (an (ac (dwo ((i4+1:Nat):Int)) a0)<|lf (wy (kF n emp i0 w2 i4) 0) 3<|nxP (ij n emp i0 w2<|i4+1) (ik n emp i0 w2<|i4+1) (show nM n emp i0 w2 i4=false from(aT<|bQ h1))<|show bf n emp i0 w2 (i4+1)=_ from(cdT h1 rfl)))<|λh1=>have q0:=(ay (ak h1) rfl:nM n emp i0 w2 i4=_);have g1:=afT h1;
 (an a0<|an (a1 a0)<|brP (λ(h2:((ae (aB n.aa<|ae w2.2.2<|w2.1-1).ah i4).op==2)=true)=>have q1:=q0.trans (cdT h2 rfl);have g2:=eq_of_beq h2;
 (have l3:=aF aw (n.rules);an (ac (rwz aw n.rules (ae (aB n.aa<|ae w2.2.2<|w2.1-1).ah i4).n) a0)<|an a0<|an (a1 a0)<|an (a1 a0)<|brP (λ(h3:((aB n.rules (ae (aB n.aa<|ae w2.2.2<|w2.1-1).ah i4).n).start==(i0:Int))=true)=>(an a0<|lf (wy (kF n emp i0 w2 i4) 1) 3<|q1.trans<|orT h3))<|λh3=>have q3:=q1.trans (orF h3 rfl);
 (an (ac (ato 1 0 (((aB n.rules (ae (aB n.aa<|ae w2.2.2<|w2.1-1).ah i4).n).start).toNat)<|rl az<|(bf n emp i0 w2 i4).2.1)<|ac (ixz (aB n.rules (ae (aB n.aa<|ae w2.2.2<|w2.1-1).ah i4).n).start<|length<|map aj n.aa) a0)<|brP (λ(h4:(!(ae ((bf n emp i0 w2 i4).2.1)<|((aB n.rules (ae (aB n.aa<|ae w2.2.2<|w2.1-1).ah i4).n).start).toNat))=true)=>(an (ac (sto 1 0 1 (((aB n.rules (ae (aB n.aa<|ae w2.2.2<|w2.1-1).ah i4).n).start).toNat)<|rl az<|(bf n emp i0 w2 i4).2.1)<|ac (ixz (aB n.rules (ae (aB n.aa<|ae w2.2.2<|w2.1-1).ah i4).n).start<|length<|map aj n.aa) a0)<|an (ac (apo ((bf n emp i0 w2 i4).1) 8<|rl bg<|(bf n emp i0 w2 i4).2.2) a0)<|have l4:=aF az (emp);an (aN 2<|ac (rwz az emp (ae (aB n.aa<|ae w2.2.2<|w2.1-1).ah i4).n)<|aN 3<|ac (ak<|show((ae (aB n.aa<|ae w2.2.2<|w2.1-1).ah i4).op !=2)=false by rw[eq_of_beq h2];rfl)<|a1 a0)<|brP (λ(h5:(!(aB emp (ae (aB n.aa<|ae w2.2.2<|w2.1-1).ah i4).n))=true)=>(an (ac (dwo ((i4+1:Nat):Int)) a0)<|lfE (wy (kF n emp i0 w2 i4) 2) 4 (nxP (ij n emp i0 w2<|i4+1) (ik n emp i0 w2<|i4+1) (q3.trans<|aT<|bQ h5)<|show bf n emp i0 w2 (i4+1)=_ from(cdF h1<|cdT h2<|cdT h4<|cdT h5 rfl))<|bo (afQ (λz=>Ob.row 4 1 z)<|lH (f:=az) (rl az<|(bf n emp i0 w2 i4).2.1) (((aB n.rules (ae (aB n.aa<|ae w2.2.2<|w2.1-1).ah i4).n).start).toNat) true)<|bo (afQ (λz=>Ob.row 3 1 z)<|apT (f:=bg) (rl bg<|(bf n emp i0 w2 i4).2.2) ((bf n emp i0 w2 i4).1) (aB n.rules (ae (aB n.aa<|ae w2.2.2<|w2.1-1).ah i4).n).start) eC))<|λh5=>have q4:=q3.trans (ay (ak h5) rfl);
 (an a0<|an (ac (fD (1:Int)) a0)<|an (a1 a0)<|an (a1 a0)<|brP (λ(h6:((ae (aB n.aa<|ae w2.2.2<|w2.1-1).ah i4).to==(i0:Int))=true)=>(an a0<|lf (wy (kF n emp i0 w2 i4) 1) 4<|q4.trans h6))<|λh6=>(an (ac (ato 1 0 (((ae (aB n.aa<|ae w2.2.2<|w2.1-1).ah i4).to).toNat) (lH (f:=az) (rl az<|(bf n emp i0 w2 i4).2.1) (((aB n.rules (ae (aB n.aa<|ae w2.2.2<|w2.1-1).ah i4).n).start).toNat) true) oaB)<|ac (ixz (ae (aB n.aa<|ae w2.2.2<|w2.1-1).ah i4).to<|length<|map aj n.aa) a0)<|brP (λ(h7:(!(ae (List.set ((bf n emp i0 w2 i4).2.1) (((aB n.rules (ae (aB n.aa<|ae w2.2.2<|w2.1-1).ah i4).n).start).toNat) true)<|((ae (aB n.aa<|ae w2.2.2<|w2.1-1).ah i4).to).toNat))=true)=>(an (ac (sto 1 0 1 (((ae (aB n.aa<|ae w2.2.2<|w2.1-1).ah i4).to).toNat) (lH (f:=az) (rl az<|(bf n emp i0 w2 i4).2.1) (((aB n.rules (ae (aB n.aa<|ae w2.2.2<|w2.1-1).ah i4).n).start).toNat) true) oaB)<|ac (ixz (ae (aB n.aa<|ae w2.2.2<|w2.1-1).ah i4).to<|length<|map aj n.aa) a0)<|an (ac (apo ((bf n emp i0 w2 i4).1+1) 8<|apT (f:=bg) (rl bg<|(bf n emp i0 w2 i4).2.2) ((bf n emp i0 w2 i4).1) (aB n.rules (ae (aB n.aa<|ae w2.2.2<|w2.1-1).ah i4).n).start) a0)<|an (aN 2<|ac (rwz az emp (ae (aB n.aa<|ae w2.2.2<|w2.1-1).ah i4).n)<|aN 3<|ac (ak<|show((ae (aB n.aa<|ae w2.2.2<|w2.1-1).ah i4).op !=2)=false by rw[eq_of_beq h2];rfl)<|a1 a0)<|an h5<|an a0<|an (ac (fD (2:Int)) a0)<|an (a1 a0)<|an (ac (dwo ((i4+1:Nat):Int)) a0)<|lfE (wy (kF n emp i0 w2 i4) 3) 5 (nxP (ij n emp i0 w2<|i4+1) (ik n emp i0 w2<|i4+1) (q4.trans h6)<|show bf n emp i0 w2 (i4+1)=_ from(cdF h1<|cdT h2<|cdT h4<|cdF h5<|cdT h7 rfl))<|bo (afQ (λz=>Ob.row 4 1 z)<|lH (f:=az) (lH (f:=az) (rl az<|(bf n emp i0 w2 i4).2.1) (((aB n.rules (ae (aB n.aa<|ae w2.2.2<|w2.1-1).ah i4).n).start).toNat) true) (((ae (aB n.aa<|ae w2.2.2<|w2.1-1).ah i4).to).toNat) true)<|bo (afQ (λz=>Ob.row 3 1 z)<|apT (f:=bg) (apT (f:=bg) (rl bg<|(bf n emp i0 w2 i4).2.2) ((bf n emp i0 w2 i4).1) (aB n.rules (ae (aB n.aa<|ae w2.2.2<|w2.1-1).ah i4).n).start) ((bf n emp i0 w2 i4).1+1) (ae (aB n.aa<|ae w2.2.2<|w2.1-1).ah i4).to) eC))<|λh7=>(an (aN 2<|ac (rwz az emp (ae (aB n.aa<|ae w2.2.2<|w2.1-1).ah i4).n)<|aN 3<|ac (ak<|show((ae (aB n.aa<|ae w2.2.2<|w2.1-1).ah i4).op !=2)=false by rw[eq_of_beq h2];rfl)<|a1 a0)<|an h5<|an a0<|an (ac (fD (2:Int)) a0)<|an (a1 a0)<|an (ac (dwo ((i4+1:Nat):Int)) a0)<|lfE (wy (kF n emp i0 w2 i4) 2) 4 (nxP (ij n emp i0 w2<|i4+1) (ik n emp i0 w2<|i4+1) (q4.trans h6)<|show bf n emp i0 w2 (i4+1)=_ from(cdF h1<|cdT h2<|cdT h4<|cdF h5<|cdF h7 rfl))<|bo (afQ (λz=>Ob.row 4 1 z)<|lH (f:=az) (rl az<|(bf n emp i0 w2 i4).2.1) (((aB n.rules (ae (aB n.aa<|ae w2.2.2<|w2.1-1).ah i4).n).start).toNat) true)<|bo (afQ (λz=>Ob.row 3 1 z)<|apT (f:=bg) (rl bg<|(bf n emp i0 w2 i4).2.2) ((bf n emp i0 w2 i4).1) (aB n.rules (ae (aB n.aa<|ae w2.2.2<|w2.1-1).ah i4).n).start) eC)))))<|λh4=>(have l4:=aF az (emp);an (aN 2<|ac (rwz az emp (ae (aB n.aa<|ae w2.2.2<|w2.1-1).ah i4).n)<|aN 3<|ac (ak<|show((ae (aB n.aa<|ae w2.2.2<|w2.1-1).ah i4).op !=2)=false by rw[eq_of_beq h2];rfl)<|a1 a0)<|brP (λ(h5:(!(aB emp (ae (aB n.aa<|ae w2.2.2<|w2.1-1).ah i4).n))=true)=>(an (ac (dwo ((i4+1:Nat):Int)) a0)<|lf (wy (kF n emp i0 w2 i4) 0) 3<|nxP (ij n emp i0 w2<|i4+1) (ik n emp i0 w2<|i4+1) (q3.trans<|aT<|bQ h5)<|show bf n emp i0 w2 (i4+1)=_ from(cdF h1<|cdT h2<|cdF h4<|cdT h5 rfl)))<|λh5=>have q5:=q3.trans (ay (ak h5) rfl);
 (an a0<|an (ac (fD (1:Int)) a0)<|an (a1 a0)<|an (a1 a0)<|brP (λ(h6:((ae (aB n.aa<|ae w2.2.2<|w2.1-1).ah i4).to==(i0:Int))=true)=>(an a0<|lf (wy (kF n emp i0 w2 i4) 1) 3<|q5.trans h6))<|λh6=>(an (ac (ato 1 0 (((ae (aB n.aa<|ae w2.2.2<|w2.1-1).ah i4).to).toNat)<|rl az<|(bf n emp i0 w2 i4).2.1)<|ac (ixz (ae (aB n.aa<|ae w2.2.2<|w2.1-1).ah i4).to<|length<|map aj n.aa) a0)<|brP (λ(h7:(!(ae ((bf n emp i0 w2 i4).2.1)<|((ae (aB n.aa<|ae w2.2.2<|w2.1-1).ah i4).to).toNat))=true)=>(an (ac (sto 1 0 1 (((ae (aB n.aa<|ae w2.2.2<|w2.1-1).ah i4).to).toNat)<|rl az<|(bf n emp i0 w2 i4).2.1)<|ac (ixz (ae (aB n.aa<|ae w2.2.2<|w2.1-1).ah i4).to<|length<|map aj n.aa) a0)<|an (ac (apo ((bf n emp i0 w2 i4).1) 8<|rl bg<|(bf n emp i0 w2 i4).2.2) a0)<|an (aN 2<|ac (rwz az emp (ae (aB n.aa<|ae w2.2.2<|w2.1-1).ah i4).n)<|aN 3<|ac (ak<|show((ae (aB n.aa<|ae w2.2.2<|w2.1-1).ah i4).op !=2)=false by rw[eq_of_beq h2];rfl)<|a1 a0)<|an h5<|an a0<|an (ac (fD (2:Int)) a0)<|an (a1 a0)<|an (ac (dwo ((i4+1:Nat):Int)) a0)<|lfE (wy (kF n emp i0 w2 i4) 4) 4 (nxP (ij n emp i0 w2<|i4+1) (ik n emp i0 w2<|i4+1) (q5.trans h6)<|show bf n emp i0 w2 (i4+1)=_ from(cdF h1<|cdT h2<|cdF h4<|cdF h5<|cdT h7 rfl))<|bo (afQ (λz=>Ob.row 4 1 z)<|lH (f:=az) (rl az<|(bf n emp i0 w2 i4).2.1) (((ae (aB n.aa<|ae w2.2.2<|w2.1-1).ah i4).to).toNat) true)<|bo (afQ (λz=>Ob.row 3 1 z)<|apT (f:=bg) (rl bg<|(bf n emp i0 w2 i4).2.2) ((bf n emp i0 w2 i4).1) (ae (aB n.aa<|ae w2.2.2<|w2.1-1).ah i4).to) eC))<|λh7=>(an (aN 2<|ac (rwz az emp (ae (aB n.aa<|ae w2.2.2<|w2.1-1).ah i4).n)<|aN 3<|ac (ak<|show((ae (aB n.aa<|ae w2.2.2<|w2.1-1).ah i4).op !=2)=false by rw[eq_of_beq h2];rfl)<|a1 a0)<|an h5<|an a0<|an (ac (fD (2:Int)) a0)<|an (a1 a0)<|an (ac (dwo ((i4+1:Nat):Int)) a0)<|lf (wy (kF n emp i0 w2 i4) 0) 3<|nxP (ij n emp i0 w2<|i4+1) (ik n emp i0 w2<|i4+1) (q5.trans h6)<|show bf n emp i0 w2 (i4+1)=_ from(cdF h1<|cdT h2<|cdF h4<|cdF h5<|cdF h7 rfl))))))))<|λh2=>have q2:=q0.trans (cdF h2 rfl);have g2:=afT h2;
 (an a0<|an (a1 a0)<|an (a1 a0)<|brP (λ(h3:((ae (aB n.aa<|ae w2.2.2<|w2.1-1).ah i4).to==(i0:Int))=true)=>(an a0<|lf (wy (kF n emp i0 w2 i4) 1) 3<|q2.trans h3))<|λh3=>(an (ac (ato 1 0 (((ae (aB n.aa<|ae w2.2.2<|w2.1-1).ah i4).to).toNat)<|rl az<|(bf n emp i0 w2 i4).2.1)<|ac (ixz (ae (aB n.aa<|ae w2.2.2<|w2.1-1).ah i4).to<|length<|map aj n.aa) a0)<|brP (λ(h4:(!(ae ((bf n emp i0 w2 i4).2.1)<|((ae (aB n.aa<|ae w2.2.2<|w2.1-1).ah i4).to).toNat))=true)=>(an (ac (sto 1 0 1 (((ae (aB n.aa<|ae w2.2.2<|w2.1-1).ah i4).to).toNat)<|rl az<|(bf n emp i0 w2 i4).2.1)<|ac (ixz (ae (aB n.aa<|ae w2.2.2<|w2.1-1).ah i4).to<|length<|map aj n.aa) a0)<|an (ac (apo ((bf n emp i0 w2 i4).1) 8<|rl bg<|(bf n emp i0 w2 i4).2.2) a0)<|an (aN 5<|ac (n2<|show((ae (aB n.aa<|ae w2.2.2<|w2.1-1).ah i4).op !=2)=true by rw[bne,h2];rfl)<|a1 a0)<|an (ac (dwo ((i4+1:Nat):Int)) a0)<|lfE (wy (kF n emp i0 w2 i4) 4) 4 (nxP (ij n emp i0 w2<|i4+1) (ik n emp i0 w2<|i4+1) (q2.trans h3)<|show bf n emp i0 w2 (i4+1)=_ from(cdF h1<|cdF h2<|cdT h4 rfl))<|bo (afQ (λz=>Ob.row 4 1 z)<|lH (f:=az) (rl az<|(bf n emp i0 w2 i4).2.1) (((ae (aB n.aa<|ae w2.2.2<|w2.1-1).ah i4).to).toNat) true)<|bo (afQ (λz=>Ob.row 3 1 z)<|apT (f:=bg) (rl bg<|(bf n emp i0 w2 i4).2.2) ((bf n emp i0 w2 i4).1) (ae (aB n.aa<|ae w2.2.2<|w2.1-1).ah i4).to) eC))<|λh4=>(an (aN 5<|ac (n2<|show((ae (aB n.aa<|ae w2.2.2<|w2.1-1).ah i4).op !=2)=true by rw[bne,h2];rfl)<|a1 a0)<|an (ac (dwo ((i4+1:Nat):Int)) a0)<|lf (wy (kF n emp i0 w2 i4) 0) 3<|nxP (ij n emp i0 w2<|i4+1) (ik n emp i0 w2<|i4+1) (q2.trans h3)<|show bf n emp i0 w2 (i4+1)=_ from(cdF h1<|cdF h2<|cdF h4 rfl))))))
 oab)
 (λ(hp4:(zCF w2)=true)=>have hr:=hf.rules;have hs:=hf.aa;have gp0:=afL hp4;have hk2:=hw2.kt;have hl2:=hw2.len;have hb2:=hw2.bd;have hs2:0<w2.1->(0<=ae w2.2.2 (w2.1-1)/\ae w2.2.2 (w2.1-1)<(length n.aa:Int)):=λh=>hw2.rng _ (ai oaa);have l1:=aF aD ((aB n.aa<|ae w2.2.2<|w2.1-1).ah);have hb:(decide<|(((length (aB n.aa<|ae w2.2.2<|w2.1-1).ah):Nat):Int)<(length (map aD (aB n.aa<|ae w2.2.2<|w2.1-1).ah):Int))=false:=afI oaa;
 bq (have l2:=aF aj (n.aa);an (a1<|ac (rwz aj n.aa<|ae w2.2.2<|w2.1-1) a0)<|an hb<|lx (.exit 4) (T1 n emp i0 w2) (range 2) (T2 n emp i0 w2) 2)
 oab)
def ye:Nat×(lXB)×(lXA):=((bf n emp i0 w2<|length (aB n.aa<|ae w2.2.2<|w2.1-1).ah).1,(bf n emp i0 w2<|length (aB n.aa<|ae w2.2.2<|w2.1-1).ah).2.1,(bf n emp i0 w2<|length (aB n.aa<|ae w2.2.2<|w2.1-1).ah).2.2)
end
def dM(i0 kk:Nat):Nat×(lXB)×(lXA):=Nat.rec (motive:=λ_=>Nat×(lXB)×(lXA)) (1,replicate (length<|map aj n.aa) false,[(i0:Int)]) (λ_ a=>ye n emp i0 a) kk
def jY(i0:Nat)(w2:Nat×(lXB)×(lXA)):Bool:=(bif decide (((w2.1:Nat):Int)>0)then(Dy n emp i0 w2)else true)
end
def yf(n:Net)(emp:lXB)(i0:Nat)(w2:Nat×(lXB)×(lXA)):Bool:=(decide<|((w2.1:Nat):Int)>0)
def LC(n:Net)(emp:lXB)(i0:Nat):Nat×(lXB)×(lXA):=dM n emp i0 (dL (jY n emp i0)<|dM n emp i0)
def T4{n:Net}(hn:cc n)(emp:lXB)(i0:Nat)(hi:i0<n.aa.length): ∀k,SI n.aa.length (n.aa.length+1) (dM n emp i0 k)
 |0=>⟨by show(replicate _ _).length=_;simp,afG _,λx hx=>by
   have hx:x∈ [(i0:Int)]:=hx;simp_all,by
   show 1+cf (replicate _ _)<=_;have:=TY (replicate (length<|map aj n.aa) false);grind⟩
 |k+1=>(IH hn emp i0 (T4 hn emp i0 hi k) _<|afG _).1.up (Nat.le_succ _)
def T5{n:Net}(hn:cc n)(emp:lXB)(i0:Nat)(hi:i0<n.aa.length):(∃k,jY n emp i0 (dM n emp i0 k)=true)/\ ∀k,k<=dL (jY n emp i0) (dM n emp i0)->SI n.aa.length (n.aa.length+1) (dM n emp i0 k):=by
 refine⟨?_,λk _=>T4 hn emp i0 hi k⟩;by_cases h: ∃k,jY n emp i0 (dM n emp i0 k)=true
 ·exact h
 ·have h: ∀k,0<(dM n emp i0 k).1:=λk=>by
   have hk:jY n emp i0 (dM n emp i0 k)≠true:=λe=>h ⟨k,e⟩;by_cases h0:0<(dM n emp i0 k).1
   ·exact h0
   ·refine absurd ?_ hk;unfold jY;rw[show decide ((((dM n emp i0 k).1:Nat):Int)>0)=false from afI oaa];rfl
  have key: ∀k,2*cf (dM n emp i0 k).2.1+(dM n emp i0 k).1+k<=2*cf (dM n emp i0 0).2.1+(dM n emp i0 0).1:=λk=>by
   induction k with
   |zero=>exact afG _
   |succ k ih=>have h1:=(IH hn emp i0 (T4 hn emp i0 hi k) _<|afG _).2;have h2:=h k;have h3:dM n emp i0 (k+1)=bf n emp i0 (dM n emp i0 k) (length (aB n.aa<|ae (dM n emp i0 k).2.2<|(dM n emp i0 k).1-1).ah):=rfl;rw[h3];omega
  have:=key (2*cf (dM n emp i0 0).2.1+(dM n emp i0 0).1+1);omega
abbrev LD(n:Net)(emp:lXB)(i0:Nat)(w2:Nat×(lXB)×(lXA)):Am.Loc:=[(1,.sl 1 (map az emp)),(2,.pf (aY n)),(5,I (i0:Int)),(6,.sr 0 1 0 (length<|zA n)),(7,.sr 1 1 0 w2.1)]
abbrev T6(n:Net)(emp:lXB)(i0:Nat)(w2:Nat×(lXB)×(lXA)):Am.Loc:=[(4,B true)]
abbrev T7(n:Net)(emp:lXB)(i0:Nat)(w2:Nat×(lXB)×(lXA)):Am.Loc:=[(1,.sl 1 (map az emp)),(2,.pf (aY n)),(5,I (i0:Int))]
abbrev zBm(w2:Nat×(lXB)×(lXA)):lXE:=[.row 4 1 (map az w2.2.1),.row 3 1 (map bg w2.2.2)]
abbrev LF(n:Net)(emp:lXB)(i0:Nat)(w2:Nat×(lXB)×(lXA)):lXE:=(zBm w2)
abbrev T8(n:Net)(emp:lXB)(i0:Nat)(w2:Nat×(lXB)×(lXA)):lXE:=[]
abbrev T9(n:Net)(emp:lXB)(i0:Nat)(w2:Nat×(lXB)×(lXA)):lXE:=(zBm w2)
section
variable(n:Net)(emp:lXB)(i0:Nat)
def Dz:KB:=whK 2 (jY n emp i0) (yf n emp i0) (dM n emp i0) (LD n emp i0) (LF n emp i0) .ret (T6 n emp i0) (T8 n emp i0) (.exit 2) (T7 n emp i0) (T9 n emp i0) (λw2=>SI (length n.aa) (length n.aa+1) w2)
abbrev LG(w2:Nat×(lXB)×(lXA)):List bG:=[whW (jY n emp i0 w2) (yf n emp i0 w2) .ret (T6 n emp i0 w2) zI (T8 n emp i0 w2),nxW (jY n emp i0 w2) (LD n emp i0<|ye n emp i0 w2) (LF n emp i0<|ye n emp i0 w2) (LD n emp i0 ((zBz emp i0 n w2).1,(zBz emp i0 n w2).2.1,(zBz emp i0 n w2).2.2)) zCI (LF n emp i0 ((zBz emp i0 n w2).1,(zBz emp i0 n w2).2.1,(zBz emp i0 n w2).2.2)),wxW (jY n emp i0 w2) (yf n emp i0 w2) (.exit 2) (T7 n emp i0 w2) zCI (T9 n emp i0 w2)]
end
def DA:cy [4] LB=[(4,.loop acj)]:=by kernel_rfl
abbrev zDt:GT:=(.br (.pick 0)<|.pick 1)
section
variable(n:Net)(emp:lXB)(i0:Nat)
def Ua(hn:cc n)(hf:bW n)(hm:length emp=length n.rules)(hx0:i0<(length n.aa)):ca pg 107 0 2 (.loop LB) (Dz n emp i0):=
 have hr:=hf.rules;have hs:=hf.aa;whB (LG n emp i0) (λw2=>(.r [.k,bT]<|.br (.r [.int ((w2.1-1:Nat):Int),.at (w2.1-1) 0 (bg<|ae w2.2.2<|w2.1-1),bT]<|.r [.int ((w2.1-1:Nat):Int),bT]<|.r [bT] zDt)<|.pick 2)) (ye n emp i0) 2 (λw2(hw2:SI (length n.aa) (length n.aa+1) w2)=>have hr:=hf.rules;have hs:=hf.aa;have hk2:=hw2.kt;have hl2:=hw2.len;have hb2:=hw2.bd;have hs2:0<w2.1->(0<=ae w2.2.2 (w2.1-1)/\ae w2.2.2 (w2.1-1)<(length n.aa:Int)):=λh=>hw2.rng _ (ai oaa);bq (an (a1 a0)<|brP (λ(h0:(decide<|((w2.1:Nat):Int)>0)=true)=>have g0:=afL h0;
 (an (ac (ato 1 0 (w2.1-1)<|rl bg w2.2.2)<|ac (ixo (w2.1-1) w2.1)<|ac (dso w2.1) a0)<|an (ac (slo 0 (w2.1-1) w2.1)<|ac (dso w2.1) a0)<|an a0<|an (kbT (II n emp i0 w2) h0)<|brP (λ(h1:(Dy n emp i0 w2)=true)=>(lf (wy (LG n emp i0 w2) 0) 0 ⟨show jY n emp i0 w2=true from(cdT h0 h1),show yf n emp i0 w2=true from h0⟩))<|λh1=>(lf (wy (LG n emp i0 w2) 1) 2<|nxP (LD n emp i0) (LF n emp i0) (show jY n emp i0 w2=false from(cdT h0 h1))<|show(ye n emp i0 w2)=((bf n emp i0 w2<|length (aB n.aa<|ae w2.2.2<|w2.1-1).ah).1,(bf n emp i0 w2<|length (aB n.aa<|ae w2.2.2<|w2.1-1).ah).2.1,(bf n emp i0 w2<|length (aB n.aa<|ae w2.2.2<|w2.1-1).ah).2.2)from rfl)))<|λh0=>(lf (wy (LG n emp i0 w2) 2) 2 ⟨show jY n emp i0 w2=true from(cdF h0 rfl),show yf n emp i0 w2=false from h0⟩))
 oab) (hk:=λw2 hw2=>(bc (l:=[(4,II n emp i0 w2)]) DA (aE (T3 n emp i0 w2 hn hf hm hx0 hw2) rfl aP) rfl))
abbrev Ub:Am.Loc:=[(1,.sl 1 (map az emp)),(2,.pf (aY n)),(5,I (i0:Int))]
end
abbrev Uc(n:Net)(emp:lXB)(i0:Nat):lXE:=[]
def rJ(n:Net)(emp:lXB)(i0:Nat):Bool:=(yf n emp i0<|LC n emp i0)
def LH(n:Net)(emp:lXB):Bool:=cz (length n.aa) (rJ n emp)
abbrev Ud(n:Net)(emp:lXB)(i0:Nat):Am.Loc:=[(4,B true)]
abbrev Ue(n:Net)(emp:lXB)(i0:Nat):lXE:=[]
abbrev Uf(n:Net)(emp:lXB):Am.Loc:=[]
abbrev Ug(n:Net)(emp:lXB):lXE:=[]
def IJ(n:Net)(emp:lXB):KB:=anK 0 (length n.aa) (rJ n emp) (Ub n emp) (Uc n emp) .ret (Ud n emp) (Ue n emp) (.exit 0) (Uf n emp) (Ug n emp) (True)
abbrev Uh(n:Net)(emp:lXB)(i0:Nat):List bG:=[htW (rJ n emp i0) .ret (Ud n emp i0) zI (Ue n emp i0),nxW (rJ n emp i0) (Ub n emp<|i0+1) (Uc n emp<|i0+1) (Ub n emp<|i0+1) zI (Uc n emp<|i0+1)]
def DB:cy [2] LA=[(2,.loop LB)]:=by kernel_rfl
def Ui(n:Net)(emp:lXB)(hn:cc n)(hf:bW n)(hm:length emp=length n.rules):ca pg 107 0 0 (.loop LA) (IJ n emp):=
 anB (Uh n emp) (λi0=>(.r [.k,bT]<|.yes<|.r [bT]<|zAu i0)) (range 0) zF
 (λ_ i0(hx0:i0<(length n.aa))=>have hr:=hf.rules;have hs:=hf.aa;have l1:=aF aj (n.aa);have hb:(zq i0 n)=true:=afH oaa;
 bq (an (a1 a0)<|an hb<|an (ac (mko (length<|map aj n.aa) 1) a0)<|an a0<|an (FA (Dz n emp i0) (S:=nm<|KB.L0<|Dz n emp i0) rfl (bo (afQ (λz=>Ob.row 4 1 z)<|NK (f:=az) (length<|map aj n.aa) false)<|bo (rfl:(.row 3 1 [(cU i0)]:Ob)= .row 3 1 [(cU i0)]) eC)<|T5 hn emp i0 hx0)<|brP (λ(h1:(yf n emp i0<|LC n emp i0)=true)=>(lf (wy (Uh n emp i0) 0) 0<|show rJ n emp i0=true from h1))<|λh1=>(an (ac (dwo ((i0+1:Nat):Int)) a0)<|lf (wy (Uh n emp i0) 1) 2 ⟨(show rJ n emp i0=false from h1),rfl,rfl⟩))
 oab)
 (λ_=>have hr:=hf.rules;have hs:=hf.aa;have l1:=aF aj (n.aa);have hb:(zQ n)=false:=afI oaa;
 bq (an (a1 a0)<|an hb<|lx (.exit 0) (Uf n emp) (range 0) (Ug n emp) 0)
 oab) (hk:=λ_ i0 hx0=>(bc (l:=[(2,Dz n emp i0)]) DB (aE (Ua n emp i0 hn hf hm hx0) rfl aP) rfl))
def r35(n:Net)(emp:lXB):Bool:=(LH n emp)
def uW:cy [0] (aG 35)=[(0,.loop LA)]:=by kernel_rfl
def adT(n:Net)(emp:lXB)(hn:cc n)(hf:bW n)(hm:length emp=length n.rules):aQ pg 35 [.ag (aY n),.sl 1 (map az emp)] [] [] (B<|r35 n emp) []:=
 aV 35 zBS
 (an a0<|an a0<|an (kbT (IJ n emp) trivial)<|brP (λ(h0:(LH n emp)=true)=>(bE<|show r35 n emp=true from h0))<|λh0=>(an a0<|bE<|show r35 n emp=false from h0)) (hk:=(bc (l:=[(0,IJ n emp)]) uW (aE (Ui n emp hn hf hm) rfl aP) rfl))
noncomputable def tgC(e:Edge):lXA:=bif e.op !=2 then []else [e.n]
def aaF{n:Net}(hn:cc n){s:State}(hs:s∈n.aa){e:Edge}(h:e∈s.ah): ∀x∈tgC e,0<=x/\x<(n.rules.length:Int):=by have hc:=hn.call _ hs _ h;unfold tgC;grind
def LI:Code:=bn 0 (aG 36)
def LJ:Code:=bn 2 LI
def LK:Code:=bn 4 LJ
def ack:Code:=bn 6 LK
def DC(n:Net)(i0:Nat)(w2:Nat×(lXB)×(lXA))(i4:Nat)(y4:Nat×(lXB)×(lXA))(i6:Nat)(y6:Nat×(lXB)×(lXA)):Nat×(lXB)×(lXA):=(bif (ae (ae n.aa i4).ah i6).op !=2 then(y6.1,y6.2.1,y6.2.2)else(bif !(ae y6.2.1<|((ae (ae n.aa i4).ah i6).n).toNat)then(y6.1+1,List.set y6.2.1 (((ae (ae n.aa i4).ah i6).n).toNat) true,List.take y6.1 y6.2.2++ [(ae (ae n.aa i4).ah i6).n])else(y6.1,y6.2.1,y6.2.2)))
def cB(n:Net)(i0:Nat)(w2:Nat×(lXB)×(lXA))(i4:Nat)(y4:Nat×(lXB)×(lXA))(kk:Nat):Nat×(lXB)×(lXA):=Nat.rec (motive:=λ_=>Nat×(lXB)×(lXA)) (y4.1,y4.2.1,y4.2.2) (λj a=>DC n i0 w2 i4 y4 j a) kk
theorem Bo(n:Net)(i0:Nat)(w2:fI)(i4:Nat)(y4:fI)(i6:Nat)(y:fI):DC n i0 w2 i4 y4 i6 y=(tgC<|ae (ae n.aa i4).ah i6).foldl gj y:=by unfold DC tgC;obtain⟨k,inb,todo⟩:=y;cases Edge.op (ae (ae n.aa i4).ah i6) !=2<;>rfl
theorem Uj{n:Net}(hn:cc n)(i0:Nat)(w2:fI)(i4:Nat)(hi4:i4<n.aa.length){y4:fI}(hy:SI n.rules.length n.rules.length y4)(i:Nat)(hi:i<=(ae n.aa i4).ah.length):SI n.rules.length n.rules.length (cB n i0 w2 i4 y4 i)/\2*cf (cB n i0 w2 i4 y4 i).2.1+(cB n i0 w2 i4 y4 i).1<=2*cf y4.2.1+y4.1:=by
 induction i with
 |zero=>exact⟨hy,afG _⟩
 |succ i ih=>obtain⟨h1,h2⟩:=ih oaa;have hst:cB n i0 w2 i4 y4 (i+1)=DC n i0 w2 i4 y4 i (cB n i0 w2 i4 y4 i):=rfl;rw[hst,Bo];obtain⟨h3,h4⟩:=SI.fold (tgC<|ae (ae n.aa i4).ah i) h1 (aaF hn (ai hi4)<|ai oaa);exact⟨h3,by omega⟩
abbrev s9(n:Net)(i0:Nat)(w2:Nat×(lXB)×(lXA))(i4:Nat)(y4:Nat×(lXB)×(lXA))(i6:Nat)(y6:Nat×(lXB)×(lXA)):Am.Loc:=[(1,.pf (aY n)),(3,I (i0:Int)),(4,.sr 0 1 0 (length<|zE n)),(5,.sr 1 1 0 y6.1),(6,I (zDh w2)),(7,I (i4:Int)),(8,I (i6:Int))]
abbrev tc(n:Net)(i0:Nat)(w2:Nat×(lXB)×(lXA))(i4:Nat)(y4:Nat×(lXB)×(lXA))(i6:Nat)(y6:Nat×(lXB)×(lXA)):lXE:=[.row 4 1 (map az y6.2.1),.row 3 1 (map bg y6.2.2)]
section
variable(n:Net)(i0:Nat)(w2:Nat×(lXB)×(lXA))(i4:Nat)(y4:Nat×(lXB)×(lXA))(i6:Nat)
abbrev Uk:Am.Loc:=s9 n i0 w2 i4 y4 i6 (cB n i0 w2 i4 y4 i6)
abbrev Ul:lXE:=tc n i0 w2 i4 y4 i6 (cB n i0 w2 i4 y4 i6)
end
def rK(n:Net)(i0:Nat)(w2:Nat×(lXB)×(lXA))(i4:Nat)(y4:Nat×(lXB)×(lXA))(i6:Nat):Bool:=(!((ae (ae n.aa i4).ah i6).op !=2)&&((ae (ae n.aa i4).ah i6).n==(i0:Int)))
def DD(n:Net)(i0:Nat)(w2:Nat×(lXB)×(lXA))(i4:Nat)(y4:Nat×(lXB)×(lXA)):Bool:=cz (length (ae n.aa i4).ah) (rK n i0 w2 i4 y4)
abbrev Um(n:Net)(i0:Nat)(w2:Nat×(lXB)×(lXA))(i4:Nat)(y4:Nat×(lXB)×(lXA))(i6:Nat):Am.Loc:=[(2,B true)]
abbrev Un(n:Net)(i0:Nat)(w2:Nat×(lXB)×(lXA))(i4:Nat)(y4:Nat×(lXB)×(lXA))(i6:Nat):lXE:=[]
abbrev zCr(i4:Nat)(n:Net):=(ae n.aa i4).ah
section
variable(n:Net)(i0:Nat)(w2:Nat×(lXB)×(lXA))(i4:Nat)(y4:Nat×(lXB)×(lXA))
abbrev Uo:Am.Loc:=[(1,.pf (aY n)),(3,I (i0:Int)),(4,.sr 0 1 0 (length<|zE n)),(5,.sr 1 1 0 ((cB n i0 w2 i4 y4<|length<|zCr i4 n).1)),(6,I (zDh w2)),(7,I (i4:Int))]
abbrev Up:lXE:=[.row 4 1 (map az<|(cB n i0 w2 i4 y4<|length<|zCr i4 n).2.1),.row 3 1 (map bg<|(cB n i0 w2 i4 y4<|length<|zCr i4 n).2.2)]
def IK:KB:=anK 6 (length<|zCr i4 n) (rK n i0 w2 i4 y4) (Uk n i0 w2 i4 y4) (Ul n i0 w2 i4 y4) .ret (Um n i0 w2 i4 y4) (Un n i0 w2 i4 y4) (.exit 6) (Uo n i0 w2 i4 y4) (Up n i0 w2 i4 y4) (True)
abbrev Gm(i6:Nat):List bG:=[nxW (rK n i0 w2 i4 y4 i6) (Uk n i0 w2 i4 y4<|i6+1) (Ul n i0 w2 i4 y4<|i6+1) (s9 n i0 w2 i4 y4 (i6+1) ((cB n i0 w2 i4 y4 i6).1,(cB n i0 w2 i4 y4 i6).2.1,(cB n i0 w2 i4 y4 i6).2.2)) zCI (tc n i0 w2 i4 y4 (i6+1) ((cB n i0 w2 i4 y4 i6).1,(cB n i0 w2 i4 y4 i6).2.1,(cB n i0 w2 i4 y4 i6).2.2)),htW (rK n i0 w2 i4 y4 i6) .ret (Um n i0 w2 i4 y4 i6) zI (Un n i0 w2 i4 y4 i6),nxW (rK n i0 w2 i4 y4 i6) (Uk n i0 w2 i4 y4<|i6+1) (Ul n i0 w2 i4 y4<|i6+1) (s9 n i0 w2 i4 y4 (i6+1) ((cB n i0 w2 i4 y4 i6).1+1,List.set ((cB n i0 w2 i4 y4 i6).2.1) (((ae (zCr i4 n) i6).n).toNat) true,List.take ((cB n i0 w2 i4 y4 i6).1) ((cB n i0 w2 i4 y4 i6).2.2)++ [(ae (zCr i4 n) i6).n])) [0,3] (tc n i0 w2 i4 y4 (i6+1) ((cB n i0 w2 i4 y4 i6).1+1,List.set ((cB n i0 w2 i4 y4 i6).2.1) (((ae (zCr i4 n) i6).n).toNat) true,List.take ((cB n i0 w2 i4 y4 i6).1) ((cB n i0 w2 i4 y4 i6).2.2)++ [(ae (zCr i4 n) i6).n]))]
def Uq(hn:cc n)(hf:bW n)(hx0:i0<(length n.rules))(hw2:SI (length n.rules) (length n.rules+1) w2)(hp4:(zCF w2)=true)(hx4:i4<(length n.aa))(hy4:SI (length n.rules) (length n.rules) y4):ca pg 101 0 6 (.loop ack) (IK n i0 w2 i4 y4):=
 anB (Gm n i0 w2 i4 y4) (λi6=>(.r [.row (aj<|ae n.aa i4),.k,bT]<|.yes<|.r [.row (aj<|ae n.aa i4),.row (aD<|ae (ae n.aa i4).ah i6),bT]<|.r [.k,bT]<|.br (.r [.int ↑(i6+1),bT]<|.pick 0)<|.r [.k,bT]<|.br zDC<|.r [.cq (((ae (ae n.aa i4).ah i6).n).toNat) [],.at (((ae (ae n.aa i4).ah i6).n).toNat) 0 (az<|ae ((cB n i0 w2 i4 y4 i6).2.1)<|((ae (ae n.aa i4).ah i6).n).toNat),bT]<|.br (.r [.cq (((ae (ae n.aa i4).ah i6).n).toNat) [],.at (((ae (ae n.aa i4).ah i6).n).toNat) 0 (az<|ae ((cB n i0 w2 i4 y4 i6).2.1)<|((ae (ae n.aa i4).ah i6).n).toNat),bT]<|.r [bT]<|.r [.int ↑(i6+1),bT]<|.pick 2)<|.r [.int ↑(i6+1),bT]<|.pick 0)) (range 2) (.r [.row (aj<|ae n.aa i4),.k,bT]<|.no<|.pick 0)
 (λ_ i6(hx6:i6<(length (ae n.aa i4).ah))=>have hr:=hf.rules;have hs:=hf.aa;have hm4:=ai hx4;have hel:=hf.ah _ hm4;have hca:=hn.call _ hm4 _ (ai hx6);have hsi:=(Uj hn i0 w2 i4 hx4 hy4 i6<|ahb hx6).1;have b1:=hsi.len;have b2:=hsi.kt;have b3:=hsi.bd;have l1:=aF aD ((ae n.aa i4).ah);have hb:(decide<|(i6:Int)<(length (map aD (ae n.aa i4).ah):Int))=true:=afH oaa;
 bq (an (a1<|ac (rwa aj n.aa i4) a0)<|an hb<|an (ac (rwa aD (ae n.aa i4).ah i6)<|ac (rwa aj n.aa i4) a0)<|an (a1 a0)<|brP (λ(h1:((ae (ae n.aa i4).ah i6).op !=2)=true)=>have g1:=HJ h1;
 (an (ac (dwo ((i6+1:Nat):Int)) a0)<|lf (wy (Gm n i0 w2 i4 y4 i6) 0) 3<|nxP (s9 n i0 w2 i4 y4<|i6+1) (tc n i0 w2 i4 y4<|i6+1) (show rK n i0 w2 i4 y4 i6=false from(aT<|bQ h1))<|show cB n i0 w2 i4 y4 (i6+1)=_ from(cdT h1 rfl)))<|λh1=>have q0:=(ay (ak h1) rfl:rK n i0 w2 i4 y4 i6=_);have g1:=cE h1;
 (an (a1 a0)<|brP (λ(h2:((ae (ae n.aa i4).ah i6).n==(i0:Int))=true)=>(an a0<|lf (wy (Gm n i0 w2 i4 y4 i6) 1) 3<|q0.trans h2))<|λh2=>(have l2:=aF aw (n.rules);an (ac (ato 1 0 (((ae (ae n.aa i4).ah i6).n).toNat)<|rl az<|(cB n i0 w2 i4 y4 i6).2.1)<|ac (ixz (ae (ae n.aa i4).ah i6).n<|length<|map aw n.rules) a0)<|brP (λ(h3:(!(ae ((cB n i0 w2 i4 y4 i6).2.1)<|((ae (ae n.aa i4).ah i6).n).toNat))=true)=>(an (ac (sto 1 0 1 (((ae (ae n.aa i4).ah i6).n).toNat)<|rl az<|(cB n i0 w2 i4 y4 i6).2.1)<|ac (ixz (ae (ae n.aa i4).ah i6).n<|length<|map aw n.rules) a0)<|an (ac (apo ((cB n i0 w2 i4 y4 i6).1) 8<|rl bg<|(cB n i0 w2 i4 y4 i6).2.2) a0)<|an (ac (dwo ((i6+1:Nat):Int)) a0)<|lfE (wy (Gm n i0 w2 i4 y4 i6) 2) 4 (nxP (s9 n i0 w2 i4 y4<|i6+1) (tc n i0 w2 i4 y4<|i6+1) (q0.trans h2)<|show cB n i0 w2 i4 y4 (i6+1)=_ from(cdF h1<|cdT h3 rfl))<|bo (afQ (λz=>Ob.row 4 1 z)<|lH (f:=az) (rl az<|(cB n i0 w2 i4 y4 i6).2.1) (((ae (ae n.aa i4).ah i6).n).toNat) true)<|bo (afQ (λz=>Ob.row 3 1 z)<|apT (f:=bg) (rl bg<|(cB n i0 w2 i4 y4 i6).2.2) ((cB n i0 w2 i4 y4 i6).1) (ae (ae n.aa i4).ah i6).n) eC))<|λh3=>
 (an (ac (dwo ((i6+1:Nat):Int)) a0)<|lf (wy (Gm n i0 w2 i4 y4 i6) 0) 3<|nxP (s9 n i0 w2 i4 y4<|i6+1) (tc n i0 w2 i4 y4<|i6+1) (q0.trans h2)<|show cB n i0 w2 i4 y4 (i6+1)=_ from(cdF h1<|cdF h3 rfl)))))
 oab)
 (λ_=>have hr:=hf.rules;have hs:=hf.aa;have hm4:=ai hx4;have hel:=hf.ah _ hm4;have l1:=aF aD ((ae n.aa i4).ah);have hb:(decide<|(((length (ae n.aa i4).ah):Nat):Int)<(length (map aD (ae n.aa i4).ah):Int))=false:=afI oaa;
 bq (an (a1<|ac (rwa aj n.aa i4) a0)<|an hb<|lx (.exit 6) (Uo n i0 w2 i4 y4) (range 2) (Up n i0 w2 i4 y4) 2)
 oab)
def DE:Nat×(lXB)×(lXA):=(bif (ae n.aa i4).aI !=(ae w2.2.2<|w2.1-1)then(y4.1,y4.2.1,y4.2.2)else((cB n i0 w2 i4 y4<|length (ae n.aa i4).ah).1,(cB n i0 w2 i4 y4<|length (ae n.aa i4).ah).2.1,(cB n i0 w2 i4 y4<|length (ae n.aa i4).ah).2.2))
end
def dt(n:Net)(i0:Nat)(w2:Nat×(lXB)×(lXA))(kk:Nat):Nat×(lXB)×(lXA):=Nat.rec (motive:=λ_=>Nat×(lXB)×(lXA)) (w2.1-1,w2.2.1,w2.2.2) (λj a=>DE n i0 w2 j a) kk
def IL{n:Net}(hn:cc n)(i0:Nat){w2:fI}(hw:SI n.rules.length (n.rules.length+1) w2)(i:Nat)(hi:i<=n.aa.length):SI n.rules.length n.rules.length (dt n i0 w2 i)/\2*cf (dt n i0 w2 i).2.1+(dt n i0 w2 i).1<=2*cf w2.2.1+(w2.1-1):=by
 induction i with
 |zero=>exact⟨hw.pop,afG _⟩
 |succ i ih=>grind[dt,DE,Uj]
abbrev yg(n:Net)(i0:Nat)(w2:Nat×(lXB)×(lXA))(i4:Nat)(y4:Nat×(lXB)×(lXA)):Am.Loc:=[(1,.pf (aY n)),(3,I (i0:Int)),(4,.sr 0 1 0 (length<|zE n)),(5,.sr 1 1 0 y4.1),(6,I (zDh w2)),(7,I (i4:Int))]
abbrev yh(n:Net)(i0:Nat)(w2:Nat×(lXB)×(lXA))(i4:Nat)(y4:Nat×(lXB)×(lXA)):lXE:=[.row 4 1 (map az y4.2.1),.row 3 1 (map bg y4.2.2)]
section
variable(n:Net)(i0:Nat)(w2:Nat×(lXB)×(lXA))
abbrev Ur(i4:Nat):Am.Loc:=yg n i0 w2 i4 (dt n i0 w2 i4)
abbrev Us(i4:Nat):lXE:=yh n i0 w2 i4 (dt n i0 w2 i4)
def pc(i4:Nat):Bool:=(!((ae n.aa i4).aI !=(ae w2.2.2<|w2.1-1))&&(DD n i0 w2 i4<|dt n i0 w2 i4))
def DF:Bool:=cz (length n.aa) (pc n i0 w2)
end
abbrev Ut(n:Net)(i0:Nat)(w2:Nat×(lXB)×(lXA))(i4:Nat):Am.Loc:=[(2,B true)]
abbrev Uu(n:Net)(i0:Nat)(w2:Nat×(lXB)×(lXA))(i4:Nat):lXE:=[]
abbrev zBn(i0:Nat)(n:Net)(w2:Nat×(lXB)×(lXA)):=(dt n i0 w2<|length n.aa)
section
variable(n:Net)(i0:Nat)(w2:Nat×(lXB)×(lXA))
abbrev Uv:Am.Loc:=[(1,.pf (aY n)),(3,I (i0:Int)),(4,.sr 0 1 0 (length<|zE n)),(5,.sr 1 1 0 ((zBn i0 n w2).1))]
abbrev Uw:lXE:=[.row 4 1 (map az<|(zBn i0 n w2).2.1),.row 3 1 (map bg<|(zBn i0 n w2).2.2)]
def IM:KB:=anK 4 (length n.aa) (pc n i0 w2) (Ur n i0 w2) (Us n i0 w2) .ret (Ut n i0 w2) (Uu n i0 w2) (.exit 4) (Uv n i0 w2) (Uw n i0 w2) ((zCF w2)=true)
end
abbrev zAk(i0 i4:Nat)(n:Net)(w2:Nat×(lXB)×(lXA)):=(cB n i0 w2 i4 (dt n i0 w2 i4)<|length<|zCr i4 n)
abbrev LL(n:Net)(i0:Nat)(w2:Nat×(lXB)×(lXA))(i4:Nat):List bG:=[nxW (pc n i0 w2 i4) (Ur n i0 w2<|i4+1) (Us n i0 w2<|i4+1) (yg n i0 w2 (i4+1) ((dt n i0 w2 i4).1,(dt n i0 w2 i4).2.1,(dt n i0 w2 i4).2.2)) zCI (yh n i0 w2 (i4+1) ((dt n i0 w2 i4).1,(dt n i0 w2 i4).2.1,(dt n i0 w2 i4).2.2)),htW (pc n i0 w2 i4) .ret (Ut n i0 w2 i4) zI (Uu n i0 w2 i4),nxW (pc n i0 w2 i4) (Ur n i0 w2<|i4+1) (Us n i0 w2<|i4+1) (yg n i0 w2 (i4+1) ((zAk i0 i4 n w2).1,(zAk i0 i4 n w2).2.1,(zAk i0 i4 n w2).2.2)) zCI (yh n i0 w2 (i4+1) ((zAk i0 i4 n w2).1,(zAk i0 i4 n w2).2.1,(zAk i0 i4 n w2).2.2))]
def DG:cy [6] LK=[(6,.loop ack)]:=by kernel_rfl
section
variable(n:Net)(i0:Nat)(w2:Nat×(lXB)×(lXA))
def Ux(hn:cc n)(hf:bW n)(hx0:i0<(length n.rules))(hw2:SI (length n.rules) (length n.rules+1) w2):ca pg 101 0 4 (.loop LK) (IM n i0 w2):=
 anB (LL n i0 w2) (λi4=>(.r [.k,bT]<|.yes<|.r [.row (aj<|ae n.aa i4),.k,bT]<|.br (.r (zi i4)<|.pick 0)<|.r [bT]<|.br (.pick 1)<|.r (zi i4)<|.pick 2)) (range 2) zF
 (λ(hp4:(zCF w2)=true) i4(hx4:i4<(length n.aa))=>have hr:=hf.rules;have hs:=hf.aa;have gp0:=afL hp4;have hk2:=hw2.kt;have hl2:=hw2.len;have hb2:=hw2.bd;have hs2:0<w2.1->(0<=ae w2.2.2 (w2.1-1)/\ae w2.2.2 (w2.1-1)<(length n.rules:Int)):=λh=>hw2.rng _ (ai oaa);have l1:=aF aj (n.aa);have hb:(decide<|(i4:Int)<(length (map aj n.aa):Int))=true:=afH oaa;
 bq (an (a1 a0)<|an hb<|an (a1<|ac (rwa aj n.aa i4) a0)<|brP (λ(h1:((ae n.aa i4).aI !=(ae w2.2.2<|w2.1-1))=true)=>(an (ac (dwo ((i4+1:Nat):Int)) a0)<|lf (wy (LL n i0 w2 i4) 0) 2<|nxP (yg n i0 w2<|i4+1) (yh n i0 w2<|i4+1) (show pc n i0 w2 i4=false from(aT<|bQ h1))<|show dt n i0 w2 (i4+1)=_ from(cdT h1 rfl)))<|λh1=>(an a0<|an (kbT (IK n i0 w2 i4<|dt n i0 w2 i4) trivial)<|brP (λ(h2:(DD n i0 w2 i4<|dt n i0 w2 i4)=true)=>(lf (wy (LL n i0 w2 i4) 1) 0<|show pc n i0 w2 i4=true from(ay (ak h1) h2)))<|λh2=>(an (ac (dwo ((i4+1:Nat):Int)) a0)<|lf (wy (LL n i0 w2 i4) 2) 2<|nxP (yg n i0 w2<|i4+1) (yh n i0 w2<|i4+1) (show pc n i0 w2 i4=false from(ay (ak h1) h2))<|show dt n i0 w2 (i4+1)=_ from(cdF h1 rfl))))
 oab)
 (λ(hp4:(zCF w2)=true)=>have hr:=hf.rules;have hs:=hf.aa;have gp0:=afL hp4;have hk2:=hw2.kt;have hl2:=hw2.len;have hb2:=hw2.bd;have hs2:0<w2.1->(0<=ae w2.2.2 (w2.1-1)/\ae w2.2.2 (w2.1-1)<(length n.rules:Int)):=λh=>hw2.rng _ (ai oaa);have l1:=aF aj (n.aa);have hb:(zQ n)=false:=afI oaa;
 bq (an (a1 a0)<|an hb<|lx (.exit 4) (Uv n i0 w2) (range 2) (Uw n i0 w2) 2)
 oab) (hk:=λhp4 i4 hx4=>(bc (l:=[(6,IK n i0 w2 i4 (dt n i0 w2 i4))]) DG (aE (Uq n i0 w2 i4 (dt n i0 w2 i4) hn hf hx0 hw2 hp4 hx4 (IL hn i0 hw2 i4<|ahb hx4).1) rfl aP) rfl))
def yi:Nat×(lXB)×(lXA):=((dt n i0 w2<|length n.aa).1,(dt n i0 w2<|length n.aa).2.1,(dt n i0 w2<|length n.aa).2.2)
end
def dZ(n:Net)(i0 kk:Nat):Nat×(lXB)×(lXA):=Nat.rec (motive:=λ_=>Nat×(lXB)×(lXA)) (1,replicate (length<|map aw n.rules) false,[(i0:Int)]) (λ_ a=>yi n i0 a) kk
def jZ(n:Net)(i0:Nat)(w2:Nat×(lXB)×(lXA)):Bool:=(bif decide (((w2.1:Nat):Int)>0)then(DF n i0 w2)else true)
def uj(n:Net)(i0:Nat)(w2:Nat×(lXB)×(lXA)):Bool:=(decide<|((w2.1:Nat):Int)>0)
def Gn(n:Net)(i0:Nat):Nat×(lXB)×(lXA):=dZ n i0 (dL (jZ n i0)<|dZ n i0)
def Uy{n:Net}(hn:cc n)(i0:Nat)(hi:i0<n.rules.length): ∀k,SI n.rules.length (n.rules.length+1) (dZ n i0 k)
 |0=>⟨by show(replicate _ _).length=_;simp,afG _,λx hx=>by
   have hx:x∈ [(i0:Int)]:=hx;simp_all,by
   show 1+cf (replicate _ _)<=_;have:=TY (replicate (length<|map aw n.rules) false);grind⟩
 |k+1=>(IL hn i0 (Uy hn i0 hi k) _<|afG _).1.up (Nat.le_succ _)
def Uz{n:Net}(hn:cc n)(i0:Nat)(hi:i0<n.rules.length):(∃k,jZ n i0 (dZ n i0 k)=true)/\ ∀k,k<=dL (jZ n i0) (dZ n i0)->SI n.rules.length (n.rules.length+1) (dZ n i0 k):=by
 refine⟨?_,λk _=>Uy hn i0 hi k⟩;by_cases h: ∃k,jZ n i0 (dZ n i0 k)=true
 ·exact h
 ·have h: ∀k,0<(dZ n i0 k).1:=λk=>by
   have hk:jZ n i0 (dZ n i0 k)≠true:=λe=>h ⟨k,e⟩;by_cases h0:0<(dZ n i0 k).1
   ·exact h0
   ·refine absurd ?_ hk;unfold jZ;rw[show decide ((((dZ n i0 k).1:Nat):Int)>0)=false from afI oaa];rfl
  have key: ∀k,2*cf (dZ n i0 k).2.1+(dZ n i0 k).1+k<=2*cf (dZ n i0 0).2.1+(dZ n i0 0).1:=λk=>by
   induction k with
   |zero=>exact afG _
   |succ k ih=>have h1:=(IL hn i0 (Uy hn i0 hi k) _<|afG _).2;have h2:=h k;have h3:dZ n i0 (k+1)=dt n i0 (dZ n i0 k) n.aa.length:=rfl;rw[h3];omega
  have:=key (2*cf (dZ n i0 0).2.1+(dZ n i0 0).1+1);omega
abbrev LM(n:Net)(i0:Nat)(w2:Nat×(lXB)×(lXA)):Am.Loc:=[(1,.pf (aY n)),(3,I (i0:Int)),(4,.sr 0 1 0 (length<|zE n)),(5,.sr 1 1 0 w2.1)]
abbrev UA(n:Net)(i0:Nat)(w2:Nat×(lXB)×(lXA)):Am.Loc:=[(2,B true)]
abbrev UB(n:Net)(i0:Nat)(w2:Nat×(lXB)×(lXA)):Am.Loc:=(zBk i0 n)
abbrev LN(n:Net)(i0:Nat)(w2:Nat×(lXB)×(lXA)):lXE:=(zBm w2)
abbrev UC(n:Net)(i0:Nat)(w2:Nat×(lXB)×(lXA)):lXE:=[]
abbrev UD(n:Net)(i0:Nat)(w2:Nat×(lXB)×(lXA)):lXE:=(zBm w2)
def DH(n:Net)(i0:Nat):KB:=whK 2 (jZ n i0) (uj n i0) (dZ n i0) (LM n i0) (LN n i0) .ret (UA n i0) (UC n i0) (.exit 2) (UB n i0) (UD n i0) (λw2=>SI (length n.rules) (length n.rules+1) w2)
abbrev LO(n:Net)(i0:Nat)(w2:Nat×(lXB)×(lXA)):List bG:=[whW (jZ n i0 w2) (uj n i0 w2) .ret (UA n i0 w2) zI (UC n i0 w2),nxW (jZ n i0 w2) (LM n i0<|yi n i0 w2) (LN n i0<|yi n i0 w2) (LM n i0 ((zBn i0 n w2).1,(zBn i0 n w2).2.1,(zBn i0 n w2).2.2)) zCI (LN n i0 ((zBn i0 n w2).1,(zBn i0 n w2).2.1,(zBn i0 n w2).2.2)),wxW (jZ n i0 w2) (uj n i0 w2) (.exit 2) (UB n i0 w2) zCI (UD n i0 w2)]
def DJ:cy [4] LJ=[(4,.loop LK)]:=by kernel_rfl
def UE(n:Net)(i0:Nat)(hn:cc n)(hf:bW n)(hx0:i0<(length n.rules)):ca pg 101 0 2 (.loop LJ) (DH n i0):=
 have hr:=hf.rules;have hs:=hf.aa;whB (LO n i0) (λw2=>(.r [.k,bT]<|.br (.r [.int ((w2.1-1:Nat):Int),.at (w2.1-1) 0 (bg<|ae w2.2.2<|w2.1-1),bT]<|.r [.int ((w2.1-1:Nat):Int),bT]<|.r [bT] zDt)<|.pick 2)) (yi n i0) 2 (λw2(hw2:SI (length n.rules) (length n.rules+1) w2)=>have hr:=hf.rules;have hs:=hf.aa;have hk2:=hw2.kt;have hl2:=hw2.len;have hb2:=hw2.bd;have hs2:0<w2.1->(0<=ae w2.2.2 (w2.1-1)/\ae w2.2.2 (w2.1-1)<(length n.rules:Int)):=λh=>hw2.rng _ (ai oaa);bq (an (a1 a0)<|brP (λ(h0:(decide<|((w2.1:Nat):Int)>0)=true)=>have g0:=afL h0;
 (an (ac (ato 1 0 (w2.1-1)<|rl bg w2.2.2)<|ac (ixo (w2.1-1) w2.1)<|ac (dso w2.1) a0)<|an (ac (slo 0 (w2.1-1) w2.1)<|ac (dso w2.1) a0)<|an a0<|an (kbT (IM n i0 w2) h0)<|brP (λ(h1:(DF n i0 w2)=true)=>(lf (wy (LO n i0 w2) 0) 0 ⟨show jZ n i0 w2=true from(cdT h0 h1),show uj n i0 w2=true from h0⟩))<|λh1=>(lf (wy (LO n i0 w2) 1) 2<|nxP (LM n i0) (LN n i0) (show jZ n i0 w2=false from(cdT h0 h1))<|show(yi n i0 w2)=((dt n i0 w2<|length n.aa).1,(dt n i0 w2<|length n.aa).2.1,(dt n i0 w2<|length n.aa).2.2)from rfl)))<|λh0=>(lf (wy (LO n i0 w2) 2) 2 ⟨show jZ n i0 w2=true from(cdF h0 rfl),show uj n i0 w2=false from h0⟩))
 oab) (hk:=λw2 hw2=>(bc (l:=[(4,IM n i0 w2)]) DJ (aE (Ux n i0 w2 hn hf hx0 hw2) rfl aP) rfl))
abbrev UF(n:Net)(i0:Nat):Am.Loc:=(zBk i0 n)
abbrev UG(n:Net)(i0:Nat):lXE:=[]
def nN(n:Net)(i0:Nat):Bool:=(!(!(ae n.rules i0).bR)&&(uj n i0<|Gn n i0))
def LP(n:Net):Bool:=cz (length n.rules) (nN n)
abbrev UH(n:Net)(i0:Nat):Am.Loc:=[(2,B true)]
abbrev UI(n:Net)(i0:Nat):lXE:=[]
abbrev UJ(n:Net):Am.Loc:=[]
abbrev UK(n:Net):lXE:=[]
def IN(n:Net):KB:=anK 0 (length n.rules) (nN n) (UF n) (UG n) .ret (UH n) (UI n) (.exit 0) (UJ n) (UK n) (True)
abbrev LQ(n:Net)(i0:Nat):List bG:=[nxW (nN n i0) (UF n<|i0+1) (UG n<|i0+1) (UF n<|i0+1) zI (UG n<|i0+1),htW (nN n i0) .ret (UH n i0) zI (UI n i0)]
def DK:cy [2] LI=[(2,.loop LJ)]:=by kernel_rfl
def UL(n:Net)(hn:cc n)(hf:bW n):ca pg 101 0 0 (.loop LI) (IN n):=
 anB (LQ n) (λi0=>(.r [.k,bT]<|.yes<|.r (zCV i0 n)<|.br (zc i0)<|.r [bT]<|.r [bT]<|.br (.pick 1)<|zc i0)) (range 0) zF
 (λ_ i0(hx0:i0<(length n.rules))=>have hr:=hf.rules;have hs:=hf.aa;have l1:=aF aw (n.rules);have hb:(zAH i0 n)=true:=afH oaa;
 bq (an (a1 a0)<|an hb<|an (ac (rwa aw n.rules i0) a0)<|brP (λ(h1:(!(ae n.rules i0).bR)=true)=>(an (ac (dwo ((i0+1:Nat):Int)) a0)<|lf (wy (LQ n i0) 0) 0 ⟨(show nN n i0=false from(aT<|bQ h1)),rfl,rfl⟩))<|λh1=>(an (ac (mko (length<|map aw n.rules) 1) a0)<|an a0<|an (FA (DH n i0) (S:=nm<|KB.L0<|DH n i0) rfl (bo (afQ (λz=>Ob.row 4 1 z)<|NK (f:=az) (length<|map aw n.rules) false)<|bo (rfl:(.row 3 1 [(cU i0)]:Ob)= .row 3 1 [(cU i0)]) eC)<|Uz hn i0 hx0)<|brP (λ(h2:(uj n i0<|Gn n i0)=true)=>(lf (wy (LQ n i0) 1) 0<|show nN n i0=true from(ay (ak h1) h2)))<|λh2=>(an (ac (dwo ((i0+1:Nat):Int)) a0)<|lf (wy (LQ n i0) 0) 2 ⟨(show nN n i0=false from(ay (ak h1) h2)),rfl,rfl⟩)))
 oab)
 (λ_=>have hr:=hf.rules;have hs:=hf.aa;have l1:=aF aw (n.rules);have hb:(zP n)=false:=afI oaa;
 bq (an (a1 a0)<|an hb<|lx (.exit 0) (UJ n) (range 0) (UK n) 0)
 oab) (hk:=λ_ i0 hx0=>(bc (l:=[(2,DH n i0)]) DK (aE (UE n i0 hn hf hx0) rfl aP) rfl))
def r36(n:Net):Bool:=(LP n)
def uX:cy [0] (aG 36)=[(0,.loop LI)]:=by kernel_rfl
def aaG(n:Net)(hn:cc n)(hf:bW n):aQ pg 36 [.ag (aY n)] [] [] (B<|r36 n) []:=
 aV 36 zBS
 (an a0<|an a0<|an (kbT (IN n) trivial)<|brP (λ(h0:(LP n)=true)=>(bE<|show r36 n=true from h0))<|λh0=>(an a0<|bE<|show r36 n=false from h0)) (hk:=(bc (l:=[(0,IN n)]) uX (aE (UL n hn hf) rfl aP) rfl))
end Go.Proofs.YtfkjfjalecikkaaGreatDoor
end
