/- States (of the document's answer). Names. Rules (net). Kinds of edges (net). States (net). An abstract machine, part Ve: a call on memory is the same call on an object that is live; known calls on a store that is written out; loops whose rounds lead to states that are told anew. Graphs: which nodes are come to from one. graph.from. graph.from: the nodes come to from one, by a step at least. -/
import Derived.Test.YtfkjfjalecikkaaGreatDoorDD
noncomputable section
open List (length map range replicate)
set_option maxRecDepth 100000
namespace Go.Proofs.YtfkjfjalecikkaaGreatDoor
open Go.Am
structure bg (n:Net):Prop where
 types:n.types.length<=9223372036854775807
 n0:n.cE.length<=9223372036854775807
 cH:n.cH.length<=9223372036854775807
 rules:n.rules.length<=1000000
 aa:n.aa.length<=1000000
 aj: ∀s∈n.aa,s.aj.length<=1000000
 OT: ∀s∈n.aa,∀e∈s.aj,DH e
structure jg (n:Net):Prop where
 types:n.types.length<=9223372036854775807
 n0:n.cE.length<=9223372036854775807
 cH:n.cH.length<=9223372036854775807
 rules:n.rules.length<=1000000
theorem bg.h {n:Net} (h:bg n):jg n:=⟨h.types,h.n0,h.cH,h.rules⟩
def i68 (n:Net) (s:State) (i:Int) (e:Edge):b9:=⟨68,[fY n,.ag (ak s),I i,.ag (bc e)],B (r68 n s i e),DH e/\(0<=State.aK s/\State.aK s<(length n.rules:Int))⟩
theorem g68 (n:Net) (s:State) (i:Int) (e:Edge):(i68 n s i e).cd pg:=fun hp=>⟨YK n s i e hp.1 hp.2,by simp [i68,ae,AV.pure],rfl⟩
def BH:Code:=bV 0 (aH 33)
def BI:Code:=bV 2 BH
def Jh:Code:=bV 4 BI
def sT (n:Net) (i0 i2 i4:Nat):Am.Loc:=[(1,.pf (aR n)),(3,I (i0:Int)),(4,.pt 0 0),(5,I (i2:Int)),(6,I (i4:Int))]
abbrev zI (i0:Nat) (n:Net):=(ak (ah n.aa i0))
def sU (n:Net) (i0 _ _:Nat):List Ob:=[.box 40 (zI i0 n)]
def n4 (n:Net) (i0 i2 i4:Nat):Bool:=(((ah (ah n.aa i0).aj i2).op==4)&&((ah (ah n.aa i0).aj i4).n==(ah (ah n.aa i0).aj i2).n))
def sV (n:Net) (i0 i2:Nat):Bool:=dh (i2) (n4 n i0 i2)
def u0 (n:Net) (i0 _ _:Nat):Am.Loc:=[(2,B false)]
def va (n:Net) (i0 _ _:Nat):List Ob:=[]
def n5 (n:Net) (i0 i2:Nat):Am.Loc:=(zBj i0 i2 n)
def n6 (n:Net) (i0 _:Nat):List Ob:=[.box 40 (zI i0 n)]
def BJ (n:Net) (i0 i2:Nat):KB:=⟨sT n i0 i2 0,sU n i0 i2 0,sV n i0 i2,.ret,u0 n i0 i2 (cc (i2) (n4 n i0 i2)),va n i0 i2 (cc (i2) (n4 n i0 i2)),.normal,n5 n i0 i2,n6 n i0 i2,True⟩
def BK (n:Net) (i0 i2 i4:Nat):List bj:=[htW (n4 n i0 i2 i4) .ret (u0 n i0 i2 i4) za (va n i0 i2 i4),nxW (n4 n i0 i2 i4) (sT n i0 i2 (i4+1)) (sU n i0 i2 (i4+1)) (sT n i0 i2 (i4+1)) zAU (sU n i0 i2 (i4+1))]
def Xu (n:Net) (i0 i2 i4:Nat):GT:=(.r [.k,bT] (.yes (.a (.r (.row (bc (ah (ah n.aa i0).aj i2))::.k::uTT 4 (.row (bc (ah (ah n.aa i0).aj i4))::uTT 6 [.row (bc (ah (ah n.aa i0).aj i2)),bT,bT,bT,.k,bT])) (.br (.r [bT] (.pick 0)) (.r [.int ↑(i4+1),bT] (.pick 1)))) (.r (.row (bc (ah (ah n.aa i0).aj i2))::.k::uFF 13 [bT]) (.r [.int ↑(i4+1),bT] (.pick 1))))))
abbrev zt (i0:Nat) (n:Net):=(decide ((ah n.aa i0).aK>=(length (map aD n.rules):Int)))
abbrev zAv (i0:Nat) (n:Net):=(decide ((ah n.aa i0).aK<0))
theorem YL (n:Net) (i0 i2 i4:Nat) (hf:bg n) (hx0:i0<(length n.aa)) (_:(zAv i0 n)=false/\(zt i0 n)=false) (hx2:i2<(length (ah n.aa i0).aj)) (hx4:i4<i2):vcC pg 89 base aO 3000 (kbL []) Jh (bu (sT n i0 i2 i4)) (bA (sU n i0 i2 i4)) 1 (bQ (BK n i0 i2 i4)) (Xu n i0 i2 i4):=
 have hr:=hf.rules;have hs:=hf.aa;have he:=hf.aj _ (ay hx0);have hb:(decide ((i4:Int)<(i2:Int)))=true:=decide_eq_true (by omega);
 aZ (an (a1 a0)
 (an hb (aP (fun (h1:((ah (ah n.aa i0).aj i2).op==4)=true)=>have g1:=eq_of_beq h1;
 (an (aN 4 (ac (bR bc (l:=(ah n.aa i0).aj) (i:=i2) (by omega)) (aN 6 (ac (bR bc (l:=(ah n.aa i0).aj) (i:=i4) (by omega)) (aN 3 (ac h1 (a1 (ac (bR bc (l:=(ah n.aa i0).aj) (i:=i2) (by omega)) a0))))))))
 (brP (fun (h2:((ah (ah n.aa i0).aj i4).n==(ah (ah n.aa i0).aj i2).n)=true)=>
 (an a0
 (lf (wy (BK n i0 i2 i4) 0) 1 (show n4 n i0 i2 i4=true from (aE h1 h2))))) (fun h2=>
 (an (ac (dwr (z:= ↑(i4+1)) (by omega) (by omega)) a0)
 (lf (wy (BK n i0 i2 i4) 1) 1 ⟨(show n4 n i0 i2 i4=false from (aE h1 h2)),rfl,rfl⟩)))))) (fun h1=>have g1:=ne_of_beq_false h1;
 (an (aN 12 (ac (au h1) (a1 (ac (bR bc (l:=(ah n.aa i0).aj) (i:=i2) (by omega)) a0))))
 (an (ac (dwr (z:= ↑(i4+1)) (by omega) (by omega)) a0)
 (lf (wy (BK n i0 i2 i4) 1) 1 ⟨(show n4 n i0 i2 i4=false from (aY h1)),rfl,rfl⟩)))))))
 (by kernel_rfl)
theorem YM (n:Net) (i0 i2:Nat) (hf:bg n) (_:i0<(length n.aa)) (_:(zAv i0 n)=false/\(zt i0 n)=false) (_:i2<(length (ah n.aa i0).aj)):vcC pg 89 base aO 3000 (kbL []) Jh (bu (sT n i0 i2 i2)) (bA (sU n i0 i2 i2)) 1 (bQ [⟨True,(.exit 4),n5 n i0 i2,range 1,n6 n i0 i2⟩]) zE:=
 have hr:=hf.rules;have hs:=hf.aa;have hb:(decide ((i2:Int)<(i2:Int)))=false:=decide_eq_false (by omega);
 aZ (an (a1 a0)
 (an hb (lf (wy [⟨True,(.exit 4),n5 n i0 i2,range 1,n6 n i0 i2⟩] 0) 1 trivial)))
 (by kernel_rfl)
theorem RT (n:Net) (i0 i2 i4:Nat):(BK n i0 i2 i4).all zr=true:=by refine (aF (aQ rfl rfl rfl ?_ ?_) (aF (aQ rfl rfl rfl ?_ ?_) bD))<;>simp (maxDischargeDepth:=9) [nxW,htW,sT,u0,plS,AV.pure,sU,va,plO]
theorem RU (n:Net) (i0 i2:Nat):bj.b8 0 ⟨True,(.exit 4),n5 n i0 i2,range 1,n6 n i0 i2⟩=true:=by refine (aQ rfl rfl rfl ?_ ?_)<;>simp (maxDischargeDepth:=9) [n5,plS,AV.pure,n6,plO]
theorem RV (n:Net) (i0 i2:Nat) (hf:bg n) (hx0:i0<(length n.aa)) (hp2:(zAv i0 n)=false/\(zt i0 n)=false) (hx2:i2<(length (ah n.aa i0).aj)):dg pg 89 0 4 (.loop Jh) (BJ n i0 i2):=
 have hr:=hf.rules;have hs:=hf.aa;bZ (fun _=>e9 (id:=4) (m:=i2) (t:=n4 n i0 i2) (xr:= .ret) (xn:=(.exit 4)) (Lr:=u0 n i0 i2) (Lx:=n5 n i0 i2) (obr:=va n i0 i2) (obx:=n6 n i0 i2) (V:=fun i4=>vcC pg 89 base aO 3000 (kbL []) Jh) (sT n i0 i2) (sU n i0 i2) 1 (BK n i0 i2) (Xu n i0 i2) _ _ (fun i4 hx4=>aS aw mixed (az _)) (aS aw mixed (az _)) (fun e=>by cases e) (fun e=>by cases e) (fun _=>rfl) (fun i4 hx4=>YL n i0 i2 i4 hf hx0 hp2 hx2 hx4) (fun i4 _=>RT n i0 i2 i4) (fun i4 _=>show∀ww∈BK n i0 i2 i4,cy _ _ _ _ _ _ ww from (aG da (aG cg bG))) (YM n i0 i2 hf hx0 hp2 hx2) (RU n i0 i2)) (fun h=>h) (fun h=>h)
def sW (n:Net) (i0 i2:Nat):Am.Loc:=(zBj i0 i2 n)
def sX (n:Net) (i0 _:Nat):List Ob:=[.box 40 (zI i0 n)]
def n7 (n:Net) (i0 i2:Nat):Bool:=((!(r68 n (ah n.aa i0) (i0:Int) (ah (ah n.aa i0).aj i2)))||(sV n i0 i2))
def iI (n:Net) (i0:Nat):Bool:=dh (length (ah n.aa i0).aj) (n7 n i0)
def vb (n:Net) (i0 _:Nat):Am.Loc:=[(2,B false)]
def vc (n:Net) (i0 _:Nat):List Ob:=[]
def n8 (n:Net) (i0:Nat):Am.Loc:=(zAu i0 n)
def n9 (n:Net) (i0:Nat):List Ob:=[.box 40 (zI i0 n)]
abbrev zC (i0:Nat) (n:Net):=(ah n.aa i0).aj
abbrev zc (n:Net):=(map aD n.rules)
abbrev zg (i0:Nat) (n:Net):=(ah n.aa i0).aK
abbrev zBT (i0:Nat) (n:Net):=(length (zC i0 n))
def vd (n:Net) (i0:Nat):KB:=⟨sW n i0 0,sX n i0 0,iI n i0,.ret,vb n i0 (cc (zBT i0 n) (n7 n i0)),vc n i0 (cc (zBT i0 n) (n7 n i0)),.normal,n8 n i0,n9 n i0,(decide ((zg i0 n)<0))=false/\(decide ((zg i0 n)>=(length (zc n):Int)))=false⟩
def BL (n:Net) (i0 i2:Nat):List bj:=[htW (n7 n i0 i2) .ret (vb n i0 i2) za (vc n i0 i2),nxW (n7 n i0 i2) (sW n i0 (i2+1)) (sX n i0 (i2+1)) (sW n i0 (i2+1)) zAU (sX n i0 (i2+1))]
def Xv (n:Net) (i0 i2:Nat):GT:=(.r [.k,bT] (.yes (.r [.row (bc (ah (ah n.aa i0).aj i2)),.int 0,bT] (.br (.r [bT] (.pick 0)) (.r [bT] (.br (.pick 0) (.r [.int ↑(i2+1),bT] (.pick 1))))))))
abbrev zAF (i0 i2:Nat) (n:Net):=(ah (zC i0 n) i2)
abbrev zAd (i0 i2:Nat) (n:Net):=(decide ((i2:Int)<(length (map bc (ah n.aa i0).aj):Int)))
theorem YN (n:Net) (i0 i2:Nat) (hf:bg n) (hx0:i0<(length n.aa)) (hp2:(zAv i0 n)=false/\(zt i0 n)=false) (hx2:i2<(length (ah n.aa i0).aj)):vcC pg 89 (bC [i68 n (ah n.aa i0) (i0:Int) (zAF i0 i2 n)] base) aO 3000 (kbL [(4,BJ n i0 i2)]) BI (bu (sW n i0 i2)) (bA (sX n i0 i2)) 1 (bQ (BL n i0 i2)) (Xv n i0 i2):=
 have hr:=hf.rules;have hs:=hf.aa;have gp0:=of_decide_eq_false hp2.1;have gp1:=of_decide_eq_false hp2.2;have lp1:=aW aD (n.rules);have he:=hf.aj _ (ay hx0);have l1:=aW bc ((ah n.aa i0).aj);have hb:(zAd i0 i2 n)=true:=decide_eq_true (by omega);
 aZ (an (a1 a0)
 (an hb (an (cA (g68 n (ah n.aa i0) (i0:Int) (ah (ah n.aa i0).aj i2)) ⟨hf.OT _ (ay hx0) _ (ay hx2),(show 0<=State.aK (ah n.aa i0)/\State.aK (ah n.aa i0)<(length n.rules:Int) by omega)⟩ (ac (bR bc (l:=(ah n.aa i0).aj) (i:=i2) (by omega)) a0))
 (brP (fun (h1:(!(r68 n (ah n.aa i0) (i0:Int) (ah (ah n.aa i0).aj i2)))=true)=>
 (an a0
 (lf (wy (BL n i0 i2) 0) 1 (show n7 n i0 i2=true from (orT h1))))) (fun h1=>
 (an a0
 (an (kbT (BJ n i0 i2) trivial) (brP (fun (h2:(sV n i0 i2)=true)=>
 (lf (wy (BL n i0 i2) 0) 0 (show n7 n i0 i2=true from (orF h1 h2)))) (fun h2=>
 (an (ac (dwr (z:= ↑(i2+1)) (by omega) (by omega)) a0)
 (lf (wy (BL n i0 i2) 1) 1 ⟨(show n7 n i0 i2=false from (orF h1 h2)),rfl,rfl⟩)))))))))))
 (by kernel_rfl)
abbrev zz (i0:Nat) (n:Net):=(decide ((((length (ah n.aa i0).aj):Nat):Int)<(length (map bc (ah n.aa i0).aj):Int)))
theorem YO (n:Net) (i0:Nat) (hf:bg n) (_:i0<(length n.aa)) (hp2:(zAv i0 n)=false/\(zt i0 n)=false):vcC pg 89 base aO 3000 (kbL []) BI (bu (sW n i0 (zBT i0 n))) (bA (sX n i0 (zBT i0 n))) 1 (bQ [⟨True,(.exit 2),n8 n i0,range 1,n9 n i0⟩]) zE:=
 have hr:=hf.rules;have hs:=hf.aa;have gp0:=of_decide_eq_false hp2.1;have gp1:=of_decide_eq_false hp2.2;have lp1:=aW aD (n.rules);have l1:=aW bc ((ah n.aa i0).aj);have hb:(zz i0 n)=false:=decide_eq_false (by omega);
 aZ (an (a1 a0)
 (an hb (lf (wy [⟨True,(.exit 2),n8 n i0,range 1,n9 n i0⟩] 0) 1 trivial)))
 (by kernel_rfl)
theorem RW (n:Net) (i0 i2:Nat):(BL n i0 i2).all zr=true:=by refine (aF (aQ rfl rfl rfl ?_ ?_) (aF (aQ rfl rfl rfl ?_ ?_) bD))<;>simp (maxDischargeDepth:=9) [nxW,htW,sW,vb,plS,AV.pure,sX,vc,plO]
theorem RY (n:Net) (i0:Nat):bj.b8 0 ⟨True,(.exit 2),n8 n i0,range 1,n9 n i0⟩=true:=by refine (aQ rfl rfl rfl ?_ ?_)<;>simp (maxDischargeDepth:=9) [n8,plS,AV.pure,n9,plO]
theorem GO:dB [4] BI=[(4,.loop Jh)]:=by kernel_rfl
theorem RZ (n:Net) (i0:Nat) (hf:bg n) (hx0:i0<(length n.aa)):dg pg 89 0 2 (.loop BI) (vd n i0):=
 have hr:=hf.rules;have hs:=hf.aa;bZ (fun hp2=>e9 (id:=2) (m:=length (ah n.aa i0).aj) (t:=n7 n i0) (xr:= .ret) (xn:=(.exit 2)) (Lr:=vb n i0) (Lx:=n8 n i0) (obr:=vc n i0) (obx:=n9 n i0) (V:=fun i2=>vcC pg 89 (bC [i68 n (ah n.aa i0) (i0:Int) (ah (ah n.aa i0).aj i2)] base) aO 3000 (kbL [(4,BJ n i0 i2)]) BI) (sW n i0) (sX n i0) 1 (BL n i0) (Xv n i0) _ _ (fun i2 hx2=>aS (bf (.cons (g68 n (ah n.aa i0) (i0:Int) (ah (ah n.aa i0).aj i2)) rfl cv.nil) aw) mixed (bO (l:=[(4,BJ n i0 i2)]) GO (aV (RV n i0 i2 hf hx0 hp2 hx2) rfl bn) rfl)) (aS aw mixed (az _)) (fun e=>by cases e) (fun e=>by cases e) (fun _=>rfl) (fun i2 hx2=>YN n i0 i2 hf hx0 hp2 hx2) (fun i2 _=>RW n i0 i2) (fun i2 _=>show∀ww∈BL n i0 i2,cy _ _ _ _ _ _ ww from (aG da (aG cg bG))) (YO n i0 hf hx0 hp2) (RY n i0)) (fun h=>h) (fun h=>h)
def wU (n:Net) (i0:Nat):Am.Loc:=(zAu i0 n)
def ES (n:Net) (i0:Nat):List Ob:=[]
def lB (n:Net) (i0:Nat):Bool:=((decide ((ah n.aa i0).aK<0))||((decide ((ah n.aa i0).aK>=(length (map aD n.rules):Int)))||(bif (length (map bc (ah n.aa i0).aj):Int)==0 then (((i0:Int) !=(aB n.rules (ah n.aa i0).aK).stop)||(iI n i0)) else (iI n i0))))
def yA (n:Net):Bool:=dh (length n.aa) (lB n)
def BM (n:Net) (i0:Nat):Am.Loc:=[(2,B false)]
def K8 (n:Net) (i0:Nat):List Ob:=[]
def qU (n:Net):Am.Loc:=[]
def BN (n:Net):List Ob:=[]
abbrev zG (n:Net):=(length n.aa)
def GP (n:Net):KB:=⟨wU n 0,ES n 0,yA n,.ret,BM n (cc (zG n) (lB n)),K8 n (cc (zG n) (lB n)),.normal,qU n,BN n,True⟩
def oc (n:Net) (i0:Nat):List bj:=[htW (lB n i0) .ret (BM n i0) za (K8 n i0),nxW (lB n i0) (wU n (i0+1)) (ES n (i0+1)) (wU n (i0+1)) za (ES n (i0+1))]
def Xw (n:Net) (i0:Nat):GT:=(.r [.k,bT] (.yes (.r [.row (ak (ah n.aa i0)),bT] (.a (.r (.k::uFF 6 [bT]) (.r [bT] (.pick 0))) (.r (.k::uTT 6 [.k,bT]) (.br (.r [bT] (.pick 0)) (.a (.r (.k::uTT 6 [.cC ((ah n.aa i0).aK).toNat (aD (aB n.rules (ah n.aa i0).aK)),bT,bT,bT,.k,bT]) (.br (.r [bT] (.pick 0)) (.r [bT] (.br (.pick 0) (.r [.int ↑(i0+1),bT] (.pick 1)))))) (.r (.k::uFF 9 [bT]) (.r [bT] (.br (.pick 0) (.r [.int ↑(i0+1),bT] (.pick 1))))))))))))
abbrev zj (i0:Nat) (n:Net):=(decide ((i0:Int)<(length (map ak n.aa):Int)))
theorem YP (n:Net) (i0:Nat) (hf:bg n) (hx0:i0<(length n.aa)):vcC pg 89 base aO 3000 (kbL [(2,vd n i0)]) BH (bu (wU n i0)) (bA (ES n i0)) 0 (bQ (oc n i0)) (Xw n i0):=
 have hr:=hf.rules;have hs:=hf.aa;have l1:=aW ak (n.aa);have hb:(zj i0 n)=true:=decide_eq_true (by omega);
 aZ (an (a1 a0)
 (an hb (an (ac (bR ak (l:=n.aa) (i:=i0) (by omega)) a0)
 (aP (fun (h1:(zAv i0 n)=true)=>
 (an (aN 5 (ac (n2 h1) (a1 a0)))
 (an a0
 (lf (wy (oc n i0) 0) 1 (show lB n i0=true from (orT h1)))))) (fun h1=>have q0:=(orF h1 rfl:lB n i0=_);have g1:=of_decide_eq_false h1;
 (an (aN 6 (ac (au h1) (a1 a0)))
 (brP (fun (h2:(zt i0 n)=true)=>
 (an a0
 (lf (wy (oc n i0) 0) 1 (q0.trans (orT h2))))) (fun h2=>have q1:=q0.trans (orF h2 rfl);have l2:=aW aD (n.rules);have g2:=of_decide_eq_false h2;
 (aP (fun (h3:((length (map bc (ah n.aa i0).aj):Int)==0)=true)=>have q2:=q1.trans (cdT h3 rfl);have l3:=aW bc ((ah n.aa i0).aj);have g3:=eq_of_beq h3;
 (an (aN 4 (ac (bK (f:=aD) (l:=n.rules) (s:=(ah n.aa i0).aK) (decide_eq_true (by omega)) (decide_eq_true (by omega))) (aN 5 (ac h3 (a1 a0)))))
 (brP (fun (h4:((i0:Int) !=(aB n.rules (ah n.aa i0).aK).stop)=true)=>
 (an a0
 (lf (wy (oc n i0) 0) 1 (q2.trans (orT h4))))) (fun h4=>have q4:=q2.trans (orF h4 rfl);
 (an a0
 (an (kbT (vd n i0) ⟨h1,h2⟩) (brP (fun (h5:(iI n i0)=true)=>
 (lf (wy (oc n i0) 0) 0 (q4.trans h5))) (fun h5=>
 (an (ac (dwr (z:= ↑(i0+1)) (by omega) (by omega)) a0)
 (lf (wy (oc n i0) 1) 1 ⟨(q4.trans h5),rfl,rfl⟩)))))))))) (fun h3=>have q3:=q1.trans (cdF h3 rfl);have l3:=aW bc ((ah n.aa i0).aj);have g3:=ne_of_beq_false h3;
 (an (aN 8 (ac (au h3) (a1 a0)))
 (an a0
 (an (kbT (vd n i0) ⟨h1,h2⟩) (brP (fun (h4:(iI n i0)=true)=>
 (lf (wy (oc n i0) 0) 0 (q3.trans h4))) (fun h4=>
 (an (ac (dwr (z:= ↑(i0+1)) (by omega) (by omega)) a0)
 (lf (wy (oc n i0) 1) 1 ⟨(q3.trans h4),rfl,rfl⟩)))))))))))))))))
 (by kernel_rfl)
abbrev zO (n:Net):=(decide ((((length n.aa):Nat):Int)<(length (map ak n.aa):Int)))
theorem YQ (n:Net) (hf:bg n):vcC pg 89 base aO 3000 (kbL []) BH (bu (wU n (zG n))) (bA (ES n (zG n))) 0 (bQ [⟨True,(.exit 0),qU n,range 0,BN n⟩]) zE:=
 have hr:=hf.rules;have hs:=hf.aa;have l1:=aW ak (n.aa);have hb:(zO n)=false:=decide_eq_false (by omega);
 aZ (an (a1 a0)
 (an hb (lf (wy [⟨True,(.exit 0),qU n,range 0,BN n⟩] 0) 0 trivial)))
 (by kernel_rfl)
theorem R0 (n:Net) (i0:Nat):(oc n i0).all zr=true:=by refine (aF (aQ rfl rfl rfl ?_ rfl) (aF (aQ rfl rfl rfl ?_ rfl) bD))<;>simp (maxDischargeDepth:=9) [nxW,htW,wU,BM,plS,AV.pure]
theorem R3 (n:Net):bj.b8 0 ⟨True,(.exit 0),qU n,range 0,BN n⟩=true:=(aQ rfl rfl rfl rfl rfl)
theorem GQ:dB [2] BH=[(2,.loop BI)]:=by kernel_rfl
theorem R4 (n:Net) (hf:bg n):dg pg 89 0 0 (.loop BH) (GP n):=
 have hr:=hf.rules;have hs:=hf.aa;bZ (fun _=>e9 (id:=0) (m:=length n.aa) (t:=lB n) (xr:= .ret) (xn:=(.exit 0)) (Lr:=BM n) (Lx:=qU n) (obr:=K8 n) (obx:=BN n) (V:=fun i0=>vcC pg 89 base aO 3000 (kbL [(2,vd n i0)]) BH) (wU n) (ES n) 0 (oc n) (Xw n) _ _ (fun i0 hx0=>aS aw mixed (bO (l:=[(2,vd n i0)]) GQ (aV (RZ n i0 hf hx0) rfl bn) rfl)) (aS aw mixed (az _)) (fun e=>by cases e) (fun e=>by cases e) (fun _=>rfl) (fun i0 hx0=>YP n i0 hf hx0) (fun i0 _=>R0 n i0) (fun i0 _=>show∀ww∈oc n i0,cy _ _ _ _ _ _ ww from (aG da (aG cg bG))) (YQ n hf) (R3 n)) (fun h=>h) (fun h=>h)
def r33 (n:Net):Bool:=(!(yA n))
theorem xS:dB [0] (aH 33)=[(0,.loop BH)]:=by kernel_rfl
theorem R5 (n:Net) (hf:bg n):ba pg 33 [.ag (aR n)] [] [] (B (r33 n)) []:=
 bB (fn:=Tryz.f33) (callf:=base) (pu:=aO) (lf:=3000) (l:=[(0,GP n)]) (t:=zh) aw mixed Tryz.func33 (by kernel_rfl) (show Tryz.f33.body=some (aH 33) by kernel_rfl) (Nat.le_of_ble_eq_true rfl) (bO (l:=[(0,GP n)]) xS (aV (R4 n hf) rfl bn) rfl) rfl (aZ
 (an a0
 (an a0
 (an (kbT (GP n) trivial) (brP (fun (h0:(yA n)=true)=>
 (bE (show r33 n=false from (cx h0)))) (fun h0=>
 (an a0
 (bE (show r33 n=true from (au h0)))))))))
 (by kernel_rfl))
def Ji:Code:=bV 0 (aH 60)
def K9 (l:List ByteArray) (i0:Nat) (y0:List ByteArray):List ByteArray:=y0++ [(ah l i0)]
def gh (l:List ByteArray) (kk:Nat):List ByteArray:=Nat.rec (motive:=fun _=>List ByteArray) ([]) (fun j a=>K9 l j a) kk
def BO (l:List ByteArray) (i0:Nat):Am.Loc:=[(3,.mp 0),(7,.sl 1 (zBi l)),(8,I (length (zBi l):Int)),(9,I (i0:Int))]
def sY (l:List ByteArray) (i0:Nat):List Ob:=[cB (gh l i0)]
def sZ (l:List ByteArray) (i0:Nat):Bool:=((cP (Array.toList (ByteArray.data (ah l i0))) [])||((decide ((ByteArray.size (ah l i0):Int)>40))||(dec ((ah l i0)∈(gh l i0)))))
def yB (l:List ByteArray):Bool:=dh (length l) (sZ l)
def BP (l:List ByteArray) (i0:Nat):Am.Loc:=[(2,B false)]
def ve (l:List ByteArray) (i0:Nat):List Ob:=[]
def qV (l:List ByteArray):Am.Loc:=[]
def od (l:List ByteArray):List Ob:=[cB (gh l (length l))]
def GS (l:List ByteArray):KB:=⟨BO l 0,sY l 0,yB l,.ret,BP l (cc (length l) (sZ l)),ve l (cc (length l) (sZ l)),.normal,qV l,od l,True⟩
def wV (l:List ByteArray) (i0:Nat):List bj:=[htW (sZ l i0) .ret (BP l i0) za (ve l i0),nxW (sZ l i0) (BO l (i0+1)) (sY l (i0+1)) [(3,.mp 0),(7,.sl 1 (zBi l)),(8,I (length (zBi l):Int)),(9,I ↑(i0+1))] zAU [.mp (map Value.string (gh l i0)++ [.string (ah l i0)]) (map tru (gh l i0)++ [.v (.bool true)])]]
def Xx (l:List ByteArray) (i0:Nat):GT:=(.r [.k,bT] (.yes (.r [.row (bx (ah l i0)),bT] (.a (.r (.k::uFF 6 [bT]) (.r [bT] (.pick 0))) (.a (.r [.k,bT,bT,bT,.k,bF,bF,bF,bT] (.r [bT] (.pick 0))) (.r [.k,bT,bT,bT,.k,bT,bT,bT,.key (js (gh l i0) (ah l i0)) (B (dec ((ah l i0)∈(gh l i0)))),bT] (.br (.r [bT] (.pick 0)) (.r [.key none .any,bT] (.r [.int ↑(i0+1),bT] (.pick 1))))))))))
theorem YR (l:List ByteArray) (i0:Nat) (ls:length l<=9223372036854775807) (hx0:i0<(length l)):vcC pg 28 base aO 3000 (kbL []) Ji (bu (BO l i0)) (bA (sY l i0)) 1 (bQ (wV l i0)) (Xx l i0):=
 have l1:=aW bx (l);have hb:(decide ((i0:Int)<(length (map bx l):Int)))=true:=decide_eq_true (by omega);
 aZ (an (a1 a0)
 (an hb (an (ac (bR bx (l:=l) (i:=i0) (by omega)) a0)
 (aP (fun (h1:(cP (Array.toList (ByteArray.data (ah l i0))) [])=true)=>
 (an (aN 5 (ac (n2 h1) (a1 a0)))
 (an a0
 (lf (wy (wV l i0) 0) 1 (show sZ l i0=true from (orT h1)))))) (fun h1=>have q0:=(orF h1 rfl:sZ l i0=_);have g1:=size_pos h1;
 (aP (fun (h2:(decide ((ByteArray.size (ah l i0):Int)>40))=true)=>
 (an (aN 2 (ac (n2 h2) (aN 3 (ac (au h1) (a1 a0)))))
 (an a0
 (lf (wy (wV l i0) 0) 1 (q0.trans (orT h2)))))) (fun h2=>have q1:=q0.trans (orF h2 rfl);have g2:=of_decide_eq_false h2;
 (an (ac (lkS (ah l i0) (gh l i0)) (aN 2 (ac (au h2) (aN 3 (ac (au h1) (a1 a0))))))
 (brP (fun (h3:(dec ((ah l i0)∈(gh l i0)))=true)=>
 (an a0
 (lf (wy (wV l i0) 0) 1 (q1.trans h3)))) (fun h3=>
 (an (ac (nwS h3) a0)
 (an (ac (dwr (z:= ↑(i0+1)) (by omega) (by omega)) a0)
 (lf (wy (wV l i0) 1) 1 ⟨(q1.trans h3),rfl,(by rw [show sY l (i0+1)=(fun y0:List ByteArray=>([cB y0]:List Ob)) (gh l (i0+1)) from rfl,(show gh l (i0+1)=((gh l i0)++ [(ah l i0)]) from rfl),(QK (ah l i0) (gh l i0))])⟩)))))))))))))
 (by kernel_rfl)
theorem YS (l:List ByteArray) (_:length l<=9223372036854775807):vcC pg 28 base aO 3000 (kbL []) Ji (bu (BO l (length l))) (bA (sY l (length l))) 1 (bQ [⟨True,(.exit 0),qV l,range 1,od l⟩]) zE:=
 have l1:=aW bx (l);have hb:(zCL l)=false:=decide_eq_false (by omega);
 aZ (an (a1 a0)
 (an hb (lf (wy [⟨True,(.exit 0),qV l,range 1,od l⟩] 0) 1 trivial)))
 (by kernel_rfl)
theorem R6 (l:List ByteArray) (i0:Nat):(wV l i0).all zr=true:=by refine (aF (aQ rfl rfl rfl ?_ ?_) (aF (aQ rfl rfl rfl ?_ ?_) bD))<;>simp (maxDischargeDepth:=9) [nxW,htW,BO,BP,plS,AV.pure,sY,ve,plO,cB]
theorem R7 (l:List ByteArray):bj.b8 0 ⟨True,(.exit 0),qV l,range 1,od l⟩=true:=(aQ rfl rfl rfl rfl (by simp (maxDischargeDepth:=9) [od,plO,cB]))
theorem R8 (l:List ByteArray) (ls:length l<=9223372036854775807):dg pg 28 0 0 (.loop Ji) (GS l):=
 bZ (fun _=>e9 (id:=0) (m:=length l) (t:=sZ l) (xr:= .ret) (xn:=(.exit 0)) (Lr:=BP l) (Lx:=qV l) (obr:=ve l) (obx:=od l) (V:=fun i0=>vcC pg 28 base aO 3000 (kbL []) Ji) (BO l) (sY l) 1 (wV l) (Xx l) _ _ (fun i0 hx0=>aS aw mixed (az _)) (aS aw mixed (az _)) (fun e=>by cases e) (fun e=>by cases e) (fun _=>rfl) (fun i0 hx0=>YR l i0 ls hx0) (fun i0 _=>R6 l i0) (fun i0 _=>show∀ww∈wV l i0,cy _ _ _ _ _ _ ww from (aG da (aG cg bG))) (YS l ls) (R7 l)) (fun h=>h) (fun h=>h)
def r60 (l:List ByteArray):Bool:=(!(yB l))
theorem xT:dB [0] (aH 60)=[(0,.loop Ji)]:=by kernel_rfl
theorem Jj (l:List ByteArray) (ls:length l<=9223372036854775807):ba pg 60 [.sl 1 (zBi l)] [] [] (B (r60 l)) []:=
 bB (fn:=Tryz.f60) (callf:=base) (pu:=aO) (lf:=3000) (l:=[(0,GS l)]) (t:=(.r [bT] zh)) aw mixed Tryz.func60 (by kernel_rfl) (show Tryz.f60.body=some (aH 60) by kernel_rfl) (Nat.le_of_ble_eq_true rfl) (bO (l:=[(0,GS l)]) xT (aV (R8 l ls) rfl bn) rfl) rfl (aZ
 (an a0
 (an a0
 (an a0
 (an (kbT (GS l) trivial) (brP (fun (h0:(yB l)=true)=>
 (bE (show r60 l=false from (cx h0)))) (fun h0=>
 (an a0
 (bE (show r60 l=true from (au h0))))))))))
 (by kernel_rfl))
def i60 (l:List ByteArray):b9:=⟨60,[.sl 1 (l.map bx)],B (r60 l),l.length<=9223372036854775807⟩
theorem g60 (l:List ByteArray):(i60 l).cd pg:=fun hp=>⟨Jj l hp,by simp [i60,ae,AV.pure],by simp [i60,AV.pure]⟩
def i60d (l:List ByteArray):b9:=⟨60,[.sl 1 (List.take ((zBi l).length-1) (List.drop 1 (zBi l)))],B (r60 (l.drop 1)),l.length<=9223372036854775807⟩
theorem g60d (l:List ByteArray):(i60d l).cd pg:=fun hp=>by
 have e:List.take ((map bx l).length-1) (List.drop 1 (map bx l))=map bx (l.drop 1):=by rw [List.map_drop,List.take_of_length_le (by simp)]
 have hp:l.length<=9223372036854775807:=hp
 refine ⟨?_,?_,rfl⟩
 ·simp only [i60d,e];exact Jj _ (by simp;omega)
 ·simp only [i60d,e,ae,AV.pure,Yk,Bool.and_self]
def r61 (l:List ByteArray):Bool:=((decide ((length (map bx l):Int)>0))&&((decide ((length (map bx l):Int)<=20))&&((cP (Array.toList (ByteArray.data (ah l 0))) [])&&r60 (List.drop 1 l))))
theorem V6 (l:List ByteArray) (ls:length l<=9223372036854775807):ba pg 61 [.sl 1 (zBi l)] [] [] (B (r61 l)) []:=
 bB (fn:=Tryz.f61) (callf:=(bC [i60d l] base)) (pu:=aO) (lf:=3000) (l:=[]) (t:=(.r [bT] (.a (.a (.a (.r [.k,bT,bT,bT,.k,bT,bT,.row (bx (ah l 0)),bT,bT,.k,bT,bT,bT,.int 0,bT] .nil) (.r [.k,bT,bT,bT,.k,bT,bT,.row (bx (ah l 0)),bT,bT,.k,bF,bF,bF,bT] .nil)) zBr) (.r zAq .nil)))) (bf (.cons (g60d l) rfl cv.nil) aw) mixed Tryz.func61 (by kernel_rfl) (show Tryz.f61.body=some (aH 61) by kernel_rfl) (Nat.le_of_ble_eq_true rfl) (az _) rfl (aZ
 (an a0
 (aP (fun (h0:(decide ((length (map bx l):Int)>0))=true)=>have l1:=aW bx (l);have g0:=of_decide_eq_true h0;
 (aP (fun (h1:(decide ((length (map bx l):Int)<=20))=true)=>have g1:=of_decide_eq_true h1;
 (aP (fun (h2:(cP (Array.toList (ByteArray.data (ah l 0))) [])=true)=>
 (an (cA (g60d l) ls (a1 (ac (slA (p:=1) (q:=length (map bx l)) (l:=length (map bx l)) (by omega) (by omega)) (a1 (ac h2 (aN 3 (ac (bR bx (l:=l) (i:=0) (by omega)) (a1 (ac h1 (aN 3 (ac h0 (a1 a0))))))))))))
 (bE (show r61 l=(r60 (List.drop 1 l)) from (aE h0 (aE h1 (aE h2 rfl))))))) (fun h2=>have g2:=size_pos h2;
 (an (aN 2 (ac (au h2) (aN 3 (ac (bR bx (l:=l) (i:=0) (by omega)) (a1 (ac h1 (aN 3 (ac h0 (a1 a0)))))))))
 (bE (show r61 l=false from (aE h0 (aE h1 (aY h2))))))))) (fun h1=>
 (an (aN 6 (ac (au h1) (aN 3 (ac h0 (a1 a0)))))
 (bE (show r61 l=false from (aE h0 (aY h1)))))))) (fun h0=>
 (an (aN 9 (ac (au h0) (a1 a0)))
 (bE (show r61 l=false from (aY h0)))))))
 (by kernel_rfl))
def i61 (l:List ByteArray):b9:=⟨61,[.sl 1 (l.map bx)],B (r61 l),l.length<=9223372036854775807⟩
theorem g61 (l:List ByteArray):(i61 l).cd pg:=fun hp=>⟨V6 l hp,by simp [i61,ae,AV.pure],by simp [i61,AV.pure]⟩
@[simp] theorem R9 (l:List cm):ai (map (bx∘cm.name) l)=true:=aX (fun _=>rfl) l
@[simp] theorem aaT (l:List cm) (i j:Nat):ai (List.take i (List.take j (map (bx∘cm.name) l)))=true:=jO _ (jO _ (R9 l))
theorem ix {n:Net} {i:Nat} (h:i<n.rules.length):List.take i (map bx (map cm.name (List.take i n.rules)))++ [bx (ah n.rules i).name]=map bx (map cm.name (List.take (i+1) n.rules)):=by
 rw [List.take_of_length_le (by simp;omega),EF h]
 simp
def ET:Code:=bV 0 (aH 31)
def pV (n:Net) (i0:Nat):Am.Loc:=[(1,.pf (aR n)),(3,.sr 0 1 0 i0),(4,I (i0:Int))]
abbrev zBD (i0:Nat) (n:Net):=(map bx (map cm.name (List.take i0 n.rules)))
def wW (n:Net) (i0:Nat):List Ob:=[.row 9 1 (zBD i0 n)]
def s7 (n:Net) (i0:Nat):Bool:=((ah n.rules i0).bP&&((decide ((i0:Int)>0))&&(!(ah n.rules (i0-1)).bP)))
def s8 (n:Net):Bool:=dh (length n.rules) (s7 n)
def vf (n:Net) (i0:Nat):Am.Loc:=[(2,B false)]
def vg (n:Net) (i0:Nat):List Ob:=[]
def my (n:Net):Am.Loc:=[(1,.pf (aR n)),(3,.sr 0 1 0 (zU n))]
abbrev zAn (n:Net):=(map bx (map cm.name (List.take (zU n) n.rules)))
def og (n:Net):List Ob:=[.row 9 1 (zAn n)]
def iy (n:Net):KB:=⟨pV n 0,wW n 0,s8 n,.ret,vf n (cc (zU n) (s7 n)),vg n (cc (zU n) (s7 n)),.normal,my n,og n,True⟩
def wX (n:Net) (i0:Nat):List bj:=[htW (s7 n i0) .ret (vf n i0) za (vg n i0),nxW (s7 n i0) (pV n (i0+1)) (wW n (i0+1)) [(1,.pf (aR n)),(3,.sr 0 1 0 (i0+1)),(4,I ↑(i0+1))] [1] [.row 9 1 ((List.take i0 (zBD i0 n))++ [(bx (ah n.rules i0).name)])]]
def Xy (n:Net) (i0:Nat):GT:=(.r [.k,bT] (.yes (.r [.row (aD (ah n.rules i0)),bT] (.a (.a (.r (.row (aD (ah n.rules i0))::bT::bT::.k::uTT 4 (.int ((i0-1:Nat):Int)::bT::.row (aD (ah n.rules (i0-1)))::uTT 4 [])) (.br (.r [bT] (.pick 0)) (.r [.int ↑(i0+1),bT] (.pick 1)))) (.r (.row (aD (ah n.rules i0))::bT::bT::.k::uFF 8 [bT]) (.r [.int ↑(i0+1),bT] (.pick 1)))) (.r (.row (aD (ah n.rules i0))::uFF 10 [bT]) (.r [.int ↑(i0+1),bT] (.pick 1)))))))
theorem YT (n:Net) (i0:Nat) (hf:jg n) (hx0:i0<(length n.rules)):vcC pg 98 base aO 3000 (kbL []) ET (bu (pV n i0)) (bA (wW n i0)) 1 (bQ (wX n i0)) (Xy n i0):=
 have hr:=hf.rules;have hlen:length (map bx (map cm.name (List.take i0 n.rules)))=min i0 (length n.rules):=(by simp);have l1:=aW aD (n.rules);have hb:(zAV i0 n)=true:=decide_eq_true (by omega);
 aZ (an (a1 a0)
 (an hb (an (ac (apA (k:=i0) (l:=length (map bx (map cm.name (List.take i0 n.rules)))) (n:=1) (B:=16) (by omega) (by omega) (by omega)) (ac (bR aD (l:=n.rules) (i:=i0) (by omega)) a0))
 (aP (fun (h1:((ah n.rules i0).bP)=true)=>have q0:=(aE h1 rfl:s7 n i0=_);
 (aP (fun (h2:(decide ((i0:Int)>0))=true)=>have q1:=q0.trans (aE h2 rfl);have g2:=of_decide_eq_true h2;
 (an (aN 3 (ac (bR aD (l:=n.rules) (i:=i0-1) (by omega)) (a1 (ac (dws (k:=i0) (by omega) (by omega)) (aN 3 (ac h2 (aN 2 (ac h1 (ac (bR aD (l:=n.rules) (i:=i0) (by omega)) a0)))))))))
 (brP (fun (h3:(!(ah n.rules (i0-1)).bP)=true)=>
 (an a0
 (lf (wy (wX n i0) 0) 2 (q1.trans h3)))) (fun h3=>
 (an (ac (dwr (z:= ↑(i0+1)) (by omega) (by omega)) a0)
 (lf (wy (wX n i0) 1) 2 ⟨(q1.trans h3),rfl,congrArg (fun z=>([.row 9 1 z]:List Ob)) (ix hx0)⟩)))))) (fun h2=>have g2:=of_decide_eq_false h2;
 (an (aN 7 (ac (au h2) (aN 2 (ac h1 (ac (bR aD (l:=n.rules) (i:=i0) (by omega)) a0)))))
 (an (ac (dwr (z:= ↑(i0+1)) (by omega) (by omega)) a0)
 (lf (wy (wX n i0) 1) 2 ⟨(q0.trans (aY h2)),rfl,congrArg (fun z=>([.row 9 1 z]:List Ob)) (ix hx0)⟩)))))) (fun h1=>
 (an (aN 9 (ac (au h1) (ac (bR aD (l:=n.rules) (i:=i0) (by omega)) a0)))
 (an (ac (dwr (z:= ↑(i0+1)) (by omega) (by omega)) a0)
 (lf (wy (wX n i0) 1) 2 ⟨(show s7 n i0=false from (aY h1)),rfl,congrArg (fun z=>([.row 9 1 z]:List Ob)) (ix hx0)⟩))))))))
 (by kernel_rfl)
theorem YU (n:Net) (hf:jg n):vcC pg 98 base aO 3000 (kbL []) ET (bu (pV n (zU n))) (bA (wW n (zU n))) 1 (bQ [⟨True,(.exit 0),my n,range 1,og n⟩]) zE:=
 have hr:=hf.rules;have l1:=aW aD (n.rules);have hb:(zH n)=false:=decide_eq_false (by omega);
 aZ (an (a1 a0)
 (an hb (lf (wy [⟨True,(.exit 0),my n,range 1,og n⟩] 0) 1 trivial)))
 (by kernel_rfl)
theorem Sb (n:Net) (i0:Nat):(wX n i0).all zr=true:=by refine (aF (aQ rfl rfl rfl ?_ ?_) (aF (aQ rfl rfl rfl ?_ ?_) bD))<;>simp (maxDischargeDepth:=9) [nxW,htW,pV,vf,plS,AV.pure,ai,wW,vg,plO]
theorem Sc (n:Net):bj.b8 0 ⟨True,(.exit 0),my n,range 1,og n⟩=true:=by refine (aQ rfl rfl rfl ?_ ?_)<;>simp (maxDischargeDepth:=9) [my,plS,AV.pure,og,plO]
theorem Sd (n:Net) (hf:jg n):dg pg 98 0 0 (.loop ET) (iy n):=
 have hr:=hf.rules;bZ (fun _=>e9 (id:=0) (m:=length n.rules) (t:=s7 n) (xr:= .ret) (xn:=(.exit 0)) (Lr:=vf n) (Lx:=my n) (obr:=vg n) (obx:=og n) (V:=fun i0=>vcC pg 98 base aO 3000 (kbL []) ET) (pV n) (wW n) 1 (wX n) (Xy n) _ _ (fun i0 hx0=>aS aw mixed (az _)) (aS aw mixed (az _)) (fun e=>by cases e) (fun e=>by cases e) (fun _=>rfl) (fun i0 hx0=>YT n i0 hf hx0) (fun i0 _=>Sb n i0) (fun i0 _=>show∀ww∈wX n i0,cy _ _ _ _ _ _ ww from (aG da (aG cg bG))) (YU n hf) (Sc n)) (fun h=>h) (fun h=>h)
theorem OU (n:Net) (hf:jg n):dg pg 98 0 0 (.loop ET) ⟨[(1,.pf (aR n)),(3,.v (.slice none 0 0)),(4,I 0)],[],(iy n).hit,(iy n).x1,(iy n).L1,(iy n).ob1,(iy n).x2,[(1,.pf (aR n)),(3,.sl 1 (map bx (map cm.name (List.take (length n.rules) n.rules))))],[],(iy n).p⟩:=
 have hr:=hf.rules;Bb (Sd n hf) (EA (L:=[(1,.pf (aR n)),(3,.v (.slice none 0 0)),(4,I 0)]) (L' :=pV n 0) (ob:=[]) (T:=9) (S:=1) (fun a av e=>by
  simp only [pV,cU] at e
  split at e
  ·rename_i h;subst h;exact .inl (by rw [<-e];rfl)
  ·split at e
   ·rename_i h;subst h;exact .inr ⟨rfl,(Option.some.inj e).symm⟩
   ·split at e
    ·rename_i h;subst h;exact .inl (by rw [<-e];rfl)
    ·simp [lk] at e)) (fe.refl _ _) rfl (EB (L:=my n) (L' :=[(1,.pf (aR n)),(3,.sl 1 (map bx (map cm.name (List.take (length n.rules) n.rules))))]) (ob:=[]) (k:=length n.rules) (T:=9) (rows:=(map bx (map cm.name (List.take (length n.rules) n.rules)))) (by simp) (Nat.zero_le _) (fun a av e=>by
  simp only [cU] at e
  split at e
  ·rename_i h;subst h;exact .inl ⟨by rw [<-e];rfl,by rw [<-Option.some.inj e];simp [AV.und,dL]⟩
  ·split at e
   ·rename_i h;subst h;exact .inr ⟨rfl,(Option.some.inj e).symm,by simp only [AV.und];exact cZ iq _ _⟩
   ·simp [lk] at e) rfl) rfl
def GU (n:Net):KB:=⟨[(1,.pf (aR n)),(3,.v (.slice none 0 0)),(4,I 0)],[],(iy n).hit,(iy n).x1,(iy n).L1,(iy n).ob1,(iy n).x2,[(1,.pf (aR n)),(3,.sl 1 (zAn n))],[],(iy n).p⟩
def r31 (n:Net):Bool:=(!(decide ((length (map bx n.types):Int)>200))&&(!(decide ((length (map bx n.cE):Int)<1))&&(!(decide ((length (map bx n.cE):Int)>20))&&(!(decide ((length (map bx n.cH):Int)<1))&&(!(decide ((length (map bx n.cH):Int)>20))&&(!(decide ((length (map aD n.rules):Int)>100))&&(!(decide ((length (map ak n.aa):Int)>4000))&&(!(s8 n)&&((r66 n.types false)&&((r66 n.cE true)&&((r66 n.cH true)&&r66 (map cm.name (List.take (length n.rules) n.rules)) false)))))))))))
theorem xU:dB [0] (aH 31)=[(0,.loop ET)]:=by kernel_rfl
theorem MY (n:Net) (hf:jg n):ba pg 31 [.ag (aR n)] [] [] (B (r31 n)) []:=
 have hr:=hf.rules;bB (fn:=Tryz.f31) (callf:=(bC [i66 n.types false,i66 n.cE true,i66 n.cH true,i66 (map cm.name (List.take (length n.rules) n.rules)) false] base)) (pu:=aO) (lf:=3000) (l:=[(0,GU n)]) (t:=(.r [bT] (.a (.r (.k::uFF 24 [bT]) zD) (.a (.r (.k::uTT 4 (.k::uFF 20 [bT])) zD) (.a (.r (.k::uTT 4 (.k::uTT 4 (.k::uFF 16 [bT]))) zD) (.a (.r (.k::uTT 4 (.k::uTT 4 (.k::uTT 4 (.k::uFF 12 [bT])))) zD) (.a (.r (.k::uTT 4 (.k::uTT 4 (.k::uTT 4 (.k::uTT 4 (.k::uFF 8 [bT]))))) zD) (.a (.r (.k::uTT 4 (.k::uTT 4 (.k::uTT 4 (.k::uTT 4 (.k::uTT 4 (.k::uFF 4 [bT])))))) zD) (.r (.k::uTT 4 (.k::uTT 4 (.k::uTT 4 (.k::uTT 4 (.k::uTT 4 (.k::uTT 4 [.k,bT])))))) (.br zD (.r [bT] (.r [bT] (.br .nil (.a (.a (.a (.r [.int 0,bT,bT,bT,.int 1,bT,bT,bT,.int 2,bT,bT,.int 3,bT] .nil) (.r [.int 0,bT,bT,bT,.int 1,bT,bT,bT,.int 2,bF,bF,bT] .nil)) (.r (.int 0::bT::bT::bT::.int 1::uFF 5 [bT]) .nil)) (.r (.int 0::uFF 8 [bT]) .nil))))))))))))))) (bf (.cons (g66 n.types false) rfl (.cons (g66 n.cE true) rfl (.cons (g66 n.cH true) rfl (.cons (g66 (map cm.name (List.take (length n.rules) n.rules)) false) rfl cv.nil)))) aw) mixed Tryz.func31 (by kernel_rfl) (show Tryz.f31.body=some (aH 31) by kernel_rfl) (Nat.le_of_ble_eq_true rfl) (bO (l:=[(0,GU n)]) xU (aV (OU n hf) rfl bn) rfl) rfl (aZ
 (an a0
 (aP (fun (h0:(decide ((length (map bx n.types):Int)>200))=true)=>
 (an (aN 23 (ac (n2 h0) (a1 a0)))
 (an a0
 (bE (show r31 n=false from (aY (cx h0))))))) (fun h0=>have q0:=(aE (au h0) rfl:r31 n=_);have l1:=aW bx (n.types);have g0:=of_decide_eq_false h0;
 (aP (fun (h1:(decide ((length (map bx n.cE):Int)<1))=true)=>
 (an (aN 19 (ac (n2 h1) (aN 4 (ac (au h0) (a1 a0)))))
 (an a0
 (bE (q0.trans (aY (cx h1))))))) (fun h1=>have q1:=q0.trans (aE (au h1) rfl);have l2:=aW bx (n.cE);have g1:=of_decide_eq_false h1;
 (aP (fun (h2:(decide ((length (map bx n.cE):Int)>20))=true)=>
 (an (aN 15 (ac (n2 h2) (aN 4 (ac (au h1) (aN 4 (ac (au h0) (a1 a0)))))))
 (an a0
 (bE (q1.trans (aY (cx h2))))))) (fun h2=>have q2:=q1.trans (aE (au h2) rfl);have g2:=of_decide_eq_false h2;
 (aP (fun (h3:(decide ((length (map bx n.cH):Int)<1))=true)=>
 (an (aN 11 (ac (n2 h3) (aN 4 (ac (au h2) (aN 4 (ac (au h1) (aN 4 (ac (au h0) (a1 a0)))))))))
 (an a0
 (bE (q2.trans (aY (cx h3))))))) (fun h3=>have q3:=q2.trans (aE (au h3) rfl);have l3:=aW bx (n.cH);have g3:=of_decide_eq_false h3;
 (aP (fun (h4:(decide ((length (map bx n.cH):Int)>20))=true)=>
 (an (aN 7 (ac (n2 h4) (aN 4 (ac (au h3) (aN 4 (ac (au h2) (aN 4 (ac (au h1) (aN 4 (ac (au h0) (a1 a0)))))))))))
 (an a0
 (bE (q3.trans (aY (cx h4))))))) (fun h4=>have q4:=q3.trans (aE (au h4) rfl);have g4:=of_decide_eq_false h4;
 (aP (fun (h5:(decide ((length (map aD n.rules):Int)>100))=true)=>
 (an (aN 3 (ac (n2 h5) (aN 4 (ac (au h4) (aN 4 (ac (au h3) (aN 4 (ac (au h2) (aN 4 (ac (au h1) (aN 4 (ac (au h0) (a1 a0)))))))))))))
 (an a0
 (bE (q4.trans (aY (cx h5))))))) (fun h5=>have q5:=q4.trans (aE (au h5) rfl);have l4:=aW aD (n.rules);have g5:=of_decide_eq_false h5;
 (an (aN 4 (ac (au h5) (aN 4 (ac (au h4) (aN 4 (ac (au h3) (aN 4 (ac (au h2) (aN 4 (ac (au h1) (aN 4 (ac (au h0) (a1 a0)))))))))))))
 (brP (fun (h6:(decide ((length (map ak n.aa):Int)>4000))=true)=>
 (an a0
 (bE (q5.trans (aY (cx h6)))))) (fun h6=>have q6:=q5.trans (aE (au h6) rfl);have l5:=aW ak (n.aa);have g6:=of_decide_eq_false h6;
 (an a0
 (an a0
 (an (kbT (GU n) trivial) (brP (fun (h7:(s8 n)=true)=>
 (bE (q6.trans (aY (cx h7))))) (fun h7=>have q7:=q6.trans (aE (au h7) rfl);
 (aP (fun (h8:(r66 n.types false)=true)=>have q8:=q7.trans (aE h8 rfl);
 (aP (fun (h9:(r66 n.cE true)=true)=>
 (aP (fun (h10:(r66 n.cH true)=true)=>
 (an (cA (g66 (map cm.name (List.take (length n.rules) n.rules)) false) (show length (map cm.name (List.take (length n.rules) n.rules))<=9223372036854775807 by simp;have:=hf.rules;omega) (a1 (ac h10 (cA (g66 n.cH true) hf.cH (aN 2 (ac h9 (cA (g66 n.cE true) hf.n0 (aN 2 (ac h8 (cA (g66 n.types false) hf.types a0))))))))))
 (bE (show r31 n=(r66 (map cm.name (List.take (length n.rules) n.rules)) false) from (aE (au h0) (aE (au h1) (aE (au h2) (aE (au h3) (aE (au h4) (aE (au h5) (aE (au h6) (aE (au h7) (aE h8 (aE h9 (aE h10 rfl))))))))))))))) (fun h10=>
 (an (a1 (ac (au h10) (cA (g66 n.cH true) hf.cH (aN 2 (ac h9 (cA (g66 n.cE true) hf.n0 (aN 2 (ac h8 (cA (g66 n.types false) hf.types a0)))))))))
 (bE (q8.trans (aE h9 (aY h10)))))))) (fun h9=>
 (an (aN 4 (ac (au h9) (cA (g66 n.cE true) hf.n0 (aN 2 (ac h8 (cA (g66 n.types false) hf.types a0))))))
 (bE (q8.trans (aY h9))))))) (fun h8=>
 (an (aN 7 (ac (au h8) (cA (g66 n.types false) hf.types a0)))
 (bE (q7.trans (aY h8)))))))))))))))))))))))))))
 (by kernel_rfl))
def EU:Code:=bV 0 (aH 26)
def pW (n:Net) (i0:Nat):Am.Loc:=[(0,.pf (aR n)),(3,.sr 0 1 0 i0),(9,.sl 9 (zc n)),(10,I (length (zc n):Int)),(11,I (i0:Int))]
def wY (n:Net) (i0:Nat):List Ob:=[.row 9 1 (zBD i0 n)]
def s9 (n:Net) (i0:Nat):Bool:=((decide ((i0:Int)>0))&&((ah n.rules i0).bP&&(!(ah n.rules (i0-1)).bP)))
def tc (n:Net):Bool:=dh (length n.rules) (s9 n)
def vh (n:Net) (i0:Nat):Am.Loc:=[(2,B false)]
def vi (n:Net) (i0:Nat):List Ob:=[]
def mz (n:Net):Am.Loc:=[(0,.pf (aR n)),(3,.sr 0 1 0 (zU n))]
def oh (n:Net):List Ob:=[.row 9 1 (zAn n)]
def iz (n:Net):KB:=⟨pW n 0,wY n 0,tc n,.ret,vh n (cc (zU n) (s9 n)),vi n (cc (zU n) (s9 n)),.normal,mz n,oh n,True⟩
def wZ (n:Net) (i0:Nat):List bj:=[htW (s9 n i0) .ret (vh n i0) za (vi n i0),nxW (s9 n i0) (pW n (i0+1)) (wY n (i0+1)) [(0,.pf (aR n)),(3,.sr 0 1 0 (i0+1)),(9,.sl 9 (zc n)),(10,I (length (zc n):Int)),(11,I ↑(i0+1))] [2] [.row 9 1 ((List.take i0 (zBD i0 n))++ [(bx (ah n.rules i0).name)])]]
def Xz (n:Net) (i0:Nat):GT:=(.r [.k,bT] (.yes (.r [.row (aD (ah n.rules i0)),bT] (.r [bT] (.a (.a (.r (.k::uTT 8 (.int ((i0-1:Nat):Int)::bT::.row (aD (ah n.rules (i0-1)))::uTT 4 [])) (.br (.r [bT] (.pick 0)) (.r [.int ↑(i0+1),bT] (.pick 1)))) (.r (.k::bT::bT::uFF 10 [bT]) (.r [.int ↑(i0+1),bT] (.pick 1)))) (.r (.k::uFF 12 [bT]) (.r [.int ↑(i0+1),bT] (.pick 1))))))))
theorem YV (n:Net) (i0:Nat) (hf:jg n) (hx0:i0<(length n.rules)):vcC pg 87 base aO 3000 (kbL []) EU (bu (pW n i0)) (bA (wY n i0)) 1 (bQ (wZ n i0)) (Xz n i0):=
 have hr:=hf.rules;have hlen:length (map bx (map cm.name (List.take i0 n.rules)))=min i0 (length n.rules):=(by simp);have l1:=aW aD (n.rules);have hb:(zAV i0 n)=true:=decide_eq_true (by omega);
 aZ (an (a1 a0)
 (an hb (an (ac (bR aD (l:=n.rules) (i:=i0) (by omega)) a0)
 (an (ac (apA (k:=i0) (l:=length (map bx (map cm.name (List.take i0 n.rules)))) (n:=1) (B:=16) (by omega) (by omega) (by omega)) a0)
 (aP (fun (h1:(decide ((i0:Int)>0))=true)=>have q0:=(aE h1 rfl:s9 n i0=_);have g1:=of_decide_eq_true h1;
 (aP (fun (h2:((ah n.rules i0).bP)=true)=>have q1:=q0.trans (aE h2 rfl);
 (an (aN 3 (ac (bR aD (l:=n.rules) (i:=i0-1) (by omega)) (a1 (ac (dws (k:=i0) (by omega) (by omega)) (aN 5 (ac h2 (a1 (ac h1 (a1 a0)))))))))
 (brP (fun (h3:(!(ah n.rules (i0-1)).bP)=true)=>
 (an a0
 (lf (wy (wZ n i0) 0) 3 (q1.trans h3)))) (fun h3=>
 (an (ac (dwr (z:= ↑(i0+1)) (by omega) (by omega)) a0)
 (lf (wy (wZ n i0) 1) 3 ⟨(q1.trans h3),rfl,congrArg (fun z=>([.row 9 1 z]:List Ob)) (ix hx0)⟩)))))) (fun h2=>
 (an (aN 9 (ac (au h2) (a1 (ac h1 (a1 a0)))))
 (an (ac (dwr (z:= ↑(i0+1)) (by omega) (by omega)) a0)
 (lf (wy (wZ n i0) 1) 3 ⟨(q0.trans (aY h2)),rfl,congrArg (fun z=>([.row 9 1 z]:List Ob)) (ix hx0)⟩)))))) (fun h1=>have g1:=of_decide_eq_false h1;
 (an (aN 11 (ac (au h1) (a1 a0)))
 (an (ac (dwr (z:= ↑(i0+1)) (by omega) (by omega)) a0)
 (lf (wy (wZ n i0) 1) 3 ⟨(show s9 n i0=false from (aY h1)),rfl,congrArg (fun z=>([.row 9 1 z]:List Ob)) (ix hx0)⟩)))))))))
 (by kernel_rfl)
theorem YW (n:Net) (hf:jg n):vcC pg 87 base aO 3000 (kbL []) EU (bu (pW n (zU n))) (bA (wY n (zU n))) 1 (bQ [⟨True,(.exit 0),mz n,range 1,oh n⟩]) zE:=
 have hr:=hf.rules;have l1:=aW aD (n.rules);have hb:(zH n)=false:=decide_eq_false (by omega);
 aZ (an (a1 a0)
 (an hb (lf (wy [⟨True,(.exit 0),mz n,range 1,oh n⟩] 0) 1 trivial)))
 (by kernel_rfl)
theorem Se (n:Net) (i0:Nat):(wZ n i0).all zr=true:=by refine (aF (aQ rfl rfl rfl ?_ ?_) (aF (aQ rfl rfl rfl ?_ ?_) bD))<;>simp (maxDischargeDepth:=9) [nxW,htW,pW,vh,plS,AV.pure,ai,wY,vi,plO]
theorem Sf (n:Net):bj.b8 0 ⟨True,(.exit 0),mz n,range 1,oh n⟩=true:=by refine (aQ rfl rfl rfl ?_ ?_)<;>simp (maxDischargeDepth:=9) [mz,plS,AV.pure,oh,plO]
theorem Sg (n:Net) (hf:jg n):dg pg 87 0 0 (.loop EU) (iz n):=
 have hr:=hf.rules;bZ (fun _=>e9 (id:=0) (m:=length n.rules) (t:=s9 n) (xr:= .ret) (xn:=(.exit 0)) (Lr:=vh n) (Lx:=mz n) (obr:=vi n) (obx:=oh n) (V:=fun i0=>vcC pg 87 base aO 3000 (kbL []) EU) (pW n) (wY n) 1 (wZ n) (Xz n) _ _ (fun i0 hx0=>aS aw mixed (az _)) (aS aw mixed (az _)) (fun e=>by cases e) (fun e=>by cases e) (fun _=>rfl) (fun i0 hx0=>YV n i0 hf hx0) (fun i0 _=>Se n i0) (fun i0 _=>show∀ww∈wZ n i0,cy _ _ _ _ _ _ ww from (aG da (aG cg bG))) (YW n hf) (Sf n)) (fun h=>h) (fun h=>h)
theorem OV (n:Net) (hf:jg n):dg pg 87 0 0 (.loop EU) ⟨[(0,.pf (aR n)),(3,.v (.slice none 0 0)),(9,.sl 9 (map aD n.rules)),(10,I (length (map aD n.rules):Int)),(11,I 0)],[],(iz n).hit,(iz n).x1,(iz n).L1,(iz n).ob1,(iz n).x2,[(0,.pf (aR n)),(3,.sl 1 (map bx (map cm.name (List.take (length n.rules) n.rules))))],[],(iz n).p⟩:=
 have hr:=hf.rules;Bb (Sg n hf) (EA (L:=[(0,.pf (aR n)),(3,.v (.slice none 0 0)),(9,.sl 9 (map aD n.rules)),(10,I (length (map aD n.rules):Int)),(11,I 0)]) (L' :=pW n 0) (ob:=[]) (T:=9) (S:=1) (fun a av e=>by
  simp only [pW,cU] at e
  split at e
  ·rename_i h;subst h;exact .inl (by rw [<-e];rfl)
  ·split at e
   ·rename_i h;subst h;exact .inr ⟨rfl,(Option.some.inj e).symm⟩
   ·split at e
    ·rename_i h;subst h;exact .inl (by rw [<-e];rfl)
    ·split at e
     ·rename_i h;subst h;exact .inl (by rw [<-e];rfl)
     ·split at e
      ·rename_i h;subst h;exact .inl (by rw [<-e];rfl)
      ·simp [lk] at e)) (fe.refl _ _) rfl (EB (L:=mz n) (L' :=[(0,.pf (aR n)),(3,.sl 1 (map bx (map cm.name (List.take (length n.rules) n.rules))))]) (ob:=[]) (k:=length n.rules) (T:=9) (rows:=(map bx (map cm.name (List.take (length n.rules) n.rules)))) (by simp) (Nat.zero_le _) (fun a av e=>by
  simp only [cU] at e
  split at e
  ·rename_i h;subst h;exact .inl ⟨by rw [<-e];rfl,by rw [<-Option.some.inj e];simp [AV.und,dL]⟩
  ·split at e
   ·rename_i h;subst h;exact .inr ⟨rfl,(Option.some.inj e).symm,by simp only [AV.und];exact cZ iq _ _⟩
   ·simp [lk] at e) rfl) rfl
def GV (n:Net):KB:=⟨[(0,.pf (aR n)),(3,.v (.slice none 0 0)),(9,.sl 9 (zc n)),(10,I (length (zc n):Int)),(11,I 0)],[],(iz n).hit,(iz n).x1,(iz n).L1,(iz n).ob1,(iz n).x2,[(0,.pf (aR n)),(3,.sl 1 (zAn n))],[],(iz n).p⟩
def r26 (n:Net):Bool:=(!(tc n)&&((decide ((length (map bx n.types):Int)<=200))&&((decide ((length (map aD n.rules):Int)<=100))&&((decide ((length (map ak n.aa):Int)<=4000))&&((r60 n.types)&&((r61 n.cE)&&((r61 n.cH)&&r60 (map cm.name (List.take (length n.rules) n.rules)))))))))
theorem xV:dB [0] (aH 26)=[(0,.loop EU)]:=by kernel_rfl
theorem MZ (n:Net) (hf:jg n):ba pg 26 [.pf (aR n)] [] [] (B (r26 n)) []:=
 have hr:=hf.rules;bB (fn:=Tryz.f26) (callf:=(bC [i60 n.types,i61 n.cE,i61 n.cH,i60 (map cm.name (List.take (length n.rules) n.rules))] base)) (pu:=aO) (lf:=3000) (l:=[(0,GV n)]) (t:=(.r [bT] (.r [bT] (.r [bT] (.br .nil (.a (.a (.a (.a (.a (.a (.r (.k::uTT 6 (.k::uTT 6 (.k::uTT 5 (.int 0::uTT 5 (.int 1::uTT 5 [.int 2,bT,bT,.int 3,bT]))))) .nil) (.r (.k::uTT 6 (.k::uTT 6 (.k::uTT 5 (.int 0::uTT 5 (.int 1::uTT 5 [.int 2,bF,bF,bT]))))) .nil)) (.r (.k::uTT 6 (.k::uTT 6 (.k::uTT 5 (.int 0::uTT 5 (.int 1::uFF 7 [bT]))))) .nil)) (.r (.k::uTT 6 (.k::uTT 6 (.k::uTT 5 (.int 0::uFF 12 [bT])))) .nil)) (.r (.k::uTT 6 (.k::uTT 6 (.k::uFF 17 [bT]))) .nil)) (.r (.k::uTT 6 (.k::uFF 23 [bT])) .nil)) (.r (.k::uFF 29 [bT]) .nil))))))) (bf (.cons (g60 n.types) rfl (.cons (g61 n.cE) rfl (.cons (g61 n.cH) rfl (.cons (g60 (map cm.name (List.take (length n.rules) n.rules))) rfl cv.nil)))) aw) mixed Tryz.func26 (by kernel_rfl) (show Tryz.f26.body=some (aH 26) by kernel_rfl) (Nat.le_of_ble_eq_true rfl) (bO (l:=[(0,GV n)]) xV (aV (OV n hf) rfl bn) rfl) rfl (aZ
 (an a0
 (an a0
 (an a0
 (an (kbT (GV n) trivial) (brP (fun (h0:(tc n)=true)=>
 (bE (show r26 n=false from (aY (cx h0))))) (fun h0=>have q0:=(aE (au h0) rfl:r26 n=_);
 (aP (fun (h1:(decide ((length (map bx n.types):Int)<=200))=true)=>have q1:=q0.trans (aE h1 rfl);have l1:=aW bx (n.types);have g1:=of_decide_eq_true h1;
 (aP (fun (h2:(decide ((length (map aD n.rules):Int)<=100))=true)=>have q2:=q1.trans (aE h2 rfl);have l2:=aW aD (n.rules);have g2:=of_decide_eq_true h2;
 (aP (fun (h3:(decide ((length (map ak n.aa):Int)<=4000))=true)=>have q3:=q2.trans (aE h3 rfl);have l3:=aW ak (n.aa);have g3:=of_decide_eq_true h3;
 (aP (fun (h4:(r60 n.types)=true)=>have q4:=q3.trans (aE h4 rfl);
 (aP (fun (h5:(r61 n.cE)=true)=>
 (aP (fun (h6:(r61 n.cH)=true)=>
 (an (cA (g60 (map cm.name (List.take (length n.rules) n.rules))) (show length (map cm.name (List.take (length n.rules) n.rules))<=9223372036854775807 by simp;have:=hf.rules;omega) (a1 (ac h6 (cA (g61 n.cH) hf.cH (aN 4 (ac h5 (cA (g61 n.cE) hf.n0 (aN 4 (ac h4 (cA (g60 n.types) hf.types (aN 4 (ac h3 (aN 6 (ac h2 (aN 6 (ac h1 (a1 a0)))))))))))))))))
 (bE (show r26 n=(r60 (map cm.name (List.take (length n.rules) n.rules))) from (aE (au h0) (aE h1 (aE h2 (aE h3 (aE h4 (aE h5 (aE h6 rfl))))))))))) (fun h6=>
 (an (a1 (ac (au h6) (cA (g61 n.cH) hf.cH (aN 4 (ac h5 (cA (g61 n.cE) hf.n0 (aN 4 (ac h4 (cA (g60 n.types) hf.types (aN 4 (ac h3 (aN 6 (ac h2 (aN 6 (ac h1 (a1 a0))))))))))))))))
 (bE (q4.trans (aE h5 (aY h6)))))))) (fun h5=>
 (an (aN 6 (ac (au h5) (cA (g61 n.cE) hf.n0 (aN 4 (ac h4 (cA (g60 n.types) hf.types (aN 4 (ac h3 (aN 6 (ac h2 (aN 6 (ac h1 (a1 a0)))))))))))))
 (bE (q4.trans (aY h5))))))) (fun h4=>
 (an (aN 11 (ac (au h4) (cA (g60 n.types) hf.types (aN 4 (ac h3 (aN 6 (ac h2 (aN 6 (ac h1 (a1 a0))))))))))
 (bE (q3.trans (aY h4))))))) (fun h3=>
 (an (aN 16 (ac (au h3) (aN 6 (ac h2 (aN 6 (ac h1 (a1 a0)))))))
 (bE (q2.trans (aY h3))))))) (fun h2=>
 (an (aN 22 (ac (au h2) (aN 6 (ac h1 (a1 a0)))))
 (bE (q1.trans (aY h2))))))) (fun h1=>
 (an (aN 28 (ac (au h1) (a1 a0)))
 (bE (q0.trans (aY h1))))))))))))
 (by kernel_rfl))
def Jk:Code:=bV 0 (aH 27)
def GW (n:Net) (i0:Nat) (y0:List Int):List Int:=(bif (ah n.rules i0).bP then (bif !(ah n.rules i0).eK then y0++ [(ah n.rules i0).type] else y0) else y0)
def bI (n:Net) (kk:Nat):List Int:=Nat.rec (motive:=fun _=>List Int) ([]) (fun j a=>GW n j a) kk
def td (n:Net) (i0:Nat):Am.Loc:=[(0,.pf (aR n)),(3,.mp 0),(11,.sl 9 (zc n)),(12,I (length (zc n):Int)),(13,I (i0:Int))]
def gL (n:Net) (i0:Nat):List Ob:=[cq (bI n i0)]
def jS (n:Net) (i0:Nat):Bool:=(bif (ah n.rules i0).bP then ((!(r62 n (ah n.rules i0).start (i0:Int)))||((!(r62 n (ah n.rules i0).stop (i0:Int)))||(((ah n.rules i0).start==(ah n.rules i0).stop)||((decide ((length (map bc (aB n.aa (ah n.rules i0).stop).aj):Int)>0))||(bif !(ah n.rules i0).bP then ((ah n.rules i0).eK||((ah n.rules i0).lazy||(((ah n.rules i0).mode !=0)||((ah n.rules i0).left||((decide ((ah n.rules i0).mode<0))||((decide ((ah n.rules i0).mode>=(length (map bx n.cH):Int)))||(bif !(!(ah n.rules i0).eK) then (((ah n.rules i0).type !=0)||((!(ah n.rules i0).eK)&&((decide ((ah n.rules i0).type<1))||((decide ((ah n.rules i0).type>(length (map bx n.types):Int)))||(dec ((ah n.rules i0).type∈(bI n i0))))))) else ((!(ah n.rules i0).eK)&&((decide ((ah n.rules i0).type<1))||((decide ((ah n.rules i0).type>(length (map bx n.types):Int)))||(dec ((ah n.rules i0).type∈(bI n i0))))))))))))) else ((ah n.rules i0).left||((decide ((ah n.rules i0).mode<0))||((decide ((ah n.rules i0).mode>=(length (map bx n.cH):Int)))||(bif !(!(ah n.rules i0).eK) then (((ah n.rules i0).type !=0)||((!(ah n.rules i0).eK)&&((decide ((ah n.rules i0).type<1))||((decide ((ah n.rules i0).type>(length (map bx n.types):Int)))||(dec ((ah n.rules i0).type∈(bI n i0))))))) else ((!(ah n.rules i0).eK)&&((decide ((ah n.rules i0).type<1))||((decide ((ah n.rules i0).type>(length (map bx n.types):Int)))||(dec ((ah n.rules i0).type∈(bI n i0))))))))))))))) else ((!(r62 n (ah n.rules i0).start (i0:Int)))||((!(r62 n (ah n.rules i0).stop (i0:Int)))||(((ah n.rules i0).start==(ah n.rules i0).stop)||((decide ((length (map bc (aB n.aa (ah n.rules i0).stop).aj):Int)>0))||(bif !(ah n.rules i0).bP then ((ah n.rules i0).eK||((ah n.rules i0).lazy||(((ah n.rules i0).mode !=0)||((decide ((ah n.rules i0).mode<0))||((decide ((ah n.rules i0).mode>=(length (map bx n.cH):Int)))||((ah n.rules i0).type !=0)))))) else ((decide ((ah n.rules i0).mode<0))||((decide ((ah n.rules i0).mode>=(length (map bx n.cH):Int)))||((ah n.rules i0).type !=0)))))))))
def yC (n:Net):Bool:=dh (length n.rules) (jS n)
def vj (n:Net) (i0:Nat):Am.Loc:=[(2,B false)]
def qW (n:Net) (i0:Nat):List Ob:=[]
def oi (n:Net):Am.Loc:=[]
def mA (n:Net):List Ob:=[cq (bI n (zU n))]
def GX (n:Net):KB:=⟨td n 0,gL n 0,yC n,.ret,vj n (cc (zU n) (jS n)),qW n (cc (zU n) (jS n)),.normal,oi n,mA n,True⟩
abbrev zBb (i0:Nat) (n:Net):Am.Loc:=[(0,.pf (aR n)),(3,.mp 0),(11,.sl 9 (zc n)),(12,I (length (zc n):Int)),(13,I ↑(i0+1))]
def cI (n:Net) (i0:Nat):List bj:=[htW (jS n i0) .ret (vj n i0) za (qW n i0),nxW (jS n i0) (td n (i0+1)) (gL n (i0+1)) (zBb i0 n) zAU [.mp (map (Value.int .i64) (bI n i0)++ [.int .i64 (ah n.rules i0).type]) (map tru (bI n i0)++ [.v (.bool true)])],nxW (jS n i0) (td n (i0+1)) (gL n (i0+1)) (zBb i0 n) zAU [cq (bI n i0)]]
def XA (n:Net) (i0:Nat):GT:=(.r [.k,bT] (.yes (.r [.row (aD (ah n.rules i0)),bT] (.a (.r (uTT 4 []) (.r [.int 0,bT] (.br (.r [bT] (.pick 0)) (.r [.int 1,bT] (.br (.r [bT] (.pick 0)) (.r [.k,bT] (.br (.r [bT] (.pick 0)) (.r [.cC ((ah n.rules i0).stop).toNat (ak (aB n.aa (ah n.rules i0).stop)),.k,bT] (.br (.r [bT] (.pick 0)) (.a (.a (.r [bT,bT,bT,bF,bF,bT,bT,bF,bF,bF,bT,bT] (.r [bT] (.pick 0))) (.a (.r (uTT 7 [bF,bF,bF,bT,bT]) (.r [bT] (.pick 0))) (.r (uTT 10 [.k,bT,bT]) (.br (.r [bT] (.pick 0)) (.r [bT,bT,bT] (.br (.r [bT] (.pick 0)) (.a (.r (.k::uFF 8 [bT]) (.r [bT] (.pick 0))) (.r (.k::uTT 8 [.k,bT]) (.br (.r [bT] (.pick 0)) (.a (.r [bT,bT,bT,.k,bT] (.br (.r [bT] (.pick 0)) (.a (.a (.r (bT::bT::bT::.k::bT::uFF 8 (bT::bT::uFF 4 [bT,bT])) (.r [bT] (.pick 0))) (.a (.r (bT::bT::bT::.k::uTT 9 (.k::bT::bT::uFF 4 [bT,bT])) (.r [bT] (.pick 0))) (.r (bT::bT::bT::.k::uTT 9 (.k::uTT 6 [.key (js (bI n i0) (ah n.rules i0).type) (B (dec ((ah n.rules i0).type∈(bI n i0)))),bT,bT])) (.br (.r [bT] (.pick 0)) (.r [bT] (.yes (.r [.key none .any,bT] (.r [.int ↑(i0+1),bT] (.pick 1))))))))) (.r (uFF 19 [bT]) (.r [bT] (.no (.r [.int ↑(i0+1),bT] (.pick 2)))))))) (.r [bF,bF,bF,bT] (.a (.a (.r (bT::bT::bT::.k::bT::uFF 8 (bT::bT::uFF 4 [bT,bT])) (.r [bT] (.pick 0))) (.a (.r (bT::bT::bT::.k::uTT 9 (.k::bT::bT::uFF 4 [bT,bT])) (.r [bT] (.pick 0))) (.r (bT::bT::bT::.k::uTT 9 (.k::uTT 6 [.key (js (bI n i0) (ah n.rules i0).type) (B (dec ((ah n.rules i0).type∈(bI n i0)))),bT,bT])) (.br (.r [bT] (.pick 0)) (.r [bT] (.yes (.r [.key none .any,bT] (.r [.int ↑(i0+1),bT] (.pick 1))))))))) (.r (uFF 19 [bT]) (.r [bT] (.no (.r [.int ↑(i0+1),bT] (.pick 2))))))))))))))))) (.r (uFF 11 [bT]) (.r [bT,bT,bT] (.br (.r [bT] (.pick 0)) (.a (.r (.k::uFF 8 [bT]) (.r [bT] (.pick 0))) (.r (.k::uTT 8 [.k,bT]) (.br (.r [bT] (.pick 0)) (.a (.r [bT,bT,bT,.k,bT] (.br (.r [bT] (.pick 0)) (.a (.a (.r (bT::bT::bT::.k::bT::uFF 8 (bT::bT::uFF 4 [bT,bT])) (.r [bT] (.pick 0))) (.a (.r (bT::bT::bT::.k::uTT 9 (.k::bT::bT::uFF 4 [bT,bT])) (.r [bT] (.pick 0))) (.r (bT::bT::bT::.k::uTT 9 (.k::uTT 6 [.key (js (bI n i0) (ah n.rules i0).type) (B (dec ((ah n.rules i0).type∈(bI n i0)))),bT,bT])) (.br (.r [bT] (.pick 0)) (.r [bT] (.yes (.r [.key none .any,bT] (.r [.int ↑(i0+1),bT] (.pick 1))))))))) (.r (uFF 19 [bT]) (.r [bT] (.no (.r [.int ↑(i0+1),bT] (.pick 2)))))))) (.r [bF,bF,bF,bT] (.a (.a (.r (bT::bT::bT::.k::bT::uFF 8 (bT::bT::uFF 4 [bT,bT])) (.r [bT] (.pick 0))) (.a (.r (bT::bT::bT::.k::uTT 9 (.k::bT::bT::uFF 4 [bT,bT])) (.r [bT] (.pick 0))) (.r (bT::bT::bT::.k::uTT 9 (.k::uTT 6 [.key (js (bI n i0) (ah n.rules i0).type) (B (dec ((ah n.rules i0).type∈(bI n i0)))),bT,bT])) (.br (.r [bT] (.pick 0)) (.r [bT] (.yes (.r [.key none .any,bT] (.r [.int ↑(i0+1),bT] (.pick 1))))))))) (.r (uFF 19 [bT]) (.r [bT] (.no (.r [.int ↑(i0+1),bT] (.pick 2)))))))))))))))))))))))) (.r [bF,bF,bF,bT] (.r [.int 0,bT] (.br (.r [bT] (.pick 0)) (.r [.int 1,bT] (.br (.r [bT] (.pick 0)) (.r [.k,bT] (.br (.r [bT] (.pick 0)) (.r [.cC ((ah n.rules i0).stop).toNat (ak (aB n.aa (ah n.rules i0).stop)),.k,bT] (.br (.r [bT] (.pick 0)) (.a (.a (.r [bT,bT,bT,bF,bF,bT,bT,bF,bF,bF,bT,bT] (.r [bT] (.pick 0))) (.a (.r (uTT 7 [bF,bF,bF,bT,bT]) (.r [bT] (.pick 0))) (.r (uTT 10 [.k,bT,bT]) (.br (.r [bT] (.pick 0)) (.r [bF,bF,bT] (.a (.r (.k::uFF 8 [bT]) (.r [bT] (.pick 0))) (.r (.k::uTT 8 [.k,bT]) (.br (.r [bT] (.pick 0)) (.r [bT,bT,bT,.k,bT] (.br (.r [bT] (.pick 0)) (.r (uFF 19 [bT]) (.r [bT] (.r [.int ↑(i0+1),bT] (.pick 2)))))))))))))) (.r (uFF 11 [bT]) (.r [bF,bF,bT] (.a (.r (.k::uFF 8 [bT]) (.r [bT] (.pick 0))) (.r (.k::uTT 8 [.k,bT]) (.br (.r [bT] (.pick 0)) (.r [bT,bT,bT,.k,bT] (.br (.r [bT] (.pick 0)) (.r (uFF 19 [bT]) (.r [bT] (.r [.int ↑(i0+1),bT] (.pick 2)))))))))))))))))))))))))
abbrev zCU (i0:Nat) (n:Net):=(!(ah n.rules i0).eK)
theorem YX (n:Net) (i0:Nat) (hf:bg n) (hx0:i0<(length n.rules)):vcC pg 123 (bC [i62 n (ah n.rules i0).start (i0:Int),i62 n (ah n.rules i0).stop (i0:Int)] base) aO 3000 (kbL []) Jk (bu (td n i0)) (bA (gL n i0)) 1 (bQ (cI n i0)) (XA n i0):=
 have hr:=hf.rules;have l1:=aW aD (n.rules);have hb:(zAV i0 n)=true:=decide_eq_true (by omega);
 aZ (an (a1 a0)
 (an hb (an (ac (bR aD (l:=n.rules) (i:=i0) (by omega)) a0)
 (aP (fun (h1:((ah n.rules i0).bP)=true)=>have q0:=(cdT h1 rfl:jS n i0=_);
 (an (aN 2 (ac h1 a0))
 (an (cA (g62 n (ah n.rules i0).start (i0:Int)) trivial a0)
 (brP (fun (h2:(!(r62 n (ah n.rules i0).start (i0:Int)))=true)=>
 (an a0
 (lf (wy (cI n i0) 0) 2 (q0.trans (orT h2))))) (fun h2=>have q2:=q0.trans (orF h2 rfl);have g2:=sN (GK h2);
 (an (cA (g62 n (ah n.rules i0).stop (i0:Int)) trivial a0)
 (brP (fun (h3:(!(r62 n (ah n.rules i0).stop (i0:Int)))=true)=>
 (an a0
 (lf (wy (cI n i0) 0) 2 (q2.trans (orT h3))))) (fun h3=>have q4:=q2.trans (orF h3 rfl);have g3:=sN (GK h3);
 (an (a1 a0)
 (brP (fun (h4:(zCG i0 n)=true)=>
 (an a0
 (lf (wy (cI n i0) 0) 2 (q4.trans (orT h4))))) (fun h4=>have q6:=q4.trans (orF h4 rfl);
 (have l2:=aW ak (n.aa);an (a1 (ac (bK (f:=ak) (l:=n.aa) (s:=(ah n.rules i0).stop) (decide_eq_true (by omega)) (decide_eq_true (by omega))) a0))
 (brP (fun (h5:(zAp i0 n)=true)=>
 (an a0
 (lf (wy (cI n i0) 0) 2 (q6.trans (orT h5))))) (fun h5=>have q8:=q6.trans (orF h5 rfl);have l3:=aW bc ((aB n.aa (ah n.rules i0).stop).aj);have g5:=of_decide_eq_false h5;
 (aP (fun (h6:(!(ah n.rules i0).bP)=true)=>have q10:=q8.trans (cdT h6 rfl);
 (aP (fun (h7:((ah n.rules i0).eK)=true)=>
 (an (aN 7 (ac (n2 h7) (aN 2 (ac h6 a0))))
 (an a0
 (lf (wy (cI n i0) 0) 2 (q10.trans (orT h7)))))) (fun h7=>have q14:=q10.trans (orF h7 rfl);
 (aP (fun (h8:((ah n.rules i0).lazy)=true)=>
 (an (aN 3 (ac (n2 h8) (aN 3 (ac (au h7) (aN 2 (ac h6 a0))))))
 (an a0
 (lf (wy (cI n i0) 0) 2 (q14.trans (orT h8)))))) (fun h8=>have q18:=q14.trans (orF h8 rfl);
 (an (aN 4 (ac (au h8) (aN 3 (ac (au h7) (aN 2 (ac h6 a0))))))
 (brP (fun (h9:((ah n.rules i0).mode !=0)=true)=>
 (an a0
 (lf (wy (cI n i0) 0) 2 (q18.trans (orT h9))))) (fun h9=>have q22:=q18.trans (orF h9 rfl);have g9:=fO h9;
 (an (a1 (ac h1 a0))
 (brP (fun (h10:((ah n.rules i0).left)=true)=>
 (an a0
 (lf (wy (cI n i0) 0) 2 (q22.trans (orT h10))))) (fun h10=>have q25:=q22.trans (orF h10 rfl);
 (aP (fun (h11:(zAk i0 n)=true)=>
 (an (aN 7 (ac (n2 h11) (a1 a0)))
 (an a0
 (lf (wy (cI n i0) 0) 2 (q25.trans (orT h11)))))) (fun h11=>have q29:=q25.trans (orF h11 rfl);have g11:=of_decide_eq_false h11;
 (an (aN 8 (ac (au h11) (a1 a0)))
 (brP (fun (h12:(zi i0 n)=true)=>
 (an a0
 (lf (wy (cI n i0) 0) 2 (q29.trans (orT h12))))) (fun h12=>have q33:=q29.trans (orF h12 rfl);have l4:=aW bx (n.cH);have g12:=of_decide_eq_false h12;
 (aP (fun (h13:(!(zCU i0 n))=true)=>have q36:=q33.trans (cdT h13 rfl);
 (an (aN 3 (ac h13 a0))
 (brP (fun (h14:(zBP i0 n)=true)=>
 (an a0
 (lf (wy (cI n i0) 0) 2 (q36.trans (orT h14))))) (fun h14=>have q40:=q36.trans (orF h14 rfl);have g14:=fO h14;
 (aP (fun (h15:(zCU i0 n)=true)=>have q43:=q40.trans (aE h15 rfl);
 (aP (fun (h16:(zBM i0 n)=true)=>
 (an (aN 14 (ac (n2 h16) (aN 4 (ac h15 a0))))
 (an a0
 (lf (wy (cI n i0) 0) 2 (q43.trans (orT h16)))))) (fun h16=>have q45:=q43.trans (orF h16 rfl);have g16:=of_decide_eq_false h16;
 (aP (fun (h17:(zAC i0 n)=true)=>
 (an (aN 4 (ac (n2 h17) (aN 10 (ac (au h16) (aN 4 (ac h15 a0))))))
 (an a0
 (lf (wy (cI n i0) 0) 2 (q45.trans (orT h17)))))) (fun h17=>have q47:=q45.trans (orF h17 rfl);have l5:=aW bx (n.types);have g17:=of_decide_eq_false h17;
 (an (a1 (ac (lkI (ah n.rules i0).type (bI n i0)) (aN 3 (ac (au h17) (aN 10 (ac (au h16) (aN 4 (ac h15 a0))))))))
 (brP (fun (h18:(dec ((ah n.rules i0).type∈(bI n i0)))=true)=>
 (an a0
 (lf (wy (cI n i0) 0) 2 (q47.trans h18)))) (fun h18=>
 (an a0
 (an h15 (an (ac (nwI h18) a0)
 (an (ac (dwr (z:= ↑(i0+1)) (by omega) (by omega)) a0)
 (lf (wy (cI n i0) 1) 2 ⟨(q47.trans h18),rfl,(by rw [show gL n (i0+1)=(fun y0:List Int=>([cq y0]:List Ob)) (bI n (i0+1)) from rfl,(show bI n (i0+1)=((bI n i0)++ [(ah n.rules i0).type]) from (cdT h1 (cdT h15 rfl))),(nL (ah n.rules i0).type (bI n i0))])⟩))))))))))))) (fun h15=>
 (an (aN 18 (ac (au h15) a0))
 (an a0
 (an h15 (an (ac (dwr (z:= ↑(i0+1)) (by omega) (by omega)) a0)
 (lf (wy (cI n i0) 2) 2 ⟨(q40.trans (aY h15)),rfl,(by rw [show gL n (i0+1)=(fun y0:List Int=>([cq y0]:List Ob)) (bI n (i0+1)) from rfl,(show bI n (i0+1)=(bI n i0) from (cdT h1 (cdF h15 rfl)))])⟩))))))))))) (fun h13=>have q37:=q33.trans (cdF h13 rfl);
 (an (aN 2 (ac (au h13) a0))
 (aP (fun (h14:(zCU i0 n)=true)=>have q41:=q37.trans (aE h14 rfl);
 (aP (fun (h15:(zBM i0 n)=true)=>
 (an (aN 14 (ac (n2 h15) (aN 4 (ac h14 a0))))
 (an a0
 (lf (wy (cI n i0) 0) 2 (q41.trans (orT h15)))))) (fun h15=>have q44:=q41.trans (orF h15 rfl);have g15:=of_decide_eq_false h15;
 (aP (fun (h16:(zAC i0 n)=true)=>
 (an (aN 4 (ac (n2 h16) (aN 10 (ac (au h15) (aN 4 (ac h14 a0))))))
 (an a0
 (lf (wy (cI n i0) 0) 2 (q44.trans (orT h16)))))) (fun h16=>have q46:=q44.trans (orF h16 rfl);have l5:=aW bx (n.types);have g16:=of_decide_eq_false h16;
 (an (a1 (ac (lkI (ah n.rules i0).type (bI n i0)) (aN 3 (ac (au h16) (aN 10 (ac (au h15) (aN 4 (ac h14 a0))))))))
 (brP (fun (h17:(dec ((ah n.rules i0).type∈(bI n i0)))=true)=>
 (an a0
 (lf (wy (cI n i0) 0) 2 (q46.trans h17)))) (fun h17=>
 (an a0
 (an h14 (an (ac (nwI h17) a0)
 (an (ac (dwr (z:= ↑(i0+1)) (by omega) (by omega)) a0)
 (lf (wy (cI n i0) 1) 2 ⟨(q46.trans h17),rfl,(by rw [show gL n (i0+1)=(fun y0:List Int=>([cq y0]:List Ob)) (bI n (i0+1)) from rfl,(show bI n (i0+1)=((bI n i0)++ [(ah n.rules i0).type]) from (cdT h1 (cdT h14 rfl))),(nL (ah n.rules i0).type (bI n i0))])⟩))))))))))))) (fun h14=>
 (an (aN 18 (ac (au h14) a0))
 (an a0
 (an h14 (an (ac (dwr (z:= ↑(i0+1)) (by omega) (by omega)) a0)
 (lf (wy (cI n i0) 2) 2 ⟨(q37.trans (aY h14)),rfl,(by rw [show gL n (i0+1)=(fun y0:List Int=>([cq y0]:List Ob)) (bI n (i0+1)) from rfl,(show bI n (i0+1)=(bI n i0) from (cdT h1 (cdF h14 rfl)))])⟩)))))))))))))))))))))))))) (fun h6=>have q11:=q8.trans (cdF h6 rfl);
 (an (aN 10 (ac (au h6) a0))
 (an (a1 (ac h1 a0))
 (brP (fun (h7:((ah n.rules i0).left)=true)=>
 (an a0
 (lf (wy (cI n i0) 0) 2 (q11.trans (orT h7))))) (fun h7=>have q15:=q11.trans (orF h7 rfl);
 (aP (fun (h8:(zAk i0 n)=true)=>
 (an (aN 7 (ac (n2 h8) (a1 a0)))
 (an a0
 (lf (wy (cI n i0) 0) 2 (q15.trans (orT h8)))))) (fun h8=>have q19:=q15.trans (orF h8 rfl);have g8:=of_decide_eq_false h8;
 (an (aN 8 (ac (au h8) (a1 a0)))
 (brP (fun (h9:(zi i0 n)=true)=>
 (an a0
 (lf (wy (cI n i0) 0) 2 (q19.trans (orT h9))))) (fun h9=>have q23:=q19.trans (orF h9 rfl);have l4:=aW bx (n.cH);have g9:=of_decide_eq_false h9;
 (aP (fun (h10:(!(zCU i0 n))=true)=>have q26:=q23.trans (cdT h10 rfl);
 (an (aN 3 (ac h10 a0))
 (brP (fun (h11:(zBP i0 n)=true)=>
 (an a0
 (lf (wy (cI n i0) 0) 2 (q26.trans (orT h11))))) (fun h11=>have q30:=q26.trans (orF h11 rfl);have g11:=fO h11;
 (aP (fun (h12:(zCU i0 n)=true)=>have q34:=q30.trans (aE h12 rfl);
 (aP (fun (h13:(zBM i0 n)=true)=>
 (an (aN 14 (ac (n2 h13) (aN 4 (ac h12 a0))))
 (an a0
 (lf (wy (cI n i0) 0) 2 (q34.trans (orT h13)))))) (fun h13=>have q38:=q34.trans (orF h13 rfl);have g13:=of_decide_eq_false h13;
 (aP (fun (h14:(zAC i0 n)=true)=>
 (an (aN 4 (ac (n2 h14) (aN 10 (ac (au h13) (aN 4 (ac h12 a0))))))
 (an a0
 (lf (wy (cI n i0) 0) 2 (q38.trans (orT h14)))))) (fun h14=>have q42:=q38.trans (orF h14 rfl);have l5:=aW bx (n.types);have g14:=of_decide_eq_false h14;
 (an (a1 (ac (lkI (ah n.rules i0).type (bI n i0)) (aN 3 (ac (au h14) (aN 10 (ac (au h13) (aN 4 (ac h12 a0))))))))
 (brP (fun (h15:(dec ((ah n.rules i0).type∈(bI n i0)))=true)=>
 (an a0
 (lf (wy (cI n i0) 0) 2 (q42.trans h15)))) (fun h15=>
 (an a0
 (an h12 (an (ac (nwI h15) a0)
 (an (ac (dwr (z:= ↑(i0+1)) (by omega) (by omega)) a0)
 (lf (wy (cI n i0) 1) 2 ⟨(q42.trans h15),rfl,(by rw [show gL n (i0+1)=(fun y0:List Int=>([cq y0]:List Ob)) (bI n (i0+1)) from rfl,(show bI n (i0+1)=((bI n i0)++ [(ah n.rules i0).type]) from (cdT h1 (cdT h12 rfl))),(nL (ah n.rules i0).type (bI n i0))])⟩))))))))))))) (fun h12=>
 (an (aN 18 (ac (au h12) a0))
 (an a0
 (an h12 (an (ac (dwr (z:= ↑(i0+1)) (by omega) (by omega)) a0)
 (lf (wy (cI n i0) 2) 2 ⟨(q30.trans (aY h12)),rfl,(by rw [show gL n (i0+1)=(fun y0:List Int=>([cq y0]:List Ob)) (bI n (i0+1)) from rfl,(show bI n (i0+1)=(bI n i0) from (cdT h1 (cdF h12 rfl)))])⟩))))))))))) (fun h10=>have q27:=q23.trans (cdF h10 rfl);
 (an (aN 2 (ac (au h10) a0))
 (aP (fun (h11:(zCU i0 n)=true)=>have q31:=q27.trans (aE h11 rfl);
 (aP (fun (h12:(zBM i0 n)=true)=>
 (an (aN 14 (ac (n2 h12) (aN 4 (ac h11 a0))))
 (an a0
 (lf (wy (cI n i0) 0) 2 (q31.trans (orT h12)))))) (fun h12=>have q35:=q31.trans (orF h12 rfl);have g12:=of_decide_eq_false h12;
 (aP (fun (h13:(zAC i0 n)=true)=>
 (an (aN 4 (ac (n2 h13) (aN 10 (ac (au h12) (aN 4 (ac h11 a0))))))
 (an a0
 (lf (wy (cI n i0) 0) 2 (q35.trans (orT h13)))))) (fun h13=>have q39:=q35.trans (orF h13 rfl);have l5:=aW bx (n.types);have g13:=of_decide_eq_false h13;
 (an (a1 (ac (lkI (ah n.rules i0).type (bI n i0)) (aN 3 (ac (au h13) (aN 10 (ac (au h12) (aN 4 (ac h11 a0))))))))
 (brP (fun (h14:(dec ((ah n.rules i0).type∈(bI n i0)))=true)=>
 (an a0
 (lf (wy (cI n i0) 0) 2 (q39.trans h14)))) (fun h14=>
 (an a0
 (an h11 (an (ac (nwI h14) a0)
 (an (ac (dwr (z:= ↑(i0+1)) (by omega) (by omega)) a0)
 (lf (wy (cI n i0) 1) 2 ⟨(q39.trans h14),rfl,(by rw [show gL n (i0+1)=(fun y0:List Int=>([cq y0]:List Ob)) (bI n (i0+1)) from rfl,(show bI n (i0+1)=((bI n i0)++ [(ah n.rules i0).type]) from (cdT h1 (cdT h11 rfl))),(nL (ah n.rules i0).type (bI n i0))])⟩))))))))))))) (fun h11=>
 (an (aN 18 (ac (au h11) a0))
 (an a0
 (an h11 (an (ac (dwr (z:= ↑(i0+1)) (by omega) (by omega)) a0)
 (lf (wy (cI n i0) 2) 2 ⟨(q27.trans (aY h11)),rfl,(by rw [show gL n (i0+1)=(fun y0:List Int=>([cq y0]:List Ob)) (bI n (i0+1)) from rfl,(show bI n (i0+1)=(bI n i0) from (cdT h1 (cdF h11 rfl)))])⟩))))))))))))))))))))))))))))))))))) (fun h1=>have q1:=(cdF h1 rfl:jS n i0=_);
 (an (aN 2 (ac (au h1) a0))
 (an (cA (g62 n (ah n.rules i0).start (i0:Int)) trivial a0)
 (brP (fun (h2:(!(r62 n (ah n.rules i0).start (i0:Int)))=true)=>
 (an a0
 (lf (wy (cI n i0) 0) 2 (q1.trans (orT h2))))) (fun h2=>have q3:=q1.trans (orF h2 rfl);have g2:=sN (GK h2);
 (an (cA (g62 n (ah n.rules i0).stop (i0:Int)) trivial a0)
 (brP (fun (h3:(!(r62 n (ah n.rules i0).stop (i0:Int)))=true)=>
 (an a0
 (lf (wy (cI n i0) 0) 2 (q3.trans (orT h3))))) (fun h3=>have q5:=q3.trans (orF h3 rfl);have g3:=sN (GK h3);
 (an (a1 a0)
 (brP (fun (h4:(zCG i0 n)=true)=>
 (an a0
 (lf (wy (cI n i0) 0) 2 (q5.trans (orT h4))))) (fun h4=>have q7:=q5.trans (orF h4 rfl);
 (have l2:=aW ak (n.aa);an (a1 (ac (bK (f:=ak) (l:=n.aa) (s:=(ah n.rules i0).stop) (decide_eq_true (by omega)) (decide_eq_true (by omega))) a0))
 (brP (fun (h5:(zAp i0 n)=true)=>
 (an a0
 (lf (wy (cI n i0) 0) 2 (q7.trans (orT h5))))) (fun h5=>have q9:=q7.trans (orF h5 rfl);have l3:=aW bc ((aB n.aa (ah n.rules i0).stop).aj);have g5:=of_decide_eq_false h5;
 (aP (fun (h6:(!(ah n.rules i0).bP)=true)=>have q12:=q9.trans (cdT h6 rfl);
 (aP (fun (h7:((ah n.rules i0).eK)=true)=>
 (an (aN 7 (ac (n2 h7) (aN 2 (ac h6 a0))))
 (an a0
 (lf (wy (cI n i0) 0) 2 (q12.trans (orT h7)))))) (fun h7=>have q16:=q12.trans (orF h7 rfl);
 (aP (fun (h8:((ah n.rules i0).lazy)=true)=>
 (an (aN 3 (ac (n2 h8) (aN 3 (ac (au h7) (aN 2 (ac h6 a0))))))
 (an a0
 (lf (wy (cI n i0) 0) 2 (q16.trans (orT h8)))))) (fun h8=>have q20:=q16.trans (orF h8 rfl);
 (an (aN 4 (ac (au h8) (aN 3 (ac (au h7) (aN 2 (ac h6 a0))))))
 (brP (fun (h9:((ah n.rules i0).mode !=0)=true)=>
 (an a0
 (lf (wy (cI n i0) 0) 2 (q20.trans (orT h9))))) (fun h9=>have q24:=q20.trans (orF h9 rfl);have g9:=fO h9;
 (an (a1 (ac (au h1) a0))
 (aP (fun (h10:(zAk i0 n)=true)=>
 (an (aN 7 (ac (n2 h10) (a1 a0)))
 (an a0
 (lf (wy (cI n i0) 0) 2 (q24.trans (orT h10)))))) (fun h10=>have q28:=q24.trans (orF h10 rfl);have g10:=of_decide_eq_false h10;
 (an (aN 8 (ac (au h10) (a1 a0)))
 (brP (fun (h11:(zi i0 n)=true)=>
 (an a0
 (lf (wy (cI n i0) 0) 2 (q28.trans (orT h11))))) (fun h11=>have q32:=q28.trans (orF h11 rfl);have l4:=aW bx (n.cH);have g11:=of_decide_eq_false h11;
 (an (aN 4 a0)
 (brP (fun (h12:(zBP i0 n)=true)=>
 (an a0
 (lf (wy (cI n i0) 0) 2 (q32.trans h12)))) (fun h12=>have g12:=fO h12;
 (an (aN 19 a0)
 (an a0
 (an (ac (dwr (z:= ↑(i0+1)) (by omega) (by omega)) a0)
 (lf (wy (cI n i0) 2) 2 ⟨(q32.trans h12),rfl,(by rw [show gL n (i0+1)=(fun y0:List Int=>([cq y0]:List Ob)) (bI n (i0+1)) from rfl,(show bI n (i0+1)=(bI n i0) from (cdF h1 rfl))])⟩))))))))))))))))))))) (fun h6=>have q13:=q9.trans (cdF h6 rfl);
 (an (aN 10 (ac (au h6) a0))
 (an (a1 (ac (au h1) a0))
 (aP (fun (h7:(zAk i0 n)=true)=>
 (an (aN 7 (ac (n2 h7) (a1 a0)))
 (an a0
 (lf (wy (cI n i0) 0) 2 (q13.trans (orT h7)))))) (fun h7=>have q17:=q13.trans (orF h7 rfl);have g7:=of_decide_eq_false h7;
 (an (aN 8 (ac (au h7) (a1 a0)))
 (brP (fun (h8:(zi i0 n)=true)=>
 (an a0
 (lf (wy (cI n i0) 0) 2 (q17.trans (orT h8))))) (fun h8=>have q21:=q17.trans (orF h8 rfl);have l4:=aW bx (n.cH);have g8:=of_decide_eq_false h8;
 (an (aN 4 a0)
 (brP (fun (h9:(zBP i0 n)=true)=>
 (an a0
 (lf (wy (cI n i0) 0) 2 (q21.trans h9)))) (fun h9=>have g9:=fO h9;
 (an (aN 19 a0)
 (an a0
 (an (ac (dwr (z:= ↑(i0+1)) (by omega) (by omega)) a0)
 (lf (wy (cI n i0) 2) 2 ⟨(q21.trans h9),rfl,(by rw [show gL n (i0+1)=(fun y0:List Int=>([cq y0]:List Ob)) (bI n (i0+1)) from rfl,(show bI n (i0+1)=(bI n i0) from (cdF h1 rfl))])⟩))))))))))))))))))))))))))))))))))
 (by kernel_rfl)
theorem YY (n:Net) (hf:bg n):vcC pg 123 base aO 3000 (kbL []) Jk (bu (td n (zU n))) (bA (gL n (zU n))) 1 (bQ [⟨True,(.exit 0),oi n,range 1,mA n⟩]) zE:=
 have hr:=hf.rules;have l1:=aW aD (n.rules);have hb:(zH n)=false:=decide_eq_false (by omega);
 aZ (an (a1 a0)
 (an hb (lf (wy [⟨True,(.exit 0),oi n,range 1,mA n⟩] 0) 1 trivial)))
 (by kernel_rfl)
theorem Sh (n:Net) (i0:Nat):(cI n i0).all zr=true:=by refine (aF (aQ rfl rfl rfl ?_ ?_) (aF (aQ rfl rfl rfl ?_ ?_) (aF (aQ rfl rfl rfl ?_ ?_) bD)))<;>simp (maxDischargeDepth:=9) [nxW,htW,td,vj,plS,AV.pure,gL,qW,plO,cq]
theorem Si (n:Net):bj.b8 0 ⟨True,(.exit 0),oi n,range 1,mA n⟩=true:=(aQ rfl rfl rfl rfl (by simp (maxDischargeDepth:=9) [mA,plO,cq]))
theorem Sj (n:Net) (hf:bg n):dg pg 123 0 0 (.loop Jk) (GX n):=
 have hr:=hf.rules;bZ (fun _=>e9 (id:=0) (m:=length n.rules) (t:=jS n) (xr:= .ret) (xn:=(.exit 0)) (Lr:=vj n) (Lx:=oi n) (obr:=qW n) (obx:=mA n) (V:=fun i0=>vcC pg 123 (bC [i62 n (ah n.rules i0).start (i0:Int),i62 n (ah n.rules i0).stop (i0:Int)] base) aO 3000 (kbL []) Jk) (td n) (gL n) 1 (cI n) (XA n) _ _ (fun i0 hx0=>aS (bf (.cons (g62 n (ah n.rules i0).start (i0:Int)) rfl (.cons (g62 n (ah n.rules i0).stop (i0:Int)) rfl cv.nil)) aw) mixed (az _)) (aS aw mixed (az _)) (fun e=>by cases e) (fun e=>by cases e) (fun _=>rfl) (fun i0 hx0=>YX n i0 hf hx0) (fun i0 _=>Sh n i0) (fun i0 _=>show∀ww∈cI n i0,cy _ _ _ _ _ _ ww from (aG da (aG cg (aG cg bG)))) (YY n hf) (Si n)) (fun h=>h) (fun h=>h)
def r27 (n:Net):Bool:=(!(yC n))
theorem xW:dB [0] (aH 27)=[(0,.loop Jk)]:=by kernel_rfl
theorem V7 (n:Net) (hf:bg n):ba pg 27 [.pf (aR n)] [] [] (B (r27 n)) []:=
 bB (fn:=Tryz.f27) (callf:=base) (pu:=aO) (lf:=3000) (l:=[(0,GX n)]) (t:=(.r [bT] zh)) aw mixed Tryz.func27 (by kernel_rfl) (show Tryz.f27.body=some (aH 27) by kernel_rfl) (Nat.le_of_ble_eq_true rfl) (bO (l:=[(0,GX n)]) xW (aV (Sj n hf) rfl bn) rfl) rfl (aZ
 (an a0
 (an a0
 (an a0
 (an (kbT (GX n) trivial) (brP (fun (h0:(yC n)=true)=>
 (bE (show r27 n=false from (cx h0)))) (fun h0=>
 (an a0
 (bE (show r27 n=true from (au h0))))))))))
 (by kernel_rfl))
def r77 (n:Net) (r:cm) (_:Int) (e:Edge):Bool:=((e.n==0)&&e.level==0)
theorem YZ (n:Net) (r:cm) (no:Int) (e:Edge):ba pg 77 [.ag [.pf (aR n),.pf (aD r),I no,.pf (bc e)]] [] [] (B (r77 n r no e)) []:=
 bB (fn:=Tryz.f77) (callf:=base) (pu:=aO) (lf:=3000) (l:=[]) (t:=(.r [bT] zAE)) aw mixed Tryz.func77 (by kernel_rfl) (show Tryz.f77.body=some (aH 77) by kernel_rfl) (Nat.le_of_ble_eq_true rfl) (az _) rfl (aZ
 (an a0
 (aP (fun (h0:(e.n==0)=true)=>
 (an (aN 6 (ac h0 (a1 a0)))
 (bE (show r77 n r no e=(e.level==0) from (aE h0 rfl))))) (fun h0=>
 (an (aN 5 (ac (au h0) (a1 a0)))
 (bE (show r77 n r no e=false from (aY h0)))))))
 (by kernel_rfl))
def r79 (n:Net) (r:cm) (no:Int) (e:Edge):Bool:=((decide (e.n>=0))&&((decide (e.n<(length (map aD n.rules):Int)))&&(((aB n.rules e.n).bP==r.bP)&&((decide (e.level>=0))&&((decide (e.level<=65))&&((e.level==0)||((e.n==no)&&r.left)))))))
theorem Y0 (n:Net) (r:cm) (no:Int) (e:Edge) (_:length n.rules<=9223372036854775807):ba pg 79 [.ag [.pf (aR n),.pf (aD r),I no,.pf (bc e)]] [] [] (B (r79 n r no e)) []:=
 bB (fn:=Tryz.f79) (callf:=base) (pu:=aO) (lf:=3000) (l:=[]) (t:=(.r [bT] (.a (.a (.a (.a (.a (.a (.r (.k::uTT 12 (.k::uTT 11 (.cC (e.n).toNat (aD (aB n.rules e.n))::uTT 8 (.k::uTT 6 (.k::uTT 6 (.k::uTT 6 (.k::bT::uFF 15 [bT,bT]))))))) .nil) (.a (.r (.k::uTT 12 (.k::uTT 11 (.cC (e.n).toNat (aD (aB n.rules e.n))::uTT 8 (.k::uTT 6 (.k::uTT 6 (.k::uTT 6 (.k::uTT 9 (.k::uTT 9 [])))))))) .nil) (.r (.k::uTT 12 (.k::uTT 11 (.cC (e.n).toNat (aD (aB n.rules e.n))::uTT 8 (.k::uTT 6 (.k::uTT 6 (.k::uTT 6 (.k::uTT 9 (.k::bT::uFF 5 [bT,bT,bT])))))))) .nil))) (.r (.k::uTT 12 (.k::uTT 11 (.cC (e.n).toNat (aD (aB n.rules e.n))::uTT 8 (.k::uTT 6 (.k::uTT 6 (.k::uFF 23 [bT])))))) .nil)) (.r (.k::uTT 12 (.k::uTT 11 (.cC (e.n).toNat (aD (aB n.rules e.n))::uTT 8 (.k::uTT 6 (.k::uFF 29 [bT]))))) .nil)) (.r (.k::uTT 12 (.k::uTT 11 (.cC (e.n).toNat (aD (aB n.rules e.n))::uTT 8 (.k::uFF 35 [bT])))) .nil)) (.r (.k::uTT 12 (.k::uFF 54 [bT])) .nil)) (.r (.k::uFF 66 [bT]) .nil)))) aw mixed Tryz.func79 (by kernel_rfl) (show Tryz.f79.body=some (aH 79) by kernel_rfl) (Nat.le_of_ble_eq_true rfl) (az _) rfl (aZ
 (an a0
 (aP (fun (h0:(decide (e.n>=0))=true)=>have q0:=(aE h0 rfl:r79 n r no e=_);have g0:=of_decide_eq_true h0;
 (aP (fun (h1:(decide (e.n<(length (map aD n.rules):Int)))=true)=>have q1:=q0.trans (aE h1 rfl);have l1:=aW aD (n.rules);have g1:=of_decide_eq_true h1;
 (aP (fun (h2:((aB n.rules e.n).bP==r.bP)=true)=>have q2:=q1.trans (aE h2 rfl);
 (aP (fun (h3:(decide (e.level>=0))=true)=>have q3:=q2.trans (aE h3 rfl);have g3:=of_decide_eq_true h3;
 (aP (fun (h4:(decide (e.level<=65))=true)=>have q4:=q3.trans (aE h4 rfl);have g4:=of_decide_eq_true h4;
 (aP (fun (h5:(e.level==0)=true)=>have g5:=eq_of_beq h5;
 (an (aN 15 (ac (n2 h5) (aN 7 (ac h4 (aN 6 (ac h3 (aN 6 (ac h2 (aN 9 (ac (bK (f:=aD) (l:=n.rules) (s:=e.n) (decide_eq_true (by omega)) (decide_eq_true (by omega))) (aN 10 (ac h1 (aN 12 (ac h0 (a1 a0)))))))))))))))
 (bE (q4.trans (orT h5))))) (fun h5=>have g5:=ne_of_beq_false h5;
 (aP (fun (h6:(e.n==no)=true)=>
 (an (aN 6 (ac h6 (aN 9 (ac (au h5) (aN 7 (ac h4 (aN 6 (ac h3 (aN 6 (ac h2 (aN 9 (ac (bK (f:=aD) (l:=n.rules) (s:=e.n) (decide_eq_true (by omega)) (decide_eq_true (by omega))) (aN 10 (ac h1 (aN 12 (ac h0 (a1 a0)))))))))))))))))
 (bE (show r79 n r no e=r.left from (aE h0 (aE h1 (aE h2 (aE h3 (aE h4 (orF h5 (aE h6 rfl))))))))))) (fun h6=>
 (an (aN 6 (ac (au h6) (aN 9 (ac (au h5) (aN 7 (ac h4 (aN 6 (ac h3 (aN 6 (ac h2 (aN 9 (ac (bK (f:=aD) (l:=n.rules) (s:=e.n) (decide_eq_true (by omega)) (decide_eq_true (by omega))) (aN 10 (ac h1 (aN 12 (ac h0 (a1 a0)))))))))))))))))
 (bE (q4.trans (orF h5 (aY h6)))))))))) (fun h4=>have g4:=of_decide_eq_false h4;
 (an (aN 22 (ac (au h4) (aN 6 (ac h3 (aN 6 (ac h2 (aN 9 (ac (bK (f:=aD) (l:=n.rules) (s:=e.n) (decide_eq_true (by omega)) (decide_eq_true (by omega))) (aN 10 (ac h1 (aN 12 (ac h0 (a1 a0)))))))))))))
 (bE (q3.trans (aY h4))))))) (fun h3=>have g3:=of_decide_eq_false h3;
 (an (aN 28 (ac (au h3) (aN 6 (ac h2 (aN 9 (ac (bK (f:=aD) (l:=n.rules) (s:=e.n) (decide_eq_true (by omega)) (decide_eq_true (by omega))) (aN 10 (ac h1 (aN 12 (ac h0 (a1 a0)))))))))))
 (bE (q2.trans (aY h3))))))) (fun h2=>
 (an (aN 34 (ac (au h2) (aN 9 (ac (bK (f:=aD) (l:=n.rules) (s:=e.n) (decide_eq_true (by omega)) (decide_eq_true (by omega))) (aN 10 (ac h1 (aN 12 (ac h0 (a1 a0)))))))))
 (bE (q1.trans (aY h2))))))) (fun h1=>
 (an (aN 53 (ac (au h1) (aN 12 (ac h0 (a1 a0)))))
 (bE (q0.trans (aY h1))))))) (fun h0=>
 (an (aN 65 (ac (au h0) (a1 a0)))
 (bE (show r79 n r no e=false from (aY h0)))))))
 (by kernel_rfl))
def r83 (n:Net) (r:cm) (_:Int) (e:Edge):Bool:=((decide (e.n>=1))&&((decide (e.n<=64))&&e.level==0))
theorem Y1 (n:Net) (r:cm) (no:Int) (e:Edge):ba pg 83 [.ag [.pf (aR n),.pf (aD r),I no,.pf (bc e)]] [] [] (B (r83 n r no e)) []:=
 bB (fn:=Tryz.f83) (callf:=base) (pu:=aO) (lf:=3000) (l:=[]) (t:=(.r [bT] (.a (.a (.r (.k::uTT 6 (.k::uTT 6 [.k,bT])) .nil) (.r (.k::uTT 6 (.k::uFF 6 [bT])) .nil)) (.r zCB .nil)))) aw mixed Tryz.func83 (by kernel_rfl) (show Tryz.f83.body=some (aH 83) by kernel_rfl) (Nat.le_of_ble_eq_true rfl) (az _) rfl (aZ
 (an a0
 (aP (fun (h0:(decide (e.n>=1))=true)=>
 (aP (fun (h1:(decide (e.n<=64))=true)=>
 (an (aN 6 (ac h1 (aN 6 (ac h0 (a1 a0)))))
 (bE (show r83 n r no e=(e.level==0) from (aE h0 (aE h1 rfl)))))) (fun h1=>
 (an (aN 5 (ac (au h1) (aN 6 (ac h0 (a1 a0)))))
 (bE (show r83 n r no e=false from (aE h0 (aY h1)))))))) (fun h0=>
 (an (aN 11 (ac (au h0) (a1 a0)))
 (bE (show r83 n r no e=false from (aY h0)))))))
 (by kernel_rfl))
def r84 (n:Net) (r:cm) (_:Int) (e:Edge):Bool:=(r.left&&((decide (e.n>=1))&&((decide (e.n<=64))&&((decide (e.level>=1))&&decide (e.level<=64)))))
theorem Y2 (n:Net) (r:cm) (no:Int) (e:Edge):ba pg 84 [.ag [.pf (aR n),.pf (aD r),I no,.pf (bc e)]] [] [] (B (r84 n r no e)) []:=
 bB (fn:=Tryz.f84) (callf:=base) (pu:=aO) (lf:=3000) (l:=[]) (t:=(.r [bT] (.a (.a (.a (.a (.r (uTT 6 (.k::uTT 6 (.k::uTT 6 (.k::uTT 6 [.k,bT])))) .nil) (.r (uTT 6 (.k::uTT 6 (.k::uTT 6 (.k::uFF 6 [bT])))) .nil)) (.r (uTT 6 (.k::uTT 6 (.k::uFF 12 [bT]))) .nil)) (.r (uTT 6 (.k::uFF 18 [bT])) .nil)) (.r (uFF 24 [bT]) .nil)))) aw mixed Tryz.func84 (by kernel_rfl) (show Tryz.f84.body=some (aH 84) by kernel_rfl) (Nat.le_of_ble_eq_true rfl) (az _) rfl (aZ
 (an a0
 (aP (fun (h0:(r.left)=true)=>have q0:=(aE h0 rfl:r84 n r no e=_);
 (aP (fun (h1:(decide (e.n>=1))=true)=>have q1:=q0.trans (aE h1 rfl);
 (aP (fun (h2:(decide (e.n<=64))=true)=>
 (aP (fun (h3:(decide (e.level>=1))=true)=>
 (an (aN 6 (ac h3 (aN 6 (ac h2 (aN 6 (ac h1 (aN 6 (ac h0 a0))))))))
 (bE (show r84 n r no e=(decide (e.level<=64)) from (aE h0 (aE h1 (aE h2 (aE h3 rfl)))))))) (fun h3=>
 (an (aN 5 (ac (au h3) (aN 6 (ac h2 (aN 6 (ac h1 (aN 6 (ac h0 a0))))))))
 (bE (q1.trans (aE h2 (aY h3)))))))) (fun h2=>
 (an (aN 11 (ac (au h2) (aN 6 (ac h1 (aN 6 (ac h0 a0))))))
 (bE (q1.trans (aY h2))))))) (fun h1=>
 (an (aN 17 (ac (au h1) (aN 6 (ac h0 a0))))
 (bE (q0.trans (aY h1))))))) (fun h0=>
 (an (aN 23 (ac (au h0) a0))
 (bE (show r84 n r no e=false from (aY h0)))))))
 (by kernel_rfl))
def r85 (n:Net) (r:cm) (_:Int) (e:Edge):Bool:=(r.left&&((e.n==0)&&e.level==0))
theorem Y3 (n:Net) (r:cm) (no:Int) (e:Edge):ba pg 85 [.ag [.pf (aR n),.pf (aD r),I no,.pf (bc e)]] [] [] (B (r85 n r no e)) []:=
 bB (fn:=Tryz.f85) (callf:=base) (pu:=aO) (lf:=3000) (l:=[]) (t:=(.r [bT] (.a (.a (.r (uTT 6 (.k::uTT 6 [.k,bT])) .nil) (.r (uTT 6 (.k::uFF 6 [bT])) .nil)) zBv))) aw mixed Tryz.func85 (by kernel_rfl) (show Tryz.f85.body=some (aH 85) by kernel_rfl) (Nat.le_of_ble_eq_true rfl) (az _) rfl (aZ
 (an a0
 (aP (fun (h0:(r.left)=true)=>
 (aP (fun (h1:(e.n==0)=true)=>
 (an (aN 6 (ac h1 (aN 6 (ac h0 a0))))
 (bE (show r85 n r no e=(e.level==0) from (aE h0 (aE h1 rfl)))))) (fun h1=>
 (an (aN 5 (ac (au h1) (aN 6 (ac h0 a0))))
 (bE (show r85 n r no e=false from (aE h0 (aY h1)))))))) (fun h0=>
 (an (aN 11 (ac (au h0) a0))
 (bE (show r85 n r no e=false from (aY h0)))))))
 (by kernel_rfl))
def r78 (n:Net) (r:cm) (_:Int) (e:Edge):Bool:=(bif r.bP then ((e.n==0)&&((e.level==0)&&((decide ((((ah e.set 0)).1)>=0))&&decide ((((aB e.set ((length (map bo e.set):Int)-1))).2)<=1114111)))) else ((e.n==0)&&((e.level==0)&&((decide ((((ah e.set 0)).1)>=1))&&decide ((((aB e.set ((length (map bo e.set):Int)-1))).2)<=(IntKind.wrap IntKind.i32 (length (map bx n.types):Int)))))))
abbrev zJ (e:Edge):GT:=(.r [bT] (.a (.a (.a (.r (.k::uTT 6 (.k::bT::bT::.row (bo (ah e.set 0))::uTT 4 (.k::uTT 4 (.int ((length (zBx e):Int)-1)::bT::.cC (((length (zBx e):Int)-1)).toNat (bo (aB e.set ((length (zBx e):Int)-1)))::uTT 4 [.k,bT])))) .nil) (.r (.k::uTT 6 (.k::bT::bT::.row (bo (ah e.set 0))::uTT 4 (.k::uFF 9 [bT]))) .nil)) (.r (.k::uTT 6 (.k::uFF 15 [bT])) .nil)) (.r (.k::uFF 21 [bT]) .nil)))
theorem Y4 (n:Net) (r:cm) (no:Int) (e:Edge) (_:length n.types<=9223372036854775807) (hs:0<length e.set) (hl:length e.set<=9223372036854775807):ba pg 78 [.ag [.pf (aR n),.pf (aD r),I no,.pf (bc e)]] [] [] (B (r78 n r no e)) []:=
 bB (fn:=Tryz.f78) (callf:=base) (pu:=aO) (lf:=3000) (l:=[]) (t:=(.r [bT] (.r [bT] (.r [bT] (.br (.r [bT] (zJ e)) (zJ e)))))) aw mixed Tryz.func78 (by kernel_rfl) (show Tryz.f78.body=some (aH 78) by kernel_rfl) (Nat.le_of_ble_eq_true rfl) (az _) rfl (aZ
 (an a0
 (an a0
 (an a0
 (brP (fun (h0:(r.bP)=true)=>have q0:=(cdT h0 rfl:r78 n r no e=_);
 (an a0
 (an a0
 (aP (fun (h1:(e.n==0)=true)=>have q2:=q0.trans (aE h1 rfl);have g1:=eq_of_beq h1;
 (aP (fun (h2:(e.level==0)=true)=>have g2:=eq_of_beq h2;
 (aP (fun (h3:(decide ((((ah e.set 0)).1)>=0))=true)=>have g3:=of_decide_eq_true h3;
 (have l1:=aW bo (e.set);an (aN 5 (ac (bK (f:=bo) (l:=e.set) (s:=((length (map bo e.set):Int)-1)) (decide_eq_true (by omega)) (decide_eq_true (by omega))) (a1 (ac (dwr (z:=((length (map bo e.set):Int)-1)) (by omega) (by omega)) (aN 3 (ac h3 (aN 5 (ac (bR bo (l:=e.set) (i:=0) (by omega)) (a1 (ac h2 (aN 6 (ac h1 (a1 a0)))))))))))))
 (bE (show r78 n r no e=(decide ((((aB e.set ((length (map bo e.set):Int)-1))).2)<=1114111)) from (cdT h0 (aE h1 (aE h2 (aE h3 rfl)))))))) (fun h3=>have g3:=of_decide_eq_false h3;
 (an (aN 8 (ac (au h3) (aN 5 (ac (bR bo (l:=e.set) (i:=0) (by omega)) (a1 (ac h2 (aN 6 (ac h1 (a1 a0)))))))))
 (bE (q2.trans (aE h2 (aY h3)))))))) (fun h2=>
 (an (aN 14 (ac (au h2) (aN 6 (ac h1 (a1 a0)))))
 (bE (q2.trans (aY h2))))))) (fun h1=>
 (an (aN 20 (ac (au h1) (a1 a0)))
 (bE (q0.trans (aY h1))))))))) (fun h0=>have q1:=(cdF h0 rfl:r78 n r no e=_);
 (an a0
 (aP (fun (h1:(e.n==0)=true)=>have q3:=q1.trans (aE h1 rfl);have g1:=eq_of_beq h1;
 (aP (fun (h2:(e.level==0)=true)=>have g2:=eq_of_beq h2;
 (aP (fun (h3:(decide ((((ah e.set 0)).1)>=1))=true)=>have g3:=of_decide_eq_true h3;
 (have l1:=aW bo (e.set);an (aN 5 (ac (bK (f:=bo) (l:=e.set) (s:=((length (map bo e.set):Int)-1)) (decide_eq_true (by omega)) (decide_eq_true (by omega))) (a1 (ac (dwr (z:=((length (map bo e.set):Int)-1)) (by omega) (by omega)) (aN 3 (ac h3 (aN 5 (ac (bR bo (l:=e.set) (i:=0) (by omega)) (a1 (ac h2 (aN 6 (ac h1 (a1 a0)))))))))))))
 (bE (show r78 n r no e=(decide ((((aB e.set ((length (map bo e.set):Int)-1))).2)<=(IntKind.wrap IntKind.i32 (length (map bx n.types):Int)))) from (cdF h0 (aE h1 (aE h2 (aE h3 rfl)))))))) (fun h3=>have g3:=of_decide_eq_false h3;
 (an (aN 8 (ac (au h3) (aN 5 (ac (bR bo (l:=e.set) (i:=0) (by omega)) (a1 (ac h2 (aN 6 (ac h1 (a1 a0)))))))))
 (bE (q3.trans (aE h2 (aY h3)))))))) (fun h2=>
 (an (aN 14 (ac (au h2) (aN 6 (ac h1 (a1 a0)))))
 (bE (q3.trans (aY h2))))))) (fun h1=>
 (an (aN 20 (ac (au h1) (a1 a0)))
 (bE (q1.trans (aY h1))))))))))))
 (by kernel_rfl))
def r82e (e:Edge) (o:Int):Bool:=(((G.op e.g)==o)||kL o (G.kids e.g))
theorem Sl (e:Edge) (o:Int) (hf:eS e.g):ba pg 82 [.pf [I8 (G.op e.g),I (G.n e.g),S (G.name e.g),.sl 4 (map gC (G.kids e.g)),.sl 2 (map fG e.en),I e.to],I8 o] [] [] (B (r82e e o)) []:=
 bB (fn:=Tryz.f82) (callf:=(bC [MX (G.kids e.g) o] base)) (pu:=aO) (lf:=3000) (l:=[]) (t:=zBY) (bf (.cons (GF hf.len (fun u hu=>wM o u (hf.kids u hu))) rfl cv.nil) aw) mixed Tryz.func82 (by kernel_rfl) (show Tryz.f82.body=some (aH 82) by kernel_rfl) (Nat.le_of_ble_eq_true rfl) (az _) rfl (aZ
 (an a0
 (aP (fun (h0:((G.op e.g)==o)=true)=>
 (an (aN 5 (ac (n2 h0) (a1 a0)))
 (bE (show r82e e o=true from (orT h0))))) (fun h0=>
 (an (cA (GF hf.len (fun u hu=>wM o u (hf.kids u hu))) trivial (aN 5 (ac (au h0) (a1 a0))))
 (bE (show r82e e o=(kL o (G.kids e.g)) from (orF h0 rfl)))))))
 (by kernel_rfl))
theorem V8 (e:Edge) (o:Int):r82e e o=dZ o e.g:=by
 obtain ⟨a,b,c,d,g,f,h⟩:=e
 obtain ⟨o',n,s,l⟩:=g
 rfl
def i82e (e:Edge) (o:Int):b9:=⟨82,[.pf ((bc e).drop 4),I8 o],B (dZ o e.g),eS e.g⟩
theorem OW (e:Edge) (o:Int):(i82e e o).cd pg:=fun hp=>⟨by have:=Sl e o hp;rw [V8] at this;exact this,by simp [i82e,bc,ae,AV.pure],rfl⟩
def r80 (n:Net) (r:cm) (_:Int) (e:Edge):Bool:=((e.n==0)&&((e.level==0)&&(((r81 e.g)==0)&&((!(dZ 14 e.g))&&(r.bP|| !(dZ 13 e.g))))))
theorem Y5 (n:Net) (r:cm) (no:Int) (e:Edge) (he:DH e):ba pg 80 [.ag [.pf (aR n),.pf (aD r),I no,.pf (bc e)]] [] [] (B (r80 n r no e)) []:=
 bB (fn:=Tryz.f80) (callf:=(bC [i81 e.g,i82e e 14,i82e e 13] base)) (pu:=aO) (lf:=3000) (l:=[]) (t:=(.r [bT] (.a (.a (.a (.a (.a (.r (.k::uTT 6 (.k::uTT 6 (.int 0::bT::.k::uTT 5 (.int 1::uTT 7 (uFF 6 [bT,bT]))))) .nil) (.r (.k::uTT 6 (.k::uTT 6 (.int 0::bT::.k::uTT 5 (.int 1::uTT 12 [.int 2,bT,bT,bT])))) .nil)) (.r (.k::uTT 6 (.k::uTT 6 (.int 0::bT::.k::uTT 5 (.int 1::bT::uFF 13 [bT])))) .nil)) (.r (.k::uTT 6 (.k::uTT 6 (.int 0::bT::.k::uFF 19 [bT]))) .nil)) (.r (.k::uTT 6 (.k::uFF 26 [bT])) .nil)) (.r (.k::uFF 32 [bT]) .nil)))) (bf (.cons (g81 e.g) rfl (.cons (OW e 14) rfl (.cons (OW e 13) rfl cv.nil))) aw) mixed Tryz.func80 (by kernel_rfl) (show Tryz.f80.body=some (aH 80) by kernel_rfl) (Nat.le_of_ble_eq_true rfl) (az _) rfl (aZ
 (an a0
 (aP (fun (h0:(e.n==0)=true)=>have q0:=(aE h0 rfl:r80 n r no e=_);
 (aP (fun (h1:(e.level==0)=true)=>have q1:=q0.trans (aE h1 rfl);
 (aP (fun (h2:((r81 e.g)==0)=true)=>have q2:=q1.trans (aE h2 rfl);
 (aP (fun (h3:(!(dZ 14 e.g))=true)=>
 (aP (fun (h4:(r.bP)=true)=>
 (an (aN 6 (ac (n2 h4) (aN 5 (ac h3 (a1 (cA (OW e 14) he.g (aN 4 (ac h2 (aN 2 (cA (g81 e.g) he.g (aN 5 (ac h1 (aN 6 (ac h0 (a1 a0)))))))))))))))
 (bE (q2.trans (aE h3 (orT h4)))))) (fun h4=>
 (an (aN 2 (cA (OW e 13) he.g (aN 4 (ac (au h4) (aN 5 (ac h3 (a1 (cA (OW e 14) he.g (aN 4 (ac h2 (aN 2 (cA (g81 e.g) he.g (aN 5 (ac h1 (aN 6 (ac h0 (a1 a0)))))))))))))))))
 (bE (show r80 n r no e=(!(dZ 13 e.g)) from (aE h0 (aE h1 (aE h2 (aE h3 (orF h4 rfl))))))))))) (fun h3=>
 (an (aN 12 (ac (au h3) (a1 (cA (OW e 14) he.g (aN 4 (ac h2 (aN 2 (cA (g81 e.g) he.g (aN 5 (ac h1 (aN 6 (ac h0 (a1 a0)))))))))))))
 (bE (q2.trans (aY h3))))))) (fun h2=>
 (an (aN 18 (ac (au h2) (aN 2 (cA (g81 e.g) he.g (aN 5 (ac h1 (aN 6 (ac h0 (a1 a0)))))))))
 (bE (q1.trans (aY h2))))))) (fun h1=>
 (an (aN 25 (ac (au h1) (aN 6 (ac h0 (a1 a0)))))
 (bE (q0.trans (aY h1))))))) (fun h0=>
 (an (aN 31 (ac (au h0) (a1 a0)))
 (bE (show r80 n r no e=false from (aY h0)))))))
 (by kernel_rfl))
def r88 (n:Net) (r:cm) (_:Int) (e:Edge) (a:Int×Int):Bool:= !(r89 n a)
theorem act88 (n:Net) (r:cm) (no:Int) (e:Edge) (a:Int×Int):ba pg 88 [.ag (fG a),.pf [.pf (aR n),.pf (aD r),I no,.pf (bc e)]] [] [] (B (r88 n r no e a)) []:=
 bB (fn:=Tryz.f88) (callf:=(bC [i89 n a] base)) (pu:=aO) (lf:=3000) (l:=[]) (t:=zBq) (bf (.cons (g89 n a) rfl cv.nil) aw) mixed Tryz.func88 (by kernel_rfl) (show Tryz.f88.body=some (aH 88) by kernel_rfl) (Nat.le_of_ble_eq_true rfl) (az _) rfl (aZ
 (an a0
 (an (cA (g89 n a) trivial a0)
 (bE (show r88 n r no e a=(!(r89 n a)) from rfl))))
 (by kernel_rfl))
def i88 (n:Net) (r:cm) (no:Int) (e:Edge) (a:Int×Int):b9:=⟨88,[.ag (fG a),.pf [.pf (aR n),.pf (aD r),I no,.pf (bc e)]],B (r88 n r no e a),True⟩
theorem g88 (n:Net) (r:cm) (no:Int) (e:Edge) (a:Int×Int):(i88 n r no e a).cd pg:=fun _=>⟨act88 n r no e a,by simp [i88,ae,AV.pure],rfl⟩
def BQ:Code:=bV 0 (aH 103)
def om (n:Net) (r:cm) (no:Int) (e:Edge) (l:List (Int×Int)) (i0:Nat):Am.Loc:=[(0,.sl 2 (map fG l)),(1,.fn (.func 88) [] [.pf [.pf (aR n),.pf (aD r),I no,.pf (bc e)]]),(7,I (length (map fG l):Int)),(8,I (i0:Int))]
def vk (n:Net) (r:cm) (_:Int) (e:Edge) (l:List (Int×Int)) (i0:Nat):List Ob:=[]
def kN (n:Net) (r:cm) (no:Int) (e:Edge) (l:List (Int×Int)) (i0:Nat):Bool:=(r88 n r no e (ah l i0))
def tf (n:Net) (r:cm) (no:Int) (e:Edge) (l:List (Int×Int)):Bool:=dh (length l) (kN n r no e l)
def th (n:Net) (r:cm) (_:Int) (e:Edge) (l:List (Int×Int)) (i0:Nat):Am.Loc:=[(4,I (i0:Int))]
def GY (n:Net) (r:cm) (_:Int) (e:Edge) (l:List (Int×Int)) (i0:Nat):List Ob:=[]
def mB (n:Net) (r:cm) (_:Int) (e:Edge) (l:List (Int×Int)):Am.Loc:=[]
def tj (n:Net) (r:cm) (_:Int) (e:Edge) (l:List (Int×Int)):List Ob:=[]
def yD (n:Net) (r:cm) (no:Int) (e:Edge) (l:List (Int×Int)):KB:=⟨om n r no e l 0,vk n r no e l 0,tf n r no e l,.ret,th n r no e l (cc (length l) (kN n r no e l)),GY n r no e l (cc (length l) (kN n r no e l)),.normal,mB n r no e l,tj n r no e l,True⟩
def vl (n:Net) (r:cm) (no:Int) (e:Edge) (l:List (Int×Int)) (i0:Nat):List bj:=[htW (kN n r no e l i0) .ret (th n r no e l i0) za (GY n r no e l i0),nxW (kN n r no e l i0) (om n r no e l (i0+1)) (vk n r no e l (i0+1)) (om n r no e l (i0+1)) za (vk n r no e l (i0+1))]
def Sm (n:Net) (r:cm) (_:Int) (e:Edge) (l:List (Int×Int)) (i0:Nat):GT:=(.r [.k,bT] (.yes (.r [bT] (.r [.row (fG (ah l i0)),.int 0,bT] (.br (.r [bT] (.pick 0)) (.r [.int ↑(i0+1),bT] (.pick 1)))))))
theorem V9 (n:Net) (r:cm) (no:Int) (e:Edge) (l:List (Int×Int)) (i0:Nat) (ls:length l<=9223372036854775807) (hx0:i0<(length l)):vcC pg 19 (bC [i88 n r no e (ah l i0)] base) aO 3000 (kbL []) BQ (bu (om n r no e l i0)) (bA (vk n r no e l i0)) 0 (bQ (vl n r no e l i0)) (Sm n r no e l i0):=
 have l1:=aW fG (l);have hb:(decide ((i0:Int)<(length (map fG l):Int)))=true:=decide_eq_true (by omega);
 aZ (an (a1 a0)
 (an hb (an a0
 (an (cAk (g88 n r no e (ah l i0)) trivial [.ag (fG (ah l i0))] [.pf [.pf (aR n),.pf (aD r),I no,.pf (bc e)]] (by simp [ae,AV.pure]) (by simp [ae,AV.pure]) (ac (bR fG (l:=l) (i:=i0) (by omega)) a0))
 (brP (fun (h1:(r88 n r no e (ah l i0))=true)=>
 (an a0
 (lf (wy (vl n r no e l i0) 0) 0 (show kN n r no e l i0=true from h1)))) (fun h1=>
 (an (ac (dwr (z:= ↑(i0+1)) (by omega) (by omega)) a0)
 (lf (wy (vl n r no e l i0) 1) 0 ⟨(show kN n r no e l i0=false from h1),rfl,rfl⟩))))))))
 (by kernel_rfl)
theorem Wa (n:Net) (r:cm) (no:Int) (e:Edge) (l:List (Int×Int)) (_:length l<=9223372036854775807):vcC pg 19 base aO 3000 (kbL []) BQ (bu (om n r no e l (length l))) (bA (vk n r no e l (length l))) 0 (bQ [⟨True,(.exit 0),mB n r no e l,range 0,tj n r no e l⟩]) zE:=
 have l1:=aW fG (l);have hb:(decide ((((length l):Nat):Int)<(length (map fG l):Int)))=false:=decide_eq_false (by omega);
 aZ (an (a1 a0)
 (an hb (lf (wy [⟨True,(.exit 0),mB n r no e l,range 0,tj n r no e l⟩] 0) 0 trivial)))
 (by kernel_rfl)
theorem OX (n:Net) (r:cm) (no:Int) (e:Edge) (l:List (Int×Int)) (i0:Nat):(vl n r no e l i0).all zr=true:=by refine (aF (aQ rfl rfl rfl ?_ rfl) (aF (aQ rfl rfl rfl ?_ rfl) bD))<;>simp (maxDischargeDepth:=9) [nxW,htW,om,th,plS,AV.pure,ae]
theorem OY (n:Net) (r:cm) (no:Int) (e:Edge) (l:List (Int×Int)):bj.b8 0 ⟨True,(.exit 0),mB n r no e l,range 0,tj n r no e l⟩=true:=(aQ rfl rfl rfl rfl rfl)
theorem OZ (n:Net) (r:cm) (no:Int) (e:Edge) (l:List (Int×Int)) (ls:length l<=9223372036854775807):dg pg 19 0 0 (.loop BQ) (yD n r no e l):=
 bZ (fun _=>e9 (id:=0) (m:=length l) (t:=kN n r no e l) (xr:= .ret) (xn:=(.exit 0)) (Lr:=th n r no e l) (Lx:=mB n r no e l) (obr:=GY n r no e l) (obx:=tj n r no e l) (V:=fun i0=>vcC pg 19 (bC [i88 n r no e (ah l i0)] base) aO 3000 (kbL []) BQ) (om n r no e l) (vk n r no e l) 0 (vl n r no e l) (Sm n r no e l) _ _ (fun i0 hx0=>aS (bf (.cons (g88 n r no e (ah l i0)) rfl cv.nil) aw) mixed (az _)) (aS aw mixed (az _)) (fun e=>by cases e) (fun e=>by cases e) (fun _=>rfl) (fun i0 hx0=>V9 n r no e l i0 ls hx0) (fun i0 _=>OX n r no e l i0) (fun i0 _=>show∀ww∈vl n r no e l i0,cy _ _ _ _ _ _ ww from (aG da (aG cg bG))) (Wa n r no e l ls) (OY n r no e l)) (fun h=>h) (fun h=>h)
def Lg (n:Net) (r:cm) (no:Int) (e:Edge) (l:List (Int×Int)):Int:=(bif tf n r no e l then (((cc (length l) (kN n r no e l)):Nat):Int) else (-1))
theorem tk:dB [0] (aH 103)=[(0,.loop BQ)]:=by kernel_rfl
theorem Y6 (n:Net) (r:cm) (no:Int) (e:Edge) (l:List (Int×Int)) (ls:length l<=9223372036854775807):ba pg 103 [.sl 2 (map fG l),.fn (.func 88) [] [.pf [.pf (aR n),.pf (aD r),I no,.pf (bc e)]]] [] [] (I (Lg n r no e l)) []:=
 bB (fn:=Tryz.f103) (callf:=base) (pu:=aO) (lf:=3000) (l:=[(0,yD n r no e l)]) (t:=zh) aw mixed Tryz.func103 (by kernel_rfl) (show Tryz.f103.body=some (aH 103) by kernel_rfl) (Nat.le_of_ble_eq_true rfl) (bO (l:=[(0,yD n r no e l)]) tk (aV (OZ n r no e l ls) rfl bn) rfl) rfl (aZ
 (an a0
 (an a0
 (an (kbT (yD n r no e l) trivial) (brP (fun (h0:(tf n r no e l)=true)=>
 (iE (show Lg n r no e l=(((cc (length l) (kN n r no e l)):Nat):Int) from (cdT h0 rfl)))) (fun h0=>
 (an a0
 (iE (show Lg n r no e l=(-1) from (cdF h0 rfl)))))))))
 (by kernel_rfl))
def i103 (n:Net) (r:cm) (no:Int) (e:Edge) (l:List (Int×Int)):b9:=⟨103,[.sl 2 (l.map fG),.fn (.func 88) [] [.pf [.pf (aR n),.pf (aD r),I no,.pf (bc e)]]],I (Lg n r no e l),l.length<=9223372036854775807⟩
theorem g103 (n:Net) (r:cm) (no:Int) (e:Edge) (l:List (Int×Int)):(i103 n r no e l).cd pg:=fun hp=>⟨Y6 n r no e l hp,by simp [i103,ae,AV.pure],rfl⟩
def r87 (n:Net) (r:cm) (no:Int) (e:Edge) (l:List (Int×Int)):Bool:=decide ((Lg n r no e l)>=0)
theorem Lh (n:Net) (r:cm) (no:Int) (e:Edge) (l:List (Int×Int)) (ls:length l<=9223372036854775807):ba pg 87 [.sl 2 (map fG l),.fn (.func 88) [] [.pf [.pf (aR n),.pf (aD r),I no,.pf (bc e)]]] [] [] (B (r87 n r no e l)) []:=
 bB (fn:=Tryz.f87) (callf:=(bC [i103 n r no e l] base)) (pu:=aO) (lf:=3000) (l:=[]) (t:=zBG) (bf (.cons (g103 n r no e l) rfl cv.nil) aw) mixed Tryz.func87 (by kernel_rfl) (show Tryz.f87.body=some (aH 87) by kernel_rfl) (Nat.le_of_ble_eq_true rfl) (az _) rfl (aZ
 (an a0
 (an (a1 (cA (g103 n r no e l) ls a0))
 (bE (show r87 n r no e l=(decide ((Lg n r no e l)>=0)) from rfl))))
 (by kernel_rfl))
theorem Y7 (n:Net) (r:cm) (no:Int) (e:Edge) (l:List (Int×Int)):r87 n r no e l=l.any fun a=> !(r89 n a):=by
 have h2:tf n r no e l=l.any fun a=> !(r89 n a):=jx (fun a=> !(r89 n a)) l
 unfold r87 Lg
 rw [h2]
 cases l.any fun a=> !(r89 n a) with
 |false=>rfl
 |true=>simp only [cond_true,decide_eq_true_eq];omega
def i87 (n:Net) (r:cm) (no:Int) (e:Edge) (l:List (Int×Int)):b9:=⟨87,[.sl 2 (l.map fG),.fn (.func 88) [] [.pf [.pf (aR n),.pf (aD r),I no,.pf (bc e)]]],B (l.any fun a=> !(r89 n a)),l.length<=9223372036854775807⟩
theorem g87 (n:Net) (r:cm) (no:Int) (e:Edge) (l:List (Int×Int)):(i87 n r no e l).cd pg:=fun hp=>⟨by have:=Lh n r no e l hp;rw [Y7] at this;exact this,by simp [i87,ae,AV.pure],rfl⟩
def r86 (n:Net) (r:cm) (_:Int) (e:Edge):Bool:=(r.bP&&((!r.eK)&&((e.n==0)&&((e.level==0)&& !(e.en.any fun a=> !(r89 n a))))))
theorem Y8 (n:Net) (r:cm) (no:Int) (e:Edge) (ha:length e.en<=9223372036854775807):ba pg 86 [.ag [.pf (aR n),.pf (aD r),I no,.pf (bc e)]] [] [] (B (r86 n r no e)) []:=
 bB (fn:=Tryz.f86) (callf:=(bC [i87 n r no e e.en] base)) (pu:=aO) (lf:=3000) (l:=[]) (t:=(.r [bT] (.a (.a (.a (.a (.r (uTT 12 (.k::uTT 6 (.k::uTT 7 [.int 0,bT,bT]))) .nil) (.r (uTT 12 (.k::uTT 6 (.k::uFF 8 [bT]))) .nil)) (.r (uTT 12 (.k::uFF 14 [bT])) .nil)) (.r (uTT 6 (uFF 20 [bT])) .nil)) (.r (uFF 26 [bT]) .nil)))) (bf (.cons (g87 n r no e e.en) rfl cv.nil) aw) mixed Tryz.func86 (by kernel_rfl) (show Tryz.f86.body=some (aH 86) by kernel_rfl) (Nat.le_of_ble_eq_true rfl) (az _) rfl (aZ
 (an a0
 (aP (fun (h0:(r.bP)=true)=>have q0:=(aE h0 rfl:r86 n r no e=_);
 (aP (fun (h1:(!r.eK)=true)=>have q1:=q0.trans (aE h1 rfl);
 (aP (fun (h2:(e.n==0)=true)=>
 (aP (fun (h3:(e.level==0)=true)=>
 (an (a1 (cA (g87 n r no e e.en) ha (aN 6 (ac h3 (aN 6 (ac h2 (aN 6 (ac h1 (aN 5 (ac h0 a0))))))))))
 (bE (show r86 n r no e=(!(e.en.any fun a=> !(r89 n a))) from (aE h0 (aE h1 (aE h2 (aE h3 rfl)))))))) (fun h3=>
 (an (aN 7 (ac (au h3) (aN 6 (ac h2 (aN 6 (ac h1 (aN 5 (ac h0 a0))))))))
 (bE (q1.trans (aE h2 (aY h3)))))))) (fun h2=>
 (an (aN 13 (ac (au h2) (aN 6 (ac h1 (aN 5 (ac h0 a0))))))
 (bE (q1.trans (aY h2))))))) (fun h1=>
 (an (aN 19 (ac (au h1) (aN 5 (ac h0 a0))))
 (bE (q0.trans (aY h1))))))) (fun h0=>
 (an (aN 25 (ac (au h0) a0))
 (bE (show r86 n r no e=false from (aY h0)))))))
 (by kernel_rfl))
def i77 (n:Net) (r:cm) (no:Int) (e:Edge):b9:=⟨77,[.ag [.pf (aR n),.pf (aD r),I no,.pf (bc e)]],B (r77 n r no e),True⟩
theorem g77 (n:Net) (r:cm) (no:Int) (e:Edge):(i77 n r no e).cd pg:=fun hp=>⟨YZ n r no e,by simp [i77,ae,AV.pure],rfl⟩
def i78 (n:Net) (r:cm) (no:Int) (e:Edge):b9:=⟨78,[.ag [.pf (aR n),.pf (aD r),I no,.pf (bc e)]],B (r78 n r no e),(length n.types<=9223372036854775807)/\(0<length e.set)/\(length e.set<=9223372036854775807)⟩
theorem g78 (n:Net) (r:cm) (no:Int) (e:Edge):(i78 n r no e).cd pg:=fun hp=>⟨Y4 n r no e hp.1 hp.2.1 hp.2.2,by simp [i78,ae,AV.pure],rfl⟩
def i79 (n:Net) (r:cm) (no:Int) (e:Edge):b9:=⟨79,[.ag [.pf (aR n),.pf (aD r),I no,.pf (bc e)]],B (r79 n r no e),(length n.rules<=9223372036854775807)⟩
theorem g79 (n:Net) (r:cm) (no:Int) (e:Edge):(i79 n r no e).cd pg:=fun hp=>⟨Y0 n r no e hp,by simp [i79,ae,AV.pure],rfl⟩
def i80 (n:Net) (r:cm) (no:Int) (e:Edge):b9:=⟨80,[.ag [.pf (aR n),.pf (aD r),I no,.pf (bc e)]],B (r80 n r no e),(DH e)⟩
theorem g80 (n:Net) (r:cm) (no:Int) (e:Edge):(i80 n r no e).cd pg:=fun hp=>⟨Y5 n r no e hp,by simp [i80,ae,AV.pure],rfl⟩
def i83 (n:Net) (r:cm) (no:Int) (e:Edge):b9:=⟨83,[.ag [.pf (aR n),.pf (aD r),I no,.pf (bc e)]],B (r83 n r no e),True⟩
theorem g83 (n:Net) (r:cm) (no:Int) (e:Edge):(i83 n r no e).cd pg:=fun hp=>⟨Y1 n r no e,by simp [i83,ae,AV.pure],rfl⟩
def i84 (n:Net) (r:cm) (no:Int) (e:Edge):b9:=⟨84,[.ag [.pf (aR n),.pf (aD r),I no,.pf (bc e)]],B (r84 n r no e),True⟩
theorem g84 (n:Net) (r:cm) (no:Int) (e:Edge):(i84 n r no e).cd pg:=fun hp=>⟨Y2 n r no e,by simp [i84,ae,AV.pure],rfl⟩
def i85 (n:Net) (r:cm) (no:Int) (e:Edge):b9:=⟨85,[.ag [.pf (aR n),.pf (aD r),I no,.pf (bc e)]],B (r85 n r no e),True⟩
theorem g85 (n:Net) (r:cm) (no:Int) (e:Edge):(i85 n r no e).cd pg:=fun hp=>⟨Y3 n r no e,by simp [i85,ae,AV.pure],rfl⟩
def i86 (n:Net) (r:cm) (no:Int) (e:Edge):b9:=⟨86,[.ag [.pf (aR n),.pf (aD r),I no,.pf (bc e)]],B (r86 n r no e),(length e.en<=9223372036854775807)⟩
theorem g86 (n:Net) (r:cm) (no:Int) (e:Edge):(i86 n r no e).cd pg:=fun hp=>⟨Y8 n r no e hp,by simp [i86,ae,AV.pure],rfl⟩
def r63:AV:= .ag [.fn (.func 77) [] [],.fn (.func 78) [] [],.fn (.func 79) [] [],.fn (.func 80) [] [],.fn (.func 83) [] [],.fn (.func 84) [] [],.fn (.func 85) [] [],.fn (.func 86) [] []]
theorem Wb:ba pg 63 [] [] [] (r63) []:=
 bB (fn:=Tryz.f63) (callf:=base) (pu:=aO) (lf:=3000) (l:=[]) (t:=(.r [bT] zD)) aw mixed Tryz.func63 (by kernel_rfl) (show Tryz.f63.body=some (aH 63) by kernel_rfl) (Nat.le_of_ble_eq_true rfl) (az _) rfl (aZ
 (an a0
 (an a0
 (vE (show r63=(.ag [.fn (.func 77) [] [],.fn (.func 78) [] [],.fn (.func 79) [] [],.fn (.func 80) [] [],.fn (.func 83) [] [],.fn (.func 84) [] [],.fn (.func 85) [] [],.fn (.func 86) [] []]) from rfl))))
 (by kernel_rfl))
def i63:b9:=⟨63,[],.ag [.fn (.func 77) [] [],.fn (.func 78) [] [],.fn (.func 79) [] [],.fn (.func 80) [] [],.fn (.func 83) [] [],.fn (.func 84) [] [],.fn (.func 85) [] [],.fn (.func 86) [] []],True⟩
theorem g63:i63.cd pg:=fun _=>⟨Wb,rfl,rfl⟩
def BR:Code:=bV 0 (aH 28)
def BS:Code:=bV 2 BR
def GZ (n:Net) (i0 i2:Nat) (y2:List Int):List Int:=(bif dec ((ah (ah n.aa i0).aj i2).n∈y2) then y2 else y2++ [(ah (ah n.aa i0).aj i2).n])
def cN (n:Net) (i0 kk:Nat):List Int:=Nat.rec (motive:=fun _=>List Int) ([]) (fun j a=>GZ n i0 j a) kk
def Sn:Code:=MP 4 BS
def dW (n:Net) (i0 i2:Nat):Bool:=((!(r62 n (ah (ah n.aa i0).aj i2).to (ah n.aa i0).aK))||(((r64 (ah (ah n.aa i0).aj i2).set) !=0)||((decide ((ah (ah n.aa i0).aj i2).op<0))||((decide ((IntKind.wrap IntKind.i64 (ah (ah n.aa i0).aj i2).op)>=8))||((!(((ah (ah n.aa i0).aj i2).op==1)==(decide ((length (map bo (ah (ah n.aa i0).aj i2).set):Int)>0))))||((!(((ah (ah n.aa i0).aj i2).op==7)==(decide ((length (map fG (ah (ah n.aa i0).aj i2).en):Int)>0))))||((!(((ah (ah n.aa i0).aj i2).op==4)==((i0:Int)==(aB n.rules (ah n.aa i0).aK).start)))||(bif (ah (ah n.aa i0).aj i2).op !=3 then (((G.op (ah (ah n.aa i0).aj i2).g) !=0)||(((G.n (ah (ah n.aa i0).aj i2).g) !=0)||((!(cP (Array.toList (ByteArray.data (G.name (ah (ah n.aa i0).aj i2).g))) []))||((decide ((length (map gC (G.kids (ah (ah n.aa i0).aj i2).g)):Int)>0))||(bif (ah (ah n.aa i0).aj i2).op==0 then (!(r77 n (aB n.rules (ah n.aa i0).aK) (ah n.aa i0).aK (ah (ah n.aa i0).aj i2))) else (bif (ah (ah n.aa i0).aj i2).op==1 then (!(r78 n (aB n.rules (ah n.aa i0).aK) (ah n.aa i0).aK (ah (ah n.aa i0).aj i2))) else (bif (ah (ah n.aa i0).aj i2).op==2 then (!(r79 n (aB n.rules (ah n.aa i0).aK) (ah n.aa i0).aK (ah (ah n.aa i0).aj i2))) else (bif (ah (ah n.aa i0).aj i2).op==4 then ((!(r83 n (aB n.rules (ah n.aa i0).aK) (ah n.aa i0).aK (ah (ah n.aa i0).aj i2)))||(dec ((ah (ah n.aa i0).aj i2).n∈(cN n i0 i2)))) else (bif (ah (ah n.aa i0).aj i2).op==5 then (!(r84 n (aB n.rules (ah n.aa i0).aK) (ah n.aa i0).aK (ah (ah n.aa i0).aj i2))) else (bif (ah (ah n.aa i0).aj i2).op==6 then (!(r85 n (aB n.rules (ah n.aa i0).aK) (ah n.aa i0).aK (ah (ah n.aa i0).aj i2))) else (!(r86 n (aB n.rules (ah n.aa i0).aK) (ah n.aa i0).aK (ah (ah n.aa i0).aj i2))))))))))))) else (!(r80 n (aB n.rules (ah n.aa i0).aK) (ah n.aa i0).aK (ah (ah n.aa i0).aj i2)))))))))))
abbrev zA (n:Net):=(map ak n.aa)
abbrev zd (i0:Nat) (n:Net):=(map bc (zC i0 n))
abbrev zBN (i0:Nat) (n:Net):=(aB n.rules (zg i0 n))
abbrev zAK (i0 i2:Nat) (n:Net):Am.Loc:=[(0,.pf (aR n)),(3,.pt 0 0),(4,I (i0:Int)),(5,.pt 1 0),(6,.pf (aD (zBN i0 n))),(7,.mp 2),(9,.pf (bc (zAF i0 i2 n))),(14,.sl 2 (zA n)),(15,I (length (zA n):Int)),(16,I (i0:Int)),(56,I (length (zd i0 n):Int)),(57,I (i2:Int))]
def XB (n:Net) (i0 i2:Nat):Am.Loc:=(zAK i0 i2 n)
abbrev zu (i0 i2:Nat) (n:Net):List Ob:=[.box 106 [.fn (.func 77) [] [],.fn (.func 78) [] [],.fn (.func 79) [] [],.fn (.func 80) [] [],.fn (.func 83) [] [],.fn (.func 84) [] [],.fn (.func 85) [] [],.fn (.func 86) [] []],.box 40 (zI i0 n),cq (cN n i0 i2)]
def XC (n:Net) (i0 i2:Nat):List Ob:=(zu i0 i2 n)
def Lj (n:Net) (i0 _:Nat):Am.Loc:=[(2,B false)]
def So (n:Net) (i0 _:Nat):List Ob:=[]
def Lk (n:Net) (i0 i2:Nat):Am.Loc:=(zAK i0 i2 n)
def Ll (n:Net) (i0 i2:Nat):List Ob:=(zu i0 i2 n)
def BT (n:Net) (i0 i2:Nat):KB:=⟨XB n i0 i2,XC n i0 i2,dW n i0 i2,.ret,Lj n i0 i2,So n i0 i2,.normal,Lk n i0 i2,Ll n i0 i2,True⟩
def eL (n:Net) (i0 i2:Nat):List bj:=[(⟨dW n i0 i2=true,.ret,Lj n i0 i2,range 0,So n i0 i2⟩:bj),(⟨dW n i0 i2=false,.normal,Lk n i0 i2,range 3,Ll n i0 i2⟩:bj)]
abbrev zv:GT:=(.r [bT] (.pick 0))
theorem Y9 (n:Net) (i0 i2:Nat) (hf:bg n) (hx0:i0<(length n.aa)) (hx2:i2<(length (ah n.aa i0).aj)):vcC pg 201 (bC [i62 n (zAF i0 i2 n).to (zg i0 n),i64 (zAF i0 i2 n).set,i77 n (zBN i0 n) (zg i0 n) (zAF i0 i2 n),i78 n (zBN i0 n) (zg i0 n) (zAF i0 i2 n),i79 n (zBN i0 n) (zg i0 n) (zAF i0 i2 n),i83 n (zBN i0 n) (zg i0 n) (zAF i0 i2 n),i84 n (zBN i0 n) (zg i0 n) (zAF i0 i2 n),i85 n (zBN i0 n) (zg i0 n) (zAF i0 i2 n),i86 n (zBN i0 n) (zg i0 n) (zAF i0 i2 n),i80 n (zBN i0 n) (zg i0 n) (zAF i0 i2 n)] base) aO 3000 (kbL []) (.block 4 Sn) (bu (XB n i0 i2)) (bA (XC n i0 i2)) 3 (bQ (eL n i0 i2)) (.r [.int 0,bT] (.br zv (.r [.int 1,.k,bT] (.br zv (.a (.r zf zv) (.r (.k::uTT 6 [.k,bT]) (.br zv (.r zBk (.br zv (.r zBk (.br zv (.r zBk (.br zv (.a (.a (.r (.k::uTT 6 (.k::bT::uFF 6 (bT::bT::uFF 6 (bT::bT::uFF 7 [bT,bT])))) zv) (.a (.r (.k::uTT 6 (.k::uTT 7 (.k::bT::bT::uFF 6 (bT::bT::uFF 7 [bT,bT])))) zv) (.a (.r (.k::uTT 6 (.k::uTT 7 (.k::uTT 8 (.k::bT::bT::uFF 7 [bT,bT])))) zv) (.r (.k::uTT 6 (.k::uTT 7 (.k::uTT 8 (.k::uTT 9 [.k,bT,bT])))) (.br zv (.a (.r [.cC 0 [],.int 2,bT] (.br zv (.r zf (.pick 1)))) (.a (.r [.cC 1 [],.int 3,bT] (.br zv (.r zf (.pick 1)))) (.a (.r [.cC 2 [],.int 4,bT] (.br zv (.r zf (.pick 1)))) (.a (.r [.cC 4 [],.int 5,bT] (.br zv (.r (.k::uTT 6 [.key (js (cN n i0 i2) (zAF i0 i2 n).n) (B (dec ((zAF i0 i2 n).n∈(cN n i0 i2)))),bT]) (.br zv (.pick 1))))) (.a (.r [.cC 5 [],.int 6,bT] (.br zv (.r zf (.pick 1)))) (.a (.r [.cC 6 [],.int 7,bT] (.br zv (.r zf (.pick 1)))) (.r [.cC 7 [],.int 8,bT] (.br zv (.r zf (.pick 1))))))))))))))) (.r (.k::uFF 31 [bT]) (.r [.cC 3 [],.int 9,bT] (.br zv (.r zf (.pick 1))))))))))))))))))):=
 have hr:=hf.rules;have hs:=hf.aa;have he:DH (ah (ah n.aa i0).aj i2):=hf.OT _ (ay hx0) _ (ay hx2);have ho:=he.op;have hw:IntKind.wrap IntKind.i64 (ah (ah n.aa i0).aj i2).op=Edge.op (ah (ah n.aa i0).aj i2):=wrap_i64 (by omega) (by omega);aZ (an (cA (g62 n (ah (ah n.aa i0).aj i2).to (ah n.aa i0).aK) trivial a0)
 (brP (fun (h0:(!(r62 n (ah (ah n.aa i0).aj i2).to (ah n.aa i0).aK))=true)=>
 (an a0
 (lf (wy (eL n i0 i2) 0) 3 (show dW n i0 i2=true from (orT h0))))) (fun h0=>have q0:=(orF h0 rfl:dW n i0 i2=_);have g0:=sN (GK h0);
 (an (a1 (cA (g64 (ah (ah n.aa i0).aj i2).set) he.set a0))
 (brP (fun (h1:((r64 (ah (ah n.aa i0).aj i2).set) !=0)=true)=>
 (an a0
 (lf (wy (eL n i0 i2) 0) 3 (q0.trans (orT h1))))) (fun h1=>have q1:=q0.trans (orF h1 rfl);have g1:=fO h1;
 (aP (fun (h2:(decide ((ah (ah n.aa i0).aj i2).op<0))=true)=>
 (an (aN 5 (ac (n2 h2) (a1 a0)))
 (an a0
 (lf (wy (eL n i0 i2) 0) 3 (q1.trans (orT h2)))))) (fun h2=>have q2:=q1.trans (orF h2 rfl);have g2:=of_decide_eq_false h2;
 (an (aN 6 (ac (au h2) (a1 a0)))
 (brP (fun (h3:(decide ((IntKind.wrap IntKind.i64 (ah (ah n.aa i0).aj i2).op)>=8))=true)=>
 (an a0
 (lf (wy (eL n i0 i2) 0) 3 (q2.trans (orT h3))))) (fun h3=>have q3:=q2.trans (orF h3 rfl);have g3:=of_decide_eq_false h3;
 (an (aN 3 a0)
 (brP (fun (h4:(!(((ah (ah n.aa i0).aj i2).op==1)==(decide ((length (map bo (ah (ah n.aa i0).aj i2).set):Int)>0))))=true)=>
 (an a0
 (lf (wy (eL n i0 i2) 0) 3 (q3.trans (orT h4))))) (fun h4=>have q4:=q3.trans (orF h4 rfl);have l1:=aW bo ((ah (ah n.aa i0).aj i2).set);have g4:=Je h4;have g4:=Je h4;
 (an (aN 3 a0)
 (brP (fun (h5:(!(((ah (ah n.aa i0).aj i2).op==7)==(decide ((length (map fG (ah (ah n.aa i0).aj i2).en):Int)>0))))=true)=>
 (an a0
 (lf (wy (eL n i0 i2) 0) 3 (q4.trans (orT h5))))) (fun h5=>have q5:=q4.trans (orF h5 rfl);have l2:=aW fG ((ah (ah n.aa i0).aj i2).en);have g5:=Je h5;have g5:=Je h5;
 (an (aN 3 a0)
 (brP (fun (h6:(!(((ah (ah n.aa i0).aj i2).op==4)==((i0:Int)==(aB n.rules (ah n.aa i0).aK).start)))=true)=>
 (an a0
 (lf (wy (eL n i0 i2) 0) 3 (q5.trans (orT h6))))) (fun h6=>have q6:=q5.trans (orF h6 rfl);
 (aP (fun (h7:((ah (ah n.aa i0).aj i2).op !=3)=true)=>have q7:=q6.trans (cdT h7 rfl);have g7:=KS h7;
 (aP (fun (h8:((G.op (ah (ah n.aa i0).aj i2).g) !=0)=true)=>
 (an (aN 23 (ac (n2 h8) (aN 7 (ac h7 (a1 a0)))))
 (an a0
 (lf (wy (eL n i0 i2) 0) 3 (q7.trans (orT h8)))))) (fun h8=>have q9:=q7.trans (orF h8 rfl);have g8:=fO h8;
 (aP (fun (h9:((G.n (ah (ah n.aa i0).aj i2).g) !=0)=true)=>
 (an (aN 15 (ac (n2 h9) (aN 8 (ac (au h8) (aN 7 (ac h7 (a1 a0)))))))
 (an a0
 (lf (wy (eL n i0 i2) 0) 3 (q9.trans (orT h9)))))) (fun h9=>have q10:=q9.trans (orF h9 rfl);have g9:=fO h9;
 (aP (fun (h10:(!(cP (Array.toList (ByteArray.data (G.name (ah (ah n.aa i0).aj i2).g))) []))=true)=>
 (an (aN 7 (ac (n2 h10) (aN 8 (ac (au h9) (aN 8 (ac (au h8) (aN 7 (ac h7 (a1 a0)))))))))
 (an a0
 (lf (wy (eL n i0 i2) 0) 3 (q10.trans (orT h10)))))) (fun h10=>have q11:=q10.trans (orF h10 rfl);
 (an (aN 8 (ac (au h10) (aN 8 (ac (au h9) (aN 8 (ac (au h8) (aN 7 (ac h7 (a1 a0)))))))))
 (brP (fun (h11:(decide ((length (map gC (G.kids (ah (ah n.aa i0).aj i2).g)):Int)>0))=true)=>
 (an a0
 (lf (wy (eL n i0 i2) 0) 3 (q11.trans (orT h11))))) (fun h11=>have q12:=q11.trans (orF h11 rfl);have l3:=aW gC ((G.kids (ah (ah n.aa i0).aj i2).g));have g11:=of_decide_eq_false h11;
 (aP (fun (h12:((ah (ah n.aa i0).aj i2).op==0)=true)=>have q13:=q12.trans (cdT h12 rfl);have g12:=eq_of_beq h12;
 (an (cA (g77 n (aB n.rules (ah n.aa i0).aK) (ah n.aa i0).aK (ah (ah n.aa i0).aj i2)) trivial (ac (rzA (y:=(ah (ah n.aa i0).aj i2).op) (z:=0) (len:=8) (by omega) rfl) a0))
 (brP (fun (h13:(!(r77 n (aB n.rules (ah n.aa i0).aK) (ah n.aa i0).aK (ah (ah n.aa i0).aj i2)))=true)=>
 (an a0
 (lf (wy (eL n i0 i2) 0) 3 (q13.trans h13)))) (fun h13=>
 (an (aN 5 (ac (au (show ((ah (ah n.aa i0).aj i2).op==4)=false by rw [eq_of_beq h12];rfl)) (a1 a0)))
 (lf (wy (eL n i0 i2) 1) 3 (q13.trans h13))))))) (fun h12=>have q14:=q12.trans (cdF h12 rfl);have g12:=ne_of_beq_false h12;
 (aP (fun (h13:((ah (ah n.aa i0).aj i2).op==1)=true)=>have q15:=q14.trans (cdT h13 rfl);have g13:=eq_of_beq h13;
 (an (cA (g78 n (aB n.rules (ah n.aa i0).aK) (ah n.aa i0).aK (ah (ah n.aa i0).aj i2)) ⟨hf.types,(show 0<length (ah (ah n.aa i0).aj i2).set by omega),he.set⟩ (ac (rzA (y:=(ah (ah n.aa i0).aj i2).op) (z:=1) (len:=8) (by omega) rfl) a0))
 (brP (fun (h14:(!(r78 n (aB n.rules (ah n.aa i0).aK) (ah n.aa i0).aK (ah (ah n.aa i0).aj i2)))=true)=>
 (an a0
 (lf (wy (eL n i0 i2) 0) 3 (q15.trans h14)))) (fun h14=>
 (an (aN 5 (ac (au (show ((ah (ah n.aa i0).aj i2).op==4)=false by rw [eq_of_beq h13];rfl)) (a1 a0)))
 (lf (wy (eL n i0 i2) 1) 3 (q15.trans h14))))))) (fun h13=>have q16:=q14.trans (cdF h13 rfl);have g13:=ne_of_beq_false h13;
 (aP (fun (h14:((ah (ah n.aa i0).aj i2).op==2)=true)=>have q17:=q16.trans (cdT h14 rfl);have g14:=eq_of_beq h14;
 (an (cA (g79 n (aB n.rules (ah n.aa i0).aK) (ah n.aa i0).aK (ah (ah n.aa i0).aj i2)) (show length n.rules<=9223372036854775807 by omega) (ac (rzA (y:=(ah (ah n.aa i0).aj i2).op) (z:=2) (len:=8) (by omega) rfl) a0))
 (brP (fun (h15:(!(r79 n (aB n.rules (ah n.aa i0).aK) (ah n.aa i0).aK (ah (ah n.aa i0).aj i2)))=true)=>
 (an a0
 (lf (wy (eL n i0 i2) 0) 3 (q17.trans h15)))) (fun h15=>
 (an (aN 5 (ac (au (show ((ah (ah n.aa i0).aj i2).op==4)=false by rw [eq_of_beq h14];rfl)) (a1 a0)))
 (lf (wy (eL n i0 i2) 1) 3 (q17.trans h15))))))) (fun h14=>have q18:=q16.trans (cdF h14 rfl);have g14:=ne_of_beq_false h14;
 (aP (fun (h15:((ah (ah n.aa i0).aj i2).op==4)=true)=>have q19:=q18.trans (cdT h15 rfl);have g15:=eq_of_beq h15;
 (an (cA (g83 n (aB n.rules (ah n.aa i0).aK) (ah n.aa i0).aK (ah (ah n.aa i0).aj i2)) trivial (ac (rzA (y:=(ah (ah n.aa i0).aj i2).op) (z:=4) (len:=8) (by omega) rfl) a0))
 (brP (fun (h16:(!(r83 n (aB n.rules (ah n.aa i0).aK) (ah n.aa i0).aK (ah (ah n.aa i0).aj i2)))=true)=>
 (an a0
 (lf (wy (eL n i0 i2) 0) 3 (q19.trans (orT h16))))) (fun h16=>have q21:=q19.trans (orF h16 rfl);
 (an (ac (lkI (ah (ah n.aa i0).aj i2).n (cN n i0 i2)) (aN 5 (ac h15 (a1 a0))))
 (brP (fun (h17:(dec ((ah (ah n.aa i0).aj i2).n∈(cN n i0 i2)))=true)=>
 (an a0
 (lf (wy (eL n i0 i2) 0) 3 (q21.trans h17)))) (fun h17=>
 (lf (wy (eL n i0 i2) 1) 3 (q21.trans h17))))))))) (fun h15=>have q20:=q18.trans (cdF h15 rfl);have g15:=ne_of_beq_false h15;
 (aP (fun (h16:((ah (ah n.aa i0).aj i2).op==5)=true)=>have q22:=q20.trans (cdT h16 rfl);have g16:=eq_of_beq h16;
 (an (cA (g84 n (aB n.rules (ah n.aa i0).aK) (ah n.aa i0).aK (ah (ah n.aa i0).aj i2)) trivial (ac (rzA (y:=(ah (ah n.aa i0).aj i2).op) (z:=5) (len:=8) (by omega) rfl) a0))
 (brP (fun (h17:(!(r84 n (aB n.rules (ah n.aa i0).aK) (ah n.aa i0).aK (ah (ah n.aa i0).aj i2)))=true)=>
 (an a0
 (lf (wy (eL n i0 i2) 0) 3 (q22.trans h17)))) (fun h17=>
 (an (aN 5 (ac (au h15) (a1 a0)))
 (lf (wy (eL n i0 i2) 1) 3 (q22.trans h17))))))) (fun h16=>have q23:=q20.trans (cdF h16 rfl);have g16:=ne_of_beq_false h16;
 (aP (fun (h17:((ah (ah n.aa i0).aj i2).op==6)=true)=>have q24:=q23.trans (cdT h17 rfl);have g17:=eq_of_beq h17;
 (an (cA (g85 n (aB n.rules (ah n.aa i0).aK) (ah n.aa i0).aK (ah (ah n.aa i0).aj i2)) trivial (ac (rzA (y:=(ah (ah n.aa i0).aj i2).op) (z:=6) (len:=8) (by omega) rfl) a0))
 (brP (fun (h18:(!(r85 n (aB n.rules (ah n.aa i0).aK) (ah n.aa i0).aK (ah (ah n.aa i0).aj i2)))=true)=>
 (an a0
 (lf (wy (eL n i0 i2) 0) 3 (q24.trans h18)))) (fun h18=>
 (an (aN 5 (ac (au h15) (a1 a0)))
 (lf (wy (eL n i0 i2) 1) 3 (q24.trans h18))))))) (fun h17=>have q25:=q23.trans (cdF h17 rfl);have g17:=ne_of_beq_false h17;
 (an (cA (g86 n (aB n.rules (ah n.aa i0).aK) (ah n.aa i0).aK (ah (ah n.aa i0).aj i2)) he.en (ac (rzA (y:=(ah (ah n.aa i0).aj i2).op) (z:=7) (len:=8) (by omega) rfl) a0))
 (brP (fun (h18:(!(r86 n (aB n.rules (ah n.aa i0).aK) (ah n.aa i0).aK (ah (ah n.aa i0).aj i2)))=true)=>
 (an a0
 (lf (wy (eL n i0 i2) 0) 3 (q25.trans h18)))) (fun h18=>
 (an (aN 5 (ac (au h15) (a1 a0)))
 (lf (wy (eL n i0 i2) 1) 3 (q25.trans h18)))))))))))))))))))))))))))) (fun h7=>have q8:=q6.trans (cdF h7 rfl);have g7:=fO h7;
 (an (aN 30 (ac (au h7) (a1 a0)))
 (an (cA (g80 n (aB n.rules (ah n.aa i0).aK) (ah n.aa i0).aK (ah (ah n.aa i0).aj i2)) he (ac (rzA (y:=(ah (ah n.aa i0).aj i2).op) (z:=3) (len:=8) (by omega) rfl) a0))
 (brP (fun (h8:(!(r80 n (aB n.rules (ah n.aa i0).aK) (ah n.aa i0).aK (ah (ah n.aa i0).aj i2)))=true)=>
 (an a0
 (lf (wy (eL n i0 i2) 0) 3 (q8.trans h8)))) (fun h8=>
 (an (aN 5 (ac (au (show ((ah (ah n.aa i0).aj i2).op==4)=false by rw [fO h7];rfl)) (a1 a0)))
 (lf (wy (eL n i0 i2) 1) 3 (q8.trans h8)))))))))))))))))))))))))))))
 (by kernel_rfl)
theorem Sp (n:Net) (i0 i2:Nat) (hf:bg n) (hx0:i0<(length n.aa)) (hx2:i2<(length (ah n.aa i0).aj)):dg pg 201 0 4 Sn (BT n i0 i2):=joinH (aS (bf (.cons (g62 n (ah (ah n.aa i0).aj i2).to (ah n.aa i0).aK) rfl (.cons (g64 (ah (ah n.aa i0).aj i2).set) rfl (.cons (g77 n (aB n.rules (ah n.aa i0).aK) (ah n.aa i0).aK (ah (ah n.aa i0).aj i2)) rfl (.cons (g78 n (aB n.rules (ah n.aa i0).aK) (ah n.aa i0).aK (ah (ah n.aa i0).aj i2)) rfl (.cons (g79 n (aB n.rules (ah n.aa i0).aK) (ah n.aa i0).aK (ah (ah n.aa i0).aj i2)) rfl (.cons (g83 n (aB n.rules (ah n.aa i0).aK) (ah n.aa i0).aK (ah (ah n.aa i0).aj i2)) rfl (.cons (g84 n (aB n.rules (ah n.aa i0).aK) (ah n.aa i0).aK (ah (ah n.aa i0).aj i2)) rfl (.cons (g85 n (aB n.rules (ah n.aa i0).aK) (ah n.aa i0).aK (ah (ah n.aa i0).aj i2)) rfl (.cons (g86 n (aB n.rules (ah n.aa i0).aK) (ah n.aa i0).aK (ah (ah n.aa i0).aj i2)) rfl (.cons (g80 n (aB n.rules (ah n.aa i0).aK) (ah n.aa i0).aK (ah (ah n.aa i0).aj i2)) rfl cv.nil)))))))))) aw) mixed (az _)) (fun _=>Y9 n i0 i2 hf hx0 hx2) (aQ rfl rfl rfl (by simp [Lj,plS,AV.pure]) rfl) (aQ rfl rfl rfl (by simp [Lk,plS,AV.pure]) (by simp [Ll,plS,plO,cq,AV.pure,ae]))
def pX (n:Net) (i0 i2:Nat):Am.Loc:=[(0,.pf (aR n)),(3,.pt 0 0),(4,I (i0:Int)),(5,.pt 1 0),(6,.pf (aD (zBN i0 n))),(7,.mp 2),(14,.sl 2 (zA n)),(15,I (length (zA n):Int)),(16,I (i0:Int)),(56,I (length (zd i0 n):Int)),(57,I (i2:Int))]
def mS (n:Net) (i0 i2:Nat):List Ob:=(zu i0 i2 n)
def pY (n:Net) (i0 i2:Nat):Bool:=(dW n i0 i2)
def iJ (n:Net) (i0:Nat):Bool:=dh (length (ah n.aa i0).aj) (pY n i0)
def qX (n:Net) (i0 _:Nat):Am.Loc:=[(2,B false)]
def qY (n:Net) (i0 _:Nat):List Ob:=[]
abbrev zBm (i0:Nat) (n:Net):Am.Loc:=[(0,.pf (aR n)),(3,.pt 0 0),(14,.sl 2 (zA n)),(15,I (length (zA n):Int)),(16,I (i0:Int))]
def mC (n:Net) (i0:Nat):Am.Loc:=(zBm i0 n)
def mD (n:Net) (i0:Nat):List Ob:=[.box 106 [.fn (.func 77) [] [],.fn (.func 78) [] [],.fn (.func 79) [] [],.fn (.func 80) [] [],.fn (.func 83) [] [],.fn (.func 84) [] [],.fn (.func 85) [] [],.fn (.func 86) [] []],.box 40 (zI i0 n),cq (cN n i0 (zBT i0 n))]
def vm (n:Net) (i0:Nat):KB:=⟨pX n i0 0,mS n i0 0,iJ n i0,.ret,qX n i0 (cc (zBT i0 n) (pY n i0)),qY n i0 (cc (zBT i0 n) (pY n i0)),.normal,mC n i0,mD n i0,True⟩
abbrev zAQ (i0 i2:Nat) (n:Net):Am.Loc:=[(0,.pf (aR n)),(3,.pt 0 0),(4,I (i0:Int)),(5,.pt 1 0),(6,.pf (aD (zBN i0 n))),(7,.mp 2),(14,.sl 2 (zA n)),(15,I (length (zA n):Int)),(16,I (i0:Int)),(56,I (length (zd i0 n):Int)),(57,I ↑(i2+1))]
def BU (n:Net) (i0 i2:Nat):List bj:=[htW (pY n i0 i2) .ret (qX n i0 i2) za (qY n i0 i2),nxW (pY n i0 i2) (pX n i0 (i2+1)) (mS n i0 (i2+1)) (zAQ i0 i2 n) (range 3) [.box 106 [.fn (.func 77) [] [],.fn (.func 78) [] [],.fn (.func 79) [] [],.fn (.func 80) [] [],.fn (.func 83) [] [],.fn (.func 84) [] [],.fn (.func 85) [] [],.fn (.func 86) [] []],.box 40 (zI i0 n),.mp (map (Value.int .i64) (cN n i0 i2)) ((map tru (cN n i0 i2)).set (IL (cN n i0 i2) (zAF i0 i2 n).n) (.v (.bool true)))],nxW (pY n i0 i2) (pX n i0 (i2+1)) (mS n i0 (i2+1)) (zAQ i0 i2 n) (range 3) [.box 106 [.fn (.func 77) [] [],.fn (.func 78) [] [],.fn (.func 79) [] [],.fn (.func 80) [] [],.fn (.func 83) [] [],.fn (.func 84) [] [],.fn (.func 85) [] [],.fn (.func 86) [] []],.box 40 (zI i0 n),.mp (map (Value.int .i64) (cN n i0 i2)++ [.int .i64 (zAF i0 i2 n).n]) (map tru (cN n i0 i2)++ [.v (.bool true)])]]
def XD (n:Net) (i0 i2:Nat):GT:=(.r [.k,bT] (.yes (.r [bT] (.r [.row (bc (ah (ah n.aa i0).aj i2)),bT] (.br (.pick 0) (.a (.r [.key (some (IL (cN n i0 i2) (ah (ah n.aa i0).aj i2).n)) .any,bT] (.r [.int ↑(i2+1),bT] (.pick 1))) (.r [.key none .any,bT] (.r [.int ↑(i2+1),bT] (.pick 2)))))))))
theorem Za (n:Net) (i0 i2:Nat) (hf:bg n) (hx0:i0<(length n.aa)) (hx2:i2<(length (ah n.aa i0).aj)):vcC pg 201 base aO 3000 (kbL [(4,BT n i0 i2)]) BS (bu (pX n i0 i2)) (bA (mS n i0 i2)) 3 (bQ (BU n i0 i2)) (XD n i0 i2):=
 have hr:=hf.rules;have hs:=hf.aa;have he:=hf.aj _ (ay hx0);have l1:=aW bc ((ah n.aa i0).aj);have hb:(zAd i0 i2 n)=true:=decide_eq_true (by omega);
 aZ (an (a1 a0)
 (an hb (an a0
 (an (ac (bR bc (l:=(ah n.aa i0).aj) (i:=i2) (by omega)) a0)
 (an (kbT (BT n i0 i2) trivial) (brP (fun (h1:(dW n i0 i2)=true)=>
 (lf (wy (BU n i0 i2) 0) 0 (show pY n i0 i2=true from h1))) (fun h1=>
 (aP (fun (h2:(dec ((ah (ah n.aa i0).aj i2).n∈(cN n i0 i2)))=true)=>
 (an (ac (odI h2) a0)
 (an (ac (dwr (z:= ↑(i2+1)) (by omega) (by omega)) a0)
 (lf (wy (BU n i0 i2) 1) 3 ⟨(show pY n i0 i2=false from h1),rfl,(by rw [show mS n i0 (i2+1)=(fun y2:List Int=>([.box 106 [.fn (.func 77) [] [],.fn (.func 78) [] [],.fn (.func 79) [] [],.fn (.func 80) [] [],.fn (.func 83) [] [],.fn (.func 84) [] [],.fn (.func 85) [] [],.fn (.func 86) [] []],.box 40 (ak (ah n.aa i0)),cq y2]:List Ob)) (cN n i0 (i2+1)) from rfl,(show cN n i0 (i2+1)=(cN n i0 i2) from (cdT h2 rfl)),(QL (IL (cN n i0 i2) (ah (ah n.aa i0).aj i2).n) (cN n i0 i2))])⟩)))) (fun h2=>
 (an (ac (nwI h2) a0)
 (an (ac (dwr (z:= ↑(i2+1)) (by omega) (by omega)) a0)
 (lf (wy (BU n i0 i2) 2) 3 ⟨(show pY n i0 i2=false from h1),rfl,(by rw [show mS n i0 (i2+1)=(fun y2:List Int=>([.box 106 [.fn (.func 77) [] [],.fn (.func 78) [] [],.fn (.func 79) [] [],.fn (.func 80) [] [],.fn (.func 83) [] [],.fn (.func 84) [] [],.fn (.func 85) [] [],.fn (.func 86) [] []],.box 40 (ak (ah n.aa i0)),cq y2]:List Ob)) (cN n i0 (i2+1)) from rfl,(show cN n i0 (i2+1)=((cN n i0 i2)++ [(ah (ah n.aa i0).aj i2).n]) from (cdF h2 rfl)),(nL (ah (ah n.aa i0).aj i2).n (cN n i0 i2))])⟩))))))))))))
 (by kernel_rfl)
theorem Zb (n:Net) (i0:Nat) (hf:bg n) (_:i0<(length n.aa)):vcC pg 201 base aO 3000 (kbL []) BS (bu (pX n i0 (zBT i0 n))) (bA (mS n i0 (zBT i0 n))) 3 (bQ [⟨True,(.exit 2),mC n i0,range 3,mD n i0⟩]) zE:=
 have hr:=hf.rules;have hs:=hf.aa;have l1:=aW bc ((ah n.aa i0).aj);have hb:(zz i0 n)=false:=decide_eq_false (by omega);
 aZ (an (a1 a0)
 (an hb (lf (wy [⟨True,(.exit 2),mC n i0,range 3,mD n i0⟩] 0) 3 trivial)))
 (by kernel_rfl)
theorem Sq (n:Net) (i0 i2:Nat):(BU n i0 i2).all zr=true:=by refine (aF (aQ rfl rfl rfl ?_ ?_) (aF (aQ rfl rfl rfl ?_ ?_) (aF (aQ rfl rfl rfl ?_ ?_) bD)))<;>simp (maxDischargeDepth:=9) [nxW,htW,pX,qX,plS,AV.pure,ae,mS,qY,plO,cq]
theorem Sr (n:Net) (i0:Nat):bj.b8 0 ⟨True,(.exit 2),mC n i0,range 3,mD n i0⟩=true:=by refine (aQ rfl rfl rfl ?_ ?_)<;>simp (maxDischargeDepth:=9) [mC,plS,AV.pure,ae,mD,plO,cq]
theorem G0:dB [4] BS=[(4,Sn)]:=by kernel_rfl
theorem Ss (n:Net) (i0:Nat) (hf:bg n) (hx0:i0<(length n.aa)):dg pg 201 0 2 (.loop BS) (vm n i0):=
 have hr:=hf.rules;have hs:=hf.aa;bZ (fun _=>e9 (id:=2) (m:=length (ah n.aa i0).aj) (t:=pY n i0) (xr:= .ret) (xn:=(.exit 2)) (Lr:=qX n i0) (Lx:=mC n i0) (obr:=qY n i0) (obx:=mD n i0) (V:=fun i2=>vcC pg 201 base aO 3000 (kbL [(4,BT n i0 i2)]) BS) (pX n i0) (mS n i0) 3 (BU n i0) (XD n i0) _ _ (fun i2 hx2=>aS aw mixed (bO (l:=[(4,BT n i0 i2)]) G0 (aV (Sp n i0 i2 hf hx0 hx2) rfl bn) rfl)) (aS aw mixed (az _)) (fun e=>by cases e) (fun e=>by cases e) (fun _=>rfl) (fun i2 hx2=>Za n i0 i2 hf hx0 hx2) (fun i2 _=>Sq n i0 i2) (fun i2 _=>show∀ww∈BU n i0 i2,cy _ _ _ _ _ _ ww from (aG da (aG cg (aG cg bG)))) (Zb n i0 hf hx0) (Sr n i0)) (fun h=>h) (fun h=>h)
def w9 (n:Net) (i0:Nat):Am.Loc:=(zBm i0 n)
abbrev zAY:List Ob:=[.box 106 [.fn (.func 77) [] [],.fn (.func 78) [] [],.fn (.func 79) [] [],.fn (.func 80) [] [],.fn (.func 83) [] [],.fn (.func 84) [] [],.fn (.func 85) [] [],.fn (.func 86) [] []]]
def tl (n:Net) (i0:Nat):List Ob:=zAY
def mT (n:Net) (i0:Nat):Bool:=((decide ((ah n.aa i0).aK<0))||((decide ((ah n.aa i0).aK>=(length (map aD n.rules):Int)))||(bif (length (map bc (ah n.aa i0).aj):Int)==0 then (((i0:Int) !=(aB n.rules (ah n.aa i0).aK).stop)||(iJ n i0)) else (iJ n i0))))
def yE (n:Net):Bool:=dh (length n.aa) (mT n)
def BV (n:Net) (i0:Nat):Am.Loc:=[(2,B false)]
def vn (n:Net) (i0:Nat):List Ob:=[]
def qZ (n:Net):Am.Loc:=[]
def oq (n:Net):List Ob:=zAY
def G3 (n:Net):KB:=⟨w9 n 0,tl n 0,yE n,.ret,BV n (cc (zG n) (mT n)),vn n (cc (zG n) (mT n)),.normal,qZ n,oq n,True⟩
def ot (n:Net) (i0:Nat):List bj:=[htW (mT n i0) .ret (BV n i0) za (vn n i0),nxW (mT n i0) (w9 n (i0+1)) (tl n (i0+1)) (w9 n (i0+1)) zAU (tl n (i0+1))]
def XE (n:Net) (i0:Nat):GT:=(.r [.k,bT] (.yes (.r [.row (ak (ah n.aa i0)),bT] (.a (.r (.k::uFF 8 [bT]) (.r [bT] (.pick 0))) (.r (.k::uTT 8 [.k,bT]) (.br (.r [bT] (.pick 0)) (.r [.cC ((ah n.aa i0).aK).toNat (aD (aB n.rules (ah n.aa i0).aK)),bT] (.a (.r (.k::uTT 6 [.k,bT]) (.br (.r [bT] (.pick 0)) (.r [bT] (.r [bT] (.br (.pick 0) (.r [.int ↑(i0+1),bT] (.pick 1))))))) (.r (.k::uFF 6 [bT]) (.r [bT] (.r [bT] (.br (.pick 0) (.r [.int ↑(i0+1),bT] (.pick 1))))))))))))))
theorem Zc (n:Net) (i0:Nat) (hf:bg n) (hx0:i0<(length n.aa)):vcC pg 201 base aO 3000 (kbL [(2,vm n i0)]) BR (bu (w9 n i0)) (bA (tl n i0)) 1 (bQ (ot n i0)) (XE n i0):=
 have hr:=hf.rules;have hs:=hf.aa;have l1:=aW ak (n.aa);have hb:(zj i0 n)=true:=decide_eq_true (by omega);
 aZ (an (a1 a0)
 (an hb (an (ac (bR ak (l:=n.aa) (i:=i0) (by omega)) a0)
 (aP (fun (h1:(zAv i0 n)=true)=>
 (an (aN 7 (ac (n2 h1) (a1 a0)))
 (an a0
 (lf (wy (ot n i0) 0) 2 (show mT n i0=true from (orT h1)))))) (fun h1=>have q0:=(orF h1 rfl:mT n i0=_);have g1:=of_decide_eq_false h1;
 (an (aN 8 (ac (au h1) (a1 a0)))
 (brP (fun (h2:(zt i0 n)=true)=>
 (an a0
 (lf (wy (ot n i0) 0) 2 (q0.trans (orT h2))))) (fun h2=>have q1:=q0.trans (orF h2 rfl);have l2:=aW aD (n.rules);have g2:=of_decide_eq_false h2;
 (an (ac (bK (f:=aD) (l:=n.rules) (s:=(ah n.aa i0).aK) (decide_eq_true (by omega)) (decide_eq_true (by omega))) a0)
 (aP (fun (h3:((length (map bc (ah n.aa i0).aj):Int)==0)=true)=>have q2:=q1.trans (cdT h3 rfl);have l3:=aW bc ((ah n.aa i0).aj);have g3:=eq_of_beq h3;
 (an (aN 6 (ac h3 (a1 a0)))
 (brP (fun (h4:((i0:Int) !=(aB n.rules (ah n.aa i0).aK).stop)=true)=>
 (an a0
 (lf (wy (ot n i0) 0) 2 (q2.trans (orT h4))))) (fun h4=>have q4:=q2.trans (orF h4 rfl);
 (an a0
 (an a0
 (an (kbT (vm n i0) trivial) (brP (fun (h5:(iJ n i0)=true)=>
 (lf (wy (ot n i0) 0) 0 (q4.trans h5))) (fun h5=>
 (an (ac (dwr (z:= ↑(i0+1)) (by omega) (by omega)) a0)
 (lf (wy (ot n i0) 1) 3 ⟨(q4.trans h5),rfl,rfl⟩))))))))))) (fun h3=>have q3:=q1.trans (cdF h3 rfl);have l3:=aW bc ((ah n.aa i0).aj);have g3:=ne_of_beq_false h3;
 (an (aN 5 (ac (au h3) (a1 a0)))
 (an a0
 (an a0
 (an (kbT (vm n i0) trivial) (brP (fun (h4:(iJ n i0)=true)=>
 (lf (wy (ot n i0) 0) 0 (q3.trans h4))) (fun h4=>
 (an (ac (dwr (z:= ↑(i0+1)) (by omega) (by omega)) a0)
 (lf (wy (ot n i0) 1) 3 ⟨(q3.trans h4),rfl,rfl⟩)))))))))))))))))))
 (by kernel_rfl)
theorem Zd (n:Net) (hf:bg n):vcC pg 201 base aO 3000 (kbL []) BR (bu (w9 n (zG n))) (bA (tl n (zG n))) 1 (bQ [⟨True,(.exit 0),qZ n,range 1,oq n⟩]) zE:=
 have hr:=hf.rules;have hs:=hf.aa;have l1:=aW ak (n.aa);have hb:(zO n)=false:=decide_eq_false (by omega);
 aZ (an (a1 a0)
 (an hb (lf (wy [⟨True,(.exit 0),qZ n,range 1,oq n⟩] 0) 1 trivial)))
 (by kernel_rfl)
theorem Su (n:Net) (i0:Nat):(ot n i0).all zr=true:=by refine (aF (aQ rfl rfl rfl ?_ ?_) (aF (aQ rfl rfl rfl ?_ ?_) bD))<;>simp (maxDischargeDepth:=9) [nxW,htW,w9,BV,plS,AV.pure,ae,tl,vn,plO]
theorem Sv (n:Net):bj.b8 0 ⟨True,(.exit 0),qZ n,range 1,oq n⟩=true:=(aQ rfl rfl rfl rfl (by simp (maxDischargeDepth:=9) [oq,plS,plO,AV.pure,ae]))
theorem G4:dB [2] BR=[(2,.loop BS)]:=by kernel_rfl
theorem Sw (n:Net) (hf:bg n):dg pg 201 0 0 (.loop BR) (G3 n):=
 have hr:=hf.rules;have hs:=hf.aa;bZ (fun _=>e9 (id:=0) (m:=length n.aa) (t:=mT n) (xr:= .ret) (xn:=(.exit 0)) (Lr:=BV n) (Lx:=qZ n) (obr:=vn n) (obx:=oq n) (V:=fun i0=>vcC pg 201 base aO 3000 (kbL [(2,vm n i0)]) BR) (w9 n) (tl n) 1 (ot n) (XE n) _ _ (fun i0 hx0=>aS aw mixed (bO (l:=[(2,vm n i0)]) G4 (aV (Ss n i0 hf hx0) rfl bn) rfl)) (aS aw mixed (az _)) (fun e=>by cases e) (fun e=>by cases e) (fun _=>rfl) (fun i0 hx0=>Zc n i0 hf hx0) (fun i0 _=>Su n i0) (fun i0 _=>show∀ww∈ot n i0,cy _ _ _ _ _ _ ww from (aG da (aG cg bG))) (Zd n hf) (Sv n)) (fun h=>h) (fun h=>h)
def r28 (n:Net):Bool:=(!(yE n))
theorem xX:dB [0] (aH 28)=[(0,.loop BR)]:=by kernel_rfl
theorem Sx (n:Net) (hf:bg n):ba pg 28 [.pf (aR n)] [] [] (B (r28 n)) []:=
 bB (fn:=Tryz.f28) (callf:=(bC [i63] base)) (pu:=aO) (lf:=3000) (l:=[(0,G3 n)]) (t:=(.r [bT] (.r [.int 0,bT] zCT))) (bf (.cons g63 rfl cv.nil) aw) mixed Tryz.func28 (by kernel_rfl) (show Tryz.f28.body=some (aH 28) by kernel_rfl) (Nat.le_of_ble_eq_true rfl) (bO (l:=[(0,G3 n)]) xX (aV (Sw n hf) rfl bn) rfl) rfl (aZ
 (an a0
 (an (cA g63 trivial a0)
 (an a0
 (an (kbT (G3 n) trivial) (brP (fun (h0:(yE n)=true)=>
 (bE (show r28 n=false from (cx h0)))) (fun h0=>
 (an a0
 (bE (show r28 n=true from (au h0))))))))))
 (by kernel_rfl))
end Go.Proofs.YtfkjfjalecikkaaGreatDoor
namespace Go.Am
section
variable {P:Program} {f:FuncId} {X:Ob} {A A' :List AV} {r:AV}
theorem XF {R:um->List Ob->Prop} (hX:(∃T S rows,X= .row T S rows)\/ ∃Tb cells,X= .box Tb cells) (hF:j6 0 X A' A) (h:kG P f A [] [] R) (hp:ae A=true) {m:Mem} {γ:Gam} {w:World} {vs:List Value} (hi:Inv m γ [X] w) (hv:aA m γ A' vs):
  Calls P f vs.toArray w fun e w' => ∃m' γ' r ob',R r ob' /\jB m' γ' e r/\w'.os=w.os/\w'.tape=w.tape/\w'.output=w.output/\w.heap.size<=w'.heap.size/\(∀k,k<w.heap.size->w'.heap[k]? =w.heap[k]?)/\(∀a x,m a=some x->m' a=some x)/\(∀o b C,γ' o=some (some (b,C))->w.heap.size<=b)/\Inv m' γ' ob' w' :=by
 obtain ⟨m2,hm,hi2,ht⟩:=il hi (o:=0) (X:=X) rfl hX
 have hv2:aA m2 γ A vs:=hF _ _ _ hm _ hv
 obtain ⟨d1,d2⟩:=nz (ob:=[]) (xs:=[.dead]) hi2 rfl
 have hv3:=d2 (.tu A) (.tuple vs.toArray) (aI 0 _ (by simp [AV.pure,hp])) (by simp only [Rep];exact ⟨vs,rfl,hv2⟩)
 simp only [Rep] at hv3
 obtain ⟨vs',e1,hv4⟩:=hv3
 obtain rfl:vs=vs' :=by simpa using e1
 have hno: ∀k,¬InG (fun o=>if o<([]:List Ob).length then γ o else none) k:=fun k ⟨o,C,h⟩=>by simp at h
 refine (h.2 m2 _ w vs d1 hv4).mono ?_
 rintro e w' ⟨m',γ',r0,o0,h1,h2,h3,h4,h5⟩
 refine ⟨m',γ',r0,o0,h1,h2,h3.os,h3.tape,h3.output,h3.size,fun k hk=>h3.blk k hk (hno k),fun a x ha=>h3.mem a x (hm.le.mem a x ha),fun o b C hg=> ?_,h4⟩
 by_cases hb:w.heap.size<=b
 ·exact hb
 ·exact absurd (h3.gam b (by omega) ⟨o,C,hg⟩) (hno b)
theorem Ln {x:Value} (hX:(∃T S rows,X= .row T S rows)\/ ∃Tb cells,X= .box Tb cells) (hF:j6 0 X A' A) (hp:ae A=true) (h:ba P f A [] [] (.v x) []):ba P f A' [X] [] (.v x) [X]:=by
 refine ⟨h.1,fun m γ w vs hi hv=>(XF hX hF h hp hi hv).mono ?_⟩
 rintro e w' ⟨m',γ',r0,o0,⟨rfl,rfl⟩,h2,k1,k2,k3,k4,k5,k6,k7,h4⟩
 refine ⟨m,γ,_,_,⟨rfl,rfl⟩,?_,⟨fun _ _ h=>h,fun _ _ h=> .inl h,fun _ _ h=>h,k1,k2,k3,k4,fun k hk _=>k5 k hk⟩,⟨fun a y ha=>h4.mem a y (k6 a y ha),fun o Y hY=> ?_,hi.sep,fun o b C hg=>Nat.lt_of_lt_of_le (hi.dom o b C hg) k4,hi.len⟩,fun _ _ _ h=>h⟩
 ·cases e with
  |returned v=>
   have h2' :Rep m' γ' (.v x) v:=h2
   show Rep m γ (.v x) v
   simpa only [Rep] using h2'
  |panicked c=>exact h2.elim
  |outgrown=>exact h2.elim
 ·exact ef (hi.obj o Y hY) ⟨fun _ _ h=>h,fun _ _ h _=>h⟩ (fun b C hg=>k5 b (hi.dom o b C hg)) (fun _ _ _ _ h=>h)
theorem Lo {T S k:Nat} {rows:List (List AV)} (hX:(∃T S rows,X= .row T S rows)\/ ∃Tb cells,X= .box Tb cells) (hF:j6 0 X A' A) (hp:ae A=true) (h:ba P f A [] [] (.sr 0 S 0 k) [.row T S rows]) (hrow: ∀c∈rows.flatten,∃x,c= .v x):ba P f A' [X] [] (.sr 1 S 0 k) [X,.row T S rows]:=by
 refine ⟨h.1,fun m γ w vs hi hv=>(XF hX hF h hp hi hv).mono ?_⟩
 rintro e w' ⟨m',γ',r0,o0,⟨rfl,rfl⟩,h2,k1,k2,k3,k4,k5,k6,k7,h4⟩
 let γ1:Gam:=fun o=>match o with
  |0=>γ 0
  |1=>γ' 0
  |_=>none
 have hkeep: ∀o g,γ o=some g->γ1 o=some g:=fun o g hg=>by
  have:=hi.len o (by rw [hg];simp)
  have h0:o=0:=by simpa using this
  subst h0;exact hg
 have hle:Le m γ [] m γ1:=⟨fun _ _ h=>h,fun o g hg _=>hkeep o g hg⟩
 refine ⟨m,γ1,_,_,⟨rfl,rfl⟩,?_,⟨fun _ _ h=>h,fun _ _ h=> .inl h,fun j hj ⟨o,C,hg⟩=> ?_,k1,k2,k3,k4,fun k hk _=>k5 k hk⟩,⟨fun a y ha=>h4.mem a y (k6 a y ha),fun o Y hY=> ?_,fun o o' b C C' l1 l2 g1 g2=> ?_,fun o b C hg=> ?_,fun o hg=> ?_⟩,fun o g _ hg=>hkeep o g hg⟩
 ·cases e with
  |returned v=>
   have h2' :Rep m' γ' (.sr 0 S 0 k) v:=h2
   show Rep m γ1 (.sr 1 S 0 k) v
   simp only [Rep] at h2' ⊢
   exact h2'
  |panicked c=>exact h2.elim
  |outgrown=>exact h2.elim
 ·match o,hg with
  |0,hg=>exact ⟨0,C,hg⟩
  |1,hg=>have:=k7 0 j C hg;omega
 ·match o,hY with
  |0,hY=>
   simp at hY
   subst hY
   exact ef (hi.obj 0 _ rfl) hle (fun b C hg=>k5 b (hi.dom 0 b C hg)) (fun _ _ _ _ h=>h)
  |1,hY=>
   simp at hY
   subst hY
   rcases h4.obj 0 _ rfl with ⟨g1,g2⟩|⟨b,C,xs,g1,g2,g3,g4,g5,g6,g7,g8⟩
   ·exact .inl ⟨g1,g2⟩
   ·refine .inr ⟨b,C,xs,g1,g2,g3,g4,g5,g6,Er hrow g7,fun off=> ?_⟩
    cases hm:m ⟨b,off,none⟩ with
    |none=>rfl
    |some y=>
     have:=k6 _ _ hm
     rw [g8] at this;cases this
  |o+2,hY=>simp at hY
 ·match o,o',g1,g2 with
  |0,0,_,_=>rfl
  |1,1,_,_=>rfl
  |0,1,g1,g2=>
   have q1:=hi.dom 0 b C g1
   have q2:=k7 0 b C' g2
   omega
  |1,0,g1,g2=>
   have q1:=hi.dom 0 b C' g2
   have q2:=k7 0 b C g1
   omega
 ·match o,hg with
  |0,hg=>exact Nat.lt_of_lt_of_le (hi.dom 0 b C hg) k4
  |1,hg=>exact h4.dom 0 b C hg
 ·match o,hg with
  |0,_=>simp
  |1,_=>simp
  |o+2,hg=>exact absurd rfl hg
theorem Lp {T S k:Nat} {rows:List (List AV)} (hX:(∃T S rows,X= .row T S rows)\/ ∃Tb cells,X= .box Tb cells) (hF:j6 0 X A' A) (hp:ae A=true) (hXu:X.und 1=true) (h:ba P f A [] [] (.sr 0 S 0 k) [.row T S rows]) (hk:k=rows.length) (hrow: ∀c∈rows.flatten,∃x,c= .v x) (hpr:ai rows=true):ba P f A' [X] [] (.sl S rows) [X]:=by
 have h1:=IB (ob2:=[X,.dead]) (Lo hX hF hp h hrow) (o:=1) (X:= .row T S rows) rfl (.inl ⟨_,_,_,rfl⟩) (Frz.sr0 rfl hk) rfl (fun i Y Y' e1 e2=>by
  match i with
  |0=>
   simp at e1 e2
   subst e1;subst e2
   exact .inr ⟨by omega,.same _⟩
  |1=>simp at e2;exact .inl e2.symm
  |i+2=>simp at e2)
 refine kX (ob' :=[X]) (h1.mono fun e o hh=>⟨hh.1,[.dead],hh.2⟩) (Nat.le_refl _) (by simp [AV.und,fh _ rows hpr]) ?_
 simp [hXu]
end
structure mU where
 f:FuncId
 args:List AV
 ob0:List Ob
 r:AV
 p:Prop
def mU.cd (P:Program) (c:mU):Prop:=c.p->sg P c.f c.args c.ob0 c.r c.ob0
noncomputable def BW (T:List mU) (callf:cY):cY:=fun f args O N tm=>match tm.gd with
 | .cC i _::g=>match T[i]? with
  |some c=>cond (Nat.beq f c.f) (.ret c.r O N ((tm.at N).told g (dec c.p&&dec (args=c.args/\Ec O N 0=c.ob0)))) (callf f args O N tm)
  |none=>callf f args O N tm
 |_=>callf f args O N tm
inductive xc (P:Program):List mU->Prop
 |nil:xc P []
 |cons {c:mU} {T:List mU} (h:c.cd P) (t:xc P T):xc P (c::T)
section
variable {P:Program} {n K:Nat}
theorem xc.get: ∀{T:List mU},xc P T-> ∀{i:Nat} {c:mU},T[i]? =some c->c.cd P
 |[],_,i,c,h=>by simp at h
 |d::T,.cons h t,i,c,e=>by
  cases i with
  |zero=>simp at e;subst e;exact h
  |succ i=>exact t.get (by simpa using e)
theorem EV {T:List mU} {callf:cY} (h:xc P T) (hcf:cK P callf):cK P (BW T callf):=fun f args O N tm=>by
 unfold BW
 split
 ·rename_i i r g hg
  split
  ·rename_i c hc
   cases hf:Nat.beq f c.f with
   |false=>exact hcf f args O N tm
   |true=>
    have:=Nat.eq_of_beq_eq_true hf
    subst this
    simp only [cond_true]
    refine ⟨fun r' O1 N1 t1 e=> ?_,fun av O1 N1 t1 e=>by cases e⟩
    cases e
    refine ⟨⟨[_],rfl⟩,fun hok ob hO=> ?_⟩
    simp only [TM.told,TM.at,cz,Bool.and_eq_true] at hok
    have k:=(h.get hc) (aM.1 hok.1.1)
    obtain ⟨k1,k2⟩:=aM.1 hok.1.2
    rw [sf hO] at k2
    subst k1;subst k2
    exact ⟨_,hO,k,fun i _=>rfl⟩
  ·exact hcf f args O N tm
 ·exact hcf f args O N tm
theorem qE {c:mU} (hp:c.p) {ob:List Ob} (e:ob=c.ob0):(dec c.p&&dec (c.args=c.args/\ob=c.ob0))=true:=by rw [aM.2 hp,aM.2 ⟨rfl,e⟩];rfl
noncomputable def finVO (P:Program) (rs:List ResultVar) (r:AV) (obs:List Ob):VK:=fun t x M O N=>finV P rs r t x M O N/\(range obs.length).map O.get=obs.map some
theorem M4 {callf:cY} {pu:FuncId->Bool} {lf:Nat} {f:FuncId} {fn:Func} {body:Code} {args:List AV} {r:AV} {obs:List Ob} {l:List (Nat×KB)} {t:GT} (hcf:cK P callf) (hm:P.follows .mixedOrders=true) (hf:P.funcs[f]? =some fn) (hname:(fn.name== "runtime.NumGoroutine")=false) (hb:fn.body=some body) (hn:args.length<=fn.ntmps)
  (hk:KQ P fn.ntmps 0 (kbL l) body) (hu:r.und obs.length=true) (ho:obs.all (Ob.und obs.length)=true) (h:vcC P fn.ntmps callf pu lf (kbL l) body (jL 0 args .e) .e 0 (finVO P fn.results.toList r obs) t):ba P f args [] [] r obs:=by
 refine lr hf hname hb hn (Nat.zero_le _) hu ho ?_
 refine (aS hcf hm hk).ok h (ew args) bM.nil (.inl rfl) fun {t' x M' O' N' L' ob'} h1 hM hO=> ?_
 obtain ⟨h1,h2⟩:=h1
 obtain ⟨xs,e⟩:=Ep rfl h2 hO
 have aux:MN r (m9 P M' O' fn.results.toList)-> ∃avs,qk P L' ob' fn.results.toList avs/\(um.ret (ga avs)= .ret r/\ ∃xs,ob' =obs++xs):=fun h=>by
  cases hr:m9 P M' O' fn.results.toList with
  |none=>rw [hr] at h;exact h.elim
  |some avs=>
   rw [hr] at h
   exact ⟨avs,km hM hO hr,congrArg _ h,xs,e⟩
 cases x with
 |normal=>exact aux h1
 |ret=>exact aux h1
 |_=>exact h1.elim
theorem roE {α:Type} {T S k:Nat} {f:α->List AV} {rows:List (List AV)} {l r:List α} (e:Ob.row T S rows=Ob.row T S (l.map f)) (h:r=l):(AV.sr 0 S 0 k=AV.sr 0 S 0 k)/\([Ob.row T S rows].map some=[Ob.row T S (r.map f)].map some):=⟨rfl,by rw [e,h]⟩
def ou (t hit:Bool) (xr xn:AX) (L1:Loc) (ob1:List Ob) (Lr:Loc) (obr:List Ob) (Lx:Loc) (obx:List Ob) (o:bj):Prop:=
 o.p->(o.x= .normal/\t=false/\o.L=L1/\o.ob=ob1)\/(t=true/\((hit=true/\o.x=xr/\o.L=Lr/\o.ob=obr)\/(hit=false/\o.x=xn/\o.L=Lx/\o.ob=obx)))
def whW (t hit:Bool) (xr:AX) (Lr:Loc) (sel:List Nat) (obr:List Ob):bj:=⟨t=true/\hit=true,xr,Lr,sel,obr⟩
def wxW (t hit:Bool) (xn:AX) (Lx:Loc) (sel:List Nat) (obx:List Ob):bj:=⟨t=true/\hit=false,xn,Lx,sel,obx⟩
theorem tn {t hit:Bool} {xr xn:AX} {L1 La Lr Lx:Loc} {ob1 oba obr obx:List Ob} {sel:List Nat}:ou t hit xr xn L1 ob1 Lr obr Lx obx (nxW t L1 ob1 La sel oba):=fun h=> .inl ⟨rfl,h.1,h.2.1,h.2.2⟩
theorem Lq {t hit:Bool} {xr xn:AX} {L1 Lr Lx:Loc} {ob1 obr obx:List Ob} {sel:List Nat}:ou t hit xr xn L1 ob1 Lr obr Lx obx (whW t hit xr Lr sel obr):=fun h=> .inr ⟨h.1,.inl ⟨h.2,rfl,rfl,rfl⟩⟩
theorem BX {t hit:Bool} {xr xn:AX} {L1 Lr Lx:Loc} {ob1 obr obx:List Ob} {sel:List Nat}:ou t hit xr xn L1 ob1 Lr obr Lx obx (wxW t hit xn Lx sel obx):=fun h=> .inr ⟨h.1,.inr ⟨h.2,rfl,rfl,rfl⟩⟩
theorem Jl {id:Nat} {c:Code} {k:KB} {A B:Prop} {h:Bool} (q:k.p->(h=true->A)/\(h=false->B)) (hh:h=false) (hk:k.hit=false) (hb:B->Piece P n K (.block id c) k.L0 k.ob0 k.x2 k.L2 k.ob2):dg P n K id c k:=⟨fun _ e=>(by rw [hk] at e;cases e),fun hp _=>hb ((q hp).2 hh)⟩
noncomputable def dX {σ:Type} (t:σ->Bool) (it:Nat->σ):Nat:= @dite Nat (∃k,t (it k)=true) (Classical.propDecidable _) (fun h=>cc (h.choose+1) fun k=>t (it k)) (fun _=>0)
theorem iA {σ:Type} {t:σ->Bool} {it:Nat->σ} (h: ∃k,t (it k)=true):t (it (dX t it))=true/\ ∀j,j<dX t it->t (it j)=false:=by
 unfold dX
 rw [dif_pos h]
 have:=ir (n:=h.choose+1) (t:=fun k=>t (it k)) (ey.2 ⟨h.choose,by omega,h.choose_spec⟩)
 exact ⟨this.2.1,this.2.2⟩
theorem BY {id:Nat} {c:Code} {σ:Type} {t hit:σ->Bool} {it:Nat->σ} {step:σ->σ} (hit1: ∀k,it (k+1)=step (it k)) {I:σ->Prop} {xr xn:AX} {Lr Lx:σ->Loc} {obr obx:σ->List Ob} {V:σ->VC} (L:σ->Loc) (Bs:σ->List Ob) (k:Nat) (outs:σ->List bj) (g:σ->GT)
  (hv: ∀x,I x->iu P n K c (V x)) (hxr:xr≠ .normal) (hxn:xn≠ .normal) (hk: ∀x,(Bs x).length=k)
  (h: ∀x,I x->V x (bu (L x)) (bA (Bs x)) k (bQ (outs x)) (g x)) (hf: ∀x,I x->(outs x).all (bj.b8 K)=true)
  (hq: ∀x,I x-> ∀o∈outs x,o.p->(o.x= .normal/\t x=false/\o.L=L (step x)/\o.ob=Bs (step x))\/(t x=true/\((hit x=true/\o.x=xr/\o.L=Lr x/\o.ob=obr x)\/(hit x=false/\o.x=xn/\o.L=Lx x/\o.ob=obx x))))
  (hterm: ∃k,t (it k)=true) (hI: ∀k,k<=dX t it->I (it k)):
  (hit (it (dX t it))=true->Piece P n K (.block id (.loop c)) (L (it 0)) (Bs (it 0)) (qH id xr) (Lr (it (dX t it))) (obr (it (dX t it))))/\(hit (it (dX t it))=false->Piece P n K (.block id (.loop c)) (L (it 0)) (Bs (it 0)) (qH id xn) (Lx (it (dX t it))) (obx (it (dX t it)))):=by
 obtain ⟨hend,hlt⟩:=iA hterm
 generalize hM:dX t it=M at*
 have go: ∀{df:Option Nat} {Q:dN},j5 df (.block id (.loop c))->((hit (it M)=true/\Q (qH id xr) (Lr (it M)) (obr (it M)))\/(hit (it M)=false/\Q (qH id xn) (Lx (it M)) (obx (it M))))->awp df P n K [] (.block id (.loop c)) Q (L (it 0)) (Bs (it 0)):=fun {df Q} hd hQ=>by
  have hd' :j5 df c:=hd.imp (fun e=>e) fun e=>by simpa only [Code.inR] using e
  refine dR (nk (fun i=>L (it i)) (fun i=>Bs (it i)) (fun i=>i<=M) (fun i=>M-i) 0 (Nat.zero_le _) (Sub.refl _) rfl fun i hi=> ?_)
  refine qI (hv _ (hI i hi)) ((hk _).symm▸h _ (hI i hi)) (hf _ (hI i hi)) hd' fun o ho hp=> ?_
  rcases hq _ (hI i hi) o ho hp with ⟨e1,e2,e3,e4⟩|⟨e1,e2⟩
  ·have hne:i≠M:=fun e=>by rw [e,hend] at e2;cases e2
   rw [e1,e3,e4]
   exact ⟨i+1,by omega,by omega,by rw [hit1];exact Sub.refl _,by rw [hit1]⟩
  ·have he:i=M:=by
    by_cases e:i=M
    ·exact e
    ·rw [hlt i (by omega)] at e1;cases e1
   subst he
   have key: ∀x L' ob',x≠ .normal->Q (qH id x) L' ob' ->(match x with| .normal=>False|x=>jA id Q x L' ob'):=fun x L' ob' hx q=>by
    have:=sn (df:=df) (id:=id) (Q:=Q) q
    cases x with
    |normal=>exact absurd rfl hx
    |_=>exact this
   rcases e2 with ⟨h1,h2,h3,h4⟩|⟨h1,h2,h3,h4⟩
   ·rcases hQ with ⟨_,q⟩|⟨q0,_⟩
    ·have:=key o.x o.L o.ob (by rw [h2];exact hxr) (by rw [h2,h3,h4];exact q)
     revert this
     rw [h2]
     cases xr with
     |normal=>exact absurd rfl hxr
     |_=>exact fun q=>q
    ·rw [h1] at q0;cases q0
   ·rcases hQ with ⟨q0,_⟩|⟨_,q⟩
    ·rw [h1] at q0;cases q0
    ·have:=key o.x o.L o.ob (by rw [h2];exact hxn) (by rw [h2,h3,h4];exact q)
     revert this
     rw [h2]
     cases xn with
     |normal=>exact absurd rfl hxn
     |_=>exact fun q=>q
 exact ⟨fun e df Q hd q=>go hd (.inl ⟨e,q⟩),fun e df Q hd q=>go hd (.inr ⟨e,q⟩)⟩
end
end Go.Am
namespace Go.Proofs.YtfkjfjalecikkaaGreatDoor
open Go.Am
def Edg (g:List (List Nat)) (i k:Nat):Prop:=k∈ah g i
inductive Rp (g:List (List Nat)):Nat->Nat->Prop
 |one {i k:Nat} (h:Edg g i k):Rp g i k
 |step {i j k:Nat} (h:Rp g i j) (e:Edg g j k):Rp g i k
theorem Rp.trans {g:List (List Nat)} {i j k:Nat} (h:Rp g i j) (e:Rp g j k):Rp g i k:=by
 induction e with
 |one e=>exact .step h e
 |step _ e ih=>exact .step ih e
def Wf (g:List (List Nat)):Prop:= ∀R∈g,∀c∈R,c<g.length
theorem ov {g:List (List Nat)} (hw:Wf g) {i c:Nat} (h:Edg g i c):c<g.length:=by
 unfold Edg at h
 by_cases hi:i<g.length
 ·exact hw _ (fN hi) c h
 ·simp [ah,List.getElem?_eq_none (show g.length<=i by omega)] at h
  cases h
abbrev St:=List Bool×List Nat
def mark (x:St) (c:Nat):St:=bif ah x.1 c then x else (x.1.set c true,x.2++ [c])
def marks (x:St) (R:List Nat):St:=R.foldl mark x
def cf (l:List Bool):Nat:=l.count false
theorem lC {l:List Bool} {c:Nat}:ah l c=true↔l[c]? =some true:=by
 unfold ah
 cases h:l[c]? with
 |none=>simp only [Option.getD_none];exact ⟨fun h=>(by cases h),fun h=>(by cases h)⟩
 |some b=>simp
theorem BZ {l:List Bool} {c:Nat} (hc:c<l.length) (h:ah l c=false):cf (l.set c true)+1=cf l:=by
 induction l generalizing c with
 |nil=>simp at hc
 |cons b l ih=>
  cases c with
  |zero=>
   simp [ah] at h
   subst h
   simp [cf]
  |succ c=>
   have:=ih (c:=c) (by simpa using hc) (by simpa [ah] using h)
   simp only [List.set_cons_succ,cf,List.count_cons] at this⊢
   omega
theorem Jm (x:St) (c:Nat):(mark x c).1.length=x.1.length:=by
 unfold mark
 cases ah x.1 c<;>simp
theorem vo (R:List Nat): ∀x:St,(marks x R).1.length=x.1.length:=by
 induction R with
 |nil=>intro x;rfl
 |cons c R ih=>intro x;simp only [marks,List.foldl_cons] at ih⊢;rw [ih,Jm]
structure Mk (x y:St) (R:List Nat):Prop where
 up: ∀k:Nat,x.1[k]? =some true->y.1[k]? =some true
 dn: ∀k:Nat,y.1[k]? =some true->x.1[k]? =some true\/(k∈R/\k∈y.2)
 sub: ∀c:Nat,c∈x.2->c∈y.2
 new: ∀c:Nat,c∈y.2->c∈x.2\/c∈R
 all: ∀c:Nat,c∈R->y.1[c]? =some true
 le:2*cf y.1+y.2.length<=2*cf x.1+x.2.length
theorem Wc {x:St} {c:Nat} (hc:c<x.1.length):Mk x (mark x c) [c]:=by
 unfold mark
 cases h:ah x.1 c with
 |true=>
  have:=lC.1 h
  exact ⟨fun k hk=>hk,fun k hk=> .inl hk,fun c hc=>hc,fun c hc=> .inl hc,fun d hd=>by simp at hd;subst hd;exact this,Nat.le_refl _⟩
 |false=>
  have hcf:=BZ hc h
  refine ⟨fun k hk=> ?_,fun k hk=> ?_,fun d hd=> ?_,fun d hd=> ?_,fun d hd=> ?_,?_⟩
  ·simp only [cond_false]
   rw [List.getElem?_set]
   split
   ·rename_i e;subst e;simp []
   ·exact hk
  ·simp only [cond_false] at hk⊢
   rw [List.getElem?_set] at hk
   split at hk
   ·rename_i e;subst e;exact .inr ⟨by simp,by simp⟩
   ·exact .inl hk
  ·simp only [cond_false];exact List.mem_append_left _ hd
  ·simp only [cond_false,List.mem_append] at hd;exact hd
  ·simp at hd;subst hd;simp [hc]
  ·simp only [cond_false,List.length_append,List.length_singleton];omega
theorem Mk.trans {x y z:St} {R S:List Nat} (h:Mk x y R) (k:Mk y z S):Mk x z (R++S):=by
 refine ⟨fun i hi=>k.up i (h.up i hi),fun i hi=> ?_,fun c hc=>k.sub c (h.sub c hc),fun c hc=> ?_,fun c hc=> ?_,Nat.le_trans k.le h.le⟩
 ·rcases k.dn i hi with h1|⟨h1,h2⟩
  ·rcases h.dn i h1 with h3|⟨h3,h4⟩
   ·exact .inl h3
   ·exact .inr ⟨List.mem_append_left _ h3,k.sub i h4⟩
  ·exact .inr ⟨List.mem_append_right _ h1,h2⟩
 ·rcases k.new c hc with h1|h1
  ·rcases h.new c h1 with h2|h2
   ·exact .inl h2
   ·exact .inr (List.mem_append_left _ h2)
  ·exact .inr (List.mem_append_right _ h1)
 ·rcases List.mem_append.1 hc with h1|h1
  ·exact k.up c (h.all c h1)
  ·exact k.all c h1
theorem B0: ∀(R:List Nat) (x:St),(∀c∈R,c<x.1.length)->Mk x (marks x R) R
 |[],x,_=>⟨fun k hk=>hk,fun k hk=> .inl hk,fun c hc=>hc,fun c hc=> .inl hc,fun d hd=>by simp at hd,Nat.le_refl _⟩
 |c::R,x,h=>by
  have h1:=Wc (x:=x) (c:=c) (h c (by simp))
  have h2:=B0 R (mark x c) (fun d hd=>by rw [Jm];exact h d (by simp [hd]))
  exact h1.trans h2
theorem Lt (x:St) (R:List Nat) (j:Nat) (hj:j<R.length):marks x (R.take (j+1))=mark (marks x (R.take j)) (ah R j):=by
 rw [List.take_add_one,eZ hj]
 simp [marks,List.foldl_append]
structure FI (g:List (List Nat)) (i:Nat) (x:St):Prop where
 len:x.1.length=g.length
 todo: ∀c∈x.2,c<g.length
 snd: ∀k:Nat,x.1[k]? =some true->Rp g i k
 sndT: ∀c∈x.2,c=i\/Rp g i c
 cls: ∀k:Nat,(k=i\/x.1[k]? =some true)->k∈x.2\/ ∀c,Edg g k c->x.1[c]? =some true
 bd:2*cf x.1+x.2.length<=2*g.length+1
theorem Wd {g:List (List Nat)} {i:Nat} (hi:i<g.length):FI g i (replicate g.length false,[i]):=by
 refine ⟨by simp,fun c hc=>by simp at hc;omega,fun k hk=> ?_,fun c hc=>by simp at hc;exact .inl hc,fun k hk=> ?_,?_⟩
 ·rw [List.getElem?_replicate] at hk
  split at hk<;>simp at hk
 ·rcases hk with rfl|hk
  ·exact .inl (by simp)
  ·rw [List.getElem?_replicate] at hk
   split at hk<;>simp at hk
 ·simp [cf]
theorem Sy {g:List (List Nat)} (hw:Wf g) {i v:Nat} {inb:List Bool} {t:List Nat} (h:FI g i (inb,t++ [v])):FI g i (marks (inb,t) (ah g v))/\2*cf (marks (inb,t) (ah g v)).1+(marks (inb,t) (ah g v)).2.length<2*cf inb+(t++ [v]).length:=by
 obtain ⟨h1,h2,h3,h4,h5,h6⟩:=h
 have hR: ∀c∈ah g v,c<inb.length:=fun c hc=>by rw [h1];exact ov hw hc
 have hm:=B0 (ah g v) (inb,t) hR
 have hv:=h4 v (by simp)
 have hc: ∀c∈ah g v,Rp g i c:=fun c hc=>by
  rcases hv with rfl|hv
  ·exact .one hc
  ·exact .step hv hc
 have hlt:2*cf (marks (inb,t) (ah g v)).1+(marks (inb,t) (ah g v)).2.length<2*cf inb+(t++ [v]).length:=by
  have:=hm.le
  simp only [List.length_append,List.length_singleton] at*
  omega
 refine ⟨⟨by rw [vo];exact h1,fun c hc' => ?_,fun k hk=> ?_,fun c hc' => ?_,fun k hk=> ?_,by simp only at h6;omega⟩,hlt⟩
 ·rcases hm.new c hc' with h|h
  ·exact h2 c (by simp at h⊢;exact .inl h)
  ·exact ov hw h
 ·rcases hm.dn k hk with h|⟨h,_⟩
  ·exact h3 k h
  ·exact hc k h
 ·rcases hm.new c hc' with h|h
  ·exact h4 c (by simp at h⊢;exact .inl h)
  ·exact .inr (hc c h)
 ·by_cases hkv:k=v
  ·subst hkv
   exact .inr fun c he=>hm.all c he
  ·have hk' :(k=i\/inb[k]? =some true)\/k∈(marks (inb,t) (ah g v)).2:=by
    rcases hk with hk|hk
    ·exact .inl (.inl hk)
    ·rcases hm.dn k hk with h|⟨_,h⟩
     ·exact .inl (.inr h)
     ·exact .inr h
   rcases hk' with hk' |hk'
   ·rcases h5 k hk' with h|h
    ·left
     simp only [List.mem_append,List.mem_singleton] at h
     rcases h with h|h
     ·exact hm.sub k h
     ·exact absurd h hkv
    ·exact .inr fun c he=>hm.up c (h c he)
   ·exact .inl hk'
noncomputable def jT (g:List (List Nat)) (i:Nat):List Bool:=(range g.length).map fun k=>dec (Rp g i k)
theorem Ze {g:List (List Nat)} (_:Wf g) {i:Nat} {inb:List Bool} (h:FI g i (inb,[])):inb=jT g i:=by
 obtain ⟨h1,h2,h3,h4,h5,h6⟩:=h
 have hcl: ∀k,(k=i\/inb[k]? =some true)-> ∀c,Edg g k c->inb[c]? =some true:=fun k hk=>by
  rcases h5 k hk with h|h
  ·simp at h
  ·exact h
 have hall: ∀k,Rp g i k->inb[k]? =some true:=by
  intro k hk
  induction hk with
  |one e=>exact hcl _ (.inl rfl) _ e
  |step _ e ih=>exact hcl _ (.inr ih) _ e
 apply List.ext_getElem?
 intro k
 unfold jT
 rw [List.getElem?_map]
 by_cases hk:k<g.length
 ·rw [List.getElem?_range hk]
  simp only [Option.map_some]
  have hki:k<inb.length:=by simp only at h1;omega
  rw [List.getElem?_eq_getElem hki]
  congr 1
  rw [Bool.eq_iff_iff,aM]
  constructor
  ·intro hb;exact h3 k (by rw [List.getElem?_eq_getElem hki,hb])
  ·intro hr
   have:=hall k hr
   rw [List.getElem?_eq_getElem hki] at this
   simpa using this
 ·rw [List.getElem?_eq_none (by simp only at h1;omega),List.getElem?_eq_none (by simpa using hk)]
  rfl
theorem EW {g:List (List Nat)} {i k:Nat} (hk:k<g.length):ah (jT g i) k=dec (Rp g i k):=by
 simp [ah,jT,hk]
section
variable {P:Program} {n K:Nat}
theorem Lu {a b:Code} {L L1:Am.Loc} {ob ob1:List Ob} {id:Nat} (h:Piece P n K a L ob (.exit id) L1 ob1):Piece P n K (.seq a b) L ob (.exit id) L1 ob1:=mh h (fun e=>by cases e)
end
def di (c:Nat):List AV:=[I (c:Nat)]
def aq (b:Bool):List AV:=[B b]
def bY (R:List Nat):List AV:=[.sl 1 (R.map di)]
theorem EX (c:Nat):ae (di c)=true:=rfl
theorem bS (c:Bool):ae (aq c)=true:=rfl
theorem EY (R:List Nat):ae (bY R)=true:=by simp [bY,ae,AV.pure,aX EX]
theorem B3 (f:Nat->Nat) (l:List Nat):dp f (l.map di)=l.map di:=fV _ _ (aX EX l)
theorem vp (f:Nat->Nat) (l:List Bool):dp f (l.map aq)=l.map aq:=fV _ _ (aX bS l)
theorem B4 (f:Nat->Nat) (l:List (List Nat)):dp f (l.map bY)=l.map bY:=fV _ _ (aX EY l)
theorem at1 {α:Type} [Inhabited α] (f:α->List AV) {l:List α} {j:Nat} (h:j<l.length):(dec ((0+j*1)/1=j)&&(dec ((0+j*1)%1=0)&&dec ((l.map f)[j]? =some (f (ah l j)))))=true:=by
 rw [A8 h,aM.2 (show (0+j*1)/1=j by omega),aM.2 (show (0+j*1)%1=0 by omega)];rfl
theorem Jn {a:Bool} (h:a=true):(a&&true)=true:=by rw [h];rfl
theorem Jo {a b:Nat} (h:a<b):Nat.blt a b=true:=Nat.ble_eq_true_of_le h
theorem pZ {a b:Nat} (h:a<=b):Nat.ble a b=true:=Nat.ble_eq_true_of_le h
theorem appA {k m:Nat} (h:k<=m) (h2:k+1<=100000000):(Nat.ble k m&&true&&(Nat.ble ((k+1)*8) 140737488355328&&Nat.ble (k+1) 9223372036854775807&&true))=true:=by
 rw [pZ h,pZ (show (k+1)*8<=140737488355328 by omega),pZ (show k+1<=9223372036854775807 by omega)];rfl
theorem tp (l:List Bool) (c:Nat) (b:Bool):(l.map aq).set c [B b]=(l.set c b).map aq:=by rw [List.map_set];rfl
theorem We (t:List Nat) (c:Nat):(t.map di).take t.length++ [[I (c:Nat)]]=(t++ [c]).map di:=by rw [<-List.length_map (f:=di),List.take_length];simp [di]
def O5:Code:=bV 0 (aH 59)
def O6:Code:=bV 2 (aH 59)
def b59:Code:=match QB 1 (aH 59) with
 |some c=>c
 |none=> .skip
theorem e59o:O5= .seq (sq1 O5) (.block 1 (.seq (sq1 b59) (.seq (sq1 (sq2 b59)) (.seq (sq1 (sq2 (sq2 b59))) (.block 2 (.loop O6)))))):=by kernel_rfl
def L59 (g:List (List Nat)) (n k:Nat):Am.Loc:=[(0,.sl 1 (g.map bY)),(5,.sr 0 1 0 n),(6,.sr 1 1 0 k)]
def O59 (x:St):List Ob:=[.row 4 1 (x.1.map aq),.row 3 1 (x.2.map di)]
def O7 (g:List (List Nat)) (n k v:Nat):Am.Loc:=[(0,.sl 1 (g.map bY)),(5,.sr 0 1 0 n),(6,.sr 1 1 0 k),(7,I (v:Nat))]
def DJ (g:List (List Nat)) (R:List Nat) (n k j:Nat):Am.Loc:=[(0,.sl 1 (g.map bY)),(5,.sr 0 1 0 n),(6,.sr 1 1 0 k),(32,.sl 1 (R.map di)),(33,I ((R.map di).length:Nat)),(34,I (j:Nat))]
theorem G5 {f:Nat->Nat} (h0:f 0=0) {o:Nat} (h1:f 1=o) (g:List (List Nat)) (n k:Nat):nc f (L59 g n k)=[some (.sl 1 (g.map bY)),some (.sr 0 1 0 n),some (.sr o 1 0 k)]:=by
 simp [nc,L59,AV.ren,B4,h0,h1]
theorem M5 {f:Nat->Nat} (h0:f 0=0) {o:Nat} (h1:f 1=o) (g:List (List Nat)) (n k v:Nat):nc f (O7 g n k v)=[some (.sl 1 (g.map bY)),some (.sr 0 1 0 n),some (.sr o 1 0 k),some (I (v:Nat))]:=by
 simp [nc,O7,AV.ren,B4,h0,h1]
theorem G6 {f:Nat->Nat} (h0:f 0=0) {o:Nat} (h1:f 1=o) (g:List (List Nat)) (R:List Nat) (n k j:Nat):nc f (DJ g R n k j)=[some (.sl 1 (g.map bY)),some (.sr 0 1 0 n),some (.sr o 1 0 k),some (.sl 1 (R.map di)),some (I ((R.map di).length:Nat)),some (I (j:Nat))]:=by
 simp [nc,DJ,AV.ren,B4,B3,h0,h1]
theorem xd {f:Nat->Nat} (x:St):pP f [some (.row 4 1 (x.1.map aq)),some (.row 3 1 (x.2.map di))] (O59 x):=
 ⟨by rw [Ob.ren,vp];exact .same _,by rw [Ob.ren,B3];exact .same _,trivial⟩
abbrev tt (c:Code) (L:Am.Loc) (x:St) (gd:List Gi):RX:=runK Tryz.prog 52 base aO 3000 (kbL []) c (bu L) (bA (O59 x)) 2 ⟨2,gd,[]⟩
theorem in59 (g:List (List Nat)) (R:List Nat) (n j:Nat) (x:St) (hn:n=x.1.length) (hj:j<R.length) (hR:R.length<=9223372036854775807) (hc:ah R j<x.1.length) (hx:x.2.length<=10000000):
  Piece pg 52 0 O6 (DJ g R n x.2.length j) (O59 x) .normal (DJ g R n (mark x (ah R j)).2.length (j+1)) (O59 (mark x (ah R j))):=by
 obtain ⟨inb,t⟩:=x
 subst hn
 simp only at hc hx⊢
 have h0:(decide ((j:Int)<(((R.map di).length:Nat):Int)))=true:=decide_eq_true (by rw [List.length_map];omega)
 unfold mark
 rcases nJ (ah inb (ah R j)) with hb|hb
 ·rw [hb]
  simp only [cond_true]
  refine ep (lo:=2) (dq aw mixed (az _)) (sel:=[0,1]) (N' :=2) (show hU [0,5,6,32,33,34] [0,1] (tt O6 (DJ g R inb.length t.length j) (inb,t) [bT,bT,.row (di (ah R j)),.at (ah R j) 0 (aq (ah inb (ah R j))),bF,.int ↑(j+1),bT])=some (.normal,[some (.sl 1 (g.map bY)),some (.sr 0 1 0 inb.length),some (.sr 1 1 0 t.length),some (.sl 1 (R.map di)),some (I ((R.map di).length:Nat)),some (I ↑(j+1))],[some (.row 4 1 (inb.map aq)),some (.row 3 1 (t.map di))],2,_) by kernel_rfl)
   (ac (dwr (z:= ↑(j+1)) (by omega) (by omega)) (ac (n2 hb) (ac (at1 aq hc) (ac (Jo hc) (ac (bR di hj) (a1 (ac h0 a0))))))) rfl rfl rfl (G6 rfl rfl g R _ _ _) (xd (inb,t))
 ·rw [hb]
  simp only [cond_false]
  refine ep (lo:=2) (dq aw mixed (az _)) (sel:=[0,2]) (N' :=3) (show hU [0,5,6,32,33,34] [0,2] (tt O6 (DJ g R inb.length t.length j) (inb,t) [bT,bT,.row (di (ah R j)),.at (ah R j) 0 (aq (ah inb (ah R j))),bT,.at (ah R j) 0 (aq (ah inb (ah R j))),.int ↑(j+1),bT])=some (.normal,[some (.sl 1 (g.map bY)),some (.sr 0 1 0 inb.length),some (.sr 2 1 0 (t.length+1)),some (.sl 1 (R.map di)),some (I ((R.map di).length:Nat)),some (I ↑(j+1))],[some (.row 4 1 ((inb.map aq).set (ah R j) [B true])),some (.row 3 1 ((t.map di).take t.length++ [[I ((ah R j:Nat):Int)]]))],3,_) by kernel_rfl)
   (ac (dwr (z:= ↑(j+1)) (by omega) (by omega)) (ac (appA (k:=t.length) (m:=(t.map di).length) (by simp) (by omega)) (ac (Jn (at1 aq hc)) (ac (Jo hc) (ac (au hb) (ac (at1 aq hc) (ac (Jo hc) (ac (bR di hj) (a1 (ac h0 a0)))))))))) rfl rfl rfl ?_ ?_
  ·rw [List.length_append,List.length_singleton];exact G6 rfl rfl g R _ _ _
  ·rw [tp,We];exact xd (inb.set (ah R j) true,t++ [ah R j])
theorem Wg (g:List (List Nat)) (R:List Nat) (n:Nat) (x:St) (hn:n=x.1.length) (hR:R.length<=9223372036854775807) (hc: ∀c∈R,c<x.1.length) (hb:2*cf x.1+x.2.length<=10000000):
  Piece pg 52 0 (.block 2 (.loop O6)) (DJ g R n x.2.length 0) (O59 x) .normal (L59 g n (marks x R).2.length) (O59 (marks x R)):=by
 refine gJ (xr:= .exit 2) (fun j=>DJ g R n (marks x (R.take j)).2.length j) (fun j=>O59 (marks x (R.take j))) (fun j=>j<=R.length) (fun j=>R.length-j) 0 (Nat.zero_le _) (fun e=>by cases e) fun j hj=> ?_
 by_cases hjl:j<R.length
 ·left
  have hm:=B0 (R.take j) x fun c hc' =>hc c (List.mem_of_mem_take hc')
  have h:=in59 g R n j (marks x (R.take j)) (by rw [vo];exact hn) hjl hR (by rw [vo];exact hc _ (fN hjl)) (by have:=hm.le;omega)
  rw [<-Lt x R j hjl] at h
  exact ⟨j+1,by omega,by omega,h⟩
 ·right
  obtain rfl:j=R.length:=by omega
  simp only [List.take_length]
  have h0:(decide (((R.length:Nat):Int)<(((R.map di).length:Nat):Int)))=false:=decide_eq_false (by rw [List.length_map];omega)
  exact ep (lo:=2) (dq aw mixed (az _)) (sel:=[0,1]) (N' :=2) (show hU [0,5,6] [0,1] (tt O6 (DJ g R n (marks x R).2.length R.length) (marks x R) [bF,bF,bT])=some (.exit 2,[some (.sl 1 (g.map bY)),some (.sr 0 1 0 n),some (.sr 1 1 0 (marks x R).2.length)],[some (.row 4 1 ((marks x R).1.map aq)),some (.row 3 1 ((marks x R).2.map di))],2,_) by kernel_rfl)
   (a1 (ac (au h0) a0)) rfl rfl rfl (G5 rfl rfl g _ _) (xd _)
theorem Wh (g:List (List Nat)) (n:Nat) (inb:List Bool) (t:List Nat) (v:Nat) (hn:n=inb.length) (hv:v<g.length) (hR:(ah g v).length<=9223372036854775807) (hc: ∀c∈ah g v,c<inb.length) (hb:2*cf inb+t.length<=10000000):
  Piece pg 52 0 O5 (L59 g n (t++ [v]).length) (O59 (inb,t++ [v])) .normal (L59 g n (marks (inb,t) (ah g v)).2.length) (O59 (marks (inb,t) (ah g v))):=by
 rw [e59o,List.length_append,List.length_singleton]
 have h0:(decide (((t.length+1:Nat):Int)>0))=true:=decide_eq_true (by omega)
 have hw:(dec (IntKind.wrap IntKind.i64 ((t.length+1:Nat)-1:Int)=(t.length:Nat)))=true:=aM.2 (by rw [show ((t.length+1:Nat)-1:Int)=(t.length:Nat) by omega];exact wrap_i64 (by omega) (by omega))
 have hg:ah (t++ [v]) t.length=v:=by simp [ah]
 have hat:=at1 di (l:=t++ [v]) (j:=t.length) (by simp)
 rw [hg] at hat
 refine dS (L1:=L59 g n (t.length+1)) (ob1:=O59 (inb,t++ [v])) ?_ (nG (dS (L1:=O7 g n (t.length+1) v) (ob1:=O59 (inb,t++ [v])) ?_ (dS (L1:=O7 g n t.length v) (ob1:=O59 (inb,t)) ?_ (dS (L1:=DJ g (ah g v) n t.length 0) (ob1:=O59 (inb,t)) ?_ (Wg g (ah g v) n (inb,t) hn hR hc hb)))))
 ·exact ep (lo:=2) (dq aw mixed (az _)) (sel:=[0,1]) (N' :=2) (show hU [0,5,6] [0,1] (tt (sq1 O5) (L59 g n (t.length+1)) (inb,t++ [v]) [bT,bT,bT])=some (.normal,[some (.sl 1 (g.map bY)),some (.sr 0 1 0 n),some (.sr 1 1 0 (t.length+1))],[some (.row 4 1 (inb.map aq)),some (.row 3 1 ((t++ [v]).map di))],2,_) by kernel_rfl)
   (a1 (ac h0 a0)) rfl rfl rfl (G5 rfl rfl g _ _) (xd (inb,t++ [v]))
 ·exact ep (lo:=2) (dq aw mixed (az _)) (sel:=[0,1]) (N' :=2) (show hU [0,5,6,7] [0,1] (tt (sq1 b59) (L59 g n (t.length+1)) (inb,t++ [v]) [.int (t.length:Nat),.at t.length 0 (di v),bT])=some (.normal,[some (.sl 1 (g.map bY)),some (.sr 0 1 0 n),some (.sr 1 1 0 (t.length+1)),some (I (v:Nat))],[some (.row 4 1 (inb.map aq)),some (.row 3 1 ((t++ [v]).map di))],2,_) by kernel_rfl)
   (ac hat (ac (Jo (Nat.lt_succ_self t.length)) (ac hw a0))) rfl rfl rfl (M5 rfl rfl g _ _ _) (xd (inb,t++ [v]))
 ·refine ep (lo:=2) (dq aw mixed (az _)) (sel:=[0,1]) (N' :=2) (show hU [0,5,6,7] [0,1] (tt (sq1 (sq2 b59)) (O7 g n (t.length+1) v) (inb,t++ [v]) [.int (t.length:Nat),bT])=some (.normal,[some (.sl 1 (g.map bY)),some (.sr 0 1 0 n),some (.sr 1 1 0 t.length),some (I (v:Nat))],[some (.row 4 1 (inb.map aq)),some (.row 3 1 ((t++ [v]).map di))],2,_) by kernel_rfl)
   (ac (Jn (pZ (Nat.le_succ t.length))) (ac hw a0)) rfl rfl rfl (M5 rfl rfl g _ _ _) ⟨by rw [Ob.ren,vp];exact .same _,?_,trivial⟩
  rw [Ob.ren,B3]
  have:=Told.row (T:=3) (S:=1) (k:=t.length) (rows:=(t++ [v]).map di) (by simp)
  rw [<-List.map_take,List.take_left] at this
  exact this
 ·exact ep (lo:=2) (dq aw mixed (az _)) (sel:=[0,1]) (N' :=2) (show hU [0,5,6,32,33,34] [0,1] (tt (sq1 (sq2 (sq2 b59))) (O7 g n t.length v) (inb,t) [.row (bY (ah g v)),bT])=some (.normal,[some (.sl 1 (g.map bY)),some (.sr 0 1 0 n),some (.sr 1 1 0 t.length),some (.sl 1 ((ah g v).map di)),some (I (((ah g v).map di).length:Nat)),some (I ((0:Nat):Int))],[some (.row 4 1 (inb.map aq)),some (.row 3 1 (t.map di))],2,_) by kernel_rfl)
   (ac (bR bY hv) a0) rfl rfl rfl (G6 rfl rfl g _ _ _ _) (xd (inb,t))
theorem Zf:Tryz.f59.body=some (Qp [sq1 (aH 59),sq1 (sq2 (aH 59)),sq1 (sq2 (sq2 (aH 59)))] (.seq (.block 0 (.loop O5)) (sq2 (sq2 (sq2 (sq2 (aH 59))))))):=by kernel_rfl
theorem Sz (g:List (List Nat)) (i:Nat) (hi:i<g.length) (hw:Wf g) (hN:g.length<=1000000) (hR: ∀R∈g,R.length<=9223372036854775807):
  ba pg 59 [.sl 1 (g.map bY),I (i:Nat)] [] [] (.sl 1 ((jT g i).map aq)) []:=by
 refine mg (o:=0) (n:=g.length) (T:=4) (ob1:=[.row 4 1 ((jT g i).map aq)]) ?_ rfl (by simp [jT]) (aX bS _)
 refine lr (fn:=Tryz.f59) Tryz.func59 (by kernel_rfl) Zf (Nat.le_of_ble_eq_true rfl) (Nat.zero_le _) rfl (by simp [Ob.und,cZ bS]) ?_
 have hrep:(replicate (g.map bY).length [B false])=(replicate g.length false).map aq:=by simp [aq]
 refine IE aw mixed (L59 g g.length 1) (O59 (replicate g.length false,[i])) (sel:=[0,1]) (show hU [0,5,6] [0,1] (IC Tryz.prog 52 base aO 3000 [sq1 (aH 59),sq1 (sq2 (aH 59)),sq1 (sq2 (sq2 (aH 59)))] (jL 0 [.sl 1 (g.map bY),I (i:Nat)] .e) .e 0 ⟨0,[bT],[]⟩)=some (.normal,[some (.sl 1 (g.map bY)),some (.sr 0 1 0 (g.map bY).length),some (.sr 1 1 0 1)],[some (.row 4 1 (replicate (g.map bY).length [B false])),some (.row 3 1 ([i].map di))],2,_) by kernel_rfl)
  (ac (show (Nat.ble (g.map bY).length (g.map bY).length&&Nat.ble (1*(g.map bY).length) 281474976710656&&Nat.ble (g.map bY).length 9223372036854775807)=true by
   rw [pZ (Nat.le_refl _),pZ (show 1*(g.map bY).length<=281474976710656 by rw [List.length_map];omega),pZ (show (g.map bY).length<=9223372036854775807 by rw [List.length_map];omega)];rfl) a0) rfl rfl ?_ ?_ ?_
 ·rw [List.length_map];exact G5 rfl rfl g _ _
 ·rw [hrep];exact xd (replicate g.length false,[i])
 ·refine Of (L1:=L59 g g.length 0) (ob1:=O59 (jT g i,[])) (gJ (xr:= .exit 0) (fun x:St=>L59 g g.length x.2.length) O59 (FI g i) (fun x=>2*cf x.1+x.2.length) (replicate g.length false,[i]) (Wd hi) (fun e=>by cases e) fun x hx=> ?_) ?_
  ·obtain ⟨inb,todo⟩:=x
   rcases List.eq_nil_or_concat todo with rfl|⟨t,v,rfl⟩
   ·right
    rw [<-Ze hw hx,e59o]
    refine Lu ?_
    exact ep (lo:=2) (dq aw mixed (az _)) (sel:=[0,1]) (N' :=2) (show hU [0,5,6] [0,1] (tt (sq1 O5) (L59 g g.length 0) (inb,[]) [bF,bF,bT])=some (.exit 0,[some (.sl 1 (g.map bY)),some (.sr 0 1 0 g.length),some (.sr 1 1 0 0)],[some (.row 4 1 (inb.map aq)),some (.row 3 1 [])],2,_) by kernel_rfl)
     (a1 (ac (show (!decide (((0:Nat):Int)>0))=true from rfl) a0)) rfl rfl rfl (G5 rfl rfl g _ _) (xd (inb,[]))
   ·left
    rw [List.concat_eq_append] at hx⊢
    have hlen:=hx.len
    have hbd:=hx.bd
    simp only [List.length_append,List.length_singleton] at hlen hbd
    have hv:v<g.length:=hx.todo v (by simp)
    obtain ⟨k1,k2⟩:=Sy hw hx
    exact ⟨_,k1,k2,Wh g g.length inb t v hlen.symm hv (hR _ (fN hv)) (fun c hc=>by rw [hlen];exact ov hw hc) (by omega)⟩
  ·exact A9 (lo:=2) (obs:=[.row 4 1 ((jT g i).map aq)]) (dq aw mixed (az _)) (gY _) (gZ _) (show mR Tryz.prog Tryz.f59.results.toList 1 (tt (sq2 (sq2 (sq2 (sq2 (aH 59))))) (L59 g g.length 0) (jT g i,[]) [bT])=some (.sr 0 1 0 g.length,[some (.row 4 1 ((jT g i).map aq))],_) by kernel_rfl) a0 rfl fun xs=>⟨rfl,xs,rfl⟩
end Go.Proofs.YtfkjfjalecikkaaGreatDoor
end
