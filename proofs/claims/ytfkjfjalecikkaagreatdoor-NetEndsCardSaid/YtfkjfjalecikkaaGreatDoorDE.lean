/- Edges (of the document's answer). States (of the document's answer). Names. Rules (net). Kinds of edges (net). States (net). -/
import Derived.Test.YtfkjfjalecikkaaGreatDoorDD
noncomputable section
open List (length map range replicate)
set_option maxRecDepth 100000
namespace Go.Proofs.YtfkjfjalecikkaaGreatDoor
open Go.Am
def i67 (n:Net) (s r:Int):cc:=⟨67,[gL n,I s,I r],B (r67 n s r),True⟩
theorem g67 (n:Net) (s r:Int):(i67 n s r).b7 pg:=fun hp=>⟨of67 n s r,by simp [i67,ah,AV.pure],by simp [i67,AV.pure,ah]⟩
def i62 (n:Net) (s r:Int):cc:=⟨62,[.pf (aW n),I s,I r],B (r62 n s r),True⟩
theorem g62 (n:Net) (s r:Int):(i62 n s r).b7 pg:=fun hp=>(by simp_all [of62,i62,ah,AV.pure])
def i92 (g:G):cc:=⟨92,[.ag (gCC g)],B (r92 g),True⟩
theorem g92 (g:G):(i92 g).b7 pg:=fun hp=>(by simp_all [Yb,i92,ah,AV.pure])
def i95 (n:Net) (a:Int×Int):cc:=⟨95,[gL n,.ag (fk a)],B (r95 n a),True⟩
theorem g95 (n:Net) (a:Int×Int):(i95 n a).b7 pg:=fun hp=>⟨act95 n a,by simp [i95,ah,AV.pure],by simp [i95,AV.pure,ah]⟩
def i89 (n:Net) (a:Int×Int):cc:=⟨89,[.pf (aW n),.ag (fk a)],B (r89 n a),True⟩
theorem g89 (n:Net) (a:Int×Int):(i89 n a).b7 pg:=fun hp=>(by simp_all [act89,i89,ah,AV.pure])
def i64 (s:List (Int×Int)):cc:=⟨64,[.sl 2 (s.map bu)],I (r64 s),s.length<=9223372036854775807⟩
theorem g64 (s:List (Int×Int)):(i64 s).b7 pg:=fun hp=>(by simp_all [Ye,i64,ah,AV.pure])
def i91 (s:List (Int×Int)):cc:=⟨91,[.sl 2 (s.map bu)],I (r91 s),s.length<=9223372036854775807⟩
theorem g91 (s:List (Int×Int)):(i91 s).b7 pg:=fun hp=>(by simp_all [Yh,i91,ah,AV.pure])
def i93 (g:G):cc:=⟨93,[.ag (gCC g)],I (r93 g),eG g⟩
theorem g93 (g:G):(i93 g).b7 pg:=fun hp=>(by simp_all [VH,i93,ah,AV.pure])
def i81 (g:G):cc:=⟨81,[.ag (gCC g)],I (r81 g),eG g⟩
theorem g81 (g:G):(i81 g).b7 pg:=fun hp=>(by simp_all [VI,i81,ah,AV.pure])
def i94h (g:G) (o:Int):cc:=⟨94,[.ag (gCC g),I8 o],B (dY o g),eG g⟩
theorem Ov (g:G) (o:Int):(i94h g o).b7 pg:=fun hp=>(by simp_all [Ij,i94h,ah,AV.pure])
def i66 (l:List ByteArray) (f:Bool):cc:=⟨66,[.sl 1 (l.map bH),B f],B (r66 l f),l.length<=9223372036854775807⟩
theorem g66 (l:List ByteArray) (f:Bool):(i66 l f).b7 pg:=fun hp=>(by simp_all [VL,i66,ah,AV.pure])
theorem Kq {n:Net} {s r:Int} (h:r67 n s r=true):0<=s/\s<((n.aa.length:Nat):Int):=by
 grind [r67]
theorem rv {n:Net} {s r:Int} (h:r62 n s r=true):0<=s/\s<((n.aa.length:Nat):Int):=by
 grind [r62]
theorem It {x:Bool} (h:(!x)=false):x=true:=by cases x<;>simp_all
theorem Iu {x c:Int} {p:Prop} [Decidable p] (h:(!((x==c)==decide p))=false):x=c↔p:=by
 grind
structure Ck (e:Edge):Prop where
 g:eG e.g
 op: -128<=e.op/\e.op<=127
 set:e.set.length<=9223372036854775807
 ea:e.ea.length<=9223372036854775807
def yJ:Code:=bP 0 (aH 32)
def Iv:Code:=bP 2 yJ
abbrev zBq (i0 i2:Nat) (n:Net):Am.Loc:=[(1,.pf (aW n)),(3,I (i0:Int)),(4,.pt 0 0),(5,I (i2:Int))]
def yK (n:Net) (i0 i2:Nat):Am.Loc:=(zBq i0 i2 n)
def Dh (n:Net) (i0 i2:Nat):List Ob:=[.box 51 (aE (ae n.rules i0))]
def oi (n:Net) (i0 i2:Nat):Bool:=((ae n.rules i2).type==(ae n.rules i0).type)
def lL (n:Net) (i0:Nat):Bool:=cX (i0) (oi n i0)
def Kr (n:Net) (i0 i2:Nat):Am.Loc:=[(2,B false)]
def Ks (n:Net) (i0 i2:Nat):List Ob:=[]
abbrev zAy (i0:Nat) (n:Net):Am.Loc:=[(1,.pf (aW n)),(3,I (i0:Int))]
def s8 (n:Net) (i0:Nat):Am.Loc:=(zAy i0 n)
def yL (n:Net) (i0:Nat):List Ob:=[.box 51 (aE (ae n.rules i0))]
def s9 (n:Net) (i0:Nat):KB:=⟨yK n i0 0,Dh n i0 0,lL n i0,.ret,Kr n i0 (b4 (i0) (oi n i0)),Ks n i0 (b4 (i0) (oi n i0)),.normal,s8 n i0,yL n i0,True⟩
def Di (n:Net) (i0 i2:Nat):List bG:=[htW (oi n i0 i2) .ret (Kr n i0 i2) zb (Ks n i0 i2),nxW (oi n i0 i2) (yK n i0 (i2+1)) (Dh n i0 (i2+1)) (yK n i0 (i2+1)) zAO (Dh n i0 (i2+1))]
def W9 (n:Net) (i0 i2:Nat):GT:=(.r [.k,bT] (.yes (.r [.row (aE (ae n.rules i2)),.k,bT] (.br (.r [bT] (.pick 0)) (.r [.int ↑(i2+1),bT] (.pick 1))))))
theorem Ym (n:Net) (i0 i2:Nat) (ln:length n.rules<=9223372036854775807) (hx0:i0<(length n.rules)) (hx2:i2<i0):vcC pg 122 base aK 3000 (kbL []) Iv (bz (yK n i0 i2)) (bw (Dh n i0 i2)) 1 (bM (Di n i0 i2)) (W9 n i0 i2):=
 have hb:(decide ((i2:Int)<(i0:Int)))=true:=decide_eq_true oab;
 bc (an (a1 a0)
 (an hb (an (a1 (ac (rwa aE n.rules i2) a0))
 (brP (fun (h1:((ae n.rules i2).type==(ae n.rules i0).type)=true)=>
 (an a0
 (lf (wy (Di n i0 i2) 0) 1 (show oi n i0 i2=true from h1)))) (fun h1=>
 (an (ac (dwo ((i2+1:Nat):Int)) a0)
 (lf (wy (Di n i0 i2) 1) 1 ⟨(show oi n i0 i2=false from h1),rfl,rfl⟩)))))))
 oaa
theorem Yn (n:Net) (i0:Nat) (ln:length n.rules<=9223372036854775807) (hx0:i0<(length n.rules)):vcC pg 122 base aK 3000 (kbL []) Iv (bz (yK n i0 i0)) (bw (Dh n i0 i0)) 1 (bM [⟨True,(.exit 2),s8 n i0,range 1,yL n i0⟩]) zG:=
 have hb:(decide ((i0:Int)<(i0:Int)))=false:=decide_eq_false oab;
 bc (an (a1 a0)
 (an hb (lf (wy [⟨True,(.exit 2),s8 n i0,range 1,yL n i0⟩] 0) 1 trivial)))
 oaa
theorem Q8 (n:Net) (i0 i2:Nat):(Di n i0 i2).all zj=true:=(aF oan (aF (aR rfl rfl rfl (by simp_all [nxW,yK,plS,AV.pure]) oan) bC))
theorem Q9 (n:Net) (i0:Nat):bG.cS 0 ⟨True,(.exit 2),s8 n i0,range 1,yL n i0⟩=true:=(aR rfl rfl rfl (by simp_all [s8,plS,AV.pure]) oan)
theorem Ra (n:Net) (i0:Nat) (ln:length n.rules<=9223372036854775807) (hx0:i0<(length n.rules)):cQ pg 122 0 2 (.loop Iv) (s9 n i0):=
 bW (fun _=>eB (id:=2) (m:=i0) (t:=oi n i0) (xr:= .ret) (xn:=(.exit 2)) (Lr:=Kr n i0) (Lx:=s8 n i0) (obr:=Ks n i0) (obx:=yL n i0) (V:=fun i2=>vcC pg 122 base aK 3000 (kbL []) Iv) (yK n i0) (Dh n i0) 1 (Di n i0) (W9 n i0) _ _ oaq (aL aw mixed (az _)) (fun e=>by cases e) (fun e=>by cases e) (fun _=>rfl) (fun i2 hx2=>Ym n i0 i2 ln hx0 hx2) (fun i2 _=>Q8 n i0 i2) (fun i2 _=>show∀ww∈Di n i0 i2,cm _ _ _ _ _ _ ww from (aC cT (aC bU bB))) (Yn n i0 ln hx0) (Q9 n i0)) (fun h=>h) (fun h=>h)
def yM (n:Net) (i0:Nat):Am.Loc:=(zAy i0 n)
def Dj (n:Net) (i0:Nat):List Ob:=[]
def ju (n:Net) (i0:Nat):Bool:=((!(r67 n (ae n.rules i0).start (i0:Int)))||((!(r67 n (ae n.rules i0).stop (i0:Int)))||(((ae n.rules i0).start==(ae n.rules i0).stop)||((decide ((length (map aV (aq n.aa (ae n.rules i0).stop).ai):Int)>0))||(bif !(ae n.rules i0).bO then ((ae n.rules i0).eU||((ae n.rules i0).lazy||(((ae n.rules i0).mode !=0)||(bif (ae n.rules i0).bO then ((ae n.rules i0).left||((decide ((ae n.rules i0).mode<0))||((decide ((ae n.rules i0).mode>=(length (map bH n.cz):Int)))||((ae n.rules i0).type !=0)))) else ((decide ((ae n.rules i0).mode<0))||((decide ((ae n.rules i0).mode>=(length (map bH n.cz):Int)))||((ae n.rules i0).type !=0))))))) else (bif (ae n.rules i0).bO then ((ae n.rules i0).left||((decide ((ae n.rules i0).mode<0))||((decide ((ae n.rules i0).mode>=(length (map bH n.cz):Int)))||(bif (ae n.rules i0).eU then ((ae n.rules i0).type !=0) else ((decide ((ae n.rules i0).type<1))||((decide ((ae n.rules i0).type>(length (map bH n.types):Int)))||(lL n i0))))))) else ((decide ((ae n.rules i0).mode<0))||((decide ((ae n.rules i0).mode>=(length (map bH n.cz):Int)))||(bif (ae n.rules i0).eU then ((ae n.rules i0).type !=0) else ((decide ((ae n.rules i0).type<1))||((decide ((ae n.rules i0).type>(length (map bH n.types):Int)))||(lL n i0))))))))))))
def ry (n:Net):Bool:=cX (length n.rules) (ju n)
def Kt (n:Net) (i0:Nat):Am.Loc:=[(2,B false)]
def Ku (n:Net) (i0:Nat):List Ob:=[]
def yN (n:Net):Am.Loc:=[]
def yO (n:Net):List Ob:=[]
abbrev zS (n:Net):=(length n.rules)
def Fm (n:Net):KB:=⟨yM n 0,Dj n 0,ry n,.ret,Kt n (b4 (zS n) (ju n)),Ku n (b4 (zS n) (ju n)),.normal,yN n,yO n,True⟩
def dx (n:Net) (i0:Nat):List bG:=[htW (ju n i0) .ret (Kt n i0) zb (Ku n i0),nxW (ju n i0) (yM n (i0+1)) (Dj n (i0+1)) (yM n (i0+1)) zb (Dj n (i0+1))]
def Xa (n:Net) (i0:Nat):GT:=(.r [.k,bT] (.yes (.r [.row (aE (ae n.rules i0)),bT] (.a (.r (.int 0::uFF 20 [bT]) (.r [bT] (.pick 0))) (.a (.r (.int 0::uTT 5 (.int 1::bT::uFF 14 [bT])) (.r [bT] (.pick 0))) (.a (.r (.int 0::uTT 5 (.int 1::uTT 6 (.k::uFF 9 [bT]))) (.r [bT] (.pick 0))) (.r (.int 0::uTT 5 (.int 1::uTT 6 (.k::uTT 5 (.cd ((ae n.rules i0).stop).toNat (ak (aq n.aa (ae n.rules i0).stop))::uTT 4 [.k,bT])))) (.br (.r [bT] (.pick 0)) (.a (.a (.r (bT::bT::bT::bF::bF::bT::bT::bF::bF::bF::bT::uFF 15 [bT]) (.r [bT] (.pick 0))) (.a (.r (uTT 7 (bF::bF::bF::bT::uFF 15 [bT])) (.r [bT] (.pick 0))) (.a (.r (uTT 10 (.k::bT::uFF 15 [bT])) (.r [bT] (.pick 0))) (.a (.a (.r (uTT 10 (.k::uTT 7 (uFF 9 [bT]))) (.r [bT] (.pick 0))) (.a (.r (uTT 10 (.k::uTT 10 (.k::uFF 6 [bT]))) (.r [bT] (.pick 0))) (.r (uTT 10 (.k::uTT 10 (.k::uTT 6 [.k,bT]))) (.br (.r [bT] (.pick 0)) (.r [bF,bF,bT] (.r [.k,bT] (.br (.r [bT] (.pick 0)) (.r [.int ↑(i0+1),bT] (.pick 1))))))))) (.a (.r (uTT 10 (.k::uTT 4 (bF::bF::uTT 4 (.k::uFF 6 [bT])))) (.r [bT] (.pick 0))) (.r (uTT 10 (.k::uTT 4 (bF::bF::uTT 4 (.k::uTT 6 [.k,bT])))) (.br (.r [bT] (.pick 0)) (.r [bF,bF,bT] (.r [.k,bT] (.br (.r [bT] (.pick 0)) (.r [.int ↑(i0+1),bT] (.pick 1)))))))))))) (.a (.a (.r (uFF 11 (uTT 6 (uFF 9 [bT]))) (.r [bT] (.pick 0))) (.a (.r (uFF 11 (uTT 9 (.k::uFF 6 [bT]))) (.r [bT] (.pick 0))) (.r (uFF 11 (uTT 9 (.k::uTT 6 [.k,bT]))) (.br (.r [bT] (.pick 0)) (.r [bT,bT,bT] (.br (.r [.k,bT] (.br (.r [bT] (.pick 0)) (.r [.int ↑(i0+1),bT] (.pick 1)))) (.a (.r (.k::uFF 6 [bT]) (.r [bT] (.pick 0))) (.r (.k::uTT 6 [.k,bT]) (.br (.r [bT] (.pick 0)) (.r [bT] (.br (.pick 0) (.r [.int ↑(i0+1),bT] (.pick 1))))))))))))) (.a (.r (uFF 11 (bT::bT::bT::bF::bF::uTT 4 (.k::uFF 6 [bT]))) (.r [bT] (.pick 0))) (.r (uFF 11 (bT::bT::bT::bF::bF::uTT 4 (.k::uTT 6 [.k,bT]))) (.br (.r [bT] (.pick 0)) (.r [bT,bT,bT] (.br (.r [.k,bT] (.br (.r [bT] (.pick 0)) (.r [.int ↑(i0+1),bT] (.pick 1)))) (.a (.r (.k::uFF 6 [bT]) (.r [bT] (.pick 0))) (.r (.k::uTT 6 [.k,bT]) (.br (.r [bT] (.pick 0)) (.r [bT] (.br (.pick 0) (.r [.int ↑(i0+1),bT] (.pick 1))))))))))))))))))))))
abbrev zi (i0:Nat) (n:Net):=(decide ((ae n.rules i0).mode>=(length (map bH n.cz):Int)))
abbrev zAD (i0:Nat) (n:Net):=(decide ((ae n.rules i0).type>(length (map bH n.types):Int)))
abbrev zAY (i0:Nat) (n:Net):=(decide ((i0:Int)<(length (map aE n.rules):Int)))
abbrev zAl (i0:Nat) (n:Net):=(decide ((ae n.rules i0).mode<0))
abbrev zAs (i0:Nat) (n:Net):=(decide ((length (map aV (aq n.aa (ae n.rules i0).stop).ai):Int)>0))
abbrev zBS (i0:Nat) (n:Net):=(decide ((ae n.rules i0).type<1))
abbrev zBW (i0:Nat) (n:Net):=((ae n.rules i0).type !=0)
abbrev zCK (i0:Nat) (n:Net):=((ae n.rules i0).start==(ae n.rules i0).stop)
theorem Yo (n:Net) (i0:Nat) (ln:length n.rules<=9223372036854775807) (hx0:i0<(length n.rules)):vcC pg 122 (bI [i67 n (ae n.rules i0).start (i0:Int),i67 n (ae n.rules i0).stop (i0:Int)] base) aK 3000 (kbL [(2,s9 n i0)]) yJ (bz (yM n i0)) (bw (Dj n i0)) 0 (bM (dx n i0)) (Xa n i0):=
 have l1:=aU aE (n.rules);have hb:(zAY i0 n)=true:=decide_eq_true oab;
 bc (an (a1 a0)
 (an hb (an (ac (rwa aE n.rules i0) a0)
 (aM (fun (h1:(!(r67 n (ae n.rules i0).start (i0:Int)))=true)=>
 (an (aN 19 (ac (n2 h1) (cA (g67 n (ae n.rules i0).start (i0:Int)) trivial a0)))
 (an a0
 (lf (wy (dx n i0) 0) 1 (show ju n i0=true from (orT h1)))))) (fun h1=>have q0:=(orF h1 rfl:ju n i0=_);have g1:=Kq (It h1);
 (aM (fun (h2:(!(r67 n (ae n.rules i0).stop (i0:Int)))=true)=>
 (an (aN 13 (ac (n2 h2) (a1 (cA (g67 n (ae n.rules i0).stop (i0:Int)) trivial (aN 4 (ac (au h1) (cA (g67 n (ae n.rules i0).start (i0:Int)) trivial a0)))))))
 (an a0
 (lf (wy (dx n i0) 0) 1 (q0.trans (orT h2)))))) (fun h2=>have q1:=q0.trans (orF h2 rfl);have g2:=Kq (It h2);
 (aM (fun (h3:(zCK i0 n)=true)=>
 (an (aN 8 (ac (n2 h3) (aN 5 (ac (au h2) (a1 (cA (g67 n (ae n.rules i0).stop (i0:Int)) trivial (aN 4 (ac (au h1) (cA (g67 n (ae n.rules i0).start (i0:Int)) trivial a0)))))))))
 (an a0
 (lf (wy (dx n i0) 0) 1 (q1.trans (orT h3)))))) (fun h3=>have q2:=q1.trans (orF h3 rfl);
 (have l2:=aU ak (n.aa);an (aN 5 (ac (rwz ak n.aa (ae n.rules i0).stop) (aN 4 (ac (au h3) (aN 5 (ac (au h2) (a1 (cA (g67 n (ae n.rules i0).stop (i0:Int)) trivial (aN 4 (ac (au h1) (cA (g67 n (ae n.rules i0).start (i0:Int)) trivial a0)))))))))))
 (brP (fun (h4:(zAs i0 n)=true)=>
 (an a0
 (lf (wy (dx n i0) 0) 1 (q2.trans (orT h4))))) (fun h4=>have q3:=q2.trans (orF h4 rfl);have l3:=aU aV ((aq n.aa (ae n.rules i0).stop).ai);have g4:=of_decide_eq_false h4;
 (aM (fun (h5:(!(ae n.rules i0).bO)=true)=>have q4:=q3.trans (cdT h5 rfl);
 (aM (fun (h6:((ae n.rules i0).eU)=true)=>
 (an (aN 22 (ac (n2 h6) (aN 2 (ac h5 a0))))
 (an a0
 (lf (wy (dx n i0) 0) 1 (q4.trans (orT h6)))))) (fun h6=>have q6:=q4.trans (orF h6 rfl);
 (aM (fun (h7:((ae n.rules i0).lazy)=true)=>
 (an (aN 18 (ac (n2 h7) (aN 3 (ac (au h6) (aN 2 (ac h5 a0))))))
 (an a0
 (lf (wy (dx n i0) 0) 1 (q6.trans (orT h7)))))) (fun h7=>have q9:=q6.trans (orF h7 rfl);
 (aM (fun (h8:((ae n.rules i0).mode !=0)=true)=>
 (an (aN 14 (ac (n2 h8) (aN 4 (ac (au h7) (aN 3 (ac (au h6) (aN 2 (ac h5 a0))))))))
 (an a0
 (lf (wy (dx n i0) 0) 1 (q9.trans (orT h8)))))) (fun h8=>have q12:=q9.trans (orF h8 rfl);have g8:=fu h8;
 (aM (fun (h9:((ae n.rules i0).bO)=true)=>have q15:=q12.trans (cdT h9 rfl);
 (aM (fun (h10:((ae n.rules i0).left)=true)=>
 (an (aN 8 (ac (n2 h10) (aN 2 (ac h9 (aN 2 (ac (au h8) (aN 4 (ac (au h7) (aN 3 (ac (au h6) (aN 2 (ac h5 a0))))))))))))
 (an a0
 (lf (wy (dx n i0) 0) 1 (q15.trans (orT h10)))))) (fun h10=>have q20:=q15.trans (orF h10 rfl);
 (aM (fun (h11:(zAl i0 n)=true)=>
 (an (aN 5 (ac (n2 h11) (aN 3 (ac (au h10) (aN 2 (ac h9 (aN 2 (ac (au h8) (aN 4 (ac (au h7) (aN 3 (ac (au h6) (aN 2 (ac h5 a0))))))))))))))
 (an a0
 (lf (wy (dx n i0) 0) 1 (q20.trans (orT h11)))))) (fun h11=>have q25:=q20.trans (orF h11 rfl);have g11:=of_decide_eq_false h11;
 (an (aN 6 (ac (au h11) (aN 3 (ac (au h10) (aN 2 (ac h9 (aN 2 (ac (au h8) (aN 4 (ac (au h7) (aN 3 (ac (au h6) (aN 2 (ac h5 a0))))))))))))))
 (brP (fun (h12:(zi i0 n)=true)=>
 (an a0
 (lf (wy (dx n i0) 0) 1 (q25.trans (orT h12))))) (fun h12=>have q29:=q25.trans (orF h12 rfl);have l4:=aU bH (n.cz);have g12:=of_decide_eq_false h12;
 (an (a1 (ac (n2 h5) a0))
 (an (a1 a0)
 (brP (fun (h13:(zBW i0 n)=true)=>
 (an a0
 (lf (wy (dx n i0) 0) 1 (q29.trans h13)))) (fun h13=>have g13:=fu h13;
 (an (ac (dwo ((i0+1:Nat):Int)) a0)
 (lf (wy (dx n i0) 1) 1 ⟨(q29.trans h13),rfl,rfl⟩)))))))))))))) (fun h9=>have q16:=q12.trans (cdF h9 rfl);
 (aM (fun (h10:(zAl i0 n)=true)=>
 (an (aN 5 (ac (n2 h10) (aN 6 (ac (au h9) (aN 2 (ac (au h8) (aN 4 (ac (au h7) (aN 3 (ac (au h6) (aN 2 (ac h5 a0))))))))))))
 (an a0
 (lf (wy (dx n i0) 0) 1 (q16.trans (orT h10)))))) (fun h10=>have q21:=q16.trans (orF h10 rfl);have g10:=of_decide_eq_false h10;
 (an (aN 6 (ac (au h10) (aN 6 (ac (au h9) (aN 2 (ac (au h8) (aN 4 (ac (au h7) (aN 3 (ac (au h6) (aN 2 (ac h5 a0))))))))))))
 (brP (fun (h11:(zi i0 n)=true)=>
 (an a0
 (lf (wy (dx n i0) 0) 1 (q21.trans (orT h11))))) (fun h11=>have q26:=q21.trans (orF h11 rfl);have l4:=aU bH (n.cz);have g11:=of_decide_eq_false h11;
 (an (a1 (ac (n2 h5) a0))
 (an (a1 a0)
 (brP (fun (h12:(zBW i0 n)=true)=>
 (an a0
 (lf (wy (dx n i0) 0) 1 (q26.trans h12)))) (fun h12=>have g12:=fu h12;
 (an (ac (dwo ((i0+1:Nat):Int)) a0)
 (lf (wy (dx n i0) 1) 1 ⟨(q26.trans h12),rfl,rfl⟩)))))))))))))))))))) (fun h5=>have q5:=q3.trans (cdF h5 rfl);
 (aM (fun (h6:((ae n.rules i0).bO)=true)=>have q7:=q5.trans (cdT h6 rfl);
 (aM (fun (h7:((ae n.rules i0).left)=true)=>
 (an (aN 8 (ac (n2 h7) (aN 2 (ac h6 (aN 13 (ac (au h5) a0))))))
 (an a0
 (lf (wy (dx n i0) 0) 1 (q7.trans (orT h7)))))) (fun h7=>have q10:=q7.trans (orF h7 rfl);
 (aM (fun (h8:(zAl i0 n)=true)=>
 (an (aN 5 (ac (n2 h8) (aN 3 (ac (au h7) (aN 2 (ac h6 (aN 13 (ac (au h5) a0))))))))
 (an a0
 (lf (wy (dx n i0) 0) 1 (q10.trans (orT h8)))))) (fun h8=>have q13:=q10.trans (orF h8 rfl);have g8:=of_decide_eq_false h8;
 (an (aN 6 (ac (au h8) (aN 3 (ac (au h7) (aN 2 (ac h6 (aN 13 (ac (au h5) a0))))))))
 (brP (fun (h9:(zi i0 n)=true)=>
 (an a0
 (lf (wy (dx n i0) 0) 1 (q13.trans (orT h9))))) (fun h9=>have q17:=q13.trans (orF h9 rfl);have l4:=aU bH (n.cz);have g9:=of_decide_eq_false h9;
 (an (a1 (ac (au h5) a0))
 (brP (fun (h10:((ae n.rules i0).eU)=true)=>have q22:=q17.trans (cdT h10 rfl);
 (an (a1 a0)
 (brP (fun (h11:(zBW i0 n)=true)=>
 (an a0
 (lf (wy (dx n i0) 0) 1 (q22.trans h11)))) (fun h11=>have g11:=fu h11;
 (an (ac (dwo ((i0+1:Nat):Int)) a0)
 (lf (wy (dx n i0) 1) 1 ⟨(q22.trans h11),rfl,rfl⟩)))))) (fun h10=>have q23:=q17.trans (cdF h10 rfl);
 (aM (fun (h11:(zBS i0 n)=true)=>
 (an (aN 5 (ac (n2 h11) (a1 a0)))
 (an a0
 (lf (wy (dx n i0) 0) 1 (q23.trans (orT h11)))))) (fun h11=>have q27:=q23.trans (orF h11 rfl);have g11:=of_decide_eq_false h11;
 (an (aN 6 (ac (au h11) (a1 a0)))
 (brP (fun (h12:(zAD i0 n)=true)=>
 (an a0
 (lf (wy (dx n i0) 0) 1 (q27.trans (orT h12))))) (fun h12=>have q30:=q27.trans (orF h12 rfl);have l5:=aU bH (n.types);have g12:=of_decide_eq_false h12;
 (an a0
 (an (kbT (s9 n i0) trivial) (brP (fun (h13:(lL n i0)=true)=>
 (lf (wy (dx n i0) 0) 0 (q30.trans h13))) (fun h13=>
 (an (ac (dwo ((i0+1:Nat):Int)) a0)
 (lf (wy (dx n i0) 1) 1 ⟨(q30.trans h13),rfl,rfl⟩)))))))))))))))))))))) (fun h6=>have q8:=q5.trans (cdF h6 rfl);
 (aM (fun (h7:(zAl i0 n)=true)=>
 (an (aN 5 (ac (n2 h7) (aN 6 (ac (au h6) (aN 13 (ac (au h5) a0))))))
 (an a0
 (lf (wy (dx n i0) 0) 1 (q8.trans (orT h7)))))) (fun h7=>have q11:=q8.trans (orF h7 rfl);have g7:=of_decide_eq_false h7;
 (an (aN 6 (ac (au h7) (aN 6 (ac (au h6) (aN 13 (ac (au h5) a0))))))
 (brP (fun (h8:(zi i0 n)=true)=>
 (an a0
 (lf (wy (dx n i0) 0) 1 (q11.trans (orT h8))))) (fun h8=>have q14:=q11.trans (orF h8 rfl);have l4:=aU bH (n.cz);have g8:=of_decide_eq_false h8;
 (an (a1 (ac (au h5) a0))
 (brP (fun (h9:((ae n.rules i0).eU)=true)=>have q18:=q14.trans (cdT h9 rfl);
 (an (a1 a0)
 (brP (fun (h10:(zBW i0 n)=true)=>
 (an a0
 (lf (wy (dx n i0) 0) 1 (q18.trans h10)))) (fun h10=>have g10:=fu h10;
 (an (ac (dwo ((i0+1:Nat):Int)) a0)
 (lf (wy (dx n i0) 1) 1 ⟨(q18.trans h10),rfl,rfl⟩)))))) (fun h9=>have q19:=q14.trans (cdF h9 rfl);
 (aM (fun (h10:(zBS i0 n)=true)=>
 (an (aN 5 (ac (n2 h10) (a1 a0)))
 (an a0
 (lf (wy (dx n i0) 0) 1 (q19.trans (orT h10)))))) (fun h10=>have q24:=q19.trans (orF h10 rfl);have g10:=of_decide_eq_false h10;
 (an (aN 6 (ac (au h10) (a1 a0)))
 (brP (fun (h11:(zAD i0 n)=true)=>
 (an a0
 (lf (wy (dx n i0) 0) 1 (q24.trans (orT h11))))) (fun h11=>have q28:=q24.trans (orF h11 rfl);have l5:=aU bH (n.types);have g11:=of_decide_eq_false h11;
 (an a0
 (an (kbT (s9 n i0) trivial) (brP (fun (h12:(lL n i0)=true)=>
 (lf (wy (dx n i0) 0) 0 (q28.trans h12))) (fun h12=>
 (an (ac (dwo ((i0+1:Nat):Int)) a0)
 (lf (wy (dx n i0) 1) 1 ⟨(q28.trans h12),rfl,rfl⟩)))))))))))))))))))))))))))))))))))
 oaa
abbrev zJ (n:Net):=(decide ((((length n.rules):Nat):Int)<(length (map aE n.rules):Int)))
theorem Yp (n:Net) (ln:length n.rules<=9223372036854775807):vcC pg 122 base aK 3000 (kbL []) yJ (bz (yM n (zS n))) (bw (Dj n (zS n))) 0 (bM [⟨True,(.exit 0),yN n,range 0,yO n⟩]) zG:=
 have l1:=aU aE (n.rules);have hb:(zJ n)=false:=decide_eq_false oab;
 bc (an (a1 a0)
 (an hb (lf (wy [⟨True,(.exit 0),yN n,range 0,yO n⟩] 0) 0 trivial)))
 oaa
theorem Rb (n:Net) (i0:Nat):(dx n i0).all zj=true:=(aF oan (aF (aR rfl rfl rfl (by simp_all [nxW,yM,plS,AV.pure]) rfl) bC))
theorem Rc (n:Net):bG.cS 0 ⟨True,(.exit 0),yN n,range 0,yO n⟩=true:=(aR rfl rfl rfl rfl rfl)
theorem Fo:dp [2] yJ=[(2,.loop Iv)]:=by kernel_rfl
theorem Re (n:Net) (ln:length n.rules<=9223372036854775807):cQ pg 122 0 0 (.loop yJ) (Fm n):=
 bW (fun _=>eB (id:=0) (m:=length n.rules) (t:=ju n) (xr:= .ret) (xn:=(.exit 0)) (Lr:=Kt n) (Lx:=yN n) (obr:=Ku n) (obx:=yO n) (V:=fun i0=>vcC pg 122 (bI [i67 n (ae n.rules i0).start (i0:Int),i67 n (ae n.rules i0).stop (i0:Int)] base) aK 3000 (kbL [(2,s9 n i0)]) yJ) (yM n) (Dj n) 0 (dx n) (Xa n) _ _ (fun i0 hx0=>aL (bo (.cons (by grind [g67]) rfl (.cons (by grind [g67]) rfl cr.nil)) aw) mixed (bK (l:=[(2,s9 n i0)]) Fo (aT (Ra n i0 ln hx0) rfl bj) rfl)) (aL aw mixed (az _)) (fun e=>by cases e) (fun e=>by cases e) (fun _=>rfl) (fun i0 hx0=>Yo n i0 ln hx0) (fun i0 _=>Rb n i0) (fun i0 _=>show∀ww∈dx n i0,cm _ _ _ _ _ _ ww from (aC cT (aC bU bB))) (Yp n ln) (Rc n)) (fun h=>h) (fun h=>h)
def r32 (n:Net):Bool:=(!(ry n))
theorem vy:dp [0] (aH 32)=[(0,.loop yJ)]:=by kernel_rfl
theorem VM (n:Net) (ln:length n.rules<=9223372036854775807):bg pg 32 [.ag (aW n)] [] [] (B (r32 n)) []:=
 bD (fn:=Tryz.f32) (callf:=base) (pu:=aK) (lf:=3000) (l:=[(0,Fm n)]) (t:=zh) aw mixed Tryz.func32 oaa (show Tryz.f32.body=some (aH 32) by kernel_rfl) (Nat.le_of_ble_eq_true rfl) (bK (l:=[(0,Fm n)]) vy (aT (Re n ln) rfl bj) rfl) rfl (bc
 (an a0
 (an a0
 (an (kbT (Fm n) trivial) (brP (fun (h0:(ry n)=true)=>
 (bE (show r32 n=false from (cq h0)))) (fun h0=>
 (an a0
 (bE (show r32 n=true from (au h0)))))))))
 oaa)
def Iw:Code:=bP 0 (aH 68)
def yP (n:Net) (s:State) (at' :Int) (e:Edge) (i0:Nat):Am.Loc:=[(4,.pf (aW n)),(7,.pf (aV e)),(9,.pt 0 0),(12,I (i0:Int))]
def Dk (n:Net) (s:State) (at' :Int) (e:Edge) (i0:Nat):List Ob:=[.box 51 (aE (aq n.rules s.aI))]
def uA (n:Net) (s:State) (at' :Int) (e:Edge) (i0:Nat):Bool:=(!(r95 n (ae e.ea i0)))
def wo (n:Net) (s:State) (at' :Int) (e:Edge):Bool:=cX (length e.ea) (uA n s at' e)
def Kv (n:Net) (s:State) (at' :Int) (e:Edge) (i0:Nat):Am.Loc:=[(8,B false)]
def Kw (n:Net) (s:State) (at' :Int) (e:Edge) (i0:Nat):List Ob:=[]
def yQ (n:Net) (s:State) (at' :Int) (e:Edge):Am.Loc:=[(9,.pt 0 0)]
def yR (n:Net) (s:State) (at' :Int) (e:Edge):List Ob:=[.box 51 (aE (aq n.rules s.aI))]
def Fp (n:Net) (s:State) (at' :Int) (e:Edge):KB:=⟨yP n s at' e 0,Dk n s at' e 0,wo n s at' e,.ret,Kv n s at' e (b4 (length e.ea) (uA n s at' e)),Kw n s at' e (b4 (length e.ea) (uA n s at' e)),.normal,yQ n s at' e,yR n s at' e,True⟩
def Dm (n:Net) (s:State) (at' :Int) (e:Edge) (i0:Nat):List bG:=[htW (uA n s at' e i0) .ret (Kv n s at' e i0) zb (Kw n s at' e i0),nxW (uA n s at' e i0) (yP n s at' e (i0+1)) (Dk n s at' e (i0+1)) (yP n s at' e (i0+1)) zAO (Dk n s at' e (i0+1))]
def Xb (n:Net) (s:State) (at' :Int) (e:Edge) (i0:Nat):GT:=(.r [.k,bT] (.yes (.r [.row (fk (ae e.ea i0)),.int 0,bT] (.br (.r [bT] (.pick 0)) (.r [.int ↑(i0+1),bT] (.pick 1))))))
theorem Yq (n:Net) (s:State) (at' :Int) (e:Edge) (i0:Nat) (he:Ck e) (hr:0<=State.aI s/\State.aI s<(length n.rules:Int)) (hx0:i0<(length e.ea)):vcC pg 262 (bI [i95 n (ae e.ea i0)] base) aK 3000 (kbL []) Iw (bz (yP n s at' e i0)) (bw (Dk n s at' e i0)) 1 (bM (Dm n s at' e i0)) (Xb n s at' e i0):=
 have hr1:=hr.1;have hr2:=hr.2;have la:=he.ea;have ls:=he.set;have l1:=aU fk (e.ea);have hb:(decide ((i0:Int)<(length (map fk e.ea):Int)))=true:=decide_eq_true oab;
 bc (an (a1 a0)
 (an hb (an (cA (g95 n (ae e.ea i0)) trivial (ac (rwa fk e.ea i0) a0))
 (brP (fun (h1:(!(r95 n (ae e.ea i0)))=true)=>
 (an a0
 (lf (wy (Dm n s at' e i0) 0) 1 (show uA n s at' e i0=true from h1)))) (fun h1=>
 (an (ac (dwo ((i0+1:Nat):Int)) a0)
 (lf (wy (Dm n s at' e i0) 1) 1 ⟨(show uA n s at' e i0=false from h1),rfl,rfl⟩)))))))
 oaa
theorem Yr (n:Net) (s:State) (at' :Int) (e:Edge) (he:Ck e) (hr:0<=State.aI s/\State.aI s<(length n.rules:Int)):vcC pg 262 base aK 3000 (kbL []) Iw (bz (yP n s at' e (length e.ea))) (bw (Dk n s at' e (length e.ea))) 1 (bM [⟨True,(.exit 0),yQ n s at' e,range 1,yR n s at' e⟩]) zG:=
 have hr1:=hr.1;have hr2:=hr.2;have la:=he.ea;have ls:=he.set;have l1:=aU fk (e.ea);have hb:(decide ((((length e.ea):Nat):Int)<(length (map fk e.ea):Int)))=false:=decide_eq_false oab;
 bc (an (a1 a0)
 (an hb (lf (wy [⟨True,(.exit 0),yQ n s at' e,range 1,yR n s at' e⟩] 0) 1 trivial)))
 oaa
theorem Rf (n:Net) (s:State) (at' :Int) (e:Edge) (i0:Nat):(Dm n s at' e i0).all zj=true:=(aF oan (aF (aR rfl rfl rfl (by simp_all [nxW,yP,plS,AV.pure]) oan) bC))
theorem Rg (n:Net) (s:State) (at' :Int) (e:Edge):bG.cS 0 ⟨True,(.exit 0),yQ n s at' e,range 1,yR n s at' e⟩=true:=oan
theorem Rh (n:Net) (s:State) (at' :Int) (e:Edge) (he:Ck e) (hr:0<=State.aI s/\State.aI s<(length n.rules:Int)):cQ pg 262 0 0 (.loop Iw) (Fp n s at' e):=
 have hr1:=hr.1;have hr2:=hr.2;have la:=he.ea;have ls:=he.set;bW (fun _=>eB (id:=0) (m:=length (Edge.ea e)) (t:=uA n s at' e) (xr:= .ret) (xn:=(.exit 0)) (Lr:=Kv n s at' e) (Lx:=yQ n s at' e) (obr:=Kw n s at' e) (obx:=yR n s at' e) (V:=fun i0=>vcC pg 262 (bI [i95 n (ae (Edge.ea e) i0)] base) aK 3000 (kbL []) Iw) (yP n s at' e) (Dk n s at' e) 1 (Dm n s at' e) (Xb n s at' e) _ _ (fun i0 hx0=>aL (bo (.cons (g95 n (ae (Edge.ea e) i0)) rfl cr.nil) aw) mixed (az _)) (aL aw mixed (az _)) (fun e=>by cases e) (fun e=>by cases e) (fun _=>rfl) (fun i0 hx0=>Yq n s at' e i0 he hr hx0) (fun i0 _=>Rf n s at' e i0) (fun i0 _=>show∀ww∈Dm n s at' e i0,cm _ _ _ _ _ _ ww from (aC cT (aC bU bB))) (Yr n s at' e he hr) (Rg n s at' e)) (fun h=>h) (fun h=>h)
def r68 (n:Net) (s:State) (at' :Int) (e:Edge):Bool:=(!(!(r67 n e.to s.aI))&&(!((r91 e.set) !=0)&&(!(!((e.op==1)==(decide ((length (map bu e.set):Int)>0))))&&(!(!((e.op==7)==(decide ((length (map fk e.ea):Int)>0))))&&(bif e.op !=3 then (!(!(r92 e.g))&&(!(!((e.op==4)==(at' ==(aq n.rules s.aI).start)))&&(bif e.op==1 then (bif !(aq n.rules s.aI).bO then (!(decide ((((ae e.set 0)).1)<1))&&(!(decide ((((aq e.set ((length (map bu e.set):Int)-1))).2)>(IntKind.wrap IntKind.i32 (length (map bH n.types):Int))))&&(!(e.n !=0)&&(!(e.level !=0)&&e.op==1)))) else (!(decide ((((ae e.set 0)).1)<0))&&(!(decide ((((aq e.set ((length (map bu e.set):Int)-1))).2)>1114111))&&(!(e.n !=0)&&(!(e.level !=0)&&e.op==1))))) else (bif e.op==2 then (!(decide (e.n<0))&&(!(decide (e.n>=(length (map aE n.rules):Int)))&&(!(!((aq n.rules e.n).bO==(aq n.rules s.aI).bO))&&(!(decide (e.level<0))&&(!(decide (e.level>65))&&(bif decide (e.level>0) then (!(e.n !=s.aI)&&(!(!(aq n.rules s.aI).left))) else true)))))) else (bif e.op==4 then ((decide (e.n>=1))&&((decide (e.n<=64))&&e.level==0)) else (bif e.op==5 then ((aq n.rules s.aI).left&&((decide (e.n>=1))&&((decide (e.n<=64))&&((decide (e.level>=1))&&decide (e.level<=64))))) else (!(e.n !=0)&&(!(e.level !=0)&&(bif e.op==7 then (!(wo n s at' e)&&((aq n.rules s.aI).bO&& !(aq n.rules s.aI).eU)) else (bif e.op==6 then (aq n.rules s.aI).left else ((e.op==0)||e.op==1))))))))))) else (!(!((e.op==4)==(at' ==(aq n.rules s.aI).start)))&&(!(e.n !=0)&&(!(e.level !=0)&&(((r93 e.g)==0)&&((!(dY 14 e.g))&&((aq n.rules s.aI).bO|| !(dY 13 e.g))))))))))))
theorem vz:dp [0] (aH 68)=[(0,.loop Iw)]:=by kernel_rfl
abbrev zCD (e:Edge):=(map bu e.set)
abbrev zV (e:Edge):GT:=(.a (.r (.row (bu (ae e.set 0))::.k::uFF 11 [bT]) zF) (.r (.row (bu (ae e.set 0))::.k::uTT 6 (.int ((length (zCD e):Int)-1)::bT::.cd (((length (zCD e):Int)-1)).toNat (bu (aq e.set ((length (zCD e):Int)-1)))::uTT 4 [.k,bT])) (.br zF (.r [.k,bT] (.no (.r [.k,bT] (.no (.r [.k,bT] (.no (.a (.r zAS zF) (.r zAC (.br zF (.r [.k,bT] (.no (.r [.k,bT] (.no (.r [.k,bT] (.no (.r zAC .nil)))))))))))))))))))
abbrev zBr:List Gi:=[.k,.k,.k,bT]
abbrev zCA:GT:=(.r (uFF 12 [bT]) .nil)
theorem Ys (n:Net) (s:State) (at' :Int) (e:Edge) (he:Ck e) (hr:0<=State.aI s/\State.aI s<(length n.rules:Int)):bg pg 68 [.ag (aW n),.ag (ak s),I at',.ag (aV e)] [] [] (B (r68 n s at' e)) []:=
 have hr1:=hr.1;have hr2:=hr.2;have la:=he.ea;have ls:=he.set;bD (fn:=Tryz.f68) (callf:=(bI [i67 n e.to s.aI,i91 e.set,i92 e.g,i93 e.g,i94h e.g 14,i94h e.g 13] base)) (pu:=aK) (lf:=3000) (l:=[(0,Fp n s at' e)]) (t:=(.r [bT] (.r [.cd (s.aI).toNat (aE (aq n.rules s.aI)),bT] (.a (.r (.int 0::uFF 4 [bT]) zF) (.r [.int 0,bT,bT,bT,.int 1,bT,.k,bT] (.br zF (.a (.r (.k::.k::.k::uFF 17 [bT]) zF) (.a (.r (.k::.k::.k::bT::bT::bT::.k::uTT 4 (.k::bT::.k::uFF 9 [bT])) zF) (.a (.r (.k::.k::.k::bT::bT::bT::.k::uTT 4 (.k::bT::.k::bT::bT::bT::.k::uTT 4 [.int 2,bT,bT,bT])) (.br zF (.r zBr (.br zF (.r [.k,bT] (.br (.r [bT] (.r [bT] (.br (.r [bT] (.r [bT] (zV e))) (zV e)))) (.r [.k,bT] (.br (.a (.r (.k::uFF 37 [bT]) zF) (.a (.r (.k::uTT 6 (.k::uFF 31 [bT])) zF) (.a (.r (.k::uTT 6 (.k::uTT 5 (.cd (e.n).toNat (aE (aq n.rules e.n))::uTT 5 (.k::uFF 21 [bT])))) zF) (.a (.r (.k::uTT 6 (.k::uTT 5 (.cd (e.n).toNat (aE (aq n.rules e.n))::uTT 5 (.k::bT::bT::bT::.k::uFF 18 [bT])))) zF) (.a (.r (.k::uTT 6 (.k::uTT 5 (.cd (e.n).toNat (aE (aq n.rules e.n))::uTT 5 (.k::bT::bT::bT::.k::bT::bT::bT::.k::uFF 15 [bT])))) zF) (.a (.a (.r (.k::uTT 6 (.k::uTT 5 (.cd (e.n).toNat (aE (aq n.rules e.n))::uTT 5 (.k::bT::bT::bT::.k::bT::bT::bT::.k::bT::bT::bT::.k::uTT 6 [.k,bT,bF,bF,bF,bT,bT,bT])))) zF) (.r (.k::uTT 6 (.k::uTT 5 (.cd (e.n).toNat (aE (aq n.rules e.n))::uTT 5 (.k::bT::bT::bT::.k::bT::bT::bT::.k::bT::bT::bT::.k::uTT 6 (.k::uTT 7 []))))) (.br zF zF))) (.r (.k::uTT 6 (.k::uTT 5 (.cd (e.n).toNat (aE (aq n.rules e.n))::uTT 5 (.k::bT::bT::bT::.k::bT::bT::bT::.k::bT::bT::bT::.k::bT::uFF 10 [bT,bT])))) zF))))))) (.r [.k,bT] (.br zI (.r [.k,bT] (.br (.a (.a (.a (.a (.r [bT,bT,bT,.k,bT,bT,bT,.k,bT,bT,bT,.k,bT,bT,bT,.k,bT] .nil) (.r [bT,bT,bT,.k,bT,bT,bT,.k,bT,bT,bT,.k,bF,bF,bF,bT] .nil)) (.r (bT::bT::bT::.k::bT::bT::bT::.k::uFF 6 [bT]) .nil)) (.r (bT::bT::bT::.k::uFF 9 [bT]) .nil)) zCA) (.a (.r zAS zF) (.r zAC (.br zF (.r [.k,bT] (.no (.r [.k,bT] (.br (.r [bT] (.br .nil (.a (.r (uTT 4 []) .nil) (.r [bF,bF,bF,bT] .nil)))) (.r [.k,bT] (.br zF (.a (.r zAS .nil) (.r zAC .nil))))))))))))))))))))))) (.r (.k::.k::.k::bT::bT::bT::.k::uTT 4 (.k::bT::.k::bT::bT::bT::.k::bT::uFF 4 [bT,bT])) (.r zBr (.br zF (.r [.k,bT] (.no (.r [.k,bT] (.no (.r [.k,bT] (.no (.r [.k,bT] (.no (.a (.r zAS zF) (.r zAC (.br zF (.r [.k,bT] (.yes (.a (.a (.a (.r (.int 3::.k::bT::bT::bT::.int 4::uTT 4 (uFF 4 [bT,bT])) .nil) (.r (.int 3::.k::bT::bT::bT::.int 4::uTT 7 [.int 5,bT,bT,bT]) .nil)) (.r (.int 3::.k::bT::bT::bT::.int 4::bT::uFF 8 [bT]) .nil)) (.r (.int 3::.k::uFF 12 [bT]) .nil))))))))))))))))))))))))))) (bo (.cons (g67 n e.to s.aI) rfl (.cons (g91 e.set) rfl (.cons (g92 e.g) rfl (.cons (g93 e.g) rfl (.cons (Ov e.g 14) rfl (.cons (Ov e.g 13) rfl cr.nil)))))) aw) mixed Tryz.func68 oaa (show Tryz.f68.body=some (aH 68) by kernel_rfl) (Nat.le_of_ble_eq_true rfl) (bK (l:=[(0,Fp n s at' e)]) vz (aT (Rh n s at' e he hr) rfl bj) rfl) rfl (bc
 (an a0
 (have l1:=aU aE (n.rules);an (ac (rwz aE n.rules s.aI) a0)
 (aM (fun (h0:(!(r67 n e.to s.aI))=true)=>
 (an (aN 3 (ac (n2 h0) (cA (g67 n e.to s.aI) trivial a0)))
 (an a0
 (bE (show r68 n s at' e=false from (bf (cq h0))))))) (fun h0=>have q0:=(aD (au h0) rfl:r68 n s at' e=_);have g0:=Kq (It h0);
 (an (aN 2 (cA (g91 e.set) he.set (aN 2 (ac (au h0) (cA (g67 n e.to s.aI) trivial a0)))))
 (brP (fun (h1:((r91 e.set) !=0)=true)=>
 (an a0
 (bE (q0.trans (bf (cq h1)))))) (fun h1=>have q1:=q0.trans (aD (au h1) rfl);have g1:=fu h1;
 (aM (fun (h2:(!((e.op==1)==(decide ((length (map bu e.set):Int)>0))))=true)=>
 (an (aN 16 (ac (n2 h2) (aN 3 a0)))
 (an a0
 (bE (q1.trans (bf (cq h2))))))) (fun h2=>have q2:=q1.trans (aD (au h2) rfl);have l2:=aU bu (e.set);have g2:=Iu h2;have g2:=Iu h2;
 (aM (fun (h3:(!((e.op==7)==(decide ((length (map fk e.ea):Int)>0))))=true)=>
 (an (aN 8 (ac (n2 h3) (aN 10 (ac (au h2) (aN 3 a0)))))
 (an a0
 (bE (q2.trans (bf (cq h3))))))) (fun h3=>have q3:=q2.trans (aD (au h3) rfl);have l3:=aU fk (e.ea);have g3:=Iu h3;have g3:=Iu h3;
 (aM (fun (h4:(e.op !=3)=true)=>have q4:=q3.trans (cdT h4 rfl);have g4:=JY h4;
 (an (aN 2 (cA (g92 e.g) trivial (aN 2 (ac h4 (aN 4 (ac (au h3) (aN 10 (ac (au h2) (aN 3 a0)))))))))
 (brP (fun (h5:(!(r92 e.g))=true)=>
 (an a0
 (bE (q4.trans (bf (cq h5)))))) (fun h5=>have q6:=q4.trans (aD (au h5) rfl);
 (an (aN 3 a0)
 (brP (fun (h6:(!((e.op==4)==(at' ==(aq n.rules s.aI).start)))=true)=>
 (an a0
 (bE (q6.trans (bf (cq h6)))))) (fun h6=>have q8:=q6.trans (aD (au h6) rfl);
 (an (a1 a0)
 (brP (fun (h7:(e.op==1)=true)=>have q10:=q8.trans (cdT h7 rfl);have g7:=eq_of_beq h7;
 (an a0
 (an a0
 (brP (fun (h8:(!(aq n.rules s.aI).bO)=true)=>have q13:=q10.trans (cdT h8 rfl);
 (an a0
 (an a0
 (aM (fun (h9:(decide ((((ae e.set 0)).1)<1))=true)=>have g9:=of_decide_eq_true h9;
 (an (aN 10 (ac (n2 h9) (a1 (ac (rwa bu e.set 0) a0))))
 (an a0
 (bE (q13.trans (bf (cq h9))))))) (fun h9=>have q18:=q13.trans (aD (au h9) rfl);have g9:=of_decide_eq_false h9;
 (an (aN 5 (ac (rwz bu e.set ((length (map bu e.set):Int)-1)) (a1 (ac (dwo ((length (map bu e.set):Int)-1)) (aN 5 (ac (au h9) (a1 (ac (rwa bu e.set 0) a0))))))))
 (brP (fun (h10:(decide ((((aq e.set ((length (map bu e.set):Int)-1))).2)>(IntKind.wrap IntKind.i32 (length (map bH n.types):Int))))=true)=>
 (an a0
 (bE (q18.trans (bf (cq h10)))))) (fun h10=>have q23:=q18.trans (aD (au h10) rfl);
 (an (a1 a0)
 (an (show (e.op==2)=false by rw [eq_of_beq h7];rfl) (an (a1 a0)
 (an (show (e.op==4)=false by rw [eq_of_beq h7];rfl) (an (a1 a0)
 (an (show (e.op==5)=false by rw [eq_of_beq h7];rfl) (aM (fun (h11:(e.n !=0)=true)=>
 (an (aN 2 (ac (n2 h11) (a1 a0)))
 (an a0
 (bE (q23.trans (bf (cq h11))))))) (fun h11=>
 (an (aN 3 (ac (au h11) (a1 a0)))
 (brP (fun (h12:(e.level !=0)=true)=>
 (an a0
 (bE (q23.trans (aD (au h11) (bf (cq h12))))))) (fun h12=>
 (an (a1 a0)
 (an (show (e.op==3)=false by simpa using h4) (an (a1 a0)
 (an (show (e.op==7)=false by rw [eq_of_beq h7];rfl) (an (a1 a0)
 (an (show (e.op==6)=false by rw [eq_of_beq h7];rfl) (an (aN 3 (ac (au (show (e.op==0)=false by rw [eq_of_beq h7];rfl)) (a1 a0)))
 (bE (show r68 n s at' e=(e.op==1) from (aD (au h0) (aD (au h1) (aD (au h2) (aD (au h3) (cdT h4 (aD (au h5) (aD (au h6) (cdT h7 (cdT h8 (aD (au h9) (aD (au h10) (aD (au h11) (aD (au h12) rfl))))))))))))))))))))))))))))))))))))))))) (fun h8=>have q14:=q10.trans (cdF h8 rfl);
 (aM (fun (h9:(decide ((((ae e.set 0)).1)<0))=true)=>have g9:=of_decide_eq_true h9;
 (an (aN 10 (ac (n2 h9) (a1 (ac (rwa bu e.set 0) a0))))
 (an a0
 (bE (q14.trans (bf (cq h9))))))) (fun h9=>have q19:=q14.trans (aD (au h9) rfl);have g9:=of_decide_eq_false h9;
 (an (aN 5 (ac (rwz bu e.set ((length (map bu e.set):Int)-1)) (a1 (ac (dwo ((length (map bu e.set):Int)-1)) (aN 5 (ac (au h9) (a1 (ac (rwa bu e.set 0) a0))))))))
 (brP (fun (h10:(decide ((((aq e.set ((length (map bu e.set):Int)-1))).2)>1114111))=true)=>
 (an a0
 (bE (q19.trans (bf (cq h10)))))) (fun h10=>have q24:=q19.trans (aD (au h10) rfl);
 (an (a1 a0)
 (an (show (e.op==2)=false by rw [eq_of_beq h7];rfl) (an (a1 a0)
 (an (show (e.op==4)=false by rw [eq_of_beq h7];rfl) (an (a1 a0)
 (an (show (e.op==5)=false by rw [eq_of_beq h7];rfl) (aM (fun (h11:(e.n !=0)=true)=>
 (an (aN 2 (ac (n2 h11) (a1 a0)))
 (an a0
 (bE (q24.trans (bf (cq h11))))))) (fun h11=>
 (an (aN 3 (ac (au h11) (a1 a0)))
 (brP (fun (h12:(e.level !=0)=true)=>
 (an a0
 (bE (q24.trans (aD (au h11) (bf (cq h12))))))) (fun h12=>
 (an (a1 a0)
 (an (show (e.op==3)=false by simpa using h4) (an (a1 a0)
 (an (show (e.op==7)=false by rw [eq_of_beq h7];rfl) (an (a1 a0)
 (an (show (e.op==6)=false by rw [eq_of_beq h7];rfl) (an (aN 3 (ac (au (show (e.op==0)=false by rw [eq_of_beq h7];rfl)) (a1 a0)))
 (bE (show r68 n s at' e=(e.op==1) from (aD (au h0) (aD (au h1) (aD (au h2) (aD (au h3) (cdT h4 (aD (au h5) (aD (au h6) (cdT h7 (cdF h8 (aD (au h9) (aD (au h10) (aD (au h11) (aD (au h12) rfl))))))))))))))))))))))))))))))))))))))))))) (fun h7=>have q11:=q8.trans (cdF h7 rfl);have g7:=ne_of_beq_false h7;
 (an (a1 a0)
 (brP (fun (h8:(e.op==2)=true)=>have q15:=q11.trans (cdT h8 rfl);have g8:=eq_of_beq h8;
 (aM (fun (h9:(decide (e.n<0))=true)=>
 (an (aN 36 (ac (n2 h9) (a1 a0)))
 (an a0
 (bE (q15.trans (bf (cq h9))))))) (fun h9=>have q20:=q15.trans (aD (au h9) rfl);have g9:=of_decide_eq_false h9;
 (aM (fun (h10:(decide (e.n>=(length (map aE n.rules):Int)))=true)=>
 (an (aN 30 (ac (n2 h10) (aN 6 (ac (au h9) (a1 a0)))))
 (an a0
 (bE (q20.trans (bf (cq h10))))))) (fun h10=>have q25:=q20.trans (aD (au h10) rfl);have g10:=of_decide_eq_false h10;
 (aM (fun (h11:(!((aq n.rules e.n).bO==(aq n.rules s.aI).bO))=true)=>
 (an (aN 20 (ac (n2 h11) (aN 6 (ac (rwz aE n.rules e.n) (aN 4 (ac (au h10) (aN 6 (ac (au h9) (a1 a0)))))))))
 (an a0
 (bE (q25.trans (bf (cq h11))))))) (fun h11=>have q28:=q25.trans (aD (au h11) rfl);
 (aM (fun (h12:(decide (e.level<0))=true)=>have g12:=of_decide_eq_true h12;
 (an (aN 17 (ac (n2 h12) (aN 3 (ac (au h11) (aN 6 (ac (rwz aE n.rules e.n) (aN 4 (ac (au h10) (aN 6 (ac (au h9) (a1 a0)))))))))))
 (an a0
 (bE (q28.trans (bf (cq h12))))))) (fun h12=>have q31:=q28.trans (aD (au h12) rfl);have g12:=of_decide_eq_false h12;
 (aM (fun (h13:(decide (e.level>65))=true)=>have g13:=of_decide_eq_true h13;
 (an (aN 14 (ac (n2 h13) (aN 3 (ac (au h12) (aN 3 (ac (au h11) (aN 6 (ac (rwz aE n.rules e.n) (aN 4 (ac (au h10) (aN 6 (ac (au h9) (a1 a0)))))))))))))
 (an a0
 (bE (q31.trans (bf (cq h13))))))) (fun h13=>have q34:=q31.trans (aD (au h13) rfl);have g13:=of_decide_eq_false h13;
 (aM (fun (h14:(decide (e.level>0))=true)=>have q36:=q34.trans (cdT h14 rfl);have g14:=of_decide_eq_true h14;
 (aM (fun (h15:(e.n !=s.aI)=true)=>
 (an (aN 4 (ac (n2 h15) (aN 6 (ac h14 (aN 4 (ac (au h13) (aN 3 (ac (au h12) (aN 3 (ac (au h11) (aN 6 (ac (rwz aE n.rules e.n) (aN 4 (ac (au h10) (aN 6 (ac (au h9) (a1 a0)))))))))))))))))
 (an a0
 (bE (q36.trans (bf (cq h15))))))) (fun h15=>have q37:=q36.trans (aD (au h15) rfl);
 (an (aN 4 (ac (au h15) (aN 6 (ac h14 (aN 4 (ac (au h13) (aN 3 (ac (au h12) (aN 3 (ac (au h11) (aN 6 (ac (rwz aE n.rules e.n) (aN 4 (ac (au h10) (aN 6 (ac (au h9) (a1 a0)))))))))))))))))
 (brP (fun (h16:(!(aq n.rules s.aI).left)=true)=>
 (an a0
 (bE (q37.trans (cq h16))))) (fun h16=>
 (an a0
 (bE (q37.trans (au h16)))))))))) (fun h14=>have g14:=of_decide_eq_false h14;
 (an (aN 10 (ac (au h14) (aN 4 (ac (au h13) (aN 3 (ac (au h12) (aN 3 (ac (au h11) (aN 6 (ac (rwz aE n.rules e.n) (aN 4 (ac (au h10) (aN 6 (ac (au h9) (a1 a0)))))))))))))))
 (an a0
 (bE (q34.trans (cdF h14 rfl)))))))))))))))))) (fun h8=>have q16:=q11.trans (cdF h8 rfl);
 (an (a1 a0)
 (brP (fun (h9:(e.op==4)=true)=>have q21:=q16.trans (cdT h9 rfl);
 (aM (fun (h10:(decide (e.n>=1))=true)=>
 (aM (fun (h11:(decide (e.n<=64))=true)=>
 (an (aN 3 (ac h11 (aN 3 (ac h10 (a1 a0)))))
 (bE (show r68 n s at' e=(e.level==0) from (aD (au h0) (aD (au h1) (aD (au h2) (aD (au h3) (cdT h4 (aD (au h5) (aD (au h6) (cdF h7 (cdF h8 (cdT h9 (aD h10 (aD h11 rfl)))))))))))))))) (fun h11=>
 (an (aN 2 (ac (au h11) (aN 3 (ac h10 (a1 a0)))))
 (bE (q21.trans (aD h10 (bf h11)))))))) (fun h10=>
 (an (aN 5 (ac (au h10) (a1 a0)))
 (bE (q21.trans (bf h10))))))) (fun h9=>have q22:=q16.trans (cdF h9 rfl);
 (an (a1 a0)
 (brP (fun (h10:(e.op==5)=true)=>have q26:=q22.trans (cdT h10 rfl);
 (aM (fun (h11:((aq n.rules s.aI).left)=true)=>have q29:=q26.trans (aD h11 rfl);
 (aM (fun (h12:(decide (e.n>=1))=true)=>have q32:=q29.trans (aD h12 rfl);
 (aM (fun (h13:(decide (e.n<=64))=true)=>
 (aM (fun (h14:(decide (e.level>=1))=true)=>
 (an (aN 3 (ac h14 (aN 3 (ac h13 (aN 3 (ac h12 (aN 3 (ac h11 a0))))))))
 (bE (show r68 n s at' e=(decide (e.level<=64)) from (aD (au h0) (aD (au h1) (aD (au h2) (aD (au h3) (cdT h4 (aD (au h5) (aD (au h6) (cdF h7 (cdF h8 (cdF h9 (cdT h10 (aD h11 (aD h12 (aD h13 (aD h14 rfl))))))))))))))))))) (fun h14=>
 (an (aN 2 (ac (au h14) (aN 3 (ac h13 (aN 3 (ac h12 (aN 3 (ac h11 a0))))))))
 (bE (q32.trans (aD h13 (bf h14)))))))) (fun h13=>
 (an (aN 5 (ac (au h13) (aN 3 (ac h12 (aN 3 (ac h11 a0))))))
 (bE (q32.trans (bf h13))))))) (fun h12=>
 (an (aN 8 (ac (au h12) (aN 3 (ac h11 a0))))
 (bE (q29.trans (bf h12))))))) (fun h11=>
 (an (aN 11 (ac (au h11) a0))
 (bE (q26.trans (bf h11))))))) (fun h10=>have q27:=q22.trans (cdF h10 rfl);
 (aM (fun (h11:(e.n !=0)=true)=>
 (an (aN 2 (ac (n2 h11) (a1 a0)))
 (an a0
 (bE (q27.trans (bf (cq h11))))))) (fun h11=>have q30:=q27.trans (aD (au h11) rfl);
 (an (aN 3 (ac (au h11) (a1 a0)))
 (brP (fun (h12:(e.level !=0)=true)=>
 (an a0
 (bE (q30.trans (bf (cq h12)))))) (fun h12=>have q33:=q30.trans (aD (au h12) rfl);
 (an (a1 a0)
 (an (show (e.op==3)=false by simpa using h4) (an (a1 a0)
 (brP (fun (h13:(e.op==7)=true)=>have q35:=q33.trans (cdT h13 rfl);
 (an a0
 (an (kbT (Fp n s at' e) trivial) (brP (fun (h14:(wo n s at' e)=true)=>
 (bE (q35.trans (bf (cq h14))))) (fun h14=>
 (aM (fun (h15:((aq n.rules s.aI).bO)=true)=>
 (an (aN 2 (ac h15 a0))
 (bE (show r68 n s at' e=(!(aq n.rules s.aI).eU) from (aD (au h0) (aD (au h1) (aD (au h2) (aD (au h3) (cdT h4 (aD (au h5) (aD (au h6) (cdF h7 (cdF h8 (cdF h9 (cdF h10 (aD (au h11) (aD (au h12) (cdT h13 (aD (au h14) (aD h15 rfl)))))))))))))))))))) (fun h15=>
 (an (aN 2 (ac (au h15) a0))
 (bE (q35.trans (aD (au h14) (bf h15)))))))))))) (fun h13=>
 (an (a1 a0)
 (brP (fun (h14:(e.op==6)=true)=>
 (an a0
 (bE (show r68 n s at' e=(aq n.rules s.aI).left from (aD (au h0) (aD (au h1) (aD (au h2) (aD (au h3) (cdT h4 (aD (au h5) (aD (au h6) (cdF h7 (cdF h8 (cdF h9 (cdF h10 (aD (au h11) (aD (au h12) (cdF h13 (cdT h14 rfl))))))))))))))))))) (fun h14=>
 (aM (fun (h15:(e.op==0)=true)=>
 (an (aN 2 (ac (n2 h15) (a1 a0)))
 (bE (q33.trans (cdF h13 (cdF h14 (orT h15))))))) (fun h15=>
 (an (aN 3 (ac (au h15) (a1 a0)))
 (bE (show r68 n s at' e=(e.op==1) from (aD (au h0) (aD (au h1) (aD (au h2) (aD (au h3) (cdT h4 (aD (au h5) (aD (au h6) (cdF h7 (cdF h8 (cdF h9 (cdF h10 (aD (au h11) (aD (au h12) (cdF h13 (cdF h14 (orF h15 rfl))))))))))))))))))))))))))))))))))))))))))))))))))))) (fun h4=>have q5:=q3.trans (cdF h4 rfl);
 (an (aN 4 (ac (au h4) (aN 4 (ac (au h3) (aN 10 (ac (au h2) (aN 3 a0)))))))
 (an (aN 3 a0)
 (brP (fun (h5:(!((e.op==4)==(at' ==(aq n.rules s.aI).start)))=true)=>
 (an a0
 (bE (q5.trans (bf (cq h5)))))) (fun h5=>have q7:=q5.trans (aD (au h5) rfl);
 (an (a1 a0)
 (an (show (e.op==1)=false by rw [fu h4];rfl) (an (a1 a0)
 (an (show (e.op==2)=false by rw [fu h4];rfl) (an (a1 a0)
 (an (show (e.op==4)=false by rw [fu h4];rfl) (an (a1 a0)
 (an (show (e.op==5)=false by rw [fu h4];rfl) (aM (fun (h6:(e.n !=0)=true)=>
 (an (aN 2 (ac (n2 h6) (a1 a0)))
 (an a0
 (bE (q7.trans (bf (cq h6))))))) (fun h6=>have q9:=q7.trans (aD (au h6) rfl);
 (an (aN 3 (ac (au h6) (a1 a0)))
 (brP (fun (h7:(e.level !=0)=true)=>
 (an a0
 (bE (q9.trans (bf (cq h7)))))) (fun h7=>have q12:=q9.trans (aD (au h7) rfl);
 (an (a1 a0)
 (an (show (e.op==3)=true by rw [fu h4];rfl) (aM (fun (h8:((r93 e.g)==0)=true)=>have q17:=q12.trans (aD h8 rfl);
 (aM (fun (h9:(!(dY 14 e.g))=true)=>
 (aM (fun (h10:((aq n.rules s.aI).bO)=true)=>
 (an (aN 4 (ac (n2 h10) (aN 2 (ac h9 (a1 (cA (Ov e.g 14) he.g (aN 2 (ac h8 (a1 (cA (g93 e.g) he.g a0))))))))))
 (bE (q17.trans (aD h9 (orT h10)))))) (fun h10=>
 (an (aN 2 (cA (Ov e.g 13) he.g (aN 2 (ac (au h10) (aN 2 (ac h9 (a1 (cA (Ov e.g 14) he.g (aN 2 (ac h8 (a1 (cA (g93 e.g) he.g a0))))))))))))
 (bE (show r68 n s at' e=(!(dY 13 e.g)) from (aD (au h0) (aD (au h1) (aD (au h2) (aD (au h3) (cdF h4 (aD (au h5) (aD (au h6) (aD (au h7) (aD h8 (aD h9 (orF h10 rfl))))))))))))))))) (fun h9=>
 (an (aN 7 (ac (au h9) (a1 (cA (Ov e.g 14) he.g (aN 2 (ac h8 (a1 (cA (g93 e.g) he.g a0))))))))
 (bE (q17.trans (bf h9))))))) (fun h8=>
 (an (aN 11 (ac (au h8) (a1 (cA (g93 e.g) he.g a0))))
 (bE (q12.trans (bf h8))))))))))))))))))))))))))))))))))))))
 oaa)
structure bp (n:Net):Prop where
 types:n.types.length<=9223372036854775807
 mP:n.cu.length<=9223372036854775807
 cz:n.cz.length<=9223372036854775807
 rules:n.rules.length<=1000000
 aa:n.aa.length<=1000000
 ai: ∀s∈n.aa,s.ai.length<=1000000
 Ow: ∀s∈n.aa,∀e∈s.ai,Ck e
structure j9 (n:Net):Prop where
 types:n.types.length<=9223372036854775807
 mP:n.cu.length<=9223372036854775807
 cz:n.cz.length<=9223372036854775807
 rules:n.rules.length<=1000000
theorem bp.h {n:Net} (h:bp n):j9 n:=⟨h.types,h.mP,h.cz,h.rules⟩
def i68 (n:Net) (s:State) (i:Int) (e:Edge):cc:=⟨68,[gL n,.ag (ak s),I i,.ag (aV e)],B (r68 n s i e),Ck e/\(0<=State.aI s/\State.aI s<(length n.rules:Int))⟩
theorem g68 (n:Net) (s:State) (i:Int) (e:Edge):(i68 n s i e).b7 pg:=fun hp=>⟨Ys n s i e hp.1 hp.2,by simp [i68,ah,AV.pure],rfl⟩
def yS:Code:=bP 0 (aH 33)
def yT:Code:=bP 2 yS
def Ix:Code:=bP 4 yT
def yU (n:Net) (i0 i2 i4:Nat):Am.Loc:=[(1,.pf (aW n)),(3,I (i0:Int)),(4,.pt 0 0),(5,I (i2:Int)),(6,I (i4:Int))]
abbrev zK (i0:Nat) (n:Net):=(ak (ae n.aa i0))
def yV (n:Net) (i0 i2 i4:Nat):List Ob:=[.box 40 (zK i0 n)]
def mQ (n:Net) (i0 i2 i4:Nat):Bool:=(((ae (ae n.aa i0).ai i2).op==4)&&((ae (ae n.aa i0).ai i4).n==(ae (ae n.aa i0).ai i2).n))
def rz (n:Net) (i0 i2:Nat):Bool:=cX (i2) (mQ n i0 i2)
def Kx (n:Net) (i0 i2 i4:Nat):Am.Loc:=[(2,B false)]
def Ky (n:Net) (i0 i2 i4:Nat):List Ob:=[]
def tc (n:Net) (i0 i2:Nat):Am.Loc:=(zBq i0 i2 n)
def td (n:Net) (i0 i2:Nat):List Ob:=[.box 40 (zK i0 n)]
def yW (n:Net) (i0 i2:Nat):KB:=⟨yU n i0 i2 0,yV n i0 i2 0,rz n i0 i2,.ret,Kx n i0 i2 (b4 (i2) (mQ n i0 i2)),Ky n i0 i2 (b4 (i2) (mQ n i0 i2)),.normal,tc n i0 i2,td n i0 i2,True⟩
def yX (n:Net) (i0 i2 i4:Nat):List bG:=[htW (mQ n i0 i2 i4) .ret (Kx n i0 i2 i4) zb (Ky n i0 i2 i4),nxW (mQ n i0 i2 i4) (yU n i0 i2 (i4+1)) (yV n i0 i2 (i4+1)) (yU n i0 i2 (i4+1)) zAO (yV n i0 i2 (i4+1))]
def Xc (n:Net) (i0 i2 i4:Nat):GT:=(.r [.k,bT] (.yes (.a (.r (.row (aV (ae (ae n.aa i0).ai i2))::.k::uTT 4 (.row (aV (ae (ae n.aa i0).ai i4))::uTT 6 [.row (aV (ae (ae n.aa i0).ai i2)),bT,bT,bT,.k,bT])) (.br (.r [bT] (.pick 0)) (.r [.int ↑(i4+1),bT] (.pick 1)))) (.r (.row (aV (ae (ae n.aa i0).ai i2))::.k::uFF 13 [bT]) (.r [.int ↑(i4+1),bT] (.pick 1))))))
abbrev zg (i0:Nat) (n:Net):=(decide ((ae n.aa i0).aI>=(length (map aE n.rules):Int)))
abbrev zAz (i0:Nat) (n:Net):=(decide ((ae n.aa i0).aI<0))
theorem Yt (n:Net) (i0 i2 i4:Nat) (hf:bp n) (hx0:i0<(length n.aa)) (hp2:(zAz i0 n)=false/\(zg i0 n)=false) (hx2:i2<(length (ae n.aa i0).ai)) (hx4:i4<i2):vcC pg 89 base aK 3000 (kbL []) Ix (bz (yU n i0 i2 i4)) (bw (yV n i0 i2 i4)) 1 (bM (yX n i0 i2 i4)) (Xc n i0 i2 i4):=
 have hr:=hf.rules;have hs:=hf.aa;have he:=hf.ai _ (ay hx0);have hb:(decide ((i4:Int)<(i2:Int)))=true:=decide_eq_true oab;
 bc (an (a1 a0)
 (an hb (aM (fun (h1:((ae (ae n.aa i0).ai i2).op==4)=true)=>have g1:=eq_of_beq h1;
 (an (aN 4 (ac (rwa aV (ae n.aa i0).ai i2) (aN 6 (ac (rwa aV (ae n.aa i0).ai i4) (aN 3 (ac h1 (a1 (ac (rwa aV (ae n.aa i0).ai i2) a0))))))))
 (brP (fun (h2:((ae (ae n.aa i0).ai i4).n==(ae (ae n.aa i0).ai i2).n)=true)=>
 (an a0
 (lf (wy (yX n i0 i2 i4) 0) 1 (show mQ n i0 i2 i4=true from (aD h1 h2))))) (fun h2=>
 (an (ac (dwo ((i4+1:Nat):Int)) a0)
 (lf (wy (yX n i0 i2 i4) 1) 1 ⟨(show mQ n i0 i2 i4=false from (aD h1 h2)),rfl,rfl⟩)))))) (fun h1=>have g1:=ne_of_beq_false h1;
 (an (aN 12 (ac (au h1) (a1 (ac (rwa aV (ae n.aa i0).ai i2) a0))))
 (an (ac (dwo ((i4+1:Nat):Int)) a0)
 (lf (wy (yX n i0 i2 i4) 1) 1 ⟨(show mQ n i0 i2 i4=false from (bf h1)),rfl,rfl⟩)))))))
 oaa
theorem Yu (n:Net) (i0 i2:Nat) (hf:bp n) (hx0:i0<(length n.aa)) (hp2:(zAz i0 n)=false/\(zg i0 n)=false) (hx2:i2<(length (ae n.aa i0).ai)):vcC pg 89 base aK 3000 (kbL []) Ix (bz (yU n i0 i2 i2)) (bw (yV n i0 i2 i2)) 1 (bM [⟨True,(.exit 4),tc n i0 i2,range 1,td n i0 i2⟩]) zG:=
 have hr:=hf.rules;have hs:=hf.aa;have hb:(decide ((i2:Int)<(i2:Int)))=false:=decide_eq_false oab;
 bc (an (a1 a0)
 (an hb (lf (wy [⟨True,(.exit 4),tc n i0 i2,range 1,td n i0 i2⟩] 0) 1 trivial)))
 oaa
theorem Ri (n:Net) (i0 i2 i4:Nat):(yX n i0 i2 i4).all zj=true:=(aF oan (aF (aR rfl rfl rfl (by simp_all [nxW,yU,plS,AV.pure]) (by simp_all [nxW,yV,plO])) bC))
theorem Rl (n:Net) (i0 i2:Nat):bG.cS 0 ⟨True,(.exit 4),tc n i0 i2,range 1,td n i0 i2⟩=true:=(aR rfl rfl rfl (by simp_all [tc,plS,AV.pure]) (by simp_all [td,plO]))
theorem Rm (n:Net) (i0 i2:Nat) (hf:bp n) (hx0:i0<(length n.aa)) (hp2:(zAz i0 n)=false/\(zg i0 n)=false) (hx2:i2<(length (ae n.aa i0).ai)):cQ pg 89 0 4 (.loop Ix) (yW n i0 i2):=
 have hr:=hf.rules;have hs:=hf.aa;bW (fun _=>eB (id:=4) (m:=i2) (t:=mQ n i0 i2) (xr:= .ret) (xn:=(.exit 4)) (Lr:=Kx n i0 i2) (Lx:=tc n i0 i2) (obr:=Ky n i0 i2) (obx:=td n i0 i2) (V:=fun i4=>vcC pg 89 base aK 3000 (kbL []) Ix) (yU n i0 i2) (yV n i0 i2) 1 (yX n i0 i2) (Xc n i0 i2) _ _ oaq (aL aw mixed (az _)) (fun e=>by cases e) (fun e=>by cases e) (fun _=>rfl) (by grind [Yt]) (fun i4 _=>Ri n i0 i2 i4) (fun i4 _=>show∀ww∈yX n i0 i2 i4,cm _ _ _ _ _ _ ww from (aC cT (aC bU bB))) (Yu n i0 i2 hf hx0 hp2 hx2) (Rl n i0 i2)) (fun h=>h) (fun h=>h)
def yY (n:Net) (i0 i2:Nat):Am.Loc:=(zBq i0 i2 n)
def yZ (n:Net) (i0 i2:Nat):List Ob:=[.box 40 (zK i0 n)]
def mR (n:Net) (i0 i2:Nat):Bool:=((!(r68 n (ae n.aa i0) (i0:Int) (ae (ae n.aa i0).ai i2)))||(rz n i0 i2))
def ij (n:Net) (i0:Nat):Bool:=cX (length (ae n.aa i0).ai) (mR n i0)
def Kz (n:Net) (i0 i2:Nat):Am.Loc:=[(2,B false)]
def KA (n:Net) (i0 i2:Nat):List Ob:=[]
def tf (n:Net) (i0:Nat):Am.Loc:=(zAy i0 n)
def th (n:Net) (i0:Nat):List Ob:=[.box 40 (zK i0 n)]
abbrev zC (i0:Nat) (n:Net):=(ae n.aa i0).ai
abbrev zp (i0:Nat) (n:Net):=(ae n.aa i0).aI
abbrev zBa (i0:Nat) (n:Net):=(length (zC i0 n))
def tj (n:Net) (i0:Nat):KB:=⟨yY n i0 0,yZ n i0 0,ij n i0,.ret,Kz n i0 (b4 (zBa i0 n) (mR n i0)),KA n i0 (b4 (zBa i0 n) (mR n i0)),.normal,tf n i0,th n i0,(decide ((zp i0 n)<0))=false/\(zg i0 n)=false⟩
def y9 (n:Net) (i0 i2:Nat):List bG:=[htW (mR n i0 i2) .ret (Kz n i0 i2) zb (KA n i0 i2),nxW (mR n i0 i2) (yY n i0 (i2+1)) (yZ n i0 (i2+1)) (yY n i0 (i2+1)) zAO (yZ n i0 (i2+1))]
def Xd (n:Net) (i0 i2:Nat):GT:=(.r [.k,bT] (.yes (.r [.row (aV (ae (ae n.aa i0).ai i2)),.int 0,bT] (.br (.r [bT] (.pick 0)) (.r [bT] (.br (.pick 0) (.r [.int ↑(i2+1),bT] (.pick 1))))))))
abbrev zAK (i0 i2:Nat) (n:Net):=(ae (zC i0 n) i2)
abbrev zAf (i0 i2:Nat) (n:Net):=(decide ((i2:Int)<(length (map aV (ae n.aa i0).ai):Int)))
theorem Yv (n:Net) (i0 i2:Nat) (hf:bp n) (hx0:i0<(length n.aa)) (hp2:(zAz i0 n)=false/\(zg i0 n)=false) (hx2:i2<(length (ae n.aa i0).ai)):vcC pg 89 (bI [i68 n (ae n.aa i0) (i0:Int) (zAK i0 i2 n)] base) aK 3000 (kbL [(4,yW n i0 i2)]) yT (bz (yY n i0 i2)) (bw (yZ n i0 i2)) 1 (bM (y9 n i0 i2)) (Xd n i0 i2):=
 have hr:=hf.rules;have hs:=hf.aa;have gp0:=of_decide_eq_false hp2.1;have gp1:=of_decide_eq_false hp2.2;have lp1:=aU aE (n.rules);have he:=hf.ai _ (ay hx0);have l1:=aU aV ((ae n.aa i0).ai);have hb:(zAf i0 i2 n)=true:=decide_eq_true oab;
 bc (an (a1 a0)
 (an hb (an (cA (g68 n (ae n.aa i0) (i0:Int) (ae (ae n.aa i0).ai i2)) ⟨hf.Ow _ (ay hx0) _ (ay hx2),(show 0<=State.aI (ae n.aa i0)/\State.aI (ae n.aa i0)<(length n.rules:Int) by omega)⟩ (ac (rwa aV (ae n.aa i0).ai i2) a0))
 (brP (fun (h1:(!(r68 n (ae n.aa i0) (i0:Int) (ae (ae n.aa i0).ai i2)))=true)=>
 (an a0
 (lf (wy (y9 n i0 i2) 0) 1 (show mR n i0 i2=true from (orT h1))))) (fun h1=>
 (an a0
 (an (kbT (yW n i0 i2) trivial) (brP (fun (h2:(rz n i0 i2)=true)=>
 (lf (wy (y9 n i0 i2) 0) 0 (show mR n i0 i2=true from (orF h1 h2)))) (fun h2=>
 (an (ac (dwo ((i2+1:Nat):Int)) a0)
 (lf (wy (y9 n i0 i2) 1) 1 ⟨(show mR n i0 i2=false from (orF h1 h2)),rfl,rfl⟩)))))))))))
 oaa
abbrev zz (i0:Nat) (n:Net):=(decide ((((length (ae n.aa i0).ai):Nat):Int)<(length (map aV (ae n.aa i0).ai):Int)))
theorem Yw (n:Net) (i0:Nat) (hf:bp n) (hx0:i0<(length n.aa)) (hp2:(zAz i0 n)=false/\(zg i0 n)=false):vcC pg 89 base aK 3000 (kbL []) yT (bz (yY n i0 (zBa i0 n))) (bw (yZ n i0 (zBa i0 n))) 1 (bM [⟨True,(.exit 2),tf n i0,range 1,th n i0⟩]) zG:=
 have hr:=hf.rules;have hs:=hf.aa;have gp0:=of_decide_eq_false hp2.1;have gp1:=of_decide_eq_false hp2.2;have lp1:=aU aE (n.rules);have l1:=aU aV ((ae n.aa i0).ai);have hb:(zz i0 n)=false:=decide_eq_false oab;
 bc (an (a1 a0)
 (an hb (lf (wy [⟨True,(.exit 2),tf n i0,range 1,th n i0⟩] 0) 1 trivial)))
 oaa
theorem Rn (n:Net) (i0 i2:Nat):(y9 n i0 i2).all zj=true:=(aF oan (aF (aR rfl rfl rfl (by simp_all [nxW,yY,plS,AV.pure]) (by simp_all [nxW,yZ,plO])) bC))
theorem Ro (n:Net) (i0:Nat):bG.cS 0 ⟨True,(.exit 2),tf n i0,range 1,th n i0⟩=true:=(aR rfl rfl rfl (by simp_all [tf,plS,AV.pure]) (by simp_all [th,plO]))
theorem Fq:dp [4] yT=[(4,.loop Ix)]:=by kernel_rfl
theorem Rq (n:Net) (i0:Nat) (hf:bp n) (hx0:i0<(length n.aa)):cQ pg 89 0 2 (.loop yT) (tj n i0):=
 have hr:=hf.rules;have hs:=hf.aa;bW (fun hp2=>eB (id:=2) (m:=length (ae n.aa i0).ai) (t:=mR n i0) (xr:= .ret) (xn:=(.exit 2)) (Lr:=Kz n i0) (Lx:=tf n i0) (obr:=KA n i0) (obx:=th n i0) (V:=fun i2=>vcC pg 89 (bI [i68 n (ae n.aa i0) (i0:Int) (ae (ae n.aa i0).ai i2)] base) aK 3000 (kbL [(4,yW n i0 i2)]) yT) (yY n i0) (yZ n i0) 1 (y9 n i0) (Xd n i0) _ _ (fun i2 hx2=>aL (bo (.cons (by grind [g68]) rfl cr.nil) aw) mixed (bK (l:=[(4,yW n i0 i2)]) Fq (aT (Rm n i0 i2 hf hx0 hp2 hx2) rfl bj) rfl)) (aL aw mixed (az _)) (fun e=>by cases e) (fun e=>by cases e) (fun _=>rfl) (fun i2 hx2=>Yv n i0 i2 hf hx0 hp2 hx2) (fun i2 _=>Rn n i0 i2) (fun i2 _=>show∀ww∈y9 n i0 i2,cm _ _ _ _ _ _ ww from (aC cT (aC bU bB))) (Yw n i0 hf hx0 hp2) (Ro n i0)) (fun h=>h) (fun h=>h)
def z6 (n:Net) (i0:Nat):Am.Loc:=(zAy i0 n)
def Dn (n:Net) (i0:Nat):List Ob:=[]
def kL (n:Net) (i0:Nat):Bool:=((decide ((ae n.aa i0).aI<0))||((decide ((ae n.aa i0).aI>=(length (map aE n.rules):Int)))||(bif (length (map aV (ae n.aa i0).ai):Int)==0 then (((i0:Int) !=(aq n.rules (ae n.aa i0).aI).stop)||(ij n i0)) else (ij n i0))))
def wq (n:Net):Bool:=cX (length n.aa) (kL n)
def KC (n:Net) (i0:Nat):Am.Loc:=[(2,B false)]
def KD (n:Net) (i0:Nat):List Ob:=[]
def z7 (n:Net):Am.Loc:=[]
def z8 (n:Net):List Ob:=[]
abbrev zH (n:Net):=(length n.aa)
def Fs (n:Net):KB:=⟨z6 n 0,Dn n 0,wq n,.ret,KC n (b4 (zH n) (kL n)),KD n (b4 (zH n) (kL n)),.normal,z7 n,z8 n,True⟩
def mS (n:Net) (i0:Nat):List bG:=[htW (kL n i0) .ret (KC n i0) zb (KD n i0),nxW (kL n i0) (z6 n (i0+1)) (Dn n (i0+1)) (z6 n (i0+1)) zb (Dn n (i0+1))]
def Xe (n:Net) (i0:Nat):GT:=(.r [.k,bT] (.yes (.r [.row (ak (ae n.aa i0)),bT] (.a (.r (.k::uFF 6 [bT]) (.r [bT] (.pick 0))) (.r (.k::uTT 6 [.k,bT]) (.br (.r [bT] (.pick 0)) (.a (.r (.k::uTT 6 [.cd ((ae n.aa i0).aI).toNat (aE (aq n.rules (ae n.aa i0).aI)),bT,bT,bT,.k,bT]) (.br (.r [bT] (.pick 0)) (.r [bT] (.br (.pick 0) (.r [.int ↑(i0+1),bT] (.pick 1)))))) (.r (.k::uFF 9 [bT]) (.r [bT] (.br (.pick 0) (.r [.int ↑(i0+1),bT] (.pick 1))))))))))))
abbrev zc (i0:Nat) (n:Net):=(decide ((i0:Int)<(length (map ak n.aa):Int)))
theorem Yx (n:Net) (i0:Nat) (hf:bp n) (hx0:i0<(length n.aa)):vcC pg 89 base aK 3000 (kbL [(2,tj n i0)]) yS (bz (z6 n i0)) (bw (Dn n i0)) 0 (bM (mS n i0)) (Xe n i0):=
 have hr:=hf.rules;have hs:=hf.aa;have l1:=aU ak (n.aa);have hb:(zc i0 n)=true:=decide_eq_true oab;
 bc (an (a1 a0)
 (an hb (an (ac (rwa ak n.aa i0) a0)
 (aM (fun (h1:(zAz i0 n)=true)=>
 (an (aN 5 (ac (n2 h1) (a1 a0)))
 (an a0
 (lf (wy (mS n i0) 0) 1 (show kL n i0=true from (orT h1)))))) (fun h1=>have q0:=(orF h1 rfl:kL n i0=_);have g1:=of_decide_eq_false h1;
 (an (aN 6 (ac (au h1) (a1 a0)))
 (brP (fun (h2:(zg i0 n)=true)=>
 (an a0
 (lf (wy (mS n i0) 0) 1 (q0.trans (orT h2))))) (fun h2=>have q1:=q0.trans (orF h2 rfl);have l2:=aU aE (n.rules);have g2:=of_decide_eq_false h2;
 (aM (fun (h3:((length (map aV (ae n.aa i0).ai):Int)==0)=true)=>have q2:=q1.trans (cdT h3 rfl);have l3:=aU aV ((ae n.aa i0).ai);have g3:=eq_of_beq h3;
 (an (aN 4 (ac (rwz aE n.rules (ae n.aa i0).aI) (aN 5 (ac h3 (a1 a0)))))
 (brP (fun (h4:((i0:Int) !=(aq n.rules (ae n.aa i0).aI).stop)=true)=>
 (an a0
 (lf (wy (mS n i0) 0) 1 (q2.trans (orT h4))))) (fun h4=>have q4:=q2.trans (orF h4 rfl);
 (an a0
 (an (kbT (tj n i0) ⟨h1,h2⟩) (brP (fun (h5:(ij n i0)=true)=>
 (lf (wy (mS n i0) 0) 0 (q4.trans h5))) (fun h5=>
 (an (ac (dwo ((i0+1:Nat):Int)) a0)
 (lf (wy (mS n i0) 1) 1 ⟨(q4.trans h5),rfl,rfl⟩)))))))))) (fun h3=>have q3:=q1.trans (cdF h3 rfl);have l3:=aU aV ((ae n.aa i0).ai);have g3:=ne_of_beq_false h3;
 (an (aN 8 (ac (au h3) (a1 a0)))
 (an a0
 (an (kbT (tj n i0) ⟨h1,h2⟩) (brP (fun (h4:(ij n i0)=true)=>
 (lf (wy (mS n i0) 0) 0 (q3.trans h4))) (fun h4=>
 (an (ac (dwo ((i0+1:Nat):Int)) a0)
 (lf (wy (mS n i0) 1) 1 ⟨(q3.trans h4),rfl,rfl⟩)))))))))))))))))
 oaa
abbrev zO (n:Net):=(decide ((((length n.aa):Nat):Int)<(length (map ak n.aa):Int)))
theorem Yy (n:Net) (hf:bp n):vcC pg 89 base aK 3000 (kbL []) yS (bz (z6 n (zH n))) (bw (Dn n (zH n))) 0 (bM [⟨True,(.exit 0),z7 n,range 0,z8 n⟩]) zG:=
 have hr:=hf.rules;have hs:=hf.aa;have l1:=aU ak (n.aa);have hb:(zO n)=false:=decide_eq_false oab;
 bc (an (a1 a0)
 (an hb (lf (wy [⟨True,(.exit 0),z7 n,range 0,z8 n⟩] 0) 0 trivial)))
 oaa
theorem Rr (n:Net) (i0:Nat):(mS n i0).all zj=true:=(aF oan (aF (aR rfl rfl rfl (by simp_all [nxW,z6,plS,AV.pure]) rfl) bC))
theorem Rt (n:Net):bG.cS 0 ⟨True,(.exit 0),z7 n,range 0,z8 n⟩=true:=(aR rfl rfl rfl rfl rfl)
theorem Ft:dp [2] yS=[(2,.loop yT)]:=by kernel_rfl
theorem Ru (n:Net) (hf:bp n):cQ pg 89 0 0 (.loop yS) (Fs n):=
 have hr:=hf.rules;have hs:=hf.aa;bW (fun _=>eB (id:=0) (m:=length n.aa) (t:=kL n) (xr:= .ret) (xn:=(.exit 0)) (Lr:=KC n) (Lx:=z7 n) (obr:=KD n) (obx:=z8 n) (V:=fun i0=>vcC pg 89 base aK 3000 (kbL [(2,tj n i0)]) yS) (z6 n) (Dn n) 0 (mS n) (Xe n) _ _ (fun i0 hx0=>aL aw mixed (bK (l:=[(2,tj n i0)]) Ft (aT (Rq n i0 hf hx0) rfl bj) rfl)) (aL aw mixed (az _)) (fun e=>by cases e) (fun e=>by cases e) (fun _=>rfl) (fun i0 hx0=>Yx n i0 hf hx0) (fun i0 _=>Rr n i0) (fun i0 _=>show∀ww∈mS n i0,cm _ _ _ _ _ _ ww from (aC cT (aC bU bB))) (Yy n hf) (Rt n)) (fun h=>h) (fun h=>h)
def r33 (n:Net):Bool:=(!(wq n))
theorem vA:dp [0] (aH 33)=[(0,.loop yS)]:=by kernel_rfl
theorem Rv (n:Net) (hf:bp n):bg pg 33 [.ag (aW n)] [] [] (B (r33 n)) []:=
 bD (fn:=Tryz.f33) (callf:=base) (pu:=aK) (lf:=3000) (l:=[(0,Fs n)]) (t:=zh) aw mixed Tryz.func33 oaa (show Tryz.f33.body=some (aH 33) by kernel_rfl) (Nat.le_of_ble_eq_true rfl) (bK (l:=[(0,Fs n)]) vA (aT (Ru n hf) rfl bj) rfl) rfl (bc
 (an a0
 (an a0
 (an (kbT (Fs n) trivial) (brP (fun (h0:(wq n)=true)=>
 (bE (show r33 n=false from (cq h0)))) (fun h0=>
 (an a0
 (bE (show r33 n=true from (au h0)))))))))
 oaa)
def Iy:Code:=bP 0 (aH 60)
def KE (l:List ByteArray) (i0:Nat) (y0:List ByteArray):List ByteArray:=y0++ [(ae l i0)]
def fE (l:List ByteArray) (kk:Nat):List ByteArray:=Nat.rec (motive:=fun _=>List ByteArray) ([]) (fun j a=>KE l j a) kk
def KF (l:List ByteArray) (i0:Nat) (y0:List ByteArray):List Ob:=[eC y0]
def Dp (l:List ByteArray) (i0:Nat):Am.Loc:=[(3,.mp 0),(7,.sl 1 (zBp l)),(8,I (length (zBp l):Int)),(9,I (i0:Int))]
def uB (l:List ByteArray) (i0:Nat):List Ob:=KF l i0 (fE l i0)
def rA (l:List ByteArray) (i0:Nat):Bool:=((cG (Array.toList (ByteArray.data (ae l i0))) [])||((decide ((ByteArray.size (ae l i0):Int)>40))||(dec ((ae l i0)∈(fE l i0)))))
def wu (l:List ByteArray):Bool:=cX (length l) (rA l)
def Fu (l:List ByteArray) (i0:Nat):Am.Loc:=[(2,B false)]
def Aa (l:List ByteArray) (i0:Nat):List Ob:=[]
def tk (l:List ByteArray):Am.Loc:=[]
def o6 (l:List ByteArray):List Ob:=[eC (fE l (length l))]
def Fv (l:List ByteArray):KB:=⟨Dp l 0,uB l 0,wu l,.ret,Fu l (b4 (length l) (rA l)),Aa l (b4 (length l) (rA l)),.normal,tk l,o6 l,True⟩
def uC (l:List ByteArray) (i0:Nat):List bG:=[htW (rA l i0) .ret (Fu l i0) zb (Aa l i0),nxW (rA l i0) (Dp l (i0+1)) (uB l (i0+1)) [(3,.mp 0),(7,.sl 1 (zBp l)),(8,I (length (zBp l):Int)),(9,I ↑(i0+1))] zAO [.mp (map Value.string (fE l i0)++ [.string (ae l i0)]) (map tru (fE l i0)++ [.v (.bool true)])]]
def Xf (l:List ByteArray) (i0:Nat):GT:=(.r [.k,bT] (.yes (.r [.row (bH (ae l i0)),bT] (.a (.r (.k::uFF 6 [bT]) (.r [bT] (.pick 0))) (.a (.r [.k,bT,bT,bT,.k,bF,bF,bF,bT] (.r [bT] (.pick 0))) (.r [.k,bT,bT,bT,.k,bT,bT,bT,.key (ja (fE l i0) (ae l i0)) (B (dec ((ae l i0)∈(fE l i0)))),bT] (.br (.r [bT] (.pick 0)) (.r [.key none .any,bT] (.r [.int ↑(i0+1),bT] (.pick 1))))))))))
theorem Yz (l:List ByteArray) (i0:Nat) (ls:length l<=9223372036854775807) (hx0:i0<(length l)):vcC pg 28 base aK 3000 (kbL []) Iy (bz (Dp l i0)) (bw (uB l i0)) 1 (bM (uC l i0)) (Xf l i0):=
 have l1:=aU bH (l);have hb:(decide ((i0:Int)<(length (map bH l):Int)))=true:=decide_eq_true oab;
 bc (an (a1 a0)
 (an hb (an (ac (rwa bH l i0) a0)
 (aM (fun (h1:(cG (Array.toList (ByteArray.data (ae l i0))) [])=true)=>
 (an (aN 5 (ac (n2 h1) (a1 a0)))
 (an a0
 (lf (wy (uC l i0) 0) 1 (show rA l i0=true from (orT h1)))))) (fun h1=>have q0:=(orF h1 rfl:rA l i0=_);have g1:=size_pos h1;
 (aM (fun (h2:(decide ((ByteArray.size (ae l i0):Int)>40))=true)=>
 (an (aN 2 (ac (n2 h2) (aN 3 (ac (au h1) (a1 a0)))))
 (an a0
 (lf (wy (uC l i0) 0) 1 (q0.trans (orT h2)))))) (fun h2=>have q1:=q0.trans (orF h2 rfl);have g2:=of_decide_eq_false h2;
 (an (ac (lkS (ae l i0) (fE l i0)) (aN 2 (ac (au h2) (aN 3 (ac (au h1) (a1 a0))))))
 (brP (fun (h3:(dec ((ae l i0)∈(fE l i0)))=true)=>
 (an a0
 (lf (wy (uC l i0) 0) 1 (q1.trans h3)))) (fun h3=>
 (an (ac (nwS h3) a0)
 (an (ac (dwo ((i0+1:Nat):Int)) a0)
 (lf (wy (uC l i0) 1) 1 ⟨(q1.trans h3),rfl,(by rw [show uB l (i0+1)=(fun y0:List ByteArray=>([eC y0]:List Ob)) (fE l (i0+1)) from rfl,(show fE l (i0+1)=((fE l i0)++ [(ae l i0)]) from rfl),(Qe (ae l i0) (fE l i0))])⟩)))))))))))))
 oaa
theorem YA (l:List ByteArray) (ls:length l<=9223372036854775807):vcC pg 28 base aK 3000 (kbL []) Iy (bz (Dp l (length l))) (bw (uB l (length l))) 1 (bM [⟨True,(.exit 0),tk l,range 1,o6 l⟩]) zG:=
 have l1:=aU bH (l);have hb:(zCO l)=false:=decide_eq_false oab;
 bc (an (a1 a0)
 (an hb (lf (wy [⟨True,(.exit 0),tk l,range 1,o6 l⟩] 0) 1 trivial)))
 oaa
theorem Rw (l:List ByteArray) (i0:Nat):(uC l i0).all zj=true:=by refine (aF (aR rfl rfl rfl ?_ ?_) (aF (aR rfl rfl rfl ?_ ?_) bC))<;>simp (maxDischargeDepth:=9) [nxW,htW,Dp,Fu,tk,plS,AV.pure,ah,aj,KF,uB,Aa,o6,plO,eC,dG]
theorem Rx (l:List ByteArray):bG.cS 0 ⟨True,(.exit 0),tk l,range 1,o6 l⟩=true:=(aR rfl rfl rfl rfl (by simp (maxDischargeDepth:=9) [nxW,htW,KF,uB,Aa,o6,plS,plO,eC,dG,AV.pure,ah,aj]))
theorem Ry (l:List ByteArray) (ls:length l<=9223372036854775807):cQ pg 28 0 0 (.loop Iy) (Fv l):=
 bW (fun _=>eB (id:=0) (m:=length l) (t:=rA l) (xr:= .ret) (xn:=(.exit 0)) (Lr:=Fu l) (Lx:=tk l) (obr:=Aa l) (obx:=o6 l) (V:=fun i0=>vcC pg 28 base aK 3000 (kbL []) Iy) (Dp l) (uB l) 1 (uC l) (Xf l) _ _ oaq (aL aw mixed (az _)) (fun e=>by cases e) (fun e=>by cases e) (fun _=>rfl) (fun i0 hx0=>Yz l i0 ls hx0) (fun i0 _=>Rw l i0) (fun i0 _=>show∀ww∈uC l i0,cm _ _ _ _ _ _ ww from (aC cT (aC bU bB))) (YA l ls) (Rx l)) (fun h=>h) (fun h=>h)
def r60 (l:List ByteArray):Bool:=(!(wu l))
theorem vB:dp [0] (aH 60)=[(0,.loop Iy)]:=by kernel_rfl
theorem Iz (l:List ByteArray) (ls:length l<=9223372036854775807):bg pg 60 [.sl 1 (zBp l)] [] [] (B (r60 l)) []:=
 bD (fn:=Tryz.f60) (callf:=base) (pu:=aK) (lf:=3000) (l:=[(0,Fv l)]) (t:=(.r [bT] zh)) aw mixed Tryz.func60 oaa (show Tryz.f60.body=some (aH 60) by kernel_rfl) (Nat.le_of_ble_eq_true rfl) (bK (l:=[(0,Fv l)]) vB (aT (Ry l ls) rfl bj) rfl) rfl (bc
 (an a0
 (an a0
 (an a0
 (an (kbT (Fv l) trivial) (brP (fun (h0:(wu l)=true)=>
 (bE (show r60 l=false from (cq h0)))) (fun h0=>
 (an a0
 (bE (show r60 l=true from (au h0))))))))))
 oaa)
def i60 (l:List ByteArray):cc:=⟨60,[.sl 1 (l.map bH)],B (r60 l),l.length<=9223372036854775807⟩
theorem g60 (l:List ByteArray):(i60 l).b7 pg:=fun hp=>(by simp_all [Iz,i60,ah,AV.pure])
def i60d (l:List ByteArray):cc:=⟨60,[.sl 1 (List.take ((zBp l).length-1) (List.drop 1 (zBp l)))],B (r60 (l.drop 1)),l.length<=9223372036854775807⟩
theorem g60d (l:List ByteArray):(i60d l).b7 pg:=fun hp=>by
 have e:List.take ((map bH l).length-1) (List.drop 1 (map bH l))=map bH (l.drop 1):=by grind [List.map_drop,List.take_of_length_le]
 have hp:l.length<=9223372036854775807:=hp
 grind [i60d,Iz,ah,AV.pure,X2]
def r61 (l:List ByteArray):Bool:=((decide ((length (map bH l):Int)>0))&&((decide ((length (map bH l):Int)<=20))&&((cG (Array.toList (ByteArray.data (ae l 0))) [])&&r60 (List.drop 1 l))))
theorem VN (l:List ByteArray) (ls:length l<=9223372036854775807):bg pg 61 [.sl 1 (zBp l)] [] [] (B (r61 l)) []:=
 bD (fn:=Tryz.f61) (callf:=(bI [i60d l] base)) (pu:=aK) (lf:=3000) (l:=[]) (t:=(.r [bT] (.a (.a (.a (.r [.k,bT,bT,bT,.k,bT,bT,.row (bH (ae l 0)),bT,bT,.k,bT,bT,bT,.int 0,bT] .nil) (.r [.k,bT,bT,bT,.k,bT,bT,.row (bH (ae l 0)),bT,bT,.k,bF,bF,bF,bT] .nil)) zBx) (.r zAv .nil)))) (bo (.cons (g60d l) rfl cr.nil) aw) mixed Tryz.func61 oaa (show Tryz.f61.body=some (aH 61) by kernel_rfl) (Nat.le_of_ble_eq_true rfl) (az _) rfl (bc
 (an a0
 (aM (fun (h0:(decide ((length (map bH l):Int)>0))=true)=>have l1:=aU bH (l);have g0:=of_decide_eq_true h0;
 (aM (fun (h1:(decide ((length (map bH l):Int)<=20))=true)=>have g1:=of_decide_eq_true h1;
 (aM (fun (h2:(cG (Array.toList (ByteArray.data (ae l 0))) [])=true)=>
 (an (cA (g60d l) ls (a1 (ac (slo 1 (length (map bH l)) (length (map bH l))) (a1 (ac h2 (aN 3 (ac (rwa bH l 0) (a1 (ac h1 (aN 3 (ac h0 (a1 a0))))))))))))
 (bE (show r61 l=(r60 (List.drop 1 l)) from (aD h0 (aD h1 (aD h2 rfl))))))) (fun h2=>have g2:=size_pos h2;
 (an (aN 2 (ac (au h2) (aN 3 (ac (rwa bH l 0) (a1 (ac h1 (aN 3 (ac h0 (a1 a0)))))))))
 (bE (show r61 l=false from (aD h0 (aD h1 (bf h2))))))))) (fun h1=>
 (an (aN 6 (ac (au h1) (aN 3 (ac h0 (a1 a0)))))
 (bE (show r61 l=false from (aD h0 (bf h1)))))))) (fun h0=>
 (an (aN 9 (ac (au h0) (a1 a0)))
 (bE (show r61 l=false from (bf h0)))))))
 oaa)
def i61 (l:List ByteArray):cc:=⟨61,[.sl 1 (l.map bH)],B (r61 l),l.length<=9223372036854775807⟩
theorem g61 (l:List ByteArray):(i61 l).b7 pg:=fun hp=>(by simp_all [VN,i61,ah,AV.pure])
@[simp] theorem Rz (l:List ca):aj (map (bH∘ca.name) l)=true:=aY (fun _=>rfl) l
@[simp] theorem aaH (l:List ca) (i j:Nat):aj (List.take i (List.take j (map (bH∘ca.name) l)))=true:=jq _ (jq _ (Rz l))
theorem hH {n:Net} {i:Nat} (h:i<n.rules.length):List.take i (map bH (map ca.name (List.take i n.rules)))++ [bH (ae n.rules i).name]=map bH (map ca.name (List.take (i+1) n.rules)):=by
 grind [List.take_of_length_le,C8]
def Dq:Code:=bP 0 (aH 31)
def Ab (n:Net) (i0:Nat):Am.Loc:=[(1,.pf (aW n)),(3,.sr 0 1 0 i0),(4,I (i0:Int))]
abbrev zBH (i0:Nat) (n:Net):=(map bH (map ca.name (List.take i0 n.rules)))
def IA (n:Net) (i0:Nat):List Ob:=[.row 9 1 (zBH i0 n)]
def rB (n:Net) (i0:Nat):Bool:=((ae n.rules i0).bO&&((decide ((i0:Int)>0))&&(!(ae n.rules (i0-1)).bO)))
def rC (n:Net):Bool:=cX (length n.rules) (rB n)
def KG (n:Net) (i0:Nat):Am.Loc:=[(2,B false)]
def KH (n:Net) (i0:Nat):List Ob:=[]
def o7 (n:Net):Am.Loc:=[(1,.pf (aW n)),(3,.sr 0 1 0 (zS n))]
abbrev zAo (n:Net):=(map bH (map ca.name (List.take (zS n) n.rules)))
def tl (n:Net):List Ob:=[.row 9 1 (zAo n)]
def hJ (n:Net):KB:=⟨Ab n 0,IA n 0,rC n,.ret,KG n (b4 (zS n) (rB n)),KH n (b4 (zS n) (rB n)),.normal,o7 n,tl n,True⟩
def uD (n:Net) (i0:Nat):List bG:=[htW (rB n i0) .ret (KG n i0) zb (KH n i0),nxW (rB n i0) (Ab n (i0+1)) (IA n (i0+1)) [(1,.pf (aW n)),(3,.sr 0 1 0 (i0+1)),(4,I ↑(i0+1))] [1] [.row 9 1 ((List.take i0 (zBH i0 n))++ [(bH (ae n.rules i0).name)])]]
def Xg (n:Net) (i0:Nat):GT:=(.r [.k,bT] (.yes (.r [.row (aE (ae n.rules i0)),bT] (.a (.a (.r (.row (aE (ae n.rules i0))::bT::bT::.k::uTT 4 (.int ((i0-1:Nat):Int)::bT::.row (aE (ae n.rules (i0-1)))::uTT 4 [])) (.br (.r [bT] (.pick 0)) (.r [.int ↑(i0+1),bT] (.pick 1)))) (.r (.row (aE (ae n.rules i0))::bT::bT::.k::uFF 8 [bT]) (.r [.int ↑(i0+1),bT] (.pick 1)))) (.r (.row (aE (ae n.rules i0))::uFF 10 [bT]) (.r [.int ↑(i0+1),bT] (.pick 1)))))))
theorem YB (n:Net) (i0:Nat) (hf:j9 n) (hx0:i0<(length n.rules)):vcC pg 98 base aK 3000 (kbL []) Dq (bz (Ab n i0)) (bw (IA n i0)) 1 (bM (uD n i0)) (Xg n i0):=
 have hr:=hf.rules;have hlen:length (map bH (map ca.name (List.take i0 n.rules)))=min i0 (length n.rules):=oai;have l1:=aU aE (n.rules);have hb:(zAY i0 n)=true:=decide_eq_true oab;
 bc (an (a1 a0)
 (an hb (an (ac (apA (k:=i0) (l:=length (map bH (map ca.name (List.take i0 n.rules)))) (n:=1) (B:=16) oab oab oab) (ac (rwa aE n.rules i0) a0))
 (aM (fun (h1:((ae n.rules i0).bO)=true)=>have q0:=(aD h1 rfl:rB n i0=_);
 (aM (fun (h2:(decide ((i0:Int)>0))=true)=>have q1:=q0.trans (aD h2 rfl);have g2:=of_decide_eq_true h2;
 (an (aN 3 (ac (rwa aE n.rules (i0-1)) (a1 (ac (dso i0) (aN 3 (ac h2 (aN 2 (ac h1 (ac (rwa aE n.rules i0) a0)))))))))
 (brP (fun (h3:(!(ae n.rules (i0-1)).bO)=true)=>
 (an a0
 (lf (wy (uD n i0) 0) 2 (q1.trans h3)))) (fun h3=>
 (an (ac (dwo ((i0+1:Nat):Int)) a0)
 (lf (wy (uD n i0) 1) 2 ⟨(q1.trans h3),rfl,congrArg (fun z=>([.row 9 1 z]:List Ob)) (hH hx0)⟩)))))) (fun h2=>have g2:=of_decide_eq_false h2;
 (an (aN 7 (ac (au h2) (aN 2 (ac h1 (ac (rwa aE n.rules i0) a0)))))
 (an (ac (dwo ((i0+1:Nat):Int)) a0)
 (lf (wy (uD n i0) 1) 2 ⟨(q0.trans (bf h2)),rfl,congrArg (fun z=>([.row 9 1 z]:List Ob)) (hH hx0)⟩)))))) (fun h1=>
 (an (aN 9 (ac (au h1) (ac (rwa aE n.rules i0) a0)))
 (an (ac (dwo ((i0+1:Nat):Int)) a0)
 (lf (wy (uD n i0) 1) 2 ⟨(show rB n i0=false from (bf h1)),rfl,congrArg (fun z=>([.row 9 1 z]:List Ob)) (hH hx0)⟩))))))))
 oaa
theorem YC (n:Net) (hf:j9 n):vcC pg 98 base aK 3000 (kbL []) Dq (bz (Ab n (zS n))) (bw (IA n (zS n))) 1 (bM [⟨True,(.exit 0),o7 n,range 1,tl n⟩]) zG:=
 have hr:=hf.rules;have l1:=aU aE (n.rules);have hb:(zJ n)=false:=decide_eq_false oab;
 bc (an (a1 a0)
 (an hb (lf (wy [⟨True,(.exit 0),o7 n,range 1,tl n⟩] 0) 1 trivial)))
 oaa
theorem RA (n:Net) (i0:Nat):(uD n i0).all zj=true:=(aF oan (aF (aR rfl rfl rfl (by simp_all [nxW,plS,AV.pure]) (by simp_all [nxW,plO,aj])) bC))
theorem RB (n:Net):bG.cS 0 ⟨True,(.exit 0),o7 n,range 1,tl n⟩=true:=(aR rfl rfl rfl (by simp_all [o7,plS,AV.pure]) (by simp_all [tl,plO]))
theorem RC (n:Net) (hf:j9 n):cQ pg 98 0 0 (.loop Dq) (hJ n):=
 have hr:=hf.rules;bW (fun _=>eB (id:=0) (m:=length n.rules) (t:=rB n) (xr:= .ret) (xn:=(.exit 0)) (Lr:=KG n) (Lx:=o7 n) (obr:=KH n) (obx:=tl n) (V:=fun i0=>vcC pg 98 base aK 3000 (kbL []) Dq) (Ab n) (IA n) 1 (uD n) (Xg n) _ _ oaq (aL aw mixed (az _)) (fun e=>by cases e) (fun e=>by cases e) (fun _=>rfl) (fun i0 hx0=>YB n i0 hf hx0) (fun i0 _=>RA n i0) (fun i0 _=>show∀ww∈uD n i0,cm _ _ _ _ _ _ ww from (aC cT (aC bU bB))) (YC n hf) (RB n)) (fun h=>h) (fun h=>h)
theorem Ox (n:Net) (hf:j9 n):cQ pg 98 0 0 (.loop Dq) ⟨[(1,.pf (aW n)),(3,.v (.slice none 0 0)),(4,I 0)],[],(hJ n).hit,(hJ n).x1,(hJ n).L1,(hJ n).ob1,(hJ n).x2,[(1,.pf (aW n)),(3,.sl 1 (map bH (map ca.name (List.take (length n.rules) n.rules))))],[],(hJ n).p⟩:=
 have hr:=hf.rules;x7 (RC n hf) (C1 (L:=[(1,.pf (aW n)),(3,.v (.slice none 0 0)),(4,I 0)]) (L' :=Ab n 0) (ob:=[]) (T:=9) (S:=1) (by grind [Ab,lk])) (eQ.refl _ _) rfl (C2 (L:=o7 n) (L' :=[(1,.pf (aW n)),(3,.sl 1 (map bH (map ca.name (List.take (length n.rules) n.rules))))]) (ob:=[]) (k:=length n.rules) (T:=9) (rows:=(map bH (map ca.name (List.take (length n.rules) n.rules)))) oai (Nat.zero_le _) (fun a av e=>by
  simp only [dk] at e
  split at e
  ·rename_i h;subst h;exact .inl ⟨by rw [<-e];rfl,by rw [<-Option.some.inj e];simp_all [AV.und,dD]⟩
  ·split at e
   ·rename_i h;subst h;exact .inr ⟨rfl,(Option.some.inj e).symm,by grind [AV.und,dj,kJ]⟩
   ·simp [lk] at e) rfl) rfl
def Fw (n:Net):KB:=⟨[(1,.pf (aW n)),(3,.v (.slice none 0 0)),(4,I 0)],[],(hJ n).hit,(hJ n).x1,(hJ n).L1,(hJ n).ob1,(hJ n).x2,[(1,.pf (aW n)),(3,.sl 1 (zAo n))],[],(hJ n).p⟩
def r31 (n:Net):Bool:=(!(decide ((length (map bH n.types):Int)>200))&&(!(decide ((length (map bH n.cu):Int)<1))&&(!(decide ((length (map bH n.cu):Int)>20))&&(!(decide ((length (map bH n.cz):Int)<1))&&(!(decide ((length (map bH n.cz):Int)>20))&&(!(decide ((length (map aE n.rules):Int)>100))&&(!(decide ((length (map ak n.aa):Int)>4000))&&(!(rC n)&&((r66 n.types false)&&((r66 n.cu true)&&((r66 n.cz true)&&r66 (map ca.name (List.take (length n.rules) n.rules)) false)))))))))))
theorem vC:dp [0] (aH 31)=[(0,.loop Dq)]:=by kernel_rfl
theorem ME (n:Net) (hf:j9 n):bg pg 31 [.ag (aW n)] [] [] (B (r31 n)) []:=
 have hr:=hf.rules;bD (fn:=Tryz.f31) (callf:=(bI [i66 n.types false,i66 n.cu true,i66 n.cz true,i66 (map ca.name (List.take (length n.rules) n.rules)) false] base)) (pu:=aK) (lf:=3000) (l:=[(0,Fw n)]) (t:=(.r [bT] (.a (.r (.k::uFF 24 [bT]) zF) (.a (.r (.k::uTT 4 (.k::uFF 20 [bT])) zF) (.a (.r (.k::uTT 4 (.k::uTT 4 (.k::uFF 16 [bT]))) zF) (.a (.r (.k::uTT 4 (.k::uTT 4 (.k::uTT 4 (.k::uFF 12 [bT])))) zF) (.a (.r (.k::uTT 4 (.k::uTT 4 (.k::uTT 4 (.k::uTT 4 (.k::uFF 8 [bT]))))) zF) (.a (.r (.k::uTT 4 (.k::uTT 4 (.k::uTT 4 (.k::uTT 4 (.k::uTT 4 (.k::uFF 4 [bT])))))) zF) (.r (.k::uTT 4 (.k::uTT 4 (.k::uTT 4 (.k::uTT 4 (.k::uTT 4 (.k::uTT 4 [.k,bT])))))) (.br zF (.r [bT] (.r [bT] (.br .nil (.a (.a (.a (.r [.int 0,bT,bT,bT,.int 1,bT,bT,bT,.int 2,bT,bT,.int 3,bT] .nil) (.r [.int 0,bT,bT,bT,.int 1,bT,bT,bT,.int 2,bF,bF,bT] .nil)) (.r (.int 0::bT::bT::bT::.int 1::uFF 5 [bT]) .nil)) (.r (.int 0::uFF 8 [bT]) .nil))))))))))))))) (bo (.cons (g66 n.types false) rfl (.cons (g66 n.cu true) rfl (.cons (g66 n.cz true) rfl (.cons (g66 (map ca.name (List.take (length n.rules) n.rules)) false) rfl cr.nil)))) aw) mixed Tryz.func31 oaa (show Tryz.f31.body=some (aH 31) by kernel_rfl) (Nat.le_of_ble_eq_true rfl) (bK (l:=[(0,Fw n)]) vC (aT (Ox n hf) rfl bj) rfl) rfl (bc
 (an a0
 (aM (fun (h0:(decide ((length (map bH n.types):Int)>200))=true)=>
 (an (aN 23 (ac (n2 h0) (a1 a0)))
 (an a0
 (bE (show r31 n=false from (bf (cq h0))))))) (fun h0=>have q0:=(aD (au h0) rfl:r31 n=_);have l1:=aU bH (n.types);have g0:=of_decide_eq_false h0;
 (aM (fun (h1:(decide ((length (map bH n.cu):Int)<1))=true)=>
 (an (aN 19 (ac (n2 h1) (aN 4 (ac (au h0) (a1 a0)))))
 (an a0
 (bE (q0.trans (bf (cq h1))))))) (fun h1=>have q1:=q0.trans (aD (au h1) rfl);have l2:=aU bH (n.cu);have g1:=of_decide_eq_false h1;
 (aM (fun (h2:(decide ((length (map bH n.cu):Int)>20))=true)=>
 (an (aN 15 (ac (n2 h2) (aN 4 (ac (au h1) (aN 4 (ac (au h0) (a1 a0)))))))
 (an a0
 (bE (q1.trans (bf (cq h2))))))) (fun h2=>have q2:=q1.trans (aD (au h2) rfl);have g2:=of_decide_eq_false h2;
 (aM (fun (h3:(decide ((length (map bH n.cz):Int)<1))=true)=>
 (an (aN 11 (ac (n2 h3) (aN 4 (ac (au h2) (aN 4 (ac (au h1) (aN 4 (ac (au h0) (a1 a0)))))))))
 (an a0
 (bE (q2.trans (bf (cq h3))))))) (fun h3=>have q3:=q2.trans (aD (au h3) rfl);have l3:=aU bH (n.cz);have g3:=of_decide_eq_false h3;
 (aM (fun (h4:(decide ((length (map bH n.cz):Int)>20))=true)=>
 (an (aN 7 (ac (n2 h4) (aN 4 (ac (au h3) (aN 4 (ac (au h2) (aN 4 (ac (au h1) (aN 4 (ac (au h0) (a1 a0)))))))))))
 (an a0
 (bE (q3.trans (bf (cq h4))))))) (fun h4=>have q4:=q3.trans (aD (au h4) rfl);have g4:=of_decide_eq_false h4;
 (aM (fun (h5:(decide ((length (map aE n.rules):Int)>100))=true)=>
 (an (aN 3 (ac (n2 h5) (aN 4 (ac (au h4) (aN 4 (ac (au h3) (aN 4 (ac (au h2) (aN 4 (ac (au h1) (aN 4 (ac (au h0) (a1 a0)))))))))))))
 (an a0
 (bE (q4.trans (bf (cq h5))))))) (fun h5=>have q5:=q4.trans (aD (au h5) rfl);have l4:=aU aE (n.rules);have g5:=of_decide_eq_false h5;
 (an (aN 4 (ac (au h5) (aN 4 (ac (au h4) (aN 4 (ac (au h3) (aN 4 (ac (au h2) (aN 4 (ac (au h1) (aN 4 (ac (au h0) (a1 a0)))))))))))))
 (brP (fun (h6:(decide ((length (map ak n.aa):Int)>4000))=true)=>
 (an a0
 (bE (q5.trans (bf (cq h6)))))) (fun h6=>have q6:=q5.trans (aD (au h6) rfl);have l5:=aU ak (n.aa);have g6:=of_decide_eq_false h6;
 (an a0
 (an a0
 (an (kbT (Fw n) trivial) (brP (fun (h7:(rC n)=true)=>
 (bE (q6.trans (bf (cq h7))))) (fun h7=>have q7:=q6.trans (aD (au h7) rfl);
 (aM (fun (h8:(r66 n.types false)=true)=>have q8:=q7.trans (aD h8 rfl);
 (aM (fun (h9:(r66 n.cu true)=true)=>
 (aM (fun (h10:(r66 n.cz true)=true)=>
 (an (cA (g66 (map ca.name (List.take (length n.rules) n.rules)) false) (show length (map ca.name (List.take (length n.rules) n.rules))<=9223372036854775807 by simp;have:=hf.rules;omega) (a1 (ac h10 (cA (g66 n.cz true) hf.cz (aN 2 (ac h9 (cA (g66 n.cu true) hf.mP (aN 2 (ac h8 (cA (g66 n.types false) hf.types a0))))))))))
 (bE (show r31 n=(r66 (map ca.name (List.take (length n.rules) n.rules)) false) from (aD (au h0) (aD (au h1) (aD (au h2) (aD (au h3) (aD (au h4) (aD (au h5) (aD (au h6) (aD (au h7) (aD h8 (aD h9 (aD h10 rfl))))))))))))))) (fun h10=>
 (an (a1 (ac (au h10) (cA (g66 n.cz true) hf.cz (aN 2 (ac h9 (cA (g66 n.cu true) hf.mP (aN 2 (ac h8 (cA (g66 n.types false) hf.types a0)))))))))
 (bE (q8.trans (aD h9 (bf h10)))))))) (fun h9=>
 (an (aN 4 (ac (au h9) (cA (g66 n.cu true) hf.mP (aN 2 (ac h8 (cA (g66 n.types false) hf.types a0))))))
 (bE (q8.trans (bf h9))))))) (fun h8=>
 (an (aN 7 (ac (au h8) (cA (g66 n.types false) hf.types a0)))
 (bE (q7.trans (bf h8)))))))))))))))))))))))))))
 oaa)
def Dr:Code:=bP 0 (aH 26)
abbrev zAF (n:Net):=(map aE n.rules)
def Ac (n:Net) (i0:Nat):Am.Loc:=[(0,.pf (aW n)),(3,.sr 0 1 0 i0),(9,.sl 9 (zAF n)),(10,I (length (zAF n):Int)),(11,I (i0:Int))]
def IB (n:Net) (i0:Nat):List Ob:=[.row 9 1 (zBH i0 n)]
def rD (n:Net) (i0:Nat):Bool:=((decide ((i0:Int)>0))&&((ae n.rules i0).bO&&(!(ae n.rules (i0-1)).bO)))
def rE (n:Net):Bool:=cX (length n.rules) (rD n)
def KJ (n:Net) (i0:Nat):Am.Loc:=[(2,B false)]
def KK (n:Net) (i0:Nat):List Ob:=[]
def o8 (n:Net):Am.Loc:=[(0,.pf (aW n)),(3,.sr 0 1 0 (zS n))]
def tn (n:Net):List Ob:=[.row 9 1 (zAo n)]
def hU (n:Net):KB:=⟨Ac n 0,IB n 0,rE n,.ret,KJ n (b4 (zS n) (rD n)),KK n (b4 (zS n) (rD n)),.normal,o8 n,tn n,True⟩
def uE (n:Net) (i0:Nat):List bG:=[htW (rD n i0) .ret (KJ n i0) zb (KK n i0),nxW (rD n i0) (Ac n (i0+1)) (IB n (i0+1)) [(0,.pf (aW n)),(3,.sr 0 1 0 (i0+1)),(9,.sl 9 (zAF n)),(10,I (length (zAF n):Int)),(11,I ↑(i0+1))] [2] [.row 9 1 ((List.take i0 (zBH i0 n))++ [(bH (ae n.rules i0).name)])]]
def Xh (n:Net) (i0:Nat):GT:=(.r [.k,bT] (.yes (.r [.row (aE (ae n.rules i0)),bT] (.r [bT] (.a (.a (.r (.k::uTT 8 (.int ((i0-1:Nat):Int)::bT::.row (aE (ae n.rules (i0-1)))::uTT 4 [])) (.br (.r [bT] (.pick 0)) (.r [.int ↑(i0+1),bT] (.pick 1)))) (.r (.k::bT::bT::uFF 10 [bT]) (.r [.int ↑(i0+1),bT] (.pick 1)))) (.r (.k::uFF 12 [bT]) (.r [.int ↑(i0+1),bT] (.pick 1))))))))
theorem YD (n:Net) (i0:Nat) (hf:j9 n) (hx0:i0<(length n.rules)):vcC pg 87 base aK 3000 (kbL []) Dr (bz (Ac n i0)) (bw (IB n i0)) 1 (bM (uE n i0)) (Xh n i0):=
 have hr:=hf.rules;have hlen:length (map bH (map ca.name (List.take i0 n.rules)))=min i0 (length n.rules):=oai;have l1:=aU aE (n.rules);have hb:(zAY i0 n)=true:=decide_eq_true oab;
 bc (an (a1 a0)
 (an hb (an (ac (rwa aE n.rules i0) a0)
 (an (ac (apA (k:=i0) (l:=length (map bH (map ca.name (List.take i0 n.rules)))) (n:=1) (B:=16) oab oab oab) a0)
 (aM (fun (h1:(decide ((i0:Int)>0))=true)=>have q0:=(aD h1 rfl:rD n i0=_);have g1:=of_decide_eq_true h1;
 (aM (fun (h2:((ae n.rules i0).bO)=true)=>have q1:=q0.trans (aD h2 rfl);
 (an (aN 3 (ac (rwa aE n.rules (i0-1)) (a1 (ac (dso i0) (aN 5 (ac h2 (a1 (ac h1 (a1 a0)))))))))
 (brP (fun (h3:(!(ae n.rules (i0-1)).bO)=true)=>
 (an a0
 (lf (wy (uE n i0) 0) 3 (q1.trans h3)))) (fun h3=>
 (an (ac (dwo ((i0+1:Nat):Int)) a0)
 (lf (wy (uE n i0) 1) 3 ⟨(q1.trans h3),rfl,congrArg (fun z=>([.row 9 1 z]:List Ob)) (hH hx0)⟩)))))) (fun h2=>
 (an (aN 9 (ac (au h2) (a1 (ac h1 (a1 a0)))))
 (an (ac (dwo ((i0+1:Nat):Int)) a0)
 (lf (wy (uE n i0) 1) 3 ⟨(q0.trans (bf h2)),rfl,congrArg (fun z=>([.row 9 1 z]:List Ob)) (hH hx0)⟩)))))) (fun h1=>have g1:=of_decide_eq_false h1;
 (an (aN 11 (ac (au h1) (a1 a0)))
 (an (ac (dwo ((i0+1:Nat):Int)) a0)
 (lf (wy (uE n i0) 1) 3 ⟨(show rD n i0=false from (bf h1)),rfl,congrArg (fun z=>([.row 9 1 z]:List Ob)) (hH hx0)⟩)))))))))
 oaa
theorem YE (n:Net) (hf:j9 n):vcC pg 87 base aK 3000 (kbL []) Dr (bz (Ac n (zS n))) (bw (IB n (zS n))) 1 (bM [⟨True,(.exit 0),o8 n,range 1,tn n⟩]) zG:=
 have hr:=hf.rules;have l1:=aU aE (n.rules);have hb:(zJ n)=false:=decide_eq_false oab;
 bc (an (a1 a0)
 (an hb (lf (wy [⟨True,(.exit 0),o8 n,range 1,tn n⟩] 0) 1 trivial)))
 oaa
theorem RD (n:Net) (i0:Nat):(uE n i0).all zj=true:=(aF oan (aF (aR rfl rfl rfl (by simp_all [nxW,plS,AV.pure]) (by simp_all [nxW,plO,aj])) bC))
theorem RE (n:Net):bG.cS 0 ⟨True,(.exit 0),o8 n,range 1,tn n⟩=true:=(aR rfl rfl rfl (by simp_all [o8,plS,AV.pure]) (by simp_all [tn,plO]))
theorem RF (n:Net) (hf:j9 n):cQ pg 87 0 0 (.loop Dr) (hU n):=
 have hr:=hf.rules;bW (fun _=>eB (id:=0) (m:=length n.rules) (t:=rD n) (xr:= .ret) (xn:=(.exit 0)) (Lr:=KJ n) (Lx:=o8 n) (obr:=KK n) (obx:=tn n) (V:=fun i0=>vcC pg 87 base aK 3000 (kbL []) Dr) (Ac n) (IB n) 1 (uE n) (Xh n) _ _ oaq (aL aw mixed (az _)) (fun e=>by cases e) (fun e=>by cases e) (fun _=>rfl) (fun i0 hx0=>YD n i0 hf hx0) (fun i0 _=>RD n i0) (fun i0 _=>show∀ww∈uE n i0,cm _ _ _ _ _ _ ww from (aC cT (aC bU bB))) (YE n hf) (RE n)) (fun h=>h) (fun h=>h)
theorem Oy (n:Net) (hf:j9 n):cQ pg 87 0 0 (.loop Dr) ⟨[(0,.pf (aW n)),(3,.v (.slice none 0 0)),(9,.sl 9 (map aE n.rules)),(10,I (length (map aE n.rules):Int)),(11,I 0)],[],(hU n).hit,(hU n).x1,(hU n).L1,(hU n).ob1,(hU n).x2,[(0,.pf (aW n)),(3,.sl 1 (map bH (map ca.name (List.take (length n.rules) n.rules))))],[],(hU n).p⟩:=
 have hr:=hf.rules;x7 (RF n hf) (C1 (L:=[(0,.pf (aW n)),(3,.v (.slice none 0 0)),(9,.sl 9 (map aE n.rules)),(10,I (length (map aE n.rules):Int)),(11,I 0)]) (L' :=Ac n 0) (ob:=[]) (T:=9) (S:=1) (by grind [Ac,lk])) (eQ.refl _ _) rfl (C2 (L:=o8 n) (L' :=[(0,.pf (aW n)),(3,.sl 1 (map bH (map ca.name (List.take (length n.rules) n.rules))))]) (ob:=[]) (k:=length n.rules) (T:=9) (rows:=(map bH (map ca.name (List.take (length n.rules) n.rules)))) oai (Nat.zero_le _) (fun a av e=>by
  simp only [dk] at e
  split at e
  ·rename_i h;subst h;exact .inl ⟨by rw [<-e];rfl,by rw [<-Option.some.inj e];simp_all [AV.und,dD]⟩
  ·split at e
   ·rename_i h;subst h;exact .inr ⟨rfl,(Option.some.inj e).symm,by grind [AV.und,dj,kJ]⟩
   ·simp [lk] at e) rfl) rfl
def Fx (n:Net):KB:=⟨[(0,.pf (aW n)),(3,.v (.slice none 0 0)),(9,.sl 9 (zAF n)),(10,I (length (zAF n):Int)),(11,I 0)],[],(hU n).hit,(hU n).x1,(hU n).L1,(hU n).ob1,(hU n).x2,[(0,.pf (aW n)),(3,.sl 1 (zAo n))],[],(hU n).p⟩
def r26 (n:Net):Bool:=(!(rE n)&&((decide ((length (map bH n.types):Int)<=200))&&((decide ((length (map aE n.rules):Int)<=100))&&((decide ((length (map ak n.aa):Int)<=4000))&&((r60 n.types)&&((r61 n.cu)&&((r61 n.cz)&&r60 (map ca.name (List.take (length n.rules) n.rules)))))))))
theorem vD:dp [0] (aH 26)=[(0,.loop Dr)]:=by kernel_rfl
theorem MF (n:Net) (hf:j9 n):bg pg 26 [.pf (aW n)] [] [] (B (r26 n)) []:=
 have hr:=hf.rules;bD (fn:=Tryz.f26) (callf:=(bI [i60 n.types,i61 n.cu,i61 n.cz,i60 (map ca.name (List.take (length n.rules) n.rules))] base)) (pu:=aK) (lf:=3000) (l:=[(0,Fx n)]) (t:=(.r [bT] (.r [bT] (.r [bT] (.br .nil (.a (.a (.a (.a (.a (.a (.r (.k::uTT 6 (.k::uTT 6 (.k::uTT 5 (.int 0::uTT 5 (.int 1::uTT 5 [.int 2,bT,bT,.int 3,bT]))))) .nil) (.r (.k::uTT 6 (.k::uTT 6 (.k::uTT 5 (.int 0::uTT 5 (.int 1::uTT 5 [.int 2,bF,bF,bT]))))) .nil)) (.r (.k::uTT 6 (.k::uTT 6 (.k::uTT 5 (.int 0::uTT 5 (.int 1::uFF 7 [bT]))))) .nil)) (.r (.k::uTT 6 (.k::uTT 6 (.k::uTT 5 (.int 0::uFF 12 [bT])))) .nil)) (.r (.k::uTT 6 (.k::uTT 6 (.k::uFF 17 [bT]))) .nil)) (.r (.k::uTT 6 (.k::uFF 23 [bT])) .nil)) (.r (.k::uFF 29 [bT]) .nil))))))) (bo (.cons (g60 n.types) rfl (.cons (g61 n.cu) rfl (.cons (g61 n.cz) rfl (.cons (g60 (map ca.name (List.take (length n.rules) n.rules))) rfl cr.nil)))) aw) mixed Tryz.func26 oaa (show Tryz.f26.body=some (aH 26) by kernel_rfl) (Nat.le_of_ble_eq_true rfl) (bK (l:=[(0,Fx n)]) vD (aT (Oy n hf) rfl bj) rfl) rfl (bc
 (an a0
 (an a0
 (an a0
 (an (kbT (Fx n) trivial) (brP (fun (h0:(rE n)=true)=>
 (bE (show r26 n=false from (bf (cq h0))))) (fun h0=>have q0:=(aD (au h0) rfl:r26 n=_);
 (aM (fun (h1:(decide ((length (map bH n.types):Int)<=200))=true)=>have q1:=q0.trans (aD h1 rfl);have l1:=aU bH (n.types);have g1:=of_decide_eq_true h1;
 (aM (fun (h2:(decide ((length (map aE n.rules):Int)<=100))=true)=>have q2:=q1.trans (aD h2 rfl);have l2:=aU aE (n.rules);have g2:=of_decide_eq_true h2;
 (aM (fun (h3:(decide ((length (map ak n.aa):Int)<=4000))=true)=>have q3:=q2.trans (aD h3 rfl);have l3:=aU ak (n.aa);have g3:=of_decide_eq_true h3;
 (aM (fun (h4:(r60 n.types)=true)=>have q4:=q3.trans (aD h4 rfl);
 (aM (fun (h5:(r61 n.cu)=true)=>
 (aM (fun (h6:(r61 n.cz)=true)=>
 (an (cA (g60 (map ca.name (List.take (length n.rules) n.rules))) (show length (map ca.name (List.take (length n.rules) n.rules))<=9223372036854775807 by simp;have:=hf.rules;omega) (a1 (ac h6 (cA (g61 n.cz) hf.cz (aN 4 (ac h5 (cA (g61 n.cu) hf.mP (aN 4 (ac h4 (cA (g60 n.types) hf.types (aN 4 (ac h3 (aN 6 (ac h2 (aN 6 (ac h1 (a1 a0)))))))))))))))))
 (bE (show r26 n=(r60 (map ca.name (List.take (length n.rules) n.rules))) from (aD (au h0) (aD h1 (aD h2 (aD h3 (aD h4 (aD h5 (aD h6 rfl))))))))))) (fun h6=>
 (an (a1 (ac (au h6) (cA (g61 n.cz) hf.cz (aN 4 (ac h5 (cA (g61 n.cu) hf.mP (aN 4 (ac h4 (cA (g60 n.types) hf.types (aN 4 (ac h3 (aN 6 (ac h2 (aN 6 (ac h1 (a1 a0))))))))))))))))
 (bE (q4.trans (aD h5 (bf h6)))))))) (fun h5=>
 (an (aN 6 (ac (au h5) (cA (g61 n.cu) hf.mP (aN 4 (ac h4 (cA (g60 n.types) hf.types (aN 4 (ac h3 (aN 6 (ac h2 (aN 6 (ac h1 (a1 a0)))))))))))))
 (bE (q4.trans (bf h5))))))) (fun h4=>
 (an (aN 11 (ac (au h4) (cA (g60 n.types) hf.types (aN 4 (ac h3 (aN 6 (ac h2 (aN 6 (ac h1 (a1 a0))))))))))
 (bE (q3.trans (bf h4))))))) (fun h3=>
 (an (aN 16 (ac (au h3) (aN 6 (ac h2 (aN 6 (ac h1 (a1 a0)))))))
 (bE (q2.trans (bf h3))))))) (fun h2=>
 (an (aN 22 (ac (au h2) (aN 6 (ac h1 (a1 a0)))))
 (bE (q1.trans (bf h2))))))) (fun h1=>
 (an (aN 28 (ac (au h1) (a1 a0)))
 (bE (q0.trans (bf h1))))))))))))
 oaa)
def IC:Code:=bP 0 (aH 27)
def Fy (n:Net) (i0:Nat) (y0:List Int):List Int:=(bif (ae n.rules i0).bO then (bif !(ae n.rules i0).eU then y0++ [(ae n.rules i0).type] else y0) else y0)
def bQ (n:Net) (kk:Nat):List Int:=Nat.rec (motive:=fun _=>List Int) ([]) (fun j a=>Fy n j a) kk
def ke (n:Net) (i0:Nat) (y0:List Int):List Ob:=[dG y0]
def jS (n:Net) (i0:Nat):Am.Loc:=[(0,.pf (aW n)),(3,.mp 0),(11,.sl 9 (zAF n)),(12,I (length (zAF n):Int)),(13,I (i0:Int))]
def lV (n:Net) (i0:Nat):List Ob:=ke n i0 (bQ n i0)
def jv (n:Net) (i0:Nat):Bool:=(bif (ae n.rules i0).bO then ((!(r62 n (ae n.rules i0).start (i0:Int)))||((!(r62 n (ae n.rules i0).stop (i0:Int)))||(((ae n.rules i0).start==(ae n.rules i0).stop)||((decide ((length (map aV (aq n.aa (ae n.rules i0).stop).ai):Int)>0))||(bif !(ae n.rules i0).bO then ((ae n.rules i0).eU||((ae n.rules i0).lazy||(((ae n.rules i0).mode !=0)||((ae n.rules i0).left||((decide ((ae n.rules i0).mode<0))||((decide ((ae n.rules i0).mode>=(length (map bH n.cz):Int)))||(bif !(!(ae n.rules i0).eU) then (((ae n.rules i0).type !=0)||((!(ae n.rules i0).eU)&&((decide ((ae n.rules i0).type<1))||((decide ((ae n.rules i0).type>(length (map bH n.types):Int)))||(dec ((ae n.rules i0).type∈(bQ n i0))))))) else ((!(ae n.rules i0).eU)&&((decide ((ae n.rules i0).type<1))||((decide ((ae n.rules i0).type>(length (map bH n.types):Int)))||(dec ((ae n.rules i0).type∈(bQ n i0))))))))))))) else ((ae n.rules i0).left||((decide ((ae n.rules i0).mode<0))||((decide ((ae n.rules i0).mode>=(length (map bH n.cz):Int)))||(bif !(!(ae n.rules i0).eU) then (((ae n.rules i0).type !=0)||((!(ae n.rules i0).eU)&&((decide ((ae n.rules i0).type<1))||((decide ((ae n.rules i0).type>(length (map bH n.types):Int)))||(dec ((ae n.rules i0).type∈(bQ n i0))))))) else ((!(ae n.rules i0).eU)&&((decide ((ae n.rules i0).type<1))||((decide ((ae n.rules i0).type>(length (map bH n.types):Int)))||(dec ((ae n.rules i0).type∈(bQ n i0))))))))))))))) else ((!(r62 n (ae n.rules i0).start (i0:Int)))||((!(r62 n (ae n.rules i0).stop (i0:Int)))||(((ae n.rules i0).start==(ae n.rules i0).stop)||((decide ((length (map aV (aq n.aa (ae n.rules i0).stop).ai):Int)>0))||(bif !(ae n.rules i0).bO then ((ae n.rules i0).eU||((ae n.rules i0).lazy||(((ae n.rules i0).mode !=0)||((decide ((ae n.rules i0).mode<0))||((decide ((ae n.rules i0).mode>=(length (map bH n.cz):Int)))||((ae n.rules i0).type !=0)))))) else ((decide ((ae n.rules i0).mode<0))||((decide ((ae n.rules i0).mode>=(length (map bH n.cz):Int)))||((ae n.rules i0).type !=0)))))))))
def wv (n:Net):Bool:=cX (length n.rules) (jv n)
def Fz (n:Net) (i0:Nat):Am.Loc:=[(2,B false)]
def Ad (n:Net) (i0:Nat):List Ob:=[]
def tp (n:Net):Am.Loc:=[]
def o9 (n:Net):List Ob:=[dG (bQ n (zS n))]
def FA (n:Net):KB:=⟨jS n 0,lV n 0,wv n,.ret,Fz n (b4 (zS n) (jv n)),Ad n (b4 (zS n) (jv n)),.normal,tp n,o9 n,True⟩
def cB (n:Net) (i0:Nat):List bG:=[htW (jv n i0) .ret (Fz n i0) zb (Ad n i0),nxW (jv n i0) (jS n (i0+1)) (lV n (i0+1)) [(0,.pf (aW n)),(3,.mp 0),(11,.sl 9 (zAF n)),(12,I (length (zAF n):Int)),(13,I ↑(i0+1))] zAO [.mp (map (Value.int .i64) (bQ n i0)++ [.int .i64 (ae n.rules i0).type]) (map tru (bQ n i0)++ [.v (.bool true)])],nxW (jv n i0) (jS n (i0+1)) (lV n (i0+1)) (jS n (i0+1)) zAO (ke n (i0+1) (bQ n i0))]
def Xi (n:Net) (i0:Nat):GT:=(.r [.k,bT] (.yes (.r [.row (aE (ae n.rules i0)),bT] (.a (.r (uTT 4 []) (.r [.int 0,bT] (.br (.r [bT] (.pick 0)) (.r [.int 1,bT] (.br (.r [bT] (.pick 0)) (.r [.k,bT] (.br (.r [bT] (.pick 0)) (.r [.cd ((ae n.rules i0).stop).toNat (ak (aq n.aa (ae n.rules i0).stop)),.k,bT] (.br (.r [bT] (.pick 0)) (.a (.a (.r [bT,bT,bT,bF,bF,bT,bT,bF,bF,bF,bT,bT] (.r [bT] (.pick 0))) (.a (.r (uTT 7 [bF,bF,bF,bT,bT]) (.r [bT] (.pick 0))) (.r (uTT 10 [.k,bT,bT]) (.br (.r [bT] (.pick 0)) (.r [bT,bT,bT] (.br (.r [bT] (.pick 0)) (.a (.r (.k::uFF 8 [bT]) (.r [bT] (.pick 0))) (.r (.k::uTT 8 [.k,bT]) (.br (.r [bT] (.pick 0)) (.a (.r [bT,bT,bT,.k,bT] (.br (.r [bT] (.pick 0)) (.a (.a (.r (bT::bT::bT::.k::bT::uFF 8 (bT::bT::uFF 4 [bT,bT])) (.r [bT] (.pick 0))) (.a (.r (bT::bT::bT::.k::uTT 9 (.k::bT::bT::uFF 4 [bT,bT])) (.r [bT] (.pick 0))) (.r (bT::bT::bT::.k::uTT 9 (.k::uTT 6 [.key (ja (bQ n i0) (ae n.rules i0).type) (B (dec ((ae n.rules i0).type∈(bQ n i0)))),bT,bT])) (.br (.r [bT] (.pick 0)) (.r [bT] (.yes (.r [.key none .any,bT] (.r [.int ↑(i0+1),bT] (.pick 1))))))))) (.r (uFF 19 [bT]) (.r [bT] (.no (.r [.int ↑(i0+1),bT] (.pick 2)))))))) (.r [bF,bF,bF,bT] (.a (.a (.r (bT::bT::bT::.k::bT::uFF 8 (bT::bT::uFF 4 [bT,bT])) (.r [bT] (.pick 0))) (.a (.r (bT::bT::bT::.k::uTT 9 (.k::bT::bT::uFF 4 [bT,bT])) (.r [bT] (.pick 0))) (.r (bT::bT::bT::.k::uTT 9 (.k::uTT 6 [.key (ja (bQ n i0) (ae n.rules i0).type) (B (dec ((ae n.rules i0).type∈(bQ n i0)))),bT,bT])) (.br (.r [bT] (.pick 0)) (.r [bT] (.yes (.r [.key none .any,bT] (.r [.int ↑(i0+1),bT] (.pick 1))))))))) (.r (uFF 19 [bT]) (.r [bT] (.no (.r [.int ↑(i0+1),bT] (.pick 2))))))))))))))))) (.r (uFF 11 [bT]) (.r [bT,bT,bT] (.br (.r [bT] (.pick 0)) (.a (.r (.k::uFF 8 [bT]) (.r [bT] (.pick 0))) (.r (.k::uTT 8 [.k,bT]) (.br (.r [bT] (.pick 0)) (.a (.r [bT,bT,bT,.k,bT] (.br (.r [bT] (.pick 0)) (.a (.a (.r (bT::bT::bT::.k::bT::uFF 8 (bT::bT::uFF 4 [bT,bT])) (.r [bT] (.pick 0))) (.a (.r (bT::bT::bT::.k::uTT 9 (.k::bT::bT::uFF 4 [bT,bT])) (.r [bT] (.pick 0))) (.r (bT::bT::bT::.k::uTT 9 (.k::uTT 6 [.key (ja (bQ n i0) (ae n.rules i0).type) (B (dec ((ae n.rules i0).type∈(bQ n i0)))),bT,bT])) (.br (.r [bT] (.pick 0)) (.r [bT] (.yes (.r [.key none .any,bT] (.r [.int ↑(i0+1),bT] (.pick 1))))))))) (.r (uFF 19 [bT]) (.r [bT] (.no (.r [.int ↑(i0+1),bT] (.pick 2)))))))) (.r [bF,bF,bF,bT] (.a (.a (.r (bT::bT::bT::.k::bT::uFF 8 (bT::bT::uFF 4 [bT,bT])) (.r [bT] (.pick 0))) (.a (.r (bT::bT::bT::.k::uTT 9 (.k::bT::bT::uFF 4 [bT,bT])) (.r [bT] (.pick 0))) (.r (bT::bT::bT::.k::uTT 9 (.k::uTT 6 [.key (ja (bQ n i0) (ae n.rules i0).type) (B (dec ((ae n.rules i0).type∈(bQ n i0)))),bT,bT])) (.br (.r [bT] (.pick 0)) (.r [bT] (.yes (.r [.key none .any,bT] (.r [.int ↑(i0+1),bT] (.pick 1))))))))) (.r (uFF 19 [bT]) (.r [bT] (.no (.r [.int ↑(i0+1),bT] (.pick 2)))))))))))))))))))))))) (.r [bF,bF,bF,bT] (.r [.int 0,bT] (.br (.r [bT] (.pick 0)) (.r [.int 1,bT] (.br (.r [bT] (.pick 0)) (.r [.k,bT] (.br (.r [bT] (.pick 0)) (.r [.cd ((ae n.rules i0).stop).toNat (ak (aq n.aa (ae n.rules i0).stop)),.k,bT] (.br (.r [bT] (.pick 0)) (.a (.a (.r [bT,bT,bT,bF,bF,bT,bT,bF,bF,bF,bT,bT] (.r [bT] (.pick 0))) (.a (.r (uTT 7 [bF,bF,bF,bT,bT]) (.r [bT] (.pick 0))) (.r (uTT 10 [.k,bT,bT]) (.br (.r [bT] (.pick 0)) (.r [bF,bF,bT] (.a (.r (.k::uFF 8 [bT]) (.r [bT] (.pick 0))) (.r (.k::uTT 8 [.k,bT]) (.br (.r [bT] (.pick 0)) (.r [bT,bT,bT,.k,bT] (.br (.r [bT] (.pick 0)) (.r (uFF 19 [bT]) (.r [bT] (.r [.int ↑(i0+1),bT] (.pick 2)))))))))))))) (.r (uFF 11 [bT]) (.r [bF,bF,bT] (.a (.r (.k::uFF 8 [bT]) (.r [bT] (.pick 0))) (.r (.k::uTT 8 [.k,bT]) (.br (.r [bT] (.pick 0)) (.r [bT,bT,bT,.k,bT] (.br (.r [bT] (.pick 0)) (.r (uFF 19 [bT]) (.r [bT] (.r [.int ↑(i0+1),bT] (.pick 2)))))))))))))))))))))))))
abbrev zCY (i0:Nat) (n:Net):=(!(ae n.rules i0).eU)
theorem YF (n:Net) (i0:Nat) (hf:bp n) (hx0:i0<(length n.rules)):vcC pg 123 (bI [i62 n (ae n.rules i0).start (i0:Int),i62 n (ae n.rules i0).stop (i0:Int)] base) aK 3000 (kbL []) IC (bz (jS n i0)) (bw (lV n i0)) 1 (bM (cB n i0)) (Xi n i0):=
 have hr:=hf.rules;have l1:=aU aE (n.rules);have hb:(zAY i0 n)=true:=decide_eq_true oab;
 bc (an (a1 a0)
 (an hb (an (ac (rwa aE n.rules i0) a0)
 (aM (fun (h1:((ae n.rules i0).bO)=true)=>have q0:=(cdT h1 rfl:jv n i0=_);
 (an (aN 2 (ac h1 a0))
 (an (cA (g62 n (ae n.rules i0).start (i0:Int)) trivial a0)
 (brP (fun (h2:(!(r62 n (ae n.rules i0).start (i0:Int)))=true)=>
 (an a0
 (lf (wy (cB n i0) 0) 2 (q0.trans (orT h2))))) (fun h2=>have q2:=q0.trans (orF h2 rfl);have g2:=rv (It h2);
 (an (cA (g62 n (ae n.rules i0).stop (i0:Int)) trivial a0)
 (brP (fun (h3:(!(r62 n (ae n.rules i0).stop (i0:Int)))=true)=>
 (an a0
 (lf (wy (cB n i0) 0) 2 (q2.trans (orT h3))))) (fun h3=>have q4:=q2.trans (orF h3 rfl);have g3:=rv (It h3);
 (an (a1 a0)
 (brP (fun (h4:(zCK i0 n)=true)=>
 (an a0
 (lf (wy (cB n i0) 0) 2 (q4.trans (orT h4))))) (fun h4=>have q6:=q4.trans (orF h4 rfl);
 (have l2:=aU ak (n.aa);an (a1 (ac (rwz ak n.aa (ae n.rules i0).stop) a0))
 (brP (fun (h5:(zAs i0 n)=true)=>
 (an a0
 (lf (wy (cB n i0) 0) 2 (q6.trans (orT h5))))) (fun h5=>have q8:=q6.trans (orF h5 rfl);have l3:=aU aV ((aq n.aa (ae n.rules i0).stop).ai);have g5:=of_decide_eq_false h5;
 (aM (fun (h6:(!(ae n.rules i0).bO)=true)=>have q10:=q8.trans (cdT h6 rfl);
 (aM (fun (h7:((ae n.rules i0).eU)=true)=>
 (an (aN 7 (ac (n2 h7) (aN 2 (ac h6 a0))))
 (an a0
 (lf (wy (cB n i0) 0) 2 (q10.trans (orT h7)))))) (fun h7=>have q14:=q10.trans (orF h7 rfl);
 (aM (fun (h8:((ae n.rules i0).lazy)=true)=>
 (an (aN 3 (ac (n2 h8) (aN 3 (ac (au h7) (aN 2 (ac h6 a0))))))
 (an a0
 (lf (wy (cB n i0) 0) 2 (q14.trans (orT h8)))))) (fun h8=>have q18:=q14.trans (orF h8 rfl);
 (an (aN 4 (ac (au h8) (aN 3 (ac (au h7) (aN 2 (ac h6 a0))))))
 (brP (fun (h9:((ae n.rules i0).mode !=0)=true)=>
 (an a0
 (lf (wy (cB n i0) 0) 2 (q18.trans (orT h9))))) (fun h9=>have q22:=q18.trans (orF h9 rfl);have g9:=fu h9;
 (an (a1 (ac h1 a0))
 (brP (fun (h10:((ae n.rules i0).left)=true)=>
 (an a0
 (lf (wy (cB n i0) 0) 2 (q22.trans (orT h10))))) (fun h10=>have q25:=q22.trans (orF h10 rfl);
 (aM (fun (h11:(zAl i0 n)=true)=>
 (an (aN 7 (ac (n2 h11) (a1 a0)))
 (an a0
 (lf (wy (cB n i0) 0) 2 (q25.trans (orT h11)))))) (fun h11=>have q29:=q25.trans (orF h11 rfl);have g11:=of_decide_eq_false h11;
 (an (aN 8 (ac (au h11) (a1 a0)))
 (brP (fun (h12:(zi i0 n)=true)=>
 (an a0
 (lf (wy (cB n i0) 0) 2 (q29.trans (orT h12))))) (fun h12=>have q33:=q29.trans (orF h12 rfl);have l4:=aU bH (n.cz);have g12:=of_decide_eq_false h12;
 (aM (fun (h13:(!(zCY i0 n))=true)=>have q36:=q33.trans (cdT h13 rfl);
 (an (aN 3 (ac h13 a0))
 (brP (fun (h14:(zBW i0 n)=true)=>
 (an a0
 (lf (wy (cB n i0) 0) 2 (q36.trans (orT h14))))) (fun h14=>have q40:=q36.trans (orF h14 rfl);have g14:=fu h14;
 (aM (fun (h15:(zCY i0 n)=true)=>have q43:=q40.trans (aD h15 rfl);
 (aM (fun (h16:(zBS i0 n)=true)=>
 (an (aN 14 (ac (n2 h16) (aN 4 (ac h15 a0))))
 (an a0
 (lf (wy (cB n i0) 0) 2 (q43.trans (orT h16)))))) (fun h16=>have q45:=q43.trans (orF h16 rfl);have g16:=of_decide_eq_false h16;
 (aM (fun (h17:(zAD i0 n)=true)=>
 (an (aN 4 (ac (n2 h17) (aN 10 (ac (au h16) (aN 4 (ac h15 a0))))))
 (an a0
 (lf (wy (cB n i0) 0) 2 (q45.trans (orT h17)))))) (fun h17=>have q47:=q45.trans (orF h17 rfl);have l5:=aU bH (n.types);have g17:=of_decide_eq_false h17;
 (an (a1 (ac (lkI (ae n.rules i0).type (bQ n i0)) (aN 3 (ac (au h17) (aN 10 (ac (au h16) (aN 4 (ac h15 a0))))))))
 (brP (fun (h18:(dec ((ae n.rules i0).type∈(bQ n i0)))=true)=>
 (an a0
 (lf (wy (cB n i0) 0) 2 (q47.trans h18)))) (fun h18=>
 (an a0
 (an h15 (an (ac (nwI h18) a0)
 (an (ac (dwo ((i0+1:Nat):Int)) a0)
 (lf (wy (cB n i0) 1) 2 ⟨(q47.trans h18),rfl,(by rw [show lV n (i0+1)=(fun y0:List Int=>([dG y0]:List Ob)) (bQ n (i0+1)) from rfl,(show bQ n (i0+1)=((bQ n i0)++ [(ae n.rules i0).type]) from (cdT h1 (cdT h15 rfl))),(mE (ae n.rules i0).type (bQ n i0))])⟩))))))))))))) (fun h15=>
 (an (aN 18 (ac (au h15) a0))
 (an a0
 (an h15 (an (ac (dwo ((i0+1:Nat):Int)) a0)
 (lf (wy (cB n i0) 2) 2 (nxP (fun _=>jS n (i0+1)) (ke n (i0+1)) (q40.trans (bf h15)) (show bQ n (i0+1)=(bQ n i0) from (cdT h1 (cdF h15 rfl))))))))))))))) (fun h13=>have q37:=q33.trans (cdF h13 rfl);
 (an (aN 2 (ac (au h13) a0))
 (aM (fun (h14:(zCY i0 n)=true)=>have q41:=q37.trans (aD h14 rfl);
 (aM (fun (h15:(zBS i0 n)=true)=>
 (an (aN 14 (ac (n2 h15) (aN 4 (ac h14 a0))))
 (an a0
 (lf (wy (cB n i0) 0) 2 (q41.trans (orT h15)))))) (fun h15=>have q44:=q41.trans (orF h15 rfl);have g15:=of_decide_eq_false h15;
 (aM (fun (h16:(zAD i0 n)=true)=>
 (an (aN 4 (ac (n2 h16) (aN 10 (ac (au h15) (aN 4 (ac h14 a0))))))
 (an a0
 (lf (wy (cB n i0) 0) 2 (q44.trans (orT h16)))))) (fun h16=>have q46:=q44.trans (orF h16 rfl);have l5:=aU bH (n.types);have g16:=of_decide_eq_false h16;
 (an (a1 (ac (lkI (ae n.rules i0).type (bQ n i0)) (aN 3 (ac (au h16) (aN 10 (ac (au h15) (aN 4 (ac h14 a0))))))))
 (brP (fun (h17:(dec ((ae n.rules i0).type∈(bQ n i0)))=true)=>
 (an a0
 (lf (wy (cB n i0) 0) 2 (q46.trans h17)))) (fun h17=>
 (an a0
 (an h14 (an (ac (nwI h17) a0)
 (an (ac (dwo ((i0+1:Nat):Int)) a0)
 (lf (wy (cB n i0) 1) 2 ⟨(q46.trans h17),rfl,(by rw [show lV n (i0+1)=(fun y0:List Int=>([dG y0]:List Ob)) (bQ n (i0+1)) from rfl,(show bQ n (i0+1)=((bQ n i0)++ [(ae n.rules i0).type]) from (cdT h1 (cdT h14 rfl))),(mE (ae n.rules i0).type (bQ n i0))])⟩))))))))))))) (fun h14=>
 (an (aN 18 (ac (au h14) a0))
 (an a0
 (an h14 (an (ac (dwo ((i0+1:Nat):Int)) a0)
 (lf (wy (cB n i0) 2) 2 (nxP (fun _=>jS n (i0+1)) (ke n (i0+1)) (q37.trans (bf h14)) (show bQ n (i0+1)=(bQ n i0) from (cdT h1 (cdF h14 rfl)))))))))))))))))))))))))))))) (fun h6=>have q11:=q8.trans (cdF h6 rfl);
 (an (aN 10 (ac (au h6) a0))
 (an (a1 (ac h1 a0))
 (brP (fun (h7:((ae n.rules i0).left)=true)=>
 (an a0
 (lf (wy (cB n i0) 0) 2 (q11.trans (orT h7))))) (fun h7=>have q15:=q11.trans (orF h7 rfl);
 (aM (fun (h8:(zAl i0 n)=true)=>
 (an (aN 7 (ac (n2 h8) (a1 a0)))
 (an a0
 (lf (wy (cB n i0) 0) 2 (q15.trans (orT h8)))))) (fun h8=>have q19:=q15.trans (orF h8 rfl);have g8:=of_decide_eq_false h8;
 (an (aN 8 (ac (au h8) (a1 a0)))
 (brP (fun (h9:(zi i0 n)=true)=>
 (an a0
 (lf (wy (cB n i0) 0) 2 (q19.trans (orT h9))))) (fun h9=>have q23:=q19.trans (orF h9 rfl);have l4:=aU bH (n.cz);have g9:=of_decide_eq_false h9;
 (aM (fun (h10:(!(zCY i0 n))=true)=>have q26:=q23.trans (cdT h10 rfl);
 (an (aN 3 (ac h10 a0))
 (brP (fun (h11:(zBW i0 n)=true)=>
 (an a0
 (lf (wy (cB n i0) 0) 2 (q26.trans (orT h11))))) (fun h11=>have q30:=q26.trans (orF h11 rfl);have g11:=fu h11;
 (aM (fun (h12:(zCY i0 n)=true)=>have q34:=q30.trans (aD h12 rfl);
 (aM (fun (h13:(zBS i0 n)=true)=>
 (an (aN 14 (ac (n2 h13) (aN 4 (ac h12 a0))))
 (an a0
 (lf (wy (cB n i0) 0) 2 (q34.trans (orT h13)))))) (fun h13=>have q38:=q34.trans (orF h13 rfl);have g13:=of_decide_eq_false h13;
 (aM (fun (h14:(zAD i0 n)=true)=>
 (an (aN 4 (ac (n2 h14) (aN 10 (ac (au h13) (aN 4 (ac h12 a0))))))
 (an a0
 (lf (wy (cB n i0) 0) 2 (q38.trans (orT h14)))))) (fun h14=>have q42:=q38.trans (orF h14 rfl);have l5:=aU bH (n.types);have g14:=of_decide_eq_false h14;
 (an (a1 (ac (lkI (ae n.rules i0).type (bQ n i0)) (aN 3 (ac (au h14) (aN 10 (ac (au h13) (aN 4 (ac h12 a0))))))))
 (brP (fun (h15:(dec ((ae n.rules i0).type∈(bQ n i0)))=true)=>
 (an a0
 (lf (wy (cB n i0) 0) 2 (q42.trans h15)))) (fun h15=>
 (an a0
 (an h12 (an (ac (nwI h15) a0)
 (an (ac (dwo ((i0+1:Nat):Int)) a0)
 (lf (wy (cB n i0) 1) 2 ⟨(q42.trans h15),rfl,(by rw [show lV n (i0+1)=(fun y0:List Int=>([dG y0]:List Ob)) (bQ n (i0+1)) from rfl,(show bQ n (i0+1)=((bQ n i0)++ [(ae n.rules i0).type]) from (cdT h1 (cdT h12 rfl))),(mE (ae n.rules i0).type (bQ n i0))])⟩))))))))))))) (fun h12=>
 (an (aN 18 (ac (au h12) a0))
 (an a0
 (an h12 (an (ac (dwo ((i0+1:Nat):Int)) a0)
 (lf (wy (cB n i0) 2) 2 (nxP (fun _=>jS n (i0+1)) (ke n (i0+1)) (q30.trans (bf h12)) (show bQ n (i0+1)=(bQ n i0) from (cdT h1 (cdF h12 rfl))))))))))))))) (fun h10=>have q27:=q23.trans (cdF h10 rfl);
 (an (aN 2 (ac (au h10) a0))
 (aM (fun (h11:(zCY i0 n)=true)=>have q31:=q27.trans (aD h11 rfl);
 (aM (fun (h12:(zBS i0 n)=true)=>
 (an (aN 14 (ac (n2 h12) (aN 4 (ac h11 a0))))
 (an a0
 (lf (wy (cB n i0) 0) 2 (q31.trans (orT h12)))))) (fun h12=>have q35:=q31.trans (orF h12 rfl);have g12:=of_decide_eq_false h12;
 (aM (fun (h13:(zAD i0 n)=true)=>
 (an (aN 4 (ac (n2 h13) (aN 10 (ac (au h12) (aN 4 (ac h11 a0))))))
 (an a0
 (lf (wy (cB n i0) 0) 2 (q35.trans (orT h13)))))) (fun h13=>have q39:=q35.trans (orF h13 rfl);have l5:=aU bH (n.types);have g13:=of_decide_eq_false h13;
 (an (a1 (ac (lkI (ae n.rules i0).type (bQ n i0)) (aN 3 (ac (au h13) (aN 10 (ac (au h12) (aN 4 (ac h11 a0))))))))
 (brP (fun (h14:(dec ((ae n.rules i0).type∈(bQ n i0)))=true)=>
 (an a0
 (lf (wy (cB n i0) 0) 2 (q39.trans h14)))) (fun h14=>
 (an a0
 (an h11 (an (ac (nwI h14) a0)
 (an (ac (dwo ((i0+1:Nat):Int)) a0)
 (lf (wy (cB n i0) 1) 2 ⟨(q39.trans h14),rfl,(by rw [show lV n (i0+1)=(fun y0:List Int=>([dG y0]:List Ob)) (bQ n (i0+1)) from rfl,(show bQ n (i0+1)=((bQ n i0)++ [(ae n.rules i0).type]) from (cdT h1 (cdT h11 rfl))),(mE (ae n.rules i0).type (bQ n i0))])⟩))))))))))))) (fun h11=>
 (an (aN 18 (ac (au h11) a0))
 (an a0
 (an h11 (an (ac (dwo ((i0+1:Nat):Int)) a0)
 (lf (wy (cB n i0) 2) 2 (nxP (fun _=>jS n (i0+1)) (ke n (i0+1)) (q27.trans (bf h11)) (show bQ n (i0+1)=(bQ n i0) from (cdT h1 (cdF h11 rfl))))))))))))))))))))))))))))))))))))))) (fun h1=>have q1:=(cdF h1 rfl:jv n i0=_);
 (an (aN 2 (ac (au h1) a0))
 (an (cA (g62 n (ae n.rules i0).start (i0:Int)) trivial a0)
 (brP (fun (h2:(!(r62 n (ae n.rules i0).start (i0:Int)))=true)=>
 (an a0
 (lf (wy (cB n i0) 0) 2 (q1.trans (orT h2))))) (fun h2=>have q3:=q1.trans (orF h2 rfl);have g2:=rv (It h2);
 (an (cA (g62 n (ae n.rules i0).stop (i0:Int)) trivial a0)
 (brP (fun (h3:(!(r62 n (ae n.rules i0).stop (i0:Int)))=true)=>
 (an a0
 (lf (wy (cB n i0) 0) 2 (q3.trans (orT h3))))) (fun h3=>have q5:=q3.trans (orF h3 rfl);have g3:=rv (It h3);
 (an (a1 a0)
 (brP (fun (h4:(zCK i0 n)=true)=>
 (an a0
 (lf (wy (cB n i0) 0) 2 (q5.trans (orT h4))))) (fun h4=>have q7:=q5.trans (orF h4 rfl);
 (have l2:=aU ak (n.aa);an (a1 (ac (rwz ak n.aa (ae n.rules i0).stop) a0))
 (brP (fun (h5:(zAs i0 n)=true)=>
 (an a0
 (lf (wy (cB n i0) 0) 2 (q7.trans (orT h5))))) (fun h5=>have q9:=q7.trans (orF h5 rfl);have l3:=aU aV ((aq n.aa (ae n.rules i0).stop).ai);have g5:=of_decide_eq_false h5;
 (aM (fun (h6:(!(ae n.rules i0).bO)=true)=>have q12:=q9.trans (cdT h6 rfl);
 (aM (fun (h7:((ae n.rules i0).eU)=true)=>
 (an (aN 7 (ac (n2 h7) (aN 2 (ac h6 a0))))
 (an a0
 (lf (wy (cB n i0) 0) 2 (q12.trans (orT h7)))))) (fun h7=>have q16:=q12.trans (orF h7 rfl);
 (aM (fun (h8:((ae n.rules i0).lazy)=true)=>
 (an (aN 3 (ac (n2 h8) (aN 3 (ac (au h7) (aN 2 (ac h6 a0))))))
 (an a0
 (lf (wy (cB n i0) 0) 2 (q16.trans (orT h8)))))) (fun h8=>have q20:=q16.trans (orF h8 rfl);
 (an (aN 4 (ac (au h8) (aN 3 (ac (au h7) (aN 2 (ac h6 a0))))))
 (brP (fun (h9:((ae n.rules i0).mode !=0)=true)=>
 (an a0
 (lf (wy (cB n i0) 0) 2 (q20.trans (orT h9))))) (fun h9=>have q24:=q20.trans (orF h9 rfl);have g9:=fu h9;
 (an (a1 (ac (au h1) a0))
 (aM (fun (h10:(zAl i0 n)=true)=>
 (an (aN 7 (ac (n2 h10) (a1 a0)))
 (an a0
 (lf (wy (cB n i0) 0) 2 (q24.trans (orT h10)))))) (fun h10=>have q28:=q24.trans (orF h10 rfl);have g10:=of_decide_eq_false h10;
 (an (aN 8 (ac (au h10) (a1 a0)))
 (brP (fun (h11:(zi i0 n)=true)=>
 (an a0
 (lf (wy (cB n i0) 0) 2 (q28.trans (orT h11))))) (fun h11=>have q32:=q28.trans (orF h11 rfl);have l4:=aU bH (n.cz);have g11:=of_decide_eq_false h11;
 (an (aN 4 a0)
 (brP (fun (h12:(zBW i0 n)=true)=>
 (an a0
 (lf (wy (cB n i0) 0) 2 (q32.trans h12)))) (fun h12=>have g12:=fu h12;
 (an (aN 19 a0)
 (an a0
 (an (ac (dwo ((i0+1:Nat):Int)) a0)
 (lf (wy (cB n i0) 2) 2 (nxP (fun _=>jS n (i0+1)) (ke n (i0+1)) (q32.trans h12) (show bQ n (i0+1)=(bQ n i0) from (cdF h1 rfl)))))))))))))))))))))))) (fun h6=>have q13:=q9.trans (cdF h6 rfl);
 (an (aN 10 (ac (au h6) a0))
 (an (a1 (ac (au h1) a0))
 (aM (fun (h7:(zAl i0 n)=true)=>
 (an (aN 7 (ac (n2 h7) (a1 a0)))
 (an a0
 (lf (wy (cB n i0) 0) 2 (q13.trans (orT h7)))))) (fun h7=>have q17:=q13.trans (orF h7 rfl);have g7:=of_decide_eq_false h7;
 (an (aN 8 (ac (au h7) (a1 a0)))
 (brP (fun (h8:(zi i0 n)=true)=>
 (an a0
 (lf (wy (cB n i0) 0) 2 (q17.trans (orT h8))))) (fun h8=>have q21:=q17.trans (orF h8 rfl);have l4:=aU bH (n.cz);have g8:=of_decide_eq_false h8;
 (an (aN 4 a0)
 (brP (fun (h9:(zBW i0 n)=true)=>
 (an a0
 (lf (wy (cB n i0) 0) 2 (q21.trans h9)))) (fun h9=>have g9:=fu h9;
 (an (aN 19 a0)
 (an a0
 (an (ac (dwo ((i0+1:Nat):Int)) a0)
 (lf (wy (cB n i0) 2) 2 (nxP (fun _=>jS n (i0+1)) (ke n (i0+1)) (q21.trans h9) (show bQ n (i0+1)=(bQ n i0) from (cdF h1 rfl)))))))))))))))))))))))))))))))))))))
 oaa
theorem YG (n:Net) (hf:bp n):vcC pg 123 base aK 3000 (kbL []) IC (bz (jS n (zS n))) (bw (lV n (zS n))) 1 (bM [⟨True,(.exit 0),tp n,range 1,o9 n⟩]) zG:=
 have hr:=hf.rules;have l1:=aU aE (n.rules);have hb:(zJ n)=false:=decide_eq_false oab;
 bc (an (a1 a0)
 (an hb (lf (wy [⟨True,(.exit 0),tp n,range 1,o9 n⟩] 0) 1 trivial)))
 oaa
theorem RG (n:Net) (i0:Nat):(cB n i0).all zj=true:=by refine (aF (aR rfl rfl rfl ?_ ?_) (aF (aR rfl rfl rfl ?_ ?_) (aF (aR rfl rfl rfl ?_ ?_) bC)))<;>simp (maxDischargeDepth:=9) [nxW,htW,jS,Fz,tp,plS,AV.pure,ah,aj,ke,lV,Ad,o9,plO,eC,dG]
theorem RH (n:Net):bG.cS 0 ⟨True,(.exit 0),tp n,range 1,o9 n⟩=true:=(aR rfl rfl rfl rfl (by simp (maxDischargeDepth:=9) [nxW,htW,ke,lV,Ad,o9,plS,plO,eC,dG,AV.pure,ah,aj]))
theorem RJ (n:Net) (hf:bp n):cQ pg 123 0 0 (.loop IC) (FA n):=
 have hr:=hf.rules;bW (fun _=>eB (id:=0) (m:=length n.rules) (t:=jv n) (xr:= .ret) (xn:=(.exit 0)) (Lr:=Fz n) (Lx:=tp n) (obr:=Ad n) (obx:=o9 n) (V:=fun i0=>vcC pg 123 (bI [i62 n (ae n.rules i0).start (i0:Int),i62 n (ae n.rules i0).stop (i0:Int)] base) aK 3000 (kbL []) IC) (jS n) (lV n) 1 (cB n) (Xi n) _ _ (fun i0 hx0=>aL (bo (.cons (by grind [g62]) rfl (.cons (by grind [g62]) rfl cr.nil)) aw) mixed (az _)) (aL aw mixed (az _)) (fun e=>by cases e) (fun e=>by cases e) (fun _=>rfl) (fun i0 hx0=>YF n i0 hf hx0) (fun i0 _=>RG n i0) (fun i0 _=>show∀ww∈cB n i0,cm _ _ _ _ _ _ ww from (aC cT (aC bU (aC bU bB)))) (YG n hf) (RH n)) (fun h=>h) (fun h=>h)
def r27 (n:Net):Bool:=(!(wv n))
theorem vF:dp [0] (aH 27)=[(0,.loop IC)]:=by kernel_rfl
theorem VO (n:Net) (hf:bp n):bg pg 27 [.pf (aW n)] [] [] (B (r27 n)) []:=
 bD (fn:=Tryz.f27) (callf:=base) (pu:=aK) (lf:=3000) (l:=[(0,FA n)]) (t:=(.r [bT] zh)) aw mixed Tryz.func27 oaa (show Tryz.f27.body=some (aH 27) by kernel_rfl) (Nat.le_of_ble_eq_true rfl) (bK (l:=[(0,FA n)]) vF (aT (RJ n hf) rfl bj) rfl) rfl (bc
 (an a0
 (an a0
 (an a0
 (an (kbT (FA n) trivial) (brP (fun (h0:(wv n)=true)=>
 (bE (show r27 n=false from (cq h0)))) (fun h0=>
 (an a0
 (bE (show r27 n=true from (au h0))))))))))
 oaa)
def r77 (n:Net) (r:ca) (no:Int) (e:Edge):Bool:=((e.n==0)&&e.level==0)
theorem YH (n:Net) (r:ca) (no:Int) (e:Edge):bg pg 77 [.ag [.pf (aW n),.pf (aE r),I no,.pf (aV e)]] [] [] (B (r77 n r no e)) []:=
 bD (fn:=Tryz.f77) (callf:=base) (pu:=aK) (lf:=3000) (l:=[]) (t:=(.r [bT] zAI)) aw mixed Tryz.func77 oaa (show Tryz.f77.body=some (aH 77) by kernel_rfl) (Nat.le_of_ble_eq_true rfl) (az _) rfl (bc
 (an a0
 (aM (fun (h0:(e.n==0)=true)=>
 (an (aN 6 (ac h0 (a1 a0)))
 (bE (show r77 n r no e=(e.level==0) from (aD h0 rfl))))) (fun h0=>
 (an (aN 5 (ac (au h0) (a1 a0)))
 (bE (show r77 n r no e=false from (bf h0)))))))
 oaa)
def r79 (n:Net) (r:ca) (no:Int) (e:Edge):Bool:=((decide (e.n>=0))&&((decide (e.n<(length (map aE n.rules):Int)))&&(((aq n.rules e.n).bO==r.bO)&&((decide (e.level>=0))&&((decide (e.level<=65))&&((e.level==0)||((e.n==no)&&r.left)))))))
theorem YI (n:Net) (r:ca) (no:Int) (e:Edge) (hl:length n.rules<=9223372036854775807):bg pg 79 [.ag [.pf (aW n),.pf (aE r),I no,.pf (aV e)]] [] [] (B (r79 n r no e)) []:=
 bD (fn:=Tryz.f79) (callf:=base) (pu:=aK) (lf:=3000) (l:=[]) (t:=(.r [bT] (.a (.a (.a (.a (.a (.a (.r (.k::uTT 12 (.k::uTT 11 (.cd (e.n).toNat (aE (aq n.rules e.n))::uTT 8 (.k::uTT 6 (.k::uTT 6 (.k::uTT 6 (.k::bT::uFF 15 [bT,bT]))))))) .nil) (.a (.r (.k::uTT 12 (.k::uTT 11 (.cd (e.n).toNat (aE (aq n.rules e.n))::uTT 8 (.k::uTT 6 (.k::uTT 6 (.k::uTT 6 (.k::uTT 9 (.k::uTT 9 [])))))))) .nil) (.r (.k::uTT 12 (.k::uTT 11 (.cd (e.n).toNat (aE (aq n.rules e.n))::uTT 8 (.k::uTT 6 (.k::uTT 6 (.k::uTT 6 (.k::uTT 9 (.k::bT::uFF 5 [bT,bT,bT])))))))) .nil))) (.r (.k::uTT 12 (.k::uTT 11 (.cd (e.n).toNat (aE (aq n.rules e.n))::uTT 8 (.k::uTT 6 (.k::uTT 6 (.k::uFF 23 [bT])))))) .nil)) (.r (.k::uTT 12 (.k::uTT 11 (.cd (e.n).toNat (aE (aq n.rules e.n))::uTT 8 (.k::uTT 6 (.k::uFF 29 [bT]))))) .nil)) (.r (.k::uTT 12 (.k::uTT 11 (.cd (e.n).toNat (aE (aq n.rules e.n))::uTT 8 (.k::uFF 35 [bT])))) .nil)) (.r (.k::uTT 12 (.k::uFF 54 [bT])) .nil)) (.r (.k::uFF 66 [bT]) .nil)))) aw mixed Tryz.func79 oaa (show Tryz.f79.body=some (aH 79) by kernel_rfl) (Nat.le_of_ble_eq_true rfl) (az _) rfl (bc
 (an a0
 (aM (fun (h0:(decide (e.n>=0))=true)=>have q0:=(aD h0 rfl:r79 n r no e=_);have g0:=of_decide_eq_true h0;
 (aM (fun (h1:(decide (e.n<(length (map aE n.rules):Int)))=true)=>have q1:=q0.trans (aD h1 rfl);have l1:=aU aE (n.rules);have g1:=of_decide_eq_true h1;
 (aM (fun (h2:((aq n.rules e.n).bO==r.bO)=true)=>have q2:=q1.trans (aD h2 rfl);
 (aM (fun (h3:(decide (e.level>=0))=true)=>have q3:=q2.trans (aD h3 rfl);have g3:=of_decide_eq_true h3;
 (aM (fun (h4:(decide (e.level<=65))=true)=>have q4:=q3.trans (aD h4 rfl);have g4:=of_decide_eq_true h4;
 (aM (fun (h5:(e.level==0)=true)=>have g5:=eq_of_beq h5;
 (an (aN 15 (ac (n2 h5) (aN 7 (ac h4 (aN 6 (ac h3 (aN 6 (ac h2 (aN 9 (ac (rwz aE n.rules e.n) (aN 10 (ac h1 (aN 12 (ac h0 (a1 a0)))))))))))))))
 (bE (q4.trans (orT h5))))) (fun h5=>have g5:=ne_of_beq_false h5;
 (aM (fun (h6:(e.n==no)=true)=>
 (an (aN 6 (ac h6 (aN 9 (ac (au h5) (aN 7 (ac h4 (aN 6 (ac h3 (aN 6 (ac h2 (aN 9 (ac (rwz aE n.rules e.n) (aN 10 (ac h1 (aN 12 (ac h0 (a1 a0)))))))))))))))))
 (bE (show r79 n r no e=r.left from (aD h0 (aD h1 (aD h2 (aD h3 (aD h4 (orF h5 (aD h6 rfl))))))))))) (fun h6=>
 (an (aN 6 (ac (au h6) (aN 9 (ac (au h5) (aN 7 (ac h4 (aN 6 (ac h3 (aN 6 (ac h2 (aN 9 (ac (rwz aE n.rules e.n) (aN 10 (ac h1 (aN 12 (ac h0 (a1 a0)))))))))))))))))
 (bE (q4.trans (orF h5 (bf h6)))))))))) (fun h4=>have g4:=of_decide_eq_false h4;
 (an (aN 22 (ac (au h4) (aN 6 (ac h3 (aN 6 (ac h2 (aN 9 (ac (rwz aE n.rules e.n) (aN 10 (ac h1 (aN 12 (ac h0 (a1 a0)))))))))))))
 (bE (q3.trans (bf h4))))))) (fun h3=>have g3:=of_decide_eq_false h3;
 (an (aN 28 (ac (au h3) (aN 6 (ac h2 (aN 9 (ac (rwz aE n.rules e.n) (aN 10 (ac h1 (aN 12 (ac h0 (a1 a0)))))))))))
 (bE (q2.trans (bf h3))))))) (fun h2=>
 (an (aN 34 (ac (au h2) (aN 9 (ac (rwz aE n.rules e.n) (aN 10 (ac h1 (aN 12 (ac h0 (a1 a0)))))))))
 (bE (q1.trans (bf h2))))))) (fun h1=>
 (an (aN 53 (ac (au h1) (aN 12 (ac h0 (a1 a0)))))
 (bE (q0.trans (bf h1))))))) (fun h0=>
 (an (aN 65 (ac (au h0) (a1 a0)))
 (bE (show r79 n r no e=false from (bf h0)))))))
 oaa)
def r83 (n:Net) (r:ca) (no:Int) (e:Edge):Bool:=((decide (e.n>=1))&&((decide (e.n<=64))&&e.level==0))
theorem YJ (n:Net) (r:ca) (no:Int) (e:Edge):bg pg 83 [.ag [.pf (aW n),.pf (aE r),I no,.pf (aV e)]] [] [] (B (r83 n r no e)) []:=
 bD (fn:=Tryz.f83) (callf:=base) (pu:=aK) (lf:=3000) (l:=[]) (t:=(.r [bT] (.a (.a (.r (.k::uTT 6 (.k::uTT 6 [.k,bT])) .nil) (.r (.k::uTT 6 (.k::uFF 6 [bT])) .nil)) (.r zCI .nil)))) aw mixed Tryz.func83 oaa (show Tryz.f83.body=some (aH 83) by kernel_rfl) (Nat.le_of_ble_eq_true rfl) (az _) rfl (bc
 (an a0
 (aM (fun (h0:(decide (e.n>=1))=true)=>
 (aM (fun (h1:(decide (e.n<=64))=true)=>
 (an (aN 6 (ac h1 (aN 6 (ac h0 (a1 a0)))))
 (bE (show r83 n r no e=(e.level==0) from (aD h0 (aD h1 rfl)))))) (fun h1=>
 (an (aN 5 (ac (au h1) (aN 6 (ac h0 (a1 a0)))))
 (bE (show r83 n r no e=false from (aD h0 (bf h1)))))))) (fun h0=>
 (an (aN 11 (ac (au h0) (a1 a0)))
 (bE (show r83 n r no e=false from (bf h0)))))))
 oaa)
def r84 (n:Net) (r:ca) (no:Int) (e:Edge):Bool:=(r.left&&((decide (e.n>=1))&&((decide (e.n<=64))&&((decide (e.level>=1))&&decide (e.level<=64)))))
theorem YK (n:Net) (r:ca) (no:Int) (e:Edge):bg pg 84 [.ag [.pf (aW n),.pf (aE r),I no,.pf (aV e)]] [] [] (B (r84 n r no e)) []:=
 bD (fn:=Tryz.f84) (callf:=base) (pu:=aK) (lf:=3000) (l:=[]) (t:=(.r [bT] (.a (.a (.a (.a (.r (uTT 6 (.k::uTT 6 (.k::uTT 6 (.k::uTT 6 [.k,bT])))) .nil) (.r (uTT 6 (.k::uTT 6 (.k::uTT 6 (.k::uFF 6 [bT])))) .nil)) (.r (uTT 6 (.k::uTT 6 (.k::uFF 12 [bT]))) .nil)) (.r (uTT 6 (.k::uFF 18 [bT])) .nil)) (.r (uFF 24 [bT]) .nil)))) aw mixed Tryz.func84 oaa (show Tryz.f84.body=some (aH 84) by kernel_rfl) (Nat.le_of_ble_eq_true rfl) (az _) rfl (bc
 (an a0
 (aM (fun (h0:(r.left)=true)=>have q0:=(aD h0 rfl:r84 n r no e=_);
 (aM (fun (h1:(decide (e.n>=1))=true)=>have q1:=q0.trans (aD h1 rfl);
 (aM (fun (h2:(decide (e.n<=64))=true)=>
 (aM (fun (h3:(decide (e.level>=1))=true)=>
 (an (aN 6 (ac h3 (aN 6 (ac h2 (aN 6 (ac h1 (aN 6 (ac h0 a0))))))))
 (bE (show r84 n r no e=(decide (e.level<=64)) from (aD h0 (aD h1 (aD h2 (aD h3 rfl)))))))) (fun h3=>
 (an (aN 5 (ac (au h3) (aN 6 (ac h2 (aN 6 (ac h1 (aN 6 (ac h0 a0))))))))
 (bE (q1.trans (aD h2 (bf h3)))))))) (fun h2=>
 (an (aN 11 (ac (au h2) (aN 6 (ac h1 (aN 6 (ac h0 a0))))))
 (bE (q1.trans (bf h2))))))) (fun h1=>
 (an (aN 17 (ac (au h1) (aN 6 (ac h0 a0))))
 (bE (q0.trans (bf h1))))))) (fun h0=>
 (an (aN 23 (ac (au h0) a0))
 (bE (show r84 n r no e=false from (bf h0)))))))
 oaa)
def r85 (n:Net) (r:ca) (no:Int) (e:Edge):Bool:=(r.left&&((e.n==0)&&e.level==0))
theorem YL (n:Net) (r:ca) (no:Int) (e:Edge):bg pg 85 [.ag [.pf (aW n),.pf (aE r),I no,.pf (aV e)]] [] [] (B (r85 n r no e)) []:=
 bD (fn:=Tryz.f85) (callf:=base) (pu:=aK) (lf:=3000) (l:=[]) (t:=(.r [bT] (.a (.a (.r (uTT 6 (.k::uTT 6 [.k,bT])) .nil) (.r (uTT 6 (.k::uFF 6 [bT])) .nil)) zCA))) aw mixed Tryz.func85 oaa (show Tryz.f85.body=some (aH 85) by kernel_rfl) (Nat.le_of_ble_eq_true rfl) (az _) rfl (bc
 (an a0
 (aM (fun (h0:(r.left)=true)=>
 (aM (fun (h1:(e.n==0)=true)=>
 (an (aN 6 (ac h1 (aN 6 (ac h0 a0))))
 (bE (show r85 n r no e=(e.level==0) from (aD h0 (aD h1 rfl)))))) (fun h1=>
 (an (aN 5 (ac (au h1) (aN 6 (ac h0 a0))))
 (bE (show r85 n r no e=false from (aD h0 (bf h1)))))))) (fun h0=>
 (an (aN 11 (ac (au h0) a0))
 (bE (show r85 n r no e=false from (bf h0)))))))
 oaa)
def r78 (n:Net) (r:ca) (no:Int) (e:Edge):Bool:=(bif r.bO then ((e.n==0)&&((e.level==0)&&((decide ((((ae e.set 0)).1)>=0))&&decide ((((aq e.set ((length (map bu e.set):Int)-1))).2)<=1114111)))) else ((e.n==0)&&((e.level==0)&&((decide ((((ae e.set 0)).1)>=1))&&decide ((((aq e.set ((length (map bu e.set):Int)-1))).2)<=(IntKind.wrap IntKind.i32 (length (map bH n.types):Int)))))))
abbrev zL (e:Edge):GT:=(.r [bT] (.a (.a (.a (.r (.k::uTT 6 (.k::bT::bT::.row (bu (ae e.set 0))::uTT 4 (.k::uTT 4 (.int ((length (zCD e):Int)-1)::bT::.cd (((length (zCD e):Int)-1)).toNat (bu (aq e.set ((length (zCD e):Int)-1)))::uTT 4 [.k,bT])))) .nil) (.r (.k::uTT 6 (.k::bT::bT::.row (bu (ae e.set 0))::uTT 4 (.k::uFF 9 [bT]))) .nil)) (.r (.k::uTT 6 (.k::uFF 15 [bT])) .nil)) (.r (.k::uFF 21 [bT]) .nil)))
theorem YM (n:Net) (r:ca) (no:Int) (e:Edge) (ht:length n.types<=9223372036854775807) (hs:0<length e.set) (hl:length e.set<=9223372036854775807):bg pg 78 [.ag [.pf (aW n),.pf (aE r),I no,.pf (aV e)]] [] [] (B (r78 n r no e)) []:=
 bD (fn:=Tryz.f78) (callf:=base) (pu:=aK) (lf:=3000) (l:=[]) (t:=(.r [bT] (.r [bT] (.r [bT] (.br (.r [bT] (zL e)) (zL e)))))) aw mixed Tryz.func78 oaa (show Tryz.f78.body=some (aH 78) by kernel_rfl) (Nat.le_of_ble_eq_true rfl) (az _) rfl (bc
 (an a0
 (an a0
 (an a0
 (brP (fun (h0:(r.bO)=true)=>have q0:=(cdT h0 rfl:r78 n r no e=_);
 (an a0
 (an a0
 (aM (fun (h1:(e.n==0)=true)=>have q2:=q0.trans (aD h1 rfl);have g1:=eq_of_beq h1;
 (aM (fun (h2:(e.level==0)=true)=>have g2:=eq_of_beq h2;
 (aM (fun (h3:(decide ((((ae e.set 0)).1)>=0))=true)=>have g3:=of_decide_eq_true h3;
 (have l1:=aU bu (e.set);an (aN 5 (ac (rwz bu e.set ((length (map bu e.set):Int)-1)) (a1 (ac (dwo ((length (map bu e.set):Int)-1)) (aN 3 (ac h3 (aN 5 (ac (rwa bu e.set 0) (a1 (ac h2 (aN 6 (ac h1 (a1 a0)))))))))))))
 (bE (show r78 n r no e=(decide ((((aq e.set ((length (map bu e.set):Int)-1))).2)<=1114111)) from (cdT h0 (aD h1 (aD h2 (aD h3 rfl)))))))) (fun h3=>have g3:=of_decide_eq_false h3;
 (an (aN 8 (ac (au h3) (aN 5 (ac (rwa bu e.set 0) (a1 (ac h2 (aN 6 (ac h1 (a1 a0)))))))))
 (bE (q2.trans (aD h2 (bf h3)))))))) (fun h2=>
 (an (aN 14 (ac (au h2) (aN 6 (ac h1 (a1 a0)))))
 (bE (q2.trans (bf h2))))))) (fun h1=>
 (an (aN 20 (ac (au h1) (a1 a0)))
 (bE (q0.trans (bf h1))))))))) (fun h0=>have q1:=(cdF h0 rfl:r78 n r no e=_);
 (an a0
 (aM (fun (h1:(e.n==0)=true)=>have q3:=q1.trans (aD h1 rfl);have g1:=eq_of_beq h1;
 (aM (fun (h2:(e.level==0)=true)=>have g2:=eq_of_beq h2;
 (aM (fun (h3:(decide ((((ae e.set 0)).1)>=1))=true)=>have g3:=of_decide_eq_true h3;
 (have l1:=aU bu (e.set);an (aN 5 (ac (rwz bu e.set ((length (map bu e.set):Int)-1)) (a1 (ac (dwo ((length (map bu e.set):Int)-1)) (aN 3 (ac h3 (aN 5 (ac (rwa bu e.set 0) (a1 (ac h2 (aN 6 (ac h1 (a1 a0)))))))))))))
 (bE (show r78 n r no e=(decide ((((aq e.set ((length (map bu e.set):Int)-1))).2)<=(IntKind.wrap IntKind.i32 (length (map bH n.types):Int)))) from (cdF h0 (aD h1 (aD h2 (aD h3 rfl)))))))) (fun h3=>have g3:=of_decide_eq_false h3;
 (an (aN 8 (ac (au h3) (aN 5 (ac (rwa bu e.set 0) (a1 (ac h2 (aN 6 (ac h1 (a1 a0)))))))))
 (bE (q3.trans (aD h2 (bf h3)))))))) (fun h2=>
 (an (aN 14 (ac (au h2) (aN 6 (ac h1 (a1 a0)))))
 (bE (q3.trans (bf h2))))))) (fun h1=>
 (an (aN 20 (ac (au h1) (a1 a0)))
 (bE (q1.trans (bf h1))))))))))))
 oaa)
def r82e (e:Edge) (o:Int):Bool:=(((G.op e.g)==o)||j7 o (G.kids e.g))
theorem RK (e:Edge) (o:Int) (hf:eG e.g):bg pg 82 [.pf [I8 (G.op e.g),I (G.n e.g),S (G.name e.g),.sl 4 (map gC (G.kids e.g)),.sl 2 (map fk e.ea),I e.to],I8 o] [] [] (B (r82e e o)) []:=
 bD (fn:=Tryz.f82) (callf:=(bI [MD (G.kids e.g) o] base)) (pu:=aK) (lf:=3000) (l:=[]) (t:=zBg) (bo (.cons (Fh hf.len (fun u hu=>ux o u (hf.kids u hu))) rfl cr.nil) aw) mixed Tryz.func82 oaa (show Tryz.f82.body=some (aH 82) by kernel_rfl) (Nat.le_of_ble_eq_true rfl) (az _) rfl (bc
 (an a0
 (aM (fun (h0:((G.op e.g)==o)=true)=>
 (an (aN 5 (ac (n2 h0) (a1 a0)))
 (bE (show r82e e o=true from (orT h0))))) (fun h0=>
 (an (cA (Fh hf.len (fun u hu=>ux o u (hf.kids u hu))) trivial (aN 5 (ac (au h0) (a1 a0))))
 (bE (show r82e e o=(j7 o (G.kids e.g)) from (orF h0 rfl)))))))
 oaa)
theorem VP (e:Edge) (o:Int):r82e e o=dY o e.g:=by
 obtain ⟨a,b,c,d,g,f,h⟩:=e
 obtain ⟨o',n,s,l⟩:=g
 rfl
def i82e (e:Edge) (o:Int):cc:=⟨82,[.pf ((aV e).drop 4),I8 o],B (dY o e.g),eG e.g⟩
theorem Oz (e:Edge) (o:Int):(i82e e o).b7 pg:=fun hp=>⟨by have:=RK e o hp;rw [VP] at this;exact this,by simp [i82e,aV,ah,AV.pure],rfl⟩
def r80 (n:Net) (r:ca) (no:Int) (e:Edge):Bool:=((e.n==0)&&((e.level==0)&&(((r81 e.g)==0)&&((!(dY 14 e.g))&&(r.bO|| !(dY 13 e.g))))))
theorem YN (n:Net) (r:ca) (no:Int) (e:Edge) (he:Ck e):bg pg 80 [.ag [.pf (aW n),.pf (aE r),I no,.pf (aV e)]] [] [] (B (r80 n r no e)) []:=
 bD (fn:=Tryz.f80) (callf:=(bI [i81 e.g,i82e e 14,i82e e 13] base)) (pu:=aK) (lf:=3000) (l:=[]) (t:=(.r [bT] (.a (.a (.a (.a (.a (.r (.k::uTT 6 (.k::uTT 6 (.int 0::bT::.k::uTT 5 (.int 1::uTT 7 (uFF 6 [bT,bT]))))) .nil) (.r (.k::uTT 6 (.k::uTT 6 (.int 0::bT::.k::uTT 5 (.int 1::uTT 12 [.int 2,bT,bT,bT])))) .nil)) (.r (.k::uTT 6 (.k::uTT 6 (.int 0::bT::.k::uTT 5 (.int 1::bT::uFF 13 [bT])))) .nil)) (.r (.k::uTT 6 (.k::uTT 6 (.int 0::bT::.k::uFF 19 [bT]))) .nil)) (.r (.k::uTT 6 (.k::uFF 26 [bT])) .nil)) (.r (.k::uFF 32 [bT]) .nil)))) (bo (.cons (g81 e.g) rfl (.cons (Oz e 14) rfl (.cons (Oz e 13) rfl cr.nil))) aw) mixed Tryz.func80 oaa (show Tryz.f80.body=some (aH 80) by kernel_rfl) (Nat.le_of_ble_eq_true rfl) (az _) rfl (bc
 (an a0
 (aM (fun (h0:(e.n==0)=true)=>have q0:=(aD h0 rfl:r80 n r no e=_);
 (aM (fun (h1:(e.level==0)=true)=>have q1:=q0.trans (aD h1 rfl);
 (aM (fun (h2:((r81 e.g)==0)=true)=>have q2:=q1.trans (aD h2 rfl);
 (aM (fun (h3:(!(dY 14 e.g))=true)=>
 (aM (fun (h4:(r.bO)=true)=>
 (an (aN 6 (ac (n2 h4) (aN 5 (ac h3 (a1 (cA (Oz e 14) he.g (aN 4 (ac h2 (aN 2 (cA (g81 e.g) he.g (aN 5 (ac h1 (aN 6 (ac h0 (a1 a0)))))))))))))))
 (bE (q2.trans (aD h3 (orT h4)))))) (fun h4=>
 (an (aN 2 (cA (Oz e 13) he.g (aN 4 (ac (au h4) (aN 5 (ac h3 (a1 (cA (Oz e 14) he.g (aN 4 (ac h2 (aN 2 (cA (g81 e.g) he.g (aN 5 (ac h1 (aN 6 (ac h0 (a1 a0)))))))))))))))))
 (bE (show r80 n r no e=(!(dY 13 e.g)) from (aD h0 (aD h1 (aD h2 (aD h3 (orF h4 rfl))))))))))) (fun h3=>
 (an (aN 12 (ac (au h3) (a1 (cA (Oz e 14) he.g (aN 4 (ac h2 (aN 2 (cA (g81 e.g) he.g (aN 5 (ac h1 (aN 6 (ac h0 (a1 a0)))))))))))))
 (bE (q2.trans (bf h3))))))) (fun h2=>
 (an (aN 18 (ac (au h2) (aN 2 (cA (g81 e.g) he.g (aN 5 (ac h1 (aN 6 (ac h0 (a1 a0)))))))))
 (bE (q1.trans (bf h2))))))) (fun h1=>
 (an (aN 25 (ac (au h1) (aN 6 (ac h0 (a1 a0)))))
 (bE (q0.trans (bf h1))))))) (fun h0=>
 (an (aN 31 (ac (au h0) (a1 a0)))
 (bE (show r80 n r no e=false from (bf h0)))))))
 oaa)
def r88 (n:Net) (r:ca) (no:Int) (e:Edge) (a:Int×Int):Bool:= !(r89 n a)
theorem act88 (n:Net) (r:ca) (no:Int) (e:Edge) (a:Int×Int):bg pg 88 [.ag (fk a),.pf [.pf (aW n),.pf (aE r),I no,.pf (aV e)]] [] [] (B (r88 n r no e a)) []:=
 bD (fn:=Tryz.f88) (callf:=(bI [i89 n a] base)) (pu:=aK) (lf:=3000) (l:=[]) (t:=zBw) (bo (.cons (g89 n a) rfl cr.nil) aw) mixed Tryz.func88 oaa (show Tryz.f88.body=some (aH 88) by kernel_rfl) (Nat.le_of_ble_eq_true rfl) (az _) rfl (bc
 (an a0
 (an (cA (g89 n a) trivial a0)
 (bE (show r88 n r no e a=(!(r89 n a)) from rfl))))
 oaa)
def i88 (n:Net) (r:ca) (no:Int) (e:Edge) (a:Int×Int):cc:=⟨88,[.ag (fk a),.pf [.pf (aW n),.pf (aE r),I no,.pf (aV e)]],B (r88 n r no e a),True⟩
theorem g88 (n:Net) (r:ca) (no:Int) (e:Edge) (a:Int×Int):(i88 n r no e a).b7 pg:=fun _=>(by simp_all [act88,i88,ah,AV.pure])
def Ae:Code:=bP 0 (aH 103)
def pb (n:Net) (r:ca) (no:Int) (e:Edge) (l:List (Int×Int)) (i0:Nat):Am.Loc:=[(0,.sl 2 (map fk l)),(1,.fn (.func 88) [] [.pf [.pf (aW n),.pf (aE r),I no,.pf (aV e)]]),(7,I (length (map fk l):Int)),(8,I (i0:Int))]
def tt (n:Net) (r:ca) (no:Int) (e:Edge) (l:List (Int×Int)) (i0:Nat):List Ob:=[]
def kg (n:Net) (r:ca) (no:Int) (e:Edge) (l:List (Int×Int)) (i0:Nat):Bool:=(r88 n r no e (ae l i0))
def rF (n:Net) (r:ca) (no:Int) (e:Edge) (l:List (Int×Int)):Bool:=cX (length l) (kg n r no e l)
def FB (n:Net) (r:ca) (no:Int) (e:Edge) (l:List (Int×Int)) (i0:Nat):Am.Loc:=[(4,I (i0:Int))]
def FC (n:Net) (r:ca) (no:Int) (e:Edge) (l:List (Int×Int)) (i0:Nat):List Ob:=[]
def rG (n:Net) (r:ca) (no:Int) (e:Edge) (l:List (Int×Int)):Am.Loc:=[]
def rH (n:Net) (r:ca) (no:Int) (e:Edge) (l:List (Int×Int)):List Ob:=[]
def wx (n:Net) (r:ca) (no:Int) (e:Edge) (l:List (Int×Int)):KB:=⟨pb n r no e l 0,tt n r no e l 0,rF n r no e l,.ret,FB n r no e l (b4 (length l) (kg n r no e l)),FC n r no e l (b4 (length l) (kg n r no e l)),.normal,rG n r no e l,rH n r no e l,True⟩
def tw (n:Net) (r:ca) (no:Int) (e:Edge) (l:List (Int×Int)) (i0:Nat):List bG:=[htW (kg n r no e l i0) .ret (FB n r no e l i0) zb (FC n r no e l i0),nxW (kg n r no e l i0) (pb n r no e l (i0+1)) (tt n r no e l (i0+1)) (pb n r no e l (i0+1)) zb (tt n r no e l (i0+1))]
def RL (n:Net) (r:ca) (no:Int) (e:Edge) (l:List (Int×Int)) (i0:Nat):GT:=(.r [.k,bT] (.yes (.r [bT] (.r [.row (fk (ae l i0)),.int 0,bT] (.br (.r [bT] (.pick 0)) (.r [.int ↑(i0+1),bT] (.pick 1)))))))
theorem VQ (n:Net) (r:ca) (no:Int) (e:Edge) (l:List (Int×Int)) (i0:Nat) (ls:length l<=9223372036854775807) (hx0:i0<(length l)):vcC pg 19 (bI [i88 n r no e (ae l i0)] base) aK 3000 (kbL []) Ae (bz (pb n r no e l i0)) (bw (tt n r no e l i0)) 0 (bM (tw n r no e l i0)) (RL n r no e l i0):=
 have l1:=aU fk (l);have hb:(decide ((i0:Int)<(length (map fk l):Int)))=true:=decide_eq_true oab;
 bc (an (a1 a0)
 (an hb (an a0
 (an (cAk (g88 n r no e (ae l i0)) trivial [.ag (fk (ae l i0))] [.pf [.pf (aW n),.pf (aE r),I no,.pf (aV e)]] oam oam (ac (rwa fk l i0) a0))
 (brP (fun (h1:(r88 n r no e (ae l i0))=true)=>
 (an a0
 (lf (wy (tw n r no e l i0) 0) 0 (show kg n r no e l i0=true from h1)))) (fun h1=>
 (an (ac (dwo ((i0+1:Nat):Int)) a0)
 (lf (wy (tw n r no e l i0) 1) 0 ⟨(show kg n r no e l i0=false from h1),rfl,rfl⟩))))))))
 oaa
theorem VR (n:Net) (r:ca) (no:Int) (e:Edge) (l:List (Int×Int)) (ls:length l<=9223372036854775807):vcC pg 19 base aK 3000 (kbL []) Ae (bz (pb n r no e l (length l))) (bw (tt n r no e l (length l))) 0 (bM [⟨True,(.exit 0),rG n r no e l,range 0,rH n r no e l⟩]) zG:=
 have l1:=aU fk (l);have hb:(decide ((((length l):Nat):Int)<(length (map fk l):Int)))=false:=decide_eq_false oab;
 bc (an (a1 a0)
 (an hb (lf (wy [⟨True,(.exit 0),rG n r no e l,range 0,rH n r no e l⟩] 0) 0 trivial)))
 oaa
theorem OA (n:Net) (r:ca) (no:Int) (e:Edge) (l:List (Int×Int)) (i0:Nat):(tw n r no e l i0).all zj=true:=(aF oan (aF (aR rfl rfl rfl (by simp_all [nxW,pb,plS,AV.pure,ah]) rfl) bC))
theorem OB (n:Net) (r:ca) (no:Int) (e:Edge) (l:List (Int×Int)):bG.cS 0 ⟨True,(.exit 0),rG n r no e l,range 0,rH n r no e l⟩=true:=(aR rfl rfl rfl rfl rfl)
theorem OC (n:Net) (r:ca) (no:Int) (e:Edge) (l:List (Int×Int)) (ls:length l<=9223372036854775807):cQ pg 19 0 0 (.loop Ae) (wx n r no e l):=
 bW (fun _=>eB (id:=0) (m:=length l) (t:=kg n r no e l) (xr:= .ret) (xn:=(.exit 0)) (Lr:=FB n r no e l) (Lx:=rG n r no e l) (obr:=FC n r no e l) (obx:=rH n r no e l) (V:=fun i0=>vcC pg 19 (bI [i88 n r no e (ae l i0)] base) aK 3000 (kbL []) Ae) (pb n r no e l) (tt n r no e l) 0 (tw n r no e l) (RL n r no e l) _ _ (fun i0 hx0=>aL (bo (.cons (g88 n r no e (ae l i0)) rfl cr.nil) aw) mixed (az _)) (aL aw mixed (az _)) (fun e=>by cases e) (fun e=>by cases e) (fun _=>rfl) (fun i0 hx0=>VQ n r no e l i0 ls hx0) (fun i0 _=>OA n r no e l i0) (fun i0 _=>show∀ww∈tw n r no e l i0,cm _ _ _ _ _ _ ww from (aC cT (aC bU bB))) (VR n r no e l ls) (OB n r no e l)) (fun h=>h) (fun h=>h)
def KL (n:Net) (r:ca) (no:Int) (e:Edge) (l:List (Int×Int)):Int:=(bif rF n r no e l then (((b4 (length l) (kg n r no e l)):Nat):Int) else (-1))
theorem rI:dp [0] (aH 103)=[(0,.loop Ae)]:=by kernel_rfl
theorem YO (n:Net) (r:ca) (no:Int) (e:Edge) (l:List (Int×Int)) (ls:length l<=9223372036854775807):bg pg 103 [.sl 2 (map fk l),.fn (.func 88) [] [.pf [.pf (aW n),.pf (aE r),I no,.pf (aV e)]]] [] [] (I (KL n r no e l)) []:=
 bD (fn:=Tryz.f103) (callf:=base) (pu:=aK) (lf:=3000) (l:=[(0,wx n r no e l)]) (t:=zh) aw mixed Tryz.func103 oaa (show Tryz.f103.body=some (aH 103) by kernel_rfl) (Nat.le_of_ble_eq_true rfl) (bK (l:=[(0,wx n r no e l)]) rI (aT (OC n r no e l ls) rfl bj) rfl) rfl (bc
 (an a0
 (an a0
 (an (kbT (wx n r no e l) trivial) (brP (fun (h0:(rF n r no e l)=true)=>
 (iE (show KL n r no e l=(((b4 (length l) (kg n r no e l)):Nat):Int) from (cdT h0 rfl)))) (fun h0=>
 (an a0
 (iE (show KL n r no e l=(-1) from (cdF h0 rfl)))))))))
 oaa)
def i103 (n:Net) (r:ca) (no:Int) (e:Edge) (l:List (Int×Int)):cc:=⟨103,[.sl 2 (l.map fk),.fn (.func 88) [] [.pf [.pf (aW n),.pf (aE r),I no,.pf (aV e)]]],I (KL n r no e l),l.length<=9223372036854775807⟩
theorem g103 (n:Net) (r:ca) (no:Int) (e:Edge) (l:List (Int×Int)):(i103 n r no e l).b7 pg:=fun hp=>(by simp_all [YO,i103,ah,AV.pure])
def r87 (n:Net) (r:ca) (no:Int) (e:Edge) (l:List (Int×Int)):Bool:=decide ((KL n r no e l)>=0)
theorem KM (n:Net) (r:ca) (no:Int) (e:Edge) (l:List (Int×Int)) (ls:length l<=9223372036854775807):bg pg 87 [.sl 2 (map fk l),.fn (.func 88) [] [.pf [.pf (aW n),.pf (aE r),I no,.pf (aV e)]]] [] [] (B (r87 n r no e l)) []:=
 bD (fn:=Tryz.f87) (callf:=(bI [i103 n r no e l] base)) (pu:=aK) (lf:=3000) (l:=[]) (t:=zBK) (bo (.cons (g103 n r no e l) rfl cr.nil) aw) mixed Tryz.func87 oaa (show Tryz.f87.body=some (aH 87) by kernel_rfl) (Nat.le_of_ble_eq_true rfl) (az _) rfl (bc
 (an a0
 (an (a1 (cA (g103 n r no e l) ls a0))
 (bE (show r87 n r no e l=(decide ((KL n r no e l)>=0)) from rfl))))
 oaa)
theorem YP (n:Net) (r:ca) (no:Int) (e:Edge) (l:List (Int×Int)):r87 n r no e l=l.any fun a=> !(r89 n a):=by
 have h2:rF n r no e l=l.any fun a=> !(r89 n a):=je (fun a=> !(r89 n a)) l
 grind [r87,KL]
def i87 (n:Net) (r:ca) (no:Int) (e:Edge) (l:List (Int×Int)):cc:=⟨87,[.sl 2 (l.map fk),.fn (.func 88) [] [.pf [.pf (aW n),.pf (aE r),I no,.pf (aV e)]]],B (l.any fun a=> !(r89 n a)),l.length<=9223372036854775807⟩
theorem g87 (n:Net) (r:ca) (no:Int) (e:Edge) (l:List (Int×Int)):(i87 n r no e l).b7 pg:=fun hp=>⟨by have:=KM n r no e l hp;rw [YP] at this;exact this,by simp [i87,ah,AV.pure],rfl⟩
def r86 (n:Net) (r:ca) (no:Int) (e:Edge):Bool:=(r.bO&&((!r.eU)&&((e.n==0)&&((e.level==0)&& !(e.ea.any fun a=> !(r89 n a))))))
theorem YQ (n:Net) (r:ca) (no:Int) (e:Edge) (ha:length e.ea<=9223372036854775807):bg pg 86 [.ag [.pf (aW n),.pf (aE r),I no,.pf (aV e)]] [] [] (B (r86 n r no e)) []:=
 bD (fn:=Tryz.f86) (callf:=(bI [i87 n r no e e.ea] base)) (pu:=aK) (lf:=3000) (l:=[]) (t:=(.r [bT] (.a (.a (.a (.a (.r (uTT 12 (.k::uTT 6 (.k::uTT 7 [.int 0,bT,bT]))) .nil) (.r (uTT 12 (.k::uTT 6 (.k::uFF 8 [bT]))) .nil)) (.r (uTT 12 (.k::uFF 14 [bT])) .nil)) (.r (uTT 6 (uFF 20 [bT])) .nil)) (.r (uFF 26 [bT]) .nil)))) (bo (.cons (g87 n r no e e.ea) rfl cr.nil) aw) mixed Tryz.func86 oaa (show Tryz.f86.body=some (aH 86) by kernel_rfl) (Nat.le_of_ble_eq_true rfl) (az _) rfl (bc
 (an a0
 (aM (fun (h0:(r.bO)=true)=>have q0:=(aD h0 rfl:r86 n r no e=_);
 (aM (fun (h1:(!r.eU)=true)=>have q1:=q0.trans (aD h1 rfl);
 (aM (fun (h2:(e.n==0)=true)=>
 (aM (fun (h3:(e.level==0)=true)=>
 (an (a1 (cA (g87 n r no e e.ea) ha (aN 6 (ac h3 (aN 6 (ac h2 (aN 6 (ac h1 (aN 5 (ac h0 a0))))))))))
 (bE (show r86 n r no e=(!(e.ea.any fun a=> !(r89 n a))) from (aD h0 (aD h1 (aD h2 (aD h3 rfl)))))))) (fun h3=>
 (an (aN 7 (ac (au h3) (aN 6 (ac h2 (aN 6 (ac h1 (aN 5 (ac h0 a0))))))))
 (bE (q1.trans (aD h2 (bf h3)))))))) (fun h2=>
 (an (aN 13 (ac (au h2) (aN 6 (ac h1 (aN 5 (ac h0 a0))))))
 (bE (q1.trans (bf h2))))))) (fun h1=>
 (an (aN 19 (ac (au h1) (aN 5 (ac h0 a0))))
 (bE (q0.trans (bf h1))))))) (fun h0=>
 (an (aN 25 (ac (au h0) a0))
 (bE (show r86 n r no e=false from (bf h0)))))))
 oaa)
def i77 (n:Net) (r:ca) (no:Int) (e:Edge):cc:=⟨77,[.ag [.pf (aW n),.pf (aE r),I no,.pf (aV e)]],B (r77 n r no e),True⟩
theorem g77 (n:Net) (r:ca) (no:Int) (e:Edge):(i77 n r no e).b7 pg:=fun hp=>(by simp_all [YH,i77,ah,AV.pure])
def i78 (n:Net) (r:ca) (no:Int) (e:Edge):cc:=⟨78,[.ag [.pf (aW n),.pf (aE r),I no,.pf (aV e)]],B (r78 n r no e),(length n.types<=9223372036854775807)/\(0<length e.set)/\(length e.set<=9223372036854775807)⟩
theorem g78 (n:Net) (r:ca) (no:Int) (e:Edge):(i78 n r no e).b7 pg:=fun hp=>(by simp_all [YM,i78,ah,AV.pure])
def i79 (n:Net) (r:ca) (no:Int) (e:Edge):cc:=⟨79,[.ag [.pf (aW n),.pf (aE r),I no,.pf (aV e)]],B (r79 n r no e),(length n.rules<=9223372036854775807)⟩
theorem g79 (n:Net) (r:ca) (no:Int) (e:Edge):(i79 n r no e).b7 pg:=fun hp=>(by simp_all [YI,i79,ah,AV.pure])
def i80 (n:Net) (r:ca) (no:Int) (e:Edge):cc:=⟨80,[.ag [.pf (aW n),.pf (aE r),I no,.pf (aV e)]],B (r80 n r no e),(Ck e)⟩
theorem g80 (n:Net) (r:ca) (no:Int) (e:Edge):(i80 n r no e).b7 pg:=fun hp=>(by simp_all [YN,i80,ah,AV.pure])
def i83 (n:Net) (r:ca) (no:Int) (e:Edge):cc:=⟨83,[.ag [.pf (aW n),.pf (aE r),I no,.pf (aV e)]],B (r83 n r no e),True⟩
theorem g83 (n:Net) (r:ca) (no:Int) (e:Edge):(i83 n r no e).b7 pg:=fun hp=>(by simp_all [YJ,i83,ah,AV.pure])
def i84 (n:Net) (r:ca) (no:Int) (e:Edge):cc:=⟨84,[.ag [.pf (aW n),.pf (aE r),I no,.pf (aV e)]],B (r84 n r no e),True⟩
theorem g84 (n:Net) (r:ca) (no:Int) (e:Edge):(i84 n r no e).b7 pg:=fun hp=>(by simp_all [YK,i84,ah,AV.pure])
def i85 (n:Net) (r:ca) (no:Int) (e:Edge):cc:=⟨85,[.ag [.pf (aW n),.pf (aE r),I no,.pf (aV e)]],B (r85 n r no e),True⟩
theorem g85 (n:Net) (r:ca) (no:Int) (e:Edge):(i85 n r no e).b7 pg:=fun hp=>(by simp_all [YL,i85,ah,AV.pure])
def i86 (n:Net) (r:ca) (no:Int) (e:Edge):cc:=⟨86,[.ag [.pf (aW n),.pf (aE r),I no,.pf (aV e)]],B (r86 n r no e),(length e.ea<=9223372036854775807)⟩
theorem g86 (n:Net) (r:ca) (no:Int) (e:Edge):(i86 n r no e).b7 pg:=fun hp=>(by simp_all [YQ,i86,ah,AV.pure])
def r63:AV:= .ag [.fn (.func 77) [] [],.fn (.func 78) [] [],.fn (.func 79) [] [],.fn (.func 80) [] [],.fn (.func 83) [] [],.fn (.func 84) [] [],.fn (.func 85) [] [],.fn (.func 86) [] []]
theorem VS:bg pg 63 [] [] [] (r63) []:=
 bD (fn:=Tryz.f63) (callf:=base) (pu:=aK) (lf:=3000) (l:=[]) (t:=(.r [bT] zF)) aw mixed Tryz.func63 oaa (show Tryz.f63.body=some (aH 63) by kernel_rfl) (Nat.le_of_ble_eq_true rfl) (az _) rfl (bc
 (an a0
 (an a0
 (vE (show r63=(.ag [.fn (.func 77) [] [],.fn (.func 78) [] [],.fn (.func 79) [] [],.fn (.func 80) [] [],.fn (.func 83) [] [],.fn (.func 84) [] [],.fn (.func 85) [] [],.fn (.func 86) [] []]) from rfl))))
 oaa)
def i63:cc:=⟨63,[],.ag [.fn (.func 77) [] [],.fn (.func 78) [] [],.fn (.func 79) [] [],.fn (.func 80) [] [],.fn (.func 83) [] [],.fn (.func 84) [] [],.fn (.func 85) [] [],.fn (.func 86) [] []],True⟩
theorem g63:i63.b7 pg:=fun _=>⟨VS,rfl,rfl⟩
def Af:Code:=bP 0 (aH 28)
def Ag:Code:=bP 2 Af
def FD (n:Net) (i0 i2:Nat) (y2:List Int):List Int:=(bif dec ((ae (ae n.aa i0).ai i2).n∈y2) then y2 else y2++ [(ae (ae n.aa i0).ai i2).n])
def cC (n:Net) (i0 kk:Nat):List Int:=Nat.rec (motive:=fun _=>List Int) ([]) (fun j a=>FD n i0 j a) kk
def RM:Code:=Mv 4 Ag
def dS (n:Net) (i0 i2:Nat):Bool:=((!(r62 n (ae (ae n.aa i0).ai i2).to (ae n.aa i0).aI))||(((r64 (ae (ae n.aa i0).ai i2).set) !=0)||((decide ((ae (ae n.aa i0).ai i2).op<0))||((decide ((IntKind.wrap IntKind.i64 (ae (ae n.aa i0).ai i2).op)>=8))||((!(((ae (ae n.aa i0).ai i2).op==1)==(decide ((length (map bu (ae (ae n.aa i0).ai i2).set):Int)>0))))||((!(((ae (ae n.aa i0).ai i2).op==7)==(decide ((length (map fk (ae (ae n.aa i0).ai i2).ea):Int)>0))))||((!(((ae (ae n.aa i0).ai i2).op==4)==((i0:Int)==(aq n.rules (ae n.aa i0).aI).start)))||(bif (ae (ae n.aa i0).ai i2).op !=3 then (((G.op (ae (ae n.aa i0).ai i2).g) !=0)||(((G.n (ae (ae n.aa i0).ai i2).g) !=0)||((!(cG (Array.toList (ByteArray.data (G.name (ae (ae n.aa i0).ai i2).g))) []))||((decide ((length (map gC (G.kids (ae (ae n.aa i0).ai i2).g)):Int)>0))||(bif (ae (ae n.aa i0).ai i2).op==0 then (!(r77 n (aq n.rules (ae n.aa i0).aI) (ae n.aa i0).aI (ae (ae n.aa i0).ai i2))) else (bif (ae (ae n.aa i0).ai i2).op==1 then (!(r78 n (aq n.rules (ae n.aa i0).aI) (ae n.aa i0).aI (ae (ae n.aa i0).ai i2))) else (bif (ae (ae n.aa i0).ai i2).op==2 then (!(r79 n (aq n.rules (ae n.aa i0).aI) (ae n.aa i0).aI (ae (ae n.aa i0).ai i2))) else (bif (ae (ae n.aa i0).ai i2).op==4 then ((!(r83 n (aq n.rules (ae n.aa i0).aI) (ae n.aa i0).aI (ae (ae n.aa i0).ai i2)))||(dec ((ae (ae n.aa i0).ai i2).n∈(cC n i0 i2)))) else (bif (ae (ae n.aa i0).ai i2).op==5 then (!(r84 n (aq n.rules (ae n.aa i0).aI) (ae n.aa i0).aI (ae (ae n.aa i0).ai i2))) else (bif (ae (ae n.aa i0).ai i2).op==6 then (!(r85 n (aq n.rules (ae n.aa i0).aI) (ae n.aa i0).aI (ae (ae n.aa i0).ai i2))) else (!(r86 n (aq n.rules (ae n.aa i0).aI) (ae n.aa i0).aI (ae (ae n.aa i0).ai i2))))))))))))) else (!(r80 n (aq n.rules (ae n.aa i0).aI) (ae n.aa i0).aI (ae (ae n.aa i0).ai i2)))))))))))
abbrev zA (n:Net):=(map ak n.aa)
abbrev zd (i0:Nat) (n:Net):=(map aV (zC i0 n))
abbrev zBT (i0:Nat) (n:Net):=(aq n.rules (zp i0 n))
abbrev zAV (i0 i2:Nat) (n:Net):Am.Loc:=[(0,.pf (aW n)),(3,.pt 0 0),(4,I (i0:Int)),(5,.pt 1 0),(6,.pf (aE (zBT i0 n))),(7,.mp 2),(9,.pf (aV (zAK i0 i2 n))),(14,.sl 2 (zA n)),(15,I (length (zA n):Int)),(16,I (i0:Int)),(56,I (length (zd i0 n):Int)),(57,I (i2:Int))]
def Xj (n:Net) (i0 i2:Nat):Am.Loc:=(zAV i0 i2 n)
abbrev zAd (i0 i2:Nat) (n:Net):List Ob:=[.box 106 [.fn (.func 77) [] [],.fn (.func 78) [] [],.fn (.func 79) [] [],.fn (.func 80) [] [],.fn (.func 83) [] [],.fn (.func 84) [] [],.fn (.func 85) [] [],.fn (.func 86) [] []],.box 40 (zK i0 n),dG (cC n i0 i2)]
def Xk (n:Net) (i0 i2:Nat):List Ob:=(zAd i0 i2 n)
def RN (n:Net) (i0 i2:Nat):Am.Loc:=[(2,B false)]
def RO (n:Net) (i0 i2:Nat):List Ob:=[]
def KN (n:Net) (i0 i2:Nat):Am.Loc:=(zAV i0 i2 n)
def KO (n:Net) (i0 i2:Nat):List Ob:=(zAd i0 i2 n)
def Ah (n:Net) (i0 i2:Nat):KB:=⟨Xj n i0 i2,Xk n i0 i2,dS n i0 i2,.ret,RN n i0 i2,RO n i0 i2,.normal,KN n i0 i2,KO n i0 i2,True⟩
def ey (n:Net) (i0 i2:Nat):List bG:=[(⟨dS n i0 i2=true,.ret,RN n i0 i2,range 0,RO n i0 i2⟩:bG),(⟨dS n i0 i2=false,.normal,KN n i0 i2,range 3,KO n i0 i2⟩:bG)]
abbrev zt:GT:=(.r [bT] (.pick 0))
theorem YR (n:Net) (i0 i2:Nat) (hf:bp n) (hx0:i0<(length n.aa)) (hx2:i2<(length (ae n.aa i0).ai)):vcC pg 201 (bI [i62 n (zAK i0 i2 n).to (zp i0 n),i64 (zAK i0 i2 n).set,i77 n (zBT i0 n) (zp i0 n) (zAK i0 i2 n),i78 n (zBT i0 n) (zp i0 n) (zAK i0 i2 n),i79 n (zBT i0 n) (zp i0 n) (zAK i0 i2 n),i83 n (zBT i0 n) (zp i0 n) (zAK i0 i2 n),i84 n (zBT i0 n) (zp i0 n) (zAK i0 i2 n),i85 n (zBT i0 n) (zp i0 n) (zAK i0 i2 n),i86 n (zBT i0 n) (zp i0 n) (zAK i0 i2 n),i80 n (zBT i0 n) (zp i0 n) (zAK i0 i2 n)] base) aK 3000 (kbL []) (.block 4 RM) (bz (Xj n i0 i2)) (bw (Xk n i0 i2)) 3 (bM (ey n i0 i2)) (.r [.int 0,bT] (.br zt (.r [.int 1,.k,bT] (.br zt (.a (.r zf zt) (.r (.k::uTT 6 [.k,bT]) (.br zt (.r zBr (.br zt (.r zBr (.br zt (.r zBr (.br zt (.a (.a (.r (.k::uTT 6 (.k::bT::uFF 6 (bT::bT::uFF 6 (bT::bT::uFF 7 [bT,bT])))) zt) (.a (.r (.k::uTT 6 (.k::uTT 7 (.k::bT::bT::uFF 6 (bT::bT::uFF 7 [bT,bT])))) zt) (.a (.r (.k::uTT 6 (.k::uTT 7 (.k::uTT 8 (.k::bT::bT::uFF 7 [bT,bT])))) zt) (.r (.k::uTT 6 (.k::uTT 7 (.k::uTT 8 (.k::uTT 9 [.k,bT,bT])))) (.br zt (.a (.r [.cd 0 [],.int 2,bT] (.br zt (.r zf (.pick 1)))) (.a (.r [.cd 1 [],.int 3,bT] (.br zt (.r zf (.pick 1)))) (.a (.r [.cd 2 [],.int 4,bT] (.br zt (.r zf (.pick 1)))) (.a (.r [.cd 4 [],.int 5,bT] (.br zt (.r (.k::uTT 6 [.key (ja (cC n i0 i2) (zAK i0 i2 n).n) (B (dec ((zAK i0 i2 n).n∈(cC n i0 i2)))),bT]) (.br zt (.pick 1))))) (.a (.r [.cd 5 [],.int 6,bT] (.br zt (.r zf (.pick 1)))) (.a (.r [.cd 6 [],.int 7,bT] (.br zt (.r zf (.pick 1)))) (.r [.cd 7 [],.int 8,bT] (.br zt (.r zf (.pick 1))))))))))))))) (.r (.k::uFF 31 [bT]) (.r [.cd 3 [],.int 9,bT] (.br zt (.r zf (.pick 1))))))))))))))))))):=
 have hr:=hf.rules;have hs:=hf.aa;have he:Ck (ae (ae n.aa i0).ai i2):=hf.Ow _ (ay hx0) _ (ay hx2);have ho:=he.op;have hw:IntKind.wrap IntKind.i64 (ae (ae n.aa i0).ai i2).op=Edge.op (ae (ae n.aa i0).ai i2):=wrap_i64 oab oab;bc (an (cA (g62 n (ae (ae n.aa i0).ai i2).to (ae n.aa i0).aI) trivial a0)
 (brP (fun (h0:(!(r62 n (ae (ae n.aa i0).ai i2).to (ae n.aa i0).aI))=true)=>
 (an a0
 (lf (wy (ey n i0 i2) 0) 3 (show dS n i0 i2=true from (orT h0))))) (fun h0=>have q0:=(orF h0 rfl:dS n i0 i2=_);have g0:=rv (It h0);
 (an (a1 (cA (g64 (ae (ae n.aa i0).ai i2).set) he.set a0))
 (brP (fun (h1:((r64 (ae (ae n.aa i0).ai i2).set) !=0)=true)=>
 (an a0
 (lf (wy (ey n i0 i2) 0) 3 (q0.trans (orT h1))))) (fun h1=>have q1:=q0.trans (orF h1 rfl);have g1:=fu h1;
 (aM (fun (h2:(decide ((ae (ae n.aa i0).ai i2).op<0))=true)=>
 (an (aN 5 (ac (n2 h2) (a1 a0)))
 (an a0
 (lf (wy (ey n i0 i2) 0) 3 (q1.trans (orT h2)))))) (fun h2=>have q2:=q1.trans (orF h2 rfl);have g2:=of_decide_eq_false h2;
 (an (aN 6 (ac (au h2) (a1 a0)))
 (brP (fun (h3:(decide ((IntKind.wrap IntKind.i64 (ae (ae n.aa i0).ai i2).op)>=8))=true)=>
 (an a0
 (lf (wy (ey n i0 i2) 0) 3 (q2.trans (orT h3))))) (fun h3=>have q3:=q2.trans (orF h3 rfl);have g3:=of_decide_eq_false h3;
 (an (aN 3 a0)
 (brP (fun (h4:(!(((ae (ae n.aa i0).ai i2).op==1)==(decide ((length (map bu (ae (ae n.aa i0).ai i2).set):Int)>0))))=true)=>
 (an a0
 (lf (wy (ey n i0 i2) 0) 3 (q3.trans (orT h4))))) (fun h4=>have q4:=q3.trans (orF h4 rfl);have l1:=aU bu ((ae (ae n.aa i0).ai i2).set);have g4:=Iu h4;have g4:=Iu h4;
 (an (aN 3 a0)
 (brP (fun (h5:(!(((ae (ae n.aa i0).ai i2).op==7)==(decide ((length (map fk (ae (ae n.aa i0).ai i2).ea):Int)>0))))=true)=>
 (an a0
 (lf (wy (ey n i0 i2) 0) 3 (q4.trans (orT h5))))) (fun h5=>have q5:=q4.trans (orF h5 rfl);have l2:=aU fk ((ae (ae n.aa i0).ai i2).ea);have g5:=Iu h5;have g5:=Iu h5;
 (an (aN 3 a0)
 (brP (fun (h6:(!(((ae (ae n.aa i0).ai i2).op==4)==((i0:Int)==(aq n.rules (ae n.aa i0).aI).start)))=true)=>
 (an a0
 (lf (wy (ey n i0 i2) 0) 3 (q5.trans (orT h6))))) (fun h6=>have q6:=q5.trans (orF h6 rfl);
 (aM (fun (h7:((ae (ae n.aa i0).ai i2).op !=3)=true)=>have q7:=q6.trans (cdT h7 rfl);have g7:=JY h7;
 (aM (fun (h8:((G.op (ae (ae n.aa i0).ai i2).g) !=0)=true)=>
 (an (aN 23 (ac (n2 h8) (aN 7 (ac h7 (a1 a0)))))
 (an a0
 (lf (wy (ey n i0 i2) 0) 3 (q7.trans (orT h8)))))) (fun h8=>have q9:=q7.trans (orF h8 rfl);have g8:=fu h8;
 (aM (fun (h9:((G.n (ae (ae n.aa i0).ai i2).g) !=0)=true)=>
 (an (aN 15 (ac (n2 h9) (aN 8 (ac (au h8) (aN 7 (ac h7 (a1 a0)))))))
 (an a0
 (lf (wy (ey n i0 i2) 0) 3 (q9.trans (orT h9)))))) (fun h9=>have q10:=q9.trans (orF h9 rfl);have g9:=fu h9;
 (aM (fun (h10:(!(cG (Array.toList (ByteArray.data (G.name (ae (ae n.aa i0).ai i2).g))) []))=true)=>
 (an (aN 7 (ac (n2 h10) (aN 8 (ac (au h9) (aN 8 (ac (au h8) (aN 7 (ac h7 (a1 a0)))))))))
 (an a0
 (lf (wy (ey n i0 i2) 0) 3 (q10.trans (orT h10)))))) (fun h10=>have q11:=q10.trans (orF h10 rfl);
 (an (aN 8 (ac (au h10) (aN 8 (ac (au h9) (aN 8 (ac (au h8) (aN 7 (ac h7 (a1 a0)))))))))
 (brP (fun (h11:(decide ((length (map gC (G.kids (ae (ae n.aa i0).ai i2).g)):Int)>0))=true)=>
 (an a0
 (lf (wy (ey n i0 i2) 0) 3 (q11.trans (orT h11))))) (fun h11=>have q12:=q11.trans (orF h11 rfl);have l3:=aU gC ((G.kids (ae (ae n.aa i0).ai i2).g));have g11:=of_decide_eq_false h11;
 (aM (fun (h12:((ae (ae n.aa i0).ai i2).op==0)=true)=>have q13:=q12.trans (cdT h12 rfl);have g12:=eq_of_beq h12;
 (an (cA (g77 n (aq n.rules (ae n.aa i0).aI) (ae n.aa i0).aI (ae (ae n.aa i0).ai i2)) trivial (ac (rzA (y:=(ae (ae n.aa i0).ai i2).op) (z:=0) (len:=8) oab rfl) a0))
 (brP (fun (h13:(!(r77 n (aq n.rules (ae n.aa i0).aI) (ae n.aa i0).aI (ae (ae n.aa i0).ai i2)))=true)=>
 (an a0
 (lf (wy (ey n i0 i2) 0) 3 (q13.trans h13)))) (fun h13=>
 (an (aN 5 (ac (au (show ((ae (ae n.aa i0).ai i2).op==4)=false by rw [eq_of_beq h12];rfl)) (a1 a0)))
 (lf (wy (ey n i0 i2) 1) 3 (q13.trans h13))))))) (fun h12=>have q14:=q12.trans (cdF h12 rfl);have g12:=ne_of_beq_false h12;
 (aM (fun (h13:((ae (ae n.aa i0).ai i2).op==1)=true)=>have q15:=q14.trans (cdT h13 rfl);have g13:=eq_of_beq h13;
 (an (cA (g78 n (aq n.rules (ae n.aa i0).aI) (ae n.aa i0).aI (ae (ae n.aa i0).ai i2)) ⟨hf.types,(show 0<length (ae (ae n.aa i0).ai i2).set by omega),he.set⟩ (ac (rzA (y:=(ae (ae n.aa i0).ai i2).op) (z:=1) (len:=8) oab rfl) a0))
 (brP (fun (h14:(!(r78 n (aq n.rules (ae n.aa i0).aI) (ae n.aa i0).aI (ae (ae n.aa i0).ai i2)))=true)=>
 (an a0
 (lf (wy (ey n i0 i2) 0) 3 (q15.trans h14)))) (fun h14=>
 (an (aN 5 (ac (au (show ((ae (ae n.aa i0).ai i2).op==4)=false by rw [eq_of_beq h13];rfl)) (a1 a0)))
 (lf (wy (ey n i0 i2) 1) 3 (q15.trans h14))))))) (fun h13=>have q16:=q14.trans (cdF h13 rfl);have g13:=ne_of_beq_false h13;
 (aM (fun (h14:((ae (ae n.aa i0).ai i2).op==2)=true)=>have q17:=q16.trans (cdT h14 rfl);have g14:=eq_of_beq h14;
 (an (cA (g79 n (aq n.rules (ae n.aa i0).aI) (ae n.aa i0).aI (ae (ae n.aa i0).ai i2)) (show length n.rules<=9223372036854775807 by omega) (ac (rzA (y:=(ae (ae n.aa i0).ai i2).op) (z:=2) (len:=8) oab rfl) a0))
 (brP (fun (h15:(!(r79 n (aq n.rules (ae n.aa i0).aI) (ae n.aa i0).aI (ae (ae n.aa i0).ai i2)))=true)=>
 (an a0
 (lf (wy (ey n i0 i2) 0) 3 (q17.trans h15)))) (fun h15=>
 (an (aN 5 (ac (au (show ((ae (ae n.aa i0).ai i2).op==4)=false by rw [eq_of_beq h14];rfl)) (a1 a0)))
 (lf (wy (ey n i0 i2) 1) 3 (q17.trans h15))))))) (fun h14=>have q18:=q16.trans (cdF h14 rfl);have g14:=ne_of_beq_false h14;
 (aM (fun (h15:((ae (ae n.aa i0).ai i2).op==4)=true)=>have q19:=q18.trans (cdT h15 rfl);have g15:=eq_of_beq h15;
 (an (cA (g83 n (aq n.rules (ae n.aa i0).aI) (ae n.aa i0).aI (ae (ae n.aa i0).ai i2)) trivial (ac (rzA (y:=(ae (ae n.aa i0).ai i2).op) (z:=4) (len:=8) oab rfl) a0))
 (brP (fun (h16:(!(r83 n (aq n.rules (ae n.aa i0).aI) (ae n.aa i0).aI (ae (ae n.aa i0).ai i2)))=true)=>
 (an a0
 (lf (wy (ey n i0 i2) 0) 3 (q19.trans (orT h16))))) (fun h16=>have q21:=q19.trans (orF h16 rfl);
 (an (ac (lkI (ae (ae n.aa i0).ai i2).n (cC n i0 i2)) (aN 5 (ac h15 (a1 a0))))
 (brP (fun (h17:(dec ((ae (ae n.aa i0).ai i2).n∈(cC n i0 i2)))=true)=>
 (an a0
 (lf (wy (ey n i0 i2) 0) 3 (q21.trans h17)))) (fun h17=>
 (lf (wy (ey n i0 i2) 1) 3 (q21.trans h17))))))))) (fun h15=>have q20:=q18.trans (cdF h15 rfl);have g15:=ne_of_beq_false h15;
 (aM (fun (h16:((ae (ae n.aa i0).ai i2).op==5)=true)=>have q22:=q20.trans (cdT h16 rfl);have g16:=eq_of_beq h16;
 (an (cA (g84 n (aq n.rules (ae n.aa i0).aI) (ae n.aa i0).aI (ae (ae n.aa i0).ai i2)) trivial (ac (rzA (y:=(ae (ae n.aa i0).ai i2).op) (z:=5) (len:=8) oab rfl) a0))
 (brP (fun (h17:(!(r84 n (aq n.rules (ae n.aa i0).aI) (ae n.aa i0).aI (ae (ae n.aa i0).ai i2)))=true)=>
 (an a0
 (lf (wy (ey n i0 i2) 0) 3 (q22.trans h17)))) (fun h17=>
 (an (aN 5 (ac (au h15) (a1 a0)))
 (lf (wy (ey n i0 i2) 1) 3 (q22.trans h17))))))) (fun h16=>have q23:=q20.trans (cdF h16 rfl);have g16:=ne_of_beq_false h16;
 (aM (fun (h17:((ae (ae n.aa i0).ai i2).op==6)=true)=>have q24:=q23.trans (cdT h17 rfl);have g17:=eq_of_beq h17;
 (an (cA (g85 n (aq n.rules (ae n.aa i0).aI) (ae n.aa i0).aI (ae (ae n.aa i0).ai i2)) trivial (ac (rzA (y:=(ae (ae n.aa i0).ai i2).op) (z:=6) (len:=8) oab rfl) a0))
 (brP (fun (h18:(!(r85 n (aq n.rules (ae n.aa i0).aI) (ae n.aa i0).aI (ae (ae n.aa i0).ai i2)))=true)=>
 (an a0
 (lf (wy (ey n i0 i2) 0) 3 (q24.trans h18)))) (fun h18=>
 (an (aN 5 (ac (au h15) (a1 a0)))
 (lf (wy (ey n i0 i2) 1) 3 (q24.trans h18))))))) (fun h17=>have q25:=q23.trans (cdF h17 rfl);have g17:=ne_of_beq_false h17;
 (an (cA (g86 n (aq n.rules (ae n.aa i0).aI) (ae n.aa i0).aI (ae (ae n.aa i0).ai i2)) he.ea (ac (rzA (y:=(ae (ae n.aa i0).ai i2).op) (z:=7) (len:=8) oab rfl) a0))
 (brP (fun (h18:(!(r86 n (aq n.rules (ae n.aa i0).aI) (ae n.aa i0).aI (ae (ae n.aa i0).ai i2)))=true)=>
 (an a0
 (lf (wy (ey n i0 i2) 0) 3 (q25.trans h18)))) (fun h18=>
 (an (aN 5 (ac (au h15) (a1 a0)))
 (lf (wy (ey n i0 i2) 1) 3 (q25.trans h18)))))))))))))))))))))))))))) (fun h7=>have q8:=q6.trans (cdF h7 rfl);have g7:=fu h7;
 (an (aN 30 (ac (au h7) (a1 a0)))
 (an (cA (g80 n (aq n.rules (ae n.aa i0).aI) (ae n.aa i0).aI (ae (ae n.aa i0).ai i2)) he (ac (rzA (y:=(ae (ae n.aa i0).ai i2).op) (z:=3) (len:=8) oab rfl) a0))
 (brP (fun (h8:(!(r80 n (aq n.rules (ae n.aa i0).aI) (ae n.aa i0).aI (ae (ae n.aa i0).ai i2)))=true)=>
 (an a0
 (lf (wy (ey n i0 i2) 0) 3 (q8.trans h8)))) (fun h8=>
 (an (aN 5 (ac (au (show ((ae (ae n.aa i0).ai i2).op==4)=false by rw [fu h7];rfl)) (a1 a0)))
 (lf (wy (ey n i0 i2) 1) 3 (q8.trans h8)))))))))))))))))))))))))))))
 oaa
theorem RP (n:Net) (i0 i2:Nat) (hf:bp n) (hx0:i0<(length n.aa)) (hx2:i2<(length (ae n.aa i0).ai)):cQ pg 201 0 4 RM (Ah n i0 i2):=joinH (aL (bo (.cons (by grind [g62]) rfl (.cons (by grind [g64]) rfl (.cons (by grind [g77]) rfl (.cons (by grind [g78]) rfl (.cons (by grind [g79]) rfl (.cons (by grind [g83]) rfl (.cons (by grind [g84]) rfl (.cons (by grind [g85]) rfl (.cons (by grind [g86]) rfl (.cons (by grind [g80]) rfl cr.nil)))))))))) aw) mixed (az _)) (fun _=>YR n i0 i2 hf hx0 hx2) oan (aR rfl rfl rfl (by simp_all [KN,plS,AV.pure]) (by simp_all [KO,plS,plO,dG,AV.pure,ah]))
def KP (n:Net) (i0 i2:Nat) (y2:List Int):List Ob:=[.box 106 [.fn (.func 77) [] [],.fn (.func 78) [] [],.fn (.func 79) [] [],.fn (.func 80) [] [],.fn (.func 83) [] [],.fn (.func 84) [] [],.fn (.func 85) [] [],.fn (.func 86) [] []],.box 40 (zK i0 n),dG y2]
def uF (n:Net) (i0 i2:Nat):Am.Loc:=[(0,.pf (aW n)),(3,.pt 0 0),(4,I (i0:Int)),(5,.pt 1 0),(6,.pf (aE (zBT i0 n))),(7,.mp 2),(14,.sl 2 (zA n)),(15,I (length (zA n):Int)),(16,I (i0:Int)),(56,I (length (zd i0 n):Int)),(57,I (i2:Int))]
def om (n:Net) (i0 i2:Nat):List Ob:=KP n i0 i2 (cC n i0 i2)
def oo (n:Net) (i0 i2:Nat):Bool:=(dS n i0 i2)
def ik (n:Net) (i0:Nat):Bool:=cX (length (ae n.aa i0).ai) (oo n i0)
def Ai (n:Net) (i0 i2:Nat):Am.Loc:=[(2,B false)]
def Aj (n:Net) (i0 i2:Nat):List Ob:=[]
abbrev zBt (i0:Nat) (n:Net):Am.Loc:=[(0,.pf (aW n)),(3,.pt 0 0),(14,.sl 2 (zA n)),(15,I (length (zA n):Int)),(16,I (i0:Int))]
def pc (n:Net) (i0:Nat):Am.Loc:=(zBt i0 n)
def pd (n:Net) (i0:Nat):List Ob:=[.box 106 [.fn (.func 77) [] [],.fn (.func 78) [] [],.fn (.func 79) [] [],.fn (.func 80) [] [],.fn (.func 83) [] [],.fn (.func 84) [] [],.fn (.func 85) [] [],.fn (.func 86) [] []],.box 40 (zK i0 n),dG (cC n i0 (zBa i0 n))]
def tz (n:Net) (i0:Nat):KB:=⟨uF n i0 0,om n i0 0,ik n i0,.ret,Ai n i0 (b4 (zBa i0 n) (oo n i0)),Aj n i0 (b4 (zBa i0 n) (oo n i0)),.normal,pc n i0,pd n i0,True⟩
abbrev zAT (i0 i2:Nat) (n:Net):Am.Loc:=[(0,.pf (aW n)),(3,.pt 0 0),(4,I (i0:Int)),(5,.pt 1 0),(6,.pf (aE (zBT i0 n))),(7,.mp 2),(14,.sl 2 (zA n)),(15,I (length (zA n):Int)),(16,I (i0:Int)),(56,I (length (zd i0 n):Int)),(57,I ↑(i2+1))]
abbrev zCa:=(range 3)
def Ak (n:Net) (i0 i2:Nat):List bG:=[htW (oo n i0 i2) .ret (Ai n i0 i2) zb (Aj n i0 i2),nxW (oo n i0 i2) (uF n i0 (i2+1)) (om n i0 (i2+1)) (zAT i0 i2 n) zCa [.box 106 [.fn (.func 77) [] [],.fn (.func 78) [] [],.fn (.func 79) [] [],.fn (.func 80) [] [],.fn (.func 83) [] [],.fn (.func 84) [] [],.fn (.func 85) [] [],.fn (.func 86) [] []],.box 40 (zK i0 n),.mp (map (Value.int .i64) (cC n i0 i2)) ((map tru (cC n i0 i2)).set (JZ (cC n i0 i2) (zAK i0 i2 n).n) (.v (.bool true)))],nxW (oo n i0 i2) (uF n i0 (i2+1)) (om n i0 (i2+1)) (zAT i0 i2 n) zCa [.box 106 [.fn (.func 77) [] [],.fn (.func 78) [] [],.fn (.func 79) [] [],.fn (.func 80) [] [],.fn (.func 83) [] [],.fn (.func 84) [] [],.fn (.func 85) [] [],.fn (.func 86) [] []],.box 40 (zK i0 n),.mp (map (Value.int .i64) (cC n i0 i2)++ [.int .i64 (zAK i0 i2 n).n]) (map tru (cC n i0 i2)++ [.v (.bool true)])]]
def Xl (n:Net) (i0 i2:Nat):GT:=(.r [.k,bT] (.yes (.r [bT] (.r [.row (aV (ae (ae n.aa i0).ai i2)),bT] (.br (.pick 0) (.a (.r [.key (some (JZ (cC n i0 i2) (ae (ae n.aa i0).ai i2).n)) .any,bT] (.r [.int ↑(i2+1),bT] (.pick 1))) (.r [.key none .any,bT] (.r [.int ↑(i2+1),bT] (.pick 2)))))))))
theorem YS (n:Net) (i0 i2:Nat) (hf:bp n) (hx0:i0<(length n.aa)) (hx2:i2<(length (ae n.aa i0).ai)):vcC pg 201 base aK 3000 (kbL [(4,Ah n i0 i2)]) Ag (bz (uF n i0 i2)) (bw (om n i0 i2)) 3 (bM (Ak n i0 i2)) (Xl n i0 i2):=
 have hr:=hf.rules;have hs:=hf.aa;have he:=hf.ai _ (ay hx0);have l1:=aU aV ((ae n.aa i0).ai);have hb:(zAf i0 i2 n)=true:=decide_eq_true oab;
 bc (an (a1 a0)
 (an hb (an a0
 (an (ac (rwa aV (ae n.aa i0).ai i2) a0)
 (an (kbT (Ah n i0 i2) trivial) (brP (fun (h1:(dS n i0 i2)=true)=>
 (lf (wy (Ak n i0 i2) 0) 0 (show oo n i0 i2=true from h1))) (fun h1=>
 (aM (fun (h2:(dec ((ae (ae n.aa i0).ai i2).n∈(cC n i0 i2)))=true)=>
 (an (ac (odI h2) a0)
 (an (ac (dwo ((i2+1:Nat):Int)) a0)
 (lf (wy (Ak n i0 i2) 1) 3 ⟨(show oo n i0 i2=false from h1),rfl,(by rw [show om n i0 (i2+1)=(fun y2:List Int=>([.box 106 [.fn (.func 77) [] [],.fn (.func 78) [] [],.fn (.func 79) [] [],.fn (.func 80) [] [],.fn (.func 83) [] [],.fn (.func 84) [] [],.fn (.func 85) [] [],.fn (.func 86) [] []],.box 40 (ak (ae n.aa i0)),dG y2]:List Ob)) (cC n i0 (i2+1)) from rfl,(show cC n i0 (i2+1)=(cC n i0 i2) from (cdT h2 rfl)),(Qf (JZ (cC n i0 i2) (ae (ae n.aa i0).ai i2).n) (cC n i0 i2))])⟩)))) (fun h2=>
 (an (ac (nwI h2) a0)
 (an (ac (dwo ((i2+1:Nat):Int)) a0)
 (lf (wy (Ak n i0 i2) 2) 3 ⟨(show oo n i0 i2=false from h1),rfl,(by rw [show om n i0 (i2+1)=(fun y2:List Int=>([.box 106 [.fn (.func 77) [] [],.fn (.func 78) [] [],.fn (.func 79) [] [],.fn (.func 80) [] [],.fn (.func 83) [] [],.fn (.func 84) [] [],.fn (.func 85) [] [],.fn (.func 86) [] []],.box 40 (ak (ae n.aa i0)),dG y2]:List Ob)) (cC n i0 (i2+1)) from rfl,(show cC n i0 (i2+1)=((cC n i0 i2)++ [(ae (ae n.aa i0).ai i2).n]) from (cdF h2 rfl)),(mE (ae (ae n.aa i0).ai i2).n (cC n i0 i2))])⟩))))))))))))
 oaa
theorem YT (n:Net) (i0:Nat) (hf:bp n) (hx0:i0<(length n.aa)):vcC pg 201 base aK 3000 (kbL []) Ag (bz (uF n i0 (zBa i0 n))) (bw (om n i0 (zBa i0 n))) 3 (bM [⟨True,(.exit 2),pc n i0,range 3,pd n i0⟩]) zG:=
 have hr:=hf.rules;have hs:=hf.aa;have l1:=aU aV ((ae n.aa i0).ai);have hb:(zz i0 n)=false:=decide_eq_false oab;
 bc (an (a1 a0)
 (an hb (lf (wy [⟨True,(.exit 2),pc n i0,range 3,pd n i0⟩] 0) 3 trivial)))
 oaa
theorem RQ (n:Net) (i0 i2:Nat):(Ak n i0 i2).all zj=true:=by refine (aF (aR rfl rfl rfl ?_ ?_) (aF (aR rfl rfl rfl ?_ ?_) (aF (aR rfl rfl rfl ?_ ?_) bC)))<;>simp (maxDischargeDepth:=9) [nxW,htW,uF,Ai,pc,plS,AV.pure,ah,aj,KP,om,Aj,pd,plO,eC,dG]
theorem RS (n:Net) (i0:Nat):bG.cS 0 ⟨True,(.exit 2),pc n i0,range 3,pd n i0⟩=true:=by refine (aR rfl rfl rfl ?_ ?_)<;>simp (maxDischargeDepth:=9) [nxW,htW,uF,Ai,pc,plS,AV.pure,ah,aj,KP,om,Aj,pd,plO,eC,dG]
theorem FE:dp [4] Ag=[(4,RM)]:=by kernel_rfl
theorem RT (n:Net) (i0:Nat) (hf:bp n) (hx0:i0<(length n.aa)):cQ pg 201 0 2 (.loop Ag) (tz n i0):=
 have hr:=hf.rules;have hs:=hf.aa;bW (fun _=>eB (id:=2) (m:=length (ae n.aa i0).ai) (t:=oo n i0) (xr:= .ret) (xn:=(.exit 2)) (Lr:=Ai n i0) (Lx:=pc n i0) (obr:=Aj n i0) (obx:=pd n i0) (V:=fun i2=>vcC pg 201 base aK 3000 (kbL [(4,Ah n i0 i2)]) Ag) (uF n i0) (om n i0) 3 (Ak n i0) (Xl n i0) _ _ (fun i2 hx2=>aL aw mixed (bK (l:=[(4,Ah n i0 i2)]) FE (aT (RP n i0 i2 hf hx0 hx2) rfl bj) rfl)) (aL aw mixed (az _)) (fun e=>by cases e) (fun e=>by cases e) (fun _=>rfl) (fun i2 hx2=>YS n i0 i2 hf hx0 hx2) (fun i2 _=>RQ n i0 i2) (fun i2 _=>show∀ww∈Ak n i0 i2,cm _ _ _ _ _ _ ww from (aC cT (aC bU (aC bU bB)))) (YT n i0 hf hx0) (RS n i0)) (fun h=>h) (fun h=>h)
def Al (n:Net) (i0:Nat):Am.Loc:=(zBt i0 n)
abbrev zAa:List Ob:=[.box 106 [.fn (.func 77) [] [],.fn (.func 78) [] [],.fn (.func 79) [] [],.fn (.func 80) [] [],.fn (.func 83) [] [],.fn (.func 84) [] [],.fn (.func 85) [] [],.fn (.func 86) [] []]]
def Dt (n:Net) (i0:Nat):List Ob:=zAa
def lW (n:Net) (i0:Nat):Bool:=((decide ((ae n.aa i0).aI<0))||((decide ((ae n.aa i0).aI>=(length (map aE n.rules):Int)))||(bif (length (map aV (ae n.aa i0).ai):Int)==0 then (((i0:Int) !=(aq n.rules (ae n.aa i0).aI).stop)||(ik n i0)) else (ik n i0))))
def wz (n:Net):Bool:=cX (length n.aa) (lW n)
def KQ (n:Net) (i0:Nat):Am.Loc:=[(2,B false)]
def KR (n:Net) (i0:Nat):List Ob:=[]
def An (n:Net):Am.Loc:=[]
def Ao (n:Net):List Ob:=zAa
def FF (n:Net):KB:=⟨Al n 0,Dt n 0,wz n,.ret,KQ n (b4 (zH n) (lW n)),KR n (b4 (zH n) (lW n)),.normal,An n,Ao n,True⟩
def mT (n:Net) (i0:Nat):List bG:=[htW (lW n i0) .ret (KQ n i0) zb (KR n i0),nxW (lW n i0) (Al n (i0+1)) (Dt n (i0+1)) (Al n (i0+1)) zAO (Dt n (i0+1))]
def Xm (n:Net) (i0:Nat):GT:=(.r [.k,bT] (.yes (.r [.row (ak (ae n.aa i0)),bT] (.a (.r (.k::uFF 8 [bT]) (.r [bT] (.pick 0))) (.r (.k::uTT 8 [.k,bT]) (.br (.r [bT] (.pick 0)) (.r [.cd ((ae n.aa i0).aI).toNat (aE (aq n.rules (ae n.aa i0).aI)),bT] (.a (.r (.k::uTT 6 [.k,bT]) (.br (.r [bT] (.pick 0)) (.r [bT] (.r [bT] (.br (.pick 0) (.r [.int ↑(i0+1),bT] (.pick 1))))))) (.r (.k::uFF 6 [bT]) (.r [bT] (.r [bT] (.br (.pick 0) (.r [.int ↑(i0+1),bT] (.pick 1))))))))))))))
theorem YU (n:Net) (i0:Nat) (hf:bp n) (hx0:i0<(length n.aa)):vcC pg 201 base aK 3000 (kbL [(2,tz n i0)]) Af (bz (Al n i0)) (bw (Dt n i0)) 1 (bM (mT n i0)) (Xm n i0):=
 have hr:=hf.rules;have hs:=hf.aa;have l1:=aU ak (n.aa);have hb:(zc i0 n)=true:=decide_eq_true oab;
 bc (an (a1 a0)
 (an hb (an (ac (rwa ak n.aa i0) a0)
 (aM (fun (h1:(zAz i0 n)=true)=>
 (an (aN 7 (ac (n2 h1) (a1 a0)))
 (an a0
 (lf (wy (mT n i0) 0) 2 (show lW n i0=true from (orT h1)))))) (fun h1=>have q0:=(orF h1 rfl:lW n i0=_);have g1:=of_decide_eq_false h1;
 (an (aN 8 (ac (au h1) (a1 a0)))
 (brP (fun (h2:(zg i0 n)=true)=>
 (an a0
 (lf (wy (mT n i0) 0) 2 (q0.trans (orT h2))))) (fun h2=>have q1:=q0.trans (orF h2 rfl);have l2:=aU aE (n.rules);have g2:=of_decide_eq_false h2;
 (an (ac (rwz aE n.rules (ae n.aa i0).aI) a0)
 (aM (fun (h3:((length (map aV (ae n.aa i0).ai):Int)==0)=true)=>have q2:=q1.trans (cdT h3 rfl);have l3:=aU aV ((ae n.aa i0).ai);have g3:=eq_of_beq h3;
 (an (aN 6 (ac h3 (a1 a0)))
 (brP (fun (h4:((i0:Int) !=(aq n.rules (ae n.aa i0).aI).stop)=true)=>
 (an a0
 (lf (wy (mT n i0) 0) 2 (q2.trans (orT h4))))) (fun h4=>have q4:=q2.trans (orF h4 rfl);
 (an a0
 (an a0
 (an (kbT (tz n i0) trivial) (brP (fun (h5:(ik n i0)=true)=>
 (lf (wy (mT n i0) 0) 0 (q4.trans h5))) (fun h5=>
 (an (ac (dwo ((i0+1:Nat):Int)) a0)
 (lf (wy (mT n i0) 1) 3 ⟨(q4.trans h5),rfl,rfl⟩))))))))))) (fun h3=>have q3:=q1.trans (cdF h3 rfl);have l3:=aU aV ((ae n.aa i0).ai);have g3:=ne_of_beq_false h3;
 (an (aN 5 (ac (au h3) (a1 a0)))
 (an a0
 (an a0
 (an (kbT (tz n i0) trivial) (brP (fun (h4:(ik n i0)=true)=>
 (lf (wy (mT n i0) 0) 0 (q3.trans h4))) (fun h4=>
 (an (ac (dwo ((i0+1:Nat):Int)) a0)
 (lf (wy (mT n i0) 1) 3 ⟨(q3.trans h4),rfl,rfl⟩)))))))))))))))))))
 oaa
theorem YV (n:Net) (hf:bp n):vcC pg 201 base aK 3000 (kbL []) Af (bz (Al n (zH n))) (bw (Dt n (zH n))) 1 (bM [⟨True,(.exit 0),An n,range 1,Ao n⟩]) zG:=
 have hr:=hf.rules;have hs:=hf.aa;have l1:=aU ak (n.aa);have hb:(zO n)=false:=decide_eq_false oab;
 bc (an (a1 a0)
 (an hb (lf (wy [⟨True,(.exit 0),An n,range 1,Ao n⟩] 0) 1 trivial)))
 oaa
theorem RU (n:Net) (i0:Nat):(mT n i0).all zj=true:=(aF oan (aF (aR rfl rfl rfl (by simp_all [nxW,Al,plS,AV.pure]) oan) bC))
theorem RV (n:Net):bG.cS 0 ⟨True,(.exit 0),An n,range 1,Ao n⟩=true:=oan
theorem FG:dp [2] Af=[(2,.loop Ag)]:=by kernel_rfl
theorem RW (n:Net) (hf:bp n):cQ pg 201 0 0 (.loop Af) (FF n):=
 have hr:=hf.rules;have hs:=hf.aa;bW (fun _=>eB (id:=0) (m:=length n.aa) (t:=lW n) (xr:= .ret) (xn:=(.exit 0)) (Lr:=KQ n) (Lx:=An n) (obr:=KR n) (obx:=Ao n) (V:=fun i0=>vcC pg 201 base aK 3000 (kbL [(2,tz n i0)]) Af) (Al n) (Dt n) 1 (mT n) (Xm n) _ _ (fun i0 hx0=>aL aw mixed (bK (l:=[(2,tz n i0)]) FG (aT (RT n i0 hf hx0) rfl bj) rfl)) (aL aw mixed (az _)) (fun e=>by cases e) (fun e=>by cases e) (fun _=>rfl) (fun i0 hx0=>YU n i0 hf hx0) (fun i0 _=>RU n i0) (fun i0 _=>show∀ww∈mT n i0,cm _ _ _ _ _ _ ww from (aC cT (aC bU bB))) (YV n hf) (RV n)) (fun h=>h) (fun h=>h)
def r28 (n:Net):Bool:=(!(wz n))
theorem vG:dp [0] (aH 28)=[(0,.loop Af)]:=by kernel_rfl
theorem RY (n:Net) (hf:bp n):bg pg 28 [.pf (aW n)] [] [] (B (r28 n)) []:=
 bD (fn:=Tryz.f28) (callf:=(bI [i63] base)) (pu:=aK) (lf:=3000) (l:=[(0,FF n)]) (t:=(.r [bT] (.r [.int 0,bT] zCX))) (bo (.cons g63 rfl cr.nil) aw) mixed Tryz.func28 oaa (show Tryz.f28.body=some (aH 28) by kernel_rfl) (Nat.le_of_ble_eq_true rfl) (bK (l:=[(0,FF n)]) vG (aT (RW n hf) rfl bj) rfl) rfl (bc
 (an a0
 (an (cA g63 trivial a0)
 (an a0
 (an (kbT (FF n) trivial) (brP (fun (h0:(wz n)=true)=>
 (bE (show r28 n=false from (cq h0)))) (fun h0=>
 (an a0
 (bE (show r28 n=true from (au h0))))))))))
 oaa)
end Go.Proofs.YtfkjfjalecikkaaGreatDoor
end
