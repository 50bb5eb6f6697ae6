/- guard.list: the words of numbers, a piece of an array that nobody writes to again. Of guards: names, numbers. Guards, in plain words. Guards: how great, what they hold. Guards: which may be. Guards: which may be; what they hold (net). Of nets: small readers. Edges (of the document's answer). -/
import Derived.Test.YtfkjfjalecikkaaGreatDoorDC
noncomputable section
open List (length map range replicate)
set_option maxRecDepth 100000
namespace Go.Proofs.YtfkjfjalecikkaaGreatDoor
open Go.Am
theorem Bc {m:Mem} {γ:Gam}: ∀{cs:List AV} {b off:Nat},bJ m γ cs b off->bN m γ 1 (aJ cs) b off
 |[],_,_,_=>by simp [aJ,bN]
 |c::cs,b,off,h=>by
  simp only [bJ] at h
  have:=Bc h.2
  simp only [aJ,List.map_cons,bN,List.length_cons,List.length_nil,bJ,and_true,true_and] at this⊢
  exact ⟨h.1,this⟩
theorem KT {m:Mem} {γ:Gam} {cs:List AV} {b off:Nat} (h:bJ m γ cs b off) (k:Nat):bJ m γ (cs.take k) b off:=by
 refine eu fun i c hc=> ?_
 rw [List.getElem?_take] at hc
 split at hc
 ·exact rF h i c hc
 ·cases hc
section
variable {P:Program} {n:Nat} {ops:Array Oper} {l:List Oper} {L:Am.Loc} {ob:List Ob} {kf:List Rec->Am.Loc->List Ob->Prop} {gu:Am.Loc} {dst:Option Nat} {ty:TypeId} {pos:String} {after:Array Go.Edge} {guard:Option (Nat×Bool)}
theorem Gp {x:Operand} {t e:TypeId} {N p q:Nat} {k1 k2:IntKind} {cs:List AV} (ht:arK P t=some (N,e,1)) (hx:aT L x=some (.pf cs)) (h1:p<q) (h2:q<=N) (hcs:cs.length=N) (hg:Gd ops L guard gu) (hn: ∀d,dst=some d->d<n)
  (kk:EvK P n ops l (cJ L dst (.sl 1 (aJ ((cs.drop p).take (q-p)))) []) ob (fun recs=>kf (⟨dst,gu++ca [(x,.pf cs)],.sl 1 (aJ ((cs.drop p).take (q-p))),[],.pure⟩::recs))):
  EvK P n ops (⟨dst,.slice t x (some (.const (.int k1 p))) (some (.const (.int k2 q))) none,ty,pos,after,guard⟩::l) L ob kf:=
 cF (o:=⟨dst,.slice t x (some (.const (.int k1 p))) (some (.const (.int k2 q))) none,ty,pos,after,guard⟩) [(x,.pf cs)] ⟨hx,trivial⟩ hg hn (fun m γ w a _ h=>by
  have h5:=h.1
  simp only [Rep] at h5
  obtain ⟨b,off,e1,e2⟩:=h5
  obtain ⟨hu,inf,g1,g2⟩:=sa ht
  have hsz:(sizeOf e).run P w= .ok 1 w:=by simp [sizeOf,typeInfo,g1,g2]
  refine ⟨.slice (some (if N=p then ⟨b,off,none⟩ else Addr.add ⟨b,off,none⟩ (p*1))) (q-p) (N-p),?_,?_⟩
  ·have k:(Instr.sliceBounds false N N (some (.int k1 p)) (some (.int k2 q)) none).run P w= .ok (p,q,N) w:=by
    simp [Instr.sliceBounds,eX w _ _ _ _ (Nat.le_of_lt h1),eX w _ _ _ _ h2]
   have key:(Instr.sliceAt t (.pointer (some ⟨b,off,none⟩)) (some (.int k1 p)) (some (.int k2 q)) none).run P w= .ok (.slice (some (if N=p then ⟨b,off,none⟩ else Addr.add ⟨b,off,none⟩ (p*1))) (q-p) (N-p)) w:=by
    simp only [Instr.sliceAt,Sem.run_bind,run_underlying hu,Result.andThen_ok,Instr.sureAddr,Sem.run_pure,k,hsz]
   simp only [execOp,e1,Option.map_none,Option.map_some]
   simp only [Act.eval,Sem.run_bind,key,Result.andThen_ok,Sem.run_pure]
  ·simp only [Rep]
   refine ⟨_,_,_,rfl,by rw [gH,List.length_take,List.length_drop];omega,by omega,.inr ⟨b,off+p,by rw [if_neg (by omega)];simp [Addr.add],Bc (KT (ft e2 p) _)⟩⟩) kk
end
def QN:List AV:=[S ⟨#[105,110,100,101,120]⟩,S ⟨#[99,111,108,117,109,110]⟩,S ⟨#[108,97]⟩,S ⟨#[109,111,100,101]⟩]
def W15:List AV:=replicate 10 (S ⟨#[]⟩)++QN++ [S ⟨#[]⟩]
def Yl:List Oper:=[⟨some 3,.slice 174 (.tmp 1) (some (.const (.int .i8 (10:Nat)))) (some (.const (.int .i8 (14:Nat)))) none,22, "guard.go:51",#[],none⟩,⟨some 0,.assign (.tmp 3),22, "guard.go:51",#[⟨0,.data⟩,⟨0,.phase⟩],none⟩]
theorem tl133:sq2 (sq2 (aH 133))= .seq (.region 2 Yl.toArray false) .ret:=by kernel_rfl
theorem VD:hU [1] [0] (IC Tryz.prog 4 base aO 3000 [sq1 (aH 133),sq1 (sq2 (aH 133))] (jL 0 [] .e) .e 0 ⟨0,[],[]⟩)=some (.normal,[some (.pt 0 0)],[some (.box 174 W15)],1,[]):=by kernel_rfl
theorem VE:ba pg 133 [] [] [] (.sl 1 (aJ QN)) []:=by
 refine lr (fn:=Tryz.f133) Tryz.func133 (by kernel_rfl) (show Tryz.f133.body=some (Qp [sq1 (aH 133),sq1 (sq2 (aH 133))] (sq2 (sq2 (aH 133)))) by kernel_rfl) (Nat.le_of_ble_eq_true rfl) (Nat.le_refl _) rfl rfl ?_
 refine IE aw mixed [(1,.pt 0 0)] [.box 174 W15] VD rfl rfl rfl rfl (Qv (A:=[.box 174 W15]) (KL 1 _) rfl) ?_
 refine Qr (Qq (o:=0) (X:= .box 174 W15) (ob2:=[.dead]) (L' :=[(1,.pf W15)]) rfl (.inr ⟨_,_,rfl⟩) rfl (fun i Y Y' h1 h2=> .inl (by cases i<;>simp at h2;exact h2.symm)) (fun t av' h=> ?_)) ?_
 ·rw [cU] at h
  split at h
  ·rename_i e
   cases h
   exact ⟨.pt 0 0,by rw [cU,if_pos e],Frz.pt rfl⟩
  ·simp [lk] at h
 ·rw [tl133]
  refine iB (J1 (.inl rfl) ?_)
  refine Gp (N:=15) (p:=10) (q:=14) (cs:=W15) (e:=9) (by kernel_rfl) rfl (by omega) (by omega) rfl (by first|exact .none|exact rfl) (by intro d h;cases h;decide) ?_
  refine DV rfl .none (by intro d h;cases h;decide) ?_
  refine oW (Vd (L3:=[(0,.sl 1 (aJ QN))]) rfl ?_ ?_)
  ·exact kc 0 rfl kn
  ·refine Md ?_
   exact ⟨[.sl 1 (aJ QN)],by first|exact .tmp rfl .nil,rfl,_,rfl⟩
def xK (c:Int):Bool:=(bif decide (c>=97) then ((decide (c<=122))||((decide (c>=65))&&decide (c<=90))) else ((decide (c>=65))&&decide (c<=90)))
abbrev zw:GT:=(.r [bT] (.a (.a (.r (.k::bT::bT::.k::uFF 6 [bT]) .nil) (.a (.r [.k,bT,bT,.k,bT,bT,.k,bT,bT,bT,.k,bT,bT] .nil) (.r [.k,bT,bT,.k,bT,bT,.k,bT,bF,bF,bT,bT] .nil))) (.a (.r [.k,bF,bF,bT,bT,.k,bT,bT,bT,.k,bT,bT] .nil) (.r [.k,bF,bF,bT,bT,.k,bT,bF,bF,bT,bT] .nil))))
theorem Ov (c:Int):ba pg 129 [.v (.int .u8 c)] [] [] (B (xK c)) []:=
 bB (fn:=Tryz.f129) (callf:=base) (pu:=aO) (lf:=3000) (l:=[]) (t:=zw) aw mixed Tryz.func129 (by kernel_rfl) (show Tryz.f129.body=some (aH 129) by kernel_rfl) (Nat.le_of_ble_eq_true rfl) (az _) rfl (aZ
 (an a0
 (aP (fun (h0:(decide (c>=97))=true)=>have q0:=(cdT h0 rfl:xK c=_);
 (aP (fun (h1:(decide (c<=122))=true)=>
 (an (aN 5 (ac (n2 h1) (aN 2 (ac h0 (a1 a0)))))
 (bE (q0.trans (orT h1))))) (fun h1=>
 (aP (fun (h2:(decide (c>=65))=true)=>
 (an (aN 3 (ac h2 (aN 3 (ac (au h1) (aN 2 (ac h0 (a1 a0)))))))
 (bE (show xK c=(decide (c<=90)) from (cdT h0 (orF h1 (aE h2 rfl))))))) (fun h2=>
 (an (aN 2 (ac (au h2) (aN 3 (ac (au h1) (aN 2 (ac h0 (a1 a0)))))))
 (bE (q0.trans (orF h1 (aY h2)))))))))) (fun h0=>
 (aP (fun (h1:(decide (c>=65))=true)=>
 (an (aN 3 (ac h1 (aN 5 (ac (au h0) (a1 a0)))))
 (bE (show xK c=(decide (c<=90)) from (cdF h0 (aE h1 rfl)))))) (fun h1=>
 (an (aN 2 (ac (au h1) (aN 5 (ac (au h0) (a1 a0)))))
 (bE (show xK c=false from (cdF h0 (aY h1))))))))))
 (by kernel_rfl))
def i129 (c:Int):b9:=⟨129,[.v (.int .u8 c)],B (xK c),True⟩
theorem KU (c:Int):(i129 c).cd pg:=fun hp=>⟨Ov c,by simp [i129,ae,AV.pure],by simp [i129,AV.pure]⟩
def KV (c:Int):Bool:=((decide (c>=48))&&decide (c<=57))
abbrev zBZ:GT:=(.r [bT] (.a (.r [.k,bT,bT,.k,bT] .nil) (.r [.k,bF,bF,bT] .nil)))
theorem QO (c:Int):ba pg 136 [.v (.int .u8 c)] [] [] (B (KV c)) []:=
 bB (fn:=Tryz.f136) (callf:=base) (pu:=aO) (lf:=3000) (l:=[]) (t:=zBZ) aw mixed Tryz.func136 (by kernel_rfl) (show Tryz.f136.body=some (aH 136) by kernel_rfl) (Nat.le_of_ble_eq_true rfl) (az _) rfl (aZ
 (an a0
 (aP (fun (h0:(decide (c>=48))=true)=>
 (an (aN 2 (ac h0 (a1 a0)))
 (bE (show KV c=(decide (c<=57)) from (aE h0 rfl))))) (fun h0=>
 (an (a1 (ac (au h0) (a1 a0)))
 (bE (show KV c=false from (aY h0)))))))
 (by kernel_rfl))
def i136 (c:Int):b9:=⟨136,[.v (.int .u8 c)],B (KV c),True⟩
theorem g136 (c:Int):(i136 c).cd pg:=fun hp=>⟨QO c,by simp [i136,ae,AV.pure],by simp [i136,AV.pure]⟩
def uJ (c:Int):Bool:=(bif decide (c>=97) then ((decide (c<=122))||((decide (c>=65))&&decide (c<=90))) else ((decide (c>=65))&&decide (c<=90)))
theorem Ow (c:Int):ba pg 134 [.v (.int .u8 c)] [] [] (B (uJ c)) []:=
 bB (fn:=Tryz.f134) (callf:=base) (pu:=aO) (lf:=3000) (l:=[]) (t:=zw) aw mixed Tryz.func134 (by kernel_rfl) (show Tryz.f134.body=some (aH 134) by kernel_rfl) (Nat.le_of_ble_eq_true rfl) (az _) rfl (aZ
 (an a0
 (aP (fun (h0:(decide (c>=97))=true)=>have q0:=(cdT h0 rfl:uJ c=_);
 (aP (fun (h1:(decide (c<=122))=true)=>
 (an (aN 5 (ac (n2 h1) (aN 2 (ac h0 (a1 a0)))))
 (bE (q0.trans (orT h1))))) (fun h1=>
 (aP (fun (h2:(decide (c>=65))=true)=>
 (an (aN 3 (ac h2 (aN 3 (ac (au h1) (aN 2 (ac h0 (a1 a0)))))))
 (bE (show uJ c=(decide (c<=90)) from (cdT h0 (orF h1 (aE h2 rfl))))))) (fun h2=>
 (an (aN 2 (ac (au h2) (aN 3 (ac (au h1) (aN 2 (ac h0 (a1 a0)))))))
 (bE (q0.trans (orF h1 (aY h2)))))))))) (fun h0=>
 (aP (fun (h1:(decide (c>=65))=true)=>
 (an (aN 3 (ac h1 (aN 5 (ac (au h0) (a1 a0)))))
 (bE (show uJ c=(decide (c<=90)) from (cdF h0 (aE h1 rfl)))))) (fun h1=>
 (an (aN 2 (ac (au h1) (aN 5 (ac (au h0) (a1 a0)))))
 (bE (show uJ c=false from (cdF h0 (aY h1))))))))))
 (by kernel_rfl))
def i134 (c:Int):b9:=⟨134,[.v (.int .u8 c)],B (uJ c),True⟩
theorem Ox (c:Int):(i134 c).cd pg:=fun hp=>⟨Ow c,by simp [i134,ae,AV.pure],by simp [i134,AV.pure]⟩
def IP (c:Int):Bool:=((decide (c>=48))&&decide (c<=57))
theorem QP (c:Int):ba pg 135 [.v (.int .u8 c)] [] [] (B (IP c)) []:=
 bB (fn:=Tryz.f135) (callf:=base) (pu:=aO) (lf:=3000) (l:=[]) (t:=zBZ) aw mixed Tryz.func135 (by kernel_rfl) (show Tryz.f135.body=some (aH 135) by kernel_rfl) (Nat.le_of_ble_eq_true rfl) (az _) rfl (aZ
 (an a0
 (aP (fun (h0:(decide (c>=48))=true)=>
 (an (aN 2 (ac h0 (a1 a0)))
 (bE (show IP c=(decide (c<=57)) from (aE h0 rfl))))) (fun h0=>
 (an (a1 (ac (au h0) (a1 a0)))
 (bE (show IP c=false from (aY h0)))))))
 (by kernel_rfl))
def i135 (c:Int):b9:=⟨135,[.v (.int .u8 c)],B (IP c),True⟩
theorem g135 (c:Int):(i135 c).cd pg:=fun hp=>⟨QP c,by simp [i135,ae,AV.pure],by simp [i135,AV.pure]⟩
def IQ (c:Int):Bool:=((xK c)||((KV c)||c==95))
theorem Oy (c:Int):ba pg 131 [.v (.int .u8 c)] [] [] (B (IQ c)) []:=
 bB (fn:=Tryz.f131) (callf:=(bC [i129 c,i136 c] base)) (pu:=aO) (lf:=3000) (l:=[]) (t:=(.r [bT] (.a (.r (.int 0::uFF 4 [bT]) .nil) (.a (.r [.int 0,bT,bT,.int 1,bF,bF,bT] .nil) (.r [.int 0,bT,bT,.int 1,bT,bT,.k,bT] .nil))))) (bf (.cons (KU c) rfl (.cons (g136 c) rfl cv.nil)) aw) mixed Tryz.func131 (by kernel_rfl) (show Tryz.f131.body=some (aH 131) by kernel_rfl) (Nat.le_of_ble_eq_true rfl) (az _) rfl (aZ
 (an a0
 (aP (fun (h0:(xK c)=true)=>
 (an (aN 3 (ac (n2 h0) (cA (KU c) trivial a0)))
 (bE (show IQ c=true from (orT h0))))) (fun h0=>
 (aP (fun (h1:(KV c)=true)=>
 (an (a1 (ac (n2 h1) (cA (g136 c) trivial (a1 (ac (au h0) (cA (KU c) trivial a0))))))
 (bE (show IQ c=true from (orF h0 (orT h1)))))) (fun h1=>
 (an (aN 2 (ac (au h1) (cA (g136 c) trivial (a1 (ac (au h0) (cA (KU c) trivial a0))))))
 (bE (show IQ c=(c==95) from (orF h0 (orF h1 rfl))))))))))
 (by kernel_rfl))
def i131 (c:Int):b9:=⟨131,[.v (.int .u8 c)],B (IQ c),True⟩
theorem g131 (c:Int):(i131 c).cd pg:=fun hp=>⟨Oy c,by simp [i131,ae,AV.pure],by simp [i131,AV.pure]⟩
def Be:Code:=bV 0 (aH 126)
def ml (s:ByteArray) (i0:Nat):Am.Loc:=[(0,S s),(3,I (i0:Int))]
def uK (_:ByteArray) (_:Nat):List Ob:=[]
def kK (s:ByteArray) (i0:Nat):Bool:=((!(uJ (cD s i0)))&&((!(IP (cD s i0)))&&((cD s i0) !=95)))
def jP (s:ByteArray):Bool:=dh (ByteArray.size s) (kK s)
def pj (_:ByteArray) (_:Nat):Am.Loc:=[(2,B false)]
def Gq (_:ByteArray) (_:Nat):List Ob:=[]
def kq (s:ByteArray):Am.Loc:=[(0,S s)]
def sq (_:ByteArray):List Ob:=[]
abbrev zBt (s:ByteArray):=(ByteArray.size s)
def yp (s:ByteArray):KB:=⟨ml s 0,uK s 0,jP s,.ret,pj s (cc (zBt s) (kK s)),Gq s (cc (zBt s) (kK s)),.normal,kq s,sq s,True⟩
abbrev za:=(range 0)
def nM (s:ByteArray) (i0:Nat):List bj:=[htW (kK s i0) .ret (pj s i0) za (Gq s i0),nxW (kK s i0) (ml s (i0+1)) (uK s (i0+1)) (ml s (i0+1)) za (uK s (i0+1))]
def QQ (s:ByteArray) (i0:Nat):GT:=(.r [.k,bT] (.yes (.a (.a (.r (.val (.int .u8 (cD s i0))::.int 0::bT::bT::bT::.val (.int .u8 (cD s i0))::bT::.int 1::uTT 4 [.val (.int .u8 (cD s i0)),bT,.k,bT]) (.br (.r [bT] (.pick 0)) (.r [.int ↑(i0+1),bT] (.pick 1)))) (.r (.val (.int .u8 (cD s i0))::.int 0::bT::bT::bT::.val (.int .u8 (cD s i0))::bT::.int 1::bT::uFF 4 [bT]) (.r [.int ↑(i0+1),bT] (.pick 1)))) (.r (.val (.int .u8 (cD s i0))::.int 0::uFF 9 [bT]) (.r [.int ↑(i0+1),bT] (.pick 1))))))
theorem VF (s:ByteArray) (i0:Nat) (ls:ByteArray.size s<=9223372036854775807) (hx0:i0<(ByteArray.size s)):vcC pg 50 (bC [i134 (cD s i0),i135 (cD s i0)] base) aO 3000 (kbL []) Be (bu (ml s i0)) (bA (uK s i0)) 0 (bQ (nM s i0)) (QQ s i0):=
 have hb:(decide ((i0:Int)<(ByteArray.size s:Int)))=true:=decide_eq_true (by omega);
 aZ (an (a1 a0)
 (an hb (aP (fun (h1:(!(uJ (cD s i0)))=true)=>have q0:=(aE h1 rfl:kK s i0=_);
 (aP (fun (h2:(!(IP (cD s i0)))=true)=>have q1:=q0.trans (aE h2 rfl);
 (an (aN 2 (ac (ixB s i0 (by omega)) (aN 2 (ac h2 (a1 (cA (g135 (cD s i0)) trivial (a1 (ac (ixB s i0 (by omega)) (aN 2 (ac h1 (cA (Ox (cD s i0)) trivial (ac (ixB s i0 (by omega)) a0))))))))))))
 (brP (fun (h3:((cD s i0) !=95)=true)=>
 (an a0
 (lf (wy (nM s i0) 0) 0 (q1.trans h3)))) (fun h3=>have g3:=fO h3;
 (an (ac (dwr (z:= ↑(i0+1)) (by omega) (by omega)) a0)
 (lf (wy (nM s i0) 1) 0 ⟨(q1.trans h3),rfl,rfl⟩)))))) (fun h2=>
 (an (aN 3 (ac (au h2) (a1 (cA (g135 (cD s i0)) trivial (a1 (ac (ixB s i0 (by omega)) (aN 2 (ac h1 (cA (Ox (cD s i0)) trivial (ac (ixB s i0 (by omega)) a0))))))))))
 (an (ac (dwr (z:= ↑(i0+1)) (by omega) (by omega)) a0)
 (lf (wy (nM s i0) 1) 0 ⟨(q0.trans (aY h2)),rfl,rfl⟩)))))) (fun h1=>
 (an (aN 8 (ac (au h1) (cA (Ox (cD s i0)) trivial (ac (ixB s i0 (by omega)) a0))))
 (an (ac (dwr (z:= ↑(i0+1)) (by omega) (by omega)) a0)
 (lf (wy (nM s i0) 1) 0 ⟨(show kK s i0=false from (aY h1)),rfl,rfl⟩)))))))
 (by kernel_rfl)
abbrev zE:GT:=(.r [.k,bT] (.no (.pick 0)))
abbrev zCP (s:ByteArray):=(decide ((((ByteArray.size s):Nat):Int)<(ByteArray.size s:Int)))
theorem VG (s:ByteArray) (_:ByteArray.size s<=9223372036854775807):vcC pg 50 base aO 3000 (kbL []) Be (bu (ml s (zBt s))) (bA (uK s (zBt s))) 0 (bQ [⟨True,(.exit 0),kq s,range 0,sq s⟩]) zE:=
 have hb:(zCP s)=false:=decide_eq_false (by omega);
 aZ (an (a1 a0)
 (an hb (lf (wy [⟨True,(.exit 0),kq s,range 0,sq s⟩] 0) 0 trivial)))
 (by kernel_rfl)
abbrev zr:=(bj.b8 0)
theorem Oz (s:ByteArray) (i0:Nat):(nM s i0).all zr=true:=by refine (aF (aQ rfl rfl rfl ?_ rfl) (aF (aQ rfl rfl rfl ?_ rfl) bD))<;>simp (maxDischargeDepth:=9) [nxW,htW,ml,pj,plS,AV.pure]
theorem OA (s:ByteArray):bj.b8 0 ⟨True,(.exit 0),kq s,range 0,sq s⟩=true:=(aQ rfl rfl rfl (by simp (maxDischargeDepth:=9) [kq,plS,AV.pure]) rfl)
theorem OB (s:ByteArray) (ls:ByteArray.size s<=9223372036854775807):dg pg 50 0 0 (.loop Be) (yp s):=
 bZ (fun _=>e9 (id:=0) (m:=ByteArray.size s) (t:=kK s) (xr:= .ret) (xn:=(.exit 0)) (Lr:=pj s) (Lx:=kq s) (obr:=Gq s) (obx:=sq s) (V:=fun i0=>vcC pg 50 (bC [i134 (cD s i0),i135 (cD s i0)] base) aO 3000 (kbL []) Be) (ml s) (uK s) 0 (nM s) (QQ s) _ _ (fun i0 hx0=>aS (bf (.cons (Ox (cD s i0)) rfl (.cons (g135 (cD s i0)) rfl cv.nil)) aw) mixed (az _)) (aS aw mixed (az _)) (fun e=>by cases e) (fun e=>by cases e) (fun _=>rfl) (fun i0 hx0=>VF s i0 ls hx0) (fun i0 _=>Oz s i0) (fun i0 _=>show∀ww∈nM s i0,cy _ _ _ _ _ _ ww from (aG da (aG cg bG))) (VG s ls) (OA s)) (fun h=>h) (fun h=>h)
def IS (s:ByteArray):Bool:=(!(cP (Array.toList (ByteArray.data s)) [])&&(!(decide ((ByteArray.size s:Int)>40))&&(!(!(uJ (cD s 0)))&&(!(jP s)&&(!(cP (Array.toList (ByteArray.data s)) [116,114,117,101])&&(!(cP (Array.toList (ByteArray.data s)) [102,97,108,115,101])&&(!(cP (Array.toList (ByteArray.data s)) [111,114,97,99,108,101])&&(!(cP (Array.toList (ByteArray.data s)) [105,110,100,101,120])&&(!(cP (Array.toList (ByteArray.data s)) [99,111,108,117,109,110])&&(!(cP (Array.toList (ByteArray.data s)) [108,97])&&(!(cP (Array.toList (ByteArray.data s)) [109,111,100,101]))))))))))))
theorem ss:dB [0] (aH 126)=[(0,.loop Be)]:=by kernel_rfl
abbrev zD:GT:=(.r [bT] .nil)
theorem VH (s:ByteArray) (ls:ByteArray.size s<=9223372036854775807):ba pg 126 [S s] [] [] (B (IS s)) []:=
 bB (fn:=Tryz.f126) (callf:=(bC [i134 (cD s 0)] base)) (pu:=aO) (lf:=3000) (l:=[(0,yp s)]) (t:=(.r [bT] (.a (.r (.k::uFF 7 [bT]) zD) (.a (.r (.k::bT::bT::bT::.k::uFF 4 [bT]) zD) (.r [.k,bT,bT,bT,.k,bT,bT,.val (.int .u8 (cD s 0)),bT,.int 0,bT,bT] (.br zD (.r [bT] (.br .nil (.r [bT] (.r [.k,bT] (.br zD (.r [.k,bT] (.br zD (.r [.k,bT] (.br zD (.r [.k,bT] (.br zD (.r [.k,bT] (.br zD (.r [.k,bT] (.br zD (.r [.k,bT] (.br zD zD))))))))))))))))))))))) (bf (.cons (Ox (cD s 0)) rfl cv.nil) aw) mixed Tryz.func126 (by kernel_rfl) (show Tryz.f126.body=some (aH 126) by kernel_rfl) (Nat.le_of_ble_eq_true rfl) (bO (l:=[(0,yp s)]) ss (aV (OB s ls) rfl bn) rfl) rfl (aZ
 (an a0
 (aP (fun (h0:(cP (Array.toList (ByteArray.data s)) [])=true)=>
 (an (aN 6 (ac (n2 h0) (a1 a0)))
 (an a0
 (bE (show IS s=false from (aY (cx h0))))))) (fun h0=>have q0:=(aE (au h0) rfl:IS s=_);have g0:=size_pos h0;
 (aP (fun (h1:(decide ((ByteArray.size s:Int)>40))=true)=>
 (an (aN 3 (ac (n2 h1) (aN 3 (ac (au h0) (a1 a0)))))
 (an a0
 (bE (q0.trans (aY (cx h1))))))) (fun h1=>have q1:=q0.trans (aE (au h1) rfl);have g1:=of_decide_eq_false h1;
 (an (a1 (cA (Ox (cD s 0)) trivial (a1 (ac (ixB s 0 (by omega)) (a1 (ac (au h1) (aN 3 (ac (au h0) (a1 a0)))))))))
 (brP (fun (h2:(!(uJ (cD s 0)))=true)=>
 (an a0
 (bE (q1.trans (aY (cx h2)))))) (fun h2=>have q2:=q1.trans (aE (au h2) rfl);
 (an a0
 (an (kbT (yp s) trivial) (brP (fun (h3:(jP s)=true)=>
 (bE (q2.trans (aY (cx h3))))) (fun h3=>have q3:=q2.trans (aE (au h3) rfl);
 (an a0
 (an (a1 a0)
 (brP (fun (h4:(cP (Array.toList (ByteArray.data s)) [116,114,117,101])=true)=>
 (an a0
 (bE (q3.trans (aY (cx h4)))))) (fun h4=>have q4:=q3.trans (aE (au h4) rfl);
 (an (a1 a0)
 (brP (fun (h5:(cP (Array.toList (ByteArray.data s)) [102,97,108,115,101])=true)=>
 (an a0
 (bE (q4.trans (aY (cx h5)))))) (fun h5=>have q5:=q4.trans (aE (au h5) rfl);
 (an (a1 a0)
 (brP (fun (h6:(cP (Array.toList (ByteArray.data s)) [111,114,97,99,108,101])=true)=>
 (an a0
 (bE (q5.trans (aY (cx h6)))))) (fun h6=>have q6:=q5.trans (aE (au h6) rfl);
 (an (a1 a0)
 (brP (fun (h7:(cP (Array.toList (ByteArray.data s)) [105,110,100,101,120])=true)=>
 (an a0
 (bE (q6.trans (aY (cx h7)))))) (fun h7=>have q7:=q6.trans (aE (au h7) rfl);
 (an (a1 a0)
 (brP (fun (h8:(cP (Array.toList (ByteArray.data s)) [99,111,108,117,109,110])=true)=>
 (an a0
 (bE (q7.trans (aY (cx h8)))))) (fun h8=>have q8:=q7.trans (aE (au h8) rfl);
 (an (a1 a0)
 (brP (fun (h9:(cP (Array.toList (ByteArray.data s)) [108,97])=true)=>
 (an a0
 (bE (q8.trans (aY (cx h9)))))) (fun h9=>have q9:=q8.trans (aE (au h9) rfl);
 (an (a1 a0)
 (brP (fun (h10:(cP (Array.toList (ByteArray.data s)) [109,111,100,101])=true)=>
 (an a0
 (bE (q9.trans (cx h10))))) (fun h10=>
 (an a0
 (bE (q9.trans (au h10))))))))))))))))))))))))))))))))))))))
 (by kernel_rfl))
def Bf:Code:=bV 0 (aH 130)
def mm (s:ByteArray) (i0:Nat):Am.Loc:=[(0,S s),(1,.fn (.func 131) [] []),(5,I (i0:Int))]
def uM (_:ByteArray) (_:Nat):List Ob:=[]
def hC (s:ByteArray) (i0:Nat):Bool:=(!(IQ (cD s i0)))
def nN (s:ByteArray):Bool:=dh (ByteArray.size s) (hC s)
def pk (_:ByteArray) (i0:Nat):Am.Loc:=[(5,I (i0:Int))]
def Gr (_:ByteArray) (_:Nat):List Ob:=[]
def kr (s:ByteArray):Am.Loc:=[(5,I (((zBt s):Nat):Int))]
def su (_:ByteArray):List Ob:=[]
def yq (s:ByteArray):KB:=⟨mm s 0,uM s 0,nN s,.normal,pk s (cc (zBt s) (hC s)),Gr s (cc (zBt s) (hC s)),.normal,kr s,su s,True⟩
def uN (s:ByteArray) (i0:Nat):List bj:=[nxW (hC s i0) (mm s (i0+1)) (uM s (i0+1)) (mm s (i0+1)) za (uM s (i0+1)),htW (hC s i0) (.exit 0) (pk s i0) za (Gr s i0)]
def QR (s:ByteArray) (i0:Nat):GT:=(.r (.k::uTT 4 [.val (.int .u8 (cD s i0)),bT,.int 0,bT]) (.br (.r [.int ↑(i0+1),bT] (.pick 0)) (.pick 1)))
theorem VI (s:ByteArray) (i0:Nat) (ls:ByteArray.size s<=9223372036854775807) (hx0:i0<(ByteArray.size s)):vcC pg 20 (bC [i131 (cD s i0)] base) aO 3000 (kbL []) Bf (bu (mm s i0)) (bA (uM s i0)) 0 (bQ (uN s i0)) (QR s i0):=
 have hb:(decide ((i0:Int)<(ByteArray.size s:Int)))=true:=decide_eq_true (by omega);
 aZ (an (cA (g131 (cD s i0)) trivial (a1 (ac (ixB s i0 (by omega)) (aN 3 (ac hb (a1 a0))))))
 (brP (fun (h1:(IQ (cD s i0))=true)=>
 (an (ac (dwr (z:= ↑(i0+1)) (by omega) (by omega)) a0)
 (lf (wy (uN s i0) 0) 0 ⟨(show hC s i0=false from (cx h1)),rfl,rfl⟩))) (fun h1=>
 (lf (wy (uN s i0) 1) 0 (show hC s i0=true from (au h1))))))
 (by kernel_rfl)
theorem VJ (s:ByteArray) (_:ByteArray.size s<=9223372036854775807):vcC pg 20 base aO 3000 (kbL []) Bf (bu (mm s (zBt s))) (bA (uM s (zBt s))) 0 (bQ [⟨True,(.exit 0),kr s,range 0,su s⟩]) (.r (.k::uFF 5 [bT]) (.pick 0)):=
 have hb:(zCP s)=false:=decide_eq_false (by omega);
 aZ (an (aN 4 (ac (au hb) (a1 a0)))
 (lf (wy [⟨True,(.exit 0),kr s,range 0,su s⟩] 0) 0 trivial))
 (by kernel_rfl)
theorem OC (s:ByteArray) (i0:Nat):(uN s i0).all zr=true:=by refine (aF (aQ rfl rfl rfl ?_ rfl) (aF (aQ rfl rfl rfl ?_ rfl) bD))<;>simp (maxDischargeDepth:=9) [nxW,htW,mm,pk,plS,AV.pure,ae]
theorem OD (s:ByteArray):bj.b8 0 ⟨True,(.exit 0),kr s,range 0,su s⟩=true:=(aQ rfl rfl rfl (by simp (maxDischargeDepth:=9) [kr,plS,AV.pure]) rfl)
theorem OE (s:ByteArray) (ls:ByteArray.size s<=9223372036854775807):dg pg 20 0 0 (.loop Bf) (yq s):=
 bZ (fun _=>e9 (id:=0) (m:=ByteArray.size s) (t:=hC s) (xr:=(.exit 0)) (xn:=(.exit 0)) (Lr:=pk s) (Lx:=kr s) (obr:=Gr s) (obx:=su s) (V:=fun i0=>vcC pg 20 (bC [i131 (cD s i0)] base) aO 3000 (kbL []) Bf) (mm s) (uM s) 0 (uN s) (QR s) _ _ (fun i0 hx0=>aS (bf (.cons (g131 (cD s i0)) rfl cv.nil) aw) mixed (az _)) (aS aw mixed (az _)) (fun e=>by cases e) (fun e=>by cases e) (fun _=>rfl) (fun i0 hx0=>VI s i0 ls hx0) (fun i0 _=>OC s i0) (fun i0 _=>show∀ww∈uN s i0,cy _ _ _ _ _ _ ww from (aG cg (aG da bG))) (VJ s ls) (OD s)) (fun h=>h) (fun h=>h)
def IT (s:ByteArray):Int:=(bif nN s then (((cc (ByteArray.size s) (hC s)):Nat):Int) else (((ByteArray.size s):Nat):Int))
theorem sv:dB [0] (aH 130)=[(0,.loop Bf)]:=by kernel_rfl
theorem QS (s:ByteArray) (ls:ByteArray.size s<=9223372036854775807):ba pg 130 [S s,.fn (.func 131) [] []] [] [] (I (IT s)) []:=
 bB (fn:=Tryz.f130) (callf:=base) (pu:=aO) (lf:=3000) (l:=[(0,yq s)]) (t:=(.r [bT] (.r [bT] (.br zD zD)))) aw mixed Tryz.func130 (by kernel_rfl) (show Tryz.f130.body=some (aH 130) by kernel_rfl) (Nat.le_of_ble_eq_true rfl) (bO (l:=[(0,yq s)]) sv (aV (OE s ls) rfl bn) rfl) rfl (aZ
 (an a0
 (an a0
 (an (kbT (yq s) trivial) (brP (fun (h0:(nN s)=true)=>
 (an a0
 (iE (show IT s=(((cc (ByteArray.size s) (hC s)):Nat):Int) from (cdT h0 rfl))))) (fun h0=>
 (an a0
 (iE (show IT s=(((ByteArray.size s):Nat):Int) from (cdF h0 rfl)))))))))
 (by kernel_rfl))
def i126 (s:ByteArray):b9:=⟨126,[S s],B (IS s),s.size<=9223372036854775807⟩
theorem g126 (s:ByteArray):(i126 s).cd pg:=fun hp=>⟨VH s hp,by simp [i126,ae,AV.pure],by simp [i126,AV.pure]⟩
def i130 (s:ByteArray):b9:=⟨130,[S s,.fn (.func 131) [] []],I (IT s),s.size<=9223372036854775807⟩
theorem g130 (s:ByteArray):(i130 s).cd pg:=fun hp=>⟨QS s hp,by simp [i130,ae,AV.pure],by simp [i130,AV.pure]⟩
def i133:b9:=⟨133,[],.sl 1 (aJ QN),True⟩
theorem OF:i133.cd pg:=fun _=>⟨VE,rfl,rfl⟩
def IU (s:ByteArray):Bool:=(!(cP (Array.toList (ByteArray.data s)) [])&&(!(decide ((ByteArray.size s:Int)>40))&&(!(!(xK (cD s 0)))&&(!(decide ((IT s)<(ByteArray.size s:Int)))&&(!(cP (Array.toList (ByteArray.data s)) [116,114,117,101])&&(!(cP (Array.toList (ByteArray.data s)) [102,97,108,115,101])&&(!(cP (Array.toList (ByteArray.data s)) [111,114,97,99,108,101])&&(!(cP (Array.toList (ByteArray.data s)) [105,110,100,101,120])&&(!(cP (Array.toList (ByteArray.data s)) [99,111,108,117,109,110])&&(!(cP (Array.toList (ByteArray.data s)) [108,97])&&(!(cP (Array.toList (ByteArray.data s)) [109,111,100,101]))))))))))))
abbrev zCB:List Gi:=(.k::uFF 12 [bT])
theorem QT (s:ByteArray) (ls:ByteArray.size s<=9223372036854775807):ba pg 125 [S s] [] [] (B (IU s)) []:=
 bB (fn:=Tryz.f125) (callf:=(bC [i129 (cD s 0),i130 s,i133] base)) (pu:=aO) (lf:=3000) (l:=[]) (t:=(.r [bT] (.a (.r zCB zD) (.a (.r (.k::bT::bT::bT::.k::uFF 9 [bT]) zD) (.a (.r (.k::bT::bT::bT::.k::bT::bT::.val (.int .u8 (cD s 0))::bT::.int 0::bT::uFF 5 [bT]) zD) (.r [.k,bT,bT,bT,.k,bT,bT,.val (.int .u8 (cD s 0)),bT,.int 0,bT,bT,bT,.int 1,bT,bT,bT,.k,bT] (.br zD (.r [bT] (.r [.k,bT] (.br zD (.r [.k,bT] (.br zD (.r [.k,bT] (.br zD (.a (.r [.int 2,.k,.row [S (⟨#[105,110,100,101,120]⟩)],bT,.k,bT] .nil) (.a (.r [.int 2,.k,.row [S (⟨#[105,110,100,101,120]⟩)],bF,.int 1,.k,.row [S (⟨#[99,111,108,117,109,110]⟩)],bT,.k,bT] .nil) (.a (.r [.int 2,.k,.row [S (⟨#[105,110,100,101,120]⟩)],bF,.int 1,.k,.row [S (⟨#[99,111,108,117,109,110]⟩)],bF,.int 2,.k,.row [S (⟨#[108,97]⟩)],bT,.k,bT] .nil) (.a (.r [.int 2,.k,.row [S (⟨#[105,110,100,101,120]⟩)],bF,.int 1,.k,.row [S (⟨#[99,111,108,117,109,110]⟩)],bF,.int 2,.k,.row [S (⟨#[108,97]⟩)],bF,.int 3,.k,.row [S (⟨#[109,111,100,101]⟩)],bT,.k,bT] .nil) (.r [.int 2,.k,.row [S (⟨#[105,110,100,101,120]⟩)],bF,.int 1,.k,.row [S (⟨#[99,111,108,117,109,110]⟩)],bF,.int 2,.k,.row [S (⟨#[108,97]⟩)],bF,.int 3,.k,.row [S (⟨#[109,111,100,101]⟩)],bF,.int 4,.k,.k,bT] .nil))))))))))))))))))) (bf (.cons (KU (cD s 0)) rfl (.cons (g130 s) rfl (.cons OF rfl cv.nil))) aw) mixed Tryz.func125 (by kernel_rfl) (show Tryz.f125.body=some (aH 125) by kernel_rfl) (Nat.le_of_ble_eq_true rfl) (az _) rfl (aZ
 (an a0
 (aP (fun (h0:(cP (Array.toList (ByteArray.data s)) [])=true)=>
 (an (aN 11 (ac (n2 h0) (a1 a0)))
 (an a0
 (bE (show IU s=false from (aY (cx h0))))))) (fun h0=>have q0:=(aE (au h0) rfl:IU s=_);have g0:=size_pos h0;
 (aP (fun (h1:(decide ((ByteArray.size s:Int)>40))=true)=>
 (an (aN 8 (ac (n2 h1) (aN 3 (ac (au h0) (a1 a0)))))
 (an a0
 (bE (q0.trans (aY (cx h1))))))) (fun h1=>have q1:=q0.trans (aE (au h1) rfl);have g1:=of_decide_eq_false h1;
 (aP (fun (h2:(!(xK (cD s 0)))=true)=>
 (an (aN 4 (ac (n2 h2) (a1 (cA (KU (cD s 0)) trivial (a1 (ac (ixB s 0 (by omega)) (a1 (ac (au h1) (aN 3 (ac (au h0) (a1 a0)))))))))))
 (an a0
 (bE (q1.trans (aY (cx h2))))))) (fun h2=>have q2:=q1.trans (aE (au h2) rfl);
 (an (aN 4 (cA (g130 s) ls (a1 (ac (au h2) (a1 (cA (KU (cD s 0)) trivial (a1 (ac (ixB s 0 (by omega)) (a1 (ac (au h1) (aN 3 (ac (au h0) (a1 a0)))))))))))))
 (brP (fun (h3:(decide ((IT s)<(ByteArray.size s:Int)))=true)=>
 (an a0
 (bE (q2.trans (aY (cx h3)))))) (fun h3=>have q3:=q2.trans (aE (au h3) rfl);
 (an a0
 (an (a1 a0)
 (brP (fun (h4:(cP (Array.toList (ByteArray.data s)) [116,114,117,101])=true)=>
 (an a0
 (bE (q3.trans (aY (cx h4)))))) (fun h4=>have q4:=q3.trans (aE (au h4) rfl);
 (an (a1 a0)
 (brP (fun (h5:(cP (Array.toList (ByteArray.data s)) [102,97,108,115,101])=true)=>
 (an a0
 (bE (q4.trans (aY (cx h5)))))) (fun h5=>have q5:=q4.trans (aE (au h5) rfl);
 (an (a1 a0)
 (brP (fun (h6:(cP (Array.toList (ByteArray.data s)) [111,114,97,99,108,101])=true)=>
 (an a0
 (bE (q5.trans (aY (cx h6)))))) (fun h6=>have q6:=q5.trans (aE (au h6) rfl);
 (aP (fun (h7:(cP (Array.toList (ByteArray.data s)) [105,110,100,101,120])=true)=>
 (an (aN 3 (ac h7 (ac (fM (some [S (⟨#[105,110,100,101,120]⟩)])) (a1 (ac (pvA [.sl 1 [[S (⟨#[105,110,100,101,120]⟩)],[S (⟨#[99,111,108,117,109,110]⟩)],[S (⟨#[108,97]⟩)],[S (⟨#[109,111,100,101]⟩)]],S s] (by simp [ae,ai,AV.pure])) (ac (pvA [.sl 1 [[S (⟨#[105,110,100,101,120]⟩)],[S (⟨#[99,111,108,117,109,110]⟩)],[S (⟨#[108,97]⟩)],[S (⟨#[109,111,100,101]⟩)]],S s] (by simp [ae,ai,AV.pure])) (cA OF trivial a0)))))))
 (bE (q6.trans (aY (cx h7)))))) (fun h7=>have q7:=q6.trans (aE (au h7) rfl);
 (aP (fun (h8:(cP (Array.toList (ByteArray.data s)) [99,111,108,117,109,110])=true)=>
 (an (aN 3 (ac h8 (ac (fM (some [S (⟨#[99,111,108,117,109,110]⟩)])) (a1 (ac (fM (1:Int)) (ac (au h7) (ac (fM (some [S (⟨#[105,110,100,101,120]⟩)])) (a1 (ac (pvA [.sl 1 [[S (⟨#[105,110,100,101,120]⟩)],[S (⟨#[99,111,108,117,109,110]⟩)],[S (⟨#[108,97]⟩)],[S (⟨#[109,111,100,101]⟩)]],S s] (by simp [ae,ai,AV.pure])) (ac (pvA [.sl 1 [[S (⟨#[105,110,100,101,120]⟩)],[S (⟨#[99,111,108,117,109,110]⟩)],[S (⟨#[108,97]⟩)],[S (⟨#[109,111,100,101]⟩)]],S s] (by simp [ae,ai,AV.pure])) (cA OF trivial a0)))))))))))
 (bE (q7.trans (aY (cx h8)))))) (fun h8=>have q8:=q7.trans (aE (au h8) rfl);
 (aP (fun (h9:(cP (Array.toList (ByteArray.data s)) [108,97])=true)=>
 (an (aN 3 (ac h9 (ac (fM (some [S (⟨#[108,97]⟩)])) (a1 (ac (fM (2:Int)) (ac (au h8) (ac (fM (some [S (⟨#[99,111,108,117,109,110]⟩)])) (a1 (ac (fM (1:Int)) (ac (au h7) (ac (fM (some [S (⟨#[105,110,100,101,120]⟩)])) (a1 (ac (pvA [.sl 1 [[S (⟨#[105,110,100,101,120]⟩)],[S (⟨#[99,111,108,117,109,110]⟩)],[S (⟨#[108,97]⟩)],[S (⟨#[109,111,100,101]⟩)]],S s] (by simp [ae,ai,AV.pure])) (ac (pvA [.sl 1 [[S (⟨#[105,110,100,101,120]⟩)],[S (⟨#[99,111,108,117,109,110]⟩)],[S (⟨#[108,97]⟩)],[S (⟨#[109,111,100,101]⟩)]],S s] (by simp [ae,ai,AV.pure])) (cA OF trivial a0)))))))))))))))
 (bE (q8.trans (aY (cx h9)))))) (fun h9=>have q9:=q8.trans (aE (au h9) rfl);
 (aP (fun (h10:(cP (Array.toList (ByteArray.data s)) [109,111,100,101])=true)=>
 (an (aN 3 (ac h10 (ac (fM (some [S (⟨#[109,111,100,101]⟩)])) (a1 (ac (fM (3:Int)) (ac (au h9) (ac (fM (some [S (⟨#[108,97]⟩)])) (a1 (ac (fM (2:Int)) (ac (au h8) (ac (fM (some [S (⟨#[99,111,108,117,109,110]⟩)])) (a1 (ac (fM (1:Int)) (ac (au h7) (ac (fM (some [S (⟨#[105,110,100,101,120]⟩)])) (a1 (ac (pvA [.sl 1 [[S (⟨#[105,110,100,101,120]⟩)],[S (⟨#[99,111,108,117,109,110]⟩)],[S (⟨#[108,97]⟩)],[S (⟨#[109,111,100,101]⟩)]],S s] (by simp [ae,ai,AV.pure])) (ac (pvA [.sl 1 [[S (⟨#[105,110,100,101,120]⟩)],[S (⟨#[99,111,108,117,109,110]⟩)],[S (⟨#[108,97]⟩)],[S (⟨#[109,111,100,101]⟩)]],S s] (by simp [ae,ai,AV.pure])) (cA OF trivial a0)))))))))))))))))))
 (bE (q9.trans (cx h10))))) (fun h10=>
 (an (aN 4 (ac (fM (4:Int)) (ac (au h10) (ac (fM (some [S (⟨#[109,111,100,101]⟩)])) (a1 (ac (fM (3:Int)) (ac (au h9) (ac (fM (some [S (⟨#[108,97]⟩)])) (a1 (ac (fM (2:Int)) (ac (au h8) (ac (fM (some [S (⟨#[99,111,108,117,109,110]⟩)])) (a1 (ac (fM (1:Int)) (ac (au h7) (ac (fM (some [S (⟨#[105,110,100,101,120]⟩)])) (a1 (ac (pvA [.sl 1 [[S (⟨#[105,110,100,101,120]⟩)],[S (⟨#[99,111,108,117,109,110]⟩)],[S (⟨#[108,97]⟩)],[S (⟨#[109,111,100,101]⟩)]],S s] (by simp [ae,ai,AV.pure])) (ac (pvA [.sl 1 [[S (⟨#[105,110,100,101,120]⟩)],[S (⟨#[99,111,108,117,109,110]⟩)],[S (⟨#[108,97]⟩)],[S (⟨#[109,111,100,101]⟩)]],S s] (by simp [ae,ai,AV.pure])) (cA OF trivial a0))))))))))))))))))))
 (bE (q9.trans (au h10))))))))))))))))))))))))))))))))
 (by kernel_rfl))
def i125 (s:ByteArray):b9:=⟨125,[S s],B (IU s),s.size<=9223372036854775807⟩
theorem g125 (s:ByteArray):(i125 s).cd pg:=fun hp=>⟨QT s hp,by simp [i125,ae,AV.pure],by simp [i125,AV.pure]⟩
def et (g:G):Bool:=(!((length (map gC g.kids):Int) !=0)&&(bif g.op==9 then ((cP (Array.toList (ByteArray.data g.name)) [])&&((decide (g.n<1000000000000000000))&&decide (g.n>(-1000000000000000000)))) else (bif g.op==10 then ((cP (Array.toList (ByteArray.data g.name)) [])&&g.n==0) else (bif g.op==11 then ((cP (Array.toList (ByteArray.data g.name)) [])&&g.n==0) else (bif g.op==12 then ((cP (Array.toList (ByteArray.data g.name)) [])&&g.n==0) else (bif g.op==13 then ((cP (Array.toList (ByteArray.data g.name)) [])&&g.n==0) else ((g.op==14)&&((g.n==0)&&IS g.name))))))))
abbrev zCS:List Gi:=[.k,bT,bT,bT,.k,bT,bT,bT,.k,bT]
abbrev zf:List Gi:=(.k::uFF 6 [bT])
abbrev zF:GT:=(.a (.a (.r zCS .nil) (.r [.k,bT,bT,bT,.k,bF,bF,bF,bT] .nil)) (.r zf .nil))
abbrev zAO:List Gi:=[.k,bF,bF,bF,bT]
abbrev zAA:GT:=(.a (.r [.k,bT,bT,bT,.int 0,bT] .nil) (.r zAO .nil))
abbrev zAB:List Gi:=[.k,bT,bT,bT,.k,bT]
abbrev zAr:GT:=(.a (.r zAB .nil) (.r zAO .nil))
abbrev zBI (g:G):=(decide (g.n>(-1000000000000000000)))
abbrev zBO (g:G):=(decide (g.n<1000000000000000000))
theorem OG (g:G) (ls:ByteArray.size g.name<=9223372036854775807):ba pg 116 [.ag (gCC g)] [] [] (B (et g)) []:=
 bB (fn:=Tryz.f116) (callf:=(bC [i126 g.name] base)) (pu:=aO) (lf:=3000) (l:=[]) (t:=(.r [bT] (.r [.k,bT] (.br zD (.r [bT] (.r [.k,bT] (.br zF (.r [.k,bT] (.br zAr (.r [.k,bT] (.br zAr (.r [.k,bT] (.br zAr (.r [.k,bT] (.br zAr (.r [.k,bT] (.br zAA zD))))))))))))))))) (bf (.cons (g126 g.name) rfl cv.nil) aw) mixed Tryz.func116 (by kernel_rfl) (show Tryz.f116.body=some (aH 116) by kernel_rfl) (Nat.le_of_ble_eq_true rfl) (az _) rfl (aZ
 (an a0
 (an (a1 a0)
 (brP (fun (h0:((length (map gC g.kids):Int) !=0)=true)=>
 (an a0
 (bE (show et g=false from (aY (cx h0)))))) (fun h0=>have q0:=(aE (au h0) rfl:et g=_);
 (an a0
 (an (a1 a0)
 (brP (fun (h1:(g.op==9)=true)=>have q1:=q0.trans (cdT h1 rfl);
 (aP (fun (h2:(cP (Array.toList (ByteArray.data g.name)) [])=true)=>
 (aP (fun (h3:(zBO g)=true)=>
 (an (aN 3 (ac h3 (aN 3 (ac h2 (a1 a0)))))
 (bE (show et g=(zBI g) from (aE (au h0) (cdT h1 (aE h2 (aE h3 rfl)))))))) (fun h3=>
 (an (aN 2 (ac (au h3) (aN 3 (ac h2 (a1 a0)))))
 (bE (q1.trans (aE h2 (aY h3)))))))) (fun h2=>
 (an (aN 5 (ac (au h2) (a1 a0)))
 (bE (q1.trans (aY h2))))))) (fun h1=>have q2:=q0.trans (cdF h1 rfl);
 (an (a1 a0)
 (brP (fun (h2:(g.op==10)=true)=>
 (aP (fun (h3:(cP (Array.toList (ByteArray.data g.name)) [])=true)=>
 (an (aN 3 (ac h3 (a1 a0)))
 (bE (show et g=(g.n==0) from (aE (au h0) (cdF h1 (cdT h2 (aE h3 rfl)))))))) (fun h3=>
 (an (aN 2 (ac (au h3) (a1 a0)))
 (bE (q2.trans (cdT h2 (aY h3)))))))) (fun h2=>have q3:=q2.trans (cdF h2 rfl);
 (an (a1 a0)
 (brP (fun (h3:(g.op==11)=true)=>
 (aP (fun (h4:(cP (Array.toList (ByteArray.data g.name)) [])=true)=>
 (an (aN 3 (ac h4 (a1 a0)))
 (bE (show et g=(g.n==0) from (aE (au h0) (cdF h1 (cdF h2 (cdT h3 (aE h4 rfl))))))))) (fun h4=>
 (an (aN 2 (ac (au h4) (a1 a0)))
 (bE (q3.trans (cdT h3 (aY h4)))))))) (fun h3=>have q4:=q3.trans (cdF h3 rfl);
 (an (a1 a0)
 (brP (fun (h4:(g.op==12)=true)=>
 (aP (fun (h5:(cP (Array.toList (ByteArray.data g.name)) [])=true)=>
 (an (aN 3 (ac h5 (a1 a0)))
 (bE (show et g=(g.n==0) from (aE (au h0) (cdF h1 (cdF h2 (cdF h3 (cdT h4 (aE h5 rfl)))))))))) (fun h5=>
 (an (aN 2 (ac (au h5) (a1 a0)))
 (bE (q4.trans (cdT h4 (aY h5)))))))) (fun h4=>have q5:=q4.trans (cdF h4 rfl);
 (an (a1 a0)
 (brP (fun (h5:(g.op==13)=true)=>
 (aP (fun (h6:(cP (Array.toList (ByteArray.data g.name)) [])=true)=>
 (an (aN 3 (ac h6 (a1 a0)))
 (bE (show et g=(g.n==0) from (aE (au h0) (cdF h1 (cdF h2 (cdF h3 (cdF h4 (cdT h5 (aE h6 rfl))))))))))) (fun h6=>
 (an (aN 2 (ac (au h6) (a1 a0)))
 (bE (q5.trans (cdT h5 (aY h6)))))))) (fun h5=>have q6:=q5.trans (cdF h5 rfl);
 (an (a1 a0)
 (brP (fun (h6:(g.op==14)=true)=>
 (aP (fun (h7:(g.n==0)=true)=>
 (an (cA (g126 g.name) ls (aN 2 (ac h7 (a1 a0))))
 (bE (show et g=(IS g.name) from (aE (au h0) (cdF h1 (cdF h2 (cdF h3 (cdF h4 (cdF h5 (aE h6 (aE h7 rfl)))))))))))) (fun h7=>
 (an (aN 2 (ac (au h7) (a1 a0)))
 (bE (q6.trans (aE h6 (aY h7)))))))) (fun h6=>
 (an a0
 (bE (q6.trans (aY h6)))))))))))))))))))))))))))
 (by kernel_rfl))
def IV (g:G):Bool:=(!(decide ((length (map gC g.kids):Int)>0))&&(!(decide (g.op<9))&&(!(decide (g.op>14))&&(bif g.op==9 then ((cP (Array.toList (ByteArray.data g.name)) [])&&((decide (g.n<1000000000000000000))&&decide (g.n>(-1000000000000000000)))) else (bif g.op==14 then ((g.n==0)&&IU g.name) else ((cP (Array.toList (ByteArray.data g.name)) [])&&g.n==0))))))
theorem OH (g:G) (ls:ByteArray.size g.name<=9223372036854775807):ba pg 113 [.ag (gCC g)] [] [] (B (IV g)) []:=
 bB (fn:=Tryz.f113) (callf:=(bC [i125 g.name] base)) (pu:=aO) (lf:=3000) (l:=[]) (t:=(.r [bT] (.a (.r zf zD) (.a (.r [.k,bT,bT,bT,.k,bF,bF,bF,bT] zD) (.r zCS (.br zD (.r [bT] (.r [.k,bT] (.br zF (.r [.k,bT] (.br zAA zAr))))))))))) (bf (.cons (g125 g.name) rfl cv.nil) aw) mixed Tryz.func113 (by kernel_rfl) (show Tryz.f113.body=some (aH 113) by kernel_rfl) (Nat.le_of_ble_eq_true rfl) (az _) rfl (aZ
 (an a0
 (aP (fun (h0:(decide ((length (map gC g.kids):Int)>0))=true)=>
 (an (aN 5 (ac (n2 h0) (a1 a0)))
 (an a0
 (bE (show IV g=false from (aY (cx h0))))))) (fun h0=>have q0:=(aE (au h0) rfl:IV g=_);
 (aP (fun (h1:(decide (g.op<9))=true)=>
 (an (aN 2 (ac (n2 h1) (aN 3 (ac (au h0) (a1 a0)))))
 (an a0
 (bE (q0.trans (aY (cx h1))))))) (fun h1=>have q1:=q0.trans (aE (au h1) rfl);
 (an (aN 3 (ac (au h1) (aN 3 (ac (au h0) (a1 a0)))))
 (brP (fun (h2:(decide (g.op>14))=true)=>
 (an a0
 (bE (q1.trans (aY (cx h2)))))) (fun h2=>have q2:=q1.trans (aE (au h2) rfl);
 (an a0
 (an (a1 a0)
 (brP (fun (h3:(g.op==9)=true)=>have q3:=q2.trans (cdT h3 rfl);
 (aP (fun (h4:(cP (Array.toList (ByteArray.data g.name)) [])=true)=>
 (aP (fun (h5:(zBO g)=true)=>
 (an (aN 3 (ac h5 (aN 3 (ac h4 (a1 a0)))))
 (bE (show IV g=(zBI g) from (aE (au h0) (aE (au h1) (aE (au h2) (cdT h3 (aE h4 (aE h5 rfl)))))))))) (fun h5=>
 (an (aN 2 (ac (au h5) (aN 3 (ac h4 (a1 a0)))))
 (bE (q3.trans (aE h4 (aY h5)))))))) (fun h4=>
 (an (aN 5 (ac (au h4) (a1 a0)))
 (bE (q3.trans (aY h4))))))) (fun h3=>have q4:=q2.trans (cdF h3 rfl);
 (an (a1 a0)
 (brP (fun (h4:(g.op==14)=true)=>
 (aP (fun (h5:(g.n==0)=true)=>
 (an (cA (g125 g.name) ls (aN 2 (ac h5 (a1 a0))))
 (bE (show IV g=(IU g.name) from (aE (au h0) (aE (au h1) (aE (au h2) (cdF h3 (cdT h4 (aE h5 rfl)))))))))) (fun h5=>
 (an (aN 2 (ac (au h5) (a1 a0)))
 (bE (q4.trans (cdT h4 (aY h5)))))))) (fun h4=>
 (aP (fun (h5:(cP (Array.toList (ByteArray.data g.name)) [])=true)=>
 (an (aN 3 (ac h5 (a1 a0)))
 (bE (show IV g=(g.n==0) from (aE (au h0) (aE (au h1) (aE (au h2) (cdF h3 (cdF h4 (aE h5 rfl)))))))))) (fun h5=>
 (an (aN 2 (ac (au h5) (a1 a0)))
 (bE (q4.trans (cdF h4 (aY h5))))))))))))))))))))))
 (by kernel_rfl))
mutual
def de:G->Int
 | .mk _ _ _ l=>iw l 1
def iw:List G->Int->Int
 |[],a=>a
 |g::l,a=>iw l (min (a+de g) 2147483647)
end
mutual
def dZ (o:Int):G->Bool
 | .mk o' _ _ l=>(o' ==o)||kL o l
def kL (o:Int):List G->Bool
 |[]=>false
 |g::l=>dZ o g||kL o l
end
theorem Bg (o:Int) (l:List G):kL o l=l.any (dZ o):=by
 induction l with
 |nil=>rfl
 |cons g l ih=>simp [kL,ih]
theorem g_cells: ∀g:G,gC g=[I8 g.op,I g.n,S g.name,.sl 4 (g.kids.map gC)]
 | .mk _ _ _ _=>by simp only [gC,Gj,G.op,G.n,G.name,G.kids]
theorem ay {α:Type} [Inhabited α] {l:List α} {i:Nat} (h:i<l.length):ah l i∈l:=fN h
mutual
theorem G.IW {C:G->Prop} (h: ∀o n s l,(∀u∈l,C u)->C (.mk o n s l)): ∀g,C g
 | .mk o n s l=>h o n s l (G.ind2 h l)
theorem G.ind2 {C:G->Prop} (h: ∀o n s l,(∀u∈l,C u)->C (.mk o n s l)): ∀(l:List G),∀u∈l,C u
 |[]=>fun u hu=>by simp at hu
 |g::l=>fun u hu=>by
  rcases List.mem_cons.1 hu with e|hu
  ·rw [e];exact G.IW h g
  ·exact G.ind2 h l u hu
end
mutual
def eS:G->Prop
 | .mk o _ s l=>(-128<=o/\o<=127)/\s.size<=9223372036854775807/\l.length<=9223372036854775807/\Bh l
def Bh:List G->Prop
 |[]=>True
 |g::l=>eS g/\Bh l
end
theorem EE: ∀{l:List G},Bh l-> ∀u∈l,eS u
 |[],_,u,hu=>by simp at hu
 |g::l,h,u,hu=>by
  simp only [Bh] at h
  rcases List.mem_cons.1 hu with rfl|hu
  ·exact h.1
  ·exact EE h.2 u hu
theorem eS.kids {g:G} (h:eS g): ∀u∈g.kids,eS u:=by
 obtain ⟨o,n,s,l⟩:=g
 simp only [eS] at h
 exact EE h.2.2.2
theorem eS.name {g:G} (h:eS g):g.name.size<=9223372036854775807:=by
 obtain ⟨o,n,s,l⟩:=g
 simp only [eS] at h
 exact h.2.1
theorem eS.len {g:G} (h:eS g):g.kids.length<=9223372036854775807:=by
 obtain ⟨o,n,s,l⟩:=g
 simp only [eS] at h
 exact h.2.2.1
theorem eS.op {g:G} (h:eS g): -128<=g.op/\g.op<=127:=by
 obtain ⟨o,n,s,l⟩:=g
 simp only [eS] at h
 exact h.1
theorem jx {α:Type} [Inhabited α] (p:α->Bool) (l:List α):dh l.length (fun i=>p (ah l i))=l.any p:=by
 rw [Bool.eq_iff_iff,ey,List.any_eq_true]
 constructor
 ·rintro ⟨i,hi,hp⟩
  exact ⟨_,fN hi,hp⟩
 ·rintro ⟨x,hx,hp⟩
  obtain ⟨i,hi,rfl⟩:=List.mem_iff_getElem.1 hx
  exact ⟨i,hi,by simpa [ah,hi] using hp⟩
theorem EF {α:Type} [Inhabited α] {l:List α} {i:Nat} (h:i<l.length):l.take (i+1)=l.take i++ [ah l i]:=by
 rw [List.take_add_one,eZ h];rfl
theorem VL (s:ByteArray):IU s=IS s:=by
 have h2:hC s=kK s:=by
  funext i
  simp only [hC,kK,IQ]
  have e1:xK (cD s i)=uJ (cD s i):=rfl
  have e2:KV (cD s i)=IP (cD s i):=rfl
  rw [e1,e2]
  cases uJ (cD s i)<;>cases IP (cD s i)<;>simp [bne]
 have h3:decide (IT s<(s.size:Int))=jP s:=by
  unfold IT
  have e:nN s=jP s:=by unfold nN jP;rw [h2]
  rw [e]
  cases hh:jP s with
  |false=>simp
  |true=>
   have:cc s.size (hC s)<s.size:=(ir (show dh s.size (hC s)=true by rw [h2];exact hh)).1
   simp only [cond_true,decide_eq_true_eq]
   omega
 unfold IU IS
 rw [h3,show xK (cD s 0)=uJ (cD s 0) from rfl]
theorem OI (g:G):IV g=et g:=by
 unfold IV et
 rw [VL]
 simp only [List.length_map]
 by_cases hk:g.kids.length=0
 ·have a1:decide (((g.kids.length:Nat):Int)>0)=false:=by simp [hk]
  have a2:(((g.kids.length:Nat):Int) !=0)=false:=by simp [hk]
  rw [a1,a2]
  simp only [Bool.not_false,Bool.true_and]
  by_cases h9:g.op=9
  ·simp [h9]
  by_cases h10:g.op=10
  ·simp [h10]
  by_cases h11:g.op=11
  ·simp [h11]
  by_cases h12:g.op=12
  ·simp [h12]
  by_cases h13:g.op=13
  ·simp [h13]
  by_cases h14:g.op=14
  ·simp [h14]
  have b1:(g.op==9)=false:=by simp [h9]
  have b2:(g.op==10)=false:=by simp [h10]
  have b3:(g.op==11)=false:=by simp [h11]
  have b4:(g.op==12)=false:=by simp [h12]
  have b5:(g.op==13)=false:=by simp [h13]
  have b6:(g.op==14)=false:=by simp [h14]
  simp only [b1,b2,b3,b4,b5,b6,cond_false,Bool.false_and]
  by_cases hl:g.op<9
  ·simp [hl]
  ·have:g.op>14:=by omega
   simp [this]
 ·have a1:decide (((g.kids.length:Nat):Int)>0)=true:=by simp;omega
  have a2:(((g.kids.length:Nat):Int) !=0)=true:=by simp [hk]
  rw [a1,a2]
  rfl
theorem DF (g:G) (hf:eS g):ba pg 113 [.ag (gCC g)] [] [] (B (et g)) []:=by
 rw [<-OI]
 exact OH g hf.name
theorem DG (g:G) (hf:eS g):ba pg 116 [.ag (gCC g)] [] [] (B (et g)) []:=OG g hf.name
def i113 (g:G):b9:=⟨113,[.ag (gCC g)],B (et g),eS g⟩
theorem Bi (g:G):(i113 g).cd pg:=fun hp=>⟨DF g hp,by simp [i113,ae,AV.pure],by simp [i113,AV.pure]⟩
def i116 (g:G):b9:=⟨116,[.ag (gCC g)],B (et g),eS g⟩
theorem Bj (g:G):(i116 g).cd pg:=fun hp=>⟨DG g hp,by simp [i116,ae,AV.pure],by simp [i116,AV.pure]⟩
mutual
noncomputable def cS:G->Bool
 | .mk o n s l=>cP s.data.toList []&&((o==8||n==0)&&(bif o==0||o==1 then l.length==0 else bif o==8 then (l.length==0&&(decide (n<1000000000000000000)&&decide (n> -1000000000000000000))) else
   bif o==2 then (l.length==1&&iU l) else bif o==3||o==4 then (decide (l.length>=2)&&iU l) else bif o==5||(o==6||o==7) then (l.length==2&&(et (ah l 0)&&et (ah l 1))) else false))
noncomputable def iU:List G->Bool
 |[]=>true
 |g::l=>cS g&&iU l
end
theorem IX (l:List G):iU l=l.all cS:=by
 induction l with
 |nil=>rfl
 |cons g l ih=>simp [iU,ih]
def i99 (g:G):b9:=⟨99,[.ag (gCC g)],I (de g),True⟩
theorem gd99 {g:G} (h:ba pg 99 [.ag (gCC g)] [] [] (I (de g)) []):(i99 g).cd pg:=fun _=>⟨h,by simp [i99,ae,AV.pure],rfl⟩
def i104 (g:G):b9:=⟨104,[.ag (gCC g)],I (de g),True⟩
theorem Xe {g:G} (h:ba pg 104 [.ag (gCC g)] [] [] (I (de g)) []):(i104 g).cd pg:=fun _=>⟨h,by simp [i104,ae,AV.pure],rfl⟩
def i105 (g:G):b9:=⟨105,[.ag (gCC g)],B (cS g),True⟩
theorem Xf {g:G} (h:ba pg 105 [.ag (gCC g)] [] [] (B (cS g)) []):(i105 g).cd pg:=fun _=>⟨h,by simp [i105,ae,AV.pure],rfl⟩
def i100 (g:G):b9:=⟨100,[.ag (gCC g)],B (cS g),True⟩
theorem Xg {g:G} (h:ba pg 100 [.ag (gCC g)] [] [] (B (cS g)) []):(i100 g).cd pg:=fun _=>⟨h,by simp [i100,ae,AV.pure],rfl⟩
def i94 (g:G) (o:Int):b9:=⟨94,[.ag (gCC g),I8 o],B (dZ o g),True⟩
theorem gd94 {g:G} {o:Int} (h:ba pg 94 [.ag (gCC g),I8 o] [] [] (B (dZ o g)) []):(i94 g o).cd pg:=fun _=>⟨h,by simp [i94,ae,AV.pure],rfl⟩
def IY:Code:=bV 0 (aH 99)
def Ym (g:G) (i0:Nat) (y0:Int):Int:=(min (IntKind.wrap IntKind.i64 (y0+(de (ah g.kids i0)))) 2147483647)
def jf (g:G) (kk:Nat):Int:=Nat.rec (motive:=fun _=>Int) 1 (fun j a=>Ym g j a) kk
def Bk (g:G) (i0:Nat):Am.Loc:=[(3,I (jf g i0)),(7,.sl 4 (map gC g.kids)),(8,I (length (map gC g.kids):Int)),(9,I (i0:Int))]
def Bl (g:G) (_:Nat):List Ob:=[.box 46 (gCC g)]
def IZ (_:G) (_:Nat):Bool:=false
def VM (_:G):Bool:=false
def Gs (_:G) (_:Nat):Am.Loc:=[]
def Gt (_:G) (_:Nat):List Ob:=[]
abbrev zAt (g:G):=(length g.kids)
def qJ (g:G):Am.Loc:=[(3,I (jf g (zAt g)))]
def qK (g:G):List Ob:=[.box 46 (gCC g)]
def Gu (g:G):KB:=⟨Bk g 0,Bl g 0,VM g,.ret,Gs g (cc (zAt g) (IZ g)),Gt g (cc (zAt g) (IZ g)),.normal,qJ g,qK g,True⟩
abbrev zAU:=(range 1)
def I0 (g:G) (i0:Nat):List bj:=[nxW (IZ g i0) (Bk g (i0+1)) (Bl g (i0+1)) [(3,I (min (IntKind.wrap IntKind.i64 ((jf g i0)+(de (ah g.kids i0)))) 2147483647)),(7,.sl 4 (map gC g.kids)),(8,I (length (map gC g.kids):Int)),(9,I ↑(i0+1))] zAU [.box 46 (gCC g)]]
def Xh (g:G) (i0:Nat):GT:=(.r [.k,bT] (.yes (.r [.row (gCC (ah g.kids i0)),bT] (.r [.int 0,.int (IntKind.wrap IntKind.i64 ((jf g i0)+(de (ah g.kids i0)))),.val (.int .i64 (min (IntKind.wrap IntKind.i64 ((jf g i0)+(de (ah g.kids i0)))) 2147483647)),bT] (.r [.int ↑(i0+1),bT] (.pick 0))))))
abbrev zBa (g:G) (i0:Nat):=(decide ((i0:Int)<(length (map gC g.kids):Int)))
theorem Yn (g:G) (i0:Nat) (ls:length g.kids<=9223372036854775807) (hK: ∀u∈G.kids g,ba pg 99 [.ag (gCC u)] [] [] (I (de u)) []) (hx0:i0<(length g.kids)):vcC pg 20 (bC [i99 (ah g.kids i0)] base) aO 3000 (kbL []) IY (bu (Bk g i0)) (bA (Bl g i0)) 1 (bQ (I0 g i0)) (Xh g i0):=
 have l1:=aW gC (g.kids);have hb:(zBa g i0)=true:=decide_eq_true (by omega);
 aZ (an (a1 a0)
 (an hb (an (ac (je (l:=g.kids) (i:=i0) (by omega)) a0)
 (an (ac (minA (P:=Tryz.prog) (ts:=⟨[3,3]⟩) (ty:=3) (fl:=⟨[false,true]⟩) (IntKind.wrap IntKind.i64 ((jf g i0)+(de (ah g.kids i0)))) 2147483647) (ac (fM (IntKind.wrap IntKind.i64 ((jf g i0)+(de (ah g.kids i0))))) (cA (gd99 (hK _ (ay hx0))) trivial a0)))
 (an (ac (dwr (z:= ↑(i0+1)) (by omega) (by omega)) a0)
 (lf (wy (I0 g i0) 0) 2 ⟨(show IZ g i0=false from rfl),congrArg (fun y0:Int=>([(3,I y0),(7,.sl 4 (map gC g.kids)),(8,I (length (map gC g.kids):Int)),(9,I ↑(i0+1))]:Am.Loc)) (show jf g (i0+1)=(min (IntKind.wrap IntKind.i64 ((jf g i0)+(de (ah g.kids i0)))) 2147483647) from rfl).symm,rfl⟩))))))
 (by kernel_rfl)
abbrev zAl (g:G):=(decide ((((length g.kids):Nat):Int)<(length (map gC g.kids):Int)))
theorem Yo (g:G) (_:length g.kids<=9223372036854775807) (_: ∀u∈G.kids g,ba pg 99 [.ag (gCC u)] [] [] (I (de u)) []):vcC pg 20 base aO 3000 (kbL []) IY (bu (Bk g (zAt g))) (bA (Bl g (zAt g))) 1 (bQ [⟨True,(.exit 0),qJ g,range 1,qK g⟩]) zE:=
 have l1:=aW gC (g.kids);have hb:(zAl g)=false:=decide_eq_false (by omega);
 aZ (an (a1 a0)
 (an hb (lf (wy [⟨True,(.exit 0),qJ g,range 1,qK g⟩] 0) 1 trivial)))
 (by kernel_rfl)
theorem QU (g:G) (i0:Nat):(I0 g i0).all zr=true:=by refine (aF (aQ rfl rfl rfl ?_ ?_) bD)<;>simp (maxDischargeDepth:=9) [nxW,Bk,plS,AV.pure,Bl,plO]
theorem QV (g:G):bj.b8 0 ⟨True,(.exit 0),qJ g,range 1,qK g⟩=true:=by refine (aQ rfl rfl rfl ?_ ?_)<;>simp (maxDischargeDepth:=9) [qJ,plS,AV.pure,qK,plO]
theorem QW (g:G) (ls:length g.kids<=9223372036854775807) (hK: ∀u∈G.kids g,ba pg 99 [.ag (gCC u)] [] [] (I (de u)) []):dg pg 20 0 0 (.loop IY) (Gu g):=
 mj (fun _=>e9 (id:=0) (m:=length g.kids) (t:=IZ g) (xr:= .ret) (xn:=(.exit 0)) (Lr:=Gs g) (Lx:=qJ g) (obr:=Gt g) (obx:=qK g) (V:=fun i0=>vcC pg 20 (bC [i99 (ah g.kids i0)] base) aO 3000 (kbL []) IY) (Bk g) (Bl g) 1 (I0 g) (Xh g) _ _ (fun i0 hx0=>aS (bf (.cons (gd99 (hK _ (ay hx0))) rfl cv.nil) aw) mixed (az _)) (aS aw mixed (az _)) (fun e=>by cases e) (fun e=>by cases e) (fun _=>rfl) (fun i0 hx0=>Yn g i0 ls hK hx0) (fun i0 _=>QU g i0) (fun i0 _=>show∀ww∈I0 g i0,cy _ _ _ _ _ _ ww from (aG cg bG)) (Yo g ls hK) (QV g)) (fun _=>rfl) rfl (fun h=>h)
def r99 (g:G):Int:=(jf g (length g.kids))
theorem xL:dB [0] (aH 99)=[(0,.loop IY)]:=by kernel_rfl
abbrev zBB:GT:=(.r [bT] (.r [bT] (.r [bT] (.no zD))))
theorem Yp (g:G) (ls:length g.kids<=9223372036854775807) (hK: ∀u∈G.kids g,ba pg 99 [.ag (gCC u)] [] [] (I (de u)) []):ba pg 99 [.ag (gCC g)] [] [] (I (r99 g)) []:=
 bB (fn:=Tryz.f99) (callf:=base) (pu:=aO) (lf:=3000) (l:=[(0,Gu g)]) (t:=zBB) aw mixed Tryz.func99 (by kernel_rfl) (show Tryz.f99.body=some (aH 99) by kernel_rfl) (Nat.le_of_ble_eq_true rfl) (bO (l:=[(0,Gu g)]) xL (aV (QW g ls hK) rfl bn) rfl) rfl (aZ
 (an a0
 (an a0
 (an a0
 (an (kbT (Gu g) trivial) (an (rfl:false=false) (an a0
 (iE (show r99 g=(jf g (length g.kids)) from rfl))))))))
 (by kernel_rfl))
def Bm:Code:=bV 0 (aH 104)
def VN (g:G) (i0:Nat) (y0:Int):Int:=(min (IntKind.wrap IntKind.i64 (y0+(de (ah g.kids i0)))) 2147483647)
def gw (g:G) (kk:Nat):Int:=Nat.rec (motive:=fun _=>Int) 1 (fun j a=>VN g j a) kk
def qL (g:G) (i0:Nat):Am.Loc:=[(1,.pt 0 0),(3,I (gw g i0)),(4,I (i0:Int))]
def qM (g:G) (_:Nat):List Ob:=[.box 46 (gCC g)]
def Bn (_:G) (_:Nat):Bool:=false
def QX (_:G):Bool:=false
def yr (_:G) (_:Nat):Am.Loc:=[]
def yt (_:G) (_:Nat):List Ob:=[]
def mn (g:G):Am.Loc:=[(3,I (gw g (zAt g)))]
def mq (g:G):List Ob:=[.box 46 (gCC g)]
def yu (g:G):KB:=⟨qL g 0,qM g 0,QX g,.ret,yr g (cc (zAt g) (Bn g)),yt g (cc (zAt g) (Bn g)),.normal,mn g,mq g,True⟩
def Bo (g:G) (i0:Nat):List bj:=[nxW (Bn g i0) (qL g (i0+1)) (qM g (i0+1)) [(1,.pt 0 0),(3,I (min (IntKind.wrap IntKind.i64 ((gw g i0)+(de (ah g.kids i0)))) 2147483647)),(4,I ↑(i0+1))] zAU [.box 46 (gCC g)]]
def QY (g:G) (i0:Nat):GT:=(.r [.k,bT] (.yes (.r [.row (gCC (ah g.kids i0)),.int 0,.int (IntKind.wrap IntKind.i64 ((gw g i0)+(de (ah g.kids i0)))),.val (.int .i64 (min (IntKind.wrap IntKind.i64 ((gw g i0)+(de (ah g.kids i0)))) 2147483647)),bT] (.r [.int ↑(i0+1),bT] (.pick 0)))))
theorem VO (g:G) (i0:Nat) (ls:length g.kids<=9223372036854775807) (hK: ∀u∈G.kids g,ba pg 104 [.ag (gCC u)] [] [] (I (de u)) []) (hx0:i0<(length g.kids)):vcC pg 22 (bC [i104 (ah g.kids i0)] base) aO 3000 (kbL []) Bm (bu (qL g i0)) (bA (qM g i0)) 1 (bQ (Bo g i0)) (QY g i0):=
 have l1:=aW gC (g.kids);have hb:(zBa g i0)=true:=decide_eq_true (by omega);
 aZ (an (a1 a0)
 (an hb (an (ac (minA (P:=Tryz.prog) (ts:=⟨[3,3]⟩) (ty:=3) (fl:=⟨[false,true]⟩) (IntKind.wrap IntKind.i64 ((gw g i0)+(de (ah g.kids i0)))) 2147483647) (ac (fM (IntKind.wrap IntKind.i64 ((gw g i0)+(de (ah g.kids i0))))) (cA (Xe (hK _ (ay hx0))) trivial (ac (je (l:=g.kids) (i:=i0) (by omega)) a0))))
 (an (ac (dwr (z:= ↑(i0+1)) (by omega) (by omega)) a0)
 (lf (wy (Bo g i0) 0) 1 ⟨(show Bn g i0=false from rfl),congrArg (fun y0:Int=>([(1,.pt 0 0),(3,I y0),(4,I ↑(i0+1))]:Am.Loc)) (show gw g (i0+1)=(min (IntKind.wrap IntKind.i64 ((gw g i0)+(de (ah g.kids i0)))) 2147483647) from rfl).symm,rfl⟩)))))
 (by kernel_rfl)
theorem VP (g:G) (_:length g.kids<=9223372036854775807) (_: ∀u∈G.kids g,ba pg 104 [.ag (gCC u)] [] [] (I (de u)) []):vcC pg 22 base aO 3000 (kbL []) Bm (bu (qL g (zAt g))) (bA (qM g (zAt g))) 1 (bQ [⟨True,(.exit 0),mn g,range 1,mq g⟩]) zE:=
 have l1:=aW gC (g.kids);have hb:(zAl g)=false:=decide_eq_false (by omega);
 aZ (an (a1 a0)
 (an hb (lf (wy [⟨True,(.exit 0),mn g,range 1,mq g⟩] 0) 1 trivial)))
 (by kernel_rfl)
theorem OJ (g:G) (i0:Nat):(Bo g i0).all zr=true:=by refine (aF (aQ rfl rfl rfl ?_ ?_) bD)<;>simp (maxDischargeDepth:=9) [nxW,qL,plS,AV.pure,qM,plO]
theorem OK (g:G):bj.b8 0 ⟨True,(.exit 0),mn g,range 1,mq g⟩=true:=by refine (aQ rfl rfl rfl ?_ ?_)<;>simp (maxDischargeDepth:=9) [mn,plS,AV.pure,mq,plO]
theorem OL (g:G) (ls:length g.kids<=9223372036854775807) (hK: ∀u∈G.kids g,ba pg 104 [.ag (gCC u)] [] [] (I (de u)) []):dg pg 22 0 0 (.loop Bm) (yu g):=
 mj (fun _=>e9 (id:=0) (m:=length g.kids) (t:=Bn g) (xr:= .ret) (xn:=(.exit 0)) (Lr:=yr g) (Lx:=mn g) (obr:=yt g) (obx:=mq g) (V:=fun i0=>vcC pg 22 (bC [i104 (ah g.kids i0)] base) aO 3000 (kbL []) Bm) (qL g) (qM g) 1 (Bo g) (QY g) _ _ (fun i0 hx0=>aS (bf (.cons (Xe (hK _ (ay hx0))) rfl cv.nil) aw) mixed (az _)) (aS aw mixed (az _)) (fun e=>by cases e) (fun e=>by cases e) (fun _=>rfl) (fun i0 hx0=>VO g i0 ls hK hx0) (fun i0 _=>OJ g i0) (fun i0 _=>show∀ww∈Bo g i0,cy _ _ _ _ _ _ ww from (aG cg bG)) (VP g ls hK) (OK g)) (fun _=>rfl) rfl (fun h=>h)
def r104 (g:G):Int:=(gw g (length g.kids))
theorem sw:dB [0] (aH 104)=[(0,.loop Bm)]:=by kernel_rfl
theorem VQ (g:G) (ls:length g.kids<=9223372036854775807) (hK: ∀u∈G.kids g,ba pg 104 [.ag (gCC u)] [] [] (I (de u)) []):ba pg 104 [.ag (gCC g)] [] [] (I (r104 g)) []:=
 bB (fn:=Tryz.f104) (callf:=base) (pu:=aO) (lf:=3000) (l:=[(0,yu g)]) (t:=zBB) aw mixed Tryz.func104 (by kernel_rfl) (show Tryz.f104.body=some (aH 104) by kernel_rfl) (Nat.le_of_ble_eq_true rfl) (bO (l:=[(0,yu g)]) sw (aV (OL g ls hK) rfl bn) rfl) rfl (aZ
 (an a0
 (an a0
 (an a0
 (an (kbT (yu g) trivial) (an (rfl:false=false) (an a0
 (iE (show r104 g=(gw g (length g.kids)) from rfl))))))))
 (by kernel_rfl))
def I1:Code:=bV 0 (aH 94)
def wJ (g:G) (o:Int) (i0:Nat):Am.Loc:=[(1,I8 o),(2,.pf (gCC g)),(5,I (i0:Int))]
def EG (_:G) (_:Int) (_:Nat):List Ob:=[]
def wK (g:G) (o:Int) (i0:Nat):Bool:=(dZ o (ah g.kids i0))
def yv (g:G) (o:Int):Bool:=dh (length g.kids) (wK g o)
def Bp (_:G) (_:Int) (_:Nat):Am.Loc:=[(4,B true)]
def KW (_:G) (_:Int) (_:Nat):List Ob:=[]
def qN (_:G) (_:Int):Am.Loc:=[]
def Bq (_:G) (_:Int):List Ob:=[]
def Gv (g:G) (o:Int):KB:=⟨wJ g o 0,EG g o 0,yv g o,.ret,Bp g o (cc (zAt g) (wK g o)),KW g o (cc (zAt g) (wK g o)),.normal,qN g o,Bq g o,True⟩
def EH (g:G) (o:Int) (i0:Nat):List bj:=[htW (wK g o i0) .ret (Bp g o i0) za (KW g o i0),nxW (wK g o i0) (wJ g o (i0+1)) (EG g o (i0+1)) (wJ g o (i0+1)) za (EG g o (i0+1))]
def Xi (g:G) (_:Int) (i0:Nat):GT:=(.r [.k,bT] (.yes (.r [.row (gCC (ah g.kids i0)),.int 0,bT] (.br (.r [bT] (.pick 0)) (.r [.int ↑(i0+1),bT] (.pick 1))))))
theorem Yq (g:G) (o:Int) (i0:Nat) (ls:length g.kids<=9223372036854775807) (hK: ∀u∈G.kids g,ba pg 94 [.ag (gCC u),I8 o] [] [] (B (dZ o u)) []) (hx0:i0<(length g.kids)):vcC pg 24 (bC [i94 (ah g.kids i0) o] base) aO 3000 (kbL []) I1 (bu (wJ g o i0)) (bA (EG g o i0)) 0 (bQ (EH g o i0)) (Xi g o i0):=
 have l1:=aW gC (g.kids);have hb:(zBa g i0)=true:=decide_eq_true (by omega);
 aZ (an (a1 a0)
 (an hb (an (cA (gd94 (hK _ (ay hx0))) trivial (ac (je (l:=g.kids) (i:=i0) (by omega)) a0))
 (brP (fun (h1:(dZ o (ah g.kids i0))=true)=>
 (an a0
 (lf (wy (EH g o i0) 0) 0 (show wK g o i0=true from h1)))) (fun h1=>
 (an (ac (dwr (z:= ↑(i0+1)) (by omega) (by omega)) a0)
 (lf (wy (EH g o i0) 1) 0 ⟨(show wK g o i0=false from h1),rfl,rfl⟩)))))))
 (by kernel_rfl)
theorem Yr (g:G) (o:Int) (_:length g.kids<=9223372036854775807) (_: ∀u∈G.kids g,ba pg 94 [.ag (gCC u),I8 o] [] [] (B (dZ o u)) []):vcC pg 24 base aO 3000 (kbL []) I1 (bu (wJ g o (zAt g))) (bA (EG g o (zAt g))) 0 (bQ [⟨True,(.exit 0),qN g o,range 0,Bq g o⟩]) zE:=
 have l1:=aW gC (g.kids);have hb:(zAl g)=false:=decide_eq_false (by omega);
 aZ (an (a1 a0)
 (an hb (lf (wy [⟨True,(.exit 0),qN g o,range 0,Bq g o⟩] 0) 0 trivial)))
 (by kernel_rfl)
theorem QZ (g:G) (o:Int) (i0:Nat):(EH g o i0).all zr=true:=by refine (aF (aQ rfl rfl rfl ?_ rfl) (aF (aQ rfl rfl rfl ?_ rfl) bD))<;>simp (maxDischargeDepth:=9) [nxW,htW,wJ,Bp,plS,AV.pure]
theorem Q0 (g:G) (o:Int):bj.b8 0 ⟨True,(.exit 0),qN g o,range 0,Bq g o⟩=true:=(aQ rfl rfl rfl rfl rfl)
theorem Q1 (g:G) (o:Int) (ls:length g.kids<=9223372036854775807) (hK: ∀u∈G.kids g,ba pg 94 [.ag (gCC u),I8 o] [] [] (B (dZ o u)) []):dg pg 24 0 0 (.loop I1) (Gv g o):=
 bZ (fun _=>e9 (id:=0) (m:=length g.kids) (t:=wK g o) (xr:= .ret) (xn:=(.exit 0)) (Lr:=Bp g o) (Lx:=qN g o) (obr:=KW g o) (obx:=Bq g o) (V:=fun i0=>vcC pg 24 (bC [i94 (ah g.kids i0) o] base) aO 3000 (kbL []) I1) (wJ g o) (EG g o) 0 (EH g o) (Xi g o) _ _ (fun i0 hx0=>aS (bf (.cons (gd94 (hK _ (ay hx0))) rfl cv.nil) aw) mixed (az _)) (aS aw mixed (az _)) (fun e=>by cases e) (fun e=>by cases e) (fun _=>rfl) (fun i0 hx0=>Yq g o i0 ls hK hx0) (fun i0 _=>QZ g o i0) (fun i0 _=>show∀ww∈EH g o i0,cy _ _ _ _ _ _ ww from (aG da (aG cg bG))) (Yr g o ls hK) (Q0 g o)) (fun h=>h) (fun h=>h)
def r94 (g:G) (o:Int):Bool:=((g.op==o)||(yv g o))
theorem xM:dB [0] (aH 94)=[(0,.loop I1)]:=by kernel_rfl
abbrev zCT:GT:=(.r [bT] (.br .nil zD))
theorem VR (g:G) (o:Int) (ls:length g.kids<=9223372036854775807) (hK: ∀u∈G.kids g,ba pg 94 [.ag (gCC u),I8 o] [] [] (B (dZ o u)) []):ba pg 94 [.ag (gCC g),I8 o] [] [] (B (r94 g o)) []:=
 bB (fn:=Tryz.f94) (callf:=base) (pu:=aO) (lf:=3000) (l:=[(0,Gv g o)]) (t:=(.r [bT] (.r [.k,bT] (.br zD zCT)))) aw mixed Tryz.func94 (by kernel_rfl) (show Tryz.f94.body=some (aH 94) by kernel_rfl) (Nat.le_of_ble_eq_true rfl) (bO (l:=[(0,Gv g o)]) xM (aV (Q1 g o ls hK) rfl bn) rfl) rfl (aZ
 (an a0
 (an (a1 a0)
 (brP (fun (h0:(g.op==o)=true)=>
 (an a0
 (bE (show r94 g o=true from (orT h0))))) (fun h0=>
 (an a0
 (an (kbT (Gv g o) trivial) (brP (fun (h1:(yv g o)=true)=>
 (bE (show r94 g o=true from (orF h0 h1)))) (fun h1=>
 (an a0
 (bE (show r94 g o=false from (orF h0 h1))))))))))))
 (by kernel_rfl))
def Br:Code:=bV 0 (aH 115)
abbrev zCN (l:List G):=(map gC l)
def nO (l:List G) (i0:Nat):Am.Loc:=[(0,.sl 4 (zCN l)),(3,I (i0:Int))]
def uO (_:List G) (_:Nat):List Ob:=[]
def nP (l:List G) (i0:Nat):Bool:=(!(cS (ah l i0)))
def sy (l:List G):Bool:=dh (length l) (nP l)
def sz (_:List G) (_:Nat):Am.Loc:=[(2,B false)]
def Gw (_:List G) (_:Nat):List Ob:=[]
def mr (_:List G):Am.Loc:=[]
def sA (_:List G):List Ob:=[]
abbrev zBu (l:List G):=(length l)
def yw (l:List G):KB:=⟨nO l 0,uO l 0,sy l,.ret,sz l (cc (zBu l) (nP l)),Gw l (cc (zBu l) (nP l)),.normal,mr l,sA l,True⟩
def uP (l:List G) (i0:Nat):List bj:=[htW (nP l i0) .ret (sz l i0) za (Gw l i0),nxW (nP l i0) (nO l (i0+1)) (uO l (i0+1)) (nO l (i0+1)) za (uO l (i0+1))]
def Q2 (l:List G) (i0:Nat):GT:=(.r [.k,bT] (.yes (.r [.row (gCC (ah l i0)),.int 0,bT] (.br (.r [bT] (.pick 0)) (.r [.int ↑(i0+1),bT] (.pick 1))))))
abbrev zBp (i0:Nat) (l:List G):=(decide ((i0:Int)<(length (map gC l):Int)))
theorem VS (l:List G) (i0:Nat) (ls:length l<=9223372036854775807) (hK: ∀u∈l,ba pg 105 [.ag (gCC u)] [] [] (B (cS u)) []) (hx0:i0<(length l)):vcC pg 16 (bC [i105 (ah l i0)] base) aO 3000 (kbL []) Br (bu (nO l i0)) (bA (uO l i0)) 0 (bQ (uP l i0)) (Q2 l i0):=
 have l1:=aW gC (l);have hb:(zBp i0 l)=true:=decide_eq_true (by omega);
 aZ (an (a1 a0)
 (an hb (an (cA (Xf (hK _ (ay hx0))) trivial (ac (je (l:=l) (i:=i0) (by omega)) a0))
 (brP (fun (h1:(!(cS (ah l i0)))=true)=>
 (an a0
 (lf (wy (uP l i0) 0) 0 (show nP l i0=true from h1)))) (fun h1=>
 (an (ac (dwr (z:= ↑(i0+1)) (by omega) (by omega)) a0)
 (lf (wy (uP l i0) 1) 0 ⟨(show nP l i0=false from h1),rfl,rfl⟩)))))))
 (by kernel_rfl)
abbrev zAy (l:List G):=(decide ((((length l):Nat):Int)<(length (map gC l):Int)))
theorem VT (l:List G) (_:length l<=9223372036854775807) (_: ∀u∈l,ba pg 105 [.ag (gCC u)] [] [] (B (cS u)) []):vcC pg 16 base aO 3000 (kbL []) Br (bu (nO l (zBu l))) (bA (uO l (zBu l))) 0 (bQ [⟨True,(.exit 0),mr l,range 0,sA l⟩]) zE:=
 have l1:=aW gC (l);have hb:(zAy l)=false:=decide_eq_false (by omega);
 aZ (an (a1 a0)
 (an hb (lf (wy [⟨True,(.exit 0),mr l,range 0,sA l⟩] 0) 0 trivial)))
 (by kernel_rfl)
theorem OM (l:List G) (i0:Nat):(uP l i0).all zr=true:=by refine (aF (aQ rfl rfl rfl ?_ rfl) (aF (aQ rfl rfl rfl ?_ rfl) bD))<;>simp (maxDischargeDepth:=9) [nxW,htW,nO,sz,plS,AV.pure]
theorem ON (l:List G):bj.b8 0 ⟨True,(.exit 0),mr l,range 0,sA l⟩=true:=(aQ rfl rfl rfl rfl rfl)
theorem OO (l:List G) (ls:length l<=9223372036854775807) (hK: ∀u∈l,ba pg 105 [.ag (gCC u)] [] [] (B (cS u)) []):dg pg 16 0 0 (.loop Br) (yw l):=
 bZ (fun _=>e9 (id:=0) (m:=length l) (t:=nP l) (xr:= .ret) (xn:=(.exit 0)) (Lr:=sz l) (Lx:=mr l) (obr:=Gw l) (obx:=sA l) (V:=fun i0=>vcC pg 16 (bC [i105 (ah l i0)] base) aO 3000 (kbL []) Br) (nO l) (uO l) 0 (uP l) (Q2 l) _ _ (fun i0 hx0=>aS (bf (.cons (Xf (hK _ (ay hx0))) rfl cv.nil) aw) mixed (az _)) (aS aw mixed (az _)) (fun e=>by cases e) (fun e=>by cases e) (fun _=>rfl) (fun i0 hx0=>VS l i0 ls hK hx0) (fun i0 _=>OM l i0) (fun i0 _=>show∀ww∈uP l i0,cy _ _ _ _ _ _ ww from (aG da (aG cg bG))) (VT l ls hK) (ON l)) (fun h=>h) (fun h=>h)
def Q3 (l:List G):Bool:=(!(sy l))
theorem sB:dB [0] (aH 115)=[(0,.loop Br)]:=by kernel_rfl
abbrev zh:GT:=(.r [bT] zCT)
theorem Gy (l:List G) (ls:length l<=9223372036854775807) (hK: ∀u∈l,ba pg 105 [.ag (gCC u)] [] [] (B (cS u)) []):ba pg 115 [.sl 4 (zCN l)] [] [] (B (Q3 l)) []:=
 bB (fn:=Tryz.f115) (callf:=base) (pu:=aO) (lf:=3000) (l:=[(0,yw l)]) (t:=zh) aw mixed Tryz.func115 (by kernel_rfl) (show Tryz.f115.body=some (aH 115) by kernel_rfl) (Nat.le_of_ble_eq_true rfl) (bO (l:=[(0,yw l)]) sB (aV (OO l ls hK) rfl bn) rfl) rfl (aZ
 (an a0
 (an a0
 (an (kbT (yw l) trivial) (brP (fun (h0:(sy l)=true)=>
 (bE (show Q3 l=false from (cx h0)))) (fun h0=>
 (an a0
 (bE (show Q3 l=true from (au h0)))))))))
 (by kernel_rfl))
theorem Bt (g:G): ∀(l:List G) (a:Int),iw (l++ [g]) a=min (iw l a+de g) 2147483647
 |[],a=>by simp [iw]
 |x::l,a=>by simp only [List.cons_append,iw,Bt g l]
theorem uQ: ∀(l:List G) (a:Int),(∀u∈l,1<=de u)->1<=a->a<=2147483647->1<=iw l a/\iw l a<=2147483647
 |[],a,_,h0,h1=>by simp only [iw];exact ⟨h0,h1⟩
 |x::l,a,h,h0,h1=>by
  have:=h x (by simp)
  simp only [iw]
  exact uQ l _ (fun u hu=>h u (by simp [hu])) (by omega) (by omega)
theorem I2: ∀g:G,1<=de g/\de g<=2147483647:=G.IW fun o n s l ih=>by
 simp only [de]
 exact uQ l 1 (fun u hu=>(ih u hu).1) (by omega) (by omega)
theorem EI (l:List G) (ac:Nat->Int) (h0:ac 0=1) (h1: ∀i,ac (i+1)=min (IntKind.wrap IntKind.i64 (ac i+de (ah l i))) 2147483647):ac l.length=iw l 1:=by
 have key: ∀k,k<=l.length->ac k=iw (l.take k) 1:=by
  intro k
  induction k with
  |zero=>intro _;rw [h0];simp [iw]
  |succ k ih=>
   intro hk
   have hb:=uQ (l.take k) 1 (fun u _=>(I2 u).1) (by omega) (by omega)
   have hg:=I2 (ah l k)
   rw [h1,ih (by omega),EF (by omega),Bt,wrap_i64 (by omega) (by omega)]
 rw [key l.length (Nat.le_refl _),List.take_length]
theorem KX: ∀g:G,eS g->ba pg 99 [.ag (gCC g)] [] [] (I (de g)) []:=G.IW fun o n s l ih hf=>by
 have h:=Yp (.mk o n s l) hf.len fun u hu=>ih u hu (hf.kids u hu)
 have e:r99 (.mk o n s l)=de (.mk o n s l):=by
  simp only [de]
  exact EI l (jf (.mk o n s l)) rfl fun i=>rfl
 rw [<-e];exact h
theorem I3: ∀g:G,eS g->ba pg 104 [.ag (gCC g)] [] [] (I (de g)) []:=G.IW fun o n s l ih hf=>by
 have h:=VQ (.mk o n s l) hf.len fun u hu=>ih u hu (hf.kids u hu)
 have e:r104 (.mk o n s l)=de (.mk o n s l):=by
  simp only [de]
  exact EI l (gw (.mk o n s l)) rfl fun i=>rfl
 rw [<-e];exact h
theorem I4 (o:Int): ∀g:G,eS g->ba pg 94 [.ag (gCC g),I8 o] [] [] (B (dZ o g)) []:=G.IW fun o' n s l ih hf=>by
 have h:=VR (.mk o' n s l) o hf.len fun u hu=>ih u hu (hf.kids u hu)
 have e:r94 (.mk o' n s l) o=dZ o (.mk o' n s l):=by
  have:yv (.mk o' n s l) o=l.any (dZ o):=jx (dZ o) l
  simp only [r94,dZ,Bg,this]
  rfl
 rw [<-e];exact h
theorem all_eq (l:List G):Q3 l=iU l:=by
 have:sy l=l.any fun g=> !cS g:=jx (fun g=> !cS g) l
 rw [IX]
 unfold Q3
 rw [this]
 clear this
 induction l with
 |nil=>rfl
 |cons g l ih=>simp only [List.any_cons,List.all_cons];cases cS g<;>simp_all
def i115 (l:List G):b9:=⟨115,[.sl 4 (l.map gC)],B (iU l),True⟩
theorem MQ {l:List G} (h:ba pg 115 [.sl 4 (l.map gC)] [] [] (B (iU l)) []):(i115 l).cd pg:=fun _=>⟨h,by simp [i115,ae,AV.pure],rfl⟩
def qO (g:G):Bool:=(!(!(cP (Array.toList (ByteArray.data g.name)) []))&&(bif g.n !=0 then (!(g.op !=8)&&(((length (map gC g.kids):Int)==0)&&((decide (g.n<1000000000000000000))&&decide (g.n>(-1000000000000000000))))) else (bif g.op==0 then (length (map gC g.kids):Int)==0 else (bif g.op==1 then (length (map gC g.kids):Int)==0 else (bif g.op==8 then (((length (map gC g.kids):Int)==0)&&((decide (g.n<1000000000000000000))&&decide (g.n>(-1000000000000000000)))) else (bif g.op==2 then (((length (map gC g.kids):Int)==1)&&iU g.kids) else (bif g.op==3 then ((decide ((length (map gC g.kids):Int)>=2))&&iU g.kids) else (bif g.op==4 then ((decide ((length (map gC g.kids):Int)>=2))&&iU g.kids) else (bif g.op==5 then (((length (map gC g.kids):Int)==2)&&((et (ah g.kids 0))&&et (ah g.kids 1))) else (bif g.op==6 then (((length (map gC g.kids):Int)==2)&&((et (ah g.kids 0))&&et (ah g.kids 1))) else ((g.op==7)&&(((length (map gC g.kids):Int)==2)&&((et (ah g.kids 0))&&et (ah g.kids 1))))))))))))))
abbrev zAq:List Gi:=(.k::uFF 10 [bT])
abbrev zZ (g:G):GT:=(.a (.a (.r [.k,bT,bT,bT,.row (gCC (ah g.kids 0)),bT,bT,.int 1,bT,bT,bT,.row (gCC (ah g.kids 1)),bT,bT,.int 2,bT] .nil) (.r (.k::bT::bT::bT::.row (gCC (ah g.kids 0))::bT::bT::.int 1::uFF 5 [bT]) .nil)) (.r zAq .nil))
abbrev zAH (g:G):=((length (map gC g.kids):Int)==0)
abbrev zAX (g:G):=((length (map gC g.kids):Int)==2)
abbrev zAs (g:G):=(decide ((length (map gC g.kids):Int)>=2))
abbrev zBK:GT:=(.r [.k,bT] .nil)
abbrev zBf:List Gi:=(.k::uFF 8 [bT])
abbrev zCI:List Gi:=(.k::bT::bT::bT::.k::uTT 4 [.k,bT,bT])
abbrev zCQ:List Gi:=[.k,bT,bT,bT,.k,bT,bF,bF,bF,bT,bT]
theorem VU (g:G) (ls:length g.kids<=9223372036854775807) (hf: ∀k∈G.kids g,eS k) (hK: ∀u∈G.kids g,ba pg 105 [.ag (gCC u)] [] [] (B (cS u)) []):ba pg 105 [.ag (gCC g)] [] [] (B (qO g)) []:=
 bB (fn:=Tryz.f105) (callf:=(bC [i115 g.kids,i116 (ah g.kids 0),i116 (ah g.kids 1)] base)) (pu:=aO) (lf:=3000) (l:=[]) (t:=(.r [bT] (.a (.r zBf zD) (.a (.r zCI (.br zD (.r [bT] (.r [.k,bT] (.no (.r [.k,bT] (.no (.r [.k,bT] (.yes zF))))))))) (.r zCQ (.r [bT] (.r [.k,bT] (.br zBK (.r [.k,bT] (.br zBK (.r [.k,bT] (.br zF (.r [.k,bT] (.br zAA (.r [.k,bT] (.br zAA (.r [.k,bT] (.br zAA (.r [.k,bT] (.br (zZ g) (.r [.k,bT] (.br (zZ g) (.r [.k,bT] (.br (zZ g) zD)))))))))))))))))))))))) (bf (.cons (MQ (by have:=Gy g.kids ls hK;rw [all_eq] at this;exact this)) rfl (.cons (Bj (ah g.kids 0)) rfl (.cons (Bj (ah g.kids 1)) rfl cv.nil))) aw) mixed Tryz.func105 (by kernel_rfl) (show Tryz.f105.body=some (aH 105) by kernel_rfl) (Nat.le_of_ble_eq_true rfl) (az _) rfl (aZ
 (an a0
 (aP (fun (h0:(!(cP (Array.toList (ByteArray.data g.name)) []))=true)=>
 (an (aN 7 (ac (n2 h0) (a1 a0)))
 (an a0
 (bE (show qO g=false from (aY (cx h0))))))) (fun h0=>have q0:=(aE (au h0) rfl:qO g=_);
 (aP (fun (h1:(g.n !=0)=true)=>have q1:=q0.trans (cdT h1 rfl);
 (an (aN 4 (ac h1 (aN 4 (ac (au h0) (a1 a0)))))
 (brP (fun (h2:(g.op !=8)=true)=>
 (an a0
 (bE (q1.trans (aY (cx h2)))))) (fun h2=>have q3:=q1.trans (aE (au h2) rfl);
 (an a0
 (an (a1 a0)
 (an (show (g.op==0)=false by rw [fO h2];rfl) (an (a1 a0)
 (an (show (g.op==1)=false by rw [fO h2];rfl) (an (a1 a0)
 (an (show (g.op==8)=true by rw [fO h2];rfl) (aP (fun (h3:(zAH g)=true)=>
 (aP (fun (h4:(zBO g)=true)=>
 (an (aN 3 (ac h4 (aN 3 (ac h3 (a1 a0)))))
 (bE (show qO g=(zBI g) from (aE (au h0) (cdT h1 (aE (au h2) (aE h3 (aE h4 rfl))))))))) (fun h4=>
 (an (aN 2 (ac (au h4) (aN 3 (ac h3 (a1 a0)))))
 (bE (q3.trans (aE h3 (aY h4)))))))) (fun h3=>
 (an (aN 5 (ac (au h3) (a1 a0)))
 (bE (q3.trans (aY h3))))))))))))))))) (fun h1=>have q2:=q0.trans (cdF h1 rfl);have g1:=fO h1;
 (an (aN 3 (ac (au h1) (aN 4 (ac (au h0) (a1 a0)))))
 (an a0
 (an (a1 a0)
 (brP (fun (h2:(g.op==0)=true)=>
 (an (a1 a0)
 (bE (show qO g=(zAH g) from (aE (au h0) (cdF h1 (cdT h2 rfl))))))) (fun h2=>have q4:=q2.trans (cdF h2 rfl);have g2:=ne_of_beq_false h2;
 (an (a1 a0)
 (brP (fun (h3:(g.op==1)=true)=>
 (an (a1 a0)
 (bE (show qO g=(zAH g) from (aE (au h0) (cdF h1 (cdF h2 (cdT h3 rfl)))))))) (fun h3=>have q5:=q4.trans (cdF h3 rfl);have g3:=ne_of_beq_false h3;
 (an (a1 a0)
 (brP (fun (h4:(g.op==8)=true)=>have q6:=q5.trans (cdT h4 rfl);
 (aP (fun (h5:(zAH g)=true)=>
 (aP (fun (h6:(zBO g)=true)=>
 (an (aN 3 (ac h6 (aN 3 (ac h5 (a1 a0)))))
 (bE (show qO g=(zBI g) from (aE (au h0) (cdF h1 (cdF h2 (cdF h3 (cdT h4 (aE h5 (aE h6 rfl))))))))))) (fun h6=>
 (an (aN 2 (ac (au h6) (aN 3 (ac h5 (a1 a0)))))
 (bE (q6.trans (aE h5 (aY h6)))))))) (fun h5=>
 (an (aN 5 (ac (au h5) (a1 a0)))
 (bE (q6.trans (aY h5))))))) (fun h4=>have q7:=q5.trans (cdF h4 rfl);have g4:=ne_of_beq_false h4;
 (an (a1 a0)
 (brP (fun (h5:(g.op==2)=true)=>
 (aP (fun (h6:((length (map gC g.kids):Int)==1)=true)=>
 (an (cA (MQ (by have:=Gy g.kids ls hK;rw [all_eq] at this;exact this)) trivial (aN 2 (ac h6 (a1 a0))))
 (bE (show qO g=(iU g.kids) from (aE (au h0) (cdF h1 (cdF h2 (cdF h3 (cdF h4 (cdT h5 (aE h6 rfl))))))))))) (fun h6=>
 (an (aN 2 (ac (au h6) (a1 a0)))
 (bE (q7.trans (cdT h5 (aY h6)))))))) (fun h5=>have q8:=q7.trans (cdF h5 rfl);have g5:=ne_of_beq_false h5;
 (an (a1 a0)
 (brP (fun (h6:(g.op==3)=true)=>
 (aP (fun (h7:(zAs g)=true)=>
 (an (cA (MQ (by have:=Gy g.kids ls hK;rw [all_eq] at this;exact this)) trivial (aN 2 (ac h7 (a1 a0))))
 (bE (show qO g=(iU g.kids) from (aE (au h0) (cdF h1 (cdF h2 (cdF h3 (cdF h4 (cdF h5 (cdT h6 (aE h7 rfl)))))))))))) (fun h7=>
 (an (aN 2 (ac (au h7) (a1 a0)))
 (bE (q8.trans (cdT h6 (aY h7)))))))) (fun h6=>have q9:=q8.trans (cdF h6 rfl);have g6:=ne_of_beq_false h6;
 (an (a1 a0)
 (brP (fun (h7:(g.op==4)=true)=>
 (aP (fun (h8:(zAs g)=true)=>
 (an (cA (MQ (by have:=Gy g.kids ls hK;rw [all_eq] at this;exact this)) trivial (aN 2 (ac h8 (a1 a0))))
 (bE (show qO g=(iU g.kids) from (aE (au h0) (cdF h1 (cdF h2 (cdF h3 (cdF h4 (cdF h5 (cdF h6 (cdT h7 (aE h8 rfl))))))))))))) (fun h8=>
 (an (aN 2 (ac (au h8) (a1 a0)))
 (bE (q9.trans (cdT h7 (aY h8)))))))) (fun h7=>have q10:=q9.trans (cdF h7 rfl);have g7:=ne_of_beq_false h7;
 (an (a1 a0)
 (brP (fun (h8:(g.op==5)=true)=>have q11:=q10.trans (cdT h8 rfl);have g8:=eq_of_beq h8;
 (aP (fun (h9:(zAX g)=true)=>have l1:=aW gC (g.kids);have g9:=eq_of_beq h9;
 (aP (fun (h10:(et (ah g.kids 0))=true)=>
 (an (cA (Bj (ah g.kids 1)) (hf _ (ay (by omega))) (aN 2 (ac (je (l:=g.kids) (i:=1) (by omega)) (aN 2 (ac h10 (cA (Bj (ah g.kids 0)) (hf _ (ay (by omega))) (aN 2 (ac (je (l:=g.kids) (i:=0) (by omega)) (aN 2 (ac h9 (a1 a0)))))))))))
 (bE (show qO g=(et (ah g.kids 1)) from (aE (au h0) (cdF h1 (cdF h2 (cdF h3 (cdF h4 (cdF h5 (cdF h6 (cdF h7 (cdT h8 (aE h9 (aE h10 rfl))))))))))))))) (fun h10=>
 (an (aN 4 (ac (au h10) (cA (Bj (ah g.kids 0)) (hf _ (ay (by omega))) (aN 2 (ac (je (l:=g.kids) (i:=0) (by omega)) (aN 2 (ac h9 (a1 a0))))))))
 (bE (q11.trans (aE h9 (aY h10)))))))) (fun h9=>
 (an (aN 9 (ac (au h9) (a1 a0)))
 (bE (q11.trans (aY h9))))))) (fun h8=>have q12:=q10.trans (cdF h8 rfl);have g8:=ne_of_beq_false h8;
 (an (a1 a0)
 (brP (fun (h9:(g.op==6)=true)=>have q13:=q12.trans (cdT h9 rfl);have g9:=eq_of_beq h9;
 (aP (fun (h10:(zAX g)=true)=>have l1:=aW gC (g.kids);have g10:=eq_of_beq h10;
 (aP (fun (h11:(et (ah g.kids 0))=true)=>
 (an (cA (Bj (ah g.kids 1)) (hf _ (ay (by omega))) (aN 2 (ac (je (l:=g.kids) (i:=1) (by omega)) (aN 2 (ac h11 (cA (Bj (ah g.kids 0)) (hf _ (ay (by omega))) (aN 2 (ac (je (l:=g.kids) (i:=0) (by omega)) (aN 2 (ac h10 (a1 a0)))))))))))
 (bE (show qO g=(et (ah g.kids 1)) from (aE (au h0) (cdF h1 (cdF h2 (cdF h3 (cdF h4 (cdF h5 (cdF h6 (cdF h7 (cdF h8 (cdT h9 (aE h10 (aE h11 rfl)))))))))))))))) (fun h11=>
 (an (aN 4 (ac (au h11) (cA (Bj (ah g.kids 0)) (hf _ (ay (by omega))) (aN 2 (ac (je (l:=g.kids) (i:=0) (by omega)) (aN 2 (ac h10 (a1 a0))))))))
 (bE (q13.trans (aE h10 (aY h11)))))))) (fun h10=>
 (an (aN 9 (ac (au h10) (a1 a0)))
 (bE (q13.trans (aY h10))))))) (fun h9=>have q14:=q12.trans (cdF h9 rfl);have g9:=ne_of_beq_false h9;
 (an (a1 a0)
 (brP (fun (h10:(g.op==7)=true)=>have q15:=q14.trans (aE h10 rfl);have g10:=eq_of_beq h10;
 (aP (fun (h11:(zAX g)=true)=>have l1:=aW gC (g.kids);have g11:=eq_of_beq h11;
 (aP (fun (h12:(et (ah g.kids 0))=true)=>
 (an (cA (Bj (ah g.kids 1)) (hf _ (ay (by omega))) (aN 2 (ac (je (l:=g.kids) (i:=1) (by omega)) (aN 2 (ac h12 (cA (Bj (ah g.kids 0)) (hf _ (ay (by omega))) (aN 2 (ac (je (l:=g.kids) (i:=0) (by omega)) (aN 2 (ac h11 (a1 a0)))))))))))
 (bE (show qO g=(et (ah g.kids 1)) from (aE (au h0) (cdF h1 (cdF h2 (cdF h3 (cdF h4 (cdF h5 (cdF h6 (cdF h7 (cdF h8 (cdF h9 (aE h10 (aE h11 (aE h12 rfl))))))))))))))))) (fun h12=>
 (an (aN 4 (ac (au h12) (cA (Bj (ah g.kids 0)) (hf _ (ay (by omega))) (aN 2 (ac (je (l:=g.kids) (i:=0) (by omega)) (aN 2 (ac h11 (a1 a0))))))))
 (bE (q15.trans (aE h11 (aY h12)))))))) (fun h11=>
 (an (aN 9 (ac (au h11) (a1 a0)))
 (bE (q15.trans (aY h11))))))) (fun h10=>
 (an a0
 (bE (q14.trans (aY h10))))))))))))))))))))))))))))))))))))))
 (by kernel_rfl))
def r111 (g:G):Bool:= !(cS g)
abbrev zBq:GT:=(.r [bT] (.r [.int 0,bT] .nil))
theorem Q4 (g:G) (hK:ba pg 100 [.ag (gCC g)] [] [] (B (cS g)) []):ba pg 111 [.ag (gCC g)] [] [] (B (r111 g)) []:=
 bB (fn:=Tryz.f111) (callf:=(bC [i100 g] base)) (pu:=aO) (lf:=3000) (l:=[]) (t:=zBq) (bf (.cons (Xg hK) rfl cv.nil) aw) mixed Tryz.func111 (by kernel_rfl) (show Tryz.f111.body=some (aH 111) by kernel_rfl) (Nat.le_of_ble_eq_true rfl) (az _) rfl (aZ
 (an a0
 (an (cA (Xg hK) trivial a0)
 (bE (show r111 g=(!(cS g)) from rfl))))
 (by kernel_rfl))
def I5 (l:List G) (j:Nat):b9:=⟨111,[.ag (gCC (ah l j))],B (!cS (ah l j)),j<l.length⟩
theorem MR (l:List G) (j:Nat) (hK: ∀u∈l,ba pg 100 [.ag (gCC u)] [] [] (B (cS u)) []):(I5 l j).cd pg:=fun hp=>⟨Q4 _ (hK _ (ay hp)),by simp [I5,ae,AV.pure],rfl⟩
def Bu:Code:=bV 0 (aH 114)
def nQ (l:List G) (i0:Nat):Am.Loc:=[(0,.sl 4 (zCN l)),(1,.fn (.func 111) [] []),(7,I (length (zCN l):Int)),(8,I (i0:Int))]
def uR (_:List G) (_:Nat):List Ob:=[]
def kM (l:List G) (i0:Nat):Bool:=(!(cS (ah l i0)))
def sC (l:List G):Bool:=dh (length l) (kM l)
def sD (_:List G) (i0:Nat):Am.Loc:=[(4,I (i0:Int))]
def Gz (_:List G) (_:Nat):List Ob:=[]
def mu (_:List G):Am.Loc:=[]
def sE (_:List G):List Ob:=[]
def yx (l:List G):KB:=⟨nQ l 0,uR l 0,sC l,.ret,sD l (cc (zBu l) (kM l)),Gz l (cc (zBu l) (kM l)),.normal,mu l,sE l,True⟩
def uS (l:List G) (i0:Nat):List bj:=[htW (kM l i0) .ret (sD l i0) za (Gz l i0),nxW (kM l i0) (nQ l (i0+1)) (uR l (i0+1)) (nQ l (i0+1)) za (uR l (i0+1))]
def Q5 (l:List G) (i0:Nat):GT:=(.r [.k,bT] (.yes (.r [bT] (.r [.row (gCC (ah l i0)),.int 0,bT] (.br (.r [bT] (.pick 0)) (.r [.int ↑(i0+1),bT] (.pick 1)))))))
theorem VV (l:List G) (i0:Nat) (ls:length l<=9223372036854775807) (hK: ∀u∈l,ba pg 100 [.ag (gCC u)] [] [] (B (cS u)) []) (hx0:i0<(length l)):vcC pg 19 (bC [I5 l i0] base) aO 3000 (kbL []) Bu (bu (nQ l i0)) (bA (uR l i0)) 0 (bQ (uS l i0)) (Q5 l i0):=
 have l1:=aW gC (l);have hb:(zBp i0 l)=true:=decide_eq_true (by omega);
 aZ (an (a1 a0)
 (an hb (an a0
 (an (cA (MR l i0 hK) (show i0<length l by omega) (ac (je (l:=l) (i:=i0) (by omega)) a0))
 (brP (fun (h1:(!(cS (ah l i0)))=true)=>
 (an a0
 (lf (wy (uS l i0) 0) 0 (show kM l i0=true from h1)))) (fun h1=>
 (an (ac (dwr (z:= ↑(i0+1)) (by omega) (by omega)) a0)
 (lf (wy (uS l i0) 1) 0 ⟨(show kM l i0=false from h1),rfl,rfl⟩))))))))
 (by kernel_rfl)
theorem VW (l:List G) (_:length l<=9223372036854775807) (_: ∀u∈l,ba pg 100 [.ag (gCC u)] [] [] (B (cS u)) []):vcC pg 19 base aO 3000 (kbL []) Bu (bu (nQ l (zBu l))) (bA (uR l (zBu l))) 0 (bQ [⟨True,(.exit 0),mu l,range 0,sE l⟩]) zE:=
 have l1:=aW gC (l);have hb:(zAy l)=false:=decide_eq_false (by omega);
 aZ (an (a1 a0)
 (an hb (lf (wy [⟨True,(.exit 0),mu l,range 0,sE l⟩] 0) 0 trivial)))
 (by kernel_rfl)
theorem OP (l:List G) (i0:Nat):(uS l i0).all zr=true:=by refine (aF (aQ rfl rfl rfl ?_ rfl) (aF (aQ rfl rfl rfl ?_ rfl) bD))<;>simp (maxDischargeDepth:=9) [nxW,htW,nQ,sD,plS,AV.pure,ae]
theorem OQ (l:List G):bj.b8 0 ⟨True,(.exit 0),mu l,range 0,sE l⟩=true:=(aQ rfl rfl rfl rfl rfl)
theorem OR (l:List G) (ls:length l<=9223372036854775807) (hK: ∀u∈l,ba pg 100 [.ag (gCC u)] [] [] (B (cS u)) []):dg pg 19 0 0 (.loop Bu) (yx l):=
 bZ (fun _=>e9 (id:=0) (m:=length l) (t:=kM l) (xr:= .ret) (xn:=(.exit 0)) (Lr:=sD l) (Lx:=mu l) (obr:=Gz l) (obx:=sE l) (V:=fun i0=>vcC pg 19 (bC [I5 l i0] base) aO 3000 (kbL []) Bu) (nQ l) (uR l) 0 (uS l) (Q5 l) _ _ (fun i0 hx0=>aS (bf (.cons (MR l i0 hK) rfl cv.nil) aw) mixed (az _)) (aS aw mixed (az _)) (fun e=>by cases e) (fun e=>by cases e) (fun _=>rfl) (fun i0 hx0=>VV l i0 ls hK hx0) (fun i0 _=>OP l i0) (fun i0 _=>show∀ww∈uS l i0,cy _ _ _ _ _ _ ww from (aG da (aG cg bG))) (VW l ls hK) (OQ l)) (fun h=>h) (fun h=>h)
def I6 (l:List G):Int:=(bif sC l then (((cc (length l) (kM l)):Nat):Int) else (-1))
theorem sF:dB [0] (aH 114)=[(0,.loop Bu)]:=by kernel_rfl
theorem Q6 (l:List G) (ls:length l<=9223372036854775807) (hK: ∀u∈l,ba pg 100 [.ag (gCC u)] [] [] (B (cS u)) []):ba pg 114 [.sl 4 (zCN l),.fn (.func 111) [] []] [] [] (I (I6 l)) []:=
 bB (fn:=Tryz.f114) (callf:=base) (pu:=aO) (lf:=3000) (l:=[(0,yx l)]) (t:=zh) aw mixed Tryz.func114 (by kernel_rfl) (show Tryz.f114.body=some (aH 114) by kernel_rfl) (Nat.le_of_ble_eq_true rfl) (bO (l:=[(0,yx l)]) sF (aV (OR l ls hK) rfl bn) rfl) rfl (aZ
 (an a0
 (an a0
 (an (kbT (yx l) trivial) (brP (fun (h0:(sC l)=true)=>
 (iE (show I6 l=(((cc (length l) (kM l)):Nat):Int) from (cdT h0 rfl)))) (fun h0=>
 (an a0
 (iE (show I6 l=(-1) from (cdF h0 rfl)))))))))
 (by kernel_rfl))
def i114 (l:List G):b9:=⟨114,[.sl 4 (l.map gC),.fn (.func 111) [] []],I (I6 l),True⟩
theorem Xj {l:List G} (h:ba pg 114 [.sl 4 (l.map gC),.fn (.func 111) [] []] [] [] (I (I6 l)) []):(i114 l).cd pg:=fun _=>⟨h,by simp [i114,ae,AV.pure],rfl⟩
def r101 (l:List G):Bool:=decide ((I6 l)>=0)
abbrev zBG:GT:=(.r [bT] (.r [.int 0,.k,bT] .nil))
theorem I7 (l:List G) (ls:length l<=9223372036854775807) (hK: ∀u∈l,ba pg 100 [.ag (gCC u)] [] [] (B (cS u)) []):ba pg 101 [.sl 4 (zCN l),.fn (.func 111) [] []] [] [] (B (r101 l)) []:=
 bB (fn:=Tryz.f101) (callf:=(bC [i114 l] base)) (pu:=aO) (lf:=3000) (l:=[]) (t:=zBG) (bf (.cons (Xj (Q6 l ls hK)) rfl cv.nil) aw) mixed Tryz.func101 (by kernel_rfl) (show Tryz.f101.body=some (aH 101) by kernel_rfl) (Nat.le_of_ble_eq_true rfl) (az _) rfl (aZ
 (an a0
 (an (a1 (cA (Xj (Q6 l ls hK)) trivial a0))
 (bE (show r101 l=(decide ((I6 l)>=0)) from rfl))))
 (by kernel_rfl))
theorem VX (l:List G):r101 l= !(iU l):=by
 have h2:sC l=l.any fun g=> !cS g:=jx (fun g=> !cS g) l
 have h3:(l.any fun g=> !cS g)= !(iU l):=by
  rw [IX]
  clear h2
  induction l with
  |nil=>rfl
  |cons g l ih=>simp only [List.any_cons,List.all_cons];cases cS g<;>simp_all
 unfold r101 I6
 rw [h2,h3]
 cases iU l with
 |true=>rfl
 |false=>simp only [Bool.not_false,cond_true,decide_eq_true_eq];omega
def i101 (l:List G):b9:=⟨101,[.sl 4 (l.map gC),.fn (.func 111) [] []],B (!(iU l)),True⟩
theorem Q7 {l:List G} (ls:l.length<=9223372036854775807) (hK: ∀u∈l,ba pg 100 [.ag (gCC u)] [] [] (B (cS u)) []):(i101 l).cd pg:=fun _=>⟨by have:=I7 l ls hK;rw [VX] at this;exact this,by simp [i101,ae,AV.pure],rfl⟩
theorem Ys (op:Int) (h: ¬(5<=op/\op<=7)) (h2:op<=127):ba pg 112 [I8 op] [] [] (.v .nilFunc) []:=by
 have go: ∀(gd:List Gi) {ok:List Bool},mR Tryz.prog Tryz.f112.results.toList 0 (runK Tryz.prog 15 base aO 3000 (kbL []) (aH 112) (jL 0 [I8 op] .e) .e 0 ⟨0,gd,[]⟩)=some (.v .nilFunc,[],ok)->cz ok=true->ba pg 112 [I8 op] [] [] (.v .nilFunc) []:=fun gd ok k hok=>
  Gl (fn:=Tryz.f112) (pu:=aO) (lf:=3000) (l:=[]) aw mixed Tryz.func112 (by kernel_rfl) (show Tryz.f112.body=some (aH 112) by kernel_rfl) (Nat.le_of_ble_eq_true rfl) (az _) k hok rfl
 by_cases h0:op<0
 ·exact go [bT,bF,bF,bF,bT,bT] (by kernel_rfl) (a1 (a1 (a1 (a1 (ac (decide_eq_true h0) a0)))))
 ·by_cases h8:8<=op
  ·have hw:IntKind.wrap IntKind.i64 op=op:=wrap_i64 (by omega) (by omega)
   exact go (bF::uTT 6 []) (by kernel_rfl) (a1 (ac (show (decide (IntKind.wrap IntKind.i64 op>=8))=true by rw [hw];exact decide_eq_true h8) (a1 (a1 (a1 (ac (au (decide_eq_false h0)) a0))))))
  ·have:op=0\/op=1\/op=2\/op=3\/op=4:=by omega
   rcases this with rfl|rfl|rfl|rfl|rfl
   ·exact go [] (by kernel_rfl) a0
   ·exact go [] (by kernel_rfl) a0
   ·exact go [] (by kernel_rfl) a0
   ·exact go [] (by kernel_rfl) a0
   ·exact go [] (by kernel_rfl) a0
theorem Q8:ba pg 112 [I8 5] [] [] (.fn (.func 122) [] []) []:=Gl (fn:=Tryz.f112) (pu:=aO) (lf:=3000) (l:=[]) (gd:=[]) aw mixed Tryz.func112 (by kernel_rfl) (show Tryz.f112.body=some (aH 112) by kernel_rfl) (Nat.le_of_ble_eq_true rfl) (az _) (show mR Tryz.prog Tryz.f112.results.toList 0 (runK Tryz.prog 15 base aO 3000 (kbL []) (aH 112) (jL 0 [I8 5] .e) .e 0 ⟨0,[],[]⟩)=some (.fn (.func 122) [] [],[],[]) by kernel_rfl) rfl rfl
def Q9 (op:Int):b9:=⟨112,[I8 op],.fn (.func 122) [] [],op=5⟩
theorem GA (op:Int):(Q9 op).cd pg:=fun hp=>⟨by have:op=5:=hp;subst this;exact Q8,rfl,rfl⟩
theorem Ra:ba pg 112 [I8 6] [] [] (.fn (.func 123) [] []) []:=Gl (fn:=Tryz.f112) (pu:=aO) (lf:=3000) (l:=[]) (gd:=[]) aw mixed Tryz.func112 (by kernel_rfl) (show Tryz.f112.body=some (aH 112) by kernel_rfl) (Nat.le_of_ble_eq_true rfl) (az _) (show mR Tryz.prog Tryz.f112.results.toList 0 (runK Tryz.prog 15 base aO 3000 (kbL []) (aH 112) (jL 0 [I8 6] .e) .e 0 ⟨0,[],[]⟩)=some (.fn (.func 123) [] [],[],[]) by kernel_rfl) rfl rfl
def Rb (op:Int):b9:=⟨112,[I8 op],.fn (.func 123) [] [],op=6⟩
theorem GB (op:Int):(Rb op).cd pg:=fun hp=>⟨by have:op=6:=hp;subst this;exact Ra,rfl,rfl⟩
theorem Rc:ba pg 112 [I8 7] [] [] (.fn (.func 124) [] []) []:=Gl (fn:=Tryz.f112) (pu:=aO) (lf:=3000) (l:=[]) (gd:=[]) aw mixed Tryz.func112 (by kernel_rfl) (show Tryz.f112.body=some (aH 112) by kernel_rfl) (Nat.le_of_ble_eq_true rfl) (az _) (show mR Tryz.prog Tryz.f112.results.toList 0 (runK Tryz.prog 15 base aO 3000 (kbL []) (aH 112) (jL 0 [I8 7] .e) .e 0 ⟨0,[],[]⟩)=some (.fn (.func 124) [] [],[],[]) by kernel_rfl) rfl rfl
def Re (op:Int):b9:=⟨112,[I8 op],.fn (.func 124) [] [],op=7⟩
theorem GC (op:Int):(Re op).cd pg:=fun hp=>⟨by have:op=7:=hp;subst this;exact Rc,rfl,rfl⟩
def Rf (op:Int):b9:=⟨112,[I8 op],.v .nilFunc,¬(5<=op/\op<=7)/\op<=127⟩
theorem Rg (op:Int):(Rf op).cd pg:=fun hp=>⟨Ys op hp.1 hp.2,rfl,rfl⟩
def sG (g:G):Bool:=(!(!(cP (Array.toList (ByteArray.data g.name)) []))&&(bif g.op !=8 then (!(g.n !=0)&&(bif g.op==0 then (length (map gC g.kids):Int)==0 else (bif g.op==1 then (length (map gC g.kids):Int)==0 else (bif g.op==2 then (((length (map gC g.kids):Int)==1)&& !(!(cS (ah g.kids 0)))) else (bif g.op==3 then ((decide ((length (map gC g.kids):Int)>=2))&& !(!(iU g.kids))) else (bif g.op==4 then ((decide ((length (map gC g.kids):Int)>=2))&& !(!(iU g.kids))) else (bif g.op==5 then (((length (map gC g.kids):Int)==2)&&((et (ah g.kids 0))&&et (ah g.kids 1))) else (bif g.op==6 then (((length (map gC g.kids):Int)==2)&&((et (ah g.kids 0))&&et (ah g.kids 1))) else ((g.op==7)&&(((length (map gC g.kids):Int)==2)&&((et (ah g.kids 0))&&et (ah g.kids 1)))))))))))) else (((length (map gC g.kids):Int)==0)&&((decide (g.n<1000000000000000000))&&decide (g.n>(-1000000000000000000))))))
abbrev zBR:GT:=(.a (.r (.k::uTT 4 [.int 1,bT,bT]) .nil) (.r (.k::uFF 5 [bT]) .nil))
theorem VY (g:G) (ls:length g.kids<=9223372036854775807) (hf: ∀k∈G.kids g,eS k) (ho:G.op g<=127) (hK: ∀u∈G.kids g,ba pg 100 [.ag (gCC u)] [] [] (B (cS u)) []):ba pg 100 [.ag (gCC g)] [] [] (B (sG g)) []:=
 bB (fn:=Tryz.f100) (callf:=(bC [I5 g.kids 0,i101 g.kids,Q9 g.op,i113 (ah g.kids 0),i113 (ah g.kids 1),Rb g.op,Re g.op,Rf g.op] base)) (pu:=aO) (lf:=3000) (l:=[]) (t:=(.r [bT] (.a (.r zBf zD) (.a (.r zCI (.br zD (.r [bT] (.r [bT] (.a (.r zAO zBK) (.r zAB (.br zBK (.r [.k,bT] (.no (.r [.k,bT] (.br (.a (.r (.k::uTT 4 [.row (gCC (ah g.kids 0)),bT,bT,.int 0,bT,bT]) .nil) (.r (.k::uFF 7 [bT]) .nil)) (.a (.r zAO zBR) (.r zAB (.br zBR (.a (.a (.a (.r (.int 2::.k::uTT 4 [.k,bT,bT,bT,.row (gCC (ah g.kids 0)),bT,bT,.int 3,bT,bT,bT,.row (gCC (ah g.kids 1)),bT,bT,.int 4,bT]) .nil) (.r (.int 2::.k::uTT 4 (.k::bT::bT::bT::.row (gCC (ah g.kids 0))::bT::bT::.int 3::uFF 5 [bT])) .nil)) (.r (.int 2::.k::uTT 4 (.k::uFF 10 [bT])) .nil)) (.a (.a (.a (.r (.int 5::.k::uTT 4 [.k,bT,bT,bT,.row (gCC (ah g.kids 0)),bT,bT,.int 3,bT,bT,bT,.row (gCC (ah g.kids 1)),bT,bT,.int 4,bT]) .nil) (.r (.int 5::.k::uTT 4 (.k::bT::bT::bT::.row (gCC (ah g.kids 0))::bT::bT::.int 3::uFF 5 [bT])) .nil)) (.r (.int 5::.k::uTT 4 (.k::uFF 10 [bT])) .nil)) (.a (.a (.a (.r (.int 6::.k::uTT 4 [.k,bT,bT,bT,.row (gCC (ah g.kids 0)),bT,bT,.int 3,bT,bT,bT,.row (gCC (ah g.kids 1)),bT,bT,.int 4,bT]) .nil) (.r (.int 6::.k::uTT 4 (.k::bT::bT::bT::.row (gCC (ah g.kids 0))::bT::bT::.int 3::uFF 5 [bT])) .nil)) (.r (.int 6::.k::uTT 4 (.k::uFF 10 [bT])) .nil)) (.r (.int 7::.k::uFF 14 [bT]) .nil)))))))))))))))))) (.r zCQ (.r [bT] (.r [bT] (.r zAB (.no (.r [.k,bT] (.yes zF))))))))))) (bf (.cons (MR g.kids 0 hK) rfl (.cons (Q7 ls hK) rfl (.cons (GA g.op) rfl (.cons (Bi (ah g.kids 0)) rfl (.cons (Bi (ah g.kids 1)) rfl (.cons (GB g.op) rfl (.cons (GC g.op) rfl (.cons (Rg g.op) rfl cv.nil)))))))) aw) mixed Tryz.func100 (by kernel_rfl) (show Tryz.f100.body=some (aH 100) by kernel_rfl) (Nat.le_of_ble_eq_true rfl) (az _) rfl (aZ
 (an a0
 (aP (fun (h0:(!(cP (Array.toList (ByteArray.data g.name)) []))=true)=>
 (an (aN 7 (ac (n2 h0) (a1 a0)))
 (an a0
 (bE (show sG g=false from (aY (cx h0))))))) (fun h0=>have q0:=(aE (au h0) rfl:sG g=_);
 (aP (fun (h1:(g.op !=8)=true)=>have q1:=q0.trans (cdT h1 rfl);have g1:=KS h1;
 (an (aN 4 (ac h1 (aN 4 (ac (au h0) (a1 a0)))))
 (brP (fun (h2:(g.n !=0)=true)=>
 (an a0
 (bE (q1.trans (aY (cx h2)))))) (fun h2=>have q3:=q1.trans (aE (au h2) rfl);have g2:=fO h2;
 (an a0
 (an a0
 (aP (fun (h3:(g.op==0)=true)=>
 (an (aN 2 (ac (n2 h3) (a1 a0)))
 (an (a1 a0)
 (bE (show sG g=(zAH g) from (aE (au h0) (cdT h1 (aE (au h2) (cdT h3 rfl))))))))) (fun h3=>have q4:=q3.trans (cdF h3 rfl);have g3:=ne_of_beq_false h3;
 (an (aN 3 (ac (au h3) (a1 a0)))
 (brP (fun (h4:(g.op==1)=true)=>
 (an (a1 a0)
 (bE (show sG g=(zAH g) from (aE (au h0) (cdT h1 (aE (au h2) (cdF h3 (cdT h4 rfl))))))))) (fun h4=>have q5:=q4.trans (cdF h4 rfl);have g4:=ne_of_beq_false h4;
 (an (a1 a0)
 (an (show (g.op==8)=false by simpa using h1) (an (a1 a0)
 (brP (fun (h5:(g.op==2)=true)=>have g5:=eq_of_beq h5;
 (aP (fun (h6:((length (map gC g.kids):Int)==1)=true)=>have l1:=aW gC (g.kids);have g6:=eq_of_beq h6;
 (an (a1 (cA (MR g.kids 0 hK) (show 0<length g.kids by omega) (aN 2 (ac (je (l:=g.kids) (i:=0) (by omega)) (aN 3 (ac h6 (a1 a0)))))))
 (bE (show sG g=(!(!(cS (ah g.kids 0)))) from (aE (au h0) (cdT h1 (aE (au h2) (cdF h3 (cdF h4 (cdT h5 (aE h6 rfl))))))))))) (fun h6=>
 (an (aN 6 (ac (au h6) (a1 a0)))
 (bE (q5.trans (cdT h5 (aY h6)))))))) (fun h5=>have q6:=q5.trans (cdF h5 rfl);have g5:=ne_of_beq_false h5;
 (aP (fun (h6:(g.op==3)=true)=>
 (an (aN 2 (ac (n2 h6) (a1 a0)))
 (aP (fun (h7:(zAs g)=true)=>
 (an (a1 (cA (Q7 ls hK) trivial (aN 3 (ac h7 (a1 a0)))))
 (bE (show sG g=(!(!(iU g.kids))) from (aE (au h0) (cdT h1 (aE (au h2) (cdF h3 (cdF h4 (cdF h5 (cdT h6 (aE h7 rfl)))))))))))) (fun h7=>
 (an (aN 4 (ac (au h7) (a1 a0)))
 (bE (q6.trans (cdT h6 (aY h7))))))))) (fun h6=>have q7:=q6.trans (cdF h6 rfl);have g6:=ne_of_beq_false h6;
 (an (aN 3 (ac (au h6) (a1 a0)))
 (brP (fun (h7:(g.op==4)=true)=>
 (aP (fun (h8:(zAs g)=true)=>
 (an (a1 (cA (Q7 ls hK) trivial (aN 3 (ac h8 (a1 a0)))))
 (bE (show sG g=(!(!(iU g.kids))) from (aE (au h0) (cdT h1 (aE (au h2) (cdF h3 (cdF h4 (cdF h5 (cdF h6 (cdT h7 (aE h8 rfl))))))))))))) (fun h8=>
 (an (aN 4 (ac (au h8) (a1 a0)))
 (bE (q7.trans (cdT h7 (aY h8)))))))) (fun h7=>have q8:=q7.trans (cdF h7 rfl);have g7:=ne_of_beq_false h7;
 (aP (fun (h8:(g.op==5)=true)=>have q9:=q8.trans (cdT h8 rfl);have g8:=eq_of_beq h8;
 (aP (fun (h9:(zAX g)=true)=>have l1:=aW gC (g.kids);have g9:=eq_of_beq h9;
 (aP (fun (h10:(et (ah g.kids 0))=true)=>
 (an (cA (Bi (ah g.kids 1)) (hf _ (ay (by omega))) (aN 2 (ac (je (l:=g.kids) (i:=1) (by omega)) (aN 2 (ac h10 (cA (Bi (ah g.kids 0)) (hf _ (ay (by omega))) (aN 2 (ac (je (l:=g.kids) (i:=0) (by omega)) (aN 2 (ac h9 (aN 6 (cA (GA g.op) (show g.op=5 by omega) a0))))))))))))
 (bE (show sG g=(et (ah g.kids 1)) from (aE (au h0) (cdT h1 (aE (au h2) (cdF h3 (cdF h4 (cdF h5 (cdF h6 (cdF h7 (cdT h8 (aE h9 (aE h10 rfl))))))))))))))) (fun h10=>
 (an (aN 4 (ac (au h10) (cA (Bi (ah g.kids 0)) (hf _ (ay (by omega))) (aN 2 (ac (je (l:=g.kids) (i:=0) (by omega)) (aN 2 (ac h9 (aN 6 (cA (GA g.op) (show g.op=5 by omega) a0)))))))))
 (bE (q9.trans (aE h9 (aY h10)))))))) (fun h9=>have l1:=aW gC (g.kids);have g9:=ne_of_beq_false h9;
 (an (aN 9 (ac (au h9) (aN 6 (cA (GA g.op) (show g.op=5 by omega) a0))))
 (bE (q9.trans (aY h9))))))) (fun h8=>have q10:=q8.trans (cdF h8 rfl);have g8:=ne_of_beq_false h8;
 (aP (fun (h9:(g.op==6)=true)=>have q11:=q10.trans (cdT h9 rfl);have g9:=eq_of_beq h9;
 (aP (fun (h10:(zAX g)=true)=>have l1:=aW gC (g.kids);have g10:=eq_of_beq h10;
 (aP (fun (h11:(et (ah g.kids 0))=true)=>
 (an (cA (Bi (ah g.kids 1)) (hf _ (ay (by omega))) (aN 2 (ac (je (l:=g.kids) (i:=1) (by omega)) (aN 2 (ac h11 (cA (Bi (ah g.kids 0)) (hf _ (ay (by omega))) (aN 2 (ac (je (l:=g.kids) (i:=0) (by omega)) (aN 2 (ac h10 (aN 6 (cA (GB g.op) (show g.op=6 by omega) a0))))))))))))
 (bE (show sG g=(et (ah g.kids 1)) from (aE (au h0) (cdT h1 (aE (au h2) (cdF h3 (cdF h4 (cdF h5 (cdF h6 (cdF h7 (cdF h8 (cdT h9 (aE h10 (aE h11 rfl)))))))))))))))) (fun h11=>
 (an (aN 4 (ac (au h11) (cA (Bi (ah g.kids 0)) (hf _ (ay (by omega))) (aN 2 (ac (je (l:=g.kids) (i:=0) (by omega)) (aN 2 (ac h10 (aN 6 (cA (GB g.op) (show g.op=6 by omega) a0)))))))))
 (bE (q11.trans (aE h10 (aY h11)))))))) (fun h10=>have l1:=aW gC (g.kids);have g10:=ne_of_beq_false h10;
 (an (aN 9 (ac (au h10) (aN 6 (cA (GB g.op) (show g.op=6 by omega) a0))))
 (bE (q11.trans (aY h10))))))) (fun h9=>have q12:=q10.trans (cdF h9 rfl);have g9:=ne_of_beq_false h9;
 (aP (fun (h10:(g.op==7)=true)=>have q13:=q12.trans (aE h10 rfl);have g10:=eq_of_beq h10;
 (aP (fun (h11:(zAX g)=true)=>have l1:=aW gC (g.kids);have g11:=eq_of_beq h11;
 (aP (fun (h12:(et (ah g.kids 0))=true)=>
 (an (cA (Bi (ah g.kids 1)) (hf _ (ay (by omega))) (aN 2 (ac (je (l:=g.kids) (i:=1) (by omega)) (aN 2 (ac h12 (cA (Bi (ah g.kids 0)) (hf _ (ay (by omega))) (aN 2 (ac (je (l:=g.kids) (i:=0) (by omega)) (aN 2 (ac h11 (aN 6 (cA (GC g.op) (show g.op=7 by omega) a0))))))))))))
 (bE (show sG g=(et (ah g.kids 1)) from (aE (au h0) (cdT h1 (aE (au h2) (cdF h3 (cdF h4 (cdF h5 (cdF h6 (cdF h7 (cdF h8 (cdF h9 (aE h10 (aE h11 (aE h12 rfl))))))))))))))))) (fun h12=>
 (an (aN 4 (ac (au h12) (cA (Bi (ah g.kids 0)) (hf _ (ay (by omega))) (aN 2 (ac (je (l:=g.kids) (i:=0) (by omega)) (aN 2 (ac h11 (aN 6 (cA (GC g.op) (show g.op=7 by omega) a0)))))))))
 (bE (q13.trans (aE h11 (aY h12)))))))) (fun h11=>have l1:=aW gC (g.kids);have g11:=ne_of_beq_false h11;
 (an (aN 9 (ac (au h11) (aN 6 (cA (GC g.op) (show g.op=7 by omega) a0))))
 (bE (q13.trans (aY h11))))))) (fun h10=>have g10:=ne_of_beq_false h10;
 (an (aN 15 (cA (Rg g.op) (show¬(5<=g.op/\g.op<=7)/\g.op<=127 by omega) a0))
 (bE (q12.trans (aY h10))))))))))))))))))))))))))))))) (fun h1=>have q2:=q0.trans (cdF h1 rfl);
 (an (aN 3 (ac (au h1) (aN 4 (ac (au h0) (a1 a0)))))
 (an a0
 (an a0
 (an (aN 3 (ac (au (show (g.op==0)=false by rw [fO h1];rfl)) (a1 a0)))
 (an (show (g.op==1)=false by rw [fO h1];rfl) (an (a1 a0)
 (an (show (g.op==8)=true by rw [fO h1];rfl) (aP (fun (h2:(zAH g)=true)=>
 (aP (fun (h3:(zBO g)=true)=>
 (an (aN 3 (ac h3 (aN 3 (ac h2 (a1 a0)))))
 (bE (show sG g=(zBI g) from (aE (au h0) (cdF h1 (aE h2 (aE h3 rfl)))))))) (fun h3=>
 (an (aN 2 (ac (au h3) (aN 3 (ac h2 (a1 a0)))))
 (bE (q2.trans (aE h2 (aY h3)))))))) (fun h2=>
 (an (aN 5 (ac (au h2) (a1 a0)))
 (bE (q2.trans (aY h2))))))))))))))))))
 (by kernel_rfl))
theorem pn {n:Nat} (k:Nat) (z:Int) (hz:z=(k:Int)):(((n:Nat):Int)==z)=(n==k):=by
 subst hz
 rw [Bool.eq_iff_iff];simp only [beq_iff_eq];omega
theorem MS {n:Nat}:decide (((n:Nat):Int)>=2)=decide (n>=2):=by rw [Bool.eq_iff_iff];simp only [decide_eq_true_eq];omega
theorem VZ (g:G):qO g=cS g:=by
 obtain ⟨o,n,s,l⟩:=g
 simp only [qO,cS,G.op,G.n,G.name,G.kids,List.length_map,pn 0 0 rfl,pn 1 1 rfl,pn 2 2 rfl,MS,bne]
 generalize (n==0)=b
 generalize (l.length==0)=l0
 generalize (l.length==1)=l1
 generalize (l.length==2)=l2
 generalize decide (l.length>=2)=l3
 generalize iU l=c
 generalize (et (ah l 0)&&et (ah l 1))=r
 cases cP s.data.toList [] with
 |false=>rfl
 |true=>
  simp only [Bool.true_and]
  by_cases h0:o=0
  ·subst h0;cases b<;>first|(simp;done)|(simp;rfl)|rfl
  by_cases h1:o=1
  ·subst h1;cases b<;>first|(simp;done)|(simp;rfl)|rfl
  by_cases h2:o=2
  ·subst h2;cases b<;>first|(simp;done)|(simp;rfl)|rfl
  by_cases h3:o=3
  ·subst h3;cases b<;>first|(simp;done)|(simp;rfl)|rfl
  by_cases h4:o=4
  ·subst h4;cases b<;>first|(simp;done)|(simp;rfl)|rfl
  by_cases h5:o=5
  ·subst h5;cases b<;>first|(simp;done)|(simp;rfl)|rfl
  by_cases h6:o=6
  ·subst h6;cases b<;>first|(simp;done)|(simp;rfl)|rfl
  by_cases h7:o=7
  ·subst h7;cases b<;>first|(simp;done)|(simp;rfl)|rfl
  by_cases h8:o=8
  ·subst h8;cases b<;>first|(simp;done)|(simp;rfl)|rfl
  have e0:(o==0)=false:=by simp [h0]
  have e1:(o==1)=false:=by simp [h1]
  have e2:(o==2)=false:=by simp [h2]
  have e3:(o==3)=false:=by simp [h3]
  have e4:(o==4)=false:=by simp [h4]
  have e5:(o==5)=false:=by simp [h5]
  have e6:(o==6)=false:=by simp [h6]
  have e7:(o==7)=false:=by simp [h7]
  have e8:(o==8)=false:=by simp [h8]
  simp only [e0,e1,e2,e3,e4,e5,e6,e7,e8]
  cases b<;>rfl
theorem V0 (l:List G):(l.length==1&&iU l)=(l.length==1&&cS (ah l 0)):=by
 match l with
 |[]=>rfl
 |[x]=>simp [iU,ah]
 |x::y::l=>simp
theorem Rh (g:G):sG g=cS g:=by
 obtain ⟨o,n,s,l⟩:=g
 simp only [sG,cS,G.op,G.n,G.name,G.kids,List.length_map,pn 0 0 rfl,pn 1 1 rfl,pn 2 2 rfl,MS,bne,V0]
 generalize (n==0)=b
 generalize (l.length==0)=l0
 generalize (l.length==1)=l1
 generalize (l.length==2)=l2
 generalize decide (l.length>=2)=l3
 generalize iU l=c
 generalize cS (ah l 0)=c0
 generalize (et (ah l 0)&&et (ah l 1))=r
 cases cP s.data.toList [] with
 |false=>rfl
 |true=>
  simp only [Bool.true_and]
  by_cases h0:o=0
  ·subst h0;cases b<;>first|(simp;done)|(simp;rfl)|rfl
  by_cases h1:o=1
  ·subst h1;cases b<;>first|(simp;done)|(simp;rfl)|rfl
  by_cases h2:o=2
  ·subst h2;cases b<;>first|(simp;done)|(simp;rfl)|rfl
  by_cases h3:o=3
  ·subst h3;cases b<;>first|(simp;done)|(simp;rfl)|rfl
  by_cases h4:o=4
  ·subst h4;cases b<;>first|(simp;done)|(simp;rfl)|rfl
  by_cases h5:o=5
  ·subst h5;cases b<;>first|(simp;done)|(simp;rfl)|rfl
  by_cases h6:o=6
  ·subst h6;cases b<;>first|(simp;done)|(simp;rfl)|rfl
  by_cases h7:o=7
  ·subst h7;cases b<;>first|(simp;done)|(simp;rfl)|rfl
  by_cases h8:o=8
  ·subst h8;cases b<;>first|(simp;done)|(simp;rfl)|rfl
  have e0:(o==0)=false:=by simp [h0]
  have e1:(o==1)=false:=by simp [h1]
  have e2:(o==2)=false:=by simp [h2]
  have e3:(o==3)=false:=by simp [h3]
  have e4:(o==4)=false:=by simp [h4]
  have e5:(o==5)=false:=by simp [h5]
  have e6:(o==6)=false:=by simp [h6]
  have e7:(o==7)=false:=by simp [h7]
  have e8:(o==8)=false:=by simp [h8]
  simp only [e0,e1,e2,e3,e4,e5,e6,e7,e8]
  cases b<;>rfl
theorem I9: ∀g:G,eS g->ba pg 105 [.ag (gCC g)] [] [] (B (cS g)) []:=G.IW fun o n s l ih hf=>by
 have h:=VU (.mk o n s l) hf.len hf.kids fun u hu=>ih u hu (hf.kids u hu)
 rw [VZ] at h
 exact h
theorem Ja: ∀g:G,eS g->ba pg 100 [.ag (gCC g)] [] [] (B (cS g)) []:=G.IW fun o n s l ih hf=>by
 have h:=VY (.mk o n s l) hf.len hf.kids hf.op.2 fun u hu=>ih u hu (hf.kids u hu)
 rw [Rh] at h
 exact h
def Ri (g:G):b9:=⟨105,[.ag (gCC g)],B (cS g),eS g⟩
theorem Xk (g:G):(Ri g).cd pg:=fun hp=>⟨I9 g hp,by simp [Ri,ae,AV.pure],rfl⟩
def Rk (g:G):b9:=⟨100,[.ag (gCC g)],B (cS g),eS g⟩
theorem Xl (g:G):(Rk g).cd pg:=fun hp=>⟨Ja g hp,by simp [Rk,ae,AV.pure],rfl⟩
def ic99 (g:G):b9:=⟨99,[.ag (gCC g)],I (de g),eS g⟩
theorem gc99 (g:G):(ic99 g).cd pg:=fun hp=>⟨KX g hp,by simp [ic99,ae,AV.pure],rfl⟩
def Rl (g:G):b9:=⟨104,[.ag (gCC g)],I (de g),eS g⟩
theorem Rm (g:G):(Rl g).cd pg:=fun hp=>⟨I3 g hp,by simp [Rl,ae,AV.pure],rfl⟩
def r93 (g:G):Int:=(bif decide ((de g)>64) then 40 else (bif !(cS g) then 40 else 0))
abbrev zBH:GT:=(.r [bT] (.a (.r [.int 0,.k,bF,bF,bF,bT] zD) (.r [.int 0,.k,bT,bT,.int 1,bT,bT] (.br zD zD))))
theorem V1 (g:G) (hf:eS g):ba pg 93 [.ag (gCC g)] [] [] (I (r93 g)) []:=
 bB (fn:=Tryz.f93) (callf:=(bC [Rl g,Ri g] base)) (pu:=aO) (lf:=3000) (l:=[]) (t:=zBH) (bf (.cons (Rm g) rfl (.cons (Xk g) rfl cv.nil)) aw) mixed Tryz.func93 (by kernel_rfl) (show Tryz.f93.body=some (aH 93) by kernel_rfl) (Nat.le_of_ble_eq_true rfl) (az _) rfl (aZ
 (an a0
 (aP (fun (h0:(decide ((de g)>64))=true)=>
 (an (aN 2 (ac (n2 h0) (a1 (cA (Rm g) hf a0))))
 (an a0
 (iE (show r93 g=40 from (cdT h0 rfl)))))) (fun h0=>
 (an (a1 (cA (Xk g) hf (a1 (ac (au h0) (a1 (cA (Rm g) hf a0))))))
 (brP (fun (h1:(!(cS g))=true)=>
 (an a0
 (iE (show r93 g=40 from (cdF h0 (cdT h1 rfl)))))) (fun h1=>
 (an a0
 (iE (show r93 g=0 from (cdF h0 (cdF h1 rfl)))))))))))
 (by kernel_rfl))
def r81 (g:G):Int:=(bif decide ((de g)>64) then 40 else (bif !(cS g) then 40 else 0))
theorem V2 (g:G) (hf:eS g):ba pg 81 [.ag (gCC g)] [] [] (I (r81 g)) []:=
 bB (fn:=Tryz.f81) (callf:=(bC [ic99 g,Rk g] base)) (pu:=aO) (lf:=3000) (l:=[]) (t:=zBH) (bf (.cons (gc99 g) rfl (.cons (Xl g) rfl cv.nil)) aw) mixed Tryz.func81 (by kernel_rfl) (show Tryz.f81.body=some (aH 81) by kernel_rfl) (Nat.le_of_ble_eq_true rfl) (az _) rfl (aZ
 (an a0
 (aP (fun (h0:(decide ((de g)>64))=true)=>
 (an (aN 2 (ac (n2 h0) (a1 (cA (gc99 g) hf a0))))
 (an a0
 (iE (show r81 g=40 from (cdT h0 rfl)))))) (fun h0=>
 (an (a1 (cA (Xl g) hf (a1 (ac (au h0) (a1 (cA (gc99 g) hf a0))))))
 (brP (fun (h1:(!(cS g))=true)=>
 (an a0
 (iE (show r81 g=40 from (cdF h0 (cdT h1 rfl)))))) (fun h1=>
 (an a0
 (iE (show r81 g=0 from (cdF h0 (cdF h1 rfl)))))))))))
 (by kernel_rfl))
def i82 (g:G) (o:Int):b9:=⟨82,[.pf (gCC g),I8 o],B (dZ o g),True⟩
theorem gd82 {g:G} {o:Int} (h:ba pg 82 [.pf (gCC g),I8 o] [] [] (B (dZ o g)) []):(i82 g o).cd pg:=fun _=>⟨h,by simp [i82,ae,AV.pure],rfl⟩
def r102 (g:G) (o:Int):Bool:=dZ o g
theorem Rn (g:G) (o:Int) (hK:ba pg 82 [.pf (gCC g),I8 o] [] [] (B (dZ o g)) []):ba pg 102 [.ag (gCC g),.pf [I8 o]] [] [] (B (r102 g o)) []:=
 bB (fn:=Tryz.f102) (callf:=(bC [i82 g o] base)) (pu:=aO) (lf:=3000) (l:=[]) (t:=zBq) (bf (.cons (gd82 hK) rfl cv.nil) aw) mixed Tryz.func102 (by kernel_rfl) (show Tryz.f102.body=some (aH 102) by kernel_rfl) (Nat.le_of_ble_eq_true rfl) (az _) rfl (aZ
 (an a0
 (an (cA (gd82 hK) trivial a0)
 (bE (show r102 g o=(dZ o g) from rfl))))
 (by kernel_rfl))
def MT (l:List G) (o:Int) (j:Nat):b9:=⟨102,[.ag (gCC (ah l j)),.pf [I8 o]],B (dZ o (ah l j)),j<l.length⟩
theorem Xm (l:List G) (o:Int) (j:Nat) (hK: ∀u∈l,ba pg 82 [.pf (gCC u),I8 o] [] [] (B (dZ o u)) []):(MT l o j).cd pg:=fun hp=>⟨Rn _ o (hK _ (ay hp)),by simp [MT,ae,AV.pure],rfl⟩
def sH:Code:=bV 0 (aH 114)
def ku (l:List G) (o:Int) (i0:Nat):Am.Loc:=[(0,.sl 4 (zCN l)),(1,.fn (.func 102) [] [.pf [I8 o]]),(7,I (length (zCN l):Int)),(8,I (i0:Int))]
def po (_:List G) (_:Int) (_:Nat):List Ob:=[]
def iH (l:List G) (o:Int) (i0:Nat):Bool:=(dZ o (ah l i0))
def pq (l:List G) (o:Int):Bool:=dh (length l) (iH l o)
def nR (_:List G) (_:Int) (i0:Nat):Am.Loc:=[(4,I (i0:Int))]
def Bv (_:List G) (_:Int) (_:Nat):List Ob:=[]
def jQ (_:List G) (_:Int):Am.Loc:=[]
def nS (_:List G) (_:Int):List Ob:=[]
def sI (l:List G) (o:Int):KB:=⟨ku l o 0,po l o 0,pq l o,.ret,nR l o (cc (zBu l) (iH l o)),Bv l o (cc (zBu l) (iH l o)),.normal,jQ l o,nS l o,True⟩
def pr (l:List G) (o:Int) (i0:Nat):List bj:=[htW (iH l o i0) .ret (nR l o i0) za (Bv l o i0),nxW (iH l o i0) (ku l o (i0+1)) (po l o (i0+1)) (ku l o (i0+1)) za (po l o (i0+1))]
def MU (l:List G) (_:Int) (i0:Nat):GT:=(.r [.k,bT] (.yes (.r [bT] (.r [.row (gCC (ah l i0)),.int 0,bT] (.br (.r [bT] (.pick 0)) (.r [.int ↑(i0+1),bT] (.pick 1)))))))
theorem Ro (l:List G) (o:Int) (i0:Nat) (ls:length l<=9223372036854775807) (hK: ∀u∈l,ba pg 82 [.pf (gCC u),I8 o] [] [] (B (dZ o u)) []) (hx0:i0<(length l)):vcC pg 19 (bC [MT l o i0] base) aO 3000 (kbL []) sH (bu (ku l o i0)) (bA (po l o i0)) 0 (bQ (pr l o i0)) (MU l o i0):=
 have l1:=aW gC (l);have hb:(zBp i0 l)=true:=decide_eq_true (by omega);
 aZ (an (a1 a0)
 (an hb (an a0
 (an (cA (Xm l o i0 hK) (show i0<length l by omega) (ac (je (l:=l) (i:=i0) (by omega)) a0))
 (brP (fun (h1:(dZ o (ah l i0))=true)=>
 (an a0
 (lf (wy (pr l o i0) 0) 0 (show iH l o i0=true from h1)))) (fun h1=>
 (an (ac (dwr (z:= ↑(i0+1)) (by omega) (by omega)) a0)
 (lf (wy (pr l o i0) 1) 0 ⟨(show iH l o i0=false from h1),rfl,rfl⟩))))))))
 (by kernel_rfl)
theorem Rq (l:List G) (o:Int) (_:length l<=9223372036854775807) (_: ∀u∈l,ba pg 82 [.pf (gCC u),I8 o] [] [] (B (dZ o u)) []):vcC pg 19 base aO 3000 (kbL []) sH (bu (ku l o (zBu l))) (bA (po l o (zBu l))) 0 (bQ [⟨True,(.exit 0),jQ l o,range 0,nS l o⟩]) zE:=
 have l1:=aW gC (l);have hb:(zAy l)=false:=decide_eq_false (by omega);
 aZ (an (a1 a0)
 (an hb (lf (wy [⟨True,(.exit 0),jQ l o,range 0,nS l o⟩] 0) 0 trivial)))
 (by kernel_rfl)
theorem KY (l:List G) (o:Int) (i0:Nat):(pr l o i0).all zr=true:=by refine (aF (aQ rfl rfl rfl ?_ rfl) (aF (aQ rfl rfl rfl ?_ rfl) bD))<;>simp (maxDischargeDepth:=9) [nxW,htW,ku,nR,plS,AV.pure,ae]
theorem KZ (l:List G) (o:Int):bj.b8 0 ⟨True,(.exit 0),jQ l o,range 0,nS l o⟩=true:=(aQ rfl rfl rfl rfl rfl)
theorem K0 (l:List G) (o:Int) (ls:length l<=9223372036854775807) (hK: ∀u∈l,ba pg 82 [.pf (gCC u),I8 o] [] [] (B (dZ o u)) []):dg pg 19 0 0 (.loop sH) (sI l o):=
 bZ (fun _=>e9 (id:=0) (m:=length l) (t:=iH l o) (xr:= .ret) (xn:=(.exit 0)) (Lr:=nR l o) (Lx:=jQ l o) (obr:=Bv l o) (obx:=nS l o) (V:=fun i0=>vcC pg 19 (bC [MT l o i0] base) aO 3000 (kbL []) sH) (ku l o) (po l o) 0 (pr l o) (MU l o) _ _ (fun i0 hx0=>aS (bf (.cons (Xm l o i0 hK) rfl cv.nil) aw) mixed (az _)) (aS aw mixed (az _)) (fun e=>by cases e) (fun e=>by cases e) (fun _=>rfl) (fun i0 hx0=>Ro l o i0 ls hK hx0) (fun i0 _=>KY l o i0) (fun i0 _=>show∀ww∈pr l o i0,cy _ _ _ _ _ _ ww from (aG da (aG cg bG))) (Rq l o ls hK) (KZ l o)) (fun h=>h) (fun h=>h)
def wL (l:List G) (o:Int):Int:=(bif pq l o then (((cc (length l) (iH l o)):Nat):Int) else (-1))
theorem qP:dB [0] (aH 114)=[(0,.loop sH)]:=by kernel_rfl
theorem MV (l:List G) (o:Int) (ls:length l<=9223372036854775807) (hK: ∀u∈l,ba pg 82 [.pf (gCC u),I8 o] [] [] (B (dZ o u)) []):ba pg 114 [.sl 4 (zCN l),.fn (.func 102) [] [.pf [I8 o]]] [] [] (I (wL l o)) []:=
 bB (fn:=Tryz.f114) (callf:=base) (pu:=aO) (lf:=3000) (l:=[(0,sI l o)]) (t:=zh) aw mixed Tryz.func114 (by kernel_rfl) (show Tryz.f114.body=some (aH 114) by kernel_rfl) (Nat.le_of_ble_eq_true rfl) (bO (l:=[(0,sI l o)]) qP (aV (K0 l o ls hK) rfl bn) rfl) rfl (aZ
 (an a0
 (an a0
 (an (kbT (sI l o) trivial) (brP (fun (h0:(pq l o)=true)=>
 (iE (show wL l o=(((cc (length l) (iH l o)):Nat):Int) from (cdT h0 rfl)))) (fun h0=>
 (an a0
 (iE (show wL l o=(-1) from (cdF h0 rfl)))))))))
 (by kernel_rfl))
def Rr (l:List G) (o:Int):b9:=⟨114,[.sl 4 (l.map gC),.fn (.func 102) [] [.pf [I8 o]]],I (wL l o),True⟩
theorem Rt {l:List G} {o:Int} (h:ba pg 114 [.sl 4 (l.map gC),.fn (.func 102) [] [.pf [I8 o]]] [] [] (I (wL l o)) []):(Rr l o).cd pg:=fun _=>⟨h,by simp [Rr,ae,AV.pure],rfl⟩
def MW (l:List G) (o:Int):Bool:=decide ((wL l o)>=0)
theorem GD (l:List G) (o:Int) (ls:length l<=9223372036854775807) (hK: ∀u∈l,ba pg 82 [.pf (gCC u),I8 o] [] [] (B (dZ o u)) []):ba pg 101 [.sl 4 (zCN l),.fn (.func 102) [] [.pf [I8 o]]] [] [] (B (MW l o)) []:=
 bB (fn:=Tryz.f101) (callf:=(bC [Rr l o] base)) (pu:=aO) (lf:=3000) (l:=[]) (t:=zBG) (bf (.cons (Rt (MV l o ls hK)) rfl cv.nil) aw) mixed Tryz.func101 (by kernel_rfl) (show Tryz.f101.body=some (aH 101) by kernel_rfl) (Nat.le_of_ble_eq_true rfl) (az _) rfl (aZ
 (an a0
 (an (a1 (cA (Rt (MV l o ls hK)) trivial a0))
 (bE (show MW l o=(decide ((wL l o)>=0)) from rfl))))
 (by kernel_rfl))
theorem Ru (l:List G) (o:Int):MW l o=kL o l:=by
 have h2:pq l o=l.any (dZ o):=jx (dZ o) l
 unfold MW wL
 rw [h2,Bg]
 cases l.any (dZ o) with
 |false=>rfl
 |true=>simp only [cond_true,decide_eq_true_eq];omega
def MX (l:List G) (o:Int):b9:=⟨101,[.sl 4 (l.map gC),.fn (.func 102) [] [.pf [I8 o]]],B (kL o l),True⟩
theorem GF {l:List G} {o:Int} (ls:l.length<=9223372036854775807) (hK: ∀u∈l,ba pg 82 [.pf (gCC u),I8 o] [] [] (B (dZ o u)) []):(MX l o).cd pg:=fun _=>⟨by have:=GD l o ls hK;rw [Ru] at this;exact this,by simp [MX,ae,AV.pure],rfl⟩
def r82 (g:G) (o:Int):Bool:=((g.op==o)||kL o g.kids)
abbrev zBY:GT:=(.r [bT] (.a (.r zf .nil) (.r (.k::uTT 6 [.int 0,bT]) .nil)))
theorem V3 (g:G) (o:Int) (ls:length g.kids<=9223372036854775807) (hK: ∀u∈G.kids g,ba pg 82 [.pf (gCC u),I8 o] [] [] (B (dZ o u)) []):ba pg 82 [.pf (gCC g),I8 o] [] [] (B (r82 g o)) []:=
 bB (fn:=Tryz.f82) (callf:=(bC [MX g.kids o] base)) (pu:=aO) (lf:=3000) (l:=[]) (t:=zBY) (bf (.cons (GF ls hK) rfl cv.nil) aw) mixed Tryz.func82 (by kernel_rfl) (show Tryz.f82.body=some (aH 82) by kernel_rfl) (Nat.le_of_ble_eq_true rfl) (az _) rfl (aZ
 (an a0
 (aP (fun (h0:(g.op==o)=true)=>
 (an (aN 5 (ac (n2 h0) (a1 a0)))
 (bE (show r82 g o=true from (orT h0))))) (fun h0=>
 (an (cA (GF ls hK) trivial (aN 5 (ac (au h0) (a1 a0))))
 (bE (show r82 g o=(kL o g.kids) from (orF h0 rfl)))))))
 (by kernel_rfl))
theorem wM (o:Int): ∀g:G,eS g->ba pg 82 [.pf (gCC g),I8 o] [] [] (B (dZ o g)) []:=G.IW fun o' n s l ih hf=>by
 have h:=V3 (.mk o' n s l) o hf.len fun u hu=>ih u hu (hf.kids u hu)
 have e:r82 (.mk o' n s l) o=dZ o (.mk o' n s l):=by simp only [r82,dZ];rfl
 rw [<-e];exact h
def r67 (n:Net) (s r:Int):Bool:=((decide (s>=0))&&((decide (s<(length (map ak n.aa):Int)))&&(aB n.aa s).aK==r))
theorem of67 (n:Net) (s r:Int):ba pg 67 [.ag (aR n),I s,I r] [] [] (B (r67 n s r)) []:=
 bB (fn:=Tryz.f67) (callf:=base) (pu:=aO) (lf:=3000) (l:=[]) (t:=(.r [bT] (.a (.a (.r (.k::uTT 5 (.k::uTT 4 (.cC (s).toNat (ak (aB n.aa s))::uTT 4 [.k,bT]))) .nil) (.r (.k::uTT 5 (.k::uFF 8 [bT])) .nil)) (.r (.k::uFF 13 [bT]) .nil)))) aw mixed Tryz.func67 (by kernel_rfl) (show Tryz.f67.body=some (aH 67) by kernel_rfl) (Nat.le_of_ble_eq_true rfl) (az _) rfl (aZ
 (an a0
 (aP (fun (h0:(decide (s>=0))=true)=>have g0:=of_decide_eq_true h0;
 (aP (fun (h1:(decide (s<(length (map ak n.aa):Int)))=true)=>have l1:=aW ak (n.aa);have g1:=of_decide_eq_true h1;
 (an (aN 5 (ac (bK (f:=ak) (l:=n.aa) (s:=s) (decide_eq_true (by omega)) (decide_eq_true (by omega))) (aN 3 (ac h1 (aN 5 (ac h0 (a1 a0)))))))
 (bE (show r67 n s r=((aB n.aa s).aK==r) from (aE h0 (aE h1 rfl)))))) (fun h1=>
 (an (aN 7 (ac (au h1) (aN 5 (ac h0 (a1 a0)))))
 (bE (show r67 n s r=false from (aE h0 (aY h1)))))))) (fun h0=>
 (an (aN 12 (ac (au h0) (a1 a0)))
 (bE (show r67 n s r=false from (aY h0)))))))
 (by kernel_rfl))
def r62 (n:Net) (s r:Int):Bool:=((decide (s>=0))&&((decide (s<(length (map ak n.aa):Int)))&&(aB n.aa s).aK==r))
theorem of62 (n:Net) (s r:Int):ba pg 62 [.pf (aR n),I s,I r] [] [] (B (r62 n s r)) []:=
 bB (fn:=Tryz.f62) (callf:=base) (pu:=aO) (lf:=3000) (l:=[]) (t:=(.r [bT] (.a (.a (.r (.k::uTT 7 (.k::uTT 6 (.cC (s).toNat (ak (aB n.aa s))::uTT 4 [.k,bT]))) .nil) (.r (.k::uTT 7 (.k::uFF 10 [bT])) .nil)) (.r (.k::uFF 17 [bT]) .nil)))) aw mixed Tryz.func62 (by kernel_rfl) (show Tryz.f62.body=some (aH 62) by kernel_rfl) (Nat.le_of_ble_eq_true rfl) (az _) rfl (aZ
 (an a0
 (aP (fun (h0:(decide (s>=0))=true)=>have g0:=of_decide_eq_true h0;
 (aP (fun (h1:(decide (s<(length (map ak n.aa):Int)))=true)=>have l1:=aW ak (n.aa);have g1:=of_decide_eq_true h1;
 (an (aN 5 (ac (bK (f:=ak) (l:=n.aa) (s:=s) (decide_eq_true (by omega)) (decide_eq_true (by omega))) (aN 5 (ac h1 (aN 7 (ac h0 (a1 a0)))))))
 (bE (show r62 n s r=((aB n.aa s).aK==r) from (aE h0 (aE h1 rfl)))))) (fun h1=>
 (an (aN 9 (ac (au h1) (aN 7 (ac h0 (a1 a0)))))
 (bE (show r62 n s r=false from (aE h0 (aY h1)))))))) (fun h0=>
 (an (aN 16 (ac (au h0) (a1 a0)))
 (bE (show r62 n s r=false from (aY h0)))))))
 (by kernel_rfl))
def r92 (g:G):Bool:=((g.op==0)&&((g.n==0)&&((cP (Array.toList (ByteArray.data g.name)) [])&&(length (map gC g.kids):Int)==0)))
abbrev zBr:GT:=(.r (.k::bT::bT::bT::.k::uFF 7 [bT]) .nil)
theorem Yt (g:G):ba pg 92 [.ag (gCC g)] [] [] (B (r92 g)) []:=
 bB (fn:=Tryz.f92) (callf:=base) (pu:=aO) (lf:=3000) (l:=[]) (t:=(.r [bT] (.a (.a (.a (.r (.k::bT::bT::bT::.k::bT::bT::bT::.k::uTT 4 [.k,bT]) .nil) (.r (.k::bT::bT::bT::.k::bT::bT::bT::.k::uFF 4 [bT]) .nil)) zBr) (.r zAq .nil)))) aw mixed Tryz.func92 (by kernel_rfl) (show Tryz.f92.body=some (aH 92) by kernel_rfl) (Nat.le_of_ble_eq_true rfl) (az _) rfl (aZ
 (an a0
 (aP (fun (h0:(g.op==0)=true)=>
 (aP (fun (h1:(g.n==0)=true)=>
 (aP (fun (h2:(cP (Array.toList (ByteArray.data g.name)) [])=true)=>
 (an (aN 4 (ac h2 (aN 3 (ac h1 (aN 3 (ac h0 (a1 a0)))))))
 (bE (show r92 g=(zAH g) from (aE h0 (aE h1 (aE h2 rfl))))))) (fun h2=>
 (an (aN 3 (ac (au h2) (aN 3 (ac h1 (aN 3 (ac h0 (a1 a0)))))))
 (bE (show r92 g=false from (aE h0 (aE h1 (aY h2))))))))) (fun h1=>
 (an (aN 6 (ac (au h1) (aN 3 (ac h0 (a1 a0)))))
 (bE (show r92 g=false from (aE h0 (aY h1)))))))) (fun h0=>
 (an (aN 9 (ac (au h0) (a1 a0)))
 (bE (show r92 g=false from (aY h0)))))))
 (by kernel_rfl))
def r95 (n:Net) (a:Int×Int):Bool:=(bif (a).1==2 then ((decide ((a).2>=1))&&decide ((a).2<=(length (map bx n.types):Int))) else (bif (a).1==3 then ((decide ((a).2>=0))&&decide ((a).2<(length (map bx n.cE):Int))) else (bif (a).1==4 then ((decide ((a).2>=0))&&decide ((a).2<(length (map bx n.cH):Int))) else (bif (a).1==5 then ((decide ((a).2>=0))&&decide ((a).2<(length (map bx n.cH):Int))) else (bif (a).1==0 then (a).2==0 else (bif (a).1==1 then (a).2==0 else (((a).1==6)&&(a).2==0)))))))
abbrev zAE:GT:=(.a (.r (.k::uTT 6 [.k,bT]) .nil) (.r zf .nil))
abbrev zBA (a:Int×Int) (n:Net):=(decide ((a).2<(length (map bx n.cH):Int)))
abbrev zCJ (a:Int×Int):=(decide ((a).2>=0))
theorem act95 (n:Net) (a:Int×Int):ba pg 95 [.ag (aR n),.ag (fG a)] [] [] (B (r95 n a)) []:=
 bB (fn:=Tryz.f95) (callf:=base) (pu:=aO) (lf:=3000) (l:=[]) (t:=(.r [bT] (.r [.k,bT] (.br zAE (.r [.k,bT] (.br zAE (.a (.r zAO zAE) (.r zAB (.br zAE (.a (.r (.k::uFF 6 [bT,bT,bT,.k,bT]) .nil) (.a (.r [.k,bT,bT,bT,.k,bF,bF,bF,bT,bT,bT,.k,bT] .nil) (.a (.r [.k,bT,bT,bT,.k,bT,bT,bT,.k,bT,bT,bT,.k,bT] .nil) (.r [.k,bT,bT,bT,.k,bT,bT,bT,.k,bF,bF,bF,bT] .nil))))))))))))) aw mixed Tryz.func95 (by kernel_rfl) (show Tryz.f95.body=some (aH 95) by kernel_rfl) (Nat.le_of_ble_eq_true rfl) (az _) rfl (aZ
 (an a0
 (an (a1 a0)
 (brP (fun (h0:((a).1==2)=true)=>
 (aP (fun (h1:(decide ((a).2>=1))=true)=>
 (an (aN 6 (ac h1 (a1 a0)))
 (bE (show r95 n a=(decide ((a).2<=(length (map bx n.types):Int))) from (cdT h0 (aE h1 rfl)))))) (fun h1=>
 (an (aN 5 (ac (au h1) (a1 a0)))
 (bE (show r95 n a=false from (cdT h0 (aY h1)))))))) (fun h0=>have q0:=(cdF h0 rfl:r95 n a=_);
 (an (a1 a0)
 (brP (fun (h1:((a).1==3)=true)=>
 (aP (fun (h2:(zCJ a)=true)=>
 (an (aN 6 (ac h2 (a1 a0)))
 (bE (show r95 n a=(decide ((a).2<(length (map bx n.cE):Int))) from (cdF h0 (cdT h1 (aE h2 rfl))))))) (fun h2=>
 (an (aN 5 (ac (au h2) (a1 a0)))
 (bE (q0.trans (cdT h1 (aY h2)))))))) (fun h1=>have q1:=q0.trans (cdF h1 rfl);
 (aP (fun (h2:((a).1==4)=true)=>
 (an (aN 2 (ac (n2 h2) (a1 a0)))
 (aP (fun (h3:(zCJ a)=true)=>
 (an (aN 6 (ac h3 (a1 a0)))
 (bE (show r95 n a=(zBA a n) from (cdF h0 (cdF h1 (cdT h2 (aE h3 rfl)))))))) (fun h3=>
 (an (aN 5 (ac (au h3) (a1 a0)))
 (bE (q1.trans (cdT h2 (aY h3))))))))) (fun h2=>have q2:=q1.trans (cdF h2 rfl);
 (an (aN 3 (ac (au h2) (a1 a0)))
 (brP (fun (h3:((a).1==5)=true)=>
 (aP (fun (h4:(zCJ a)=true)=>
 (an (aN 6 (ac h4 (a1 a0)))
 (bE (show r95 n a=(zBA a n) from (cdF h0 (cdF h1 (cdF h2 (cdT h3 (aE h4 rfl))))))))) (fun h4=>
 (an (aN 5 (ac (au h4) (a1 a0)))
 (bE (q2.trans (cdT h3 (aY h4)))))))) (fun h3=>
 (aP (fun (h4:((a).1==0)=true)=>
 (an (aN 9 (ac (n2 h4) (a1 a0)))
 (bE (show r95 n a=((a).2==0) from (cdF h0 (cdF h1 (cdF h2 (cdF h3 (cdT h4 rfl))))))))) (fun h4=>
 (aP (fun (h5:((a).1==1)=true)=>
 (an (aN 6 (ac (n2 h5) (aN 3 (ac (au h4) (a1 a0)))))
 (bE (show r95 n a=((a).2==0) from (cdF h0 (cdF h1 (cdF h2 (cdF h3 (cdF h4 (cdT h5 rfl)))))))))) (fun h5=>
 (aP (fun (h6:((a).1==6)=true)=>
 (an (aN 3 (ac h6 (aN 3 (ac (au h5) (aN 3 (ac (au h4) (a1 a0)))))))
 (bE (show r95 n a=((a).2==0) from (cdF h0 (cdF h1 (cdF h2 (cdF h3 (cdF h4 (cdF h5 (aE h6 rfl))))))))))) (fun h6=>
 (an (aN 2 (ac (au h6) (aN 3 (ac (au h5) (aN 3 (ac (au h4) (a1 a0)))))))
 (bE (q2.trans (cdF h3 (cdF h4 (cdF h5 (aY h6)))))))))))))))))))))))))
 (by kernel_rfl))
def r89 (n:Net) (a:Int×Int):Bool:=(bif (a).1==2 then ((decide ((a).2>=1))&&decide ((a).2<=(length (map bx n.types):Int))) else (bif (a).1==3 then ((decide ((a).2>=0))&&decide ((a).2<(length (map bx n.cE):Int))) else (bif (a).1==4 then ((decide ((a).2>=0))&&decide ((a).2<(length (map bx n.cH):Int))) else (bif (a).1==5 then ((decide ((a).2>=0))&&decide ((a).2<(length (map bx n.cH):Int))) else (bif (a).1==0 then (a).2==0 else (bif (a).1==1 then (a).2==0 else (((a).1==6)&&(a).2==0)))))))
abbrev zx:GT:=(.a (.r (.k::uTT 8 [.k,bT]) .nil) (.r zBf .nil))
theorem act89 (n:Net) (a:Int×Int):ba pg 89 [.pf (aR n),.ag (fG a)] [] [] (B (r89 n a)) []:=
 bB (fn:=Tryz.f89) (callf:=base) (pu:=aO) (lf:=3000) (l:=[]) (t:=(.r [bT] (.r [bT] (.r [.k,bT] (.br zx (.r [.k,bT] (.br zx (.r [.k,bT] (.br zx (.r [.k,bT] (.br zx (.r [.k,bT] (.br zBK (.r [.k,bT] (.br zBK (.r [.k,bT] (.br zBK zD))))))))))))))))) aw mixed Tryz.func89 (by kernel_rfl) (show Tryz.f89.body=some (aH 89) by kernel_rfl) (Nat.le_of_ble_eq_true rfl) (az _) rfl (aZ
 (an a0
 (an a0
 (an (a1 a0)
 (brP (fun (h0:((a).1==2)=true)=>
 (aP (fun (h1:(decide ((a).2>=1))=true)=>
 (an (aN 8 (ac h1 (a1 a0)))
 (bE (show r89 n a=(decide ((a).2<=(length (map bx n.types):Int))) from (cdT h0 (aE h1 rfl)))))) (fun h1=>
 (an (aN 7 (ac (au h1) (a1 a0)))
 (bE (show r89 n a=false from (cdT h0 (aY h1)))))))) (fun h0=>have q0:=(cdF h0 rfl:r89 n a=_);
 (an (a1 a0)
 (brP (fun (h1:((a).1==3)=true)=>
 (aP (fun (h2:(zCJ a)=true)=>
 (an (aN 8 (ac h2 (a1 a0)))
 (bE (show r89 n a=(decide ((a).2<(length (map bx n.cE):Int))) from (cdF h0 (cdT h1 (aE h2 rfl))))))) (fun h2=>
 (an (aN 7 (ac (au h2) (a1 a0)))
 (bE (q0.trans (cdT h1 (aY h2)))))))) (fun h1=>have q1:=q0.trans (cdF h1 rfl);
 (an (a1 a0)
 (brP (fun (h2:((a).1==4)=true)=>
 (aP (fun (h3:(zCJ a)=true)=>
 (an (aN 8 (ac h3 (a1 a0)))
 (bE (show r89 n a=(zBA a n) from (cdF h0 (cdF h1 (cdT h2 (aE h3 rfl)))))))) (fun h3=>
 (an (aN 7 (ac (au h3) (a1 a0)))
 (bE (q1.trans (cdT h2 (aY h3)))))))) (fun h2=>have q2:=q1.trans (cdF h2 rfl);
 (an (a1 a0)
 (brP (fun (h3:((a).1==5)=true)=>
 (aP (fun (h4:(zCJ a)=true)=>
 (an (aN 8 (ac h4 (a1 a0)))
 (bE (show r89 n a=(zBA a n) from (cdF h0 (cdF h1 (cdF h2 (cdT h3 (aE h4 rfl))))))))) (fun h4=>
 (an (aN 7 (ac (au h4) (a1 a0)))
 (bE (q2.trans (cdT h3 (aY h4)))))))) (fun h3=>
 (an (a1 a0)
 (brP (fun (h4:((a).1==0)=true)=>
 (an (a1 a0)
 (bE (show r89 n a=((a).2==0) from (cdF h0 (cdF h1 (cdF h2 (cdF h3 (cdT h4 rfl))))))))) (fun h4=>
 (an (a1 a0)
 (brP (fun (h5:((a).1==1)=true)=>
 (an (a1 a0)
 (bE (show r89 n a=((a).2==0) from (cdF h0 (cdF h1 (cdF h2 (cdF h3 (cdF h4 (cdT h5 rfl)))))))))) (fun h5=>
 (an (a1 a0)
 (brP (fun (h6:((a).1==6)=true)=>
 (an (a1 a0)
 (bE (show r89 n a=((a).2==0) from (cdF h0 (cdF h1 (cdF h2 (cdF h3 (cdF h4 (cdF h5 (aE h6 rfl))))))))))) (fun h6=>
 (an a0
 (bE (q2.trans (cdF h3 (cdF h4 (cdF h5 (aY h6))))))))))))))))))))))))))))))
 (by kernel_rfl))
def Jb:Code:=bV 0 (aH 64)
def wN (s:List (Int×Int)) (i0:Nat):Am.Loc:=[(0,.sl 2 (map bo s)),(5,.sl 2 (map bo s)),(6,I (length (map bo s):Int)),(7,I (i0:Int))]
def EJ (_:List (Int×Int)) (_:Nat):List Ob:=[]
def nT (s:List (Int×Int)) (i0:Nat):Bool:=((decide ((((ah s i0)).1)>(((ah s i0)).2)))||((decide ((i0:Int)>0))&&(decide ((IntKind.wrap IntKind.i64 (((ah s i0)).1))<=(IntKind.wrap IntKind.i64 (IntKind.wrap IntKind.i64 (((ah s (i0-1))).2)+1))))))
def yy (s:List (Int×Int)):Bool:=dh (length s) (nT s)
def Bw (_:List (Int×Int)) (_:Nat):Am.Loc:=[(2,I 2)]
def K1 (_:List (Int×Int)) (_:Nat):List Ob:=[]
def qQ (_:List (Int×Int)):Am.Loc:=[]
def Bx (_:List (Int×Int)):List Ob:=[]
def GG (s:List (Int×Int)):KB:=⟨wN s 0,EJ s 0,yy s,.ret,Bw s (cc (length s) (nT s)),K1 s (cc (length s) (nT s)),.normal,qQ s,Bx s,True⟩
def wO (s:List (Int×Int)) (i0:Nat):List bj:=[htW (nT s i0) .ret (Bw s i0) za (K1 s i0),nxW (nT s i0) (wN s (i0+1)) (EJ s (i0+1)) (wN s (i0+1)) za (EJ s (i0+1))]
def Xn (s:List (Int×Int)) (i0:Nat):GT:=(.r [.k,bT] (.yes (.r [.row (bo (ah s i0)),bT] (.a (.r (.k::uFF 16 [bT]) (.r [bT] (.pick 0))) (.a (.r (.k::bT::bT::.k::uTT 7 (.int ((i0-1:Nat):Int)::bT::.row (bo (ah s (i0-1)))::uTT 4 [.int (IntKind.wrap IntKind.i64 (IntKind.wrap IntKind.i64 (((ah s (i0-1))).2)+1)),bT,.k,bT,bT])) (.br (.r [bT] (.pick 0)) (.r [.int ↑(i0+1),bT] (.pick 1)))) (.r (.k::bT::bT::.k::bT::uFF 12 [bT,bT]) (.r [.int ↑(i0+1),bT] (.pick 1))))))))
theorem Yu (s:List (Int×Int)) (i0:Nat) (ls:length s<=9223372036854775807) (hx0:i0<(length s)):vcC pg 36 base aO 3000 (kbL []) Jb (bu (wN s i0)) (bA (EJ s i0)) 0 (bQ (wO s i0)) (Xn s i0):=
 have l1:=aW bo (s);have hb:(decide ((i0:Int)<(length (map bo s):Int)))=true:=decide_eq_true (by omega);
 aZ (an (a1 a0)
 (an hb (an (ac (bR bo (l:=s) (i:=i0) (by omega)) a0)
 (aP (fun (h1:(decide ((((ah s i0)).1)>(((ah s i0)).2)))=true)=>
 (an (aN 15 (ac (n2 h1) (a1 a0)))
 (an a0
 (lf (wy (wO s i0) 0) 1 (show nT s i0=true from (orT h1)))))) (fun h1=>have q0:=(orF h1 rfl:nT s i0=_);have g1:=of_decide_eq_false h1;
 (aP (fun (h2:(decide ((i0:Int)>0))=true)=>have q1:=q0.trans (aE h2 rfl);have g2:=of_decide_eq_true h2;
 (an (aN 3 (ac (fM (IntKind.wrap IntKind.i64 (IntKind.wrap IntKind.i64 (((ah s (i0-1))).2)+1))) (aN 4 (ac (bR bo (l:=s) (i:=i0-1) (by omega)) (a1 (ac (dws (k:=i0) (by omega) (by omega)) (aN 5 (ac h2 (aN 3 (ac (au h1) (a1 a0)))))))))))
 (brP (fun (h3:(decide ((IntKind.wrap IntKind.i64 (((ah s i0)).1))<=(IntKind.wrap IntKind.i64 (IntKind.wrap IntKind.i64 (((ah s (i0-1))).2)+1))))=true)=>
 (an a0
 (lf (wy (wO s i0) 0) 1 (q1.trans h3)))) (fun h3=>have g3:=of_decide_eq_false h3;
 (an (ac (dwr (z:= ↑(i0+1)) (by omega) (by omega)) a0)
 (lf (wy (wO s i0) 1) 1 ⟨(q1.trans h3),rfl,rfl⟩)))))) (fun h2=>have g2:=of_decide_eq_false h2;
 (an (aN 12 (ac (au h2) (aN 3 (ac (au h1) (a1 a0)))))
 (an (ac (dwr (z:= ↑(i0+1)) (by omega) (by omega)) a0)
 (lf (wy (wO s i0) 1) 1 ⟨(q0.trans (aY h2)),rfl,rfl⟩))))))))))
 (by kernel_rfl)
abbrev zCK (s:List (Int×Int)):=(decide ((((length s):Nat):Int)<(length (map bo s):Int)))
theorem Yv (s:List (Int×Int)) (_:length s<=9223372036854775807):vcC pg 36 base aO 3000 (kbL []) Jb (bu (wN s (length s))) (bA (EJ s (length s))) 0 (bQ [⟨True,(.exit 0),qQ s,range 0,Bx s⟩]) zE:=
 have l1:=aW bo (s);have hb:(zCK s)=false:=decide_eq_false (by omega);
 aZ (an (a1 a0)
 (an hb (lf (wy [⟨True,(.exit 0),qQ s,range 0,Bx s⟩] 0) 0 trivial)))
 (by kernel_rfl)
theorem Rv (s:List (Int×Int)) (i0:Nat):(wO s i0).all zr=true:=by refine (aF (aQ rfl rfl rfl ?_ rfl) (aF (aQ rfl rfl rfl ?_ rfl) bD))<;>simp (maxDischargeDepth:=9) [nxW,htW,wN,Bw,plS,AV.pure]
theorem Rw (s:List (Int×Int)):bj.b8 0 ⟨True,(.exit 0),qQ s,range 0,Bx s⟩=true:=(aQ rfl rfl rfl rfl rfl)
theorem Rx (s:List (Int×Int)) (ls:length s<=9223372036854775807):dg pg 36 0 0 (.loop Jb) (GG s):=
 bZ (fun _=>e9 (id:=0) (m:=length s) (t:=nT s) (xr:= .ret) (xn:=(.exit 0)) (Lr:=Bw s) (Lx:=qQ s) (obr:=K1 s) (obx:=Bx s) (V:=fun i0=>vcC pg 36 base aO 3000 (kbL []) Jb) (wN s) (EJ s) 0 (wO s) (Xn s) _ _ (fun i0 hx0=>aS aw mixed (az _)) (aS aw mixed (az _)) (fun e=>by cases e) (fun e=>by cases e) (fun _=>rfl) (fun i0 hx0=>Yu s i0 ls hx0) (fun i0 _=>Rv s i0) (fun i0 _=>show∀ww∈wO s i0,cy _ _ _ _ _ _ ww from (aG da (aG cg bG))) (Yv s ls) (Rw s)) (fun h=>h) (fun h=>h)
def r64 (s:List (Int×Int)):Int:=(bif yy s then 2 else 0)
theorem xN:dB [0] (aH 64)=[(0,.loop Jb)]:=by kernel_rfl
theorem Yw (s:List (Int×Int)) (ls:length s<=9223372036854775807):ba pg 64 [.sl 2 (map bo s)] [] [] (I (r64 s)) []:=
 bB (fn:=Tryz.f64) (callf:=base) (pu:=aO) (lf:=3000) (l:=[(0,GG s)]) (t:=zh) aw mixed Tryz.func64 (by kernel_rfl) (show Tryz.f64.body=some (aH 64) by kernel_rfl) (Nat.le_of_ble_eq_true rfl) (bO (l:=[(0,GG s)]) xN (aV (Rx s ls) rfl bn) rfl) rfl (aZ
 (an a0
 (an a0
 (an (kbT (GG s) trivial) (brP (fun (h0:(yy s)=true)=>
 (iE (show r64 s=2 from (cdT h0 rfl)))) (fun h0=>
 (an a0
 (iE (show r64 s=0 from (cdF h0 rfl)))))))))
 (by kernel_rfl))
def Jc:Code:=bV 0 (aH 91)
def wP (s:List (Int×Int)) (i0:Nat):Am.Loc:=[(0,.sl 2 (map bo s)),(3,I (i0:Int))]
def EK (_:List (Int×Int)) (_:Nat):List Ob:=[]
def nU (s:List (Int×Int)) (i0:Nat):Bool:=((decide ((((ah s i0)).1)>(((ah s i0)).2)))||((decide ((i0:Int)>0))&&(decide ((IntKind.wrap IntKind.i64 (((ah s i0)).1))<(IntKind.wrap IntKind.i64 (IntKind.wrap IntKind.i64 (((ah s (i0-1))).2)+2))))))
def sJ (s:List (Int×Int)):Bool:=dh (length s) (nU s)
def By (_:List (Int×Int)) (_:Nat):Am.Loc:=[(2,I 2)]
def K3 (_:List (Int×Int)) (_:Nat):List Ob:=[]
def qR (_:List (Int×Int)):Am.Loc:=[]
def Bz (_:List (Int×Int)):List Ob:=[]
def GH (s:List (Int×Int)):KB:=⟨wP s 0,EK s 0,sJ s,.ret,By s (cc (length s) (nU s)),K3 s (cc (length s) (nU s)),.normal,qR s,Bz s,True⟩
def wQ (s:List (Int×Int)) (i0:Nat):List bj:=[htW (nU s i0) .ret (By s i0) za (K3 s i0),nxW (nU s i0) (wP s (i0+1)) (EK s (i0+1)) (wP s (i0+1)) za (EK s (i0+1))]
def Xo (s:List (Int×Int)) (i0:Nat):GT:=(.r [.k,bT] (.yes (.a (.r (.row (bo (ah s i0))::.row (bo (ah s i0))::.k::uFF 19 [bT]) (.r [bT] (.pick 0))) (.a (.r (.row (bo (ah s i0))::.row (bo (ah s i0))::.k::bT::bT::.k::uTT 4 (.row (bo (ah s i0))::uTT 6 (.int ((i0-1:Nat):Int)::bT::.row (bo (ah s (i0-1)))::uTT 4 [.int (IntKind.wrap IntKind.i64 (IntKind.wrap IntKind.i64 (((ah s (i0-1))).2)+2)),bT,.k,bT,bT]))) (.br (.r [bT] (.pick 0)) (.r [.int ↑(i0+1),bT] (.pick 1)))) (.r (.row (bo (ah s i0))::.row (bo (ah s i0))::.k::bT::bT::.k::bT::uFF 15 [bT,bT]) (.r [.int ↑(i0+1),bT] (.pick 1)))))))
theorem Yx (s:List (Int×Int)) (i0:Nat) (ls:length s<=9223372036854775807) (hx0:i0<(length s)):vcC pg 42 base aO 3000 (kbL []) Jc (bu (wP s i0)) (bA (EK s i0)) 0 (bQ (wQ s i0)) (Xo s i0):=
 have l1:=aW bo (s);have hb:(decide ((i0:Int)<(length (map bo s):Int)))=true:=decide_eq_true (by omega);
 aZ (an (a1 a0)
 (an hb (aP (fun (h1:(decide ((((ah s i0)).1)>(((ah s i0)).2)))=true)=>have g1:=of_decide_eq_true h1;
 (an (aN 18 (ac (n2 h1) (a1 (ac (bR bo (l:=s) (i:=i0) (by omega)) (ac (bR bo (l:=s) (i:=i0) (by omega)) a0)))))
 (an a0
 (lf (wy (wQ s i0) 0) 0 (show nU s i0=true from (orT h1)))))) (fun h1=>have q0:=(orF h1 rfl:nU s i0=_);have g1:=of_decide_eq_false h1;
 (aP (fun (h2:(decide ((i0:Int)>0))=true)=>have q1:=q0.trans (aE h2 rfl);have g2:=of_decide_eq_true h2;
 (an (aN 3 (ac (fM (IntKind.wrap IntKind.i64 (IntKind.wrap IntKind.i64 (((ah s (i0-1))).2)+2))) (aN 4 (ac (bR bo (l:=s) (i:=i0-1) (by omega)) (a1 (ac (dws (k:=i0) (by omega) (by omega)) (aN 6 (ac (bR bo (l:=s) (i:=i0) (by omega)) (aN 2 (ac h2 (aN 3 (ac (au h1) (a1 (ac (bR bo (l:=s) (i:=i0) (by omega)) (ac (bR bo (l:=s) (i:=i0) (by omega)) a0)))))))))))))))
 (brP (fun (h3:(decide ((IntKind.wrap IntKind.i64 (((ah s i0)).1))<(IntKind.wrap IntKind.i64 (IntKind.wrap IntKind.i64 (((ah s (i0-1))).2)+2))))=true)=>
 (an a0
 (lf (wy (wQ s i0) 0) 0 (q1.trans h3)))) (fun h3=>have g3:=of_decide_eq_false h3;
 (an (ac (dwr (z:= ↑(i0+1)) (by omega) (by omega)) a0)
 (lf (wy (wQ s i0) 1) 0 ⟨(q1.trans h3),rfl,rfl⟩)))))) (fun h2=>have g2:=of_decide_eq_false h2;
 (an (aN 15 (ac (au h2) (aN 3 (ac (au h1) (a1 (ac (bR bo (l:=s) (i:=i0) (by omega)) (ac (bR bo (l:=s) (i:=i0) (by omega)) a0)))))))
 (an (ac (dwr (z:= ↑(i0+1)) (by omega) (by omega)) a0)
 (lf (wy (wQ s i0) 1) 0 ⟨(q0.trans (aY h2)),rfl,rfl⟩)))))))))
 (by kernel_rfl)
theorem Yy (s:List (Int×Int)) (_:length s<=9223372036854775807):vcC pg 42 base aO 3000 (kbL []) Jc (bu (wP s (length s))) (bA (EK s (length s))) 0 (bQ [⟨True,(.exit 0),qR s,range 0,Bz s⟩]) zE:=
 have l1:=aW bo (s);have hb:(zCK s)=false:=decide_eq_false (by omega);
 aZ (an (a1 a0)
 (an hb (lf (wy [⟨True,(.exit 0),qR s,range 0,Bz s⟩] 0) 0 trivial)))
 (by kernel_rfl)
theorem Ry (s:List (Int×Int)) (i0:Nat):(wQ s i0).all zr=true:=by refine (aF (aQ rfl rfl rfl ?_ rfl) (aF (aQ rfl rfl rfl ?_ rfl) bD))<;>simp (maxDischargeDepth:=9) [nxW,htW,wP,By,plS,AV.pure]
theorem Rz (s:List (Int×Int)):bj.b8 0 ⟨True,(.exit 0),qR s,range 0,Bz s⟩=true:=(aQ rfl rfl rfl rfl rfl)
theorem RA (s:List (Int×Int)) (ls:length s<=9223372036854775807):dg pg 42 0 0 (.loop Jc) (GH s):=
 bZ (fun _=>e9 (id:=0) (m:=length s) (t:=nU s) (xr:= .ret) (xn:=(.exit 0)) (Lr:=By s) (Lx:=qR s) (obr:=K3 s) (obx:=Bz s) (V:=fun i0=>vcC pg 42 base aO 3000 (kbL []) Jc) (wP s) (EK s) 0 (wQ s) (Xo s) _ _ (fun i0 hx0=>aS aw mixed (az _)) (aS aw mixed (az _)) (fun e=>by cases e) (fun e=>by cases e) (fun _=>rfl) (fun i0 hx0=>Yx s i0 ls hx0) (fun i0 _=>Ry s i0) (fun i0 _=>show∀ww∈wQ s i0,cy _ _ _ _ _ _ ww from (aG da (aG cg bG))) (Yy s ls) (Rz s)) (fun h=>h) (fun h=>h)
def r91 (s:List (Int×Int)):Int:=(bif sJ s then 2 else 0)
theorem xO:dB [0] (aH 91)=[(0,.loop Jc)]:=by kernel_rfl
theorem Yz (s:List (Int×Int)) (ls:length s<=9223372036854775807):ba pg 91 [.sl 2 (map bo s)] [] [] (I (r91 s)) []:=
 bB (fn:=Tryz.f91) (callf:=base) (pu:=aO) (lf:=3000) (l:=[(0,GH s)]) (t:=zh) aw mixed Tryz.func91 (by kernel_rfl) (show Tryz.f91.body=some (aH 91) by kernel_rfl) (Nat.le_of_ble_eq_true rfl) (bO (l:=[(0,GH s)]) xO (aV (RA s ls) rfl bn) rfl) rfl (aZ
 (an a0
 (an a0
 (an (kbT (GH s) trivial) (brP (fun (h0:(sJ s)=true)=>
 (iE (show r91 s=2 from (cdT h0 rfl)))) (fun h0=>
 (an a0
 (iE (show r91 s=0 from (cdF h0 rfl)))))))))
 (by kernel_rfl))
def BA:Code:=bV 0 (aH 66)
def Jd:Code:=bV 2 BA
abbrev zBi (l:List ByteArray):=(map bx l)
def sK (l:List ByteArray) (first:Bool) (i0 i2:Nat):Am.Loc:=[(0,.sl 1 (zBi l)),(1,B first),(5,I (i0:Int)),(6,I (i2:Int))]
def EL (_:List ByteArray) (_:Bool) (_ _:Nat):List Ob:=[]
def sL (l:List ByteArray) (_:Bool) (i0 i2:Nat):Bool:=(cP (Array.toList (ByteArray.data (ah l i2))) (Array.toList (ByteArray.data (ah l i0))))
def mv (l:List ByteArray) (first:Bool) (i0:Nat):Bool:=dh (i0) (sL l first i0)
def uT (_:List ByteArray) (_:Bool) (_ _:Nat):Am.Loc:=[(4,B false)]
def K4 (_:List ByteArray) (_:Bool) (_ _:Nat):List Ob:=[]
def nV (l:List ByteArray) (first:Bool) (i0:Nat):Am.Loc:=[(0,.sl 1 (zBi l)),(1,B first),(5,I (i0:Int))]
def BB (_:List ByteArray) (_:Bool) (_:Nat):List Ob:=[]
def uU (l:List ByteArray) (first:Bool) (i0:Nat):KB:=⟨sK l first i0 0,EL l first i0 0,mv l first i0,.ret,uT l first i0 (cc (i0) (sL l first i0)),K4 l first i0 (cc (i0) (sL l first i0)),.normal,nV l first i0,BB l first i0,True⟩
def EM (l:List ByteArray) (first:Bool) (i0 i2:Nat):List bj:=[htW (sL l first i0 i2) .ret (uT l first i0 i2) za (K4 l first i0 i2),nxW (sL l first i0 i2) (sK l first i0 (i2+1)) (EL l first i0 (i2+1)) (sK l first i0 (i2+1)) za (EL l first i0 (i2+1))]
def Xp (l:List ByteArray) (_:Bool) (i0 i2:Nat):GT:=(.r [.k,bT] (.yes (.r [.row (bx (ah l i2)),.row (bx (ah l i0)),.k,bT] (.br (.r [bT] (.pick 0)) (.r [.int ↑(i2+1),bT] (.pick 1))))))
theorem YA (l:List ByteArray) (first:Bool) (i0 i2:Nat) (ls:length l<=9223372036854775807) (hx0:i0<(length l)) (hx2:i2<i0):vcC pg 50 base aO 3000 (kbL []) Jd (bu (sK l first i0 i2)) (bA (EL l first i0 i2)) 0 (bQ (EM l first i0 i2)) (Xp l first i0 i2):=
 have hb:(decide ((i2:Int)<(i0:Int)))=true:=decide_eq_true (by omega);
 aZ (an (a1 a0)
 (an hb (an (a1 (ac (bR bx (l:=l) (i:=i0) (by omega)) (ac (bR bx (l:=l) (i:=i2) (by omega)) a0)))
 (brP (fun (h1:(cP (Array.toList (ByteArray.data (ah l i2))) (Array.toList (ByteArray.data (ah l i0))))=true)=>
 (an a0
 (lf (wy (EM l first i0 i2) 0) 0 (show sL l first i0 i2=true from h1)))) (fun h1=>
 (an (ac (dwr (z:= ↑(i2+1)) (by omega) (by omega)) a0)
 (lf (wy (EM l first i0 i2) 1) 0 ⟨(show sL l first i0 i2=false from h1),rfl,rfl⟩)))))))
 (by kernel_rfl)
theorem YB (l:List ByteArray) (first:Bool) (i0:Nat) (_:length l<=9223372036854775807) (_:i0<(length l)):vcC pg 50 base aO 3000 (kbL []) Jd (bu (sK l first i0 i0)) (bA (EL l first i0 i0)) 0 (bQ [⟨True,(.exit 2),nV l first i0,range 0,BB l first i0⟩]) zE:=
 have hb:(decide ((i0:Int)<(i0:Int)))=false:=decide_eq_false (by omega);
 aZ (an (a1 a0)
 (an hb (lf (wy [⟨True,(.exit 2),nV l first i0,range 0,BB l first i0⟩] 0) 0 trivial)))
 (by kernel_rfl)
theorem RB (l:List ByteArray) (first:Bool) (i0 i2:Nat):(EM l first i0 i2).all zr=true:=by refine (aF (aQ rfl rfl rfl ?_ rfl) (aF (aQ rfl rfl rfl ?_ rfl) bD))<;>simp (maxDischargeDepth:=9) [nxW,htW,sK,uT,plS,AV.pure]
theorem RC (l:List ByteArray) (first:Bool) (i0:Nat):bj.b8 0 ⟨True,(.exit 2),nV l first i0,range 0,BB l first i0⟩=true:=(aQ rfl rfl rfl (by simp (maxDischargeDepth:=9) [nV,plS,AV.pure]) rfl)
theorem RD (l:List ByteArray) (first:Bool) (i0:Nat) (ls:length l<=9223372036854775807) (hx0:i0<(length l)):dg pg 50 0 2 (.loop Jd) (uU l first i0):=
 bZ (fun _=>e9 (id:=2) (m:=i0) (t:=sL l first i0) (xr:= .ret) (xn:=(.exit 2)) (Lr:=uT l first i0) (Lx:=nV l first i0) (obr:=K4 l first i0) (obx:=BB l first i0) (V:=fun i2=>vcC pg 50 base aO 3000 (kbL []) Jd) (sK l first i0) (EL l first i0) 0 (EM l first i0) (Xp l first i0) _ _ (fun i2 hx2=>aS aw mixed (az _)) (aS aw mixed (az _)) (fun e=>by cases e) (fun e=>by cases e) (fun _=>rfl) (fun i2 hx2=>YA l first i0 i2 ls hx0 hx2) (fun i2 _=>RB l first i0 i2) (fun i2 _=>show∀ww∈EM l first i0 i2,cy _ _ _ _ _ _ ww from (aG da (aG cg bG))) (YB l first i0 ls hx0) (RC l first i0)) (fun h=>h) (fun h=>h)
def wR (l:List ByteArray) (first:Bool) (i0:Nat):Am.Loc:=[(0,.sl 1 (zBi l)),(1,B first),(5,I (i0:Int))]
def EN (_:List ByteArray) (_:Bool) (_:Nat):List Ob:=[]
def lA (l:List ByteArray) (first:Bool) (i0:Nat):Bool:=(bif first then (bif (i0:Int)==0 then (!(cP (Array.toList (ByteArray.data (ah l 0))) [])) else ((decide ((ByteArray.size (ah l i0):Int)<1))||((decide ((ByteArray.size (ah l i0):Int)>40))||(mv l first i0)))) else ((decide ((ByteArray.size (ah l i0):Int)<1))||((decide ((ByteArray.size (ah l i0):Int)>40))||(mv l first i0))))
def sM (l:List ByteArray) (first:Bool):Bool:=dh (length l) (lA l first)
def BC (_:List ByteArray) (_:Bool) (_:Nat):Am.Loc:=[(4,B false)]
def K5 (_:List ByteArray) (_:Bool) (_:Nat):List Ob:=[]
def qS (_:List ByteArray) (_:Bool):Am.Loc:=[]
def BD (_:List ByteArray) (_:Bool):List Ob:=[]
def GI (l:List ByteArray) (first:Bool):KB:=⟨wR l first 0,EN l first 0,sM l first,.ret,BC l first (cc (length l) (lA l first)),K5 l first (cc (length l) (lA l first)),.normal,qS l first,BD l first,True⟩
def kx (l:List ByteArray) (first:Bool) (i0:Nat):List bj:=[htW (lA l first i0) .ret (BC l first i0) za (K5 l first i0),nxW (lA l first i0) (wR l first (i0+1)) (EN l first (i0+1)) (wR l first (i0+1)) za (EN l first (i0+1))]
def Xq (l:List ByteArray) (_:Bool) (i0:Nat):GT:=(.r [.k,bT] (.yes (.a (.r [bT,bT,.k,bT] (.br (.r [.row (bx (ah l 0)),.k,bT] (.br (.r [bT] (.pick 0)) (.r [.int ↑(i0+1),bT] (.pick 1)))) (.a (.r (.row (bx (ah l i0))::.k::uFF 6 [bT]) (.r [bT] (.pick 0))) (.r [.row (bx (ah l i0)),.k,bT,bT,bT,.row (bx (ah l i0)),bT,bT,bT,.k,bT] (.br (.r [bT] (.pick 0)) (.r [bT] (.br (.pick 0) (.r [.int ↑(i0+1),bT] (.pick 1))))))))) (.r [bF,bF,bT] (.a (.r (.row (bx (ah l i0))::.k::uFF 6 [bT]) (.r [bT] (.pick 0))) (.r [.row (bx (ah l i0)),.k,bT,bT,bT,.row (bx (ah l i0)),bT,bT,bT,.k,bT] (.br (.r [bT] (.pick 0)) (.r [bT] (.br (.pick 0) (.r [.int ↑(i0+1),bT] (.pick 1)))))))))))
theorem YC (l:List ByteArray) (first:Bool) (i0:Nat) (ls:length l<=9223372036854775807) (hx0:i0<(length l)):vcC pg 50 base aO 3000 (kbL [(2,uU l first i0)]) BA (bu (wR l first i0)) (bA (EN l first i0)) 0 (bQ (kx l first i0)) (Xq l first i0):=
 have l1:=aW bx (l);have hb:(decide ((i0:Int)<(length (map bx l):Int)))=true:=decide_eq_true (by omega);
 aZ (an (a1 a0)
 (an hb (aP (fun (h1:(first)=true)=>have q0:=(cdT h1 rfl:lA l first i0=_);
 (an (aN 2 (ac h1 a0))
 (brP (fun (h2:((i0:Int)==0)=true)=>have q2:=q0.trans (cdT h2 rfl);have g2:=eq_of_beq h2;
 (an (a1 (ac (bR bx (l:=l) (i:=0) (by omega)) a0))
 (brP (fun (h3:(!(cP (Array.toList (ByteArray.data (ah l 0))) []))=true)=>
 (an a0
 (lf (wy (kx l first i0) 0) 0 (q2.trans h3)))) (fun h3=>
 (an (ac (dwr (z:= ↑(i0+1)) (by omega) (by omega)) a0)
 (lf (wy (kx l first i0) 1) 0 ⟨(q2.trans h3),rfl,rfl⟩)))))) (fun h2=>have q3:=q0.trans (cdF h2 rfl);have g2:=ne_of_beq_false h2;
 (aP (fun (h3:(decide ((ByteArray.size (ah l i0):Int)<1))=true)=>have g3:=of_decide_eq_true h3;
 (an (aN 5 (ac (n2 h3) (a1 (ac (bR bx (l:=l) (i:=i0) (by omega)) a0))))
 (an a0
 (lf (wy (kx l first i0) 0) 0 (q3.trans (orT h3)))))) (fun h3=>have q5:=q3.trans (orF h3 rfl);have g3:=of_decide_eq_false h3;
 (an (aN 4 (ac (bR bx (l:=l) (i:=i0) (by omega)) (aN 2 (ac (au h3) (a1 (ac (bR bx (l:=l) (i:=i0) (by omega)) a0))))))
 (brP (fun (h4:(decide ((ByteArray.size (ah l i0):Int)>40))=true)=>
 (an a0
 (lf (wy (kx l first i0) 0) 0 (q5.trans (orT h4))))) (fun h4=>have q7:=q5.trans (orF h4 rfl);have g4:=of_decide_eq_false h4;
 (an a0
 (an (kbT (uU l first i0) trivial) (brP (fun (h5:(mv l first i0)=true)=>
 (lf (wy (kx l first i0) 0) 0 (q7.trans h5))) (fun h5=>
 (an (ac (dwr (z:= ↑(i0+1)) (by omega) (by omega)) a0)
 (lf (wy (kx l first i0) 1) 0 ⟨(q7.trans h5),rfl,rfl⟩))))))))))))))) (fun h1=>have q1:=(cdF h1 rfl:lA l first i0=_);
 (an (a1 (ac (au h1) a0))
 (aP (fun (h2:(decide ((ByteArray.size (ah l i0):Int)<1))=true)=>have g2:=of_decide_eq_true h2;
 (an (aN 5 (ac (n2 h2) (a1 (ac (bR bx (l:=l) (i:=i0) (by omega)) a0))))
 (an a0
 (lf (wy (kx l first i0) 0) 0 (q1.trans (orT h2)))))) (fun h2=>have q4:=q1.trans (orF h2 rfl);have g2:=of_decide_eq_false h2;
 (an (aN 4 (ac (bR bx (l:=l) (i:=i0) (by omega)) (aN 2 (ac (au h2) (a1 (ac (bR bx (l:=l) (i:=i0) (by omega)) a0))))))
 (brP (fun (h3:(decide ((ByteArray.size (ah l i0):Int)>40))=true)=>
 (an a0
 (lf (wy (kx l first i0) 0) 0 (q4.trans (orT h3))))) (fun h3=>have q6:=q4.trans (orF h3 rfl);have g3:=of_decide_eq_false h3;
 (an a0
 (an (kbT (uU l first i0) trivial) (brP (fun (h4:(mv l first i0)=true)=>
 (lf (wy (kx l first i0) 0) 0 (q6.trans h4))) (fun h4=>
 (an (ac (dwr (z:= ↑(i0+1)) (by omega) (by omega)) a0)
 (lf (wy (kx l first i0) 1) 0 ⟨(q6.trans h4),rfl,rfl⟩))))))))))))))))
 (by kernel_rfl)
abbrev zCL (l:List ByteArray):=(decide ((((length l):Nat):Int)<(length (map bx l):Int)))
theorem YD (l:List ByteArray) (first:Bool) (_:length l<=9223372036854775807):vcC pg 50 base aO 3000 (kbL []) BA (bu (wR l first (length l))) (bA (EN l first (length l))) 0 (bQ [⟨True,(.exit 0),qS l first,range 0,BD l first⟩]) zE:=
 have l1:=aW bx (l);have hb:(zCL l)=false:=decide_eq_false (by omega);
 aZ (an (a1 a0)
 (an hb (lf (wy [⟨True,(.exit 0),qS l first,range 0,BD l first⟩] 0) 0 trivial)))
 (by kernel_rfl)
theorem RE (l:List ByteArray) (first:Bool) (i0:Nat):(kx l first i0).all zr=true:=by refine (aF (aQ rfl rfl rfl ?_ rfl) (aF (aQ rfl rfl rfl ?_ rfl) bD))<;>simp (maxDischargeDepth:=9) [nxW,htW,wR,BC,plS,AV.pure]
theorem RF (l:List ByteArray) (first:Bool):bj.b8 0 ⟨True,(.exit 0),qS l first,range 0,BD l first⟩=true:=(aQ rfl rfl rfl rfl rfl)
theorem GJ:dB [2] BA=[(2,.loop Jd)]:=by kernel_rfl
theorem RG (l:List ByteArray) (first:Bool) (ls:length l<=9223372036854775807):dg pg 50 0 0 (.loop BA) (GI l first):=
 bZ (fun _=>e9 (id:=0) (m:=length l) (t:=lA l first) (xr:= .ret) (xn:=(.exit 0)) (Lr:=BC l first) (Lx:=qS l first) (obr:=K5 l first) (obx:=BD l first) (V:=fun i0=>vcC pg 50 base aO 3000 (kbL [(2,uU l first i0)]) BA) (wR l first) (EN l first) 0 (kx l first) (Xq l first) _ _ (fun i0 hx0=>aS aw mixed (bO (l:=[(2,uU l first i0)]) GJ (aV (RD l first i0 ls hx0) rfl bn) rfl)) (aS aw mixed (az _)) (fun e=>by cases e) (fun e=>by cases e) (fun _=>rfl) (fun i0 hx0=>YC l first i0 ls hx0) (fun i0 _=>RE l first i0) (fun i0 _=>show∀ww∈kx l first i0,cy _ _ _ _ _ _ ww from (aG da (aG cg bG))) (YD l first ls) (RF l first)) (fun h=>h) (fun h=>h)
def r66 (l:List ByteArray) (first:Bool):Bool:=(!(sM l first))
theorem xP:dB [0] (aH 66)=[(0,.loop BA)]:=by kernel_rfl
theorem V4 (l:List ByteArray) (first:Bool) (ls:length l<=9223372036854775807):ba pg 66 [.sl 1 (zBi l),B first] [] [] (B (r66 l first)) []:=
 bB (fn:=Tryz.f66) (callf:=base) (pu:=aO) (lf:=3000) (l:=[(0,GI l first)]) (t:=zh) aw mixed Tryz.func66 (by kernel_rfl) (show Tryz.f66.body=some (aH 66) by kernel_rfl) (Nat.le_of_ble_eq_true rfl) (bO (l:=[(0,GI l first)]) xP (aV (RG l first ls) rfl bn) rfl) rfl (aZ
 (an a0
 (an a0
 (an (kbT (GI l first) trivial) (brP (fun (h0:(sM l first)=true)=>
 (bE (show r66 l first=false from (cx h0)))) (fun h0=>
 (an a0
 (bE (show r66 l first=true from (au h0)))))))))
 (by kernel_rfl))
def i67 (n:Net) (s r:Int):b9:=⟨67,[fY n,I s,I r],B (r67 n s r),True⟩
theorem g67 (n:Net) (s r:Int):(i67 n s r).cd pg:=fun hp=>⟨of67 n s r,by simp [i67,ae,AV.pure],by simp [i67,AV.pure]⟩
def i62 (n:Net) (s r:Int):b9:=⟨62,[.pf (aR n),I s,I r],B (r62 n s r),True⟩
theorem g62 (n:Net) (s r:Int):(i62 n s r).cd pg:=fun hp=>⟨of62 n s r,by simp [i62,ae,AV.pure],by simp [i62,AV.pure]⟩
def i92 (g:G):b9:=⟨92,[.ag (gCC g)],B (r92 g),True⟩
theorem g92 (g:G):(i92 g).cd pg:=fun hp=>⟨Yt g,by simp [i92,ae,AV.pure],by simp [i92,AV.pure]⟩
def i95 (n:Net) (a:Int×Int):b9:=⟨95,[fY n,.ag (fG a)],B (r95 n a),True⟩
theorem g95 (n:Net) (a:Int×Int):(i95 n a).cd pg:=fun hp=>⟨act95 n a,by simp [i95,ae,AV.pure],by simp [i95,AV.pure]⟩
def i89 (n:Net) (a:Int×Int):b9:=⟨89,[.pf (aR n),.ag (fG a)],B (r89 n a),True⟩
theorem g89 (n:Net) (a:Int×Int):(i89 n a).cd pg:=fun hp=>⟨act89 n a,by simp [i89,ae,AV.pure],by simp [i89,AV.pure]⟩
def i64 (s:List (Int×Int)):b9:=⟨64,[.sl 2 (s.map bo)],I (r64 s),s.length<=9223372036854775807⟩
theorem g64 (s:List (Int×Int)):(i64 s).cd pg:=fun hp=>⟨Yw s hp,by simp [i64,ae,AV.pure],by simp [i64,AV.pure]⟩
def i91 (s:List (Int×Int)):b9:=⟨91,[.sl 2 (s.map bo)],I (r91 s),s.length<=9223372036854775807⟩
theorem g91 (s:List (Int×Int)):(i91 s).cd pg:=fun hp=>⟨Yz s hp,by simp [i91,ae,AV.pure],by simp [i91,AV.pure]⟩
def i93 (g:G):b9:=⟨93,[.ag (gCC g)],I (r93 g),eS g⟩
theorem g93 (g:G):(i93 g).cd pg:=fun hp=>⟨V1 g hp,by simp [i93,ae,AV.pure],by simp [i93,AV.pure]⟩
def i81 (g:G):b9:=⟨81,[.ag (gCC g)],I (r81 g),eS g⟩
theorem g81 (g:G):(i81 g).cd pg:=fun hp=>⟨V2 g hp,by simp [i81,ae,AV.pure],by simp [i81,AV.pure]⟩
def RH (g:G) (o:Int):b9:=⟨94,[.ag (gCC g),I8 o],B (dZ o g),eS g⟩
theorem OS (g:G) (o:Int):(RH g o).cd pg:=fun hp=>⟨I4 o g hp,by simp [RH,ae,AV.pure],by simp [RH,AV.pure]⟩
def i66 (l:List ByteArray) (f:Bool):b9:=⟨66,[.sl 1 (l.map bx),B f],B (r66 l f),l.length<=9223372036854775807⟩
theorem g66 (l:List ByteArray) (f:Bool):(i66 l f).cd pg:=fun hp=>⟨V4 l f hp,by simp [i66,ae,AV.pure],by simp [i66,AV.pure]⟩
theorem K6 {n:Net} {s r:Int} (h:r67 n s r=true):0<=s/\s<((n.aa.length:Nat):Int):=by
 simp only [r67,Bool.and_eq_true,decide_eq_true_eq,List.length_map] at h
 exact ⟨h.1,h.2.1⟩
theorem sN {n:Net} {s r:Int} (h:r62 n s r=true):0<=s/\s<((n.aa.length:Nat):Int):=by
 simp only [r62,Bool.and_eq_true,decide_eq_true_eq,List.length_map] at h
 exact ⟨h.1,h.2.1⟩
theorem GK {x:Bool} (h:(!x)=false):x=true:=by cases x<;>simp_all
theorem Je {x c:Int} {p:Prop} [Decidable p] (h:(!((x==c)==decide p))=false):x=c↔p:=by
 have h:((x==c)==decide p)=true:=GK h
 have h2:(x==c)=decide p:=by simpa using h
 rw [<-decide_eq_true_eq (p:=p),<-h2]
 simp
structure DH (e:Edge):Prop where
 g:eS e.g
 op: -128<=e.op/\e.op<=127
 set:e.set.length<=9223372036854775807
 en:e.en.length<=9223372036854775807
def BE:Code:=bV 0 (aH 32)
def Jf:Code:=bV 2 BE
abbrev zBj (i0 i2:Nat) (n:Net):Am.Loc:=[(1,.pf (aR n)),(3,I (i0:Int)),(4,.pt 0 0),(5,I (i2:Int))]
def sO (n:Net) (i0 i2:Nat):Am.Loc:=(zBj i0 i2 n)
def sP (n:Net) (i0 _:Nat):List Ob:=[.box 51 (aD (ah n.rules i0))]
def pU (n:Net) (i0 i2:Nat):Bool:=((ah n.rules i2).type==(ah n.rules i0).type)
def mw (n:Net) (i0:Nat):Bool:=dh (i0) (pU n i0)
def uV (_:Net) (_ _:Nat):Am.Loc:=[(2,B false)]
def uW (_:Net) (_ _:Nat):List Ob:=[]
abbrev zAu (i0:Nat) (n:Net):Am.Loc:=[(1,.pf (aR n)),(3,I (i0:Int))]
def nW (n:Net) (i0:Nat):Am.Loc:=(zAu i0 n)
def nX (n:Net) (i0:Nat):List Ob:=[.box 51 (aD (ah n.rules i0))]
def uX (n:Net) (i0:Nat):KB:=⟨sO n i0 0,sP n i0 0,mw n i0,.ret,uV n i0 (cc (i0) (pU n i0)),uW n i0 (cc (i0) (pU n i0)),.normal,nW n i0,nX n i0,True⟩
def EO (n:Net) (i0 i2:Nat):List bj:=[htW (pU n i0 i2) .ret (uV n i0 i2) za (uW n i0 i2),nxW (pU n i0 i2) (sO n i0 (i2+1)) (sP n i0 (i2+1)) (sO n i0 (i2+1)) zAU (sP n i0 (i2+1))]
def Xr (n:Net) (_ i2:Nat):GT:=(.r [.k,bT] (.yes (.r [.row (aD (ah n.rules i2)),.k,bT] (.br (.r [bT] (.pick 0)) (.r [.int ↑(i2+1),bT] (.pick 1))))))
theorem YE (n:Net) (i0 i2:Nat) (ln:length n.rules<=9223372036854775807) (hx0:i0<(length n.rules)) (hx2:i2<i0):vcC pg 122 base aO 3000 (kbL []) Jf (bu (sO n i0 i2)) (bA (sP n i0 i2)) 1 (bQ (EO n i0 i2)) (Xr n i0 i2):=
 have hb:(decide ((i2:Int)<(i0:Int)))=true:=decide_eq_true (by omega);
 aZ (an (a1 a0)
 (an hb (an (a1 (ac (bR aD (l:=n.rules) (i:=i2) (by omega)) a0))
 (brP (fun (h1:((ah n.rules i2).type==(ah n.rules i0).type)=true)=>
 (an a0
 (lf (wy (EO n i0 i2) 0) 1 (show pU n i0 i2=true from h1)))) (fun h1=>
 (an (ac (dwr (z:= ↑(i2+1)) (by omega) (by omega)) a0)
 (lf (wy (EO n i0 i2) 1) 1 ⟨(show pU n i0 i2=false from h1),rfl,rfl⟩)))))))
 (by kernel_rfl)
theorem YF (n:Net) (i0:Nat) (_:length n.rules<=9223372036854775807) (_:i0<(length n.rules)):vcC pg 122 base aO 3000 (kbL []) Jf (bu (sO n i0 i0)) (bA (sP n i0 i0)) 1 (bQ [⟨True,(.exit 2),nW n i0,range 1,nX n i0⟩]) zE:=
 have hb:(decide ((i0:Int)<(i0:Int)))=false:=decide_eq_false (by omega);
 aZ (an (a1 a0)
 (an hb (lf (wy [⟨True,(.exit 2),nW n i0,range 1,nX n i0⟩] 0) 1 trivial)))
 (by kernel_rfl)
theorem RJ (n:Net) (i0 i2:Nat):(EO n i0 i2).all zr=true:=by refine (aF (aQ rfl rfl rfl ?_ ?_) (aF (aQ rfl rfl rfl ?_ ?_) bD))<;>simp (maxDischargeDepth:=9) [nxW,htW,sO,uV,plS,AV.pure,sP,uW,plO]
theorem RK (n:Net) (i0:Nat):bj.b8 0 ⟨True,(.exit 2),nW n i0,range 1,nX n i0⟩=true:=by refine (aQ rfl rfl rfl ?_ ?_)<;>simp (maxDischargeDepth:=9) [nW,plS,AV.pure,nX,plO]
theorem RL (n:Net) (i0:Nat) (ln:length n.rules<=9223372036854775807) (hx0:i0<(length n.rules)):dg pg 122 0 2 (.loop Jf) (uX n i0):=
 bZ (fun _=>e9 (id:=2) (m:=i0) (t:=pU n i0) (xr:= .ret) (xn:=(.exit 2)) (Lr:=uV n i0) (Lx:=nW n i0) (obr:=uW n i0) (obx:=nX n i0) (V:=fun i2=>vcC pg 122 base aO 3000 (kbL []) Jf) (sO n i0) (sP n i0) 1 (EO n i0) (Xr n i0) _ _ (fun i2 hx2=>aS aw mixed (az _)) (aS aw mixed (az _)) (fun e=>by cases e) (fun e=>by cases e) (fun _=>rfl) (fun i2 hx2=>YE n i0 i2 ln hx0 hx2) (fun i2 _=>RJ n i0 i2) (fun i2 _=>show∀ww∈EO n i0 i2,cy _ _ _ _ _ _ ww from (aG da (aG cg bG))) (YF n i0 ln hx0) (RK n i0)) (fun h=>h) (fun h=>h)
def wS (n:Net) (i0:Nat):Am.Loc:=(zAu i0 n)
def EP (_:Net) (_:Nat):List Ob:=[]
def jR (n:Net) (i0:Nat):Bool:=((!(r67 n (ah n.rules i0).start (i0:Int)))||((!(r67 n (ah n.rules i0).stop (i0:Int)))||(((ah n.rules i0).start==(ah n.rules i0).stop)||((decide ((length (map bc (aB n.aa (ah n.rules i0).stop).aj):Int)>0))||(bif !(ah n.rules i0).bP then ((ah n.rules i0).eK||((ah n.rules i0).lazy||(((ah n.rules i0).mode !=0)||(bif (ah n.rules i0).bP then ((ah n.rules i0).left||((decide ((ah n.rules i0).mode<0))||((decide ((ah n.rules i0).mode>=(length (map bx n.cH):Int)))||((ah n.rules i0).type !=0)))) else ((decide ((ah n.rules i0).mode<0))||((decide ((ah n.rules i0).mode>=(length (map bx n.cH):Int)))||((ah n.rules i0).type !=0))))))) else (bif (ah n.rules i0).bP then ((ah n.rules i0).left||((decide ((ah n.rules i0).mode<0))||((decide ((ah n.rules i0).mode>=(length (map bx n.cH):Int)))||(bif (ah n.rules i0).eK then ((ah n.rules i0).type !=0) else ((decide ((ah n.rules i0).type<1))||((decide ((ah n.rules i0).type>(length (map bx n.types):Int)))||(mw n i0))))))) else ((decide ((ah n.rules i0).mode<0))||((decide ((ah n.rules i0).mode>=(length (map bx n.cH):Int)))||(bif (ah n.rules i0).eK then ((ah n.rules i0).type !=0) else ((decide ((ah n.rules i0).type<1))||((decide ((ah n.rules i0).type>(length (map bx n.types):Int)))||(mw n i0))))))))))))
def sQ (n:Net):Bool:=dh (length n.rules) (jR n)
def BF (_:Net) (_:Nat):Am.Loc:=[(2,B false)]
def K7 (_:Net) (_:Nat):List Ob:=[]
def qT (_:Net):Am.Loc:=[]
def BG (_:Net):List Ob:=[]
abbrev zU (n:Net):=(length n.rules)
def GL (n:Net):KB:=⟨wS n 0,EP n 0,sQ n,.ret,BF n (cc (zU n) (jR n)),K7 n (cc (zU n) (jR n)),.normal,qT n,BG n,True⟩
def dE (n:Net) (i0:Nat):List bj:=[htW (jR n i0) .ret (BF n i0) za (K7 n i0),nxW (jR n i0) (wS n (i0+1)) (EP n (i0+1)) (wS n (i0+1)) za (EP n (i0+1))]
def Xs (n:Net) (i0:Nat):GT:=(.r [.k,bT] (.yes (.r [.row (aD (ah n.rules i0)),bT] (.a (.r (.int 0::uFF 20 [bT]) (.r [bT] (.pick 0))) (.a (.r (.int 0::uTT 5 (.int 1::bT::uFF 14 [bT])) (.r [bT] (.pick 0))) (.a (.r (.int 0::uTT 5 (.int 1::uTT 6 (.k::uFF 9 [bT]))) (.r [bT] (.pick 0))) (.r (.int 0::uTT 5 (.int 1::uTT 6 (.k::uTT 5 (.cC ((ah n.rules i0).stop).toNat (ak (aB n.aa (ah n.rules i0).stop))::uTT 4 [.k,bT])))) (.br (.r [bT] (.pick 0)) (.a (.a (.r (bT::bT::bT::bF::bF::bT::bT::bF::bF::bF::bT::uFF 15 [bT]) (.r [bT] (.pick 0))) (.a (.r (uTT 7 (bF::bF::bF::bT::uFF 15 [bT])) (.r [bT] (.pick 0))) (.a (.r (uTT 10 (.k::bT::uFF 15 [bT])) (.r [bT] (.pick 0))) (.a (.a (.r (uTT 10 (.k::uTT 7 (uFF 9 [bT]))) (.r [bT] (.pick 0))) (.a (.r (uTT 10 (.k::uTT 10 (.k::uFF 6 [bT]))) (.r [bT] (.pick 0))) (.r (uTT 10 (.k::uTT 10 (.k::uTT 6 [.k,bT]))) (.br (.r [bT] (.pick 0)) (.r [bF,bF,bT] (.r [.k,bT] (.br (.r [bT] (.pick 0)) (.r [.int ↑(i0+1),bT] (.pick 1))))))))) (.a (.r (uTT 10 (.k::uTT 4 (bF::bF::uTT 4 (.k::uFF 6 [bT])))) (.r [bT] (.pick 0))) (.r (uTT 10 (.k::uTT 4 (bF::bF::uTT 4 (.k::uTT 6 [.k,bT])))) (.br (.r [bT] (.pick 0)) (.r [bF,bF,bT] (.r [.k,bT] (.br (.r [bT] (.pick 0)) (.r [.int ↑(i0+1),bT] (.pick 1)))))))))))) (.a (.a (.r (uFF 11 (uTT 6 (uFF 9 [bT]))) (.r [bT] (.pick 0))) (.a (.r (uFF 11 (uTT 9 (.k::uFF 6 [bT]))) (.r [bT] (.pick 0))) (.r (uFF 11 (uTT 9 (.k::uTT 6 [.k,bT]))) (.br (.r [bT] (.pick 0)) (.r [bT,bT,bT] (.br (.r [.k,bT] (.br (.r [bT] (.pick 0)) (.r [.int ↑(i0+1),bT] (.pick 1)))) (.a (.r (.k::uFF 6 [bT]) (.r [bT] (.pick 0))) (.r (.k::uTT 6 [.k,bT]) (.br (.r [bT] (.pick 0)) (.r [bT] (.br (.pick 0) (.r [.int ↑(i0+1),bT] (.pick 1))))))))))))) (.a (.r (uFF 11 (bT::bT::bT::bF::bF::uTT 4 (.k::uFF 6 [bT]))) (.r [bT] (.pick 0))) (.r (uFF 11 (bT::bT::bT::bF::bF::uTT 4 (.k::uTT 6 [.k,bT]))) (.br (.r [bT] (.pick 0)) (.r [bT,bT,bT] (.br (.r [.k,bT] (.br (.r [bT] (.pick 0)) (.r [.int ↑(i0+1),bT] (.pick 1)))) (.a (.r (.k::uFF 6 [bT]) (.r [bT] (.pick 0))) (.r (.k::uTT 6 [.k,bT]) (.br (.r [bT] (.pick 0)) (.r [bT] (.br (.pick 0) (.r [.int ↑(i0+1),bT] (.pick 1))))))))))))))))))))))
abbrev zi (i0:Nat) (n:Net):=(decide ((ah n.rules i0).mode>=(length (map bx n.cH):Int)))
abbrev zAC (i0:Nat) (n:Net):=(decide ((ah n.rules i0).type>(length (map bx n.types):Int)))
abbrev zAV (i0:Nat) (n:Net):=(decide ((i0:Int)<(length (map aD n.rules):Int)))
abbrev zAk (i0:Nat) (n:Net):=(decide ((ah n.rules i0).mode<0))
abbrev zAp (i0:Nat) (n:Net):=(decide ((length (map bc (aB n.aa (ah n.rules i0).stop).aj):Int)>0))
abbrev zBM (i0:Nat) (n:Net):=(decide ((ah n.rules i0).type<1))
abbrev zBP (i0:Nat) (n:Net):=((ah n.rules i0).type !=0)
abbrev zCG (i0:Nat) (n:Net):=((ah n.rules i0).start==(ah n.rules i0).stop)
theorem YG (n:Net) (i0:Nat) (ln:length n.rules<=9223372036854775807) (hx0:i0<(length n.rules)):vcC pg 122 (bC [i67 n (ah n.rules i0).start (i0:Int),i67 n (ah n.rules i0).stop (i0:Int)] base) aO 3000 (kbL [(2,uX n i0)]) BE (bu (wS n i0)) (bA (EP n i0)) 0 (bQ (dE n i0)) (Xs n i0):=
 have l1:=aW aD (n.rules);have hb:(zAV i0 n)=true:=decide_eq_true (by omega);
 aZ (an (a1 a0)
 (an hb (an (ac (bR aD (l:=n.rules) (i:=i0) (by omega)) a0)
 (aP (fun (h1:(!(r67 n (ah n.rules i0).start (i0:Int)))=true)=>
 (an (aN 19 (ac (n2 h1) (cA (g67 n (ah n.rules i0).start (i0:Int)) trivial a0)))
 (an a0
 (lf (wy (dE n i0) 0) 1 (show jR n i0=true from (orT h1)))))) (fun h1=>have q0:=(orF h1 rfl:jR n i0=_);have g1:=K6 (GK h1);
 (aP (fun (h2:(!(r67 n (ah n.rules i0).stop (i0:Int)))=true)=>
 (an (aN 13 (ac (n2 h2) (a1 (cA (g67 n (ah n.rules i0).stop (i0:Int)) trivial (aN 4 (ac (au h1) (cA (g67 n (ah n.rules i0).start (i0:Int)) trivial a0)))))))
 (an a0
 (lf (wy (dE n i0) 0) 1 (q0.trans (orT h2)))))) (fun h2=>have q1:=q0.trans (orF h2 rfl);have g2:=K6 (GK h2);
 (aP (fun (h3:(zCG i0 n)=true)=>
 (an (aN 8 (ac (n2 h3) (aN 5 (ac (au h2) (a1 (cA (g67 n (ah n.rules i0).stop (i0:Int)) trivial (aN 4 (ac (au h1) (cA (g67 n (ah n.rules i0).start (i0:Int)) trivial a0)))))))))
 (an a0
 (lf (wy (dE n i0) 0) 1 (q1.trans (orT h3)))))) (fun h3=>have q2:=q1.trans (orF h3 rfl);
 (have l2:=aW ak (n.aa);an (aN 5 (ac (bK (f:=ak) (l:=n.aa) (s:=(ah n.rules i0).stop) (decide_eq_true (by omega)) (decide_eq_true (by omega))) (aN 4 (ac (au h3) (aN 5 (ac (au h2) (a1 (cA (g67 n (ah n.rules i0).stop (i0:Int)) trivial (aN 4 (ac (au h1) (cA (g67 n (ah n.rules i0).start (i0:Int)) trivial a0)))))))))))
 (brP (fun (h4:(zAp i0 n)=true)=>
 (an a0
 (lf (wy (dE n i0) 0) 1 (q2.trans (orT h4))))) (fun h4=>have q3:=q2.trans (orF h4 rfl);have l3:=aW bc ((aB n.aa (ah n.rules i0).stop).aj);have g4:=of_decide_eq_false h4;
 (aP (fun (h5:(!(ah n.rules i0).bP)=true)=>have q4:=q3.trans (cdT h5 rfl);
 (aP (fun (h6:((ah n.rules i0).eK)=true)=>
 (an (aN 22 (ac (n2 h6) (aN 2 (ac h5 a0))))
 (an a0
 (lf (wy (dE n i0) 0) 1 (q4.trans (orT h6)))))) (fun h6=>have q6:=q4.trans (orF h6 rfl);
 (aP (fun (h7:((ah n.rules i0).lazy)=true)=>
 (an (aN 18 (ac (n2 h7) (aN 3 (ac (au h6) (aN 2 (ac h5 a0))))))
 (an a0
 (lf (wy (dE n i0) 0) 1 (q6.trans (orT h7)))))) (fun h7=>have q9:=q6.trans (orF h7 rfl);
 (aP (fun (h8:((ah n.rules i0).mode !=0)=true)=>
 (an (aN 14 (ac (n2 h8) (aN 4 (ac (au h7) (aN 3 (ac (au h6) (aN 2 (ac h5 a0))))))))
 (an a0
 (lf (wy (dE n i0) 0) 1 (q9.trans (orT h8)))))) (fun h8=>have q12:=q9.trans (orF h8 rfl);have g8:=fO h8;
 (aP (fun (h9:((ah n.rules i0).bP)=true)=>have q15:=q12.trans (cdT h9 rfl);
 (aP (fun (h10:((ah n.rules i0).left)=true)=>
 (an (aN 8 (ac (n2 h10) (aN 2 (ac h9 (aN 2 (ac (au h8) (aN 4 (ac (au h7) (aN 3 (ac (au h6) (aN 2 (ac h5 a0))))))))))))
 (an a0
 (lf (wy (dE n i0) 0) 1 (q15.trans (orT h10)))))) (fun h10=>have q20:=q15.trans (orF h10 rfl);
 (aP (fun (h11:(zAk i0 n)=true)=>
 (an (aN 5 (ac (n2 h11) (aN 3 (ac (au h10) (aN 2 (ac h9 (aN 2 (ac (au h8) (aN 4 (ac (au h7) (aN 3 (ac (au h6) (aN 2 (ac h5 a0))))))))))))))
 (an a0
 (lf (wy (dE n i0) 0) 1 (q20.trans (orT h11)))))) (fun h11=>have q25:=q20.trans (orF h11 rfl);have g11:=of_decide_eq_false h11;
 (an (aN 6 (ac (au h11) (aN 3 (ac (au h10) (aN 2 (ac h9 (aN 2 (ac (au h8) (aN 4 (ac (au h7) (aN 3 (ac (au h6) (aN 2 (ac h5 a0))))))))))))))
 (brP (fun (h12:(zi i0 n)=true)=>
 (an a0
 (lf (wy (dE n i0) 0) 1 (q25.trans (orT h12))))) (fun h12=>have q29:=q25.trans (orF h12 rfl);have l4:=aW bx (n.cH);have g12:=of_decide_eq_false h12;
 (an (a1 (ac (n2 h5) a0))
 (an (a1 a0)
 (brP (fun (h13:(zBP i0 n)=true)=>
 (an a0
 (lf (wy (dE n i0) 0) 1 (q29.trans h13)))) (fun h13=>have g13:=fO h13;
 (an (ac (dwr (z:= ↑(i0+1)) (by omega) (by omega)) a0)
 (lf (wy (dE n i0) 1) 1 ⟨(q29.trans h13),rfl,rfl⟩)))))))))))))) (fun h9=>have q16:=q12.trans (cdF h9 rfl);
 (aP (fun (h10:(zAk i0 n)=true)=>
 (an (aN 5 (ac (n2 h10) (aN 6 (ac (au h9) (aN 2 (ac (au h8) (aN 4 (ac (au h7) (aN 3 (ac (au h6) (aN 2 (ac h5 a0))))))))))))
 (an a0
 (lf (wy (dE n i0) 0) 1 (q16.trans (orT h10)))))) (fun h10=>have q21:=q16.trans (orF h10 rfl);have g10:=of_decide_eq_false h10;
 (an (aN 6 (ac (au h10) (aN 6 (ac (au h9) (aN 2 (ac (au h8) (aN 4 (ac (au h7) (aN 3 (ac (au h6) (aN 2 (ac h5 a0))))))))))))
 (brP (fun (h11:(zi i0 n)=true)=>
 (an a0
 (lf (wy (dE n i0) 0) 1 (q21.trans (orT h11))))) (fun h11=>have q26:=q21.trans (orF h11 rfl);have l4:=aW bx (n.cH);have g11:=of_decide_eq_false h11;
 (an (a1 (ac (n2 h5) a0))
 (an (a1 a0)
 (brP (fun (h12:(zBP i0 n)=true)=>
 (an a0
 (lf (wy (dE n i0) 0) 1 (q26.trans h12)))) (fun h12=>have g12:=fO h12;
 (an (ac (dwr (z:= ↑(i0+1)) (by omega) (by omega)) a0)
 (lf (wy (dE n i0) 1) 1 ⟨(q26.trans h12),rfl,rfl⟩)))))))))))))))))))) (fun h5=>have q5:=q3.trans (cdF h5 rfl);
 (aP (fun (h6:((ah n.rules i0).bP)=true)=>have q7:=q5.trans (cdT h6 rfl);
 (aP (fun (h7:((ah n.rules i0).left)=true)=>
 (an (aN 8 (ac (n2 h7) (aN 2 (ac h6 (aN 13 (ac (au h5) a0))))))
 (an a0
 (lf (wy (dE n i0) 0) 1 (q7.trans (orT h7)))))) (fun h7=>have q10:=q7.trans (orF h7 rfl);
 (aP (fun (h8:(zAk i0 n)=true)=>
 (an (aN 5 (ac (n2 h8) (aN 3 (ac (au h7) (aN 2 (ac h6 (aN 13 (ac (au h5) a0))))))))
 (an a0
 (lf (wy (dE n i0) 0) 1 (q10.trans (orT h8)))))) (fun h8=>have q13:=q10.trans (orF h8 rfl);have g8:=of_decide_eq_false h8;
 (an (aN 6 (ac (au h8) (aN 3 (ac (au h7) (aN 2 (ac h6 (aN 13 (ac (au h5) a0))))))))
 (brP (fun (h9:(zi i0 n)=true)=>
 (an a0
 (lf (wy (dE n i0) 0) 1 (q13.trans (orT h9))))) (fun h9=>have q17:=q13.trans (orF h9 rfl);have l4:=aW bx (n.cH);have g9:=of_decide_eq_false h9;
 (an (a1 (ac (au h5) a0))
 (brP (fun (h10:((ah n.rules i0).eK)=true)=>have q22:=q17.trans (cdT h10 rfl);
 (an (a1 a0)
 (brP (fun (h11:(zBP i0 n)=true)=>
 (an a0
 (lf (wy (dE n i0) 0) 1 (q22.trans h11)))) (fun h11=>have g11:=fO h11;
 (an (ac (dwr (z:= ↑(i0+1)) (by omega) (by omega)) a0)
 (lf (wy (dE n i0) 1) 1 ⟨(q22.trans h11),rfl,rfl⟩)))))) (fun h10=>have q23:=q17.trans (cdF h10 rfl);
 (aP (fun (h11:(zBM i0 n)=true)=>
 (an (aN 5 (ac (n2 h11) (a1 a0)))
 (an a0
 (lf (wy (dE n i0) 0) 1 (q23.trans (orT h11)))))) (fun h11=>have q27:=q23.trans (orF h11 rfl);have g11:=of_decide_eq_false h11;
 (an (aN 6 (ac (au h11) (a1 a0)))
 (brP (fun (h12:(zAC i0 n)=true)=>
 (an a0
 (lf (wy (dE n i0) 0) 1 (q27.trans (orT h12))))) (fun h12=>have q30:=q27.trans (orF h12 rfl);have l5:=aW bx (n.types);have g12:=of_decide_eq_false h12;
 (an a0
 (an (kbT (uX n i0) trivial) (brP (fun (h13:(mw n i0)=true)=>
 (lf (wy (dE n i0) 0) 0 (q30.trans h13))) (fun h13=>
 (an (ac (dwr (z:= ↑(i0+1)) (by omega) (by omega)) a0)
 (lf (wy (dE n i0) 1) 1 ⟨(q30.trans h13),rfl,rfl⟩)))))))))))))))))))))) (fun h6=>have q8:=q5.trans (cdF h6 rfl);
 (aP (fun (h7:(zAk i0 n)=true)=>
 (an (aN 5 (ac (n2 h7) (aN 6 (ac (au h6) (aN 13 (ac (au h5) a0))))))
 (an a0
 (lf (wy (dE n i0) 0) 1 (q8.trans (orT h7)))))) (fun h7=>have q11:=q8.trans (orF h7 rfl);have g7:=of_decide_eq_false h7;
 (an (aN 6 (ac (au h7) (aN 6 (ac (au h6) (aN 13 (ac (au h5) a0))))))
 (brP (fun (h8:(zi i0 n)=true)=>
 (an a0
 (lf (wy (dE n i0) 0) 1 (q11.trans (orT h8))))) (fun h8=>have q14:=q11.trans (orF h8 rfl);have l4:=aW bx (n.cH);have g8:=of_decide_eq_false h8;
 (an (a1 (ac (au h5) a0))
 (brP (fun (h9:((ah n.rules i0).eK)=true)=>have q18:=q14.trans (cdT h9 rfl);
 (an (a1 a0)
 (brP (fun (h10:(zBP i0 n)=true)=>
 (an a0
 (lf (wy (dE n i0) 0) 1 (q18.trans h10)))) (fun h10=>have g10:=fO h10;
 (an (ac (dwr (z:= ↑(i0+1)) (by omega) (by omega)) a0)
 (lf (wy (dE n i0) 1) 1 ⟨(q18.trans h10),rfl,rfl⟩)))))) (fun h9=>have q19:=q14.trans (cdF h9 rfl);
 (aP (fun (h10:(zBM i0 n)=true)=>
 (an (aN 5 (ac (n2 h10) (a1 a0)))
 (an a0
 (lf (wy (dE n i0) 0) 1 (q19.trans (orT h10)))))) (fun h10=>have q24:=q19.trans (orF h10 rfl);have g10:=of_decide_eq_false h10;
 (an (aN 6 (ac (au h10) (a1 a0)))
 (brP (fun (h11:(zAC i0 n)=true)=>
 (an a0
 (lf (wy (dE n i0) 0) 1 (q24.trans (orT h11))))) (fun h11=>have q28:=q24.trans (orF h11 rfl);have l5:=aW bx (n.types);have g11:=of_decide_eq_false h11;
 (an a0
 (an (kbT (uX n i0) trivial) (brP (fun (h12:(mw n i0)=true)=>
 (lf (wy (dE n i0) 0) 0 (q28.trans h12))) (fun h12=>
 (an (ac (dwr (z:= ↑(i0+1)) (by omega) (by omega)) a0)
 (lf (wy (dE n i0) 1) 1 ⟨(q28.trans h12),rfl,rfl⟩)))))))))))))))))))))))))))))))))))
 (by kernel_rfl)
abbrev zH (n:Net):=(decide ((((length n.rules):Nat):Int)<(length (map aD n.rules):Int)))
theorem YH (n:Net) (_:length n.rules<=9223372036854775807):vcC pg 122 base aO 3000 (kbL []) BE (bu (wS n (zU n))) (bA (EP n (zU n))) 0 (bQ [⟨True,(.exit 0),qT n,range 0,BG n⟩]) zE:=
 have l1:=aW aD (n.rules);have hb:(zH n)=false:=decide_eq_false (by omega);
 aZ (an (a1 a0)
 (an hb (lf (wy [⟨True,(.exit 0),qT n,range 0,BG n⟩] 0) 0 trivial)))
 (by kernel_rfl)
theorem RM (n:Net) (i0:Nat):(dE n i0).all zr=true:=by refine (aF (aQ rfl rfl rfl ?_ rfl) (aF (aQ rfl rfl rfl ?_ rfl) bD))<;>simp (maxDischargeDepth:=9) [nxW,htW,wS,BF,plS,AV.pure]
theorem RN (n:Net):bj.b8 0 ⟨True,(.exit 0),qT n,range 0,BG n⟩=true:=(aQ rfl rfl rfl rfl rfl)
theorem GM:dB [2] BE=[(2,.loop Jf)]:=by kernel_rfl
theorem RO (n:Net) (ln:length n.rules<=9223372036854775807):dg pg 122 0 0 (.loop BE) (GL n):=
 bZ (fun _=>e9 (id:=0) (m:=length n.rules) (t:=jR n) (xr:= .ret) (xn:=(.exit 0)) (Lr:=BF n) (Lx:=qT n) (obr:=K7 n) (obx:=BG n) (V:=fun i0=>vcC pg 122 (bC [i67 n (ah n.rules i0).start (i0:Int),i67 n (ah n.rules i0).stop (i0:Int)] base) aO 3000 (kbL [(2,uX n i0)]) BE) (wS n) (EP n) 0 (dE n) (Xs n) _ _ (fun i0 hx0=>aS (bf (.cons (g67 n (ah n.rules i0).start (i0:Int)) rfl (.cons (g67 n (ah n.rules i0).stop (i0:Int)) rfl cv.nil)) aw) mixed (bO (l:=[(2,uX n i0)]) GM (aV (RL n i0 ln hx0) rfl bn) rfl)) (aS aw mixed (az _)) (fun e=>by cases e) (fun e=>by cases e) (fun _=>rfl) (fun i0 hx0=>YG n i0 ln hx0) (fun i0 _=>RM n i0) (fun i0 _=>show∀ww∈dE n i0,cy _ _ _ _ _ _ ww from (aG da (aG cg bG))) (YH n ln) (RN n)) (fun h=>h) (fun h=>h)
def r32 (n:Net):Bool:=(!(sQ n))
theorem xQ:dB [0] (aH 32)=[(0,.loop BE)]:=by kernel_rfl
theorem V5 (n:Net) (ln:length n.rules<=9223372036854775807):ba pg 32 [.ag (aR n)] [] [] (B (r32 n)) []:=
 bB (fn:=Tryz.f32) (callf:=base) (pu:=aO) (lf:=3000) (l:=[(0,GL n)]) (t:=zh) aw mixed Tryz.func32 (by kernel_rfl) (show Tryz.f32.body=some (aH 32) by kernel_rfl) (Nat.le_of_ble_eq_true rfl) (bO (l:=[(0,GL n)]) xQ (aV (RO n ln) rfl bn) rfl) rfl (aZ
 (an a0
 (an a0
 (an (kbT (GL n) trivial) (brP (fun (h0:(sQ n)=true)=>
 (bE (show r32 n=false from (cx h0)))) (fun h0=>
 (an a0
 (bE (show r32 n=true from (au h0)))))))))
 (by kernel_rfl))
def Jg:Code:=bV 0 (aH 68)
def sR (n:Net) (_:State) (_ :Int) (e:Edge) (i0:Nat):Am.Loc:=[(4,.pf (aR n)),(7,.pf (bc e)),(9,.pt 0 0),(12,I (i0:Int))]
def sS (n:Net) (s:State) (_ :Int) (_:Edge) (_:Nat):List Ob:=[.box 51 (aD (aB n.rules s.aK))]
def wT (n:Net) (_:State) (_ :Int) (e:Edge) (i0:Nat):Bool:=(!(r95 n (ah e.en i0)))
def yz (n:Net) (s:State) (at' :Int) (e:Edge):Bool:=dh (length e.en) (wT n s at' e)
def uY (_:Net) (_:State) (_ :Int) (_:Edge) (_:Nat):Am.Loc:=[(8,B false)]
def uZ (_:Net) (_:State) (_ :Int) (_:Edge) (_:Nat):List Ob:=[]
def nY (_:Net) (_:State) (_ :Int) (_:Edge):Am.Loc:=[(9,.pt 0 0)]
def nZ (n:Net) (s:State) (_ :Int) (_:Edge):List Ob:=[.box 51 (aD (aB n.rules s.aK))]
def GN (n:Net) (s:State) (at' :Int) (e:Edge):KB:=⟨sR n s at' e 0,sS n s at' e 0,yz n s at' e,.ret,uY n s at' e (cc (length e.en) (wT n s at' e)),uZ n s at' e (cc (length e.en) (wT n s at' e)),.normal,nY n s at' e,nZ n s at' e,True⟩
def ER (n:Net) (s:State) (at' :Int) (e:Edge) (i0:Nat):List bj:=[htW (wT n s at' e i0) .ret (uY n s at' e i0) za (uZ n s at' e i0),nxW (wT n s at' e i0) (sR n s at' e (i0+1)) (sS n s at' e (i0+1)) (sR n s at' e (i0+1)) zAU (sS n s at' e (i0+1))]
def Xt (_:Net) (_:State) (_ :Int) (e:Edge) (i0:Nat):GT:=(.r [.k,bT] (.yes (.r [.row (fG (ah e.en i0)),.int 0,bT] (.br (.r [bT] (.pick 0)) (.r [.int ↑(i0+1),bT] (.pick 1))))))
theorem YI (n:Net) (s:State) (at' :Int) (e:Edge) (i0:Nat) (he:DH e) (hr:0<=State.aK s/\State.aK s<(length n.rules:Int)) (hx0:i0<(length e.en)):vcC pg 262 (bC [i95 n (ah e.en i0)] base) aO 3000 (kbL []) Jg (bu (sR n s at' e i0)) (bA (sS n s at' e i0)) 1 (bQ (ER n s at' e i0)) (Xt n s at' e i0):=
 have hr1:=hr.1;have hr2:=hr.2;have la:=he.en;have ls:=he.set;have l1:=aW fG (e.en);have hb:(decide ((i0:Int)<(length (map fG e.en):Int)))=true:=decide_eq_true (by omega);
 aZ (an (a1 a0)
 (an hb (an (cA (g95 n (ah e.en i0)) trivial (ac (bR fG (l:=e.en) (i:=i0) (by omega)) a0))
 (brP (fun (h1:(!(r95 n (ah e.en i0)))=true)=>
 (an a0
 (lf (wy (ER n s at' e i0) 0) 1 (show wT n s at' e i0=true from h1)))) (fun h1=>
 (an (ac (dwr (z:= ↑(i0+1)) (by omega) (by omega)) a0)
 (lf (wy (ER n s at' e i0) 1) 1 ⟨(show wT n s at' e i0=false from h1),rfl,rfl⟩)))))))
 (by kernel_rfl)
theorem YJ (n:Net) (s:State) (at' :Int) (e:Edge) (he:DH e) (hr:0<=State.aK s/\State.aK s<(length n.rules:Int)):vcC pg 262 base aO 3000 (kbL []) Jg (bu (sR n s at' e (length e.en))) (bA (sS n s at' e (length e.en))) 1 (bQ [⟨True,(.exit 0),nY n s at' e,range 1,nZ n s at' e⟩]) zE:=
 have hr1:=hr.1;have hr2:=hr.2;have la:=he.en;have ls:=he.set;have l1:=aW fG (e.en);have hb:(decide ((((length e.en):Nat):Int)<(length (map fG e.en):Int)))=false:=decide_eq_false (by omega);
 aZ (an (a1 a0)
 (an hb (lf (wy [⟨True,(.exit 0),nY n s at' e,range 1,nZ n s at' e⟩] 0) 1 trivial)))
 (by kernel_rfl)
theorem RP (n:Net) (s:State) (at' :Int) (e:Edge) (i0:Nat):(ER n s at' e i0).all zr=true:=by refine (aF (aQ rfl rfl rfl ?_ ?_) (aF (aQ rfl rfl rfl ?_ ?_) bD))<;>simp (maxDischargeDepth:=9) [nxW,htW,sR,uY,plS,AV.pure,sS,uZ,plO]
theorem RQ (n:Net) (s:State) (at' :Int) (e:Edge):bj.b8 0 ⟨True,(.exit 0),nY n s at' e,range 1,nZ n s at' e⟩=true:=by refine (aQ rfl rfl rfl ?_ ?_)<;>simp (maxDischargeDepth:=9) [nY,plS,nZ,plO]
theorem RS (n:Net) (s:State) (at' :Int) (e:Edge) (he:DH e) (hr:0<=State.aK s/\State.aK s<(length n.rules:Int)):dg pg 262 0 0 (.loop Jg) (GN n s at' e):=
 have hr1:=hr.1;have hr2:=hr.2;have la:=he.en;have ls:=he.set;bZ (fun _=>e9 (id:=0) (m:=length (Edge.en e)) (t:=wT n s at' e) (xr:= .ret) (xn:=(.exit 0)) (Lr:=uY n s at' e) (Lx:=nY n s at' e) (obr:=uZ n s at' e) (obx:=nZ n s at' e) (V:=fun i0=>vcC pg 262 (bC [i95 n (ah (Edge.en e) i0)] base) aO 3000 (kbL []) Jg) (sR n s at' e) (sS n s at' e) 1 (ER n s at' e) (Xt n s at' e) _ _ (fun i0 hx0=>aS (bf (.cons (g95 n (ah (Edge.en e) i0)) rfl cv.nil) aw) mixed (az _)) (aS aw mixed (az _)) (fun e=>by cases e) (fun e=>by cases e) (fun _=>rfl) (fun i0 hx0=>YI n s at' e i0 he hr hx0) (fun i0 _=>RP n s at' e i0) (fun i0 _=>show∀ww∈ER n s at' e i0,cy _ _ _ _ _ _ ww from (aG da (aG cg bG))) (YJ n s at' e he hr) (RQ n s at' e)) (fun h=>h) (fun h=>h)
def r68 (n:Net) (s:State) (at' :Int) (e:Edge):Bool:=(!(!(r67 n e.to s.aK))&&(!((r91 e.set) !=0)&&(!(!((e.op==1)==(decide ((length (map bo e.set):Int)>0))))&&(!(!((e.op==7)==(decide ((length (map fG e.en):Int)>0))))&&(bif e.op !=3 then (!(!(r92 e.g))&&(!(!((e.op==4)==(at' ==(aB n.rules s.aK).start)))&&(bif e.op==1 then (bif !(aB n.rules s.aK).bP then (!(decide ((((ah e.set 0)).1)<1))&&(!(decide ((((aB e.set ((length (map bo e.set):Int)-1))).2)>(IntKind.wrap IntKind.i32 (length (map bx n.types):Int))))&&(!(e.n !=0)&&(!(e.level !=0)&&e.op==1)))) else (!(decide ((((ah e.set 0)).1)<0))&&(!(decide ((((aB e.set ((length (map bo e.set):Int)-1))).2)>1114111))&&(!(e.n !=0)&&(!(e.level !=0)&&e.op==1))))) else (bif e.op==2 then (!(decide (e.n<0))&&(!(decide (e.n>=(length (map aD n.rules):Int)))&&(!(!((aB n.rules e.n).bP==(aB n.rules s.aK).bP))&&(!(decide (e.level<0))&&(!(decide (e.level>65))&&(bif decide (e.level>0) then (!(e.n !=s.aK)&&(!(!(aB n.rules s.aK).left))) else true)))))) else (bif e.op==4 then ((decide (e.n>=1))&&((decide (e.n<=64))&&e.level==0)) else (bif e.op==5 then ((aB n.rules s.aK).left&&((decide (e.n>=1))&&((decide (e.n<=64))&&((decide (e.level>=1))&&decide (e.level<=64))))) else (!(e.n !=0)&&(!(e.level !=0)&&(bif e.op==7 then (!(yz n s at' e)&&((aB n.rules s.aK).bP&& !(aB n.rules s.aK).eK)) else (bif e.op==6 then (aB n.rules s.aK).left else ((e.op==0)||e.op==1))))))))))) else (!(!((e.op==4)==(at' ==(aB n.rules s.aK).start)))&&(!(e.n !=0)&&(!(e.level !=0)&&(((r93 e.g)==0)&&((!(dZ 14 e.g))&&((aB n.rules s.aK).bP|| !(dZ 13 e.g))))))))))))
theorem xR:dB [0] (aH 68)=[(0,.loop Jg)]:=by kernel_rfl
abbrev zBx (e:Edge):=(map bo e.set)
abbrev zV (e:Edge):GT:=(.a (.r (.row (bo (ah e.set 0))::.k::uFF 11 [bT]) zD) (.r (.row (bo (ah e.set 0))::.k::uTT 6 (.int ((length (zBx e):Int)-1)::bT::.cC (((length (zBx e):Int)-1)).toNat (bo (aB e.set ((length (zBx e):Int)-1)))::uTT 4 [.k,bT])) (.br zD (.r [.k,bT] (.no (.r [.k,bT] (.no (.r [.k,bT] (.no (.a (.r zAO zD) (.r zAB (.br zD (.r [.k,bT] (.no (.r [.k,bT] (.no (.r [.k,bT] (.no (.r zAB .nil)))))))))))))))))))
abbrev zBk:List Gi:=[.k,.k,.k,bT]
abbrev zBv:GT:=(.r (uFF 12 [bT]) .nil)
theorem YK (n:Net) (s:State) (at' :Int) (e:Edge) (he:DH e) (hr:0<=State.aK s/\State.aK s<(length n.rules:Int)):ba pg 68 [.ag (aR n),.ag (ak s),I at',.ag (bc e)] [] [] (B (r68 n s at' e)) []:=
 have hr1:=hr.1;have hr2:=hr.2;have la:=he.en;have ls:=he.set;bB (fn:=Tryz.f68) (callf:=(bC [i67 n e.to s.aK,i91 e.set,i92 e.g,i93 e.g,RH e.g 14,RH e.g 13] base)) (pu:=aO) (lf:=3000) (l:=[(0,GN n s at' e)]) (t:=(.r [bT] (.r [.cC (s.aK).toNat (aD (aB n.rules s.aK)),bT] (.a (.r (.int 0::uFF 4 [bT]) zD) (.r [.int 0,bT,bT,bT,.int 1,bT,.k,bT] (.br zD (.a (.r (.k::.k::.k::uFF 17 [bT]) zD) (.a (.r (.k::.k::.k::bT::bT::bT::.k::uTT 4 (.k::bT::.k::uFF 9 [bT])) zD) (.a (.r (.k::.k::.k::bT::bT::bT::.k::uTT 4 (.k::bT::.k::bT::bT::bT::.k::uTT 4 [.int 2,bT,bT,bT])) (.br zD (.r zBk (.br zD (.r [.k,bT] (.br (.r [bT] (.r [bT] (.br (.r [bT] (.r [bT] (zV e))) (zV e)))) (.r [.k,bT] (.br (.a (.r (.k::uFF 37 [bT]) zD) (.a (.r (.k::uTT 6 (.k::uFF 31 [bT])) zD) (.a (.r (.k::uTT 6 (.k::uTT 5 (.cC (e.n).toNat (aD (aB n.rules e.n))::uTT 5 (.k::uFF 21 [bT])))) zD) (.a (.r (.k::uTT 6 (.k::uTT 5 (.cC (e.n).toNat (aD (aB n.rules e.n))::uTT 5 (.k::bT::bT::bT::.k::uFF 18 [bT])))) zD) (.a (.r (.k::uTT 6 (.k::uTT 5 (.cC (e.n).toNat (aD (aB n.rules e.n))::uTT 5 (.k::bT::bT::bT::.k::bT::bT::bT::.k::uFF 15 [bT])))) zD) (.a (.a (.r (.k::uTT 6 (.k::uTT 5 (.cC (e.n).toNat (aD (aB n.rules e.n))::uTT 5 (.k::bT::bT::bT::.k::bT::bT::bT::.k::bT::bT::bT::.k::uTT 6 [.k,bT,bF,bF,bF,bT,bT,bT])))) zD) (.r (.k::uTT 6 (.k::uTT 5 (.cC (e.n).toNat (aD (aB n.rules e.n))::uTT 5 (.k::bT::bT::bT::.k::bT::bT::bT::.k::bT::bT::bT::.k::uTT 6 (.k::uTT 7 []))))) (.br zD zD))) (.r (.k::uTT 6 (.k::uTT 5 (.cC (e.n).toNat (aD (aB n.rules e.n))::uTT 5 (.k::bT::bT::bT::.k::bT::bT::bT::.k::bT::bT::bT::.k::bT::uFF 10 [bT,bT])))) zD))))))) (.r [.k,bT] (.br zF (.r [.k,bT] (.br (.a (.a (.a (.a (.r [bT,bT,bT,.k,bT,bT,bT,.k,bT,bT,bT,.k,bT,bT,bT,.k,bT] .nil) (.r [bT,bT,bT,.k,bT,bT,bT,.k,bT,bT,bT,.k,bF,bF,bF,bT] .nil)) (.r (bT::bT::bT::.k::bT::bT::bT::.k::uFF 6 [bT]) .nil)) (.r (bT::bT::bT::.k::uFF 9 [bT]) .nil)) zBv) (.a (.r zAO zD) (.r zAB (.br zD (.r [.k,bT] (.no (.r [.k,bT] (.br (.r [bT] (.br .nil (.a (.r (uTT 4 []) .nil) (.r [bF,bF,bF,bT] .nil)))) (.r [.k,bT] (.br zD (.a (.r zAO .nil) (.r zAB .nil))))))))))))))))))))))) (.r (.k::.k::.k::bT::bT::bT::.k::uTT 4 (.k::bT::.k::bT::bT::bT::.k::bT::uFF 4 [bT,bT])) (.r zBk (.br zD (.r [.k,bT] (.no (.r [.k,bT] (.no (.r [.k,bT] (.no (.r [.k,bT] (.no (.a (.r zAO zD) (.r zAB (.br zD (.r [.k,bT] (.yes (.a (.a (.a (.r (.int 3::.k::bT::bT::bT::.int 4::uTT 4 (uFF 4 [bT,bT])) .nil) (.r (.int 3::.k::bT::bT::bT::.int 4::uTT 7 [.int 5,bT,bT,bT]) .nil)) (.r (.int 3::.k::bT::bT::bT::.int 4::bT::uFF 8 [bT]) .nil)) (.r (.int 3::.k::uFF 12 [bT]) .nil))))))))))))))))))))))))))) (bf (.cons (g67 n e.to s.aK) rfl (.cons (g91 e.set) rfl (.cons (g92 e.g) rfl (.cons (g93 e.g) rfl (.cons (OS e.g 14) rfl (.cons (OS e.g 13) rfl cv.nil)))))) aw) mixed Tryz.func68 (by kernel_rfl) (show Tryz.f68.body=some (aH 68) by kernel_rfl) (Nat.le_of_ble_eq_true rfl) (bO (l:=[(0,GN n s at' e)]) xR (aV (RS n s at' e he hr) rfl bn) rfl) rfl (aZ
 (an a0
 (have l1:=aW aD (n.rules);an (ac (bK (f:=aD) (l:=n.rules) (s:=s.aK) (decide_eq_true (by omega)) (decide_eq_true (by omega))) a0)
 (aP (fun (h0:(!(r67 n e.to s.aK))=true)=>
 (an (aN 3 (ac (n2 h0) (cA (g67 n e.to s.aK) trivial a0)))
 (an a0
 (bE (show r68 n s at' e=false from (aY (cx h0))))))) (fun h0=>have q0:=(aE (au h0) rfl:r68 n s at' e=_);have g0:=K6 (GK h0);
 (an (aN 2 (cA (g91 e.set) he.set (aN 2 (ac (au h0) (cA (g67 n e.to s.aK) trivial a0)))))
 (brP (fun (h1:((r91 e.set) !=0)=true)=>
 (an a0
 (bE (q0.trans (aY (cx h1)))))) (fun h1=>have q1:=q0.trans (aE (au h1) rfl);have g1:=fO h1;
 (aP (fun (h2:(!((e.op==1)==(decide ((length (map bo e.set):Int)>0))))=true)=>
 (an (aN 16 (ac (n2 h2) (aN 3 a0)))
 (an a0
 (bE (q1.trans (aY (cx h2))))))) (fun h2=>have q2:=q1.trans (aE (au h2) rfl);have l2:=aW bo (e.set);have g2:=Je h2;have g2:=Je h2;
 (aP (fun (h3:(!((e.op==7)==(decide ((length (map fG e.en):Int)>0))))=true)=>
 (an (aN 8 (ac (n2 h3) (aN 10 (ac (au h2) (aN 3 a0)))))
 (an a0
 (bE (q2.trans (aY (cx h3))))))) (fun h3=>have q3:=q2.trans (aE (au h3) rfl);have l3:=aW fG (e.en);have g3:=Je h3;have g3:=Je h3;
 (aP (fun (h4:(e.op !=3)=true)=>have q4:=q3.trans (cdT h4 rfl);have g4:=KS h4;
 (an (aN 2 (cA (g92 e.g) trivial (aN 2 (ac h4 (aN 4 (ac (au h3) (aN 10 (ac (au h2) (aN 3 a0)))))))))
 (brP (fun (h5:(!(r92 e.g))=true)=>
 (an a0
 (bE (q4.trans (aY (cx h5)))))) (fun h5=>have q6:=q4.trans (aE (au h5) rfl);
 (an (aN 3 a0)
 (brP (fun (h6:(!((e.op==4)==(at' ==(aB n.rules s.aK).start)))=true)=>
 (an a0
 (bE (q6.trans (aY (cx h6)))))) (fun h6=>have q8:=q6.trans (aE (au h6) rfl);
 (an (a1 a0)
 (brP (fun (h7:(e.op==1)=true)=>have q10:=q8.trans (cdT h7 rfl);have g7:=eq_of_beq h7;
 (an a0
 (an a0
 (brP (fun (h8:(!(aB n.rules s.aK).bP)=true)=>have q13:=q10.trans (cdT h8 rfl);
 (an a0
 (an a0
 (aP (fun (h9:(decide ((((ah e.set 0)).1)<1))=true)=>have g9:=of_decide_eq_true h9;
 (an (aN 10 (ac (n2 h9) (a1 (ac (bR bo (l:=e.set) (i:=0) (by omega)) a0))))
 (an a0
 (bE (q13.trans (aY (cx h9))))))) (fun h9=>have q18:=q13.trans (aE (au h9) rfl);have g9:=of_decide_eq_false h9;
 (an (aN 5 (ac (bK (f:=bo) (l:=e.set) (s:=((length (map bo e.set):Int)-1)) (decide_eq_true (by omega)) (decide_eq_true (by omega))) (a1 (ac (dwr (z:=((length (map bo e.set):Int)-1)) (by omega) (by omega)) (aN 5 (ac (au h9) (a1 (ac (bR bo (l:=e.set) (i:=0) (by omega)) a0))))))))
 (brP (fun (h10:(decide ((((aB e.set ((length (map bo e.set):Int)-1))).2)>(IntKind.wrap IntKind.i32 (length (map bx n.types):Int))))=true)=>
 (an a0
 (bE (q18.trans (aY (cx h10)))))) (fun h10=>have q23:=q18.trans (aE (au h10) rfl);
 (an (a1 a0)
 (an (show (e.op==2)=false by rw [eq_of_beq h7];rfl) (an (a1 a0)
 (an (show (e.op==4)=false by rw [eq_of_beq h7];rfl) (an (a1 a0)
 (an (show (e.op==5)=false by rw [eq_of_beq h7];rfl) (aP (fun (h11:(e.n !=0)=true)=>
 (an (aN 2 (ac (n2 h11) (a1 a0)))
 (an a0
 (bE (q23.trans (aY (cx h11))))))) (fun h11=>
 (an (aN 3 (ac (au h11) (a1 a0)))
 (brP (fun (h12:(e.level !=0)=true)=>
 (an a0
 (bE (q23.trans (aE (au h11) (aY (cx h12))))))) (fun h12=>
 (an (a1 a0)
 (an (show (e.op==3)=false by simpa using h4) (an (a1 a0)
 (an (show (e.op==7)=false by rw [eq_of_beq h7];rfl) (an (a1 a0)
 (an (show (e.op==6)=false by rw [eq_of_beq h7];rfl) (an (aN 3 (ac (au (show (e.op==0)=false by rw [eq_of_beq h7];rfl)) (a1 a0)))
 (bE (show r68 n s at' e=(e.op==1) from (aE (au h0) (aE (au h1) (aE (au h2) (aE (au h3) (cdT h4 (aE (au h5) (aE (au h6) (cdT h7 (cdT h8 (aE (au h9) (aE (au h10) (aE (au h11) (aE (au h12) rfl))))))))))))))))))))))))))))))))))))))))) (fun h8=>have q14:=q10.trans (cdF h8 rfl);
 (aP (fun (h9:(decide ((((ah e.set 0)).1)<0))=true)=>have g9:=of_decide_eq_true h9;
 (an (aN 10 (ac (n2 h9) (a1 (ac (bR bo (l:=e.set) (i:=0) (by omega)) a0))))
 (an a0
 (bE (q14.trans (aY (cx h9))))))) (fun h9=>have q19:=q14.trans (aE (au h9) rfl);have g9:=of_decide_eq_false h9;
 (an (aN 5 (ac (bK (f:=bo) (l:=e.set) (s:=((length (map bo e.set):Int)-1)) (decide_eq_true (by omega)) (decide_eq_true (by omega))) (a1 (ac (dwr (z:=((length (map bo e.set):Int)-1)) (by omega) (by omega)) (aN 5 (ac (au h9) (a1 (ac (bR bo (l:=e.set) (i:=0) (by omega)) a0))))))))
 (brP (fun (h10:(decide ((((aB e.set ((length (map bo e.set):Int)-1))).2)>1114111))=true)=>
 (an a0
 (bE (q19.trans (aY (cx h10)))))) (fun h10=>have q24:=q19.trans (aE (au h10) rfl);
 (an (a1 a0)
 (an (show (e.op==2)=false by rw [eq_of_beq h7];rfl) (an (a1 a0)
 (an (show (e.op==4)=false by rw [eq_of_beq h7];rfl) (an (a1 a0)
 (an (show (e.op==5)=false by rw [eq_of_beq h7];rfl) (aP (fun (h11:(e.n !=0)=true)=>
 (an (aN 2 (ac (n2 h11) (a1 a0)))
 (an a0
 (bE (q24.trans (aY (cx h11))))))) (fun h11=>
 (an (aN 3 (ac (au h11) (a1 a0)))
 (brP (fun (h12:(e.level !=0)=true)=>
 (an a0
 (bE (q24.trans (aE (au h11) (aY (cx h12))))))) (fun h12=>
 (an (a1 a0)
 (an (show (e.op==3)=false by simpa using h4) (an (a1 a0)
 (an (show (e.op==7)=false by rw [eq_of_beq h7];rfl) (an (a1 a0)
 (an (show (e.op==6)=false by rw [eq_of_beq h7];rfl) (an (aN 3 (ac (au (show (e.op==0)=false by rw [eq_of_beq h7];rfl)) (a1 a0)))
 (bE (show r68 n s at' e=(e.op==1) from (aE (au h0) (aE (au h1) (aE (au h2) (aE (au h3) (cdT h4 (aE (au h5) (aE (au h6) (cdT h7 (cdF h8 (aE (au h9) (aE (au h10) (aE (au h11) (aE (au h12) rfl))))))))))))))))))))))))))))))))))))))))))) (fun h7=>have q11:=q8.trans (cdF h7 rfl);have g7:=ne_of_beq_false h7;
 (an (a1 a0)
 (brP (fun (h8:(e.op==2)=true)=>have q15:=q11.trans (cdT h8 rfl);have g8:=eq_of_beq h8;
 (aP (fun (h9:(decide (e.n<0))=true)=>
 (an (aN 36 (ac (n2 h9) (a1 a0)))
 (an a0
 (bE (q15.trans (aY (cx h9))))))) (fun h9=>have q20:=q15.trans (aE (au h9) rfl);have g9:=of_decide_eq_false h9;
 (aP (fun (h10:(decide (e.n>=(length (map aD n.rules):Int)))=true)=>
 (an (aN 30 (ac (n2 h10) (aN 6 (ac (au h9) (a1 a0)))))
 (an a0
 (bE (q20.trans (aY (cx h10))))))) (fun h10=>have q25:=q20.trans (aE (au h10) rfl);have g10:=of_decide_eq_false h10;
 (aP (fun (h11:(!((aB n.rules e.n).bP==(aB n.rules s.aK).bP))=true)=>
 (an (aN 20 (ac (n2 h11) (aN 6 (ac (bK (f:=aD) (l:=n.rules) (s:=e.n) (decide_eq_true (by omega)) (decide_eq_true (by omega))) (aN 4 (ac (au h10) (aN 6 (ac (au h9) (a1 a0)))))))))
 (an a0
 (bE (q25.trans (aY (cx h11))))))) (fun h11=>have q28:=q25.trans (aE (au h11) rfl);
 (aP (fun (h12:(decide (e.level<0))=true)=>have g12:=of_decide_eq_true h12;
 (an (aN 17 (ac (n2 h12) (aN 3 (ac (au h11) (aN 6 (ac (bK (f:=aD) (l:=n.rules) (s:=e.n) (decide_eq_true (by omega)) (decide_eq_true (by omega))) (aN 4 (ac (au h10) (aN 6 (ac (au h9) (a1 a0)))))))))))
 (an a0
 (bE (q28.trans (aY (cx h12))))))) (fun h12=>have q31:=q28.trans (aE (au h12) rfl);have g12:=of_decide_eq_false h12;
 (aP (fun (h13:(decide (e.level>65))=true)=>have g13:=of_decide_eq_true h13;
 (an (aN 14 (ac (n2 h13) (aN 3 (ac (au h12) (aN 3 (ac (au h11) (aN 6 (ac (bK (f:=aD) (l:=n.rules) (s:=e.n) (decide_eq_true (by omega)) (decide_eq_true (by omega))) (aN 4 (ac (au h10) (aN 6 (ac (au h9) (a1 a0)))))))))))))
 (an a0
 (bE (q31.trans (aY (cx h13))))))) (fun h13=>have q34:=q31.trans (aE (au h13) rfl);have g13:=of_decide_eq_false h13;
 (aP (fun (h14:(decide (e.level>0))=true)=>have q36:=q34.trans (cdT h14 rfl);have g14:=of_decide_eq_true h14;
 (aP (fun (h15:(e.n !=s.aK)=true)=>
 (an (aN 4 (ac (n2 h15) (aN 6 (ac h14 (aN 4 (ac (au h13) (aN 3 (ac (au h12) (aN 3 (ac (au h11) (aN 6 (ac (bK (f:=aD) (l:=n.rules) (s:=e.n) (decide_eq_true (by omega)) (decide_eq_true (by omega))) (aN 4 (ac (au h10) (aN 6 (ac (au h9) (a1 a0)))))))))))))))))
 (an a0
 (bE (q36.trans (aY (cx h15))))))) (fun h15=>have q37:=q36.trans (aE (au h15) rfl);
 (an (aN 4 (ac (au h15) (aN 6 (ac h14 (aN 4 (ac (au h13) (aN 3 (ac (au h12) (aN 3 (ac (au h11) (aN 6 (ac (bK (f:=aD) (l:=n.rules) (s:=e.n) (decide_eq_true (by omega)) (decide_eq_true (by omega))) (aN 4 (ac (au h10) (aN 6 (ac (au h9) (a1 a0)))))))))))))))))
 (brP (fun (h16:(!(aB n.rules s.aK).left)=true)=>
 (an a0
 (bE (q37.trans (cx h16))))) (fun h16=>
 (an a0
 (bE (q37.trans (au h16)))))))))) (fun h14=>have g14:=of_decide_eq_false h14;
 (an (aN 10 (ac (au h14) (aN 4 (ac (au h13) (aN 3 (ac (au h12) (aN 3 (ac (au h11) (aN 6 (ac (bK (f:=aD) (l:=n.rules) (s:=e.n) (decide_eq_true (by omega)) (decide_eq_true (by omega))) (aN 4 (ac (au h10) (aN 6 (ac (au h9) (a1 a0)))))))))))))))
 (an a0
 (bE (q34.trans (cdF h14 rfl)))))))))))))))))) (fun h8=>have q16:=q11.trans (cdF h8 rfl);
 (an (a1 a0)
 (brP (fun (h9:(e.op==4)=true)=>have q21:=q16.trans (cdT h9 rfl);
 (aP (fun (h10:(decide (e.n>=1))=true)=>
 (aP (fun (h11:(decide (e.n<=64))=true)=>
 (an (aN 3 (ac h11 (aN 3 (ac h10 (a1 a0)))))
 (bE (show r68 n s at' e=(e.level==0) from (aE (au h0) (aE (au h1) (aE (au h2) (aE (au h3) (cdT h4 (aE (au h5) (aE (au h6) (cdF h7 (cdF h8 (cdT h9 (aE h10 (aE h11 rfl)))))))))))))))) (fun h11=>
 (an (aN 2 (ac (au h11) (aN 3 (ac h10 (a1 a0)))))
 (bE (q21.trans (aE h10 (aY h11)))))))) (fun h10=>
 (an (aN 5 (ac (au h10) (a1 a0)))
 (bE (q21.trans (aY h10))))))) (fun h9=>have q22:=q16.trans (cdF h9 rfl);
 (an (a1 a0)
 (brP (fun (h10:(e.op==5)=true)=>have q26:=q22.trans (cdT h10 rfl);
 (aP (fun (h11:((aB n.rules s.aK).left)=true)=>have q29:=q26.trans (aE h11 rfl);
 (aP (fun (h12:(decide (e.n>=1))=true)=>have q32:=q29.trans (aE h12 rfl);
 (aP (fun (h13:(decide (e.n<=64))=true)=>
 (aP (fun (h14:(decide (e.level>=1))=true)=>
 (an (aN 3 (ac h14 (aN 3 (ac h13 (aN 3 (ac h12 (aN 3 (ac h11 a0))))))))
 (bE (show r68 n s at' e=(decide (e.level<=64)) from (aE (au h0) (aE (au h1) (aE (au h2) (aE (au h3) (cdT h4 (aE (au h5) (aE (au h6) (cdF h7 (cdF h8 (cdF h9 (cdT h10 (aE h11 (aE h12 (aE h13 (aE h14 rfl))))))))))))))))))) (fun h14=>
 (an (aN 2 (ac (au h14) (aN 3 (ac h13 (aN 3 (ac h12 (aN 3 (ac h11 a0))))))))
 (bE (q32.trans (aE h13 (aY h14)))))))) (fun h13=>
 (an (aN 5 (ac (au h13) (aN 3 (ac h12 (aN 3 (ac h11 a0))))))
 (bE (q32.trans (aY h13))))))) (fun h12=>
 (an (aN 8 (ac (au h12) (aN 3 (ac h11 a0))))
 (bE (q29.trans (aY h12))))))) (fun h11=>
 (an (aN 11 (ac (au h11) a0))
 (bE (q26.trans (aY h11))))))) (fun h10=>have q27:=q22.trans (cdF h10 rfl);
 (aP (fun (h11:(e.n !=0)=true)=>
 (an (aN 2 (ac (n2 h11) (a1 a0)))
 (an a0
 (bE (q27.trans (aY (cx h11))))))) (fun h11=>have q30:=q27.trans (aE (au h11) rfl);
 (an (aN 3 (ac (au h11) (a1 a0)))
 (brP (fun (h12:(e.level !=0)=true)=>
 (an a0
 (bE (q30.trans (aY (cx h12)))))) (fun h12=>have q33:=q30.trans (aE (au h12) rfl);
 (an (a1 a0)
 (an (show (e.op==3)=false by simpa using h4) (an (a1 a0)
 (brP (fun (h13:(e.op==7)=true)=>have q35:=q33.trans (cdT h13 rfl);
 (an a0
 (an (kbT (GN n s at' e) trivial) (brP (fun (h14:(yz n s at' e)=true)=>
 (bE (q35.trans (aY (cx h14))))) (fun h14=>
 (aP (fun (h15:((aB n.rules s.aK).bP)=true)=>
 (an (aN 2 (ac h15 a0))
 (bE (show r68 n s at' e=(!(aB n.rules s.aK).eK) from (aE (au h0) (aE (au h1) (aE (au h2) (aE (au h3) (cdT h4 (aE (au h5) (aE (au h6) (cdF h7 (cdF h8 (cdF h9 (cdF h10 (aE (au h11) (aE (au h12) (cdT h13 (aE (au h14) (aE h15 rfl)))))))))))))))))))) (fun h15=>
 (an (aN 2 (ac (au h15) a0))
 (bE (q35.trans (aE (au h14) (aY h15)))))))))))) (fun h13=>
 (an (a1 a0)
 (brP (fun (h14:(e.op==6)=true)=>
 (an a0
 (bE (show r68 n s at' e=(aB n.rules s.aK).left from (aE (au h0) (aE (au h1) (aE (au h2) (aE (au h3) (cdT h4 (aE (au h5) (aE (au h6) (cdF h7 (cdF h8 (cdF h9 (cdF h10 (aE (au h11) (aE (au h12) (cdF h13 (cdT h14 rfl))))))))))))))))))) (fun h14=>
 (aP (fun (h15:(e.op==0)=true)=>
 (an (aN 2 (ac (n2 h15) (a1 a0)))
 (bE (q33.trans (cdF h13 (cdF h14 (orT h15))))))) (fun h15=>
 (an (aN 3 (ac (au h15) (a1 a0)))
 (bE (show r68 n s at' e=(e.op==1) from (aE (au h0) (aE (au h1) (aE (au h2) (aE (au h3) (cdT h4 (aE (au h5) (aE (au h6) (cdF h7 (cdF h8 (cdF h9 (cdF h10 (aE (au h11) (aE (au h12) (cdF h13 (cdF h14 (orF h15 rfl))))))))))))))))))))))))))))))))))))))))))))))))))))) (fun h4=>have q5:=q3.trans (cdF h4 rfl);
 (an (aN 4 (ac (au h4) (aN 4 (ac (au h3) (aN 10 (ac (au h2) (aN 3 a0)))))))
 (an (aN 3 a0)
 (brP (fun (h5:(!((e.op==4)==(at' ==(aB n.rules s.aK).start)))=true)=>
 (an a0
 (bE (q5.trans (aY (cx h5)))))) (fun h5=>have q7:=q5.trans (aE (au h5) rfl);
 (an (a1 a0)
 (an (show (e.op==1)=false by rw [fO h4];rfl) (an (a1 a0)
 (an (show (e.op==2)=false by rw [fO h4];rfl) (an (a1 a0)
 (an (show (e.op==4)=false by rw [fO h4];rfl) (an (a1 a0)
 (an (show (e.op==5)=false by rw [fO h4];rfl) (aP (fun (h6:(e.n !=0)=true)=>
 (an (aN 2 (ac (n2 h6) (a1 a0)))
 (an a0
 (bE (q7.trans (aY (cx h6))))))) (fun h6=>have q9:=q7.trans (aE (au h6) rfl);
 (an (aN 3 (ac (au h6) (a1 a0)))
 (brP (fun (h7:(e.level !=0)=true)=>
 (an a0
 (bE (q9.trans (aY (cx h7)))))) (fun h7=>have q12:=q9.trans (aE (au h7) rfl);
 (an (a1 a0)
 (an (show (e.op==3)=true by rw [fO h4];rfl) (aP (fun (h8:((r93 e.g)==0)=true)=>have q17:=q12.trans (aE h8 rfl);
 (aP (fun (h9:(!(dZ 14 e.g))=true)=>
 (aP (fun (h10:((aB n.rules s.aK).bP)=true)=>
 (an (aN 4 (ac (n2 h10) (aN 2 (ac h9 (a1 (cA (OS e.g 14) he.g (aN 2 (ac h8 (a1 (cA (g93 e.g) he.g a0))))))))))
 (bE (q17.trans (aE h9 (orT h10)))))) (fun h10=>
 (an (aN 2 (cA (OS e.g 13) he.g (aN 2 (ac (au h10) (aN 2 (ac h9 (a1 (cA (OS e.g 14) he.g (aN 2 (ac h8 (a1 (cA (g93 e.g) he.g a0))))))))))))
 (bE (show r68 n s at' e=(!(dZ 13 e.g)) from (aE (au h0) (aE (au h1) (aE (au h2) (aE (au h3) (cdF h4 (aE (au h5) (aE (au h6) (aE (au h7) (aE h8 (aE h9 (orF h10 rfl))))))))))))))))) (fun h9=>
 (an (aN 7 (ac (au h9) (a1 (cA (OS e.g 14) he.g (aN 2 (ac h8 (a1 (cA (g93 e.g) he.g a0))))))))
 (bE (q17.trans (aY h9))))))) (fun h8=>
 (an (aN 11 (ac (au h8) (a1 (cA (g93 e.g) he.g a0))))
 (bE (q12.trans (aY h8))))))))))))))))))))))))))))))))))))))
 (by kernel_rfl))
end Go.Proofs.YtfkjfjalecikkaaGreatDoor
end
