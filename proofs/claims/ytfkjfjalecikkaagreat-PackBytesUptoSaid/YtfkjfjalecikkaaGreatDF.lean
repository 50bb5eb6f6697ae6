/- Graphs: which nodes are come to from one. graph.from. graph.from: the nodes come to from one, by a step at least. ref11.reach: the states that are come to from one. ref11.reach: its loops, the function. Which rules may take nothing (the document's answer). Rings of free edges (the document's answer). Rings of calls (the document's answer). Which nets may be (the document's answer). Graphs in memory. Which rules may take nothing. -/
import Derived.Test.YtfkjfjalecikkaaGreatDE
set_option linter.defProp false
open Go.IntKind (wrap)
noncomputable section
open List (length map range replicate)
set_option maxRecDepth 100000
namespace Go.Proofs.YtfkjfjalecikkaaGreat
open Go.Am
def Edg(g:List lXC)(i k:Nat):Prop:=k∈ae g i
inductive Rp(g:List lXC):Nat->Nat->Prop
 |one {i k:Nat} (h:Edg g i k):Rp g i k
 |step {i j k:Nat} (h:Rp g i j) (e:Edg g j k):Rp g i k
def Rp.trans{g:List lXC}{i j k:Nat}(h:Rp g i j)(e:Rp g j k):Rp g i k:=by
 induction e with
 |one e=>exact .step h e
 |step _ e ih=>exact .step ih e
def Wf(g:List lXC):Prop:= ∀R∈g,∀c∈R,c<g.length
def nZ{g:List lXC}(hw:Wf g){i c:Nat}(h:Edg g i c):c<g.length:=by
 unfold Edg at h;by_cases hi:i<g.length
 ·exact hw _ (gn hi) c h
 ·simp[ae,agh (show g.length<=i by omega)]at h;cases h
abbrev St:=lXB×lXC
def mark(x:St)(c:Nat):St:=bif ae x.1 c then x else(x.1.set c true,x.2++ [c])
def marks(x:St)(R:lXC):St:=R.foldl mark x
def cf(l:lXB):Nat:=l.count false
theorem ma{l:lXB}{c:Nat}:ae l c=true↔l[c]? =some true:=by
 unfold ae;cases h:l[c]? with
 |none=>simp_all
 |some b=>simp
theorem xQ{l:lXB}{c:Nat}(hc:c<l.length)(h:ae l c=false):cf (l.set c true)+1=cf l:=by grind[ae,cf]
theorem GK(x:St)(c:Nat):(mark x c).1.length=x.1.length:=by unfold mark;cases ae x.1 c<;>simp
theorem td(R:lXC): ∀x:St,(marks x R).1.length=x.1.length:=by
 induction R with
 |nil=>intro x;rfl
 |cons c R ih=>grind[marks,GK]
structure Mk(x y:St)(R:lXC):Prop where
 up: ∀k:Nat,x.1[k]? =some true->y.1[k]? =some true
 dn: ∀k:Nat,y.1[k]? =some true->x.1[k]? =some true\/(k∈R/\k∈y.2)
 sub: ∀c:Nat,c∈x.2->c∈y.2
 new: ∀c:Nat,c∈y.2->c∈x.2\/c∈R
 all: ∀c:Nat,c∈R->y.1[c]? =some true
 le:2*cf y.1+y.2.length<=2*cf x.1+x.2.length
def aa3{x:St}{c:Nat}(hc:c<x.1.length):Mk x (mark x c) [c]:=by
 unfold mark;cases h:ae x.1 c with
 |true=>have:=ma.1 h;exact⟨λk hk=>hk,λk hk=> .inl hk,λc hc=>hc,λc hc=> .inl hc,λd hd=>by simp at hd;subst hd;exact this,afP _⟩
 |false=>
  have hcf:=xQ hc h;refine⟨λk hk=> ?_,λk hk=> ?_,λd hd=> ?_,λd hd=> ?_,λd hd=> ?_,?_⟩
  ·grind
  ·grind
  ·simp_all
  ·simp_all
  ·simp at hd;subst hd;simp[hc]
  grind
def Mk.trans{x y z:St}{R S:lXC}(h:Mk x y R)(k:Mk y z S):Mk x z (R++S):=by
 refine⟨λi hi=>k.up i (h.up i hi),λi hi=> ?_,λc hc=>k.sub c (h.sub c hc),λc hc=> ?_,λc hc=> ?_,agu k.le h.le⟩
 ·rcases k.dn i hi with h1|⟨h1,h2⟩
  ·rcases h.dn i h1 with h3|⟨h3,h4⟩
   ·exact .inl h3
   ·exact .inr ⟨ag8 _ h3,k.sub i h4⟩
  simp_all
 ·rcases k.new c hc with h1|h1
  ·rcases h.new c h1 with h2|h2
   ·exact .inl h2
   simp_all
  simp_all
 ·rcases agH.1 hc with h1|h1
  ·exact k.up c (h.all c h1)
  ·exact k.all c h1
def xR: ∀(R:lXC)(x:St),(∀c∈R,c<x.1.length)->Mk x (marks x R) R
 |[],x,_=>⟨λk hk=>hk,λk hk=> .inl hk,λc hc=>hc,λc hc=> .inl hc,λd hd=>by simp at hd,afP _⟩
 |c::R,x,h=>by have h1:=aa3 (x:=x) (c:=c) (h c oaj);have h2:=xR R (mark x c) (by grind[GK]);exact h1.trans h2
theorem J9(x:St)(R:lXC)(j:Nat)(hj:j<R.length):marks x (R.take<|j+1)=mark (marks x<|R.take j) (ae R j):=by grind[List.take_add_one,fC,marks]
structure FI(g:List lXC)(i:Nat)(x:St):Prop where
 len:x.1.length=g.length
 todo: ∀c∈x.2,c<g.length
 snd: ∀k:Nat,x.1[k]? =some true->Rp g i k
 sndT: ∀c∈x.2,c=i\/Rp g i c
 cls: ∀k:Nat,(k=i\/x.1[k]? =some true)->k∈x.2\/ ∀c,Edg g k c->x.1[c]? =some true
 bd:2*cf x.1+x.2.length<=2*g.length+1
def aa4{g:List lXC}{i:Nat}(hi:i<g.length):FI g i (replicate g.length false,[i]):=by
 refine⟨by simp,λc hc=>by simp at hc;omega,λk hk=> ?_,λc hc=>by simp at hc;exact .inl hc,λk hk=> ?_,?_⟩
 ·grind
 ·grind
 ·simp[cf,List.count_replicate]
def Wn{g:List lXC}(hw:Wf g){i v:Nat}{inb:lXB}{t:lXC}(h:FI g i (inb,t++ [v])):FI g i (marks (inb,t)<|ae g v)/\2*cf (marks (inb,t)<|ae g v).1+(marks (inb,t)<|ae g v).2.length<2*cf inb+(t++ [v]).length:=by
 obtain⟨h1,h2,h3,h4,h5,h6⟩:=h;have hR: ∀c∈ae g v,c<inb.length:=λc hc=>by rw[h1];exact nZ hw hc
 have hm:=xR (ae g v) (inb,t) hR;have hv:=h4 v oaj;have hc: ∀c∈ae g v,Rp g i c:=λc hc=>by
  rcases hv with rfl|hv
  ·exact .one hc
  ·exact .step hv hc
 have hlt:2*cf (marks (inb,t)<|ae g v).1+(marks (inb,t)<|ae g v).2.length<2*cf inb+(t++ [v]).length:=by grind[hm.le]
 refine⟨⟨by rw[td];exact h1,λc hc'=> ?_,λk hk=> ?_,λc hc'=> ?_,λk hk=> ?_,by simp only at h6;omega⟩,hlt⟩
 ·rcases hm.new c hc' with h|h
  ·simp_all
  ·exact nZ hw h
 ·rcases hm.dn k hk with h|⟨h,_⟩
  ·exact h3 k h
  ·exact hc k h
 ·rcases hm.new c hc' with h|h
  ·simp_all
  ·exact .inr (hc c h)
 ·by_cases hkv:k=v
  ·subst hkv;exact .inr λc he=>hm.all c he
  ·have hk':(k=i\/inb[k]? =some true)\/k∈(marks (inb,t)<|ae g v).2:=by
    rcases hk with hk|hk
    ·exact .inl (.inl hk)
    ·rcases hm.dn k hk with h|⟨_,h⟩
     ·exact .inl (.inr h)
     ·exact .inr h
   rcases hk' with hk' |hk'
   ·rcases h5 k hk' with h|h
    ·left;simp only[agH,agZ]at h;rcases h with h|h
     ·exact hm.sub k h
     ·exact absurd h hkv
    ·exact .inr λc he=>hm.up c (h c he)
   ·exact .inl hk'
noncomputable def kC(g:List lXC)(i:Nat):lXB:=(range g.length).map λk=>dec (Rp g i k)
theorem adI{g:List lXC}(hw:Wf g){i:Nat}{inb:lXB}(h:FI g i (inb,[])):inb=kC g i:=by
 obtain⟨h1,h2,h3,h4,h5,h6⟩:=h;have hcl: ∀k,(k=i\/inb[k]? =some true)-> ∀c,Edg g k c->inb[c]? =some true:=oaI;have hall: ∀k,Rp g i k->inb[k]? =some true:=by
  intro k hk;induction hk with
  |one e=>exact hcl _ (.inl rfl) _ e
  |step _ e ih=>exact hcl _ (.inr ih) _ e
 apply agd;intro k;unfold kC;rw[afY];by_cases hk:k<g.length
 ·rw[List.getElem?_range hk];simp only[af6];have hki:k<inb.length:=by simp only at h1;omega
  rw[af0 hki];congr 1;grind[aR]
 simp_all
theorem Cb{g:List lXC}{i k:Nat}(hk:k<g.length):ae (kC g i) k=dec (Rp g i k):=by simp[ae,kC,hk]
section
variable{P:Program}{n K:Nat}
theorem Ka{a b:Code}{L L1:Am.Loc}{ob ob1:lXE}{id:Nat}(h:bo P n K a L ob (.exit id) L1 ob1):bo P n K (.seq a b) L ob (.exit id) L1 ob1:=mI h (λe=>by cases e)
end
def dk(c:Nat):lXF:=[I (c:Nat)]
def aA(b:Bool):lXF:=[B b]
def bJ(R:lXC):lXF:=[.sl 1 (R.map dk)]
theorem Cc(c:Nat):aj (dk c)=true:=rfl
theorem bY(c:Bool):aj (aA c)=true:=rfl
def Cd(R:lXC):aj (bJ R)=true:=by simp[bJ,aj,AV.pure,bc Cc]
section
variable(f:Nat->Nat)
theorem xS(l:lXC):de f (l.map dk)=l.map dk:=eC _ _ (bc Cc l)
theorem tf(l:lXB):de f (l.map aA)=l.map aA:=eC _ _ (bc bY l)
theorem xT(l:List lXC):de f (l.map bJ)=l.map bJ:=eC _ _ (bc Cd l)
end
def at1{α:Type}[Inhabited α](f:α->lXF){l:List α}{j:Nat}(h:j<l.length):(dec ((0+j*1)/1=j)&&(dec ((0+j*1)%1=0)&&dec ((l.map f)[j]? =some (f<|ae l j))))=true:=by grind[qS,aR]
def GL{a:Bool}(h:a=true):(a&&true)=true:=by rw[h];rfl
theorem GM{a b:Nat}(h:a<b):Nat.blt a b=true:=agN h
theorem Ce{a b:Nat}(h:a<=b):Nat.ble a b=true:=agN h
def appA{k m:Nat}(h:k<=m)(h2:k+1<=100000000):(Nat.ble k m&&true&&(Nat.ble ((k+1)*8) 140737488355328&&Nat.ble (k+1) 9223372036854775807&&true))=true:=by grind[Ce]
theorem rE(l:lXB)(c:Nat)(b:Bool):(l.map aA).set c [B b]=(l.set c b).map aA:=by rw[List.map_set];rfl
theorem aa5(t:lXC)(c:Nat):(t.map dk).take t.length++ [[I (c:Nat)]]=(t++ [c]).map dk:=by grind[afW,dk]
def RF:Code:=bD 0 (aG 78)
def RG:Code:=bD 2 (aG 78)
def b59:Code:=match Ts 1 (aG 78)with
 |some c=>c
 |none=> .skip
theorem e59o:RF= .seq (sq1 RF) (.block 1<|.seq (sq1 b59)<|.seq (sq1<|sq2 b59)<|.seq (sq1<|sq2<|sq2 b59)<|.block 2<|.loop RG):=by kernel_rfl
def L59(g:List lXC)(n k:Nat):Am.Loc:=[(0,.sl 1 (g.map bJ)),(5,.sr 0 1 0 n),(6,.sr 1 1 0 k)]
def O59(x:St):lXE:=[.row 4 1 (x.1.map aA),.row 3 1 (x.2.map dk)]
def RH(g:List lXC)(n k v:Nat):Am.Loc:=[(0,.sl 1 (g.map bJ)),(5,.sr 0 1 0 n),(6,.sr 1 1 0 k),(7,I (v:Nat))]
def Ba(g:List lXC)(R:lXC)(n k j:Nat):Am.Loc:=[(0,.sl 1 (g.map bJ)),(5,.sr 0 1 0 n),(6,.sr 1 1 0 k),(32,.sl 1 (R.map dk)),(33,I ((R.map dk).length:Nat)),(34,I (j:Nat))]
section
variable{f:Nat->Nat}
theorem Ed(h0:f 0=0){o:Nat}(h1:f 1=o)(g:List lXC)(n k:Nat):ni f (L59 g n k)=[some (.sl 1<|g.map bJ),some (.sr 0 1 0 n),some (.sr o 1 0 k)]:=by grind[ni,L59,AV.ren,xT]
theorem Nb(h0:f 0=0){o:Nat}(h1:f 1=o)(g:List lXC)(n k v:Nat):ni f (RH g n k v)=[some (.sl 1<|g.map bJ),some (.sr 0 1 0 n),some (.sr o 1 0 k),some (I (v:Nat))]:=by simp_all[ni,RH,AV.ren,xT]
theorem Ee(h0:f 0=0){o:Nat}(h1:f 1=o)(g:List lXC)(R:lXC)(n k j:Nat):ni f (Ba g R n k j)=[some (.sl 1<|g.map bJ),some (.sr 0 1 0 n),some (.sr o 1 0 k),some (.sl 1<|R.map dk),some (I ((R.map dk).length:Nat)),some (I (j:Nat))]:=by grind[ni,Ba,AV.ren,xT,xS]
theorem uh(x:St):pz f [some (.row 4 1<|x.1.map aA),some (.row 3 1<|x.2.map dk)] (O59 x):=⟨by rw[Ob.ren,tf];exact .same _,by rw[Ob.ren,xS];exact .same _,trivial⟩
end
abbrev rF(c:Code)(L:Am.Loc)(x:St)(gd:List Gi):RX:=runK Tryz.prog 52 base cU 3000 (kbL []) c (en L) (dZ<|O59 x) 2 ⟨2,gd,[]⟩
def in59(g:List lXC)(R:lXC)(n j:Nat)(x:St)(hn:n=x.1.length)(hj:j<R.length)(hR:R.length<=9223372036854775807)(hc:ae R j<x.1.length)(hx:x.2.length<=10000000):bo pg 52 0 RG (Ba g R n x.2.length j) (O59 x) .normal (Ba g R n (mark x<|ae R j).2.length<|j+1) (O59<|mark x<|ae R j):=by
 obtain⟨inb,t⟩:=x;subst hn;simp only at hc hx⊢;have h0:(decide<|(j:Int)<(((R.map dk).length:Nat):Int))=true:=afT oaN;unfold mark;rcases nM (ae inb<|ae R j)with hb|hb
 ·rw[hb];simp only[af2];refine eU (lo:=2) (dz aE mixed<|bq _) (sel:=[0,1]) (N':=2) (show iM [0,5,6,32,33,34] [0,1] (rF RG (Ba g R inb.length t.length j) (inb,t) [bT,bT,.row (dk<|ae R j),.at (ae R j) 0 (aA<|ae inb<|ae R j),bF,.int ↑(j+1),bT])=some (.normal,[some (.sl 1<|g.map bJ),some (.sr 0 1 0 inb.length),some (.sr 1 1 0 t.length),some (.sl 1<|R.map dk),some (I ((R.map dk).length:Nat)),some (I ↑(j+1))],[some (.row 4 1<|inb.map aA),some (.row 3 1<|t.map dk)],2,_) by kernel_rfl)
   (ac (dwr (z:= ↑(j+1)) oaa oaa)<|ac (n2 hb)<|ac (at1 aA hc)<|ac (GM hc)<|ac (iO dk hj)<|a1<|ac h0 a0) rfl rfl rfl (Ee rfl rfl g R _ _ _) (uh (inb,t))
 ·rw[hb];simp only[af8];refine eU (lo:=2) (dz aE mixed<|bq _) (sel:=[0,2]) (N':=3) (show iM [0,5,6,32,33,34] [0,2] (rF RG (Ba g R inb.length t.length j) (inb,t) [bT,bT,.row (dk<|ae R j),.at (ae R j) 0 (aA<|ae inb<|ae R j),bT,.at (ae R j) 0 (aA<|ae inb<|ae R j),.int ↑(j+1),bT])=some (.normal,[some (.sl 1<|g.map bJ),some (.sr 0 1 0 inb.length),some (.sr 2 1 0<|t.length+1),some (.sl 1<|R.map dk),some (I ((R.map dk).length:Nat)),some (I ↑(j+1))],[some (.row 4 1<|(inb.map aA).set (ae R j) [B true]),some (.row 3 1<|(t.map dk).take t.length++ [[I ((ae R j:Nat):Int)]])],3,_) by kernel_rfl)
   (ac (dwr (z:= ↑(j+1)) oaa oaa)<|ac (appA (k:=t.length) (m:=(t.map dk).length) oaj oaa)<|ac (GL<|at1 aA hc)<|ac (GM hc)<|ac (au hb)<|ac (at1 aA hc)<|ac (GM hc)<|ac (iO dk hj)<|a1<|ac h0 a0) rfl rfl rfl ?_ ?_
  ·rw[afQ,List.length_singleton];exact Ee rfl rfl g R _ _ _
  ·rw[rE,aa5];exact uh (inb.set (ae R j) true,t++ [ae R j])
def aa6(g:List lXC)(R:lXC)(n:Nat)(x:St)(hn:n=x.1.length)(hR:R.length<=9223372036854775807)(hc: ∀c∈R,c<x.1.length)(hb:2*cf x.1+x.2.length<=10000000):bo pg 52 0 (.block 2<|.loop RG) (Ba g R n x.2.length 0) (O59 x) .normal (L59 g n (marks x R).2.length) (O59<|marks x R):=by
 refine ig (xr:= .exit 2) (λj=>Ba g R n (marks x<|R.take j).2.length j) (λj=>O59<|marks x<|R.take j) (λj=>j<=R.length) (λj=>R.length-j) 0 (agn _) (λe=>by cases e) λj hj=> ?_;by_cases hjl:j<R.length
 ·left;have hm:=xR (R.take j) x λc hc'=>hc c (agC hc');have h:=in59 g R n j (marks x<|R.take j) (by rw[td];exact hn) hjl hR (by rw[td];exact hc _<|gn hjl) (by have:=hm.le;omega);rw[<-J9 x R j hjl]at h;exact⟨j+1,by omega,by omega,h⟩
 ·right;obtain rfl:j=R.length:=by omega
  simp only[agj];have h0:(decide<|((R.length:Nat):Int)<(((R.map dk).length:Nat):Int))=false:=afU oaN;exact eU (lo:=2) (dz aE mixed<|bq _) (sel:=[0,1]) (N':=2) (show iM [0,5,6] [0,1] (rF RG (Ba g R n (marks x R).2.length R.length) (marks x R) [bF,bF,bT])=some (.exit 2,[some (.sl 1<|g.map bJ),some (.sr 0 1 0 n),some (.sr 1 1 0 (marks x R).2.length)],[some (.row 4 1<|(marks x R).1.map aA),some (.row 3 1<|(marks x R).2.map dk)],2,_) by kernel_rfl)
   (a1<|ac (au h0) a0) rfl rfl rfl (Ed rfl rfl g _ _) (uh _)
abbrev zDI(inb:lXB):Ob:=(.row 4 1<|inb.map aA)
def aa7(g:List lXC)(n:Nat)(inb:lXB)(t:lXC)(v:Nat)(hn:n=inb.length)(hv:v<g.length)(hR:(ae g v).length<=9223372036854775807)(hc: ∀c∈ae g v,c<inb.length)(hb:2*cf inb+t.length<=10000000):bo pg 52 0 RF (L59 g n (t++ [v]).length) (O59 (inb,t++ [v])) .normal (L59 g n (marks (inb,t)<|ae g v).2.length) (O59<|marks (inb,t)<|ae g v):=by
 rw[e59o,afQ,List.length_singleton];have h0:(decide<|((t.length+1:Nat):Int)>0)=true:=afT oaa;have hw:(dec<|wrap .i64 ((t.length+1:Nat)-1:Int)=(t.length:Nat))=true:=aR.2 (by rw[show((t.length+1:Nat)-1:Int)=(t.length:Nat) by omega];exact wrap_i64 oaa oaa);have hg:ae (t++ [v]) t.length=v:=by simp[ae]
 have hat:=at1 dk (l:=t++ [v]) (j:=t.length) oaj;rw[hg]at hat;refine ey (L1:=L59 g n<|t.length+1) (ob1:=O59 (inb,t++ [v])) ?_ (nL<|ey (L1:=RH g n (t.length+1) v) (ob1:=O59 (inb,t++ [v])) ?_ (ey (L1:=RH g n t.length v) (ob1:=O59 (inb,t)) ?_ (ey (L1:=Ba g (ae g v) n t.length 0) (ob1:=O59 (inb,t)) ?_ (aa6 g (ae g v) n (inb,t) hn hR hc hb))))
 ·exact eU (lo:=2) (dz aE mixed<|bq _) (sel:=[0,1]) (N':=2) (show iM [0,5,6] [0,1] (rF (sq1 RF) (L59 g n<|t.length+1) (inb,t++ [v]) [bT,bT,bT])=some (.normal,[some (.sl 1<|g.map bJ),some (.sr 0 1 0 n),some (.sr 1 1 0<|t.length+1)],[some (zDI inb),some (.row 3 1<|(t++ [v]).map dk)],2,_) by kernel_rfl)
   (a1<|ac h0 a0) rfl rfl rfl (Ed rfl rfl g _ _) (uh (inb,t++ [v]))
 ·exact eU (lo:=2) (dz aE mixed<|bq _) (sel:=[0,1]) (N':=2) (show iM [0,5,6,7] [0,1] (rF (sq1 b59) (L59 g n<|t.length+1) (inb,t++ [v]) [.int (t.length:Nat),.at t.length 0 (dk v),bT])=some (.normal,[some (.sl 1<|g.map bJ),some (.sr 0 1 0 n),some (.sr 1 1 0<|t.length+1),some (I (v:Nat))],[some (zDI inb),some (.row 3 1<|(t++ [v]).map dk)],2,_) by kernel_rfl)
   (ac hat<|ac (GM<|ahc t.length)<|ac hw a0) rfl rfl rfl (Nb rfl rfl g _ _ _) (uh (inb,t++ [v]))
 ·refine eU (lo:=2) (dz aE mixed<|bq _) (sel:=[0,1]) (N':=2) (show iM [0,5,6,7] [0,1] (rF (sq1<|sq2 b59) (RH g n (t.length+1) v) (inb,t++ [v]) [.int (t.length:Nat),bT])=some (.normal,[some (.sl 1<|g.map bJ),some (.sr 0 1 0 n),some (.sr 1 1 0 t.length),some (I (v:Nat))],[some (zDI inb),some (.row 3 1<|(t++ [v]).map dk)],2,_) by kernel_rfl)
   (ac (GL<|Ce<|Nat.le_succ t.length)<|ac hw a0) rfl rfl rfl (Nb rfl rfl g _ _ _) ⟨by rw[Ob.ren,tf];exact .same _,?_,trivial⟩
  rw[Ob.ren,xS];have:=Told.row (T:=3) (S:=1) (k:=t.length) (rows:=(t++ [v]).map dk) oaj;simp_all
 ·exact eU (lo:=2) (dz aE mixed<|bq _) (sel:=[0,1]) (N':=2) (show iM [0,5,6,32,33,34] [0,1] (rF (sq1<|sq2<|sq2 b59) (RH g n t.length v) (inb,t) [.row (bJ<|ae g v),bT])=some (.normal,[some (.sl 1<|g.map bJ),some (.sr 0 1 0 n),some (.sr 1 1 0 t.length),some (.sl 1<|(ae g v).map dk),some (I (((ae g v).map dk).length:Nat)),some (I ((0:Nat):Int))],[some (zDI inb),some (.row 3 1<|t.map dk)],2,_) by kernel_rfl)
   (ac (iO bJ hv) a0) rfl rfl rfl (Ee rfl rfl g _ _ _ _) (uh (inb,t))
def adJ:Tryz.f78.body=some (Th [sq1 (aG 78),sq1 (sq2<|aG 78),sq1 (sq2<|sq2<|aG 78)]<|.seq (.block 0<|.loop RF)<|sq2<|sq2<|sq2<|sq2<|aG 78):=by kernel_rfl
def Wo(g:List lXC)(i:Nat)(hi:i<g.length)(hw:Wf g)(hN:g.length<=1000000)(hR: ∀R∈g,R.length<=9223372036854775807):aY pg 78 [.sl 1 (g.map bJ),I (i:Nat)] [] [] (.sl 1<|(kC g i).map aA) []:=by
 refine mH (o:=0) (n:=g.length) (T:=4) (ob1:=[.row 4 1 ((kC g i).map aA)]) ?_ rfl (by simp[kC]) (bc bY _);refine kr (fn:=Tryz.f78) Tryz.func78 oab adJ (nbl rfl) (agn _) rfl oaH ?_;have hrep:(replicate (g.map bJ).length [B false])=(replicate g.length false).map aA:=by simp[aA]
 refine FX aE mixed (L59 g g.length 1) (O59 (replicate g.length false,[i])) (sel:=[0,1]) (show iM [0,5,6] [0,1] (FV Tryz.prog 52 base cU 3000 [sq1 (aG 78),sq1 (sq2<|aG 78),sq1 (sq2<|sq2<|aG 78)] (jC 0 [.sl 1 (g.map bJ),I (i:Nat)] .e) .e 0 ⟨0,[bT],[]⟩)=some (.normal,[some (.sl 1<|g.map bJ),some (.sr 0 1 0 (g.map bJ).length),some (.sr 1 1 0 1)],[some (.row 4 1<|replicate (g.map bJ).length [B false]),some (.row 3 1<|[i].map dk)],2,_) by kernel_rfl)
  (ac (show(Nat.ble (g.map bJ).length (g.map bJ).length&&Nat.ble (1*(g.map bJ).length) 281474976710656&&Nat.ble (g.map bJ).length 9223372036854775807)=true by rw[Ce (afP _),Ce (show 1*(g.map bJ).length<=281474976710656 by rw[afW];omega),Ce (show(g.map bJ).length<=9223372036854775807 by rw[afW];omega)];rfl) a0) rfl rfl ?_ ?_ ?_
 ·rw[afW];exact Ed rfl rfl g _ _
 ·rw[hrep];exact uh (replicate g.length false,[i])
 ·refine Q4 (L1:=L59 g g.length 0) (ob1:=O59 (kC g i,[])) (ig (xr:= .exit 0) (λx:St=>L59 g g.length x.2.length) O59 (FI g i) (λx=>2*cf x.1+x.2.length) (replicate g.length false,[i]) (aa4 hi) (λe=>by cases e) λx hx=> ?_) ?_
  ·obtain⟨inb,todo⟩:=x;rcases List.eq_nil_or_concat todo with rfl|⟨t,v,rfl⟩
   ·right;rw[<-adI hw hx,e59o];refine Ka ?_;exact eU (lo:=2) (dz aE mixed<|bq _) (sel:=[0,1]) (N':=2) (show iM [0,5,6] [0,1] (rF (sq1 RF) (L59 g g.length 0) (inb,[]) [bF,bF,bT])=some (.exit 0,[some (.sl 1<|g.map bJ),some (.sr 0 1 0 g.length),some (.sr 1 1 0 0)],[some (.row 4 1<|inb.map aA),some (.row 3 1 [])],2,_) by kernel_rfl)
     (a1<|ac (show(!decide (((0:Nat):Int)>0))=true from rfl) a0) rfl rfl rfl (Ed rfl rfl g _ _) (uh (inb,[]))
   ·left;rw[List.concat_eq_append]at hx⊢;have hlen:=hx.len;have hbd:=hx.bd;simp only[afQ,List.length_singleton]at hlen hbd;have hv:v<g.length:=hx.todo v oaj;obtain⟨k1,k2⟩:=Wn hw hx;exact⟨_,k1,k2,aa7 g g.length inb t v hlen.symm hv (hR _<|gn hv) (λc hc=>by rw[hlen];exact nZ hw hc) oaa⟩
  ·exact xo (lo:=2) (obs:=[.row 4 1 ((kC g i).map aA)]) (dz aE mixed<|bq _) (iB _) (fQ _) (show mZ Tryz.prog Tryz.f78.results.toList 1 (rF (sq2<|sq2<|sq2<|sq2<|aG 78) (L59 g g.length 0) (kC g i,[]) [bT])=some (.sr 0 1 0 g.length,[some (.row 4 1<|(kC g i).map aA)],_) by kernel_rfl) a0 rfl λxs=>⟨rfl,xs,rfl⟩
def Kb:Code:=bD 0 (aG 57)
def Kc:Code:=bD 2 (aG 57)
def rG:Code:=bD 4 (aG 57)
abbrev Sa:=lXB×Bool
section
variable(n:Net)(f:Bool)(emp:AV)(ag:Bool)
def L34(i k:Nat):Am.Loc:=[(2,B f),(3,emp),(4,.pf (bA n)),(9,.sr 0 1 0 n.aa.length),(10,B ag),(11,I (i:Nat)),(12,I (k:Nat))]
def n4(i:Nat):Am.Loc:=[(2,B f),(3,emp),(4,.pf (bA n)),(9,.sr 0 1 0 n.aa.length),(10,B ag),(11,I (i:Nat))]
def n5:Am.Loc:=[(2,B f),(3,emp),(4,.pf (bA n)),(9,.sr 0 1 0 n.aa.length),(10,B ag)]
end
def O34(inb:lXB):lXE:=[.row 4 1 (inb.map aA)]
section
variable(n:Net)(f:Bool)(emp:AV)
def Nc(x y:Sa)(i:Nat):KB:=⟨L34 n f emp x.2 i 0,O34 x.1,false,.ret,[],[],.normal,n4 n f emp y.2 i,O34 y.1,True⟩
def Nd(inb:lXB)(y:Sa):KB:=⟨n4 n f emp false 0,O34 inb,false,.ret,[],[],.normal,n5 n f emp y.2,O34 y.1,True⟩
end
def mkA(x:Sa)(c:Nat):Sa:=bif ae x.1 c then x else(x.1.set c true,true)
section
variable(ok:Edge->Bool)
def eL(x:Sa)(e:Edge):Sa:=bif ok e then mkA x e.to.toNat else x
def jw(x:Sa)(l:List Edge):Sa:=l.foldl (eL ok) x
def th(n:Net)(x:Sa)(i:Nat):Sa:=bif ae x.1 i then jw ok x (ae n.aa i).ah else x
end
def gQ(ok:Edge->Bool)(n:Net)(x:Sa):Nat->Sa
 |0=>x
 |i+1=>th ok n (gQ ok n x i) i
def gA(ok:Edge->Bool)(n:Net):List lXC:=n.aa.map λs=>(s.ah.filter ok).map λe=>e.to.toNat
def okT(emp:lXB)(e:Edge):Bool:=bif e.op==1 then false else bif e.op==2 then aF emp e.n else true
def okF(_:Edge):Bool:=true
def rH(n:Net):Prop:= ∀s∈n.aa,∀e∈s.ah,0<=e.to/\e.to<(n.aa.length:Int)
structure Am1(x y:Sa):Prop where
 len:y.1.length=x.1.length
 up: ∀k:Nat,x.1[k]? =some true->y.1[k]? =some true
 no:y.2=false->y.1=x.1/\x.2=false
 yes:y.2=true->x.2=true\/cf y.1<cf x.1
 le:cf y.1<=cf x.1
theorem Am1.refl(x:Sa):Am1 x x:=⟨rfl,λ_ h=>h,λh=>⟨rfl,h⟩,λh=> .inl h,afP _⟩
def Am1.trans{x y z:Sa}(h:Am1 x y)(k:Am1 y z):Am1 x z:=by
 refine⟨k.len.trans h.len,λi hi=>k.up i (h.up i hi),λe=> ?_,λe=> ?_,agu k.le h.le⟩
 ·obtain⟨k1,k2⟩:=k.no e;obtain⟨h1,h2⟩:=h.no k2;exact⟨k1.trans h1,h2⟩
 ·rcases k.yes e with k1|k1
  ·rcases h.yes k1 with h1|h1
   ·exact .inl h1
   grind[k.le]
  grind[h.le]
def adK{x:Sa}{c:Nat}(hc:c<x.1.length):Am1 x (mkA x c)/\((mkA x c).2=false->ae x.1 c=true)/\(mkA x c).1[c]? =some true/\ ∀k:Nat,(mkA x c).1[k]? =some true->x.1[k]? =some true\/k=c:=by
 unfold mkA;cases h:ae x.1 c with
 |true=>grind[Am1.refl,ma]
 |false=>
  have hcf:=xQ hc h;refine⟨⟨by simp,λk hk=> ?_,λe=>oao,λ_=> .inr ?_,?_⟩,λe=>oao,by simp[hc],λk hk=> ?_⟩
  ·grind
  ·simp only[af8];omega
  ·simp only[af8];omega
  grind
theorem rI(ok:Edge->Bool): ∀(l:List Edge)(x:Sa),(∀e∈l,e.to.toNat<x.1.length)->Am1 x (jw ok x l)/\((jw ok x l).2=false-> ∀e∈l,ok e=true->x.1[e.to.toNat]? =some true)/\ ∀k:Nat,(jw ok x l).1[k]? =some true->x.1[k]? =some true\/ ∃e∈l,ok e=true/\e.to.toNat=k
 |[],x,_=>⟨Am1.refl x,λ_ e he=>by simp at he,λk hk=> .inl hk⟩
 |e::l,x,h=>by
  have hs:Am1 x (eL ok x e)/\((eL ok x e).2=false->ok e=true->ae x.1 e.to.toNat=true)/\ ∀k:Nat,(eL ok x e).1[k]? =some true->x.1[k]? =some true\/(ok e=true/\e.to.toNat=k):=by
   unfold eL;cases hok:ok e with
   |false=>grind[Am1.refl]
   |true=>obtain⟨k1,k2,_,k4⟩:=adK (x:=x) (c:=e.to.toNat) (h e oaj);grind
  obtain⟨a1',a2,a3⟩:=hs;obtain⟨b1,b2,b3⟩:=rI ok l (eL ok x e) (by grind[a1'.len]);show Am1 x (jw ok (eL ok x e) l)/\((jw ok (eL ok x e) l).2=false->_)/\ ∀k:Nat,(jw ok (eL ok x e) l).1[k]? =some true->_;refine⟨a1'.trans b1,λhf d hd hok=> ?_,λk hk=> ?_⟩
  ·obtain⟨c1,c2⟩:=b1.no hf;grind[ma]
  grind
theorem qd{ok:Edge->Bool}{n:Net}{i c:Nat}:Edg (gA ok n) i c↔ ∃e∈(ae n.aa i).ah,ok e=true/\e.to.toNat=c:=by
 unfold Edg gA ae;rw[afY];cases h:n.aa[i]? with
 |none=>have d1:(default:State).ah=[]:=rfl;simp_all[default]
 |some s=>grind
theorem qe(ok:Edge->Bool)(n:Net):(gA ok n).length=n.aa.length:=by simp[gA]
theorem rJ{n:Net}(h:rH n)(i:Nat): ∀e∈(ae n.aa i).ah,e.to.toNat<n.aa.length:=λe he=>by
 by_cases hi:i<n.aa.length
 ·have:=h _ (gn hi) e he;omega
 ·have:ae n.aa i=default:=by simp_all[ae]
  rw[this]at he;cases he
def gA_wf{ok:Edge->Bool}{n:Net}(h:rH n):Wf (gA ok n):=by
 intro R hR c hc;rw[qe];obtain⟨i,hi,rfl⟩:=List.mem_iff_getElem.1 hR;have:Edg (gA ok n) i c:=by grind[Edg,ae]
 obtain⟨e,he,_,rfl⟩:=qd.1 this;exact rJ h i e he
def GN{ok:Edge->Bool}{n:Net}(hn:rH n){x:Sa}(hx:x.1.length=n.aa.length){i0:Nat}(hs: ∀k:Nat,x.1[k]? =some true->k=i0\/Rp (gA ok n) i0 k): ∀m:Nat,Am1 x (gQ ok n x m)/\((gQ ok n x m).2=false-> ∀i,i<m->x.1[i]? =some true-> ∀c,Edg (gA ok n) i c->x.1[c]? =some true)/\ ∀k:Nat,(gQ ok n x m).1[k]? =some true->k=i0\/Rp (gA ok n) i0 k
 |0=>⟨Am1.refl x,λ_ i hi=>absurd hi (Nat.not_lt_zero _),hs⟩
 |m+1=>by
  obtain⟨a1',a2,a3⟩:=GN hn hx hs m;have hlen:(gQ ok n x m).1.length=n.aa.length:=a1'.len.trans hx;simp only[gQ];generalize hy:gQ ok n x m=y at*;unfold th;cases hg:ae y.1 m with
  |false=>
   refine⟨a1',λhf i hi hxi c he=> ?_,a3⟩;by_cases him:i=m
   ·subst him;have:=(a1'.no hf).1;grind[ma]
   ·exact a2 hf i oaa hxi c he
  |true=>
   obtain⟨b1,b2,b3⟩:=rI ok (ae n.aa m).ah y λe he=>by rw[hlen];exact rJ hn m e he
   simp only[af2];refine⟨a1'.trans b1,λhf i hi hxi c he=> ?_,λk hk=> ?_⟩
   ·obtain⟨c1,c2⟩:=b1.no hf;by_cases him:i=m
    ·subst him;obtain⟨e,h1,h2,rfl⟩:=qd.1 he;have:=b2 hf e h1 h2;rw[(a1'.no c2).1]at this;exact this
    ·exact a2 c2 i oaa hxi c he
   ·rcases b3 k hk with h1|⟨e,h1,h2,rfl⟩
    ·exact a3 k h1
    ·have hm:=a3 m (ma.1 hg);have he:Edg (gA ok n) m e.to.toNat:=qd.2 ⟨e,h1,h2,rfl⟩;rcases hm with rfl|hm
     ·exact .inr (.one he)
     ·exact .inr (.step hm he)
noncomputable def ef(ok:Edge->Bool)(n:Net)(i:Nat):lXB:=(range n.aa.length).map λk=>dec (k=i\/Rp (gA ok n) i k)
structure RI(ok:Edge->Bool)(n:Net)(i:Nat)(x:Sa):Prop where
 len:x.1.length=n.aa.length
 own:x.1[i]? =some true
 snd: ∀k:Nat,x.1[k]? =some true->k=i\/Rp (gA ok n) i k
 cls:x.2=false-> ∀k:Nat,x.1[k]? =some true-> ∀c,Edg (gA ok n) k c->x.1[c]? =some true
section
variable{ok:Edge->Bool}{n:Net}
theorem aa8(hn:rH n){i:Nat}{inb:lXB}(h:RI ok n i (inb,true)):RI ok n i (gQ ok n (inb,false) n.aa.length)/\2*cf (gQ ok n (inb,false) n.aa.length).1+(gQ ok n (inb,false) n.aa.length).2.toNat<2*cf inb+1:=by
 obtain⟨h1,h2,h3,h4⟩:=h;obtain⟨a1',a2,a3⟩:=GN hn (x:=(inb,false)) h1 h3 n.aa.length;refine⟨⟨a1'.len.trans h1,a1'.up i h2,a3,λhf k hk c he=> ?_⟩,?_⟩
 ·have e:=(a1'.no hf).1;grind
 ·have hle:=a1'.le;cases hp:(gQ ok n (inb,false) n.aa.length).2 with
  |false=>grind
  |true=>
   rcases a1'.yes hp with h|h
   ·cases h
   simp_all
theorem adL{i:Nat}{inb:lXB}(h:RI ok n i (inb,false)):inb=ef ok n i:=by
 obtain⟨h1,h2,h3,h4⟩:=h;have hall: ∀k,Rp (gA ok n) i k->inb[k]? =some true:=by
  intro k hk;induction hk with
  |one e=>exact h4 rfl _ h2 _ e
  |step _ e ih=>exact h4 rfl _ ih _ e
 apply agd;intro k;unfold ef;rw[afY];by_cases hk:k<n.aa.length
 ·rw[List.getElem?_range hk];simp only[af6];have hki:k<inb.length:=by simp only at h1;omega
  rw[af0 hki];congr 1;grind[aR]
 simp_all
theorem xU{i k:Nat}(hk:k<n.aa.length):ae (ef ok n i) k=dec (k=i\/Rp (gA ok n) i k):=by simp[ae,ef,hk]
end
abbrev eAt(n:Net)(i k:Nat):Edge:=ae (ae n.aa i).ah k
theorem xV(f:Nat->Nat)(n:Net):bt f (bA n)=bA n:=ca _ _ (BU n)
section
variable{f:Nat->Nat}
theorem gb(x:lXB):pz f [some (.row 4 1<|x.map aA)] (O34 x):=⟨by rw[Ob.ren,tf];exact .same _,trivial⟩
theorem n6(h0:f 0=0)(n:Net)(b:Bool)(emp:AV)(he:emp.pure=true)(ag:Bool)(i k:Nat):ni f (L34 n b emp ag i k)=nm (L34 n b emp ag i k):=by simp_all[ni,nm,L34,AV.ren,xV,gi]
theorem Ef(h0:f 0=0)(n:Net)(b:Bool)(emp:AV)(he:emp.pure=true)(ag:Bool)(i:Nat):ni f (n4 n b emp ag i)=nm (n4 n b emp ag i):=by grind[ni,nm,n4,AV.ren,xV,gi]
theorem Eg(h0:f 0=0)(n:Net)(b:Bool)(emp:AV)(he:emp.pure=true)(ag:Bool):ni f (n5 n b emp ag)=nm (n5 n b emp ag):=by grind[ni,nm,n5,AV.ren,xV,gi]
end
def nc{y:Int}{z len:Nat}(h:y=z)(h2:z<len):(dec (y=(z:Int))&&Nat.blt z len)=true:=by rw[aR.2 h,GM h2];rfl
def Wp{α:Type}[Inhabited α](f:α->lXF){l:List α}{s:Int}(h0:0<=s)(h:s<l.length):(dec (s=((s.toNat:Nat):Int))&&dec ((l.map f)[s.toNat]? =some (f<|aF l s)))=true:=FZ (afT oaa) oaz
def in34T(n:Net)(inb emp:lXB)(ag:Bool)(i k:Nat)(hi:i<n.aa.length)(hl:inb.length=n.aa.length)(hk:k<(ae n.aa i).ah.length)(hkm:(ae n.aa i).ah.length<=9223372036854775807)(hto0:0<=(eAt n i k).to/\(eAt n i k).to<(n.aa.length:Int))(hn:((eAt n i k).op==2)=true->0<=(eAt n i k).n/\(eAt n i k).n<(emp.length:Int)):bo pg 85 0 rG (L34 n true (.sl 1<|emp.map aA) ag i k) (O34 inb) .normal (L34 n true (.sl 1<|emp.map aA) (eL (okT emp) (inb,ag)<|eAt n i k).2 i<|k+1) (O34 (eL (okT emp) (inb,ag)<|eAt n i k).1):=by
 have h0:(decide<|(↑k:Int)<(↑(length<|map aQ (ae n.aa i).ah):Int))=true:=afT oaN;have hto:(eAt n i k).to=(Int.toNat (eAt n i k).to:Int):=by omega
 have hlt:Int.toNat (eAt n i k).to<n.aa.length:=by omega
 have hat:Int.toNat (eAt n i k).to<inb.length:=by omega
 rcases nM (Edge.op (eAt n i k)==1)with h1|h1
 ·have hs:eL (okT emp) (inb,ag) (eAt n i k)=(inb,ag):=by unfold eL mkA;simp only[okT,okF,h1,af2,af8]
  rw[hs];exact eU (lo:=1) (dz aE mixed<|bq _) (sel:=[0]) (N':=2) (show iM [2,3,4,9,10,11,12] [0] (runK Tryz.prog 85 base cU 3000 (kbL []) rG (en<|L34 n true (.sl 1<|emp.map aA) ag i k) (dZ<|O34 inb) 1 ⟨1,(.row (aq<|ae n.aa<|i)::bT::bT::.row (aq<|ae n.aa<|i)::.row (aQ<|eAt n i k)::uTT 5 (uFF 11 (bT::uFF 5 [bT,.int ((↑(k+1):Int)),bT]))),[]⟩)=some (.normal,nm (L34 n true (.sl 1<|emp.map aA) ag i<|k+1),[some (.row 4 1<|inb.map aA)],2,_) by kernel_rfl)
   (ac (pD hk hkm)<|aN 19<|ac h1<|aN 3<|ac (iO aQ hk)<|ac (iO aq hi)<|a1<|ac h0<|ac (iO aq hi) a0) rfl rfl rfl (n6 rfl n true _ oaG _ _ _) (gb inb)
 ·rcases nM (Edge.op (eAt n i k)==2)with h2|h2
  ·have hn0:=(hn h2).1;have hn1:=(hn h2).2;rcases nM ((aF (emp)<|Edge.n<|eAt n i k))with h3|h3
   ·rcases nM ((ae (inb)<|(Int.toNat<|Edge.to<|eAt n i k)))with h4|h4
    ·have hs:eL (okT emp) (inb,ag) (eAt n i k)=(inb,ag):=by unfold eL mkA;simp only[okT,okF,h1,h2,h3,h4,af2,af8]
     rw[hs];exact eU (lo:=1) (dz aE mixed<|bq _) (sel:=[0]) (N':=2) (show iM [2,3,4,9,10,11,12] [0] (runK Tryz.prog 85 base cU 3000 (kbL []) rG (en<|L34 n true (.sl 1<|emp.map aA) ag i k) (dZ<|O34 inb) 1 ⟨1,(.row (aq<|ae n.aa<|i)::bT::bT::.row (aq<|ae n.aa<|i)::.row (aQ<|eAt n i k)::bT::bT::bT::bF::uTT 10 (.bG ((Edge.n<|eAt n i k).toNat) (aA<|aF (emp)<|Edge.n<|eAt n i k)::uTT 8 [.bG (Int.toNat<|Edge.to<|eAt n i k) ([]),bT,.at ((Int.toNat<|Edge.to<|eAt n i k)) (0) (aA<|ae (inb)<|(Int.toNat<|Edge.to<|eAt n i k)),bT,.int ((↑(k+1):Int)),bT])),[]⟩)=some (.normal,nm (L34 n true (.sl 1<|emp.map aA) ag i<|k+1),[some (.row 4 1<|inb.map aA)],2,_) by kernel_rfl)
      (ac (pD hk hkm)<|ac h4<|ac (at1 aA hat)<|a1<|ac (nc hto hlt)<|aN 3<|ac (n2 h3)<|aN 4<|ac (Wp aA hn0 hn1)<|aN 5<|ac h2<|aN 4<|ac (au h1)<|aN 3<|ac (iO aQ hk)<|ac (iO aq hi)<|a1<|ac h0<|ac (iO aq hi) a0) rfl rfl rfl (n6 rfl n true _ oaG _ _ _) (gb inb)
    ·have hs:eL (okT emp) (inb,ag) (eAt n i k)=((inb.set (Int.toNat<|Edge.to<|eAt n i k) true),true):=by unfold eL mkA;simp only[okT,okF,h1,h2,h3,h4,af2,af8]
     rw[hs];exact eU (lo:=1) (dz aE mixed<|bq _) (sel:=[0]) (N':=2) (show iM [2,3,4,9,10,11,12] [0] (runK Tryz.prog 85 base cU 3000 (kbL []) rG (en<|L34 n true (.sl 1<|emp.map aA) ag i k) (dZ<|O34 inb) 1 ⟨1,(.row (aq<|ae n.aa<|i)::bT::bT::.row (aq<|ae n.aa<|i)::.row (aQ<|eAt n i k)::bT::bT::bT::bF::uTT 10 (.bG ((Edge.n<|eAt n i k).toNat) (aA<|aF (emp)<|Edge.n<|eAt n i k)::uTT 8 [.bG (Int.toNat<|Edge.to<|eAt n i k) ([]),bT,.at ((Int.toNat<|Edge.to<|eAt n i k)) (0) (aA<|ae (inb)<|(Int.toNat<|Edge.to<|eAt n i k)),bF,.bG (Int.toNat<|Edge.to<|eAt n i k) ([]),.at ((Int.toNat<|Edge.to<|eAt n i k)) (0) (aA<|ae (inb)<|(Int.toNat<|Edge.to<|eAt n i k)),.int ((↑(k+1):Int)),bT])),[]⟩)=some (.normal,nm (L34 n true (.sl 1<|emp.map aA) true i<|k+1),[some (.row 4 1<|(inb.map aA).set (Int.toNat<|Edge.to<|eAt n i k) [B true])],2,_) by kernel_rfl)
      (ac (pD hk hkm)<|ac (GL<|at1 aA hat)<|ac (nc hto hlt)<|ac (au h4)<|ac (at1 aA hat)<|a1<|ac (nc hto hlt)<|aN 3<|ac (n2 h3)<|aN 4<|ac (Wp aA hn0 hn1)<|aN 5<|ac h2<|aN 4<|ac (au h1)<|aN 3<|ac (iO aQ hk)<|ac (iO aq hi)<|a1<|ac h0<|ac (iO aq hi) a0) rfl rfl rfl (n6 rfl n true _ oaG _ _ _) (by rw[rE];exact gb _)
   ·have hs:eL (okT emp) (inb,ag) (eAt n i k)=(inb,ag):=by unfold eL mkA;simp only[okT,okF,h1,h2,h3,af2,af8]
    rw[hs];exact eU (lo:=1) (dz aE mixed<|bq _) (sel:=[0]) (N':=2) (show iM [2,3,4,9,10,11,12] [0] (runK Tryz.prog 85 base cU 3000 (kbL []) rG (en<|L34 n true (.sl 1<|emp.map aA) ag i k) (dZ<|O34 inb) 1 ⟨1,(.row (aq<|ae n.aa<|i)::bT::bT::.row (aq<|ae n.aa<|i)::.row (aQ<|eAt n i k)::bT::bT::bT::bF::uTT 10 (.bG ((Edge.n<|eAt n i k).toNat) (aA<|aF (emp)<|Edge.n<|eAt n i k)::uTT 4 (uFF 5 [bT,.int ((↑(k+1):Int)),bT]))),[]⟩)=some (.normal,nm (L34 n true (.sl 1<|emp.map aA) ag i<|k+1),[some (.row 4 1<|inb.map aA)],2,_) by kernel_rfl)
     (ac (pD hk hkm)<|aN 5<|ac (n3 h3)<|aN 4<|ac (Wp aA hn0 hn1)<|aN 5<|ac h2<|aN 4<|ac (au h1)<|aN 3<|ac (iO aQ hk)<|ac (iO aq hi)<|a1<|ac h0<|ac (iO aq hi) a0) rfl rfl rfl (n6 rfl n true _ oaG _ _ _) (gb inb)
  ·rcases nM ((ae (inb)<|(Int.toNat<|Edge.to<|eAt n i k)))with h3|h3
   ·have hs:eL (okT emp) (inb,ag) (eAt n i k)=(inb,ag):=by unfold eL mkA;simp only[okT,okF,h1,h2,h3,af2,af8]
    rw[hs];exact eU (lo:=1) (dz aE mixed<|bq _) (sel:=[0]) (N':=2) (show iM [2,3,4,9,10,11,12] [0] (runK Tryz.prog 85 base cU 3000 (kbL []) rG (en<|L34 n true (.sl 1<|emp.map aA) ag i k) (dZ<|O34 inb) 1 ⟨1,(.row (aq<|ae n.aa<|i)::bT::bT::.row (aq<|ae n.aa<|i)::.row (aQ<|eAt n i k)::bT::bT::bT::bF::uTT 4 (bF::bT::uFF 6 (uTT 6 [.bG (Int.toNat<|Edge.to<|eAt n i k) ([]),bT,.at ((Int.toNat<|Edge.to<|eAt n i k)) (0) (aA<|ae (inb)<|(Int.toNat<|Edge.to<|eAt n i k)),bT,.int ((↑(k+1):Int)),bT]))),[]⟩)=some (.normal,nm (L34 n true (.sl 1<|emp.map aA) ag i<|k+1),[some (.row 4 1<|inb.map aA)],2,_) by kernel_rfl)
     (ac (pD hk hkm)<|ac h3<|ac (at1 aA hat)<|a1<|ac (nc hto hlt)<|aN 13<|ac (au h2)<|aN 4<|ac (au h1)<|aN 3<|ac (iO aQ hk)<|ac (iO aq hi)<|a1<|ac h0<|ac (iO aq hi) a0) rfl rfl rfl (n6 rfl n true _ oaG _ _ _) (gb inb)
   ·have hs:eL (okT emp) (inb,ag) (eAt n i k)=((inb.set (Int.toNat<|Edge.to<|eAt n i k) true),true):=by unfold eL mkA;simp only[okT,okF,h1,h2,h3,af2,af8]
    rw[hs];exact eU (lo:=1) (dz aE mixed<|bq _) (sel:=[0]) (N':=2) (show iM [2,3,4,9,10,11,12] [0] (runK Tryz.prog 85 base cU 3000 (kbL []) rG (en<|L34 n true (.sl 1<|emp.map aA) ag i k) (dZ<|O34 inb) 1 ⟨1,(.row (aq<|ae n.aa<|i)::bT::bT::.row (aq<|ae n.aa<|i)::.row (aQ<|eAt n i k)::bT::bT::bT::bF::uTT 4 (bF::bT::uFF 6 (uTT 6 [.bG (Int.toNat<|Edge.to<|eAt n i k) ([]),bT,.at ((Int.toNat<|Edge.to<|eAt n i k)) (0) (aA<|ae (inb)<|(Int.toNat<|Edge.to<|eAt n i k)),bF,.bG (Int.toNat<|Edge.to<|eAt n i k) ([]),.at ((Int.toNat<|Edge.to<|eAt n i k)) (0) (aA<|ae (inb)<|(Int.toNat<|Edge.to<|eAt n i k)),.int ((↑(k+1):Int)),bT]))),[]⟩)=some (.normal,nm (L34 n true (.sl 1<|emp.map aA) true i<|k+1),[some (.row 4 1<|(inb.map aA).set (Int.toNat<|Edge.to<|eAt n i k) [B true])],2,_) by kernel_rfl)
     (ac (pD hk hkm)<|ac (GL<|at1 aA hat)<|ac (nc hto hlt)<|ac (au h3)<|ac (at1 aA hat)<|a1<|ac (nc hto hlt)<|aN 13<|ac (au h2)<|aN 4<|ac (au h1)<|aN 3<|ac (iO aQ hk)<|ac (iO aq hi)<|a1<|ac h0<|ac (iO aq hi) a0) rfl rfl rfl (n6 rfl n true _ oaG _ _ _) (by rw[rE];exact gb _)
def in34F(n:Net)(inb:lXB)(ag:Bool)(i k:Nat)(hi:i<n.aa.length)(hl:inb.length=n.aa.length)(hk:k<(ae n.aa i).ah.length)(hkm:(ae n.aa i).ah.length<=9223372036854775807)(hto0:0<=(eAt n i k).to/\(eAt n i k).to<(n.aa.length:Int)):bo pg 85 0 rG (L34 n false (.v<|.slice none 0 0) ag i k) (O34 inb) .normal (L34 n false (.v<|.slice none 0 0) (eL (okF) (inb,ag)<|eAt n i k).2 i<|k+1) (O34 (eL (okF) (inb,ag)<|eAt n i k).1):=by
 have h0:(decide<|(↑k:Int)<(↑(length<|map aQ (ae n.aa i).ah):Int))=true:=afT oaN;have hto:(eAt n i k).to=(Int.toNat (eAt n i k).to:Int):=by omega
 have hlt:Int.toNat (eAt n i k).to<n.aa.length:=by omega
 have hat:Int.toNat (eAt n i k).to<inb.length:=by omega
 rcases nM ((ae (inb)<|(Int.toNat<|Edge.to<|eAt n i k)))with h1|h1
 ·have hs:eL (okF) (inb,ag) (eAt n i k)=(inb,ag):=by unfold eL mkA;simp only[okT,okF,h1,af2,af8]
  rw[hs];exact eU (lo:=1) (dz aE mixed<|bq _) (sel:=[0]) (N':=2) (show iM [2,3,4,9,10,11,12] [0] (runK Tryz.prog 85 base cU 3000 (kbL []) rG (en<|L34 n false (.v<|.slice none 0 0) ag i k) (dZ<|O34 inb) 1 ⟨1,(.row (aq<|ae n.aa<|i)::bT::bT::.row (aq<|ae n.aa<|i)::.row (aQ<|eAt n i k)::uFF 16 (uTT 4 [.bG (Int.toNat<|Edge.to<|eAt n i k) ([]),bT,.at ((Int.toNat<|Edge.to<|eAt n i k)) (0) (aA<|ae (inb)<|(Int.toNat<|Edge.to<|eAt n i k)),bT,.int ((↑(k+1):Int)),bT])),[]⟩)=some (.normal,nm (L34 n false (.v<|.slice none 0 0) ag i<|k+1),[some (.row 4 1<|inb.map aA)],2,_) by kernel_rfl)
   (ac (pD hk hkm)<|ac h1<|ac (at1 aA hat)<|a1<|ac (nc hto hlt)<|aN 20<|ac (iO aQ hk)<|ac (iO aq hi)<|a1<|ac h0<|ac (iO aq hi) a0) rfl rfl rfl (n6 rfl n false _ oaG _ _ _) (gb inb)
 ·have hs:eL (okF) (inb,ag) (eAt n i k)=((inb.set (Int.toNat<|Edge.to<|eAt n i k) true),true):=by unfold eL mkA;simp only[okT,okF,h1,af2,af8]
  rw[hs];exact eU (lo:=1) (dz aE mixed<|bq _) (sel:=[0]) (N':=2) (show iM [2,3,4,9,10,11,12] [0] (runK Tryz.prog 85 base cU 3000 (kbL []) rG (en<|L34 n false (.v<|.slice none 0 0) ag i k) (dZ<|O34 inb) 1 ⟨1,(.row (aq<|ae n.aa<|i)::bT::bT::.row (aq<|ae n.aa<|i)::.row (aQ<|eAt n i k)::uFF 16 (uTT 4 [.bG (Int.toNat<|Edge.to<|eAt n i k) ([]),bT,.at ((Int.toNat<|Edge.to<|eAt n i k)) (0) (aA<|ae (inb)<|(Int.toNat<|Edge.to<|eAt n i k)),bF,.bG (Int.toNat<|Edge.to<|eAt n i k) ([]),.at ((Int.toNat<|Edge.to<|eAt n i k)) (0) (aA<|ae (inb)<|(Int.toNat<|Edge.to<|eAt n i k)),.int ((↑(k+1):Int)),bT])),[]⟩)=some (.normal,nm (L34 n false (.v<|.slice none 0 0) true i<|k+1),[some (.row 4 1<|(inb.map aA).set (Int.toNat<|Edge.to<|eAt n i k) [B true])],2,_) by kernel_rfl)
   (ac (pD hk hkm)<|ac (GL<|at1 aA hat)<|ac (nc hto hlt)<|ac (au h1)<|ac (at1 aA hat)<|a1<|ac (nc hto hlt)<|aN 20<|ac (iO aQ hk)<|ac (iO aq hi)<|a1<|ac h0<|ac (iO aq hi) a0) rfl rfl rfl (n6 rfl n false _ oaG _ _ _) (by rw[rE];exact gb _)
structure GO(n:Net):Prop where
 rules:n.rules.length<=1000000
 aa:n.aa.length<=1000000
 ah: ∀i,(ae n.aa i).ah.length<=4611686018427387904
def aa9:di [4] Kc=[(4,.loop rG)]:=by kernel_rfl
def aba:di [2] Kb=[(2,.loop Kc)]:=by kernel_rfl
def adM:di [0] (aG 57)=[(0,.loop Kb)]:=by kernel_rfl
structure V34(n:Net)(f:Bool)(emp:AV)(ok:Edge->Bool):Prop where
 pure:emp.pure=true
 round: ∀(x:Sa)(i k:Nat),i<n.aa.length->x.1.length=n.aa.length->k<(ae n.aa i).ah.length->
  bo pg 85 0 rG (L34 n f emp x.2 i k) (O34 x.1) .normal (L34 n f emp (eL ok x<|eAt n i k).2 i<|k+1) (O34 (eL ok x<|eAt n i k).1)
def v34T{n:Net}(hn:rH n)(hf:GO n){emp:lXB}(he: ∀s∈n.aa,∀e∈s.ah,e.op=2->0<=e.n/\e.n<(emp.length:Int)):V34 n true (.sl 1<|emp.map aA) (okT emp):=⟨by simp[AV.pure,bc bY],λx i k hi hx hk=>by have hm:=gn (l:=(ae n.aa i).ah) hk;exact in34T n x.1 emp x.2 i k hi hx hk (agu (hf.ah i) oaa) (hn _ (gn hi) _ hm) λh=>he _ (gn hi) _ hm (eq_of_beq h)⟩
def v34F{n:Net}(hn:rH n)(hf:GO n):V34 n false (.v<|.slice none 0 0) okF:=⟨rfl,λx i k hi hx hk=>by have hm:=gn (l:=(ae n.aa i).ah) hk;exact in34F n x.1 x.2 i k hi hx hk (agu (hf.ah i) oaa) (hn _ (gn hi) _ hm)⟩
section
variable{n:Net}{f:Bool}{emp:AV}{ok:Edge->Bool}(V:V34 n f emp ok)(hn:rH n)(hf:GO n)
theorem Ke(x:Sa)(l:List Edge)(k:Nat)(hk:k<l.length):jw ok x (l.take<|k+1)=eL ok (jw ok x<|l.take k) (ae l k):=by grind[List.take_add_one,fC,jw]
theorem Cf(hn:rH n)(x:Sa)(hx:x.1.length=n.aa.length): ∀m,(gQ ok n x m).1.length=n.aa.length
 |0=>hx
 |m+1=>by
  have ih:=Cf hn x hx m;simp only[gQ];unfold th;cases ae (gQ ok n x m).1 m with
  |false=>exact ih
  |true=>rw[af2,(rI ok (ae n.aa m).ah (gQ ok n x m) λe he=>by rw[ih];exact rJ hn m e he).1.len];exact ih
 include V hn
theorem adN(x:Sa)(i:Nat)(hi:i<n.aa.length)(hx:x.1.length=n.aa.length):cx pg 85 0 4 (.loop rG) (Nc n f emp x (jw ok x (ae n.aa i).ah) i):=by
 refine⟨λ_ e=>oao,λ_ _=> ?_⟩;have hlen: ∀l:List Edge,(∀e∈l,e∈(ae n.aa i).ah)->(jw ok x l).1.length=n.aa.length:=λl hl=>by rw[(rI ok l x λe he=>by rw[hx];exact rJ hn i e<|hl e he).1.len];exact hx
 refine ig (xr:= .exit 4) (λk=>L34 n f emp (jw ok x<|(ae n.aa i).ah.take k).2 i k) (λk=>O34 (jw ok x<|(ae n.aa i).ah.take k).1) (λk=>k<=(ae n.aa i).ah.length) (λk=>(ae n.aa i).ah.length-k) 0 (agn _) (λe=>by cases e) λk hk=> ?_;by_cases hkl:k<(ae n.aa i).ah.length
 ·left;have h:=V.round (jw ok x<|(ae n.aa i).ah.take k) i k hi (hlen _ λe he=>agC he) hkl;rw[<-Ke x _ k hkl]at h;grind
 ·right;obtain rfl:k=(ae n.aa i).ah.length:=by omega
  simp only[agj];generalize jw ok x (ae n.aa i).ah=y;have h0:(decide<|((ae n.aa i).ah.length:Int)<(((ae n.aa i).ah.map aQ).length:Nat))=false:=oaz;exact eU (lo:=1) (dz aE mixed<|bq _) (L':=n4 n f emp y.2 i) (ob':=O34 y.1) (sel:=[0]) (N':=1) (show iM [2,3,4,9,10,11] [0] (runK Tryz.prog 85 base cU 3000 (kbL []) rG (en<|L34 n f emp y.2 i (ae n.aa i).ah.length) (dZ<|O34 y.1) 1 ⟨1,[.row (aq<|ae n.aa i),bF,bF,bT],[]⟩)=some (.exit 4,nm (n4 n f emp y.2 i),[some (.row 4 1<|y.1.map aA)],1,_) by kernel_rfl)
   (a1<|ac (au h0)<|ac (iO aq hi) a0) rfl rfl rfl (Ef rfl n f emp V.pure _ _) (gb _)
 include hf
theorem mid34(x:Sa)(i:Nat)(hi:i<n.aa.length)(hx:x.1.length=n.aa.length):bo pg 85 0 Kc (n4 n f emp x.2 i) (O34 x.1) .normal (n4 n f emp (th ok n x i).2<|i+1) (O34 (th ok n x i).1):=by
 have h0:(decide<|(i:Int)<((n.aa.map aq).length:Nat))=true:=afT oaN;have him:n.aa.length<=9223372036854775807:=agu hf.aa oaa;have hb:=adN V hn x i hi hx;have hix:i<x.1.length:=by omega
 unfold th;rcases nM (ae x.1 i)with h1|h1
 ·rw[h1];simp only[af2];generalize jw ok x (ae n.aa i).ah=y at hb⊢;exact eU (lo:=1) (dz aE mixed<|bw (l:=[(4,Nc n f emp x y i)]) aa9 (aK hb rfl aU) rfl) (L':=n4 n f emp y.2<|i+1) (ob':=O34 y.1) (sel:=[0]) (N':=1) (show iM [2,3,4,9,10,11] [0] (runK Tryz.prog 85 base cU 3000 (kbL [(4,Nc n f emp x y i)]) Kc (en<|n4 n f emp x.2 i) (dZ<|O34 x.1) 1 ⟨1,[bT,bT,.bG i [],.at i 0 (aA<|ae x.1 i),bF,bF,.int ↑(i+1),bT],[]⟩)=some (.normal,nm (n4 n f emp y.2<|i+1),[some (.row 4 1<|y.1.map aA)],1,_) by kernel_rfl)
   (ac (pD hi him)<|a1<|ac (kbT (Nc n f emp x y i) trivial)<|ac (n2 h1)<|ac (at1 aA hix)<|ac (nc rfl hi)<|a1<|ac h0 a0) rfl rfl rfl (Ef rfl n f emp V.pure _ _) (gb _)
 ·rw[h1];simp only[af8];exact eU (lo:=1) (dz aE mixed<|bq _) (L':=n4 n f emp x.2<|i+1) (ob':=O34 x.1) (sel:=[0]) (N':=1) (show iM [2,3,4,9,10,11] [0] (runK Tryz.prog 85 base cU 3000 (kbL []) Kc (en<|n4 n f emp x.2 i) (dZ<|O34 x.1) 1 ⟨1,[bT,bT,.bG i [],.at i 0 (aA<|ae x.1 i),bT,.int ↑(i+1),bT],[]⟩)=some (.normal,nm (n4 n f emp x.2<|i+1),[some (.row 4 1<|x.1.map aA)],1,_) by kernel_rfl)
   (ac (pD hi him)<|ac (au h1)<|ac (at1 aA hix)<|ac (nc rfl hi)<|a1<|ac h0 a0) rfl rfl rfl (Ef rfl n f emp V.pure _ _) (gb _)
theorem adO(inb:lXB)(hx:inb.length=n.aa.length):cx pg 85 0 2 (.loop Kc) (Nd n f emp inb<|gQ ok n (inb,false) n.aa.length):=by
 refine⟨λ_ e=>oao,λ_ _=> ?_⟩;refine ig (xr:= .exit 2) (λi=>n4 n f emp (gQ ok n (inb,false) i).2 i) (λi=>O34 (gQ ok n (inb,false) i).1) (λi=>i<=n.aa.length) (λi=>n.aa.length-i) 0 (agn _) (λe=>by cases e) λi hi=> ?_;by_cases hil:i<n.aa.length
 ·exact .inl ⟨i+1,by omega,by omega,(by grind[mid34,gQ,Cf])⟩
 ·right;obtain rfl:i=n.aa.length:=by omega
  generalize gQ ok n (inb,false) n.aa.length=y;have h0:(decide<|(n.aa.length:Int)<((n.aa.map aq).length:Nat))=false:=oaz;exact eU (lo:=1) (dz aE mixed<|bq _) (L':=n5 n f emp y.2) (ob':=O34 y.1) (sel:=[0]) (N':=1) (show iM [2,3,4,9,10] [0] (runK Tryz.prog 85 base cU 3000 (kbL []) Kc (en<|n4 n f emp y.2 n.aa.length) (dZ<|O34 y.1) 1 ⟨1,[bF,bF,bT],[]⟩)=some (.exit 2,nm (n5 n f emp y.2),[some (.row 4 1<|y.1.map aA)],1,_) by kernel_rfl)
   (a1<|ac (au h0) a0) rfl rfl rfl (Eg rfl n f emp V.pure _) (gb _)
theorem adP(i:Nat)(inb:lXB)(hx:RI ok n i (inb,true)):bo pg 85 0 (.block 0<|.loop Kb) (n5 n f emp true) (O34 inb) .normal (n5 n f emp false) (O34<|ef ok n i):=by
 refine ig (xr:= .exit 0) (λx:Sa=>n5 n f emp x.2) (λx=>O34 x.1) (RI ok n i) (λx=>2*cf x.1+x.2.toNat) (inb,true) hx (λe=>by cases e) λx h=> ?_;obtain⟨inb,ag⟩:=x;cases ag with
 |true=>
  left;obtain⟨k1,k2⟩:=aa8 hn h;refine⟨_,k1,by simpa using k2,?_⟩;have hb:=adO V hn hf inb h.len;generalize gQ ok n (inb,false) n.aa.length=y at hb⊢;exact eU (lo:=1) (dz aE mixed<|bw (l:=[(2,Nd n f emp inb y)]) aba (aK hb rfl aU) rfl) (L':=n5 n f emp y.2) (ob':=O34 y.1) (sel:=[0]) (N':=1) (show iM [2,3,4,9,10] [0] (runK Tryz.prog 85 base cU 3000 (kbL [(2,Nd n f emp inb y)]) Kb (en<|n5 n f emp true) (dZ<|O34 inb) 1 ⟨1,[bT,bF,bT],[]⟩)=some (.normal,nm (n5 n f emp y.2),[some (.row 4 1<|y.1.map aA)],1,_) by kernel_rfl)
   (a1<|ac (kbT (Nd n f emp inb y) trivial)<|a1 a0) rfl rfl rfl (Eg rfl n f emp V.pure _) (gb _)
 |false=>
  right;rw[<-adL h];exact eU (lo:=1) (dz aE mixed<|bq _) (L':=n5 n f emp false) (ob':=O34 inb) (sel:=[0]) (N':=1) (show iM [2,3,4,9,10] [0] (runK Tryz.prog 85 base cU 3000 (kbL []) Kb (en<|n5 n f emp false) (dZ<|O34 inb) 1 ⟨1,[bF,bT],[]⟩)=some (.exit 0,nm (n5 n f emp false),[some (zDI inb)],1,_) by kernel_rfl)
   (a1 a0) rfl rfl rfl (Eg rfl n f emp V.pure _) (gb _)
end
def makeT{k:Nat}(h:k<=1000000):(Nat.ble k k&&Nat.ble (1*k) 281474976710656&&Nat.ble k 9223372036854775807)=true:=by grind[Ce]
def Nf(n:Net)(f:Bool)(emp:AV)(i:Nat)(res:lXB):KB:=⟨[(2,B f),(3,emp),(4,.pf (bA n)),(9,.sr 0 1 0 (length<|zA n)),(10,B true)],[.row 4 1 ((replicate (length<|zA n) [B false]).set i [B true])],false,.ret,[],[],.normal,n5 n f emp false,O34 res,True⟩
abbrev zCa(i:Nat)(n:Net):lXE:=[.row 4 1 ((replicate (length<|map aq n.aa) [B false]).set i [B true])]
def ui{n:Net}{f:Bool}{emp:AV}{ok:Edge->Bool}(V:V34 n f emp ok)(hn:rH n)(hf:GO n)(i:Nat)(hi:i<n.aa.length):aY pg 57 [jD n,I (i:Nat),B f,emp] [] [] (.sr 0 1 0 n.aa.length) [.row 4 1 ((ef ok n i).map aA)]:=by
 refine kr (fn:=Tryz.f57) Tryz.func57 oab (show Tryz.f57.body=some (aG 57) by kernel_rfl) (nbl rfl) (agn _) rfl oaH ?_;have hl:(n.aa.map aq).length=n.aa.length:=afW _;have hr:RI ok n i ((replicate n.aa.length false).set i true,true):=by
  refine⟨by simp,by simp[hi],λk hk=> ?_,λe=>by cases e⟩;simp only at hk;rw[List.getElem?_set]at hk;split at hk
  ·rename_i e;exact .inl e.symm
  ·rw[ago]at hk;split at hk<;>simp at hk
 have hlp:=adP V hn hf i _ hr;have ho:((zCa i n):lXE)=O34 ((replicate n.aa.length false).set i true):=by simp[O34,aA,List.map_set]
 have hb:cx pg 85 0 0 (.loop Kb) (Nf n f emp i<|ef ok n i):=⟨λ_ e=>oao,λ_ _=>by show bo pg 85 0 (.block 0<|.loop Kb) [(2,B f),(3,emp),(4,.pf (bA n)),(9,.sr 0 1 0 (length<|map aq n.aa)),(10,B true)] (zCa i n) .normal (n5 n f emp false) (O34<|ef ok n i);rw[ho,hl];exact hlp⟩;have hs:(dec ((0+i*1)/1=i)&&(dec ((0+i*1)%1=0)&&dec ((replicate (length<|map aq n.aa) [B false])[i]? =some [B false]))&&true)=true:=by rw[aR.2 (show(0+i*1)/1=i by omega),aR.2 (show(0+i*1)%1=0 by omega),aR.2 (by rw[ago,if_pos oaa])];rfl
 have hm:(Nat.ble (length<|map aq n.aa) (length<|map aq n.aa)&&Nat.ble (1*length (map aq n.aa)) 281474976710656&&Nat.ble (length<|map aq n.aa) 9223372036854775807)=true:=by exact makeT (by rw[hl];exact hf.aa)
 exact xo (lo:=0) (obs:=[.row 4 1 ((ef ok n i).map aA)]) (dz aE mixed<|bw (l:=[(0,Nf n f emp i (ef ok n i))]) adM (aK hb rfl aU) rfl) (eM _) bX.nil (show mZ Tryz.prog Tryz.f57.results.toList 1 (runK Tryz.prog 85 base cU 3000 (kbL [(0,Nf n f emp i (ef ok n i))]) (aG 57) (jC 0 [jD n,I (i:Nat),B f,emp] .e) .e 0 ⟨0,[.bG i [],.at i 0 [B false],bF,bT],[]⟩)=some (.sr 0 1 0 n.aa.length,[some (.row 4 1<|(ef ok n i).map aA)],_) by kernel_rfl)
  (a1<|ac (kbT (Nf n f emp i<|ef ok n i) trivial)<|ac hs<|ac (nc rfl (by omega:i<(n.aa.map aq).length))<|ac hm a0) rfl λxs=>⟨rfl,xs,rfl⟩
@[simp] theorem abb(l:lXB):ak (l.map aA)=true:=bc bY l
@[simp] theorem pr_rowN(l:List lXC):ak (l.map bJ)=true:=bc Cd l
@[simp] theorem pr_bools(l:lXB)(i:Nat)(b:Bool):ak ((l.map aA).set i<|aA b)=true:=by rw[<-List.map_set];exact abb _
structure cg(n:Net):Prop where
 to:rH n
 call: ∀s∈n.aa,∀e∈s.ah,e.op=2->0<=e.n/\e.n<(n.rules.length:Int)
 start: ∀r∈n.rules,0<=r.start/\r.start<(n.aa.length:Int)
 stop: ∀r∈n.rules,0<=r.stop/\r.stop<(n.aa.length:Int)
theorem ck.f0{n:Net}(h:ck n):GO n:=⟨h.rules,h.aa,λi=>by
 by_cases hi:i<n.aa.length
 ·exact agu (h.ah _<|aw hi) oaa
 ·have:ae n.aa i=default:=by simp_all[ae]
  rw[this];exact agn _⟩
theorem qf(ok:Edge->Bool)(n:Net)(i:Nat):(ef ok n i).length=n.aa.length:=by simp[ef]
def Kf(l:lXB): ∀c∈(l.map aA).flatten,∃x,c= .v x:=(by grind[aA])
section
variable(n:Net)(x:Int)(emp:lXB)
def i34:m9:=⟨57,[jD n,I x,B true,.sr 0 1 0 (length<|map aC n.rules)],[.row 4 1 (emp.map aA)],.sl 1 ((ef (okT emp) n x.toNat).map aA),(0<=x/\x<(n.aa.length:Int))/\emp.length=n.rules.length⟩
theorem g34(hn:cg n)(hf:ck n):(i34 n x emp).bS pg:=λhp=>by
 have hp:(0<=x/\x<(n.aa.length:Int))/\emp.length=n.rules.length:=hp;have hx:x=((x.toNat:Nat):Int):=by omega
 have hV:V34 n true (.sl 1<|emp.map aA) (okT emp):=v34T hn.to hf.f0 (by rw[hp.2];exact hn.call);have h:=ui hV hn.to hf.f0 x.toNat oaa;rw[<-hx]at h;refine kR rfl (Jr (X:= .row 4 1<|emp.map aA) (.inl ⟨_,_,_,rfl⟩) (jv.cons (Frz.same _)<|by grind[jv.cons,Frz.same,Frz.sr0,jv.nil]) ?_ ?_ h (by simp[ef]) (Kf _) (bc bY _))
 ·simp[aj,AV.pure,bc bY]
 ·simp[Ob.und,bj bY]
end
def Ng:Code:=bD 0 (aG 58)
def acE:Code:=bD 2 Ng
section
variable(n:Net)
def xW(w0:Bool×(lXB))(i2:Nat)(y2:Bool×(lXB)):Bool×(lXB):=(bif !(ae y2.2 i2)then(bif (aF (ef (okT y2.2) n ((ae n.rules i2).start).toNat) (ae n.rules i2).stop)then(true,List.set y2.2 i2 true)else(y2.1,y2.2))else(y2.1,y2.2))
def ct(w0:Bool×(lXB))(kk:Nat):Bool×(lXB):=Nat.rec (motive:=λ_=>Bool×(lXB)) (false,w0.2) (λj a=>xW n w0 j a) kk
theorem Wq(w:Bool×(lXB))(i:Nat):length (ct n w i).2=length w.2:=by
 induction i with
 |zero=>rfl
 |succ i ih=>grind[xW,ct]
theorem low25(w:Bool×(lXB))(hw:length w.2=length n.rules)(i:Nat)(hi:i<=n.rules.length):cf (ct n w i).2+(bif (ct n w i).1 then 1 else 0)<=cf w.2:=by
 induction i with
 |zero=>exact afP _
 |succ i ih=>grind[Wq,xW,ct,xQ]
abbrev tj(w0:Bool×(lXB))(i2:Nat)(y2:Bool×(lXB)):Am.Loc:=[(1,.pf (bA n)),(3,.sr 0 1 0 (length<|zH n)),(4,B y2.1),(5,I (i2:Int))]
end
abbrev tk(n:Net)(w0:Bool×(lXB))(i2:Nat)(y2:Bool×(lXB)):lXE:=[.row 4 1 (map aA y2.2)]
section
variable(n:Net)(w0:Bool×(lXB))
abbrev Wr(i2:Nat):Am.Loc:=tj n w0 i2 (ct n w0 i2)
abbrev Ws(i2:Nat):lXE:=tk n w0 i2 (ct n w0 i2)
abbrev zCD:=(ct n w0<|length n.rules)
abbrev Wt:Am.Loc:=[(1,.pf (bA n)),(3,.sr 0 1 0 (length<|zH n)),(4,B ((zCD n w0).1))]
abbrev Wu:lXE:=[.row 4 1 (map aA<|(zCD n w0).2)]
def Kg:KB:=noK 2 (Wr n w0) (Ws n w0) (.exit 2) (Wt n w0) (Wu n w0) (True)
abbrev Nh(i2:Nat):List bf:=[nxW (false) (Wr n w0<|i2+1) (Ws n w0<|i2+1) (tj n w0 (i2+1) (true,List.set ((ct n w0 i2).2) i2 true)) zAc (tk n w0 (i2+1) (true,List.set ((ct n w0 i2).2) i2 true)),nxW (false) (Wr n w0<|i2+1) (Ws n w0<|i2+1) (tj n w0 (i2+1) ((ct n w0 i2).1,(ct n w0 i2).2)) zAc (tk n w0 (i2+1) ((ct n w0 i2).1,(ct n w0 i2).2))]
def Wv(hn:cg n)(hf:ck n)(hw0:length w0.2=length n.rules):cx pg 46 0 2 (.loop acE) (Kg n w0):=
 noB (Nh n w0) (λi2=>(.r [.k,bT]<|.yes<|.a (.r (.at i2 0 (aA<|ae ((ct n w0 i2).2) i2)::uTT 5 (.row (aC<|ae n.rules i2)::uTT 4 (.bG 0 []::uTT 4 [.row (aC<|ae n.rules i2),bT,bT,bT,.bG ((ae n.rules i2).stop).toNat (aA<|aF (ef (okT<|(ct n w0 i2).2) n ((ae n.rules i2).start).toNat) (ae n.rules i2).stop),bT,bT])))<|.br (.r [.at i2 0 (aA<|ae ((ct n w0 i2).2) i2),bT]<|.r [bT]<|.r (zi i2)<|.pick 0)<|.r (zi i2)<|.pick 1)<|.r (.at i2 0 (aA<|ae ((ct n w0 i2).2) i2)::uFF 17 [bT])<|.r (zi i2)<|.pick 1)) (range 1) zE (length n.rules)
 (λ_ i2(hx2:i2<(length n.rules))=>have hr:=hf.rules;have hl:length (ct n w0 i2).2=length n.rules:=(Wq n w0 i2).trans hw0;have hs:=hn.start _ (aw hx2);have ht:=hn.stop _ (aw hx2);have hrl:=qf (okT (ct n w0 i2).2) n (ae n.rules i2).start.toNat;have l1:=aL aC (n.rules);have hb:(decide<|(i2:Int)<(length (map aC n.rules):Int))=true:=afT oaa;
 bB (an (a1 a0)<|an hb<|aO (λ(h1:(!(ae ((ct n w0 i2).2) i2))=true)=>(have l2:=aL aA ((ef (okT<|(ct n w0 i2).2) n ((ae n.rules i2).start).toNat));an (a1<|ac (rwz aA (ef (okT<|(ct n w0 i2).2) n ((ae n.rules i2).start).toNat) (ae n.rules i2).stop)<|aN 3<|ac (rwa aC n.rules i2)<|aN 4<|ac (qE (c:=i34 n (ae n.rules i2).start<|(ct n w0 i2).2) ⟨hs,hl⟩ rfl)<|aN 4<|ac (rwa aC n.rules i2)<|aN 4<|ac h1<|ac (ato 1 0 i2<|rl aA<|(ct n w0 i2).2)<|ac (ixo i2<|length<|map aC n.rules) a0)<|brP (λ(h2:((aF (ef (okT<|(ct n w0 i2).2) n ((ae n.rules i2).start).toNat) (ae n.rules i2).stop))=true)=>(an (ac (sto 1 0 1 i2<|rl aA<|(ct n w0 i2).2)<|ac (ixo i2<|length<|map aC n.rules) a0)<|an a0<|an (ac (dwo ((i2+1:Nat):Int)) a0)<|lfE (wy (Nh n w0 i2) 0) 1 (nxP (tj n w0<|i2+1) (tk n w0<|i2+1) rfl<|show ct n w0 (i2+1)=_ from(cdT h1<|cdT h2 rfl))<|aW (af1 (λz=>Ob.row 4 1 z)<|l6 (f:=aA) (rl aA<|(ct n w0 i2).2) i2 true) ee))<|λh2=>
 (an (ac (dwo ((i2+1:Nat):Int)) a0)<|lf (wy (Nh n w0 i2) 1) 1<|nxP (tj n w0<|i2+1) (tk n w0<|i2+1) rfl<|show ct n w0 (i2+1)=_ from(cdT h1<|cdF h2 rfl))))<|λh1=>(an (aN 16<|ac (au h1)<|ac (ato 1 0 i2<|rl aA<|(ct n w0 i2).2)<|ac (ixo i2<|length<|map aC n.rules) a0)<|an (ac (dwo ((i2+1:Nat):Int)) a0)<|lf (wy (Nh n w0 i2) 1) 1<|nxP (tj n w0<|i2+1) (tk n w0<|i2+1) rfl<|show ct n w0 (i2+1)=_ from(cdF h1 rfl)))
 oab)
 (λ_=>have hr:=hf.rules;have l1:=aL aC (n.rules);have hb:(zP n)=false:=afU oaa;
 bB (an (a1 a0)<|an hb<|lx (.exit 2) (Wt n w0) (range 1) (Wu n w0) 1)
 oab) (callf:=λi2=>(Dw [i34 n (ae n.rules i2).start ((ct n w0 i2).2)] base)) (hc:=λ_ i2 hx2=>(B0 (.cons (g34 n (ae n.rules i2).start ((ct n w0 i2).2) hn hf) tY.nil) aE))
def qg:Bool×(lXB):=((ct n w0<|length n.rules).1,(ct n w0<|length n.rules).2)
end
def eQ(n:Net)(kk:Nat):Bool×(lXB):=Nat.rec (motive:=λ_=>Bool×(lXB)) (true,replicate (length<|map aC n.rules) false) (λ_ a=>qg n a) kk
def nf(n:Net)(w0:Bool×(lXB)):Bool:=(!w0.1)
def n7(n:Net):Bool×(lXB):=eQ n (eB (nf n)<|eQ n)
theorem Cg(n:Net): ∀k,length (eQ n k).2=length n.rules
 |0=>by show length (replicate _ false)=_;simp
 |k+1=>by show length (qg n<|eQ n k).2=_;unfold qg;rw[Wq,Cg n k]
def Ww(n:Net):(∃k,nf n (eQ n k)=true)/\ ∀k,k<=eB (nf n) (eQ n)->length (eQ n k).2=length n.rules:=by
 refine⟨?_,λk _=>Cg n k⟩;by_cases h: ∃k,nf n (eQ n k)=true
 ·exact h
 ·have h: ∀k,(eQ n k).1=true:=(by grind[nf]);have key: ∀k,cf (eQ n k).2+k<=cf (eQ n 0).2:=λk=>by
   induction k with
   |zero=>exact afP _
   |succ k ih=>have h1:=low25 n (eQ n k) (Cg n k) n.rules.length (afP _);have h2:(ct n (eQ n k) n.rules.length).1=true:=h (k+1);have h3:(eQ n<|k+1).2=(ct n (eQ n k) n.rules.length).2:=rfl;grind
  have:=key (cf (eQ n 0).2+1);omega
abbrev Nj(n:Net)(w0:Bool×(lXB)):Am.Loc:=[(1,.pf (bA n)),(3,.sr 0 1 0 (length<|zH n)),(4,B w0.1)]
abbrev Wx(n:Net)(w0:Bool×(lXB)):Am.Loc:=[(3,.sr 0 1 0 (length<|zH n))]
abbrev zBJ(w0:Bool×(lXB)):lXE:=[.row 4 1 (map aA w0.2)]
abbrev Nk(n:Net)(w0:Bool×(lXB)):lXE:=(zBJ w0)
abbrev Wy(n:Net)(w0:Bool×(lXB)):lXE:=(zBJ w0)
def xX(n:Net):KB:=whK 0 (nf n) (λ_=>false) (eQ n) (Nj n) (Nk n) .ret (λ_=>[]) (λ_=>[]) (.exit 0) (Wx n) (Wy n) (λw0=>length w0.2=length n.rules)
abbrev Wz(n:Net)(w0:Bool×(lXB)):List bf:=[nxW (nf n w0) (Nj n<|qg n w0) (Nk n<|qg n w0) (Nj n ((zCD n w0).1,(zCD n w0).2)) zAc (Nk n ((zCD n w0).1,(zCD n w0).2)),wxW (nf n w0) false (.exit 0) (Wx n w0) zAc (Wy n w0)]
def Eh:di [2] Ng=[(2,.loop acE)]:=by kernel_rfl
abbrev zCw:GT:=(.r [bT]<|.no<|.pick 0)
def WA(n:Net)(hn:cg n)(hf:ck n):cx pg 46 0 0 (.loop Ng) (xX n):=have hr:=hf.rules;whB (Wz n) (λw0=>(.r [bT]<|.br (.r [bT] zCw)<|.pick 1)) (qg n) 1 (λw0(hw0:length w0.2=length n.rules)=>bB (an a0<|brP (λ(h0:(w0.1)=true)=>(an a0<|an a0<|an (kbT (Kg n w0) trivial)<|an (rfl:false=false)<|lf (wy (Wz n w0) 0) 1<|nxP (Nj n) (Nk n) (show nf n w0=false from(cI h0))<|show(qg n w0)=((ct n w0<|length n.rules).1,(ct n w0<|length n.rules).2)from rfl))<|λh0=>(lf (wy (Wz n w0) 1) 1 ⟨show nf n w0=true from(au h0),rfl⟩)) oab) (hk:=λw0 hw0=>(bw (l:=[(2,Kg n w0)]) Eh (aK (Wv n w0 hn hf hw0) rfl aU) rfl))
def r25(n:Net):lXB:=(n7 n).2
def uR:di [0] (aG 58)=[(0,.loop Ng)]:=by kernel_rfl
def Bb(n:Net)(hn:cg n)(hf:ck n):aY pg 58 [.ag (bA n)] [] [] (.sr 0 1 0<|length<|zH n) [.row 4 1 (map aA<|r25 n)]:=have hr:=hf.rules;Mn (fn:=Tryz.f58) (callf:=base) (pu:=cU) (lf:=3000) (l:=[(0,xX n)]) (t:=zBR) aE mixed Tryz.func58 oab (show Tryz.f58.body=some (aG 58) by kernel_rfl) (nbl rfl) (bw (l:=[(0,xX n)]) uR (aK (WA n hn hf) rfl aU) rfl) rfl oaH (bB (an a0<|have l1:=aL aC (n.rules);an (ac (mko (length<|map aC n.rules) 1) a0)<|an a0<|an (F5 (xX n) (S:=nm<|KB.L0<|xX n) rfl (aW (af1 (λz=>Ob.row 4 1 z)<|Rc (f:=aA) (length<|map aC n.rules) false) ee)<|Ww n)<|an (rfl:false=false)<|an a0<|roE (k:=length<|map aC n.rules) (rfl:(.row 4 1 (map aA<|(n7 n).2):Ob)= .row 4 1 (map aA<|(n7 n).2))<|show r25 n=((n7 n).2)from rfl) oab)
def Bc(n:Net)(hn:cg n)(hf:ck n):aY pg 58 [jD n] [] [] (.sl 1<|(r25 n).map aA) []:=mH (o:=0) (T:=4) (Bb n hn hf) rfl (by simp[r25,n7,Cg]) (bc bY _)
def ba(z:Int):lXF:=[I z]
def Ch(z:Int):aj (ba z)=true:=rfl
@[simp] theorem gv(l:lXA):ak (l.map ba)=true:=bc Ch l
@[simp] theorem pv_int(z:Int):aj (ba z)=true:=rfl
@[simp] theorem pv_bool(b:Bool):aj (aA b)=true:=rfl
@[simp] theorem pv_nat(k:Nat):aj (dk k)=true:=rfl
def fU{b:lXF}(hb:aj b=true): ∀{a:List lXF}(i:Nat),ak a=true->ak (a.set i b)=true
 |[],_,h=>h
 |x::a,0,h=>by grind[ak]
 |x::a,i+1,h=>by simp only[ak,afJ,List.set_cons_succ]at h⊢;exact⟨h.1,fU hb i h.2⟩
attribute [simp] fU kx
@[simp] theorem aaf(l:lXB)(i j:Nat)(b c:Bool):ak (((l.map aA).set i<|aA b).set j<|aA c)=true:=fU rfl _ (fU rfl _<|bc bY l)
abbrev gf:=Nat×lXB×lXA
noncomputable def gS(y:gf)(x:Int):gf:=bif !(ae y.2.1 x.toNat)then(y.1+1,List.set y.2.1 x.toNat true,List.take y.1 y.2.2++ [x])else y
noncomputable def tgE(n:Net)(emp:lXB)(e:Edge):lXA:=bif e.op==1 then []else bif e.op==2 then(aF n.rules e.n).start::(bif aF emp e.n then [e.to]else [])else [e.to]
structure SI(N b:Nat)(y:gf):Prop where
 len:y.2.1.length=N
 kt:y.1<=y.2.2.length
 rng: ∀x∈y.2.2,0<=x/\x<(N:Int)
 bd:y.1+cf y.2.1<=b
def SI.push{N b:Nat}{y:gf}(h:SI N b y){x:Int}(h0:0<=x/\x<(N:Int)):SI N b (gS y x)/\2*cf (gS y x).2.1+(gS y x).1<=2*cf y.2.1+y.1:=by
 unfold gS;cases hx:ae y.2.1 x.toNat with
 |true=>exact⟨h,afP _⟩
 |false=>
  have hl:=h.len;have hc:=xQ (l:=y.2.1) (c:=x.toNat) oaa hx;have hb:=h.bd;have hk:=h.kt;simp only[agJ,af2];refine⟨⟨by simp[h.len],by simp;omega,λz hz=> ?_,by simp only;omega⟩,by omega⟩;simp only[agH,agZ]at hz;rcases hz with hz|rfl
  ·exact h.rng z (agC hz)
  ·exact h0
def SI.fold{N b:Nat}: ∀(l:lXA){y:gf},SI N b y->(∀x∈l,0<=x/\x<(N:Int))->SI N b (l.foldl gS y)/\2*cf (l.foldl gS y).2.1+(l.foldl gS y).1<=2*cf y.2.1+y.1
 |[],_,h,_=>⟨h,afP _⟩
 |x::l,y,h,hl=>by obtain⟨h1,h2⟩:=h.push (hl x oaj);obtain⟨h3,h4⟩:=SI.fold l h1 λz hz=>hl z (by simp[hz]);grind
def SI.up{N b c:Nat}{y:gf}(h:SI N b y)(hc:b<=c):SI N c y:=⟨h.len,h.kt,h.rng,agu h.bd hc⟩
def WB(l:lXB):cf l<=l.length:=List.count_le_length
def SI.pop{N:Nat}{y:gf}(h:SI N (N+1) y):SI N N (y.1-1,y.2.1,y.2.2):=by have hl:=h.len;have hk:=h.kt;have hb:=h.bd;have hc:=WB y.2.1;exact⟨h.len,by simp only;omega,h.rng,by simp only;omega⟩
def rK{α:Type}[Inhabited α]{l:List α}{s:Int}(h:(default:α)≠aF l s\/(0<=s/\s<(l.length:Int))):aF l s∈l:=by unfold aF at*;grind
def GP{n:Net}{s:Int}{e:Edge}(h:e∈(aF n.aa s).ah):aF n.aa s∈n.aa:=by
 unfold aF at*;cases hl:n.aa[s.toNat]? with
 |some x=>exact agy hl
 |none=>simp_all[default,instInhabitedState.default]
def vp{n:Net}(hn:cg n)(emp:lXB){s:Int}{e:Edge}(h:e∈(aF n.aa s).ah): ∀x∈tgE n emp e,0<=x/\x<(n.aa.length:Int):=by have hs:=GP h;have ht:=hn.to _ hs _ h;have hst:e.op=2->0<=(aF n.rules e.n).start/\(aF n.rules e.n).start<(n.aa.length:Int):=λh2=>hn.start _ (rK<|.inr<|hn.call _ hs _ h h2);unfold tgE;grind
def Nl:Code:=bD 0 (aG 59)
def Nm:Code:=bD 2 Nl
def acF:Code:=bD 4 Nm
section
variable(n:Net)(emp:lXB)
def xY(i0:Nat)(w2:Nat×(lXB)×(lXA))(i4:Nat)(y4:Nat×(lXB)×(lXA)):Nat×(lXB)×(lXA):=(bif (ae (aF n.aa<|ae w2.2.2<|w2.1-1).ah i4).op==1 then(y4.1,y4.2.1,y4.2.2)else(bif (ae (aF n.aa<|ae w2.2.2<|w2.1-1).ah i4).op==2 then(bif !(ae y4.2.1<|((aF n.rules (ae (aF n.aa<|ae w2.2.2<|w2.1-1).ah i4).n).start).toNat)then(bif !(aF emp (ae (aF n.aa<|ae w2.2.2<|w2.1-1).ah i4).n)then(y4.1+1,List.set y4.2.1 (((aF n.rules (ae (aF n.aa<|ae w2.2.2<|w2.1-1).ah i4).n).start).toNat) true,List.take y4.1 y4.2.2++ [(aF n.rules (ae (aF n.aa<|ae w2.2.2<|w2.1-1).ah i4).n).start])else(bif !(ae (List.set y4.2.1 (((aF n.rules (ae (aF n.aa<|ae w2.2.2<|w2.1-1).ah i4).n).start).toNat) true)<|((ae (aF n.aa<|ae w2.2.2<|w2.1-1).ah i4).to).toNat)then(y4.1+1+1,List.set (List.set y4.2.1 (((aF n.rules (ae (aF n.aa<|ae w2.2.2<|w2.1-1).ah i4).n).start).toNat) true) (((ae (aF n.aa<|ae w2.2.2<|w2.1-1).ah i4).to).toNat) true,List.take (y4.1+1) (List.take y4.1 y4.2.2++ [(aF n.rules (ae (aF n.aa<|ae w2.2.2<|w2.1-1).ah i4).n).start])++ [(ae (aF n.aa<|ae w2.2.2<|w2.1-1).ah i4).to])else(y4.1+1,List.set y4.2.1 (((aF n.rules (ae (aF n.aa<|ae w2.2.2<|w2.1-1).ah i4).n).start).toNat) true,List.take y4.1 y4.2.2++ [(aF n.rules (ae (aF n.aa<|ae w2.2.2<|w2.1-1).ah i4).n).start])))else(bif !(aF emp (ae (aF n.aa<|ae w2.2.2<|w2.1-1).ah i4).n)then(y4.1,y4.2.1,y4.2.2)else(bif !(ae y4.2.1<|((ae (aF n.aa<|ae w2.2.2<|w2.1-1).ah i4).to).toNat)then(y4.1+1,List.set y4.2.1 (((ae (aF n.aa<|ae w2.2.2<|w2.1-1).ah i4).to).toNat) true,List.take y4.1 y4.2.2++ [(ae (aF n.aa<|ae w2.2.2<|w2.1-1).ah i4).to])else(y4.1,y4.2.1,y4.2.2))))else(bif !(ae y4.2.1<|((ae (aF n.aa<|ae w2.2.2<|w2.1-1).ah i4).to).toNat)then(y4.1+1,List.set y4.2.1 (((ae (aF n.aa<|ae w2.2.2<|w2.1-1).ah i4).to).toNat) true,List.take y4.1 y4.2.2++ [(ae (aF n.aa<|ae w2.2.2<|w2.1-1).ah i4).to])else(y4.1,y4.2.1,y4.2.2))))
def bk(i0:Nat)(w2:Nat×(lXB)×(lXA))(kk:Nat):Nat×(lXB)×(lXA):=Nat.rec (motive:=λ_=>Nat×(lXB)×(lXA)) (w2.1-1,w2.2.1,w2.2.2) (λj a=>xY n emp i0 w2 j a) kk
theorem Ei(i0:Nat)(w:gf)(i:Nat)(y:gf):xY n emp i0 w i y=(tgE n emp<|ae (aF n.aa<|ae w.2.2<|w.1-1).ah i).foldl gS y:=by
 unfold xY tgE;generalize(ae (aF n.aa<|ae w.2.2<|w.1-1).ah i)=e;obtain⟨k,inb,todo⟩:=y;cases e.op==1 with
 |true=>rfl
 |false=>
  cases e.op==2 with
  |true=>
   cases he:aF emp e.n with
   |true=>simp only[af2,af8,Bool.not_true,List.foldl_cons,List.foldl_nil,gS];grind
   |false=>rfl
  |false=>rfl
end
def Kh{n:Net}(hn:cg n)(emp:lXB)(i0:Nat){w:gf}(hw:SI n.aa.length (n.aa.length+1) w)(i:Nat)(hi:i<=(aF n.aa<|ae w.2.2<|w.1-1).ah.length):SI n.aa.length n.aa.length (bk n emp i0 w i)/\2*cf (bk n emp i0 w i).2.1+(bk n emp i0 w i).1<=2*cf w.2.1+(w.1-1):=by
 induction i with
 |zero=>exact⟨hw.pop,afP _⟩
 |succ i ih=>obtain⟨h1,h2⟩:=ih oaa;show SI _ _ (xY n emp i0 w i<|bk n emp i0 w i)/\_;rw[Ei];have hst:bk n emp i0 w (i+1)=xY n emp i0 w i (bk n emp i0 w i):=rfl;rw[hst,Ei];obtain⟨h3,h4⟩:=SI.fold (tgE n emp<|ae (aF n.aa<|ae w.2.2<|w.1-1).ah i) h1 (vp hn emp<|aw oaa);exact⟨h3,by omega⟩
abbrev zCu(w2:Nat×(lXB)×(lXA)):=(ae w2.2.2<|w2.1-1)
abbrev iC(n:Net)(emp:lXB)(i0:Nat)(w2:Nat×(lXB)×(lXA))(i4:Nat)(y4:Nat×(lXB)×(lXA)):Am.Loc:=[(1,.sl 1 (map aA emp)),(2,.pf (bA n)),(5,I (i0:Int)),(6,.sr 0 1 0 (length<|zA n)),(7,.sr 1 1 0 y4.1),(8,I (zCu w2)),(9,I (i4:Int))]
abbrev iD(n:Net)(emp:lXB)(i0:Nat)(w2:Nat×(lXB)×(lXA))(i4:Nat)(y4:Nat×(lXB)×(lXA)):lXE:=[.row 4 1 (map aA y4.2.1),.row 3 1 (map ba y4.2.2)]
section
variable(n:Net)(emp:lXB)(i0:Nat)(w2:Nat×(lXB)×(lXA))
abbrev GQ(i4:Nat):Am.Loc:=iC n emp i0 w2 i4 (bk n emp i0 w2 i4)
abbrev GS(i4:Nat):lXE:=iD n emp i0 w2 i4 (bk n emp i0 w2 i4)
def n8(i4:Nat):Bool:=(!((ae (aF n.aa<|ae w2.2.2<|w2.1-1).ah i4).op==1)&&(bif (ae (aF n.aa<|ae w2.2.2<|w2.1-1).ah i4).op==2 then(((aF n.rules (ae (aF n.aa<|ae w2.2.2<|w2.1-1).ah i4).n).start==(i0:Int))||(!(!(aF emp (ae (aF n.aa<|ae w2.2.2<|w2.1-1).ah i4).n))&&((ae (aF n.aa<|ae w2.2.2<|w2.1-1).ah i4).to==(i0:Int))))else((ae (aF n.aa<|ae w2.2.2<|w2.1-1).ah i4).to==(i0:Int))))
def Ej:Bool:=dA (length (aF n.aa<|ae w2.2.2<|w2.1-1).ah) (n8 n emp i0 w2)
end
abbrev WC(n:Net)(emp:lXB)(i0:Nat)(w2:Nat×(lXB)×(lXA))(i4:Nat):Am.Loc:=[(4,B true)]
abbrev WD(n:Net)(emp:lXB)(i0:Nat)(w2:Nat×(lXB)×(lXA))(i4:Nat):lXE:=[]
abbrev zK(n:Net)(w2:Nat×(lXB)×(lXA)):=(aF n.aa<|zCu w2).ah
abbrev zBT(emp:lXB)(i0:Nat)(n:Net)(w2:Nat×(lXB)×(lXA)):=(bk n emp i0 w2<|length<|zK n w2)
section
variable(n:Net)(emp:lXB)(i0:Nat)(w2:Nat×(lXB)×(lXA))
abbrev WG:Am.Loc:=[(1,.sl 1 (map aA emp)),(2,.pf (bA n)),(5,I (i0:Int)),(6,.sr 0 1 0 (length<|zA n)),(7,.sr 1 1 0 ((zBT emp i0 n w2).1))]
abbrev WH:lXE:=[.row 4 1 (map aA<|(zBT emp i0 n w2).2.1),.row 3 1 (map ba<|(zBT emp i0 n w2).2.2)]
end
abbrev zBZ(w2:Nat×(lXB)×(lXA)):=(decide<|((w2.1:Nat):Int)>0)
def Ki(n:Net)(emp:lXB)(i0:Nat)(w2:Nat×(lXB)×(lXA)):KB:=anK 4 (length<|zK n w2) (n8 n emp i0 w2) (GQ n emp i0 w2) (GS n emp i0 w2) .ret (WC n emp i0 w2) (WD n emp i0 w2) (.exit 4) (WG n emp i0 w2) (WH n emp i0 w2) ((zBZ w2)=true)
abbrev zBN(i4:Nat)(n:Net)(w2:Nat×(lXB)×(lXA)):=(aF n.rules (ae (zK n w2) i4).n).start
abbrev zBc:=(range 2)
abbrev kX(n:Net)(emp:lXB)(i0:Nat)(w2:Nat×(lXB)×(lXA))(i4:Nat):List bf:=[nxW (n8 n emp i0 w2 i4) (GQ n emp i0 w2<|i4+1) (GS n emp i0 w2<|i4+1) (iC n emp i0 w2 (i4+1) ((bk n emp i0 w2 i4).1,(bk n emp i0 w2 i4).2.1,(bk n emp i0 w2 i4).2.2)) zBc (iD n emp i0 w2 (i4+1) ((bk n emp i0 w2 i4).1,(bk n emp i0 w2 i4).2.1,(bk n emp i0 w2 i4).2.2)),htW (n8 n emp i0 w2 i4) .ret (WC n emp i0 w2 i4) zb (WD n emp i0 w2 i4),nxW (n8 n emp i0 w2 i4) (GQ n emp i0 w2<|i4+1) (GS n emp i0 w2<|i4+1) (iC n emp i0 w2 (i4+1) ((bk n emp i0 w2 i4).1+1,List.set ((bk n emp i0 w2 i4).2.1) (((zBN i4 n w2)).toNat) true,List.take ((bk n emp i0 w2 i4).1) ((bk n emp i0 w2 i4).2.2)++ [(zBN i4 n w2)])) [0,3] (iD n emp i0 w2 (i4+1) ((bk n emp i0 w2 i4).1+1,List.set ((bk n emp i0 w2 i4).2.1) (((zBN i4 n w2)).toNat) true,List.take ((bk n emp i0 w2 i4).1) ((bk n emp i0 w2 i4).2.2)++ [(zBN i4 n w2)])),nxW (n8 n emp i0 w2 i4) (GQ n emp i0 w2<|i4+1) (GS n emp i0 w2<|i4+1) (iC n emp i0 w2 (i4+1) ((bk n emp i0 w2 i4).1+1+1,List.set (List.set ((bk n emp i0 w2 i4).2.1) (((zBN i4 n w2)).toNat) true) (((ae (zK n w2) i4).to).toNat) true,List.take ((bk n emp i0 w2 i4).1+1) (List.take ((bk n emp i0 w2 i4).1) ((bk n emp i0 w2 i4).2.2)++ [(zBN i4 n w2)])++ [(ae (zK n w2) i4).to])) [0,4] (iD n emp i0 w2 (i4+1) ((bk n emp i0 w2 i4).1+1+1,List.set (List.set ((bk n emp i0 w2 i4).2.1) (((zBN i4 n w2)).toNat) true) (((ae (zK n w2) i4).to).toNat) true,List.take ((bk n emp i0 w2 i4).1+1) (List.take ((bk n emp i0 w2 i4).1) ((bk n emp i0 w2 i4).2.2)++ [(zBN i4 n w2)])++ [(ae (zK n w2) i4).to])),nxW (n8 n emp i0 w2 i4) (GQ n emp i0 w2<|i4+1) (GS n emp i0 w2<|i4+1) (iC n emp i0 w2 (i4+1) ((bk n emp i0 w2 i4).1+1,List.set ((bk n emp i0 w2 i4).2.1) (((ae (zK n w2) i4).to).toNat) true,List.take ((bk n emp i0 w2 i4).1) ((bk n emp i0 w2 i4).2.2)++ [(ae (zK n w2) i4).to])) [0,3] (iD n emp i0 w2 (i4+1) ((bk n emp i0 w2 i4).1+1,List.set ((bk n emp i0 w2 i4).2.1) (((ae (zK n w2) i4).to).toNat) true,List.take ((bk n emp i0 w2 i4).1) ((bk n emp i0 w2 i4).2.2)++ [(ae (zK n w2) i4).to]))]
abbrev zAV(i4:Nat)(n:Net)(w2:Nat×(lXB)×(lXA)):=(ae (aF n.aa<|zCu w2).ah i4)
abbrev zS(emp:lXB)(i4:Nat)(n:Net)(w2:Nat×(lXB)×(lXA)):List Gi:=(.k::uTT 4 [.bG ((zAV i4 n w2).n).toNat (aA<|aF emp (zAV i4 n w2).n),bT,bT,bT])
section
variable(emp:lXB)(i0 i4:Nat)(n:Net)(w2:Nat×(lXB)×(lXA))
abbrev zW:List Gi:=[.bG (((zAV i4 n w2).to).toNat) [],.at (((zAV i4 n w2).to).toNat) 0 (aA<|ae ((bk n emp i0 w2 i4).2.1)<|((zAV i4 n w2).to).toNat),bT]
abbrev zAL:List Gi:=[.bG (((zAV i4 n w2).to).toNat) [],.at (((zAV i4 n w2).to).toNat) 0 (aA<|ae (List.set ((bk n emp i0 w2 i4).2.1) (((aF n.rules (zAV i4 n w2).n).start).toNat) true)<|((zAV i4 n w2).to).toNat),bT]
end
abbrev zBz(i4:Nat)(n:Net)(w2:Nat×(lXB)×(lXA)):=(((aF n.rules (ae (aF n.aa<|zCu w2).ah i4).n).start).toNat)
abbrev zAh(emp:lXB)(i0 i4:Nat)(n:Net)(w2:Nat×(lXB)×(lXA)):List Gi:=[.bG (zBz i4 n w2) [],.at (zBz i4 n w2) 0 (aA<|ae ((bk n emp i0 w2 i4).2.1)<|zBz i4 n w2),bT]
section
variable(n:Net)(emp:lXB)
section
variable(i0:Nat)(w2:Nat×(lXB)×(lXA))
theorem WI(hn:cg n)(hf:ck n)(hm:length emp=length n.rules)(hx0:i0<(length n.aa))(hw2:SI (length n.aa) (length n.aa+1) w2):cx pg 107 0 4 (.loop acF) (Ki n emp i0 w2):=
 anB (kX n emp i0 w2) (λi4=>(.r [.bG ((ae w2.2.2<|w2.1-1)).toNat (aq<|aF n.aa<|ae w2.2.2<|w2.1-1),.k,bT]<|.yes<|.r [.bG ((ae w2.2.2<|w2.1-1)).toNat (aq<|aF n.aa<|ae w2.2.2<|w2.1-1),.row (aQ<|ae (aF n.aa<|ae w2.2.2<|w2.1-1).ah i4),bT]<|.r [.k,bT]<|.br (.r (zj i4)<|.pick 0)<|.r [bT]<|.r [.k,bT]<|.br (.r [.bG ((ae (aF n.aa<|ae w2.2.2<|w2.1-1).ah i4).n).toNat (aC<|aF n.rules (ae (aF n.aa<|ae w2.2.2<|w2.1-1).ah i4).n),bT]<|.r [bT]<|.more<|.r [.k,bT]<|.r [.k,bT]<|.br zBv<|.r (zAh emp i0 i4 n w2)<|.br (.r (zAh emp i0 i4 n w2)<|.r [bT]<|.r (zS emp i4 n w2)<|.br (.r (zj i4)<|.pick 2)<|.r [bT]<|.r [.int 1,bT]<|.r [.k,bT]<|.r [.k,bT]<|.br zBv<|.r (zAL emp i0 i4 n w2)<|.br (.r (zAL emp i0 i4 n w2)<|.r [bT]<|.r (zS emp i4 n w2)<|.no<|.r [bT]<|.r [.int 2,bT]<|.r [.k,bT]<|.r (zj i4)<|.pick 3)<|.r (zS emp i4 n w2)<|.no<|.r [bT]<|.r [.int 2,bT]<|.r [.k,bT]<|.r (zj i4)<|.pick 2)<|.r (zS emp i4 n w2)<|.br (.r (zj i4)<|.pick 0)<|.r [bT]<|.r [.int 1,bT]<|.r [.k,bT]<|.r [.k,bT]<|.br zBv<|.r (zW emp i0 i4 n w2)<|.br (.r (zW emp i0 i4 n w2)<|.r [bT]<|.r (zS emp i4 n w2)<|.no<|.r [bT]<|.r [.int 2,bT]<|.r [.k,bT]<|.r (zj i4)<|.pick 4)<|.r (zS emp i4 n w2)<|.no<|.r [bT]<|.r [.int 2,bT]<|.r [.k,bT]<|.r (zj i4)<|.pick 0)<|.r [bT]<|.more<|.r [.k,bT]<|.r [.k,bT]<|.br zBv<|.r (zW emp i0 i4 n w2)<|.br (.r (zW emp i0 i4 n w2)<|.r [bT]<|.r zJ<|.r (zj i4)<|.pick 4)<|.r zJ<|.r (zj i4)<|.pick 0)) (range 2) (.r [.bG ((ae w2.2.2<|w2.1-1)).toNat (aq<|aF n.aa<|ae w2.2.2<|w2.1-1),.k,bT]<|.no<|.pick 0)
 (λ(hp4:(zBZ w2)=true) i4(hx4:i4<(length (aF n.aa<|ae w2.2.2<|w2.1-1).ah))=>have hr:=hf.rules;have hs:=hf.aa;have gp0:=afS hp4;have hk2:=hw2.kt;have hl2:=hw2.len;have hb2:=hw2.bd;have hs2:0<w2.1->(0<=ae w2.2.2 (w2.1-1)/\ae w2.2.2 (w2.1-1)<(length n.aa:Int)):=λh=>hw2.rng _ (aw oaa);have he:=hf.ah;have hm4:(aF n.aa<|ae w2.2.2<|w2.1-1)∈Net.aa n:=GP (aw hx4);have hel:=hf.ah _ hm4;have hto:=hn.to _ hm4 _ (aw hx4);have hca:=hn.call _ hm4 _ (aw hx4);have hst:=λh=>hn.start _ (rK<|.inr<|hca h);have hsi:=(Kh hn emp i0 hw2 i4<|agx hx4).1;have b1:=hsi.len;have b2:=hsi.kt;have b3:=hsi.bd;have l1:=aL aQ ((aF n.aa<|ae w2.2.2<|w2.1-1).ah);have hb:(decide<|(i4:Int)<(length (map aQ (aF n.aa<|ae w2.2.2<|w2.1-1).ah):Int))=true:=afT oaa;
 bB (have l2:=aL aq (n.aa);an (a1<|ac (rwz aq n.aa<|ae w2.2.2<|w2.1-1) a0)<|an hb<|an (ac (rwa aQ (aF n.aa<|ae w2.2.2<|w2.1-1).ah i4)<|ac (rwz aq n.aa<|ae w2.2.2<|w2.1-1) a0)<|an (a1 a0)<|brP (λ(h1:((ae (aF n.aa<|ae w2.2.2<|w2.1-1).ah i4).op==1)=true)=>have g1:=eq_of_beq h1;
 (an (ac (dwo ((i4+1:Nat):Int)) a0)<|lf (wy (kX n emp i0 w2 i4) 0) 3<|nxP (iC n emp i0 w2<|i4+1) (iD n emp i0 w2<|i4+1) (show n8 n emp i0 w2 i4=false from(bg<|cI h1))<|show bk n emp i0 w2 (i4+1)=_ from(cdT h1 rfl)))<|λh1=>have q0:=(aD (au h1) rfl:n8 n emp i0 w2 i4=_);have g1:=afX h1;
 (an a0<|an (a1 a0)<|brP (λ(h2:((ae (aF n.aa<|ae w2.2.2<|w2.1-1).ah i4).op==2)=true)=>have q1:=q0.trans (cdT h2 rfl);have g2:=eq_of_beq h2;
 (have l3:=aL aC (n.rules);an (ac (rwz aC n.rules (ae (aF n.aa<|ae w2.2.2<|w2.1-1).ah i4).n) a0)<|an a0<|an (a1 a0)<|an (a1 a0)<|brP (λ(h3:((aF n.rules (ae (aF n.aa<|ae w2.2.2<|w2.1-1).ah i4).n).start==(i0:Int))=true)=>(an a0<|lf (wy (kX n emp i0 w2 i4) 1) 3<|q1.trans<|orT h3))<|λh3=>have q3:=q1.trans (orF h3 rfl);
 (an (ac (ato 1 0 (((aF n.rules (ae (aF n.aa<|ae w2.2.2<|w2.1-1).ah i4).n).start).toNat)<|rl aA<|(bk n emp i0 w2 i4).2.1)<|ac (ixz (aF n.rules (ae (aF n.aa<|ae w2.2.2<|w2.1-1).ah i4).n).start<|length<|map aq n.aa) a0)<|brP (λ(h4:(!(ae ((bk n emp i0 w2 i4).2.1)<|((aF n.rules (ae (aF n.aa<|ae w2.2.2<|w2.1-1).ah i4).n).start).toNat))=true)=>(an (ac (sto 1 0 1 (((aF n.rules (ae (aF n.aa<|ae w2.2.2<|w2.1-1).ah i4).n).start).toNat)<|rl aA<|(bk n emp i0 w2 i4).2.1)<|ac (ixz (aF n.rules (ae (aF n.aa<|ae w2.2.2<|w2.1-1).ah i4).n).start<|length<|map aq n.aa) a0)<|an (ac (apo ((bk n emp i0 w2 i4).1) 8<|rl ba<|(bk n emp i0 w2 i4).2.2) a0)<|have l4:=aL aA (emp);an (aN 2<|ac (rwz aA emp (ae (aF n.aa<|ae w2.2.2<|w2.1-1).ah i4).n)<|aN 3<|ac (au<|show((ae (aF n.aa<|ae w2.2.2<|w2.1-1).ah i4).op !=2)=false by rw[eq_of_beq h2];rfl)<|a1 a0)<|brP (λ(h5:(!(aF emp (ae (aF n.aa<|ae w2.2.2<|w2.1-1).ah i4).n))=true)=>(an (ac (dwo ((i4+1:Nat):Int)) a0)<|lfE (wy (kX n emp i0 w2 i4) 2) 4 (nxP (iC n emp i0 w2<|i4+1) (iD n emp i0 w2<|i4+1) (q3.trans<|bg<|cI h5)<|show bk n emp i0 w2 (i4+1)=_ from(cdF h1<|cdT h2<|cdT h4<|cdT h5 rfl))<|aW (af1 (λz=>Ob.row 4 1 z)<|l6 (f:=aA) (rl aA<|(bk n emp i0 w2 i4).2.1) (((aF n.rules (ae (aF n.aa<|ae w2.2.2<|w2.1-1).ah i4).n).start).toNat) true)<|aW (af1 (λz=>Ob.row 3 1 z)<|apT (f:=ba) (rl ba<|(bk n emp i0 w2 i4).2.2) ((bk n emp i0 w2 i4).1) (aF n.rules (ae (aF n.aa<|ae w2.2.2<|w2.1-1).ah i4).n).start) ee))<|λh5=>have q4:=q3.trans (aD (au h5) rfl);
 (an a0<|an (ac (bQ (1:Int)) a0)<|an (a1 a0)<|an (a1 a0)<|brP (λ(h6:((ae (aF n.aa<|ae w2.2.2<|w2.1-1).ah i4).to==(i0:Int))=true)=>(an a0<|lf (wy (kX n emp i0 w2 i4) 1) 4<|q4.trans h6))<|λh6=>(an (ac (ato 1 0 (((ae (aF n.aa<|ae w2.2.2<|w2.1-1).ah i4).to).toNat) (l6 (f:=aA) (rl aA<|(bk n emp i0 w2 i4).2.1) (((aF n.rules (ae (aF n.aa<|ae w2.2.2<|w2.1-1).ah i4).n).start).toNat) true) oaT)<|ac (ixz (ae (aF n.aa<|ae w2.2.2<|w2.1-1).ah i4).to<|length<|map aq n.aa) a0)<|brP (λ(h7:(!(ae (List.set ((bk n emp i0 w2 i4).2.1) (((aF n.rules (ae (aF n.aa<|ae w2.2.2<|w2.1-1).ah i4).n).start).toNat) true)<|((ae (aF n.aa<|ae w2.2.2<|w2.1-1).ah i4).to).toNat))=true)=>(an (ac (sto 1 0 1 (((ae (aF n.aa<|ae w2.2.2<|w2.1-1).ah i4).to).toNat) (l6 (f:=aA) (rl aA<|(bk n emp i0 w2 i4).2.1) (((aF n.rules (ae (aF n.aa<|ae w2.2.2<|w2.1-1).ah i4).n).start).toNat) true) oaT)<|ac (ixz (ae (aF n.aa<|ae w2.2.2<|w2.1-1).ah i4).to<|length<|map aq n.aa) a0)<|an (ac (apo ((bk n emp i0 w2 i4).1+1) 8<|apT (f:=ba) (rl ba<|(bk n emp i0 w2 i4).2.2) ((bk n emp i0 w2 i4).1) (aF n.rules (ae (aF n.aa<|ae w2.2.2<|w2.1-1).ah i4).n).start) a0)<|an (aN 2<|ac (rwz aA emp (ae (aF n.aa<|ae w2.2.2<|w2.1-1).ah i4).n)<|aN 3<|ac (au<|show((ae (aF n.aa<|ae w2.2.2<|w2.1-1).ah i4).op !=2)=false by rw[eq_of_beq h2];rfl)<|a1 a0)<|an h5<|an a0<|an (ac (bQ (2:Int)) a0)<|an (a1 a0)<|an (ac (dwo ((i4+1:Nat):Int)) a0)<|lfE (wy (kX n emp i0 w2 i4) 3) 5 (nxP (iC n emp i0 w2<|i4+1) (iD n emp i0 w2<|i4+1) (q4.trans h6)<|show bk n emp i0 w2 (i4+1)=_ from(cdF h1<|cdT h2<|cdT h4<|cdF h5<|cdT h7 rfl))<|aW (af1 (λz=>Ob.row 4 1 z)<|l6 (f:=aA) (l6 (f:=aA) (rl aA<|(bk n emp i0 w2 i4).2.1) (((aF n.rules (ae (aF n.aa<|ae w2.2.2<|w2.1-1).ah i4).n).start).toNat) true) (((ae (aF n.aa<|ae w2.2.2<|w2.1-1).ah i4).to).toNat) true)<|aW (af1 (λz=>Ob.row 3 1 z)<|apT (f:=ba) (apT (f:=ba) (rl ba<|(bk n emp i0 w2 i4).2.2) ((bk n emp i0 w2 i4).1) (aF n.rules (ae (aF n.aa<|ae w2.2.2<|w2.1-1).ah i4).n).start) ((bk n emp i0 w2 i4).1+1) (ae (aF n.aa<|ae w2.2.2<|w2.1-1).ah i4).to) ee))<|λh7=>(an (aN 2<|ac (rwz aA emp (ae (aF n.aa<|ae w2.2.2<|w2.1-1).ah i4).n)<|aN 3<|ac (au<|show((ae (aF n.aa<|ae w2.2.2<|w2.1-1).ah i4).op !=2)=false by rw[eq_of_beq h2];rfl)<|a1 a0)<|an h5<|an a0<|an (ac (bQ (2:Int)) a0)<|an (a1 a0)<|an (ac (dwo ((i4+1:Nat):Int)) a0)<|lfE (wy (kX n emp i0 w2 i4) 2) 4 (nxP (iC n emp i0 w2<|i4+1) (iD n emp i0 w2<|i4+1) (q4.trans h6)<|show bk n emp i0 w2 (i4+1)=_ from(cdF h1<|cdT h2<|cdT h4<|cdF h5<|cdF h7 rfl))<|aW (af1 (λz=>Ob.row 4 1 z)<|l6 (f:=aA) (rl aA<|(bk n emp i0 w2 i4).2.1) (((aF n.rules (ae (aF n.aa<|ae w2.2.2<|w2.1-1).ah i4).n).start).toNat) true)<|aW (af1 (λz=>Ob.row 3 1 z)<|apT (f:=ba) (rl ba<|(bk n emp i0 w2 i4).2.2) ((bk n emp i0 w2 i4).1) (aF n.rules (ae (aF n.aa<|ae w2.2.2<|w2.1-1).ah i4).n).start) ee)))))<|λh4=>(have l4:=aL aA (emp);an (aN 2<|ac (rwz aA emp (ae (aF n.aa<|ae w2.2.2<|w2.1-1).ah i4).n)<|aN 3<|ac (au<|show((ae (aF n.aa<|ae w2.2.2<|w2.1-1).ah i4).op !=2)=false by rw[eq_of_beq h2];rfl)<|a1 a0)<|brP (λ(h5:(!(aF emp (ae (aF n.aa<|ae w2.2.2<|w2.1-1).ah i4).n))=true)=>(an (ac (dwo ((i4+1:Nat):Int)) a0)<|lf (wy (kX n emp i0 w2 i4) 0) 3<|nxP (iC n emp i0 w2<|i4+1) (iD n emp i0 w2<|i4+1) (q3.trans<|bg<|cI h5)<|show bk n emp i0 w2 (i4+1)=_ from(cdF h1<|cdT h2<|cdF h4<|cdT h5 rfl)))<|λh5=>have q5:=q3.trans (aD (au h5) rfl);
 (an a0<|an (ac (bQ (1:Int)) a0)<|an (a1 a0)<|an (a1 a0)<|brP (λ(h6:((ae (aF n.aa<|ae w2.2.2<|w2.1-1).ah i4).to==(i0:Int))=true)=>(an a0<|lf (wy (kX n emp i0 w2 i4) 1) 3<|q5.trans h6))<|λh6=>(an (ac (ato 1 0 (((ae (aF n.aa<|ae w2.2.2<|w2.1-1).ah i4).to).toNat)<|rl aA<|(bk n emp i0 w2 i4).2.1)<|ac (ixz (ae (aF n.aa<|ae w2.2.2<|w2.1-1).ah i4).to<|length<|map aq n.aa) a0)<|brP (λ(h7:(!(ae ((bk n emp i0 w2 i4).2.1)<|((ae (aF n.aa<|ae w2.2.2<|w2.1-1).ah i4).to).toNat))=true)=>(an (ac (sto 1 0 1 (((ae (aF n.aa<|ae w2.2.2<|w2.1-1).ah i4).to).toNat)<|rl aA<|(bk n emp i0 w2 i4).2.1)<|ac (ixz (ae (aF n.aa<|ae w2.2.2<|w2.1-1).ah i4).to<|length<|map aq n.aa) a0)<|an (ac (apo ((bk n emp i0 w2 i4).1) 8<|rl ba<|(bk n emp i0 w2 i4).2.2) a0)<|an (aN 2<|ac (rwz aA emp (ae (aF n.aa<|ae w2.2.2<|w2.1-1).ah i4).n)<|aN 3<|ac (au<|show((ae (aF n.aa<|ae w2.2.2<|w2.1-1).ah i4).op !=2)=false by rw[eq_of_beq h2];rfl)<|a1 a0)<|an h5<|an a0<|an (ac (bQ (2:Int)) a0)<|an (a1 a0)<|an (ac (dwo ((i4+1:Nat):Int)) a0)<|lfE (wy (kX n emp i0 w2 i4) 4) 4 (nxP (iC n emp i0 w2<|i4+1) (iD n emp i0 w2<|i4+1) (q5.trans h6)<|show bk n emp i0 w2 (i4+1)=_ from(cdF h1<|cdT h2<|cdF h4<|cdF h5<|cdT h7 rfl))<|aW (af1 (λz=>Ob.row 4 1 z)<|l6 (f:=aA) (rl aA<|(bk n emp i0 w2 i4).2.1) (((ae (aF n.aa<|ae w2.2.2<|w2.1-1).ah i4).to).toNat) true)<|aW (af1 (λz=>Ob.row 3 1 z)<|apT (f:=ba) (rl ba<|(bk n emp i0 w2 i4).2.2) ((bk n emp i0 w2 i4).1) (ae (aF n.aa<|ae w2.2.2<|w2.1-1).ah i4).to) ee))<|λh7=>(an (aN 2<|ac (rwz aA emp (ae (aF n.aa<|ae w2.2.2<|w2.1-1).ah i4).n)<|aN 3<|ac (au<|show((ae (aF n.aa<|ae w2.2.2<|w2.1-1).ah i4).op !=2)=false by rw[eq_of_beq h2];rfl)<|a1 a0)<|an h5<|an a0<|an (ac (bQ (2:Int)) a0)<|an (a1 a0)<|an (ac (dwo ((i4+1:Nat):Int)) a0)<|lf (wy (kX n emp i0 w2 i4) 0) 3<|nxP (iC n emp i0 w2<|i4+1) (iD n emp i0 w2<|i4+1) (q5.trans h6)<|show bk n emp i0 w2 (i4+1)=_ from(cdF h1<|cdT h2<|cdF h4<|cdF h5<|cdF h7 rfl))))))))<|λh2=>have q2:=q0.trans (cdF h2 rfl);have g2:=afX h2;
 (an a0<|an (a1 a0)<|an (a1 a0)<|brP (λ(h3:((ae (aF n.aa<|ae w2.2.2<|w2.1-1).ah i4).to==(i0:Int))=true)=>(an a0<|lf (wy (kX n emp i0 w2 i4) 1) 3<|q2.trans h3))<|λh3=>(an (ac (ato 1 0 (((ae (aF n.aa<|ae w2.2.2<|w2.1-1).ah i4).to).toNat)<|rl aA<|(bk n emp i0 w2 i4).2.1)<|ac (ixz (ae (aF n.aa<|ae w2.2.2<|w2.1-1).ah i4).to<|length<|map aq n.aa) a0)<|brP (λ(h4:(!(ae ((bk n emp i0 w2 i4).2.1)<|((ae (aF n.aa<|ae w2.2.2<|w2.1-1).ah i4).to).toNat))=true)=>(an (ac (sto 1 0 1 (((ae (aF n.aa<|ae w2.2.2<|w2.1-1).ah i4).to).toNat)<|rl aA<|(bk n emp i0 w2 i4).2.1)<|ac (ixz (ae (aF n.aa<|ae w2.2.2<|w2.1-1).ah i4).to<|length<|map aq n.aa) a0)<|an (ac (apo ((bk n emp i0 w2 i4).1) 8<|rl ba<|(bk n emp i0 w2 i4).2.2) a0)<|an (aN 5<|ac (n2<|show((ae (aF n.aa<|ae w2.2.2<|w2.1-1).ah i4).op !=2)=true by rw[bne,h2];rfl)<|a1 a0)<|an (ac (dwo ((i4+1:Nat):Int)) a0)<|lfE (wy (kX n emp i0 w2 i4) 4) 4 (nxP (iC n emp i0 w2<|i4+1) (iD n emp i0 w2<|i4+1) (q2.trans h3)<|show bk n emp i0 w2 (i4+1)=_ from(cdF h1<|cdF h2<|cdT h4 rfl))<|aW (af1 (λz=>Ob.row 4 1 z)<|l6 (f:=aA) (rl aA<|(bk n emp i0 w2 i4).2.1) (((ae (aF n.aa<|ae w2.2.2<|w2.1-1).ah i4).to).toNat) true)<|aW (af1 (λz=>Ob.row 3 1 z)<|apT (f:=ba) (rl ba<|(bk n emp i0 w2 i4).2.2) ((bk n emp i0 w2 i4).1) (ae (aF n.aa<|ae w2.2.2<|w2.1-1).ah i4).to) ee))<|λh4=>(an (aN 5<|ac (n2<|show((ae (aF n.aa<|ae w2.2.2<|w2.1-1).ah i4).op !=2)=true by rw[bne,h2];rfl)<|a1 a0)<|an (ac (dwo ((i4+1:Nat):Int)) a0)<|lf (wy (kX n emp i0 w2 i4) 0) 3<|nxP (iC n emp i0 w2<|i4+1) (iD n emp i0 w2<|i4+1) (q2.trans h3)<|show bk n emp i0 w2 (i4+1)=_ from(cdF h1<|cdF h2<|cdF h4 rfl))))))
 oab)
 (λ(hp4:(zBZ w2)=true)=>have hr:=hf.rules;have hs:=hf.aa;have gp0:=afS hp4;have hk2:=hw2.kt;have hl2:=hw2.len;have hb2:=hw2.bd;have hs2:0<w2.1->(0<=ae w2.2.2 (w2.1-1)/\ae w2.2.2 (w2.1-1)<(length n.aa:Int)):=λh=>hw2.rng _ (aw oaa);have l1:=aL aQ ((aF n.aa<|ae w2.2.2<|w2.1-1).ah);have hb:(decide<|(((length (aF n.aa<|ae w2.2.2<|w2.1-1).ah):Nat):Int)<(length (map aQ (aF n.aa<|ae w2.2.2<|w2.1-1).ah):Int))=false:=afU oaa;
 bB (have l2:=aL aq (n.aa);an (a1<|ac (rwz aq n.aa<|ae w2.2.2<|w2.1-1) a0)<|an hb<|lx (.exit 4) (WG n emp i0 w2) (range 2) (WH n emp i0 w2) 2)
 oab)
def xZ:Nat×(lXB)×(lXA):=((bk n emp i0 w2<|length (aF n.aa<|ae w2.2.2<|w2.1-1).ah).1,(bk n emp i0 w2<|length (aF n.aa<|ae w2.2.2<|w2.1-1).ah).2.1,(bk n emp i0 w2<|length (aF n.aa<|ae w2.2.2<|w2.1-1).ah).2.2)
end
def ek(i0 kk:Nat):Nat×(lXB)×(lXA):=Nat.rec (motive:=λ_=>Nat×(lXB)×(lXA)) (1,replicate (length<|map aq n.aa) false,[(i0:Int)]) (λ_ a=>xZ n emp i0 a) kk
def kD(i0:Nat)(w2:Nat×(lXB)×(lXA)):Bool:=(bif decide (((w2.1:Nat):Int)>0)then(Ej n emp i0 w2)else true)
end
def x4(n:Net)(emp:lXB)(i0:Nat)(w2:Nat×(lXB)×(lXA)):Bool:=(decide<|((w2.1:Nat):Int)>0)
def Nn(n:Net)(emp:lXB)(i0:Nat):Nat×(lXB)×(lXA):=ek n emp i0 (eB (kD n emp i0)<|ek n emp i0)
def WJ{n:Net}(hn:cg n)(emp:lXB)(i0:Nat)(hi:i0<n.aa.length): ∀k,SI n.aa.length (n.aa.length+1) (ek n emp i0 k)
 |0=>⟨by show(replicate _ _).length=_;simp,afP _,λx hx=>by
   have hx:x∈ [(i0:Int)]:=hx;simp_all,by
   show 1+cf (replicate _ _)<=_;have:=WB (replicate (length<|map aq n.aa) false);grind⟩
 |k+1=>(Kh hn emp i0 (WJ hn emp i0 hi k) _<|afP _).1.up (Nat.le_succ _)
def WK{n:Net}(hn:cg n)(emp:lXB)(i0:Nat)(hi:i0<n.aa.length):(∃k,kD n emp i0 (ek n emp i0 k)=true)/\ ∀k,k<=eB (kD n emp i0) (ek n emp i0)->SI n.aa.length (n.aa.length+1) (ek n emp i0 k):=by
 refine⟨?_,λk _=>WJ hn emp i0 hi k⟩;by_cases h: ∃k,kD n emp i0 (ek n emp i0 k)=true
 ·exact h
 ·have h: ∀k,0<(ek n emp i0 k).1:=λk=>by
   have hk:kD n emp i0 (ek n emp i0 k)≠true:=λe=>h ⟨k,e⟩;by_cases h0:0<(ek n emp i0 k).1
   ·exact h0
   ·refine absurd ?_ hk;unfold kD;rw[show decide ((((ek n emp i0 k).1:Nat):Int)>0)=false from afU oaa];rfl
  have key: ∀k,2*cf (ek n emp i0 k).2.1+(ek n emp i0 k).1+k<=2*cf (ek n emp i0 0).2.1+(ek n emp i0 0).1:=λk=>by
   induction k with
   |zero=>exact afP _
   |succ k ih=>have h1:=(Kh hn emp i0 (WJ hn emp i0 hi k) _<|afP _).2;have h2:=h k;have h3:ek n emp i0 (k+1)=bk n emp i0 (ek n emp i0 k) (length (aF n.aa<|ae (ek n emp i0 k).2.2<|(ek n emp i0 k).1-1).ah):=rfl;rw[h3];omega
  have:=key (2*cf (ek n emp i0 0).2.1+(ek n emp i0 0).1+1);omega
abbrev No(n:Net)(emp:lXB)(i0:Nat)(w2:Nat×(lXB)×(lXA)):Am.Loc:=[(1,.sl 1 (map aA emp)),(2,.pf (bA n)),(5,I (i0:Int)),(6,.sr 0 1 0 (length<|zA n)),(7,.sr 1 1 0 w2.1)]
abbrev WL(n:Net)(emp:lXB)(i0:Nat)(w2:Nat×(lXB)×(lXA)):Am.Loc:=[(4,B true)]
abbrev WM(n:Net)(emp:lXB)(i0:Nat)(w2:Nat×(lXB)×(lXA)):Am.Loc:=[(1,.sl 1 (map aA emp)),(2,.pf (bA n)),(5,I (i0:Int))]
abbrev zBH(w2:Nat×(lXB)×(lXA)):lXE:=[.row 4 1 (map aA w2.2.1),.row 3 1 (map ba w2.2.2)]
abbrev Np(n:Net)(emp:lXB)(i0:Nat)(w2:Nat×(lXB)×(lXA)):lXE:=(zBH w2)
abbrev WN(n:Net)(emp:lXB)(i0:Nat)(w2:Nat×(lXB)×(lXA)):lXE:=[]
abbrev WO(n:Net)(emp:lXB)(i0:Nat)(w2:Nat×(lXB)×(lXA)):lXE:=(zBH w2)
section
variable(n:Net)(emp:lXB)(i0:Nat)
def Ek:KB:=whK 2 (kD n emp i0) (x4 n emp i0) (ek n emp i0) (No n emp i0) (Np n emp i0) .ret (WL n emp i0) (WN n emp i0) (.exit 2) (WM n emp i0) (WO n emp i0) (λw2=>SI (length n.aa) (length n.aa+1) w2)
abbrev Nq(w2:Nat×(lXB)×(lXA)):List bf:=[whW (kD n emp i0 w2) (x4 n emp i0 w2) .ret (WL n emp i0 w2) zb (WN n emp i0 w2),nxW (kD n emp i0 w2) (No n emp i0<|xZ n emp i0 w2) (Np n emp i0<|xZ n emp i0 w2) (No n emp i0 ((zBT emp i0 n w2).1,(zBT emp i0 n w2).2.1,(zBT emp i0 n w2).2.2)) zBc (Np n emp i0 ((zBT emp i0 n w2).1,(zBT emp i0 n w2).2.1,(zBT emp i0 n w2).2.2)),wxW (kD n emp i0 w2) (x4 n emp i0 w2) (.exit 2) (WM n emp i0 w2) zBc (WO n emp i0 w2)]
end
def El:di [4] Nm=[(4,.loop acF)]:=by kernel_rfl
abbrev zDE:GT:=(.br (.pick 0)<|.pick 1)
section
variable(n:Net)(emp:lXB)(i0:Nat)
def WQ(hn:cg n)(hf:ck n)(hm:length emp=length n.rules)(hx0:i0<(length n.aa)):cx pg 107 0 2 (.loop Nm) (Ek n emp i0):=
 have hr:=hf.rules;have hs:=hf.aa;whB (Nq n emp i0) (λw2=>(.r [.k,bT]<|.br (.r [.int ((w2.1-1:Nat):Int),.at (w2.1-1) 0 (ba<|ae w2.2.2<|w2.1-1),bT]<|.r [.int ((w2.1-1:Nat):Int),bT]<|.r [bT] zDE)<|.pick 2)) (xZ n emp i0) 2 (λw2(hw2:SI (length n.aa) (length n.aa+1) w2)=>have hr:=hf.rules;have hs:=hf.aa;have hk2:=hw2.kt;have hl2:=hw2.len;have hb2:=hw2.bd;have hs2:0<w2.1->(0<=ae w2.2.2 (w2.1-1)/\ae w2.2.2 (w2.1-1)<(length n.aa:Int)):=λh=>hw2.rng _ (aw oaa);bB (an (a1 a0)<|brP (λ(h0:(decide<|((w2.1:Nat):Int)>0)=true)=>have g0:=afS h0;
 (an (ac (ato 1 0 (w2.1-1)<|rl ba w2.2.2)<|ac (ixo (w2.1-1) w2.1)<|ac (dso w2.1) a0)<|an (ac (slo 0 (w2.1-1) w2.1)<|ac (dso w2.1) a0)<|an a0<|an (kbT (Ki n emp i0 w2) h0)<|brP (λ(h1:(Ej n emp i0 w2)=true)=>(lf (wy (Nq n emp i0 w2) 0) 0 ⟨show kD n emp i0 w2=true from(cdT h0 h1),show x4 n emp i0 w2=true from h0⟩))<|λh1=>(lf (wy (Nq n emp i0 w2) 1) 2<|nxP (No n emp i0) (Np n emp i0) (show kD n emp i0 w2=false from(cdT h0 h1))<|show(xZ n emp i0 w2)=((bk n emp i0 w2<|length (aF n.aa<|ae w2.2.2<|w2.1-1).ah).1,(bk n emp i0 w2<|length (aF n.aa<|ae w2.2.2<|w2.1-1).ah).2.1,(bk n emp i0 w2<|length (aF n.aa<|ae w2.2.2<|w2.1-1).ah).2.2)from rfl)))<|λh0=>(lf (wy (Nq n emp i0 w2) 2) 2 ⟨show kD n emp i0 w2=true from(cdF h0 rfl),show x4 n emp i0 w2=false from h0⟩))
 oab) (hk:=λw2 hw2=>(bw (l:=[(4,Ki n emp i0 w2)]) El (aK (WI n emp i0 w2 hn hf hm hx0 hw2) rfl aU) rfl))
abbrev WR:Am.Loc:=[(1,.sl 1 (map aA emp)),(2,.pf (bA n)),(5,I (i0:Int))]
end
abbrev WS(n:Net)(emp:lXB)(i0:Nat):lXE:=[]
def rL(n:Net)(emp:lXB)(i0:Nat):Bool:=(x4 n emp i0<|Nn n emp i0)
def Ns(n:Net)(emp:lXB):Bool:=dA (length n.aa) (rL n emp)
abbrev WT(n:Net)(emp:lXB)(i0:Nat):Am.Loc:=[(4,B true)]
abbrev WU(n:Net)(emp:lXB)(i0:Nat):lXE:=[]
abbrev WV(n:Net)(emp:lXB):Am.Loc:=[]
abbrev WW(n:Net)(emp:lXB):lXE:=[]
def Kj(n:Net)(emp:lXB):KB:=anK 0 (length n.aa) (rL n emp) (WR n emp) (WS n emp) .ret (WT n emp) (WU n emp) (.exit 0) (WV n emp) (WW n emp) (True)
abbrev WX(n:Net)(emp:lXB)(i0:Nat):List bf:=[htW (rL n emp i0) .ret (WT n emp i0) zb (WU n emp i0),nxW (rL n emp i0) (WR n emp<|i0+1) (WS n emp<|i0+1) (WR n emp<|i0+1) zb (WS n emp<|i0+1)]
def Em:di [2] Nl=[(2,.loop Nm)]:=by kernel_rfl
def WY(n:Net)(emp:lXB)(hn:cg n)(hf:ck n)(hm:length emp=length n.rules):cx pg 107 0 0 (.loop Nl) (Kj n emp):=
 anB (WX n emp) (λi0=>(.r [.k,bT]<|.yes<|.r [bT]<|zAf i0)) (range 0) zE
 (λ_ i0(hx0:i0<(length n.aa))=>have hr:=hf.rules;have hs:=hf.aa;have l1:=aL aq (n.aa);have hb:(zw i0 n)=true:=afT oaa;
 bB (an (a1 a0)<|an hb<|an (ac (mko (length<|map aq n.aa) 1) a0)<|an a0<|an (F5 (Ek n emp i0) (S:=nm<|KB.L0<|Ek n emp i0) rfl (aW (af1 (λz=>Ob.row 4 1 z)<|Rc (f:=aA) (length<|map aq n.aa) false)<|aW (rfl:(.row 3 1 [(dk i0)]:Ob)= .row 3 1 [(dk i0)]) ee)<|WK hn emp i0 hx0)<|brP (λ(h1:(x4 n emp i0<|Nn n emp i0)=true)=>(lf (wy (WX n emp i0) 0) 0<|show rL n emp i0=true from h1))<|λh1=>(an (ac (dwo ((i0+1:Nat):Int)) a0)<|lf (wy (WX n emp i0) 1) 2 ⟨(show rL n emp i0=false from h1),rfl,rfl⟩))
 oab)
 (λ_=>have hr:=hf.rules;have hs:=hf.aa;have l1:=aL aq (n.aa);have hb:(zQ n)=false:=afU oaa;
 bB (an (a1 a0)<|an hb<|lx (.exit 0) (WV n emp) (range 0) (WW n emp) 0)
 oab) (hk:=λ_ i0 hx0=>(bw (l:=[(2,Ek n emp i0)]) Em (aK (WQ n emp i0 hn hf hm hx0) rfl aU) rfl))
def r35(n:Net)(emp:lXB):Bool:=(Ns n emp)
def uS:di [0] (aG 59)=[(0,.loop Nl)]:=by kernel_rfl
def adQ(n:Net)(emp:lXB)(hn:cg n)(hf:ck n)(hm:length emp=length n.rules):aY pg 59 [.ag (bA n),.sl 1 (map aA emp)] [] [] (B<|r35 n emp) []:=
 aV 59 zf
 (an a0<|an a0<|an (kbT (Kj n emp) trivial)<|brP (λ(h0:(Ns n emp)=true)=>(bE<|show r35 n emp=true from h0))<|λh0=>(an a0<|bE<|show r35 n emp=false from h0)) (hk:=(bw (l:=[(0,Kj n emp)]) uS (aK (WY n emp hn hf hm) rfl aU) rfl))
noncomputable def tgC(e:Edge):lXA:=bif e.op !=2 then []else [e.n]
def abc{n:Net}(hn:cg n){s:State}(hs:s∈n.aa){e:Edge}(h:e∈s.ah): ∀x∈tgC e,0<=x/\x<(n.rules.length:Int):=by have hc:=hn.call _ hs _ h;unfold tgC;grind
def Nt:Code:=bD 0 (aG 60)
def Nu:Code:=bD 2 Nt
def Nv:Code:=bD 4 Nu
def acG:Code:=bD 6 Nv
def En(n:Net)(i0:Nat)(w2:Nat×(lXB)×(lXA))(i4:Nat)(y4:Nat×(lXB)×(lXA))(i6:Nat)(y6:Nat×(lXB)×(lXA)):Nat×(lXB)×(lXA):=(bif (ae (ae n.aa i4).ah i6).op !=2 then(y6.1,y6.2.1,y6.2.2)else(bif !(ae y6.2.1<|((ae (ae n.aa i4).ah i6).n).toNat)then(y6.1+1,List.set y6.2.1 (((ae (ae n.aa i4).ah i6).n).toNat) true,List.take y6.1 y6.2.2++ [(ae (ae n.aa i4).ah i6).n])else(y6.1,y6.2.1,y6.2.2)))
def cK(n:Net)(i0:Nat)(w2:Nat×(lXB)×(lXA))(i4:Nat)(y4:Nat×(lXB)×(lXA))(kk:Nat):Nat×(lXB)×(lXA):=Nat.rec (motive:=λ_=>Nat×(lXB)×(lXA)) (y4.1,y4.2.1,y4.2.2) (λj a=>En n i0 w2 i4 y4 j a) kk
theorem Ci(n:Net)(i0:Nat)(w2:gf)(i4:Nat)(y4:gf)(i6:Nat)(y:gf):En n i0 w2 i4 y4 i6 y=(tgC<|ae (ae n.aa i4).ah i6).foldl gS y:=by unfold En tgC;obtain⟨k,inb,todo⟩:=y;cases Edge.op (ae (ae n.aa i4).ah i6) !=2<;>rfl
theorem WZ{n:Net}(hn:cg n)(i0:Nat)(w2:gf)(i4:Nat)(hi4:i4<n.aa.length){y4:gf}(hy:SI n.rules.length n.rules.length y4)(i:Nat)(hi:i<=(ae n.aa i4).ah.length):SI n.rules.length n.rules.length (cK n i0 w2 i4 y4 i)/\2*cf (cK n i0 w2 i4 y4 i).2.1+(cK n i0 w2 i4 y4 i).1<=2*cf y4.2.1+y4.1:=by
 induction i with
 |zero=>exact⟨hy,afP _⟩
 |succ i ih=>obtain⟨h1,h2⟩:=ih oaa;have hst:cK n i0 w2 i4 y4 (i+1)=En n i0 w2 i4 y4 i (cK n i0 w2 i4 y4 i):=rfl;rw[hst,Ci];obtain⟨h3,h4⟩:=SI.fold (tgC<|ae (ae n.aa i4).ah i) h1 (abc hn (aw hi4)<|aw oaa);exact⟨h3,by omega⟩
abbrev tl(n:Net)(i0:Nat)(w2:Nat×(lXB)×(lXA))(i4:Nat)(y4:Nat×(lXB)×(lXA))(i6:Nat)(y6:Nat×(lXB)×(lXA)):Am.Loc:=[(1,.pf (bA n)),(3,I (i0:Int)),(4,.sr 0 1 0 (length<|zH n)),(5,.sr 1 1 0 y6.1),(6,I (zCu w2)),(7,I (i4:Int)),(8,I (i6:Int))]
abbrev tn(n:Net)(i0:Nat)(w2:Nat×(lXB)×(lXA))(i4:Nat)(y4:Nat×(lXB)×(lXA))(i6:Nat)(y6:Nat×(lXB)×(lXA)):lXE:=[.row 4 1 (map aA y6.2.1),.row 3 1 (map ba y6.2.2)]
section
variable(n:Net)(i0:Nat)(w2:Nat×(lXB)×(lXA))(i4:Nat)(y4:Nat×(lXB)×(lXA))(i6:Nat)
abbrev W0:Am.Loc:=tl n i0 w2 i4 y4 i6 (cK n i0 w2 i4 y4 i6)
abbrev W1:lXE:=tn n i0 w2 i4 y4 i6 (cK n i0 w2 i4 y4 i6)
end
def rM(n:Net)(i0:Nat)(w2:Nat×(lXB)×(lXA))(i4:Nat)(y4:Nat×(lXB)×(lXA))(i6:Nat):Bool:=(!((ae (ae n.aa i4).ah i6).op !=2)&&((ae (ae n.aa i4).ah i6).n==(i0:Int)))
def Eo(n:Net)(i0:Nat)(w2:Nat×(lXB)×(lXA))(i4:Nat)(y4:Nat×(lXB)×(lXA)):Bool:=dA (length (ae n.aa i4).ah) (rM n i0 w2 i4 y4)
abbrev W2(n:Net)(i0:Nat)(w2:Nat×(lXB)×(lXA))(i4:Nat)(y4:Nat×(lXB)×(lXA))(i6:Nat):Am.Loc:=[(2,B true)]
abbrev W3(n:Net)(i0:Nat)(w2:Nat×(lXB)×(lXA))(i4:Nat)(y4:Nat×(lXB)×(lXA))(i6:Nat):lXE:=[]
abbrev zCG(i4:Nat)(n:Net):=(ae n.aa i4).ah
section
variable(n:Net)(i0:Nat)(w2:Nat×(lXB)×(lXA))(i4:Nat)(y4:Nat×(lXB)×(lXA))
abbrev W4:Am.Loc:=[(1,.pf (bA n)),(3,I (i0:Int)),(4,.sr 0 1 0 (length<|zH n)),(5,.sr 1 1 0 ((cK n i0 w2 i4 y4<|length<|zCG i4 n).1)),(6,I (zCu w2)),(7,I (i4:Int))]
abbrev W5:lXE:=[.row 4 1 (map aA<|(cK n i0 w2 i4 y4<|length<|zCG i4 n).2.1),.row 3 1 (map ba<|(cK n i0 w2 i4 y4<|length<|zCG i4 n).2.2)]
def Kk:KB:=anK 6 (length<|zCG i4 n) (rM n i0 w2 i4 y4) (W0 n i0 w2 i4 y4) (W1 n i0 w2 i4 y4) .ret (W2 n i0 w2 i4 y4) (W3 n i0 w2 i4 y4) (.exit 6) (W4 n i0 w2 i4 y4) (W5 n i0 w2 i4 y4) (True)
abbrev GU(i6:Nat):List bf:=[nxW (rM n i0 w2 i4 y4 i6) (W0 n i0 w2 i4 y4<|i6+1) (W1 n i0 w2 i4 y4<|i6+1) (tl n i0 w2 i4 y4 (i6+1) ((cK n i0 w2 i4 y4 i6).1,(cK n i0 w2 i4 y4 i6).2.1,(cK n i0 w2 i4 y4 i6).2.2)) zBc (tn n i0 w2 i4 y4 (i6+1) ((cK n i0 w2 i4 y4 i6).1,(cK n i0 w2 i4 y4 i6).2.1,(cK n i0 w2 i4 y4 i6).2.2)),htW (rM n i0 w2 i4 y4 i6) .ret (W2 n i0 w2 i4 y4 i6) zb (W3 n i0 w2 i4 y4 i6),nxW (rM n i0 w2 i4 y4 i6) (W0 n i0 w2 i4 y4<|i6+1) (W1 n i0 w2 i4 y4<|i6+1) (tl n i0 w2 i4 y4 (i6+1) ((cK n i0 w2 i4 y4 i6).1+1,List.set ((cK n i0 w2 i4 y4 i6).2.1) (((ae (zCG i4 n) i6).n).toNat) true,List.take ((cK n i0 w2 i4 y4 i6).1) ((cK n i0 w2 i4 y4 i6).2.2)++ [(ae (zCG i4 n) i6).n])) [0,3] (tn n i0 w2 i4 y4 (i6+1) ((cK n i0 w2 i4 y4 i6).1+1,List.set ((cK n i0 w2 i4 y4 i6).2.1) (((ae (zCG i4 n) i6).n).toNat) true,List.take ((cK n i0 w2 i4 y4 i6).1) ((cK n i0 w2 i4 y4 i6).2.2)++ [(ae (zCG i4 n) i6).n]))]
end
abbrev zAy(i6:Nat):List Gi:=[.int ↑(i6+1),bT]
abbrev zCr(i0 i4 i6:Nat)(n:Net)(w2 y4:Nat×(lXB)×(lXA)):List Gi:=[.bG (((ae (ae n.aa i4).ah i6).n).toNat) [],.at (((ae (ae n.aa i4).ah i6).n).toNat) 0 (aA<|ae ((cK n i0 w2 i4 y4 i6).2.1)<|((ae (ae n.aa i4).ah i6).n).toNat),bT]
section
variable(n:Net)(i0:Nat)(w2:Nat×(lXB)×(lXA))
section
variable(i4:Nat)(y4:Nat×(lXB)×(lXA))
def W6(hn:cg n)(hf:ck n)(hx0:i0<(length n.rules))(hw2:SI (length n.rules) (length n.rules+1) w2)(hp4:(zBZ w2)=true)(hx4:i4<(length n.aa))(hy4:SI (length n.rules) (length n.rules) y4):cx pg 101 0 6 (.loop acG) (Kk n i0 w2 i4 y4):=
 anB (GU n i0 w2 i4 y4) (λi6=>(.r [.row (aq<|ae n.aa i4),.k,bT]<|.yes<|.r [.row (aq<|ae n.aa i4),.row (aQ<|ae (ae n.aa i4).ah i6),bT]<|.r [.k,bT]<|.br (.r (zAy i6)<|.pick 0)<|.r [.k,bT]<|.br zBv<|.r (zCr i0 i4 i6 n w2 y4)<|.br (.r (zCr i0 i4 i6 n w2 y4)<|.r [bT]<|.r (zAy i6)<|.pick 2)<|.r (zAy i6)<|.pick 0)) (range 2) (.r [.row (aq<|ae n.aa i4),.k,bT]<|.no<|.pick 0)
 (λ_ i6(hx6:i6<(length (ae n.aa i4).ah))=>have hr:=hf.rules;have hs:=hf.aa;have hm4:=aw hx4;have hel:=hf.ah _ hm4;have hca:=hn.call _ hm4 _ (aw hx6);have hsi:=(WZ hn i0 w2 i4 hx4 hy4 i6<|agx hx6).1;have b1:=hsi.len;have b2:=hsi.kt;have b3:=hsi.bd;have l1:=aL aQ ((ae n.aa i4).ah);have hb:(decide<|(i6:Int)<(length (map aQ (ae n.aa i4).ah):Int))=true:=afT oaa;
 bB (an (a1<|ac (rwa aq n.aa i4) a0)<|an hb<|an (ac (rwa aQ (ae n.aa i4).ah i6)<|ac (rwa aq n.aa i4) a0)<|an (a1 a0)<|brP (λ(h1:((ae (ae n.aa i4).ah i6).op !=2)=true)=>have g1:=F4 h1;
 (an (ac (dwo ((i6+1:Nat):Int)) a0)<|lf (wy (GU n i0 w2 i4 y4 i6) 0) 3<|nxP (tl n i0 w2 i4 y4<|i6+1) (tn n i0 w2 i4 y4<|i6+1) (show rM n i0 w2 i4 y4 i6=false from(bg<|cI h1))<|show cK n i0 w2 i4 y4 (i6+1)=_ from(cdT h1 rfl)))<|λh1=>have q0:=(aD (au h1) rfl:rM n i0 w2 i4 y4 i6=_);have g1:=fY h1;
 (an (a1 a0)<|brP (λ(h2:((ae (ae n.aa i4).ah i6).n==(i0:Int))=true)=>(an a0<|lf (wy (GU n i0 w2 i4 y4 i6) 1) 3<|q0.trans h2))<|λh2=>(have l2:=aL aC (n.rules);an (ac (ato 1 0 (((ae (ae n.aa i4).ah i6).n).toNat)<|rl aA<|(cK n i0 w2 i4 y4 i6).2.1)<|ac (ixz (ae (ae n.aa i4).ah i6).n<|length<|map aC n.rules) a0)<|brP (λ(h3:(!(ae ((cK n i0 w2 i4 y4 i6).2.1)<|((ae (ae n.aa i4).ah i6).n).toNat))=true)=>(an (ac (sto 1 0 1 (((ae (ae n.aa i4).ah i6).n).toNat)<|rl aA<|(cK n i0 w2 i4 y4 i6).2.1)<|ac (ixz (ae (ae n.aa i4).ah i6).n<|length<|map aC n.rules) a0)<|an (ac (apo ((cK n i0 w2 i4 y4 i6).1) 8<|rl ba<|(cK n i0 w2 i4 y4 i6).2.2) a0)<|an (ac (dwo ((i6+1:Nat):Int)) a0)<|lfE (wy (GU n i0 w2 i4 y4 i6) 2) 4 (nxP (tl n i0 w2 i4 y4<|i6+1) (tn n i0 w2 i4 y4<|i6+1) (q0.trans h2)<|show cK n i0 w2 i4 y4 (i6+1)=_ from(cdF h1<|cdT h3 rfl))<|aW (af1 (λz=>Ob.row 4 1 z)<|l6 (f:=aA) (rl aA<|(cK n i0 w2 i4 y4 i6).2.1) (((ae (ae n.aa i4).ah i6).n).toNat) true)<|aW (af1 (λz=>Ob.row 3 1 z)<|apT (f:=ba) (rl ba<|(cK n i0 w2 i4 y4 i6).2.2) ((cK n i0 w2 i4 y4 i6).1) (ae (ae n.aa i4).ah i6).n) ee))<|λh3=>
 (an (ac (dwo ((i6+1:Nat):Int)) a0)<|lf (wy (GU n i0 w2 i4 y4 i6) 0) 3<|nxP (tl n i0 w2 i4 y4<|i6+1) (tn n i0 w2 i4 y4<|i6+1) (q0.trans h2)<|show cK n i0 w2 i4 y4 (i6+1)=_ from(cdF h1<|cdF h3 rfl)))))
 oab)
 (λ_=>have hr:=hf.rules;have hs:=hf.aa;have hm4:=aw hx4;have hel:=hf.ah _ hm4;have l1:=aL aQ ((ae n.aa i4).ah);have hb:(decide<|(((length (ae n.aa i4).ah):Nat):Int)<(length (map aQ (ae n.aa i4).ah):Int))=false:=afU oaa;
 bB (an (a1<|ac (rwa aq n.aa i4) a0)<|an hb<|lx (.exit 6) (W4 n i0 w2 i4 y4) (range 2) (W5 n i0 w2 i4 y4) 2)
 oab)
def Ep:Nat×(lXB)×(lXA):=(bif (ae n.aa i4).aH !=(ae w2.2.2<|w2.1-1)then(y4.1,y4.2.1,y4.2.2)else((cK n i0 w2 i4 y4<|length (ae n.aa i4).ah).1,(cK n i0 w2 i4 y4<|length (ae n.aa i4).ah).2.1,(cK n i0 w2 i4 y4<|length (ae n.aa i4).ah).2.2))
end
def db(kk:Nat):Nat×(lXB)×(lXA):=Nat.rec (motive:=λ_=>Nat×(lXB)×(lXA)) (w2.1-1,w2.2.1,w2.2.2) (λj a=>Ep n i0 w2 j a) kk
end
def Kl{n:Net}(hn:cg n)(i0:Nat){w2:gf}(hw:SI n.rules.length (n.rules.length+1) w2)(i:Nat)(hi:i<=n.aa.length):SI n.rules.length n.rules.length (db n i0 w2 i)/\2*cf (db n i0 w2 i).2.1+(db n i0 w2 i).1<=2*cf w2.2.1+(w2.1-1):=by
 induction i with
 |zero=>exact⟨hw.pop,afP _⟩
 |succ i ih=>grind[db,Ep,WZ]
abbrev x5(n:Net)(i0:Nat)(w2:Nat×(lXB)×(lXA))(i4:Nat)(y4:Nat×(lXB)×(lXA)):Am.Loc:=[(1,.pf (bA n)),(3,I (i0:Int)),(4,.sr 0 1 0 (length<|zH n)),(5,.sr 1 1 0 y4.1),(6,I (zCu w2)),(7,I (i4:Int))]
abbrev x6(n:Net)(i0:Nat)(w2:Nat×(lXB)×(lXA))(i4:Nat)(y4:Nat×(lXB)×(lXA)):lXE:=[.row 4 1 (map aA y4.2.1),.row 3 1 (map ba y4.2.2)]
section
variable(n:Net)(i0:Nat)(w2:Nat×(lXB)×(lXA))
abbrev W7(i4:Nat):Am.Loc:=x5 n i0 w2 i4 (db n i0 w2 i4)
abbrev W8(i4:Nat):lXE:=x6 n i0 w2 i4 (db n i0 w2 i4)
def pJ(i4:Nat):Bool:=(!((ae n.aa i4).aH !=(ae w2.2.2<|w2.1-1))&&(Eo n i0 w2 i4<|db n i0 w2 i4))
def Er:Bool:=dA (length n.aa) (pJ n i0 w2)
end
abbrev W9(n:Net)(i0:Nat)(w2:Nat×(lXB)×(lXA))(i4:Nat):Am.Loc:=[(2,B true)]
abbrev Xa(n:Net)(i0:Nat)(w2:Nat×(lXB)×(lXA))(i4:Nat):lXE:=[]
abbrev zBI(i0:Nat)(n:Net)(w2:Nat×(lXB)×(lXA)):=(db n i0 w2<|length n.aa)
section
variable(n:Net)(i0:Nat)(w2:Nat×(lXB)×(lXA))
abbrev Xb:Am.Loc:=[(1,.pf (bA n)),(3,I (i0:Int)),(4,.sr 0 1 0 (length<|zH n)),(5,.sr 1 1 0 ((zBI i0 n w2).1))]
abbrev Xc:lXE:=[.row 4 1 (map aA<|(zBI i0 n w2).2.1),.row 3 1 (map ba<|(zBI i0 n w2).2.2)]
def Km:KB:=anK 4 (length n.aa) (pJ n i0 w2) (W7 n i0 w2) (W8 n i0 w2) .ret (W9 n i0 w2) (Xa n i0 w2) (.exit 4) (Xb n i0 w2) (Xc n i0 w2) ((zBZ w2)=true)
end
abbrev zAW(i0 i4:Nat)(n:Net)(w2:Nat×(lXB)×(lXA)):=(cK n i0 w2 i4 (db n i0 w2 i4)<|length<|zCG i4 n)
abbrev Nw(n:Net)(i0:Nat)(w2:Nat×(lXB)×(lXA))(i4:Nat):List bf:=[nxW (pJ n i0 w2 i4) (W7 n i0 w2<|i4+1) (W8 n i0 w2<|i4+1) (x5 n i0 w2 (i4+1) ((db n i0 w2 i4).1,(db n i0 w2 i4).2.1,(db n i0 w2 i4).2.2)) zBc (x6 n i0 w2 (i4+1) ((db n i0 w2 i4).1,(db n i0 w2 i4).2.1,(db n i0 w2 i4).2.2)),htW (pJ n i0 w2 i4) .ret (W9 n i0 w2 i4) zb (Xa n i0 w2 i4),nxW (pJ n i0 w2 i4) (W7 n i0 w2<|i4+1) (W8 n i0 w2<|i4+1) (x5 n i0 w2 (i4+1) ((zAW i0 i4 n w2).1,(zAW i0 i4 n w2).2.1,(zAW i0 i4 n w2).2.2)) zBc (x6 n i0 w2 (i4+1) ((zAW i0 i4 n w2).1,(zAW i0 i4 n w2).2.1,(zAW i0 i4 n w2).2.2))]
def Et:di [6] Nv=[(6,.loop acG)]:=by kernel_rfl
section
variable(n:Net)(i0:Nat)(w2:Nat×(lXB)×(lXA))
def Xd(hn:cg n)(hf:ck n)(hx0:i0<(length n.rules))(hw2:SI (length n.rules) (length n.rules+1) w2):cx pg 101 0 4 (.loop Nv) (Km n i0 w2):=
 anB (Nw n i0 w2) (λi4=>(.r [.k,bT]<|.yes<|.r [.row (aq<|ae n.aa i4),.k,bT]<|.br (.r (zj i4)<|.pick 0)<|.r [bT]<|.br (.pick 1)<|.r (zj i4)<|.pick 2)) (range 2) zE
 (λ(hp4:(zBZ w2)=true) i4(hx4:i4<(length n.aa))=>have hr:=hf.rules;have hs:=hf.aa;have gp0:=afS hp4;have hk2:=hw2.kt;have hl2:=hw2.len;have hb2:=hw2.bd;have hs2:0<w2.1->(0<=ae w2.2.2 (w2.1-1)/\ae w2.2.2 (w2.1-1)<(length n.rules:Int)):=λh=>hw2.rng _ (aw oaa);have l1:=aL aq (n.aa);have hb:(decide<|(i4:Int)<(length (map aq n.aa):Int))=true:=afT oaa;
 bB (an (a1 a0)<|an hb<|an (a1<|ac (rwa aq n.aa i4) a0)<|brP (λ(h1:((ae n.aa i4).aH !=(ae w2.2.2<|w2.1-1))=true)=>(an (ac (dwo ((i4+1:Nat):Int)) a0)<|lf (wy (Nw n i0 w2 i4) 0) 2<|nxP (x5 n i0 w2<|i4+1) (x6 n i0 w2<|i4+1) (show pJ n i0 w2 i4=false from(bg<|cI h1))<|show db n i0 w2 (i4+1)=_ from(cdT h1 rfl)))<|λh1=>(an a0<|an (kbT (Kk n i0 w2 i4<|db n i0 w2 i4) trivial)<|brP (λ(h2:(Eo n i0 w2 i4<|db n i0 w2 i4)=true)=>(lf (wy (Nw n i0 w2 i4) 1) 0<|show pJ n i0 w2 i4=true from(aD (au h1) h2)))<|λh2=>(an (ac (dwo ((i4+1:Nat):Int)) a0)<|lf (wy (Nw n i0 w2 i4) 2) 2<|nxP (x5 n i0 w2<|i4+1) (x6 n i0 w2<|i4+1) (show pJ n i0 w2 i4=false from(aD (au h1) h2))<|show db n i0 w2 (i4+1)=_ from(cdF h1 rfl))))
 oab)
 (λ(hp4:(zBZ w2)=true)=>have hr:=hf.rules;have hs:=hf.aa;have gp0:=afS hp4;have hk2:=hw2.kt;have hl2:=hw2.len;have hb2:=hw2.bd;have hs2:0<w2.1->(0<=ae w2.2.2 (w2.1-1)/\ae w2.2.2 (w2.1-1)<(length n.rules:Int)):=λh=>hw2.rng _ (aw oaa);have l1:=aL aq (n.aa);have hb:(zQ n)=false:=afU oaa;
 bB (an (a1 a0)<|an hb<|lx (.exit 4) (Xb n i0 w2) (range 2) (Xc n i0 w2) 2)
 oab) (hk:=λhp4 i4 hx4=>(bw (l:=[(6,Kk n i0 w2 i4 (db n i0 w2 i4))]) Et (aK (W6 n i0 w2 i4 (db n i0 w2 i4) hn hf hx0 hw2 hp4 hx4 (Kl hn i0 hw2 i4<|agx hx4).1) rfl aU) rfl))
def x7:Nat×(lXB)×(lXA):=((db n i0 w2<|length n.aa).1,(db n i0 w2<|length n.aa).2.1,(db n i0 w2<|length n.aa).2.2)
end
def eH(n:Net)(i0 kk:Nat):Nat×(lXB)×(lXA):=Nat.rec (motive:=λ_=>Nat×(lXB)×(lXA)) (1,replicate (length<|map aC n.rules) false,[(i0:Int)]) (λ_ a=>x7 n i0 a) kk
def kE(n:Net)(i0:Nat)(w2:Nat×(lXB)×(lXA)):Bool:=(bif decide (((w2.1:Nat):Int)>0)then(Er n i0 w2)else true)
def uj(n:Net)(i0:Nat)(w2:Nat×(lXB)×(lXA)):Bool:=(decide<|((w2.1:Nat):Int)>0)
def GV(n:Net)(i0:Nat):Nat×(lXB)×(lXA):=eH n i0 (eB (kE n i0)<|eH n i0)
def Xe{n:Net}(hn:cg n)(i0:Nat)(hi:i0<n.rules.length): ∀k,SI n.rules.length (n.rules.length+1) (eH n i0 k)
 |0=>⟨by show(replicate _ _).length=_;simp,afP _,λx hx=>by
   have hx:x∈ [(i0:Int)]:=hx;simp_all,by
   show 1+cf (replicate _ _)<=_;have:=WB (replicate (length<|map aC n.rules) false);grind⟩
 |k+1=>(Kl hn i0 (Xe hn i0 hi k) _<|afP _).1.up (Nat.le_succ _)
def Xf{n:Net}(hn:cg n)(i0:Nat)(hi:i0<n.rules.length):(∃k,kE n i0 (eH n i0 k)=true)/\ ∀k,k<=eB (kE n i0) (eH n i0)->SI n.rules.length (n.rules.length+1) (eH n i0 k):=by
 refine⟨?_,λk _=>Xe hn i0 hi k⟩;by_cases h: ∃k,kE n i0 (eH n i0 k)=true
 ·exact h
 ·have h: ∀k,0<(eH n i0 k).1:=λk=>by
   have hk:kE n i0 (eH n i0 k)≠true:=λe=>h ⟨k,e⟩;by_cases h0:0<(eH n i0 k).1
   ·exact h0
   ·refine absurd ?_ hk;unfold kE;rw[show decide ((((eH n i0 k).1:Nat):Int)>0)=false from afU oaa];rfl
  have key: ∀k,2*cf (eH n i0 k).2.1+(eH n i0 k).1+k<=2*cf (eH n i0 0).2.1+(eH n i0 0).1:=λk=>by
   induction k with
   |zero=>exact afP _
   |succ k ih=>have h1:=(Kl hn i0 (Xe hn i0 hi k) _<|afP _).2;have h2:=h k;have h3:eH n i0 (k+1)=db n i0 (eH n i0 k) n.aa.length:=rfl;rw[h3];omega
  have:=key (2*cf (eH n i0 0).2.1+(eH n i0 0).1+1);omega
abbrev Nx(n:Net)(i0:Nat)(w2:Nat×(lXB)×(lXA)):Am.Loc:=[(1,.pf (bA n)),(3,I (i0:Int)),(4,.sr 0 1 0 (length<|zH n)),(5,.sr 1 1 0 w2.1)]
abbrev Xg(n:Net)(i0:Nat)(w2:Nat×(lXB)×(lXA)):Am.Loc:=[(2,B true)]
abbrev Xh(n:Net)(i0:Nat)(w2:Nat×(lXB)×(lXA)):Am.Loc:=(zBG i0 n)
abbrev Ny(n:Net)(i0:Nat)(w2:Nat×(lXB)×(lXA)):lXE:=(zBH w2)
abbrev Xi(n:Net)(i0:Nat)(w2:Nat×(lXB)×(lXA)):lXE:=[]
abbrev Xj(n:Net)(i0:Nat)(w2:Nat×(lXB)×(lXA)):lXE:=(zBH w2)
def Eu(n:Net)(i0:Nat):KB:=whK 2 (kE n i0) (uj n i0) (eH n i0) (Nx n i0) (Ny n i0) .ret (Xg n i0) (Xi n i0) (.exit 2) (Xh n i0) (Xj n i0) (λw2=>SI (length n.rules) (length n.rules+1) w2)
abbrev Nz(n:Net)(i0:Nat)(w2:Nat×(lXB)×(lXA)):List bf:=[whW (kE n i0 w2) (uj n i0 w2) .ret (Xg n i0 w2) zb (Xi n i0 w2),nxW (kE n i0 w2) (Nx n i0<|x7 n i0 w2) (Ny n i0<|x7 n i0 w2) (Nx n i0 ((zBI i0 n w2).1,(zBI i0 n w2).2.1,(zBI i0 n w2).2.2)) zBc (Ny n i0 ((zBI i0 n w2).1,(zBI i0 n w2).2.1,(zBI i0 n w2).2.2)),wxW (kE n i0 w2) (uj n i0 w2) (.exit 2) (Xh n i0 w2) zBc (Xj n i0 w2)]
def Ew:di [4] Nu=[(4,.loop Nv)]:=by kernel_rfl
def Xk(n:Net)(i0:Nat)(hn:cg n)(hf:ck n)(hx0:i0<(length n.rules)):cx pg 101 0 2 (.loop Nu) (Eu n i0):=
 have hr:=hf.rules;have hs:=hf.aa;whB (Nz n i0) (λw2=>(.r [.k,bT]<|.br (.r [.int ((w2.1-1:Nat):Int),.at (w2.1-1) 0 (ba<|ae w2.2.2<|w2.1-1),bT]<|.r [.int ((w2.1-1:Nat):Int),bT]<|.r [bT] zDE)<|.pick 2)) (x7 n i0) 2 (λw2(hw2:SI (length n.rules) (length n.rules+1) w2)=>have hr:=hf.rules;have hs:=hf.aa;have hk2:=hw2.kt;have hl2:=hw2.len;have hb2:=hw2.bd;have hs2:0<w2.1->(0<=ae w2.2.2 (w2.1-1)/\ae w2.2.2 (w2.1-1)<(length n.rules:Int)):=λh=>hw2.rng _ (aw oaa);bB (an (a1 a0)<|brP (λ(h0:(decide<|((w2.1:Nat):Int)>0)=true)=>have g0:=afS h0;
 (an (ac (ato 1 0 (w2.1-1)<|rl ba w2.2.2)<|ac (ixo (w2.1-1) w2.1)<|ac (dso w2.1) a0)<|an (ac (slo 0 (w2.1-1) w2.1)<|ac (dso w2.1) a0)<|an a0<|an (kbT (Km n i0 w2) h0)<|brP (λ(h1:(Er n i0 w2)=true)=>(lf (wy (Nz n i0 w2) 0) 0 ⟨show kE n i0 w2=true from(cdT h0 h1),show uj n i0 w2=true from h0⟩))<|λh1=>(lf (wy (Nz n i0 w2) 1) 2<|nxP (Nx n i0) (Ny n i0) (show kE n i0 w2=false from(cdT h0 h1))<|show(x7 n i0 w2)=((db n i0 w2<|length n.aa).1,(db n i0 w2<|length n.aa).2.1,(db n i0 w2<|length n.aa).2.2)from rfl)))<|λh0=>(lf (wy (Nz n i0 w2) 2) 2 ⟨show kE n i0 w2=true from(cdF h0 rfl),show uj n i0 w2=false from h0⟩))
 oab) (hk:=λw2 hw2=>(bw (l:=[(4,Km n i0 w2)]) Ew (aK (Xd n i0 w2 hn hf hx0 hw2) rfl aU) rfl))
abbrev Xl(n:Net)(i0:Nat):Am.Loc:=(zBG i0 n)
abbrev Xm(n:Net)(i0:Nat):lXE:=[]
def n9(n:Net)(i0:Nat):Bool:=(!(!(ae n.rules i0).bN)&&(uj n i0<|GV n i0))
def NA(n:Net):Bool:=dA (length n.rules) (n9 n)
abbrev Xn(n:Net)(i0:Nat):Am.Loc:=[(2,B true)]
abbrev Xo(n:Net)(i0:Nat):lXE:=[]
abbrev Xp(n:Net):Am.Loc:=[]
abbrev Xq(n:Net):lXE:=[]
def Kn(n:Net):KB:=anK 0 (length n.rules) (n9 n) (Xl n) (Xm n) .ret (Xn n) (Xo n) (.exit 0) (Xp n) (Xq n) (True)
abbrev NB(n:Net)(i0:Nat):List bf:=[nxW (n9 n i0) (Xl n<|i0+1) (Xm n<|i0+1) (Xl n<|i0+1) zb (Xm n<|i0+1),htW (n9 n i0) .ret (Xn n i0) zb (Xo n i0)]
def Ex:di [2] Nt=[(2,.loop Nu)]:=by kernel_rfl
def Xr(n:Net)(hn:cg n)(hf:ck n):cx pg 101 0 0 (.loop Nt) (Kn n):=
 anB (NB n) (λi0=>(.r [.k,bT]<|.yes<|.r (zBm i0 n)<|.br (zU i0)<|.r [bT]<|.r [bT]<|.br (.pick 1)<|zU i0)) (range 0) zE
 (λ_ i0(hx0:i0<(length n.rules))=>have hr:=hf.rules;have hs:=hf.aa;have l1:=aL aC (n.rules);have hb:(zAK i0 n)=true:=afT oaa;
 bB (an (a1 a0)<|an hb<|an (ac (rwa aC n.rules i0) a0)<|brP (λ(h1:(!(ae n.rules i0).bN)=true)=>(an (ac (dwo ((i0+1:Nat):Int)) a0)<|lf (wy (NB n i0) 0) 0 ⟨(show n9 n i0=false from(bg<|cI h1)),rfl,rfl⟩))<|λh1=>(an (ac (mko (length<|map aC n.rules) 1) a0)<|an a0<|an (F5 (Eu n i0) (S:=nm<|KB.L0<|Eu n i0) rfl (aW (af1 (λz=>Ob.row 4 1 z)<|Rc (f:=aA) (length<|map aC n.rules) false)<|aW (rfl:(.row 3 1 [(dk i0)]:Ob)= .row 3 1 [(dk i0)]) ee)<|Xf hn i0 hx0)<|brP (λ(h2:(uj n i0<|GV n i0)=true)=>(lf (wy (NB n i0) 1) 0<|show n9 n i0=true from(aD (au h1) h2)))<|λh2=>(an (ac (dwo ((i0+1:Nat):Int)) a0)<|lf (wy (NB n i0) 0) 2 ⟨(show n9 n i0=false from(aD (au h1) h2)),rfl,rfl⟩)))
 oab)
 (λ_=>have hr:=hf.rules;have hs:=hf.aa;have l1:=aL aC (n.rules);have hb:(zP n)=false:=afU oaa;
 bB (an (a1 a0)<|an hb<|lx (.exit 0) (Xp n) (range 0) (Xq n) 0)
 oab) (hk:=λ_ i0 hx0=>(bw (l:=[(2,Eu n i0)]) Ex (aK (Xk n i0 hn hf hx0) rfl aU) rfl))
def r36(n:Net):Bool:=(NA n)
def uT:di [0] (aG 60)=[(0,.loop Nt)]:=by kernel_rfl
def abd(n:Net)(hn:cg n)(hf:ck n):aY pg 60 [.ag (bA n)] [] [] (B<|r36 n) []:=
 aV 60 zf
 (an a0<|an a0<|an (kbT (Kn n) trivial)<|brP (λ(h0:(NA n)=true)=>(bE<|show r36 n=true from h0))<|λh0=>(an a0<|bE<|show r36 n=false from h0)) (hk:=(bw (l:=[(0,Kn n)]) uT (aK (Xr n hn hf) rfl aU) rfl))
theorem bZ{α:Type}[Inhabited α]{l:List α}{x:α}(h:x∈l): ∃i,i<l.length/\ae l i=x:=by obtain⟨i,hi,rfl⟩:=List.mem_iff_getElem.1 h;exact⟨i,hi,by simp[ae,hi]⟩
section
variable{n:Net}
theorem x8{s r:Int}(h:r67 n s r=true):0<=s/\s<(n.aa.length:Int):=by grind[r67]
theorem Ko(h:r32 n=true){i:Nat}(hi:i<n.rules.length):r67 n (ae n.rules i).start i=true/\r67 n (ae n.rules i).stop i=true:=by grind[bO,vl,r32,l8]
theorem qi(h:r33 n=true){i:Nat}(hi:i<n.aa.length):(0<=(ae n.aa i).aH/\(ae n.aa i).aH<(n.rules.length:Int))/\ ∀k,k<(ae n.aa i).ah.length->r68 n (ae n.aa i) i (ae (ae n.aa i).ah k)=true:=by
 have:=bO.1 (show D2 n=false by simpa [r33]using h) i hi;unfold nX at this;simp only[af4,aga,afW]at this;obtain⟨h1,h2,h3⟩:=this;have h3:kV n i=false:=by
  revert h3;cases ((((ae n.aa i).ah.length:Nat):Int)==0)with
  |true=>intro h3;simp only[af2,af4]at h3;exact h3.2
  |false=>exact λh3=>h3
 refine⟨by omega,λk hk=> ?_⟩;have:=bO.1 h3 k hk;unfold rC at this;simp only[af4,agr]at this;exact this.1
section
variable{s:State}{i:Int}{e:Edge}
theorem adR(h:r68 n s i e=true):0<=e.to/\e.to<(n.aa.length:Int):=by unfold r68 at h;simp only[afJ,ag0]at h;exact x8 h.1
theorem Xs(h:r68 n s i e=true)(h2:e.op=2):0<=e.n/\e.n<(n.rules.length:Int):=by grind[r68]
end
theorem Xt(h2:r32 n=true)(h3:r33 n=true):cg n where
 to:=λs hs e he=>by
  obtain⟨i,hi,rfl⟩:=bZ hs
  obtain⟨k,hk,rfl⟩:=bZ he
  exact adR ((qi h3 hi).2 k hk)
 call:=λs hs e he h=>by
  obtain⟨i,hi,rfl⟩:=bZ hs
  obtain⟨k,hk,rfl⟩:=bZ he
  exact Xs ((qi h3 hi).2 k hk) h
 start:=λr hr=>by
  obtain⟨i,hi,rfl⟩:=bZ hr
  exact x8 (Ko h2 hi).1
 stop:=λr hr=>by
  obtain⟨i,hi,rfl⟩:=bZ hr
  exact x8 (Ko h2 hi).2
theorem GW(h2:(!r32 n)=false)(h3:(!r33 n)=false):cg n:=Xt (by simpa using h2) (by simpa using h3)
def Xu(h:(!r33 n)=false){i:Nat}(hi:i<n.aa.length):0<=(ae n.aa i).aH/\(ae n.aa i).aH<(n.rules.length:Int):=(qi oaM hi).1
end
def vq(n:Net):(r25 n).length=n.rules.length:=by simp[r25,n7,Cg]
noncomputable def lE(n:Net)(x:Int):lXB:=ef okF n x.toNat
def Kp(n:Net)(x:Int):(lE n x).length=n.aa.length:=qf _ _ _
def Xv{n:Net}(hn:cg n)(hf:ck n)(x:Int)(hx:0<=x/\x<(n.aa.length:Int)):aY pg 57 [jD n,I x,B false,.v (.slice none 0 0)] [] [] (.sl 1<|(lE n x).map aA) []:=by have h:=ui (v34F hn.to hf.f0) hn.to hf.f0 x.toNat oaa;rw[show((x.toNat:Nat):Int)=x by omega]at h;exact mH (o:=0) (T:=4) h rfl (by simp[qf,lE]) (bc bY _)
section
variable(n:Net)
def i31:cj:=⟨54,[jD n],B (r31 n),ck n⟩
def g31:(i31 n).bS pg:=da λhp=>aaY n hp.h
def i32:cj:=⟨55,[jD n],B (r32 n),ck n⟩
def g32:(i32 n).bS pg:=da λhp=>aaW n (agu hp.rules oaa)
def i33:cj:=⟨56,[jD n],B (r33 n),ck n⟩
def g33:(i33 n).bS pg:=da λhp=>VB n hp
def i25:cj:=⟨58,[jD n],.sl 1 ((r25 n).map aA),cg n/\ck n⟩
def g25:(i25 n).bS pg:=da λhp=>Bc n hp.1 hp.2
def i34f(x:Int):cj:=⟨57,[jD n,I x,B false,.v (.slice none 0 0)],.sl 1 ((lE n x).map aA),cg n/\ck n/\0<=x/\x<(n.aa.length:Int)⟩
def g34f(x:Int):(i34f n x).bS pg:=da λhp=>Xv hp.1 hp.2.1 x hp.2.2
def i35(emp:lXB):cj:=⟨59,[jD n,.sl 1 (emp.map aA)],B (r35 n emp),cg n/\ck n/\emp.length=n.rules.length⟩
def g35(emp:lXB):(i35 n emp).bS pg:=da λhp=>adQ n emp hp.1 hp.2.1 hp.2.2
def i36:cj:=⟨60,[jD n],B (r36 n),cg n/\ck n⟩
def g36:(i36 n).bS pg:=da λhp=>abd n hp.1 hp.2
end
def acH:Code:=bD 0 (aG 25)
abbrev Xw(n:Net)(i0:Nat):Am.Loc:=(zBG i0 n)
abbrev Xx(n:Net)(i0:Nat):lXE:=[]
def uk(n:Net)(i0:Nat):Bool:=(!(aF (lE n (i0:Int)) (aF n.rules (ae n.aa i0).aH).stop))
def oQ(n:Net):Bool:=dA (length n.aa) (uk n)
abbrev Xy(n:Net)(i0:Nat):Am.Loc:=[(2,I 110)]
abbrev Xz(n:Net)(i0:Nat):lXE:=[]
abbrev XA(n:Net):Am.Loc:=[(1,.pf (bA n))]
abbrev XB(n:Net):lXE:=[]
def Kq(n:Net):KB:=anK 0 (length n.aa) (uk n) (Xw n) (Xx n) .ret (Xy n) (Xz n) (.exit 0) (XA n) (XB n) ((!(r32 n))=false/\(!(r33 n))=false)
abbrev XC(n:Net)(i0:Nat):List bf:=[htW (uk n i0) .ret (Xy n i0) zb (Xz n i0),nxW (uk n i0) (Xw n<|i0+1) (Xx n<|i0+1) (Xw n<|i0+1) zb (Xx n<|i0+1)]
def XD(n:Net)(hf:ck n):cx pg 80 0 0 (.loop acH) (Kq n):=
 anB (XC n) (λi0=>(.r [.k,bT]<|.yes<|.r [.int 0,.row (aq<|ae n.aa i0),.bG ((ae n.aa i0).aH).toNat (aC<|aF n.rules (ae n.aa i0).aH),.bG ((aF n.rules (ae n.aa i0).aH).stop).toNat (aA<|aF (lE n (i0:Int)) (aF n.rules (ae n.aa i0).aH).stop),bT]<|.br zB<|zD i0)) (range 0) zE
 (λ(hp0:(!(r32 n))=false/\(!(r33 n))=false) i0(hx0:i0<(length n.aa))=>have hr:=hf.rules;have hs:=hf.aa;have hn:=GW hp0.1 hp0.2;have hq:=Xu hp0.2 hx0;have hst:=hn.stop _ (rK<|.inr hq);have hrl:=Kp n (i0:Int);have l1:=aL aq (n.aa);have hb:(zw i0 n)=true:=afT oaa;
 bB (an (a1 a0)<|an hb<|have l2:=aL aA ((lE n (i0:Int)));have l3:=aL aC (n.rules);an (ac (rwz aA (lE n (i0:Int)) (aF n.rules (ae n.aa i0).aH).stop)<|ac (rwz aC n.rules (ae n.aa i0).aH)<|ac (rwa aq n.aa i0)<|cA (g34f n (i0:Int)) ⟨hn,hf,by omega⟩ a0)<|brP (λ(h1:(!(aF (lE n (i0:Int)) (aF n.rules (ae n.aa i0).aH).stop))=true)=>(an a0<|lf (wy (XC n i0) 0) 0<|show uk n i0=true from h1))<|λh1=>
 (an (ac (dwo ((i0+1:Nat):Int)) a0)<|lf (wy (XC n i0) 1) 0 ⟨(show uk n i0=false from h1),rfl,rfl⟩))
 oab)
 (λ(hp0:(!(r32 n))=false/\(!(r33 n))=false)=>have hr:=hf.rules;have hs:=hf.aa;have l1:=aL aq (n.aa);have hb:(zQ n)=false:=afU oaa;
 bB (an (a1 a0)<|an hb<|lx (.exit 0) (XA n) (range 0) (XB n) 0)
 oab) (hc:=λhp0 i0 hx0=>(bn (.cons (g34f n (i0:Int)) rfl cy.nil) aE))
def acI:Code:=bD 2 (aG 25)
abbrev XE(n:Net)(i2:Nat):Am.Loc:=[(1,.pf (bA n)),(4,.sl 1 (map aA<|r25 n)),(5,I (i2:Int))]
abbrev XF(n:Net)(i2:Nat):lXE:=[]
def x9(n:Net)(i2:Nat):Bool:=((ae n.rules i2).bN&&((!(ae n.rules i2).eF)&&(ae (r25 n) i2)))
def vr(n:Net):Bool:=dA (length n.rules) (x9 n)
abbrev XG(n:Net)(i2:Nat):Am.Loc:=[(2,I 110)]
abbrev XH(n:Net)(i2:Nat):lXE:=[]
abbrev XI(n:Net):Am.Loc:=[(1,.pf (bA n)),(4,.sl 1 (map aA<|r25 n))]
abbrev XJ(n:Net):lXE:=[]
def Kr(n:Net):KB:=anK 2 (length n.rules) (x9 n) (XE n) (XF n) .ret (XG n) (XH n) (.exit 2) (XI n) (XJ n) ((!(r32 n))=false/\(!(r33 n))=false)
abbrev GX(n:Net)(i2:Nat):List bf:=[htW (x9 n i2) .ret (XG n i2) zb (XH n i2),nxW (x9 n i2) (XE n<|i2+1) (XF n<|i2+1) (XE n<|i2+1) zb (XF n<|i2+1)]
def XK(n:Net)(hf:ck n):cx pg 80 0 2 (.loop acI) (Kr n):=
 anB (GX n) (λi2=>(.r [.k,bT]<|.yes<|.a (.a (.r (.row (aC<|ae n.rules i2)::uTT 4 (.row (aC<|ae n.rules i2)::uTT 6 [.row (aA<|ae (r25 n) i2),bT,bT]))<|.br zB<|.r (zi i2)<|.pick 1)<|.r (.row (aC<|ae n.rules i2)::uTT 4 (.row (aC<|ae n.rules i2)::bT::bT::bT::uFF 4 [bT]))<|.r (zi i2)<|.pick 1)<|.r (.row (aC<|ae n.rules i2)::uFF 11 [bT])<|.r (zi i2)<|.pick 1)) (range 0) zE
 (λ(hp2:(!(r32 n))=false/\(!(r33 n))=false) i2(hx2:i2<(length n.rules))=>have hr:=hf.rules;have hs:=hf.aa;have hrl:=vq n;have l1:=aL aC (n.rules);have hb:(decide<|(i2:Int)<(length (map aC n.rules):Int))=true:=afT oaa;
 bB (an (a1 a0)<|an hb<|aO (λ(h1:((ae n.rules i2).bN)=true)=>have q0:=(aD h1 rfl:x9 n i2=_);
 (aO (λ(h2:(!(ae n.rules i2).eF)=true)=>have q1:=q0.trans (aD h2 rfl);
 (an (a1<|ac (rwa aA (r25 n) i2)<|aN 2<|ac h2<|aN 3<|ac (rwa aC n.rules i2)<|aN 3<|ac h1<|ac (rwa aC n.rules i2) a0)<|brP (λ(h3:((ae (r25 n) i2))=true)=>(an a0<|lf (wy (GX n i2) 0) 0<|q1.trans h3))<|λh3=>(an (ac (dwo ((i2+1:Nat):Int)) a0)<|lf (wy (GX n i2) 1) 0 ⟨(q1.trans h3),rfl,rfl⟩)))<|λh2=>(an (aN 3<|ac (au h2)<|aN 3<|ac (rwa aC n.rules i2)<|aN 3<|ac h1<|ac (rwa aC n.rules i2) a0)<|an (ac (dwo ((i2+1:Nat):Int)) a0)<|lf (wy (GX n i2) 1) 0 ⟨(q0.trans<|bg h2),rfl,rfl⟩)))<|λh1=>(an (aN 10<|ac (au h1)<|ac (rwa aC n.rules i2) a0)<|an (ac (dwo ((i2+1:Nat):Int)) a0)<|lf (wy (GX n i2) 1) 0 ⟨(show x9 n i2=false from(bg h1)),rfl,rfl⟩))
 oab)
 (λ(hp2:(!(r32 n))=false/\(!(r33 n))=false)=>have hr:=hf.rules;have hs:=hf.aa;have l1:=aL aC (n.rules);have hb:(zP n)=false:=afU oaa;
 bB (an (a1 a0)<|an hb<|lx (.exit 2) (XI n) (range 0) (XJ n) 0)
 oab)
def r11(n:Net):Int:=(bif !(r31 n)then 110 else(bif !(r32 n)then 110 else(bif !(r33 n)then 110 else(bif oQ n then 110 else(bif vr n then 110 else(bif r35 n (r25 n)then 110 else(bif r36 n then 110 else 0)))))))
def uU:di [0,2] (aG 25)=[(0,.loop acH),(2,.loop acI)]:=by kernel_rfl
abbrev zDF:GT:=(.r (.int 0::uFF 6 [bT]) zF)
def abe(n:Net)(hf:ck n):aY pg 25 [.ag (bA n)] [] [] (I<|r11 n) []:=
 aV 25 (.r [bT]<|.a zDF<|.a (.r [.int 0,bT,bT,.int 1,bT,bF,bF,bF,bT] zF)<|.r [.int 0,bT,bT,.int 1,bT,bT,bT,.int 2,bT,bT]<|.br zF<|.r [bT]<|.br .nil<|.r [.int 3,bT]<|.r [bT]<|.br .nil<|.a (.r [.int 4,bF,bF,bT] zF)<|.r [.int 4,bT,bT,.int 5,bT]<|.br zF zF)
 (an a0<|aO (λ(h0:(!(r31 n))=true)=>(an (aN 5<|ac (n2 h0)<|cA (g31 n) hf a0)<|an a0<|iE<|show r11 n=_ from(cdT h0 rfl)))<|λh0=>(aO (λ(h1:(!(r32 n))=true)=>(an (aN 2<|ac (n2 h1)<|a1<|cA (g32 n) hf<|a1<|ac (au h0)<|cA (g31 n) hf a0)<|an a0<|iE<|show r11 n=_ from(cdF h0<|cdT h1 rfl)))<|λh1=>(an (a1<|cA (g33 n) hf<|a1<|ac (au h1)<|a1<|cA (g32 n) hf<|a1<|ac (au h0)<|cA (g31 n) hf a0)<|brP (λ(h2:(!(r33 n))=true)=>(an a0<|iE<|show r11 n=_ from(cdF h0<|cdF h1<|cdT h2 rfl)))<|λh2=>(an a0<|an (kbT (Kq n) ⟨h1,h2⟩)<|brP (λ(h3:(oQ n)=true)=>(iE<|show r11 n=_ from(cdF h0<|cdF h1<|cdF h2<|cdT h3 rfl)))<|λh3=>(an (cA (g25 n) ⟨GW h1 h2,hf⟩ a0)<|an a0<|an (kbT (Kr n) ⟨h1,h2⟩)<|brP (λ(h4:(vr n)=true)=>(iE<|show r11 n=_ from(cdF h0<|cdF h1<|cdF h2<|cdF h3<|cdT h4 rfl)))<|λh4=>(aO (λ(h5:(r35 n<|r25 n)=true)=>(an (a1<|ac (n2 h5)<|cA (g35 n<|r25 n) ⟨GW h1 h2,hf,vq n⟩ a0)<|an a0<|iE<|show r11 n=_ from(cdF h0<|cdF h1<|cdF h2<|cdF h3<|cdF h4<|cdT h5 rfl)))<|λh5=>(an (cA (g36 n) ⟨GW h1 h2,hf⟩<|a1<|ac (au h5)<|cA (g35 n<|r25 n) ⟨GW h1 h2,hf,vq n⟩ a0)<|brP (λ(h6:(r36 n)=true)=>(an a0<|iE<|show r11 n=_ from(cdF h0<|cdF h1<|cdF h2<|cdF h3<|cdF h4<|cdF h5<|cdT h6 rfl)))<|λh6=>(an a0<|iE<|show r11 n=_ from(cdF h0<|cdF h1<|cdF h2<|cdF h3<|cdF h4<|cdF h5<|cdF h6 rfl))))))))) (hc:=(bn (.cons (g31 n) rfl<|.cons (g32 n) rfl<|.cons (g33 n) rfl<|.cons (g25 n) rfl<|.cons (g35 n<|r25 n) rfl<|.cons (g36 n) rfl cy.nil) aE)) (hk:=(bw (l:=[(0,Kq n),(2,Kr n)]) uU (aK (XD n hf) rfl<|aK (XK n hf) rfl aU) rfl))
def uV:Code->Code
 | .block _ c=>c
 |c=>c
def iv(x:Int):Value:= .int .i64 x
def gV(G:List lXA):List (List Value):=G.map λl=>l.map iv
theorem mb(l:lXA):inner 3 (l.map iv)= .row 3 1 (l.map ba):=by unfold inner aI vs;rw[List.map_map,List.map_map];rfl
theorem oc(G:List lXA):(gV G).length=G.length:=afW _
def Ks{G:List lXA}{j:Nat}(hj:j<G.length):(gV G)[j]? =some ((ae G j).map iv):=by grind[gV,fC]
theorem Kt(G:List lXA)(j:Nat)(l:lXA):(gV G).set j (l.map iv)=gV (G.set j l):=by rw[gV,gV,List.map_set]
theorem Ku(N:Nat):gV (replicate N [])=replicate N []:=by simp[gV]
abbrev oneI(T:TypeId)(o j:Nat)(xs:List Value)(l:lXA):lXE:=[.row T 1 (aI<|(vs xs).set j<|.sr (o+1) 1 0 l.length),.row 3 1 (l.map ba)]
theorem NC(o j:Nat)(xs:List Value)(l:lXA):nj o 105 3 j xs (l.map iv)=oneI 105 o j xs l:=by unfold nj;rw[mb,afW]
def pin1{P:Program}{n:Nat}{c:Code}{L L':Am.Loc}{base:lXE}{G:List lXA}{j:Nat}{R':lXA}{x:AX}(hj:j<G.length)(hrf:c.rf=false)(hx:fI x=true)(uL: ∀p∈L,p.2.und (base.length+1)=true)(uL': ∀p∈L',p.2.und (base.length+1)=true)(ub:base.all (Ob.und<|base.length+1)=true)(nd: ∀X∈base,X≠ .dead)(h: ∀xs:List Value,xs.length=G.length->bo P n (base.length+1) c L (base++oneI 105 base.length j xs (ae G j)) x L' (base++oneI 105 base.length j xs R')):bo P n 0 c L (base++cE base.length 105 3 (gV G)) x L' (base++cE base.length 105 3 (gV<|G.set j R')):=by rw[<-Kt];refine Jg (Ks hj) rfl (agn _) hrf hx (agc.2 uL) (agc.2 uL') ub ub nd λxs hxs=> ?_;rw[NC,NC];exact h xs (by rw[hxs,oc])
theorem Cj(N:Nat): ∀(Rs:List (List Value))(o:Nat),o+Rs.length<=N->dw N (aI<|dX o Rs)=true
 |[],_,_=>rfl
 |R::Rs,o,h=>by simp only[agb]at h;have:=Cj N Rs (o+1) oaa;simp only[dX,aI,af9,dw,bx,AV.und,Bool.and_true,afJ,decide_eq_true_eq]at this⊢;exact⟨by first|omega|simpa using oaa,this⟩
theorem RJ(N:Nat)(Ti:TypeId)(R:List Value):(inner Ti R).und N=true:=by
 have:dw N (aI<|vs R)=true:=by
  induction R with
  |nil=>rfl
  |cons x R ih=>grind[aI,vs,dw,bx,AV.und]
 simpa [inner,Ob.und]using this
def RK(Rs:List (List Value))(T Ti:TypeId):(cE 0 T Ti Rs).all (Ob.und<|Rs.length+1)=true:=by grind[cE,Ob.und,Cj,RJ]
def pin2{P:Program}{n:Nat}{c:Code}{Ls Ls' L L':Am.Loc}{G1 G2:List lXA}{N1 j k:Nat}{A' B':lXA}{x:AX}(hN:G1.length=N1)(hj:j<G1.length)(hk:k<G2.length)(hrf:c.rf=false)(hx:fI x=true)(uL: ∀p∈Ls,(nQ p.2||p.2.und 1)=true)(uL': ∀p∈Ls',(nQ p.2||p.2.und 1)=true)(hL:shL N1 Ls=L)(hL':shL N1 Ls'=L')(h: ∀xs ys:List Value,xs.length=G1.length->ys.length=G2.length->bo P n 2 c Ls [.row 105 1 (aI<|(vs xs).set j<|.sr 2 1 0 (ae G1 j).length),.row 105 1 (aI<|(vs ys).set k<|.sr 3 1 0 (ae G2 k).length),.row 3 1 ((ae G1 j).map ba),.row 3 1 ((ae G2 k).map ba)] x Ls' [.row 105 1 (aI<|(vs xs).set j<|.sr 2 1 0 A'.length),.row 105 1 (aI<|(vs ys).set k<|.sr 3 1 0 B'.length),.row 3 1 (A'.map ba),.row 3 1 (B'.map ba)]):bo P n 0 c L (cE 0 105 3 (gV G1)++cE (N1+1) 105 3 (gV G2)) x L' (cE 0 105 3 (gV<|G1.set j A')++cE (N1+1) 105 3 (gV<|G2.set k B')):=by
 subst hN;subst hL;subst hL';rw[<-Kt,<-Kt];have:=Ga (T:=105) (Ti:=3) (x:=x) (Ls:=Ls) (Ls':=Ls') (A':=A'.map iv) (B':=B'.map iv) (Ks hj) (Ks hk) hrf hx (agc.2 uL) (agc.2 uL') λxs ys hxs hys=>by rw[mb,mb,mb,mb,afW,afW,afW,afW];exact h xs ys (by rw[hxs,oc]) (by rw[hys,oc])
 rw[oc]at this;exact this
theorem ya(N:Nat):replicate N [AV.v (.slice none 0 0)]=aI (replicate N<|.v<|.slice none 0 0):=by simp[aI]
section
variable{P:Program}{n id:Nat}{c:Code}
theorem Ck{base:lXE}{L Lx Lx2:Am.Loc}{N:Nat}{G:List lXA}{g:List lXF}(hp:bo P n 0 (.block id<|.loop c) L (base++cE base.length 105 3 (gV<|replicate N [])) .normal Lx (base++cE base.length 105 3 (gV G)))(ub:base.all (Ob.und base.length)=true)(hG:aI (jI<|gV G)=g)(hL: ∀p∈Lx2,(lk Lx p.1=some p.2/\p.2.und base.length=true)\/(lk Lx p.1=some (.sr base.length 1 0 G.length)/\p.2= .sl 1 g)):cx P n 0 id (.loop c) ⟨L,base++ [.row 105 1 (replicate N [.v (.slice none 0 0)])],false,.ret,[],[],.normal,Lx2,base,True⟩:=by refine⟨λ_ e=>oao,λ_ _=> ?_⟩;show bo P n 0 (.block id<|.loop c) L (base++ [.row 105 1 (replicate N [.v (.slice none 0 0)])]) .normal Lx2 base;rw[ya];refine xi (Jh 3<|agn _) ?_;rw[<-Ku];refine gq (fH.refl _ _) hp (nR (agn _) ub λt av e=> ?_) rfl;rw[hG,oc];exact hL _ (mj e)
theorem RL{L L1 Lx Lm Lx2:Am.Loc}{N0 N1 N2:Nat}{G1 G2:List lXA}{g1 g2:List lXF}(hN:N0=N1)(hp:bo P n 0 (.block id<|.loop c) L1 (cE 0 105 3 (gV<|replicate N0 [])++cE (N1+1) 105 3 (gV<|replicate N2 [])) .normal Lx (cE 0 105 3 (gV G1)++cE (N1+1) 105 3 (gV G2)))(hL1:shL N1 L=L1)(uL: ∀p∈L,(nQ p.2||p.2.und 1)=true)(h1:G1.length=N1)(hG1:aI (jI<|gV G1)=g1)(hG2:aI (jI<|gV G2)=g2)(hm: ∀p∈Lm,(lk Lx p.1=some p.2/\p.2.und (N1+1)=true)\/(lk Lx p.1=some (.sr (N1+1) 1 0 G2.length)/\p.2= .sl 1 g2))(hx: ∀p∈Lx2,(lk Lm p.1=some p.2/\p.2.und 0=true)\/(lk Lm p.1=some (.sr 0 1 0 G1.length)/\p.2= .sl 1 g1)):cx P n 0 id (.loop c) ⟨L,[.row 105 1 (replicate N0 [.v (.slice none 0 0)]),.row 105 1 (replicate N2 [.v (.slice none 0 0)])],false,.ret,[],[],.normal,Lx2,[],True⟩:=by
 subst hN;refine⟨λ_ e=>oao,λ_ _=> ?_⟩;show bo P n 0 (.block id<|.loop c) L [.row 105 1 (replicate N0 [.v (.slice none 0 0)]),.row 105 1 (replicate N2 [.v (.slice none 0 0)])] .normal Lx2 [];rw[ya,ya];refine xi (Rg 3<|agc.2 uL) ?_;rw[hL1,<-Ku,<-Ku];have e1:(cE 0 105 3<|gV G1).length=N0+1:=by rw[sX,oc,h1]
 have t1:fH 0 Lx (cE 0 105 3 (gV G1)++cE (N0+1) 105 3 (gV G2)) Lm (cE 0 105 3<|gV G1):=by rw[<-e1];refine nR (agn _) (by rw[sX];exact RK _ _ _) λt av e=> ?_;rw[e1,hG2,oc];exact hm _ (mj e)
 have t2:fH 0 Lm (cE 0 105 3<|gV G1) Lx2 []:=by refine nR (base:=[]) (agn _) rfl λt av e=> ?_;rw[hG1,oc];exact hx _ (mj e)
 exact gq (fH.refl _ _) hp (t1.trans t2) rfl
end
theorem rN(G:List lXA):aI (jI<|gV G)=G.map λl=>[.sl 1 (l.map ba)]:=by grind[aI,jI,gV,agU,mb,inner]
section
variable{step:Nat->Nat->List lXA->List lXA}{len:Nat->Nat}{tg:Nat->Nat->lXA}
theorem abf(i:Nat)(h: ∀k G,k<len i->step i k G=G.set i (ae G i++tg i k))(G:List lXA)(hi:i<G.length)(k:Nat)(hk:k<=len i):inF step i G k=G.set i (ae G i++(range k).flatMap (tg i)):=by
 induction k with
 |zero=>show G=G.set i (ae G i++ []);rw[agA];refine(agd λj=> ?_);grind[fC]
 |succ k ih=>grind[inF,List.set_set,List.range_succ,ae]
theorem yb{m:Nat}(h: ∀i k G,i<m->k<len i->step i k G=G.set i (ae G i++tg i k))(i:Nat)(hi:i<=m):im step len (replicate m []) i=(range i).map (λi=>(range<|len i).flatMap<|tg i)++replicate (m-i) []:=by
 induction i with
 |zero=>show replicate m []=_;simp
 |succ i ih=>
  show inF step i (im step len (replicate m []) i) (len i)=_;rw[ih oaa,abf i (λk G hk=>h i k G oaa hk) _ oaA _ (afP _)];have e1:ae ((range i).map (λi=>(range<|len i).flatMap<|tg i)++replicate (m-i) ([]:lXA)) i=[]:=by grind[ae]
  rw[e1,List.nil_append,List.set_append_right _ _ oaj,List.range_succ,ahe,ag1];congr 1;simp only[afW,List.length_range,Nat.sub_self];rw[show m-i=(m-(i+1))+1 by omega,List.replicate_succ,List.set_cons_zero];rfl
end
theorem lF{α:Type}[Inhabited α](l:List α)(f:α->lXA):(range l.length).flatMap (λk=>f<|ae l k)=l.flatMap f:=by
 have:l=(range l.length).map (ae l):=by
  refine agd λi=> ?_;rw[afY];by_cases hi:i<l.length
  ·grind[fC]
  simp_all
 grind[List.flatMap_map]
theorem Cl{α β:Type}[Inhabited α](l:List α)(f:α->β):(range l.length).map (λk=>f<|ae l k)=l.map f:=by
 refine agd λi=> ?_;rw[afY,afY];by_cases hi:i<l.length
 ·grind[fC]
 simp_all
def vu{G:List lXA}{N b c j:Nat}{R':lXA}(h:G.length=N/\ ∀l∈G,l.length<=b)(hbc:b<=c)(hR:R'.length<=c):(G.set j R').length=N/\ ∀l∈G.set j R',l.length<=c:=oaI
def vv(N:Nat): ∀l∈replicate N ([]:lXA),l.length<=0*1000000+0:=oaz
noncomputable def tgT(emp:lXB)(e:Edge):lXA:=bif okT emp e then [e.to]else []
def abg(emp:lXB)(e:Edge)(l:lXA):(l++tgT emp e).length<=l.length+1:=by unfold tgT;cases okT emp e<;>simp
theorem XL(emp:lXB)(l:List Edge)(h: ∀e∈l,0<=e.to):(l.flatMap<|tgT emp).map ba=((l.filter<|okT emp).map λe=>e.to.toNat).map dk:=by
 induction l with
 |nil=>rfl
 |cons e l ih=>
  rw[List.flatMap_cons,ahe,ih λx hx=>h x (agf _ hx)];have h0:=h e ag7;unfold tgT;cases ho:okT emp e with
  |true=>rw[List.filter_cons_of_pos ho];simp only[af2,af9,agM,agR,List.nil_append];rw[show ba e.to=dk e.to.toNat by simp only[ba,dk];grind]
  |false=>simp_all
def adS{n:Net}(hn:rH n)(emp:lXB):((range n.aa.length).map λi=>(range (ae n.aa i).ah.length).flatMap λk=>tgT emp<|ae (ae n.aa i).ah k).map (λl=>[AV.sl 1 (l.map ba)])=(gA (okT emp) n).map bJ:=by have h1:(λi=>(range (ae n.aa i).ah.length).flatMap λk=>tgT emp<|ae (ae n.aa i).ah k)=λi=>(λs:State=>s.ah.flatMap<|tgT emp) (ae n.aa i):=funext λi=>lF (ae n.aa i).ah (tgT emp);rw[h1,Cl n.aa (λs:State=>s.ah.flatMap<|tgT emp),gA,List.map_map,List.map_map];refine agU λs hs=> ?_;simp only[Function.comp,bJ];rw[XL emp s.ah λe he=>(hn s hs e he).1]
def adT{ok:Edge->Bool}{n:Net}(hf:ck n): ∀R∈gA ok n,R.length<=9223372036854775807:=λR hR=>by unfold gA at hR;obtain⟨s,hs,rfl⟩:=agm.1 hR;rw[afW];exact agu (List.length_filter_le _ _) (agu (hf.ah s hs) oaa)
section
variable(n:Net)(emp:lXB)(x:Int)
noncomputable def mc:lXB:=kC (gA (okT emp) n) x.toNat
theorem RM:(mc n emp x).length=n.aa.length:=by simp[mc,kC,qe]
end
def abh{n:Net}(hn:cg n)(hf:ck n)(emp:lXB)(x:Int)(hx:0<=x/\x<(n.aa.length:Int)):aY pg 78 [.sl 1 ((gA (okT emp) n).map bJ),I x] [] [] (.sl 1<|(mc n emp x).map aA) []:=by have h:=Wo (gA (okT emp) n) x.toNat (by rw[qe];omega) (gA_wf hn.to) (by rw[qe];exact hf.aa) (adT hf);rw[show((x.toNat:Nat):Int)=x by omega]at h;exact h
section
variable(n:Net)(emp:lXB)(x:Int)
def i59:cj:=⟨78,[.sl 1 ((gA (okT emp) n).map bJ),I x],.sl 1 ((mc n emp x).map aA),cg n/\ck n/\0<=x/\x<(n.aa.length:Int)⟩
def g59:(i59 n emp x).bS pg:=da λhp=>abh hp.1 hp.2.1 emp x hp.2.2
end
def GY:Code:=bD 0 (aG 49)
def jJ:Code:=bD 2 GY
def ND:Code:=bD 4 jJ
theorem XM:jJ= .seq (sq1 jJ) (.seq (sq1<|sq2 jJ)<|.seq (.block 3<|.seq (sq1<|uV<|sq1<|sq2<|sq2 jJ)<|.seq (sq1<|sq2<|uV<|sq1<|sq2<|sq2 jJ)<|.block 4<|.loop ND)<|sq2<|sq2<|sq2 jJ):=by kernel_rfl
abbrev zAB(i2:Nat)(n:Net):Am.Loc:=[(0,.pf (bA n)),(3,.sr 0 1 0 (length<|zH n)),(4,B false),(5,.sr 1 1 0 (length<|zA n)),(28,.sl 2 (zA n)),(29,I (length (zA n):Int)),(30,I (i2:Int))]
abbrev zAb(i2:Nat)(n:Net):Am.Loc:=[(0,.pf (bA n)),(3,.sr 0 1 0 (length<|zH n)),(4,B false),(5,.sr 1 1 0 (length<|zA n)),(28,.sl 2 (zA n)),(29,I (length (zA n):Int)),(30,I (i2:Int)),(31,B (decide<|(i2:Int)<(length (zA n):Int)))]
abbrev zAs:GT:=(.r [.k,bT]<|.pick 0)
def adU(n:Net)(w0:Bool×(lXB))(i2:Nat)(hn:cg n)(hf:ck n)(hw0:length w0.2=length n.rules)(hx2:i2<length n.aa)(ob:lXE):bo pg 100 0 (sq1 jJ) (zAB i2 n) ob .normal (zAb i2 n) ob:=bW [3,5] oab rfl oae oac λv=>pvB zAs [] 0 λz=>(an (a1 a0) z)
abbrev zAt(i2:Nat)(n:Net):Am.Loc:=[(0,.pf (bA n)),(3,.sr 0 1 0 (length<|zH n)),(4,B false),(5,.sr 1 1 0 (length<|zA n)),(28,.sl 2 (zA n)),(29,I (length (zA n):Int)),(30,I (i2:Int)),(31,B true)]
def adV(n:Net)(w0:Bool×(lXB))(i2:Nat)(hn:cg n)(hf:ck n)(hw0:length w0.2=length n.rules)(hx2:i2<length n.aa)(ob:lXE):bo pg 100 0 (sq1<|sq2 jJ) (zAb i2 n) ob .normal (zAt i2 n) ob:=bW [3,5] oab rfl oae oac λv=>pvB (.yes<|.pick 0) [] 0 λz=>have hr:=hf.rules;have hs:=hf.aa;have hed:=hf.ah _ (aw hx2);have l1:=aL aq (n.aa);have hb:(decide<|(i2:Int)<(length (map aq n.aa):Int))=true:=afT oaa;(an hb z)
abbrev zAC(i2:Nat)(n:Net):Am.Loc:=[(0,.pf (bA n)),(3,.sr 0 1 0 (length<|zH n)),(4,B false),(5,.sr 1 1 0 (length<|zA n)),(6,I (i2:Int)),(7,.pf (aq<|ae n.aa i2)),(28,.sl 2 (zA n)),(29,I (length (zA n):Int)),(30,I (i2:Int)),(31,B true),(32,I (i2:Int)),(33,.pf (aq<|ae n.aa i2)),(34,.ag (aq<|ae n.aa i2))]
def adW(n:Net)(w0:Bool×(lXB))(i2:Nat)(hn:cg n)(hf:ck n)(hw0:length w0.2=length n.rules)(hx2:i2<length n.aa)(ob:lXE):bo pg 100 0 (sq1<|uV<|sq1<|sq2<|sq2 jJ) (zAt i2 n) ob .normal (zAC i2 n) ob:=bW [3,5] oab rfl oae oac λv=>gq (L:=iR [3,5] v [(0,.pf (bA n)),(3,.sr 0 1 0 (length<|map aC n.rules)),(4,B false),(5,.sr 1 1 0 (length<|map aq n.aa)),(28,.sl 2 (map aq n.aa)),(29,I (length (map aq n.aa):Int)),(30,I (i2:Int)),(31,B true)]) (x:= .normal) (L1:=iR [3,5] v [(0,.pf (bA n)),(3,.sr 0 1 0 (length<|map aC n.rules)),(4,B false),(5,.sr 1 1 0 (length<|map aq n.aa)),(6,I (i2:Int)),(7,.pt 0 0),(28,.sl 2 (map aq n.aa)),(29,I (length (map aq n.aa):Int)),(30,I (i2:Int)),(31,B true),(32,I (i2:Int)),(33,.pf (aq<|ae n.aa i2)),(34,.ag (aq<|ae n.aa i2))]) (ob1:=[.box 45 (aq<|ae n.aa i2)]) (fH.refl _ _) (pvB (.r [.row (aq<|ae n.aa i2),bT]<|.pick 0) [0] 1 λz=>have hr:=hf.rules;have hs:=hf.aa;have hed:=hf.ah _ (aw hx2);(an (ac (rwa aq n.aa i2) a0) z)) (s4 (ob:=[]) (Tb:=45) (cells:=(aq<|ae n.aa i2)) (agn _) (L':=iR [3,5] v [(0,.pf (bA n)),(3,.sr 0 1 0 (length<|map aC n.rules)),(4,B false),(5,.sr 1 1 0 (length<|map aq n.aa)),(6,I (i2:Int)),(7,.pf (aq<|ae n.aa i2)),(28,.sl 2 (map aq n.aa)),(29,I (length (map aq n.aa):Int)),(30,I (i2:Int)),(31,B true),(32,I (i2:Int)),(33,.pf (aq<|ae n.aa i2)),(34,.ag (aq<|ae n.aa i2))]) oas rfl) rfl
abbrev zq(i2:Nat)(n:Net):=(ae n.aa i2).ah
abbrev zCE(i2:Nat)(n:Net):=(map aQ<|zq i2 n)
def adX(n:Net)(w0:Bool×(lXB))(i2:Nat)(hn:cg n)(hf:ck n)(hw0:length w0.2=length n.rules)(hx2:i2<length n.aa)(ob:lXE):bo pg 100 0 (sq1<|sq2<|uV<|sq1<|sq2<|sq2 jJ) (zAC i2 n) ob .normal [(0,.pf (bA n)),(3,.sr 0 1 0 (length<|zH n)),(4,B false),(5,.sr 1 1 0 (length<|zA n)),(6,I (i2:Int)),(28,.sl 2 (zA n)),(29,I (length (zA n):Int)),(30,I (i2:Int)),(36,.sl 10 (zCE i2 n)),(37,I (length (zCE i2 n):Int)),(38,I 0)] ob:=bW [3,5] oab rfl oae oac λv=>pvB zB [] 0 λz=>(an a0 z)
abbrev zBs(i2:Nat)(n:Net):=(decide<|(((length (ae n.aa i2).ah):Nat):Int)<(length (map aQ (ae n.aa i2).ah):Int))
section
variable(n:Net)
section
variable(w0:Bool×(lXB))(i2:Nat)
def adY(hn:cg n)(hf:ck n)(hw0:length w0.2=length n.rules)(hx2:i2<length n.aa)(ob:lXE):bo pg 100 0 ND [(0,.pf (bA n)),(3,.sr 0 1 0 (length<|zH n)),(4,B false),(5,.sr 1 1 0 (length<|zA n)),(6,I (i2:Int)),(28,.sl 2 (zA n)),(29,I (length (zA n):Int)),(30,I (i2:Int)),(36,.sl 10 (zCE i2 n)),(37,I (length (zCE i2 n):Int)),(38,I (((length<|zq i2 n):Nat):Int))] ob (.exit 4) (zAB i2 n) ob:=bW [3,5] oab rfl oae oac λv=>pvB zE [] 0 λz=>have hr:=hf.rules;have hs:=hf.aa;have hed:=hf.ah _ (aw hx2);have l1:=aL aQ ((ae n.aa i2).ah);have hb:(zBs i2 n)=false:=afU oaa;(an (a1 a0)<|an hb z)
def adZ(hn:cg n)(hf:ck n)(hw0:length w0.2=length n.rules)(hx2:i2<length n.aa)(ob:lXE):bo pg 100 0 (sq2<|sq2<|sq2 jJ) (zAB i2 n) ob .normal [(0,.pf (bA n)),(3,.sr 0 1 0 (length<|zH n)),(4,B false),(5,.sr 1 1 0 (length<|zA n)),(28,.sl 2 (zA n)),(29,I (length (zA n):Int)),(30,I ↑(i2+1))] ob:=bW [3,5] oab rfl oae oac λv=>pvB (.r (zi i2)<|.pick 0) [] 0 λz=>have hr:=hf.rules;have hs:=hf.aa;have hed:=hf.ah _ (aw hx2);(an (ac (dwo ((i2+1:Nat):Int)) a0) z)
end
abbrev zt:=(decide<|(((length n.aa):Nat):Int)<(length (zA n):Int))
abbrev zBp:=((length n.aa):Nat)
abbrev zAa:Am.Loc:=[(0,.pf (bA n)),(3,.sr 0 1 0 (length<|zH n)),(4,B false),(5,.sr 1 1 0 (length<|zA n)),(28,.sl 2 (zA n)),(29,I (length (zA n):Int)),(30,I ((zBp n):Int)),(31,B (zt n))]
section
variable(w0:Bool×(lXB))
def ad0(hn:cg n)(hf:ck n)(hw0:length w0.2=length n.rules)(ob:lXE):bo pg 100 0 (sq1 jJ) [(0,.pf (bA n)),(3,.sr 0 1 0 (length<|zH n)),(4,B false),(5,.sr 1 1 0 (length<|zA n)),(28,.sl 2 (zA n)),(29,I (length (zA n):Int)),(30,I ((zBp n):Int))] ob .normal (zAa n) ob:=bW [3,5] oab rfl oae oac λv=>pvB zAs [] 0 λz=>(an (a1 a0) z)
def ad1(hn:cg n)(hf:ck n)(hw0:length w0.2=length n.rules)(ob:lXE):bo pg 100 0 (sq1<|sq2 jJ) (zAa n) ob (.exit 2) [(0,.pf (bA n)),(3,.sr 0 1 0 (length<|zH n)),(4,B false),(5,.sr 1 1 0 (length<|zA n))] ob:=bW [3,5] oab rfl oae oac λv=>pvB (.no<|.pick 0) [] 0 λz=>have hr:=hf.rules;have hs:=hf.aa;have l1:=aL aq (n.aa);have hb:(zQ n)=false:=afU oaa;(an hb z)
def fw(i2 i4:Nat)(l:lXA):lXA:=(bif (ae (ae n.aa i2).ah i4).op !=1 then(bif (ae (ae n.aa i2).ah i4).op !=2 then l++ [(ae (ae n.aa i2).ah i4).to]else(bif (ae w0.2<|((ae (ae n.aa i2).ah i4).n).toNat)then l++ [(ae (ae n.aa i2).ah i4).to]else l))else l)
end
end
abbrev zO(i2 i4:Nat)(n:Net):Am.Loc:=[(0,.pf (bA n)),(3,.sr 0 1 0 (length<|zH n)),(4,B false),(5,.sr 1 1 0 (length<|zA n)),(6,I (i2:Int)),(28,.sl 2 (zA n)),(29,I (length (zA n):Int)),(30,I (i2:Int)),(36,.sl 10 (zCE i2 n)),(37,I (length (zCE i2 n):Int)),(38,I ↑(i4+1))]
section
variable(i2 i4:Nat)(l:lXA)(n:Net)(w0:Bool×(lXB))(xs:List Value)
abbrev zCb:lXE:=[.row 4 1 (map aA w0.2),.row 105 1 (aI<|List.set (vs xs) i2<|.sr 2 1 0<|length<|l++ [(ae (zq i2 n) i4).to]),.row 3 1 (map ba<|l++ [(ae (zq i2 n) i4).to])]
abbrev zCc:lXE:=[.row 4 1 (map aA w0.2),.row 105 1 (aI<|List.set (vs xs) i2<|.sr 4 1 0<|length<|l++ [(ae (zq i2 n) i4).to]),.row 3 1 (map ba<|l++ [(ae (zq i2 n) i4).to])]
end
section
variable(n:Net)(w0:Bool×(lXB))(i2 i4:Nat)(xs:List Value)(l:lXA)
def rO:iq:=⟨(fw n w0 i2 i4 l)=(l++ [(ae (zq i2 n) i4).to]),.normal,(zO i2 i4 n),[0,1,4],5,(zCb i2 i4 l n w0 xs),(zCc i2 i4 l n w0 xs)⟩
def rP:iq:=⟨(fw n w0 i2 i4 l)=(l++ [(ae (zq i2 n) i4).to]),.normal,(zO i2 i4 n),[0,1,4],5,(zCb i2 i4 l n w0 xs),(zCc i2 i4 l n w0 xs)⟩
end
abbrev zAF(l:lXA):AV:=(.sr 2 1 0<|length l)
abbrev ze(i2:Nat)(l:lXA)(w0:Bool×(lXB))(xs:List Value):lXE:=[.row 4 1 (map aA w0.2),.row 105 1 (aI<|List.set (vs xs) i2<|zAF l),.row 3 1 (map ba l)]
section
variable(n:Net)(w0:Bool×(lXB))(i2 i4:Nat)(xs:List Value)(l:lXA)
def rQ:iq:=⟨(fw n w0 i2 i4 l)=l,.normal,(zO i2 i4 n),[0,1,2],4,(ze i2 l w0 xs),(ze i2 l w0 xs)⟩
def rR:iq:=⟨(fw n w0 i2 i4 l)=l,.normal,(zO i2 i4 n),[0,1,2],4,(ze i2 l w0 xs),(ze i2 l w0 xs)⟩
end
abbrev zAG(i2 i4:Nat)(n:Net):Am.Loc:=[(0,.pf (bA n)),(3,.sr 0 1 0 (length<|zH n)),(4,B false),(5,.sr 1 1 0 (length<|zA n)),(6,I (i2:Int)),(28,.sl 2 (zA n)),(29,I (length (zA n):Int)),(30,I (i2:Int)),(36,.sl 10 (zCE i2 n)),(37,I (length (zCE i2 n):Int)),(38,I (i4:Int))]
section
variable(n:Net)(w0:Bool×(lXB))
section
variable(i2 i4:Nat)(xs:List Value)(l:lXA)
def ad2(hn:cg n)(hf:ck n)(hw0:length w0.2=length n.rules)(hx2:i2<length n.aa)(hx4:i4<length (ae n.aa i2).ah)(hl1:length xs=(length n.aa))(hr1:length l<=i2*1000000+i4):vcC pg 100 base cU 3000 (kbL []) ND (en<|zAG i2 i4 n) (dZ<|ze i2 l w0 xs) 3 (TF [(rO n w0 i2 i4 xs l),(rP n w0 i2 i4 xs l),(rQ n w0 i2 i4 xs l),(rR n w0 i2 i4 xs l)]) (.r [.k,bT]<|.yes<|.r [.row (aQ<|ae (zq i2 n) i4),bT]<|.a (.a (.r (.k::bT::bT::bT::.k::bT::uFF 5 [bT,bT])<|.r [.at i2 0 [.sr 2 1 0 (length l)],.at i2 0 [.sr 2 1 0 (length l)],bT]<|.r (zj i4)<|.pick 0)<|.r (.k::bT::bT::bT::.k::uTT 5 [.bG (((ae (zq i2 n) i4).n).toNat) [],bT,.at (((ae (zq i2 n) i4).n).toNat) 0 (aA<|ae w0.2<|((ae (zq i2 n) i4).n).toNat),bT,bT])<|.br (.r [.at i2 0 [.sr 2 1 0 (length l)],.at i2 0 [.sr 2 1 0 (length l)],bT]<|.r (zj i4)<|.pick 1)<|.r (zj i4)<|.pick 2)<|.r zBD<|.r (zj i4)<|.pick 3):=
 have hr:=hf.rules;have hs:=hf.aa;have lms:=aL aq n.aa;have hed:=hf.ah _ (aw hx2);have hca:=hn.call _ (aw hx2) _ (aw hx4);have hlr:length w0.2=length n.rules:=hw0;have l1:=aL aQ ((ae n.aa i2).ah);have hb:(decide<|(i4:Int)<(length (map aQ (ae n.aa i2).ah):Int))=true:=afT oaa;
 bB (an (a1 a0)<|an hb<|an (ac (rwa aQ (ae n.aa i2).ah i4) a0)<|aO (λ(h1:((ae (ae n.aa i2).ah i4).op !=1)=true)=>have g1:=F4 h1;
 (aO (λ(h2:((ae (ae n.aa i2).ah i4).op !=2)=true)=>have g2:=F4 h2;
 (an (aN 5<|ac (n2 h2)<|aN 4<|ac h1<|a1 a0)<|an (ac (stN (rfl:(aI<|List.set (vs xs) i2<|zAF l)=(aI<|List.set (vs xs) i2<|zAF l)) oaa)<|ac (ixL (z:=i2) (n:=length<|map aq n.aa) oaa)<|ac (apo (length l) 8<|rl ba l)<|ac (atN (rfl:(aI<|List.set (vs xs) i2<|zAF l)=(aI<|List.set (vs xs) i2<|zAF l)) oaa)<|ac (ixL (z:=i2) (n:=length<|map aq n.aa) oaa) a0)<|an (ac (dwo ((i4+1:Nat):Int)) a0)<|lfN (rO n w0 i2 i4 xs l) (show(fw n w0 i2 i4 l)=(l++ [(ae (ae n.aa i2).ah i4).to])from(cdT h1<|cdT h2 rfl))<|aW (rfl:(.row 4 1 (map aA w0.2):Ob)= .row 4 1 (map aA w0.2))<|aW ((af1 (λz=>Ob.row 105 1 z)<|oW (rfl:(aI<|List.set (vs xs) i2<|zAF l)=(aI<|List.set (vs xs) i2<|zAF l))<|.sr 4 1 0<|length l+1).trans<|af1 (λz=>Ob.row 105 1<|aI<|List.set (vs xs) i2<|.sr 4 1 0 z) oaj)<|aW (af1 (λz=>Ob.row 3 1 z)<|apF (f:=ba) (rl ba l) (k:=length l) oad (ae (ae n.aa i2).ah i4).to) ee))<|λh2=>have g2:=fY h2;
 (have l2:=aL aC (n.rules);an (a1<|ac (ato 1 0 (((ae (ae n.aa i2).ah i4).n).toNat)<|rl aA w0.2)<|a1<|ac (ixz (ae (ae n.aa i2).ah i4).n<|length<|map aC n.rules)<|aN 3<|ac (au h2)<|aN 4<|ac h1<|a1 a0)<|brP (λ(h3:((ae w0.2<|((ae (ae n.aa i2).ah i4).n).toNat))=true)=>(an (ac (stN (rfl:(aI<|List.set (vs xs) i2<|zAF l)=(aI<|List.set (vs xs) i2<|zAF l)) oaa)<|ac (ixL (z:=i2) (n:=length<|map aq n.aa) oaa)<|ac (apo (length l) 8<|rl ba l)<|ac (atN (rfl:(aI<|List.set (vs xs) i2<|zAF l)=(aI<|List.set (vs xs) i2<|zAF l)) oaa)<|ac (ixL (z:=i2) (n:=length<|map aq n.aa) oaa) a0)<|an (ac (dwo ((i4+1:Nat):Int)) a0)<|lfN (rP n w0 i2 i4 xs l) (show(fw n w0 i2 i4 l)=(l++ [(ae (ae n.aa i2).ah i4).to])from(cdT h1<|cdF h2<|cdT h3 rfl))<|aW (rfl:(.row 4 1 (map aA w0.2):Ob)= .row 4 1 (map aA w0.2))<|aW ((af1 (λz=>Ob.row 105 1 z)<|oW (rfl:(aI<|List.set (vs xs) i2<|zAF l)=(aI<|List.set (vs xs) i2<|zAF l))<|.sr 4 1 0<|length l+1).trans<|af1 (λz=>Ob.row 105 1<|aI<|List.set (vs xs) i2<|.sr 4 1 0 z) oaj)<|aW (af1 (λz=>Ob.row 3 1 z)<|apF (f:=ba) (rl ba l) (k:=length l) oad (ae (ae n.aa i2).ah i4).to) ee))<|λh3=>
 (an (ac (dwo ((i4+1:Nat):Int)) a0)<|lfN (rQ n w0 i2 i4 xs l) (show(fw n w0 i2 i4 l)=l from(cdT h1<|cdF h2<|cdF h3 rfl))<|aW (rfl:(.row 4 1 (map aA w0.2):Ob)= .row 4 1 (map aA w0.2))<|aW (rfl:(.row 105 1 (aI<|List.set (vs xs) i2<|zAF l):Ob)= .row 105 1 (aI<|List.set (vs xs) i2<|zAF l))<|aW (rfl:(.row 3 1 (map ba l):Ob)= .row 3 1 (map ba l)) ee))))<|λh1=>have g1:=fY h1;
 (an (aN 9<|ac (au h1)<|a1 a0)<|an (ac (dwo ((i4+1:Nat):Int)) a0)<|lfN (rR n w0 i2 i4 xs l) (show(fw n w0 i2 i4 l)=l from(cdF h1 rfl))<|aW (rfl:(.row 4 1 (map aA w0.2):Ob)= .row 4 1 (map aA w0.2))<|aW (rfl:(.row 105 1 (aI<|List.set (vs xs) i2<|zAF l):Ob)= .row 105 1 (aI<|List.set (vs xs) i2<|zAF l))<|aW (rfl:(.row 3 1 (map ba l):Ob)= .row 3 1 (map ba l)) ee))
 oab
theorem ad3(hn:cg n)(hf:ck n)(hw0:length w0.2=length n.rules)(hx2:i2<length n.aa)(hx4:i4<length (ae n.aa i2).ah)(hl1:length xs=(length n.aa))(hr1:length l<=i2*1000000+i4):bo pg 100 2 ND (zAG i2 i4 n) (ze i2 l w0 xs) .normal (zO i2 i4 n) [.row 4 1 (map aA w0.2),.row 105 1 (aI<|List.set (vs xs) i2<|.sr 2 1 0<|length<|fw n w0 i2 i4 l),.row 3 1 (map ba<|fw n w0 i2 i4 l)]:=Ju (gp aE mixed<|bq _) (ad2 n w0 i2 i4 xs l hn hf hw0 hx2 hx4 hl1 hr1) (eP (o:=(rO n w0 i2 i4 xs l)) (nS rfl rfl rfl (by simp[rO,plS,AV.pure,aj,ak])<|aW ((cv oaj).symm)<|aW ((ff (f:=(bM [0,1,4] 5)) (o:=2) (q:=4) rfl).symm)<|aW ((cv<|gv _).symm) ee)<|eP (o:=(rP n w0 i2 i4 xs l)) (nS rfl rfl rfl (by simp[rP,plS,AV.pure,aj,ak])<|aW ((cv oaj).symm)<|aW ((ff (f:=(bM [0,1,4] 5)) (o:=2) (q:=4) rfl).symm)<|aW ((cv<|gv _).symm) ee)<|eP (o:=(rQ n w0 i2 i4 xs l)) (nS rfl rfl rfl (by simp[rQ,plS,AV.pure,aj,ak])<|aW ((cv oaj).symm)<|aW ((ff (f:=(bM [0,1,2] 4)) (o:=2) (q:=2) rfl).symm)<|aW ((cv<|gv _).symm) ee)<|eP (o:=(rR n w0 i2 i4 xs l)) (nS rfl rfl rfl (by simp[rR,plS,AV.pure,aj,ak])<|aW ((cv oaj).symm)<|aW ((ff (f:=(bM [0,1,2] 4)) (o:=2) (q:=2) rfl).symm)<|aW ((cv<|gv _).symm) ee) s5) (fE (o:=(rO n w0 i2 i4 xs l)) (λh=>⟨rfl,rfl,(af1 (λz1=>([.row 4 1 (map aA w0.2),.row 105 1 (aI<|List.set (vs xs) i2<|.sr 2 1 0<|length z1),.row 3 1 (map ba z1)]:lXE)) h).symm⟩)<|fE (o:=(rP n w0 i2 i4 xs l)) (λh=>⟨rfl,rfl,(af1 (λz1=>([.row 4 1 (map aA w0.2),.row 105 1 (aI<|List.set (vs xs) i2<|.sr 2 1 0<|length z1),.row 3 1 (map ba z1)]:lXE)) h).symm⟩)<|fE (o:=(rQ n w0 i2 i4 xs l)) (λh=>⟨rfl,rfl,(af1 (λz1=>([.row 4 1 (map aA w0.2),.row 105 1 (aI<|List.set (vs xs) i2<|.sr 2 1 0<|length z1),.row 3 1 (map ba z1)]:lXE)) h).symm⟩)<|fE (o:=(rR n w0 i2 i4 xs l)) (λh=>⟨rfl,rfl,(af1 (λz1=>([.row 4 1 (map aA w0.2),.row 105 1 (aI<|List.set (vs xs) i2<|.sr 2 1 0<|length z1),.row 3 1 (map ba z1)]:lXE)) h).symm⟩) xw)
end
def Kv:KB:=⟨[(0,.pf (bA n)),(3,.sr 0 1 0 (length<|zH n)),(4,B false),(5,.sr 1 1 0 (length<|zA n)),(28,.sl 2 (zA n)),(29,I (length (zA n):Int)),(30,I 0)],[.row 4 1 (map aA w0.2),.row 105 1 (replicate (length<|zA n) [.v (.slice none 0 0)])],false,.ret,[],[],.normal,[(0,.pf (bA n)),(3,.sr 0 1 0 (length<|zH n)),(4,B false),(5,.sl 1 (map bJ<|gA (okT w0.2) n))],(zBJ w0),True⟩
theorem tp(i2 i4:Nat)(l:lXA):fw n w0 i2 i4 l=l++tgT w0.2 (ae (ae n.aa i2).ah i4):=by grind[fw,tgT,okT,ae,aF]
theorem XN(hn:cg n)(hf:ck n)(hw0:length w0.2=length n.rules):cx pg 100 0 2 (.loop jJ) (Kv n w0):=by
 skip;have hl:=pZ (P:=Tryz.prog) (n:=100) (K:=0) (d:=3) (S:=λG=>(zBJ w0)++cE 1 105 3 (gV G)) (m:=length n.aa) (len:=λi2=>length (ae n.aa i2).ah) (step:=λi2 i4 G=>List.set G i2<|fw n w0 i2 i4<|ae G i2) (I:=λi k G=>G.length=length n.aa/\ ∀l∈G,l.length<=i*1000000+k) (s0:=replicate (length<|map aq n.aa) [])
  (λi2 hx ob=>adU n w0 i2 hn hf hw0 hx ob) (λi2 hx ob=>adV n w0 i2 hn hf hw0 hx ob) (λi2 hx ob=>adW n w0 i2 hn hf hw0 hx ob) (λi2 hx ob=>adX n w0 i2 hn hf hw0 hx ob)
  (λi2 i4 G hx2 hx4 hI=>⟨pin1 (base:=(zBJ w0)) (by rw[hI.1];exact hx2) oab rfl (mqc (aT _ _ oag)<|mqc rfl<|mqc (aT _ _ oag)<|mqc rfl<|mqc (aT _ _ oag)<|mqc (aT _ _ oag)<|mqc (aT _ _ oag)<|mqc (aT _ _ oag)<|mqc (aT _ _ oag)<|mqc (aT _ _ oag)<|mqc (aT _ _ oag) bz) (mqc (aT _ _ oag)<|mqc rfl<|mqc (aT _ _ oag)<|mqc rfl<|mqc (aT _ _ oag)<|mqc (aT _ _ oag)<|mqc (aT _ _ oag)<|mqc (aT _ _ oag)<|mqc (aT _ _ oag)<|mqc (aT _ _ oag)<|mqc (aT _ _ oag) bz) oaH (mqc oaj bz) (λxs hxs=>ad3 n w0 i2 i4 xs (ae G i2) hn hf hw0 hx2 hx4 (hxs.trans hI.1)<|hI.2 _<|aw<|by rw[hI.1];exact hx2),vu hI oaa (by have hgl:=(show(fw n w0 i2 i4<|ae G i2).length<=(ae G i2).length+1 by rw[tp];exact abg _ _ _);have hgm:=hI.2 _ (aw (i:=i2)<|by rw[hI.1];exact hx2);omega)⟩)
  (λi2 hx ob=>adY n w0 i2 hn hf hw0 hx ob) (λi2 hx ob=>adZ n w0 i2 hn hf hw0 hx ob) (λob=>ad0 n w0 hn hf hw0 ob) (λob=>ad1 n w0 hn hf hw0 ob)
  ⟨by simp,vv _⟩ (λi G hi hI=>⟨hI.1,λl hl=>agu (hI.2 l hl) oaX⟩)
 rw[<-XM]at hl;have hG:aI (jI<|gV<|im (λi2 i4 G=>List.set G i2<|fw n w0 i2 i4<|ae G i2) (λi2=>length (ae n.aa i2).ah) (replicate (length<|map aq n.aa) [])<|length n.aa)=map bJ (gA (okT w0.2) n):=by rw[aL,yb (tg:=λi k=>tgT w0.2<|ae (ae n.aa i).ah k) (λi k G _ _=>by rw[tp]) _ (afP _),Nat.sub_self,List.replicate_zero,agA,rN];exact adS hn.to _
 have hlen:length (im (λi2 i4 G=>List.set G i2<|fw n w0 i2 i4<|ae G i2) (λi2=>length (ae n.aa i2).ah) (replicate (length<|map aq n.aa) [])<|length n.aa)=length (map aq n.aa):=by rw[aL,yb (tg:=λi k=>tgT w0.2<|ae (ae n.aa i).ah k) (λi k G _ _=>by rw[tp]) _ (afP _)];simp
 exact Ck (base:=(zBJ w0)) hl oaH hG (mqc (.inl ⟨rfl,(aT _ _ oag)⟩)<|mqc (.inl ⟨rfl,rfl⟩)<|mqc (.inl ⟨rfl,(aT _ _ oag)⟩)<|mqc (.inr ⟨by rw[hlen];rfl,rfl⟩) bz)
end
def acJ:Code:=bD 6 GY
section
variable(n:Net)
def yc(w0:Bool×(lXB))(i6:Nat)(y6:Bool×(lXB)):Bool×(lXB):=(bif !(ae y6.2 i6)then(bif (aF (mc n w0.2 (ae n.rules i6).start) (ae n.rules i6).stop)then(true,List.set y6.2 i6 true)else(y6.1,y6.2))else(y6.1,y6.2))
def cQ(w0:Bool×(lXB))(kk:Nat):Bool×(lXB):=Nat.rec (motive:=λ_=>Bool×(lXB)) (false,w0.2) (λj a=>yc n w0 j a) kk
theorem XO(w:Bool×(lXB))(i:Nat):length (cQ n w i).2=length w.2:=by
 induction i with
 |zero=>rfl
 |succ i ih=>grind[yc,cQ]
theorem low24(w:Bool×(lXB))(hw:length w.2=length n.rules)(i:Nat)(hi:i<=n.rules.length):cf (cQ n w i).2+(bif (cQ n w i).1 then 1 else 0)<=cf w.2:=by
 induction i with
 |zero=>exact afP _
 |succ i ih=>grind[XO,yc,cQ,xQ]
abbrev tt(w0:Bool×(lXB))(i6:Nat)(y6:Bool×(lXB)):Am.Loc:=[(0,.pf (bA n)),(3,.sr 0 1 0 (length<|zH n)),(4,B y6.1),(5,.sl 1 (map bJ<|gA (okT w0.2) n)),(73,.sl 9 (zH n)),(74,I (length (zH n):Int)),(75,I (i6:Int))]
end
abbrev tw(n:Net)(w0:Bool×(lXB))(i6:Nat)(y6:Bool×(lXB)):lXE:=[.row 4 1 (map aA y6.2)]
section
variable(n:Net)(w0:Bool×(lXB))
abbrev XP(i6:Nat):Am.Loc:=tt n w0 i6 (cQ n w0 i6)
abbrev XQ(i6:Nat):lXE:=tw n w0 i6 (cQ n w0 i6)
abbrev zCF:=(cQ n w0<|length n.rules)
abbrev XR:Am.Loc:=[(0,.pf (bA n)),(3,.sr 0 1 0 (length<|zH n)),(4,B ((zCF n w0).1))]
abbrev XS:lXE:=[.row 4 1 (map aA<|(zCF n w0).2)]
def Kw:KB:=noK 6 (XP n w0) (XQ n w0) (.exit 6) (XR n w0) (XS n w0) (True)
abbrev NF(i6:Nat):List bf:=[nxW (false) (XP n w0<|i6+1) (XQ n w0<|i6+1) (tt n w0 (i6+1) (true,List.set ((cQ n w0 i6).2) i6 true)) zAc (tw n w0 (i6+1) (true,List.set ((cQ n w0 i6).2) i6 true)),nxW (false) (XP n w0<|i6+1) (XQ n w0<|i6+1) (tt n w0 (i6+1) ((cQ n w0 i6).1,(cQ n w0 i6).2)) zAc (tw n w0 (i6+1) ((cQ n w0 i6).1,(cQ n w0 i6).2))]
theorem XT(hn:cg n)(hf:ck n)(hw0:length w0.2=length n.rules):cx pg 100 0 6 (.loop acJ) (Kw n w0):=
 noB (NF n w0) (λi6=>(.r [.k,bT]<|.yes<|.r [.row (aC<|ae n.rules i6),bT]<|.a (.r (.at i6 0 (aA<|ae ((cQ n w0 i6).2) i6)::uTT 4 [.int 0,bT,bT,bT,.bG ((ae n.rules i6).stop).toNat (aA<|aF (mc n w0.2 (ae n.rules i6).start) (ae n.rules i6).stop),bT,bT])<|.br (.r [.at i6 0 (aA<|ae ((cQ n w0 i6).2) i6),bT]<|.r (zAy i6)<|.pick 0)<|.r (zAy i6)<|.pick 1)<|.r (.at i6 0 (aA<|ae ((cQ n w0 i6).2) i6)::uFF 8 [bT])<|.r (zAy i6)<|.pick 1)) (range 1) zE (length n.rules)
 (λ_ i6(hx6:i6<(length n.rules))=>have hr:=hf.rules;have hs:=hf.aa;have hl:length (cQ n w0 i6).2=length n.rules:=(XO n w0 i6).trans hw0;have hs:=hn.start _ (aw hx6);have ht:=hn.stop _ (aw hx6);have hrl:=RM n w0.2 (ae n.rules i6).start;have l1:=aL aC (n.rules);have hb:(decide<|(i6:Int)<(length (map aC n.rules):Int))=true:=afT oaa;
 bB (an (a1 a0)<|an hb<|an (ac (rwa aC n.rules i6) a0)<|aO (λ(h1:(!(ae ((cQ n w0 i6).2) i6))=true)=>(have l2:=aL aA ((mc n w0.2 (ae n.rules i6).start));an (a1<|ac (rwz aA (mc n w0.2 (ae n.rules i6).start) (ae n.rules i6).stop)<|aN 3<|cA (g59 n w0.2 (ae n.rules i6).start) ⟨hn,hf,by omega⟩<|aN 3<|ac h1<|ac (ato 1 0 i6<|rl aA<|(cQ n w0 i6).2)<|ac (ixo i6<|length<|map aC n.rules) a0)<|brP (λ(h2:((aF (mc n w0.2 (ae n.rules i6).start) (ae n.rules i6).stop))=true)=>(an (ac (sto 1 0 1 i6<|rl aA<|(cQ n w0 i6).2)<|ac (ixo i6<|length<|map aC n.rules) a0)<|an (ac (dwo ((i6+1:Nat):Int)) a0)<|lfE (wy (NF n w0 i6) 0) 2 (nxP (tt n w0<|i6+1) (tw n w0<|i6+1) rfl<|show cQ n w0 (i6+1)=_ from(cdT h1<|cdT h2 rfl))<|aW (af1 (λz=>Ob.row 4 1 z)<|l6 (f:=aA) (rl aA<|(cQ n w0 i6).2) i6 true) ee))<|λh2=>
 (an (ac (dwo ((i6+1:Nat):Int)) a0)<|lf (wy (NF n w0 i6) 1) 2<|nxP (tt n w0<|i6+1) (tw n w0<|i6+1) rfl<|show cQ n w0 (i6+1)=_ from(cdT h1<|cdF h2 rfl))))<|λh1=>(an (aN 7<|ac (au h1)<|ac (ato 1 0 i6<|rl aA<|(cQ n w0 i6).2)<|ac (ixo i6<|length<|map aC n.rules) a0)<|an (ac (dwo ((i6+1:Nat):Int)) a0)<|lf (wy (NF n w0 i6) 1) 2<|nxP (tt n w0<|i6+1) (tw n w0<|i6+1) rfl<|show cQ n w0 (i6+1)=_ from(cdF h1 rfl)))
 oab)
 (λ_=>have hr:=hf.rules;have hs:=hf.aa;have l1:=aL aC (n.rules);have hb:(zP n)=false:=afU oaa;
 bB (an (a1 a0)<|an hb<|lx (.exit 6) (XR n w0) (range 1) (XS n w0) 1)
 oab) (hc:=λ_ i6 hx6=>(bn (.cons (g59 n w0.2 (ae n.rules i6).start) rfl cy.nil) aE))
def qj:Bool×(lXB):=((cQ n w0<|length n.rules).1,(cQ n w0<|length n.rules).2)
end
def eA(n:Net)(kk:Nat):Bool×(lXB):=Nat.rec (motive:=λ_=>Bool×(lXB)) (true,replicate (length<|map aC n.rules) false) (λ_ a=>qj n a) kk
def ng(n:Net)(w0:Bool×(lXB)):Bool:=(!w0.1)
def od(n:Net):Bool×(lXB):=eA n (eB (ng n)<|eA n)
theorem Cm(n:Net): ∀k,length (eA n k).2=length n.rules
 |0=>by show length (replicate _ false)=_;simp
 |k+1=>by show length (qj n<|eA n k).2=_;unfold qj;rw[XO,Cm n k]
def XU(n:Net):(∃k,ng n (eA n k)=true)/\ ∀k,k<=eB (ng n) (eA n)->length (eA n k).2=length n.rules:=by
 refine⟨?_,λk _=>Cm n k⟩;by_cases h: ∃k,ng n (eA n k)=true
 ·exact h
 ·have h: ∀k,(eA n k).1=true:=(by grind[ng]);have key: ∀k,cf (eA n k).2+k<=cf (eA n 0).2:=λk=>by
   induction k with
   |zero=>exact afP _
   |succ k ih=>have h1:=low24 n (eA n k) (Cm n k) n.rules.length (afP _);have h2:(cQ n (eA n k) n.rules.length).1=true:=h (k+1);have h3:(eA n<|k+1).2=(cQ n (eA n k) n.rules.length).2:=rfl;grind
  have:=key (cf (eA n 0).2+1);omega
abbrev NG(n:Net)(w0:Bool×(lXB)):Am.Loc:=[(0,.pf (bA n)),(3,.sr 0 1 0 (length<|zH n)),(4,B w0.1)]
abbrev XV(n:Net)(w0:Bool×(lXB)):Am.Loc:=[(3,.sr 0 1 0 (length<|zH n))]
abbrev NH(n:Net)(w0:Bool×(lXB)):lXE:=(zBJ w0)
abbrev XW(n:Net)(w0:Bool×(lXB)):lXE:=(zBJ w0)
def yd(n:Net):KB:=whK 0 (ng n) (λ_=>false) (eA n) (NG n) (NH n) .ret (λ_=>[]) (λ_=>[]) (.exit 0) (XV n) (XW n) (λw0=>length w0.2=length n.rules)
abbrev XX(n:Net)(w0:Bool×(lXB)):List bf:=[nxW (ng n w0) (NG n<|qj n w0) (NH n<|qj n w0) (NG n ((zCF n w0).1,(zCF n w0).2)) zAc (NH n ((zCF n w0).1,(zCF n w0).2)),wxW (ng n w0) false (.exit 0) (XV n w0) zAc (XW n w0)]
def Ey:di [2,6] GY=[(2,.loop jJ),(6,.loop acJ)]:=by kernel_rfl
def XY(n:Net)(hn:cg n)(hf:ck n):cx pg 100 0 0 (.loop GY) (yd n):=
 have hr:=hf.rules;have hs:=hf.aa;whB (XX n) (λw0=>(.r [bT]<|.br (.r [bT]<|.r [bT]<|.r [bT]<|.no zCw)<|.pick 1)) (qj n) 1 (λw0(hw0:length w0.2=length n.rules)=>have hr:=hf.rules;have hs:=hf.aa;bB (an a0<|brP (λ(h0:(w0.1)=true)=>(an a0<|have l1:=aL aq (n.aa);an (ac (mko (length<|map aq n.aa) 24) a0)<|an a0<|an (kbT (Kv n w0) trivial)<|an (rfl:false=false)<|an a0<|an (kbT (Kw n w0) trivial)<|an (rfl:false=false)<|lf (wy (XX n w0) 0) 1<|nxP (NG n) (NH n) (show ng n w0=false from(cI h0))<|show(qj n w0)=((cQ n w0<|length n.rules).1,(cQ n w0<|length n.rules).2)from rfl))<|λh0=>(lf (wy (XX n w0) 1) 1 ⟨show ng n w0=true from(au h0),rfl⟩))
 oab) (hk:=λw0 hw0=>(bw (l:=[(2,Kv n w0),(6,Kw n w0)]) Ey (aK (XN n w0 hn hf hw0) rfl<|aK (XT n w0 hn hf hw0) rfl aU) rfl))
def r24(n:Net):lXB:=(od n).2
def uW:di [0] (aG 49)=[(0,.loop GY)]:=by kernel_rfl
abbrev zx(n:Net):=(map aA<|r24 n)
def Be(n:Net)(hn:cg n)(hf:ck n):aY pg 49 [.pf (bA n)] [] [] (.sr 0 1 0<|length<|zH n) [.row 4 1 (zx n)]:=have hr:=hf.rules;have hs:=hf.aa;Mn (fn:=Tryz.f49) (callf:=base) (pu:=cU) (lf:=3000) (l:=[(0,yd n)]) (t:=zBR) aE mixed Tryz.func49 oab (show Tryz.f49.body=some (aG 49) by kernel_rfl) (nbl rfl) (bw (l:=[(0,yd n)]) uW (aK (XY n hn hf) rfl aU) rfl) rfl oaH (bB (an a0<|have l1:=aL aC (n.rules);an (ac (mko (length<|map aC n.rules) 1) a0)<|an a0<|an (F5 (yd n) (S:=nm<|KB.L0<|yd n) rfl (aW (af1 (λz=>Ob.row 4 1 z)<|Rc (f:=aA) (length<|map aC n.rules) false) ee)<|XU n)<|an (rfl:false=false)<|an a0<|roE (k:=length<|map aC n.rules) (rfl:(.row 4 1 (map aA<|(od n).2):Ob)= .row 4 1 (map aA<|(od n).2))<|show r24 n=((od n).2)from rfl) oab)
end Go.Proofs.YtfkjfjalecikkaaGreat
end
