/- Graphs: which nodes are come to from one. graph.from. graph.from: the nodes come to from one, by a step at least. ref11.reach: the states that are come to from one. ref11.reach: its loops, the function. Which rules may take nothing (the document's answer). Rings of free edges (the document's answer). Rings of calls (the document's answer). Which nets may be (the document's answer). Graphs in memory. Which rules may take nothing. -/
import Derived.Test.YtfkjfjalecikkaaGreatDoorDE
noncomputable section
open List (length map range replicate)
set_option maxRecDepth 100000
namespace Go.Proofs.YtfkjfjalecikkaaGreatDoor
open Go.Am
def Edg (g:List (List Nat)) (i k:Nat):Prop:=k∈ae g i
inductive Rp (g:List (List Nat)):Nat->Nat->Prop
 |one {i k:Nat} (h:Edg g i k):Rp g i k
 |step {i j k:Nat} (h:Rp g i j) (e:Edg g j k):Rp g i k
theorem Rp.trans {g:List (List Nat)} {i j k:Nat} (h:Rp g i j) (e:Rp g j k):Rp g i k:=by
 induction e with
 |one e=>exact .step h e
 |step _ e ih=>exact .step ih e
def Wf (g:List (List Nat)):Prop:= ∀R∈g,∀c∈R,c<g.length
theorem mU {g:List (List Nat)} (hw:Wf g) {i c:Nat} (h:Edg g i c):c<g.length:=by
 unfold Edg at h
 by_cases hi:i<g.length
 ·exact hw _ (ft hi) c h
 ·simp [ae,List.getElem?_eq_none (show g.length<=i by omega)] at h
  cases h
abbrev St:=List Bool×List Nat
def mark (x:St) (c:Nat):St:=bif ae x.1 c then x else (x.1.set c true,x.2++ [c])
def marks (x:St) (R:List Nat):St:=R.foldl mark x
def cf (l:List Bool):Nat:=l.count false
theorem kM {l:List Bool} {c:Nat}:ae l c=true↔l[c]? =some true:=by
 unfold ae
 cases h:l[c]? with
 |none=>simp_all
 |some b=>simp
theorem Ap {l:List Bool} {c:Nat} (hc:c<l.length) (h:ae l c=false):cf (l.set c true)+1=cf l:=by
 grind [ae,cf]
theorem ID (x:St) (c:Nat):(mark x c).1.length=x.1.length:=by
 unfold mark
 cases ae x.1 c<;>simp
theorem tA (R:List Nat): ∀x:St,(marks x R).1.length=x.1.length:=by
 induction R with
 |nil=>intro x;rfl
 |cons c R ih=>grind [marks,ID]
structure Mk (x y:St) (R:List Nat):Prop where
 up: ∀k:Nat,x.1[k]? =some true->y.1[k]? =some true
 dn: ∀k:Nat,y.1[k]? =some true->x.1[k]? =some true\/(k∈R/\k∈y.2)
 sub: ∀c:Nat,c∈x.2->c∈y.2
 new: ∀c:Nat,c∈y.2->c∈x.2\/c∈R
 all: ∀c:Nat,c∈R->y.1[c]? =some true
 le:2*cf y.1+y.2.length<=2*cf x.1+x.2.length
theorem VT {x:St} {c:Nat} (hc:c<x.1.length):Mk x (mark x c) [c]:=by
 unfold mark
 cases h:ae x.1 c with
 |true=>
  have:=kM.1 h
  exact ⟨fun k hk=>hk,fun k hk=> .inl hk,fun c hc=>hc,fun c hc=> .inl hc,fun d hd=>by simp at hd;subst hd;exact this,Nat.le_refl _⟩
 |false=>
  have hcf:=Ap hc h
  refine ⟨fun k hk=> ?_,fun k hk=> ?_,fun d hd=> ?_,fun d hd=> ?_,fun d hd=> ?_,?_⟩
  ·grind
  ·grind
  ·simp_all
  ·simp_all
  ·simp at hd;subst hd;simp [hc]
  grind
theorem Mk.trans {x y z:St} {R S:List Nat} (h:Mk x y R) (k:Mk y z S):Mk x z (R++S):=by
 refine ⟨fun i hi=>k.up i (h.up i hi),fun i hi=> ?_,fun c hc=>k.sub c (h.sub c hc),fun c hc=> ?_,fun c hc=> ?_,Nat.le_trans k.le h.le⟩
 ·rcases k.dn i hi with h1|⟨h1,h2⟩
  ·rcases h.dn i h1 with h3|⟨h3,h4⟩
   ·exact .inl h3
   ·exact .inr ⟨List.mem_append_left _ h3,k.sub i h4⟩
  simp_all
 ·rcases k.new c hc with h1|h1
  ·rcases h.new c h1 with h2|h2
   ·exact .inl h2
   simp_all
  simp_all
 ·rcases List.mem_append.1 hc with h1|h1
  ·exact k.up c (h.all c h1)
  ·exact k.all c h1
theorem Aq: ∀(R:List Nat) (x:St),(∀c∈R,c<x.1.length)->Mk x (marks x R) R
 |[],x,_=>⟨fun k hk=>hk,fun k hk=> .inl hk,fun c hc=>hc,fun c hc=> .inl hc,fun d hd=>by simp at hd,Nat.le_refl _⟩
 |c::R,x,h=>by
  have h1:=VT (x:=x) (c:=c) (h c oai)
  have h2:=Aq R (mark x c) (by grind [ID])
  exact h1.trans h2
theorem KS (x:St) (R:List Nat) (j:Nat) (hj:j<R.length):marks x (R.take (j+1))=mark (marks x (R.take j)) (ae R j):=by
 grind [List.take_add_one,eM,marks]
structure FI (g:List (List Nat)) (i:Nat) (x:St):Prop where
 len:x.1.length=g.length
 todo: ∀c∈x.2,c<g.length
 snd: ∀k:Nat,x.1[k]? =some true->Rp g i k
 sndT: ∀c∈x.2,c=i\/Rp g i c
 cls: ∀k:Nat,(k=i\/x.1[k]? =some true)->k∈x.2\/ ∀c,Edg g k c->x.1[c]? =some true
 bd:2*cf x.1+x.2.length<=2*g.length+1
theorem VU {g:List (List Nat)} {i:Nat} (hi:i<g.length):FI g i (replicate g.length false,[i]):=by
 refine ⟨by simp,fun c hc=>by simp at hc;omega,fun k hk=> ?_,fun c hc=>by simp at hc;exact .inl hc,fun k hk=> ?_,?_⟩
 ·grind
 ·grind
 ·simp [cf,List.count_replicate]
theorem RZ {g:List (List Nat)} (hw:Wf g) {i v:Nat} {inb:List Bool} {t:List Nat} (h:FI g i (inb,t++ [v])):FI g i (marks (inb,t) (ae g v))/\2*cf (marks (inb,t) (ae g v)).1+(marks (inb,t) (ae g v)).2.length<2*cf inb+(t++ [v]).length:=by
 obtain ⟨h1,h2,h3,h4,h5,h6⟩:=h
 have hR: ∀c∈ae g v,c<inb.length:=fun c hc=>by rw [h1];exact mU hw hc
 have hm:=Aq (ae g v) (inb,t) hR
 have hv:=h4 v oai
 have hc: ∀c∈ae g v,Rp g i c:=fun c hc=>by
  rcases hv with rfl|hv
  ·exact .one hc
  ·exact .step hv hc
 have hlt:2*cf (marks (inb,t) (ae g v)).1+(marks (inb,t) (ae g v)).2.length<2*cf inb+(t++ [v]).length:=by
  grind [hm.le]
 refine ⟨⟨by rw [tA];exact h1,fun c hc' => ?_,fun k hk=> ?_,fun c hc' => ?_,fun k hk=> ?_,by simp only at h6;omega⟩,hlt⟩
 ·rcases hm.new c hc' with h|h
  ·simp_all
  ·exact mU hw h
 ·rcases hm.dn k hk with h|⟨h,_⟩
  ·exact h3 k h
  ·exact hc k h
 ·rcases hm.new c hc' with h|h
  ·simp_all
  ·exact .inr (hc c h)
 ·by_cases hkv:k=v
  ·subst hkv
   exact .inr fun c he=>hm.all c he
  ·have hk' :(k=i\/inb[k]? =some true)\/k∈(marks (inb,t) (ae g v)).2:=by
    rcases hk with hk|hk
    ·exact .inl (.inl hk)
    ·rcases hm.dn k hk with h|⟨_,h⟩
     ·exact .inl (.inr h)
     ·exact .inr h
   rcases hk' with hk' |hk'
   ·rcases h5 k hk' with h|h
    ·left
     simp only [List.mem_append,List.mem_singleton] at h
     rcases h with h|h
     ·exact hm.sub k h
     ·exact absurd h hkv
    ·exact .inr fun c he=>hm.up c (h c he)
   ·exact .inl hk'
noncomputable def jw (g:List (List Nat)) (i:Nat):List Bool:=(range g.length).map fun k=>dec (Rp g i k)
theorem YW {g:List (List Nat)} (hw:Wf g) {i:Nat} {inb:List Bool} (h:FI g i (inb,[])):inb=jw g i:=by
 obtain ⟨h1,h2,h3,h4,h5,h6⟩:=h
 have hcl: ∀k,(k=i\/inb[k]? =some true)-> ∀c,Edg g k c->inb[c]? =some true:=oaw
 have hall: ∀k,Rp g i k->inb[k]? =some true:=by
  intro k hk
  induction hk with
  |one e=>exact hcl _ (.inl rfl) _ e
  |step _ e ih=>exact hcl _ (.inr ih) _ e
 apply List.ext_getElem?
 intro k
 unfold jw
 rw [List.getElem?_map]
 by_cases hk:k<g.length
 ·rw [List.getElem?_range hk]
  simp only [Option.map_some]
  have hki:k<inb.length:=by simp only at h1;omega
  rw [List.getElem?_eq_getElem hki]
  congr 1
  grind [aP]
 simp_all
theorem Du {g:List (List Nat)} {i k:Nat} (hk:k<g.length):ae (jw g i) k=dec (Rp g i k):=by
 simp [ae,jw,hk]
section
variable {P:Program} {n K:Nat}
theorem KT {a b:Code} {L L1:Am.Loc} {ob ob1:List Ob} {id:Nat} (h:Piece P n K a L ob (.exit id) L1 ob1):Piece P n K (.seq a b) L ob (.exit id) L1 ob1:=lD h (fun e=>by cases e)
end
def cH (c:Nat):List AV:=[I (c:Nat)]
def aA (b:Bool):List AV:=[B b]
def bn (R:List Nat):List AV:=[.sl 1 (R.map cH)]
theorem Dv (c:Nat):ah (cH c)=true:=rfl
theorem bR (c:Bool):ah (aA c)=true:=rfl
theorem Dw (R:List Nat):ah (bn R)=true:=by simp [bn,ah,AV.pure,aY Dv]
theorem Ar (f:Nat->Nat) (l:List Nat):dc f (l.map cH)=l.map cH:=eR _ _ (aY Dv l)
theorem tB (f:Nat->Nat) (l:List Bool):dc f (l.map aA)=l.map aA:=eR _ _ (aY bR l)
theorem As (f:Nat->Nat) (l:List (List Nat)):dc f (l.map bn)=l.map bn:=eR _ _ (aY Dw l)
theorem at1 {α:Type} [Inhabited α] (f:α->List AV) {l:List α} {j:Nat} (h:j<l.length):(dec ((0+j*1)/1=j)&&(dec ((0+j*1)%1=0)&&dec ((l.map f)[j]? =some (f (ae l j)))))=true:=by
 grind [qF,aP]
theorem IE {a:Bool} (h:a=true):(a&&true)=true:=by rw [h];rfl
theorem IF {a b:Nat} (h:a<b):Nat.blt a b=true:=Nat.ble_eq_true_of_le h
theorem uG {a b:Nat} (h:a<=b):Nat.ble a b=true:=Nat.ble_eq_true_of_le h
theorem appA {k m:Nat} (h:k<=m) (h2:k+1<=100000000):(Nat.ble k m&&true&&(Nat.ble ((k+1)*8) 140737488355328&&Nat.ble (k+1) 9223372036854775807&&true))=true:=by
 grind [uG]
theorem rJ (l:List Bool) (c:Nat) (b:Bool):(l.map aA).set c [B b]=(l.set c b).map aA:=by rw [List.map_set];rfl
theorem VV (t:List Nat) (c:Nat):(t.map cH).take t.length++ [[I (c:Nat)]]=(t++ [c]).map cH:=by grind [List.length_map,cH]
def OD:Code:=bP 0 (aH 59)
def OE:Code:=bP 2 (aH 59)
def b59:Code:=match P5 1 (aH 59) with
 |some c=>c
 |none=> .skip
theorem e59o:OD= .seq (sq1 OD) (.block 1 (.seq (sq1 b59) (.seq (sq1 (sq2 b59)) (.seq (sq1 (sq2 (sq2 b59))) (.block 2 (.loop OE)))))):=by kernel_rfl
def L59 (g:List (List Nat)) (n k:Nat):Am.Loc:=[(0,.sl 1 (g.map bn)),(5,.sr 0 1 0 n),(6,.sr 1 1 0 k)]
def O59 (x:St):List Ob:=[.row 4 1 (x.1.map aA),.row 3 1 (x.2.map cH)]
def OF (g:List (List Nat)) (n k v:Nat):Am.Loc:=[(0,.sl 1 (g.map bn)),(5,.sr 0 1 0 n),(6,.sr 1 1 0 k),(7,I (v:Nat))]
def Cl (g:List (List Nat)) (R:List Nat) (n k j:Nat):Am.Loc:=[(0,.sl 1 (g.map bn)),(5,.sr 0 1 0 n),(6,.sr 1 1 0 k),(32,.sl 1 (R.map cH)),(33,I ((R.map cH).length:Nat)),(34,I (j:Nat))]
theorem FH {f:Nat->Nat} (h0:f 0=0) {o:Nat} (h1:f 1=o) (g:List (List Nat)) (n k:Nat):l9 f (L59 g n k)=[some (.sl 1 (g.map bn)),some (.sr 0 1 0 n),some (.sr o 1 0 k)]:=by
 grind [l9,L59,AV.ren,As]
theorem MG {f:Nat->Nat} (h0:f 0=0) {o:Nat} (h1:f 1=o) (g:List (List Nat)) (n k v:Nat):l9 f (OF g n k v)=[some (.sl 1 (g.map bn)),some (.sr 0 1 0 n),some (.sr o 1 0 k),some (I (v:Nat))]:=by
 simp_all [l9,OF,AV.ren,As]
theorem FJ {f:Nat->Nat} (h0:f 0=0) {o:Nat} (h1:f 1=o) (g:List (List Nat)) (R:List Nat) (n k j:Nat):l9 f (Cl g R n k j)=[some (.sl 1 (g.map bn)),some (.sr 0 1 0 n),some (.sr o 1 0 k),some (.sl 1 (R.map cH)),some (I ((R.map cH).length:Nat)),some (I (j:Nat))]:=by
 grind [l9,Cl,AV.ren,As,Ar]
theorem uH {f:Nat->Nat} (x:St):n9 f [some (.row 4 1 (x.1.map aA)),some (.row 3 1 (x.2.map cH))] (O59 x):=
 ⟨by rw [Ob.ren,tB];exact .same _,by rw [Ob.ren,Ar];exact .same _,trivial⟩
abbrev rK (c:Code) (L:Am.Loc) (x:St) (gd:List Gi):RX:=runK Tryz.prog 52 base aK 3000 (kbL []) c (bz L) (bw (O59 x)) 2 ⟨2,gd,[]⟩
theorem in59 (g:List (List Nat)) (R:List Nat) (n j:Nat) (x:St) (hn:n=x.1.length) (hj:j<R.length) (hR:R.length<=9223372036854775807) (hc:ae R j<x.1.length) (hx:x.2.length<=10000000):
  Piece pg 52 0 OE (Cl g R n x.2.length j) (O59 x) .normal (Cl g R n (mark x (ae R j)).2.length (j+1)) (O59 (mark x (ae R j))):=by
 obtain ⟨inb,t⟩:=x
 subst hn
 simp only at hc hx⊢
 have h0:(decide ((j:Int)<(((R.map cH).length:Nat):Int)))=true:=decide_eq_true oao
 unfold mark
 rcases mC (ae inb (ae R j)) with hb|hb
 ·rw [hb]
  simp only [cond_true]
  refine eb (lo:=2) (de aw mixed (az _)) (sel:=[0,1]) (N' :=2) (show gJ [0,5,6,32,33,34] [0,1] (rK OE (Cl g R inb.length t.length j) (inb,t) [bT,bT,.row (cH (ae R j)),.at (ae R j) 0 (aA (ae inb (ae R j))),bF,.int ↑(j+1),bT])=some (.normal,[some (.sl 1 (g.map bn)),some (.sr 0 1 0 inb.length),some (.sr 1 1 0 t.length),some (.sl 1 (R.map cH)),some (I ((R.map cH).length:Nat)),some (I ↑(j+1))],[some (.row 4 1 (inb.map aA)),some (.row 3 1 (t.map cH))],2,_) by kernel_rfl)
   (ac (dwr (z:= ↑(j+1)) oab oab) (ac (n2 hb) (ac (at1 aA hc) (ac (IF hc) (ac (gM cH hj) (a1 (ac h0 a0))))))) rfl rfl rfl (FJ rfl rfl g R _ _ _) (uH (inb,t))
 ·rw [hb]
  simp only [cond_false]
  refine eb (lo:=2) (de aw mixed (az _)) (sel:=[0,2]) (N' :=3) (show gJ [0,5,6,32,33,34] [0,2] (rK OE (Cl g R inb.length t.length j) (inb,t) [bT,bT,.row (cH (ae R j)),.at (ae R j) 0 (aA (ae inb (ae R j))),bT,.at (ae R j) 0 (aA (ae inb (ae R j))),.int ↑(j+1),bT])=some (.normal,[some (.sl 1 (g.map bn)),some (.sr 0 1 0 inb.length),some (.sr 2 1 0 (t.length+1)),some (.sl 1 (R.map cH)),some (I ((R.map cH).length:Nat)),some (I ↑(j+1))],[some (.row 4 1 ((inb.map aA).set (ae R j) [B true])),some (.row 3 1 ((t.map cH).take t.length++ [[I ((ae R j:Nat):Int)]]))],3,_) by kernel_rfl)
   (ac (dwr (z:= ↑(j+1)) oab oab) (ac (appA (k:=t.length) (m:=(t.map cH).length) oai oab) (ac (IE (at1 aA hc)) (ac (IF hc) (ac (au hb) (ac (at1 aA hc) (ac (IF hc) (ac (gM cH hj) (a1 (ac h0 a0)))))))))) rfl rfl rfl ?_ ?_
  ·rw [List.length_append,List.length_singleton];exact FJ rfl rfl g R _ _ _
  ·rw [rJ,VV];exact uH (inb.set (ae R j) true,t++ [ae R j])
theorem VW (g:List (List Nat)) (R:List Nat) (n:Nat) (x:St) (hn:n=x.1.length) (hR:R.length<=9223372036854775807) (hc: ∀c∈R,c<x.1.length) (hb:2*cf x.1+x.2.length<=10000000):
  Piece pg 52 0 (.block 2 (.loop OE)) (Cl g R n x.2.length 0) (O59 x) .normal (L59 g n (marks x R).2.length) (O59 (marks x R)):=by
 refine gh (xr:= .exit 2) (fun j=>Cl g R n (marks x (R.take j)).2.length j) (fun j=>O59 (marks x (R.take j))) (fun j=>j<=R.length) (fun j=>R.length-j) 0 (Nat.zero_le _) (fun e=>by cases e) fun j hj=> ?_
 by_cases hjl:j<R.length
 ·left
  have hm:=Aq (R.take j) x fun c hc' =>hc c (List.mem_of_mem_take hc')
  have h:=in59 g R n j (marks x (R.take j)) (by rw [tA];exact hn) hjl hR (by rw [tA];exact hc _ (ft hjl)) (by have:=hm.le;omega)
  rw [<-KS x R j hjl] at h
  exact ⟨j+1,by omega,by omega,h⟩
 ·right
  obtain rfl:j=R.length:=by omega
  simp only [List.take_length]
  have h0:(decide (((R.length:Nat):Int)<(((R.map cH).length:Nat):Int)))=false:=decide_eq_false oao
  exact eb (lo:=2) (de aw mixed (az _)) (sel:=[0,1]) (N' :=2) (show gJ [0,5,6] [0,1] (rK OE (Cl g R n (marks x R).2.length R.length) (marks x R) [bF,bF,bT])=some (.exit 2,[some (.sl 1 (g.map bn)),some (.sr 0 1 0 n),some (.sr 1 1 0 (marks x R).2.length)],[some (.row 4 1 ((marks x R).1.map aA)),some (.row 3 1 ((marks x R).2.map cH))],2,_) by kernel_rfl)
   (a1 (ac (au h0) a0)) rfl rfl rfl (FH rfl rfl g _ _) (uH _)
theorem VX (g:List (List Nat)) (n:Nat) (inb:List Bool) (t:List Nat) (v:Nat) (hn:n=inb.length) (hv:v<g.length) (hR:(ae g v).length<=9223372036854775807) (hc: ∀c∈ae g v,c<inb.length) (hb:2*cf inb+t.length<=10000000):
  Piece pg 52 0 OD (L59 g n (t++ [v]).length) (O59 (inb,t++ [v])) .normal (L59 g n (marks (inb,t) (ae g v)).2.length) (O59 (marks (inb,t) (ae g v))):=by
 rw [e59o,List.length_append,List.length_singleton]
 have h0:(decide (((t.length+1:Nat):Int)>0))=true:=decide_eq_true oab
 have hw:(dec (IntKind.wrap IntKind.i64 ((t.length+1:Nat)-1:Int)=(t.length:Nat)))=true:=aP.2 (by rw [show ((t.length+1:Nat)-1:Int)=(t.length:Nat) by omega];exact wrap_i64 oab oab)
 have hg:ae (t++ [v]) t.length=v:=by simp [ae]
 have hat:=at1 cH (l:=t++ [v]) (j:=t.length) oai
 rw [hg] at hat
 refine dK (L1:=L59 g n (t.length+1)) (ob1:=O59 (inb,t++ [v])) ?_ (mz (dK (L1:=OF g n (t.length+1) v) (ob1:=O59 (inb,t++ [v])) ?_ (dK (L1:=OF g n t.length v) (ob1:=O59 (inb,t)) ?_ (dK (L1:=Cl g (ae g v) n t.length 0) (ob1:=O59 (inb,t)) ?_ (VW g (ae g v) n (inb,t) hn hR hc hb)))))
 ·exact eb (lo:=2) (de aw mixed (az _)) (sel:=[0,1]) (N' :=2) (show gJ [0,5,6] [0,1] (rK (sq1 OD) (L59 g n (t.length+1)) (inb,t++ [v]) [bT,bT,bT])=some (.normal,[some (.sl 1 (g.map bn)),some (.sr 0 1 0 n),some (.sr 1 1 0 (t.length+1))],[some (.row 4 1 (inb.map aA)),some (.row 3 1 ((t++ [v]).map cH))],2,_) by kernel_rfl)
   (a1 (ac h0 a0)) rfl rfl rfl (FH rfl rfl g _ _) (uH (inb,t++ [v]))
 ·exact eb (lo:=2) (de aw mixed (az _)) (sel:=[0,1]) (N' :=2) (show gJ [0,5,6,7] [0,1] (rK (sq1 b59) (L59 g n (t.length+1)) (inb,t++ [v]) [.int (t.length:Nat),.at t.length 0 (cH v),bT])=some (.normal,[some (.sl 1 (g.map bn)),some (.sr 0 1 0 n),some (.sr 1 1 0 (t.length+1)),some (I (v:Nat))],[some (.row 4 1 (inb.map aA)),some (.row 3 1 ((t++ [v]).map cH))],2,_) by kernel_rfl)
   (ac hat (ac (IF (Nat.lt_succ_self t.length)) (ac hw a0))) rfl rfl rfl (MG rfl rfl g _ _ _) (uH (inb,t++ [v]))
 ·refine eb (lo:=2) (de aw mixed (az _)) (sel:=[0,1]) (N' :=2) (show gJ [0,5,6,7] [0,1] (rK (sq1 (sq2 b59)) (OF g n (t.length+1) v) (inb,t++ [v]) [.int (t.length:Nat),bT])=some (.normal,[some (.sl 1 (g.map bn)),some (.sr 0 1 0 n),some (.sr 1 1 0 t.length),some (I (v:Nat))],[some (.row 4 1 (inb.map aA)),some (.row 3 1 ((t++ [v]).map cH))],2,_) by kernel_rfl)
   (ac (IE (uG (Nat.le_succ t.length))) (ac hw a0)) rfl rfl rfl (MG rfl rfl g _ _ _) ⟨by rw [Ob.ren,tB];exact .same _,?_,trivial⟩
  rw [Ob.ren,Ar]
  have:=Told.row (T:=3) (S:=1) (k:=t.length) (rows:=(t++ [v]).map cH) oai
  simp_all
 ·exact eb (lo:=2) (de aw mixed (az _)) (sel:=[0,1]) (N' :=2) (show gJ [0,5,6,32,33,34] [0,1] (rK (sq1 (sq2 (sq2 b59))) (OF g n t.length v) (inb,t) [.row (bn (ae g v)),bT])=some (.normal,[some (.sl 1 (g.map bn)),some (.sr 0 1 0 n),some (.sr 1 1 0 t.length),some (.sl 1 ((ae g v).map cH)),some (I (((ae g v).map cH).length:Nat)),some (I ((0:Nat):Int))],[some (.row 4 1 (inb.map aA)),some (.row 3 1 (t.map cH))],2,_) by kernel_rfl)
   (ac (gM bn hv) a0) rfl rfl rfl (FJ rfl rfl g _ _ _ _) (uH (inb,t))
theorem YX:Tryz.f59.body=some (PT [sq1 (aH 59),sq1 (sq2 (aH 59)),sq1 (sq2 (sq2 (aH 59)))] (.seq (.block 0 (.loop OD)) (sq2 (sq2 (sq2 (sq2 (aH 59))))))):=by kernel_rfl
theorem R0 (g:List (List Nat)) (i:Nat) (hi:i<g.length) (hw:Wf g) (hN:g.length<=1000000) (hR: ∀R∈g,R.length<=9223372036854775807):
  bg pg 59 [.sl 1 (g.map bn),I (i:Nat)] [] [] (.sl 1 ((jw g i).map aA)) []:=by
 refine lC (o:=0) (n:=g.length) (T:=4) (ob1:=[.row 4 1 ((jw g i).map aA)]) ?_ rfl (by simp [jw]) (aY bR _)
 refine jo (fn:=Tryz.f59) Tryz.func59 oaa YX (Nat.le_of_ble_eq_true rfl) (Nat.zero_le _) rfl oau ?_
 have hrep:(replicate (g.map bn).length [B false])=(replicate g.length false).map aA:=by simp [aA]
 refine HP aw mixed (L59 g g.length 1) (O59 (replicate g.length false,[i])) (sel:=[0,1]) (show gJ [0,5,6] [0,1] (HN Tryz.prog 52 base aK 3000 [sq1 (aH 59),sq1 (sq2 (aH 59)),sq1 (sq2 (sq2 (aH 59)))] (l8 0 [.sl 1 (g.map bn),I (i:Nat)] .e) .e 0 ⟨0,[bT],[]⟩)=some (.normal,[some (.sl 1 (g.map bn)),some (.sr 0 1 0 (g.map bn).length),some (.sr 1 1 0 1)],[some (.row 4 1 (replicate (g.map bn).length [B false])),some (.row 3 1 ([i].map cH))],2,_) by kernel_rfl)
  (ac (show (Nat.ble (g.map bn).length (g.map bn).length&&Nat.ble (1*(g.map bn).length) 281474976710656&&Nat.ble (g.map bn).length 9223372036854775807)=true by
   rw [uG (Nat.le_refl _),uG (show 1*(g.map bn).length<=281474976710656 by rw [List.length_map];omega),uG (show (g.map bn).length<=9223372036854775807 by rw [List.length_map];omega)];rfl) a0) rfl rfl ?_ ?_ ?_
 ·rw [List.length_map];exact FH rfl rfl g _ _
 ·rw [hrep];exact uH (replicate g.length false,[i])
 ·refine NI (L1:=L59 g g.length 0) (ob1:=O59 (jw g i,[])) (gh (xr:= .exit 0) (fun x:St=>L59 g g.length x.2.length) O59 (FI g i) (fun x=>2*cf x.1+x.2.length) (replicate g.length false,[i]) (VU hi) (fun e=>by cases e) fun x hx=> ?_) ?_
  ·obtain ⟨inb,todo⟩:=x
   rcases List.eq_nil_or_concat todo with rfl|⟨t,v,rfl⟩
   ·right
    rw [<-YW hw hx,e59o]
    refine KT ?_
    exact eb (lo:=2) (de aw mixed (az _)) (sel:=[0,1]) (N' :=2) (show gJ [0,5,6] [0,1] (rK (sq1 OD) (L59 g g.length 0) (inb,[]) [bF,bF,bT])=some (.exit 0,[some (.sl 1 (g.map bn)),some (.sr 0 1 0 g.length),some (.sr 1 1 0 0)],[some (.row 4 1 (inb.map aA)),some (.row 3 1 [])],2,_) by kernel_rfl)
     (a1 (ac (show (!decide (((0:Nat):Int)>0))=true from rfl) a0)) rfl rfl rfl (FH rfl rfl g _ _) (uH (inb,[]))
   ·left
    rw [List.concat_eq_append] at hx⊢
    have hlen:=hx.len
    have hbd:=hx.bd
    simp only [List.length_append,List.length_singleton] at hlen hbd
    have hv:v<g.length:=hx.todo v oai
    obtain ⟨k1,k2⟩:=RZ hw hx
    exact ⟨_,k1,k2,VX g g.length inb t v hlen.symm hv (hR _ (ft hv)) (fun c hc=>by rw [hlen];exact mU hw hc) oab⟩
  ·exact x5 (lo:=2) (obs:=[.row 4 1 ((jw g i).map aA)]) (de aw mixed (az _)) (gD _) (e7 _) (show qD Tryz.prog Tryz.f59.results.toList 1 (rK (sq2 (sq2 (sq2 (sq2 (aH 59))))) (L59 g g.length 0) (jw g i,[]) [bT])=some (.sr 0 1 0 g.length,[some (.row 4 1 ((jw g i).map aA))],_) by kernel_rfl) a0 rfl fun xs=>⟨rfl,xs,rfl⟩
def KU:Code:=bP 0 (aH 34)
def KV:Code:=bP 2 (aH 34)
def rL:Code:=bP 4 (aH 34)
abbrev Sa:=List Bool×Bool
def L34 (n:Net) (f:Bool) (emp:AV) (ag:Bool) (i k:Nat):Am.Loc:=[(2,B f),(3,emp),(4,.pf (aW n)),(9,.sr 0 1 0 n.aa.length),(10,B ag),(11,I (i:Nat)),(12,I (k:Nat))]
def mV (n:Net) (f:Bool) (emp:AV) (ag:Bool) (i:Nat):Am.Loc:=[(2,B f),(3,emp),(4,.pf (aW n)),(9,.sr 0 1 0 n.aa.length),(10,B ag),(11,I (i:Nat))]
def mW (n:Net) (f:Bool) (emp:AV) (ag:Bool):Am.Loc:=[(2,B f),(3,emp),(4,.pf (aW n)),(9,.sr 0 1 0 n.aa.length),(10,B ag)]
def O34 (inb:List Bool):List Ob:=[.row 4 1 (inb.map aA)]
def MH (n:Net) (f:Bool) (emp:AV) (x y:Sa) (i:Nat):KB:=⟨L34 n f emp x.2 i 0,O34 x.1,false,.ret,[],[],.normal,mV n f emp y.2 i,O34 y.1,True⟩
def MI (n:Net) (f:Bool) (emp:AV) (inb:List Bool) (y:Sa):KB:=⟨mV n f emp false 0,O34 inb,false,.ret,[],[],.normal,mW n f emp y.2,O34 y.1,True⟩
def mkA (x:Sa) (c:Nat):Sa:=bif ae x.1 c then x else (x.1.set c true,true)
def dT (ok:Edge->Bool) (x:Sa) (e:Edge):Sa:=bif ok e then mkA x e.to.toNat else x
def iA (ok:Edge->Bool) (x:Sa) (l:List Edge):Sa:=l.foldl (dT ok) x
def tC (ok:Edge->Bool) (n:Net) (x:Sa) (i:Nat):Sa:=bif ae x.1 i then iA ok x (ae n.aa i).ai else x
def fM (ok:Edge->Bool) (n:Net) (x:Sa):Nat->Sa
 |0=>x
 |i+1=>tC ok n (fM ok n x i) i
def gA (ok:Edge->Bool) (n:Net):List (List Nat):=n.aa.map fun s=>(s.ai.filter ok).map fun e=>e.to.toNat
def okT (emp:List Bool) (e:Edge):Bool:=bif e.op==1 then false else bif e.op==2 then aq emp e.n else true
def okF (_:Edge):Bool:=true
def rM (n:Net):Prop:= ∀s∈n.aa,∀e∈s.ai,0<=e.to/\e.to<(n.aa.length:Int)
structure Am1 (x y:Sa):Prop where
 len:y.1.length=x.1.length
 up: ∀k:Nat,x.1[k]? =some true->y.1[k]? =some true
 no:y.2=false->y.1=x.1/\x.2=false
 yes:y.2=true->x.2=true\/cf y.1<cf x.1
 le:cf y.1<=cf x.1
theorem Am1.refl (x:Sa):Am1 x x:=⟨rfl,fun _ h=>h,fun h=>⟨rfl,h⟩,fun h=> .inl h,Nat.le_refl _⟩
theorem Am1.trans {x y z:Sa} (h:Am1 x y) (k:Am1 y z):Am1 x z:=by
 refine ⟨k.len.trans h.len,fun i hi=>k.up i (h.up i hi),fun e=> ?_,fun e=> ?_,Nat.le_trans k.le h.le⟩
 ·obtain ⟨k1,k2⟩:=k.no e
  obtain ⟨h1,h2⟩:=h.no k2
  exact ⟨k1.trans h1,h2⟩
 ·rcases k.yes e with k1|k1
  ·rcases h.yes k1 with h1|h1
   ·exact .inl h1
   ·exact .inr (Nat.lt_of_le_of_lt k.le h1)
  ·exact .inr (Nat.lt_of_lt_of_le k1 h.le)
theorem YY {x:Sa} {c:Nat} (hc:c<x.1.length):Am1 x (mkA x c)/\((mkA x c).2=false->ae x.1 c=true)/\(mkA x c).1[c]? =some true/\ ∀k:Nat,(mkA x c).1[k]? =some true->x.1[k]? =some true\/k=c:=by
 unfold mkA
 cases h:ae x.1 c with
 |true=>exact ⟨Am1.refl x,fun _=>rfl,kM.1 h,fun k hk=> .inl hk⟩
 |false=>
  have hcf:=Ap hc h
  refine ⟨⟨by simp,fun k hk=> ?_,fun e=>oax,fun _=> .inr ?_,?_⟩,fun e=>oax,by simp [hc],fun k hk=> ?_⟩
  ·simp only [cond_false]
   rw [List.getElem?_set]
   split
   ·rename_i e;subst e;simp [hc]
   ·exact hk
  ·simp only [cond_false];omega
  ·simp only [cond_false];omega
  ·simp only [cond_false] at hk
   rw [List.getElem?_set] at hk
   split at hk
   ·rename_i e;exact .inr e.symm
   ·exact .inl hk
theorem rN (ok:Edge->Bool): ∀(l:List Edge) (x:Sa),(∀e∈l,e.to.toNat<x.1.length)->Am1 x (iA ok x l)/\((iA ok x l).2=false-> ∀e∈l,ok e=true->x.1[e.to.toNat]? =some true)/\ ∀k:Nat,(iA ok x l).1[k]? =some true->x.1[k]? =some true\/ ∃e∈l,ok e=true/\e.to.toNat=k
 |[],x,_=>⟨Am1.refl x,fun _ e he=>by simp at he,fun k hk=> .inl hk⟩
 |e::l,x,h=>by
  have hs:Am1 x (dT ok x e)/\((dT ok x e).2=false->ok e=true->ae x.1 e.to.toNat=true)/\ ∀k:Nat,(dT ok x e).1[k]? =some true->x.1[k]? =some true\/(ok e=true/\e.to.toNat=k):=by
   unfold dT
   cases hok:ok e with
   |false=>exact ⟨Am1.refl x,fun _ e=>oax,fun k hk=> .inl hk⟩
   |true=>
    obtain ⟨k1,k2,_,k4⟩:=YY (x:=x) (c:=e.to.toNat) (h e oai)
    exact ⟨k1,fun e _=>k2 e,fun k hk=>(k4 k hk).imp (fun e=>e) fun e=>⟨rfl,e.symm⟩⟩
  obtain ⟨a1',a2,a3⟩:=hs
  obtain ⟨b1,b2,b3⟩:=rN ok l (dT ok x e) fun d hd=>by rw [a1'.len];exact h d (by simp [hd])
  show Am1 x (iA ok (dT ok x e) l)/\((iA ok (dT ok x e) l).2=false->_)/\ ∀k:Nat,(iA ok (dT ok x e) l).1[k]? =some true->_
  refine ⟨a1'.trans b1,fun hf d hd hok=> ?_,fun k hk=> ?_⟩
  ·obtain ⟨c1,c2⟩:=b1.no hf
   rcases List.mem_cons.1 hd with rfl|hd
   ·exact kM.1 (a2 c2 hok)
   ·have:=b2 hf d hd hok
    rw [(a1'.no c2).1] at this
    exact this
  ·rcases b3 k hk with h1|⟨d,h1,h2,h3⟩
   ·rcases a3 k h1 with h4|⟨h4,h5⟩
    ·exact .inl h4
    ·exact .inr ⟨e,by simp,h4,h5⟩
   ·exact .inr ⟨d,by simp [h1],h2,h3⟩
theorem mX {ok:Edge->Bool} {n:Net} {i c:Nat}:Edg (gA ok n) i c↔ ∃e∈(ae n.aa i).ai,ok e=true/\e.to.toNat=c:=by
 unfold Edg gA ae
 rw [List.getElem?_map]
 cases h:n.aa[i]? with
 |none=>
  have d1:(default:State).ai=[]:=rfl
  have d2:(default:List Nat)=[]:=rfl
  simp [d1,d2]
 |some s=>
  simp only [Option.map_some,Option.getD_some,List.mem_map,List.mem_filter]
  constructor
  ·rintro ⟨e,⟨h1,h2⟩,h3⟩;exact ⟨e,h1,h2,h3⟩
  ·rintro ⟨e,h1,h2,h3⟩;exact ⟨e,⟨h1,h2⟩,h3⟩
theorem pe (ok:Edge->Bool) (n:Net):(gA ok n).length=n.aa.length:=by simp [gA]
theorem rO {n:Net} (h:rM n) (i:Nat): ∀e∈(ae n.aa i).ai,e.to.toNat<n.aa.length:=fun e he=>by
 by_cases hi:i<n.aa.length
 ·have:=h _ (ft hi) e he
  omega
 ·have:ae n.aa i=default:=by simp [ae,List.getElem?_eq_none (show n.aa.length<=i by omega)]
  rw [this] at he
  cases he
theorem gA_wf {ok:Edge->Bool} {n:Net} (h:rM n):Wf (gA ok n):=by
 intro R hR c hc
 rw [pe]
 obtain ⟨i,hi,rfl⟩:=List.mem_iff_getElem.1 hR
 have:Edg (gA ok n) i c:=by
  unfold Edg ae
  rw [List.getElem?_eq_getElem hi];exact hc
 obtain ⟨e,he,_,rfl⟩:=mX.1 this
 exact rO h i e he
theorem IG {ok:Edge->Bool} {n:Net} (hn:rM n) {x:Sa} (hx:x.1.length=n.aa.length) {i0:Nat} (hs: ∀k:Nat,x.1[k]? =some true->k=i0\/Rp (gA ok n) i0 k): ∀m:Nat,
  Am1 x (fM ok n x m)/\((fM ok n x m).2=false-> ∀i,i<m->x.1[i]? =some true-> ∀c,Edg (gA ok n) i c->x.1[c]? =some true)/\ ∀k:Nat,(fM ok n x m).1[k]? =some true->k=i0\/Rp (gA ok n) i0 k
 |0=>⟨Am1.refl x,fun _ i hi=>absurd hi (Nat.not_lt_zero _),hs⟩
 |m+1=>by
  obtain ⟨a1',a2,a3⟩:=IG hn hx hs m
  have hlen:(fM ok n x m).1.length=n.aa.length:=a1'.len.trans hx
  simp only [fM]
  generalize hy:fM ok n x m=y at*
  unfold tC
  cases hg:ae y.1 m with
  |false=>
   refine ⟨a1',fun hf i hi hxi c he=> ?_,a3⟩
   by_cases him:i=m
   ·subst him
    have:=(a1'.no hf).1
    rw [this] at hg
    rw [kM.2 hxi] at hg
    cases hg
   ·exact a2 hf i oab hxi c he
  |true=>
   obtain ⟨b1,b2,b3⟩:=rN ok (ae n.aa m).ai y fun e he=>by rw [hlen];exact rO hn m e he
   simp only [cond_true]
   refine ⟨a1'.trans b1,fun hf i hi hxi c he=> ?_,fun k hk=> ?_⟩
   ·obtain ⟨c1,c2⟩:=b1.no hf
    by_cases him:i=m
    ·subst him
     obtain ⟨e,h1,h2,rfl⟩:=mX.1 he
     have:=b2 hf e h1 h2
     rw [(a1'.no c2).1] at this
     exact this
    ·exact a2 c2 i oab hxi c he
   ·rcases b3 k hk with h1|⟨e,h1,h2,rfl⟩
    ·exact a3 k h1
    ·have hm:=a3 m (kM.1 hg)
     have he:Edg (gA ok n) m e.to.toNat:=mX.2 ⟨e,h1,h2,rfl⟩
     rcases hm with rfl|hm
     ·exact .inr (.one he)
     ·exact .inr (.step hm he)
noncomputable def dz (ok:Edge->Bool) (n:Net) (i:Nat):List Bool:=(range n.aa.length).map fun k=>dec (k=i\/Rp (gA ok n) i k)
structure RI (ok:Edge->Bool) (n:Net) (i:Nat) (x:Sa):Prop where
 len:x.1.length=n.aa.length
 own:x.1[i]? =some true
 snd: ∀k:Nat,x.1[k]? =some true->k=i\/Rp (gA ok n) i k
 cls:x.2=false-> ∀k:Nat,x.1[k]? =some true-> ∀c,Edg (gA ok n) k c->x.1[c]? =some true
theorem VY {ok:Edge->Bool} {n:Net} (hn:rM n) {i:Nat} {inb:List Bool} (h:RI ok n i (inb,true)):RI ok n i (fM ok n (inb,false) n.aa.length)/\2*cf (fM ok n (inb,false) n.aa.length).1+(fM ok n (inb,false) n.aa.length).2.toNat<2*cf inb+1:=by
 obtain ⟨h1,h2,h3,h4⟩:=h
 obtain ⟨a1',a2,a3⟩:=IG hn (x:=(inb,false)) h1 h3 n.aa.length
 refine ⟨⟨a1'.len.trans h1,a1'.up i h2,a3,fun hf k hk c he=> ?_⟩,?_⟩
 ·have e:=(a1'.no hf).1
  rw [e] at hk⊢
  refine a2 hf k ?_ hk c he
  have:=(List.getElem?_eq_some_iff.1 hk).1
  simp only at h1 this
  omega
 ·have hle:=a1'.le
  cases hp:(fM ok n (inb,false) n.aa.length).2 with
  |false=>simp only [Bool.toNat_false];simp only at hle;omega
  |true=>
   rcases a1'.yes hp with h|h
   ·cases h
   ·simp only [Bool.toNat_true];simp only at h;omega
theorem YZ {ok:Edge->Bool} {n:Net} {i:Nat} {inb:List Bool} (h:RI ok n i (inb,false)):inb=dz ok n i:=by
 obtain ⟨h1,h2,h3,h4⟩:=h
 have hall: ∀k,Rp (gA ok n) i k->inb[k]? =some true:=by
  intro k hk
  induction hk with
  |one e=>exact h4 rfl _ h2 _ e
  |step _ e ih=>exact h4 rfl _ ih _ e
 apply List.ext_getElem?
 intro k
 unfold dz
 rw [List.getElem?_map]
 by_cases hk:k<n.aa.length
 ·rw [List.getElem?_range hk]
  simp only [Option.map_some]
  have hki:k<inb.length:=by simp only at h1;omega
  rw [List.getElem?_eq_getElem hki]
  congr 1
  rw [Bool.eq_iff_iff,aP]
  constructor
  ·intro hb;exact h3 k (by rw [List.getElem?_eq_getElem hki,hb])
  ·intro hr
   have:inb[k]? =some true:=by
    rcases hr with rfl|hr
    ·exact h2
    ·exact hall k hr
   rw [List.getElem?_eq_getElem hki] at this
   simpa using this
 ·rw [List.getElem?_eq_none (by simp only at h1;omega),List.getElem?_eq_none (by simpa using hk)]
  rfl
theorem At {ok:Edge->Bool} {n:Net} {i k:Nat} (hk:k<n.aa.length):ae (dz ok n i) k=dec (k=i\/Rp (gA ok n) i k):=by
 simp [ae,dz,hk]
abbrev eAt (n:Net) (i k:Nat):Edge:=ae (ae n.aa i).ai k
theorem Au (f:Nat->Nat) (n:Net):b6 f (aW n)=aW n:=cD _ _ (sM n)
theorem fh {f:Nat->Nat} (x:List Bool):n9 f [some (.row 4 1 (x.map aA))] (O34 x):=⟨by rw [Ob.ren,tB];exact .same _,trivial⟩
theorem mY {f:Nat->Nat} (h0:f 0=0) (n:Net) (b:Bool) (emp:AV) (he:emp.pure=true) (ag:Bool) (i k:Nat):l9 f (L34 n b emp ag i k)=nm (L34 n b emp ag i k):=by
 simp [l9,nm,L34,AV.ren,Au,h0,fJ f emp he]
theorem FK {f:Nat->Nat} (h0:f 0=0) (n:Net) (b:Bool) (emp:AV) (he:emp.pure=true) (ag:Bool) (i:Nat):l9 f (mV n b emp ag i)=nm (mV n b emp ag i):=by
 simp [l9,nm,mV,AV.ren,Au,h0,fJ f emp he]
theorem FL {f:Nat->Nat} (h0:f 0=0) (n:Net) (b:Bool) (emp:AV) (he:emp.pure=true) (ag:Bool):l9 f (mW n b emp ag)=nm (mW n b emp ag):=by
 simp [l9,nm,mW,AV.ren,Au,h0,fJ f emp he]
theorem lX {y:Int} {z len:Nat} (h:y=z) (h2:z<len):(dec (y=(z:Int))&&Nat.blt z len)=true:=by rw [aP.2 h,IF h2];rfl
theorem R3 {α:Type} [Inhabited α] (f:α->List AV) {l:List α} {s:Int} (h0:0<=s) (h:s<l.length):(dec (s=((s.toNat:Nat):Int))&&dec ((l.map f)[s.toNat]? =some (f (aq l s))))=true:=HT (decide_eq_true oab) (decide_eq_true oao)
abbrev zCZ (i k:Nat) (n:Net):=(decide ((↑k:Int)<(↑(length (map aV (ae n.aa i).ai)):Int)))
theorem in34T (n:Net) (inb emp:List Bool) (ag:Bool) (i k:Nat) (hi:i<n.aa.length) (hl:inb.length=n.aa.length) (hk:k<(ae n.aa i).ai.length) (hkm:(ae n.aa i).ai.length<=9223372036854775807) (hto0:0<=(eAt n i k).to/\(eAt n i k).to<(n.aa.length:Int)) (hn:((eAt n i k).op==2)=true->0<=(eAt n i k).n/\(eAt n i k).n<(emp.length:Int)):
  Piece pg 85 0 rL (L34 n true (.sl 1 (emp.map aA)) ag i k) (O34 inb) .normal (L34 n true (.sl 1 (emp.map aA)) (dT (okT emp) (inb,ag) (eAt n i k)).2 i (k+1)) (O34 (dT (okT emp) (inb,ag) (eAt n i k)).1):=by
 have h0:(zCZ i k n)=true:=decide_eq_true oao
 have hto:(eAt n i k).to=(Int.toNat (eAt n i k).to:Int):=by omega
 have hlt:Int.toNat (eAt n i k).to<n.aa.length:=by omega
 have hat:Int.toNat (eAt n i k).to<inb.length:=by omega
 rcases mC (Edge.op (eAt n i k)==1) with h1|h1
 ·have hs:dT (okT emp) (inb,ag) (eAt n i k)=(inb,ag):=by
   unfold dT mkA
   simp only [okT,okF,h1,cond_true,cond_false]
  rw [hs]
  exact eb (lo:=1) (de aw mixed (az _)) (sel:=[0]) (N' :=2) (show gJ [2,3,4,9,10,11,12] [0] (runK Tryz.prog 85 base aK 3000 (kbL []) rL (bz (L34 n true (.sl 1 (emp.map aA)) ag i k)) (bw (O34 inb)) 1 ⟨1,(.row (ak (ae n.aa (i)))::bT::bT::.row (ak (ae n.aa (i)))::.row (aV (eAt n i k))::uTT 5 (uFF 11 (bT::uFF 5 [bT,.int ((↑(k+1):Int)),bT]))),[]⟩)=some (.normal,nm (L34 n true (.sl 1 (emp.map aA)) ag i (k+1)),[some (.row 4 1 (inb.map aA))],2,_) by kernel_rfl)
   (ac (od hk hkm) (aN 19 (ac h1 (aN 3 (ac (gM aV hk) (ac (gM ak hi) (a1 (ac h0 (ac (gM ak hi) a0))))))))) rfl rfl rfl (mY rfl n true _ oas _ _ _) (fh inb)
 ·rcases mC (Edge.op (eAt n i k)==2) with h2|h2
  ·have hn0:=(hn h2).1
   have hn1:=(hn h2).2
   rcases mC ((aq (emp) (Edge.n (eAt n i k)))) with h3|h3
   ·rcases mC ((ae (inb) ((Int.toNat (Edge.to (eAt n i k)))))) with h4|h4
    ·have hs:dT (okT emp) (inb,ag) (eAt n i k)=(inb,ag):=by
      unfold dT mkA
      simp only [okT,okF,h1,h2,h3,h4,cond_true,cond_false]
     rw [hs]
     exact eb (lo:=1) (de aw mixed (az _)) (sel:=[0]) (N' :=2) (show gJ [2,3,4,9,10,11,12] [0] (runK Tryz.prog 85 base aK 3000 (kbL []) rL (bz (L34 n true (.sl 1 (emp.map aA)) ag i k)) (bw (O34 inb)) 1 ⟨1,(.row (ak (ae n.aa (i)))::bT::bT::.row (ak (ae n.aa (i)))::.row (aV (eAt n i k))::bT::bT::bT::bF::uTT 10 (.cd ((Edge.n (eAt n i k)).toNat) (aA (aq (emp) (Edge.n (eAt n i k))))::uTT 8 [.cd (Int.toNat (Edge.to (eAt n i k))) ([]),bT,.at ((Int.toNat (Edge.to (eAt n i k)))) (0) (aA (ae (inb) ((Int.toNat (Edge.to (eAt n i k)))))),bT,.int ((↑(k+1):Int)),bT])),[]⟩)=some (.normal,nm (L34 n true (.sl 1 (emp.map aA)) ag i (k+1)),[some (.row 4 1 (inb.map aA))],2,_) by kernel_rfl)
      (ac (od hk hkm) (ac h4 (ac (at1 aA hat) (a1 (ac (lX hto hlt) (aN 3 (ac (n2 h3) (aN 4 (ac (R3 aA hn0 hn1) (aN 5 (ac h2 (aN 4 (ac (au h1) (aN 3 (ac (gM aV hk) (ac (gM ak hi) (a1 (ac h0 (ac (gM ak hi) a0))))))))))))))))))) rfl rfl rfl (mY rfl n true _ oas _ _ _) (fh inb)
    ·have hs:dT (okT emp) (inb,ag) (eAt n i k)=((inb.set (Int.toNat (Edge.to (eAt n i k))) true),true):=by
      unfold dT mkA
      simp only [okT,okF,h1,h2,h3,h4,cond_true,cond_false]
     rw [hs]
     exact eb (lo:=1) (de aw mixed (az _)) (sel:=[0]) (N' :=2) (show gJ [2,3,4,9,10,11,12] [0] (runK Tryz.prog 85 base aK 3000 (kbL []) rL (bz (L34 n true (.sl 1 (emp.map aA)) ag i k)) (bw (O34 inb)) 1 ⟨1,(.row (ak (ae n.aa (i)))::bT::bT::.row (ak (ae n.aa (i)))::.row (aV (eAt n i k))::bT::bT::bT::bF::uTT 10 (.cd ((Edge.n (eAt n i k)).toNat) (aA (aq (emp) (Edge.n (eAt n i k))))::uTT 8 [.cd (Int.toNat (Edge.to (eAt n i k))) ([]),bT,.at ((Int.toNat (Edge.to (eAt n i k)))) (0) (aA (ae (inb) ((Int.toNat (Edge.to (eAt n i k)))))),bF,.cd (Int.toNat (Edge.to (eAt n i k))) ([]),.at ((Int.toNat (Edge.to (eAt n i k)))) (0) (aA (ae (inb) ((Int.toNat (Edge.to (eAt n i k)))))),.int ((↑(k+1):Int)),bT])),[]⟩)=some (.normal,nm (L34 n true (.sl 1 (emp.map aA)) true i (k+1)),[some (.row 4 1 ((inb.map aA).set (Int.toNat (Edge.to (eAt n i k))) [B true]))],2,_) by kernel_rfl)
      (ac (od hk hkm) (ac (IE (at1 aA hat)) (ac (lX hto hlt) (ac (au h4) (ac (at1 aA hat) (a1 (ac (lX hto hlt) (aN 3 (ac (n2 h3) (aN 4 (ac (R3 aA hn0 hn1) (aN 5 (ac h2 (aN 4 (ac (au h1) (aN 3 (ac (gM aV hk) (ac (gM ak hi) (a1 (ac h0 (ac (gM ak hi) a0))))))))))))))))))))) rfl rfl rfl (mY rfl n true _ oas _ _ _) (by rw [rJ];exact fh _)
   ·have hs:dT (okT emp) (inb,ag) (eAt n i k)=(inb,ag):=by
     unfold dT mkA
     simp only [okT,okF,h1,h2,h3,cond_true,cond_false]
    rw [hs]
    exact eb (lo:=1) (de aw mixed (az _)) (sel:=[0]) (N' :=2) (show gJ [2,3,4,9,10,11,12] [0] (runK Tryz.prog 85 base aK 3000 (kbL []) rL (bz (L34 n true (.sl 1 (emp.map aA)) ag i k)) (bw (O34 inb)) 1 ⟨1,(.row (ak (ae n.aa (i)))::bT::bT::.row (ak (ae n.aa (i)))::.row (aV (eAt n i k))::bT::bT::bT::bF::uTT 10 (.cd ((Edge.n (eAt n i k)).toNat) (aA (aq (emp) (Edge.n (eAt n i k))))::uTT 4 (uFF 5 [bT,.int ((↑(k+1):Int)),bT]))),[]⟩)=some (.normal,nm (L34 n true (.sl 1 (emp.map aA)) ag i (k+1)),[some (.row 4 1 (inb.map aA))],2,_) by kernel_rfl)
     (ac (od hk hkm) (aN 5 (ac (n3 h3) (aN 4 (ac (R3 aA hn0 hn1) (aN 5 (ac h2 (aN 4 (ac (au h1) (aN 3 (ac (gM aV hk) (ac (gM ak hi) (a1 (ac h0 (ac (gM ak hi) a0))))))))))))))) rfl rfl rfl (mY rfl n true _ oas _ _ _) (fh inb)
  ·rcases mC ((ae (inb) ((Int.toNat (Edge.to (eAt n i k)))))) with h3|h3
   ·have hs:dT (okT emp) (inb,ag) (eAt n i k)=(inb,ag):=by
     unfold dT mkA
     simp only [okT,okF,h1,h2,h3,cond_true,cond_false]
    rw [hs]
    exact eb (lo:=1) (de aw mixed (az _)) (sel:=[0]) (N' :=2) (show gJ [2,3,4,9,10,11,12] [0] (runK Tryz.prog 85 base aK 3000 (kbL []) rL (bz (L34 n true (.sl 1 (emp.map aA)) ag i k)) (bw (O34 inb)) 1 ⟨1,(.row (ak (ae n.aa (i)))::bT::bT::.row (ak (ae n.aa (i)))::.row (aV (eAt n i k))::bT::bT::bT::bF::uTT 4 (bF::bT::uFF 6 (uTT 6 [.cd (Int.toNat (Edge.to (eAt n i k))) ([]),bT,.at ((Int.toNat (Edge.to (eAt n i k)))) (0) (aA (ae (inb) ((Int.toNat (Edge.to (eAt n i k)))))),bT,.int ((↑(k+1):Int)),bT]))),[]⟩)=some (.normal,nm (L34 n true (.sl 1 (emp.map aA)) ag i (k+1)),[some (.row 4 1 (inb.map aA))],2,_) by kernel_rfl)
     (ac (od hk hkm) (ac h3 (ac (at1 aA hat) (a1 (ac (lX hto hlt) (aN 13 (ac (au h2) (aN 4 (ac (au h1) (aN 3 (ac (gM aV hk) (ac (gM ak hi) (a1 (ac h0 (ac (gM ak hi) a0))))))))))))))) rfl rfl rfl (mY rfl n true _ oas _ _ _) (fh inb)
   ·have hs:dT (okT emp) (inb,ag) (eAt n i k)=((inb.set (Int.toNat (Edge.to (eAt n i k))) true),true):=by
     unfold dT mkA
     simp only [okT,okF,h1,h2,h3,cond_true,cond_false]
    rw [hs]
    exact eb (lo:=1) (de aw mixed (az _)) (sel:=[0]) (N' :=2) (show gJ [2,3,4,9,10,11,12] [0] (runK Tryz.prog 85 base aK 3000 (kbL []) rL (bz (L34 n true (.sl 1 (emp.map aA)) ag i k)) (bw (O34 inb)) 1 ⟨1,(.row (ak (ae n.aa (i)))::bT::bT::.row (ak (ae n.aa (i)))::.row (aV (eAt n i k))::bT::bT::bT::bF::uTT 4 (bF::bT::uFF 6 (uTT 6 [.cd (Int.toNat (Edge.to (eAt n i k))) ([]),bT,.at ((Int.toNat (Edge.to (eAt n i k)))) (0) (aA (ae (inb) ((Int.toNat (Edge.to (eAt n i k)))))),bF,.cd (Int.toNat (Edge.to (eAt n i k))) ([]),.at ((Int.toNat (Edge.to (eAt n i k)))) (0) (aA (ae (inb) ((Int.toNat (Edge.to (eAt n i k)))))),.int ((↑(k+1):Int)),bT]))),[]⟩)=some (.normal,nm (L34 n true (.sl 1 (emp.map aA)) true i (k+1)),[some (.row 4 1 ((inb.map aA).set (Int.toNat (Edge.to (eAt n i k))) [B true]))],2,_) by kernel_rfl)
     (ac (od hk hkm) (ac (IE (at1 aA hat)) (ac (lX hto hlt) (ac (au h3) (ac (at1 aA hat) (a1 (ac (lX hto hlt) (aN 13 (ac (au h2) (aN 4 (ac (au h1) (aN 3 (ac (gM aV hk) (ac (gM ak hi) (a1 (ac h0 (ac (gM ak hi) a0))))))))))))))))) rfl rfl rfl (mY rfl n true _ oas _ _ _) (by rw [rJ];exact fh _)
theorem in34F (n:Net) (inb:List Bool) (ag:Bool) (i k:Nat) (hi:i<n.aa.length) (hl:inb.length=n.aa.length) (hk:k<(ae n.aa i).ai.length) (hkm:(ae n.aa i).ai.length<=9223372036854775807) (hto0:0<=(eAt n i k).to/\(eAt n i k).to<(n.aa.length:Int)):
  Piece pg 85 0 rL (L34 n false (.v (.slice none 0 0)) ag i k) (O34 inb) .normal (L34 n false (.v (.slice none 0 0)) (dT (okF) (inb,ag) (eAt n i k)).2 i (k+1)) (O34 (dT (okF) (inb,ag) (eAt n i k)).1):=by
 have h0:(zCZ i k n)=true:=decide_eq_true oao
 have hto:(eAt n i k).to=(Int.toNat (eAt n i k).to:Int):=by omega
 have hlt:Int.toNat (eAt n i k).to<n.aa.length:=by omega
 have hat:Int.toNat (eAt n i k).to<inb.length:=by omega
 rcases mC ((ae (inb) ((Int.toNat (Edge.to (eAt n i k)))))) with h1|h1
 ·have hs:dT (okF) (inb,ag) (eAt n i k)=(inb,ag):=by
   unfold dT mkA
   simp only [okT,okF,h1,cond_true,cond_false]
  rw [hs]
  exact eb (lo:=1) (de aw mixed (az _)) (sel:=[0]) (N' :=2) (show gJ [2,3,4,9,10,11,12] [0] (runK Tryz.prog 85 base aK 3000 (kbL []) rL (bz (L34 n false (.v (.slice none 0 0)) ag i k)) (bw (O34 inb)) 1 ⟨1,(.row (ak (ae n.aa (i)))::bT::bT::.row (ak (ae n.aa (i)))::.row (aV (eAt n i k))::uFF 16 (uTT 4 [.cd (Int.toNat (Edge.to (eAt n i k))) ([]),bT,.at ((Int.toNat (Edge.to (eAt n i k)))) (0) (aA (ae (inb) ((Int.toNat (Edge.to (eAt n i k)))))),bT,.int ((↑(k+1):Int)),bT])),[]⟩)=some (.normal,nm (L34 n false (.v (.slice none 0 0)) ag i (k+1)),[some (.row 4 1 (inb.map aA))],2,_) by kernel_rfl)
   (ac (od hk hkm) (ac h1 (ac (at1 aA hat) (a1 (ac (lX hto hlt) (aN 20 (ac (gM aV hk) (ac (gM ak hi) (a1 (ac h0 (ac (gM ak hi) a0))))))))))) rfl rfl rfl (mY rfl n false _ oas _ _ _) (fh inb)
 ·have hs:dT (okF) (inb,ag) (eAt n i k)=((inb.set (Int.toNat (Edge.to (eAt n i k))) true),true):=by
   unfold dT mkA
   simp only [okT,okF,h1,cond_true,cond_false]
  rw [hs]
  exact eb (lo:=1) (de aw mixed (az _)) (sel:=[0]) (N' :=2) (show gJ [2,3,4,9,10,11,12] [0] (runK Tryz.prog 85 base aK 3000 (kbL []) rL (bz (L34 n false (.v (.slice none 0 0)) ag i k)) (bw (O34 inb)) 1 ⟨1,(.row (ak (ae n.aa (i)))::bT::bT::.row (ak (ae n.aa (i)))::.row (aV (eAt n i k))::uFF 16 (uTT 4 [.cd (Int.toNat (Edge.to (eAt n i k))) ([]),bT,.at ((Int.toNat (Edge.to (eAt n i k)))) (0) (aA (ae (inb) ((Int.toNat (Edge.to (eAt n i k)))))),bF,.cd (Int.toNat (Edge.to (eAt n i k))) ([]),.at ((Int.toNat (Edge.to (eAt n i k)))) (0) (aA (ae (inb) ((Int.toNat (Edge.to (eAt n i k)))))),.int ((↑(k+1):Int)),bT])),[]⟩)=some (.normal,nm (L34 n false (.v (.slice none 0 0)) true i (k+1)),[some (.row 4 1 ((inb.map aA).set (Int.toNat (Edge.to (eAt n i k))) [B true]))],2,_) by kernel_rfl)
   (ac (od hk hkm) (ac (IE (at1 aA hat)) (ac (lX hto hlt) (ac (au h1) (ac (at1 aA hat) (a1 (ac (lX hto hlt) (aN 20 (ac (gM aV hk) (ac (gM ak hi) (a1 (ac h0 (ac (gM ak hi) a0))))))))))))) rfl rfl rfl (mY rfl n false _ oas _ _ _) (by rw [rJ];exact fh _)
structure IH (n:Net):Prop where
 rules:n.rules.length<=1000000
 aa:n.aa.length<=1000000
 ai: ∀i,(ae n.aa i).ai.length<=4611686018427387904
theorem VZ:dp [4] KV=[(4,.loop rL)]:=by kernel_rfl
theorem V0:dp [2] KU=[(2,.loop KV)]:=by kernel_rfl
theorem Y0:dp [0] (aH 34)=[(0,.loop KU)]:=by kernel_rfl
structure V34 (n:Net) (f:Bool) (emp:AV) (ok:Edge->Bool):Prop where
 pure:emp.pure=true
 round: ∀(x:Sa) (i k:Nat),i<n.aa.length->x.1.length=n.aa.length->k<(ae n.aa i).ai.length->
  Piece pg 85 0 rL (L34 n f emp x.2 i k) (O34 x.1) .normal (L34 n f emp (dT ok x (eAt n i k)).2 i (k+1)) (O34 (dT ok x (eAt n i k)).1)
theorem v34T {n:Net} (hn:rM n) (hf:IH n) {emp:List Bool} (he: ∀s∈n.aa,∀e∈s.ai,e.op=2->0<=e.n/\e.n<(emp.length:Int)):V34 n true (.sl 1 (emp.map aA)) (okT emp):=
 ⟨by simp [AV.pure,aY bR],fun x i k hi hx hk=>by
  have hm:=ft (l:=(ae n.aa i).ai) hk
  exact in34T n x.1 emp x.2 i k hi hx hk (Nat.le_trans (hf.ai i) oab) (hn _ (ft hi) _ hm) fun h=>he _ (ft hi) _ hm (eq_of_beq h)⟩
theorem v34F {n:Net} (hn:rM n) (hf:IH n):V34 n false (.v (.slice none 0 0)) okF:=
 ⟨rfl,fun x i k hi hx hk=>by
  have hm:=ft (l:=(ae n.aa i).ai) hk
  exact in34F n x.1 x.2 i k hi hx hk (Nat.le_trans (hf.ai i) oab) (hn _ (ft hi) _ hm)⟩
section
variable {n:Net} {f:Bool} {emp:AV} {ok:Edge->Bool} (V:V34 n f emp ok) (hn:rM n) (hf:IH n)
theorem KW (x:Sa) (l:List Edge) (k:Nat) (hk:k<l.length):iA ok x (l.take (k+1))=dT ok (iA ok x (l.take k)) (ae l k):=by
 rw [List.take_add_one,eM hk]
 simp [iA,List.foldl_append]
theorem Dx (hn:rM n) (x:Sa) (hx:x.1.length=n.aa.length): ∀m,(fM ok n x m).1.length=n.aa.length
 |0=>hx
 |m+1=>by
  have ih:=Dx hn x hx m
  simp only [fM]
  unfold tC
  cases ae (fM ok n x m).1 m with
  |false=>exact ih
  |true=>rw [cond_true,(rN ok (ae n.aa m).ai (fM ok n x m) fun e he=>by rw [ih];exact rO hn m e he).1.len];exact ih
 include V hn
theorem Y1 (x:Sa) (i:Nat) (hi:i<n.aa.length) (hx:x.1.length=n.aa.length):cQ pg 85 0 4 (.loop rL) (MH n f emp x (iA ok x (ae n.aa i).ai) i):=by
 refine ⟨fun _ e=>oax,fun _ _=> ?_⟩
 have hlen: ∀l:List Edge,(∀e∈l,e∈(ae n.aa i).ai)->(iA ok x l).1.length=n.aa.length:=fun l hl=>by
  rw [(rN ok l x fun e he=>by rw [hx];exact rO hn i e (hl e he)).1.len];exact hx
 refine gh (xr:= .exit 4) (fun k=>L34 n f emp (iA ok x ((ae n.aa i).ai.take k)).2 i k) (fun k=>O34 (iA ok x ((ae n.aa i).ai.take k)).1) (fun k=>k<=(ae n.aa i).ai.length) (fun k=>(ae n.aa i).ai.length-k) 0 (Nat.zero_le _) (fun e=>by cases e) fun k hk=> ?_
 by_cases hkl:k<(ae n.aa i).ai.length
 ·left
  have h:=V.round (iA ok x ((ae n.aa i).ai.take k)) i k hi (hlen _ fun e he=>List.mem_of_mem_take he) hkl
  rw [<-KW x _ k hkl] at h
  exact ⟨k+1,by omega,by omega,h⟩
 ·right
  obtain rfl:k=(ae n.aa i).ai.length:=by omega
  simp only [List.take_length]
  generalize iA ok x (ae n.aa i).ai=y
  have h0:(decide (((ae n.aa i).ai.length:Int)<(((ae n.aa i).ai.map aV).length:Nat)))=false:=decide_eq_false oao
  exact eb (lo:=1) (de aw mixed (az _)) (L' :=mV n f emp y.2 i) (ob' :=O34 y.1) (sel:=[0]) (N' :=1) (show gJ [2,3,4,9,10,11] [0] (runK Tryz.prog 85 base aK 3000 (kbL []) rL (bz (L34 n f emp y.2 i (ae n.aa i).ai.length)) (bw (O34 y.1)) 1 ⟨1,[.row (ak (ae n.aa i)),bF,bF,bT],[]⟩)=some (.exit 4,nm (mV n f emp y.2 i),[some (.row 4 1 (y.1.map aA))],1,_) by kernel_rfl)
   (a1 (ac (au h0) (ac (gM ak hi) a0))) rfl rfl rfl (FK rfl n f emp V.pure _ _) (fh _)
 include hf
theorem mid34 (x:Sa) (i:Nat) (hi:i<n.aa.length) (hx:x.1.length=n.aa.length):Piece pg 85 0 KV (mV n f emp x.2 i) (O34 x.1) .normal (mV n f emp (tC ok n x i).2 (i+1)) (O34 (tC ok n x i).1):=by
 have h0:(decide ((i:Int)<((n.aa.map ak).length:Nat)))=true:=decide_eq_true oao
 have him:n.aa.length<=9223372036854775807:=Nat.le_trans hf.aa oab
 have hb:=Y1 V hn x i hi hx
 have hix:i<x.1.length:=by omega
 unfold tC
 rcases mC (ae x.1 i) with h1|h1
 ·rw [h1]
  simp only [cond_true]
  generalize iA ok x (ae n.aa i).ai=y at hb⊢
  exact eb (lo:=1) (de aw mixed (bK (l:=[(4,MH n f emp x y i)]) VZ (aT hb rfl bj) rfl)) (L' :=mV n f emp y.2 (i+1)) (ob' :=O34 y.1) (sel:=[0]) (N' :=1) (show gJ [2,3,4,9,10,11] [0] (runK Tryz.prog 85 base aK 3000 (kbL [(4,MH n f emp x y i)]) KV (bz (mV n f emp x.2 i)) (bw (O34 x.1)) 1 ⟨1,[bT,bT,.cd i [],.at i 0 (aA (ae x.1 i)),bF,bF,.int ↑(i+1),bT],[]⟩)=some (.normal,nm (mV n f emp y.2 (i+1)),[some (.row 4 1 (y.1.map aA))],1,_) by kernel_rfl)
   (ac (od hi him) (a1 (ac (kbT (MH n f emp x y i) trivial) (ac (n2 h1) (ac (at1 aA hix) (ac (lX rfl hi) (a1 (ac h0 a0)))))))) rfl rfl rfl (FK rfl n f emp V.pure _ _) (fh _)
 ·rw [h1]
  simp only [cond_false]
  exact eb (lo:=1) (de aw mixed (az _)) (L' :=mV n f emp x.2 (i+1)) (ob' :=O34 x.1) (sel:=[0]) (N' :=1) (show gJ [2,3,4,9,10,11] [0] (runK Tryz.prog 85 base aK 3000 (kbL []) KV (bz (mV n f emp x.2 i)) (bw (O34 x.1)) 1 ⟨1,[bT,bT,.cd i [],.at i 0 (aA (ae x.1 i)),bT,.int ↑(i+1),bT],[]⟩)=some (.normal,nm (mV n f emp x.2 (i+1)),[some (.row 4 1 (x.1.map aA))],1,_) by kernel_rfl)
   (ac (od hi him) (ac (au h1) (ac (at1 aA hix) (ac (lX rfl hi) (a1 (ac h0 a0)))))) rfl rfl rfl (FK rfl n f emp V.pure _ _) (fh _)
theorem Y2 (inb:List Bool) (hx:inb.length=n.aa.length):cQ pg 85 0 2 (.loop KV) (MI n f emp inb (fM ok n (inb,false) n.aa.length)):=by
 refine ⟨fun _ e=>oax,fun _ _=> ?_⟩
 refine gh (xr:= .exit 2) (fun i=>mV n f emp (fM ok n (inb,false) i).2 i) (fun i=>O34 (fM ok n (inb,false) i).1) (fun i=>i<=n.aa.length) (fun i=>n.aa.length-i) 0 (Nat.zero_le _) (fun e=>by cases e) fun i hi=> ?_
 by_cases hil:i<n.aa.length
 ·exact .inl ⟨i+1,by omega,by omega,mid34 V hn hf (fM ok n (inb,false) i) i hil (Dx hn _ hx i)⟩
 ·right
  obtain rfl:i=n.aa.length:=by omega
  generalize fM ok n (inb,false) n.aa.length=y
  have h0:(decide ((n.aa.length:Int)<((n.aa.map ak).length:Nat)))=false:=decide_eq_false oao
  exact eb (lo:=1) (de aw mixed (az _)) (L' :=mW n f emp y.2) (ob' :=O34 y.1) (sel:=[0]) (N' :=1) (show gJ [2,3,4,9,10] [0] (runK Tryz.prog 85 base aK 3000 (kbL []) KV (bz (mV n f emp y.2 n.aa.length)) (bw (O34 y.1)) 1 ⟨1,[bF,bF,bT],[]⟩)=some (.exit 2,nm (mW n f emp y.2),[some (.row 4 1 (y.1.map aA))],1,_) by kernel_rfl)
   (a1 (ac (au h0) a0)) rfl rfl rfl (FL rfl n f emp V.pure _) (fh _)
theorem Y3 (i:Nat) (inb:List Bool) (hx:RI ok n i (inb,true)):Piece pg 85 0 (.block 0 (.loop KU)) (mW n f emp true) (O34 inb) .normal (mW n f emp false) (O34 (dz ok n i)):=by
 refine gh (xr:= .exit 0) (fun x:Sa=>mW n f emp x.2) (fun x=>O34 x.1) (RI ok n i) (fun x=>2*cf x.1+x.2.toNat) (inb,true) hx (fun e=>by cases e) fun x h=> ?_
 obtain ⟨inb,ag⟩:=x
 cases ag with
 |true=>
  left
  obtain ⟨k1,k2⟩:=VY hn h
  refine ⟨_,k1,by simpa using k2,?_⟩
  have hb:=Y2 V hn hf inb h.len
  generalize fM ok n (inb,false) n.aa.length=y at hb⊢
  exact eb (lo:=1) (de aw mixed (bK (l:=[(2,MI n f emp inb y)]) V0 (aT hb rfl bj) rfl)) (L' :=mW n f emp y.2) (ob' :=O34 y.1) (sel:=[0]) (N' :=1) (show gJ [2,3,4,9,10] [0] (runK Tryz.prog 85 base aK 3000 (kbL [(2,MI n f emp inb y)]) KU (bz (mW n f emp true)) (bw (O34 inb)) 1 ⟨1,[bT,bF,bT],[]⟩)=some (.normal,nm (mW n f emp y.2),[some (.row 4 1 (y.1.map aA))],1,_) by kernel_rfl)
   (a1 (ac (kbT (MI n f emp inb y) trivial) (a1 a0))) rfl rfl rfl (FL rfl n f emp V.pure _) (fh _)
 |false=>
  right
  rw [<-YZ h]
  exact eb (lo:=1) (de aw mixed (az _)) (L' :=mW n f emp false) (ob' :=O34 inb) (sel:=[0]) (N' :=1) (show gJ [2,3,4,9,10] [0] (runK Tryz.prog 85 base aK 3000 (kbL []) KU (bz (mW n f emp false)) (bw (O34 inb)) 1 ⟨1,[bF,bT],[]⟩)=some (.exit 0,nm (mW n f emp false),[some (.row 4 1 (inb.map aA))],1,_) by kernel_rfl)
   (a1 a0) rfl rfl rfl (FL rfl n f emp V.pure _) (fh _)
end
theorem makeT {k:Nat} (h:k<=1000000):(Nat.ble k k&&Nat.ble (1*k) 281474976710656&&Nat.ble k 9223372036854775807)=true:=by
 rw [uG (Nat.le_refl _),uG (show 1*k<=281474976710656 by omega),uG (show k<=9223372036854775807 by omega)];rfl
abbrev zY (n:Net):=(length (zA n))
def MJ (n:Net) (f:Bool) (emp:AV) (i:Nat) (res:List Bool):KB:=⟨[(2,B f),(3,emp),(4,.pf (aW n)),(9,.sr 0 1 0 (zY n)),(10,B true)],[.row 4 1 ((replicate (zY n) [B false]).set i [B true])],false,.ret,[],[],.normal,mW n f emp false,O34 res,True⟩
theorem uI {n:Net} {f:Bool} {emp:AV} {ok:Edge->Bool} (V:V34 n f emp ok) (hn:rM n) (hf:IH n) (i:Nat) (hi:i<n.aa.length):
  bg pg 34 [gL n,I (i:Nat),B f,emp] [] [] (.sr 0 1 0 n.aa.length) [.row 4 1 ((dz ok n i).map aA)]:=by
 refine jo (fn:=Tryz.f34) Tryz.func34 oaa (show Tryz.f34.body=some (aH 34) by kernel_rfl) (Nat.le_of_ble_eq_true rfl) (Nat.zero_le _) rfl oau ?_
 have hl:(n.aa.map ak).length=n.aa.length:=List.length_map _
 have hr:RI ok n i ((replicate n.aa.length false).set i true,true):=by
  refine ⟨by simp,by simp [hi],fun k hk=> ?_,fun e=>by cases e⟩
  simp only at hk
  rw [List.getElem?_set] at hk
  split at hk
  ·rename_i e;exact .inl e.symm
  ·rw [List.getElem?_replicate] at hk
   split at hk<;>simp at hk
 have hlp:=Y3 V hn hf i _ hr
 have ho:([.row 4 1 ((replicate (length (map ak n.aa)) [B false]).set i [B true])]:List Ob)=O34 ((replicate n.aa.length false).set i true):=by
  simp [O34,aA,List.map_set]
 have hb:cQ pg 85 0 0 (.loop KU) (MJ n f emp i (dz ok n i)):=⟨fun _ e=>oax,fun _ _=>by
  show Piece pg 85 0 (.block 0 (.loop KU)) [(2,B f),(3,emp),(4,.pf (aW n)),(9,.sr 0 1 0 (length (map ak n.aa))),(10,B true)] [.row 4 1 ((replicate (length (map ak n.aa)) [B false]).set i [B true])] .normal (mW n f emp false) (O34 (dz ok n i))
  rw [ho,hl];exact hlp⟩
 have hs:(dec ((0+i*1)/1=i)&&(dec ((0+i*1)%1=0)&&dec ((replicate (length (map ak n.aa)) [B false])[i]? =some [B false]))&&true)=true:=by
  rw [aP.2 (show (0+i*1)/1=i by omega),aP.2 (show (0+i*1)%1=0 by omega),aP.2 (by rw [List.getElem?_replicate,if_pos oab])];rfl
 have hm:(Nat.ble (length (map ak n.aa)) (length (map ak n.aa))&&Nat.ble (1*length (map ak n.aa)) 281474976710656&&Nat.ble (length (map ak n.aa)) 9223372036854775807)=true:=by
  exact makeT (by rw [hl];exact hf.aa)
 exact x5 (lo:=0) (obs:=[.row 4 1 ((dz ok n i).map aA)]) (de aw mixed (bK (l:=[(0,MJ n f emp i (dz ok n i))]) Y0 (aT hb rfl bj) rfl)) (fa _) bV.nil (show qD Tryz.prog Tryz.f34.results.toList 1 (runK Tryz.prog 85 base aK 3000 (kbL [(0,MJ n f emp i (dz ok n i))]) (aH 34) (l8 0 [gL n,I (i:Nat),B f,emp] .e) .e 0 ⟨0,[.cd i [],.at i 0 [B false],bF,bT],[]⟩)=some (.sr 0 1 0 n.aa.length,[some (.row 4 1 ((dz ok n i).map aA))],_) by kernel_rfl)
  (a1 (ac (kbT (MJ n f emp i (dz ok n i)) trivial) (ac hs (ac (lX rfl (by omega:i<(n.aa.map ak).length)) (ac hm a0))))) rfl fun xs=>⟨rfl,xs,rfl⟩
@[simp] theorem V1 (l:List Bool):aj (l.map aA)=true:=aY bR l
@[simp] theorem pr_rowN (l:List (List Nat)):aj (l.map bn)=true:=aY Dw l
@[simp] theorem pr_bools (l:List Bool) (i:Nat) (b:Bool):aj ((l.map aA).set i (aA b))=true:=by rw [<-List.map_set];exact V1 _
structure bt (n:Net):Prop where
 to:rM n
 call: ∀s∈n.aa,∀e∈s.ai,e.op=2->0<=e.n/\e.n<(n.rules.length:Int)
 start: ∀r∈n.rules,0<=r.start/\r.start<(n.aa.length:Int)
 stop: ∀r∈n.rules,0<=r.stop/\r.stop<(n.aa.length:Int)
theorem bp.f0 {n:Net} (h:bp n):IH n:=⟨h.rules,h.aa,fun i=>by
 by_cases hi:i<n.aa.length
 ·exact Nat.le_trans (h.ai _ (ay hi)) oab
 ·have:ae n.aa i=default:=by simp [ae,List.getElem?_eq_none (show n.aa.length<=i by omega)]
  rw [this]
  exact Nat.zero_le _⟩
theorem ph (ok:Edge->Bool) (n:Net) (i:Nat):(dz ok n i).length=n.aa.length:=by simp [dz]
theorem KX (l:List Bool): ∀c∈(l.map aA).flatten,∃x,c= .v x:=fun c hc=>by
 simp only [List.mem_flatten,List.mem_map] at hc
 obtain ⟨r,⟨b,_,rfl⟩,h⟩:=hc
 simp only [aA,List.mem_singleton] at h
 exact ⟨_,h⟩
def i34 (n:Net) (x:Int) (emp:List Bool):lT:=⟨34,[gL n,I x,B true,.sr 0 1 0 (length (map aE n.rules))],[.row 4 1 (emp.map aA)],.sl 1 ((dz (okT emp) n x.toNat).map aA),(0<=x/\x<(n.aa.length:Int))/\emp.length=n.rules.length⟩
theorem g34 (n:Net) (x:Int) (emp:List Bool) (hn:bt n) (hf:bp n):(i34 n x emp).b7 pg:=fun hp=>by
 have hp:(0<=x/\x<(n.aa.length:Int))/\emp.length=n.rules.length:=hp
 have hx:x=((x.toNat:Nat):Int):=by omega
 have hV:V34 n true (.sl 1 (emp.map aA)) (okT emp):=v34T hn.to hf.f0 (by rw [hp.2];exact hn.call)
 have h:=uI hV hn.to hf.f0 x.toNat oab
 rw [<-hx] at h
 refine nD rfl (J2 (X:= .row 4 1 (emp.map aA)) (.inl ⟨_,_,_,rfl⟩) (jH.cons (Frz.same _) (jH.cons (Frz.same _) (jH.cons (Frz.same _) (jH.cons (Frz.sr0 rfl (by simp [hp.2])) jH.nil)))) ?_ ?_ h (by simp [dz]) (KX _) (aY bR _))
 ·simp [ah,AV.pure,aY bR]
 ·simp [Ob.und,dj bR]
def Dy:Code:=bP 0 (aH 25)
def II:Code:=bP 2 Dy
def mZ (n:Net) (w0:Bool×(List Bool)) (i2:Nat) (y2:Bool×(List Bool)):Bool×(List Bool):=(bif !(ae y2.2 i2) then (bif (aq (dz (okT y2.2) n ((ae n.rules i2).start).toNat) (ae n.rules i2).stop) then (true,List.set y2.2 i2 true) else (y2.1,y2.2)) else (y2.1,y2.2))
def bX (n:Net) (w0:Bool×(List Bool)) (kk:Nat):Bool×(List Bool):=Nat.rec (motive:=fun _=>Bool×(List Bool)) (false,w0.2) (fun j a=>mZ n w0 j a) kk
theorem R4 (n:Net) (w:Bool×(List Bool)) (i:Nat):length (bX n w i).2=length w.2:=by
 induction i with
 |zero=>rfl
 |succ i ih=>
  show length (mZ n w i (bX n w i)).2=_
  unfold mZ
  simp only [Bool.cond_eq_ite]
  split
  ·split
   ·simp [ih]
   ·exact ih
  ·exact ih
theorem low25 (n:Net) (w:Bool×(List Bool)) (hw:length w.2=length n.rules) (i:Nat) (hi:i<=n.rules.length):cf (bX n w i).2+(bif (bX n w i).1 then 1 else 0)<=cf w.2:=by
 induction i with
 |zero=>exact Nat.le_refl _
 |succ i ih=>
  have ih:=ih oab
  have hl:=R4 n w i
  show cf (mZ n w i (bX n w i)).2+(bif (mZ n w i (bX n w i)).1 then 1 else 0)<=_
  unfold mZ
  simp only [Bool.cond_eq_ite] at ih⊢
  split
  ·rename_i h1
   split
   ·have:=Ap (l:=(bX n w i).2) (c:=i) oab (by simpa using h1)
    simp only [if_true]
    split at ih<;>omega
   ·exact ih
  ·exact ih
abbrev zB (n:Net):=(length (zAF n))
def m6 (n:Net) (w0:Bool×(List Bool)) (i2:Nat) (y2:Bool×(List Bool)):Am.Loc:=[(1,.pf (aW n)),(3,.sr 0 1 0 (zB n)),(4,B y2.1),(5,I (i2:Int))]
def m7 (n:Net) (w0:Bool×(List Bool)) (i2:Nat) (y2:Bool×(List Bool)):List Ob:=[.row 4 1 (map aA y2.2)]
def uJ (n:Net) (w0:Bool×(List Bool)) (i2:Nat):Am.Loc:=m6 n w0 i2 (bX n w0 i2)
def uK (n:Net) (w0:Bool×(List Bool)) (i2:Nat):List Ob:=m7 n w0 i2 (bX n w0 i2)
def uM (n:Net) (w0:Bool×(List Bool)) (i2:Nat):Bool:=false
def V2 (n:Net) (w0:Bool×(List Bool)):Bool:=false
def FN (n:Net) (w0:Bool×(List Bool)) (i2:Nat):Am.Loc:=[]
def FO (n:Net) (w0:Bool×(List Bool)) (i2:Nat):List Ob:=[]
def pj (n:Net) (w0:Bool×(List Bool)):Am.Loc:=[(1,.pf (aW n)),(3,.sr 0 1 0 (zB n)),(4,B ((bX n w0 (zS n)).1))]
def pk (n:Net) (w0:Bool×(List Bool)):List Ob:=[.row 4 1 (map aA ((bX n w0 (zS n)).2))]
def Av (n:Net) (w0:Bool×(List Bool)):KB:=⟨uJ n w0 0,uK n w0 0,V2 n w0,.ret,FN n w0 (b4 (zS n) (uM n w0)),FO n w0 (b4 (zS n) (uM n w0)),.normal,pj n w0,pk n w0,True⟩
def Aw (n:Net) (w0:Bool×(List Bool)) (i2:Nat):List bG:=[nxW (uM n w0 i2) (uJ n w0 (i2+1)) (uK n w0 (i2+1)) (m6 n w0 (i2+1) (true,List.set ((bX n w0 i2).2) i2 true)) zAO (m7 n w0 (i2+1) (true,List.set ((bX n w0 i2).2) i2 true)),nxW (uM n w0 i2) (uJ n w0 (i2+1)) (uK n w0 (i2+1)) (m6 n w0 (i2+1) ((bX n w0 i2).1,(bX n w0 i2).2)) zAO (m7 n w0 (i2+1) ((bX n w0 i2).1,(bX n w0 i2).2))]
def Xn (n:Net) (w0:Bool×(List Bool)) (i2:Nat):GT:=(.r [.k,bT] (.yes (.a (.r (.at i2 0 (aA (ae ((bX n w0 i2).2) i2))::uTT 5 (.row (aE (ae n.rules i2))::uTT 4 (.cd 0 []::uTT 4 [.row (aE (ae n.rules i2)),bT,bT,bT,.cd ((ae n.rules i2).stop).toNat (aA (aq (dz (okT ((bX n w0 i2).2)) n ((ae n.rules i2).start).toNat) (ae n.rules i2).stop)),bT,bT]))) (.br (.r [.at i2 0 (aA (ae ((bX n w0 i2).2) i2)),bT] (.r [bT] (.r [.int ↑(i2+1),bT] (.pick 0)))) (.r [.int ↑(i2+1),bT] (.pick 1)))) (.r (.at i2 0 (aA (ae ((bX n w0 i2).2) i2))::uFF 17 [bT]) (.r [.int ↑(i2+1),bT] (.pick 1))))))
theorem Y4 (n:Net) (w0:Bool×(List Bool)) (i2:Nat) (hn:bt n) (hf:bp n) (hw0:length w0.2=length n.rules) (hx2:i2<(length n.rules)):vcC pg 46 (x8 [i34 n (ae n.rules i2).start ((bX n w0 i2).2)] base) aK 3000 (kbL []) II (bz (uJ n w0 i2)) (bw (uK n w0 i2)) 1 (bM (Aw n w0 i2)) (Xn n w0 i2):=
 have hr:=hf.rules;have hl:length (bX n w0 i2).2=length n.rules:=(R4 n w0 i2).trans hw0;have hs:=hn.start _ (ay hx2);have ht:=hn.stop _ (ay hx2);have hrl:=ph (okT (bX n w0 i2).2) n (ae n.rules i2).start.toNat;have l1:=aU aE (n.rules);have hb:(decide ((i2:Int)<(length (map aE n.rules):Int)))=true:=decide_eq_true oab;
 bc (an (a1 a0)
 (an hb (aM (fun (h1:(!(ae ((bX n w0 i2).2) i2))=true)=>
 (have l2:=aU aA ((dz (okT ((bX n w0 i2).2)) n ((ae n.rules i2).start).toNat));an (a1 (ac (rwz aA (dz (okT ((bX n w0 i2).2)) n ((ae n.rules i2).start).toNat) (ae n.rules i2).stop) (aN 3 (ac (rwa aE n.rules i2) (aN 4 (ac (qE (c:=i34 n (ae n.rules i2).start ((bX n w0 i2).2)) ⟨hs,hl⟩ rfl) (aN 4 (ac (rwa aE n.rules i2) (aN 4 (ac h1 (ac (ato 1 0 i2 (rl aA ((bX n w0 i2).2))) (ac (ixo i2 (length (map aE n.rules))) a0))))))))))))
 (brP (fun (h2:((aq (dz (okT ((bX n w0 i2).2)) n ((ae n.rules i2).start).toNat) (ae n.rules i2).stop))=true)=>
 (an (ac (sto 1 0 1 i2 (rl aA ((bX n w0 i2).2))) (ac (ixo i2 (length (map aE n.rules))) a0))
 (an a0
 (an (ac (dwo ((i2+1:Nat):Int)) a0)
 (lfE (wy (Aw n w0 i2) 0) 1 (nxP (m6 n w0 (i2+1)) (m7 n w0 (i2+1)) (show uM n w0 i2=false from rfl) (show bX n w0 (i2+1)=(true,List.set ((bX n w0 i2).2) i2 true) from (cdT h1 (cdT h2 rfl)))) (bq (congrArg (fun z=>Ob.row 4 1 z) (jr (f:=aA) (rl aA ((bX n w0 i2).2)) i2 true)) dZ)))))) (fun h2=>
 (an (ac (dwo ((i2+1:Nat):Int)) a0)
 (lf (wy (Aw n w0 i2) 1) 1 (nxP (m6 n w0 (i2+1)) (m7 n w0 (i2+1)) (show uM n w0 i2=false from rfl) (show bX n w0 (i2+1)=((bX n w0 i2).1,(bX n w0 i2).2) from (cdT h1 (cdF h2 rfl)))))))))) (fun h1=>
 (an (aN 16 (ac (au h1) (ac (ato 1 0 i2 (rl aA ((bX n w0 i2).2))) (ac (ixo i2 (length (map aE n.rules))) a0))))
 (an (ac (dwo ((i2+1:Nat):Int)) a0)
 (lf (wy (Aw n w0 i2) 1) 1 (nxP (m6 n w0 (i2+1)) (m7 n w0 (i2+1)) (show uM n w0 i2=false from rfl) (show bX n w0 (i2+1)=((bX n w0 i2).1,(bX n w0 i2).2) from (cdF h1 rfl))))))))))
 oaa
theorem Y5 (n:Net) (w0:Bool×(List Bool)) (hn:bt n) (hf:bp n) (hw0:length w0.2=length n.rules):vcC pg 46 base aK 3000 (kbL []) II (bz (uJ n w0 (zS n))) (bw (uK n w0 (zS n))) 1 (bM [⟨True,(.exit 2),pj n w0,range 1,pk n w0⟩]) zG:=
 have hr:=hf.rules;have l1:=aU aE (n.rules);have hb:(zJ n)=false:=decide_eq_false oab;
 bc (an (a1 a0)
 (an hb (lf (wy [⟨True,(.exit 2),pj n w0,range 1,pk n w0⟩] 0) 1 trivial)))
 oaa
theorem R5 (n:Net) (w0:Bool×(List Bool)) (i2:Nat):(Aw n w0 i2).all zj=true:=by refine (aF (aR rfl rfl rfl ?_ ?_) (aF (aR rfl rfl rfl ?_ ?_) bC))<;>simp (maxDischargeDepth:=9) [nxW,htW,m6,uJ,FN,pj,plS,AV.pure,ah,aj,m7,uK,FO,pk,plO,eC,dG]
theorem R6 (n:Net) (w0:Bool×(List Bool)):bG.cS 0 ⟨True,(.exit 2),pj n w0,range 1,pk n w0⟩=true:=by refine (aR rfl rfl rfl ?_ ?_)<;>simp (maxDischargeDepth:=9) [nxW,htW,m6,uJ,FN,pj,plS,AV.pure,ah,aj,m7,uK,FO,pk,plO,eC,dG]
theorem R7 (n:Net) (w0:Bool×(List Bool)) (hn:bt n) (hf:bp n) (hw0:length w0.2=length n.rules):cQ pg 46 0 2 (.loop II) (Av n w0):=
 have hr:=hf.rules;iZ (fun _=>eB (id:=2) (m:=length n.rules) (t:=uM n w0) (xr:= .ret) (xn:=(.exit 2)) (Lr:=FN n w0) (Lx:=pj n w0) (obr:=FO n w0) (obx:=pk n w0) (V:=fun i2=>vcC pg 46 (x8 [i34 n (ae n.rules i2).start ((bX n w0 i2).2)] base) aK 3000 (kbL []) II) (uJ n w0) (uK n w0) 1 (Aw n w0) (Xn n w0) _ _ (fun i2 hx2=>aL (C4 (.cons (g34 n (ae n.rules i2).start ((bX n w0 i2).2) hn hf) ur.nil) aw) mixed (az _)) (aL aw mixed (az _)) (fun e=>by cases e) (fun e=>by cases e) (fun _=>rfl) (fun i2 hx2=>Y4 n w0 i2 hn hf hw0 hx2) (fun i2 _=>R5 n w0 i2) (fun i2 _=>show∀ww∈Aw n w0 i2,cm _ _ _ _ _ _ ww from (aC bU (aC bU bB))) (Y5 n w0 hn hf hw0) (R6 n w0)) (fun _=>rfl) rfl (fun h=>h)
def pn (n:Net) (w0:Bool×(List Bool)):Bool×(List Bool):=((bX n w0 (length n.rules)).1,(bX n w0 (length n.rules)).2)
def dm (n:Net) (kk:Nat):Bool×(List Bool):=Nat.rec (motive:=fun _=>Bool×(List Bool)) (true,replicate (length (map aE n.rules)) false) (fun _ a=>pn n a) kk
def jx (n:Net) (w0:Bool×(List Bool)):Bool:=(!w0.1)
def Xo (n:Net) (w0:Bool×(List Bool)):Bool:=false
def iQ (n:Net):Bool×(List Bool):=dm n (dA (jx n) (dm n))
theorem Dz (n:Net): ∀k,length (dm n k).2=length n.rules
 |0=>by show length (replicate _ false)=_;simp
 |k+1=>by
  show length (pn n (dm n k)).2=_
  unfold pn
  rw [R4,Dz n k]
theorem R8 (n:Net):(∃k,jx n (dm n k)=true)/\ ∀k,k<=dA (jx n) (dm n)->length (dm n k).2=length n.rules:=by
 refine ⟨?_,fun k _=>Dz n k⟩
 by_cases h: ∃k,jx n (dm n k)=true
 ·exact h
 ·have h: ∀k,(dm n k).1=true:=fun k=>by
   cases e:(dm n k).1 with
   |true=>rfl
   |false=>exact absurd ⟨k,by simp [jx,e]⟩ h
  have key: ∀k,cf (dm n k).2+k<=cf (dm n 0).2:=fun k=>by
   induction k with
   |zero=>exact Nat.le_refl _
   |succ k ih=>
    have h1:=low25 n (dm n k) (Dz n k) n.rules.length (Nat.le_refl _)
    have h2:(bX n (dm n k) n.rules.length).1=true:=h (k+1)
    have h3:(dm n (k+1)).2=(bX n (dm n k) n.rules.length).2:=rfl
    rw [h2,<-h3] at h1
    simp only [cond_true] at h1
    omega
  have:=key (cf (dm n 0).2+1)
  omega
def Ax (n:Net) (w0:Bool×(List Bool)):Am.Loc:=[(1,.pf (aW n)),(3,.sr 0 1 0 (zB n)),(4,B w0.1)]
def KY (n:Net) (w0:Bool×(List Bool)):Am.Loc:=[]
def FP (n:Net) (w0:Bool×(List Bool)):Am.Loc:=[(3,.sr 0 1 0 (zB n))]
abbrev zAi (w0:Bool×(List Bool)):=(map aA w0.2)
def Ay (n:Net) (w0:Bool×(List Bool)):List Ob:=[.row 4 1 (zAi w0)]
def KZ (n:Net) (w0:Bool×(List Bool)):List Ob:=[]
def FQ (n:Net) (w0:Bool×(List Bool)):List Ob:=[.row 4 1 (zAi w0)]
def Az (n:Net):KB:=⟨Ax n (dm n 0),Ay n (dm n 0),false,.ret,KY n (iQ n),KZ n (iQ n),.normal,FP n (iQ n),FQ n (iQ n),(∃k,jx n (dm n k)=true)/\ ∀k,k<=dA (jx n) (dm n)->length (dm n k).2=length n.rules⟩
def DA (n:Net) (w0:Bool×(List Bool)):List bG:=[nxW (jx n w0) (Ax n (pn n w0)) (Ay n (pn n w0)) (Ax n ((bX n w0 (zS n)).1,(bX n w0 (zS n)).2)) zAO (Ay n ((bX n w0 (zS n)).1,(bX n w0 (zS n)).2)),wxW (jx n w0) (Xo n w0) (.exit 0) (FP n w0) zAO (FQ n w0)]
def Xp (n:Net) (w0:Bool×(List Bool)):GT:=(.r [bT] (.br (.r [bT] (.r [bT] (.no (.pick 0)))) (.pick 1)))
theorem Y6 (n:Net) (w0:Bool×(List Bool)) (hn:bt n) (hf:bp n) (hw0:length w0.2=length n.rules):vcC pg 46 base aK 3000 (kbL [(2,Av n w0)]) Dy (bz (Ax n w0)) (bw (Ay n w0)) 1 (bM (DA n w0)) (Xp n w0):=
 bc (an a0
 (brP (fun (h0:(w0.1)=true)=>
 (an a0
 (an a0
 (an (kbT (Av n w0) trivial) (an (rfl:false=false) (lf (wy (DA n w0) 0) 1 (nxP (Ax n) (Ay n) (show jx n w0=false from (cq h0)) (show (pn n w0)=((bX n w0 (length n.rules)).1,(bX n w0 (length n.rules)).2) from rfl)))))))) (fun h0=>
 (lf (wy (DA n w0) 1) 1 ⟨show jx n w0=true from (au h0),rfl⟩))))
 oaa
theorem R9 (n:Net) (w0:Bool×(List Bool)):(DA n w0).all zj=true:=by refine (aF (aR rfl rfl rfl ?_ ?_) (aF (aR rfl rfl rfl ?_ ?_) bC))<;>simp (maxDischargeDepth:=9) [nxW,whW,wxW,Ax,KY,FP,plS,AV.pure,ah,aj,Ay,KZ,FQ,plO,eC,dG]
theorem FR:dp [2] Dy=[(2,.loop II)]:=by kernel_rfl
theorem Sb (n:Net) (hn:bt n) (hf:bp n):cQ pg 46 0 0 (.loop Dy) (Az n):=
 have hr:=hf.rules;x9 (fun hp0=>sO (id:=0) (t:=jx n) (hit:=Xo n) (it:=dm n) (step:=pn n) (fun _=>rfl) (I:=fun w0=>length w0.2=length n.rules) (xr:= .ret) (xn:=(.exit 0)) (Lr:=KY n) (Lx:=FP n) (obr:=KZ n) (obx:=FQ n) (V:=fun w0=>vcC pg 46 base aK 3000 (kbL [(2,Av n w0)]) Dy) (Ax n) (Ay n) 1 (DA n) (Xp n) (fun w0 hw0=>aL aw mixed (bK (l:=[(2,Av n w0)]) FR (aT (R7 n w0 hn hf hw0) rfl bj) rfl)) (fun e=>by cases e) (fun e=>by cases e) (fun _=>rfl) (fun w0 hw0=>Y6 n w0 hn hf hw0) (fun w0 _=>R9 n w0) (fun w0 _=>show∀ww∈DA n w0,lF _ _ _ _ _ _ _ _ _ _ ww from (aC nK (aC sN bB))) hp0.1 hp0.2) rfl rfl (fun h=>h)
def r25 (n:Net):List Bool:=(iQ n).2
theorem vH:dp [0] (aH 25)=[(0,.loop Dy)]:=by kernel_rfl
abbrev zBX (n:Net):=(map aA (r25 n))
theorem Cm (n:Net) (hn:bt n) (hf:bp n):bg pg 25 [.ag (aW n)] [] [] (.sr 0 1 0 (zB n)) [.row 4 1 (zBX n)]:=
 have hr:=hf.rules;Ms (fn:=Tryz.f25) (callf:=base) (pu:=aK) (lf:=3000) (l:=[(0,Az n)]) (t:=zBG) aw mixed Tryz.func25 oaa (show Tryz.f25.body=some (aH 25) by kernel_rfl) (Nat.le_of_ble_eq_true rfl) (bK (l:=[(0,Az n)]) vH (aT (Sb n hn hf) rfl bj) rfl) rfl oau (bc
 (an a0
 (have l1:=aU aE (n.rules);an (ac (mko (length (map aE n.rules)) 1) a0)
 (an a0
 (an (Ch (Az n) (S:=nm (KB.L0 (Az n))) rfl (bq (congrArg (fun z=>Ob.row 4 1 z) (EU (f:=aA) (length (map aE n.rules)) false)) dZ) (R8 n)) (an (rfl:false=false) (an a0
 (roE (k:=length (map aE n.rules)) (rfl:(.row 4 1 (map aA ((iQ n).2)):Ob)= .row 4 1 (map aA ((iQ n).2))) (show r25 n=((iQ n).2) from rfl))))))))
 oaa)
theorem Cn (n:Net) (hn:bt n) (hf:bp n):bg pg 25 [gL n] [] [] (.sl 1 ((r25 n).map aA)) []:=
 lC (o:=0) (T:=4) (Cm n hn hf) rfl (by simp [r25,iQ,Dz]) (aY bR _)
def aO (z:Int):List AV:=[I z]
theorem kN (z:Int):ah (aO z)=true:=rfl
@[simp] theorem fw (l:List Int):aj (l.map aO)=true:=aY kN l
@[simp] theorem pv_int (z:Int):ah (aO z)=true:=rfl
@[simp] theorem pv_bool (b:Bool):ah (aA b)=true:=rfl
@[simp] theorem pv_nat (k:Nat):ah (cH k)=true:=rfl
theorem fb {b:List AV} (hb:ah b=true): ∀{a:List (List AV)} (i:Nat),aj a=true->aj (a.set i b)=true
 |[],_,h=>h
 |x::a,0,h=>by simp only [aj,Bool.and_eq_true,List.set_cons_zero] at h⊢;exact ⟨hb,h.2⟩
 |x::a,i+1,h=>by simp only [aj,Bool.and_eq_true,List.set_cons_succ] at h⊢;exact ⟨h.1,fb hb i h.2⟩
attribute [simp] fb jq
@[simp] theorem UP (l:List Bool) (i j:Nat) (b c:Bool):aj (((l.map aA).set i (aA b)).set j (aA c))=true:=fb rfl _ (fb rfl _ (aY bR l))
abbrev eO:=Nat×List Bool×List Int
noncomputable def fi (y:eO) (x:Int):eO:=bif !(ae y.2.1 x.toNat) then (y.1+1,List.set y.2.1 x.toNat true,List.take y.1 y.2.2++ [x]) else y
noncomputable def tgE (n:Net) (emp:List Bool) (e:Edge):List Int:=bif e.op==1 then [] else bif e.op==2 then (aq n.rules e.n).start::(bif aq emp e.n then [e.to] else []) else [e.to]
structure SI (N b:Nat) (y:eO):Prop where
 len:y.2.1.length=N
 kt:y.1<=y.2.2.length
 rng: ∀x∈y.2.2,0<=x/\x<(N:Int)
 bd:y.1+cf y.2.1<=b
theorem SI.push {N b:Nat} {y:eO} (h:SI N b y) {x:Int} (h0:0<=x/\x<(N:Int)):SI N b (fi y x)/\2*cf (fi y x).2.1+(fi y x).1<=2*cf y.2.1+y.1:=by
 unfold fi
 cases hx:ae y.2.1 x.toNat with
 |true=>exact ⟨h,Nat.le_refl _⟩
 |false=>
  have hl:=h.len
  have hc:=Ap (l:=y.2.1) (c:=x.toNat) oab hx
  have hb:=h.bd
  have hk:=h.kt
  simp only [Bool.not_false,cond_true]
  refine ⟨⟨by simp [h.len],by simp;omega,fun z hz=> ?_,by simp only;omega⟩,by omega⟩
  simp only [List.mem_append,List.mem_singleton] at hz
  rcases hz with hz|rfl
  ·exact h.rng z (List.mem_of_mem_take hz)
  ·exact h0
theorem SI.fold {N b:Nat}: ∀(l:List Int) {y:eO},SI N b y->(∀x∈l,0<=x/\x<(N:Int))->SI N b (l.foldl fi y)/\2*cf (l.foldl fi y).2.1+(l.foldl fi y).1<=2*cf y.2.1+y.1
 |[],_,h,_=>⟨h,Nat.le_refl _⟩
 |x::l,y,h,hl=>by
  obtain ⟨h1,h2⟩:=h.push (hl x oai)
  obtain ⟨h3,h4⟩:=SI.fold l h1 fun z hz=>hl z (by simp [hz])
  exact ⟨h3,by simp only [List.foldl_cons];omega⟩
theorem SI.up {N b c:Nat} {y:eO} (h:SI N b y) (hc:b<=c):SI N c y:=⟨h.len,h.kt,h.rng,Nat.le_trans h.bd hc⟩
theorem MK (l:List Bool):cf l<=l.length:=List.count_le_length
theorem SI.pop {N:Nat} {y:eO} (h:SI N (N+1) y):SI N N (y.1-1,y.2.1,y.2.2):=by
 have hl:=h.len
 have hk:=h.kt
 have hb:=h.bd
 have hc:=MK y.2.1
 exact ⟨h.len,by simp only;omega,h.rng,by simp only;omega⟩
theorem fN {α:Type} [Inhabited α] {l:List α} {s:Int} (h:(default:α)≠aq l s\/(0<=s/\s<(l.length:Int))):aq l s∈l:=by
 unfold aq at*
 cases hl:l[s.toNat]? with
 |some x=>exact List.mem_of_getElem? hl
 |none=>
  rcases h with h|h
  ·rw [hl] at h;exact absurd rfl h
  ·have:=List.getElem?_eq_none_iff.1 hl;omega
theorem rP {n:Net} {s:Int} {e:Edge} (h:e∈(aq n.aa s).ai):aq n.aa s∈n.aa:=by
 unfold aq at*
 cases hl:n.aa[s.toNat]? with
 |some x=>exact List.mem_of_getElem? hl
 |none=>rw [hl] at h;simp [default,instInhabitedState.default] at h
theorem rQ {n:Net} (hn:bt n) (emp:List Bool) {s:Int} {e:Edge} (h:e∈(aq n.aa s).ai): ∀x∈tgE n emp e,0<=x/\x<(n.aa.length:Int):=by
 have hs:=rP h
 have ht:=hn.to _ hs _ h
 have hst:e.op=2->0<=(aq n.rules e.n).start/\(aq n.rules e.n).start<(n.aa.length:Int):=fun h2=>hn.start _ (fN (.inr (hn.call _ hs _ h h2)))
 unfold tgE
 cases h1:e.op==1 with
 |true=>simp
 |false=>
  cases h2:e.op==2 with
  |true=>
   have:=hst (eq_of_beq h2)
   cases aq emp e.n<;>simp [this,ht]
  |false=>simp [ht]
def AA:Code:=bP 0 (aH 35)
def DB:Code:=bP 2 AA
def IJ:Code:=bP 4 DB
def AB (n:Net) (emp:List Bool) (i0:Nat) (w2:Nat×(List Bool)×(List Int)) (i4:Nat) (y4:Nat×(List Bool)×(List Int)):Nat×(List Bool)×(List Int):=(bif (ae (aq n.aa (ae w2.2.2 (w2.1-1))).ai i4).op==1 then (y4.1,y4.2.1,y4.2.2) else (bif (ae (aq n.aa (ae w2.2.2 (w2.1-1))).ai i4).op==2 then (bif !(ae y4.2.1 (((aq n.rules (ae (aq n.aa (ae w2.2.2 (w2.1-1))).ai i4).n).start).toNat)) then (bif !(aq emp (ae (aq n.aa (ae w2.2.2 (w2.1-1))).ai i4).n) then (y4.1+1,List.set y4.2.1 (((aq n.rules (ae (aq n.aa (ae w2.2.2 (w2.1-1))).ai i4).n).start).toNat) true,List.take y4.1 y4.2.2++ [(aq n.rules (ae (aq n.aa (ae w2.2.2 (w2.1-1))).ai i4).n).start]) else (bif !(ae (List.set y4.2.1 (((aq n.rules (ae (aq n.aa (ae w2.2.2 (w2.1-1))).ai i4).n).start).toNat) true) (((ae (aq n.aa (ae w2.2.2 (w2.1-1))).ai i4).to).toNat)) then (y4.1+1+1,List.set (List.set y4.2.1 (((aq n.rules (ae (aq n.aa (ae w2.2.2 (w2.1-1))).ai i4).n).start).toNat) true) (((ae (aq n.aa (ae w2.2.2 (w2.1-1))).ai i4).to).toNat) true,List.take (y4.1+1) (List.take y4.1 y4.2.2++ [(aq n.rules (ae (aq n.aa (ae w2.2.2 (w2.1-1))).ai i4).n).start])++ [(ae (aq n.aa (ae w2.2.2 (w2.1-1))).ai i4).to]) else (y4.1+1,List.set y4.2.1 (((aq n.rules (ae (aq n.aa (ae w2.2.2 (w2.1-1))).ai i4).n).start).toNat) true,List.take y4.1 y4.2.2++ [(aq n.rules (ae (aq n.aa (ae w2.2.2 (w2.1-1))).ai i4).n).start]))) else (bif !(aq emp (ae (aq n.aa (ae w2.2.2 (w2.1-1))).ai i4).n) then (y4.1,y4.2.1,y4.2.2) else (bif !(ae y4.2.1 (((ae (aq n.aa (ae w2.2.2 (w2.1-1))).ai i4).to).toNat)) then (y4.1+1,List.set y4.2.1 (((ae (aq n.aa (ae w2.2.2 (w2.1-1))).ai i4).to).toNat) true,List.take y4.1 y4.2.2++ [(ae (aq n.aa (ae w2.2.2 (w2.1-1))).ai i4).to]) else (y4.1,y4.2.1,y4.2.2)))) else (bif !(ae y4.2.1 (((ae (aq n.aa (ae w2.2.2 (w2.1-1))).ai i4).to).toNat)) then (y4.1+1,List.set y4.2.1 (((ae (aq n.aa (ae w2.2.2 (w2.1-1))).ai i4).to).toNat) true,List.take y4.1 y4.2.2++ [(ae (aq n.aa (ae w2.2.2 (w2.1-1))).ai i4).to]) else (y4.1,y4.2.1,y4.2.2))))
def aJ (n:Net) (emp:List Bool) (i0:Nat) (w2:Nat×(List Bool)×(List Int)) (kk:Nat):Nat×(List Bool)×(List Int):=Nat.rec (motive:=fun _=>Nat×(List Bool)×(List Int)) (w2.1-1,w2.2.1,w2.2.2) (fun j a=>AB n emp i0 w2 j a) kk
theorem FT (n:Net) (emp:List Bool) (i0:Nat) (w:eO) (i:Nat) (y:eO):AB n emp i0 w i y=(tgE n emp (ae (aq n.aa (ae w.2.2 (w.1-1))).ai i)).foldl fi y:=by
 unfold AB tgE
 generalize (ae (aq n.aa (ae w.2.2 (w.1-1))).ai i)=e
 obtain ⟨k,inb,todo⟩:=y
 cases e.op==1 with
 |true=>rfl
 |false=>
  cases e.op==2 with
  |true=>
   cases he:aq emp e.n with
   |true=>
    simp only [cond_true,cond_false,Bool.not_true,List.foldl_cons,List.foldl_nil,fi]
    cases ae inb (aq n.rules e.n).start.toNat with
    |true=>simp only [Bool.not_true,cond_false]
    |false=>simp only [Bool.not_false,cond_true]
   |false=>
    simp only [cond_true,cond_false,Bool.not_false,List.foldl_cons,List.foldl_nil,fi]
  |false=>rfl
theorem K0 {n:Net} (hn:bt n) (emp:List Bool) (i0:Nat) {w:eO} (hw:SI n.aa.length (n.aa.length+1) w) (i:Nat) (hi:i<=(aq n.aa (ae w.2.2 (w.1-1))).ai.length):SI n.aa.length n.aa.length (aJ n emp i0 w i)/\2*cf (aJ n emp i0 w i).2.1+(aJ n emp i0 w i).1<=2*cf w.2.1+(w.1-1):=by
 induction i with
 |zero=>exact ⟨hw.pop,Nat.le_refl _⟩
 |succ i ih=>
  obtain ⟨h1,h2⟩:=ih oab
  show SI _ _ (AB n emp i0 w i (aJ n emp i0 w i))/\_
  rw [FT]
  have hst:aJ n emp i0 w (i+1)=AB n emp i0 w i (aJ n emp i0 w i):=rfl
  rw [hst,FT]
  obtain ⟨h3,h4⟩:=SI.fold (tgE n emp (ae (aq n.aa (ae w.2.2 (w.1-1))).ai i)) h1 (rQ hn emp (ay oab))
  exact ⟨h3,by omega⟩
abbrev zCP (w2:Nat×(List Bool)×(List Int)):=(ae w2.2.2 (w2.1-1))
abbrev zCR (emp:List Bool):=(map aA emp)
def fF (n:Net) (emp:List Bool) (i0:Nat) (w2:Nat×(List Bool)×(List Int)) (i4:Nat) (y4:Nat×(List Bool)×(List Int)):Am.Loc:=[(1,.sl 1 (zCR emp)),(2,.pf (aW n)),(5,I (i0:Int)),(6,.sr 0 1 0 (zY n)),(7,.sr 1 1 0 y4.1),(8,I (zCP w2)),(9,I (i4:Int))]
def fG (n:Net) (emp:List Bool) (i0:Nat) (w2:Nat×(List Bool)×(List Int)) (i4:Nat) (y4:Nat×(List Bool)×(List Int)):List Ob:=[.row 4 1 (map aA y4.2.1),.row 3 1 (map aO y4.2.2)]
def oq (n:Net) (emp:List Bool) (i0:Nat) (w2:Nat×(List Bool)×(List Int)) (i4:Nat):Am.Loc:=fF n emp i0 w2 i4 (aJ n emp i0 w2 i4)
def ot (n:Net) (emp:List Bool) (i0:Nat) (w2:Nat×(List Bool)×(List Int)) (i4:Nat):List Ob:=fG n emp i0 w2 i4 (aJ n emp i0 w2 i4)
def kO (n:Net) (emp:List Bool) (i0:Nat) (w2:Nat×(List Bool)×(List Int)) (i4:Nat):Bool:=(!((ae (aq n.aa (ae w2.2.2 (w2.1-1))).ai i4).op==1)&&(bif (ae (aq n.aa (ae w2.2.2 (w2.1-1))).ai i4).op==2 then (((aq n.rules (ae (aq n.aa (ae w2.2.2 (w2.1-1))).ai i4).n).start==(i0:Int))||(!(!(aq emp (ae (aq n.aa (ae w2.2.2 (w2.1-1))).ai i4).n))&&((ae (aq n.aa (ae w2.2.2 (w2.1-1))).ai i4).to==(i0:Int)))) else ((ae (aq n.aa (ae w2.2.2 (w2.1-1))).ai i4).to==(i0:Int))))
def wA (n:Net) (emp:List Bool) (i0:Nat) (w2:Nat×(List Bool)×(List Int)):Bool:=cX (length (aq n.aa (ae w2.2.2 (w2.1-1))).ai) (kO n emp i0 w2)
def AD (n:Net) (emp:List Bool) (i0:Nat) (w2:Nat×(List Bool)×(List Int)) (i4:Nat):Am.Loc:=[(4,B true)]
def AE (n:Net) (emp:List Bool) (i0:Nat) (w2:Nat×(List Bool)×(List Int)) (i4:Nat):List Ob:=[]
abbrev zD (n:Net) (w2:Nat×(List Bool)×(List Int)):=(aq n.aa (zCP w2)).ai
abbrev zAP (n:Net) (w2:Nat×(List Bool)×(List Int)):=(length (zD n w2))
def po (n:Net) (emp:List Bool) (i0:Nat) (w2:Nat×(List Bool)×(List Int)):Am.Loc:=[(1,.sl 1 (zCR emp)),(2,.pf (aW n)),(5,I (i0:Int)),(6,.sr 0 1 0 (zY n)),(7,.sr 1 1 0 ((aJ n emp i0 w2 (zAP n w2)).1))]
def pq (n:Net) (emp:List Bool) (i0:Nat) (w2:Nat×(List Bool)×(List Int)):List Ob:=[.row 4 1 (map aA ((aJ n emp i0 w2 (zAP n w2)).2.1)),.row 3 1 (map aO ((aJ n emp i0 w2 (zAP n w2)).2.2))]
abbrev zAA (w2:Nat×(List Bool)×(List Int)):=(decide (((w2.1:Nat):Int)>0))
def AF (n:Net) (emp:List Bool) (i0:Nat) (w2:Nat×(List Bool)×(List Int)):KB:=⟨oq n emp i0 w2 0,ot n emp i0 w2 0,wA n emp i0 w2,.ret,AD n emp i0 w2 (b4 (zAP n w2) (kO n emp i0 w2)),AE n emp i0 w2 (b4 (zAP n w2) (kO n emp i0 w2)),.normal,po n emp i0 w2,pq n emp i0 w2,(zAA w2)=true⟩
abbrev zBD (i4:Nat) (n:Net) (w2:Nat×(List Bool)×(List Int)):=(aq n.rules (ae (zD n w2) i4).n).start
abbrev zBN:=(range 2)
def iB (n:Net) (emp:List Bool) (i0:Nat) (w2:Nat×(List Bool)×(List Int)) (i4:Nat):List bG:=[nxW (kO n emp i0 w2 i4) (oq n emp i0 w2 (i4+1)) (ot n emp i0 w2 (i4+1)) (fF n emp i0 w2 (i4+1) ((aJ n emp i0 w2 i4).1,(aJ n emp i0 w2 i4).2.1,(aJ n emp i0 w2 i4).2.2)) zBN (fG n emp i0 w2 (i4+1) ((aJ n emp i0 w2 i4).1,(aJ n emp i0 w2 i4).2.1,(aJ n emp i0 w2 i4).2.2)),htW (kO n emp i0 w2 i4) .ret (AD n emp i0 w2 i4) zb (AE n emp i0 w2 i4),nxW (kO n emp i0 w2 i4) (oq n emp i0 w2 (i4+1)) (ot n emp i0 w2 (i4+1)) (fF n emp i0 w2 (i4+1) ((aJ n emp i0 w2 i4).1+1,List.set ((aJ n emp i0 w2 i4).2.1) (((zBD i4 n w2)).toNat) true,List.take ((aJ n emp i0 w2 i4).1) ((aJ n emp i0 w2 i4).2.2)++ [(zBD i4 n w2)])) [0,3] (fG n emp i0 w2 (i4+1) ((aJ n emp i0 w2 i4).1+1,List.set ((aJ n emp i0 w2 i4).2.1) (((zBD i4 n w2)).toNat) true,List.take ((aJ n emp i0 w2 i4).1) ((aJ n emp i0 w2 i4).2.2)++ [(zBD i4 n w2)])),nxW (kO n emp i0 w2 i4) (oq n emp i0 w2 (i4+1)) (ot n emp i0 w2 (i4+1)) (fF n emp i0 w2 (i4+1) ((aJ n emp i0 w2 i4).1+1+1,List.set (List.set ((aJ n emp i0 w2 i4).2.1) (((zBD i4 n w2)).toNat) true) (((ae (zD n w2) i4).to).toNat) true,List.take ((aJ n emp i0 w2 i4).1+1) (List.take ((aJ n emp i0 w2 i4).1) ((aJ n emp i0 w2 i4).2.2)++ [(zBD i4 n w2)])++ [(ae (zD n w2) i4).to])) [0,4] (fG n emp i0 w2 (i4+1) ((aJ n emp i0 w2 i4).1+1+1,List.set (List.set ((aJ n emp i0 w2 i4).2.1) (((zBD i4 n w2)).toNat) true) (((ae (zD n w2) i4).to).toNat) true,List.take ((aJ n emp i0 w2 i4).1+1) (List.take ((aJ n emp i0 w2 i4).1) ((aJ n emp i0 w2 i4).2.2)++ [(zBD i4 n w2)])++ [(ae (zD n w2) i4).to])),nxW (kO n emp i0 w2 i4) (oq n emp i0 w2 (i4+1)) (ot n emp i0 w2 (i4+1)) (fF n emp i0 w2 (i4+1) ((aJ n emp i0 w2 i4).1+1,List.set ((aJ n emp i0 w2 i4).2.1) (((ae (zD n w2) i4).to).toNat) true,List.take ((aJ n emp i0 w2 i4).1) ((aJ n emp i0 w2 i4).2.2)++ [(ae (zD n w2) i4).to])) [0,3] (fG n emp i0 w2 (i4+1) ((aJ n emp i0 w2 i4).1+1,List.set ((aJ n emp i0 w2 i4).2.1) (((ae (zD n w2) i4).to).toNat) true,List.take ((aJ n emp i0 w2 i4).1) ((aJ n emp i0 w2 i4).2.2)++ [(ae (zD n w2) i4).to]))]
def Xq (n:Net) (emp:List Bool) (i0:Nat) (w2:Nat×(List Bool)×(List Int)) (i4:Nat):GT:=(.r [.cd ((ae w2.2.2 (w2.1-1))).toNat (ak (aq n.aa (ae w2.2.2 (w2.1-1)))),.k,bT] (.yes (.r [.cd ((ae w2.2.2 (w2.1-1))).toNat (ak (aq n.aa (ae w2.2.2 (w2.1-1)))),.row (aV (ae (aq n.aa (ae w2.2.2 (w2.1-1))).ai i4)),bT] (.r [.k,bT] (.br (.r [.int ↑(i4+1),bT] (.pick 0)) (.r [bT] (.r [.k,bT] (.br (.r [.cd ((ae (aq n.aa (ae w2.2.2 (w2.1-1))).ai i4).n).toNat (aE (aq n.rules (ae (aq n.aa (ae w2.2.2 (w2.1-1))).ai i4).n)),bT] (.r [bT] (.more (.r [.k,bT] (.r [.k,bT] (.br (.r [bT] (.pick 1)) (.r [.cd (((aq n.rules (ae (aq n.aa (ae w2.2.2 (w2.1-1))).ai i4).n).start).toNat) [],.at (((aq n.rules (ae (aq n.aa (ae w2.2.2 (w2.1-1))).ai i4).n).start).toNat) 0 (aA (ae ((aJ n emp i0 w2 i4).2.1) (((aq n.rules (ae (aq n.aa (ae w2.2.2 (w2.1-1))).ai i4).n).start).toNat))),bT] (.br (.r [.cd (((aq n.rules (ae (aq n.aa (ae w2.2.2 (w2.1-1))).ai i4).n).start).toNat) [],.at (((aq n.rules (ae (aq n.aa (ae w2.2.2 (w2.1-1))).ai i4).n).start).toNat) 0 (aA (ae ((aJ n emp i0 w2 i4).2.1) (((aq n.rules (ae (aq n.aa (ae w2.2.2 (w2.1-1))).ai i4).n).start).toNat))),bT] (.r [bT] (.r (.k::uTT 4 [.cd ((ae (aq n.aa (ae w2.2.2 (w2.1-1))).ai i4).n).toNat (aA (aq emp (ae (aq n.aa (ae w2.2.2 (w2.1-1))).ai i4).n)),bT,bT,bT]) (.br (.r [.int ↑(i4+1),bT] (.pick 2)) (.r [bT] (.r [.int 1,bT] (.r [.k,bT] (.r [.k,bT] (.br (.r [bT] (.pick 1)) (.r [.cd (((ae (aq n.aa (ae w2.2.2 (w2.1-1))).ai i4).to).toNat) [],.at (((ae (aq n.aa (ae w2.2.2 (w2.1-1))).ai i4).to).toNat) 0 (aA (ae (List.set ((aJ n emp i0 w2 i4).2.1) (((aq n.rules (ae (aq n.aa (ae w2.2.2 (w2.1-1))).ai i4).n).start).toNat) true) (((ae (aq n.aa (ae w2.2.2 (w2.1-1))).ai i4).to).toNat))),bT] (.br (.r [.cd (((ae (aq n.aa (ae w2.2.2 (w2.1-1))).ai i4).to).toNat) [],.at (((ae (aq n.aa (ae w2.2.2 (w2.1-1))).ai i4).to).toNat) 0 (aA (ae (List.set ((aJ n emp i0 w2 i4).2.1) (((aq n.rules (ae (aq n.aa (ae w2.2.2 (w2.1-1))).ai i4).n).start).toNat) true) (((ae (aq n.aa (ae w2.2.2 (w2.1-1))).ai i4).to).toNat))),bT] (.r [bT] (.r (.k::uTT 4 [.cd ((ae (aq n.aa (ae w2.2.2 (w2.1-1))).ai i4).n).toNat (aA (aq emp (ae (aq n.aa (ae w2.2.2 (w2.1-1))).ai i4).n)),bT,bT,bT]) (.no (.r [bT] (.r [.int 2,bT] (.r [.k,bT] (.r [.int ↑(i4+1),bT] (.pick 3))))))))) (.r (.k::uTT 4 [.cd ((ae (aq n.aa (ae w2.2.2 (w2.1-1))).ai i4).n).toNat (aA (aq emp (ae (aq n.aa (ae w2.2.2 (w2.1-1))).ai i4).n)),bT,bT,bT]) (.no (.r [bT] (.r [.int 2,bT] (.r [.k,bT] (.r [.int ↑(i4+1),bT] (.pick 2)))))))))))))))))) (.r (.k::uTT 4 [.cd ((ae (aq n.aa (ae w2.2.2 (w2.1-1))).ai i4).n).toNat (aA (aq emp (ae (aq n.aa (ae w2.2.2 (w2.1-1))).ai i4).n)),bT,bT,bT]) (.br (.r [.int ↑(i4+1),bT] (.pick 0)) (.r [bT] (.r [.int 1,bT] (.r [.k,bT] (.r [.k,bT] (.br (.r [bT] (.pick 1)) (.r [.cd (((ae (aq n.aa (ae w2.2.2 (w2.1-1))).ai i4).to).toNat) [],.at (((ae (aq n.aa (ae w2.2.2 (w2.1-1))).ai i4).to).toNat) 0 (aA (ae ((aJ n emp i0 w2 i4).2.1) (((ae (aq n.aa (ae w2.2.2 (w2.1-1))).ai i4).to).toNat))),bT] (.br (.r [.cd (((ae (aq n.aa (ae w2.2.2 (w2.1-1))).ai i4).to).toNat) [],.at (((ae (aq n.aa (ae w2.2.2 (w2.1-1))).ai i4).to).toNat) 0 (aA (ae ((aJ n emp i0 w2 i4).2.1) (((ae (aq n.aa (ae w2.2.2 (w2.1-1))).ai i4).to).toNat))),bT] (.r [bT] (.r (.k::uTT 4 [.cd ((ae (aq n.aa (ae w2.2.2 (w2.1-1))).ai i4).n).toNat (aA (aq emp (ae (aq n.aa (ae w2.2.2 (w2.1-1))).ai i4).n)),bT,bT,bT]) (.no (.r [bT] (.r [.int 2,bT] (.r [.k,bT] (.r [.int ↑(i4+1),bT] (.pick 4))))))))) (.r (.k::uTT 4 [.cd ((ae (aq n.aa (ae w2.2.2 (w2.1-1))).ai i4).n).toNat (aA (aq emp (ae (aq n.aa (ae w2.2.2 (w2.1-1))).ai i4).n)),bT,bT,bT]) (.no (.r [bT] (.r [.int 2,bT] (.r [.k,bT] (.r [.int ↑(i4+1),bT] (.pick 0)))))))))))))))))))))))) (.r [bT] (.more (.r [.k,bT] (.r [.k,bT] (.br (.r [bT] (.pick 1)) (.r [.cd (((ae (aq n.aa (ae w2.2.2 (w2.1-1))).ai i4).to).toNat) [],.at (((ae (aq n.aa (ae w2.2.2 (w2.1-1))).ai i4).to).toNat) 0 (aA (ae ((aJ n emp i0 w2 i4).2.1) (((ae (aq n.aa (ae w2.2.2 (w2.1-1))).ai i4).to).toNat))),bT] (.br (.r [.cd (((ae (aq n.aa (ae w2.2.2 (w2.1-1))).ai i4).to).toNat) [],.at (((ae (aq n.aa (ae w2.2.2 (w2.1-1))).ai i4).to).toNat) 0 (aA (ae ((aJ n emp i0 w2 i4).2.1) (((ae (aq n.aa (ae w2.2.2 (w2.1-1))).ai i4).to).toNat))),bT] (.r [bT] (.r (.k::uFF 6 [bT]) (.r [.int ↑(i4+1),bT] (.pick 4))))) (.r (.k::uFF 6 [bT]) (.r [.int ↑(i4+1),bT] (.pick 0))))))))))))))))))
theorem Y7 (n:Net) (emp:List Bool) (i0:Nat) (w2:Nat×(List Bool)×(List Int)) (i4:Nat) (hn:bt n) (hf:bp n) (hm:length emp=length n.rules) (hx0:i0<(length n.aa)) (hw2:SI (length n.aa) (length n.aa+1) w2) (hp4:(zAA w2)=true) (hx4:i4<(length (aq n.aa (ae w2.2.2 (w2.1-1))).ai)):vcC pg 107 base aK 3000 (kbL []) IJ (bz (oq n emp i0 w2 i4)) (bw (ot n emp i0 w2 i4)) 2 (bM (iB n emp i0 w2 i4)) (Xq n emp i0 w2 i4):=
 have hr:=hf.rules;have hs:=hf.aa;have gp0:=of_decide_eq_true hp4;have hk2:=hw2.kt;have hl2:=hw2.len;have hb2:=hw2.bd;have hs2:0<w2.1->(0<=ae w2.2.2 (w2.1-1)/\ae w2.2.2 (w2.1-1)<(length n.aa:Int)):=fun h=>hw2.rng _ (ay oab);have he:=hf.ai;have hm4:(aq n.aa (ae w2.2.2 (w2.1-1)))∈Net.aa n:=rP (ay hx4);have hel:=hf.ai _ hm4;have hto:=hn.to _ hm4 _ (ay hx4);have hca:=hn.call _ hm4 _ (ay hx4);have hst:=fun h=>hn.start _ (fN (.inr (hca h)));have hsi:=(K0 hn emp i0 hw2 i4 (Nat.le_of_lt hx4)).1;have b1:=hsi.len;have b2:=hsi.kt;have b3:=hsi.bd;have l1:=aU aV ((aq n.aa (ae w2.2.2 (w2.1-1))).ai);have hb:(decide ((i4:Int)<(length (map aV (aq n.aa (ae w2.2.2 (w2.1-1))).ai):Int)))=true:=decide_eq_true oab;
 bc (have l2:=aU ak (n.aa);an (a1 (ac (rwz ak n.aa (ae w2.2.2 (w2.1-1))) a0))
 (an hb (an (ac (rwa aV (aq n.aa (ae w2.2.2 (w2.1-1))).ai i4) (ac (rwz ak n.aa (ae w2.2.2 (w2.1-1))) a0))
 (an (a1 a0)
 (brP (fun (h1:((ae (aq n.aa (ae w2.2.2 (w2.1-1))).ai i4).op==1)=true)=>have g1:=eq_of_beq h1;
 (an (ac (dwo ((i4+1:Nat):Int)) a0)
 (lf (wy (iB n emp i0 w2 i4) 0) 3 (nxP (fF n emp i0 w2 (i4+1)) (fG n emp i0 w2 (i4+1)) (show kO n emp i0 w2 i4=false from (bf (cq h1))) (show aJ n emp i0 w2 (i4+1)=((aJ n emp i0 w2 i4).1,(aJ n emp i0 w2 i4).2.1,(aJ n emp i0 w2 i4).2.2) from (cdT h1 rfl)))))) (fun h1=>have q0:=(aD (au h1) rfl:kO n emp i0 w2 i4=_);have g1:=ne_of_beq_false h1;
 (an a0
 (an (a1 a0)
 (brP (fun (h2:((ae (aq n.aa (ae w2.2.2 (w2.1-1))).ai i4).op==2)=true)=>have q1:=q0.trans (cdT h2 rfl);have g2:=eq_of_beq h2;
 (have l3:=aU aE (n.rules);an (ac (rwz aE n.rules (ae (aq n.aa (ae w2.2.2 (w2.1-1))).ai i4).n) a0)
 (an a0
 (an (a1 a0)
 (an (a1 a0)
 (brP (fun (h3:((aq n.rules (ae (aq n.aa (ae w2.2.2 (w2.1-1))).ai i4).n).start==(i0:Int))=true)=>
 (an a0
 (lf (wy (iB n emp i0 w2 i4) 1) 3 (q1.trans (orT h3))))) (fun h3=>have q3:=q1.trans (orF h3 rfl);
 (an (ac (ato 1 0 (((aq n.rules (ae (aq n.aa (ae w2.2.2 (w2.1-1))).ai i4).n).start).toNat) (rl aA ((aJ n emp i0 w2 i4).2.1))) (ac (ixz (aq n.rules (ae (aq n.aa (ae w2.2.2 (w2.1-1))).ai i4).n).start (length (map ak n.aa))) a0))
 (brP (fun (h4:(!(ae ((aJ n emp i0 w2 i4).2.1) (((aq n.rules (ae (aq n.aa (ae w2.2.2 (w2.1-1))).ai i4).n).start).toNat)))=true)=>
 (an (ac (sto 1 0 1 (((aq n.rules (ae (aq n.aa (ae w2.2.2 (w2.1-1))).ai i4).n).start).toNat) (rl aA ((aJ n emp i0 w2 i4).2.1))) (ac (ixz (aq n.rules (ae (aq n.aa (ae w2.2.2 (w2.1-1))).ai i4).n).start (length (map ak n.aa))) a0))
 (an (ac (apo ((aJ n emp i0 w2 i4).1) 8 (rl aO ((aJ n emp i0 w2 i4).2.2))) a0)
 (have l4:=aU aA (emp);an (aN 2 (ac (rwz aA emp (ae (aq n.aa (ae w2.2.2 (w2.1-1))).ai i4).n) (aN 3 (ac (au (show ((ae (aq n.aa (ae w2.2.2 (w2.1-1))).ai i4).op !=2)=false by rw [eq_of_beq h2];rfl)) (a1 a0)))))
 (brP (fun (h5:(!(aq emp (ae (aq n.aa (ae w2.2.2 (w2.1-1))).ai i4).n))=true)=>
 (an (ac (dwo ((i4+1:Nat):Int)) a0)
 (lfE (wy (iB n emp i0 w2 i4) 2) 4 (nxP (fF n emp i0 w2 (i4+1)) (fG n emp i0 w2 (i4+1)) (q3.trans (bf (cq h5))) (show aJ n emp i0 w2 (i4+1)=((aJ n emp i0 w2 i4).1+1,List.set ((aJ n emp i0 w2 i4).2.1) (((aq n.rules (ae (aq n.aa (ae w2.2.2 (w2.1-1))).ai i4).n).start).toNat) true,List.take ((aJ n emp i0 w2 i4).1) ((aJ n emp i0 w2 i4).2.2)++ [(aq n.rules (ae (aq n.aa (ae w2.2.2 (w2.1-1))).ai i4).n).start]) from (cdF h1 (cdT h2 (cdT h4 (cdT h5 rfl)))))) (bq (congrArg (fun z=>Ob.row 4 1 z) (jr (f:=aA) (rl aA ((aJ n emp i0 w2 i4).2.1)) (((aq n.rules (ae (aq n.aa (ae w2.2.2 (w2.1-1))).ai i4).n).start).toNat) true)) (bq (congrArg (fun z=>Ob.row 3 1 z) (apT (f:=aO) (rl aO ((aJ n emp i0 w2 i4).2.2)) ((aJ n emp i0 w2 i4).1) (aq n.rules (ae (aq n.aa (ae w2.2.2 (w2.1-1))).ai i4).n).start)) dZ))))) (fun h5=>have q4:=q3.trans (aD (au h5) rfl);
 (an a0
 (an (ac (eV (1:Int)) a0)
 (an (a1 a0)
 (an (a1 a0)
 (brP (fun (h6:((ae (aq n.aa (ae w2.2.2 (w2.1-1))).ai i4).to==(i0:Int))=true)=>
 (an a0
 (lf (wy (iB n emp i0 w2 i4) 1) 4 (q4.trans h6)))) (fun h6=>
 (an (ac (ato 1 0 (((ae (aq n.aa (ae w2.2.2 (w2.1-1))).ai i4).to).toNat) (jr (f:=aA) (rl aA ((aJ n emp i0 w2 i4).2.1)) (((aq n.rules (ae (aq n.aa (ae w2.2.2 (w2.1-1))).ai i4).n).start).toNat) true) oaC) (ac (ixz (ae (aq n.aa (ae w2.2.2 (w2.1-1))).ai i4).to (length (map ak n.aa))) a0))
 (brP (fun (h7:(!(ae (List.set ((aJ n emp i0 w2 i4).2.1) (((aq n.rules (ae (aq n.aa (ae w2.2.2 (w2.1-1))).ai i4).n).start).toNat) true) (((ae (aq n.aa (ae w2.2.2 (w2.1-1))).ai i4).to).toNat)))=true)=>
 (an (ac (sto 1 0 1 (((ae (aq n.aa (ae w2.2.2 (w2.1-1))).ai i4).to).toNat) (jr (f:=aA) (rl aA ((aJ n emp i0 w2 i4).2.1)) (((aq n.rules (ae (aq n.aa (ae w2.2.2 (w2.1-1))).ai i4).n).start).toNat) true) oaC) (ac (ixz (ae (aq n.aa (ae w2.2.2 (w2.1-1))).ai i4).to (length (map ak n.aa))) a0))
 (an (ac (apo ((aJ n emp i0 w2 i4).1+1) 8 (apT (f:=aO) (rl aO ((aJ n emp i0 w2 i4).2.2)) ((aJ n emp i0 w2 i4).1) (aq n.rules (ae (aq n.aa (ae w2.2.2 (w2.1-1))).ai i4).n).start)) a0)
 (an (aN 2 (ac (rwz aA emp (ae (aq n.aa (ae w2.2.2 (w2.1-1))).ai i4).n) (aN 3 (ac (au (show ((ae (aq n.aa (ae w2.2.2 (w2.1-1))).ai i4).op !=2)=false by rw [eq_of_beq h2];rfl)) (a1 a0)))))
 (an h5 (an a0
 (an (ac (eV (2:Int)) a0)
 (an (a1 a0)
 (an (ac (dwo ((i4+1:Nat):Int)) a0)
 (lfE (wy (iB n emp i0 w2 i4) 3) 5 (nxP (fF n emp i0 w2 (i4+1)) (fG n emp i0 w2 (i4+1)) (q4.trans h6) (show aJ n emp i0 w2 (i4+1)=((aJ n emp i0 w2 i4).1+1+1,List.set (List.set ((aJ n emp i0 w2 i4).2.1) (((aq n.rules (ae (aq n.aa (ae w2.2.2 (w2.1-1))).ai i4).n).start).toNat) true) (((ae (aq n.aa (ae w2.2.2 (w2.1-1))).ai i4).to).toNat) true,List.take ((aJ n emp i0 w2 i4).1+1) (List.take ((aJ n emp i0 w2 i4).1) ((aJ n emp i0 w2 i4).2.2)++ [(aq n.rules (ae (aq n.aa (ae w2.2.2 (w2.1-1))).ai i4).n).start])++ [(ae (aq n.aa (ae w2.2.2 (w2.1-1))).ai i4).to]) from (cdF h1 (cdT h2 (cdT h4 (cdF h5 (cdT h7 rfl))))))) (bq (congrArg (fun z=>Ob.row 4 1 z) (jr (f:=aA) (jr (f:=aA) (rl aA ((aJ n emp i0 w2 i4).2.1)) (((aq n.rules (ae (aq n.aa (ae w2.2.2 (w2.1-1))).ai i4).n).start).toNat) true) (((ae (aq n.aa (ae w2.2.2 (w2.1-1))).ai i4).to).toNat) true)) (bq (congrArg (fun z=>Ob.row 3 1 z) (apT (f:=aO) (apT (f:=aO) (rl aO ((aJ n emp i0 w2 i4).2.2)) ((aJ n emp i0 w2 i4).1) (aq n.rules (ae (aq n.aa (ae w2.2.2 (w2.1-1))).ai i4).n).start) ((aJ n emp i0 w2 i4).1+1) (ae (aq n.aa (ae w2.2.2 (w2.1-1))).ai i4).to)) dZ)))))))))))) (fun h7=>
 (an (aN 2 (ac (rwz aA emp (ae (aq n.aa (ae w2.2.2 (w2.1-1))).ai i4).n) (aN 3 (ac (au (show ((ae (aq n.aa (ae w2.2.2 (w2.1-1))).ai i4).op !=2)=false by rw [eq_of_beq h2];rfl)) (a1 a0)))))
 (an h5 (an a0
 (an (ac (eV (2:Int)) a0)
 (an (a1 a0)
 (an (ac (dwo ((i4+1:Nat):Int)) a0)
 (lfE (wy (iB n emp i0 w2 i4) 2) 4 (nxP (fF n emp i0 w2 (i4+1)) (fG n emp i0 w2 (i4+1)) (q4.trans h6) (show aJ n emp i0 w2 (i4+1)=((aJ n emp i0 w2 i4).1+1,List.set ((aJ n emp i0 w2 i4).2.1) (((aq n.rules (ae (aq n.aa (ae w2.2.2 (w2.1-1))).ai i4).n).start).toNat) true,List.take ((aJ n emp i0 w2 i4).1) ((aJ n emp i0 w2 i4).2.2)++ [(aq n.rules (ae (aq n.aa (ae w2.2.2 (w2.1-1))).ai i4).n).start]) from (cdF h1 (cdT h2 (cdT h4 (cdF h5 (cdF h7 rfl))))))) (bq (congrArg (fun z=>Ob.row 4 1 z) (jr (f:=aA) (rl aA ((aJ n emp i0 w2 i4).2.1)) (((aq n.rules (ae (aq n.aa (ae w2.2.2 (w2.1-1))).ai i4).n).start).toNat) true)) (bq (congrArg (fun z=>Ob.row 3 1 z) (apT (f:=aO) (rl aO ((aJ n emp i0 w2 i4).2.2)) ((aJ n emp i0 w2 i4).1) (aq n.rules (ae (aq n.aa (ae w2.2.2 (w2.1-1))).ai i4).n).start)) dZ)))))))))))))))))))))))) (fun h4=>
 (have l4:=aU aA (emp);an (aN 2 (ac (rwz aA emp (ae (aq n.aa (ae w2.2.2 (w2.1-1))).ai i4).n) (aN 3 (ac (au (show ((ae (aq n.aa (ae w2.2.2 (w2.1-1))).ai i4).op !=2)=false by rw [eq_of_beq h2];rfl)) (a1 a0)))))
 (brP (fun (h5:(!(aq emp (ae (aq n.aa (ae w2.2.2 (w2.1-1))).ai i4).n))=true)=>
 (an (ac (dwo ((i4+1:Nat):Int)) a0)
 (lf (wy (iB n emp i0 w2 i4) 0) 3 (nxP (fF n emp i0 w2 (i4+1)) (fG n emp i0 w2 (i4+1)) (q3.trans (bf (cq h5))) (show aJ n emp i0 w2 (i4+1)=((aJ n emp i0 w2 i4).1,(aJ n emp i0 w2 i4).2.1,(aJ n emp i0 w2 i4).2.2) from (cdF h1 (cdT h2 (cdF h4 (cdT h5 rfl))))))))) (fun h5=>have q5:=q3.trans (aD (au h5) rfl);
 (an a0
 (an (ac (eV (1:Int)) a0)
 (an (a1 a0)
 (an (a1 a0)
 (brP (fun (h6:((ae (aq n.aa (ae w2.2.2 (w2.1-1))).ai i4).to==(i0:Int))=true)=>
 (an a0
 (lf (wy (iB n emp i0 w2 i4) 1) 3 (q5.trans h6)))) (fun h6=>
 (an (ac (ato 1 0 (((ae (aq n.aa (ae w2.2.2 (w2.1-1))).ai i4).to).toNat) (rl aA ((aJ n emp i0 w2 i4).2.1))) (ac (ixz (ae (aq n.aa (ae w2.2.2 (w2.1-1))).ai i4).to (length (map ak n.aa))) a0))
 (brP (fun (h7:(!(ae ((aJ n emp i0 w2 i4).2.1) (((ae (aq n.aa (ae w2.2.2 (w2.1-1))).ai i4).to).toNat)))=true)=>
 (an (ac (sto 1 0 1 (((ae (aq n.aa (ae w2.2.2 (w2.1-1))).ai i4).to).toNat) (rl aA ((aJ n emp i0 w2 i4).2.1))) (ac (ixz (ae (aq n.aa (ae w2.2.2 (w2.1-1))).ai i4).to (length (map ak n.aa))) a0))
 (an (ac (apo ((aJ n emp i0 w2 i4).1) 8 (rl aO ((aJ n emp i0 w2 i4).2.2))) a0)
 (an (aN 2 (ac (rwz aA emp (ae (aq n.aa (ae w2.2.2 (w2.1-1))).ai i4).n) (aN 3 (ac (au (show ((ae (aq n.aa (ae w2.2.2 (w2.1-1))).ai i4).op !=2)=false by rw [eq_of_beq h2];rfl)) (a1 a0)))))
 (an h5 (an a0
 (an (ac (eV (2:Int)) a0)
 (an (a1 a0)
 (an (ac (dwo ((i4+1:Nat):Int)) a0)
 (lfE (wy (iB n emp i0 w2 i4) 4) 4 (nxP (fF n emp i0 w2 (i4+1)) (fG n emp i0 w2 (i4+1)) (q5.trans h6) (show aJ n emp i0 w2 (i4+1)=((aJ n emp i0 w2 i4).1+1,List.set ((aJ n emp i0 w2 i4).2.1) (((ae (aq n.aa (ae w2.2.2 (w2.1-1))).ai i4).to).toNat) true,List.take ((aJ n emp i0 w2 i4).1) ((aJ n emp i0 w2 i4).2.2)++ [(ae (aq n.aa (ae w2.2.2 (w2.1-1))).ai i4).to]) from (cdF h1 (cdT h2 (cdF h4 (cdF h5 (cdT h7 rfl))))))) (bq (congrArg (fun z=>Ob.row 4 1 z) (jr (f:=aA) (rl aA ((aJ n emp i0 w2 i4).2.1)) (((ae (aq n.aa (ae w2.2.2 (w2.1-1))).ai i4).to).toNat) true)) (bq (congrArg (fun z=>Ob.row 3 1 z) (apT (f:=aO) (rl aO ((aJ n emp i0 w2 i4).2.2)) ((aJ n emp i0 w2 i4).1) (ae (aq n.aa (ae w2.2.2 (w2.1-1))).ai i4).to)) dZ)))))))))))) (fun h7=>
 (an (aN 2 (ac (rwz aA emp (ae (aq n.aa (ae w2.2.2 (w2.1-1))).ai i4).n) (aN 3 (ac (au (show ((ae (aq n.aa (ae w2.2.2 (w2.1-1))).ai i4).op !=2)=false by rw [eq_of_beq h2];rfl)) (a1 a0)))))
 (an h5 (an a0
 (an (ac (eV (2:Int)) a0)
 (an (a1 a0)
 (an (ac (dwo ((i4+1:Nat):Int)) a0)
 (lf (wy (iB n emp i0 w2 i4) 0) 3 (nxP (fF n emp i0 w2 (i4+1)) (fG n emp i0 w2 (i4+1)) (q5.trans h6) (show aJ n emp i0 w2 (i4+1)=((aJ n emp i0 w2 i4).1,(aJ n emp i0 w2 i4).2.1,(aJ n emp i0 w2 i4).2.2) from (cdF h1 (cdT h2 (cdF h4 (cdF h5 (cdF h7 rfl)))))))))))))))))))))))))))))))))))) (fun h2=>have q2:=q0.trans (cdF h2 rfl);have g2:=ne_of_beq_false h2;
 (an a0
 (an (a1 a0)
 (an (a1 a0)
 (brP (fun (h3:((ae (aq n.aa (ae w2.2.2 (w2.1-1))).ai i4).to==(i0:Int))=true)=>
 (an a0
 (lf (wy (iB n emp i0 w2 i4) 1) 3 (q2.trans h3)))) (fun h3=>
 (an (ac (ato 1 0 (((ae (aq n.aa (ae w2.2.2 (w2.1-1))).ai i4).to).toNat) (rl aA ((aJ n emp i0 w2 i4).2.1))) (ac (ixz (ae (aq n.aa (ae w2.2.2 (w2.1-1))).ai i4).to (length (map ak n.aa))) a0))
 (brP (fun (h4:(!(ae ((aJ n emp i0 w2 i4).2.1) (((ae (aq n.aa (ae w2.2.2 (w2.1-1))).ai i4).to).toNat)))=true)=>
 (an (ac (sto 1 0 1 (((ae (aq n.aa (ae w2.2.2 (w2.1-1))).ai i4).to).toNat) (rl aA ((aJ n emp i0 w2 i4).2.1))) (ac (ixz (ae (aq n.aa (ae w2.2.2 (w2.1-1))).ai i4).to (length (map ak n.aa))) a0))
 (an (ac (apo ((aJ n emp i0 w2 i4).1) 8 (rl aO ((aJ n emp i0 w2 i4).2.2))) a0)
 (an (aN 5 (ac (n2 (show ((ae (aq n.aa (ae w2.2.2 (w2.1-1))).ai i4).op !=2)=true by rw [bne,h2];rfl)) (a1 a0)))
 (an (ac (dwo ((i4+1:Nat):Int)) a0)
 (lfE (wy (iB n emp i0 w2 i4) 4) 4 (nxP (fF n emp i0 w2 (i4+1)) (fG n emp i0 w2 (i4+1)) (q2.trans h3) (show aJ n emp i0 w2 (i4+1)=((aJ n emp i0 w2 i4).1+1,List.set ((aJ n emp i0 w2 i4).2.1) (((ae (aq n.aa (ae w2.2.2 (w2.1-1))).ai i4).to).toNat) true,List.take ((aJ n emp i0 w2 i4).1) ((aJ n emp i0 w2 i4).2.2)++ [(ae (aq n.aa (ae w2.2.2 (w2.1-1))).ai i4).to]) from (cdF h1 (cdF h2 (cdT h4 rfl))))) (bq (congrArg (fun z=>Ob.row 4 1 z) (jr (f:=aA) (rl aA ((aJ n emp i0 w2 i4).2.1)) (((ae (aq n.aa (ae w2.2.2 (w2.1-1))).ai i4).to).toNat) true)) (bq (congrArg (fun z=>Ob.row 3 1 z) (apT (f:=aO) (rl aO ((aJ n emp i0 w2 i4).2.2)) ((aJ n emp i0 w2 i4).1) (ae (aq n.aa (ae w2.2.2 (w2.1-1))).ai i4).to)) dZ)))))))) (fun h4=>
 (an (aN 5 (ac (n2 (show ((ae (aq n.aa (ae w2.2.2 (w2.1-1))).ai i4).op !=2)=true by rw [bne,h2];rfl)) (a1 a0)))
 (an (ac (dwo ((i4+1:Nat):Int)) a0)
 (lf (wy (iB n emp i0 w2 i4) 0) 3 (nxP (fF n emp i0 w2 (i4+1)) (fG n emp i0 w2 (i4+1)) (q2.trans h3) (show aJ n emp i0 w2 (i4+1)=((aJ n emp i0 w2 i4).1,(aJ n emp i0 w2 i4).2.1,(aJ n emp i0 w2 i4).2.2) from (cdF h1 (cdF h2 (cdF h4 rfl))))))))))))))))))))))))))
 oaa
abbrev zBR (n:Net) (w2:Nat×(List Bool)×(List Int)):=(decide ((((length (aq n.aa (ae w2.2.2 (w2.1-1))).ai):Nat):Int)<(length (map aV (aq n.aa (ae w2.2.2 (w2.1-1))).ai):Int)))
theorem Y8 (n:Net) (emp:List Bool) (i0:Nat) (w2:Nat×(List Bool)×(List Int)) (hn:bt n) (hf:bp n) (hm:length emp=length n.rules) (hx0:i0<(length n.aa)) (hw2:SI (length n.aa) (length n.aa+1) w2) (hp4:(zAA w2)=true):vcC pg 107 base aK 3000 (kbL []) IJ (bz (oq n emp i0 w2 (zAP n w2))) (bw (ot n emp i0 w2 (zAP n w2))) 2 (bM [⟨True,(.exit 4),po n emp i0 w2,range 2,pq n emp i0 w2⟩]) (.r [.cd ((zCP w2)).toNat (ak (aq n.aa (zCP w2))),.k,bT] (.no (.pick 0))):=
 have hr:=hf.rules;have hs:=hf.aa;have gp0:=of_decide_eq_true hp4;have hk2:=hw2.kt;have hl2:=hw2.len;have hb2:=hw2.bd;have hs2:0<w2.1->(0<=ae w2.2.2 (w2.1-1)/\ae w2.2.2 (w2.1-1)<(length n.aa:Int)):=fun h=>hw2.rng _ (ay oab);have l1:=aU aV ((aq n.aa (ae w2.2.2 (w2.1-1))).ai);have hb:(zBR n w2)=false:=decide_eq_false oab;
 bc (have l2:=aU ak (n.aa);an (a1 (ac (rwz ak n.aa (ae w2.2.2 (w2.1-1))) a0))
 (an hb (lf (wy [⟨True,(.exit 4),po n emp i0 w2,range 2,pq n emp i0 w2⟩] 0) 2 trivial)))
 oaa
theorem Sc (n:Net) (emp:List Bool) (i0:Nat) (w2:Nat×(List Bool)×(List Int)) (i4:Nat):(iB n emp i0 w2 i4).all zj=true:=by refine (aF (aR rfl rfl rfl ?_ ?_) (aF (aR rfl rfl rfl ?_ ?_) (aF (aR rfl rfl rfl ?_ ?_) (aF (aR rfl rfl rfl ?_ ?_) (aF (aR rfl rfl rfl ?_ ?_) bC)))))<;>simp (maxDischargeDepth:=9) [nxW,htW,fF,oq,AD,po,plS,AV.pure,ah,aj,fG,ot,AE,pq,plO,eC,dG]
theorem Sd (n:Net) (emp:List Bool) (i0:Nat) (w2:Nat×(List Bool)×(List Int)):bG.cS 0 ⟨True,(.exit 4),po n emp i0 w2,range 2,pq n emp i0 w2⟩=true:=by refine (aR rfl rfl rfl ?_ ?_)<;>simp (maxDischargeDepth:=9) [nxW,htW,fF,oq,AD,po,plS,AV.pure,ah,aj,fG,ot,AE,pq,plO,eC,dG]
theorem Se (n:Net) (emp:List Bool) (i0:Nat) (w2:Nat×(List Bool)×(List Int)) (hn:bt n) (hf:bp n) (hm:length emp=length n.rules) (hx0:i0<(length n.aa)) (hw2:SI (length n.aa) (length n.aa+1) w2):cQ pg 107 0 4 (.loop IJ) (AF n emp i0 w2):=
 have hr:=hf.rules;have hs:=hf.aa;bW (fun hp4=>eB (id:=4) (m:=length (aq n.aa (ae w2.2.2 (w2.1-1))).ai) (t:=kO n emp i0 w2) (xr:= .ret) (xn:=(.exit 4)) (Lr:=AD n emp i0 w2) (Lx:=po n emp i0 w2) (obr:=AE n emp i0 w2) (obx:=pq n emp i0 w2) (V:=fun i4=>vcC pg 107 base aK 3000 (kbL []) IJ) (oq n emp i0 w2) (ot n emp i0 w2) 2 (iB n emp i0 w2) (Xq n emp i0 w2) _ _ (fun i4 hx4=>aL aw mixed (az _)) (aL aw mixed (az _)) (fun e=>by cases e) (fun e=>by cases e) (fun _=>rfl) (fun i4 hx4=>Y7 n emp i0 w2 i4 hn hf hm hx0 hw2 hp4 hx4) (fun i4 _=>Sc n emp i0 w2 i4) (fun i4 _=>show∀ww∈iB n emp i0 w2 i4,cm _ _ _ _ _ _ ww from (aC bU (aC cT (aC bU (aC bU (aC bU bB)))))) (Y8 n emp i0 w2 hn hf hm hx0 hw2 hp4) (Sd n emp i0 w2)) (fun h=>h) (fun h=>h)
def AG (n:Net) (emp:List Bool) (i0:Nat) (w2:Nat×(List Bool)×(List Int)):Nat×(List Bool)×(List Int):=((aJ n emp i0 w2 (length (aq n.aa (ae w2.2.2 (w2.1-1))).ai)).1,(aJ n emp i0 w2 (length (aq n.aa (ae w2.2.2 (w2.1-1))).ai)).2.1,(aJ n emp i0 w2 (length (aq n.aa (ae w2.2.2 (w2.1-1))).ai)).2.2)
def dh (n:Net) (emp:List Bool) (i0 kk:Nat):Nat×(List Bool)×(List Int):=Nat.rec (motive:=fun _=>Nat×(List Bool)×(List Int)) (1,replicate (length (map ak n.aa)) false,[(i0:Int)]) (fun _ a=>AG n emp i0 a) kk
def iC (n:Net) (emp:List Bool) (i0:Nat) (w2:Nat×(List Bool)×(List Int)):Bool:=(bif decide (((w2.1:Nat):Int)>0) then (wA n emp i0 w2) else true)
def uN (n:Net) (emp:List Bool) (i0:Nat) (w2:Nat×(List Bool)×(List Int)):Bool:=(decide (((w2.1:Nat):Int)>0))
def rR (n:Net) (emp:List Bool) (i0:Nat):Nat×(List Bool)×(List Int):=dh n emp i0 (dA (iC n emp i0) (dh n emp i0))
theorem Sf {n:Net} (hn:bt n) (emp:List Bool) (i0:Nat) (hi:i0<n.aa.length): ∀k,SI n.aa.length (n.aa.length+1) (dh n emp i0 k)
 |0=>⟨by show (replicate _ _).length=_;simp,Nat.le_refl _,fun x hx=>by
   have hx:x∈ [(i0:Int)]:=hx
   simp only [List.mem_singleton] at hx
   omega,by
   show 1+cf (replicate _ _)<=_
   have:=MK (replicate (length (map ak n.aa)) false)
   simp only [List.length_replicate,List.length_map] at this⊢
   omega⟩
 |k+1=>(K0 hn emp i0 (Sf hn emp i0 hi k) _ (Nat.le_refl _)).1.up (Nat.le_succ _)
theorem Sg {n:Net} (hn:bt n) (emp:List Bool) (i0:Nat) (hi:i0<n.aa.length):(∃k,iC n emp i0 (dh n emp i0 k)=true)/\ ∀k,k<=dA (iC n emp i0) (dh n emp i0)->SI n.aa.length (n.aa.length+1) (dh n emp i0 k):=by
 refine ⟨?_,fun k _=>Sf hn emp i0 hi k⟩
 by_cases h: ∃k,iC n emp i0 (dh n emp i0 k)=true
 ·exact h
 ·have h: ∀k,0<(dh n emp i0 k).1:=fun k=>by
   have hk:iC n emp i0 (dh n emp i0 k)≠true:=fun e=>h ⟨k,e⟩
   by_cases h0:0<(dh n emp i0 k).1
   ·exact h0
   ·refine absurd ?_ hk
    unfold iC
    rw [show decide ((((dh n emp i0 k).1:Nat):Int)>0)=false from decide_eq_false oab]
    rfl
  have key: ∀k,2*cf (dh n emp i0 k).2.1+(dh n emp i0 k).1+k<=2*cf (dh n emp i0 0).2.1+(dh n emp i0 0).1:=fun k=>by
   induction k with
   |zero=>exact Nat.le_refl _
   |succ k ih=>
    have h1:=(K0 hn emp i0 (Sf hn emp i0 hi k) _ (Nat.le_refl _)).2
    have h2:=h k
    have h3:dh n emp i0 (k+1)=aJ n emp i0 (dh n emp i0 k) (length (aq n.aa (ae (dh n emp i0 k).2.2 ((dh n emp i0 k).1-1))).ai):=rfl
    rw [h3]
    omega
  have:=key (2*cf (dh n emp i0 0).2.1+(dh n emp i0 0).1+1)
  omega
def AH (n:Net) (emp:List Bool) (i0:Nat) (w2:Nat×(List Bool)×(List Int)):Am.Loc:=[(1,.sl 1 (zCR emp)),(2,.pf (aW n)),(5,I (i0:Int)),(6,.sr 0 1 0 (zY n)),(7,.sr 1 1 0 w2.1)]
def FU (n:Net) (emp:List Bool) (i0:Nat) (w2:Nat×(List Bool)×(List Int)):Am.Loc:=[(4,B true)]
def FV (n:Net) (emp:List Bool) (i0:Nat) (w2:Nat×(List Bool)×(List Int)):Am.Loc:=[(1,.sl 1 (zCR emp)),(2,.pf (aW n)),(5,I (i0:Int))]
def AI (n:Net) (emp:List Bool) (i0:Nat) (w2:Nat×(List Bool)×(List Int)):List Ob:=[.row 4 1 (map aA w2.2.1),.row 3 1 (map aO w2.2.2)]
def FW (n:Net) (emp:List Bool) (i0:Nat) (w2:Nat×(List Bool)×(List Int)):List Ob:=[]
def FX (n:Net) (emp:List Bool) (i0:Nat) (w2:Nat×(List Bool)×(List Int)):List Ob:=[.row 4 1 (map aA w2.2.1),.row 3 1 (map aO w2.2.2)]
def tD (n:Net) (emp:List Bool) (i0:Nat):KB:=⟨AH n emp i0 (dh n emp i0 0),AI n emp i0 (dh n emp i0 0),uN n emp i0 (rR n emp i0),.ret,FU n emp i0 (rR n emp i0),FW n emp i0 (rR n emp i0),.normal,FV n emp i0 (rR n emp i0),FX n emp i0 (rR n emp i0),(∃k,iC n emp i0 (dh n emp i0 k)=true)/\ ∀k,k<=dA (iC n emp i0) (dh n emp i0)->SI (zH n) (length n.aa+1) (dh n emp i0 k)⟩
def AJ (n:Net) (emp:List Bool) (i0:Nat) (w2:Nat×(List Bool)×(List Int)):List bG:=[whW (iC n emp i0 w2) (uN n emp i0 w2) .ret (FU n emp i0 w2) zb (FW n emp i0 w2),nxW (iC n emp i0 w2) (AH n emp i0 (AG n emp i0 w2)) (AI n emp i0 (AG n emp i0 w2)) (AH n emp i0 ((aJ n emp i0 w2 (zAP n w2)).1,(aJ n emp i0 w2 (zAP n w2)).2.1,(aJ n emp i0 w2 (zAP n w2)).2.2)) zBN (AI n emp i0 ((aJ n emp i0 w2 (zAP n w2)).1,(aJ n emp i0 w2 (zAP n w2)).2.1,(aJ n emp i0 w2 (zAP n w2)).2.2)),wxW (iC n emp i0 w2) (uN n emp i0 w2) (.exit 2) (FV n emp i0 w2) zBN (FX n emp i0 w2)]
def Xr (n:Net) (emp:List Bool) (i0:Nat) (w2:Nat×(List Bool)×(List Int)):GT:=(.r [.k,bT] (.br (.r [.int ((w2.1-1:Nat):Int),.at (w2.1-1) 0 (aO (ae w2.2.2 (w2.1-1))),bT] (.r [.int ((w2.1-1:Nat):Int),bT] (.r [bT] (.br (.pick 0) (.pick 1))))) (.pick 2)))
theorem Y9 (n:Net) (emp:List Bool) (i0:Nat) (w2:Nat×(List Bool)×(List Int)) (hn:bt n) (hf:bp n) (hm:length emp=length n.rules) (hx0:i0<(length n.aa)) (hw2:SI (length n.aa) (length n.aa+1) w2):vcC pg 107 base aK 3000 (kbL [(4,AF n emp i0 w2)]) DB (bz (AH n emp i0 w2)) (bw (AI n emp i0 w2)) 2 (bM (AJ n emp i0 w2)) (Xr n emp i0 w2):=
 have hr:=hf.rules;have hs:=hf.aa;have hk2:=hw2.kt;have hl2:=hw2.len;have hb2:=hw2.bd;have hs2:0<w2.1->(0<=ae w2.2.2 (w2.1-1)/\ae w2.2.2 (w2.1-1)<(length n.aa:Int)):=fun h=>hw2.rng _ (ay oab);bc (an (a1 a0)
 (brP (fun (h0:(zAA w2)=true)=>have g0:=of_decide_eq_true h0;
 (an (ac (ato 1 0 (w2.1-1) (rl aO w2.2.2)) (ac (ixo (w2.1-1) w2.1) (ac (dso w2.1) a0)))
 (an (ac (slo 0 (w2.1-1) w2.1) (ac (dso w2.1) a0))
 (an a0
 (an (kbT (AF n emp i0 w2) h0) (brP (fun (h1:(wA n emp i0 w2)=true)=>
 (lf (wy (AJ n emp i0 w2) 0) 0 ⟨show iC n emp i0 w2=true from (cdT h0 h1),show uN n emp i0 w2=true from h0⟩)) (fun h1=>
 (lf (wy (AJ n emp i0 w2) 1) 2 (nxP (AH n emp i0) (AI n emp i0) (show iC n emp i0 w2=false from (cdT h0 h1)) (show (AG n emp i0 w2)=((aJ n emp i0 w2 (length (aq n.aa (ae w2.2.2 (w2.1-1))).ai)).1,(aJ n emp i0 w2 (length (aq n.aa (ae w2.2.2 (w2.1-1))).ai)).2.1,(aJ n emp i0 w2 (length (aq n.aa (ae w2.2.2 (w2.1-1))).ai)).2.2) from rfl)))))))))) (fun h0=>
 (lf (wy (AJ n emp i0 w2) 2) 2 ⟨show iC n emp i0 w2=true from (cdF h0 rfl),show uN n emp i0 w2=false from h0⟩))))
 oaa
theorem Sh (n:Net) (emp:List Bool) (i0:Nat) (w2:Nat×(List Bool)×(List Int)):(AJ n emp i0 w2).all zj=true:=by refine (aF (aR rfl rfl rfl ?_ ?_) (aF (aR rfl rfl rfl ?_ ?_) (aF (aR rfl rfl rfl ?_ ?_) bC)))<;>simp (maxDischargeDepth:=9) [nxW,whW,wxW,AH,FU,FV,plS,AV.pure,ah,aj,AI,FW,FX,plO,eC,dG]
theorem FY:dp [4] DB=[(4,.loop IJ)]:=by kernel_rfl
theorem Si (n:Net) (emp:List Bool) (i0:Nat) (hn:bt n) (hf:bp n) (hm:length emp=length n.rules) (hx0:i0<(length n.aa)):cQ pg 107 0 2 (.loop DB) (tD n emp i0):=
 have hr:=hf.rules;have hs:=hf.aa;bW (fun hp2=>sO (id:=2) (t:=iC n emp i0) (hit:=uN n emp i0) (it:=dh n emp i0) (step:=AG n emp i0) (fun _=>rfl) (I:=fun w2=>SI (length n.aa) (length n.aa+1) w2) (xr:= .ret) (xn:=(.exit 2)) (Lr:=FU n emp i0) (Lx:=FV n emp i0) (obr:=FW n emp i0) (obx:=FX n emp i0) (V:=fun w2=>vcC pg 107 base aK 3000 (kbL [(4,AF n emp i0 w2)]) DB) (AH n emp i0) (AI n emp i0) 2 (AJ n emp i0) (Xr n emp i0) (fun w2 hw2=>aL aw mixed (bK (l:=[(4,AF n emp i0 w2)]) FY (aT (Se n emp i0 w2 hn hf hm hx0 hw2) rfl bj) rfl)) (fun e=>by cases e) (fun e=>by cases e) (fun _=>rfl) (fun w2 hw2=>Y9 n emp i0 w2 hn hf hm hx0 hw2) (fun w2 _=>Sh n emp i0 w2) (fun w2 _=>show∀ww∈AJ n emp i0 w2,lF _ _ _ _ _ _ _ _ _ _ ww from (aC J3 (aC nK (aC sN bB)))) hp2.1 hp2.2) (fun h=>h) (fun h=>h)
def AK (n:Net) (emp:List Bool) (i0:Nat):Am.Loc:=[(1,.sl 1 (zCR emp)),(2,.pf (aW n)),(5,I (i0:Int))]
def DC (n:Net) (emp:List Bool) (i0:Nat):List Ob:=[]
def lY (n:Net) (emp:List Bool) (i0:Nat):Bool:=(uN n emp i0 (rR n emp i0))
def FZ (n:Net) (emp:List Bool):Bool:=cX (length n.aa) (lY n emp)
def F0 (n:Net) (emp:List Bool) (i0:Nat):Am.Loc:=[(4,B true)]
def K1 (n:Net) (emp:List Bool) (i0:Nat):List Ob:=[]
def tE (n:Net) (emp:List Bool):Am.Loc:=[]
def AL (n:Net) (emp:List Bool):List Ob:=[]
def F1 (n:Net) (emp:List Bool):KB:=⟨AK n emp 0,DC n emp 0,FZ n emp,.ret,F0 n emp (b4 (zH n) (lY n emp)),K1 n emp (b4 (zH n) (lY n emp)),.normal,tE n emp,AL n emp,True⟩
def DD (n:Net) (emp:List Bool) (i0:Nat):List bG:=[htW (lY n emp i0) .ret (F0 n emp i0) zb (K1 n emp i0),nxW (lY n emp i0) (AK n emp (i0+1)) (DC n emp (i0+1)) (AK n emp (i0+1)) zb (DC n emp (i0+1))]
def Xs (n:Net) (emp:List Bool) (i0:Nat):GT:=(.r [.k,bT] (.yes (.r [bT] (.r [bT] (.br (.pick 0) (.r [.int ↑(i0+1),bT] (.pick 1)))))))
theorem Za (n:Net) (emp:List Bool) (i0:Nat) (hn:bt n) (hf:bp n) (hm:length emp=length n.rules) (hx0:i0<(length n.aa)):vcC pg 107 base aK 3000 (kbL [(2,tD n emp i0)]) AA (bz (AK n emp i0)) (bw (DC n emp i0)) 0 (bM (DD n emp i0)) (Xs n emp i0):=
 have hr:=hf.rules;have hs:=hf.aa;have l1:=aU ak (n.aa);have hb:(zc i0 n)=true:=decide_eq_true oab;
 bc (an (a1 a0)
 (an hb (an (ac (mko (length (map ak n.aa)) 1) a0)
 (an a0
 (an (Ch (tD n emp i0) (S:=nm (KB.L0 (tD n emp i0))) rfl (bq (congrArg (fun z=>Ob.row 4 1 z) (EU (f:=aA) (length (map ak n.aa)) false)) (bq (rfl:(.row 3 1 [(cH i0)]:Ob)= .row 3 1 [(cH i0)]) dZ)) (Sg hn emp i0 hx0)) (brP (fun (h1:(uN n emp i0 (rR n emp i0))=true)=>
 (lf (wy (DD n emp i0) 0) 0 (show lY n emp i0=true from h1))) (fun h1=>
 (an (ac (dwo ((i0+1:Nat):Int)) a0)
 (lf (wy (DD n emp i0) 1) 2 ⟨(show lY n emp i0=false from h1),rfl,rfl⟩)))))))))
 oaa
theorem Zb (n:Net) (emp:List Bool) (hn:bt n) (hf:bp n) (hm:length emp=length n.rules):vcC pg 107 base aK 3000 (kbL []) AA (bz (AK n emp (zH n))) (bw (DC n emp (zH n))) 0 (bM [⟨True,(.exit 0),tE n emp,range 0,AL n emp⟩]) zG:=
 have hr:=hf.rules;have hs:=hf.aa;have l1:=aU ak (n.aa);have hb:(zO n)=false:=decide_eq_false oab;
 bc (an (a1 a0)
 (an hb (lf (wy [⟨True,(.exit 0),tE n emp,range 0,AL n emp⟩] 0) 0 trivial)))
 oaa
theorem Sj (n:Net) (emp:List Bool) (i0:Nat):(DD n emp i0).all zj=true:=by refine (aF (aR rfl rfl rfl ?_ rfl) (aF (aR rfl rfl rfl ?_ rfl) bC))<;>simp (maxDischargeDepth:=9) [nxW,htW,AK,F0,tE,plS,AV.pure,ah,aj]
theorem Sl (n:Net) (emp:List Bool):bG.cS 0 ⟨True,(.exit 0),tE n emp,range 0,AL n emp⟩=true:=(aR rfl rfl rfl rfl rfl)
theorem F2:dp [2] AA=[(2,.loop DB)]:=by kernel_rfl
theorem Sm (n:Net) (emp:List Bool) (hn:bt n) (hf:bp n) (hm:length emp=length n.rules):cQ pg 107 0 0 (.loop AA) (F1 n emp):=
 have hr:=hf.rules;have hs:=hf.aa;bW (fun _=>eB (id:=0) (m:=length n.aa) (t:=lY n emp) (xr:= .ret) (xn:=(.exit 0)) (Lr:=F0 n emp) (Lx:=tE n emp) (obr:=K1 n emp) (obx:=AL n emp) (V:=fun i0=>vcC pg 107 base aK 3000 (kbL [(2,tD n emp i0)]) AA) (AK n emp) (DC n emp) 0 (DD n emp) (Xs n emp) _ _ (fun i0 hx0=>aL aw mixed (bK (l:=[(2,tD n emp i0)]) F2 (aT (Si n emp i0 hn hf hm hx0) rfl bj) rfl)) (aL aw mixed (az _)) (fun e=>by cases e) (fun e=>by cases e) (fun _=>rfl) (fun i0 hx0=>Za n emp i0 hn hf hm hx0) (fun i0 _=>Sj n emp i0) (fun i0 _=>show∀ww∈DD n emp i0,cm _ _ _ _ _ _ ww from (aC cT (aC bU bB))) (Zb n emp hn hf hm) (Sl n emp)) (fun h=>h) (fun h=>h)
def r35 (n:Net) (emp:List Bool):Bool:=(FZ n emp)
theorem vI:dp [0] (aH 35)=[(0,.loop AA)]:=by kernel_rfl
theorem Zc (n:Net) (emp:List Bool) (hn:bt n) (hf:bp n) (hm:length emp=length n.rules):bg pg 35 [.ag (aW n),.sl 1 (zCR emp)] [] [] (B (r35 n emp)) []:=
 bD (fn:=Tryz.f35) (callf:=base) (pu:=aK) (lf:=3000) (l:=[(0,F1 n emp)]) (t:=zh) aw mixed Tryz.func35 oaa (show Tryz.f35.body=some (aH 35) by kernel_rfl) (Nat.le_of_ble_eq_true rfl) (bK (l:=[(0,F1 n emp)]) vI (aT (Sm n emp hn hf hm) rfl bj) rfl) rfl (bc
 (an a0
 (an a0
 (an (kbT (F1 n emp) trivial) (brP (fun (h0:(FZ n emp)=true)=>
 (bE (show r35 n emp=true from h0))) (fun h0=>
 (an a0
 (bE (show r35 n emp=false from h0))))))))
 oaa)
noncomputable def tgC (e:Edge):List Int:=bif e.op !=2 then [] else [e.n]
theorem V3 {n:Net} (hn:bt n) {s:State} (hs:s∈n.aa) {e:Edge} (h:e∈s.ai): ∀x∈tgC e,0<=x/\x<(n.rules.length:Int):=by
 have hc:=hn.call _ hs _ h
 unfold tgC
 cases h2:e.op !=2 with
 |true=>simp
 |false=>
  have:=hc (by simpa using h2)
  simp [this]
def AM:Code:=bP 0 (aH 36)
def DE:Code:=bP 2 AM
def AN:Code:=bP 4 DE
def IK:Code:=bP 6 AN
def F3 (n:Net) (i0:Nat) (w2:Nat×(List Bool)×(List Int)) (i4:Nat) (y4:Nat×(List Bool)×(List Int)) (i6:Nat) (y6:Nat×(List Bool)×(List Int)):Nat×(List Bool)×(List Int):=(bif (ae (ae n.aa i4).ai i6).op !=2 then (y6.1,y6.2.1,y6.2.2) else (bif !(ae y6.2.1 (((ae (ae n.aa i4).ai i6).n).toNat)) then (y6.1+1,List.set y6.2.1 (((ae (ae n.aa i4).ai i6).n).toNat) true,List.take y6.1 y6.2.2++ [(ae (ae n.aa i4).ai i6).n]) else (y6.1,y6.2.1,y6.2.2)))
def bY (n:Net) (i0:Nat) (w2:Nat×(List Bool)×(List Int)) (i4:Nat) (y4:Nat×(List Bool)×(List Int)) (kk:Nat):Nat×(List Bool)×(List Int):=Nat.rec (motive:=fun _=>Nat×(List Bool)×(List Int)) (y4.1,y4.2.1,y4.2.2) (fun j a=>F3 n i0 w2 i4 y4 j a) kk
theorem DF (n:Net) (i0:Nat) (w2:eO) (i4:Nat) (y4:eO) (i6:Nat) (y:eO):F3 n i0 w2 i4 y4 i6 y=(tgC (ae (ae n.aa i4).ai i6)).foldl fi y:=by
 unfold F3 tgC
 obtain ⟨k,inb,todo⟩:=y
 cases Edge.op (ae (ae n.aa i4).ai i6) !=2<;>rfl
theorem Sn {n:Net} (hn:bt n) (i0:Nat) (w2:eO) (i4:Nat) (hi4:i4<n.aa.length) {y4:eO} (hy:SI n.rules.length n.rules.length y4) (i:Nat) (hi:i<=(ae n.aa i4).ai.length):SI n.rules.length n.rules.length (bY n i0 w2 i4 y4 i)/\2*cf (bY n i0 w2 i4 y4 i).2.1+(bY n i0 w2 i4 y4 i).1<=2*cf y4.2.1+y4.1:=by
 induction i with
 |zero=>exact ⟨hy,Nat.le_refl _⟩
 |succ i ih=>
  obtain ⟨h1,h2⟩:=ih oab
  have hst:bY n i0 w2 i4 y4 (i+1)=F3 n i0 w2 i4 y4 i (bY n i0 w2 i4 y4 i):=rfl
  rw [hst,DF]
  obtain ⟨h3,h4⟩:=SI.fold (tgC (ae (ae n.aa i4).ai i)) h1 (V3 hn (ay hi4) (ay oab))
  exact ⟨h3,by omega⟩
def m8 (n:Net) (i0:Nat) (w2:Nat×(List Bool)×(List Int)) (i4:Nat) (y4:Nat×(List Bool)×(List Int)) (i6:Nat) (y6:Nat×(List Bool)×(List Int)):Am.Loc:=[(1,.pf (aW n)),(3,I (i0:Int)),(4,.sr 0 1 0 (zB n)),(5,.sr 1 1 0 y6.1),(6,I (zCP w2)),(7,I (i4:Int)),(8,I (i6:Int))]
def m9 (n:Net) (i0:Nat) (w2:Nat×(List Bool)×(List Int)) (i4:Nat) (y4:Nat×(List Bool)×(List Int)) (i6:Nat) (y6:Nat×(List Bool)×(List Int)):List Ob:=[.row 4 1 (map aA y6.2.1),.row 3 1 (map aO y6.2.2)]
def uO (n:Net) (i0:Nat) (w2:Nat×(List Bool)×(List Int)) (i4:Nat) (y4:Nat×(List Bool)×(List Int)) (i6:Nat):Am.Loc:=m8 n i0 w2 i4 y4 i6 (bY n i0 w2 i4 y4 i6)
def uP (n:Net) (i0:Nat) (w2:Nat×(List Bool)×(List Int)) (i4:Nat) (y4:Nat×(List Bool)×(List Int)) (i6:Nat):List Ob:=m9 n i0 w2 i4 y4 i6 (bY n i0 w2 i4 y4 i6)
def nc (n:Net) (i0:Nat) (w2:Nat×(List Bool)×(List Int)) (i4:Nat) (y4:Nat×(List Bool)×(List Int)) (i6:Nat):Bool:=(!((ae (ae n.aa i4).ai i6).op !=2)&&((ae (ae n.aa i4).ai i6).n==(i0:Int)))
def wB (n:Net) (i0:Nat) (w2:Nat×(List Bool)×(List Int)) (i4:Nat) (y4:Nat×(List Bool)×(List Int)):Bool:=cX (length (ae n.aa i4).ai) (nc n i0 w2 i4 y4)
def AO (n:Net) (i0:Nat) (w2:Nat×(List Bool)×(List Int)) (i4:Nat) (y4:Nat×(List Bool)×(List Int)) (i6:Nat):Am.Loc:=[(2,B true)]
def AP (n:Net) (i0:Nat) (w2:Nat×(List Bool)×(List Int)) (i4:Nat) (y4:Nat×(List Bool)×(List Int)) (i6:Nat):List Ob:=[]
abbrev zAH (i4:Nat) (n:Net):=(length (ae n.aa i4).ai)
def pr (n:Net) (i0:Nat) (w2:Nat×(List Bool)×(List Int)) (i4:Nat) (y4:Nat×(List Bool)×(List Int)):Am.Loc:=[(1,.pf (aW n)),(3,I (i0:Int)),(4,.sr 0 1 0 (zB n)),(5,.sr 1 1 0 ((bY n i0 w2 i4 y4 (zAH i4 n)).1)),(6,I (zCP w2)),(7,I (i4:Int))]
def pw (n:Net) (i0:Nat) (w2:Nat×(List Bool)×(List Int)) (i4:Nat) (y4:Nat×(List Bool)×(List Int)):List Ob:=[.row 4 1 (map aA ((bY n i0 w2 i4 y4 (zAH i4 n)).2.1)),.row 3 1 (map aO ((bY n i0 w2 i4 y4 (zAH i4 n)).2.2))]
def AQ (n:Net) (i0:Nat) (w2:Nat×(List Bool)×(List Int)) (i4:Nat) (y4:Nat×(List Bool)×(List Int)):KB:=⟨uO n i0 w2 i4 y4 0,uP n i0 w2 i4 y4 0,wB n i0 w2 i4 y4,.ret,AO n i0 w2 i4 y4 (b4 (zAH i4 n) (nc n i0 w2 i4 y4)),AP n i0 w2 i4 y4 (b4 (zAH i4 n) (nc n i0 w2 i4 y4)),.normal,pr n i0 w2 i4 y4,pw n i0 w2 i4 y4,True⟩
def uQ (n:Net) (i0:Nat) (w2:Nat×(List Bool)×(List Int)) (i4:Nat) (y4:Nat×(List Bool)×(List Int)) (i6:Nat):List bG:=[nxW (nc n i0 w2 i4 y4 i6) (uO n i0 w2 i4 y4 (i6+1)) (uP n i0 w2 i4 y4 (i6+1)) (m8 n i0 w2 i4 y4 (i6+1) ((bY n i0 w2 i4 y4 i6).1,(bY n i0 w2 i4 y4 i6).2.1,(bY n i0 w2 i4 y4 i6).2.2)) zBN (m9 n i0 w2 i4 y4 (i6+1) ((bY n i0 w2 i4 y4 i6).1,(bY n i0 w2 i4 y4 i6).2.1,(bY n i0 w2 i4 y4 i6).2.2)),htW (nc n i0 w2 i4 y4 i6) .ret (AO n i0 w2 i4 y4 i6) zb (AP n i0 w2 i4 y4 i6),nxW (nc n i0 w2 i4 y4 i6) (uO n i0 w2 i4 y4 (i6+1)) (uP n i0 w2 i4 y4 (i6+1)) (m8 n i0 w2 i4 y4 (i6+1) ((bY n i0 w2 i4 y4 i6).1+1,List.set ((bY n i0 w2 i4 y4 i6).2.1) (((ae (ae n.aa i4).ai i6).n).toNat) true,List.take ((bY n i0 w2 i4 y4 i6).1) ((bY n i0 w2 i4 y4 i6).2.2)++ [(ae (ae n.aa i4).ai i6).n])) [0,3] (m9 n i0 w2 i4 y4 (i6+1) ((bY n i0 w2 i4 y4 i6).1+1,List.set ((bY n i0 w2 i4 y4 i6).2.1) (((ae (ae n.aa i4).ai i6).n).toNat) true,List.take ((bY n i0 w2 i4 y4 i6).1) ((bY n i0 w2 i4 y4 i6).2.2)++ [(ae (ae n.aa i4).ai i6).n]))]
def Xt (n:Net) (i0:Nat) (w2:Nat×(List Bool)×(List Int)) (i4:Nat) (y4:Nat×(List Bool)×(List Int)) (i6:Nat):GT:=(.r [.row (ak (ae n.aa i4)),.k,bT] (.yes (.r [.row (ak (ae n.aa i4)),.row (aV (ae (ae n.aa i4).ai i6)),bT] (.r [.k,bT] (.br (.r [.int ↑(i6+1),bT] (.pick 0)) (.r [.k,bT] (.br (.r [bT] (.pick 1)) (.r [.cd (((ae (ae n.aa i4).ai i6).n).toNat) [],.at (((ae (ae n.aa i4).ai i6).n).toNat) 0 (aA (ae ((bY n i0 w2 i4 y4 i6).2.1) (((ae (ae n.aa i4).ai i6).n).toNat))),bT] (.br (.r [.cd (((ae (ae n.aa i4).ai i6).n).toNat) [],.at (((ae (ae n.aa i4).ai i6).n).toNat) 0 (aA (ae ((bY n i0 w2 i4 y4 i6).2.1) (((ae (ae n.aa i4).ai i6).n).toNat))),bT] (.r [bT] (.r [.int ↑(i6+1),bT] (.pick 2)))) (.r [.int ↑(i6+1),bT] (.pick 0)))))))))))
theorem Zd (n:Net) (i0:Nat) (w2:Nat×(List Bool)×(List Int)) (i4:Nat) (y4:Nat×(List Bool)×(List Int)) (i6:Nat) (hn:bt n) (hf:bp n) (hx0:i0<(length n.rules)) (hw2:SI (length n.rules) (length n.rules+1) w2) (hp4:(zAA w2)=true) (hx4:i4<(length n.aa)) (hy4:SI (length n.rules) (length n.rules) y4) (hx6:i6<(length (ae n.aa i4).ai)):vcC pg 101 base aK 3000 (kbL []) IK (bz (uO n i0 w2 i4 y4 i6)) (bw (uP n i0 w2 i4 y4 i6)) 2 (bM (uQ n i0 w2 i4 y4 i6)) (Xt n i0 w2 i4 y4 i6):=
 have hr:=hf.rules;have hs:=hf.aa;have hm4:=ay hx4;have hel:=hf.ai _ hm4;have hca:=hn.call _ hm4 _ (ay hx6);have hsi:=(Sn hn i0 w2 i4 hx4 hy4 i6 (Nat.le_of_lt hx6)).1;have b1:=hsi.len;have b2:=hsi.kt;have b3:=hsi.bd;have l1:=aU aV ((ae n.aa i4).ai);have hb:(decide ((i6:Int)<(length (map aV (ae n.aa i4).ai):Int)))=true:=decide_eq_true oab;
 bc (an (a1 (ac (rwa ak n.aa i4) a0))
 (an hb (an (ac (rwa aV (ae n.aa i4).ai i6) (ac (rwa ak n.aa i4) a0))
 (an (a1 a0)
 (brP (fun (h1:((ae (ae n.aa i4).ai i6).op !=2)=true)=>have g1:=JY h1;
 (an (ac (dwo ((i6+1:Nat):Int)) a0)
 (lf (wy (uQ n i0 w2 i4 y4 i6) 0) 3 (nxP (m8 n i0 w2 i4 y4 (i6+1)) (m9 n i0 w2 i4 y4 (i6+1)) (show nc n i0 w2 i4 y4 i6=false from (bf (cq h1))) (show bY n i0 w2 i4 y4 (i6+1)=((bY n i0 w2 i4 y4 i6).1,(bY n i0 w2 i4 y4 i6).2.1,(bY n i0 w2 i4 y4 i6).2.2) from (cdT h1 rfl)))))) (fun h1=>have q0:=(aD (au h1) rfl:nc n i0 w2 i4 y4 i6=_);have g1:=fu h1;
 (an (a1 a0)
 (brP (fun (h2:((ae (ae n.aa i4).ai i6).n==(i0:Int))=true)=>
 (an a0
 (lf (wy (uQ n i0 w2 i4 y4 i6) 1) 3 (q0.trans h2)))) (fun h2=>
 (have l2:=aU aE (n.rules);an (ac (ato 1 0 (((ae (ae n.aa i4).ai i6).n).toNat) (rl aA ((bY n i0 w2 i4 y4 i6).2.1))) (ac (ixz (ae (ae n.aa i4).ai i6).n (length (map aE n.rules))) a0))
 (brP (fun (h3:(!(ae ((bY n i0 w2 i4 y4 i6).2.1) (((ae (ae n.aa i4).ai i6).n).toNat)))=true)=>
 (an (ac (sto 1 0 1 (((ae (ae n.aa i4).ai i6).n).toNat) (rl aA ((bY n i0 w2 i4 y4 i6).2.1))) (ac (ixz (ae (ae n.aa i4).ai i6).n (length (map aE n.rules))) a0))
 (an (ac (apo ((bY n i0 w2 i4 y4 i6).1) 8 (rl aO ((bY n i0 w2 i4 y4 i6).2.2))) a0)
 (an (ac (dwo ((i6+1:Nat):Int)) a0)
 (lfE (wy (uQ n i0 w2 i4 y4 i6) 2) 4 (nxP (m8 n i0 w2 i4 y4 (i6+1)) (m9 n i0 w2 i4 y4 (i6+1)) (q0.trans h2) (show bY n i0 w2 i4 y4 (i6+1)=((bY n i0 w2 i4 y4 i6).1+1,List.set ((bY n i0 w2 i4 y4 i6).2.1) (((ae (ae n.aa i4).ai i6).n).toNat) true,List.take ((bY n i0 w2 i4 y4 i6).1) ((bY n i0 w2 i4 y4 i6).2.2)++ [(ae (ae n.aa i4).ai i6).n]) from (cdF h1 (cdT h3 rfl)))) (bq (congrArg (fun z=>Ob.row 4 1 z) (jr (f:=aA) (rl aA ((bY n i0 w2 i4 y4 i6).2.1)) (((ae (ae n.aa i4).ai i6).n).toNat) true)) (bq (congrArg (fun z=>Ob.row 3 1 z) (apT (f:=aO) (rl aO ((bY n i0 w2 i4 y4 i6).2.2)) ((bY n i0 w2 i4 y4 i6).1) (ae (ae n.aa i4).ai i6).n)) dZ))))))) (fun h3=>
 (an (ac (dwo ((i6+1:Nat):Int)) a0)
 (lf (wy (uQ n i0 w2 i4 y4 i6) 0) 3 (nxP (m8 n i0 w2 i4 y4 (i6+1)) (m9 n i0 w2 i4 y4 (i6+1)) (q0.trans h2) (show bY n i0 w2 i4 y4 (i6+1)=((bY n i0 w2 i4 y4 i6).1,(bY n i0 w2 i4 y4 i6).2.1,(bY n i0 w2 i4 y4 i6).2.2) from (cdF h1 (cdF h3 rfl))))))))))))))))))
 oaa
theorem Ze (n:Net) (i0:Nat) (w2:Nat×(List Bool)×(List Int)) (i4:Nat) (y4:Nat×(List Bool)×(List Int)) (hn:bt n) (hf:bp n) (hx0:i0<(length n.rules)) (hw2:SI (length n.rules) (length n.rules+1) w2) (hp4:(zAA w2)=true) (hx4:i4<(length n.aa)) (hy4:SI (length n.rules) (length n.rules) y4):vcC pg 101 base aK 3000 (kbL []) IK (bz (uO n i0 w2 i4 y4 (zAH i4 n))) (bw (uP n i0 w2 i4 y4 (zAH i4 n))) 2 (bM [⟨True,(.exit 6),pr n i0 w2 i4 y4,range 2,pw n i0 w2 i4 y4⟩]) (.r [.row (ak (ae n.aa i4)),.k,bT] (.no (.pick 0))):=
 have hr:=hf.rules;have hs:=hf.aa;have hm4:=ay hx4;have hel:=hf.ai _ hm4;have l1:=aU aV ((ae n.aa i4).ai);have hb:(decide ((((length (ae n.aa i4).ai):Nat):Int)<(length (map aV (ae n.aa i4).ai):Int)))=false:=decide_eq_false oab;
 bc (an (a1 (ac (rwa ak n.aa i4) a0))
 (an hb (lf (wy [⟨True,(.exit 6),pr n i0 w2 i4 y4,range 2,pw n i0 w2 i4 y4⟩] 0) 2 trivial)))
 oaa
theorem So (n:Net) (i0:Nat) (w2:Nat×(List Bool)×(List Int)) (i4:Nat) (y4:Nat×(List Bool)×(List Int)) (i6:Nat):(uQ n i0 w2 i4 y4 i6).all zj=true:=by refine (aF (aR rfl rfl rfl ?_ ?_) (aF (aR rfl rfl rfl ?_ ?_) (aF (aR rfl rfl rfl ?_ ?_) bC)))<;>simp (maxDischargeDepth:=9) [nxW,htW,m8,uO,AO,pr,plS,AV.pure,ah,aj,m9,uP,AP,pw,plO,eC,dG]
theorem Sp (n:Net) (i0:Nat) (w2:Nat×(List Bool)×(List Int)) (i4:Nat) (y4:Nat×(List Bool)×(List Int)):bG.cS 0 ⟨True,(.exit 6),pr n i0 w2 i4 y4,range 2,pw n i0 w2 i4 y4⟩=true:=by refine (aR rfl rfl rfl ?_ ?_)<;>simp (maxDischargeDepth:=9) [nxW,htW,m8,uO,AO,pr,plS,AV.pure,ah,aj,m9,uP,AP,pw,plO,eC,dG]
theorem Sq (n:Net) (i0:Nat) (w2:Nat×(List Bool)×(List Int)) (i4:Nat) (y4:Nat×(List Bool)×(List Int)) (hn:bt n) (hf:bp n) (hx0:i0<(length n.rules)) (hw2:SI (length n.rules) (length n.rules+1) w2) (hp4:(zAA w2)=true) (hx4:i4<(length n.aa)) (hy4:SI (length n.rules) (length n.rules) y4):cQ pg 101 0 6 (.loop IK) (AQ n i0 w2 i4 y4):=
 have hr:=hf.rules;have hs:=hf.aa;bW (fun _=>eB (id:=6) (m:=length (ae n.aa i4).ai) (t:=nc n i0 w2 i4 y4) (xr:= .ret) (xn:=(.exit 6)) (Lr:=AO n i0 w2 i4 y4) (Lx:=pr n i0 w2 i4 y4) (obr:=AP n i0 w2 i4 y4) (obx:=pw n i0 w2 i4 y4) (V:=fun i6=>vcC pg 101 base aK 3000 (kbL []) IK) (uO n i0 w2 i4 y4) (uP n i0 w2 i4 y4) 2 (uQ n i0 w2 i4 y4) (Xt n i0 w2 i4 y4) _ _ (fun i6 hx6=>aL aw mixed (az _)) (aL aw mixed (az _)) (fun e=>by cases e) (fun e=>by cases e) (fun _=>rfl) (fun i6 hx6=>Zd n i0 w2 i4 y4 i6 hn hf hx0 hw2 hp4 hx4 hy4 hx6) (fun i6 _=>So n i0 w2 i4 y4 i6) (fun i6 _=>show∀ww∈uQ n i0 w2 i4 y4 i6,cm _ _ _ _ _ _ ww from (aC bU (aC cT (aC bU bB)))) (Ze n i0 w2 i4 y4 hn hf hx0 hw2 hp4 hx4 hy4) (Sp n i0 w2 i4 y4)) (fun h=>h) (fun h=>h)
def AR (n:Net) (i0:Nat) (w2:Nat×(List Bool)×(List Int)) (i4:Nat) (y4:Nat×(List Bool)×(List Int)):Nat×(List Bool)×(List Int):=(bif (ae n.aa i4).aI !=(ae w2.2.2 (w2.1-1)) then (y4.1,y4.2.1,y4.2.2) else ((bY n i0 w2 i4 y4 (length (ae n.aa i4).ai)).1,(bY n i0 w2 i4 y4 (length (ae n.aa i4).ai)).2.1,(bY n i0 w2 i4 y4 (length (ae n.aa i4).ai)).2.2))
def ck (n:Net) (i0:Nat) (w2:Nat×(List Bool)×(List Int)) (kk:Nat):Nat×(List Bool)×(List Int):=Nat.rec (motive:=fun _=>Nat×(List Bool)×(List Int)) (w2.1-1,w2.2.1,w2.2.2) (fun j a=>AR n i0 w2 j a) kk
theorem K3 {n:Net} (hn:bt n) (i0:Nat) {w2:eO} (hw:SI n.rules.length (n.rules.length+1) w2) (i:Nat) (hi:i<=n.aa.length):SI n.rules.length n.rules.length (ck n i0 w2 i)/\2*cf (ck n i0 w2 i).2.1+(ck n i0 w2 i).1<=2*cf w2.2.1+(w2.1-1):=by
 induction i with
 |zero=>exact ⟨hw.pop,Nat.le_refl _⟩
 |succ i ih=>
  obtain ⟨h1,h2⟩:=ih oab
  have hst:ck n i0 w2 (i+1)=AR n i0 w2 i (ck n i0 w2 i):=rfl
  obtain ⟨h3,h4⟩:=Sn hn i0 w2 i oab h1 _ (Nat.le_refl _)
  rw [hst]
  unfold AR
  cases State.aI (ae n.aa i) !=ae w2.2.2 (w2.1-1) with
  |true=>exact ⟨h1,h2⟩
  |false=>exact ⟨h3,Nat.le_trans h4 h2⟩
def px (n:Net) (i0:Nat) (w2:Nat×(List Bool)×(List Int)) (i4:Nat) (y4:Nat×(List Bool)×(List Int)):Am.Loc:=[(1,.pf (aW n)),(3,I (i0:Int)),(4,.sr 0 1 0 (zB n)),(5,.sr 1 1 0 y4.1),(6,I (zCP w2)),(7,I (i4:Int))]
def py (n:Net) (i0:Nat) (w2:Nat×(List Bool)×(List Int)) (i4:Nat) (y4:Nat×(List Bool)×(List Int)):List Ob:=[.row 4 1 (map aA y4.2.1),.row 3 1 (map aO y4.2.2)]
def uR (n:Net) (i0:Nat) (w2:Nat×(List Bool)×(List Int)) (i4:Nat):Am.Loc:=px n i0 w2 i4 (ck n i0 w2 i4)
def uS (n:Net) (i0:Nat) (w2:Nat×(List Bool)×(List Int)) (i4:Nat):List Ob:=py n i0 w2 i4 (ck n i0 w2 i4)
def lZ (n:Net) (i0:Nat) (w2:Nat×(List Bool)×(List Int)) (i4:Nat):Bool:=(!((ae n.aa i4).aI !=(ae w2.2.2 (w2.1-1)))&&(wB n i0 w2 i4 (ck n i0 w2 i4)))
def wC (n:Net) (i0:Nat) (w2:Nat×(List Bool)×(List Int)):Bool:=cX (length n.aa) (lZ n i0 w2)
def AS (n:Net) (i0:Nat) (w2:Nat×(List Bool)×(List Int)) (i4:Nat):Am.Loc:=[(2,B true)]
def AT (n:Net) (i0:Nat) (w2:Nat×(List Bool)×(List Int)) (i4:Nat):List Ob:=[]
def pz (n:Net) (i0:Nat) (w2:Nat×(List Bool)×(List Int)):Am.Loc:=[(1,.pf (aW n)),(3,I (i0:Int)),(4,.sr 0 1 0 (zB n)),(5,.sr 1 1 0 ((ck n i0 w2 (zH n)).1))]
def pB (n:Net) (i0:Nat) (w2:Nat×(List Bool)×(List Int)):List Ob:=[.row 4 1 (map aA ((ck n i0 w2 (zH n)).2.1)),.row 3 1 (map aO ((ck n i0 w2 (zH n)).2.2))]
def AU (n:Net) (i0:Nat) (w2:Nat×(List Bool)×(List Int)):KB:=⟨uR n i0 w2 0,uS n i0 w2 0,wC n i0 w2,.ret,AS n i0 w2 (b4 (zH n) (lZ n i0 w2)),AT n i0 w2 (b4 (zH n) (lZ n i0 w2)),.normal,pz n i0 w2,pB n i0 w2,(zAA w2)=true⟩
abbrev zBi (i0 i4:Nat) (n:Net) (w2:Nat×(List Bool)×(List Int)):=(bY n i0 w2 i4 (ck n i0 w2 i4) (zAH i4 n))
def AW (n:Net) (i0:Nat) (w2:Nat×(List Bool)×(List Int)) (i4:Nat):List bG:=[nxW (lZ n i0 w2 i4) (uR n i0 w2 (i4+1)) (uS n i0 w2 (i4+1)) (px n i0 w2 (i4+1) ((ck n i0 w2 i4).1,(ck n i0 w2 i4).2.1,(ck n i0 w2 i4).2.2)) zBN (py n i0 w2 (i4+1) ((ck n i0 w2 i4).1,(ck n i0 w2 i4).2.1,(ck n i0 w2 i4).2.2)),htW (lZ n i0 w2 i4) .ret (AS n i0 w2 i4) zb (AT n i0 w2 i4),nxW (lZ n i0 w2 i4) (uR n i0 w2 (i4+1)) (uS n i0 w2 (i4+1)) (px n i0 w2 (i4+1) ((zBi i0 i4 n w2).1,(zBi i0 i4 n w2).2.1,(zBi i0 i4 n w2).2.2)) zBN (py n i0 w2 (i4+1) ((zBi i0 i4 n w2).1,(zBi i0 i4 n w2).2.1,(zBi i0 i4 n w2).2.2))]
def Xu (n:Net) (i0:Nat) (w2:Nat×(List Bool)×(List Int)) (i4:Nat):GT:=(.r [.k,bT] (.yes (.r [.row (ak (ae n.aa i4)),.k,bT] (.br (.r [.int ↑(i4+1),bT] (.pick 0)) (.r [bT] (.br (.pick 1) (.r [.int ↑(i4+1),bT] (.pick 2))))))))
theorem Zf (n:Net) (i0:Nat) (w2:Nat×(List Bool)×(List Int)) (i4:Nat) (hn:bt n) (hf:bp n) (hx0:i0<(length n.rules)) (hw2:SI (length n.rules) (length n.rules+1) w2) (hp4:(zAA w2)=true) (hx4:i4<(length n.aa)):vcC pg 101 base aK 3000 (kbL [(6,AQ n i0 w2 i4 (ck n i0 w2 i4))]) AN (bz (uR n i0 w2 i4)) (bw (uS n i0 w2 i4)) 2 (bM (AW n i0 w2 i4)) (Xu n i0 w2 i4):=
 have hr:=hf.rules;have hs:=hf.aa;have gp0:=of_decide_eq_true hp4;have hk2:=hw2.kt;have hl2:=hw2.len;have hb2:=hw2.bd;have hs2:0<w2.1->(0<=ae w2.2.2 (w2.1-1)/\ae w2.2.2 (w2.1-1)<(length n.rules:Int)):=fun h=>hw2.rng _ (ay oab);have l1:=aU ak (n.aa);have hb:(decide ((i4:Int)<(length (map ak n.aa):Int)))=true:=decide_eq_true oab;
 bc (an (a1 a0)
 (an hb (an (a1 (ac (rwa ak n.aa i4) a0))
 (brP (fun (h1:((ae n.aa i4).aI !=(ae w2.2.2 (w2.1-1)))=true)=>
 (an (ac (dwo ((i4+1:Nat):Int)) a0)
 (lf (wy (AW n i0 w2 i4) 0) 2 (nxP (px n i0 w2 (i4+1)) (py n i0 w2 (i4+1)) (show lZ n i0 w2 i4=false from (bf (cq h1))) (show ck n i0 w2 (i4+1)=((ck n i0 w2 i4).1,(ck n i0 w2 i4).2.1,(ck n i0 w2 i4).2.2) from (cdT h1 rfl)))))) (fun h1=>
 (an a0
 (an (kbT (AQ n i0 w2 i4 (ck n i0 w2 i4)) trivial) (brP (fun (h2:(wB n i0 w2 i4 (ck n i0 w2 i4))=true)=>
 (lf (wy (AW n i0 w2 i4) 1) 0 (show lZ n i0 w2 i4=true from (aD (au h1) h2)))) (fun h2=>
 (an (ac (dwo ((i4+1:Nat):Int)) a0)
 (lf (wy (AW n i0 w2 i4) 2) 2 (nxP (px n i0 w2 (i4+1)) (py n i0 w2 (i4+1)) (show lZ n i0 w2 i4=false from (aD (au h1) h2)) (show ck n i0 w2 (i4+1)=((bY n i0 w2 i4 (ck n i0 w2 i4) (length (ae n.aa i4).ai)).1,(bY n i0 w2 i4 (ck n i0 w2 i4) (length (ae n.aa i4).ai)).2.1,(bY n i0 w2 i4 (ck n i0 w2 i4) (length (ae n.aa i4).ai)).2.2) from (cdF h1 rfl))))))))))))))
 oaa
theorem Zg (n:Net) (i0:Nat) (w2:Nat×(List Bool)×(List Int)) (hn:bt n) (hf:bp n) (hx0:i0<(length n.rules)) (hw2:SI (length n.rules) (length n.rules+1) w2) (hp4:(zAA w2)=true):vcC pg 101 base aK 3000 (kbL []) AN (bz (uR n i0 w2 (zH n))) (bw (uS n i0 w2 (zH n))) 2 (bM [⟨True,(.exit 4),pz n i0 w2,range 2,pB n i0 w2⟩]) zG:=
 have hr:=hf.rules;have hs:=hf.aa;have gp0:=of_decide_eq_true hp4;have hk2:=hw2.kt;have hl2:=hw2.len;have hb2:=hw2.bd;have hs2:0<w2.1->(0<=ae w2.2.2 (w2.1-1)/\ae w2.2.2 (w2.1-1)<(length n.rules:Int)):=fun h=>hw2.rng _ (ay oab);have l1:=aU ak (n.aa);have hb:(zO n)=false:=decide_eq_false oab;
 bc (an (a1 a0)
 (an hb (lf (wy [⟨True,(.exit 4),pz n i0 w2,range 2,pB n i0 w2⟩] 0) 2 trivial)))
 oaa
theorem Sr (n:Net) (i0:Nat) (w2:Nat×(List Bool)×(List Int)) (i4:Nat):(AW n i0 w2 i4).all zj=true:=by refine (aF (aR rfl rfl rfl ?_ ?_) (aF (aR rfl rfl rfl ?_ ?_) (aF (aR rfl rfl rfl ?_ ?_) bC)))<;>simp (maxDischargeDepth:=9) [nxW,htW,px,uR,AS,pz,plS,AV.pure,ah,aj,py,uS,AT,pB,plO,eC,dG]
theorem Ss (n:Net) (i0:Nat) (w2:Nat×(List Bool)×(List Int)):bG.cS 0 ⟨True,(.exit 4),pz n i0 w2,range 2,pB n i0 w2⟩=true:=by refine (aR rfl rfl rfl ?_ ?_)<;>simp (maxDischargeDepth:=9) [nxW,htW,px,uR,AS,pz,plS,AV.pure,ah,aj,py,uS,AT,pB,plO,eC,dG]
theorem F4:dp [6] AN=[(6,.loop IK)]:=by kernel_rfl
theorem Su (n:Net) (i0:Nat) (w2:Nat×(List Bool)×(List Int)) (hn:bt n) (hf:bp n) (hx0:i0<(length n.rules)) (hw2:SI (length n.rules) (length n.rules+1) w2):cQ pg 101 0 4 (.loop AN) (AU n i0 w2):=
 have hr:=hf.rules;have hs:=hf.aa;bW (fun hp4=>eB (id:=4) (m:=length n.aa) (t:=lZ n i0 w2) (xr:= .ret) (xn:=(.exit 4)) (Lr:=AS n i0 w2) (Lx:=pz n i0 w2) (obr:=AT n i0 w2) (obx:=pB n i0 w2) (V:=fun i4=>vcC pg 101 base aK 3000 (kbL [(6,AQ n i0 w2 i4 (ck n i0 w2 i4))]) AN) (uR n i0 w2) (uS n i0 w2) 2 (AW n i0 w2) (Xu n i0 w2) _ _ (fun i4 hx4=>aL aw mixed (bK (l:=[(6,AQ n i0 w2 i4 (ck n i0 w2 i4))]) F4 (aT (Sq n i0 w2 i4 (ck n i0 w2 i4) hn hf hx0 hw2 hp4 hx4 (K3 hn i0 hw2 i4 (Nat.le_of_lt hx4)).1) rfl bj) rfl)) (aL aw mixed (az _)) (fun e=>by cases e) (fun e=>by cases e) (fun _=>rfl) (fun i4 hx4=>Zf n i0 w2 i4 hn hf hx0 hw2 hp4 hx4) (fun i4 _=>Sr n i0 w2 i4) (fun i4 _=>show∀ww∈AW n i0 w2 i4,cm _ _ _ _ _ _ ww from (aC bU (aC cT (aC bU bB)))) (Zg n i0 w2 hn hf hx0 hw2 hp4) (Ss n i0 w2)) (fun h=>h) (fun h=>h)
def AY (n:Net) (i0:Nat) (w2:Nat×(List Bool)×(List Int)):Nat×(List Bool)×(List Int):=((ck n i0 w2 (length n.aa)).1,(ck n i0 w2 (length n.aa)).2.1,(ck n i0 w2 (length n.aa)).2.2)
def dt (n:Net) (i0 kk:Nat):Nat×(List Bool)×(List Int):=Nat.rec (motive:=fun _=>Nat×(List Bool)×(List Int)) (1,replicate (length (map aE n.rules)) false,[(i0:Int)]) (fun _ a=>AY n i0 a) kk
def iD (n:Net) (i0:Nat) (w2:Nat×(List Bool)×(List Int)):Bool:=(bif decide (((w2.1:Nat):Int)>0) then (wC n i0 w2) else true)
def rS (n:Net) (i0:Nat) (w2:Nat×(List Bool)×(List Int)):Bool:=(decide (((w2.1:Nat):Int)>0))
def ou (n:Net) (i0:Nat):Nat×(List Bool)×(List Int):=dt n i0 (dA (iD n i0) (dt n i0))
theorem Sv {n:Net} (hn:bt n) (i0:Nat) (hi:i0<n.rules.length): ∀k,SI n.rules.length (n.rules.length+1) (dt n i0 k)
 |0=>⟨by show (replicate _ _).length=_;simp,Nat.le_refl _,fun x hx=>by
   have hx:x∈ [(i0:Int)]:=hx
   simp only [List.mem_singleton] at hx
   omega,by
   show 1+cf (replicate _ _)<=_
   have:=MK (replicate (length (map aE n.rules)) false)
   simp only [List.length_replicate,List.length_map] at this⊢
   omega⟩
 |k+1=>(K3 hn i0 (Sv hn i0 hi k) _ (Nat.le_refl _)).1.up (Nat.le_succ _)
theorem Sw {n:Net} (hn:bt n) (i0:Nat) (hi:i0<n.rules.length):(∃k,iD n i0 (dt n i0 k)=true)/\ ∀k,k<=dA (iD n i0) (dt n i0)->SI n.rules.length (n.rules.length+1) (dt n i0 k):=by
 refine ⟨?_,fun k _=>Sv hn i0 hi k⟩
 by_cases h: ∃k,iD n i0 (dt n i0 k)=true
 ·exact h
 ·have h: ∀k,0<(dt n i0 k).1:=fun k=>by
   have hk:iD n i0 (dt n i0 k)≠true:=fun e=>h ⟨k,e⟩
   by_cases h0:0<(dt n i0 k).1
   ·exact h0
   ·refine absurd ?_ hk
    unfold iD
    rw [show decide ((((dt n i0 k).1:Nat):Int)>0)=false from decide_eq_false oab]
    rfl
  have key: ∀k,2*cf (dt n i0 k).2.1+(dt n i0 k).1+k<=2*cf (dt n i0 0).2.1+(dt n i0 0).1:=fun k=>by
   induction k with
   |zero=>exact Nat.le_refl _
   |succ k ih=>
    have h1:=(K3 hn i0 (Sv hn i0 hi k) _ (Nat.le_refl _)).2
    have h2:=h k
    have h3:dt n i0 (k+1)=ck n i0 (dt n i0 k) n.aa.length:=rfl
    rw [h3]
    omega
  have:=key (2*cf (dt n i0 0).2.1+(dt n i0 0).1+1)
  omega
def AZ (n:Net) (i0:Nat) (w2:Nat×(List Bool)×(List Int)):Am.Loc:=[(1,.pf (aW n)),(3,I (i0:Int)),(4,.sr 0 1 0 (zB n)),(5,.sr 1 1 0 w2.1)]
def F5 (n:Net) (i0:Nat) (w2:Nat×(List Bool)×(List Int)):Am.Loc:=[(2,B true)]
def F6 (n:Net) (i0:Nat) (w2:Nat×(List Bool)×(List Int)):Am.Loc:=(zAy i0 n)
def A0 (n:Net) (i0:Nat) (w2:Nat×(List Bool)×(List Int)):List Ob:=[.row 4 1 (map aA w2.2.1),.row 3 1 (map aO w2.2.2)]
def F7 (n:Net) (i0:Nat) (w2:Nat×(List Bool)×(List Int)):List Ob:=[]
def F8 (n:Net) (i0:Nat) (w2:Nat×(List Bool)×(List Int)):List Ob:=[.row 4 1 (map aA w2.2.1),.row 3 1 (map aO w2.2.2)]
def tF (n:Net) (i0:Nat):KB:=⟨AZ n i0 (dt n i0 0),A0 n i0 (dt n i0 0),rS n i0 (ou n i0),.ret,F5 n i0 (ou n i0),F7 n i0 (ou n i0),.normal,F6 n i0 (ou n i0),F8 n i0 (ou n i0),(∃k,iD n i0 (dt n i0 k)=true)/\ ∀k,k<=dA (iD n i0) (dt n i0)->SI (zS n) (length n.rules+1) (dt n i0 k)⟩
def A2 (n:Net) (i0:Nat) (w2:Nat×(List Bool)×(List Int)):List bG:=[whW (iD n i0 w2) (rS n i0 w2) .ret (F5 n i0 w2) zb (F7 n i0 w2),nxW (iD n i0 w2) (AZ n i0 (AY n i0 w2)) (A0 n i0 (AY n i0 w2)) (AZ n i0 ((ck n i0 w2 (zH n)).1,(ck n i0 w2 (zH n)).2.1,(ck n i0 w2 (zH n)).2.2)) zBN (A0 n i0 ((ck n i0 w2 (zH n)).1,(ck n i0 w2 (zH n)).2.1,(ck n i0 w2 (zH n)).2.2)),wxW (iD n i0 w2) (rS n i0 w2) (.exit 2) (F6 n i0 w2) zBN (F8 n i0 w2)]
def Xv (n:Net) (i0:Nat) (w2:Nat×(List Bool)×(List Int)):GT:=(.r [.k,bT] (.br (.r [.int ((w2.1-1:Nat):Int),.at (w2.1-1) 0 (aO (ae w2.2.2 (w2.1-1))),bT] (.r [.int ((w2.1-1:Nat):Int),bT] (.r [bT] (.br (.pick 0) (.pick 1))))) (.pick 2)))
theorem Zh (n:Net) (i0:Nat) (w2:Nat×(List Bool)×(List Int)) (hn:bt n) (hf:bp n) (hx0:i0<(length n.rules)) (hw2:SI (length n.rules) (length n.rules+1) w2):vcC pg 101 base aK 3000 (kbL [(4,AU n i0 w2)]) DE (bz (AZ n i0 w2)) (bw (A0 n i0 w2)) 2 (bM (A2 n i0 w2)) (Xv n i0 w2):=
 have hr:=hf.rules;have hs:=hf.aa;have hk2:=hw2.kt;have hl2:=hw2.len;have hb2:=hw2.bd;have hs2:0<w2.1->(0<=ae w2.2.2 (w2.1-1)/\ae w2.2.2 (w2.1-1)<(length n.rules:Int)):=fun h=>hw2.rng _ (ay oab);bc (an (a1 a0)
 (brP (fun (h0:(zAA w2)=true)=>have g0:=of_decide_eq_true h0;
 (an (ac (ato 1 0 (w2.1-1) (rl aO w2.2.2)) (ac (ixo (w2.1-1) w2.1) (ac (dso w2.1) a0)))
 (an (ac (slo 0 (w2.1-1) w2.1) (ac (dso w2.1) a0))
 (an a0
 (an (kbT (AU n i0 w2) h0) (brP (fun (h1:(wC n i0 w2)=true)=>
 (lf (wy (A2 n i0 w2) 0) 0 ⟨show iD n i0 w2=true from (cdT h0 h1),show rS n i0 w2=true from h0⟩)) (fun h1=>
 (lf (wy (A2 n i0 w2) 1) 2 (nxP (AZ n i0) (A0 n i0) (show iD n i0 w2=false from (cdT h0 h1)) (show (AY n i0 w2)=((ck n i0 w2 (length n.aa)).1,(ck n i0 w2 (length n.aa)).2.1,(ck n i0 w2 (length n.aa)).2.2) from rfl)))))))))) (fun h0=>
 (lf (wy (A2 n i0 w2) 2) 2 ⟨show iD n i0 w2=true from (cdF h0 rfl),show rS n i0 w2=false from h0⟩))))
 oaa
theorem Sx (n:Net) (i0:Nat) (w2:Nat×(List Bool)×(List Int)):(A2 n i0 w2).all zj=true:=by refine (aF (aR rfl rfl rfl ?_ ?_) (aF (aR rfl rfl rfl ?_ ?_) (aF (aR rfl rfl rfl ?_ ?_) bC)))<;>simp (maxDischargeDepth:=9) [nxW,whW,wxW,AZ,F5,F6,plS,AV.pure,ah,aj,A0,F7,F8,plO,eC,dG]
theorem F9:dp [4] DE=[(4,.loop AN)]:=by kernel_rfl
theorem Sy (n:Net) (i0:Nat) (hn:bt n) (hf:bp n) (hx0:i0<(length n.rules)):cQ pg 101 0 2 (.loop DE) (tF n i0):=
 have hr:=hf.rules;have hs:=hf.aa;bW (fun hp2=>sO (id:=2) (t:=iD n i0) (hit:=rS n i0) (it:=dt n i0) (step:=AY n i0) (fun _=>rfl) (I:=fun w2=>SI (length n.rules) (length n.rules+1) w2) (xr:= .ret) (xn:=(.exit 2)) (Lr:=F5 n i0) (Lx:=F6 n i0) (obr:=F7 n i0) (obx:=F8 n i0) (V:=fun w2=>vcC pg 101 base aK 3000 (kbL [(4,AU n i0 w2)]) DE) (AZ n i0) (A0 n i0) 2 (A2 n i0) (Xv n i0) (fun w2 hw2=>aL aw mixed (bK (l:=[(4,AU n i0 w2)]) F9 (aT (Su n i0 w2 hn hf hx0 hw2) rfl bj) rfl)) (fun e=>by cases e) (fun e=>by cases e) (fun _=>rfl) (fun w2 hw2=>Zh n i0 w2 hn hf hx0 hw2) (fun w2 _=>Sx n i0 w2) (fun w2 _=>show∀ww∈A2 n i0 w2,lF _ _ _ _ _ _ _ _ _ _ ww from (aC J3 (aC nK (aC sN bB)))) hp2.1 hp2.2) (fun h=>h) (fun h=>h)
def A3 (n:Net) (i0:Nat):Am.Loc:=(zAy i0 n)
def DG (n:Net) (i0:Nat):List Ob:=[]
def jT (n:Net) (i0:Nat):Bool:=(!(!(ae n.rules i0).bO)&&(rS n i0 (ou n i0)))
def Ga (n:Net):Bool:=cX (length n.rules) (jT n)
def Gb (n:Net) (i0:Nat):Am.Loc:=[(2,B true)]
def K4 (n:Net) (i0:Nat):List Ob:=[]
def tG (n:Net):Am.Loc:=[]
def A4 (n:Net):List Ob:=[]
def Gc (n:Net):KB:=⟨A3 n 0,DG n 0,Ga n,.ret,Gb n (b4 (zS n) (jT n)),K4 n (b4 (zS n) (jT n)),.normal,tG n,A4 n,True⟩
def A5 (n:Net) (i0:Nat):List bG:=[nxW (jT n i0) (A3 n (i0+1)) (DG n (i0+1)) (A3 n (i0+1)) zb (DG n (i0+1)),htW (jT n i0) .ret (Gb n i0) zb (K4 n i0)]
def Xw (n:Net) (i0:Nat):GT:=(.r [.k,bT] (.yes (.r [.row (aE (ae n.rules i0)),bT] (.br (.r [.int ↑(i0+1),bT] (.pick 0)) (.r [bT] (.r [bT] (.br (.pick 1) (.r [.int ↑(i0+1),bT] (.pick 0)))))))))
theorem Zi (n:Net) (i0:Nat) (hn:bt n) (hf:bp n) (hx0:i0<(length n.rules)):vcC pg 101 base aK 3000 (kbL [(2,tF n i0)]) AM (bz (A3 n i0)) (bw (DG n i0)) 0 (bM (A5 n i0)) (Xw n i0):=
 have hr:=hf.rules;have hs:=hf.aa;have l1:=aU aE (n.rules);have hb:(zAY i0 n)=true:=decide_eq_true oab;
 bc (an (a1 a0)
 (an hb (an (ac (rwa aE n.rules i0) a0)
 (brP (fun (h1:(!(ae n.rules i0).bO)=true)=>
 (an (ac (dwo ((i0+1:Nat):Int)) a0)
 (lf (wy (A5 n i0) 0) 0 ⟨(show jT n i0=false from (bf (cq h1))),rfl,rfl⟩))) (fun h1=>
 (an (ac (mko (length (map aE n.rules)) 1) a0)
 (an a0
 (an (Ch (tF n i0) (S:=nm (KB.L0 (tF n i0))) rfl (bq (congrArg (fun z=>Ob.row 4 1 z) (EU (f:=aA) (length (map aE n.rules)) false)) (bq (rfl:(.row 3 1 [(cH i0)]:Ob)= .row 3 1 [(cH i0)]) dZ)) (Sw hn i0 hx0)) (brP (fun (h2:(rS n i0 (ou n i0))=true)=>
 (lf (wy (A5 n i0) 1) 0 (show jT n i0=true from (aD (au h1) h2)))) (fun h2=>
 (an (ac (dwo ((i0+1:Nat):Int)) a0)
 (lf (wy (A5 n i0) 0) 2 ⟨(show jT n i0=false from (aD (au h1) h2)),rfl,rfl⟩))))))))))))
 oaa
theorem Zj (n:Net) (hn:bt n) (hf:bp n):vcC pg 101 base aK 3000 (kbL []) AM (bz (A3 n (zS n))) (bw (DG n (zS n))) 0 (bM [⟨True,(.exit 0),tG n,range 0,A4 n⟩]) zG:=
 have hr:=hf.rules;have hs:=hf.aa;have l1:=aU aE (n.rules);have hb:(zJ n)=false:=decide_eq_false oab;
 bc (an (a1 a0)
 (an hb (lf (wy [⟨True,(.exit 0),tG n,range 0,A4 n⟩] 0) 0 trivial)))
 oaa
theorem Sz (n:Net) (i0:Nat):(A5 n i0).all zj=true:=by refine (aF (aR rfl rfl rfl ?_ rfl) (aF (aR rfl rfl rfl ?_ rfl) bC))<;>simp (maxDischargeDepth:=9) [nxW,htW,A3,Gb,tG,plS,AV.pure,ah,aj]
theorem SA (n:Net):bG.cS 0 ⟨True,(.exit 0),tG n,range 0,A4 n⟩=true:=(aR rfl rfl rfl rfl rfl)
theorem Ge:dp [2] AM=[(2,.loop DE)]:=by kernel_rfl
theorem SB (n:Net) (hn:bt n) (hf:bp n):cQ pg 101 0 0 (.loop AM) (Gc n):=
 have hr:=hf.rules;have hs:=hf.aa;bW (fun _=>eB (id:=0) (m:=length n.rules) (t:=jT n) (xr:= .ret) (xn:=(.exit 0)) (Lr:=Gb n) (Lx:=tG n) (obr:=K4 n) (obx:=A4 n) (V:=fun i0=>vcC pg 101 base aK 3000 (kbL [(2,tF n i0)]) AM) (A3 n) (DG n) 0 (A5 n) (Xw n) _ _ (fun i0 hx0=>aL aw mixed (bK (l:=[(2,tF n i0)]) Ge (aT (Sy n i0 hn hf hx0) rfl bj) rfl)) (aL aw mixed (az _)) (fun e=>by cases e) (fun e=>by cases e) (fun _=>rfl) (fun i0 hx0=>Zi n i0 hn hf hx0) (fun i0 _=>Sz n i0) (fun i0 _=>show∀ww∈A5 n i0,cm _ _ _ _ _ _ ww from (aC bU (aC cT bB))) (Zj n hn hf) (SA n)) (fun h=>h) (fun h=>h)
def r36 (n:Net):Bool:=(Ga n)
theorem vJ:dp [0] (aH 36)=[(0,.loop AM)]:=by kernel_rfl
theorem V4 (n:Net) (hn:bt n) (hf:bp n):bg pg 36 [.ag (aW n)] [] [] (B (r36 n)) []:=
 bD (fn:=Tryz.f36) (callf:=base) (pu:=aK) (lf:=3000) (l:=[(0,Gc n)]) (t:=zh) aw mixed Tryz.func36 oaa (show Tryz.f36.body=some (aH 36) by kernel_rfl) (Nat.le_of_ble_eq_true rfl) (bK (l:=[(0,Gc n)]) vJ (aT (SB n hn hf) rfl bj) rfl) rfl (bc
 (an a0
 (an a0
 (an (kbT (Gc n) trivial) (brP (fun (h0:(Ga n)=true)=>
 (bE (show r36 n=true from h0))) (fun h0=>
 (an a0
 (bE (show r36 n=false from h0))))))))
 oaa)
theorem b8 {α:Type} [Inhabited α] {l:List α} {x:α} (h:x∈l): ∃i,i<l.length/\ae l i=x:=by
 obtain ⟨i,hi,rfl⟩:=List.mem_iff_getElem.1 h
 exact ⟨i,hi,by simp [ae,hi]⟩
theorem A6 {n:Net} {s r:Int} (h:r67 n s r=true):0<=s/\s<(n.aa.length:Int):=by
 unfold r67 at h
 simp only [Bool.and_eq_true,decide_eq_true_eq,List.length_map] at h
 omega
theorem K5 {n:Net} (h:r32 n=true) {i:Nat} (hi:i<n.rules.length):r67 n (ae n.rules i).start i=true/\r67 n (ae n.rules i).stop i=true:=by
 have:=bL.1 (show ry n=false by simpa [r32] using h) i hi
 unfold ju at this
 simp only [Bool.or_eq_false_iff,Bool.not_eq_false'] at this
 exact ⟨this.1,this.2.1⟩
theorem tH {n:Net} (h:r33 n=true) {i:Nat} (hi:i<n.aa.length):(0<=(ae n.aa i).aI/\(ae n.aa i).aI<(n.rules.length:Int))/\ ∀k,k<(ae n.aa i).ai.length->r68 n (ae n.aa i) i (ae (ae n.aa i).ai k)=true:=by
 have:=bL.1 (show wq n=false by simpa [r33] using h) i hi
 unfold kL at this
 simp only [Bool.or_eq_false_iff,decide_eq_false_iff_not,List.length_map] at this
 obtain ⟨h1,h2,h3⟩:=this
 have h3:ij n i=false:=by
  revert h3
  cases ((((ae n.aa i).ai.length:Nat):Int)==0) with
  |true=>intro h3;simp only [cond_true,Bool.or_eq_false_iff] at h3;exact h3.2
  |false=>exact fun h3=>h3
 refine ⟨by omega,fun k hk=> ?_⟩
 have:=bL.1 h3 k hk
 unfold mR at this
 simp only [Bool.or_eq_false_iff,Bool.not_eq_false'] at this
 exact this.1
theorem Zk {n:Net} {s:State} {i:Int} {e:Edge} (h:r68 n s i e=true):0<=e.to/\e.to<(n.aa.length:Int):=by
 unfold r68 at h
 simp only [Bool.and_eq_true,Bool.not_not] at h
 exact A6 h.1
theorem SC {n:Net} {s:State} {i:Int} {e:Edge} (h:r68 n s i e=true) (h2:e.op=2):0<=e.n/\e.n<(n.rules.length:Int):=by
 unfold r68 at h
 rw [h2] at h
 simp only [show ((2:Int) !=3)=true from rfl,show ((2:Int)==1)=false from rfl,show ((2:Int)==2)=true from rfl,cond_true,cond_false,Bool.and_eq_true,Bool.not_eq_true',decide_eq_false_iff_not,List.length_map] at h
 omega
theorem K6 {n:Net} (h2:r32 n=true) (h3:r33 n=true):bt n where
 to:=fun s hs e he=>by
  obtain ⟨i,hi,rfl⟩:=b8 hs
  obtain ⟨k,hk,rfl⟩:=b8 he
  exact Zk ((tH h3 hi).2 k hk)
 call:=fun s hs e he h=>by
  obtain ⟨i,hi,rfl⟩:=b8 hs
  obtain ⟨k,hk,rfl⟩:=b8 he
  exact SC ((tH h3 hi).2 k hk) h
 start:=fun r hr=>by
  obtain ⟨i,hi,rfl⟩:=b8 hr
  exact A6 (K5 h2 hi).1
 stop:=fun r hr=>by
  obtain ⟨i,hi,rfl⟩:=b8 hr
  exact A6 (K5 h2 hi).2
theorem IL {n:Net} (h2:(!r32 n)=false) (h3:(!r33 n)=false):bt n:=K6 (by simpa using h2) (by simpa using h3)
theorem SD {n:Net} (h:(!r33 n)=false) {i:Nat} (hi:i<n.aa.length):0<=(ae n.aa i).aI/\(ae n.aa i).aI<(n.rules.length:Int):=(tH oaM hi).1
theorem eW (n:Net):(r25 n).length=n.rules.length:=by simp [r25,iQ,Dz]
noncomputable def kh (n:Net) (x:Int):List Bool:=dz okF n x.toNat
theorem K7 (n:Net) (x:Int):(kh n x).length=n.aa.length:=ph _ _ _
theorem SE {n:Net} (hn:bt n) (hf:bp n) (x:Int) (hx:0<=x/\x<(n.aa.length:Int)):bg pg 34 [gL n,I x,B false,.v (.slice none 0 0)] [] [] (.sl 1 ((kh n x).map aA)) []:=by
 have h:=uI (v34F hn.to hf.f0) hn.to hf.f0 x.toNat oab
 rw [show ((x.toNat:Nat):Int)=x by omega] at h
 exact lC (o:=0) (T:=4) h rfl (by simp [ph,kh]) (aY bR _)
def i31 (n:Net):cc:=⟨31,[gL n],B (r31 n),bp n⟩
theorem g31 (n:Net):(i31 n).b7 pg:=fun hp=>⟨ME n hp.h,by simp [i31,ah,AV.pure],by simp [i31,AV.pure,ah]⟩
def i32 (n:Net):cc:=⟨32,[gL n],B (r32 n),bp n⟩
theorem g32 (n:Net):(i32 n).b7 pg:=fun hp=>⟨VM n (Nat.le_trans hp.rules oab),by simp [i32,ah,AV.pure],by simp [i32,AV.pure,ah]⟩
def i33 (n:Net):cc:=⟨33,[gL n],B (r33 n),bp n⟩
theorem g33 (n:Net):(i33 n).b7 pg:=fun hp=>⟨Rv n hp,by simp [i33,ah,AV.pure],by simp [i33,AV.pure,ah]⟩
def i25 (n:Net):cc:=⟨25,[gL n],.sl 1 ((r25 n).map aA),bt n/\bp n⟩
theorem g25 (n:Net):(i25 n).b7 pg:=fun hp=>⟨Cn n hp.1 hp.2,by simp [i25,ah,AV.pure],by simp [i25,AV.pure,ah]⟩
def SF (n:Net) (x:Int):cc:=⟨34,[gL n,I x,B false,.v (.slice none 0 0)],.sl 1 ((kh n x).map aA),bt n/\bp n/\0<=x/\x<(n.aa.length:Int)⟩
theorem g34f (n:Net) (x:Int):(SF n x).b7 pg:=fun hp=>⟨SE hp.1 hp.2.1 x hp.2.2,by simp [SF,ah,AV.pure],by simp [SF,AV.pure,ah]⟩
def i35 (n:Net) (emp:List Bool):cc:=⟨35,[gL n,.sl 1 (emp.map aA)],B (r35 n emp),bt n/\bp n/\emp.length=n.rules.length⟩
theorem g35 (n:Net) (emp:List Bool):(i35 n emp).b7 pg:=fun hp=>⟨Zc n emp hp.1 hp.2.1 hp.2.2,by simp [i35,ah,AV.pure],by simp [i35,AV.pure,ah]⟩
def i36 (n:Net):cc:=⟨36,[gL n],B (r36 n),bt n/\bp n⟩
theorem g36 (n:Net):(i36 n).b7 pg:=fun hp=>⟨V4 n hp.1 hp.2,by simp [i36,ah,AV.pure],by simp [i36,AV.pure,ah]⟩
def IM:Code:=bP 0 (aH 11)
def uT (n:Net) (i0:Nat):Am.Loc:=(zAy i0 n)
def DH (n:Net) (i0:Nat):List Ob:=[]
def ov (n:Net) (i0:Nat):Bool:=(!(aq (kh n (i0:Int)) (aq n.rules (ae n.aa i0).aI).stop))
def fU (n:Net):Bool:=cX (length n.aa) (ov n)
def A7 (n:Net) (i0:Nat):Am.Loc:=[(2,I 110)]
def K8 (n:Net) (i0:Nat):List Ob:=[]
def pD (n:Net):Am.Loc:=[(1,.pf (aW n))]
def A8 (n:Net):List Ob:=[]
def Gf (n:Net):KB:=⟨uT n 0,DH n 0,fU n,.ret,A7 n (b4 (zH n) (ov n)),K8 n (b4 (zH n) (ov n)),.normal,pD n,A8 n,(!(r32 n))=false/\(!(r33 n))=false⟩
def DJ (n:Net) (i0:Nat):List bG:=[htW (ov n i0) .ret (A7 n i0) zb (K8 n i0),nxW (ov n i0) (uT n (i0+1)) (DH n (i0+1)) (uT n (i0+1)) zb (DH n (i0+1))]
def Xx (n:Net) (i0:Nat):GT:=(.r [.k,bT] (.yes (.r [.int 0,.row (ak (ae n.aa i0)),.cd ((ae n.aa i0).aI).toNat (aE (aq n.rules (ae n.aa i0).aI)),.cd ((aq n.rules (ae n.aa i0).aI).stop).toNat (aA (aq (kh n (i0:Int)) (aq n.rules (ae n.aa i0).aI).stop)),bT] (.br (.r [bT] (.pick 0)) (.r [.int ↑(i0+1),bT] (.pick 1))))))
theorem Zl (n:Net) (i0:Nat) (hf:bp n) (hp0:(!(r32 n))=false/\(!(r33 n))=false) (hx0:i0<(length n.aa)):vcC pg 80 (bI [SF n (i0:Int)] base) aK 3000 (kbL []) IM (bz (uT n i0)) (bw (DH n i0)) 0 (bM (DJ n i0)) (Xx n i0):=
 have hr:=hf.rules;have hs:=hf.aa;have hn:=IL hp0.1 hp0.2;have hq:=SD hp0.2 hx0;have hst:=hn.stop _ (fN (.inr hq));have hrl:=K7 n (i0:Int);have l1:=aU ak (n.aa);have hb:(zc i0 n)=true:=decide_eq_true oab;
 bc (an (a1 a0)
 (an hb (have l2:=aU aA ((kh n (i0:Int)));have l3:=aU aE (n.rules);an (ac (rwz aA (kh n (i0:Int)) (aq n.rules (ae n.aa i0).aI).stop) (ac (rwz aE n.rules (ae n.aa i0).aI) (ac (rwa ak n.aa i0) (cA (g34f n (i0:Int)) ⟨hn,hf,by omega⟩ a0))))
 (brP (fun (h1:(!(aq (kh n (i0:Int)) (aq n.rules (ae n.aa i0).aI).stop))=true)=>
 (an a0
 (lf (wy (DJ n i0) 0) 0 (show ov n i0=true from h1)))) (fun h1=>
 (an (ac (dwo ((i0+1:Nat):Int)) a0)
 (lf (wy (DJ n i0) 1) 0 ⟨(show ov n i0=false from h1),rfl,rfl⟩)))))))
 oaa
theorem Zm (n:Net) (hf:bp n) (hp0:(!(r32 n))=false/\(!(r33 n))=false):vcC pg 80 base aK 3000 (kbL []) IM (bz (uT n (zH n))) (bw (DH n (zH n))) 0 (bM [⟨True,(.exit 0),pD n,range 0,A8 n⟩]) zG:=
 have hr:=hf.rules;have hs:=hf.aa;have l1:=aU ak (n.aa);have hb:(zO n)=false:=decide_eq_false oab;
 bc (an (a1 a0)
 (an hb (lf (wy [⟨True,(.exit 0),pD n,range 0,A8 n⟩] 0) 0 trivial)))
 oaa
theorem SG (n:Net) (i0:Nat):(DJ n i0).all zj=true:=by refine (aF (aR rfl rfl rfl ?_ rfl) (aF (aR rfl rfl rfl ?_ rfl) bC))<;>simp (maxDischargeDepth:=9) [nxW,htW,uT,A7,pD,plS,AV.pure,ah,aj]
theorem SH (n:Net):bG.cS 0 ⟨True,(.exit 0),pD n,range 0,A8 n⟩=true:=(aR rfl rfl rfl (by simp (maxDischargeDepth:=9) [nxW,htW,uT,A7,pD,plS,AV.pure,ah,aj]) rfl)
theorem SJ (n:Net) (hf:bp n):cQ pg 80 0 0 (.loop IM) (Gf n):=
 have hr:=hf.rules;have hs:=hf.aa;bW (fun hp0=>eB (id:=0) (m:=length n.aa) (t:=ov n) (xr:= .ret) (xn:=(.exit 0)) (Lr:=A7 n) (Lx:=pD n) (obr:=K8 n) (obx:=A8 n) (V:=fun i0=>vcC pg 80 (bI [SF n (i0:Int)] base) aK 3000 (kbL []) IM) (uT n) (DH n) 0 (DJ n) (Xx n) _ _ (fun i0 hx0=>aL (bo (.cons (g34f n (i0:Int)) rfl cr.nil) aw) mixed (az _)) (aL aw mixed (az _)) (fun e=>by cases e) (fun e=>by cases e) (fun _=>rfl) (fun i0 hx0=>Zl n i0 hf hp0 hx0) (fun i0 _=>SG n i0) (fun i0 _=>show∀ww∈DJ n i0,cm _ _ _ _ _ _ ww from (aC cT (aC bU bB))) (Zm n hf hp0) (SH n)) (fun h=>h) (fun h=>h)
def IN:Code:=bP 2 (aH 11)
def uU (n:Net) (i2:Nat):Am.Loc:=[(1,.pf (aW n)),(4,.sl 1 (zBX n)),(5,I (i2:Int))]
def DK (n:Net) (i2:Nat):List Ob:=[]
def rT (n:Net) (i2:Nat):Bool:=((ae n.rules i2).bO&&((!(ae n.rules i2).eU)&&(ae (r25 n) i2)))
def lM (n:Net):Bool:=cX (length n.rules) (rT n)
def A9 (n:Net) (i2:Nat):Am.Loc:=[(2,I 110)]
def K9 (n:Net) (i2:Nat):List Ob:=[]
def pF (n:Net):Am.Loc:=[(1,.pf (aW n)),(4,.sl 1 (zBX n))]
def Ba (n:Net):List Ob:=[]
def Gg (n:Net):KB:=⟨uU n 0,DK n 0,lM n,.ret,A9 n (b4 (zS n) (rT n)),K9 n (b4 (zS n) (rT n)),.normal,pF n,Ba n,(!(r32 n))=false/\(!(r33 n))=false⟩
def uV (n:Net) (i2:Nat):List bG:=[htW (rT n i2) .ret (A9 n i2) zb (K9 n i2),nxW (rT n i2) (uU n (i2+1)) (DK n (i2+1)) (uU n (i2+1)) zb (DK n (i2+1))]
def Xy (n:Net) (i2:Nat):GT:=(.r [.k,bT] (.yes (.a (.a (.r (.row (aE (ae n.rules i2))::uTT 4 (.row (aE (ae n.rules i2))::uTT 6 [.row (aA (ae (r25 n) i2)),bT,bT])) (.br (.r [bT] (.pick 0)) (.r [.int ↑(i2+1),bT] (.pick 1)))) (.r (.row (aE (ae n.rules i2))::uTT 4 (.row (aE (ae n.rules i2))::bT::bT::bT::uFF 4 [bT])) (.r [.int ↑(i2+1),bT] (.pick 1)))) (.r (.row (aE (ae n.rules i2))::uFF 11 [bT]) (.r [.int ↑(i2+1),bT] (.pick 1))))))
theorem Zn (n:Net) (i2:Nat) (hf:bp n) (hp2:(!(r32 n))=false/\(!(r33 n))=false) (hx2:i2<(length n.rules)):vcC pg 80 base aK 3000 (kbL []) IN (bz (uU n i2)) (bw (DK n i2)) 0 (bM (uV n i2)) (Xy n i2):=
 have hr:=hf.rules;have hs:=hf.aa;have hrl:=eW n;have l1:=aU aE (n.rules);have hb:(decide ((i2:Int)<(length (map aE n.rules):Int)))=true:=decide_eq_true oab;
 bc (an (a1 a0)
 (an hb (aM (fun (h1:((ae n.rules i2).bO)=true)=>have q0:=(aD h1 rfl:rT n i2=_);
 (aM (fun (h2:(!(ae n.rules i2).eU)=true)=>have q1:=q0.trans (aD h2 rfl);
 (an (a1 (ac (rwa aA (r25 n) i2) (aN 2 (ac h2 (aN 3 (ac (rwa aE n.rules i2) (aN 3 (ac h1 (ac (rwa aE n.rules i2) a0)))))))))
 (brP (fun (h3:((ae (r25 n) i2))=true)=>
 (an a0
 (lf (wy (uV n i2) 0) 0 (q1.trans h3)))) (fun h3=>
 (an (ac (dwo ((i2+1:Nat):Int)) a0)
 (lf (wy (uV n i2) 1) 0 ⟨(q1.trans h3),rfl,rfl⟩)))))) (fun h2=>
 (an (aN 3 (ac (au h2) (aN 3 (ac (rwa aE n.rules i2) (aN 3 (ac h1 (ac (rwa aE n.rules i2) a0)))))))
 (an (ac (dwo ((i2+1:Nat):Int)) a0)
 (lf (wy (uV n i2) 1) 0 ⟨(q0.trans (bf h2)),rfl,rfl⟩)))))) (fun h1=>
 (an (aN 10 (ac (au h1) (ac (rwa aE n.rules i2) a0)))
 (an (ac (dwo ((i2+1:Nat):Int)) a0)
 (lf (wy (uV n i2) 1) 0 ⟨(show rT n i2=false from (bf h1)),rfl,rfl⟩)))))))
 oaa
theorem Zo (n:Net) (hf:bp n) (hp2:(!(r32 n))=false/\(!(r33 n))=false):vcC pg 80 base aK 3000 (kbL []) IN (bz (uU n (zS n))) (bw (DK n (zS n))) 0 (bM [⟨True,(.exit 2),pF n,range 0,Ba n⟩]) zG:=
 have hr:=hf.rules;have hs:=hf.aa;have l1:=aU aE (n.rules);have hb:(zJ n)=false:=decide_eq_false oab;
 bc (an (a1 a0)
 (an hb (lf (wy [⟨True,(.exit 2),pF n,range 0,Ba n⟩] 0) 0 trivial)))
 oaa
theorem SM (n:Net) (i2:Nat):(uV n i2).all zj=true:=by refine (aF (aR rfl rfl rfl ?_ rfl) (aF (aR rfl rfl rfl ?_ rfl) bC))<;>simp (maxDischargeDepth:=9) [nxW,htW,uU,A9,pF,plS,AV.pure,ah,aj]
theorem SN (n:Net):bG.cS 0 ⟨True,(.exit 2),pF n,range 0,Ba n⟩=true:=(aR rfl rfl rfl (by simp (maxDischargeDepth:=9) [nxW,htW,uU,A9,pF,plS,AV.pure,ah,aj]) rfl)
theorem SP (n:Net) (hf:bp n):cQ pg 80 0 2 (.loop IN) (Gg n):=
 have hr:=hf.rules;have hs:=hf.aa;bW (fun hp2=>eB (id:=2) (m:=length n.rules) (t:=rT n) (xr:= .ret) (xn:=(.exit 2)) (Lr:=A9 n) (Lx:=pF n) (obr:=K9 n) (obx:=Ba n) (V:=fun i2=>vcC pg 80 base aK 3000 (kbL []) IN) (uU n) (DK n) 0 (uV n) (Xy n) _ _ (fun i2 hx2=>aL aw mixed (az _)) (aL aw mixed (az _)) (fun e=>by cases e) (fun e=>by cases e) (fun _=>rfl) (fun i2 hx2=>Zn n i2 hf hp2 hx2) (fun i2 _=>SM n i2) (fun i2 _=>show∀ww∈uV n i2,cm _ _ _ _ _ _ ww from (aC cT (aC bU bB))) (Zo n hf hp2) (SN n)) (fun h=>h) (fun h=>h)
def r11 (n:Net):Int:=(bif !(r31 n) then 110 else (bif !(r32 n) then 110 else (bif !(r33 n) then 110 else (bif fU n then 110 else (bif lM n then 110 else (bif r35 n (r25 n) then 110 else (bif r36 n then 110 else 0)))))))
theorem vK:dp [0,2] (aH 11)=[(0,.loop IM),(2,.loop IN)]:=by kernel_rfl
abbrev zBE:GT:=(.r (.int 0::uFF 6 [bT]) zF)
theorem ML (n:Net) (hf:bp n):bg pg 11 [.ag (aW n)] [] [] (I (r11 n)) []:=
 bD (fn:=Tryz.f11) (callf:=(bI [i31 n,i32 n,i33 n,i25 n,i35 n (r25 n),i36 n] base)) (pu:=aK) (lf:=3000) (l:=[(0,Gf n),(2,Gg n)]) (t:=(.r [bT] (.a zBE (.a (.r [.int 0,bT,bT,.int 1,bT,bF,bF,bF,bT] zF) (.r [.int 0,bT,bT,.int 1,bT,bT,bT,.int 2,bT,bT] (.br zF (.r [bT] (.br .nil (.r [.int 3,bT] (.r [bT] (.br .nil (.a (.r [.int 4,bF,bF,bT] zF) (.r [.int 4,bT,bT,.int 5,bT] (.br zF zF)))))))))))))) (bo (.cons (g31 n) rfl (.cons (g32 n) rfl (.cons (g33 n) rfl (.cons (g25 n) rfl (.cons (g35 n (r25 n)) rfl (.cons (g36 n) rfl cr.nil)))))) aw) mixed Tryz.func11 oaa (show Tryz.f11.body=some (aH 11) by kernel_rfl) (Nat.le_of_ble_eq_true rfl) (bK (l:=[(0,Gf n),(2,Gg n)]) vK (aT (SJ n hf) rfl (aT (SP n hf) rfl bj)) rfl) rfl (bc
 (an a0
 (aM (fun (h0:(!(r31 n))=true)=>
 (an (aN 5 (ac (n2 h0) (cA (g31 n) hf a0)))
 (an a0
 (iE (show r11 n=110 from (cdT h0 rfl)))))) (fun h0=>
 (aM (fun (h1:(!(r32 n))=true)=>
 (an (aN 2 (ac (n2 h1) (a1 (cA (g32 n) hf (a1 (ac (au h0) (cA (g31 n) hf a0)))))))
 (an a0
 (iE (show r11 n=110 from (cdF h0 (cdT h1 rfl))))))) (fun h1=>
 (an (a1 (cA (g33 n) hf (a1 (ac (au h1) (a1 (cA (g32 n) hf (a1 (ac (au h0) (cA (g31 n) hf a0)))))))))
 (brP (fun (h2:(!(r33 n))=true)=>
 (an a0
 (iE (show r11 n=110 from (cdF h0 (cdF h1 (cdT h2 rfl))))))) (fun h2=>
 (an a0
 (an (kbT (Gf n) ⟨h1,h2⟩) (brP (fun (h3:(fU n)=true)=>
 (iE (show r11 n=110 from (cdF h0 (cdF h1 (cdF h2 (cdT h3 rfl))))))) (fun h3=>
 (an (cA (g25 n) ⟨IL h1 h2,hf⟩ a0)
 (an a0
 (an (kbT (Gg n) ⟨h1,h2⟩) (brP (fun (h4:(lM n)=true)=>
 (iE (show r11 n=110 from (cdF h0 (cdF h1 (cdF h2 (cdF h3 (cdT h4 rfl)))))))) (fun h4=>
 (aM (fun (h5:(r35 n (r25 n))=true)=>
 (an (a1 (ac (n2 h5) (cA (g35 n (r25 n)) ⟨IL h1 h2,hf,eW n⟩ a0)))
 (an a0
 (iE (show r11 n=110 from (cdF h0 (cdF h1 (cdF h2 (cdF h3 (cdF h4 (cdT h5 rfl))))))))))) (fun h5=>
 (an (cA (g36 n) ⟨IL h1 h2,hf⟩ (a1 (ac (au h5) (cA (g35 n (r25 n)) ⟨IL h1 h2,hf,eW n⟩ a0))))
 (brP (fun (h6:(r36 n)=true)=>
 (an a0
 (iE (show r11 n=110 from (cdF h0 (cdF h1 (cdF h2 (cdF h3 (cdF h4 (cdF h5 (cdT h6 rfl))))))))))) (fun h6=>
 (an a0
 (iE (show r11 n=0 from (cdF h0 (cdF h1 (cdF h2 (cdF h3 (cdF h4 (cdF h5 (cdF h6 rfl))))))))))))))))))))))))))))))))
 oaa)
def Gh:Code->Code
 | .block _ c=>c
 |c=>c
def iv (x:Int):Value:= .int .i64 x
def gV (G:List (List Int)):List (List Value):=G.map fun l=>l.map iv
theorem kP (l:List Int):inner 3 (l.map iv)= .row 3 1 (l.map aO):=by
 unfold inner aG vs
 rw [List.map_map,List.map_map]
 rfl
theorem nf (G:List (List Int)):(gV G).length=G.length:=List.length_map _
theorem Lg {G:List (List Int)} {j:Nat} (hj:j<G.length):(gV G)[j]? =some ((ae G j).map iv):=by rw [gV,List.getElem?_map,eM hj];rfl
theorem Lh (G:List (List Int)) (j:Nat) (l:List Int):(gV G).set j (l.map iv)=gV (G.set j l):=by rw [gV,gV,List.map_set]
theorem Lj (N:Nat):gV (replicate N [])=replicate N []:=by simp [gV]
abbrev oneI (T:TypeId) (o j:Nat) (xs:List Value) (l:List Int):List Ob:=[.row T 1 (aG ((vs xs).set j (.sr (o+1) 1 0 l.length))),.row 3 1 (l.map aO)]
theorem MM (o j:Nat) (xs:List Value) (l:List Int):ma o 36 3 j xs (l.map iv)=oneI 36 o j xs l:=by
 unfold ma
 rw [kP,List.length_map]
theorem pin1 {P:Program} {n:Nat} {c:Code} {L L' :Am.Loc} {base:List Ob} {G:List (List Int)} {j:Nat} {R' :List Int} {x:AX} (hj:j<G.length) (hrf:c.rf=false) (hx:eT x=true)
  (uL: ∀p∈L,p.2.und (base.length+1)=true) (uL' : ∀p∈L',p.2.und (base.length+1)=true) (ub:base.all (Ob.und (base.length+1))=true) (nd: ∀X∈base,X≠ .dead)
  (h: ∀xs:List Value,xs.length=G.length->Piece P n (base.length+1) c L (base++oneI 36 base.length j xs (ae G j)) x L' (base++oneI 36 base.length j xs R')):
  Piece P n 0 c L (base++cp base.length 36 3 (gV G)) x L' (base++cp base.length 36 3 (gV (G.set j R'))):=by
 rw [<-Lh]
 refine JQ (Lg hj) rfl (Nat.zero_le _) hrf hx (List.all_eq_true.2 uL) (List.all_eq_true.2 uL') ub ub nd fun xs hxs=> ?_
 rw [MM,MM]
 exact h xs (by rw [hxs,nf])
theorem DL (N:Nat): ∀(Rs:List (List Value)) (o:Nat),o+Rs.length<=N->cZ N (aG (dw o Rs))=true
 |[],_,_=>rfl
 |R::Rs,o,h=>by
  simp only [List.length_cons] at h
  have:=DL N Rs (o+1) oab
  simp only [dw,aG,List.map_cons,cZ,cy,AV.und,Bool.and_true,Bool.and_eq_true,decide_eq_true_eq] at this⊢
  exact ⟨by first|omega|simpa using oab,this⟩
theorem OG (N:Nat) (Ti:TypeId) (R:List Value):(inner Ti R).und N=true:=by
 have:cZ N (aG (vs R))=true:=by
  induction R with
  |nil=>rfl
  |cons x R ih=>simp only [aG,vs,List.map_cons,cZ,cy,AV.und,Bool.and_self,Bool.true_and] at ih⊢;exact ih
 simpa [inner,Ob.und] using this
theorem OH (Rs:List (List Value)) (T Ti:TypeId):(cp 0 T Ti Rs).all (Ob.und (Rs.length+1))=true:=by
 simp only [cp,List.all_cons,List.all_map,Bool.and_eq_true,List.all_eq_true]
 exact ⟨by simpa [Ob.und] using DL _ Rs 1 oab,fun R _=>OG _ _ _⟩
theorem pin2 {P:Program} {n:Nat} {c:Code} {Ls Ls' L L' :Am.Loc} {G1 G2:List (List Int)} {N1 j k:Nat} {A' B' :List Int} {x:AX} (hN:G1.length=N1) (hj:j<G1.length) (hk:k<G2.length) (hrf:c.rf=false) (hx:eT x=true)
  (uL: ∀p∈Ls,(mF p.2||p.2.und 1)=true) (uL' : ∀p∈Ls',(mF p.2||p.2.und 1)=true) (hL:shL N1 Ls=L) (hL' :shL N1 Ls' =L')
  (h: ∀xs ys:List Value,xs.length=G1.length->ys.length=G2.length->Piece P n 2 c Ls [.row 36 1 (aG ((vs xs).set j (.sr 2 1 0 (ae G1 j).length))),.row 36 1 (aG ((vs ys).set k (.sr 3 1 0 (ae G2 k).length))),.row 3 1 ((ae G1 j).map aO),.row 3 1 ((ae G2 k).map aO)] x Ls' [.row 36 1 (aG ((vs xs).set j (.sr 2 1 0 A'.length))),.row 36 1 (aG ((vs ys).set k (.sr 3 1 0 B'.length))),.row 3 1 (A'.map aO),.row 3 1 (B'.map aO)]):
  Piece P n 0 c L (cp 0 36 3 (gV G1)++cp (N1+1) 36 3 (gV G2)) x L' (cp 0 36 3 (gV (G1.set j A'))++cp (N1+1) 36 3 (gV (G2.set k B'))):=by
 subst hN
 subst hL
 subst hL'
 rw [<-Lh,<-Lh]
 have:=H3 (T:=36) (Ti:=3) (x:=x) (Ls:=Ls) (Ls' :=Ls') (A' :=A'.map iv) (B' :=B'.map iv) (Lg hj) (Lg hk) hrf hx (List.all_eq_true.2 uL) (List.all_eq_true.2 uL') fun xs ys hxs hys=>by
  rw [kP,kP,kP,kP,List.length_map,List.length_map,List.length_map,List.length_map]
  exact h xs ys (by rw [hxs,nf]) (by rw [hys,nf])
 rw [nf] at this
 exact this
theorem Bb (N:Nat):replicate N [AV.v (.slice none 0 0)]=aG (replicate N (.v (.slice none 0 0))):=by simp [aG]
theorem DM {P:Program} {n id:Nat} {c:Code} {base:List Ob} {L Lx Lx2:Am.Loc} {N:Nat} {G:List (List Int)} {g:List (List AV)} (hp:Piece P n 0 (.block id (.loop c)) L (base++cp base.length 36 3 (gV (replicate N []))) .normal Lx (base++cp base.length 36 3 (gV G))) (ub:base.all (Ob.und base.length)=true) (hG:aG (iP (gV G))=g)
  (hL: ∀p∈Lx2,(lk Lx p.1=some p.2/\p.2.und base.length=true)\/(lk Lx p.1=some (.sr base.length 1 0 G.length)/\p.2= .sl 1 g)):cQ P n 0 id (.loop c) ⟨L,base++ [.row 36 1 (replicate N [.v (.slice none 0 0)])],false,.ret,[],[],.normal,Lx2,base,True⟩:=by
 refine ⟨fun _ e=>oax,fun _ _=> ?_⟩
 show Piece P n 0 (.block id (.loop c)) L (base++ [.row 36 1 (replicate N [.v (.slice none 0 0)])]) .normal Lx2 base
 rw [Bb]
 refine xX (JR 3 (Nat.zero_le _)) ?_
 rw [<-Lj]
 refine fv (eQ.refl _ _) hp (mG (Nat.zero_le _) ub fun t av e=> ?_) rfl
 rw [hG,nf]
 exact hL _ (kX e)
theorem OI {P:Program} {n id:Nat} {c:Code} {L L1 Lx Lm Lx2:Am.Loc} {N0 N1 N2:Nat} {G1 G2:List (List Int)} {g1 g2:List (List AV)} (hN:N0=N1) (hp:Piece P n 0 (.block id (.loop c)) L1 (cp 0 36 3 (gV (replicate N0 []))++cp (N1+1) 36 3 (gV (replicate N2 []))) .normal Lx (cp 0 36 3 (gV G1)++cp (N1+1) 36 3 (gV G2))) (hL1:shL N1 L=L1) (uL: ∀p∈L,(mF p.2||p.2.und 1)=true) (h1:G1.length=N1) (hG1:aG (iP (gV G1))=g1) (hG2:aG (iP (gV G2))=g2)
  (hm: ∀p∈Lm,(lk Lx p.1=some p.2/\p.2.und (N1+1)=true)\/(lk Lx p.1=some (.sr (N1+1) 1 0 G2.length)/\p.2= .sl 1 g2))
  (hx: ∀p∈Lx2,(lk Lm p.1=some p.2/\p.2.und 0=true)\/(lk Lm p.1=some (.sr 0 1 0 G1.length)/\p.2= .sl 1 g1)):cQ P n 0 id (.loop c) ⟨L,[.row 36 1 (replicate N0 [.v (.slice none 0 0)]),.row 36 1 (replicate N2 [.v (.slice none 0 0)])],false,.ret,[],[],.normal,Lx2,[],True⟩:=by
 subst hN
 refine ⟨fun _ e=>oax,fun _ _=> ?_⟩
 show Piece P n 0 (.block id (.loop c)) L [.row 36 1 (replicate N0 [.v (.slice none 0 0)]),.row 36 1 (replicate N2 [.v (.slice none 0 0)])] .normal Lx2 []
 rw [Bb,Bb]
 refine xX (NW 3 (List.all_eq_true.2 uL)) ?_
 rw [hL1,<-Lj,<-Lj]
 have e1:(cp 0 36 3 (gV G1)).length=N0+1:=by rw [sK,nf,h1]
 have t1:eQ 0 Lx (cp 0 36 3 (gV G1)++cp (N0+1) 36 3 (gV G2)) Lm (cp 0 36 3 (gV G1)):=by
  rw [<-e1]
  refine mG (Nat.zero_le _) (by rw [sK];exact OH _ _ _) fun t av e=> ?_
  rw [e1,hG2,nf]
  exact hm _ (kX e)
 have t2:eQ 0 Lm (cp 0 36 3 (gV G1)) Lx2 []:=by
  refine mG (base:=[]) (Nat.zero_le _) rfl fun t av e=> ?_
  rw [hG1,nf]
  exact hx _ (kX e)
 exact fv (eQ.refl _ _) hp (t1.trans t2) rfl
theorem rU (G:List (List Int)):aG (iP (gV G))=G.map fun l=>[.sl 1 (l.map aO)]:=by
 unfold aG iP gV
 rw [List.map_map,List.map_map]
 refine List.map_congr_left fun l _=> ?_
 simp only [Function.comp]
 have:=kP l
 simp only [inner,Ob.row.injEq,true_and] at this
 rw [this]
section
variable {step:Nat->Nat->List (List Int)->List (List Int)} {len:Nat->Nat} {tg:Nat->Nat->List Int}
theorem V5 (i:Nat) (h: ∀k G,k<len i->step i k G=G.set i (ae G i++tg i k)) (G:List (List Int)) (hi:i<G.length) (k:Nat) (hk:k<=len i):inF step i G k=G.set i (ae G i++(range k).flatMap (tg i)):=by
 induction k with
 |zero=>
  show G=G.set i (ae G i++ [])
  rw [List.append_nil]
  refine (List.ext_getElem? fun j=> ?_)
  by_cases hj:i=j
  ·subst hj;rw [List.getElem?_set_self hi,eM hi]
  ·rw [List.getElem?_set_ne hj]
 |succ k ih=>
  show step i k (inF step i G k)=_
  rw [h k _ oab,ih oab,List.set_set,List.range_succ,List.flatMap_append]
  congr 1
  rw [ae,List.getElem?_set_self hi]
  simp
theorem Bc {m:Nat} (h: ∀i k G,i<m->k<len i->step i k G=G.set i (ae G i++tg i k)) (i:Nat) (hi:i<=m):gm step len (replicate m []) i=(range i).map (fun i=>(range (len i)).flatMap (tg i))++replicate (m-i) []:=by
 induction i with
 |zero=>show replicate m []=_;simp
 |succ i ih=>
  show inF step i (gm step len (replicate m []) i) (len i)=_
  rw [ih oab,V5 i (fun k G hk=>h i k G oab hk) _ oat _ (Nat.le_refl _)]
  have e1:ae ((range i).map (fun i=>(range (len i)).flatMap (tg i))++replicate (m-i) ([]:List Int)) i=[]:=by
   rw [ae,List.getElem?_append_right oai]
   simp only [List.length_map,List.length_range,Nat.sub_self,List.getElem?_replicate]
   rw [if_pos oab];rfl
  rw [e1,List.nil_append,List.set_append_right _ _ oai,List.range_succ,List.map_append,List.append_assoc]
  congr 1
  simp only [List.length_map,List.length_range,Nat.sub_self]
  rw [show m-i=(m-(i+1))+1 by omega,List.replicate_succ,List.set_cons_zero]
  rfl
end
theorem kj {α:Type} [Inhabited α] (l:List α) (f:α->List Int):(range l.length).flatMap (fun k=>f (ae l k))=l.flatMap f:=by
 have:l=(range l.length).map (ae l):=by
  refine List.ext_getElem? fun i=> ?_
  rw [List.getElem?_map]
  by_cases hi:i<l.length
  ·rw [List.getElem?_range hi,eM hi];rfl
  ·rw [List.getElem?_eq_none oab,List.getElem?_eq_none oat];rfl
 conv=>rhs;rw [this]
 rw [List.flatMap_map]
theorem DN {α β:Type} [Inhabited α] (l:List α) (f:α->β):(range l.length).map (fun k=>f (ae l k))=l.map f:=by
 refine List.ext_getElem? fun i=> ?_
 rw [List.getElem?_map,List.getElem?_map]
 by_cases hi:i<l.length
 ·rw [List.getElem?_range hi,eM hi];rfl
 ·rw [List.getElem?_eq_none oat,List.getElem?_eq_none oab];rfl
theorem wD {G:List (List Int)} {N b c j:Nat} {R' :List Int} (h:G.length=N/\ ∀l∈G,l.length<=b) (hbc:b<=c) (hR:R'.length<=c):(G.set j R').length=N/\ ∀l∈G.set j R',l.length<=c:=⟨by rw [List.length_set];exact h.1,fun l hl=>by
 rcases List.mem_or_eq_of_mem_set hl with h2|rfl
 ·exact Nat.le_trans (h.2 l h2) hbc
 ·exact hR⟩
theorem wE (N:Nat): ∀l∈replicate N ([]:List Int),l.length<=0*1000000+0:=fun l hl=>by rw [(List.mem_replicate.1 hl).2];exact Nat.zero_le _
noncomputable def tgT (emp:List Bool) (e:Edge):List Int:=bif okT emp e then [e.to] else []
theorem V6 (emp:List Bool) (e:Edge) (l:List Int):(l++tgT emp e).length<=l.length+1:=by
 unfold tgT
 cases okT emp e<;>simp
theorem SQ (emp:List Bool) (l:List Edge) (h: ∀e∈l,0<=e.to):(l.flatMap (tgT emp)).map aO=((l.filter (okT emp)).map fun e=>e.to.toNat).map cH:=by
 induction l with
 |nil=>rfl
 |cons e l ih=>
  rw [List.flatMap_cons,List.map_append,ih fun x hx=>h x (List.mem_cons_of_mem _ hx)]
  have h0:=h e List.mem_cons_self
  unfold tgT
  cases ho:okT emp e with
  |true=>
   rw [List.filter_cons_of_pos ho]
   simp only [cond_true,List.map_cons,List.map_nil,List.cons_append,List.nil_append]
   rw [show aO e.to=cH e.to.toNat by simp only [aO,cH];rw [show ((e.to.toNat:Nat):Int)=e.to by omega]]
  |false=>rw [List.filter_cons_of_neg (by simp [ho])];rfl
theorem Zp {n:Net} (hn:rM n) (emp:List Bool):((range n.aa.length).map fun i=>(range (ae n.aa i).ai.length).flatMap fun k=>tgT emp (ae (ae n.aa i).ai k)).map (fun l=>[AV.sl 1 (l.map aO)])=(gA (okT emp) n).map bn:=by
 have h1:(fun i=>(range (ae n.aa i).ai.length).flatMap fun k=>tgT emp (ae (ae n.aa i).ai k))=fun i=>(fun s:State=>s.ai.flatMap (tgT emp)) (ae n.aa i):=funext fun i=>kj (ae n.aa i).ai (tgT emp)
 rw [h1,DN n.aa (fun s:State=>s.ai.flatMap (tgT emp)),gA,List.map_map,List.map_map]
 refine List.map_congr_left fun s hs=> ?_
 simp only [Function.comp,bn]
 rw [SQ emp s.ai fun e he=>(hn s hs e he).1]
theorem Zq {ok:Edge->Bool} {n:Net} (hf:bp n): ∀R∈gA ok n,R.length<=9223372036854775807:=fun R hR=>by
 unfold gA at hR
 obtain ⟨s,hs,rfl⟩:=List.mem_map.1 hR
 rw [List.length_map]
 exact Nat.le_trans (List.length_filter_le _ _) (Nat.le_trans (hf.ai s hs) oab)
noncomputable def kQ (n:Net) (emp:List Bool) (x:Int):List Bool:=jw (gA (okT emp) n) x.toNat
theorem OJ (n:Net) (emp:List Bool) (x:Int):(kQ n emp x).length=n.aa.length:=by simp [kQ,jw,pe]
theorem V7 {n:Net} (hn:bt n) (hf:bp n) (emp:List Bool) (x:Int) (hx:0<=x/\x<(n.aa.length:Int)):bg pg 59 [.sl 1 ((gA (okT emp) n).map bn),I x] [] [] (.sl 1 ((kQ n emp x).map aA)) []:=by
 have h:=R0 (gA (okT emp) n) x.toNat (by rw [pe];omega) (gA_wf hn.to) (by rw [pe];exact hf.aa) (Zq hf)
 rw [show ((x.toNat:Nat):Int)=x by omega] at h
 exact h
def i59 (n:Net) (emp:List Bool) (x:Int):cc:=⟨59,[.sl 1 ((gA (okT emp) n).map bn),I x],.sl 1 ((kQ n emp x).map aA),bt n/\bp n/\0<=x/\x<(n.aa.length:Int)⟩
theorem g59 (n:Net) (emp:List Bool) (x:Int):(i59 n emp x).b7 pg:=fun hp=>⟨V7 hp.1 hp.2.1 emp x hp.2.2,by simp [i59,ah,AV.pure],by simp [i59,AV.pure,ah]⟩
def Be:Code:=bP 0 (aH 24)
def gi:Code:=bP 2 Be
def IP:Code:=bP 4 gi
theorem SS:gi= .seq (sq1 gi) (.seq (sq1 (sq2 gi)) (.seq (.block 3 (.seq (sq1 (Gh (sq1 (sq2 (sq2 gi))))) (.seq (sq1 (sq2 (Gh (sq1 (sq2 (sq2 gi)))))) (.block 4 (.loop IP))))) (sq2 (sq2 (sq2 gi))))):=by kernel_rfl
abbrev zT (i2:Nat) (n:Net):Am.Loc:=[(0,.pf (aW n)),(3,.sr 0 1 0 (zB n)),(4,B false),(5,.sr 1 1 0 (zY n)),(28,.sl 2 (zA n)),(29,I (length (zA n):Int)),(30,I (i2:Int))]
abbrev zX (i2:Nat) (n:Net):Am.Loc:=[(0,.pf (aW n)),(3,.sr 0 1 0 (zB n)),(4,B false),(5,.sr 1 1 0 (zY n)),(28,.sl 2 (zA n)),(29,I (length (zA n):Int)),(30,I (i2:Int)),(31,B (decide ((i2:Int)<(length (zA n):Int))))]
abbrev zBJ:GT:=(.r [.k,bT] (.pick 0))
theorem SU (n:Net) (w0:Bool×(List Bool)) (i2:Nat) (hn:bt n) (hf:bp n) (hw0:length w0.2=length n.rules) (hx2:i2<length n.aa) (v:Nat->Value):vcC pg 100 base aK 3000 (kbL []) (sq1 gi) (bz (bA [3,5] v (zT i2 n))) (bw []) 0 (bM [⟨True,.normal,bA [3,5] v (zX i2 n),[],[]⟩]) zBJ:=
 bc (an (a1 a0)
 (lf (wy [⟨True,.normal,bA [3,5] v [(0,.pf (aW n)),(3,.sr 0 1 0 (length (map aE n.rules))),(4,B false),(5,.sr 1 1 0 (length (map ak n.aa))),(28,.sl 2 (map ak n.aa)),(29,I (length (map ak n.aa):Int)),(30,I (i2:Int)),(31,B (decide ((i2:Int)<(length (map ak n.aa):Int))))],[],[]⟩] 0) 0 trivial))
 oaa
theorem Zr (n:Net) (w0:Bool×(List Bool)) (i2:Nat) (hn:bt n) (hf:bp n) (hw0:length w0.2=length n.rules) (hx2:i2<length n.aa) (ob:List Ob):Piece pg 100 0 (sq1 gi) (zT i2 n) ob .normal (zX i2 n) ob:=
 bZ [3,5] oaa rfl oae oac fun v=>cF (aL aw mixed (az _)) (SU n w0 i2 hn hf hw0 hx2 v) (aR rfl rfl rfl oah rfl)
abbrev zq (i2:Nat) (n:Net):Am.Loc:=[(0,.pf (aW n)),(3,.sr 0 1 0 (zB n)),(4,B false),(5,.sr 1 1 0 (zY n)),(28,.sl 2 (zA n)),(29,I (length (zA n):Int)),(30,I (i2:Int)),(31,B true)]
theorem SV (n:Net) (w0:Bool×(List Bool)) (i2:Nat) (hn:bt n) (hf:bp n) (hw0:length w0.2=length n.rules) (hx2:i2<length n.aa) (v:Nat->Value):vcC pg 100 base aK 3000 (kbL []) (sq1 (sq2 gi)) (bz (bA [3,5] v (zX i2 n))) (bw []) 0 (bM [⟨True,.normal,bA [3,5] v (zq i2 n),[],[]⟩]) (.yes (.pick 0)):=
 have hr:=hf.rules;have hs:=hf.aa;have hed:=hf.ai _ (ay hx2);have l1:=aU ak (n.aa);have hb:(decide ((i2:Int)<(length (map ak n.aa):Int)))=true:=decide_eq_true oab;bc (an hb (lf (wy [⟨True,.normal,bA [3,5] v [(0,.pf (aW n)),(3,.sr 0 1 0 (length (map aE n.rules))),(4,B false),(5,.sr 1 1 0 (length (map ak n.aa))),(28,.sl 2 (map ak n.aa)),(29,I (length (map ak n.aa):Int)),(30,I (i2:Int)),(31,B true)],[],[]⟩] 0) 0 trivial))
 oaa
theorem Zs (n:Net) (w0:Bool×(List Bool)) (i2:Nat) (hn:bt n) (hf:bp n) (hw0:length w0.2=length n.rules) (hx2:i2<length n.aa) (ob:List Ob):Piece pg 100 0 (sq1 (sq2 gi)) (zX i2 n) ob .normal (zq i2 n) ob:=
 bZ [3,5] oaa rfl oae oac fun v=>cF (aL aw mixed (az _)) (SV n w0 i2 hn hf hw0 hx2 v) (aR rfl rfl rfl oah rfl)
abbrev zBl:=(Gh (sq1 (sq2 (sq2 gi))))
abbrev zBu (i2:Nat) (n:Net):=(ak (ae n.aa i2))
theorem SW (n:Net) (w0:Bool×(List Bool)) (i2:Nat) (hn:bt n) (hf:bp n) (hw0:length w0.2=length n.rules) (hx2:i2<length n.aa) (v:Nat->Value):vcC pg 100 base aK 3000 (kbL []) (sq1 zBl) (bz (bA [3,5] v (zq i2 n))) (bw []) 0 (bM [⟨True,.normal,bA [3,5] v [(0,.pf (aW n)),(3,.sr 0 1 0 (zB n)),(4,B false),(5,.sr 1 1 0 (zY n)),(6,I (i2:Int)),(7,.pt 0 0),(28,.sl 2 (zA n)),(29,I (length (zA n):Int)),(30,I (i2:Int)),(31,B true),(32,I (i2:Int)),(33,.pf (zBu i2 n)),(34,.ag (zBu i2 n))],[0],[.box 40 (zBu i2 n)]⟩]) (.r [.row (zBu i2 n),bT] (.pick 0)):=
 have hr:=hf.rules;have hs:=hf.aa;have hed:=hf.ai _ (ay hx2);bc (an (ac (rwa ak n.aa i2) a0)
 (lf (wy [⟨True,.normal,bA [3,5] v [(0,.pf (aW n)),(3,.sr 0 1 0 (length (map aE n.rules))),(4,B false),(5,.sr 1 1 0 (length (map ak n.aa))),(6,I (i2:Int)),(7,.pt 0 0),(28,.sl 2 (map ak n.aa)),(29,I (length (map ak n.aa):Int)),(30,I (i2:Int)),(31,B true),(32,I (i2:Int)),(33,.pf (ak (ae n.aa i2))),(34,.ag (ak (ae n.aa i2)))],[0],[.box 40 (ak (ae n.aa i2))]⟩] 0) 1 trivial))
 oaa
abbrev zk (i2:Nat) (n:Net):Am.Loc:=[(0,.pf (aW n)),(3,.sr 0 1 0 (zB n)),(4,B false),(5,.sr 1 1 0 (zY n)),(6,I (i2:Int)),(7,.pf (zBu i2 n)),(28,.sl 2 (zA n)),(29,I (length (zA n):Int)),(30,I (i2:Int)),(31,B true),(32,I (i2:Int)),(33,.pf (zBu i2 n)),(34,.ag (zBu i2 n))]
theorem Zt (n:Net) (w0:Bool×(List Bool)) (i2:Nat) (hn:bt n) (hf:bp n) (hw0:length w0.2=length n.rules) (hx2:i2<length n.aa) (ob:List Ob):Piece pg 100 0 (sq1 zBl) (zq i2 n) ob .normal (zk i2 n) ob:=
 bZ [3,5] oaa rfl oae oac fun v=>fv (eQ.refl _ _) (cF (aL aw mixed (az _)) (SW n w0 i2 hn hf hw0 hx2 v) (aR rfl rfl rfl oah oap)) (sP (ob:=[]) (Tb:=40) (cells:=(ak (ae n.aa i2))) (Nat.zero_le _) (L' :=bA [3,5] v [(0,.pf (aW n)),(3,.sr 0 1 0 (length (map aE n.rules))),(4,B false),(5,.sr 1 1 0 (length (map ak n.aa))),(6,I (i2:Int)),(7,.pf (ak (ae n.aa i2))),(28,.sl 2 (map ak n.aa)),(29,I (length (map ak n.aa):Int)),(30,I (i2:Int)),(31,B true),(32,I (i2:Int)),(33,.pf (ak (ae n.aa i2))),(34,.ag (ak (ae n.aa i2)))]) oal rfl) rfl
abbrev zv (i2:Nat) (n:Net):=(map aV (ae n.aa i2).ai)
abbrev zAW (i2:Nat) (n:Net):Am.Loc:=[(0,.pf (aW n)),(3,.sr 0 1 0 (zB n)),(4,B false),(5,.sr 1 1 0 (zY n)),(6,I (i2:Int)),(28,.sl 2 (zA n)),(29,I (length (zA n):Int)),(30,I (i2:Int)),(36,.sl 10 (zv i2 n)),(37,I (length (zv i2 n):Int)),(38,I 0)]
theorem SX (n:Net) (w0:Bool×(List Bool)) (i2:Nat) (hn:bt n) (hf:bp n) (hw0:length w0.2=length n.rules) (hx2:i2<length n.aa) (v:Nat->Value):vcC pg 100 base aK 3000 (kbL []) (sq1 (sq2 zBl)) (bz (bA [3,5] v (zk i2 n))) (bw []) 0 (bM [⟨True,.normal,bA [3,5] v (zAW i2 n),[],[]⟩]) zt:=
 bc (an a0
 (lf (wy [⟨True,.normal,bA [3,5] v [(0,.pf (aW n)),(3,.sr 0 1 0 (length (map aE n.rules))),(4,B false),(5,.sr 1 1 0 (length (map ak n.aa))),(6,I (i2:Int)),(28,.sl 2 (map ak n.aa)),(29,I (length (map ak n.aa):Int)),(30,I (i2:Int)),(36,.sl 10 (map aV (ae n.aa i2).ai)),(37,I (length (map aV (ae n.aa i2).ai):Int)),(38,I 0)],[],[]⟩] 0) 0 trivial))
 oaa
theorem Zu (n:Net) (w0:Bool×(List Bool)) (i2:Nat) (hn:bt n) (hf:bp n) (hw0:length w0.2=length n.rules) (hx2:i2<length n.aa) (ob:List Ob):Piece pg 100 0 (sq1 (sq2 zBl)) (zk i2 n) ob .normal (zAW i2 n) ob:=
 bZ [3,5] oaa rfl oae oac fun v=>cF (aL aw mixed (az _)) (SX n w0 i2 hn hf hw0 hx2 v) (aR rfl rfl rfl oah rfl)
abbrev zAL (i2:Nat) (n:Net):Am.Loc:=[(0,.pf (aW n)),(3,.sr 0 1 0 (zB n)),(4,B false),(5,.sr 1 1 0 (zY n)),(6,I (i2:Int)),(28,.sl 2 (zA n)),(29,I (length (zA n):Int)),(30,I (i2:Int)),(36,.sl 10 (zv i2 n)),(37,I (length (zv i2 n):Int)),(38,I (((length (ae n.aa i2).ai):Nat):Int))]
theorem SY (n:Net) (w0:Bool×(List Bool)) (i2:Nat) (hn:bt n) (hf:bp n) (hw0:length w0.2=length n.rules) (hx2:i2<length n.aa) (v:Nat->Value):vcC pg 100 base aK 3000 (kbL []) IP (bz (bA [3,5] v (zAL i2 n))) (bw []) 0 (bM [⟨True,(.exit 4),bA [3,5] v (zT i2 n),[],[]⟩]) zG:=
 have hr:=hf.rules;have hs:=hf.aa;have hed:=hf.ai _ (ay hx2);have l1:=aU aV ((ae n.aa i2).ai);have hb:(decide ((((length (ae n.aa i2).ai):Nat):Int)<(length (map aV (ae n.aa i2).ai):Int)))=false:=decide_eq_false oab;bc (an (a1 a0)
 (an hb (lf (wy [⟨True,(.exit 4),bA [3,5] v [(0,.pf (aW n)),(3,.sr 0 1 0 (length (map aE n.rules))),(4,B false),(5,.sr 1 1 0 (length (map ak n.aa))),(28,.sl 2 (map ak n.aa)),(29,I (length (map ak n.aa):Int)),(30,I (i2:Int))],[],[]⟩] 0) 0 trivial)))
 oaa
theorem Zv (n:Net) (w0:Bool×(List Bool)) (i2:Nat) (hn:bt n) (hf:bp n) (hw0:length w0.2=length n.rules) (hx2:i2<length n.aa) (ob:List Ob):Piece pg 100 0 IP (zAL i2 n) ob (.exit 4) (zT i2 n) ob:=
 bZ [3,5] oaa rfl oae oac fun v=>cF (aL aw mixed (az _)) (SY n w0 i2 hn hf hw0 hx2 v) (aR rfl rfl rfl oah rfl)
abbrev zAn (i2:Nat):List Gi:=[.int ↑(i2+1),bT]
abbrev zBB (i2:Nat) (n:Net):Am.Loc:=[(0,.pf (aW n)),(3,.sr 0 1 0 (zB n)),(4,B false),(5,.sr 1 1 0 (zY n)),(28,.sl 2 (zA n)),(29,I (length (zA n):Int)),(30,I ↑(i2+1))]
theorem SZ (n:Net) (w0:Bool×(List Bool)) (i2:Nat) (hn:bt n) (hf:bp n) (hw0:length w0.2=length n.rules) (hx2:i2<length n.aa) (v:Nat->Value):vcC pg 100 base aK 3000 (kbL []) (sq2 (sq2 (sq2 gi))) (bz (bA [3,5] v (zT i2 n))) (bw []) 0 (bM [⟨True,.normal,bA [3,5] v (zBB i2 n),[],[]⟩]) (.r (zAn i2) (.pick 0)):=
 have hr:=hf.rules;have hs:=hf.aa;have hed:=hf.ai _ (ay hx2);bc (an (ac (dwo ((i2+1:Nat):Int)) a0)
 (lf (wy [⟨True,.normal,bA [3,5] v [(0,.pf (aW n)),(3,.sr 0 1 0 (length (map aE n.rules))),(4,B false),(5,.sr 1 1 0 (length (map ak n.aa))),(28,.sl 2 (map ak n.aa)),(29,I (length (map ak n.aa):Int)),(30,I ↑(i2+1))],[],[]⟩] 0) 0 trivial))
 oaa
theorem Zw (n:Net) (w0:Bool×(List Bool)) (i2:Nat) (hn:bt n) (hf:bp n) (hw0:length w0.2=length n.rules) (hx2:i2<length n.aa) (ob:List Ob):Piece pg 100 0 (sq2 (sq2 (sq2 gi))) (zT i2 n) ob .normal (zBB i2 n) ob:=
 bZ [3,5] oaa rfl oae oac fun v=>cF (aL aw mixed (az _)) (SZ n w0 i2 hn hf hw0 hx2 v) (aR rfl rfl rfl oah rfl)
abbrev zBZ (n:Net):=(decide ((((zH n):Nat):Int)<(length (zA n):Int)))
abbrev zU (n:Net):Am.Loc:=[(0,.pf (aW n)),(3,.sr 0 1 0 (zB n)),(4,B false),(5,.sr 1 1 0 (zY n)),(28,.sl 2 (zA n)),(29,I (length (zA n):Int)),(30,I (((zH n):Nat):Int)),(31,B (zBZ n))]
abbrev zAr (n:Net):Am.Loc:=[(0,.pf (aW n)),(3,.sr 0 1 0 (zB n)),(4,B false),(5,.sr 1 1 0 (zY n)),(28,.sl 2 (zA n)),(29,I (length (zA n):Int)),(30,I (((zH n):Nat):Int))]
theorem S0 (n:Net) (w0:Bool×(List Bool)) (hn:bt n) (hf:bp n) (hw0:length w0.2=length n.rules) (v:Nat->Value):vcC pg 100 base aK 3000 (kbL []) (sq1 gi) (bz (bA [3,5] v (zAr n))) (bw []) 0 (bM [⟨True,.normal,bA [3,5] v (zU n),[],[]⟩]) zBJ:=
 bc (an (a1 a0)
 (lf (wy [⟨True,.normal,bA [3,5] v [(0,.pf (aW n)),(3,.sr 0 1 0 (length (map aE n.rules))),(4,B false),(5,.sr 1 1 0 (length (map ak n.aa))),(28,.sl 2 (map ak n.aa)),(29,I (length (map ak n.aa):Int)),(30,I (((length n.aa):Nat):Int)),(31,B (zO n))],[],[]⟩] 0) 0 trivial))
 oaa
theorem Zx (n:Net) (w0:Bool×(List Bool)) (hn:bt n) (hf:bp n) (hw0:length w0.2=length n.rules) (ob:List Ob):Piece pg 100 0 (sq1 gi) (zAr n) ob .normal (zU n) ob:=
 bZ [3,5] oaa rfl oae oac fun v=>cF (aL aw mixed (az _)) (S0 n w0 hn hf hw0 v) (aR rfl rfl rfl oah rfl)
abbrev zCF (n:Net):Am.Loc:=[(0,.pf (aW n)),(3,.sr 0 1 0 (zB n)),(4,B false),(5,.sr 1 1 0 (zY n))]
theorem S1 (n:Net) (w0:Bool×(List Bool)) (hn:bt n) (hf:bp n) (hw0:length w0.2=length n.rules) (v:Nat->Value):vcC pg 100 base aK 3000 (kbL []) (sq1 (sq2 gi)) (bz (bA [3,5] v (zU n))) (bw []) 0 (bM [⟨True,(.exit 2),bA [3,5] v (zCF n),[],[]⟩]) (.no (.pick 0)):=
 have hr:=hf.rules;have hs:=hf.aa;have l1:=aU ak (n.aa);have hb:(zO n)=false:=decide_eq_false oab;bc (an hb (lf (wy [⟨True,(.exit 2),bA [3,5] v [(0,.pf (aW n)),(3,.sr 0 1 0 (length (map aE n.rules))),(4,B false),(5,.sr 1 1 0 (length (map ak n.aa)))],[],[]⟩] 0) 0 trivial))
 oaa
theorem Zy (n:Net) (w0:Bool×(List Bool)) (hn:bt n) (hf:bp n) (hw0:length w0.2=length n.rules) (ob:List Ob):Piece pg 100 0 (sq1 (sq2 gi)) (zU n) ob (.exit 2) (zCF n) ob:=
 bZ [3,5] oaa rfl oae oac fun v=>cF (aL aw mixed (az _)) (S1 n w0 hn hf hw0 v) (aR rfl rfl rfl oah rfl)
def eH (n:Net) (w0:Bool×(List Bool)) (i2 i4:Nat) (l:List Int):List Int:=(bif (ae (ae n.aa i2).ai i4).op !=1 then (bif (ae (ae n.aa i2).ai i4).op !=2 then l++ [(ae (ae n.aa i2).ai i4).to] else (bif (ae w0.2 (((ae (ae n.aa i2).ai i4).n).toNat)) then l++ [(ae (ae n.aa i2).ai i4).to] else l)) else l)
abbrev zN (i2 i4:Nat) (n:Net):Am.Loc:=[(0,.pf (aW n)),(3,.sr 0 1 0 (zB n)),(4,B false),(5,.sr 1 1 0 (zY n)),(6,I (i2:Int)),(28,.sl 2 (zA n)),(29,I (length (zA n):Int)),(30,I (i2:Int)),(36,.sl 10 (zv i2 n)),(37,I (length (zv i2 n):Int)),(38,I ↑(i4+1))]
abbrev zAR (i2 i4:Nat) (n:Net):=(ae (ae n.aa i2).ai i4)
def rV (n:Net) (w0:Bool×(List Bool)) (i2 i4:Nat) (xs:List Value) (l:List Int):gn:=⟨(eH n w0 i2 i4 l)=(l++ [(zAR i2 i4 n).to]),.normal,(zN i2 i4 n),[0,1,4],5,[.row 4 1 (zAi w0),.row 36 1 (aG (List.set (vs xs) i2 (.sr 2 1 0 (length (l++ [(zAR i2 i4 n).to]))))),.row 3 1 (map aO (l++ [(zAR i2 i4 n).to]))],[.row 4 1 (zAi w0),.row 36 1 (aG (List.set (vs xs) i2 (.sr 4 1 0 (length (l++ [(zAR i2 i4 n).to]))))),.row 3 1 (map aO (l++ [(zAR i2 i4 n).to]))]⟩
def rW (n:Net) (w0:Bool×(List Bool)) (i2 i4:Nat) (xs:List Value) (l:List Int):gn:=⟨(eH n w0 i2 i4 l)=(l++ [(zAR i2 i4 n).to]),.normal,(zN i2 i4 n),[0,1,4],5,[.row 4 1 (zAi w0),.row 36 1 (aG (List.set (vs xs) i2 (.sr 2 1 0 (length (l++ [(zAR i2 i4 n).to]))))),.row 3 1 (map aO (l++ [(zAR i2 i4 n).to]))],[.row 4 1 (zAi w0),.row 36 1 (aG (List.set (vs xs) i2 (.sr 4 1 0 (length (l++ [(zAR i2 i4 n).to]))))),.row 3 1 (map aO (l++ [(zAR i2 i4 n).to]))]⟩
abbrev zBs (l:List Int):=(length l)
abbrev zCU (l:List Int):=(map aO l)
def rX (n:Net) (w0:Bool×(List Bool)) (i2 i4:Nat) (xs:List Value) (l:List Int):gn:=⟨(eH n w0 i2 i4 l)=l,.normal,(zN i2 i4 n),[0,1,2],4,[.row 4 1 (zAi w0),.row 36 1 (aG (List.set (vs xs) i2 (.sr 2 1 0 (zBs l)))),.row 3 1 (zCU l)],[.row 4 1 (zAi w0),.row 36 1 (aG (List.set (vs xs) i2 (.sr 2 1 0 (zBs l)))),.row 3 1 (zCU l)]⟩
def rY (n:Net) (w0:Bool×(List Bool)) (i2 i4:Nat) (xs:List Value) (l:List Int):gn:=⟨(eH n w0 i2 i4 l)=l,.normal,(zN i2 i4 n),[0,1,2],4,[.row 4 1 (zAi w0),.row 36 1 (aG (List.set (vs xs) i2 (.sr 2 1 0 (zBs l)))),.row 3 1 (zCU l)],[.row 4 1 (zAi w0),.row 36 1 (aG (List.set (vs xs) i2 (.sr 2 1 0 (zBs l)))),.row 3 1 (zCU l)]⟩
abbrev zAX (i2 i4:Nat) (n:Net):Am.Loc:=[(0,.pf (aW n)),(3,.sr 0 1 0 (zB n)),(4,B false),(5,.sr 1 1 0 (zY n)),(6,I (i2:Int)),(28,.sl 2 (zA n)),(29,I (length (zA n):Int)),(30,I (i2:Int)),(36,.sl 10 (zv i2 n)),(37,I (length (zv i2 n):Int)),(38,I (i4:Int))]
abbrev zCG (i4:Nat):List Gi:=[.int ↑(i4+1),bT]
theorem Zz (n:Net) (w0:Bool×(List Bool)) (i2 i4:Nat) (xs:List Value) (l:List Int) (hn:bt n) (hf:bp n) (hw0:length w0.2=length n.rules) (hx2:i2<length n.aa) (hx4:i4<length (ae n.aa i2).ai) (hl1:length xs=(length n.aa)) (hr1:length l<=i2*1000000+i4):vcC pg 100 base aK 3000 (kbL []) IP (bz (zAX i2 i4 n)) (bw [.row 4 1 (zAi w0),.row 36 1 (aG (List.set (vs xs) i2 (.sr 2 1 0 (zBs l)))),.row 3 1 (zCU l)]) 3 (Qh [(rV n w0 i2 i4 xs l),(rW n w0 i2 i4 xs l),(rX n w0 i2 i4 xs l),(rY n w0 i2 i4 xs l)]) (.r [.k,bT] (.yes (.r [.row (aV (zAR i2 i4 n)),bT] (.a (.a (.r (.k::bT::bT::bT::.k::bT::uFF 5 [bT,bT]) (.r [.at i2 0 [.sr 2 1 0 (zBs l)],.at i2 0 [.sr 2 1 0 (zBs l)],bT] (.r (zCG i4) (.pick 0)))) (.r (.k::bT::bT::bT::.k::uTT 5 [.cd (((zAR i2 i4 n).n).toNat) [],bT,.at (((zAR i2 i4 n).n).toNat) 0 (aA (ae w0.2 (((zAR i2 i4 n).n).toNat))),bT,bT]) (.br (.r [.at i2 0 [.sr 2 1 0 (zBs l)],.at i2 0 [.sr 2 1 0 (zBs l)],bT] (.r (zCG i4) (.pick 1))) (.r (zCG i4) (.pick 2))))) (.r zAv (.r (zCG i4) (.pick 3))))))):=
 have hr:=hf.rules;have hs:=hf.aa;have lms:=aU ak n.aa;have hed:=hf.ai _ (ay hx2);have hca:=hn.call _ (ay hx2) _ (ay hx4);have hlr:length w0.2=length n.rules:=hw0;have l1:=aU aV ((ae n.aa i2).ai);have hb:(decide ((i4:Int)<(length (map aV (ae n.aa i2).ai):Int)))=true:=decide_eq_true oab;
 bc (an (a1 a0)
 (an hb (an (ac (rwa aV (ae n.aa i2).ai i4) a0)
 (aM (fun (h1:((ae (ae n.aa i2).ai i4).op !=1)=true)=>have g1:=JY h1;
 (aM (fun (h2:((ae (ae n.aa i2).ai i4).op !=2)=true)=>have g2:=JY h2;
 (an (aN 5 (ac (n2 h2) (aN 4 (ac h1 (a1 a0)))))
 (an (ac (stN (rfl:(aG (List.set (vs xs) i2 (.sr 2 1 0 (length l))))=(aG (List.set (vs xs) i2 (.sr 2 1 0 (length l))))) oab) (ac (ixL (z:=i2) (n:=length (map ak n.aa)) oab) (ac (apo (length l) 8 (rl aO l)) (ac (atN (rfl:(aG (List.set (vs xs) i2 (.sr 2 1 0 (length l))))=(aG (List.set (vs xs) i2 (.sr 2 1 0 (length l))))) oab) (ac (ixL (z:=i2) (n:=length (map ak n.aa)) oab) a0)))))
 (an (ac (dwo ((i4+1:Nat):Int)) a0)
 (lfN (rV n w0 i2 i4 xs l) (show (eH n w0 i2 i4 l)=(l++ [(ae (ae n.aa i2).ai i4).to]) from (cdT h1 (cdT h2 rfl))) (bq (rfl:(.row 4 1 (map aA w0.2):Ob)= .row 4 1 (map aA w0.2)) (bq ((congrArg (fun z=>Ob.row 36 1 z) (nW (rfl:(aG (List.set (vs xs) i2 (.sr 2 1 0 (length l))))=(aG (List.set (vs xs) i2 (.sr 2 1 0 (length l))))) (.sr 4 1 0 (length l+1)))).trans (congrArg (fun z=>Ob.row 36 1 (aG (List.set (vs xs) i2 (.sr 4 1 0 z)))) oai)) (bq (congrArg (fun z=>Ob.row 3 1 z) (apF (f:=aO) (rl aO l) (k:=length l) oaf (ae (ae n.aa i2).ai i4).to)) dZ)))))))) (fun h2=>have g2:=fu h2;
 (have l2:=aU aE (n.rules);an (a1 (ac (ato 1 0 (((ae (ae n.aa i2).ai i4).n).toNat) (rl aA w0.2)) (a1 (ac (ixz (ae (ae n.aa i2).ai i4).n (length (map aE n.rules))) (aN 3 (ac (au h2) (aN 4 (ac h1 (a1 a0)))))))))
 (brP (fun (h3:((ae w0.2 (((ae (ae n.aa i2).ai i4).n).toNat)))=true)=>
 (an (ac (stN (rfl:(aG (List.set (vs xs) i2 (.sr 2 1 0 (length l))))=(aG (List.set (vs xs) i2 (.sr 2 1 0 (length l))))) oab) (ac (ixL (z:=i2) (n:=length (map ak n.aa)) oab) (ac (apo (length l) 8 (rl aO l)) (ac (atN (rfl:(aG (List.set (vs xs) i2 (.sr 2 1 0 (length l))))=(aG (List.set (vs xs) i2 (.sr 2 1 0 (length l))))) oab) (ac (ixL (z:=i2) (n:=length (map ak n.aa)) oab) a0)))))
 (an (ac (dwo ((i4+1:Nat):Int)) a0)
 (lfN (rW n w0 i2 i4 xs l) (show (eH n w0 i2 i4 l)=(l++ [(ae (ae n.aa i2).ai i4).to]) from (cdT h1 (cdF h2 (cdT h3 rfl)))) (bq (rfl:(.row 4 1 (map aA w0.2):Ob)= .row 4 1 (map aA w0.2)) (bq ((congrArg (fun z=>Ob.row 36 1 z) (nW (rfl:(aG (List.set (vs xs) i2 (.sr 2 1 0 (length l))))=(aG (List.set (vs xs) i2 (.sr 2 1 0 (length l))))) (.sr 4 1 0 (length l+1)))).trans (congrArg (fun z=>Ob.row 36 1 (aG (List.set (vs xs) i2 (.sr 4 1 0 z)))) oai)) (bq (congrArg (fun z=>Ob.row 3 1 z) (apF (f:=aO) (rl aO l) (k:=length l) oaf (ae (ae n.aa i2).ai i4).to)) dZ))))))) (fun h3=>
 (an (ac (dwo ((i4+1:Nat):Int)) a0)
 (lfN (rX n w0 i2 i4 xs l) (show (eH n w0 i2 i4 l)=l from (cdT h1 (cdF h2 (cdF h3 rfl)))) (bq (rfl:(.row 4 1 (map aA w0.2):Ob)= .row 4 1 (map aA w0.2)) (bq (rfl:(.row 36 1 (aG (List.set (vs xs) i2 (.sr 2 1 0 (length l)))):Ob)= .row 36 1 (aG (List.set (vs xs) i2 (.sr 2 1 0 (length l))))) (bq (rfl:(.row 3 1 (map aO l):Ob)= .row 3 1 (map aO l)) dZ))))))))))) (fun h1=>have g1:=fu h1;
 (an (aN 9 (ac (au h1) (a1 a0)))
 (an (ac (dwo ((i4+1:Nat):Int)) a0)
 (lfN (rY n w0 i2 i4 xs l) (show (eH n w0 i2 i4 l)=l from (cdF h1 rfl)) (bq (rfl:(.row 4 1 (map aA w0.2):Ob)= .row 4 1 (map aA w0.2)) (bq (rfl:(.row 36 1 (aG (List.set (vs xs) i2 (.sr 2 1 0 (length l)))):Ob)= .row 36 1 (aG (List.set (vs xs) i2 (.sr 2 1 0 (length l))))) (bq (rfl:(.row 3 1 (map aO l):Ob)= .row 3 1 (map aO l)) dZ)))))))))))
 oaa
theorem ZA (n:Net) (w0:Bool×(List Bool)) (i2 i4:Nat) (xs:List Value) (l:List Int) (hn:bt n) (hf:bp n) (hw0:length w0.2=length n.rules) (hx2:i2<length n.aa) (hx4:i4<length (ae n.aa i2).ai) (hl1:length xs=(length n.aa)) (hr1:length l<=i2*1000000+i4):Piece pg 100 2 IP (zAX i2 i4 n) [.row 4 1 (zAi w0),.row 36 1 (aG (List.set (vs xs) i2 (.sr 2 1 0 (zBs l)))),.row 3 1 (zCU l)] .normal (zN i2 i4 n) [.row 4 1 (zAi w0),.row 36 1 (aG (List.set (vs xs) i2 (.sr 2 1 0 (length (eH n w0 i2 i4 l))))),.row 3 1 (map aO (eH n w0 i2 i4 l))]:=
 J6 (aL aw mixed (az _)) (Zz n w0 i2 i4 xs l hn hf hw0 hx2 hx4 hl1 hr1) (dX (o:=(rV n w0 i2 i4 xs l)) (mH rfl rfl rfl (by simp [rV,plS,AV.pure,ah,aj]) (bq ((cv oai).symm) (bq ((ew (f:=(b0 [0,1,4] 5)) (o:=2) (q:=4) rfl).symm) (bq ((cv (fw _)).symm) dZ)))) (dX (o:=(rW n w0 i2 i4 xs l)) (mH rfl rfl rfl (by simp [rW,plS,AV.pure,ah,aj]) (bq ((cv oai).symm) (bq ((ew (f:=(b0 [0,1,4] 5)) (o:=2) (q:=4) rfl).symm) (bq ((cv (fw _)).symm) dZ)))) (dX (o:=(rX n w0 i2 i4 xs l)) (mH rfl rfl rfl (by simp [rX,plS,AV.pure,ah,aj]) (bq ((cv oai).symm) (bq ((ew (f:=(b0 [0,1,2] 4)) (o:=2) (q:=2) rfl).symm) (bq ((cv (fw _)).symm) dZ)))) (dX (o:=(rY n w0 i2 i4 xs l)) (mH rfl rfl rfl (by simp [rY,plS,AV.pure,ah,aj]) (bq ((cv oai).symm) (bq ((ew (f:=(b0 [0,1,2] 4)) (o:=2) (q:=2) rfl).symm) (bq ((cv (fw _)).symm) dZ)))) sQ)))) (eN (o:=(rV n w0 i2 i4 xs l)) (fun h=>⟨rfl,rfl,(congrArg (fun z1=>([.row 4 1 (map aA w0.2),.row 36 1 (aG (List.set (vs xs) i2 (.sr 2 1 0 (length z1)))),.row 3 1 (map aO z1)]:List Ob)) h).symm⟩) (eN (o:=(rW n w0 i2 i4 xs l)) (fun h=>⟨rfl,rfl,(congrArg (fun z1=>([.row 4 1 (map aA w0.2),.row 36 1 (aG (List.set (vs xs) i2 (.sr 2 1 0 (length z1)))),.row 3 1 (map aO z1)]:List Ob)) h).symm⟩) (eN (o:=(rX n w0 i2 i4 xs l)) (fun h=>⟨rfl,rfl,(congrArg (fun z1=>([.row 4 1 (map aA w0.2),.row 36 1 (aG (List.set (vs xs) i2 (.sr 2 1 0 (length z1)))),.row 3 1 (map aO z1)]:List Ob)) h).symm⟩) (eN (o:=(rY n w0 i2 i4 xs l)) (fun h=>⟨rfl,rfl,(congrArg (fun z1=>([.row 4 1 (map aA w0.2),.row 36 1 (aG (List.set (vs xs) i2 (.sr 2 1 0 (length z1)))),.row 3 1 (map aO z1)]:List Ob)) h).symm⟩) ya))))
def Bf (n:Net) (w0:Bool×(List Bool)):KB:=⟨[(0,.pf (aW n)),(3,.sr 0 1 0 (zB n)),(4,B false),(5,.sr 1 1 0 (zY n)),(28,.sl 2 (zA n)),(29,I (length (zA n):Int)),(30,I 0)],[.row 4 1 (zAi w0),.row 36 1 (replicate (zY n) [.v (.slice none 0 0)])],false,.ret,[],[],.normal,[(0,.pf (aW n)),(3,.sr 0 1 0 (zB n)),(4,B false),(5,.sl 1 (map bn (gA (okT w0.2) n)))],[.row 4 1 (zAi w0)],True⟩
theorem tI (n:Net) (w0:Bool×(List Bool)) (i2 i4:Nat) (l:List Int):eH n w0 i2 i4 l=l++tgT w0.2 (ae (ae n.aa i2).ai i4):=by
 unfold eH tgT okT
 generalize (ae (ae n.aa i2).ai i4)=e
 cases h1:e.op==1 with
 |true=>simp [bne,h1]
 |false=>
  cases h2:e.op==2 with
  |true=>
   have hg:aq w0.2 e.n=ae w0.2 e.n.toNat:=rfl
   rw [hg]
   cases h3:ae w0.2 e.n.toNat<;>simp [bne,h1,h2,h3]
  |false=>simp [bne,h1,h2]
theorem S3 (n:Net) (w0:Bool×(List Bool)) (hn:bt n) (hf:bp n) (hw0:length w0.2=length n.rules):cQ pg 100 0 2 (.loop gi) (Bf n w0):=by
 skip
 have hl:=oU (P:=Tryz.prog) (n:=100) (K:=0) (d:=3) (S:=fun G=>[.row 4 1 (map aA w0.2)]++cp 1 36 3 (gV G)) (m:=length n.aa) (len:=fun i2=>length (ae n.aa i2).ai) (step:=fun i2 i4 G=>List.set G i2 (eH n w0 i2 i4 (ae G i2))) (I:=fun i k G=>G.length=length n.aa/\ ∀l∈G,l.length<=i*1000000+k) (s0:=replicate (length (map ak n.aa)) [])
  (fun i2 hx ob=>Zr n w0 i2 hn hf hw0 hx ob) (fun i2 hx ob=>Zs n w0 i2 hn hf hw0 hx ob) (fun i2 hx ob=>Zt n w0 i2 hn hf hw0 hx ob) (fun i2 hx ob=>Zu n w0 i2 hn hf hw0 hx ob)
  (fun i2 i4 G hx2 hx4 hI=>⟨pin1 (base:=[.row 4 1 (map aA w0.2)]) (by rw [hI.1];exact hx2) oaa rfl (mqc (aQ _ _ oad) (mqc rfl (mqc (aQ _ _ oad) (mqc rfl (mqc (aQ _ _ oad) (mqc (aQ _ _ oad) (mqc (aQ _ _ oad) (mqc (aQ _ _ oad) (mqc (aQ _ _ oad) (mqc (aQ _ _ oad) (mqc (aQ _ _ oad) bx))))))))))) (mqc (aQ _ _ oad) (mqc rfl (mqc (aQ _ _ oad) (mqc rfl (mqc (aQ _ _ oad) (mqc (aQ _ _ oad) (mqc (aQ _ _ oad) (mqc (aQ _ _ oad) (mqc (aQ _ _ oad) (mqc (aQ _ _ oad) (mqc (aQ _ _ oad) bx))))))))))) oau (mqc oai bx) (fun xs hxs=>ZA n w0 i2 i4 xs (ae G i2) hn hf hw0 hx2 hx4 (hxs.trans hI.1) (hI.2 _ (ay (by rw [hI.1];exact hx2)))),wD hI oab (by have hgl:=(show (eH n w0 i2 i4 (ae G i2)).length<=(ae G i2).length+1 by rw [tI];exact V6 _ _ _);have hgm:=hI.2 _ (ay (i:=i2) (by rw [hI.1];exact hx2));omega)⟩)
  (fun i2 hx ob=>Zv n w0 i2 hn hf hw0 hx ob) (fun i2 hx ob=>Zw n w0 i2 hn hf hw0 hx ob) (fun ob=>Zx n w0 hn hf hw0 ob) (fun ob=>Zy n w0 hn hf hw0 ob)
  ⟨by simp,wE _⟩ (fun i G hi hI=>⟨hI.1,fun l hl=>Nat.le_trans (hI.2 l hl) oaF⟩)
 rw [<-SS] at hl
 have hG:aG (iP (gV (gm (fun i2 i4 G=>List.set G i2 (eH n w0 i2 i4 (ae G i2))) (fun i2=>length (ae n.aa i2).ai) (replicate (length (map ak n.aa)) []) (length n.aa))))=map bn (gA (okT w0.2) n):=by
  rw [aU,Bc (tg:=fun i k=>tgT w0.2 (ae (ae n.aa i).ai k)) (fun i k G _ _=>by rw [tI]) _ (Nat.le_refl _),Nat.sub_self,List.replicate_zero,List.append_nil,rU]
  exact Zp hn.to _
 have hlen:length (gm (fun i2 i4 G=>List.set G i2 (eH n w0 i2 i4 (ae G i2))) (fun i2=>length (ae n.aa i2).ai) (replicate (length (map ak n.aa)) []) (length n.aa))=length (map ak n.aa):=by
  rw [aU,Bc (tg:=fun i k=>tgT w0.2 (ae (ae n.aa i).ai k)) (fun i k G _ _=>by rw [tI]) _ (Nat.le_refl _)];simp
 exact DM (base:=[.row 4 1 (map aA w0.2)]) hl oau hG (mqc (.inl ⟨rfl,(aQ _ _ oad)⟩) (mqc (.inl ⟨rfl,rfl⟩) (mqc (.inl ⟨rfl,(aQ _ _ oad)⟩) (mqc (.inr ⟨by rw [hlen];rfl,rfl⟩) bx))))
def IQ:Code:=bP 6 Be
def ng (n:Net) (w0:Bool×(List Bool)) (i6:Nat) (y6:Bool×(List Bool)):Bool×(List Bool):=(bif !(ae y6.2 i6) then (bif (aq (kQ n w0.2 (ae n.rules i6).start) (ae n.rules i6).stop) then (true,List.set y6.2 i6 true) else (y6.1,y6.2)) else (y6.1,y6.2))
def cj (n:Net) (w0:Bool×(List Bool)) (kk:Nat):Bool×(List Bool):=Nat.rec (motive:=fun _=>Bool×(List Bool)) (false,w0.2) (fun j a=>ng n w0 j a) kk
theorem S4 (n:Net) (w:Bool×(List Bool)) (i:Nat):length (cj n w i).2=length w.2:=by
 induction i with
 |zero=>rfl
 |succ i ih=>
  show length (ng n w i (cj n w i)).2=_
  unfold ng
  simp only [Bool.cond_eq_ite]
  split
  ·split
   ·simp [ih]
   ·exact ih
  ·exact ih
theorem low24 (n:Net) (w:Bool×(List Bool)) (hw:length w.2=length n.rules) (i:Nat) (hi:i<=n.rules.length):cf (cj n w i).2+(bif (cj n w i).1 then 1 else 0)<=cf w.2:=by
 induction i with
 |zero=>exact Nat.le_refl _
 |succ i ih=>
  have ih:=ih oab
  have hl:=S4 n w i
  show cf (ng n w i (cj n w i)).2+(bif (ng n w i (cj n w i)).1 then 1 else 0)<=_
  unfold ng
  simp only [Bool.cond_eq_ite] at ih⊢
  split
  ·rename_i h1
   split
   ·have:=Ap (l:=(cj n w i).2) (c:=i) oab (by simpa using h1)
    simp only [if_true]
    split at ih<;>omega
   ·exact ih
  ·exact ih
def nh (n:Net) (w0:Bool×(List Bool)) (i6:Nat) (y6:Bool×(List Bool)):Am.Loc:=[(0,.pf (aW n)),(3,.sr 0 1 0 (zB n)),(4,B y6.1),(5,.sl 1 (map bn (gA (okT w0.2) n))),(73,.sl 9 (zAF n)),(74,I (length (zAF n):Int)),(75,I (i6:Int))]
def ni (n:Net) (w0:Bool×(List Bool)) (i6:Nat) (y6:Bool×(List Bool)):List Ob:=[.row 4 1 (map aA y6.2)]
def uW (n:Net) (w0:Bool×(List Bool)) (i6:Nat):Am.Loc:=nh n w0 i6 (cj n w0 i6)
def uX (n:Net) (w0:Bool×(List Bool)) (i6:Nat):List Ob:=ni n w0 i6 (cj n w0 i6)
def uY (n:Net) (w0:Bool×(List Bool)) (i6:Nat):Bool:=false
def V8 (n:Net) (w0:Bool×(List Bool)):Bool:=false
def Gj (n:Net) (w0:Bool×(List Bool)) (i6:Nat):Am.Loc:=[]
def Gk (n:Net) (w0:Bool×(List Bool)) (i6:Nat):List Ob:=[]
def pG (n:Net) (w0:Bool×(List Bool)):Am.Loc:=[(0,.pf (aW n)),(3,.sr 0 1 0 (zB n)),(4,B ((cj n w0 (zS n)).1))]
def pH (n:Net) (w0:Bool×(List Bool)):List Ob:=[.row 4 1 (map aA ((cj n w0 (zS n)).2))]
def Bg (n:Net) (w0:Bool×(List Bool)):KB:=⟨uW n w0 0,uX n w0 0,V8 n w0,.ret,Gj n w0 (b4 (zS n) (uY n w0)),Gk n w0 (b4 (zS n) (uY n w0)),.normal,pG n w0,pH n w0,True⟩
def Bh (n:Net) (w0:Bool×(List Bool)) (i6:Nat):List bG:=[nxW (uY n w0 i6) (uW n w0 (i6+1)) (uX n w0 (i6+1)) (nh n w0 (i6+1) (true,List.set ((cj n w0 i6).2) i6 true)) zAO (ni n w0 (i6+1) (true,List.set ((cj n w0 i6).2) i6 true)),nxW (uY n w0 i6) (uW n w0 (i6+1)) (uX n w0 (i6+1)) (nh n w0 (i6+1) ((cj n w0 i6).1,(cj n w0 i6).2)) zAO (ni n w0 (i6+1) ((cj n w0 i6).1,(cj n w0 i6).2))]
def Xz (n:Net) (w0:Bool×(List Bool)) (i6:Nat):GT:=(.r [.k,bT] (.yes (.r [.row (aE (ae n.rules i6)),bT] (.a (.r (.at i6 0 (aA (ae ((cj n w0 i6).2) i6))::uTT 4 [.int 0,bT,bT,bT,.cd ((ae n.rules i6).stop).toNat (aA (aq (kQ n w0.2 (ae n.rules i6).start) (ae n.rules i6).stop)),bT,bT]) (.br (.r [.at i6 0 (aA (ae ((cj n w0 i6).2) i6)),bT] (.r [.int ↑(i6+1),bT] (.pick 0))) (.r [.int ↑(i6+1),bT] (.pick 1)))) (.r (.at i6 0 (aA (ae ((cj n w0 i6).2) i6))::uFF 8 [bT]) (.r [.int ↑(i6+1),bT] (.pick 1)))))))
theorem ZB (n:Net) (w0:Bool×(List Bool)) (i6:Nat) (hn:bt n) (hf:bp n) (hw0:length w0.2=length n.rules) (hx6:i6<(length n.rules)):vcC pg 100 (bI [i59 n w0.2 (ae n.rules i6).start] base) aK 3000 (kbL []) IQ (bz (uW n w0 i6)) (bw (uX n w0 i6)) 1 (bM (Bh n w0 i6)) (Xz n w0 i6):=
 have hr:=hf.rules;have hs:=hf.aa;have hl:length (cj n w0 i6).2=length n.rules:=(S4 n w0 i6).trans hw0;have hs:=hn.start _ (ay hx6);have ht:=hn.stop _ (ay hx6);have hrl:=OJ n w0.2 (ae n.rules i6).start;have l1:=aU aE (n.rules);have hb:(decide ((i6:Int)<(length (map aE n.rules):Int)))=true:=decide_eq_true oab;
 bc (an (a1 a0)
 (an hb (an (ac (rwa aE n.rules i6) a0)
 (aM (fun (h1:(!(ae ((cj n w0 i6).2) i6))=true)=>
 (have l2:=aU aA ((kQ n w0.2 (ae n.rules i6).start));an (a1 (ac (rwz aA (kQ n w0.2 (ae n.rules i6).start) (ae n.rules i6).stop) (aN 3 (cA (g59 n w0.2 (ae n.rules i6).start) ⟨hn,hf,by omega⟩ (aN 3 (ac h1 (ac (ato 1 0 i6 (rl aA ((cj n w0 i6).2))) (ac (ixo i6 (length (map aE n.rules))) a0))))))))
 (brP (fun (h2:((aq (kQ n w0.2 (ae n.rules i6).start) (ae n.rules i6).stop))=true)=>
 (an (ac (sto 1 0 1 i6 (rl aA ((cj n w0 i6).2))) (ac (ixo i6 (length (map aE n.rules))) a0))
 (an (ac (dwo ((i6+1:Nat):Int)) a0)
 (lfE (wy (Bh n w0 i6) 0) 2 (nxP (nh n w0 (i6+1)) (ni n w0 (i6+1)) (show uY n w0 i6=false from rfl) (show cj n w0 (i6+1)=(true,List.set ((cj n w0 i6).2) i6 true) from (cdT h1 (cdT h2 rfl)))) (bq (congrArg (fun z=>Ob.row 4 1 z) (jr (f:=aA) (rl aA ((cj n w0 i6).2)) i6 true)) dZ))))) (fun h2=>
 (an (ac (dwo ((i6+1:Nat):Int)) a0)
 (lf (wy (Bh n w0 i6) 1) 2 (nxP (nh n w0 (i6+1)) (ni n w0 (i6+1)) (show uY n w0 i6=false from rfl) (show cj n w0 (i6+1)=((cj n w0 i6).1,(cj n w0 i6).2) from (cdT h1 (cdF h2 rfl)))))))))) (fun h1=>
 (an (aN 7 (ac (au h1) (ac (ato 1 0 i6 (rl aA ((cj n w0 i6).2))) (ac (ixo i6 (length (map aE n.rules))) a0))))
 (an (ac (dwo ((i6+1:Nat):Int)) a0)
 (lf (wy (Bh n w0 i6) 1) 2 (nxP (nh n w0 (i6+1)) (ni n w0 (i6+1)) (show uY n w0 i6=false from rfl) (show cj n w0 (i6+1)=((cj n w0 i6).1,(cj n w0 i6).2) from (cdF h1 rfl)))))))))))
 oaa
theorem ZC (n:Net) (w0:Bool×(List Bool)) (hn:bt n) (hf:bp n) (hw0:length w0.2=length n.rules):vcC pg 100 base aK 3000 (kbL []) IQ (bz (uW n w0 (zS n))) (bw (uX n w0 (zS n))) 1 (bM [⟨True,(.exit 6),pG n w0,range 1,pH n w0⟩]) zG:=
 have hr:=hf.rules;have hs:=hf.aa;have l1:=aU aE (n.rules);have hb:(zJ n)=false:=decide_eq_false oab;
 bc (an (a1 a0)
 (an hb (lf (wy [⟨True,(.exit 6),pG n w0,range 1,pH n w0⟩] 0) 1 trivial)))
 oaa
theorem S5 (n:Net) (w0:Bool×(List Bool)) (i6:Nat):(Bh n w0 i6).all zj=true:=by refine (aF (aR rfl rfl rfl ?_ ?_) (aF (aR rfl rfl rfl ?_ ?_) bC))<;>simp (maxDischargeDepth:=9) [nxW,htW,nh,uW,Gj,pG,plS,AV.pure,ah,aj,ni,uX,Gk,pH,plO,eC,dG]
theorem S6 (n:Net) (w0:Bool×(List Bool)):bG.cS 0 ⟨True,(.exit 6),pG n w0,range 1,pH n w0⟩=true:=by refine (aR rfl rfl rfl ?_ ?_)<;>simp (maxDischargeDepth:=9) [nxW,htW,nh,uW,Gj,pG,plS,AV.pure,ah,aj,ni,uX,Gk,pH,plO,eC,dG]
theorem S7 (n:Net) (w0:Bool×(List Bool)) (hn:bt n) (hf:bp n) (hw0:length w0.2=length n.rules):cQ pg 100 0 6 (.loop IQ) (Bg n w0):=
 have hr:=hf.rules;have hs:=hf.aa;iZ (fun _=>eB (id:=6) (m:=length n.rules) (t:=uY n w0) (xr:= .ret) (xn:=(.exit 6)) (Lr:=Gj n w0) (Lx:=pG n w0) (obr:=Gk n w0) (obx:=pH n w0) (V:=fun i6=>vcC pg 100 (bI [i59 n w0.2 (ae n.rules i6).start] base) aK 3000 (kbL []) IQ) (uW n w0) (uX n w0) 1 (Bh n w0) (Xz n w0) _ _ (fun i6 hx6=>aL (bo (.cons (g59 n w0.2 (ae n.rules i6).start) rfl cr.nil) aw) mixed (az _)) (aL aw mixed (az _)) (fun e=>by cases e) (fun e=>by cases e) (fun _=>rfl) (fun i6 hx6=>ZB n w0 i6 hn hf hw0 hx6) (fun i6 _=>S5 n w0 i6) (fun i6 _=>show∀ww∈Bh n w0 i6,cm _ _ _ _ _ _ ww from (aC bU (aC bU bB))) (ZC n w0 hn hf hw0) (S6 n w0)) (fun _=>rfl) rfl (fun h=>h)
def pI (n:Net) (w0:Bool×(List Bool)):Bool×(List Bool):=((cj n w0 (length n.rules)).1,(cj n w0 (length n.rules)).2)
def da (n:Net) (kk:Nat):Bool×(List Bool):=Nat.rec (motive:=fun _=>Bool×(List Bool)) (true,replicate (length (map aE n.rules)) false) (fun _ a=>pI n a) kk
def jy (n:Net) (w0:Bool×(List Bool)):Bool:=(!w0.1)
def XA (n:Net) (w0:Bool×(List Bool)):Bool:=false
def iR (n:Net):Bool×(List Bool):=da n (dA (jy n) (da n))
theorem DP (n:Net): ∀k,length (da n k).2=length n.rules
 |0=>by show length (replicate _ false)=_;simp
 |k+1=>by
  show length (pI n (da n k)).2=_
  unfold pI
  rw [S4,DP n k]
theorem S8 (n:Net):(∃k,jy n (da n k)=true)/\ ∀k,k<=dA (jy n) (da n)->length (da n k).2=length n.rules:=by
 refine ⟨?_,fun k _=>DP n k⟩
 by_cases h: ∃k,jy n (da n k)=true
 ·exact h
 ·have h: ∀k,(da n k).1=true:=fun k=>by
   cases e:(da n k).1 with
   |true=>rfl
   |false=>exact absurd ⟨k,by simp [jy,e]⟩ h
  have key: ∀k,cf (da n k).2+k<=cf (da n 0).2:=fun k=>by
   induction k with
   |zero=>exact Nat.le_refl _
   |succ k ih=>
    have h1:=low24 n (da n k) (DP n k) n.rules.length (Nat.le_refl _)
    have h2:(cj n (da n k) n.rules.length).1=true:=h (k+1)
    have h3:(da n (k+1)).2=(cj n (da n k) n.rules.length).2:=rfl
    rw [h2,<-h3] at h1
    simp only [cond_true] at h1
    omega
  have:=key (cf (da n 0).2+1)
  omega
def Bi (n:Net) (w0:Bool×(List Bool)):Am.Loc:=[(0,.pf (aW n)),(3,.sr 0 1 0 (zB n)),(4,B w0.1)]
def Lk (n:Net) (w0:Bool×(List Bool)):Am.Loc:=[]
def Gl (n:Net) (w0:Bool×(List Bool)):Am.Loc:=[(3,.sr 0 1 0 (zB n))]
def Bj (n:Net) (w0:Bool×(List Bool)):List Ob:=[.row 4 1 (zAi w0)]
def Ll (n:Net) (w0:Bool×(List Bool)):List Ob:=[]
def Gm (n:Net) (w0:Bool×(List Bool)):List Ob:=[.row 4 1 (zAi w0)]
def Bk (n:Net):KB:=⟨Bi n (da n 0),Bj n (da n 0),false,.ret,Lk n (iR n),Ll n (iR n),.normal,Gl n (iR n),Gm n (iR n),(∃k,jy n (da n k)=true)/\ ∀k,k<=dA (jy n) (da n)->length (da n k).2=length n.rules⟩
def DQ (n:Net) (w0:Bool×(List Bool)):List bG:=[nxW (jy n w0) (Bi n (pI n w0)) (Bj n (pI n w0)) (Bi n ((cj n w0 (zS n)).1,(cj n w0 (zS n)).2)) zAO (Bj n ((cj n w0 (zS n)).1,(cj n w0 (zS n)).2)),wxW (jy n w0) (XA n w0) (.exit 0) (Gl n w0) zAO (Gm n w0)]
def XB (n:Net) (w0:Bool×(List Bool)):GT:=(.r [bT] (.br (.r [bT] (.r [bT] (.r [bT] (.no (.r [bT] (.no (.pick 0))))))) (.pick 1)))
theorem ZD (n:Net) (w0:Bool×(List Bool)) (hn:bt n) (hf:bp n) (hw0:length w0.2=length n.rules):vcC pg 100 base aK 3000 (kbL [(2,Bf n w0),(6,Bg n w0)]) Be (bz (Bi n w0)) (bw (Bj n w0)) 1 (bM (DQ n w0)) (XB n w0):=
 have hr:=hf.rules;have hs:=hf.aa;bc (an a0
 (brP (fun (h0:(w0.1)=true)=>
 (an a0
 (have l1:=aU ak (n.aa);an (ac (mko (length (map ak n.aa)) 24) a0)
 (an a0
 (an (kbT (Bf n w0) trivial) (an (rfl:false=false) (an a0
 (an (kbT (Bg n w0) trivial) (an (rfl:false=false) (lf (wy (DQ n w0) 0) 1 (nxP (Bi n) (Bj n) (show jy n w0=false from (cq h0)) (show (pI n w0)=((cj n w0 (length n.rules)).1,(cj n w0 (length n.rules)).2) from rfl)))))))))))) (fun h0=>
 (lf (wy (DQ n w0) 1) 1 ⟨show jy n w0=true from (au h0),rfl⟩))))
 oaa
theorem S9 (n:Net) (w0:Bool×(List Bool)):(DQ n w0).all zj=true:=by refine (aF (aR rfl rfl rfl ?_ ?_) (aF (aR rfl rfl rfl ?_ ?_) bC))<;>simp (maxDischargeDepth:=9) [nxW,whW,wxW,Bi,Lk,Gl,plS,AV.pure,ah,aj,Bj,Ll,Gm,plO,eC,dG]
theorem Gn:dp [2,6] Be=[(2,.loop gi),(6,.loop IQ)]:=by kernel_rfl
theorem Ta (n:Net) (hn:bt n) (hf:bp n):cQ pg 100 0 0 (.loop Be) (Bk n):=
 have hr:=hf.rules;have hs:=hf.aa;x9 (fun hp0=>sO (id:=0) (t:=jy n) (hit:=XA n) (it:=da n) (step:=pI n) (fun _=>rfl) (I:=fun w0=>length w0.2=length n.rules) (xr:= .ret) (xn:=(.exit 0)) (Lr:=Lk n) (Lx:=Gl n) (obr:=Ll n) (obx:=Gm n) (V:=fun w0=>vcC pg 100 base aK 3000 (kbL [(2,Bf n w0),(6,Bg n w0)]) Be) (Bi n) (Bj n) 1 (DQ n) (XB n) (fun w0 hw0=>aL aw mixed (bK (l:=[(2,Bf n w0),(6,Bg n w0)]) Gn (aT (S3 n w0 hn hf hw0) rfl (aT (S7 n w0 hn hf hw0) rfl bj)) rfl)) (fun e=>by cases e) (fun e=>by cases e) (fun _=>rfl) (fun w0 hw0=>ZD n w0 hn hf hw0) (fun w0 _=>S9 n w0) (fun w0 _=>show∀ww∈DQ n w0,lF _ _ _ _ _ _ _ _ _ _ ww from (aC nK (aC sN bB))) hp0.1 hp0.2) rfl rfl (fun h=>h)
def r24 (n:Net):List Bool:=(iR n).2
theorem vL:dp [0] (aH 24)=[(0,.loop Be)]:=by kernel_rfl
abbrev zx (n:Net):=(map aA (r24 n))
theorem Co (n:Net) (hn:bt n) (hf:bp n):bg pg 24 [.pf (aW n)] [] [] (.sr 0 1 0 (zB n)) [.row 4 1 (zx n)]:=
 have hr:=hf.rules;have hs:=hf.aa;Ms (fn:=Tryz.f24) (callf:=base) (pu:=aK) (lf:=3000) (l:=[(0,Bk n)]) (t:=zBG) aw mixed Tryz.func24 oaa (show Tryz.f24.body=some (aH 24) by kernel_rfl) (Nat.le_of_ble_eq_true rfl) (bK (l:=[(0,Bk n)]) vL (aT (Ta n hn hf) rfl bj) rfl) rfl oau (bc
 (an a0
 (have l1:=aU aE (n.rules);an (ac (mko (length (map aE n.rules)) 1) a0)
 (an a0
 (an (Ch (Bk n) (S:=nm (KB.L0 (Bk n))) rfl (bq (congrArg (fun z=>Ob.row 4 1 z) (EU (f:=aA) (length (map aE n.rules)) false)) dZ) (S8 n)) (an (rfl:false=false) (an a0
 (roE (k:=length (map aE n.rules)) (rfl:(.row 4 1 (map aA ((iR n).2)):Ob)= .row 4 1 (map aA ((iR n).2))) (show r24 n=((iR n).2) from rfl))))))))
 oaa)
end Go.Proofs.YtfkjfjalecikkaaGreatDoor
end
