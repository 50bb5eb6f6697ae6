/- ref11.reach: the states that are come to from one. ref11.reach: its loops, the function. Which rules may take nothing (the document's answer). Rings of free edges (the document's answer). Rings of calls (the document's answer). Which nets may be (the document's answer). GRAPHS THAT ARE BUILT: what a piece does not touch is hidden from it; two rows of rows at once; pieces whose objects are told with their numbers. -/
import Derived.Test.YtfkjfjalecikkaaGreatDoorDE
noncomputable section
open List (length map range replicate)
set_option maxRecDepth 100000
namespace Go.Proofs.YtfkjfjalecikkaaGreatDoor
open Go.Am
def Lv:Code:=bV 0 (aH 34)
def Lw:Code:=bV 2 (aH 34)
def tw:Code:=bV 4 (aH 34)
abbrev Sa:=List Bool×Bool
def L34 (n:Net) (f:Bool) (emp:AV) (ag:Bool) (i k:Nat):Am.Loc:=[(2,B f),(3,emp),(4,.pf (aR n)),(9,.sr 0 1 0 n.aa.length),(10,B ag),(11,I (i:Nat)),(12,I (k:Nat))]
def ow (n:Net) (f:Bool) (emp:AV) (ag:Bool) (i:Nat):Am.Loc:=[(2,B f),(3,emp),(4,.pf (aR n)),(9,.sr 0 1 0 n.aa.length),(10,B ag),(11,I (i:Nat))]
def ox (n:Net) (f:Bool) (emp:AV) (ag:Bool):Am.Loc:=[(2,B f),(3,emp),(4,.pf (aR n)),(9,.sr 0 1 0 n.aa.length),(10,B ag)]
def O34 (inb:List Bool):List Ob:=[.row 4 1 (inb.map aq)]
def M6 (n:Net) (f:Bool) (emp:AV) (x y:Sa) (i:Nat):KB:=⟨L34 n f emp x.2 i 0,O34 x.1,false,.ret,[],[],.normal,ow n f emp y.2 i,O34 y.1,True⟩
def M7 (n:Net) (f:Bool) (emp:AV) (inb:List Bool) (y:Sa):KB:=⟨ow n f emp false 0,O34 inb,false,.ret,[],[],.normal,ox n f emp y.2,O34 y.1,True⟩
def mkA (x:Sa) (c:Nat):Sa:=bif ah x.1 c then x else (x.1.set c true,true)
def dY (ok:Edge->Bool) (x:Sa) (e:Edge):Sa:=bif ok e then mkA x e.to.toNat else x
def iV (ok:Edge->Bool) (x:Sa) (l:List Edge):Sa:=l.foldl (dY ok) x
def vq (ok:Edge->Bool) (n:Net) (x:Sa) (i:Nat):Sa:=bif ah x.1 i then iV ok x (ah n.aa i).aj else x
def gp (ok:Edge->Bool) (n:Net) (x:Sa):Nat->Sa
 |0=>x
 |i+1=>vq ok n (gp ok n x i) i
def gA (ok:Edge->Bool) (n:Net):List (List Nat):=n.aa.map fun s=>(s.aj.filter ok).map fun e=>e.to.toNat
def okT (emp:List Bool) (e:Edge):Bool:=bif e.op==1 then false else bif e.op==2 then aB emp e.n else true
def okF (_:Edge):Bool:=true
def vr (n:Net):Prop:= ∀s∈n.aa,∀e∈s.aj,0<=e.to/\e.to<(n.aa.length:Int)
structure Am1 (x y:Sa):Prop where
 len:y.1.length=x.1.length
 up: ∀k:Nat,x.1[k]? =some true->y.1[k]? =some true
 no:y.2=false->y.1=x.1/\x.2=false
 yes:y.2=true->x.2=true\/cf y.1<cf x.1
 le:cf y.1<=cf x.1
theorem Am1.refl (x:Sa):Am1 x x:=⟨rfl,fun _ h=>h,fun h=>⟨rfl,h⟩,fun h=> .inl h,Nat.le_refl _⟩
theorem Am1.trans {x y z:Sa} (h:Am1 x y) (k:Am1 y z):Am1 x z:=by
 refine ⟨k.len.trans h.len,fun i hi=>k.up i (h.up i hi),fun e=> ?_,fun e=> ?_,Nat.le_trans k.le h.le⟩
 ·obtain ⟨k1,k2⟩:=k.no e
  obtain ⟨h1,h2⟩:=h.no k2
  exact ⟨k1.trans h1,h2⟩
 ·rcases k.yes e with k1|k1
  ·rcases h.yes k1 with h1|h1
   ·exact .inl h1
   ·exact .inr (Nat.lt_of_le_of_lt k.le h1)
  ·exact .inr (Nat.lt_of_lt_of_le k1 h.le)
theorem Zg {x:Sa} {c:Nat} (hc:c<x.1.length):Am1 x (mkA x c)/\((mkA x c).2=false->ah x.1 c=true)/\(mkA x c).1[c]? =some true/\ ∀k:Nat,(mkA x c).1[k]? =some true->x.1[k]? =some true\/k=c:=by
 unfold mkA
 cases h:ah x.1 c with
 |true=>exact ⟨Am1.refl x,fun _=>rfl,lC.1 h,fun k hk=> .inl hk⟩
 |false=>
  have hcf:=BZ hc h
  refine ⟨⟨by simp,fun k hk=> ?_,fun e=>(by cases e),fun _=> .inr ?_,?_⟩,fun e=>(by cases e),by simp [hc],fun k hk=> ?_⟩
  ·simp only [cond_false]
   rw [List.getElem?_set]
   split
   ·rename_i e;subst e;simp []
   ·exact hk
  ·simp only [cond_false];omega
  ·simp only [cond_false];omega
  ·simp only [cond_false] at hk
   rw [List.getElem?_set] at hk
   split at hk
   ·rename_i e;exact .inr e.symm
   ·exact .inl hk
theorem tz (ok:Edge->Bool): ∀(l:List Edge) (x:Sa),(∀e∈l,e.to.toNat<x.1.length)->Am1 x (iV ok x l)/\((iV ok x l).2=false-> ∀e∈l,ok e=true->x.1[e.to.toNat]? =some true)/\ ∀k:Nat,(iV ok x l).1[k]? =some true->x.1[k]? =some true\/ ∃e∈l,ok e=true/\e.to.toNat=k
 |[],x,_=>⟨Am1.refl x,fun _ e he=>by simp at he,fun k hk=> .inl hk⟩
 |e::l,x,h=>by
  have hs:Am1 x (dY ok x e)/\((dY ok x e).2=false->ok e=true->ah x.1 e.to.toNat=true)/\ ∀k:Nat,(dY ok x e).1[k]? =some true->x.1[k]? =some true\/(ok e=true/\e.to.toNat=k):=by
   unfold dY
   cases hok:ok e with
   |false=>exact ⟨Am1.refl x,fun _ e=>(by cases e),fun k hk=> .inl hk⟩
   |true=>
    obtain ⟨k1,k2,_,k4⟩:=Zg (x:=x) (c:=e.to.toNat) (h e (by simp))
    exact ⟨k1,fun e _=>k2 e,fun k hk=>(k4 k hk).imp (fun e=>e) fun e=>⟨rfl,e.symm⟩⟩
  obtain ⟨a1',a2,a3⟩:=hs
  obtain ⟨b1,b2,b3⟩:=tz ok l (dY ok x e) fun d hd=>by rw [a1'.len];exact h d (by simp [hd])
  show Am1 x (iV ok (dY ok x e) l)/\((iV ok (dY ok x e) l).2=false->_)/\ ∀k:Nat,(iV ok (dY ok x e) l).1[k]? =some true->_
  refine ⟨a1'.trans b1,fun hf d hd hok=> ?_,fun k hk=> ?_⟩
  ·obtain ⟨c1,c2⟩:=b1.no hf
   rcases List.mem_cons.1 hd with rfl|hd
   ·exact lC.1 (a2 c2 hok)
   ·have:=b2 hf d hd hok
    rw [(a1'.no c2).1] at this
    exact this
  ·rcases b3 k hk with h1|⟨d,h1,h2,h3⟩
   ·rcases a3 k h1 with h4|⟨h4,h5⟩
    ·exact .inl h4
    ·exact .inr ⟨e,by simp,h4,h5⟩
   ·exact .inr ⟨d,by simp [h1],h2,h3⟩
theorem re {ok:Edge->Bool} {n:Net} {i c:Nat}:Edg (gA ok n) i c↔ ∃e∈(ah n.aa i).aj,ok e=true/\e.to.toNat=c:=by
 unfold Edg gA ah
 rw [List.getElem?_map]
 cases h:n.aa[i]? with
 |none=>
  have d1:(default:State).aj=[]:=rfl
  have d2:(default:List Nat)=[]:=rfl
  simp [d1,d2]
 |some s=>
  simp only [Option.map_some,Option.getD_some,List.mem_map,List.mem_filter]
  constructor
  ·rintro ⟨e,⟨h1,h2⟩,h3⟩;exact ⟨e,h1,h2,h3⟩
  ·rintro ⟨e,h1,h2,h3⟩;exact ⟨e,⟨h1,h2⟩,h3⟩
theorem rh (ok:Edge->Bool) (n:Net):(gA ok n).length=n.aa.length:=by simp [gA]
theorem tA {n:Net} (h:vr n) (i:Nat): ∀e∈(ah n.aa i).aj,e.to.toNat<n.aa.length:=fun e he=>by
 by_cases hi:i<n.aa.length
 ·have:=h _ (fN hi) e he
  omega
 ·have:ah n.aa i=default:=by simp [ah,List.getElem?_eq_none (show n.aa.length<=i by omega)]
  rw [this] at he
  cases he
theorem gA_wf {ok:Edge->Bool} {n:Net} (h:vr n):Wf (gA ok n):=by
 intro R hR c hc
 rw [rh]
 obtain ⟨i,hi,rfl⟩:=List.mem_iff_getElem.1 hR
 have:Edg (gA ok n) i c:=by
  unfold Edg ah
  rw [List.getElem?_eq_getElem hi];exact hc
 obtain ⟨e,he,_,rfl⟩:=re.1 this
 exact tA h i e he
theorem Jp {ok:Edge->Bool} {n:Net} (hn:vr n) {x:Sa} (hx:x.1.length=n.aa.length) {i0:Nat} (hs: ∀k:Nat,x.1[k]? =some true->k=i0\/Rp (gA ok n) i0 k): ∀m:Nat,
  Am1 x (gp ok n x m)/\((gp ok n x m).2=false-> ∀i,i<m->x.1[i]? =some true-> ∀c,Edg (gA ok n) i c->x.1[c]? =some true)/\ ∀k:Nat,(gp ok n x m).1[k]? =some true->k=i0\/Rp (gA ok n) i0 k
 |0=>⟨Am1.refl x,fun _ i hi=>absurd hi (Nat.not_lt_zero _),hs⟩
 |m+1=>by
  obtain ⟨a1',a2,a3⟩:=Jp hn hx hs m
  have hlen:(gp ok n x m).1.length=n.aa.length:=a1'.len.trans hx
  simp only [gp]
  generalize hy:gp ok n x m=y at*
  unfold vq
  cases hg:ah y.1 m with
  |false=>
   refine ⟨a1',fun hf i hi hxi c he=> ?_,a3⟩
   by_cases him:i=m
   ·subst him
    have:=(a1'.no hf).1
    rw [this] at hg
    rw [lC.2 hxi] at hg
    cases hg
   ·exact a2 hf i (by omega) hxi c he
  |true=>
   obtain ⟨b1,b2,b3⟩:=tz ok (ah n.aa m).aj y fun e he=>by rw [hlen];exact tA hn m e he
   simp only [cond_true]
   refine ⟨a1'.trans b1,fun hf i hi hxi c he=> ?_,fun k hk=> ?_⟩
   ·obtain ⟨c1,c2⟩:=b1.no hf
    by_cases him:i=m
    ·subst him
     obtain ⟨e,h1,h2,rfl⟩:=re.1 he
     have:=b2 hf e h1 h2
     rw [(a1'.no c2).1] at this
     exact this
    ·exact a2 c2 i (by omega) hxi c he
   ·rcases b3 k hk with h1|⟨e,h1,h2,rfl⟩
    ·exact a3 k h1
    ·have hm:=a3 m (lC.1 hg)
     have he:Edg (gA ok n) m e.to.toNat:=re.2 ⟨e,h1,h2,rfl⟩
     rcases hm with rfl|hm
     ·exact .inr (.one he)
     ·exact .inr (.step hm he)
noncomputable def dG (ok:Edge->Bool) (n:Net) (i:Nat):List Bool:=(range n.aa.length).map fun k=>dec (k=i\/Rp (gA ok n) i k)
structure RI (ok:Edge->Bool) (n:Net) (i:Nat) (x:Sa):Prop where
 len:x.1.length=n.aa.length
 own:x.1[i]? =some true
 snd: ∀k:Nat,x.1[k]? =some true->k=i\/Rp (gA ok n) i k
 cls:x.2=false-> ∀k:Nat,x.1[k]? =some true-> ∀c,Edg (gA ok n) k c->x.1[c]? =some true
theorem Wi {ok:Edge->Bool} {n:Net} (hn:vr n) {i:Nat} {inb:List Bool} (h:RI ok n i (inb,true)):RI ok n i (gp ok n (inb,false) n.aa.length)/\2*cf (gp ok n (inb,false) n.aa.length).1+(gp ok n (inb,false) n.aa.length).2.toNat<2*cf inb+1:=by
 obtain ⟨h1,h2,h3,h4⟩:=h
 obtain ⟨a1',a2,a3⟩:=Jp hn (x:=(inb,false)) h1 h3 n.aa.length
 refine ⟨⟨a1'.len.trans h1,a1'.up i h2,a3,fun hf k hk c he=> ?_⟩,?_⟩
 ·have e:=(a1'.no hf).1
  rw [e] at hk⊢
  refine a2 hf k ?_ hk c he
  have:=(List.getElem?_eq_some_iff.1 hk).1
  simp only at h1 this
  omega
 ·have hle:=a1'.le
  cases hp:(gp ok n (inb,false) n.aa.length).2 with
  |false=>simp only [Bool.toNat_false];simp only at hle;omega
  |true=>
   rcases a1'.yes hp with h|h
   ·cases h
   ·simp only [Bool.toNat_true];simp only at h;omega
theorem Zh {ok:Edge->Bool} {n:Net} {i:Nat} {inb:List Bool} (h:RI ok n i (inb,false)):inb=dG ok n i:=by
 obtain ⟨h1,h2,h3,h4⟩:=h
 have hall: ∀k,Rp (gA ok n) i k->inb[k]? =some true:=by
  intro k hk
  induction hk with
  |one e=>exact h4 rfl _ h2 _ e
  |step _ e ih=>exact h4 rfl _ ih _ e
 apply List.ext_getElem?
 intro k
 unfold dG
 rw [List.getElem?_map]
 by_cases hk:k<n.aa.length
 ·rw [List.getElem?_range hk]
  simp only [Option.map_some]
  have hki:k<inb.length:=by simp only at h1;omega
  rw [List.getElem?_eq_getElem hki]
  congr 1
  rw [Bool.eq_iff_iff,aM]
  constructor
  ·intro hb;exact h3 k (by rw [List.getElem?_eq_getElem hki,hb])
  ·intro hr
   have:inb[k]? =some true:=by
    rcases hr with rfl|hr
    ·exact h2
    ·exact hall k hr
   rw [List.getElem?_eq_getElem hki] at this
   simpa using this
 ·rw [List.getElem?_eq_none (by simp only at h1;omega),List.getElem?_eq_none (by simpa using hk)]
  rfl
theorem B5 {ok:Edge->Bool} {n:Net} {i k:Nat} (hk:k<n.aa.length):ah (dG ok n i) k=dec (k=i\/Rp (gA ok n) i k):=by
 simp [ah,dG,hk]
abbrev eAt (n:Net) (i k:Nat):Edge:=ah (ah n.aa i).aj k
theorem B6 (f:Nat->Nat) (n:Net):cp f (aR n)=aR n:=cV _ _ (Ey n)
theorem fE {f:Nat->Nat} (x:List Bool):pP f [some (.row 4 1 (x.map aq))] (O34 x):=⟨by rw [Ob.ren,vp];exact .same _,trivial⟩
theorem oy {f:Nat->Nat} (h0:f 0=0) (n:Net) (b:Bool) (emp:AV) (he:emp.pure=true) (ag:Bool) (i k:Nat):nc f (L34 n b emp ag i k)=nm (L34 n b emp ag i k):=by
 simp [nc,nm,L34,AV.ren,B6,h0,iR f emp he]
theorem G7 {f:Nat->Nat} (h0:f 0=0) (n:Net) (b:Bool) (emp:AV) (he:emp.pure=true) (ag:Bool) (i:Nat):nc f (ow n b emp ag i)=nm (ow n b emp ag i):=by
 simp [nc,nm,ow,AV.ren,B6,h0,iR f emp he]
theorem G8 {f:Nat->Nat} (h0:f 0=0) (n:Net) (b:Bool) (emp:AV) (he:emp.pure=true) (ag:Bool):nc f (ox n b emp ag)=nm (ox n b emp ag):=by
 simp [nc,nm,ox,AV.ren,B6,h0,iR f emp he]
theorem mV {y:Int} {z len:Nat} (h:y=z) (h2:z<len):(dec (y=(z:Int))&&Nat.blt z len)=true:=by rw [aM.2 h,Jo h2];rfl
theorem SA {α:Type} [Inhabited α] (f:α->List AV) {l:List α} {s:Int} (h0:0<=s) (h:s<l.length):(dec (s=((s.toNat:Nat):Int))&&dec ((l.map f)[s.toNat]? =some (f (aB l s))))=true:=bK (decide_eq_true (by omega)) (decide_eq_true (by rw [List.length_map];omega))
abbrev zCV (i k:Nat) (n:Net):=(decide ((↑k:Int)<(↑(length (map bc (ah n.aa i).aj)):Int)))
theorem in34T (n:Net) (inb emp:List Bool) (ag:Bool) (i k:Nat) (hi:i<n.aa.length) (hl:inb.length=n.aa.length) (hk:k<(ah n.aa i).aj.length) (hkm:(ah n.aa i).aj.length<=9223372036854775807) (hto0:0<=(eAt n i k).to/\(eAt n i k).to<(n.aa.length:Int)) (hn:((eAt n i k).op==2)=true->0<=(eAt n i k).n/\(eAt n i k).n<(emp.length:Int)):
  Piece pg 85 0 tw (L34 n true (.sl 1 (emp.map aq)) ag i k) (O34 inb) .normal (L34 n true (.sl 1 (emp.map aq)) (dY (okT emp) (inb,ag) (eAt n i k)).2 i (k+1)) (O34 (dY (okT emp) (inb,ag) (eAt n i k)).1):=by
 have h0:(zCV i k n)=true:=decide_eq_true (by rw [List.length_map];omega)
 have hto:(eAt n i k).to=(Int.toNat (eAt n i k).to:Int):=by omega
 have hlt:Int.toNat (eAt n i k).to<n.aa.length:=by omega
 have hat:Int.toNat (eAt n i k).to<inb.length:=by omega
 rcases nJ (Edge.op (eAt n i k)==1) with h1|h1
 ·have hs:dY (okT emp) (inb,ag) (eAt n i k)=(inb,ag):=by
   unfold dY mkA
   simp only [okT,h1,cond_true,cond_false]
  rw [hs]
  exact ep (lo:=1) (dq aw mixed (az _)) (sel:=[0]) (N' :=2) (show hU [2,3,4,9,10,11,12] [0] (runK Tryz.prog 85 base aO 3000 (kbL []) tw (bu (L34 n true (.sl 1 (emp.map aq)) ag i k)) (bA (O34 inb)) 1 ⟨1,(.row (ak (ah n.aa (i)))::bT::bT::.row (ak (ah n.aa (i)))::.row (bc (eAt n i k))::uTT 5 (uFF 11 (bT::uFF 5 [bT,.int ((↑(k+1):Int)),bT]))),[]⟩)=some (.normal,nm (L34 n true (.sl 1 (emp.map aq)) ag i (k+1)),[some (.row 4 1 (inb.map aq))],2,_) by kernel_rfl)
   (ac (pR hk hkm) (aN 19 (ac h1 (aN 3 (ac (bR bc hk) (ac (bR ak hi) (a1 (ac h0 (ac (bR ak hi) a0))))))))) rfl rfl rfl (oy rfl n true _ (by simp [AV.pure,aX bS]) _ _ _) (fE inb)
 ·rcases nJ (Edge.op (eAt n i k)==2) with h2|h2
  ·have hn0:=(hn h2).1
   have hn1:=(hn h2).2
   rcases nJ ((aB (emp) (Edge.n (eAt n i k)))) with h3|h3
   ·rcases nJ ((ah (inb) ((Int.toNat (Edge.to (eAt n i k)))))) with h4|h4
    ·have hs:dY (okT emp) (inb,ag) (eAt n i k)=(inb,ag):=by
      unfold dY mkA
      simp only [okT,h1,h2,h3,h4,cond_true,cond_false]
     rw [hs]
     exact ep (lo:=1) (dq aw mixed (az _)) (sel:=[0]) (N' :=2) (show hU [2,3,4,9,10,11,12] [0] (runK Tryz.prog 85 base aO 3000 (kbL []) tw (bu (L34 n true (.sl 1 (emp.map aq)) ag i k)) (bA (O34 inb)) 1 ⟨1,(.row (ak (ah n.aa (i)))::bT::bT::.row (ak (ah n.aa (i)))::.row (bc (eAt n i k))::bT::bT::bT::bF::uTT 10 (.cC ((Edge.n (eAt n i k)).toNat) (aq (aB (emp) (Edge.n (eAt n i k))))::uTT 8 [.cC (Int.toNat (Edge.to (eAt n i k))) ([]),bT,.at ((Int.toNat (Edge.to (eAt n i k)))) (0) (aq (ah (inb) ((Int.toNat (Edge.to (eAt n i k)))))),bT,.int ((↑(k+1):Int)),bT])),[]⟩)=some (.normal,nm (L34 n true (.sl 1 (emp.map aq)) ag i (k+1)),[some (.row 4 1 (inb.map aq))],2,_) by kernel_rfl)
      (ac (pR hk hkm) (ac h4 (ac (at1 aq hat) (a1 (ac (mV hto hlt) (aN 3 (ac (n2 h3) (aN 4 (ac (SA aq hn0 hn1) (aN 5 (ac h2 (aN 4 (ac (au h1) (aN 3 (ac (bR bc hk) (ac (bR ak hi) (a1 (ac h0 (ac (bR ak hi) a0))))))))))))))))))) rfl rfl rfl (oy rfl n true _ (by simp [AV.pure,aX bS]) _ _ _) (fE inb)
    ·have hs:dY (okT emp) (inb,ag) (eAt n i k)=((inb.set (Int.toNat (Edge.to (eAt n i k))) true),true):=by
      unfold dY mkA
      simp only [okT,h1,h2,h3,h4,cond_true,cond_false]
     rw [hs]
     exact ep (lo:=1) (dq aw mixed (az _)) (sel:=[0]) (N' :=2) (show hU [2,3,4,9,10,11,12] [0] (runK Tryz.prog 85 base aO 3000 (kbL []) tw (bu (L34 n true (.sl 1 (emp.map aq)) ag i k)) (bA (O34 inb)) 1 ⟨1,(.row (ak (ah n.aa (i)))::bT::bT::.row (ak (ah n.aa (i)))::.row (bc (eAt n i k))::bT::bT::bT::bF::uTT 10 (.cC ((Edge.n (eAt n i k)).toNat) (aq (aB (emp) (Edge.n (eAt n i k))))::uTT 8 [.cC (Int.toNat (Edge.to (eAt n i k))) ([]),bT,.at ((Int.toNat (Edge.to (eAt n i k)))) (0) (aq (ah (inb) ((Int.toNat (Edge.to (eAt n i k)))))),bF,.cC (Int.toNat (Edge.to (eAt n i k))) ([]),.at ((Int.toNat (Edge.to (eAt n i k)))) (0) (aq (ah (inb) ((Int.toNat (Edge.to (eAt n i k)))))),.int ((↑(k+1):Int)),bT])),[]⟩)=some (.normal,nm (L34 n true (.sl 1 (emp.map aq)) true i (k+1)),[some (.row 4 1 ((inb.map aq).set (Int.toNat (Edge.to (eAt n i k))) [B true]))],2,_) by kernel_rfl)
      (ac (pR hk hkm) (ac (Jn (at1 aq hat)) (ac (mV hto hlt) (ac (au h4) (ac (at1 aq hat) (a1 (ac (mV hto hlt) (aN 3 (ac (n2 h3) (aN 4 (ac (SA aq hn0 hn1) (aN 5 (ac h2 (aN 4 (ac (au h1) (aN 3 (ac (bR bc hk) (ac (bR ak hi) (a1 (ac h0 (ac (bR ak hi) a0))))))))))))))))))))) rfl rfl rfl (oy rfl n true _ (by simp [AV.pure,aX bS]) _ _ _) (by rw [tp];exact fE _)
   ·have hs:dY (okT emp) (inb,ag) (eAt n i k)=(inb,ag):=by
     unfold dY mkA
     simp only [okT,h1,h2,h3,cond_true,cond_false]
    rw [hs]
    exact ep (lo:=1) (dq aw mixed (az _)) (sel:=[0]) (N' :=2) (show hU [2,3,4,9,10,11,12] [0] (runK Tryz.prog 85 base aO 3000 (kbL []) tw (bu (L34 n true (.sl 1 (emp.map aq)) ag i k)) (bA (O34 inb)) 1 ⟨1,(.row (ak (ah n.aa (i)))::bT::bT::.row (ak (ah n.aa (i)))::.row (bc (eAt n i k))::bT::bT::bT::bF::uTT 10 (.cC ((Edge.n (eAt n i k)).toNat) (aq (aB (emp) (Edge.n (eAt n i k))))::uTT 4 (uFF 5 [bT,.int ((↑(k+1):Int)),bT]))),[]⟩)=some (.normal,nm (L34 n true (.sl 1 (emp.map aq)) ag i (k+1)),[some (.row 4 1 (inb.map aq))],2,_) by kernel_rfl)
     (ac (pR hk hkm) (aN 5 (ac (n3 h3) (aN 4 (ac (SA aq hn0 hn1) (aN 5 (ac h2 (aN 4 (ac (au h1) (aN 3 (ac (bR bc hk) (ac (bR ak hi) (a1 (ac h0 (ac (bR ak hi) a0))))))))))))))) rfl rfl rfl (oy rfl n true _ (by simp [AV.pure,aX bS]) _ _ _) (fE inb)
  ·rcases nJ ((ah (inb) ((Int.toNat (Edge.to (eAt n i k)))))) with h3|h3
   ·have hs:dY (okT emp) (inb,ag) (eAt n i k)=(inb,ag):=by
     unfold dY mkA
     simp only [okT,h1,h2,h3,cond_true,cond_false]
    rw [hs]
    exact ep (lo:=1) (dq aw mixed (az _)) (sel:=[0]) (N' :=2) (show hU [2,3,4,9,10,11,12] [0] (runK Tryz.prog 85 base aO 3000 (kbL []) tw (bu (L34 n true (.sl 1 (emp.map aq)) ag i k)) (bA (O34 inb)) 1 ⟨1,(.row (ak (ah n.aa (i)))::bT::bT::.row (ak (ah n.aa (i)))::.row (bc (eAt n i k))::bT::bT::bT::bF::uTT 4 (bF::bT::uFF 6 (uTT 6 [.cC (Int.toNat (Edge.to (eAt n i k))) ([]),bT,.at ((Int.toNat (Edge.to (eAt n i k)))) (0) (aq (ah (inb) ((Int.toNat (Edge.to (eAt n i k)))))),bT,.int ((↑(k+1):Int)),bT]))),[]⟩)=some (.normal,nm (L34 n true (.sl 1 (emp.map aq)) ag i (k+1)),[some (.row 4 1 (inb.map aq))],2,_) by kernel_rfl)
     (ac (pR hk hkm) (ac h3 (ac (at1 aq hat) (a1 (ac (mV hto hlt) (aN 13 (ac (au h2) (aN 4 (ac (au h1) (aN 3 (ac (bR bc hk) (ac (bR ak hi) (a1 (ac h0 (ac (bR ak hi) a0))))))))))))))) rfl rfl rfl (oy rfl n true _ (by simp [AV.pure,aX bS]) _ _ _) (fE inb)
   ·have hs:dY (okT emp) (inb,ag) (eAt n i k)=((inb.set (Int.toNat (Edge.to (eAt n i k))) true),true):=by
     unfold dY mkA
     simp only [okT,h1,h2,h3,cond_true,cond_false]
    rw [hs]
    exact ep (lo:=1) (dq aw mixed (az _)) (sel:=[0]) (N' :=2) (show hU [2,3,4,9,10,11,12] [0] (runK Tryz.prog 85 base aO 3000 (kbL []) tw (bu (L34 n true (.sl 1 (emp.map aq)) ag i k)) (bA (O34 inb)) 1 ⟨1,(.row (ak (ah n.aa (i)))::bT::bT::.row (ak (ah n.aa (i)))::.row (bc (eAt n i k))::bT::bT::bT::bF::uTT 4 (bF::bT::uFF 6 (uTT 6 [.cC (Int.toNat (Edge.to (eAt n i k))) ([]),bT,.at ((Int.toNat (Edge.to (eAt n i k)))) (0) (aq (ah (inb) ((Int.toNat (Edge.to (eAt n i k)))))),bF,.cC (Int.toNat (Edge.to (eAt n i k))) ([]),.at ((Int.toNat (Edge.to (eAt n i k)))) (0) (aq (ah (inb) ((Int.toNat (Edge.to (eAt n i k)))))),.int ((↑(k+1):Int)),bT]))),[]⟩)=some (.normal,nm (L34 n true (.sl 1 (emp.map aq)) true i (k+1)),[some (.row 4 1 ((inb.map aq).set (Int.toNat (Edge.to (eAt n i k))) [B true]))],2,_) by kernel_rfl)
     (ac (pR hk hkm) (ac (Jn (at1 aq hat)) (ac (mV hto hlt) (ac (au h3) (ac (at1 aq hat) (a1 (ac (mV hto hlt) (aN 13 (ac (au h2) (aN 4 (ac (au h1) (aN 3 (ac (bR bc hk) (ac (bR ak hi) (a1 (ac h0 (ac (bR ak hi) a0))))))))))))))))) rfl rfl rfl (oy rfl n true _ (by simp [AV.pure,aX bS]) _ _ _) (by rw [tp];exact fE _)
theorem in34F (n:Net) (inb:List Bool) (ag:Bool) (i k:Nat) (hi:i<n.aa.length) (hl:inb.length=n.aa.length) (hk:k<(ah n.aa i).aj.length) (hkm:(ah n.aa i).aj.length<=9223372036854775807) (hto0:0<=(eAt n i k).to/\(eAt n i k).to<(n.aa.length:Int)):
  Piece pg 85 0 tw (L34 n false (.v (.slice none 0 0)) ag i k) (O34 inb) .normal (L34 n false (.v (.slice none 0 0)) (dY (okF) (inb,ag) (eAt n i k)).2 i (k+1)) (O34 (dY (okF) (inb,ag) (eAt n i k)).1):=by
 have h0:(zCV i k n)=true:=decide_eq_true (by rw [List.length_map];omega)
 have hto:(eAt n i k).to=(Int.toNat (eAt n i k).to:Int):=by omega
 have hlt:Int.toNat (eAt n i k).to<n.aa.length:=by omega
 have hat:Int.toNat (eAt n i k).to<inb.length:=by omega
 rcases nJ ((ah (inb) ((Int.toNat (Edge.to (eAt n i k)))))) with h1|h1
 ·have hs:dY (okF) (inb,ag) (eAt n i k)=(inb,ag):=by
   unfold dY mkA
   simp only [okF,h1,cond_true]
  rw [hs]
  exact ep (lo:=1) (dq aw mixed (az _)) (sel:=[0]) (N' :=2) (show hU [2,3,4,9,10,11,12] [0] (runK Tryz.prog 85 base aO 3000 (kbL []) tw (bu (L34 n false (.v (.slice none 0 0)) ag i k)) (bA (O34 inb)) 1 ⟨1,(.row (ak (ah n.aa (i)))::bT::bT::.row (ak (ah n.aa (i)))::.row (bc (eAt n i k))::uFF 16 (uTT 4 [.cC (Int.toNat (Edge.to (eAt n i k))) ([]),bT,.at ((Int.toNat (Edge.to (eAt n i k)))) (0) (aq (ah (inb) ((Int.toNat (Edge.to (eAt n i k)))))),bT,.int ((↑(k+1):Int)),bT])),[]⟩)=some (.normal,nm (L34 n false (.v (.slice none 0 0)) ag i (k+1)),[some (.row 4 1 (inb.map aq))],2,_) by kernel_rfl)
   (ac (pR hk hkm) (ac h1 (ac (at1 aq hat) (a1 (ac (mV hto hlt) (aN 20 (ac (bR bc hk) (ac (bR ak hi) (a1 (ac h0 (ac (bR ak hi) a0))))))))))) rfl rfl rfl (oy rfl n false _ (by simp [AV.pure]) _ _ _) (fE inb)
 ·have hs:dY (okF) (inb,ag) (eAt n i k)=((inb.set (Int.toNat (Edge.to (eAt n i k))) true),true):=by
   unfold dY mkA
   simp only [okF,h1,cond_true,cond_false]
  rw [hs]
  exact ep (lo:=1) (dq aw mixed (az _)) (sel:=[0]) (N' :=2) (show hU [2,3,4,9,10,11,12] [0] (runK Tryz.prog 85 base aO 3000 (kbL []) tw (bu (L34 n false (.v (.slice none 0 0)) ag i k)) (bA (O34 inb)) 1 ⟨1,(.row (ak (ah n.aa (i)))::bT::bT::.row (ak (ah n.aa (i)))::.row (bc (eAt n i k))::uFF 16 (uTT 4 [.cC (Int.toNat (Edge.to (eAt n i k))) ([]),bT,.at ((Int.toNat (Edge.to (eAt n i k)))) (0) (aq (ah (inb) ((Int.toNat (Edge.to (eAt n i k)))))),bF,.cC (Int.toNat (Edge.to (eAt n i k))) ([]),.at ((Int.toNat (Edge.to (eAt n i k)))) (0) (aq (ah (inb) ((Int.toNat (Edge.to (eAt n i k)))))),.int ((↑(k+1):Int)),bT])),[]⟩)=some (.normal,nm (L34 n false (.v (.slice none 0 0)) true i (k+1)),[some (.row 4 1 ((inb.map aq).set (Int.toNat (Edge.to (eAt n i k))) [B true]))],2,_) by kernel_rfl)
   (ac (pR hk hkm) (ac (Jn (at1 aq hat)) (ac (mV hto hlt) (ac (au h1) (ac (at1 aq hat) (a1 (ac (mV hto hlt) (aN 20 (ac (bR bc hk) (ac (bR ak hi) (a1 (ac h0 (ac (bR ak hi) a0))))))))))))) rfl rfl rfl (oy rfl n false _ (by simp [AV.pure]) _ _ _) (by rw [tp];exact fE _)
structure Jq (n:Net):Prop where
 rules:n.rules.length<=1000000
 aa:n.aa.length<=1000000
 aj: ∀i,(ah n.aa i).aj.length<=4611686018427387904
theorem Wj:dB [4] Lw=[(4,.loop tw)]:=by kernel_rfl
theorem Wk:dB [2] Lv=[(2,.loop Lw)]:=by kernel_rfl
theorem Zi:dB [0] (aH 34)=[(0,.loop Lv)]:=by kernel_rfl
structure V34 (n:Net) (f:Bool) (emp:AV) (ok:Edge->Bool):Prop where
 pure:emp.pure=true
 round: ∀(x:Sa) (i k:Nat),i<n.aa.length->x.1.length=n.aa.length->k<(ah n.aa i).aj.length->
  Piece pg 85 0 tw (L34 n f emp x.2 i k) (O34 x.1) .normal (L34 n f emp (dY ok x (eAt n i k)).2 i (k+1)) (O34 (dY ok x (eAt n i k)).1)
theorem v34T {n:Net} (hn:vr n) (hf:Jq n) {emp:List Bool} (he: ∀s∈n.aa,∀e∈s.aj,e.op=2->0<=e.n/\e.n<(emp.length:Int)):V34 n true (.sl 1 (emp.map aq)) (okT emp):=
 ⟨by simp [AV.pure,aX bS],fun x i k hi hx hk=>by
  have hm:=fN (l:=(ah n.aa i).aj) hk
  exact in34T n x.1 emp x.2 i k hi hx hk (Nat.le_trans (hf.aj i) (by omega)) (hn _ (fN hi) _ hm) fun h=>he _ (fN hi) _ hm (eq_of_beq h)⟩
theorem v34F {n:Net} (hn:vr n) (hf:Jq n):V34 n false (.v (.slice none 0 0)) okF:=
 ⟨rfl,fun x i k hi hx hk=>by
  have hm:=fN (l:=(ah n.aa i).aj) hk
  exact in34F n x.1 x.2 i k hi hx hk (Nat.le_trans (hf.aj i) (by omega)) (hn _ (fN hi) _ hm)⟩
section
variable {n:Net} {f:Bool} {emp:AV} {ok:Edge->Bool} (V:V34 n f emp ok) (hn:vr n) (hf:Jq n)
theorem Ly (x:Sa) (l:List Edge) (k:Nat) (hk:k<l.length):iV ok x (l.take (k+1))=dY ok (iV ok x (l.take k)) (ah l k):=by
 rw [List.take_add_one,eZ hk]
 simp [iV,List.foldl_append]
theorem EZ (hn:vr n) (x:Sa) (hx:x.1.length=n.aa.length): ∀m,(gp ok n x m).1.length=n.aa.length
 |0=>hx
 |m+1=>by
  have ih:=EZ hn x hx m
  simp only [gp]
  unfold vq
  cases ah (gp ok n x m).1 m with
  |false=>exact ih
  |true=>rw [cond_true,(tz ok (ah n.aa m).aj (gp ok n x m) fun e he=>by rw [ih];exact tA hn m e he).1.len];exact ih
 include V hn
theorem Zj (x:Sa) (i:Nat) (hi:i<n.aa.length) (hx:x.1.length=n.aa.length):dg pg 85 0 4 (.loop tw) (M6 n f emp x (iV ok x (ah n.aa i).aj) i):=by
 refine ⟨fun _ e=>(by cases e),fun _ _=> ?_⟩
 have hlen: ∀l:List Edge,(∀e∈l,e∈(ah n.aa i).aj)->(iV ok x l).1.length=n.aa.length:=fun l hl=>by
  rw [(tz ok l x fun e he=>by rw [hx];exact tA hn i e (hl e he)).1.len];exact hx
 refine gJ (xr:= .exit 4) (fun k=>L34 n f emp (iV ok x ((ah n.aa i).aj.take k)).2 i k) (fun k=>O34 (iV ok x ((ah n.aa i).aj.take k)).1) (fun k=>k<=(ah n.aa i).aj.length) (fun k=>(ah n.aa i).aj.length-k) 0 (Nat.zero_le _) (fun e=>by cases e) fun k hk=> ?_
 by_cases hkl:k<(ah n.aa i).aj.length
 ·left
  have h:=V.round (iV ok x ((ah n.aa i).aj.take k)) i k hi (hlen _ fun e he=>List.mem_of_mem_take he) hkl
  rw [<-Ly x _ k hkl] at h
  exact ⟨k+1,by omega,by omega,h⟩
 ·right
  obtain rfl:k=(ah n.aa i).aj.length:=by omega
  simp only [List.take_length]
  generalize iV ok x (ah n.aa i).aj=y
  have h0:(decide (((ah n.aa i).aj.length:Int)<(((ah n.aa i).aj.map bc).length:Nat)))=false:=decide_eq_false (by rw [List.length_map];omega)
  exact ep (lo:=1) (dq aw mixed (az _)) (L' :=ow n f emp y.2 i) (ob' :=O34 y.1) (sel:=[0]) (N' :=1) (show hU [2,3,4,9,10,11] [0] (runK Tryz.prog 85 base aO 3000 (kbL []) tw (bu (L34 n f emp y.2 i (ah n.aa i).aj.length)) (bA (O34 y.1)) 1 ⟨1,[.row (ak (ah n.aa i)),bF,bF,bT],[]⟩)=some (.exit 4,nm (ow n f emp y.2 i),[some (.row 4 1 (y.1.map aq))],1,_) by kernel_rfl)
   (a1 (ac (au h0) (ac (bR ak hi) a0))) rfl rfl rfl (G7 rfl n f emp V.pure _ _) (fE _)
 include hf
theorem mid34 (x:Sa) (i:Nat) (hi:i<n.aa.length) (hx:x.1.length=n.aa.length):Piece pg 85 0 Lw (ow n f emp x.2 i) (O34 x.1) .normal (ow n f emp (vq ok n x i).2 (i+1)) (O34 (vq ok n x i).1):=by
 have h0:(decide ((i:Int)<((n.aa.map ak).length:Nat)))=true:=decide_eq_true (by rw [List.length_map];omega)
 have him:n.aa.length<=9223372036854775807:=Nat.le_trans hf.aa (by omega)
 have hb:=Zj V hn x i hi hx
 have hix:i<x.1.length:=by omega
 unfold vq
 rcases nJ (ah x.1 i) with h1|h1
 ·rw [h1]
  simp only [cond_true]
  generalize iV ok x (ah n.aa i).aj=y at hb⊢
  exact ep (lo:=1) (dq aw mixed (bO (l:=[(4,M6 n f emp x y i)]) Wj (aV hb rfl bn) rfl)) (L' :=ow n f emp y.2 (i+1)) (ob' :=O34 y.1) (sel:=[0]) (N' :=1) (show hU [2,3,4,9,10,11] [0] (runK Tryz.prog 85 base aO 3000 (kbL [(4,M6 n f emp x y i)]) Lw (bu (ow n f emp x.2 i)) (bA (O34 x.1)) 1 ⟨1,[bT,bT,.cC i [],.at i 0 (aq (ah x.1 i)),bF,bF,.int ↑(i+1),bT],[]⟩)=some (.normal,nm (ow n f emp y.2 (i+1)),[some (.row 4 1 (y.1.map aq))],1,_) by kernel_rfl)
   (ac (pR hi him) (a1 (ac (kbT (M6 n f emp x y i) trivial) (ac (n2 h1) (ac (at1 aq hix) (ac (mV rfl hi) (a1 (ac h0 a0)))))))) rfl rfl rfl (G7 rfl n f emp V.pure _ _) (fE _)
 ·rw [h1]
  simp only [cond_false]
  exact ep (lo:=1) (dq aw mixed (az _)) (L' :=ow n f emp x.2 (i+1)) (ob' :=O34 x.1) (sel:=[0]) (N' :=1) (show hU [2,3,4,9,10,11] [0] (runK Tryz.prog 85 base aO 3000 (kbL []) Lw (bu (ow n f emp x.2 i)) (bA (O34 x.1)) 1 ⟨1,[bT,bT,.cC i [],.at i 0 (aq (ah x.1 i)),bT,.int ↑(i+1),bT],[]⟩)=some (.normal,nm (ow n f emp x.2 (i+1)),[some (.row 4 1 (x.1.map aq))],1,_) by kernel_rfl)
   (ac (pR hi him) (ac (au h1) (ac (at1 aq hix) (ac (mV rfl hi) (a1 (ac h0 a0)))))) rfl rfl rfl (G7 rfl n f emp V.pure _ _) (fE _)
theorem Zk (inb:List Bool) (hx:inb.length=n.aa.length):dg pg 85 0 2 (.loop Lw) (M7 n f emp inb (gp ok n (inb,false) n.aa.length)):=by
 refine ⟨fun _ e=>(by cases e),fun _ _=> ?_⟩
 refine gJ (xr:= .exit 2) (fun i=>ow n f emp (gp ok n (inb,false) i).2 i) (fun i=>O34 (gp ok n (inb,false) i).1) (fun i=>i<=n.aa.length) (fun i=>n.aa.length-i) 0 (Nat.zero_le _) (fun e=>by cases e) fun i hi=> ?_
 by_cases hil:i<n.aa.length
 ·exact .inl ⟨i+1,by omega,by omega,mid34 V hn hf (gp ok n (inb,false) i) i hil (EZ hn _ hx i)⟩
 ·right
  obtain rfl:i=n.aa.length:=by omega
  generalize gp ok n (inb,false) n.aa.length=y
  have h0:(decide ((n.aa.length:Int)<((n.aa.map ak).length:Nat)))=false:=decide_eq_false (by rw [List.length_map];omega)
  exact ep (lo:=1) (dq aw mixed (az _)) (L' :=ox n f emp y.2) (ob' :=O34 y.1) (sel:=[0]) (N' :=1) (show hU [2,3,4,9,10] [0] (runK Tryz.prog 85 base aO 3000 (kbL []) Lw (bu (ow n f emp y.2 n.aa.length)) (bA (O34 y.1)) 1 ⟨1,[bF,bF,bT],[]⟩)=some (.exit 2,nm (ox n f emp y.2),[some (.row 4 1 (y.1.map aq))],1,_) by kernel_rfl)
   (a1 (ac (au h0) a0)) rfl rfl rfl (G8 rfl n f emp V.pure _) (fE _)
theorem Zl (i:Nat) (inb:List Bool) (hx:RI ok n i (inb,true)):Piece pg 85 0 (.block 0 (.loop Lv)) (ox n f emp true) (O34 inb) .normal (ox n f emp false) (O34 (dG ok n i)):=by
 refine gJ (xr:= .exit 0) (fun x:Sa=>ox n f emp x.2) (fun x=>O34 x.1) (RI ok n i) (fun x=>2*cf x.1+x.2.toNat) (inb,true) hx (fun e=>by cases e) fun x h=> ?_
 obtain ⟨inb,ag⟩:=x
 cases ag with
 |true=>
  left
  obtain ⟨k1,k2⟩:=Wi hn h
  refine ⟨_,k1,by simpa using k2,?_⟩
  have hb:=Zk V hn hf inb h.len
  generalize gp ok n (inb,false) n.aa.length=y at hb⊢
  exact ep (lo:=1) (dq aw mixed (bO (l:=[(2,M7 n f emp inb y)]) Wk (aV hb rfl bn) rfl)) (L' :=ox n f emp y.2) (ob' :=O34 y.1) (sel:=[0]) (N' :=1) (show hU [2,3,4,9,10] [0] (runK Tryz.prog 85 base aO 3000 (kbL [(2,M7 n f emp inb y)]) Lv (bu (ox n f emp true)) (bA (O34 inb)) 1 ⟨1,[bT,bF,bT],[]⟩)=some (.normal,nm (ox n f emp y.2),[some (.row 4 1 (y.1.map aq))],1,_) by kernel_rfl)
   (a1 (ac (kbT (M7 n f emp inb y) trivial) (a1 a0))) rfl rfl rfl (G8 rfl n f emp V.pure _) (fE _)
 |false=>
  right
  rw [<-Zh h]
  exact ep (lo:=1) (dq aw mixed (az _)) (L' :=ox n f emp false) (ob' :=O34 inb) (sel:=[0]) (N' :=1) (show hU [2,3,4,9,10] [0] (runK Tryz.prog 85 base aO 3000 (kbL []) Lv (bu (ox n f emp false)) (bA (O34 inb)) 1 ⟨1,[bF,bT],[]⟩)=some (.exit 0,nm (ox n f emp false),[some (.row 4 1 (inb.map aq))],1,_) by kernel_rfl)
   (a1 a0) rfl rfl rfl (G8 rfl n f emp V.pure _) (fE _)
end
theorem makeT {k:Nat} (h:k<=1000000):(Nat.ble k k&&Nat.ble (1*k) 281474976710656&&Nat.ble k 9223372036854775807)=true:=by
 rw [pZ (Nat.le_refl _),pZ (show 1*k<=281474976710656 by omega),pZ (show k<=9223372036854775807 by omega)];rfl
abbrev zY (n:Net):=(length (zA n))
def M8 (n:Net) (f:Bool) (emp:AV) (i:Nat) (res:List Bool):KB:=⟨[(2,B f),(3,emp),(4,.pf (aR n)),(9,.sr 0 1 0 (zY n)),(10,B true)],[.row 4 1 ((replicate (zY n) [B false]).set i [B true])],false,.ret,[],[],.normal,ox n f emp false,O34 res,True⟩
theorem xe {n:Net} {f:Bool} {emp:AV} {ok:Edge->Bool} (V:V34 n f emp ok) (hn:vr n) (hf:Jq n) (i:Nat) (hi:i<n.aa.length):
  ba pg 34 [fY n,I (i:Nat),B f,emp] [] [] (.sr 0 1 0 n.aa.length) [.row 4 1 ((dG ok n i).map aq)]:=by
 refine lr (fn:=Tryz.f34) Tryz.func34 (by kernel_rfl) (show Tryz.f34.body=some (aH 34) by kernel_rfl) (Nat.le_of_ble_eq_true rfl) (Nat.zero_le _) rfl (by simp [Ob.und,cZ bS]) ?_
 have hl:(n.aa.map ak).length=n.aa.length:=List.length_map _
 have hr:RI ok n i ((replicate n.aa.length false).set i true,true):=by
  refine ⟨by simp,by simp [hi],fun k hk=> ?_,fun e=>by cases e⟩
  simp only at hk
  rw [List.getElem?_set] at hk
  split at hk
  ·rename_i e;exact .inl e.symm
  ·rw [List.getElem?_replicate] at hk
   split at hk<;>simp at hk
 have hlp:=Zl V hn hf i _ hr
 have ho:([.row 4 1 ((replicate (length (map ak n.aa)) [B false]).set i [B true])]:List Ob)=O34 ((replicate n.aa.length false).set i true):=by
  simp [O34,aq,List.map_set]
 have hb:dg pg 85 0 0 (.loop Lv) (M8 n f emp i (dG ok n i)):=⟨fun _ e=>(by cases e),fun _ _=>by
  show Piece pg 85 0 (.block 0 (.loop Lv)) [(2,B f),(3,emp),(4,.pf (aR n)),(9,.sr 0 1 0 (length (map ak n.aa))),(10,B true)] [.row 4 1 ((replicate (length (map ak n.aa)) [B false]).set i [B true])] .normal (ox n f emp false) (O34 (dG ok n i))
  rw [ho,hl];exact hlp⟩
 have hs:(dec ((0+i*1)/1=i)&&(dec ((0+i*1)%1=0)&&dec ((replicate (length (map ak n.aa)) [B false])[i]? =some [B false]))&&true)=true:=by
  rw [aM.2 (show (0+i*1)/1=i by omega),aM.2 (show (0+i*1)%1=0 by omega),aM.2 (by rw [List.getElem?_replicate,if_pos (by omega)])];rfl
 have hm:(Nat.ble (length (map ak n.aa)) (length (map ak n.aa))&&Nat.ble (1*length (map ak n.aa)) 281474976710656&&Nat.ble (length (map ak n.aa)) 9223372036854775807)=true:=by
  exact makeT (by rw [hl];exact hf.aa)
 exact A9 (lo:=0) (obs:=[.row 4 1 ((dG ok n i).map aq)]) (dq aw mixed (bO (l:=[(0,M8 n f emp i (dG ok n i))]) Zi (aV hb rfl bn) rfl)) (ew _) bM.nil (show mR Tryz.prog Tryz.f34.results.toList 1 (runK Tryz.prog 85 base aO 3000 (kbL [(0,M8 n f emp i (dG ok n i))]) (aH 34) (jL 0 [fY n,I (i:Nat),B f,emp] .e) .e 0 ⟨0,[.cC i [],.at i 0 [B false],bF,bT],[]⟩)=some (.sr 0 1 0 n.aa.length,[some (.row 4 1 ((dG ok n i).map aq))],_) by kernel_rfl)
  (a1 (ac (kbT (M8 n f emp i (dG ok n i)) trivial) (ac hs (ac (mV rfl (by omega:i<(n.aa.map ak).length)) (ac hm a0))))) rfl fun xs=>⟨rfl,xs,rfl⟩
@[simp] theorem Wl (l:List Bool):ai (l.map aq)=true:=aX bS l
@[simp] theorem pr_rowN (l:List (List Nat)):ai (l.map bY)=true:=aX EY l
@[simp] theorem pr_bools (l:List Bool) (i:Nat) (b:Bool):ai ((l.map aq).set i (aq b))=true:=by rw [<-List.map_set];exact Wl _
structure bw (n:Net):Prop where
 to:vr n
 call: ∀s∈n.aa,∀e∈s.aj,e.op=2->0<=e.n/\e.n<(n.rules.length:Int)
 start: ∀r∈n.rules,0<=r.start/\r.start<(n.aa.length:Int)
 stop: ∀r∈n.rules,0<=r.stop/\r.stop<(n.aa.length:Int)
theorem bg.f0 {n:Net} (h:bg n):Jq n:=⟨h.rules,h.aa,fun i=>by
 by_cases hi:i<n.aa.length
 ·exact Nat.le_trans (h.aj _ (ay hi)) (by omega)
 ·have:ah n.aa i=default:=by simp [ah,List.getElem?_eq_none (show n.aa.length<=i by omega)]
  rw [this]
  exact Nat.zero_le _⟩
theorem rk (ok:Edge->Bool) (n:Net) (i:Nat):(dG ok n i).length=n.aa.length:=by simp [dG]
theorem Lz (l:List Bool): ∀c∈(l.map aq).flatten,∃x,c= .v x:=fun c hc=>by
 simp only [List.mem_flatten,List.mem_map] at hc
 obtain ⟨r,⟨b,_,rfl⟩,h⟩:=hc
 simp only [aq,List.mem_singleton] at h
 exact ⟨_,h⟩
def i34 (n:Net) (x:Int) (emp:List Bool):mU:=⟨34,[fY n,I x,B true,.sr 0 1 0 (length (map aD n.rules))],[.row 4 1 (emp.map aq)],.sl 1 ((dG (okT emp) n x.toNat).map aq),(0<=x/\x<(n.aa.length:Int))/\emp.length=n.rules.length⟩
theorem g34 (n:Net) (x:Int) (emp:List Bool) (hn:bw n) (hf:bg n):(i34 n x emp).cd pg:=fun hp=>by
 have hp:(0<=x/\x<(n.aa.length:Int))/\emp.length=n.rules.length:=hp
 have hx:x=((x.toNat:Nat):Int):=by omega
 have hV:V34 n true (.sl 1 (emp.map aq)) (okT emp):=v34T hn.to hf.f0 (by rw [hp.2];exact hn.call)
 have h:=xe hV hn.to hf.f0 x.toNat (by omega)
 rw [<-hx] at h
 refine yo rfl (Lp (X:= .row 4 1 (emp.map aq)) (.inl ⟨_,_,_,rfl⟩) (j6.cons (Frz.same _) (j6.cons (Frz.same _) (j6.cons (Frz.same _) (j6.cons (Frz.sr0 rfl (by simp [hp.2])) j6.nil)))) ?_ ?_ h (by simp [dG]) (Lz _) (aX bS _))
 ·simp [ae,AV.pure,aX bS]
 ·simp [Ob.und,cZ bS]
def E0:Code:=bV 0 (aH 25)
def Jr:Code:=bV 2 E0
def oz (n:Net) (_:Bool×(List Bool)) (i2:Nat) (y2:Bool×(List Bool)):Bool×(List Bool):=(bif !(ah y2.2 i2) then (bif (aB (dG (okT y2.2) n ((ah n.rules i2).start).toNat) (ah n.rules i2).stop) then (true,List.set y2.2 i2 true) else (y2.1,y2.2)) else (y2.1,y2.2))
def bH (n:Net) (w0:Bool×(List Bool)) (kk:Nat):Bool×(List Bool):=Nat.rec (motive:=fun _=>Bool×(List Bool)) (false,w0.2) (fun j a=>oz n w0 j a) kk
theorem SB (n:Net) (w:Bool×(List Bool)) (i:Nat):length (bH n w i).2=length w.2:=by
 induction i with
 |zero=>rfl
 |succ i ih=>
  show length (oz n w i (bH n w i)).2=_
  unfold oz
  simp only [Bool.cond_eq_ite]
  split
  ·split
   ·simp [ih]
   ·exact ih
  ·exact ih
theorem low25 (n:Net) (w:Bool×(List Bool)) (hw:length w.2=length n.rules) (i:Nat) (hi:i<=n.rules.length):cf (bH n w i).2+(bif (bH n w i).1 then 1 else 0)<=cf w.2:=by
 induction i with
 |zero=>exact Nat.le_refl _
 |succ i ih=>
  have ih:=ih (by omega)
  have hl:=SB n w i
  show cf (oz n w i (bH n w i)).2+(bif (oz n w i (bH n w i)).1 then 1 else 0)<=_
  unfold oz
  simp only [Bool.cond_eq_ite] at ih⊢
  split
  ·rename_i h1
   split
   ·have:=BZ (l:=(bH n w i).2) (c:=i) (by omega) (by simpa using h1)
    simp only [if_true]
    split at ih<;>omega
   ·exact ih
  ·exact ih
abbrev zB (n:Net):=(length (zc n))
def tB (n:Net) (w0:Bool×(List Bool)) (i2:Nat):Am.Loc:=[(1,.pf (aR n)),(3,.sr 0 1 0 (zB n)),(4,B ((bH n w0 i2).1)),(5,I (i2:Int))]
def mW (n:Net) (w0:Bool×(List Bool)) (i2:Nat):List Ob:=[.row 4 1 (map aq ((bH n w0 i2).2))]
def xf (n:Net) (_:Bool×(List Bool)) (_:Nat):Bool:=false
def Wm (n:Net) (_:Bool×(List Bool)):Bool:=false
def B7 (n:Net) (_:Bool×(List Bool)) (_:Nat):Am.Loc:=[]
def B8 (n:Net) (_:Bool×(List Bool)) (_:Nat):List Ob:=[]
def oA (n:Net) (w0:Bool×(List Bool)):Am.Loc:=[(1,.pf (aR n)),(3,.sr 0 1 0 (zB n)),(4,B ((bH n w0 (zU n)).1))]
def oB (n:Net) (w0:Bool×(List Bool)):List Ob:=[.row 4 1 (map aq ((bH n w0 (zU n)).2))]
def B9 (n:Net) (w0:Bool×(List Bool)):KB:=⟨tB n w0 0,mW n w0 0,Wm n w0,.ret,B7 n w0 (cc (zU n) (xf n w0)),B8 n w0 (cc (zU n) (xf n w0)),.normal,oA n w0,oB n w0,True⟩
def Ca (n:Net) (w0:Bool×(List Bool)) (i2:Nat):List bj:=[nxW (xf n w0 i2) (tB n w0 (i2+1)) (mW n w0 (i2+1)) [(1,.pf (aR n)),(3,.sr 0 1 0 (zB n)),(4,B true),(5,I ↑(i2+1))] zAU [.row 4 1 (map aq (List.set ((bH n w0 i2).2) i2 true))],nxW (xf n w0 i2) (tB n w0 (i2+1)) (mW n w0 (i2+1)) [(1,.pf (aR n)),(3,.sr 0 1 0 (zB n)),(4,B ((bH n w0 i2).1)),(5,I ↑(i2+1))] zAU [.row 4 1 (map aq ((bH n w0 i2).2))]]
def XG (n:Net) (w0:Bool×(List Bool)) (i2:Nat):GT:=(.r [.k,bT] (.yes (.a (.r (.at i2 0 (aq (ah ((bH n w0 i2).2) i2))::uTT 5 (.row (aD (ah n.rules i2))::uTT 4 (.cC 0 []::uTT 4 [.row (aD (ah n.rules i2)),bT,bT,bT,.cC ((ah n.rules i2).stop).toNat (aq (aB (dG (okT ((bH n w0 i2).2)) n ((ah n.rules i2).start).toNat) (ah n.rules i2).stop)),bT,bT]))) (.br (.r [.at i2 0 (aq (ah ((bH n w0 i2).2) i2)),bT] (.r [bT] (.r [.int ↑(i2+1),bT] (.pick 0)))) (.r [.int ↑(i2+1),bT] (.pick 1)))) (.r (.at i2 0 (aq (ah ((bH n w0 i2).2) i2))::uFF 17 [bT]) (.r [.int ↑(i2+1),bT] (.pick 1))))))
theorem Zm (n:Net) (w0:Bool×(List Bool)) (i2:Nat) (hn:bw n) (hf:bg n) (hw0:length w0.2=length n.rules) (hx2:i2<(length n.rules)):vcC pg 46 (BW [i34 n (ah n.rules i2).start ((bH n w0 i2).2)] base) aO 3000 (kbL []) Jr (bu (tB n w0 i2)) (bA (mW n w0 i2)) 1 (bQ (Ca n w0 i2)) (XG n w0 i2):=
 have hr:=hf.rules;have hl:length (bH n w0 i2).2=length n.rules:=(SB n w0 i2).trans hw0;have hs:=hn.start _ (ay hx2);have ht:=hn.stop _ (ay hx2);have hrl:=rk (okT (bH n w0 i2).2) n (ah n.rules i2).start.toNat;have l1:=aW aD (n.rules);have hb:(decide ((i2:Int)<(length (map aD n.rules):Int)))=true:=decide_eq_true (by omega);
 aZ (an (a1 a0)
 (an hb (aP (fun (h1:(!(ah ((bH n w0 i2).2) i2))=true)=>
 (have l2:=aW aq ((dG (okT ((bH n w0 i2).2)) n ((ah n.rules i2).start).toNat));an (a1 (ac (bK (f:=aq) (l:=dG (okT ((bH n w0 i2).2)) n ((ah n.rules i2).start).toNat) (s:=(ah n.rules i2).stop) (decide_eq_true (by omega)) (decide_eq_true (by omega))) (aN 3 (ac (bR aD (l:=n.rules) (i:=i2) (by omega)) (aN 4 (ac (qE (c:=i34 n (ah n.rules i2).start ((bH n w0 i2).2)) ⟨hs,hl⟩ rfl) (aN 4 (ac (bR aD (l:=n.rules) (i:=i2) (by omega)) (aN 4 (ac h1 (ac (atL (S:=1) (f:=0) (z:=i2) (rfl:map aq ((bH n w0 i2).2)=map aq ((bH n w0 i2).2)) (by decide) (by omega)) (ac (ixL (z:=i2) (n:=length (map aD n.rules)) (by omega)) a0))))))))))))
 (brP (fun (h2:((aB (dG (okT ((bH n w0 i2).2)) n ((ah n.rules i2).start).toNat) (ah n.rules i2).stop))=true)=>
 (an (ac (stL (S:=1) (f:=0) (k:=1) (z:=i2) (rfl:map aq ((bH n w0 i2).2)=map aq ((bH n w0 i2).2)) (by decide) (by omega) rfl) (ac (ixL (z:=i2) (n:=length (map aD n.rules)) (by omega)) a0))
 (an a0
 (an (ac (dwr (z:= ↑(i2+1)) (by omega) (by omega)) a0)
 (lfE (wy (Ca n w0 i2) 0) 1 ⟨(show xf n w0 i2=false from rfl),congrArg (fun y2:Bool×(List Bool)=>([(1,.pf (aR n)),(3,.sr 0 1 0 (length (map aD n.rules))),(4,B y2.1),(5,I ↑(i2+1))]:Am.Loc)) (show bH n w0 (i2+1)=(true,List.set ((bH n w0 i2).2) i2 true) from (cdT h1 (cdT h2 rfl))).symm,(by rw [show mW n w0 (i2+1)=(fun y2:Bool×(List Bool)=>([.row 4 1 (map aq y2.2)]:List Ob)) (bH n w0 (i2+1)) from rfl,(show bH n w0 (i2+1)=(true,List.set ((bH n w0 i2).2) i2 true) from (cdT h1 (cdT h2 rfl)))])⟩ (bp (congrArg (fun z=>Ob.row 4 1 z) (lz (f:=aq) (rfl:map aq ((bH n w0 i2).2)=map aq ((bH n w0 i2).2)) i2 true)) eR)))))) (fun h2=>
 (an (ac (dwr (z:= ↑(i2+1)) (by omega) (by omega)) a0)
 (lf (wy (Ca n w0 i2) 1) 1 ⟨(show xf n w0 i2=false from rfl),congrArg (fun y2:Bool×(List Bool)=>([(1,.pf (aR n)),(3,.sr 0 1 0 (length (map aD n.rules))),(4,B y2.1),(5,I ↑(i2+1))]:Am.Loc)) (show bH n w0 (i2+1)=((bH n w0 i2).1,(bH n w0 i2).2) from (cdT h1 (cdF h2 rfl))).symm,(by rw [show mW n w0 (i2+1)=(fun y2:Bool×(List Bool)=>([.row 4 1 (map aq y2.2)]:List Ob)) (bH n w0 (i2+1)) from rfl,(show bH n w0 (i2+1)=((bH n w0 i2).1,(bH n w0 i2).2) from (cdT h1 (cdF h2 rfl)))])⟩)))))) (fun h1=>
 (an (aN 16 (ac (au h1) (ac (atL (S:=1) (f:=0) (z:=i2) (rfl:map aq ((bH n w0 i2).2)=map aq ((bH n w0 i2).2)) (by decide) (by omega)) (ac (ixL (z:=i2) (n:=length (map aD n.rules)) (by omega)) a0))))
 (an (ac (dwr (z:= ↑(i2+1)) (by omega) (by omega)) a0)
 (lf (wy (Ca n w0 i2) 1) 1 ⟨(show xf n w0 i2=false from rfl),congrArg (fun y2:Bool×(List Bool)=>([(1,.pf (aR n)),(3,.sr 0 1 0 (length (map aD n.rules))),(4,B y2.1),(5,I ↑(i2+1))]:Am.Loc)) (show bH n w0 (i2+1)=((bH n w0 i2).1,(bH n w0 i2).2) from (cdF h1 rfl)).symm,(by rw [show mW n w0 (i2+1)=(fun y2:Bool×(List Bool)=>([.row 4 1 (map aq y2.2)]:List Ob)) (bH n w0 (i2+1)) from rfl,(show bH n w0 (i2+1)=((bH n w0 i2).1,(bH n w0 i2).2) from (cdF h1 rfl))])⟩)))))))
 (by kernel_rfl)
theorem Zn (n:Net) (w0:Bool×(List Bool)) (_:bw n) (hf:bg n) (_:length w0.2=length n.rules):vcC pg 46 base aO 3000 (kbL []) Jr (bu (tB n w0 (zU n))) (bA (mW n w0 (zU n))) 1 (bQ [⟨True,(.exit 2),oA n w0,range 1,oB n w0⟩]) zE:=
 have hr:=hf.rules;have l1:=aW aD (n.rules);have hb:(zH n)=false:=decide_eq_false (by omega);
 aZ (an (a1 a0)
 (an hb (lf (wy [⟨True,(.exit 2),oA n w0,range 1,oB n w0⟩] 0) 1 trivial)))
 (by kernel_rfl)
theorem SC (n:Net) (w0:Bool×(List Bool)) (i2:Nat):(Ca n w0 i2).all zr=true:=by refine (aF (aQ rfl rfl rfl ?_ ?_) (aF (aQ rfl rfl rfl ?_ ?_) bD))<;>simp (maxDischargeDepth:=9) [nxW,tB,plS,AV.pure,mW,plO]
theorem SD (n:Net) (w0:Bool×(List Bool)):bj.b8 0 ⟨True,(.exit 2),oA n w0,range 1,oB n w0⟩=true:=by refine (aQ rfl rfl rfl ?_ ?_)<;>simp (maxDischargeDepth:=9) [oA,plS,AV.pure,oB,plO]
theorem SE (n:Net) (w0:Bool×(List Bool)) (hn:bw n) (hf:bg n) (hw0:length w0.2=length n.rules):dg pg 46 0 2 (.loop Jr) (B9 n w0):=
 have hr:=hf.rules;mj (fun _=>e9 (id:=2) (m:=length n.rules) (t:=xf n w0) (xr:= .ret) (xn:=(.exit 2)) (Lr:=B7 n w0) (Lx:=oA n w0) (obr:=B8 n w0) (obx:=oB n w0) (V:=fun i2=>vcC pg 46 (BW [i34 n (ah n.rules i2).start ((bH n w0 i2).2)] base) aO 3000 (kbL []) Jr) (tB n w0) (mW n w0) 1 (Ca n w0) (XG n w0) _ _ (fun i2 hx2=>aS (EV (.cons (g34 n (ah n.rules i2).start ((bH n w0 i2).2) hn hf) xc.nil) aw) mixed (az _)) (aS aw mixed (az _)) (fun e=>by cases e) (fun e=>by cases e) (fun _=>rfl) (fun i2 hx2=>Zm n w0 i2 hn hf hw0 hx2) (fun i2 _=>SC n w0 i2) (fun i2 _=>show∀ww∈Ca n w0 i2,cy _ _ _ _ _ _ ww from (aG cg (aG cg bG))) (Zn n w0 hn hf hw0) (SD n w0)) (fun _=>rfl) rfl (fun h=>h)
def oC (n:Net) (w0:Bool×(List Bool)):Bool×(List Bool):=((bH n w0 (length n.rules)).1,(bH n w0 (length n.rules)).2)
def dv (n:Net) (kk:Nat):Bool×(List Bool):=Nat.rec (motive:=fun _=>Bool×(List Bool)) (true,replicate (length (map aD n.rules)) false) (fun _ a=>oC n a) kk
def jU (n:Net) (w0:Bool×(List Bool)):Bool:=(!w0.1)
def XH (n:Net) (_:Bool×(List Bool)):Bool:=false
def jk (n:Net):Bool×(List Bool):=dv n (dX (jU n) (dv n))
theorem E1 (n:Net): ∀k,length (dv n k).2=length n.rules
 |0=>by show length (replicate _ false)=_;simp
 |k+1=>by
  show length (oC n (dv n k)).2=_
  unfold oC
  rw [SB,E1 n k]
theorem SF (n:Net):(∃k,jU n (dv n k)=true)/\ ∀k,k<=dX (jU n) (dv n)->length (dv n k).2=length n.rules:=by
 refine ⟨?_,fun k _=>E1 n k⟩
 by_cases h: ∃k,jU n (dv n k)=true
 ·exact h
 ·have h: ∀k,(dv n k).1=true:=fun k=>by
   cases e:(dv n k).1 with
   |true=>rfl
   |false=>exact absurd ⟨k,by simp [jU,e]⟩ h
  have key: ∀k,cf (dv n k).2+k<=cf (dv n 0).2:=fun k=>by
   induction k with
   |zero=>exact Nat.le_refl _
   |succ k ih=>
    have h1:=low25 n (dv n k) (E1 n k) n.rules.length (Nat.le_refl _)
    have h2:(bH n (dv n k) n.rules.length).1=true:=h (k+1)
    have h3:(dv n (k+1)).2=(bH n (dv n k) n.rules.length).2:=rfl
    rw [h2,<-h3] at h1
    simp only [cond_true] at h1
    omega
  have:=key (cf (dv n 0).2+1)
  omega
def E2 (n:Net) (w0:Bool×(List Bool)):Am.Loc:=[(1,.pf (aR n)),(3,.sr 0 1 0 (zB n)),(4,B w0.1)]
def G9 (n:Net) (_:Bool×(List Bool)):Am.Loc:=[]
def Cb (n:Net) (_:Bool×(List Bool)):Am.Loc:=[(3,.sr 0 1 0 (zB n))]
abbrev zAh (w0:Bool×(List Bool)):=(map aq w0.2)
def E3 (n:Net) (w0:Bool×(List Bool)):List Ob:=[.row 4 1 (zAh w0)]
def Ha (n:Net) (_:Bool×(List Bool)):List Ob:=[]
def Cc (n:Net) (w0:Bool×(List Bool)):List Ob:=[.row 4 1 (zAh w0)]
def Cd (n:Net):KB:=⟨E2 n (dv n 0),E3 n (dv n 0),false,.ret,G9 n (jk n),Ha n (jk n),.normal,Cb n (jk n),Cc n (jk n),(∃k,jU n (dv n k)=true)/\ ∀k,k<=dX (jU n) (dv n)->length (dv n k).2=length n.rules⟩
def E4 (n:Net) (w0:Bool×(List Bool)):List bj:=[nxW (jU n w0) (E2 n (oC n w0)) (E3 n (oC n w0)) [(1,.pf (aR n)),(3,.sr 0 1 0 (zB n)),(4,B ((bH n w0 (zU n)).1))] zAU [.row 4 1 (map aq ((bH n w0 (zU n)).2))],wxW (jU n w0) (XH n w0) (.exit 0) (Cb n w0) zAU (Cc n w0)]
def XI (n:Net) (_:Bool×(List Bool)):GT:=(.r [bT] (.br (.r [bT] (.r [bT] (.no (.pick 0)))) (.pick 1)))
theorem Zo (n:Net) (w0:Bool×(List Bool)) (_:bw n) (_:bg n) (_:length w0.2=length n.rules):vcC pg 46 base aO 3000 (kbL [(2,B9 n w0)]) E0 (bu (E2 n w0)) (bA (E3 n w0)) 1 (bQ (E4 n w0)) (XI n w0):=
 aZ (an a0
 (brP (fun (h0:(w0.1)=true)=>
 (an a0
 (an a0
 (an (kbT (B9 n w0) trivial) (an (rfl:false=false) (lf (wy (E4 n w0) 0) 1 ⟨show jU n w0=false from (cx h0),congrArg (fun y0:Bool×(List Bool)=>([(1,.pf (aR n)),(3,.sr 0 1 0 (length (map aD n.rules))),(4,B y0.1)]:Am.Loc)) (show (oC n w0)=((bH n w0 (length n.rules)).1,(bH n w0 (length n.rules)).2) from rfl).symm,congrArg (fun y0:Bool×(List Bool)=>([.row 4 1 (map aq y0.2)]:List Ob)) (show (oC n w0)=((bH n w0 (length n.rules)).1,(bH n w0 (length n.rules)).2) from rfl).symm⟩)))))) (fun h0=>
 (lf (wy (E4 n w0) 1) 1 ⟨show jU n w0=true from (au h0),rfl⟩))))
 (by kernel_rfl)
theorem SG (n:Net) (w0:Bool×(List Bool)):(E4 n w0).all zr=true:=by refine (aF (aQ rfl rfl rfl ?_ ?_) (aF (aQ rfl rfl rfl ?_ ?_) bD))<;>simp (maxDischargeDepth:=9) [nxW,wxW,E2,Cb,plS,AV.pure,E3,Cc,plO]
theorem Hb:dB [2] E0=[(2,.loop Jr)]:=by kernel_rfl
theorem SH (n:Net) (hn:bw n) (hf:bg n):dg pg 46 0 0 (.loop E0) (Cd n):=
 have hr:=hf.rules;Jl (fun hp0=>BY (id:=0) (t:=jU n) (hit:=XH n) (it:=dv n) (step:=oC n) (fun _=>rfl) (I:=fun w0=>length w0.2=length n.rules) (xr:= .ret) (xn:=(.exit 0)) (Lr:=G9 n) (Lx:=Cb n) (obr:=Ha n) (obx:=Cc n) (V:=fun w0=>vcC pg 46 base aO 3000 (kbL [(2,B9 n w0)]) E0) (E2 n) (E3 n) 1 (E4 n) (XI n) (fun w0 hw0=>aS aw mixed (bO (l:=[(2,B9 n w0)]) Hb (aV (SE n w0 hn hf hw0) rfl bn) rfl)) (fun e=>by cases e) (fun e=>by cases e) (fun _=>rfl) (fun w0 hw0=>Zo n w0 hn hf hw0) (fun w0 _=>SG n w0) (fun w0 _=>show∀ww∈E4 n w0,ou _ _ _ _ _ _ _ _ _ _ ww from (aG tn (aG BX bG))) hp0.1 hp0.2) rfl rfl (fun h=>h)
def r25 (n:Net):List Bool:=(jk n).2
theorem xY:dB [0] (aH 25)=[(0,.loop E0)]:=by kernel_rfl
abbrev zBo (n:Net):=(map aq (r25 n))
theorem DK (n:Net) (hn:bw n) (hf:bg n):ba pg 25 [.ag (aR n)] [] [] (.sr 0 1 0 (zB n)) [.row 4 1 (zBo n)]:=
 have hr:=hf.rules;M4 (fn:=Tryz.f25) (callf:=base) (pu:=aO) (lf:=3000) (l:=[(0,Cd n)]) (t:=zBB) aw mixed Tryz.func25 (by kernel_rfl) (show Tryz.f25.body=some (aH 25) by kernel_rfl) (Nat.le_of_ble_eq_true rfl) (bO (l:=[(0,Cd n)]) xY (aV (SH n hn hf) rfl bn) rfl) rfl (by simp [Ob.und,cZ bS]) (aZ
 (an a0
 (have l1:=aW aD (n.rules);an (ac (DE (n:=length (map aD n.rules)) (B:=1) (by omega) (show length (map aD n.rules)<=9223372036854775807 by omega)) a0)
 (an a0
 (an (IK (Cd n) (S:=nm (KB.L0 (Cd n))) rfl (bp (congrArg (fun z=>Ob.row 4 1 z) (Ou (f:=aq) (length (map aD n.rules)) false)) eR) (SF n)) (an (rfl:false=false) (an a0
 (roE (k:=length (map aD n.rules)) (rfl:(.row 4 1 (map aq ((jk n).2)):Ob)= .row 4 1 (map aq ((jk n).2))) (show r25 n=((jk n).2) from rfl))))))))
 (by kernel_rfl))
theorem p9 (n:Net) (hn:bw n) (hf:bg n):ba pg 25 [fY n] [] [] (.sl 1 ((r25 n).map aq)) []:=
 mg (o:=0) (T:=4) (DK n hn hf) rfl (by simp [r25,jk,E1]) (aX bS _)
def aL (z:Int):List AV:=[I z]
theorem E5 (z:Int):ae (aL z)=true:=rfl
@[simp] theorem fQ (l:List Int):ai (l.map aL)=true:=aX E5 l
@[simp] theorem pv_int (z:Int):ae (aL z)=true:=rfl
@[simp] theorem pv_bool (b:Bool):ae (aq b)=true:=rfl
@[simp] theorem pv_nat (k:Nat):ae (di k)=true:=rfl
theorem fw {b:List AV} (hb:ae b=true): ∀{a:List (List AV)} (i:Nat),ai a=true->ai (a.set i b)=true
 |[],_,h=>h
 |x::a,0,h=>by simp only [ai,Bool.and_eq_true,List.set_cons_zero] at h⊢;exact ⟨hb,h.2⟩
 |x::a,i+1,h=>by simp only [ai,Bool.and_eq_true,List.set_cons_succ] at h⊢;exact ⟨h.1,fw hb i h.2⟩
attribute [simp] fw jO
@[simp] theorem Vb (l:List Bool) (i j:Nat) (b c:Bool):ai (((l.map aq).set i (aq b)).set j (aq c))=true:=fw rfl _ (fw rfl _ (aX bS l))
abbrev fH:=Nat×List Bool×List Int
noncomputable def gb (y:fH) (x:Int):fH:=bif !(ah y.2.1 x.toNat) then (y.1+1,List.set y.2.1 x.toNat true,List.take y.1 y.2.2++ [x]) else y
noncomputable def tgE (n:Net) (emp:List Bool) (e:Edge):List Int:=bif e.op==1 then [] else bif e.op==2 then (aB n.rules e.n).start::(bif aB emp e.n then [e.to] else []) else [e.to]
structure SI (N b:Nat) (y:fH):Prop where
 len:y.2.1.length=N
 kt:y.1<=y.2.2.length
 rng: ∀x∈y.2.2,0<=x/\x<(N:Int)
 bd:y.1+cf y.2.1<=b
theorem SI.push {N b:Nat} {y:fH} (h:SI N b y) {x:Int} (h0:0<=x/\x<(N:Int)):SI N b (gb y x)/\2*cf (gb y x).2.1+(gb y x).1<=2*cf y.2.1+y.1:=by
 unfold gb
 cases hx:ah y.2.1 x.toNat with
 |true=>exact ⟨h,Nat.le_refl _⟩
 |false=>
  have hl:=h.len
  have hc:=BZ (l:=y.2.1) (c:=x.toNat) (by omega) hx
  have hb:=h.bd
  have hk:=h.kt
  simp only [Bool.not_false,cond_true]
  refine ⟨⟨by simp [h.len],by simp;omega,fun z hz=> ?_,by simp only;omega⟩,by omega⟩
  simp only [List.mem_append,List.mem_singleton] at hz
  rcases hz with hz|rfl
  ·exact h.rng z (List.mem_of_mem_take hz)
  ·exact h0
theorem SI.fold {N b:Nat}: ∀(l:List Int) {y:fH},SI N b y->(∀x∈l,0<=x/\x<(N:Int))->SI N b (l.foldl gb y)/\2*cf (l.foldl gb y).2.1+(l.foldl gb y).1<=2*cf y.2.1+y.1
 |[],_,h,_=>⟨h,Nat.le_refl _⟩
 |x::l,y,h,hl=>by
  obtain ⟨h1,h2⟩:=h.push (hl x (by simp))
  obtain ⟨h3,h4⟩:=SI.fold l h1 fun z hz=>hl z (by simp [hz])
  exact ⟨h3,by simp only [List.foldl_cons];omega⟩
theorem SI.up {N b c:Nat} {y:fH} (h:SI N b y) (hc:b<=c):SI N c y:=⟨h.len,h.kt,h.rng,Nat.le_trans h.bd hc⟩
theorem SJ (l:List Bool):cf l<=l.length:=List.count_le_length
theorem SI.pop {N:Nat} {y:fH} (h:SI N (N+1) y):SI N N (y.1-1,y.2.1,y.2.2):=by
 have hl:=h.len
 have hk:=h.kt
 have hb:=h.bd
 have hc:=SJ y.2.1
 exact ⟨h.len,by simp only;omega,h.rng,by simp only;omega⟩
theorem tC {α:Type} [Inhabited α] {l:List α} {s:Int} (h:(default:α)≠aB l s\/(0<=s/\s<(l.length:Int))):aB l s∈l:=by
 unfold aB at*
 cases hl:l[s.toNat]? with
 |some x=>exact List.mem_of_getElem? hl
 |none=>
  rcases h with h|h
  ·rw [hl] at h;exact absurd rfl h
  ·have:=List.getElem?_eq_none_iff.1 hl;omega
theorem Js {n:Net} {s:Int} {e:Edge} (h:e∈(aB n.aa s).aj):aB n.aa s∈n.aa:=by
 unfold aB at*
 cases hl:n.aa[s.toNat]? with
 |some x=>exact List.mem_of_getElem? hl
 |none=>rw [hl] at h;simp [default,instInhabitedState.default] at h
theorem yF {n:Net} (hn:bw n) (emp:List Bool) {s:Int} {e:Edge} (h:e∈(aB n.aa s).aj): ∀x∈tgE n emp e,0<=x/\x<(n.aa.length:Int):=by
 have hs:=Js h
 have ht:=hn.to _ hs _ h
 have hst:e.op=2->0<=(aB n.rules e.n).start/\(aB n.rules e.n).start<(n.aa.length:Int):=fun h2=>hn.start _ (tC (.inr (hn.call _ hs _ h h2)))
 unfold tgE
 cases h1:e.op==1 with
 |true=>simp
 |false=>
  cases h2:e.op==2 with
  |true=>
   have:=hst (eq_of_beq h2)
   cases aB emp e.n<;>simp [this,ht]
  |false=>simp [ht]
def Ce:Code:=bV 0 (aH 35)
def E6:Code:=bV 2 Ce
def Jt:Code:=bV 4 E6
def Cf (n:Net) (emp:List Bool) (i0:Nat) (w2:Nat×(List Bool)×(List Int)) (i4:Nat) (y4:Nat×(List Bool)×(List Int)):Nat×(List Bool)×(List Int):=(bif (ah (aB n.aa (ah w2.2.2 (w2.1-1))).aj i4).op==1 then (y4.1,y4.2.1,y4.2.2) else (bif (ah (aB n.aa (ah w2.2.2 (w2.1-1))).aj i4).op==2 then (bif !(ah y4.2.1 (((aB n.rules (ah (aB n.aa (ah w2.2.2 (w2.1-1))).aj i4).n).start).toNat)) then (bif !(aB emp (ah (aB n.aa (ah w2.2.2 (w2.1-1))).aj i4).n) then (y4.1+1,List.set y4.2.1 (((aB n.rules (ah (aB n.aa (ah w2.2.2 (w2.1-1))).aj i4).n).start).toNat) true,List.take y4.1 y4.2.2++ [(aB n.rules (ah (aB n.aa (ah w2.2.2 (w2.1-1))).aj i4).n).start]) else (bif !(ah (List.set y4.2.1 (((aB n.rules (ah (aB n.aa (ah w2.2.2 (w2.1-1))).aj i4).n).start).toNat) true) (((ah (aB n.aa (ah w2.2.2 (w2.1-1))).aj i4).to).toNat)) then (y4.1+1+1,List.set (List.set y4.2.1 (((aB n.rules (ah (aB n.aa (ah w2.2.2 (w2.1-1))).aj i4).n).start).toNat) true) (((ah (aB n.aa (ah w2.2.2 (w2.1-1))).aj i4).to).toNat) true,List.take (y4.1+1) (List.take y4.1 y4.2.2++ [(aB n.rules (ah (aB n.aa (ah w2.2.2 (w2.1-1))).aj i4).n).start])++ [(ah (aB n.aa (ah w2.2.2 (w2.1-1))).aj i4).to]) else (y4.1+1,List.set y4.2.1 (((aB n.rules (ah (aB n.aa (ah w2.2.2 (w2.1-1))).aj i4).n).start).toNat) true,List.take y4.1 y4.2.2++ [(aB n.rules (ah (aB n.aa (ah w2.2.2 (w2.1-1))).aj i4).n).start]))) else (bif !(aB emp (ah (aB n.aa (ah w2.2.2 (w2.1-1))).aj i4).n) then (y4.1,y4.2.1,y4.2.2) else (bif !(ah y4.2.1 (((ah (aB n.aa (ah w2.2.2 (w2.1-1))).aj i4).to).toNat)) then (y4.1+1,List.set y4.2.1 (((ah (aB n.aa (ah w2.2.2 (w2.1-1))).aj i4).to).toNat) true,List.take y4.1 y4.2.2++ [(ah (aB n.aa (ah w2.2.2 (w2.1-1))).aj i4).to]) else (y4.1,y4.2.1,y4.2.2)))) else (bif !(ah y4.2.1 (((ah (aB n.aa (ah w2.2.2 (w2.1-1))).aj i4).to).toNat)) then (y4.1+1,List.set y4.2.1 (((ah (aB n.aa (ah w2.2.2 (w2.1-1))).aj i4).to).toNat) true,List.take y4.1 y4.2.2++ [(ah (aB n.aa (ah w2.2.2 (w2.1-1))).aj i4).to]) else (y4.1,y4.2.1,y4.2.2))))
def aC (n:Net) (emp:List Bool) (i0:Nat) (w2:Nat×(List Bool)×(List Int)) (kk:Nat):Nat×(List Bool)×(List Int):=Nat.rec (motive:=fun _=>Nat×(List Bool)×(List Int)) (w2.1-1,w2.2.1,w2.2.2) (fun j a=>Cf n emp i0 w2 j a) kk
theorem Hc (n:Net) (emp:List Bool) (i0:Nat) (w:fH) (i:Nat) (y:fH):Cf n emp i0 w i y=(tgE n emp (ah (aB n.aa (ah w.2.2 (w.1-1))).aj i)).foldl gb y:=by
 unfold Cf tgE
 generalize (ah (aB n.aa (ah w.2.2 (w.1-1))).aj i)=e
 obtain ⟨k,inb,todo⟩:=y
 cases e.op==1 with
 |true=>rfl
 |false=>
  cases e.op==2 with
  |true=>
   cases he:aB emp e.n with
   |true=>
    simp only [cond_true,cond_false,Bool.not_true,List.foldl_cons,List.foldl_nil,gb]
    cases ah inb (aB n.rules e.n).start.toNat with
    |true=>simp only [Bool.not_true,cond_false]
    |false=>simp only [Bool.not_false,cond_true]
   |false=>
    simp only [cond_true,cond_false,Bool.not_false,List.foldl_cons,List.foldl_nil,gb]
  |false=>rfl
theorem LA {n:Net} (hn:bw n) (emp:List Bool) (i0:Nat) {w:fH} (hw:SI n.aa.length (n.aa.length+1) w) (i:Nat) (hi:i<=(aB n.aa (ah w.2.2 (w.1-1))).aj.length):SI n.aa.length n.aa.length (aC n emp i0 w i)/\2*cf (aC n emp i0 w i).2.1+(aC n emp i0 w i).1<=2*cf w.2.1+(w.1-1):=by
 induction i with
 |zero=>exact ⟨hw.pop,Nat.le_refl _⟩
 |succ i ih=>
  obtain ⟨h1,h2⟩:=ih (by omega)
  show SI _ _ (Cf n emp i0 w i (aC n emp i0 w i))/\_
  rw [Hc]
  have hst:aC n emp i0 w (i+1)=Cf n emp i0 w i (aC n emp i0 w i):=rfl
  rw [hst,Hc]
  obtain ⟨h3,h4⟩:=SI.fold (tgE n emp (ah (aB n.aa (ah w.2.2 (w.1-1))).aj i)) h1 (yF hn emp (ay (by omega)))
  exact ⟨h3,by omega⟩
abbrev zAe (w2:Nat×(List Bool)×(List Int)):=(ah w2.2.2 (w2.1-1))
abbrev zBg (emp:List Bool):=(map aq emp)
def ky (n:Net) (emp:List Bool) (i0:Nat) (w2:Nat×(List Bool)×(List Int)) (i4:Nat):Am.Loc:=[(1,.sl 1 (zBg emp)),(2,.pf (aR n)),(5,I (i0:Int)),(6,.sr 0 1 0 (zY n)),(7,.sr 1 1 0 ((aC n emp i0 w2 i4).1)),(8,I (zAe w2)),(9,I (i4:Int))]
def fR (n:Net) (emp:List Bool) (i0:Nat) (w2:Nat×(List Bool)×(List Int)) (i4:Nat):List Ob:=[.row 4 1 (map aq ((aC n emp i0 w2 i4).2.1)),.row 3 1 (map aL ((aC n emp i0 w2 i4).2.2))]
def lD (n:Net) (emp:List Bool) (i0:Nat) (w2:Nat×(List Bool)×(List Int)) (i4:Nat):Bool:=(!((ah (aB n.aa (ah w2.2.2 (w2.1-1))).aj i4).op==1)&&(bif (ah (aB n.aa (ah w2.2.2 (w2.1-1))).aj i4).op==2 then (((aB n.rules (ah (aB n.aa (ah w2.2.2 (w2.1-1))).aj i4).n).start==(i0:Int))||(!(!(aB emp (ah (aB n.aa (ah w2.2.2 (w2.1-1))).aj i4).n))&&((ah (aB n.aa (ah w2.2.2 (w2.1-1))).aj i4).to==(i0:Int)))) else ((ah (aB n.aa (ah w2.2.2 (w2.1-1))).aj i4).to==(i0:Int))))
def yG (n:Net) (emp:List Bool) (i0:Nat) (w2:Nat×(List Bool)×(List Int)):Bool:=dh (length (aB n.aa (ah w2.2.2 (w2.1-1))).aj) (lD n emp i0 w2)
def mE (n:Net) (_:List Bool) (i0:Nat) (_:Nat×(List Bool)×(List Int)) (_:Nat):Am.Loc:=[(4,B true)]
def mF (n:Net) (_:List Bool) (i0:Nat) (_:Nat×(List Bool)×(List Int)) (_:Nat):List Ob:=[]
abbrev zb (n:Net) (w2:Nat×(List Bool)×(List Int)):=(aB n.aa (zAe w2)).aj
abbrev zCE (n:Net) (w2:Nat×(List Bool)×(List Int)):=(length (zb n w2))
def jV (n:Net) (emp:List Bool) (i0:Nat) (w2:Nat×(List Bool)×(List Int)):Am.Loc:=[(1,.sl 1 (zBg emp)),(2,.pf (aR n)),(5,I (i0:Int)),(6,.sr 0 1 0 (zY n)),(7,.sr 1 1 0 ((aC n emp i0 w2 (zCE n w2)).1))]
def jW (n:Net) (emp:List Bool) (i0:Nat) (w2:Nat×(List Bool)×(List Int)):List Ob:=[.row 4 1 (map aq ((aC n emp i0 w2 (zCE n w2)).2.1)),.row 3 1 (map aL ((aC n emp i0 w2 (zCE n w2)).2.2))]
abbrev zAN (w2:Nat×(List Bool)×(List Int)):=(decide (((w2.1:Nat):Int)>0))
def Cg (n:Net) (emp:List Bool) (i0:Nat) (w2:Nat×(List Bool)×(List Int)):KB:=⟨ky n emp i0 w2 0,fR n emp i0 w2 0,yG n emp i0 w2,.ret,mE n emp i0 w2 (cc (zCE n w2) (lD n emp i0 w2)),mF n emp i0 w2 (cc (zCE n w2) (lD n emp i0 w2)),.normal,jV n emp i0 w2,jW n emp i0 w2,(zAN w2)=true⟩
abbrev zBJ:=(range 2)
abbrev zCF (emp:List Bool) (i0 i4:Nat) (n:Net) (w2:Nat×(List Bool)×(List Int)):Am.Loc:=[(1,.sl 1 (zBg emp)),(2,.pf (aR n)),(5,I (i0:Int)),(6,.sr 0 1 0 (zY n)),(7,.sr 1 1 0 ((aC n emp i0 w2 i4).1+1)),(8,I (zAe w2)),(9,I ↑(i4+1))]
def iW (n:Net) (emp:List Bool) (i0:Nat) (w2:Nat×(List Bool)×(List Int)) (i4:Nat):List bj:=[nxW (lD n emp i0 w2 i4) (ky n emp i0 w2 (i4+1)) (fR n emp i0 w2 (i4+1)) [(1,.sl 1 (zBg emp)),(2,.pf (aR n)),(5,I (i0:Int)),(6,.sr 0 1 0 (zY n)),(7,.sr 1 1 0 ((aC n emp i0 w2 i4).1)),(8,I (zAe w2)),(9,I ↑(i4+1))] zBJ [.row 4 1 (map aq ((aC n emp i0 w2 i4).2.1)),.row 3 1 (map aL ((aC n emp i0 w2 i4).2.2))],htW (lD n emp i0 w2 i4) .ret (mE n emp i0 w2 i4) za (mF n emp i0 w2 i4),nxW (lD n emp i0 w2 i4) (ky n emp i0 w2 (i4+1)) (fR n emp i0 w2 (i4+1)) (zCF emp i0 i4 n w2) [0,3] [.row 4 1 (map aq (List.set ((aC n emp i0 w2 i4).2.1) (((aB n.rules (ah (zb n w2) i4).n).start).toNat) true)),.row 3 1 (map aL (List.take ((aC n emp i0 w2 i4).1) ((aC n emp i0 w2 i4).2.2)++ [(aB n.rules (ah (zb n w2) i4).n).start]))],nxW (lD n emp i0 w2 i4) (ky n emp i0 w2 (i4+1)) (fR n emp i0 w2 (i4+1)) [(1,.sl 1 (zBg emp)),(2,.pf (aR n)),(5,I (i0:Int)),(6,.sr 0 1 0 (zY n)),(7,.sr 1 1 0 ((aC n emp i0 w2 i4).1+1+1)),(8,I (zAe w2)),(9,I ↑(i4+1))] [0,4] [.row 4 1 (map aq (List.set (List.set ((aC n emp i0 w2 i4).2.1) (((aB n.rules (ah (zb n w2) i4).n).start).toNat) true) (((ah (zb n w2) i4).to).toNat) true)),.row 3 1 (map aL (List.take ((aC n emp i0 w2 i4).1+1) (List.take ((aC n emp i0 w2 i4).1) ((aC n emp i0 w2 i4).2.2)++ [(aB n.rules (ah (zb n w2) i4).n).start])++ [(ah (zb n w2) i4).to]))],nxW (lD n emp i0 w2 i4) (ky n emp i0 w2 (i4+1)) (fR n emp i0 w2 (i4+1)) (zCF emp i0 i4 n w2) [0,3] [.row 4 1 (map aq (List.set ((aC n emp i0 w2 i4).2.1) (((ah (zb n w2) i4).to).toNat) true)),.row 3 1 (map aL (List.take ((aC n emp i0 w2 i4).1) ((aC n emp i0 w2 i4).2.2)++ [(ah (zb n w2) i4).to]))]]
def XJ (n:Net) (emp:List Bool) (i0:Nat) (w2:Nat×(List Bool)×(List Int)) (i4:Nat):GT:=(.r [.cC ((ah w2.2.2 (w2.1-1))).toNat (ak (aB n.aa (ah w2.2.2 (w2.1-1)))),.k,bT] (.yes (.r [.cC ((ah w2.2.2 (w2.1-1))).toNat (ak (aB n.aa (ah w2.2.2 (w2.1-1)))),.row (bc (ah (aB n.aa (ah w2.2.2 (w2.1-1))).aj i4)),bT] (.r [.k,bT] (.br (.r [.int ↑(i4+1),bT] (.pick 0)) (.r [bT] (.r [.k,bT] (.br (.r [.cC ((ah (aB n.aa (ah w2.2.2 (w2.1-1))).aj i4).n).toNat (aD (aB n.rules (ah (aB n.aa (ah w2.2.2 (w2.1-1))).aj i4).n)),bT] (.r [bT] (.more (.r [.k,bT] (.r [.k,bT] (.br (.r [bT] (.pick 1)) (.r [.cC (((aB n.rules (ah (aB n.aa (ah w2.2.2 (w2.1-1))).aj i4).n).start).toNat) [],.at (((aB n.rules (ah (aB n.aa (ah w2.2.2 (w2.1-1))).aj i4).n).start).toNat) 0 (aq (ah ((aC n emp i0 w2 i4).2.1) (((aB n.rules (ah (aB n.aa (ah w2.2.2 (w2.1-1))).aj i4).n).start).toNat))),bT] (.br (.r [.cC (((aB n.rules (ah (aB n.aa (ah w2.2.2 (w2.1-1))).aj i4).n).start).toNat) [],.at (((aB n.rules (ah (aB n.aa (ah w2.2.2 (w2.1-1))).aj i4).n).start).toNat) 0 (aq (ah ((aC n emp i0 w2 i4).2.1) (((aB n.rules (ah (aB n.aa (ah w2.2.2 (w2.1-1))).aj i4).n).start).toNat))),bT] (.r [bT] (.r (.k::uTT 4 [.cC ((ah (aB n.aa (ah w2.2.2 (w2.1-1))).aj i4).n).toNat (aq (aB emp (ah (aB n.aa (ah w2.2.2 (w2.1-1))).aj i4).n)),bT,bT,bT]) (.br (.r [.int ↑(i4+1),bT] (.pick 2)) (.r [bT] (.r [.int 1,bT] (.r [.k,bT] (.r [.k,bT] (.br (.r [bT] (.pick 1)) (.r [.cC (((ah (aB n.aa (ah w2.2.2 (w2.1-1))).aj i4).to).toNat) [],.at (((ah (aB n.aa (ah w2.2.2 (w2.1-1))).aj i4).to).toNat) 0 (aq (ah (List.set ((aC n emp i0 w2 i4).2.1) (((aB n.rules (ah (aB n.aa (ah w2.2.2 (w2.1-1))).aj i4).n).start).toNat) true) (((ah (aB n.aa (ah w2.2.2 (w2.1-1))).aj i4).to).toNat))),bT] (.br (.r [.cC (((ah (aB n.aa (ah w2.2.2 (w2.1-1))).aj i4).to).toNat) [],.at (((ah (aB n.aa (ah w2.2.2 (w2.1-1))).aj i4).to).toNat) 0 (aq (ah (List.set ((aC n emp i0 w2 i4).2.1) (((aB n.rules (ah (aB n.aa (ah w2.2.2 (w2.1-1))).aj i4).n).start).toNat) true) (((ah (aB n.aa (ah w2.2.2 (w2.1-1))).aj i4).to).toNat))),bT] (.r [bT] (.r (.k::uTT 4 [.cC ((ah (aB n.aa (ah w2.2.2 (w2.1-1))).aj i4).n).toNat (aq (aB emp (ah (aB n.aa (ah w2.2.2 (w2.1-1))).aj i4).n)),bT,bT,bT]) (.no (.r [bT] (.r [.int 2,bT] (.r [.k,bT] (.r [.int ↑(i4+1),bT] (.pick 3))))))))) (.r (.k::uTT 4 [.cC ((ah (aB n.aa (ah w2.2.2 (w2.1-1))).aj i4).n).toNat (aq (aB emp (ah (aB n.aa (ah w2.2.2 (w2.1-1))).aj i4).n)),bT,bT,bT]) (.no (.r [bT] (.r [.int 2,bT] (.r [.k,bT] (.r [.int ↑(i4+1),bT] (.pick 2)))))))))))))))))) (.r (.k::uTT 4 [.cC ((ah (aB n.aa (ah w2.2.2 (w2.1-1))).aj i4).n).toNat (aq (aB emp (ah (aB n.aa (ah w2.2.2 (w2.1-1))).aj i4).n)),bT,bT,bT]) (.br (.r [.int ↑(i4+1),bT] (.pick 0)) (.r [bT] (.r [.int 1,bT] (.r [.k,bT] (.r [.k,bT] (.br (.r [bT] (.pick 1)) (.r [.cC (((ah (aB n.aa (ah w2.2.2 (w2.1-1))).aj i4).to).toNat) [],.at (((ah (aB n.aa (ah w2.2.2 (w2.1-1))).aj i4).to).toNat) 0 (aq (ah ((aC n emp i0 w2 i4).2.1) (((ah (aB n.aa (ah w2.2.2 (w2.1-1))).aj i4).to).toNat))),bT] (.br (.r [.cC (((ah (aB n.aa (ah w2.2.2 (w2.1-1))).aj i4).to).toNat) [],.at (((ah (aB n.aa (ah w2.2.2 (w2.1-1))).aj i4).to).toNat) 0 (aq (ah ((aC n emp i0 w2 i4).2.1) (((ah (aB n.aa (ah w2.2.2 (w2.1-1))).aj i4).to).toNat))),bT] (.r [bT] (.r (.k::uTT 4 [.cC ((ah (aB n.aa (ah w2.2.2 (w2.1-1))).aj i4).n).toNat (aq (aB emp (ah (aB n.aa (ah w2.2.2 (w2.1-1))).aj i4).n)),bT,bT,bT]) (.no (.r [bT] (.r [.int 2,bT] (.r [.k,bT] (.r [.int ↑(i4+1),bT] (.pick 4))))))))) (.r (.k::uTT 4 [.cC ((ah (aB n.aa (ah w2.2.2 (w2.1-1))).aj i4).n).toNat (aq (aB emp (ah (aB n.aa (ah w2.2.2 (w2.1-1))).aj i4).n)),bT,bT,bT]) (.no (.r [bT] (.r [.int 2,bT] (.r [.k,bT] (.r [.int ↑(i4+1),bT] (.pick 0)))))))))))))))))))))))) (.r [bT] (.more (.r [.k,bT] (.r [.k,bT] (.br (.r [bT] (.pick 1)) (.r [.cC (((ah (aB n.aa (ah w2.2.2 (w2.1-1))).aj i4).to).toNat) [],.at (((ah (aB n.aa (ah w2.2.2 (w2.1-1))).aj i4).to).toNat) 0 (aq (ah ((aC n emp i0 w2 i4).2.1) (((ah (aB n.aa (ah w2.2.2 (w2.1-1))).aj i4).to).toNat))),bT] (.br (.r [.cC (((ah (aB n.aa (ah w2.2.2 (w2.1-1))).aj i4).to).toNat) [],.at (((ah (aB n.aa (ah w2.2.2 (w2.1-1))).aj i4).to).toNat) 0 (aq (ah ((aC n emp i0 w2 i4).2.1) (((ah (aB n.aa (ah w2.2.2 (w2.1-1))).aj i4).to).toNat))),bT] (.r [bT] (.r (.k::uFF 6 [bT]) (.r [.int ↑(i4+1),bT] (.pick 4))))) (.r (.k::uFF 6 [bT]) (.r [.int ↑(i4+1),bT] (.pick 0))))))))))))))))))
theorem Zp (n:Net) (emp:List Bool) (i0:Nat) (w2:Nat×(List Bool)×(List Int)) (i4:Nat) (hn:bw n) (hf:bg n) (hm:length emp=length n.rules) (hx0:i0<(length n.aa)) (hw2:SI (length n.aa) (length n.aa+1) w2) (hp4:(zAN w2)=true) (hx4:i4<(length (aB n.aa (ah w2.2.2 (w2.1-1))).aj)):vcC pg 107 base aO 3000 (kbL []) Jt (bu (ky n emp i0 w2 i4)) (bA (fR n emp i0 w2 i4)) 2 (bQ (iW n emp i0 w2 i4)) (XJ n emp i0 w2 i4):=
 have hr:=hf.rules;have hs:=hf.aa;have gp0:=of_decide_eq_true hp4;have hk2:=hw2.kt;have hl2:=hw2.len;have hb2:=hw2.bd;have hs2:0<w2.1->(0<=ah w2.2.2 (w2.1-1)/\ah w2.2.2 (w2.1-1)<(length n.aa:Int)):=fun h=>hw2.rng _ (ay (by omega));have he:=hf.aj;have hm4:(aB n.aa (ah w2.2.2 (w2.1-1)))∈Net.aa n:=Js (ay hx4);have hel:=hf.aj _ hm4;have hto:=hn.to _ hm4 _ (ay hx4);have hca:=hn.call _ hm4 _ (ay hx4);have hst:=fun h=>hn.start _ (tC (.inr (hca h)));have hsi:=(LA hn emp i0 hw2 i4 (Nat.le_of_lt hx4)).1;have b1:=hsi.len;have b2:=hsi.kt;have b3:=hsi.bd;have l1:=aW bc ((aB n.aa (ah w2.2.2 (w2.1-1))).aj);have hb:(decide ((i4:Int)<(length (map bc (aB n.aa (ah w2.2.2 (w2.1-1))).aj):Int)))=true:=decide_eq_true (by omega);
 aZ (have l2:=aW ak (n.aa);an (a1 (ac (bK (f:=ak) (l:=n.aa) (s:=(ah w2.2.2 (w2.1-1))) (decide_eq_true (by omega)) (decide_eq_true (by omega))) a0))
 (an hb (an (ac (bR bc (l:=(aB n.aa (ah w2.2.2 (w2.1-1))).aj) (i:=i4) (by omega)) (ac (bK (f:=ak) (l:=n.aa) (s:=(ah w2.2.2 (w2.1-1))) (decide_eq_true (by omega)) (decide_eq_true (by omega))) a0))
 (an (a1 a0)
 (brP (fun (h1:((ah (aB n.aa (ah w2.2.2 (w2.1-1))).aj i4).op==1)=true)=>have g1:=eq_of_beq h1;
 (an (ac (dwr (z:= ↑(i4+1)) (by omega) (by omega)) a0)
 (lf (wy (iW n emp i0 w2 i4) 0) 3 ⟨(show lD n emp i0 w2 i4=false from (aY (cx h1))),congrArg (fun y4:Nat×(List Bool)×(List Int)=>([(1,.sl 1 (map aq emp)),(2,.pf (aR n)),(5,I (i0:Int)),(6,.sr 0 1 0 (length (map ak n.aa))),(7,.sr 1 1 0 y4.1),(8,I (ah w2.2.2 (w2.1-1))),(9,I ↑(i4+1))]:Am.Loc)) (show aC n emp i0 w2 (i4+1)=((aC n emp i0 w2 i4).1,(aC n emp i0 w2 i4).2.1,(aC n emp i0 w2 i4).2.2) from (cdT h1 rfl)).symm,(by rw [show fR n emp i0 w2 (i4+1)=(fun y4:Nat×(List Bool)×(List Int)=>([.row 4 1 (map aq y4.2.1),.row 3 1 (map aL y4.2.2)]:List Ob)) (aC n emp i0 w2 (i4+1)) from rfl,(show aC n emp i0 w2 (i4+1)=((aC n emp i0 w2 i4).1,(aC n emp i0 w2 i4).2.1,(aC n emp i0 w2 i4).2.2) from (cdT h1 rfl))])⟩))) (fun h1=>have q0:=(aE (au h1) rfl:lD n emp i0 w2 i4=_);have g1:=ne_of_beq_false h1;
 (an a0
 (an (a1 a0)
 (brP (fun (h2:((ah (aB n.aa (ah w2.2.2 (w2.1-1))).aj i4).op==2)=true)=>have q1:=q0.trans (cdT h2 rfl);have g2:=eq_of_beq h2;
 (have l3:=aW aD (n.rules);an (ac (bK (f:=aD) (l:=n.rules) (s:=(ah (aB n.aa (ah w2.2.2 (w2.1-1))).aj i4).n) (decide_eq_true (by omega)) (decide_eq_true (by omega))) a0)
 (an a0
 (an (a1 a0)
 (an (a1 a0)
 (brP (fun (h3:((aB n.rules (ah (aB n.aa (ah w2.2.2 (w2.1-1))).aj i4).n).start==(i0:Int))=true)=>
 (an a0
 (lf (wy (iW n emp i0 w2 i4) 1) 3 (q1.trans (orT h3))))) (fun h3=>have q3:=q1.trans (orF h3 rfl);
 (an (ac (atL (S:=1) (f:=0) (z:=((aB n.rules (ah (aB n.aa (ah w2.2.2 (w2.1-1))).aj i4).n).start).toNat) (rfl:map aq ((aC n emp i0 w2 i4).2.1)=map aq ((aC n emp i0 w2 i4).2.1)) (by decide) (by omega)) (ac (ixI (x:=(aB n.rules (ah (aB n.aa (ah w2.2.2 (w2.1-1))).aj i4).n).start) (n:=length (map ak n.aa)) (by omega) (by omega)) a0))
 (brP (fun (h4:(!(ah ((aC n emp i0 w2 i4).2.1) (((aB n.rules (ah (aB n.aa (ah w2.2.2 (w2.1-1))).aj i4).n).start).toNat)))=true)=>
 (an (ac (stL (S:=1) (f:=0) (k:=1) (z:=((aB n.rules (ah (aB n.aa (ah w2.2.2 (w2.1-1))).aj i4).n).start).toNat) (rfl:map aq ((aC n emp i0 w2 i4).2.1)=map aq ((aC n emp i0 w2 i4).2.1)) (by decide) (by omega) rfl) (ac (ixI (x:=(aB n.rules (ah (aB n.aa (ah w2.2.2 (w2.1-1))).aj i4).n).start) (n:=length (map ak n.aa)) (by omega) (by omega)) a0))
 (an (ac (apL (k:=(aC n emp i0 w2 i4).1) (B:=8) (rfl:map aL ((aC n emp i0 w2 i4).2.2)=map aL ((aC n emp i0 w2 i4).2.2)) (by first|omega|(simp only [List.length_map,List.length_set,List.length_append,List.length_take,List.length_cons,List.length_nil];omega)) (by omega) (by omega)) a0)
 (have l4:=aW aq (emp);an (aN 2 (ac (bK (f:=aq) (l:=emp) (s:=(ah (aB n.aa (ah w2.2.2 (w2.1-1))).aj i4).n) (decide_eq_true (by omega)) (decide_eq_true (by omega))) (aN 3 (ac (au (show ((ah (aB n.aa (ah w2.2.2 (w2.1-1))).aj i4).op !=2)=false by rw [eq_of_beq h2];rfl)) (a1 a0)))))
 (brP (fun (h5:(!(aB emp (ah (aB n.aa (ah w2.2.2 (w2.1-1))).aj i4).n))=true)=>
 (an (ac (dwr (z:= ↑(i4+1)) (by omega) (by omega)) a0)
 (lfE (wy (iW n emp i0 w2 i4) 2) 4 ⟨(q3.trans (aY (cx h5))),congrArg (fun y4:Nat×(List Bool)×(List Int)=>([(1,.sl 1 (map aq emp)),(2,.pf (aR n)),(5,I (i0:Int)),(6,.sr 0 1 0 (length (map ak n.aa))),(7,.sr 1 1 0 y4.1),(8,I (ah w2.2.2 (w2.1-1))),(9,I ↑(i4+1))]:Am.Loc)) (show aC n emp i0 w2 (i4+1)=((aC n emp i0 w2 i4).1+1,List.set ((aC n emp i0 w2 i4).2.1) (((aB n.rules (ah (aB n.aa (ah w2.2.2 (w2.1-1))).aj i4).n).start).toNat) true,List.take ((aC n emp i0 w2 i4).1) ((aC n emp i0 w2 i4).2.2)++ [(aB n.rules (ah (aB n.aa (ah w2.2.2 (w2.1-1))).aj i4).n).start]) from (cdF h1 (cdT h2 (cdT h4 (cdT h5 rfl))))).symm,(by rw [show fR n emp i0 w2 (i4+1)=(fun y4:Nat×(List Bool)×(List Int)=>([.row 4 1 (map aq y4.2.1),.row 3 1 (map aL y4.2.2)]:List Ob)) (aC n emp i0 w2 (i4+1)) from rfl,(show aC n emp i0 w2 (i4+1)=((aC n emp i0 w2 i4).1+1,List.set ((aC n emp i0 w2 i4).2.1) (((aB n.rules (ah (aB n.aa (ah w2.2.2 (w2.1-1))).aj i4).n).start).toNat) true,List.take ((aC n emp i0 w2 i4).1) ((aC n emp i0 w2 i4).2.2)++ [(aB n.rules (ah (aB n.aa (ah w2.2.2 (w2.1-1))).aj i4).n).start]) from (cdF h1 (cdT h2 (cdT h4 (cdT h5 rfl)))))])⟩ (bp (congrArg (fun z=>Ob.row 4 1 z) (lz (f:=aq) (rfl:map aq ((aC n emp i0 w2 i4).2.1)=map aq ((aC n emp i0 w2 i4).2.1)) (((aB n.rules (ah (aB n.aa (ah w2.2.2 (w2.1-1))).aj i4).n).start).toNat) true)) (bp (congrArg (fun z=>Ob.row 3 1 z) (apT (f:=aL) (rfl:map aL ((aC n emp i0 w2 i4).2.2)=map aL ((aC n emp i0 w2 i4).2.2)) ((aC n emp i0 w2 i4).1) (aB n.rules (ah (aB n.aa (ah w2.2.2 (w2.1-1))).aj i4).n).start)) eR))))) (fun h5=>have q4:=q3.trans (aE (au h5) rfl);
 (an a0
 (an (ac (fM (1:Int)) a0)
 (an (a1 a0)
 (an (a1 a0)
 (brP (fun (h6:((ah (aB n.aa (ah w2.2.2 (w2.1-1))).aj i4).to==(i0:Int))=true)=>
 (an a0
 (lf (wy (iW n emp i0 w2 i4) 1) 4 (q4.trans h6)))) (fun h6=>
 (an (ac (atL (S:=1) (f:=0) (z:=((ah (aB n.aa (ah w2.2.2 (w2.1-1))).aj i4).to).toNat) (lz (f:=aq) (rfl:map aq ((aC n emp i0 w2 i4).2.1)=map aq ((aC n emp i0 w2 i4).2.1)) (((aB n.rules (ah (aB n.aa (ah w2.2.2 (w2.1-1))).aj i4).n).start).toNat) true) (by decide) (by simp only [List.length_set];omega)) (ac (ixI (x:=(ah (aB n.aa (ah w2.2.2 (w2.1-1))).aj i4).to) (n:=length (map ak n.aa)) (by omega) (by omega)) a0))
 (brP (fun (h7:(!(ah (List.set ((aC n emp i0 w2 i4).2.1) (((aB n.rules (ah (aB n.aa (ah w2.2.2 (w2.1-1))).aj i4).n).start).toNat) true) (((ah (aB n.aa (ah w2.2.2 (w2.1-1))).aj i4).to).toNat)))=true)=>
 (an (ac (stL (S:=1) (f:=0) (k:=1) (z:=((ah (aB n.aa (ah w2.2.2 (w2.1-1))).aj i4).to).toNat) (lz (f:=aq) (rfl:map aq ((aC n emp i0 w2 i4).2.1)=map aq ((aC n emp i0 w2 i4).2.1)) (((aB n.rules (ah (aB n.aa (ah w2.2.2 (w2.1-1))).aj i4).n).start).toNat) true) (by decide) (by simp only [List.length_set];omega) rfl) (ac (ixI (x:=(ah (aB n.aa (ah w2.2.2 (w2.1-1))).aj i4).to) (n:=length (map ak n.aa)) (by omega) (by omega)) a0))
 (an (ac (apL (k:=(aC n emp i0 w2 i4).1+1) (B:=8) (apT (f:=aL) (rfl:map aL ((aC n emp i0 w2 i4).2.2)=map aL ((aC n emp i0 w2 i4).2.2)) ((aC n emp i0 w2 i4).1) (aB n.rules (ah (aB n.aa (ah w2.2.2 (w2.1-1))).aj i4).n).start) (by first|omega|(simp only [List.length_append,List.length_take,List.length_cons,List.length_nil];omega)) (by omega) (by omega)) a0)
 (an (aN 2 (ac (bK (f:=aq) (l:=emp) (s:=(ah (aB n.aa (ah w2.2.2 (w2.1-1))).aj i4).n) (decide_eq_true (by omega)) (decide_eq_true (by omega))) (aN 3 (ac (au (show ((ah (aB n.aa (ah w2.2.2 (w2.1-1))).aj i4).op !=2)=false by rw [eq_of_beq h2];rfl)) (a1 a0)))))
 (an h5 (an a0
 (an (ac (fM (2:Int)) a0)
 (an (a1 a0)
 (an (ac (dwr (z:= ↑(i4+1)) (by omega) (by omega)) a0)
 (lfE (wy (iW n emp i0 w2 i4) 3) 5 ⟨(q4.trans h6),congrArg (fun y4:Nat×(List Bool)×(List Int)=>([(1,.sl 1 (map aq emp)),(2,.pf (aR n)),(5,I (i0:Int)),(6,.sr 0 1 0 (length (map ak n.aa))),(7,.sr 1 1 0 y4.1),(8,I (ah w2.2.2 (w2.1-1))),(9,I ↑(i4+1))]:Am.Loc)) (show aC n emp i0 w2 (i4+1)=((aC n emp i0 w2 i4).1+1+1,List.set (List.set ((aC n emp i0 w2 i4).2.1) (((aB n.rules (ah (aB n.aa (ah w2.2.2 (w2.1-1))).aj i4).n).start).toNat) true) (((ah (aB n.aa (ah w2.2.2 (w2.1-1))).aj i4).to).toNat) true,List.take ((aC n emp i0 w2 i4).1+1) (List.take ((aC n emp i0 w2 i4).1) ((aC n emp i0 w2 i4).2.2)++ [(aB n.rules (ah (aB n.aa (ah w2.2.2 (w2.1-1))).aj i4).n).start])++ [(ah (aB n.aa (ah w2.2.2 (w2.1-1))).aj i4).to]) from (cdF h1 (cdT h2 (cdT h4 (cdF h5 (cdT h7 rfl)))))).symm,(by rw [show fR n emp i0 w2 (i4+1)=(fun y4:Nat×(List Bool)×(List Int)=>([.row 4 1 (map aq y4.2.1),.row 3 1 (map aL y4.2.2)]:List Ob)) (aC n emp i0 w2 (i4+1)) from rfl,(show aC n emp i0 w2 (i4+1)=((aC n emp i0 w2 i4).1+1+1,List.set (List.set ((aC n emp i0 w2 i4).2.1) (((aB n.rules (ah (aB n.aa (ah w2.2.2 (w2.1-1))).aj i4).n).start).toNat) true) (((ah (aB n.aa (ah w2.2.2 (w2.1-1))).aj i4).to).toNat) true,List.take ((aC n emp i0 w2 i4).1+1) (List.take ((aC n emp i0 w2 i4).1) ((aC n emp i0 w2 i4).2.2)++ [(aB n.rules (ah (aB n.aa (ah w2.2.2 (w2.1-1))).aj i4).n).start])++ [(ah (aB n.aa (ah w2.2.2 (w2.1-1))).aj i4).to]) from (cdF h1 (cdT h2 (cdT h4 (cdF h5 (cdT h7 rfl))))))])⟩ (bp (congrArg (fun z=>Ob.row 4 1 z) (lz (f:=aq) (lz (f:=aq) (rfl:map aq ((aC n emp i0 w2 i4).2.1)=map aq ((aC n emp i0 w2 i4).2.1)) (((aB n.rules (ah (aB n.aa (ah w2.2.2 (w2.1-1))).aj i4).n).start).toNat) true) (((ah (aB n.aa (ah w2.2.2 (w2.1-1))).aj i4).to).toNat) true)) (bp (congrArg (fun z=>Ob.row 3 1 z) (apT (f:=aL) (apT (f:=aL) (rfl:map aL ((aC n emp i0 w2 i4).2.2)=map aL ((aC n emp i0 w2 i4).2.2)) ((aC n emp i0 w2 i4).1) (aB n.rules (ah (aB n.aa (ah w2.2.2 (w2.1-1))).aj i4).n).start) ((aC n emp i0 w2 i4).1+1) (ah (aB n.aa (ah w2.2.2 (w2.1-1))).aj i4).to)) eR)))))))))))) (fun h7=>
 (an (aN 2 (ac (bK (f:=aq) (l:=emp) (s:=(ah (aB n.aa (ah w2.2.2 (w2.1-1))).aj i4).n) (decide_eq_true (by omega)) (decide_eq_true (by omega))) (aN 3 (ac (au (show ((ah (aB n.aa (ah w2.2.2 (w2.1-1))).aj i4).op !=2)=false by rw [eq_of_beq h2];rfl)) (a1 a0)))))
 (an h5 (an a0
 (an (ac (fM (2:Int)) a0)
 (an (a1 a0)
 (an (ac (dwr (z:= ↑(i4+1)) (by omega) (by omega)) a0)
 (lfE (wy (iW n emp i0 w2 i4) 2) 4 ⟨(q4.trans h6),congrArg (fun y4:Nat×(List Bool)×(List Int)=>([(1,.sl 1 (map aq emp)),(2,.pf (aR n)),(5,I (i0:Int)),(6,.sr 0 1 0 (length (map ak n.aa))),(7,.sr 1 1 0 y4.1),(8,I (ah w2.2.2 (w2.1-1))),(9,I ↑(i4+1))]:Am.Loc)) (show aC n emp i0 w2 (i4+1)=((aC n emp i0 w2 i4).1+1,List.set ((aC n emp i0 w2 i4).2.1) (((aB n.rules (ah (aB n.aa (ah w2.2.2 (w2.1-1))).aj i4).n).start).toNat) true,List.take ((aC n emp i0 w2 i4).1) ((aC n emp i0 w2 i4).2.2)++ [(aB n.rules (ah (aB n.aa (ah w2.2.2 (w2.1-1))).aj i4).n).start]) from (cdF h1 (cdT h2 (cdT h4 (cdF h5 (cdF h7 rfl)))))).symm,(by rw [show fR n emp i0 w2 (i4+1)=(fun y4:Nat×(List Bool)×(List Int)=>([.row 4 1 (map aq y4.2.1),.row 3 1 (map aL y4.2.2)]:List Ob)) (aC n emp i0 w2 (i4+1)) from rfl,(show aC n emp i0 w2 (i4+1)=((aC n emp i0 w2 i4).1+1,List.set ((aC n emp i0 w2 i4).2.1) (((aB n.rules (ah (aB n.aa (ah w2.2.2 (w2.1-1))).aj i4).n).start).toNat) true,List.take ((aC n emp i0 w2 i4).1) ((aC n emp i0 w2 i4).2.2)++ [(aB n.rules (ah (aB n.aa (ah w2.2.2 (w2.1-1))).aj i4).n).start]) from (cdF h1 (cdT h2 (cdT h4 (cdF h5 (cdF h7 rfl))))))])⟩ (bp (congrArg (fun z=>Ob.row 4 1 z) (lz (f:=aq) (rfl:map aq ((aC n emp i0 w2 i4).2.1)=map aq ((aC n emp i0 w2 i4).2.1)) (((aB n.rules (ah (aB n.aa (ah w2.2.2 (w2.1-1))).aj i4).n).start).toNat) true)) (bp (congrArg (fun z=>Ob.row 3 1 z) (apT (f:=aL) (rfl:map aL ((aC n emp i0 w2 i4).2.2)=map aL ((aC n emp i0 w2 i4).2.2)) ((aC n emp i0 w2 i4).1) (aB n.rules (ah (aB n.aa (ah w2.2.2 (w2.1-1))).aj i4).n).start)) eR)))))))))))))))))))))))) (fun h4=>
 (have l4:=aW aq (emp);an (aN 2 (ac (bK (f:=aq) (l:=emp) (s:=(ah (aB n.aa (ah w2.2.2 (w2.1-1))).aj i4).n) (decide_eq_true (by omega)) (decide_eq_true (by omega))) (aN 3 (ac (au (show ((ah (aB n.aa (ah w2.2.2 (w2.1-1))).aj i4).op !=2)=false by rw [eq_of_beq h2];rfl)) (a1 a0)))))
 (brP (fun (h5:(!(aB emp (ah (aB n.aa (ah w2.2.2 (w2.1-1))).aj i4).n))=true)=>
 (an (ac (dwr (z:= ↑(i4+1)) (by omega) (by omega)) a0)
 (lf (wy (iW n emp i0 w2 i4) 0) 3 ⟨(q3.trans (aY (cx h5))),congrArg (fun y4:Nat×(List Bool)×(List Int)=>([(1,.sl 1 (map aq emp)),(2,.pf (aR n)),(5,I (i0:Int)),(6,.sr 0 1 0 (length (map ak n.aa))),(7,.sr 1 1 0 y4.1),(8,I (ah w2.2.2 (w2.1-1))),(9,I ↑(i4+1))]:Am.Loc)) (show aC n emp i0 w2 (i4+1)=((aC n emp i0 w2 i4).1,(aC n emp i0 w2 i4).2.1,(aC n emp i0 w2 i4).2.2) from (cdF h1 (cdT h2 (cdF h4 (cdT h5 rfl))))).symm,(by rw [show fR n emp i0 w2 (i4+1)=(fun y4:Nat×(List Bool)×(List Int)=>([.row 4 1 (map aq y4.2.1),.row 3 1 (map aL y4.2.2)]:List Ob)) (aC n emp i0 w2 (i4+1)) from rfl,(show aC n emp i0 w2 (i4+1)=((aC n emp i0 w2 i4).1,(aC n emp i0 w2 i4).2.1,(aC n emp i0 w2 i4).2.2) from (cdF h1 (cdT h2 (cdF h4 (cdT h5 rfl)))))])⟩))) (fun h5=>have q5:=q3.trans (aE (au h5) rfl);
 (an a0
 (an (ac (fM (1:Int)) a0)
 (an (a1 a0)
 (an (a1 a0)
 (brP (fun (h6:((ah (aB n.aa (ah w2.2.2 (w2.1-1))).aj i4).to==(i0:Int))=true)=>
 (an a0
 (lf (wy (iW n emp i0 w2 i4) 1) 3 (q5.trans h6)))) (fun h6=>
 (an (ac (atL (S:=1) (f:=0) (z:=((ah (aB n.aa (ah w2.2.2 (w2.1-1))).aj i4).to).toNat) (rfl:map aq ((aC n emp i0 w2 i4).2.1)=map aq ((aC n emp i0 w2 i4).2.1)) (by decide) (by omega)) (ac (ixI (x:=(ah (aB n.aa (ah w2.2.2 (w2.1-1))).aj i4).to) (n:=length (map ak n.aa)) (by omega) (by omega)) a0))
 (brP (fun (h7:(!(ah ((aC n emp i0 w2 i4).2.1) (((ah (aB n.aa (ah w2.2.2 (w2.1-1))).aj i4).to).toNat)))=true)=>
 (an (ac (stL (S:=1) (f:=0) (k:=1) (z:=((ah (aB n.aa (ah w2.2.2 (w2.1-1))).aj i4).to).toNat) (rfl:map aq ((aC n emp i0 w2 i4).2.1)=map aq ((aC n emp i0 w2 i4).2.1)) (by decide) (by omega) rfl) (ac (ixI (x:=(ah (aB n.aa (ah w2.2.2 (w2.1-1))).aj i4).to) (n:=length (map ak n.aa)) (by omega) (by omega)) a0))
 (an (ac (apL (k:=(aC n emp i0 w2 i4).1) (B:=8) (rfl:map aL ((aC n emp i0 w2 i4).2.2)=map aL ((aC n emp i0 w2 i4).2.2)) (by first|omega|(simp only [List.length_map,List.length_set,List.length_append,List.length_take,List.length_cons,List.length_nil];omega)) (by omega) (by omega)) a0)
 (an (aN 2 (ac (bK (f:=aq) (l:=emp) (s:=(ah (aB n.aa (ah w2.2.2 (w2.1-1))).aj i4).n) (decide_eq_true (by omega)) (decide_eq_true (by omega))) (aN 3 (ac (au (show ((ah (aB n.aa (ah w2.2.2 (w2.1-1))).aj i4).op !=2)=false by rw [eq_of_beq h2];rfl)) (a1 a0)))))
 (an h5 (an a0
 (an (ac (fM (2:Int)) a0)
 (an (a1 a0)
 (an (ac (dwr (z:= ↑(i4+1)) (by omega) (by omega)) a0)
 (lfE (wy (iW n emp i0 w2 i4) 4) 4 ⟨(q5.trans h6),congrArg (fun y4:Nat×(List Bool)×(List Int)=>([(1,.sl 1 (map aq emp)),(2,.pf (aR n)),(5,I (i0:Int)),(6,.sr 0 1 0 (length (map ak n.aa))),(7,.sr 1 1 0 y4.1),(8,I (ah w2.2.2 (w2.1-1))),(9,I ↑(i4+1))]:Am.Loc)) (show aC n emp i0 w2 (i4+1)=((aC n emp i0 w2 i4).1+1,List.set ((aC n emp i0 w2 i4).2.1) (((ah (aB n.aa (ah w2.2.2 (w2.1-1))).aj i4).to).toNat) true,List.take ((aC n emp i0 w2 i4).1) ((aC n emp i0 w2 i4).2.2)++ [(ah (aB n.aa (ah w2.2.2 (w2.1-1))).aj i4).to]) from (cdF h1 (cdT h2 (cdF h4 (cdF h5 (cdT h7 rfl)))))).symm,(by rw [show fR n emp i0 w2 (i4+1)=(fun y4:Nat×(List Bool)×(List Int)=>([.row 4 1 (map aq y4.2.1),.row 3 1 (map aL y4.2.2)]:List Ob)) (aC n emp i0 w2 (i4+1)) from rfl,(show aC n emp i0 w2 (i4+1)=((aC n emp i0 w2 i4).1+1,List.set ((aC n emp i0 w2 i4).2.1) (((ah (aB n.aa (ah w2.2.2 (w2.1-1))).aj i4).to).toNat) true,List.take ((aC n emp i0 w2 i4).1) ((aC n emp i0 w2 i4).2.2)++ [(ah (aB n.aa (ah w2.2.2 (w2.1-1))).aj i4).to]) from (cdF h1 (cdT h2 (cdF h4 (cdF h5 (cdT h7 rfl))))))])⟩ (bp (congrArg (fun z=>Ob.row 4 1 z) (lz (f:=aq) (rfl:map aq ((aC n emp i0 w2 i4).2.1)=map aq ((aC n emp i0 w2 i4).2.1)) (((ah (aB n.aa (ah w2.2.2 (w2.1-1))).aj i4).to).toNat) true)) (bp (congrArg (fun z=>Ob.row 3 1 z) (apT (f:=aL) (rfl:map aL ((aC n emp i0 w2 i4).2.2)=map aL ((aC n emp i0 w2 i4).2.2)) ((aC n emp i0 w2 i4).1) (ah (aB n.aa (ah w2.2.2 (w2.1-1))).aj i4).to)) eR)))))))))))) (fun h7=>
 (an (aN 2 (ac (bK (f:=aq) (l:=emp) (s:=(ah (aB n.aa (ah w2.2.2 (w2.1-1))).aj i4).n) (decide_eq_true (by omega)) (decide_eq_true (by omega))) (aN 3 (ac (au (show ((ah (aB n.aa (ah w2.2.2 (w2.1-1))).aj i4).op !=2)=false by rw [eq_of_beq h2];rfl)) (a1 a0)))))
 (an h5 (an a0
 (an (ac (fM (2:Int)) a0)
 (an (a1 a0)
 (an (ac (dwr (z:= ↑(i4+1)) (by omega) (by omega)) a0)
 (lf (wy (iW n emp i0 w2 i4) 0) 3 ⟨(q5.trans h6),congrArg (fun y4:Nat×(List Bool)×(List Int)=>([(1,.sl 1 (map aq emp)),(2,.pf (aR n)),(5,I (i0:Int)),(6,.sr 0 1 0 (length (map ak n.aa))),(7,.sr 1 1 0 y4.1),(8,I (ah w2.2.2 (w2.1-1))),(9,I ↑(i4+1))]:Am.Loc)) (show aC n emp i0 w2 (i4+1)=((aC n emp i0 w2 i4).1,(aC n emp i0 w2 i4).2.1,(aC n emp i0 w2 i4).2.2) from (cdF h1 (cdT h2 (cdF h4 (cdF h5 (cdF h7 rfl)))))).symm,(by rw [show fR n emp i0 w2 (i4+1)=(fun y4:Nat×(List Bool)×(List Int)=>([.row 4 1 (map aq y4.2.1),.row 3 1 (map aL y4.2.2)]:List Ob)) (aC n emp i0 w2 (i4+1)) from rfl,(show aC n emp i0 w2 (i4+1)=((aC n emp i0 w2 i4).1,(aC n emp i0 w2 i4).2.1,(aC n emp i0 w2 i4).2.2) from (cdF h1 (cdT h2 (cdF h4 (cdF h5 (cdF h7 rfl))))))])⟩))))))))))))))))))))))))))))) (fun h2=>have q2:=q0.trans (cdF h2 rfl);have g2:=ne_of_beq_false h2;
 (an a0
 (an (a1 a0)
 (an (a1 a0)
 (brP (fun (h3:((ah (aB n.aa (ah w2.2.2 (w2.1-1))).aj i4).to==(i0:Int))=true)=>
 (an a0
 (lf (wy (iW n emp i0 w2 i4) 1) 3 (q2.trans h3)))) (fun h3=>
 (an (ac (atL (S:=1) (f:=0) (z:=((ah (aB n.aa (ah w2.2.2 (w2.1-1))).aj i4).to).toNat) (rfl:map aq ((aC n emp i0 w2 i4).2.1)=map aq ((aC n emp i0 w2 i4).2.1)) (by decide) (by omega)) (ac (ixI (x:=(ah (aB n.aa (ah w2.2.2 (w2.1-1))).aj i4).to) (n:=length (map ak n.aa)) (by omega) (by omega)) a0))
 (brP (fun (h4:(!(ah ((aC n emp i0 w2 i4).2.1) (((ah (aB n.aa (ah w2.2.2 (w2.1-1))).aj i4).to).toNat)))=true)=>
 (an (ac (stL (S:=1) (f:=0) (k:=1) (z:=((ah (aB n.aa (ah w2.2.2 (w2.1-1))).aj i4).to).toNat) (rfl:map aq ((aC n emp i0 w2 i4).2.1)=map aq ((aC n emp i0 w2 i4).2.1)) (by decide) (by omega) rfl) (ac (ixI (x:=(ah (aB n.aa (ah w2.2.2 (w2.1-1))).aj i4).to) (n:=length (map ak n.aa)) (by omega) (by omega)) a0))
 (an (ac (apL (k:=(aC n emp i0 w2 i4).1) (B:=8) (rfl:map aL ((aC n emp i0 w2 i4).2.2)=map aL ((aC n emp i0 w2 i4).2.2)) (by first|omega|(simp only [List.length_map,List.length_set,List.length_append,List.length_take,List.length_cons,List.length_nil];omega)) (by omega) (by omega)) a0)
 (an (aN 5 (ac (n2 (show ((ah (aB n.aa (ah w2.2.2 (w2.1-1))).aj i4).op !=2)=true by rw [bne,h2];rfl)) (a1 a0)))
 (an (ac (dwr (z:= ↑(i4+1)) (by omega) (by omega)) a0)
 (lfE (wy (iW n emp i0 w2 i4) 4) 4 ⟨(q2.trans h3),congrArg (fun y4:Nat×(List Bool)×(List Int)=>([(1,.sl 1 (map aq emp)),(2,.pf (aR n)),(5,I (i0:Int)),(6,.sr 0 1 0 (length (map ak n.aa))),(7,.sr 1 1 0 y4.1),(8,I (ah w2.2.2 (w2.1-1))),(9,I ↑(i4+1))]:Am.Loc)) (show aC n emp i0 w2 (i4+1)=((aC n emp i0 w2 i4).1+1,List.set ((aC n emp i0 w2 i4).2.1) (((ah (aB n.aa (ah w2.2.2 (w2.1-1))).aj i4).to).toNat) true,List.take ((aC n emp i0 w2 i4).1) ((aC n emp i0 w2 i4).2.2)++ [(ah (aB n.aa (ah w2.2.2 (w2.1-1))).aj i4).to]) from (cdF h1 (cdF h2 (cdT h4 rfl)))).symm,(by rw [show fR n emp i0 w2 (i4+1)=(fun y4:Nat×(List Bool)×(List Int)=>([.row 4 1 (map aq y4.2.1),.row 3 1 (map aL y4.2.2)]:List Ob)) (aC n emp i0 w2 (i4+1)) from rfl,(show aC n emp i0 w2 (i4+1)=((aC n emp i0 w2 i4).1+1,List.set ((aC n emp i0 w2 i4).2.1) (((ah (aB n.aa (ah w2.2.2 (w2.1-1))).aj i4).to).toNat) true,List.take ((aC n emp i0 w2 i4).1) ((aC n emp i0 w2 i4).2.2)++ [(ah (aB n.aa (ah w2.2.2 (w2.1-1))).aj i4).to]) from (cdF h1 (cdF h2 (cdT h4 rfl))))])⟩ (bp (congrArg (fun z=>Ob.row 4 1 z) (lz (f:=aq) (rfl:map aq ((aC n emp i0 w2 i4).2.1)=map aq ((aC n emp i0 w2 i4).2.1)) (((ah (aB n.aa (ah w2.2.2 (w2.1-1))).aj i4).to).toNat) true)) (bp (congrArg (fun z=>Ob.row 3 1 z) (apT (f:=aL) (rfl:map aL ((aC n emp i0 w2 i4).2.2)=map aL ((aC n emp i0 w2 i4).2.2)) ((aC n emp i0 w2 i4).1) (ah (aB n.aa (ah w2.2.2 (w2.1-1))).aj i4).to)) eR)))))))) (fun h4=>
 (an (aN 5 (ac (n2 (show ((ah (aB n.aa (ah w2.2.2 (w2.1-1))).aj i4).op !=2)=true by rw [bne,h2];rfl)) (a1 a0)))
 (an (ac (dwr (z:= ↑(i4+1)) (by omega) (by omega)) a0)
 (lf (wy (iW n emp i0 w2 i4) 0) 3 ⟨(q2.trans h3),congrArg (fun y4:Nat×(List Bool)×(List Int)=>([(1,.sl 1 (map aq emp)),(2,.pf (aR n)),(5,I (i0:Int)),(6,.sr 0 1 0 (length (map ak n.aa))),(7,.sr 1 1 0 y4.1),(8,I (ah w2.2.2 (w2.1-1))),(9,I ↑(i4+1))]:Am.Loc)) (show aC n emp i0 w2 (i4+1)=((aC n emp i0 w2 i4).1,(aC n emp i0 w2 i4).2.1,(aC n emp i0 w2 i4).2.2) from (cdF h1 (cdF h2 (cdF h4 rfl)))).symm,(by rw [show fR n emp i0 w2 (i4+1)=(fun y4:Nat×(List Bool)×(List Int)=>([.row 4 1 (map aq y4.2.1),.row 3 1 (map aL y4.2.2)]:List Ob)) (aC n emp i0 w2 (i4+1)) from rfl,(show aC n emp i0 w2 (i4+1)=((aC n emp i0 w2 i4).1,(aC n emp i0 w2 i4).2.1,(aC n emp i0 w2 i4).2.2) from (cdF h1 (cdF h2 (cdF h4 rfl))))])⟩)))))))))))))))))))))
 (by kernel_rfl)
theorem Zq (n:Net) (emp:List Bool) (i0:Nat) (w2:Nat×(List Bool)×(List Int)) (_:bw n) (hf:bg n) (_:length emp=length n.rules) (_:i0<(length n.aa)) (hw2:SI (length n.aa) (length n.aa+1) w2) (hp4:(zAN w2)=true):vcC pg 107 base aO 3000 (kbL []) Jt (bu (ky n emp i0 w2 (zCE n w2))) (bA (fR n emp i0 w2 (zCE n w2))) 2 (bQ [⟨True,(.exit 4),jV n emp i0 w2,range 2,jW n emp i0 w2⟩]) (.r [.cC ((zAe w2)).toNat (ak (aB n.aa (zAe w2))),.k,bT] (.no (.pick 0))):=
 have hr:=hf.rules;have hs:=hf.aa;have gp0:=of_decide_eq_true hp4;have hk2:=hw2.kt;have hl2:=hw2.len;have hb2:=hw2.bd;have hs2:0<w2.1->(0<=ah w2.2.2 (w2.1-1)/\ah w2.2.2 (w2.1-1)<(length n.aa:Int)):=fun h=>hw2.rng _ (ay (by omega));have l1:=aW bc ((aB n.aa (ah w2.2.2 (w2.1-1))).aj);have hb:(decide ((((length (aB n.aa (ah w2.2.2 (w2.1-1))).aj):Nat):Int)<(length (map bc (aB n.aa (ah w2.2.2 (w2.1-1))).aj):Int)))=false:=decide_eq_false (by omega);
 aZ (have l2:=aW ak (n.aa);an (a1 (ac (bK (f:=ak) (l:=n.aa) (s:=(ah w2.2.2 (w2.1-1))) (decide_eq_true (by omega)) (decide_eq_true (by omega))) a0))
 (an hb (lf (wy [⟨True,(.exit 4),jV n emp i0 w2,range 2,jW n emp i0 w2⟩] 0) 2 trivial)))
 (by kernel_rfl)
theorem SM (n:Net) (emp:List Bool) (i0:Nat) (w2:Nat×(List Bool)×(List Int)) (i4:Nat):(iW n emp i0 w2 i4).all zr=true:=by refine (aF (aQ rfl rfl rfl ?_ ?_) (aF (aQ rfl rfl rfl ?_ ?_) (aF (aQ rfl rfl rfl ?_ ?_) (aF (aQ rfl rfl rfl ?_ ?_) (aF (aQ rfl rfl rfl ?_ ?_) bD)))))<;>simp (maxDischargeDepth:=9) [nxW,htW,ky,mE,plS,AV.pure,ai,fR,mF,plO]
theorem SN (n:Net) (emp:List Bool) (i0:Nat) (w2:Nat×(List Bool)×(List Int)):bj.b8 0 ⟨True,(.exit 4),jV n emp i0 w2,range 2,jW n emp i0 w2⟩=true:=by refine (aQ rfl rfl rfl ?_ ?_)<;>simp (maxDischargeDepth:=9) [jV,plS,AV.pure,jW,plO]
theorem SP (n:Net) (emp:List Bool) (i0:Nat) (w2:Nat×(List Bool)×(List Int)) (hn:bw n) (hf:bg n) (hm:length emp=length n.rules) (hx0:i0<(length n.aa)) (hw2:SI (length n.aa) (length n.aa+1) w2):dg pg 107 0 4 (.loop Jt) (Cg n emp i0 w2):=
 have hr:=hf.rules;have hs:=hf.aa;bZ (fun hp4=>e9 (id:=4) (m:=length (aB n.aa (ah w2.2.2 (w2.1-1))).aj) (t:=lD n emp i0 w2) (xr:= .ret) (xn:=(.exit 4)) (Lr:=mE n emp i0 w2) (Lx:=jV n emp i0 w2) (obr:=mF n emp i0 w2) (obx:=jW n emp i0 w2) (V:=fun i4=>vcC pg 107 base aO 3000 (kbL []) Jt) (ky n emp i0 w2) (fR n emp i0 w2) 2 (iW n emp i0 w2) (XJ n emp i0 w2) _ _ (fun i4 hx4=>aS aw mixed (az _)) (aS aw mixed (az _)) (fun e=>by cases e) (fun e=>by cases e) (fun _=>rfl) (fun i4 hx4=>Zp n emp i0 w2 i4 hn hf hm hx0 hw2 hp4 hx4) (fun i4 _=>SM n emp i0 w2 i4) (fun i4 _=>show∀ww∈iW n emp i0 w2 i4,cy _ _ _ _ _ _ ww from (aG cg (aG da (aG cg (aG cg (aG cg bG)))))) (Zq n emp i0 w2 hn hf hm hx0 hw2 hp4) (SN n emp i0 w2)) (fun h=>h) (fun h=>h)
def vu (n:Net) (emp:List Bool) (i0:Nat) (w2:Nat×(List Bool)×(List Int)):Nat×(List Bool)×(List Int):=((aC n emp i0 w2 (length (aB n.aa (ah w2.2.2 (w2.1-1))).aj)).1,(aC n emp i0 w2 (length (aB n.aa (ah w2.2.2 (w2.1-1))).aj)).2.1,(aC n emp i0 w2 (length (aB n.aa (ah w2.2.2 (w2.1-1))).aj)).2.2)
def dt (n:Net) (emp:List Bool) (i0 kk:Nat):Nat×(List Bool)×(List Int):=Nat.rec (motive:=fun _=>Nat×(List Bool)×(List Int)) (1,replicate (length (map ak n.aa)) false,[(i0:Int)]) (fun _ a=>vu n emp i0 a) kk
def iX (n:Net) (emp:List Bool) (i0:Nat) (w2:Nat×(List Bool)×(List Int)):Bool:=(bif decide (((w2.1:Nat):Int)>0) then (yG n emp i0 w2) else true)
def xg (n:Net) (_:List Bool) (i0:Nat) (w2:Nat×(List Bool)×(List Int)):Bool:=(decide (((w2.1:Nat):Int)>0))
def tD (n:Net) (emp:List Bool) (i0:Nat):Nat×(List Bool)×(List Int):=dt n emp i0 (dX (iX n emp i0) (dt n emp i0))
theorem SQ {n:Net} (hn:bw n) (emp:List Bool) (i0:Nat) (hi:i0<n.aa.length): ∀k,SI n.aa.length (n.aa.length+1) (dt n emp i0 k)
 |0=>⟨by show (replicate _ _).length=_;simp,Nat.le_refl _,fun x hx=>by
   have hx:x∈ [(i0:Int)]:=hx
   simp only [List.mem_singleton] at hx
   omega,by
   show 1+cf (replicate _ _)<=_
   have:=SJ (replicate (length (map ak n.aa)) false)
   simp only [List.length_replicate,List.length_map] at this⊢
   omega⟩
 |k+1=>(LA hn emp i0 (SQ hn emp i0 hi k) _ (Nat.le_refl _)).1.up (Nat.le_succ _)
theorem SS {n:Net} (hn:bw n) (emp:List Bool) (i0:Nat) (hi:i0<n.aa.length):(∃k,iX n emp i0 (dt n emp i0 k)=true)/\ ∀k,k<=dX (iX n emp i0) (dt n emp i0)->SI n.aa.length (n.aa.length+1) (dt n emp i0 k):=by
 refine ⟨?_,fun k _=>SQ hn emp i0 hi k⟩
 by_cases h: ∃k,iX n emp i0 (dt n emp i0 k)=true
 ·exact h
 ·have h: ∀k,0<(dt n emp i0 k).1:=fun k=>by
   have hk:iX n emp i0 (dt n emp i0 k)≠true:=fun e=>h ⟨k,e⟩
   by_cases h0:0<(dt n emp i0 k).1
   ·exact h0
   ·refine absurd ?_ hk
    unfold iX
    rw [show decide ((((dt n emp i0 k).1:Nat):Int)>0)=false from decide_eq_false (by omega)]
    rfl
  have key: ∀k,2*cf (dt n emp i0 k).2.1+(dt n emp i0 k).1+k<=2*cf (dt n emp i0 0).2.1+(dt n emp i0 0).1:=fun k=>by
   induction k with
   |zero=>exact Nat.le_refl _
   |succ k ih=>
    have h1:=(LA hn emp i0 (SQ hn emp i0 hi k) _ (Nat.le_refl _)).2
    have h2:=h k
    have h3:dt n emp i0 (k+1)=aC n emp i0 (dt n emp i0 k) (length (aB n.aa (ah (dt n emp i0 k).2.2 ((dt n emp i0 k).1-1))).aj):=rfl
    rw [h3]
    omega
  have:=key (2*cf (dt n emp i0 0).2.1+(dt n emp i0 0).1+1)
  omega
def Ch (n:Net) (emp:List Bool) (i0:Nat) (w2:Nat×(List Bool)×(List Int)):Am.Loc:=[(1,.sl 1 (zBg emp)),(2,.pf (aR n)),(5,I (i0:Int)),(6,.sr 0 1 0 (zY n)),(7,.sr 1 1 0 w2.1)]
def vv (n:Net) (_:List Bool) (i0:Nat) (_:Nat×(List Bool)×(List Int)):Am.Loc:=[(4,B true)]
def vw (n:Net) (emp:List Bool) (i0:Nat) (_:Nat×(List Bool)×(List Int)):Am.Loc:=[(1,.sl 1 (zBg emp)),(2,.pf (aR n)),(5,I (i0:Int))]
def Ci (n:Net) (_:List Bool) (i0:Nat) (w2:Nat×(List Bool)×(List Int)):List Ob:=[.row 4 1 (map aq w2.2.1),.row 3 1 (map aL w2.2.2)]
def vy (n:Net) (_:List Bool) (i0:Nat) (_:Nat×(List Bool)×(List Int)):List Ob:=[]
def vz (n:Net) (_:List Bool) (i0:Nat) (w2:Nat×(List Bool)×(List Int)):List Ob:=[.row 4 1 (map aq w2.2.1),.row 3 1 (map aL w2.2.2)]
def vA (n:Net) (emp:List Bool) (i0:Nat):KB:=⟨Ch n emp i0 (dt n emp i0 0),Ci n emp i0 (dt n emp i0 0),xg n emp i0 (tD n emp i0),.ret,vv n emp i0 (tD n emp i0),vy n emp i0 (tD n emp i0),.normal,vw n emp i0 (tD n emp i0),vz n emp i0 (tD n emp i0),(∃k,iX n emp i0 (dt n emp i0 k)=true)/\ ∀k,k<=dX (iX n emp i0) (dt n emp i0)->SI (zG n) (length n.aa+1) (dt n emp i0 k)⟩
def Cj (n:Net) (emp:List Bool) (i0:Nat) (w2:Nat×(List Bool)×(List Int)):List bj:=[whW (iX n emp i0 w2) (xg n emp i0 w2) .ret (vv n emp i0 w2) za (vy n emp i0 w2),nxW (iX n emp i0 w2) (Ch n emp i0 (vu n emp i0 w2)) (Ci n emp i0 (vu n emp i0 w2)) [(1,.sl 1 (zBg emp)),(2,.pf (aR n)),(5,I (i0:Int)),(6,.sr 0 1 0 (zY n)),(7,.sr 1 1 0 ((aC n emp i0 w2 (zCE n w2)).1))] zBJ [.row 4 1 (map aq ((aC n emp i0 w2 (zCE n w2)).2.1)),.row 3 1 (map aL ((aC n emp i0 w2 (zCE n w2)).2.2))],wxW (iX n emp i0 w2) (xg n emp i0 w2) (.exit 2) (vw n emp i0 w2) zBJ (vz n emp i0 w2)]
def XK (n:Net) (_:List Bool) (i0:Nat) (w2:Nat×(List Bool)×(List Int)):GT:=(.r [.k,bT] (.br (.r [.int ((w2.1-1:Nat):Int),.at (w2.1-1) 0 (aL (ah w2.2.2 (w2.1-1))),bT] (.r [.int ((w2.1-1:Nat):Int),bT] (.r [bT] (.br (.pick 0) (.pick 1))))) (.pick 2)))
theorem Zr (n:Net) (emp:List Bool) (i0:Nat) (w2:Nat×(List Bool)×(List Int)) (_:bw n) (hf:bg n) (_:length emp=length n.rules) (hx0:i0<(length n.aa)) (hw2:SI (length n.aa) (length n.aa+1) w2):vcC pg 107 base aO 3000 (kbL [(4,Cg n emp i0 w2)]) E6 (bu (Ch n emp i0 w2)) (bA (Ci n emp i0 w2)) 2 (bQ (Cj n emp i0 w2)) (XK n emp i0 w2):=
 have hr:=hf.rules;have hs:=hf.aa;have hk2:=hw2.kt;have hl2:=hw2.len;have hb2:=hw2.bd;have hs2:0<w2.1->(0<=ah w2.2.2 (w2.1-1)/\ah w2.2.2 (w2.1-1)<(length n.aa:Int)):=fun h=>hw2.rng _ (ay (by omega));aZ (an (a1 a0)
 (brP (fun (h0:(zAN w2)=true)=>have g0:=of_decide_eq_true h0;
 (an (ac (atL (S:=1) (f:=0) (z:=w2.1-1) (rfl:map aL w2.2.2=map aL w2.2.2) (by decide) (by omega)) (ac (ixL (z:=w2.1-1) (n:=w2.1) (by omega)) (ac (dws (k:=w2.1) (by omega) (by omega)) a0)))
 (an (ac (slA (p:=0) (q:=w2.1-1) (l:=w2.1) (by omega) (by omega)) (ac (dws (k:=w2.1) (by omega) (by omega)) a0))
 (an a0
 (an (kbT (Cg n emp i0 w2) h0) (brP (fun (h1:(yG n emp i0 w2)=true)=>
 (lf (wy (Cj n emp i0 w2) 0) 0 ⟨show iX n emp i0 w2=true from (cdT h0 h1),show xg n emp i0 w2=true from h0⟩)) (fun h1=>
 (lf (wy (Cj n emp i0 w2) 1) 2 ⟨show iX n emp i0 w2=false from (cdT h0 h1),congrArg (fun y2:Nat×(List Bool)×(List Int)=>([(1,.sl 1 (map aq emp)),(2,.pf (aR n)),(5,I (i0:Int)),(6,.sr 0 1 0 (length (map ak n.aa))),(7,.sr 1 1 0 y2.1)]:Am.Loc)) (show (vu n emp i0 w2)=((aC n emp i0 w2 (length (aB n.aa (ah w2.2.2 (w2.1-1))).aj)).1,(aC n emp i0 w2 (length (aB n.aa (ah w2.2.2 (w2.1-1))).aj)).2.1,(aC n emp i0 w2 (length (aB n.aa (ah w2.2.2 (w2.1-1))).aj)).2.2) from rfl).symm,congrArg (fun y2:Nat×(List Bool)×(List Int)=>([.row 4 1 (map aq y2.2.1),.row 3 1 (map aL y2.2.2)]:List Ob)) (show (vu n emp i0 w2)=((aC n emp i0 w2 (length (aB n.aa (ah w2.2.2 (w2.1-1))).aj)).1,(aC n emp i0 w2 (length (aB n.aa (ah w2.2.2 (w2.1-1))).aj)).2.1,(aC n emp i0 w2 (length (aB n.aa (ah w2.2.2 (w2.1-1))).aj)).2.2) from rfl).symm⟩)))))))) (fun h0=>
 (lf (wy (Cj n emp i0 w2) 2) 2 ⟨show iX n emp i0 w2=true from (cdF h0 rfl),show xg n emp i0 w2=false from h0⟩))))
 (by kernel_rfl)
theorem SU (n:Net) (emp:List Bool) (i0:Nat) (w2:Nat×(List Bool)×(List Int)):(Cj n emp i0 w2).all zr=true:=by refine (aF (aQ rfl rfl rfl ?_ ?_) (aF (aQ rfl rfl rfl ?_ ?_) (aF (aQ rfl rfl rfl ?_ ?_) bD)))<;>simp (maxDischargeDepth:=9) [nxW,whW,wxW,Ch,vv,vw,plS,AV.pure,Ci,vy,vz,plO]
theorem Hd:dB [4] E6=[(4,.loop Jt)]:=by kernel_rfl
theorem SV (n:Net) (emp:List Bool) (i0:Nat) (hn:bw n) (hf:bg n) (hm:length emp=length n.rules) (hx0:i0<(length n.aa)):dg pg 107 0 2 (.loop E6) (vA n emp i0):=
 have hr:=hf.rules;have hs:=hf.aa;bZ (fun hp2=>BY (id:=2) (t:=iX n emp i0) (hit:=xg n emp i0) (it:=dt n emp i0) (step:=vu n emp i0) (fun _=>rfl) (I:=fun w2=>SI (length n.aa) (length n.aa+1) w2) (xr:= .ret) (xn:=(.exit 2)) (Lr:=vv n emp i0) (Lx:=vw n emp i0) (obr:=vy n emp i0) (obx:=vz n emp i0) (V:=fun w2=>vcC pg 107 base aO 3000 (kbL [(4,Cg n emp i0 w2)]) E6) (Ch n emp i0) (Ci n emp i0) 2 (Cj n emp i0) (XK n emp i0) (fun w2 hw2=>aS aw mixed (bO (l:=[(4,Cg n emp i0 w2)]) Hd (aV (SP n emp i0 w2 hn hf hm hx0 hw2) rfl bn) rfl)) (fun e=>by cases e) (fun e=>by cases e) (fun _=>rfl) (fun w2 hw2=>Zr n emp i0 w2 hn hf hm hx0 hw2) (fun w2 _=>SU n emp i0 w2) (fun w2 _=>show∀ww∈Cj n emp i0 w2,ou _ _ _ _ _ _ _ _ _ _ ww from (aG Lq (aG tn (aG BX bG)))) hp2.1 hp2.2) (fun h=>h) (fun h=>h)
def xi (n:Net) (emp:List Bool) (i0:Nat):Am.Loc:=[(1,.sl 1 (zBg emp)),(2,.pf (aR n)),(5,I (i0:Int))]
def E7 (n:Net) (_:List Bool) (i0:Nat):List Ob:=[]
def mX (n:Net) (emp:List Bool) (i0:Nat):Bool:=(xg n emp i0 (tD n emp i0))
def He (n:Net) (emp:List Bool):Bool:=dh (length n.aa) (mX n emp)
def Ck (n:Net) (_:List Bool) (i0:Nat):Am.Loc:=[(4,B true)]
def LB (n:Net) (_:List Bool) (i0:Nat):List Ob:=[]
def rl (n:Net) (_:List Bool):Am.Loc:=[]
def Cl (n:Net) (_:List Bool):List Ob:=[]
def Hf (n:Net) (emp:List Bool):KB:=⟨xi n emp 0,E7 n emp 0,He n emp,.ret,Ck n emp (cc (zG n) (mX n emp)),LB n emp (cc (zG n) (mX n emp)),.normal,rl n emp,Cl n emp,True⟩
def E8 (n:Net) (emp:List Bool) (i0:Nat):List bj:=[htW (mX n emp i0) .ret (Ck n emp i0) za (LB n emp i0),nxW (mX n emp i0) (xi n emp (i0+1)) (E7 n emp (i0+1)) (xi n emp (i0+1)) za (E7 n emp (i0+1))]
def XL (n:Net) (_:List Bool) (i0:Nat):GT:=(.r [.k,bT] (.yes (.r [bT] (.r [bT] (.br (.pick 0) (.r [.int ↑(i0+1),bT] (.pick 1)))))))
theorem Zs (n:Net) (emp:List Bool) (i0:Nat) (hn:bw n) (hf:bg n) (_:length emp=length n.rules) (hx0:i0<(length n.aa)):vcC pg 107 base aO 3000 (kbL [(2,vA n emp i0)]) Ce (bu (xi n emp i0)) (bA (E7 n emp i0)) 0 (bQ (E8 n emp i0)) (XL n emp i0):=
 have hr:=hf.rules;have hs:=hf.aa;have l1:=aW ak (n.aa);have hb:(zj i0 n)=true:=decide_eq_true (by omega);
 aZ (an (a1 a0)
 (an hb (an (ac (DE (n:=length (map ak n.aa)) (B:=1) (by omega) (show length (map ak n.aa)<=9223372036854775807 by omega)) a0)
 (an a0
 (an (IK (vA n emp i0) (S:=nm (KB.L0 (vA n emp i0))) rfl (bp (congrArg (fun z=>Ob.row 4 1 z) (Ou (f:=aq) (length (map ak n.aa)) false)) (bp (rfl:(.row 3 1 [(di i0)]:Ob)= .row 3 1 [(di i0)]) eR)) (SS hn emp i0 hx0)) (brP (fun (h1:(xg n emp i0 (tD n emp i0))=true)=>
 (lf (wy (E8 n emp i0) 0) 0 (show mX n emp i0=true from h1))) (fun h1=>
 (an (ac (dwr (z:= ↑(i0+1)) (by omega) (by omega)) a0)
 (lf (wy (E8 n emp i0) 1) 2 ⟨(show mX n emp i0=false from h1),rfl,rfl⟩)))))))))
 (by kernel_rfl)
theorem Zt (n:Net) (emp:List Bool) (_:bw n) (hf:bg n) (_:length emp=length n.rules):vcC pg 107 base aO 3000 (kbL []) Ce (bu (xi n emp (zG n))) (bA (E7 n emp (zG n))) 0 (bQ [⟨True,(.exit 0),rl n emp,range 0,Cl n emp⟩]) zE:=
 have hr:=hf.rules;have hs:=hf.aa;have l1:=aW ak (n.aa);have hb:(zO n)=false:=decide_eq_false (by omega);
 aZ (an (a1 a0)
 (an hb (lf (wy [⟨True,(.exit 0),rl n emp,range 0,Cl n emp⟩] 0) 0 trivial)))
 (by kernel_rfl)
theorem SW (n:Net) (emp:List Bool) (i0:Nat):(E8 n emp i0).all zr=true:=by refine (aF (aQ rfl rfl rfl ?_ rfl) (aF (aQ rfl rfl rfl ?_ rfl) bD))<;>simp (maxDischargeDepth:=9) [nxW,htW,xi,Ck,plS,AV.pure]
theorem SX (n:Net) (emp:List Bool):bj.b8 0 ⟨True,(.exit 0),rl n emp,range 0,Cl n emp⟩=true:=(aQ rfl rfl rfl rfl rfl)
theorem Hg:dB [2] Ce=[(2,.loop E6)]:=by kernel_rfl
theorem SY (n:Net) (emp:List Bool) (hn:bw n) (hf:bg n) (hm:length emp=length n.rules):dg pg 107 0 0 (.loop Ce) (Hf n emp):=
 have hr:=hf.rules;have hs:=hf.aa;bZ (fun _=>e9 (id:=0) (m:=length n.aa) (t:=mX n emp) (xr:= .ret) (xn:=(.exit 0)) (Lr:=Ck n emp) (Lx:=rl n emp) (obr:=LB n emp) (obx:=Cl n emp) (V:=fun i0=>vcC pg 107 base aO 3000 (kbL [(2,vA n emp i0)]) Ce) (xi n emp) (E7 n emp) 0 (E8 n emp) (XL n emp) _ _ (fun i0 hx0=>aS aw mixed (bO (l:=[(2,vA n emp i0)]) Hg (aV (SV n emp i0 hn hf hm hx0) rfl bn) rfl)) (aS aw mixed (az _)) (fun e=>by cases e) (fun e=>by cases e) (fun _=>rfl) (fun i0 hx0=>Zs n emp i0 hn hf hm hx0) (fun i0 _=>SW n emp i0) (fun i0 _=>show∀ww∈E8 n emp i0,cy _ _ _ _ _ _ ww from (aG da (aG cg bG))) (Zt n emp hn hf hm) (SX n emp)) (fun h=>h) (fun h=>h)
def r35 (n:Net) (emp:List Bool):Bool:=(He n emp)
theorem xZ:dB [0] (aH 35)=[(0,.loop Ce)]:=by kernel_rfl
theorem Zu (n:Net) (emp:List Bool) (hn:bw n) (hf:bg n) (hm:length emp=length n.rules):ba pg 35 [.ag (aR n),.sl 1 (zBg emp)] [] [] (B (r35 n emp)) []:=
 bB (fn:=Tryz.f35) (callf:=base) (pu:=aO) (lf:=3000) (l:=[(0,Hf n emp)]) (t:=zh) aw mixed Tryz.func35 (by kernel_rfl) (show Tryz.f35.body=some (aH 35) by kernel_rfl) (Nat.le_of_ble_eq_true rfl) (bO (l:=[(0,Hf n emp)]) xZ (aV (SY n emp hn hf hm) rfl bn) rfl) rfl (aZ
 (an a0
 (an a0
 (an (kbT (Hf n emp) trivial) (brP (fun (h0:(He n emp)=true)=>
 (bE (show r35 n emp=true from h0))) (fun h0=>
 (an a0
 (bE (show r35 n emp=false from h0))))))))
 (by kernel_rfl))
noncomputable def tgC (e:Edge):List Int:=bif e.op !=2 then [] else [e.n]
theorem Wn {n:Net} (hn:bw n) {s:State} (hs:s∈n.aa) {e:Edge} (h:e∈s.aj): ∀x∈tgC e,0<=x/\x<(n.rules.length:Int):=by
 have hc:=hn.call _ hs _ h
 unfold tgC
 cases h2:e.op !=2 with
 |true=>simp
 |false=>
  have:=hc (by simpa using h2)
  simp [this]
def Cm:Code:=bV 0 (aH 36)
def E9:Code:=bV 2 Cm
def Cn:Code:=bV 4 E9
def Ju:Code:=bV 6 Cn
def Hh (n:Net) (i0:Nat) (_:Nat×(List Bool)×(List Int)) (i4:Nat) (_:Nat×(List Bool)×(List Int)) (i6:Nat) (y6:Nat×(List Bool)×(List Int)):Nat×(List Bool)×(List Int):=(bif (ah (ah n.aa i4).aj i6).op !=2 then (y6.1,y6.2.1,y6.2.2) else (bif !(ah y6.2.1 (((ah (ah n.aa i4).aj i6).n).toNat)) then (y6.1+1,List.set y6.2.1 (((ah (ah n.aa i4).aj i6).n).toNat) true,List.take y6.1 y6.2.2++ [(ah (ah n.aa i4).aj i6).n]) else (y6.1,y6.2.1,y6.2.2)))
def bz (n:Net) (i0:Nat) (w2:Nat×(List Bool)×(List Int)) (i4:Nat) (y4:Nat×(List Bool)×(List Int)) (kk:Nat):Nat×(List Bool)×(List Int):=Nat.rec (motive:=fun _=>Nat×(List Bool)×(List Int)) (y4.1,y4.2.1,y4.2.2) (fun j a=>Hh n i0 w2 i4 y4 j a) kk
theorem Fa (n:Net) (i0:Nat) (w2:fH) (i4:Nat) (y4:fH) (i6:Nat) (y:fH):Hh n i0 w2 i4 y4 i6 y=(tgC (ah (ah n.aa i4).aj i6)).foldl gb y:=by
 unfold Hh tgC
 obtain ⟨k,inb,todo⟩:=y
 cases Edge.op (ah (ah n.aa i4).aj i6) !=2<;>rfl
theorem SZ {n:Net} (hn:bw n) (i0:Nat) (w2:fH) (i4:Nat) (hi4:i4<n.aa.length) {y4:fH} (hy:SI n.rules.length n.rules.length y4) (i:Nat) (hi:i<=(ah n.aa i4).aj.length):SI n.rules.length n.rules.length (bz n i0 w2 i4 y4 i)/\2*cf (bz n i0 w2 i4 y4 i).2.1+(bz n i0 w2 i4 y4 i).1<=2*cf y4.2.1+y4.1:=by
 induction i with
 |zero=>exact ⟨hy,Nat.le_refl _⟩
 |succ i ih=>
  obtain ⟨h1,h2⟩:=ih (by omega)
  have hst:bz n i0 w2 i4 y4 (i+1)=Hh n i0 w2 i4 y4 i (bz n i0 w2 i4 y4 i):=rfl
  rw [hst,Fa]
  obtain ⟨h3,h4⟩:=SI.fold (tgC (ah (ah n.aa i4).aj i)) h1 (Wn hn (ay hi4) (ay (by omega)))
  exact ⟨h3,by omega⟩
def qa (n:Net) (i0:Nat) (w2:Nat×(List Bool)×(List Int)) (i4:Nat) (y4:Nat×(List Bool)×(List Int)) (i6:Nat):Am.Loc:=[(1,.pf (aR n)),(3,I (i0:Int)),(4,.sr 0 1 0 (zB n)),(5,.sr 1 1 0 ((bz n i0 w2 i4 y4 i6).1)),(6,I (zAe w2)),(7,I (i4:Int)),(8,I (i6:Int))]
def lE (n:Net) (i0:Nat) (w2:Nat×(List Bool)×(List Int)) (i4:Nat) (y4:Nat×(List Bool)×(List Int)) (i6:Nat):List Ob:=[.row 4 1 (map aq ((bz n i0 w2 i4 y4 i6).2.1)),.row 3 1 (map aL ((bz n i0 w2 i4 y4 i6).2.2))]
def oD (n:Net) (i0:Nat) (_:Nat×(List Bool)×(List Int)) (i4:Nat) (_:Nat×(List Bool)×(List Int)) (i6:Nat):Bool:=(!((ah (ah n.aa i4).aj i6).op !=2)&&((ah (ah n.aa i4).aj i6).n==(i0:Int)))
def yH (n:Net) (i0:Nat) (w2:Nat×(List Bool)×(List Int)) (i4:Nat) (y4:Nat×(List Bool)×(List Int)):Bool:=dh (length (ah n.aa i4).aj) (oD n i0 w2 i4 y4)
def rm (n:Net) (i0:Nat) (_:Nat×(List Bool)×(List Int)) (_:Nat) (_:Nat×(List Bool)×(List Int)) (_:Nat):Am.Loc:=[(2,B true)]
def rn (n:Net) (i0:Nat) (_:Nat×(List Bool)×(List Int)) (_:Nat) (_:Nat×(List Bool)×(List Int)) (_:Nat):List Ob:=[]
abbrev zAP (i4:Nat) (n:Net):=(length (ah n.aa i4).aj)
def mG (n:Net) (i0:Nat) (w2:Nat×(List Bool)×(List Int)) (i4:Nat) (y4:Nat×(List Bool)×(List Int)):Am.Loc:=[(1,.pf (aR n)),(3,I (i0:Int)),(4,.sr 0 1 0 (zB n)),(5,.sr 1 1 0 ((bz n i0 w2 i4 y4 (zAP i4 n)).1)),(6,I (zAe w2)),(7,I (i4:Int))]
def mH (n:Net) (i0:Nat) (w2:Nat×(List Bool)×(List Int)) (i4:Nat) (y4:Nat×(List Bool)×(List Int)):List Ob:=[.row 4 1 (map aq ((bz n i0 w2 i4 y4 (zAP i4 n)).2.1)),.row 3 1 (map aL ((bz n i0 w2 i4 y4 (zAP i4 n)).2.2))]
def Co (n:Net) (i0:Nat) (w2:Nat×(List Bool)×(List Int)) (i4:Nat) (y4:Nat×(List Bool)×(List Int)):KB:=⟨qa n i0 w2 i4 y4 0,lE n i0 w2 i4 y4 0,yH n i0 w2 i4 y4,.ret,rm n i0 w2 i4 y4 (cc (zAP i4 n) (oD n i0 w2 i4 y4)),rn n i0 w2 i4 y4 (cc (zAP i4 n) (oD n i0 w2 i4 y4)),.normal,mG n i0 w2 i4 y4,mH n i0 w2 i4 y4,True⟩
def xj (n:Net) (i0:Nat) (w2:Nat×(List Bool)×(List Int)) (i4:Nat) (y4:Nat×(List Bool)×(List Int)) (i6:Nat):List bj:=[nxW (oD n i0 w2 i4 y4 i6) (qa n i0 w2 i4 y4 (i6+1)) (lE n i0 w2 i4 y4 (i6+1)) [(1,.pf (aR n)),(3,I (i0:Int)),(4,.sr 0 1 0 (zB n)),(5,.sr 1 1 0 ((bz n i0 w2 i4 y4 i6).1)),(6,I (zAe w2)),(7,I (i4:Int)),(8,I ↑(i6+1))] zBJ [.row 4 1 (map aq ((bz n i0 w2 i4 y4 i6).2.1)),.row 3 1 (map aL ((bz n i0 w2 i4 y4 i6).2.2))],htW (oD n i0 w2 i4 y4 i6) .ret (rm n i0 w2 i4 y4 i6) za (rn n i0 w2 i4 y4 i6),nxW (oD n i0 w2 i4 y4 i6) (qa n i0 w2 i4 y4 (i6+1)) (lE n i0 w2 i4 y4 (i6+1)) [(1,.pf (aR n)),(3,I (i0:Int)),(4,.sr 0 1 0 (zB n)),(5,.sr 1 1 0 ((bz n i0 w2 i4 y4 i6).1+1)),(6,I (zAe w2)),(7,I (i4:Int)),(8,I ↑(i6+1))] [0,3] [.row 4 1 (map aq (List.set ((bz n i0 w2 i4 y4 i6).2.1) (((ah (ah n.aa i4).aj i6).n).toNat) true)),.row 3 1 (map aL (List.take ((bz n i0 w2 i4 y4 i6).1) ((bz n i0 w2 i4 y4 i6).2.2)++ [(ah (ah n.aa i4).aj i6).n]))]]
def XM (n:Net) (i0:Nat) (w2:Nat×(List Bool)×(List Int)) (i4:Nat) (y4:Nat×(List Bool)×(List Int)) (i6:Nat):GT:=(.r [.row (ak (ah n.aa i4)),.k,bT] (.yes (.r [.row (ak (ah n.aa i4)),.row (bc (ah (ah n.aa i4).aj i6)),bT] (.r [.k,bT] (.br (.r [.int ↑(i6+1),bT] (.pick 0)) (.r [.k,bT] (.br (.r [bT] (.pick 1)) (.r [.cC (((ah (ah n.aa i4).aj i6).n).toNat) [],.at (((ah (ah n.aa i4).aj i6).n).toNat) 0 (aq (ah ((bz n i0 w2 i4 y4 i6).2.1) (((ah (ah n.aa i4).aj i6).n).toNat))),bT] (.br (.r [.cC (((ah (ah n.aa i4).aj i6).n).toNat) [],.at (((ah (ah n.aa i4).aj i6).n).toNat) 0 (aq (ah ((bz n i0 w2 i4 y4 i6).2.1) (((ah (ah n.aa i4).aj i6).n).toNat))),bT] (.r [bT] (.r [.int ↑(i6+1),bT] (.pick 2)))) (.r [.int ↑(i6+1),bT] (.pick 0)))))))))))
theorem Zv (n:Net) (i0:Nat) (w2:Nat×(List Bool)×(List Int)) (i4:Nat) (y4:Nat×(List Bool)×(List Int)) (i6:Nat) (hn:bw n) (hf:bg n) (hx0:i0<(length n.rules)) (_:SI (length n.rules) (length n.rules+1) w2) (_:(zAN w2)=true) (hx4:i4<(length n.aa)) (hy4:SI (length n.rules) (length n.rules) y4) (hx6:i6<(length (ah n.aa i4).aj)):vcC pg 101 base aO 3000 (kbL []) Ju (bu (qa n i0 w2 i4 y4 i6)) (bA (lE n i0 w2 i4 y4 i6)) 2 (bQ (xj n i0 w2 i4 y4 i6)) (XM n i0 w2 i4 y4 i6):=
 have hr:=hf.rules;have hs:=hf.aa;have hm4:=ay hx4;have hel:=hf.aj _ hm4;have hca:=hn.call _ hm4 _ (ay hx6);have hsi:=(SZ hn i0 w2 i4 hx4 hy4 i6 (Nat.le_of_lt hx6)).1;have b1:=hsi.len;have b2:=hsi.kt;have b3:=hsi.bd;have l1:=aW bc ((ah n.aa i4).aj);have hb:(decide ((i6:Int)<(length (map bc (ah n.aa i4).aj):Int)))=true:=decide_eq_true (by omega);
 aZ (an (a1 (ac (bR ak (l:=n.aa) (i:=i4) (by omega)) a0))
 (an hb (an (ac (bR bc (l:=(ah n.aa i4).aj) (i:=i6) (by omega)) (ac (bR ak (l:=n.aa) (i:=i4) (by omega)) a0))
 (an (a1 a0)
 (brP (fun (h1:((ah (ah n.aa i4).aj i6).op !=2)=true)=>have g1:=KS h1;
 (an (ac (dwr (z:= ↑(i6+1)) (by omega) (by omega)) a0)
 (lf (wy (xj n i0 w2 i4 y4 i6) 0) 3 ⟨(show oD n i0 w2 i4 y4 i6=false from (aY (cx h1))),congrArg (fun y6:Nat×(List Bool)×(List Int)=>([(1,.pf (aR n)),(3,I (i0:Int)),(4,.sr 0 1 0 (length (map aD n.rules))),(5,.sr 1 1 0 y6.1),(6,I (ah w2.2.2 (w2.1-1))),(7,I (i4:Int)),(8,I ↑(i6+1))]:Am.Loc)) (show bz n i0 w2 i4 y4 (i6+1)=((bz n i0 w2 i4 y4 i6).1,(bz n i0 w2 i4 y4 i6).2.1,(bz n i0 w2 i4 y4 i6).2.2) from (cdT h1 rfl)).symm,(by rw [show lE n i0 w2 i4 y4 (i6+1)=(fun y6:Nat×(List Bool)×(List Int)=>([.row 4 1 (map aq y6.2.1),.row 3 1 (map aL y6.2.2)]:List Ob)) (bz n i0 w2 i4 y4 (i6+1)) from rfl,(show bz n i0 w2 i4 y4 (i6+1)=((bz n i0 w2 i4 y4 i6).1,(bz n i0 w2 i4 y4 i6).2.1,(bz n i0 w2 i4 y4 i6).2.2) from (cdT h1 rfl))])⟩))) (fun h1=>have q0:=(aE (au h1) rfl:oD n i0 w2 i4 y4 i6=_);have g1:=fO h1;
 (an (a1 a0)
 (brP (fun (h2:((ah (ah n.aa i4).aj i6).n==(i0:Int))=true)=>
 (an a0
 (lf (wy (xj n i0 w2 i4 y4 i6) 1) 3 (q0.trans h2)))) (fun h2=>
 (have l2:=aW aD (n.rules);an (ac (atL (S:=1) (f:=0) (z:=((ah (ah n.aa i4).aj i6).n).toNat) (rfl:map aq ((bz n i0 w2 i4 y4 i6).2.1)=map aq ((bz n i0 w2 i4 y4 i6).2.1)) (by decide) (by omega)) (ac (ixI (x:=(ah (ah n.aa i4).aj i6).n) (n:=length (map aD n.rules)) (by omega) (by omega)) a0))
 (brP (fun (h3:(!(ah ((bz n i0 w2 i4 y4 i6).2.1) (((ah (ah n.aa i4).aj i6).n).toNat)))=true)=>
 (an (ac (stL (S:=1) (f:=0) (k:=1) (z:=((ah (ah n.aa i4).aj i6).n).toNat) (rfl:map aq ((bz n i0 w2 i4 y4 i6).2.1)=map aq ((bz n i0 w2 i4 y4 i6).2.1)) (by decide) (by omega) rfl) (ac (ixI (x:=(ah (ah n.aa i4).aj i6).n) (n:=length (map aD n.rules)) (by omega) (by omega)) a0))
 (an (ac (apL (k:=(bz n i0 w2 i4 y4 i6).1) (B:=8) (rfl:map aL ((bz n i0 w2 i4 y4 i6).2.2)=map aL ((bz n i0 w2 i4 y4 i6).2.2)) (by first|omega|(simp only [List.length_map,List.length_set,List.length_append,List.length_take,List.length_cons,List.length_nil];omega)) (by omega) (by omega)) a0)
 (an (ac (dwr (z:= ↑(i6+1)) (by omega) (by omega)) a0)
 (lfE (wy (xj n i0 w2 i4 y4 i6) 2) 4 ⟨(q0.trans h2),congrArg (fun y6:Nat×(List Bool)×(List Int)=>([(1,.pf (aR n)),(3,I (i0:Int)),(4,.sr 0 1 0 (length (map aD n.rules))),(5,.sr 1 1 0 y6.1),(6,I (ah w2.2.2 (w2.1-1))),(7,I (i4:Int)),(8,I ↑(i6+1))]:Am.Loc)) (show bz n i0 w2 i4 y4 (i6+1)=((bz n i0 w2 i4 y4 i6).1+1,List.set ((bz n i0 w2 i4 y4 i6).2.1) (((ah (ah n.aa i4).aj i6).n).toNat) true,List.take ((bz n i0 w2 i4 y4 i6).1) ((bz n i0 w2 i4 y4 i6).2.2)++ [(ah (ah n.aa i4).aj i6).n]) from (cdF h1 (cdT h3 rfl))).symm,(by rw [show lE n i0 w2 i4 y4 (i6+1)=(fun y6:Nat×(List Bool)×(List Int)=>([.row 4 1 (map aq y6.2.1),.row 3 1 (map aL y6.2.2)]:List Ob)) (bz n i0 w2 i4 y4 (i6+1)) from rfl,(show bz n i0 w2 i4 y4 (i6+1)=((bz n i0 w2 i4 y4 i6).1+1,List.set ((bz n i0 w2 i4 y4 i6).2.1) (((ah (ah n.aa i4).aj i6).n).toNat) true,List.take ((bz n i0 w2 i4 y4 i6).1) ((bz n i0 w2 i4 y4 i6).2.2)++ [(ah (ah n.aa i4).aj i6).n]) from (cdF h1 (cdT h3 rfl)))])⟩ (bp (congrArg (fun z=>Ob.row 4 1 z) (lz (f:=aq) (rfl:map aq ((bz n i0 w2 i4 y4 i6).2.1)=map aq ((bz n i0 w2 i4 y4 i6).2.1)) (((ah (ah n.aa i4).aj i6).n).toNat) true)) (bp (congrArg (fun z=>Ob.row 3 1 z) (apT (f:=aL) (rfl:map aL ((bz n i0 w2 i4 y4 i6).2.2)=map aL ((bz n i0 w2 i4 y4 i6).2.2)) ((bz n i0 w2 i4 y4 i6).1) (ah (ah n.aa i4).aj i6).n)) eR))))))) (fun h3=>
 (an (ac (dwr (z:= ↑(i6+1)) (by omega) (by omega)) a0)
 (lf (wy (xj n i0 w2 i4 y4 i6) 0) 3 ⟨(q0.trans h2),congrArg (fun y6:Nat×(List Bool)×(List Int)=>([(1,.pf (aR n)),(3,I (i0:Int)),(4,.sr 0 1 0 (length (map aD n.rules))),(5,.sr 1 1 0 y6.1),(6,I (ah w2.2.2 (w2.1-1))),(7,I (i4:Int)),(8,I ↑(i6+1))]:Am.Loc)) (show bz n i0 w2 i4 y4 (i6+1)=((bz n i0 w2 i4 y4 i6).1,(bz n i0 w2 i4 y4 i6).2.1,(bz n i0 w2 i4 y4 i6).2.2) from (cdF h1 (cdF h3 rfl))).symm,(by rw [show lE n i0 w2 i4 y4 (i6+1)=(fun y6:Nat×(List Bool)×(List Int)=>([.row 4 1 (map aq y6.2.1),.row 3 1 (map aL y6.2.2)]:List Ob)) (bz n i0 w2 i4 y4 (i6+1)) from rfl,(show bz n i0 w2 i4 y4 (i6+1)=((bz n i0 w2 i4 y4 i6).1,(bz n i0 w2 i4 y4 i6).2.1,(bz n i0 w2 i4 y4 i6).2.2) from (cdF h1 (cdF h3 rfl)))])⟩))))))))))))))
 (by kernel_rfl)
theorem Zw (n:Net) (i0:Nat) (w2:Nat×(List Bool)×(List Int)) (i4:Nat) (y4:Nat×(List Bool)×(List Int)) (_:bw n) (hf:bg n) (_:i0<(length n.rules)) (_:SI (length n.rules) (length n.rules+1) w2) (_:(zAN w2)=true) (hx4:i4<(length n.aa)) (_:SI (length n.rules) (length n.rules) y4):vcC pg 101 base aO 3000 (kbL []) Ju (bu (qa n i0 w2 i4 y4 (zAP i4 n))) (bA (lE n i0 w2 i4 y4 (zAP i4 n))) 2 (bQ [⟨True,(.exit 6),mG n i0 w2 i4 y4,range 2,mH n i0 w2 i4 y4⟩]) (.r [.row (ak (ah n.aa i4)),.k,bT] (.no (.pick 0))):=
 have hr:=hf.rules;have hs:=hf.aa;have hm4:=ay hx4;have hel:=hf.aj _ hm4;have l1:=aW bc ((ah n.aa i4).aj);have hb:(decide ((((length (ah n.aa i4).aj):Nat):Int)<(length (map bc (ah n.aa i4).aj):Int)))=false:=decide_eq_false (by omega);
 aZ (an (a1 (ac (bR ak (l:=n.aa) (i:=i4) (by omega)) a0))
 (an hb (lf (wy [⟨True,(.exit 6),mG n i0 w2 i4 y4,range 2,mH n i0 w2 i4 y4⟩] 0) 2 trivial)))
 (by kernel_rfl)
theorem S0 (n:Net) (i0:Nat) (w2:Nat×(List Bool)×(List Int)) (i4:Nat) (y4:Nat×(List Bool)×(List Int)) (i6:Nat):(xj n i0 w2 i4 y4 i6).all zr=true:=by refine (aF (aQ rfl rfl rfl ?_ ?_) (aF (aQ rfl rfl rfl ?_ ?_) (aF (aQ rfl rfl rfl ?_ ?_) bD)))<;>simp (maxDischargeDepth:=9) [nxW,htW,qa,rm,plS,AV.pure,ai,lE,rn,plO]
theorem S1 (n:Net) (i0:Nat) (w2:Nat×(List Bool)×(List Int)) (i4:Nat) (y4:Nat×(List Bool)×(List Int)):bj.b8 0 ⟨True,(.exit 6),mG n i0 w2 i4 y4,range 2,mH n i0 w2 i4 y4⟩=true:=by refine (aQ rfl rfl rfl ?_ ?_)<;>simp (maxDischargeDepth:=9) [mG,plS,AV.pure,mH,plO]
theorem S3 (n:Net) (i0:Nat) (w2:Nat×(List Bool)×(List Int)) (i4:Nat) (y4:Nat×(List Bool)×(List Int)) (hn:bw n) (hf:bg n) (hx0:i0<(length n.rules)) (hw2:SI (length n.rules) (length n.rules+1) w2) (hp4:(zAN w2)=true) (hx4:i4<(length n.aa)) (hy4:SI (length n.rules) (length n.rules) y4):dg pg 101 0 6 (.loop Ju) (Co n i0 w2 i4 y4):=
 have hr:=hf.rules;have hs:=hf.aa;bZ (fun _=>e9 (id:=6) (m:=length (ah n.aa i4).aj) (t:=oD n i0 w2 i4 y4) (xr:= .ret) (xn:=(.exit 6)) (Lr:=rm n i0 w2 i4 y4) (Lx:=mG n i0 w2 i4 y4) (obr:=rn n i0 w2 i4 y4) (obx:=mH n i0 w2 i4 y4) (V:=fun i6=>vcC pg 101 base aO 3000 (kbL []) Ju) (qa n i0 w2 i4 y4) (lE n i0 w2 i4 y4) 2 (xj n i0 w2 i4 y4) (XM n i0 w2 i4 y4) _ _ (fun i6 hx6=>aS aw mixed (az _)) (aS aw mixed (az _)) (fun e=>by cases e) (fun e=>by cases e) (fun _=>rfl) (fun i6 hx6=>Zv n i0 w2 i4 y4 i6 hn hf hx0 hw2 hp4 hx4 hy4 hx6) (fun i6 _=>S0 n i0 w2 i4 y4 i6) (fun i6 _=>show∀ww∈xj n i0 w2 i4 y4 i6,cy _ _ _ _ _ _ ww from (aG cg (aG da (aG cg bG)))) (Zw n i0 w2 i4 y4 hn hf hx0 hw2 hp4 hx4 hy4) (S1 n i0 w2 i4 y4)) (fun h=>h) (fun h=>h)
def Cp (n:Net) (i0:Nat) (w2:Nat×(List Bool)×(List Int)) (i4:Nat) (y4:Nat×(List Bool)×(List Int)):Nat×(List Bool)×(List Int):=(bif (ah n.aa i4).aK !=(ah w2.2.2 (w2.1-1)) then (y4.1,y4.2.1,y4.2.2) else ((bz n i0 w2 i4 y4 (length (ah n.aa i4).aj)).1,(bz n i0 w2 i4 y4 (length (ah n.aa i4).aj)).2.1,(bz n i0 w2 i4 y4 (length (ah n.aa i4).aj)).2.2))
def b0 (n:Net) (i0:Nat) (w2:Nat×(List Bool)×(List Int)) (kk:Nat):Nat×(List Bool)×(List Int):=Nat.rec (motive:=fun _=>Nat×(List Bool)×(List Int)) (w2.1-1,w2.2.1,w2.2.2) (fun j a=>Cp n i0 w2 j a) kk
theorem LC {n:Net} (hn:bw n) (i0:Nat) {w2:fH} (hw:SI n.rules.length (n.rules.length+1) w2) (i:Nat) (hi:i<=n.aa.length):SI n.rules.length n.rules.length (b0 n i0 w2 i)/\2*cf (b0 n i0 w2 i).2.1+(b0 n i0 w2 i).1<=2*cf w2.2.1+(w2.1-1):=by
 induction i with
 |zero=>exact ⟨hw.pop,Nat.le_refl _⟩
 |succ i ih=>
  obtain ⟨h1,h2⟩:=ih (by omega)
  have hst:b0 n i0 w2 (i+1)=Cp n i0 w2 i (b0 n i0 w2 i):=rfl
  obtain ⟨h3,h4⟩:=SZ hn i0 w2 i (by omega) h1 _ (Nat.le_refl _)
  rw [hst]
  unfold Cp
  cases State.aK (ah n.aa i) !=ah w2.2.2 (w2.1-1) with
  |true=>exact ⟨h1,h2⟩
  |false=>exact ⟨h3,Nat.le_trans h4 h2⟩
def qb (n:Net) (i0:Nat) (w2:Nat×(List Bool)×(List Int)) (i4:Nat):Am.Loc:=[(1,.pf (aR n)),(3,I (i0:Int)),(4,.sr 0 1 0 (zB n)),(5,.sr 1 1 0 ((b0 n i0 w2 i4).1)),(6,I (zAe w2)),(7,I (i4:Int))]
def mY (n:Net) (i0:Nat) (w2:Nat×(List Bool)×(List Int)) (i4:Nat):List Ob:=[.row 4 1 (map aq ((b0 n i0 w2 i4).2.1)),.row 3 1 (map aL ((b0 n i0 w2 i4).2.2))]
def mZ (n:Net) (i0:Nat) (w2:Nat×(List Bool)×(List Int)) (i4:Nat):Bool:=(!((ah n.aa i4).aK !=(ah w2.2.2 (w2.1-1)))&&(yH n i0 w2 i4 (b0 n i0 w2 i4)))
def yI (n:Net) (i0:Nat) (w2:Nat×(List Bool)×(List Int)):Bool:=dh (length n.aa) (mZ n i0 w2)
def rp (n:Net) (i0:Nat) (_:Nat×(List Bool)×(List Int)) (_:Nat):Am.Loc:=[(2,B true)]
def rq (n:Net) (i0:Nat) (_:Nat×(List Bool)×(List Int)) (_:Nat):List Ob:=[]
def mI (n:Net) (i0:Nat) (w2:Nat×(List Bool)×(List Int)):Am.Loc:=[(1,.pf (aR n)),(3,I (i0:Int)),(4,.sr 0 1 0 (zB n)),(5,.sr 1 1 0 ((b0 n i0 w2 (zG n)).1))]
def mJ (n:Net) (i0:Nat) (w2:Nat×(List Bool)×(List Int)):List Ob:=[.row 4 1 (map aq ((b0 n i0 w2 (zG n)).2.1)),.row 3 1 (map aL ((b0 n i0 w2 (zG n)).2.2))]
def Cq (n:Net) (i0:Nat) (w2:Nat×(List Bool)×(List Int)):KB:=⟨qb n i0 w2 0,mY n i0 w2 0,yI n i0 w2,.ret,rp n i0 w2 (cc (zG n) (mZ n i0 w2)),rq n i0 w2 (cc (zG n) (mZ n i0 w2)),.normal,mI n i0 w2,mJ n i0 w2,(zAN w2)=true⟩
def Cr (n:Net) (i0:Nat) (w2:Nat×(List Bool)×(List Int)) (i4:Nat):List bj:=[nxW (mZ n i0 w2 i4) (qb n i0 w2 (i4+1)) (mY n i0 w2 (i4+1)) [(1,.pf (aR n)),(3,I (i0:Int)),(4,.sr 0 1 0 (zB n)),(5,.sr 1 1 0 ((b0 n i0 w2 i4).1)),(6,I (zAe w2)),(7,I ↑(i4+1))] zBJ [.row 4 1 (map aq ((b0 n i0 w2 i4).2.1)),.row 3 1 (map aL ((b0 n i0 w2 i4).2.2))],htW (mZ n i0 w2 i4) .ret (rp n i0 w2 i4) za (rq n i0 w2 i4),nxW (mZ n i0 w2 i4) (qb n i0 w2 (i4+1)) (mY n i0 w2 (i4+1)) [(1,.pf (aR n)),(3,I (i0:Int)),(4,.sr 0 1 0 (zB n)),(5,.sr 1 1 0 ((bz n i0 w2 i4 (b0 n i0 w2 i4) (zAP i4 n)).1)),(6,I (zAe w2)),(7,I ↑(i4+1))] zBJ [.row 4 1 (map aq ((bz n i0 w2 i4 (b0 n i0 w2 i4) (zAP i4 n)).2.1)),.row 3 1 (map aL ((bz n i0 w2 i4 (b0 n i0 w2 i4) (zAP i4 n)).2.2))]]
def XN (n:Net) (i0:Nat) (_:Nat×(List Bool)×(List Int)) (i4:Nat):GT:=(.r [.k,bT] (.yes (.r [.row (ak (ah n.aa i4)),.k,bT] (.br (.r [.int ↑(i4+1),bT] (.pick 0)) (.r [bT] (.br (.pick 1) (.r [.int ↑(i4+1),bT] (.pick 2))))))))
theorem Zx (n:Net) (i0:Nat) (w2:Nat×(List Bool)×(List Int)) (i4:Nat) (_:bw n) (hf:bg n) (_:i0<(length n.rules)) (hw2:SI (length n.rules) (length n.rules+1) w2) (hp4:(zAN w2)=true) (hx4:i4<(length n.aa)):vcC pg 101 base aO 3000 (kbL [(6,Co n i0 w2 i4 (b0 n i0 w2 i4))]) Cn (bu (qb n i0 w2 i4)) (bA (mY n i0 w2 i4)) 2 (bQ (Cr n i0 w2 i4)) (XN n i0 w2 i4):=
 have hr:=hf.rules;have hs:=hf.aa;have gp0:=of_decide_eq_true hp4;have hk2:=hw2.kt;have hl2:=hw2.len;have hb2:=hw2.bd;have hs2:0<w2.1->(0<=ah w2.2.2 (w2.1-1)/\ah w2.2.2 (w2.1-1)<(length n.rules:Int)):=fun h=>hw2.rng _ (ay (by omega));have l1:=aW ak (n.aa);have hb:(decide ((i4:Int)<(length (map ak n.aa):Int)))=true:=decide_eq_true (by omega);
 aZ (an (a1 a0)
 (an hb (an (a1 (ac (bR ak (l:=n.aa) (i:=i4) (by omega)) a0))
 (brP (fun (h1:((ah n.aa i4).aK !=(ah w2.2.2 (w2.1-1)))=true)=>
 (an (ac (dwr (z:= ↑(i4+1)) (by omega) (by omega)) a0)
 (lf (wy (Cr n i0 w2 i4) 0) 2 ⟨(show mZ n i0 w2 i4=false from (aY (cx h1))),congrArg (fun y4:Nat×(List Bool)×(List Int)=>([(1,.pf (aR n)),(3,I (i0:Int)),(4,.sr 0 1 0 (length (map aD n.rules))),(5,.sr 1 1 0 y4.1),(6,I (ah w2.2.2 (w2.1-1))),(7,I ↑(i4+1))]:Am.Loc)) (show b0 n i0 w2 (i4+1)=((b0 n i0 w2 i4).1,(b0 n i0 w2 i4).2.1,(b0 n i0 w2 i4).2.2) from (cdT h1 rfl)).symm,(by rw [show mY n i0 w2 (i4+1)=(fun y4:Nat×(List Bool)×(List Int)=>([.row 4 1 (map aq y4.2.1),.row 3 1 (map aL y4.2.2)]:List Ob)) (b0 n i0 w2 (i4+1)) from rfl,(show b0 n i0 w2 (i4+1)=((b0 n i0 w2 i4).1,(b0 n i0 w2 i4).2.1,(b0 n i0 w2 i4).2.2) from (cdT h1 rfl))])⟩))) (fun h1=>
 (an a0
 (an (kbT (Co n i0 w2 i4 (b0 n i0 w2 i4)) trivial) (brP (fun (h2:(yH n i0 w2 i4 (b0 n i0 w2 i4))=true)=>
 (lf (wy (Cr n i0 w2 i4) 1) 0 (show mZ n i0 w2 i4=true from (aE (au h1) h2)))) (fun h2=>
 (an (ac (dwr (z:= ↑(i4+1)) (by omega) (by omega)) a0)
 (lf (wy (Cr n i0 w2 i4) 2) 2 ⟨(show mZ n i0 w2 i4=false from (aE (au h1) h2)),congrArg (fun y4:Nat×(List Bool)×(List Int)=>([(1,.pf (aR n)),(3,I (i0:Int)),(4,.sr 0 1 0 (length (map aD n.rules))),(5,.sr 1 1 0 y4.1),(6,I (ah w2.2.2 (w2.1-1))),(7,I ↑(i4+1))]:Am.Loc)) (show b0 n i0 w2 (i4+1)=((bz n i0 w2 i4 (b0 n i0 w2 i4) (length (ah n.aa i4).aj)).1,(bz n i0 w2 i4 (b0 n i0 w2 i4) (length (ah n.aa i4).aj)).2.1,(bz n i0 w2 i4 (b0 n i0 w2 i4) (length (ah n.aa i4).aj)).2.2) from (cdF h1 rfl)).symm,(by rw [show mY n i0 w2 (i4+1)=(fun y4:Nat×(List Bool)×(List Int)=>([.row 4 1 (map aq y4.2.1),.row 3 1 (map aL y4.2.2)]:List Ob)) (b0 n i0 w2 (i4+1)) from rfl,(show b0 n i0 w2 (i4+1)=((bz n i0 w2 i4 (b0 n i0 w2 i4) (length (ah n.aa i4).aj)).1,(bz n i0 w2 i4 (b0 n i0 w2 i4) (length (ah n.aa i4).aj)).2.1,(bz n i0 w2 i4 (b0 n i0 w2 i4) (length (ah n.aa i4).aj)).2.2) from (cdF h1 rfl))])⟩)))))))))))
 (by kernel_rfl)
theorem Zy (n:Net) (i0:Nat) (w2:Nat×(List Bool)×(List Int)) (_:bw n) (hf:bg n) (_:i0<(length n.rules)) (hw2:SI (length n.rules) (length n.rules+1) w2) (hp4:(zAN w2)=true):vcC pg 101 base aO 3000 (kbL []) Cn (bu (qb n i0 w2 (zG n))) (bA (mY n i0 w2 (zG n))) 2 (bQ [⟨True,(.exit 4),mI n i0 w2,range 2,mJ n i0 w2⟩]) zE:=
 have hr:=hf.rules;have hs:=hf.aa;have gp0:=of_decide_eq_true hp4;have hk2:=hw2.kt;have hl2:=hw2.len;have hb2:=hw2.bd;have hs2:0<w2.1->(0<=ah w2.2.2 (w2.1-1)/\ah w2.2.2 (w2.1-1)<(length n.rules:Int)):=fun h=>hw2.rng _ (ay (by omega));have l1:=aW ak (n.aa);have hb:(zO n)=false:=decide_eq_false (by omega);
 aZ (an (a1 a0)
 (an hb (lf (wy [⟨True,(.exit 4),mI n i0 w2,range 2,mJ n i0 w2⟩] 0) 2 trivial)))
 (by kernel_rfl)
theorem S4 (n:Net) (i0:Nat) (w2:Nat×(List Bool)×(List Int)) (i4:Nat):(Cr n i0 w2 i4).all zr=true:=by refine (aF (aQ rfl rfl rfl ?_ ?_) (aF (aQ rfl rfl rfl ?_ ?_) (aF (aQ rfl rfl rfl ?_ ?_) bD)))<;>simp (maxDischargeDepth:=9) [nxW,htW,qb,rp,plS,AV.pure,mY,rq,plO]
theorem S5 (n:Net) (i0:Nat) (w2:Nat×(List Bool)×(List Int)):bj.b8 0 ⟨True,(.exit 4),mI n i0 w2,range 2,mJ n i0 w2⟩=true:=by refine (aQ rfl rfl rfl ?_ ?_)<;>simp (maxDischargeDepth:=9) [mI,plS,AV.pure,mJ,plO]
theorem Hi:dB [6] Cn=[(6,.loop Ju)]:=by kernel_rfl
theorem S6 (n:Net) (i0:Nat) (w2:Nat×(List Bool)×(List Int)) (hn:bw n) (hf:bg n) (hx0:i0<(length n.rules)) (hw2:SI (length n.rules) (length n.rules+1) w2):dg pg 101 0 4 (.loop Cn) (Cq n i0 w2):=
 have hr:=hf.rules;have hs:=hf.aa;bZ (fun hp4=>e9 (id:=4) (m:=length n.aa) (t:=mZ n i0 w2) (xr:= .ret) (xn:=(.exit 4)) (Lr:=rp n i0 w2) (Lx:=mI n i0 w2) (obr:=rq n i0 w2) (obx:=mJ n i0 w2) (V:=fun i4=>vcC pg 101 base aO 3000 (kbL [(6,Co n i0 w2 i4 (b0 n i0 w2 i4))]) Cn) (qb n i0 w2) (mY n i0 w2) 2 (Cr n i0 w2) (XN n i0 w2) _ _ (fun i4 hx4=>aS aw mixed (bO (l:=[(6,Co n i0 w2 i4 (b0 n i0 w2 i4))]) Hi (aV (S3 n i0 w2 i4 (b0 n i0 w2 i4) hn hf hx0 hw2 hp4 hx4 (LC hn i0 hw2 i4 (Nat.le_of_lt hx4)).1) rfl bn) rfl)) (aS aw mixed (az _)) (fun e=>by cases e) (fun e=>by cases e) (fun _=>rfl) (fun i4 hx4=>Zx n i0 w2 i4 hn hf hx0 hw2 hp4 hx4) (fun i4 _=>S4 n i0 w2 i4) (fun i4 _=>show∀ww∈Cr n i0 w2 i4,cy _ _ _ _ _ _ ww from (aG cg (aG da (aG cg bG)))) (Zy n i0 w2 hn hf hx0 hw2 hp4) (S5 n i0 w2)) (fun h=>h) (fun h=>h)
def vB (n:Net) (i0:Nat) (w2:Nat×(List Bool)×(List Int)):Nat×(List Bool)×(List Int):=((b0 n i0 w2 (length n.aa)).1,(b0 n i0 w2 (length n.aa)).2.1,(b0 n i0 w2 (length n.aa)).2.2)
def dz (n:Net) (i0 kk:Nat):Nat×(List Bool)×(List Int):=Nat.rec (motive:=fun _=>Nat×(List Bool)×(List Int)) (1,replicate (length (map aD n.rules)) false,[(i0:Int)]) (fun _ a=>vB n i0 a) kk
def iY (n:Net) (i0:Nat) (w2:Nat×(List Bool)×(List Int)):Bool:=(bif decide (((w2.1:Nat):Int)>0) then (yI n i0 w2) else true)
def tE (n:Net) (i0:Nat) (w2:Nat×(List Bool)×(List Int)):Bool:=(decide (((w2.1:Nat):Int)>0))
def qc (n:Net) (i0:Nat):Nat×(List Bool)×(List Int):=dz n i0 (dX (iY n i0) (dz n i0))
theorem S7 {n:Net} (hn:bw n) (i0:Nat) (hi:i0<n.rules.length): ∀k,SI n.rules.length (n.rules.length+1) (dz n i0 k)
 |0=>⟨by show (replicate _ _).length=_;simp,Nat.le_refl _,fun x hx=>by
   have hx:x∈ [(i0:Int)]:=hx
   simp only [List.mem_singleton] at hx
   omega,by
   show 1+cf (replicate _ _)<=_
   have:=SJ (replicate (length (map aD n.rules)) false)
   simp only [List.length_replicate,List.length_map] at this⊢
   omega⟩
 |k+1=>(LC hn i0 (S7 hn i0 hi k) _ (Nat.le_refl _)).1.up (Nat.le_succ _)
theorem S8 {n:Net} (hn:bw n) (i0:Nat) (hi:i0<n.rules.length):(∃k,iY n i0 (dz n i0 k)=true)/\ ∀k,k<=dX (iY n i0) (dz n i0)->SI n.rules.length (n.rules.length+1) (dz n i0 k):=by
 refine ⟨?_,fun k _=>S7 hn i0 hi k⟩
 by_cases h: ∃k,iY n i0 (dz n i0 k)=true
 ·exact h
 ·have h: ∀k,0<(dz n i0 k).1:=fun k=>by
   have hk:iY n i0 (dz n i0 k)≠true:=fun e=>h ⟨k,e⟩
   by_cases h0:0<(dz n i0 k).1
   ·exact h0
   ·refine absurd ?_ hk
    unfold iY
    rw [show decide ((((dz n i0 k).1:Nat):Int)>0)=false from decide_eq_false (by omega)]
    rfl
  have key: ∀k,2*cf (dz n i0 k).2.1+(dz n i0 k).1+k<=2*cf (dz n i0 0).2.1+(dz n i0 0).1:=fun k=>by
   induction k with
   |zero=>exact Nat.le_refl _
   |succ k ih=>
    have h1:=(LC hn i0 (S7 hn i0 hi k) _ (Nat.le_refl _)).2
    have h2:=h k
    have h3:dz n i0 (k+1)=b0 n i0 (dz n i0 k) n.aa.length:=rfl
    rw [h3]
    omega
  have:=key (2*cf (dz n i0 0).2.1+(dz n i0 0).1+1)
  omega
def Cs (n:Net) (i0:Nat) (w2:Nat×(List Bool)×(List Int)):Am.Loc:=[(1,.pf (aR n)),(3,I (i0:Int)),(4,.sr 0 1 0 (zB n)),(5,.sr 1 1 0 w2.1)]
def vC (n:Net) (i0:Nat) (_:Nat×(List Bool)×(List Int)):Am.Loc:=[(2,B true)]
def vD (n:Net) (i0:Nat) (_:Nat×(List Bool)×(List Int)):Am.Loc:=(zAu i0 n)
def Ct (n:Net) (i0:Nat) (w2:Nat×(List Bool)×(List Int)):List Ob:=[.row 4 1 (map aq w2.2.1),.row 3 1 (map aL w2.2.2)]
def vF (n:Net) (i0:Nat) (_:Nat×(List Bool)×(List Int)):List Ob:=[]
def vG (n:Net) (i0:Nat) (w2:Nat×(List Bool)×(List Int)):List Ob:=[.row 4 1 (map aq w2.2.1),.row 3 1 (map aL w2.2.2)]
def vH (n:Net) (i0:Nat):KB:=⟨Cs n i0 (dz n i0 0),Ct n i0 (dz n i0 0),tE n i0 (qc n i0),.ret,vC n i0 (qc n i0),vF n i0 (qc n i0),.normal,vD n i0 (qc n i0),vG n i0 (qc n i0),(∃k,iY n i0 (dz n i0 k)=true)/\ ∀k,k<=dX (iY n i0) (dz n i0)->SI (zU n) (length n.rules+1) (dz n i0 k)⟩
def Cu (n:Net) (i0:Nat) (w2:Nat×(List Bool)×(List Int)):List bj:=[whW (iY n i0 w2) (tE n i0 w2) .ret (vC n i0 w2) za (vF n i0 w2),nxW (iY n i0 w2) (Cs n i0 (vB n i0 w2)) (Ct n i0 (vB n i0 w2)) [(1,.pf (aR n)),(3,I (i0:Int)),(4,.sr 0 1 0 (zB n)),(5,.sr 1 1 0 ((b0 n i0 w2 (zG n)).1))] zBJ [.row 4 1 (map aq ((b0 n i0 w2 (zG n)).2.1)),.row 3 1 (map aL ((b0 n i0 w2 (zG n)).2.2))],wxW (iY n i0 w2) (tE n i0 w2) (.exit 2) (vD n i0 w2) zBJ (vG n i0 w2)]
def XO (n:Net) (i0:Nat) (w2:Nat×(List Bool)×(List Int)):GT:=(.r [.k,bT] (.br (.r [.int ((w2.1-1:Nat):Int),.at (w2.1-1) 0 (aL (ah w2.2.2 (w2.1-1))),bT] (.r [.int ((w2.1-1:Nat):Int),bT] (.r [bT] (.br (.pick 0) (.pick 1))))) (.pick 2)))
theorem Zz (n:Net) (i0:Nat) (w2:Nat×(List Bool)×(List Int)) (_:bw n) (hf:bg n) (hx0:i0<(length n.rules)) (hw2:SI (length n.rules) (length n.rules+1) w2):vcC pg 101 base aO 3000 (kbL [(4,Cq n i0 w2)]) E9 (bu (Cs n i0 w2)) (bA (Ct n i0 w2)) 2 (bQ (Cu n i0 w2)) (XO n i0 w2):=
 have hr:=hf.rules;have hs:=hf.aa;have hk2:=hw2.kt;have hl2:=hw2.len;have hb2:=hw2.bd;have hs2:0<w2.1->(0<=ah w2.2.2 (w2.1-1)/\ah w2.2.2 (w2.1-1)<(length n.rules:Int)):=fun h=>hw2.rng _ (ay (by omega));aZ (an (a1 a0)
 (brP (fun (h0:(zAN w2)=true)=>have g0:=of_decide_eq_true h0;
 (an (ac (atL (S:=1) (f:=0) (z:=w2.1-1) (rfl:map aL w2.2.2=map aL w2.2.2) (by decide) (by omega)) (ac (ixL (z:=w2.1-1) (n:=w2.1) (by omega)) (ac (dws (k:=w2.1) (by omega) (by omega)) a0)))
 (an (ac (slA (p:=0) (q:=w2.1-1) (l:=w2.1) (by omega) (by omega)) (ac (dws (k:=w2.1) (by omega) (by omega)) a0))
 (an a0
 (an (kbT (Cq n i0 w2) h0) (brP (fun (h1:(yI n i0 w2)=true)=>
 (lf (wy (Cu n i0 w2) 0) 0 ⟨show iY n i0 w2=true from (cdT h0 h1),show tE n i0 w2=true from h0⟩)) (fun h1=>
 (lf (wy (Cu n i0 w2) 1) 2 ⟨show iY n i0 w2=false from (cdT h0 h1),congrArg (fun y2:Nat×(List Bool)×(List Int)=>([(1,.pf (aR n)),(3,I (i0:Int)),(4,.sr 0 1 0 (length (map aD n.rules))),(5,.sr 1 1 0 y2.1)]:Am.Loc)) (show (vB n i0 w2)=((b0 n i0 w2 (length n.aa)).1,(b0 n i0 w2 (length n.aa)).2.1,(b0 n i0 w2 (length n.aa)).2.2) from rfl).symm,congrArg (fun y2:Nat×(List Bool)×(List Int)=>([.row 4 1 (map aq y2.2.1),.row 3 1 (map aL y2.2.2)]:List Ob)) (show (vB n i0 w2)=((b0 n i0 w2 (length n.aa)).1,(b0 n i0 w2 (length n.aa)).2.1,(b0 n i0 w2 (length n.aa)).2.2) from rfl).symm⟩)))))))) (fun h0=>
 (lf (wy (Cu n i0 w2) 2) 2 ⟨show iY n i0 w2=true from (cdF h0 rfl),show tE n i0 w2=false from h0⟩))))
 (by kernel_rfl)
theorem S9 (n:Net) (i0:Nat) (w2:Nat×(List Bool)×(List Int)):(Cu n i0 w2).all zr=true:=by refine (aF (aQ rfl rfl rfl ?_ ?_) (aF (aQ rfl rfl rfl ?_ ?_) (aF (aQ rfl rfl rfl ?_ ?_) bD)))<;>simp (maxDischargeDepth:=9) [nxW,whW,wxW,Cs,vC,vD,plS,AV.pure,Ct,vF,vG,plO]
theorem Hj:dB [4] E9=[(4,.loop Cn)]:=by kernel_rfl
theorem Ta (n:Net) (i0:Nat) (hn:bw n) (hf:bg n) (hx0:i0<(length n.rules)):dg pg 101 0 2 (.loop E9) (vH n i0):=
 have hr:=hf.rules;have hs:=hf.aa;bZ (fun hp2=>BY (id:=2) (t:=iY n i0) (hit:=tE n i0) (it:=dz n i0) (step:=vB n i0) (fun _=>rfl) (I:=fun w2=>SI (length n.rules) (length n.rules+1) w2) (xr:= .ret) (xn:=(.exit 2)) (Lr:=vC n i0) (Lx:=vD n i0) (obr:=vF n i0) (obx:=vG n i0) (V:=fun w2=>vcC pg 101 base aO 3000 (kbL [(4,Cq n i0 w2)]) E9) (Cs n i0) (Ct n i0) 2 (Cu n i0) (XO n i0) (fun w2 hw2=>aS aw mixed (bO (l:=[(4,Cq n i0 w2)]) Hj (aV (S6 n i0 w2 hn hf hx0 hw2) rfl bn) rfl)) (fun e=>by cases e) (fun e=>by cases e) (fun _=>rfl) (fun w2 hw2=>Zz n i0 w2 hn hf hx0 hw2) (fun w2 _=>S9 n i0 w2) (fun w2 _=>show∀ww∈Cu n i0 w2,ou _ _ _ _ _ _ _ _ _ _ ww from (aG Lq (aG tn (aG BX bG)))) hp2.1 hp2.2) (fun h=>h) (fun h=>h)
def xk (n:Net) (i0:Nat):Am.Loc:=(zAu i0 n)
def Fb (n:Net) (i0:Nat):List Ob:=[]
def kz (n:Net) (i0:Nat):Bool:=(!(!(ah n.rules i0).bP)&&(tE n i0 (qc n i0)))
def Hk (n:Net):Bool:=dh (length n.rules) (kz n)
def Cv (n:Net) (i0:Nat):Am.Loc:=[(2,B true)]
def LD (n:Net) (i0:Nat):List Ob:=[]
def ru (n:Net):Am.Loc:=[]
def Cw (n:Net):List Ob:=[]
def Hl (n:Net):KB:=⟨xk n 0,Fb n 0,Hk n,.ret,Cv n (cc (zU n) (kz n)),LD n (cc (zU n) (kz n)),.normal,ru n,Cw n,True⟩
def Cx (n:Net) (i0:Nat):List bj:=[nxW (kz n i0) (xk n (i0+1)) (Fb n (i0+1)) (xk n (i0+1)) za (Fb n (i0+1)),htW (kz n i0) .ret (Cv n i0) za (LD n i0)]
def XP (n:Net) (i0:Nat):GT:=(.r [.k,bT] (.yes (.r [.row (aD (ah n.rules i0)),bT] (.br (.r [.int ↑(i0+1),bT] (.pick 0)) (.r [bT] (.r [bT] (.br (.pick 1) (.r [.int ↑(i0+1),bT] (.pick 0)))))))))
theorem ZA (n:Net) (i0:Nat) (hn:bw n) (hf:bg n) (hx0:i0<(length n.rules)):vcC pg 101 base aO 3000 (kbL [(2,vH n i0)]) Cm (bu (xk n i0)) (bA (Fb n i0)) 0 (bQ (Cx n i0)) (XP n i0):=
 have hr:=hf.rules;have hs:=hf.aa;have l1:=aW aD (n.rules);have hb:(zAV i0 n)=true:=decide_eq_true (by omega);
 aZ (an (a1 a0)
 (an hb (an (ac (bR aD (l:=n.rules) (i:=i0) (by omega)) a0)
 (brP (fun (h1:(!(ah n.rules i0).bP)=true)=>
 (an (ac (dwr (z:= ↑(i0+1)) (by omega) (by omega)) a0)
 (lf (wy (Cx n i0) 0) 0 ⟨(show kz n i0=false from (aY (cx h1))),rfl,rfl⟩))) (fun h1=>
 (an (ac (DE (n:=length (map aD n.rules)) (B:=1) (by omega) (show length (map aD n.rules)<=9223372036854775807 by omega)) a0)
 (an a0
 (an (IK (vH n i0) (S:=nm (KB.L0 (vH n i0))) rfl (bp (congrArg (fun z=>Ob.row 4 1 z) (Ou (f:=aq) (length (map aD n.rules)) false)) (bp (rfl:(.row 3 1 [(di i0)]:Ob)= .row 3 1 [(di i0)]) eR)) (S8 hn i0 hx0)) (brP (fun (h2:(tE n i0 (qc n i0))=true)=>
 (lf (wy (Cx n i0) 1) 0 (show kz n i0=true from (aE (au h1) h2)))) (fun h2=>
 (an (ac (dwr (z:= ↑(i0+1)) (by omega) (by omega)) a0)
 (lf (wy (Cx n i0) 0) 2 ⟨(show kz n i0=false from (aE (au h1) h2)),rfl,rfl⟩))))))))))))
 (by kernel_rfl)
theorem ZB (n:Net) (_:bw n) (hf:bg n):vcC pg 101 base aO 3000 (kbL []) Cm (bu (xk n (zU n))) (bA (Fb n (zU n))) 0 (bQ [⟨True,(.exit 0),ru n,range 0,Cw n⟩]) zE:=
 have hr:=hf.rules;have hs:=hf.aa;have l1:=aW aD (n.rules);have hb:(zH n)=false:=decide_eq_false (by omega);
 aZ (an (a1 a0)
 (an hb (lf (wy [⟨True,(.exit 0),ru n,range 0,Cw n⟩] 0) 0 trivial)))
 (by kernel_rfl)
theorem Tc (n:Net) (i0:Nat):(Cx n i0).all zr=true:=by refine (aF (aQ rfl rfl rfl ?_ rfl) (aF (aQ rfl rfl rfl ?_ rfl) bD))<;>simp (maxDischargeDepth:=9) [nxW,htW,xk,Cv,plS,AV.pure]
theorem Td (n:Net):bj.b8 0 ⟨True,(.exit 0),ru n,range 0,Cw n⟩=true:=(aQ rfl rfl rfl rfl rfl)
theorem Hm:dB [2] Cm=[(2,.loop E9)]:=by kernel_rfl
theorem Te (n:Net) (hn:bw n) (hf:bg n):dg pg 101 0 0 (.loop Cm) (Hl n):=
 have hr:=hf.rules;have hs:=hf.aa;bZ (fun _=>e9 (id:=0) (m:=length n.rules) (t:=kz n) (xr:= .ret) (xn:=(.exit 0)) (Lr:=Cv n) (Lx:=ru n) (obr:=LD n) (obx:=Cw n) (V:=fun i0=>vcC pg 101 base aO 3000 (kbL [(2,vH n i0)]) Cm) (xk n) (Fb n) 0 (Cx n) (XP n) _ _ (fun i0 hx0=>aS aw mixed (bO (l:=[(2,vH n i0)]) Hm (aV (Ta n i0 hn hf hx0) rfl bn) rfl)) (aS aw mixed (az _)) (fun e=>by cases e) (fun e=>by cases e) (fun _=>rfl) (fun i0 hx0=>ZA n i0 hn hf hx0) (fun i0 _=>Tc n i0) (fun i0 _=>show∀ww∈Cx n i0,cy _ _ _ _ _ _ ww from (aG cg (aG da bG))) (ZB n hn hf) (Td n)) (fun h=>h) (fun h=>h)
def r36 (n:Net):Bool:=(Hk n)
theorem x4:dB [0] (aH 36)=[(0,.loop Cm)]:=by kernel_rfl
theorem Wo (n:Net) (hn:bw n) (hf:bg n):ba pg 36 [.ag (aR n)] [] [] (B (r36 n)) []:=
 bB (fn:=Tryz.f36) (callf:=base) (pu:=aO) (lf:=3000) (l:=[(0,Hl n)]) (t:=zh) aw mixed Tryz.func36 (by kernel_rfl) (show Tryz.f36.body=some (aH 36) by kernel_rfl) (Nat.le_of_ble_eq_true rfl) (bO (l:=[(0,Hl n)]) x4 (aV (Te n hn hf) rfl bn) rfl) rfl (aZ
 (an a0
 (an a0
 (an (kbT (Hl n) trivial) (brP (fun (h0:(Hk n)=true)=>
 (bE (show r36 n=true from h0))) (fun h0=>
 (an a0
 (bE (show r36 n=false from h0))))))))
 (by kernel_rfl))
theorem ck {α:Type} [Inhabited α] {l:List α} {x:α} (h:x∈l): ∃i,i<l.length/\ah l i=x:=by
 obtain ⟨i,hi,rfl⟩:=List.mem_iff_getElem.1 h
 exact ⟨i,hi,by simp [ah,hi]⟩
theorem Cy {n:Net} {s r:Int} (h:r67 n s r=true):0<=s/\s<(n.aa.length:Int):=by
 unfold r67 at h
 simp only [Bool.and_eq_true,decide_eq_true_eq,List.length_map] at h
 omega
theorem LF {n:Net} (h:r32 n=true) {i:Nat} (hi:i<n.rules.length):r67 n (ah n.rules i).start i=true/\r67 n (ah n.rules i).stop i=true:=by
 have:=bL.1 (show sQ n=false by simpa [r32] using h) i hi
 unfold jR at this
 simp only [Bool.or_eq_false_iff,Bool.not_eq_false'] at this
 exact ⟨this.1,this.2.1⟩
theorem vI {n:Net} (h:r33 n=true) {i:Nat} (hi:i<n.aa.length):(0<=(ah n.aa i).aK/\(ah n.aa i).aK<(n.rules.length:Int))/\ ∀k,k<(ah n.aa i).aj.length->r68 n (ah n.aa i) i (ah (ah n.aa i).aj k)=true:=by
 have:=bL.1 (show yA n=false by simpa [r33] using h) i hi
 unfold lB at this
 simp only [Bool.or_eq_false_iff,decide_eq_false_iff_not,List.length_map] at this
 obtain ⟨h1,h2,h3⟩:=this
 have h3:iI n i=false:=by
  revert h3
  cases ((((ah n.aa i).aj.length:Nat):Int)==0) with
  |true=>intro h3;simp only [cond_true,Bool.or_eq_false_iff] at h3;exact h3.2
  |false=>exact fun h3=>h3
 refine ⟨by omega,fun k hk=> ?_⟩
 have:=bL.1 h3 k hk
 unfold n7 at this
 simp only [Bool.or_eq_false_iff,Bool.not_eq_false'] at this
 exact this.1
theorem ZC {n:Net} {s:State} {i:Int} {e:Edge} (h:r68 n s i e=true):0<=e.to/\e.to<(n.aa.length:Int):=by
 unfold r68 at h
 simp only [Bool.and_eq_true,Bool.not_not] at h
 exact Cy h.1
theorem Tf {n:Net} {s:State} {i:Int} {e:Edge} (h:r68 n s i e=true) (h2:e.op=2):0<=e.n/\e.n<(n.rules.length:Int):=by
 unfold r68 at h
 rw [h2] at h
 simp only [show ((2:Int) !=3)=true from rfl,show ((2:Int)==1)=false from rfl,show ((2:Int)==2)=true from rfl,cond_true,cond_false,Bool.and_eq_true,Bool.not_eq_true',decide_eq_false_iff_not,List.length_map] at h
 omega
theorem LG {n:Net} (h2:r32 n=true) (h3:r33 n=true):bw n where
 to:=fun s hs e he=>by
  obtain ⟨i,hi,rfl⟩:=ck hs
  obtain ⟨k,hk,rfl⟩:=ck he
  exact ZC ((vI h3 hi).2 k hk)
 call:=fun s hs e he h=>by
  obtain ⟨i,hi,rfl⟩:=ck hs
  obtain ⟨k,hk,rfl⟩:=ck he
  exact Tf ((vI h3 hi).2 k hk) h
 start:=fun r hr=>by
  obtain ⟨i,hi,rfl⟩:=ck hr
  exact Cy (LF h2 hi).1
 stop:=fun r hr=>by
  obtain ⟨i,hi,rfl⟩:=ck hr
  exact Cy (LF h2 hi).2
theorem Jv {n:Net} (h2:(!r32 n)=false) (h3:(!r33 n)=false):bw n:=LG (by simpa using h2) (by simpa using h3)
theorem Tg {n:Net} (h:(!r33 n)=false) {i:Nat} (hi:i<n.aa.length):0<=(ah n.aa i).aK/\(ah n.aa i).aK<(n.rules.length:Int):=(vI (by simpa using h) hi).1
theorem kA (n:Net):(r25 n).length=n.rules.length:=by simp [r25,jk,E1]
noncomputable def kO (n:Net) (x:Int):List Bool:=dG okF n x.toNat
theorem LH (n:Net) (x:Int):(kO n x).length=n.aa.length:=rk _ _ _
theorem Th {n:Net} (hn:bw n) (hf:bg n) (x:Int) (hx:0<=x/\x<(n.aa.length:Int)):ba pg 34 [fY n,I x,B false,.v (.slice none 0 0)] [] [] (.sl 1 ((kO n x).map aq)) []:=by
 have h:=xe (v34F hn.to hf.f0) hn.to hf.f0 x.toNat (by omega)
 rw [show ((x.toNat:Nat):Int)=x by omega] at h
 exact mg (o:=0) (T:=4) h rfl (by simp [rk,kO]) (aX bS _)
def i31 (n:Net):b9:=⟨31,[fY n],B (r31 n),bg n⟩
theorem g31 (n:Net):(i31 n).cd pg:=fun hp=>⟨MY n hp.h,by simp [i31,ae],by simp [i31,AV.pure]⟩
def i32 (n:Net):b9:=⟨32,[fY n],B (r32 n),bg n⟩
theorem g32 (n:Net):(i32 n).cd pg:=fun hp=>⟨V5 n (Nat.le_trans hp.rules (by omega)),by simp [i32,ae],by simp [i32,AV.pure]⟩
def i33 (n:Net):b9:=⟨33,[fY n],B (r33 n),bg n⟩
theorem g33 (n:Net):(i33 n).cd pg:=fun hp=>⟨R5 n hp,by simp [i33,ae],by simp [i33,AV.pure]⟩
def i25 (n:Net):b9:=⟨25,[fY n],.sl 1 ((r25 n).map aq),bw n/\bg n⟩
theorem g25 (n:Net):(i25 n).cd pg:=fun hp=>⟨p9 n hp.1 hp.2,by simp [i25,ae],by simp [i25,AV.pure]⟩
def Tj (n:Net) (x:Int):b9:=⟨34,[fY n,I x,B false,.v (.slice none 0 0)],.sl 1 ((kO n x).map aq),bw n/\bg n/\0<=x/\x<(n.aa.length:Int)⟩
theorem g34f (n:Net) (x:Int):(Tj n x).cd pg:=fun hp=>⟨Th hp.1 hp.2.1 x hp.2.2,by simp [Tj,ae,AV.pure],by simp [Tj,AV.pure]⟩
def i35 (n:Net) (emp:List Bool):b9:=⟨35,[fY n,.sl 1 (emp.map aq)],B (r35 n emp),bw n/\bg n/\emp.length=n.rules.length⟩
theorem g35 (n:Net) (emp:List Bool):(i35 n emp).cd pg:=fun hp=>⟨Zu n emp hp.1 hp.2.1 hp.2.2,by simp [i35,ae,AV.pure],by simp [i35,AV.pure]⟩
def i36 (n:Net):b9:=⟨36,[fY n],B (r36 n),bw n/\bg n⟩
theorem g36 (n:Net):(i36 n).cd pg:=fun hp=>⟨Wo n hp.1 hp.2,by simp [i36,ae],by simp [i36,AV.pure]⟩
def Jw:Code:=bV 0 (aH 11)
def tF (n:Net) (i0:Nat):Am.Loc:=(zAu i0 n)
def Fc (n:Net) (i0:Nat):List Ob:=[]
def qd (n:Net) (i0:Nat):Bool:=(!(aB (kO n (i0:Int)) (aB n.rules (ah n.aa i0).aK).stop))
def kB (n:Net):Bool:=dh (length n.aa) (qd n)
def vJ (n:Net) (i0:Nat):Am.Loc:=[(2,I 110)]
def LI (n:Net) (i0:Nat):List Ob:=[]
def oE (n:Net):Am.Loc:=[(1,.pf (aR n))]
def Cz (n:Net):List Ob:=[]
def Hn (n:Net):KB:=⟨tF n 0,Fc n 0,kB n,.ret,vJ n (cc (zG n) (qd n)),LI n (cc (zG n) (qd n)),.normal,oE n,Cz n,(!(r32 n))=false/\(!(r33 n))=false⟩
def Ff (n:Net) (i0:Nat):List bj:=[htW (qd n i0) .ret (vJ n i0) za (LI n i0),nxW (qd n i0) (tF n (i0+1)) (Fc n (i0+1)) (tF n (i0+1)) za (Fc n (i0+1))]
def XQ (n:Net) (i0:Nat):GT:=(.r [.k,bT] (.yes (.r [.int 0,.row (ak (ah n.aa i0)),.cC ((ah n.aa i0).aK).toNat (aD (aB n.rules (ah n.aa i0).aK)),.cC ((aB n.rules (ah n.aa i0).aK).stop).toNat (aq (aB (kO n (i0:Int)) (aB n.rules (ah n.aa i0).aK).stop)),bT] (.br (.r [bT] (.pick 0)) (.r [.int ↑(i0+1),bT] (.pick 1))))))
theorem ZD (n:Net) (i0:Nat) (hf:bg n) (hp0:(!(r32 n))=false/\(!(r33 n))=false) (hx0:i0<(length n.aa)):vcC pg 80 (bC [Tj n (i0:Int)] base) aO 3000 (kbL []) Jw (bu (tF n i0)) (bA (Fc n i0)) 0 (bQ (Ff n i0)) (XQ n i0):=
 have hr:=hf.rules;have hs:=hf.aa;have hn:=Jv hp0.1 hp0.2;have hq:=Tg hp0.2 hx0;have hst:=hn.stop _ (tC (.inr hq));have hrl:=LH n (i0:Int);have l1:=aW ak (n.aa);have hb:(zj i0 n)=true:=decide_eq_true (by omega);
 aZ (an (a1 a0)
 (an hb (have l2:=aW aq ((kO n (i0:Int)));have l3:=aW aD (n.rules);an (ac (bK (f:=aq) (l:=kO n (i0:Int)) (s:=(aB n.rules (ah n.aa i0).aK).stop) (decide_eq_true (by omega)) (decide_eq_true (by omega))) (ac (bK (f:=aD) (l:=n.rules) (s:=(ah n.aa i0).aK) (decide_eq_true (by omega)) (decide_eq_true (by omega))) (ac (bR ak (l:=n.aa) (i:=i0) (by omega)) (cA (g34f n (i0:Int)) ⟨hn,hf,by omega⟩ a0))))
 (brP (fun (h1:(!(aB (kO n (i0:Int)) (aB n.rules (ah n.aa i0).aK).stop))=true)=>
 (an a0
 (lf (wy (Ff n i0) 0) 0 (show qd n i0=true from h1)))) (fun h1=>
 (an (ac (dwr (z:= ↑(i0+1)) (by omega) (by omega)) a0)
 (lf (wy (Ff n i0) 1) 0 ⟨(show qd n i0=false from h1),rfl,rfl⟩)))))))
 (by kernel_rfl)
theorem ZE (n:Net) (hf:bg n) (_:(!(r32 n))=false/\(!(r33 n))=false):vcC pg 80 base aO 3000 (kbL []) Jw (bu (tF n (zG n))) (bA (Fc n (zG n))) 0 (bQ [⟨True,(.exit 0),oE n,range 0,Cz n⟩]) zE:=
 have hr:=hf.rules;have hs:=hf.aa;have l1:=aW ak (n.aa);have hb:(zO n)=false:=decide_eq_false (by omega);
 aZ (an (a1 a0)
 (an hb (lf (wy [⟨True,(.exit 0),oE n,range 0,Cz n⟩] 0) 0 trivial)))
 (by kernel_rfl)
theorem Tk (n:Net) (i0:Nat):(Ff n i0).all zr=true:=by refine (aF (aQ rfl rfl rfl ?_ rfl) (aF (aQ rfl rfl rfl ?_ rfl) bD))<;>simp (maxDischargeDepth:=9) [nxW,htW,tF,vJ,plS,AV.pure]
theorem Tl (n:Net):bj.b8 0 ⟨True,(.exit 0),oE n,range 0,Cz n⟩=true:=(aQ rfl rfl rfl (by simp (maxDischargeDepth:=9) [oE,plS,AV.pure]) rfl)
theorem Tm (n:Net) (hf:bg n):dg pg 80 0 0 (.loop Jw) (Hn n):=
 have hr:=hf.rules;have hs:=hf.aa;bZ (fun hp0=>e9 (id:=0) (m:=length n.aa) (t:=qd n) (xr:= .ret) (xn:=(.exit 0)) (Lr:=vJ n) (Lx:=oE n) (obr:=LI n) (obx:=Cz n) (V:=fun i0=>vcC pg 80 (bC [Tj n (i0:Int)] base) aO 3000 (kbL []) Jw) (tF n) (Fc n) 0 (Ff n) (XQ n) _ _ (fun i0 hx0=>aS (bf (.cons (g34f n (i0:Int)) rfl cv.nil) aw) mixed (az _)) (aS aw mixed (az _)) (fun e=>by cases e) (fun e=>by cases e) (fun _=>rfl) (fun i0 hx0=>ZD n i0 hf hp0 hx0) (fun i0 _=>Tk n i0) (fun i0 _=>show∀ww∈Ff n i0,cy _ _ _ _ _ _ ww from (aG da (aG cg bG))) (ZE n hf hp0) (Tl n)) (fun h=>h) (fun h=>h)
def Jx:Code:=bV 2 (aH 11)
def tG (n:Net) (i2:Nat):Am.Loc:=[(1,.pf (aR n)),(4,.sl 1 (zBo n)),(5,I (i2:Int))]
def Fg (n:Net) (_:Nat):List Ob:=[]
def tH (n:Net) (i2:Nat):Bool:=((ah n.rules i2).bP&&((!(ah n.rules i2).eK)&&(ah (r25 n) i2)))
def tI (n:Net):Bool:=dh (length n.rules) (tH n)
def vK (n:Net) (_:Nat):Am.Loc:=[(2,I 110)]
def LJ (n:Net) (_:Nat):List Ob:=[]
def oF (n:Net):Am.Loc:=[(1,.pf (aR n)),(4,.sl 1 (zBo n))]
def CB (n:Net):List Ob:=[]
def Ho (n:Net):KB:=⟨tG n 0,Fg n 0,tI n,.ret,vK n (cc (zU n) (tH n)),LJ n (cc (zU n) (tH n)),.normal,oF n,CB n,(!(r32 n))=false/\(!(r33 n))=false⟩
def xo (n:Net) (i2:Nat):List bj:=[htW (tH n i2) .ret (vK n i2) za (LJ n i2),nxW (tH n i2) (tG n (i2+1)) (Fg n (i2+1)) (tG n (i2+1)) za (Fg n (i2+1))]
def XR (n:Net) (i2:Nat):GT:=(.r [.k,bT] (.yes (.a (.a (.r (.row (aD (ah n.rules i2))::uTT 4 (.row (aD (ah n.rules i2))::uTT 6 [.row (aq (ah (r25 n) i2)),bT,bT])) (.br (.r [bT] (.pick 0)) (.r [.int ↑(i2+1),bT] (.pick 1)))) (.r (.row (aD (ah n.rules i2))::uTT 4 (.row (aD (ah n.rules i2))::bT::bT::bT::uFF 4 [bT])) (.r [.int ↑(i2+1),bT] (.pick 1)))) (.r (.row (aD (ah n.rules i2))::uFF 11 [bT]) (.r [.int ↑(i2+1),bT] (.pick 1))))))
theorem ZF (n:Net) (i2:Nat) (hf:bg n) (_:(!(r32 n))=false/\(!(r33 n))=false) (hx2:i2<(length n.rules)):vcC pg 80 base aO 3000 (kbL []) Jx (bu (tG n i2)) (bA (Fg n i2)) 0 (bQ (xo n i2)) (XR n i2):=
 have hr:=hf.rules;have hs:=hf.aa;have hrl:=kA n;have l1:=aW aD (n.rules);have hb:(decide ((i2:Int)<(length (map aD n.rules):Int)))=true:=decide_eq_true (by omega);
 aZ (an (a1 a0)
 (an hb (aP (fun (h1:((ah n.rules i2).bP)=true)=>have q0:=(aE h1 rfl:tH n i2=_);
 (aP (fun (h2:(!(ah n.rules i2).eK)=true)=>have q1:=q0.trans (aE h2 rfl);
 (an (a1 (ac (bR aq (l:=r25 n) (i:=i2) (by omega)) (aN 2 (ac h2 (aN 3 (ac (bR aD (l:=n.rules) (i:=i2) (by omega)) (aN 3 (ac h1 (ac (bR aD (l:=n.rules) (i:=i2) (by omega)) a0)))))))))
 (brP (fun (h3:((ah (r25 n) i2))=true)=>
 (an a0
 (lf (wy (xo n i2) 0) 0 (q1.trans h3)))) (fun h3=>
 (an (ac (dwr (z:= ↑(i2+1)) (by omega) (by omega)) a0)
 (lf (wy (xo n i2) 1) 0 ⟨(q1.trans h3),rfl,rfl⟩)))))) (fun h2=>
 (an (aN 3 (ac (au h2) (aN 3 (ac (bR aD (l:=n.rules) (i:=i2) (by omega)) (aN 3 (ac h1 (ac (bR aD (l:=n.rules) (i:=i2) (by omega)) a0)))))))
 (an (ac (dwr (z:= ↑(i2+1)) (by omega) (by omega)) a0)
 (lf (wy (xo n i2) 1) 0 ⟨(q0.trans (aY h2)),rfl,rfl⟩)))))) (fun h1=>
 (an (aN 10 (ac (au h1) (ac (bR aD (l:=n.rules) (i:=i2) (by omega)) a0)))
 (an (ac (dwr (z:= ↑(i2+1)) (by omega) (by omega)) a0)
 (lf (wy (xo n i2) 1) 0 ⟨(show tH n i2=false from (aY h1)),rfl,rfl⟩)))))))
 (by kernel_rfl)
theorem ZG (n:Net) (hf:bg n) (_:(!(r32 n))=false/\(!(r33 n))=false):vcC pg 80 base aO 3000 (kbL []) Jx (bu (tG n (zU n))) (bA (Fg n (zU n))) 0 (bQ [⟨True,(.exit 2),oF n,range 0,CB n⟩]) zE:=
 have hr:=hf.rules;have hs:=hf.aa;have l1:=aW aD (n.rules);have hb:(zH n)=false:=decide_eq_false (by omega);
 aZ (an (a1 a0)
 (an hb (lf (wy [⟨True,(.exit 2),oF n,range 0,CB n⟩] 0) 0 trivial)))
 (by kernel_rfl)
theorem Tn (n:Net) (i2:Nat):(xo n i2).all zr=true:=by refine (aF (aQ rfl rfl rfl ?_ rfl) (aF (aQ rfl rfl rfl ?_ rfl) bD))<;>simp (maxDischargeDepth:=9) [nxW,htW,tG,vK,plS,AV.pure]
theorem To (n:Net):bj.b8 0 ⟨True,(.exit 2),oF n,range 0,CB n⟩=true:=(aQ rfl rfl rfl (by simp (maxDischargeDepth:=9) [oF,plS,AV.pure]) rfl)
theorem Tp (n:Net) (hf:bg n):dg pg 80 0 2 (.loop Jx) (Ho n):=
 have hr:=hf.rules;have hs:=hf.aa;bZ (fun hp2=>e9 (id:=2) (m:=length n.rules) (t:=tH n) (xr:= .ret) (xn:=(.exit 2)) (Lr:=vK n) (Lx:=oF n) (obr:=LJ n) (obx:=CB n) (V:=fun i2=>vcC pg 80 base aO 3000 (kbL []) Jx) (tG n) (Fg n) 0 (xo n) (XR n) _ _ (fun i2 hx2=>aS aw mixed (az _)) (aS aw mixed (az _)) (fun e=>by cases e) (fun e=>by cases e) (fun _=>rfl) (fun i2 hx2=>ZF n i2 hf hp2 hx2) (fun i2 _=>Tn n i2) (fun i2 _=>show∀ww∈xo n i2,cy _ _ _ _ _ _ ww from (aG da (aG cg bG))) (ZG n hf hp2) (To n)) (fun h=>h) (fun h=>h)
def r11 (n:Net):Int:=(bif !(r31 n) then 110 else (bif !(r32 n) then 110 else (bif !(r33 n) then 110 else (bif kB n then 110 else (bif tI n then 110 else (bif r35 n (r25 n) then 110 else (bif r36 n then 110 else 0)))))))
theorem x5:dB [0,2] (aH 11)=[(0,.loop Jw),(2,.loop Jx)]:=by kernel_rfl
abbrev zAz:GT:=(.r (.int 0::uFF 6 [bT]) zD)
theorem M9 (n:Net) (hf:bg n):ba pg 11 [.ag (aR n)] [] [] (I (r11 n)) []:=
 bB (fn:=Tryz.f11) (callf:=(bC [i31 n,i32 n,i33 n,i25 n,i35 n (r25 n),i36 n] base)) (pu:=aO) (lf:=3000) (l:=[(0,Hn n),(2,Ho n)]) (t:=(.r [bT] (.a zAz (.a (.r [.int 0,bT,bT,.int 1,bT,bF,bF,bF,bT] zD) (.r [.int 0,bT,bT,.int 1,bT,bT,bT,.int 2,bT,bT] (.br zD (.r [bT] (.br .nil (.r [.int 3,bT] (.r [bT] (.br .nil (.a (.r [.int 4,bF,bF,bT] zD) (.r [.int 4,bT,bT,.int 5,bT] (.br zD zD)))))))))))))) (bf (.cons (g31 n) rfl (.cons (g32 n) rfl (.cons (g33 n) rfl (.cons (g25 n) rfl (.cons (g35 n (r25 n)) rfl (.cons (g36 n) rfl cv.nil)))))) aw) mixed Tryz.func11 (by kernel_rfl) (show Tryz.f11.body=some (aH 11) by kernel_rfl) (Nat.le_of_ble_eq_true rfl) (bO (l:=[(0,Hn n),(2,Ho n)]) x5 (aV (Tm n hf) rfl (aV (Tp n hf) rfl bn)) rfl) rfl (aZ
 (an a0
 (aP (fun (h0:(!(r31 n))=true)=>
 (an (aN 5 (ac (n2 h0) (cA (g31 n) hf a0)))
 (an a0
 (iE (show r11 n=110 from (cdT h0 rfl)))))) (fun h0=>
 (aP (fun (h1:(!(r32 n))=true)=>
 (an (aN 2 (ac (n2 h1) (a1 (cA (g32 n) hf (a1 (ac (au h0) (cA (g31 n) hf a0)))))))
 (an a0
 (iE (show r11 n=110 from (cdF h0 (cdT h1 rfl))))))) (fun h1=>
 (an (a1 (cA (g33 n) hf (a1 (ac (au h1) (a1 (cA (g32 n) hf (a1 (ac (au h0) (cA (g31 n) hf a0)))))))))
 (brP (fun (h2:(!(r33 n))=true)=>
 (an a0
 (iE (show r11 n=110 from (cdF h0 (cdF h1 (cdT h2 rfl))))))) (fun h2=>
 (an a0
 (an (kbT (Hn n) ⟨h1,h2⟩) (brP (fun (h3:(kB n)=true)=>
 (iE (show r11 n=110 from (cdF h0 (cdF h1 (cdF h2 (cdT h3 rfl))))))) (fun h3=>
 (an (cA (g25 n) ⟨Jv h1 h2,hf⟩ a0)
 (an a0
 (an (kbT (Ho n) ⟨h1,h2⟩) (brP (fun (h4:(tI n)=true)=>
 (iE (show r11 n=110 from (cdF h0 (cdF h1 (cdF h2 (cdF h3 (cdT h4 rfl)))))))) (fun h4=>
 (aP (fun (h5:(r35 n (r25 n))=true)=>
 (an (a1 (ac (n2 h5) (cA (g35 n (r25 n)) ⟨Jv h1 h2,hf,kA n⟩ a0)))
 (an a0
 (iE (show r11 n=110 from (cdF h0 (cdF h1 (cdF h2 (cdF h3 (cdF h4 (cdT h5 rfl))))))))))) (fun h5=>
 (an (cA (g36 n) ⟨Jv h1 h2,hf⟩ (a1 (ac (au h5) (cA (g35 n (r25 n)) ⟨Jv h1 h2,hf,kA n⟩ a0))))
 (brP (fun (h6:(r36 n)=true)=>
 (an a0
 (iE (show r11 n=110 from (cdF h0 (cdF h1 (cdF h2 (cdF h3 (cdF h4 (cdF h5 (cdT h6 rfl))))))))))) (fun h6=>
 (an a0
 (iE (show r11 n=0 from (cdF h0 (cdF h1 (cdF h2 (cdF h3 (cdF h4 (cdF h5 (cdF h6 rfl))))))))))))))))))))))))))))))))
 (by kernel_rfl))
end Go.Proofs.YtfkjfjalecikkaaGreatDoor
namespace Go.Am
section
variable {P:Program} {n K:Nat}
theorem Jy {df:Option Nat} {Q:dN} {c:Code} {L' :Loc} {ob' :List Ob} {x:AX} (hd:j5 df c) (hrf:c.rf=false) (hx:fi x=true) (hq:Q x L' ob') {m:Mem} {γ:Gam} {w:World} {a:Act} {ob2 obc obc' :List Ob} {sel kk:List Nat} {Ls Ls' :Loc} {K2:Nat} (hi2:Inv m γ ob2 w) (hs:a.tmps.size=n)
  (hnd:sel.Nodup) (hlen:sel.length=obc.length) (hsel: ∀(i s:Nat) (X:Ob),sel[i]? =some s->obc[i]? =some X->ob2[s]? =some (X.ren (cj sel ob2.length))/\X≠ .dead)
  (hl' :obc'.length=sel.length) (hkk: ∀k∈kk,k<sel.length) (hK2: ∀o,o<sel.length->kk.contains o=false->o<K2) (hKk: ∀o,o<K->(kk.map (cj sel ob2.length)).contains o=false)
  (hlS:bX m (fun i=>γ (cj sel ob2.length i)) a Ls) (hp:Piece P n K2 c Ls obc x Ls' obc')
  (fin: ∀(m1:Mem) (γ' :Gam) (w1:World) (a1:Act),Trans m γ w m1 γ' w1->Le m γ (kk.map (cj sel ob2.length)) m1 γ' ->Inv m1 γ' (back ob2 sel kk obc') w1->bX m1 (fun i=>γ' (cj sel ob2.length i)) a1 Ls' ->Inv m1 γ' ob' w1/\bX m1 γ' a1 L'):
  c.wpIn (dQ df) 0 P (jz c.rf a.defers K [] n Q m γ w) a w:=by
 have hisel:=rS hi2 hnd hlen hsel
 refine wpIn_mono (hp df (fun x1 L1 ob1=>x1=x/\L1=Ls' /\ob1=obc') hd ⟨rfl,rfl,rfl⟩ m _ w a hisel hlS hs trivial) ?_
 rintro e a1 w1 ⟨m1,γ1,L1,ob1,ax,⟨rfl,rfl,rfl⟩,h2,h3,h4,h5,h6,h7,h8⟩
 obtain ⟨γ',g1,g2,g3,g4⟩:=ny hi2 (kk:=kk) hnd hlen hsel (by rw [hl'];exact Nat.le_refl _) hkk h3 h4 (fun o g ho hg=>by
  by_cases hok:o<sel.length
  ·exact h8 o g ⟨hK2 o hok ho,rfl⟩ hg
  ·exfalso
   have:=hi2.len _ (show γ (cj sel ob2.length o)≠none by rw [hg];simp)
   rw [j9 (by omega)] at this
   omega)
 obtain ⟨f1,f2⟩:=fin m1 γ' w1 a1 g2 g3 g4 (by rw [show (fun i=>γ' (cj sel ob2.length i))=γ1 from funext g1];exact h5)
 obtain ⟨Ds,d1,d2,_,_⟩:=h7
 have hDs:Ds=[]:=by
  rcases d2 with d2|d2
  ·rw [hrf] at d2;cases d2
  ·exact d2
 subst hDs
 refine ⟨m1,γ',_,_,_,hq,?_,g2,f1,f2,h6,Marks.of_eq (by simpa using d1),fun o g ho hg=>g3.gam o g hg (by simpa using hKk o ho.1)⟩
 cases ax with
 |panic av=>cases hx
 |_=>cases e<;>first|exact h2.elim|exact h2
def bt (hs:List Nat) (v:Nat->Value) (L:Loc):Loc:=L.map fun p=>(p.1,cond (hs.contains p.1) (.v (v p.1)) p.2)
theorem yJ (hs:List Nat) (v:Nat->Value) (t:Nat): ∀L:Loc,lk (bt hs v L) t=(lk L t).map fun av=>cond (hs.contains t) (.v (v t)) av
 |[]=>rfl
 |(s,b)::L=>by
  simp only [bt,List.map_cons]
  rw [cU,cU]
  by_cases h:s=t
  ·subst h;simp
  ·rw [if_neg h,if_neg h];exact yJ hs v t L
theorem LK {c:Code} {L L' :Loc} {ob:List Ob} {x:AX} (hs:List Nat) (hrf:c.rf=false) (hx:fi x=true) (u: ∀t av,lk L t=some av->hs.contains t=true\/av.und 0=true) (u' : ∀t av,lk L' t=some av->(hs.contains t=true/\lk L t=some av)\/(hs.contains t=false/\av.und 0=true))
  (h: ∀v:Nat->Value,Piece P n 0 c (bt hs v L) [] x (bt hs v L') []):Piece P n K c L ob x L' ob:=by
 intro df Q hd hq m γ w a hi hl hsz ht
 refine Jy hd hrf hx hq hi hsz (sel:=[]) (kk:=[]) (obc:=[]) (obc' :=[]) (K2:=0) (Ls:=bt hs (fun t=>a.tmps.getD t undef) L) (Ls' :=bt hs (fun t=>a.tmps.getD t undef) L') List.nodup_nil rfl (fun i s X h=>by simp at h) rfl (by simp) (fun o h=>by simp at h) (fun o _=>rfl) (fun t av e=> ?_) (h _) fun m1 γ' w1 a1 g2 g3 g4 g5=>⟨by simpa [back,eT,ik] using g4,fun t av e=> ?_⟩
 ·rw [yJ] at e
  cases e1:lk L t with
  |none=>rw [e1] at e;cases e
  |some b=>
   rw [e1] at e
   obtain ⟨q1,q2⟩:=hl t b e1
   refine ⟨q1,?_⟩
   cases h3:hs.contains t with
   |true=>rw [h3] at e;cases e;simp [Rep]
   |false=>
    rw [h3] at e
    cases e
    rcases u t _ e1 with h4|h4
    ·rw [h3] at h4;cases h4
    ·refine (ej b _).2 ?_
     rw [pc (N:=0) (fun _ h=>by cases h) _ h4];exact q2
 ·rcases u' t av e with ⟨h3,e2⟩|⟨h3,h4⟩
  ·obtain ⟨p1,p2⟩:=g5 t (.v (a.tmps.getD t undef)) (by rw [yJ,e,h3];rfl)
   obtain ⟨q1,q2⟩:=hl t av e2
   refine ⟨p1,?_⟩
   have p3:a1.tmps.getD t undef=a.tmps.getD t undef:=by simpa [Rep] using p2
   rw [p3]
   exact fI g3 _ _ (AV.ez _) q2
  ·obtain ⟨p1,p2⟩:=g5 t av (by rw [yJ,e,h3];rfl)
   refine ⟨p1,?_⟩
   have:=(ej (m:=m1) (γ:=γ') av _).1 p2
   rw [pc (N:=0) (fun _ h=>by cases h) av h4] at this
   exact this
end
theorem bq {α:Type} {p:α->Prop}: ∀x∈([]:List α),p x:=fun x h=>by simp at h
theorem mqc {α:Type} {p:α->Prop} {a:α} {l:List α} (h:p a) (t: ∀x∈l,p x): ∀x∈a::l,p x:=fun x hx=>by
 rcases List.mem_cons.1 hx with rfl|hx
 ·exact h
 ·exact t x hx
theorem b7 {P:Program} {n K:Nat} {c:Code} {L L' :Loc} {ob:List Ob} {x:AX} (hs:List Nat) (hrf:c.rf=false) (hx:fi x=true) (u: ∀p∈L,hs.contains p.1=true\/p.2.pure=true) (u' : ∀p∈L',(hs.contains p.1=true/\lk L p.1=some p.2)\/(hs.contains p.1=false/\p.2.pure=true))
  (h: ∀v:Nat->Value,Piece P n 0 c (bt hs v L) [] x (bt hs v L') []):Piece P n K c L ob x L' ob:=
 LK hs hrf hx (fun _ _ e=>(u _ (lP e)).imp id fun h=>aI 0 _ h) (fun _ _ e=>(u' _ (lP e)).imp id fun h=>⟨h.1,aI 0 _ h.2⟩) h
theorem vL {K:Nat} {L L' :Loc} {ob:List Ob} {Tb:TypeId} {cells:List AV} (hK:K<=ob.length) (hL: ∀p∈L',(lk L p.1=some p.2/\p.2.und ob.length=true)\/(lk L p.1=some (.pt ob.length 0)/\p.2= .pf cells/\(AV.pf cells).und ob.length=true)) (hO:ob.all (Ob.und ob.length)=true):fe K L (ob++ [.box Tb cells]) L' ob:=by
 refine ⟨fun m γ w hi=> ?_⟩
 have ho:(ob++ [Ob.box Tb cells])[ob.length]? =some (.box Tb cells):=by simp
 obtain ⟨m2,hm,hi2,ht⟩:=il hi ho (.inr ⟨Tb,cells,rfl⟩)
 have hset:(ob++ [Ob.box Tb cells]).set ob.length .dead=ob++ [.dead]:=by simp
 rw [hset] at hi2
 obtain ⟨d1,d2⟩:=nz hi2 hO
 have hb: ∀o g,(fun o=>if o<ob.length then γ o else none) o=some g->γ o=some g:=fun o g h=>by
  simp only at h
  split at h
  ·exact h
  ·cases h
 refine ⟨m2,_,ht.trans ⟨fun _ _ h=>h,fun _ _ h=> .inl h,fun k _ ⟨o,C,h⟩=>⟨o,C,hb o _ h⟩,rfl,rfl,rfl,Nat.le_refl _,fun _ _ _=>rfl⟩,d1,fun o g h1 h2=>(if_pos (show o<ob.length by omega)).trans h2,fun k ⟨o,C,h⟩=>⟨o,C,hb o _ h⟩,fun a hl t av' e=> ?_⟩
 rcases hL _ (lP e) with ⟨h,hu⟩|⟨h,rfl,hu⟩
 ·obtain ⟨q1,q2⟩:=hl t _ h
  exact ⟨q1,d2 _ _ hu (fI hm.le _ _ (AV.ez _) q2)⟩
 ·obtain ⟨q1,q2⟩:=hl t _ h
  exact ⟨q1,d2 _ _ hu (Frz.pt rfl _ _ _ hm _ q2)⟩
theorem Jz {m:Mem} {γ:Gam} {o j:Nat} {Rs:List (List Value)} {Rj:List Value} {xs:List Value} (h:aA m γ (dD o Rs) xs) (hj:Rs[j]? =some Rj):aA m γ ((vs xs).set j (.sr (o+j) 1 0 Rj.length)) xs:=by
 refine cO (by simp [vs]) fun i c y hc hy=> ?_
 by_cases hij:j=i
 ·subst hij
  have hjl:=(List.getElem?_eq_some_iff.1 hy).1
  rw [List.getElem?_set_self (by simp [vs];omega)] at hc
  cases hc
  obtain ⟨z,hz,hr⟩:=bW h j (.sr (o+j) 1 0 Rj.length) (by rw [fX,hj];rfl)
  rw [hy] at hz;cases hz;exact hr
 ·rw [List.getElem?_set_ne hij] at hc
  rw [vs,List.getElem?_map,hy] at hc
  cases hc
  simp [Rep]
theorem Fh {m m1:Mem} {γ γ1:Gam} {o j:Nat} {Rs:List (List Value)} {R' :List Value} {xs ys:List Value} {ks:List Nat} (h:aA m γ (dD o Rs) xs) (hjl:j<Rs.length) (hle:Le m γ ks m1 γ1) (hys:aA m1 γ1 ((vs xs).set j (.sr (o+j) 1 0 R'.length)) ys) (hks: ∀i,i<Rs.length->i≠j->ks.contains (o+i)=false):aA m1 γ1 (dD o (Rs.set j R')) ys:=by
 have hxl:xs.length=Rs.length:=by rw [aU h,dA]
 have hyl:ys.length=Rs.length:=by rw [aU hys];simp [vs,hxl]
 refine cO (by rw [dA,List.length_set,hyl]) fun i c y hc hy=> ?_
 rw [fX] at hc
 by_cases hij:j=i
 ·subst hij
  rw [List.getElem?_set_self hjl] at hc
  cases hc
  obtain ⟨z,hz,hr⟩:=bW hys j (.sr (o+j) 1 0 R'.length) (List.getElem?_set_self (by simp [vs];omega))
  rw [hy] at hz;cases hz;exact hr
 ·rw [List.getElem?_set_ne hij] at hc
  cases hR:Rs[i]? with
  |none=>rw [hR] at hc;cases hc
  |some R=>
   rw [hR] at hc
   cases hc
   have hil:i<Rs.length:=(List.getElem?_eq_some_iff.1 hR).1
   have e1:xs[i]? =some (xs[i]'(by omega)):=List.getElem?_eq_getElem (by omega)
   obtain ⟨z,hz,hr⟩:=bW hys i (.v (xs[i]'(by omega))) (by rw [List.getElem?_set_ne hij,vs,List.getElem?_map,e1];rfl)
   rw [hy] at hz;cases hz
   have hr' :y=xs[i]'(by omega):=by simpa [Rep] using hr
   subst hr'
   obtain ⟨z,hz,hr2⟩:=bW h i (.sr (o+i) 1 0 R.length) (by rw [fX,hR];rfl)
   rw [e1] at hz;cases hz
   refine fI hle _ _ ?_ hr2
   simp only [AV.free,hks i hil (by omega),Bool.not_false]
def x6 (Ti:TypeId) (o1 o2:Ob) (A B:List (List Value)):List Ob:=(o1::A.map (inner Ti))++(o2::B.map (inner Ti))
theorem dT (Ti:TypeId) (o1 o2:Ob) (A B:List (List Value)) (i:Nat):(x6 Ti o1 o2 A B)[i]? =if i=0 then some o1 else if i<A.length+1 then (A[i-1]?).map (inner Ti) else if i=A.length+1 then some o2 else (B[i-(A.length+2)]?).map (inner Ti):=by
 unfold x6
 by_cases h0:i=0
 ·subst h0;simp
 ·rw [if_neg h0]
  by_cases h1:i<A.length+1
  ·rw [if_pos h1,List.getElem?_append_left (by simpa using h1)]
   obtain ⟨k,rfl⟩: ∃k,i=k+1:=⟨i-1,by omega⟩
   simp
  ·rw [if_neg h1,List.getElem?_append_right (by simp;omega)]
   simp only [List.length_cons,List.length_map]
   by_cases h2:i=A.length+1
   ·subst h2;simp
   ·rw [if_neg h2]
    obtain ⟨k,rfl⟩: ∃k,i=A.length+2+k:=⟨i-(A.length+2),by omega⟩
    rw [show A.length+2+k-(A.length+1)=k+1 by omega,show A.length+2+k-(A.length+2)=k by omega,List.getElem?_cons_succ,List.getElem?_map]
theorem tJ (Ti:TypeId) (o1 o2:Ob) (A B:List (List Value)):(x6 Ti o1 o2 A B).length=A.length+B.length+2:=by simp [x6];omega
def ee (T:TypeId) (cs:List AV):Ob:= .row T 1 (aJ cs)
def shA (n1:Nat):AV->AV
 | .sr 1 S a b=> .sr (n1+1) S a b
 |av=>av
def shL (n1:Nat) (L:Loc):Loc:=L.map fun p=>(p.1,shA n1 p.2)
def oG:AV->Bool
 | .sr 1 _ _ _=>true
 |_=>false
theorem Hp {n1:Nat} {f:Nat->Nat} (f0:f 0=0) (f1:f 1=n1+1) (av:AV) (h:(oG av||av.und 1)=true):av.ren f=shA n1 av:=by
 rcases Bool.or_eq_true _ _▸h with h|h
 ·unfold oG at h
  split at h
  ·simp only [AV.ren,shA,f1]
  ·cases h
 ·rw [pc (N:=1) (fun i hi=>by rw [show i=0 by omega];exact f0) av h]
  unfold shA
  split
  ·simp [AV.und] at h
  ·rfl
theorem Na (n1 t:Nat): ∀L:Loc,lk (shL n1 L) t=(lk L t).map (shA n1)
 |[]=>rfl
 |(s,b)::L=>by
  simp only [shL,List.map_cons]
  rw [cU,cU]
  by_cases h:s=t
  ·rw [if_pos h,if_pos h];rfl
  ·rw [if_neg h,if_neg h];exact Na n1 t L
theorem LL {p:AV->Bool} {L:Loc} (hu:L.all (fun q=>p q.2)=true) {t:Nat} {av:AV} (h:lk L t=some av):p av=true:=by
 induction L with
 |nil=>simp [lk] at h
 |cons q L ih=>
  simp only [List.all_cons,Bool.and_eq_true] at hu
  obtain ⟨s,b⟩:=q
  rw [cU] at h
  split at h
  ·cases h;exact hu.1
  ·exact ih hu.2 h
section
variable {P:Program} {n:Nat}
set_option maxHeartbeats 1000000 in
theorem JA {c:Code} {Ls Ls' :Loc} {T Ti:TypeId} {R1 R2:List (List Value)} {j k:Nat} {A A' B B' :List Value} {x:AX} (hj:R1[j]? =some A) (hk:R2[k]? =some B) (hrf:c.rf=false) (hx:fi x=true)
  (uL:Ls.all (fun p=>oG p.2||p.2.und 1)=true) (uL' :Ls'.all (fun p=>oG p.2||p.2.und 1)=true)
  (h: ∀xs ys:List Value,xs.length=R1.length->ys.length=R2.length->Piece P n 2 c Ls [ee T ((vs xs).set j (.sr 2 1 0 A.length)),ee T ((vs ys).set k (.sr 3 1 0 B.length)),inner Ti A,inner Ti B] x Ls' [ee T ((vs xs).set j (.sr 2 1 0 A'.length)),ee T ((vs ys).set k (.sr 3 1 0 B'.length)),inner Ti A',inner Ti B']):
  Piece P n 0 c (shL R1.length Ls) (cw 0 T Ti R1++cw (R1.length+1) T Ti R2) x (shL R1.length Ls') (cw 0 T Ti (R1.set j A')++cw (R1.length+1) T Ti (R2.set k B')):=by
 intro df Q hd hq m γ w a hi hl hs ht
 have hjl:j<R1.length:=(List.getElem?_eq_some_iff.1 hj).1
 have hkl:k<R2.length:=(List.getElem?_eq_some_iff.1 hk).1
 generalize hn1:R1.length=n1 at*
 have hob:cw 0 T Ti R1++cw (n1+1) T Ti R2=x6 Ti (ee T (dD 1 R1)) (ee T (dD (n1+2) R2)) R1 R2:=rfl
 rw [hob] at hi
 obtain ⟨xs,hxs,hre⟩:=fL (o:=0) (hi.obj 0 _ (by rw [dT];rfl)) (by rw [dA];omega)
 obtain ⟨ys,hys,hre'⟩:=fL (o:=n1+1) (T:=T) (cs:=dD (n1+2) R2) (hi.obj (n1+1) _ (by rw [dT,if_neg (by omega),if_neg (by omega),if_pos (by rw [hn1])];rfl)) (by rw [dA];omega)
 have hxl:xs.length=n1:=by rw [aU hxs,dA,hn1]
 have hyl:ys.length=R2.length:=by rw [aU hys,dA]
 let o1:Ob:=ee T ((vs xs).set j (.sr (1+j) 1 0 A.length))
 let o2:Ob:=ee T ((vs ys).set k (.sr (n1+2+k) 1 0 B.length))
 let ob2:=x6 Ti o1 o2 R1 R2
 have hlen2:ob2.length=n1+R2.length+2:=by rw [tJ,hn1]
 have hi2:Inv m γ ob2 w:=by
  refine ll hi (by rw [hlen2,tJ,hn1]) fun i Y hY=> ?_
  by_cases hdd:Y= .dead
  ·exact .inl hdd
  ·right
   have hY0:=hY
   rw [dT] at hY
   by_cases h0:i=0
   ·subst h0
    rw [if_pos rfl] at hY
    cases hY
    exact ⟨⟨_,by rw [dT];rfl,by simp [ee]⟩,hre _ (Jz hxs hj)⟩
   ·rw [if_neg h0] at hY
    by_cases h1:i=n1+1
    ·subst h1
     rw [hn1,if_neg (by omega),if_pos rfl] at hY
     cases hY
     exact ⟨⟨ee T (dD (n1+2) R2),by rw [dT,if_neg (by omega),if_neg (by omega),if_pos (by rw [hn1])],by simp [ee]⟩,hre' _ (Jz hys hk)⟩
    ·have e:(x6 Ti (ee T (dD 1 R1)) (ee T (dD (n1+2) R2)) R1 R2)[i]? =some Y:=by
      rw [dT,if_neg h0]
      rw [hn1,if_neg h1] at hY⊢
      exact hY
     exact ⟨⟨Y,e,hdd⟩,hi.obj i Y e⟩
 let sel:=[0,n1+1,1+j,n1+2+k]
 have hnd:sel.Nodup:=by simp only [sel,List.nodup_cons,List.mem_cons,List.not_mem_nil,or_false,not_or,not_false_eq_true,List.nodup_nil,and_true];omega
 have f0:cj sel ob2.length 0=0:=rfl
 have f1:cj sel ob2.length 1=n1+1:=rfl
 have f2:cj sel ob2.length 2=1+j:=rfl
 have f3:cj sel ob2.length 3=n1+2+k:=rfl
 have g0:ob2[0]? =some o1:=by rw [dT];rfl
 have g1:ob2[n1+1]? =some o2:=by rw [dT,if_neg (by omega),if_neg (by omega),if_pos (by rw [hn1])]
 have g2:ob2[1+j]? =some (inner Ti A):=by rw [dT,if_neg (by omega),if_pos (by omega),show 1+j-1=j by omega,hj];rfl
 have g3:ob2[n1+2+k]? =some (inner Ti B):=by rw [dT,if_neg (by omega),if_neg (by omega),if_neg (by omega),hn1,show n1+2+k-(n1+2)=k by omega,hk];rfl
 refine Jy hd hrf hx hq hi2 hs (sel:=sel) (kk:=[2,3]) (K2:=2) hnd rfl ?_ rfl (by intro q hq;simp only [List.mem_cons,List.not_mem_nil,or_false] at hq;show q<4;omega) ?_ (fun o ho=>by omega) ?_ (h xs ys hxl hyl) ?_
 ·intro i s X h1 h2
  match i,h1,h2 with
  |0,h1,h2=>cases h1;cases h2;exact ⟨g0.trans (by simp only [ee,Ob.ren,dM,fc,mi,AV.ren,f2,o1]),by simp [ee]⟩
  |1,h1,h2=>cases h1;cases h2;exact ⟨g1.trans (by simp only [ee,Ob.ren,dM,fc,mi,AV.ren,f3,o2]),by simp [ee]⟩
  |2,h1,h2=>cases h1;cases h2;exact ⟨g2.trans (by rw [jw]),by simp [inner]⟩
  |3,h1,h2=>cases h1;cases h2;exact ⟨g3.trans (by rw [jw]),by simp [inner]⟩
  |i+4,h1,_=>simp [sel] at h1
 ·intro o ho hc
  have ho:o<4:=ho
  match o,ho,hc with
  |0,_,_=>omega
  |1,_,_=>omega
  |2,_,hc=>simp at hc
  |3,_,hc=>simp at hc
 ·intro t av e
  obtain ⟨q1,q2⟩:=hl t (shA n1 av) (by rw [Na,e];rfl)
  exact ⟨q1,(ej av _).2 (by rw [Hp f0 f1 av (LL (p:=fun v=>oG v||v.und 1) uL e)];exact q2)⟩
 ·intro m1 γ' w1 a1 t1 le1 i1 l1
  let o1' :Ob:=ee T ((vs xs).set j (.sr (1+j) 1 0 A'.length))
  let o2' :Ob:=ee T ((vs ys).set k (.sr (n1+2+k) 1 0 B'.length))
  generalize hobc:[ee T ((vs xs).set j (.sr 2 1 0 A'.length)),ee T ((vs ys).set k (.sr 3 1 0 B'.length)),inner Ti A',inner Ti B']=obc' at i1
  have hobl:obc'.length=4:=by rw [<-hobc];rfl
  have hback:back ob2 sel [2,3] obc' =x6 Ti o1' o2' (R1.set j A') (R2.set k B'):=by
   obtain ⟨sg1,sg2⟩:=lX (ob:=eT ([2,3].map (cj sel ob2.length)) ob2) (obc:=(obc'.take sel.length).map (Ob.ren (cj sel ob2.length))) hnd (by rw [List.length_map,List.length_take,hobl];rfl) (fun s hs=>by
    rw [eY,hlen2]
    simp only [sel,List.mem_cons,List.not_mem_nil,or_false] at hs
    omega)
   unfold back
   rw [List.drop_eq_nil_of_le (by rw [hobl];exact Nat.le_refl _),List.map_nil,List.append_nil]
   rw [List.take_of_length_le (show obc'.length<=sel.length by rw [hobl];exact Nat.le_refl _)] at sg1 sg2⊢
   apply List.ext_getElem?
   intro i
   rw [dT,List.length_set,hn1]
   by_cases h0:i=0
   ·subst h0
    refine (sg1 0 0 o1' rfl (by rw [<-hobc];simp only [List.map_cons,List.getElem?_cons_zero,ee,Ob.ren,dM,fc,mi,AV.ren,f2,o1'])).trans ?_
    rw [if_pos rfl]
   ·rw [if_neg h0]
    by_cases h1:i=n1+1
    ·subst h1
     refine (sg1 1 (n1+1) o2' rfl (by rw [<-hobc];simp only [List.map_cons,List.getElem?_cons_succ,List.getElem?_cons_zero,ee,Ob.ren,dM,fc,mi,AV.ren,f3,o2'])).trans ?_
     rw [if_neg (by omega),if_pos rfl]
    ·rw [if_neg h1]
     by_cases h2:i=1+j
     ·subst h2
      refine (sg1 2 (1+j) (inner Ti A') rfl (by rw [<-hobc];simp only [List.map_cons,List.getElem?_cons_succ,List.getElem?_cons_zero,jw])).trans ?_
      rw [if_pos (by omega),show 1+j-1=j by omega,List.getElem?_set_self (by omega)];rfl
     ·by_cases h3:i=n1+2+k
      ·subst h3
       refine (sg1 3 (n1+2+k) (inner Ti B') rfl (by rw [<-hobc];simp only [List.map_cons,List.getElem?_cons_succ,List.getElem?_cons_zero,jw])).trans ?_
       rw [if_neg (by omega),show n1+2+k-(n1+2)=k by omega,List.getElem?_set_self hkl];rfl
      ·rw [sg2 i (by simp only [sel,List.mem_cons,List.not_mem_nil,or_false,not_or];omega),ke]
       simp only [List.map_cons,List.map_nil,ob2]
       rw [dT,if_neg h0,hn1,if_neg h1]
       by_cases h4:i<n1+1
       ·rw [if_pos h4,if_pos h4,List.getElem?_set_ne (by omega)]
        cases R1[i-1]? with
        |none=>rfl
        |some R=>simp only [Option.map_some,qC]
       ·rw [if_neg h4,if_neg h4,List.getElem?_set_ne (by omega)]
        cases R2[i-(n1+2)]? with
        |none=>rfl
        |some R=>simp only [Option.map_some,qC]
  rw [hback] at i1
  obtain ⟨zs,hzs,hre3⟩:=fL (o:=0) (i1.obj 0 _ (by rw [dT];rfl)) (by simp [vs];omega)
  obtain ⟨us,hus,hre4⟩:=fL (o:=n1+1) (T:=T) (cs:=(vs ys).set k (.sr (n1+2+k) 1 0 B'.length)) (i1.obj (n1+1) _ (by rw [dT,List.length_set,if_neg (by omega),if_neg (by omega),if_pos (by rw [hn1])];rfl)) (by simp [vs];omega)
  simp only [List.map_cons,List.map_nil,f2,f3] at le1
  have c1:=Fh hxs (by omega) le1 hzs (R' :=A') (fun i hi hne=>by simp;omega)
  have c2:=Fh hys hkl le1 hus (R' :=B') (fun i hi hne=>by simp;omega)
  refine ⟨?_,fun t av e=> ?_⟩
  ·show Inv m1 γ' (x6 Ti (ee T (dD 1 (R1.set j A'))) (ee T (dD (n1+2) (R2.set k B'))) (R1.set j A') (R2.set k B')) w1
   refine ll i1 (by rw [tJ,tJ]) fun i Y hY=> ?_
   by_cases hdd:Y= .dead
   ·exact .inl hdd
   ·right
    rw [dT] at hY
    by_cases h0:i=0
    ·subst h0
     rw [if_pos rfl] at hY
     cases hY
     exact ⟨⟨_,by rw [dT];rfl,by simp [o1',ee]⟩,hre3 _ c1⟩
    ·rw [if_neg h0,List.length_set,hn1] at hY
     by_cases h1:i=n1+1
     ·subst h1
      rw [if_neg (by omega),if_pos rfl] at hY
      cases hY
      exact ⟨⟨o2',by rw [dT,List.length_set,if_neg (by omega),if_neg (by omega),if_pos (by rw [hn1])],by simp [o2',ee]⟩,hre4 _ c2⟩
     ·have e:(x6 Ti o1' o2' (R1.set j A') (R2.set k B'))[i]? =some Y:=by
       rw [dT,if_neg h0,List.length_set,hn1,if_neg h1]
       rw [if_neg h1] at hY
       exact hY
      exact ⟨⟨Y,e,hdd⟩,i1.obj i Y e⟩
  ·rw [Na] at e
   cases e1:lk Ls' t with
   |none=>rw [e1] at e;cases e
   |some b=>
    rw [e1] at e
    cases e
    obtain ⟨q1,q2⟩:=l1 t b e1
    refine ⟨q1,?_⟩
    rw [<-Hp f0 f1 b (LL (p:=fun v=>oG v||v.und 1) uL' e1)]
    exact (ej b _).1 q2
end
theorem O8 {m m' :Mem} {γ γ' :Gam} {o N:Nat} {xs:List Value} (h:aA m γ (replicate N (.v (.slice none 0 0))) xs) (hg: ∀i,i<N->γ' (o+i)=some none):aA m' γ' (dD o (replicate N [])) xs:=by
 refine cO (by rw [aU h,dA];simp) fun i c x hc hx=> ?_
 rw [fX,List.getElem?_replicate] at hc
 split at hc
 ·rename_i hiN
  cases hc
  obtain ⟨y,hy,hr⟩:=bW h i (.v (.slice none 0 0)) (by rw [List.getElem?_replicate,if_pos hiN])
  rw [hx] at hy;cases hy
  have hxe:x= .slice none 0 0:=by simpa [Rep] using hr
  subst hxe
  simp only [Rep]
  exact .inl ⟨hg i hiN,⟨none,rfl⟩,trivial,rfl⟩
 ·cases hc
theorem Nb {m:Mem} {γ:Gam} {w:World} {o o' :Nat} {T:TypeId} {N:Nat} (h:gN m γ w o (ee T (replicate N (.v (.slice none 0 0))))) (hg: ∀i,i<N->γ (o' +i)=some none):gN m γ w o (ee T (dD o' (replicate N []))):=by
 by_cases hN:N=0
 ·subst hN;exact h
 ·obtain ⟨xs,hxs,hre⟩:=fL h (by simp;omega)
  exact hre _ (O8 hxs hg)
theorem O9 {P:Program} {n:Nat} {L:Loc} {T:TypeId} (Ti:TypeId) {n1 n2:Nat} (uL:L.all (fun p=>oG p.2||p.2.und 1)=true):
  A3 P n 0 L [ee T (replicate n1 (.v (.slice none 0 0))),ee T (replicate n2 (.v (.slice none 0 0)))] (shL n1 L) (cw 0 T Ti (replicate n1 [])++cw (n1+1) T Ti (replicate n2 [])):=by
 refine ME fun m γ w hi=> ?_
 let f:Nat->Nat:=fun i=>if i=0 then 0 else if i=1 then n1+1 else n1+n2+i
 let γ' :Gam:=fun o=>if o=0 then γ 0 else if o<n1+1 then some none else if o=n1+1 then γ 1 else if o<n1+2+n2 then some none else none
 have f0:f 0=0:=rfl
 have f1:f 1=n1+1:=rfl
 have e1:γ' (n1+1)=γ 1:=by show (if n1+1=0 then _ else if n1+1<n1+1 then _ else if n1+1=n1+1 then _ else _)=_;rw [if_neg (by omega),if_neg (by omega),if_pos rfl]
 have hγ:γ=fun i=>γ' (f i):=funext fun i=>by
  match i with
  |0=>rfl
  |1=>exact e1.symm
  |i+2=>
   have h1:γ (i+2)=none:=by
    cases hg:γ (i+2) with
    |none=>rfl
    |some g=>
     have:=hi.len (i+2) (by rw [hg];simp)
     simp only [List.length_cons,List.length_nil] at this
     omega
   rw [h1]
   simp only [γ',f]
   rw [if_neg (show¬i+2=0 by omega),if_neg (show¬i+2=1 by omega),if_neg (by omega),if_neg (by omega),if_neg (by omega),if_neg (by omega)]
 have nilr: ∀N,(ee T (replicate N (.v (.slice none 0 0)))).ren f=ee T (replicate N (.v (.slice none 0 0))):=fun N=>by
  simp only [ee,Ob.ren,dM]
  rw [show replicate N (AV.v (.slice none 0 0))=vs (replicate N (.slice none 0 0)) by simp [vs],mi]
 have in1: ∀i,i<n1->γ' (1+i)=some none:=fun i hi=>by simp only [γ'];rw [if_neg (by omega),if_pos (by omega)]
 have in2: ∀i,i<n2->γ' (n1+2+i)=some none:=fun i hi=>by simp only [γ'];rw [if_neg (by omega),if_neg (by omega),if_neg (by omega),if_pos (by omega)]
 have r1:gN m γ' w 0 (ee T (dD 1 (replicate n1 []))):=by
  have h0:=hi.obj 0 _ rfl
  rw [hγ] at h0
  have:=nx.1 h0
  rw [nilr,f0] at this
  exact Nb this in1
 have r2:gN m γ' w (n1+1) (ee T (dD (n1+2) (replicate n2 []))):=by
  have h0:=hi.obj 1 _ rfl
  rw [hγ] at h0
  have:=nx.1 h0
  rw [nilr,f1] at this
  exact Nb this in2
 have hob:cw 0 T Ti (replicate n1 [])++cw (n1+1) T Ti (replicate n2 [])=x6 Ti (ee T (dD 1 (replicate n1 []))) (ee T (dD (n1+2) (replicate n2 []))) (replicate n1 []) (replicate n2 []):=rfl
 rw [hob]
 have hget: ∀o Y,(x6 Ti (ee T (dD 1 (replicate n1 []))) (ee T (dD (n1+2) (replicate n2 []))) (replicate n1 []) (replicate n2 []))[o]? =some Y->(o=0/\Y=ee T (dD 1 (replicate n1 [])))\/(o=n1+1/\Y=ee T (dD (n1+2) (replicate n2 [])))\/(γ' o=some none/\Y=inner Ti []):=by
  intro o Y hY
  rw [dT,List.length_replicate] at hY
  by_cases h0:o=0
  ·rw [if_pos h0] at hY;cases hY;exact .inl ⟨h0,rfl⟩
  ·rw [if_neg h0] at hY
   by_cases h1:o<n1+1
   ·rw [if_pos h1,List.getElem?_replicate,if_pos (by omega)] at hY
    cases hY
    exact .inr (.inr ⟨by simp only [γ'];rw [if_neg h0,if_pos h1],rfl⟩)
   ·rw [if_neg h1] at hY
    by_cases h2:o=n1+1
    ·rw [if_pos h2] at hY;cases hY;exact .inr (.inl ⟨h2,rfl⟩)
    ·rw [if_neg h2,List.getElem?_replicate] at hY
     split at hY
     ·cases hY
      exact .inr (.inr ⟨by simp only [γ'];rw [if_neg h0,if_neg h1,if_neg h2,if_pos (by omega)],rfl⟩)
     ·cases hY
 have hback: ∀o b C,γ' o=some (some (b,C))->(o=0/\γ 0=some (some (b,C)))\/(o=n1+1/\γ 1=some (some (b,C))):=fun o b C hg=>by
  simp only [γ'] at hg
  split at hg
  ·rename_i h;exact .inl ⟨h,hg⟩
  ·split at hg
   ·cases hg
   ·split at hg
    ·rename_i h;exact .inr ⟨h,hg⟩
    ·split at hg<;>cases hg
 have lv0:live [ee T (replicate n1 (.v (.slice none 0 0))),ee T (replicate n2 (.v (.slice none 0 0)))] 0:=⟨_,rfl,by simp [ee]⟩
 have lv1:live [ee T (replicate n1 (.v (.slice none 0 0))),ee T (replicate n2 (.v (.slice none 0 0)))] 1:=⟨_,rfl,by simp [ee]⟩
 refine ⟨m,γ',⟨fun _ _ h=>h,fun _ _ h=> .inl h,fun q _ ⟨o,C,h⟩=> ?_,rfl,rfl,rfl,Nat.le_refl _,fun _ _ _=>rfl⟩,⟨hi.mem,fun o Y hY=> ?_,fun o o' b C C' _ _ h1 h2=> ?_,fun o b C h=> ?_,fun o h=> ?_⟩,fun o ho=>by omega,fun a hl t av e=> ?_⟩
 ·rcases hback o q C h with ⟨_,h⟩|⟨_,h⟩
  ·exact ⟨0,C,h⟩
  ·exact ⟨1,C,h⟩
 ·rcases hget o Y hY with ⟨rfl,rfl⟩|⟨rfl,rfl⟩|⟨h1,rfl⟩
  ·exact r1
  ·exact r2
  ·exact .inl ⟨h1,rfl⟩
 ·rcases hback o b C h1 with ⟨rfl,g1⟩|⟨rfl,g1⟩<;>rcases hback o' b C' h2 with ⟨rfl,g2⟩|⟨rfl,g2⟩
  ·rfl
  ·exact absurd (hi.sep 0 1 b C C' lv0 lv1 g1 g2) (by omega)
  ·exact absurd (hi.sep 1 0 b C C' lv1 lv0 g1 g2) (by omega)
  ·rfl
 ·rcases hback o b C h with ⟨_,h⟩|⟨_,h⟩
  ·exact hi.dom 0 b C h
  ·exact hi.dom 1 b C h
 ·rw [tJ,List.length_replicate,List.length_replicate]
  simp only [γ'] at h
  split at h
  ·omega
  ·split at h
   ·omega
   ·split at h
    ·omega
    ·split at h
     ·omega
     ·exact absurd rfl h
 ·rw [Na] at e
  cases e1:lk L t with
  |none=>rw [e1] at e;cases e
  |some b=>
   rw [e1] at e
   cases e
   obtain ⟨q1,q2⟩:=hl t b e1
   refine ⟨q1,?_⟩
   rw [hγ] at q2
   have:=(ej b _).1 q2
   rw [Hp f0 f1 b (LL (p:=fun v=>oG v||v.und 1) uL e1)] at this
   exact this
theorem oH {K:Nat} {L L' :Loc} {base:List Ob} {T Ti:TypeId} {Rs:List (List Value)} (hK:K<=base.length) (ub:base.all (Ob.und base.length)=true)
  (hL: ∀t av',lk L' t=some av' ->(lk L t=some av' /\av'.und base.length=true)\/(lk L t=some (.sr base.length 1 0 Rs.length)/\av' = .sl 1 (aJ (jj Rs)))):
  fe K L (base++cw base.length T Ti Rs) L' base:=⟨fun m γ w hi=>by
 obtain ⟨m',γ',h1,h2,h3,h4,h5⟩:=On hK ub hL m γ w hi
 exact ⟨m',γ',h1,h2,fun o g ho hg=>(h3 o ho).trans hg,h4,h5⟩⟩
section
variable {σ:Type} (step:Nat->Nat->σ->σ) (len:Nat->Nat)
def inF (i:Nat) (s:σ) (k:Nat):σ:=Nat.rec (motive:=fun _=>σ) s (fun k s=>step i k s) k
def gO (s:σ) (i:Nat):σ:=Nat.rec (motive:=fun _=>σ) s (fun i s=>inF step i s (len i)) i
variable {step len} {P:Program} {n K:Nat}
theorem ry {a d b:Nat} {A C B1 B2 cb E:Code} {S:σ->List Ob} {m:Nat} {I:Nat->Nat->σ->Prop} {La Lb Lc Ld Lf:Nat->Loc} {Le:Nat->Nat->Loc} {Lbx Lx:Loc} {s0:σ}
  (pA: ∀i,i<m-> ∀ob,Piece P n K A (La i) ob .normal (Lb i) ob) (pC: ∀i,i<m-> ∀ob,Piece P n K C (Lb i) ob .normal (Lc i) ob)
  (pB1: ∀i,i<m-> ∀ob,Piece P n K B1 (Lc i) ob .normal (Ld i) ob) (pB2: ∀i,i<m-> ∀ob,Piece P n K B2 (Ld i) ob .normal (Le i 0) ob)
  (pin: ∀i k s,i<m->k<len i->I i k s->Piece P n K cb (Le i k) (S s) .normal (Le i (k+1)) (S (step i k s))/\I i (k+1) (step i k s))
  (pinx: ∀i,i<m-> ∀ob,Piece P n K cb (Le i (len i)) ob (.exit b) (Lf i) ob) (pE: ∀i,i<m-> ∀ob,Piece P n K E (Lf i) ob .normal (La (i+1)) ob)
  (pAx: ∀ob,Piece P n K A (La m) ob .normal Lbx ob) (pCx: ∀ob,Piece P n K C Lbx ob (.exit a) Lx ob)
  (i0:I 0 0 s0) (iN: ∀i s,i<m->I i (len i) s->I (i+1) 0 s):
  Piece P n K (.block a (.loop (.seq A (.seq C (.seq (.block d (.seq B1 (.seq B2 (.block b (.loop cb))))) E))))) (La 0) (S s0) .normal Lx (S (gO step len s0 m)):=by
 have inI: ∀i s,i<m->I i 0 s-> ∀k,k<=len i->I i k (inF step i s k):=fun i s hi h k=>by
  induction k with
  |zero=>exact fun _=>h
  |succ k ih=>exact fun hk=>(pin i k _ hi (by omega) (ih (by omega))).2
 have outI: ∀i,i<=m->I i 0 (gO step len s0 i):=fun i=>by
  induction i with
  |zero=>exact fun _=>i0
  |succ i ih=>exact fun hi=>iN i _ (by omega) (inI i _ (by omega) (ih (by omega)) _ (Nat.le_refl _))
 have inner: ∀i,i<m->Piece P n K (.block b (.loop cb)) (Le i 0) (S (gO step len s0 i)) .normal (Lf i) (S (gO step len s0 (i+1))):=fun i hi=>by
  refine A5 (fun k=>Le i k) (fun k=>S (inF step i (gO step len s0 i) k)) (fun k=>k<=len i) (fun k=>len i-k) 0 (Nat.zero_le _) fun k hk=> ?_
  by_cases hkl:k<len i
  ·exact .inl ⟨k+1,by omega,by omega,(pin i k _ hi hkl (inI i _ hi (outI i (by omega)) k hk)).1⟩
  ·obtain rfl:k=len i:=by omega
   exact .inr (pinx i hi _)
 refine A5 (fun i=>La i) (fun i=>S (gO step len s0 i)) (fun i=>i<=m) (fun i=>m-i) 0 (Nat.zero_le _) fun i hi=> ?_
 by_cases him:i<m
 ·exact .inl ⟨i+1,by omega,by omega,dS (pA i him _) (dS (pC i him _) (dS (nG (dS (pB1 i him _) (dS (pB2 i him _) (inner i him)))) (pE i him _)))⟩
 ·obtain rfl:i=m:=by omega
  exact .inr (dS (pAx _) (mh (pCx _) (by simp)))
end
structure gP where
 p:Prop
 x:AX
 L:Loc
 sel:List Nat
 N:Nat
 ob:List Ob
 obR:List Ob
def gP.ends (o:gP) (x:AX) (M:Tri AV) (O:Tri Ob) (N:Nat):Prop:=o.p/\x=o.x/\N=o.N/\(o.L.map fun p=>M.get p.1)=nmS o.sel o.N o.L/\o.sel.map O.get=o.obR.map some
def gP.b8 (K:Nat) (o:gP):Prop:=fi o.x=true/\mf o.sel=true/\(range K).all (fun i=>o.sel[i]? ==some i)=true/\o.L.all (fun p=>plS p.2)=true/\o.obR=o.ob.map (Ob.ren (cj o.sel o.N))
theorem oI {K:Nat} {o:gP} (h1:fi o.x=true) (h2:mf o.sel=true) (h3:(range K).all (fun i=>o.sel[i]? ==some i)=true) (h4:o.L.all (fun p=>plS p.2)=true) (h5:o.obR=o.ob.map (Ob.ren (cj o.sel o.N))):o.b8 K:=⟨h1,h2,h3,h4,h5⟩
theorem vM {K:Nat}: ∀o∈([]:List gP),o.b8 K:=fun o h=>by simp at h
theorem ei {K:Nat} {o:gP} {l:List gP} (h:o.b8 K) (t: ∀o∈l,o.b8 K): ∀o' ∈o::l,o'.b8 K:=fun o' ho=>by
 rcases List.mem_cons.1 ho with rfl|ho
 ·exact h
 ·exact t o' ho
theorem CC {p:gP->Prop}: ∀o∈([]:List gP),p o:=fun o h=>by simp at h
theorem fa {p:gP->Prop} {o:gP} {l:List gP} (h:p o) (t: ∀o∈l,p o): ∀o' ∈o::l,p o' :=fun o' ho=>by
 rcases List.mem_cons.1 ho with rfl|ho
 ·exact h
 ·exact t o' ho
section
variable {xs:List Value} {j:Nat} {c:AV} {rows:List (List AV)} {k:Nat}
theorem atN (e:rows=aJ ((vs xs).set j c)) (h:j<xs.length):(dec ((0*1+j*1+0)/1=j)&&(dec ((0*1+j*1+0)%1=0)&&dec (rows[j]? =some [c])))=true:=by
 rw [aM.2 (by omega),aM.2 (by omega),aM.2 (by rw [e,aJ,List.getElem?_map,List.getElem?_set_self (by simpa [vs] using h)];rfl)]
 rfl
theorem stN (e:rows=aJ ((vs xs).set j c)) (h:j<xs.length):((true&&(dec ((0*1+j*1+0)/1=j)&&(dec ((0*1+j*1+0)%1=0)&&dec (rows[j]? =some [c]))))&&Nat.ble (0+1) 1)=true:=by rw [atN e h];rfl
theorem pD (e:rows=aJ ((vs xs).set j c)) (c' :AV):rows.set j [c']=aJ ((vs xs).set j c'):=by rw [e,Om,List.set_set]
theorem eM {f:Nat->Nat} {T:TypeId} {o z:Nat} {q:Nat} (h:f o=q):(Ob.row T 1 (aJ ((vs xs).set j (.sr o 1 0 z)))).ren f= .row T 1 (aJ ((vs xs).set j (.sr q 1 0 z))):=by simp only [Ob.ren,dM,fc,mi,AV.ren,h]
theorem cR {f:Nat->Nat} {T:TypeId} {S:Nat} {r:List (List AV)} (h:ai r=true):(Ob.row T S r).ren f= .row T S r:=by simp only [Ob.ren];rw [gG (N:=0) (fun _ h=>by cases h) r (fh 0 r h)]
end
def Tq (l:List gP):VK:=fun t x M O N=>match t with
 | .pick j=>match l[j]? with
  |some o=>o.ends x M O N
  |none=>False
 |_=>False
theorem lfN (o:gP) (h:o.p) {oba:List Ob} (e:oba=o.obR):o.p/\o.x=o.x/\o.N=o.N/\nmS o.sel o.N o.L=nmS o.sel o.N o.L/\oba.map some=o.obR.map some:=⟨h,rfl,rfl,rfl,congrArg _ e⟩
theorem gP.view {K:Nat} {o:gP} (hf:o.b8 K) {x:AX} {M:Tri AV} {O:Tri Ob} {N:Nat} (h:o.ends x M O N) {L1:Loc} {ob1:List Ob} (hM:ct M L1) (hO:bM O N ob1):MA K L1 ob1 o.L o.ob o.sel/\fi x=true/\x=o.x:=by
 obtain ⟨f1,f2,f3,f4,f5⟩:=hf
 obtain ⟨_,rfl,rfl,h1,h2⟩:=h
 have hl1:ob1.length=o.N:=hO.1
 have h1' :(o.L.map (·.1)).map M.get=nc (cj o.sel o.N) o.L:=by
  rw [List.map_map]
  refine h1.trans (List.map_congr_left fun p hp=> ?_)
  rw [Gm (List.all_eq_true.1 f4 p hp)]
 have h2' :o.sel.map O.get=(o.ob.map fun X=>X.ren (cj o.sel o.N)).map some:=by rw [h2,f5]
 refine ⟨⟨iT f2,?_,fun i s X hi hX=> ?_,fun i hi=> ?_,fun t av e=> ?_⟩,f1,rfl⟩
 ·have:=congrArg length h2'
  simpa using this
 ·have e1:(o.sel.map O.get)[i]? =some (O.get s):=by rw [List.getElem?_map,hi];rfl
  rw [h2',List.getElem?_map,List.getElem?_map,hX] at e1
  simp only [Option.map_some,Option.some.injEq] at e1
  exact ⟨_,by rw [<-hO.2];exact e1.symm,by rw [hl1];exact .same _⟩
 ·have:=List.all_eq_true.1 f3 i (List.mem_range.2 hi)
  simpa using this
 ·rw [<-hM t,hl1]
  exact lj h1' t av e
theorem LM {P:Program} {n K:Nat} {c:Code} {V:VC} (hv:iu P n K c V) {L L' :Loc} {ob ob' :List Ob} {x:AX} {l:List gP} {t:GT} (h:V (bu L) (bA ob) ob.length (Tq l) t) (hf: ∀o∈l,o.b8 K) (hw: ∀o∈l,o.p->o.x=x/\o.L=L' /\o.ob=ob'):Piece P n K c L ob x L' ob' :=by
 intro df Q hd hq
 refine uE (hv.ok h (gY L) (gZ ob) hd fun {t' x' M' O' N' L1 ob1} h1 hM hO=> ?_)
 cases t' with
 |pick j=>
  simp only [Tq] at h1
  split at h1
  ·rename_i o ho
   have hm:=List.mem_of_getElem? ho
   obtain ⟨v,w,rfl⟩:=gP.view (hf o hm) h1 hM hO
   obtain ⟨rfl,rfl,rfl⟩:=hw o hm h1.1
   exact ⟨o.L,o.ob,o.sel,v,w,hq⟩
  ·exact h1.elim
 |_=>exact h1.elim
end Go.Am
end
