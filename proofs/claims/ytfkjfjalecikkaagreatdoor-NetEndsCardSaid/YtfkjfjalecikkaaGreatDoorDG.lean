/- Can each state come to its rule's end? Words 2 and 3 make a net well; graphs of free edges and calls. Which nets may be. Rings (the program's). -/
import Derived.Test.YtfkjfjalecikkaaGreatDoorDF
noncomputable section
open List (length map range replicate)
set_option maxRecDepth 100000
namespace Go.Proofs.YtfkjfjalecikkaaGreatDoor
open Go.Am
def IS:Code:=bP 0 (aH 90)
def Bl (l:List Bool) (i0:Nat):Am.Loc:=[(0,.sl 1 (map aA l)),(1,B false),(7,I (length (map aA l):Int)),(8,I (i0:Int))]
def DS (l:List Bool) (i0:Nat):List Ob:=[]
def l6 (l:List Bool) (i0:Nat):Bool:=(false==(ae l i0))
def wF (l:List Bool):Bool:=cX (length l) (l6 l)
def Gp (l:List Bool) (i0:Nat):Am.Loc:=[(4,I (i0:Int))]
def Ln (l:List Bool) (i0:Nat):List Ob:=[]
def tJ (l:List Bool):Am.Loc:=[]
def Bm (l:List Bool):List Ob:=[]
def Gq (l:List Bool):KB:=⟨Bl l 0,DS l 0,wF l,.ret,Gp l (b4 (length l) (l6 l)),Ln l (b4 (length l) (l6 l)),.normal,tJ l,Bm l,True⟩
def DT (l:List Bool) (i0:Nat):List bG:=[htW (l6 l i0) .ret (Gp l i0) zb (Ln l i0),nxW (l6 l i0) (Bl l (i0+1)) (DS l (i0+1)) (Bl l (i0+1)) zb (DS l (i0+1))]
def XC (l:List Bool) (i0:Nat):GT:=(.r [.k,bT] (.yes (.r [bT] (.r [.row (aA (ae l i0)),.k,bT] (.br (.r [bT] (.pick 0)) (.r [.int ↑(i0+1),bT] (.pick 1)))))))
theorem ZE (l:List Bool) (i0:Nat) (ls:length l<=9223372036854775807) (hx0:i0<(length l)):vcC pg 19 base aK 3000 (kbL []) IS (bz (Bl l i0)) (bw (DS l i0)) 0 (bM (DT l i0)) (XC l i0):=
 have l1:=aU aA (l);have hb:(decide ((i0:Int)<(length (map aA l):Int)))=true:=decide_eq_true oab;
 bc (an (a1 a0)
 (an hb (an a0
 (an (a1 (ac (rwa aA l i0) a0))
 (brP (fun (h1:(false==(ae l i0))=true)=>
 (an a0
 (lf (wy (DT l i0) 0) 0 (show l6 l i0=true from h1)))) (fun h1=>
 (an (ac (dwo ((i0+1:Nat):Int)) a0)
 (lf (wy (DT l i0) 1) 0 ⟨(show l6 l i0=false from h1),rfl,rfl⟩))))))))
 oaa
theorem ZF (l:List Bool) (ls:length l<=9223372036854775807):vcC pg 19 base aK 3000 (kbL []) IS (bz (Bl l (length l))) (bw (DS l (length l))) 0 (bM [⟨True,(.exit 0),tJ l,range 0,Bm l⟩]) zG:=
 have l1:=aU aA (l);have hb:(decide ((((length l):Nat):Int)<(length (map aA l):Int)))=false:=decide_eq_false oab;
 bc (an (a1 a0)
 (an hb (lf (wy [⟨True,(.exit 0),tJ l,range 0,Bm l⟩] 0) 0 trivial)))
 oaa
theorem Tc (l:List Bool) (i0:Nat):(DT l i0).all zj=true:=by refine (aF (aR rfl rfl rfl ?_ rfl) (aF (aR rfl rfl rfl ?_ rfl) bC))<;>simp (maxDischargeDepth:=9) [nxW,htW,Bl,Gp,tJ,plS,AV.pure,ah,aj]
theorem Td (l:List Bool):bG.cS 0 ⟨True,(.exit 0),tJ l,range 0,Bm l⟩=true:=(aR rfl rfl rfl rfl rfl)
theorem Te (l:List Bool) (ls:length l<=9223372036854775807):cQ pg 19 0 0 (.loop IS) (Gq l):=
 bW (fun _=>eB (id:=0) (m:=length l) (t:=l6 l) (xr:= .ret) (xn:=(.exit 0)) (Lr:=Gp l) (Lx:=tJ l) (obr:=Ln l) (obx:=Bm l) (V:=fun i0=>vcC pg 19 base aK 3000 (kbL []) IS) (Bl l) (DS l) 0 (DT l) (XC l) _ _ (fun i0 hx0=>aL aw mixed (az _)) (aL aw mixed (az _)) (fun e=>by cases e) (fun e=>by cases e) (fun _=>rfl) (fun i0 hx0=>ZE l i0 ls hx0) (fun i0 _=>Tc l i0) (fun i0 _=>show∀ww∈DT l i0,cm _ _ _ _ _ _ ww from (aC cT (aC bU bB))) (ZF l ls) (Td l)) (fun h=>h) (fun h=>h)
def r90 (l:List Bool):Int:=(bif wF l then (((b4 (length l) (l6 l)):Nat):Int) else (-1))
theorem vM:dp [0] (aH 90)=[(0,.loop IS)]:=by kernel_rfl
theorem idx90 (l:List Bool) (ls:length l<=9223372036854775807):bg pg 90 [.sl 1 (map aA l),B false] [] [] (I (r90 l)) []:=
 bD (fn:=Tryz.f90) (callf:=base) (pu:=aK) (lf:=3000) (l:=[(0,Gq l)]) (t:=zh) aw mixed Tryz.func90 oaa (show Tryz.f90.body=some (aH 90) by kernel_rfl) (Nat.le_of_ble_eq_true rfl) (bK (l:=[(0,Gq l)]) vM (aT (Te l ls) rfl bj) rfl) rfl (bc
 (an a0
 (an a0
 (an (kbT (Gq l) trivial) (brP (fun (h0:(wF l)=true)=>
 (iE (show r90 l=(((b4 (length l) (l6 l)):Nat):Int) from (cdT h0 rfl)))) (fun h0=>
 (an a0
 (iE (show r90 l=(-1) from (cdF h0 rfl)))))))))
 oaa)
def i90 (l:List Bool):cc:=⟨90,[.sl 1 (l.map aA),B false],I (r90 l),l.length<=9223372036854775807⟩
theorem g90 (l:List Bool):(i90 l).b7 pg:=fun hp=>⟨idx90 l hp,by simp [i90,ah,AV.pure],by simp [i90,AV.pure,ah]⟩
def r65 (l:List Bool):Bool:=decide ((r90 l)>=0)
theorem Lo (l:List Bool) (ls:length l<=9223372036854775807):bg pg 65 [.sl 1 (map aA l),B false] [] [] (B (r65 l)) []:=
 bD (fn:=Tryz.f65) (callf:=(bI [i90 l] base)) (pu:=aK) (lf:=3000) (l:=[]) (t:=zBK) (bo (.cons (g90 l) rfl cr.nil) aw) mixed Tryz.func65 oaa (show Tryz.f65.body=some (aH 65) by kernel_rfl) (Nat.le_of_ble_eq_true rfl) (az _) rfl (bc
 (an a0
 (an (a1 (cA (g90 l) ls a0))
 (bE (show r65 l=(decide ((r90 l)>=0)) from rfl))))
 oaa)
def i65 (l:List Bool) (k:Nat):lT:=⟨65,[.sr 0 1 0 k,B false],[.row 4 1 (l.map aA)],B (r65 l),l.length=k/\l.length<=9223372036854775807⟩
theorem g65 (l:List Bool) (k:Nat):(i65 l k).b7 pg:=fun hp=>by
 have hp:l.length=k/\l.length<=9223372036854775807:=hp
 refine nD rfl (J0 (X:= .row 4 1 (l.map aA)) (.inl ⟨_,_,_,rfl⟩) (jH.cons (Frz.sr0 rfl (by simp [hp.1])) (jH.cons (Frz.same _) jH.nil)) ?_ (Lo l hp.2))
 simp [ah,AV.pure]
theorem fx {α:Type} [Inhabited α] (G:List α) (j t:Nat) (x:α) (hj:j<G.length):ae (G.set j x) t=if t=j then x else ae G t:=by
 unfold ae
 by_cases h:t=j
 ·subst h;rw [if_pos rfl,List.getElem?_set_self hj];rfl
 ·rw [if_neg h,List.getElem?_set_ne (fun e=>h e.symm)]
section
variable {step:Nat->Nat->List (List Int)->List (List Int)} {len:Nat->Nat} {to:Nat->Nat->Nat} {xs:Nat->Nat->List Int} {N m:Nat}
theorem MN (h: ∀i k G,i<m->k<len i->step i k G=G.set (to i k) (ae G (to i k)++xs i k)) {i:Nat} (hi:i<m) (G:List (List Int)) (k:Nat) (hk:k<=len i):(inF step i G k).length=G.length:=by
 induction k with
 |zero=>rfl
 |succ k ih=>
  show (step i k (inF step i G k)).length=_
  rw [h i k _ hi oab,List.length_set,ih oab]
theorem Bn (h: ∀i k G,i<m->k<len i->step i k G=G.set (to i k) (ae G (to i k)++xs i k)) (G:List (List Int)) (i:Nat) (hi:i<=m):(gm step len G i).length=G.length:=by
 induction i with
 |zero=>rfl
 |succ i ih=>
  show (inF step i (gm step len G i) (len i)).length=_
  rw [MN h oab _ _ (Nat.le_refl _),ih oab]
theorem V9 (h: ∀i k G,i<m->k<len i->step i k G=G.set (to i k) (ae G (to i k)++xs i k)) (ht: ∀i k,i<m->k<len i->to i k<N) {i:Nat} (hi:i<m) (G:List (List Int)) (hG:G.length=N) (k:Nat) (hk:k<=len i) (t:Nat) (c:Int):c∈ae (inF step i G k) t↔c∈ae G t\/ ∃q,q<k/\to i q=t/\c∈xs i q:=by
 induction k with
 |zero=>exact ⟨.inl,fun h=>h.elim id fun ⟨q,hq,_⟩=>absurd hq (Nat.not_lt_zero _)⟩
 |succ k ih=>
  show c∈ae (step i k (inF step i G k)) t↔_
  rw [h i k _ hi oab,fx _ _ _ _ (by rw [MN h hi G k oab,hG];exact ht i k hi oab)]
  by_cases e:t=to i k
  ·rw [if_pos e,List.mem_append,<-e,ih oab]
   constructor
   ·rintro ((h|⟨q,h1,h2⟩)|h)
    ·exact .inl h
    ·exact .inr ⟨q,by omega,h2⟩
    ·exact .inr ⟨k,by omega,e.symm,h⟩
   ·rintro (h|⟨q,h1,h2,h3⟩)
    ·exact .inl (.inl h)
    ·by_cases hq:q=k
     ·subst hq;exact .inr h3
     ·exact .inl (.inr ⟨q,by omega,h2,h3⟩)
  ·rw [if_neg e,ih oab]
   constructor
   ·rintro (h|⟨q,h1,h2⟩)
    ·exact .inl h
    ·exact .inr ⟨q,by omega,h2⟩
   ·rintro (h|⟨q,h1,h2,h3⟩)
    ·exact .inl h
    ·by_cases hq:q=k
     ·subst hq;exact absurd h2.symm e
     ·exact .inr ⟨q,by omega,h2,h3⟩
theorem IT (h: ∀i k G,i<m->k<len i->step i k G=G.set (to i k) (ae G (to i k)++xs i k)) (ht: ∀i k,i<m->k<len i->to i k<N) (i:Nat) (hi:i<=m) (t:Nat) (c:Int):c∈ae (gm step len (replicate N []) i) t↔ ∃p,p<i/\ ∃q,q<len p/\to p q=t/\c∈xs p q:=by
 induction i with
 |zero=>
  constructor
  ·intro hc
   have hc:c∈ae (replicate N ([]:List Int)) t:=hc
   unfold ae at hc
   rw [List.getElem?_replicate] at hc
   split at hc<;>exact absurd hc (by simp [default])
  ·rintro ⟨p,hp,_⟩;omega
 |succ i ih=>
  show c∈ae (inF step i (gm step len (replicate N []) i) (len i)) t↔_
  rw [V9 h ht oab _ (by rw [Bn h _ i oab];simp) _ (Nat.le_refl _),ih oab]
  constructor
  ·rintro (⟨p,h1,h2⟩|⟨q,h1,h2⟩)
   ·exact ⟨p,by omega,h2⟩
   ·exact ⟨i,by omega,q,h1,h2⟩
  ·rintro ⟨p,h1,q,h2⟩
   by_cases hp:p=i
   ·subst hp;exact .inr ⟨q,h2⟩
   ·exact .inl ⟨p,by omega,q,h2⟩
end
def Tf (n:Net) (i k:Nat) (G:List (List Int)):List (List Int):=List.set G (ae (ae n.aa i).ai k).to.toNat (ae G (ae (ae n.aa i).ai k).to.toNat++ [((i:Nat):Int)])
noncomputable def rZ (n:Net):List (List Int):=gm (Tf n) (fun i=>(ae n.aa i).ai.length) (replicate n.aa.length []) n.aa.length
noncomputable def gj (n:Net):List (List Nat):=(rZ n).map (map Int.toNat)
theorem DU (n:Net):(rZ n).length=n.aa.length:=by
 unfold rZ
 rw [Bn (step:=Tf n) (m:=n.aa.length) (to:=fun i k=>(ae (ae n.aa i).ai k).to.toNat) (xs:=fun i _=>[((i:Nat):Int)]) (fun i k G _ _=>rfl) _ _ (Nat.le_refl _)]
 simp
theorem kR (n:Net):(gj n).length=n.aa.length:=by rw [gj,List.length_map,DU]
theorem tK {n:Net} (hn:rM n) (t:Nat) (c:Int):c∈ae (rZ n) t↔ ∃p,p<n.aa.length/\(∃e∈(ae n.aa p).ai,e.to.toNat=t)/\c=(p:Nat):=by
 unfold rZ
 rw [IT (step:=Tf n) (m:=n.aa.length) (to:=fun i k=>(ae (ae n.aa i).ai k).to.toNat) (xs:=fun i _=>[((i:Nat):Int)]) (fun i k G _ _=>rfl) (fun i k hi hk=>by have:=hn _ (ay hi) _ (ay hk);omega) _ (Nat.le_refl _)]
 constructor
 ·rintro ⟨p,h1,q,h2,h3,h4⟩
  exact ⟨p,h1,⟨_,ay h2,h3⟩,by simpa using h4⟩
 ·rintro ⟨p,h1,⟨e,he,h3⟩,h4⟩
  obtain ⟨q,h2,rfl⟩:=b8 he
  exact ⟨p,h1,q,h2,h3,by simpa using h4⟩
theorem pJ (G:List (List Int)) (h: ∀R∈G,∀c∈R,0<=c):G.map (fun l=>[AV.sl 1 (l.map aO)])=(G.map (map Int.toNat)).map bn:=by
 rw [List.map_map]
 refine List.map_congr_left fun R hR=> ?_
 simp only [Function.comp,bn]
 rw [List.map_map]
 congr 2
 refine List.map_congr_left fun c hc=> ?_
 simp only [Function.comp,aO,cH]
 rw [show ((c.toNat:Nat):Int)=c by have:=h R hR c hc;omega]
theorem DV {n:Net} (hn:rM n) (t c:Nat):Edg (gj n) t c↔c<n.aa.length/\ ∃e∈(ae n.aa c).ai,e.to.toNat=t:=by
 have e:ae (gj n) t=(ae (rZ n) t).map Int.toNat:=by
  unfold gj ae
  rw [List.getElem?_map]
  cases (rZ n)[t]? <;>rfl
 unfold Edg
 rw [e,List.mem_map]
 constructor
 ·rintro ⟨x,hx,rfl⟩
  obtain ⟨p,h1,h2,rfl⟩:=(tK hn t x).1 hx
  exact ⟨h1,h2⟩
 ·rintro ⟨h1,h2⟩
  exact ⟨(c:Nat),(tK hn t _).2 ⟨c,h1,h2,rfl⟩,by simp⟩
theorem Tg {n:Net} (hn:rM n):Wf (gj n):=fun R hR c hc=>by
 obtain ⟨t,ht,rfl⟩:=b8 hR
 rw [kR]
 exact ((DV hn t c).1 hc).1
noncomputable def eE (n:Net) (x:Int):List Bool:=jw (gj n) x.toNat
theorem kS (n:Net) (x:Int):(eE n x).length=n.aa.length:=by simp [eE,jw,kR]
theorem OK {step:Nat->Nat->List (List Int)->List (List Int)} {to:Nat->Nat->Nat} {x:Nat->Nat->Int} {i:Nat} (h: ∀k G,step i k G=G.set (to i k) (ae G (to i k)++ [x i k])) {b:Nat} (G:List (List Int)) (hG: ∀R∈G,R.length<=b) (k:Nat): ∀R∈inF step i G k,R.length<=b+k:=by
 induction k with
 |zero=>exact hG
 |succ k ih=>
  show∀R∈step i k (inF step i G k),_
  rw [h]
  intro R hR
  rcases List.mem_or_eq_of_mem_set hR with h2|rfl
  ·have:=ih R h2;omega
  ·rw [List.length_append]
   by_cases ht:to i k<(inF step i G k).length
   ·have:=ih _ (ay ht)
    simp only [List.length_cons,List.length_nil]
    omega
   ·rw [ae,List.getElem?_eq_none oab]
    show 0+1<=_
    omega
theorem Wa {n:Net} (_hn:bt n) (hf:bp n): ∀R∈rZ n,R.length<=1000000000000:=by
 have key: ∀i,i<=n.aa.length-> ∀R∈gm (Tf n) (fun i=>(ae n.aa i).ai.length) (replicate n.aa.length []) i,R.length<=i*1000000:=fun i=>by
  induction i with
  |zero=>intro _ R hR;rw [(List.mem_replicate.1 (show R∈replicate n.aa.length [] from hR)).2];exact Nat.zero_le _
  |succ i ih=>
   intro hi R hR
   have:R.length<=i*1000000+(ae n.aa i).ai.length:=OK (step:=Tf n) (to:=fun i k=>(ae (ae n.aa i).ai k).to.toNat) (x:=fun i _=>((i:Nat):Int)) (i:=i) (fun k G=>rfl) _ (ih oab) _ R hR
   have he:=hf.ai _ (ay (show i<n.aa.length by omega))
   omega
 intro R hR
 have:=key _ (Nat.le_refl _) R hR
 have:=hf.aa
 omega
theorem rowB {n:Net} (hn:bt n) (hf:bp n): ∀R∈gj n,R.length<=9223372036854775807:=fun R hR=>by
 obtain ⟨R',hR',rfl⟩:=List.mem_map.1 hR
 have:=Wa hn hf R' hR'
 rw [List.length_map]
 omega
theorem Wb {n:Net} (hn:bt n) (hf:bp n) (x:Int) (hx:0<=x/\x<(n.aa.length:Int)):bg pg 59 [.sl 1 ((gj n).map bn),I x] [] [] (.sl 1 ((eE n x).map aA)) []:=by
 have h:=R0 (gj n) x.toNat (by rw [kR];omega) (Tg hn.to) (by rw [kR];exact hf.aa) (rowB hn hf)
 rw [show ((x.toNat:Nat):Int)=x by omega] at h
 exact h
def Th (n:Net) (x:Int):cc:=⟨59,[.sl 1 ((gj n).map bn),I x],.sl 1 ((eE n x).map aA),bt n/\bp n/\0<=x/\x<(n.aa.length:Int)⟩
theorem g59b (n:Net) (x:Int):(Th n x).b7 pg:=fun hp=>⟨Wb hp.1 hp.2.1 x hp.2.2,by simp [Th,ah,AV.pure],by simp [Th,AV.pure,ah]⟩
def gk:Code:=bP 0 (aH 29)
def IU:Code:=bP 2 gk
theorem Tj:gk= .seq (sq1 gk) (.seq (sq1 (sq2 gk)) (.seq (.block 1 (.seq (sq1 (Gh (sq1 (sq2 (sq2 gk))))) (.seq (sq1 (sq2 (Gh (sq1 (sq2 (sq2 gk)))))) (.block 2 (.loop IU))))) (sq2 (sq2 (sq2 gk))))):=by kernel_rfl
abbrev zn (i0:Nat) (n:Net):Am.Loc:=[(0,.pf (aW n)),(3,.sr 0 1 0 (zY n)),(22,.sl 2 (zA n)),(23,I (length (zA n):Int)),(24,I (i0:Int))]
abbrev zo (i0:Nat) (n:Net):Am.Loc:=[(0,.pf (aW n)),(3,.sr 0 1 0 (zY n)),(22,.sl 2 (zA n)),(23,I (length (zA n):Int)),(24,I (i0:Int)),(25,B (decide ((i0:Int)<(length (zA n):Int))))]
theorem Tk (n:Net) (i0:Nat) (hn:bt n) (hf:bp n) (hx0:i0<length n.aa) (v:Nat->Value):vcC pg 94 base aK 3000 (kbL []) (sq1 gk) (bz (bA [3] v (zn i0 n))) (bw []) 0 (bM [⟨True,.normal,bA [3] v (zo i0 n),[],[]⟩]) zBJ:=
 bc (an (a1 a0)
 (lf (wy [⟨True,.normal,bA [3] v [(0,.pf (aW n)),(3,.sr 0 1 0 (length (map ak n.aa))),(22,.sl 2 (map ak n.aa)),(23,I (length (map ak n.aa):Int)),(24,I (i0:Int)),(25,B (zc i0 n))],[],[]⟩] 0) 0 trivial))
 oaa
theorem ZG (n:Net) (i0:Nat) (hn:bt n) (hf:bp n) (hx0:i0<length n.aa) (ob:List Ob):Piece pg 94 0 (sq1 gk) (zn i0 n) ob .normal (zo i0 n) ob:=
 bZ [3] oaa rfl oae oac fun v=>cF (aL aw mixed (az _)) (Tk n i0 hn hf hx0 v) (aR rfl rfl rfl oah rfl)
abbrev zy (i0:Nat) (n:Net):Am.Loc:=[(0,.pf (aW n)),(3,.sr 0 1 0 (zY n)),(22,.sl 2 (zA n)),(23,I (length (zA n):Int)),(24,I (i0:Int)),(25,B true)]
theorem Tl (n:Net) (i0:Nat) (hn:bt n) (hf:bp n) (hx0:i0<length n.aa) (v:Nat->Value):vcC pg 94 base aK 3000 (kbL []) (sq1 (sq2 gk)) (bz (bA [3] v (zo i0 n))) (bw []) 0 (bM [⟨True,.normal,bA [3] v (zy i0 n),[],[]⟩]) (.yes (.pick 0)):=
 have hr:=hf.rules;have hs:=hf.aa;have hed:=hf.ai _ (ay hx0);have l1:=aU ak (n.aa);have hb:(zc i0 n)=true:=decide_eq_true oab;bc (an hb (lf (wy [⟨True,.normal,bA [3] v [(0,.pf (aW n)),(3,.sr 0 1 0 (length (map ak n.aa))),(22,.sl 2 (map ak n.aa)),(23,I (length (map ak n.aa):Int)),(24,I (i0:Int)),(25,B true)],[],[]⟩] 0) 0 trivial))
 oaa
theorem ZH (n:Net) (i0:Nat) (hn:bt n) (hf:bp n) (hx0:i0<length n.aa) (ob:List Ob):Piece pg 94 0 (sq1 (sq2 gk)) (zo i0 n) ob .normal (zy i0 n) ob:=
 bZ [3] oaa rfl oae oac fun v=>cF (aL aw mixed (az _)) (Tl n i0 hn hf hx0 v) (aR rfl rfl rfl oah rfl)
abbrev zBm:=(Gh (sq1 (sq2 (sq2 gk))))
theorem Tm (n:Net) (i0:Nat) (hn:bt n) (hf:bp n) (hx0:i0<length n.aa) (v:Nat->Value):vcC pg 94 base aK 3000 (kbL []) (sq1 zBm) (bz (bA [3] v (zy i0 n))) (bw []) 0 (bM [⟨True,.normal,bA [3] v [(0,.pf (aW n)),(3,.sr 0 1 0 (zY n)),(4,I (i0:Int)),(5,.pt 0 0),(22,.sl 2 (zA n)),(23,I (length (zA n):Int)),(24,I (i0:Int)),(25,B true),(26,I (i0:Int)),(27,.pf (zK i0 n)),(28,.ag (zK i0 n))],[0],[.box 40 (zK i0 n)]⟩]) (.r [.row (zK i0 n),bT] (.pick 0)):=
 have hr:=hf.rules;have hs:=hf.aa;have hed:=hf.ai _ (ay hx0);bc (an (ac (rwa ak n.aa i0) a0)
 (lf (wy [⟨True,.normal,bA [3] v [(0,.pf (aW n)),(3,.sr 0 1 0 (length (map ak n.aa))),(4,I (i0:Int)),(5,.pt 0 0),(22,.sl 2 (map ak n.aa)),(23,I (length (map ak n.aa):Int)),(24,I (i0:Int)),(25,B true),(26,I (i0:Int)),(27,.pf (ak (ae n.aa i0))),(28,.ag (ak (ae n.aa i0)))],[0],[.box 40 (ak (ae n.aa i0))]⟩] 0) 1 trivial))
 oaa
abbrev zr (i0:Nat) (n:Net):Am.Loc:=[(0,.pf (aW n)),(3,.sr 0 1 0 (zY n)),(4,I (i0:Int)),(5,.pf (zK i0 n)),(22,.sl 2 (zA n)),(23,I (length (zA n):Int)),(24,I (i0:Int)),(25,B true),(26,I (i0:Int)),(27,.pf (zK i0 n)),(28,.ag (zK i0 n))]
theorem ZI (n:Net) (i0:Nat) (hn:bt n) (hf:bp n) (hx0:i0<length n.aa) (ob:List Ob):Piece pg 94 0 (sq1 zBm) (zy i0 n) ob .normal (zr i0 n) ob:=
 bZ [3] oaa rfl oae oac fun v=>fv (eQ.refl _ _) (cF (aL aw mixed (az _)) (Tm n i0 hn hf hx0 v) (aR rfl rfl rfl oah oap)) (sP (ob:=[]) (Tb:=40) (cells:=(ak (ae n.aa i0))) (Nat.zero_le _) (L' :=bA [3] v [(0,.pf (aW n)),(3,.sr 0 1 0 (length (map ak n.aa))),(4,I (i0:Int)),(5,.pf (ak (ae n.aa i0))),(22,.sl 2 (map ak n.aa)),(23,I (length (map ak n.aa):Int)),(24,I (i0:Int)),(25,B true),(26,I (i0:Int)),(27,.pf (ak (ae n.aa i0))),(28,.ag (ak (ae n.aa i0)))]) oal rfl) rfl
abbrev zAe (i0:Nat) (n:Net):Am.Loc:=[(0,.pf (aW n)),(3,.sr 0 1 0 (zY n)),(4,I (i0:Int)),(22,.sl 2 (zA n)),(23,I (length (zA n):Int)),(24,I (i0:Int)),(30,.sl 10 (zd i0 n)),(31,I (length (zd i0 n):Int)),(32,I 0)]
theorem Tn (n:Net) (i0:Nat) (hn:bt n) (hf:bp n) (hx0:i0<length n.aa) (v:Nat->Value):vcC pg 94 base aK 3000 (kbL []) (sq1 (sq2 zBm)) (bz (bA [3] v (zr i0 n))) (bw []) 0 (bM [⟨True,.normal,bA [3] v (zAe i0 n),[],[]⟩]) zt:=
 bc (an a0
 (lf (wy [⟨True,.normal,bA [3] v [(0,.pf (aW n)),(3,.sr 0 1 0 (length (map ak n.aa))),(4,I (i0:Int)),(22,.sl 2 (map ak n.aa)),(23,I (length (map ak n.aa):Int)),(24,I (i0:Int)),(30,.sl 10 (map aV (ae n.aa i0).ai)),(31,I (length (map aV (ae n.aa i0).ai):Int)),(32,I 0)],[],[]⟩] 0) 0 trivial))
 oaa
theorem ZJ (n:Net) (i0:Nat) (hn:bt n) (hf:bp n) (hx0:i0<length n.aa) (ob:List Ob):Piece pg 94 0 (sq1 (sq2 zBm)) (zr i0 n) ob .normal (zAe i0 n) ob:=
 bZ [3] oaa rfl oae oac fun v=>cF (aL aw mixed (az _)) (Tn n i0 hn hf hx0 v) (aR rfl rfl rfl oah rfl)
abbrev zAU (i0:Nat) (n:Net):Am.Loc:=[(0,.pf (aW n)),(3,.sr 0 1 0 (zY n)),(4,I (i0:Int)),(22,.sl 2 (zA n)),(23,I (length (zA n):Int)),(24,I (i0:Int)),(30,.sl 10 (zd i0 n)),(31,I (length (zd i0 n):Int)),(32,I (((zBa i0 n):Nat):Int))]
theorem To (n:Net) (i0:Nat) (hn:bt n) (hf:bp n) (hx0:i0<length n.aa) (v:Nat->Value):vcC pg 94 base aK 3000 (kbL []) IU (bz (bA [3] v (zAU i0 n))) (bw []) 0 (bM [⟨True,(.exit 2),bA [3] v (zn i0 n),[],[]⟩]) zG:=
 have hr:=hf.rules;have hs:=hf.aa;have hed:=hf.ai _ (ay hx0);have l1:=aU aV ((ae n.aa i0).ai);have hb:(zz i0 n)=false:=decide_eq_false oab;bc (an (a1 a0)
 (an hb (lf (wy [⟨True,(.exit 2),bA [3] v [(0,.pf (aW n)),(3,.sr 0 1 0 (length (map ak n.aa))),(22,.sl 2 (map ak n.aa)),(23,I (length (map ak n.aa):Int)),(24,I (i0:Int))],[],[]⟩] 0) 0 trivial)))
 oaa
theorem ZK (n:Net) (i0:Nat) (hn:bt n) (hf:bp n) (hx0:i0<length n.aa) (ob:List Ob):Piece pg 94 0 IU (zAU i0 n) ob (.exit 2) (zn i0 n) ob:=
 bZ [3] oaa rfl oae oac fun v=>cF (aL aw mixed (az _)) (To n i0 hn hf hx0 v) (aR rfl rfl rfl oah rfl)
abbrev zBd (i0:Nat) (n:Net):Am.Loc:=[(0,.pf (aW n)),(3,.sr 0 1 0 (zY n)),(22,.sl 2 (zA n)),(23,I (length (zA n):Int)),(24,I ↑(i0+1))]
theorem Tp (n:Net) (i0:Nat) (hn:bt n) (hf:bp n) (hx0:i0<length n.aa) (v:Nat->Value):vcC pg 94 base aK 3000 (kbL []) (sq2 (sq2 (sq2 gk))) (bz (bA [3] v (zn i0 n))) (bw []) 0 (bM [⟨True,.normal,bA [3] v (zBd i0 n),[],[]⟩]) (.r [.int ↑(i0+1),bT] (.pick 0)):=
 have hr:=hf.rules;have hs:=hf.aa;have hed:=hf.ai _ (ay hx0);bc (an (ac (dwo ((i0+1:Nat):Int)) a0)
 (lf (wy [⟨True,.normal,bA [3] v [(0,.pf (aW n)),(3,.sr 0 1 0 (length (map ak n.aa))),(22,.sl 2 (map ak n.aa)),(23,I (length (map ak n.aa):Int)),(24,I ↑(i0+1))],[],[]⟩] 0) 0 trivial))
 oaa
theorem ZL (n:Net) (i0:Nat) (hn:bt n) (hf:bp n) (hx0:i0<length n.aa) (ob:List Ob):Piece pg 94 0 (sq2 (sq2 (sq2 gk))) (zn i0 n) ob .normal (zBd i0 n) ob:=
 bZ [3] oaa rfl oae oac fun v=>cF (aL aw mixed (az _)) (Tp n i0 hn hf hx0 v) (aR rfl rfl rfl oah rfl)
abbrev zm (n:Net):Am.Loc:=[(0,.pf (aW n)),(3,.sr 0 1 0 (zY n)),(22,.sl 2 (zA n)),(23,I (length (zA n):Int)),(24,I (((zH n):Nat):Int)),(25,B (zBZ n))]
abbrev zBQ (n:Net):Am.Loc:=[(0,.pf (aW n)),(3,.sr 0 1 0 (zY n)),(22,.sl 2 (zA n)),(23,I (length (zA n):Int)),(24,I (((zH n):Nat):Int))]
theorem Tq (n:Net) (hn:bt n) (hf:bp n) (v:Nat->Value):vcC pg 94 base aK 3000 (kbL []) (sq1 gk) (bz (bA [3] v (zBQ n))) (bw []) 0 (bM [⟨True,.normal,bA [3] v (zm n),[],[]⟩]) zBJ:=
 bc (an (a1 a0)
 (lf (wy [⟨True,.normal,bA [3] v [(0,.pf (aW n)),(3,.sr 0 1 0 (length (map ak n.aa))),(22,.sl 2 (map ak n.aa)),(23,I (length (map ak n.aa):Int)),(24,I (((length n.aa):Nat):Int)),(25,B (zO n))],[],[]⟩] 0) 0 trivial))
 oaa
theorem ZM (n:Net) (hn:bt n) (hf:bp n) (ob:List Ob):Piece pg 94 0 (sq1 gk) (zBQ n) ob .normal (zm n) ob:=
 bZ [3] oaa rfl oae oac fun v=>cF (aL aw mixed (az _)) (Tq n hn hf v) (aR rfl rfl rfl oah rfl)
theorem Tr (n:Net) (hn:bt n) (hf:bp n) (v:Nat->Value):vcC pg 94 base aK 3000 (kbL []) (sq1 (sq2 gk)) (bz (bA [3] v (zm n))) (bw []) 0 (bM [⟨True,(.exit 0),bA [3] v [(0,.pf (aW n)),(3,.sr 0 1 0 (zY n))],[],[]⟩]) (.no (.pick 0)):=
 have hr:=hf.rules;have hs:=hf.aa;have l1:=aU ak (n.aa);have hb:(zO n)=false:=decide_eq_false oab;bc (an hb (lf (wy [⟨True,(.exit 0),bA [3] v [(0,.pf (aW n)),(3,.sr 0 1 0 (length (map ak n.aa)))],[],[]⟩] 0) 0 trivial))
 oaa
theorem ZN (n:Net) (hn:bt n) (hf:bp n) (ob:List Ob):Piece pg 94 0 (sq1 (sq2 gk)) (zm n) ob (.exit 0) [(0,.pf (aW n)),(3,.sr 0 1 0 (zY n))] ob:=
 bZ [3] oaa rfl oae (mqc (.inr ⟨rfl,by simp [AV.pure,ah,aj]⟩) (mqc (.inl ⟨rfl,rfl⟩) bx)) fun v=>cF (aL aw mixed (az _)) (Tr n hn hf v) (aR rfl rfl rfl oah rfl)
def jb (n:Net) (i0 i2:Nat) (l:List Int):List Int:=l++ [(i0:Int)]
abbrev zAb (i0 i2:Nat) (n:Net):Am.Loc:=[(0,.pf (aW n)),(3,.sr 0 1 0 (zY n)),(4,I (i0:Int)),(22,.sl 2 (zA n)),(23,I (length (zA n):Int)),(24,I (i0:Int)),(30,.sl 10 (zd i0 n)),(31,I (length (zd i0 n):Int)),(32,I ↑(i2+1))]
abbrev zCJ (i0 i2:Nat) (n:Net):=(((zAK i0 i2 n).to).toNat)
def r9 (n:Net) (i0 i2:Nat) (xs:List Value) (l:List Int):gn:=⟨(jb n i0 i2 l)=(l++ [(i0:Int)]),.normal,(zAb i0 i2 n),[0,3],4,[.row 36 1 (aG (List.set (vs xs) (zCJ i0 i2 n) (.sr 1 1 0 (length (l++ [(i0:Int)]))))),.row 3 1 (map aO (l++ [(i0:Int)]))],[.row 36 1 (aG (List.set (vs xs) (zCJ i0 i2 n) (.sr 3 1 0 (length (l++ [(i0:Int)]))))),.row 3 1 (map aO (l++ [(i0:Int)]))]⟩
abbrev zAh (i0 i2:Nat) (n:Net):Am.Loc:=[(0,.pf (aW n)),(3,.sr 0 1 0 (zY n)),(4,I (i0:Int)),(22,.sl 2 (zA n)),(23,I (length (zA n):Int)),(24,I (i0:Int)),(30,.sl 10 (zd i0 n)),(31,I (length (zd i0 n):Int)),(32,I (i2:Int))]
theorem ZO (n:Net) (i0 i2:Nat) (xs:List Value) (l:List Int) (hn:bt n) (hf:bp n) (hx0:i0<length n.aa) (hx2:i2<length (ae n.aa i0).ai) (hl1:length xs=(length n.aa)) (hr1:length l<=i0*1000000+i2):vcC pg 94 base aK 3000 (kbL []) IU (bz (zAh i0 i2 n)) (bw [.row 36 1 (aG (List.set (vs xs) (zCJ i0 i2 n) (.sr 1 1 0 (zBs l)))),.row 3 1 (zCU l)]) 2 (Qh [(r9 n i0 i2 xs l)]) (.r [.k,bT] (.yes (.r [.row (aV (zAK i0 i2 n)),bT] (.r [.cd (zCJ i0 i2 n) [],.at (zCJ i0 i2 n) 0 [.sr 1 1 0 (zBs l)],.cd (zCJ i0 i2 n) [],.at (zCJ i0 i2 n) 0 [.sr 1 1 0 (zBs l)],bT] (.r (zAn i2) (.pick 0)))))):=
 have hr:=hf.rules;have hs:=hf.aa;have lms:=aU ak n.aa;have hed:=hf.ai _ (ay hx0);have hto:=hn.to _ (ay hx0) _ (ay hx2);have l1:=aU aV ((ae n.aa i0).ai);have hb:(zAf i0 i2 n)=true:=decide_eq_true oab;
 bc (an (a1 a0)
 (an hb (an (ac (rwa aV (ae n.aa i0).ai i2) a0)
 (an (ac (stN (rfl:(aG (List.set (vs xs) (((ae (ae n.aa i0).ai i2).to).toNat) (.sr 1 1 0 (length l))))=(aG (List.set (vs xs) (((ae (ae n.aa i0).ai i2).to).toNat) (.sr 1 1 0 (length l))))) oab) (ac (ixI (x:=(ae (ae n.aa i0).ai i2).to) (n:=length (map ak n.aa)) oab oab) (ac (apo (length l) 8 (rl aO l)) (ac (atN (rfl:(aG (List.set (vs xs) (((ae (ae n.aa i0).ai i2).to).toNat) (.sr 1 1 0 (length l))))=(aG (List.set (vs xs) (((ae (ae n.aa i0).ai i2).to).toNat) (.sr 1 1 0 (length l))))) oab) (ac (ixI (x:=(ae (ae n.aa i0).ai i2).to) (n:=length (map ak n.aa)) oab oab) a0)))))
 (an (ac (dwo ((i2+1:Nat):Int)) a0)
 (lfN (r9 n i0 i2 xs l) (show (jb n i0 i2 l)=(l++ [(i0:Int)]) from rfl) (bq ((congrArg (fun z=>Ob.row 36 1 z) (nW (rfl:(aG (List.set (vs xs) (((ae (ae n.aa i0).ai i2).to).toNat) (.sr 1 1 0 (length l))))=(aG (List.set (vs xs) (((ae (ae n.aa i0).ai i2).to).toNat) (.sr 1 1 0 (length l))))) (.sr 3 1 0 (length l+1)))).trans (congrArg (fun z=>Ob.row 36 1 (aG (List.set (vs xs) (((ae (ae n.aa i0).ai i2).to).toNat) (.sr 3 1 0 z)))) oai)) (bq (congrArg (fun z=>Ob.row 3 1 z) (apF (f:=aO) (rl aO l) (k:=length l) oaf (i0:Int))) dZ))))))))
 oaa
theorem ZP (n:Net) (i0 i2:Nat) (xs:List Value) (l:List Int) (hn:bt n) (hf:bp n) (hx0:i0<length n.aa) (hx2:i2<length (ae n.aa i0).ai) (hl1:length xs=(length n.aa)) (hr1:length l<=i0*1000000+i2):Piece pg 94 1 IU (zAh i0 i2 n) [.row 36 1 (aG (List.set (vs xs) (zCJ i0 i2 n) (.sr 1 1 0 (zBs l)))),.row 3 1 (zCU l)] .normal (zAb i0 i2 n) [.row 36 1 (aG (List.set (vs xs) (zCJ i0 i2 n) (.sr 1 1 0 (length (jb n i0 i2 l))))),.row 3 1 (map aO (jb n i0 i2 l))]:=
 J6 (aL aw mixed (az _)) (ZO n i0 i2 xs l hn hf hx0 hx2 hl1 hr1) (dX (o:=(r9 n i0 i2 xs l)) (mH rfl rfl rfl (by simp [r9,plS,AV.pure,ah,aj]) (bq ((ew (f:=(b0 [0,3] 4)) (o:=1) (q:=3) rfl).symm) (bq ((cv (fw _)).symm) dZ))) sQ) (eN (o:=(r9 n i0 i2 xs l)) (fun h=>⟨rfl,rfl,(congrArg (fun z1=>([.row 36 1 (aG (List.set (vs xs) (((ae (ae n.aa i0).ai i2).to).toNat) (.sr 1 1 0 (length z1)))),.row 3 1 (map aO z1)]:List Ob)) h).symm⟩) ya)
def Gr (n:Net):KB:=⟨[(0,.pf (aW n)),(3,.sr 0 1 0 (zY n)),(22,.sl 2 (zA n)),(23,I (length (zA n):Int)),(24,I 0)],[.row 36 1 (replicate (zY n) [.v (.slice none 0 0)])],false,.ret,[],[],.normal,[(0,.pf (aW n)),(3,.sl 1 (map bn (gj n)))],[],True⟩
theorem Ts (n:Net) (hn:bt n) (hf:bp n):cQ pg 94 0 0 (.loop gk) (Gr n):=by
 skip
 have hl:=oU (P:=Tryz.prog) (n:=94) (K:=0) (d:=1) (S:=fun G=>[]++cp 0 36 3 (gV G)) (m:=length n.aa) (len:=fun i0=>length (ae n.aa i0).ai) (step:=fun i0 i2 G=>List.set G (Int.toNat (ae (ae n.aa i0).ai i2).to) (jb n i0 i2 (ae G (Int.toNat (ae (ae n.aa i0).ai i2).to)))) (I:=fun i k G=>G.length=length n.aa/\ ∀l∈G,l.length<=i*1000000+k) (s0:=replicate (length (map ak n.aa)) [])
  (fun i0 hx ob=>ZG n i0 hn hf hx ob) (fun i0 hx ob=>ZH n i0 hn hf hx ob) (fun i0 hx ob=>ZI n i0 hn hf hx ob) (fun i0 hx ob=>ZJ n i0 hn hf hx ob)
  (fun i0 i2 G hx0 hx2 hI=>⟨pin1 (base:=[]) oaB oaa rfl (mqc (aQ _ _ oad) (mqc rfl (mqc (aQ _ _ oad) (mqc (aQ _ _ oad) (mqc (aQ _ _ oad) (mqc (aQ _ _ oad) (mqc (aQ _ _ oad) (mqc (aQ _ _ oad) (mqc (aQ _ _ oad) bx))))))))) (mqc (aQ _ _ oad) (mqc rfl (mqc (aQ _ _ oad) (mqc (aQ _ _ oad) (mqc (aQ _ _ oad) (mqc (aQ _ _ oad) (mqc (aQ _ _ oad) (mqc (aQ _ _ oad) (mqc (aQ _ _ oad) bx))))))))) oau bx (fun xs hxs=>ZP n i0 i2 xs (ae G (Int.toNat (ae (ae n.aa i0).ai i2).to)) hn hf hx0 hx2 (hxs.trans hI.1) (hI.2 _ (ay oaB))),wD hI oab (by have hgl:=(show (jb n i0 i2 (ae G (Int.toNat (ae (ae n.aa i0).ai i2).to))).length<=(ae G (Int.toNat (ae (ae n.aa i0).ai i2).to)).length+1 by unfold jb;rw [List.length_append];exact Nat.le_refl _);have hgm:=hI.2 _ (ay (i:=(Int.toNat (ae (ae n.aa i0).ai i2).to)) oaB);omega)⟩)
  (fun i0 hx ob=>ZK n i0 hn hf hx ob) (fun i0 hx ob=>ZL n i0 hn hf hx ob) (fun ob=>ZM n hn hf ob) (fun ob=>ZN n hn hf ob)
  ⟨by simp,wE _⟩ (fun i G hi hI=>⟨hI.1,fun l hl=>Nat.le_trans (hI.2 l hl) oaF⟩)
 rw [<-Tj] at hl
 have hG:aG (iP (gV (gm (fun i0 i2 G=>List.set G (Int.toNat (ae (ae n.aa i0).ai i2).to) (jb n i0 i2 (ae G (Int.toNat (ae (ae n.aa i0).ai i2).to)))) (fun i0=>length (ae n.aa i0).ai) (replicate (length (map ak n.aa)) []) (length n.aa))))=map bn (gj n):=by
  rw [aU]
  show aG (iP (gV (rZ n)))=_
  rw [rU,gj]
  exact pJ _ fun R hR c hc=>by
   obtain ⟨t,_,rfl⟩:=b8 hR
   obtain ⟨p,_,_,rfl⟩:=(tK hn.to t c).1 hc
   omega
 have hlen:length (gm (fun i0 i2 G=>List.set G (Int.toNat (ae (ae n.aa i0).ai i2).to) (jb n i0 i2 (ae G (Int.toNat (ae (ae n.aa i0).ai i2).to)))) (fun i0=>length (ae n.aa i0).ai) (replicate (length (map ak n.aa)) []) (length n.aa))=length (map ak n.aa):=by
  rw [aU]
  exact (DU n)
 exact DM (base:=[]) hl oau hG (mqc (.inl ⟨rfl,(aQ _ _ oad)⟩) (mqc (.inr ⟨by rw [hlen];rfl,rfl⟩) bx))
def Bo:Code:=bP 4 (aH 29)
def IV:Code:=bP 6 Bo
def tL (n:Net) (i4:Nat) (y4:List Bool) (i6:Nat) (y6:List Bool):List Bool:=(bif (ae y6 i6) then List.set y6 i6 true else List.set y6 i6 (ae (eE n (ae n.rules i4).stop) i6))
def db (n:Net) (i4:Nat) (y4:List Bool) (kk:Nat):List Bool:=Nat.rec (motive:=fun _=>List Bool) (List.set y4 (((ae n.rules i4).stop).toNat) true) (fun j a=>tL n i4 y4 j a) kk
theorem Gs (n:Net) (i4:Nat) (y4:List Bool) (i:Nat):length (db n i4 y4 i)=length y4:=by
 induction i with
 |zero=>show (List.set _ _ _).length=_;simp
 |succ i ih=>
  show length (tL n i4 y4 i (db n i4 y4 i))=_
  unfold tL
  simp only [Bool.cond_eq_ite]
  first
   |rw [List.length_set,ih]
   |(split<;>simp [ih])
def pK (n:Net) (i4:Nat) (y4:List Bool) (i6:Nat) (y6:List Bool):List Ob:=[.row 4 1 (map aA y6),.box 51 (aE (ae n.rules i4))]
def l7 (n:Net) (i4:Nat) (y4:List Bool) (i6:Nat):Am.Loc:=[(3,.sl 1 (map bn (gj n))),(8,.sr 0 1 0 (zY n)),(59,.sl 9 (zAF n)),(60,I (length (zAF n):Int)),(61,I (i4:Int)),(72,.sl 1 (map aA (eE n (ae n.rules i4).stop))),(73,I (length (map aA (eE n (ae n.rules i4).stop)):Int)),(74,I (i6:Int))]
def uZ (n:Net) (i4:Nat) (y4:List Bool) (i6:Nat):List Ob:=pK n i4 y4 i6 (db n i4 y4 i6)
def Bp (n:Net) (i4:Nat) (y4:List Bool) (i6:Nat):Bool:=false
def Wc (n:Net) (i4:Nat) (y4:List Bool):Bool:=false
def Gt (n:Net) (i4:Nat) (y4:List Bool) (i6:Nat):Am.Loc:=[]
def Gu (n:Net) (i4:Nat) (y4:List Bool) (i6:Nat):List Ob:=[]
abbrev zBV (i4:Nat) (n:Net):Am.Loc:=[(3,.sl 1 (map bn (gj n))),(8,.sr 0 1 0 (zY n)),(59,.sl 9 (zAF n)),(60,I (length (zAF n):Int)),(61,I (i4:Int))]
def pL (n:Net) (i4:Nat) (y4:List Bool):Am.Loc:=(zBV i4 n)
abbrev zAq (i4:Nat) (n:Net):=(length (eE n (ae n.rules i4).stop))
def pM (n:Net) (i4:Nat) (y4:List Bool):List Ob:=[.row 4 1 (map aA (db n i4 y4 (zAq i4 n))),.box 51 (aE (ae n.rules i4))]
def tM (n:Net) (i4:Nat) (y4:List Bool):KB:=⟨l7 n i4 y4 0,uZ n i4 y4 0,Wc n i4 y4,.ret,Gt n i4 y4 (b4 (zAq i4 n) (Bp n i4 y4)),Gu n i4 y4 (b4 (zAq i4 n) (Bp n i4 y4)),.normal,pL n i4 y4,pM n i4 y4,True⟩
def DW (n:Net) (i4:Nat) (y4:List Bool) (i6:Nat):List bG:=[nxW (Bp n i4 y4 i6) (l7 n i4 y4 (i6+1)) (uZ n i4 y4 (i6+1)) (l7 n i4 y4 (i6+1)) zBN (pK n i4 y4 (i6+1) (List.set (db n i4 y4 i6) i6 true)),nxW (Bp n i4 y4 i6) (l7 n i4 y4 (i6+1)) (uZ n i4 y4 (i6+1)) (l7 n i4 y4 (i6+1)) zBN (pK n i4 y4 (i6+1) (List.set (db n i4 y4 i6) i6 (ae (eE n (ae n.rules i4).stop) i6)))]
def XD (n:Net) (i4:Nat) (y4:List Bool) (i6:Nat):GT:=(.r [.k,bT] (.yes (.r [.row (aA (ae (eE n (ae n.rules i4).stop) i6)),bT] (.a (.r [.at i6 0 (aA (ae (db n i4 y4 i6) i6)),bF,.at i6 0 (aA (ae (db n i4 y4 i6) i6)),bT] (.r [.int ↑(i6+1),bT] (.pick 0))) (.r [.at i6 0 (aA (ae (db n i4 y4 i6) i6)),bT,.at i6 0 (aA (ae (db n i4 y4 i6) i6)),bT] (.r [.int ↑(i6+1),bT] (.pick 1)))))))
theorem ZQ (n:Net) (i4:Nat) (y4:List Bool) (i6:Nat) (hn:bt n) (hf:bp n) (hx4:i4<(length n.rules)) (hy4:length y4=length n.aa) (hx6:i6<(length (eE n (ae n.rules i4).stop))):vcC pg 94 base aK 3000 (kbL []) IV (bz (l7 n i4 y4 i6)) (bw (uZ n i4 y4 i6)) 2 (bM (DW n i4 y4 i6)) (XD n i4 y4 i6):=
 have hr:=hf.rules;have hs:=hf.aa;have hgl:=(Gs n i4 y4 i6).trans hy4;have hbl:=kS n (ae n.rules i4).stop;have lbb:=aU aA (eE n (ae n.rules i4).stop);have lms:=aU ak n.aa;have l1:=aU aA ((eE n (ae n.rules i4).stop));have hb:(decide ((i6:Int)<(length (map aA (eE n (ae n.rules i4).stop)):Int)))=true:=decide_eq_true oab;
 bc (an (a1 a0)
 (an hb (an (ac (rwa aA (eE n (ae n.rules i4).stop) i6) a0)
 (aM (fun (h1:((ae (db n i4 y4 i6) i6))=true)=>
 (an (ac (sto 1 0 1 i6 (rl aA (db n i4 y4 i6))) (ac (ixo i6 (length (map ak n.aa))) (ac (n2 h1) (ac (ato 1 0 i6 (rl aA (db n i4 y4 i6))) (ac (ixo i6 (length (map ak n.aa))) a0)))))
 (an (ac (dwo ((i6+1:Nat):Int)) a0)
 (lfE (wy (DW n i4 y4 i6) 0) 2 (nxP (fun _=>l7 n i4 y4 (i6+1)) (pK n i4 y4 (i6+1)) (show Bp n i4 y4 i6=false from rfl) (show db n i4 y4 (i6+1)=(List.set (db n i4 y4 i6) i6 true) from (cdT h1 rfl))) (bq (congrArg (fun z=>Ob.row 4 1 z) (jr (f:=aA) (rl aA (db n i4 y4 i6)) i6 true)) (bq (rfl:(.box 51 (aE (ae n.rules i4)):Ob)= .box 51 (aE (ae n.rules i4))) dZ)))))) (fun h1=>
 (an (ac (sto 1 0 1 i6 (rl aA (db n i4 y4 i6))) (ac (ixo i6 (length (map ak n.aa))) (ac (au h1) (ac (ato 1 0 i6 (rl aA (db n i4 y4 i6))) (ac (ixo i6 (length (map ak n.aa))) a0)))))
 (an (ac (dwo ((i6+1:Nat):Int)) a0)
 (lfE (wy (DW n i4 y4 i6) 1) 2 (nxP (fun _=>l7 n i4 y4 (i6+1)) (pK n i4 y4 (i6+1)) (show Bp n i4 y4 i6=false from rfl) (show db n i4 y4 (i6+1)=(List.set (db n i4 y4 i6) i6 (ae (eE n (ae n.rules i4).stop) i6)) from (cdF h1 rfl))) (bq (congrArg (fun z=>Ob.row 4 1 z) (jr (f:=aA) (rl aA (db n i4 y4 i6)) i6 (ae (eE n (ae n.rules i4).stop) i6))) (bq (rfl:(.box 51 (aE (ae n.rules i4)):Ob)= .box 51 (aE (ae n.rules i4))) dZ))))))))))
 oaa
theorem ZR (n:Net) (i4:Nat) (y4:List Bool) (hn:bt n) (hf:bp n) (hx4:i4<(length n.rules)) (hy4:length y4=length n.aa):vcC pg 94 base aK 3000 (kbL []) IV (bz (l7 n i4 y4 (zAq i4 n))) (bw (uZ n i4 y4 (zAq i4 n))) 2 (bM [⟨True,(.exit 6),pL n i4 y4,range 2,pM n i4 y4⟩]) zG:=
 have hr:=hf.rules;have hs:=hf.aa;have hbl:=kS n (ae n.rules i4).stop;have l1:=aU aA ((eE n (ae n.rules i4).stop));have hb:(decide ((((length (eE n (ae n.rules i4).stop)):Nat):Int)<(length (map aA (eE n (ae n.rules i4).stop)):Int)))=false:=decide_eq_false oab;
 bc (an (a1 a0)
 (an hb (lf (wy [⟨True,(.exit 6),pL n i4 y4,range 2,pM n i4 y4⟩] 0) 2 trivial)))
 oaa
theorem Tt (n:Net) (i4:Nat) (y4:List Bool) (i6:Nat):(DW n i4 y4 i6).all zj=true:=by refine (aF (aR rfl rfl rfl ?_ ?_) (aF (aR rfl rfl rfl ?_ ?_) bC))<;>simp (maxDischargeDepth:=9) [nxW,htW,l7,Gt,pL,plS,AV.pure,ah,aj,pK,uZ,Gu,pM,plO,eC,dG]
theorem Tu (n:Net) (i4:Nat) (y4:List Bool):bG.cS 0 ⟨True,(.exit 6),pL n i4 y4,range 2,pM n i4 y4⟩=true:=by refine (aR rfl rfl rfl ?_ ?_)<;>simp (maxDischargeDepth:=9) [nxW,htW,l7,Gt,pL,plS,AV.pure,ah,aj,pK,uZ,Gu,pM,plO,eC,dG]
theorem Tv (n:Net) (i4:Nat) (y4:List Bool) (hn:bt n) (hf:bp n) (hx4:i4<(length n.rules)) (hy4:length y4=length n.aa):cQ pg 94 0 6 (.loop IV) (tM n i4 y4):=
 have hr:=hf.rules;have hs:=hf.aa;iZ (fun _=>eB (id:=6) (m:=length (eE n (ae n.rules i4).stop)) (t:=Bp n i4 y4) (xr:= .ret) (xn:=(.exit 6)) (Lr:=Gt n i4 y4) (Lx:=pL n i4 y4) (obr:=Gu n i4 y4) (obx:=pM n i4 y4) (V:=fun i6=>vcC pg 94 base aK 3000 (kbL []) IV) (l7 n i4 y4) (uZ n i4 y4) 2 (DW n i4 y4) (XD n i4 y4) _ _ (fun i6 hx6=>aL aw mixed (az _)) (aL aw mixed (az _)) (fun e=>by cases e) (fun e=>by cases e) (fun _=>rfl) (fun i6 hx6=>ZQ n i4 y4 i6 hn hf hx4 hy4 hx6) (fun i6 _=>Tt n i4 y4 i6) (fun i6 _=>show∀ww∈DW n i4 y4 i6,cm _ _ _ _ _ _ ww from (aC bU (aC bU bB))) (ZR n i4 y4 hn hf hx4 hy4) (Tu n i4 y4)) (fun _=>rfl) rfl (fun h=>h)
def Lp (n:Net) (i4:Nat) (y4:List Bool):List Bool:=(db n i4 y4 (length (eE n (ae n.rules i4).stop)))
def dO (n:Net) (kk:Nat):List Bool:=Nat.rec (motive:=fun _=>List Bool) (replicate (length (map ak n.aa)) false) (fun j a=>Lp n j a) kk
theorem nP (n:Net) (i:Nat):length (dO n i)=length n.aa:=by
 induction i with
 |zero=>show (replicate _ false).length=_;simp
 |succ i ih=>
  show length (Lp n i (dO n i))=_
  unfold Lp
  rw [Gs,ih]
def Bq (n:Net) (i4:Nat) (y4:List Bool):List Ob:=[.row 4 1 (map aA y4)]
def sa (n:Net) (i4:Nat):Am.Loc:=(zBV i4 n)
def Br (n:Net) (i4:Nat):List Ob:=Bq n i4 (dO n i4)
def IW (n:Net) (i4:Nat):Bool:=false
def Wd (n:Net):Bool:=false
def Gv (n:Net) (i4:Nat):Am.Loc:=[]
def Gw (n:Net) (i4:Nat):List Ob:=[]
def pN (n:Net):Am.Loc:=[(8,.sr 0 1 0 (zY n))]
def pO (n:Net):List Ob:=[.row 4 1 (map aA (dO n (zS n)))]
def Bt (n:Net):KB:=⟨sa n 0,Br n 0,Wd n,.ret,Gv n (b4 (zS n) (IW n)),Gw n (b4 (zS n) (IW n)),.normal,pN n,pO n,True⟩
def IX (n:Net) (i4:Nat):List bG:=[nxW (IW n i4) (sa n (i4+1)) (Br n (i4+1)) (sa n (i4+1)) zAO (Bq n (i4+1) (db n i4 (dO n i4) (zAq i4 n)))]
def XE (n:Net) (i4:Nat):GT:=(.r [.k,bT] (.yes (.r [.row (aE (ae n.rules i4)),bT] (.r [.cd (((ae n.rules i4).stop).toNat) [],.at (((ae n.rules i4).stop).toNat) 0 (aA (ae (dO n i4) (((ae n.rules i4).stop).toNat))),bT] (.r [.int 0,bT] (.no (.r [.int ↑(i4+1),bT] (.pick 0))))))))
theorem ZS (n:Net) (i4:Nat) (hn:bt n) (hf:bp n) (hx4:i4<(length n.rules)):vcC pg 94 (bI [Th n (ae n.rules i4).stop] base) aK 3000 (kbL [(6,tM n i4 (dO n i4))]) Bo (bz (sa n i4)) (bw (Br n i4)) 1 (bM (IX n i4)) (XE n i4):=
 have hr:=hf.rules;have hs:=hf.aa;have hgl:=nP n i4;have ht:=hn.stop _ (ay hx4);have hbl:=kS n (ae n.rules i4).stop;have l1:=aU aE (n.rules);have hb:(decide ((i4:Int)<(length (map aE n.rules):Int)))=true:=decide_eq_true oab;
 bc (an (a1 a0)
 (an hb (an (ac (rwa aE n.rules i4) a0)
 (have l2:=aU ak (n.aa);an (ac (sto 1 0 1 (((ae n.rules i4).stop).toNat) (rl aA (dO n i4))) (ac (ixz (ae n.rules i4).stop (length (map ak n.aa))) a0))
 (an (cA (g59b n (ae n.rules i4).stop) ⟨hn,hf,by omega⟩ a0)
 (an (Ch (tM n i4 (dO n i4)) (S:=nm (KB.L0 (tM n i4 (dO n i4)))) rfl (bq (congrArg (fun z=>Ob.row 4 1 z) (jr (f:=aA) (rl aA (dO n i4)) (((ae n.rules i4).stop).toNat) true)) (bq (rfl:(.box 51 (aE (ae n.rules i4)):Ob)= .box 51 (aE (ae n.rules i4))) dZ)) trivial) (an (rfl:false=false) (an (ac (dwo ((i4+1:Nat):Int)) a0)
 (lf (wy (IX n i4) 0) 2 (nxP (fun _=>sa n (i4+1)) (Bq n (i4+1)) (show IW n i4=false from rfl) (show dO n (i4+1)=(db n i4 (dO n i4) (length (eE n (ae n.rules i4).stop))) from rfl)))))))))))
 oaa
theorem ZT (n:Net) (hn:bt n) (hf:bp n):vcC pg 94 base aK 3000 (kbL []) Bo (bz (sa n (zS n))) (bw (Br n (zS n))) 1 (bM [⟨True,(.exit 4),pN n,range 1,pO n⟩]) zG:=
 have hr:=hf.rules;have hs:=hf.aa;have l1:=aU aE (n.rules);have hb:(zJ n)=false:=decide_eq_false oab;
 bc (an (a1 a0)
 (an hb (lf (wy [⟨True,(.exit 4),pN n,range 1,pO n⟩] 0) 1 trivial)))
 oaa
theorem Tw (n:Net) (i4:Nat):(IX n i4).all zj=true:=by refine (aF (aR rfl rfl rfl ?_ ?_) bC)<;>simp (maxDischargeDepth:=9) [nxW,htW,sa,Gv,pN,plS,AV.pure,ah,aj,Bq,Br,Gw,pO,plO,eC,dG]
theorem Tx (n:Net):bG.cS 0 ⟨True,(.exit 4),pN n,range 1,pO n⟩=true:=by refine (aR rfl rfl rfl ?_ ?_)<;>simp (maxDischargeDepth:=9) [nxW,htW,sa,Gv,pN,plS,AV.pure,ah,aj,Bq,Br,Gw,pO,plO,eC,dG]
theorem Gy:dp [6] Bo=[(6,.loop IV)]:=by kernel_rfl
theorem Ty (n:Net) (hn:bt n) (hf:bp n):cQ pg 94 0 4 (.loop Bo) (Bt n):=
 have hr:=hf.rules;have hs:=hf.aa;iZ (fun _=>eB (id:=4) (m:=length n.rules) (t:=IW n) (xr:= .ret) (xn:=(.exit 4)) (Lr:=Gv n) (Lx:=pN n) (obr:=Gw n) (obx:=pO n) (V:=fun i4=>vcC pg 94 (bI [Th n (ae n.rules i4).stop] base) aK 3000 (kbL [(6,tM n i4 (dO n i4))]) Bo) (sa n) (Br n) 1 (IX n) (XE n) _ _ (fun i4 hx4=>aL (bo (.cons (g59b n (ae n.rules i4).stop) rfl cr.nil) aw) mixed (bK (l:=[(6,tM n i4 (dO n i4))]) Gy (aT (Tv n i4 (dO n i4) hn hf hx4 (nP n i4)) rfl bj) rfl)) (aL aw mixed (az _)) (fun e=>by cases e) (fun e=>by cases e) (fun _=>rfl) (fun i4 hx4=>ZS n i4 hn hf hx4) (fun i4 _=>Tw n i4) (fun i4 _=>show∀ww∈IX n i4,cm _ _ _ _ _ _ ww from (aC bU bB)) (ZT n hn hf) (Tx n)) (fun _=>rfl) rfl (fun h=>h)
def r29 (n:Net):Bool:= !(r65 (dO n (length n.rules)))
theorem vN:dp [0,4] (aH 29)=[(0,.loop gk),(4,.loop Bo)]:=by kernel_rfl
theorem ZU (n:Net) (hn:bt n) (hf:bp n):bg pg 29 [.pf (aW n)] [] [] (B (r29 n)) []:=
 have hr:=hf.rules;have hs:=hf.aa;bD (fn:=Tryz.f29) (callf:=(x8 [i65 (dO n (length n.rules)) (length (map ak n.aa))] base)) (pu:=aK) (lf:=3000) (l:=[(0,Gr n),(4,Bt n)]) (t:=(.r [bT] (.r [bT] (.r [bT] (.no (.r [bT] (.r [bT] (.no (.r [.cd 0 [],bT] .nil))))))))) (C4 (.cons (g65 (dO n (length n.rules)) (length (map ak n.aa))) ur.nil) aw) mixed Tryz.func29 oaa (show Tryz.f29.body=some (aH 29) by kernel_rfl) (Nat.le_of_ble_eq_true rfl) (bK (l:=[(0,Gr n),(4,Bt n)]) vN (aT (Ts n hn hf) rfl (aT (Ty n hn hf) rfl bj)) rfl) rfl (bc
 (an a0
 (have l1:=aU ak (n.aa);an (ac (mko (length (map ak n.aa)) 24) a0)
 (an a0
 (an (kbT (Gr n) trivial) (an (rfl:false=false) (an (ac (mko (length (map ak n.aa)) 1) a0)
 (an a0
 (an (Ch (Bt n) (S:=nm (KB.L0 (Bt n))) rfl (bq (congrArg (fun z=>Ob.row 4 1 z) (EU (f:=aA) (length (map ak n.aa)) false)) dZ) trivial) (an (rfl:false=false) (an (ac (qE (c:=i65 (dO n (length n.rules)) (length (map ak n.aa))) ⟨by rw [nP,List.length_map],by rw [nP];omega⟩ rfl) a0)
 (bE (show r29 n=(!(r65 (dO n (length n.rules)))) from rfl))))))))))))
 oaa)
theorem Bu {n:Net} {s r:Int} (h:r62 n s r=true):0<=s/\s<(n.aa.length:Int):=by
 unfold r62 at h
 simp only [Bool.and_eq_true,decide_eq_true_eq,List.length_map] at h
 omega
theorem Tz {n:Net} (h:r27 n=true) {i:Nat} (hi:i<n.rules.length):r62 n (ae n.rules i).start i=true/\r62 n (ae n.rules i).stop i=true:=by
 have:=bL.1 (show wv n=false by simpa [r27] using h) i hi
 unfold jv at this
 cases hl:(ae n.rules i).bO with
 |true=>
  rw [hl] at this
  simp only [cond_true,Bool.or_eq_false_iff,Bool.not_eq_false'] at this
  exact ⟨this.1,this.2.1⟩
 |false=>
  rw [hl] at this
  simp only [cond_false,Bool.or_eq_false_iff,Bool.not_eq_false'] at this
  exact ⟨this.1,this.2.1⟩
theorem Lq {n:Net} (h:r28 n=true) {i:Nat} (hi:i<n.aa.length):(0<=(ae n.aa i).aI/\(ae n.aa i).aI<(n.rules.length:Int))/\ ∀k,k<(ae n.aa i).ai.length->dS n i k=false:=by
 have:=bL.1 (show wz n=false by simpa [r28] using h) i hi
 unfold lW at this
 simp only [Bool.or_eq_false_iff,decide_eq_false_iff_not,List.length_map] at this
 obtain ⟨h1,h2,h3⟩:=this
 have h3:ik n i=false:=by
  revert h3
  cases ((((ae n.aa i).ai.length:Nat):Int)==0) with
  |true=>intro h3;simp only [cond_true,Bool.or_eq_false_iff] at h3;exact h3.2
  |false=>exact fun h3=>h3
 exact ⟨by omega,fun k hk=>bL.1 h3 k hk⟩
theorem ZV {n:Net} {i k:Nat} (h:dS n i k=false):0<=(ae (ae n.aa i).ai k).to/\(ae (ae n.aa i).ai k).to<(n.aa.length:Int):=by
 unfold dS at h
 simp only [Bool.or_eq_false_iff,Bool.not_eq_false'] at h
 exact Bu h.1
theorem TA {n:Net} {i k:Nat} (h:dS n i k=false) (h2:(ae (ae n.aa i).ai k).op=2):0<=(ae (ae n.aa i).ai k).n/\(ae (ae n.aa i).ai k).n<(n.rules.length:Int):=by
 unfold dS at h
 rw [h2] at h
 simp only [show ((2:Int) !=3)=true from rfl,show ((2:Int)==0)=false from rfl,show ((2:Int)==1)=false from rfl,show ((2:Int)==2)=true from rfl,cond_true,cond_false,Bool.or_eq_false_iff,Bool.not_eq_false'] at h
 have h79:r79 n (aq n.rules (ae n.aa i).aI) (ae n.aa i).aI (ae (ae n.aa i).ai k)=true:=by
  first
   |exact h.2.2.2.2.2.2.2.2.2.2.2
   |(simp only [h])
 unfold r79 at h79
 simp only [Bool.and_eq_true,decide_eq_true_eq,List.length_map] at h79
 omega
theorem well2 {n:Net} (h2:r27 n=true) (h3:r28 n=true):bt n where
 to:=fun s hs e he=>by
  obtain ⟨i,hi,rfl⟩:=b8 hs
  obtain ⟨k,hk,rfl⟩:=b8 he
  exact ZV ((Lq h3 hi).2 k hk)
 call:=fun s hs e he h=>by
  obtain ⟨i,hi,rfl⟩:=b8 hs
  obtain ⟨k,hk,rfl⟩:=b8 he
  exact TA ((Lq h3 hi).2 k hk) h
 start:=fun r hr=>by
  obtain ⟨i,hi,rfl⟩:=b8 hr
  exact Bu (Tz h2 hi).1
 stop:=fun r hr=>by
  obtain ⟨i,hi,rfl⟩:=b8 hr
  exact Bu (Tz h2 hi).2
theorem tN {n:Net} (h2:(!r27 n)=false) (h3:(!r28 n)=false):bt n:=well2 (by simpa using h2) (by simpa using h3)
theorem TB {n:Net} (h:(!r28 n)=false) {i:Nat} (hi:i<n.aa.length):0<=(ae n.aa i).aI/\(ae n.aa i).aI<(n.rules.length:Int):=(Lq oaM hi).1
theorem Gz (n:Net):(r24 n).length=n.rules.length:=by simp [r24,iR,DP]
theorem ow (n:Net) (hn:bt n) (hf:bp n):bg pg 24 [.pf (aW n)] [] [] (.sl 1 ((r24 n).map aA)) []:=
 lC (o:=0) (T:=4) (Co n hn hf) rfl (by simp [r24,iR,DP]) (aY bR _)
noncomputable def tgL (n:Net) (e:Edge):List Int:=bif e.op==2 then (bif ca.bO (aq n.rules e.n) then [e.n] else []) else []
theorem MO (n:Net) (emp:List Bool) (e:Edge):(tgE n emp e).length<=2:=by
 unfold tgE
 cases e.op==1<;>cases e.op==2<;>cases aq emp e.n<;>simp
theorem MP (n:Net) (e:Edge):(tgL n e).length<=2:=by
 unfold tgL
 cases e.op==2<;>cases ca.bO (aq n.rules e.n)<;>simp
noncomputable def Bv (n:Net):List (List Int):=n.aa.map fun s=>s.ai.flatMap (tgE n (r24 n))
noncomputable def iF (n:Net):List (List Nat):=(Bv n).map (map Int.toNat)
noncomputable def stC (n:Net) (i k:Nat) (G:List (List Int)):List (List Int):=List.set G (ae n.aa i).aI.toNat (ae G (ae n.aa i).aI.toNat++tgL n (ae (ae n.aa i).ai k))
noncomputable def ox (n:Net):List (List Int):=gm (stC n) (fun i=>(ae n.aa i).ai.length) (replicate n.rules.length []) n.aa.length
noncomputable def fj (n:Net):List (List Nat):=(ox n).map (map Int.toNat)
theorem tO (n:Net):(ox n).length=n.rules.length:=by
 unfold ox
 rw [Bn (step:=stC n) (m:=n.aa.length) (to:=fun i _=>(ae n.aa i).aI.toNat) (xs:=fun i k=>tgL n (ae (ae n.aa i).ai k)) (fun i k G _ _=>rfl) _ _ (Nat.le_refl _)]
 simp
theorem nQ {n:Net} (hr: ∀s∈n.aa,0<=s.aI/\s.aI<(n.rules.length:Int)) (t:Nat) (c:Int):c∈ae (ox n) t↔ ∃s∈n.aa,s.aI.toNat=t/\ ∃e∈s.ai,c∈tgL n e:=by
 unfold ox
 rw [IT (step:=stC n) (m:=n.aa.length) (to:=fun i _=>(ae n.aa i).aI.toNat) (xs:=fun i k=>tgL n (ae (ae n.aa i).ai k)) (fun i k G _ _=>rfl) (fun i k hi hk=>by have:=hr _ (ay hi);omega) _ (Nat.le_refl _)]
 constructor
 ·rintro ⟨p,h1,q,h2,h3,h4⟩
  exact ⟨_,ay h1,h3,_,ay h2,h4⟩
 ·rintro ⟨s,hs,h3,e,he,h4⟩
  obtain ⟨p,h1,rfl⟩:=b8 hs
  obtain ⟨q,h2,rfl⟩:=b8 he
  exact ⟨p,h1,q,h2,h3,h4⟩
theorem sb {α β:Type} {f:Nat->Nat->α->α} {g:Nat->Nat->β->β} {len:Nat->Nat} (a:α) (b:β) (i:Nat):gm (fun i k (G:α×β)=>(f i k G.1,g i k G.2)) len (a,b) i=(gm f len a i,gm g len b i):=by
 have inn: ∀i (s:α×β) k,inF (fun i k (G:α×β)=>(f i k G.1,g i k G.2)) i s k=(inF f i s.1 k,inF g i s.2 k):=fun i s k=>by
  induction k with
  |zero=>rfl
  |succ k ih=>
   show (f i k (inF (fun i k (G:α×β)=>(f i k G.1,g i k G.2)) i s k).1,g i k (inF (fun i k (G:α×β)=>(f i k G.1,g i k G.2)) i s k).2)=_
   rw [ih];rfl
 induction i with
 |zero=>rfl
 |succ i ih=>
  show inF (fun i k (G:α×β)=>(f i k G.1,g i k G.2)) i (gm (fun i k (G:α×β)=>(f i k G.1,g i k G.2)) len (a,b) i) (len i)=_
  rw [ih,inn];rfl
noncomputable def fO (g:List (List Nat)):Bool:=dec (∃i,Rp g i i)
structure fC (g:List (List Nat)):Prop where
 wf:Wf g
 len:g.length<=1000000
 row: ∀R∈g,R.length<=2000000000000
theorem MQ {n:Net} (h:(!r28 n)=false): ∀s∈Net.aa n,0<=s.aI/\s.aI<(length n.rules:Int):=fun s hs=>by
 obtain ⟨i,hi,rfl⟩:=b8 hs
 exact TB h hi
def dH:Prop:= ∀g:List (List Nat),fC g->bg pg 30 [.sl 1 (g.map bn)] [] [] (B (fO g)) []
def i30 (g:List (List Nat)):cc:=⟨30,[.sl 1 (g.map bn)],B (fO g),fC g⟩
theorem g30 (h30:dH) (g:List (List Nat)):(i30 g).b7 pg:=fun hp=>⟨h30 g hp,by simp [i30,ah,AV.pure],rfl⟩
def i26 (n:Net):cc:=⟨26,[.pf (aW n)],B (r26 n),bp n⟩
theorem g26 (n:Net):(i26 n).b7 pg:=fun hp=>⟨MF n hp.h,by simp [i26,ah,AV.pure],by simp [i26,AV.pure,ah]⟩
def i27 (n:Net):cc:=⟨27,[.pf (aW n)],B (r27 n),bp n⟩
theorem g27 (n:Net):(i27 n).b7 pg:=fun hp=>⟨VO n hp,by simp [i27,ah,AV.pure],by simp [i27,AV.pure,ah]⟩
def i28 (n:Net):cc:=⟨28,[.pf (aW n)],B (r28 n),bp n⟩
theorem g28 (n:Net):(i28 n).b7 pg:=fun hp=>⟨RY n hp,by simp [i28,ah,AV.pure],by simp [i28,AV.pure,ah]⟩
def i29 (n:Net):cc:=⟨29,[.pf (aW n)],B (r29 n),bt n/\bp n⟩
theorem g29 (n:Net):(i29 n).b7 pg:=fun hp=>⟨ZU n hp.1 hp.2,by simp [i29,ah,AV.pure],by simp [i29,AV.pure,ah]⟩
def i24 (n:Net):cc:=⟨24,[.pf (aW n)],.sl 1 ((r24 n).map aA),bt n/\bp n⟩
theorem g24 (n:Net):(i24 n).b7 pg:=fun hp=>⟨ow n hp.1 hp.2,by simp [i24,ah,AV.pure],by simp [i24,AV.pure,ah]⟩
theorem IY {n:Net} (hn:bt n) (hf:bp n):fC (iF n) where
 wf:=fun R hR c hc=>by
  obtain ⟨R',hR',rfl⟩:=List.mem_map.1 hR
  obtain ⟨x,hx,rfl⟩:=List.mem_map.1 hc
  obtain ⟨s,hs,rfl⟩:=List.mem_map.1 hR'
  obtain ⟨e,he,hx2⟩:=List.mem_flatMap.1 hx
  obtain ⟨i,hi,rfl⟩:=b8 hs
  have he2:e∈(aq n.aa (i:Nat)).ai:=he
  have:=rQ hn _ he2 x hx2
  simp only [iF,Bv,List.length_map]
  omega
 len:=by simp only [iF,Bv,List.length_map];exact hf.aa
 row:=fun R hR=>by
  obtain ⟨R',hR',rfl⟩:=List.mem_map.1 hR
  obtain ⟨s,hs,rfl⟩:=List.mem_map.1 hR'
  rw [List.length_map]
  have key: ∀l:List Edge,(l.flatMap (tgE n (r24 n))).length<=2*l.length:=fun l=>by
   induction l with
   |nil=>exact Nat.le_refl _
   |cons e l ih=>
    rw [List.flatMap_cons,List.length_append,List.length_cons]
    have:=MO n (r24 n) e
    omega
  have:=key s.ai
  have:=hf.ai s hs
  omega
theorem Lt {step:Nat->Nat->List (List Int)->List (List Int)} {to:Nat->Nat->Nat} {xs:Nat->Nat->List Int} {i:Nat} (h: ∀k G,step i k G=G.set (to i k) (ae G (to i k)++xs i k)) (hx: ∀k,(xs i k).length<=2) {b:Nat} (G:List (List Int)) (hG: ∀R∈G,R.length<=b) (k:Nat): ∀R∈inF step i G k,R.length<=b+2*k:=by
 induction k with
 |zero=>exact hG
 |succ k ih=>
  show∀R∈step i k (inF step i G k),_
  rw [h]
  intro R hR
  have hx:=hx k
  rcases List.mem_or_eq_of_mem_set hR with h2|rfl
  ·have:=ih R h2;omega
  ·rw [List.length_append]
   by_cases ht:to i k<(inF step i G k).length
   ·have:=ih _ (ay ht)
    omega
   ·rw [ae,List.getElem?_eq_none oab]
    show 0+_<=_
    omega
theorem TC {n:Net} (hn:bt n) (hr: ∀s∈n.aa,0<=s.aI/\s.aI<(n.rules.length:Int)) (hf:bp n):fC (fj n) where
 wf:=fun R hR c hc=>by
  obtain ⟨R',hR',rfl⟩:=List.mem_map.1 hR
  obtain ⟨x,hx,rfl⟩:=List.mem_map.1 hc
  obtain ⟨t,_,rfl⟩:=b8 hR'
  obtain ⟨s,hs,_,e,he,hx⟩:=(nQ hr t x).1 hx
  rw [fj,List.length_map,tO]
  unfold tgL at hx
  cases h2:e.op==2 with
  |true=>
   have:=hn.call s hs e he (eq_of_beq h2)
   rw [h2] at hx
   cases hl:ca.bO (aq n.rules e.n) with
   |true=>
    rw [hl] at hx
    simp only [cond_true,List.mem_singleton] at hx
    omega
   |false=>rw [hl] at hx;simp at hx
  |false=>rw [h2] at hx;simp at hx
 len:=by rw [fj,List.length_map,tO];exact hf.rules
 row:=fun R hR=>by
  obtain ⟨R',hR',rfl⟩:=List.mem_map.1 hR
  rw [List.length_map]
  have key: ∀i,i<=n.aa.length-> ∀R∈gm (stC n) (fun i=>(ae n.aa i).ai.length) (replicate n.rules.length []) i,R.length<=i*2000000:=fun i=>by
   induction i with
   |zero=>intro _ R hR;rw [(List.mem_replicate.1 (show R∈replicate n.rules.length [] from hR)).2];exact Nat.zero_le _
   |succ i ih=>
    intro hi R hR
    have:R.length<=i*2000000+2*(ae n.aa i).ai.length:=Lt (step:=stC n) (to:=fun i _=>(ae n.aa i).aI.toNat) (xs:=fun i k=>tgL n (ae (ae n.aa i).ai k)) (i:=i) (fun k G=>rfl) (fun k=>MP _ _) _ (ih oab) _ R hR
    have he:=hf.ai _ (ay (show i<n.aa.length by omega))
    omega
  have:=key _ (Nat.le_refl _) R' hR'
  have:=hf.aa
  omega
def fP:Code:=bP 0 (aH 10)
def IZ:Code:=bP 2 fP
theorem TD:fP= .seq (sq1 fP) (.seq (sq1 (sq2 fP)) (.seq (.block 1 (.seq (sq1 (Gh (sq1 (sq2 (sq2 fP))))) (.seq (sq1 (sq2 (Gh (sq1 (sq2 (sq2 fP)))))) (.block 2 (.loop IZ))))) (sq2 (sq2 (sq2 fP))))):=by kernel_rfl
abbrev zP (i0:Nat) (n:Net):Am.Loc:=[(1,.pf (aW n)),(3,.sl 1 (zx n)),(4,.sr 0 1 0 (zY n)),(5,.sr (length n.aa+1) 1 0 (zB n)),(36,.sl 2 (zA n)),(37,I (length (zA n):Int)),(38,I (i0:Int))]
abbrev zR (i0:Nat) (n:Net):Am.Loc:=[(1,.pf (aW n)),(3,.sl 1 (zx n)),(4,.sr 0 1 0 (zY n)),(5,.sr (length n.aa+1) 1 0 (zB n)),(36,.sl 2 (zA n)),(37,I (length (zA n):Int)),(38,I (i0:Int)),(39,B (decide ((i0:Int)<(length (zA n):Int))))]
theorem TE (n:Net) (i0:Nat) (h30:dH) (hf:bp n) (hn:bt n/\ ∀s∈Net.aa n,0<=s.aI/\s.aI<(length n.rules:Int)) (hx0:i0<length n.aa) (v:Nat->Value):vcC pg 141 base aK 3000 (kbL []) (sq1 fP) (bz (bA [4,5] v (zP i0 n))) (bw []) 0 (bM [⟨True,.normal,bA [4,5] v (zR i0 n),[],[]⟩]) zBJ:=
 bc (an (a1 a0)
 (lf (wy [⟨True,.normal,bA [4,5] v [(1,.pf (aW n)),(3,.sl 1 (map aA (r24 n))),(4,.sr 0 1 0 (length (map ak n.aa))),(5,.sr (length n.aa+1) 1 0 (length (map aE n.rules))),(36,.sl 2 (map ak n.aa)),(37,I (length (map ak n.aa):Int)),(38,I (i0:Int)),(39,B (zc i0 n))],[],[]⟩] 0) 0 trivial))
 oaa
theorem ZW (n:Net) (i0:Nat) (h30:dH) (hf:bp n) (hn:bt n/\ ∀s∈Net.aa n,0<=s.aI/\s.aI<(length n.rules:Int)) (hx0:i0<length n.aa) (ob:List Ob):Piece pg 141 0 (sq1 fP) (zP i0 n) ob .normal (zR i0 n) ob:=
 bZ [4,5] oaa rfl oae oac fun v=>cF (aL aw mixed (az _)) (TE n i0 h30 hf hn hx0 v) (aR rfl rfl rfl oah rfl)
abbrev zW (i0:Nat) (n:Net):Am.Loc:=[(1,.pf (aW n)),(3,.sl 1 (zx n)),(4,.sr 0 1 0 (zY n)),(5,.sr (length n.aa+1) 1 0 (zB n)),(36,.sl 2 (zA n)),(37,I (length (zA n):Int)),(38,I (i0:Int)),(39,B true)]
theorem TF (n:Net) (i0:Nat) (h30:dH) (hf:bp n) (hn:bt n/\ ∀s∈Net.aa n,0<=s.aI/\s.aI<(length n.rules:Int)) (hx0:i0<length n.aa) (v:Nat->Value):vcC pg 141 base aK 3000 (kbL []) (sq1 (sq2 fP)) (bz (bA [4,5] v (zR i0 n))) (bw []) 0 (bM [⟨True,.normal,bA [4,5] v (zW i0 n),[],[]⟩]) (.yes (.pick 0)):=
 have hr:=hf.rules;have hs:=hf.aa;have hed:=hf.ai _ (ay hx0);have l1:=aU ak (n.aa);have hb:(zc i0 n)=true:=decide_eq_true oab;bc (an hb (lf (wy [⟨True,.normal,bA [4,5] v [(1,.pf (aW n)),(3,.sl 1 (map aA (r24 n))),(4,.sr 0 1 0 (length (map ak n.aa))),(5,.sr (length n.aa+1) 1 0 (length (map aE n.rules))),(36,.sl 2 (map ak n.aa)),(37,I (length (map ak n.aa):Int)),(38,I (i0:Int)),(39,B true)],[],[]⟩] 0) 0 trivial))
 oaa
theorem ZX (n:Net) (i0:Nat) (h30:dH) (hf:bp n) (hn:bt n/\ ∀s∈Net.aa n,0<=s.aI/\s.aI<(length n.rules:Int)) (hx0:i0<length n.aa) (ob:List Ob):Piece pg 141 0 (sq1 (sq2 fP)) (zR i0 n) ob .normal (zW i0 n) ob:=
 bZ [4,5] oaa rfl oae oac fun v=>cF (aL aw mixed (az _)) (TF n i0 h30 hf hn hx0 v) (aR rfl rfl rfl oah rfl)
abbrev zBn:=(Gh (sq1 (sq2 (sq2 fP))))
theorem TG (n:Net) (i0:Nat) (h30:dH) (hf:bp n) (hn:bt n/\ ∀s∈Net.aa n,0<=s.aI/\s.aI<(length n.rules:Int)) (hx0:i0<length n.aa) (v:Nat->Value):vcC pg 141 base aK 3000 (kbL []) (sq1 zBn) (bz (bA [4,5] v (zW i0 n))) (bw []) 0 (bM [⟨True,.normal,bA [4,5] v [(1,.pf (aW n)),(3,.sl 1 (zx n)),(4,.sr 0 1 0 (zY n)),(5,.sr (length n.aa+1) 1 0 (zB n)),(6,I (i0:Int)),(7,.pt 0 0),(36,.sl 2 (zA n)),(37,I (length (zA n):Int)),(38,I (i0:Int)),(39,B true),(40,I (i0:Int)),(41,.pf (zK i0 n)),(42,.ag (zK i0 n))],[0],[.box 40 (zK i0 n)]⟩]) (.r [.row (zK i0 n),bT] (.pick 0)):=
 have hr:=hf.rules;have hs:=hf.aa;have hed:=hf.ai _ (ay hx0);bc (an (ac (rwa ak n.aa i0) a0)
 (lf (wy [⟨True,.normal,bA [4,5] v [(1,.pf (aW n)),(3,.sl 1 (map aA (r24 n))),(4,.sr 0 1 0 (length (map ak n.aa))),(5,.sr (length n.aa+1) 1 0 (length (map aE n.rules))),(6,I (i0:Int)),(7,.pt 0 0),(36,.sl 2 (map ak n.aa)),(37,I (length (map ak n.aa):Int)),(38,I (i0:Int)),(39,B true),(40,I (i0:Int)),(41,.pf (ak (ae n.aa i0))),(42,.ag (ak (ae n.aa i0)))],[0],[.box 40 (ak (ae n.aa i0))]⟩] 0) 1 trivial))
 oaa
abbrev zl (i0:Nat) (n:Net):Am.Loc:=[(1,.pf (aW n)),(3,.sl 1 (zx n)),(4,.sr 0 1 0 (zY n)),(5,.sr (length n.aa+1) 1 0 (zB n)),(6,I (i0:Int)),(7,.pf (zK i0 n)),(36,.sl 2 (zA n)),(37,I (length (zA n):Int)),(38,I (i0:Int)),(39,B true),(40,I (i0:Int)),(41,.pf (zK i0 n)),(42,.ag (zK i0 n))]
theorem ZY (n:Net) (i0:Nat) (h30:dH) (hf:bp n) (hn:bt n/\ ∀s∈Net.aa n,0<=s.aI/\s.aI<(length n.rules:Int)) (hx0:i0<length n.aa) (ob:List Ob):Piece pg 141 0 (sq1 zBn) (zW i0 n) ob .normal (zl i0 n) ob:=
 bZ [4,5] oaa rfl oae oac fun v=>fv (eQ.refl _ _) (cF (aL aw mixed (az _)) (TG n i0 h30 hf hn hx0 v) (aR rfl rfl rfl oah oap)) (sP (ob:=[]) (Tb:=40) (cells:=(ak (ae n.aa i0))) (Nat.zero_le _) (L' :=bA [4,5] v [(1,.pf (aW n)),(3,.sl 1 (map aA (r24 n))),(4,.sr 0 1 0 (length (map ak n.aa))),(5,.sr (length n.aa+1) 1 0 (length (map aE n.rules))),(6,I (i0:Int)),(7,.pf (ak (ae n.aa i0))),(36,.sl 2 (map ak n.aa)),(37,I (length (map ak n.aa):Int)),(38,I (i0:Int)),(39,B true),(40,I (i0:Int)),(41,.pf (ak (ae n.aa i0))),(42,.ag (ak (ae n.aa i0)))]) oal rfl) rfl
abbrev zAN (i0:Nat) (n:Net):Am.Loc:=[(1,.pf (aW n)),(3,.sl 1 (zx n)),(4,.sr 0 1 0 (zY n)),(5,.sr (length n.aa+1) 1 0 (zB n)),(6,I (i0:Int)),(7,.pf (zK i0 n)),(36,.sl 2 (zA n)),(37,I (length (zA n):Int)),(38,I (i0:Int)),(44,.sl 10 (zd i0 n)),(45,I (length (zd i0 n):Int)),(46,I 0)]
theorem TH (n:Net) (i0:Nat) (h30:dH) (hf:bp n) (hn:bt n/\ ∀s∈Net.aa n,0<=s.aI/\s.aI<(length n.rules:Int)) (hx0:i0<length n.aa) (v:Nat->Value):vcC pg 141 base aK 3000 (kbL []) (sq1 (sq2 zBn)) (bz (bA [4,5] v (zl i0 n))) (bw []) 0 (bM [⟨True,.normal,bA [4,5] v (zAN i0 n),[],[]⟩]) zt:=
 bc (an a0
 (lf (wy [⟨True,.normal,bA [4,5] v [(1,.pf (aW n)),(3,.sl 1 (map aA (r24 n))),(4,.sr 0 1 0 (length (map ak n.aa))),(5,.sr (length n.aa+1) 1 0 (length (map aE n.rules))),(6,I (i0:Int)),(7,.pf (ak (ae n.aa i0))),(36,.sl 2 (map ak n.aa)),(37,I (length (map ak n.aa):Int)),(38,I (i0:Int)),(44,.sl 10 (map aV (ae n.aa i0).ai)),(45,I (length (map aV (ae n.aa i0).ai):Int)),(46,I 0)],[],[]⟩] 0) 0 trivial))
 oaa
theorem ZZ (n:Net) (i0:Nat) (h30:dH) (hf:bp n) (hn:bt n/\ ∀s∈Net.aa n,0<=s.aI/\s.aI<(length n.rules:Int)) (hx0:i0<length n.aa) (ob:List Ob):Piece pg 141 0 (sq1 (sq2 zBn)) (zl i0 n) ob .normal (zAN i0 n) ob:=
 bZ [4,5] oaa rfl oae oac fun v=>cF (aL aw mixed (az _)) (TH n i0 h30 hf hn hx0 v) (aR rfl rfl rfl oah rfl)
abbrev zAJ (i0:Nat) (n:Net):Am.Loc:=[(1,.pf (aW n)),(3,.sl 1 (zx n)),(4,.sr 0 1 0 (zY n)),(5,.sr (length n.aa+1) 1 0 (zB n)),(6,I (i0:Int)),(7,.pf (zK i0 n)),(36,.sl 2 (zA n)),(37,I (length (zA n):Int)),(38,I (i0:Int)),(44,.sl 10 (zd i0 n)),(45,I (length (zd i0 n):Int)),(46,I (((zBa i0 n):Nat):Int))]
theorem TI (n:Net) (i0:Nat) (h30:dH) (hf:bp n) (hn:bt n/\ ∀s∈Net.aa n,0<=s.aI/\s.aI<(length n.rules:Int)) (hx0:i0<length n.aa) (v:Nat->Value):vcC pg 141 base aK 3000 (kbL []) IZ (bz (bA [4,5] v (zAJ i0 n))) (bw []) 0 (bM [⟨True,(.exit 2),bA [4,5] v (zP i0 n),[],[]⟩]) zG:=
 have hr:=hf.rules;have hs:=hf.aa;have hed:=hf.ai _ (ay hx0);have l1:=aU aV ((ae n.aa i0).ai);have hb:(zz i0 n)=false:=decide_eq_false oab;bc (an (a1 a0)
 (an hb (lf (wy [⟨True,(.exit 2),bA [4,5] v [(1,.pf (aW n)),(3,.sl 1 (map aA (r24 n))),(4,.sr 0 1 0 (length (map ak n.aa))),(5,.sr (length n.aa+1) 1 0 (length (map aE n.rules))),(36,.sl 2 (map ak n.aa)),(37,I (length (map ak n.aa):Int)),(38,I (i0:Int))],[],[]⟩] 0) 0 trivial)))
 oaa
theorem Z0 (n:Net) (i0:Nat) (h30:dH) (hf:bp n) (hn:bt n/\ ∀s∈Net.aa n,0<=s.aI/\s.aI<(length n.rules:Int)) (hx0:i0<length n.aa) (ob:List Ob):Piece pg 141 0 IZ (zAJ i0 n) ob (.exit 2) (zP i0 n) ob:=
 bZ [4,5] oaa rfl oae oac fun v=>cF (aL aw mixed (az _)) (TI n i0 h30 hf hn hx0 v) (aR rfl rfl rfl oah rfl)
abbrev zAk (i0:Nat) (n:Net):Am.Loc:=[(1,.pf (aW n)),(3,.sl 1 (zx n)),(4,.sr 0 1 0 (zY n)),(5,.sr (length n.aa+1) 1 0 (zB n)),(36,.sl 2 (zA n)),(37,I (length (zA n):Int)),(38,I ↑(i0+1))]
theorem TJ (n:Net) (i0:Nat) (h30:dH) (hf:bp n) (hn:bt n/\ ∀s∈Net.aa n,0<=s.aI/\s.aI<(length n.rules:Int)) (hx0:i0<length n.aa) (v:Nat->Value):vcC pg 141 base aK 3000 (kbL []) (sq2 (sq2 (sq2 fP))) (bz (bA [4,5] v (zP i0 n))) (bw []) 0 (bM [⟨True,.normal,bA [4,5] v (zAk i0 n),[],[]⟩]) (.r [.int ↑(i0+1),bT] (.pick 0)):=
 have hr:=hf.rules;have hs:=hf.aa;have hed:=hf.ai _ (ay hx0);bc (an (ac (dwo ((i0+1:Nat):Int)) a0)
 (lf (wy [⟨True,.normal,bA [4,5] v [(1,.pf (aW n)),(3,.sl 1 (map aA (r24 n))),(4,.sr 0 1 0 (length (map ak n.aa))),(5,.sr (length n.aa+1) 1 0 (length (map aE n.rules))),(36,.sl 2 (map ak n.aa)),(37,I (length (map ak n.aa):Int)),(38,I ↑(i0+1))],[],[]⟩] 0) 0 trivial))
 oaa
theorem Z1 (n:Net) (i0:Nat) (h30:dH) (hf:bp n) (hn:bt n/\ ∀s∈Net.aa n,0<=s.aI/\s.aI<(length n.rules:Int)) (hx0:i0<length n.aa) (ob:List Ob):Piece pg 141 0 (sq2 (sq2 (sq2 fP))) (zP i0 n) ob .normal (zAk i0 n) ob:=
 bZ [4,5] oaa rfl oae oac fun v=>cF (aL aw mixed (az _)) (TJ n i0 h30 hf hn hx0 v) (aR rfl rfl rfl oah rfl)
abbrev zQ (n:Net):Am.Loc:=[(1,.pf (aW n)),(3,.sl 1 (zx n)),(4,.sr 0 1 0 (zY n)),(5,.sr (length n.aa+1) 1 0 (zB n)),(36,.sl 2 (zA n)),(37,I (length (zA n):Int)),(38,I (((zH n):Nat):Int)),(39,B (zBZ n))]
abbrev zAc (n:Net):Am.Loc:=[(1,.pf (aW n)),(3,.sl 1 (zx n)),(4,.sr 0 1 0 (zY n)),(5,.sr (length n.aa+1) 1 0 (zB n)),(36,.sl 2 (zA n)),(37,I (length (zA n):Int)),(38,I (((zH n):Nat):Int))]
theorem TK (n:Net) (h30:dH) (hf:bp n) (hn:bt n/\ ∀s∈Net.aa n,0<=s.aI/\s.aI<(length n.rules:Int)) (v:Nat->Value):vcC pg 141 base aK 3000 (kbL []) (sq1 fP) (bz (bA [4,5] v (zAc n))) (bw []) 0 (bM [⟨True,.normal,bA [4,5] v (zQ n),[],[]⟩]) zBJ:=
 bc (an (a1 a0)
 (lf (wy [⟨True,.normal,bA [4,5] v [(1,.pf (aW n)),(3,.sl 1 (map aA (r24 n))),(4,.sr 0 1 0 (length (map ak n.aa))),(5,.sr (length n.aa+1) 1 0 (length (map aE n.rules))),(36,.sl 2 (map ak n.aa)),(37,I (length (map ak n.aa):Int)),(38,I (((length n.aa):Nat):Int)),(39,B (zO n))],[],[]⟩] 0) 0 trivial))
 oaa
theorem Z2 (n:Net) (h30:dH) (hf:bp n) (hn:bt n/\ ∀s∈Net.aa n,0<=s.aI/\s.aI<(length n.rules:Int)) (ob:List Ob):Piece pg 141 0 (sq1 fP) (zAc n) ob .normal (zQ n) ob:=
 bZ [4,5] oaa rfl oae oac fun v=>cF (aL aw mixed (az _)) (TK n h30 hf hn v) (aR rfl rfl rfl oah rfl)
abbrev zBf (n:Net):Am.Loc:=[(1,.pf (aW n)),(3,.sl 1 (zx n)),(4,.sr 0 1 0 (zY n)),(5,.sr (length n.aa+1) 1 0 (zB n))]
theorem TL (n:Net) (h30:dH) (hf:bp n) (hn:bt n/\ ∀s∈Net.aa n,0<=s.aI/\s.aI<(length n.rules:Int)) (v:Nat->Value):vcC pg 141 base aK 3000 (kbL []) (sq1 (sq2 fP)) (bz (bA [4,5] v (zQ n))) (bw []) 0 (bM [⟨True,(.exit 0),bA [4,5] v (zBf n),[],[]⟩]) (.no (.pick 0)):=
 have hr:=hf.rules;have hs:=hf.aa;have l1:=aU ak (n.aa);have hb:(zO n)=false:=decide_eq_false oab;bc (an hb (lf (wy [⟨True,(.exit 0),bA [4,5] v [(1,.pf (aW n)),(3,.sl 1 (map aA (r24 n))),(4,.sr 0 1 0 (length (map ak n.aa))),(5,.sr (length n.aa+1) 1 0 (length (map aE n.rules)))],[],[]⟩] 0) 0 trivial))
 oaa
theorem Z3 (n:Net) (h30:dH) (hf:bp n) (hn:bt n/\ ∀s∈Net.aa n,0<=s.aI/\s.aI<(length n.rules:Int)) (ob:List Ob):Piece pg 141 0 (sq1 (sq2 fP)) (zQ n) ob (.exit 0) (zBf n) ob:=
 bZ [4,5] oaa rfl oae oac fun v=>cF (aL aw mixed (az _)) (TL n h30 hf hn v) (aR rfl rfl rfl oah rfl)
def cU (n:Net) (i0 i2:Nat) (la:List Int):List Int:=(bif (ae (ae n.aa i0).ai i2).op==1 then la else (bif (ae (ae n.aa i0).ai i2).op==2 then (bif !(aq (r24 n) (ae (ae n.aa i0).ai i2).n) then la++ [(aq n.rules (ae (ae n.aa i0).ai i2).n).start] else List.take (length la+1) (la++ [(aq n.rules (ae (ae n.aa i0).ai i2).n).start])++ [(ae (ae n.aa i0).ai i2).to]) else la++ [(ae (ae n.aa i0).ai i2).to]))
def cV (n:Net) (i0 i2:Nat) (lb:List Int):List Int:=(bif (ae (ae n.aa i0).ai i2).op==1 then lb else (bif (ae (ae n.aa i0).ai i2).op==2 then (bif (aq n.rules (ae (ae n.aa i0).ai i2).n).bO then lb++ [(ae (ae n.aa i0).ai i2).n] else lb) else lb))
abbrev zM (i0 i2:Nat) (n:Net):Am.Loc:=[(1,.pf (aW n)),(3,.sl 1 (zx n)),(4,.sr 0 1 0 (zY n)),(5,.sr 1 1 0 (zB n)),(6,I (i0:Int)),(7,.pf (zK i0 n)),(36,.sl 2 (zA n)),(37,I (length (zA n):Int)),(38,I (i0:Int)),(44,.sl 10 (zd i0 n)),(45,I (length (zd i0 n):Int)),(46,I ↑(i2+1))]
abbrev zBI (i0:Nat) (n:Net):=(((zp i0 n)).toNat)
abbrev zCC (lb:List Int):=(map aO lb)
abbrev zCH (lb:List Int):=(length lb)
def sc (n:Net) (i0 i2:Nat) (xs ys:List Value) (la lb:List Int):gn:=⟨(cU n i0 i2 la)=la/\(cV n i0 i2 lb)=lb,.normal,(zM i0 i2 n),[0,1,2,3],5,[.row 36 1 (aG (List.set (vs xs) i0 (.sr 2 1 0 (length la)))),.row 36 1 (aG (List.set (vs ys) (zBI i0 n) (.sr 3 1 0 (zCH lb)))),.row 3 1 (map aO la),.row 3 1 (zCC lb)],[.row 36 1 (aG (List.set (vs xs) i0 (.sr 2 1 0 (length la)))),.row 36 1 (aG (List.set (vs ys) (zBI i0 n) (.sr 3 1 0 (zCH lb)))),.row 3 1 (map aO la),.row 3 1 (zCC lb)]⟩
abbrev ze (i0 i2:Nat) (n:Net):=(aq n.rules (zAK i0 i2 n).n).start
def sd (n:Net) (i0 i2:Nat) (xs ys:List Value) (la lb:List Int):gn:=⟨(cU n i0 i2 la)=(la++ [(ze i0 i2 n)])/\(cV n i0 i2 lb)=(lb++ [(zAK i0 i2 n).n]),.normal,(zM i0 i2 n),[0,1,5,6],7,[.row 36 1 (aG (List.set (vs xs) i0 (.sr 2 1 0 (length (la++ [(ze i0 i2 n)]))))),.row 36 1 (aG (List.set (vs ys) (zBI i0 n) (.sr 3 1 0 (length (lb++ [(zAK i0 i2 n).n]))))),.row 3 1 (map aO (la++ [(ze i0 i2 n)])),.row 3 1 (map aO (lb++ [(zAK i0 i2 n).n]))],[.row 36 1 (aG (List.set (vs xs) i0 (.sr 5 1 0 (length (la++ [(ze i0 i2 n)]))))),.row 36 1 (aG (List.set (vs ys) (zBI i0 n) (.sr 6 1 0 (length (lb++ [(zAK i0 i2 n).n]))))),.row 3 1 (map aO (la++ [(ze i0 i2 n)])),.row 3 1 (map aO (lb++ [(zAK i0 i2 n).n]))]⟩
abbrev zAg (i0 i2:Nat) (la:List Int) (n:Net):=(map aO (List.take (length la+1) (la++ [(ze i0 i2 n)])++ [(zAK i0 i2 n).to]))
abbrev zAj (i0 i2:Nat) (la:List Int) (n:Net):=(length (List.take (length la+1) (la++ [(ze i0 i2 n)])++ [(zAK i0 i2 n).to]))
def se (n:Net) (i0 i2:Nat) (xs ys:List Value) (la lb:List Int):gn:=⟨(cU n i0 i2 la)=(List.take (length la+1) (la++ [(ze i0 i2 n)])++ [(zAK i0 i2 n).to])/\(cV n i0 i2 lb)=(lb++ [(zAK i0 i2 n).n]),.normal,(zM i0 i2 n),[0,1,7,6],8,[.row 36 1 (aG (List.set (vs xs) i0 (.sr 2 1 0 (zAj i0 i2 la n)))),.row 36 1 (aG (List.set (vs ys) (zBI i0 n) (.sr 3 1 0 (length (lb++ [(zAK i0 i2 n).n]))))),.row 3 1 (zAg i0 i2 la n),.row 3 1 (map aO (lb++ [(zAK i0 i2 n).n]))],[.row 36 1 (aG (List.set (vs xs) i0 (.sr 7 1 0 (zAj i0 i2 la n)))),.row 36 1 (aG (List.set (vs ys) (zBI i0 n) (.sr 6 1 0 (length (lb++ [(zAK i0 i2 n).n]))))),.row 3 1 (zAg i0 i2 la n),.row 3 1 (map aO (lb++ [(zAK i0 i2 n).n]))]⟩
def sf (n:Net) (i0 i2:Nat) (xs ys:List Value) (la lb:List Int):gn:=⟨(cU n i0 i2 la)=(la++ [(ze i0 i2 n)])/\(cV n i0 i2 lb)=lb,.normal,(zM i0 i2 n),[0,1,5,3],6,[.row 36 1 (aG (List.set (vs xs) i0 (.sr 2 1 0 (length (la++ [(ze i0 i2 n)]))))),.row 36 1 (aG (List.set (vs ys) (zBI i0 n) (.sr 3 1 0 (zCH lb)))),.row 3 1 (map aO (la++ [(ze i0 i2 n)])),.row 3 1 (zCC lb)],[.row 36 1 (aG (List.set (vs xs) i0 (.sr 5 1 0 (length (la++ [(ze i0 i2 n)]))))),.row 36 1 (aG (List.set (vs ys) (zBI i0 n) (.sr 3 1 0 (zCH lb)))),.row 3 1 (map aO (la++ [(ze i0 i2 n)])),.row 3 1 (zCC lb)]⟩
def sg (n:Net) (i0 i2:Nat) (xs ys:List Value) (la lb:List Int):gn:=⟨(cU n i0 i2 la)=(List.take (length la+1) (la++ [(ze i0 i2 n)])++ [(zAK i0 i2 n).to])/\(cV n i0 i2 lb)=lb,.normal,(zM i0 i2 n),[0,1,6,3],7,[.row 36 1 (aG (List.set (vs xs) i0 (.sr 2 1 0 (zAj i0 i2 la n)))),.row 36 1 (aG (List.set (vs ys) (zBI i0 n) (.sr 3 1 0 (zCH lb)))),.row 3 1 (zAg i0 i2 la n),.row 3 1 (zCC lb)],[.row 36 1 (aG (List.set (vs xs) i0 (.sr 6 1 0 (zAj i0 i2 la n)))),.row 36 1 (aG (List.set (vs ys) (zBI i0 n) (.sr 3 1 0 (zCH lb)))),.row 3 1 (zAg i0 i2 la n),.row 3 1 (zCC lb)]⟩
def sh (n:Net) (i0 i2:Nat) (xs ys:List Value) (la lb:List Int):gn:=⟨(cU n i0 i2 la)=(la++ [(zAK i0 i2 n).to])/\(cV n i0 i2 lb)=lb,.normal,(zM i0 i2 n),[0,1,5,3],6,[.row 36 1 (aG (List.set (vs xs) i0 (.sr 2 1 0 (length (la++ [(zAK i0 i2 n).to]))))),.row 36 1 (aG (List.set (vs ys) (zBI i0 n) (.sr 3 1 0 (zCH lb)))),.row 3 1 (map aO (la++ [(zAK i0 i2 n).to])),.row 3 1 (zCC lb)],[.row 36 1 (aG (List.set (vs xs) i0 (.sr 5 1 0 (length (la++ [(zAK i0 i2 n).to]))))),.row 36 1 (aG (List.set (vs ys) (zBI i0 n) (.sr 3 1 0 (zCH lb)))),.row 3 1 (map aO (la++ [(zAK i0 i2 n).to])),.row 3 1 (zCC lb)]⟩
abbrev zAQ (i0 i2:Nat) (n:Net):Am.Loc:=[(1,.pf (aW n)),(3,.sl 1 (zx n)),(4,.sr 0 1 0 (zY n)),(5,.sr 1 1 0 (zB n)),(6,I (i0:Int)),(7,.pf (zK i0 n)),(36,.sl 2 (zA n)),(37,I (length (zA n):Int)),(38,I (i0:Int)),(44,.sl 10 (zd i0 n)),(45,I (length (zd i0 n):Int)),(46,I (i2:Int))]
theorem Z4 (n:Net) (i0 i2:Nat) (xs ys:List Value) (la lb:List Int) (h30:dH) (hf:bp n) (hn:bt n/\ ∀s∈Net.aa n,0<=s.aI/\s.aI<(length n.rules:Int)) (hx0:i0<length n.aa) (hx2:i2<length (ae n.aa i0).ai) (hl1:length xs=(length n.aa)) (hl2:length ys=(length n.rules)) (hr1:length la<=2*(i0*1000000+i2)) (hr2:length lb<=2*(i0*1000000+i2)):vcC pg 141 base aK 3000 (kbL []) IZ (bz (zAQ i0 i2 n)) (bw [.row 36 1 (aG (List.set (vs xs) i0 (.sr 2 1 0 (length la)))),.row 36 1 (aG (List.set (vs ys) (zBI i0 n) (.sr 3 1 0 (zCH lb)))),.row 3 1 (map aO la),.row 3 1 (zCC lb)]) 4 (Qh [(sc n i0 i2 xs ys la lb),(sd n i0 i2 xs ys la lb),(se n i0 i2 xs ys la lb),(sf n i0 i2 xs ys la lb),(sg n i0 i2 xs ys la lb),(sh n i0 i2 xs ys la lb)]) (.r [.k,bT] (.yes (.r [.row (aV (zAK i0 i2 n)),bT] (.r [.k,bT] (.br (.r (zAn i2) (.pick 0)) (.r [.k,bT] (.br (.r [.at i0 0 [.sr 2 1 0 (length la)],.cd ((zAK i0 i2 n).n).toNat (aE (aq n.rules (zAK i0 i2 n).n)),.at i0 0 [.sr 2 1 0 (length la)],bT] (.r [.cd ((zAK i0 i2 n).n).toNat (aE (aq n.rules (zAK i0 i2 n).n)),bT] (.br (.r [.cd (zBI i0 n) [],.at (zBI i0 n) 0 [.sr 3 1 0 (zCH lb)],.cd (zBI i0 n) [],.at (zBI i0 n) 0 [.sr 3 1 0 (zCH lb)],bT] (.r [.cd ((zAK i0 i2 n).n).toNat (aA (aq (r24 n) (zAK i0 i2 n).n)),bT] (.br (.r (zAn i2) (.pick 1)) (.r [.at i0 0 [.sr 5 1 0 (length la+1)],.at i0 0 [.sr 5 1 0 (length la+1)],bT] (.r (zAn i2) (.pick 2)))))) (.r [.cd ((zAK i0 i2 n).n).toNat (aA (aq (r24 n) (zAK i0 i2 n).n)),bT] (.br (.r (zAn i2) (.pick 3)) (.r [.at i0 0 [.sr 5 1 0 (length la+1)],.at i0 0 [.sr 5 1 0 (length la+1)],bT] (.r (zAn i2) (.pick 4)))))))) (.r [.at i0 0 [.sr 2 1 0 (length la)],.at i0 0 [.sr 2 1 0 (length la)],bT] (.r (zAn i2) (.pick 5)))))))))):=
 have hr:=hf.rules;have hs:=hf.aa;have lms:=aU ak n.aa;have lmr:=aU aE n.rules;have hed:=hf.ai _ (ay hx0);have hto:=hn.1.to _ (ay hx0) _ (ay hx2);have hca:=hn.1.call _ (ay hx0) _ (ay hx2);have hrr:=hn.2 _ (ay hx0);have hrl:=Gz n;have l1:=aU aV ((ae n.aa i0).ai);have hb:(zAf i0 i2 n)=true:=decide_eq_true oab;
 bc (an (a1 a0)
 (an hb (an (ac (rwa aV (ae n.aa i0).ai i2) a0)
 (an (a1 a0)
 (brP (fun (h1:((ae (ae n.aa i0).ai i2).op==1)=true)=>have g1:=eq_of_beq h1;
 (an (ac (dwo ((i2+1:Nat):Int)) a0)
 (lfN (sc n i0 i2 xs ys la lb) ⟨(show (cU n i0 i2 la)=la from (cdT h1 rfl)),(show (cV n i0 i2 lb)=lb from (cdT h1 rfl))⟩ (bq (rfl:(.row 36 1 (aG (List.set (vs xs) i0 (.sr 2 1 0 (length la)))):Ob)= .row 36 1 (aG (List.set (vs xs) i0 (.sr 2 1 0 (length la))))) (bq (rfl:(.row 36 1 (aG (List.set (vs ys) (((ae n.aa i0).aI).toNat) (.sr 3 1 0 (length lb)))):Ob)= .row 36 1 (aG (List.set (vs ys) (((ae n.aa i0).aI).toNat) (.sr 3 1 0 (length lb))))) (bq (rfl:(.row 3 1 (map aO la):Ob)= .row 3 1 (map aO la)) (bq (rfl:(.row 3 1 (map aO lb):Ob)= .row 3 1 (map aO lb)) dZ))))))) (fun h1=>have g1:=ne_of_beq_false h1;
 (an (a1 a0)
 (brP (fun (h2:((ae (ae n.aa i0).ai i2).op==2)=true)=>have g2:=eq_of_beq h2;
 (have l2:=aU aE (n.rules);an (ac (stN (rfl:(aG (List.set (vs xs) i0 (.sr 2 1 0 (length la))))=(aG (List.set (vs xs) i0 (.sr 2 1 0 (length la))))) oab) (ac (ixL (z:=i0) (n:=length (map ak n.aa)) oab) (ac (apo (length la) 8 (rl aO la)) (ac (rwz aE n.rules (ae (ae n.aa i0).ai i2).n) (ac (atN (rfl:(aG (List.set (vs xs) i0 (.sr 2 1 0 (length la))))=(aG (List.set (vs xs) i0 (.sr 2 1 0 (length la))))) oab) (ac (ixL (z:=i0) (n:=length (map ak n.aa)) oab) a0))))))
 (an (ac (rwz aE n.rules (ae (ae n.aa i0).ai i2).n) a0)
 (brP (fun (h3:((aq n.rules (ae (ae n.aa i0).ai i2).n).bO)=true)=>
 (an (ac (stN (rfl:(aG (List.set (vs ys) (((ae n.aa i0).aI).toNat) (.sr 3 1 0 (length lb))))=(aG (List.set (vs ys) (((ae n.aa i0).aI).toNat) (.sr 3 1 0 (length lb))))) oab) (ac (ixI (x:=(ae n.aa i0).aI) (n:=length (map aE n.rules)) oab oab) (ac (apo (length lb) 8 (rl aO lb)) (ac (atN (rfl:(aG (List.set (vs ys) (((ae n.aa i0).aI).toNat) (.sr 3 1 0 (length lb))))=(aG (List.set (vs ys) (((ae n.aa i0).aI).toNat) (.sr 3 1 0 (length lb))))) oab) (ac (ixI (x:=(ae n.aa i0).aI) (n:=length (map aE n.rules)) oab oab) a0)))))
 (have l3:=aU aA ((r24 n));an (ac (rwz aA (r24 n) (ae (ae n.aa i0).ai i2).n) a0)
 (brP (fun (h4:(!(aq (r24 n) (ae (ae n.aa i0).ai i2).n))=true)=>
 (an (ac (dwo ((i2+1:Nat):Int)) a0)
 (lfN (sd n i0 i2 xs ys la lb) ⟨(show (cU n i0 i2 la)=(la++ [(aq n.rules (ae (ae n.aa i0).ai i2).n).start]) from (cdF h1 (cdT h2 (cdT h4 rfl)))),(show (cV n i0 i2 lb)=(lb++ [(ae (ae n.aa i0).ai i2).n]) from (cdF h1 (cdT h2 (cdT h3 rfl))))⟩ (bq ((congrArg (fun z=>Ob.row 36 1 z) (nW (rfl:(aG (List.set (vs xs) i0 (.sr 2 1 0 (length la))))=(aG (List.set (vs xs) i0 (.sr 2 1 0 (length la))))) (.sr 5 1 0 (length la+1)))).trans (congrArg (fun z=>Ob.row 36 1 (aG (List.set (vs xs) i0 (.sr 5 1 0 z)))) oai)) (bq ((congrArg (fun z=>Ob.row 36 1 z) (nW (rfl:(aG (List.set (vs ys) (((ae n.aa i0).aI).toNat) (.sr 3 1 0 (length lb))))=(aG (List.set (vs ys) (((ae n.aa i0).aI).toNat) (.sr 3 1 0 (length lb))))) (.sr 6 1 0 (length lb+1)))).trans (congrArg (fun z=>Ob.row 36 1 (aG (List.set (vs ys) (((ae n.aa i0).aI).toNat) (.sr 6 1 0 z)))) oai)) (bq (congrArg (fun z=>Ob.row 3 1 z) (apF (f:=aO) (rl aO la) (k:=length la) oaf (aq n.rules (ae (ae n.aa i0).ai i2).n).start)) (bq (congrArg (fun z=>Ob.row 3 1 z) (apF (f:=aO) (rl aO lb) (k:=length lb) oaf (ae (ae n.aa i0).ai i2).n)) dZ))))))) (fun h4=>
 (an (ac (stN (nW (rfl:(aG (List.set (vs xs) i0 (.sr 2 1 0 (length la))))=(aG (List.set (vs xs) i0 (.sr 2 1 0 (length la))))) (.sr 5 1 0 (length la+1))) oab) (ac (ixL (z:=i0) (n:=length (map ak n.aa)) oab) (ac (apo (length la+1) 8 (apF (f:=aO) (rl aO la) (k:=length la) oaf (aq n.rules (ae (ae n.aa i0).ai i2).n).start)) (ac (atN (nW (rfl:(aG (List.set (vs xs) i0 (.sr 2 1 0 (length la))))=(aG (List.set (vs xs) i0 (.sr 2 1 0 (length la))))) (.sr 5 1 0 (length la+1))) oab) (ac (ixL (z:=i0) (n:=length (map ak n.aa)) oab) a0)))))
 (an (ac (dwo ((i2+1:Nat):Int)) a0)
 (lfN (se n i0 i2 xs ys la lb) ⟨(show (cU n i0 i2 la)=(List.take (length la+1) (la++ [(aq n.rules (ae (ae n.aa i0).ai i2).n).start])++ [(ae (ae n.aa i0).ai i2).to]) from (cdF h1 (cdT h2 (cdF h4 rfl)))),(show (cV n i0 i2 lb)=(lb++ [(ae (ae n.aa i0).ai i2).n]) from (cdF h1 (cdT h2 (cdT h3 rfl))))⟩ (bq ((congrArg (fun z=>Ob.row 36 1 z) (nW (nW (rfl:(aG (List.set (vs xs) i0 (.sr 2 1 0 (length la))))=(aG (List.set (vs xs) i0 (.sr 2 1 0 (length la))))) (.sr 5 1 0 (length la+1))) (.sr 7 1 0 (length la+1+1)))).trans (congrArg (fun z=>Ob.row 36 1 (aG (List.set (vs xs) i0 (.sr 7 1 0 z)))) oai)) (bq ((congrArg (fun z=>Ob.row 36 1 z) (nW (rfl:(aG (List.set (vs ys) (((ae n.aa i0).aI).toNat) (.sr 3 1 0 (length lb))))=(aG (List.set (vs ys) (((ae n.aa i0).aI).toNat) (.sr 3 1 0 (length lb))))) (.sr 6 1 0 (length lb+1)))).trans (congrArg (fun z=>Ob.row 36 1 (aG (List.set (vs ys) (((ae n.aa i0).aI).toNat) (.sr 6 1 0 z)))) oai)) (bq (congrArg (fun z=>Ob.row 3 1 z) (apT (f:=aO) (apF (f:=aO) (rl aO la) (k:=length la) oaf (aq n.rules (ae (ae n.aa i0).ai i2).n).start) (length la+1) (ae (ae n.aa i0).ai i2).to)) (bq (congrArg (fun z=>Ob.row 3 1 z) (apF (f:=aO) (rl aO lb) (k:=length lb) oaf (ae (ae n.aa i0).ai i2).n)) dZ)))))))))))) (fun h3=>
 (have l3:=aU aA ((r24 n));an (ac (rwz aA (r24 n) (ae (ae n.aa i0).ai i2).n) a0)
 (brP (fun (h4:(!(aq (r24 n) (ae (ae n.aa i0).ai i2).n))=true)=>
 (an (ac (dwo ((i2+1:Nat):Int)) a0)
 (lfN (sf n i0 i2 xs ys la lb) ⟨(show (cU n i0 i2 la)=(la++ [(aq n.rules (ae (ae n.aa i0).ai i2).n).start]) from (cdF h1 (cdT h2 (cdT h4 rfl)))),(show (cV n i0 i2 lb)=lb from (cdF h1 (cdT h2 (cdF h3 rfl))))⟩ (bq ((congrArg (fun z=>Ob.row 36 1 z) (nW (rfl:(aG (List.set (vs xs) i0 (.sr 2 1 0 (length la))))=(aG (List.set (vs xs) i0 (.sr 2 1 0 (length la))))) (.sr 5 1 0 (length la+1)))).trans (congrArg (fun z=>Ob.row 36 1 (aG (List.set (vs xs) i0 (.sr 5 1 0 z)))) oai)) (bq (rfl:(.row 36 1 (aG (List.set (vs ys) (((ae n.aa i0).aI).toNat) (.sr 3 1 0 (length lb)))):Ob)= .row 36 1 (aG (List.set (vs ys) (((ae n.aa i0).aI).toNat) (.sr 3 1 0 (length lb))))) (bq (congrArg (fun z=>Ob.row 3 1 z) (apF (f:=aO) (rl aO la) (k:=length la) oaf (aq n.rules (ae (ae n.aa i0).ai i2).n).start)) (bq (rfl:(.row 3 1 (map aO lb):Ob)= .row 3 1 (map aO lb)) dZ))))))) (fun h4=>
 (an (ac (stN (nW (rfl:(aG (List.set (vs xs) i0 (.sr 2 1 0 (length la))))=(aG (List.set (vs xs) i0 (.sr 2 1 0 (length la))))) (.sr 5 1 0 (length la+1))) oab) (ac (ixL (z:=i0) (n:=length (map ak n.aa)) oab) (ac (apo (length la+1) 8 (apF (f:=aO) (rl aO la) (k:=length la) oaf (aq n.rules (ae (ae n.aa i0).ai i2).n).start)) (ac (atN (nW (rfl:(aG (List.set (vs xs) i0 (.sr 2 1 0 (length la))))=(aG (List.set (vs xs) i0 (.sr 2 1 0 (length la))))) (.sr 5 1 0 (length la+1))) oab) (ac (ixL (z:=i0) (n:=length (map ak n.aa)) oab) a0)))))
 (an (ac (dwo ((i2+1:Nat):Int)) a0)
 (lfN (sg n i0 i2 xs ys la lb) ⟨(show (cU n i0 i2 la)=(List.take (length la+1) (la++ [(aq n.rules (ae (ae n.aa i0).ai i2).n).start])++ [(ae (ae n.aa i0).ai i2).to]) from (cdF h1 (cdT h2 (cdF h4 rfl)))),(show (cV n i0 i2 lb)=lb from (cdF h1 (cdT h2 (cdF h3 rfl))))⟩ (bq ((congrArg (fun z=>Ob.row 36 1 z) (nW (nW (rfl:(aG (List.set (vs xs) i0 (.sr 2 1 0 (length la))))=(aG (List.set (vs xs) i0 (.sr 2 1 0 (length la))))) (.sr 5 1 0 (length la+1))) (.sr 6 1 0 (length la+1+1)))).trans (congrArg (fun z=>Ob.row 36 1 (aG (List.set (vs xs) i0 (.sr 6 1 0 z)))) oai)) (bq (rfl:(.row 36 1 (aG (List.set (vs ys) (((ae n.aa i0).aI).toNat) (.sr 3 1 0 (length lb)))):Ob)= .row 36 1 (aG (List.set (vs ys) (((ae n.aa i0).aI).toNat) (.sr 3 1 0 (length lb))))) (bq (congrArg (fun z=>Ob.row 3 1 z) (apT (f:=aO) (apF (f:=aO) (rl aO la) (k:=length la) oaf (aq n.rules (ae (ae n.aa i0).ai i2).n).start) (length la+1) (ae (ae n.aa i0).ai i2).to)) (bq (rfl:(.row 3 1 (map aO lb):Ob)= .row 3 1 (map aO lb)) dZ))))))))))))))) (fun h2=>have g2:=ne_of_beq_false h2;
 (an (ac (stN (rfl:(aG (List.set (vs xs) i0 (.sr 2 1 0 (length la))))=(aG (List.set (vs xs) i0 (.sr 2 1 0 (length la))))) oab) (ac (ixL (z:=i0) (n:=length (map ak n.aa)) oab) (ac (apo (length la) 8 (rl aO la)) (ac (atN (rfl:(aG (List.set (vs xs) i0 (.sr 2 1 0 (length la))))=(aG (List.set (vs xs) i0 (.sr 2 1 0 (length la))))) oab) (ac (ixL (z:=i0) (n:=length (map ak n.aa)) oab) a0)))))
 (an (ac (dwo ((i2+1:Nat):Int)) a0)
 (lfN (sh n i0 i2 xs ys la lb) ⟨(show (cU n i0 i2 la)=(la++ [(ae (ae n.aa i0).ai i2).to]) from (cdF h1 (cdF h2 rfl))),(show (cV n i0 i2 lb)=lb from (cdF h1 (cdF h2 rfl)))⟩ (bq ((congrArg (fun z=>Ob.row 36 1 z) (nW (rfl:(aG (List.set (vs xs) i0 (.sr 2 1 0 (length la))))=(aG (List.set (vs xs) i0 (.sr 2 1 0 (length la))))) (.sr 5 1 0 (length la+1)))).trans (congrArg (fun z=>Ob.row 36 1 (aG (List.set (vs xs) i0 (.sr 5 1 0 z)))) oai)) (bq (rfl:(.row 36 1 (aG (List.set (vs ys) (((ae n.aa i0).aI).toNat) (.sr 3 1 0 (length lb)))):Ob)= .row 36 1 (aG (List.set (vs ys) (((ae n.aa i0).aI).toNat) (.sr 3 1 0 (length lb))))) (bq (congrArg (fun z=>Ob.row 3 1 z) (apF (f:=aO) (rl aO la) (k:=length la) oaf (ae (ae n.aa i0).ai i2).to)) (bq (rfl:(.row 3 1 (map aO lb):Ob)= .row 3 1 (map aO lb)) dZ))))))))))))))))
 oaa
theorem Z5 (n:Net) (i0 i2:Nat) (xs ys:List Value) (la lb:List Int) (h30:dH) (hf:bp n) (hn:bt n/\ ∀s∈Net.aa n,0<=s.aI/\s.aI<(length n.rules:Int)) (hx0:i0<length n.aa) (hx2:i2<length (ae n.aa i0).ai) (hl1:length xs=(length n.aa)) (hl2:length ys=(length n.rules)) (hr1:length la<=2*(i0*1000000+i2)) (hr2:length lb<=2*(i0*1000000+i2)):Piece pg 141 2 IZ (zAQ i0 i2 n) [.row 36 1 (aG (List.set (vs xs) i0 (.sr 2 1 0 (length la)))),.row 36 1 (aG (List.set (vs ys) (zBI i0 n) (.sr 3 1 0 (zCH lb)))),.row 3 1 (map aO la),.row 3 1 (zCC lb)] .normal (zM i0 i2 n) [.row 36 1 (aG (List.set (vs xs) i0 (.sr 2 1 0 (length (cU n i0 i2 la))))),.row 36 1 (aG (List.set (vs ys) (zBI i0 n) (.sr 3 1 0 (length (cV n i0 i2 lb))))),.row 3 1 (map aO (cU n i0 i2 la)),.row 3 1 (map aO (cV n i0 i2 lb))]:=
 J6 (aL aw mixed (az _)) (Z4 n i0 i2 xs ys la lb h30 hf hn hx0 hx2 hl1 hl2 hr1 hr2) (dX (o:=(sc n i0 i2 xs ys la lb)) (mH rfl rfl rfl (by simp [sc,plS,AV.pure,ah,aj]) (bq ((ew (f:=(b0 [0,1,2,3] 5)) (o:=2) (q:=2) rfl).symm) (bq ((ew (f:=(b0 [0,1,2,3] 5)) (o:=3) (q:=3) rfl).symm) (bq ((cv (fw _)).symm) (bq ((cv (fw _)).symm) dZ))))) (dX (o:=(sd n i0 i2 xs ys la lb)) (mH rfl rfl rfl (by simp [sd,plS,AV.pure,ah,aj]) (bq ((ew (f:=(b0 [0,1,5,6] 7)) (o:=2) (q:=5) rfl).symm) (bq ((ew (f:=(b0 [0,1,5,6] 7)) (o:=3) (q:=6) rfl).symm) (bq ((cv (fw _)).symm) (bq ((cv (fw _)).symm) dZ))))) (dX (o:=(se n i0 i2 xs ys la lb)) (mH rfl rfl rfl (by simp [se,plS,AV.pure,ah,aj]) (bq ((ew (f:=(b0 [0,1,7,6] 8)) (o:=2) (q:=7) rfl).symm) (bq ((ew (f:=(b0 [0,1,7,6] 8)) (o:=3) (q:=6) rfl).symm) (bq ((cv (fw _)).symm) (bq ((cv (fw _)).symm) dZ))))) (dX (o:=(sf n i0 i2 xs ys la lb)) (mH rfl rfl rfl (by simp [sf,plS,AV.pure,ah,aj]) (bq ((ew (f:=(b0 [0,1,5,3] 6)) (o:=2) (q:=5) rfl).symm) (bq ((ew (f:=(b0 [0,1,5,3] 6)) (o:=3) (q:=3) rfl).symm) (bq ((cv (fw _)).symm) (bq ((cv (fw _)).symm) dZ))))) (dX (o:=(sg n i0 i2 xs ys la lb)) (mH rfl rfl rfl (by simp [sg,plS,AV.pure,ah,aj]) (bq ((ew (f:=(b0 [0,1,6,3] 7)) (o:=2) (q:=6) rfl).symm) (bq ((ew (f:=(b0 [0,1,6,3] 7)) (o:=3) (q:=3) rfl).symm) (bq ((cv (fw _)).symm) (bq ((cv (fw _)).symm) dZ))))) (dX (o:=(sh n i0 i2 xs ys la lb)) (mH rfl rfl rfl (by simp [sh,plS,AV.pure,ah,aj]) (bq ((ew (f:=(b0 [0,1,5,3] 6)) (o:=2) (q:=5) rfl).symm) (bq ((ew (f:=(b0 [0,1,5,3] 6)) (o:=3) (q:=3) rfl).symm) (bq ((cv (fw _)).symm) (bq ((cv (fw _)).symm) dZ))))) sQ)))))) (eN (o:=(sc n i0 i2 xs ys la lb)) (fun h=>⟨rfl,rfl,(congr (congrArg (fun z1 z2=>([.row 36 1 (aG (List.set (vs xs) i0 (.sr 2 1 0 (length z1)))),.row 36 1 (aG (List.set (vs ys) (((ae n.aa i0).aI).toNat) (.sr 3 1 0 (length z2)))),.row 3 1 (map aO z1),.row 3 1 (map aO z2)]:List Ob)) h.1) h.2).symm⟩) (eN (o:=(sd n i0 i2 xs ys la lb)) (fun h=>⟨rfl,rfl,(congr (congrArg (fun z1 z2=>([.row 36 1 (aG (List.set (vs xs) i0 (.sr 2 1 0 (length z1)))),.row 36 1 (aG (List.set (vs ys) (((ae n.aa i0).aI).toNat) (.sr 3 1 0 (length z2)))),.row 3 1 (map aO z1),.row 3 1 (map aO z2)]:List Ob)) h.1) h.2).symm⟩) (eN (o:=(se n i0 i2 xs ys la lb)) (fun h=>⟨rfl,rfl,(congr (congrArg (fun z1 z2=>([.row 36 1 (aG (List.set (vs xs) i0 (.sr 2 1 0 (length z1)))),.row 36 1 (aG (List.set (vs ys) (((ae n.aa i0).aI).toNat) (.sr 3 1 0 (length z2)))),.row 3 1 (map aO z1),.row 3 1 (map aO z2)]:List Ob)) h.1) h.2).symm⟩) (eN (o:=(sf n i0 i2 xs ys la lb)) (fun h=>⟨rfl,rfl,(congr (congrArg (fun z1 z2=>([.row 36 1 (aG (List.set (vs xs) i0 (.sr 2 1 0 (length z1)))),.row 36 1 (aG (List.set (vs ys) (((ae n.aa i0).aI).toNat) (.sr 3 1 0 (length z2)))),.row 3 1 (map aO z1),.row 3 1 (map aO z2)]:List Ob)) h.1) h.2).symm⟩) (eN (o:=(sg n i0 i2 xs ys la lb)) (fun h=>⟨rfl,rfl,(congr (congrArg (fun z1 z2=>([.row 36 1 (aG (List.set (vs xs) i0 (.sr 2 1 0 (length z1)))),.row 36 1 (aG (List.set (vs ys) (((ae n.aa i0).aI).toNat) (.sr 3 1 0 (length z2)))),.row 3 1 (map aO z1),.row 3 1 (map aO z2)]:List Ob)) h.1) h.2).symm⟩) (eN (o:=(sh n i0 i2 xs ys la lb)) (fun h=>⟨rfl,rfl,(congr (congrArg (fun z1 z2=>([.row 36 1 (aG (List.set (vs xs) i0 (.sr 2 1 0 (length z1)))),.row 36 1 (aG (List.set (vs ys) (((ae n.aa i0).aI).toNat) (.sr 3 1 0 (length z2)))),.row 3 1 (map aO z1),.row 3 1 (map aO z2)]:List Ob)) h.1) h.2).symm⟩) ya))))))
abbrev zBA (n:Net):Am.Loc:=[(1,.pf (aW n)),(3,.sl 1 (zx n)),(4,.sr 0 1 0 (zY n)),(5,.sr 1 1 0 (zB n)),(36,.sl 2 (zA n)),(37,I (length (zA n):Int)),(38,I 0)]
abbrev zBb (n:Net):Am.Loc:=[(1,.pf (aW n)),(3,.sl 1 (zx n)),(4,.sl 1 (map bn (iF n))),(5,.sl 1 (map bn (fj n)))]
def We (n:Net):KB:=⟨(zBA n),[.row 36 1 (replicate (zY n) [.v (.slice none 0 0)]),.row 36 1 (replicate (zB n) [.v (.slice none 0 0)])],false,.ret,[],[],.normal,(zBb n),[],True⟩
theorem Bw (n:Net) (i0 i2:Nat) (l:List Int):cU n i0 i2 l=l++tgE n (r24 n) (ae (ae n.aa i0).ai i2):=by
 unfold cU tgE
 generalize (ae (ae n.aa i0).ai i2)=e
 have hk: ∀x:Int,List.take (l.length+1) (l++ [x])=l++ [x]:=fun x=>List.take_of_length_le oai
 cases h1:e.op==1 with
 |true=>simp
 |false=>
  cases h2:e.op==2 with
  |true=>cases h3:aq (r24 n) e.n<;>cases h4:ca.bO (aq n.rules e.n)<;>simp [hk]
  |false=>simp
theorem Bx (n:Net) (i0 i2:Nat) (l2:List Int):cV n i0 i2 l2=l2++tgL n (ae (ae n.aa i0).ai i2):=by
 unfold cV tgL
 generalize (ae (ae n.aa i0).ai i2)=e
 cases h1:e.op==1 with
 |true=>
  have h2:(e.op==2)=false:=by
   have:=eq_of_beq h1
   rw [this];rfl
  simp [h2]
 |false=>
  cases h2:e.op==2 with
  |true=>cases h3:aq (r24 n) e.n<;>cases h4:ca.bO (aq n.rules e.n)<;>simp
  |false=>simp
theorem DX (n:Net):gm (fun i0 i2 G=>List.set G i0 (cU n i0 i2 (ae G i0))) (fun i0=>(ae n.aa i0).ai.length) (replicate n.aa.length []) n.aa.length=Bv n:=by
 rw [Bc (tg:=fun i k=>tgE n (r24 n) (ae (ae n.aa i).ai k)) (fun i k G _ _=>by rw [Bw]) _ (Nat.le_refl _),Nat.sub_self,List.replicate_zero,List.append_nil]
 have h1:(fun i=>(range (ae n.aa i).ai.length).flatMap fun k=>tgE n (r24 n) (ae (ae n.aa i).ai k))=fun i=>(fun s:State=>s.ai.flatMap (tgE n (r24 n))) (ae n.aa i):=funext fun i=>kj (ae n.aa i).ai (tgE n (r24 n))
 rw [h1,DN n.aa (fun s:State=>s.ai.flatMap (tgE n (r24 n)))]
 rfl
theorem DY (n:Net):gm (fun i0 i2 G=>List.set G (Int.toNat (ae n.aa i0).aI) (cV n i0 i2 (ae G (Int.toNat (ae n.aa i0).aI)))) (fun i0=>(ae n.aa i0).ai.length) (replicate n.rules.length []) n.aa.length=ox n:=by
 unfold ox
 congr 1
 funext i k G
 rw [Bx];rfl
theorem OL {n:Net} (hn:bt n): ∀R∈Bv n,∀c∈R,0<=c/\c<(n.aa.length:Int):=fun R hR c hc=>by
 obtain ⟨s,hs,rfl⟩:=List.mem_map.1 hR
 obtain ⟨e,he,hc2⟩:=List.mem_flatMap.1 hc
 obtain ⟨i,hi,rfl⟩:=b8 hs
 have he2:e∈(aq n.aa (i:Nat)).ai:=he
 exact rQ hn _ he2 c hc2
theorem OM {n:Net} (hn:bt n) (hr: ∀s∈n.aa,0<=s.aI/\s.aI<(n.rules.length:Int)): ∀R∈ox n,∀c∈R,0<=c/\c<(n.rules.length:Int):=fun R hR c hc=>by
 obtain ⟨t,_,rfl⟩:=b8 hR
 obtain ⟨s,hs,_,e,he,hc⟩:=(nQ hr t c).1 hc
 unfold tgL at hc
 cases h2:e.op==2 with
 |true=>
  have:=hn.call s hs e he (eq_of_beq h2)
  rw [h2] at hc
  cases hl:ca.bO (aq n.rules e.n) with
  |true=>
   rw [hl] at hc
   simp only [cond_true,List.mem_singleton] at hc
   rw [hc];exact this
  |false=>rw [hl] at hc;simp at hc
 |false=>rw [h2] at hc;simp at hc
theorem ON (n:Net) (h30:dH) (hf:bp n) (hn:bt n/\ ∀s∈Net.aa n,0<=s.aI/\s.aI<(length n.rules:Int)):cQ pg 141 0 0 (.loop fP) (We n):=by
 skip
 have hl:=oU (P:=Tryz.prog) (n:=141) (K:=0) (d:=1) (S:=fun (G:List (List Int)×List (List Int))=>cp 0 36 3 (gV G.1)++cp (length n.aa+1) 36 3 (gV G.2)) (m:=length n.aa) (len:=fun i0=>length (ae n.aa i0).ai) (step:=fun i0 i2 (G:List (List Int)×List (List Int))=>(List.set G.1 i0 (cU n i0 i2 (ae G.1 i0)),List.set G.2 (Int.toNat (ae n.aa i0).aI) (cV n i0 i2 (ae G.2 (Int.toNat (ae n.aa i0).aI))))) (I:=fun i k G=>(G.1.length=length n.aa/\ ∀l∈G.1,l.length<=2*(i*1000000+k))/\(G.2.length=length n.rules/\ ∀l∈G.2,l.length<=2*(i*1000000+k))) (s0:=(replicate (length (map ak n.aa)) [],replicate (length (map aE n.rules)) []))
  (fun i0 hx ob=>ZW n i0 h30 hf hn hx ob) (fun i0 hx ob=>ZX n i0 h30 hf hn hx ob) (fun i0 hx ob=>ZY n i0 h30 hf hn hx ob) (fun i0 hx ob=>ZZ n i0 h30 hf hn hx ob)
  (fun i0 i2 G hx0 hx2 hI=>⟨pin2 hI.1.1 (by rw [hI.1.1];exact hx0) oaH oaa rfl (mqc oag (mqc oag (mqc rfl (mqc rfl (mqc oag (mqc oag (mqc oag (mqc oag (mqc oag (mqc oag (mqc oag (mqc oag bx)))))))))))) (mqc oag (mqc oag (mqc rfl (mqc rfl (mqc oag (mqc oag (mqc oag (mqc oag (mqc oag (mqc oag (mqc oag (mqc oag bx)))))))))))) rfl rfl (fun xs ys hxs hys=>Z5 n i0 i2 xs ys (ae G.1 i0) (ae G.2 (Int.toNat (ae n.aa i0).aI)) h30 hf hn hx0 hx2 (hxs.trans hI.1.1) (hys.trans hI.2.1) (hI.1.2 _ (ay (by rw [hI.1.1];exact hx0))) (hI.2.2 _ (ay oaH))),
   wD hI.1 oab (by have hgl:=(show (cU n i0 i2 (ae G.1 i0)).length<=(ae G.1 i0).length+2 by rw [Bw,List.length_append];exact Nat.add_le_add_left (MO _ _ _) _);have hgm:=hI.1.2 _ (ay (i:=i0) (by rw [hI.1.1];exact hx0));omega),wD hI.2 oab (by have hgl:=(show (cV n i0 i2 (ae G.2 (Int.toNat (ae n.aa i0).aI))).length<=(ae G.2 (Int.toNat (ae n.aa i0).aI)).length+2 by rw [Bx,List.length_append];exact Nat.add_le_add_left (MP _ _) _);have hgm:=hI.2.2 _ (ay (i:=(Int.toNat (ae n.aa i0).aI)) oaH);omega)⟩)
  (fun i0 hx ob=>Z0 n i0 h30 hf hn hx ob) (fun i0 hx ob=>Z1 n i0 h30 hf hn hx ob) (fun ob=>Z2 n h30 hf hn ob) (fun ob=>Z3 n h30 hf hn ob)
  ⟨⟨by simp,wE _⟩,⟨by simp,wE _⟩⟩ (fun i G hi hI=>⟨⟨hI.1.1,fun l hl=>Nat.le_trans (hI.1.2 l hl) oaF⟩,⟨hI.2.1,fun l hl=>Nat.le_trans (hI.2.2 l hl) oaF⟩⟩)
 rw [<-TD] at hl
 have hG1:aG (iP (gV (gm (fun i0 i2 (G:List (List Int)×List (List Int))=>(List.set G.1 i0 (cU n i0 i2 (ae G.1 i0)),List.set G.2 (Int.toNat (ae n.aa i0).aI) (cV n i0 i2 (ae G.2 (Int.toNat (ae n.aa i0).aI))))) (fun i0=>length (ae n.aa i0).ai) (replicate (length (map ak n.aa)) [],replicate (length (map aE n.rules)) []) (length n.aa)).1))=map bn (iF n):=by
  rw [sb (f:=fun i0 i2 G=>List.set G i0 (cU n i0 i2 (ae G i0))) (g:=fun i0 i2 G=>List.set G (Int.toNat (ae n.aa i0).aI) (cV n i0 i2 (ae G (Int.toNat (ae n.aa i0).aI))))]
  simp only [aU]
  rw [DX,rU,iF]
  exact pJ _ fun R hR c hc=>(OL hn.1 R hR c hc).1
 have hG2:aG (iP (gV (gm (fun i0 i2 (G:List (List Int)×List (List Int))=>(List.set G.1 i0 (cU n i0 i2 (ae G.1 i0)),List.set G.2 (Int.toNat (ae n.aa i0).aI) (cV n i0 i2 (ae G.2 (Int.toNat (ae n.aa i0).aI))))) (fun i0=>length (ae n.aa i0).ai) (replicate (length (map ak n.aa)) [],replicate (length (map aE n.rules)) []) (length n.aa)).2))=map bn (fj n):=by
  rw [sb (f:=fun i0 i2 G=>List.set G i0 (cU n i0 i2 (ae G i0))) (g:=fun i0 i2 G=>List.set G (Int.toNat (ae n.aa i0).aI) (cV n i0 i2 (ae G (Int.toNat (ae n.aa i0).aI))))]
  simp only [aU]
  rw [DY,rU,fj]
  exact pJ _ fun R hR c hc=>(OM hn.1 hn.2 R hR c hc).1
 have hlen1:length (gm (fun i0 i2 (G:List (List Int)×List (List Int))=>(List.set G.1 i0 (cU n i0 i2 (ae G.1 i0)),List.set G.2 (Int.toNat (ae n.aa i0).aI) (cV n i0 i2 (ae G.2 (Int.toNat (ae n.aa i0).aI))))) (fun i0=>length (ae n.aa i0).ai) (replicate (length (map ak n.aa)) [],replicate (length (map aE n.rules)) []) (length n.aa)).1=length (map ak n.aa):=by
  rw [sb (f:=fun i0 i2 G=>List.set G i0 (cU n i0 i2 (ae G i0))) (g:=fun i0 i2 G=>List.set G (Int.toNat (ae n.aa i0).aI) (cV n i0 i2 (ae G (Int.toNat (ae n.aa i0).aI))))]
  simp only [aU]
  rw [DX,Bv,List.length_map]
 have hlen2:length (gm (fun i0 i2 (G:List (List Int)×List (List Int))=>(List.set G.1 i0 (cU n i0 i2 (ae G.1 i0)),List.set G.2 (Int.toNat (ae n.aa i0).aI) (cV n i0 i2 (ae G.2 (Int.toNat (ae n.aa i0).aI))))) (fun i0=>length (ae n.aa i0).ai) (replicate (length (map ak n.aa)) [],replicate (length (map aE n.rules)) []) (length n.aa)).2=length (map aE n.rules):=by
  rw [sb (f:=fun i0 i2 G=>List.set G i0 (cU n i0 i2 (ae G i0))) (g:=fun i0 i2 G=>List.set G (Int.toNat (ae n.aa i0).aI) (cV n i0 i2 (ae G (Int.toNat (ae n.aa i0).aI))))]
  simp only [aU]
  rw [DY]
  exact tO n
 exact OI (Lm:=[(1,.pf (aW n)),(3,.sl 1 (map aA (r24 n))),(4,.sr 0 1 0 (length (map ak n.aa))),(5,.sl 1 (map bn (fj n)))]) (aU _ _) hl rfl (mqc oag (mqc oag (mqc rfl (mqc rfl (mqc oag (mqc oag (mqc oag bx))))))) (hlen1.trans (aU _ _)) hG1 hG2 (mqc (.inl ⟨rfl,(aQ _ _ oad)⟩) (mqc (.inl ⟨rfl,(aQ _ _ oad)⟩) (mqc (.inl ⟨rfl,(by simp [AV.und])⟩) (mqc (.inr ⟨by rw [hlen2];rfl,rfl⟩) bx)))) (mqc (.inl ⟨rfl,aQ _ _ oad⟩) (mqc (.inl ⟨rfl,aQ _ _ oad⟩) (mqc (.inr ⟨by rw [hlen1];rfl,rfl⟩) (mqc (.inl ⟨rfl,aQ _ _ oad⟩) bx))))
def GA (n:Net):KB:=⟨(zBA n),[.row 36 1 (replicate (zY n) [.v (.slice none 0 0)]),.row 36 1 (replicate (zB n) [.v (.slice none 0 0)])],false,.ret,[],[],.normal,(zBb n),[],bt n/\ ∀s∈Net.aa n,0<=s.aI/\s.aI<(length n.rules:Int)⟩
theorem TN (n:Net) (h30:dH) (hf:bp n):cQ pg 141 0 0 (.loop fP) (GA n):=⟨fun _ e=>oax,fun hn _=>(ON n h30 hf hn).2 trivial rfl⟩
def I0:Code:=bP 5 (aH 10)
def u0 (n:Net) (i5:Nat):Am.Loc:=[(3,.sl 1 (zx n)),(4,.sl 1 (map bn (iF n))),(5,.sl 1 (map bn (fj n))),(114,.sl 9 (zAF n)),(115,I (length (zAF n):Int)),(116,I (i5:Int))]
def DZ (n:Net) (i5:Nat):List Ob:=[]
def si (n:Net) (i5:Nat):Bool:=((ae n.rules i5).bO&&((!(ae n.rules i5).eU)&&(ae (r24 n) i5)))
def sj (n:Net):Bool:=cX (length n.rules) (si n)
def By (n:Net) (i5:Nat):Am.Loc:=[(2,I 110)]
def Lu (n:Net) (i5:Nat):List Ob:=[]
def pP (n:Net):Am.Loc:=[(4,.sl 1 (map bn (iF n))),(5,.sl 1 (map bn (fj n)))]
def Bz (n:Net):List Ob:=[]
def GB (n:Net):KB:=⟨u0 n 0,DZ n 0,sj n,.ret,By n (b4 (zS n) (si n)),Lu n (b4 (zS n) (si n)),.normal,pP n,Bz n,True⟩
def u5 (n:Net) (i5:Nat):List bG:=[htW (si n i5) .ret (By n i5) zb (Lu n i5),nxW (si n i5) (u0 n (i5+1)) (DZ n (i5+1)) (u0 n (i5+1)) zb (DZ n (i5+1))]
def XF (n:Net) (i5:Nat):GT:=(.r [.k,bT] (.yes (.r [.row (aE (ae n.rules i5)),bT] (.a (.a (.r (uTT 6 [.row (aA (ae (r24 n) i5)),bT,bT]) (.br (.r [bT] (.pick 0)) (.r [.int ↑(i5+1),bT] (.pick 1)))) (.r (bT::bT::bT::uFF 4 [bT]) (.r [.int ↑(i5+1),bT] (.pick 1)))) (.r (uFF 7 [bT]) (.r [.int ↑(i5+1),bT] (.pick 1)))))))
theorem Z6 (n:Net) (i5:Nat) (h30:dH) (hf:bp n) (hx5:i5<(length n.rules)):vcC pg 141 base aK 3000 (kbL []) I0 (bz (u0 n i5)) (bw (DZ n i5)) 0 (bM (u5 n i5)) (XF n i5):=
 have hr:=hf.rules;have hs:=hf.aa;have hrl:=Gz n;have l1:=aU aE (n.rules);have hb:(decide ((i5:Int)<(length (map aE n.rules):Int)))=true:=decide_eq_true oab;
 bc (an (a1 a0)
 (an hb (an (ac (rwa aE n.rules i5) a0)
 (aM (fun (h1:((ae n.rules i5).bO)=true)=>have q0:=(aD h1 rfl:si n i5=_);
 (aM (fun (h2:(!(ae n.rules i5).eU)=true)=>have q1:=q0.trans (aD h2 rfl);
 (an (a1 (ac (rwa aA (r24 n) i5) (aN 2 (ac h2 (aN 2 (ac h1 a0))))))
 (brP (fun (h3:((ae (r24 n) i5))=true)=>
 (an a0
 (lf (wy (u5 n i5) 0) 1 (q1.trans h3)))) (fun h3=>
 (an (ac (dwo ((i5+1:Nat):Int)) a0)
 (lf (wy (u5 n i5) 1) 1 ⟨(q1.trans h3),rfl,rfl⟩)))))) (fun h2=>
 (an (aN 3 (ac (au h2) (aN 2 (ac h1 a0))))
 (an (ac (dwo ((i5+1:Nat):Int)) a0)
 (lf (wy (u5 n i5) 1) 1 ⟨(q0.trans (bf h2)),rfl,rfl⟩)))))) (fun h1=>
 (an (aN 6 (ac (au h1) a0))
 (an (ac (dwo ((i5+1:Nat):Int)) a0)
 (lf (wy (u5 n i5) 1) 1 ⟨(show si n i5=false from (bf h1)),rfl,rfl⟩))))))))
 oaa
theorem Z7 (n:Net) (h30:dH) (hf:bp n):vcC pg 141 base aK 3000 (kbL []) I0 (bz (u0 n (zS n))) (bw (DZ n (zS n))) 0 (bM [⟨True,(.exit 5),pP n,range 0,Bz n⟩]) zG:=
 have hr:=hf.rules;have hs:=hf.aa;have l1:=aU aE (n.rules);have hb:(zJ n)=false:=decide_eq_false oab;
 bc (an (a1 a0)
 (an hb (lf (wy [⟨True,(.exit 5),pP n,range 0,Bz n⟩] 0) 0 trivial)))
 oaa
theorem TO (n:Net) (i5:Nat):(u5 n i5).all zj=true:=by refine (aF (aR rfl rfl rfl ?_ rfl) (aF (aR rfl rfl rfl ?_ rfl) bC))<;>simp (maxDischargeDepth:=9) [nxW,htW,u0,By,pP,plS,AV.pure,ah,aj]
theorem TP (n:Net):bG.cS 0 ⟨True,(.exit 5),pP n,range 0,Bz n⟩=true:=(aR rfl rfl rfl (by simp (maxDischargeDepth:=9) [nxW,htW,u0,By,pP,plS,AV.pure,ah,aj]) rfl)
theorem TQ (n:Net) (h30:dH) (hf:bp n):cQ pg 141 0 5 (.loop I0) (GB n):=
 have hr:=hf.rules;have hs:=hf.aa;bW (fun _=>eB (id:=5) (m:=length n.rules) (t:=si n) (xr:= .ret) (xn:=(.exit 5)) (Lr:=By n) (Lx:=pP n) (obr:=Lu n) (obx:=Bz n) (V:=fun i5=>vcC pg 141 base aK 3000 (kbL []) I0) (u0 n) (DZ n) 0 (u5 n) (XF n) _ _ (fun i5 hx5=>aL aw mixed (az _)) (aL aw mixed (az _)) (fun e=>by cases e) (fun e=>by cases e) (fun _=>rfl) (fun i5 hx5=>Z6 n i5 h30 hf hx5) (fun i5 _=>TO n i5) (fun i5 _=>show∀ww∈u5 n i5,cm _ _ _ _ _ _ ww from (aC cT (aC bU bB))) (Z7 n h30 hf) (TP n)) (fun h=>h) (fun h=>h)
def r10 (n:Net):Int:=(bif !(r26 n) then 110 else (bif !(r27 n) then 110 else (bif !(r28 n) then 110 else (bif !(r29 n) then 110 else (bif sj n then 110 else (bif fO (iF n) then 110 else (bif fO (fj n) then 110 else 0)))))))
theorem vO:dp [0,5] (aH 10)=[(0,.loop fP),(5,.loop I0)]:=by kernel_rfl
theorem Wg (n:Net) (h30:dH) (hf:bp n):bg pg 10 [.ag (aW n)] [] [] (I (r10 n)) []:=
 have hr:=hf.rules;have hs:=hf.aa;bD (fn:=Tryz.f10) (callf:=(bI [i26 n,i27 n,i28 n,i29 n,i24 n,i30 (iF n),i30 (fj n)] base)) (pu:=aK) (lf:=3000) (l:=[(0,GA n),(5,GB n)]) (t:=(.r [bT] (.a zBE (.a (.r (.int 0::bT::.int 1::bT::uFF 4 [bT]) zF) (.a (.r [.int 0,bT,.int 1,bT,bT,.int 2,bT,bF,bF,bT] zF) (.r [.int 0,bT,.int 1,bT,bT,.int 2,bT,bT,.int 3,bT,bT] (.br zF (.r [.int 4,bT] (.r [bT] (.r [bT] (.r [bT] (.no (.r [bT] (.br .nil (.a (.r [.int 5,bF,bF,bT] zF) (.r [.int 5,bT,bT,.int 6,bT] (.br zF zF))))))))))))))))) (bo (.cons (g26 n) rfl (.cons (g27 n) rfl (.cons (g28 n) rfl (.cons (g29 n) rfl (.cons (g24 n) rfl (.cons (g30 h30 (iF n)) rfl (.cons (g30 h30 (fj n)) rfl cr.nil))))))) aw) mixed Tryz.func10 oaa (show Tryz.f10.body=some (aH 10) by kernel_rfl) (Nat.le_of_ble_eq_true rfl) (bK (l:=[(0,GA n),(5,GB n)]) vO (aT (TN n h30 hf) rfl (aT (TQ n h30 hf) rfl bj)) rfl) rfl (bc
 (an a0
 (aM (fun (h0:(!(r26 n))=true)=>
 (an (aN 5 (ac (n2 h0) (cA (g26 n) hf a0)))
 (an a0
 (iE (show r10 n=110 from (cdT h0 rfl)))))) (fun h0=>
 (aM (fun (h1:(!(r27 n))=true)=>
 (an (aN 3 (ac (n2 h1) (a1 (cA (g27 n) hf (ac (au h0) (cA (g26 n) hf a0))))))
 (an a0
 (iE (show r10 n=110 from (cdF h0 (cdT h1 rfl))))))) (fun h1=>
 (aM (fun (h2:(!(r28 n))=true)=>
 (an (a1 (ac (n2 h2) (a1 (cA (g28 n) hf (ac (au h1) (a1 (cA (g27 n) hf (ac (au h0) (cA (g26 n) hf a0)))))))))
 (an a0
 (iE (show r10 n=110 from (cdF h0 (cdF h1 (cdT h2 rfl)))))))) (fun h2=>
 (an (a1 (cA (g29 n) ⟨tN h1 h2,hf⟩ (ac (au h2) (a1 (cA (g28 n) hf (ac (au h1) (a1 (cA (g27 n) hf (ac (au h0) (cA (g26 n) hf a0))))))))))
 (brP (fun (h3:(!(r29 n))=true)=>
 (an a0
 (iE (show r10 n=110 from (cdF h0 (cdF h1 (cdF h2 (cdT h3 rfl)))))))) (fun h3=>
 (an (cA (g24 n) ⟨tN h1 h2,hf⟩ a0)
 (have l1:=aU ak (n.aa);an (ac (mko (length (map ak n.aa)) 24) a0)
 (have l2:=aU aE (n.rules);an (ac (mko (length (map aE n.rules)) 24) a0)
 (an a0
 (an (kbT (GA n) ⟨tN h1 h2,MQ h2⟩) (an (rfl:false=false) (an a0
 (an (kbT (GB n) trivial) (brP (fun (h4:(sj n)=true)=>
 (iE (show r10 n=110 from (cdF h0 (cdF h1 (cdF h2 (cdF h3 (cdT h4 rfl)))))))) (fun h4=>
 (aM (fun (h5:(fO (iF n))=true)=>
 (an (a1 (ac (n2 h5) (cA (g30 h30 (iF n)) (IY (tN h1 h2) hf) a0)))
 (an a0
 (iE (show r10 n=110 from (cdF h0 (cdF h1 (cdF h2 (cdF h3 (cdF h4 (cdT h5 rfl))))))))))) (fun h5=>
 (an (cA (g30 h30 (fj n)) (TC (tN h1 h2) (MQ h2) hf) (a1 (ac (au h5) (cA (g30 h30 (iF n)) (IY (tN h1 h2) hf) a0))))
 (brP (fun (h6:(fO (fj n))=true)=>
 (an a0
 (iE (show r10 n=110 from (cdF h0 (cdF h1 (cdF h2 (cdF h3 (cdF h4 (cdF h5 (cdT h6 rfl))))))))))) (fun h6=>
 (an a0
 (iE (show r10 n=0 from (cdF h0 (cdF h1 (cdF h2 (cdF h3 (cdF h4 (cdF h5 (cdF h6 rfl)))))))))))))))))))))))))))))))))))
 oaa)
def skC (x:Nat×Nat):List AV:=[I ((x.1:Nat):Int),I ((x.2:Nat):Int)]
theorem I1 (x:Nat×Nat):ah (skC x)=true:=rfl
@[simp] theorem pv_st (x:Nat×Nat):ah (skC x)=true:=rfl
@[simp] theorem pr_st (l:List (Nat×Nat)):aj (l.map skC)=true:=aY I1 l
@[simp] theorem pr_skset (l:List (Nat×Nat)) (i:Nat) (x:Nat×Nat):aj ((l.map skC).set i (skC x))=true:=fb rfl _ (aY I1 l)
@[simp] theorem aaI (l:List Int) (i:Nat) (x:Int):aj ((l.map aO).set i (aO x))=true:=fb rfl _ (aY kN l)
abbrev Sk:=Nat×List Int×List (Nat×Nat)
def c0 (l:List Int):Nat:=l.count 0
structure SR (g:List (List Nat)) (w:Sk):Prop where
 len:w.2.1.length=g.length
 kl:w.1<=w.2.2.length
 node: ∀j,j<w.1->(ae w.2.2 j).1<g.length/\(ae w.2.2 j).2<=(ae g (ae w.2.2 j).1).length
 bd:w.1+c0 w.2.1<=g.length
structure SK (g:List (List Nat)) (k:Nat) (is:List Int) (l:List (Nat×Nat)):Prop where
 len:is.length=g.length
 kl:k<=l.length
 pos:0<k
 kb:k<=1000000
 node:(ae l (k-1)).1<g.length
 row:(ae g (ae l (k-1)).1).length<=2000000000000
 to:(ae l (k-1)).2<(ae g (ae l (k-1)).1).length->ae (ae g (ae l (k-1)).1) (ae l (k-1)).2<g.length
theorem SR.sk {g:List (List Nat)} (hg:fC g) {w:Sk} (h:SR g w) (hk:0<w.1):SK g w.1 w.2.1 w.2.2 where
 len:=h.len
 kl:=h.kl
 pos:=hk
 kb:=by have:=h.bd;have:=hg.len;omega
 node:=(h.node _ oab).1
 row:=hg.row _ (ay (h.node _ oab).1)
 to:=fun hq=>hg.wf _ (ay (h.node _ oab).1) _ (ay hq)
def lq (w:Sk) (q:Nat):List (Nat×Nat):=List.set w.2.2 (w.1-1) ((ae w.2.2 (w.1-1)).1,q)
theorem fg {w:Sk} (h:w.1<=w.2.2.length) (hk:0<w.1) (q:Nat):ae (lq w q) (w.1-1)=((ae w.2.2 (w.1-1)).1,q):=by
 unfold lq
 rw [ae,List.getElem?_set_self oab];rfl
theorem TR {w:Sk} (h:w.1<=w.2.2.length) (hk:0<w.1) (q:Nat):List.set (lq w q) (w.1-1) ((ae (lq w q) (w.1-1)).1,(ae (lq w q) (w.1-1)).2+1)=lq w (q+1):=by
 rw [fg h hk]
 unfold lq
 rw [List.set_set]
theorem Wh {w:Sk} (h:w.1<=w.2.2.length) (hk:0<w.1):lq w (ae w.2.2 (w.1-1)).2=w.2.2:=by
 unfold lq
 refine List.ext_getElem? fun j=> ?_
 by_cases hj:w.1-1=j
 ·subst hj;rw [List.getElem?_set_self oab,eM oab]
 ·rw [List.getElem?_set_ne hj]
theorem lN (w:Sk) (q:Nat):(lq w q).length=w.2.2.length:=List.length_set
def gP (g:List (List Nat)) (w:Sk):List Nat:=ae g (ae w.2.2 (w.1-1)).1
def jz (g:List (List Nat)) (w:Sk) (q:Nat):Nat:=ae (gP g w) q
def tP (g:List (List Nat)) (w:Sk) (q:Nat):Bool:= !(ae w.2.1 (jz g w q)==1)&& !(ae w.2.1 (jz g w q)==0)
def dP (g:List (List Nat)) (w:Sk):Nat:=(ae w.2.2 (w.1-1)).2+b4 ((gP g w).length-(ae w.2.2 (w.1-1)).2) fun j=> !(tP g w ((ae w.2.2 (w.1-1)).2+j))
def OO (g:List (List Nat)) (w:Sk):Bool:=decide (dP g w<(gP g w).length)
def jU (g:List (List Nat)) (w:Sk):Bool:=OO g w&&(ae w.2.1 (jz g w (dP g w))==1)
def fX (g:List (List Nat)) (w:Sk):Sk:=bif OO g w then (w.1+1,List.set w.2.1 (jz g w (dP g w)) 1,List.take w.1 (lq w (dP g w+1))++ [(jz g w (dP g w),0)]) else (w.1-1,List.set w.2.1 (ae w.2.2 (w.1-1)).1 2,lq w (dP g w))
theorem D0 {n:Nat} {t:Nat->Bool} (h:cX n t=false):b4 n t=n:=by
 unfold b4
 have:(range n).find? t=none:=List.find?_eq_none.2 fun i hi=>by
  have:=bL.1 h i (List.mem_range.1 hi)
  simp [this]
 rw [this];rfl
theorem MR (n:Nat) (t:Nat->Bool):b4 n t<=n:=by
 cases h:cX n t with
 |true=>exact Nat.le_of_lt (gY h).1
 |false=>exact Nat.le_of_eq (D0 h)
theorem MS {g:List (List Nat)} {w:Sk} {q:Nat} (h0:(ae w.2.2 (w.1-1)).2<=q) (hq:q<dP g w):tP g w q=true:=by
 unfold dP at hq
 generalize hm:(gP g w).length-(ae w.2.2 (w.1-1)).2=m at hq
 obtain ⟨j,rfl⟩: ∃j,q=(ae w.2.2 (w.1-1)).2+j:=⟨q-(ae w.2.2 (w.1-1)).2,by omega⟩
 by_cases ha:cX m (fun j=> !(tP g w ((ae w.2.2 (w.1-1)).2+j)))=true
 ·have:=(gY ha).2.2 j oab
  simpa using this
 ·have ha:=bL.1 (by simpa using ha) j
  have hf:b4 m (fun j=> !(tP g w ((ae w.2.2 (w.1-1)).2+j)))<=m:=MR _ _
  have:=ha oab
  simpa using this
theorem wG {g:List (List Nat)} {w:Sk} (h:(ae w.2.2 (w.1-1)).2<=(gP g w).length):dP g w<=(gP g w).length:=by
 unfold dP
 have:=MR ((gP g w).length-(ae w.2.2 (w.1-1)).2) fun j=> !(tP g w ((ae w.2.2 (w.1-1)).2+j))
 omega
theorem sm {g:List (List Nat)} {w:Sk} (h:OO g w=true):dP g w<(gP g w).length/\tP g w (dP g w)=false:=by
 have h:=of_decide_eq_true h
 refine ⟨h,?_⟩
 unfold dP at h⊢
 generalize hm:(gP g w).length-(ae w.2.2 (w.1-1)).2=m at h⊢
 have ha:cX m (fun j=> !(tP g w ((ae w.2.2 (w.1-1)).2+j)))=true:=by
  cases hc:cX m (fun j=> !(tP g w ((ae w.2.2 (w.1-1)).2+j))) with
  |true=>rfl
  |false=>
   have:=D0 hc
   rw [this] at h
   omega
 have:=(gY ha).2.1
 simpa using this
def BA:Code:=bP 0 (aH 30)
def D2:Code:=bP 2 BA
def kT:Code:=Mv 3 D2
def kU:Code:=bP 4 kT
theorem I2:kT= .seq (sq1 kT) (.seq (.block 4 (.loop kU)) (sq2 (sq2 kT))):=by kernel_rfl
theorem Wi (g:List (List Nat)) (i0 k:Nat) (is:List Int) (l:List (Nat×Nat)) (hg:fC g) (hx0:i0<length g) (hs:SK g k is l) (hb0:(decide (((k:Nat):Int)>0))=true):vcC pg 96 base aK 3000 (kbL []) (sq1 kT) (bz [(0,.sl 1 (map bn g)),(3,.sr 0 1 0 (length (map bn g))),(5,.sr 1 2 0 k),(12,I (length (map bn g):Int)),(13,I (i0:Int))]) (bw [.row 3 1 (map aO is),.row 114 2 (map skC l)]) 2 (bM [⟨True,.normal,[(0,.sl 1 (map bn g)),(3,.sr 0 1 0 (length (map bn g))),(5,.sr 1 2 0 k),(6,.pt 1 (0*2+(k-1)*2)),(12,I (length (map bn g):Int)),(13,I (i0:Int))],[0,1],[.row 3 1 (map aO is),.row 114 2 (map skC l)]⟩]) (.r [.int ((k-1:Nat):Int),bT] (.pick 0)):=
 have hgl0:=hg.len;have h1:=hs.len;have h2:=hs.kl;have h3:=hs.pos;have h4:=hs.kb;have h5:=hs.node;have h6:=hs.row;have h7:=hs.to;have lms:=aU aO is;have lrn:=aU bn g;have lst:=aU skC l;have lro:=aU cH (ae g (ae l (k-1)).1);have gb0:=of_decide_eq_true hb0;bc (an (ac (ixo (k-1) k) (ac (dso k) a0))
 (lf (wy [⟨True,.normal,[(0,.sl 1 (map bn g)),(3,.sr 0 1 0 (length (map bn g))),(5,.sr 1 2 0 k),(6,.pt 1 (0*2+(k-1)*2)),(12,I (length (map bn g):Int)),(13,I (i0:Int))],[0,1],[.row 3 1 (map aO is),.row 114 2 (map skC l)]⟩] 0) 2 trivial))
 oaa
theorem p30_9 (g:List (List Nat)) (i0 k:Nat) (is:List Int) (l:List (Nat×Nat)) (hg:fC g) (hx0:i0<length g) (hs:SK g k is l) (hb0:(decide (((k:Nat):Int)>0))=true):Piece pg 96 0 (sq1 kT) [(0,.sl 1 (map bn g)),(3,.sr 0 1 0 (length (map bn g))),(5,.sr 1 2 0 k),(12,I (length (map bn g):Int)),(13,I (i0:Int))] [.row 3 1 (map aO is),.row 114 2 (map skC l)] .normal [(0,.sl 1 (map bn g)),(3,.sr 0 1 0 (length (map bn g))),(5,.sr 1 2 0 k),(6,.pt 1 (0*2+(k-1)*2)),(12,I (length (map bn g):Int)),(13,I (i0:Int))] [.row 3 1 (map aO is),.row 114 2 (map skC l)]:=
 cF (aL aw mixed (az _)) (Wi g i0 k is l hg hx0 hs hb0) (aR rfl rfl rfl oay oap)
theorem Wj (g:List (List Nat)) (i0 k:Nat) (is:List Int) (l:List (Nat×Nat)) (hg:fC g) (hx0:i0<length g) (hs:SK g k is l) (hb0:(decide (((((ae l (k-1))).2:Nat):Int)<(length (map cH (ae g (((ae l (k-1))).1))):Int)))=true) (hb1:((ae is (ae (ae g (((ae l (k-1))).1)) (((ae l (k-1))).2)))==1)=false) (hb2:((ae is (ae (ae g (((ae l (k-1))).1)) (((ae l (k-1))).2)))==0)=false):vcC pg 96 base aK 3000 (kbL []) kU (bz [(0,.sl 1 (map bn g)),(3,.sr 0 1 0 (length (map bn g))),(5,.sr 1 2 0 k),(6,.pt 1 (0*2+(k-1)*2)),(12,I (length (map bn g):Int)),(13,I (i0:Int))]) (bw [.row 3 1 (map aO is),.row 114 2 (map skC l)]) 2 (bM [⟨True,.normal,[(0,.sl 1 (map bn g)),(3,.sr 0 1 0 (length (map bn g))),(5,.sr 1 2 0 k),(6,.pt 1 (0*2+(k-1)*2)),(12,I (length (map bn g):Int)),(13,I (i0:Int))],[0,1],[.row 3 1 (map aO is),.row 114 2 (map skC (List.set l (k-1) (((ae l (k-1))).1,((ae l (k-1))).2+1)))]⟩]) (.r [.at (k-1) 1 (skC (ae l (k-1))),.at (k-1) 0 (skC (ae l (k-1))),.row (bn (ae g (((ae l (k-1))).1))),.k,bT] (.yes (.r [.at (k-1) 0 (skC (ae l (k-1))),.row (bn (ae g (((ae l (k-1))).1))),.at (k-1) 1 (skC (ae l (k-1))),.row (cH (ae (ae g (((ae l (k-1))).1)) (((ae l (k-1))).2))),bT] (.r [.at (k-1) 1 (skC (ae l (k-1))),.int ((((ae l (k-1))).2+1:Nat):Int),.at (k-1) 1 (skC (ae l (k-1))),bT] (.r [.at (ae (ae g (((ae l (k-1))).1)) (((ae l (k-1))).2)) 0 (aO (ae is (ae (ae g (((ae l (k-1))).1)) (((ae l (k-1))).2)))),bT] (.r [.k,bT] (.no (.r [.k,bT] (.no (.pick 0)))))))))):=
 have hgl0:=hg.len;have h1:=hs.len;have h2:=hs.kl;have h3:=hs.pos;have h4:=hs.kb;have h5:=hs.node;have h6:=hs.row;have h7:=hs.to;have lms:=aU aO is;have lrn:=aU bn g;have lst:=aU skC l;have lro:=aU cH (ae g (ae l (k-1)).1);have gb0:=of_decide_eq_true hb0;have lq0:=aU cH ((ae g (((ae l (k-1))).1)));bc (an (a1 (ac (rwa bn g (((ae l (k-1))).1)) (ac (ato 2 0 (k-1) (rl skC l)) (ac (ato 2 1 (k-1) (rl skC l)) a0))))
 (an hb0 (an (ac (rwa cH (ae g (((ae l (k-1))).1)) (((ae l (k-1))).2)) (ac (ato 2 1 (k-1) (rl skC l)) (ac (rwa bn g (((ae l (k-1))).1)) (ac (ato 2 0 (k-1) (rl skC l)) a0))))
 (an (ac (sto 2 1 1 (k-1) (rl skC l)) (ac (dwo ((((ae l (k-1))).2+1:Nat):Int)) (ac (ato 2 1 (k-1) (rl skC l)) a0)))
 (an (ac (ato 1 0 (ae (ae g (((ae l (k-1))).1)) (((ae l (k-1))).2)) (rl aO is)) (ac (ixo (ae (ae g (((ae l (k-1))).1)) (((ae l (k-1))).2)) (length (map bn g))) a0))
 (an (a1 a0)
 (an hb1 (an (a1 a0)
 (an hb2 (lfE (wy [⟨True,.normal,[(0,.sl 1 (map bn g)),(3,.sr 0 1 0 (length (map bn g))),(5,.sr 1 2 0 k),(6,.pt 1 (0*2+(k-1)*2)),(12,I (length (map bn g):Int)),(13,I (i0:Int))],[0,1],[.row 3 1 (map aO is),.row 114 2 (map skC (List.set l (k-1) (((ae l (k-1))).1,((ae l (k-1))).2+1)))]⟩] 0) 2 trivial (bq (rfl:(.row 3 1 (map aO is):Ob)= .row 3 1 (map aO is)) (bq (congrArg (fun z=>Ob.row 114 2 z) (jr (f:=skC) (rl skC l) (k-1) (((ae l (k-1))).1,((ae l (k-1))).2+1))) dZ))))))))))))
 oaa
theorem p30_g (g:List (List Nat)) (i0 k:Nat) (is:List Int) (l:List (Nat×Nat)) (hg:fC g) (hx0:i0<length g) (hs:SK g k is l) (hb0:(decide (((((ae l (k-1))).2:Nat):Int)<(length (map cH (ae g (((ae l (k-1))).1))):Int)))=true) (hb1:((ae is (ae (ae g (((ae l (k-1))).1)) (((ae l (k-1))).2)))==1)=false) (hb2:((ae is (ae (ae g (((ae l (k-1))).1)) (((ae l (k-1))).2)))==0)=false):Piece pg 96 0 kU [(0,.sl 1 (map bn g)),(3,.sr 0 1 0 (length (map bn g))),(5,.sr 1 2 0 k),(6,.pt 1 (0*2+(k-1)*2)),(12,I (length (map bn g):Int)),(13,I (i0:Int))] [.row 3 1 (map aO is),.row 114 2 (map skC l)] .normal [(0,.sl 1 (map bn g)),(3,.sr 0 1 0 (length (map bn g))),(5,.sr 1 2 0 k),(6,.pt 1 (0*2+(k-1)*2)),(12,I (length (map bn g):Int)),(13,I (i0:Int))] [.row 3 1 (map aO is),.row 114 2 (map skC (List.set l (k-1) (((ae l (k-1))).1,((ae l (k-1))).2+1)))]:=
 cF (aL aw mixed (az _)) (Wj g i0 k is l hg hx0 hs hb0 hb1 hb2) (aR rfl rfl rfl oay oap)
theorem Wk (g:List (List Nat)) (i0 k:Nat) (is:List Int) (l:List (Nat×Nat)) (hg:fC g) (hx0:i0<length g) (hs:SK g k is l) (hb0:(decide (((((ae l (k-1))).2:Nat):Int)<(length (map cH (ae g (((ae l (k-1))).1))):Int)))=false):vcC pg 96 base aK 3000 (kbL []) kU (bz [(0,.sl 1 (map bn g)),(3,.sr 0 1 0 (length (map bn g))),(5,.sr 1 2 0 k),(6,.pt 1 (0*2+(k-1)*2)),(12,I (length (map bn g):Int)),(13,I (i0:Int))]) (bw [.row 3 1 (map aO is),.row 114 2 (map skC l)]) 2 (bM [⟨True,(.exit 4),[(0,.sl 1 (map bn g)),(3,.sr 0 1 0 (length (map bn g))),(5,.sr 1 2 0 k),(6,.pt 1 (0*2+(k-1)*2)),(12,I (length (map bn g):Int)),(13,I (i0:Int))],[0,1],[.row 3 1 (map aO is),.row 114 2 (map skC l)]⟩]) (.r [.at (k-1) 1 (skC (ae l (k-1))),.at (k-1) 0 (skC (ae l (k-1))),.row (bn (ae g (((ae l (k-1))).1))),.k,bT] (.no (.pick 0))):=
 have hgl0:=hg.len;have h1:=hs.len;have h2:=hs.kl;have h3:=hs.pos;have h4:=hs.kb;have h5:=hs.node;have h6:=hs.row;have h7:=hs.to;have lms:=aU aO is;have lrn:=aU bn g;have lst:=aU skC l;have lro:=aU cH (ae g (ae l (k-1)).1);have gb0:=of_decide_eq_false hb0;have lq0:=aU cH ((ae g (((ae l (k-1))).1)));bc (an (a1 (ac (rwa bn g (((ae l (k-1))).1)) (ac (ato 2 0 (k-1) (rl skC l)) (ac (ato 2 1 (k-1) (rl skC l)) a0))))
 (an hb0 (lf (wy [⟨True,(.exit 4),[(0,.sl 1 (map bn g)),(3,.sr 0 1 0 (length (map bn g))),(5,.sr 1 2 0 k),(6,.pt 1 (0*2+(k-1)*2)),(12,I (length (map bn g):Int)),(13,I (i0:Int))],[0,1],[.row 3 1 (map aO is),.row 114 2 (map skC l)]⟩] 0) 2 trivial)))
 oaa
theorem p30_d (g:List (List Nat)) (i0 k:Nat) (is:List Int) (l:List (Nat×Nat)) (hg:fC g) (hx0:i0<length g) (hs:SK g k is l) (hb0:(decide (((((ae l (k-1))).2:Nat):Int)<(length (map cH (ae g (((ae l (k-1))).1))):Int)))=false):Piece pg 96 0 kU [(0,.sl 1 (map bn g)),(3,.sr 0 1 0 (length (map bn g))),(5,.sr 1 2 0 k),(6,.pt 1 (0*2+(k-1)*2)),(12,I (length (map bn g):Int)),(13,I (i0:Int))] [.row 3 1 (map aO is),.row 114 2 (map skC l)] (.exit 4) [(0,.sl 1 (map bn g)),(3,.sr 0 1 0 (length (map bn g))),(5,.sr 1 2 0 k),(6,.pt 1 (0*2+(k-1)*2)),(12,I (length (map bn g):Int)),(13,I (i0:Int))] [.row 3 1 (map aO is),.row 114 2 (map skC l)]:=
 cF (aL aw mixed (az _)) (Wk g i0 k is l hg hx0 hs hb0) (aR rfl rfl rfl oay oap)
theorem Wl (g:List (List Nat)) (i0 k:Nat) (is:List Int) (l:List (Nat×Nat)) (hg:fC g) (hx0:i0<length g) (hs:SK g k is l) (hb0:(decide (((((ae l (k-1))).2:Nat):Int)<(length (map cH (ae g (((ae l (k-1))).1))):Int)))=true) (hb1:((ae is (ae (ae g (((ae l (k-1))).1)) (((ae l (k-1))).2)))==1)=true):vcC pg 96 base aK 3000 (kbL []) kU (bz [(0,.sl 1 (map bn g)),(3,.sr 0 1 0 (length (map bn g))),(5,.sr 1 2 0 k),(6,.pt 1 (0*2+(k-1)*2)),(12,I (length (map bn g):Int)),(13,I (i0:Int))]) (bw [.row 3 1 (map aO is),.row 114 2 (map skC l)]) 2 (bM [⟨True,.ret,[(2,B true)],[],[]⟩]) (.r [.at (k-1) 1 (skC (ae l (k-1))),.at (k-1) 0 (skC (ae l (k-1))),.row (bn (ae g (((ae l (k-1))).1))),.k,bT] (.yes (.r [.at (k-1) 0 (skC (ae l (k-1))),.row (bn (ae g (((ae l (k-1))).1))),.at (k-1) 1 (skC (ae l (k-1))),.row (cH (ae (ae g (((ae l (k-1))).1)) (((ae l (k-1))).2))),bT] (.r [.at (k-1) 1 (skC (ae l (k-1))),.int ((((ae l (k-1))).2+1:Nat):Int),.at (k-1) 1 (skC (ae l (k-1))),bT] (.r [.at (ae (ae g (((ae l (k-1))).1)) (((ae l (k-1))).2)) 0 (aO (ae is (ae (ae g (((ae l (k-1))).1)) (((ae l (k-1))).2)))),bT] (.r [.k,bT] (.yes (.r [bT] (.pick 0))))))))):=
 have hgl0:=hg.len;have h1:=hs.len;have h2:=hs.kl;have h3:=hs.pos;have h4:=hs.kb;have h5:=hs.node;have h6:=hs.row;have h7:=hs.to;have lms:=aU aO is;have lrn:=aU bn g;have lst:=aU skC l;have lro:=aU cH (ae g (ae l (k-1)).1);have gb0:=of_decide_eq_true hb0;have lq0:=aU cH ((ae g (((ae l (k-1))).1)));bc (an (a1 (ac (rwa bn g (((ae l (k-1))).1)) (ac (ato 2 0 (k-1) (rl skC l)) (ac (ato 2 1 (k-1) (rl skC l)) a0))))
 (an hb0 (an (ac (rwa cH (ae g (((ae l (k-1))).1)) (((ae l (k-1))).2)) (ac (ato 2 1 (k-1) (rl skC l)) (ac (rwa bn g (((ae l (k-1))).1)) (ac (ato 2 0 (k-1) (rl skC l)) a0))))
 (an (ac (sto 2 1 1 (k-1) (rl skC l)) (ac (dwo ((((ae l (k-1))).2+1:Nat):Int)) (ac (ato 2 1 (k-1) (rl skC l)) a0)))
 (an (ac (ato 1 0 (ae (ae g (((ae l (k-1))).1)) (((ae l (k-1))).2)) (rl aO is)) (ac (ixo (ae (ae g (((ae l (k-1))).1)) (((ae l (k-1))).2)) (length (map bn g))) a0))
 (an (a1 a0)
 (an hb1 (an a0
 (lf (wy [⟨True,.ret,[(2,B true)],[],[]⟩] 0) 2 trivial)))))))))
 oaa
theorem p30_r (g:List (List Nat)) (i0 k:Nat) (is:List Int) (l:List (Nat×Nat)) (hg:fC g) (hx0:i0<length g) (hs:SK g k is l) (hb0:(decide (((((ae l (k-1))).2:Nat):Int)<(length (map cH (ae g (((ae l (k-1))).1))):Int)))=true) (hb1:((ae is (ae (ae g (((ae l (k-1))).1)) (((ae l (k-1))).2)))==1)=true):Piece pg 96 0 kU [(0,.sl 1 (map bn g)),(3,.sr 0 1 0 (length (map bn g))),(5,.sr 1 2 0 k),(6,.pt 1 (0*2+(k-1)*2)),(12,I (length (map bn g):Int)),(13,I (i0:Int))] [.row 3 1 (map aO is),.row 114 2 (map skC l)] .ret [(2,B true)] []:=
 cF (aL aw mixed (az _)) (Wl g i0 k is l hg hx0 hs hb0 hb1) (aR rfl rfl rfl oay rfl)
theorem Wm (g:List (List Nat)) (i0 k:Nat) (is:List Int) (l:List (Nat×Nat)) (hg:fC g) (hx0:i0<length g) (hs:SK g k is l) (hb0:(decide (((((ae l (k-1))).2:Nat):Int)<(length (map cH (ae g (((ae l (k-1))).1))):Int)))=true) (hb1:((ae is (ae (ae g (((ae l (k-1))).1)) (((ae l (k-1))).2)))==1)=false) (hb2:((ae is (ae (ae g (((ae l (k-1))).1)) (((ae l (k-1))).2)))==0)=true):vcC pg 96 base aK 3000 (kbL []) kU (bz [(0,.sl 1 (map bn g)),(3,.sr 0 1 0 (length (map bn g))),(5,.sr 1 2 0 k),(6,.pt 1 (0*2+(k-1)*2)),(12,I (length (map bn g):Int)),(13,I (i0:Int))]) (bw [.row 3 1 (map aO is),.row 114 2 (map skC l)]) 2 (bM [⟨True,(.exit 3),[(0,.sl 1 (map bn g)),(3,.sr 0 1 0 (length (map bn g))),(5,.sr 1 2 0 (k+1)),(12,I (length (map bn g):Int)),(13,I (i0:Int))],[0,2],[.row 3 1 (map aO (List.set is (ae (ae g (((ae l (k-1))).1)) (((ae l (k-1))).2)) 1)),.row 114 2 (map skC (List.take k (List.set l (k-1) (((ae l (k-1))).1,((ae l (k-1))).2+1))++ [((ae (ae g (((ae l (k-1))).1)) (((ae l (k-1))).2)),0)]))]⟩]) (.r [.at (k-1) 1 (skC (ae l (k-1))),.at (k-1) 0 (skC (ae l (k-1))),.row (bn (ae g (((ae l (k-1))).1))),.k,bT] (.yes (.r [.at (k-1) 0 (skC (ae l (k-1))),.row (bn (ae g (((ae l (k-1))).1))),.at (k-1) 1 (skC (ae l (k-1))),.row (cH (ae (ae g (((ae l (k-1))).1)) (((ae l (k-1))).2))),bT] (.r [.at (k-1) 1 (skC (ae l (k-1))),.int ((((ae l (k-1))).2+1:Nat):Int),.at (k-1) 1 (skC (ae l (k-1))),bT] (.r [.at (ae (ae g (((ae l (k-1))).1)) (((ae l (k-1))).2)) 0 (aO (ae is (ae (ae g (((ae l (k-1))).1)) (((ae l (k-1))).2)))),bT] (.r [.k,bT] (.no (.r [.k,bT] (.yes (.r [.at (ae (ae g (((ae l (k-1))).1)) (((ae l (k-1))).2)) 0 (aO (ae is (ae (ae g (((ae l (k-1))).1)) (((ae l (k-1))).2)))),bT] (.r [bT] (.pick 0)))))))))))):=
 have hgl0:=hg.len;have h1:=hs.len;have h2:=hs.kl;have h3:=hs.pos;have h4:=hs.kb;have h5:=hs.node;have h6:=hs.row;have h7:=hs.to;have lms:=aU aO is;have lrn:=aU bn g;have lst:=aU skC l;have lro:=aU cH (ae g (ae l (k-1)).1);have gb0:=of_decide_eq_true hb0;have lq0:=aU cH ((ae g (((ae l (k-1))).1)));bc (an (a1 (ac (rwa bn g (((ae l (k-1))).1)) (ac (ato 2 0 (k-1) (rl skC l)) (ac (ato 2 1 (k-1) (rl skC l)) a0))))
 (an hb0 (an (ac (rwa cH (ae g (((ae l (k-1))).1)) (((ae l (k-1))).2)) (ac (ato 2 1 (k-1) (rl skC l)) (ac (rwa bn g (((ae l (k-1))).1)) (ac (ato 2 0 (k-1) (rl skC l)) a0))))
 (an (ac (sto 2 1 1 (k-1) (rl skC l)) (ac (dwo ((((ae l (k-1))).2+1:Nat):Int)) (ac (ato 2 1 (k-1) (rl skC l)) a0)))
 (an (ac (ato 1 0 (ae (ae g (((ae l (k-1))).1)) (((ae l (k-1))).2)) (rl aO is)) (ac (ixo (ae (ae g (((ae l (k-1))).1)) (((ae l (k-1))).2)) (length (map bn g))) a0))
 (an (a1 a0)
 (an hb1 (an (a1 a0)
 (an hb2 (an (ac (sto 1 0 1 (ae (ae g (((ae l (k-1))).1)) (((ae l (k-1))).2)) (rl aO is)) (ac (ixo (ae (ae g (((ae l (k-1))).1)) (((ae l (k-1))).2)) (length (map bn g))) a0))
 (an (ac (apo k 16 (jr (f:=skC) (rl skC l) (k-1) (((ae l (k-1))).1,((ae l (k-1))).2+1))) a0)
 (lfE (wy [⟨True,(.exit 3),[(0,.sl 1 (map bn g)),(3,.sr 0 1 0 (length (map bn g))),(5,.sr 1 2 0 (k+1)),(12,I (length (map bn g):Int)),(13,I (i0:Int))],[0,2],[.row 3 1 (map aO (List.set is (ae (ae g (((ae l (k-1))).1)) (((ae l (k-1))).2)) 1)),.row 114 2 (map skC (List.take k (List.set l (k-1) (((ae l (k-1))).1,((ae l (k-1))).2+1))++ [((ae (ae g (((ae l (k-1))).1)) (((ae l (k-1))).2)),0)]))]⟩] 0) 3 trivial (bq (congrArg (fun z=>Ob.row 3 1 z) (jr (f:=aO) (rl aO is) (ae (ae g (((ae l (k-1))).1)) (((ae l (k-1))).2)) 1)) (bq (congrArg (fun z=>Ob.row 114 2 z) (apT (f:=skC) (jr (f:=skC) (rl skC l) (k-1) (((ae l (k-1))).1,((ae l (k-1))).2+1)) k ((ae (ae g (((ae l (k-1))).1)) (((ae l (k-1))).2)),0))) dZ))))))))))))))
 oaa
theorem p30_c (g:List (List Nat)) (i0 k:Nat) (is:List Int) (l:List (Nat×Nat)) (hg:fC g) (hx0:i0<length g) (hs:SK g k is l) (hb0:(decide (((((ae l (k-1))).2:Nat):Int)<(length (map cH (ae g (((ae l (k-1))).1))):Int)))=true) (hb1:((ae is (ae (ae g (((ae l (k-1))).1)) (((ae l (k-1))).2)))==1)=false) (hb2:((ae is (ae (ae g (((ae l (k-1))).1)) (((ae l (k-1))).2)))==0)=true):Piece pg 96 0 kU [(0,.sl 1 (map bn g)),(3,.sr 0 1 0 (length (map bn g))),(5,.sr 1 2 0 k),(6,.pt 1 (0*2+(k-1)*2)),(12,I (length (map bn g):Int)),(13,I (i0:Int))] [.row 3 1 (map aO is),.row 114 2 (map skC l)] (.exit 3) [(0,.sl 1 (map bn g)),(3,.sr 0 1 0 (length (map bn g))),(5,.sr 1 2 0 (k+1)),(12,I (length (map bn g):Int)),(13,I (i0:Int))] [.row 3 1 (map aO (List.set is (ae (ae g (((ae l (k-1))).1)) (((ae l (k-1))).2)) 1)),.row 114 2 (map skC (List.take k (List.set l (k-1) (((ae l (k-1))).1,((ae l (k-1))).2+1))++ [((ae (ae g (((ae l (k-1))).1)) (((ae l (k-1))).2)),0)]))]:=
 cF (aL aw mixed (az _)) (Wm g i0 k is l hg hx0 hs hb0 hb1 hb2) (aR rfl rfl rfl oay oap)
theorem Wn (g:List (List Nat)) (i0 k:Nat) (is:List Int) (l:List (Nat×Nat)) (hg:fC g) (hx0:i0<length g) (hs:SK g k is l) (hb0:(decide (((k:Nat):Int)>0))=true):vcC pg 96 base aK 3000 (kbL []) (sq2 (sq2 kT)) (bz [(0,.sl 1 (map bn g)),(3,.sr 0 1 0 (length (map bn g))),(5,.sr 1 2 0 k),(6,.pt 1 (0*2+(k-1)*2)),(12,I (length (map bn g):Int)),(13,I (i0:Int))]) (bw [.row 3 1 (map aO is),.row 114 2 (map skC l)]) 2 (bM [⟨True,.normal,[(0,.sl 1 (map bn g)),(3,.sr 0 1 0 (length (map bn g))),(5,.sr 1 2 0 (k-1)),(12,I (length (map bn g):Int)),(13,I (i0:Int))],[0,1],[.row 3 1 (map aO (List.set is (((ae l (k-1))).1) 2)),.row 114 2 (map skC l)]⟩]) (.r [.at (k-1) 0 (skC (ae l (k-1))),.at (((ae l (k-1))).1) 0 (aO (ae is (((ae l (k-1))).1))),bT] (.r [.int ((k-1:Nat):Int),bT] (.pick 0))):=
 have hgl0:=hg.len;have h1:=hs.len;have h2:=hs.kl;have h3:=hs.pos;have h4:=hs.kb;have h5:=hs.node;have h6:=hs.row;have h7:=hs.to;have lms:=aU aO is;have lrn:=aU bn g;have lst:=aU skC l;have lro:=aU cH (ae g (ae l (k-1)).1);have gb0:=of_decide_eq_true hb0;bc (an (ac (sto 1 0 1 (((ae l (k-1))).1) (rl aO is)) (ac (ixo (((ae l (k-1))).1) (length (map bn g))) (ac (ato 2 0 (k-1) (rl skC l)) a0)))
 (an (ac (slo 0 (k-1) k) (ac (dso k) a0))
 (lfE (wy [⟨True,.normal,[(0,.sl 1 (map bn g)),(3,.sr 0 1 0 (length (map bn g))),(5,.sr 1 2 0 (k-1)),(12,I (length (map bn g):Int)),(13,I (i0:Int))],[0,1],[.row 3 1 (map aO (List.set is (((ae l (k-1))).1) 2)),.row 114 2 (map skC l)]⟩] 0) 2 trivial (bq (congrArg (fun z=>Ob.row 3 1 z) (jr (f:=aO) (rl aO is) (((ae l (k-1))).1) 2)) (bq (rfl:(.row 114 2 (map skC l):Ob)= .row 114 2 (map skC l)) dZ)))))
 oaa
theorem p30_e (g:List (List Nat)) (i0 k:Nat) (is:List Int) (l:List (Nat×Nat)) (hg:fC g) (hx0:i0<length g) (hs:SK g k is l) (hb0:(decide (((k:Nat):Int)>0))=true):Piece pg 96 0 (sq2 (sq2 kT)) [(0,.sl 1 (map bn g)),(3,.sr 0 1 0 (length (map bn g))),(5,.sr 1 2 0 k),(6,.pt 1 (0*2+(k-1)*2)),(12,I (length (map bn g):Int)),(13,I (i0:Int))] [.row 3 1 (map aO is),.row 114 2 (map skC l)] .normal [(0,.sl 1 (map bn g)),(3,.sr 0 1 0 (length (map bn g))),(5,.sr 1 2 0 (k-1)),(12,I (length (map bn g):Int)),(13,I (i0:Int))] [.row 3 1 (map aO (List.set is (((ae l (k-1))).1) 2)),.row 114 2 (map skC l)]:=
 cF (aL aw mixed (az _)) (Wn g i0 k is l hg hx0 hs hb0) (aR rfl rfl rfl oay oap)
abbrev zBO (g:List (List Nat)):=(map bn g)
def OP (g:List (List Nat)) (i0 k:Nat):Am.Loc:=[(0,.sl 1 (zBO g)),(3,.sr 0 1 0 (length (zBO g))),(5,.sr 1 2 0 k),(6,.pt 1 (0*2+(k-1)*2)),(12,I (length (zBO g):Int)),(13,I (i0:Int))]
def LC30 (g:List (List Nat)) (i0 k2:Nat):Am.Loc:=[(0,.sl 1 (zBO g)),(3,.sr 0 1 0 (length (zBO g))),(5,.sr 1 2 0 k2),(12,I (length (zBO g):Int)),(13,I (i0:Int))]
theorem GC {P:Program} {n K:Nat} {id:Nat} {c:Code} {L L' :Am.Loc} {ob ob' :List Ob} (h:Piece P n K c L ob .ret L' ob'):Piece P n K (.block id c) L ob .ret L' ob' :=fun df _ hd hq=>dJ (h df _ (hd.imp (fun e=>e) fun e=>by simpa only [Code.inR] using e) hq)
theorem SR.skq {g:List (List Nat)} (hg:fC g) {w:Sk} (h:SR g w) (hk:0<w.1) (q:Nat):SK g w.1 w.2.1 (lq w q):=by
 have hs:=h.sk hg hk
 refine ⟨h.len,by rw [lN];exact h.kl,hk,hs.kb,?_,?_,?_⟩
 ·rw [fg h.kl hk];exact hs.node
 ·rw [fg h.kl hk];exact hs.row
 ·rw [fg h.kl hk]
  exact fun hq=>hg.wf _ (ay hs.node) _ (ay hq)
section
variable {g:List (List Nat)} {i0:Nat} (hg:fC g) (hx0:i0<length g) {w:Sk} (h:SR g w) (hk:0<w.1)
 include hg hx0 h hk
theorem Z8 {q:Nat} (h0:(ae w.2.2 (w.1-1)).2<=q) (hq:q<dP g w):Piece pg 96 0 kU (OP g i0 w.1) [.row 3 1 (map aO w.2.1),.row 114 2 (map skC (lq w q))] .normal (OP g i0 w.1) [.row 3 1 (map aO w.2.1),.row 114 2 (map skC (lq w (q+1)))]:=by
 have hgo:=MS h0 hq
 have hql:=wG (h.node _ (show w.1-1<w.1 by omega)).2
 unfold tP jz gP at hgo
 unfold gP at hql
 simp only [Bool.and_eq_true,Bool.not_eq_true'] at hgo
 have hp:=p30_g g i0 w.1 w.2.1 (lq w q) hg hx0 (h.skq hg hk q) (by rw [fg h.kl hk];exact decide_eq_true (show ((q:Nat):Int)<(length (map cH (ae g (ae w.2.2 (w.1-1)).1)):Int) by rw [List.length_map];omega)) (by rw [fg h.kl hk];exact hgo.1) (by rw [fg h.kl hk];exact hgo.2)
 rw [TR h.kl hk] at hp
 exact hp
theorem Lv {xr:AX} {Lr:Am.Loc} {obr:List Ob} (hne:xr≠ .normal) (hf:Piece pg 96 0 kU (OP g i0 w.1) [.row 3 1 (map aO w.2.1),.row 114 2 (map skC (lq w (dP g w)))] xr Lr obr):Piece pg 96 0 (.block 4 (.loop kU)) (OP g i0 w.1) [.row 3 1 (map aO w.2.1),.row 114 2 (map skC w.2.2)] (oS 4 xr) Lr obr:=by
 have:=gh (P:=Tryz.prog) (n:=96) (K:=0) (id:=4) (c:=kU) (xr:=xr) (Lr:=Lr) (obr:=obr) (fun _=>OP g i0 w.1) (fun q=>[.row 3 1 (map aO w.2.1),.row 114 2 (map skC (lq w q))]) (fun q=>(ae w.2.2 (w.1-1)).2<=q/\q<=dP g w) (fun q=>dP g w-q) (ae w.2.2 (w.1-1)).2 ⟨Nat.le_refl _,by unfold dP;omega⟩ hne fun q hq=>by
  by_cases hql:q<dP g w
  ·exact .inl ⟨q+1,⟨by omega,by omega⟩,by omega,Z8 hg hx0 h hk hq.1 hql⟩
  ·obtain rfl:q=dP g w:=by omega
   exact .inr hf
 simp only [Wh h.kl hk] at this
 exact this
theorem TS:Piece pg 96 0 (sq1 kT) (LC30 g i0 w.1) [.row 3 1 (map aO w.2.1),.row 114 2 (map skC w.2.2)] .normal (OP g i0 w.1) [.row 3 1 (map aO w.2.1),.row 114 2 (map skC w.2.2)]:=p30_9 g i0 w.1 w.2.1 w.2.2 hg hx0 (h.sk hg hk) (decide_eq_true oab)
theorem Wo (hh:jU g w=true):Piece pg 96 0 (.block 3 kT) (LC30 g i0 w.1) [.row 3 1 (map aO w.2.1),.row 114 2 (map skC w.2.2)] .ret [(2,B true)] []:=by
 unfold jU at hh
 simp only [Bool.and_eq_true] at hh
 have h1:=(sm hh.1).1
 have h2:=hh.2
 unfold gP at h1
 unfold jz gP at h2
 have hp:=Lv hg hx0 h hk oai (p30_r g i0 w.1 w.2.1 (lq w (dP g w)) hg hx0 (h.skq hg hk _) oav (by rw [fg h.kl hk];exact h2))
 rw [I2]
 exact GC (dK (TS hg hx0 h hk) (lD hp (by simp [oS])))
theorem Wp (hh:jU g w=false):Piece pg 96 0 (.block 3 kT) (LC30 g i0 w.1) [.row 3 1 (map aO w.2.1),.row 114 2 (map skC w.2.2)] .normal (LC30 g i0 (fX g w).1) [.row 3 1 (map aO (fX g w).2.1),.row 114 2 (map skC (fX g w).2.2)]:=by
 have hql:=wG (h.node _ (show w.1-1<w.1 by omega)).2
 rw [I2]
 cases ha:OO g w with
 |true=>
  obtain ⟨h1,h2⟩:=sm ha
  unfold jU at hh
  rw [ha,Bool.true_and] at hh
  unfold tP at h2
  rw [hh,Bool.not_false,Bool.true_and,Bool.not_eq_false'] at h2
  unfold fX
  rw [ha,cond_true]
  unfold jz gP at hh h2
  unfold gP at h1
  have hp:=Lv hg hx0 h hk oai (p30_c g i0 w.1 w.2.1 (lq w (dP g w)) hg hx0 (h.skq hg hk _) oav (by rw [fg h.kl hk];exact hh) (by rw [fg h.kl hk];exact h2))
  rw [TR h.kl hk,fg h.kl hk] at hp
  exact EO (dK (TS hg hx0 h hk) (lD hp (by simp [oS])))
 |false=>
  unfold fX
  rw [ha,cond_false]
  have ha:=of_decide_eq_false ha
  unfold gP at ha
  have hp:=Lv hg hx0 h hk oai (p30_d g i0 w.1 w.2.1 (lq w (dP g w)) hg hx0 (h.skq hg hk _) (by rw [fg h.kl hk];exact decide_eq_false (show¬((dP g w:Nat):Int)<(length (map cH (ae g (ae w.2.2 (w.1-1)).1)):Int) by rw [List.length_map];omega)))
  have he:=p30_e g i0 w.1 w.2.1 (lq w (dP g w)) hg hx0 (h.skq hg hk _) (decide_eq_true oab)
  rw [fg h.kl hk] at he
  exact mz (dK (TS hg hx0 h hk) (dK hp he))
end
def BB (g:List (List Nat)) (i0:Nat) (y0:List Int) (w2:Nat×(List Int)×(List (Nat×Nat))):KB:=⟨[(0,.sl 1 (map bn g)),(3,.sr 0 1 0 (length (map bn g))),(5,.sr 1 2 0 w2.1),(12,I (length (map bn g):Int)),(13,I (i0:Int))],[.row 3 1 (map aO w2.2.1),.row 114 2 (map skC w2.2.2)],jU g w2,.ret,[(2,B true)],[],.normal,[(0,.sl 1 (map bn g)),(3,.sr 0 1 0 (length (map bn g))),(5,.sr 1 2 0 ((fX g w2).1)),(12,I (length (map bn g):Int)),(13,I (i0:Int))],[.row 3 1 (map aO ((fX g w2).2.1)),.row 114 2 (map skC ((fX g w2).2.2))],(decide (((w2.1:Nat):Int)>0))=true⟩
theorem TT (g:List (List Nat)) (i0:Nat) (y0:List Int) (w2:Nat×(List Int)×(List (Nat×Nat))) (hg:fC g) (hx0:i0<(length g)) (hy0:length y0=length g) (hw2:SR g w2):cQ pg 96 0 3 kT (BB g i0 y0 w2):=⟨fun hp e=>Wo hg hx0 hw2 (by have:=of_decide_eq_true hp;omega) e,fun hp e=>Wp hg hx0 hw2 (by have:=of_decide_eq_true hp;omega) e⟩
def BC (g:List (List Nat)) (i0:Nat) (y0:List Int) (w2:Nat×(List Int)×(List (Nat×Nat))):Nat×(List Int)×(List (Nat×Nat)):=((fX g w2).1,(fX g w2).2.1,(fX g w2).2.2)
def cL (g:List (List Nat)) (i0:Nat) (y0:List Int) (kk:Nat):Nat×(List Int)×(List (Nat×Nat)):=Nat.rec (motive:=fun _=>Nat×(List Int)×(List (Nat×Nat))) (1,List.set y0 i0 1,[(i0,0)]) (fun _ a=>BC g i0 y0 a) kk
def fD (g:List (List Nat)) (i0:Nat) (y0:List Int) (w2:Nat×(List Int)×(List (Nat×Nat))):Bool:=(bif decide (((w2.1:Nat):Int)>0) then (jU g w2) else true)
def oy (g:List (List Nat)) (i0:Nat) (y0:List Int) (w2:Nat×(List Int)×(List (Nat×Nat))):Bool:=(decide (((w2.1:Nat):Int)>0))
def fQ (g:List (List Nat)) (i0:Nat) (y0:List Int):Nat×(List Int)×(List (Nat×Nat)):=cL g i0 y0 (dA (fD g i0 y0) (cL g i0 y0))
theorem Z9 {l:List Int} {c:Nat} {x:Int} (hc:c<l.length) (h:ae l c=0) (hx:x≠0):c0 (l.set c x)+1=c0 l:=by
 induction l generalizing c with
 |nil=>simp at hc
 |cons b l ih=>
  cases c with
  |zero=>
   have hb:b=0:=by simpa [ae] using h
   subst hb
   simp [c0,List.count_cons,hx]
  |succ c=>
   have:=ih (c:=c) oaG (by simpa [ae] using h)
   simp only [List.set_cons_succ,c0,List.count_cons] at this⊢
   omega
theorem c0_le {l:List Int} {c:Nat} {x:Int} (hx:x≠0):c0 (l.set c x)<=c0 l:=by
 induction l generalizing c with
 |nil=>exact Nat.le_refl _
 |cons b l ih=>
  cases c with
  |zero=>
   simp only [List.set_cons_zero,c0,List.count_cons]
   have:(x==0)=false:=by simpa using hx
   rw [this]
   simp
  |succ c=>
   have:=ih (c:=c)
   simp only [List.set_cons_succ,c0,List.count_cons] at this⊢
   omega
theorem c0_lt {l:List Int} {c:Nat} {x:Int} (hc:c<l.length) (hx:x≠0):c0 (l.set c x)+1<=l.length:=by
 induction l generalizing c with
 |nil=>simp at hc
 |cons b l ih=>
  cases c with
  |zero=>
   simp only [List.set_cons_zero,c0,List.count_cons,List.length_cons]
   have:(x==0)=false:=by simpa using hx
   rw [this]
   have:=List.count_le_length (a:=(0:Int)) (l:=l)
   simp
   omega
  |succ c=>
   have:=ih (c:=c) oaG
   simp only [List.set_cons_succ,c0,List.count_cons,List.length_cons] at this⊢
   split<;>omega
theorem I3 {w:Sk} {q j:Nat} (hj:j≠w.1-1):ae (lq w q) j=ae w.2.2 j:=by
 unfold lq ae
 rw [List.getElem?_set_ne (fun e=>hj e.symm)]
theorem Wq {g:List (List Nat)} (hg:fC g) {w:Sk} (h:SR g w) (hk:0<w.1) (hh:jU g w=false):SR g (fX g w)/\2*c0 (fX g w).2.1+(fX g w).1+1<=2*c0 w.2.1+w.1:=by
 have hs:=h.sk hg hk
 have hql:=wG (h.node _ (show w.1-1<w.1 by omega)).2
 have hlen:=h.len
 have hkl:=h.kl
 have hbd:=h.bd
 cases ha:OO g w with
 |true=>
  obtain ⟨h1,h2⟩:=sm ha
  unfold jU at hh
  rw [ha,Bool.true_and] at hh
  unfold tP at h2
  rw [hh,Bool.not_false,Bool.true_and,Bool.not_eq_false'] at h2
  have hto:jz g w (dP g w)<g.length:=hg.wf _ (ay hs.node) _ (ay h1)
  have hc:=Z9 (x:=1) oab (eq_of_beq h2) (by decide)
  unfold fX
  rw [ha,cond_true]
  refine ⟨⟨by simp only [List.length_set];exact hlen,?_,fun j hj=> ?_,?_⟩,?_⟩
  ·simp only [List.length_append,List.length_take,lN,List.length_cons,List.length_nil];omega
  ·simp only at hj⊢
   by_cases hjw:j<w.1
   ·have e:ae (List.take w.1 (lq w (dP g w+1))++ [(jz g w (dP g w),0)]) j=ae (lq w (dP g w+1)) j:=by
     unfold ae
     rw [List.getElem?_append_left oaD,List.getElem?_take_of_lt hjw]
    rw [e]
    by_cases hj1:j=w.1-1
    ·subst hj1
     rw [fg hkl hk]
     exact ⟨hs.node,h1⟩
    ·rw [I3 hj1]
     exact h.node j hjw
   ·have e:ae (List.take w.1 (lq w (dP g w+1))++ [(jz g w (dP g w),0)]) j=(jz g w (dP g w),0):=by
     unfold ae
     rw [List.getElem?_append_right oaD,List.length_take,lN,show j-min w.1 w.2.2.length=0 by omega]
     rfl
    rw [e]
    exact ⟨hto,Nat.zero_le _⟩
  ·simp only;omega
  ·simp only;omega
 |false=>
  unfold fX
  rw [ha,cond_false]
  have hc:=c0_le (l:=w.2.1) (c:=(ae w.2.2 (w.1-1)).1) (x:=2) (by decide)
  refine ⟨⟨by simp only [List.length_set];exact hlen,by simp only [lN];omega,fun j hj=> ?_,by simp only;omega⟩,by simp only;omega⟩
  simp only at hj⊢
  rw [I3 oab]
  exact h.node j oab
theorem aaa {g:List (List Nat)} {i0:Nat} (hx0:i0<g.length) {y0:List Int} (hy:y0.length=g.length):SR g (1,List.set y0 i0 1,[(i0,0)]) where
 len:=by simp only [List.length_set];exact hy
 kl:=Nat.le_refl _
 node:=fun j hj=>by
  obtain rfl:j=0:=by simp only at hj;omega
  exact ⟨hx0,Nat.zero_le _⟩
 bd:=by
  have:=c0_lt (l:=y0) (c:=i0) (x:=1) oab (by decide)
  simp only
  omega
theorem TU {g:List (List Nat)} {i0:Nat} {y0:List Int} {w:Sk} (h:fD g i0 y0 w=false):0<w.1/\jU g w=false:=by
 unfold fD at h
 by_cases hk:0<w.1
 ·rw [show decide (((w.1:Nat):Int)>0)=true from decide_eq_true oab] at h
  exact ⟨hk,h⟩
 ·rw [show decide (((w.1:Nat):Int)>0)=false from decide_eq_false oab] at h
  cases h
theorem Lw {g:List (List Nat)} (hg:fC g) {i0:Nat} (hx0:i0<g.length) {y0:List Int} (hy:y0.length=g.length):(∃k,fD g i0 y0 (cL g i0 y0 k)=true)/\ ∀k,k<=dA (fD g i0 y0) (cL g i0 y0)->SR g (cL g i0 y0 k):=by
 have stp: ∀k,SR g (cL g i0 y0 k)->fD g i0 y0 (cL g i0 y0 k)=false->SR g (cL g i0 y0 (k+1))/\2*c0 (cL g i0 y0 (k+1)).2.1+(cL g i0 y0 (k+1)).1+1<=2*c0 (cL g i0 y0 k).2.1+(cL g i0 y0 k).1:=fun k h1 h2=>by
  obtain ⟨h3,h4⟩:=TU h2
  exact Wq hg h1 h3 h4
 have h0:SR g (cL g i0 y0 0):=aaa hx0 hy
 have ex: ∃k,fD g i0 y0 (cL g i0 y0 k)=true:=by
  by_cases h: ∃k,fD g i0 y0 (cL g i0 y0 k)=true
  ·exact h
  ·have h: ∀k,fD g i0 y0 (cL g i0 y0 k)=false:=fun k=>by
    cases e:fD g i0 y0 (cL g i0 y0 k) with
    |true=>exact absurd ⟨k,e⟩ h
    |false=>rfl
   have all: ∀k,SR g (cL g i0 y0 k):=fun k=>by
    induction k with
    |zero=>exact h0
    |succ k ih=>exact (stp k ih (h k)).1
   have key: ∀k,2*c0 (cL g i0 y0 k).2.1+(cL g i0 y0 k).1+k<=2*c0 (cL g i0 y0 0).2.1+(cL g i0 y0 0).1:=fun k=>by
    induction k with
    |zero=>exact Nat.le_refl _
    |succ k ih=>
     have:=(stp k (all k) (h k)).2
     omega
   have:=key (2*c0 (cL g i0 y0 0).2.1+(cL g i0 y0 0).1+1)
   omega
 refine ⟨ex,fun k=> ?_⟩
 induction k with
 |zero=>exact fun _=>h0
 |succ k ih=>exact fun hk=>(stp k (ih oab) ((fW ex).2 k oab)).1
abbrev zBe:=(List (Nat×Nat))
def BD (g:List (List Nat)) (i0:Nat) (y0:List Int) (w2:Nat×(List Int)×zBe):Am.Loc:=[(0,.sl 1 (zBO g)),(3,.sr 0 1 0 (length (zBO g))),(5,.sr 1 2 0 w2.1),(12,I (length (zBO g):Int)),(13,I (i0:Int))]
def GD (g:List (List Nat)) (i0:Nat) (y0:List Int) (w2:Nat×(List Int)×zBe):Am.Loc:=[(2,B true)]
abbrev zBy (g:List (List Nat)) (i0:Nat):Am.Loc:=[(0,.sl 1 (zBO g)),(3,.sr 0 1 0 (length (zBO g))),(12,I (length (zBO g):Int)),(13,I (i0:Int))]
def GF (g:List (List Nat)) (i0:Nat) (y0:List Int) (w2:Nat×(List Int)×zBe):Am.Loc:=(zBy g i0)
def BE (g:List (List Nat)) (i0:Nat) (y0:List Int) (w2:Nat×(List Int)×zBe):List Ob:=[.row 3 1 (map aO w2.2.1),.row 114 2 (map skC w2.2.2)]
def GG (g:List (List Nat)) (i0:Nat) (y0:List Int) (w2:Nat×(List Int)×zBe):List Ob:=[]
def GH (g:List (List Nat)) (i0:Nat) (y0:List Int) (w2:Nat×(List Int)×zBe):List Ob:=[.row 3 1 (map aO w2.2.1),.row 114 2 (map skC w2.2.2)]
def tQ (g:List (List Nat)) (i0:Nat) (y0:List Int):KB:=⟨BD g i0 y0 (cL g i0 y0 0),BE g i0 y0 (cL g i0 y0 0),oy g i0 y0 (fQ g i0 y0),.ret,GD g i0 y0 (fQ g i0 y0),GG g i0 y0 (fQ g i0 y0),.normal,GF g i0 y0 (fQ g i0 y0),GH g i0 y0 (fQ g i0 y0),(∃k,fD g i0 y0 (cL g i0 y0 k)=true)/\ ∀k,k<=dA (fD g i0 y0) (cL g i0 y0)->SR g (cL g i0 y0 k)⟩
def BF (g:List (List Nat)) (i0:Nat) (y0:List Int) (w2:Nat×(List Int)×zBe):List bG:=[whW (fD g i0 y0 w2) (oy g i0 y0 w2) .ret (GD g i0 y0 w2) zb (GG g i0 y0 w2),nxW (fD g i0 y0 w2) (BD g i0 y0 (BC g i0 y0 w2)) (BE g i0 y0 (BC g i0 y0 w2)) (BD g i0 y0 ((fX g w2).1,(fX g w2).2.1,(fX g w2).2.2)) zBN (BE g i0 y0 ((fX g w2).1,(fX g w2).2.1,(fX g w2).2.2)),wxW (fD g i0 y0 w2) (oy g i0 y0 w2) (.exit 2) (GF g i0 y0 w2) zBN (GH g i0 y0 w2)]
def XG (g:List (List Nat)) (i0:Nat) (y0:List Int) (w2:Nat×(List Int)×(List (Nat×Nat))):GT:=(.r [.k,bT] (.br (.br (.pick 0) (.pick 1)) (.pick 2)))
theorem aab (g:List (List Nat)) (i0:Nat) (y0:List Int) (w2:Nat×(List Int)×(List (Nat×Nat))) (hg:fC g) (hx0:i0<(length g)) (hy0:length y0=length g) (hw2:SR g w2):vcC pg 96 base aK 3000 (kbL [(3,BB g i0 y0 w2)]) D2 (bz (BD g i0 y0 w2)) (bw (BE g i0 y0 w2)) 2 (bM (BF g i0 y0 w2)) (XG g i0 y0 w2):=
 bc (an (a1 a0)
 (brP (fun (h0:(decide (((w2.1:Nat):Int)>0))=true)=>
 (an (kbT (BB g i0 y0 w2) h0) (brP (fun (h1:(jU g w2)=true)=>
 (lf (wy (BF g i0 y0 w2) 0) 0 ⟨show fD g i0 y0 w2=true from (cdT h0 h1),show oy g i0 y0 w2=true from h0⟩)) (fun h1=>
 (lf (wy (BF g i0 y0 w2) 1) 2 (nxP (BD g i0 y0) (BE g i0 y0) (show fD g i0 y0 w2=false from (cdT h0 h1)) (show (BC g i0 y0 w2)=((fX g w2).1,(fX g w2).2.1,(fX g w2).2.2) from rfl))))))) (fun h0=>
 (lf (wy (BF g i0 y0 w2) 2) 2 ⟨show fD g i0 y0 w2=true from (cdF h0 rfl),show oy g i0 y0 w2=false from h0⟩))))
 oaa
theorem TV (g:List (List Nat)) (i0:Nat) (y0:List Int) (w2:Nat×(List Int)×(List (Nat×Nat))):(BF g i0 y0 w2).all zj=true:=by refine (aF (aR rfl rfl rfl ?_ ?_) (aF (aR rfl rfl rfl ?_ ?_) (aF (aR rfl rfl rfl ?_ ?_) bC)))<;>simp (maxDischargeDepth:=9) [nxW,whW,wxW,BD,GD,GF,plS,AV.pure,ah,aj,BE,GG,GH,plO,eC,dG]
theorem GI:dp [3] D2=[(3,kT)]:=by kernel_rfl
theorem TW (g:List (List Nat)) (i0:Nat) (y0:List Int) (hg:fC g) (hx0:i0<(length g)) (hy0:length y0=length g):cQ pg 96 0 2 (.loop D2) (tQ g i0 y0):=
 have hgl0:=hg.len;bW (fun hp2=>sO (id:=2) (t:=fD g i0 y0) (hit:=oy g i0 y0) (it:=cL g i0 y0) (step:=BC g i0 y0) (fun _=>rfl) (I:=fun w2=>SR g w2) (xr:= .ret) (xn:=(.exit 2)) (Lr:=GD g i0 y0) (Lx:=GF g i0 y0) (obr:=GG g i0 y0) (obx:=GH g i0 y0) (V:=fun w2=>vcC pg 96 base aK 3000 (kbL [(3,BB g i0 y0 w2)]) D2) (BD g i0 y0) (BE g i0 y0) 2 (BF g i0 y0) (XG g i0 y0) (fun w2 hw2=>aL aw mixed (bK (l:=[(3,BB g i0 y0 w2)]) GI (aT (TT g i0 y0 w2 hg hx0 hy0 hw2) rfl bj) rfl)) (fun e=>by cases e) (fun e=>by cases e) (fun _=>rfl) (fun w2 hw2=>aab g i0 y0 w2 hg hx0 hy0 hw2) (fun w2 _=>TV g i0 y0 w2) (fun w2 _=>show∀ww∈BF g i0 y0 w2,lF _ _ _ _ _ _ _ _ _ _ ww from (aC J3 (aC nK (aC sN bB)))) hp2.1 hp2.2) (fun h=>h) (fun h=>h)
def tR (g:List (List Nat)) (i0:Nat) (y0:List Int):List Int:=(bif (ae y0 i0) !=0 then y0 else (fQ g i0 y0).2.1)
def cP (g:List (List Nat)) (kk:Nat):List Int:=Nat.rec (motive:=fun _=>List Int) (replicate (length (map bn g)) 0) (fun j a=>tR g j a) kk
theorem GJ (g:List (List Nat)) (hg:fC g) (i:Nat) (hi:i<=g.length):length (cP g i)=length g:=by
 induction i with
 |zero=>show (replicate _ (0:Int)).length=_;simp
 |succ i ih=>
  show length (tR g i (cP g i))=_
  unfold tR
  have ih:=ih oab
  cases ae (cP g i) i !=0 with
  |true=>exact ih
  |false=>exact ((Lw hg oab ih).2 _ (Nat.le_refl _)).len
def pQ (g:List (List Nat)) (i0:Nat) (y0:List Int):List Ob:=[.row 3 1 (map aO y0)]
def nj (g:List (List Nat)) (i0:Nat):Am.Loc:=(zBy g i0)
def u6 (g:List (List Nat)) (i0:Nat):List Ob:=pQ g i0 (cP g i0)
def jA (g:List (List Nat)) (i0:Nat):Bool:=(!((ae (cP g i0) i0) !=0)&&(oy g i0 (cP g i0) (fQ g i0 (cP g i0))))
def GK (g:List (List Nat)):Bool:=cX (length g) (jA g)
def GL (g:List (List Nat)) (i0:Nat):Am.Loc:=[(2,B true)]
def BG (g:List (List Nat)) (i0:Nat):List Ob:=[]
def tS (g:List (List Nat)):Am.Loc:=[]
def pR (g:List (List Nat)):List Ob:=[.row 3 1 (map aO (cP g (length g)))]
def BH (g:List (List Nat)):KB:=⟨nj g 0,u6 g 0,GK g,.ret,GL g (b4 (length g) (jA g)),BG g (b4 (length g) (jA g)),.normal,tS g,pR g,True⟩
def BI (g:List (List Nat)) (i0:Nat):List bG:=[nxW (jA g i0) (nj g (i0+1)) (u6 g (i0+1)) (nj g (i0+1)) zAO (pQ g (i0+1) (cP g i0)),htW (jA g i0) .ret (GL g i0) zb (BG g i0),nxW (jA g i0) (nj g (i0+1)) (u6 g (i0+1)) (nj g (i0+1)) zAO (pQ g (i0+1) ((fQ g i0 (cP g i0)).2.1))]
def XH (g:List (List Nat)) (i0:Nat):GT:=(.r [.k,bT] (.yes (.r [bT] (.more (.r [.at i0 0 (aO (ae (cP g i0) i0)),.k,bT] (.br (.r [.int ↑(i0+1),bT] (.pick 0)) (.r [.at i0 0 (aO (ae (cP g i0) i0)),bT] (.r [bT] (.br (.pick 1) (.r [.int ↑(i0+1),bT] (.pick 2)))))))))))
theorem aac (g:List (List Nat)) (i0:Nat) (hg:fC g) (hx0:i0<(length g)):vcC pg 96 base aK 3000 (kbL [(2,tQ g i0 (cP g i0))]) BA (bz (nj g i0)) (bw (u6 g i0)) 1 (bM (BI g i0)) (XH g i0):=
 have hgl0:=hg.len;have hgl:=hg.len;have hml:=GJ g hg i0 (Nat.le_of_lt hx0);have l1:=aU bn (g);have hb:(decide ((i0:Int)<(length (map bn g):Int)))=true:=decide_eq_true oab;
 bc (an (a1 a0)
 (an hb (an a0
 (an (a1 (ac (ato 1 0 i0 (rl aO (cP g i0))) (ac (ixo i0 (length (map bn g))) a0)))
 (brP (fun (h1:((ae (cP g i0) i0) !=0)=true)=>have g1:=JY h1;
 (an (ac (dwo ((i0+1:Nat):Int)) a0)
 (lf (wy (BI g i0) 0) 1 (nxP (fun _=>nj g (i0+1)) (pQ g (i0+1)) (show jA g i0=false from (bf (cq h1))) (show cP g (i0+1)=(cP g i0) from (cdT h1 rfl)))))) (fun h1=>have g1:=fu h1;
 (an (ac (sto 1 0 1 i0 (rl aO (cP g i0))) (ac (ixo i0 (length (map bn g))) a0))
 (an a0
 (an (Ch (tQ g i0 (cP g i0)) (S:=nm (KB.L0 (tQ g i0 (cP g i0)))) rfl (bq (congrArg (fun z=>Ob.row 3 1 z) (jr (f:=aO) (rl aO (cP g i0)) i0 1)) (bq (rfl:(.row 114 2 [[I (i0:Int),I 0]]:Ob)= .row 114 2 [[I (i0:Int),I 0]]) dZ)) (Lw hg hx0 (show length (cP g i0)=length g by first|exact hy0|exact GJ g hg i0 (Nat.le_of_lt hx0)))) (brP (fun (h2:(oy g i0 (cP g i0) (fQ g i0 (cP g i0)))=true)=>
 (lf (wy (BI g i0) 1) 0 (show jA g i0=true from (aD (au h1) h2)))) (fun h2=>
 (an (ac (dwo ((i0+1:Nat):Int)) a0)
 (lf (wy (BI g i0) 2) 2 (nxP (fun _=>nj g (i0+1)) (pQ g (i0+1)) (show jA g i0=false from (aD (au h1) h2)) (show cP g (i0+1)=((fQ g i0 (cP g i0)).2.1) from (cdF h1 rfl))))))))))))))))
 oaa
theorem aad (g:List (List Nat)) (hg:fC g):vcC pg 96 base aK 3000 (kbL []) BA (bz (nj g (length g))) (bw (u6 g (length g))) 1 (bM [⟨True,(.exit 0),tS g,range 1,pR g⟩]) zG:=
 have hgl0:=hg.len;have hgl:=hg.len;have l1:=aU bn (g);have hb:(decide ((((length g):Nat):Int)<(length (map bn g):Int)))=false:=decide_eq_false oab;
 bc (an (a1 a0)
 (an hb (lf (wy [⟨True,(.exit 0),tS g,range 1,pR g⟩] 0) 1 trivial)))
 oaa
theorem TX (g:List (List Nat)) (i0:Nat):(BI g i0).all zj=true:=by refine (aF (aR rfl rfl rfl ?_ ?_) (aF (aR rfl rfl rfl ?_ ?_) (aF (aR rfl rfl rfl ?_ ?_) bC)))<;>simp (maxDischargeDepth:=9) [nxW,htW,nj,GL,tS,plS,AV.pure,ah,aj,pQ,u6,BG,pR,plO,eC,dG]
theorem TY (g:List (List Nat)):bG.cS 0 ⟨True,(.exit 0),tS g,range 1,pR g⟩=true:=(aR rfl rfl rfl rfl (by simp (maxDischargeDepth:=9) [nxW,htW,pQ,u6,BG,pR,plS,plO,eC,dG,AV.pure,ah,aj]))
theorem GM:dp [2] BA=[(2,.loop D2)]:=by kernel_rfl
theorem TZ (g:List (List Nat)) (hg:fC g):cQ pg 96 0 0 (.loop BA) (BH g):=
 have hgl0:=hg.len;bW (fun _=>eB (id:=0) (m:=length g) (t:=jA g) (xr:= .ret) (xn:=(.exit 0)) (Lr:=GL g) (Lx:=tS g) (obr:=BG g) (obx:=pR g) (V:=fun i0=>vcC pg 96 base aK 3000 (kbL [(2,tQ g i0 (cP g i0))]) BA) (nj g) (u6 g) 1 (BI g) (XH g) _ _ (fun i0 hx0=>aL aw mixed (bK (l:=[(2,tQ g i0 (cP g i0))]) GM (aT (TW g i0 (cP g i0) hg hx0 (GJ g hg i0 (Nat.le_of_lt hx0))) rfl bj) rfl)) (aL aw mixed (az _)) (fun e=>by cases e) (fun e=>by cases e) (fun _=>rfl) (fun i0 hx0=>aac g i0 hg hx0) (fun i0 _=>TX g i0) (fun i0 _=>show∀ww∈BI g i0,cm _ _ _ _ _ _ ww from (aC bU (aC cT (aC bU bB)))) (aad g hg) (TY g)) (fun h=>h) (fun h=>h)
def r30 (g:List (List Nat)):Bool:=(GK g)
theorem vP:dp [0] (aH 30)=[(0,.loop BA)]:=by kernel_rfl
theorem aae (g:List (List Nat)) (hg:fC g):bg pg 30 [.sl 1 (zBO g)] [] [] (B (r30 g)) []:=
 have hgl0:=hg.len;bD (fn:=Tryz.f30) (callf:=base) (pu:=aK) (lf:=3000) (l:=[(0,BH g)]) (t:=(.r [bT] (.more zh))) aw mixed Tryz.func30 oaa (show Tryz.f30.body=some (aH 30) by kernel_rfl) (Nat.le_of_ble_eq_true rfl) (bK (l:=[(0,BH g)]) vP (aT (TZ g hg) rfl bj) rfl) rfl (bc
 (an a0
 (have l1:=aU bn (g);an (ac (mko (length (map bn g)) 8) a0)
 (an a0
 (an (Ch (BH g) (S:=nm (KB.L0 (BH g))) rfl (bq (congrArg (fun z=>Ob.row 3 1 z) (EU (f:=aO) (length (map bn g)) 0)) dZ) trivial) (brP (fun (h0:(GK g)=true)=>
 (bE (show r30 g=true from h0))) (fun h0=>
 (an a0
 (bE (show r30 g=false from h0)))))))))
 oaa)
end Go.Proofs.YtfkjfjalecikkaaGreatDoor
end
