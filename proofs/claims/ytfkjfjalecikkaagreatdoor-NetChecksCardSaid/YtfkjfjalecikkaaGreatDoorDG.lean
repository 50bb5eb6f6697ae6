/- Graphs in memory. Which rules may take nothing. Can each state come to its rule's end? Words 2 and 3 make a net well; graphs of free edges and calls. Which nets may be. -/
import Derived.Test.YtfkjfjalecikkaaGreatDoorDF
noncomputable section
open List (length map range replicate)
set_option maxRecDepth 100000
namespace Go.Proofs.YtfkjfjalecikkaaGreatDoor
open Go.Am
def ng:Code->Code
 | .block _ c=>c
 |c=>c
def iv (x:Int):Value:= .int .i64 x
def gV (G:List (List Int)):List (List Value):=G.map fun l=>l.map iv
theorem lF (l:List Int):inner 3 (l.map iv)= .row 3 1 (l.map aL):=by
 unfold inner aJ vs
 rw [List.map_map,List.map_map]
 rfl
theorem oJ (G:List (List Int)):(gV G).length=G.length:=List.length_map _
theorem LN {G:List (List Int)} {j:Nat} (hj:j<G.length):(gV G)[j]? =some ((ah G j).map iv):=by rw [gV,List.getElem?_map,eZ hj];rfl
theorem LO (G:List (List Int)) (j:Nat) (l:List Int):(gV G).set j (l.map iv)=gV (G.set j l):=by rw [gV,gV,List.map_set]
theorem LP (N:Nat):gV (replicate N [])=replicate N []:=by simp [gV]
abbrev oneI (T:TypeId) (o j:Nat) (xs:List Value) (l:List Int):List Ob:=[.row T 1 (aJ ((vs xs).set j (.sr (o+1) 1 0 l.length))),.row 3 1 (l.map aL)]
theorem Nc (o j:Nat) (xs:List Value) (l:List Int):nf o 36 3 j xs (l.map iv)=oneI 36 o j xs l:=by
 unfold nf
 rw [lF,List.length_map]
theorem pin1 {P:Program} {n:Nat} {c:Code} {L L' :Am.Loc} {base:List Ob} {G:List (List Int)} {j:Nat} {R' :List Int} {x:AX} (hj:j<G.length) (hrf:c.rf=false) (hx:fi x=true)
  (uL: ∀p∈L,p.2.und (base.length+1)=true) (uL' : ∀p∈L',p.2.und (base.length+1)=true) (ub:base.all (Ob.und (base.length+1))=true) (nd: ∀X∈base,X≠ .dead)
  (h: ∀xs:List Value,xs.length=G.length->Piece P n (base.length+1) c L (base++oneI 36 base.length j xs (ah G j)) x L' (base++oneI 36 base.length j xs R')):
  Piece P n 0 c L (base++cw base.length 36 3 (gV G)) x L' (base++cw base.length 36 3 (gV (G.set j R'))):=by
 rw [<-LO]
 refine KJ (LN hj) rfl (Nat.zero_le _) hrf hx (List.all_eq_true.2 uL) (List.all_eq_true.2 uL') ub ub nd fun xs hxs=> ?_
 rw [Nc,Nc]
 exact h xs (by rw [hxs,oJ])
theorem Fi (N:Nat): ∀(Rs:List (List Value)) (o:Nat),o+Rs.length<=N->dj N (aJ (dD o Rs))=true
 |[],_,_=>rfl
 |R::Rs,o,h=>by
  simp only [List.length_cons] at h
  have:=Fi N Rs (o+1) (by omega)
  simp only [dD,aJ,List.map_cons,dj,cG,AV.und,Bool.and_true,Bool.and_eq_true] at this⊢
  exact ⟨by first|omega|simpa using (by omega),this⟩
theorem Pa (N:Nat) (Ti:TypeId) (R:List Value):(inner Ti R).und N=true:=by
 have:dj N (aJ (vs R))=true:=by
  induction R with
  |nil=>rfl
  |cons x R ih=>simp only [aJ,vs,List.map_cons,dj,cG,AV.und,Bool.and_self,Bool.true_and] at ih⊢;exact ih
 simpa [inner,Ob.und] using this
theorem Pb (Rs:List (List Value)) (T Ti:TypeId):(cw 0 T Ti Rs).all (Ob.und (Rs.length+1))=true:=by
 simp only [cw,List.all_cons,List.all_map,Bool.and_eq_true,List.all_eq_true]
 exact ⟨by simpa [Ob.und] using Fi _ Rs 1 (by omega),fun R _=>Pa _ _ _⟩
theorem pin2 {P:Program} {n:Nat} {c:Code} {Ls Ls' L L' :Am.Loc} {G1 G2:List (List Int)} {N1 j k:Nat} {A' B' :List Int} {x:AX} (hN:G1.length=N1) (hj:j<G1.length) (hk:k<G2.length) (hrf:c.rf=false) (hx:fi x=true)
  (uL: ∀p∈Ls,(oG p.2||p.2.und 1)=true) (uL' : ∀p∈Ls',(oG p.2||p.2.und 1)=true) (hL:shL N1 Ls=L) (hL' :shL N1 Ls' =L')
  (h: ∀xs ys:List Value,xs.length=G1.length->ys.length=G2.length->Piece P n 2 c Ls [.row 36 1 (aJ ((vs xs).set j (.sr 2 1 0 (ah G1 j).length))),.row 36 1 (aJ ((vs ys).set k (.sr 3 1 0 (ah G2 k).length))),.row 3 1 ((ah G1 j).map aL),.row 3 1 ((ah G2 k).map aL)] x Ls' [.row 36 1 (aJ ((vs xs).set j (.sr 2 1 0 A'.length))),.row 36 1 (aJ ((vs ys).set k (.sr 3 1 0 B'.length))),.row 3 1 (A'.map aL),.row 3 1 (B'.map aL)]):
  Piece P n 0 c L (cw 0 36 3 (gV G1)++cw (N1+1) 36 3 (gV G2)) x L' (cw 0 36 3 (gV (G1.set j A'))++cw (N1+1) 36 3 (gV (G2.set k B'))):=by
 subst hN
 subst hL
 subst hL'
 rw [<-LO,<-LO]
 have:=JA (T:=36) (Ti:=3) (x:=x) (Ls:=Ls) (Ls' :=Ls') (A' :=A'.map iv) (B' :=B'.map iv) (LN hj) (LN hk) hrf hx (List.all_eq_true.2 uL) (List.all_eq_true.2 uL') fun xs ys hxs hys=>by
  rw [lF,lF,lF,lF,List.length_map,List.length_map,List.length_map,List.length_map]
  exact h xs ys (by rw [hxs,oJ]) (by rw [hys,oJ])
 rw [oJ] at this
 exact this
theorem CD (N:Nat):replicate N [AV.v (.slice none 0 0)]=aJ (replicate N (.v (.slice none 0 0))):=by simp [aJ]
theorem Fj {P:Program} {n id:Nat} {c:Code} {base:List Ob} {L Lx Lx2:Am.Loc} {N:Nat} {G:List (List Int)} {g:List (List AV)} (hp:Piece P n 0 (.block id (.loop c)) L (base++cw base.length 36 3 (gV (replicate N []))) .normal Lx (base++cw base.length 36 3 (gV G))) (ub:base.all (Ob.und base.length)=true) (hG:aJ (jj (gV G))=g)
  (hL: ∀p∈Lx2,(lk Lx p.1=some p.2/\p.2.und base.length=true)\/(lk Lx p.1=some (.sr base.length 1 0 G.length)/\p.2= .sl 1 g)):dg P n 0 id (.loop c) ⟨L,base++ [.row 36 1 (replicate N [.v (.slice none 0 0)])],false,.ret,[],[],.normal,Lx2,base,True⟩:=by
 refine ⟨fun _ e=>(by cases e),fun _ _=> ?_⟩
 show Piece P n 0 (.block id (.loop c)) L (base++ [.row 36 1 (replicate N [.v (.slice none 0 0)])]) .normal Lx2 base
 rw [CD]
 refine A4 (KK 3 (Nat.zero_le _)) ?_
 rw [<-LP]
 refine fP (fe.refl _ _) hp (oH (Nat.zero_le _) ub fun t av e=> ?_) rfl
 rw [hG,oJ]
 exact hL _ (lP e)
theorem Pc {P:Program} {n id:Nat} {c:Code} {L L1 Lx Lm Lx2:Am.Loc} {N0 N1 N2:Nat} {G1 G2:List (List Int)} {g1 g2:List (List AV)} (hN:N0=N1) (hp:Piece P n 0 (.block id (.loop c)) L1 (cw 0 36 3 (gV (replicate N0 []))++cw (N1+1) 36 3 (gV (replicate N2 []))) .normal Lx (cw 0 36 3 (gV G1)++cw (N1+1) 36 3 (gV G2))) (hL1:shL N1 L=L1) (uL: ∀p∈L,(oG p.2||p.2.und 1)=true) (h1:G1.length=N1) (hG1:aJ (jj (gV G1))=g1) (hG2:aJ (jj (gV G2))=g2)
  (hm: ∀p∈Lm,(lk Lx p.1=some p.2/\p.2.und (N1+1)=true)\/(lk Lx p.1=some (.sr (N1+1) 1 0 G2.length)/\p.2= .sl 1 g2))
  (hx: ∀p∈Lx2,(lk Lm p.1=some p.2/\p.2.und 0=true)\/(lk Lm p.1=some (.sr 0 1 0 G1.length)/\p.2= .sl 1 g1)):dg P n 0 id (.loop c) ⟨L,[.row 36 1 (replicate N0 [.v (.slice none 0 0)]),.row 36 1 (replicate N2 [.v (.slice none 0 0)])],false,.ret,[],[],.normal,Lx2,[],True⟩:=by
 subst hN
 refine ⟨fun _ e=>(by cases e),fun _ _=> ?_⟩
 show Piece P n 0 (.block id (.loop c)) L [.row 36 1 (replicate N0 [.v (.slice none 0 0)]),.row 36 1 (replicate N2 [.v (.slice none 0 0)])] .normal Lx2 []
 rw [CD,CD]
 refine A4 (O9 3 (List.all_eq_true.2 uL)) ?_
 rw [hL1,<-LP,<-LP]
 have e1:(cw 0 36 3 (gV G1)).length=N0+1:=by rw [uH,oJ,h1]
 have t1:fe 0 Lx (cw 0 36 3 (gV G1)++cw (N0+1) 36 3 (gV G2)) Lm (cw 0 36 3 (gV G1)):=by
  rw [<-e1]
  refine oH (Nat.zero_le _) (by rw [uH];exact Pb _ _ _) fun t av e=> ?_
  rw [e1,hG2,oJ]
  exact hm _ (lP e)
 have t2:fe 0 Lm (cw 0 36 3 (gV G1)) Lx2 []:=by
  refine oH (base:=[]) (Nat.zero_le _) rfl fun t av e=> ?_
  rw [hG1,oJ]
  exact hx _ (lP e)
 exact fP (fe.refl _ _) hp (t1.trans t2) rfl
theorem tK (G:List (List Int)):aJ (jj (gV G))=G.map fun l=>[.sl 1 (l.map aL)]:=by
 unfold aJ jj gV
 rw [List.map_map,List.map_map]
 refine List.map_congr_left fun l _=> ?_
 simp only [Function.comp]
 have:=lF l
 simp only [inner,Ob.row.injEq,true_and] at this
 rw [this]
section
variable {step:Nat->Nat->List (List Int)->List (List Int)} {len:Nat->Nat} {tg:Nat->Nat->List Int}
theorem Wp (i:Nat) (h: ∀k G,k<len i->step i k G=G.set i (ah G i++tg i k)) (G:List (List Int)) (hi:i<G.length) (k:Nat) (hk:k<=len i):inF step i G k=G.set i (ah G i++(range k).flatMap (tg i)):=by
 induction k with
 |zero=>
  show G=G.set i (ah G i++ [])
  rw [List.append_nil]
  refine (List.ext_getElem? fun j=> ?_)
  by_cases hj:i=j
  ·subst hj;rw [List.getElem?_set_self hi,eZ hi]
  ·rw [List.getElem?_set_ne hj]
 |succ k ih=>
  show step i k (inF step i G k)=_
  rw [h k _ (by omega),ih (by omega),List.set_set,List.range_succ,List.flatMap_append]
  congr 1
  rw [ah,List.getElem?_set_self hi]
  simp
theorem CE {m:Nat} (h: ∀i k G,i<m->k<len i->step i k G=G.set i (ah G i++tg i k)) (i:Nat) (hi:i<=m):gO step len (replicate m []) i=(range i).map (fun i=>(range (len i)).flatMap (tg i))++replicate (m-i) []:=by
 induction i with
 |zero=>show replicate m []=_;simp
 |succ i ih=>
  show inF step i (gO step len (replicate m []) i) (len i)=_
  rw [ih (by omega),Wp i (fun k G hk=>h i k G (by omega) hk) _ (by simp;omega) _ (Nat.le_refl _)]
  have e1:ah ((range i).map (fun i=>(range (len i)).flatMap (tg i))++replicate (m-i) ([]:List Int)) i=[]:=by
   rw [ah,List.getElem?_append_right (by simp)]
   simp only [List.length_map,List.length_range,Nat.sub_self,List.getElem?_replicate]
   rw [if_pos (by omega)];rfl
  rw [e1,List.nil_append,List.set_append_right _ _ (by simp),List.range_succ,List.map_append,List.append_assoc]
  congr 1
  simp only [List.length_map,List.length_range,Nat.sub_self]
  rw [show m-i=(m-(i+1))+1 by omega,List.replicate_succ,List.set_cons_zero]
  rfl
end
theorem kP {α:Type} [Inhabited α] (l:List α) (f:α->List Int):(range l.length).flatMap (fun k=>f (ah l k))=l.flatMap f:=by
 have:l=(range l.length).map (ah l):=by
  refine List.ext_getElem? fun i=> ?_
  rw [List.getElem?_map]
  by_cases hi:i<l.length
  ·rw [List.getElem?_range hi,eZ hi];rfl
  ·rw [List.getElem?_eq_none (by omega),List.getElem?_eq_none (by simp;omega)];rfl
 conv=>rhs;rw [this]
 rw [List.flatMap_map]
theorem Fk {α β:Type} [Inhabited α] (l:List α) (f:α->β):(range l.length).map (fun k=>f (ah l k))=l.map f:=by
 refine List.ext_getElem? fun i=> ?_
 rw [List.getElem?_map,List.getElem?_map]
 by_cases hi:i<l.length
 ·rw [List.getElem?_range hi,eZ hi];rfl
 ·rw [List.getElem?_eq_none (by simp;omega),List.getElem?_eq_none (by omega)];rfl
theorem yK {G:List (List Int)} {N b c j:Nat} {R' :List Int} (h:G.length=N/\ ∀l∈G,l.length<=b) (hbc:b<=c) (hR:R'.length<=c):(G.set j R').length=N/\ ∀l∈G.set j R',l.length<=c:=⟨by rw [List.length_set];exact h.1,fun l hl=>by
 rcases List.mem_or_eq_of_mem_set hl with h2|rfl
 ·exact Nat.le_trans (h.2 l h2) hbc
 ·exact hR⟩
theorem yL (N:Nat): ∀l∈replicate N ([]:List Int),l.length<=0*1000000+0:=fun l hl=>by rw [(List.mem_replicate.1 hl).2];exact Nat.zero_le _
noncomputable def tgT (emp:List Bool) (e:Edge):List Int:=bif okT emp e then [e.to] else []
theorem Wq (emp:List Bool) (e:Edge) (l:List Int):(l++tgT emp e).length<=l.length+1:=by
 unfold tgT
 cases okT emp e<;>simp
theorem Tr (emp:List Bool) (l:List Edge) (h: ∀e∈l,0<=e.to):(l.flatMap (tgT emp)).map aL=((l.filter (okT emp)).map fun e=>e.to.toNat).map di:=by
 induction l with
 |nil=>rfl
 |cons e l ih=>
  rw [List.flatMap_cons,List.map_append,ih fun x hx=>h x (List.mem_cons_of_mem _ hx)]
  have h0:=h e List.mem_cons_self
  unfold tgT
  cases ho:okT emp e with
  |true=>
   rw [List.filter_cons_of_pos ho]
   simp only [cond_true,List.map_cons,List.map_nil,List.cons_append,List.nil_append]
   rw [show aL e.to=di e.to.toNat by simp only [aL,di];rw [show ((e.to.toNat:Nat):Int)=e.to by omega]]
  |false=>rw [List.filter_cons_of_neg (by simp [ho])];rfl
theorem ZH {n:Net} (hn:vr n) (emp:List Bool):((range n.aa.length).map fun i=>(range (ah n.aa i).aj.length).flatMap fun k=>tgT emp (ah (ah n.aa i).aj k)).map (fun l=>[AV.sl 1 (l.map aL)])=(gA (okT emp) n).map bY:=by
 have h1:(fun i=>(range (ah n.aa i).aj.length).flatMap fun k=>tgT emp (ah (ah n.aa i).aj k))=fun i=>(fun s:State=>s.aj.flatMap (tgT emp)) (ah n.aa i):=funext fun i=>kP (ah n.aa i).aj (tgT emp)
 rw [h1,Fk n.aa (fun s:State=>s.aj.flatMap (tgT emp)),gA,List.map_map,List.map_map]
 refine List.map_congr_left fun s hs=> ?_
 simp only [Function.comp,bY]
 rw [Tr emp s.aj fun e he=>(hn s hs e he).1]
theorem ZI {ok:Edge->Bool} {n:Net} (hf:bg n): ∀R∈gA ok n,R.length<=9223372036854775807:=fun R hR=>by
 unfold gA at hR
 obtain ⟨s,hs,rfl⟩:=List.mem_map.1 hR
 rw [List.length_map]
 exact Nat.le_trans (List.length_filter_le _ _) (Nat.le_trans (hf.aj s hs) (by omega))
noncomputable def lG (n:Net) (emp:List Bool) (x:Int):List Bool:=jT (gA (okT emp) n) x.toNat
theorem Pd (n:Net) (emp:List Bool) (x:Int):(lG n emp x).length=n.aa.length:=by simp [lG,jT,rh]
theorem Wr {n:Net} (hn:bw n) (hf:bg n) (emp:List Bool) (x:Int) (hx:0<=x/\x<(n.aa.length:Int)):ba pg 59 [.sl 1 ((gA (okT emp) n).map bY),I x] [] [] (.sl 1 ((lG n emp x).map aq)) []:=by
 have h:=Sz (gA (okT emp) n) x.toNat (by rw [rh];omega) (gA_wf hn.to) (by rw [rh];exact hf.aa) (ZI hf)
 rw [show ((x.toNat:Nat):Int)=x by omega] at h
 exact h
def i59 (n:Net) (emp:List Bool) (x:Int):b9:=⟨59,[.sl 1 ((gA (okT emp) n).map bY),I x],.sl 1 ((lG n emp x).map aq),bw n/\bg n/\0<=x/\x<(n.aa.length:Int)⟩
theorem g59 (n:Net) (emp:List Bool) (x:Int):(i59 n emp x).cd pg:=fun hp=>⟨Wr hp.1 hp.2.1 emp x hp.2.2,by simp [i59,ae,AV.pure],by simp [i59,AV.pure]⟩
def CF:Code:=bV 0 (aH 24)
def fS:Code:=bV 2 CF
def JB:Code:=bV 4 fS
theorem Ts:fS= .seq (sq1 fS) (.seq (sq1 (sq2 fS)) (.seq (.block 3 (.seq (sq1 (ng (sq1 (sq2 (sq2 fS))))) (.seq (sq1 (sq2 (ng (sq1 (sq2 (sq2 fS)))))) (.block 4 (.loop JB))))) (sq2 (sq2 (sq2 fS))))):=by kernel_rfl
abbrev zR (i2:Nat) (n:Net):Am.Loc:=[(0,.pf (aR n)),(3,.sr 0 1 0 (zB n)),(4,B false),(5,.sr 1 1 0 (zY n)),(28,.sl 2 (zA n)),(29,I (length (zA n):Int)),(30,I (i2:Int))]
abbrev zW (i2:Nat) (n:Net):Am.Loc:=[(0,.pf (aR n)),(3,.sr 0 1 0 (zB n)),(4,B false),(5,.sr 1 1 0 (zY n)),(28,.sl 2 (zA n)),(29,I (length (zA n):Int)),(30,I (i2:Int)),(31,B (decide ((i2:Int)<(length (zA n):Int))))]
abbrev zBF:GT:=(.r [.k,bT] (.pick 0))
theorem Tt (n:Net) (w0:Bool×(List Bool)) (i2:Nat) (_:bw n) (_:bg n) (_:length w0.2=length n.rules) (_:i2<length n.aa) (v:Nat->Value):vcC pg 100 base aO 3000 (kbL []) (sq1 fS) (bu (bt [3,5] v (zR i2 n))) (bA []) 0 (bQ [⟨True,.normal,bt [3,5] v (zW i2 n),[],[]⟩]) zBF:=
 aZ (an (a1 a0)
 (lf (wy [⟨True,.normal,bt [3,5] v [(0,.pf (aR n)),(3,.sr 0 1 0 (length (map aD n.rules))),(4,B false),(5,.sr 1 1 0 (length (map ak n.aa))),(28,.sl 2 (map ak n.aa)),(29,I (length (map ak n.aa):Int)),(30,I (i2:Int)),(31,B (decide ((i2:Int)<(length (map ak n.aa):Int))))],[],[]⟩] 0) 0 trivial))
 (by kernel_rfl)
theorem ZJ (n:Net) (w0:Bool×(List Bool)) (i2:Nat) (hn:bw n) (hf:bg n) (hw0:length w0.2=length n.rules) (hx2:i2<length n.aa) (ob:List Ob):Piece pg 100 0 (sq1 fS) (zR i2 n) ob .normal (zW i2 n) ob:=
 b7 [3,5] (by kernel_rfl) rfl (by repeat' first|exact bq|refine mqc ?_ ?_|exact .inl rfl|exact .inr (by simp [AV.pure])) (by repeat' first|exact bq|refine mqc ?_ ?_|exact .inl ⟨rfl,rfl⟩|exact .inr ⟨rfl,by simp [AV.pure]⟩) fun v=>cQ (aS aw mixed (az _)) (Tt n w0 i2 hn hf hw0 hx2 v) (aQ rfl rfl rfl (by simp [bt,plS,AV.pure]) rfl)
abbrev zp (i2:Nat) (n:Net):Am.Loc:=[(0,.pf (aR n)),(3,.sr 0 1 0 (zB n)),(4,B false),(5,.sr 1 1 0 (zY n)),(28,.sl 2 (zA n)),(29,I (length (zA n):Int)),(30,I (i2:Int)),(31,B true)]
theorem Tu (n:Net) (w0:Bool×(List Bool)) (i2:Nat) (_:bw n) (hf:bg n) (_:length w0.2=length n.rules) (hx2:i2<length n.aa) (v:Nat->Value):vcC pg 100 base aO 3000 (kbL []) (sq1 (sq2 fS)) (bu (bt [3,5] v (zW i2 n))) (bA []) 0 (bQ [⟨True,.normal,bt [3,5] v (zp i2 n),[],[]⟩]) (.yes (.pick 0)):=
 have hr:=hf.rules;have hs:=hf.aa;have hed:=hf.aj _ (ay hx2);have l1:=aW ak (n.aa);have hb:(decide ((i2:Int)<(length (map ak n.aa):Int)))=true:=decide_eq_true (by omega);aZ (an hb (lf (wy [⟨True,.normal,bt [3,5] v [(0,.pf (aR n)),(3,.sr 0 1 0 (length (map aD n.rules))),(4,B false),(5,.sr 1 1 0 (length (map ak n.aa))),(28,.sl 2 (map ak n.aa)),(29,I (length (map ak n.aa):Int)),(30,I (i2:Int)),(31,B true)],[],[]⟩] 0) 0 trivial))
 (by kernel_rfl)
theorem ZK (n:Net) (w0:Bool×(List Bool)) (i2:Nat) (hn:bw n) (hf:bg n) (hw0:length w0.2=length n.rules) (hx2:i2<length n.aa) (ob:List Ob):Piece pg 100 0 (sq1 (sq2 fS)) (zW i2 n) ob .normal (zp i2 n) ob:=
 b7 [3,5] (by kernel_rfl) rfl (by repeat' first|exact bq|refine mqc ?_ ?_|exact .inl rfl|exact .inr (by simp [AV.pure])) (by repeat' first|exact bq|refine mqc ?_ ?_|exact .inl ⟨rfl,rfl⟩|exact .inr ⟨rfl,by simp [AV.pure]⟩) fun v=>cQ (aS aw mixed (az _)) (Tu n w0 i2 hn hf hw0 hx2 v) (aQ rfl rfl rfl (by simp [bt,plS,AV.pure]) rfl)
abbrev zBc:=(ng (sq1 (sq2 (sq2 fS))))
abbrev zBn (i2:Nat) (n:Net):=(ak (ah n.aa i2))
theorem Tv (n:Net) (w0:Bool×(List Bool)) (i2:Nat) (_:bw n) (hf:bg n) (_:length w0.2=length n.rules) (hx2:i2<length n.aa) (v:Nat->Value):vcC pg 100 base aO 3000 (kbL []) (sq1 zBc) (bu (bt [3,5] v (zp i2 n))) (bA []) 0 (bQ [⟨True,.normal,bt [3,5] v [(0,.pf (aR n)),(3,.sr 0 1 0 (zB n)),(4,B false),(5,.sr 1 1 0 (zY n)),(6,I (i2:Int)),(7,.pt 0 0),(28,.sl 2 (zA n)),(29,I (length (zA n):Int)),(30,I (i2:Int)),(31,B true),(32,I (i2:Int)),(33,.pf (zBn i2 n)),(34,.ag (zBn i2 n))],[0],[.box 40 (zBn i2 n)]⟩]) (.r [.row (zBn i2 n),bT] (.pick 0)):=
 have hr:=hf.rules;have hs:=hf.aa;have hed:=hf.aj _ (ay hx2);aZ (an (ac (bR ak (l:=n.aa) (i:=i2) (by omega)) a0)
 (lf (wy [⟨True,.normal,bt [3,5] v [(0,.pf (aR n)),(3,.sr 0 1 0 (length (map aD n.rules))),(4,B false),(5,.sr 1 1 0 (length (map ak n.aa))),(6,I (i2:Int)),(7,.pt 0 0),(28,.sl 2 (map ak n.aa)),(29,I (length (map ak n.aa):Int)),(30,I (i2:Int)),(31,B true),(32,I (i2:Int)),(33,.pf (ak (ah n.aa i2))),(34,.ag (ak (ah n.aa i2)))],[0],[.box 40 (ak (ah n.aa i2))]⟩] 0) 1 trivial))
 (by kernel_rfl)
abbrev zX (i2:Nat) (n:Net):Am.Loc:=[(0,.pf (aR n)),(3,.sr 0 1 0 (zB n)),(4,B false),(5,.sr 1 1 0 (zY n)),(6,I (i2:Int)),(7,.pf (zBn i2 n)),(28,.sl 2 (zA n)),(29,I (length (zA n):Int)),(30,I (i2:Int)),(31,B true),(32,I (i2:Int)),(33,.pf (zBn i2 n)),(34,.ag (zBn i2 n))]
theorem ZL (n:Net) (w0:Bool×(List Bool)) (i2:Nat) (hn:bw n) (hf:bg n) (hw0:length w0.2=length n.rules) (hx2:i2<length n.aa) (ob:List Ob):Piece pg 100 0 (sq1 zBc) (zp i2 n) ob .normal (zX i2 n) ob:=
 b7 [3,5] (by kernel_rfl) rfl (by repeat' first|exact bq|refine mqc ?_ ?_|exact .inl rfl|exact .inr (by simp [AV.pure])) (by repeat' first|exact bq|refine mqc ?_ ?_|exact .inl ⟨rfl,rfl⟩|exact .inr ⟨rfl,by simp [AV.pure]⟩) fun v=>fP (fe.refl _ _) (cQ (aS aw mixed (az _)) (Tv n w0 i2 hn hf hw0 hx2 v) (aQ rfl rfl rfl (by simp [bt,plS,AV.pure]) (by simp [plO]))) (vL (ob:=[]) (Tb:=40) (cells:=(ak (ah n.aa i2))) (Nat.zero_le _) (L' :=bt [3,5] v [(0,.pf (aR n)),(3,.sr 0 1 0 (length (map aD n.rules))),(4,B false),(5,.sr 1 1 0 (length (map ak n.aa))),(6,I (i2:Int)),(7,.pf (ak (ah n.aa i2))),(28,.sl 2 (map ak n.aa)),(29,I (length (map ak n.aa):Int)),(30,I (i2:Int)),(31,B true),(32,I (i2:Int)),(33,.pf (ak (ah n.aa i2))),(34,.ag (ak (ah n.aa i2)))]) (by repeat' first|exact bq|refine mqc ?_ ?_|exact .inl ⟨rfl,rfl⟩|exact .inl ⟨rfl,aI _ _ (by simp [AV.pure])⟩|exact .inr ⟨rfl,rfl,aI _ _ (by simp [AV.pure])⟩) rfl) rfl
abbrev zL (i2:Nat) (n:Net):=(map bc (ah n.aa i2).aj)
abbrev zAS (i2:Nat) (n:Net):Am.Loc:=[(0,.pf (aR n)),(3,.sr 0 1 0 (zB n)),(4,B false),(5,.sr 1 1 0 (zY n)),(6,I (i2:Int)),(28,.sl 2 (zA n)),(29,I (length (zA n):Int)),(30,I (i2:Int)),(36,.sl 10 (zL i2 n)),(37,I (length (zL i2 n):Int)),(38,I 0)]
theorem Tw (n:Net) (w0:Bool×(List Bool)) (i2:Nat) (_:bw n) (_:bg n) (_:length w0.2=length n.rules) (_:i2<length n.aa) (v:Nat->Value):vcC pg 100 base aO 3000 (kbL []) (sq1 (sq2 zBc)) (bu (bt [3,5] v (zX i2 n))) (bA []) 0 (bQ [⟨True,.normal,bt [3,5] v (zAS i2 n),[],[]⟩]) zv:=
 aZ (an a0
 (lf (wy [⟨True,.normal,bt [3,5] v [(0,.pf (aR n)),(3,.sr 0 1 0 (length (map aD n.rules))),(4,B false),(5,.sr 1 1 0 (length (map ak n.aa))),(6,I (i2:Int)),(28,.sl 2 (map ak n.aa)),(29,I (length (map ak n.aa):Int)),(30,I (i2:Int)),(36,.sl 10 (map bc (ah n.aa i2).aj)),(37,I (length (map bc (ah n.aa i2).aj):Int)),(38,I 0)],[],[]⟩] 0) 0 trivial))
 (by kernel_rfl)
theorem ZM (n:Net) (w0:Bool×(List Bool)) (i2:Nat) (hn:bw n) (hf:bg n) (hw0:length w0.2=length n.rules) (hx2:i2<length n.aa) (ob:List Ob):Piece pg 100 0 (sq1 (sq2 zBc)) (zX i2 n) ob .normal (zAS i2 n) ob:=
 b7 [3,5] (by kernel_rfl) rfl (by repeat' first|exact bq|refine mqc ?_ ?_|exact .inl rfl|exact .inr (by simp [AV.pure])) (by repeat' first|exact bq|refine mqc ?_ ?_|exact .inl ⟨rfl,rfl⟩|exact .inr ⟨rfl,by simp [AV.pure]⟩) fun v=>cQ (aS aw mixed (az _)) (Tw n w0 i2 hn hf hw0 hx2 v) (aQ rfl rfl rfl (by simp [bt,plS,AV.pure]) rfl)
abbrev zAG (i2:Nat) (n:Net):Am.Loc:=[(0,.pf (aR n)),(3,.sr 0 1 0 (zB n)),(4,B false),(5,.sr 1 1 0 (zY n)),(6,I (i2:Int)),(28,.sl 2 (zA n)),(29,I (length (zA n):Int)),(30,I (i2:Int)),(36,.sl 10 (zL i2 n)),(37,I (length (zL i2 n):Int)),(38,I (((length (ah n.aa i2).aj):Nat):Int))]
theorem Tx (n:Net) (w0:Bool×(List Bool)) (i2:Nat) (_:bw n) (hf:bg n) (_:length w0.2=length n.rules) (hx2:i2<length n.aa) (v:Nat->Value):vcC pg 100 base aO 3000 (kbL []) JB (bu (bt [3,5] v (zAG i2 n))) (bA []) 0 (bQ [⟨True,(.exit 4),bt [3,5] v (zR i2 n),[],[]⟩]) zE:=
 have hr:=hf.rules;have hs:=hf.aa;have hed:=hf.aj _ (ay hx2);have l1:=aW bc ((ah n.aa i2).aj);have hb:(decide ((((length (ah n.aa i2).aj):Nat):Int)<(length (map bc (ah n.aa i2).aj):Int)))=false:=decide_eq_false (by omega);aZ (an (a1 a0)
 (an hb (lf (wy [⟨True,(.exit 4),bt [3,5] v [(0,.pf (aR n)),(3,.sr 0 1 0 (length (map aD n.rules))),(4,B false),(5,.sr 1 1 0 (length (map ak n.aa))),(28,.sl 2 (map ak n.aa)),(29,I (length (map ak n.aa):Int)),(30,I (i2:Int))],[],[]⟩] 0) 0 trivial)))
 (by kernel_rfl)
theorem ZN (n:Net) (w0:Bool×(List Bool)) (i2:Nat) (hn:bw n) (hf:bg n) (hw0:length w0.2=length n.rules) (hx2:i2<length n.aa) (ob:List Ob):Piece pg 100 0 JB (zAG i2 n) ob (.exit 4) (zR i2 n) ob:=
 b7 [3,5] (by kernel_rfl) rfl (by repeat' first|exact bq|refine mqc ?_ ?_|exact .inl rfl|exact .inr (by simp [AV.pure])) (by repeat' first|exact bq|refine mqc ?_ ?_|exact .inl ⟨rfl,rfl⟩|exact .inr ⟨rfl,by simp [AV.pure]⟩) fun v=>cQ (aS aw mixed (az _)) (Tx n w0 i2 hn hf hw0 hx2 v) (aQ rfl rfl rfl (by simp [bt,plS,AV.pure]) rfl)
abbrev zAm (i2:Nat):List Gi:=[.int ↑(i2+1),bT]
abbrev zAx (i2:Nat) (n:Net):Am.Loc:=[(0,.pf (aR n)),(3,.sr 0 1 0 (zB n)),(4,B false),(5,.sr 1 1 0 (zY n)),(28,.sl 2 (zA n)),(29,I (length (zA n):Int)),(30,I ↑(i2+1))]
theorem Ty (n:Net) (w0:Bool×(List Bool)) (i2:Nat) (_:bw n) (hf:bg n) (_:length w0.2=length n.rules) (hx2:i2<length n.aa) (v:Nat->Value):vcC pg 100 base aO 3000 (kbL []) (sq2 (sq2 (sq2 fS))) (bu (bt [3,5] v (zR i2 n))) (bA []) 0 (bQ [⟨True,.normal,bt [3,5] v (zAx i2 n),[],[]⟩]) (.r (zAm i2) (.pick 0)):=
 have hr:=hf.rules;have hs:=hf.aa;have hed:=hf.aj _ (ay hx2);aZ (an (ac (dwr (z:= ↑(i2+1)) (by omega) (by omega)) a0)
 (lf (wy [⟨True,.normal,bt [3,5] v [(0,.pf (aR n)),(3,.sr 0 1 0 (length (map aD n.rules))),(4,B false),(5,.sr 1 1 0 (length (map ak n.aa))),(28,.sl 2 (map ak n.aa)),(29,I (length (map ak n.aa):Int)),(30,I ↑(i2+1))],[],[]⟩] 0) 0 trivial))
 (by kernel_rfl)
theorem ZO (n:Net) (w0:Bool×(List Bool)) (i2:Nat) (hn:bw n) (hf:bg n) (hw0:length w0.2=length n.rules) (hx2:i2<length n.aa) (ob:List Ob):Piece pg 100 0 (sq2 (sq2 (sq2 fS))) (zR i2 n) ob .normal (zAx i2 n) ob:=
 b7 [3,5] (by kernel_rfl) rfl (by repeat' first|exact bq|refine mqc ?_ ?_|exact .inl rfl|exact .inr (by simp [AV.pure])) (by repeat' first|exact bq|refine mqc ?_ ?_|exact .inl ⟨rfl,rfl⟩|exact .inr ⟨rfl,by simp [AV.pure]⟩) fun v=>cQ (aS aw mixed (az _)) (Ty n w0 i2 hn hf hw0 hx2 v) (aQ rfl rfl rfl (by simp [bt,plS,AV.pure]) rfl)
abbrev zBS (n:Net):=(decide ((((zG n):Nat):Int)<(length (zA n):Int)))
abbrev zS (n:Net):Am.Loc:=[(0,.pf (aR n)),(3,.sr 0 1 0 (zB n)),(4,B false),(5,.sr 1 1 0 (zY n)),(28,.sl 2 (zA n)),(29,I (length (zA n):Int)),(30,I (((zG n):Nat):Int)),(31,B (zBS n))]
abbrev zAo (n:Net):Am.Loc:=[(0,.pf (aR n)),(3,.sr 0 1 0 (zB n)),(4,B false),(5,.sr 1 1 0 (zY n)),(28,.sl 2 (zA n)),(29,I (length (zA n):Int)),(30,I (((zG n):Nat):Int))]
theorem Tz (n:Net) (w0:Bool×(List Bool)) (_:bw n) (_:bg n) (_:length w0.2=length n.rules) (v:Nat->Value):vcC pg 100 base aO 3000 (kbL []) (sq1 fS) (bu (bt [3,5] v (zAo n))) (bA []) 0 (bQ [⟨True,.normal,bt [3,5] v (zS n),[],[]⟩]) zBF:=
 aZ (an (a1 a0)
 (lf (wy [⟨True,.normal,bt [3,5] v [(0,.pf (aR n)),(3,.sr 0 1 0 (length (map aD n.rules))),(4,B false),(5,.sr 1 1 0 (length (map ak n.aa))),(28,.sl 2 (map ak n.aa)),(29,I (length (map ak n.aa):Int)),(30,I (((length n.aa):Nat):Int)),(31,B (zO n))],[],[]⟩] 0) 0 trivial))
 (by kernel_rfl)
theorem ZP (n:Net) (w0:Bool×(List Bool)) (hn:bw n) (hf:bg n) (hw0:length w0.2=length n.rules) (ob:List Ob):Piece pg 100 0 (sq1 fS) (zAo n) ob .normal (zS n) ob:=
 b7 [3,5] (by kernel_rfl) rfl (by repeat' first|exact bq|refine mqc ?_ ?_|exact .inl rfl|exact .inr (by simp [AV.pure])) (by repeat' first|exact bq|refine mqc ?_ ?_|exact .inl ⟨rfl,rfl⟩|exact .inr ⟨rfl,by simp [AV.pure]⟩) fun v=>cQ (aS aw mixed (az _)) (Tz n w0 hn hf hw0 v) (aQ rfl rfl rfl (by simp [bt,plS,AV.pure]) rfl)
abbrev zBy (n:Net):Am.Loc:=[(0,.pf (aR n)),(3,.sr 0 1 0 (zB n)),(4,B false),(5,.sr 1 1 0 (zY n))]
theorem TA (n:Net) (w0:Bool×(List Bool)) (_:bw n) (hf:bg n) (_:length w0.2=length n.rules) (v:Nat->Value):vcC pg 100 base aO 3000 (kbL []) (sq1 (sq2 fS)) (bu (bt [3,5] v (zS n))) (bA []) 0 (bQ [⟨True,(.exit 2),bt [3,5] v (zBy n),[],[]⟩]) (.no (.pick 0)):=
 have hr:=hf.rules;have hs:=hf.aa;have l1:=aW ak (n.aa);have hb:(zO n)=false:=decide_eq_false (by omega);aZ (an hb (lf (wy [⟨True,(.exit 2),bt [3,5] v [(0,.pf (aR n)),(3,.sr 0 1 0 (length (map aD n.rules))),(4,B false),(5,.sr 1 1 0 (length (map ak n.aa)))],[],[]⟩] 0) 0 trivial))
 (by kernel_rfl)
theorem ZQ (n:Net) (w0:Bool×(List Bool)) (hn:bw n) (hf:bg n) (hw0:length w0.2=length n.rules) (ob:List Ob):Piece pg 100 0 (sq1 (sq2 fS)) (zS n) ob (.exit 2) (zBy n) ob:=
 b7 [3,5] (by kernel_rfl) rfl (by repeat' first|exact bq|refine mqc ?_ ?_|exact .inl rfl|exact .inr (by simp [AV.pure])) (by repeat' first|exact bq|refine mqc ?_ ?_|exact .inl ⟨rfl,rfl⟩|exact .inr ⟨rfl,by simp [AV.pure]⟩) fun v=>cQ (aS aw mixed (az _)) (TA n w0 hn hf hw0 v) (aQ rfl rfl rfl (by simp [bt,plS,AV.pure]) rfl)
def eU (n:Net) (w0:Bool×(List Bool)) (i2 i4:Nat) (l:List Int):List Int:=(bif (ah (ah n.aa i2).aj i4).op !=1 then (bif (ah (ah n.aa i2).aj i4).op !=2 then l++ [(ah (ah n.aa i2).aj i4).to] else (bif (ah w0.2 (((ah (ah n.aa i2).aj i4).n).toNat)) then l++ [(ah (ah n.aa i2).aj i4).to] else l)) else l)
abbrev zN (i2 i4:Nat) (n:Net):Am.Loc:=[(0,.pf (aR n)),(3,.sr 0 1 0 (zB n)),(4,B false),(5,.sr 1 1 0 (zY n)),(6,I (i2:Int)),(28,.sl 2 (zA n)),(29,I (length (zA n):Int)),(30,I (i2:Int)),(36,.sl 10 (zL i2 n)),(37,I (length (zL i2 n):Int)),(38,I ↑(i4+1))]
abbrev zAM (i2 i4:Nat) (n:Net):=(ah (ah n.aa i2).aj i4)
def tL (n:Net) (w0:Bool×(List Bool)) (i2 i4:Nat) (xs:List Value) (l:List Int):gP:=⟨(eU n w0 i2 i4 l)=(l++ [(zAM i2 i4 n).to]),.normal,(zN i2 i4 n),[0,1,4],5,[.row 4 1 (zAh w0),.row 36 1 (aJ (List.set (vs xs) i2 (.sr 2 1 0 (length (l++ [(zAM i2 i4 n).to]))))),.row 3 1 (map aL (l++ [(zAM i2 i4 n).to]))],[.row 4 1 (zAh w0),.row 36 1 (aJ (List.set (vs xs) i2 (.sr 4 1 0 (length (l++ [(zAM i2 i4 n).to]))))),.row 3 1 (map aL (l++ [(zAM i2 i4 n).to]))]⟩
def tM (n:Net) (w0:Bool×(List Bool)) (i2 i4:Nat) (xs:List Value) (l:List Int):gP:=⟨(eU n w0 i2 i4 l)=(l++ [(zAM i2 i4 n).to]),.normal,(zN i2 i4 n),[0,1,4],5,[.row 4 1 (zAh w0),.row 36 1 (aJ (List.set (vs xs) i2 (.sr 2 1 0 (length (l++ [(zAM i2 i4 n).to]))))),.row 3 1 (map aL (l++ [(zAM i2 i4 n).to]))],[.row 4 1 (zAh w0),.row 36 1 (aJ (List.set (vs xs) i2 (.sr 4 1 0 (length (l++ [(zAM i2 i4 n).to]))))),.row 3 1 (map aL (l++ [(zAM i2 i4 n).to]))]⟩
abbrev zBl (l:List Int):=(length l)
abbrev zCR (l:List Int):=(map aL l)
def tN (n:Net) (w0:Bool×(List Bool)) (i2 i4:Nat) (xs:List Value) (l:List Int):gP:=⟨(eU n w0 i2 i4 l)=l,.normal,(zN i2 i4 n),[0,1,2],4,[.row 4 1 (zAh w0),.row 36 1 (aJ (List.set (vs xs) i2 (.sr 2 1 0 (zBl l)))),.row 3 1 (zCR l)],[.row 4 1 (zAh w0),.row 36 1 (aJ (List.set (vs xs) i2 (.sr 2 1 0 (zBl l)))),.row 3 1 (zCR l)]⟩
def tO (n:Net) (w0:Bool×(List Bool)) (i2 i4:Nat) (xs:List Value) (l:List Int):gP:=⟨(eU n w0 i2 i4 l)=l,.normal,(zN i2 i4 n),[0,1,2],4,[.row 4 1 (zAh w0),.row 36 1 (aJ (List.set (vs xs) i2 (.sr 2 1 0 (zBl l)))),.row 3 1 (zCR l)],[.row 4 1 (zAh w0),.row 36 1 (aJ (List.set (vs xs) i2 (.sr 2 1 0 (zBl l)))),.row 3 1 (zCR l)]⟩
abbrev zAT (i2 i4:Nat) (n:Net):Am.Loc:=[(0,.pf (aR n)),(3,.sr 0 1 0 (zB n)),(4,B false),(5,.sr 1 1 0 (zY n)),(6,I (i2:Int)),(28,.sl 2 (zA n)),(29,I (length (zA n):Int)),(30,I (i2:Int)),(36,.sl 10 (zL i2 n)),(37,I (length (zL i2 n):Int)),(38,I (i4:Int))]
abbrev zBz (i4:Nat):List Gi:=[.int ↑(i4+1),bT]
theorem ZR (n:Net) (w0:Bool×(List Bool)) (i2 i4:Nat) (xs:List Value) (l:List Int) (hn:bw n) (hf:bg n) (hw0:length w0.2=length n.rules) (hx2:i2<length n.aa) (hx4:i4<length (ah n.aa i2).aj) (hl1:length xs=(length n.aa)) (hr1:length l<=i2*1000000+i4):vcC pg 100 base aO 3000 (kbL []) JB (bu (zAT i2 i4 n)) (bA [.row 4 1 (zAh w0),.row 36 1 (aJ (List.set (vs xs) i2 (.sr 2 1 0 (zBl l)))),.row 3 1 (zCR l)]) 3 (Tq [(tL n w0 i2 i4 xs l),(tM n w0 i2 i4 xs l),(tN n w0 i2 i4 xs l),(tO n w0 i2 i4 xs l)]) (.r [.k,bT] (.yes (.r [.row (bc (zAM i2 i4 n)),bT] (.a (.a (.r (.k::bT::bT::bT::.k::bT::uFF 5 [bT,bT]) (.r [.at i2 0 [.sr 2 1 0 (zBl l)],.at i2 0 [.sr 2 1 0 (zBl l)],bT] (.r (zBz i4) (.pick 0)))) (.r (.k::bT::bT::bT::.k::uTT 5 [.cC (((zAM i2 i4 n).n).toNat) [],bT,.at (((zAM i2 i4 n).n).toNat) 0 (aq (ah w0.2 (((zAM i2 i4 n).n).toNat))),bT,bT]) (.br (.r [.at i2 0 [.sr 2 1 0 (zBl l)],.at i2 0 [.sr 2 1 0 (zBl l)],bT] (.r (zBz i4) (.pick 1))) (.r (zBz i4) (.pick 2))))) (.r zAq (.r (zBz i4) (.pick 3))))))):=
 have hr:=hf.rules;have hs:=hf.aa;have lms:=aW ak n.aa;have hed:=hf.aj _ (ay hx2);have hca:=hn.call _ (ay hx2) _ (ay hx4);have hlr:length w0.2=length n.rules:=hw0;have l1:=aW bc ((ah n.aa i2).aj);have hb:(decide ((i4:Int)<(length (map bc (ah n.aa i2).aj):Int)))=true:=decide_eq_true (by omega);
 aZ (an (a1 a0)
 (an hb (an (ac (bR bc (l:=(ah n.aa i2).aj) (i:=i4) (by omega)) a0)
 (aP (fun (h1:((ah (ah n.aa i2).aj i4).op !=1)=true)=>have g1:=KS h1;
 (aP (fun (h2:((ah (ah n.aa i2).aj i4).op !=2)=true)=>have g2:=KS h2;
 (an (aN 5 (ac (n2 h2) (aN 4 (ac h1 (a1 a0)))))
 (an (ac (stN (rfl:(aJ (List.set (vs xs) i2 (.sr 2 1 0 (length l))))=(aJ (List.set (vs xs) i2 (.sr 2 1 0 (length l))))) (by omega)) (ac (ixL (z:=i2) (n:=length (map ak n.aa)) (by omega)) (ac (apL (k:=length l) (B:=8) (rfl:map aL l=map aL l) (by first|omega|(simp only [List.length_map,List.length_set,List.length_append,List.length_take,List.length_cons,List.length_nil];omega)) (by omega) (by omega)) (ac (atN (rfl:(aJ (List.set (vs xs) i2 (.sr 2 1 0 (length l))))=(aJ (List.set (vs xs) i2 (.sr 2 1 0 (length l))))) (by omega)) (ac (ixL (z:=i2) (n:=length (map ak n.aa)) (by omega)) a0)))))
 (an (ac (dwr (z:= ↑(i4+1)) (by omega) (by omega)) a0)
 (lfN (tL n w0 i2 i4 xs l) (show (eU n w0 i2 i4 l)=(l++ [(ah (ah n.aa i2).aj i4).to]) from (cdT h1 (cdT h2 rfl))) (bp (rfl:(.row 4 1 (map aq w0.2):Ob)= .row 4 1 (map aq w0.2)) (bp ((congrArg (fun z=>Ob.row 36 1 z) (pD (rfl:(aJ (List.set (vs xs) i2 (.sr 2 1 0 (length l))))=(aJ (List.set (vs xs) i2 (.sr 2 1 0 (length l))))) (.sr 4 1 0 (length l+1)))).trans (congrArg (fun z=>Ob.row 36 1 (aJ (List.set (vs xs) i2 (.sr 4 1 0 z)))) (by simp))) (bp (congrArg (fun z=>Ob.row 3 1 z) (apF (f:=aL) (rfl:map aL l=map aL l) (k:=length l) (by first|rfl|(simp only [List.length_map,List.length_set,List.length_append] at*;omega)) (ah (ah n.aa i2).aj i4).to)) eR)))))))) (fun h2=>have g2:=fO h2;
 (have l2:=aW aD (n.rules);an (a1 (ac (atL (S:=1) (f:=0) (z:=((ah (ah n.aa i2).aj i4).n).toNat) (rfl:map aq w0.2=map aq w0.2) (by decide) (by omega)) (a1 (ac (ixI (x:=(ah (ah n.aa i2).aj i4).n) (n:=length (map aD n.rules)) (by omega) (by omega)) (aN 3 (ac (au h2) (aN 4 (ac h1 (a1 a0)))))))))
 (brP (fun (h3:((ah w0.2 (((ah (ah n.aa i2).aj i4).n).toNat)))=true)=>
 (an (ac (stN (rfl:(aJ (List.set (vs xs) i2 (.sr 2 1 0 (length l))))=(aJ (List.set (vs xs) i2 (.sr 2 1 0 (length l))))) (by omega)) (ac (ixL (z:=i2) (n:=length (map ak n.aa)) (by omega)) (ac (apL (k:=length l) (B:=8) (rfl:map aL l=map aL l) (by first|omega|(simp only [List.length_map,List.length_set,List.length_append,List.length_take,List.length_cons,List.length_nil];omega)) (by omega) (by omega)) (ac (atN (rfl:(aJ (List.set (vs xs) i2 (.sr 2 1 0 (length l))))=(aJ (List.set (vs xs) i2 (.sr 2 1 0 (length l))))) (by omega)) (ac (ixL (z:=i2) (n:=length (map ak n.aa)) (by omega)) a0)))))
 (an (ac (dwr (z:= ↑(i4+1)) (by omega) (by omega)) a0)
 (lfN (tM n w0 i2 i4 xs l) (show (eU n w0 i2 i4 l)=(l++ [(ah (ah n.aa i2).aj i4).to]) from (cdT h1 (cdF h2 (cdT h3 rfl)))) (bp (rfl:(.row 4 1 (map aq w0.2):Ob)= .row 4 1 (map aq w0.2)) (bp ((congrArg (fun z=>Ob.row 36 1 z) (pD (rfl:(aJ (List.set (vs xs) i2 (.sr 2 1 0 (length l))))=(aJ (List.set (vs xs) i2 (.sr 2 1 0 (length l))))) (.sr 4 1 0 (length l+1)))).trans (congrArg (fun z=>Ob.row 36 1 (aJ (List.set (vs xs) i2 (.sr 4 1 0 z)))) (by simp))) (bp (congrArg (fun z=>Ob.row 3 1 z) (apF (f:=aL) (rfl:map aL l=map aL l) (k:=length l) (by first|rfl|(simp only [List.length_map,List.length_set,List.length_append] at*;omega)) (ah (ah n.aa i2).aj i4).to)) eR))))))) (fun h3=>
 (an (ac (dwr (z:= ↑(i4+1)) (by omega) (by omega)) a0)
 (lfN (tN n w0 i2 i4 xs l) (show (eU n w0 i2 i4 l)=l from (cdT h1 (cdF h2 (cdF h3 rfl)))) (bp (rfl:(.row 4 1 (map aq w0.2):Ob)= .row 4 1 (map aq w0.2)) (bp (rfl:(.row 36 1 (aJ (List.set (vs xs) i2 (.sr 2 1 0 (length l)))):Ob)= .row 36 1 (aJ (List.set (vs xs) i2 (.sr 2 1 0 (length l))))) (bp (rfl:(.row 3 1 (map aL l):Ob)= .row 3 1 (map aL l)) eR))))))))))) (fun h1=>have g1:=fO h1;
 (an (aN 9 (ac (au h1) (a1 a0)))
 (an (ac (dwr (z:= ↑(i4+1)) (by omega) (by omega)) a0)
 (lfN (tO n w0 i2 i4 xs l) (show (eU n w0 i2 i4 l)=l from (cdF h1 rfl)) (bp (rfl:(.row 4 1 (map aq w0.2):Ob)= .row 4 1 (map aq w0.2)) (bp (rfl:(.row 36 1 (aJ (List.set (vs xs) i2 (.sr 2 1 0 (length l)))):Ob)= .row 36 1 (aJ (List.set (vs xs) i2 (.sr 2 1 0 (length l))))) (bp (rfl:(.row 3 1 (map aL l):Ob)= .row 3 1 (map aL l)) eR)))))))))))
 (by kernel_rfl)
theorem ZS (n:Net) (w0:Bool×(List Bool)) (i2 i4:Nat) (xs:List Value) (l:List Int) (hn:bw n) (hf:bg n) (hw0:length w0.2=length n.rules) (hx2:i2<length n.aa) (hx4:i4<length (ah n.aa i2).aj) (hl1:length xs=(length n.aa)) (hr1:length l<=i2*1000000+i4):Piece pg 100 2 JB (zAT i2 i4 n) [.row 4 1 (zAh w0),.row 36 1 (aJ (List.set (vs xs) i2 (.sr 2 1 0 (zBl l)))),.row 3 1 (zCR l)] .normal (zN i2 i4 n) [.row 4 1 (zAh w0),.row 36 1 (aJ (List.set (vs xs) i2 (.sr 2 1 0 (length (eU n w0 i2 i4 l))))),.row 3 1 (map aL (eU n w0 i2 i4 l))]:=
 LM (aS aw mixed (az _)) (ZR n w0 i2 i4 xs l hn hf hw0 hx2 hx4 hl1 hr1) (ei (o:=(tL n w0 i2 i4 xs l)) (oI rfl rfl rfl (by simp [tL,plS,AV.pure]) (bp ((cR (by simp)).symm) (bp ((eM (f:=(cj [0,1,4] 5)) (o:=2) (q:=4) rfl).symm) (bp ((cR (fQ _)).symm) eR)))) (ei (o:=(tM n w0 i2 i4 xs l)) (oI rfl rfl rfl (by simp [tM,plS,AV.pure]) (bp ((cR (by simp)).symm) (bp ((eM (f:=(cj [0,1,4] 5)) (o:=2) (q:=4) rfl).symm) (bp ((cR (fQ _)).symm) eR)))) (ei (o:=(tN n w0 i2 i4 xs l)) (oI rfl rfl rfl (by simp [tN,plS,AV.pure]) (bp ((cR (by simp)).symm) (bp ((eM (f:=(cj [0,1,2] 4)) (o:=2) (q:=2) rfl).symm) (bp ((cR (fQ _)).symm) eR)))) (ei (o:=(tO n w0 i2 i4 xs l)) (oI rfl rfl rfl (by simp [tO,plS,AV.pure]) (bp ((cR (by simp)).symm) (bp ((eM (f:=(cj [0,1,2] 4)) (o:=2) (q:=2) rfl).symm) (bp ((cR (fQ _)).symm) eR)))) vM)))) (fa (o:=(tL n w0 i2 i4 xs l)) (fun h=>⟨rfl,rfl,(congrArg (fun z1=>([.row 4 1 (map aq w0.2),.row 36 1 (aJ (List.set (vs xs) i2 (.sr 2 1 0 (length z1)))),.row 3 1 (map aL z1)]:List Ob)) h).symm⟩) (fa (o:=(tM n w0 i2 i4 xs l)) (fun h=>⟨rfl,rfl,(congrArg (fun z1=>([.row 4 1 (map aq w0.2),.row 36 1 (aJ (List.set (vs xs) i2 (.sr 2 1 0 (length z1)))),.row 3 1 (map aL z1)]:List Ob)) h).symm⟩) (fa (o:=(tN n w0 i2 i4 xs l)) (fun h=>⟨rfl,rfl,(congrArg (fun z1=>([.row 4 1 (map aq w0.2),.row 36 1 (aJ (List.set (vs xs) i2 (.sr 2 1 0 (length z1)))),.row 3 1 (map aL z1)]:List Ob)) h).symm⟩) (fa (o:=(tO n w0 i2 i4 xs l)) (fun h=>⟨rfl,rfl,(congrArg (fun z1=>([.row 4 1 (map aq w0.2),.row 36 1 (aJ (List.set (vs xs) i2 (.sr 2 1 0 (length z1)))),.row 3 1 (map aL z1)]:List Ob)) h).symm⟩) CC))))
def CG (n:Net) (w0:Bool×(List Bool)):KB:=⟨[(0,.pf (aR n)),(3,.sr 0 1 0 (zB n)),(4,B false),(5,.sr 1 1 0 (zY n)),(28,.sl 2 (zA n)),(29,I (length (zA n):Int)),(30,I 0)],[.row 4 1 (zAh w0),.row 36 1 (replicate (zY n) [.v (.slice none 0 0)])],false,.ret,[],[],.normal,[(0,.pf (aR n)),(3,.sr 0 1 0 (zB n)),(4,B false),(5,.sl 1 (map bY (gA (okT w0.2) n)))],[.row 4 1 (zAh w0)],True⟩
theorem vN (n:Net) (w0:Bool×(List Bool)) (i2 i4:Nat) (l:List Int):eU n w0 i2 i4 l=l++tgT w0.2 (ah (ah n.aa i2).aj i4):=by
 unfold eU tgT okT
 generalize (ah (ah n.aa i2).aj i4)=e
 cases h1:e.op==1 with
 |true=>simp [bne,h1]
 |false=>
  cases h2:e.op==2 with
  |true=>
   have hg:aB w0.2 e.n=ah w0.2 e.n.toNat:=rfl
   rw [hg]
   cases h3:ah w0.2 e.n.toNat<;>simp [bne,h1,h2]
  |false=>simp [bne,h1,h2]
theorem TB (n:Net) (w0:Bool×(List Bool)) (hn:bw n) (hf:bg n) (hw0:length w0.2=length n.rules):dg pg 100 0 2 (.loop fS) (CG n w0):=by
 skip
 have hl:=ry (P:=Tryz.prog) (n:=100) (K:=0) (d:=3) (S:=fun G=>[.row 4 1 (map aq w0.2)]++cw 1 36 3 (gV G)) (m:=length n.aa) (len:=fun i2=>length (ah n.aa i2).aj) (step:=fun i2 i4 G=>List.set G i2 (eU n w0 i2 i4 (ah G i2))) (I:=fun i k G=>G.length=length n.aa/\ ∀l∈G,l.length<=i*1000000+k) (s0:=replicate (length (map ak n.aa)) [])
  (fun i2 hx ob=>ZJ n w0 i2 hn hf hw0 hx ob) (fun i2 hx ob=>ZK n w0 i2 hn hf hw0 hx ob) (fun i2 hx ob=>ZL n w0 i2 hn hf hw0 hx ob) (fun i2 hx ob=>ZM n w0 i2 hn hf hw0 hx ob)
  (fun i2 i4 G hx2 hx4 hI=>⟨pin1 (base:=[.row 4 1 (map aq w0.2)]) (by rw [hI.1];exact hx2) (by kernel_rfl) rfl (mqc (aI _ _ (by simp [AV.pure])) (mqc rfl (mqc (aI _ _ (by simp [AV.pure])) (mqc rfl (mqc (aI _ _ (by simp [AV.pure])) (mqc (aI _ _ (by simp [AV.pure])) (mqc (aI _ _ (by simp [AV.pure])) (mqc (aI _ _ (by simp [AV.pure])) (mqc (aI _ _ (by simp [AV.pure])) (mqc (aI _ _ (by simp [AV.pure])) (mqc (aI _ _ (by simp [AV.pure])) bq))))))))))) (mqc (aI _ _ (by simp [AV.pure])) (mqc rfl (mqc (aI _ _ (by simp [AV.pure])) (mqc rfl (mqc (aI _ _ (by simp [AV.pure])) (mqc (aI _ _ (by simp [AV.pure])) (mqc (aI _ _ (by simp [AV.pure])) (mqc (aI _ _ (by simp [AV.pure])) (mqc (aI _ _ (by simp [AV.pure])) (mqc (aI _ _ (by simp [AV.pure])) (mqc (aI _ _ (by simp [AV.pure])) bq))))))))))) (by simp [Ob.und,cZ bS]) (mqc (by simp) bq) (fun xs hxs=>ZS n w0 i2 i4 xs (ah G i2) hn hf hw0 hx2 hx4 (hxs.trans hI.1) (hI.2 _ (ay (by rw [hI.1];exact hx2)))),yK hI (by omega) (by have hgl:=(show (eU n w0 i2 i4 (ah G i2)).length<=(ah G i2).length+1 by rw [vN];exact Wq _ _ _);have hgm:=hI.2 _ (ay (i:=i2) (by rw [hI.1];exact hx2));omega)⟩)
  (fun i2 hx ob=>ZN n w0 i2 hn hf hw0 hx ob) (fun i2 hx ob=>ZO n w0 i2 hn hf hw0 hx ob) (fun ob=>ZP n w0 hn hf hw0 ob) (fun ob=>ZQ n w0 hn hf hw0 ob)
  ⟨by simp,yL _⟩ (fun i G hi hI=>⟨hI.1,fun l hl=>Nat.le_trans (hI.2 l hl) (by have:=hf.aj _ (ay hi);omega)⟩)
 rw [<-Ts] at hl
 have hG:aJ (jj (gV (gO (fun i2 i4 G=>List.set G i2 (eU n w0 i2 i4 (ah G i2))) (fun i2=>length (ah n.aa i2).aj) (replicate (length (map ak n.aa)) []) (length n.aa))))=map bY (gA (okT w0.2) n):=by
  rw [aW,CE (tg:=fun i k=>tgT w0.2 (ah (ah n.aa i).aj k)) (fun i k G _ _=>by rw [vN]) _ (Nat.le_refl _),Nat.sub_self,List.replicate_zero,List.append_nil,tK]
  exact ZH hn.to _
 have hlen:length (gO (fun i2 i4 G=>List.set G i2 (eU n w0 i2 i4 (ah G i2))) (fun i2=>length (ah n.aa i2).aj) (replicate (length (map ak n.aa)) []) (length n.aa))=length (map ak n.aa):=by
  rw [aW,CE (tg:=fun i k=>tgT w0.2 (ah (ah n.aa i).aj k)) (fun i k G _ _=>by rw [vN]) _ (Nat.le_refl _)];simp
 exact Fj (base:=[.row 4 1 (map aq w0.2)]) hl (by simp [Ob.und,cZ bS]) hG (mqc (.inl ⟨rfl,(aI _ _ (by simp [AV.pure]))⟩) (mqc (.inl ⟨rfl,rfl⟩) (mqc (.inl ⟨rfl,(aI _ _ (by simp [AV.pure]))⟩) (mqc (.inr ⟨by rw [hlen];rfl,rfl⟩) bq))))
def JC:Code:=bV 6 CF
def oK (n:Net) (w0:Bool×(List Bool)) (i6:Nat) (y6:Bool×(List Bool)):Bool×(List Bool):=(bif !(ah y6.2 i6) then (bif (aB (lG n w0.2 (ah n.rules i6).start) (ah n.rules i6).stop) then (true,List.set y6.2 i6 true) else (y6.1,y6.2)) else (y6.1,y6.2))
def bU (n:Net) (w0:Bool×(List Bool)) (kk:Nat):Bool×(List Bool):=Nat.rec (motive:=fun _=>Bool×(List Bool)) (false,w0.2) (fun j a=>oK n w0 j a) kk
theorem TC (n:Net) (w:Bool×(List Bool)) (i:Nat):length (bU n w i).2=length w.2:=by
 induction i with
 |zero=>rfl
 |succ i ih=>
  show length (oK n w i (bU n w i)).2=_
  unfold oK
  simp only [Bool.cond_eq_ite]
  split
  ·split
   ·simp [ih]
   ·exact ih
  ·exact ih
theorem low24 (n:Net) (w:Bool×(List Bool)) (hw:length w.2=length n.rules) (i:Nat) (hi:i<=n.rules.length):cf (bU n w i).2+(bif (bU n w i).1 then 1 else 0)<=cf w.2:=by
 induction i with
 |zero=>exact Nat.le_refl _
 |succ i ih=>
  have ih:=ih (by omega)
  have hl:=TC n w i
  show cf (oK n w i (bU n w i)).2+(bif (oK n w i (bU n w i)).1 then 1 else 0)<=_
  unfold oK
  simp only [Bool.cond_eq_ite] at ih⊢
  split
  ·rename_i h1
   split
   ·have:=BZ (l:=(bU n w i).2) (c:=i) (by omega) (by simpa using h1)
    simp only [if_true]
    split at ih<;>omega
   ·exact ih
  ·exact ih
def tP (n:Net) (w0:Bool×(List Bool)) (i6:Nat):Am.Loc:=[(0,.pf (aR n)),(3,.sr 0 1 0 (zB n)),(4,B ((bU n w0 i6).1)),(5,.sl 1 (map bY (gA (okT w0.2) n))),(73,.sl 9 (zc n)),(74,I (length (zc n):Int)),(75,I (i6:Int))]
def m6 (n:Net) (w0:Bool×(List Bool)) (i6:Nat):List Ob:=[.row 4 1 (map aq ((bU n w0 i6).2))]
def xp (n:Net) (_:Bool×(List Bool)) (_:Nat):Bool:=false
def Ws (n:Net) (_:Bool×(List Bool)):Bool:=false
def CH (n:Net) (_:Bool×(List Bool)) (_:Nat):Am.Loc:=[]
def CI (n:Net) (_:Bool×(List Bool)) (_:Nat):List Ob:=[]
def oL (n:Net) (w0:Bool×(List Bool)):Am.Loc:=[(0,.pf (aR n)),(3,.sr 0 1 0 (zB n)),(4,B ((bU n w0 (zU n)).1))]
def oM (n:Net) (w0:Bool×(List Bool)):List Ob:=[.row 4 1 (map aq ((bU n w0 (zU n)).2))]
def CJ (n:Net) (w0:Bool×(List Bool)):KB:=⟨tP n w0 0,m6 n w0 0,Ws n w0,.ret,CH n w0 (cc (zU n) (xp n w0)),CI n w0 (cc (zU n) (xp n w0)),.normal,oL n w0,oM n w0,True⟩
def CK (n:Net) (w0:Bool×(List Bool)) (i6:Nat):List bj:=[nxW (xp n w0 i6) (tP n w0 (i6+1)) (m6 n w0 (i6+1)) [(0,.pf (aR n)),(3,.sr 0 1 0 (zB n)),(4,B true),(5,.sl 1 (map bY (gA (okT w0.2) n))),(73,.sl 9 (zc n)),(74,I (length (zc n):Int)),(75,I ↑(i6+1))] zAU [.row 4 1 (map aq (List.set ((bU n w0 i6).2) i6 true))],nxW (xp n w0 i6) (tP n w0 (i6+1)) (m6 n w0 (i6+1)) [(0,.pf (aR n)),(3,.sr 0 1 0 (zB n)),(4,B ((bU n w0 i6).1)),(5,.sl 1 (map bY (gA (okT w0.2) n))),(73,.sl 9 (zc n)),(74,I (length (zc n):Int)),(75,I ↑(i6+1))] zAU [.row 4 1 (map aq ((bU n w0 i6).2))]]
def XS (n:Net) (w0:Bool×(List Bool)) (i6:Nat):GT:=(.r [.k,bT] (.yes (.r [.row (aD (ah n.rules i6)),bT] (.a (.r (.at i6 0 (aq (ah ((bU n w0 i6).2) i6))::uTT 4 [.int 0,bT,bT,bT,.cC ((ah n.rules i6).stop).toNat (aq (aB (lG n w0.2 (ah n.rules i6).start) (ah n.rules i6).stop)),bT,bT]) (.br (.r [.at i6 0 (aq (ah ((bU n w0 i6).2) i6)),bT] (.r [.int ↑(i6+1),bT] (.pick 0))) (.r [.int ↑(i6+1),bT] (.pick 1)))) (.r (.at i6 0 (aq (ah ((bU n w0 i6).2) i6))::uFF 8 [bT]) (.r [.int ↑(i6+1),bT] (.pick 1)))))))
theorem ZT (n:Net) (w0:Bool×(List Bool)) (i6:Nat) (hn:bw n) (hf:bg n) (hw0:length w0.2=length n.rules) (hx6:i6<(length n.rules)):vcC pg 100 (bC [i59 n w0.2 (ah n.rules i6).start] base) aO 3000 (kbL []) JC (bu (tP n w0 i6)) (bA (m6 n w0 i6)) 1 (bQ (CK n w0 i6)) (XS n w0 i6):=
 have hr:=hf.rules;have hs:=hf.aa;have hl:length (bU n w0 i6).2=length n.rules:=(TC n w0 i6).trans hw0;have hs:=hn.start _ (ay hx6);have ht:=hn.stop _ (ay hx6);have hrl:=Pd n w0.2 (ah n.rules i6).start;have l1:=aW aD (n.rules);have hb:(decide ((i6:Int)<(length (map aD n.rules):Int)))=true:=decide_eq_true (by omega);
 aZ (an (a1 a0)
 (an hb (an (ac (bR aD (l:=n.rules) (i:=i6) (by omega)) a0)
 (aP (fun (h1:(!(ah ((bU n w0 i6).2) i6))=true)=>
 (have l2:=aW aq ((lG n w0.2 (ah n.rules i6).start));an (a1 (ac (bK (f:=aq) (l:=lG n w0.2 (ah n.rules i6).start) (s:=(ah n.rules i6).stop) (decide_eq_true (by omega)) (decide_eq_true (by omega))) (aN 3 (cA (g59 n w0.2 (ah n.rules i6).start) ⟨hn,hf,by omega⟩ (aN 3 (ac h1 (ac (atL (S:=1) (f:=0) (z:=i6) (rfl:map aq ((bU n w0 i6).2)=map aq ((bU n w0 i6).2)) (by decide) (by omega)) (ac (ixL (z:=i6) (n:=length (map aD n.rules)) (by omega)) a0))))))))
 (brP (fun (h2:((aB (lG n w0.2 (ah n.rules i6).start) (ah n.rules i6).stop))=true)=>
 (an (ac (stL (S:=1) (f:=0) (k:=1) (z:=i6) (rfl:map aq ((bU n w0 i6).2)=map aq ((bU n w0 i6).2)) (by decide) (by omega) rfl) (ac (ixL (z:=i6) (n:=length (map aD n.rules)) (by omega)) a0))
 (an (ac (dwr (z:= ↑(i6+1)) (by omega) (by omega)) a0)
 (lfE (wy (CK n w0 i6) 0) 2 ⟨(show xp n w0 i6=false from rfl),congrArg (fun y6:Bool×(List Bool)=>([(0,.pf (aR n)),(3,.sr 0 1 0 (length (map aD n.rules))),(4,B y6.1),(5,.sl 1 (map bY (gA (okT w0.2) n))),(73,.sl 9 (map aD n.rules)),(74,I (length (map aD n.rules):Int)),(75,I ↑(i6+1))]:Am.Loc)) (show bU n w0 (i6+1)=(true,List.set ((bU n w0 i6).2) i6 true) from (cdT h1 (cdT h2 rfl))).symm,(by rw [show m6 n w0 (i6+1)=(fun y6:Bool×(List Bool)=>([.row 4 1 (map aq y6.2)]:List Ob)) (bU n w0 (i6+1)) from rfl,(show bU n w0 (i6+1)=(true,List.set ((bU n w0 i6).2) i6 true) from (cdT h1 (cdT h2 rfl)))])⟩ (bp (congrArg (fun z=>Ob.row 4 1 z) (lz (f:=aq) (rfl:map aq ((bU n w0 i6).2)=map aq ((bU n w0 i6).2)) i6 true)) eR))))) (fun h2=>
 (an (ac (dwr (z:= ↑(i6+1)) (by omega) (by omega)) a0)
 (lf (wy (CK n w0 i6) 1) 2 ⟨(show xp n w0 i6=false from rfl),congrArg (fun y6:Bool×(List Bool)=>([(0,.pf (aR n)),(3,.sr 0 1 0 (length (map aD n.rules))),(4,B y6.1),(5,.sl 1 (map bY (gA (okT w0.2) n))),(73,.sl 9 (map aD n.rules)),(74,I (length (map aD n.rules):Int)),(75,I ↑(i6+1))]:Am.Loc)) (show bU n w0 (i6+1)=((bU n w0 i6).1,(bU n w0 i6).2) from (cdT h1 (cdF h2 rfl))).symm,(by rw [show m6 n w0 (i6+1)=(fun y6:Bool×(List Bool)=>([.row 4 1 (map aq y6.2)]:List Ob)) (bU n w0 (i6+1)) from rfl,(show bU n w0 (i6+1)=((bU n w0 i6).1,(bU n w0 i6).2) from (cdT h1 (cdF h2 rfl)))])⟩)))))) (fun h1=>
 (an (aN 7 (ac (au h1) (ac (atL (S:=1) (f:=0) (z:=i6) (rfl:map aq ((bU n w0 i6).2)=map aq ((bU n w0 i6).2)) (by decide) (by omega)) (ac (ixL (z:=i6) (n:=length (map aD n.rules)) (by omega)) a0))))
 (an (ac (dwr (z:= ↑(i6+1)) (by omega) (by omega)) a0)
 (lf (wy (CK n w0 i6) 1) 2 ⟨(show xp n w0 i6=false from rfl),congrArg (fun y6:Bool×(List Bool)=>([(0,.pf (aR n)),(3,.sr 0 1 0 (length (map aD n.rules))),(4,B y6.1),(5,.sl 1 (map bY (gA (okT w0.2) n))),(73,.sl 9 (map aD n.rules)),(74,I (length (map aD n.rules):Int)),(75,I ↑(i6+1))]:Am.Loc)) (show bU n w0 (i6+1)=((bU n w0 i6).1,(bU n w0 i6).2) from (cdF h1 rfl)).symm,(by rw [show m6 n w0 (i6+1)=(fun y6:Bool×(List Bool)=>([.row 4 1 (map aq y6.2)]:List Ob)) (bU n w0 (i6+1)) from rfl,(show bU n w0 (i6+1)=((bU n w0 i6).1,(bU n w0 i6).2) from (cdF h1 rfl))])⟩))))))))
 (by kernel_rfl)
theorem ZU (n:Net) (w0:Bool×(List Bool)) (_:bw n) (hf:bg n) (_:length w0.2=length n.rules):vcC pg 100 base aO 3000 (kbL []) JC (bu (tP n w0 (zU n))) (bA (m6 n w0 (zU n))) 1 (bQ [⟨True,(.exit 6),oL n w0,range 1,oM n w0⟩]) zE:=
 have hr:=hf.rules;have hs:=hf.aa;have l1:=aW aD (n.rules);have hb:(zH n)=false:=decide_eq_false (by omega);
 aZ (an (a1 a0)
 (an hb (lf (wy [⟨True,(.exit 6),oL n w0,range 1,oM n w0⟩] 0) 1 trivial)))
 (by kernel_rfl)
theorem TD (n:Net) (w0:Bool×(List Bool)) (i6:Nat):(CK n w0 i6).all zr=true:=by refine (aF (aQ rfl rfl rfl ?_ ?_) (aF (aQ rfl rfl rfl ?_ ?_) bD))<;>simp (maxDischargeDepth:=9) [nxW,tP,plS,AV.pure,m6,plO]
theorem TE (n:Net) (w0:Bool×(List Bool)):bj.b8 0 ⟨True,(.exit 6),oL n w0,range 1,oM n w0⟩=true:=by refine (aQ rfl rfl rfl ?_ ?_)<;>simp (maxDischargeDepth:=9) [oL,plS,AV.pure,oM,plO]
theorem TF (n:Net) (w0:Bool×(List Bool)) (hn:bw n) (hf:bg n) (hw0:length w0.2=length n.rules):dg pg 100 0 6 (.loop JC) (CJ n w0):=
 have hr:=hf.rules;have hs:=hf.aa;mj (fun _=>e9 (id:=6) (m:=length n.rules) (t:=xp n w0) (xr:= .ret) (xn:=(.exit 6)) (Lr:=CH n w0) (Lx:=oL n w0) (obr:=CI n w0) (obx:=oM n w0) (V:=fun i6=>vcC pg 100 (bC [i59 n w0.2 (ah n.rules i6).start] base) aO 3000 (kbL []) JC) (tP n w0) (m6 n w0) 1 (CK n w0) (XS n w0) _ _ (fun i6 hx6=>aS (bf (.cons (g59 n w0.2 (ah n.rules i6).start) rfl cv.nil) aw) mixed (az _)) (aS aw mixed (az _)) (fun e=>by cases e) (fun e=>by cases e) (fun _=>rfl) (fun i6 hx6=>ZT n w0 i6 hn hf hw0 hx6) (fun i6 _=>TD n w0 i6) (fun i6 _=>show∀ww∈CK n w0 i6,cy _ _ _ _ _ _ ww from (aG cg (aG cg bG))) (ZU n w0 hn hf hw0) (TE n w0)) (fun _=>rfl) rfl (fun h=>h)
def oN (n:Net) (w0:Bool×(List Bool)):Bool×(List Bool):=((bU n w0 (length n.rules)).1,(bU n w0 (length n.rules)).2)
def dm (n:Net) (kk:Nat):Bool×(List Bool):=Nat.rec (motive:=fun _=>Bool×(List Bool)) (true,replicate (length (map aD n.rules)) false) (fun _ a=>oN n a) kk
def jX (n:Net) (w0:Bool×(List Bool)):Bool:=(!w0.1)
def XT (n:Net) (_:Bool×(List Bool)):Bool:=false
def jl (n:Net):Bool×(List Bool):=dm n (dX (jX n) (dm n))
theorem Fl (n:Net): ∀k,length (dm n k).2=length n.rules
 |0=>by show length (replicate _ false)=_;simp
 |k+1=>by
  show length (oN n (dm n k)).2=_
  unfold oN
  rw [TC,Fl n k]
theorem TG (n:Net):(∃k,jX n (dm n k)=true)/\ ∀k,k<=dX (jX n) (dm n)->length (dm n k).2=length n.rules:=by
 refine ⟨?_,fun k _=>Fl n k⟩
 by_cases h: ∃k,jX n (dm n k)=true
 ·exact h
 ·have h: ∀k,(dm n k).1=true:=fun k=>by
   cases e:(dm n k).1 with
   |true=>rfl
   |false=>exact absurd ⟨k,by simp [jX,e]⟩ h
  have key: ∀k,cf (dm n k).2+k<=cf (dm n 0).2:=fun k=>by
   induction k with
   |zero=>exact Nat.le_refl _
   |succ k ih=>
    have h1:=low24 n (dm n k) (Fl n k) n.rules.length (Nat.le_refl _)
    have h2:(bU n (dm n k) n.rules.length).1=true:=h (k+1)
    have h3:(dm n (k+1)).2=(bU n (dm n k) n.rules.length).2:=rfl
    rw [h2,<-h3] at h1
    simp only [cond_true] at h1
    omega
  have:=key (cf (dm n 0).2+1)
  omega
def Fm (n:Net) (w0:Bool×(List Bool)):Am.Loc:=[(0,.pf (aR n)),(3,.sr 0 1 0 (zB n)),(4,B w0.1)]
def Hq (n:Net) (_:Bool×(List Bool)):Am.Loc:=[]
def CL (n:Net) (_:Bool×(List Bool)):Am.Loc:=[(3,.sr 0 1 0 (zB n))]
def Fo (n:Net) (w0:Bool×(List Bool)):List Ob:=[.row 4 1 (zAh w0)]
def Hr (n:Net) (_:Bool×(List Bool)):List Ob:=[]
def CM (n:Net) (w0:Bool×(List Bool)):List Ob:=[.row 4 1 (zAh w0)]
def CN (n:Net):KB:=⟨Fm n (dm n 0),Fo n (dm n 0),false,.ret,Hq n (jl n),Hr n (jl n),.normal,CL n (jl n),CM n (jl n),(∃k,jX n (dm n k)=true)/\ ∀k,k<=dX (jX n) (dm n)->length (dm n k).2=length n.rules⟩
def Fp (n:Net) (w0:Bool×(List Bool)):List bj:=[nxW (jX n w0) (Fm n (oN n w0)) (Fo n (oN n w0)) [(0,.pf (aR n)),(3,.sr 0 1 0 (zB n)),(4,B ((bU n w0 (zU n)).1))] zAU [.row 4 1 (map aq ((bU n w0 (zU n)).2))],wxW (jX n w0) (XT n w0) (.exit 0) (CL n w0) zAU (CM n w0)]
def XU (n:Net) (_:Bool×(List Bool)):GT:=(.r [bT] (.br (.r [bT] (.r [bT] (.r [bT] (.no (.r [bT] (.no (.pick 0))))))) (.pick 1)))
theorem ZV (n:Net) (w0:Bool×(List Bool)) (_:bw n) (hf:bg n) (_:length w0.2=length n.rules):vcC pg 100 base aO 3000 (kbL [(2,CG n w0),(6,CJ n w0)]) CF (bu (Fm n w0)) (bA (Fo n w0)) 1 (bQ (Fp n w0)) (XU n w0):=
 have hr:=hf.rules;have hs:=hf.aa;aZ (an a0
 (brP (fun (h0:(w0.1)=true)=>
 (an a0
 (have l1:=aW ak (n.aa);an (ac (DE (n:=length (map ak n.aa)) (B:=24) (by omega) (show length (map ak n.aa)<=9223372036854775807 by omega)) a0)
 (an a0
 (an (kbT (CG n w0) trivial) (an (rfl:false=false) (an a0
 (an (kbT (CJ n w0) trivial) (an (rfl:false=false) (lf (wy (Fp n w0) 0) 1 ⟨show jX n w0=false from (cx h0),congrArg (fun y0:Bool×(List Bool)=>([(0,.pf (aR n)),(3,.sr 0 1 0 (length (map aD n.rules))),(4,B y0.1)]:Am.Loc)) (show (oN n w0)=((bU n w0 (length n.rules)).1,(bU n w0 (length n.rules)).2) from rfl).symm,congrArg (fun y0:Bool×(List Bool)=>([.row 4 1 (map aq y0.2)]:List Ob)) (show (oN n w0)=((bU n w0 (length n.rules)).1,(bU n w0 (length n.rules)).2) from rfl).symm⟩)))))))))) (fun h0=>
 (lf (wy (Fp n w0) 1) 1 ⟨show jX n w0=true from (au h0),rfl⟩))))
 (by kernel_rfl)
theorem TH (n:Net) (w0:Bool×(List Bool)):(Fp n w0).all zr=true:=by refine (aF (aQ rfl rfl rfl ?_ ?_) (aF (aQ rfl rfl rfl ?_ ?_) bD))<;>simp (maxDischargeDepth:=9) [nxW,wxW,Fm,CL,plS,AV.pure,Fo,CM,plO]
theorem Hs:dB [2,6] CF=[(2,.loop fS),(6,.loop JC)]:=by kernel_rfl
theorem TI (n:Net) (hn:bw n) (hf:bg n):dg pg 100 0 0 (.loop CF) (CN n):=
 have hr:=hf.rules;have hs:=hf.aa;Jl (fun hp0=>BY (id:=0) (t:=jX n) (hit:=XT n) (it:=dm n) (step:=oN n) (fun _=>rfl) (I:=fun w0=>length w0.2=length n.rules) (xr:= .ret) (xn:=(.exit 0)) (Lr:=Hq n) (Lx:=CL n) (obr:=Hr n) (obx:=CM n) (V:=fun w0=>vcC pg 100 base aO 3000 (kbL [(2,CG n w0),(6,CJ n w0)]) CF) (Fm n) (Fo n) 1 (Fp n) (XU n) (fun w0 hw0=>aS aw mixed (bO (l:=[(2,CG n w0),(6,CJ n w0)]) Hs (aV (TB n w0 hn hf hw0) rfl (aV (TF n w0 hn hf hw0) rfl bn)) rfl)) (fun e=>by cases e) (fun e=>by cases e) (fun _=>rfl) (fun w0 hw0=>ZV n w0 hn hf hw0) (fun w0 _=>TH n w0) (fun w0 _=>show∀ww∈Fp n w0,ou _ _ _ _ _ _ _ _ _ _ ww from (aG tn (aG BX bG))) hp0.1 hp0.2) rfl rfl (fun h=>h)
def r24 (n:Net):List Bool:=(jl n).2
theorem x7:dB [0] (aH 24)=[(0,.loop CF)]:=by kernel_rfl
abbrev zK (n:Net):=(map aq (r24 n))
theorem DL (n:Net) (hn:bw n) (hf:bg n):ba pg 24 [.pf (aR n)] [] [] (.sr 0 1 0 (zB n)) [.row 4 1 (zK n)]:=
 have hr:=hf.rules;have hs:=hf.aa;M4 (fn:=Tryz.f24) (callf:=base) (pu:=aO) (lf:=3000) (l:=[(0,CN n)]) (t:=zBB) aw mixed Tryz.func24 (by kernel_rfl) (show Tryz.f24.body=some (aH 24) by kernel_rfl) (Nat.le_of_ble_eq_true rfl) (bO (l:=[(0,CN n)]) x7 (aV (TI n hn hf) rfl bn) rfl) rfl (by simp [Ob.und,cZ bS]) (aZ
 (an a0
 (have l1:=aW aD (n.rules);an (ac (DE (n:=length (map aD n.rules)) (B:=1) (by omega) (show length (map aD n.rules)<=9223372036854775807 by omega)) a0)
 (an a0
 (an (IK (CN n) (S:=nm (KB.L0 (CN n))) rfl (bp (congrArg (fun z=>Ob.row 4 1 z) (Ou (f:=aq) (length (map aD n.rules)) false)) eR) (TG n)) (an (rfl:false=false) (an a0
 (roE (k:=length (map aD n.rules)) (rfl:(.row 4 1 (map aq ((jl n).2)):Ob)= .row 4 1 (map aq ((jl n).2))) (show r24 n=((jl n).2) from rfl))))))))
 (by kernel_rfl))
def JD:Code:=bV 0 (aH 90)
def xq (l:List Bool) (i0:Nat):Am.Loc:=[(0,.sl 1 (map aq l)),(1,B false),(7,I (length (map aq l):Int)),(8,I (i0:Int))]
def Fq (l:List Bool) (i0:Nat):List Ob:=[]
def m7 (l:List Bool) (i0:Nat):Bool:=(false==(ah l i0))
def yM (l:List Bool):Bool:=dh (length l) (m7 l)
def CO (l:List Bool) (i0:Nat):Am.Loc:=[(4,I (i0:Int))]
def LQ (l:List Bool) (i0:Nat):List Ob:=[]
def rz (l:List Bool):Am.Loc:=[]
def CP (l:List Bool):List Ob:=[]
def Ht (l:List Bool):KB:=⟨xq l 0,Fq l 0,yM l,.ret,CO l (cc (length l) (m7 l)),LQ l (cc (length l) (m7 l)),.normal,rz l,CP l,True⟩
def Fs (l:List Bool) (i0:Nat):List bj:=[htW (m7 l i0) .ret (CO l i0) za (LQ l i0),nxW (m7 l i0) (xq l (i0+1)) (Fq l (i0+1)) (xq l (i0+1)) za (Fq l (i0+1))]
def XV (l:List Bool) (i0:Nat):GT:=(.r [.k,bT] (.yes (.r [bT] (.r [.row (aq (ah l i0)),.k,bT] (.br (.r [bT] (.pick 0)) (.r [.int ↑(i0+1),bT] (.pick 1)))))))
theorem ZW (l:List Bool) (i0:Nat) (ls:length l<=9223372036854775807) (hx0:i0<(length l)):vcC pg 19 base aO 3000 (kbL []) JD (bu (xq l i0)) (bA (Fq l i0)) 0 (bQ (Fs l i0)) (XV l i0):=
 have l1:=aW aq (l);have hb:(decide ((i0:Int)<(length (map aq l):Int)))=true:=decide_eq_true (by omega);
 aZ (an (a1 a0)
 (an hb (an a0
 (an (a1 (ac (bR aq (l:=l) (i:=i0) (by omega)) a0))
 (brP (fun (h1:(false==(ah l i0))=true)=>
 (an a0
 (lf (wy (Fs l i0) 0) 0 (show m7 l i0=true from h1)))) (fun h1=>
 (an (ac (dwr (z:= ↑(i0+1)) (by omega) (by omega)) a0)
 (lf (wy (Fs l i0) 1) 0 ⟨(show m7 l i0=false from h1),rfl,rfl⟩))))))))
 (by kernel_rfl)
theorem ZX (l:List Bool) (_:length l<=9223372036854775807):vcC pg 19 base aO 3000 (kbL []) JD (bu (xq l (length l))) (bA (Fq l (length l))) 0 (bQ [⟨True,(.exit 0),rz l,range 0,CP l⟩]) zE:=
 have l1:=aW aq (l);have hb:(decide ((((length l):Nat):Int)<(length (map aq l):Int)))=false:=decide_eq_false (by omega);
 aZ (an (a1 a0)
 (an hb (lf (wy [⟨True,(.exit 0),rz l,range 0,CP l⟩] 0) 0 trivial)))
 (by kernel_rfl)
theorem TJ (l:List Bool) (i0:Nat):(Fs l i0).all zr=true:=by refine (aF (aQ rfl rfl rfl ?_ rfl) (aF (aQ rfl rfl rfl ?_ rfl) bD))<;>simp (maxDischargeDepth:=9) [nxW,htW,xq,CO,plS,AV.pure]
theorem TK (l:List Bool):bj.b8 0 ⟨True,(.exit 0),rz l,range 0,CP l⟩=true:=(aQ rfl rfl rfl rfl rfl)
theorem TL (l:List Bool) (ls:length l<=9223372036854775807):dg pg 19 0 0 (.loop JD) (Ht l):=
 bZ (fun _=>e9 (id:=0) (m:=length l) (t:=m7 l) (xr:= .ret) (xn:=(.exit 0)) (Lr:=CO l) (Lx:=rz l) (obr:=LQ l) (obx:=CP l) (V:=fun i0=>vcC pg 19 base aO 3000 (kbL []) JD) (xq l) (Fq l) 0 (Fs l) (XV l) _ _ (fun i0 hx0=>aS aw mixed (az _)) (aS aw mixed (az _)) (fun e=>by cases e) (fun e=>by cases e) (fun _=>rfl) (fun i0 hx0=>ZW l i0 ls hx0) (fun i0 _=>TJ l i0) (fun i0 _=>show∀ww∈Fs l i0,cy _ _ _ _ _ _ ww from (aG da (aG cg bG))) (ZX l ls) (TK l)) (fun h=>h) (fun h=>h)
def r90 (l:List Bool):Int:=(bif yM l then (((cc (length l) (m7 l)):Nat):Int) else (-1))
theorem x8:dB [0] (aH 90)=[(0,.loop JD)]:=by kernel_rfl
theorem idx90 (l:List Bool) (ls:length l<=9223372036854775807):ba pg 90 [.sl 1 (map aq l),B false] [] [] (I (r90 l)) []:=
 bB (fn:=Tryz.f90) (callf:=base) (pu:=aO) (lf:=3000) (l:=[(0,Ht l)]) (t:=zh) aw mixed Tryz.func90 (by kernel_rfl) (show Tryz.f90.body=some (aH 90) by kernel_rfl) (Nat.le_of_ble_eq_true rfl) (bO (l:=[(0,Ht l)]) x8 (aV (TL l ls) rfl bn) rfl) rfl (aZ
 (an a0
 (an a0
 (an (kbT (Ht l) trivial) (brP (fun (h0:(yM l)=true)=>
 (iE (show r90 l=(((cc (length l) (m7 l)):Nat):Int) from (cdT h0 rfl)))) (fun h0=>
 (an a0
 (iE (show r90 l=(-1) from (cdF h0 rfl)))))))))
 (by kernel_rfl))
def i90 (l:List Bool):b9:=⟨90,[.sl 1 (l.map aq),B false],I (r90 l),l.length<=9223372036854775807⟩
theorem g90 (l:List Bool):(i90 l).cd pg:=fun hp=>⟨idx90 l hp,by simp [i90,ae,AV.pure],by simp [i90,AV.pure]⟩
def r65 (l:List Bool):Bool:=decide ((r90 l)>=0)
theorem LR (l:List Bool) (ls:length l<=9223372036854775807):ba pg 65 [.sl 1 (map aq l),B false] [] [] (B (r65 l)) []:=
 bB (fn:=Tryz.f65) (callf:=(bC [i90 l] base)) (pu:=aO) (lf:=3000) (l:=[]) (t:=zBG) (bf (.cons (g90 l) rfl cv.nil) aw) mixed Tryz.func65 (by kernel_rfl) (show Tryz.f65.body=some (aH 65) by kernel_rfl) (Nat.le_of_ble_eq_true rfl) (az _) rfl (aZ
 (an a0
 (an (a1 (cA (g90 l) ls a0))
 (bE (show r65 l=(decide ((r90 l)>=0)) from rfl))))
 (by kernel_rfl))
def i65 (l:List Bool) (k:Nat):mU:=⟨65,[.sr 0 1 0 k,B false],[.row 4 1 (l.map aq)],B (r65 l),l.length=k/\l.length<=9223372036854775807⟩
theorem g65 (l:List Bool) (k:Nat):(i65 l k).cd pg:=fun hp=>by
 have hp:l.length=k/\l.length<=9223372036854775807:=hp
 refine yo rfl (Ln (X:= .row 4 1 (l.map aq)) (.inl ⟨_,_,_,rfl⟩) (j6.cons (Frz.sr0 rfl (by simp [hp.1])) (j6.cons (Frz.same _) j6.nil)) ?_ (LR l hp.2))
 simp [ae,AV.pure]
theorem hH {α:Type} [Inhabited α] (G:List α) (j t:Nat) (x:α) (hj:j<G.length):ah (G.set j x) t=if t=j then x else ah G t:=by
 unfold ah
 by_cases h:t=j
 ·subst h;rw [if_pos rfl,List.getElem?_set_self hj];rfl
 ·rw [if_neg h,List.getElem?_set_ne (fun e=>h e.symm)]
section
variable {step:Nat->Nat->List (List Int)->List (List Int)} {len:Nat->Nat} {to:Nat->Nat->Nat} {xs:Nat->Nat->List Int} {N m:Nat}
theorem Nd (h: ∀i k G,i<m->k<len i->step i k G=G.set (to i k) (ah G (to i k)++xs i k)) {i:Nat} (hi:i<m) (G:List (List Int)) (k:Nat) (hk:k<=len i):(inF step i G k).length=G.length:=by
 induction k with
 |zero=>rfl
 |succ k ih=>
  show (step i k (inF step i G k)).length=_
  rw [h i k _ hi (by omega),List.length_set,ih (by omega)]
theorem CQ (h: ∀i k G,i<m->k<len i->step i k G=G.set (to i k) (ah G (to i k)++xs i k)) (G:List (List Int)) (i:Nat) (hi:i<=m):(gO step len G i).length=G.length:=by
 induction i with
 |zero=>rfl
 |succ i ih=>
  show (inF step i (gO step len G i) (len i)).length=_
  rw [Nd h (by omega) _ _ (Nat.le_refl _),ih (by omega)]
theorem Wt (h: ∀i k G,i<m->k<len i->step i k G=G.set (to i k) (ah G (to i k)++xs i k)) (ht: ∀i k,i<m->k<len i->to i k<N) {i:Nat} (hi:i<m) (G:List (List Int)) (hG:G.length=N) (k:Nat) (hk:k<=len i) (t:Nat) (c:Int):c∈ah (inF step i G k) t↔c∈ah G t\/ ∃q,q<k/\to i q=t/\c∈xs i q:=by
 induction k with
 |zero=>exact ⟨.inl,fun h=>h.elim id fun ⟨q,hq,_⟩=>absurd hq (Nat.not_lt_zero _)⟩
 |succ k ih=>
  show c∈ah (step i k (inF step i G k)) t↔_
  rw [h i k _ hi (by omega),hH _ _ _ _ (by rw [Nd h hi G k (by omega),hG];exact ht i k hi (by omega))]
  by_cases e:t=to i k
  ·rw [if_pos e,List.mem_append,<-e,ih (by omega)]
   constructor
   ·rintro ((h|⟨q,h1,h2⟩)|h)
    ·exact .inl h
    ·exact .inr ⟨q,by omega,h2⟩
    ·exact .inr ⟨k,by omega,e.symm,h⟩
   ·rintro (h|⟨q,h1,h2,h3⟩)
    ·exact .inl (.inl h)
    ·by_cases hq:q=k
     ·subst hq;exact .inr h3
     ·exact .inl (.inr ⟨q,by omega,h2,h3⟩)
  ·rw [if_neg e,ih (by omega)]
   constructor
   ·rintro (h|⟨q,h1,h2⟩)
    ·exact .inl h
    ·exact .inr ⟨q,by omega,h2⟩
   ·rintro (h|⟨q,h1,h2,h3⟩)
    ·exact .inl h
    ·by_cases hq:q=k
     ·subst hq;exact absurd h2.symm e
     ·exact .inr ⟨q,by omega,h2,h3⟩
theorem JE (h: ∀i k G,i<m->k<len i->step i k G=G.set (to i k) (ah G (to i k)++xs i k)) (ht: ∀i k,i<m->k<len i->to i k<N) (i:Nat) (hi:i<=m) (t:Nat) (c:Int):c∈ah (gO step len (replicate N []) i) t↔ ∃p,p<i/\ ∃q,q<len p/\to p q=t/\c∈xs p q:=by
 induction i with
 |zero=>
  constructor
  ·intro hc
   have hc:c∈ah (replicate N ([]:List Int)) t:=hc
   unfold ah at hc
   rw [List.getElem?_replicate] at hc
   split at hc<;>exact absurd hc (by simp [default])
  ·rintro ⟨p,hp,_⟩;omega
 |succ i ih=>
  show c∈ah (inF step i (gO step len (replicate N []) i) (len i)) t↔_
  rw [Wt h ht (by omega) _ (by rw [CQ h _ i (by omega)];simp) _ (Nat.le_refl _),ih (by omega)]
  constructor
  ·rintro (⟨p,h1,h2⟩|⟨q,h1,h2⟩)
   ·exact ⟨p,by omega,h2⟩
   ·exact ⟨i,by omega,q,h1,h2⟩
  ·rintro ⟨p,h1,q,h2⟩
   by_cases hp:p=i
   ·subst hp;exact .inr ⟨q,h2⟩
   ·exact .inl ⟨p,by omega,q,h2⟩
end
def TN (n:Net) (i k:Nat) (G:List (List Int)):List (List Int):=List.set G (ah (ah n.aa i).aj k).to.toNat (ah G (ah (ah n.aa i).aj k).to.toNat++ [((i:Nat):Int)])
noncomputable def tQ (n:Net):List (List Int):=gO (TN n) (fun i=>(ah n.aa i).aj.length) (replicate n.aa.length []) n.aa.length
noncomputable def gf (n:Net):List (List Nat):=(tQ n).map (map Int.toNat)
theorem Ft (n:Net):(tQ n).length=n.aa.length:=by
 unfold tQ
 rw [CQ (step:=TN n) (m:=n.aa.length) (to:=fun i k=>(ah (ah n.aa i).aj k).to.toNat) (xs:=fun i _=>[((i:Nat):Int)]) (fun i k G _ _=>rfl) _ _ (Nat.le_refl _)]
 simp
theorem lH (n:Net):(gf n).length=n.aa.length:=by rw [gf,List.length_map,Ft]
theorem vO {n:Net} (hn:vr n) (t:Nat) (c:Int):c∈ah (tQ n) t↔ ∃p,p<n.aa.length/\(∃e∈(ah n.aa p).aj,e.to.toNat=t)/\c=(p:Nat):=by
 unfold tQ
 rw [JE (step:=TN n) (m:=n.aa.length) (to:=fun i k=>(ah (ah n.aa i).aj k).to.toNat) (xs:=fun i _=>[((i:Nat):Int)]) (fun i k G _ _=>rfl) (fun i k hi hk=>by have:=hn _ (ay hi) _ (ay hk);omega) _ (Nat.le_refl _)]
 constructor
 ·rintro ⟨p,h1,q,h2,h3,h4⟩
  exact ⟨p,h1,⟨_,ay h2,h3⟩,by simpa using h4⟩
 ·rintro ⟨p,h1,⟨e,he,h3⟩,h4⟩
  obtain ⟨q,h2,rfl⟩:=ck he
  exact ⟨p,h1,q,h2,h3,by simpa using h4⟩
theorem rA (G:List (List Int)) (h: ∀R∈G,∀c∈R,0<=c):G.map (fun l=>[AV.sl 1 (l.map aL)])=(G.map (map Int.toNat)).map bY:=by
 rw [List.map_map]
 refine List.map_congr_left fun R hR=> ?_
 simp only [Function.comp,bY]
 rw [List.map_map]
 congr 2
 refine List.map_congr_left fun c hc=> ?_
 simp only [Function.comp,aL,di]
 rw [show ((c.toNat:Nat):Int)=c by have:=h R hR c hc;omega]
theorem Fu {n:Net} (hn:vr n) (t c:Nat):Edg (gf n) t c↔c<n.aa.length/\ ∃e∈(ah n.aa c).aj,e.to.toNat=t:=by
 have e:ah (gf n) t=(ah (tQ n) t).map Int.toNat:=by
  unfold gf ah
  rw [List.getElem?_map]
  cases (tQ n)[t]? <;>rfl
 unfold Edg
 rw [e,List.mem_map]
 constructor
 ·rintro ⟨x,hx,rfl⟩
  obtain ⟨p,h1,h2,rfl⟩:=(vO hn t x).1 hx
  exact ⟨h1,h2⟩
 ·rintro ⟨h1,h2⟩
  exact ⟨(c:Nat),(vO hn t _).2 ⟨c,h1,h2,rfl⟩,by simp⟩
theorem TO {n:Net} (hn:vr n):Wf (gf n):=fun R hR c hc=>by
 obtain ⟨t,ht,rfl⟩:=ck hR
 rw [lH]
 exact ((Fu hn t c).1 hc).1
noncomputable def fp (n:Net) (x:Int):List Bool:=jT (gf n) x.toNat
theorem lI (n:Net) (x:Int):(fp n x).length=n.aa.length:=by simp [fp,jT,lH]
theorem Pe {step:Nat->Nat->List (List Int)->List (List Int)} {to:Nat->Nat->Nat} {x:Nat->Nat->Int} {i:Nat} (h: ∀k G,step i k G=G.set (to i k) (ah G (to i k)++ [x i k])) {b:Nat} (G:List (List Int)) (hG: ∀R∈G,R.length<=b) (k:Nat): ∀R∈inF step i G k,R.length<=b+k:=by
 induction k with
 |zero=>exact hG
 |succ k ih=>
  show∀R∈step i k (inF step i G k),_
  rw [h]
  intro R hR
  rcases List.mem_or_eq_of_mem_set hR with h2|rfl
  ·have:=ih R h2;omega
  ·rw [List.length_append]
   by_cases ht:to i k<(inF step i G k).length
   ·have:=ih _ (ay ht)
    simp only [List.length_cons,List.length_nil]
    omega
   ·rw [ah,List.getElem?_eq_none (by omega)]
    show 0+1<=_
    omega
theorem Wu {n:Net} (_hn:bw n) (hf:bg n): ∀R∈tQ n,R.length<=1000000000000:=by
 have key: ∀i,i<=n.aa.length-> ∀R∈gO (TN n) (fun i=>(ah n.aa i).aj.length) (replicate n.aa.length []) i,R.length<=i*1000000:=fun i=>by
  induction i with
  |zero=>intro _ R hR;rw [(List.mem_replicate.1 (show R∈replicate n.aa.length [] from hR)).2];exact Nat.zero_le _
  |succ i ih=>
   intro hi R hR
   have:R.length<=i*1000000+(ah n.aa i).aj.length:=Pe (step:=TN n) (to:=fun i k=>(ah (ah n.aa i).aj k).to.toNat) (x:=fun i _=>((i:Nat):Int)) (i:=i) (fun k G=>rfl) _ (ih (by omega)) _ R hR
   have he:=hf.aj _ (ay (show i<n.aa.length by omega))
   omega
 intro R hR
 have:=key _ (Nat.le_refl _) R hR
 have:=hf.aa
 omega
theorem rowB {n:Net} (hn:bw n) (hf:bg n): ∀R∈gf n,R.length<=9223372036854775807:=fun R hR=>by
 obtain ⟨R',hR',rfl⟩:=List.mem_map.1 hR
 have:=Wu hn hf R' hR'
 rw [List.length_map]
 omega
theorem Wv {n:Net} (hn:bw n) (hf:bg n) (x:Int) (hx:0<=x/\x<(n.aa.length:Int)):ba pg 59 [.sl 1 ((gf n).map bY),I x] [] [] (.sl 1 ((fp n x).map aq)) []:=by
 have h:=Sz (gf n) x.toNat (by rw [lH];omega) (TO hn.to) (by rw [lH];exact hf.aa) (rowB hn hf)
 rw [show ((x.toNat:Nat):Int)=x by omega] at h
 exact h
def TP (n:Net) (x:Int):b9:=⟨59,[.sl 1 ((gf n).map bY),I x],.sl 1 ((fp n x).map aq),bw n/\bg n/\0<=x/\x<(n.aa.length:Int)⟩
theorem g59b (n:Net) (x:Int):(TP n x).cd pg:=fun hp=>⟨Wv hp.1 hp.2.1 x hp.2.2,by simp [TP,ae,AV.pure],by simp [TP,AV.pure]⟩
def fT:Code:=bV 0 (aH 29)
def JF:Code:=bV 2 fT
theorem TQ:fT= .seq (sq1 fT) (.seq (sq1 (sq2 fT)) (.seq (.block 1 (.seq (sq1 (ng (sq1 (sq2 (sq2 fT))))) (.seq (sq1 (sq2 (ng (sq1 (sq2 (sq2 fT)))))) (.block 2 (.loop JF))))) (sq2 (sq2 (sq2 fT))))):=by kernel_rfl
abbrev zn (i0:Nat) (n:Net):Am.Loc:=[(0,.pf (aR n)),(3,.sr 0 1 0 (zY n)),(22,.sl 2 (zA n)),(23,I (length (zA n):Int)),(24,I (i0:Int))]
abbrev zo (i0:Nat) (n:Net):Am.Loc:=[(0,.pf (aR n)),(3,.sr 0 1 0 (zY n)),(22,.sl 2 (zA n)),(23,I (length (zA n):Int)),(24,I (i0:Int)),(25,B (decide ((i0:Int)<(length (zA n):Int))))]
theorem TR (n:Net) (i0:Nat) (_:bw n) (_:bg n) (_:i0<length n.aa) (v:Nat->Value):vcC pg 94 base aO 3000 (kbL []) (sq1 fT) (bu (bt [3] v (zn i0 n))) (bA []) 0 (bQ [⟨True,.normal,bt [3] v (zo i0 n),[],[]⟩]) zBF:=
 aZ (an (a1 a0)
 (lf (wy [⟨True,.normal,bt [3] v [(0,.pf (aR n)),(3,.sr 0 1 0 (length (map ak n.aa))),(22,.sl 2 (map ak n.aa)),(23,I (length (map ak n.aa):Int)),(24,I (i0:Int)),(25,B (zj i0 n))],[],[]⟩] 0) 0 trivial))
 (by kernel_rfl)
theorem ZY (n:Net) (i0:Nat) (hn:bw n) (hf:bg n) (hx0:i0<length n.aa) (ob:List Ob):Piece pg 94 0 (sq1 fT) (zn i0 n) ob .normal (zo i0 n) ob:=
 b7 [3] (by kernel_rfl) rfl (by repeat' first|exact bq|refine mqc ?_ ?_|exact .inl rfl|exact .inr (by simp [AV.pure])) (by repeat' first|exact bq|refine mqc ?_ ?_|exact .inl ⟨rfl,rfl⟩|exact .inr ⟨rfl,by simp [AV.pure]⟩) fun v=>cQ (aS aw mixed (az _)) (TR n i0 hn hf hx0 v) (aQ rfl rfl rfl (by simp [bt,plS,AV.pure]) rfl)
abbrev zy (i0:Nat) (n:Net):Am.Loc:=[(0,.pf (aR n)),(3,.sr 0 1 0 (zY n)),(22,.sl 2 (zA n)),(23,I (length (zA n):Int)),(24,I (i0:Int)),(25,B true)]
theorem TS (n:Net) (i0:Nat) (_:bw n) (hf:bg n) (hx0:i0<length n.aa) (v:Nat->Value):vcC pg 94 base aO 3000 (kbL []) (sq1 (sq2 fT)) (bu (bt [3] v (zo i0 n))) (bA []) 0 (bQ [⟨True,.normal,bt [3] v (zy i0 n),[],[]⟩]) (.yes (.pick 0)):=
 have hr:=hf.rules;have hs:=hf.aa;have hed:=hf.aj _ (ay hx0);have l1:=aW ak (n.aa);have hb:(zj i0 n)=true:=decide_eq_true (by omega);aZ (an hb (lf (wy [⟨True,.normal,bt [3] v [(0,.pf (aR n)),(3,.sr 0 1 0 (length (map ak n.aa))),(22,.sl 2 (map ak n.aa)),(23,I (length (map ak n.aa):Int)),(24,I (i0:Int)),(25,B true)],[],[]⟩] 0) 0 trivial))
 (by kernel_rfl)
theorem ZZ (n:Net) (i0:Nat) (hn:bw n) (hf:bg n) (hx0:i0<length n.aa) (ob:List Ob):Piece pg 94 0 (sq1 (sq2 fT)) (zo i0 n) ob .normal (zy i0 n) ob:=
 b7 [3] (by kernel_rfl) rfl (by repeat' first|exact bq|refine mqc ?_ ?_|exact .inl rfl|exact .inr (by simp [AV.pure])) (by repeat' first|exact bq|refine mqc ?_ ?_|exact .inl ⟨rfl,rfl⟩|exact .inr ⟨rfl,by simp [AV.pure]⟩) fun v=>cQ (aS aw mixed (az _)) (TS n i0 hn hf hx0 v) (aQ rfl rfl rfl (by simp [bt,plS,AV.pure]) rfl)
abbrev zBd:=(ng (sq1 (sq2 (sq2 fT))))
theorem TT (n:Net) (i0:Nat) (_:bw n) (hf:bg n) (hx0:i0<length n.aa) (v:Nat->Value):vcC pg 94 base aO 3000 (kbL []) (sq1 zBd) (bu (bt [3] v (zy i0 n))) (bA []) 0 (bQ [⟨True,.normal,bt [3] v [(0,.pf (aR n)),(3,.sr 0 1 0 (zY n)),(4,I (i0:Int)),(5,.pt 0 0),(22,.sl 2 (zA n)),(23,I (length (zA n):Int)),(24,I (i0:Int)),(25,B true),(26,I (i0:Int)),(27,.pf (zI i0 n)),(28,.ag (zI i0 n))],[0],[.box 40 (zI i0 n)]⟩]) (.r [.row (zI i0 n),bT] (.pick 0)):=
 have hr:=hf.rules;have hs:=hf.aa;have hed:=hf.aj _ (ay hx0);aZ (an (ac (bR ak (l:=n.aa) (i:=i0) (by omega)) a0)
 (lf (wy [⟨True,.normal,bt [3] v [(0,.pf (aR n)),(3,.sr 0 1 0 (length (map ak n.aa))),(4,I (i0:Int)),(5,.pt 0 0),(22,.sl 2 (map ak n.aa)),(23,I (length (map ak n.aa):Int)),(24,I (i0:Int)),(25,B true),(26,I (i0:Int)),(27,.pf (ak (ah n.aa i0))),(28,.ag (ak (ah n.aa i0)))],[0],[.box 40 (ak (ah n.aa i0))]⟩] 0) 1 trivial))
 (by kernel_rfl)
abbrev zq (i0:Nat) (n:Net):Am.Loc:=[(0,.pf (aR n)),(3,.sr 0 1 0 (zY n)),(4,I (i0:Int)),(5,.pf (zI i0 n)),(22,.sl 2 (zA n)),(23,I (length (zA n):Int)),(24,I (i0:Int)),(25,B true),(26,I (i0:Int)),(27,.pf (zI i0 n)),(28,.ag (zI i0 n))]
theorem Z0 (n:Net) (i0:Nat) (hn:bw n) (hf:bg n) (hx0:i0<length n.aa) (ob:List Ob):Piece pg 94 0 (sq1 zBd) (zy i0 n) ob .normal (zq i0 n) ob:=
 b7 [3] (by kernel_rfl) rfl (by repeat' first|exact bq|refine mqc ?_ ?_|exact .inl rfl|exact .inr (by simp [AV.pure])) (by repeat' first|exact bq|refine mqc ?_ ?_|exact .inl ⟨rfl,rfl⟩|exact .inr ⟨rfl,by simp [AV.pure]⟩) fun v=>fP (fe.refl _ _) (cQ (aS aw mixed (az _)) (TT n i0 hn hf hx0 v) (aQ rfl rfl rfl (by simp [bt,plS,AV.pure]) (by simp [plO]))) (vL (ob:=[]) (Tb:=40) (cells:=(ak (ah n.aa i0))) (Nat.zero_le _) (L' :=bt [3] v [(0,.pf (aR n)),(3,.sr 0 1 0 (length (map ak n.aa))),(4,I (i0:Int)),(5,.pf (ak (ah n.aa i0))),(22,.sl 2 (map ak n.aa)),(23,I (length (map ak n.aa):Int)),(24,I (i0:Int)),(25,B true),(26,I (i0:Int)),(27,.pf (ak (ah n.aa i0))),(28,.ag (ak (ah n.aa i0)))]) (by repeat' first|exact bq|refine mqc ?_ ?_|exact .inl ⟨rfl,rfl⟩|exact .inl ⟨rfl,aI _ _ (by simp [AV.pure])⟩|exact .inr ⟨rfl,rfl,aI _ _ (by simp [AV.pure])⟩) rfl) rfl
abbrev zAc (i0:Nat) (n:Net):Am.Loc:=[(0,.pf (aR n)),(3,.sr 0 1 0 (zY n)),(4,I (i0:Int)),(22,.sl 2 (zA n)),(23,I (length (zA n):Int)),(24,I (i0:Int)),(30,.sl 10 (zd i0 n)),(31,I (length (zd i0 n):Int)),(32,I 0)]
theorem TU (n:Net) (i0:Nat) (_:bw n) (_:bg n) (_:i0<length n.aa) (v:Nat->Value):vcC pg 94 base aO 3000 (kbL []) (sq1 (sq2 zBd)) (bu (bt [3] v (zq i0 n))) (bA []) 0 (bQ [⟨True,.normal,bt [3] v (zAc i0 n),[],[]⟩]) zv:=
 aZ (an a0
 (lf (wy [⟨True,.normal,bt [3] v [(0,.pf (aR n)),(3,.sr 0 1 0 (length (map ak n.aa))),(4,I (i0:Int)),(22,.sl 2 (map ak n.aa)),(23,I (length (map ak n.aa):Int)),(24,I (i0:Int)),(30,.sl 10 (map bc (ah n.aa i0).aj)),(31,I (length (map bc (ah n.aa i0).aj):Int)),(32,I 0)],[],[]⟩] 0) 0 trivial))
 (by kernel_rfl)
theorem Z1 (n:Net) (i0:Nat) (hn:bw n) (hf:bg n) (hx0:i0<length n.aa) (ob:List Ob):Piece pg 94 0 (sq1 (sq2 zBd)) (zq i0 n) ob .normal (zAc i0 n) ob:=
 b7 [3] (by kernel_rfl) rfl (by repeat' first|exact bq|refine mqc ?_ ?_|exact .inl rfl|exact .inr (by simp [AV.pure])) (by repeat' first|exact bq|refine mqc ?_ ?_|exact .inl ⟨rfl,rfl⟩|exact .inr ⟨rfl,by simp [AV.pure]⟩) fun v=>cQ (aS aw mixed (az _)) (TU n i0 hn hf hx0 v) (aQ rfl rfl rfl (by simp [bt,plS,AV.pure]) rfl)
abbrev zAR (i0:Nat) (n:Net):Am.Loc:=[(0,.pf (aR n)),(3,.sr 0 1 0 (zY n)),(4,I (i0:Int)),(22,.sl 2 (zA n)),(23,I (length (zA n):Int)),(24,I (i0:Int)),(30,.sl 10 (zd i0 n)),(31,I (length (zd i0 n):Int)),(32,I (((zBT i0 n):Nat):Int))]
theorem TV (n:Net) (i0:Nat) (_:bw n) (hf:bg n) (hx0:i0<length n.aa) (v:Nat->Value):vcC pg 94 base aO 3000 (kbL []) JF (bu (bt [3] v (zAR i0 n))) (bA []) 0 (bQ [⟨True,(.exit 2),bt [3] v (zn i0 n),[],[]⟩]) zE:=
 have hr:=hf.rules;have hs:=hf.aa;have hed:=hf.aj _ (ay hx0);have l1:=aW bc ((ah n.aa i0).aj);have hb:(zz i0 n)=false:=decide_eq_false (by omega);aZ (an (a1 a0)
 (an hb (lf (wy [⟨True,(.exit 2),bt [3] v [(0,.pf (aR n)),(3,.sr 0 1 0 (length (map ak n.aa))),(22,.sl 2 (map ak n.aa)),(23,I (length (map ak n.aa):Int)),(24,I (i0:Int))],[],[]⟩] 0) 0 trivial)))
 (by kernel_rfl)
theorem Z2 (n:Net) (i0:Nat) (hn:bw n) (hf:bg n) (hx0:i0<length n.aa) (ob:List Ob):Piece pg 94 0 JF (zAR i0 n) ob (.exit 2) (zn i0 n) ob:=
 b7 [3] (by kernel_rfl) rfl (by repeat' first|exact bq|refine mqc ?_ ?_|exact .inl rfl|exact .inr (by simp [AV.pure])) (by repeat' first|exact bq|refine mqc ?_ ?_|exact .inl ⟨rfl,rfl⟩|exact .inr ⟨rfl,by simp [AV.pure]⟩) fun v=>cQ (aS aw mixed (az _)) (TV n i0 hn hf hx0 v) (aQ rfl rfl rfl (by simp [bt,plS,AV.pure]) rfl)
abbrev zBV (i0:Nat) (n:Net):Am.Loc:=[(0,.pf (aR n)),(3,.sr 0 1 0 (zY n)),(22,.sl 2 (zA n)),(23,I (length (zA n):Int)),(24,I ↑(i0+1))]
theorem TW (n:Net) (i0:Nat) (_:bw n) (hf:bg n) (hx0:i0<length n.aa) (v:Nat->Value):vcC pg 94 base aO 3000 (kbL []) (sq2 (sq2 (sq2 fT))) (bu (bt [3] v (zn i0 n))) (bA []) 0 (bQ [⟨True,.normal,bt [3] v (zBV i0 n),[],[]⟩]) (.r [.int ↑(i0+1),bT] (.pick 0)):=
 have hr:=hf.rules;have hs:=hf.aa;have hed:=hf.aj _ (ay hx0);aZ (an (ac (dwr (z:= ↑(i0+1)) (by omega) (by omega)) a0)
 (lf (wy [⟨True,.normal,bt [3] v [(0,.pf (aR n)),(3,.sr 0 1 0 (length (map ak n.aa))),(22,.sl 2 (map ak n.aa)),(23,I (length (map ak n.aa):Int)),(24,I ↑(i0+1))],[],[]⟩] 0) 0 trivial))
 (by kernel_rfl)
theorem Z3 (n:Net) (i0:Nat) (hn:bw n) (hf:bg n) (hx0:i0<length n.aa) (ob:List Ob):Piece pg 94 0 (sq2 (sq2 (sq2 fT))) (zn i0 n) ob .normal (zBV i0 n) ob:=
 b7 [3] (by kernel_rfl) rfl (by repeat' first|exact bq|refine mqc ?_ ?_|exact .inl rfl|exact .inr (by simp [AV.pure])) (by repeat' first|exact bq|refine mqc ?_ ?_|exact .inl ⟨rfl,rfl⟩|exact .inr ⟨rfl,by simp [AV.pure]⟩) fun v=>cQ (aS aw mixed (az _)) (TW n i0 hn hf hx0 v) (aQ rfl rfl rfl (by simp [bt,plS,AV.pure]) rfl)
abbrev zk (n:Net):Am.Loc:=[(0,.pf (aR n)),(3,.sr 0 1 0 (zY n)),(22,.sl 2 (zA n)),(23,I (length (zA n):Int)),(24,I (((zG n):Nat):Int)),(25,B (zBS n))]
abbrev zBL (n:Net):Am.Loc:=[(0,.pf (aR n)),(3,.sr 0 1 0 (zY n)),(22,.sl 2 (zA n)),(23,I (length (zA n):Int)),(24,I (((zG n):Nat):Int))]
theorem TX (n:Net) (_:bw n) (_:bg n) (v:Nat->Value):vcC pg 94 base aO 3000 (kbL []) (sq1 fT) (bu (bt [3] v (zBL n))) (bA []) 0 (bQ [⟨True,.normal,bt [3] v (zk n),[],[]⟩]) zBF:=
 aZ (an (a1 a0)
 (lf (wy [⟨True,.normal,bt [3] v [(0,.pf (aR n)),(3,.sr 0 1 0 (length (map ak n.aa))),(22,.sl 2 (map ak n.aa)),(23,I (length (map ak n.aa):Int)),(24,I (((length n.aa):Nat):Int)),(25,B (zO n))],[],[]⟩] 0) 0 trivial))
 (by kernel_rfl)
theorem Z4 (n:Net) (hn:bw n) (hf:bg n) (ob:List Ob):Piece pg 94 0 (sq1 fT) (zBL n) ob .normal (zk n) ob:=
 b7 [3] (by kernel_rfl) rfl (by repeat' first|exact bq|refine mqc ?_ ?_|exact .inl rfl|exact .inr (by simp [AV.pure])) (by repeat' first|exact bq|refine mqc ?_ ?_|exact .inl ⟨rfl,rfl⟩|exact .inr ⟨rfl,by simp [AV.pure]⟩) fun v=>cQ (aS aw mixed (az _)) (TX n hn hf v) (aQ rfl rfl rfl (by simp [bt,plS,AV.pure]) rfl)
theorem TY (n:Net) (_:bw n) (hf:bg n) (v:Nat->Value):vcC pg 94 base aO 3000 (kbL []) (sq1 (sq2 fT)) (bu (bt [3] v (zk n))) (bA []) 0 (bQ [⟨True,(.exit 0),bt [3] v [(0,.pf (aR n)),(3,.sr 0 1 0 (zY n))],[],[]⟩]) (.no (.pick 0)):=
 have hr:=hf.rules;have hs:=hf.aa;have l1:=aW ak (n.aa);have hb:(zO n)=false:=decide_eq_false (by omega);aZ (an hb (lf (wy [⟨True,(.exit 0),bt [3] v [(0,.pf (aR n)),(3,.sr 0 1 0 (length (map ak n.aa)))],[],[]⟩] 0) 0 trivial))
 (by kernel_rfl)
theorem Z5 (n:Net) (hn:bw n) (hf:bg n) (ob:List Ob):Piece pg 94 0 (sq1 (sq2 fT)) (zk n) ob (.exit 0) [(0,.pf (aR n)),(3,.sr 0 1 0 (zY n))] ob:=
 b7 [3] (by kernel_rfl) rfl (by repeat' first|exact bq|refine mqc ?_ ?_|exact .inl rfl|exact .inr (by simp [AV.pure])) (mqc (.inr ⟨rfl,by simp [AV.pure]⟩) (mqc (.inl ⟨rfl,rfl⟩) bq)) fun v=>cQ (aS aw mixed (az _)) (TY n hn hf v) (aQ rfl rfl rfl (by simp [bt,plS,AV.pure]) rfl)
def jt (n:Net) (i0 _:Nat) (l:List Int):List Int:=l++ [(i0:Int)]
abbrev zAa (i0 i2:Nat) (n:Net):Am.Loc:=[(0,.pf (aR n)),(3,.sr 0 1 0 (zY n)),(4,I (i0:Int)),(22,.sl 2 (zA n)),(23,I (length (zA n):Int)),(24,I (i0:Int)),(30,.sl 10 (zd i0 n)),(31,I (length (zd i0 n):Int)),(32,I ↑(i2+1))]
abbrev zCC (i0 i2:Nat) (n:Net):=(((zAF i0 i2 n).to).toNat)
def tR (n:Net) (i0 i2:Nat) (xs:List Value) (l:List Int):gP:=⟨(jt n i0 i2 l)=(l++ [(i0:Int)]),.normal,(zAa i0 i2 n),[0,3],4,[.row 36 1 (aJ (List.set (vs xs) (zCC i0 i2 n) (.sr 1 1 0 (length (l++ [(i0:Int)]))))),.row 3 1 (map aL (l++ [(i0:Int)]))],[.row 36 1 (aJ (List.set (vs xs) (zCC i0 i2 n) (.sr 3 1 0 (length (l++ [(i0:Int)]))))),.row 3 1 (map aL (l++ [(i0:Int)]))]⟩
abbrev zAg (i0 i2:Nat) (n:Net):Am.Loc:=[(0,.pf (aR n)),(3,.sr 0 1 0 (zY n)),(4,I (i0:Int)),(22,.sl 2 (zA n)),(23,I (length (zA n):Int)),(24,I (i0:Int)),(30,.sl 10 (zd i0 n)),(31,I (length (zd i0 n):Int)),(32,I (i2:Int))]
theorem Z6 (n:Net) (i0 i2:Nat) (xs:List Value) (l:List Int) (hn:bw n) (hf:bg n) (hx0:i0<length n.aa) (hx2:i2<length (ah n.aa i0).aj) (hl1:length xs=(length n.aa)) (hr1:length l<=i0*1000000+i2):vcC pg 94 base aO 3000 (kbL []) JF (bu (zAg i0 i2 n)) (bA [.row 36 1 (aJ (List.set (vs xs) (zCC i0 i2 n) (.sr 1 1 0 (zBl l)))),.row 3 1 (zCR l)]) 2 (Tq [(tR n i0 i2 xs l)]) (.r [.k,bT] (.yes (.r [.row (bc (zAF i0 i2 n)),bT] (.r [.cC (zCC i0 i2 n) [],.at (zCC i0 i2 n) 0 [.sr 1 1 0 (zBl l)],.cC (zCC i0 i2 n) [],.at (zCC i0 i2 n) 0 [.sr 1 1 0 (zBl l)],bT] (.r (zAm i2) (.pick 0)))))):=
 have hr:=hf.rules;have hs:=hf.aa;have lms:=aW ak n.aa;have hed:=hf.aj _ (ay hx0);have hto:=hn.to _ (ay hx0) _ (ay hx2);have l1:=aW bc ((ah n.aa i0).aj);have hb:(zAd i0 i2 n)=true:=decide_eq_true (by omega);
 aZ (an (a1 a0)
 (an hb (an (ac (bR bc (l:=(ah n.aa i0).aj) (i:=i2) (by omega)) a0)
 (have l2:=aW ak (n.aa);an (ac (stN (rfl:(aJ (List.set (vs xs) (((ah (ah n.aa i0).aj i2).to).toNat) (.sr 1 1 0 (length l))))=(aJ (List.set (vs xs) (((ah (ah n.aa i0).aj i2).to).toNat) (.sr 1 1 0 (length l))))) (by omega)) (ac (ixI (x:=(ah (ah n.aa i0).aj i2).to) (n:=length (map ak n.aa)) (by omega) (by omega)) (ac (apL (k:=length l) (B:=8) (rfl:map aL l=map aL l) (by first|omega|(simp only [List.length_map,List.length_set,List.length_append,List.length_take,List.length_cons,List.length_nil];omega)) (by omega) (by omega)) (ac (atN (rfl:(aJ (List.set (vs xs) (((ah (ah n.aa i0).aj i2).to).toNat) (.sr 1 1 0 (length l))))=(aJ (List.set (vs xs) (((ah (ah n.aa i0).aj i2).to).toNat) (.sr 1 1 0 (length l))))) (by omega)) (ac (ixI (x:=(ah (ah n.aa i0).aj i2).to) (n:=length (map ak n.aa)) (by omega) (by omega)) a0)))))
 (an (ac (dwr (z:= ↑(i2+1)) (by omega) (by omega)) a0)
 (lfN (tR n i0 i2 xs l) (show (jt n i0 i2 l)=(l++ [(i0:Int)]) from rfl) (bp ((congrArg (fun z=>Ob.row 36 1 z) (pD (rfl:(aJ (List.set (vs xs) (((ah (ah n.aa i0).aj i2).to).toNat) (.sr 1 1 0 (length l))))=(aJ (List.set (vs xs) (((ah (ah n.aa i0).aj i2).to).toNat) (.sr 1 1 0 (length l))))) (.sr 3 1 0 (length l+1)))).trans (congrArg (fun z=>Ob.row 36 1 (aJ (List.set (vs xs) (((ah (ah n.aa i0).aj i2).to).toNat) (.sr 3 1 0 z)))) (by simp))) (bp (congrArg (fun z=>Ob.row 3 1 z) (apF (f:=aL) (rfl:map aL l=map aL l) (k:=length l) (by first|rfl|(simp only [List.length_map,List.length_set,List.length_append] at*;omega)) (i0:Int))) eR))))))))
 (by kernel_rfl)
theorem Z7 (n:Net) (i0 i2:Nat) (xs:List Value) (l:List Int) (hn:bw n) (hf:bg n) (hx0:i0<length n.aa) (hx2:i2<length (ah n.aa i0).aj) (hl1:length xs=(length n.aa)) (hr1:length l<=i0*1000000+i2):Piece pg 94 1 JF (zAg i0 i2 n) [.row 36 1 (aJ (List.set (vs xs) (zCC i0 i2 n) (.sr 1 1 0 (zBl l)))),.row 3 1 (zCR l)] .normal (zAa i0 i2 n) [.row 36 1 (aJ (List.set (vs xs) (zCC i0 i2 n) (.sr 1 1 0 (length (jt n i0 i2 l))))),.row 3 1 (map aL (jt n i0 i2 l))]:=
 LM (aS aw mixed (az _)) (Z6 n i0 i2 xs l hn hf hx0 hx2 hl1 hr1) (ei (o:=(tR n i0 i2 xs l)) (oI rfl rfl rfl (by simp [tR,plS,AV.pure]) (bp ((eM (f:=(cj [0,3] 4)) (o:=1) (q:=3) rfl).symm) (bp ((cR (fQ _)).symm) eR))) vM) (fa (o:=(tR n i0 i2 xs l)) (fun h=>⟨rfl,rfl,(congrArg (fun z1=>([.row 36 1 (aJ (List.set (vs xs) (((ah (ah n.aa i0).aj i2).to).toNat) (.sr 1 1 0 (length z1)))),.row 3 1 (map aL z1)]:List Ob)) h).symm⟩) CC)
abbrev zCD (n:Net):=(map bY (gf n))
def Hu (n:Net):KB:=⟨[(0,.pf (aR n)),(3,.sr 0 1 0 (zY n)),(22,.sl 2 (zA n)),(23,I (length (zA n):Int)),(24,I 0)],[.row 36 1 (replicate (zY n) [.v (.slice none 0 0)])],false,.ret,[],[],.normal,[(0,.pf (aR n)),(3,.sl 1 (zCD n))],[],True⟩
theorem TZ (n:Net) (hn:bw n) (hf:bg n):dg pg 94 0 0 (.loop fT) (Hu n):=by
 skip
 have hl:=ry (P:=Tryz.prog) (n:=94) (K:=0) (d:=1) (S:=fun G=>[]++cw 0 36 3 (gV G)) (m:=length n.aa) (len:=fun i0=>length (ah n.aa i0).aj) (step:=fun i0 i2 G=>List.set G (Int.toNat (ah (ah n.aa i0).aj i2).to) (jt n i0 i2 (ah G (Int.toNat (ah (ah n.aa i0).aj i2).to)))) (I:=fun i k G=>G.length=length n.aa/\ ∀l∈G,l.length<=i*1000000+k) (s0:=replicate (length (map ak n.aa)) [])
  (fun i0 hx ob=>ZY n i0 hn hf hx ob) (fun i0 hx ob=>ZZ n i0 hn hf hx ob) (fun i0 hx ob=>Z0 n i0 hn hf hx ob) (fun i0 hx ob=>Z1 n i0 hn hf hx ob)
  (fun i0 i2 G hx0 hx2 hI=>⟨pin1 (base:=[]) (by rw [hI.1];have:=(hn.to _ (ay hx0) _ (ay hx2));omega) (by kernel_rfl) rfl (mqc (aI _ _ (by simp [AV.pure])) (mqc rfl (mqc (aI _ _ (by simp [AV.pure])) (mqc (aI _ _ (by simp [AV.pure])) (mqc (aI _ _ (by simp [AV.pure])) (mqc (aI _ _ (by simp [AV.pure])) (mqc (aI _ _ (by simp [AV.pure])) (mqc (aI _ _ (by simp [AV.pure])) (mqc (aI _ _ (by simp [AV.pure])) bq))))))))) (mqc (aI _ _ (by simp [AV.pure])) (mqc rfl (mqc (aI _ _ (by simp [AV.pure])) (mqc (aI _ _ (by simp [AV.pure])) (mqc (aI _ _ (by simp [AV.pure])) (mqc (aI _ _ (by simp [AV.pure])) (mqc (aI _ _ (by simp [AV.pure])) (mqc (aI _ _ (by simp [AV.pure])) (mqc (aI _ _ (by simp [AV.pure])) bq))))))))) (by simp []) bq (fun xs hxs=>Z7 n i0 i2 xs (ah G (Int.toNat (ah (ah n.aa i0).aj i2).to)) hn hf hx0 hx2 (hxs.trans hI.1) (hI.2 _ (ay (by rw [hI.1];have:=(hn.to _ (ay hx0) _ (ay hx2));omega)))),yK hI (by omega) (by have hgl:=(show (jt n i0 i2 (ah G (Int.toNat (ah (ah n.aa i0).aj i2).to))).length<=(ah G (Int.toNat (ah (ah n.aa i0).aj i2).to)).length+1 by unfold jt;rw [List.length_append];exact Nat.le_refl _);have hgm:=hI.2 _ (ay (i:=(Int.toNat (ah (ah n.aa i0).aj i2).to)) (by rw [hI.1];have:=(hn.to _ (ay hx0) _ (ay hx2));omega));omega)⟩)
  (fun i0 hx ob=>Z2 n i0 hn hf hx ob) (fun i0 hx ob=>Z3 n i0 hn hf hx ob) (fun ob=>Z4 n hn hf ob) (fun ob=>Z5 n hn hf ob)
  ⟨by simp,yL _⟩ (fun i G hi hI=>⟨hI.1,fun l hl=>Nat.le_trans (hI.2 l hl) (by have:=hf.aj _ (ay hi);omega)⟩)
 rw [<-TQ] at hl
 have hG:aJ (jj (gV (gO (fun i0 i2 G=>List.set G (Int.toNat (ah (ah n.aa i0).aj i2).to) (jt n i0 i2 (ah G (Int.toNat (ah (ah n.aa i0).aj i2).to)))) (fun i0=>length (ah n.aa i0).aj) (replicate (length (map ak n.aa)) []) (length n.aa))))=map bY (gf n):=by
  rw [aW]
  show aJ (jj (gV (tQ n)))=_
  rw [tK,gf]
  exact rA _ fun R hR c hc=>by
   obtain ⟨t,_,rfl⟩:=ck hR
   obtain ⟨p,_,_,rfl⟩:=(vO hn.to t c).1 hc
   omega
 have hlen:length (gO (fun i0 i2 G=>List.set G (Int.toNat (ah (ah n.aa i0).aj i2).to) (jt n i0 i2 (ah G (Int.toNat (ah (ah n.aa i0).aj i2).to)))) (fun i0=>length (ah n.aa i0).aj) (replicate (length (map ak n.aa)) []) (length n.aa))=length (map ak n.aa):=by
  rw [aW]
  exact (Ft n)
 exact Fj (base:=[]) hl (by simp []) hG (mqc (.inl ⟨rfl,(aI _ _ (by simp [AV.pure]))⟩) (mqc (.inr ⟨by rw [hlen];rfl,rfl⟩) bq))
def CS:Code:=bV 4 (aH 29)
def JG:Code:=bV 6 CS
def vP (n:Net) (i4:Nat) (_:List Bool) (i6:Nat) (y6:List Bool):List Bool:=(bif (ah y6 i6) then List.set y6 i6 true else List.set y6 i6 (ah (fp n (ah n.rules i4).stop) i6))
def cL (n:Net) (i4:Nat) (y4:List Bool) (kk:Nat):List Bool:=Nat.rec (motive:=fun _=>List Bool) (List.set y4 (((ah n.rules i4).stop).toNat) true) (fun j a=>vP n i4 y4 j a) kk
theorem Hv (n:Net) (i4:Nat) (y4:List Bool) (i:Nat):length (cL n i4 y4 i)=length y4:=by
 induction i with
 |zero=>show (List.set _ _ _).length=_;simp
 |succ i ih=>
  show length (vP n i4 y4 i (cL n i4 y4 i))=_
  unfold vP
  simp only [Bool.cond_eq_ite]
  first
   |rw [List.length_set,ih]
   |(split<;>simp [ih])
abbrev zAZ (i4:Nat) (n:Net):=(fp n (ah n.rules i4).stop)
def tS (n:Net) (i4:Nat) (_:List Bool) (i6:Nat):Am.Loc:=[(3,.sl 1 (zCD n)),(8,.sr 0 1 0 (zY n)),(59,.sl 9 (zc n)),(60,I (length (zc n):Int)),(61,I (i4:Int)),(72,.sl 1 (map aq (zAZ i4 n))),(73,I (length (map aq (zAZ i4 n)):Int)),(74,I (i6:Int))]
def oO (n:Net) (i4:Nat) (y4:List Bool) (i6:Nat):List Ob:=[.row 4 1 (map aq (cL n i4 y4 i6)),.box 51 (aD (ah n.rules i4))]
def CT (n:Net) (_:Nat) (_:List Bool) (_:Nat):Bool:=false
def Ww (n:Net) (_:Nat) (_:List Bool):Bool:=false
def CU (n:Net) (_:Nat) (_:List Bool) (_:Nat):Am.Loc:=[]
def CV (n:Net) (_:Nat) (_:List Bool) (_:Nat):List Ob:=[]
abbrev zBQ (i4:Nat) (n:Net):Am.Loc:=[(3,.sl 1 (zCD n)),(8,.sr 0 1 0 (zY n)),(59,.sl 9 (zc n)),(60,I (length (zc n):Int)),(61,I (i4:Int))]
def oP (n:Net) (i4:Nat) (_:List Bool):Am.Loc:=(zBQ i4 n)
def oQ (n:Net) (i4:Nat) (y4:List Bool):List Ob:=[.row 4 1 (map aq (cL n i4 y4 (length (zAZ i4 n)))),.box 51 (aD (ah n.rules i4))]
def vQ (n:Net) (i4:Nat) (y4:List Bool):KB:=⟨tS n i4 y4 0,oO n i4 y4 0,Ww n i4 y4,.ret,CU n i4 y4 (cc (length (zAZ i4 n)) (CT n i4 y4)),CV n i4 y4 (cc (length (zAZ i4 n)) (CT n i4 y4)),.normal,oP n i4 y4,oQ n i4 y4,True⟩
abbrev zAJ (i4 i6:Nat) (n:Net):Am.Loc:=[(3,.sl 1 (zCD n)),(8,.sr 0 1 0 (zY n)),(59,.sl 9 (zc n)),(60,I (length (zc n):Int)),(61,I (i4:Int)),(72,.sl 1 (map aq (zAZ i4 n))),(73,I (length (map aq (zAZ i4 n)):Int)),(74,I ↑(i6+1))]
def Fv (n:Net) (i4:Nat) (y4:List Bool) (i6:Nat):List bj:=[nxW (CT n i4 y4 i6) (tS n i4 y4 (i6+1)) (oO n i4 y4 (i6+1)) (zAJ i4 i6 n) zBJ [.row 4 1 (map aq (List.set (cL n i4 y4 i6) i6 true)),.box 51 (aD (ah n.rules i4))],nxW (CT n i4 y4 i6) (tS n i4 y4 (i6+1)) (oO n i4 y4 (i6+1)) (zAJ i4 i6 n) zBJ [.row 4 1 (map aq (List.set (cL n i4 y4 i6) i6 (ah (zAZ i4 n) i6))),.box 51 (aD (ah n.rules i4))]]
def XW (n:Net) (i4:Nat) (y4:List Bool) (i6:Nat):GT:=(.r [.k,bT] (.yes (.r [.row (aq (ah (fp n (ah n.rules i4).stop) i6)),bT] (.a (.r [.at i6 0 (aq (ah (cL n i4 y4 i6) i6)),bF,.at i6 0 (aq (ah (cL n i4 y4 i6) i6)),bT] (.r [.int ↑(i6+1),bT] (.pick 0))) (.r [.at i6 0 (aq (ah (cL n i4 y4 i6) i6)),bT,.at i6 0 (aq (ah (cL n i4 y4 i6) i6)),bT] (.r [.int ↑(i6+1),bT] (.pick 1)))))))
theorem Z8 (n:Net) (i4:Nat) (y4:List Bool) (i6:Nat) (_:bw n) (hf:bg n) (_:i4<(length n.rules)) (hy4:length y4=length n.aa) (hx6:i6<(length (fp n (ah n.rules i4).stop))):vcC pg 94 base aO 3000 (kbL []) JG (bu (tS n i4 y4 i6)) (bA (oO n i4 y4 i6)) 2 (bQ (Fv n i4 y4 i6)) (XW n i4 y4 i6):=
 have hr:=hf.rules;have hs:=hf.aa;have hgl:=(Hv n i4 y4 i6).trans hy4;have hbl:=lI n (ah n.rules i4).stop;have lbb:=aW aq (fp n (ah n.rules i4).stop);have lms:=aW ak n.aa;have l1:=aW aq ((fp n (ah n.rules i4).stop));have hb:(decide ((i6:Int)<(length (map aq (fp n (ah n.rules i4).stop)):Int)))=true:=decide_eq_true (by omega);
 aZ (an (a1 a0)
 (an hb (an (ac (bR aq (l:=fp n (ah n.rules i4).stop) (i:=i6) (by omega)) a0)
 (aP (fun (h1:((ah (cL n i4 y4 i6) i6))=true)=>
 (an (ac (stL (S:=1) (f:=0) (k:=1) (z:=i6) (rfl:map aq (cL n i4 y4 i6)=map aq (cL n i4 y4 i6)) (by decide) (by omega) rfl) (ac (ixL (z:=i6) (n:=length (map ak n.aa)) (by omega)) (ac (n2 h1) (ac (atL (S:=1) (f:=0) (z:=i6) (rfl:map aq (cL n i4 y4 i6)=map aq (cL n i4 y4 i6)) (by decide) (by omega)) (ac (ixL (z:=i6) (n:=length (map ak n.aa)) (by omega)) a0)))))
 (an (ac (dwr (z:= ↑(i6+1)) (by omega) (by omega)) a0)
 (lfE (wy (Fv n i4 y4 i6) 0) 2 ⟨(show CT n i4 y4 i6=false from rfl),rfl,(by rw [show oO n i4 y4 (i6+1)=(fun y6:List Bool=>([.row 4 1 (map aq y6),.box 51 (aD (ah n.rules i4))]:List Ob)) (cL n i4 y4 (i6+1)) from rfl,(show cL n i4 y4 (i6+1)=(List.set (cL n i4 y4 i6) i6 true) from (cdT h1 rfl))])⟩ (bp (congrArg (fun z=>Ob.row 4 1 z) (lz (f:=aq) (rfl:map aq (cL n i4 y4 i6)=map aq (cL n i4 y4 i6)) i6 true)) (bp (rfl:(.box 51 (aD (ah n.rules i4)):Ob)= .box 51 (aD (ah n.rules i4))) eR)))))) (fun h1=>
 (an (ac (stL (S:=1) (f:=0) (k:=1) (z:=i6) (rfl:map aq (cL n i4 y4 i6)=map aq (cL n i4 y4 i6)) (by decide) (by omega) rfl) (ac (ixL (z:=i6) (n:=length (map ak n.aa)) (by omega)) (ac (au h1) (ac (atL (S:=1) (f:=0) (z:=i6) (rfl:map aq (cL n i4 y4 i6)=map aq (cL n i4 y4 i6)) (by decide) (by omega)) (ac (ixL (z:=i6) (n:=length (map ak n.aa)) (by omega)) a0)))))
 (an (ac (dwr (z:= ↑(i6+1)) (by omega) (by omega)) a0)
 (lfE (wy (Fv n i4 y4 i6) 1) 2 ⟨(show CT n i4 y4 i6=false from rfl),rfl,(by rw [show oO n i4 y4 (i6+1)=(fun y6:List Bool=>([.row 4 1 (map aq y6),.box 51 (aD (ah n.rules i4))]:List Ob)) (cL n i4 y4 (i6+1)) from rfl,(show cL n i4 y4 (i6+1)=(List.set (cL n i4 y4 i6) i6 (ah (fp n (ah n.rules i4).stop) i6)) from (cdF h1 rfl))])⟩ (bp (congrArg (fun z=>Ob.row 4 1 z) (lz (f:=aq) (rfl:map aq (cL n i4 y4 i6)=map aq (cL n i4 y4 i6)) i6 (ah (fp n (ah n.rules i4).stop) i6))) (bp (rfl:(.box 51 (aD (ah n.rules i4)):Ob)= .box 51 (aD (ah n.rules i4))) eR))))))))))
 (by kernel_rfl)
theorem Z9 (n:Net) (i4:Nat) (y4:List Bool) (_:bw n) (hf:bg n) (_:i4<(length n.rules)) (_:length y4=length n.aa):vcC pg 94 base aO 3000 (kbL []) JG (bu (tS n i4 y4 (length (zAZ i4 n)))) (bA (oO n i4 y4 (length (zAZ i4 n)))) 2 (bQ [⟨True,(.exit 6),oP n i4 y4,range 2,oQ n i4 y4⟩]) zE:=
 have hr:=hf.rules;have hs:=hf.aa;have hbl:=lI n (ah n.rules i4).stop;have l1:=aW aq ((fp n (ah n.rules i4).stop));have hb:(decide ((((length (fp n (ah n.rules i4).stop)):Nat):Int)<(length (map aq (fp n (ah n.rules i4).stop)):Int)))=false:=decide_eq_false (by omega);
 aZ (an (a1 a0)
 (an hb (lf (wy [⟨True,(.exit 6),oP n i4 y4,range 2,oQ n i4 y4⟩] 0) 2 trivial)))
 (by kernel_rfl)
theorem T0 (n:Net) (i4:Nat) (y4:List Bool) (i6:Nat):(Fv n i4 y4 i6).all zr=true:=by refine (aF (aQ rfl rfl rfl ?_ ?_) (aF (aQ rfl rfl rfl ?_ ?_) bD))<;>simp (maxDischargeDepth:=9) [nxW,tS,plS,AV.pure,oO,plO]
theorem T1 (n:Net) (i4:Nat) (y4:List Bool):bj.b8 0 ⟨True,(.exit 6),oP n i4 y4,range 2,oQ n i4 y4⟩=true:=by refine (aQ rfl rfl rfl ?_ ?_)<;>simp (maxDischargeDepth:=9) [oP,plS,AV.pure,oQ,plO]
theorem T2 (n:Net) (i4:Nat) (y4:List Bool) (hn:bw n) (hf:bg n) (hx4:i4<(length n.rules)) (hy4:length y4=length n.aa):dg pg 94 0 6 (.loop JG) (vQ n i4 y4):=
 have hr:=hf.rules;have hs:=hf.aa;mj (fun _=>e9 (id:=6) (m:=length (fp n (ah n.rules i4).stop)) (t:=CT n i4 y4) (xr:= .ret) (xn:=(.exit 6)) (Lr:=CU n i4 y4) (Lx:=oP n i4 y4) (obr:=CV n i4 y4) (obx:=oQ n i4 y4) (V:=fun i6=>vcC pg 94 base aO 3000 (kbL []) JG) (tS n i4 y4) (oO n i4 y4) 2 (Fv n i4 y4) (XW n i4 y4) _ _ (fun i6 hx6=>aS aw mixed (az _)) (aS aw mixed (az _)) (fun e=>by cases e) (fun e=>by cases e) (fun _=>rfl) (fun i6 hx6=>Z8 n i4 y4 i6 hn hf hx4 hy4 hx6) (fun i6 _=>T0 n i4 y4 i6) (fun i6 _=>show∀ww∈Fv n i4 y4 i6,cy _ _ _ _ _ _ ww from (aG cg (aG cg bG))) (Z9 n i4 y4 hn hf hx4 hy4) (T1 n i4 y4)) (fun _=>rfl) rfl (fun h=>h)
def LS (n:Net) (i4:Nat) (y4:List Bool):List Bool:=(cL n i4 y4 (length (fp n (ah n.rules i4).stop)))
def dH (n:Net) (kk:Nat):List Bool:=Nat.rec (motive:=fun _=>List Bool) (replicate (length (map ak n.aa)) false) (fun j a=>LS n j a) kk
theorem pw (n:Net) (i:Nat):length (dH n i)=length n.aa:=by
 induction i with
 |zero=>show (replicate _ false).length=_;simp
 |succ i ih=>
  show length (LS n i (dH n i))=_
  unfold LS
  rw [Hv,ih]
def CW (n:Net) (i4:Nat):Am.Loc:=(zBQ i4 n)
def xu (n:Net) (i4:Nat):List Ob:=[.row 4 1 (map aq (dH n i4))]
def JH (n:Net) (_:Nat):Bool:=false
def Wx (n:Net):Bool:=false
def Hw (n:Net) (_:Nat):Am.Loc:=[]
def Hx (n:Net) (_:Nat):List Ob:=[]
def rB (n:Net):Am.Loc:=[(8,.sr 0 1 0 (zY n))]
def rC (n:Net):List Ob:=[.row 4 1 (map aq (dH n (zU n)))]
def CX (n:Net):KB:=⟨CW n 0,xu n 0,Wx n,.ret,Hw n (cc (zU n) (JH n)),Hx n (cc (zU n) (JH n)),.normal,rB n,rC n,True⟩
def JI (n:Net) (i4:Nat):List bj:=[nxW (JH n i4) (CW n (i4+1)) (xu n (i4+1)) [(3,.sl 1 (zCD n)),(8,.sr 0 1 0 (zY n)),(59,.sl 9 (zc n)),(60,I (length (zc n):Int)),(61,I ↑(i4+1))] zAU [.row 4 1 (map aq (cL n i4 (dH n i4) (length (zAZ i4 n))))]]
def XX (n:Net) (i4:Nat):GT:=(.r [.k,bT] (.yes (.r [.row (aD (ah n.rules i4)),bT] (.r [.cC (((ah n.rules i4).stop).toNat) [],.at (((ah n.rules i4).stop).toNat) 0 (aq (ah (dH n i4) (((ah n.rules i4).stop).toNat))),bT] (.r [.int 0,bT] (.no (.r [.int ↑(i4+1),bT] (.pick 0))))))))
theorem aaa (n:Net) (i4:Nat) (hn:bw n) (hf:bg n) (hx4:i4<(length n.rules)):vcC pg 94 (bC [TP n (ah n.rules i4).stop] base) aO 3000 (kbL [(6,vQ n i4 (dH n i4))]) CS (bu (CW n i4)) (bA (xu n i4)) 1 (bQ (JI n i4)) (XX n i4):=
 have hr:=hf.rules;have hs:=hf.aa;have hgl:=pw n i4;have ht:=hn.stop _ (ay hx4);have hbl:=lI n (ah n.rules i4).stop;have l1:=aW aD (n.rules);have hb:(decide ((i4:Int)<(length (map aD n.rules):Int)))=true:=decide_eq_true (by omega);
 aZ (an (a1 a0)
 (an hb (an (ac (bR aD (l:=n.rules) (i:=i4) (by omega)) a0)
 (have l2:=aW ak (n.aa);an (ac (stL (S:=1) (f:=0) (k:=1) (z:=((ah n.rules i4).stop).toNat) (rfl:map aq (dH n i4)=map aq (dH n i4)) (by decide) (by omega) rfl) (ac (ixI (x:=(ah n.rules i4).stop) (n:=length (map ak n.aa)) (by omega) (by omega)) a0))
 (an (cA (g59b n (ah n.rules i4).stop) ⟨hn,hf,by omega⟩ a0)
 (an (IK (vQ n i4 (dH n i4)) (S:=nm (KB.L0 (vQ n i4 (dH n i4)))) rfl (bp (congrArg (fun z=>Ob.row 4 1 z) (lz (f:=aq) (rfl:map aq (dH n i4)=map aq (dH n i4)) (((ah n.rules i4).stop).toNat) true)) (bp (rfl:(.box 51 (aD (ah n.rules i4)):Ob)= .box 51 (aD (ah n.rules i4))) eR)) trivial) (an (rfl:false=false) (an (ac (dwr (z:= ↑(i4+1)) (by omega) (by omega)) a0)
 (lf (wy (JI n i4) 0) 2 ⟨(show JH n i4=false from rfl),rfl,(by rw [show xu n (i4+1)=(fun y4:List Bool=>([.row 4 1 (map aq y4)]:List Ob)) (dH n (i4+1)) from rfl,(show dH n (i4+1)=(cL n i4 (dH n i4) (length (fp n (ah n.rules i4).stop))) from rfl)])⟩)))))))))
 (by kernel_rfl)
theorem aab (n:Net) (_:bw n) (hf:bg n):vcC pg 94 base aO 3000 (kbL []) CS (bu (CW n (zU n))) (bA (xu n (zU n))) 1 (bQ [⟨True,(.exit 4),rB n,range 1,rC n⟩]) zE:=
 have hr:=hf.rules;have hs:=hf.aa;have l1:=aW aD (n.rules);have hb:(zH n)=false:=decide_eq_false (by omega);
 aZ (an (a1 a0)
 (an hb (lf (wy [⟨True,(.exit 4),rB n,range 1,rC n⟩] 0) 1 trivial)))
 (by kernel_rfl)
theorem T3 (n:Net) (i4:Nat):(JI n i4).all zr=true:=by refine (aF (aQ rfl rfl rfl ?_ ?_) bD)<;>simp (maxDischargeDepth:=9) [nxW,CW,plS,AV.pure,xu,plO]
theorem T4 (n:Net):bj.b8 0 ⟨True,(.exit 4),rB n,range 1,rC n⟩=true:=by refine (aQ rfl rfl rfl ?_ ?_)<;>simp (maxDischargeDepth:=9) [rB,plS,rC,plO]
theorem Hy:dB [6] CS=[(6,.loop JG)]:=by kernel_rfl
theorem T5 (n:Net) (hn:bw n) (hf:bg n):dg pg 94 0 4 (.loop CS) (CX n):=
 have hr:=hf.rules;have hs:=hf.aa;mj (fun _=>e9 (id:=4) (m:=length n.rules) (t:=JH n) (xr:= .ret) (xn:=(.exit 4)) (Lr:=Hw n) (Lx:=rB n) (obr:=Hx n) (obx:=rC n) (V:=fun i4=>vcC pg 94 (bC [TP n (ah n.rules i4).stop] base) aO 3000 (kbL [(6,vQ n i4 (dH n i4))]) CS) (CW n) (xu n) 1 (JI n) (XX n) _ _ (fun i4 hx4=>aS (bf (.cons (g59b n (ah n.rules i4).stop) rfl cv.nil) aw) mixed (bO (l:=[(6,vQ n i4 (dH n i4))]) Hy (aV (T2 n i4 (dH n i4) hn hf hx4 (pw n i4)) rfl bn) rfl)) (aS aw mixed (az _)) (fun e=>by cases e) (fun e=>by cases e) (fun _=>rfl) (fun i4 hx4=>aaa n i4 hn hf hx4) (fun i4 _=>T3 n i4) (fun i4 _=>show∀ww∈JI n i4,cy _ _ _ _ _ _ ww from (aG cg bG)) (aab n hn hf) (T4 n)) (fun _=>rfl) rfl (fun h=>h)
def r29 (n:Net):Bool:= !(r65 (dH n (length n.rules)))
theorem x9:dB [0,4] (aH 29)=[(0,.loop fT),(4,.loop CS)]:=by kernel_rfl
theorem aac (n:Net) (hn:bw n) (hf:bg n):ba pg 29 [.pf (aR n)] [] [] (B (r29 n)) []:=
 have hr:=hf.rules;have hs:=hf.aa;bB (fn:=Tryz.f29) (callf:=(BW [i65 (dH n (length n.rules)) (length (map ak n.aa))] base)) (pu:=aO) (lf:=3000) (l:=[(0,Hu n),(4,CX n)]) (t:=(.r [bT] (.r [bT] (.r [bT] (.no (.r [bT] (.r [bT] (.no (.r [.cC 0 [],bT] .nil))))))))) (EV (.cons (g65 (dH n (length n.rules)) (length (map ak n.aa))) xc.nil) aw) mixed Tryz.func29 (by kernel_rfl) (show Tryz.f29.body=some (aH 29) by kernel_rfl) (Nat.le_of_ble_eq_true rfl) (bO (l:=[(0,Hu n),(4,CX n)]) x9 (aV (TZ n hn hf) rfl (aV (T5 n hn hf) rfl bn)) rfl) rfl (aZ
 (an a0
 (have l1:=aW ak (n.aa);an (ac (DE (n:=length (map ak n.aa)) (B:=24) (by omega) (show length (map ak n.aa)<=9223372036854775807 by omega)) a0)
 (an a0
 (an (kbT (Hu n) trivial) (an (rfl:false=false) (an (ac (DE (n:=length (map ak n.aa)) (B:=1) (by omega) (show length (map ak n.aa)<=9223372036854775807 by omega)) a0)
 (an a0
 (an (IK (CX n) (S:=nm (KB.L0 (CX n))) rfl (bp (congrArg (fun z=>Ob.row 4 1 z) (Ou (f:=aq) (length (map ak n.aa)) false)) eR) trivial) (an (rfl:false=false) (an (ac (qE (c:=i65 (dH n (length n.rules)) (length (map ak n.aa))) ⟨by rw [pw,List.length_map],by rw [pw];omega⟩ rfl) a0)
 (bE (show r29 n=(!(r65 (dH n (length n.rules)))) from rfl))))))))))))
 (by kernel_rfl))
theorem CY {n:Net} {s r:Int} (h:r62 n s r=true):0<=s/\s<(n.aa.length:Int):=by
 unfold r62 at h
 simp only [Bool.and_eq_true,decide_eq_true_eq,List.length_map] at h
 omega
theorem T6 {n:Net} (h:r27 n=true) {i:Nat} (hi:i<n.rules.length):r62 n (ah n.rules i).start i=true/\r62 n (ah n.rules i).stop i=true:=by
 have:=bL.1 (show yC n=false by simpa [r27] using h) i hi
 unfold jS at this
 cases hl:(ah n.rules i).bP with
 |true=>
  rw [hl] at this
  simp only [cond_true,Bool.or_eq_false_iff,Bool.not_eq_false'] at this
  exact ⟨this.1,this.2.1⟩
 |false=>
  rw [hl] at this
  simp only [cond_false,Bool.or_eq_false_iff,Bool.not_eq_false'] at this
  exact ⟨this.1,this.2.1⟩
theorem LU {n:Net} (h:r28 n=true) {i:Nat} (hi:i<n.aa.length):(0<=(ah n.aa i).aK/\(ah n.aa i).aK<(n.rules.length:Int))/\ ∀k,k<(ah n.aa i).aj.length->dW n i k=false:=by
 have:=bL.1 (show yE n=false by simpa [r28] using h) i hi
 unfold mT at this
 simp only [Bool.or_eq_false_iff,decide_eq_false_iff_not,List.length_map] at this
 obtain ⟨h1,h2,h3⟩:=this
 have h3:iJ n i=false:=by
  revert h3
  cases ((((ah n.aa i).aj.length:Nat):Int)==0) with
  |true=>intro h3;simp only [cond_true,Bool.or_eq_false_iff] at h3;exact h3.2
  |false=>exact fun h3=>h3
 exact ⟨by omega,fun k hk=>bL.1 h3 k hk⟩
theorem aad {n:Net} {i k:Nat} (h:dW n i k=false):0<=(ah (ah n.aa i).aj k).to/\(ah (ah n.aa i).aj k).to<(n.aa.length:Int):=by
 unfold dW at h
 simp only [Bool.or_eq_false_iff,Bool.not_eq_false'] at h
 exact CY h.1
theorem T7 {n:Net} {i k:Nat} (h:dW n i k=false) (h2:(ah (ah n.aa i).aj k).op=2):0<=(ah (ah n.aa i).aj k).n/\(ah (ah n.aa i).aj k).n<(n.rules.length:Int):=by
 unfold dW at h
 rw [h2] at h
 simp only [show ((2:Int) !=3)=true from rfl,show ((2:Int)==0)=false from rfl,show ((2:Int)==1)=false from rfl,show ((2:Int)==2)=true from rfl,cond_true,cond_false,Bool.or_eq_false_iff,Bool.not_eq_false'] at h
 have h79:r79 n (aB n.rules (ah n.aa i).aK) (ah n.aa i).aK (ah (ah n.aa i).aj k)=true:=by
  first
   |exact h.2.2.2.2.2.2.2.2.2.2.2
   |(simp only [h])
 unfold r79 at h79
 simp only [Bool.and_eq_true,decide_eq_true_eq,List.length_map] at h79
 omega
theorem well2 {n:Net} (h2:r27 n=true) (h3:r28 n=true):bw n where
 to:=fun s hs e he=>by
  obtain ⟨i,hi,rfl⟩:=ck hs
  obtain ⟨k,hk,rfl⟩:=ck he
  exact aad ((LU h3 hi).2 k hk)
 call:=fun s hs e he h=>by
  obtain ⟨i,hi,rfl⟩:=ck hs
  obtain ⟨k,hk,rfl⟩:=ck he
  exact T7 ((LU h3 hi).2 k hk) h
 start:=fun r hr=>by
  obtain ⟨i,hi,rfl⟩:=ck hr
  exact CY (T6 h2 hi).1
 stop:=fun r hr=>by
  obtain ⟨i,hi,rfl⟩:=ck hr
  exact CY (T6 h2 hi).2
theorem vR {n:Net} (h2:(!r27 n)=false) (h3:(!r28 n)=false):bw n:=well2 (by simpa using h2) (by simpa using h3)
theorem T8 {n:Net} (h:(!r28 n)=false) {i:Nat} (hi:i<n.aa.length):0<=(ah n.aa i).aK/\(ah n.aa i).aK<(n.rules.length:Int):=(LU (by simpa using h) hi).1
theorem Hz (n:Net):(r24 n).length=n.rules.length:=by simp [r24,jl,Fl]
theorem qe (n:Net) (hn:bw n) (hf:bg n):ba pg 24 [.pf (aR n)] [] [] (.sl 1 ((r24 n).map aq)) []:=
 mg (o:=0) (T:=4) (DL n hn hf) rfl (by simp [r24,jl,Fl]) (aX bS _)
noncomputable def tgL (n:Net) (e:Edge):List Int:=bif e.op==2 then (bif cm.bP (aB n.rules e.n) then [e.n] else []) else []
theorem Nf (n:Net) (emp:List Bool) (e:Edge):(tgE n emp e).length<=2:=by
 unfold tgE
 cases e.op==1<;>cases e.op==2<;>cases aB emp e.n<;>simp
theorem Ng (n:Net) (e:Edge):(tgL n e).length<=2:=by
 unfold tgL
 cases e.op==2<;>cases cm.bP (aB n.rules e.n)<;>simp
noncomputable def CZ (n:Net):List (List Int):=n.aa.map fun s=>s.aj.flatMap (tgE n (r24 n))
noncomputable def ia (n:Net):List (List Nat):=(CZ n).map (map Int.toNat)
noncomputable def stC (n:Net) (i k:Nat) (G:List (List Int)):List (List Int):=List.set G (ah n.aa i).aK.toNat (ah G (ah n.aa i).aK.toNat++tgL n (ah (ah n.aa i).aj k))
noncomputable def qf (n:Net):List (List Int):=gO (stC n) (fun i=>(ah n.aa i).aj.length) (replicate n.rules.length []) n.aa.length
noncomputable def fq (n:Net):List (List Nat):=(qf n).map (map Int.toNat)
theorem vS (n:Net):(qf n).length=n.rules.length:=by
 unfold qf
 rw [CQ (step:=stC n) (m:=n.aa.length) (to:=fun i _=>(ah n.aa i).aK.toNat) (xs:=fun i k=>tgL n (ah (ah n.aa i).aj k)) (fun i k G _ _=>rfl) _ _ (Nat.le_refl _)]
 simp
theorem px {n:Net} (hr: ∀s∈n.aa,0<=s.aK/\s.aK<(n.rules.length:Int)) (t:Nat) (c:Int):c∈ah (qf n) t↔ ∃s∈n.aa,s.aK.toNat=t/\ ∃e∈s.aj,c∈tgL n e:=by
 unfold qf
 rw [JE (step:=stC n) (m:=n.aa.length) (to:=fun i _=>(ah n.aa i).aK.toNat) (xs:=fun i k=>tgL n (ah (ah n.aa i).aj k)) (fun i k G _ _=>rfl) (fun i k hi hk=>by have:=hr _ (ay hi);omega) _ (Nat.le_refl _)]
 constructor
 ·rintro ⟨p,h1,q,h2,h3,h4⟩
  exact ⟨_,ay h1,h3,_,ay h2,h4⟩
 ·rintro ⟨s,hs,h3,e,he,h4⟩
  obtain ⟨p,h1,rfl⟩:=ck hs
  obtain ⟨q,h2,rfl⟩:=ck he
  exact ⟨p,h1,q,h2,h3,h4⟩
theorem tT {α β:Type} {f:Nat->Nat->α->α} {g:Nat->Nat->β->β} {len:Nat->Nat} (a:α) (b:β) (i:Nat):gO (fun i k (G:α×β)=>(f i k G.1,g i k G.2)) len (a,b) i=(gO f len a i,gO g len b i):=by
 have inn: ∀i (s:α×β) k,inF (fun i k (G:α×β)=>(f i k G.1,g i k G.2)) i s k=(inF f i s.1 k,inF g i s.2 k):=fun i s k=>by
  induction k with
  |zero=>rfl
  |succ k ih=>
   show (f i k (inF (fun i k (G:α×β)=>(f i k G.1,g i k G.2)) i s k).1,g i k (inF (fun i k (G:α×β)=>(f i k G.1,g i k G.2)) i s k).2)=_
   rw [ih];rfl
 induction i with
 |zero=>rfl
 |succ i ih=>
  show inF (fun i k (G:α×β)=>(f i k G.1,g i k G.2)) i (gO (fun i k (G:α×β)=>(f i k G.1,g i k G.2)) len (a,b) i) (len i)=_
  rw [ih,inn];rfl
noncomputable def gM (g:List (List Nat)):Bool:=dec (∃i,Rp g i i)
structure fZ (g:List (List Nat)):Prop where
 wf:Wf g
 len:g.length<=1000000
 row: ∀R∈g,R.length<=2000000000000
theorem Nh {n:Net} (h:(!r28 n)=false): ∀s∈Net.aa n,0<=s.aK/\s.aK<(length n.rules:Int):=fun s hs=>by
 obtain ⟨i,hi,rfl⟩:=ck hs
 exact T8 h hi
def dP:Prop:= ∀g:List (List Nat),fZ g->ba pg 30 [.sl 1 (g.map bY)] [] [] (B (gM g)) []
def i30 (g:List (List Nat)):b9:=⟨30,[.sl 1 (g.map bY)],B (gM g),fZ g⟩
theorem g30 (h30:dP) (g:List (List Nat)):(i30 g).cd pg:=fun hp=>⟨h30 g hp,by simp [i30,ae,AV.pure],rfl⟩
def i26 (n:Net):b9:=⟨26,[.pf (aR n)],B (r26 n),bg n⟩
theorem g26 (n:Net):(i26 n).cd pg:=fun hp=>⟨MZ n hp.h,by simp [i26,ae,AV.pure],by simp [i26,AV.pure]⟩
def i27 (n:Net):b9:=⟨27,[.pf (aR n)],B (r27 n),bg n⟩
theorem g27 (n:Net):(i27 n).cd pg:=fun hp=>⟨V7 n hp,by simp [i27,ae,AV.pure],by simp [i27,AV.pure]⟩
def i28 (n:Net):b9:=⟨28,[.pf (aR n)],B (r28 n),bg n⟩
theorem g28 (n:Net):(i28 n).cd pg:=fun hp=>⟨Sx n hp,by simp [i28,ae,AV.pure],by simp [i28,AV.pure]⟩
def i29 (n:Net):b9:=⟨29,[.pf (aR n)],B (r29 n),bw n/\bg n⟩
theorem g29 (n:Net):(i29 n).cd pg:=fun hp=>⟨aac n hp.1 hp.2,by simp [i29,ae,AV.pure],by simp [i29,AV.pure]⟩
def i24 (n:Net):b9:=⟨24,[.pf (aR n)],.sl 1 ((r24 n).map aq),bw n/\bg n⟩
theorem g24 (n:Net):(i24 n).cd pg:=fun hp=>⟨qe n hp.1 hp.2,by simp [i24,ae,AV.pure],by simp [i24,AV.pure]⟩
theorem JJ {n:Net} (hn:bw n) (hf:bg n):fZ (ia n) where
 wf:=fun R hR c hc=>by
  obtain ⟨R',hR',rfl⟩:=List.mem_map.1 hR
  obtain ⟨x,hx,rfl⟩:=List.mem_map.1 hc
  obtain ⟨s,hs,rfl⟩:=List.mem_map.1 hR'
  obtain ⟨e,he,hx2⟩:=List.mem_flatMap.1 hx
  obtain ⟨i,hi,rfl⟩:=ck hs
  have he2:e∈(aB n.aa (i:Nat)).aj:=he
  have:=yF hn _ he2 x hx2
  simp only [ia,CZ,List.length_map]
  omega
 len:=by simp only [ia,CZ,List.length_map];exact hf.aa
 row:=fun R hR=>by
  obtain ⟨R',hR',rfl⟩:=List.mem_map.1 hR
  obtain ⟨s,hs,rfl⟩:=List.mem_map.1 hR'
  rw [List.length_map]
  have key: ∀l:List Edge,(l.flatMap (tgE n (r24 n))).length<=2*l.length:=fun l=>by
   induction l with
   |nil=>exact Nat.le_refl _
   |cons e l ih=>
    rw [List.flatMap_cons,List.length_append,List.length_cons]
    have:=Nf n (r24 n) e
    omega
  have:=key s.aj
  have:=hf.aj s hs
  omega
theorem LV {step:Nat->Nat->List (List Int)->List (List Int)} {to:Nat->Nat->Nat} {xs:Nat->Nat->List Int} {i:Nat} (h: ∀k G,step i k G=G.set (to i k) (ah G (to i k)++xs i k)) (hx: ∀k,(xs i k).length<=2) {b:Nat} (G:List (List Int)) (hG: ∀R∈G,R.length<=b) (k:Nat): ∀R∈inF step i G k,R.length<=b+2*k:=by
 induction k with
 |zero=>exact hG
 |succ k ih=>
  show∀R∈step i k (inF step i G k),_
  rw [h]
  intro R hR
  have hx:=hx k
  rcases List.mem_or_eq_of_mem_set hR with h2|rfl
  ·have:=ih R h2;omega
  ·rw [List.length_append]
   by_cases ht:to i k<(inF step i G k).length
   ·have:=ih _ (ay ht)
    omega
   ·rw [ah,List.getElem?_eq_none (by omega)]
    show 0+_<=_
    omega
theorem T9 {n:Net} (hn:bw n) (hr: ∀s∈n.aa,0<=s.aK/\s.aK<(n.rules.length:Int)) (hf:bg n):fZ (fq n) where
 wf:=fun R hR c hc=>by
  obtain ⟨R',hR',rfl⟩:=List.mem_map.1 hR
  obtain ⟨x,hx,rfl⟩:=List.mem_map.1 hc
  obtain ⟨t,_,rfl⟩:=ck hR'
  obtain ⟨s,hs,_,e,he,hx⟩:=(px hr t x).1 hx
  rw [fq,List.length_map,vS]
  unfold tgL at hx
  cases h2:e.op==2 with
  |true=>
   have:=hn.call s hs e he (eq_of_beq h2)
   rw [h2] at hx
   cases hl:cm.bP (aB n.rules e.n) with
   |true=>
    rw [hl] at hx
    simp only [cond_true,List.mem_singleton] at hx
    omega
   |false=>rw [hl] at hx;simp at hx
  |false=>rw [h2] at hx;simp at hx
 len:=by rw [fq,List.length_map,vS];exact hf.rules
 row:=fun R hR=>by
  obtain ⟨R',hR',rfl⟩:=List.mem_map.1 hR
  rw [List.length_map]
  have key: ∀i,i<=n.aa.length-> ∀R∈gO (stC n) (fun i=>(ah n.aa i).aj.length) (replicate n.rules.length []) i,R.length<=i*2000000:=fun i=>by
   induction i with
   |zero=>intro _ R hR;rw [(List.mem_replicate.1 (show R∈replicate n.rules.length [] from hR)).2];exact Nat.zero_le _
   |succ i ih=>
    intro hi R hR
    have:R.length<=i*2000000+2*(ah n.aa i).aj.length:=LV (step:=stC n) (to:=fun i _=>(ah n.aa i).aK.toNat) (xs:=fun i k=>tgL n (ah (ah n.aa i).aj k)) (i:=i) (fun k G=>rfl) (fun k=>Ng _ _) _ (ih (by omega)) _ R hR
    have he:=hf.aj _ (ay (show i<n.aa.length by omega))
    omega
  have:=key _ (Nat.le_refl _) R' hR'
  have:=hf.aa
  omega
def fF:Code:=bV 0 (aH 10)
def JK:Code:=bV 2 fF
theorem Ua:fF= .seq (sq1 fF) (.seq (sq1 (sq2 fF)) (.seq (.block 1 (.seq (sq1 (ng (sq1 (sq2 (sq2 fF))))) (.seq (sq1 (sq2 (ng (sq1 (sq2 (sq2 fF)))))) (.block 2 (.loop JK))))) (sq2 (sq2 (sq2 fF))))):=by kernel_rfl
abbrev zP (i0:Nat) (n:Net):Am.Loc:=[(1,.pf (aR n)),(3,.sl 1 (zK n)),(4,.sr 0 1 0 (zY n)),(5,.sr (length n.aa+1) 1 0 (zB n)),(36,.sl 2 (zA n)),(37,I (length (zA n):Int)),(38,I (i0:Int))]
abbrev zT (i0:Nat) (n:Net):Am.Loc:=[(1,.pf (aR n)),(3,.sl 1 (zK n)),(4,.sr 0 1 0 (zY n)),(5,.sr (length n.aa+1) 1 0 (zB n)),(36,.sl 2 (zA n)),(37,I (length (zA n):Int)),(38,I (i0:Int)),(39,B (decide ((i0:Int)<(length (zA n):Int))))]
theorem Ub (n:Net) (i0:Nat) (_:dP) (_:bg n) (_:bw n/\ ∀s∈Net.aa n,0<=s.aK/\s.aK<(length n.rules:Int)) (_:i0<length n.aa) (v:Nat->Value):vcC pg 141 base aO 3000 (kbL []) (sq1 fF) (bu (bt [4,5] v (zP i0 n))) (bA []) 0 (bQ [⟨True,.normal,bt [4,5] v (zT i0 n),[],[]⟩]) zBF:=
 aZ (an (a1 a0)
 (lf (wy [⟨True,.normal,bt [4,5] v [(1,.pf (aR n)),(3,.sl 1 (map aq (r24 n))),(4,.sr 0 1 0 (length (map ak n.aa))),(5,.sr (length n.aa+1) 1 0 (length (map aD n.rules))),(36,.sl 2 (map ak n.aa)),(37,I (length (map ak n.aa):Int)),(38,I (i0:Int)),(39,B (zj i0 n))],[],[]⟩] 0) 0 trivial))
 (by kernel_rfl)
theorem aae (n:Net) (i0:Nat) (h30:dP) (hf:bg n) (hn:bw n/\ ∀s∈Net.aa n,0<=s.aK/\s.aK<(length n.rules:Int)) (hx0:i0<length n.aa) (ob:List Ob):Piece pg 141 0 (sq1 fF) (zP i0 n) ob .normal (zT i0 n) ob:=
 b7 [4,5] (by kernel_rfl) rfl (by repeat' first|exact bq|refine mqc ?_ ?_|exact .inl rfl|exact .inr (by simp [AV.pure])) (by repeat' first|exact bq|refine mqc ?_ ?_|exact .inl ⟨rfl,rfl⟩|exact .inr ⟨rfl,by simp [AV.pure]⟩) fun v=>cQ (aS aw mixed (az _)) (Ub n i0 h30 hf hn hx0 v) (aQ rfl rfl rfl (by simp [bt,plS,AV.pure]) rfl)
abbrev zm (i0:Nat) (n:Net):Am.Loc:=[(1,.pf (aR n)),(3,.sl 1 (zK n)),(4,.sr 0 1 0 (zY n)),(5,.sr (length n.aa+1) 1 0 (zB n)),(36,.sl 2 (zA n)),(37,I (length (zA n):Int)),(38,I (i0:Int)),(39,B true)]
theorem Uc (n:Net) (i0:Nat) (_:dP) (hf:bg n) (_:bw n/\ ∀s∈Net.aa n,0<=s.aK/\s.aK<(length n.rules:Int)) (hx0:i0<length n.aa) (v:Nat->Value):vcC pg 141 base aO 3000 (kbL []) (sq1 (sq2 fF)) (bu (bt [4,5] v (zT i0 n))) (bA []) 0 (bQ [⟨True,.normal,bt [4,5] v (zm i0 n),[],[]⟩]) (.yes (.pick 0)):=
 have hr:=hf.rules;have hs:=hf.aa;have hed:=hf.aj _ (ay hx0);have l1:=aW ak (n.aa);have hb:(zj i0 n)=true:=decide_eq_true (by omega);aZ (an hb (lf (wy [⟨True,.normal,bt [4,5] v [(1,.pf (aR n)),(3,.sl 1 (map aq (r24 n))),(4,.sr 0 1 0 (length (map ak n.aa))),(5,.sr (length n.aa+1) 1 0 (length (map aD n.rules))),(36,.sl 2 (map ak n.aa)),(37,I (length (map ak n.aa):Int)),(38,I (i0:Int)),(39,B true)],[],[]⟩] 0) 0 trivial))
 (by kernel_rfl)
theorem aaf (n:Net) (i0:Nat) (h30:dP) (hf:bg n) (hn:bw n/\ ∀s∈Net.aa n,0<=s.aK/\s.aK<(length n.rules:Int)) (hx0:i0<length n.aa) (ob:List Ob):Piece pg 141 0 (sq1 (sq2 fF)) (zT i0 n) ob .normal (zm i0 n) ob:=
 b7 [4,5] (by kernel_rfl) rfl (by repeat' first|exact bq|refine mqc ?_ ?_|exact .inl rfl|exact .inr (by simp [AV.pure])) (by repeat' first|exact bq|refine mqc ?_ ?_|exact .inl ⟨rfl,rfl⟩|exact .inr ⟨rfl,by simp [AV.pure]⟩) fun v=>cQ (aS aw mixed (az _)) (Uc n i0 h30 hf hn hx0 v) (aQ rfl rfl rfl (by simp [bt,plS,AV.pure]) rfl)
abbrev zBe:=(ng (sq1 (sq2 (sq2 fF))))
theorem Ud (n:Net) (i0:Nat) (_:dP) (hf:bg n) (_:bw n/\ ∀s∈Net.aa n,0<=s.aK/\s.aK<(length n.rules:Int)) (hx0:i0<length n.aa) (v:Nat->Value):vcC pg 141 base aO 3000 (kbL []) (sq1 zBe) (bu (bt [4,5] v (zm i0 n))) (bA []) 0 (bQ [⟨True,.normal,bt [4,5] v [(1,.pf (aR n)),(3,.sl 1 (zK n)),(4,.sr 0 1 0 (zY n)),(5,.sr (length n.aa+1) 1 0 (zB n)),(6,I (i0:Int)),(7,.pt 0 0),(36,.sl 2 (zA n)),(37,I (length (zA n):Int)),(38,I (i0:Int)),(39,B true),(40,I (i0:Int)),(41,.pf (zI i0 n)),(42,.ag (zI i0 n))],[0],[.box 40 (zI i0 n)]⟩]) (.r [.row (zI i0 n),bT] (.pick 0)):=
 have hr:=hf.rules;have hs:=hf.aa;have hed:=hf.aj _ (ay hx0);aZ (an (ac (bR ak (l:=n.aa) (i:=i0) (by omega)) a0)
 (lf (wy [⟨True,.normal,bt [4,5] v [(1,.pf (aR n)),(3,.sl 1 (map aq (r24 n))),(4,.sr 0 1 0 (length (map ak n.aa))),(5,.sr (length n.aa+1) 1 0 (length (map aD n.rules))),(6,I (i0:Int)),(7,.pt 0 0),(36,.sl 2 (map ak n.aa)),(37,I (length (map ak n.aa):Int)),(38,I (i0:Int)),(39,B true),(40,I (i0:Int)),(41,.pf (ak (ah n.aa i0))),(42,.ag (ak (ah n.aa i0)))],[0],[.box 40 (ak (ah n.aa i0))]⟩] 0) 1 trivial))
 (by kernel_rfl)
abbrev zl (i0:Nat) (n:Net):Am.Loc:=[(1,.pf (aR n)),(3,.sl 1 (zK n)),(4,.sr 0 1 0 (zY n)),(5,.sr (length n.aa+1) 1 0 (zB n)),(6,I (i0:Int)),(7,.pf (zI i0 n)),(36,.sl 2 (zA n)),(37,I (length (zA n):Int)),(38,I (i0:Int)),(39,B true),(40,I (i0:Int)),(41,.pf (zI i0 n)),(42,.ag (zI i0 n))]
theorem aag (n:Net) (i0:Nat) (h30:dP) (hf:bg n) (hn:bw n/\ ∀s∈Net.aa n,0<=s.aK/\s.aK<(length n.rules:Int)) (hx0:i0<length n.aa) (ob:List Ob):Piece pg 141 0 (sq1 zBe) (zm i0 n) ob .normal (zl i0 n) ob:=
 b7 [4,5] (by kernel_rfl) rfl (by repeat' first|exact bq|refine mqc ?_ ?_|exact .inl rfl|exact .inr (by simp [AV.pure])) (by repeat' first|exact bq|refine mqc ?_ ?_|exact .inl ⟨rfl,rfl⟩|exact .inr ⟨rfl,by simp [AV.pure]⟩) fun v=>fP (fe.refl _ _) (cQ (aS aw mixed (az _)) (Ud n i0 h30 hf hn hx0 v) (aQ rfl rfl rfl (by simp [bt,plS,AV.pure]) (by simp [plO]))) (vL (ob:=[]) (Tb:=40) (cells:=(ak (ah n.aa i0))) (Nat.zero_le _) (L' :=bt [4,5] v [(1,.pf (aR n)),(3,.sl 1 (map aq (r24 n))),(4,.sr 0 1 0 (length (map ak n.aa))),(5,.sr (length n.aa+1) 1 0 (length (map aD n.rules))),(6,I (i0:Int)),(7,.pf (ak (ah n.aa i0))),(36,.sl 2 (map ak n.aa)),(37,I (length (map ak n.aa):Int)),(38,I (i0:Int)),(39,B true),(40,I (i0:Int)),(41,.pf (ak (ah n.aa i0))),(42,.ag (ak (ah n.aa i0)))]) (by repeat' first|exact bq|refine mqc ?_ ?_|exact .inl ⟨rfl,rfl⟩|exact .inl ⟨rfl,aI _ _ (by simp [AV.pure])⟩|exact .inr ⟨rfl,rfl,aI _ _ (by simp [AV.pure])⟩) rfl) rfl
abbrev zAI (i0:Nat) (n:Net):Am.Loc:=[(1,.pf (aR n)),(3,.sl 1 (zK n)),(4,.sr 0 1 0 (zY n)),(5,.sr (length n.aa+1) 1 0 (zB n)),(6,I (i0:Int)),(7,.pf (zI i0 n)),(36,.sl 2 (zA n)),(37,I (length (zA n):Int)),(38,I (i0:Int)),(44,.sl 10 (zd i0 n)),(45,I (length (zd i0 n):Int)),(46,I 0)]
theorem Ue (n:Net) (i0:Nat) (_:dP) (_:bg n) (_:bw n/\ ∀s∈Net.aa n,0<=s.aK/\s.aK<(length n.rules:Int)) (_:i0<length n.aa) (v:Nat->Value):vcC pg 141 base aO 3000 (kbL []) (sq1 (sq2 zBe)) (bu (bt [4,5] v (zl i0 n))) (bA []) 0 (bQ [⟨True,.normal,bt [4,5] v (zAI i0 n),[],[]⟩]) zv:=
 aZ (an a0
 (lf (wy [⟨True,.normal,bt [4,5] v [(1,.pf (aR n)),(3,.sl 1 (map aq (r24 n))),(4,.sr 0 1 0 (length (map ak n.aa))),(5,.sr (length n.aa+1) 1 0 (length (map aD n.rules))),(6,I (i0:Int)),(7,.pf (ak (ah n.aa i0))),(36,.sl 2 (map ak n.aa)),(37,I (length (map ak n.aa):Int)),(38,I (i0:Int)),(44,.sl 10 (map bc (ah n.aa i0).aj)),(45,I (length (map bc (ah n.aa i0).aj):Int)),(46,I 0)],[],[]⟩] 0) 0 trivial))
 (by kernel_rfl)
theorem aah (n:Net) (i0:Nat) (h30:dP) (hf:bg n) (hn:bw n/\ ∀s∈Net.aa n,0<=s.aK/\s.aK<(length n.rules:Int)) (hx0:i0<length n.aa) (ob:List Ob):Piece pg 141 0 (sq1 (sq2 zBe)) (zl i0 n) ob .normal (zAI i0 n) ob:=
 b7 [4,5] (by kernel_rfl) rfl (by repeat' first|exact bq|refine mqc ?_ ?_|exact .inl rfl|exact .inr (by simp [AV.pure])) (by repeat' first|exact bq|refine mqc ?_ ?_|exact .inl ⟨rfl,rfl⟩|exact .inr ⟨rfl,by simp [AV.pure]⟩) fun v=>cQ (aS aw mixed (az _)) (Ue n i0 h30 hf hn hx0 v) (aQ rfl rfl rfl (by simp [bt,plS,AV.pure]) rfl)
abbrev zAD (i0:Nat) (n:Net):Am.Loc:=[(1,.pf (aR n)),(3,.sl 1 (zK n)),(4,.sr 0 1 0 (zY n)),(5,.sr (length n.aa+1) 1 0 (zB n)),(6,I (i0:Int)),(7,.pf (zI i0 n)),(36,.sl 2 (zA n)),(37,I (length (zA n):Int)),(38,I (i0:Int)),(44,.sl 10 (zd i0 n)),(45,I (length (zd i0 n):Int)),(46,I (((zBT i0 n):Nat):Int))]
theorem Uf (n:Net) (i0:Nat) (_:dP) (hf:bg n) (_:bw n/\ ∀s∈Net.aa n,0<=s.aK/\s.aK<(length n.rules:Int)) (hx0:i0<length n.aa) (v:Nat->Value):vcC pg 141 base aO 3000 (kbL []) JK (bu (bt [4,5] v (zAD i0 n))) (bA []) 0 (bQ [⟨True,(.exit 2),bt [4,5] v (zP i0 n),[],[]⟩]) zE:=
 have hr:=hf.rules;have hs:=hf.aa;have hed:=hf.aj _ (ay hx0);have l1:=aW bc ((ah n.aa i0).aj);have hb:(zz i0 n)=false:=decide_eq_false (by omega);aZ (an (a1 a0)
 (an hb (lf (wy [⟨True,(.exit 2),bt [4,5] v [(1,.pf (aR n)),(3,.sl 1 (map aq (r24 n))),(4,.sr 0 1 0 (length (map ak n.aa))),(5,.sr (length n.aa+1) 1 0 (length (map aD n.rules))),(36,.sl 2 (map ak n.aa)),(37,I (length (map ak n.aa):Int)),(38,I (i0:Int))],[],[]⟩] 0) 0 trivial)))
 (by kernel_rfl)
theorem aai (n:Net) (i0:Nat) (h30:dP) (hf:bg n) (hn:bw n/\ ∀s∈Net.aa n,0<=s.aK/\s.aK<(length n.rules:Int)) (hx0:i0<length n.aa) (ob:List Ob):Piece pg 141 0 JK (zAD i0 n) ob (.exit 2) (zP i0 n) ob:=
 b7 [4,5] (by kernel_rfl) rfl (by repeat' first|exact bq|refine mqc ?_ ?_|exact .inl rfl|exact .inr (by simp [AV.pure])) (by repeat' first|exact bq|refine mqc ?_ ?_|exact .inl ⟨rfl,rfl⟩|exact .inr ⟨rfl,by simp [AV.pure]⟩) fun v=>cQ (aS aw mixed (az _)) (Uf n i0 h30 hf hn hx0 v) (aQ rfl rfl rfl (by simp [bt,plS,AV.pure]) rfl)
abbrev zAj (i0:Nat) (n:Net):Am.Loc:=[(1,.pf (aR n)),(3,.sl 1 (zK n)),(4,.sr 0 1 0 (zY n)),(5,.sr (length n.aa+1) 1 0 (zB n)),(36,.sl 2 (zA n)),(37,I (length (zA n):Int)),(38,I ↑(i0+1))]
theorem Ug (n:Net) (i0:Nat) (_:dP) (hf:bg n) (_:bw n/\ ∀s∈Net.aa n,0<=s.aK/\s.aK<(length n.rules:Int)) (hx0:i0<length n.aa) (v:Nat->Value):vcC pg 141 base aO 3000 (kbL []) (sq2 (sq2 (sq2 fF))) (bu (bt [4,5] v (zP i0 n))) (bA []) 0 (bQ [⟨True,.normal,bt [4,5] v (zAj i0 n),[],[]⟩]) (.r [.int ↑(i0+1),bT] (.pick 0)):=
 have hr:=hf.rules;have hs:=hf.aa;have hed:=hf.aj _ (ay hx0);aZ (an (ac (dwr (z:= ↑(i0+1)) (by omega) (by omega)) a0)
 (lf (wy [⟨True,.normal,bt [4,5] v [(1,.pf (aR n)),(3,.sl 1 (map aq (r24 n))),(4,.sr 0 1 0 (length (map ak n.aa))),(5,.sr (length n.aa+1) 1 0 (length (map aD n.rules))),(36,.sl 2 (map ak n.aa)),(37,I (length (map ak n.aa):Int)),(38,I ↑(i0+1))],[],[]⟩] 0) 0 trivial))
 (by kernel_rfl)
theorem aaj (n:Net) (i0:Nat) (h30:dP) (hf:bg n) (hn:bw n/\ ∀s∈Net.aa n,0<=s.aK/\s.aK<(length n.rules:Int)) (hx0:i0<length n.aa) (ob:List Ob):Piece pg 141 0 (sq2 (sq2 (sq2 fF))) (zP i0 n) ob .normal (zAj i0 n) ob:=
 b7 [4,5] (by kernel_rfl) rfl (by repeat' first|exact bq|refine mqc ?_ ?_|exact .inl rfl|exact .inr (by simp [AV.pure])) (by repeat' first|exact bq|refine mqc ?_ ?_|exact .inl ⟨rfl,rfl⟩|exact .inr ⟨rfl,by simp [AV.pure]⟩) fun v=>cQ (aS aw mixed (az _)) (Ug n i0 h30 hf hn hx0 v) (aQ rfl rfl rfl (by simp [bt,plS,AV.pure]) rfl)
abbrev zQ (n:Net):Am.Loc:=[(1,.pf (aR n)),(3,.sl 1 (zK n)),(4,.sr 0 1 0 (zY n)),(5,.sr (length n.aa+1) 1 0 (zB n)),(36,.sl 2 (zA n)),(37,I (length (zA n):Int)),(38,I (((zG n):Nat):Int)),(39,B (zBS n))]
abbrev zAb (n:Net):Am.Loc:=[(1,.pf (aR n)),(3,.sl 1 (zK n)),(4,.sr 0 1 0 (zY n)),(5,.sr (length n.aa+1) 1 0 (zB n)),(36,.sl 2 (zA n)),(37,I (length (zA n):Int)),(38,I (((zG n):Nat):Int))]
theorem Uh (n:Net) (_:dP) (_:bg n) (_:bw n/\ ∀s∈Net.aa n,0<=s.aK/\s.aK<(length n.rules:Int)) (v:Nat->Value):vcC pg 141 base aO 3000 (kbL []) (sq1 fF) (bu (bt [4,5] v (zAb n))) (bA []) 0 (bQ [⟨True,.normal,bt [4,5] v (zQ n),[],[]⟩]) zBF:=
 aZ (an (a1 a0)
 (lf (wy [⟨True,.normal,bt [4,5] v [(1,.pf (aR n)),(3,.sl 1 (map aq (r24 n))),(4,.sr 0 1 0 (length (map ak n.aa))),(5,.sr (length n.aa+1) 1 0 (length (map aD n.rules))),(36,.sl 2 (map ak n.aa)),(37,I (length (map ak n.aa):Int)),(38,I (((length n.aa):Nat):Int)),(39,B (zO n))],[],[]⟩] 0) 0 trivial))
 (by kernel_rfl)
theorem aak (n:Net) (h30:dP) (hf:bg n) (hn:bw n/\ ∀s∈Net.aa n,0<=s.aK/\s.aK<(length n.rules:Int)) (ob:List Ob):Piece pg 141 0 (sq1 fF) (zAb n) ob .normal (zQ n) ob:=
 b7 [4,5] (by kernel_rfl) rfl (by repeat' first|exact bq|refine mqc ?_ ?_|exact .inl rfl|exact .inr (by simp [AV.pure])) (by repeat' first|exact bq|refine mqc ?_ ?_|exact .inl ⟨rfl,rfl⟩|exact .inr ⟨rfl,by simp [AV.pure]⟩) fun v=>cQ (aS aw mixed (az _)) (Uh n h30 hf hn v) (aQ rfl rfl rfl (by simp [bt,plS,AV.pure]) rfl)
abbrev zBX (n:Net):Am.Loc:=[(1,.pf (aR n)),(3,.sl 1 (zK n)),(4,.sr 0 1 0 (zY n)),(5,.sr (length n.aa+1) 1 0 (zB n))]
theorem Ui (n:Net) (_:dP) (hf:bg n) (_:bw n/\ ∀s∈Net.aa n,0<=s.aK/\s.aK<(length n.rules:Int)) (v:Nat->Value):vcC pg 141 base aO 3000 (kbL []) (sq1 (sq2 fF)) (bu (bt [4,5] v (zQ n))) (bA []) 0 (bQ [⟨True,(.exit 0),bt [4,5] v (zBX n),[],[]⟩]) (.no (.pick 0)):=
 have hr:=hf.rules;have hs:=hf.aa;have l1:=aW ak (n.aa);have hb:(zO n)=false:=decide_eq_false (by omega);aZ (an hb (lf (wy [⟨True,(.exit 0),bt [4,5] v [(1,.pf (aR n)),(3,.sl 1 (map aq (r24 n))),(4,.sr 0 1 0 (length (map ak n.aa))),(5,.sr (length n.aa+1) 1 0 (length (map aD n.rules)))],[],[]⟩] 0) 0 trivial))
 (by kernel_rfl)
theorem aal (n:Net) (h30:dP) (hf:bg n) (hn:bw n/\ ∀s∈Net.aa n,0<=s.aK/\s.aK<(length n.rules:Int)) (ob:List Ob):Piece pg 141 0 (sq1 (sq2 fF)) (zQ n) ob (.exit 0) (zBX n) ob:=
 b7 [4,5] (by kernel_rfl) rfl (by repeat' first|exact bq|refine mqc ?_ ?_|exact .inl rfl|exact .inr (by simp [AV.pure])) (by repeat' first|exact bq|refine mqc ?_ ?_|exact .inl ⟨rfl,rfl⟩|exact .inr ⟨rfl,by simp [AV.pure]⟩) fun v=>cQ (aS aw mixed (az _)) (Ui n h30 hf hn v) (aQ rfl rfl rfl (by simp [bt,plS,AV.pure]) rfl)
def db (n:Net) (i0 i2:Nat) (la:List Int):List Int:=(bif (ah (ah n.aa i0).aj i2).op==1 then la else (bif (ah (ah n.aa i0).aj i2).op==2 then (bif !(aB (r24 n) (ah (ah n.aa i0).aj i2).n) then la++ [(aB n.rules (ah (ah n.aa i0).aj i2).n).start] else List.take (length la+1) (la++ [(aB n.rules (ah (ah n.aa i0).aj i2).n).start])++ [(ah (ah n.aa i0).aj i2).to]) else la++ [(ah (ah n.aa i0).aj i2).to]))
def dc (n:Net) (i0 i2:Nat) (lb:List Int):List Int:=(bif (ah (ah n.aa i0).aj i2).op==1 then lb else (bif (ah (ah n.aa i0).aj i2).op==2 then (bif (aB n.rules (ah (ah n.aa i0).aj i2).n).bP then lb++ [(ah (ah n.aa i0).aj i2).n] else lb) else lb))
abbrev zM (i0 i2:Nat) (n:Net):Am.Loc:=[(1,.pf (aR n)),(3,.sl 1 (zK n)),(4,.sr 0 1 0 (zY n)),(5,.sr 1 1 0 (zB n)),(6,I (i0:Int)),(7,.pf (zI i0 n)),(36,.sl 2 (zA n)),(37,I (length (zA n):Int)),(38,I (i0:Int)),(44,.sl 10 (zd i0 n)),(45,I (length (zd i0 n):Int)),(46,I ↑(i2+1))]
abbrev zBE (i0:Nat) (n:Net):=(((zg i0 n)).toNat)
abbrev zBw (lb:List Int):=(map aL lb)
abbrev zCA (lb:List Int):=(length lb)
def tU (n:Net) (i0 i2:Nat) (xs ys:List Value) (la lb:List Int):gP:=⟨(db n i0 i2 la)=la/\(dc n i0 i2 lb)=lb,.normal,(zM i0 i2 n),[0,1,2,3],5,[.row 36 1 (aJ (List.set (vs xs) i0 (.sr 2 1 0 (length la)))),.row 36 1 (aJ (List.set (vs ys) (zBE i0 n) (.sr 3 1 0 (zCA lb)))),.row 3 1 (map aL la),.row 3 1 (zBw lb)],[.row 36 1 (aJ (List.set (vs xs) i0 (.sr 2 1 0 (length la)))),.row 36 1 (aJ (List.set (vs ys) (zBE i0 n) (.sr 3 1 0 (zCA lb)))),.row 3 1 (map aL la),.row 3 1 (zBw lb)]⟩
abbrev ze (i0 i2:Nat) (n:Net):=(aB n.rules (zAF i0 i2 n).n).start
def tV (n:Net) (i0 i2:Nat) (xs ys:List Value) (la lb:List Int):gP:=⟨(db n i0 i2 la)=(la++ [(ze i0 i2 n)])/\(dc n i0 i2 lb)=(lb++ [(zAF i0 i2 n).n]),.normal,(zM i0 i2 n),[0,1,5,6],7,[.row 36 1 (aJ (List.set (vs xs) i0 (.sr 2 1 0 (length (la++ [(ze i0 i2 n)]))))),.row 36 1 (aJ (List.set (vs ys) (zBE i0 n) (.sr 3 1 0 (length (lb++ [(zAF i0 i2 n).n]))))),.row 3 1 (map aL (la++ [(ze i0 i2 n)])),.row 3 1 (map aL (lb++ [(zAF i0 i2 n).n]))],[.row 36 1 (aJ (List.set (vs xs) i0 (.sr 5 1 0 (length (la++ [(ze i0 i2 n)]))))),.row 36 1 (aJ (List.set (vs ys) (zBE i0 n) (.sr 6 1 0 (length (lb++ [(zAF i0 i2 n).n]))))),.row 3 1 (map aL (la++ [(ze i0 i2 n)])),.row 3 1 (map aL (lb++ [(zAF i0 i2 n).n]))]⟩
abbrev zAf (i0 i2:Nat) (la:List Int) (n:Net):=(map aL (List.take (length la+1) (la++ [(ze i0 i2 n)])++ [(zAF i0 i2 n).to]))
abbrev zAi (i0 i2:Nat) (la:List Int) (n:Net):=(length (List.take (length la+1) (la++ [(ze i0 i2 n)])++ [(zAF i0 i2 n).to]))
def tW (n:Net) (i0 i2:Nat) (xs ys:List Value) (la lb:List Int):gP:=⟨(db n i0 i2 la)=(List.take (length la+1) (la++ [(ze i0 i2 n)])++ [(zAF i0 i2 n).to])/\(dc n i0 i2 lb)=(lb++ [(zAF i0 i2 n).n]),.normal,(zM i0 i2 n),[0,1,7,6],8,[.row 36 1 (aJ (List.set (vs xs) i0 (.sr 2 1 0 (zAi i0 i2 la n)))),.row 36 1 (aJ (List.set (vs ys) (zBE i0 n) (.sr 3 1 0 (length (lb++ [(zAF i0 i2 n).n]))))),.row 3 1 (zAf i0 i2 la n),.row 3 1 (map aL (lb++ [(zAF i0 i2 n).n]))],[.row 36 1 (aJ (List.set (vs xs) i0 (.sr 7 1 0 (zAi i0 i2 la n)))),.row 36 1 (aJ (List.set (vs ys) (zBE i0 n) (.sr 6 1 0 (length (lb++ [(zAF i0 i2 n).n]))))),.row 3 1 (zAf i0 i2 la n),.row 3 1 (map aL (lb++ [(zAF i0 i2 n).n]))]⟩
def tX (n:Net) (i0 i2:Nat) (xs ys:List Value) (la lb:List Int):gP:=⟨(db n i0 i2 la)=(la++ [(ze i0 i2 n)])/\(dc n i0 i2 lb)=lb,.normal,(zM i0 i2 n),[0,1,5,3],6,[.row 36 1 (aJ (List.set (vs xs) i0 (.sr 2 1 0 (length (la++ [(ze i0 i2 n)]))))),.row 36 1 (aJ (List.set (vs ys) (zBE i0 n) (.sr 3 1 0 (zCA lb)))),.row 3 1 (map aL (la++ [(ze i0 i2 n)])),.row 3 1 (zBw lb)],[.row 36 1 (aJ (List.set (vs xs) i0 (.sr 5 1 0 (length (la++ [(ze i0 i2 n)]))))),.row 36 1 (aJ (List.set (vs ys) (zBE i0 n) (.sr 3 1 0 (zCA lb)))),.row 3 1 (map aL (la++ [(ze i0 i2 n)])),.row 3 1 (zBw lb)]⟩
def tY (n:Net) (i0 i2:Nat) (xs ys:List Value) (la lb:List Int):gP:=⟨(db n i0 i2 la)=(List.take (length la+1) (la++ [(ze i0 i2 n)])++ [(zAF i0 i2 n).to])/\(dc n i0 i2 lb)=lb,.normal,(zM i0 i2 n),[0,1,6,3],7,[.row 36 1 (aJ (List.set (vs xs) i0 (.sr 2 1 0 (zAi i0 i2 la n)))),.row 36 1 (aJ (List.set (vs ys) (zBE i0 n) (.sr 3 1 0 (zCA lb)))),.row 3 1 (zAf i0 i2 la n),.row 3 1 (zBw lb)],[.row 36 1 (aJ (List.set (vs xs) i0 (.sr 6 1 0 (zAi i0 i2 la n)))),.row 36 1 (aJ (List.set (vs ys) (zBE i0 n) (.sr 3 1 0 (zCA lb)))),.row 3 1 (zAf i0 i2 la n),.row 3 1 (zBw lb)]⟩
def tZ (n:Net) (i0 i2:Nat) (xs ys:List Value) (la lb:List Int):gP:=⟨(db n i0 i2 la)=(la++ [(zAF i0 i2 n).to])/\(dc n i0 i2 lb)=lb,.normal,(zM i0 i2 n),[0,1,5,3],6,[.row 36 1 (aJ (List.set (vs xs) i0 (.sr 2 1 0 (length (la++ [(zAF i0 i2 n).to]))))),.row 36 1 (aJ (List.set (vs ys) (zBE i0 n) (.sr 3 1 0 (zCA lb)))),.row 3 1 (map aL (la++ [(zAF i0 i2 n).to])),.row 3 1 (zBw lb)],[.row 36 1 (aJ (List.set (vs xs) i0 (.sr 5 1 0 (length (la++ [(zAF i0 i2 n).to]))))),.row 36 1 (aJ (List.set (vs ys) (zBE i0 n) (.sr 3 1 0 (zCA lb)))),.row 3 1 (map aL (la++ [(zAF i0 i2 n).to])),.row 3 1 (zBw lb)]⟩
abbrev zAL (i0 i2:Nat) (n:Net):Am.Loc:=[(1,.pf (aR n)),(3,.sl 1 (zK n)),(4,.sr 0 1 0 (zY n)),(5,.sr 1 1 0 (zB n)),(6,I (i0:Int)),(7,.pf (zI i0 n)),(36,.sl 2 (zA n)),(37,I (length (zA n):Int)),(38,I (i0:Int)),(44,.sl 10 (zd i0 n)),(45,I (length (zd i0 n):Int)),(46,I (i2:Int))]
theorem aam (n:Net) (i0 i2:Nat) (xs ys:List Value) (la lb:List Int) (_:dP) (hf:bg n) (hn:bw n/\ ∀s∈Net.aa n,0<=s.aK/\s.aK<(length n.rules:Int)) (hx0:i0<length n.aa) (hx2:i2<length (ah n.aa i0).aj) (hl1:length xs=(length n.aa)) (hl2:length ys=(length n.rules)) (hr1:length la<=2*(i0*1000000+i2)) (hr2:length lb<=2*(i0*1000000+i2)):vcC pg 141 base aO 3000 (kbL []) JK (bu (zAL i0 i2 n)) (bA [.row 36 1 (aJ (List.set (vs xs) i0 (.sr 2 1 0 (length la)))),.row 36 1 (aJ (List.set (vs ys) (zBE i0 n) (.sr 3 1 0 (zCA lb)))),.row 3 1 (map aL la),.row 3 1 (zBw lb)]) 4 (Tq [(tU n i0 i2 xs ys la lb),(tV n i0 i2 xs ys la lb),(tW n i0 i2 xs ys la lb),(tX n i0 i2 xs ys la lb),(tY n i0 i2 xs ys la lb),(tZ n i0 i2 xs ys la lb)]) (.r [.k,bT] (.yes (.r [.row (bc (zAF i0 i2 n)),bT] (.r [.k,bT] (.br (.r (zAm i2) (.pick 0)) (.r [.k,bT] (.br (.r [.at i0 0 [.sr 2 1 0 (length la)],.cC ((zAF i0 i2 n).n).toNat (aD (aB n.rules (zAF i0 i2 n).n)),.at i0 0 [.sr 2 1 0 (length la)],bT] (.r [.cC ((zAF i0 i2 n).n).toNat (aD (aB n.rules (zAF i0 i2 n).n)),bT] (.br (.r [.cC (zBE i0 n) [],.at (zBE i0 n) 0 [.sr 3 1 0 (zCA lb)],.cC (zBE i0 n) [],.at (zBE i0 n) 0 [.sr 3 1 0 (zCA lb)],bT] (.r [.cC ((zAF i0 i2 n).n).toNat (aq (aB (r24 n) (zAF i0 i2 n).n)),bT] (.br (.r (zAm i2) (.pick 1)) (.r [.at i0 0 [.sr 5 1 0 (length la+1)],.at i0 0 [.sr 5 1 0 (length la+1)],bT] (.r (zAm i2) (.pick 2)))))) (.r [.cC ((zAF i0 i2 n).n).toNat (aq (aB (r24 n) (zAF i0 i2 n).n)),bT] (.br (.r (zAm i2) (.pick 3)) (.r [.at i0 0 [.sr 5 1 0 (length la+1)],.at i0 0 [.sr 5 1 0 (length la+1)],bT] (.r (zAm i2) (.pick 4)))))))) (.r [.at i0 0 [.sr 2 1 0 (length la)],.at i0 0 [.sr 2 1 0 (length la)],bT] (.r (zAm i2) (.pick 5)))))))))):=
 have hr:=hf.rules;have hs:=hf.aa;have lms:=aW ak n.aa;have lmr:=aW aD n.rules;have hed:=hf.aj _ (ay hx0);have hto:=hn.1.to _ (ay hx0) _ (ay hx2);have hca:=hn.1.call _ (ay hx0) _ (ay hx2);have hrr:=hn.2 _ (ay hx0);have hrl:=Hz n;have l1:=aW bc ((ah n.aa i0).aj);have hb:(zAd i0 i2 n)=true:=decide_eq_true (by omega);
 aZ (an (a1 a0)
 (an hb (an (ac (bR bc (l:=(ah n.aa i0).aj) (i:=i2) (by omega)) a0)
 (an (a1 a0)
 (brP (fun (h1:((ah (ah n.aa i0).aj i2).op==1)=true)=>have g1:=eq_of_beq h1;
 (an (ac (dwr (z:= ↑(i2+1)) (by omega) (by omega)) a0)
 (lfN (tU n i0 i2 xs ys la lb) ⟨(show (db n i0 i2 la)=la from (cdT h1 rfl)),(show (dc n i0 i2 lb)=lb from (cdT h1 rfl))⟩ (bp (rfl:(.row 36 1 (aJ (List.set (vs xs) i0 (.sr 2 1 0 (length la)))):Ob)= .row 36 1 (aJ (List.set (vs xs) i0 (.sr 2 1 0 (length la))))) (bp (rfl:(.row 36 1 (aJ (List.set (vs ys) (((ah n.aa i0).aK).toNat) (.sr 3 1 0 (length lb)))):Ob)= .row 36 1 (aJ (List.set (vs ys) (((ah n.aa i0).aK).toNat) (.sr 3 1 0 (length lb))))) (bp (rfl:(.row 3 1 (map aL la):Ob)= .row 3 1 (map aL la)) (bp (rfl:(.row 3 1 (map aL lb):Ob)= .row 3 1 (map aL lb)) eR))))))) (fun h1=>have g1:=ne_of_beq_false h1;
 (an (a1 a0)
 (brP (fun (h2:((ah (ah n.aa i0).aj i2).op==2)=true)=>have g2:=eq_of_beq h2;
 (have l2:=aW aD (n.rules);an (ac (stN (rfl:(aJ (List.set (vs xs) i0 (.sr 2 1 0 (length la))))=(aJ (List.set (vs xs) i0 (.sr 2 1 0 (length la))))) (by omega)) (ac (ixL (z:=i0) (n:=length (map ak n.aa)) (by omega)) (ac (apL (k:=length la) (B:=8) (rfl:map aL la=map aL la) (by first|omega|(simp only [List.length_map,List.length_set,List.length_append,List.length_take,List.length_cons,List.length_nil];omega)) (by omega) (by omega)) (ac (bK (f:=aD) (l:=n.rules) (s:=(ah (ah n.aa i0).aj i2).n) (decide_eq_true (by omega)) (decide_eq_true (by omega))) (ac (atN (rfl:(aJ (List.set (vs xs) i0 (.sr 2 1 0 (length la))))=(aJ (List.set (vs xs) i0 (.sr 2 1 0 (length la))))) (by omega)) (ac (ixL (z:=i0) (n:=length (map ak n.aa)) (by omega)) a0))))))
 (an (ac (bK (f:=aD) (l:=n.rules) (s:=(ah (ah n.aa i0).aj i2).n) (decide_eq_true (by omega)) (decide_eq_true (by omega))) a0)
 (brP (fun (h3:((aB n.rules (ah (ah n.aa i0).aj i2).n).bP)=true)=>
 (an (ac (stN (rfl:(aJ (List.set (vs ys) (((ah n.aa i0).aK).toNat) (.sr 3 1 0 (length lb))))=(aJ (List.set (vs ys) (((ah n.aa i0).aK).toNat) (.sr 3 1 0 (length lb))))) (by omega)) (ac (ixI (x:=(ah n.aa i0).aK) (n:=length (map aD n.rules)) (by omega) (by omega)) (ac (apL (k:=length lb) (B:=8) (rfl:map aL lb=map aL lb) (by first|omega|(simp only [List.length_map,List.length_set,List.length_append,List.length_take,List.length_cons,List.length_nil];omega)) (by omega) (by omega)) (ac (atN (rfl:(aJ (List.set (vs ys) (((ah n.aa i0).aK).toNat) (.sr 3 1 0 (length lb))))=(aJ (List.set (vs ys) (((ah n.aa i0).aK).toNat) (.sr 3 1 0 (length lb))))) (by omega)) (ac (ixI (x:=(ah n.aa i0).aK) (n:=length (map aD n.rules)) (by omega) (by omega)) a0)))))
 (have l3:=aW aq ((r24 n));an (ac (bK (f:=aq) (l:=r24 n) (s:=(ah (ah n.aa i0).aj i2).n) (decide_eq_true (by omega)) (decide_eq_true (by omega))) a0)
 (brP (fun (h4:(!(aB (r24 n) (ah (ah n.aa i0).aj i2).n))=true)=>
 (an (ac (dwr (z:= ↑(i2+1)) (by omega) (by omega)) a0)
 (lfN (tV n i0 i2 xs ys la lb) ⟨(show (db n i0 i2 la)=(la++ [(aB n.rules (ah (ah n.aa i0).aj i2).n).start]) from (cdF h1 (cdT h2 (cdT h4 rfl)))),(show (dc n i0 i2 lb)=(lb++ [(ah (ah n.aa i0).aj i2).n]) from (cdF h1 (cdT h2 (cdT h3 rfl))))⟩ (bp ((congrArg (fun z=>Ob.row 36 1 z) (pD (rfl:(aJ (List.set (vs xs) i0 (.sr 2 1 0 (length la))))=(aJ (List.set (vs xs) i0 (.sr 2 1 0 (length la))))) (.sr 5 1 0 (length la+1)))).trans (congrArg (fun z=>Ob.row 36 1 (aJ (List.set (vs xs) i0 (.sr 5 1 0 z)))) (by simp))) (bp ((congrArg (fun z=>Ob.row 36 1 z) (pD (rfl:(aJ (List.set (vs ys) (((ah n.aa i0).aK).toNat) (.sr 3 1 0 (length lb))))=(aJ (List.set (vs ys) (((ah n.aa i0).aK).toNat) (.sr 3 1 0 (length lb))))) (.sr 6 1 0 (length lb+1)))).trans (congrArg (fun z=>Ob.row 36 1 (aJ (List.set (vs ys) (((ah n.aa i0).aK).toNat) (.sr 6 1 0 z)))) (by simp))) (bp (congrArg (fun z=>Ob.row 3 1 z) (apF (f:=aL) (rfl:map aL la=map aL la) (k:=length la) (by first|rfl|(simp only [List.length_map,List.length_set,List.length_append] at*;omega)) (aB n.rules (ah (ah n.aa i0).aj i2).n).start)) (bp (congrArg (fun z=>Ob.row 3 1 z) (apF (f:=aL) (rfl:map aL lb=map aL lb) (k:=length lb) (by first|rfl|(simp only [List.length_map,List.length_set,List.length_append] at*;omega)) (ah (ah n.aa i0).aj i2).n)) eR))))))) (fun h4=>
 (an (ac (stN (pD (rfl:(aJ (List.set (vs xs) i0 (.sr 2 1 0 (length la))))=(aJ (List.set (vs xs) i0 (.sr 2 1 0 (length la))))) (.sr 5 1 0 (length la+1))) (by omega)) (ac (ixL (z:=i0) (n:=length (map ak n.aa)) (by omega)) (ac (apL (k:=length la+1) (B:=8) (apF (f:=aL) (rfl:map aL la=map aL la) (k:=length la) (by first|rfl|(simp only [List.length_map,List.length_set,List.length_append] at*;omega)) (aB n.rules (ah (ah n.aa i0).aj i2).n).start) (by first|omega|(simp only [List.length_append,List.length_cons,List.length_nil];omega)) (by omega) (by omega)) (ac (atN (pD (rfl:(aJ (List.set (vs xs) i0 (.sr 2 1 0 (length la))))=(aJ (List.set (vs xs) i0 (.sr 2 1 0 (length la))))) (.sr 5 1 0 (length la+1))) (by omega)) (ac (ixL (z:=i0) (n:=length (map ak n.aa)) (by omega)) a0)))))
 (an (ac (dwr (z:= ↑(i2+1)) (by omega) (by omega)) a0)
 (lfN (tW n i0 i2 xs ys la lb) ⟨(show (db n i0 i2 la)=(List.take (length la+1) (la++ [(aB n.rules (ah (ah n.aa i0).aj i2).n).start])++ [(ah (ah n.aa i0).aj i2).to]) from (cdF h1 (cdT h2 (cdF h4 rfl)))),(show (dc n i0 i2 lb)=(lb++ [(ah (ah n.aa i0).aj i2).n]) from (cdF h1 (cdT h2 (cdT h3 rfl))))⟩ (bp ((congrArg (fun z=>Ob.row 36 1 z) (pD (pD (rfl:(aJ (List.set (vs xs) i0 (.sr 2 1 0 (length la))))=(aJ (List.set (vs xs) i0 (.sr 2 1 0 (length la))))) (.sr 5 1 0 (length la+1))) (.sr 7 1 0 (length la+1+1)))).trans (congrArg (fun z=>Ob.row 36 1 (aJ (List.set (vs xs) i0 (.sr 7 1 0 z)))) (by simp))) (bp ((congrArg (fun z=>Ob.row 36 1 z) (pD (rfl:(aJ (List.set (vs ys) (((ah n.aa i0).aK).toNat) (.sr 3 1 0 (length lb))))=(aJ (List.set (vs ys) (((ah n.aa i0).aK).toNat) (.sr 3 1 0 (length lb))))) (.sr 6 1 0 (length lb+1)))).trans (congrArg (fun z=>Ob.row 36 1 (aJ (List.set (vs ys) (((ah n.aa i0).aK).toNat) (.sr 6 1 0 z)))) (by simp))) (bp (congrArg (fun z=>Ob.row 3 1 z) (apT (f:=aL) (apF (f:=aL) (rfl:map aL la=map aL la) (k:=length la) (by first|rfl|(simp only [List.length_map,List.length_set,List.length_append] at*;omega)) (aB n.rules (ah (ah n.aa i0).aj i2).n).start) (length la+1) (ah (ah n.aa i0).aj i2).to)) (bp (congrArg (fun z=>Ob.row 3 1 z) (apF (f:=aL) (rfl:map aL lb=map aL lb) (k:=length lb) (by first|rfl|(simp only [List.length_map,List.length_set,List.length_append] at*;omega)) (ah (ah n.aa i0).aj i2).n)) eR)))))))))))) (fun h3=>
 (have l3:=aW aq ((r24 n));an (ac (bK (f:=aq) (l:=r24 n) (s:=(ah (ah n.aa i0).aj i2).n) (decide_eq_true (by omega)) (decide_eq_true (by omega))) a0)
 (brP (fun (h4:(!(aB (r24 n) (ah (ah n.aa i0).aj i2).n))=true)=>
 (an (ac (dwr (z:= ↑(i2+1)) (by omega) (by omega)) a0)
 (lfN (tX n i0 i2 xs ys la lb) ⟨(show (db n i0 i2 la)=(la++ [(aB n.rules (ah (ah n.aa i0).aj i2).n).start]) from (cdF h1 (cdT h2 (cdT h4 rfl)))),(show (dc n i0 i2 lb)=lb from (cdF h1 (cdT h2 (cdF h3 rfl))))⟩ (bp ((congrArg (fun z=>Ob.row 36 1 z) (pD (rfl:(aJ (List.set (vs xs) i0 (.sr 2 1 0 (length la))))=(aJ (List.set (vs xs) i0 (.sr 2 1 0 (length la))))) (.sr 5 1 0 (length la+1)))).trans (congrArg (fun z=>Ob.row 36 1 (aJ (List.set (vs xs) i0 (.sr 5 1 0 z)))) (by simp))) (bp (rfl:(.row 36 1 (aJ (List.set (vs ys) (((ah n.aa i0).aK).toNat) (.sr 3 1 0 (length lb)))):Ob)= .row 36 1 (aJ (List.set (vs ys) (((ah n.aa i0).aK).toNat) (.sr 3 1 0 (length lb))))) (bp (congrArg (fun z=>Ob.row 3 1 z) (apF (f:=aL) (rfl:map aL la=map aL la) (k:=length la) (by first|rfl|(simp only [List.length_map,List.length_set,List.length_append] at*;omega)) (aB n.rules (ah (ah n.aa i0).aj i2).n).start)) (bp (rfl:(.row 3 1 (map aL lb):Ob)= .row 3 1 (map aL lb)) eR))))))) (fun h4=>
 (an (ac (stN (pD (rfl:(aJ (List.set (vs xs) i0 (.sr 2 1 0 (length la))))=(aJ (List.set (vs xs) i0 (.sr 2 1 0 (length la))))) (.sr 5 1 0 (length la+1))) (by omega)) (ac (ixL (z:=i0) (n:=length (map ak n.aa)) (by omega)) (ac (apL (k:=length la+1) (B:=8) (apF (f:=aL) (rfl:map aL la=map aL la) (k:=length la) (by first|rfl|(simp only [List.length_map,List.length_set,List.length_append] at*;omega)) (aB n.rules (ah (ah n.aa i0).aj i2).n).start) (by first|omega|(simp only [List.length_append,List.length_cons,List.length_nil];omega)) (by omega) (by omega)) (ac (atN (pD (rfl:(aJ (List.set (vs xs) i0 (.sr 2 1 0 (length la))))=(aJ (List.set (vs xs) i0 (.sr 2 1 0 (length la))))) (.sr 5 1 0 (length la+1))) (by omega)) (ac (ixL (z:=i0) (n:=length (map ak n.aa)) (by omega)) a0)))))
 (an (ac (dwr (z:= ↑(i2+1)) (by omega) (by omega)) a0)
 (lfN (tY n i0 i2 xs ys la lb) ⟨(show (db n i0 i2 la)=(List.take (length la+1) (la++ [(aB n.rules (ah (ah n.aa i0).aj i2).n).start])++ [(ah (ah n.aa i0).aj i2).to]) from (cdF h1 (cdT h2 (cdF h4 rfl)))),(show (dc n i0 i2 lb)=lb from (cdF h1 (cdT h2 (cdF h3 rfl))))⟩ (bp ((congrArg (fun z=>Ob.row 36 1 z) (pD (pD (rfl:(aJ (List.set (vs xs) i0 (.sr 2 1 0 (length la))))=(aJ (List.set (vs xs) i0 (.sr 2 1 0 (length la))))) (.sr 5 1 0 (length la+1))) (.sr 6 1 0 (length la+1+1)))).trans (congrArg (fun z=>Ob.row 36 1 (aJ (List.set (vs xs) i0 (.sr 6 1 0 z)))) (by simp))) (bp (rfl:(.row 36 1 (aJ (List.set (vs ys) (((ah n.aa i0).aK).toNat) (.sr 3 1 0 (length lb)))):Ob)= .row 36 1 (aJ (List.set (vs ys) (((ah n.aa i0).aK).toNat) (.sr 3 1 0 (length lb))))) (bp (congrArg (fun z=>Ob.row 3 1 z) (apT (f:=aL) (apF (f:=aL) (rfl:map aL la=map aL la) (k:=length la) (by first|rfl|(simp only [List.length_map,List.length_set,List.length_append] at*;omega)) (aB n.rules (ah (ah n.aa i0).aj i2).n).start) (length la+1) (ah (ah n.aa i0).aj i2).to)) (bp (rfl:(.row 3 1 (map aL lb):Ob)= .row 3 1 (map aL lb)) eR))))))))))))))) (fun h2=>have g2:=ne_of_beq_false h2;
 (an (ac (stN (rfl:(aJ (List.set (vs xs) i0 (.sr 2 1 0 (length la))))=(aJ (List.set (vs xs) i0 (.sr 2 1 0 (length la))))) (by omega)) (ac (ixL (z:=i0) (n:=length (map ak n.aa)) (by omega)) (ac (apL (k:=length la) (B:=8) (rfl:map aL la=map aL la) (by first|omega|(simp only [List.length_map,List.length_set,List.length_append,List.length_take,List.length_cons,List.length_nil];omega)) (by omega) (by omega)) (ac (atN (rfl:(aJ (List.set (vs xs) i0 (.sr 2 1 0 (length la))))=(aJ (List.set (vs xs) i0 (.sr 2 1 0 (length la))))) (by omega)) (ac (ixL (z:=i0) (n:=length (map ak n.aa)) (by omega)) a0)))))
 (an (ac (dwr (z:= ↑(i2+1)) (by omega) (by omega)) a0)
 (lfN (tZ n i0 i2 xs ys la lb) ⟨(show (db n i0 i2 la)=(la++ [(ah (ah n.aa i0).aj i2).to]) from (cdF h1 (cdF h2 rfl))),(show (dc n i0 i2 lb)=lb from (cdF h1 (cdF h2 rfl)))⟩ (bp ((congrArg (fun z=>Ob.row 36 1 z) (pD (rfl:(aJ (List.set (vs xs) i0 (.sr 2 1 0 (length la))))=(aJ (List.set (vs xs) i0 (.sr 2 1 0 (length la))))) (.sr 5 1 0 (length la+1)))).trans (congrArg (fun z=>Ob.row 36 1 (aJ (List.set (vs xs) i0 (.sr 5 1 0 z)))) (by simp))) (bp (rfl:(.row 36 1 (aJ (List.set (vs ys) (((ah n.aa i0).aK).toNat) (.sr 3 1 0 (length lb)))):Ob)= .row 36 1 (aJ (List.set (vs ys) (((ah n.aa i0).aK).toNat) (.sr 3 1 0 (length lb))))) (bp (congrArg (fun z=>Ob.row 3 1 z) (apF (f:=aL) (rfl:map aL la=map aL la) (k:=length la) (by first|rfl|(simp only [List.length_map,List.length_set,List.length_append] at*;omega)) (ah (ah n.aa i0).aj i2).to)) (bp (rfl:(.row 3 1 (map aL lb):Ob)= .row 3 1 (map aL lb)) eR))))))))))))))))
 (by kernel_rfl)
theorem aan (n:Net) (i0 i2:Nat) (xs ys:List Value) (la lb:List Int) (h30:dP) (hf:bg n) (hn:bw n/\ ∀s∈Net.aa n,0<=s.aK/\s.aK<(length n.rules:Int)) (hx0:i0<length n.aa) (hx2:i2<length (ah n.aa i0).aj) (hl1:length xs=(length n.aa)) (hl2:length ys=(length n.rules)) (hr1:length la<=2*(i0*1000000+i2)) (hr2:length lb<=2*(i0*1000000+i2)):Piece pg 141 2 JK (zAL i0 i2 n) [.row 36 1 (aJ (List.set (vs xs) i0 (.sr 2 1 0 (length la)))),.row 36 1 (aJ (List.set (vs ys) (zBE i0 n) (.sr 3 1 0 (zCA lb)))),.row 3 1 (map aL la),.row 3 1 (zBw lb)] .normal (zM i0 i2 n) [.row 36 1 (aJ (List.set (vs xs) i0 (.sr 2 1 0 (length (db n i0 i2 la))))),.row 36 1 (aJ (List.set (vs ys) (zBE i0 n) (.sr 3 1 0 (length (dc n i0 i2 lb))))),.row 3 1 (map aL (db n i0 i2 la)),.row 3 1 (map aL (dc n i0 i2 lb))]:=
 LM (aS aw mixed (az _)) (aam n i0 i2 xs ys la lb h30 hf hn hx0 hx2 hl1 hl2 hr1 hr2) (ei (o:=(tU n i0 i2 xs ys la lb)) (oI rfl rfl rfl (by simp [tU,plS,AV.pure]) (bp ((eM (f:=(cj [0,1,2,3] 5)) (o:=2) (q:=2) rfl).symm) (bp ((eM (f:=(cj [0,1,2,3] 5)) (o:=3) (q:=3) rfl).symm) (bp ((cR (fQ _)).symm) (bp ((cR (fQ _)).symm) eR))))) (ei (o:=(tV n i0 i2 xs ys la lb)) (oI rfl rfl rfl (by simp [tV,plS,AV.pure]) (bp ((eM (f:=(cj [0,1,5,6] 7)) (o:=2) (q:=5) rfl).symm) (bp ((eM (f:=(cj [0,1,5,6] 7)) (o:=3) (q:=6) rfl).symm) (bp ((cR (fQ _)).symm) (bp ((cR (fQ _)).symm) eR))))) (ei (o:=(tW n i0 i2 xs ys la lb)) (oI rfl rfl rfl (by simp [tW,plS,AV.pure]) (bp ((eM (f:=(cj [0,1,7,6] 8)) (o:=2) (q:=7) rfl).symm) (bp ((eM (f:=(cj [0,1,7,6] 8)) (o:=3) (q:=6) rfl).symm) (bp ((cR (fQ _)).symm) (bp ((cR (fQ _)).symm) eR))))) (ei (o:=(tX n i0 i2 xs ys la lb)) (oI rfl rfl rfl (by simp [tX,plS,AV.pure]) (bp ((eM (f:=(cj [0,1,5,3] 6)) (o:=2) (q:=5) rfl).symm) (bp ((eM (f:=(cj [0,1,5,3] 6)) (o:=3) (q:=3) rfl).symm) (bp ((cR (fQ _)).symm) (bp ((cR (fQ _)).symm) eR))))) (ei (o:=(tY n i0 i2 xs ys la lb)) (oI rfl rfl rfl (by simp [tY,plS,AV.pure]) (bp ((eM (f:=(cj [0,1,6,3] 7)) (o:=2) (q:=6) rfl).symm) (bp ((eM (f:=(cj [0,1,6,3] 7)) (o:=3) (q:=3) rfl).symm) (bp ((cR (fQ _)).symm) (bp ((cR (fQ _)).symm) eR))))) (ei (o:=(tZ n i0 i2 xs ys la lb)) (oI rfl rfl rfl (by simp [tZ,plS,AV.pure]) (bp ((eM (f:=(cj [0,1,5,3] 6)) (o:=2) (q:=5) rfl).symm) (bp ((eM (f:=(cj [0,1,5,3] 6)) (o:=3) (q:=3) rfl).symm) (bp ((cR (fQ _)).symm) (bp ((cR (fQ _)).symm) eR))))) vM)))))) (fa (o:=(tU n i0 i2 xs ys la lb)) (fun h=>⟨rfl,rfl,(congr (congrArg (fun z1 z2=>([.row 36 1 (aJ (List.set (vs xs) i0 (.sr 2 1 0 (length z1)))),.row 36 1 (aJ (List.set (vs ys) (((ah n.aa i0).aK).toNat) (.sr 3 1 0 (length z2)))),.row 3 1 (map aL z1),.row 3 1 (map aL z2)]:List Ob)) h.1) h.2).symm⟩) (fa (o:=(tV n i0 i2 xs ys la lb)) (fun h=>⟨rfl,rfl,(congr (congrArg (fun z1 z2=>([.row 36 1 (aJ (List.set (vs xs) i0 (.sr 2 1 0 (length z1)))),.row 36 1 (aJ (List.set (vs ys) (((ah n.aa i0).aK).toNat) (.sr 3 1 0 (length z2)))),.row 3 1 (map aL z1),.row 3 1 (map aL z2)]:List Ob)) h.1) h.2).symm⟩) (fa (o:=(tW n i0 i2 xs ys la lb)) (fun h=>⟨rfl,rfl,(congr (congrArg (fun z1 z2=>([.row 36 1 (aJ (List.set (vs xs) i0 (.sr 2 1 0 (length z1)))),.row 36 1 (aJ (List.set (vs ys) (((ah n.aa i0).aK).toNat) (.sr 3 1 0 (length z2)))),.row 3 1 (map aL z1),.row 3 1 (map aL z2)]:List Ob)) h.1) h.2).symm⟩) (fa (o:=(tX n i0 i2 xs ys la lb)) (fun h=>⟨rfl,rfl,(congr (congrArg (fun z1 z2=>([.row 36 1 (aJ (List.set (vs xs) i0 (.sr 2 1 0 (length z1)))),.row 36 1 (aJ (List.set (vs ys) (((ah n.aa i0).aK).toNat) (.sr 3 1 0 (length z2)))),.row 3 1 (map aL z1),.row 3 1 (map aL z2)]:List Ob)) h.1) h.2).symm⟩) (fa (o:=(tY n i0 i2 xs ys la lb)) (fun h=>⟨rfl,rfl,(congr (congrArg (fun z1 z2=>([.row 36 1 (aJ (List.set (vs xs) i0 (.sr 2 1 0 (length z1)))),.row 36 1 (aJ (List.set (vs ys) (((ah n.aa i0).aK).toNat) (.sr 3 1 0 (length z2)))),.row 3 1 (map aL z1),.row 3 1 (map aL z2)]:List Ob)) h.1) h.2).symm⟩) (fa (o:=(tZ n i0 i2 xs ys la lb)) (fun h=>⟨rfl,rfl,(congr (congrArg (fun z1 z2=>([.row 36 1 (aJ (List.set (vs xs) i0 (.sr 2 1 0 (length z1)))),.row 36 1 (aJ (List.set (vs ys) (((ah n.aa i0).aK).toNat) (.sr 3 1 0 (length z2)))),.row 3 1 (map aL z1),.row 3 1 (map aL z2)]:List Ob)) h.1) h.2).symm⟩) CC))))))
abbrev zAw (n:Net):Am.Loc:=[(1,.pf (aR n)),(3,.sl 1 (zK n)),(4,.sr 0 1 0 (zY n)),(5,.sr 1 1 0 (zB n)),(36,.sl 2 (zA n)),(37,I (length (zA n):Int)),(38,I 0)]
abbrev zBU (n:Net):Am.Loc:=[(1,.pf (aR n)),(3,.sl 1 (zK n)),(4,.sl 1 (map bY (ia n))),(5,.sl 1 (map bY (fq n)))]
def Wy (n:Net):KB:=⟨(zAw n),[.row 36 1 (replicate (zY n) [.v (.slice none 0 0)]),.row 36 1 (replicate (zB n) [.v (.slice none 0 0)])],false,.ret,[],[],.normal,(zBU n),[],True⟩
theorem C0 (n:Net) (i0 i2:Nat) (l:List Int):db n i0 i2 l=l++tgE n (r24 n) (ah (ah n.aa i0).aj i2):=by
 unfold db tgE
 generalize (ah (ah n.aa i0).aj i2)=e
 have hk: ∀x:Int,List.take (l.length+1) (l++ [x])=l++ [x]:=fun x=>List.take_of_length_le (by simp)
 cases h1:e.op==1 with
 |true=>simp
 |false=>
  cases h2:e.op==2 with
  |true=>cases h3:aB (r24 n) e.n<;>cases h4:cm.bP (aB n.rules e.n)<;>simp [hk]
  |false=>simp
theorem C3 (n:Net) (i0 i2:Nat) (l2:List Int):dc n i0 i2 l2=l2++tgL n (ah (ah n.aa i0).aj i2):=by
 unfold dc tgL
 generalize (ah (ah n.aa i0).aj i2)=e
 cases h1:e.op==1 with
 |true=>
  have h2:(e.op==2)=false:=by
   have:=eq_of_beq h1
   rw [this];rfl
  simp [h2]
 |false=>
  cases h2:e.op==2 with
  |true=>cases h3:aB (r24 n) e.n<;>cases h4:cm.bP (aB n.rules e.n)<;>simp
  |false=>simp
theorem Fw (n:Net):gO (fun i0 i2 G=>List.set G i0 (db n i0 i2 (ah G i0))) (fun i0=>(ah n.aa i0).aj.length) (replicate n.aa.length []) n.aa.length=CZ n:=by
 rw [CE (tg:=fun i k=>tgE n (r24 n) (ah (ah n.aa i).aj k)) (fun i k G _ _=>by rw [C0]) _ (Nat.le_refl _),Nat.sub_self,List.replicate_zero,List.append_nil]
 have h1:(fun i=>(range (ah n.aa i).aj.length).flatMap fun k=>tgE n (r24 n) (ah (ah n.aa i).aj k))=fun i=>(fun s:State=>s.aj.flatMap (tgE n (r24 n))) (ah n.aa i):=funext fun i=>kP (ah n.aa i).aj (tgE n (r24 n))
 rw [h1,Fk n.aa (fun s:State=>s.aj.flatMap (tgE n (r24 n)))]
 rfl
theorem Fx (n:Net):gO (fun i0 i2 G=>List.set G (Int.toNat (ah n.aa i0).aK) (dc n i0 i2 (ah G (Int.toNat (ah n.aa i0).aK)))) (fun i0=>(ah n.aa i0).aj.length) (replicate n.rules.length []) n.aa.length=qf n:=by
 unfold qf
 congr 1
 funext i k G
 rw [C3];rfl
theorem Pf {n:Net} (hn:bw n): ∀R∈CZ n,∀c∈R,0<=c/\c<(n.aa.length:Int):=fun R hR c hc=>by
 obtain ⟨s,hs,rfl⟩:=List.mem_map.1 hR
 obtain ⟨e,he,hc2⟩:=List.mem_flatMap.1 hc
 obtain ⟨i,hi,rfl⟩:=ck hs
 have he2:e∈(aB n.aa (i:Nat)).aj:=he
 exact yF hn _ he2 c hc2
theorem Pg {n:Net} (hn:bw n) (hr: ∀s∈n.aa,0<=s.aK/\s.aK<(n.rules.length:Int)): ∀R∈qf n,∀c∈R,0<=c/\c<(n.rules.length:Int):=fun R hR c hc=>by
 obtain ⟨t,_,rfl⟩:=ck hR
 obtain ⟨s,hs,_,e,he,hc⟩:=(px hr t c).1 hc
 unfold tgL at hc
 cases h2:e.op==2 with
 |true=>
  have:=hn.call s hs e he (eq_of_beq h2)
  rw [h2] at hc
  cases hl:cm.bP (aB n.rules e.n) with
  |true=>
   rw [hl] at hc
   simp only [cond_true,List.mem_singleton] at hc
   rw [hc];exact this
  |false=>rw [hl] at hc;simp at hc
 |false=>rw [h2] at hc;simp at hc
theorem Ph (n:Net) (h30:dP) (hf:bg n) (hn:bw n/\ ∀s∈Net.aa n,0<=s.aK/\s.aK<(length n.rules:Int)):dg pg 141 0 0 (.loop fF) (Wy n):=by
 skip
 have hl:=ry (P:=Tryz.prog) (n:=141) (K:=0) (d:=1) (S:=fun (G:List (List Int)×List (List Int))=>cw 0 36 3 (gV G.1)++cw (length n.aa+1) 36 3 (gV G.2)) (m:=length n.aa) (len:=fun i0=>length (ah n.aa i0).aj) (step:=fun i0 i2 (G:List (List Int)×List (List Int))=>(List.set G.1 i0 (db n i0 i2 (ah G.1 i0)),List.set G.2 (Int.toNat (ah n.aa i0).aK) (dc n i0 i2 (ah G.2 (Int.toNat (ah n.aa i0).aK))))) (I:=fun i k G=>(G.1.length=length n.aa/\ ∀l∈G.1,l.length<=2*(i*1000000+k))/\(G.2.length=length n.rules/\ ∀l∈G.2,l.length<=2*(i*1000000+k))) (s0:=(replicate (length (map ak n.aa)) [],replicate (length (map aD n.rules)) []))
  (fun i0 hx ob=>aae n i0 h30 hf hn hx ob) (fun i0 hx ob=>aaf n i0 h30 hf hn hx ob) (fun i0 hx ob=>aag n i0 h30 hf hn hx ob) (fun i0 hx ob=>aah n i0 h30 hf hn hx ob)
  (fun i0 i2 G hx0 hx2 hI=>⟨pin2 hI.1.1 (by rw [hI.1.1];exact hx0) (by rw [hI.2.1];have:=hn.2 _ (ay hx0);omega) (by kernel_rfl) rfl (mqc (by rw [aI 1 _ (by simp [AV.pure])];exact Bool.or_true _) (mqc (by rw [aI 1 _ (by simp [AV.pure])];exact Bool.or_true _) (mqc rfl (mqc rfl (mqc (by rw [aI 1 _ (by simp [AV.pure])];exact Bool.or_true _) (mqc (by rw [aI 1 _ (by simp [AV.pure])];exact Bool.or_true _) (mqc (by rw [aI 1 _ (by simp [AV.pure])];exact Bool.or_true _) (mqc (by rw [aI 1 _ (by simp [AV.pure])];exact Bool.or_true _) (mqc (by rw [aI 1 _ (by simp [AV.pure])];exact Bool.or_true _) (mqc (by rw [aI 1 _ (by simp [AV.pure])];exact Bool.or_true _) (mqc (by rw [aI 1 _ (by simp [AV.pure])];exact Bool.or_true _) (mqc (by rw [aI 1 _ (by simp [AV.pure])];exact Bool.or_true _) bq)))))))))))) (mqc (by rw [aI 1 _ (by simp [AV.pure])];exact Bool.or_true _) (mqc (by rw [aI 1 _ (by simp [AV.pure])];exact Bool.or_true _) (mqc rfl (mqc rfl (mqc (by rw [aI 1 _ (by simp [AV.pure])];exact Bool.or_true _) (mqc (by rw [aI 1 _ (by simp [AV.pure])];exact Bool.or_true _) (mqc (by rw [aI 1 _ (by simp [AV.pure])];exact Bool.or_true _) (mqc (by rw [aI 1 _ (by simp [AV.pure])];exact Bool.or_true _) (mqc (by rw [aI 1 _ (by simp [AV.pure])];exact Bool.or_true _) (mqc (by rw [aI 1 _ (by simp [AV.pure])];exact Bool.or_true _) (mqc (by rw [aI 1 _ (by simp [AV.pure])];exact Bool.or_true _) (mqc (by rw [aI 1 _ (by simp [AV.pure])];exact Bool.or_true _) bq)))))))))))) rfl rfl (fun xs ys hxs hys=>aan n i0 i2 xs ys (ah G.1 i0) (ah G.2 (Int.toNat (ah n.aa i0).aK)) h30 hf hn hx0 hx2 (hxs.trans hI.1.1) (hys.trans hI.2.1) (hI.1.2 _ (ay (by rw [hI.1.1];exact hx0))) (hI.2.2 _ (ay (by rw [hI.2.1];have:=hn.2 _ (ay hx0);omega)))),
   yK hI.1 (by omega) (by have hgl:=(show (db n i0 i2 (ah G.1 i0)).length<=(ah G.1 i0).length+2 by rw [C0,List.length_append];exact Nat.add_le_add_left (Nf _ _ _) _);have hgm:=hI.1.2 _ (ay (i:=i0) (by rw [hI.1.1];exact hx0));omega),yK hI.2 (by omega) (by have hgl:=(show (dc n i0 i2 (ah G.2 (Int.toNat (ah n.aa i0).aK))).length<=(ah G.2 (Int.toNat (ah n.aa i0).aK)).length+2 by rw [C3,List.length_append];exact Nat.add_le_add_left (Ng _ _) _);have hgm:=hI.2.2 _ (ay (i:=(Int.toNat (ah n.aa i0).aK)) (by rw [hI.2.1];have:=hn.2 _ (ay hx0);omega));omega)⟩)
  (fun i0 hx ob=>aai n i0 h30 hf hn hx ob) (fun i0 hx ob=>aaj n i0 h30 hf hn hx ob) (fun ob=>aak n h30 hf hn ob) (fun ob=>aal n h30 hf hn ob)
  ⟨⟨by simp,yL _⟩,⟨by simp,yL _⟩⟩ (fun i G hi hI=>⟨⟨hI.1.1,fun l hl=>Nat.le_trans (hI.1.2 l hl) (by have:=hf.aj _ (ay hi);omega)⟩,⟨hI.2.1,fun l hl=>Nat.le_trans (hI.2.2 l hl) (by have:=hf.aj _ (ay hi);omega)⟩⟩)
 rw [<-Ua] at hl
 have hG1:aJ (jj (gV (gO (fun i0 i2 (G:List (List Int)×List (List Int))=>(List.set G.1 i0 (db n i0 i2 (ah G.1 i0)),List.set G.2 (Int.toNat (ah n.aa i0).aK) (dc n i0 i2 (ah G.2 (Int.toNat (ah n.aa i0).aK))))) (fun i0=>length (ah n.aa i0).aj) (replicate (length (map ak n.aa)) [],replicate (length (map aD n.rules)) []) (length n.aa)).1))=map bY (ia n):=by
  rw [tT (f:=fun i0 i2 G=>List.set G i0 (db n i0 i2 (ah G i0))) (g:=fun i0 i2 G=>List.set G (Int.toNat (ah n.aa i0).aK) (dc n i0 i2 (ah G (Int.toNat (ah n.aa i0).aK))))]
  simp only [aW]
  rw [Fw,tK,ia]
  exact rA _ fun R hR c hc=>(Pf hn.1 R hR c hc).1
 have hG2:aJ (jj (gV (gO (fun i0 i2 (G:List (List Int)×List (List Int))=>(List.set G.1 i0 (db n i0 i2 (ah G.1 i0)),List.set G.2 (Int.toNat (ah n.aa i0).aK) (dc n i0 i2 (ah G.2 (Int.toNat (ah n.aa i0).aK))))) (fun i0=>length (ah n.aa i0).aj) (replicate (length (map ak n.aa)) [],replicate (length (map aD n.rules)) []) (length n.aa)).2))=map bY (fq n):=by
  rw [tT (f:=fun i0 i2 G=>List.set G i0 (db n i0 i2 (ah G i0))) (g:=fun i0 i2 G=>List.set G (Int.toNat (ah n.aa i0).aK) (dc n i0 i2 (ah G (Int.toNat (ah n.aa i0).aK))))]
  simp only [aW]
  rw [Fx,tK,fq]
  exact rA _ fun R hR c hc=>(Pg hn.1 hn.2 R hR c hc).1
 have hlen1:length (gO (fun i0 i2 (G:List (List Int)×List (List Int))=>(List.set G.1 i0 (db n i0 i2 (ah G.1 i0)),List.set G.2 (Int.toNat (ah n.aa i0).aK) (dc n i0 i2 (ah G.2 (Int.toNat (ah n.aa i0).aK))))) (fun i0=>length (ah n.aa i0).aj) (replicate (length (map ak n.aa)) [],replicate (length (map aD n.rules)) []) (length n.aa)).1=length (map ak n.aa):=by
  rw [tT (f:=fun i0 i2 G=>List.set G i0 (db n i0 i2 (ah G i0))) (g:=fun i0 i2 G=>List.set G (Int.toNat (ah n.aa i0).aK) (dc n i0 i2 (ah G (Int.toNat (ah n.aa i0).aK))))]
  simp only [aW]
  rw [Fw,CZ,List.length_map]
 have hlen2:length (gO (fun i0 i2 (G:List (List Int)×List (List Int))=>(List.set G.1 i0 (db n i0 i2 (ah G.1 i0)),List.set G.2 (Int.toNat (ah n.aa i0).aK) (dc n i0 i2 (ah G.2 (Int.toNat (ah n.aa i0).aK))))) (fun i0=>length (ah n.aa i0).aj) (replicate (length (map ak n.aa)) [],replicate (length (map aD n.rules)) []) (length n.aa)).2=length (map aD n.rules):=by
  rw [tT (f:=fun i0 i2 G=>List.set G i0 (db n i0 i2 (ah G i0))) (g:=fun i0 i2 G=>List.set G (Int.toNat (ah n.aa i0).aK) (dc n i0 i2 (ah G (Int.toNat (ah n.aa i0).aK))))]
  simp only [aW]
  rw [Fx]
  exact vS n
 exact Pc (Lm:=[(1,.pf (aR n)),(3,.sl 1 (map aq (r24 n))),(4,.sr 0 1 0 (length (map ak n.aa))),(5,.sl 1 (map bY (fq n)))]) (aW _ _) hl rfl (mqc (by rw [aI 1 _ (by simp [AV.pure])];exact Bool.or_true _) (mqc (by rw [aI 1 _ (by simp [AV.pure])];exact Bool.or_true _) (mqc rfl (mqc rfl (mqc (by rw [aI 1 _ (by simp [AV.pure])];exact Bool.or_true _) (mqc (by rw [aI 1 _ (by simp [AV.pure])];exact Bool.or_true _) (mqc (by rw [aI 1 _ (by simp [AV.pure])];exact Bool.or_true _) bq))))))) (hlen1.trans (aW _ _)) hG1 hG2 (mqc (.inl ⟨rfl,(aI _ _ (by simp [AV.pure]))⟩) (mqc (.inl ⟨rfl,(aI _ _ (by simp [AV.pure]))⟩) (mqc (.inl ⟨rfl,(by simp [AV.und])⟩) (mqc (.inr ⟨by rw [hlen2];rfl,rfl⟩) bq)))) (mqc (.inl ⟨rfl,aI _ _ (by simp [AV.pure])⟩) (mqc (.inl ⟨rfl,aI _ _ (by simp [AV.pure])⟩) (mqc (.inr ⟨by rw [hlen1];rfl,rfl⟩) (mqc (.inl ⟨rfl,aI _ _ (by simp [AV.pure])⟩) bq))))
def HA (n:Net):KB:=⟨(zAw n),[.row 36 1 (replicate (zY n) [.v (.slice none 0 0)]),.row 36 1 (replicate (zB n) [.v (.slice none 0 0)])],false,.ret,[],[],.normal,(zBU n),[],bw n/\ ∀s∈Net.aa n,0<=s.aK/\s.aK<(length n.rules:Int)⟩
theorem Uj (n:Net) (h30:dP) (hf:bg n):dg pg 141 0 0 (.loop fF) (HA n):=⟨fun _ e=>(by cases e),fun hn _=>(Ph n h30 hf hn).2 trivial rfl⟩
def JL:Code:=bV 5 (aH 10)
def ua (n:Net) (i5:Nat):Am.Loc:=[(3,.sl 1 (zK n)),(4,.sl 1 (map bY (ia n))),(5,.sl 1 (map bY (fq n))),(114,.sl 9 (zc n)),(115,I (length (zc n):Int)),(116,I (i5:Int))]
def Fy (n:Net) (_:Nat):List Ob:=[]
def uc (n:Net) (i5:Nat):Bool:=((ah n.rules i5).bP&&((!(ah n.rules i5).eK)&&(ah (r24 n) i5)))
def ud (n:Net):Bool:=dh (length n.rules) (uc n)
def vT (n:Net) (_:Nat):Am.Loc:=[(2,I 110)]
def LW (n:Net) (_:Nat):List Ob:=[]
def oR (n:Net):Am.Loc:=[(4,.sl 1 (map bY (ia n))),(5,.sl 1 (map bY (fq n)))]
def C4 (n:Net):List Ob:=[]
def HB (n:Net):KB:=⟨ua n 0,Fy n 0,ud n,.ret,vT n (cc (zU n) (uc n)),LW n (cc (zU n) (uc n)),.normal,oR n,C4 n,True⟩
def xv (n:Net) (i5:Nat):List bj:=[htW (uc n i5) .ret (vT n i5) za (LW n i5),nxW (uc n i5) (ua n (i5+1)) (Fy n (i5+1)) (ua n (i5+1)) za (Fy n (i5+1))]
def XY (n:Net) (i5:Nat):GT:=(.r [.k,bT] (.yes (.r [.row (aD (ah n.rules i5)),bT] (.a (.a (.r (uTT 6 [.row (aq (ah (r24 n) i5)),bT,bT]) (.br (.r [bT] (.pick 0)) (.r [.int ↑(i5+1),bT] (.pick 1)))) (.r (bT::bT::bT::uFF 4 [bT]) (.r [.int ↑(i5+1),bT] (.pick 1)))) (.r (uFF 7 [bT]) (.r [.int ↑(i5+1),bT] (.pick 1)))))))
theorem aao (n:Net) (i5:Nat) (_:dP) (hf:bg n) (hx5:i5<(length n.rules)):vcC pg 141 base aO 3000 (kbL []) JL (bu (ua n i5)) (bA (Fy n i5)) 0 (bQ (xv n i5)) (XY n i5):=
 have hr:=hf.rules;have hs:=hf.aa;have hrl:=Hz n;have l1:=aW aD (n.rules);have hb:(decide ((i5:Int)<(length (map aD n.rules):Int)))=true:=decide_eq_true (by omega);
 aZ (an (a1 a0)
 (an hb (an (ac (bR aD (l:=n.rules) (i:=i5) (by omega)) a0)
 (aP (fun (h1:((ah n.rules i5).bP)=true)=>have q0:=(aE h1 rfl:uc n i5=_);
 (aP (fun (h2:(!(ah n.rules i5).eK)=true)=>have q1:=q0.trans (aE h2 rfl);
 (an (a1 (ac (bR aq (l:=r24 n) (i:=i5) (by omega)) (aN 2 (ac h2 (aN 2 (ac h1 a0))))))
 (brP (fun (h3:((ah (r24 n) i5))=true)=>
 (an a0
 (lf (wy (xv n i5) 0) 1 (q1.trans h3)))) (fun h3=>
 (an (ac (dwr (z:= ↑(i5+1)) (by omega) (by omega)) a0)
 (lf (wy (xv n i5) 1) 1 ⟨(q1.trans h3),rfl,rfl⟩)))))) (fun h2=>
 (an (aN 3 (ac (au h2) (aN 2 (ac h1 a0))))
 (an (ac (dwr (z:= ↑(i5+1)) (by omega) (by omega)) a0)
 (lf (wy (xv n i5) 1) 1 ⟨(q0.trans (aY h2)),rfl,rfl⟩)))))) (fun h1=>
 (an (aN 6 (ac (au h1) a0))
 (an (ac (dwr (z:= ↑(i5+1)) (by omega) (by omega)) a0)
 (lf (wy (xv n i5) 1) 1 ⟨(show uc n i5=false from (aY h1)),rfl,rfl⟩))))))))
 (by kernel_rfl)
theorem aap (n:Net) (_:dP) (hf:bg n):vcC pg 141 base aO 3000 (kbL []) JL (bu (ua n (zU n))) (bA (Fy n (zU n))) 0 (bQ [⟨True,(.exit 5),oR n,range 0,C4 n⟩]) zE:=
 have hr:=hf.rules;have hs:=hf.aa;have l1:=aW aD (n.rules);have hb:(zH n)=false:=decide_eq_false (by omega);
 aZ (an (a1 a0)
 (an hb (lf (wy [⟨True,(.exit 5),oR n,range 0,C4 n⟩] 0) 0 trivial)))
 (by kernel_rfl)
theorem Uk (n:Net) (i5:Nat):(xv n i5).all zr=true:=by refine (aF (aQ rfl rfl rfl ?_ rfl) (aF (aQ rfl rfl rfl ?_ rfl) bD))<;>simp (maxDischargeDepth:=9) [nxW,htW,ua,vT,plS,AV.pure]
theorem Ul (n:Net):bj.b8 0 ⟨True,(.exit 5),oR n,range 0,C4 n⟩=true:=(aQ rfl rfl rfl (by simp (maxDischargeDepth:=9) [oR,plS,AV.pure]) rfl)
theorem Um (n:Net) (h30:dP) (hf:bg n):dg pg 141 0 5 (.loop JL) (HB n):=
 have hr:=hf.rules;have hs:=hf.aa;bZ (fun _=>e9 (id:=5) (m:=length n.rules) (t:=uc n) (xr:= .ret) (xn:=(.exit 5)) (Lr:=vT n) (Lx:=oR n) (obr:=LW n) (obx:=C4 n) (V:=fun i5=>vcC pg 141 base aO 3000 (kbL []) JL) (ua n) (Fy n) 0 (xv n) (XY n) _ _ (fun i5 hx5=>aS aw mixed (az _)) (aS aw mixed (az _)) (fun e=>by cases e) (fun e=>by cases e) (fun _=>rfl) (fun i5 hx5=>aao n i5 h30 hf hx5) (fun i5 _=>Uk n i5) (fun i5 _=>show∀ww∈xv n i5,cy _ _ _ _ _ _ ww from (aG da (aG cg bG))) (aap n h30 hf) (Ul n)) (fun h=>h) (fun h=>h)
def r10 (n:Net):Int:=(bif !(r26 n) then 110 else (bif !(r27 n) then 110 else (bif !(r28 n) then 110 else (bif !(r29 n) then 110 else (bif ud n then 110 else (bif gM (ia n) then 110 else (bif gM (fq n) then 110 else 0)))))))
theorem ya:dB [0,5] (aH 10)=[(0,.loop fF),(5,.loop JL)]:=by kernel_rfl
theorem Wz (n:Net) (h30:dP) (hf:bg n):ba pg 10 [.ag (aR n)] [] [] (I (r10 n)) []:=
 have hr:=hf.rules;have hs:=hf.aa;bB (fn:=Tryz.f10) (callf:=(bC [i26 n,i27 n,i28 n,i29 n,i24 n,i30 (ia n),i30 (fq n)] base)) (pu:=aO) (lf:=3000) (l:=[(0,HA n),(5,HB n)]) (t:=(.r [bT] (.a zAz (.a (.r (.int 0::bT::.int 1::bT::uFF 4 [bT]) zD) (.a (.r [.int 0,bT,.int 1,bT,bT,.int 2,bT,bF,bF,bT] zD) (.r [.int 0,bT,.int 1,bT,bT,.int 2,bT,bT,.int 3,bT,bT] (.br zD (.r [.int 4,bT] (.r [bT] (.r [bT] (.r [bT] (.no (.r [bT] (.br .nil (.a (.r [.int 5,bF,bF,bT] zD) (.r [.int 5,bT,bT,.int 6,bT] (.br zD zD))))))))))))))))) (bf (.cons (g26 n) rfl (.cons (g27 n) rfl (.cons (g28 n) rfl (.cons (g29 n) rfl (.cons (g24 n) rfl (.cons (g30 h30 (ia n)) rfl (.cons (g30 h30 (fq n)) rfl cv.nil))))))) aw) mixed Tryz.func10 (by kernel_rfl) (show Tryz.f10.body=some (aH 10) by kernel_rfl) (Nat.le_of_ble_eq_true rfl) (bO (l:=[(0,HA n),(5,HB n)]) ya (aV (Uj n h30 hf) rfl (aV (Um n h30 hf) rfl bn)) rfl) rfl (aZ
 (an a0
 (aP (fun (h0:(!(r26 n))=true)=>
 (an (aN 5 (ac (n2 h0) (cA (g26 n) hf a0)))
 (an a0
 (iE (show r10 n=110 from (cdT h0 rfl)))))) (fun h0=>
 (aP (fun (h1:(!(r27 n))=true)=>
 (an (aN 3 (ac (n2 h1) (a1 (cA (g27 n) hf (ac (au h0) (cA (g26 n) hf a0))))))
 (an a0
 (iE (show r10 n=110 from (cdF h0 (cdT h1 rfl))))))) (fun h1=>
 (aP (fun (h2:(!(r28 n))=true)=>
 (an (a1 (ac (n2 h2) (a1 (cA (g28 n) hf (ac (au h1) (a1 (cA (g27 n) hf (ac (au h0) (cA (g26 n) hf a0)))))))))
 (an a0
 (iE (show r10 n=110 from (cdF h0 (cdF h1 (cdT h2 rfl)))))))) (fun h2=>
 (an (a1 (cA (g29 n) ⟨vR h1 h2,hf⟩ (ac (au h2) (a1 (cA (g28 n) hf (ac (au h1) (a1 (cA (g27 n) hf (ac (au h0) (cA (g26 n) hf a0))))))))))
 (brP (fun (h3:(!(r29 n))=true)=>
 (an a0
 (iE (show r10 n=110 from (cdF h0 (cdF h1 (cdF h2 (cdT h3 rfl)))))))) (fun h3=>
 (an (cA (g24 n) ⟨vR h1 h2,hf⟩ a0)
 (have l1:=aW ak (n.aa);an (ac (DE (n:=length (map ak n.aa)) (B:=24) (by omega) (show length (map ak n.aa)<=9223372036854775807 by omega)) a0)
 (have l2:=aW aD (n.rules);an (ac (DE (n:=length (map aD n.rules)) (B:=24) (by omega) (show length (map aD n.rules)<=9223372036854775807 by omega)) a0)
 (an a0
 (an (kbT (HA n) ⟨vR h1 h2,Nh h2⟩) (an (rfl:false=false) (an a0
 (an (kbT (HB n) trivial) (brP (fun (h4:(ud n)=true)=>
 (iE (show r10 n=110 from (cdF h0 (cdF h1 (cdF h2 (cdF h3 (cdT h4 rfl)))))))) (fun h4=>
 (aP (fun (h5:(gM (ia n))=true)=>
 (an (a1 (ac (n2 h5) (cA (g30 h30 (ia n)) (JJ (vR h1 h2) hf) a0)))
 (an a0
 (iE (show r10 n=110 from (cdF h0 (cdF h1 (cdF h2 (cdF h3 (cdF h4 (cdT h5 rfl))))))))))) (fun h5=>
 (an (cA (g30 h30 (fq n)) (T9 (vR h1 h2) (Nh h2) hf) (a1 (ac (au h5) (cA (g30 h30 (ia n)) (JJ (vR h1 h2) hf) a0))))
 (brP (fun (h6:(gM (fq n))=true)=>
 (an a0
 (iE (show r10 n=110 from (cdF h0 (cdF h1 (cdF h2 (cdF h3 (cdF h4 (cdF h5 (cdT h6 rfl))))))))))) (fun h6=>
 (an a0
 (iE (show r10 n=0 from (cdF h0 (cdF h1 (cdF h2 (cdF h3 (cdF h4 (cdF h5 (cdF h6 rfl)))))))))))))))))))))))))))))))))))
 (by kernel_rfl))
end Go.Proofs.YtfkjfjalecikkaaGreatDoor
end
