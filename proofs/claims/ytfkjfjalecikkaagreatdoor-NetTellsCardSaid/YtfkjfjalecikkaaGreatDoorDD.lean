/- An abstract machine, part Px: calls that are known to return or to panic; regions that draw their order and are left by a panic. An abstract machine, part Vc: WHAT MUST BE TRUE for code to end as is told, as one statement: what is common to several ways is run once. An abstract machine, part Vd: states told anew, ahead of a known block and behind it: a nil slice as an empty row; a row that is written no more as memory. An abstract machine, part Ve: a call on memory is the same call on an object that is live; known calls on a store that is written out; loops whose rounds lead to states that are told anew. GRAPHS THAT ARE BUILT: what a piece does not touch is hidden from it; two rows of rows at once; pieces whose objects are told with their numbers. Calls that are known on a store that is written out, and change it. Words of the proofs that find their side conditions by themselves. Words that the texts of law11 lean on. strconv.Itoa (the shelf's laying, in plain words), as a call that is known. Words for NetTells: strings put together, closures over variables, a variable that is nil as an empty row. A number's digits. guard.list: the words of numbers, a piece of an array that nobody writes to again. Of guards: names, numbers. Guards, in plain words. Guards: how great, what they hold. Guards: which may be. -/
import Derived.Shelf.Strconv.Itoa3
import Derived.Lib.ItoaLen
import Derived.Lib.AppendIntMem
import Derived.Test.YtfkjfjalecikkaaGreatDoorDC
set_option linter.defProp false
open Go.IntKind (wrap)
noncomputable section
open List (length map range replicate)
set_option maxRecDepth 100000
namespace Go.Am
structure qV where
 f:FuncId
 args:lXF
 ob0:lXE
 c:Bool
 r:AV
 ob1:lXE
 v:AV
 ob2:lXE
 p:Prop
 lo:Nat
def qV.bu(P:Program)(c:qV):Prop:=c.p->(c.c=true->aQ P c.f c.args c.ob0 [] c.r c.ob1)/\(c.c=false->Cu P c.f c.args c.ob0 c.v c.ob2)/\ ∀i,tb c.lo i=false->c.ob1[i]? =c.ob0[i]? /\c.ob2[i]? =c.ob0[i]?
noncomputable def callX(c:qV)(args:lXF)(O:Tri Ob)(N:Nat)(tm:TM)(g:List Gi):Bool->CR
 |true=> .ret c.r (dq c.ob1) c.ob1.length ((((tm.at N).told g<|dec c.p&&dec (args=c.args/\oW O N 0=c.ob0)).asks c.c).low c.lo)
 |false=> .pan c.v (dq c.ob2) c.ob2.length ((((tm.at N).told g<|dec c.p&&dec (args=c.args/\oW O N 0=c.ob0)).asks<|!c.c).low c.lo)
noncomputable def knownX(T:List qV)(callf:cd):cd:=λf args O N tm=>match tm.gd with
 | .cq i _:: .b d::g=>match T[i]? with
  |some c=>cond (Nat.beq f c.f&&Nat.blt f dm) (callX c args O N tm g d) (callf f args O N tm)
  |none=>callf f args O N tm
 |_=>callf f args O N tm
inductive Fx(P:Program):List qV->Prop
 |nil:Fx P []
 |cons {c:qV} {T:List qV} (h:c.bu P) (t:Fx P T):Fx P (c::T)
section
variable{P:Program}
theorem Fx.get: ∀{T:List qV},Fx P T-> ∀{i:Nat}{c:qV},T[i]? =some c->c.bu P
 |[],_,i,c,h=>by simp at h
 |d::T,.cons h t,i,c,e=>by
  cases i with
  |zero=>simp at e;subst e;exact h
  |succ i=>exact t.get oaO
end
def NF{P:Program}{ops:Array Oper}{L:Loc}{ob ob1:lXE}{av:AV}{x:Operand}{f:FuncId}{fs cs avs:lXF}{args:List Operand}{xs:List (Operand×AV)}{ts:Array TypeId}{dst:Option Nat}{ty:TypeId}{pos:String}{after:Array Edge}(hx:aX L x=some (.fn (.func f) fs cs))(ha:EvA L args avs xs)(hc:Cu P f (fs++(avs++cs)) ob av ob1):tX P ops ⟨dst,.call ⟨.value x,args.toArray,ts⟩,ty,pos,after,none⟩ (cg<|(x,.fn (.func f) fs cs)::xs) ob av ob1:=by
 intro m γ w a K Q hi hl hq;have hev:dV L ((x,.fn (.func f) fs cs)::xs):=⟨hx,jy ha⟩;obtain⟨h1,hxs⟩:=hC (ef hev) hl hev (λ_ h=>h);refine⟨rfl,?_⟩;simp only[Rep]at h1;obtain⟨us,vs,e,r1,r2⟩:=h1;obtain⟨⟨fn,hf,hname,hb⟩,hc⟩:=hc;unfold Oper.wp;rw[qz hf hname hb (first:=us) (cap:=vs) e,Oper.upon_enter];refine(hc m γ w (us++args.map a.eval++vs) hi ?_).mono ?_
 ·rw[agJ];exact cu r1 (cu (jN ha hxs) r2)
 ·rintro e w' ⟨m',γ',r',ob',⟨rfl,rfl⟩,h2,h3,h4,h5⟩;cases e with
  |returned v=>exact h2.elim
  |panicked chain=>obtain⟨v,rfl,hv⟩:=h2;exact hq m' γ' w' v h3 ⟨h3.mem,λo g hg hk=>h5 o g hk hg⟩ h4 hv
  |outgrown=>exact h2.elim
noncomputable def panX(callf:cd)(o:Oper)(M:Tri AV)(O:Tri Ob)(N:Nat)(tm:TM):Option (Loc×CR):=match o.guard with
 |some _=>none
 |none=>match o.op with
  | .call c=>match c.callee with
   | .value x=>match tev M x,Cd (tev M) c.args.toList with
    |some (.fn (.func f) fs cs),some (avs,xs)=>some (cg ((x,.fn (.func f) fs cs)::xs),callf f (fs++(avs++cs)) O N tm)
    |_,_=>none
   |_=>none
  |_=>none
inductive GT where
 |nil
 |r (g:List Gi) (k:GT)
 |a (a b:GT)
 |br (a b:GT)
 |yes (a:GT)
 |no (a:GT)
 |more (a:GT)
 |pick (j:Nat)
abbrev VK:=GT->AX->Tri AV->Tri Ob->Nat->Prop
abbrev VC:=Tri AV->Tri Ob->Nat->VK->GT->Prop
noncomputable def panD(P:Program)(n:Nat)(callf:cd)(pu:FuncId->Bool)(ops:List Oper)(M:Tri AV)(O:Tri Ob)(N:Nat)(k:VK):GT->Prop
 | .r (.cq j [r0]::g1) (.r g2 t)=>match fL P n callf pu ops (ops.take j) M O N ⟨0,g1,[]⟩with
  | .ok recs1 M1 O1 N1 t1=>cr t1.ok=true/\match ops.drop j with
   |o::l2=>match panX callf o M1 O1 N1 ⟨0,g2,[]⟩with
    |some (us,.pan av O2 N2 t2)=>cr t2.ok=true/\match fL P n callf pu ops l2 (upT M1 r0 o.dst) O1 N1 ⟨0,t2.gd,[]⟩with
     | .ok recs2 _ _ _ t3=>cr t3.ok=true/\(pn ops (recs1++⟨o.dst,us,r0,[],.chg t2.lo⟩::recs2)&&(Cj n o.dst&&((ops.take j).all (λq=> !(q.dst==o.dst))&&l2.all (λq=> !(q.dst==o.dst)))))=true/\k t (.panic av) .e O2 N2
     |_=>False
    |_=>False
   |[]=>False
  |_=>False
 |_=>False
section
variable{P:Program}{n K:Nat}{callf:cd}{pu:FuncId->Bool}
theorem Z2{G:Oper->Rec->lXE->lXE->Prop}{l1 l2:List Oper}{r1 r2:List Rec}{L L1 L2:Loc}{ob ob1 ob2:lXE}(h:EvG G n l1 r1 L ob L1 ob1)(k:EvG G n l2 r2 L1 ob1 L2 ob2):EvG G n (l1++l2) (r1++r2) L ob L2 ob2:=by
 induction h with
 |nil=>exact k
 |cons a b c d _ ih=>exact .cons a b c d (ih k)
theorem Kj{G G':Oper->Rec->lXE->lXE->Prop}{l:List Oper}{r:List Rec}{L L2:Loc}{ob ob2:lXE}(h:EvG G n l r L ob L2 ob2)(hG: ∀o∈l,∀rc ob ob',G o rc ob ob' ->G' o rc ob ob'):EvG G' n l r L ob L2 ob2:=by
 induction h with
 |nil=>exact .nil _ _
 |cons a b c d _ ih=>exact .cons a b c (d.imp<|hG _ oaf _) (ih λo ho=>hG o<|af9 _ ho)
theorem HG(hm:P.follows .mixedOrders=true){id:Nat}{l l1 l2:List Oper}{o:Oper}{recs1 recs2:List Rec}{us L L1 L2:Loc}{ob ob1 obp ob2:lXE}{av r0:AV}{t:Nat}{df:Option Nat}{Q:dy}(hd:jk df (.region id l.toArray true))(hl:l=l1++o::l2)(h1:Ev P n l.toArray l1 recs1 L ob L1 ob1)(hus:Sub us L1)(hn: ∀d,o.dst=some d->d<n)(hp:tX P l.toArray o us ob1 av obp)(h2:Ev P n l.toArray l2 recs2 (upd L1 ⟨o.dst,us,r0,[],.chg t⟩) ob1 L2 ob2)(hk1: ∀r∈recs1,r.ks=[])(hk2: ∀r∈recs2,r.ks=[])(hne: ∀q,q∈l1\/q∈l2->q.dst≠o.dst)(hok:pn l (recs1++⟨o.dst,us,r0,[],.chg t⟩::recs2)=true)(hq:Q (.panic av) [] obp):awp df P n K [] (.region id l.toArray true) Q L ob:=by
 intro m γ w a hi hla hs hdf;let G:Oper->Rec->lXE->lXE->Prop:=λo' rc ob ob'=>(o'.dst≠o.dst/\GStep P l.toArray o' rc ob ob')\/(o'=o/\tX P l.toArray o' rc.us ob av obp);have hev:EvG G n l (recs1++⟨o.dst,us,r0,[],.chg t⟩::recs2) L ob L2 ob2:=by rw[hl];exact Z2 (Kj (hl▸h1) λq hq _ _ _ h=> .inl ⟨hne q (.inl hq),hl▸h⟩) (.cons hus rfl hn ⟨λ_ _=>rfl,.inr ⟨rfl,hp⟩⟩<|Kj (hl▸h2) λq hq _ _ _ h=> .inl ⟨hne q (.inr hq),hl▸h⟩)
 have hks: ∀i,((recs1++⟨o.dst,us,r0,[],.chg t⟩::recs2).getD i ⟨none,[],.any,[],.pure⟩).ks=[]:=λi=>by
  rw[agq];cases e:(recs1++⟨o.dst,us,r0,[],.chg t⟩::recs2)[i]? with
  |none=>rfl
  |some r=>
   rcases agn.1 (agm e)with h|h
   ·exact hk1 r h
   ·rcases agc.1 h with rfl|h
    ·rfl
    ·exact hk2 r h
 have hstill: ∀{i:Nat}{q:Oper},l.toArray[i]? =some q->df=none\/Oper.still q=true:=λ{i q} hq=>hd.imp (λh=>h) λe=>by simp only[Code.inR,af2]at e;exact e q (by have:=Array.mem_of_getElem? hq;simpa using this)
 have ht0:Trans m γ w m γ {w with drawn:=w.drawn+1}:=⟨λ_ _ h=>h,λ_ _ h=> .inl h,λ_ _ h=>h,rfl,rfl,rfl,afG _,λ_ _ _=>rfl⟩;refine tK (G:=G) (R:=λm1 γ1 w1 a1=>Trans m γ w m1 γ1 w1/\a1.defers=a.defers/\a1.tmps.size=n/\ ∀q g,γ q=some g->γ1 q=some g) (B:=λi=>i=l1.length) hm ?_ ?_ hev hok ⟨ht0,rfl,hs,λ_ _ h=>h⟩ hi hla hs λhB=>absurd rfl (hB l1.length<|by rw[hl];simp)
 ·intro i o' rc oba obb m1 γ1 w1 a1 K' ho hr hg hi1 hl1 hk;rcases hg with⟨hd1,hg⟩|⟨rfl,hg⟩
  ·refine qk (hstill ho) (hg m1 γ1 w1 a1 K' _ hi1 hl1<|hk λe=>hd1 ?_);subst e;have:l.toArray[l1.length]? =some o:=by rw[hl];simp
   rw[this]at ho;cases ho;rfl
  ·obtain⟨hw,hwp⟩:=hg m1 γ1 w1 a1 K' (jx (Code.region id l.toArray true).rf a.defers K [] n Q m γ w) hi1 hl1 λm' γ' w' v ht hle hi' hv=>⟨m',γ',[],obp,.panic av,hq,⟨v,rfl,hv⟩,hr.1.trans ht,hi',λt av e=>by simp[lk]at e,hr.2.2.1,.of_eq hr.2.1,λq g hq' hg=>hle.gam q g (hr.2.2.2 q g hg) rfl⟩;rw[if_pos hw];exact pk (hstill ho) hwp
 ·intro i o' m1 γ1 w1 a1 m' γ' w' x ho hr ht hle;exact⟨hr.1.trans ht,(lZ _ _ _).trans hr.2.1,(qj _ _ _).trans hr.2.2.1,λq g hg=>hle.gam q g (hr.2.2.2 q g hg) (by rw[hks i];rfl)⟩
theorem Z3(hcf:b0 P callf)(hm:P.follows .mixedOrders=true){ops:List Oper}{M:Tri AV}{O:Tri Ob}{N:Nat}{k:VK}{t:GT}(h:panD P n callf pu ops M O N k t){L:Loc}{ob:lXE}(hM:cm M L)(hO:bK O N ob){id:Nat}{df:Option Nat}{Q:dy}(hd:jk df (.region id ops.toArray true))(hq: ∀{t':GT}{x:AX}{M':Tri AV}{O':Tri Ob}{N':Nat}{L':Loc}{ob':lXE},k t' x M' O' N' ->cm M' L' ->bK O' N' ob' ->Q x L' ob'):awp df P n K [] (.region id ops.toArray true) Q L ob:=by
 unfold panD at h;split at h
 ·rename_i j r0 g1 g2 t;split at h
  ·rename_i recs1 M1 O1 N1 t1 hr1;obtain⟨a1,h⟩:=h;split at h
   ·rename_i o l2 hdr;split at h
    ·rename_i us av O2 N2 t2 hpx;obtain⟨a2,h⟩:=h;split at h
     ·rename_i recs2 M3 O3 N3 t3 hr2;obtain⟨a3,a4,h⟩:=h;have hl:ops=ops.take j++o::l2:=by rw[<-hdr,ags]
      have k1:=lA (pu:=pu) (n:=n) hcf ops (ops.take j) hM hO ⟨0,g1,[]⟩;rw[hr1]at k1;obtain⟨L1,ob1,b1,b2,b3,b4,_⟩:=k1 a1;simp only[afv,af2,afP,beq_eq_false_iff_ne]at a4;obtain⟨c1,c2,c3,c4⟩:=a4;obtain⟨dst,op,ty,pos,after,guard⟩:=o;simp only[panX]at hpx;split at hpx
      ·cases hpx
      ·split at hpx
       ·rename_i c;obtain⟨callee,args,ts⟩:=c;simp only at hpx;split at hpx
        ·rename_i x;split at hpx
         ·rename_i f fs cs avs xs hx ha;simp only[afD,afW]at hpx;obtain⟨rfl,hc⟩:=hpx;obtain⟨hy,_,hc2⟩:=(hcf _ _ _ _ _).2 _ _ _ _ hc;obtain⟨obp,e1,e2,_⟩:=hc2 a2 ob1 b2;rw[b1.tev]at hx ha;have hA:=jE ha;have hev:dV L1 ((x,.fn (.func f) fs cs)::xs):=⟨hx,jy hA⟩;have hps:tX P ops.toArray ⟨dst,.call ⟨.value x,args,ts⟩,ty,pos,after,none⟩ (cg<|(x,.fn (.func f) fs cs)::xs) ob1 av obp:=by have:=NF (P:=P) (ops:=ops.toArray) (ts:=ts) (dst:=dst) (ty:=ty) (pos:=pos) (after:=after) hx hA e2;simpa using this
          have k2:=lA (pu:=pu) (n:=n) hcf ops l2 (M:=upT M1 r0 dst) (L:=upd L1 ⟨dst,cg ((x,.fn (.func f) fs cs)::xs),r0,[],.chg t2.lo⟩) (b1.up dst r0) b2 ⟨0,t2.gd,[]⟩;rw[hr2]at k2;obtain⟨L2,ob2,d1,d2,d3,d4,_⟩:=k2 a3;exact HG hm hd hl b3 (e7<|ef hev) (λd e=>by have:=c2;simp only at e;rw[show dst=some d from e]at this;exact nbl this) hps d3 b4 d4 (λq hq'=>hq'.elim (c3 q)<|c4 q) c1 (hq h cm.nil e1)
         ·cases hpx
        ·cases hpx
       ·cases hpx
     ·exact h.elim
    ·exact h.elim
   ·exact h.elim
  ·exact h.elim
 ·exact h.elim
end
def vkR(k:VK)(t:GT):RX->Prop
 | .ok x M O N tm=>cr tm.ok=true/\k t x M O N
 | .fail=>False
noncomputable def eN(run:Tri AV->Tri Ob->Nat->TM->RX):VC:=λM O N k t=>GT.rec (motive:=λ_=>Prop) (vkR k .nil<|run M O N ⟨0,[],[]⟩) (λg r _=>vkR k r<|run M O N ⟨0,g,[]⟩) (λ_ _ a b=>a\/b) (λ_ _ _ _=>False) (λ_ _=>False) (λ_ _=>False) (λ_ _=>False) (λ_=>False) t
def litV(A B:Prop):Bool->Prop
 |true=>A
 |false=>B
def brV(A B:GT->Prop)(A1 B1:Prop)(v:Bool):GT->Prop
 | .br ta tb=>(v=true/\A ta)\/(v=false/\B tb)
 | .yes t=>v=true/\A t
 | .no t=>v=false/\B t
 |_=>litV A1 B1 v
noncomputable def Kk(x:Operand)(a b:VC)(M:Tri AV)(O:Tri Ob)(N:Nat)(k:VK)(t:GT):Option AV->Prop
 |some (.v<|.bool v)=>brV (a (Qo M true x) O N k) (b (Qo M false x) O N k) (a M O N k t) (b M O N k t) v t
 |_=>False
noncomputable def kbV(q:KB):VC:=λM O N k t=>A6 q M O N=true/\
 brV (λt=>k t q.x1 (dX q.L1) (dq q.ob1) q.ob1.length) (λt=>k t q.x2 (dX q.L2) (dq q.ob2) q.ob2.length) (k t q.x1 (dX q.L1) (dq q.ob1) q.ob1.length) (k t q.x2 (dX q.L2) (dq q.ob2) q.ob2.length) q.hit t
def blkK(id:Nat)(k:VK):VK:=λt x M O N=>k t (lF id x) M O N
def seqK(b:VC)(k:VK):VK:=λt x M O N=>match x with
 | .normal=>b M O N k t
 | .ret=>k t .ret M O N
 | .exit j=>k t (.exit j) M O N
 | .goto l=>k t (.goto l) M O N
 | .panic av=>k t (.panic av) M O N
noncomputable def unrV(a:VC)(k:VK)(j:Nat):Tri AV->Tri Ob->Nat->GT->Prop:=
 Nat.rec (motive:=λ_=>Tri AV->Tri Ob->Nat->GT->Prop) (λ_ _ _ _=>False) (λ_ ih M O N t=>a M O N (λt' x M' O' N'=>match x with
  | .normal=>ih M' O' N' t'
  | .ret=>k t' .ret M' O' N'
  | .exit j=>k t' (.exit j) M' O' N'
  | .goto l=>k t' (.goto l) M' O' N'
  | .panic av=>k t' (.panic av) M' O' N') t) j
noncomputable def abF(run:Tri AV->Tri Ob->Nat->TM->RX)(a:VC):VC:=λM O N k t=>match t with
 | .more t'=>unrV a k 12 M O N t'
 |t=>eN run M O N k t
def abG(k:VK):VK:=λt x M O N=>match x with
 | .normal=>k t .normal M O N
 | .ret=>k t .ret M O N
 | .exit j=>k t (.exit j) M O N
 | .goto _=>False
 | .panic av=>k t (.panic av) M O N
section
variable(run:Tri AV->Tri Ob->Nat->TM->RX)
noncomputable def Qs(a:VC):VC:=λM O N k t=>match t with
 | .more t'=>a M O N (abG k) t'
 |t=>eN run M O N k t
noncomputable def regV(pan:VC)(draw:Bool):VC:=λM O N k t=>match t with
 | .more t'=>draw=true/\pan M O N k t'
 |t=>eN run M O N k t
end
noncomputable def Qt(id:Nat)(a:VC):Option KB->VC
 |some q=>kbV q
 |none=>λM O N k t=>a M O N (blkK id k) t
noncomputable def vcC(P:Program)(n:Nat)(callf:cd)(pu:FuncId->Bool)(lf:Nat)(kb:KBs)(c:Code):VC:=
 Code.rec (motive:=λ_=>VC)
  (λM O N k t=>k t .normal M O N)
  (λ_ ops draw=>regV (λM O N tm=>Ck ops.toList draw<|fL P n callf pu ops.toList ops.toList M O N tm) (panD P n callf pu ops.toList) draw)
  (λ_ _ a b M O N k t=>a M O N (seqK b k) t)
  (λx _ _ a b M O N k t=>Kk x a b M O N k t<|tev M x)
  (λid _ a=>Qt id a<|kb id)
  (λc a=>abF (λM O N tm=>dJ P n callf pu lf (.loop c) M O N tm) a)
  (λg ps a b _ _=>eN λM O N tm=>dJ P n callf pu lf (.rangeFunc g ps a b) M O N tm)
  (λid M O N k t=>k t (.exit id) M O N)
  (λc a=>Qs (λM O N tm=>dJ P n callf pu lf (.scope c) M O N tm) a)
  (λ_ M O N k t=>k t .normal M O N)
  (λ_ _ _ _ _ _=>False)
  (λM O N k t=>k t .ret M O N)
  (λ_ _ _ _ _ _=>False) c
section
variable{P:Program}{n K:Nat}{callf:cd}{pu:FuncId->Bool}{lf:Nat}
structure ic(P:Program)(n K:Nat)(c:Code)(V:VC):Prop where
 ok: ∀{M:Tri AV}{O:Tri Ob}{N:Nat}{k:VK}{t:GT},V M O N k t-> ∀{L:Loc}{ob:lXE},cm M L->bK O N ob-> ∀{df:Option Nat}{Q:dy},jk df c->
 (∀{t':GT}{x:AX}{M':Tri AV}{O':Tri Ob}{N':Nat}{L':Loc}{ob':lXE},k t' x M' O' N' ->cm M' L' ->bK O' N' ob' ->Q x L' ob')->awp df P n K [] c Q L ob
section
variable{c:Code}{run:Tri AV->Tri Ob->Nat->TM->RX}
theorem xE(hr:fZ P n K c run){M:Tri AV}{O:Tri Ob}{N:Nat}{k:VK}{t:GT}{g:List Gi}(h:vkR k t (run M O N ⟨0,g,[]⟩)){L:Loc}{ob:lXE}(hM:cm M L)(hO:bK O N ob){df:Option Nat}{Q:dy}(hd:jk df c)(hq: ∀{t':GT}{x:AX}{M':Tri AV}{O':Tri Ob}{N':Nat}{L':Loc}{ob':lXE},k t' x M' O' N' ->cm M' L' ->bK O' N' ob' ->Q x L' ob'):awp df P n K [] c Q L ob:=by
 cases hc:run M O N ⟨0,g,[]⟩with
 |fail=>rw[hc]at h;exact h.elim
 |ok x M' O' N' tm=>rw[hc]at h;exact(((hr hc).2 h.1 ⟨L,ob,hM,hO⟩) L ob hM hO).2 df Q hd λL' ob' h1 h2=>hq h.2 h1 h2
theorem qX(hr:fZ P n K c run):ic P n K c (eN run):=by
 constructor;intro M O N k t h L ob hM hO df Q hd hq;induction t with
 |nil=>exact xE hr h hM hO hd hq
 |r g r _=>exact xE hr h hM hO hd hq
 |a a b ha hb=>exact h.elim ha hb
 |_=>exact h.elim
theorem Z4{pan:VC}{draw:Bool}(hr:fZ P n K c run)(hp:draw=true-> ∀{M:Tri AV}{O:Tri Ob}{N:Nat}{k:VK}{t:GT},pan M O N k t-> ∀{L:Loc}{ob:lXE},cm M L->bK O N ob-> ∀{df:Option Nat}{Q:dy},jk df c->(∀{t':GT}{x:AX}{M':Tri AV}{O':Tri Ob}{N':Nat}{L':Loc}{ob':lXE},k t' x M' O' N' ->cm M' L' ->bK O' N' ob' ->Q x L' ob')->awp df P n K [] c Q L ob):ic P n K c (regV run pan draw):=by
 constructor;intro M O N k t h L ob hM hO df Q hd hq;have hs:ic P n K c (eN run):=qX (run:=run) hr;cases t with
 |more t'=>exact hp h.1 h.2 hM hO hd hq
 |nil=>exact hs.ok (show eN run M O N k .nil from h) hM hO hd hq
 |r g r=>exact hs.ok (show eN run M O N k (.r g r)from h) hM hO hd hq
 |a a b=>exact hs.ok (show eN run M O N k (.a a b)from h) hM hO hd hq
 |br a b=>exact hs.ok (show eN run M O N k (.br a b)from h) hM hO hd hq
 |yes a=>exact hs.ok (show eN run M O N k (.yes a)from h) hM hO hd hq
 |no a=>exact hs.ok (show eN run M O N k (.no a)from h) hM hO hd hq
 |pick j=>exact hs.ok (show eN run M O N k (.pick j)from h) hM hO hd hq
end
theorem Kl{A B:Prop}{v:Bool}(h:litV A B v):(v=true/\A)\/(v=false/\B):=by
 cases v with
 |true=>exact .inl ⟨rfl,h⟩
 |false=>exact .inr ⟨rfl,h⟩
theorem Qu{x:Operand}{a b:Code}{ra rb:VC}(ha:ic P n K a ra)(hb:ic P n K b rb):ic P n K (.cond x a b) (λM O N k t=>Kk x ra rb M O N k t<|tev M x):=by
 constructor;intro M O N k t h L ob hM hO df Q hd hq;have hev:aX L x=tev M x:=by rw[hM.tev]
 have d1:jk df a:=hd.imp (λh=>h) oal;have d2:jk df b:=hd.imp (λh=>h) oal;replace h:Kk x ra rb M O N k t (tev M x):=h;unfold Kk at h;split at h
 ·rename_i v hc;cases t with
  |br ta tb=>
   rcases h with⟨rfl,h⟩|⟨rfl,h⟩
   ·exact fp (hev.trans hc) (λ_=>ha.ok h (oz hM hc) hO d1 hq) (λe=>by cases e)
   ·exact fp (hev.trans hc) (λe=>by cases e) (λ_=>hb.ok h (oz hM hc) hO d2 hq)
  |yes t=>obtain⟨rfl,h⟩:=h;exact fp (hev.trans hc) (λ_=>ha.ok h (oz hM hc) hO d1 hq) (λe=>by cases e)
  |no t=>obtain⟨rfl,h⟩:=h;exact fp (hev.trans hc) (λe=>by cases e) (λ_=>hb.ok h (oz hM hc) hO d2 hq)
  |_=>
   rcases Kl h with⟨rfl,h⟩|⟨rfl,h⟩
   ·exact fp (hev.trans hc) (λ_=>ha.ok h hM hO d1 hq) (λe=>by cases e)
   ·exact fp (hev.trans hc) (λe=>by cases e) (λ_=>hb.ok h hM hO d2 hq)
 ·exact h.elim
theorem ada{id:Nat}{c:Code}{q:KB}(hk:(q.p->q.hit=true->Piece P n K (.block id c) q.L0 q.ob0 q.x1 q.L1 q.ob1)/\(q.p->q.hit=false->Piece P n K (.block id c) q.L0 q.ob0 q.x2 q.L2 q.ob2)):ic P n K (.block id c) (kbV q):=by
 constructor;intro M O N k t h L ob hM hO df Q hd hq;obtain⟨ha,h⟩:=h;simp only[A6,afv]at ha;have h1:=HD hM (aH.1 ha.1.1);have h2:=aH.1 ha.1.2;have h3:=aH.1 ha.2;rw[nr hO]at h2;subst h2;have fin: ∀{y:AX}{L1:Loc}{ob1:lXE}{t':GT},Piece P n K (.block id c) q.L0 q.ob0 y L1 ob1->k t' y (dX L1) (dq ob1) ob1.length->awp df P n K [] (.block id c) Q L q.ob0:=λ{y L1 ob1 t'} hp hk=>we h1 (hp df Q hd<|hq hk (ib _)<|en _);cases t with
 |br ta tb=>
  rcases h with⟨e,h⟩|⟨e,h⟩
  ·exact fin (hk.1 h3 e) h
  ·exact fin (hk.2 h3 e) h
 |yes t=>exact fin (hk.1 h3 h.1) h.2
 |no t=>exact fin (hk.2 h3 h.1) h.2
 |_=>
  rcases Kl h with⟨e,h⟩|⟨e,h⟩
  ·exact fin (hk.1 h3 e) h
  ·exact fin (hk.2 h3 e) h
theorem Z5{a b:Code}{ra rb:VC}(ha:ic P n K a ra)(hb:ic P n K b rb):ic P n K (.seq a b) (λM O N k t=>ra M O N (seqK rb k) t):=by
 constructor;intro M O N k t h L ob hM hO df Q hd hq;have d1:jk df a:=hd.imp (λh=>h) oal;have d2:jk df b:=hd.imp (λh=>h) oal;refine iR (ha.ok h hM hO d1 λ{t' x M' O' N' L' ob'} h1 hM' hO'=> ?_);cases x with
 |normal=>exact hb.ok h1 hM' hO' d2 hq
 |_=>exact hq h1 hM' hO'
theorem NG{id:Nat}{c:Code}{ra:VC}(ha:ic P n K c ra):ic P n K (.block id c) (λM O N k t=>ra M O N (blkK id k) t):=by constructor;intro M O N k t h L ob hM hO df Q hd hq;refine dN (ha.ok h hM hO (hd.imp (λh=>h) λe=>e) λ{t' x M' O' N' L' ob'} h1 hM' hO'=>qT (df:=df)<|hq h1 hM' hO')
def Km(df:Option Nat)(P:Program)(n K:Nat)(c:Code)(Q:dy):Nat->Loc->lXE->Prop
 |0,_,_=>False
 |j+1,L,ob=>awp df P n K [] c (EE (Km df P n K c Q j) Q) L ob
theorem HH{df:Option Nat}{c:Code}{Q:dy}{j:Nat}{L:Loc}{ob:lXE}(h:Km df P n K c Q j L ob):awp df P n K [] (.loop c) Q L ob:=by
 refine mW (ι:=Nat×Loc×lXE) (λi=>i.2.1) (λi=>i.2.2) (λi=>Km df P n K c Q i.1 i.2.1 i.2.2) (λi=>i.1) (j,L,ob) h (Sub.refl _) rfl λi hi=> ?_;obtain⟨j,L,ob⟩:=i;cases j with
 |zero=>exact hi.elim
 |succ j=>
  refine wc hi λx L' ob' q=> ?_;cases x with
  |normal=>exact⟨(j,L',ob'),q,ag3 _,Sub.refl _,rfl⟩
  |_=>exact q
theorem Kn{c:Code}{a:VC}(ha:ic P n K c a){df:Option Nat}{Q:dy}(hd:jk df c){k:VK}(hq: ∀{t':GT}{x:AX}{M':Tri AV}{O':Tri Ob}{N':Nat}{L':Loc}{ob':lXE},k t' x M' O' N' ->cm M' L' ->bK O' N' ob' ->Q x L' ob'):∀(j:Nat){M:Tri AV}{O:Tri Ob}{N:Nat}{t:GT}{L:Loc}{ob:lXE},unrV a k j M O N t->cm M L->bK O N ob->Km df P n K c Q j L ob
 |0,_,_,_,_,_,_,h,_,_=>h.elim
 |j+1,M,O,N,t,L,ob,h,hM,hO=>by
  refine ha.ok (show a M O N _ t from h) hM hO hd λ{t' x M' O' N' L' ob'} h1 hM' hO'=> ?_;cases x with
  |normal=>exact Kn (k:=k) ha hd (λq q1 q2=>hq q q1 q2) j (show unrV a k j M' O' N' t' from h1) hM' hO'
  |_=>exact hq h1 hM' hO'
section
variable{c:Code}{run:Tri AV->Tri Ob->Nat->TM->RX}{a:VC}
theorem Qv(hr:fZ P n K (.loop c) run)(ha:ic P n K c a):ic P n K (.loop c) (abF run a):=by
 constructor;intro M O N k t h L ob hM hO df Q hd hq;have hs:ic P n K (.loop c) (eN run):=qX (run:=run) hr;cases t with
 |more t'=>exact HH (Kn ha (hd.imp (λe=>e) λe=>by simpa only[Code.inR]using e) (k:=k) (λq q1 q2=>hq q q1 q2) 12 (show unrV a k 12 M O N t' from h) hM hO)
 |nil=>exact hs.ok (show eN run M O N k .nil from h) hM hO hd hq
 |r g r=>exact hs.ok (show eN run M O N k (.r g r)from h) hM hO hd hq
 |a a b=>exact hs.ok (show eN run M O N k (.a a b)from h) hM hO hd hq
 |br a b=>exact hs.ok (show eN run M O N k (.br a b)from h) hM hO hd hq
 |yes a=>exact hs.ok (show eN run M O N k (.yes a)from h) hM hO hd hq
 |no a=>exact hs.ok (show eN run M O N k (.no a)from h) hM hO hd hq
 |pick j=>exact hs.ok (show eN run M O N k (.pick j)from h) hM hO hd hq
theorem NH(hr:fZ P n K (.scope c) run)(ha:ic P n K c a):ic P n K (.scope c) (Qs run a):=by
 constructor;intro M O N k t h L ob hM hO df Q hd hq;have hs:ic P n K (.scope c) (eN run):=qX (run:=run) hr;cases t with
 |more t'=>
  have hdf:df=none:=hd.elim id λe=>by simp[Code.inR]at e
  subst hdf;refine AR 0 (ha.ok (show a M O N (abG k) t' from h) hM hO (.inl rfl) λ{t2 x M' O' N' L' ob'} h1 hM' hO'=> ?_);cases x with
  |goto l=>exact h1.elim
  |normal=>exact hq (t':=t2) (show k t2 .normal M' O' N' from h1) hM' hO'
  |ret=>exact hq (t':=t2) (show k t2 .ret M' O' N' from h1) hM' hO'
  |exit j=>exact hq (t':=t2) (show k t2 (.exit j) M' O' N' from h1) hM' hO'
  |panic av=>exact hq (t':=t2) (show k t2 (.panic av) M' O' N' from h1) hM' hO'
 |nil=>exact hs.ok (show eN run M O N k .nil from h) hM hO hd hq
 |r g r=>exact hs.ok (show eN run M O N k (.r g r)from h) hM hO hd hq
 |a a b=>exact hs.ok (show eN run M O N k (.a a b)from h) hM hO hd hq
 |br a b=>exact hs.ok (show eN run M O N k (.br a b)from h) hM hO hd hq
 |yes a=>exact hs.ok (show eN run M O N k (.yes a)from h) hM hO hd hq
 |no a=>exact hs.ok (show eN run M O N k (.no a)from h) hM hO hd hq
 |pick j=>exact hs.ok (show eN run M O N k (.pick j)from h) hM hO hd hq
end
theorem nv(hcf:b0 P callf)(hm:P.follows .mixedOrders=true){kb:KBs}: ∀(c:Code),pN P n K kb c->ic P n K c (vcC P n callf pu lf kb c)
 | .skip,_=>⟨λh _ _ hM hO _ _ _ hq=>EF (hq h hM hO)⟩
 | .label l,_=>⟨λ{_ _ _ k t} h _ _ hM hO _ _ hd hq=>xE (k:=k) (t:=t) (g:=[]) (da (pu:=pu) (lf:=lf) hcf hm<|.label l) ⟨rfl,h⟩ hM hO hd hq⟩
 | .ret,_=>⟨λ{_ _ _ k t} h _ _ hM hO _ _ hd hq=>xE (k:=k) (t:=t) (g:=[]) (da (pu:=pu) (lf:=lf) hcf hm .ret) ⟨rfl,h⟩ hM hO hd hq⟩
 | .exit id,_=>⟨λ{_ _ _ k t} h _ _ hM hO _ _ hd hq=>xE (k:=k) (t:=t) (g:=[]) (da (pu:=pu) (lf:=lf) hcf hm<|.exit id) ⟨rfl,h⟩ hM hO hd hq⟩
 | .region id ops draw,_=>Z4 (λh=>da (pu:=pu) (lf:=lf) hcf hm (.region id ops draw) h) λhd {_ _ _ _ _} h {_ _} hM hO {_ _} hdf hq=>by subst hd;simpa using Z3 hcf hm h hM hO (id:=id) (K:=K) (by simpa using hdf) hq
 | .loop c,hk=>Qv (λh=>da (pu:=pu) (lf:=lf) hcf hm (.loop c) h) (nv hcf hm c hk)
 | .scope c,hk=>NH (λh=>da (pu:=pu) (lf:=lf) hcf hm (.scope c) h) (nv hcf hm c hk)
 | .goto _,_=>⟨λh=>h.elim⟩
 | .rangeFunc g ps a b,_=>qX λh=>da (pu:=pu) (lf:=lf) hcf hm (.rangeFunc g ps a b) h
 | .refuse _,_=>⟨λh=>h.elim⟩
 | .seq a b,hk=>Z5 (nv hcf hm a hk.1) (nv hcf hm b hk.2)
 | .cond x a b,hk=>Qu (x:=x) (nv hcf hm a hk.1) (nv hcf hm b hk.2)
 | .block id c,hk=>by
  simp only[pN]at hk;show ic P n K (.block id c) (Qt id (vcC P n callf pu lf kb c)<|kb id);cases hi:kb id with
  |none=>rw[hi]at hk;exact NG (nv hcf hm c hk)
  |some q=>rw[hi]at hk;exact ada hk
def gw(hcf:b0 P callf)(hm:P.follows .mixedOrders=true){kb:KBs}{c:Code}(h:qS P n K kb c):ic P n K c (vcC P n callf pu lf kb c):=nv hcf hm c h.ok
structure bC where
 f:FuncId
 args:lXF
 r:AV
 p:Prop
def bC.bu(P:Program)(c:bC):Prop:=c.p->aQ P c.f c.args [] [] c.r []/\aq c.args=true/\c.r.pure=true
noncomputable def kP(T:List bC)(callf:cd):cd:=λf args O N tm=>match tm.gd with
 | .int (.ofNat i)::g=>match T[i]? with
  |some c=>cond (Nat.beq f c.f) (.ret c.r O N<|(tm.at N).told g<|dec c.p&&dec (args=c.args)) (callf f args O N tm)
  |none=>callf f args O N tm
 |_=>callf f args O N tm
inductive bB(P:Program):List bC->Prop
 |nil:bB P []
 |cons {c:bC} {T:List bC} (h:c.bu P) (hY:Nat.blt c.f dm=true) (t:bB P T):bB P (c::T)
theorem bB.get: ∀{T:List bC},bB P T-> ∀{i:Nat}{c:bC},T[i]? =some c->c.bu P/\Nat.blt c.f dm=true
 |[],_,i,c,h=>by simp at h
 |d::T,.cons h hY t,i,c,e=>by
  cases i with
  |zero=>simp at e;subst e;exact⟨h,hY⟩
  |succ i=>exact t.get oaO
theorem aK{T:List bC}(h:bB P T)(hcf:b0 P callf):b0 P (kP T callf):=λf args O N tm=>by
 unfold kP;split
 ·rename_i i g hg;split
  ·rename_i c hc;cases hf:Nat.beq f c.f with
   |false=>exact hcf f args O N tm
   |true=>have:=afJ hf;subst this;simp only[afN];obtain⟨hgood,hY⟩:=h.get hc;refine⟨λr' O1 N1 t1 e=> ?_,λav O1 N1 t1 e=>by cases e⟩;cases e;refine⟨⟨[_],rfl⟩,λhok ob hO=> ?_⟩;simp only[TM.told,TM.at,cr,afv]at hok;obtain⟨k1,k2,k3⟩:=hgood (aH.1 hok.1.1);have ha:args=c.args:=aH.1 hok.1.2;grind[fW,Z0]
  ·exact hcf f args O N tm
 ·exact hcf f args O N tm
theorem cA{c:bC}(hg:c.bu P)(hp:c.p){l:lXB}(k:cr l=true):cr (c.r.pure::(dec c.p&&dec (c.args=c.args))::(aq c.args&&true&&true)::l)=true:=by obtain⟨_,h2,h3⟩:=hg hp;rw[cr,cr,cr,h3,h2,aH.2 hp,aH.2 (rfl:c.args=c.args),k];rfl
def Fy(r:AV):Option lXF->Prop
 |some avs=>iw avs=r
 |none=>False
noncomputable def finV(P:Program)(rs:List ResultVar)(r:AV):VK:=λ_ x M O _=>match x with
 | .normal=>Fy r (mn P M O rs)
 | .ret=>Fy r (mn P M O rs)
 | .exit _=>False
 | .goto _=>False
 | .panic _=>False
theorem adb{f:FuncId}{fn:Func}{body:Code}{args:lXF}{r:AV}{l:List (Nat×KB)}{t:GT}(hcf:b0 P callf)(hm:P.follows .mixedOrders=true)(hf:P.funcs[f]? =some fn)(hname:(fn.name== "runtime.NumGoroutine")=false)(hb:fn.body=some body)(hn:args.length<=fn.ntmps)(hk:qS P fn.ntmps 0 (kbL l) body)(hu:r.und 0=true)(h:vcC P fn.ntmps callf pu lf (kbL l) body (mq 0 args .e) .e 0 (finV P fn.results.toList r) t):aQ P f args [] [] r []:=by
 refine jT hf hname hb hn (afG _) hu rfl ?_;refine(gw hcf hm hk).ok h (fw args) bK.nil (.inl rfl) λ{t' x M' O' N' L' ob'} h1 hM hO=> ?_;have aux:Fy r (mn P M' O' fn.results.toList)-> ∃avs,oP P L' ob' fn.results.toList avs/\(qp.ret (iw avs)= .ret r/\ ∃xs,ob'=[]++xs):=λh=>by
  cases hr:mn P M' O' fn.results.toList with
  |none=>rw[hr]at h;exact h.elim
  |some avs=>rw[hr]at h;exact⟨avs,kq hM hO hr,afQ _ h,ob',rfl⟩
 cases x with
 |normal=>exact aux h1
 |ret=>exact aux h1
 |_=>exact h1.elim
def NI(f:Nat->Nat):AV->AV
 | .yl o=> .yl (f o)
 | .pt o off=> .pt (f o) off
 | .sr o S lo len=> .sr (f o) S lo len
 | .mp o=> .mp (f o)
 |av=>av
@[simp] def pl1:AV->Bool
 | .yl _=>true
 | .pt _ _=>true
 | .sr _ _ _ _=>true
 | .mp _=>true
 |av=>av.pure
def NJ(f:Nat->Nat):AV->AV
 | .fn g fs cs=> .fn g (fs.map<|NI f) (cs.map<|NI f)
 |av=>NI f av
def plS:AV->Bool
 | .fn _ fs cs=>fs.all pl1&&cs.all pl1
 |av=>pl1 av
def A7(f:Nat->Nat):Ob->Ob
 | .box T cells=> .box T (cells.map<|NJ f)
 | .lp b k ts cs=> .lp b k ts (cs.map<|NJ f)
 |X=>X
def plO:Ob->Bool
 | .dead=>true
 | .box _ cells=>cells.all plS
 | .row _ _ rows=>aM rows
 | .mp _ vals=>aq vals
 | .lp _ _ _ cs=>cs.all plS
theorem Ko{f:Nat->Nat}{av:AV}(h:pl1 av=true):av.ren f=NI f av:=by cases av<;>first|rfl|(simp only[AV.ren,NI];done)|exact cR _ _ h
theorem xF{f:Nat->Nat}: ∀{l:lXF},l.all pl1=true->bV f l=l.map (NI f)
 |[],_=>rfl
 |x::l,h=>by simp only[agZ,afv]at h;simp only[bV,afZ,Ko h.1,xF h.2]
theorem CE{f:Nat->Nat}{av:AV}(h:plS av=true):av.ren f=NJ f av:=by
 cases av with
 |fn g fs cs=>simp only[plS,afv]at h;simp only[AV.ren,NJ,xF h.1,xF h.2]
 |_=>exact Ko h
theorem xG{f:Nat->Nat}: ∀{cs:lXF},cs.all plS=true->bV f cs=cs.map (NJ f)
 |[],_=>rfl
 |c::cs,h=>by simp only[agZ,afv]at h;simp only[bV,afZ,CE h.1,xG h.2]
theorem Qw{f:Nat->Nat}{X:Ob}(h:plO X=true):X.ren f=A7 f X:=by
 cases X with
 |dead=>rfl
 |box T cells=>simp only[Ob.ren,A7,plO]at*;rw[xG h]
 |row T S rows=>simp only[Ob.ren,A7,plO]at*;rw[gI (N:=0) (λ_ h=>by cases h) rows (bO 0 rows h)]
 |mp keys vals=>simp only[Ob.ren,A7,plO]at*;rw[cL _ _ h]
 |lp b k ts cs=>simp only[Ob.ren,A7,plO]at*;rw[xG h]
structure bG where
 p:Prop
 x:AX
 L:Loc
 sel:lXC
 ob:lXE
def nmS(sel:lXC)(N:Nat)(L:Loc):List (Option AV):=L.map λp=>some (NJ (bU sel N) p.2)
def obS(sel:lXC)(N:Nat)(ob:lXE):List (Option Ob):=ob.map λX=>some (A7 (bU sel N) X)
def bG.fP(K:Nat)(o:bG):Bool:=eA o.x&&(mr o.sel&&((range K).all (λi=>o.sel[i]? ==some i)&&(o.L.all (λp=>plS p.2)&&o.ob.all plO)))
def bG.ends(o:bG)(x:AX)(M:Tri AV)(O:Tri Ob)(N:Nat):Prop:=o.p/\x=o.x/\(o.L.map λp=>M.get p.1)=nmS o.sel N o.L/\o.sel.map O.get=obS o.sel N o.ob
def nw(l:List bG):VK:=λt x M O N=>match t with
 | .pick j=>match l[j]? with
  |some o=>o.ends x M O N
  |none=>False
 |_=>False
theorem bG.view{o:bG}(hf:o.fP K=true){x:AX}{M:Tri AV}{O:Tri Ob}{N:Nat}(h:o.ends x M O N){L1:Loc}{ob1:lXE}(hM:cm M L1)(hO:bK O N ob1):J7 K L1 ob1 o.L o.ob o.sel/\eA x=true/\x=o.x:=by
 simp only[bG.fP,afv]at hf;obtain⟨f1,f2,f3,f4,f5⟩:=hf;obtain⟨_,rfl,h1,h2⟩:=h;have hl1:ob1.length=N:=hO.1;have h1':(o.L.map (·.1)).map M.get=mO (bU o.sel N) o.L:=by rw[agK];refine h1.trans (agB λp hp=> ?_);grind[CE]
 have h2':o.sel.map O.get=(o.ob.map λX=>X.ren<|bU o.sel N).map some:=by grind[obS,agB,Qw]
 refine⟨⟨ja f2,?_,λi s X hi hX=> ?_,λi hi=> ?_,λt av e=> ?_⟩,f1,rfl⟩
 ·have:=afQ length h2';simpa using this
 ·have e1:(o.sel.map O.get)[i]? =some (O.get s):=by rw[afM,hi];rfl
  rw[h2',afM,afM,hX]at e1;simp only[afV,afD]at e1;exact⟨_,by rw[<-hO.2];exact e1.symm,by rw[hl1];exact .same _⟩
 ·simp_all
 ·rw[<-hM t,hl1];exact lB h1' t av e
theorem pO{c:Code}{V:VC}(hv:ic P n K c V){L:Loc}{ob:lXE}{l:List bG}{t:GT}(h:V (dX L) (dq ob) ob.length (nw l) t)(hf:l.all (bG.fP K)=true){df:Option Nat}{Q:dy}(hd:jk df c)(hq: ∀o∈l,o.p->Q o.x o.L o.ob):awp df P n K [] c Q L ob:=by
 refine sI (hv.ok h (ib L) (en ob) hd λ{t' x M' O' N' L' ob'} h1 hM hO=> ?_);cases t' with
 |pick j=>
  simp only[nw]at h1;split at h1
  ·rename_i o ho;have hm:=agm ho;obtain⟨v,w,rfl⟩:=bG.view (af2.1 hf o hm) h1 hM hO;exact⟨o.L,o.ob,o.sel,v,w,hq o hm h1.1⟩
  ·exact h1.elim
 |_=>exact h1.elim
theorem Kp{c:Code}{V:VC}(hv:ic P n K c V){L L':Loc}{ob ob':lXE}{x:AX}{sel:lXC}{t:GT}(h:V (dX L) (dq ob) ob.length (nw [⟨True,x,L',sel,ob'⟩]) t)(hf:bG.fP K ⟨True,x,L',sel,ob'⟩=true):Piece P n K c L ob x L' ob':=λdf Q hd hq=>pO hv h (by simp[hf]) hd λo ho _=>by simp only[agO]at ho;subst ho;exact hq
theorem anyV{id:Nat}{c:Code}{m:Nat}{t:Nat->Bool}{xr:Nat->AX}{xn:AX}{Lr:Nat->Loc}{Lx:Loc}{obr:Nat->lXE}{obx:lXE}{V:Nat->VC}{Vx:VC}(L:Nat->Loc)(Bs:Nat->lXE)(k:Nat)(outs:Nat->List bG)(g:Nat->GT)(gx:GT)(sx:lXC)(hv: ∀i,i<m->ic P n K c (V i))(hvx:ic P n K c Vx)(hxr: ∀i,xr i≠ .normal)(hxn:xn≠ .normal)(hk: ∀i,(Bs i).length=k)(h: ∀i,i<m->V i (dX<|L i) (dq<|Bs i) k (nw<|outs i) (g i))(hf: ∀i,i<m->(outs i).all (bG.fP K)=true)(hq: ∀i,i<m-> ∀o∈outs i,o.p->(o.x= .normal/\t i=false/\o.L=L (i+1)/\o.ob=Bs (i+1))\/(t i=true/\o.x=xr i/\o.L=Lr i/\o.ob=obr i))(hx:Vx (dX<|L m) (dq<|Bs m) k (nw [⟨True,xn,Lx,sx,obx⟩]) gx)(hfx:bG.fP K ⟨True,xn,Lx,sx,obx⟩=true):(cz m t=true->Piece P n K (.block id<|.loop c) (L 0) (Bs 0) (lF id<|xr<|gQ m t) (Lr<|gQ m t) (obr<|gQ m t))/\(cz m t=false->Piece P n K (.block id<|.loop c) (L 0) (Bs 0) (lF id xn) Lx obx):=by
 have go: ∀{df:Option Nat}{Q:dy},jk df (.block id<|.loop c)-> ∀M,M<=m->(∀i,i<M->t i=false)->awp df P n K [] c (λx L' ob'=>(x= .normal/\False)\/(x≠ .normal/\Q (lF id x) L' ob')) (L M) (Bs M)->awp df P n K [] (.block id<|.loop c) Q (L 0) (Bs 0):=λ{df Q} hd M hM ht hl=>by
  have hd':jk df c:=hd.imp (λe=>e) λe=>by simpa only[Code.inR]using e
  refine dN (mW L Bs (λi=>i<=M) (λi=>M-i) 0 (af7 _) (Sub.refl _) rfl λi hi=> ?_);by_cases e:i=M
  ·subst e;refine wc hl λx L' ob' q=> ?_;rcases q with⟨_,q⟩|⟨q1,q2⟩
   ·exact q.elim
   ·have:=qT (df:=df) (id:=id) (Q:=Q) q2;cases x with
    |normal=>exact absurd rfl q1
    |_=>exact this
  ·have hlt:i<m:=by omega
   refine pO (hv i hlt) ((hk i).symm▸h i hlt) (hf i hlt) hd' λo ho hp=> ?_;rcases hq i hlt o ho hp with⟨e1,_,e3,e4⟩|⟨e1,_⟩
   ·rw[e1,e3,e4];exact⟨i+1,by omega,by omega,Sub.refl _,rfl⟩
   ·rw[ht i oaa]at e1;cases e1
 refine⟨λht df Q hd hQ=> ?_,λht df Q hd hQ=> ?_⟩
 ·obtain⟨hj,ht,hlt⟩:=iJ ht;have hd':jk df c:=hd.imp (λe=>e) λe=>by simpa only[Code.inR]using e
  refine go hd (gQ m t) oaa hlt (pO (hv _ hj) ((hk _).symm▸h _ hj) (hf _ hj) hd' λo ho hp=> ?_);rcases hq _ hj o ho hp with⟨_,e2,_⟩|⟨_,e2,e3,e4⟩
  ·rw[ht]at e2;cases e2
  ·rw[e2,e3,e4];exact .inr ⟨hxr _,hQ⟩
 ·have ht:=bL.1 ht;have hd':jk df c:=hd.imp (λe=>e) λe=>by simpa only[Code.inR]using e
  refine go hd m (afG _) ht (pO hvx ((hk m).symm▸hx) (by rw[agZ,hfx];rfl) hd' λo ho _=> ?_);simp only[agO]at ho;subst ho;exact .inr ⟨hxn,hQ⟩
def nxW(t:Bool)(L1:Loc)(ob1:lXE)(La:Loc)(sel:lXC)(oba:lXE):bG:=⟨t=false/\La=L1/\oba=ob1,.normal,La,sel,oba⟩
def htW(t:Bool)(xr:AX)(Lr:Loc)(sel:lXC)(obr:lXE):bG:=⟨t=true,xr,Lr,sel,obr⟩
def xH(t:Bool)(xr:AX)(L1:Loc)(ob1:lXE)(Lr:Loc)(obr:lXE)(o:bG):Prop:=o.p->(o.x= .normal/\t=false/\o.L=L1/\o.ob=ob1)\/(t=true/\o.x=xr/\o.L=Lr/\o.ob=obr)
def HI{t:Bool}{xr:AX}{L1 La Lr:Loc}{ob1 oba obr:lXE}{sel:lXC}:xH t xr L1 ob1 Lr obr (nxW t L1 ob1 La sel oba):=λh=> .inl ⟨rfl,h.1,h.2.1,h.2.2⟩
def Qx{t:Bool}{xr:AX}{L1 Lr:Loc}{ob1 obr:lXE}{sel:lXC}:xH t xr L1 ob1 Lr obr (htW t xr Lr sel obr):=λh=> .inr ⟨h,rfl,rfl,rfl⟩
theorem qY{p:bG->Prop}: ∀o∈([]:List bG),p o:=λo h=>by simp at h
def oC{p:bG->Prop}{o:bG}{l:List bG}(h:p o)(t: ∀o∈l,p o): ∀o'∈o::l,p o':=oaq
section
variable{id:Nat}{c:Code}{k:KB}{A B:Prop}
theorem Z6{m:Nat}{t:Nat->Bool}(h:k.p->(cz m t=true->A)/\(cz m t=false->B))(ht: ∀i,t i=false)(hk:k.hit=false)(hb:B->Piece P n K (.block id c) k.L0 k.ob0 k.x2 k.L2 k.ob2):ca P n K id c k:=⟨λ_ e=>(by rw[hk]at e;cases e),(by grind[bL])⟩
def Fz(h:k.p->(k.hit=true->A)/\(k.hit=false->B))(ha:A->Piece P n K (.block id c) k.L0 k.ob0 k.x1 k.L1 k.ob1)(hb:B->Piece P n K (.block id c) k.L0 k.ob0 k.x2 k.L2 k.ob2):ca P n K id c k:=⟨λhp e=>ha ((h hp).1 e),λhp e=>hb ((h hp).2 e)⟩
end
theorem lG{K:Nat}{o:bG}(h1:eA o.x=true)(h2:mr o.sel=true)(h3:(range K).all (λi=>o.sel[i]? ==some i)=true)(h4:o.L.all (λp=>plS p.2)=true)(h5:o.ob.all plO=true):bG.fP K o=true:=by simp only[bG.fP,h1,h2,h3,h4,h5,agP]
def nx{K:Nat}:([]:List bG).all (bG.fP K)=true:=rfl
theorem jH{K:Nat}{o:bG}{l:List bG}(h:bG.fP K o=true)(k:l.all (bG.fP K)=true):(o::l).all (bG.fP K)=true:=by simp only[agZ,h,k,agP]
end
def brP{v:Bool}{A B:Prop}(f:v=true->A)(g:v=false->B):(v=true/\A)\/(v=false/\B):=by grind
def aO{v:Bool}{A B:Prop}(f:v=true->A)(g:v=false->B):A\/B:=by grind
def lf(o:bG)(N:Nat)(h:o.p):o.p/\o.x=o.x/\nmS o.sel N o.L=nmS o.sel N o.L/\obS o.sel N o.ob=obS o.sel N o.ob:=⟨h,rfl,rfl,rfl⟩
abbrev wy(l:List bG)(j:Nat):bG:=l.getD j ⟨False,.normal,[],[],[]⟩
theorem aF{α β:Type}(f:α->β)(l:List α):(map f l).length=l.length:=afK f
def HJ{x y:Int}(h:(x !=y)=true):x≠y:=by simpa using h
theorem cE{x y:Int}(h:(x !=y)=false):x=y:=by simpa using h
def an{A B:Prop}(h:A)(k:B):A/\B:=⟨h,k⟩
def bE{x v:Bool}(h:x=v):AV.v (.bool v)=AV.v (.bool x):=by rw[h]
def iE{x v:Int}(h:x=v):AV.v (.int .i64 v)=AV.v (.int .i64 x):=by rw[h]
def vE{x v:AV}(h:x=v):v=x:=h.symm
def bq{A B:Prop}(h:A)(e:A=B):B:=e▸h
section
variable{P:Program}{n K:Nat}
structure dF(K:Nat)(L:Loc)(ob:lXE)(L':Loc)(ob':lXE):Prop where
 to: ∀m γ w,Inv m γ ob w-> ∃m' γ',Trans m γ w m' γ' w/\Inv m' γ' ob' w/\(∀o g,o<K->γ o=some g->γ' o=some g)/\(∀k,InG γ' k->InG γ k)/\(∀a,bS m γ a L->bS m' γ' a L')
theorem dF.refl(L:Loc)(ob:lXE):dF K L ob L ob:=⟨λm γ w hi=>⟨m,γ,Trans.refl _ _ _,hi,λ_ _ _ h=>h,λ_ h=>h,λ_ h=>h⟩⟩
theorem dF.trans{L L1 L2:Loc}{ob ob1 ob2:lXE}(h:dF K L ob L1 ob1)(k:dF K L1 ob1 L2 ob2):dF K L ob L2 ob2:=⟨λm γ w hi=>by obtain⟨m1,γ1,t1,i1,g1,b1,l1⟩:=h.to m γ w hi;obtain⟨m2,γ2,t2,i2,g2,b2,l2⟩:=k.to m1 γ1 w i1;exact⟨m2,γ2,t1.trans t2,i2,λo g ho hg=>g2 o g ho (g1 o g ho hg),λk hk=>b1 k (b2 k hk),λa ha=>l2 a (l1 a ha)⟩⟩
section
variable{df:Option Nat}{c:Code}{Q:dy}
theorem Qy{L L':Loc}{ob ob':lXE}(h:dF K L ob L' ob')(k:awp df P n K [] c Q L' ob'):awp df P n K [] c Q L ob:=by intro m γ w a hi hl hs hd;obtain⟨m',γ',t1,i1,g1,b1,l1⟩:=h.to m γ w hi;refine wpIn_mono (k m' γ' w a i1 (l1 a hl) hs hd) ?_;rintro e a1 w1 ⟨m1,γ1,L1,ob1,ax,h1,h2,h3,h4,h5,h6,h7,h8⟩;exact⟨m1,γ1,L1,ob1,ax,h1,h2,t1.trans h3,h4,h5,h6,h7,λo g ho hg=>h8 o g ho (g1 o g ho.1 hg)⟩
theorem Qz{L0:Loc}{ob0:lXE}(h:awp df P n K [] c (λx L ob=> ∃L' ob',dF K L ob L' ob'/\eA x=true/\Q x L' ob') L0 ob0):awp df P n K [] c Q L0 ob0:=by intro m γ w a hi hl hs hd;refine wpIn_mono (h m γ w a hi hl hs hd) ?_;rintro e a1 w1 ⟨m1,γ1,L1,ob1,ax,⟨L',ob',ht,hp,hq⟩,h2,h3,h4,h5,h6,h7,h8⟩;obtain⟨m2,γ2,t1,i1,g1,b1,l1⟩:=ht.to m1 γ1 w1 h4;refine⟨m2,γ2,L',ob',ax,hq,?_,h3.trans t1,i1,l1 a1 h5,h6,h7.gam b1,λo g ho hg=>g1 o g ho.1 (h8 o g ho hg)⟩;exact kr hp t1.mem h2
end
def eO{c:Code}{L L' L1 L1':Loc}{ob ob' ob1 ob1':lXE}{x:AX}(h:dF K L' ob' L ob)(k:Piece P n K c L ob x L1 ob1)(t:dF K L1 ob1 L1' ob1')(hx:eA x=true):Piece P n K c L' ob' x L1' ob1':=λdf _ hd hq=>Qy h (Qz<|k df _ hd ⟨L1',ob1',t,hx,hq⟩)
def iK{id:Nat}{c:Code}{q:KB}{L0 L1 L2:Loc}{ob0 ob1 ob2:lXE}(h:ca P n K id c q)(t0:dF K L0 ob0 q.L0 q.ob0)(t1:dF K q.L1 q.ob1 L1 ob1)(h1:eA q.x1=true)(t2:dF K q.L2 q.ob2 L2 ob2)(h2:eA q.x2=true):ca P n K id c ⟨L0,ob0,q.hit,q.x1,L1,ob1,q.x2,L2,ob2,q.p⟩:=⟨λhp e=>eO t0 (h.1 hp e) t1 h1,λhp e=>eO t0 (h.2 hp e) t2 h2⟩
section
variable{L L':Loc}{ob:lXE}{T:TypeId}
theorem sN{S:Nat}(hL: ∀t av',lk L' t=some av' ->lk L t=some av' \/(lk L t=some (.v<|.slice none 0 0)/\av' = .sr ob.length S 0 0)):dF K L ob L' (ob++ [.row T S []]):=by
 refine⟨λm γ w hi=> ?_⟩;have hnone:γ ob.length=none:=by
  cases hg:γ ob.length with
  |none=>rfl
  |some g=>exact absurd (hi.len ob.length oav) (Nat.lt_irrefl _)
 let γ':Gam:=λo=>if o=ob.length then some none else γ o
 have hne: ∀o,o≠ob.length->γ' o=γ o:=λo ho=>by simp only[γ',if_neg ho]
 have heq:γ' ob.length=some none:=by simp only[γ',if_pos]
 have hle:Le m γ [] m γ':=⟨λ_ _ h=>h,λo g hg _=>by
  by_cases ho:o=ob.length
  ·rw[ho,hnone]at hg;cases hg
  ·rw[hne o ho];exact hg⟩
 have hback: ∀o b C,γ' o=some (some (b,C))->γ o=some (some (b,C))/\o≠ob.length:=λo b C hg=>by
  by_cases ho:o=ob.length
  ·rw[ho,heq]at hg;cases hg
  ·rw[hne o ho]at hg;exact⟨hg,ho⟩
 have hobj: ∀o Y,(ob++ [Ob.row T S []])[o]? =some Y->(o<ob.length/\ob[o]? =some Y)\/(o=ob.length/\Y= .row T S []):=λo Y hY=>by
  by_cases h1:o<ob.length
  ·rw[afO h1]at hY;exact .inl ⟨h1,hY⟩
  ·rw[agb oaa]at hY;cases h2:o-ob.length with
   |zero=>rw[h2]at hY;simp at hY;exact .inr ⟨by omega,hY.symm⟩
   |succ k=>rw[h2]at hY;simp at hY
 refine⟨m,γ',⟨λ_ _ h=>h,λ_ _ h=> .inl h,λq _⟨o,C,h⟩=>⟨o,C,(hback o q C h).1⟩,rfl,rfl,rfl,afG _,λ_ _ _=>rfl⟩,⟨hi.mem,λo Y hY=> ?_,λo o' b C C' l1 l2 h1 h2=> ?_,λo b C h=>hi.dom o b C (hback o b C h).1,λo h=> ?_,hi.tab⟩,λo g _ hg=> ?_,λk⟨o,C,h⟩=>⟨o,C,(hback o k C h).1⟩,λa hl t av' e=> ?_⟩
 ·rcases hobj o Y hY with⟨h1,h2⟩|⟨rfl,rfl⟩
  ·exact dU (hi.obj o Y h2) hle (λ_ _ _=>rfl) (λ_ _ _ _ h=>h)
  ·exact .inl ⟨heq,rfl⟩
 ·have hlv: ∀o b C,γ' o=some (some (b,C))->live (ob++ [Ob.row T S []]) o->live ob o:=by
   rintro o b C hg ⟨Y,hY,hne⟩;rcases hobj o Y hY with⟨_,h2⟩|⟨h1,_⟩
   ·exact⟨Y,h2,hne⟩
   ·exact absurd h1 (hback o b C hg).2
  exact hi.sep o o' b C C' (hlv o b C h1 l1) (hlv o' b C' h2 l2) (hback o b C h1).1 (hback o' b C' h2).1
 ·rw[afS];by_cases ho:o=ob.length
  ·simp[ho]
  ·rw[hne o ho]at h;have:=hi.len o h;simp;omega
 ·by_cases ho:o=ob.length
  ·rw[ho,hnone]at hg;cases hg
  ·rw[hne o ho];exact hg
 ·rcases hL t av' e with h|⟨h,rfl⟩
  ·exact⟨(hl t av' h).1,n8 hle (hl t av' h).2⟩
  ·obtain⟨q1,q2⟩:=hl t _ h;refine⟨q1,?_⟩;have hx:a.tmps.getD t undef= .slice none 0 0:=by simpa [Rep]using q2
   simp only[Rep];exact .inl ⟨heq,⟨none,hx⟩,trivial,trivial⟩
theorem sO{S k:Nat}{rows:List lXF}(hk:k=rows.length)(hK:K<=ob.length)(hL: ∀t av',lk L' t=some av' ->(lk L t=some av'/\av'.und ob.length=true)\/(lk L t=some (.sr ob.length S 0 k)/\av' = .sl S rows/\(AV.sl S rows).und ob.length=true))(hO:ob.all (Ob.und ob.length)=true):dF K L (ob++ [.row T S rows]) L' ob:=by
 refine⟨λm γ w hi=> ?_⟩;have ho:(ob++ [Ob.row T S rows])[ob.length]? =some (.row T S rows):=by simp
 obtain⟨m2,hm,hi2,ht⟩:=iH hi ho (.inl ⟨T,S,rows,rfl⟩);have hset:(ob++ [Ob.row T S rows]).set ob.length .dead=ob++ [.dead]:=by simp
 rw[hset]at hi2;obtain⟨d1,d2⟩:=nh hi2 hO;have hb: ∀o g,(λo=>if o<ob.length then γ o else none) o=some g->γ o=some g:=λo g h=>by
  simp only at h;split at h
  ·exact h
  ·cases h
 refine⟨m2,_,ht.trans ⟨λ_ _ h=>h,λ_ _ h=> .inl h,λk _⟨o,C,h⟩=>⟨o,C,hb o _ h⟩,rfl,rfl,rfl,afG _,λ_ _ _=>rfl⟩,d1,λo g h1 h2=>(if_pos<|show o<ob.length by omega).trans h2,λk⟨o,C,h⟩=>⟨o,C,hb o _ h⟩,λa hl t av' e=> ?_⟩;rcases hL t av' e with⟨h,hu⟩|⟨h,rfl,hu⟩
 ·obtain⟨q1,q2⟩:=hl t _ h;exact⟨q1,d2 _ _ hu (fj hm.le av' _ (AV.ei _) q2)⟩
 ·obtain⟨q1,q2⟩:=hl t _ h;exact⟨q1,d2 _ _ hu (Frz.sr0 rfl hk _ _ _ hm _ q2)⟩
end
end
@[simp] theorem o5: ∀a b:List lXF,aM (a++b)=(aM a&&aM b)
 |[],b=>by simp[aM]
 |x::a,b=>by simp only[agC,aM,o5 a b,Bool.and_assoc]
def fQ{a:List lXF}(k:Nat)(h:aM a=true):aM (a.take k)=true:=by grind[o5,ags]
def rzA{y:Int}{z len:Nat}(h:y=(z:Int))(h2:Nat.blt z len=true):(dec (y=(z:Int))&&Nat.blt z len)=true:=by rw[aH.2 h,h2];rfl
def joinH{P:Program}{n K:Nat}{id:Nat}{c:Code}{V:VC}(hv:ic P n K (.block id c) V){L Lr Lx:Loc}{ob obr obx:lXE}{tv:Bool}{xr xn:AX}{sr sx:lXC}{t:GT}{p:Prop}(h:p->V (dX L) (dq ob) ob.length (nw [⟨tv=true,xr,Lr,sr,obr⟩,⟨tv=false,xn,Lx,sx,obx⟩]) t)(f1:bG.fP K ⟨tv=true,xr,Lr,sr,obr⟩=true)(f2:bG.fP K ⟨tv=false,xn,Lx,sx,obx⟩=true):ca P n K id c ⟨L,ob,tv,xr,Lr,obr,xn,Lx,obx,p⟩:=by
 have hf:([⟨tv=true,xr,Lr,sr,obr⟩,⟨tv=false,xn,Lx,sx,obx⟩]:List bG).all (bG.fP K)=true:=jH f1 (jH f2 nx);refine⟨λhp e df Q hd hq=>pO hv (h hp) hf hd λo ho hpo=> ?_,λhp e df Q hd hq=>pO hv (h hp) hf hd λo ho hpo=> ?_⟩
 ·simp only[agc,agI,or_false]at ho;rcases ho with rfl|rfl
  ·exact hq
  ·have hpo:tv=false:=hpo;have e:tv=true:=e;rw[hpo]at e;cases e
 ·simp only[agc,agI,or_false]at ho;rcases ho with rfl|rfl
  ·have hpo:tv=true:=hpo;have e:tv=false:=e;rw[hpo]at e;cases e
  ·exact hq
def cAk{P:Program}{c:bC}(hg:c.bu P)(hp:c.p)(a b:lXF)(ha:aq a=true)(hb:aq b=true){l:lXB}(k:cr l=true):cr (c.r.pure::(dec c.p&&dec (c.args=c.args))::(aq a&&true&&aq b)::l)=true:=by obtain⟨_,_,h3⟩:=hg hp;rw[cr,cr,cr,h3,ha,hb,aH.2 hp,aH.2 (rfl:c.args=c.args),k];rfl
def apA{k l n B:Nat}(h1:k<=l)(h2:(k+n)*B<=140737488355328)(h3:k+n<=9223372036854775807):((true&&true&&true&&Nat.ble k l)&&true&&(true&&true&&true&&Nat.ble ((k+n)*B) 140737488355328&&Nat.ble (k+n) 9223372036854775807&&true))=true:=by simp[Nat.ble_eq,h1,h2,h3]
def slA{p q l:Nat}(h1:p<=q)(h2:q<=l):((Nat.ble p q&&Nat.ble q l)&&true)=true:=by simp[Nat.ble_eq,h1,h2]
def ixL{z n:Nat}(h:z<n):(true&&Nat.blt z n)=true:=by simp[Nat.blt_eq,h]
def ixI{x:Int}{n:Nat}(h0:0<=x)(h:x<(n:Int)):(true&&(dec (x=((x.toNat:Nat):Int))&&Nat.blt x.toNat n))=true:=by grind[aH,Nat.blt_eq]
section
variable{α:Type}[Inhabited α]{f0:α->lXF}{l:List α}{rows:List lXF}{S f k z:Nat}
theorem atL(e:rows=l.map f0)(hf:f<S)(h:z<l.length):(dec ((0*S+z*S+f)/S=z)&&(dec ((0*S+z*S+f)%S=f)&&dec (rows[z]? =some (f0<|ae l z))))=true:=by grind[Nat.add_mul_div_right,Nat.div_eq_of_lt,Nat.add_mul_mod_self_right,Nat.mod_eq_of_lt,aH,eL]
theorem stL(e:rows=l.map f0)(hf:f<S)(h:z<l.length)(hk:Nat.ble (f+k) S=true):((true&&(dec ((0*S+z*S+f)/S=z)&&(dec ((0*S+z*S+f)%S=f)&&dec (rows[z]? =some (f0<|ae l z)))))&&Nat.ble (f+k) S)=true:=by rw[atL e hf h,hk];rfl
end
section
variable{α:Type}{l:List α}{rows:List lXF}{k:Nat}
theorem lH{f:α->lXF}(e:rows=l.map f)(z:Nat)(x:α):rows.set z (f x)=(l.set z x).map f:=by rw[e,List.map_set]
def apL{f0:α->lXF}{B:Nat}(e:rows=l.map f0)(h1:k<=l.length)(h2:(k+1)*B<=140737488355328)(h3:k+1<=9223372036854775807):((true&&true&&true&&Nat.ble k rows.length)&&true&&(true&&true&&true&&Nat.ble ((k+1)*B) 140737488355328&&Nat.ble (k+1) 9223372036854775807&&true))=true:=oaq
theorem apF{f:α->lXF}(e:rows=l.map f)(hk:k=l.length)(x:α):rows.take k++ [f x]=(l++ [x]).map f:=by grind[afK]
theorem apT{f:α->lXF}(e:rows=l.map f)(k:Nat)(x:α):rows.take k++ [f x]=(l.take k++ [x]).map f:=by simp_all
theorem NK{f:α->lXF}(n:Nat)(x:α):replicate n (f x)=(replicate n x).map f:=by simp
end
def dws{k:Nat}(h:1<=k)(h2:k<=9223372036854775807):dec (IntKind.i64.wrap ((k:Int)-1)=((k-1:Nat):Int))=true:=(by grind[aH,wrap_i64])
def mkSl{n B:Nat}(h:B*n<=281474976710656)(h2:n<=maxLen):(true&&true&&Nat.ble n n&&Nat.ble (B*n) 281474976710656&&Nat.ble n maxLen)=true:=by simp_all
def eC:([]:lXE)=[]:=rfl
def bo{a b:Ob}{l m:lXE}(h:a=b)(k:l=m):a::l=b::m:=by rw[h,k]
def lfE(o:bG)(N:Nat)(h:o.p){oba:lXE}(e:oba=o.ob):o.p/\o.x=o.x/\nmS o.sel N o.L=nmS o.sel N o.L/\obS o.sel N oba=obS o.sel N o.ob:=⟨h,rfl,rfl,afQ _ e⟩
def FA(k:KB){S:List (Option AV)}{ob:lXE}(h1:S=nm k.L0)(h2:ob=k.ob0)(hp:k.p):(dec (S=nm k.L0)&&dec (ob=k.ob0)&&dec k.p)=true:=by grind[aH]
section
variable{α:Type}
open Classical in
noncomputable def kQ:List α->α->Option Nat
 |[],_=>none
 |x::l,k=>if k=x then some 0 else(kQ l k).map (·+1)
noncomputable def HK(l:List α)(k:α):Nat:=(kQ l k).getD 0
theorem CF{l:List α}{k:α}(h:k∉l):kQ l k=none:=by
 induction l with
 |nil=>rfl
 |cons x l ih=>grind[kQ]
theorem FB{l:List α}{k:α}(h:k∈l):kQ l k=some (HK l k)/\HK l k<l.length:=by
 have key: ∃j,kQ l k=some j/\j<l.length:=by
  induction l with
  |nil=>simp at h
  |cons x l ih=>
   by_cases e:k=x
   ·simp_all[kQ]
   grind[kQ]
 grind[HK]
theorem A8{d:TypeDesc}{f:α->Value}(hf: ∀x y,f x=f y->x=y)(hk: ∀x,fC d (f x)=true)(k:α): ∀l:List α,ll d (f k) (l.map f)=some (kQ l k)
 |[]=>rfl
 |x::l=>by
  obtain⟨r,h1,h2⟩:=Go.MapKept.sameNow_of_keys (eK<|hk k) (eK<|hk x);simp only[afZ,ll,h1,A8 hf hk k l,kQ];by_cases e:k=x
  ·rw[h2.2 (afQ f e),if_pos e]
  ·have:r=false:=by grind
   subst this;rw[if_neg e];cases kQ l x<;>cases kQ l k<;>rfl
theorem QA{d:TypeDesc}{f:α->Value}(hf: ∀x y,f x=f y->x=y)(hk: ∀x,fC d (f x)=true)(k:α)(l:List α):EY d (f k) (l.map f) (kQ l k):=⟨hk k,by simp[af2,hk],A8 hf hk k l⟩
def tru{α:Type}(_:α):AV:= .v (.bool true)
theorem FC{z:AV}(hz:z= .v (.bool false))(k:α)(l:List α):qF (l.map tru) z (kQ l k)=some (.v<|.bool<|dec<|k∈l):=by grind[FB,qF,tru,CF,dec]
end
def A9{p:Prop}:dec p=false↔ ¬p:=by grind[aH]
def NL(l:lXD):Ob:= .mp (l.map Value.string) (l.map tru)
def pP(l:lXA):Ob:= .mp (l.map<|Value.int .i64) (l.map tru)
def injS: ∀x y:ByteArray,Value.string x=Value.string y->x=y:=λ_ _ h=>by cases h;rfl
def injI: ∀x y:Int,Value.int .i64 x=Value.int .i64 y->x=y:=λ_ _ h=>by cases h;rfl
def lkS(k:ByteArray)(l:lXD):dec (EY .string (.string k) (l.map Value.string) (kQ l k)/\qF (l.map tru) (.v<|.bool false) (kQ l k)=some (.v<|.bool<|dec<|k∈l))=true:=aH.2 ⟨QA injS (λ_=>rfl) k l,FC rfl k l⟩
def lkI(k:Int)(l:lXA):dec (EY (.int .i64) (.int .i64 k) (l.map<|Value.int .i64) (kQ l k)/\qF (l.map tru) (.v<|.bool false) (kQ l k)=some (.v<|.bool<|dec<|k∈l))=true:=aH.2 ⟨QA injI (λ_=>rfl) k l,FC rfl k l⟩
def nwS{k:ByteArray}{l:lXD}(h:dec (k∈l)=false):dec (EY .string (.string k) (l.map Value.string) none)=true:=aH.2 (CF (A9.1 h)▸QA injS (λ_=>rfl) k l)
def nwI{k:Int}{l:lXA}(h:dec (k∈l)=false):dec (EY (.int .i64) (.int .i64 k) (l.map<|Value.int .i64) none)=true:=aH.2 (CF (A9.1 h)▸QA injI (λ_=>rfl) k l)
def odI{k:Int}{l:lXA}(h:dec (k∈l)=true):dec (EY (.int .i64) (.int .i64 k) (l.map<|Value.int .i64)<|some<|HK l k)=true:=aH.2 ((FB<|aH.1 h).1▸QA injI (λ_=>rfl) k l)
theorem QB(k:ByteArray)(l:lXD):Ob.mp (l.map Value.string++ [.string k]) (l.map tru++ [.v (.bool true)])=NL (l++ [k]):=by simp[NL,tru]
theorem ny(k:Int)(l:lXA):Ob.mp (l.map (Value.int .i64)++ [.int .i64 k]) (l.map tru++ [.v (.bool true)])=pP (l++ [k]):=by simp[pP,tru]
theorem Kq{α:Type}(l:List α)(j:Nat):(l.map tru).set j (.v<|.bool true)=l.map tru:=by refine af8 λi=> ?_;grind[tru]
theorem QC(j:Nat)(l:lXA):Ob.mp (l.map<|Value.int .i64) ((l.map tru).set j<|.v<|.bool true)=pP l:=by rw[Kq];rfl
theorem o6: ∀a b:lXF,aq (a++b)=(aq a&&aq b)
 |[],b=>by simp[aq]
 |x::a,b=>by simp only[agC,aq,o6 a b,Bool.and_assoc]
@[simp] theorem QD{α:Type}(l:List α):aq (l.map tru)=true:=by
 induction l with
 |nil=>rfl
 |cons x l ih=>simp only[afZ,aq,tru,AV.pure,ih,agP]
@[simp] theorem pv_tru1{α:Type}(l:List α):aq (l.map tru++ [.v (.bool true)])=true:=by rw[o6,QD];rfl
@[simp] theorem pv_tru2{α:Type}(l:List α)(j:Nat):aq ((l.map tru).set j<|.v<|.bool true)=true:=by rw[Kq,QD]
section
variable{P:Program}{f:FuncId}{X:Ob}{A A':lXF}{r:AV}
theorem abH{R:qp->lXE->Prop}(hX:(∃T S rows,X= .row T S rows)\/ ∃Tb cells,X= .box Tb cells)(hF:fk 0 X A' A)(h:kL P f A [] [] R)(hp:aq A=true){m:Mem}{γ:Gam}{w:World}{vs:List Value}(hi:Inv m γ [X] w)(hv:au m γ A' vs):Calls P f vs.toArray w λe w'=> ∃m' γ' r ob',R r ob'/\l9 m' γ' e r/\w'.os=w.os/\w'.tape=w.tape/\w'.output=w.output/\w.heap.size<=w'.heap.size/\(∀k,k<w.heap.size->w'.heap[k]? =w.heap[k]?)/\(∀a x,m a=some x->m' a=some x)/\(∀o b C,γ' o=some (some (b,C))->w.heap.size<=b)/\Inv m' γ' ob' w':=by
 obtain⟨m2,hm,hi2,ht⟩:=iH hi (o:=0) (X:=X) rfl hX;have hv2:au m2 γ A vs:=hF _ _ _ hm _ hv;obtain⟨d1,d2⟩:=nh (ob:=[]) (xs:=[.dead]) hi2 rfl;have hv3:=d2 (.tu A) (.tuple vs.toArray) (aR 0 _<|by simp[AV.pure,hp]) (by grind[Rep]);simp only[Rep]at hv3;obtain⟨vs',e1,hv4⟩:=hv3;obtain rfl:vs=vs':=by simpa using e1
 have hno: ∀k,¬InG (λo=>if o<([]:lXE).length then γ o else none) k:=λk⟨o,C,h⟩=>by simp at h
 refine(h.2 m2 _ w vs d1 hv4).mono ?_;rintro e w' ⟨m',γ',r0,o0,h1,h2,h3,h4,h5⟩;refine⟨m',γ',r0,o0,h1,h2,h3.os,h3.tape,h3.output,h3.size,λk hk=>h3.blk k hk (hno k),λa x ha=>h3.mem a x (hm.le.mem a x ha),λo b C hg=> ?_,h4⟩;by_cases hb:w.heap.size<=b
 ·exact hb
 ·exact absurd (h3.gam b oaa ⟨o,C,hg⟩) (hno b)
theorem xI{x:Value}(hX:(∃T S rows,X= .row T S rows)\/ ∃Tb cells,X= .box Tb cells)(hF:fk 0 X A' A)(hp:aq A=true)(h:aQ P f A [] [] (.v x) []):aQ P f A' [X] [] (.v x) [X]:=by
 refine⟨h.1,λm γ w vs hi hv=>(abH hX hF h hp hi hv).mono ?_⟩;rintro e w' ⟨m',γ',r0,o0,⟨rfl,rfl⟩,h2,k1,k2,k3,k4,k5,k6,k7,h4⟩;refine⟨m,γ,_,_,⟨rfl,rfl⟩,?_,⟨λ_ _ h=>h,λ_ _ h=> .inl h,λ_ _ h=>h,k1,k2,k3,k4,λk hk _=>k5 k hk⟩,⟨λa y ha=>h4.mem a y (k6 a y ha),λo Y hY=> ?_,hi.sep,λo b C hg=>agz (hi.dom o b C hg) k4,hi.len,h4.tab⟩,λ_ _ _ h=>h⟩
 ·cases e with
  |returned v=>have h2':Rep m' γ' (.v x) v:=h2;show Rep m γ (.v x) v;simpa only[Rep]using h2'
  |panicked c=>exact h2.elim
  |outgrown=>exact h2.elim
 ·exact dU (hi.obj o Y hY) ⟨λ_ _ h=>h,λ_ _ h _=>h⟩ (λb C hg=>k5 b<|hi.dom o b C hg) (λ_ _ _ _ h=>h)
section
variable{T S k:Nat}{rows:List lXF}
theorem HL(hX:(∃T S rows,X= .row T S rows)\/ ∃Tb cells,X= .box Tb cells)(hF:fk 0 X A' A)(hp:aq A=true)(h:aQ P f A [] [] (.sr 0 S 0 k) [.row T S rows])(hrow: ∀c∈rows.flatten,∃x,c= .v x):aQ P f A' [X] [] (.sr 1 S 0 k) [X,.row T S rows]:=by
 refine⟨h.1,λm γ w vs hi hv=>(abH hX hF h hp hi hv).mono ?_⟩;rintro e w' ⟨m',γ',r0,o0,⟨rfl,rfl⟩,h2,k1,k2,k3,k4,k5,k6,k7,h4⟩;let γ1:Gam:=λo=>match o with
  |0=>γ 0
  |1=>γ' 0
  |_=>none
 have hkeep: ∀o g,γ o=some g->γ1 o=some g:=λo g hg=>by
  have:=hi.len o oav;have h0:o=0:=by simpa using this
  subst h0;exact hg
 have hle:Le m γ [] m γ1:=⟨λ_ _ h=>h,λo g hg _=>hkeep o g hg⟩;refine⟨m,γ1,_,_,⟨rfl,rfl⟩,?_,⟨λ_ _ h=>h,λ_ _ h=> .inl h,λj hj⟨o,C,hg⟩=> ?_,k1,k2,k3,k4,λk hk _=>k5 k hk⟩,⟨λa y ha=>h4.mem a y (k6 a y ha),λo Y hY=> ?_,λo o' b C C' l1 l2 g1 g2=> ?_,λo b C hg=> ?_,λo hg=> ?_,h4.tab⟩,λo g _ hg=>hkeep o g hg⟩
 ·cases e with
  |returned v=>have h2':Rep m' γ' (.sr 0 S 0 k) v:=h2;show Rep m γ1 (.sr 1 S 0 k) v;simp only[Rep]at h2' ⊢;exact h2'
  |panicked c=>exact h2.elim
  |outgrown=>exact h2.elim
 ·match o,hg with
  |0,hg=>exact⟨0,C,hg⟩
  |1,hg=>have:=k7 0 j C hg;omega
 ·match o,hY with
  |0,hY=>simp at hY;subst hY;exact dU (hi.obj 0 _ rfl) hle (λb C hg=>k5 b<|hi.dom 0 b C hg) (λ_ _ _ _ h=>h)
  |1,hY=>
   simp at hY;subst hY;rcases h4.obj 0 _ rfl with⟨g1,g2⟩|⟨b,C,xs,g1,g2,g3,g4,g5,g6,g7,g8⟩
   ·exact .inl ⟨g1,g2⟩
   ·refine .inr ⟨b,C,xs,g1,g2,g3,g4,g5,g6,AW hrow g7,λoff=> ?_⟩;cases hm:m ⟨b,off,none⟩with
    |none=>rfl
    |some y=>have:=k6 _ _ hm;rw[g8]at this;cases this
  |o+2,hY=>simp at hY
 ·match o,o',g1,g2 with
  |0,0,_,_=>rfl
  |1,1,_,_=>rfl
  |0,1,g1,g2=>have q1:=hi.dom 0 b C g1;have q2:=k7 0 b C' g2;omega
  |1,0,g1,g2=>have q1:=hi.dom 0 b C' g2;have q2:=k7 0 b C g1;omega
 ·match o,hg with
  |0,hg=>exact agz (hi.dom 0 b C hg) k4
  |1,hg=>exact h4.dom 0 b C hg
 ·match o,hg with
  |0,_=>simp
  |1,_=>simp
  |o+2,hg=>exact absurd rfl hg
theorem HM(hX:(∃T S rows,X= .row T S rows)\/ ∃Tb cells,X= .box Tb cells)(hF:fk 0 X A' A)(hp:aq A=true)(hXu:X.und 1=true)(h:aQ P f A [] [] (.sr 0 S 0 k) [.row T S rows])(hk:k=rows.length)(hrow: ∀c∈rows.flatten,∃x,c= .v x)(hpr:aM rows=true):aQ P f A' [X] [] (.sl S rows) [X]:=by
 have h1:=lD (ob2:=[X,.dead]) (HL hX hF hp h hrow) (o:=1) (X:= .row T S rows) rfl (.inl ⟨_,_,_,rfl⟩) (Frz.sr0 rfl hk) rfl (λi Y Y' e1 e2=>by
  match i with
  |0=>simp at e1 e2;subst e1;subst e2;exact .inr ⟨by omega,.same _⟩
  |1=>simp at e2;exact .inl e2.symm
  |i+2=>simp at e2)
 refine lh (ob':=[X]) (h1.mono λe o hh=>⟨hh.1,[.dead],hh.2⟩) (afG _) (by simp[AV.und,bO _ rows hpr]) ?_;simp[hXu]
end
end
structure kz where
 f:FuncId
 args:lXF
 ob0:lXE
 r:AV
 p:Prop
def kz.bu(P:Program)(c:kz):Prop:=c.p->ly P c.f c.args c.ob0 c.r c.ob0
noncomputable def sP(T:List kz)(callf:cd):cd:=λf args O N tm=>match tm.gd with
 | .cq i _::g=>match T[i]? with
  |some c=>cond (Nat.beq f c.f) (.ret c.r O N<|(tm.at N).told g<|dec c.p&&dec (args=c.args/\oW O N 0=c.ob0)) (callf f args O N tm)
  |none=>callf f args O N tm
 |_=>callf f args O N tm
inductive o7(P:Program):List kz->Prop
 |nil:o7 P []
 |cons {c:kz} {T:List kz} (h:c.bu P) (t:o7 P T):o7 P (c::T)
section
variable{P:Program}{n K:Nat}
theorem o7.get: ∀{T:List kz},o7 P T-> ∀{i:Nat}{c:kz},T[i]? =some c->c.bu P
 |[],_,i,c,h=>by simp at h
 |d::T,.cons h t,i,c,e=>by
  cases i with
  |zero=>simp at e;subst e;exact h
  |succ i=>exact t.get oaO
theorem oD{T:List kz}{callf:cd}(h:o7 P T)(hcf:b0 P callf):b0 P (sP T callf):=λf args O N tm=>by
 unfold sP;split
 ·rename_i i r g hg;split
  ·rename_i c hc;cases hf:Nat.beq f c.f with
   |false=>exact hcf f args O N tm
   |true=>have:=afJ hf;subst this;simp only[afN];refine⟨λr' O1 N1 t1 e=> ?_,λav O1 N1 t1 e=>by cases e⟩;cases e;refine⟨⟨[_],rfl⟩,λhok ob hO=> ?_⟩;simp only[TM.told,TM.at,cr,afv]at hok;have k:=(h.get hc) (aH.1 hok.1.1);grind[aH,nr]
  ·exact hcf f args O N tm
 ·exact hcf f args O N tm
theorem qE{c:kz}(hp:c.p){ob:lXE}(e:ob=c.ob0):(dec c.p&&dec (c.args=c.args/\ob=c.ob0))=true:=by grind[aH]
noncomputable def abI(P:Program)(rs:List ResultVar)(r:AV)(obs:lXE):VK:=λt x M O N=>finV P rs r t x M O N/\(range obs.length).map O.get=obs.map some
theorem gn{callf:cd}{pu:FuncId->Bool}{lf:Nat}{f:FuncId}{fn:Func}{body:Code}{args:lXF}{r:AV}{obs:lXE}{l:List (Nat×KB)}{t:GT}(hcf:b0 P callf)(hm:P.follows .mixedOrders=true)(hf:P.funcs[f]? =some fn)(hname:(fn.name== "runtime.NumGoroutine")=false)(hb:fn.body=some body)(hn:args.length<=fn.ntmps)(hk:qS P fn.ntmps 0 (kbL l) body)(hu:r.und obs.length=true)(ho:obs.all (Ob.und obs.length)=true)(h:vcC P fn.ntmps callf pu lf (kbL l) body (mq 0 args .e) .e 0 (abI P fn.results.toList r obs) t):aQ P f args [] [] r obs:=by
 refine jT hf hname hb hn (af7 _) hu ho ?_;refine(gw hcf hm hk).ok h (fw args) bK.nil (.inl rfl) λ{t' x M' O' N' L' ob'} h1 hM hO=> ?_;obtain⟨h1,h2⟩:=h1;obtain⟨xs,e⟩:=sH rfl h2 hO;have aux:Fy r (mn P M' O' fn.results.toList)-> ∃avs,oP P L' ob' fn.results.toList avs/\(qp.ret (iw avs)= .ret r/\ ∃xs,ob'=obs++xs):=λh=>by
  cases hr:mn P M' O' fn.results.toList with
  |none=>rw[hr]at h;exact h.elim
  |some avs=>rw[hr]at h;exact⟨avs,kq hM hO hr,afQ _ h,xs,e⟩
 cases x with
 |normal=>exact aux h1
 |ret=>exact aux h1
 |_=>exact h1.elim
theorem roE{α:Type}{T S k:Nat}{f:α->lXF}{rows:List lXF}{l r:List α}(e:Ob.row T S rows=Ob.row T S (l.map f))(h:r=l):(AV.sr 0 S 0 k=AV.sr 0 S 0 k)/\([Ob.row T S rows].map some=[Ob.row T S (r.map f)].map some):=⟨rfl,by rw[e,h]⟩
section
variable(t hit:Bool)
def CG(xr xn:AX)(L1:Loc)(ob1:lXE)(Lr:Loc)(obr:lXE)(Lx:Loc)(obx:lXE)(o:bG):Prop:=o.p->(o.x= .normal/\t=false/\o.L=L1/\o.ob=ob1)\/(t=true/\((hit=true/\o.x=xr/\o.L=Lr/\o.ob=obr)\/(hit=false/\o.x=xn/\o.L=Lx/\o.ob=obx)))
def whW(xr:AX)(Lr:Loc)(sel:lXC)(obr:lXE):bG:=⟨t=true/\hit=true,xr,Lr,sel,obr⟩
def wxW(xn:AX)(Lx:Loc)(sel:lXC)(obx:lXE):bG:=⟨t=true/\hit=false,xn,Lx,sel,obx⟩
end
section
variable{t hit:Bool}{xr xn:AX}
def Z7{L1 La Lr Lx:Loc}{ob1 oba obr obx:lXE}{sel:lXC}:CG t hit xr xn L1 ob1 Lr obr Lx obx (nxW t L1 ob1 La sel oba):=λh=> .inl ⟨rfl,h.1,h.2.1,h.2.2⟩
section
variable{L1 Lr Lx:Loc}{ob1 obr obx:lXE}{sel:lXC}
def ade:CG t hit xr xn L1 ob1 Lr obr Lx obx (whW t hit xr Lr sel obr):=λh=> .inr ⟨h.1,.inl ⟨h.2,rfl,rfl,rfl⟩⟩
def adf:CG t hit xr xn L1 ob1 Lr obr Lx obx (wxW t hit xn Lx sel obx):=λh=> .inr ⟨h.1,.inr ⟨h.2,rfl,rfl,rfl⟩⟩
end
end
noncomputable def dL{σ:Type}(t:σ->Bool)(it:Nat->σ):Nat:= @dite Nat (∃k,t (it k)=true) (Classical.propDecidable _) (λh=>gQ (h.choose+1) λk=>t<|it k) (λ_=>0)
theorem fR{σ:Type}{t:σ->Bool}{it:Nat->σ}(h: ∃k,t (it k)=true):t (it<|dL t it)=true/\ ∀j,j<dL t it->t (it j)=false:=by unfold dL;rw[dif_pos h];have:=iJ (n:=h.choose+1) (t:=λk=>t<|it k) (ff.2 ⟨h.choose,by omega,h.choose_spec⟩);exact⟨this.2.1,this.2.2⟩
theorem adg{id:Nat}{c:Code}{σ:Type}{t hit:σ->Bool}{it:Nat->σ}{step:σ->σ}(hit1: ∀k,it (k+1)=step (it k)){I:σ->Prop}{xr xn:AX}{Lr Lx:σ->Loc}{obr obx:σ->lXE}{V:σ->VC}(L:σ->Loc)(Bs:σ->lXE)(k:Nat)(outs:σ->List bG)(g:σ->GT)(hv: ∀x,I x->ic P n K c (V x))(hxr:xr≠ .normal)(hxn:xn≠ .normal)(hk: ∀x,(Bs x).length=k)(h: ∀x,I x->V x (dX<|L x) (dq<|Bs x) k (nw<|outs x) (g x))(hf: ∀x,I x->(outs x).all (bG.fP K)=true)(hq: ∀x,I x-> ∀o∈outs x,o.p->(o.x= .normal/\t x=false/\o.L=L (step x)/\o.ob=Bs (step x))\/(t x=true/\((hit x=true/\o.x=xr/\o.L=Lr x/\o.ob=obr x)\/(hit x=false/\o.x=xn/\o.L=Lx x/\o.ob=obx x))))(hterm: ∃k,t (it k)=true)(hI: ∀k,k<=dL t it->I (it k)):(hit (it<|dL t it)=true->Piece P n K (.block id<|.loop c) (L<|it 0) (Bs<|it 0) (lF id xr) (Lr<|it<|dL t it) (obr<|it<|dL t it))/\(hit (it<|dL t it)=false->Piece P n K (.block id<|.loop c) (L<|it 0) (Bs<|it 0) (lF id xn) (Lx<|it<|dL t it) (obx<|it<|dL t it)):=by
 obtain⟨hend,hlt⟩:=fR hterm;generalize hM:dL t it=M at*;have go: ∀{df:Option Nat}{Q:dy},jk df (.block id<|.loop c)->((hit (it M)=true/\Q (lF id xr) (Lr<|it M) (obr<|it M))\/(hit (it M)=false/\Q (lF id xn) (Lx<|it M) (obx<|it M)))->awp df P n K [] (.block id<|.loop c) Q (L<|it 0) (Bs<|it 0):=λ{df Q} hd hQ=>by
  have hd':jk df c:=hd.imp (λe=>e) λe=>by simpa only[Code.inR]using e
  refine dN (mW (λi=>L<|it i) (λi=>Bs<|it i) (λi=>i<=M) (λi=>M-i) 0 (af7 _) (Sub.refl _) rfl λi hi=> ?_);refine pO (hv _<|hI i hi) ((hk _).symm▸h _<|hI i hi) (hf _<|hI i hi) hd' λo ho hp=> ?_;rcases hq _ (hI i hi) o ho hp with⟨e1,e2,e3,e4⟩|⟨e1,e2⟩
  ·have hne:i≠M:=λe=>by rw[e,hend]at e2;cases e2
   rw[e1,e3,e4];exact⟨i+1,by omega,by omega,by rw[hit1];exact Sub.refl _,by rw[hit1]⟩
  ·have he:i=M:=by
    by_cases e:i=M
    ·exact e
    ·rw[hlt i oaa]at e1;cases e1
   subst he;have key: ∀x L' ob',x≠ .normal->Q (lF id x) L' ob' ->(match x with| .normal=>False|x=>jJ id Q x L' ob'):=λx L' ob' hx q=>by
    have:=qT (df:=df) (id:=id) (Q:=Q) q;cases x with
    |normal=>exact absurd rfl hx
    |_=>exact this
   rcases e2 with⟨h1,h2,h3,h4⟩|⟨h1,h2,h3,h4⟩
   ·rcases hQ with⟨_,q⟩|⟨q0,_⟩
    ·have:=key o.x o.L o.ob (by rw[h2];exact hxr) (by rw[h2,h3,h4];exact q);revert this;rw[h2];cases xr with
     |normal=>exact absurd rfl hxr
     |_=>exact λq=>q
    ·rw[h1]at q0;cases q0
   ·rcases hQ with⟨q0,_⟩|⟨_,q⟩
    ·rw[h1]at q0;cases q0
    ·have:=key o.x o.L o.ob (by rw[h2];exact hxn) (by rw[h2,h3,h4];exact q);revert this;rw[h2];cases xn with
     |normal=>exact absurd rfl hxn
     |_=>exact λq=>q
 exact⟨λe df Q hd q=>go hd (.inl ⟨e,q⟩),λe df Q hd q=>go hd (.inr ⟨e,q⟩)⟩
end
section
variable{P:Program}{n K:Nat}
theorem xJ{df:Option Nat}{Q:dy}{c:Code}{L':Loc}{ob':lXE}{x:AX}(hd:jk df c)(hrf:c.rf=false)(hx:eA x=true)(hq:Q x L' ob'){m:Mem}{γ:Gam}{w:World}{a:Act}{ob2 obc obc':lXE}{sel kk:lXC}{Ls Ls':Loc}{K2:Nat}(hi2:Inv m γ ob2 w)(hs:a.tmps.size=n)(hnd:sel.Nodup)(hlen:sel.length=obc.length)(hsel: ∀(i s:Nat)(X:Ob),sel[i]? =some s->obc[i]? =some X->ob2[s]? =some (X.ren<|bU sel ob2.length)/\X≠ .dead)(hl':obc'.length=sel.length)(hkk: ∀k∈kk,k<sel.length)(hK2: ∀o,o<sel.length->kk.contains o=false->o<K2)(hKk: ∀o,o<K->(kk.map<|bU sel ob2.length).contains o=false)(hlS:bS m (λi=>γ<|bU sel ob2.length i) a Ls)(hp:Piece P n K2 c Ls obc x Ls' obc')(fin: ∀(m1:Mem)(γ':Gam)(w1:World)(a1:Act),Trans m γ w m1 γ' w1->Le m γ (kk.map<|bU sel ob2.length) m1 γ' ->Inv m1 γ' (back ob2 sel kk obc') w1->bS m1 (λi=>γ'<|bU sel ob2.length i) a1 Ls' ->Inv m1 γ' ob' w1/\bS m1 γ' a1 L'):c.wpIn (dx df) 0 P (jx c.rf a.defers K [] n Q m γ w) a w:=by
 have hisel:=od hi2 hnd hlen hsel;refine wpIn_mono (hp df (λx1 L1 ob1=>x1=x/\L1=Ls'/\ob1=obc') hd ⟨rfl,rfl,rfl⟩ m _ w a hisel hlS hs trivial) ?_;rintro e a1 w1 ⟨m1,γ1,L1,ob1,ax,⟨rfl,rfl,rfl⟩,h2,h3,h4,h5,h6,h7,h8⟩;obtain⟨γ',g1,g2,g3,g4⟩:=lg hi2 (kk:=kk) hnd hlen hsel (by rw[hl'];exact afG _) hkk h3 h4 (λo g ho hg=>by
  by_cases hok:o<sel.length
  ·exact h8 o g ⟨hK2 o hok ho,rfl⟩ hg
  ·exfalso;have:=hi2.len _ (show γ (bU sel ob2.length o)≠none by rw[hg];simp);rw[kj oaa]at this;omega)
 obtain⟨f1,f2⟩:=fin m1 γ' w1 a1 g2 g3 g4 (by rw[show(λi=>γ'<|bU sel ob2.length i)=γ1 from funext g1];exact h5);obtain⟨Ds,d1,d2,_,_⟩:=h7;have hDs:Ds=[]:=by
  rcases d2 with d2|d2
  ·rw[hrf]at d2;cases d2
  ·exact d2
 subst hDs;refine⟨m1,γ',_,_,_,hq,?_,g2,f1,f2,h6,Marks.of_eq (by simpa using d1),λo g ho hg=>g3.gam o g hg (by simpa using hKk o ho.1)⟩;exact kr hx (λ_ _ h=>h) h2
def fu(hs:lXC)(v:Nat->Value)(L:Loc):Loc:=L.map λp=>(p.1,cond (hs.contains p.1) (.v<|v p.1) p.2)
theorem mv(hs:lXC)(v:Nat->Value)(t:Nat): ∀L:Loc,lk (fu hs v L) t=(lk L t).map λav=>cond (hs.contains t) (.v<|v t) av
 |[]=>rfl
 |(s,b)::L=>by
  simp only[fu,afZ];rw[cH,cH];by_cases h:s=t
  ·subst h;simp
  ·rw[if_neg h,if_neg h];exact mv hs v t L
theorem HN{c:Code}{L L':Loc}{ob:lXE}{x:AX}(hs:lXC)(hrf:c.rf=false)(hx:eA x=true)(u: ∀t av,lk L t=some av->hs.contains t=true\/av.und 0=true)(u': ∀t av,lk L' t=some av->(hs.contains t=true/\lk L t=some av)\/(hs.contains t=false/\av.und 0=true))(h: ∀v:Nat->Value,Piece P n 0 c (fu hs v L) [] x (fu hs v L') []):Piece P n K c L ob x L' ob:=by
 intro df Q hd hq m γ w a hi hl hsz ht;refine xJ hd hrf hx hq hi hsz (sel:=[]) (kk:=[]) (obc:=[]) (obc':=[]) (K2:=0) (Ls:=fu hs (λt=>a.tmps.getD t undef) L) (Ls':=fu hs (λt=>a.tmps.getD t undef) L') agU rfl (λi s X h=>by simp at h) rfl oaf (λo h=>by simp at h) (λo _=>rfl) (λt av e=> ?_) (h _) λm1 γ' w1 a1 g2 g3 g4 g5=>⟨by simpa [back,dW,gv]using g4,λt av e=> ?_⟩
 ·rw[mv]at e;cases e1:lk L t with
  |none=>rw[e1]at e;cases e
  |some b=>
   rw[e1]at e;obtain⟨q1,q2⟩:=hl t b e1;refine⟨q1,?_⟩;cases h3:hs.contains t with
   |true=>rw[h3]at e;cases e;simp[Rep]
   |false=>
    rw[h3]at e;cases e;rcases u t _ e1 with h4|h4
    ·rw[h3]at h4;cases h4
    ·refine(dk b _).2 ?_;rw[ow (N:=0) (λ_ h=>by cases h) _ h4];exact q2
 ·rcases u' t av e with⟨h3,e2⟩|⟨h3,h4⟩
  ·obtain⟨p1,p2⟩:=g5 t (.v<|a.tmps.getD t undef) (by rw[mv,e,h3];rfl);obtain⟨q1,q2⟩:=hl t av e2;refine⟨p1,?_⟩;have p3:a1.tmps.getD t undef=a.tmps.getD t undef:=by simpa [Rep]using p2
   rw[p3];exact fj g3 _ _ (AV.ei _) q2
  ·obtain⟨p1,p2⟩:=g5 t av (by rw[mv,e,h3];rfl);refine⟨p1,?_⟩;have:=(dk (m:=m1) (γ:=γ') av _).1 p2;rw[ow (N:=0) (λ_ h=>by cases h) av h4]at this;exact this
end
def ba{α:Type}{p:α->Prop}: ∀x∈([]:List α),p x:=λx h=>by simp at h
def mqc{α:Type}{p:α->Prop}{a:α}{l:List α}(h:p a)(t: ∀x∈l,p x): ∀x∈a::l,p x:=oaq
def bz{P:Program}{n K:Nat}{c:Code}{L L':Loc}{ob:lXE}{x:AX}(hs:lXC)(hrf:c.rf=false)(hx:eA x=true)(u: ∀p∈L,hs.contains p.1=true\/p.2.pure=true)(u': ∀p∈L',(hs.contains p.1=true/\lk L p.1=some p.2)\/(hs.contains p.1=false/\p.2.pure=true))(h: ∀v:Nat->Value,Piece P n 0 c (fu hs v L) [] x (fu hs v L') []):Piece P n K c L ob x L' ob:=HN hs hrf hx (λ_ _ e=>(u _<|jf e).imp id λh=>aR 0 _ h) (λ_ _ e=>(u' _<|jf e).imp id λh=>⟨h.1,aR 0 _ h.2⟩) h
def oE{K:Nat}{L L':Loc}{ob:lXE}{Tb:TypeId}{cells:lXF}(hK:K<=ob.length)(hL: ∀p∈L',(lk L p.1=some p.2/\p.2.und ob.length=true)\/(lk L p.1=some (.pt ob.length 0)/\p.2= .pf cells/\(AV.pf cells).und ob.length=true))(hO:ob.all (Ob.und ob.length)=true):dF K L (ob++ [.box Tb cells]) L' ob:=by
 refine⟨λm γ w hi=> ?_⟩;have ho:(ob++ [Ob.box Tb cells])[ob.length]? =some (.box Tb cells):=by simp
 obtain⟨m2,hm,hi2,ht⟩:=iH hi ho (.inr ⟨Tb,cells,rfl⟩);have hset:(ob++ [Ob.box Tb cells]).set ob.length .dead=ob++ [.dead]:=by simp
 rw[hset]at hi2;obtain⟨d1,d2⟩:=nh hi2 hO;have hb: ∀o g,(λo=>if o<ob.length then γ o else none) o=some g->γ o=some g:=λo g h=>by
  simp only at h;split at h
  ·exact h
  ·cases h
 refine⟨m2,_,ht.trans ⟨λ_ _ h=>h,λ_ _ h=> .inl h,λk _⟨o,C,h⟩=>⟨o,C,hb o _ h⟩,rfl,rfl,rfl,afG _,λ_ _ _=>rfl⟩,d1,λo g h1 h2=>(if_pos<|show o<ob.length by omega).trans h2,λk⟨o,C,h⟩=>⟨o,C,hb o _ h⟩,λa hl t av' e=> ?_⟩;rcases hL _ (jf e)with⟨h,hu⟩|⟨h,rfl,hu⟩
 ·obtain⟨q1,q2⟩:=hl t _ h;exact⟨q1,d2 _ _ hu (fj hm.le _ _ (AV.ei _) q2)⟩
 ·obtain⟨q1,q2⟩:=hl t _ h;exact⟨q1,d2 _ _ hu (Frz.pt rfl _ _ _ hm _ q2)⟩
def FD{m:Mem}{γ:Gam}{o j:Nat}{Rs:List (List Value)}{Rj:List Value}{xs:List Value}(h:au m γ (dB o Rs) xs)(hj:Rs[j]? =some Rj):au m γ ((vs xs).set j<|.sr (o+j) 1 0 Rj.length) xs:=by
 refine cF (by simp[vs]) λi c y hc hy=> ?_;by_cases hij:j=i
 ·subst hij;have hjl:=(afF.1 hy).1;rw[agi oaz]at hc;cases hc;obtain⟨z,hz,hr⟩:=bX h j (.sr (o+j) 1 0 Rj.length) (by rw[fX,hj];rfl);rw[hy]at hz;cases hz;exact hr
 grind[vs,Rep]
def Ba{m m1:Mem}{γ γ1:Gam}{o j:Nat}{Rs:List (List Value)}{R':List Value}{xs ys:List Value}{ks:lXC}(h:au m γ (dB o Rs) xs)(hjl:j<Rs.length)(hle:Le m γ ks m1 γ1)(hys:au m1 γ1 ((vs xs).set j<|.sr (o+j) 1 0 R'.length) ys)(hks: ∀i,i<Rs.length->i≠j->ks.contains (o+i)=false):au m1 γ1 (dB o<|Rs.set j R') ys:=by
 have hxl:xs.length=Rs.length:=by rw[aZ h,dv]
 have hyl:ys.length=Rs.length:=by rw[aZ hys];simp[vs,hxl]
 refine cF (by rw[dv,af3,hyl]) λi c y hc hy=> ?_;rw[fX]at hc;by_cases hij:j=i
 ·subst hij;rw[agi hjl]at hc;cases hc;obtain⟨z,hz,hr⟩:=bX hys j (.sr (o+j) 1 0 R'.length) (agi oaz);rw[hy]at hz;cases hz;exact hr
 ·rw[af1 hij]at hc;cases hR:Rs[i]? with
  |none=>rw[hR]at hc;cases hc
  |some R=>
   rw[hR]at hc;cases hc;have hil:i<Rs.length:=(afF.1 hR).1;have e1:xs[i]? =some (xs[i]'oaa):=afR oaa;obtain⟨z,hz,hr⟩:=bX hys i (.v<|xs[i]'oaa) (by grind[vs]);rw[hy]at hz;cases hz;have hr':y=xs[i]'oaa:=by simpa [Rep]using hr
   subst hr';obtain⟨z,hz,hr2⟩:=bX h i (.sr (o+i) 1 0 R.length) (by rw[fX,hR];rfl);grind[fj,AV.free]
section
variable(Ti:TypeId)(o1 o2:Ob)(A B:List (List Value))
def uC:lXE:=(o1::A.map (inner Ti))++(o2::B.map (inner Ti))
theorem dY(i:Nat):(uC Ti o1 o2 A B)[i]? =if i=0 then some o1 else if i<A.length+1 then(A[i-1]?).map (inner Ti)else if i=A.length+1 then some o2 else(B[i-(A.length+2)]?).map (inner Ti):=by unfold uC;grind
theorem qZ:(uC Ti o1 o2 A B).length=A.length+B.length+2:=by simp[uC];omega
end
def eh(T:TypeId)(cs:lXF):Ob:= .row T 1 (aL cs)
def shA(n1:Nat):AV->AV
 | .sr 1 S a b=> .sr (n1+1) S a b
 |av=>av
def shL(n1:Nat)(L:Loc):Loc:=L.map λp=>(p.1,shA n1 p.2)
def nz:AV->Bool
 | .sr 1 _ _ _=>true
 |_=>false
theorem CH{n1:Nat}{f:Nat->Nat}(f0:f 0=0)(f1:f 1=n1+1)(av:AV)(h:(nz av||av.und 1)=true):av.ren f=shA n1 av:=by
 rcases agX _ _▸h with h|h
 ·unfold nz at h;grind[AV.ren,shA]
 ·rw[ow (N:=1) oaq av h];unfold shA;split
  ·simp[AV.und]at h
  ·rfl
theorem Kr(n1 t:Nat): ∀L:Loc,lk (shL n1 L) t=(lk L t).map (shA n1)
 |[]=>rfl
 |(s,b)::L=>by
  simp only[shL,afZ];rw[cH,cH];by_cases h:s=t
  ·rw[if_pos h,if_pos h];rfl
  ·rw[if_neg h,if_neg h];exact Kr n1 t L
theorem HO{p:AV->Bool}{L:Loc}(hu:L.all (λq=>p q.2)=true){t:Nat}{av:AV}(h:lk L t=some av):p av=true:=by
 induction L with
 |nil=>simp[lk]at h
 |cons q L ih=>grind[cH]
section
variable{P:Program}{n:Nat}
set_option maxHeartbeats 1000000 in
theorem FE {c:Code} {Ls Ls':Loc} {T Ti:TypeId} {R1 R2:List (List Value)} {j k:Nat} {A A' B B':List Value} {x:AX} (hj:R1[j]? =some A) (hk:R2[k]? =some B) (hrf:c.rf=false) (hx:eA x=true)
  (uL:Ls.all (λp=>nz p.2||p.2.und 1)=true) (uL':Ls'.all (λp=>nz p.2||p.2.und 1)=true)
  (h: ∀xs ys:List Value,xs.length=R1.length->ys.length=R2.length->Piece P n 2 c Ls [eh T ((vs xs).set j<|.sr 2 1 0 A.length),eh T ((vs ys).set k<|.sr 3 1 0 B.length),inner Ti A,inner Ti B] x Ls' [eh T ((vs xs).set j<|.sr 2 1 0 A'.length),eh T ((vs ys).set k<|.sr 3 1 0 B'.length),inner Ti A',inner Ti B']):
  Piece P n 0 c (shL R1.length Ls) (cj 0 T Ti R1++cj (R1.length+1) T Ti R2) x (shL R1.length Ls') (cj 0 T Ti (R1.set j A')++cj (R1.length+1) T Ti (R2.set k B')):=by
 intro df Q hd hq m γ w a hi hl hs ht;have hjl:j<R1.length:=(afF.1 hj).1;have hkl:k<R2.length:=(afF.1 hk).1;generalize hn1:R1.length=n1 at*;have hob:cj 0 T Ti R1++cj (n1+1) T Ti R2=uC Ti (eh T<|dB 1 R1) (eh T<|dB (n1+2) R2) R1 R2:=rfl;rw[hob]at hi;obtain⟨xs,hxs,hre⟩:=fN (o:=0) (hi.obj 0 _<|by rw[dY];rfl) (by rw[dv];omega);obtain⟨ys,hys,hre'⟩:=fN (o:=n1+1) (T:=T) (cs:=dB (n1+2) R2) (hi.obj (n1+1) _<|by rw[dY,if_neg oaa,if_neg oaa,if_pos (by rw[hn1])];rfl) (by rw[dv];omega);have hxl:xs.length=n1:=by rw[aZ hxs,dv,hn1]
 have hyl:ys.length=R2.length:=by rw[aZ hys,dv]
 let o1:Ob:=eh T ((vs xs).set j<|.sr (1+j) 1 0 A.length);let o2:Ob:=eh T ((vs ys).set k<|.sr (n1+2+k) 1 0 B.length);let ob2:=uC Ti o1 o2 R1 R2;have hlen2:ob2.length=n1+R2.length+2:=by rw[qZ,hn1]
 have hi2:Inv m γ ob2 w:=by
  refine lC hi (by rw[hlen2,qZ,hn1]) λi Y hY=> ?_;by_cases hdd:Y= .dead
  ·exact .inl hdd
  ·right;have hY0:=hY;rw[dY]at hY;by_cases h0:i=0
   ·subst h0;rw[if_pos rfl]at hY;cases hY;exact⟨⟨_,by rw[dY];rfl,by simp[eh]⟩,hre _ (FD hxs hj)⟩
   ·rw[if_neg h0]at hY;by_cases h1:i=n1+1
    ·subst h1;rw[hn1,if_neg oaa,if_pos rfl]at hY;cases hY;exact⟨⟨eh T (dB (n1+2) R2),by rw[dY,if_neg oaa,if_neg oaa,if_pos (by rw[hn1])],by simp[eh]⟩,hre' _ (FD hys hk)⟩
    ·have e:(uC Ti (eh T<|dB 1 R1) (eh T<|dB (n1+2) R2) R1 R2)[i]? =some Y:=by rw[dY,if_neg h0];rw[hn1,if_neg h1]at hY⊢;exact hY
     exact⟨⟨Y,e,hdd⟩,hi.obj i Y e⟩
 let sel:=[0,n1+1,1+j,n1+2+k];have hnd:sel.Nodup:=by simp only[sel,ahe,agc,agI,or_false,not_or,not_false_eq_true,agU,and_true];omega
 have f0:bU sel ob2.length 0=0:=rfl;have f1:bU sel ob2.length 1=n1+1:=rfl;have f2:bU sel ob2.length 2=1+j:=rfl;have f3:bU sel ob2.length 3=n1+2+k:=rfl;have g0:ob2[0]? =some o1:=by rw[dY];rfl
 have g1:ob2[n1+1]? =some o2:=by rw[dY,if_neg oaa,if_neg oaa,if_pos (by rw[hn1])]
 have g2:ob2[1+j]? =some (inner Ti A):=by rw[dY,if_neg oaa,if_pos oaa,show 1+j-1=j by omega,hj];rfl
 have g3:ob2[n1+2+k]? =some (inner Ti B):=by rw[dY,if_neg oaa,if_neg oaa,if_neg oaa,hn1,show n1+2+k-(n1+2)=k by omega,hk];rfl
 refine xJ hd hrf hx hq hi2 hs (sel:=sel) (kk:=[2,3]) (K2:=2) hnd rfl ?_ rfl (by intro q hq;simp only[agc,agI,or_false]at hq;show q<4;omega) ?_ (λo ho=>by omega) ?_ (h xs ys hxl hyl) ?_
 ·intro i s X h1 h2
  match i,h1,h2 with
  |0,h1,h2=>cases h1;cases h2;exact⟨g0.trans (by simp only[eh,Ob.ren,dK,fi,mu,AV.ren,f2,o1]),by simp[eh]⟩
  |1,h1,h2=>cases h1;cases h2;exact⟨g1.trans (by simp only[eh,Ob.ren,dK,fi,mu,AV.ren,f3,o2]),by simp[eh]⟩
  |2,h1,h2=>cases h1;cases h2;exact⟨g2.trans (by rw[jG]),by simp[inner]⟩
  |3,h1,h2=>cases h1;cases h2;exact⟨g3.trans (by rw[jG]),by simp[inner]⟩
  |i+4,h1,_=>simp[sel]at h1
 ·intro o ho hc;have ho:o<4:=ho
  match o,ho,hc with
  |0,_,_=>omega
  |1,_,_=>omega
  |2,_,hc=>simp at hc
  |3,_,hc=>simp at hc
 ·intro t av e;obtain⟨q1,q2⟩:=hl t (shA n1 av) (by rw[Kr,e];rfl);exact⟨q1,(dk av _).2 (by rw[CH f0 f1 av (HO (p:=λv=>nz v||v.und 1) uL e)];exact q2)⟩
 ·intro m1 γ' w1 a1 t1 le1 i1 l1;let o1':Ob:=eh T ((vs xs).set j<|.sr (1+j) 1 0 A'.length);let o2':Ob:=eh T ((vs ys).set k<|.sr (n1+2+k) 1 0 B'.length);generalize hobc:[eh T ((vs xs).set j<|.sr 2 1 0 A'.length),eh T ((vs ys).set k<|.sr 3 1 0 B'.length),inner Ti A',inner Ti B']=obc' at i1;have hobl:obc'.length=4:=by rw[<-hobc];rfl
  have hback:back ob2 sel [2,3] obc'=uC Ti o1' o2' (R1.set j A') (R2.set k B'):=by
   obtain⟨sg1,sg2⟩:=me (ob:=dW ([2,3].map<|bU sel ob2.length) ob2) (obc:=(obc'.take sel.length).map<|Ob.ren<|bU sel ob2.length) hnd (by rw[afK,agh,hobl];rfl) (λs hs=>by rw[e9,hlen2];simp only[sel,agc,agI,or_false]at hs;omega);unfold back;rw[List.drop_eq_nil_of_le (by rw[hobl];exact afG _),agA,agG];rw[agd (show obc'.length<=sel.length by rw[hobl];exact afG _)]at sg1 sg2⊢;apply af8;intro i;rw[dY,af3,hn1];by_cases h0:i=0
   ·subst h0;refine(sg1 0 0 o1' rfl<|by rw[<-hobc];simp only[afZ,agM,eh,Ob.ren,dK,fi,mu,AV.ren,f2,o1']).trans ?_;rw[if_pos rfl]
   ·rw[if_neg h0];by_cases h1:i=n1+1
    ·subst h1;refine(sg1 1 (n1+1) o2' rfl<|by rw[<-hobc];simp only[afZ,agY,agM,eh,Ob.ren,dK,fi,mu,AV.ren,f3,o2']).trans ?_;rw[if_neg oaa,if_pos rfl]
    ·rw[if_neg h1];by_cases h2:i=1+j
     ·subst h2;refine(sg1 2 (1+j) (inner Ti A') rfl oaD).trans ?_;rw[if_pos oaa,show 1+j-1=j by omega,agi oaa];rfl
     ·by_cases h3:i=n1+2+k
      ·subst h3;refine(sg1 3 (n1+2+k) (inner Ti B') rfl oaD).trans ?_;rw[if_neg oaa,show n1+2+k-(n1+2)=k by omega,agi hkl];rfl
      ·rw[sg2 i (by simp only[sel,agc,agI,or_false,not_or];omega),km];simp only[afZ,agA,ob2];rw[dY,if_neg h0,hn1,if_neg h1];by_cases h4:i<n1+1
       ·rw[if_pos h4,if_pos h4,af1 oaa];cases R1[i-1]? with
        |none=>rfl
        |some R=>simp only[afV,pK]
       ·rw[if_neg h4,if_neg h4,af1 oaa];cases R2[i-(n1+2)]? with
        |none=>rfl
        |some R=>simp only[afV,pK]
  rw[hback]at i1;obtain⟨zs,hzs,hre3⟩:=fN (o:=0) (i1.obj 0 _<|by rw[dY];rfl) oaz;obtain⟨us,hus,hre4⟩:=fN (o:=n1+1) (T:=T) (cs:=(vs ys).set k<|.sr (n1+2+k) 1 0 B'.length) (i1.obj (n1+1) _<|by rw[dY,af3,if_neg oaa,if_neg oaa,if_pos (by rw[hn1])];rfl) oaz;simp only[afZ,agA,f2,f3]at le1;have c1:=Ba hxs oaa le1 hzs (R':=A') (λi hi hne=>by simp;omega);have c2:=Ba hys hkl le1 hus (R':=B') (λi hi hne=>by simp;omega);refine⟨?_,λt av e=> ?_⟩
  ·show Inv m1 γ' (uC Ti (eh T<|dB 1<|R1.set j A') (eh T<|dB (n1+2)<|R2.set k B') (R1.set j A')<|R2.set k B') w1;refine lC i1 (by rw[qZ,qZ]) λi Y hY=> ?_;by_cases hdd:Y= .dead
   ·exact .inl hdd
   ·right;rw[dY]at hY;by_cases h0:i=0
    ·subst h0;rw[if_pos rfl]at hY;cases hY;exact⟨⟨_,by rw[dY];rfl,by simp[o1',eh]⟩,hre3 _ c1⟩
    ·rw[if_neg h0,af3,hn1]at hY;by_cases h1:i=n1+1
     ·subst h1;rw[if_neg oaa,if_pos rfl]at hY;cases hY;exact⟨⟨o2',by rw[dY,af3,if_neg oaa,if_neg oaa,if_pos (by rw[hn1])],by simp[o2',eh]⟩,hre4 _ c2⟩
     ·have e:(uC Ti o1' o2' (R1.set j A')<|R2.set k B')[i]? =some Y:=by rw[dY,if_neg h0,af3,hn1,if_neg h1];rw[if_neg h1]at hY;exact hY
      exact⟨⟨Y,e,hdd⟩,i1.obj i Y e⟩
  ·rw[Kr]at e;cases e1:lk Ls' t with
   |none=>rw[e1]at e;cases e
   |some b=>rw[e1]at e;cases e;obtain⟨q1,q2⟩:=l1 t b e1;refine⟨q1,?_⟩;rw[<-CH f0 f1 b (HO (p:=λv=>nz v||v.und 1) uL' e1)];exact(dk b _).1 q2
end
def NM{m m':Mem}{γ γ':Gam}{o N:Nat}{xs:List Value}(h:au m γ (replicate N<|.v<|.slice none 0 0) xs)(hg: ∀i,i<N->γ' (o+i)=some none):au m' γ' (dB o<|replicate N []) xs:=by
 refine cF (by rw[aZ h,dv];simp) λi c x hc hx=> ?_;rw[fX,age]at hc;split at hc
 ·rename_i hiN;cases hc;obtain⟨y,hy,hr⟩:=bX h i (.v<|.slice none 0 0) oaq;grind[Rep]
 ·cases hc
def Ks{m:Mem}{γ:Gam}{w:World}{o o':Nat}{T:TypeId}{N:Nat}(h:gP m γ w o (eh T<|replicate N<|.v<|.slice none 0 0))(hg: ∀i,i<N->γ (o'+i)=some none):gP m γ w o (eh T<|dB o'<|replicate N []):=by
 by_cases hN:N=0
 ·subst hN;exact h
 ·obtain⟨xs,hxs,hre⟩:=fN h oau;exact hre _ (NM hxs hg)
def NO{P:Program}{n:Nat}{L:Loc}{T:TypeId}(Ti:TypeId){n1 n2:Nat}(uL:L.all (λp=>nz p.2||p.2.und 1)=true):xy P n 0 L [eh T (replicate n1<|.v<|.slice none 0 0),eh T (replicate n2<|.v<|.slice none 0 0)] (shL n1 L) (cj 0 T Ti (replicate n1 [])++cj (n1+1) T Ti (replicate n2 [])):=by
 refine Ke λm γ w hi=> ?_;let f:Nat->Nat:=λi=>if i=0 then 0 else if i=1 then n1+1 else n1+n2+i
 let γ':Gam:=λo=>if o=0 then γ 0 else if o<n1+1 then some none else if o=n1+1 then γ 1 else if o<n1+2+n2 then some none else none
 have f0:f 0=0:=rfl;have f1:f 1=n1+1:=rfl;have e1:γ' (n1+1)=γ 1:=by show(if n1+1=0 then _ else if n1+1<n1+1 then _ else if n1+1=n1+1 then _ else _)=_;rw[if_neg oaa,if_neg oaa,if_pos rfl]
 have hγ:γ=λi=>γ' (f i):=funext λi=>by
  match i with
  |0=>rfl
  |1=>exact e1.symm
  |i+2=>
   have h1:γ (i+2)=none:=by
    cases hg:γ (i+2)with
    |none=>rfl
    |some g=>have:=hi.len (i+2) oav;simp only[afX,af6]at this;omega
   rw[h1];simp only[γ',f];rw[if_neg (show¬i+2=0 by omega),if_neg (show¬i+2=1 by omega),if_neg oaa,if_neg oaa,if_neg oaa,if_neg oaa]
 have nilr: ∀N,(eh T<|replicate N<|.v<|.slice none 0 0).ren f=eh T (replicate N<|.v<|.slice none 0 0):=λN=>by simp only[eh,Ob.ren,dK];rw[show replicate N (AV.v<|.slice none 0 0)=vs (replicate N<|.slice none 0 0) by simp[vs],mu]
 have in1: ∀i,i<n1->γ' (1+i)=some none:=λi hi=>by simp only[γ'];rw[if_neg oaa,if_pos oaa]
 have in2: ∀i,i<n2->γ' (n1+2+i)=some none:=λi hi=>by simp only[γ'];rw[if_neg oaa,if_neg oaa,if_neg oaa,if_pos oaa]
 have r1:gP m γ' w 0 (eh T<|dB 1<|replicate n1 []):=by have h0:=hi.obj 0 _ rfl;rw[hγ]at h0;have:=ng.1 h0;rw[nilr,f0]at this;exact Ks this in1
 have r2:gP m γ' w (n1+1) (eh T<|dB (n1+2)<|replicate n2 []):=by have h0:=hi.obj 1 _ rfl;rw[hγ]at h0;have:=ng.1 h0;rw[nilr,f1]at this;exact Ks this in2
 have hob:cj 0 T Ti (replicate n1 [])++cj (n1+1) T Ti (replicate n2 [])=uC Ti (eh T<|dB 1<|replicate n1 []) (eh T<|dB (n1+2)<|replicate n2 []) (replicate n1 []) (replicate n2 []):=rfl;rw[hob];have hget: ∀o Y,(uC Ti (eh T<|dB 1<|replicate n1 []) (eh T<|dB (n1+2)<|replicate n2 []) (replicate n1 [])<|replicate n2 [])[o]? =some Y->(o=0/\Y=eh T (dB 1<|replicate n1 []))\/(o=n1+1/\Y=eh T (dB (n1+2)<|replicate n2 []))\/(γ' o=some none/\Y=inner Ti []):=by
  intro o Y hY;rw[dY,ag5]at hY;by_cases h0:o=0
  ·rw[if_pos h0]at hY;cases hY;exact .inl ⟨h0,rfl⟩
  ·rw[if_neg h0]at hY;by_cases h1:o<n1+1
   ·rw[if_pos h1,age,if_pos oaa]at hY;cases hY;exact .inr (.inr ⟨by simp only[γ'];rw[if_neg h0,if_pos h1],rfl⟩)
   ·rw[if_neg h1]at hY;by_cases h2:o=n1+1
    ·rw[if_pos h2]at hY;cases hY;exact .inr (.inl ⟨h2,rfl⟩)
    ·rw[if_neg h2,age]at hY;split at hY
     ·cases hY;exact .inr (.inr ⟨by simp only[γ'];rw[if_neg h0,if_neg h1,if_neg h2,if_pos oaa],rfl⟩)
     ·cases hY
 have hback: ∀o b C,γ' o=some (some (b,C))->(o=0/\γ 0=some (some (b,C)))\/(o=n1+1/\γ 1=some (some (b,C))):=λo b C hg=>by
  simp only[γ']at hg;split at hg
  ·rename_i h;exact .inl ⟨h,hg⟩
  ·split at hg
   ·cases hg
   ·split at hg
    ·rename_i h;exact .inr ⟨h,hg⟩
    ·split at hg<;>cases hg
 have lv0:live [eh T (replicate n1<|.v<|.slice none 0 0),eh T (replicate n2<|.v<|.slice none 0 0)] 0:=⟨_,rfl,by simp[eh]⟩;have lv1:live [eh T (replicate n1<|.v<|.slice none 0 0),eh T (replicate n2<|.v<|.slice none 0 0)] 1:=⟨_,rfl,by simp[eh]⟩;refine⟨m,γ',⟨λ_ _ h=>h,λ_ _ h=> .inl h,λq _⟨o,C,h⟩=> ?_,rfl,rfl,rfl,afG _,λ_ _ _=>rfl⟩,⟨hi.mem,λo Y hY=> ?_,λo o' b C C' _ _ h1 h2=> ?_,λo b C h=> ?_,λo h=> ?_,hi.tab⟩,λo ho=>by omega,λa hl t av e=> ?_⟩
 ·rcases hback o q C h with⟨_,h⟩|⟨_,h⟩
  ·exact⟨0,C,h⟩
  ·exact⟨1,C,h⟩
 ·rcases hget o Y hY with⟨rfl,rfl⟩|⟨rfl,rfl⟩|⟨h1,rfl⟩
  ·exact r1
  ·exact r2
  ·exact .inl ⟨h1,rfl⟩
 ·rcases hback o b C h1 with⟨rfl,g1⟩|⟨rfl,g1⟩<;>rcases hback o' b C' h2 with⟨rfl,g2⟩|⟨rfl,g2⟩
  ·rfl
  ·exact absurd (hi.sep 0 1 b C C' lv0 lv1 g1 g2) oaa
  ·exact absurd (hi.sep 1 0 b C C' lv1 lv0 g1 g2) oaa
  ·rfl
 ·rcases hback o b C h with⟨_,h⟩|⟨_,h⟩
  ·exact hi.dom 0 b C h
  ·exact hi.dom 1 b C h
 ·rw[qZ,ag5,ag5];simp only[γ']at h;split at h
  ·omega
  ·split at h
   ·omega
   ·split at h
    ·omega
    ·split at h
     ·omega
     ·exact absurd rfl h
 ·rw[Kr]at e;cases e1:lk L t with
  |none=>rw[e1]at e;cases e
  |some b=>rw[e1]at e;cases e;obtain⟨q1,q2⟩:=hl t b e1;refine⟨q1,?_⟩;rw[hγ]at q2;have:=(dk b _).1 q2;rw[CH f0 f1 b (HO (p:=λv=>nz v||v.und 1) uL e1)]at this;exact this
def kA{K:Nat}{L L':Loc}{base:lXE}{T Ti:TypeId}{Rs:List (List Value)}(hK:K<=base.length)(ub:base.all (Ob.und base.length)=true)(hL: ∀t av',lk L' t=some av' ->(lk L t=some av'/\av'.und base.length=true)\/(lk L t=some (.sr base.length 1 0 Rs.length)/\av' = .sl 1 (aL<|ix Rs))):dF K L (base++cj base.length T Ti Rs) L' base:=⟨λm γ w hi=>by obtain⟨m',γ',h1,h2,h3,h4,h5⟩:=NC hK ub hL m γ w hi;grind⟩
section
variable{σ:Type}(step:Nat->Nat->σ->σ)(len:Nat->Nat)
def inF(i:Nat)(s:σ)(k:Nat):σ:=Nat.rec (motive:=λ_=>σ) s (λk s=>step i k s) k
def gT(s:σ)(i:Nat):σ:=Nat.rec (motive:=λ_=>σ) s (λi s=>inF step i s<|len i) i
variable {step len} {P:Program} {n K:Nat}
theorem pQ{a d b:Nat}{A C B1 B2 cb E:Code}{S:σ->lXE}{m:Nat}{I:Nat->Nat->σ->Prop}{La Lb Lc Ld Lf:Nat->Loc}{Le:Nat->Nat->Loc}{Lbx Lx:Loc}{s0:σ}(pA: ∀i,i<m-> ∀ob,Piece P n K A (La i) ob .normal (Lb i) ob)(pC: ∀i,i<m-> ∀ob,Piece P n K C (Lb i) ob .normal (Lc i) ob)(pB1: ∀i,i<m-> ∀ob,Piece P n K B1 (Lc i) ob .normal (Ld i) ob)(pB2: ∀i,i<m-> ∀ob,Piece P n K B2 (Ld i) ob .normal (Le i 0) ob)(pin: ∀i k s,i<m->k<len i->I i k s->Piece P n K cb (Le i k) (S s) .normal (Le i<|k+1) (S<|step i k s)/\I i (k+1) (step i k s))(pinx: ∀i,i<m-> ∀ob,Piece P n K cb (Le i<|len i) ob (.exit b) (Lf i) ob)(pE: ∀i,i<m-> ∀ob,Piece P n K E (Lf i) ob .normal (La<|i+1) ob)(pAx: ∀ob,Piece P n K A (La m) ob .normal Lbx ob)(pCx: ∀ob,Piece P n K C Lbx ob (.exit a) Lx ob)(i0:I 0 0 s0)(iN: ∀i s,i<m->I i (len i) s->I (i+1) 0 s):Piece P n K (.block a<|.loop<|.seq A<|.seq C<|.seq (.block d<|.seq B1<|.seq B2<|.block b<|.loop cb) E) (La 0) (S s0) .normal Lx (S<|gT step len s0 m):=by
 have inI: ∀i s,i<m->I i 0 s-> ∀k,k<=len i->I i k (inF step i s k):=λi s hi h k=>by
  induction k with
  |zero=>exact λ_=>h
  |succ k ih=>exact λhk=>(pin i k _ hi oaa<|ih oaa).2
 have uD: ∀i,i<=m->I i 0 (gT step len s0 i):=λi=>by
  induction i with
  |zero=>exact λ_=>i0
  |succ i ih=>exact λhi=>iN i _ oaa (inI i _ oaa (ih oaa) _<|afG _)
 have inner: ∀i,i<m->Piece P n K (.block b<|.loop cb) (Le i 0) (S<|gT step len s0 i) .normal (Lf i) (S<|gT step len s0<|i+1):=λi hi=>by
  refine pJ (λk=>Le i k) (λk=>S<|inF step i (gT step len s0 i) k) (λk=>k<=len i) (λk=>len i-k) 0 (af7 _) λk hk=> ?_;by_cases hkl:k<len i
  ·exact .inl ⟨k+1,by omega,by omega,(pin i k _ hi hkl<|inI i _ hi (uD i oaa) k hk).1⟩
  ·obtain rfl:k=len i:=by omega
   exact .inr (pinx i hi _)
 refine pJ (λi=>La i) (λi=>S<|gT step len s0 i) (λi=>i<=m) (λi=>m-i) 0 (af7 _) λi hi=> ?_;by_cases him:i<m
 ·exact .inl ⟨i+1,by omega,by omega,cI (pA i him _) (cI (pC i him _)<|cI (ku<|cI (pB1 i him _)<|cI (pB2 i him _)<|inner i him)<|pE i him _)⟩
 ·obtain rfl:i=m:=by omega
  exact .inr (cI (pAx _)<|iI (pCx _) oaf)
end
structure gy where
 p:Prop
 x:AX
 L:Loc
 sel:lXC
 N:Nat
 ob:lXE
 obR:lXE
def gy.ends(o:gy)(x:AX)(M:Tri AV)(O:Tri Ob)(N:Nat):Prop:=o.p/\x=o.x/\N=o.N/\(o.L.map λp=>M.get p.1)=nmS o.sel o.N o.L/\o.sel.map O.get=o.obR.map some
def gy.fP(K:Nat)(o:gy):Prop:=eA o.x=true/\mr o.sel=true/\(range K).all (λi=>o.sel[i]? ==some i)=true/\o.L.all (λp=>plS p.2)=true/\o.obR=o.ob.map (Ob.ren<|bU o.sel o.N)
def mH{K:Nat}{o:gy}(h1:eA o.x=true)(h2:mr o.sel=true)(h3:(range K).all (λi=>o.sel[i]? ==some i)=true)(h4:o.L.all (λp=>plS p.2)=true)(h5:o.obR=o.ob.map (Ob.ren<|bU o.sel o.N)):o.fP K:=⟨h1,h2,h3,h4,h5⟩
def oF{K:Nat}: ∀o∈([]:List gy),o.fP K:=λo h=>by simp at h
def dR{K:Nat}{o:gy}{l:List gy}(h:o.fP K)(t: ∀o∈l,o.fP K): ∀o'∈o::l,o'.fP K:=λo' ho=>by
 rcases agc.1 ho with rfl|ho
 ·exact h
 ·exact t o' ho
def QE{p:gy->Prop}: ∀o∈([]:List gy),p o:=λo h=>by simp at h
def NQ{p:gy->Prop}{o:gy}{l:List gy}(h:p o)(t: ∀o∈l,p o): ∀o'∈o::l,p o':=oaq
section
variable{xs:List Value}{j:Nat}{c:AV}{rows:List lXF}{k:Nat}
theorem atN(e:rows=aL ((vs xs).set j c))(h:j<xs.length):(dec ((0*1+j*1+0)/1=j)&&(dec ((0*1+j*1+0)%1=0)&&dec (rows[j]? =some [c])))=true:=by grind[aH,aL,vs]
theorem stN(e:rows=aL ((vs xs).set j c))(h:j<xs.length):((true&&(dec ((0*1+j*1+0)/1=j)&&(dec ((0*1+j*1+0)%1=0)&&dec (rows[j]? =some [c]))))&&Nat.ble (0+1) 1)=true:=by rw[atN e h];rfl
theorem nA(e:rows=aL ((vs xs).set j c))(c':AV):rows.set j [c']=aL ((vs xs).set j c'):=by rw[e,NB,List.set_set]
theorem ew{f:Nat->Nat}{T:TypeId}{o z:Nat}{q:Nat}(h:f o=q):(Ob.row T 1<|aL<|(vs xs).set j<|.sr o 1 0 z).ren f= .row T 1 (aL<|(vs xs).set j<|.sr q 1 0 z):=by grind[Ob.ren,dK,fi,mu,AV.ren]
theorem cQ{f:Nat->Nat}{T:TypeId}{S:Nat}{r:List lXF}(h:aM r=true):(Ob.row T S r).ren f= .row T S r:=by simp only[Ob.ren];rw[gI (N:=0) (λ_ h=>by cases h) r (bO 0 r h)]
end
def NR(l:List gy):VK:=λt x M O N=>match t with
 | .pick j=>match l[j]? with
  |some o=>o.ends x M O N
  |none=>False
 |_=>False
def lfN(o:gy)(h:o.p){oba:lXE}(e:oba=o.obR):o.p/\o.x=o.x/\o.N=o.N/\nmS o.sel o.N o.L=nmS o.sel o.N o.L/\oba.map some=o.obR.map some:=⟨h,rfl,rfl,rfl,afQ _ e⟩
def gy.view{K:Nat}{o:gy}(hf:o.fP K){x:AX}{M:Tri AV}{O:Tri Ob}{N:Nat}(h:o.ends x M O N){L1:Loc}{ob1:lXE}(hM:cm M L1)(hO:bK O N ob1):J7 K L1 ob1 o.L o.ob o.sel/\eA x=true/\x=o.x:=by
 obtain⟨f1,f2,f3,f4,f5⟩:=hf;obtain⟨_,rfl,rfl,h1,h2⟩:=h;have hl1:ob1.length=o.N:=hO.1;have h1':(o.L.map (·.1)).map M.get=mO (bU o.sel o.N) o.L:=by rw[agK];refine h1.trans (agB λp hp=> ?_);grind[CE]
 have h2':o.sel.map O.get=(o.ob.map λX=>X.ren<|bU o.sel o.N).map some:=by rw[h2,f5]
 refine⟨⟨ja f2,?_,λi s X hi hX=> ?_,λi hi=> ?_,λt av e=> ?_⟩,f1,rfl⟩
 ·have:=afQ length h2';simpa using this
 ·have e1:(o.sel.map O.get)[i]? =some (O.get s):=by rw[afM,hi];rfl
  rw[h2',afM,afM,hX]at e1;simp only[afV,afD]at e1;exact⟨_,by rw[<-hO.2];exact e1.symm,by rw[hl1];exact .same _⟩
 ·simp_all
 ·rw[<-hM t,hl1];exact lB h1' t av e
def CI{P:Program}{n K:Nat}{c:Code}{V:VC}(hv:ic P n K c V){L L':Loc}{ob ob':lXE}{x:AX}{l:List gy}{t:GT}(h:V (dX L) (dq ob) ob.length (NR l) t)(hf: ∀o∈l,o.fP K)(hw: ∀o∈l,o.p->o.x=x/\o.L=L'/\o.ob=ob'):Piece P n K c L ob x L' ob':=by
 intro df Q hd hq;refine sI (hv.ok h (ib L) (en ob) hd λ{t' x' M' O' N' L1 ob1} h1 hM hO=> ?_);cases t' with
 |pick j=>
  simp only[NR]at h1;split at h1
  ·rename_i o ho;have hm:=agm ho;obtain⟨v,w,rfl⟩:=gy.view (hf o hm) h1 hM hO;obtain⟨rfl,rfl,rfl⟩:=hw o hm h1.1;exact⟨o.L,o.ob,o.sel,v,w,hq⟩
  ·exact h1.elim
 |_=>exact h1.elim
structure jn where
 f:FuncId
 args:lXF
 ob0:lXE
 r:AV
 ob1:lXE
 p:Prop
def jn.bu(P:Program)(c:jn):Prop:=c.p->ly P c.f c.args c.ob0 c.r c.ob1
noncomputable def pR(T:List jn)(callf:cd):cd:=λf args O N tm=>match tm.gd with
 | .cq i _::g=>match T[i]? with
  |some c=>cond (Nat.beq f c.f) (.ret c.r (dq c.ob1) c.ob1.length<|((tm.at N).told g<|dec c.p&&dec (args=c.args/\oW O N 0=c.ob0)).low<|JX 0<|Nat.add N c.ob1.length) (callf f args O N tm)
  |none=>callf f args O N tm
 |_=>callf f args O N tm
inductive nB(P:Program):List jn->Prop
 |nil:nB P []
 |cons {c:jn} {T:List jn} (h:c.bu P) (t:nB P T):nB P (c::T)
section
variable{P:Program}
theorem nB.get: ∀{T:List jn},nB P T-> ∀{i:Nat}{c:jn},T[i]? =some c->c.bu P
 |[],_,i,c,h=>by simp at h
 |d::T,.cons h t,i,c,e=>by
  cases i with
  |zero=>simp at e;subst e;exact h
  |succ i=>exact t.get oaO
theorem lI{T:List jn}{callf:cd}(h:nB P T)(hcf:b0 P callf):b0 P (pR T callf):=λf args O N tm=>by
 unfold pR;split
 ·rename_i i r g hg;split
  ·rename_i c hc;cases hf:Nat.beq f c.f with
   |false=>exact hcf f args O N tm
   |true=>
    have:=afJ hf;subst this;simp only[afN];refine⟨λr' O1 N1 t1 e=> ?_,λav O1 N1 t1 e=>by cases e⟩;cases e;refine⟨⟨[_],rfl⟩,λhok ob hO=> ?_⟩;simp only[TM.told,TM.at,TM.low,cr,afv]at hok;have k:=(h.get hc) (aH.1 hok.1.1);obtain⟨k1,k2⟩:=aH.1 hok.1.2;rw[nr hO]at k2;subst k1;subst k2;refine⟨c.ob1,en _,k,λi hi=> ?_⟩;simp only[TM.told,TM.at,TM.low]at hi;rw[lY,afU]at hi;rcases E8 hi.2 with h1|h1
    ·exact absurd h1 (Nat.not_lt_zero _)
    ·have h1:N+c.ob1.length<=i:=by simpa using h1
     rw[(en c.ob1).2 i,hO.2 i,af5 oaa,af5 (by have:=hO.1;omega)]
  ·exact hcf f args O N tm
 ·exact hcf f args O N tm
theorem qU{c:jn}(hp:c.p){ob:lXE}(e:ob=c.ob0):(dec c.p&&dec (c.args=c.args/\ob=c.ob0))=true:=by grind[aH]
theorem kB{n0:Nat}{callf:cd}{pu:FuncId->Bool}{lf:Nat}{f:FuncId}{fn:Func}{body:Code}{args:lXF}{ob0:lXE}{r:AV}{obs:lXE}{l:List (Nat×KB)}{t:GT}(hcf:b0 P callf)(hm:P.follows .mixedOrders=true)(hf:P.funcs[f]? =some fn)(hname:(fn.name== "runtime.NumGoroutine")=false)(hb:fn.body=some body)(hn:args.length<=fn.ntmps)(hk:qS P fn.ntmps ob0.length (kbL l) body)(hl:ob0.length<=obs.length)(hu:r.und obs.length=true)(ho:obs.all (Ob.und obs.length)=true)(e0:ob0.length=n0)(h:vcC P fn.ntmps callf pu lf (kbL l) body (mq 0 args .e) (dq ob0) n0 (abI P fn.results.toList r obs) t):aQ P f args ob0 [] r obs:=by
 subst e0;refine jT hf hname hb hn hl hu ho ?_;refine(gw hcf hm hk).ok h (fw args) (en ob0) (.inl rfl) λ{t' x M' O' N' L' ob'} h1 hM hO=> ?_;obtain⟨h1,h2⟩:=h1;obtain⟨xs,e⟩:=sH rfl h2 hO;have aux:Fy r (mn P M' O' fn.results.toList)-> ∃avs,oP P L' ob' fn.results.toList avs/\(qp.ret (iw avs)= .ret r/\ ∃xs,ob'=obs++xs):=λh=>by
  cases hr:mn P M' O' fn.results.toList with
  |none=>rw[hr]at h;exact h.elim
  |some avs=>rw[hr]at h;exact⟨avs,kq hM hO hr,afQ _ h,xs,e⟩
 cases x with
 |normal=>exact aux h1
 |ret=>exact aux h1
 |_=>exact h1.elim
end
def rl{α:Type}(f:α->lXF)(l:List α):l.map f=l.map f:=rfl
section
variable{α:Type}[Inhabited α]
theorem rwz(f:α->lXF)(l:List α)(s:Int)(h0:0<=s:=by omega)(h:s<(((l.map f).length:Nat):Int):=by omega):(dec (s=((s.toNat:Nat):Int))&&dec ((l.map f)[s.toNat]? =some (f<|aB l s)))=true:=Fv (afH h0) (afH h)
theorem rwa(f:α->lXF)(l:List α)(i:Nat)(h:i<l.length:=by omega):dec ((l.map f)[i]? =some (f<|ae l i))=true:=qQ h
variable{f0:α->lXF}{l:List α}{rows:List lXF}
theorem ato(S f z:Nat)(e:rows=l.map f0)(h:z<l.length:=by omega)(hf:f<S:=by decide):(dec ((0*S+z*S+f)/S=z)&&(dec ((0*S+z*S+f)%S=f)&&dec (rows[z]? =some (f0<|ae l z))))=true:=atL e hf h
theorem sto(S f k z:Nat)(e:rows=l.map f0)(h:z<l.length:=by omega)(hf:f<S:=by decide)(hk:Nat.ble (f+k) S=true:=by rfl):((true&&(dec ((0*S+z*S+f)/S=z)&&(dec ((0*S+z*S+f)%S=f)&&dec (rows[z]? =some (f0<|ae l z)))))&&Nat.ble (f+k) S)=true:=stL e hf h hk
end
def apo{α:Type}{f0:α->lXF}{l:List α}{rows:List lXF}(k B:Nat)(e:rows=l.map f0)(h1:k<=l.length:=by first|omega|(simp only[afK,af3,afS,agh,afX,af6];omega))(h2:(k+1)*B<=140737488355328:=by omega)(h3:k+1<=9223372036854775807:=by omega):((true&&true&&true&&Nat.ble k rows.length)&&true&&(true&&true&&true&&Nat.ble ((k+1)*B) 140737488355328&&Nat.ble (k+1) 9223372036854775807&&true))=true:=apL e h1 h2 h3
def ixo(z n:Nat)(h:z<n:=by omega):(true&&Nat.blt z n)=true:=ixL h
def ixz(x:Int)(n:Nat)(h0:0<=x:=by omega)(h:x<(n:Int):=by omega):(true&&(dec (x=((x.toNat:Nat):Int))&&Nat.blt x.toNat n))=true:=ixI h0 h
def dwo(z:Int)(h0: -9223372036854775808<=z:=by omega)(h1:z<=9223372036854775807:=by omega):dec (IntKind.i64.wrap z=z)=true:=dwr h0 h1
def dso(k:Nat)(h:1<=k:=by omega)(h2:k<=9223372036854775807:=by omega):dec (IntKind.i64.wrap ((k:Int)-1)=((k-1:Nat):Int))=true:=dws h h2
def mko(n B:Nat)(h:B*n<=281474976710656:=by omega)(h2:n<=9223372036854775807:=by omega):(true&&true&&Nat.ble n n&&Nat.ble (B*n) 281474976710656&&Nat.ble n maxLen)=true:=mkSl h h2
def slo(p q l:Nat)(h1:p<=q:=by omega)(h2:q<=l:=by omega):((Nat.ble p q&&Nat.ble q l)&&true)=true:=slA h1 h2
def nxP{σ:Type}{t:Bool}(La:σ->Loc)(Oa:σ->lXE){a v:σ}(h:t=false)(e:a=v):t=false/\La v=La a/\Oa v=Oa a:=by rw[e];exact⟨h,rfl,rfl⟩
end Go.Am
set_option linter.defProp false
namespace Go.Proofs.YtfkjfjalecikkaaGreatDoor
open Go.Am
attribute [simp] kx oy fY pL pM ns A5 qR Qm
@[simp] theorem pr_range(l:List (Int×Int)):aM (l.map aJ)=true:=aW kx l
@[simp] theorem pr_act(l:List (Int×Int)):aM (l.map cw)=true:=aW oy l
@[simp] theorem adh(l:lXD):aM (l.map aU)=true:=aW fY l
@[simp] theorem pr_rule(l:List bJ):aM (l.map aw)=true:=aW pL l
@[simp] theorem pr_edge(l:List Edge):aM (l.map aD)=true:=aW pM l
@[simp] theorem pr_state(l:List State):aM (l.map aj)=true:=aW ns l
@[simp] theorem pr_g(l:List G):aM (l.map gC)=true:=aW qR l
@[simp] theorem afs(n:Net):(eM n).pure=true:=by simp[eM,AV.pure]
@[simp] theorem pl_g(g:G):(gCC g).all plS=true:=by simp[gCC,plS,AV.pure]
@[simp] theorem pl_e(e:Edge):(aD e).all plS=true:=by simp[aD,plS,AV.pure]
@[simp] theorem pl_s(s:State):(aj s).all plS=true:=by simp[aj,plS,AV.pure]
@[simp] theorem pl_r(r:bJ):(aw r).all plS=true:=by simp[aw,plS,AV.pure]
def rowG{l:List G}{i:Nat}(h:i<l.length):dec ((l.map gC)[i]? =some (gCC<|ae l i))=true:=by rw[CB];exact qQ h
def gU(l:List G)(i:Nat)(h:i<l.length:=by omega):dec ((l.map gC)[i]? =some (gCC<|ae l i))=true:=rowG h
def ixB(s:ByteArray)(i:Nat)(h:i<s.size):dec (IxP Tryz.prog 9 (.string s) (.int .i64 i)<|.int .u8<|dr s i)=true:=aH.2 (ixs s i h)
noncomputable def kC(id:Nat)(c:Code):Code:=(Qr id c).getD .skip
attribute [simp] nxW htW whW wxW plS plO NL pP AV.pure aq aM
noncomputable def ntOf(f:Nat):Nat:=match Tryz.prog.funcs[f]? with
 |some fn=>fn.ntmps
 |none=>0
noncomputable def rsOf(f:Nat):List ResultVar:=match Tryz.prog.funcs[f]? with
 |some fn=>fn.results.toList
 |none=>[]
noncomputable def fnOk(f m:Nat):Bool:=match Tryz.prog.funcs[f]? with
 |some fn=> !(fn.name== "runtime.NumGoroutine")&&(fn.body.isSome&&Nat.ble m fn.ntmps)
 |none=>false
def NS{f m:Nat}(h:fnOk f m=true): ∃fn,Tryz.prog.funcs[f]? =some fn/\(fn.name== "runtime.NumGoroutine")=false/\fn.body=some (aG f)/\m<=fn.ntmps/\ntOf f=fn.ntmps/\rsOf f=fn.results.toList:=by
 unfold fnOk ntOf rsOf aG at*;revert h;cases Tryz.prog.funcs[f]? with
 |none=>exact λh=>by cases h
 |some fn=>
  intro h;have h1:=(afv _ _).mp h;have h2:=(afv _ _).mp h1.2;refine⟨fn,rfl,(afP _).mp h1.1,?_,nbl h2.2,rfl,rfl⟩;have h3:=h2.1;show fn.body=some (match fn.body with
   |some c=>c
   |none=> .skip)
  revert h3;cases fn.body with
  |none=>exact λh=>by cases h
  |some c=>exact λ_=>rfl
section
variable{callf:cd}{args:lXF}{r:AV}{l:List (Nat×KB)}
theorem aV(f:Nat)(t:GT){A:Prop}(h:A)(hc:b0 Tryz.prog callf:=by exact aC)(hk:qS Tryz.prog (ntOf f) 0 (kbL l) (aG f):=by exact bt _)(hu:r.und 0=true:=by rfl)(hF:fnOk f args.length=true:=by kernel_rfl)
  (e:A=vcC pg (ntOf f) callf c7 3000 (kbL l) (aG f) (mq 0 args .e) .e 0 (finV Tryz.prog (rsOf f) r) t:=by kernel_rfl):aQ pg f args [] [] r []:=by
 obtain⟨fn,h1,h2,h3,h4,h5,h6⟩:=NS hF;rw[h5]at hk e;rw[h6]at e;exact adb (pu:=c7) (lf:=3000) (l:=l) (t:=t) hc mixed h1 h2 h3 h4 hk hu (e▸h)
end
section
variable(id m:Nat)(t:Nat->Bool)(L:Nat->Am.Loc)(O:Nat->lXE)
noncomputable def anKP(xr:Nat->AX)(Lr:Nat->Am.Loc)(Or:Nat->lXE)(xn:AX)(Lx:Am.Loc)(Ox:lXE)(p:Prop):KB:=⟨L 0,O 0,cz m t,lF id (xr<|gQ m t),Lr (gQ m t),Or (gQ m t),lF id xn,Lx,Ox,p⟩
noncomputable def anK(xr:AX)(Lr:Nat->Am.Loc)(Or:Nat->lXE)(xn:AX)(Lx:Am.Loc)(Ox:lXE)(p:Prop):KB:=anKP id m t L O (λ_=>xr) Lr Or xn Lx Ox p
end
noncomputable def noK(id:Nat)(L:Nat->Am.Loc)(O:Nat->lXE)(xn:AX)(Lx:Am.Loc)(Ox:lXE)(p:Prop):KB:=⟨L 0,O 0,false,.ret,[],[],lF id xn,Lx,Ox,p⟩
section
variable{id m n K:Nat}{c:Code}{t:Nat->Bool}{L Lr:Nat->Am.Loc}{O Or:Nat->lXE}{xr xn:AX}{xp:Nat->AX}{Lx:Am.Loc}{Ox:lXE}{p:Prop}{callf:Nat->cd}{kt:Nat->List (Nat×KB)}
section
variable(W:Nat->List bG)(G:Nat->GT)(sx:lXC)(gx:GT)
theorem anBP
  (h:p-> ∀i,i<m->vcC pg n (callf i) c7 3000 (kbL<|kt i) c (dX<|L i) (dq<|O i) (O i).length (nw<|W i) (G i))
  (hx:p->vcC pg n base c7 3000 (kbL []) c (dX<|L m) (dq<|O m) (O m).length (nw [⟨True,xn,Lx,sx,Ox⟩]) gx)
  (hc:p-> ∀i,i<m->b0 Tryz.prog (callf i):=by exact λ_ _ _=>aC) (hk:p-> ∀i,i<m->qS Tryz.prog n K (kbL<|kt i) c:=by exact λ_ _ _=>bt _)
  (hf: ∀i,(W i).all (bG.fP K)=true:=by intro _;repeat' (first|exact nx|apply jH|apply lG|rfl|simp (maxDischargeDepth:=9)))
  (hfx:bG.fP K ⟨True,xn,Lx,sx,Ox⟩=true:=by apply lG<;>first|rfl|simp (maxDischargeDepth:=9))
  (hq: ∀i,∀ww∈W i,xH (t i) (xp i) (L<|i+1) (O<|i+1) (Lr i) (Or i) ww:=by intro _;repeat' (first|exact qY|exact HI|exact Qx|apply oC))
  (hO: ∀i,(O i).length=(O 0).length:=by exact λ_=>rfl) (hxr: ∀i,xp i≠ .normal:=by exact λ_ e=>by cases e) (hxn:xn≠ .normal:=by exact λe=>by cases e):ca pg n K id (.loop c) (anKP id m t L O xp Lr Or xn Lx Ox p):=
 Fz (λhp=>anyV (V:=λi=>vcC pg n (callf i) c7 3000 (kbL<|kt i) c) L O (O 0).length W G gx sx (λi hi=>gw (hc hp i hi) mixed<|hk hp i hi) (gw aC mixed<|bt c) hxr hxn hO (λi hi=>hO i▸h hp i hi) (λi _=>hf i) (λi _=>hq i) (hO m▸hx hp) hfx) (λh=>h) (λh=>h)
theorem anB
  (h:p-> ∀i,i<m->vcC pg n (callf i) c7 3000 (kbL<|kt i) c (dX<|L i) (dq<|O i) (O i).length (nw<|W i) (G i))
  (hx:p->vcC pg n base c7 3000 (kbL []) c (dX<|L m) (dq<|O m) (O m).length (nw [⟨True,xn,Lx,sx,Ox⟩]) gx)
  (hc:p-> ∀i,i<m->b0 Tryz.prog (callf i):=by exact λ_ _ _=>aC) (hk:p-> ∀i,i<m->qS Tryz.prog n K (kbL<|kt i) c:=by exact λ_ _ _=>bt _)
  (hf: ∀i,(W i).all (bG.fP K)=true:=by intro _;repeat' (first|exact nx|apply jH|apply lG|rfl|simp (maxDischargeDepth:=9)))
  (hfx:bG.fP K ⟨True,xn,Lx,sx,Ox⟩=true:=by apply lG<;>first|rfl|simp (maxDischargeDepth:=9))
  (hq: ∀i,∀ww∈W i,xH (t i) xr (L<|i+1) (O<|i+1) (Lr i) (Or i) ww:=by intro _;repeat' (first|exact qY|exact HI|exact Qx|apply oC))
  (hO: ∀i,(O i).length=(O 0).length:=by exact λ_=>rfl) (hxr:xr≠ .normal:=by exact λe=>by cases e) (hxn:xn≠ .normal:=by exact λe=>by cases e):ca pg n K id (.loop c) (anK id m t L O xr Lr Or xn Lx Ox p):=
 anBP W G sx gx h hx hc hk hf hfx hq hO (λ_=>hxr) hxn
theorem noB(m:Nat)
  (h:p-> ∀i,i<m->vcC pg n (callf i) c7 3000 (kbL<|kt i) c (dX<|L i) (dq<|O i) (O i).length (nw<|W i) (G i))
  (hx:p->vcC pg n base c7 3000 (kbL []) c (dX<|L m) (dq<|O m) (O m).length (nw [⟨True,xn,Lx,sx,Ox⟩]) gx)
  (hc:p-> ∀i,i<m->b0 Tryz.prog (callf i):=by exact λ_ _ _=>aC) (hk:p-> ∀i,i<m->qS Tryz.prog n K (kbL<|kt i) c:=by exact λ_ _ _=>bt _)
  (hf: ∀i,(W i).all (bG.fP K)=true:=by intro _;repeat' (first|exact nx|apply jH|apply lG|rfl|simp (maxDischargeDepth:=9)))
  (hfx:bG.fP K ⟨True,xn,Lx,sx,Ox⟩=true:=by apply lG<;>first|rfl|simp (maxDischargeDepth:=9))
  (hq: ∀i,∀ww∈W i,xH false .ret (L<|i+1) (O<|i+1) [] [] ww:=by intro _;repeat' (first|exact qY|exact HI|apply oC))
  (hO: ∀i,(O i).length=(O 0).length:=by exact λ_=>rfl) (hxn:xn≠ .normal:=by exact λe=>by cases e):ca pg n K id (.loop c) (noK id L O xn Lx Ox p):=
 Z6 (m:=m) (t:=λ_=>false) (λhp=>anyV (xr:=λ_=> .ret) (Lr:=λ_=>[]) (obr:=λ_=>[]) (V:=λi=>vcC pg n (callf i) c7 3000 (kbL<|kt i) c) L O (O 0).length W G gx sx (λi hi=>gw (hc hp i hi) mixed<|hk hp i hi) (gw aC mixed<|bt c) (λ_ e=>by cases e) hxn hO (λi hi=>hO i▸h hp i hi) (λi _=>hf i) (λi _=>hq i) (hO m▸hx hp) hfx) (λ_=>rfl) rfl (λh=>h)
end
def lx(x:AX)(L:Am.Loc)(s:lXC)(O:lXE)(N:Nat):=lf ⟨True,x,L,s,O⟩ N trivial
end
noncomputable def whK{σ:Type}(id:Nat)(t h:σ->Bool)(it:Nat->σ)(L:σ->Am.Loc)(O:σ->lXE)(xr:AX)(Lr:σ->Am.Loc)(Or:σ->lXE)(xn:AX)(Lx:σ->Am.Loc)(Ox:σ->lXE)(I:σ->Prop):KB:=⟨L (it 0),O (it 0),h (it<|dL t it),lF id xr,Lr (it<|dL t it),Or (it<|dL t it),lF id xn,Lx (it<|dL t it),Ox (it<|dL t it),(∃k,t (it k)=true)/\ ∀k,k<=dL t it->I (it k)⟩
section
variable{σ:Type}{id n K:Nat}{c:Code}{t hh:σ->Bool}{it:Nat->σ}{L Lr Lx:σ->Am.Loc}{O Or Ox:σ->lXE}{xr xn:AX}{I:σ->Prop}{callf:σ->cd}{kt:σ->List (Nat×KB)}
theorem whB(W:σ->List bG)(G:σ->GT)(step:σ->σ)(k:Nat)
  (h: ∀x,I x->vcC pg n (callf x) c7 3000 (kbL<|kt x) c (dX<|L x) (dq<|O x) k (nw<|W x) (G x))
  (hc: ∀x,I x->b0 Tryz.prog (callf x):=by exact λ_ _=>aC) (hk: ∀x,I x->qS Tryz.prog n K (kbL<|kt x) c:=by exact λ_ _=>bt _)
  (hf: ∀x,(W x).all (bG.fP K)=true:=by intro _;repeat' (first|exact nx|apply jH|apply lG|rfl|simp (maxDischargeDepth:=9)))
  (hq: ∀x,∀ww∈W x,CG (t x) (hh x) xr xn (L<|step x) (O<|step x) (Lr x) (Or x) (Lx x) (Ox x) ww:=by intro _;repeat' (first|exact qY|exact Z7|exact ade|exact adf|apply oC))
  (hs: ∀k,it (k+1)=step (it k):=by exact λ_=>rfl) (hO: ∀x,(O x).length=k:=by exact λ_=>rfl) (hxr:xr≠ .normal:=by exact λe=>by cases e) (hxn:xn≠ .normal:=by exact λe=>by cases e):ca pg n K id (.loop c) (whK id t hh it L O xr Lr Or xn Lx Ox I):=
 Fz (λhp=>adg (V:=λx=>vcC pg n (callf x) c7 3000 (kbL<|kt x) c) (step:=step) (t:=t) (hit:=hh) (it:=it) (I:=I) hs L O k W G (λx hx=>gw (hc x hx) mixed<|hk x hx) hxr hxn hO h (λx _=>hf x) (λx _=>hq x) hp.1 hp.2) (λh=>h) (λh=>h)
end
section
variable{α:Type}{id n K k:Nat}{c:Code}{L:Am.Loc}{O Oj:lXE}{x:α}{callf:cd}{kt:List (Nat×KB)}{p:Prop}
end
def jhW(tv:Bool)(xr:AX)(Lr:Am.Loc)(Or:lXE)(xn:AX)(Lx:Am.Loc)(Ox:lXE):List bG:=[⟨tv=true,xr,Lr,range Or.length,Or⟩,⟨tv=false,xn,Lx,range Ox.length,Ox⟩]
section
variable{id n K:Nat}{c:Code}{L Lr Lx:Am.Loc}{O Or Ox:lXE}{tv:Bool}{xr xn:AX}{callf:cd}{kt:List (Nat×KB)}{p:Prop}
theorem jhB(t:GT)(h:p->vcC pg n callf c7 3000 (kbL kt) (.block id c) (dX L) (dq O) O.length (nw<|jhW tv xr Lr Or xn Lx Ox) t)
  (hc:b0 Tryz.prog callf:=by exact aC) (hk:qS Tryz.prog n K (kbL kt) (.block id c):=by exact bt _)
  (f1:bG.fP K ⟨tv=true,xr,Lr,range Or.length,Or⟩=true:=by apply lG<;>first|rfl|simp (maxDischargeDepth:=9)) (f2:bG.fP K ⟨tv=false,xn,Lx,range Ox.length,Ox⟩=true:=by apply lG<;>first|rfl|simp (maxDischargeDepth:=9)):
  ca pg n K id c ⟨L,O,tv,xr,Lr,Or,xn,Lx,Ox,p⟩:=joinH (gw hc mixed hk) h f1 f2
end
def bI{f:FuncId}{args:lXF}{r:AV}{p:Prop}(h:p->aQ pg f args [] [] r [])(h1:aq args=true:=by simp)(h2:r.pure=true:=by simp):(bC.mk f args r p).bu pg:=λhp=>⟨h hp,h1,h2⟩
abbrev EndS(x:AX)(L:Am.Loc)(sel:lXC)(N:Nat)(a b:lXE):Prop:=True/\x=x/\nmS sel N L=nmS sel N L/\obS sel N a=obS sel N b
def lfZ{x:AX}{L:Am.Loc}{sel:lXC}{N:Nat}{a b:lXE}(_z:EndS x L sel N b b)(e:a=b):EndS x L sel N a b:=⟨trivial,rfl,rfl,afQ _ e⟩
def pvB{n K:Nat}{c:Code}{x:AX}{L L':Am.Loc}{ob ob':lXE}(t:GT)(sel:lXC)(N:Nat){A:Prop}(h:EndS x L' sel N ob' ob' ->A)(e:A=vcC pg n base c7 3000 (kbL []) c (dX L) (dq ob) ob.length (nw [⟨True,x,L',sel,ob'⟩]) t:=by kernel_rfl)
  (hf:bG.fP K ⟨True,x,L',sel,ob'⟩=true:=by apply lG<;>first|rfl|simp (maxDischargeDepth:=9) [fu]):Piece pg n K c L ob x L' ob':=Kp (gw aC mixed<|bt _) (e▸h ⟨trivial,rfl,rfl,rfl⟩) hf
end Go.Proofs.YtfkjfjalecikkaaGreatDoor
namespace Go.Proofs
open Go.Shelf Go.RowKit
def Tryz.CJ:Go.Shelf.Ren:=⟨λ|171=>39|243=>69|246=>96|283=>106|284=>107|285=>108|286=>109|129=>118|317=>117|318=>119|319=>120|320=>121|337=>127|338=>128|n=>n,λ|3=>3|9=>9|2=>2|4=>4|171=>145|0=>0|53=>123|37=>78|5=>5|173=>148|212=>158|51=>159|20=>20|213=>160|46=>162|232=>171|233=>172|n=>n,λ|17=>0|18=>2|19=>3|n=>n⟩
def Tryz.QF:Go.Proofs.LaysM.n171 Tryz.prog Tryz.CJ:={
 mixed:=by kernel_rfl
 f129:=Tryz.func118.trans (afQ some oab)
 f171:=Tryz.func39.trans (afQ some oab)
 f243:=Tryz.func69.trans (afQ some oab)
 f246:=Tryz.func96.trans (afQ some oab)
 f283:=Tryz.func106.trans (afQ some oab)
 f284:=Tryz.func107.trans (afQ some oab)
 f285:=Tryz.func108.trans (afQ some oab)
 f286:=Tryz.func109.trans (afQ some oab)
 f317:=Tryz.func117.trans (afQ some oab)
 f318:=Tryz.func119.trans (afQ some oab)
 f319:=Tryz.func120.trans (afQ some oab)
 f320:=Tryz.func121.trans (afQ some oab)
 f337:=Tryz.func127.trans (afQ some oab)
 f338:=Tryz.func128.trans (afQ some oab)
 t0:=Tryz.underlying0
 a0:=Tryz.isAgg0
 z0:=Tryz.sizeOf0
 v0:=Tryz.zeroValue0
 t2:=Tryz.underlying2
 a2:=Tryz.isAgg2
 z2:=Tryz.sizeOf2
 v2:=Tryz.zeroValue2
 t3:=Tryz.underlying3
 a3:=Tryz.isAgg3
 z3:=Tryz.sizeOf3
 v3:=Tryz.zeroValue3
 t4:=Tryz.underlying4
 a4:=Tryz.isAgg4
 z4:=Tryz.sizeOf4
 v4:=Tryz.zeroValue4
 t5:=Tryz.underlying5
 a5:=Tryz.isAgg5
 z5:=Tryz.sizeOf5
 v5:=Tryz.zeroValue5
 t9:=Tryz.underlying9
 a9:=Tryz.isAgg9
 z9:=Tryz.sizeOf9
 v9:=Tryz.zeroValue9
 t20:=Tryz.underlying20
 a20:=Tryz.isAgg20
 z20:=Tryz.sizeOf20
 v20:=Tryz.zeroValue20
 t37:=Tryz.underlying78
 a37:=Tryz.isAgg78
 z37:=Tryz.sizeOf78
 v37:=Tryz.zeroValue78
 t46:=Tryz.underlying162
 a46:=Tryz.isAgg162
 z46:=Tryz.sizeOf162
 v46:=Tryz.zeroValue162
 t51:=Tryz.underlying159
 a51:=Tryz.isAgg159
 z51:=Tryz.sizeOf159
 v51:=Tryz.zeroValue159
 t53:=Tryz.underlying123
 a53:=Tryz.isAgg123
 z53:=Tryz.sizeOf123
 v53:=Tryz.zeroValue123
 t171:=Tryz.underlying145
 a171:=Tryz.isAgg145
 z171:=Tryz.sizeOf145
 v171:=Tryz.zeroValue145
 t173:=Tryz.underlying148
 a173:=Tryz.isAgg148
 z173:=Tryz.sizeOf148
 v173:=Tryz.zeroValue148
 t212:=Tryz.underlying158
 a212:=Tryz.isAgg158
 z212:=Tryz.sizeOf158
 v212:=Tryz.zeroValue158
 t213:=Tryz.underlying160
 a213:=Tryz.isAgg160
 z213:=Tryz.sizeOf160
 t232:=Tryz.underlying171
 a232:=Tryz.isAgg171
 z232:=Tryz.sizeOf171
 v232:=Tryz.zeroValue171
 t233:=Tryz.underlying172
 a233:=Tryz.isAgg172
 z233:=Tryz.sizeOf172
 v233:=Tryz.zeroValue172
 g17:=by kernel_rfl
 g18:=by kernel_rfl
 g19:=by kernel_rfl
 i0:=by kernel_rfl
 i2:=by kernel_rfl
 i3:=by kernel_rfl
 i4:=by kernel_rfl
 i5:=by kernel_rfl
 i9:=by kernel_rfl
 i20:=by kernel_rfl
 i37:=by kernel_rfl
 i46:=by kernel_rfl
 i51:=by kernel_rfl
 i53:=by kernel_rfl
 i171:=by kernel_rfl
 i173:=by kernel_rfl
 i212:=by kernel_rfl
 i232:=by kernel_rfl
 i233:=by kernel_rfl
 m17:=by kernel_rfl
 m18:=by kernel_rfl
 m19:=by kernel_rfl}
open Go.RowKit Go.Sort Go.Lib in
def Tryz.strconv_Itoa(n:Int)(h0: -9223372036854775808<=n)(h1:n<=9223372036854775807)(w:World)(htab:Lib.TabIs Tryz.prog w "internal/strconv.uint64pow10" .u64 Lib.pow10Tab):Calls Tryz.prog 39 #[.int .i64 n] w λe w'=>e= .returned (.string ⟨(Lib.itoa n).toArray⟩)/\ ∃k os,w'=grow (w.drewN k) os:=Any.strconv_Itoa Tryz.QF n h0 h1 w htab
end Go.Proofs
namespace Go.Proofs.YtfkjfjalecikkaaGreatDoor
open Go.Am
def aA(n:Int):ByteArray:=⟨(Lib.itoa n).toArray⟩
def adi{w:World}(h:lX w):Lib.TabIs Tryz.prog w "internal/strconv.uint64pow10" .u64 Lib.pow10Tab:=by
 obtain⟨t,fr,e⟩:=h 0 _ rfl;have hg:Tryz.prog.globalNamed "internal/strconv.uint64pow10" =some 0:=by kernel_rfl
 unfold Lib.TabIs World.var?;rw[hg];simp only[Option.bind_some,e];rfl
abbrev In64(n:Int):Prop:= -9223372036854775808<=n/\n<=9223372036854775807
def adj(n:Int)(h:In64 n):aQ pg 39 [I n] [] [] (S<|aA n) []:=by refine⟨⟨_,Tryz.func39,by kernel_rfl,by kernel_rfl⟩,λm γ w vs hi hv=> ?_⟩;simp only[au,Rep]at hv;obtain⟨x,r,rfl,rfl,rfl⟩:=hv;refine(Tryz.strconv_Itoa n h.1 h.2 w<|adi hi.tab).mono ?_;rintro e w' ⟨rfl,k,os,rfl⟩;obtain⟨h1,h2⟩:=A3 hi (Lib.below_grow w.heap.size w (afG _) k os);exact⟨m,γ,_,_,⟨rfl,rfl⟩,by simp[l9,Rep,aA],h2,h1,λ_ _ _ h=>h⟩
def NT{n:Int}(h:In64 n):(aA n).size<=21:=by show(Lib.itoa n).toArray.size<=21;simpa using Lib.itoa_length_le n h.1 h.2
end Go.Proofs.YtfkjfjalecikkaaGreatDoor
namespace Go.Am
def sE{x v:ByteArray}(h:x=v):AV.v (.string v)=AV.v (.string x):=by rw[h]
section
variable{P:Program}
theorem binS{t:TypeId}{xo yo:Operand}{a b:ByteArray}(h:a.size+b.size<=9223372036854775807):PY P .add t xo yo (.string a) (.string b) (.string<|a++b):=by
 have e: ¬(((a.size+b.size:Nat):Int)>IntKind.i64.max):=by have:IntKind.i64.max=9223372036854775807:=rfl;rw[this];omega
 show ey P (if (((a.size+b.size:Nat):Int)>IntKind.i64.max)then _ else _)=_;rw[if_neg e];rfl
theorem lJ(l:List UInt8):ByteArray.size ⟨⟨l⟩⟩=l.length:=rfl
theorem Z8(z:Int):ByteArray.size (cS [z])=1:=by simp[cS]
end
section
variable{o:Nat}{X:Ob}
theorem Frz.fn{f:Fn}{fs cs cs':lXF}(h:fk o X cs cs'):Frz o X (.fn f fs cs) (.fn f fs cs'):=λm γ m' hm x hr=>by simp only[Rep]at hr⊢;obtain⟨xs,ys,rfl,h1,h2⟩:=hr;exact⟨xs,ys,rfl,fk.same fs m γ m' hm xs h1,h m γ m' hm ys h2⟩
end
end Go.Am
namespace Go.Proofs.YtfkjfjalecikkaaGreatDoor
open Go.Am
section
variable(xo yo:Operand)
theorem cT(a b:ByteArray)(h:a.size+b.size<=9223372036854775807:=by first|omega|(simp only[agf,lJ,Z8,afX,af6];omega)):dec (PY Tryz.prog .add 9 xo yo (.string a) (.string b)<|.string<|a++b)=true:=aH.2 (binS h)
theorem remQ(x y:Int)(h:y≠0:=by decide):dec (PY Tryz.prog .rem 123 xo yo (.int .u64 x) (.int .u64 y)<|.int .u64<|Int.tmod x y)=true:=aH.2 (by show ey Tryz.prog (Op.intDiv .rem .u64 x y)=_;unfold Op.intDiv;rw[if_neg h];rfl)
theorem quoQ(x y:Int)(h:y≠0:=by decide):dec (PY Tryz.prog .quo 123 xo yo (.int .u64 x) (.int .u64 y)<|.int .u64<|wrap .u64<|Int.tdiv x y)=true:=aH.2 (by show ey Tryz.prog (Op.intDiv .quo .u64 x y)=_;unfold Op.intDiv;rw[if_neg h];rfl)
end
def strQ(z:Int):(true&&dec (PW [[.v (.int .u8 z)]] [z]))=true:=by rw[aH.2 (show PW [[.v (.int .u8 z)]] [z]from⟨rfl,_,rfl,rfl⟩)];rfl
def decT(k:Nat):ByteArray:=⟨(Lib.decDigits k).toArray⟩
def CK(n:Nat)(w:Int×ByteArray):Prop:= ∃m:Nat,w.1=(m:Int)/\m<=n/\Lib.decDigits n=Lib.decDigits m++w.2.data.toList
theorem abJ{k:Nat}(h:k<18446744073709551616):wrap .u64 (k:Int)=k:=by rw[IntKind.wrap_u64];omega
theorem mk1{k:Nat}:cS [((k:Nat):Int)]=⟨⟨[UInt8.ofNat k]⟩⟩:=by simp[cS];rfl
theorem dig8{m:Nat}:wrap .u8 (wrap .u64<|48+Int.tmod (m:Int) 10)=((48+m%10:Nat):Int):=by rw[IntKind.wrap_u64,show Int.tmod (m:Int) 10=((m%10:Nat):Int)from rfl];have:m%10<10:=Nat.mod_lt _ oaa;rw[show(48+((m%10:Nat):Int))%18446744073709551616=((48+m%10:Nat):Int) by omega];rw[IntKind.wrap_u8];omega
def Z9{n:Nat}(h:n<9223372036854775808):(Lib.decDigits n).length<=21:=by have:=Lib.itoa_length_le n oaa oaa;rwa[Lib.itoa_nonneg]at this
section
variable{n:Nat}{w:Int×ByteArray}
theorem NU(hn:n<9223372036854775808)(h:CK n w):w.2.size<=21:=by
 obtain⟨m,_,_,h3⟩:=h;have h1:=Z9 hn;rw[h3,afS]at h1;have:w.2.data.toList.length=w.2.size:=by simp
 omega
theorem NV(hn:n<9223372036854775808)(h:CK n w)(ht:decide (w.1>9)=true):CK n (wrap .u64 (Int.tdiv w.1 10),cS [wrap .u8 (wrap .u64<|48+Int.tmod w.1 10)]++w.2):=by
 obtain⟨x,s⟩:=w;obtain⟨m,h1,h2,h3⟩:=h;simp only at h1 h3 ht⊢;subst h1;have ht:=afL ht;have hm:9<m:=by omega
 refine⟨m/10,?_,by omega,?_⟩
 ·show wrap .u64 (Int.tdiv (m:Int) 10)=_;rw[show Int.tdiv (m:Int) 10=((m/10:Nat):Int)from rfl,abJ oaa]
 ·rw[h3,dig8,mk1,Lib.decDigits,dif_neg oaa];simp
end
def abK:Code:=bn 0 (aG 72)
def pS(n:Nat)(w0:(Int)×(ByteArray)):(Int)×(ByteArray):=((wrap .u64<|Int.tdiv w0.1 10),((cS [wrap .u8 (wrap .u64<|48+(Int.tmod w0.1 10))])++w0.2))
def ig(n kk:Nat):(Int)×(ByteArray):=Nat.rec (motive:=λ_=>(Int)×(ByteArray)) (((n:Nat):Int),⟨⟨[]⟩⟩) (λ_ a=>pS n a) kk
def jo(n:Nat)(w0:(Int)×(ByteArray)):Bool:=(!(decide<|w0.1>9))
def jq(n:Nat):(Int)×(ByteArray):=ig n (dL (jo n)<|ig n)
def Kt(n:Nat)(hn:n<9223372036854775808): ∀k,(∀j,j<k->jo n (ig n j)=false)->CK n (ig n k)
 |0,_=>⟨n,rfl,afG _,by show _=_++ [];simp⟩
 |k+1,h=>by have hw:=Kt n hn k λj hj=>h j oaa;have ht:=h k oaa;show CK n (pS n<|ig n k);unfold jo at ht;unfold pS;exact NV hn hw (by simpa using ht)
def HP(n:Nat)(hn:n<9223372036854775808): ∃k,jo n (ig n k)=true:=by
 refine Classical.byContradiction λhno=> ?_;have hno: ∀k,jo n (ig n k)=false:=λk=>by
  cases h:jo n (ig n k)with
  |false=>rfl
  |true=>exact absurd ⟨k,h⟩ hno
 have key: ∀k,∃m:Nat,(ig n k).1=(m:Int)/\m+k<=n:=by
  intro k;induction k with
  |zero=>exact⟨n,rfl,by omega⟩
  |succ k ih=>
   obtain⟨m,h1,h2⟩:=ih;have h3:=hno k;unfold jo at h3;rw[h1]at h3;have h4:(m:Int)>9:=by simpa using h3
   refine⟨m/10,?_,by omega⟩;show wrap .u64 (Int.tdiv (ig n k).1 10)=_;rw[h1,show Int.tdiv (m:Int) 10=((m/10:Nat):Int)from rfl,abJ oaa]
 obtain⟨m,_,h⟩:=key (n+1);omega
def p72(n:Nat)(hn:n<9223372036854775808):(∃k,jo n (ig n k)=true)/\ ∀k,k<=dL (jo n) (ig n)->CK n (ig n k):=⟨HP n hn,λk hk=>Kt n hn k λj hj=>(fR<|HP n hn).2 j oaa⟩
abbrev Ku(n:Nat)(w0:(Int)×(ByteArray)):Am.Loc:=[(0,.v (.int .u64 w0.1)),(3,S w0.2)]
abbrev QG(n:Nat)(w0:(Int)×(ByteArray)):Am.Loc:=[(0,.v (.int .u64 w0.1)),(3,S w0.2)]
abbrev Kv(n:Nat)(w0:(Int)×(ByteArray)):lXE:=[]
abbrev QH(n:Nat)(w0:(Int)×(ByteArray)):lXE:=[]
def HQ(n:Nat):KB:=whK 0 (jo n) (λ_=>false) (ig n) (Ku n) (Kv n) .ret (λ_=>[]) (λ_=>[]) (.exit 0) (QG n) (QH n) (λw0=>CK n w0)
abbrev zI:=(range 0)
abbrev QI(n:Nat)(w0:(Int)×(ByteArray)):List bG:=[nxW (jo n w0) (Ku n<|pS n w0) (Kv n<|pS n w0) (Ku n ((wrap .u64<|Int.tdiv w0.1 10),((cS [wrap .u8 (wrap .u64<|48+(Int.tmod w0.1 10))])++w0.2))) zI (Kv n ((wrap .u64<|Int.tdiv w0.1 10),((cS [wrap .u8 (wrap .u64<|48+(Int.tmod w0.1 10))])++w0.2))),wxW (jo n w0) false (.exit 0) (QG n w0) zI (QH n w0)]
def QJ(n:Nat)(hn:n<9223372036854775808):ca pg 23 0 0 (.loop abK) (HQ n):=
 whB (QI n) (λw0=>(.r [.k,bT]<|.br (.r [.val (.int .u64<|Int.tmod w0.1 10),.int (wrap .u64<|48+(Int.tmod w0.1 10)),.str [wrap .u8 (wrap .u64<|48+(Int.tmod w0.1 10))],.val (.string<|(cS [wrap .u8 (wrap .u64<|48+(Int.tmod w0.1 10))])++w0.2),bT]<|.r [.val (.int .u64<|wrap .u64<|Int.tdiv w0.1 10),bT]<|.pick 0)<|.pick 1)) (pS n) 0 (λw0(hw0:CK n w0)=>have hsz:=NU hn hw0;bq (an (a1 a0)<|brP (λ(h0:(decide<|w0.1>9)=true)=>have g0:=afL h0;
 (an (ac (cT (.tmp 11) (.tmp 12) (cS [wrap .u8 (wrap .u64<|48+(Int.tmod w0.1 10))]) w0.2)<|ac (strQ<|wrap .u8<|wrap .u64<|48+(Int.tmod w0.1 10))<|ac (fD<|wrap .u64<|48+(Int.tmod w0.1 10))<|ac (remQ (.tmp 6) (.const<|.int .u64 10) w0.1 10) a0)<|an (ac (quoQ (.tmp 14) (.const<|.int .u64 10) w0.1 10) a0)<|lf (wy (QI n w0) 0) 0<|nxP (Ku n) (Kv n) (show jo n w0=false from(bQ h0))<|show(pS n w0)=((wrap .u64<|Int.tdiv w0.1 10),((cS [wrap .u8 (wrap .u64<|48+(Int.tmod w0.1 10))])++w0.2))from rfl))<|λh0=>(lf (wy (QI n w0) 1) 0 ⟨show jo n w0=true from(ak h0),rfl⟩))
 oab)
def r72(n:Nat):ByteArray:=((cS [wrap .u8 (wrap .u64<|48+(jq n).1)])++((jq n).2))
def uE:cy [0] (aG 72)=[(0,.loop abK)]:=by kernel_rfl
def aaa(n:Nat)(hn:n<9223372036854775808):aQ pg 72 [.v (.int .u64 ((n:Nat):Int))] [] [] (S<|r72 n) []:=
 have hsz:(jq n).2.size<=21:=NU hn ((p72 n hn).2 _<|afG _);aV 72 (.r [bT]<|.r [bT]<|.no<|.r [.int (wrap .u64<|48+(jq n).1),.str [wrap .u8 (wrap .u64<|48+(jq n).1)],.val (.string<|(cS [wrap .u8 (wrap .u64<|48+(jq n).1)])++((jq n).2)),bT] .nil)
 (an a0<|an a0<|an (kbT (HQ n)<|p72 n hn)<|an (rfl:false=false)<|an (ac (cT (.tmp 20) (.tmp 21) (cS [wrap .u8 (wrap .u64<|48+(jq n).1)])<|(jq n).2)<|ac (strQ<|wrap .u8<|wrap .u64<|48+(jq n).1)<|ac (fD<|wrap .u64<|48+(jq n).1) a0)<|sE<|show r72 n=((cS [wrap .u8 (wrap .u64<|48+(jq n).1)])++((jq n).2))from rfl) (hk:=(bc (l:=[(0,HQ n)]) uE (aE (QJ n hn) rfl aP) rfl))
def baE{a b:ByteArray}(h:a.data.toList=b.data.toList):a=b:=by obtain⟨⟨x⟩⟩:=a;obtain⟨⟨y⟩⟩:=b;simp only at h;rw[h]
def adk(n:Nat)(hn:n<9223372036854775808):r72 n=decT n:=by
 have h1:CK n (jq n):=(p72 n hn).2 _ (afG _);have h2:jo n (jq n)=true:=(fR<|HP n hn).1;unfold r72 jo at*;revert h1 h2;generalize jq n=w;obtain⟨x,s⟩:=w;rintro⟨m,h1,h3,h4⟩ h2;simp only at h1 h2 h4;subst h1;have h2:m<=9:=by simp at h2;omega
 have e:Lib.decDigits m=[UInt8.ofNat (48+m)]:=by rw[Lib.decDigits,dif_pos oaa]
 have e2:wrap .u8 (wrap .u64<|48+(m:Int))=((48+m:Nat):Int):=by have k:=dig8 (m:=m);rwa[show Int.tmod (m:Int) 10=((m%10:Nat):Int)from rfl,Nat.mod_eq_of_lt (show m<10 by omega)]at k
 refine baE ?_;show(cS [_]++s).data.toList=Lib.decDigits n;rw[e2,mk1,h4,e];simp
def QK{x:Int}(h:0<=x):aA x=decT x.toNat:=by obtain⟨k,rfl⟩: ∃k:Nat,x=k:=⟨x.toNat,by omega⟩;show(⟨(Lib.itoa k).toArray⟩:ByteArray)=_;rw[Lib.itoa_nonneg];rfl
section
variable(x:Int)
def i72:bC:=⟨72,[.v (.int .u64 x)],S (aA x),0<=x/\x<=9223372036854775807⟩
theorem g72:(i72 x).bu pg:=bI λhp=>QK hp.1▸adk x.toNat oaa▸(by have:=aaa x.toNat oaa;rwa[show((x.toNat:Nat):Int)=x by omega]at this)
theorem cvU(h0:0<=x:=by omega)(h1:x<=9223372036854775807:=by omega):dec (PX Tryz.prog 3 123 (.int .i64 x)<|.int .u64 x)=true:=aH.2 (by
 have e:wrap .u64 x=x:=by rw[IntKind.wrap_u64];omega
 show some (Value.int .u64<|wrap .u64 x)=_;rw[e])
def r44:ByteArray:=(aA x)
def QL(hx:0<=x/\x<=9223372036854775807):aQ pg 44 [I x] [] [] (S<|r44 x) []:=
 aV 44 (.r [bT]<|.r [.k,bT]<|.no<|.r [.val (.int .u64 x),.int 0,bT] .nil)
 (an a0<|an (a1 a0)<|an (show(decide<|x<0)=false from(afI oaa))<|an (cA (g72 x) hx<|ac (cvU x) a0)<|sE<|show r44 x=(aA x)from rfl) (hc:=(aK (.cons (g72 x) rfl bB.nil) aC))
end
def xK{m:Mem}{γ:Gam}: ∀{cs:lXF}{b off:Nat},bD m γ cs b off->bM m γ 1 (aL cs) b off
 |[],_,_,_=>by simp[aL,bM]
 |c::cs,b,off,h=>by simp only[bD]at h;have:=xK h.2;grind[aL,bM,bD]
def HR{m:Mem}{γ:Gam}{cs:lXF}{b off:Nat}(h:bD m γ cs b off)(k:Nat):bD m γ (cs.take k) b off:=by grind[eF,qi]
section
variable{P:Program}{n:Nat}{ops:Array Oper}{l:List Oper}{L:Am.Loc}{ob:lXE}{kf:List Rec->Am.Loc->lXE->Prop}{gu:Am.Loc}{dst:Option Nat}{ty:TypeId}{pos:String}{after:Array Go.Edge}{guard:Option (Nat×Bool)}
theorem CL{x:Operand}{t e:TypeId}{N p q:Nat}{k1 k2:IntKind}{cs:lXF}(ht:arK P t=some (N,e,1))(hx:aX L x=some (.pf cs))(h1:p<q)(h2:q<=N)(hcs:cs.length=N)(hg:Gd ops L guard gu)(hn: ∀d,dst=some d->d<n)(kk:EvK P n ops l (cN L dst (.sl 1<|aL<|(cs.drop p).take<|q-p) []) ob (λrecs=>kf<|⟨dst,gu++cg [(x,.pf cs)],.sl 1 (aL<|(cs.drop p).take<|q-p),[],.pure⟩::recs)):EvK P n ops (⟨dst,.slice t x (some<|.const<|.int k1 p) (some<|.const<|.int k2 q) none,ty,pos,after,guard⟩::l) L ob kf:=
 cK (o:=⟨dst,.slice t x (some<|.const<|.int k1 p) (some<|.const<|.int k2 q) none,ty,pos,after,guard⟩) [(x,.pf cs)] ⟨hx,trivial⟩ hg hn (λm γ w a _ h=>by
  have h5:=h.1;simp only[Rep]at h5;obtain⟨b,off,e1,e2⟩:=h5;obtain⟨hu,inf,g1,g2⟩:=qH ht;have hsz:(sizeOf e).run P w= .ok 1 w:=by simp[sizeOf,typeInfo,g1,g2]
  refine⟨.slice (some<|if N=p then⟨b,off,none⟩else Addr.add ⟨b,off,none⟩ (p*1)) (q-p) (N-p),?_,?_⟩
  ·have k:(Instr.sliceBounds false N N (some<|.int k1 p) (some<|.int k2 q) none).run P w= .ok (p,q,N) w:=by simp[Instr.sliceBounds,iD w _ _ _ _ (ahb h1),iD w _ _ _ _ h2]
   have key:(Instr.sliceAt t (.pointer<|some ⟨b,off,none⟩) (some<|.int k1 p) (some<|.int k2 q) none).run P w= .ok (.slice (some<|if N=p then⟨b,off,none⟩else Addr.add ⟨b,off,none⟩ (p*1)) (q-p)<|N-p) w:=by simp only[Instr.sliceAt,Sem.run_bind,run_underlying hu,Result.andThen_ok,Instr.sureAddr,Sem.run_pure,k,hsz]
   simp only[execOp,e1,Option.map_none,afV];simp only[Act.eval,Sem.run_bind,key,Result.andThen_ok,Sem.run_pure]
  ·simp only[Rep];refine⟨_,_,_,rfl,by rw[gJ,agh,ag2];omega,by omega,.inr ⟨b,off+p,by rw[if_neg oaa];simp[Addr.add],xK (HR (fv e2 p) _)⟩⟩) kk
end
def QM:lXF:=[S ⟨#[105,110,100,101,120]⟩,S ⟨#[99,111,108,117,109,110]⟩,S ⟨#[108,97]⟩,S ⟨#[109,111,100,101]⟩]
def W15:lXF:=replicate 10 (S ⟨#[]⟩)++QM++ [S ⟨#[]⟩]
def adl:List Oper:=[⟨some 3,.slice 174 (.tmp 1) (some<|.const<|.int .i8 (10:Nat)) (some<|.const<|.int .i8 (14:Nat)) none,22, "guard.go:51",#[],none⟩,⟨some 0,.assign (.tmp 3),22, "guard.go:51",#[⟨0,.data⟩,⟨0,.phase⟩],none⟩]
theorem tl133:sq2 (sq2<|aG 133)= .seq (.region 2 adl.toArray false) .ret:=by kernel_rfl
def aab:iq [1] [0] (Fm Tryz.prog 4 base c7 3000 [sq1 (aG 133),sq1 (sq2<|aG 133)] (mq 0 [] .e) .e 0 ⟨0,[],[]⟩)=some (.normal,[some (.pt 0 0)],[some (.box 174 W15)],1,[]):=by kernel_rfl
def aac:aQ pg 133 [] [] [] (.sl 1<|aL QM) []:=by
 refine jT (fn:=Tryz.f133) Tryz.func133 oab (show Tryz.f133.body=some (Qf [sq1 (aG 133),sq1 (sq2<|aG 133)]<|sq2<|sq2<|aG 133) by kernel_rfl) (nbl rfl) (afG _) rfl rfl ?_;refine Fq aC mixed [(1,.pt 0 0)] [.box 174 W15] aab rfl rfl rfl rfl (Ql (A:=[.box 174 W15]) (HC 1 _) rfl) ?_;refine Qh (Qg (o:=0) (X:= .box 174 W15) (ob2:=[.dead]) (L':=[(1,.pf W15)]) rfl (.inr ⟨_,_,rfl⟩) rfl oay<|λt av' h=> ?_) ?_
 ·rw[cH]at h;split at h
  ·rename_i e;cases h;exact⟨.pt 0 0,by rw[cH,if_pos e],Frz.pt rfl⟩
  ·simp[lk]at h
 ·rw[tl133];refine iR (G3 (.inl rfl) ?_);refine CL (N:=15) (p:=10) (q:=14) (cs:=W15) (e:=9) oab rfl oaa oaa rfl (by first|exact .none|exact rfl) (by intro d h;cases h;decide) ?_;refine Au rfl .none (by intro d h;cases h;decide) ?_;refine n7 (ZG (L3:=[(0,.sl 1 (aL QM))]) rfl ?_ ?_)
  ·exact kc 0 rfl kn
  ·refine JM ?_;exact⟨[.sl 1 (aL QM)],by first|exact .tmp rfl .nil,rfl,_,rfl⟩
def sQ(c:Int):Bool:=(bif decide (c>=97)then((decide<|c<=122)||((decide<|c>=65)&&decide (c<=90)))else((decide<|c>=65)&&decide (c<=90)))
abbrev zy:GT:=(.r [bT]<|.a (.a (.r (.k::bT::bT::.k::uFF 6 [bT]) .nil)<|.a (.r [.k,bT,bT,.k,bT,bT,.k,bT,bT,bT,.k,bT,bT] .nil)<|.r [.k,bT,bT,.k,bT,bT,.k,bT,bF,bF,bT,bT] .nil)<|.a (.r [.k,bF,bF,bT,bT,.k,bT,bT,bT,.k,bT,bT] .nil)<|.r [.k,bF,bF,bT,bT,.k,bT,bF,bF,bT,bT] .nil)
def NW(c:Int):aQ pg 129 [.v (.int .u8 c)] [] [] (B<|sQ c) []:=
 aV 129 zy
 (an a0<|aO (λ(h0:(decide<|c>=97)=true)=>(aO (λ(h1:(decide<|c<=122)=true)=>(an (aN 5<|ac (n2 h1)<|aN 2<|ac h0<|a1 a0)<|bE<|show sQ c=_ from(cdT h0<|orT h1)))<|λh1=>(aO (λ(h2:(decide<|c>=65)=true)=>(an (aN 3<|ac h2<|aN 3<|ac (ak h1)<|aN 2<|ac h0<|a1 a0)<|bE<|show sQ c=_ from(cdT h0<|orF h1<|ay h2 rfl)))<|λh2=>(an (aN 2<|ac (ak h2)<|aN 3<|ac (ak h1)<|aN 2<|ac h0<|a1 a0)<|bE<|show sQ c=_ from(cdT h0<|orF h1<|aT h2)))))<|λh0=>(aO (λ(h1:(decide<|c>=65)=true)=>(an (aN 3<|ac h1<|aN 5<|ac (ak h0)<|a1 a0)<|bE<|show sQ c=_ from(cdF h0<|ay h1 rfl)))<|λh1=>(an (aN 2<|ac (ak h1)<|aN 5<|ac (ak h0)<|a1 a0)<|bE<|show sQ c=_ from(cdF h0<|aT h1))))
def i129(c:Int):bC:=⟨129,[.v (.int .u8 c)],B (sQ c),True⟩
def HS(c:Int):(i129 c).bu pg:=bI λhp=>NW c
def HT(c:Int):Bool:=((decide<|c>=48)&&decide (c<=57))
abbrev zCm:GT:=(.r [bT]<|.a (.r [.k,bT,bT,.k,bT] .nil)<|.r [.k,bF,bF,bT] .nil)
section
variable(c:Int)
def QN:aQ pg 136 [.v (.int .u8 c)] [] [] (B<|HT c) []:=
 aV 136 zCm
 (an a0<|aO (λ(h0:(decide<|c>=48)=true)=>(an (aN 2<|ac h0<|a1 a0)<|bE<|show HT c=(decide<|c<=57)from(ay h0 rfl)))<|λh0=>(an (a1<|ac (ak h0)<|a1 a0)<|bE<|show HT c=false from(aT h0)))
def i136:bC:=⟨136,[.v (.int .u8 c)],B (HT c),True⟩
def g136:(i136 c).bu pg:=bI λhp=>QN c
def sR:Bool:=(bif decide (c>=97)then((decide<|c<=122)||((decide<|c>=65)&&decide (c<=90)))else((decide<|c>=65)&&decide (c<=90)))
def NX:aQ pg 134 [.v (.int .u8 c)] [] [] (B<|sR c) []:=
 aV 134 zy
 (an a0<|aO (λ(h0:(decide<|c>=97)=true)=>(aO (λ(h1:(decide<|c<=122)=true)=>(an (aN 5<|ac (n2 h1)<|aN 2<|ac h0<|a1 a0)<|bE<|show sR c=_ from(cdT h0<|orT h1)))<|λh1=>(aO (λ(h2:(decide<|c>=65)=true)=>(an (aN 3<|ac h2<|aN 3<|ac (ak h1)<|aN 2<|ac h0<|a1 a0)<|bE<|show sR c=_ from(cdT h0<|orF h1<|ay h2 rfl)))<|λh2=>(an (aN 2<|ac (ak h2)<|aN 3<|ac (ak h1)<|aN 2<|ac h0<|a1 a0)<|bE<|show sR c=_ from(cdT h0<|orF h1<|aT h2)))))<|λh0=>(aO (λ(h1:(decide<|c>=65)=true)=>(an (aN 3<|ac h1<|aN 5<|ac (ak h0)<|a1 a0)<|bE<|show sR c=_ from(cdF h0<|ay h1 rfl)))<|λh1=>(an (aN 2<|ac (ak h1)<|aN 5<|ac (ak h0)<|a1 a0)<|bE<|show sR c=_ from(cdF h0<|aT h1))))
def i134:bC:=⟨134,[.v (.int .u8 c)],B (sR c),True⟩
def NY:(i134 c).bu pg:=bI λhp=>NX c
def HU:Bool:=((decide<|c>=48)&&decide (c<=57))
def QO:aQ pg 135 [.v (.int .u8 c)] [] [] (B<|HU c) []:=
 aV 135 zCm
 (an a0<|aO (λ(h0:(decide<|c>=48)=true)=>(an (aN 2<|ac h0<|a1 a0)<|bE<|show HU c=(decide<|c<=57)from(ay h0 rfl)))<|λh0=>(an (a1<|ac (ak h0)<|a1 a0)<|bE<|show HU c=false from(aT h0)))
def i135:bC:=⟨135,[.v (.int .u8 c)],B (HU c),True⟩
def g135:(i135 c).bu pg:=bI λhp=>QO c
def FF:Bool:=((sQ c)||((HT c)||c==95))
def NZ:aQ pg 131 [.v (.int .u8 c)] [] [] (B<|FF c) []:=
 aV 131 (.r [bT]<|.a (.r (.int 0::uFF 4 [bT]) .nil)<|.a (.r [.int 0,bT,bT,.int 1,bF,bF,bT] .nil)<|.r [.int 0,bT,bT,.int 1,bT,bT,.k,bT] .nil)
 (an a0<|aO (λ(h0:(sQ c)=true)=>(an (aN 3<|ac (n2 h0)<|cA (HS c) trivial a0)<|bE<|show FF c=true from(orT h0)))<|λh0=>(aO (λ(h1:(HT c)=true)=>(an (a1<|ac (n2 h1)<|cA (g136 c) trivial<|a1<|ac (ak h0)<|cA (HS c) trivial a0)<|bE<|show FF c=true from(orF h0<|orT h1)))<|λh1=>(an (aN 2<|ac (ak h1)<|cA (g136 c) trivial<|a1<|ac (ak h0)<|cA (HS c) trivial a0)<|bE<|show FF c=(c==95)from(orF h0<|orF h1 rfl)))) (hc:=(aK (.cons (HS c) rfl<|.cons (g136 c) rfl bB.nil) aC))
def i131:bC:=⟨131,[.v (.int .u8 c)],B (FF c),True⟩
def g131:(i131 c).bu pg:=bI λhp=>NZ c
end
def QP:Code:=bn 0 (aG 126)
abbrev HV(s:ByteArray)(i0:Nat):Am.Loc:=[(0,S s),(3,I (i0:Int))]
abbrev HW(s:ByteArray)(i0:Nat):lXE:=[]
def nC(s:ByteArray)(i0:Nat):Bool:=((!(sR<|dr s i0))&&((!(HU<|dr s i0))&&((dr s i0) !=95)))
def lK(s:ByteArray):Bool:=cz (ByteArray.size s) (nC s)
abbrev Kw(s:ByteArray)(i0:Nat):Am.Loc:=[(2,B false)]
abbrev Kx(s:ByteArray)(i0:Nat):lXE:=[]
abbrev Ky(s:ByteArray):Am.Loc:=[(0,S s)]
abbrev Kz(s:ByteArray):lXE:=[]
def CM(s:ByteArray):KB:=anK 0 (ByteArray.size s) (nC s) (HV s) (HW s) .ret (Kw s) (Kx s) (.exit 0) (Ky s) (Kz s) (True)
abbrev xL(s:ByteArray)(i0:Nat):List bG:=[htW (nC s i0) .ret (Kw s i0) zI (Kx s i0),nxW (nC s i0) (HV s<|i0+1) (HW s<|i0+1) (HV s<|i0+1) zI (HW s<|i0+1)]
abbrev zB:GT:=(.r [bT]<|.pick 0)
abbrev zBs(i0:Nat):List Gi:=[.int ↑(i0+1),bT]
abbrev zC(i0:Nat):GT:=(.r (zBs i0)<|.pick 1)
abbrev zF:GT:=(.r [.k,bT]<|.no<|.pick 0)
section
variable(s:ByteArray)
abbrev zDm:=(decide<|(((ByteArray.size s):Nat):Int)<(ByteArray.size s:Int))
def N4(ls:ByteArray.size s<=9223372036854775807):ca pg 50 0 0 (.loop QP) (CM s):=
 anB (xL s) (λi0=>(.r [.k,bT]<|.yes<|.a (.a (.r (.val (.int .u8<|dr s i0)::.int 0::bT::bT::bT::.val (.int .u8<|dr s i0)::bT::.int 1::uTT 4 [.val (.int .u8<|dr s i0),bT,.k,bT])<|.br zB<|zC i0)<|.r (.val (.int .u8<|dr s i0)::.int 0::bT::bT::bT::.val (.int .u8<|dr s i0)::bT::.int 1::bT::uFF 4 [bT])<|zC i0)<|.r (.val (.int .u8<|dr s i0)::.int 0::uFF 9 [bT])<|zC i0)) (range 0) zF
 (λ_ i0(hx0:i0<(ByteArray.size s))=>have hb:(decide<|(i0:Int)<(ByteArray.size s:Int))=true:=afH oaa;
 bq (an (a1 a0)<|an hb<|aO (λ(h1:(!(sR<|dr s i0))=true)=>have q0:=(ay h1 rfl:nC s i0=_);
 (aO (λ(h2:(!(HU<|dr s i0))=true)=>have q1:=q0.trans (ay h2 rfl);
 (an (aN 2<|ac (ixB s i0 oaa)<|aN 2<|ac h2<|a1<|cA (g135<|dr s i0) trivial<|a1<|ac (ixB s i0 oaa)<|aN 2<|ac h1<|cA (NY<|dr s i0) trivial<|ac (ixB s i0 oaa) a0)<|brP (λ(h3:((dr s i0) !=95)=true)=>(an a0<|lf (wy (xL s i0) 0) 0<|q1.trans h3))<|λh3=>have g3:=cE h3;
 (an (ac (dwo ((i0+1:Nat):Int)) a0)<|lf (wy (xL s i0) 1) 0 ⟨(q1.trans h3),rfl,rfl⟩)))<|λh2=>(an (aN 3<|ac (ak h2)<|a1<|cA (g135<|dr s i0) trivial<|a1<|ac (ixB s i0 oaa)<|aN 2<|ac h1<|cA (NY<|dr s i0) trivial<|ac (ixB s i0 oaa) a0)<|an (ac (dwo ((i0+1:Nat):Int)) a0)<|lf (wy (xL s i0) 1) 0 ⟨(q0.trans<|aT h2),rfl,rfl⟩)))<|λh1=>(an (aN 8<|ac (ak h1)<|cA (NY<|dr s i0) trivial<|ac (ixB s i0 oaa) a0)<|an (ac (dwo ((i0+1:Nat):Int)) a0)<|lf (wy (xL s i0) 1) 0 ⟨(show nC s i0=false from(aT h1)),rfl,rfl⟩))
 oab)
 (λ_=>have hb:(zDm s)=false:=afI oaa;
 bq (an (a1 a0)<|an hb<|lx (.exit 0) (Ky s) (range 0) (Kz s) 0)
 oab) (hc:=λ_ i0 hx0=>(aK (.cons (NY<|dr s i0) rfl<|.cons (g135<|dr s i0) rfl bB.nil) aC))
def FG:Bool:=(!(cp (Array.toList<|ByteArray.data s) [])&&(!(decide<|(ByteArray.size s:Int)>40)&&(!(!(sR<|dr s 0))&&(!(lK s)&&(!(cp (Array.toList<|ByteArray.data s) [116,114,117,101])&&(!(cp (Array.toList<|ByteArray.data s) [102,97,108,115,101])&&(!(cp (Array.toList<|ByteArray.data s) [111,114,97,99,108,101])&&(!(cp (Array.toList<|ByteArray.data s) [105,110,100,101,120])&&(!(cp (Array.toList<|ByteArray.data s) [99,111,108,117,109,110])&&(!(cp (Array.toList<|ByteArray.data s) [108,97])&&(!(cp (Array.toList<|ByteArray.data s) [109,111,100,101]))))))))))))
end
def re:cy [0] (aG 126)=[(0,.loop QP)]:=by kernel_rfl
abbrev zD:GT:=(.r [bT] .nil)
def aad(s:ByteArray)(ls:ByteArray.size s<=9223372036854775807):aQ pg 126 [S s] [] [] (B<|FG s) []:=
 aV 126 (.r [bT]<|.a (.r (.k::uFF 7 [bT]) zD)<|.a (.r (.k::bT::bT::bT::.k::uFF 4 [bT]) zD)<|.r [.k,bT,bT,bT,.k,bT,bT,.val (.int .u8<|dr s 0),bT,.int 0,bT,bT]<|.br zD<|.r [bT]<|.br .nil<|.r [bT]<|.r [.k,bT]<|.br zD<|.r [.k,bT]<|.br zD<|.r [.k,bT]<|.br zD<|.r [.k,bT]<|.br zD<|.r [.k,bT]<|.br zD<|.r [.k,bT]<|.br zD<|.r [.k,bT]<|.br zD zD)
 (an a0<|aO (λ(h0:(cp (Array.toList<|ByteArray.data s) [])=true)=>(an (aN 6<|ac (n2 h0)<|a1 a0)<|an a0<|bE<|show FG s=false from(aT<|bQ h0)))<|λh0=>have q0:=(ay (ak h0) rfl:FG s=_);have g0:=size_pos h0;
 (aO (λ(h1:(decide<|(ByteArray.size s:Int)>40)=true)=>(an (aN 3<|ac (n2 h1)<|aN 3<|ac (ak h0)<|a1 a0)<|an a0<|bE<|q0.trans<|aT<|bQ h1))<|λh1=>have q1:=q0.trans (ay (ak h1) rfl);have g1:=afE h1;
 (an (a1<|cA (NY<|dr s 0) trivial<|a1<|ac (ixB s 0 oaa)<|a1<|ac (ak h1)<|aN 3<|ac (ak h0)<|a1 a0)<|brP (λ(h2:(!(sR<|dr s 0))=true)=>(an a0<|bE<|q1.trans<|aT<|bQ h2))<|λh2=>have q2:=q1.trans (ay (ak h2) rfl);
 (an a0<|an (kbT (CM s) trivial)<|brP (λ(h3:(lK s)=true)=>(bE<|q2.trans<|aT<|bQ h3))<|λh3=>have q3:=q2.trans (ay (ak h3) rfl);
 (an a0<|an (a1 a0)<|brP (λ(h4:(cp (Array.toList<|ByteArray.data s) [116,114,117,101])=true)=>(an a0<|bE<|q3.trans<|aT<|bQ h4))<|λh4=>have q4:=q3.trans (ay (ak h4) rfl);
 (an (a1 a0)<|brP (λ(h5:(cp (Array.toList<|ByteArray.data s) [102,97,108,115,101])=true)=>(an a0<|bE<|q4.trans<|aT<|bQ h5))<|λh5=>have q5:=q4.trans (ay (ak h5) rfl);
 (an (a1 a0)<|brP (λ(h6:(cp (Array.toList<|ByteArray.data s) [111,114,97,99,108,101])=true)=>(an a0<|bE<|q5.trans<|aT<|bQ h6))<|λh6=>have q6:=q5.trans (ay (ak h6) rfl);
 (an (a1 a0)<|brP (λ(h7:(cp (Array.toList<|ByteArray.data s) [105,110,100,101,120])=true)=>(an a0<|bE<|q6.trans<|aT<|bQ h7))<|λh7=>have q7:=q6.trans (ay (ak h7) rfl);
 (an (a1 a0)<|brP (λ(h8:(cp (Array.toList<|ByteArray.data s) [99,111,108,117,109,110])=true)=>(an a0<|bE<|q7.trans<|aT<|bQ h8))<|λh8=>have q8:=q7.trans (ay (ak h8) rfl);
 (an (a1 a0)<|brP (λ(h9:(cp (Array.toList<|ByteArray.data s) [108,97])=true)=>(an a0<|bE<|q8.trans<|aT<|bQ h9))<|λh9=>have q9:=q8.trans (ay (ak h9) rfl);
 (an (a1 a0)<|brP (λ(h10:(cp (Array.toList<|ByteArray.data s) [109,111,100,101])=true)=>(an a0<|bE<|q9.trans<|bQ h10))<|λh10=>(an a0<|bE<|q9.trans<|ak h10)))))))))))) (hc:=(aK (.cons (NY<|dr s 0) rfl bB.nil) aC)) (hk:=(bc (l:=[(0,CM s)]) re (aE (N4 s ls) rfl aP) rfl))
def QQ:Code:=bn 0 (aG 130)
abbrev HX(s:ByteArray)(i0:Nat):Am.Loc:=[(0,S s),(1,.fn (.func 131) [] []),(5,I (i0:Int))]
abbrev HY(s:ByteArray)(i0:Nat):lXE:=[]
def jU(s:ByteArray)(i0:Nat):Bool:=(!(FF<|dr s i0))
def rh(s:ByteArray):Bool:=cz (ByteArray.size s) (jU s)
abbrev KA(s:ByteArray)(i0:Nat):Am.Loc:=[(5,I (i0:Int))]
abbrev KC(s:ByteArray)(i0:Nat):lXE:=[]
abbrev KD(s:ByteArray):Am.Loc:=[(5,I (((ByteArray.size s):Nat):Int))]
abbrev KE(s:ByteArray):lXE:=[]
def CN(s:ByteArray):KB:=anK 0 (ByteArray.size s) (jU s) (HX s) (HY s) (.exit 0) (KA s) (KC s) (.exit 0) (KD s) (KE s) (True)
abbrev HZ(s:ByteArray)(i0:Nat):List bG:=[nxW (jU s i0) (HX s<|i0+1) (HY s<|i0+1) (HX s<|i0+1) zI (HY s<|i0+1),htW (jU s i0) (.exit 0) (KA s i0) zI (KC s i0)]
abbrev zc(i0:Nat):GT:=(.r (zBs i0)<|.pick 0)
abbrev zBq:List Gi:=(.k::uFF 5 [bT])
def N5(s:ByteArray)(ls:ByteArray.size s<=9223372036854775807):ca pg 20 0 0 (.loop QQ) (CN s):=
 anB (HZ s) (λi0=>(.r (.k::uTT 4 [.val (.int .u8<|dr s i0),bT,.int 0,bT])<|.br (zc i0)<|.pick 1)) (range 0) (.r zBq<|.pick 0)
 (λ_ i0(hx0:i0<(ByteArray.size s))=>have hb:(decide<|(i0:Int)<(ByteArray.size s:Int))=true:=afH oaa;
 bq (an (cA (g131<|dr s i0) trivial<|a1<|ac (ixB s i0 oaa)<|aN 3<|ac hb<|a1 a0)<|brP (λ(h1:(FF<|dr s i0)=true)=>(an (ac (dwo ((i0+1:Nat):Int)) a0)<|lf (wy (HZ s i0) 0) 0 ⟨(show jU s i0=false from(bQ h1)),rfl,rfl⟩))<|λh1=>(lf (wy (HZ s i0) 1) 0<|show jU s i0=true from(ak h1)))
 oab)
 (λ_=>have hb:(zDm s)=false:=afI oaa;
 bq (an (aN 4<|ac (ak hb)<|a1 a0)<|lx (.exit 0) (KD s) (range 0) (KE s) 0)
 oab) (hc:=λ_ i0 hx0=>(aK (.cons (g131<|dr s i0) rfl bB.nil) aC))
def FH(s:ByteArray):Int:=(bif rh s then(((gQ (ByteArray.size s)<|jU s):Nat):Int)else(((ByteArray.size s):Nat):Int))
def rk:cy [0] (aG 130)=[(0,.loop QQ)]:=by kernel_rfl
section
variable(s:ByteArray)
def QR(ls:ByteArray.size s<=9223372036854775807):aQ pg 130 [S s,.fn (.func 131) [] []] [] [] (I<|FH s) []:=
 aV 130 (.r [bT]<|.r [bT]<|.br zD zD)
 (an a0<|an a0<|an (kbT (CN s) trivial)<|brP (λ(h0:(rh s)=true)=>(an a0<|iE<|show FH s=_ from(cdT h0 rfl)))<|λh0=>(an a0<|iE<|show FH s=_ from(cdF h0 rfl))) (hk:=(bc (l:=[(0,CN s)]) rk (aE (N5 s ls) rfl aP) rfl))
def i126:bC:=⟨126,[S s],B (FG s),s.size<=9223372036854775807⟩
def g126:(i126 s).bu pg:=bI λhp=>aad s hp
def i130:bC:=⟨130,[S s,.fn (.func 131) [] []],I (FH s),s.size<=9223372036854775807⟩
def g130:(i130 s).bu pg:=bI λhp=>QR s hp
end
def i133:bC:=⟨133,[],.sl 1 (aL QM),True⟩
def N6:i133.bu pg:=λ_=>⟨aac,rfl,rfl⟩
def FJ(s:ByteArray):Bool:=(!(cp (Array.toList<|ByteArray.data s) [])&&(!(decide<|(ByteArray.size s:Int)>40)&&(!(!(sQ<|dr s 0))&&(!(decide<|(FH s)<(ByteArray.size s:Int))&&(!(cp (Array.toList<|ByteArray.data s) [116,114,117,101])&&(!(cp (Array.toList<|ByteArray.data s) [102,97,108,115,101])&&(!(cp (Array.toList<|ByteArray.data s) [111,114,97,99,108,101])&&(!(cp (Array.toList<|ByteArray.data s) [105,110,100,101,120])&&(!(cp (Array.toList<|ByteArray.data s) [99,111,108,117,109,110])&&(!(cp (Array.toList<|ByteArray.data s) [108,97])&&(!(cp (Array.toList<|ByteArray.data s) [109,111,100,101]))))))))))))
abbrev zH(s:ByteArray):lXF:=[.sl 1 [[S (⟨#[105,110,100,101,120]⟩)],[S (⟨#[99,111,108,117,109,110]⟩)],[S (⟨#[108,97]⟩)],[S (⟨#[109,111,100,101]⟩)]],S s]
abbrev zCK:List Gi:=(.k::uFF 12 [bT])
section
variable(s:ByteArray)
def QS(ls:ByteArray.size s<=9223372036854775807):aQ pg 125 [S s] [] [] (B<|FJ s) []:=
 aV 125 (.r [bT]<|.a (.r zCK zD)<|.a (.r (.k::bT::bT::bT::.k::uFF 9 [bT]) zD)<|.a (.r (.k::bT::bT::bT::.k::bT::bT::.val (.int .u8<|dr s 0)::bT::.int 0::bT::uFF 5 [bT]) zD)<|.r [.k,bT,bT,bT,.k,bT,bT,.val (.int .u8<|dr s 0),bT,.int 0,bT,bT,bT,.int 1,bT,bT,bT,.k,bT]<|.br zD<|.r [bT]<|.r [.k,bT]<|.br zD<|.r [.k,bT]<|.br zD<|.r [.k,bT]<|.br zD<|.a (.r [.int 2,.k,.row [S (⟨#[105,110,100,101,120]⟩)],bT,.k,bT] .nil)<|.a (.r [.int 2,.k,.row [S (⟨#[105,110,100,101,120]⟩)],bF,.int 1,.k,.row [S (⟨#[99,111,108,117,109,110]⟩)],bT,.k,bT] .nil)<|.a (.r [.int 2,.k,.row [S (⟨#[105,110,100,101,120]⟩)],bF,.int 1,.k,.row [S (⟨#[99,111,108,117,109,110]⟩)],bF,.int 2,.k,.row [S (⟨#[108,97]⟩)],bT,.k,bT] .nil)<|.a (.r [.int 2,.k,.row [S (⟨#[105,110,100,101,120]⟩)],bF,.int 1,.k,.row [S (⟨#[99,111,108,117,109,110]⟩)],bF,.int 2,.k,.row [S (⟨#[108,97]⟩)],bF,.int 3,.k,.row [S (⟨#[109,111,100,101]⟩)],bT,.k,bT] .nil)<|.r [.int 2,.k,.row [S (⟨#[105,110,100,101,120]⟩)],bF,.int 1,.k,.row [S (⟨#[99,111,108,117,109,110]⟩)],bF,.int 2,.k,.row [S (⟨#[108,97]⟩)],bF,.int 3,.k,.row [S (⟨#[109,111,100,101]⟩)],bF,.int 4,.k,.k,bT] .nil)
 (an a0<|aO (λ(h0:(cp (Array.toList<|ByteArray.data s) [])=true)=>(an (aN 11<|ac (n2 h0)<|a1 a0)<|an a0<|bE<|show FJ s=false from(aT<|bQ h0)))<|λh0=>have q0:=(ay (ak h0) rfl:FJ s=_);have g0:=size_pos h0;
 (aO (λ(h1:(decide<|(ByteArray.size s:Int)>40)=true)=>(an (aN 8<|ac (n2 h1)<|aN 3<|ac (ak h0)<|a1 a0)<|an a0<|bE<|q0.trans<|aT<|bQ h1))<|λh1=>have q1:=q0.trans (ay (ak h1) rfl);have g1:=afE h1;
 (aO (λ(h2:(!(sQ<|dr s 0))=true)=>(an (aN 4<|ac (n2 h2)<|a1<|cA (HS<|dr s 0) trivial<|a1<|ac (ixB s 0 oaa)<|a1<|ac (ak h1)<|aN 3<|ac (ak h0)<|a1 a0)<|an a0<|bE<|q1.trans<|aT<|bQ h2))<|λh2=>have q2:=q1.trans (ay (ak h2) rfl);
 (an (aN 4<|cA (g130 s) ls<|a1<|ac (ak h2)<|a1<|cA (HS<|dr s 0) trivial<|a1<|ac (ixB s 0 oaa)<|a1<|ac (ak h1)<|aN 3<|ac (ak h0)<|a1 a0)<|brP (λ(h3:(decide<|(FH s)<(ByteArray.size s:Int))=true)=>(an a0<|bE<|q2.trans<|aT<|bQ h3))<|λh3=>have q3:=q2.trans (ay (ak h3) rfl);
 (an a0<|an (a1 a0)<|brP (λ(h4:(cp (Array.toList<|ByteArray.data s) [116,114,117,101])=true)=>(an a0<|bE<|q3.trans<|aT<|bQ h4))<|λh4=>have q4:=q3.trans (ay (ak h4) rfl);
 (an (a1 a0)<|brP (λ(h5:(cp (Array.toList<|ByteArray.data s) [102,97,108,115,101])=true)=>(an a0<|bE<|q4.trans<|aT<|bQ h5))<|λh5=>have q5:=q4.trans (ay (ak h5) rfl);
 (an (a1 a0)<|brP (λ(h6:(cp (Array.toList<|ByteArray.data s) [111,114,97,99,108,101])=true)=>(an a0<|bE<|q5.trans<|aT<|bQ h6))<|λh6=>have q6:=q5.trans (ay (ak h6) rfl);
 (aO (λ(h7:(cp (Array.toList<|ByteArray.data s) [105,110,100,101,120])=true)=>(an (aN 3<|ac h7<|ac (fD<|some [S (⟨#[105,110,100,101,120]⟩)])<|a1<|ac (pvA (zH s) oam)<|ac (pvA (zH s) oam)<|cA N6 trivial a0)<|bE<|q6.trans<|aT<|bQ h7))<|λh7=>have q7:=q6.trans (ay (ak h7) rfl);
 (aO (λ(h8:(cp (Array.toList<|ByteArray.data s) [99,111,108,117,109,110])=true)=>(an (aN 3<|ac h8<|ac (fD<|some [S (⟨#[99,111,108,117,109,110]⟩)])<|a1<|ac (fD (1:Int))<|ac (ak h7)<|ac (fD<|some [S (⟨#[105,110,100,101,120]⟩)])<|a1<|ac (pvA (zH s) oam)<|ac (pvA (zH s) oam)<|cA N6 trivial a0)<|bE<|q7.trans<|aT<|bQ h8))<|λh8=>have q8:=q7.trans (ay (ak h8) rfl);
 (aO (λ(h9:(cp (Array.toList<|ByteArray.data s) [108,97])=true)=>(an (aN 3<|ac h9<|ac (fD<|some [S (⟨#[108,97]⟩)])<|a1<|ac (fD (2:Int))<|ac (ak h8)<|ac (fD<|some [S (⟨#[99,111,108,117,109,110]⟩)])<|a1<|ac (fD (1:Int))<|ac (ak h7)<|ac (fD<|some [S (⟨#[105,110,100,101,120]⟩)])<|a1<|ac (pvA (zH s) oam)<|ac (pvA (zH s) oam)<|cA N6 trivial a0)<|bE<|q8.trans<|aT<|bQ h9))<|λh9=>have q9:=q8.trans (ay (ak h9) rfl);
 (aO (λ(h10:(cp (Array.toList<|ByteArray.data s) [109,111,100,101])=true)=>(an (aN 3<|ac h10<|ac (fD<|some [S (⟨#[109,111,100,101]⟩)])<|a1<|ac (fD (3:Int))<|ac (ak h9)<|ac (fD<|some [S (⟨#[108,97]⟩)])<|a1<|ac (fD (2:Int))<|ac (ak h8)<|ac (fD<|some [S (⟨#[99,111,108,117,109,110]⟩)])<|a1<|ac (fD (1:Int))<|ac (ak h7)<|ac (fD<|some [S (⟨#[105,110,100,101,120]⟩)])<|a1<|ac (pvA (zH s) oam)<|ac (pvA (zH s) oam)<|cA N6 trivial a0)<|bE<|q9.trans<|bQ h10))<|λh10=>(an (aN 4<|ac (fD (4:Int))<|ac (ak h10)<|ac (fD<|some [S (⟨#[109,111,100,101]⟩)])<|a1<|ac (fD (3:Int))<|ac (ak h9)<|ac (fD<|some [S (⟨#[108,97]⟩)])<|a1<|ac (fD (2:Int))<|ac (ak h8)<|ac (fD<|some [S (⟨#[99,111,108,117,109,110]⟩)])<|a1<|ac (fD (1:Int))<|ac (ak h7)<|ac (fD<|some [S (⟨#[105,110,100,101,120]⟩)])<|a1<|ac (pvA (zH s) oam)<|ac (pvA (zH s) oam)<|cA N6 trivial a0)<|bE<|q9.trans<|ak h10)))))))))))) (hc:=(aK (.cons (HS<|dr s 0) rfl<|.cons (g130 s) rfl<|.cons N6 rfl bB.nil) aC))
def i125:bC:=⟨125,[S s],B (FJ s),s.size<=9223372036854775807⟩
def g125:(i125 s).bu pg:=bI λhp=>QS s hp
end
def eV(g:G):Bool:=(!((length (map gC g.kids):Int) !=0)&&(bif g.op==9 then((cp (Array.toList<|ByteArray.data g.name) [])&&((decide<|g.n<1000000000000000000)&&decide (g.n>(-1000000000000000000))))else(bif g.op==10 then((cp (Array.toList<|ByteArray.data g.name) [])&&g.n==0)else(bif g.op==11 then((cp (Array.toList<|ByteArray.data g.name) [])&&g.n==0)else(bif g.op==12 then((cp (Array.toList<|ByteArray.data g.name) [])&&g.n==0)else(bif g.op==13 then((cp (Array.toList<|ByteArray.data g.name) [])&&g.n==0)else((g.op==14)&&((g.n==0)&&FG g.name))))))))
abbrev zJ:List Gi:=(.k::uFF 6 [bT])
abbrev zCu:List Gi:=[.k,bT,bT,bT,.k,bF,bF,bF,bT]
abbrev zDr:List Gi:=[.k,bT,bT,bT,.k,bT,bT,bT,.k,bT]
abbrev zV:GT:=(.a (.a (.r zDr .nil)<|.r zCu .nil)<|.r zJ .nil)
abbrev zAm:List Gi:=[.k,bF,bF,bF,bT]
abbrev zAE:GT:=(.a (.r [.k,bT,bT,bT,.int 0,bT] .nil)<|.r zAm .nil)
abbrev zAJ:List Gi:=[.k,bT,bT,bT,.k,bT]
abbrev zBi:GT:=(.a (.r zAJ .nil)<|.r zAm .nil)
abbrev zCG(g:G):=(decide<|g.n>(-1000000000000000000))
abbrev zCR(g:G):=(decide<|g.n<1000000000000000000)
def N7(g:G)(ls:ByteArray.size g.name<=9223372036854775807):aQ pg 116 [.ag (gCC g)] [] [] (B<|eV g) []:=
 aV 116 (.r [bT]<|.r [.k,bT]<|.br zD<|.r [bT]<|.r [.k,bT]<|.br zV<|.r [.k,bT]<|.br zBi<|.r [.k,bT]<|.br zBi<|.r [.k,bT]<|.br zBi<|.r [.k,bT]<|.br zBi<|.r [.k,bT]<|.br zAE zD)
 (an a0<|an (a1 a0)<|brP (λ(h0:((length (map gC g.kids):Int) !=0)=true)=>(an a0<|bE<|show eV g=false from(aT<|bQ h0)))<|λh0=>have q0:=(ay (ak h0) rfl:eV g=_);
 (an a0<|an (a1 a0)<|brP (λ(h1:(g.op==9)=true)=>have q1:=q0.trans (cdT h1 rfl);
 (aO (λ(h2:(cp (Array.toList<|ByteArray.data g.name) [])=true)=>(aO (λ(h3:(zCR g)=true)=>(an (aN 3<|ac h3<|aN 3<|ac h2<|a1 a0)<|bE<|show eV g=(zCG g)from(ay (ak h0)<|cdT h1<|ay h2<|ay h3 rfl)))<|λh3=>(an (aN 2<|ac (ak h3)<|aN 3<|ac h2<|a1 a0)<|bE<|q1.trans<|ay h2<|aT h3)))<|λh2=>(an (aN 5<|ac (ak h2)<|a1 a0)<|bE<|q1.trans<|aT h2)))<|λh1=>have q2:=q0.trans (cdF h1 rfl);
 (an (a1 a0)<|brP (λ(h2:(g.op==10)=true)=>(aO (λ(h3:(cp (Array.toList<|ByteArray.data g.name) [])=true)=>(an (aN 3<|ac h3<|a1 a0)<|bE<|show eV g=(g.n==0)from(ay (ak h0)<|cdF h1<|cdT h2<|ay h3 rfl)))<|λh3=>(an (aN 2<|ac (ak h3)<|a1 a0)<|bE<|q2.trans<|cdT h2<|aT h3)))<|λh2=>have q3:=q2.trans (cdF h2 rfl);
 (an (a1 a0)<|brP (λ(h3:(g.op==11)=true)=>(aO (λ(h4:(cp (Array.toList<|ByteArray.data g.name) [])=true)=>(an (aN 3<|ac h4<|a1 a0)<|bE<|show eV g=(g.n==0)from(ay (ak h0)<|cdF h1<|cdF h2<|cdT h3<|ay h4 rfl)))<|λh4=>(an (aN 2<|ac (ak h4)<|a1 a0)<|bE<|q3.trans<|cdT h3<|aT h4)))<|λh3=>have q4:=q3.trans (cdF h3 rfl);
 (an (a1 a0)<|brP (λ(h4:(g.op==12)=true)=>(aO (λ(h5:(cp (Array.toList<|ByteArray.data g.name) [])=true)=>(an (aN 3<|ac h5<|a1 a0)<|bE<|show eV g=(g.n==0)from(ay (ak h0)<|cdF h1<|cdF h2<|cdF h3<|cdT h4<|ay h5 rfl)))<|λh5=>(an (aN 2<|ac (ak h5)<|a1 a0)<|bE<|q4.trans<|cdT h4<|aT h5)))<|λh4=>have q5:=q4.trans (cdF h4 rfl);
 (an (a1 a0)<|brP (λ(h5:(g.op==13)=true)=>(aO (λ(h6:(cp (Array.toList<|ByteArray.data g.name) [])=true)=>(an (aN 3<|ac h6<|a1 a0)<|bE<|show eV g=(g.n==0)from(ay (ak h0)<|cdF h1<|cdF h2<|cdF h3<|cdF h4<|cdT h5<|ay h6 rfl)))<|λh6=>(an (aN 2<|ac (ak h6)<|a1 a0)<|bE<|q5.trans<|cdT h5<|aT h6)))<|λh5=>have q6:=q5.trans (cdF h5 rfl);
 (an (a1 a0)<|brP (λ(h6:(g.op==14)=true)=>(aO (λ(h7:(g.n==0)=true)=>(an (cA (g126 g.name) ls<|aN 2<|ac h7<|a1 a0)<|bE<|show eV g=(FG g.name)from(ay (ak h0)<|cdF h1<|cdF h2<|cdF h3<|cdF h4<|cdF h5<|ay h6<|ay h7 rfl)))<|λh7=>(an (aN 2<|ac (ak h7)<|a1 a0)<|bE<|q6.trans<|ay h6<|aT h7)))<|λh6=>(an a0<|bE<|q6.trans<|aT h6)))))))) (hc:=(aK (.cons (g126 g.name) rfl bB.nil) aC))
def FK(g:G):Bool:=(!(decide<|(length (map gC g.kids):Int)>0)&&(!(decide<|g.op<9)&&(!(decide<|g.op>14)&&(bif g.op==9 then((cp (Array.toList<|ByteArray.data g.name) [])&&((decide<|g.n<1000000000000000000)&&decide (g.n>(-1000000000000000000))))else(bif g.op==14 then((g.n==0)&&FJ g.name)else((cp (Array.toList<|ByteArray.data g.name) [])&&g.n==0))))))
theorem N8(g:G)(ls:ByteArray.size g.name<=9223372036854775807):aQ pg 113 [.ag (gCC g)] [] [] (B<|FK g) []:=
 aV 113 (.r [bT]<|.a (.r zJ zD)<|.a (.r zCu zD)<|.r zDr<|.br zD<|.r [bT]<|.r [.k,bT]<|.br zV<|.r [.k,bT]<|.br zAE zBi)
 (an a0<|aO (λ(h0:(decide<|(length (map gC g.kids):Int)>0)=true)=>(an (aN 5<|ac (n2 h0)<|a1 a0)<|an a0<|bE<|show FK g=false from(aT<|bQ h0)))<|λh0=>have q0:=(ay (ak h0) rfl:FK g=_);
 (aO (λ(h1:(decide<|g.op<9)=true)=>(an (aN 2<|ac (n2 h1)<|aN 3<|ac (ak h0)<|a1 a0)<|an a0<|bE<|q0.trans<|aT<|bQ h1))<|λh1=>have q1:=q0.trans (ay (ak h1) rfl);
 (an (aN 3<|ac (ak h1)<|aN 3<|ac (ak h0)<|a1 a0)<|brP (λ(h2:(decide<|g.op>14)=true)=>(an a0<|bE<|q1.trans<|aT<|bQ h2))<|λh2=>have q2:=q1.trans (ay (ak h2) rfl);
 (an a0<|an (a1 a0)<|brP (λ(h3:(g.op==9)=true)=>have q3:=q2.trans (cdT h3 rfl);
 (aO (λ(h4:(cp (Array.toList<|ByteArray.data g.name) [])=true)=>(aO (λ(h5:(zCR g)=true)=>(an (aN 3<|ac h5<|aN 3<|ac h4<|a1 a0)<|bE<|show FK g=(zCG g)from(ay (ak h0)<|ay (ak h1)<|ay (ak h2)<|cdT h3<|ay h4<|ay h5 rfl)))<|λh5=>(an (aN 2<|ac (ak h5)<|aN 3<|ac h4<|a1 a0)<|bE<|q3.trans<|ay h4<|aT h5)))<|λh4=>(an (aN 5<|ac (ak h4)<|a1 a0)<|bE<|q3.trans<|aT h4)))<|λh3=>have q4:=q2.trans (cdF h3 rfl);
 (an (a1 a0)<|brP (λ(h4:(g.op==14)=true)=>(aO (λ(h5:(g.n==0)=true)=>(an (cA (g125 g.name) ls<|aN 2<|ac h5<|a1 a0)<|bE<|show FK g=(FJ g.name)from(ay (ak h0)<|ay (ak h1)<|ay (ak h2)<|cdF h3<|cdT h4<|ay h5 rfl)))<|λh5=>(an (aN 2<|ac (ak h5)<|a1 a0)<|bE<|q4.trans<|cdT h4<|aT h5)))<|λh4=>(aO (λ(h5:(cp (Array.toList<|ByteArray.data g.name) [])=true)=>(an (aN 3<|ac h5<|a1 a0)<|bE<|show FK g=(g.n==0)from(ay (ak h0)<|ay (ak h1)<|ay (ak h2)<|cdF h3<|cdF h4<|ay h5 rfl)))<|λh5=>(an (aN 2<|ac (ak h5)<|a1 a0)<|bE<|q4.trans<|cdF h4<|aT h5))))))) (hc:=(aK (.cons (g125 g.name) rfl bB.nil) aC))
mutual
def de:G->Int
 | .mk _ _ _ l=>iL l 1
def iL:List G->Int->Int
 |[],a=>a
 |g::l,a=>iL l (min (a+de g) 2147483647)
end
mutual
def eW (o:Int):G->Bool
 | .mk o' _ _ l=>(o'==o)||kR o l
def kR (o:Int):List G->Bool
 |[]=>false
 |g::l=>eW o g||kR o l
end
theorem xM(o:Int)(l:List G):kR o l=l.any (eW o):=by
 induction l with
 |nil=>rfl
 |cons g l ih=>simp[kR,ih]
def g_cells: ∀g:G,gC g=[I8 g.op,I g.n,S g.name,.sl 4 (g.kids.map gC)]
 | .mk _ _ _ _=>by grind[gC,Cz,G.op,G.n,G.name,G.kids]
theorem ai{α:Type}[Inhabited α]{l:List α}{i:Nat}(h:i<l.length):ae l i∈l:=fO h
mutual
theorem G.xN {C:G->Prop} (h: ∀o n s l,(∀u∈l,C u)->C (.mk o n s l)): ∀g,C g
 | .mk o n s l=>h o n s l (G.ind2 h l)
theorem G.ind2 {C:G->Prop} (h: ∀o n s l,(∀u∈l,C u)->C (.mk o n s l)): ∀(l:List G),∀u∈l,C u
 |[]=>λu hu=>by simp at hu
 |g::l=>λu hu=>by
  rcases agc.1 hu with e|hu
  ·rw[e];exact G.xN h g
  ·exact G.ind2 h l u hu
end
mutual
def dh:G->Prop
 | .mk o _ s l=>(-128<=o/\o<=127)/\s.size<=9223372036854775807/\l.length<=9223372036854775807/\xO l
def xO:List G->Prop
 |[]=>True
 |g::l=>dh g/\xO l
end
def Bb: ∀{l:List G},xO l-> ∀u∈l,dh u
 |[],_,u,hu=>by simp at hu
 |g::l,h,u,hu=>by
  simp only[xO]at h;rcases agc.1 hu with rfl|hu
  ·exact h.1
  ·exact Bb h.2 u hu
theorem dh.kids{g:G}(h:dh g): ∀u∈g.kids,dh u:=by obtain⟨o,n,s,l⟩:=g;simp only[dh]at h;exact Bb h.2.2.2
theorem dh.name{g:G}(h:dh g):g.name.size<=9223372036854775807:=by obtain⟨o,n,s,l⟩:=g;simp only[dh]at h;exact h.2.1
theorem dh.len{g:G}(h:dh g):g.kids.length<=9223372036854775807:=by obtain⟨o,n,s,l⟩:=g;simp only[dh]at h;exact h.2.2.1
theorem dh.op{g:G}(h:dh g): -128<=g.op/\g.op<=127:=by obtain⟨o,n,s,l⟩:=g;simp only[dh]at h;exact h.1
def jI{α:Type}[Inhabited α](p:α->Bool)(l:List α):cz l.length (λi=>p<|ae l i)=l.any p:=by
 rw[ag9,ff,List.any_eq_true];constructor
 ·grind[fO]
 ·rintro⟨x,hx,hp⟩;obtain⟨i,hi,rfl⟩:=List.mem_iff_getElem.1 hx;exact⟨i,hi,by simpa [ae,hi]using hp⟩
theorem fg{α:Type}[Inhabited α]{l:List α}{i:Nat}(h:i<l.length):l.take (i+1)=l.take i++ [ae l i]:=by rw[List.take_add_one,eL h];rfl
theorem aae(s:ByteArray):FJ s=FG s:=by
 have h2:jU s=nC s:=by grind[jU,nC,FF,sQ,sR,HT,HU]
 have h3:decide (FH s<(s.size:Int))=lK s:=by
  unfold FH;have e:rh s=lK s:=by unfold rh lK;rw[h2]
  rw[e];cases hh:lK s with
  |false=>simp
  |true=>have:gQ s.size (jU s)<s.size:=(iJ<|show cz s.size (jU s)=true by rw[h2];exact hh).1;simp_all
 grind[FJ,FG,sQ,sR]
section
variable(g:G)
theorem N9:FK g=eV g:=by unfold FK eV;rw[aae];grind
theorem Af(hf:dh g):aQ pg 113 [.ag (gCC g)] [] [] (B<|eV g) []:=by grind[N9,N8,hf.name]
def Ag(hf:dh g):aQ pg 116 [.ag (gCC g)] [] [] (B<|eV g) []:=N7 g hf.name
def i113:bC:=⟨113,[.ag (gCC g)],B (eV g),dh g⟩
def xP:(i113 g).bu pg:=bI λhp=>Af g hp
def i116:bC:=⟨116,[.ag (gCC g)],B (eV g),dh g⟩
def xQ:(i116 g).bu pg:=bI λhp=>Ag g hp
end
mutual
noncomputable def c9:G->Bool
 | .mk o n s l=>cp s.data.toList []&&((o==8||n==0)&&(bif o==0||o==1 then l.length==0 else bif o==8 then(l.length==0&&(decide (n<1000000000000000000)&&decide (n> -1000000000000000000)))else bif o==2 then(l.length==1&&jV l)else bif o==3||o==4 then(decide (l.length>=2)&&jV l)else bif o==5||(o==6||o==7)then(l.length==2&&(eV (ae l 0)&&eV (ae l 1)))else false))
noncomputable def jV:List G->Bool
 |[]=>true
 |g::l=>c9 g&&jV l
end
theorem FL(l:List G):jV l=l.all c9:=by
 induction l with
 |nil=>rfl
 |cons g l ih=>simp[jV,ih]
def i99(g:G):bC:=⟨99,[.ag (gCC g)],I (de g),True⟩
def gd99{g:G}(h:aQ pg 99 [.ag (gCC g)] [] [] (I<|de g) []):(i99 g).bu pg:=λ_=>⟨h,by simp[i99,aq,AV.pure],rfl⟩
def i104(g:G):bC:=⟨104,[.ag (gCC g)],I (de g),True⟩
def abL{g:G}(h:aQ pg 104 [.ag (gCC g)] [] [] (I<|de g) []):(i104 g).bu pg:=λ_=>⟨h,by simp[i104,aq,AV.pure],rfl⟩
def i105(g:G):bC:=⟨105,[.ag (gCC g)],B (c9 g),True⟩
def abM{g:G}(h:aQ pg 105 [.ag (gCC g)] [] [] (B<|c9 g) []):(i105 g).bu pg:=λ_=>⟨h,by simp[i105,aq,AV.pure],rfl⟩
def i100(g:G):bC:=⟨100,[.ag (gCC g)],B (c9 g),True⟩
def abN{g:G}(h:aQ pg 100 [.ag (gCC g)] [] [] (B<|c9 g) []):(i100 g).bu pg:=λ_=>⟨h,by simp[i100,aq,AV.pure],rfl⟩
def i94(g:G)(o:Int):bC:=⟨94,[.ag (gCC g),I8 o],B (eW o g),True⟩
def gd94{g:G}{o:Int}(h:aQ pg 94 [.ag (gCC g),I8 o] [] [] (B<|eW o g) []):(i94 g o).bu pg:=λ_=>⟨h,by simp[i94,aq,AV.pure],rfl⟩
def abO:Code:=bn 0 (aG 99)
section
variable(g:G)
def adm(i0:Nat)(y0:Int):Int:=(min (wrap .i64<|y0+(de<|ae g.kids i0)) 2147483647)
def jl(kk:Nat):Int:=Nat.rec (motive:=λ_=>Int) 1 (λj a=>adm g j a) kk
abbrev zDe:=(map gC g.kids)
abbrev H0(i0:Nat)(y0:Int):Am.Loc:=[(3,I y0),(7,.sl 4 (zDe g)),(8,I (length (zDe g):Int)),(9,I (i0:Int))]
abbrev abP(i0:Nat):Am.Loc:=H0 g i0 (jl g i0)
abbrev KF(i0:Nat):lXE:=[.box 46 (gCC g)]
abbrev QT:Am.Loc:=[(3,I (jl g<|length g.kids))]
abbrev QU:lXE:=[.box 46 (gCC g)]
def H2:KB:=noK 0 (abP g) (KF g) (.exit 0) (QT g) (QU g) (True)
end
abbrev zAT:=(range 1)
abbrev abQ(g:G)(i0:Nat):List bG:=[nxW (false) (abP g<|i0+1) (KF g<|i0+1) (H0 g (i0+1)<|min (wrap .i64<|(jl g i0)+(de<|ae g.kids i0)) 2147483647) zAT (KF g<|i0+1)]
abbrev zAF(g:G):=(decide<|(((length g.kids):Nat):Int)<(length (map gC g.kids):Int))
abbrev zAz(g:G)(i0:Nat):=(decide<|(i0:Int)<(length (map gC g.kids):Int))
def QV(g:G)(ls:length g.kids<=9223372036854775807)(hK: ∀u∈G.kids g,aQ pg 99 [.ag (gCC u)] [] [] (I<|de u) []):ca pg 20 0 0 (.loop abO) (H2 g):=
 noB (abQ g) (λi0=>(.r [.k,bT]<|.yes<|.r [.row (gCC<|ae g.kids i0),bT]<|.r [.int 0,.int (wrap .i64<|(jl g i0)+(de<|ae g.kids i0)),.val (.int .i64<|min (wrap .i64<|(jl g i0)+(de<|ae g.kids i0)) 2147483647),bT]<|zc i0)) (range 1) zF (length g.kids)
 (λ_ i0(hx0:i0<(length g.kids))=>have l1:=aF gC (g.kids);have hb:(zAz g i0)=true:=afH oaa;
 bq (an (a1 a0)<|an hb<|an (ac (gU g.kids i0) a0)<|an (ac (minA (P:=Tryz.prog) (ts:=⟨[3,3]⟩) (ty:=3) (fl:=⟨[false,true]⟩) (wrap .i64<|(jl g i0)+(de<|ae g.kids i0)) 2147483647)<|ac (fD<|wrap .i64<|(jl g i0)+(de<|ae g.kids i0))<|cA (gd99<|hK _<|ai hx0) trivial a0)<|an (ac (dwo ((i0+1:Nat):Int)) a0)<|lf (wy (abQ g i0) 0) 2<|nxP (H0 g<|i0+1) (λ_=>KF g<|i0+1) rfl<|show jl g (i0+1)=(min (wrap .i64<|(jl g i0)+(de<|ae g.kids i0)) 2147483647)from rfl)
 oab)
 (λ_=>have l1:=aF gC (g.kids);have hb:(zAF g)=false:=afI oaa;
 bq (an (a1 a0)<|an hb<|lx (.exit 0) (QT g) (range 1) (QU g) 1)
 oab) (hc:=λ_ i0 hx0=>(aK (.cons (gd99<|hK _<|ai hx0) rfl bB.nil) aC))
def r99(g:G):Int:=(jl g<|length g.kids)
def uF:cy [0] (aG 99)=[(0,.loop abO)]:=by kernel_rfl
abbrev zBR:GT:=(.r [bT]<|.r [bT]<|.r [bT]<|.no zD)
def adn(g:G)(ls:length g.kids<=9223372036854775807)(hK: ∀u∈G.kids g,aQ pg 99 [.ag (gCC u)] [] [] (I<|de u) []):aQ pg 99 [.ag (gCC g)] [] [] (I<|r99 g) []:=
 aV 99 zBR
 (an a0<|an a0<|an a0<|an (kbT (H2 g) trivial)<|an (rfl:false=false)<|an a0<|iE<|show r99 g=(jl g<|length g.kids)from rfl) (hk:=(bc (l:=[(0,H2 g)]) uF (aE (QV g ls hK) rfl aP) rfl))
def QW:Code:=bn 0 (aG 104)
def aaf(g:G)(i0:Nat)(y0:Int):Int:=(min (wrap .i64<|y0+(de<|ae g.kids i0)) 2147483647)
def gp(g:G)(kk:Nat):Int:=Nat.rec (motive:=λ_=>Int) 1 (λj a=>aaf g j a) kk
abbrev CO(g:G)(i0:Nat)(y0:Int):Am.Loc:=[(1,.pt 0 0),(3,I y0),(4,I (i0:Int))]
section
variable(g:G)
abbrev QX(i0:Nat):Am.Loc:=CO g i0 (gp g i0)
abbrev CP(i0:Nat):lXE:=[.box 46 (gCC g)]
abbrev KG:Am.Loc:=[(3,I (gp g<|length g.kids))]
abbrev KH:lXE:=[.box 46 (gCC g)]
def CQ:KB:=noK 0 (QX g) (CP g) (.exit 0) (KG g) (KH g) (True)
abbrev QY(i0:Nat):List bG:=[nxW (false) (QX g<|i0+1) (CP g<|i0+1) (CO g (i0+1)<|min (wrap .i64<|(gp g i0)+(de<|ae g.kids i0)) 2147483647) zAT (CP g<|i0+1)]
def Oc(ls:length g.kids<=9223372036854775807)(hK: ∀u∈G.kids g,aQ pg 104 [.ag (gCC u)] [] [] (I<|de u) []):ca pg 22 0 0 (.loop QW) (CQ g):=
 noB (QY g) (λi0=>(.r [.k,bT]<|.yes<|.r [.row (gCC<|ae g.kids i0),.int 0,.int (wrap .i64<|(gp g i0)+(de<|ae g.kids i0)),.val (.int .i64<|min (wrap .i64<|(gp g i0)+(de<|ae g.kids i0)) 2147483647),bT]<|zc i0)) (range 1) zF (length g.kids)
 (λ_ i0(hx0:i0<(length g.kids))=>have l1:=aF gC (g.kids);have hb:(zAz g i0)=true:=afH oaa;
 bq (an (a1 a0)<|an hb<|an (ac (minA (P:=Tryz.prog) (ts:=⟨[3,3]⟩) (ty:=3) (fl:=⟨[false,true]⟩) (wrap .i64<|(gp g i0)+(de<|ae g.kids i0)) 2147483647)<|ac (fD<|wrap .i64<|(gp g i0)+(de<|ae g.kids i0))<|cA (abL<|hK _<|ai hx0) trivial<|ac (gU g.kids i0) a0)<|an (ac (dwo ((i0+1:Nat):Int)) a0)<|lf (wy (QY g i0) 0) 1<|nxP (CO g<|i0+1) (λ_=>CP g<|i0+1) rfl<|show gp g (i0+1)=(min (wrap .i64<|(gp g i0)+(de<|ae g.kids i0)) 2147483647)from rfl)
 oab)
 (λ_=>have l1:=aF gC (g.kids);have hb:(zAF g)=false:=afI oaa;
 bq (an (a1 a0)<|an hb<|lx (.exit 0) (KG g) (range 1) (KH g) 1)
 oab) (hc:=λ_ i0 hx0=>(aK (.cons (abL<|hK _<|ai hx0) rfl bB.nil) aC))
def r104:Int:=(gp g<|length g.kids)
end
def rm:cy [0] (aG 104)=[(0,.loop QW)]:=by kernel_rfl
def aag(g:G)(ls:length g.kids<=9223372036854775807)(hK: ∀u∈G.kids g,aQ pg 104 [.ag (gCC u)] [] [] (I<|de u) []):aQ pg 104 [.ag (gCC g)] [] [] (I<|r104 g) []:=
 aV 104 zBR
 (an a0<|an a0<|an a0<|an (kbT (CQ g) trivial)<|an (rfl:false=false)<|an a0<|iE<|show r104 g=(gp g<|length g.kids)from rfl) (hk:=(bc (l:=[(0,CQ g)]) rm (aE (Oc g ls hK) rfl aP) rfl))
def abR:Code:=bn 0 (aG 94)
abbrev QZ(g:G)(o:Int)(i0:Nat):Am.Loc:=[(1,I8 o),(2,.pf (gCC g)),(5,I (i0:Int))]
abbrev Q0(g:G)(o:Int)(i0:Nat):lXE:=[]
def Bc(g:G)(o:Int)(i0:Nat):Bool:=(eW o<|ae g.kids i0)
def CS(g:G)(o:Int):Bool:=cz (length g.kids) (Bc g o)
abbrev Q1(g:G)(o:Int)(i0:Nat):Am.Loc:=[(4,B true)]
abbrev Q2(g:G)(o:Int)(i0:Nat):lXE:=[]
abbrev Q3(g:G)(o:Int):Am.Loc:=[]
abbrev Q4(g:G)(o:Int):lXE:=[]
section
variable(g:G)(o:Int)
def H3:KB:=anK 0 (length g.kids) (Bc g o) (QZ g o) (Q0 g o) .ret (Q1 g o) (Q2 g o) (.exit 0) (Q3 g o) (Q4 g o) (True)
abbrev Q5(i0:Nat):List bG:=[htW (Bc g o i0) .ret (Q1 g o i0) zI (Q2 g o i0),nxW (Bc g o i0) (QZ g o<|i0+1) (Q0 g o<|i0+1) (QZ g o<|i0+1) zI (Q0 g o<|i0+1)]
def Q6(ls:length g.kids<=9223372036854775807)(hK: ∀u∈G.kids g,aQ pg 94 [.ag (gCC u),I8 o] [] [] (B<|eW o u) []):ca pg 24 0 0 (.loop abR) (H3 g o):=
 anB (Q5 g o) (λi0=>(.r [.k,bT]<|.yes<|.r [.row (gCC<|ae g.kids i0),.int 0,bT]<|.br zB<|zC i0)) (range 0) zF
 (λ_ i0(hx0:i0<(length g.kids))=>have l1:=aF gC (g.kids);have hb:(zAz g i0)=true:=afH oaa;
 bq (an (a1 a0)<|an hb<|an (cA (gd94<|hK _<|ai hx0) trivial<|ac (gU g.kids i0) a0)<|brP (λ(h1:(eW o<|ae g.kids i0)=true)=>(an a0<|lf (wy (Q5 g o i0) 0) 0<|show Bc g o i0=true from h1))<|λh1=>(an (ac (dwo ((i0+1:Nat):Int)) a0)<|lf (wy (Q5 g o i0) 1) 0 ⟨(show Bc g o i0=false from h1),rfl,rfl⟩))
 oab)
 (λ_=>have l1:=aF gC (g.kids);have hb:(zAF g)=false:=afI oaa;
 bq (an (a1 a0)<|an hb<|lx (.exit 0) (Q3 g o) (range 0) (Q4 g o) 0)
 oab) (hc:=λ_ i0 hx0=>(aK (.cons (gd94<|hK _<|ai hx0) rfl bB.nil) aC))
def r94:Bool:=((g.op==o)||(CS g o))
end
def uG:cy [0] (aG 94)=[(0,.loop abR)]:=by kernel_rfl
abbrev zY:GT:=(.r [bT]<|.br .nil zD)
abbrev zAN:GT:=(.r [bT]<|.r [.k,bT]<|.br zD zY)
def aah(g:G)(o:Int)(ls:length g.kids<=9223372036854775807)(hK: ∀u∈G.kids g,aQ pg 94 [.ag (gCC u),I8 o] [] [] (B<|eW o u) []):aQ pg 94 [.ag (gCC g),I8 o] [] [] (B<|r94 g o) []:=
 aV 94 zAN
 (an a0<|an (a1 a0)<|brP (λ(h0:(g.op==o)=true)=>(an a0<|bE<|show r94 g o=true from(orT h0)))<|λh0=>(an a0<|an (kbT (H3 g o) trivial)<|brP (λ(h1:(CS g o)=true)=>(bE<|show r94 g o=true from(orF h0 h1)))<|λh1=>(an a0<|bE<|show r94 g o=false from(orF h0 h1)))) (hk:=(bc (l:=[(0,H3 g o)]) uG (aE (Q6 g o ls hK) rfl aP) rfl))
def Q7:Code:=bn 0 (aG 115)
abbrev zDj(l:List G):=(map gC l)
abbrev H4(l:List G)(i0:Nat):Am.Loc:=[(0,.sl 4 (zDj l)),(3,I (i0:Int))]
abbrev H5(l:List G)(i0:Nat):lXE:=[]
def sS(l:List G)(i0:Nat):Bool:=(!(c9<|ae l i0))
def xR(l:List G):Bool:=cz (length l) (sS l)
abbrev KI(l:List G)(i0:Nat):Am.Loc:=[(2,B false)]
abbrev KJ(l:List G)(i0:Nat):lXE:=[]
abbrev KK(l:List G):Am.Loc:=[]
abbrev KL(l:List G):lXE:=[]
def CT(l:List G):KB:=anK 0 (length l) (sS l) (H4 l) (H5 l) .ret (KI l) (KJ l) (.exit 0) (KK l) (KL l) (True)
abbrev H6(l:List G)(i0:Nat):List bG:=[htW (sS l i0) .ret (KI l i0) zI (KJ l i0),nxW (sS l i0) (H4 l<|i0+1) (H5 l<|i0+1) (H4 l<|i0+1) zI (H5 l<|i0+1)]
abbrev zBu(l:List G):=(decide<|(((length l):Nat):Int)<(length (map gC l):Int))
abbrev zDE(i0:Nat)(l:List G):GT:=(.r [.row (gCC<|ae l i0),.int 0,bT]<|.br zB<|zC i0)
abbrev zDG(i0:Nat)(l:List G):=(decide<|(i0:Int)<(length (map gC l):Int))
def Od(l:List G)(ls:length l<=9223372036854775807)(hK: ∀u∈l,aQ pg 105 [.ag (gCC u)] [] [] (B<|c9 u) []):ca pg 16 0 0 (.loop Q7) (CT l):=
 anB (H6 l) (λi0=>(.r [.k,bT]<|.yes<|zDE i0 l)) (range 0) zF
 (λ_ i0(hx0:i0<(length l))=>have l1:=aF gC (l);have hb:(zDG i0 l)=true:=afH oaa;
 bq (an (a1 a0)<|an hb<|an (cA (abM<|hK _<|ai hx0) trivial<|ac (gU l i0) a0)<|brP (λ(h1:(!(c9<|ae l i0))=true)=>(an a0<|lf (wy (H6 l i0) 0) 0<|show sS l i0=true from h1))<|λh1=>(an (ac (dwo ((i0+1:Nat):Int)) a0)<|lf (wy (H6 l i0) 1) 0 ⟨(show sS l i0=false from h1),rfl,rfl⟩))
 oab)
 (λ_=>have l1:=aF gC (l);have hb:(zBu l)=false:=afI oaa;
 bq (an (a1 a0)<|an hb<|lx (.exit 0) (KK l) (range 0) (KL l) 0)
 oab) (hc:=λ_ i0 hx0=>(aK (.cons (abM<|hK _<|ai hx0) rfl bB.nil) aC))
def Q8(l:List G):Bool:=(!(xR l))
def rn:cy [0] (aG 115)=[(0,.loop Q7)]:=by kernel_rfl
abbrev zBS:GT:=(.r [bT] zY)
def CU(l:List G)(ls:length l<=9223372036854775807)(hK: ∀u∈l,aQ pg 105 [.ag (gCC u)] [] [] (B<|c9 u) []):aQ pg 115 [.sl 4 (zDj l)] [] [] (B<|Q8 l) []:=
 aV 115 zBS
 (an a0<|an a0<|an (kbT (CT l) trivial)<|brP (λ(h0:(xR l)=true)=>(bE<|show Q8 l=false from(bQ h0)))<|λh0=>(an a0<|bE<|show Q8 l=true from(ak h0))) (hk:=(bc (l:=[(0,CT l)]) rn (aE (Od l ls hK) rfl aP) rfl))
theorem xS(g:G): ∀(l:List G)(a:Int),iL (l++ [g]) a=min (iL l a+de g) 2147483647
 |[],a=>by simp[iL]
 |x::l,a=>by simp only[agC,iL,xS g l]
theorem sT: ∀(l:List G)(a:Int),(∀u∈l,1<=de u)->1<=a->a<=2147483647->1<=iL l a/\iL l a<=2147483647
 |[],a,_,h0,h1=>by simp only[iL];exact⟨h0,h1⟩
 |x::l,a,h,h0,h1=>by have:=h x oaf;simp only[iL];exact sT l _ (λu hu=>h u<|by simp[hu]) oaa oaa
def FN: ∀g:G,1<=de g/\de g<=2147483647:=G.xN (by grind[de,sT])
def Be(l:List G)(ac:Nat->Int)(h0:ac 0=1)(h1: ∀i,ac (i+1)=min (wrap .i64<|ac i+de (ae l i)) 2147483647):ac l.length=iL l 1:=by
 have key: ∀k,k<=l.length->ac k=iL (l.take k) 1:=by
  intro k;induction k with
  |zero=>intro _;rw[h0];simp[iL]
  |succ k ih=>intro hk;have hb:=sT (l.take k) 1 (λu _=>(FN u).1) oaa oaa;have hg:=FN (ae l k);rw[h1,ih oaa,fg oaa,xS,wrap_i64 oaa oaa]
 rw[key l.length (afG _),agv]
theorem H7: ∀g:G,dh g->aQ pg 99 [.ag (gCC g)] [] [] (I<|de g) []:=G.xN λo n s l ih hf=>by
 have h:=adn (.mk o n s l) hf.len λu hu=>ih u hu (hf.kids u hu);have e:r99 (.mk o n s l)=de (.mk o n s l):=by simp only[de];exact Be l (jl<|.mk o n s l) rfl λi=>rfl
 rw[<-e];exact h
theorem FO: ∀g:G,dh g->aQ pg 104 [.ag (gCC g)] [] [] (I<|de g) []:=G.xN λo n s l ih hf=>by
 have h:=aag (.mk o n s l) hf.len λu hu=>ih u hu (hf.kids u hu);have e:r104 (.mk o n s l)=de (.mk o n s l):=by simp only[de];exact Be l (gp<|.mk o n s l) rfl λi=>rfl
 rw[<-e];exact h
def FP(o:Int): ∀g:G,dh g->aQ pg 94 [.ag (gCC g),I8 o] [] [] (B<|eW o g) []:=G.xN λo' n s l ih hf=>by
 have h:=aah (.mk o' n s l) o hf.len λu hu=>ih u hu (hf.kids u hu);have e:r94 (.mk o' n s l) o=eW o (.mk o' n s l):=by have:CS (.mk o' n s l) o=l.any (eW o):=jI (eW o) l;simp only[r94,eW,xM,this];rfl
 rw[<-e];exact h
theorem all_eq(l:List G):Q8 l=jV l:=by have:xR l=l.any λg=> !c9 g:=jI (λg=> !c9 g) l;grind[FL,Q8]
def i115(l:List G):bC:=⟨115,[.sl 4 (l.map gC)],B (jV l),True⟩
def KM{l:List G}(h:aQ pg 115 [.sl 4 (l.map gC)] [] [] (B<|jV l) []):(i115 l).bu pg:=λ_=>⟨h,by simp[i115,aq,AV.pure],rfl⟩
def pT(g:G):Bool:=(!(!(cp (Array.toList<|ByteArray.data g.name) []))&&(bif g.n !=0 then(!(g.op !=8)&&(((length (map gC g.kids):Int)==0)&&((decide<|g.n<1000000000000000000)&&decide (g.n>(-1000000000000000000)))))else(bif g.op==0 then(length (map gC g.kids):Int)==0 else(bif g.op==1 then(length (map gC g.kids):Int)==0 else(bif g.op==8 then(((length (map gC g.kids):Int)==0)&&((decide<|g.n<1000000000000000000)&&decide (g.n>(-1000000000000000000))))else(bif g.op==2 then(((length (map gC g.kids):Int)==1)&&jV g.kids)else(bif g.op==3 then((decide<|(length (map gC g.kids):Int)>=2)&&jV g.kids)else(bif g.op==4 then((decide<|(length (map gC g.kids):Int)>=2)&&jV g.kids)else(bif g.op==5 then(((length (map gC g.kids):Int)==2)&&((eV<|ae g.kids 0)&&eV (ae g.kids 1)))else(bif g.op==6 then(((length (map gC g.kids):Int)==2)&&((eV<|ae g.kids 0)&&eV (ae g.kids 1)))else((g.op==7)&&(((length (map gC g.kids):Int)==2)&&((eV<|ae g.kids 0)&&eV (ae g.kids 1))))))))))))))
abbrev zBh:List Gi:=(.k::uFF 10 [bT])
abbrev zZ(g:G):GT:=(.a (.a (.r [.k,bT,bT,bT,.row (gCC<|ae g.kids 0),bT,bT,.int 1,bT,bT,bT,.row (gCC<|ae g.kids 1),bT,bT,.int 2,bT] .nil)<|.r (.k::bT::bT::bT::.row (gCC<|ae g.kids 0)::bT::bT::.int 1::uFF 5 [bT]) .nil)<|.r zBh .nil)
abbrev zu:List Gi:=(.k::uFF 8 [bT])
abbrev zAW(g:G):=((length (map gC g.kids):Int)==0)
abbrev zBA(g:G):=((length (map gC g.kids):Int)==2)
abbrev zBP:GT:=(.r [.k,bT] .nil)
abbrev zBj(g:G):=(decide<|(length (map gC g.kids):Int)>=2)
abbrev zDX:List Gi:=(.k::bT::bT::bT::.k::uTT 4 [.k,bT,bT])
abbrev zDn:List Gi:=[.k,bT,bT,bT,.k,bT,bF,bF,bF,bT,bT]
def aai(g:G)(ls:length g.kids<=9223372036854775807)(hf: ∀k∈G.kids g,dh k)(hK: ∀u∈G.kids g,aQ pg 105 [.ag (gCC u)] [] [] (B<|c9 u) []):aQ pg 105 [.ag (gCC g)] [] [] (B<|pT g) []:=
 aV 105 (.r [bT]<|.a (.r zu zD)<|.a (.r zDX<|.br zD<|.r [bT]<|.r [.k,bT]<|.no<|.r [.k,bT]<|.no<|.r [.k,bT]<|.yes zV)<|.r zDn<|.r [bT]<|.r [.k,bT]<|.br zBP<|.r [.k,bT]<|.br zBP<|.r [.k,bT]<|.br zV<|.r [.k,bT]<|.br zAE<|.r [.k,bT]<|.br zAE<|.r [.k,bT]<|.br zAE<|.r [.k,bT]<|.br (zZ g)<|.r [.k,bT]<|.br (zZ g)<|.r [.k,bT]<|.br (zZ g) zD)
 (an a0<|aO (λ(h0:(!(cp (Array.toList<|ByteArray.data g.name) []))=true)=>(an (aN 7<|ac (n2 h0)<|a1 a0)<|an a0<|bE<|show pT g=false from(aT<|bQ h0)))<|λh0=>have q0:=(ay (ak h0) rfl:pT g=_);
 (aO (λ(h1:(g.n !=0)=true)=>have q1:=q0.trans (cdT h1 rfl);
 (an (aN 4<|ac h1<|aN 4<|ac (ak h0)<|a1 a0)<|brP (λ(h2:(g.op !=8)=true)=>(an a0<|bE<|q1.trans<|aT<|bQ h2))<|λh2=>have q3:=q1.trans (ay (ak h2) rfl);
 (an a0<|an (a1 a0)<|an (show(g.op==0)=false by rw[cE h2];rfl)<|an (a1 a0)<|an (show(g.op==1)=false by rw[cE h2];rfl)<|an (a1 a0)<|an (show(g.op==8)=true by rw[cE h2];rfl)<|aO (λ(h3:(zAW g)=true)=>(aO (λ(h4:(zCR g)=true)=>(an (aN 3<|ac h4<|aN 3<|ac h3<|a1 a0)<|bE<|show pT g=(zCG g)from(ay (ak h0)<|cdT h1<|ay (ak h2)<|ay h3<|ay h4 rfl)))<|λh4=>(an (aN 2<|ac (ak h4)<|aN 3<|ac h3<|a1 a0)<|bE<|q3.trans<|ay h3<|aT h4)))<|λh3=>(an (aN 5<|ac (ak h3)<|a1 a0)<|bE<|q3.trans<|aT h3))))<|λh1=>have q2:=q0.trans (cdF h1 rfl);have g1:=cE h1;
 (an (aN 3<|ac (ak h1)<|aN 4<|ac (ak h0)<|a1 a0)<|an a0<|an (a1 a0)<|brP (λ(h2:(g.op==0)=true)=>(an (a1 a0)<|bE<|show pT g=(zAW g)from(ay (ak h0)<|cdF h1<|cdT h2 rfl)))<|λh2=>have q4:=q2.trans (cdF h2 rfl);have g2:=afT h2;
 (an (a1 a0)<|brP (λ(h3:(g.op==1)=true)=>(an (a1 a0)<|bE<|show pT g=(zAW g)from(ay (ak h0)<|cdF h1<|cdF h2<|cdT h3 rfl)))<|λh3=>have q5:=q4.trans (cdF h3 rfl);have g3:=afT h3;
 (an (a1 a0)<|brP (λ(h4:(g.op==8)=true)=>have q6:=q5.trans (cdT h4 rfl);
 (aO (λ(h5:(zAW g)=true)=>(aO (λ(h6:(zCR g)=true)=>(an (aN 3<|ac h6<|aN 3<|ac h5<|a1 a0)<|bE<|show pT g=(zCG g)from(ay (ak h0)<|cdF h1<|cdF h2<|cdF h3<|cdT h4<|ay h5<|ay h6 rfl)))<|λh6=>(an (aN 2<|ac (ak h6)<|aN 3<|ac h5<|a1 a0)<|bE<|q6.trans<|ay h5<|aT h6)))<|λh5=>(an (aN 5<|ac (ak h5)<|a1 a0)<|bE<|q6.trans<|aT h5)))<|λh4=>have q7:=q5.trans (cdF h4 rfl);have g4:=afT h4;
 (an (a1 a0)<|brP (λ(h5:(g.op==2)=true)=>(aO (λ(h6:((length (map gC g.kids):Int)==1)=true)=>(an (cA (KM oar) trivial<|aN 2<|ac h6<|a1 a0)<|bE<|show pT g=(jV g.kids)from(ay (ak h0)<|cdF h1<|cdF h2<|cdF h3<|cdF h4<|cdT h5<|ay h6 rfl)))<|λh6=>(an (aN 2<|ac (ak h6)<|a1 a0)<|bE<|q7.trans<|cdT h5<|aT h6)))<|λh5=>have q8:=q7.trans (cdF h5 rfl);have g5:=afT h5;
 (an (a1 a0)<|brP (λ(h6:(g.op==3)=true)=>(aO (λ(h7:(zBj g)=true)=>(an (cA (KM oar) trivial<|aN 2<|ac h7<|a1 a0)<|bE<|show pT g=(jV g.kids)from(ay (ak h0)<|cdF h1<|cdF h2<|cdF h3<|cdF h4<|cdF h5<|cdT h6<|ay h7 rfl)))<|λh7=>(an (aN 2<|ac (ak h7)<|a1 a0)<|bE<|q8.trans<|cdT h6<|aT h7)))<|λh6=>have q9:=q8.trans (cdF h6 rfl);have g6:=afT h6;
 (an (a1 a0)<|brP (λ(h7:(g.op==4)=true)=>(aO (λ(h8:(zBj g)=true)=>(an (cA (KM oar) trivial<|aN 2<|ac h8<|a1 a0)<|bE<|show pT g=(jV g.kids)from(ay (ak h0)<|cdF h1<|cdF h2<|cdF h3<|cdF h4<|cdF h5<|cdF h6<|cdT h7<|ay h8 rfl)))<|λh8=>(an (aN 2<|ac (ak h8)<|a1 a0)<|bE<|q9.trans<|cdT h7<|aT h8)))<|λh7=>have q10:=q9.trans (cdF h7 rfl);have g7:=afT h7;
 (an (a1 a0)<|brP (λ(h8:(g.op==5)=true)=>have q11:=q10.trans (cdT h8 rfl);have g8:=eq_of_beq h8;
 (aO (λ(h9:(zBA g)=true)=>have l1:=aF gC (g.kids);have g9:=eq_of_beq h9;
 (aO (λ(h10:(eV<|ae g.kids 0)=true)=>(an (cA (xQ<|ae g.kids 1) (hf _<|ai oaa)<|aN 2<|ac (gU g.kids 1)<|aN 2<|ac h10<|cA (xQ<|ae g.kids 0) (hf _<|ai oaa)<|aN 2<|ac (gU g.kids 0)<|aN 2<|ac h9<|a1 a0)<|bE<|show pT g=(eV<|ae g.kids 1)from(ay (ak h0)<|cdF h1<|cdF h2<|cdF h3<|cdF h4<|cdF h5<|cdF h6<|cdF h7<|cdT h8<|ay h9<|ay h10 rfl)))<|λh10=>(an (aN 4<|ac (ak h10)<|cA (xQ<|ae g.kids 0) (hf _<|ai oaa)<|aN 2<|ac (gU g.kids 0)<|aN 2<|ac h9<|a1 a0)<|bE<|q11.trans<|ay h9<|aT h10)))<|λh9=>(an (aN 9<|ac (ak h9)<|a1 a0)<|bE<|q11.trans<|aT h9)))<|λh8=>have q12:=q10.trans (cdF h8 rfl);have g8:=afT h8;
 (an (a1 a0)<|brP (λ(h9:(g.op==6)=true)=>have q13:=q12.trans (cdT h9 rfl);have g9:=eq_of_beq h9;
 (aO (λ(h10:(zBA g)=true)=>have l1:=aF gC (g.kids);have g10:=eq_of_beq h10;
 (aO (λ(h11:(eV<|ae g.kids 0)=true)=>(an (cA (xQ<|ae g.kids 1) (hf _<|ai oaa)<|aN 2<|ac (gU g.kids 1)<|aN 2<|ac h11<|cA (xQ<|ae g.kids 0) (hf _<|ai oaa)<|aN 2<|ac (gU g.kids 0)<|aN 2<|ac h10<|a1 a0)<|bE<|show pT g=(eV<|ae g.kids 1)from(ay (ak h0)<|cdF h1<|cdF h2<|cdF h3<|cdF h4<|cdF h5<|cdF h6<|cdF h7<|cdF h8<|cdT h9<|ay h10<|ay h11 rfl)))<|λh11=>(an (aN 4<|ac (ak h11)<|cA (xQ<|ae g.kids 0) (hf _<|ai oaa)<|aN 2<|ac (gU g.kids 0)<|aN 2<|ac h10<|a1 a0)<|bE<|q13.trans<|ay h10<|aT h11)))<|λh10=>(an (aN 9<|ac (ak h10)<|a1 a0)<|bE<|q13.trans<|aT h10)))<|λh9=>have q14:=q12.trans (cdF h9 rfl);have g9:=afT h9;
 (an (a1 a0)<|brP (λ(h10:(g.op==7)=true)=>have q15:=q14.trans (ay h10 rfl);have g10:=eq_of_beq h10;
 (aO (λ(h11:(zBA g)=true)=>have l1:=aF gC (g.kids);have g11:=eq_of_beq h11;
 (aO (λ(h12:(eV<|ae g.kids 0)=true)=>(an (cA (xQ<|ae g.kids 1) (hf _<|ai oaa)<|aN 2<|ac (gU g.kids 1)<|aN 2<|ac h12<|cA (xQ<|ae g.kids 0) (hf _<|ai oaa)<|aN 2<|ac (gU g.kids 0)<|aN 2<|ac h11<|a1 a0)<|bE<|show pT g=(eV<|ae g.kids 1)from(ay (ak h0)<|cdF h1<|cdF h2<|cdF h3<|cdF h4<|cdF h5<|cdF h6<|cdF h7<|cdF h8<|cdF h9<|ay h10<|ay h11<|ay h12 rfl)))<|λh12=>(an (aN 4<|ac (ak h12)<|cA (xQ<|ae g.kids 0) (hf _<|ai oaa)<|aN 2<|ac (gU g.kids 0)<|aN 2<|ac h11<|a1 a0)<|bE<|q15.trans<|ay h11<|aT h12)))<|λh11=>(an (aN 9<|ac (ak h11)<|a1 a0)<|bE<|q15.trans<|aT h11)))<|λh10=>(an a0<|bE<|q14.trans<|aT h10)))))))))))) (hc:=(aK (.cons (KM oar) rfl<|.cons (xQ<|ae g.kids 0) rfl<|.cons (xQ<|ae g.kids 1) rfl bB.nil) aC))
def r111(g:G):Bool:= !(c9 g)
abbrev zDH:GT:=(.r [bT]<|.r [.int 0,bT] .nil)
def Q9(g:G)(hK:aQ pg 100 [.ag (gCC g)] [] [] (B<|c9 g) []):aQ pg 111 [.ag (gCC g)] [] [] (B<|r111 g) []:=
 aV 111 zDH
 (an a0<|an (cA (abN hK) trivial a0)<|bE<|show r111 g=(!(c9 g))from rfl) (hc:=(aK (.cons (abN hK) rfl bB.nil) aC))
def abS(l:List G)(j:Nat):bC:=⟨111,[.ag (gCC<|ae l j)],B (!c9 (ae l j)),j<l.length⟩
def KN(l:List G)(j:Nat)(hK: ∀u∈l,aQ pg 100 [.ag (gCC u)] [] [] (B<|c9 u) []):(abS l j).bu pg:=λhp=>⟨Q9 _ (hK _<|ai hp),by simp[abS,aq,AV.pure],rfl⟩
def Ra:Code:=bn 0 (aG 114)
abbrev H8(l:List G)(i0:Nat):Am.Loc:=[(0,.sl 4 (zDj l)),(1,.fn (.func 111) [] []),(7,I (length (zDj l):Int)),(8,I (i0:Int))]
abbrev H9(l:List G)(i0:Nat):lXE:=[]
def pU(l:List G)(i0:Nat):Bool:=(!(c9<|ae l i0))
def xT(l:List G):Bool:=cz (length l) (pU l)
abbrev KO(l:List G)(i0:Nat):Am.Loc:=[(4,I (i0:Int))]
abbrev KP(l:List G)(i0:Nat):lXE:=[]
abbrev KQ(l:List G):Am.Loc:=[]
abbrev KR(l:List G):lXE:=[]
section
variable(l:List G)
def CV:KB:=anK 0 (length l) (pU l) (H8 l) (H9 l) .ret (KO l) (KP l) (.exit 0) (KQ l) (KR l) (True)
abbrev Ia(i0:Nat):List bG:=[htW (pU l i0) .ret (KO l i0) zI (KP l i0),nxW (pU l i0) (H8 l<|i0+1) (H9 l<|i0+1) (H8 l<|i0+1) zI (H9 l<|i0+1)]
theorem Oe(ls:length l<=9223372036854775807)(hK: ∀u∈l,aQ pg 100 [.ag (gCC u)] [] [] (B<|c9 u) []):ca pg 19 0 0 (.loop Ra) (CV l):=
 anB (Ia l) (λi0=>(.r [.k,bT]<|.yes<|.r [bT]<|zDE i0 l)) (range 0) zF
 (λ_ i0(hx0:i0<(length l))=>have l1:=aF gC (l);have hb:(zDG i0 l)=true:=afH oaa;
 bq (an (a1 a0)<|an hb<|an a0<|an (cA (KN l i0 hK) (show i0<length l by omega)<|ac (gU l i0) a0)<|brP (λ(h1:(!(c9<|ae l i0))=true)=>(an a0<|lf (wy (Ia l i0) 0) 0<|show pU l i0=true from h1))<|λh1=>(an (ac (dwo ((i0+1:Nat):Int)) a0)<|lf (wy (Ia l i0) 1) 0 ⟨(show pU l i0=false from h1),rfl,rfl⟩))
 oab)
 (λ_=>have l1:=aF gC (l);have hb:(zBu l)=false:=afI oaa;
 bq (an (a1 a0)<|an hb<|lx (.exit 0) (KQ l) (range 0) (KR l) 0)
 oab) (hc:=λ_ i0 hx0=>(aK (.cons (KN l i0 hK) rfl bB.nil) aC))
def FQ:Int:=(bif xT l then(((gQ (length l)<|pU l):Nat):Int)else(-1))
end
def rp:cy [0] (aG 114)=[(0,.loop Ra)]:=by kernel_rfl
def Rb(l:List G)(ls:length l<=9223372036854775807)(hK: ∀u∈l,aQ pg 100 [.ag (gCC u)] [] [] (B<|c9 u) []):aQ pg 114 [.sl 4 (zDj l),.fn (.func 111) [] []] [] [] (I<|FQ l) []:=
 aV 114 zBS
 (an a0<|an a0<|an (kbT (CV l) trivial)<|brP (λ(h0:(xT l)=true)=>(iE<|show FQ l=_ from(cdT h0 rfl)))<|λh0=>(an a0<|iE<|show FQ l=_ from(cdF h0 rfl))) (hk:=(bc (l:=[(0,CV l)]) rp (aE (Oe l ls hK) rfl aP) rfl))
def i114(l:List G):bC:=⟨114,[.sl 4 (l.map gC),.fn (.func 111) [] []],I (FQ l),True⟩
def abT{l:List G}(h:aQ pg 114 [.sl 4 (l.map gC),.fn (.func 111) [] []] [] [] (I<|FQ l) []):(i114 l).bu pg:=λ_=>⟨h,by simp[i114,aq,AV.pure],rfl⟩
def r101(l:List G):Bool:=decide ((FQ l)>=0)
abbrev zCC:GT:=(.r [bT]<|.r [.int 0,.k,bT] .nil)
def FR(l:List G)(ls:length l<=9223372036854775807)(hK: ∀u∈l,aQ pg 100 [.ag (gCC u)] [] [] (B<|c9 u) []):aQ pg 101 [.sl 4 (zDj l),.fn (.func 111) [] []] [] [] (B<|r101 l) []:=
 aV 101 zCC
 (an a0<|an (a1<|cA (abT<|Rb l ls hK) trivial a0)<|bE<|show r101 l=(decide<|(FQ l)>=0)from rfl) (hc:=(aK (.cons (abT<|Rb l ls hK) rfl bB.nil) aC))
theorem aaj(l:List G):r101 l= !(jV l):=by have h2:xT l=l.any λg=> !c9 g:=jI (λg=> !c9 g) l;grind[FL,r101,FQ]
def i101(l:List G):bC:=⟨101,[.sl 4 (l.map gC),.fn (.func 111) [] []],B (!(jV l)),True⟩
def Rc{l:List G}(ls:l.length<=9223372036854775807)(hK: ∀u∈l,aQ pg 100 [.ag (gCC u)] [] [] (B<|c9 u) []):(i101 l).bu pg:=λ_=>⟨by have:=FR l ls hK;rw[aaj]at this;exact this,by simp[i101,aq,AV.pure],rfl⟩
def ado(op:Int)(h: ¬(5<=op/\op<=7))(h2:op<=127):aQ pg 112 [I8 op] [] [] (.v .nilFunc) []:=by
 have go: ∀(gd:List Gi){ok:lXB},qO Tryz.prog Tryz.f112.results.toList 0 (runK Tryz.prog 15 base c7 3000 (kbL []) (aG 112) (mq 0 [I8 op] .e) .e 0 ⟨0,gd,[]⟩)=some (.v .nilFunc,[],ok)->cr ok=true->aQ pg 112 [I8 op] [] [] (.v .nilFunc) []:=λgd ok k hok=>CD (fn:=Tryz.f112) (pu:=c7) (lf:=3000) (l:=[]) aC mixed Tryz.func112 oab (show Tryz.f112.body=some (aG 112) by kernel_rfl) (nbl rfl) (bt _) k hok rfl;by_cases h0:op<0
 ·exact go [bT,bF,bF,bF,bT,bT] oab (a1<|a1<|a1<|a1<|ac (afH h0) a0)
 ·by_cases h8:8<=op
  ·have hw:wrap .i64 op=op:=wrap_i64 oaa oaa;exact go (bF::uTT 6 []) oab (a1<|ac (show(decide<|wrap .i64 op>=8)=true by rw[hw];exact afH h8)<|a1<|a1<|a1<|ac (ak<|afI h0) a0)
  ·have:op=0\/op=1\/op=2\/op=3\/op=4:=by omega
   rcases this with rfl|rfl|rfl|rfl|rfl
   ·exact go [] oab a0
   ·exact go [] oab a0
   ·exact go [] oab a0
   ·exact go [] oab a0
   ·exact go [] oab a0
def Re:aQ pg 112 [I8 5] [] [] (.fn (.func 122) [] []) []:=CD (fn:=Tryz.f112) (pu:=c7) (lf:=3000) (l:=[]) (gd:=[]) aC mixed Tryz.func112 oab oaI (nbl rfl) (bt _) oaI rfl rfl
def adp(op:Int):bC:=⟨112,[I8 op],.fn (.func 122) [] [],op=5⟩
def CW(op:Int):(adp op).bu pg:=λhp=>⟨by have:op=5:=hp;subst this;exact Re,rfl,rfl⟩
def Rf:aQ pg 112 [I8 6] [] [] (.fn (.func 123) [] []) []:=CD (fn:=Tryz.f112) (pu:=c7) (lf:=3000) (l:=[]) (gd:=[]) aC mixed Tryz.func112 oab oaI (nbl rfl) (bt _) oaI rfl rfl
def adq(op:Int):bC:=⟨112,[I8 op],.fn (.func 123) [] [],op=6⟩
def CX(op:Int):(adq op).bu pg:=λhp=>⟨by have:op=6:=hp;subst this;exact Rf,rfl,rfl⟩
def Rg:aQ pg 112 [I8 7] [] [] (.fn (.func 124) [] []) []:=CD (fn:=Tryz.f112) (pu:=c7) (lf:=3000) (l:=[]) (gd:=[]) aC mixed Tryz.func112 oab oaI (nbl rfl) (bt _) oaI rfl rfl
section
variable(op:Int)
def adr:bC:=⟨112,[I8 op],.fn (.func 124) [] [],op=7⟩
theorem CY:(adr op).bu pg:=λhp=>⟨by have:op=7:=hp;subst this;exact Rg,rfl,rfl⟩
def ads:bC:=⟨112,[I8 op],.v .nilFunc,¬(5<=op/\op<=7)/\op<=127⟩
def Rh:(ads op).bu pg:=λhp=>⟨ado op hp.1 hp.2,rfl,rfl⟩
end
def rq(g:G):Bool:=(!(!(cp (Array.toList<|ByteArray.data g.name) []))&&(bif g.op !=8 then(!(g.n !=0)&&(bif g.op==0 then(length (map gC g.kids):Int)==0 else(bif g.op==1 then(length (map gC g.kids):Int)==0 else(bif g.op==2 then(((length (map gC g.kids):Int)==1)&& !(!(c9<|ae g.kids 0)))else(bif g.op==3 then((decide<|(length (map gC g.kids):Int)>=2)&& !(!(jV g.kids)))else(bif g.op==4 then((decide<|(length (map gC g.kids):Int)>=2)&& !(!(jV g.kids)))else(bif g.op==5 then(((length (map gC g.kids):Int)==2)&&((eV<|ae g.kids 0)&&eV (ae g.kids 1)))else(bif g.op==6 then(((length (map gC g.kids):Int)==2)&&((eV<|ae g.kids 0)&&eV (ae g.kids 1)))else((g.op==7)&&(((length (map gC g.kids):Int)==2)&&((eV<|ae g.kids 0)&&eV (ae g.kids 1))))))))))))else(((length (map gC g.kids):Int)==0)&&((decide<|g.n<1000000000000000000)&&decide (g.n>(-1000000000000000000))))))
abbrev zDA:GT:=(.a (.r (.k::uTT 4 [.int 1,bT,bT]) .nil)<|.r zBq .nil)
def aak(g:G)(ls:length g.kids<=9223372036854775807)(hf: ∀k∈G.kids g,dh k)(ho:G.op g<=127)(hK: ∀u∈G.kids g,aQ pg 100 [.ag (gCC u)] [] [] (B<|c9 u) []):aQ pg 100 [.ag (gCC g)] [] [] (B<|rq g) []:=
 aV 100 (.r [bT]<|.a (.r zu zD)<|.a (.r zDX<|.br zD<|.r [bT]<|.r [bT]<|.a (.r zAm zBP)<|.r zAJ<|.br zBP<|.r [.k,bT]<|.no<|.r [.k,bT]<|.br (.a (.r (.k::uTT 4 [.row (gCC<|ae g.kids 0),bT,bT,.int 0,bT,bT]) .nil)<|.r (.k::uFF 7 [bT]) .nil)<|.a (.r zAm zDA)<|.r zAJ<|.br zDA<|.a (.a (.a (.r (.int 2::.k::uTT 4 [.k,bT,bT,bT,.row (gCC<|ae g.kids 0),bT,bT,.int 3,bT,bT,bT,.row (gCC<|ae g.kids 1),bT,bT,.int 4,bT]) .nil)<|.r (.int 2::.k::uTT 4 (.k::bT::bT::bT::.row (gCC<|ae g.kids 0)::bT::bT::.int 3::uFF 5 [bT])) .nil)<|.r (.int 2::.k::uTT 4 (.k::uFF 10 [bT])) .nil)<|.a (.a (.a (.r (.int 5::.k::uTT 4 [.k,bT,bT,bT,.row (gCC<|ae g.kids 0),bT,bT,.int 3,bT,bT,bT,.row (gCC<|ae g.kids 1),bT,bT,.int 4,bT]) .nil)<|.r (.int 5::.k::uTT 4 (.k::bT::bT::bT::.row (gCC<|ae g.kids 0)::bT::bT::.int 3::uFF 5 [bT])) .nil)<|.r (.int 5::.k::uTT 4 (.k::uFF 10 [bT])) .nil)<|.a (.a (.a (.r (.int 6::.k::uTT 4 [.k,bT,bT,bT,.row (gCC<|ae g.kids 0),bT,bT,.int 3,bT,bT,bT,.row (gCC<|ae g.kids 1),bT,bT,.int 4,bT]) .nil)<|.r (.int 6::.k::uTT 4 (.k::bT::bT::bT::.row (gCC<|ae g.kids 0)::bT::bT::.int 3::uFF 5 [bT])) .nil)<|.r (.int 6::.k::uTT 4 (.k::uFF 10 [bT])) .nil)<|.r (.int 7::.k::uFF 14 [bT]) .nil)<|.r zDn<|.r [bT]<|.r [bT]<|.r zAJ<|.no<|.r [.k,bT]<|.yes zV)
 (an a0<|aO (λ(h0:(!(cp (Array.toList<|ByteArray.data g.name) []))=true)=>(an (aN 7<|ac (n2 h0)<|a1 a0)<|an a0<|bE<|show rq g=false from(aT<|bQ h0)))<|λh0=>have q0:=(ay (ak h0) rfl:rq g=_);
 (aO (λ(h1:(g.op !=8)=true)=>have q1:=q0.trans (cdT h1 rfl);have g1:=HJ h1;
 (an (aN 4<|ac h1<|aN 4<|ac (ak h0)<|a1 a0)<|brP (λ(h2:(g.n !=0)=true)=>(an a0<|bE<|q1.trans<|aT<|bQ h2))<|λh2=>have q3:=q1.trans (ay (ak h2) rfl);have g2:=cE h2;
 (an a0<|an a0<|aO (λ(h3:(g.op==0)=true)=>(an (aN 2<|ac (n2 h3)<|a1 a0)<|an (a1 a0)<|bE<|show rq g=(zAW g)from(ay (ak h0)<|cdT h1<|ay (ak h2)<|cdT h3 rfl)))<|λh3=>have q4:=q3.trans (cdF h3 rfl);have g3:=afT h3;
 (an (aN 3<|ac (ak h3)<|a1 a0)<|brP (λ(h4:(g.op==1)=true)=>(an (a1 a0)<|bE<|show rq g=(zAW g)from(ay (ak h0)<|cdT h1<|ay (ak h2)<|cdF h3<|cdT h4 rfl)))<|λh4=>have q5:=q4.trans (cdF h4 rfl);have g4:=afT h4;
 (an (a1 a0)<|an (show(g.op==8)=false by simpa using h1)<|an (a1 a0)<|brP (λ(h5:(g.op==2)=true)=>have g5:=eq_of_beq h5;
 (aO (λ(h6:((length (map gC g.kids):Int)==1)=true)=>have l1:=aF gC (g.kids);have g6:=eq_of_beq h6;
 (an (a1<|cA (KN g.kids 0 hK) (show 0<length g.kids by omega)<|aN 2<|ac (gU g.kids 0)<|aN 3<|ac h6<|a1 a0)<|bE<|show rq g=(!(!(c9<|ae g.kids 0)))from(ay (ak h0)<|cdT h1<|ay (ak h2)<|cdF h3<|cdF h4<|cdT h5<|ay h6 rfl)))<|λh6=>(an (aN 6<|ac (ak h6)<|a1 a0)<|bE<|q5.trans<|cdT h5<|aT h6)))<|λh5=>have q6:=q5.trans (cdF h5 rfl);have g5:=afT h5;
 (aO (λ(h6:(g.op==3)=true)=>(an (aN 2<|ac (n2 h6)<|a1 a0)<|aO (λ(h7:(zBj g)=true)=>(an (a1<|cA (Rc ls hK) trivial<|aN 3<|ac h7<|a1 a0)<|bE<|show rq g=(!(!(jV g.kids)))from(ay (ak h0)<|cdT h1<|ay (ak h2)<|cdF h3<|cdF h4<|cdF h5<|cdT h6<|ay h7 rfl)))<|λh7=>(an (aN 4<|ac (ak h7)<|a1 a0)<|bE<|q6.trans<|cdT h6<|aT h7)))<|λh6=>have q7:=q6.trans (cdF h6 rfl);have g6:=afT h6;
 (an (aN 3<|ac (ak h6)<|a1 a0)<|brP (λ(h7:(g.op==4)=true)=>(aO (λ(h8:(zBj g)=true)=>(an (a1<|cA (Rc ls hK) trivial<|aN 3<|ac h8<|a1 a0)<|bE<|show rq g=(!(!(jV g.kids)))from(ay (ak h0)<|cdT h1<|ay (ak h2)<|cdF h3<|cdF h4<|cdF h5<|cdF h6<|cdT h7<|ay h8 rfl)))<|λh8=>(an (aN 4<|ac (ak h8)<|a1 a0)<|bE<|q7.trans<|cdT h7<|aT h8)))<|λh7=>have q8:=q7.trans (cdF h7 rfl);have g7:=afT h7;
 (aO (λ(h8:(g.op==5)=true)=>have q9:=q8.trans (cdT h8 rfl);have g8:=eq_of_beq h8;
 (aO (λ(h9:(zBA g)=true)=>have l1:=aF gC (g.kids);have g9:=eq_of_beq h9;
 (aO (λ(h10:(eV<|ae g.kids 0)=true)=>(an (cA (xP<|ae g.kids 1) (hf _<|ai oaa)<|aN 2<|ac (gU g.kids 1)<|aN 2<|ac h10<|cA (xP<|ae g.kids 0) (hf _<|ai oaa)<|aN 2<|ac (gU g.kids 0)<|aN 2<|ac h9<|aN 6<|cA (CW g.op) (show g.op=5 by omega) a0)<|bE<|show rq g=(eV<|ae g.kids 1)from(ay (ak h0)<|cdT h1<|ay (ak h2)<|cdF h3<|cdF h4<|cdF h5<|cdF h6<|cdF h7<|cdT h8<|ay h9<|ay h10 rfl)))<|λh10=>(an (aN 4<|ac (ak h10)<|cA (xP<|ae g.kids 0) (hf _<|ai oaa)<|aN 2<|ac (gU g.kids 0)<|aN 2<|ac h9<|aN 6<|cA (CW g.op) (show g.op=5 by omega) a0)<|bE<|q9.trans<|ay h9<|aT h10)))<|λh9=>have l1:=aF gC (g.kids);have g9:=afT h9;
 (an (aN 9<|ac (ak h9)<|aN 6<|cA (CW g.op) (show g.op=5 by omega) a0)<|bE<|q9.trans<|aT h9)))<|λh8=>have q10:=q8.trans (cdF h8 rfl);have g8:=afT h8;
 (aO (λ(h9:(g.op==6)=true)=>have q11:=q10.trans (cdT h9 rfl);have g9:=eq_of_beq h9;
 (aO (λ(h10:(zBA g)=true)=>have l1:=aF gC (g.kids);have g10:=eq_of_beq h10;
 (aO (λ(h11:(eV<|ae g.kids 0)=true)=>(an (cA (xP<|ae g.kids 1) (hf _<|ai oaa)<|aN 2<|ac (gU g.kids 1)<|aN 2<|ac h11<|cA (xP<|ae g.kids 0) (hf _<|ai oaa)<|aN 2<|ac (gU g.kids 0)<|aN 2<|ac h10<|aN 6<|cA (CX g.op) (show g.op=6 by omega) a0)<|bE<|show rq g=(eV<|ae g.kids 1)from(ay (ak h0)<|cdT h1<|ay (ak h2)<|cdF h3<|cdF h4<|cdF h5<|cdF h6<|cdF h7<|cdF h8<|cdT h9<|ay h10<|ay h11 rfl)))<|λh11=>(an (aN 4<|ac (ak h11)<|cA (xP<|ae g.kids 0) (hf _<|ai oaa)<|aN 2<|ac (gU g.kids 0)<|aN 2<|ac h10<|aN 6<|cA (CX g.op) (show g.op=6 by omega) a0)<|bE<|q11.trans<|ay h10<|aT h11)))<|λh10=>have l1:=aF gC (g.kids);have g10:=afT h10;
 (an (aN 9<|ac (ak h10)<|aN 6<|cA (CX g.op) (show g.op=6 by omega) a0)<|bE<|q11.trans<|aT h10)))<|λh9=>have q12:=q10.trans (cdF h9 rfl);have g9:=afT h9;
 (aO (λ(h10:(g.op==7)=true)=>have q13:=q12.trans (ay h10 rfl);have g10:=eq_of_beq h10;
 (aO (λ(h11:(zBA g)=true)=>have l1:=aF gC (g.kids);have g11:=eq_of_beq h11;
 (aO (λ(h12:(eV<|ae g.kids 0)=true)=>(an (cA (xP<|ae g.kids 1) (hf _<|ai oaa)<|aN 2<|ac (gU g.kids 1)<|aN 2<|ac h12<|cA (xP<|ae g.kids 0) (hf _<|ai oaa)<|aN 2<|ac (gU g.kids 0)<|aN 2<|ac h11<|aN 6<|cA (CY g.op) (show g.op=7 by omega) a0)<|bE<|show rq g=(eV<|ae g.kids 1)from(ay (ak h0)<|cdT h1<|ay (ak h2)<|cdF h3<|cdF h4<|cdF h5<|cdF h6<|cdF h7<|cdF h8<|cdF h9<|ay h10<|ay h11<|ay h12 rfl)))<|λh12=>(an (aN 4<|ac (ak h12)<|cA (xP<|ae g.kids 0) (hf _<|ai oaa)<|aN 2<|ac (gU g.kids 0)<|aN 2<|ac h11<|aN 6<|cA (CY g.op) (show g.op=7 by omega) a0)<|bE<|q13.trans<|ay h11<|aT h12)))<|λh11=>have l1:=aF gC (g.kids);have g11:=afT h11;
 (an (aN 9<|ac (ak h11)<|aN 6<|cA (CY g.op) (show g.op=7 by omega) a0)<|bE<|q13.trans<|aT h11)))<|λh10=>have g10:=afT h10;
 (an (aN 15<|cA (Rh g.op) (show¬(5<=g.op/\g.op<=7)/\g.op<=127 by omega) a0)<|bE<|q12.trans<|aT h10)))))))))))<|λh1=>have q2:=q0.trans (cdF h1 rfl);
 (an (aN 3<|ac (ak h1)<|aN 4<|ac (ak h0)<|a1 a0)<|an a0<|an a0<|an (aN 3<|ac (ak<|show(g.op==0)=false by rw[cE h1];rfl)<|a1 a0)<|an (show(g.op==1)=false by rw[cE h1];rfl)<|an (a1 a0)<|an (show(g.op==8)=true by rw[cE h1];rfl)<|aO (λ(h2:(zAW g)=true)=>(aO (λ(h3:(zCR g)=true)=>(an (aN 3<|ac h3<|aN 3<|ac h2<|a1 a0)<|bE<|show rq g=(zCG g)from(ay (ak h0)<|cdF h1<|ay h2<|ay h3 rfl)))<|λh3=>(an (aN 2<|ac (ak h3)<|aN 3<|ac h2<|a1 a0)<|bE<|q2.trans<|ay h2<|aT h3)))<|λh2=>(an (aN 5<|ac (ak h2)<|a1 a0)<|bE<|q2.trans<|aT h2)))) (hc:=(aK (.cons (KN g.kids 0 hK) rfl<|.cons (Rc ls hK) rfl<|.cons (CW g.op) rfl<|.cons (xP<|ae g.kids 0) rfl<|.cons (xP<|ae g.kids 1) rfl<|.cons (CX g.op) rfl<|.cons (CY g.op) rfl<|.cons (Rh g.op) rfl bB.nil) aC))
end Go.Proofs.YtfkjfjalecikkaaGreatDoor
end
